/- The walk of AdmitFits: it answers true, whatever it is given. -/
import Derived.Test.YtdjnjfmdmcfamaaFitsL
import Derived.Deep.RegionLaw
import Derived.Deep.RegionHeldLaw
import Derived.Deep.DeepCutAuto
import Derived.Deep.CutBlock
namespace Go.Proofs.Ytdjnjfmdmcfamaa
open Go.RowKit

structure ActA where
  kind : Int
  who : Int
  b : Int
  p : Int
  n : Int
def ActA.cells (a : ActA) : List Value := [.int .i64 a.kind, .int .i64 a.who, .int .i64 a.b, .int .i64 a.p, .int .i64 a.n]

theorem Rd.actA {w : World} {A : Option Addr} {l : List ActA} (h : Rd w A (l.flatMap ActA.cells)) {k : Nat} {t : ActA} (ht : l[k]? = some t) :
    ∃ g o, A = some ⟨g, o, none⟩ ∧ w.cell? ⟨g, o + k * 5, none⟩ = some (.int .i64 t.kind) ∧ w.cell? ⟨g, o + k * 5 + 1, none⟩ = some (.int .i64 t.who) ∧ w.cell? ⟨g, o + k * 5 + 2, none⟩ = some (.int .i64 t.b) ∧ w.cell? ⟨g, o + k * 5 + 3, none⟩ = some (.int .i64 t.p) ∧ w.cell? ⟨g, o + k * 5 + 4, none⟩ = some (.int .i64 t.n) := by
  have hne : l.flatMap ActA.cells ≠ [] := by
    intro e
    have h1 := flat_get ActA.cells 5 (fun _ => rfl) l k t ht 0 (by omega)
    rw [e] at h1; simp [ActA.cells] at h1
  obtain ⟨g, o, e, hc⟩ := h hne
  have key : ∀ j, j < 5 → ∀ u, t.cells[j]? = some u → w.cell? ⟨g, o + k * 5 + j, none⟩ = some u := fun j hj u hu => by
    have := hc (k * 5 + j) u (by rw [flat_get ActA.cells 5 (fun _ => rfl) l k t ht j hj]; exact hu)
    rwa [← Nat.add_assoc] at this
  exact ⟨g, o, e, key 0 (by omega) _ rfl, key 1 (by omega) _ rfl, key 2 (by omega) _ rfl, key 3 (by omega) _ rfl, key 4 (by omega) _ rfl⟩

theorem elemInt : Elem Try.prog 30 3 1 8 := Elem.of (z := .int .i64 0) Try.underlying30 (by kernel_rfl) rfl (by decide)
theorem elemRes : Elem Try.prog 31 33 2 16 := Elem.of (z := .agg #[.int .i64 0, .int .i64 0]) Try.underlying31 (by kernel_rfl) rfl (by decide)

abbrev fitT : List TypeId := [3, 33]
abbrev whos (V : List (Int × (Int × Int))) : List Value := V.map (fun x => Value.int .i64 x.1)
abbrev ress (V : List (Int × (Int × Int))) : List Value := (V.map Prod.snd).flatMap rsCells

theorem whos_len (V : List (Int × (Int × Int))) : (whos V).length = V.length := by simp
theorem whos_one (V : List (Int × (Int × Int))) : ∀ u, u ∈ whos V → u.oneCell' = true := fun u hu => by
  obtain ⟨x, _, rfl⟩ := List.mem_map.1 hu
  rfl
theorem whos_take {V : List (Int × (Int × Int))} {n j : Nat} (hn : V.length = n) (hj : j ≤ n) : ((whos V).take j).length = j * 1 := by simp; omega
theorem whos_drop {V : List (Int × (Int × Int))} {n j : Nat} (hn : V.length = n) : ((whos V).drop j).length = (n - j) * 1 := by simp; omega
theorem whos_cut {L R : List (Int × (Int × Int))} {x : Int × (Int × Int)} {j : Nat} (hj : j = L.length) : ([] ++ (whos (L ++ x :: R)).take j) ++ (whos (L ++ x :: R)).drop (j + 1) = whos (L ++ R) := by
  subst hj
  simp [List.drop_append]
theorem cut_len {L R : List (Int × (Int × Int))} {n j : Nat} (hj : j = L.length) (hn : n = L.length + 1 + R.length) : 0 + j + (n - (j + 1)) = (L ++ R).length := by
  subst hj; simp; omega
theorem ress_len (V : List (Int × (Int × Int))) : (ress V).length = V.length * 2 := by unfold ress; rw [flat_len rsCells 2 (fun _ => rfl)]; simp
theorem ress_one (V : List (Int × (Int × Int))) : ∀ u, u ∈ ress V → u.oneCell' = true := fun u hu => by
  obtain ⟨x, _, hx⟩ := List.mem_flatMap.1 hu
  simp [rsCells] at hx
  rcases hx with rfl | rfl <;> rfl
theorem ress_take {V : List (Int × (Int × Int))} {n j : Nat} (hn : V.length = n) (hj : j ≤ n) : ((ress V).take (j * 2)).length = j * 2 := by rw [List.length_take, ress_len]; omega
theorem ress_drop {V : List (Int × (Int × Int))} {n j : Nat} (hn : V.length = n) : ((ress V).drop (j * 2)).length = (n - j) * 2 := by rw [List.length_drop, ress_len]; omega
theorem ress_cut {L R : List (Int × (Int × Int))} {x : Int × (Int × Int)} {j : Nat} (hj : j = L.length) : ([] ++ (ress (L ++ x :: R)).take (j * 2)) ++ (ress (L ++ x :: R)).drop ((j + 1) * 2) = ress (L ++ R) := by
  subst hj
  have h1 : ress (L ++ x :: R) = ress L ++ (rsCells x.2 ++ ress R) := by simp [ress]
  have h2 : ress (L ++ R) = ress L ++ ress R := by simp [ress]
  have hl := ress_len L
  rw [h1, h2, List.nil_append, ← hl, List.take_left]
  congr 1
  rw [Nat.add_mul, ← hl, List.drop_append, List.drop_eq_nil_of_le (by omega), List.nil_append, show (ress L).length + 1 * 2 - (ress L).length = 2 by omega]
  simp [rsCells]
/-- What is behind place i of a row, as the walk spells its address. -/
theorem Rd.tail {w : World} {T : TypeId} {g i sz cap o : Nat} {xs : List Value} (h : RdT w T (some ⟨g, 0, none⟩) xs) (hc : xs.length ≤ cap * sz) (hi : i ≤ cap) {A : Option Addr} (hA : A = if cap = i then some ⟨g, 0, none⟩ else some ⟨g, o, none⟩) (ho : o = i * sz) : Rd w A (xs.drop (i * sz)) := by
  subst hA ho
  by_cases hci : cap = i
  · subst hci
    rw [List.drop_eq_nil_of_le hc]
    exact Rd.nil _ _
  · rw [if_neg hci]
    have := (h.part (i * sz) xs.length).rd
    rw [List.take_of_length_le (by simp)] at this
    simp only [Option.map_some, Addr.add, Nat.zero_add] at this
    by_cases h0 : i * sz = 0
    · rw [if_pos h0] at this; rw [h0] at this ⊢; exact this
    · rw [if_neg h0] at this; exact this

set_option maxRecDepth 100000 in
set_option maxHeartbeats 30000000 in
theorem lawAdmitFits (A : Option Addr) (len cap : Nat) (l : List ActA) (hn : len = l.length) (_hm : len ≤ 9223372036854775807) (hwf : ∀ a, a ∈ l → (Lit.int .i64 a.who).wf = true) (w : World) (H : Rd w A (l.flatMap ActA.cells)) :
    Calls Try.prog 3 #[.slice A len cap] w fun e w' => e = .returned (.bool true) ∧ Upd No w w' := by
  have HN := Lib.hid hn
  have HWF := Lib.hid hwf
  clear hn hwf
  go_enter Try.func3, Try.ntmps3
  go_wp2_with fail
  refine (lawAwake w).mono ?_
  rintro e w1 ⟨rfl, hu1⟩
  go_wp2_with fail
  have hB0 := bookEmpty w1 w1.heap.size w.heap.size rfl hu1.size
  have hu2 : Upd No w (w1.alloc (.cells #[.int .i64 0, .int .u64 0, .map none, .slice none 0 0] 29)) := (by repeat (first | with_reducible assumption | exact Upd.refl _ _ | (refine Upd.setNew ?_ (by first | (simp; done) | (simp; omega)) _) | (refine Upd.alloc ?_ _) | (refine Upd.drewN ?_ _) | (refine Upd.drew ?_) | (refine Upd.trans ?_ (by with_reducible assumption))))
  have HB0 := Lib.hid hB0
  clear hB0
  generalize hb : w1.heap.size = b
  rw [hb] at HB0
  clear hb
  go_loopw [4, 5, 6] (fun v4 v5 i wr => ∃ (k : Nat) (B : Bk) (V : List (Int × (Int × Int))), k ≤ len ∧ k ≤ 40 ∧ i = .int .i64 k ∧ Upd No w wr ∧ Bok wr w.heap.size b k B ∧ B.p.length ≤ k ∧ V.length ≤ k ∧ FitInv B V ∧ wr.ownsRow w.heap.size 3 1 v4 V.length (whos V) ∧ wr.ownsRow w.heap.size 33 2 v5 V.length (ress V)) (fun _ _ i _ => len - (intOf i).toNat)
  case atStart =>
    exact ⟨0, _, [], Nat.zero_le _, by omega, rfl, hu2, HB0.out, by simp, by simp, FitInv.start, World.ownsRow_nil _ _ _ _, World.ownsRow_nil _ _ _ _⟩
  case round =>
    clear hu2 hu1
    obtain ⟨k, B, V, hk, hk40, rfl, hu, hB, hpl, hvl, hinv, ho4, ho5⟩ := hrel
    have hsz := hu.size
    by_cases hend : len ≤ k ∨ 40 ≤ k
    · by_cases hlk : k < len
      · have hk9 : 40 ≤ k := by omega
        clear hend
        go_wp2_with (go_at_call 5; refine (lawAwake _).mono ?_; rintro e w9 ⟨rfl, hu9⟩)
        go_ret
        exact ⟨rfl, hu.trans hu9⟩
      · clear hend
        go_wp2_with (go_at_call 5; refine (lawAwake _).mono ?_; rintro e w9 ⟨rfl, hu9⟩)
        go_ret
        exact ⟨rfl, hu.trans hu9⟩
    have hlt : k < len := by omega
    have hlt9 : k < 40 := by omega
    clear hend
    obtain ⟨t, ht⟩ : ∃ t, l[k]? = some t := ⟨l[k]'(by rw [← HN.out]; exact hlt), List.getElem?_eq_getElem _⟩
    have htw := HWF.out t (List.mem_iff_getElem?.2 ⟨k, ht⟩)
    obtain ⟨ga, o, rfl, c0, c1, c2, c3, c4⟩ := (H.upd hu).actA ht
    clear ht
    have hub : Upd No wr (wr.alloc (.cells #[.int .i64 t.kind, .int .i64 t.who, .int .i64 t.b, .int .i64 t.p, .int .i64 t.n] 35)) := (by repeat (first | with_reducible assumption | exact Upd.refl _ _ | (refine Upd.setNew ?_ (by first | (simp; done) | (simp; omega)) _) | (refine Upd.alloc ?_ _) | (refine Upd.drewN ?_ _) | (refine Upd.drew ?_) | (refine Upd.trans ?_ (by with_reducible assumption))))
    have hubw : Upd No w (wr.alloc (.cells #[.int .i64 t.kind, .int .i64 t.who, .int .i64 t.b, .int .i64 t.p, .int .i64 t.n] 35)) := (by repeat (first | with_reducible assumption | exact Upd.refl _ _ | (refine Upd.setNew ?_ (by first | (simp; done) | (simp; omega)) _) | (refine Upd.alloc ?_ _) | (refine Upd.drewN ?_ _) | (refine Upd.drew ?_) | (refine Upd.trans ?_ (by with_reducible assumption))))
    have hbox : Row (wr.alloc (.cells #[.int .i64 t.kind, .int .i64 t.who, .int .i64 t.b, .int .i64 t.p, .int .i64 t.n] 35)) wr.heap.size 35 [.int .i64 t.kind, .int .i64 t.who, .int .i64 t.b, .int .i64 t.p, .int .i64 t.n] := Row.newAt _ _ _ _ rfl
    have hBb := hB.updNo hub
    have ho4b := own_updNo ho4 hub
    have ho5b := own_updNo ho5 hub
    have HBX := Lib.hid hbox
    have HBB := Lib.hid hBb
    have HO4 := Lib.hid ho4b
    have HO5 := Lib.hid ho5b
    clear hB ho4 ho5 hbox hBb ho4b ho5b
    by_cases k1 : t.kind = 1
    · have q1 : (t.kind == 1) = true := by simp [k1]
      clear k1
      by_cases hz : (releaseB B t.who t.n).2 = 0
      · have qz : ((releaseB B t.who t.n).2 != 0) = false := by simp [hz]
        obtain ⟨L, x, R, hV, hxw, hL, hR, hinv'⟩ := hinv.release hz
        have HZ := Lib.hid hz
        clear hz
        subst hV
        go_wp2_with (go_at_call 6; refine (bookRelease HBB.out hinv.ok (by omega) t.who t.n htw).mono ?_; rintro e w3 ⟨rfl, hB3, hm3⟩
                     have hbx3 := HBX.out.mv hm3 (by decide)
                     have d1 := hbx3.cell (i := 1) rfl)
        have hp3 := release_p B t.who t.n
        have hu3 : Upd No w w3 := hm3.over hubw (Nat.le_refl _)
        have ho43 := own_mv HO4.out hm3 (by decide)
        have ho53 := own_mv HO5.out hm3 (by decide)
        have HIN := Lib.hid hinv'
        have HL := Lib.hid hL
        have HRR := Lib.hid hR
        clear hinv hinv' hL hR
        go_loopw [4, 5, 8] (fun v4 v5 kk wx => ∃ (j : Nat) (V : List (Int × (Int × Int))), kk = .int .i64 j ∧ j ≤ L.length + 1 + R.length ∧ ((j ≤ L.length ∧ V = L ++ x :: R) ∨ (L.length < j ∧ V = L ++ R)) ∧ Upd No w3 wx ∧ wx.ownsRow w.heap.size 3 1 v4 V.length (whos V) ∧ wx.ownsRow w.heap.size 33 2 v5 V.length (ress V)) (fun _ _ kk _ => L.length + 2 + R.length - (intOf kk).toNat)
        case atStart => exact ⟨0, _, rfl, by omega, .inl ⟨Nat.zero_le _, rfl⟩, Upd.refl _ _, ho43, ho53⟩
        case round =>
          clear ho43 ho53 d1
          obtain ⟨j, V, rfl, hj, hcase, hmx, ho4, ho5⟩ := hrel
          have hbxx := hbx3.updNo hmx
          have d1 := hbxx.cell (i := 1) rfl
          rcases hcase with ⟨hjL, rfl⟩ | ⟨hjL, rfl⟩
          · have hlen : (L ++ x :: R).length = L.length + 1 + R.length := by simp; omega
            have hjlen : j < (L ++ x :: R).length := by omega
            have hl40 : (L ++ x :: R).length ≤ 40 := by omega
            obtain ⟨n, hn⟩ : ∃ n, (L ++ x :: R).length = n := ⟨_, rfl⟩
            rw [hn] at ho4 ho5 hjlen hl40
            have HLN := Lib.hid hlen
            have HNN := Lib.hid hn
            have hnj : n = L.length + 1 + R.length := by omega
            clear hlen hn
            obtain ⟨g4, cap4, rfl, hc4, hc4m, hg4, r4, f4⟩ := own_form ho4 (by omega)
            obtain ⟨g5, cap5, rfl, hc5, hc5m, hg5, r5, f5⟩ := own_form ho5 (by omega)
            by_cases hjl : j < L.length
            · obtain ⟨y, hy⟩ : ∃ y, L[j]? = some y := ⟨L[j]'hjl, List.getElem?_eq_getElem _⟩
              have hne := HL.out y (List.mem_iff_getElem?.2 ⟨j, hy⟩)
              have e4 : wr.cell? ⟨g4, j, none⟩ = some (.int .i64 y.1) := by
                rcases r4 j with h | h
                · rw [h, List.getElem?_map, List.getElem?_append_left hjl, hy]; rfl
                · simp at h; omega
              clear hnj
              have qy : (y.1 == t.who) = false := by simp [hne]
              have HR4 := Lib.hid r4
              have HR5 := Lib.hid r5
              have HQ := Lib.hid hne
              clear r4 r5 hy hne
              go_wp2_with fail
              go_quiet (fail)
              go_wp2
              go_roundw
              case rel => exact ⟨j + 1, L ++ x :: R, by go_num, by omega, .inl ⟨by omega, rfl⟩, hmx.drewN _, own_updNo (by rw [HNN.out]; exact ho4) ((Upd.refl No _).drewN _), own_updNo (by rw [HNN.out]; exact ho5) ((Upd.refl No _).drewN _)⟩
              case measure => simp [intOf]; omega
            · have ej : j = L.length := by omega
              have e4 : wr.cell? ⟨g4, j, none⟩ = some (.int .i64 x.1) := by
                rcases r4 j with h | h
                · rw [h, List.getElem?_map, ej, List.getElem?_append_right (by omega)]; simp
                · simp at h; omega
              rw [hxw] at e4
              have EJ := Lib.hid ej
              have HNJ := Lib.hid hnj
              clear hnj ej hjL hjl
              have HR4 := Lib.hid r4
              have HR5 := Lib.hid r5
              have hrd4 : RdT wr 3 (some ⟨g4, 0, none⟩) (whos (L ++ x :: R)) := by
                obtain ⟨A, c, e, _, _, h⟩ := own_read ho4
                cases e; exact h
              have hrd5 : RdT wr 33 (some ⟨g5, 0, none⟩) (ress (L ++ x :: R)) := by
                obtain ⟨A, c, e, _, _, h⟩ := own_read ho5
                cases e; exact h
              have HO5' := Lib.hid ho5
              have y1 : j ≤ cap4 := by omega
              have y2 : (j : Int) ≤ (cap4 : Int) := by omega
              have y3 : (j : Int) + 1 ≤ (n : Int) := by omega
              have y4 : (0 : Int) ≤ (j : Int) + 1 := by omega
              have yw : IntKind.i64.wrap ((j : Int) + 1) = (j : Int) + 1 := IntWalk.i64_in _ (by omega)
              have yt : ((j : Int) + 1).toNat = j + 1 := by omega
              have y5 : j ≤ cap5 := by omega
              have y6 : (j : Int) ≤ (cap5 : Int) := by omega
              clear r4 r5 ho4 ho5
              go_wp2_with fail
              go_quiet (fail)
              go_upto_region 19 with fail
              generalize hwq : wr.drewN nq = wq
              have huq : Upd No wr wq := by rw [← hwq]; exact (Upd.refl No wr).drewN _
              clear hwq
              have hsq := huq.size
              go_cut [4] (fun v4 wx => Upd No wr wx ∧ wx.ownsRow w.heap.size 3 1 v4 (L ++ R).length (whos (L ++ R)))
              case first =>
                go_region_law (first
                  | (refine wp_app (.tmp 75) (.tmp 78) elemInt rfl (base := wr.heap.size) (n := 0) (xs := []) rfl (own_updNo (own_lit wq _ 1 0 [] wq.heap.size rfl ?h2 rfl ?h3) (by repeat (first | with_reducible assumption | exact Upd.refl _ _ | (refine Upd.setNew ?_ (by first | (simp; done) | (simp; omega)) _) | (refine Upd.alloc ?_ _) | (refine Upd.drewN ?_ _) | (refine Upd.drew ?_) | (refine Upd.trans ?_ (by with_reducible assumption))))) rfl (ys := (whos (L ++ x :: R)).take j) ?h4 ?h5 ?h6 ?h7 ?h8 ?h9 ?_
                     case h2 => omega
                     case h3 => omega
                     case h4 => exact whos_take HNN.out (by omega)
                     case h5 => exact ((hrd4.take j).updNo (by repeat (first | with_reducible assumption | exact Upd.refl _ _ | (refine Upd.setNew ?_ (by first | (simp; done) | (simp; omega)) _) | (refine Upd.alloc ?_ _) | (refine Upd.drewN ?_ _) | (refine Upd.drew ?_) | (refine Upd.trans ?_ (by with_reducible assumption))))).rd
                     case h6 => exact fun u hu => whos_one _ u (List.mem_of_mem_take hu)
                     case h7 => omega
                     case h8 => omega
                     case h9 => simp; omega
                     intro v1 w1 hown1 hgr1
                     have hn1 : Upd No wr w1 := Upd.grown (by repeat (first | with_reducible assumption | exact Upd.refl _ _ | (refine Upd.setNew ?_ (by first | (simp; done) | (simp; omega)) _) | (refine Upd.alloc ?_ _) | (refine Upd.drewN ?_ _) | (refine Upd.drew ?_) | (refine Upd.trans ?_ (by with_reducible assumption)))) hgr1 (fun k e hlt => by have e' : some wq.heap.size = some k := e; injection e' with e'; omega))
                  | (refine wp_app (.tmp 79) (.tmp 83) elemInt rfl rfl hown1 rfl (ys := (whos (L ++ x :: R)).drop (j + 1)) ?h4 ?h5 ?h6 ?h7 ?h8 ?h9 ?_
                     case h4 => exact whos_drop HNN.out
                     case h5 =>
                       have h9 := Rd.tail (i := j + 1) (sz := 1) (cap := cap4) (o := j + 1) (hrd4.updNo hn1) (by rw [whos_len, HNN.out]; omega) (by omega) rfl (by omega)
                       rw [Nat.mul_one] at h9; exact h9
                     case h6 => exact fun u hu => whos_one _ u (List.mem_of_mem_drop hu)
                     case h7 => omega
                     case h8 => omega
                     case h9 => have := hn1.size; omega
                     intro v2 w2 hown2 hgr2
                     have hn2 : Upd No wr w2 := hn1.grown hgr2 (fun k e hlt => by have := own_new hown1 k e; omega)
                     generalize (if cap4 = j + 1 then some (⟨g4, 0, none⟩ : Addr) else some ⟨g4, j + 1, none⟩) = A83))
                all_goals (go_wp2_with fail; go_meet; exact ⟨hn2, own_base (own_same hown2 (whos_cut EJ.out) (cut_len EJ.out HNJ.out)) (by have := hu3.size; have := hmx.size; omega)⟩)
              case rest =>
                obtain ⟨hnc, hown4⟩ := hcut
                clear huq hsq
                have hsq := hnc.size
                have hrd5 := hrd5.updNo hnc
                have qr : (R.length : Int) = (n : Int) - (j : Int) - 1 := by have := EJ.out; have := HNJ.out; omega
                clear qr
                go_upto_region 20 with fail
                go_region_law (first
                  | (refine wp_app (.tmp 85) (.tmp 88) elemRes rfl (base := wc.heap.size) (n := 0) (xs := []) rfl (own_updNo (own_lit wc _ 2 0 [] wc.heap.size rfl ?h2 rfl ?h3) (by repeat (first | with_reducible assumption | exact Upd.refl _ _ | (refine Upd.setNew ?_ (by first | (simp; done) | (simp; omega)) _) | (refine Upd.alloc ?_ _) | (refine Upd.drewN ?_ _) | (refine Upd.drew ?_) | (refine Upd.trans ?_ (by with_reducible assumption))))) rfl (ys := (ress (L ++ x :: R)).take (j * 2)) ?h4 ?h5 ?h6 ?h7 ?h8 ?h9 ?_
                     case h2 => omega
                     case h3 => omega
                     case h4 => exact ress_take HNN.out (by omega)
                     case h5 => exact ((hrd5.take (j * 2)).updNo (by repeat (first | with_reducible assumption | exact Upd.refl _ _ | (refine Upd.setNew ?_ (by first | (simp; done) | (simp; omega)) _) | (refine Upd.alloc ?_ _) | (refine Upd.drewN ?_ _) | (refine Upd.drew ?_) | (refine Upd.trans ?_ (by with_reducible assumption))))).rd
                     case h6 => exact fun u hu => ress_one _ u (List.mem_of_mem_take hu)
                     case h7 => omega
                     case h8 => omega
                     case h9 => simp
                     intro v1 w1 hown1 hgr1
                     have hn1 : Upd No wc w1 := Upd.grown (by repeat (first | with_reducible assumption | exact Upd.refl _ _ | (refine Upd.setNew ?_ (by first | (simp; done) | (simp; omega)) _) | (refine Upd.alloc ?_ _) | (refine Upd.drewN ?_ _) | (refine Upd.drew ?_) | (refine Upd.trans ?_ (by with_reducible assumption)))) hgr1 (fun k e hlt => by have e' : some wc.heap.size = some k := e; injection e' with e'; omega))
                  | (refine wp_app (.tmp 89) (.tmp 93) elemRes rfl rfl hown1 rfl (ys := (ress (L ++ x :: R)).drop ((j + 1) * 2)) ?h4 ?h5 ?h6 ?h7 ?h8 ?h9 ?_
                     case h4 => exact ress_drop HNN.out
                     case h5 => exact Rd.tail (i := j + 1) (sz := 2) (cap := cap5) (o := (j + 1) * 2) (hrd5.updNo hn1) (by rw [ress_len, HNN.out]; omega) (by omega) rfl rfl
                     case h6 => exact fun u hu => ress_one _ u (List.mem_of_mem_drop hu)
                     case h7 => omega
                     case h8 => omega
                     case h9 => have := hn1.size; omega
                     intro v2 w2 hown2 hgr2
                     have hn2 : Upd No wc w2 := hn1.grown hgr2 (fun k e hlt => by have := own_new hown1 k e; omega)
                     generalize (if cap5 = j + 1 then some (⟨g5, 0, none⟩ : Addr) else some ⟨g5, (j + 1) * 2, none⟩) = A93))
                go_wp2_with fail
                go_roundw
                case rel => exact ⟨j + 1, L ++ R, by go_num, by have := EJ.out; omega, .inr ⟨by have := EJ.out; omega, rfl⟩, (hmx.trans hnc).trans hn2, own_updNo hown4 hn2, own_base (own_same hown2 (ress_cut EJ.out) (cut_len EJ.out HNJ.out)) (by have := hu3.size; have := hmx.size; omega)⟩
                case measure => have := EJ.out; simp [intOf]; omega
          · have hl40 : (L ++ R).length ≤ 40 := by simp at hvl ⊢; omega
            obtain ⟨n, hn⟩ : ∃ n, (L ++ R).length = n := ⟨_, rfl⟩
            have hnl : n = L.length + R.length := by rw [← hn]; simp
            rw [hn] at ho4 ho5 hl40
            have HNN := Lib.hid hn
            have HNL := Lib.hid hnl
            clear hn
            by_cases hjn : j < n
            · obtain ⟨g4, cap4, rfl, hc4, hc4m, hg4, r4, f4⟩ := own_form ho4 (by omega)
              obtain ⟨g5, cap5, rfl, hc5, hc5m, hg5, r5, f5⟩ := own_form ho5 (by omega)
              obtain ⟨y, hy⟩ : ∃ y, R[j - L.length]? = some y := ⟨R[j - L.length]'(by omega), List.getElem?_eq_getElem _⟩
              have hne := HRR.out y (List.mem_iff_getElem?.2 ⟨_, hy⟩)
              have e4 : wr.cell? ⟨g4, j, none⟩ = some (.int .i64 y.1) := by
                rcases r4 j with h | h
                · rw [h, List.getElem?_map, List.getElem?_append_right (by omega), hy]; rfl
                · simp at h; omega
              clear hnl
              have qy : (y.1 == t.who) = false := by simp [hne]
              have HR4 := Lib.hid r4
              have HR5 := Lib.hid r5
              have HQ := Lib.hid hne
              clear r4 r5 hy hne
              go_wp2_with fail
              go_quiet (fail)
              go_wp2
              go_roundw
              case rel => exact ⟨j + 1, L ++ R, by go_num, by have := HNL.out; omega, .inr ⟨by omega, rfl⟩, hmx.drewN _, own_updNo (by rw [HNN.out]; exact ho4) ((Upd.refl No _).drewN _), own_updNo (by rw [HNN.out]; exact ho5) ((Upd.refl No _).drewN _)⟩
              case measure => have := HNL.out; simp [intOf]; omega
            · obtain ⟨A4, cap4, rfl, hc4, hc4m, hrd4⟩ := own_read ho4
              obtain ⟨A5, cap5, rfl, hc5, hc5m, hrd5⟩ := own_read ho5
              clear hnl
              go_wp2_with (go_at_call 10; refine (lawFits A5 n cap5 ((L ++ R).map Prod.snd) (by rw [List.length_map]; exact HNN.out.symm) (by omega) HIN.out.rs HIN.out.fits _ hrd5.rd).mono ?_; rintro e w6 ⟨rfl, hu6⟩)
              go_roundw
              case rel =>
                have hu36 := hmx.trans hu6
                exact ⟨k + 1, _, L ++ R, by omega, by omega, by go_num, hu3.trans hu36, (hB3.updNo hu36).more, by omega, by rw [HNN.out]; simp at hvl; have := HNL.out; omega, HIN.out, own_updNo (by rw [HNN.out]; exact ho4) hu6, own_updNo (by rw [HNN.out]; exact ho5) hu6⟩
              case measure => simp [intOf]; omega
      · have qz : ((releaseB B t.who t.n).2 != 0) = true := by simp [hz]
        have hno := release_no hz
        have HNO := Lib.hid hno
        clear hz hno
        go_wp2_with (go_at_call 6; refine (bookRelease HBB.out hinv.ok (by omega) t.who t.n htw).mono ?_; rintro e w3 ⟨rfl, hB3, hm3⟩)
        go_roundw
        case rel => exact ⟨k + 1, B, V, by omega, by omega, by go_num, hm3.over hubw (Nat.le_refl _), by have h := hB3.more; rw [HNO.out] at h; exact h, by omega, by omega, hinv, own_mv HO4.out hm3 (by decide), own_mv HO5.out hm3 (by decide)⟩
        case measure => simp [intOf]; omega
    have q1 : (t.kind == 1) = false := by simp [k1]
    clear k1
    obtain ⟨n, hn⟩ : ∃ n, V.length = n := ⟨_, rfl⟩
    rw [hn] at hvl
    have HNN := Lib.hid hn
    by_cases k2 : t.kind = 2
    · have q2 : (t.kind == 2) = true := by simp [k2]
      clear k2
      have hp3 := advance_p B t.n
      have hinv' := hinv.advance t.n
      go_wp2_with (first
        | (go_at_call 7; refine (bookAdvance HBB.out hinv.ok (by omega) t.n).mono ?_; rintro e w3 ⟨rfl, hB3, hm3⟩
           have ho4 := own_mv HO4.out hm3 (by decide)
           have ho5 := own_mv HO5.out hm3 (by decide)
           rw [HNN.out] at ho4 ho5
           obtain ⟨A5, cap5, rfl, hc5, hc5m, hrd5⟩ := own_read ho5)
        | (go_at_call 10; refine (lawFits A5 n cap5 (V.map Prod.snd) (by rw [List.length_map]; exact HNN.out.symm) (by omega) hinv.rs hinv.fits _ hrd5.rd).mono ?_; rintro e w6 ⟨rfl, hu6⟩))
      go_roundw
      case rel => exact ⟨k + 1, _, V, by omega, by omega, by go_num, (hm3.over hubw (Nat.le_refl _)).trans hu6, (hB3.updNo hu6).more, by omega, by rw [HNN.out]; omega, hinv', by rw [HNN.out]; exact own_updNo ho4 hu6, by rw [HNN.out]; exact own_updNo ho5 hu6⟩
      case measure => simp [intOf]; omega
    have q2 : (t.kind == 2) = false := by simp [k2]
    clear k2
    have hp3 := admit_p B t.who t.b t.p
    have hpl3 : (admitB B t.who t.b t.p).1.p.length ≤ k := by rw [hp3]; exact hpl
    clear hp3
    have d0 := HBX.out.cell (i := 0) rfl
    have d1 := HBX.out.cell (i := 1) rfl
    have d2 := HBX.out.cell (i := 2) rfl
    have d3 := HBX.out.cell (i := 3) rfl
    go_upto_region 11 with fail
    go_cut [36] (fun s wx => s = .bool ((admitB B t.who t.b t.p).2 == 0) ∧ Bok wx w.heap.size b (k + 1) (admitB B t.who t.b t.p).1 ∧ Mv bookT w.heap.size (wr.alloc (.cells #[.int .i64 t.kind, .int .i64 t.who, .int .i64 t.b, .int .i64 t.p, .int .i64 t.n] 35)) wx)
    case first =>
      go_region_law (first
        | (go_simp; go_at_call 9; refine (lawTo t.b t.p _).mono ?_; rintro e w2 ⟨rfl, hu2⟩; have r2 := HBX.out.updNo (w' := w2) (by repeat (first | with_reducible assumption | exact Upd.refl _ _ | (refine Upd.setNew ?_ (by first | (simp; done) | (simp; omega)) _) | (refine Upd.alloc ?_ _) | (refine Upd.drewN ?_ _) | (refine Upd.drew ?_) | (refine Upd.trans ?_ (by with_reducible assumption)))); have z1 := r2.cell (i := 1) rfl)
        | (go_simp; go_at_call 8; refine (bookAdmit (HBB.out.updNo (by repeat (first | with_reducible assumption | exact Upd.refl _ _ | (refine Upd.setNew ?_ (by first | (simp; done) | (simp; omega)) _) | (refine Upd.alloc ?_ _) | (refine Upd.drewN ?_ _) | (refine Upd.drew ?_) | (refine Upd.trans ?_ (by with_reducible assumption))))) hinv.ok (by omega) t.who t.b t.p htw).mono ?_; rintro e w3 ⟨rfl, hB3, hm3⟩))
      all_goals (go_wp2_with fail; go_meet; exact ⟨rfl, hB3, Mv.trans (Mv.ofNo (by repeat (first | with_reducible assumption | exact Upd.refl _ _ | (refine Upd.setNew ?_ (by first | (simp; done) | (simp; omega)) _) | (refine Upd.alloc ?_ _) | (refine Upd.drewN ?_ _) | (refine Upd.drew ?_) | (refine Upd.trans ?_ (by with_reducible assumption))))) hm3⟩)
    case rest =>
    obtain ⟨rfl, hB3, hm3⟩ := hcut
    have hbx3 := HBX.out.mv hm3 (by decide)
    clear d0 d1 d2 d3
    have d1 := hbx3.cell (i := 1) rfl
    have d2 := hbx3.cell (i := 2) rfl
    have d3 := hbx3.cell (i := 3) rfl
    have hu3 : Upd No w wc := hm3.over hubw (Nat.le_refl _)
    have ho4 := own_mv HO4.out hm3 (by decide)
    have ho5 := own_mv HO5.out hm3 (by decide)
    rw [HNN.out] at ho4 ho5
    have hs3 := hu3.size
    by_cases hz : (admitB B t.who t.b t.p).2 = 0
    · have qz : ((admitB B t.who t.b t.p).2 == 0) = true := by simp [hz]
      have hinv' := hinv.admit hz
      clear hz
      go_wp2_with fail
      go_region_held_law (fun w' => w'.cell? ⟨wr.heap.size, 1, none⟩ = some (.int .i64 t.who) ∧ w'.cell? ⟨wr.heap.size, 2, none⟩ = some (.int .i64 t.b) ∧ w'.cell? ⟨wr.heap.size, 3, none⟩ = some (.int .i64 t.p))
        (refine ⟨(hbx3.mr (P := fitT) (base := w.heap.size) (by repeat (first | with_reducible assumption | with_reducible exact Mr.refl _ _ _ | with_reducible (refine Mr.alloc ?_ _) | with_reducible (refine Mr.drewN ?_ _) | with_reducible (refine Mr.drew ?_) | with_reducible (refine Mr.trans ?_ (by with_reducible assumption)))) (by decide)).cell (i := 1) rfl, (hbx3.mr (P := fitT) (base := w.heap.size) (by repeat (first | with_reducible assumption | with_reducible exact Mr.refl _ _ _ | with_reducible (refine Mr.alloc ?_ _) | with_reducible (refine Mr.drewN ?_ _) | with_reducible (refine Mr.drew ?_) | with_reducible (refine Mr.trans ?_ (by with_reducible assumption)))) (by decide)).cell (i := 2) rfl, (hbx3.mr (P := fitT) (base := w.heap.size) (by repeat (first | with_reducible assumption | with_reducible exact Mr.refl _ _ _ | with_reducible (refine Mr.alloc ?_ _) | with_reducible (refine Mr.drewN ?_ _) | with_reducible (refine Mr.drew ?_) | with_reducible (refine Mr.trans ?_ (by with_reducible assumption)))) (by decide)).cell (i := 3) rfl⟩)
        (first
        | (refine wp_app (.tmp 37) (.tmp 40) elemInt rfl rfl (own_mr ho4 (P := [33]) (base := w.heap.size) (by repeat (first | with_reducible assumption | with_reducible exact Mr.refl _ _ _ | with_reducible (refine Mr.alloc ?_ _) | with_reducible (refine Mr.drewN ?_ _) | with_reducible (refine Mr.drew ?_) | with_reducible (refine Mr.trans ?_ (by with_reducible assumption)))) (by decide)) rfl (ys := [.int .i64 t.who]) (m := 1) rfl ?h5 ?h6 ?h7 ?h8 ?h9 ?_
           case h5 => first | (refine Row.rd (T := 3) ?_; (repeat (first | with_reducible assumption | with_reducible (refine Row.drew ?_) | with_reducible (refine Row.drewN ?_ _) | (with_reducible (refine Row.newAt _ _ _ _ ?_); first | rfl | (simp; done)) | with_reducible (refine Row.alloc ?_ _))); done) | (refine Row.rd (T := 3) (Row.mr ?_ x46 (by decide)); (repeat (first | with_reducible assumption | with_reducible (refine Row.drew ?_) | with_reducible (refine Row.drewN ?_ _) | (with_reducible (refine Row.newAt _ _ _ _ ?_); first | rfl | (simp; done)) | with_reducible (refine Row.alloc ?_ _))); done)
           case h6 => simp [Value.oneCell']
           case h7 => omega
           case h8 => omega
           case h9 => first | (simp; omega) | (have := y46.size; simp at this ⊢; omega)
           intro v41 w41 h41 g41
           have x41 : Mr [3] w.heap.size _ w41 := Mr.app (Mr.refl _ _ _) (own_mr ho4 (P := [33]) (base := w.heap.size) (by repeat (first | with_reducible assumption | with_reducible exact Mr.refl _ _ _ | with_reducible (refine Mr.alloc ?_ _) | with_reducible (refine Mr.drewN ?_ _) | with_reducible (refine Mr.drew ?_) | with_reducible (refine Mr.trans ?_ (by with_reducible assumption)))) (by decide)) g41 (by decide) (Nat.le_refl _)
           have y41 : Mr fitT w.heap.size _ w41 := x41.more (by decide)
           have b41 : Row w41 _ _ _ := hbx3.mr (P := fitT) (base := w.heap.size) (by repeat (first | with_reducible assumption | with_reducible exact Mr.refl _ _ _ | with_reducible (refine Mr.alloc ?_ _) | with_reducible (refine Mr.drewN ?_ _) | with_reducible (refine Mr.drew ?_) | with_reducible (refine Mr.trans ?_ (by with_reducible assumption)))) (by decide)
           have b412 := b41.cell (i := 2) rfl
           have b413 := b41.cell (i := 3) rfl
           clear g41)
        | (refine wp_app (.tmp 42) (.tmp 45) elemRes rfl rfl (own_mr ho5 (P := [3]) (base := w.heap.size) (by repeat (first | with_reducible assumption | with_reducible exact Mr.refl _ _ _ | with_reducible (refine Mr.alloc ?_ _) | with_reducible (refine Mr.drewN ?_ _) | with_reducible (refine Mr.drew ?_) | with_reducible (refine Mr.trans ?_ (by with_reducible assumption)))) (by decide)) rfl (ys := [.int .i64 t.b, .int .i64 t.p]) (m := 1) rfl ?h5 ?h6 ?h7 ?h8 ?h9 ?_
           case h5 => first | (refine Row.rd (T := 33) ?_; (repeat (first | with_reducible assumption | with_reducible (refine Row.drew ?_) | with_reducible (refine Row.drewN ?_ _) | (with_reducible (refine Row.newAt _ _ _ _ ?_); first | rfl | (simp; done)) | with_reducible (refine Row.alloc ?_ _))); done) | (refine Row.rd (T := 33) (Row.mr ?_ x41 (by decide)); (repeat (first | with_reducible assumption | with_reducible (refine Row.drew ?_) | with_reducible (refine Row.drewN ?_ _) | (with_reducible (refine Row.newAt _ _ _ _ ?_); first | rfl | (simp; done)) | with_reducible (refine Row.alloc ?_ _))); done)
           case h6 => simp [Value.oneCell']
           case h7 => omega
           case h8 => omega
           case h9 => first | (simp; omega) | (have := y41.size; simp at this ⊢; omega)
           intro v46 w46 h46 g46
           have x46 : Mr [33] w.heap.size _ w46 := Mr.app (Mr.refl _ _ _) (own_mr ho5 (P := [3]) (base := w.heap.size) (by repeat (first | with_reducible assumption | with_reducible exact Mr.refl _ _ _ | with_reducible (refine Mr.alloc ?_ _) | with_reducible (refine Mr.drewN ?_ _) | with_reducible (refine Mr.drew ?_) | with_reducible (refine Mr.trans ?_ (by with_reducible assumption)))) (by decide)) g46 (by decide) (Nat.le_refl _)
           have y46 : Mr fitT w.heap.size _ w46 := x46.more (by decide)
           have b46 : Row w46 _ _ _ := hbx3.mr (P := fitT) (base := w.heap.size) (by repeat (first | with_reducible assumption | with_reducible exact Mr.refl _ _ _ | with_reducible (refine Mr.alloc ?_ _) | with_reducible (refine Mr.drewN ?_ _) | with_reducible (refine Mr.drew ?_) | with_reducible (refine Mr.trans ?_ (by with_reducible assumption)))) (by decide)
           have b461 := b46.cell (i := 1) rfl
           clear g46))
      all_goals (try go_simp)
      all_goals
        have z41 : w46.ownsRow w.heap.size 3 1 v41 (n + 1) (whos V ++ [.int .i64 t.who]) := own_mr h41 (P := [33]) (base := w.heap.size) (by repeat (first | with_reducible assumption | with_reducible exact Mr.refl _ _ _ | with_reducible (refine Mr.alloc ?_ _) | with_reducible (refine Mr.drewN ?_ _) | with_reducible (refine Mr.drew ?_) | with_reducible (refine Mr.trans ?_ (by with_reducible assumption)))) (by decide)
        have m46 : Mr fitT w.heap.size wc w46 := (by repeat (first | with_reducible assumption | with_reducible exact Mr.refl _ _ _ | with_reducible (refine Mr.alloc ?_ _) | with_reducible (refine Mr.drewN ?_ _) | with_reducible (refine Mr.drew ?_) | with_reducible (refine Mr.trans ?_ (by with_reducible assumption))))
        have hn1 : (V ++ [(t.who, (t.b, t.p))]).length = n + 1 := by simp; exact HNN.out
        have HN1 := Lib.hid hn1
        clear hn1 x41 y41 x46 y46 h41
        have h46' : w46.ownsRow w.heap.size 33 2 v46 (n + 1) (ress (V ++ [(t.who, (t.b, t.p))])) := own_same h46 (by simp [ress, rsCells]) rfl
        have z41' : w46.ownsRow w.heap.size 3 1 v41 (n + 1) (whos (V ++ [(t.who, (t.b, t.p))])) := own_same z41 (by simp [whos]) rfl
        obtain ⟨A5, cap5, rfl, hc5, hc5m, hrd5⟩ := own_read h46'
        have HIN := Lib.hid hinv'
        have HZ41 := Lib.hid z41'
        have HZ46 := Lib.hid h46'
        have HRD5 := Lib.hid hrd5
        clear hinv' z41 z41' h46 h46' hrd5
        go_wp2_with (go_at_call 10; refine (lawFits A5 (n + 1) cap5 ((V ++ [(t.who, (t.b, t.p))]).map Prod.snd) (by rw [List.length_map]; exact HN1.out.symm) (by omega) HIN.out.rs HIN.out.fits _ HRD5.out.rd).mono ?_; rintro e w6 ⟨rfl, hu6⟩)
        go_roundw
        case rel => exact ⟨k + 1, _, V ++ [(t.who, (t.b, t.p))], by omega, by omega, by go_num, (m46.mv.over hu3 (Nat.le_refl _)).trans hu6, (hB3.mr m46 (by decide)).updNo hu6, by omega, by rw [HN1.out]; omega, HIN.out, by rw [HN1.out]; exact own_updNo HZ41.out hu6, by rw [HN1.out]; exact own_updNo HZ46.out hu6⟩
        case measure => simp [intOf]; omega
    · have qz : ((admitB B t.who t.b t.p).2 == 0) = false := by simp [hz]
      have hno := admit_no hz
      rw [hno] at hB3
      clear hz hno
      obtain ⟨A5, cap5, rfl, hc5, hc5m, hrd5⟩ := own_read ho5
      go_wp2_with (go_at_call 10; refine (lawFits A5 n cap5 (V.map Prod.snd) (by rw [List.length_map]; exact HNN.out.symm) (by omega) hinv.rs hinv.fits _ hrd5.rd).mono ?_; rintro e w6 ⟨rfl, hu6⟩)
      go_roundw
      case rel => exact ⟨k + 1, B, V, by omega, by omega, by go_num, hu3.trans hu6, hB3.updNo hu6, by omega, by rw [HNN.out]; omega, hinv, by rw [HNN.out]; exact own_updNo ho4 hu6, by rw [HNN.out]; exact own_updNo ho5 hu6⟩
      case measure => simp [intOf]; omega

end Go.Proofs.Ytdjnjfmdmcfamaa
