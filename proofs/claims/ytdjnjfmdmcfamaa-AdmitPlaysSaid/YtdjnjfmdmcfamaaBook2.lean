/- Admit and Release of package admit. -/
import Derived.Test.YtdjnjfmdmcfamaaBook
import Derived.WalkSpells
namespace Go.Proofs.Ytdjnjfmdmcfamaa
open Go.RowKit

def admitB (B : Bk) (who b p : Int) : Bk × Int :=
  if resB b p = true then if (B.f who).isSome = true then (B, 7) else if 4294967296 < B.used + shareP b p then (B, 24) else ({ B with used := B.used + shareP b p, f := fun j => if j = who then some (shareP b p) else B.f j }, 0) else (B, 1)
def releaseB (B : Bk) (who til : Int) : Bk × Int :=
  match B.f who with
  | none => (B, 6)
  | some s => (if B.now < til then { B with f := fun j => if j = who then none else B.f j, p := B.p ++ [(s, til)] } else { B with f := fun j => if j = who then none else B.f j, used := B.used - s }, 0)

def DidB (w : World) (base b n : Nat) (r : Bk × Int) (e : Ending) (w' : World) : Prop := e = .returned (.int .i64 r.2) ∧ Bok w' base b n r.1 ∧ Mv bookT base w w'

theorem Row.turned {w w' : World} {g b : Nat} {T : TypeId} {xs : List Value} (h : Row w g T xs) (ht : w.mapTurned w' b) : Row w' g T xs := by
  obtain ⟨es, clock, _, _, he, _⟩ := id ht
  have hne : g ≠ b := by rintro rfl; unfold Row at h; rw [h] at he; cases he
  exact (ht.grown.block g h.lt (fun e => hne (by injection e))).trans h
theorem own_cell {w : World} {base T sz n g : Nat} {U : TypeId} {v : Value} {xs ys : List Value} (h : w.ownsRow base T sz v n xs) (hg : Row w g U ys) (ht : U ≠ T) (i : Nat) (u : Value) : (w.setCell ⟨g, i, none⟩ u).ownsRow base T sz v n xs := by
  refine own_upd (S := at1 g) h ((Upd.refl _ _).set1 i u) (fun k hk q => ?_)
  unfold at1 at q; subst q
  rcases h.2 with ⟨rfl, _⟩ | ⟨g', cap, cur, rfl, _, hg', _⟩
  · cases hk
  · simp only [Value.ownBlock, Option.some.injEq] at hk
    subst hk
    unfold Row at hg; rw [hg'] at hg
    simp only [Option.some.injEq, Obj.cells.injEq] at hg
    exact ht hg.2.1.symm
theorem own_turned {w w' : World} {b base T sz n : Nat} {v : Value} {xs : List Value} (h : w.ownsRow base T sz v n xs) (ht : w.mapTurned w' b) : w'.ownsRow base T sz v n xs := by
  obtain ⟨es, clock, _, _, he, _⟩ := id ht
  refine own_upd (S := at1 b) h ((Upd.refl _ _).grown ht.grown (fun k e _ => by injection e with e; exact e.symm)) (fun k hk q => ?_)
  unfold at1 at q; subst q
  rcases h.2 with ⟨rfl, _⟩ | ⟨g, cap, cur, rfl, _, hg, _⟩
  · cases hk
  · simp only [Value.ownBlock, Option.some.injEq] at hk
    subst hk
    rw [hg] at he; cases he

set_option maxHeartbeats 1000000 in
theorem bookAdmit {b n base : Nat} {B : Bk} {w : World} (h : Bok w base b n B) (hok : B.ok) (hn : n < 1000000) (i bu pe : Int) (hi : (Lit.int .i64 i).wf = true) :
    Calls Try.prog 8 #[.pointer (some ⟨b, 0, none⟩), .int .i64 i, .agg #[.int .i64 bu, .int .i64 pe]] w (DidB w base b (n + 1) (admitB B i bu pe)) := by
  cases hr : resB bu pe
  · have e : admitB B i bu pe = (B, 1) := by simp [admitB, hr]
    rw [e]
    have HR := Lib.hid hr; clear hr e
    go_enter Try.func8, Try.ntmps8
    go_wp2_with (go_at_call 23; refine (resRight bu pe _).mono ?_; rw [HR.out]; rintro e w1 ⟨rfl, hu1⟩)
    go_ret
    obtain ⟨r, v, h⟩ := h
    have hx := h.updNo (((Upd.refl No w).alloc (.cells #[.int .i64 bu, .int .i64 pe] 40)).trans hu1)
    exact ⟨rfl, ⟨r, v, { hx with map := hx.map.mono (by omega) }⟩, Mv.ofNo (by repeat (first | with_reducible assumption | exact Upd.refl _ _ | (refine Upd.setNew ?_ (by first | (simp; done) | (simp; omega)) _) | (refine Upd.alloc ?_ _) | (refine Upd.drewN ?_ _) | (refine Upd.drew ?_) | (refine Upd.trans ?_ (by with_reducible assumption))))⟩
  have hb1 := (resB_iff bu pe).1 hr
  obtain ⟨hs1, hs2⟩ := shareP_le hb1.1 hb1.2.1
  have HB := Lib.hid hb1
  clear hb1
  cases hf : (B.f i).isSome
  rotate_left
  · have e : admitB B i bu pe = (B, 7) := by simp [admitB, hr, hf]
    rw [e]
    have HR := Lib.hid hr; clear hr e
    have HF := Lib.hid hf; clear hf
    go_enter Try.func8, Try.ntmps8
    go_wp2_with (first
      | (go_at_call 23; refine (resRight bu pe _).mono ?_; rw [HR.out]; rintro e w1 ⟨rfl, hu1⟩)
      | (go_at_call 19; refine (bookHas (h.updNo (by repeat (first | with_reducible assumption | exact Upd.refl _ _ | (refine Upd.setNew ?_ (by first | (simp; done) | (simp; omega)) _) | (refine Upd.alloc ?_ _) | (refine Upd.drewN ?_ _) | (refine Upd.drew ?_) | (refine Upd.trans ?_ (by with_reducible assumption))))) i hi).mono ?_; rw [HF.out]; rintro e w2 ⟨rfl, rfl⟩))
    go_ret
    obtain ⟨r, v, h⟩ := h
    have hx := h.updNo (((Upd.refl No w).alloc (.cells #[.int .i64 bu, .int .i64 pe] 40)).trans hu1)
    exact ⟨rfl, ⟨r, v, { hx with map := hx.map.mono (by omega) }⟩, Mv.ofNo (by repeat (first | with_reducible assumption | exact Upd.refl _ _ | (refine Upd.setNew ?_ (by first | (simp; done) | (simp; omega)) _) | (refine Upd.alloc ?_ _) | (refine Upd.drewN ?_ _) | (refine Upd.drew ?_) | (refine Upd.trans ?_ (by with_reducible assumption))))⟩
  have hu0 := hok.u0
  have hu1 := hok.u1
  obtain ⟨r, v, h⟩ := h
  have hcells : ∀ w1, Upd No w w1 → w1.cell? ⟨b, 1, none⟩ = some (.int .u64 B.used) ∧ w1.cell? ⟨b, 2, none⟩ = some (.map r) ∧ ∀ j, w1.frozen? ⟨b, j, none⟩ = false := fun w1 hu =>
    ⟨(h.row.updNo hu).cell (i := 1) rfl, (h.row.updNo hu).cell (i := 2) rfl, (h.row.updNo hu).frozen⟩
  have HC := Lib.hid hcells
  clear hcells
  have hbx : ∀ w1, Upd No (w.alloc (.cells #[.int .i64 bu, .int .i64 pe] 40)) w1 → w1.cell? ⟨w.heap.size, 0, none⟩ = some (.int .i64 bu) ∧ w1.cell? ⟨w.heap.size, 1, none⟩ = some (.int .i64 pe) := fun w1 hu => ⟨hu.box 0, hu.box 1⟩
  have HBX := Lib.hid hbx
  clear hbx
  by_cases hov : 4294967296 < B.used + shareP bu pe
  · have e : admitB B i bu pe = (B, 24) := by simp [admitB, hr, hf, hov]
    rw [e]
    have HR := Lib.hid hr; clear hr e
    have HF := Lib.hid hf; clear hf
    go_enter Try.func8, Try.ntmps8
    go_wp2_with (first
      | (go_at_call 23; refine (resRight bu pe _).mono ?_; rw [HR.out]; rintro e w1 ⟨rfl, hu1⟩; obtain ⟨d0, d1⟩ := HBX.out w1 hu1)
      | (go_at_call 19; refine (bookHas ⟨r, v, h.updNo (by repeat (first | with_reducible assumption | exact Upd.refl _ _ | (refine Upd.setNew ?_ (by first | (simp; done) | (simp; omega)) _) | (refine Upd.alloc ?_ _) | (refine Upd.drewN ?_ _) | (refine Upd.drew ?_) | (refine Upd.trans ?_ (by with_reducible assumption))))⟩ i hi).mono ?_; rw [HF.out]; rintro e w2 ⟨rfl, rfl⟩)
      | (go_at_call 13; refine (admShare bu pe _).mono ?_; rw [HR.out]; rintro e w3 ⟨rfl, hu3⟩; obtain ⟨c1, c2, c3⟩ := HC.out w3 (by repeat (first | with_reducible assumption | exact Upd.refl _ _ | (refine Upd.setNew ?_ (by first | (simp; done) | (simp; omega)) _) | (refine Upd.alloc ?_ _) | (refine Upd.drewN ?_ _) | (refine Upd.drew ?_) | (refine Upd.trans ?_ (by with_reducible assumption))))))
    go_ret
    have hx := h.updNo ((((Upd.refl No w).alloc (.cells #[.int .i64 bu, .int .i64 pe] 40)).trans hu1).trans hu3)
    exact ⟨rfl, ⟨r, v, { hx with map := hx.map.mono (by omega) }⟩, Mv.ofNo (by repeat (first | with_reducible assumption | exact Upd.refl _ _ | (refine Upd.setNew ?_ (by first | (simp; done) | (simp; omega)) _) | (refine Upd.alloc ?_ _) | (refine Upd.drewN ?_ _) | (refine Upd.drew ?_) | (refine Upd.trans ?_ (by with_reducible assumption))))⟩
  have e : admitB B i bu pe = ({ B with used := B.used + shareP bu pe, f := fun j => if j = i then some (shareP bu pe) else B.f j }, 0) := by simp [admitB, hr, hf, hov]
  rw [e]
  have HR := Lib.hid hr; clear hr e
  have HF := Lib.hid hf; clear hf
  have hwf : (Lit.int .u64 (shareP bu pe)).wf = true := by
    have e0 : IntKind.u64.min = 0 := by decide
    have e1 : IntKind.u64.max = 18446744073709551615 := by decide
    simp only [Lit.wf, e0, e1, Bool.and_eq_true, decide_eq_true_eq]; omega
  have HW := Lib.hid hwf; clear hwf
  have hm0 := fun W => run_eql_map_nil (P := Try.prog) W 26 3 25 r Try.underlying26
  have hmk := fun W => run_makeMap (P := Try.prog) 26 W
  have hb := h.hb
  have hs := h.hs
  cases r with
  | none =>
    have hBf : B.f = fun _ => none := funext h.map
    have HBF := Lib.hid hBf
    clear hBf
    go_enter Try.func8, Try.ntmps8
    go_wp2_with (first
      | (go_at_call 23; refine (resRight bu pe _).mono ?_; rw [HR.out]; rintro e w1 ⟨rfl, hu1⟩; obtain ⟨d0, d1⟩ := HBX.out w1 hu1)
      | (go_at_call 19; refine (bookHas ⟨none, v, h.updNo (by repeat (first | with_reducible assumption | exact Upd.refl _ _ | (refine Upd.setNew ?_ (by first | (simp; done) | (simp; omega)) _) | (refine Upd.alloc ?_ _) | (refine Upd.drewN ?_ _) | (refine Upd.drew ?_) | (refine Upd.trans ?_ (by with_reducible assumption))))⟩ i hi).mono ?_; rw [HF.out]; rintro e w2 ⟨rfl, rfl⟩)
      | (go_at_call 13; refine (admShare bu pe _).mono ?_; rw [HR.out]; rintro e w3 ⟨rfl, hu3⟩; have hu4 : Upd No w w3 := (by repeat (first | with_reducible assumption | exact Upd.refl _ _ | (refine Upd.setNew ?_ (by first | (simp; done) | (simp; omega)) _) | (refine Upd.alloc ?_ _) | (refine Upd.drewN ?_ _) | (refine Upd.drew ?_) | (refine Upd.trans ?_ (by with_reducible assumption)))); obtain ⟨c1, c2, c3⟩ := HC.out w3 hu4
         have hq := (h.row.updNo hu4).alloc (.map #[] 0)
         have q4 := hq.cell (i := 2) rfl
         have q2 := hq.frozen 2
         have q3 := (hq.set 2 (.map (some w3.heap.size))).cell (i := 2) rfl)
      | (at_mapUpdate; refine wpList_store _ rfl _ _ _ rfl Try.underlying3 Try.underlying26 Try.underlying25 (base := base) (n := 0) (f := fun _ => none) rfl ((MapI.new _ _ rfl (Nat.le_trans hs hu4.size)).cell ((h.row.updNo hu4).alloc _) 2 _) (by decide) rfl rfl hi HW.out ?_; intro w5 hm5 hb5 ht5
         have hr5 := (((h.row.updNo hu4).alloc (.map #[] 0)).set 2 (.map (some w3.heap.size))).turned ht5
         have k1 : w5.cell? ⟨b, 1, none⟩ = some (.int .u64 B.used) := hr5.cell (i := 1) rfl
         have k2 : ∀ j, w5.frozen? ⟨b, j, none⟩ = false := hr5.frozen
         clear c1 c2 c3))
    go_ret
    refine ⟨rfl, ⟨some w3.heap.size, v, hb, ?_, (hr5.set 1 _).same rfl, ?_, ?_⟩, ?_⟩
    · have := hu4.size; have := ht5.grown.size; simp at this ⊢; omega
    · have hm6 := (hm5.mono (n' := n + 1) (by omega)).cell hr5 1 (.int .u64 (B.used + shareP bu pe))
      rw [HBF.out]; exact hm6
    · have hp := own_updNo h.pend (hu4.alloc (.map #[] 0))
      exact own_cell (own_turned (own_cell hp ((h.row.updNo hu4).alloc (.map #[] 0)) (by decide) 2 _) ht5) hr5 (by decide) 1 _
    · exact ((((Mv.ofNo hu4).alloc _).set ((h.row.updNo hu4).alloc (.map #[] 0)) (by decide) hb 2 _).turned ht5 hb5).set hr5 (by decide) hb 1 _
  | some g =>
    go_enter Try.func8, Try.ntmps8
    go_wp2_with (first
      | (go_at_call 23; refine (resRight bu pe _).mono ?_; rw [HR.out]; rintro e w1 ⟨rfl, hu1⟩; obtain ⟨d0, d1⟩ := HBX.out w1 hu1)
      | (go_at_call 19; refine (bookHas ⟨some g, v, h.updNo (by repeat (first | with_reducible assumption | exact Upd.refl _ _ | (refine Upd.setNew ?_ (by first | (simp; done) | (simp; omega)) _) | (refine Upd.alloc ?_ _) | (refine Upd.drewN ?_ _) | (refine Upd.drew ?_) | (refine Upd.trans ?_ (by with_reducible assumption))))⟩ i hi).mono ?_; rw [HF.out]; rintro e w2 ⟨rfl, rfl⟩)
      | (go_at_call 13; refine (admShare bu pe _).mono ?_; rw [HR.out]; rintro e w3 ⟨rfl, hu3⟩; have hu4 : Upd No w w3 := (by repeat (first | with_reducible assumption | exact Upd.refl _ _ | (refine Upd.setNew ?_ (by first | (simp; done) | (simp; omega)) _) | (refine Upd.alloc ?_ _) | (refine Upd.drewN ?_ _) | (refine Upd.drew ?_) | (refine Upd.trans ?_ (by with_reducible assumption)))); obtain ⟨c1, c2, c3⟩ := HC.out w3 hu4)
      | (at_mapUpdate; refine wpList_store _ rfl _ _ _ rfl Try.underlying3 Try.underlying26 Try.underlying25 rfl (h.map.updNo hu4) (by unfold maxLen; omega) rfl rfl hi HW.out ?_; intro w5 hm5 hb5 ht5
         have hr5 := (h.row.updNo hu4).turned ht5
         have k1 : w5.cell? ⟨b, 1, none⟩ = some (.int .u64 B.used) := hr5.cell (i := 1) rfl
         have k2 : ∀ j, w5.frozen? ⟨b, j, none⟩ = false := hr5.frozen
         clear c1 c2 c3))
    go_ret
    refine ⟨rfl, ⟨some g, v, hb, ?_, (hr5.set 1 _).same rfl, hm5.cell hr5 1 _, ?_⟩, ?_⟩
    · have := hu4.size; have := ht5.grown.size; simp; omega
    · exact own_cell (own_turned (own_updNo h.pend hu4) ht5) hr5 (by decide) 1 _
    · exact ((Mv.ofNo hu4).turned ht5 hb5).set hr5 (by decide) hb 1 _

theorem elemBack : Elem Try.prog 27 61 2 16 := Elem.of (z := .agg #[.int .u64 0, .int .i64 0]) Try.underlying27 (by kernel_rfl) rfl (by decide)
/-- A row that is owned has gone on: another row of another type is as it was. -/
theorem Row.grownOwn {w w1 w' : World} {g base T sz n : Nat} {U : TypeId} {v : Value} {xs ys : List Value} (h : Row w1 g U ys) (hp : w.ownsRow base T sz v n xs) (hu : Upd No w w1) (hg : w1.grownBy w' v.ownBlock) (ht : U ≠ T) : Row w' g U ys := by
  have hp1 := own_updNo hp hu
  refine (hg.block g h.lt (fun e => ?_)).trans h
  rcases hp1.2 with ⟨rfl, _⟩ | ⟨g', cap, cur, rfl, _, hg', _⟩
  · cases e
  · simp only [Value.ownBlock, Option.some.injEq] at e
    subst e
    unfold Row at h; rw [hg'] at h
    simp only [Option.some.injEq, Obj.cells.injEq] at h
    exact ht h.2.1.symm
theorem Row.rd {w : World} {g : Nat} {T : TypeId} {xs : List Value} (h : Row w g T xs) : Rd w (some ⟨g, 0, none⟩) xs := fun _ => ⟨g, 0, rfl, fun j u hj => by rw [Nat.zero_add]; exact h.cell hj⟩
set_option maxHeartbeats 1000000 in
theorem bookRelease {b n base : Nat} {B : Bk} {w : World} (h : Bok w base b n B) (hok : B.ok) (hp : B.p.length < 1000000) (i til : Int) (hi : (Lit.int .i64 i).wf = true) :
    Calls Try.prog 6 #[.pointer (some ⟨b, 0, none⟩), .int .i64 i, .int .i64 til] w (DidB w base b n (releaseB B i til)) := by
  cases hf : B.f i with
  | none =>
    have e : releaseB B i til = (B, 6) := by simp [releaseB, hf]
    rw [e]
    have hf' : (B.f i).isSome = false := by rw [hf]; rfl
    have HF := Lib.hid hf'; clear hf hf' e
    go_enter Try.func6, Try.ntmps6
    go_wp2_with (go_at_call 19; refine (bookHas h i hi).mono ?_; rw [HF.out]; rintro e w2 ⟨rfl, rfl⟩)
    go_ret
    exact ⟨rfl, h, Mv.refl _ _ _⟩
  | some s =>
    have hf' : (B.f i).isSome = true := by rw [hf]; rfl
    have hsb := hok.fs i s hf
    have hu1 := hok.u1
    have hk := h
    obtain ⟨r, v, h⟩ := h
    have hlk := h.map.look (t := 26) Try.underlying3 Try.underlying26 Try.underlying25 u64zero hi hf
    have hrow := h.row
    have c0 := h.row.cell (i := 0) rfl
    have c1 := h.row.cell (i := 1) rfl
    have c2 := h.row.cell (i := 2) rfl
    have c3 := h.row.cell (i := 3) rfl
    have hb := h.hb
    have hs := h.hs
    by_cases hlt : B.now < til
    · have e : releaseB B i til = ({ B with f := fun j => if j = i then none else B.f j, p := B.p ++ [(s, til)] }, 0) := by simp [releaseB, hf, hlt]
      rw [e]
      have HF := Lib.hid hf'; clear hf hf' e
      have HM := Lib.hid h.map
      have HP := Lib.hid h.pend
      clear h
      go_enter Try.func6, Try.ntmps6
      go_wp2_with (first
        | (go_at_call 19; refine (bookHas hk i hi).mono ?_; rw [HF.out]; rintro e w2 ⟨rfl, rfl⟩)
        | (at_delete; refine wpList_drop _ rfl _ _ rfl Try.underlying3 Try.underlying26 rfl HM.out rfl hi ?_; intro w5 hm5 hor
           obtain ⟨hr5, hp5, hv5⟩ : Row w5 b 29 [.int .i64 B.now, .int .u64 B.used, .map r, v] ∧ w5.ownsRow base 61 2 v B.p.length (B.p.flatMap bkCells) ∧ Mv bookT base w w5 := by
             rcases hor with rfl | ⟨g, _, hg, ht⟩
             · exact ⟨hrow, HP.out, Mv.refl _ _ _⟩
             · exact ⟨hrow.turned ht, own_turned HP.out ht, (Mv.refl _ _ _).turned ht hg⟩
           clear c0 c1 c2 c3 hlk hor
           have c0 := hr5.cell (i := 0) rfl
           have c1 := hr5.cell (i := 1) rfl
           have c3 := hr5.cell (i := 3) rfl
           have hfz := hr5.frozen
           have HM5 := Lib.hid hm5; clear hm5)
        | (at_builtin; refine wpList_app rfl (.tmp 35) (.tmp 39) elemBack rfl (base := base) (n := B.p.length) (xs := B.p.flatMap bkCells) rfl (own_updNo hp5 (by repeat (first | with_reducible assumption | exact Upd.refl _ _ | (refine Upd.setNew ?_ (by first | (simp; done) | (simp; omega)) _) | (refine Upd.alloc ?_ _) | (refine Upd.drewN ?_ _) | (refine Upd.drew ?_) | (refine Upd.trans ?_ (by with_reducible assumption))))) rfl (ys := bkCells (s, til)) ?h4 ?h5 ?h6 ?h7 ?h8 ?h9 ?_
           case h4 => rfl
           case h5 => exact (Row.newAt _ _ _ _ rfl).rd
           case h6 => simp [bkCells, Value.oneCell']
           case h7 => omega
           case h8 => omega
           case h9 => have := hv5.size; simp; omega
           intro v6 w6 hp6 hg6
           obtain ⟨A6, cap6, rfl, _, _, _⟩ := own_read hp6
           clear c0 c1 c3 hfz
           have hr6 := (hr5.alloc (.cells #[.int .u64 s, .int .i64 til] 61)).grownOwn hp5 (by repeat (first | with_reducible assumption | exact Upd.refl _ _ | (refine Upd.setNew ?_ (by first | (simp; done) | (simp; omega)) _) | (refine Upd.alloc ?_ _) | (refine Upd.drewN ?_ _) | (refine Upd.drew ?_) | (refine Upd.trans ?_ (by with_reducible assumption)))) hg6 (by decide)
           have hfz := hr6.frozen
           have c3 := hr6.cell (i := 3) rfl))
      go_ret
      refine ⟨rfl, ⟨r, _, hb, ?_, (hr6.set 3 _).same rfl, ?_, ?_⟩, ?_⟩
      · have h1 := hv5.size
        have h2 := hg6.size
        simp at h1 h2 ⊢; omega
      · exact ((HM5.out.updNo ((Upd.refl No w5).alloc (.cells #[.int .u64 s, .int .i64 til] 61))).grown (own_updNo hp5 ((Upd.refl No w5).alloc _)) hg6).cell hr6 3 _
      · exact own_cell (own_same hp6 (by simp) (by simp)) hr6 (by decide) 3 _
      · exact ((hv5.alloc _).grown hg6 (own_tch (own_updNo hp5 ((Upd.refl No w5).alloc _)) (by decide) (Nat.le_refl _))).set hr6 (by decide) hb 3 _
    · have e : releaseB B i til = ({ B with f := fun j => if j = i then none else B.f j, used := B.used - s }, 0) := by simp [releaseB, hf, hlt]
      rw [e]
      have HF := Lib.hid hf'; clear hf hf' e
      have HM := Lib.hid h.map
      have HP := Lib.hid h.pend
      clear h
      go_enter Try.func6, Try.ntmps6
      go_wp2_with (first
        | (go_at_call 19; refine (bookHas hk i hi).mono ?_; rw [HF.out]; rintro e w2 ⟨rfl, rfl⟩)
        | (at_delete; refine wpList_drop _ rfl _ _ rfl Try.underlying3 Try.underlying26 rfl HM.out rfl hi ?_; intro w5 hm5 hor
           obtain ⟨hr5, hp5, hv5⟩ : Row w5 b 29 [.int .i64 B.now, .int .u64 B.used, .map r, v] ∧ w5.ownsRow base 61 2 v B.p.length (B.p.flatMap bkCells) ∧ Mv bookT base w w5 := by
             rcases hor with rfl | ⟨g, _, hg, ht⟩
             · exact ⟨hrow, HP.out, Mv.refl _ _ _⟩
             · exact ⟨hrow.turned ht, own_turned HP.out ht, (Mv.refl _ _ _).turned ht hg⟩
           clear c0 c1 c2 c3 hlk hor
           have c0 := hr5.cell (i := 0) rfl
           have c1 := hr5.cell (i := 1) rfl
           have c3 := hr5.cell (i := 3) rfl
           have hfz := hr5.frozen
           have HM5 := Lib.hid hm5; clear hm5))
      go_ret
      refine ⟨rfl, ⟨r, v, hb, ?_, (hr5.set 1 _).same rfl, ?_, ?_⟩, ?_⟩
      · have h1 := hv5.size
        simp at h1 ⊢; omega
      · exact HM5.out.cell hr5 1 _
      · exact own_cell hp5 hr5 (by decide) 1 _
      · exact hv5.set hr5 (by decide) hb 1 _

end Go.Proofs.Ytdjnjfmdmcfamaa
