/- Begin of package server. -/
import Derived.Test.YtojlkjmdcoolnaaSv4
import Derived.Deep.LoopGhost
namespace Go.Proofs.Ytojlkjmdcoolnaa
open Go.RowKit

def popR (t : Int) : List (Int × Int) → List (Int × Int)
  | [] => []
  | x :: l => if x.1 ≤ t then popR t l else x :: l
def popA (t : Int) : List (Int × Int) → Int
  | [] => 0
  | x :: l => if x.1 ≤ t then x.2 + popA t l else 0
def sumF (l : List (Int × Int)) : Int := (l.map Prod.snd).sum
def leftS (l : List (Int × Int × Int)) : Int := (l.map Prod.fst).sum
def backF : List (Int × Int × Int) → List (Int × Int)
  | [] => []
  | c :: r => if c.2.1 = 0 then backF r else (c.2.2, c.2.1) :: backF r
def beginS (S : Sv) (now : Int) (ready : Bool) : Sv :=
  if ready = false then { S with now := now, av := S.av + popA now S.fs + leftS S.cs, fs := popR now S.fs ++ backF S.cs, cs := [] }
  else if 0 < S.av + popA now S.fs then { S with now := now, av := 0, fs := popR now S.fs, cs := S.cs ++ [(S.av + popA now S.fs, 0, now + S.p)] }
  else { S with now := now, av := S.av + popA now S.fs, fs := popR now S.fs }

structure Sv.fit (S : Sv) : Prop where
  av : 0 ≤ S.av
  fs : ∀ x ∈ S.fs, 0 ≤ x.2
  cs : ∀ c ∈ S.cs, 0 ≤ c.1
  sum : S.av + sumF S.fs + leftS S.cs ≤ 1099511627776
  fl : S.fs.length < 100000
  cl : S.cs.length < 100000
  ord : ∀ f ∈ S.fs, ∀ c ∈ S.cs, f.1 ≤ c.2.2
  row : S.cs.Pairwise (fun c d => c.2.2 ≤ d.2.2)
  p : 0 ≤ S.p ∧ S.p ≤ 1099511627776

theorem sumF_cons (x : Int × Int) (l : List (Int × Int)) : sumF (x :: l) = x.2 + sumF l := by simp [sumF]
theorem sumF_nonneg {l : List (Int × Int)} (h : ∀ x ∈ l, 0 ≤ x.2) : 0 ≤ sumF l := by
  induction l with
  | nil => simp [sumF]
  | cons x l ih => rw [sumF_cons]; have := h x (by simp); have := ih (fun y hy => h y (by simp [hy])); omega
theorem leftS_cons (c : Int × Int × Int) (l : List (Int × Int × Int)) : leftS (c :: l) = c.1 + leftS l := by simp [leftS]
theorem leftS_nonneg {l : List (Int × Int × Int)} (h : ∀ c ∈ l, 0 ≤ c.1) : 0 ≤ leftS l := by
  induction l with
  | nil => simp [leftS]
  | cons x l ih => rw [leftS_cons]; have := h x (by simp); have := ih (fun y hy => h y (by simp [hy])); omega
theorem leftS_take {l : List (Int × Int × Int)} (h : ∀ c ∈ l, 0 ≤ c.1) (k : Nat) : leftS (l.take k) ≤ leftS l := by
  have e : leftS l = leftS (l.take k) + leftS (l.drop k) := by
    unfold leftS
    rw [← List.sum_append, ← List.map_append, List.take_append_drop]
  have := leftS_nonneg (l := l.drop k) (fun c hc => h c (List.mem_of_mem_drop hc))
  omega
theorem leftS_step {l : List (Int × Int × Int)} {k : Nat} {x : Int × Int × Int} (hx : l[k]? = some x) : leftS (l.take (k + 1)) = leftS (l.take k) + x.1 := by
  rw [List.take_add_one, hx]; simp [leftS]
theorem backF_app (l m : List (Int × Int × Int)) : backF (l ++ m) = backF l ++ backF m := by
  induction l with
  | nil => rfl
  | cons c l ih => simp only [List.cons_append, backF]; split <;> simp [ih]
theorem backF_step {l : List (Int × Int × Int)} {k : Nat} {x : Int × Int × Int} (hx : l[k]? = some x) : backF (l.take (k + 1)) = backF (l.take k) ++ (if x.2.1 = 0 then [] else [(x.2.2, x.2.1)]) := by
  rw [List.take_add_one, hx, backF_app]
  simp only [Option.toList, backF]
theorem backF_mem {l : List (Int × Int × Int)} {f : Int × Int} (h : f ∈ backF l) : ∃ c ∈ l, f = (c.2.2, c.2.1) ∧ c.2.1 ≠ 0 := by
  induction l with
  | nil => simp [backF] at h
  | cons c l ih =>
    simp only [backF] at h
    split at h
    · obtain ⟨d, hd, e⟩ := ih h; exact ⟨d, by simp [hd], e⟩
    · rename_i hz
      rcases List.mem_cons.1 h with rfl | h
      · exact ⟨c, by simp, rfl, hz⟩
      · obtain ⟨d, hd, e⟩ := ih h; exact ⟨d, by simp [hd], e⟩
theorem backF_len (l : List (Int × Int × Int)) : (backF l).length ≤ l.length := by
  induction l with
  | nil => simp [backF]
  | cons c l ih => simp only [backF]; split <;> simp <;> omega
theorem popR_sub (t : Int) (l : List (Int × Int)) : (popR t l).Sublist l := by
  induction l with
  | nil => simp [popR]
  | cons x l ih => simp only [popR]; split
                   · exact ih.cons x
                   · exact List.Sublist.refl _
theorem pop_sum (t : Int) (l : List (Int × Int)) : popA t l + sumF (popR t l) = sumF l := by
  induction l with
  | nil => simp [popA, popR, sumF]
  | cons x l ih => simp only [popA, popR]; split
                   · rw [sumF_cons]; omega
                   · omega

theorem SvV.setAv {w : World} {base g : Nat} {v1 v2 : Value} {S : Sv} (h : SvV w base g v1 v2 S) (a : Int) : SvV (w.setCell ⟨g, 3, none⟩ (.int .i64 a)) base g v1 v2 { S with av := a } :=
  ⟨h.hb, by simpa using h.hs, (h.row.set 3 _).same rfl, own_cell' h.cs h.row (by decide) 3 _, own_cell' h.fs h.row (by decide) 3 _⟩
theorem SvV.setNow {w : World} {base g : Nat} {v1 v2 : Value} {S : Sv} (h : SvV w base g v1 v2 S) (a : Int) : SvV (w.setCell ⟨g, 2, none⟩ (.int .i64 a)) base g v1 v2 { S with now := a } :=
  ⟨h.hb, by simpa using h.hs, (h.row.set 2 _).same rfl, own_cell' h.cs h.row (by decide) 2 _, own_cell' h.fs h.row (by decide) 2 _⟩
theorem SvV.drew {w : World} {base g : Nat} {v1 v2 : Value} {S : Sv} (h : SvV w base g v1 v2 S) : SvV w.drew base g v1 v2 S := h.updNo (Upd.drew (Upd.refl _ _))
theorem SvV.mset {w0 w : World} {base g : Nat} {v1 v2 : Value} {S : Sv} (h : SvV w base g v1 v2 S) (m : Mr srvT base w0 w) (i : Nat) (u : Value) : Mr srvT base w0 (w.setCell ⟨g, i, none⟩ u) := m.set h.row (by decide) h.hb i u

theorem SvV.of {T : Nat → Prop} {w w' : World} {base g : Nat} {v1 v2 : Value} {S : Sv} (_hu : Upd T w w') (h : SvV w base g v1 v2 S) : SvV w base g v1 v2 S := h
theorem Mr.of {T : Nat → Prop} {P : List TypeId} {w0 w w' : World} {base : Nat} (_hu : Upd T w w') (h : Mr P base w0 w) : Mr P base w0 w := h

theorem Mr.ofUpd {T : Nat → Prop} {P : List TypeId} {w w' : World} {base : Nat} (hu : Upd T w w') (h : ∀ k, k < w.heap.size → T k → Tcr P base w k) : Mr P base w w' := Upd.mono hu h

theorem row_le {α : Type} {R : α → α → Prop} {l : List α} (h : l.Pairwise R) {k : Nat} {x c : α} (hx : l[k]? = some x) (hc : c ∈ l.take k) : R c x := by
  have e : l.drop k = x :: l.drop (k + 1) := by
    obtain ⟨hk, rfl⟩ := List.getElem?_eq_some_iff.1 hx
    exact List.drop_eq_getElem_cons hk
  rw [← List.take_append_drop k l, e, List.pairwise_append] at h
  exact h.2.2 c hc x (by simp)
theorem note_step {S : Sv} {now a : Int} {l : List (Int × Int)} {k : Nat} {x : Int × Int × Int} (hx : S.cs[k]? = some x) :
    noteS { S with now := now, av := a + leftS (S.cs.take k) + x.1, fs := l ++ backF (S.cs.take k) } x = { S with now := now, av := a + leftS (S.cs.take (k + 1)), fs := l ++ backF (S.cs.take (k + 1)) } := by
  rw [leftS_step hx, backF_step hx, ← Int.add_assoc]
  unfold noteS
  split
  · simp
  · simp
theorem cells3 {w : World} {g : Nat} {l : List (Int × Int × Int)} (rd : ∀ i, w.cell? ⟨g, i, none⟩ = (l.flatMap cCells)[i]? ∨ (l.flatMap cCells).length ≤ i) {k : Nat} {x : Int × Int × Int} (hx : l[k]? = some x) :
    w.cell? ⟨g, k * 3, none⟩ = some (.int .i64 x.1) ∧ w.cell? ⟨g, k * 3 + 1, none⟩ = some (.int .i64 x.2.1) ∧ w.cell? ⟨g, k * 3 + 2, none⟩ = some (.int .i64 x.2.2) := by
  have hk := (List.getElem?_eq_some_iff.1 hx).1
  have hlen := flat_len cCells 3 (fun _ => rfl) l
  have key : ∀ j, j < 3 → w.cell? ⟨g, k * 3 + j, none⟩ = (cCells x)[j]? := fun j hj => by
    rcases rd (k * 3 + j) with q | q
    · rw [q, flat_get cCells 3 (fun _ => rfl) l k x hx j hj]
    · rw [hlen] at q; omega
  exact ⟨key 0 (by omega), key 1 (by omega), key 2 (by omega)⟩
theorem exitF {t : Int} {l : List (Int × Int)} (h : ¬ ∃ x r, l = x :: r ∧ x.1 ≤ t) : popR t l = l ∧ popA t l = 0 := by
  cases l with
  | nil => exact ⟨rfl, rfl⟩
  | cons x r =>
    have : ¬ x.1 ≤ t := fun q => h ⟨x, r, rfl, q⟩
    simp [popR, popA, this]
theorem exitV {w : World} {base g : Nat} {v1 v2 : Value} {S : Sv} (h : SvV w base g v1 v2 S) (hx : ¬ ∃ x r, S.fs = x :: r ∧ x.1 ≤ S.now) :
    (∃ A2 cap2, v2 = .slice A2 0 cap2) ∨ (∃ g2 cap2 m, ∃ x : Int, v2 = .slice (some ⟨g2, 0, none⟩) (m + 1) cap2 ∧ w.cell? ⟨g2, 0, none⟩ = some (.int .i64 x) ∧ decide (x ≤ S.now) = false) := by
  have hfs := h.fs
  cases hl : S.fs with
  | nil =>
    rw [hl] at hfs
    obtain ⟨A, cap, e, _⟩ := own_read hfs
    exact .inl ⟨A, cap, e⟩
  | cons x r =>
    rw [hl] at hfs
    obtain ⟨g2, cap2, rfl, hc1, hc2, hb2, rd, fz⟩ := own_form hfs (by simp)
    refine .inr ⟨g2, cap2, r.length, x.1, rfl, ?_, decide_eq_false (fun q => hx ⟨x, r, hl, q⟩)⟩
    rcases rd 0 with q | q
    · rw [q]; rfl
    · simp [fCells] at q

theorem start0 {w : World} {base g : Nat} {v1 v2 : Value} {S : Sv} {now a : Int} {l : List (Int × Int)} (h : SvV w base g v1 v2 { S with now := now, av := a, fs := l }) : SvV w base g v1 v2 { S with now := now, av := a + leftS (S.cs.take 0), fs := l ++ backF (S.cs.take 0) } := by
  simpa [leftS, backF] using h

def Pops (S : Sv) (now : Int) (w0 : World) (base g : Nat) (v1 : Value) (l : List (Int × Int)) (wr : World) : Prop :=
  ∃ (a : Int) (v2 : Value), popR now l = popR now S.fs ∧ a + popA now l = S.av + popA now S.fs ∧ 0 ≤ a ∧ a + sumF l + leftS S.cs ≤ 1099511627776 ∧ (∀ x ∈ l, x ∈ S.fs) ∧ SvV wr base g v1 v2 { S with now := now, av := a, fs := l } ∧ Mr srvT base w0 wr

set_option maxHeartbeats 2000000 in
theorem srvBegin0 {base g : Nat} {S : Sv} {w : World} (h : SrvAt w base g S) (hfit : S.fit) (now : Int) (h0 : S.now ≤ now) (h1 : 0 ≤ now ∧ now ≤ 1099511627776) :
    Calls Try.prog 8 #[.pointer (some ⟨g, 0, none⟩), .int .i64 now, .bool false] w fun e w' => e = .returned (.bool true) ∧ SrvAt w' base g (beginS S now false) ∧ Mr srvT base w w' := by
  obtain ⟨v1, v2, h⟩ := h
  have c2 := h.row.cell (i := 2) rfl
  have hf := h.row.frozen
  have hq : decide (now < S.now) = false := decide_eq_false (by omega)
  have e : beginS S now false = { S with now := now, av := S.av + popA now S.fs + leftS S.cs, fs := popR now S.fs ++ backF S.cs, cs := [] } := by simp [beginS]
  rw [e]
  obtain ⟨A1, cap1, rfl, hca1, hca2, hrd1⟩ := own_read h.cs
  obtain ⟨n1, hn1⟩ : ∃ n1, S.cs.length = n1 := ⟨_, rfl⟩
  have p0 : Pops S now w base g (.slice A1 n1 cap1) S.fs (w.setCell ⟨g, 2, none⟩ (.int .i64 now)) := by
    rw [← hn1]
    exact ⟨S.av, v2, rfl, rfl, hfit.av, hfit.sum, fun x hx => hx, h.setNow now, h.mset (Mr.refl _ _ _) 2 _⟩
  have HP0 := Lib.hid p0
  have HFS := Lib.hid hfit.fs
  have HN1 := Lib.hid hn1
  have hcl := hfit.cl
  rw [hn1] at hca1 hcl
  have HFIT := Lib.hid hfit
  have HL := Lib.hid (leftS_nonneg hfit.cs)
  clear h e p0 hrd1 hn1 hfit
  go_enter Try.func8, Try.ntmps8
  go_wp2
  go_loopg [23] S.fs.length (fun gg _ wr => ∃ l : List (Int × Int), l.length ≤ gg ∧ Pops S now w base g (.slice A1 n1 cap1) l wr)
  case atStart => exact ⟨S.fs, Nat.le_refl _, HP0.out⟩
  case round =>
    obtain ⟨l, hgl, a, v2', hpr, hpa, ha0, hsum, hmem, hsv, hmr⟩ := hrel
    clear c2 hf
    have HPR := Lib.hid hpr
    have HPA := Lib.hid hpa
    have HSV := Lib.hid hsv
    have HMR := Lib.hid hmr
    have HMEM := Lib.hid hmem
    have hl0 := HL.out
    have c3 := hsv.row.cell (i := 3) rfl
    have c5 := hsv.row.cell (i := 5) rfl
    have hf := hsv.row.frozen
    have hfs := hsv.fs
    by_cases hgo : ∃ x r, l = x :: r ∧ x.1 ≤ now
    · obtain ⟨x, r, rfl, hxt⟩ := hgo
      have hx0 := HFS.out x (hmem x (by simp))
      have hr0 := sumF_nonneg (l := r) (fun y hy => HFS.out y (hmem y (by simp [hy])))
      rw [sumF_cons] at hsum
      have hfs' : wr.ownsRow base 46 2 v2' (r.length + 1) ([.int .i64 x.1, .int .i64 x.2] ++ r.flatMap fCells) := hfs
      obtain ⟨g2, cap2, rfl, hc1, hc2, hb2, rd, fz⟩ := own_form hfs' (by omega)
      have a0 : wr.cell? ⟨g2, 0, none⟩ = some (.int .i64 x.1) := by
        rcases rd 0 with q | q
        · rw [q]; rfl
        · simp at q
      have a1 : wr.cell? ⟨g2, 1, none⟩ = some (.int .i64 x.2) := by
        rcases rd 1 with q | q
        · rw [q]; rfl
        · simp at q
      have hne : g ≠ g2 := by
        rintro rfl
        rcases hfs'.2 with ⟨q, _⟩ | ⟨g', cap', cur, q, _, hg, _⟩
        · cases q
        · cases q
          have := hsv.row; unfold Row at this; rw [this] at hg; simp at hg
      have hne' : g2 ≠ g := fun e => hne e.symm
      have e1 : popR now (x :: r) = popR now r := by simp [popR, hxt]
      have e2 : popA now (x :: r) = x.2 + popA now r := by simp [popA, hxt]
      obtain ⟨m, hm⟩ : ∃ m, r.length = m := ⟨_, rfl⟩
      have HMM := Lib.hid hm
      have HE1 := Lib.hid e1
      have HE2 := Lib.hid e2
      have c5' : wr.cell? ⟨g, 5, none⟩ = some (.slice (some ⟨g2, 0, none⟩) (m + 1) cap2) := by rw [← hm]; exact c5
      rw [hm] at hc1 hfs'
      have HFSS := Lib.hid hfs'
      have hmi : (0 : Int) < ((m + 1 : Nat) : Int) := by omega
      have hsvn := hsv.setAv (a + x.2)
      rw [hm] at hsvn
      have HMRN := Lib.hid (hsv.mset hmr 3 (.int .i64 (a + x.2)))
      have HSVN := Lib.hid hsvn
      clear hsv hsvn hmr hmem hpr hpa hfs hfs' rd e1 e2 hm fz c5
      go_wp2_with fail
      go_region
      all_goals
        go_wp2_with (go_at_call 14
                     refine Calls.mono (delRefill (base := base) (xs := (x :: r).flatMap fCells) (by omega) (fCells_one _) ?ha) ?_
                     case ha => exact own_same (by first | exact HSVN.out.fs | exact HSVN.out.drew.fs) rfl (by simp; exact HMM.out)
                     rintro e w5 ⟨rfl, ho5, hu5⟩
                     have s4 := SvV.of (base := base) (g := g) (v1 := .slice A1 n1 cap1) (v2 := .slice (some ⟨g2, 0, none⟩) (m + 1) cap2) (S := { S with now := now, av := a + x.2, fs := x :: r }) hu5 (by first | exact HSVN.out | exact HSVN.out.drew)
                     have m4 := Mr.of (P := srvT) (w0 := w) (base := base) hu5 (by first | exact HMRN.out | exact HMRN.out.drew)
                     have m5 := Mr.ofUpd (P := [46]) (base := base) hu5 (fun k _ q => by unfold at1 at q; subst q; exact own_tcr s4.fs (by decide) (Nat.le_refl _) _ rfl)
                     have r5 := s4.row.mr m5 (by decide)
                     have k5 := r5.cell (i := 5) rfl
                     have f5 := r5.frozen)
        go_roundg (r.length)
        case measure => simp at hgl; omega
        case rel =>
          refine ⟨r, Nat.le_refl _, a + x.2, _, by rw [← HPR.out, HE1.out], by rw [← HPA.out, HE2.out]; omega, by omega, by omega, fun y hy => HMEM.out y (by simp [hy]), ⟨s4.hb, ?_, (r5.set 5 _).same rfl, ?_, ?_⟩, (m4.trans (m5.more (by decide))).set r5 (by decide) s4.hb 5 _⟩
          · have := m5.size; have := s4.hs; simp; omega
          · exact own_cell' (own_mr s4.cs m5 (by decide)) r5 (by decide) 5 _
          · exact own_same (own_cell' ho5 r5 (by decide) 5 _) rfl (by simp; exact HMM.out.symm)
    · obtain ⟨e1, e2⟩ := exitF hgo
      rw [e1] at hpr
      rw [e2] at hpa
      have hr0 := sumF_nonneg (l := l) (fun y hy => HFS.out y (hmem y hy))
      have hll : l.length ≤ S.fs.length := by rw [hpr]; exact (popR_sub _ _).length_le
      have hfl := HFIT.out.fl
      have HPR2 := Lib.hid hpr
      have ea : a = S.av + popA now S.fs := by omega
      have HPA2 := Lib.hid ea
      clear ea
      have hmi : ∀ m : Nat, (0 : Int) < ((m + 1 : Nat) : Int) := fun m => by omega
      have hex := exitV hsv hgo
      have c4 := hsv.row.cell (i := 4) rfl
      clear hsv hmr hmem hpr hpa hfs e1 e2 hgo hgl
      rcases hex with ⟨A2, cap2, rfl⟩ | ⟨g2, cap2, m2, x2, rfl, a0, a0d⟩
      all_goals
        go_wp2
        go_loopw [69] (fun idx wr => ∃ (k : Nat) (v5 : Value), k ≤ n1 ∧ idx = .int .i64 k ∧ SvV wr base g (.slice A1 n1 cap1) v5 { S with now := now, av := a + leftS (S.cs.take k), fs := l ++ backF (S.cs.take k) } ∧ Mr srvT base w wr) (fun idx _ => n1 - (intOf idx).toNat)
        case atStart =>
          exact ⟨0, _, Nat.zero_le _, rfl, start0 HSV.out, HMR.out⟩
        case round =>
          obtain ⟨k, v5, hk, rfl, hst, hmt⟩ := hrel
          clear c3 c4 c5 hf
          by_cases hkl : k < n1
          · obtain ⟨x, hx⟩ : ∃ x, S.cs[k]? = some x := ⟨S.cs[k]'(by rw [HN1.out]; exact hkl), List.getElem?_eq_getElem _⟩
            have hcs1 := hst.cs
            rw [HN1.out] at hcs1
            obtain ⟨g1, cap', e1, hc1, hc2, hb1, rd, fz⟩ := own_form hcs1 (by omega)
            injection e1 with e1 _ e3
            subst e1 e3
            obtain ⟨a0x, a1x, a2x⟩ := cells3 rd hx
            have hx0 := HFIT.out.cs x (List.mem_iff_getElem?.2 ⟨k, hx⟩)
            have ht0 := leftS_nonneg (l := S.cs.take k) (fun c hc => HFIT.out.cs c (List.mem_of_mem_take hc))
            have ht1 := leftS_take HFIT.out.cs (k + 1)
            rw [leftS_step hx] at ht1
            obtain ⟨tk, htk⟩ : ∃ tk, leftS (S.cs.take k) = tk := ⟨_, rfl⟩
            rw [htk] at ht0 ht1
            have HTK := Lib.hid htk
            have HX := Lib.hid hx
            have hal : Upd No wr (wr.alloc (.cells #[.int .i64 x.1, .int .i64 x.2.1, .int .i64 x.2.2] 44)) := (Upd.refl No wr).alloc _
            have hbx := hst.row.alloc (.cells #[.int .i64 x.1, .int .i64 x.2.1, .int .i64 x.2.2] 44)
            have b3 := hbx.cell (i := 3) rfl
            rw [htk] at b3
            have bf := hbx.frozen
            have hlt := hst.row.lt
            have hng : ¬ wr.heap.size = g := by omega
            have hng' : ¬ g = wr.heap.size := by omega
            have hsa := hst.setAv (a + tk + x.1)
            have HSA := Lib.hid hsa
            have HMA := Lib.hid (hst.mset hmt 3 (.int .i64 (a + tk + x.1)))
            have hord : ∀ f ∈ l ++ backF (S.cs.take k), f.1 ≤ x.2.2 := fun f hf => by
              rcases List.mem_append.1 hf with q | q
              · exact HFIT.out.ord f (HMEM.out f q) x (List.mem_iff_getElem?.2 ⟨k, hx⟩)
              · obtain ⟨c, hc, rfl, _⟩ := backF_mem q
                exact row_le HFIT.out.row hx hc
            have HORD := Lib.hid hord
            have hlen : (l ++ backF (S.cs.take k)).length < 1000000 := by
              have := backF_len (S.cs.take k)
              have q2 : (S.cs.take k).length ≤ k := by simp; omega
              rw [List.length_append]; omega
            have HLEN := Lib.hid hlen
            clear hst hmt hx htk hcs1 rd hsa hord hlen hbx fz hal
            go_wp2_with fail
            go_region
            all_goals
              go_wp2_with (go_at_call 15
                           refine Calls.mono (srvNote (base := base) (v1 := .slice (some ⟨g1, 0, none⟩) n1 cap1) (v2 := v5) (S := { S with now := now, av := a + tk + x.1, fs := l ++ backF (S.cs.take k) }) ?ha x HORD.out HLEN.out) ?_
                           case ha => exact HSA.out.updNo (by repeat (first | with_reducible assumption | exact Upd.refl _ _ | (refine Upd.setNew ?_ (by first | (simp; done) | (simp; omega)) _) | (refine Upd.alloc ?_ _) | (refine Upd.drewN ?_ _) | (refine Upd.drew ?_) | (refine Upd.trans ?_ (by with_reducible assumption))))
                           rintro e w6 ⟨rfl, v6, hs6, hm6⟩
                           have m6 : Mr srvT base w w6 := Mr.trans (Mr.trans HMA.out (Mr.ofNo (by repeat (first | with_reducible assumption | exact Upd.refl _ _ | (refine Upd.setNew ?_ (by first | (simp; done) | (simp; omega)) _) | (refine Upd.alloc ?_ _) | (refine Upd.drewN ?_ _) | (refine Upd.drew ?_) | (refine Upd.trans ?_ (by with_reducible assumption)))))) (hm6.more (by decide)))
              go_roundw
              case rel =>
                refine ⟨k + 1, v6, by omega, by go_num, ?_, m6⟩
                rw [← HTK.out, note_step HX.out] at hs6
                exact hs6
              case measure => simp [intOf]; omega
          · have ek : k = n1 := by omega
            subst ek
            have b4 := hst.row.frozen
            have c4 := hst.row.cell (i := 4) rfl
            have HST := Lib.hid hst
            have HMT := Lib.hid hmt
            clear hst hmt
            go_wp2
            go_ret
            have hst := HST.out
            rw [← HN1.out, List.take_length] at hst
            rw [← HPR2.out, ← HPA2.out]
            refine ⟨rfl, ⟨_, _, ⟨hst.hb, by simpa using hst.hs, (hst.row.set 4 _).same rfl, World.ownsRow_nil _ _ _ _, own_cell' hst.fs hst.row (by decide) 4 _⟩⟩, HMT.out.set hst.row (by decide) hst.hb 4 _⟩

set_option maxHeartbeats 2000000 in
theorem srvBegin1 {base g : Nat} {S : Sv} {w : World} (h : SrvAt w base g S) (hfit : S.fit) (now : Int) (h0 : S.now ≤ now) (h1 : 0 ≤ now ∧ now ≤ 1099511627776) (h2 : 0 < S.av + popA now S.fs) :
    Calls Try.prog 8 #[.pointer (some ⟨g, 0, none⟩), .int .i64 now, .bool true] w fun e w' => e = .returned (.bool true) ∧ SrvAt w' base g (beginS S now true) ∧ Mr srvT base w w' := by
  obtain ⟨v1, v2, h⟩ := h
  have c2 := h.row.cell (i := 2) rfl
  have hf := h.row.frozen
  have hq : decide (now < S.now) = false := decide_eq_false (by omega)
  have e : beginS S now true = { S with now := now, av := 0, fs := popR now S.fs, cs := S.cs ++ [(S.av + popA now S.fs, 0, now + S.p)] } := by simp [beginS, h2]
  rw [e]
  obtain ⟨A1, cap1, rfl, hca1, hca2, hrd1⟩ := own_read h.cs
  obtain ⟨n1, hn1⟩ : ∃ n1, S.cs.length = n1 := ⟨_, rfl⟩
  have p0 : Pops S now w base g (.slice A1 n1 cap1) S.fs (w.setCell ⟨g, 2, none⟩ (.int .i64 now)) := by
    rw [← hn1]
    exact ⟨S.av, v2, rfl, rfl, hfit.av, hfit.sum, fun x hx => hx, h.setNow now, h.mset (Mr.refl _ _ _) 2 _⟩
  have HP0 := Lib.hid p0
  have HFS := Lib.hid hfit.fs
  have HN1 := Lib.hid hn1
  have hcl := hfit.cl
  rw [hn1] at hca1 hcl
  have HFIT := Lib.hid hfit
  have HL := Lib.hid (leftS_nonneg hfit.cs)
  clear h e p0 hrd1 hn1 hfit
  go_enter Try.func8, Try.ntmps8
  go_wp2
  go_loopg [23] S.fs.length (fun gg _ wr => ∃ l : List (Int × Int), l.length ≤ gg ∧ Pops S now w base g (.slice A1 n1 cap1) l wr)
  case atStart => exact ⟨S.fs, Nat.le_refl _, HP0.out⟩
  case round =>
    obtain ⟨l, hgl, a, v2', hpr, hpa, ha0, hsum, hmem, hsv, hmr⟩ := hrel
    clear c2 hf
    have HPR := Lib.hid hpr
    have HPA := Lib.hid hpa
    have HSV := Lib.hid hsv
    have HMR := Lib.hid hmr
    have HMEM := Lib.hid hmem
    have hl0 := HL.out
    have c3 := hsv.row.cell (i := 3) rfl
    have c5 := hsv.row.cell (i := 5) rfl
    have hf := hsv.row.frozen
    have hfs := hsv.fs
    by_cases hgo : ∃ x r, l = x :: r ∧ x.1 ≤ now
    · obtain ⟨x, r, rfl, hxt⟩ := hgo
      have hx0 := HFS.out x (hmem x (by simp))
      have hr0 := sumF_nonneg (l := r) (fun y hy => HFS.out y (hmem y (by simp [hy])))
      rw [sumF_cons] at hsum
      have hfs' : wr.ownsRow base 46 2 v2' (r.length + 1) ([.int .i64 x.1, .int .i64 x.2] ++ r.flatMap fCells) := hfs
      obtain ⟨g2, cap2, rfl, hc1, hc2, hb2, rd, fz⟩ := own_form hfs' (by omega)
      have a0 : wr.cell? ⟨g2, 0, none⟩ = some (.int .i64 x.1) := by
        rcases rd 0 with q | q
        · rw [q]; rfl
        · simp at q
      have a1 : wr.cell? ⟨g2, 1, none⟩ = some (.int .i64 x.2) := by
        rcases rd 1 with q | q
        · rw [q]; rfl
        · simp at q
      have hne : g ≠ g2 := by
        rintro rfl
        rcases hfs'.2 with ⟨q, _⟩ | ⟨g', cap', cur, q, _, hg, _⟩
        · cases q
        · cases q
          have := hsv.row; unfold Row at this; rw [this] at hg; simp at hg
      have hne' : g2 ≠ g := fun e => hne e.symm
      have e1 : popR now (x :: r) = popR now r := by simp [popR, hxt]
      have e2 : popA now (x :: r) = x.2 + popA now r := by simp [popA, hxt]
      obtain ⟨m, hm⟩ : ∃ m, r.length = m := ⟨_, rfl⟩
      have HMM := Lib.hid hm
      have HE1 := Lib.hid e1
      have HE2 := Lib.hid e2
      have c5' : wr.cell? ⟨g, 5, none⟩ = some (.slice (some ⟨g2, 0, none⟩) (m + 1) cap2) := by rw [← hm]; exact c5
      rw [hm] at hc1 hfs'
      have HFSS := Lib.hid hfs'
      have hmi : (0 : Int) < ((m + 1 : Nat) : Int) := by omega
      have hsvn := hsv.setAv (a + x.2)
      rw [hm] at hsvn
      have HMRN := Lib.hid (hsv.mset hmr 3 (.int .i64 (a + x.2)))
      have HSVN := Lib.hid hsvn
      clear hsv hsvn hmr hmem hpr hpa hfs hfs' rd e1 e2 hm fz c5
      go_wp2_with fail
      go_region
      all_goals
        go_wp2_with (go_at_call 14
                     refine Calls.mono (delRefill (base := base) (xs := (x :: r).flatMap fCells) (by omega) (fCells_one _) ?ha) ?_
                     case ha => exact own_same (by first | exact HSVN.out.fs | exact HSVN.out.drew.fs) rfl (by simp; exact HMM.out)
                     rintro e w5 ⟨rfl, ho5, hu5⟩
                     have s4 := SvV.of (base := base) (g := g) (v1 := .slice A1 n1 cap1) (v2 := .slice (some ⟨g2, 0, none⟩) (m + 1) cap2) (S := { S with now := now, av := a + x.2, fs := x :: r }) hu5 (by first | exact HSVN.out | exact HSVN.out.drew)
                     have m4 := Mr.of (P := srvT) (w0 := w) (base := base) hu5 (by first | exact HMRN.out | exact HMRN.out.drew)
                     have m5 := Mr.ofUpd (P := [46]) (base := base) hu5 (fun k _ q => by unfold at1 at q; subst q; exact own_tcr s4.fs (by decide) (Nat.le_refl _) _ rfl)
                     have r5 := s4.row.mr m5 (by decide)
                     have k5 := r5.cell (i := 5) rfl
                     have f5 := r5.frozen)
        go_roundg (r.length)
        case measure => simp at hgl; omega
        case rel =>
          refine ⟨r, Nat.le_refl _, a + x.2, _, by rw [← HPR.out, HE1.out], by rw [← HPA.out, HE2.out]; omega, by omega, by omega, fun y hy => HMEM.out y (by simp [hy]), ⟨s4.hb, ?_, (r5.set 5 _).same rfl, ?_, ?_⟩, (m4.trans (m5.more (by decide))).set r5 (by decide) s4.hb 5 _⟩
          · have := m5.size; have := s4.hs; simp; omega
          · exact own_cell' (own_mr s4.cs m5 (by decide)) r5 (by decide) 5 _
          · exact own_same (own_cell' ho5 r5 (by decide) 5 _) rfl (by simp; exact HMM.out.symm)
    · obtain ⟨e1, e2⟩ := exitF hgo
      rw [e1] at hpr
      rw [e2] at hpa
      have hr0 := sumF_nonneg (l := l) (fun y hy => HFS.out y (hmem y hy))
      have hll : l.length ≤ S.fs.length := by rw [hpr]; exact (popR_sub _ _).length_le
      have hfl := HFIT.out.fl
      have HPR2 := Lib.hid hpr
      have ea : a = S.av + popA now S.fs := by omega
      have HPA2 := Lib.hid ea
      clear ea
      have hmi : ∀ m : Nat, (0 : Int) < ((m + 1 : Nat) : Int) := fun m => by omega
      have hex := exitV hsv hgo
      have c4 := hsv.row.cell (i := 4) rfl
      clear hsv hmr hmem hpr hpa hfs e1 e2 hgo hgl
      rcases hex with ⟨A2, cap2, rfl⟩ | ⟨g2, cap2, m2, x2, rfl, a0, a0d⟩
      all_goals
        have hza : decide (0 < a) = true := by rw [HPA2.out]; exact decide_eq_true (by omega)
        have hp := HFIT.out.p
        have hw : IntKind.i64.wrap (now + S.p) = now + S.p := IntWalk.i64_in _ (by omega)
        have c1 := HSV.out.row.cell (i := 1) rfl
        have hal : Upd No wr (wr.alloc (.cells #[.int .i64 a, .int .i64 0, .int .i64 (now + S.p)] 44)) := (Upd.refl No wr).alloc _
        have b1 := (HSV.out.row.updNo hal).cell (i := 1) rfl
        have b3 := (HSV.out.row.updNo hal).cell (i := 3) rfl
        have b4 := (HSV.out.row.updNo hal).cell (i := 4) rfl
        have hoc := HSV.out.cs
        have e1 : ({ S with now := now, av := a, fs := l } : Sv).cs.length = n1 := HN1.out
        rw [e1] at hoc
        have HOC := Lib.hid hoc
        have hsz := HSV.out.hs
        clear hal hoc e1
        go_wp2_with fail
        go_region_law (first
          | (refine wp_app (.tmp 98) (.tmp 111) elemChunk rfl (base := base) rfl (own_updNo HOC.out (by repeat (first | with_reducible assumption | exact Upd.refl _ _ | (refine Upd.setNew ?_ (by first | (simp; done) | (simp; omega)) _) | (refine Upd.alloc ?_ _) | (refine Upd.drewN ?_ _) | (refine Upd.drew ?_) | (refine Upd.trans ?_ (by with_reducible assumption))))) rfl (ys := [.int .i64 a, .int .i64 0, .int .i64 (now + S.p)]) (m := 1) rfl ?h5 ?h6 ?h7 ?h8 ?h9 ?_
             case h5 => (refine Row.rd' (T := 44) ?_; (repeat (first | with_reducible assumption | with_reducible (refine Row.drew ?_) | with_reducible (refine Row.drewN ?_ _) | (with_reducible (refine Row.newAt _ _ _ _ ?_); first | rfl | (simp; done)) | with_reducible (refine Row.alloc ?_ _) | with_reducible (refine Row.updNo ?_ (by with_reducible assumption)))); done)
             case h6 => simp [Value.oneCell']
             case h7 => omega
             case h8 => omega
             case h9 => simp; omega
             intro v6 w6 ho6 hg6
             obtain ⟨A6, cap6, rfl, _, _, _⟩ := own_read ho6
             have m6 : Mr [44] base wr w6 := Mr.app (Mr.ofNo (by repeat (first | with_reducible assumption | exact Upd.refl _ _ | (refine Upd.setNew ?_ (by first | (simp; done) | (simp; omega)) _) | (refine Upd.alloc ?_ _) | (refine Upd.drewN ?_ _) | (refine Upd.drew ?_) | (refine Upd.trans ?_ (by with_reducible assumption))))) (own_updNo HOC.out (by repeat (first | with_reducible assumption | exact Upd.refl _ _ | (refine Upd.setNew ?_ (by first | (simp; done) | (simp; omega)) _) | (refine Upd.alloc ?_ _) | (refine Upd.drewN ?_ _) | (refine Upd.drew ?_) | (refine Upd.trans ?_ (by with_reducible assumption))))) hg6 (by decide) (Nat.le_refl _)
             have r6 := HSV.out.row.mr m6 (by decide)
             have k6 := r6.cell (i := 3) rfl
             have k6' := r6.cell (i := 4) rfl
             have f6 := r6.frozen))
        all_goals
          (try go_simp)
          go_wp2
          go_ret
          rw [← HPR2.out, ← HPA2.out]
          have q1 : SvV (w6.setCell ⟨g, 4, none⟩ (.slice A6 (n1 + 1) cap6)) base g (.slice A6 (n1 + 1) cap6) _ { S with now := now, av := a, fs := l, cs := S.cs ++ [(a, 0, now + S.p)] } :=
            ⟨HSV.out.hb, (by have := m6.size; simp; omega), (r6.set 4 _).same rfl, own_same (own_cell' ho6 r6 (by decide) 4 _) (by simp [cCells]) (by simp; exact HN1.out.symm), own_cell' (own_mr HSV.out.fs m6 (by decide)) r6 (by decide) 4 _⟩
          have q2 : Mr srvT base w (w6.setCell ⟨g, 4, none⟩ (.slice A6 (n1 + 1) cap6)) := (HMR.out.trans (m6.more (by decide))).set r6 (by decide) HSV.out.hb 4 _
          have q3 := q1.setAv 0
          have q4 := q1.mset q2 3 (.int .i64 0)
          first
            | exact ⟨rfl, ⟨_, _, q3⟩, q4⟩
            | exact ⟨rfl, ⟨_, _, q3.drew⟩, q4.drew⟩

set_option maxHeartbeats 2000000 in
theorem srvBegin2 {base g : Nat} {S : Sv} {w : World} (h : SrvAt w base g S) (hfit : S.fit) (now : Int) (h0 : S.now ≤ now) (h1 : 0 ≤ now ∧ now ≤ 1099511627776) (h2 : ¬ 0 < S.av + popA now S.fs) :
    Calls Try.prog 8 #[.pointer (some ⟨g, 0, none⟩), .int .i64 now, .bool true] w fun e w' => e = .returned (.bool true) ∧ SrvAt w' base g (beginS S now true) ∧ Mr srvT base w w' := by
  obtain ⟨v1, v2, h⟩ := h
  have c2 := h.row.cell (i := 2) rfl
  have hf := h.row.frozen
  have hq : decide (now < S.now) = false := decide_eq_false (by omega)
  have e : beginS S now true = { S with now := now, av := S.av + popA now S.fs, fs := popR now S.fs } := by simp [beginS, h2]
  rw [e]
  obtain ⟨A1, cap1, rfl, hca1, hca2, hrd1⟩ := own_read h.cs
  obtain ⟨n1, hn1⟩ : ∃ n1, S.cs.length = n1 := ⟨_, rfl⟩
  have p0 : Pops S now w base g (.slice A1 n1 cap1) S.fs (w.setCell ⟨g, 2, none⟩ (.int .i64 now)) := by
    rw [← hn1]
    exact ⟨S.av, v2, rfl, rfl, hfit.av, hfit.sum, fun x hx => hx, h.setNow now, h.mset (Mr.refl _ _ _) 2 _⟩
  have HP0 := Lib.hid p0
  have HFS := Lib.hid hfit.fs
  have HN1 := Lib.hid hn1
  have hcl := hfit.cl
  rw [hn1] at hca1 hcl
  have HFIT := Lib.hid hfit
  have HL := Lib.hid (leftS_nonneg hfit.cs)
  clear h e p0 hrd1 hn1 hfit
  go_enter Try.func8, Try.ntmps8
  go_wp2
  go_loopg [23] S.fs.length (fun gg _ wr => ∃ l : List (Int × Int), l.length ≤ gg ∧ Pops S now w base g (.slice A1 n1 cap1) l wr)
  case atStart => exact ⟨S.fs, Nat.le_refl _, HP0.out⟩
  case round =>
    obtain ⟨l, hgl, a, v2', hpr, hpa, ha0, hsum, hmem, hsv, hmr⟩ := hrel
    clear c2 hf
    have HPR := Lib.hid hpr
    have HPA := Lib.hid hpa
    have HSV := Lib.hid hsv
    have HMR := Lib.hid hmr
    have HMEM := Lib.hid hmem
    have hl0 := HL.out
    have c3 := hsv.row.cell (i := 3) rfl
    have c5 := hsv.row.cell (i := 5) rfl
    have hf := hsv.row.frozen
    have hfs := hsv.fs
    by_cases hgo : ∃ x r, l = x :: r ∧ x.1 ≤ now
    · obtain ⟨x, r, rfl, hxt⟩ := hgo
      have hx0 := HFS.out x (hmem x (by simp))
      have hr0 := sumF_nonneg (l := r) (fun y hy => HFS.out y (hmem y (by simp [hy])))
      rw [sumF_cons] at hsum
      have hfs' : wr.ownsRow base 46 2 v2' (r.length + 1) ([.int .i64 x.1, .int .i64 x.2] ++ r.flatMap fCells) := hfs
      obtain ⟨g2, cap2, rfl, hc1, hc2, hb2, rd, fz⟩ := own_form hfs' (by omega)
      have a0 : wr.cell? ⟨g2, 0, none⟩ = some (.int .i64 x.1) := by
        rcases rd 0 with q | q
        · rw [q]; rfl
        · simp at q
      have a1 : wr.cell? ⟨g2, 1, none⟩ = some (.int .i64 x.2) := by
        rcases rd 1 with q | q
        · rw [q]; rfl
        · simp at q
      have hne : g ≠ g2 := by
        rintro rfl
        rcases hfs'.2 with ⟨q, _⟩ | ⟨g', cap', cur, q, _, hg, _⟩
        · cases q
        · cases q
          have := hsv.row; unfold Row at this; rw [this] at hg; simp at hg
      have hne' : g2 ≠ g := fun e => hne e.symm
      have e1 : popR now (x :: r) = popR now r := by simp [popR, hxt]
      have e2 : popA now (x :: r) = x.2 + popA now r := by simp [popA, hxt]
      obtain ⟨m, hm⟩ : ∃ m, r.length = m := ⟨_, rfl⟩
      have HMM := Lib.hid hm
      have HE1 := Lib.hid e1
      have HE2 := Lib.hid e2
      have c5' : wr.cell? ⟨g, 5, none⟩ = some (.slice (some ⟨g2, 0, none⟩) (m + 1) cap2) := by rw [← hm]; exact c5
      rw [hm] at hc1 hfs'
      have HFSS := Lib.hid hfs'
      have hmi : (0 : Int) < ((m + 1 : Nat) : Int) := by omega
      have hsvn := hsv.setAv (a + x.2)
      rw [hm] at hsvn
      have HMRN := Lib.hid (hsv.mset hmr 3 (.int .i64 (a + x.2)))
      have HSVN := Lib.hid hsvn
      clear hsv hsvn hmr hmem hpr hpa hfs hfs' rd e1 e2 hm fz c5
      go_wp2_with fail
      go_region
      all_goals
        go_wp2_with (go_at_call 14
                     refine Calls.mono (delRefill (base := base) (xs := (x :: r).flatMap fCells) (by omega) (fCells_one _) ?ha) ?_
                     case ha => exact own_same (by first | exact HSVN.out.fs | exact HSVN.out.drew.fs) rfl (by simp; exact HMM.out)
                     rintro e w5 ⟨rfl, ho5, hu5⟩
                     have s4 := SvV.of (base := base) (g := g) (v1 := .slice A1 n1 cap1) (v2 := .slice (some ⟨g2, 0, none⟩) (m + 1) cap2) (S := { S with now := now, av := a + x.2, fs := x :: r }) hu5 (by first | exact HSVN.out | exact HSVN.out.drew)
                     have m4 := Mr.of (P := srvT) (w0 := w) (base := base) hu5 (by first | exact HMRN.out | exact HMRN.out.drew)
                     have m5 := Mr.ofUpd (P := [46]) (base := base) hu5 (fun k _ q => by unfold at1 at q; subst q; exact own_tcr s4.fs (by decide) (Nat.le_refl _) _ rfl)
                     have r5 := s4.row.mr m5 (by decide)
                     have k5 := r5.cell (i := 5) rfl
                     have f5 := r5.frozen)
        go_roundg (r.length)
        case measure => simp at hgl; omega
        case rel =>
          refine ⟨r, Nat.le_refl _, a + x.2, _, by rw [← HPR.out, HE1.out], by rw [← HPA.out, HE2.out]; omega, by omega, by omega, fun y hy => HMEM.out y (by simp [hy]), ⟨s4.hb, ?_, (r5.set 5 _).same rfl, ?_, ?_⟩, (m4.trans (m5.more (by decide))).set r5 (by decide) s4.hb 5 _⟩
          · have := m5.size; have := s4.hs; simp; omega
          · exact own_cell' (own_mr s4.cs m5 (by decide)) r5 (by decide) 5 _
          · exact own_same (own_cell' ho5 r5 (by decide) 5 _) rfl (by simp; exact HMM.out.symm)
    · obtain ⟨e1, e2⟩ := exitF hgo
      rw [e1] at hpr
      rw [e2] at hpa
      have hr0 := sumF_nonneg (l := l) (fun y hy => HFS.out y (hmem y hy))
      have hll : l.length ≤ S.fs.length := by rw [hpr]; exact (popR_sub _ _).length_le
      have hfl := HFIT.out.fl
      have HPR2 := Lib.hid hpr
      have ea : a = S.av + popA now S.fs := by omega
      have HPA2 := Lib.hid ea
      clear ea
      have hmi : ∀ m : Nat, (0 : Int) < ((m + 1 : Nat) : Int) := fun m => by omega
      have hex := exitV hsv hgo
      have c4 := hsv.row.cell (i := 4) rfl
      clear hsv hmr hmem hpr hpa hfs e1 e2 hgo hgl
      rcases hex with ⟨A2, cap2, rfl⟩ | ⟨g2, cap2, m2, x2, rfl, a0, a0d⟩
      all_goals
        have hza : decide (0 < a) = false := by rw [HPA2.out]; exact decide_eq_false (by omega)
        go_wp2
        go_ret
        rw [← HPR2.out, ← HPA2.out]
        exact ⟨rfl, ⟨_, _, HSV.out⟩, HMR.out⟩

theorem srvBegin {base g : Nat} {S : Sv} {w : World} (h : SrvAt w base g S) (hfit : S.fit) (now : Int) (h0 : S.now ≤ now) (h1 : 0 ≤ now ∧ now ≤ 1099511627776) (ready : Bool) :
    Calls Try.prog 8 #[.pointer (some ⟨g, 0, none⟩), .int .i64 now, .bool ready] w fun e w' => e = .returned (.bool true) ∧ SrvAt w' base g (beginS S now ready) ∧ Mr srvT base w w' := by
  cases ready
  · exact srvBegin0 h hfit now h0 h1
  · by_cases h2 : 0 < S.av + popA now S.fs
    · exact srvBegin1 h hfit now h0 h1 h2
    · exact srvBegin2 h hfit now h0 h1 h2

end Go.Proofs.Ytojlkjmdcoolnaa
