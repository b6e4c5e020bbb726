/- AdmitFits: the list of reservations that were taken in; fits; the plain law. -/
import Derived.Test.YtdjnjfmdmcfamaaBook4
namespace Go.Proofs.Ytdjnjfmdmcfamaa
open Go.RowKit

def rsCells (x : Int × Int) : List Value := [.int .i64 x.1, .int .i64 x.2]
def sumS (l : List (Int × Int)) : Int := (l.map fun x => shareP x.1 x.2).sum
theorem sumS_nil : sumS [] = 0 := rfl
theorem sumS_cons (x : Int × Int) (p : List (Int × Int)) : sumS (x :: p) = shareP x.1 x.2 + sumS p := by simp [sumS]
theorem sumS_app (p q : List (Int × Int)) : sumS (p ++ q) = sumS p + sumS q := by simp [sumS]
def allR (l : List (Int × Int)) : Prop := ∀ x, x ∈ l → resB x.1 x.2 = true
theorem share_pos {x : Int × Int} (h : resB x.1 x.2 = true) : 1 ≤ shareP x.1 x.2 ∧ shareP x.1 x.2 ≤ 4294967296 := shareP_le ((resB_iff _ _).1 h).1 ((resB_iff _ _).1 h).2.1
theorem sumS_nonneg {p : List (Int × Int)} (h : allR p) : 0 ≤ sumS p := by
  induction p with
  | nil => simp [sumS]
  | cons x p ih => rw [sumS_cons]; have := (share_pos (h x (by simp))).1; have := ih (fun y hy => h y (by simp [hy])); omega
theorem sumS_take {p : List (Int × Int)} (h : allR p) (k : Nat) : sumS (p.take k) ≤ sumS p := by
  have e : sumS p = sumS (p.take k) + sumS (p.drop k) := by rw [← sumS_app, List.take_append_drop]
  have := sumS_nonneg (p := p.drop k) (fun x hx => h x (List.mem_of_mem_drop hx))
  omega

theorem Rd.rs {w : World} {A : Option Addr} {l : List (Int × Int)} (h : Rd w A (l.flatMap rsCells)) {k : Nat} {t : Int × Int} (ht : l[k]? = some t) :
    ∃ g o, A = some ⟨g, o, none⟩ ∧ w.cell? ⟨g, o + k * 2, none⟩ = some (.int .i64 t.1) ∧ w.cell? ⟨g, o + k * 2 + 1, none⟩ = some (.int .i64 t.2) := by
  have hne : l.flatMap rsCells ≠ [] := by
    intro e
    have h1 := flat_get rsCells 2 (fun _ => rfl) l k t ht 0 (by omega)
    rw [e] at h1; simp [rsCells] at h1
  obtain ⟨g, o, e, hc⟩ := h hne
  refine ⟨g, o, e, ?_, ?_⟩
  · exact hc (k * 2) _ (by have := flat_get rsCells 2 (fun _ => rfl) l k t ht 0 (by omega); simpa [rsCells] using this)
  · exact hc (k * 2 + 1) _ (by have := flat_get rsCells 2 (fun _ => rfl) l k t ht 1 (by omega); simpa [rsCells] using this)

theorem lawFits (A : Option Addr) (len cap : Nat) (l : List (Int × Int)) (hn : len = l.length) (hm : len ≤ 9223372036854775807) (hr : allR l) (hs : sumS l ≤ 4294967296) (w : World) (H : Rd w A (l.flatMap rsCells)) :
    Calls Try.prog 10 #[.slice A len cap] w fun e w' => e = .returned (.bool true) ∧ Upd No w w' := by
  have HR : Hid (allR l) := Lib.hid hr
  have HN := Lib.hid hn
  clear hr hn
  go_enter Try.func10, Try.ntmps10
  go_wp2
  go_loopw [3, 4] (fun n i wr => ∃ k : Nat, k ≤ len ∧ i = .int .i64 k ∧ n = .int .u64 (sumS (l.take k)) ∧ Upd No w wr) (fun _ i _ => len - (intOf i).toNat)
  case atStart => exact ⟨0, Nat.zero_le _, rfl, rfl, Upd.refl _ _⟩
  case round =>
    obtain ⟨k, hk, rfl, rfl, hu⟩ := hrel
    have s0 := sumS_nonneg (p := l.take k) (fun x hx => HR.out x (List.mem_of_mem_take hx))
    by_cases hlt : k < len
    · obtain ⟨t, ht⟩ : ∃ t, l[k]? = some t := ⟨l[k]'(by rw [← HN.out]; exact hlt), List.getElem?_eq_getElem _⟩
      obtain ⟨g, o, rfl, -, -⟩ := H.rs ht
      have hcell : ∀ w1, Upd No w w1 → w1.cell? ⟨g, o + k * 2, none⟩ = some (.int .i64 t.1) ∧ w1.cell? ⟨g, o + k * 2 + 1, none⟩ = some (.int .i64 t.2) := fun w1 hu1 => by
        obtain ⟨g', o', e, c0, c1⟩ := (H.upd hu1).rs ht
        cases e
        exact ⟨c0, c1⟩
      obtain ⟨c0, c1⟩ := hcell wr hu
      have HC := Lib.hid hcell
      have hrt := HR.out t (List.mem_iff_getElem?.2 ⟨k, ht⟩)
      have HT := Lib.hid hrt
      have hst : sumS (l.take (k + 1)) = sumS (l.take k) + shareP t.1 t.2 := by rw [List.take_add_one, ht, sumS_app]; simp [sumS]
      have h1 := sumS_take HR.out (k + 1)
      have h2 := share_pos hrt
      rw [hst] at h1
      have HST := Lib.hid hst
      clear hcell hrt hst ht
      go_wp2_with (first
        | (go_at_call 11; refine (ref04Right t.1 t.2 _).mono ?_; rw [HT.out]; rintro e w1 ⟨rfl, hu1⟩; obtain ⟨d0, d1⟩ := HC.out w1 (by repeat (first | with_reducible assumption | exact Upd.refl _ _ | (refine Upd.setNew ?_ (by first | (simp; done) | (simp; omega)) _) | (refine Upd.alloc ?_ _) | (refine Upd.drewN ?_ _) | (refine Upd.drew ?_) | (refine Upd.trans ?_ (by with_reducible assumption)))))
        | (go_at_call 12; refine (refShare t.1 t.2 HT.out _).mono ?_; rintro e w2 ⟨rfl, hu2⟩))
      go_roundw
      case rel => exact ⟨k + 1, by omega, by go_num, by rw [HST.out], (by repeat (first | with_reducible assumption | exact Upd.refl _ _ | (refine Upd.setNew ?_ (by first | (simp; done) | (simp; omega)) _) | (refine Upd.alloc ?_ _) | (refine Upd.drewN ?_ _) | (refine Upd.drew ?_) | (refine Upd.trans ?_ (by with_reducible assumption))))⟩
      case measure => simp [intOf]; omega
    · have e : k = len := by omega
      subst e
      rw [HN.out, List.take_length]
      go_wp2
      go_ret
      exact ⟨ret_bool (by simp), hu⟩

structure FitInv (B : Bk) (W : List (Int × (Int × Int))) : Prop where
  nd : (W.map Prod.fst).Nodup
  rs : allR (W.map Prod.snd)
  f1 : ∀ x, x ∈ W → B.f x.1 = some (shareP x.2.1 x.2.2)
  f2 : ∀ i s, B.f i = some s → ∃ x, x ∈ W ∧ x.1 = i
  us : B.used = sumS (W.map Prod.snd) + sumP B.p
  u1 : B.used ≤ 4294967296
  ps : ∀ x, x ∈ B.p → 0 ≤ x.1

theorem sumS_mem {p : List (Int × Int)} (h : allR p) {x : Int × Int} (hx : x ∈ p) : shareP x.1 x.2 ≤ sumS p := by
  obtain ⟨L, R, rfl⟩ := List.append_of_mem hx
  rw [sumS_app, sumS_cons]
  have := sumS_nonneg (p := L) (fun y hy => h y (by simp [hy]))
  have := sumS_nonneg (p := R) (fun y hy => h y (by simp [hy]))
  omega

theorem FitInv.ok {B : Bk} {W : List (Int × (Int × Int))} (h : FitInv B W) : B.ok := by
  have h1 := sumS_nonneg h.rs
  have h2 := sumP_nonneg h.ps
  have h3 := h.us
  refine ⟨by omega, h.u1, fun i s hs => ?_, h.ps, by omega⟩
  obtain ⟨x, hx, rfl⟩ := h.f2 i s hs
  have h4 := h.f1 x hx
  rw [hs] at h4
  injection h4 with h4
  have hm : x.2 ∈ W.map Prod.snd := List.mem_map.2 ⟨x, hx, rfl⟩
  have := sumS_mem h.rs hm
  have := share_pos (h.rs x.2 hm)
  omega
theorem FitInv.fits {B : Bk} {W : List (Int × (Int × Int))} (h : FitInv B W) : sumS (W.map Prod.snd) ≤ 4294967296 := by
  have := h.us
  have := h.u1
  have := sumP_nonneg h.ps
  omega

theorem FitInv.start : FitInv ⟨0, 0, fun _ => none, []⟩ [] :=
  ⟨by simp, fun x hx => by simp at hx, fun x hx => by simp at hx, fun i s h => by simp at h, by simp [sumS, sumP], by simp, fun x hx => by simp at hx⟩

theorem FitInv.admit {B : Bk} {W : List (Int × (Int × Int))} (h : FitInv B W) {who b p : Int} (h0 : (admitB B who b p).2 = 0) : FitInv (admitB B who b p).1 (W ++ [(who, (b, p))]) := by
  unfold admitB at h0 ⊢
  by_cases hr : resB b p = true
  · rw [if_pos hr] at h0 ⊢
    by_cases hf : (B.f who).isSome = true
    · rw [if_pos hf] at h0; simp at h0
    · rw [if_neg hf] at h0 ⊢
      by_cases hv : 4294967296 < B.used + shareP b p
      · rw [if_pos hv] at h0; simp at h0
      · rw [if_neg hv]
        have hno : ∀ x, x ∈ W → x.1 ≠ who := fun x hx e => hf (by rw [← e, h.f1 x hx]; rfl)
        refine ⟨?_, ?_, ?_, ?_, ?_, ?_, h.ps⟩
        · rw [List.map_append, List.nodup_append]
          refine ⟨h.nd, by simp, fun a ha c hc => ?_⟩
          obtain ⟨x, hx, rfl⟩ := List.mem_map.1 ha
          simp at hc
          subst hc
          exact hno x hx
        · intro x hx
          simp only [List.map_append, List.mem_append, List.map_cons, List.map_nil, List.mem_singleton] at hx
          rcases hx with hx | rfl
          · exact h.rs x hx
          · exact hr
        · intro x hx
          simp only [List.mem_append, List.mem_singleton] at hx
          rcases hx with hx | rfl
          · simp only [if_neg (hno x hx)]; exact h.f1 x hx
          · simp
        · intro i s hs
          simp only at hs
          by_cases hi : i = who
          · exact ⟨(who, (b, p)), by simp, hi.symm⟩
          · rw [if_neg hi] at hs
            obtain ⟨x, hx, e⟩ := h.f2 i s hs
            exact ⟨x, by simp [hx], e⟩
        · have := h.us
          simp only [List.map_append, List.map_cons, List.map_nil, sumS_app, sumS_cons, sumS_nil]
          omega
        · show B.used + shareP b p ≤ _
          omega
  · rw [if_neg hr] at h0; simp at h0
theorem admit_no {B : Bk} {who b p : Int} (h0 : (admitB B who b p).2 ≠ 0) : (admitB B who b p).1 = B := by
  unfold admitB at h0 ⊢
  split
  · split
    · rfl
    · split
      · rfl
      · rename_i h1 h2 h3; rw [if_pos h1, if_neg h2, if_neg h3] at h0; exact (h0 rfl).elim
  · rfl
theorem release_no {B : Bk} {who til : Int} (h0 : (releaseB B who til).2 ≠ 0) : (releaseB B who til).1 = B := by
  unfold releaseB at h0 ⊢
  split
  · rfl
  · rename_i s hs; rw [hs] at h0; exact (h0 rfl).elim
theorem admit_p (B : Bk) (who b p : Int) : (admitB B who b p).1.p = B.p := by
  unfold admitB
  split
  · split
    · rfl
    · split <;> rfl
  · rfl
theorem release_p (B : Bk) (who til : Int) : (releaseB B who til).1.p.length ≤ B.p.length + 1 := by
  unfold releaseB
  split
  · simp
  · split <;> simp
theorem advance_p (B : Bk) (now : Int) : (advanceB B now).1.p.length ≤ B.p.length := by
  unfold advanceB
  split
  · simp
  · exact List.length_filter_le _ _

theorem FitInv.release {B : Bk} {W : List (Int × (Int × Int))} (h : FitInv B W) {who til : Int} (h0 : (releaseB B who til).2 = 0) :
    ∃ L x R, W = L ++ x :: R ∧ x.1 = who ∧ (∀ y, y ∈ L → y.1 ≠ who) ∧ (∀ y, y ∈ R → y.1 ≠ who) ∧ FitInv (releaseB B who til).1 (L ++ R) := by
  cases hf : B.f who with
  | none => simp [releaseB, hf] at h0
  | some s =>
    obtain ⟨x, hx, rfl⟩ := h.f2 who s hf
    obtain ⟨L, R, rfl⟩ := List.append_of_mem hx
    have hs : s = shareP x.2.1 x.2.2 := by have := h.f1 x hx; rw [hf] at this; injection this
    have hnd := h.nd
    rw [List.map_append, List.map_cons, List.nodup_append] at hnd
    obtain ⟨n1, n2, n3⟩ := hnd
    rw [List.nodup_cons] at n2
    have hL : ∀ y, y ∈ L → y.1 ≠ x.1 := fun y hy => n3 y.1 (List.mem_map.2 ⟨y, hy, rfl⟩) x.1 (by simp)
    have hR : ∀ y, y ∈ R → y.1 ≠ x.1 := fun y hy e => n2.1 (by rw [← e]; exact List.mem_map.2 ⟨y, hy, rfl⟩)
    refine ⟨L, x, R, rfl, rfl, hL, hR, ?_⟩
    have hus := h.us
    simp only [List.map_append, List.map_cons, sumS_app, sumS_cons] at hus
    have hnd' : ((L ++ R).map Prod.fst).Nodup := by
      rw [List.map_append, List.nodup_append]
      exact ⟨n1, n2.2, fun a ha c hc => n3 a ha c (by simp [hc])⟩
    have hrs' : allR ((L ++ R).map Prod.snd) := fun y hy => h.rs y (by
      simp only [List.map_append, List.map_cons, List.mem_append, List.mem_cons] at hy ⊢
      rcases hy with hy | hy
      · exact .inl hy
      · exact .inr (.inr hy))
    have hf1 : ∀ y, y ∈ L ++ R → (if y.1 = x.1 then none else B.f y.1) = some (shareP y.2.1 y.2.2) := fun y hy => by
      simp only [List.mem_append] at hy
      have hne : y.1 ≠ x.1 := by rcases hy with hy | hy; exact hL y hy; exact hR y hy
      rw [if_neg hne]
      exact h.f1 y (by simp only [List.mem_append, List.mem_cons]; rcases hy with hy | hy; exact .inl hy; exact .inr (.inr hy))
    have hf2 : ∀ i s', (if i = x.1 then none else B.f i) = some s' → ∃ y, y ∈ L ++ R ∧ y.1 = i := fun i s' hs' => by
      by_cases hi : i = x.1
      · rw [if_pos hi] at hs'; cases hs'
      · rw [if_neg hi] at hs'
        obtain ⟨y, hy, e⟩ := h.f2 i s' hs'
        refine ⟨y, ?_, e⟩
        simp only [List.mem_append, List.mem_cons] at hy ⊢
        rcases hy with hy | rfl | hy
        · exact .inl hy
        · exact (hi e.symm).elim
        · exact .inr hy
    have hpos := share_pos (h.rs x.2 (by simp))
    by_cases hlt : B.now < til
    · have e : (releaseB B x.1 til).1 = { B with f := fun j => if j = x.1 then none else B.f j, p := B.p ++ [(s, til)] } := by simp [releaseB, hf, hlt]
      rw [e]
      refine ⟨hnd', hrs', hf1, hf2, ?_, h.u1, ?_⟩
      · simp only [List.map_append, sumS_app, sumP_app, sumP_cons, sumP_nil]; omega
      · intro y hy
        simp only [List.mem_append, List.mem_singleton] at hy
        rcases hy with hy | rfl
        · exact h.ps y hy
        · show 0 ≤ s; omega
    · have e : (releaseB B x.1 til).1 = { B with f := fun j => if j = x.1 then none else B.f j, used := B.used - s } := by simp [releaseB, hf, hlt]
      rw [e]
      refine ⟨hnd', hrs', hf1, hf2, ?_, ?_, h.ps⟩
      · simp only [List.map_append, sumS_app]; omega
      · have := h.u1; show B.used - s ≤ _; omega

theorem sum_in_out (t : Int) (p : List (Int × Int)) : sumP p = sumP (inP t p) + sumP (outP t p) := by
  induction p with
  | nil => rfl
  | cons x p ih =>
    by_cases h : x.2 ≤ t
    · have h' : ¬ t < x.2 := by omega
      have e1 : outP t (x :: p) = x :: outP t p := by simp [outP, h]
      have e2 : inP t (x :: p) = inP t p := by simp [inP, h']
      rw [e1, e2, sumP_cons, sumP_cons]; omega
    · have h' : t < x.2 := by omega
      have e1 : outP t (x :: p) = outP t p := by simp [outP, h]
      have e2 : inP t (x :: p) = x :: inP t p := by simp [inP, h']
      rw [e1, e2, sumP_cons, sumP_cons]; omega
theorem FitInv.advance {B : Bk} {W : List (Int × (Int × Int))} (h : FitInv B W) (now : Int) : FitInv (advanceB B now).1 W := by
  unfold advanceB
  split
  · exact h
  · refine ⟨h.nd, h.rs, h.f1, h.f2, ?_, ?_, ?_⟩
    · have := h.us; have := sum_in_out now B.p; show B.used - _ = _ + sumP (inP now B.p); omega
    · have := h.u1
      have := sumP_nonneg (p := outP now B.p) (fun x hx => h.ps x (List.mem_filter.1 hx).1)
      show B.used - _ ≤ _; omega
    · exact fun x hx => h.ps x (List.mem_filter.1 hx).1

end Go.Proofs.Ytdjnjfmdmcfamaa
