/- The plain law of AdmitPlays: the program's book and the document's go on side by side. -/
import Derived.Test.YtdjnjfmdmcfamaaRefO
namespace Go.Proofs.Ytdjnjfmdmcfamaa
open Go.RowKit Go.Proofs.Ytdjnjfmdmcfamaa.PAdmitPlays

def goneP (E : List En) : List (Int × Int) := (E.filter (fun e => e.f2)).map (fun e => (e.f1, e.f3))

structure PlayInv (B : Bk) (E : List En) : Prop where
  used : B.used = enSum E
  le : enSum E ≤ 4294967296
  sh : ∀ x, x ∈ E → 0 ≤ x.f1
  f : ∀ who s, B.f who = some s ↔ ∃ x, x ∈ E ∧ mine who x = true ∧ x.f1 = s
  nd : E.Pairwise (fun x y => ¬ (x.f2 = false ∧ y.f2 = false ∧ x.f0 = y.f0))
  p : B.p.Perm (goneP E)
  fut : ∀ x, x ∈ E → x.f2 = true → B.now < x.f3

theorem mine_iff {who : Int} {x : En} : mine who x = true ↔ x.f0 = who ∧ x.f2 = false := by simp [mine]
theorem findE_iff {E : List En} {who : Int} : 0 ≤ findE E who ↔ ∃ x, x ∈ E ∧ mine who x = true := by
  unfold findE
  cases h : E.findIdx? (mine who) with
  | none =>
    rw [List.findIdx?_eq_none_iff] at h
    refine ⟨fun q => by simp at q, fun ⟨x, hx, hm⟩ => ?_⟩
    have := h x hx; rw [this] at hm; cases hm
  | some i =>
    refine ⟨fun _ => ?_, fun _ => by simp⟩
    rw [List.findIdx?_eq_some_iff_getElem] at h
    obtain ⟨h1, h2, _⟩ := h
    exact ⟨E[i], List.getElem_mem _, h2⟩
theorem enSum_mem {E : List En} (h : ∀ x, x ∈ E → 0 ≤ x.f1) {x : En} (hx : x ∈ E) : x.f1 ≤ enSum E := by
  obtain ⟨L, R, rfl⟩ := List.append_of_mem hx
  rw [enSum_app, enSum_cons]
  have h1 := enSum_nonneg (p := L) (fun y hy => h y (by simp [hy]))
  have h2 := enSum_nonneg (p := R) (fun y hy => h y (by simp [hy]))
  omega
theorem goneP_nil : goneP [] = [] := rfl
theorem goneP_cons (x : En) (E : List En) : goneP (x :: E) = if x.f2 = true then (x.f1, x.f3) :: goneP E else goneP E := by
  unfold goneP
  cases h : x.f2 <;> simp [h]
theorem goneP_app (E F : List En) : goneP (E ++ F) = goneP E ++ goneP F := by simp [goneP]
theorem goneP_le {E : List En} (h : ∀ x, x ∈ E → 0 ≤ x.f1) : sumP (goneP E) ≤ enSum E := by
  induction E with
  | nil => simp [goneP, sumP, enSum]
  | cons x E ih =>
    have h1 := ih (fun y hy => h y (by simp [hy]))
    have h2 := h x (by simp)
    rw [goneP_cons, enSum_cons]
    split
    · rw [sumP_cons]; simp only; omega
    · omega
theorem sumP_perm {p q : List (Int × Int)} (h : p.Perm q) : sumP p = sumP q := by
  induction h with
  | nil => rfl
  | cons x _ ih => rw [sumP_cons, sumP_cons, ih]
  | swap x y l => rw [sumP_cons, sumP_cons, sumP_cons, sumP_cons]; omega
  | trans _ _ ih1 ih2 => rw [ih1, ih2]

theorem PlayInv.ok {B : Bk} {E : List En} (h : PlayInv B E) : B.ok where
  u0 := by rw [h.used]; exact enSum_nonneg h.sh
  u1 := by rw [h.used]; exact h.le
  fs := fun i s hs => by
    obtain ⟨x, hx, _, rfl⟩ := (h.f i s).1 hs
    exact ⟨h.sh x hx, by rw [h.used]; exact enSum_mem h.sh hx⟩
  ps := fun x hx => by
    have := h.p.mem_iff.1 hx
    obtain ⟨e, he, rfl⟩ := List.mem_map.1 this
    exact h.sh e (List.mem_filter.1 he).1
  sum := by rw [h.used, sumP_perm h.p]; exact goneP_le h.sh
theorem PlayInv.start : PlayInv ⟨0, 0, fun _ => none, []⟩ [] :=
  ⟨rfl, by simp [enSum], fun _ h => by simp at h, fun who s => ⟨fun h => by simp at h, fun ⟨x, hx, _⟩ => by simp at hx⟩, List.Pairwise.nil, List.Perm.refl _, fun _ h => by simp at h⟩
theorem PlayInv.has {B : Bk} {E : List En} (h : PlayInv B E) (who : Int) : (B.f who).isSome = decide (0 ≤ findE E who) := by
  rw [Bool.eq_iff_iff, decide_eq_true_iff, findE_iff, Option.isSome_iff_exists]
  exact ⟨fun ⟨s, hs⟩ => by obtain ⟨x, hx, hm, _⟩ := (h.f who s).1 hs; exact ⟨x, hx, hm⟩, fun ⟨x, hx, hm⟩ => ⟨x.f1, (h.f who _).2 ⟨x, hx, hm, rfl⟩⟩⟩
theorem PlayInv.pend {B : Bk} {E : List En} (h : PlayInv B E) : (B.p.length : Int) = pendE E := by
  rw [h.p.length_eq]; simp [goneP, pendE]

theorem PlayInv.admit {B : Bk} {E : List En} (h : PlayInv B E) (who b p : Int) :
    (admitB B who b p).2 = (admE E who b p).2 ∧ PlayInv (admitB B who b p).1 (admE E who b p).1 ∧ (admitB B who b p).1.now = B.now ∧ (admE E who b p).1.length ≤ E.length + 1 := by
  unfold admitB admE
  by_cases hr : resB b p = true
  · obtain ⟨hs1, hs2⟩ := shareP_le ((resB_iff _ _).1 hr).1 ((resB_iff _ _).1 hr).2.1
    rw [if_pos hr, if_pos hr, h.has]
    by_cases hf : 0 ≤ findE E who
    · rw [if_pos (by simpa using hf), if_pos hf]
      exact ⟨rfl, h, rfl, by simp⟩
    · rw [if_neg (by simpa using hf), if_neg hf, h.used]
      have hno : ∀ x, x ∈ E → mine who x = true → False := fun x hx hm => hf (findE_iff.2 ⟨x, hx, hm⟩)
      by_cases ho : 4294967296 < enSum E + shareP b p
      · rw [if_pos ho, if_pos ho]; exact ⟨rfl, h, rfl, by simp⟩
      · rw [if_neg ho, if_neg ho]
        refine ⟨rfl, ⟨?_, ?_, ?_, ?_, ?_, ?_, ?_⟩, rfl, by simp⟩
        · rw [enSum_app, enSum_cons, enSum_nil]; simp
        · rw [enSum_app, enSum_cons, enSum_nil]; simp only; omega
        · intro x hx
          rw [List.mem_append, List.mem_singleton] at hx
          rcases hx with hx | rfl
          · exact h.sh x hx
          · show 0 ≤ shareP b p; omega
        · intro i s
          show (if i = who then some (shareP b p) else B.f i) = some s ↔ _
          by_cases hi : i = who
          · subst hi
            rw [if_pos rfl]
            constructor
            · intro e
              injection e with e
              exact ⟨⟨i, shareP b p, false, 0⟩, by simp, mine_iff.2 ⟨rfl, rfl⟩, e⟩
            · rintro ⟨x, hx, hm, rfl⟩
              rw [List.mem_append, List.mem_singleton] at hx
              rcases hx with hx | rfl
              · exact (hno x hx hm).elim
              · rfl
          · rw [if_neg hi, h.f]
            constructor
            · rintro ⟨x, hx, hm, rfl⟩; exact ⟨x, by simp [hx], hm, rfl⟩
            · rintro ⟨x, hx, hm, rfl⟩
              rw [List.mem_append, List.mem_singleton] at hx
              rcases hx with hx | rfl
              · exact ⟨x, hx, hm, rfl⟩
              · exact (hi (mine_iff.1 hm).1.symm).elim
        · rw [List.pairwise_append]
          refine ⟨h.nd, List.pairwise_singleton _ _, fun x hx y hy => ?_⟩
          rw [List.mem_singleton] at hy
          subst hy
          rintro ⟨q1, _, q3⟩
          exact hno x hx (mine_iff.2 ⟨q3, q1⟩)
        · rw [goneP_app]; simpa [goneP] using h.p
        · intro x hx hg
          rw [List.mem_append, List.mem_singleton] at hx
          rcases hx with hx | rfl
          · exact h.fut x hx hg
          · cases hg
  · rw [if_neg hr, if_neg hr]; exact ⟨rfl, h, rfl, by simp⟩

theorem overE_all {now : Int} {L : List En} (h : ∀ x, x ∈ L → x.f2 = true → now < x.f3) : overE now L = L := by
  unfold overE
  rw [List.filter_eq_self]
  intro x hx
  unfold counts
  cases hg : x.f2
  · rfl
  · have := h x hx hg; simp; exact this

theorem PlayInv.release {B : Bk} {E : List En} (h : PlayInv B E) (who til : Int) :
    (releaseB B who til).2 = (relE B.now E who til).2 ∧ PlayInv (releaseB B who til).1 (relE B.now E who til).1 ∧ (releaseB B who til).1.now = B.now ∧ (relE B.now E who til).1.length ≤ E.length := by
  unfold releaseB relE
  cases hf : E.findIdx? (mine who) with
  | none =>
    have hn : B.f who = none := by
      cases hb : B.f who with
      | none => rfl
      | some s =>
        obtain ⟨x, hx, hm, _⟩ := (h.f who s).1 hb
        rw [List.findIdx?_eq_none_iff] at hf
        have := hf x hx; rw [this] at hm; cases hm
    rw [hn]
    exact ⟨rfl, h, rfl, by simp⟩
  | some i =>
    rw [List.findIdx?_eq_some_iff_getElem] at hf
    obtain ⟨hi, hm, _⟩ := hf
    have hx : E[i]? = some E[i] := List.getElem?_eq_getElem hi
    obtain ⟨x, hxe⟩ : ∃ x, E[i] = x := ⟨_, rfl⟩
    rw [hxe] at hx hm
    have hsplit : E = E.take i ++ x :: E.drop (i + 1) := by rw [← hxe, List.getElem_cons_drop, List.take_append_drop]
    obtain ⟨L, hL⟩ : ∃ L, E.take i = L := ⟨_, rfl⟩
    obtain ⟨R, hR⟩ : ∃ R, E.drop (i + 1) = R := ⟨_, rfl⟩
    rw [hL, hR] at hsplit
    have hLl : L.length = i := by rw [← hL]; simp; omega
    obtain ⟨hx0, hx2⟩ := mine_iff.1 hm
    have hbf : B.f who = some x.f1 := (h.f who _).2 ⟨x, by rw [hsplit]; simp, hm, rfl⟩
    rw [hbf]
    dsimp only
    rw [hx]
    dsimp only
    have hset : E.set i ⟨x.f0, x.f1, true, til⟩ = L ++ ⟨x.f0, x.f1, true, til⟩ :: R := by
      conv => lhs; rw [hsplit]
      rw [List.set_append_right _ _ (by omega), hLl, Nat.sub_self, List.set_cons_zero]
    rw [hset]
    have hfutL : ∀ y, y ∈ L → y.f2 = true → B.now < y.f3 := fun y hy => h.fut y (by rw [hsplit]; simp [hy])
    have hfutR : ∀ y, y ∈ R → y.f2 = true → B.now < y.f3 := fun y hy => h.fut y (by rw [hsplit]; simp [hy])
    have hover : overE B.now (L ++ ⟨x.f0, x.f1, true, til⟩ :: R) = if B.now < til then L ++ ⟨x.f0, x.f1, true, til⟩ :: R else L ++ R := by
      have e1 : overE B.now (L ++ ⟨x.f0, x.f1, true, til⟩ :: R) = overE B.now L ++ overE B.now (⟨x.f0, x.f1, true, til⟩ :: R) := by simp [overE]
      rw [e1, overE_all hfutL]
      have e2 : overE B.now ((⟨x.f0, x.f1, true, til⟩ : En) :: R) = if B.now < til then (⟨x.f0, x.f1, true, til⟩ : En) :: overE B.now R else overE B.now R := by
        unfold overE
        rw [List.filter_cons]
        by_cases ht : B.now < til <;> simp [counts, ht]
      rw [e2, overE_all hfutR]
      split <;> rfl
    have hus := h.used
    rw [hsplit, enSum_app, enSum_cons] at hus
    have hsh : ∀ y, y ∈ L ++ R → 0 ≤ y.f1 := fun y hy => h.sh y (by
      rw [hsplit]
      rw [List.mem_append] at hy ⊢
      rcases hy with hy | hy
      · exact .inl hy
      · exact .inr (List.mem_cons_of_mem _ hy))
    have hx1 : 0 ≤ x.f1 := h.sh x (by rw [hsplit]; simp)
    have hnd := h.nd
    rw [hsplit, List.pairwise_append, List.pairwise_cons] at hnd
    obtain ⟨n1, ⟨n2, n3⟩, n4⟩ := hnd
    have hle := h.le
    rw [hsplit, enSum_app, enSum_cons] at hle
    have hLno : ∀ y, y ∈ L → mine who y = true → False := fun y hy hmy => n4 y hy x (by simp) ⟨(mine_iff.1 hmy).2, hx2, by rw [(mine_iff.1 hmy).1, hx0]⟩
    have hRno : ∀ y, y ∈ R → mine who y = true → False := fun y hy hmy => n2 y hy ⟨hx2, (mine_iff.1 hmy).2, by rw [(mine_iff.1 hmy).1, hx0]⟩
    have hpe := h.p
    rw [hsplit, goneP_app, goneP_cons, hx2] at hpe
    simp only [Bool.false_eq_true, if_false] at hpe
    have key : ∀ j s, (if j = who then none else B.f j) = some s ↔ ∃ y, y ∈ L ++ R ∧ mine j y = true ∧ y.f1 = s := fun j s => by
      by_cases hj : j = who
      · subst hj
        rw [if_pos rfl]
        refine ⟨fun q => (by cases q), fun ⟨y, hy, hmy, _⟩ => ?_⟩
        rw [List.mem_append] at hy
        rcases hy with hy | hy
        · exact (hLno y hy hmy).elim
        · exact (hRno y hy hmy).elim
      · rw [if_neg hj, h.f]
        rw [hsplit]
        constructor
        · rintro ⟨y, hy, hmy, rfl⟩
          rw [List.mem_append, List.mem_cons] at hy
          rcases hy with hy | rfl | hy
          · exact ⟨y, by simp [hy], hmy, rfl⟩
          · exact (hj (by rw [← (mine_iff.1 hmy).1, hx0])).elim
          · exact ⟨y, by simp [hy], hmy, rfl⟩
        · rintro ⟨y, hy, hmy, rfl⟩
          rw [List.mem_append] at hy
          exact ⟨y, (by rw [List.mem_append, List.mem_cons]; rcases hy with hy | hy; exact .inl hy; exact .inr (.inr hy)), hmy, rfl⟩
    have hElen : E.length = L.length + 1 + R.length := by rw [hsplit]; simp; omega
    rw [hover]
    by_cases ht : B.now < til
    · rw [if_pos ht, if_pos ht]
      refine ⟨rfl, ⟨?_, ?_, ?_, ?_, ?_, ?_, ?_⟩, rfl, by rw [hElen]; simp; omega⟩
      · show B.used = _; rw [enSum_app, enSum_cons]; exact hus
      · rw [enSum_app, enSum_cons]; exact hle
      · intro y hy
        rw [List.mem_append, List.mem_cons] at hy
        rcases hy with hy | rfl | hy
        · exact hsh y (by simp [hy])
        · exact hx1
        · exact hsh y (by simp [hy])
      · intro j s
        rw [key j s]
        constructor
        · rintro ⟨y, hy, hmy, rfl⟩
          rw [List.mem_append] at hy
          exact ⟨y, (by rw [List.mem_append, List.mem_cons]; rcases hy with hy | hy; exact .inl hy; exact .inr (.inr hy)), hmy, rfl⟩
        · rintro ⟨y, hy, hmy, rfl⟩
          rw [List.mem_append, List.mem_cons] at hy
          rcases hy with hy | rfl | hy
          · exact ⟨y, by simp [hy], hmy, rfl⟩
          · exact absurd (mine_iff.1 hmy).2 (by simp)
          · exact ⟨y, by simp [hy], hmy, rfl⟩
      · rw [List.pairwise_append, List.pairwise_cons]
        refine ⟨n1, ⟨fun y _ q => absurd q.1 (by simp), n3⟩, fun y hy z hz q => ?_⟩
        rw [List.mem_cons] at hz
        rcases hz with rfl | hz
        · exact absurd q.2.1 (by simp)
        · exact n4 y hy z (by simp [hz]) q
      · show (B.p ++ [(x.f1, til)]).Perm _
        rw [goneP_app, goneP_cons]
        simp only [if_true]
        refine (List.Perm.append_right _ hpe).trans ?_
        rw [List.append_assoc]
        exact List.Perm.append_left _ (List.perm_append_singleton _ _)
      · intro y hy hg
        rw [List.mem_append, List.mem_cons] at hy
        rcases hy with hy | rfl | hy
        · exact hfutL y hy hg
        · exact ht
        · exact hfutR y hy hg
    · rw [if_neg ht, if_neg ht]
      refine ⟨rfl, ⟨?_, ?_, hsh, key, ?_, ?_, ?_⟩, rfl, by rw [hElen]; simp⟩
      · show B.used - x.f1 = _; rw [enSum_app]; omega
      · rw [enSum_app]; omega
      · rw [List.pairwise_append]
        exact ⟨n1, n3, fun y hy z hz q => n4 y hy z (by simp [hz]) q⟩
      · rw [goneP_app]; exact hpe
      · intro y hy hg
        rw [List.mem_append] at hy
        rcases hy with hy | hy
        · exact hfutL y hy hg
        · exact hfutR y hy hg

theorem inP_gone (t : Int) (E : List En) : inP t (goneP E) = goneP (overE t E) := by
  induction E with
  | nil => rfl
  | cons x E ih =>
    have e1 : overE t (x :: E) = if counts t x = true then x :: overE t E else overE t E := by unfold overE; rw [List.filter_cons]
    rw [goneP_cons, e1]
    cases hg : x.f2
    · have hc : counts t x = true := by simp [counts, hg]
      rw [if_neg (by simp), if_pos hc, goneP_cons, hg, if_neg (by simp)]; exact ih
    · rw [if_pos rfl]
      by_cases ht : t < x.f3
      · have hc : counts t x = true := by simp [counts, ht]
        rw [if_pos hc, goneP_cons, hg, if_pos rfl, ← ih]
        simp [inP, ht]
      · have hc : counts t x = false := by simp [counts, hg]; omega
        rw [hc, if_neg (by simp), ← ih]
        simp [inP, ht]
theorem out_gone (t : Int) (E : List En) : enSum E = enSum (overE t E) + sumP (outP t (goneP E)) ∧ E.length = (overE t E).length + (outP t (goneP E)).length := by
  induction E with
  | nil => exact ⟨rfl, rfl⟩
  | cons x E ih =>
    obtain ⟨ih1, ih2⟩ := ih
    have e1 : overE t (x :: E) = if counts t x = true then x :: overE t E else overE t E := by unfold overE; rw [List.filter_cons]
    rw [goneP_cons, e1]
    cases hg : x.f2
    · have hc : counts t x = true := by simp [counts, hg]
      simp only [Bool.false_eq_true, if_false, hc, if_true]
      rw [enSum_cons, enSum_cons, List.length_cons, List.length_cons]
      exact ⟨by omega, by omega⟩
    · rw [if_pos rfl]
      by_cases ht : t < x.f3
      · have hc : counts t x = true := by simp [counts, ht]
        have ho : outP t ((x.f1, x.f3) :: goneP E) = outP t (goneP E) := by unfold outP; rw [List.filter_cons, if_neg (by simp; omega)]
        rw [if_pos hc, ho, enSum_cons, enSum_cons, List.length_cons, List.length_cons]
        exact ⟨by omega, by omega⟩
      · have hc : counts t x = false := by simp [counts, hg]; omega
        have ho : outP t ((x.f1, x.f3) :: goneP E) = (x.f1, x.f3) :: outP t (goneP E) := by
          unfold outP; rw [List.filter_cons, if_pos (by simp; omega)]
        rw [hc, if_neg (by simp), ho, sumP_cons, enSum_cons, List.length_cons, List.length_cons]
        exact ⟨by simp only; omega, by omega⟩

theorem PlayInv.advance {B : Bk} {E : List En} (h : PlayInv B E) (now : Int) :
    (advanceB B now).2 = (advE B.now E now).2 ∧ PlayInv (advanceB B now).1 (advE B.now E now).1.2 ∧ (advanceB B now).1.now = (advE B.now E now).1.1 ∧ (advE B.now E now).1.2.length ≤ E.length := by
  unfold advanceB advE
  by_cases hn : now < B.now
  · rw [if_pos hn, if_pos hn]; exact ⟨rfl, h, rfl, Nat.le_refl _⟩
  · rw [if_neg hn, if_neg hn]
    obtain ⟨o1, o2⟩ := out_gone now E
    have hpo : (outP now B.p).Perm (outP now (goneP E)) := h.p.filter _
    have hpi : (inP now B.p).Perm (inP now (goneP E)) := h.p.filter _
    have hsub : (overE now E).Sublist E := List.filter_sublist
    refine ⟨?_, ⟨?_, ?_, ?_, ?_, ?_, ?_, ?_⟩, rfl, hsub.length_le⟩
    · show ((outP now B.p).length : Int) = (E.length : Int) - ((overE now E).length : Int)
      rw [hpo.length_eq]; omega
    · show B.used - sumP (outP now B.p) = enSum (overE now E)
      rw [h.used, sumP_perm hpo]; omega
    · show enSum (overE now E) ≤ _
      have hps : 0 ≤ sumP (outP now (goneP E)) := sumP_nonneg (fun x hx => by
        have := (List.mem_filter.1 hx).1
        obtain ⟨e, he, rfl⟩ := List.mem_map.1 this
        exact h.sh e (List.mem_filter.1 he).1)
      have := h.le; omega
    · exact fun x hx => h.sh x (hsub.subset hx)
    · intro who s
      show B.f who = some s ↔ _
      rw [h.f]
      constructor
      · rintro ⟨x, hx, hm, rfl⟩
        refine ⟨x, List.mem_filter.2 ⟨hx, ?_⟩, hm, rfl⟩
        simp [counts, (mine_iff.1 hm).2]
      · rintro ⟨x, hx, hm, rfl⟩; exact ⟨x, hsub.subset hx, hm, rfl⟩
    · exact h.nd.sublist hsub
    · show (inP now B.p).Perm _
      rw [← inP_gone]; exact hpi
    · intro x hx hg
      have := (List.mem_filter.1 hx).2
      simp [counts, hg] at this
      exact this

end Go.Proofs.Ytdjnjfmdmcfamaa
