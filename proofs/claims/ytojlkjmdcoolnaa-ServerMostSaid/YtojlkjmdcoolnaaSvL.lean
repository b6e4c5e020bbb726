/- The plain law of ServerMost: how many ticks are run of a server in a stretch. -/
import Derived.Test.YtojlkjmdcoolnaaSv5
import Derived.Test.YtojlkjmdcoolnaaSupply
namespace Go.Proofs.Ytojlkjmdcoolnaa

def gW (P a t : Int) : Int := if t < a then 0 else 1 + (t - a) / P
def wC (P a : Int) : List (Int × Int × Int) → Int
  | [] => 0
  | c :: r => c.1 * gW P a (c.2.2 - P) + c.2.1 * (gW P a (c.2.2 - P) + 1) + wC P a r
def wF (P a : Int) : List (Int × Int) → Int
  | [] => 0
  | f :: r => f.2 * max 1 (gW P a f.1) + wF P a r
def sumC : List (Int × Int × Int) → Int
  | [] => 0
  | c :: r => c.1 + c.2.1 + sumC r
def wS (P a : Int) (S : Sv) : Int := S.av * gW P a S.now + wC P a S.cs + wF P a S.fs

section
variable {P a : Int}
theorem gW_nonneg (hP : 1 ≤ P) (t : Int) : 0 ≤ gW P a t := by
  unfold gW; split
  · omega
  · have := Int.ediv_nonneg (show 0 ≤ t - a by omega) (show 0 ≤ P by omega); omega
theorem gW_pos (hP : 1 ≤ P) {t : Int} (h : a ≤ t) : 1 ≤ gW P a t := by
  unfold gW; rw [if_neg (by omega)]
  have := Int.ediv_nonneg (show 0 ≤ t - a by omega) (show 0 ≤ P by omega); omega
theorem gW_mono (hP : 1 ≤ P) {s t : Int} (h : s ≤ t) : gW P a s ≤ gW P a t := by
  by_cases h1 : s < a
  · rw [show gW P a s = 0 by unfold gW; rw [if_pos h1]]; exact gW_nonneg hP t
  · unfold gW
    rw [if_neg h1, if_neg (by omega)]
    have := Int.ediv_le_ediv (show 0 < P by omega) (show s - a ≤ t - a by omega)
    omega
theorem gW_next (hP : 1 ≤ P) (c : Int) : max 1 (gW P a (c + P)) = gW P a c + 1 := by
  by_cases h : c < a
  · have e : gW P a c = 0 := by unfold gW; rw [if_pos h]
    rw [e]
    have : gW P a (c + P) ≤ 1 := by
      unfold gW; split
      · omega
      · rw [Int.ediv_eq_zero_of_lt (by omega) (by omega)]; omega
    omega
  · have e : gW P a (c + P) = gW P a c + 1 := by
      unfold gW
      rw [if_neg (by omega), if_neg h, show c + P - a = (c - a) + P * 1 by omega, Int.add_mul_ediv_left _ _ (by omega)]
      omega
    have := gW_nonneg (a := a) hP c
    omega
theorem gW_dead (hP : 1 ≤ P) (d : Int) : max 1 (gW P a d) = gW P a (d - P) + 1 := by
  have := gW_next (a := a) hP (d - P)
  rwa [show d - P + P = d by omega] at this
theorem wF_app (l m : List (Int × Int)) : wF P a (l ++ m) = wF P a l + wF P a m := by
  induction l with
  | nil => simp [wF]
  | cons f l ih => simp only [List.cons_append, wF]; omega
theorem wC_app (l m : List (Int × Int × Int)) : wC P a (l ++ m) = wC P a l + wC P a m := by
  induction l with
  | nil => simp [wC]
  | cons f l ih => simp only [List.cons_append, wC]; omega
theorem sumC_app (l m : List (Int × Int × Int)) : sumC (l ++ m) = sumC l + sumC m := by
  induction l with
  | nil => simp [sumC]
  | cons f l ih => simp only [List.cons_append, sumC]; omega
theorem sumF_app (l m : List (Int × Int)) : sumF (l ++ m) = sumF l + sumF m := by simp [sumF]
theorem mulL {x u v : Int} (hx : 0 ≤ x) (h : u ≤ v) : x * u ≤ x * v := Int.mul_le_mul_of_nonneg_left h hx
theorem wPop (hP : 1 ≤ P) {now : Int} (ha : a ≤ now) {l : List (Int × Int)} (h : ∀ f ∈ l, 0 ≤ f.2) : wF P a l ≤ popA now l * gW P a now + wF P a (popR now l) := by
  induction l with
  | nil => simp [wF, popA, popR]
  | cons f l ih =>
    have i1 := ih (fun x hx => h x (by simp [hx]))
    simp only [wF, popA, popR]
    split
    · rename_i hf
      have q1 := gW_mono (a := a) hP hf
      have q2 := gW_pos hP ha
      have q3 := mulL (h f (by simp)) (show max 1 (gW P a f.1) ≤ gW P a now by omega)
      rw [Int.add_mul]; omega
    · simp only [wF]; omega
theorem wBack (hP : 1 ≤ P) {now : Int} {l : List (Int × Int × Int)} (h : ∀ c ∈ l, 0 ≤ c.1 ∧ c.2.2 - P ≤ now) : wC P a l ≤ leftS l * gW P a now + wF P a (backF l) := by
  induction l with
  | nil => simp [wC, leftS, backF, wF]
  | cons c l ih =>
    have i1 := ih (fun x hx => h x (by simp [hx]))
    obtain ⟨h1, h2⟩ := h c (by simp)
    have q1 := mulL h1 (gW_mono (a := a) hP h2)
    have q2 := gW_dead (a := a) hP c.2.2
    rw [leftS_cons, Int.add_mul]
    simp only [wC, backF]
    split
    · rename_i hz
      rw [hz]; omega
    · simp only [wF]; rw [q2]; omega
theorem sumBack (l : List (Int × Int × Int)) : leftS l + sumF (backF l) = sumC l := by
  induction l with
  | nil => simp [leftS, backF, sumF, sumC]
  | cons c l ih =>
    rw [leftS_cons]
    simp only [backF, sumC]
    split
    · omega
    · rw [sumF_cons]; omega
end

structure Ok (B P : Int) (kl : Nat) (kc : Int) (S : Sv) : Prop where
  b : S.b = B
  p : S.p = P
  av : 0 ≤ S.av
  cs : ∀ c ∈ S.cs, 1 ≤ c.1 ∧ 0 ≤ c.2.1 ∧ c.2.2 ≤ S.now + P
  fs : ∀ f ∈ S.fs, 0 ≤ f.2 ∧ f.1 ≤ S.now + P
  tot : S.av + sumC S.cs + sumF S.fs = B
  ord : ∀ f ∈ S.fs, ∀ c ∈ S.cs, f.1 ≤ c.2.2
  row : S.cs.Pairwise (fun c d => c.2.2 ≤ d.2.2)
  len : S.cs.length + S.fs.length ≤ kl
  ch : 0 ≤ S.ch ∧ S.ch ≤ kc

section
variable {B P : Int} {kl : Nat} {kc : Int} {S : Sv}
theorem sumC_left {l : List (Int × Int × Int)} (h : ∀ c ∈ l, 0 ≤ c.2.1) : leftS l ≤ sumC l := by
  induction l with
  | nil => simp [leftS, sumC]
  | cons c l ih => rw [leftS_cons]; simp only [sumC]; have := h c (by simp); have := ih (fun x hx => h x (by simp [hx])); omega
theorem sumC_part {l : List (Int × Int × Int)} (h : ∀ c ∈ l, 0 ≤ c.1 ∧ 0 ≤ c.2.1) {c : Int × Int × Int} (hc : c ∈ l) : c.1 + c.2.1 ≤ sumC l := by
  induction l with
  | nil => simp at hc
  | cons d l ih =>
    simp only [sumC]
    have h0 : 0 ≤ sumC l := by
      have := sumC_left (l := l) (fun x hx => (h x (by simp [hx])).2)
      have := leftS_nonneg (l := l) (fun x hx => (h x (by simp [hx])).1)
      omega
    rcases List.mem_cons.1 hc with rfl | hc
    · omega
    · have := ih (fun x hx => h x (by simp [hx])) hc
      have := h d (by simp); omega
theorem Ok.fit (h : Ok B P kl kc S) (hB : B ≤ 1099511627776) (hP : 0 ≤ P ∧ P ≤ 1099511627776) (hk : kl < 100000) : S.fit := by
  refine ⟨h.av, fun x hx => (h.fs x hx).1, fun c hc => by have := (h.cs c hc).1; omega, ?_, by have := h.len; omega, by have := h.len; omega, h.ord, h.row, by rw [h.p]; exact hP⟩
  have := sumC_left (l := S.cs) (fun c hc => (h.cs c hc).2.1)
  have := h.tot
  omega
theorem Ok.part (h : Ok B P kl kc S) (hB : B ≤ 1099511627776) : ∀ c ∈ S.cs, 0 ≤ c.1 ∧ c.1 ≤ 1099511627776 ∧ 0 ≤ c.2.1 ∧ c.2.1 ≤ 1099511627776 := fun c hc => by
  have q := sumC_part (l := S.cs) (fun x hx => ⟨by have := (h.cs x hx).1; omega, (h.cs x hx).2.1⟩) hc
  have q1 := h.cs c hc
  have q2 := h.tot
  have q3 := h.av
  have q4 := sumF_nonneg (l := S.fs) (fun f hf => (h.fs f hf).1)
  omega
theorem backF_one (l : List (Int × Int × Int)) (h : ∀ c ∈ l, 0 ≤ c.2.1) : ∀ f ∈ backF l, 0 ≤ f.2 := fun f hf => by
  obtain ⟨c, hc, rfl, _⟩ := backF_mem hf
  exact h c hc
theorem popA_nonneg (t : Int) {l : List (Int × Int)} (h : ∀ f ∈ l, 0 ≤ f.2) : 0 ≤ popA t l := by
  induction l with
  | nil => simp [popA]
  | cons f l ih => simp only [popA]; split
                   · have := h f (by simp); have := ih (fun x hx => h x (by simp [hx])); omega
                   · omega

theorem Ok.begin (h : Ok B P kl kc S) (hP : 0 ≤ P) {now : Int} (hn : S.now ≤ now) (ready : Bool) : Ok B P (kl + 1) kc (beginS S now ready) ∧ (beginS S now ready).now = now := by
  have hpop := pop_sum now S.fs
  have hsub := popR_sub now S.fs
  have hlen := hsub.length_le
  have hl := h.len
  have ht := h.tot
  have hav := h.av
  have hpa := popA_nonneg now (l := S.fs) (fun f hf => (h.fs f hf).1)
  have hfs : ∀ f ∈ popR now S.fs, 0 ≤ f.2 ∧ f.1 ≤ now + P := fun f hf => by have := h.fs f (hsub.subset hf); omega
  unfold beginS
  split
  · refine ⟨⟨h.b, h.p, ?_, fun c hc => by simp at hc, ?_, ?_, fun f _ c hc => by simp at hc, List.Pairwise.nil, ?_, h.ch⟩, rfl⟩
    · have := leftS_nonneg (l := S.cs) (fun c hc => by have := (h.cs c hc).1; omega)
      show 0 ≤ S.av + popA now S.fs + leftS S.cs
      omega
    · intro f hf
      rcases List.mem_append.1 hf with q | q
      · exact hfs f q
      · obtain ⟨c, hc, rfl, _⟩ := backF_mem q
        have := h.cs c hc
        exact ⟨this.2.1, by show c.2.2 ≤ now + P; omega⟩
    · show S.av + popA now S.fs + leftS S.cs + sumC [] + sumF (popR now S.fs ++ backF S.cs) = B
      have := sumBack S.cs
      rw [sumF_app]
      simp only [sumC]; omega
    · have := backF_len S.cs
      show ([] : List (Int × Int × Int)).length + (popR now S.fs ++ backF S.cs).length ≤ kl + 1
      rw [List.length_append]; simp; omega
  · split
    · rename_i h1
      refine ⟨⟨h.b, h.p, by show (0 : Int) ≤ 0; omega, ?_, hfs, ?_, ?_, ?_, ?_, h.ch⟩, rfl⟩
      · intro c hc
        rcases List.mem_append.1 hc with q | q
        · have := h.cs c q
          exact ⟨this.1, this.2.1, by show c.2.2 ≤ now + P; omega⟩
        · simp at q; subst q
          refine ⟨by show 1 ≤ S.av + popA now S.fs; omega, by simp, ?_⟩
          show now + S.p ≤ now + P
          rw [h.p]; omega
      · show 0 + sumC (S.cs ++ [(S.av + popA now S.fs, 0, now + S.p)]) + sumF (popR now S.fs) = B
        rw [sumC_app]; simp only [sumC]; omega
      · intro f hf c hc
        rcases List.mem_append.1 hc with q | q
        · exact h.ord f (hsub.subset hf) c q
        · simp at q; subst q
          have := hfs f hf
          show f.1 ≤ now + S.p
          rw [h.p]; omega
      · show (S.cs ++ [(S.av + popA now S.fs, 0, now + S.p)]).Pairwise _
        rw [List.pairwise_append]
        refine ⟨h.row, by simp, fun c hc d hd => ?_⟩
        simp at hd; subst hd
        have := (h.cs c hc).2.2
        show c.2.2 ≤ now + S.p
        rw [h.p]; omega
      · show (S.cs ++ [(S.av + popA now S.fs, 0, now + S.p)]).length + (popR now S.fs).length ≤ kl + 1
        simp; omega
    · refine ⟨⟨h.b, h.p, by show 0 ≤ S.av + popA now S.fs; omega, fun c hc => ?_, hfs, ?_, fun f hf c hc => h.ord f (hsub.subset hf) c hc, h.row, ?_, h.ch⟩, rfl⟩
      · have := h.cs c hc
        exact ⟨this.1, this.2.1, by show c.2.2 ≤ now + P; omega⟩
      · show S.av + popA now S.fs + sumC S.cs + sumF (popR now S.fs) = B
        omega
      · show S.cs.length + (popR now S.fs).length ≤ kl + 1
        omega
theorem wS_begin (h : Ok B P kl kc S) (hP : 1 ≤ P) {now a : Int} (hn : S.now ≤ now) (ha : a ≤ now) (ready : Bool) : wS P a S ≤ wS P a (beginS S now ready) := by
  have q1 := wPop hP ha (l := S.fs) (fun f hf => (h.fs f hf).1)
  have q2 := mulL h.av (gW_mono (a := a) hP hn)
  have q3 := wBack (a := a) hP (now := now) (l := S.cs) (fun c hc => by have := h.cs c hc; omega)
  unfold beginS
  split
  · show S.av * gW P a S.now + wC P a S.cs + wF P a S.fs ≤ (S.av + popA now S.fs + leftS S.cs) * gW P a now + wC P a [] + wF P a (popR now S.fs ++ backF S.cs)
    rw [wF_app, Int.add_mul, Int.add_mul]
    simp only [wC]; omega
  · split
    · show S.av * gW P a S.now + wC P a S.cs + wF P a S.fs ≤ 0 * gW P a now + wC P a (S.cs ++ [(S.av + popA now S.fs, 0, now + S.p)]) + wF P a (popR now S.fs)
      rw [wC_app]
      simp only [wC]
      rw [h.p, show now + P - P = now by omega, Int.add_mul]; omega
    · show S.av * gW P a S.now + wC P a S.cs + wF P a S.fs ≤ (S.av + popA now S.fs) * gW P a now + wC P a S.cs + wF P a (popR now S.fs)
      rw [Int.add_mul]; omega
theorem Ok.run (h : Ok B P kl kc S) : Ok B P kl (kc + 1) (runS S).1 ∧ (runS S).1.now = S.now := by
  have hch := h.ch
  have ht := h.tot
  have hl := h.len
  unfold runS
  split
  · rename_i hcs
    exact ⟨⟨h.b, h.p, h.av, h.cs, h.fs, h.tot, h.ord, h.row, h.len, by show 0 ≤ S.ch; omega, by show S.ch ≤ kc + 1; omega⟩, rfl⟩
  · rename_i c r hcs
    have hc := h.cs c (by rw [hcs]; simp)
    rw [hcs] at ht hl
    simp only [sumC] at ht
    simp only [List.length_cons] at hl
    have hrow := h.row
    rw [hcs, List.pairwise_cons] at hrow
    have hr : ∀ d ∈ r, d ∈ S.cs := fun d hd => by rw [hcs]; simp [hd]
    split
    · rename_i h1
      refine ⟨⟨h.b, h.p, h.av, fun d hd => h.cs d (hr d hd), ?_, ?_, ?_, hrow.2, ?_, by show 0 ≤ S.ch + 1; omega, by show S.ch + 1 ≤ kc + 1; omega⟩, rfl⟩
      · intro f hf
        rcases List.mem_append.1 hf with q | q
        · exact h.fs f q
        · simp at q; subst q
          exact ⟨by show 0 ≤ c.2.1 + 1; omega, hc.2.2⟩
      · show S.av + sumC r + sumF (S.fs ++ [(c.2.2, c.2.1 + 1)]) = B
        rw [sumF_app, sumF_cons]; simp only [sumF, List.map_nil, List.sum_nil] at ht ⊢; omega
      · intro f hf d hd
        rcases List.mem_append.1 hf with q | q
        · exact h.ord f q d (hr d hd)
        · simp at q; subst q
          exact hrow.1 d hd
      · show r.length + (S.fs ++ [(c.2.2, c.2.1 + 1)]).length ≤ kl
        simp; omega
    · rename_i h1
      refine ⟨⟨h.b, h.p, h.av, ?_, h.fs, ?_, ?_, ?_, ?_, by show 0 ≤ S.ch + 1; omega, by show S.ch + 1 ≤ kc + 1; omega⟩, rfl⟩
      · intro d hd
        rcases List.mem_cons.1 hd with rfl | q
        · exact ⟨by show 1 ≤ c.1 - 1; omega, by show 0 ≤ c.2.1 + 1; omega, hc.2.2⟩
        · exact h.cs d (hr d q)
      · show S.av + sumC ((c.1 - 1, c.2.1 + 1, c.2.2) :: r) + sumF S.fs = B
        simp only [sumC]; omega
      · intro f hf d hd
        rcases List.mem_cons.1 hd with rfl | q
        · exact h.ord f hf c (by rw [hcs]; simp)
        · exact h.ord f hf d (hr d q)
      · show ((c.1 - 1, c.2.1 + 1, c.2.2) :: r).Pairwise _
        rw [List.pairwise_cons]
        exact ⟨hrow.1, hrow.2⟩
      · show ((c.1 - 1, c.2.1 + 1, c.2.2) :: r).length + S.fs.length ≤ kl
        simp; omega
theorem wS_run (hP : 1 ≤ P) (a : Int) : wS P a S + (if (runS S).2 = true then 1 else 0) ≤ wS P a (runS S).1 := by
  unfold runS
  split
  · simp
  · rename_i c r hcs
    have q := gW_dead (a := a) hP c.2.2
    split
    · rename_i h1
      show S.av * gW P a S.now + wC P a S.cs + wF P a S.fs + (if true = true then 1 else 0) ≤ S.av * gW P a S.now + wC P a r + wF P a (S.fs ++ [(c.2.2, c.2.1 + 1)])
      rw [hcs, wF_app]
      simp only [wC, wF, if_true]
      rw [q, h1, Int.add_mul c.2.1 1]; omega
    · show S.av * gW P a S.now + wC P a S.cs + wF P a S.fs + (if true = true then 1 else 0) ≤ S.av * gW P a S.now + wC P a ((c.1 - 1, c.2.1 + 1, c.2.2) :: r) + wF P a S.fs
      rw [hcs]
      simp only [wC, if_true]
      rw [Int.sub_mul, Int.add_mul c.2.1 1]; omega
theorem wC_le (hP : 1 ≤ P) {a M : Int} {l : List (Int × Int × Int)} (h : ∀ c ∈ l, 0 ≤ c.1 ∧ 0 ≤ c.2.1 ∧ gW P a (c.2.2 - P) + 1 ≤ M) : wC P a l ≤ sumC l * M := by
  induction l with
  | nil => simp [wC, sumC]
  | cons c l ih =>
    have i1 := ih (fun x hx => h x (by simp [hx]))
    obtain ⟨h1, h2, h3⟩ := h c (by simp)
    have q1 := mulL h1 (show gW P a (c.2.2 - P) ≤ M by omega)
    have q2 := mulL h2 h3
    simp only [wC, sumC]
    rw [Int.add_mul, Int.add_mul]; omega
theorem wF_le {a M : Int} {l : List (Int × Int)} (h : ∀ f ∈ l, 0 ≤ f.2 ∧ max 1 (gW P a f.1) ≤ M) : wF P a l ≤ sumF l * M := by
  induction l with
  | nil => simp [wF, sumF]
  | cons c l ih =>
    have i1 := ih (fun x hx => h x (by simp [hx]))
    obtain ⟨h1, h3⟩ := h c (by simp)
    have q2 := mulL h1 h3
    rw [sumF_cons]
    simp only [wF]
    rw [Int.add_mul]; omega
theorem cdiv_succ (hP : 1 ≤ P) {x : Int} (hx0 : 0 ≤ x) : cdiv (x + 1) P = x / P + 1 := by
  unfold cdiv
  have d1 := Int.mul_ediv_add_emod (x + 1) P
  have d2 := Int.emod_nonneg (x + 1) (show P ≠ 0 by omega)
  have d3 := Int.emod_lt_of_pos (x + 1) (show 0 < P by omega)
  generalize hq : (x + 1) / P = q at *
  generalize hr : (x + 1) % P = r at *
  split
  · rename_i hz
    have e1 : x = (P - 1) + P * (q - 1) := by rw [Int.mul_sub]; omega
    have e2 : ((P - 1) + P * (q - 1)) / P = q - 1 := by
      rw [Int.add_mul_ediv_left _ _ (by omega), Int.ediv_eq_zero_of_lt (by omega) (by omega)]; omega
    rw [← e1] at e2
    omega
  · rename_i hz
    have e1 : x = (r - 1) + P * q := by omega
    have e2 : ((r - 1) + P * q) / P = q := by
      rw [Int.add_mul_ediv_left _ _ (by omega), Int.ediv_eq_zero_of_lt (by omega) (by omega)]; omega
    rw [← e1] at e2
    omega
theorem wS_le (h : Ok B P kl kc S) (hP : 1 ≤ P) {a : Int} (ha : a ≤ S.now) : wS P a S ≤ B * (cdiv (S.now - a + 1) P + 1) := by
  have e : cdiv (S.now - a + 1) P + 1 = gW P a S.now + 1 := by
    rw [cdiv_succ hP (by omega)]
    unfold gW
    rw [if_neg (by omega)]; omega
  rw [e]
  have hM := gW_pos hP ha
  have q1 := mulL h.av (show gW P a S.now ≤ gW P a S.now + 1 by omega)
  have q2 := wC_le (a := a) (M := gW P a S.now + 1) hP (l := S.cs) (fun c hc => by
    have := h.cs c hc
    have := gW_mono (a := a) hP (show c.2.2 - P ≤ S.now by omega)
    omega)
  have q3 := wF_le (P := P) (a := a) (M := gW P a S.now + 1) (l := S.fs) (fun f hf => by
    have h1 := h.fs f hf
    have h2 := gW_dead (a := a) hP f.1
    have h3 := gW_mono (a := a) hP (show f.1 - P ≤ S.now by omega)
    omega)
  have ht := h.tot
  unfold wS
  rw [← ht, Int.add_mul, Int.add_mul]; omega
end

/-- What was run in each tick, and the server behind it. -/
structure Ran (B P : Int) (S : Sv) (rs : List Int) : Prop where
  ok : Ok B P rs.length rs.length S
  now : S.now ≤ rs.length
  one : ∀ x ∈ rs, 0 ≤ x ∧ x ≤ 1
  bound : ∀ j : Nat, j ≤ rs.length → (rs.drop j).sum ≤ wS P j S

theorem wS_nonneg {B P : Int} {kl : Nat} {kc : Int} {S : Sv} (h : Ok B P kl kc S) (hP : 1 ≤ P) (a : Int) : 0 ≤ wS P a S := by
  have h1 := Int.mul_nonneg h.av (gW_nonneg (a := a) hP S.now)
  have h2 : ∀ l : List (Int × Int × Int), (∀ c ∈ l, 1 ≤ c.1 ∧ 0 ≤ c.2.1) → 0 ≤ wC P a l := fun l hl => by
    induction l with
    | nil => simp [wC]
    | cons c l ih =>
      have i1 := ih (fun x hx => hl x (by simp [hx]))
      have q := hl c (by simp)
      have g0 := gW_nonneg (a := a) hP (c.2.2 - P)
      have q1 := Int.mul_nonneg (show 0 ≤ c.1 by omega) g0
      have q2 := Int.mul_nonneg q.2 (show 0 ≤ gW P a (c.2.2 - P) + 1 by omega)
      simp only [wC]; omega
  have h3 : ∀ l : List (Int × Int), (∀ c ∈ l, 0 ≤ c.2) → 0 ≤ wF P a l := fun l hl => by
    induction l with
    | nil => simp [wF]
    | cons c l ih =>
      have i1 := ih (fun x hx => hl x (by simp [hx]))
      have q1 := Int.mul_nonneg (hl c (by simp)) (show 0 ≤ max 1 (gW P a c.1) by omega)
      simp only [wF]; omega
  have h4 := h2 S.cs (fun c hc => ⟨(h.cs c hc).1, (h.cs c hc).2.1⟩)
  have h5 := h3 S.fs (fun f hf => (h.fs f hf).1)
  unfold wS; omega

/-- One tick: begun, and run, or not. -/
def tick (S : Sv) (now : Int) (ready run : Bool) : Sv × Int :=
  if run = true then ((runS (beginS S now ready)).1, if (runS (beginS S now ready)).2 = true then 1 else 0) else (beginS S now ready, 0)

theorem Ran.tick {B P : Int} {S : Sv} {rs : List Int} (h : Ran B P S rs) (hP : 1 ≤ P) (ready run : Bool) :
    Ran B P (tick S rs.length ready run).1 (rs ++ [(tick S rs.length ready run).2]) ∧ (tick S rs.length ready run).1.now = rs.length := by
  obtain ⟨o1, n1⟩ := h.ok.begin (by omega) h.now ready
  obtain ⟨o2, n2⟩ := o1.run
  have hw : ∀ j : Nat, j ≤ rs.length → wS P j S ≤ wS P j (beginS S rs.length ready) := fun j hj => wS_begin h.ok hP h.now (by omega) ready
  have hlen : ∀ x : Int, (rs ++ [x]).length = rs.length + 1 := fun x => by simp
  unfold Go.Proofs.Ytojlkjmdcoolnaa.tick
  cases run
  · simp only [Bool.false_eq_true, if_false]
    refine ⟨⟨?_, ?_, ?_, ?_⟩, n1⟩
    · rw [hlen]; exact ⟨o1.b, o1.p, o1.av, o1.cs, o1.fs, o1.tot, o1.ord, o1.row, o1.len, by have := o1.ch; omega⟩
    · rw [hlen, n1]; omega
    · intro x hx
      rcases List.mem_append.1 hx with q | q
      · exact h.one x q
      · simp at q; omega
    · intro j hj
      rw [hlen] at hj
      by_cases hj1 : j ≤ rs.length
      · rw [List.drop_append_of_le_length hj1, List.sum_append]
        have := h.bound j hj1
        have := hw j hj1
        simp; omega
      · rw [List.drop_eq_nil_of_le (by simp; omega)]
        exact wS_nonneg o1 hP _
  · simp only [if_true]
    refine ⟨⟨?_, ?_, ?_, ?_⟩, by rw [n2, n1]⟩
    · rw [hlen]; exact ⟨o2.b, o2.p, o2.av, o2.cs, o2.fs, o2.tot, o2.ord, o2.row, o2.len, by have := o2.ch; omega⟩
    · rw [hlen, n2, n1]; omega
    · intro x hx
      rcases List.mem_append.1 hx with q | q
      · exact h.one x q
      · simp at q; subst q; split <;> omega
    · intro j hj
      rw [hlen] at hj
      have q := wS_run (S := beginS S rs.length ready) hP (j : Int)
      by_cases hj1 : j ≤ rs.length
      · rw [List.drop_append_of_le_length hj1, List.sum_append]
        have := h.bound j hj1
        have := hw j hj1
        simp only [List.sum_cons, List.sum_nil]; omega
      · rw [List.drop_eq_nil_of_le (by simp; omega)]
        exact wS_nonneg o2 hP _

theorem Ran.le {B P : Int} {S : Sv} {rs : List Int} (h : Ran B P S rs) (hP : 1 ≤ P) {k : Nat} (hk : rs.length = k + 1) (hn : S.now = k) {j : Nat} (hj : j ≤ k) : (rs.drop j).sum ≤ B * (cdiv ((k : Int) - j + 1) P + 1) := by
  have h1 := h.bound j (by omega)
  have h2 := wS_le h.ok hP (a := j) (by omega)
  rw [hn] at h2
  omega

theorem Ran.start {B P : Int} (hB : 1 ≤ B) : Ran B P ⟨B, P, 0, B, 0, [], []⟩ [] :=
  ⟨⟨rfl, rfl, by show 0 ≤ B; omega, by simp, by simp, by show B + sumC [] + sumF [] = B; simp [sumC, sumF], by simp, List.Pairwise.nil, by simp, by simp⟩, by simp, by simp, fun j hj => by
    have : j = 0 := by simpa using hj
    subst this
    show (0 : Int) ≤ B * gW P ((0 : Nat) : Int) 0 + wC P _ [] + wF P _ []
    have : gW P ((0 : Nat) : Int) 0 = 1 := by simp [gW]
    rw [this]; simp only [wC, wF]; omega⟩

end Go.Proofs.Ytojlkjmdcoolnaa
