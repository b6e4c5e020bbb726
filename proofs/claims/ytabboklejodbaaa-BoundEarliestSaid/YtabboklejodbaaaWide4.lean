/- Numbers of 256 bits (package bound), by their values. -/
import Derived.Test.YtabboklejodbaaaWide3
namespace Go.Proofs.Ytabboklejodbaaa
open Go.RowKit Go.Proofs.YtabboklejodbaaaW.PrintWords

def lb0 (N : Int) : Int := N % B64
def lb1 (N : Int) : Int := N / B64 % B64
def lb2 (N : Int) : Int := N / B64 / B64 % B64
def lb3 (N : Int) : Int := N / B64 / B64 / B64 % B64
def B256 : Int := 115792089237316195423570985008687907853269984665640564039457584007913129639936

theorem t_lo (N n c : Int) : tLo (N % B64) n c = (N * n + c) % B64 ∧ (N * n + c) / B64 = N / B64 * n + tHi (N % B64) n c := by
  have e : N * n + c = (N % B64 * n + c) + B64 * (N / B64 * n) := by
    have h := Int.mul_ediv_add_emod N B64
    generalize N / B64 = q at *
    generalize N % B64 = r at *
    rw [← h, Int.add_mul, Int.mul_assoc]; omega
  have hB : B64 ≠ 0 := by unfold B64; omega
  constructor
  · rw [e, Int.add_mul_emod_self_left]; rfl
  · rw [e, Int.add_mul_ediv_left _ _ hB]; unfold tHi; omega

theorem timesW (N n : Int) (hn0 : 0 ≤ n) (hn : n ≤ 4194304) (w : World) :
    Calls Try.prog 22 #[.agg #[.int .u64 (lb0 N), .int .u64 (lb1 N), .int .u64 (lb2 N), .int .u64 (lb3 N)], .int .i64 n] w fun e w' => e = .returned (.agg #[.int .u64 (lb0 (N * n)), .int .u64 (lb1 (N * n)), .int .u64 (lb2 (N * n)), .int .u64 (lb3 (N * n))]) ∧ Upd No w w' := by
  have h := wideTimes (lb0 N) (lb1 N) (lb2 N) (lb3 N) n (lo_rng _) (lo_rng _) (lo_rng _) (lo_rng _) hn0 hn w
  have a0 := t_lo N n 0
  have a1 := t_lo (N / B64) n (tHi (lb0 N) n 0)
  have a2 := t_lo (N / B64 / B64) n (tHi (lb1 N) n (tHi (lb0 N) n 0))
  have a3 := t_lo (N / B64 / B64 / B64) n (tHi (lb2 N) n (tHi (lb1 N) n (tHi (lb0 N) n 0)))
  rw [Int.add_zero] at a0
  have e0 : tLo (lb0 N) n 0 = lb0 (N * n) := a0.1
  have f1 : N * n / B64 = N / B64 * n + tHi (lb0 N) n 0 := a0.2
  have e1 : tLo (lb1 N) n (tHi (lb0 N) n 0) = lb1 (N * n) := by unfold lb1; rw [f1]; exact a1.1
  have f2 : N * n / B64 / B64 = N / B64 / B64 * n + tHi (lb1 N) n (tHi (lb0 N) n 0) := by rw [f1]; exact a1.2
  have e2 : tLo (lb2 N) n (tHi (lb1 N) n (tHi (lb0 N) n 0)) = lb2 (N * n) := by unfold lb2; rw [f2]; exact a2.1
  have f3 : N * n / B64 / B64 / B64 = N / B64 / B64 / B64 * n + tHi (lb2 N) n (tHi (lb1 N) n (tHi (lb0 N) n 0)) := by rw [f2]; exact a2.2
  have e3 : tLo (lb3 N) n (tHi (lb2 N) n (tHi (lb1 N) n (tHi (lb0 N) n 0))) = lb3 (N * n) := by unfold lb3; rw [f3]; exact a3.1
  rw [e3, e2, e1, e0] at h
  exact h

theorem p_lo (N M c : Int) : addLo (N % B64) (M % B64) c = (N + M + c) % B64 ∧ (N + M + c) / B64 = N / B64 + M / B64 + addHi (N % B64) (M % B64) c := by
  unfold addLo addHi B64; omega

theorem plusW (N M : Int) (w : World) :
    Calls Try.prog 23 #[.agg #[.int .u64 (lb0 N), .int .u64 (lb1 N), .int .u64 (lb2 N), .int .u64 (lb3 N)], .agg #[.int .u64 (lb0 M), .int .u64 (lb1 M), .int .u64 (lb2 M), .int .u64 (lb3 M)]] w fun e w' => e = .returned (.agg #[.int .u64 (lb0 (N + M)), .int .u64 (lb1 (N + M)), .int .u64 (lb2 (N + M)), .int .u64 (lb3 (N + M))]) ∧ Upd No w w' := by
  have h := widePlus (lb0 N) (lb1 N) (lb2 N) (lb3 N) (lb0 M) (lb1 M) (lb2 M) (lb3 M) (lo_rng _) (lo_rng _) (lo_rng _) (lo_rng _) (lo_rng _) (lo_rng _) (lo_rng _) (lo_rng _) _ _ _ rfl rfl rfl w
  have a0 := p_lo N M 0
  rw [Int.add_zero] at a0
  have a1 := p_lo (N / B64) (M / B64) (addHi (lb0 N) (lb0 M) 0)
  have e0 : addLo (lb0 N) (lb0 M) 0 = lb0 (N + M) := a0.1
  have f1 : (N + M) / B64 = N / B64 + M / B64 + addHi (lb0 N) (lb0 M) 0 := a0.2
  have e1 : addLo (lb1 N) (lb1 M) (addHi (lb0 N) (lb0 M) 0) = lb1 (N + M) := by unfold lb1; rw [f1]; exact a1.1
  have f2 : (N + M) / B64 / B64 = N / B64 / B64 + M / B64 / B64 + addHi (lb1 N) (lb1 M) (addHi (lb0 N) (lb0 M) 0) := by rw [f1]; exact a1.2
  have a2 := p_lo (N / B64 / B64) (M / B64 / B64) (addHi (lb1 N) (lb1 M) (addHi (lb0 N) (lb0 M) 0))
  have e2 : addLo (lb2 N) (lb2 M) (addHi (lb1 N) (lb1 M) (addHi (lb0 N) (lb0 M) 0)) = lb2 (N + M) := by unfold lb2; rw [f2]; exact a2.1
  have f3 : (N + M) / B64 / B64 / B64 = N / B64 / B64 / B64 + M / B64 / B64 / B64 + addHi (lb2 N) (lb2 M) (addHi (lb1 N) (lb1 M) (addHi (lb0 N) (lb0 M) 0)) := by rw [f2]; exact a2.2
  have a3 := p_lo (N / B64 / B64 / B64) (M / B64 / B64 / B64) (addHi (lb2 N) (lb2 M) (addHi (lb1 N) (lb1 M) (addHi (lb0 N) (lb0 M) 0)))
  have e3 : addLo (lb3 N) (lb3 M) (addHi (lb2 N) (lb2 M) (addHi (lb1 N) (lb1 M) (addHi (lb0 N) (lb0 M) 0))) = lb3 (N + M) := by unfold lb3; rw [f3]; exact a3.1
  rw [e3, e2, e1, e0] at h
  exact h

theorem lt_step (N M : Int) : M < N ↔ M / B64 < N / B64 ∨ (N / B64 = M / B64 ∧ M % B64 < N % B64) := by unfold B64; omega
theorem lb3_top {N : Int} (h0 : 0 ≤ N) (h : N < B256) : lb3 N = N / B64 / B64 / B64 := by
  unfold lb3
  refine Int.emod_eq_of_lt ?_ ?_
  · unfold B64; omega
  · unfold B64 B256 at *; omega

theorem decTrans {p q : Prop} [Decidable p] [Decidable q] (h : p ↔ q) {b : Bool} (hb : b = decide q) : b = decide p := by rw [hb]; exact decide_eq_decide.2 h.symm
theorem aboveW_eq {N M : Int} (hN0 : 0 ≤ N) (hN : N < B256) (hM0 : 0 ≤ M) (hM : M < B256) : aboveW (lb0 N) (lb1 N) (lb2 N) (lb3 N) (lb0 M) (lb1 M) (lb2 M) (lb3 M) = decide (M < N) := by
  have s0 := lt_step N M
  have s1 := lt_step (N / B64) (M / B64)
  have s2 := lt_step (N / B64 / B64) (M / B64 / B64)
  have q0 := Int.mul_ediv_add_emod N B64
  have q1 := Int.mul_ediv_add_emod (N / B64) B64
  have q2 := Int.mul_ediv_add_emod (N / B64 / B64) B64
  have r0 := Int.mul_ediv_add_emod M B64
  have r1 := Int.mul_ediv_add_emod (M / B64) B64
  have r2 := Int.mul_ediv_add_emod (M / B64 / B64) B64
  rw [s1, s2] at s0
  refine decTrans s0 ?_
  clear s0 s1 s2
  unfold aboveW
  rw [lb3_top hN0 hN, lb3_top hM0 hM]
  have e0 : lb0 N = N % B64 := rfl
  have e0' : lb0 M = M % B64 := rfl
  have e1 : lb1 N = N / B64 % B64 := rfl
  have e1' : lb1 M = M / B64 % B64 := rfl
  have e2 : lb2 N = N / B64 / B64 % B64 := rfl
  have e2' : lb2 M = M / B64 / B64 % B64 := rfl
  rw [e0, e0', e1, e1', e2, e2']
  by_cases h3 : N / B64 / B64 / B64 = M / B64 / B64 / B64
  · rw [if_pos h3]
    by_cases h2 : N / B64 / B64 % B64 = M / B64 / B64 % B64
    · rw [if_pos h2]
      have g2 : N / B64 / B64 = M / B64 / B64 := by rw [← q2, ← r2, h3, h2]
      by_cases h1 : N / B64 % B64 = M / B64 % B64
      · rw [if_pos h1]
        have g1 : N / B64 = M / B64 := by rw [← q1, ← r1, g2, h1]
        apply decide_eq_decide.2
        constructor
        · intro h; exact .inr ⟨g1, h⟩
        · rintro (h | ⟨_, h⟩)
          · rw [g2, g1] at h; omega
          · exact h
      · rw [if_neg h1]
        apply decide_eq_decide.2
        constructor
        · intro h; exact .inl (.inr ⟨g2, h⟩)
        · rintro ((h | ⟨_, h⟩) | ⟨h, _⟩)
          · rw [h3, h2] at h; omega
          · exact h
          · exact (h1 (by rw [h])).elim
    · rw [if_neg h2]
      apply decide_eq_decide.2
      constructor
      · intro h; exact .inl (.inl (.inr ⟨h3, h⟩))
      · rintro (((h | ⟨_, h⟩) | ⟨h, _⟩) | ⟨h, _⟩)
        · rw [h3] at h; omega
        · exact h
        · exact (h2 (by rw [h])).elim
        · exact (h2 (by rw [h])).elim
  · rw [if_neg h3]
    apply decide_eq_decide.2
    constructor
    · intro h; exact .inl (.inl (.inl h))
    · rintro (((h | ⟨h, _⟩) | ⟨h, _⟩) | ⟨h, _⟩)
      · exact h
      · exact (h3 h).elim
      · exact (h3 (by rw [h])).elim
      · exact (h3 (by rw [h])).elim
theorem aboveN {N M : Int} (hN0 : 0 ≤ N) (hN : N < B256) (hM0 : 0 ≤ M) (hM : M < B256) (w : World) :
    Calls Try.prog 24 #[.agg #[.int .u64 (lb0 N), .int .u64 (lb1 N), .int .u64 (lb2 N), .int .u64 (lb3 N)], .agg #[.int .u64 (lb0 M), .int .u64 (lb1 M), .int .u64 (lb2 M), .int .u64 (lb3 M)]] w fun e w' => e = .returned (.bool (decide (M < N))) ∧ Upd No w w' := by
  rw [← aboveW_eq hN0 hN hM0 hM]
  exact wideAbove _ _ _ _ _ _ _ _ w

abbrev Tk := Bd.S31
def tcells (t : Tk) : List Value := [.int .i64 t.f0, .int .i64 t.f1, .int .i64 t.f2]
theorem addOf (g o k : Nat) : (⟨g, o, none⟩ : Addr).add k = ⟨g, o + k, none⟩ := by
  unfold Addr.add
  split
  · rename_i h; subst h; rfl
  · rfl
theorem Rd.tk {w : World} {A : Option Addr} {l : List Tk} (h : Rd w A (l.flatMap tcells)) {k : Nat} {t : Tk} (ht : l[k]? = some t) :
    ∃ g o, A = some ⟨g, o, none⟩ ∧ w.cell? ⟨g, o + k * 3, none⟩ = some (.int .i64 t.f0) ∧ w.cell? ⟨g, o + k * 3 + 1, none⟩ = some (.int .i64 t.f1) ∧ w.cell? ⟨g, o + k * 3 + 2, none⟩ = some (.int .i64 t.f2) := by
  have hne : l.flatMap tcells ≠ [] := by
    intro e
    have h1 := flat_get tcells 3 (fun _ => rfl) l k t ht 0 (by omega)
    rw [e] at h1; simp [tcells] at h1
  obtain ⟨g, o, e, hc⟩ := h hne
  refine ⟨g, o, e, ?_, ?_, ?_⟩
  · exact hc (k * 3) _ (by have := flat_get tcells 3 (fun _ => rfl) l k t ht 0 (by omega); simpa [tcells] using this)
  · exact hc (k * 3 + 1) _ (by have := flat_get tcells 3 (fun _ => rfl) l k t ht 1 (by omega); simpa [tcells] using this)
  · exact hc (k * 3 + 2) _ (by have := flat_get tcells 3 (fun _ => rfl) l k t ht 2 (by omega); simpa [tcells] using this)
/-- What is read so is read as the printed functions want it. -/
theorem kdOf {w : World} {A : Option Addr} {l : List Tk} (h : Rd w A (l.flatMap tcells)) (hm : l.length ≤ 9223372036854775807) : Kd.C Bd.k31 w A l.length l := by
  refine ⟨rfl, hm, fun hp => ?_⟩
  obtain ⟨t, ht⟩ : ∃ t, l[0]? = some t := ⟨l[0], List.getElem?_eq_getElem _⟩
  obtain ⟨g, o, rfl, _⟩ := h.tk ht
  refine ⟨⟨g, o, none⟩, rfl, fun j p hp => ⟨tcells p, rfl, Bd.k31_mk w p, fun i u hu => ?_⟩⟩
  obtain ⟨g', o', e, d0, d1, d2⟩ := h.tk hp
  injection e with e; injection e with e1 e2; subst e1 e2
  rw [addOf]
  show w.cell? ⟨g, o + (j * 3 + i), none⟩ = _
  rw [← Nat.add_assoc]
  match i, hu with
  | 0, hu => injection hu with hu; subst hu; exact d0
  | 1, hu => injection hu with hu; subst hu; exact d1
  | 2, hu => injection hu with hu; subst hu; exact d2
  | k + 3, hu => simp [tcells] at hu
theorem belowNo {w w' : World} (h : Below w.heap.size w w') : Upd No w w' := Upd.ofBelow h (fun k hk q => by omega)

end Go.Proofs.Ytabboklejodbaaa
