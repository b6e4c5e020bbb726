/- Whole, Hyperbolic and Harmonic of package bound. -/
import Derived.Test.YtabboklejodbaaaWide4
import Derived.Deep.DeepCutAuto
namespace Go.Proofs.Ytabboklejodbaaa
open Go.RowKit Go.Proofs.YtabboklejodbaaaW.PrintWords Go.Proofs.YtabboklejodbaaaW.PrintLast

/-- Where a set may be, and its deadlines are its periods. -/
def Tk.good (t : Tk) : Bool := decide (1 ≤ t.f0 ∧ t.f0 ≤ t.f2 ∧ t.f2 = t.f1 ∧ t.f1 ≤ 1048576)
def implB (l : List Tk) : Bool := decide (l.length ≤ 8) && l.all Tk.good
def wstep (s : Int × Int) (t : Tk) : Int × Int := (s.1 * t.f1 + s.2 * t.f0, s.2 * t.f1)
def wsum (l : List Tk) : Int × Int := l.foldl wstep (0, 1)
def wholeB (l : List Tk) : Bool := implB l && decide ((wsum l).1 ≤ (wsum l).2)
def hstep (s : Int × Int) (t : Tk) : Int × Int := (s.1 * (t.f1 + t.f0), s.2 * t.f1)
def hsum (l : List Tk) : Int × Int := l.foldl hstep (1, 2)
def hyperB (l : List Tk) : Bool := implB l && decide ((hsum l).1 ≤ (hsum l).2)
def dvd1 (a b : Tk) : Bool := decide (Int.tmod a.f1 b.f1 = 0) || decide (Int.tmod b.f1 a.f1 = 0)
def harmB (l : List Tk) : Bool := wholeB l && (List.range l.length).all fun i => (List.range i).all fun k => dvd1 (l.getD i Bd.z31) (l.getD k Bd.z31)

theorem implB_iff {l : List Tk} : implB l = true ↔ l.length ≤ 8 ∧ ∀ t, t ∈ l → 1 ≤ t.f0 ∧ t.f0 ≤ t.f2 ∧ t.f2 = t.f1 ∧ t.f1 ≤ 1048576 := by
  unfold implB; rw [Bool.and_eq_true, List.all_eq_true, decide_eq_true_iff]
  constructor
  · rintro ⟨h1, h2⟩; exact ⟨h1, fun t ht => by simpa [Tk.good] using h2 t ht⟩
  · rintro ⟨h1, h2⟩; exact ⟨h1, fun t ht => by simpa [Tk.good] using h2 t ht⟩

theorem w64 {i : Nat} (h : i < 1000000) : wrap64 ((i : Int) + 1) = ((i + 1 : Nat) : Int) := by unfold wrap64; omega
theorem rd_at (l : List Tk) (i : Nat) (x : Tk) (h : l[i]? = some x) : Bd.rd_T31 l (i : Int) = x := by
  unfold Bd.rd_T31
  simp [List.getD, h]
theorem drop_at {α : Type} {l : List α} {i : Nat} (h : i < l.length) : ∃ x, l[i]? = some x ∧ l.drop i = x :: l.drop (i + 1) :=
  ⟨l[i], List.getElem?_eq_getElem h, List.drop_eq_getElem_cons h⟩

def okT (t : Tk) : Bool := decide (1 ≤ t.f0 ∧ t.f0 ≤ t.f2 ∧ t.f2 ≤ t.f1 ∧ t.f1 ≤ 1048576)
theorem right_f (t : Tk) : Bd.tasks_Right.f t.f0 t.f1 t.f2 = some (okT t) := by
  unfold Bd.tasks_Right.f okT
  by_cases h1 : t.f0 ≥ 1
  · rw [if_pos h1]
    by_cases h2 : t.f2 ≥ t.f0
    · rw [if_pos h2]
      by_cases h3 : t.f1 ≥ t.f2
      · rw [if_pos h3]; congr 1; apply decide_eq_decide.2; omega
      · rw [if_neg h3, decide_eq_false (by omega)]
    · rw [if_neg h2, decide_eq_false (by omega)]
  · rw [if_neg h1, decide_eq_false (by omega)]
theorem all_l0 (l : List Tk) (hl : l.length ≤ 8) : ∀ (d k i : Nat), l.length - i = d → i ≤ l.length → d < k → Bd.tasks_All.l0 k l (l.length : Int) (i : Int) = some ((l.drop i).all okT) := by
  intro d
  induction d with
  | zero =>
    intro k i hd hi hk
    obtain ⟨k, rfl⟩ : ∃ m, k = m + 1 := ⟨k - 1, by omega⟩
    simp only [Bd.tasks_All.l0]
    rw [if_neg (by omega), List.drop_eq_nil_of_le (by omega)]; rfl
  | succ d ih =>
    intro k i hd hi hk
    obtain ⟨k, rfl⟩ : ∃ m, k = m + 1 := ⟨k - 1, by omega⟩
    obtain ⟨x, hx, hdr⟩ := drop_at (l := l) (i := i) (by omega)
    simp only [Bd.tasks_All.l0]
    rw [if_pos (by omega), if_pos (by omega), if_pos (by omega), rd_at l i x hx, right_f, w64 (by omega), ih k (i + 1) (by omega) (by omega) (by omega), hdr, List.all_cons]
    simp only [Option.bind_some]
    cases okT x <;> rfl
theorem all_f (l : List Tk) (k : Nat) (hk : 100 ≤ k) : Bd.tasks_All.f k l = some (decide (l.length ≤ 8) && l.all okT) := by
  unfold Bd.tasks_All.f
  by_cases h : l.length ≤ 8
  · have h0 := all_l0 l h l.length k 0 (by omega) (by omega) (by omega)
    rw [show ((0 : Nat) : Int) = 0 from rfl] at h0
    rw [if_neg (by omega), h0, decide_eq_true h, List.drop_zero]; rfl
  · rw [if_pos (by omega), decide_eq_false h]; rfl
theorem impl_l0 (l : List Tk) (hl : l.length ≤ 8) : ∀ (d k i : Nat), l.length - i = d → i ≤ l.length → d < k → Bd.bound_Implicit.l0 k l (l.length : Int) (i : Int) = some ((l.drop i).all fun t => decide (t.f2 = t.f1)) := by
  intro d
  induction d with
  | zero =>
    intro k i hd hi hk
    obtain ⟨k, rfl⟩ : ∃ m, k = m + 1 := ⟨k - 1, by omega⟩
    simp only [Bd.bound_Implicit.l0]
    rw [if_neg (by omega), List.drop_eq_nil_of_le (by omega)]; rfl
  | succ d ih =>
    intro k i hd hi hk
    obtain ⟨k, rfl⟩ : ∃ m, k = m + 1 := ⟨k - 1, by omega⟩
    obtain ⟨x, hx, hdr⟩ := drop_at (l := l) (i := i) (by omega)
    simp only [Bd.bound_Implicit.l0]
    rw [if_pos (by omega), if_pos (by omega), if_pos (by omega), rd_at l i x hx, w64 (by omega), ih k (i + 1) (by omega) (by omega) (by omega), hdr, List.all_cons]
    by_cases he : x.f2 = x.f1
    · rw [if_pos he, decide_eq_true he]; rfl
    · rw [if_neg he, decide_eq_false he]; rfl
theorem good_all (l : List Tk) : (l.all okT && l.all fun t => decide (t.f2 = t.f1)) = l.all Tk.good := by
  induction l with
  | nil => rfl
  | cons x l ih =>
    rw [List.all_cons, List.all_cons, List.all_cons, ← ih]
    have e : Tk.good x = (okT x && decide (x.f2 = x.f1)) := by
      unfold Tk.good okT
      rw [← Bool.decide_and]
      apply decide_eq_decide.2; omega
    rw [e]
    cases okT x <;> cases decide (x.f2 = x.f1) <;> cases l.all okT <;> simp
theorem impl_f (l : List Tk) (k : Nat) (hk : 100 ≤ k) : Bd.bound_Implicit.f k l = some (implB l) := by
  unfold Bd.bound_Implicit.f implB
  rw [all_f l k hk]
  simp only [Option.bind_some]
  by_cases h : l.length ≤ 8
  · rw [decide_eq_true h, Bool.true_and, Bool.true_and, ← good_all]
    cases ha : l.all okT
    · rfl
    · have h0 := impl_l0 l h l.length k 0 (by omega) (by omega) (by omega)
      rw [show ((0 : Nat) : Int) = 0 from rfl] at h0
      rw [if_pos rfl, h0, List.drop_zero]; rfl
  · rw [decide_eq_false h]; rfl

theorem progImpl {w : World} {A : Option Addr} {c : Nat} {l : List Tk} (h : Rd w A (l.flatMap tcells)) (hm : l.length ≤ 9223372036854775807) (hc : l.length ≤ c) :
    Calls Try.prog 7 #[.slice A l.length c] w fun e w' => e = .returned (.bool (implB l)) ∧ Upd No w w' :=
  (Bd.bound_Implicit.calls 100 A c l _ w (kdOf h hm) hc (impl_f l 100 (Nat.le_refl _))).mono fun e w' ⟨he, hb⟩ => ⟨he, belowNo hb⟩

theorem foldl_take {α β : Type} (f : β → α → β) (b : β) (l : List α) (k : Nat) (x : α) (h : l[k]? = some x) : (l.take (k + 1)).foldl f b = f ((l.take k).foldl f b) x := by
  rw [List.take_add_one, h]; simp
theorem wsum_step {l : List Tk} {k : Nat} {x : Tk} (h : l[k]? = some x) : wsum (l.take (k + 1)) = wstep (wsum (l.take k)) x := foldl_take _ _ _ _ _ h
theorem hsum_step {l : List Tk} {k : Nat} {x : Tk} (h : l[k]? = some x) : hsum (l.take (k + 1)) = hstep (hsum (l.take k)) x := foldl_take _ _ _ _ _ h
def M20 : Nat → Int
  | 0 => 1
  | k + 1 => M20 k * 1048576
theorem M20_pos : ∀ k, 1 ≤ M20 k
  | 0 => Int.le_refl _
  | k + 1 => by have := M20_pos k; show 1 ≤ M20 k * 1048576; omega
theorem M20_mono {j k : Nat} (h : j ≤ k) : M20 j ≤ M20 k := by
  induction k with
  | zero => have : j = 0 := by omega
            subst this; exact Int.le_refl _
  | succ k ih =>
    rcases Nat.lt_or_ge j (k + 1) with h1 | h1
    · have := ih (by omega); have := M20_pos k; show _ ≤ M20 k * 1048576; omega
    · have : j = k + 1 := by omega
      subst this; exact Int.le_refl _
/-- How great the numbers grow. -/
theorem wsum_rng {l : List Tk} (hg : ∀ t, t ∈ l → 1 ≤ t.f0 ∧ t.f0 ≤ t.f2 ∧ t.f2 = t.f1 ∧ t.f1 ≤ 1048576) : ∀ k, k ≤ l.length → 1 ≤ (wsum (l.take k)).2 ∧ (wsum (l.take k)).2 ≤ M20 k ∧ 0 ≤ (wsum (l.take k)).1 ∧ (wsum (l.take k)).1 ≤ (k : Int) * (wsum (l.take k)).2
  | 0, _ => by simp [wsum, M20]
  | k + 1, hk => by
    obtain ⟨i1, i2, i3, i4⟩ := wsum_rng hg k (by omega)
    obtain ⟨x, hx, _⟩ := drop_at (l := l) (i := k) (by omega)
    obtain ⟨g1, g2, g3, g4⟩ := hg x (List.mem_iff_getElem?.2 ⟨k, hx⟩)
    rw [wsum_step hx]
    unfold wstep
    generalize (wsum (l.take k)).1 = u at *
    generalize (wsum (l.take k)).2 = v at *
    have a1 : v ≤ v * x.f1 := by have := Int.mul_le_mul_of_nonneg_left (show 1 ≤ x.f1 by omega) (show 0 ≤ v by omega); omega
    have a2 : v * x.f1 ≤ M20 k * 1048576 := Int.mul_le_mul i2 g4 (by omega) (by omega)
    have a3 : 0 ≤ u * x.f1 := Int.mul_nonneg i3 (by omega)
    have a4 : 0 ≤ v * x.f0 := Int.mul_nonneg (by omega) (by omega)
    have a5 : u * x.f1 ≤ k * v * x.f1 := Int.mul_le_mul_of_nonneg_right i4 (by omega)
    have a6 : v * x.f0 ≤ v * x.f1 := Int.mul_le_mul_of_nonneg_left (by omega) (by omega)
    refine ⟨by show 1 ≤ v * x.f1; omega, a2, by show 0 ≤ u * x.f1 + v * x.f0; omega, ?_⟩
    show u * x.f1 + v * x.f0 ≤ ((k + 1 : Nat) : Int) * (v * x.f1)
    rw [Int.natCast_add, Int.add_mul, ← Int.mul_assoc]; simp only [Int.natCast_one, Int.one_mul]; omega
theorem hsum_rng {l : List Tk} (hl : l.length ≤ 8) (hg : ∀ t, t ∈ l → 1 ≤ t.f0 ∧ t.f0 ≤ t.f2 ∧ t.f2 = t.f1 ∧ t.f1 ≤ 1048576) : ∀ k, k ≤ l.length → 1 ≤ (hsum (l.take k)).2 ∧ (hsum (l.take k)).2 ≤ 2 * M20 k ∧ 1 ≤ (hsum (l.take k)).1 ∧ (hsum (l.take k)).1 ≤ 256 * M20 k
  | k, hk => by
    have key : ∀ k, k ≤ l.length → 1 ≤ (hsum (l.take k)).2 ∧ (hsum (l.take k)).2 ≤ 2 * M20 k ∧ 1 ≤ (hsum (l.take k)).1 ∧ (hsum (l.take k)).1 ≤ 2 ^ k * M20 k := by
      intro k
      induction k with
      | zero => intro _; simp [hsum, M20]
      | succ k ih =>
        intro hk
        obtain ⟨i1, i2, i3, i4⟩ := ih (by omega)
        obtain ⟨x, hx, _⟩ := drop_at (l := l) (i := k) (by omega)
        obtain ⟨g1, g2, g3, g4⟩ := hg x (List.mem_iff_getElem?.2 ⟨k, hx⟩)
        rw [hsum_step hx]
        unfold hstep
        generalize (hsum (l.take k)).1 = u at *
        generalize (hsum (l.take k)).2 = v at *
        have a1 : v ≤ v * x.f1 := by have := Int.mul_le_mul_of_nonneg_left (show 1 ≤ x.f1 by omega) (show 0 ≤ v by omega); omega
        have a2 : v * x.f1 ≤ (2 * M20 k) * 1048576 := Int.mul_le_mul i2 g4 (by omega) (by have := M20_pos k; omega)
        have a3 : u ≤ u * (x.f1 + x.f0) := by have := Int.mul_le_mul_of_nonneg_left (show 1 ≤ x.f1 + x.f0 by omega) (show 0 ≤ u by omega); omega
        have a4 : u * (x.f1 + x.f0) ≤ (2 ^ k * M20 k) * (2 * 1048576) := Int.mul_le_mul i4 (by omega) (by omega) (Int.mul_nonneg (Int.pow_nonneg (by omega)) (by have := M20_pos k; omega))
        have e2 : M20 (k + 1) = M20 k * 1048576 := rfl
        refine ⟨by show 1 ≤ v * x.f1; omega, ?_, by show 1 ≤ u * (x.f1 + x.f0); omega, ?_⟩
        · show v * x.f1 ≤ 2 * M20 (k + 1); rw [e2]; omega
        · show u * (x.f1 + x.f0) ≤ 2 ^ (k + 1) * M20 (k + 1)
          refine Int.le_trans a4 (Int.le_of_eq ?_)
          rw [e2, Int.pow_succ, Int.mul_assoc, Int.mul_assoc, Int.mul_left_comm (M20 k)]
    obtain ⟨k1, k2, k3, k4⟩ := key k hk
    refine ⟨k1, k2, k3, Int.le_trans k4 (Int.mul_le_mul_of_nonneg_right ?_ (by have := M20_pos k; omega))⟩
    have : k = 0 ∨ k = 1 ∨ k = 2 ∨ k = 3 ∨ k = 4 ∨ k = 5 ∨ k = 6 ∨ k = 7 ∨ k = 8 := by omega
    rcases this with rfl | rfl | rfl | rfl | rfl | rfl | rfl | rfl | rfl <;> decide
theorem M20_8 : M20 8 = 1461501637330902918203684832716283019655932542976 := by decide

end Go.Proofs.Ytabboklejodbaaa
