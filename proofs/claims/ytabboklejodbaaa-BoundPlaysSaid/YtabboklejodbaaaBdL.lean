/- The document's answers of layer 33, by the printed functions: numbers in digits, and what sets are. -/
import Derived.Test.YtabboklejodbaaaWide5
import Derived.Test.YtabboklejodbaaaBd5
namespace Go.Proofs.Ytabboklejodbaaa
open Go.RowKit Go.Proofs.YtabboklejodbaaaW.PrintWords

def dv : List Int → Int
  | [] => 0
  | d :: r => d + 10 * dv r
def digs (l : List Int) : Prop := ∀ d, d ∈ l → 0 ≤ d ∧ d ≤ 9
theorem dv_nonneg {l : List Int} (h : digs l) : 0 ≤ dv l := by
  induction l with
  | nil => simp [dv]
  | cons x l ih => have := h x (by simp); have := ih (fun d hd => h d (by simp [hd])); show 0 ≤ x + 10 * dv l; omega
theorem digs_cons {x : Int} {l : List Int} (h0 : 0 ≤ x) (h1 : x ≤ 9) (h : digs l) : digs (x :: l) := fun d hd => by
  rcases List.mem_cons.1 hd with rfl | hd
  · exact ⟨h0, h1⟩
  · exact h d hd
theorem digs_drop {l : List Int} (h : digs l) (i : Nat) : digs (l.drop i) := fun d hd => h d (List.mem_of_mem_drop hd)
theorem rdi (l : List Int) (i : Nat) (x : Int) (h : l[i]? = some x) : rd l (i : Int) = x := by unfold rd; simp [List.getD, h]
theorem wr64 {n : Int} (h0 : -1000000000000 ≤ n) (h1 : n ≤ 1000000000000) : wrap64 n = n := by unfold wrap64; omega
def P10 : Nat → Int
  | 0 => 1
  | m + 1 => 10 * P10 m

theorem times_end (a : List Int) (n : Int) : ∀ (m k i : Nat) (out : List Int) (c : Int), a.length ≤ i → i + m < 1000 → out.length ≤ i → 0 ≤ c → c < P10 m → c ≤ 1000000000 → 2 * m + 2 ≤ k →
    ∃ r, Bd.remontoireref33_times.l0 k a n out c (i : Int) = some (out ++ r) ∧ digs r ∧ dv r = c ∧ r.length ≤ m
  | 0, k, i, out, c, hi, _, _, h0, h1, _, hk => by
    obtain ⟨k, rfl⟩ : ∃ q, k = q + 2 := ⟨k - 2, by omega⟩
    have hc : c = 0 := by unfold P10 at h1; omega
    subst hc
    refine ⟨[], ?_, fun d hd => by simp at hd, rfl, Nat.le_refl _⟩
    simp only [Bd.remontoireref33_times.l0, Bd.remontoireref33_times.j1]
    rw [if_neg (by omega), decide_eq_false (by omega), if_neg (by simp)]; simp
  | m + 1, k, i, out, c, hi, hm, ho, h0, h1, h2, hk => by
    obtain ⟨k, rfl⟩ : ∃ q, k = q + 2 := ⟨k - 2, by omega⟩
    by_cases hc : c = 0
    · subst hc
      refine ⟨[], ?_, fun d hd => by simp at hd, rfl, by simp⟩
      simp only [Bd.remontoireref33_times.l0, Bd.remontoireref33_times.j1]
      rw [if_neg (by omega), decide_eq_false (by omega), if_neg (by simp)]; simp
    · obtain ⟨r, e1, e2, e3, e4⟩ := times_end a n m k (i + 1) (out ++ [c % 10]) (c / 10) (by omega) (by omega) (by simp; omega) (by omega) (by unfold P10 at h1; omega) (by omega) (by omega)
      refine ⟨c % 10 :: r, ?_, digs_cons (by omega) (by omega) e2, by show c % 10 + 10 * dv r = c; rw [e3]; omega, by simp; omega⟩
      simp only [Bd.remontoireref33_times.l0, Bd.remontoireref33_times.j1]
      rw [if_neg (by omega), decide_eq_true (by omega), if_pos rfl, if_neg (by omega), if_pos (by omega), Int.tmod_eq_emod_of_nonneg h0, Int.tdiv_eq_ediv_of_nonneg h0, wr64 (n := c / 10) (by omega) (by omega), wr64 (n := (i : Int) + 1) (by omega) (by omega)]
      rw [show (i : Int) + 1 = ((i + 1 : Nat) : Int) by omega, e1]; simp
theorem times_l0 (a : List Int) (n : Int) (ha : digs a) (hl : a.length ≤ 200) (hn0 : 0 ≤ n) (hn : n ≤ 4194304) : ∀ (d k i : Nat) (out : List Int) (c : Int), a.length - i = d → i ≤ a.length → out.length ≤ i → 0 ≤ c → c ≤ n → 2 * d + 16 ≤ k →
    ∃ r, Bd.remontoireref33_times.l0 k a n out c (i : Int) = some (out ++ r) ∧ digs r ∧ dv r = c + n * dv (a.drop i) ∧ r.length ≤ d + 7
  | 0, k, i, out, c, hd, hi, ho, h0, h1, hk => by
    obtain ⟨r, e1, e2, e3, e4⟩ := times_end a n 7 k i out c (by omega) (by omega) ho h0 (by show c < 10000000; omega) (by omega) (by omega)
    exact ⟨r, e1, e2, by rw [e3, List.drop_eq_nil_of_le (by omega)]; simp [dv], by omega⟩
  | d + 1, k, i, out, c, hd, hi, ho, h0, h1, hk => by
    obtain ⟨k, rfl⟩ : ∃ q, k = q + 2 := ⟨k - 2, by omega⟩
    obtain ⟨x, hx, hdr⟩ := drop_at (l := a) (i := i) (by omega)
    have hx2 := ha x (List.mem_iff_getElem?.2 ⟨i, hx⟩)
    have p0 : 0 ≤ x * n := Int.mul_nonneg hx2.1 hn0
    have p1 : x * n ≤ 9 * n := Int.mul_le_mul_of_nonneg_right hx2.2 hn0
    obtain ⟨r, e1, e2, e3, e4⟩ := times_l0 a n ha hl hn0 hn d k (i + 1) (out ++ [(c + x * n) % 10]) ((c + x * n) / 10) (by omega) (by omega) (by simp; omega) (by omega) (by omega) (by omega)
    refine ⟨(c + x * n) % 10 :: r, ?_, digs_cons (by omega) (by omega) e2, ?_, by simp; omega⟩
    · simp only [Bd.remontoireref33_times.l0, Bd.remontoireref33_times.j1]
      rw [if_pos (by omega), if_pos trivial, if_pos (by omega), if_pos (by omega), if_pos (by omega), rdi a i x hx, wr64 (n := x * n) (by omega) (by omega), wr64 (n := c + x * n) (by omega) (by omega), Int.tmod_eq_emod_of_nonneg (by omega), Int.tdiv_eq_ediv_of_nonneg (by omega), wr64 (n := (c + x * n) / 10) (by omega) (by omega), wr64 (n := (i : Int) + 1) (by omega) (by omega)]
      rw [show (i : Int) + 1 = ((i + 1 : Nat) : Int) by omega, e1]; simp
    · rw [hdr]
      show (c + x * n) % 10 + 10 * dv r = c + n * (x + 10 * dv (a.drop (i + 1)))
      have q1 : n * (x + 10 * dv (a.drop (i + 1))) = x * n + 10 * (n * dv (a.drop (i + 1))) := by rw [Int.mul_add, Int.mul_comm n x, Int.mul_left_comm n 10]
      rw [e3, q1]; omega
theorem times_f (a : List Int) (n : Int) (ha : digs a) (hl : a.length ≤ 200) (hn0 : 0 ≤ n) (hn : n ≤ 4194304) (k : Nat) (hk : 500 ≤ k) :
    ∃ r, Bd.remontoireref33_times.f k a n = some r ∧ digs r ∧ dv r = dv a * n ∧ r.length ≤ a.length + 7 := by
  obtain ⟨r, e1, e2, e3, e4⟩ := times_l0 a n ha hl hn0 hn a.length k 0 [] 0 (by omega) (by omega) (by simp) (by omega) hn0 (by omega)
  refine ⟨r, ?_, e2, by rw [e3, List.drop_zero, Int.mul_comm]; omega, e4⟩
  unfold Bd.remontoireref33_times.f
  rw [show ((0 : Nat) : Int) = 0 from rfl] at e1
  rw [e1]; simp

theorem digit_f (a : List Int) (i : Nat) : Bd.remontoireref33_digit.f a (i : Int) = some (a.getD i 0) := by
  unfold Bd.remontoireref33_digit.f
  by_cases h : i < a.length
  · rw [if_pos (by omega), if_pos (by omega)]; simp [rd]
  · rw [if_neg (by omega)]; simp [List.getD, List.getElem?_eq_none (show a.length ≤ i by omega)]
theorem getD_digs {a : List Int} (h : digs a) (i : Nat) : 0 ≤ a.getD i 0 ∧ a.getD i 0 ≤ 9 := by
  by_cases hi : i < a.length
  · have := h a[i] (List.getElem_mem _); simpa [List.getD, hi] using this
  · simp [List.getD, List.getElem?_eq_none (show a.length ≤ i by omega)]
theorem dv_drop (a : List Int) (i : Nat) : dv (a.drop i) = a.getD i 0 + 10 * dv (a.drop (i + 1)) := by
  by_cases hi : i < a.length
  · obtain ⟨x, hx, hdr⟩ := drop_at hi
    rw [hdr]; simp [dv, List.getD, hx]
  · rw [List.drop_eq_nil_of_le (by omega), List.drop_eq_nil_of_le (by omega)]; simp [dv, List.getD, List.getElem?_eq_none (show a.length ≤ i by omega)]
theorem plus_l0 (a b : List Int) (ha : digs a) (hb : digs b) (hla : a.length ≤ 200) (hlb : b.length ≤ 200) : ∀ (d k i : Nat) (out : List Int) (c : Int), max a.length b.length - i = d → i ≤ max a.length b.length → out.length ≤ i → 0 ≤ c → c ≤ 1 → 2 * d + 6 ≤ k →
    ∃ r, Bd.remontoireref33_plus.l0 k a b out c (i : Int) = some (out ++ r) ∧ digs r ∧ dv r = c + dv (a.drop i) + dv (b.drop i) ∧ r.length ≤ d + 1
  | 0, k, i, out, c, hd, hi, ho, h0, h1, hk => by
    obtain ⟨k, rfl⟩ : ∃ q, k = q + 4 := ⟨k - 4, by omega⟩
    have hia : a.length ≤ i := by omega
    have hib : b.length ≤ i := by omega
    have ea : a.getD i 0 = 0 := by simp [List.getD, List.getElem?_eq_none hia]
    have eb : b.getD i 0 = 0 := by simp [List.getD, List.getElem?_eq_none hib]
    rw [List.drop_eq_nil_of_le hia, List.drop_eq_nil_of_le hib]
    by_cases hc : c = 0
    · subst hc
      refine ⟨[], ?_, fun d hd => by simp at hd, rfl, by simp⟩
      simp only [Bd.remontoireref33_plus.l0, Bd.remontoireref33_plus.j1]
      rw [if_neg (by omega), if_neg (by omega), decide_eq_false (by omega), if_neg (by simp)]; simp
    · obtain rfl : c = 1 := by omega
      refine ⟨[1], ?_, digs_cons (by omega) (by omega) (fun d hd => by simp at hd), by simp [dv], by simp⟩
      simp only [Bd.remontoireref33_plus.l0, Bd.remontoireref33_plus.j1]
      rw [if_neg (by omega), if_neg (by omega), decide_eq_true (by omega), if_pos rfl, digit_f, digit_f, ea, eb]
      simp only [Option.bind_some]
      rw [if_pos (by omega), wr64 (n := (i : Int) + 1) (by omega) (by omega)]
      rw [wr64 (n := 1 + 0) (by omega) (by omega), wr64 (n := 1 + 0 + 0) (by omega) (by omega), show Int.tdiv (1 + 0 + 0) 10 = 0 from rfl, show Int.tmod (1 + 0 + 0) 10 = 1 from rfl, wr64 (n := 0) (by omega) (by omega)]
      rw [if_neg (by omega), if_neg (by omega), decide_eq_false (by omega), if_neg (by simp)]
  | d + 1, k, i, out, c, hd, hi, ho, h0, h1, hk => by
    obtain ⟨k, rfl⟩ : ∃ q, k = q + 2 := ⟨k - 2, by omega⟩
    have hxa := getD_digs ha i
    have hxb := getD_digs hb i
    have ea := dv_drop a i
    have eb := dv_drop b i
    have fa := digit_f a i
    have fb := digit_f b i
    generalize a.getD i 0 = x at *
    generalize b.getD i 0 = y at *
    obtain ⟨r, e1, e2, e3, e4⟩ := plus_l0 a b ha hb hla hlb d k (i + 1) (out ++ [(c + x + y) % 10]) ((c + x + y) / 10) (by omega) (by omega) (by simp; omega) (by omega) (by omega) (by omega)
    refine ⟨(c + x + y) % 10 :: r, ?_, digs_cons (by omega) (by omega) e2, ?_, by simp; omega⟩
    · have hj : Bd.remontoireref33_plus.l0 (k + 2) a b out c (i : Int) = Bd.remontoireref33_plus.j1 (k + 1) a b out c (i : Int) true := by
        simp only [Bd.remontoireref33_plus.l0]
        by_cases hia : i < a.length
        · rw [if_pos (by omega)]
        · rw [if_neg (by omega), if_pos (by omega)]
      rw [hj]
      simp only [Bd.remontoireref33_plus.j1]
      rw [if_pos trivial, fa, fb]
      simp only [Option.bind_some]
      rw [if_pos (by omega), wr64 (n := c + x) (by omega) (by omega), wr64 (n := c + x + y) (by omega) (by omega), Int.tmod_eq_emod_of_nonneg (by omega), Int.tdiv_eq_ediv_of_nonneg (by omega), wr64 (n := (c + x + y) / 10) (by omega) (by omega), wr64 (n := (i : Int) + 1) (by omega) (by omega)]
      rw [show (i : Int) + 1 = ((i + 1 : Nat) : Int) by omega, e1]; simp
    · show (c + x + y) % 10 + 10 * dv r = _
      rw [e3, ea, eb]; omega
theorem plus_f (a b : List Int) (ha : digs a) (hb : digs b) (hla : a.length ≤ 200) (hlb : b.length ≤ 200) (k : Nat) (hk : 500 ≤ k) :
    ∃ r, Bd.remontoireref33_plus.f k a b = some r ∧ digs r ∧ dv r = dv a + dv b ∧ r.length ≤ max a.length b.length + 1 := by
  obtain ⟨r, e1, e2, e3, e4⟩ := plus_l0 a b ha hb hla hlb (max a.length b.length) k 0 [] 0 (by omega) (by omega) (by simp) (by omega) (by omega) (by omega)
  refine ⟨r, ?_, e2, by rw [e3]; simp, e4⟩
  unfold Bd.remontoireref33_plus.f
  rw [show ((0 : Nat) : Int) = 0 from rfl] at e1
  rw [e1]; simp

def gv (a : List Int) : Nat → Int
  | 0 => 0
  | m + 1 => gv a m + a.getD m 0 * P10 m
theorem P10_pos : ∀ m, 1 ≤ P10 m
  | 0 => Int.le_refl _
  | m + 1 => by have := P10_pos m; show 1 ≤ 10 * P10 m; omega
theorem gv_rng {a : List Int} (h : digs a) : ∀ m, 0 ≤ gv a m ∧ gv a m < P10 m
  | 0 => by simp [gv, P10]
  | m + 1 => by
    obtain ⟨i1, i2⟩ := gv_rng h m
    obtain ⟨h1, h2⟩ := getD_digs h m
    have hp := P10_pos m
    have a1 : 0 ≤ a.getD m 0 * P10 m := Int.mul_nonneg h1 (by omega)
    have a2 : a.getD m 0 * P10 m ≤ 9 * P10 m := Int.mul_le_mul_of_nonneg_right h2 (by omega)
    exact ⟨by show 0 ≤ gv a m + _; omega, by show gv a m + _ < 10 * P10 m; omega⟩
theorem gv_cons (x : Int) (a : List Int) : ∀ m, gv (x :: a) (m + 1) = x + 10 * gv a m
  | 0 => by simp [gv, P10]
  | m + 1 => by
    show gv (x :: a) (m + 1) + (x :: a).getD (m + 1) 0 * P10 (m + 1) = x + 10 * (gv a m + a.getD m 0 * P10 m)
    rw [gv_cons x a m]
    have : (x :: a).getD (m + 1) 0 = a.getD m 0 := by simp
    rw [this, show P10 (m + 1) = 10 * P10 m from rfl, Int.mul_left_comm]; omega
theorem gv_nil : ∀ m, gv [] m = 0
  | 0 => rfl
  | m + 1 => by show gv [] m + _ = 0; rw [gv_nil m]; simp
theorem dv_gv : ∀ (a : List Int) (m : Nat), a.length ≤ m → gv a m = dv a
  | [], m, _ => gv_nil m
  | x :: a, 0, h => by simp at h
  | x :: a, m + 1, h => by rw [gv_cons, dv_gv a m (by simpa using h)]; rfl
theorem most_l0 (a b : List Int) (ha : digs a) (hb : digs b) : ∀ (m k : Nat), m ≤ 1000 → m < k → Bd.remontoireref33_most.l0 k a b ((m : Int) - 1) = some (decide (gv a m ≤ gv b m))
  | 0, k, _, hk => by
    obtain ⟨k, rfl⟩ : ∃ q, k = q + 1 := ⟨k - 1, by omega⟩
    simp only [Bd.remontoireref33_most.l0]
    rw [if_neg (by omega)]; simp [gv]
  | m + 1, k, hm, hk => by
    obtain ⟨k, rfl⟩ : ∃ q, k = q + 1 := ⟨k - 1, by omega⟩
    have ih := most_l0 a b ha hb m k (by omega) (by omega)
    have hxa := getD_digs ha m
    have hxb := getD_digs hb m
    obtain ⟨a1, a2⟩ := gv_rng ha m
    obtain ⟨b1, b2⟩ := gv_rng hb m
    have hp := P10_pos m
    rw [show ((m + 1 : Nat) : Int) - 1 = (m : Int) by omega]
    simp only [Bd.remontoireref33_most.l0]
    rw [if_pos (by omega), digit_f, digit_f]
    simp only [Option.bind_some]
    show (if a.getD m 0 = b.getD m 0 then _ else some (decide (a.getD m 0 < b.getD m 0))) = some (decide (gv a m + a.getD m 0 * P10 m ≤ gv b m + b.getD m 0 * P10 m))
    generalize a.getD m 0 = x at *
    generalize b.getD m 0 = y at *
    by_cases he : x = y
    · rw [if_pos he, wr64 (by omega) (by omega), ih, he]
      congr 1; apply decide_eq_decide.2; omega
    · rw [if_neg he]
      congr 1; apply decide_eq_decide.2
      by_cases hlt : x < y
      · have : (x + 1) * P10 m ≤ y * P10 m := Int.mul_le_mul_of_nonneg_right (by omega) (by omega)
        rw [Int.add_mul] at this
        constructor <;> intro _ <;> omega
      · have : (y + 1) * P10 m ≤ x * P10 m := Int.mul_le_mul_of_nonneg_right (by omega) (by omega)
        rw [Int.add_mul] at this
        constructor <;> intro _ <;> omega
theorem most_f (a b : List Int) (ha : digs a) (hb : digs b) (hla : a.length ≤ 500) (hlb : b.length ≤ 500) (k : Nat) (hk : 1001 ≤ k) : Bd.remontoireref33_most.f k a b = some (decide (dv a ≤ dv b)) := by
  unfold Bd.remontoireref33_most.f
  have em : mx (a.length : Int) (b.length : Int) = ((max a.length b.length : Nat) : Int) := by unfold mx; split <;> omega
  rw [em, wr64 (by omega) (by omega), most_l0 a b ha hb _ k (by omega) (by omega), dv_gv a _ (by omega), dv_gv b _ (by omega)]

end Go.Proofs.Ytabboklejodbaaa
