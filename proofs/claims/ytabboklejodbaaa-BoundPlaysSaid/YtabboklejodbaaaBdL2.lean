/- The document's answers of layer 33 are the program's. -/
import Derived.Test.YtabboklejodbaaaBdL
namespace Go.Proofs.Ytabboklejodbaaa
open Go.RowKit Go.Proofs.YtabboklejodbaaaW.PrintWords

theorem rright_f (t : Tk) : Bd.remontoireref03_Right.f t.f0 t.f1 t.f2 = some (okT t) := by
  unfold Bd.remontoireref03_Right.f okT
  by_cases h1 : t.f0 > 0
  · rw [if_pos h1]
    by_cases h2 : t.f2 ≥ t.f0
    · rw [if_pos h2]
      by_cases h3 : t.f1 ≥ t.f2
      · rw [if_pos h3]; congr 1; apply decide_eq_decide.2; omega
      · rw [if_neg h3, decide_eq_false (by omega)]
    · rw [if_neg h2, decide_eq_false (by omega)]
  · rw [if_neg h1, decide_eq_false (by omega)]
theorem rall_l0 (l : List Tk) (hl : l.length ≤ 40) : ∀ (d k i : Nat), l.length - i = d → i ≤ l.length → i ≤ 9 → 2 * d + 2 ≤ k → Bd.remontoireref03_All.l0 k l (i : Int) = some (decide (l.length < 9) && (((l.drop i).take (9 - i)).all okT))
  | 0, k, i, hd, hi, h9, hk => by
    obtain ⟨k, rfl⟩ : ∃ q, k = q + 2 := ⟨k - 2, by omega⟩
    simp only [Bd.remontoireref03_All.l0, Bd.remontoireref03_All.j1]
    rw [if_neg (by omega), if_neg (by simp), List.drop_eq_nil_of_le (by omega)]
    simp; omega
  | d + 1, k, i, hd, hi, h9, hk => by
    obtain ⟨k, rfl⟩ : ∃ q, k = q + 2 := ⟨k - 2, by omega⟩
    obtain ⟨x, hx, hdr⟩ := drop_at (l := l) (i := i) (by omega)
    simp only [Bd.remontoireref03_All.l0, Bd.remontoireref03_All.j1]
    rw [if_pos (by omega)]
    by_cases hi9 : i < 9
    · rw [decide_eq_true (by omega), if_pos rfl, if_pos (by omega), if_pos (by omega), rd_at l i x hx, rright_f, w64 (by omega), rall_l0 l hl d k (i + 1) (by omega) (by omega) (by omega) (by omega), hdr, show 9 - i = (9 - (i + 1)) + 1 by omega, List.take_succ_cons, List.all_cons]
      simp only [Option.bind_some]
      cases okT x <;> simp
    · have : i = 9 := by omega
      subst this
      rw [decide_eq_false (by omega), if_neg (by simp)]
      have h1 : decide ((l.length : Int) < 9) = false := decide_eq_false (by omega)
      have h2 : decide (l.length < 9) = false := decide_eq_false (by omega)
      rw [h1, h2]; rfl
theorem rall_f (l : List Tk) (hl : l.length ≤ 40) (k : Nat) (hk : 100 ≤ k) : Bd.remontoireref03_All.f k l = some (decide (l.length ≤ 8) && l.all okT) := by
  unfold Bd.remontoireref03_All.f
  have h := rall_l0 l hl l.length k 0 (by omega) (by omega) (by omega) (by omega)
  rw [show ((0 : Nat) : Int) = 0 from rfl] at h
  rw [h, List.drop_zero]
  by_cases h8 : l.length ≤ 8
  · rw [decide_eq_true (show l.length < 9 by omega), decide_eq_true h8, List.take_of_length_le (by omega)]
  · rw [decide_eq_false (show ¬ l.length < 9 by omega), decide_eq_false h8]; rfl
theorem rimpl_l0 (l : List Tk) (hl : l.length ≤ 40) : ∀ (d k i : Nat), l.length - i = d → i ≤ l.length → d < k → Bd.remontoireref33_Implicit.l0 k l (i : Int) = some ((l.drop i).all fun t => decide (t.f2 = t.f1)) := by
  intro d
  induction d with
  | zero =>
    intro k i hd hi hk
    obtain ⟨k, rfl⟩ : ∃ m, k = m + 1 := ⟨k - 1, by omega⟩
    simp only [Bd.remontoireref33_Implicit.l0]
    rw [if_neg (by omega), List.drop_eq_nil_of_le (by omega)]; rfl
  | succ d ih =>
    intro k i hd hi hk
    obtain ⟨k, rfl⟩ : ∃ m, k = m + 1 := ⟨k - 1, by omega⟩
    obtain ⟨x, hx, hdr⟩ := drop_at (l := l) (i := i) (by omega)
    simp only [Bd.remontoireref33_Implicit.l0]
    rw [if_pos (by omega), if_pos (by omega), rd_at l i x hx, w64 (by omega), ih k (i + 1) (by omega) (by omega) (by omega), hdr, List.all_cons]
    by_cases he : x.f2 = x.f1
    · rw [if_pos he, decide_eq_true he]; rfl
    · rw [if_neg he, decide_eq_false he]; rfl
theorem rimpl_f (l : List Tk) (hl : l.length ≤ 40) (k : Nat) (hk : 100 ≤ k) : Bd.remontoireref33_Implicit.f k l = some (implB l) := by
  unfold Bd.remontoireref33_Implicit.f implB
  rw [rall_f l hl k hk]
  simp only [Option.bind_some]
  by_cases h : l.length ≤ 8
  · rw [decide_eq_true h, Bool.true_and, Bool.true_and, ← good_all]
    cases ha : l.all okT
    · rfl
    · have h0 := rimpl_l0 l hl l.length k 0 (by omega) (by omega) (by omega)
      rw [show ((0 : Nat) : Int) = 0 from rfl] at h0
      rw [if_pos rfl, h0, List.drop_zero]; rfl
  · rw [decide_eq_false h]; rfl

theorem impl_rng {l : List Tk} (h : implB l = true) {i : Nat} {x : Tk} (hx : l[i]? = some x) : 1 ≤ x.f0 ∧ x.f0 ≤ x.f1 ∧ x.f1 ≤ 1048576 := by
  obtain ⟨_, h2⟩ := implB_iff.1 h
  obtain ⟨g1, g2, g3, g4⟩ := h2 x (List.mem_iff_getElem?.2 ⟨i, hx⟩)
  omega

/-! Hyperbolic -/
theorem rhyp_l0 (l : List Tk) (hI : implB l = true) : ∀ (d k i : Nat) (a b : List Int), l.length - i = d → i ≤ l.length → d + 2000 ≤ k → digs a → digs b → a.length ≤ 1 + 7 * i → b.length ≤ 1 + 7 * i → (dv a, dv b) = hsum (l.take i) →
    Bd.remontoireref33_Hyperbolic.l0 k l a b (i : Int) = some (decide ((hsum l).1 ≤ (hsum l).2)) := by
  have h8 := (implB_iff.1 hI).1
  intro d
  induction d with
  | zero =>
    intro k i a b hd hi hk ha hb hla hlb hv
    obtain ⟨k, rfl⟩ : ∃ m, k = m + 1 := ⟨k - 1, by omega⟩
    simp only [Bd.remontoireref33_Hyperbolic.l0]
    have : i = l.length := by omega
    subst this
    rw [List.take_of_length_le (Nat.le_refl _)] at hv
    rw [if_neg (by omega), most_f a b ha hb (by omega) (by omega) k (by omega), ← hv]; rfl
  | succ d ih =>
    intro k i a b hd hi hk ha hb hla hlb hv
    obtain ⟨k, rfl⟩ : ∃ m, k = m + 1 := ⟨k - 1, by omega⟩
    obtain ⟨x, hx, hdr⟩ := drop_at (l := l) (i := i) (by omega)
    obtain ⟨g1, g2, g3⟩ := impl_rng hI hx
    simp only [Bd.remontoireref33_Hyperbolic.l0]
    rw [if_pos (by omega), if_pos (by omega), rd_at l i x hx, wr64 (n := x.f0 + x.f1) (by omega) (by omega)]
    obtain ⟨r, e1, e2, e3, e4⟩ := times_f a (x.f0 + x.f1) ha (by omega) (by omega) (by omega) k (by omega)
    obtain ⟨s, f1, f2, f3, f4⟩ := times_f b x.f1 hb (by omega) (by omega) (by omega) k (by omega)
    rw [e1]
    simp only [Option.bind_some]
    rw [f1]
    simp only [Option.bind_some]
    rw [w64 (by omega)]
    refine ih k (i + 1) r s (by omega) (by omega) (by omega) e2 f2 (by omega) (by omega) ?_
    rw [hsum_step hx, ← hv, e3, f3]
    unfold hstep
    rw [Int.add_comm x.f0]
theorem rhyp_f (l : List Tk) (hl : l.length ≤ 40) (k : Nat) (hk : 3000 ≤ k) : Bd.remontoireref33_Hyperbolic.f k l = some (hyperB l) := by
  unfold Bd.remontoireref33_Hyperbolic.f hyperB
  rw [rimpl_f l hl k (by omega)]
  simp only [Option.bind_some]
  cases hI : implB l
  · rfl
  · have h8 := (implB_iff.1 hI).1
    have h := rhyp_l0 l hI l.length k 0 [1] [2] (by omega) (by omega) (by omega) (fun d hd => by simp at hd; omega) (fun d hd => by simp at hd; omega) (by simp) (by simp) (by simp [dv, hsum])
    rw [show ((0 : Nat) : Int) = 0 from rfl] at h
    rw [if_pos rfl, h, Bool.true_and]

/-! Whole -/
def px (l : List Tk) (m : Nat) : Nat → Int
  | 0 => 1
  | j + 1 => px l m j * (if j = m then (l.getD j Bd.z31).f0 else (l.getD j Bd.z31).f1)
def sx (l : List Tk) (n : Nat) : Nat → Int
  | 0 => 0
  | m + 1 => sx l n m + px l m n
def pp (l : List Tk) : Nat → Int
  | 0 => 1
  | j + 1 => pp l j * (l.getD j Bd.z31).f1
theorem px_low (l : List Tk) (m : Nat) : ∀ j, j ≤ m → px l m j = pp l j
  | 0, _ => rfl
  | j + 1, h => by show px l m j * _ = pp l j * _; rw [px_low l m j (by omega), if_neg (by omega)]
theorem sx_step (l : List Tk) (n : Nat) : ∀ m, m ≤ n → sx l (n + 1) m = sx l n m * (l.getD n Bd.z31).f1
  | 0, _ => by simp [sx]
  | m + 1, h => by
    show sx l (n + 1) m + px l m n * _ = (sx l n m + px l m n) * _
    rw [sx_step l n m (by omega), if_neg (by omega), Int.add_mul]
theorem wsum_sx (l : List Tk) : ∀ n, n ≤ l.length → wsum (l.take n) = (sx l n n, pp l n)
  | 0, _ => rfl
  | n + 1, h => by
    obtain ⟨x, hx, _⟩ := drop_at (l := l) (i := n) (by omega)
    have hg : l.getD n Bd.z31 = x := by simp [List.getD, hx]
    rw [wsum_step hx, wsum_sx l n (by omega)]
    show (sx l n n * x.f1 + pp l n * x.f0, pp l n * x.f1) = (sx l (n + 1) n + px l n n * (if n = n then (l.getD n Bd.z31).f0 else _), pp l n * (l.getD n Bd.z31).f1)
    rw [sx_step l n n (Nat.le_refl _), if_pos rfl, px_low l n n (Nat.le_refl _), hg]

theorem rwhole_l1 (l : List Tk) (hI : implB l = true) (a s : List Int) (m : Nat) (K : Nat) (R : Option Bool)
    (hs : digs s) (hls : s.length ≤ 100)
    (hR : ∀ (k : Nat) (r : List Int), K ≤ k → digs r → r.length ≤ max s.length 57 + 1 → dv r = dv s + px l m l.length → Bd.remontoireref33_Whole.l0 k l a r (wrap64 ((m : Int) + 1)) = R) :
    ∀ (d k j : Nat) (x : List Int), l.length - j = d → j ≤ l.length → d + 1000 + K ≤ k → digs x → x.length ≤ 1 + 7 * j → dv x = px l m j →
    Bd.remontoireref33_Whole.l1 k l a s (m : Int) x (j : Int) = R := by
  have h8 := (implB_iff.1 hI).1
  intro d
  induction d with
  | zero =>
    intro k j x hd hj hk hx hlx hv
    obtain ⟨k, rfl⟩ : ∃ q, k = q + 1 := ⟨k - 1, by omega⟩
    have : j = l.length := by omega
    subst this
    obtain ⟨r, e1, e2, e3, e4⟩ := plus_f s x hs hx (by omega) (by omega) k (by omega)
    simp only [Bd.remontoireref33_Whole.l1]
    rw [if_neg (by omega), e1]
    simp only [Option.bind_some]
    exact hR k r (by omega) e2 (by omega) (by rw [e3, hv])
  | succ d ih =>
    intro k j x hd hj hk hx hlx hv
    obtain ⟨k, rfl⟩ : ∃ q, k = q + 1 := ⟨k - 1, by omega⟩
    obtain ⟨t, ht, hdr⟩ := drop_at (l := l) (i := j) (by omega)
    obtain ⟨g1, g2, g3⟩ := impl_rng hI ht
    have hg : l.getD j Bd.z31 = t := by simp [List.getD, ht]
    simp only [Bd.remontoireref33_Whole.l1]
    rw [if_pos (by omega), rd_at l j t ht, w64 (by omega)]
    by_cases hjm : j = m
    · rw [if_pos (by omega), if_pos (by omega)]
      obtain ⟨r, e1, e2, e3, e4⟩ := times_f x t.f0 hx (by omega) (by omega) (by omega) k (by omega)
      rw [e1]
      simp only [Option.bind_some]
      refine ih k (j + 1) r (by omega) (by omega) (by omega) e2 (by omega) ?_
      rw [e3, hv]; show _ = px l m j * _; rw [if_pos hjm, hg]
    · rw [if_neg (by omega), if_pos (by omega)]
      obtain ⟨r, e1, e2, e3, e4⟩ := times_f x t.f1 hx (by omega) (by omega) (by omega) k (by omega)
      rw [e1]
      simp only [Option.bind_some]
      refine ih k (j + 1) r (by omega) (by omega) (by omega) e2 (by omega) ?_
      rw [e3, hv]; show _ = px l m j * _; rw [if_neg hjm, hg]
theorem rwhole_l0 (l : List Tk) (hI : implB l = true) : ∀ (d k i : Nat) (a s : List Int), l.length - i = d → i ≤ l.length → 2000 * d + 2000 ≤ k → digs a → digs s → a.length ≤ 1 + 7 * i → s.length ≤ 57 + i → dv a = pp l i → dv s = sx l l.length i →
    Bd.remontoireref33_Whole.l0 k l a s (i : Int) = some (decide ((wsum l).1 ≤ (wsum l).2)) := by
  have h8 := (implB_iff.1 hI).1
  intro d
  induction d with
  | zero =>
    intro k i a s hd hi hk ha hs hla hls hva hvs
    obtain ⟨k, rfl⟩ : ∃ m, k = m + 1 := ⟨k - 1, by omega⟩
    simp only [Bd.remontoireref33_Whole.l0]
    have : i = l.length := by omega
    subst this
    have hw := wsum_sx l l.length (Nat.le_refl _)
    rw [List.take_of_length_le (Nat.le_refl _)] at hw
    rw [if_neg (by omega), most_f s a hs ha (by omega) (by omega) k (by omega), hw, hva, hvs]; rfl
  | succ d ih =>
    intro k i a s hd hi hk ha hs hla hls hva hvs
    obtain ⟨k, rfl⟩ : ∃ m, k = m + 1 := ⟨k - 1, by omega⟩
    obtain ⟨t, ht, hdr⟩ := drop_at (l := l) (i := i) (by omega)
    obtain ⟨g1, g2, g3⟩ := impl_rng hI ht
    have hg : l.getD i Bd.z31 = t := by simp [List.getD, ht]
    obtain ⟨r, e1, e2, e3, e4⟩ := times_f a t.f1 ha (by omega) (by omega) (by omega) k (by omega)
    simp only [Bd.remontoireref33_Whole.l0]
    rw [if_pos (by omega), if_pos (by omega), rd_at l i t ht, e1]
    simp only [Option.bind_some]
    obtain ⟨K, hK⟩ : ∃ K, K = 2000 * d + 2000 := ⟨_, rfl⟩
    have h := rwhole_l1 l hI r s i K (some (decide ((wsum l).1 ≤ (wsum l).2))) hs (by omega) (fun k' r' hk' hr' hlr' hv' => by
      rw [w64 (by omega)]
      exact ih k' (i + 1) r r' (by omega) (by omega) (by omega) e2 hr' (by omega) (by omega) (by rw [e3, hva]; show _ = pp l i * _; rw [hg]) (by rw [hv', hvs]; rfl)) l.length k 0 [1] (by omega) (by omega) (by omega) (fun d hd => by simp at hd; omega) (by simp) (by simp [dv, px])
    rw [show ((0 : Nat) : Int) = 0 from rfl] at h
    exact h
theorem rwhole_f (l : List Tk) (hl : l.length ≤ 40) (k : Nat) (hk : 20000 ≤ k) : Bd.remontoireref33_Whole.f k l = some (wholeB l) := by
  unfold Bd.remontoireref33_Whole.f wholeB
  rw [rimpl_f l hl k (by omega)]
  simp only [Option.bind_some]
  cases hI : implB l
  · rfl
  · have h8 := (implB_iff.1 hI).1
    have h := rwhole_l0 l hI l.length k 0 [1] [] (by omega) (by omega) (by omega) (fun d hd => by simp at hd; omega) (fun d hd => by simp at hd) (by simp) (by simp) (show dv [1] = 1 from rfl) (show dv [] = 0 from rfl)
    rw [show ((0 : Nat) : Int) = 0 from rfl] at h
    rw [if_pos rfl, h, Bool.true_and]

/-! Harmonic -/
theorem dvd_mx {p q : Int} (hp : 1 ≤ p) (hq : 1 ≤ q) : (Int.tmod (mx p q) (mn p q) = 0) ↔ (Int.tmod p q = 0 ∨ Int.tmod q p = 0) := by
  have key : (p < q ∧ mx p q = q ∧ mn p q = p) ∨ (q < p ∧ mx p q = p ∧ mn p q = q) ∨ (p = q ∧ mx p q = p ∧ mn p q = p) := by
    unfold mx mn
    rcases Int.lt_trichotomy p q with h | h | h
    · refine .inl ⟨h, ?_, ?_⟩ <;> split <;> omega
    · refine .inr (.inr ⟨h, ?_, ?_⟩) <;> split <;> omega
    · refine .inr (.inl ⟨h, ?_, ?_⟩) <;> split <;> omega
  rcases key with ⟨h, e1, e2⟩ | ⟨h, e1, e2⟩ | ⟨h, e1, e2⟩
  · rw [e1, e2]
    constructor
    · exact fun e => .inr e
    · rintro (e | e)
      · rw [Int.tmod_eq_emod_of_nonneg (by omega), Int.emod_eq_of_lt (by omega) h] at e; omega
      · exact e
  · rw [e1, e2]
    constructor
    · exact fun e => .inl e
    · rintro (e | e)
      · exact e
      · rw [Int.tmod_eq_emod_of_nonneg (by omega), Int.emod_eq_of_lt (by omega) h] at e; omega
  · rw [e1, e2, h]; simp
theorem mn_pos {p q : Int} (hp : 1 ≤ p) (hq : 1 ≤ q) : mn p q ≠ 0 := by unfold mn; split <;> omega

def zT : Tk := Bd.z31
def rowOk (l : List Tk) (i : Nat) : Bool := (List.range i).all fun k => dvd1 (l.getD i zT) (l.getD k zT)
theorem all_range_from (n i : Nat) (p : Nat → Bool) (h : i < n) : ((List.range' i (n - i)).all p) = (p i && (List.range' (i + 1) (n - (i + 1))).all p) := by
  rw [show n - i = (n - (i + 1)) + 1 by omega, List.range'_succ, List.all_cons]
theorem rharm_l1 (l : List Tk) (hl : l.length ≤ 40) (hI : implB l = true) (i : Nat) (t : Tk) (ht : l[i]? = some t) (K : Nat) (R : Bool)
    (hR : ∀ k, K ≤ k → Bd.remontoireref33_Harmonic.l0 k l (wrap64 ((i : Int) + 1)) = some R) :
    ∀ (d k j : Nat), i - j = d → j ≤ i → 2 * d + 1000 + K ≤ k → Bd.remontoireref33_Harmonic.l1 k l (i : Int) (j : Int) = some (((List.range' j (i - j)).all fun q => dvd1 t (l.getD q zT)) && R)
  | 0, k, j, hd, hj, hk => by
    obtain ⟨k, rfl⟩ : ∃ q, k = q + 2 := ⟨k - 2, by omega⟩
    simp only [Bd.remontoireref33_Harmonic.l1, Bd.remontoireref33_Harmonic.j3]
    rw [if_neg (by omega), if_neg (by simp), hR k (by omega), hd]; rfl
  | d + 1, k, j, hd, hj, hk => by
    obtain ⟨k, rfl⟩ : ∃ q, k = q + 2 := ⟨k - 2, by omega⟩
    have hil := (List.getElem?_eq_some_iff.1 ht).1
    obtain ⟨x, hx, _⟩ := drop_at (l := l) (i := j) (by omega)
    obtain ⟨g1, g2, g3⟩ := impl_rng hI ht
    obtain ⟨e1, e2, e3⟩ := impl_rng hI hx
    have hg : l.getD j zT = x := by simp [List.getD, hx]
    have ih := rharm_l1 l hl hI i t ht K R hR d k (j + 1) (by omega) (by omega) (by omega)
    simp only [Bd.remontoireref33_Harmonic.l1, Bd.remontoireref33_Harmonic.j3]
    rw [if_pos (by omega), rimpl_f l hl (k + 1) (by omega), hI]
    simp only [Option.bind_some]
    rw [if_pos trivial, if_pos (by omega), if_pos (by omega), if_pos (by omega), if_pos (by omega), rd_at l i t ht, rd_at l j x hx, if_neg (mn_pos (by omega) (by omega)), w64 (by omega), all_range_from i j _ (by omega), hg]
    by_cases hm : Int.tmod (mx t.f1 x.f1) (mn t.f1 x.f1) = 0
    · have : dvd1 t x = true := by
        unfold dvd1
        rcases (dvd_mx (by omega) (by omega)).1 hm with h | h <;> simp [h]
      rw [if_pos hm, ih, this, Bool.true_and]
    · have : dvd1 t x = false := by
        have h := fun q => hm ((dvd_mx (by omega) (by omega)).2 q)
        unfold dvd1
        rw [decide_eq_false (fun q => h (.inl q)), decide_eq_false (fun q => h (.inr q))]; rfl
      rw [if_neg hm, this]; rfl
theorem rharm_l0 (l : List Tk) (hl : l.length ≤ 40) (hI : implB l = true) : ∀ (d k i : Nat), l.length - i = d → i ≤ l.length → 2000 * d + 30000 ≤ k →
    Bd.remontoireref33_Harmonic.l0 k l (i : Int) = some (((List.range' i (l.length - i)).all (rowOk l)) && wholeB l)
  | 0, k, i, hd, hi, hk => by
    obtain ⟨k, rfl⟩ : ∃ q, k = q + 2 := ⟨k - 2, by omega⟩
    simp only [Bd.remontoireref33_Harmonic.l0, Bd.remontoireref33_Harmonic.j1]
    rw [if_neg (by omega), if_neg (by simp), rwhole_f l hl k (by omega), hd]; rfl
  | d + 1, k, i, hd, hi, hk => by
    have h8 := (implB_iff.1 hI).1
    obtain ⟨k, rfl⟩ : ∃ q, k = q + 2 := ⟨k - 2, by omega⟩
    obtain ⟨t, ht, _⟩ := drop_at (l := l) (i := i) (by omega)
    have hg : l.getD i zT = t := by simp [List.getD, ht]
    obtain ⟨K, hK⟩ : ∃ K, K = 2000 * d + 30000 := ⟨_, rfl⟩
    have h := rharm_l1 l hl hI i t ht K _ (fun k' hk' => by rw [w64 (by omega)]; exact rharm_l0 l hl hI d k' (i + 1) (by omega) (by omega) (by omega)) i k 0 (by omega) (by omega) (by omega)
    rw [show ((0 : Nat) : Int) = 0 from rfl] at h
    simp only [Bd.remontoireref33_Harmonic.l0, Bd.remontoireref33_Harmonic.j1]
    rw [if_pos (by omega), decide_eq_true (by omega), if_pos rfl, h, all_range_from l.length i _ (by omega), Bool.and_assoc]
    unfold rowOk
    rw [hg, List.range_eq_range']; rfl
theorem rharm_l0n (l : List Tk) (hl : l.length ≤ 40) (hI : implB l = false) : ∀ (d k i : Nat), l.length - i = d → i ≤ l.length → 10 * d + 30000 ≤ k →
    Bd.remontoireref33_Harmonic.l0 k l (i : Int) = some false
  | 0, k, i, hd, hi, hk => by
    obtain ⟨k, rfl⟩ : ∃ q, k = q + 2 := ⟨k - 2, by omega⟩
    have hw : wholeB l = false := by unfold wholeB; rw [hI]; rfl
    simp only [Bd.remontoireref33_Harmonic.l0, Bd.remontoireref33_Harmonic.j1]
    rw [if_neg (by omega), if_neg (by simp), rwhole_f l hl k (by omega), hw]; rfl
  | d + 1, k, i, hd, hi, hk => by
    obtain ⟨k, rfl⟩ : ∃ q, k = q + 4 := ⟨k - 4, by omega⟩
    have hw : wholeB l = false := by unfold wholeB; rw [hI]; rfl
    have ih := rharm_l0n l hl hI d k (i + 1) (by omega) (by omega) (by omega)
    simp only [Bd.remontoireref33_Harmonic.l0, Bd.remontoireref33_Harmonic.j1]
    rw [if_pos (by omega)]
    by_cases h9 : i < 9
    · rw [decide_eq_true (by omega), if_pos rfl]
      simp only [Bd.remontoireref33_Harmonic.l1, Bd.remontoireref33_Harmonic.j3]
      by_cases h0 : 0 < i
      · rw [if_pos (by omega), rimpl_f l hl (k + 1) (by omega), hI]
        simp only [Option.bind_some]
        rw [if_neg (by simp), w64 (by omega), ih]
      · rw [if_neg (by omega), if_neg (by simp), w64 (by omega), ih]
    · rw [decide_eq_false (by omega), if_neg (by simp), rwhole_f l hl _ (by omega), hw]; rfl
theorem rharm_f (l : List Tk) (hl : l.length ≤ 40) : Bd.remontoireref33_Harmonic.f 200000 l = some (harmB l) := by
  unfold Bd.remontoireref33_Harmonic.f
  cases hI : implB l
  · have hw : wholeB l = false := by unfold wholeB; rw [hI]; rfl
    have h := rharm_l0n l hl hI l.length 200000 0 (by omega) (by omega) (by omega)
    rw [show ((0 : Nat) : Int) = 0 from rfl] at h
    rw [h]; unfold harmB; rw [hw]; rfl
  · have h := rharm_l0 l hl hI l.length 200000 0 (by omega) (by omega) (by omega)
    rw [show ((0 : Nat) : Int) = 0 from rfl] at h
    rw [h]; unfold harmB; rw [Bool.and_comm, Nat.sub_zero, ← List.range_eq_range']; rfl

end Go.Proofs.Ytabboklejodbaaa
