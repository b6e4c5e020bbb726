/- What BoundEarliest leans on: a set that asks for no more than the whole processor has no stretch in which it asks for too much. -/
import Derived.Test.YtabboklejodbaaaWide5
import Derived.Test.YtabboklejodbaaaBd7
namespace Go.Proofs.Ytabboklejodbaaa
open Go.RowKit Go.Proofs.YtabboklejodbaaaW.PrintWords

theorem wr64 {n : Int} (h0 : -1000000000000 ≤ n) (h1 : n ≤ 1000000000000) : wrap64 n = n := by unfold wrap64; omega
theorem rdi (l : List Int) (i : Nat) (x : Int) (h : l[i]? = some x) : rd l (i : Int) = x := by unfold rd; simp [List.getD, h]
def term (t : Tk) (at_ : Int) : Int := if t.f2 ≤ at_ then t.f0 * ((at_ - t.f2) / t.f1 + 1) else 0
def demS (l : List Tk) (at_ : Int) : Int := (l.map fun t => term t at_).sum
def okB (l : List Tk) : Bool := decide (l.length ≤ 8) && l.all okT
theorem okT_iff {t : Tk} : okT t = true ↔ 1 ≤ t.f0 ∧ t.f0 ≤ t.f2 ∧ t.f2 ≤ t.f1 ∧ t.f1 ≤ 1048576 := by simp [okT]
theorem okB_iff {l : List Tk} : okB l = true ↔ l.length ≤ 8 ∧ ∀ t, t ∈ l → 1 ≤ t.f0 ∧ t.f0 ≤ t.f2 ∧ t.f2 ≤ t.f1 ∧ t.f1 ≤ 1048576 := by
  unfold okB; rw [Bool.and_eq_true, List.all_eq_true, decide_eq_true_iff]
  exact ⟨fun ⟨h1, h2⟩ => ⟨h1, fun t ht => okT_iff.1 (h2 t ht)⟩, fun ⟨h1, h2⟩ => ⟨h1, fun t ht => okT_iff.2 (h2 t ht)⟩⟩
theorem term_rng {t : Tk} (h : 1 ≤ t.f0 ∧ t.f0 ≤ t.f2 ∧ t.f2 ≤ t.f1 ∧ t.f1 ≤ 1048576) {a : Int} (h0 : 0 ≤ a) (h1 : a ≤ 2000) : 0 ≤ term t a ∧ term t a ≤ 4002000 := by
  unfold term
  split
  · rename_i hd
    have q0 : 0 ≤ (a - t.f2) / t.f1 := Int.ediv_nonneg (by omega) (by omega)
    have q1 : (a - t.f2) / t.f1 ≤ a - t.f2 := Int.ediv_le_self _ (by omega)
    have a1 : 0 ≤ t.f0 * ((a - t.f2) / t.f1 + 1) := Int.mul_nonneg (by omega) (by omega)
    have a2 : t.f0 * ((a - t.f2) / t.f1 + 1) ≤ 2000 * 2001 := Int.mul_le_mul (by omega) (by omega) (by omega) (by omega)
    exact ⟨a1, by omega⟩
  · omega

theorem dem_l0 (l : List Tk) (hok : okB l = true) (a : Int) (h0 : 0 ≤ a) (h1 : a ≤ 2000) : ∀ (d k i : Nat) (s : Int), l.length - i = d → i ≤ l.length → d < k → 0 ≤ s → s ≤ 4002000 * i →
    Bd.tasks_Demand.l0 k a s l (l.length : Int) (i : Int) = some (s + demS (l.drop i) a) := by
  obtain ⟨h8, hg⟩ := okB_iff.1 hok
  intro d
  induction d with
  | zero =>
    intro k i s hd hi hk hs0 hs
    obtain ⟨k, rfl⟩ : ∃ m, k = m + 1 := ⟨k - 1, by omega⟩
    simp only [Bd.tasks_Demand.l0]
    rw [if_neg (by omega), List.drop_eq_nil_of_le (by omega)]; simp [demS]
  | succ d ih =>
    intro k i s hd hi hk hs0 hs
    obtain ⟨k, rfl⟩ : ∃ m, k = m + 1 := ⟨k - 1, by omega⟩
    obtain ⟨x, hx, hdr⟩ := drop_at (l := l) (i := i) (by omega)
    have hgx := hg x (List.mem_iff_getElem?.2 ⟨i, hx⟩)
    obtain ⟨t0, t1⟩ := term_rng hgx h0 h1
    have hsum : demS (l.drop i) a = term x a + demS (l.drop (i + 1)) a := by rw [hdr]; simp [demS]
    simp only [Bd.tasks_Demand.l0]
    rw [if_pos (by omega), if_pos (by omega), if_pos (by omega), rd_at l i x hx, w64 (by omega), hsum]
    by_cases hd2 : x.f2 ≤ a
    · have q0 : 0 ≤ (a - x.f2) / x.f1 := Int.ediv_nonneg (by omega) (by omega)
      have q1 : (a - x.f2) / x.f1 ≤ a - x.f2 := Int.ediv_le_self _ (by omega)
      have et : term x a = x.f0 * ((a - x.f2) / x.f1 + 1) := by unfold term; rw [if_pos hd2]
      have em : x.f0 * ((a - x.f2) / x.f1 + 1) ≤ 4002000 := by rw [← et]; exact t1
      have em0 : 0 ≤ x.f0 * ((a - x.f2) / x.f1 + 1) := by rw [← et]; exact t0
      rw [if_pos (by omega), if_neg (by omega), wr64 (n := a - x.f2) (by omega) (by omega), Int.tdiv_eq_ediv_of_nonneg (by omega), wr64 (n := (a - x.f2) / x.f1) (by omega) (by omega), wr64 (n := (a - x.f2) / x.f1 + 1) (by omega) (by omega), wr64 (n := x.f0 * ((a - x.f2) / x.f1 + 1)) (by omega) (by omega), ← et, wr64 (n := s + term x a) (by omega) (by omega)]
      rw [ih k (i + 1) (s + term x a) (by omega) (by omega) (by omega) (by omega) (by omega)]
      congr 1; omega
    · have et : term x a = 0 := by unfold term; rw [if_neg hd2]
      rw [if_neg (by omega), ih k (i + 1) s (by omega) (by omega) (by omega) hs0 (by omega), et]
      congr 1; omega
theorem stretch_f {a : Int} (h0 : 0 ≤ a) (h1 : a ≤ 2000) : Bd.tasks_stretch.f a = some true := by
  unfold Bd.tasks_stretch.f; rw [if_pos (by omega), decide_eq_true (by omega)]
theorem dem_f (l : List Tk) (hok : okB l = true) {a : Int} (h0 : 0 ≤ a) (h1 : a ≤ 2000) (k : Nat) (hk : 200 ≤ k) : Bd.tasks_Demand.f k l a = some (demS l a) := by
  have h8 := (okB_iff.1 hok).1
  unfold Bd.tasks_Demand.f
  rw [all_f l k (by omega)]
  have : (decide (l.length ≤ 8) && l.all okT) = true := hok
  rw [this]
  simp only [Option.bind_some]
  rw [if_pos trivial, stretch_f h0 h1]
  simp only [Option.bind_some]
  obtain ⟨k, rfl⟩ : ∃ m, k = m + 1 := ⟨k - 1, by omega⟩
  simp only [Bd.tasks_Demand.j0]
  have h := dem_l0 l hok a h0 h1 l.length k 0 0 (by omega) (by omega) (by omega) (by omega) (by omega)
  rw [show ((0 : Nat) : Int) = 0 from rfl] at h
  rw [if_neg (by simp), h]; simp

/-! Points -/
def GoodR (u : Int) (r : List Int) : Prop := r.length ≤ 3000 ∧ ∀ a, a ∈ r → 0 ≤ a ∧ a ≤ u
theorem pts_l2 (l : List Tk) (u : Int) (y x8 : List Int) (hy8 : y.length ≤ 8) (m' : Int) (K : Nat) (R : Option (List Int))
    (hR : ∀ k, K ≤ k → (if m' > u then some x8 else (if x8.length < 17592186044416 then Bd.tasks_Points.l3 k l u y (x8 ++ [m']) m' (y.length : Int) 0 else none)) = R) :
    ∀ (d k j : Nat) (m : Int), y.length - j = d → j ≤ y.length → d + 1 + K ≤ k → (y.drop j).foldl mn m = m' → Bd.tasks_Points.l2 k l u y x8 m y (y.length : Int) (j : Int) = R
  | 0, k, j, m, hd, hj, hk, hm => by
    obtain ⟨k, rfl⟩ : ∃ q, k = q + 1 := ⟨k - 1, by omega⟩
    rw [List.drop_eq_nil_of_le (by omega)] at hm
    have hm : m = m' := hm
    subst hm
    simp only [Bd.tasks_Points.l2]
    rw [if_neg (by omega)]
    exact hR k (by omega)
  | d + 1, k, j, m, hd, hj, hk, hm => by
    obtain ⟨k, rfl⟩ : ∃ q, k = q + 1 := ⟨k - 1, by omega⟩
    obtain ⟨x, hx, hdr⟩ := drop_at (l := y) (i := j) (by omega)
    rw [hdr] at hm
    simp only [Bd.tasks_Points.l2]
    rw [if_pos (by omega), if_pos (by omega), if_pos (by omega), rdi y j x hx, w64 (by omega)]
    exact pts_l2 l u y x8 hy8 m' K R hR d k (j + 1) (mn m x) (by omega) (by omega) (by omega) hm
theorem foldl_mn (y : List Int) : ∀ m, y.foldl mn m ≤ m ∧ (∀ x, x ∈ y → y.foldl mn m ≤ x) ∧ (y.foldl mn m = m ∨ y.foldl mn m ∈ y) := by
  induction y with
  | nil => intro m; exact ⟨Int.le_refl _, fun x hx => by simp at hx, .inl rfl⟩
  | cons z y ih =>
    intro m
    obtain ⟨i1, i2, i3⟩ := ih (mn m z)
    have hz : mn m z ≤ m ∧ mn m z ≤ z ∧ (mn m z = m ∨ mn m z = z) := by unfold mn; split <;> omega
    have e : (z :: y).foldl mn m = y.foldl mn (mn m z) := rfl
    rw [e]
    refine ⟨by omega, fun x hx => ?_, ?_⟩
    · rcases List.mem_cons.1 hx with rfl | hx
      · omega
      · exact i2 x hx
    · rcases i3 with h | h
      · rcases hz.2.2 with q | q
        · exact .inl (h.trans q)
        · exact .inr (by rw [h, q]; simp)
      · exact .inr (List.mem_cons_of_mem _ h)
/-- What the row of next stretches is, whatever is behind place i. -/
structure Nx (l : List Tk) (y : List Int) (i : Nat) (m B : Int) : Prop where
  len : y.length = l.length
  low : ∀ j v, j < i → y[j]? = some v → m < v ∧ v ≤ B
  high : ∀ j v, i ≤ j → y[j]? = some v → m ≤ v ∧ v ≤ B
theorem pts_l3 (l : List Tk) (hok : okB l = true) (u : Int) (hu : u ≤ 2000) (x8 : List Int) (m : Int) (hm0 : 0 ≤ m) (hm : m ≤ u) (K : Nat)
    (hR : ∀ k y, K ≤ k → Nx l y l.length m 1100000 → ∃ r, Bd.tasks_Points.l1 k l u y x8 = some r ∧ GoodR u r) :
    ∀ (d k i : Nat) (y : List Int), l.length - i = d → i ≤ l.length → d + 1 + K ≤ k → Nx l y i m 1100000 → ∃ r, Bd.tasks_Points.l3 k l u y x8 m (l.length : Int) (i : Int) = some r ∧ GoodR u r
  | 0, k, i, y, hd, hi, hk, hN => by
    obtain ⟨k, rfl⟩ : ∃ q, k = q + 1 := ⟨k - 1, by omega⟩
    have : i = l.length := by omega
    subst this
    simp only [Bd.tasks_Points.l3]
    rw [if_neg (by omega)]
    exact hR k y (by omega) hN
  | d + 1, k, i, y, hd, hi, hk, hN => by
    obtain ⟨h8, hg⟩ := okB_iff.1 hok
    obtain ⟨k, rfl⟩ : ∃ q, k = q + 1 := ⟨k - 1, by omega⟩
    obtain ⟨t, ht, _⟩ := drop_at (l := l) (i := i) (by omega)
    obtain ⟨v, hv, _⟩ := drop_at (l := y) (i := i) (by rw [hN.len]; omega)
    have hgt := hg t (List.mem_iff_getElem?.2 ⟨i, ht⟩)
    have hv2 := hN.high i v (Nat.le_refl _) hv
    simp only [Bd.tasks_Points.l3]
    rw [if_pos (by omega), if_pos (by omega), if_pos (by rw [hN.len]; omega), rdi y i v hv, w64 (by omega)]
    by_cases he : v = m
    · rw [if_pos he, if_pos (by omega), rd_at l i t ht, wr64 (n := v + t.f1) (by omega) (by omega), Int.toNat_natCast]
      refine pts_l3 l hok u hu x8 m hm0 hm K hR d k (i + 1) _ (by omega) (by omega) (by omega) ⟨by rw [List.length_set]; exact hN.len, fun j q hj hq => ?_, fun j q hj hq => ?_⟩
      · rw [List.getElem?_set] at hq
        by_cases hji : i = j
        · subst hji
          rw [if_pos rfl, if_pos (by rw [hN.len]; omega)] at hq
          injection hq with hq
          omega
        · rw [if_neg hji] at hq
          exact hN.low j q (by omega) hq
      · rw [List.getElem?_set, if_neg (by omega)] at hq
        exact hN.high j q (by omega) hq
    · rw [if_neg he]
      refine pts_l3 l hok u hu x8 m hm0 hm K hR d k (i + 1) y (by omega) (by omega) (by omega) ⟨hN.len, fun j q hj hq => ?_, fun j q hj hq => hN.high j q (by omega) hq⟩
      by_cases hji : j = i
      · subst hji
        rw [hv] at hq; injection hq with hq; subst hq
        exact ⟨by omega, hv2.2⟩
      · exact hN.low j q (by omega) hq
theorem pts_l1 (l : List Tk) (hok : okB l = true) (u : Int) (hu0 : 0 ≤ u) (hu : u ≤ 2000) : ∀ (d k : Nat) (y x8 : List Int) (L : Int), (u + 1 - L).toNat ≤ d → 30 * d + 30 ≤ k → 0 ≤ L → y.length = l.length → (∀ v, v ∈ y → L ≤ v ∧ v ≤ 1100000) → (x8.length : Int) ≤ L → x8.length ≤ 3000 → GoodR u x8 →
    ∃ r, Bd.tasks_Points.l1 k l u y x8 = some r ∧ GoodR u r := by
  obtain ⟨h8, hg⟩ := okB_iff.1 hok
  intro d
  induction d with
  | zero =>
    intro k y x8 L hd hk hL hy hv hx hx3 hG
    obtain ⟨k, rfl⟩ : ∃ q, k = q + 1 := ⟨k - 1, by omega⟩
    simp only [Bd.tasks_Points.l1]
    rw [wr64 (n := u + 1) (by omega) (by omega)]
    obtain ⟨m1, m2, m3⟩ := foldl_mn y (u + 1)
    refine ⟨x8, ?_, hG⟩
    have hm : y.foldl mn (u + 1) > u := by
      rcases m3 with q | q
      · omega
      · have := hv _ q; omega
    exact pts_l2 l u y x8 (by omega) (y.foldl mn (u + 1)) 0 _ (fun k' _ => by rw [if_pos hm]) y.length k 0 (u + 1) (by omega) (by omega) (by omega) rfl
  | succ d ih =>
    intro k y x8 L hd hk hL hy hv hx hx3 hG
    obtain ⟨k, rfl⟩ : ∃ q, k = q + 1 := ⟨k - 1, by omega⟩
    simp only [Bd.tasks_Points.l1]
    rw [wr64 (n := u + 1) (by omega) (by omega)]
    obtain ⟨m1, m2, m3⟩ := foldl_mn y (u + 1)
    obtain ⟨m, hm⟩ : ∃ m, y.foldl mn (u + 1) = m := ⟨_, rfl⟩
    rw [hm] at m1 m2 m3
    by_cases hmu : m > u
    · exact ⟨x8, pts_l2 l u y x8 (by omega) m 0 _ (fun k' _ => by rw [if_pos hmu]) y.length k 0 (u + 1) (by omega) (by omega) (by omega) hm, hG⟩
    · have hmy : m ∈ y := by
        rcases m3 with q | q
        · omega
        · exact q
      have hmL := hv m hmy
      have key : ∀ k', 30 * d + 40 ≤ k' → ∃ r, Bd.tasks_Points.l3 k' l u y (x8 ++ [m]) m (l.length : Int) 0 = some r ∧ GoodR u r := fun k' hk' => by
        have h := pts_l3 l hok u hu (x8 ++ [m]) m (by omega) (by omega) (30 * d + 30) (fun k2 y2 hk2 hN => by
          refine ih k2 y2 (x8 ++ [m]) (m + 1) (by omega) hk2 (by omega) hN.len (fun v hv2 => ?_) (by simp; omega) (by simp; omega) ⟨by simp; omega, fun a ha => ?_⟩
          · obtain ⟨j, hj⟩ := List.mem_iff_getElem?.1 hv2
            have := hN.low j v (by rw [← hN.len]; exact (List.getElem?_eq_some_iff.1 hj).1) hj
            omega
          · rw [List.mem_append, List.mem_singleton] at ha
            rcases ha with ha | rfl
            · exact hG.2 a ha
            · omega) l.length k' 0 y (by omega) (by omega) (by omega) ⟨hy, fun j v hj => by omega, fun j v _ hj => by
              have hmem := List.mem_iff_getElem?.2 ⟨j, hj⟩
              exact ⟨m2 v hmem, (hv v hmem).2⟩⟩
        rw [show ((0 : Nat) : Int) = 0 from rfl] at h
        exact h
      obtain ⟨r, hr, hGr⟩ := key (30 * d + 40) (Nat.le_refl _)
      refine ⟨r, pts_l2 l u y x8 (by omega) m (30 * d + 40) (some r) (fun k' hk' => ?_) y.length k 0 (u + 1) (by omega) (by omega) (by omega) hm, hGr⟩
      rw [if_neg hmu, if_pos (by omega), hy]
      exact at_rounds (g := fun q => Bd.tasks_Points.l3 q l u y (x8 ++ [m]) m (l.length : Int) 0) (fun q => (Bd.tasks_Points.mono_l q).2.2.2.2 _ _ _ _ _ _ _) hk' hr

theorem pts_l0 (l : List Tk) (hok : okB l = true) (u : Int) (hu0 : 0 ≤ u) (hu : u ≤ 2000) : ∀ (d k i : Nat) (y : List Int), l.length - i = d → i ≤ l.length → d + 70000 ≤ k → y.length = l.length → (∀ j v, j < i → y[j]? = some v → 0 ≤ v ∧ v ≤ 1100000) →
    ∃ r, Bd.tasks_Points.l0 k l u y l (l.length : Int) (i : Int) = some r ∧ GoodR u r
  | 0, k, i, y, hd, hi, hk, hy, hv => by
    obtain ⟨k, rfl⟩ : ∃ q, k = q + 1 := ⟨k - 1, by omega⟩
    simp only [Bd.tasks_Points.l0]
    rw [if_neg (by omega)]
    refine pts_l1 l hok u hu0 hu 2001 k y [] 0 (by omega) (by omega) (by omega) hy (fun v hvm => ?_) (by simp) (by simp) ⟨by simp, fun a ha => by simp at ha⟩
    obtain ⟨j, hj⟩ := List.mem_iff_getElem?.1 hvm
    exact hv j v (by have := (List.getElem?_eq_some_iff.1 hj).1; omega) hj
  | d + 1, k, i, y, hd, hi, hk, hy, hv => by
    obtain ⟨h8, hg⟩ := okB_iff.1 hok
    obtain ⟨k, rfl⟩ : ∃ q, k = q + 1 := ⟨k - 1, by omega⟩
    obtain ⟨t, ht, _⟩ := drop_at (l := l) (i := i) (by omega)
    have hgt := hg t (List.mem_iff_getElem?.2 ⟨i, ht⟩)
    simp only [Bd.tasks_Points.l0]
    rw [if_pos (by omega), if_pos (by omega), if_pos (by omega), if_pos (by rw [hy]; omega), rd_at l i t ht, w64 (by omega), Int.toNat_natCast]
    refine pts_l0 l hok u hu0 hu d k (i + 1) _ (by omega) (by omega) (by omega) (by rw [List.length_set]; exact hy) (fun j v hj hq => ?_)
    rw [List.getElem?_set] at hq
    by_cases hji : i = j
    · subst hji
      rw [if_pos rfl, if_pos (by rw [hy]; omega)] at hq
      injection hq with hq
      omega
    · rw [if_neg hji] at hq
      exact hv j v (by omega) hq
theorem pts_f (l : List Tk) (u : Int) (hu0 : 0 ≤ u) (hu : u ≤ 2000) : ∃ r, Bd.tasks_Points.f 80000 l u = some r ∧ GoodR u r ∧ (okB l = false → r = []) := by
  unfold Bd.tasks_Points.f
  rw [all_f l 80000 (by omega)]
  simp only [Option.bind_some]
  have hb : (decide (l.length ≤ 8) && l.all okT) = okB l := rfl
  rw [hb]
  cases hok : okB l
  · refine ⟨[], ?_, ⟨by simp, fun a ha => by simp at ha⟩, fun _ => rfl⟩
    rw [if_neg (by simp)]
    simp only [Bd.tasks_Points.j0]
    rw [if_pos trivial]
  · have h8 := (okB_iff.1 hok).1
    rw [if_pos rfl, stretch_f hu0 hu]
    simp only [Option.bind_some, Bd.tasks_Points.j0]
    obtain ⟨r, hr, hG⟩ := pts_l0 l hok u hu0 hu l.length 79999 0 (List.replicate l.length 0) (by omega) (by omega) (by omega) (by simp) (fun j v hj => by omega)
    rw [show ((0 : Nat) : Int) = 0 from rfl] at hr
    refine ⟨r, ?_, hG, fun h => by cases h⟩
    rw [if_neg (by simp), if_pos (by omega), if_pos (by omega), Int.toNat_natCast, hr]

/-! Bad -/
theorem bad_l0 (l : List Tk) (hok : okB l = true) (u : Int) (hu : u ≤ 2000) (r : List Int) (hG : GoodR u r) (hrl : r.length < 1000000) : ∀ (d k i : Nat), r.length - i = d → i ≤ r.length → d + 300 ≤ k →
    ∃ x b, Bd.busy_Bad.l0 k l r (r.length : Int) (i : Int) = some (x, b) ∧ (b = true → ∃ a, a ∈ r ∧ a < demS l a)
  | 0, k, i, hd, hi, hk => by
    obtain ⟨k, rfl⟩ : ∃ q, k = q + 1 := ⟨k - 1, by omega⟩
    simp only [Bd.busy_Bad.l0]
    rw [if_neg (by omega)]
    exact ⟨0, false, rfl, fun h => by cases h⟩
  | d + 1, k, i, hd, hi, hk => by
    obtain ⟨k, rfl⟩ : ∃ q, k = q + 1 := ⟨k - 1, by omega⟩
    obtain ⟨a, ha, _⟩ := drop_at (l := r) (i := i) (by omega)
    have hmem := List.mem_iff_getElem?.2 ⟨i, ha⟩
    obtain ⟨a0, a1⟩ := hG.2 a hmem
    simp only [Bd.busy_Bad.l0]
    rw [if_pos (by omega), if_pos (by omega), if_pos (by omega), rdi r i a ha, dem_f l hok a0 (by omega) k (by omega), w64 (by omega)]
    simp only [Option.bind_some]
    by_cases hb : demS l a > a
    · rw [if_pos hb]
      exact ⟨a, true, rfl, fun _ => ⟨a, hmem, hb⟩⟩
    · rw [if_neg hb]
      exact bad_l0 l hok u hu r hG hrl d k (i + 1) (by omega) (by omega) (by omega)

/-- What a set below the whole asks for in a stretch is at most the stretch. -/
theorem whole_dem {l : List Tk} (hI : implB l = true) {a : Int} (h0 : 0 ≤ a) : ∀ k, k ≤ l.length → demS (l.take k) a * (wsum (l.take k)).2 ≤ a * (wsum (l.take k)).1
  | 0, _ => by simp [demS, wsum]
  | k + 1, hk => by
    have ih := whole_dem hI h0 k (by omega)
    obtain ⟨_, hg⟩ := implB_iff.1 hI
    obtain ⟨x, hx, _⟩ := drop_at (l := l) (i := k) (by omega)
    obtain ⟨g1, g2, g3, g4⟩ := hg x (List.mem_iff_getElem?.2 ⟨k, hx⟩)
    have hr := wsum_rng hg k (by omega)
    have hd : demS (l.take (k + 1)) a = demS (l.take k) a + term x a := by rw [List.take_add_one, hx]; simp [demS]
    rw [hd, wsum_step hx]
    unfold wstep
    generalize demS (l.take k) a = D at *
    generalize (wsum (l.take k)).1 = U at *
    generalize (wsum (l.take k)).2 = V at *
    -- the term, times its period, is at most the stretch, times its cost
    have ht : term x a * x.f1 ≤ x.f0 * a ∧ 0 ≤ term x a := by
      unfold term
      split
      · rename_i h
        rw [g3]
        have e : (a - x.f1) / x.f1 + 1 = a / x.f1 := by
          rw [show a = (a - x.f1) + 1 * x.f1 by omega, Int.add_mul_ediv_right _ _ (by omega)]
          congr 2; omega
        rw [e, Int.mul_assoc]
        refine ⟨Int.mul_le_mul_of_nonneg_left (Int.ediv_mul_le _ (by omega)) (by omega), Int.mul_nonneg (by omega) (Int.ediv_nonneg h0 (by omega))⟩
      · exact ⟨by rw [Int.zero_mul]; exact Int.mul_nonneg (by omega) h0, Int.le_refl _⟩
    show (D + term x a) * (V * x.f1) ≤ a * (U * x.f1 + V * x.f0)
    have e1 : (D + term x a) * (V * x.f1) = (D * V) * x.f1 + V * (term x a * x.f1) := by
      rw [Int.add_mul, ← Int.mul_assoc, Int.mul_left_comm]
    have e2 : a * (U * x.f1 + V * x.f0) = (a * U) * x.f1 + V * (x.f0 * a) := by
      rw [Int.mul_add, ← Int.mul_assoc, Int.mul_left_comm, Int.mul_comm a x.f0]
    rw [e1, e2]
    have p1 : (D * V) * x.f1 ≤ (a * U) * x.f1 := Int.mul_le_mul_of_nonneg_right ih (by omega)
    have p2 : V * (term x a * x.f1) ≤ V * (x.f0 * a) := Int.mul_le_mul_of_nonneg_left ht.1 (by omega)
    omega
theorem whole_fits {l : List Tk} (hW : wholeB l = true) {a : Int} (h0 : 0 ≤ a) : demS l a ≤ a := by
  unfold wholeB at hW
  rw [Bool.and_eq_true, decide_eq_true_iff] at hW
  obtain ⟨hI, hle⟩ := hW
  obtain ⟨_, hg⟩ := implB_iff.1 hI
  have h := whole_dem hI h0 l.length (Nat.le_refl _)
  have hr := wsum_rng hg l.length (Nat.le_refl _)
  rw [List.take_of_length_le (Nat.le_refl _)] at h hr
  have h2 : a * (wsum l).1 ≤ a * (wsum l).2 := Int.mul_le_mul_of_nonneg_left hle h0
  exact Int.le_of_mul_le_mul_right (Int.le_trans h h2) (by omega)
/-- Below the hyperbola is below the whole. -/
theorem hyper_whole {l : List Tk} (hH : hyperB l = true) : wholeB l = true := by
  unfold hyperB at hH
  rw [Bool.and_eq_true, decide_eq_true_iff] at hH
  obtain ⟨hI, hle⟩ := hH
  obtain ⟨_, hg⟩ := implB_iff.1 hI
  have key : ∀ k, k ≤ l.length → (wsum (l.take k)).2 + (wsum (l.take k)).1 ≤ (hsum (l.take k)).1 ∧ (hsum (l.take k)).2 = 2 * (wsum (l.take k)).2 := by
    intro k
    induction k with
    | zero => intro _; simp [wsum, hsum]
    | succ k ih =>
      intro hk
      obtain ⟨i1, i2⟩ := ih (by omega)
      obtain ⟨x, hx, _⟩ := drop_at (l := l) (i := k) (by omega)
      obtain ⟨g1, g2, g3, g4⟩ := hg x (List.mem_iff_getElem?.2 ⟨k, hx⟩)
      have hr := wsum_rng hg k (by omega)
      rw [wsum_step hx, hsum_step hx]
      unfold wstep hstep
      generalize (wsum (l.take k)).1 = U at *
      generalize (wsum (l.take k)).2 = V at *
      generalize (hsum (l.take k)).1 = A at *
      generalize (hsum (l.take k)).2 = B at *
      have p1 : (V + U) * (x.f1 + x.f0) ≤ A * (x.f1 + x.f0) := Int.mul_le_mul_of_nonneg_right i1 (by omega)
      have p2 : 0 ≤ U * x.f0 := Int.mul_nonneg (by omega) (by omega)
      have e1 : (V + U) * (x.f1 + x.f0) = V * x.f1 + (U * x.f1 + V * x.f0) + U * x.f0 := by
        rw [Int.add_mul, Int.mul_add, Int.mul_add]; omega
      refine ⟨by show V * x.f1 + (U * x.f1 + V * x.f0) ≤ A * (x.f1 + x.f0); omega, ?_⟩
      show B * x.f1 = 2 * (V * x.f1)
      rw [i2, Int.mul_assoc]
  have h := key l.length (Nat.le_refl _)
  rw [List.take_of_length_le (Nat.le_refl _)] at h
  unfold wholeB
  rw [hI, Bool.true_and, decide_eq_true_iff]
  omega
theorem impl_ok {l : List Tk} (hI : implB l = true) : okB l = true := by
  obtain ⟨h1, h2⟩ := implB_iff.1 hI
  exact okB_iff.2 ⟨h1, fun t ht => by have := h2 t ht; omega⟩
theorem bad_f (l : List Tk) (u : Int) (hu0 : 0 ≤ u) (hu : u ≤ 2000) : ∃ x b, Bd.busy_Bad.f 2000000 l u = some (x, b) ∧ (wholeB l = true → b = false) := by
  obtain ⟨r, hr, hG, hn⟩ := pts_f l u hu0 hu
  have hr2 : Bd.tasks_Points.f 2000000 l u = some r := at_rounds (g := fun q => Bd.tasks_Points.f q l u) (Bd.tasks_Points.mono l u) (by omega) hr
  unfold Bd.busy_Bad.f
  rw [hr2]
  simp only [Option.bind_some]
  cases hok : okB l
  · rw [hn hok]
    refine ⟨0, false, ?_, fun _ => rfl⟩
    obtain ⟨k, hk⟩ : ∃ k, 2000000 = k + 1 := ⟨1999999, rfl⟩
    rw [hk]
    simp only [Bd.busy_Bad.l0]
    rw [if_neg (by simp)]
  · obtain ⟨x, b, hx, hb⟩ := bad_l0 l hok u hu r hG (by have := hG.1; omega) r.length 2000000 0 (by omega) (by omega) (by have := hG.1; omega)
    rw [show ((0 : Nat) : Int) = 0 from rfl] at hx
    refine ⟨x, b, hx, fun hW => ?_⟩
    cases b
    · rfl
    · obtain ⟨a, ha, hlt⟩ := hb rfl
      have := whole_fits hW (hG.2 a ha).1
      omega

end Go.Proofs.Ytabboklejodbaaa
