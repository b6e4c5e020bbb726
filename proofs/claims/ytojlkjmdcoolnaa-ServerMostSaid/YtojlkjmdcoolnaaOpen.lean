/- Arguments opened: a type whose fields, however nested, are integers and bools reads as a list of these; a slice of such a type reads as a list. -/
import Derived.Test.YtojlkjmdcoolnaaLib
import Derived.ProofKit
import Derived.OpenShut
import Derived.Deep.Slices
namespace Go.Proofs.Ytojlkjmdcoolnaa
open Go.RowKit Go.ChangeShapes Go.WideShapes Go.Deep

/-- A cell's kind: an integer, a bool. -/
inductive Sc where
  | int (k : IntKind)
  | bool
def Sc.of : Sc → Value → Prop
  | .int k, v => ∃ n, v = .int k n ∧ (Lit.int k n).wf = true
  | .bool, v => ∃ b, v = .bool b

mutual
/-- The cells' kinds of a type, in order. -/
def flat (P : Program) : Nat → TypeId → Option (List Sc)
  | 0, _ => none
  | n + 1, t =>
    match P.underlying t with
    | some (.int k) => some [.int k]
    | some .bool => some [.bool]
    | some (.struct fs) =>
      match flatF P n fs.toList 0 with
      | some ks => if P.cellsOf t = ks.length then some ks else none
      | none => none
    | _ => none
def flatF (P : Program) : Nat → List Field → Nat → Option (List Sc)
  | 0, _, _ => none
  | _ + 1, [], _ => some []
  | n + 1, f :: r, off =>
    if f.offset = off then
      match flat P n f.type with
      | some a =>
        if P.cellsOf f.type = a.length then
          match flatF P n r (off + a.length) with
          | some b => some (a ++ b)
          | none => none
        else none
      | none => none
    else none
end

section
variable {H : Type} {enc : TypeId × Value → H} {P : Program} {w : World} {base : Nat} {spare : Nat → Bool} {held : Bool}

def Good (ks : List Sc) (cs : List Value) : Prop := cs.length = ks.length ∧ ∀ (i : Nat) (k : Sc) (v : Value), ks[i]? = some k → cs[i]? = some v → k.of v

theorem flat_both : ∀ (n : Nat),
    (∀ (t : TypeId) (ks : List Sc) (fuel : Nat) (cs : List Value) (x : DataW H × List MemPlace), flat P n t = some ks → DataW.trod enc P w base spare held fuel t cs = some x → Good ks cs) ∧
    (∀ (fs : List Field) (off : Nat) (ks : List Sc) (cs : List Value), flatF P n fs off = some ks → off + ks.length ≤ cs.length →
      (∀ (i : Nat) (f : Field), fs[i]? = some f → ∃ (fuel : Nat) (x : DataW H × List MemPlace), DataW.trod enc P w base spare held fuel f.type ((cs.drop f.offset).take (P.cellsOf f.type)) = some x) →
      ∀ (i : Nat) (k : Sc) (v : Value), ks[i]? = some k → cs[off + i]? = some v → k.of v)
  | 0 => ⟨fun t ks fuel cs x h => by simp [flat] at h, fun fs off ks cs h => by simp [flatF] at h⟩
  | n + 1 => by
    obtain ⟨ih1, ih2⟩ := flat_both n
    refine ⟨fun t ks fuel cs x h ht => ?_, fun fs off ks cs h hle hf => ?_⟩
    · unfold flat at h
      split at h
      · rename_i k hk
        obtain ⟨m, rfl, _, hw⟩ := DataW.trod_int hk ht
        cases h
        refine ⟨rfl, fun i k' v h1 h2 => ?_⟩
        match i with
        | 0 => simp at h1 h2; subst h1; subst h2; exact ⟨m, rfl, hw⟩
        | i + 1 => simp at h1
      · rename_i hk
        obtain ⟨b, rfl, _⟩ := DataW.trod_bool hk ht
        cases h
        refine ⟨rfl, fun i k' v h1 h2 => ?_⟩
        match i with
        | 0 => simp at h1 h2; subst h1; subst h2; exact ⟨b, rfl⟩
        | i + 1 => simp at h1
      · rename_i fs hk
        split at h
        · rename_i ks' hks
          split at h
          · rename_i hc
            cases h
            obtain ⟨xs, m, _, _, hlen, hxl, hg⟩ := DataW.trod_struct hk ht
            refine ⟨hlen.trans hc, fun i k v h1 h2 => ?_⟩
            refine ih2 fs.toList 0 ks cs hks (by rw [hlen, hc]; omega) (fun j f hj => ?_) i k v h1 (by simpa using h2)
            have hj' : fs[j]? = some f := by simpa using hj
            have := hg j f hj'
            have hjl : j < xs.length := by rw [hxl]; exact (Array.getElem?_eq_some_iff.1 hj').1
            exact ⟨m, xs[j], by rw [this, List.getElem?_eq_getElem hjl]⟩
          · cases h
        · cases h
      · cases h
    · cases fs with
      | nil => simp [flatF] at h; subst h; intro i k v h1; simp at h1
      | cons f r =>
        unfold flatF at h
        split at h
        · rename_i hoff
          split at h
          · rename_i a ha
            split at h
            · rename_i hca
              split at h
              · rename_i b hb
                cases h
                intro i k v h1 h2
                rw [List.length_append] at hle
                by_cases hi : i < a.length
                · obtain ⟨fuel, x, hx⟩ := hf 0 f rfl
                  have hg := ih1 f.type a fuel _ x ha hx
                  refine hg.2 i k v (by rw [List.getElem?_append_left hi] at h1; exact h1) ?_
                  rw [hoff, hca, List.getElem?_take, if_pos hi, List.getElem?_drop]
                  exact h2
                · rw [List.getElem?_append_right (by omega)] at h1
                  refine ih2 r (off + a.length) b cs hb (by omega) (fun j g hj => hf (j + 1) g (by simpa using hj)) (i - a.length) k v h1 ?_
                  rw [show off + a.length + (i - a.length) = off + i by omega]
                  exact h2
              · cases h
            · cases h
          · cases h
        · cases h

theorem flat_good {n : Nat} {t : TypeId} {ks : List Sc} {fuel : Nat} {cs : List Value} {x : DataW H × List MemPlace} (hf : flat P n t = some ks) (h : DataW.trod enc P w base spare held fuel t cs = some x) : Good ks cs :=
  (flat_both n).1 t ks fuel cs x hf h

theorem list_of_lt {α : Type} {p : Nat → α → Prop} : ∀ (n : Nat), (∀ i, i < n → ∃ x, p i x) → ∃ l : List α, l.length = n ∧ ∀ (i : Nat) (x : α), l[i]? = some x → p i x
  | 0, _ => ⟨[], rfl, fun i x h => by simp at h⟩
  | n + 1, h => by
    obtain ⟨l, hl, hp⟩ := list_of_lt n (fun i hi => h i (by omega))
    obtain ⟨x, hx⟩ := h n (by omega)
    refine ⟨l ++ [x], by simp [hl], fun i y hy => ?_⟩
    by_cases hi : i < l.length
    · rw [List.getElem?_append_left hi] at hy; exact hp i y hy
    · rw [List.getElem?_append_right (by omega)] at hy
      have hi0 : i - l.length = 0 := by
        rcases Nat.eq_zero_or_pos (i - l.length) with h0 | h0
        · exact h0
        · rw [List.getElem?_eq_none (by simp; omega)] at hy; cases hy
      rw [hi0] at hy; simp at hy; subst hy
      have : i = n := by omega
      subst this; exact hx

theorem flat_inv {α : Type} (f : α → List Value) (m : Nat) (hm : ∀ x, (f x).length = m) :
    ∀ (l : List α) (j : Nat) (u : Value), (l.flatMap f)[j]? = some u → ∃ i r x, l[i]? = some x ∧ r < m ∧ j = i * m + r ∧ (f x)[r]? = some u
  | [], j, u, h => by simp at h
  | y :: l, j, u, h => by
    rw [List.flatMap_cons] at h
    by_cases hj : j < m
    · rw [List.getElem?_append_left (by rw [hm]; exact hj)] at h
      exact ⟨0, j, y, rfl, hj, by omega, h⟩
    · rw [List.getElem?_append_right (by rw [hm]; omega), hm] at h
      obtain ⟨i, r, x, h1, h2, h3, h4⟩ := flat_inv f m hm l _ u h
      exact ⟨i + 1, r, x, by simpa using h1, h2, by rw [Nat.add_mul]; omega, h4⟩

/-- A slice of a flat type reads as a list: its cells, in order. 'hdec': what cells of these kinds are. -/
theorem open_list {α : Type} (f : α → List Value) (q : α → Prop) {t e : TypeId} {ks : List Sc} {n fuel : Nat} {cs : List Value} {x : DataW H × List MemPlace} (ht : P.underlying t = some (.slice e)) (hfl : flat P n e = some ks) (hC : P.cellsOf e = ks.length)
    (hlen : ∀ a, (f a).length = ks.length) (hdec : ∀ vs, Good ks vs → ∃ a, f a = vs ∧ q a) (h : DataW.trod enc P w base spare held fuel t cs = some x) :
    ∃ (A : Option Addr) (len cap : Nat) (l : List α), cs = [.slice A len cap] ∧ len = l.length ∧ len ≤ cap ∧ cap ≤ 9223372036854775807 ∧ Rd w A (l.flatMap f) ∧ ∀ (a : α), a ∈ l → q a := by
  rcases open_slice ht h with ⟨rfl, _⟩ | ⟨a, len, cap, m, n', D, Pl, rfl, hb, hl, hm, hmm, _, hi⟩
  · exact ⟨none, 0, 0, [], rfl, rfl, Nat.le_refl _, by omega, Rd.nil _ _, fun a h => by cases h⟩
  · have hlm : len ≤ m := by rw [hmm]; split <;> omega
    have key : ∀ i, i < len → ∃ y : α, q y ∧ ∀ r, r < ks.length → w.cell? (a.add (i * ks.length + r)) = (f y)[r]? := fun i hi' => by
      obtain ⟨cs', hc, ht'⟩ := hi i (by omega)
      obtain ⟨_, hcl, hat⟩ := World.cells?_some hc
      obtain ⟨y, hy, hq⟩ := hdec cs' (flat_good hfl ht')
      refine ⟨y, hq, fun r hr => ?_⟩
      have := hat r (by rw [hC]; exact hr)
      rw [hC, ← add_add] at *
      rw [hy]; exact this
    obtain ⟨l, hll, hlp⟩ := list_of_lt len key
    refine ⟨some a, len, cap, l, rfl, hll.symm, hl, by unfold maxLen at hm; omega, fun hne => ?_, fun y hy => ?_⟩
    · have hcell : ∀ j u, (l.flatMap f)[j]? = some u → w.cell? (a.add j) = some u := fun j u hu => by
        obtain ⟨i, r, y, h1, h2, rfl, h4⟩ := flat_inv f ks.length hlen l j u hu
        rw [(hlp i y h1).2 r h2, h4]
      obtain ⟨u0, hu0⟩ : ∃ u, (l.flatMap f)[0]? = some u := by
        cases hfm : l.flatMap f with
        | nil => exact (hne hfm).elim
        | cons u _ => exact ⟨u, rfl⟩
      have hs := World.cell?_spot (hcell 0 u0 hu0)
      obtain ⟨b, o, s⟩ := a
      have hs' : s = none := by simpa [Addr.add] using hs
      subst hs'
      refine ⟨b, o, rfl, fun j u hu => ?_⟩
      have := hcell j u hu
      rw [← this]
      congr 1
      unfold Addr.add
      split
      · rename_i h0; subst h0; rfl
      · rfl
    · obtain ⟨i, hi'⟩ := List.mem_iff_getElem?.1 hy
      exact (hlp i y hi').1
end

theorem good3 {k0 k1 k2 : Sc} {vs : List Value} (h : Good [k0, k1, k2] vs) : ∃ a b c, vs = [a, b, c] ∧ k0.of a ∧ k1.of b ∧ k2.of c := by
  match vs, h.1 with
  | [a, b, c], _ => exact ⟨a, b, c, rfl, h.2 0 _ _ rfl rfl, h.2 1 _ _ rfl rfl, h.2 2 _ _ rfl rfl⟩
theorem good4 {k0 k1 k2 k3 : Sc} {vs : List Value} (h : Good [k0, k1, k2, k3] vs) : ∃ a b c d, vs = [a, b, c, d] ∧ k0.of a ∧ k1.of b ∧ k2.of c ∧ k3.of d := by
  match vs, h.1 with
  | [a, b, c, d], _ => exact ⟨a, b, c, d, rfl, h.2 0 _ _ rfl rfl, h.2 1 _ _ rfl rfl, h.2 2 _ _ rfl rfl, h.2 3 _ _ rfl rfl⟩
theorem good5 {k0 k1 k2 k3 k4 : Sc} {vs : List Value} (h : Good [k0, k1, k2, k3, k4] vs) : ∃ a b c d e, vs = [a, b, c, d, e] ∧ k0.of a ∧ k1.of b ∧ k2.of c ∧ k3.of d ∧ k4.of e := by
  match vs, h.1 with
  | [a, b, c, d, e], _ => exact ⟨a, b, c, d, e, rfl, h.2 0 _ _ rfl rfl, h.2 1 _ _ rfl rfl, h.2 2 _ _ rfl rfl, h.2 3 _ _ rfl rfl, h.2 4 _ _ rfl rfl⟩
theorem good2 {k0 k1 : Sc} {vs : List Value} (h : Good [k0, k1] vs) : ∃ a b, vs = [a, b] ∧ k0.of a ∧ k1.of b := by
  match vs, h.1 with
  | [a, b], _ => exact ⟨a, b, rfl, h.2 0 _ _ rfl rfl, h.2 1 _ _ rfl rfl⟩
theorem good1 {k0 : Sc} {vs : List Value} (h : Good [k0] vs) : ∃ a, vs = [a] ∧ k0.of a := by
  match vs, h.1 with
  | [a], _ => exact ⟨a, rfl, h.2 0 _ _ rfl rfl⟩

end Go.Proofs.Ytojlkjmdcoolnaa
