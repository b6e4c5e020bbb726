/- IrqOnce: between two tellings of a line there is an acknowledgement and a raise of it. The plain law, and the walk. -/
import Derived.Test.YtfehbkhmcngnpaaIrq3
import Derived.RegionTactic
namespace Go.Proofs.Ytfehbkhmcngnpaa
open Go.RowKit

structure Act3 where
  kind : Int
  line : Int
  held : Bool
def Act3.cells (a : Act3) : List Value := [.int .i64 a.kind, .int .i64 a.line, .bool a.held]

theorem Rd.act {w : World} {A : Option Addr} {l : List Act3} (h : Rd w A (l.flatMap Act3.cells)) {k : Nat} {t : Act3} (ht : l[k]? = some t) :
    ∃ g o, A = some ⟨g, o, none⟩ ∧ w.cell? ⟨g, o + k * 3, none⟩ = some (.int .i64 t.kind) ∧ w.cell? ⟨g, o + k * 3 + 1, none⟩ = some (.int .i64 t.line) ∧ w.cell? ⟨g, o + k * 3 + 2, none⟩ = some (.bool t.held) := by
  have hne : l.flatMap Act3.cells ≠ [] := by
    intro e
    have h1 := flat_get Act3.cells 3 (fun _ => rfl) l k t ht 0 (by omega)
    rw [e] at h1; simp [Act3.cells] at h1
  obtain ⟨g, o, e, hc⟩ := h hne
  refine ⟨g, o, e, ?_, ?_, ?_⟩
  · exact hc (k * 3) _ (by have := flat_get Act3.cells 3 (fun _ => rfl) l k t ht 0 (by omega); simpa [Act3.cells] using this)
  · exact hc (k * 3 + 1) _ (by have := flat_get Act3.cells 3 (fun _ => rfl) l k t ht 1 (by omega); simpa [Act3.cells] using this)
  · exact hc (k * 3 + 2) _ (by have := flat_get Act3.cells 3 (fun _ => rfl) l k t ht 2 (by omega); simpa [Act3.cells] using this)

theorem nextL_cases (l : List Ln) : (nextL l = (l, none)) ∨ ∃ (k : Nat) (x : Ln), l[k]? = some x ∧ x.up = true ∧ nextL l = (l.set k { x with r := false, s := true }, some k) := by
  cases h : firstUp l with
  | none => left; unfold nextL; rw [h]
  | some k =>
    right
    unfold firstUp at h
    rw [List.findIdx?_eq_some_iff_getElem] at h
    obtain ⟨hk, hu, hlow⟩ := h
    refine ⟨k, l[k], List.getElem?_eq_getElem hk, hu, nextL_some (List.getElem?_eq_getElem hk) hu (fun j y hj hy => ?_)⟩
    have := hlow j hj
    obtain ⟨h1, h2⟩ := List.getElem?_eq_some_iff.1 hy
    rw [h2] at this
    simpa using this

/-- What holds ahead of each call: a line that is raised was raised since it was told; one that was told, and isn't being served, was acknowledged since. -/
structure OnceInv (k : Nat) (L : List Ln) (A R : List Int) (T : List Bool) : Prop where
  la : A.length = 8
  lr : R.length = 8
  lt : T.length = 8
  ll : L.length ≤ 8
  ba : ∀ (j : Nat) (v : Int), A[j]? = some v → 0 ≤ v ∧ v ≤ k
  br : ∀ (j : Nat) (v : Int), R[j]? = some v → 0 ≤ v ∧ v ≤ k
  rs : ∀ (j : Nat) (x : Ln) (v : Int), L[j]? = some x → x.r = true → R[j]? = some v → 1 ≤ v
  ac : ∀ (j : Nat) (x : Ln) (v : Int), L[j]? = some x → x.s = false → T[j]? = some true → A[j]? = some v → 1 ≤ v

theorem get_set_cases {α : Type} {l : List α} {i j : Nat} {y z : α} (h : (l.set i y)[j]? = some z) : (j = i ∧ z = y) ∨ (j ≠ i ∧ l[j]? = some z) := by
  rw [List.getElem?_set] at h
  by_cases e : i = j
  · subst e
    rw [if_pos rfl] at h
    split at h
    · injection h with h; exact .inl ⟨rfl, h.symm⟩
    · cases h
  · rw [if_neg e] at h; exact .inr ⟨fun q => e q.symm, h⟩

theorem OnceInv.more {k : Nat} {L : List Ln} {A R : List Int} {T : List Bool} (h : OnceInv k L A R T) : OnceInv (k + 1) L A R T :=
  { h with ba := fun j v hv => by have := h.ba j v hv; omega, br := fun j v hv => by have := h.br j v hv; omega }
/-- A line turns, but neither is it raised anew nor served no more. -/
theorem OnceInv.keep {k : Nat} {L : List Ln} {A R : List Int} {T : List Bool} (h : OnceInv k L A R T) {i : Nat} {x y : Ln} (hx : L[i]? = some x) (hr : y.r = true → x.r = true) (hs : y.s = false → x.s = false) : OnceInv k (L.set i y) A R T :=
  { h with
    ll := by simpa using h.ll
    rs := fun j z v hz hzr hv => by
      rcases get_set_cases hz with ⟨rfl, rfl⟩ | ⟨_, hz⟩
      · exact h.rs j x v hx (hr hzr) hv
      · exact h.rs j z v hz hzr hv
    ac := fun j z v hz hzs ht hv => by
      rcases get_set_cases hz with ⟨rfl, rfl⟩ | ⟨_, hz⟩
      · exact h.ac j x v hx (hs hzs) ht hv
      · exact h.ac j z v hz hzs ht hv }
theorem OnceInv.mask {k : Nat} {L : List Ln} {A R : List Int} {T : List Bool} (h : OnceInv k L A R T) (i : Int) (m : Bool) : OnceInv k (maskL L i m).1 A R T := by
  unfold maskL
  split
  · split
    · exact h
    · rename_i x hx; exact h.keep hx (fun q => q) (fun q => q)
  · exact h
theorem OnceInv.ack0 {k : Nat} {L : List Ln} {A R : List Int} {T : List Bool} (h : OnceInv k L A R T) {i : Int} (hi : (ackL L i).2 ≠ 0) : OnceInv k (ackL L i).1 A R T := by
  unfold ackL at hi ⊢
  split
  · split
    · exact h
    · rename_i h0 _ x hx
      cases hs : x.s
      · simp [hs]; exact h
      · simp [h0, hx, hs] at hi
  · exact h
theorem OnceInv.ack1 {k : Nat} {L : List Ln} {A R : List Int} {T : List Bool} (h : OnceInv k L A R T) {i : Int} (hi : (ackL L i).2 = 0) :
    ∃ v, 0 ≤ i ∧ i < 8 ∧ A[i.toNat]? = some v ∧ 0 ≤ v ∧ v ≤ k ∧ OnceInv (k + 1) (ackL L i).1 (A.set i.toNat (v + 1)) R T := by
  by_cases h0 : 0 ≤ i
  · cases hx : L[i.toNat]? with
    | none => simp [ackL, h0, hx] at hi
    | some x =>
      cases hs : x.s
      · simp [ackL, h0, hx, hs] at hi
      · have hlt := (List.getElem?_eq_some_iff.1 hx).1
        have := h.ll
        obtain ⟨v, hv⟩ : ∃ v, A[i.toNat]? = some v := ⟨A[i.toNat]'(by rw [h.la]; omega), List.getElem?_eq_getElem _⟩
        have hb := h.ba _ v hv
        have e : (ackL L i).1 = L.set i.toNat { x with s := false } := by simp [ackL, h0, hx, hs]
        refine ⟨v, h0, by omega, hv, hb.1, hb.2, ?_⟩
        rw [e]
        refine { la := by simpa using h.la, lr := h.lr, lt := h.lt, ll := by simpa using h.ll, ba := fun j u hu => ?_, br := fun j u hu => by have := h.br j u hu; omega, rs := fun j z u hz hzr hu => ?_, ac := fun j z u hz hzs ht hu => ?_ }
        · rcases get_set_cases hu with ⟨rfl, rfl⟩ | ⟨_, hu⟩
          · omega
          · have := h.ba j u hu; omega
        · rcases get_set_cases hz with ⟨rfl, rfl⟩ | ⟨_, hz⟩
          · exact h.rs _ x u hx hzr hu
          · exact h.rs j z u hz hzr hu
        · rcases get_set_cases hu with ⟨rfl, rfl⟩ | ⟨hne, hu⟩
          · omega
          · rcases get_set_cases hz with ⟨rfl, rfl⟩ | ⟨_, hz⟩
            · exact (hne rfl).elim
            · exact h.ac j z u hz hzs ht hu
  · simp [ackL, h0] at hi
theorem OnceInv.raise0 {k : Nat} {L : List Ln} {A R : List Int} {T : List Bool} (h : OnceInv k L A R T) {i : Int} (hi : (raiseL L i).2 ≠ 0) : OnceInv k (raiseL L i).1 A R T := by
  unfold raiseL at hi ⊢
  split
  · split
    · exact h
    · rename_i h0 _ x hx
      cases hr : x.r
      · simp [h0, hx, hr] at hi
      · simp only [if_true]; exact h.keep hx (fun _ => hr) (fun q => q)
  · exact h
theorem OnceInv.raise1 {k : Nat} {L : List Ln} {A R : List Int} {T : List Bool} (h : OnceInv k L A R T) {i : Int} (hi : (raiseL L i).2 = 0) :
    ∃ v, 0 ≤ i ∧ i < 8 ∧ R[i.toNat]? = some v ∧ 0 ≤ v ∧ v ≤ k ∧ OnceInv (k + 1) (raiseL L i).1 A (R.set i.toNat (v + 1)) T := by
  by_cases h0 : 0 ≤ i
  · cases hx : L[i.toNat]? with
    | none => simp [raiseL, h0, hx] at hi
    | some x =>
      cases hs : x.r
      · have hlt := (List.getElem?_eq_some_iff.1 hx).1
        have := h.ll
        obtain ⟨v, hv⟩ : ∃ v, R[i.toNat]? = some v := ⟨R[i.toNat]'(by rw [h.lr]; omega), List.getElem?_eq_getElem _⟩
        have hb := h.br _ v hv
        have e : (raiseL L i).1 = L.set i.toNat { x with r := true } := by simp [raiseL, h0, hx, hs]
        refine ⟨v, h0, by omega, hv, hb.1, hb.2, ?_⟩
        rw [e]
        refine { la := h.la, lr := by simpa using h.lr, lt := h.lt, ll := by simpa using h.ll, ba := fun j u hu => by have := h.ba j u hu; omega, br := fun j u hu => ?_, rs := fun j z u hz hzr hu => ?_, ac := fun j z u hz hzs ht hu => ?_ }
        · rcases get_set_cases hu with ⟨rfl, rfl⟩ | ⟨_, hu⟩
          · omega
          · have := h.br j u hu; omega
        · rcases get_set_cases hu with ⟨rfl, rfl⟩ | ⟨hne, hu⟩
          · omega
          · rcases get_set_cases hz with ⟨rfl, rfl⟩ | ⟨_, hz⟩
            · exact (hne rfl).elim
            · exact h.rs j z u hz hzr hu
        · rcases get_set_cases hz with ⟨rfl, rfl⟩ | ⟨_, hz⟩
          · exact h.ac _ x u hx hzs ht hu
          · exact h.ac j z u hz hzs ht hu
      · simp [raiseL, h0, hx, hs] at hi
  · simp [raiseL, h0] at hi
/-- A line is told: it was raised since it was told last, and acknowledged, if it was told. -/
theorem OnceInv.told {n : Nat} {L : List Ln} {A R : List Int} {T : List Bool} (h : OnceInv n L A R T) {k : Nat} {x : Ln} (hx : L[k]? = some x) (hu : x.up = true) :
    ∃ u v t, k < 8 ∧ A[k]? = some u ∧ R[k]? = some v ∧ T[k]? = some t ∧ 1 ≤ v ∧ (t = true → 1 ≤ u) ∧ OnceInv n (L.set k { x with r := false, s := true }) (A.set k 0) (R.set k 0) (T.set k true) := by
  have hlt := (List.getElem?_eq_some_iff.1 hx).1
  have hk : k < 8 := by have := h.ll; omega
  simp only [Ln.up, Bool.and_eq_true, Bool.not_eq_true'] at hu
  obtain ⟨u, hA⟩ : ∃ v, A[k]? = some v := ⟨A[k]'(by rw [h.la]; omega), List.getElem?_eq_getElem _⟩
  obtain ⟨v, hR⟩ : ∃ v, R[k]? = some v := ⟨R[k]'(by rw [h.lr]; omega), List.getElem?_eq_getElem _⟩
  obtain ⟨t, hT⟩ : ∃ v, T[k]? = some v := ⟨T[k]'(by rw [h.lt]; omega), List.getElem?_eq_getElem _⟩
  refine ⟨u, v, t, hk, hA, hR, hT, h.rs k x v hx hu.1.1 hR, fun e => h.ac k x u hx hu.2 (by rw [hT, e]) hA, ?_⟩
  refine { la := by simpa using h.la, lr := by simpa using h.lr, lt := by simpa using h.lt, ll := by simpa using h.ll, ba := fun j z hz => ?_, br := fun j z hz => ?_, rs := fun j z v' hz hzr hv => ?_, ac := fun j z v' hz hzs ht hv => ?_ }
  · rcases get_set_cases hz with ⟨rfl, rfl⟩ | ⟨_, hz⟩
    · omega
    · exact h.ba j z hz
  · rcases get_set_cases hz with ⟨rfl, rfl⟩ | ⟨_, hz⟩
    · omega
    · exact h.br j z hz
  · rcases get_set_cases hz with ⟨rfl, rfl⟩ | ⟨hne, hz⟩
    · cases hzr
    · rcases get_set_cases hv with ⟨rfl, rfl⟩ | ⟨_, hv⟩
      · exact (hne rfl).elim
      · exact h.rs j z v' hz hzr hv
  · rcases get_set_cases hz with ⟨rfl, rfl⟩ | ⟨hne, hz⟩
    · cases hzs
    · rcases get_set_cases hv with ⟨rfl, rfl⟩ | ⟨_, hv⟩
      · exact (hne rfl).elim
      · rcases get_set_cases ht with ⟨rfl, _⟩ | ⟨_, ht⟩
        · exact (hne rfl).elim
        · exact h.ac j z v' hz hzs ht hv

theorem onceStart (m : Nat) (hm : m ≤ 8) : OnceInv 0 (List.replicate m ⟨false, true, false, 0⟩) [0, 0, 0, 0, 0, 0, 0, 0] [0, 0, 0, 0, 0, 0, 0, 0] [false, false, false, false, false, false, false, false] := by
  have hz : ∀ (j : Nat) (v : Int), ([0, 0, 0, 0, 0, 0, 0, 0] : List Int)[j]? = some v → v = 0 := fun j v h => by
    obtain ⟨h1, h2⟩ := List.getElem?_eq_some_iff.1 h
    have : j < 8 := by simpa using h1
    have h3 : ∀ v ∈ ([0, 0, 0, 0, 0, 0, 0, 0] : List Int), v = 0 := by decide
    exact h3 v (List.mem_iff_getElem?.2 ⟨j, h⟩)
  refine ⟨rfl, rfl, rfl, by simpa using hm, fun j v h => by have := hz j v h; omega, fun j v h => by have := hz j v h; omega, fun j x v hx hr _ => ?_, fun j x v hx hs ht _ => ?_⟩
  · rw [List.getElem?_replicate] at hx; split at hx
    · injection hx with hx; subst hx; cases hr
    · cases hx
  · have h3 : ∀ v ∈ [false, false, false, false, false, false, false, false], v = false := by decide
    have := h3 true (List.mem_iff_getElem?.2 ⟨j, ht⟩)
    cases this

end Go.Proofs.Ytfehbkhmcngnpaa
