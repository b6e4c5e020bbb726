/- Words for memory that all texts of this seat use: what a call leaves as it was (Upd), a row of cells that reads as a list (Rd). No statement of its own. -/
import Derived.Test.YtojlkjmdcoolnaaChecked
import Derived.WalkKit
import Derived.Lib.Hide
import Derived.Deep.Draws
import Derived.Laws.MakeOwn
namespace Go.Proofs.Ytojlkjmdcoolnaa
open Go.RowKit

/-- What was there keeps its blocks, but for those in S; nothing goes away; the streams are as they were. -/
structure Upd (S : Nat → Prop) (w w' : World) : Prop where
  os : w'.os = w.os
  tape : w'.tape = w.tape
  output : w'.output = w.output
  size : w.heap.size ≤ w'.heap.size
  block : ∀ k, k < w.heap.size → ¬ S k → w'.heap[k]? = w.heap[k]?

def No : Nat → Prop := fun _ => False

section
variable {S T : Nat → Prop} {a b c w w' : World}
theorem Upd.refl (S : Nat → Prop) (w : World) : Upd S w w := ⟨rfl, rfl, rfl, Nat.le_refl _, fun _ _ _ => rfl⟩
theorem Upd.trans (h : Upd S a b) (k : Upd S b c) : Upd S a c :=
  ⟨k.os.trans h.os, k.tape.trans h.tape, k.output.trans h.output, Nat.le_trans h.size k.size,
    fun i hi hs => (k.block i (Nat.lt_of_lt_of_le hi h.size) hs).trans (h.block i hi hs)⟩
theorem Upd.mono (h : Upd S a b) (hs : ∀ k, k < a.heap.size → S k → T k) : Upd T a b :=
  ⟨h.os, h.tape, h.output, h.size, fun i hi ht => h.block i hi (fun q => ht (hs i hi q))⟩
theorem Upd.ofNo (h : Upd No a b) : Upd S a b := h.mono (fun _ _ q => q.elim)
/-- What a later step may turn is new: over the whole it counts for nothing. -/
theorem Upd.transNew (h : Upd S a b) (k : Upd T b c) (hs : ∀ i, i < a.heap.size → T i → S i) : Upd S a c :=
  ⟨k.os.trans h.os, k.tape.trans h.tape, k.output.trans h.output, Nat.le_trans h.size k.size,
    fun i hi q => (k.block i (Nat.lt_of_lt_of_le hi h.size) (fun t => q (hs i hi t))).trans (h.block i hi q)⟩
theorem Upd.drew (h : Upd S a w) : Upd S a w.drew := ⟨h.os, h.tape, h.output, h.size, h.block⟩
theorem Upd.drewN (h : Upd S a w) (n : Nat) : Upd S a (w.drewN n) := ⟨h.os, h.tape, h.output, h.size, h.block⟩
theorem Upd.alloc (h : Upd S a w) (o : Obj) : Upd S a (w.alloc o) :=
  h.trans ⟨rfl, rfl, rfl, by simp, fun k hk _ => Below.heap_alloc _ _ _ (by omega)⟩
theorem Upd.setCell (h : Upd S a w) {p : Addr} (hp : p.block < a.heap.size → S p.block) (u : Value) : Upd S a (w.setCell p u) :=
  ⟨h.os, h.tape, h.output, by simpa [World.setCell] using h.size,
    fun i hi hs => (Below.heap_setCell w p u i (fun e => by subst e; exact hs (hp hi))).trans (h.block i hi hs)⟩
/-- Block g alone. -/
def at1 (g : Nat) : Nat → Prop := fun k => k = g
theorem Upd.set1 {g : Nat} (h : Upd (at1 g) a w) (i : Nat) (u : Value) : Upd (at1 g) a (w.setCell ⟨g, i, none⟩ u) := h.setCell (p := ⟨g, i, none⟩) (fun _ => rfl) u
theorem Upd.setNew (h : Upd S a w) {p : Addr} (hp : a.heap.size ≤ p.block) (u : Value) : Upd S a (w.setCell p u) := h.setCell (fun q => absurd q (by omega)) u
theorem Upd.grown (h : Upd S a w) {row : Option Nat} (hg : w.grownBy w' row) (hr : ∀ k, row = some k → k < a.heap.size → S k) : Upd S a w' :=
  ⟨hg.os.trans h.os, hg.tape.trans h.tape, hg.output.trans h.output, Nat.le_trans h.size hg.size,
    fun i hi hs => (hg.block i (Nat.lt_of_lt_of_le hi h.size) (fun e => hs (hr i e.symm hi))).trans (h.block i hi hs)⟩
theorem Upd.below (h : Upd No w w') : Below w.heap.size w w' := ⟨h.os, h.tape, h.output, h.size, fun k hk => h.block k hk (fun q => q)⟩
theorem Upd.ofBelow {B : Nat} (h : Below B w w') (hB : ∀ k, k < w.heap.size → B ≤ k → S k) : Upd S w w' :=
  ⟨h.os, h.tape, h.output, h.size, fun k hk hs => h.block k (by rcases Nat.lt_or_ge k B with q | q; exact q; exact (hs (hB k hk q)).elim)⟩
theorem cell_lt {p : Addr} {v : Value} (h : w.cell? p = some v) : p.block < w.heap.size := World.block_lt_of_cell? w p h
theorem Upd.cell (h : Upd S w w') {p : Addr} {v : Value} (hc : w.cell? p = some v) (hs : ¬ S p.block) : w'.cell? p = some v :=
  (World.cell?_of_block (w := w) (h.block p.block (cell_lt hc) hs)).trans hc
theorem Upd.at_ (h : Upd No w w') {p : Addr} {v : Value} (hc : w.cell? p = some v) : w'.cell? p = some v := h.cell hc (fun q => q)
theorem Upd.frozen (h : Upd S w w') {p : Addr} (hp : p.block < w.heap.size) (hs : ¬ S p.block) : w'.frozen? p = w.frozen? p :=
  World.frozen?_of_block (w := w) (h.block p.block hp hs)
end

/-- A box that was laid ahead of a call that writes nothing old: its cells, behind the call. -/
theorem Upd.box {w w1 : World} {cs : Array Value} {T : TypeId} (h : Upd No (w.alloc (.cells cs T)) w1) (i : Nat) : w1.cell? ⟨w.heap.size, i, none⟩ = cs[i]? := by
  have hb := h.block w.heap.size (by simp) (fun q => q)
  have hn := heap_alloc_new w (.cells cs T)
  simp only [World.cell?, hb, hn]
  simp

/-- Two boxes, laid one behind the other. -/
theorem Upd.box2 {w w1 : World} {cs ds : Array Value} {T U : TypeId} (h : Upd No ((w.alloc (.cells cs T)).alloc (.cells ds U)) w1) :
    (∀ i, w1.cell? ⟨w.heap.size, i, none⟩ = cs[i]?) ∧ (∀ i, w1.cell? ⟨w.heap.size + 1, i, none⟩ = ds[i]?) :=
  ⟨fun i => (((Upd.refl _ _).alloc _).trans h).box i, fun i => by have := h.box i; simpa using this⟩

/-- The slice's address A leads to a row of cells that begins with xs (of none nothing is asked). -/
def Rd (w : World) (A : Option Addr) (xs : List Value) : Prop :=
  xs ≠ [] → ∃ g o, A = some ⟨g, o, none⟩ ∧ ∀ j u, xs[j]? = some u → w.cell? ⟨g, o + j, none⟩ = some u

section
variable {S : Nat → Prop} {w w' : World} {A : Option Addr} {xs : List Value}
theorem Rd.nil (w : World) (A : Option Addr) : Rd w A [] := fun h => (h rfl).elim
theorem Rd.upd (h : Rd w A xs) (hu : Upd No w w') : Rd w' A xs := fun hx => by
  obtain ⟨g, o, e, hc⟩ := h hx
  exact ⟨g, o, e, fun j u hj => hu.at_ (hc j u hj)⟩
end

theorem flat_get {α : Type} (f : α → List Value) (m : Nat) (hm : ∀ x, (f x).length = m) :
    ∀ (l : List α) (i : Nat) (x : α), l[i]? = some x → ∀ j, j < m → (l.flatMap f)[i * m + j]? = (f x)[j]?
  | [], i, x, h, j, hj => by simp at h
  | y :: l, 0, x, h, j, hj => by
    simp at h; subst h
    rw [List.flatMap_cons, List.getElem?_append_left (by rw [hm]; omega)]
    congr 1; omega
  | y :: l, i + 1, x, h, j, hj => by
    rw [List.flatMap_cons, List.getElem?_append_right (by rw [hm, Nat.add_mul]; omega), hm]
    have e : (i + 1) * m + j - m = i * m + j := by rw [Nat.add_mul]; omega
    rw [e]
    exact flat_get f m hm l i x (by simpa using h) j hj

theorem flat_len {α : Type} (f : α → List Value) (m : Nat) (hm : ∀ x, (f x).length = m) (l : List α) : (l.flatMap f).length = l.length * m := by
  induction l with
  | nil => simp
  | cons y l ih => simp [hm, ih, Nat.add_mul]; omega

/-- Block g is just the cells xs of element type T, none frozen. -/
def Row (w : World) (g : Nat) (T : TypeId) (xs : List Value) : Prop := w.heap[g]? = some (.cells xs.toArray T (0, 0))

section
variable {S : Nat → Prop} {w w' : World} {g : Nat} {T : TypeId} {xs : List Value}
theorem Row.lt (h : Row w g T xs) : g < w.heap.size := by
  rcases Nat.lt_or_ge g w.heap.size with q | q
  · exact q
  · unfold Row at h; rw [Array.getElem?_eq_none q] at h; cases h
theorem Row.get (h : Row w g T xs) (i : Nat) : w.cell? ⟨g, i, none⟩ = xs[i]? := by
  unfold Row at h; simp [World.cell?, h]
theorem Row.cell (h : Row w g T xs) {i : Nat} {u : Value} (hi : xs[i]? = some u) : w.cell? ⟨g, i, none⟩ = some u := (h.get i).trans hi
theorem Row.frozen (h : Row w g T xs) (i : Nat) : w.frozen? ⟨g, i, none⟩ = false := by
  unfold Row at h; simp [World.frozen?, h]
theorem Row.new (w : World) (T : TypeId) (xs : List Value) : Row (w.alloc (.cells xs.toArray T)) w.heap.size T xs := heap_alloc_new w _
theorem Row.newAt (w : World) (T : TypeId) (xs : List Value) (b : Nat) (hb : b = w.heap.size) : Row (w.alloc (.cells xs.toArray T)) b T xs := hb ▸ heap_alloc_new w _
theorem Row.upd (h : Row w g T xs) (hu : Upd S w w') (hs : ¬ S g) : Row w' g T xs := (hu.block g h.lt hs).trans h
theorem Row.updNo (h : Row w g T xs) (hu : Upd No w w') : Row w' g T xs := h.upd hu (fun q => q)
theorem Row.drew (h : Row w g T xs) : Row w.drew g T xs := h
theorem Row.drewN (h : Row w g T xs) (n : Nat) : Row (w.drewN n) g T xs := h
theorem Row.alloc (h : Row w g T xs) (o : Obj) : Row (w.alloc o) g T xs := (Below.heap_alloc w o g h.lt).trans h
theorem Row.far (h : Row w g T xs) {p : Addr} (hp : g ≠ p.block) (u : Value) : Row (w.setCell p u) g T xs := (Below.heap_setCell w p u g hp).trans h
theorem Row.set (h : Row w g T xs) (i : Nat) (u : Value) : Row (w.setCell ⟨g, i, none⟩ u) g T (xs.set i u) := by
  unfold Row at h ⊢
  simp [World.setCell, Array.getElem?_modify, h]
theorem Row.ne {b : Nat} {U : TypeId} {ys : List Value} (h : Row w g T xs) (k : Row w b U ys) (ht : T ≠ U) : g ≠ b := by
  rintro rfl
  unfold Row at h k
  rw [h] at k
  simp only [Option.some.injEq, Obj.cells.injEq] at k
  exact ht k.2.1
theorem Row.same {ys : List Value} (h : Row w g T xs) (e : xs = ys) : Row w g T ys := e ▸ h
end

theorem flat_set {α : Type} (f : α → List Value) (m : Nat) (hm : ∀ x, (f x).length = m) :
    ∀ (l : List α) (i : Nat) (x y : α) (j : Nat) (u : Value), l[i]? = some x → j < m → f y = (f x).set j u → (l.flatMap f).set (i * m + j) u = (l.set i y).flatMap f
  | [], i, x, y, j, u, h, _, _ => by simp at h
  | z :: l, 0, x, y, j, u, h, hj, hy => by
    simp at h; subst h
    rw [List.flatMap_cons, List.set_cons_zero, List.flatMap_cons, List.set_append_left _ _ (by rw [hm]; omega), hy]
    congr 2; omega
  | z :: l, i + 1, x, y, j, u, h, hj, hy => by
    rw [List.flatMap_cons, List.set_cons_succ, List.flatMap_cons, List.set_append_right _ _ (by rw [hm, Nat.add_mul]; omega), hm]
    congr 1
    rw [← flat_set f m hm l i x y j u (by simpa using h) hj hy]
    congr 1
    rw [Nat.add_mul]; omega

/-- The cells from place j on are those of a list. -/
def setL : List Value → Nat → List Value → List Value
  | xs, _, [] => xs
  | xs, j, u :: r => setL (xs.set j u) (j + 1) r
theorem setL_length : ∀ (ys xs : List Value) (j : Nat), (setL xs j ys).length = xs.length
  | [], _, _ => rfl
  | u :: r, xs, j => by rw [setL, setL_length r]; simp
theorem setL_get : ∀ (ys xs : List Value) (j k : Nat), j + ys.length ≤ xs.length → (setL xs j ys)[k]? = if j ≤ k ∧ k < j + ys.length then ys[k - j]? else xs[k]?
  | [], xs, j, k, _ => by rw [setL, if_neg (by simp)]
  | u :: r, xs, j, k, h => by
    rw [setL, setL_get r (xs.set j u) (j + 1) k (by simp at h ⊢; omega)]
    simp only [List.length_cons] at h ⊢
    by_cases h1 : j + 1 ≤ k ∧ k < j + 1 + r.length
    · rw [if_pos h1, if_pos (by omega), show k - j = (k - (j + 1)) + 1 by omega, List.getElem?_cons_succ]
    · rw [if_neg h1, List.getElem?_set]
      by_cases h2 : j = k
      · subst h2
        rw [if_pos rfl, if_pos (by omega), if_pos (by omega)]; simp
      · rw [if_neg h2, if_neg (by omega)]
theorem flat_setL {α : Type} (f : α → List Value) (m : Nat) (hm : ∀ x, (f x).length = m) (l : List α) (i : Nat) (x y : α) (hx : l[i]? = some x) : setL (l.flatMap f) (i * m) (f y) = (l.set i y).flatMap f := by
  have hil := (List.getElem?_eq_some_iff.1 hx).1
  have hlen : (i + 1) * m ≤ l.length * m := Nat.mul_le_mul_right _ (by omega)
  rw [Nat.add_mul] at hlen
  apply List.ext_getElem?
  intro k
  rw [setL_get _ _ _ _ (by rw [hm, flat_len f m hm]; omega), hm]
  rcases Nat.eq_zero_or_pos m with h0 | hpos
  · subst h0
    have e1 : ∀ q : List α, q.flatMap f = [] := fun q => List.eq_nil_of_length_eq_zero (by rw [flat_len f 0 hm]; omega)
    rw [if_neg (by omega), e1, e1]
  have hkd : k = k / m * m + k % m := by have := Nat.div_add_mod k m; rw [Nat.mul_comm] at this; omega
  have hkm := Nat.mod_lt k hpos
  by_cases hk : i * m ≤ k ∧ k < i * m + m
  · rw [if_pos hk]
    have := flat_get f m hm (l.set i y) i y (by rw [List.getElem?_set]; simp [hil]) (k - i * m) (by omega)
    rw [← this]; congr 1; omega
  · rw [if_neg hk]
    cases hq : l[k / m]? with
    | none =>
      have : l.length ≤ k / m := by simpa using hq
      have h2 : l.length * m ≤ k := by have := Nat.mul_le_mul_right m this; omega
      rw [List.getElem?_eq_none (by rw [flat_len f m hm]; omega), List.getElem?_eq_none (by rw [flat_len f m hm]; simp; omega)]
    | some z =>
      have hne : i ≠ k / m := by rintro rfl; omega
      have e1 := flat_get f m hm l (k / m) z hq (k % m) hkm
      have e2 := flat_get f m hm (l.set i y) (k / m) z (by rw [List.getElem?_set, if_neg hne]; exact hq) (k % m) hkm
      rw [← hkd] at e1 e2
      rw [e1, e2]

theorem made_flat {α : Type} (f : α → List Value) (x : α) (z : Array Value) (hz : z.toList = f x) (n : Nat) : madeCells z (n * z.size) = ((List.replicate n x).flatMap f).toArray := by
  have hm : z.size = (f x).length := by rw [← hz]; simp
  have hlen : ∀ k, ((List.replicate k x).flatMap f).length = k * z.size := fun k => by
    induction k with
    | zero => simp
    | succ k ih => rw [List.replicate_succ, List.flatMap_cons, List.length_append, ih, ← hm, Nat.add_mul]; omega
  apply Array.ext
  · rw [size_madeCells]; simp only [List.size_toArray]; rw [hlen]
  · intro i h1 h2
    rw [size_madeCells] at h1
    have hz0 : 0 < z.size := by
      rcases Nat.eq_zero_or_pos z.size with h | h
      · rw [h] at h1; omega
      · exact h
    have key : ∀ k i, i < k * z.size → ((List.replicate k x).flatMap f)[i]? = (f x)[i % z.size]? := fun k => by
      induction k with
      | zero => intro i h; omega
      | succ k ih =>
        intro i h
        rw [List.replicate_succ, List.flatMap_cons]
        by_cases hi : i < z.size
        · rw [List.getElem?_append_left (by omega), Nat.mod_eq_of_lt hi]
        · rw [List.getElem?_append_right (by omega), ← hm, ih (i - z.size) (by rw [Nat.add_mul] at h; omega)]
          rw [← Nat.mod_eq_sub_mod (by omega)]
    have hr := key n i h1
    have hmod : i % z.size < z.size := Nat.mod_lt _ hz0
    simp only [madeCells, Array.getElem_map, Array.getElem_range]
    have e1 : ((List.replicate n x).flatMap f)[i]? = some (((List.replicate n x).flatMap f).toArray[i]'h2) := by
      simp
    rw [e1] at hr
    rw [getElem!_pos z (i % z.size) hmod]
    have e2 : (f x)[i % z.size]? = some (z[i % z.size]'hmod) := by rw [← hz]; simp
    rw [e2] at hr
    injection hr with hr
    exact hr.symm

/-- make([]T, n): n zero elements, in a new block. -/
theorem run_make_list {P : Program} {α : Type} (f : α → List Value) (x : α) (t e : TypeId) (i : TypeInfo) (z : Value) (ht : P.underlying t = some (.slice e)) (hi : P.info? e = some i) (hz : i.zero = some z) (hzc : z.cells.toList = f x) (hsz : i.size = z.cells.size)
    (kl kc : IntKind) (n : Nat) (hb : i.bytes * n ≤ 281474976710656) (h63 : n ≤ 9223372036854775807) (w : World) :
    (Instr.makeSlice t (.int kl (n : Int)) (.int kc (n : Int))).run P w = .ok (.slice (some ⟨w.heap.size, 0, none⟩) n n) (w.alloc (.cells ((List.replicate n x).flatMap f).toArray e)) := by
  have hb' : (i.bytes : Int) * (n : Int) ≤ 281474976710656 := by
    have h : ((i.bytes * n : Nat) : Int) ≤ 281474976710656 := by omega
    rwa [Int.natCast_mul] at h
  have hr := run_make (P := P) w t e i z ht hi hz kl kc n n (by omega) (by omega) hb' (by omega)
  simp only [Int.toNat_natCast] at hr
  rw [hr, hsz, made_flat f x z.cells hzc n]

theorem ret_int {k : IntKind} {a b : Int} (h : a = b) : Ending.returned (.int k a) = .returned (.int k b) := by rw [h]
theorem ret_bool {a b : Bool} (h : a = b) : Ending.returned (.bool a) = .returned (.bool b) := by rw [h]

end Go.Proofs.Ytojlkjmdcoolnaa
