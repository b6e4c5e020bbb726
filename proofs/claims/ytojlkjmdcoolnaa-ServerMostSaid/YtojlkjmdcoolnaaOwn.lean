/- Slices that a call makes or appends to: what append does, whatever is appended; slices that are only read. -/
import Derived.Test.YtojlkjmdcoolnaaLib
import Derived.Deep.AppendLies
namespace Go.Proofs.Ytojlkjmdcoolnaa
open Go.RowKit

/-- What the program's tables say of a slice type: its element's type, cells, bytes. -/
structure Elem (P : Program) (t e : TypeId) (sz bytes : Nat) : Prop where
  ht : P.underlying t = some (.slice e)
  ex : ∃ (i : TypeInfo) (z : Value), P.info? e = some i ∧ i.zero = some z ∧ i.size = sz ∧ i.bytes = bytes ∧ z.cells.size = sz
  pos : 0 < sz
theorem Elem.of {P : Program} {t e : TypeId} {sz bytes : Nat} {z : Value} (ht : P.underlying t = some (.slice e)) (h : (P.info? e).map (fun i => (i.zero, i.size, i.bytes)) = some (some z, sz, bytes)) (hz : z.cells.size = sz) (hp : 0 < sz) : Elem P t e sz bytes := by
  obtain ⟨i, hi, h0, h1, h2⟩ := info_parts h
  exact ⟨ht, ⟨i, z, hi, h0, h1, h2, hz⟩, hp⟩

/-- The slice value reads xs; the cells lie in a block of element type T. -/
def RdT (w : World) (T : TypeId) (A : Option Addr) (xs : List Value) : Prop :=
  xs ≠ [] → ∃ g o cur fz, A = some ⟨g, o, none⟩ ∧ w.heap[g]? = some (.cells cur T fz) ∧ ∀ (j : Nat) (u : Value), xs[j]? = some u → cur[o + j]? = some u

section
variable {S : Nat → Prop} {w w' : World} {T : TypeId} {A : Option Addr} {xs : List Value}
theorem RdT.rd (h : RdT w T A xs) : Rd w A xs := fun hx => by
  obtain ⟨g, o, cur, fz, e, hg, hc⟩ := h hx
  exact ⟨g, o, e, fun j u hj => by simp [World.cell?, hg, hc j u hj]⟩
theorem RdT.nil (w : World) (T : TypeId) (A : Option Addr) : RdT w T A [] := fun h => (h rfl).elim
theorem RdT.upd (h : RdT w T A xs) (hu : Upd S w w') (hs : ∀ (k : Nat) (cur : Array Value) (fz : Nat × Nat), S k → w.heap[k]? = some (.cells cur T fz) → False) : RdT w' T A xs := fun hx => by
  obtain ⟨g, o, cur, fz, e, hg, hc⟩ := h hx
  exact ⟨g, o, cur, fz, e, (hu.block g (Array.getElem?_eq_some_iff.1 hg).1 (fun q => hs g cur fz q hg)).trans hg, hc⟩
theorem RdT.updNo (h : RdT w T A xs) (hu : Upd No w w') : RdT w' T A xs := h.upd hu (fun _ _ _ q _ => q)
/-- Block g alone has turned, and it is of another type. -/
theorem RdT.upd1 {g : Nat} {U : TypeId} {ys : List Value} (h : RdT w T A xs) (hu : Upd (at1 g) w w') (hg : Row w g U ys) (ht : U ≠ T) : RdT w' T A xs :=
  h.upd hu (fun k cur fz q hk => by
    unfold at1 at q; subst q
    unfold Row at hg; rw [hg] at hk
    simp only [Option.some.injEq, Obj.cells.injEq] at hk
    exact ht hk.2.1)
/-- A part of it, from place i on. -/
theorem RdT.part (h : RdT w T A xs) (i n : Nat) : RdT w T (A.map (·.add i)) ((xs.drop i).take n) := fun hx => by
  have hx' : xs ≠ [] := by rintro rfl; simp at hx
  obtain ⟨g, o, cur, fz, rfl, hg, hc⟩ := h hx'
  refine ⟨g, o + i, cur, fz, by simp [Addr.add], hg, fun j u hj => ?_⟩
  rw [List.getElem?_take] at hj
  split at hj
  · rw [List.getElem?_drop] at hj
    rw [Nat.add_assoc]; exact hc _ u hj
  · cases hj
theorem RdT.take (h : RdT w T A xs) (n : Nat) : RdT w T A (xs.take n) := fun hx => by
  have hx' : xs ≠ [] := by rintro rfl; simp at hx
  obtain ⟨g, o, cur, fz, e, hg, hc⟩ := h hx'
  refine ⟨g, o, cur, fz, e, hg, fun j u hj => ?_⟩
  rw [List.getElem?_take] at hj
  split at hj
  · exact hc _ u hj
  · cases hj

variable {base sz n : Nat} {v : Value}
/-- What is owned can be read. -/
theorem own_read (h : w.ownsRow base T sz v n xs) : ∃ A cap, v = .slice A n cap ∧ n ≤ cap ∧ cap ≤ 9223372036854775807 ∧ RdT w T A xs := by
  rcases h.2 with ⟨rfl, rfl⟩ | ⟨g, cap, cur, rfl, _, hg, h1, h2, h3, h4⟩
  · have : xs = [] := List.eq_nil_of_length_eq_zero (by simpa using h.1)
    subst this
    exact ⟨none, 0, rfl, Nat.le_refl _, by omega, RdT.nil _ _ _⟩
  · refine ⟨_, cap, rfl, h1, by unfold maxLen at h2; omega, fun _ => ⟨g, 0, cur, (0, 0), rfl, hg, fun j u hj => ?_⟩⟩
    rw [← h4, List.getElem?_take] at hj
    split at hj
    · simpa using hj
    · cases hj
theorem own_upd (h : w.ownsRow base T sz v n xs) (hu : Upd S w w') (hs : ∀ k, v.ownBlock = some k → ¬ S k) : w'.ownsRow base T sz v n xs := by
  refine ⟨h.1, ?_⟩
  rcases h.2 with hn | ⟨g, cap, cur, rfl, hb, hg, rest⟩
  · exact .inl hn
  · exact .inr ⟨g, cap, cur, rfl, hb, (hu.block g (Array.getElem?_eq_some_iff.1 hg).1 (hs g rfl)).trans hg, rest⟩
theorem own_updNo (h : w.ownsRow base T sz v n xs) (hu : Upd No w w') : w'.ownsRow base T sz v n xs := own_upd h hu (fun _ _ q => q)
theorem own_base {base' : Nat} (h : w.ownsRow base T sz v n xs) (hb : base' ≤ base) : w.ownsRow base' T sz v n xs := by
  refine ⟨h.1, ?_⟩
  rcases h.2 with hn | ⟨g, cap, cur, rfl, hb', rest⟩
  · exact .inl hn
  · exact .inr ⟨g, cap, cur, rfl, by omega, rest⟩
theorem own_same {ys : List Value} {m : Nat} (h : w.ownsRow base T sz v n xs) (e : xs = ys) (hm : n = m) : w.ownsRow base T sz v m ys := e ▸ hm ▸ h
theorem own_set {g cap : Nat} (h : w.ownsRow base T sz (.slice (some ⟨g, 0, none⟩) n cap) n xs) (j : Nat) (u : Value) : (w.setCell ⟨g, j, none⟩ u).ownsRow base T sz (.slice (some ⟨g, 0, none⟩) n cap) n (xs.set j u) := (h.stored j u).1
/-- A new block that was just laid, whole. -/
theorem own_lit (w : World) (T : TypeId) (sz n : Nat) (xs : List Value) (b : Nat) (hb : b = w.heap.size) (hbase : base ≤ b) (hx : xs.length = n * sz) (hn : n ≤ 9223372036854775807) : (w.alloc (.cells xs.toArray T)).ownsRow base T sz (.slice (some ⟨b, 0, none⟩) n n) n xs := by
  subst hb
  exact ⟨hx, .inr ⟨w.heap.size, n, xs.toArray, rfl, hbase, heap_alloc_new w _, Nat.le_refl _, by unfold maxLen; omega, by simpa using hx, by simp [← hx]⟩⟩
end

/-- What append does: the result is owned; only the row that it went on in may have turned. -/
theorem run_app {P : Program} (w : World) {t e : TypeId} {sz bytes : Nat} (ty : TypeId) (E : Elem P t e sz bytes) {base n : Nat} {v : Value} {xs : List Value} (hown : w.ownsRow base e sz v n xs)
    (A : Option Addr) (m c : Nat) (ys : List Value) (hl : ys.length = m * sz) (hr : Rd w A ys) (h1 : ∀ u ∈ ys, u.oneCell' = true) (h63 : n + m ≤ 9223372036854775807) (hbytes : (n + m) * bytes ≤ 140737488355328) (hbase : base ≤ w.heap.size) :
    ∃ v' w', (Builtin.append_ #[t, t] ty #[v, .slice A m c]).run P w = .ok v' w' ∧ w'.ownsRow base e sz v' (n + m) (xs ++ ys) ∧ w.grownBy w' v.ownBlock := by
  obtain ⟨ht, ⟨i, z, hi, hz, hsz, hby, hzc⟩, hpos⟩ := E
  have hmax : n + m ≤ maxLen := by unfold maxLen; omega
  cases A with
  | some a =>
    have hnews : ∀ j u, ys[j]? = some u → w.cell? (a.add j) = some u := fun j u hj => by
      have hne : ys ≠ [] := by rintro rfl; simp at hj
      obtain ⟨g, o, e', hc⟩ := hr hne
      injection e' with e'
      subst e'
      have := hc j u hj
      rw [← this]
      congr 1
      unfold Addr.add
      split
      · rename_i h0; subst h0; rfl
      · rfl
    obtain ⟨v', w', h2, h3, h4, _⟩ := run_append_own (P := P) w base t ty e i z sz bytes ht hi hz hsz hby hzc hpos v n xs hown a m c ys hl hnews h1 hmax hbytes hbase
    exact ⟨v', w', h2, h3, h4⟩
  | none =>
    have hys : ys = [] := by
      cases ys with
      | nil => rfl
      | cons u r => obtain ⟨g, o, e', _⟩ := hr (by simp); cases e'
    subst hys
    have hm : m = 0 := by
      rcases Nat.eq_zero_or_pos m with h | h
      · exact h
      · have := Nat.mul_pos h hpos; simp at hl; omega
    subst hm
    rcases hown.2 with ⟨rfl, rfl⟩ | ⟨g, cap, cur, rfl, hb, hg, h5, h6, h7, h8⟩
    · refine ⟨.slice none 0 0, w, ?_, by simpa using hown, ⟨rfl, rfl, rfl, Nat.le_refl _, fun _ _ _ => rfl⟩⟩
      simp [Builtin.append_, run_underlying ht, sizeOf, typeInfo, hi, Builtin.lenOf, Builtin.firstCells]
    · refine ⟨.slice (some ⟨g, 0, none⟩) n cap, w, ?_, by simpa using hown, ⟨rfl, rfl, rfl, Nat.le_refl _, fun _ _ _ => rfl⟩⟩
      simp [Builtin.append_, run_underlying ht, sizeOf, typeInfo, hi, Builtin.lenOf, Builtin.firstCells, h5, storeCells]

theorem wp_app {P : Program} {w : World} {o : Oper} {a : Act} {K : Act → World → Prop} {Q : Exit → Act → World → Prop} (s x : Operand) {t e : TypeId} {sz bytes : Nat} (E : Elem P t e sz bytes)
    (ho : o.op = .call { callee := .builtin .append, args := #[s, x], argTypes := #[t, t] }) {base n : Nat} {v : Value} {xs : List Value} (hs : a.eval s = v) (hown : w.ownsRow base e sz v n xs)
    {A : Option Addr} {m c : Nat} {ys : List Value} (hx : a.eval x = .slice A m c) (hl : ys.length = m * sz) (hr : Rd w A ys) (h1 : ∀ u ∈ ys, u.oneCell' = true) (h63 : n + m ≤ 9223372036854775807) (hbytes : (n + m) * bytes ≤ 140737488355328) (hbase : base ≤ w.heap.size)
    (h : ∀ v' w', w'.ownsRow base e sz v' (n + m) (xs ++ ys) → w.grownBy w' v.ownBlock → K (a.put o.dst v') w') : o.wp P a w K Q := by
  obtain ⟨v', w', hrun, h2, h3⟩ := run_app (P := P) w o.type E hown A m c ys hl hr h1 h63 hbytes hbase
  unfold Oper.wp execOp
  simp only [ho, resolve, invoke, builtin, Sem.run_bind, Sem.run_pure, Result.andThen_ok, List.map_toArray, List.map_cons, List.map_nil, hs, hx, hrun]
  exact h v' w' h2 h3

theorem wpList_app {P : Program} {w : World} {ops : Array Oper} {rest : List Oper} {o : Oper} {a : Act} {Q : Exit → Act → World → Prop} (hgd : o.guard = none) (s x : Operand) {t e : TypeId} {sz bytes : Nat} (E : Elem P t e sz bytes)
    (ho : o.op = .call { callee := .builtin .append, args := #[s, x], argTypes := #[t, t] }) {base n : Nat} {v : Value} {xs : List Value} (hs : a.eval s = v) (hown : w.ownsRow base e sz v n xs)
    {A : Option Addr} {m c : Nat} {ys : List Value} (hx : a.eval x = .slice A m c) (hl : ys.length = m * sz) (hr : Rd w A ys) (h1 : ∀ u ∈ ys, u.oneCell' = true) (h63 : n + m ≤ 9223372036854775807) (hbytes : (n + m) * bytes ≤ 140737488355328) (hbase : base ≤ w.heap.size)
    (h : ∀ v' w', w'.ownsRow base e sz v' (n + m) (xs ++ ys) → w.grownBy w' v.ownBlock → wpList P ops Q rest (a.put o.dst v') w') : wpList P ops Q (o :: rest) a w :=
  wpList_plain hgd fun _ hK => wp_app s x E ho hs hown hx hl hr h1 h63 hbytes hbase fun v' w' h2 h3 => hK _ _ (h v' w' h2 h3)

end Go.Proofs.Ytojlkjmdcoolnaa
