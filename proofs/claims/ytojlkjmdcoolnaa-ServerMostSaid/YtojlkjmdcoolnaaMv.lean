/- What a call may turn, told by the kinds of blocks: rows of some element types, and maps, from a base on. And maps from int to a kind of int, as functions. -/
import Derived.Test.YtojlkjmdcoolnaaOwn
import Derived.Maps.OwnSet
namespace Go.Proofs.Ytojlkjmdcoolnaa
open Go.RowKit

/-- Blocks from base on that are rows of the types in P, or no rows at all. -/
def Tch (P : List TypeId) (base : Nat) (w : World) : Nat → Prop := fun k => base ≤ k ∧ ∀ cur T fz, w.heap[k]? = some (.cells cur T fz) → T ∈ P

/-- Only such blocks have turned. -/
def Mv (P : List TypeId) (base : Nat) (w w' : World) : Prop := Upd (Tch P base w) w w'

section
variable {P : List TypeId} {base : Nat} {w w' a b c : World}
theorem Mv.refl (P : List TypeId) (base : Nat) (w : World) : Mv P base w w := Upd.refl _ _
theorem Mv.ofNo (h : Upd No w w') : Mv P base w w' := h.ofNo
theorem Mv.upd {S : Nat → Prop} (h : Upd S a b) (hs : ∀ k, k < a.heap.size → S k → Tch P base a k) : Mv P base a b := h.mono hs
theorem Mv.trans (h : Mv P base a b) (k : Mv P base b c) : Mv P base a c :=
  h.transNew k (fun i hi ht => by
    by_cases hs : Tch P base a i
    · exact hs
    · refine ⟨ht.1, fun cur T fz he => ht.2 cur T fz ?_⟩
      rw [h.block i hi hs]; exact he)
theorem Mv.alloc (h : Mv P base a w) (o : Obj) : Mv P base a (w.alloc o) := Upd.alloc h o
theorem Mv.drew (h : Mv P base a w) : Mv P base a w.drew := Upd.drew h
theorem Mv.drewN (h : Mv P base a w) (n : Nat) : Mv P base a (w.drewN n) := Upd.drewN h n
theorem Tch.row {g : Nat} {T : TypeId} {xs : List Value} (h : Row w g T xs) (ht : T ∈ P) (hb : base ≤ g) : Tch P base w g :=
  ⟨hb, fun cur U fz e => by unfold Row at h; rw [h] at e; simp only [Option.some.injEq, Obj.cells.injEq] at e; rw [← e.2.1]; exact ht⟩
theorem Tch.notRow {g : Nat} {T : TypeId} {xs : List Value} (h : Row w g T xs) (ht : T ∉ P) : ¬ Tch P base w g :=
  fun q => ht (q.2 _ _ _ h)
/-- A row's cell is stored. -/
theorem Mv.set {g : Nat} {T : TypeId} {xs : List Value} (h : Mv P base a w) (hr : Row w g T xs) (ht : T ∈ P) (hb : base ≤ g) (i : Nat) (u : Value) : Mv P base a (w.setCell ⟨g, i, none⟩ u) :=
  h.trans ((Upd.refl _ _).setCell (fun _ => Tch.row hr ht hb) u)
theorem Mv.setNew (h : Mv P base a w) {p : Addr} (hp : a.heap.size ≤ p.block) (u : Value) : Mv P base a (w.setCell p u) := Upd.setNew h hp u
theorem Mv.grown {row : Option Nat} (h : Mv P base a w) (hg : w.grownBy w' row) (hr : ∀ k, row = some k → Tch P base w k) : Mv P base a w' :=
  h.trans ⟨hg.os, hg.tape, hg.output, hg.size, fun i hi hs => hg.block i hi (fun e => hs (hr i e.symm))⟩
theorem Mv.size (h : Mv P base a b) : a.heap.size ≤ b.heap.size := Upd.size h
/-- Where all that it may turn is new, nothing old has turned. -/
theorem Mv.over {S : Nat → Prop} (h : Upd S a b) (k : Mv P base b c) (hb : a.heap.size ≤ base) : Upd S a c :=
  h.transNew k (fun i hi q => by have := q.1; omega)
theorem Row.mv {g : Nat} {T : TypeId} {xs : List Value} (h : Row w g T xs) (hu : Mv P base w w') (ht : T ∉ P) : Row w' g T xs := h.upd hu (Tch.notRow h ht)
theorem Row.mvOld {g : Nat} {T : TypeId} {xs : List Value} (h : Row w g T xs) (hu : Mv P base w w') (hb : g < base) : Row w' g T xs := h.upd hu (fun q => by have := q.1; omega)
theorem RdT.mv {T : TypeId} {A : Option Addr} {xs : List Value} (h : RdT w T A xs) (hu : Mv P base w w') (ht : T ∉ P) : RdT w' T A xs :=
  h.upd hu (fun k cur fz q hk => ht (q.2 _ _ _ hk))
theorem own_mv {T : TypeId} {b sz n : Nat} {v : Value} {xs : List Value} (h : w.ownsRow b T sz v n xs) (hu : Mv P base w w') (ht : T ∉ P) : w'.ownsRow b T sz v n xs := by
  refine own_upd h hu (fun k hk q => ht ?_)
  rcases h.2 with ⟨rfl, _⟩ | ⟨g, cap, cur, rfl, _, hg, _⟩
  · cases hk
  · simp only [Value.ownBlock, Option.some.injEq] at hk
    subst hk
    exact q.2 _ _ _ hg
theorem own_tch {T : TypeId} {b sz n : Nat} {v : Value} {xs : List Value} (h : w.ownsRow b T sz v n xs) (ht : T ∈ P) (hb : base ≤ b) : ∀ k, v.ownBlock = some k → Tch P base w k := by
  intro k hk
  rcases h.2 with ⟨rfl, _⟩ | ⟨g, cap, cur, rfl, hbg, hg, _⟩
  · cases hk
  · simp only [Value.ownBlock, Option.some.injEq] at hk
    subst hk
    exact ⟨Nat.le_trans hb hbg, fun cur T fz e => by rw [hg] at e; simp only [Option.some.injEq, Obj.cells.injEq] at e; rw [← e.2.1]; exact ht⟩
theorem mapTch {b : Nat} {es : Array MapEntry} {clock : Nat} (h : w.heap[b]? = some (.map es clock)) (hb : base ≤ b) : Tch P base w b :=
  ⟨hb, fun cur T fz e => by rw [h] at e; cases e⟩
theorem Mv.turned {b : Nat} (h : Mv P base a w) (ht : w.mapTurned w' b) (hb : base ≤ b) : Mv P base a w' := by
  obtain ⟨es, clock, _, _, he, _⟩ := id ht
  exact h.grown ht.grown (fun k e => by injection e with e; subst e; exact mapTch he hb)
end

/-- Blocks from base on that are rows of the types in P. -/
def Tcr (P : List TypeId) (base : Nat) (w : World) : Nat → Prop := fun k => base ≤ k ∧ ∃ cur T fz, w.heap[k]? = some (.cells cur T fz) ∧ T ∈ P
/-- Only such rows have turned. -/
def Mr (P : List TypeId) (base : Nat) (w w' : World) : Prop := Upd (Tcr P base w) w w'
section
variable {P : List TypeId} {base : Nat} {w w' a b c : World}
theorem Tcr.tch {k : Nat} (h : Tcr P base w k) : Tch P base w k := by
  obtain ⟨h1, cur, T, fz, h2, h3⟩ := h
  exact ⟨h1, fun cur' T' fz' e => by rw [h2] at e; simp only [Option.some.injEq, Obj.cells.injEq] at e; rw [← e.2.1]; exact h3⟩
theorem Mr.mv (h : Mr P base a b) : Mv P base a b := Upd.mono h (fun _ _ q => q.tch)
theorem Mr.refl (P : List TypeId) (base : Nat) (w : World) : Mr P base w w := Upd.refl _ _
theorem Mr.ofNo (h : Upd No w w') : Mr P base w w' := h.ofNo
theorem Mr.trans (h : Mr P base a b) (k : Mr P base b c) : Mr P base a c :=
  h.transNew k (fun i hi ht => by
    by_cases hs : Tcr P base a i
    · exact hs
    · obtain ⟨h1, cur, T, fz, h2, h3⟩ := ht
      exact ⟨h1, cur, T, fz, by rw [← h.block i hi hs]; exact h2, h3⟩)
theorem Mr.alloc (h : Mr P base a w) (o : Obj) : Mr P base a (w.alloc o) := Upd.alloc h o
theorem Mr.drew (h : Mr P base a w) : Mr P base a w.drew := Upd.drew h
theorem Mr.drewN (h : Mr P base a w) (n : Nat) : Mr P base a (w.drewN n) := Upd.drewN h n
theorem Mr.set {g : Nat} {T : TypeId} {xs : List Value} (h : Mr P base a w) (hr : Row w g T xs) (ht : T ∈ P) (hb : base ≤ g) (i : Nat) (u : Value) : Mr P base a (w.setCell ⟨g, i, none⟩ u) :=
  h.trans ((Upd.refl _ _).setCell (fun _ => ⟨hb, _, _, _, hr, ht⟩) u)
theorem Mr.grown {row : Option Nat} (h : Mr P base a w) (hg : w.grownBy w' row) (hr : ∀ k, row = some k → Tcr P base w k) : Mr P base a w' :=
  h.trans ⟨hg.os, hg.tape, hg.output, hg.size, fun i hi hs => hg.block i hi (fun e => hs (hr i e.symm))⟩
theorem Mr.size (h : Mr P base a b) : a.heap.size ≤ b.heap.size := Upd.size h
theorem Mr.more {P' : List TypeId} (h : Mr P base a b) (hp : ∀ T, T ∈ P → T ∈ P') : Mr P' base a b :=
  Upd.mono h (fun _ _ q => by obtain ⟨h1, cur, T, fz, h2, h3⟩ := q; exact ⟨h1, cur, T, fz, h2, hp T h3⟩)
theorem own_tcr {T : TypeId} {b sz n : Nat} {v : Value} {xs : List Value} (h : w.ownsRow b T sz v n xs) (ht : T ∈ P) (hb : base ≤ b) : ∀ k, v.ownBlock = some k → Tcr P base w k := by
  intro k hk
  rcases h.2 with ⟨rfl, _⟩ | ⟨g, cap, cur, rfl, hbg, hg, _⟩
  · cases hk
  · simp only [Value.ownBlock, Option.some.injEq] at hk
    subst hk
    exact ⟨Nat.le_trans hb hbg, _, _, _, hg, ht⟩
/-- One append to a row of type T. -/
theorem Mr.app {T : TypeId} {b sz n : Nat} {v : Value} {xs : List Value} (h : Mr P base a w) (ho : w.ownsRow b T sz v n xs) (hg : w.grownBy w' v.ownBlock) (ht : T ∈ P) (hb : base ≤ b) : Mr P base a w' := h.grown hg (own_tcr ho ht hb)
theorem own_mr {T : TypeId} {b sz n : Nat} {v : Value} {xs : List Value} (h : w.ownsRow b T sz v n xs) (hu : Mr P base w w') (ht : T ∉ P) : w'.ownsRow b T sz v n xs := own_mv h hu.mv ht
theorem Row.mr {g : Nat} {T : TypeId} {xs : List Value} (h : Row w g T xs) (hu : Mr P base w w') (ht : T ∉ P) : Row w' g T xs := h.mv hu.mv ht
theorem RdT.mr {T : TypeId} {A : Option Addr} {xs : List Value} (h : RdT w T A xs) (hu : Mr P base w w') (ht : T ∉ P) : RdT w' T A xs := h.mv hu.mv ht
theorem own_form {T : TypeId} {b sz n : Nat} {v : Value} {xs : List Value} (h : w.ownsRow b T sz v n xs) (hn : 0 < n) : ∃ g cap, v = .slice (some ⟨g, 0, none⟩) n cap ∧ n ≤ cap ∧ cap ≤ 9223372036854775807 ∧ b ≤ g ∧ (∀ i, w.cell? ⟨g, i, none⟩ = xs[i]? ∨ xs.length ≤ i) ∧ (∀ i, w.frozen? ⟨g, i, none⟩ = false) := by
  rcases h.2 with ⟨_, rfl⟩ | ⟨g, cap, cur, rfl, hb, hg, h1, h2, h3, h4⟩
  · omega
  · refine ⟨g, cap, rfl, h1, by unfold maxLen at h2; omega, hb, fun i => ?_, fun i => by simp [World.frozen?, hg]⟩
    have hl := h.1
    by_cases hi : i < xs.length
    · left
      rw [← h4, List.getElem?_take, if_pos (by omega)]
      simp [World.cell?, hg]
    · exact .inr (by omega)
end

/-- A map value that reads as the function f: from int to numbers of kind q. -/
def MapI (P : Program) (k e : TypeId) (q : IntKind) (base : Nat) (w : World) (r : Option Nat) (n : Nat) (f : Int → Option Int) : Prop :=
  match r with
  | none => ∀ i, f i = none
  | some b => base ≤ b ∧ ∃ D : DataW Unit, w.ownsMap P k (plainElem P e) b n D ∧ ∀ i : Int, (Lit.int .i64 i).wf = true → Maps.has D (.int .i64 i) = (f i).isSome ∧ ∀ s, f i = some s → D.atKey (.int .i64 i) (.lit (.int q 0)) = .lit (.int q s)

section
variable {P : Program} {k e : TypeId} {q : IntKind} {base : Nat} {w w' : World} {r : Option Nat} {n : Nat} {f : Int → Option Int}
theorem MapI.upd {S : Nat → Prop} (h : MapI P k e q base w r n f) (hu : Upd S w w') (hs : ∀ b es clock, w.heap[b]? = some (.map es clock) → ¬ S b) : MapI P k e q base w' r n f := by
  unfold MapI at h ⊢
  cases r with
  | none => exact h
  | some b =>
    obtain ⟨hb, D, ⟨es, clock, he, F, hn, hD⟩, hf⟩ := h
    exact ⟨hb, D, ⟨es, clock, (hu.block b (Array.getElem?_eq_some_iff.1 he).1 (hs b es clock he)).trans he, F, hn, hD⟩, hf⟩
theorem MapI.updNo (h : MapI P k e q base w r n f) (hu : Upd No w w') : MapI P k e q base w' r n f := h.upd hu (fun _ _ _ _ q => q)
theorem MapI.cell (h : MapI P k e q base w r n f) {g : Nat} {T : TypeId} {xs : List Value} (hg : Row w g T xs) (i : Nat) (u : Value) : MapI P k e q base (w.setCell ⟨g, i, none⟩ u) r n f := by
  refine h.upd (S := at1 g) ((Upd.refl _ _).set1 i u) (fun b es clock he e => ?_)
  unfold at1 at e; subst e
  unfold Row at hg; rw [hg] at he; cases he
/-- A row that is owned has turned: no map has. -/
theorem MapI.grown {T : TypeId} {b sz m : Nat} {v : Value} {xs : List Value} (h : MapI P k e q base w r n f) (ho : w.ownsRow b T sz v m xs) (hg : w.grownBy w' v.ownBlock) : MapI P k e q base w' r n f := by
  refine h.upd (S := fun i => some i = v.ownBlock) ((Upd.refl _ _).grown hg (fun i e _ => e.symm)) (fun i es clock he hi => ?_)
  rcases ho.2 with ⟨rfl, _⟩ | ⟨g, cap, cur, rfl, _, hg', _⟩
  · cases hi
  · simp only [Value.ownBlock, Option.some.injEq] at hi
    subst hi
    rw [hg'] at he; cases he
theorem MapI.mono (h : MapI P k e q base w r n f) {n' : Nat} (hn : n ≤ n') : MapI P k e q base w r n' f := by
  unfold MapI at h ⊢
  cases r with
  | none => exact h
  | some b => obtain ⟨hb, D, ho, hf⟩ := h; exact ⟨hb, D, ho.mono hn, hf⟩
theorem MapI.new (w : World) (b : Nat) (hb : b = w.heap.size) (hbase : base ≤ b) : MapI P k e q base (w.alloc (.map #[] 0)) (some b) 0 (fun _ => none) := by
  subst hb
  exact ⟨hbase, .map [], World.ownsMap_made w P k _, fun i _ => ⟨rfl, fun s h => by cases h⟩⟩

variable {t : TypeId} (hk : P.underlying k = some (.int .i64)) (ht : P.underlying t = some (.map k e)) (he : P.underlying e = some (.int q)) (hz : ∀ w, (zeroValue e).run P w = .ok (.int q 0) w)
include hk ht he hz
/-- 'v, ok := m[i]'. -/
theorem MapI.look_ok (h : MapI P k e q base w r n f) {i : Int} (hi : (Lit.int .i64 i).wf = true) : ∃ c, (Instr.lookup t (.map r) (.int .i64 i) true).run P w = .ok (.tuple #[.int q c, .bool (f i).isSome]) w ∧ ∀ s, f i = some s → c = s := by
  have hkey := Maps.keyOf_int_mk hk hi
  cases r with
  | none =>
    have e1 := Maps.look_nil (w := w) true (Maps.int_keyed hk) ht (hz w) hkey
    have e2 : f i = none := h i
    exact ⟨0, by rw [e2]; exact e1, fun s hs => by rw [e2] at hs; cases hs⟩
  | some b =>
    obtain ⟨hb, D, ho, hf⟩ := h
    have hw0 : (Lit.int q 0).wf = true := by cases q <;> decide
    obtain ⟨v, ps, hrun, hv⟩ := ho.look_ok (Maps.int_keyed hk) ht (hz w) (plainElem_int he hw0) hkey
    obtain ⟨c, rfl, hc, hwc⟩ := plainElem_int_inv he hv
    obtain ⟨f1, f2⟩ := hf i hi
    refine ⟨c, by rw [← f1]; exact hrun, fun s hs => ?_⟩
    have := f2 s hs
    simp only [Prod.mk.injEq] at hc
    rw [hc.1] at this
    injection this with this; injection this
theorem MapI.look (h : MapI P k e q base w r n f) {i : Int} (hi : (Lit.int .i64 i).wf = true) {s : Int} (hs : f i = some s) : (Instr.lookup t (.map r) (.int .i64 i) false).run P w = .ok (.int q s) w := by
  have hkey := Maps.keyOf_int_mk hk hi
  cases r with
  | none => have e2 : f i = none := h i; rw [e2] at hs; cases hs
  | some b =>
    obtain ⟨hb, D, ho, hf⟩ := h
    obtain ⟨c, hrun, hat, hwc⟩ := ho.lookup_int (Maps.int_keyed hk) ht he (hz w) hkey
    have := (hf i hi).2 s hs
    rw [hat] at this
    injection this with this; injection this with _ this
    rw [← this]; exact hrun
omit he hz in
/-- 'delete(m, i)'. -/
theorem MapI.drop (h : MapI P k e q base w r n f) {i : Int} (hi : (Lit.int .i64 i).wf = true) (ty : TypeId) :
    ∃ w', (Builtin.delete_ #[t, k] ty #[.map r, .int .i64 i]).run P w = .ok (.tuple #[]) w' ∧ MapI P k e q base w' r n (fun j => if j = i then none else f j) ∧ (w' = w ∨ ∃ b, r = some b ∧ base ≤ b ∧ w.mapTurned w' b) := by
  have hkey := Maps.keyOf_int_mk hk hi
  cases r with
  | none => exact ⟨w, Maps.drop_nil (Maps.int_keyed hk) ht hkey ty, (fun j => by have e2 : f j = none := h j; simp [e2] : MapI P k e q base w none n _), .inl rfl⟩
  | some b =>
    obtain ⟨hb, D, ho, hf⟩ := h
    obtain ⟨w', h1, h2, h3⟩ := ho.drop (Maps.int_keyed hk) ht hkey ty
    refine ⟨w', h1, ⟨hb, _, h2, fun j hj => ?_⟩, .inr ⟨b, rfl, hb, h3⟩⟩
    by_cases hji : j = i
    · subst hji
      simp only [if_true, Maps.has_del_same]
      exact ⟨rfl, fun s hs => by cases hs⟩
    · have hne : (Lit.int .i64 j) ≠ Lit.int .i64 i := fun e => hji (by injection e)
      simp only [if_neg hji]
      rw [Maps.has_del_other hne, Maps.atKey_del_other hne]
      exact hf j hj
omit hz in
/-- 'm[i] = s'. -/
theorem MapI.store {b : Nat} (h : MapI P k e q base w (some b) n f) (hn : n < maxLen) {i s : Int} (hi : (Lit.int .i64 i).wf = true) (hs : (Lit.int q s).wf = true) :
    ∃ w', (Instr.mapUpdate t (.map (some b)) (.int .i64 i) (.int q s)).run P w = .ok () w' ∧ MapI P k e q base w' (some b) (n + 1) (fun j => if j = i then some s else f j) ∧ base ≤ b ∧ w.mapTurned w' b := by
  have hkey := Maps.keyOf_int_mk hk hi
  obtain ⟨hb, D, ho, hf⟩ := h
  obtain ⟨w', h1, h2, h3⟩ := ho.store (Maps.int_keyed hk) ht hn hkey (plainElem_int he hs)
  refine ⟨w', h1, ⟨hb, _, h2, fun j hj => ?_⟩, hb, h3⟩
  by_cases hji : j = i
  · subst hji
    have hL : WideAt.IsKeyLit (.int .i64 j) := by first | exact trivial | simp [WideAt.IsKeyLit]
    simp only [if_true]
    rw [Maps.has_put_same ho.isMap hL]
    exact ⟨rfl, fun s' hs' => by injection hs' with hs'; subst hs'; exact Maps.atKey_put_same ho.isMap hL _ _⟩
  · have hne : (Lit.int .i64 j) ≠ Lit.int .i64 i := fun e => hji (by injection e)
    simp only [if_neg hji]
    rw [Maps.has_put_other hne, Maps.atKey_put_other hne]
    exact hf j hj
end

section
variable {P : Program} (w : World) {ops : Array Oper} {rest : List Oper} {o : Oper} {a : Act} {Q : Exit → Act → World → Prop} {k e t : TypeId} {q : IntKind} {base n : Nat} {f : Int → Option Int}
/-- 'delete(m, i)' at the operation. -/
theorem wpList_drop (hg : o.guard = none) (m x : Operand) (hop : o.op = Op.call { callee := Callee.builtin Builtin.delete, args := #[m, x], argTypes := #[t, k] })
    (hk : P.underlying k = some (.int .i64)) (ht : P.underlying t = some (.map k e)) {r : Option Nat} (hm : a.eval m = .map r) (h : MapI P k e q base w r n f) {i : Int} (hx : a.eval x = .int .i64 i) (hi : (Lit.int .i64 i).wf = true)
    (hK : ∀ w', MapI P k e q base w' r n (fun j => if j = i then none else f j) → (w' = w ∨ ∃ b, r = some b ∧ base ≤ b ∧ w.mapTurned w' b) → wpList P ops Q rest (a.put o.dst (.tuple #[])) w') :
    wpList P ops Q (o :: rest) a w := by
  refine wpList_plain hg fun K' hK' => ?_
  obtain ⟨w', hrun, r1, r2⟩ := h.drop hk ht hi o.type
  unfold Oper.wp
  simp [execOp, hop, resolve, invoke, builtin, hm, hx, hrun, Result.andThen]
  exact hK' _ _ (hK w' r1 r2)
/-- 'm[i] = s' at the operation. -/
theorem wpList_store (hg : o.guard = none) (m x v : Operand) (hop : o.op = Op.mapUpdate t m x v)
    (hk : P.underlying k = some (.int .i64)) (ht : P.underlying t = some (.map k e)) (he : P.underlying e = some (.int q)) {b : Nat} (hm : a.eval m = .map (some b)) (h : MapI P k e q base w (some b) n f) (hn : n < maxLen) {i s : Int} (hx : a.eval x = .int .i64 i) (hv : a.eval v = .int q s)
    (hi : (Lit.int .i64 i).wf = true) (hs : (Lit.int q s).wf = true)
    (hK : ∀ w', MapI P k e q base w' (some b) (n + 1) (fun j => if j = i then some s else f j) → base ≤ b → w.mapTurned w' b → wpList P ops Q rest (a.put o.dst undef) w') :
    wpList P ops Q (o :: rest) a w := by
  refine wpList_plain hg fun K' hK' => ?_
  obtain ⟨w', hrun, r1, r2, r3⟩ := h.store hk ht he hn hi hs
  unfold Oper.wp
  simp [execOp, hop, hm, hx, hv, hrun, Result.andThen]
  exact hK' _ _ (hK w' r1 r2 r3)
end

end Go.Proofs.Ytojlkjmdcoolnaa
