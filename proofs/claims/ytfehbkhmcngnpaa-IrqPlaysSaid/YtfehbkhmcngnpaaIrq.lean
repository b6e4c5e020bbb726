/- What the calls of package irq do, and answer: over a list of lines. -/
import Derived.Test.YtfehbkhmcngnpaaLib
namespace Go.Proofs.Ytfehbkhmcngnpaa
open Go.RowKit

structure Ln where
  r : Bool
  m : Bool
  s : Bool
  d : Int
def Ln.cells (x : Ln) : List Value := [.bool x.r, .bool x.m, .bool x.s, .int .i64 x.d]

def raiseL (l : List Ln) (i : Int) : List Ln × Int :=
  if 0 ≤ i then
    match l[i.toNat]? with
    | none => (l, 1)
    | some x => if x.r then (l.set i.toNat { x with d := wrap64 (x.d + 1) }, 7) else (l.set i.toNat { x with r := true }, 0)
  else (l, 1)
def maskL (l : List Ln) (i : Int) (h : Bool) : List Ln × Int :=
  if 0 ≤ i then
    match l[i.toNat]? with
    | none => (l, 1)
    | some x => (l.set i.toNat { x with m := h }, 0)
  else (l, 1)
def ackL (l : List Ln) (i : Int) : List Ln × Int :=
  if 0 ≤ i then
    match l[i.toNat]? with
    | none => (l, 1)
    | some x => if x.s then (l.set i.toNat { x with s := false }, 0) else (l, 25)
  else (l, 1)
def Ln.up (x : Ln) : Bool := x.r && !x.m && !x.s
/-- The first line from place k on that may be told. -/
def firstUp (l : List Ln) : Option Nat := l.findIdx? Ln.up
def nextL (l : List Ln) : List Ln × Option Nat :=
  match firstUp l with
  | none => (l, none)
  | some k => (match l[k]? with | none => l | some x => l.set k { x with r := false, s := true }, some k)

/-- The controller at block b, its lines at block g. -/
structure Ctl (w : World) (b g : Nat) (l : List Ln) : Prop where
  top : Row w b 53 [.slice (some ⟨g, 0, none⟩) l.length l.length]
  rows : Row w g 39 (l.flatMap Ln.cells)
  most : l.length ≤ 8

theorem Ctl.upd {S : Nat → Prop} {w w' : World} {b g : Nat} {l : List Ln} (h : Ctl w b g l) (hu : Upd S w w') (hb : ¬ S b) (hg : ¬ S g) : Ctl w' b g l :=
  ⟨h.top.upd hu hb, h.rows.upd hu hg, h.most⟩
theorem Ctl.updNo {w w' : World} {b g : Nat} {l : List Ln} (h : Ctl w b g l) (hu : Upd No w w') : Ctl w' b g l := h.upd hu (fun q => q) (fun q => q)
theorem Ctl.ne {w : World} {b g : Nat} {l : List Ln} (h : Ctl w b g l) : b ≠ g := h.top.ne h.rows (by decide)

theorem Ctl.far {w : World} {b g : Nat} {l : List Ln} (h : Ctl w b g l) {p : Addr} (hb : p.block ≠ b) (hg : p.block ≠ g) (u : Value) : Ctl (w.setCell p u) b g l := ⟨h.top.far (fun e => hb e.symm) u, h.rows.far (fun e => hg e.symm) u, h.most⟩
/-- One cell of a line is stored. -/
theorem Ctl.set {w : World} {b g : Nat} {l : List Ln} (h : Ctl w b g l) {i : Nat} {x y : Ln} (hx : l[i]? = some x) {j : Nat} {u : Value} (hj : j < 4) (hy : y.cells = x.cells.set j u) :
    Ctl (w.setCell ⟨g, i * 4 + j, none⟩ u) b g (l.set i y) :=
  ⟨(h.top.far h.ne u).same (by simp), (h.rows.set _ u).same (flat_set Ln.cells 4 (fun _ => rfl) l i x y j u hx hj hy), by simpa using h.most⟩

theorem irqLine0 (b g : Nat) (l : List Ln) (i : Int) (w : World) (h : Ctl w b g l) (hi : ¬ (0 ≤ i ∧ i < l.length)) :
    Calls Try.prog 20 #[.pointer (some ⟨b, 0, none⟩), .int .i64 i] w fun e w' => e = .returned (.pointer none) ∧ w = w' := by
  have c0 := h.top.cell (i := 0) rfl
  have hm := h.most
  clear h
  by_cases h0 : i < 0
  all_goals
    go_enter Try.func20, Try.ntmps20
    go_wp2
    go_ret
    exact ⟨rfl, rfl⟩
theorem irqLine (b g : Nat) (l : List Ln) (i : Int) (w : World) (h : Ctl w b g l) (h0 : 0 ≤ i) (h1 : i < l.length) :
    Calls Try.prog 20 #[.pointer (some ⟨b, 0, none⟩), .int .i64 i] w fun e w' => e = .returned (.pointer (some ⟨g, i.toNat * 4, none⟩)) ∧ w = w' := by
  have c0 := h.top.cell (i := 0) rfl
  have hm := h.most
  clear h
  go_enter Try.func20, Try.ntmps20
  go_wp2
  go_ret
  exact ⟨rfl, rfl⟩
theorem irqLineN (i : Int) (w : World) :
    Calls Try.prog 20 #[.pointer none, .int .i64 i] w fun e w' => e = .returned (.pointer none) ∧ w = w' := by
  go_enter Try.func20, Try.ntmps20
  go_wp2
  go_ret
  exact ⟨rfl, rfl⟩

end Go.Proofs.Ytfehbkhmcngnpaa
