/-
  No cell of these rows narrows 'for every input' (looked for: loops, veiled, ifaces, maps, wideKeys, modest, calm, conditions, laid).
  DERIVED. THE GIVEN ROWS OF THIS SEAT. 3 by the template 'for every input the law returns true; each argument reads behind the call as it read before'; 0 by the template 'total and deterministic' (their statements: YtabboklejodbaaaTotals.lean).
  GIVEN WITH THE SEED: the statements are not yours to turn. If you find one false, say at which input.
  Laid BY PROGRAM, IN A SANDBOX (cutbox-rows.mjs): the forced cells as the released guide's own fill.sh prints them over the translation c01856e0172f46b6… (all of the seat's roots in one cut). By AI agents, Wed Nov 11 2026. No macro, syntax, notation, axiom, sorry.
-/
import Derived.Test.YtabboklejodbaaaChecked
import GoSem.Claim
import GoSem.ClaimJoined
import GoSem.ClaimMapViews
import Derived.JoinedTies
import Derived.KernelRfl
namespace Go.Proofs.Ytabboklejodbaaa
/- THE CELL 'sum', in the pinned program and in every row, IS THE sha256 OF THE DUMP (.gsa) THAT YtabboklejodbaaaProg.lean LOADS. Nothing in Lean hashes anything: it is a label: what it is worth is what the hold of that sum in a sandbox is worth. -/
noncomputable def Try.pinned : Pinned := { name := "ytabboklejodbaaa", sum := "c01856e0172f46b69bcacea9fc76acc729953ab4046872497e133bccf7fc6986", checked := Try.checked }
namespace Rows
def none {H : Type} : Left H := { results := [], args := [] }

/-- 'remontoirelaw33.BoundPlays': WHATEVER THE INPUT: true; the input reads as it did. -/
def boundPlaysSpec : ChangeSpec := { name := "boundPlays", fn := fun _ => fun
  | [d] => { results := [.lit (.bool true)], args := [d] }
  | _ => none }
def boundPlaysRow : OpenClaim := { program := "ytabboklejodbaaa", sum := "c01856e0172f46b69bcacea9fc76acc729953ab4046872497e133bccf7fc6986", func := "remontoire/remontoirelaw33.BoundPlays", spec := "boundPlays", inPlace := ["math/bits.Add64"], apart := false }
def BoundPlaysSaid : Prop := boundPlaysRow.holds Try.pinned (OpenSpec.ofChange boundPlaysSpec)

/-- ITS FALSE NEIGHBOUR: 'it returns false'. Refute it at one input. -/
def boundPlaysWrong : ChangeSpec := { name := "boundPlays", fn := fun _ => fun
  | [d] => { results := [.lit (.bool false)], args := [d] }
  | _ => none }
def BoundPlaysWrongFalsely : Prop := boundPlaysRow.holds Try.pinned (OpenSpec.ofChange boundPlaysWrong)

/-- 'remontoirelaw33.BoundEarliest': WHATEVER THE INPUT: true; the input reads as it did. -/
def boundEarliestSpec : ChangeSpec := { name := "boundEarliest", fn := fun _ => fun
  | [d1, d2] => { results := [.lit (.bool true)], args := [d1, d2] }
  | _ => none }
def boundEarliestRow : OpenClaim := { program := "ytabboklejodbaaa", sum := "c01856e0172f46b69bcacea9fc76acc729953ab4046872497e133bccf7fc6986", func := "remontoire/remontoirelaw33.BoundEarliest", spec := "boundEarliest", inPlace := ["math/bits.Add64"], apart := false }
def BoundEarliestSaid : Prop := boundEarliestRow.holds Try.pinned (OpenSpec.ofChange boundEarliestSpec)

/-- ITS FALSE NEIGHBOUR: 'it returns false'. Refute it at one input. -/
def boundEarliestWrong : ChangeSpec := { name := "boundEarliest", fn := fun _ => fun
  | [d1, d2] => { results := [.lit (.bool false)], args := [d1, d2] }
  | _ => none }
def BoundEarliestWrongFalsely : Prop := boundEarliestRow.holds Try.pinned (OpenSpec.ofChange boundEarliestWrong)

/-- 'remontoirelaw33.BoundFixed': WHATEVER THE INPUT: true; the input reads as it did. -/
def boundFixedSpec : ChangeSpec := { name := "boundFixed", fn := fun _ => fun
  | [d] => { results := [.lit (.bool true)], args := [d] }
  | _ => none }
def boundFixedRow : OpenClaim := { program := "ytabboklejodbaaa", sum := "c01856e0172f46b69bcacea9fc76acc729953ab4046872497e133bccf7fc6986", func := "remontoire/remontoirelaw33.BoundFixed", spec := "boundFixed", inPlace := ["math/bits.Add64", "internal/reflectlite.ValueOf", "internal/reflectlite.Swapper", "(internal/reflectlite.Value).Len"], unfollowed := true, recurses := true, apart := false }
def BoundFixedSaid : Prop := boundFixedRow.holds Try.pinned (OpenSpec.ofChange boundFixedSpec)

/-- ITS FALSE NEIGHBOUR: 'it returns false'. Refute it at one input. -/
def boundFixedWrong : ChangeSpec := { name := "boundFixed", fn := fun _ => fun
  | [d] => { results := [.lit (.bool false)], args := [d] }
  | _ => none }
def BoundFixedWrongFalsely : Prop := boundFixedRow.holds Try.pinned (OpenSpec.ofChange boundFixedWrong)

/- THE SECOND FORM. 'bulk': how many values and letters a reading holds, each counted each time it is reached (what is shared counts as often as it is met; a slice's spare places count too). A statement '..UptoSaid' is the law's where the arguments, and the package variables that the reading takes, are together of bulk at most 1048576: NARROWER than '..Said'. Prove '..Said' where nothing that the law and all that it calls make is longer than what came in: it says more and counts as full. Else prove '..UptoSaid'. A law counts once. -/
mutual
def uptoBulk {H : Type} : DataW H → Nat
  | .lit (.string bytes) => bytes.length + 1
  | .lit _ => 1
  | .nil => 1
  | .ptr d => uptoBulk d + 1
  | .slice elems spare => uptoBulkAll elems + uptoBulkAll spare + 1
  | .agg parts => uptoBulkAll parts + 1
  | .iface _ d => uptoBulk d + 1
  | .map entries => uptoBulkEntries entries + 1
  | .held _ => 1
def uptoBulkAll {H : Type} : List (DataW H) → Nat
  | [] => 0
  | d :: r => uptoBulk d + uptoBulkAll r
def uptoBulkEntries {H : Type} : List (Lit × DataW H) → Nat
  | [] => 0
  | x :: r => uptoBulkEntry x + uptoBulkEntries r
def uptoBulkEntry {H : Type} : Lit × DataW H → Nat
  | (.string bytes, d) => bytes.length + uptoBulk d + 1
  | (_, d) => uptoBulk d + 1
 end
def uptoSmall : (H : Type) → List (DataW H) → Bool := fun _ ds => decide (uptoBulkAll ds ≤ 1048576)
def OpenSpec.upto (s : _root_.Go.ChangeSpec) : _root_.Go.OpenSpec := { _root_.Go.OpenSpec.ofChange s with cond := some uptoSmall }

/-- 'remontoirelaw33.BoundPlays', WHERE WHAT IT READS IS OF BULK AT MOST 1048576: true; the input reads as it did. -/
def boundPlaysUptoRow : OpenClaim := { program := "ytabboklejodbaaa", sum := "c01856e0172f46b69bcacea9fc76acc729953ab4046872497e133bccf7fc6986", func := "remontoire/remontoirelaw33.BoundPlays", spec := "boundPlays", inPlace := ["math/bits.Add64"], apart := false, narrowed := true }
def BoundPlaysUptoSaid : Prop := boundPlaysUptoRow.holds Try.pinned (OpenSpec.upto boundPlaysSpec)

/-- 'remontoirelaw33.BoundEarliest', WHERE WHAT IT READS IS OF BULK AT MOST 1048576: true; the input reads as it did. -/
def boundEarliestUptoRow : OpenClaim := { program := "ytabboklejodbaaa", sum := "c01856e0172f46b69bcacea9fc76acc729953ab4046872497e133bccf7fc6986", func := "remontoire/remontoirelaw33.BoundEarliest", spec := "boundEarliest", inPlace := ["math/bits.Add64"], apart := false, narrowed := true }
def BoundEarliestUptoSaid : Prop := boundEarliestUptoRow.holds Try.pinned (OpenSpec.upto boundEarliestSpec)

/-- 'remontoirelaw33.BoundFixed', WHERE WHAT IT READS IS OF BULK AT MOST 1048576: true; the input reads as it did. -/
def boundFixedUptoRow : OpenClaim := { program := "ytabboklejodbaaa", sum := "c01856e0172f46b69bcacea9fc76acc729953ab4046872497e133bccf7fc6986", func := "remontoire/remontoirelaw33.BoundFixed", spec := "boundFixed", inPlace := ["math/bits.Add64", "internal/reflectlite.ValueOf", "internal/reflectlite.Swapper", "(internal/reflectlite.Value).Len"], unfollowed := true, recurses := true, apart := false, narrowed := true }
def BoundFixedUptoSaid : Prop := boundFixedUptoRow.holds Try.pinned (OpenSpec.upto boundFixedSpec)

end Rows
end Go.Proofs.Ytabboklejodbaaa
