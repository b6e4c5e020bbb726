/- BoundEarliest answers true, whatever it is given, and its arguments read as they did. No condition. -/
import Derived.Test.YtabboklejodbaaaRows
import Derived.Test.YtabboklejodbaaaBeW
import Derived.Test.YtabboklejodbaaaOpen
import Derived.Lib.SmallJoins
import Derived.Carry
namespace Go.Proofs.Ytabboklejodbaaa.boundEarliest
open Go.ChangeShapes Go.WideShapes Go.ChangeAt Go.RowKit Go.Joins
open Go.Proofs.Ytabboklejodbaaa

theorem own : ownKnob Try.prog.godebug = none := by kernel_rfl
theorem laidOut : laidOutB Try.prog = true := by kernel_rfl

set_option maxRecDepth 100000 in
theorem lifted (os : Os) (started : os.Started) (H : Type) (enc : TypeId × Value → H) :
    ReturnsInHanded {} Try.checked os 4 .any (Rows.boundEarliestSpec.pre6 enc Try.prog Try.f4 Rows.boundEarliestRow.domain false) (Rows.boundEarliestSpec.post enc Try.prog Try.f4 false true false false) := by
  refine returnsInHanded_of_change (C := Try.checked) own started (by kernel_rfl) Try.func4
    (ChangeSpec.witness6 (enc := enc) (C := Try.checked) false ⟨#[], #[.slice none 0 0, .int .u16 0], []⟩ 8 (by kernel_rfl) (by kernel_rfl) (by kernel_rfl) (by kernel_rfl)) ?_
  intro W base args ds gs before hval0 hW hcnd _
  have hval : ∀ (j : Nat) t v, Try.f4.params[j]? = some t → args[j]? = some v → Value.okWide Try.prog W .any base t v := hval0
  have hW' := hW
  obtain ⟨p, q, hA0, hV, rfl, hfz, hnd⟩ := hW
  have hA : DataW.TrodAll enc Try.prog W 0 (fun _ => true) true Try.f4.params.toList args.toList ds p := hA0
  rw [Try.params4] at hA hval
  obtain ⟨v0, vs0, d0, ds0, p0, q0, hargs, rfl, rfl, h0, r0⟩ := trodAll_cons hA
  obtain ⟨v1, vs1, d1, ds1, p1, q1, rfl, rfl, rfl, h1, r1⟩ := trodAll_cons r0
  obtain ⟨rfl, rfl, rfl⟩ := trodAll_nil r1
  obtain rfl : args = #[v0, v1] := by cases args; simp_all
  obtain ⟨rfl, rfl⟩ := trodVars_none hV
  have k0 := h0
  have k1 := h1
  have lt0 : ∀ x ∈ p0, x.block < W.heap.size := by obtain ⟨m, hm⟩ := k0; exact DataW.trod_lt m _ _ _ hm
  have lt1 : ∀ x ∈ p1, x.block < W.heap.size := by obtain ⟨m, hm⟩ := k1; exact DataW.trod_lt m _ _ _ hm
  obtain ⟨A1, len1, cap1, l1, rfl, hn1, _hle1, hcap1, hrd1, hq1⟩ : ∃ (A : Option Addr) (len cap : Nat) (l : List Tk), v0 = .slice A len cap ∧ len = l.length ∧ len ≤ cap ∧ cap ≤ 9223372036854775807 ∧ Rd W A (l.flatMap tcells) ∧ ∀ a, a ∈ l → (fun _ => True) a := by
    obtain ⟨fuel, hf⟩ := h0
    obtain ⟨A, len, cap, l, hcs, e1, e2, e3, e4, e5⟩ := open_list (ks := [.int .i64, .int .i64, .int .i64]) (n := 20) tcells (fun _ => True) Try.underlying22 (by kernel_rfl) (by kernel_rfl) (fun _ => rfl)
      (fun vs hg => by obtain ⟨a, b, c, rfl, ⟨x, rfl, _⟩, ⟨y, rfl, _⟩, ⟨z, rfl, _⟩⟩ := good3 hg; exact ⟨⟨x, y, z⟩, rfl, trivial⟩) hf
    obtain ⟨a', l', c', rfl⟩ := okWide_slice Try.underlying22 (hval 0 _ v0 rfl rfl)
    simp [Value.cells] at hcs
    obtain ⟨rfl, rfl, rfl⟩ := hcs
    exact ⟨_, _, _, l, rfl, e1, e2, e3, e4, e5⟩
  obtain ⟨u, rfl, rfl, rfl, w1⟩ := open_int Try.underlying25 (hval 1 _ v1 rfl rfl) h1
  clear hA0 hval0
  refine (lawBoundEarliest A1 len1 cap1 l1 hn1 _hle1 (by omega) u (wfu16 w1).1 (wfu16 w1).2 W hrd1).mono fun e W' ⟨he, hu⟩ => ?_
  subst he
  have bel := hu.below
  exact ⟨_, rfl, _, _, _, [], _, [], hW', trodAll_mk1 (shut_bool Try.underlying4 _), (trodAll_cons_mk (Below.trod laidOut (by kernel_rfl) (of_decide_eq_true (by kernel_rfl)) k0 bel lt0) (trodAll_cons_mk (Below.trod laidOut (by kernel_rfl) (of_decide_eq_true (by kernel_rfl)) k1 bel lt1) trodAll_mk0)), rfl, bel.frame _, fun h => by cases h⟩

theorem over : Rows.boundEarliestRow.holds Try.pinned (OpenSpec.ofChange Rows.boundEarliestSpec) :=
  OpenClaim.holds_of_wide 4 Try.f4 rfl rfl rfl rfl rfl rfl rfl ⟨rfl, rfl, rfl, rfl, rfl⟩ rfl rfl rfl rfl rfl (by kernel_rfl) Try.func4 (by kernel_rfl)
    (of_decide_eq_true (by kernel_rfl)) (by unfold Func.isWrapper; first | (rw [if_pos (by decide +kernel)]; kernel_rfl) | (rw [if_neg (by decide +kernel)]; exact ⟨rfl, rfl⟩))
    (fun os started H enc _ => lifted os started H enc)

theorem proved : Rows.BoundEarliestSaid := over
#print axioms proved
end Go.Proofs.Ytabboklejodbaaa.boundEarliest
