/- ServerMost answers true, whatever it is given, and its arguments read as they did. No condition. -/
import Derived.Test.YtojlkjmdcoolnaaRows
import Derived.Test.YtojlkjmdcoolnaaSvW
import Derived.Test.YtojlkjmdcoolnaaOpen
import Derived.Lib.SmallJoins
import Derived.Carry
namespace Go.Proofs.Ytojlkjmdcoolnaa.serverMost
open Go.ChangeShapes Go.WideShapes Go.ChangeAt Go.RowKit Go.Joins
open Go.Proofs.Ytojlkjmdcoolnaa

theorem own : ownKnob Try.prog.godebug = none := by kernel_rfl
theorem laidOut : laidOutB Try.prog = true := by kernel_rfl

set_option maxRecDepth 100000 in
theorem lifted (os : Os) (started : os.Started) (H : Type) (enc : TypeId × Value → H) :
    ReturnsInHanded {} Try.checked os 3 .any (Rows.serverMostSpec.pre6 enc Try.prog Try.f3 Rows.serverMostRow.domain false) (Rows.serverMostSpec.post enc Try.prog Try.f3 false true false false) := by
  refine returnsInHanded_of_change (C := Try.checked) own started (by kernel_rfl) Try.func3
    (ChangeSpec.witness6 (enc := enc) (C := Try.checked) false ⟨#[], #[.agg #[.int .i64 0, .int .i64 0], .slice none 0 0, .slice none 0 0], []⟩ 8 (by kernel_rfl) (by kernel_rfl) (by kernel_rfl) (by kernel_rfl)) ?_
  intro W base args ds gs before hval0 hW hcnd _
  have hval : ∀ (j : Nat) t v, Try.f3.params[j]? = some t → args[j]? = some v → Value.okWide Try.prog W .any base t v := hval0
  have hW' := hW
  obtain ⟨p, q, hA0, hV, rfl, hfz, hnd⟩ := hW
  have hA : DataW.TrodAll enc Try.prog W 0 (fun _ => true) true Try.f3.params.toList args.toList ds p := hA0
  rw [Try.params3] at hA hval
  obtain ⟨v0, vs0, d0, ds0, p0, q0, hargs, rfl, rfl, h0, r0⟩ := trodAll_cons hA
  obtain ⟨v1, vs1, d1, ds1, p1, q1, rfl, rfl, rfl, h1, r1⟩ := trodAll_cons r0
  obtain ⟨v2, vs2, d2, ds2, p2, q2, rfl, rfl, rfl, h2, r2⟩ := trodAll_cons r1
  obtain ⟨rfl, rfl, rfl⟩ := trodAll_nil r2
  obtain rfl : args = #[v0, v1, v2] := by cases args; simp_all
  obtain ⟨rfl, rfl⟩ := trodVars_none hV
  have k0 := h0
  have k1 := h1
  have k2 := h2
  have lt0 : ∀ x ∈ p0, x.block < W.heap.size := by obtain ⟨m, hm⟩ := k0; exact DataW.trod_lt m _ _ _ hm
  have lt1 : ∀ x ∈ p1, x.block < W.heap.size := by obtain ⟨m, hm⟩ := k1; exact DataW.trod_lt m _ _ _ hm
  have lt2 : ∀ x ∈ p2, x.block < W.heap.size := by obtain ⟨m, hm⟩ := k2; exact DataW.trod_lt m _ _ _ hm
  obtain ⟨bb, pp, rfl⟩ : ∃ a b : Int, v0 = .agg #[.int .i64 a, .int .i64 b] := by
    obtain ⟨c0, c1, y0, y1, m, rfl, _, _, g0, g1⟩ := open_agg2 Try.underlying23 (by kernel_rfl) (by kernel_rfl) (hval 0 _ v0 rfl rfl) h0
    obtain ⟨a, e0, _, _⟩ := DataW.trod_int Try.underlying3 g0
    obtain ⟨b, e1, _, _⟩ := DataW.trod_int Try.underlying3 g1
    simp at e0 e1
    subst e0 e1
    exact ⟨a, b, rfl⟩
  obtain ⟨A1, len1, cap1, l1, rfl, hn1, _hle1, hcap1, hrd1, hq1⟩ : ∃ (A : Option Addr) (len cap : Nat) (l : List Bool), v1 = .slice A len cap ∧ len = l.length ∧ len ≤ cap ∧ cap ≤ 9223372036854775807 ∧ Rd W A (l.flatMap (fun b : Bool => [Value.bool b])) ∧ ∀ a, a ∈ l → (fun _ => True) a := by
    obtain ⟨fuel, hf⟩ := h1
    obtain ⟨A, len, cap, l, hcs, e1, e2, e3, e4, e5⟩ := open_list (ks := [.bool]) (n := 20) (fun b : Bool => [Value.bool b]) (fun _ => True) Try.underlying24 (by kernel_rfl) (by kernel_rfl) (fun _ => rfl)
      (fun vs hg => by obtain ⟨a, rfl, ⟨x, rfl⟩⟩ := good1 hg; exact ⟨x, rfl, trivial⟩) hf
    obtain ⟨a', l', c', rfl⟩ := okWide_slice Try.underlying24 (hval 1 _ v1 rfl rfl)
    simp [Value.cells] at hcs
    obtain ⟨rfl, rfl, rfl⟩ := hcs
    exact ⟨_, _, _, l, rfl, e1, e2, e3, e4, e5⟩
  obtain ⟨A2, len2, cap2, l2, rfl, hn2, _hle2, hcap2, hrd2, hq2⟩ : ∃ (A : Option Addr) (len cap : Nat) (l : List Bool), v2 = .slice A len cap ∧ len = l.length ∧ len ≤ cap ∧ cap ≤ 9223372036854775807 ∧ Rd W A (l.flatMap (fun b : Bool => [Value.bool b])) ∧ ∀ a, a ∈ l → (fun _ => True) a := by
    obtain ⟨fuel, hf⟩ := h2
    obtain ⟨A, len, cap, l, hcs, e1, e2, e3, e4, e5⟩ := open_list (ks := [.bool]) (n := 20) (fun b : Bool => [Value.bool b]) (fun _ => True) Try.underlying24 (by kernel_rfl) (by kernel_rfl) (fun _ => rfl)
      (fun vs hg => by obtain ⟨a, rfl, ⟨x, rfl⟩⟩ := good1 hg; exact ⟨x, rfl, trivial⟩) hf
    obtain ⟨a', l', c', rfl⟩ := okWide_slice Try.underlying24 (hval 2 _ v2 rfl rfl)
    simp [Value.cells] at hcs
    obtain ⟨rfl, rfl, rfl⟩ := hcs
    exact ⟨_, _, _, l, rfl, e1, e2, e3, e4, e5⟩
  clear hA0 hval0
  refine (lawServerMost bb pp A1 len1 cap1 l1 hn1 (by omega) A2 len2 cap2 l2 hn2 (by omega) W (by rw [← flat_bool]; exact hrd1) (by rw [← flat_bool]; exact hrd2)).mono fun e W' ⟨he, hu⟩ => ?_
  subst he
  have bel := hu.below
  exact ⟨_, rfl, _, _, _, [], _, [], hW', trodAll_mk1 (shut_bool Try.underlying4 _), (trodAll_cons_mk (Below.trod laidOut (by kernel_rfl) (of_decide_eq_true (by kernel_rfl)) k0 bel lt0) (trodAll_cons_mk (Below.trod laidOut (by kernel_rfl) (of_decide_eq_true (by kernel_rfl)) k1 bel lt1) (trodAll_cons_mk (Below.trod laidOut (by kernel_rfl) (of_decide_eq_true (by kernel_rfl)) k2 bel lt2) trodAll_mk0))), rfl, bel.frame _, fun h => by cases h⟩

theorem over : Rows.serverMostRow.holds Try.pinned (OpenSpec.ofChange Rows.serverMostSpec) :=
  OpenClaim.holds_of_wide 3 Try.f3 rfl rfl rfl rfl rfl rfl rfl ⟨rfl, rfl, rfl, rfl, rfl⟩ rfl rfl rfl rfl rfl (by kernel_rfl) Try.func3 (by kernel_rfl)
    (of_decide_eq_true (by kernel_rfl)) (by unfold Func.isWrapper; first | (rw [if_pos (by decide +kernel)]; kernel_rfl) | (rw [if_neg (by decide +kernel)]; exact ⟨rfl, rfl⟩))
    (fun os started H enc _ => lifted os started H enc)

theorem proved : Rows.ServerMostSaid := over
#print axioms proved
end Go.Proofs.Ytojlkjmdcoolnaa.serverMost
