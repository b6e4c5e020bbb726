/- supply's byUp, Right and Wait; tasks.stretch; ref04.Right. -/
import Derived.Test.YtojlkjmdcoolnaaLib
namespace Go.Proofs.Ytojlkjmdcoolnaa
open Go.RowKit

/-- The quotient, rounded up, of a number of 0 or more by one above 0. -/
def cdiv (a b : Int) : Int := if a % b = 0 then a / b else a / b + 1

def resB (b p : Int) : Bool := decide (1 ≤ b ∧ b ≤ p ∧ p ≤ 1048576)
theorem resB_iff (b p : Int) : resB b p = true ↔ (1 ≤ b ∧ b ≤ p ∧ p ≤ 1048576) := by simp [resB]
theorem resB_not {b p : Int} (h : ¬ (1 ≤ b ∧ b ≤ p ∧ p ≤ 1048576)) : resB b p = false := by
  cases hk : resB b p with
  | false => rfl
  | true => exact (h ((resB_iff b p).1 hk)).elim

theorem byUp (a b : Int) (w : World) (ha : 0 ≤ a) (ha2 : a ≤ 1000000000000000000) (hb : 1 ≤ b) :
    Calls Try.prog 18 #[.int .i64 a, .int .i64 b] w fun e w' => e = .returned (.int .i64 (cdiv a b)) ∧ Upd No w w' := by
  have hd : a / b ≤ a := Int.ediv_le_self b ha
  have hd0 : 0 ≤ a / b := Int.ediv_nonneg ha (by omega)
  by_cases hm : a % b = 0
  · have hmb : (a % b != 0) = false := by simp [hm]
    have HM := Lib.hid hm; clear hm
    go_enter Try.func18, Try.ntmps18
    go_wp2
    go_ret
    exact ⟨ret_int (by simp [cdiv, HM.out]), Upd.refl _ _⟩
  · have hmb : (a % b != 0) = true := by simp [hm]
    have HM := Lib.hid hm; clear hm
    go_enter Try.func18, Try.ntmps18
    go_wp2
    go_ret
    exact ⟨ret_int (by simp [cdiv, HM.out]), Upd.refl _ _⟩

theorem resRight (b p : Int) (w : World) : Calls Try.prog 13 #[.agg #[.int .i64 b, .int .i64 p]] w fun e w' => e = .returned (.bool (resB b p)) ∧ Upd No w w' := by
  by_cases h1 : 1 ≤ b <;> by_cases h2 : b ≤ p
  all_goals
    go_enter Try.func13, Try.ntmps13
    go_wp2
    go_ret
    refine ⟨ret_bool ?_, (Upd.refl _ _).alloc _⟩
    first | (rw [resB_not (by omega)]; done) | (simp only [resB, h1, h2, true_and]) | skip

theorem ref04Right (b p : Int) (w : World) : Calls Try.prog 5 #[.agg #[.int .i64 b, .int .i64 p]] w fun e w' => e = .returned (.bool (resB b p)) ∧ Upd No w w' := by
  by_cases h1 : 1 ≤ b <;> by_cases h2 : b ≤ p
  all_goals
    go_enter Try.func5, Try.ntmps5
    go_wp2
    go_ret
    refine ⟨ret_bool ?_, (Upd.refl _ _).alloc _⟩
    first | (rw [resB_not (by omega)]; done) | (simp only [resB, h1, h2, true_and]) | skip

def stretchB (x : Int) : Bool := decide (0 ≤ x ∧ x ≤ 1048576)


/-- What Wait answers of a reservation that may be: (ticks, ok). -/
def waitP (b p need : Int) : Int × Bool :=
  if need < 0 then (0, false) else if need = 0 then (0, true)
  else if 1048576 ≤ cdiv need b then (0, false) else if 1048576 < (cdiv need b + 1) * p then (0, false) else ((cdiv need b + 1) * p, true)


end Go.Proofs.Ytojlkjmdcoolnaa
