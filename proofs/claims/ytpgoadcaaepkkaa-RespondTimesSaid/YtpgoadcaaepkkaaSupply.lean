/- supply's byUp, Right and Wait; tasks.stretch; ref04.Right. -/
import Derived.Test.YtpgoadcaaepkkaaLib
namespace Go.Proofs.Ytpgoadcaaepkkaa
open Go.RowKit

/-- The quotient, rounded up, of a number of 0 or more by one above 0. -/
def cdiv (a b : Int) : Int := if a % b = 0 then a / b else a / b + 1

def resB (b p : Int) : Bool := decide (1 ≤ b ∧ b ≤ p ∧ p ≤ 1048576)
theorem resB_iff (b p : Int) : resB b p = true ↔ (1 ≤ b ∧ b ≤ p ∧ p ≤ 1048576) := by simp [resB]
theorem resB_not {b p : Int} (h : ¬ (1 ≤ b ∧ b ≤ p ∧ p ≤ 1048576)) : resB b p = false := by
  cases hk : resB b p with
  | false => rfl
  | true => exact (h ((resB_iff b p).1 hk)).elim

theorem byUp (a b : Int) (w : World) (ha : 0 ≤ a) (ha2 : a ≤ 1000000000000000000) (hb : 1 ≤ b) :
    Calls Try.prog 18 #[.int .i64 a, .int .i64 b] w fun e w' => e = .returned (.int .i64 (cdiv a b)) ∧ Upd No w w' := by
  have hd : a / b ≤ a := Int.ediv_le_self b ha
  have hd0 : 0 ≤ a / b := Int.ediv_nonneg ha (by omega)
  by_cases hm : a % b = 0
  · have hmb : (a % b != 0) = false := by simp [hm]
    have HM := Lib.hid hm; clear hm
    go_enter Try.func18, Try.ntmps18
    go_wp2
    go_ret
    exact ⟨ret_int (by simp [cdiv, HM.out]), Upd.refl _ _⟩
  · have hmb : (a % b != 0) = true := by simp [hm]
    have HM := Lib.hid hm; clear hm
    go_enter Try.func18, Try.ntmps18
    go_wp2
    go_ret
    exact ⟨ret_int (by simp [cdiv, HM.out]), Upd.refl _ _⟩

theorem resRight (b p : Int) (w : World) : Calls Try.prog 13 #[.agg #[.int .i64 b, .int .i64 p]] w fun e w' => e = .returned (.bool (resB b p)) ∧ Upd No w w' := by
  by_cases h1 : 1 ≤ b <;> by_cases h2 : b ≤ p
  all_goals
    go_enter Try.func13, Try.ntmps13
    go_wp2
    go_ret
    refine ⟨ret_bool ?_, (Upd.refl _ _).alloc _⟩
    first | (rw [resB_not (by omega)]; done) | (simp only [resB, h1, h2, true_and]) | skip

theorem ref04Right (b p : Int) (w : World) : Calls Try.prog 9 #[.agg #[.int .i64 b, .int .i64 p]] w fun e w' => e = .returned (.bool (resB b p)) ∧ Upd No w w' := by
  by_cases h1 : 1 ≤ b <;> by_cases h2 : b ≤ p
  all_goals
    go_enter Try.func9, Try.ntmps9
    go_wp2
    go_ret
    refine ⟨ret_bool ?_, (Upd.refl _ _).alloc _⟩
    first | (rw [resB_not (by omega)]; done) | (simp only [resB, h1, h2, true_and]) | skip

def stretchB (x : Int) : Bool := decide (0 ≤ x ∧ x ≤ 1048576)

theorem tasksStretch (x : Int) (w : World) : Calls Try.prog 19 #[.int .i64 x] w fun e w' => e = .returned (.bool (stretchB x)) ∧ Upd No w w' := by
  by_cases h1 : 0 ≤ x
  all_goals
    go_enter Try.func19, Try.ntmps19
    go_wp2
    go_ret
    refine ⟨ret_bool ?_, Upd.refl _ _⟩
    first | (simp [stretchB, h1]; done) | (simp [stretchB]; omega)

/-- What Wait answers of a reservation that may be: (ticks, ok). -/
def waitP (b p need : Int) : Int × Bool :=
  if need < 0 then (0, false) else if need = 0 then (0, true)
  else if 1048576 ≤ cdiv need b then (0, false) else if 1048576 < (cdiv need b + 1) * p then (0, false) else ((cdiv need b + 1) * p, true)

theorem resWait (b p need : Int) (w : World) (hr : resB b p = true) (hn : need ≤ 1000000000000000000) :
    Calls Try.prog 14 #[.agg #[.int .i64 b, .int .i64 p], .int .i64 need] w fun e w' => e = .returned (.tuple #[.int .i64 (waitP b p need).1, .bool (waitP b p need).2]) ∧ Upd No w w' := by
  obtain ⟨hb1, hb2, hb3⟩ := (resB_iff b p).1 hr
  have HR := Lib.hid hr; clear hr
  have hc0 : 0 ≤ need → 0 ≤ cdiv need b := fun h => by unfold cdiv; have := Int.ediv_nonneg h (show 0 ≤ b by omega); split <;> omega
  by_cases h0 : need < 0
  · go_enter Try.func14, Try.ntmps14
    go_wp2_with (go_at_call 13; refine (resRight b p _).mono ?_; rw [HR.out]; rintro e w1 ⟨rfl, hu1⟩)
    go_ret2
    exact ⟨by simp [waitP, h0], ((Upd.refl _ _).alloc _).trans hu1⟩
  by_cases h00 : need = 0
  · subst h00
    go_enter Try.func14, Try.ntmps14
    go_wp2_with (go_at_call 13; refine (resRight b p _).mono ?_; rw [HR.out]; rintro e w1 ⟨rfl, hu1⟩)
    go_ret2
    exact ⟨by simp [waitP], ((Upd.refl _ _).alloc _).trans hu1⟩
  have hne : (need == 0) = false := by simp [h00]
  have hpos : 0 < need := by omega
  have hn0 : 0 ≤ cdiv need b := hc0 (by omega)
  have hdef : waitP b p need = if 1048576 ≤ cdiv need b then (0, false) else if 1048576 < (cdiv need b + 1) * p then (0, false) else ((cdiv need b + 1) * p, true) := by
    simp [waitP, h0, h00]
  have HD := Lib.hid hdef
  clear h0 h00 hc0 hdef
  have hmul : cdiv need b < 1048576 → 0 ≤ (cdiv need b + 1) * p ∧ (cdiv need b + 1) * p ≤ 1099511627776 := fun h => by
    have h2 : (cdiv need b + 1) * p ≤ 1048576 * p := Int.mul_le_mul_of_nonneg_right (by omega) (by omega)
    exact ⟨Int.mul_nonneg (by omega) (by omega), by omega⟩
  by_cases hbig : cdiv need b < 1048576
  · obtain ⟨hm0, hm1⟩ := hmul hbig
    clear hmul
    go_enter Try.func14, Try.ntmps14
    go_wp2_with (first | (go_at_call 13; refine (resRight b p _).mono ?_; rw [HR.out]; rintro e w1 ⟨rfl, hu1⟩; have hx1 := hu1.box) | (go_at_call 18; refine (byUp need b _ (by omega) (by omega) (by omega)).mono ?_; rintro e w2 ⟨rfl, hu2⟩; have hx2 := (hu1.trans hu2).box))
    · rename_i hgt
      go_ret2
      exact ⟨by rw [HD.out, if_neg (by omega), if_pos hgt]; rfl, ((Upd.refl _ _).alloc _).trans (hu1.trans hu2)⟩
    · rename_i hgt
      go_ret2
      exact ⟨by rw [HD.out, if_neg (by omega), if_neg (by omega)]; rfl, ((Upd.refl _ _).alloc _).trans (hu1.trans hu2)⟩
  · clear hmul
    go_enter Try.func14, Try.ntmps14
    go_wp2_with (first | (go_at_call 13; refine (resRight b p _).mono ?_; rw [HR.out]; rintro e w1 ⟨rfl, hu1⟩; have hx1 := hu1.box) | (go_at_call 18; refine (byUp need b _ (by omega) (by omega) (by omega)).mono ?_; rintro e w2 ⟨rfl, hu2⟩; have hx2 := (hu1.trans hu2).box))
    go_ret2
    exact ⟨by rw [HD.out, if_pos (by omega)]; rfl, ((Upd.refl _ _).alloc _).trans (hu1.trans hu2)⟩

end Go.Proofs.Ytpgoadcaaepkkaa
