/- ref06.wait, ref06.Time and respond.Time: the least fixed point, or none within a bound. -/
import Derived.Test.YtpgoadcaaepkkaaRequest
namespace Go.Proofs.Ytpgoadcaaepkkaa
open Go.RowKit

theorem cdiv_eq {a b j : Int} (hb : 1 ≤ b) (h1 : b * j < a) (h2 : a ≤ b * (j + 1)) : cdiv a b = j + 1 := by
  rw [Int.mul_add, Int.mul_one] at h2
  unfold cdiv
  by_cases hm : a % b = 0
  · rw [if_pos hm]
    have e := Int.mul_ediv_add_emod a b
    rw [hm] at e
    have e1 : b * j < b * (a / b) := by omega
    have e2 : b * (a / b) ≤ b * (j + 1) := by rw [Int.mul_add]; omega
    have := Int.lt_of_mul_lt_mul_left e1 (by omega)
    have := Int.le_of_mul_le_mul_left e2 (by omega)
    omega
  · rw [if_neg hm]
    have e := Int.mul_ediv_add_emod a b
    have r0 := Int.emod_nonneg a (show b ≠ 0 by omega)
    have r1 := Int.emod_lt_of_pos a (show 0 < b by omega)
    have e1 : b * (a / b) < b * (j + 1) := by rw [Int.mul_add]; omega
    have e2 : b * j < b * (a / b + 1) := by rw [Int.mul_add]; omega
    have := Int.lt_of_mul_lt_mul_left e1 (by omega)
    have := Int.lt_of_mul_lt_mul_left e2 (by omega)
    omega
theorem cdiv_mono {a a' b : Int} (hb : 1 ≤ b) (h0 : 0 ≤ a) (h : a ≤ a') : cdiv a b ≤ cdiv a' b := by
  have key : ∀ x : Int, 0 ≤ x → cdiv x b = (x + b - 1) / b := fun x hx => by
    unfold cdiv
    have e := Int.mul_ediv_add_emod x b
    have r1 := Int.emod_lt_of_pos x (show 0 < b by omega)
    have r0 := Int.emod_nonneg x (show b ≠ 0 by omega)
    by_cases hm : x % b = 0
    · rw [if_pos hm]
      rw [eq_comm, Int.ediv_eq_iff_of_pos (by omega)]
      have e3 : x / b * b = b * (x / b) := Int.mul_comm _ _
      omega
    · rw [if_neg hm]
      rw [eq_comm, Int.ediv_eq_iff_of_pos (by omega)]
      have e3 : (x / b + 1) * b = b * (x / b) + b := by rw [Int.add_mul, Int.mul_comm, Int.one_mul]
      omega
  rw [key a h0, key a' (by omega)]
  exact Int.ediv_le_ediv (by omega) (by omega)
theorem cdiv_pos {a b : Int} (hb : 1 ≤ b) (h : 1 ≤ a) : 1 ≤ cdiv a b := by
  have h1 := cdiv_mono (b := b) hb (show (0 : Int) ≤ 1 by omega) h
  have h2 : cdiv 1 b = 0 + 1 := cdiv_eq hb (by simp) (by simpa using hb)
  omega
theorem cdiv_le {a b : Int} (hb : 1 ≤ b) (h0 : 0 ≤ a) : cdiv a b ≤ a := by
  unfold cdiv
  have e := Int.mul_ediv_add_emod a b
  have r0 := Int.emod_nonneg a (show b ≠ 0 by omega)
  have d0 : 0 ≤ a / b := Int.ediv_nonneg h0 (by omega)
  have h2 : 1 * (a / b) ≤ b * (a / b) := Int.mul_le_mul_of_nonneg_right hb d0
  split <;> omega

/-- P4.3: the ticks that a need takes. -/
def gW (b p need : Int) : Int := (cdiv need b + 1) * p
def waitR (b p need bound : Int) : Int := if gW b p need ≤ bound then gW b p need else -1

theorem refWait (b p need bound : Int) (w : World) (hr : resB b p = true) (h1 : 1 ≤ need) (h2 : need ≤ 1000000000000000000) (hb0 : 0 ≤ bound) (hb1 : bound ≤ 1048576) :
    Calls Try.prog 16 #[.agg #[.int .i64 b, .int .i64 p], .int .i64 need, .int .i64 bound] w fun e w' => e = .returned (.int .i64 (waitR b p need bound)) ∧ Upd No w w' := by
  obtain ⟨q1, q2, q3⟩ := (resB_iff b p).1 hr
  clear hr
  have hne : (need == 0) = false := by simp; omega
  go_enter Try.func16, Try.ntmps16
  go_wp2
  have hx := (Upd.refl No (w.alloc (.cells #[.int .i64 b, .int .i64 p] 26))).box
  go_loopw [7, 8] (fun g a wr => ∃ j v y : Int, 0 ≤ j ∧ g = .int .i64 v ∧ a = .int .i64 y ∧ 0 ≤ v ∧ v ≤ 1000000000000000 ∧ 0 ≤ y ∧ y ≤ 2097152 + 1048576 ∧ Hid (v = b * j) ∧ Hid (y = p * (j + 2)) ∧ v < need ∧ v ≤ y ∧ Upd No (w.alloc (.cells #[.int .i64 b, .int .i64 p] 26)) wr) (fun _ a _ => 4000000 - (intOf a).toNat)
  case atStart => exact ⟨0, _, _, by omega, rfl, rfl, by omega, by omega, by omega, by omega, Lib.hid (by simp), Lib.hid (by omega), by omega, by omega, Upd.refl _ _⟩
  case round =>
    obtain ⟨j, v, y, j0, rfl, rfl, v0, v1, y0, y1, hv, hy, hvn, hvy, hu⟩ := hrel
    clear hx
    have hx := hu.box
    by_cases hyb : y ≤ bound
    · by_cases hge : need ≤ v + b
      · go_wp2
        go_ret
        refine ⟨ret_int ?_, (by repeat (first | with_reducible assumption | exact Upd.refl _ _ | (refine Upd.alloc ?_ _) | (refine Upd.drewN ?_ _) | (refine Upd.drew ?_) | (refine Upd.trans ?_ (by with_reducible assumption))))⟩
        have e : cdiv need b = j + 1 := cdiv_eq q1 (by rw [← hv.out]; omega) (by rw [Int.mul_add, ← hv.out]; omega)
        have e2 : gW b p need = y := by unfold gW; rw [e, hy.out, Int.mul_comm]; congr 1; omega
        rw [waitR, e2, if_pos hyb]
      · go_wp2
        go_roundw
        case rel => exact ⟨j + 1, _, _, by omega, rfl, rfl, by omega, by omega, by omega, by omega, Lib.hid (by rw [Int.mul_add, ← hv.out]; omega), Lib.hid (by rw [show j + 1 + 2 = (j + 2) + 1 by omega, Int.mul_add, ← hy.out]; omega), by omega, by omega, hu⟩
        case measure => simp [intOf]; omega
    · go_wp2
      go_ret
      refine ⟨ret_int ?_, (by repeat (first | with_reducible assumption | exact Upd.refl _ _ | (refine Upd.alloc ?_ _) | (refine Upd.drewN ?_ _) | (refine Upd.drew ?_) | (refine Upd.trans ?_ (by with_reducible assumption))))⟩
      have e : j + 1 ≤ cdiv need b := by
        have h3 : cdiv (v + 1) b = j + 1 := cdiv_eq q1 (by rw [← hv.out]; omega) (by rw [Int.mul_add, ← hv.out]; omega)
        have h4 := cdiv_mono (b := b) q1 (show 0 ≤ v + 1 by omega) (show v + 1 ≤ need by omega)
        omega
      have e2 : y ≤ gW b p need := by
        unfold gW; rw [hy.out, Int.mul_comm]
        exact Int.mul_le_mul_of_nonneg_right (by omega) (by omega)
      rw [waitR, if_neg (by omega)]

/-- What a job, those ahead of it and what holds it up need by x ticks. -/
def needT (l : List Tk) (c held x : Int) : Int := c + held + reqS l x

/-- res is the least x at which the need is met just then, and within the bound; -1: there is none. -/
def Least (l : List Tk) (c held b p bound res : Int) : Prop :=
  (0 ≤ res ∧ res ≤ bound ∧ gW b p (needT l c held res) = res ∧ ∀ m, 0 ≤ m → m < res → gW b p (needT l c held m) ≠ m) ∨
  (res = -1 ∧ ∀ m, 0 ≤ m → m ≤ bound → gW b p (needT l c held m) ≠ m)
theorem Least.one {l : List Tk} {c held b p bound r s : Int} (h : Least l c held b p bound r) (k : Least l c held b p bound s) : r = s := by
  rcases h with ⟨a1, a2, a3, a4⟩ | ⟨rfl, a2⟩ <;> rcases k with ⟨b1, b2, b3, b4⟩ | ⟨rfl, b2⟩
  · rcases Int.lt_trichotomy r s with q | q | q
    · exact (b4 r a1 q a3).elim
    · exact q
    · exact (a4 s b1 q b3).elim
  · exact (b2 r a1 a2 a3).elim
  · exact (a2 s b1 b2 b3).elim
  · rfl

end Go.Proofs.Ytpgoadcaaepkkaa
