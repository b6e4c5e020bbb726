/- Numbers of 256 bits (package bound): what times, plus and above answer. -/
import Derived.Test.YtabboklejodbaaaLib
import Derived.Test.YtabboklejodbaaaBd1
import Derived.Laws.Externs
import Derived.Laws.BitsLemmas
import Derived.Lib.Mul64
import Derived.LoopN
import Derived.BigQuiet
import Derived.Deep.QuietTactic
namespace Go.Proofs.Ytabboklejodbaaa
open Go.RowKit Go.Proofs.YtabboklejodbaaaW.PrintWords

def B64 : Int := 18446744073709551616
def mulHi (x y : Int) : Int := x * y / B64
def mulLo (x y : Int) : Int := x * y % B64
def addLo (x y c : Int) : Int := (x + y + c) % B64
def addHi (x y c : Int) : Int := (x + y + c) / B64

theorem run_add (x y c : Int) (hx : 0 ≤ x) (hy : 0 ≤ y) (hc0 : 0 ≤ c) (hc : c ≤ 1) (w : World) :
    (callFunc 36 #[.int .u64 x, .int .u64 y, .int .u64 c]).run Try.prog w = .ok (.value (.tuple #[.int .u64 (addLo x y c), .int .u64 (addHi x y c)])) w := by
  rw [run_callFunc_extern Try.func36 (by kernel_rfl) (by kernel_rfl) (by kernel_rfl) (e := add64Entry) (by kernel_rfl), run_add64 x y c hx hy hc0 hc]
  rfl

theorem and32 (x : Int) (h0 : 0 ≤ x) (h1 : x < B64) : Go.bits .and .u64 x 4294967295 = x % 4294967296 := by
  have := bits_mask .u64 64 (by decide) (fun n h h' => by unfold IntKind.wrap IntKind.bits IntKind.signed; simp; omega) 32 (by decide) x h0 (by unfold B64 at h1; exact h1)
  exact this

theorem wu {n : Int} (h0 : 0 ≤ n) (h1 : n < B64) : IntKind.u64.wrap n = n := IntWalk.u64_in _ (by unfold B64 at h1; omega)
theorem wum (n : Int) : IntKind.u64.wrap n = n % B64 := by unfold IntKind.wrap IntKind.bits IntKind.signed B64; simp

theorem mul_f (x y : Int) (hx0 : 0 ≤ x) (hx : x < B64) (hy0 : 0 ≤ y) (hy : y < B64) : Bd.bits_Mul64.f x y = some (mulHi x y, mulLo x y) := by
  obtain ⟨X, rfl⟩ := Int.eq_ofNat_of_zero_le hx0
  obtain ⟨Y, rfl⟩ := Int.eq_ofNat_of_zero_le hy0
  have hx' := hx
  have hy' := hy
  unfold B64 at hx' hy'
  obtain ⟨h1, h2, h3, h4⟩ := Lib.mul64_hi X Y (by omega) (by omega)
  have hp := Nat.mul_le_mul (show X ≤ 18446744073709551615 by omega) (show Y ≤ 18446744073709551615 by omega)
  have e1 := and32 X hx0 hx
  have e2 := and32 Y hy0 hy
  have b11 := Lib.half_mul_le (a := X / 4294967296) (b := Y / 4294967296) (by omega) (by omega)
  have b10 := Lib.half_mul_le (a := X / 4294967296) (b := Y % 4294967296) (by omega) (by omega)
  have b01 := Lib.half_mul_le (a := X % 4294967296) (b := Y / 4294967296) (by omega) (by omega)
  have b00 := Lib.half_mul_le (a := X % 4294967296) (b := Y % 4294967296) (by omega) (by omega)
  have q11 : ((X : Int) / 4294967296) * ((Y : Int) / 4294967296) = ((X / 4294967296 * (Y / 4294967296) : Nat) : Int) := by rw [Int.natCast_mul]; rfl
  have q10 : ((X : Int) / 4294967296) * ((Y : Int) % 4294967296) = ((X / 4294967296 * (Y % 4294967296) : Nat) : Int) := by rw [Int.natCast_mul]; rfl
  have q01 : ((X : Int) % 4294967296) * ((Y : Int) / 4294967296) = ((X % 4294967296 * (Y / 4294967296) : Nat) : Int) := by rw [Int.natCast_mul]; rfl
  have q00 : ((X : Int) % 4294967296) * ((Y : Int) % 4294967296) = ((X % 4294967296 * (Y % 4294967296) : Nat) : Int) := by rw [Int.natCast_mul]; rfl
  have qxy : (X : Int) * (Y : Int) = ((X * Y : Nat) : Int) := by rw [Int.natCast_mul]
  unfold Bd.bits_Mul64.f mulHi mulLo
  rw [e1, e2, q11, q10, q01, q00, qxy, wum ((X * Y : Nat) : Int)]
  generalize X / 4294967296 * (Y / 4294967296) = p11 at *
  generalize X / 4294967296 * (Y % 4294967296) = p10 at *
  generalize X % 4294967296 * (Y / 4294967296) = p01 at *
  generalize X % 4294967296 * (Y % 4294967296) = p00 at *
  generalize X * Y = p at *
  have w11 : IntKind.u64.wrap (p11 : Int) = p11 := wu (by omega) (by unfold B64; omega)
  have w10 : IntKind.u64.wrap (p10 : Int) = p10 := wu (by omega) (by unfold B64; omega)
  have w01 : IntKind.u64.wrap (p01 : Int) = p01 := wu (by omega) (by unfold B64; omega)
  have w00 : IntKind.u64.wrap (p00 : Int) = p00 := wu (by omega) (by unfold B64; omega)
  have wt : IntKind.u64.wrap ((p10 : Int) + (p00 : Int) / 4294967296) = (p10 : Int) + (p00 : Int) / 4294967296 := wu (by omega) (by unfold B64; omega)
  rw [w11, w10, w01, w00, wt, and32 _ (by omega) (by unfold B64; omega)]
  rw [wu (n := (p11 : Int) + ((p10 : Int) + (p00 : Int) / 4294967296) / 4294967296) (by omega) (by unfold B64; omega)]
  rw [wu (n := ((p10 : Int) + (p00 : Int) / 4294967296) % 4294967296 + (p01 : Int)) (by omega) (by unfold B64; omega)]
  rw [wu (n := (p11 : Int) + ((p10 : Int) + (p00 : Int) / 4294967296) / 4294967296 + (((p10 : Int) + (p00 : Int) / 4294967296) % 4294967296 + (p01 : Int)) / 4294967296) (by omega) (by unfold B64; omega)]
  congr 1
  congr 1
  unfold B64; omega

theorem mul64 (x y : Int) (hx0 : 0 ≤ x) (hx : x < B64) (hy0 : 0 ≤ y) (hy : y < B64) (w : World) :
    Calls Try.prog 35 #[.int .u64 x, .int .u64 y] w fun e w' => e = .returned (.tuple #[.int .u64 (mulHi x y), .int .u64 (mulLo x y)]) ∧ Upd No w w' :=
  (Bd.bits_Mul64.calls x y _ _ w (mul_f x y hx0 hx hy0 hy)).mono fun e w' ⟨he, hd⟩ => ⟨he, by obtain ⟨n, rfl⟩ := hd.out; exact (Upd.refl _ _).drewN n⟩

end Go.Proofs.Ytabboklejodbaaa
