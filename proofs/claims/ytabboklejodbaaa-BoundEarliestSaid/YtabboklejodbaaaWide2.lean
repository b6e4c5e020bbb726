/- Numbers of 256 bits (package bound): what times answers. -/
import Derived.Test.YtabboklejodbaaaWide
namespace Go.Proofs.Ytabboklejodbaaa
open Go.RowKit

def tLo (a n c : Int) : Int := (a * n + c) % B64
def tHi (a n c : Int) : Int := (a * n + c) / B64

theorem lo_rng (x : Int) : 0 ≤ x % B64 ∧ x % B64 < B64 := by unfold B64; omega
theorem hi_rng {a n c : Int} (ha0 : 0 ≤ a) (ha : a < B64) (hn0 : 0 ≤ n) (hn : n < B64) (hc0 : 0 ≤ c) (hc : c < B64) : 0 ≤ tHi a n c ∧ tHi a n c < B64 := by
  have h0 : 0 ≤ a * n := Int.mul_nonneg ha0 hn0
  have h1 : a * n ≤ (B64 - 1) * (B64 - 1) := Int.mul_le_mul (by omega) (by omega) hn0 (by unfold B64; omega)
  unfold tHi
  generalize a * n = p at *
  unfold B64 at *
  omega
theorem add_lo (a n c : Int) : addLo (mulLo a n) c 0 = tLo a n c := by
  unfold addLo mulLo tLo
  generalize a * n = p
  unfold B64; omega
theorem add_hi (a n c : Int) : mulHi a n + addHi (mulLo a n) c 0 = tHi a n c := by
  unfold addHi mulLo mulHi tHi
  generalize a * n = p
  unfold B64; omega
theorem add_hi0 {a n c : Int} (h0 : 0 ≤ tHi a n c) (h : tHi a n c < B64) : IntKind.u64.wrap (mulHi a n + addHi (mulLo a n) c 0) = tHi a n c := by
  rw [add_hi]; exact wu h0 h

theorem conv_u64 {n : Int} (h0 : 0 ≤ n) (h : n < B64) : IntKind.u64.wrap n = n := wu h0 h

set_option maxHeartbeats 4000000 in
theorem wideTimes (a0 a1 a2 a3 n : Int) (h0 : 0 ≤ a0 ∧ a0 < B64) (h1 : 0 ≤ a1 ∧ a1 < B64) (h2 : 0 ≤ a2 ∧ a2 < B64) (h3 : 0 ≤ a3 ∧ a3 < B64) (hn0 : 0 ≤ n) (hn : n ≤ 4194304) (w : World) :
    Calls Try.prog 22 #[.agg #[.int .u64 a0, .int .u64 a1, .int .u64 a2, .int .u64 a3], .int .i64 n] w fun e w' => e = .returned (.agg #[.int .u64 (tLo a0 n 0), .int .u64 (tLo a1 n (tHi a0 n 0)), .int .u64 (tLo a2 n (tHi a1 n (tHi a0 n 0))), .int .u64 (tLo a3 n (tHi a2 n (tHi a1 n (tHi a0 n 0))))]) ∧ Upd No w w' := by
  have hnb : n < B64 := by unfold B64; omega
  obtain ⟨c1, hc1⟩ : ∃ c, c = tHi a0 n 0 := ⟨_, rfl⟩
  obtain ⟨c2, hc2⟩ : ∃ c, c = tHi a1 n c1 := ⟨_, rfl⟩
  obtain ⟨c3, hc3⟩ : ∃ c, c = tHi a2 n c2 := ⟨_, rfl⟩
  obtain ⟨c4, hc4⟩ : ∃ c, c = tHi a3 n c3 := ⟨_, rfl⟩
  have r1 := hi_rng h0.1 h0.2 hn0 hnb (Int.le_refl 0) (show (0 : Int) < B64 by unfold B64; omega)
  have e1 := add_hi0 r1.1 r1.2
  rw [← hc1] at r1 e1 ⊢
  have r2 := hi_rng h1.1 h1.2 hn0 hnb r1.1 r1.2
  have e2 := add_hi0 r2.1 r2.2
  rw [← hc2] at r2 e2 ⊢
  have r3 := hi_rng h2.1 h2.2 hn0 hnb r2.1 r2.2
  have e3 := add_hi0 r3.1 r3.2
  rw [← hc3] at r3 e3 ⊢
  have r4 := hi_rng h3.1 h3.2 hn0 hnb r3.1 r3.2
  have e4 := add_hi0 r4.1 r4.2
  rw [← hc4] at r4 e4
  have hadd : ∀ a c : Int, 0 ≤ c → ∀ w, (callFunc 36 #[.int .u64 (mulLo a n), .int .u64 c, .int .u64 0]).run Try.prog w = .ok (.value (.tuple #[.int .u64 (tLo a n c), .int .u64 (addHi (mulLo a n) c 0)])) w := fun a c hc w => by
    rw [run_add (mulLo a n) c 0 (lo_rng _).1 hc (by omega) (by omega), add_lo]
  have HADD := Lib.hid hadd
  have HC := Lib.hid hc1
  have hcv : IntKind.u64.wrap n = n := wu hn0 hnb
  have E1 := Lib.hid e1
  have E2 := Lib.hid e2
  have E3 := Lib.hid e3
  have E4 := Lib.hid e4
  have H0 := Lib.hid h0
  have H1 := Lib.hid h1
  have H2 := Lib.hid h2
  have H3 := Lib.hid h3
  have R1 := Lib.hid r1
  have R2 := Lib.hid r2
  have R3 := Lib.hid r3
  have HN := Lib.hid hnb
  have hb : Row (((w.alloc (.cells #[.int .u64 a0, .int .u64 a1, .int .u64 a2, .int .u64 a3] 34)).alloc (.cells #[.int .u64 0, .int .u64 0, .int .u64 0, .int .u64 0] 34)).alloc (.cells #[.int .u64 0, .int .u64 0, .int .u64 0, .int .u64 0] 34)) (w.heap.size + 1 + 1) 34 [.int .u64 0, .int .u64 0, .int .u64 0, .int .u64 0] := Row.newAt _ _ _ _ (by simp)
  have hr : Row (((w.alloc (.cells #[.int .u64 a0, .int .u64 a1, .int .u64 a2, .int .u64 a3] 34)).alloc (.cells #[.int .u64 0, .int .u64 0, .int .u64 0, .int .u64 0] 34)).alloc (.cells #[.int .u64 0, .int .u64 0, .int .u64 0, .int .u64 0] 34)) (w.heap.size + 1) 34 [.int .u64 0, .int .u64 0, .int .u64 0, .int .u64 0] := (Row.newAt _ _ _ _ (by simp)).alloc _
  have hu : Upd No w (((w.alloc (.cells #[.int .u64 a0, .int .u64 a1, .int .u64 a2, .int .u64 a3] 34)).alloc (.cells #[.int .u64 0, .int .u64 0, .int .u64 0, .int .u64 0] 34)).alloc (.cells #[.int .u64 0, .int .u64 0, .int .u64 0, .int .u64 0] 34)) := (by repeat (first | with_reducible assumption | exact Upd.refl _ _ | (refine Upd.setNew ?_ (by first | (simp; done) | (simp; omega)) _) | (refine Upd.alloc ?_ _) | (refine Upd.drewN ?_ _) | (refine Upd.drew ?_) | (refine Upd.trans ?_ (by with_reducible assumption))))
  clear hc1 hc2 hc3 hc4 e1 e2 e3 e4 r1 r2 r3 r4 h0 h1 h2 h3 hnb hadd
  have i0 : ∀ w, (Instr.index 34 (.agg #[.int .u64 a0, .int .u64 a1, .int .u64 a2, .int .u64 a3]) (.int .i64 0)).run Try.prog w = .ok (.int .u64 a0) w := fun _ => by kernel_rfl
  have i1 : ∀ w, (Instr.index 34 (.agg #[.int .u64 a0, .int .u64 a1, .int .u64 a2, .int .u64 a3]) (.int .i64 1)).run Try.prog w = .ok (.int .u64 a1) w := fun _ => by kernel_rfl
  have i2 : ∀ w, (Instr.index 34 (.agg #[.int .u64 a0, .int .u64 a1, .int .u64 a2, .int .u64 a3]) (.int .i64 2)).run Try.prog w = .ok (.int .u64 a2) w := fun _ => by kernel_rfl
  have i3 : ∀ w, (Instr.index 34 (.agg #[.int .u64 a0, .int .u64 a1, .int .u64 a2, .int .u64 a3]) (.int .i64 3)).run Try.prog w = .ok (.int .u64 a3) w := fun _ => by kernel_rfl
  go_enter Try.func22, Try.ntmps22
  go_wp2_with fail
  refine wp_loop_rounds 5 ?_
  rw [rounds_succ]
  have A0 := HADD.out a0 0 (Int.le_refl 0)
  go_wp2_with fail
  refine (mul64 a0 n H0.out.1 H0.out.2 hn0 HN.out _).mono ?_
  rintro e w1 ⟨rfl, hu1⟩
  have hb1 := hb.updNo hu1
  have hr1 := hr.updNo hu1
  have hv1 := hu.trans hu1
  clear hb hr hu hu1
  have z0 := hb1.cell (i := 0) rfl
  have zf := hb1.frozen
  have E := E1.out
  go_wp2_with fail
  rw [rounds_succ]
  have hb1' := hb1.set 0 (.int .u64 (tLo a0 n 0))
  clear z0 zf E A0
  have A0 := HADD.out a1 c1 R1.out.1
  go_wp2_with fail
  refine (mul64 a1 n H1.out.1 H1.out.2 hn0 HN.out _).mono ?_
  rintro e w2 ⟨rfl, hu2⟩
  have hb2 := hb1'.updNo hu2
  have hr2 := (hr1.far (p := ⟨w.heap.size + 1 + 1, 0, none⟩) (show w.heap.size + 1 ≠ w.heap.size + 1 + 1 by omega) (.int .u64 (tLo a0 n 0))).updNo hu2
  have hv2 := (hv1.setNew (p := ⟨w.heap.size + 1 + 1, 0, none⟩) (show w.heap.size ≤ w.heap.size + 1 + 1 by omega) (.int .u64 (tLo a0 n 0))).trans hu2
  clear hb1 hb1' hr1 hv1 hu2
  have z0 := hb2.cell (i := 1) rfl
  have zf := hb2.frozen
  have E := E2.out
  go_wp2_with fail
  rw [rounds_succ]
  have hb2' := hb2.set 1 (.int .u64 (tLo a1 n c1))
  clear z0 zf E A0
  have A0 := HADD.out a2 c2 R2.out.1
  go_wp2_with fail
  refine (mul64 a2 n H2.out.1 H2.out.2 hn0 HN.out _).mono ?_
  rintro e w3 ⟨rfl, hu3⟩
  have hb3 := hb2'.updNo hu3
  have hr3 := (hr2.far (p := ⟨w.heap.size + 1 + 1, 1, none⟩) (show w.heap.size + 1 ≠ w.heap.size + 1 + 1 by omega) (.int .u64 (tLo a1 n c1))).updNo hu3
  have hv3 := (hv2.setNew (p := ⟨w.heap.size + 1 + 1, 1, none⟩) (show w.heap.size ≤ w.heap.size + 1 + 1 by omega) (.int .u64 (tLo a1 n c1))).trans hu3
  clear hb2 hb2' hr2 hv2 hu3
  have z0 := hb3.cell (i := 2) rfl
  have zf := hb3.frozen
  have E := E3.out
  go_wp2_with fail
  rw [rounds_succ]
  have hb3' := hb3.set 2 (.int .u64 (tLo a2 n c2))
  clear z0 zf E A0
  have A0 := HADD.out a3 c3 R3.out.1
  go_wp2_with fail
  refine (mul64 a3 n H3.out.1 H3.out.2 hn0 HN.out _).mono ?_
  rintro e w4 ⟨rfl, hu4⟩
  have hb4 := hb3'.updNo hu4
  have hr4 := (hr3.far (p := ⟨w.heap.size + 1 + 1, 2, none⟩) (show w.heap.size + 1 ≠ w.heap.size + 1 + 1 by omega) (.int .u64 (tLo a2 n c2))).updNo hu4
  have hv4 := (hv3.setNew (p := ⟨w.heap.size + 1 + 1, 2, none⟩) (show w.heap.size ≤ w.heap.size + 1 + 1 by omega) (.int .u64 (tLo a2 n c2))).trans hu4
  clear hb3 hb3' hr3 hv3 hu4
  have z0 := hb4.cell (i := 3) rfl
  have zf := hb4.frozen
  have E := E4.out
  go_wp2_with fail
  rw [rounds_succ]
  have hb5 := hb4.set 3 (.int .u64 (tLo a3 n c3))
  have hr5 := hr4.far (p := ⟨w.heap.size + 1 + 1, 3, none⟩) (show w.heap.size + 1 ≠ w.heap.size + 1 + 1 by omega) (.int .u64 (tLo a3 n c3))
  have hv5 := hv4.setNew (p := ⟨w.heap.size + 1 + 1, 3, none⟩) (show w.heap.size ≤ w.heap.size + 1 + 1 by omega) (.int .u64 (tLo a3 n c3))
  clear z0 zf E A0 hb4 hr4 hv4
  have p0 := hb5.cell (i := 0) rfl
  have p1 := hb5.cell (i := 1) rfl
  have p2 := hb5.cell (i := 2) rfl
  have p3 := hb5.cell (i := 3) rfl
  have y0 := hr5.cell (i := 0) rfl
  have y1 := hr5.cell (i := 1) rfl
  have y2 := hr5.cell (i := 2) rfl
  have y3 := hr5.cell (i := 3) rfl
  have yf := hr5.frozen
  go_wp2
  have hr6 := (((hr5.set 0 (.int .u64 (tLo a0 n 0))).set 1 (.int .u64 (tLo a1 n c1))).set 2 (.int .u64 (tLo a2 n c2))).set 3 (.int .u64 (tLo a3 n c3))
  have t0 := hr6.cell (i := 0) rfl
  have t1 := hr6.cell (i := 1) rfl
  have t2 := hr6.cell (i := 2) rfl
  have t3 := hr6.cell (i := 3) rfl
  have hv6 := (((hv5.setNew (p := ⟨w.heap.size + 1, 0, none⟩) (show w.heap.size ≤ w.heap.size + 1 by omega) (.int .u64 (tLo a0 n 0))).setNew (p := ⟨w.heap.size + 1, 1, none⟩) (show w.heap.size ≤ w.heap.size + 1 by omega) (.int .u64 (tLo a1 n c1))).setNew (p := ⟨w.heap.size + 1, 2, none⟩) (show w.heap.size ≤ w.heap.size + 1 by omega) (.int .u64 (tLo a2 n c2))).setNew (p := ⟨w.heap.size + 1, 3, none⟩) (show w.heap.size ≤ w.heap.size + 1 by omega) (.int .u64 (tLo a3 n c3))
  exact bodyPost_ret (v := .agg #[.int .u64 (tLo a0 n 0), .int .u64 (tLo a1 n c1), .int .u64 (tLo a2 n c2), .int .u64 (tLo a3 n c3)]) (by simp [results, Try.results22, go_sem, t0, t1, t2, t3]) rfl ⟨rfl, hv6⟩

end Go.Proofs.Ytabboklejodbaaa
