/- Numbers of 256 bits (package bound): what plus and above answer. -/
import Derived.Test.YtabboklejodbaaaWide2
import Derived.StillTailTactics
import Derived.Deep.RegionHeld3
namespace Go.Proofs.Ytabboklejodbaaa
open Go.RowKit

def widePair (w : World) (a0 a1 a2 a3 b0 b1 b2 b3 : Int) : World := (w.alloc (.cells #[.int .u64 a0, .int .u64 a1, .int .u64 a2, .int .u64 a3] 34)).alloc (.cells #[.int .u64 b0, .int .u64 b1, .int .u64 b2, .int .u64 b3] 34)

set_option maxHeartbeats 4000000 in
theorem widePlus (a0 a1 a2 a3 b0 b1 b2 b3 : Int) (h0 : 0 ≤ a0 ∧ a0 < B64) (h1 : 0 ≤ a1 ∧ a1 < B64) (h2 : 0 ≤ a2 ∧ a2 < B64) (h3 : 0 ≤ a3 ∧ a3 < B64) (g0 : 0 ≤ b0 ∧ b0 < B64) (g1 : 0 ≤ b1 ∧ b1 < B64) (g2 : 0 ≤ b2 ∧ b2 < B64) (g3 : 0 ≤ b3 ∧ b3 < B64) (c1 c2 c3 : Int) (hc1 : c1 = addHi a0 b0 0) (hc2 : c2 = addHi a1 b1 c1) (hc3 : c3 = addHi a2 b2 c2) (w : World) :
    Calls Try.prog 23 #[.agg #[.int .u64 a0, .int .u64 a1, .int .u64 a2, .int .u64 a3], .agg #[.int .u64 b0, .int .u64 b1, .int .u64 b2, .int .u64 b3]] w fun e w' => e = .returned (.agg #[.int .u64 (addLo a0 b0 0), .int .u64 (addLo a1 b1 c1), .int .u64 (addLo a2 b2 c2), .int .u64 (addLo a3 b3 c3)]) ∧ Upd No w w' := by
  have q1 : 0 ≤ c1 ∧ c1 ≤ 1 := by rw [hc1]; unfold addHi; unfold B64 at *; omega
  have q2 : 0 ≤ c2 ∧ c2 ≤ 1 := by rw [hc2]; unfold addHi; unfold B64 at *; omega
  have q3 : 0 ≤ c3 ∧ c3 ≤ 1 := by rw [hc3]; unfold addHi; unfold B64 at *; omega
  have d0 := run_add a0 b0 0 h0.1 g0.1 (by omega) (by omega)
  have d1 := run_add a1 b1 c1 h1.1 g1.1 (by omega) (by omega)
  have d2 := run_add a2 b2 c2 h2.1 g2.1 (by omega) (by omega)
  have d3 := run_add a3 b3 c3 h3.1 g3.1 (by omega) (by omega)
  rw [← hc1] at d0
  rw [← hc2] at d1
  rw [← hc3] at d2
  have D0 := Lib.hid d0
  have D1 := Lib.hid d1
  have D2 := Lib.hid d2
  have D3 := Lib.hid d3
  clear h0 h1 h2 h3 g0 g1 g2 g3 hc1 hc2 hc3 d0 d1 d2 d3 q1 q2 q3
  go_enter Try.func23, Try.ntmps23
  go_wp2_with fail
  refine wp_loop_rounds 5 ?_
  rw [rounds_succ]
  have A0 := D0.out
  go_wp2_with fail
  go_region_held3 (fun w' => w'.cell? ⟨w.heap.size, 0, none⟩ = some (.int .u64 a0) ∧ w'.cell? ⟨w.heap.size + 1, 0, none⟩ = some (.int .u64 b0)) (go_keep) (fail)
  go_wp2_with fail
  rw [rounds_succ]
  clear A0
  have A0 := D1.out
  go_wp2_with fail
  go_region_held3 (fun w' => w'.cell? ⟨w.heap.size, 1, none⟩ = some (.int .u64 a1) ∧ w'.cell? ⟨w.heap.size + 1, 1, none⟩ = some (.int .u64 b1)) (go_keep) (fail)
  go_wp2_with fail
  rw [rounds_succ]
  clear A0
  have A0 := D2.out
  go_wp2_with fail
  go_region_held3 (fun w' => w'.cell? ⟨w.heap.size, 2, none⟩ = some (.int .u64 a2) ∧ w'.cell? ⟨w.heap.size + 1, 2, none⟩ = some (.int .u64 b2)) (go_keep) (fail)
  go_wp2_with fail
  rw [rounds_succ]
  clear A0
  have A0 := D3.out
  go_wp2_with fail
  go_region_held3 (fun w' => w'.cell? ⟨w.heap.size, 3, none⟩ = some (.int .u64 a3) ∧ w'.cell? ⟨w.heap.size + 1, 3, none⟩ = some (.int .u64 b3)) (go_keep) (fail)
  go_wp2_with fail
  rw [rounds_succ]
  clear A0
  go_wp2
  exact bodyPost_ret (v := .agg #[.int .u64 (addLo a0 b0 0), .int .u64 (addLo a1 b1 c1), .int .u64 (addLo a2 b2 c2), .int .u64 (addLo a3 b3 c3)]) (by simp [results, Try.results23, go_sem]) rfl ⟨rfl, (by repeat (first | with_reducible assumption | exact Upd.refl _ _ | (refine Upd.setNew ?_ (by first | (simp; done) | (simp; omega)) _) | (refine Upd.alloc ?_ _) | (refine Upd.drewN ?_ _) | (refine Upd.drew ?_) | (refine Upd.trans ?_ (by with_reducible assumption))))⟩

def aboveW (a0 a1 a2 a3 b0 b1 b2 b3 : Int) : Bool := if a3 = b3 then if a2 = b2 then if a1 = b1 then decide (b0 < a0) else decide (b1 < a1) else decide (b2 < a2) else decide (b3 < a3)

set_option maxHeartbeats 4000000 in
theorem wideAbove (a0 a1 a2 a3 b0 b1 b2 b3 : Int) (w : World) :
    Calls Try.prog 24 #[.agg #[.int .u64 a0, .int .u64 a1, .int .u64 a2, .int .u64 a3], .agg #[.int .u64 b0, .int .u64 b1, .int .u64 b2, .int .u64 b3]] w fun e w' => e = .returned (.bool (aboveW a0 a1 a2 a3 b0 b1 b2 b3)) ∧ Upd No w w' := by
  unfold aboveW
  by_cases h3 : a3 = b3
  · rw [if_pos h3]
    have k3 : (a3 != b3) = false := by simp [h3]
    clear h3
    by_cases h2 : a2 = b2
    · rw [if_pos h2]
      have k2 : (a2 != b2) = false := by simp [h2]
      clear h2
      by_cases h1 : a1 = b1
      · rw [if_pos h1]
        have k1 : (a1 != b1) = false := by simp [h1]
        clear h1
        by_cases h0 : a0 = b0
        · have k0 : (a0 != b0) = false := by simp [h0]
          have kd : decide (b0 < a0) = false := by simp [h0]
          rw [kd]
          clear h0 kd
          go_enter Try.func24, Try.ntmps24
          go_wp2_with fail
          refine wp_loop_rounds 5 ?_
          rw [rounds_succ]
          go_wp2_with fail
          go_quiet (fail)
          go_wp2_with fail
          rw [rounds_succ]
          go_wp2_with fail
          go_quiet (fail)
          go_wp2_with fail
          rw [rounds_succ]
          go_wp2_with fail
          go_quiet (fail)
          go_wp2_with fail
          rw [rounds_succ]
          go_wp2_with fail
          go_quiet (fail)
          go_wp2_with fail
          rw [rounds_succ]
          go_wp2
          go_ret
          exact ⟨rfl, (by repeat (first | with_reducible assumption | exact Upd.refl _ _ | (refine Upd.setNew ?_ (by first | (simp; done) | (simp; omega)) _) | (refine Upd.alloc ?_ _) | (refine Upd.drewN ?_ _) | (refine Upd.drew ?_) | (refine Upd.trans ?_ (by with_reducible assumption))))⟩
        · have k0 : (a0 != b0) = true := by simp [h0]
          clear h0
          go_enter Try.func24, Try.ntmps24
          go_wp2_with fail
          refine wp_loop_rounds 5 ?_
          rw [rounds_succ]
          go_wp2_with fail
          go_quiet (fail)
          go_wp2_with fail
          rw [rounds_succ]
          go_wp2_with fail
          go_quiet (fail)
          go_wp2_with fail
          rw [rounds_succ]
          go_wp2_with fail
          go_quiet (fail)
          go_wp2_with fail
          rw [rounds_succ]
          go_wp2_with fail
          go_quiet (fail)
          go_wp2_with fail
          go_quiet (fail)
          go_wp2
          go_ret
          exact ⟨rfl, (by repeat (first | with_reducible assumption | exact Upd.refl _ _ | (refine Upd.setNew ?_ (by first | (simp; done) | (simp; omega)) _) | (refine Upd.alloc ?_ _) | (refine Upd.drewN ?_ _) | (refine Upd.drew ?_) | (refine Upd.trans ?_ (by with_reducible assumption))))⟩
      · rw [if_neg h1]
        have k1 : (a1 != b1) = true := by simp [h1]
        clear h1
        go_enter Try.func24, Try.ntmps24
        go_wp2_with fail
        refine wp_loop_rounds 5 ?_
        rw [rounds_succ]
        go_wp2_with fail
        go_quiet (fail)
        go_wp2_with fail
        rw [rounds_succ]
        go_wp2_with fail
        go_quiet (fail)
        go_wp2_with fail
        rw [rounds_succ]
        go_wp2_with fail
        go_quiet (fail)
        go_wp2_with fail
        go_quiet (fail)
        go_wp2
        go_ret
        exact ⟨rfl, (by repeat (first | with_reducible assumption | exact Upd.refl _ _ | (refine Upd.setNew ?_ (by first | (simp; done) | (simp; omega)) _) | (refine Upd.alloc ?_ _) | (refine Upd.drewN ?_ _) | (refine Upd.drew ?_) | (refine Upd.trans ?_ (by with_reducible assumption))))⟩
    · rw [if_neg h2]
      have k2 : (a2 != b2) = true := by simp [h2]
      clear h2
      go_enter Try.func24, Try.ntmps24
      go_wp2_with fail
      refine wp_loop_rounds 5 ?_
      rw [rounds_succ]
      go_wp2_with fail
      go_quiet (fail)
      go_wp2_with fail
      rw [rounds_succ]
      go_wp2_with fail
      go_quiet (fail)
      go_wp2_with fail
      go_quiet (fail)
      go_wp2
      go_ret
      exact ⟨rfl, (by repeat (first | with_reducible assumption | exact Upd.refl _ _ | (refine Upd.setNew ?_ (by first | (simp; done) | (simp; omega)) _) | (refine Upd.alloc ?_ _) | (refine Upd.drewN ?_ _) | (refine Upd.drew ?_) | (refine Upd.trans ?_ (by with_reducible assumption))))⟩
  · rw [if_neg h3]
    have k3 : (a3 != b3) = true := by simp [h3]
    clear h3
    go_enter Try.func24, Try.ntmps24
    go_wp2_with fail
    refine wp_loop_rounds 5 ?_
    rw [rounds_succ]
    go_wp2_with fail
    go_quiet (fail)
    go_wp2_with fail
    go_quiet (fail)
    go_wp2
    go_ret
    exact ⟨rfl, (by repeat (first | with_reducible assumption | exact Upd.refl _ _ | (refine Upd.setNew ?_ (by first | (simp; done) | (simp; omega)) _) | (refine Upd.alloc ?_ _) | (refine Upd.drewN ?_ _) | (refine Upd.drew ?_) | (refine Upd.trans ?_ (by with_reducible assumption))))⟩

end Go.Proofs.Ytabboklejodbaaa
