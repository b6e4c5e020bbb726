/- irq.New, and the chapter's example. -/
import Derived.Test.YtfehbkhmcngnpaaIrq2
namespace Go.Proofs.Ytfehbkhmcngnpaa
open Go.RowKit

theorem info_state : (Try.prog.info? 39).map (fun i => (i.zero, i.size, i.bytes)) = some (some (.agg #[.bool false, .bool false, .bool false, .int .i64 0]), 4, 16) := by kernel_rfl

/-- What irq.New leaves: a controller of n lines, all held back. -/
def Made (w : World) (n : Nat) (e : Ending) (w' : World) : Prop :=
  ∃ b g : Nat, w.heap.size ≤ b ∧ w.heap.size ≤ g ∧ e = .returned (.tuple #[.pointer (some ⟨b, 0, none⟩), .int .i64 0]) ∧ Ctl w' b g (List.replicate n ⟨false, true, false, 0⟩) ∧ Upd No w w'

theorem irqNew0 (n : Int) (w : World) (hn : n < 1 ∨ 8 < n) : Calls Try.prog 6 #[.int .i64 n] w fun e w' => e = .returned (.tuple #[.pointer none, .int .i64 1]) ∧ w = w' := by
  rcases hn with h | h
  all_goals
    go_enter Try.func6, Try.ntmps6
    go_wp2
    go_ret2
    exact ⟨rfl, rfl⟩

theorem irqNew (n : Nat) (w : World) (h1 : 1 ≤ n) (h8 : n ≤ 8) : Calls Try.prog 6 #[.int .i64 n] w (Made w n) := by
  obtain ⟨i0, hi, hz0, hz1, hz2⟩ := info_parts info_state
  have hmk := fun W => run_make_list (P := Try.prog) Ln.cells ⟨false, false, false, 0⟩ 51 39 i0 _ Try.underlying51 hi hz0 rfl (by rw [hz1]; rfl) .i64 .i64 n (by rw [hz2]; omega) (by omega) W
  go_enter Try.func6, Try.ntmps6
  go_wp2
  have hctl : Ctl ((w.alloc (.cells ((List.replicate n ⟨false, false, false, 0⟩).flatMap Ln.cells).toArray 39)).alloc (.cells #[.slice (some ⟨w.heap.size, 0, none⟩) n n] 53)) (w.heap.size + 1) w.heap.size (List.replicate n ⟨false, false, false, 0⟩) :=
    ⟨by have := Row.new (w.alloc (.cells ((List.replicate n ⟨false, false, false, 0⟩).flatMap Ln.cells).toArray 39)) 53 [.slice (some ⟨w.heap.size, 0, none⟩) n n]; simpa using this, (Row.new _ _ _).alloc _, by simpa using h8⟩
  have HC := Lib.hid hctl
  clear hctl hmk
  have hw0 : Upd No w ((w.alloc (.cells ((List.replicate n ⟨false, false, false, 0⟩).flatMap Ln.cells).toArray 39)).alloc (.cells #[.slice (some ⟨w.heap.size, 0, none⟩) n n] 53)) := (by repeat (first | with_reducible assumption | exact Upd.refl _ _ | (refine Upd.alloc ?_ _) | (refine Upd.drewN ?_ _) | (refine Upd.drew ?_) | (refine Upd.trans ?_ (by with_reducible assumption))))
  go_loopw [21] (fun i wr => ∃ k : Nat, k ≤ n ∧ i = .int .i64 k ∧ Ctl wr (w.heap.size + 1) w.heap.size (List.replicate k ⟨false, true, false, 0⟩ ++ List.replicate (n - k) ⟨false, false, false, 0⟩) ∧ Upd No w wr) (fun i _ => n - (intOf i).toNat)
  case atStart => exact ⟨0, Nat.zero_le _, rfl, by simpa using HC.out, hw0⟩
  case round =>
    clear hw0
    obtain ⟨k, hk, rfl, hc, hu⟩ := hrel
    by_cases hlt : k < n
    · have hx : (List.replicate k (⟨false, true, false, 0⟩ : Ln) ++ List.replicate (n - k) (⟨false, false, false, 0⟩ : Ln))[k]? = some ⟨false, false, false, 0⟩ := by
        rw [List.getElem?_append_right (by simp), List.length_replicate, Nat.sub_self, List.getElem?_replicate, if_pos (by omega)]
      obtain ⟨c0, c1, c2, c3, hf⟩ := hc.line hx
      have t0 := hc.top.cell (i := 0) rfl
      have hlen : (List.replicate k (⟨false, true, false, 0⟩ : Ln) ++ List.replicate (n - k) (⟨false, false, false, 0⟩ : Ln)).length = n := by simp; omega
      rw [hlen] at t0
      have hset : (List.replicate k (⟨false, true, false, 0⟩ : Ln) ++ List.replicate (n - k) (⟨false, false, false, 0⟩ : Ln)).set k (⟨false, true, false, 0⟩ : Ln) = List.replicate (k + 1) (⟨false, true, false, 0⟩ : Ln) ++ List.replicate (n - (k + 1)) (⟨false, false, false, 0⟩ : Ln) := by
        rw [List.set_append_right _ _ (by simp), show n - k = (n - (k + 1)) + 1 by omega, List.replicate_succ (n := n - (k + 1)), List.replicate_succ' (n := k)]
        simp
      have hc2 := hc.set (j := 1) (u := .bool true) (y := ⟨false, true, false, 0⟩) hx (by omega) (by simp [Ln.cells])
      rw [hset] at hc2
      have HC2 := Lib.hid hc2
      clear hx hlen hset hc2 HC hc
      go_wp2
      go_roundw
      case rel => exact ⟨k + 1, by omega, by go_num, HC2.out, hu.setNew (by simp) _⟩
      case measure => simp [intOf]; omega
    · have t0 := hc.top.cell (i := 0) rfl
      go_wp2
      go_ret2
      have e : k = n := by omega
      subst e
      exact ⟨w.heap.size + 1, w.heap.size, by omega, by omega, rfl, by simpa using hc, hu⟩

/-- The chapter's example. -/
theorem lawAwake (w : World) : Calls Try.prog 5 #[] w fun e w' => e = .returned (.bool true) ∧ Upd No w w' := by
  go_enter Try.func5, Try.ntmps5
  go_wp2_with fail
  refine (irqNew 3 w (by omega) (by omega)).mono ?_
  rintro e w1 ⟨b, g, hb, hg, rfl, hc, hu⟩
  go_wp2_with fail
  have k1 := irqRaise b g [⟨false, true, false, 0⟩, ⟨false, true, false, 0⟩, ⟨false, true, false, 0⟩] 1 w1 hc
  rw [show raiseL [⟨false, true, false, 0⟩, ⟨false, true, false, 0⟩, ⟨false, true, false, 0⟩] 1 = ([⟨false, true, false, 0⟩, ⟨true, true, false, 0⟩, ⟨false, true, false, 0⟩], 0) from rfl] at k1
  refine k1.mono ?_
  clear k1
  rintro e w2 ⟨rfl, hc2, hu2⟩
  go_wp2_with fail
  have k2 := irqNext b g _ w2 hc2
  rw [show nextL [⟨false, true, false, 0⟩, ⟨true, true, false, 0⟩, ⟨false, true, false, 0⟩] = ([⟨false, true, false, 0⟩, ⟨true, true, false, 0⟩, ⟨false, true, false, 0⟩], none) from rfl] at k2
  refine k2.mono ?_
  clear k2
  rintro e w3 ⟨rfl, hc3, hu3⟩
  go_wp2_with fail
  have k3 := irqMask b g _ 1 false w3 hc3
  rw [show maskL [⟨false, true, false, 0⟩, ⟨true, true, false, 0⟩, ⟨false, true, false, 0⟩] 1 false = ([⟨false, true, false, 0⟩, ⟨true, false, false, 0⟩, ⟨false, true, false, 0⟩], 0) from rfl] at k3
  refine k3.mono ?_
  clear k3
  rintro e w4 ⟨rfl, hc4, hu4⟩
  go_wp2_with fail
  have k4 := irqNext b g _ w4 hc4
  rw [show nextL [⟨false, true, false, 0⟩, ⟨true, false, false, 0⟩, ⟨false, true, false, 0⟩] = ([⟨false, true, false, 0⟩, ⟨false, false, true, 0⟩, ⟨false, true, false, 0⟩], some 1) from rfl] at k4
  refine k4.mono ?_
  clear k4
  rintro e w5 ⟨rfl, hc5, hu5⟩
  go_wp2_with fail
  go_ret
  have hnew : ∀ i, i < w.heap.size → at1 g i → No i := fun i hi e => by unfold at1 at e; omega
  exact ⟨rfl, (((hu.transNew hu2 hnew).transNew hu3 hnew).transNew hu4 hnew).transNew hu5 hnew⟩

end Go.Proofs.Ytfehbkhmcngnpaa
