/- The walk of IrqOnce: it answers true, whatever it is given. -/
import Derived.Test.YtfehbkhmcngnpaaOnce
namespace Go.Proofs.Ytfehbkhmcngnpaa
open Go.RowKit

set_option maxRecDepth 100000 in
set_option maxHeartbeats 3000000 in
theorem lawOnce0 (n : Int) (A : Option Addr) (len cap : Nat) (l : List Act3) (hn : len = l.length) (hm : len ≤ 9223372036854775807) (h0 : 0 ≤ n) (h1 : n ≤ 255) (w : World) (H : Rd w A (l.flatMap Act3.cells)) :
    Calls Try.prog 3 #[.int .u8 n, .slice A len cap] w fun e w' => e = .returned (.bool true) ∧ Upd No w w' := by
  have hmi : ∀ w : World, (Instr.makeSlice 28 (.int .i64 8) (.int .i64 8)).run Try.prog w = .ok (.slice (some ⟨w.heap.size, 0, none⟩) 8 8) (w.alloc (.cells #[.int .i64 0, .int .i64 0, .int .i64 0, .int .i64 0, .int .i64 0, .int .i64 0, .int .i64 0, .int .i64 0] 3)) := fun _ => by kernel_rfl
  have hmb : ∀ w : World, (Instr.makeSlice 29 (.int .i64 8) (.int .i64 8)).run Try.prog w = .ok (.slice (some ⟨w.heap.size, 0, none⟩) 8 8) (w.alloc (.cells #[.bool false, .bool false, .bool false, .bool false, .bool false, .bool false, .bool false, .bool false] 4)) := fun _ => by kernel_rfl
  have HN := Lib.hid hn
  clear hn
  go_enter Try.func3, Try.ntmps3
  go_wp2_with fail
  refine (lawAwake w).mono ?_
  rintro e w1 ⟨rfl, hu1⟩
  go_wp2_with fail
  obtain ⟨m, hmm⟩ : ∃ m : Nat, 1 + n % 8 = (m : Int) := ⟨(1 + n % 8).toNat, by omega⟩
  rw [hmm]
  have hm1 : 1 ≤ m ∧ m ≤ 8 := by omega
  have HMM := Lib.hid hmm
  clear hmm
  refine (irqNew m w1 hm1.1 hm1.2).mono ?_
  rintro e w2 ⟨b, g, hb, hg, rfl, hc, hu2⟩
  have hb2 : Upd No w w2 := hu1.trans hu2
  go_wp2_with fail
  go_region
  all_goals go_wp2
  · generalize hA3 : w2.heap.size + 1 + 1 = a3
    generalize hA2 : w2.heap.size + 1 = a2
    generalize hA1 : w2.heap.size = a1
    have HA : Hid (a1 = w2.heap.size ∧ a2 = w2.heap.size + 1 ∧ a3 = w2.heap.size + 1 + 1 ∨ a1 = w2.heap.size + 1 ∧ a2 = w2.heap.size ∧ a3 = w2.heap.size + 1 + 1) := Lib.hid (.inl ⟨hA1.symm, hA2.symm, hA3.symm⟩)
    clear hA1 hA2 hA3
    go_loopw [10] (fun i wr => ∃ (k : Nat) (L : List Ln) (A R : List Int) (T : List Bool), k ≤ len ∧ k ≤ 100 ∧ i = .int .i64 k ∧ Upd No w wr ∧ Ctl wr b g L ∧ Row wr a1 3 (A.map (Value.int .i64)) ∧ Row wr a2 3 (R.map (Value.int .i64)) ∧ Row wr a3 4 (T.map Value.bool) ∧ OnceInv k L A R T) (fun i _ => len - (intOf i).toNat)
    case atStart =>
      refine ⟨0, _, _, _, _, Nat.zero_le _, by omega, rfl, (by repeat (first | with_reducible assumption | exact Upd.refl _ _ | (refine Upd.alloc ?_ _) | (refine Upd.drewN ?_ _) | (refine Upd.drew ?_) | (refine Upd.trans ?_ (by with_reducible assumption)))), hc.updNo (by repeat (first | with_reducible assumption | exact Upd.refl _ _ | (refine Upd.alloc ?_ _) | (refine Upd.drewN ?_ _) | (refine Upd.drew ?_) | (refine Upd.trans ?_ (by with_reducible assumption)))), ?_, ?_, ?_, onceStart m hm1.2⟩
      · rcases HA.out with ⟨rfl, rfl, rfl⟩ | ⟨rfl, rfl, rfl⟩ <;> exact (by repeat (first | with_reducible assumption | (refine Row.newAt _ _ _ _ ?_; first | rfl | (simp; done)) | (refine Row.drew ?_) | (refine Row.drewN ?_ _) | (refine Row.alloc ?_ _)))
      · rcases HA.out with ⟨rfl, rfl, rfl⟩ | ⟨rfl, rfl, rfl⟩ <;> exact (by repeat (first | with_reducible assumption | (refine Row.newAt _ _ _ _ ?_; first | rfl | (simp; done)) | (refine Row.drew ?_) | (refine Row.drewN ?_ _) | (refine Row.alloc ?_ _)))
      · rcases HA.out with ⟨rfl, rfl, rfl⟩ | ⟨rfl, rfl, rfl⟩ <;> exact (by repeat (first | with_reducible assumption | (refine Row.newAt _ _ _ _ ?_; first | rfl | (simp; done)) | (refine Row.drew ?_) | (refine Row.drewN ?_ _) | (refine Row.alloc ?_ _)))
    case round =>
      clear hc hmi hmb
      obtain ⟨k, L, AA, R, T, hk, hk100, rfl, hu, hC, hRA, hRR, hRT, hinv⟩ := hrel
      have hn1 : w.heap.size ≤ a1 ∧ w.heap.size ≤ a2 ∧ w.heap.size ≤ a3 ∧ a1 ≠ a2 := by
        have := hb2.size
        rcases HA.out with ⟨e1, e2, e3⟩ | ⟨e1, e2, e3⟩ <;> omega
      obtain ⟨n1, n2, n3, n4⟩ := hn1
      have n5 : w.heap.size ≤ g := by have := hu1.size; omega
      have d1 : a1 ≠ g := hRA.ne hC.rows (by decide)
      have d2 : a2 ≠ g := hRR.ne hC.rows (by decide)
      have d3 : a3 ≠ g := hRT.ne hC.rows (by decide)
      have d4 : a3 ≠ a1 := hRT.ne hRA (by decide)
      have d5 : a3 ≠ a2 := hRT.ne hRR (by decide)
      have f1 : a1 ≠ b := hRA.ne hC.top (by decide)
      have f2 : a2 ≠ b := hRR.ne hC.top (by decide)
      have f3 : a3 ≠ b := hRT.ne hC.top (by decide)
      have hgw : wr.heap.size ≠ g := by have := hC.rows.lt; omega
      have n0 : ∀ i, i < w.heap.size → at1 g i → No i := fun i hi e => by unfold at1 at e; omega
      have N0 := Lib.hid n0
      clear n0
      by_cases hend : len ≤ k ∨ 100 ≤ k
      · have hdone : ∀ wx, Upd No w wx → True := fun _ _ => trivial
        by_cases hlk : k < len
        · have hk9 : 100 ≤ k := by omega
          clear hend
          go_wp2_with (go_at_call 5; refine (lawAwake _).mono ?_; rintro e w9 ⟨rfl, hu9⟩)
          go_ret
          exact ⟨rfl, hu.trans hu9⟩
        · clear hend
          go_wp2_with (go_at_call 5; refine (lawAwake _).mono ?_; rintro e w9 ⟨rfl, hu9⟩)
          go_ret
          exact ⟨rfl, hu.trans hu9⟩
      · have hlt : k < len := by omega
        have hlt9 : k < 100 := by omega
        clear hend
        obtain ⟨t, ht⟩ : ∃ t, l[k]? = some t := ⟨l[k]'(by rw [← HN.out]; exact hlt), List.getElem?_eq_getElem _⟩
        obtain ⟨ga, o, rfl, c0, c1, c2⟩ := (H.upd hu).act ht
        clear ht
        have hCb : Ctl (wr.alloc (.cells #[.int .i64 t.kind, .int .i64 t.line, .bool t.held] 31)) b g L := hC.updNo (by repeat (first | with_reducible assumption | exact Upd.refl _ _ | (refine Upd.alloc ?_ _) | (refine Upd.drewN ?_ _) | (refine Upd.drew ?_) | (refine Upd.trans ?_ (by with_reducible assumption))))
        have hbx := (Upd.refl No (wr.alloc (.cells #[.int .i64 t.kind, .int .i64 t.line, .bool t.held] 31))).box
        have HBX := Lib.hid hbx
        have hRA' := hRA.alloc (.cells #[.int .i64 t.kind, .int .i64 t.line, .bool t.held] 31)
        have hRR' := hRR.alloc (.cells #[.int .i64 t.kind, .int .i64 t.line, .bool t.held] 31)
        have hRT' := hRT.alloc (.cells #[.int .i64 t.kind, .int .i64 t.line, .bool t.held] 31)
        have hub : Upd No w (wr.alloc (.cells #[.int .i64 t.kind, .int .i64 t.line, .bool t.held] 31)) := (by repeat (first | with_reducible assumption | exact Upd.refl _ _ | (refine Upd.alloc ?_ _) | (refine Upd.drewN ?_ _) | (refine Upd.drew ?_) | (refine Upd.trans ?_ (by with_reducible assumption))))
        clear hbx hC hRA hRR hRT hu
        by_cases k1 : t.kind = 1
        · have q1 : (t.kind == 1) = true := by simp [k1]
          clear k1
          go_wp2_with (go_at_call 7; refine (irqMask b g L t.line t.held _ hCb).mono ?_; rintro e w3 ⟨rfl, hC3, hu3⟩)
          go_roundw
          case rel => exact ⟨k + 1, _, _, _, _, by omega, by omega, by go_num, hub.transNew hu3 N0.out, hC3, hRA'.upd hu3 d1, hRR'.upd hu3 d2, hRT'.upd hu3 d3, (hinv.mask _ _).more⟩
          case measure => simp [intOf]; omega
        have q1 : (t.kind == 1) = false := by simp [k1]
        clear k1
        by_cases k2 : t.kind = 2
        · have q2 : (t.kind == 2) = true := by simp [k2]
          clear k2
          rcases nextL_cases L with hnx | ⟨kk, x, hx, hup, hnx⟩
          · have HNX := Lib.hid hnx
            clear hnx
            go_wp2_with (go_at_call 8; refine (irqNext b g L _ hCb).mono ?_; rw [HNX.out]; rintro e w3 ⟨rfl, hC3, hu3⟩)
            go_roundw
            case rel => exact ⟨k + 1, _, _, _, _, by omega, by omega, by go_num, hub.transNew hu3 N0.out, hC3, hRA'.upd hu3 d1, hRR'.upd hu3 d2, hRT'.upd hu3 d3, hinv.more⟩
            case measure => simp [intOf]; omega
          · have HNX := Lib.hid hnx
            clear hnx
            obtain ⟨u, v, tt, hk8, hAk, hRk, hTk, hv1, hu1', hinv'⟩ := hinv.told hx hup
            have cT : ∀ w3, Upd (at1 g) (wr.alloc (.cells #[.int .i64 t.kind, .int .i64 t.line, .bool t.held] 31)) w3 → w3.cell? ⟨a1, kk, none⟩ = some (.int .i64 u) ∧ w3.cell? ⟨a2, kk, none⟩ = some (.int .i64 v) ∧ w3.cell? ⟨a3, kk, none⟩ = some (.bool tt) ∧ (∀ j, w3.frozen? ⟨a1, j, none⟩ = false) ∧ (∀ j, w3.frozen? ⟨a2, j, none⟩ = false) ∧ (∀ j, w3.frozen? ⟨a3, j, none⟩ = false) := fun w3 hu3 =>
              ⟨(hRA'.upd hu3 d1).cell (by simp [hAk]), (hRR'.upd hu3 d2).cell (by simp [hRk]), (hRT'.upd hu3 d3).cell (by simp [hTk]), (hRA'.upd hu3 d1).frozen, (hRR'.upd hu3 d2).frozen, (hRT'.upd hu3 d3).frozen⟩
            have CT := Lib.hid cT
            have HX := Lib.hid hx
            clear cT hAk hRk hTk hx hup
            cases htt : tt
            all_goals
              subst htt
              go_wp2_with (go_at_call 8; refine (irqNext b g L _ hCb).mono ?_; rw [HNX.out]; rintro e w3 ⟨rfl, hC3, hu3⟩; obtain ⟨s1, s2, s3, s4, s5, s6⟩ := CT.out w3 hu3; try (have hu1'' := hu1' rfl); try clear hu1')
              go_roundw
              case rel => exact ⟨k + 1, _, _, _, _, by omega, by omega, by go_num, (((hub.transNew hu3 N0.out).setNew n3 _).setNew n1 _).setNew n2 _, ((hC3.far f3 d3 _).far f1 d1 _).far f2 d2 _,
                ((((hRA'.upd hu3 d1).far d4.symm _).set kk _).far n4 _).same (by simp), (((hRR'.upd hu3 d2).far d5.symm _).far n4.symm _ |>.set kk _).same (by simp), ((((hRT'.upd hu3 d3).set kk _).far d4 _).far d5 _).same (by simp), hinv'.more⟩
              case measure => simp [intOf]; omega
        have q2 : (t.kind == 2) = false := by simp [k2]
        clear k2
        have cB : ∀ w3, Upd (at1 g) (wr.alloc (.cells #[.int .i64 t.kind, .int .i64 t.line, .bool t.held] 31)) w3 → w3.cell? ⟨wr.heap.size, 1, none⟩ = some (.int .i64 t.line) := fun w3 hu3 => hu3.cell (by rw [HBX.out 1]; rfl) hgw
        have CB := Lib.hid cB
        clear cB
        by_cases k3 : t.kind = 3
        · have q3 : (t.kind == 3) = true := by simp [k3]
          clear k3
          by_cases hz : (ackL L t.line).2 = 0
          · have qz : ((ackL L t.line).2 == 0) = true := by simp [hz]
            obtain ⟨v, i0, i8, hv, v0, vk, hinv'⟩ := hinv.ack1 hz
            clear hz
            have cT : ∀ w3, Upd (at1 g) (wr.alloc (.cells #[.int .i64 t.kind, .int .i64 t.line, .bool t.held] 31)) w3 → w3.cell? ⟨a1, t.line.toNat, none⟩ = some (.int .i64 v) ∧ (∀ j, w3.frozen? ⟨a1, j, none⟩ = false) := fun w3 hu3 =>
              ⟨(hRA'.upd hu3 d1).cell (by simp [hv]), (hRA'.upd hu3 d1).frozen⟩
            have CT := Lib.hid cT
            clear cT hv
            go_wp2_with (go_at_call 9; refine (irqAck b g L t.line _ hCb).mono ?_; rintro e w3 ⟨rfl, hC3, hu3⟩; obtain ⟨s1, s4⟩ := CT.out w3 hu3; have s2 := CB.out w3 hu3)
            go_roundw
            case rel => exact ⟨k + 1, _, _, _, _, by omega, by omega, by go_num, (hub.transNew hu3 N0.out).setNew n1 _, hC3.far f1 d1 _, ((hRA'.upd hu3 d1).set _ _).same (by simp), (hRR'.upd hu3 d2).far n4.symm _, (hRT'.upd hu3 d3).far d4 _, hinv'⟩
            case measure => simp [intOf]; omega
          · have qz : ((ackL L t.line).2 == 0) = false := by simp [hz]
            have hinv' := (hinv.ack0 hz).more
            clear hz
            go_wp2_with (go_at_call 9; refine (irqAck b g L t.line _ hCb).mono ?_; rintro e w3 ⟨rfl, hC3, hu3⟩)
            go_roundw
            case rel => exact ⟨k + 1, _, _, _, _, by omega, by omega, by go_num, hub.transNew hu3 N0.out, hC3, hRA'.upd hu3 d1, hRR'.upd hu3 d2, hRT'.upd hu3 d3, hinv'⟩
            case measure => simp [intOf]; omega
        have q3 : (t.kind == 3) = false := by simp [k3]
        clear k3
        by_cases hz : (raiseL L t.line).2 = 0
        · have qz : ((raiseL L t.line).2 == 0) = true := by simp [hz]
          obtain ⟨v, i0, i8, hv, v0, vk, hinv'⟩ := hinv.raise1 hz
          clear hz
          have cT : ∀ w3, Upd (at1 g) (wr.alloc (.cells #[.int .i64 t.kind, .int .i64 t.line, .bool t.held] 31)) w3 → w3.cell? ⟨a2, t.line.toNat, none⟩ = some (.int .i64 v) ∧ (∀ j, w3.frozen? ⟨a2, j, none⟩ = false) := fun w3 hu3 =>
            ⟨(hRR'.upd hu3 d2).cell (by simp [hv]), (hRR'.upd hu3 d2).frozen⟩
          have CT := Lib.hid cT
          clear cT hv
          go_wp2_with (go_at_call 10; refine (irqRaise b g L t.line _ hCb).mono ?_; rintro e w3 ⟨rfl, hC3, hu3⟩; obtain ⟨s1, s4⟩ := CT.out w3 hu3; have s2 := CB.out w3 hu3)
          go_roundw
          case rel => exact ⟨k + 1, _, _, _, _, by omega, by omega, by go_num, (hub.transNew hu3 N0.out).setNew n2 _, hC3.far f2 d2 _, (hRA'.upd hu3 d1).far n4 _, ((hRR'.upd hu3 d2).set _ _).same (by simp), (hRT'.upd hu3 d3).far d5 _, hinv'⟩
          case measure => simp [intOf]; omega
        · have qz : ((raiseL L t.line).2 == 0) = false := by simp [hz]
          have hinv' := (hinv.raise0 hz).more
          clear hz
          go_wp2_with (go_at_call 10; refine (irqRaise b g L t.line _ hCb).mono ?_; rintro e w3 ⟨rfl, hC3, hu3⟩)
          go_roundw
          case rel => exact ⟨k + 1, _, _, _, _, by omega, by omega, by go_num, hub.transNew hu3 N0.out, hC3, hRA'.upd hu3 d1, hRR'.upd hu3 d2, hRT'.upd hu3 d3, hinv'⟩
          case measure => simp [intOf]; omega
  · generalize hA3 : w2.heap.size + 1 + 1 = a3
    generalize hA2 : w2.heap.size + 1 = a1
    generalize hA1 : w2.heap.size = a2
    have HA : Hid (a1 = w2.heap.size ∧ a2 = w2.heap.size + 1 ∧ a3 = w2.heap.size + 1 + 1 ∨ a1 = w2.heap.size + 1 ∧ a2 = w2.heap.size ∧ a3 = w2.heap.size + 1 + 1) := Lib.hid (.inr ⟨hA2.symm, hA1.symm, hA3.symm⟩)
    clear hA1 hA2 hA3
    go_loopw [10] (fun i wr => ∃ (k : Nat) (L : List Ln) (A R : List Int) (T : List Bool), k ≤ len ∧ k ≤ 100 ∧ i = .int .i64 k ∧ Upd No w wr ∧ Ctl wr b g L ∧ Row wr a1 3 (A.map (Value.int .i64)) ∧ Row wr a2 3 (R.map (Value.int .i64)) ∧ Row wr a3 4 (T.map Value.bool) ∧ OnceInv k L A R T) (fun i _ => len - (intOf i).toNat)
    case atStart =>
      refine ⟨0, _, _, _, _, Nat.zero_le _, by omega, rfl, (by repeat (first | with_reducible assumption | exact Upd.refl _ _ | (refine Upd.alloc ?_ _) | (refine Upd.drewN ?_ _) | (refine Upd.drew ?_) | (refine Upd.trans ?_ (by with_reducible assumption)))), hc.updNo (by repeat (first | with_reducible assumption | exact Upd.refl _ _ | (refine Upd.alloc ?_ _) | (refine Upd.drewN ?_ _) | (refine Upd.drew ?_) | (refine Upd.trans ?_ (by with_reducible assumption)))), ?_, ?_, ?_, onceStart m hm1.2⟩
      · rcases HA.out with ⟨rfl, rfl, rfl⟩ | ⟨rfl, rfl, rfl⟩ <;> exact (by repeat (first | with_reducible assumption | (refine Row.newAt _ _ _ _ ?_; first | rfl | (simp; done)) | (refine Row.drew ?_) | (refine Row.drewN ?_ _) | (refine Row.alloc ?_ _)))
      · rcases HA.out with ⟨rfl, rfl, rfl⟩ | ⟨rfl, rfl, rfl⟩ <;> exact (by repeat (first | with_reducible assumption | (refine Row.newAt _ _ _ _ ?_; first | rfl | (simp; done)) | (refine Row.drew ?_) | (refine Row.drewN ?_ _) | (refine Row.alloc ?_ _)))
      · rcases HA.out with ⟨rfl, rfl, rfl⟩ | ⟨rfl, rfl, rfl⟩ <;> exact (by repeat (first | with_reducible assumption | (refine Row.newAt _ _ _ _ ?_; first | rfl | (simp; done)) | (refine Row.drew ?_) | (refine Row.drewN ?_ _) | (refine Row.alloc ?_ _)))
    case round =>
      clear hc hmi hmb
      obtain ⟨k, L, AA, R, T, hk, hk100, rfl, hu, hC, hRA, hRR, hRT, hinv⟩ := hrel
      have hn1 : w.heap.size ≤ a1 ∧ w.heap.size ≤ a2 ∧ w.heap.size ≤ a3 ∧ a1 ≠ a2 := by
        have := hb2.size
        rcases HA.out with ⟨e1, e2, e3⟩ | ⟨e1, e2, e3⟩ <;> omega
      obtain ⟨n1, n2, n3, n4⟩ := hn1
      have n5 : w.heap.size ≤ g := by have := hu1.size; omega
      have d1 : a1 ≠ g := hRA.ne hC.rows (by decide)
      have d2 : a2 ≠ g := hRR.ne hC.rows (by decide)
      have d3 : a3 ≠ g := hRT.ne hC.rows (by decide)
      have d4 : a3 ≠ a1 := hRT.ne hRA (by decide)
      have d5 : a3 ≠ a2 := hRT.ne hRR (by decide)
      have f1 : a1 ≠ b := hRA.ne hC.top (by decide)
      have f2 : a2 ≠ b := hRR.ne hC.top (by decide)
      have f3 : a3 ≠ b := hRT.ne hC.top (by decide)
      have hgw : wr.heap.size ≠ g := by have := hC.rows.lt; omega
      have n0 : ∀ i, i < w.heap.size → at1 g i → No i := fun i hi e => by unfold at1 at e; omega
      have N0 := Lib.hid n0
      clear n0
      by_cases hend : len ≤ k ∨ 100 ≤ k
      · have hdone : ∀ wx, Upd No w wx → True := fun _ _ => trivial
        by_cases hlk : k < len
        · have hk9 : 100 ≤ k := by omega
          clear hend
          go_wp2_with (go_at_call 5; refine (lawAwake _).mono ?_; rintro e w9 ⟨rfl, hu9⟩)
          go_ret
          exact ⟨rfl, hu.trans hu9⟩
        · clear hend
          go_wp2_with (go_at_call 5; refine (lawAwake _).mono ?_; rintro e w9 ⟨rfl, hu9⟩)
          go_ret
          exact ⟨rfl, hu.trans hu9⟩
      · have hlt : k < len := by omega
        have hlt9 : k < 100 := by omega
        clear hend
        obtain ⟨t, ht⟩ : ∃ t, l[k]? = some t := ⟨l[k]'(by rw [← HN.out]; exact hlt), List.getElem?_eq_getElem _⟩
        obtain ⟨ga, o, rfl, c0, c1, c2⟩ := (H.upd hu).act ht
        clear ht
        have hCb : Ctl (wr.alloc (.cells #[.int .i64 t.kind, .int .i64 t.line, .bool t.held] 31)) b g L := hC.updNo (by repeat (first | with_reducible assumption | exact Upd.refl _ _ | (refine Upd.alloc ?_ _) | (refine Upd.drewN ?_ _) | (refine Upd.drew ?_) | (refine Upd.trans ?_ (by with_reducible assumption))))
        have hbx := (Upd.refl No (wr.alloc (.cells #[.int .i64 t.kind, .int .i64 t.line, .bool t.held] 31))).box
        have HBX := Lib.hid hbx
        have hRA' := hRA.alloc (.cells #[.int .i64 t.kind, .int .i64 t.line, .bool t.held] 31)
        have hRR' := hRR.alloc (.cells #[.int .i64 t.kind, .int .i64 t.line, .bool t.held] 31)
        have hRT' := hRT.alloc (.cells #[.int .i64 t.kind, .int .i64 t.line, .bool t.held] 31)
        have hub : Upd No w (wr.alloc (.cells #[.int .i64 t.kind, .int .i64 t.line, .bool t.held] 31)) := (by repeat (first | with_reducible assumption | exact Upd.refl _ _ | (refine Upd.alloc ?_ _) | (refine Upd.drewN ?_ _) | (refine Upd.drew ?_) | (refine Upd.trans ?_ (by with_reducible assumption))))
        clear hbx hC hRA hRR hRT hu
        by_cases k1 : t.kind = 1
        · have q1 : (t.kind == 1) = true := by simp [k1]
          clear k1
          go_wp2_with (go_at_call 7; refine (irqMask b g L t.line t.held _ hCb).mono ?_; rintro e w3 ⟨rfl, hC3, hu3⟩)
          go_roundw
          case rel => exact ⟨k + 1, _, _, _, _, by omega, by omega, by go_num, hub.transNew hu3 N0.out, hC3, hRA'.upd hu3 d1, hRR'.upd hu3 d2, hRT'.upd hu3 d3, (hinv.mask _ _).more⟩
          case measure => simp [intOf]; omega
        have q1 : (t.kind == 1) = false := by simp [k1]
        clear k1
        by_cases k2 : t.kind = 2
        · have q2 : (t.kind == 2) = true := by simp [k2]
          clear k2
          rcases nextL_cases L with hnx | ⟨kk, x, hx, hup, hnx⟩
          · have HNX := Lib.hid hnx
            clear hnx
            go_wp2_with (go_at_call 8; refine (irqNext b g L _ hCb).mono ?_; rw [HNX.out]; rintro e w3 ⟨rfl, hC3, hu3⟩)
            go_roundw
            case rel => exact ⟨k + 1, _, _, _, _, by omega, by omega, by go_num, hub.transNew hu3 N0.out, hC3, hRA'.upd hu3 d1, hRR'.upd hu3 d2, hRT'.upd hu3 d3, hinv.more⟩
            case measure => simp [intOf]; omega
          · have HNX := Lib.hid hnx
            clear hnx
            obtain ⟨u, v, tt, hk8, hAk, hRk, hTk, hv1, hu1', hinv'⟩ := hinv.told hx hup
            have cT : ∀ w3, Upd (at1 g) (wr.alloc (.cells #[.int .i64 t.kind, .int .i64 t.line, .bool t.held] 31)) w3 → w3.cell? ⟨a1, kk, none⟩ = some (.int .i64 u) ∧ w3.cell? ⟨a2, kk, none⟩ = some (.int .i64 v) ∧ w3.cell? ⟨a3, kk, none⟩ = some (.bool tt) ∧ (∀ j, w3.frozen? ⟨a1, j, none⟩ = false) ∧ (∀ j, w3.frozen? ⟨a2, j, none⟩ = false) ∧ (∀ j, w3.frozen? ⟨a3, j, none⟩ = false) := fun w3 hu3 =>
              ⟨(hRA'.upd hu3 d1).cell (by simp [hAk]), (hRR'.upd hu3 d2).cell (by simp [hRk]), (hRT'.upd hu3 d3).cell (by simp [hTk]), (hRA'.upd hu3 d1).frozen, (hRR'.upd hu3 d2).frozen, (hRT'.upd hu3 d3).frozen⟩
            have CT := Lib.hid cT
            have HX := Lib.hid hx
            clear cT hAk hRk hTk hx hup
            cases htt : tt
            all_goals
              subst htt
              go_wp2_with (go_at_call 8; refine (irqNext b g L _ hCb).mono ?_; rw [HNX.out]; rintro e w3 ⟨rfl, hC3, hu3⟩; obtain ⟨s1, s2, s3, s4, s5, s6⟩ := CT.out w3 hu3; try (have hu1'' := hu1' rfl); try clear hu1')
              go_roundw
              case rel => exact ⟨k + 1, _, _, _, _, by omega, by omega, by go_num, (((hub.transNew hu3 N0.out).setNew n3 _).setNew n1 _).setNew n2 _, ((hC3.far f3 d3 _).far f1 d1 _).far f2 d2 _,
                ((((hRA'.upd hu3 d1).far d4.symm _).set kk _).far n4 _).same (by simp), (((hRR'.upd hu3 d2).far d5.symm _).far n4.symm _ |>.set kk _).same (by simp), ((((hRT'.upd hu3 d3).set kk _).far d4 _).far d5 _).same (by simp), hinv'.more⟩
              case measure => simp [intOf]; omega
        have q2 : (t.kind == 2) = false := by simp [k2]
        clear k2
        have cB : ∀ w3, Upd (at1 g) (wr.alloc (.cells #[.int .i64 t.kind, .int .i64 t.line, .bool t.held] 31)) w3 → w3.cell? ⟨wr.heap.size, 1, none⟩ = some (.int .i64 t.line) := fun w3 hu3 => hu3.cell (by rw [HBX.out 1]; rfl) hgw
        have CB := Lib.hid cB
        clear cB
        by_cases k3 : t.kind = 3
        · have q3 : (t.kind == 3) = true := by simp [k3]
          clear k3
          by_cases hz : (ackL L t.line).2 = 0
          · have qz : ((ackL L t.line).2 == 0) = true := by simp [hz]
            obtain ⟨v, i0, i8, hv, v0, vk, hinv'⟩ := hinv.ack1 hz
            clear hz
            have cT : ∀ w3, Upd (at1 g) (wr.alloc (.cells #[.int .i64 t.kind, .int .i64 t.line, .bool t.held] 31)) w3 → w3.cell? ⟨a1, t.line.toNat, none⟩ = some (.int .i64 v) ∧ (∀ j, w3.frozen? ⟨a1, j, none⟩ = false) := fun w3 hu3 =>
              ⟨(hRA'.upd hu3 d1).cell (by simp [hv]), (hRA'.upd hu3 d1).frozen⟩
            have CT := Lib.hid cT
            clear cT hv
            go_wp2_with (go_at_call 9; refine (irqAck b g L t.line _ hCb).mono ?_; rintro e w3 ⟨rfl, hC3, hu3⟩; obtain ⟨s1, s4⟩ := CT.out w3 hu3; have s2 := CB.out w3 hu3)
            go_roundw
            case rel => exact ⟨k + 1, _, _, _, _, by omega, by omega, by go_num, (hub.transNew hu3 N0.out).setNew n1 _, hC3.far f1 d1 _, ((hRA'.upd hu3 d1).set _ _).same (by simp), (hRR'.upd hu3 d2).far n4.symm _, (hRT'.upd hu3 d3).far d4 _, hinv'⟩
            case measure => simp [intOf]; omega
          · have qz : ((ackL L t.line).2 == 0) = false := by simp [hz]
            have hinv' := (hinv.ack0 hz).more
            clear hz
            go_wp2_with (go_at_call 9; refine (irqAck b g L t.line _ hCb).mono ?_; rintro e w3 ⟨rfl, hC3, hu3⟩)
            go_roundw
            case rel => exact ⟨k + 1, _, _, _, _, by omega, by omega, by go_num, hub.transNew hu3 N0.out, hC3, hRA'.upd hu3 d1, hRR'.upd hu3 d2, hRT'.upd hu3 d3, hinv'⟩
            case measure => simp [intOf]; omega
        have q3 : (t.kind == 3) = false := by simp [k3]
        clear k3
        by_cases hz : (raiseL L t.line).2 = 0
        · have qz : ((raiseL L t.line).2 == 0) = true := by simp [hz]
          obtain ⟨v, i0, i8, hv, v0, vk, hinv'⟩ := hinv.raise1 hz
          clear hz
          have cT : ∀ w3, Upd (at1 g) (wr.alloc (.cells #[.int .i64 t.kind, .int .i64 t.line, .bool t.held] 31)) w3 → w3.cell? ⟨a2, t.line.toNat, none⟩ = some (.int .i64 v) ∧ (∀ j, w3.frozen? ⟨a2, j, none⟩ = false) := fun w3 hu3 =>
            ⟨(hRR'.upd hu3 d2).cell (by simp [hv]), (hRR'.upd hu3 d2).frozen⟩
          have CT := Lib.hid cT
          clear cT hv
          go_wp2_with (go_at_call 10; refine (irqRaise b g L t.line _ hCb).mono ?_; rintro e w3 ⟨rfl, hC3, hu3⟩; obtain ⟨s1, s4⟩ := CT.out w3 hu3; have s2 := CB.out w3 hu3)
          go_roundw
          case rel => exact ⟨k + 1, _, _, _, _, by omega, by omega, by go_num, (hub.transNew hu3 N0.out).setNew n2 _, hC3.far f2 d2 _, (hRA'.upd hu3 d1).far n4 _, ((hRR'.upd hu3 d2).set _ _).same (by simp), (hRT'.upd hu3 d3).far d5 _, hinv'⟩
          case measure => simp [intOf]; omega
        · have qz : ((raiseL L t.line).2 == 0) = false := by simp [hz]
          have hinv' := (hinv.raise0 hz).more
          clear hz
          go_wp2_with (go_at_call 10; refine (irqRaise b g L t.line _ hCb).mono ?_; rintro e w3 ⟨rfl, hC3, hu3⟩)
          go_roundw
          case rel => exact ⟨k + 1, _, _, _, _, by omega, by omega, by go_num, hub.transNew hu3 N0.out, hC3, hRA'.upd hu3 d1, hRR'.upd hu3 d2, hRT'.upd hu3 d3, hinv'⟩
          case measure => simp [intOf]; omega

end Go.Proofs.Ytfehbkhmcngnpaa
