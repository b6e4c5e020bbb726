/- The walk of IrqPlays. -/
import Derived.Test.YtfehbkhmcngnpaaIrqN
import Derived.Test.YtfehbkhmcngnpaaRef10b
import Derived.Test.YtfehbkhmcngnpaaOnce
import Derived.Deep.DeepCutAuto
import Derived.Deep.CutBlock
import Derived.Deep.RegionHeld3
namespace Go.Proofs.Ytfehbkhmcngnpaa
open Go.RowKit

theorem raiseL_len (L : List Ln) (i : Int) : (raiseL L i).1.length = L.length := by
  unfold raiseL; split
  · split
    · rfl
    · split <;> simp
  · rfl
theorem maskL_len (L : List Ln) (i : Int) (m : Bool) : (maskL L i m).1.length = L.length := by
  unfold maskL; split
  · split
    · rfl
    · simp
  · rfl
theorem ackL_len (L : List Ln) (i : Int) : (ackL L i).1.length = L.length := by
  unfold ackL; split
  · split
    · rfl
    · split <;> simp
  · rfl
theorem ofL_get {L : List Ln} {k : Nat} {x : Ln} (h : L[k]? = some x) : ofL L (k : Int) = x := by simp [ofL, List.getD, h]
theorem ofL_out {L : List Ln} {i : Int} (hi : ¬ (0 ≤ i ∧ i < L.length)) : ofL L i = ⟨false, false, false, 0⟩ := by
  unfold ofL
  by_cases h : 0 ≤ i
  · rw [if_pos h, List.getD, List.getElem?_eq_none (by omega)]; rfl
  · rw [if_neg h]
theorem LSl.upd1 {w w' : World} {v : Value} {L M : List Ln} {b g : Nat} (h : LSl w v L) (hc : Ctl w b g M) (hu : Upd (at1 g) w w') : LSl w' v L := by
  obtain ⟨A, c, e, hr⟩ := h
  exact ⟨A, c, e, hr.upd1 hu hc.rows (by decide)⟩

set_option maxRecDepth 100000 in
set_option maxHeartbeats 3000000 in
theorem lawPlays (n : Nat) (A : Option Addr) (len cap : Nat) (l : List Act3) (hn : len = l.length) (hm : len ≤ 9223372036854775807) (h1 : 1 ≤ n) (h8 : n ≤ 8) (w : World) (H : Rd w A (l.flatMap Act3.cells)) :
    Calls Try.prog 4 #[.int .i64 n, .slice A len cap] w fun e w' => e = .returned (.bool true) ∧ Upd No w w' := by
  have HN := Lib.hid hn
  clear hn
  go_enter Try.func4, Try.ntmps4
  go_wp2_with fail
  refine (lawAwake w).mono ?_
  rintro e w1 ⟨rfl, hu1⟩
  go_wp2_with fail
  refine (irqNew n w1 h1 h8).mono ?_
  rintro e w2 ⟨b, g, hb, hg, rfl, hc, hu2⟩
  have hw2 : Upd No w w2 := hu1.trans hu2
  go_wp2_with (first | (go_at_call 8; refine (irqNextN _).mono ?_; rintro e w3 ⟨rfl, rfl⟩) | (go_at_call 11; refine (irqLenN _).mono ?_; rintro e w3 ⟨rfl, rfl⟩) | (go_at_call 10; refine (irqRaiseN 0 _).mono ?_; rintro e w3 ⟨rfl, rfl⟩) | (go_at_call 7; refine (irqMaskN 0 true _).mono ?_; rintro e w3 ⟨rfl, rfl⟩) | (go_at_call 9; refine (irqAckN 0 _).mono ?_; rintro e w3 ⟨rfl, rfl⟩) | (go_at_call 12; refine (irqOfN 0 _).mono ?_; rintro e w3 ⟨rfl, hu3⟩) | (go_at_call 13; refine (refNew n _ h8).mono ?_; rintro e w4 ⟨vr, rfl, hlr, hu4⟩))
  have hw4 : Upd No w w4 := (by repeat (first | with_reducible assumption | exact Upd.refl _ _ | (refine Upd.alloc ?_ _) | (refine Upd.drewN ?_ _) | (refine Upd.drew ?_) | (refine Upd.trans ?_ (by with_reducible assumption))))
  have hc4 : Ctl w4 b g (List.replicate n ⟨false, true, false, 0⟩) := hc.updNo (hu3.trans hu4)
  have n5 : w.heap.size ≤ g := by have := hu1.size; omega
  have n0 : ∀ i, i < w.heap.size → at1 g i → No i := fun i hi e => by unfold at1 at e; omega
  have N0 := Lib.hid n0
  clear hu1 hu2 hu3 hu4 hc hw2 n0
  go_loopw [10, 11] (fun rv i wr => ∃ (k : Nat) (L : List Ln), k ≤ len ∧ k ≤ 100 ∧ i = .int .i64 k ∧ LSl wr rv L ∧ Ctl wr b g L ∧ Upd No w wr ∧ Hid (L.length = n)) (fun _ i _ => len - (intOf i).toNat)
  case atStart => exact ⟨0, _, Nat.zero_le _, by omega, rfl, hlr, hc4, hw4, Lib.hid (by simp)⟩
  case round =>
    clear hlr hc4 hw4
    obtain ⟨k, L, hk, hk100, rfl, ⟨A', c', rfl, hrd⟩, hC, hu, hL⟩ := hrel
    by_cases hend : len ≤ k ∨ 100 ≤ k
    · by_cases hlk : k < len
      · have hk9 : 100 ≤ k := by omega
        clear hend
        go_wp2_with (go_at_call 5; refine (lawAwake _).mono ?_; rintro e w9 ⟨rfl, hu9⟩)
        go_ret
        exact ⟨rfl, hu.trans hu9⟩
      · clear hend
        go_wp2_with (go_at_call 5; refine (lawAwake _).mono ?_; rintro e w9 ⟨rfl, hu9⟩)
        go_ret
        exact ⟨rfl, hu.trans hu9⟩
    have hlt : k < len := by omega
    have hlt9 : k < 100 := by omega
    clear hend
    obtain ⟨t, ht⟩ : ∃ t, l[k]? = some t := ⟨l[k]'(by rw [← HN.out]; exact hlt), List.getElem?_eq_getElem _⟩
    obtain ⟨ga, o, rfl, c0, c1, c2⟩ := (H.upd hu).act ht
    clear ht
    have hgw : wr.heap.size ≠ g := by have := hC.rows.lt; omega
    have hCb : Ctl (wr.alloc (.cells #[.int .i64 t.kind, .int .i64 t.line, .bool t.held] 31)) b g L := hC.updNo (by repeat (first | with_reducible assumption | exact Upd.refl _ _ | (refine Upd.alloc ?_ _) | (refine Upd.drewN ?_ _) | (refine Upd.drew ?_) | (refine Upd.trans ?_ (by with_reducible assumption))))
    have hbx := (Upd.refl No (wr.alloc (.cells #[.int .i64 t.kind, .int .i64 t.line, .bool t.held] 31))).box
    have hrdb := hrd.updNo (w' := wr.alloc (.cells #[.int .i64 t.kind, .int .i64 t.line, .bool t.held] 31)) (by repeat (first | with_reducible assumption | exact Upd.refl _ _ | (refine Upd.alloc ?_ _) | (refine Upd.drewN ?_ _) | (refine Upd.drew ?_) | (refine Upd.trans ?_ (by with_reducible assumption))))
    have hub : Upd No w (wr.alloc (.cells #[.int .i64 t.kind, .int .i64 t.line, .bool t.held] 31)) := (by repeat (first | with_reducible assumption | exact Upd.refl _ _ | (refine Upd.alloc ?_ _) | (refine Upd.drewN ?_ _) | (refine Upd.drew ?_) | (refine Upd.trans ?_ (by with_reducible assumption))))
    have b8 := hC.most
    have HBX := Lib.hid hbx
    clear hC hrd hu hbx
    go_upto_block 2 with fail
    go_cut [10, 13, 14] (fun s10 s13 s14 wx => ∃ (L' : List Ln) (f : Int), s13 = .int .i64 f ∧ s14 = .int .i64 f ∧ LSl wx s10 L' ∧ Ctl wx b g L' ∧ Hid (L'.length = n) ∧ Upd No w wx ∧ wx.cell? ⟨wr.heap.size, 1, none⟩ = some (.int .i64 t.line))
    case first =>
      have cB : ∀ w3, Upd (at1 g) (wr.alloc (.cells #[.int .i64 t.kind, .int .i64 t.line, .bool t.held] 31)) w3 → w3.cell? ⟨wr.heap.size, 1, none⟩ = some (.int .i64 t.line) ∧ w3.cell? ⟨wr.heap.size, 2, none⟩ = some (.bool t.held) := fun w3 hu3 => ⟨hu3.cell (by rw [HBX.out 1]; rfl) hgw, hu3.cell (by rw [HBX.out 2]; rfl) hgw⟩
      have CB := Lib.hid cB
      clear cB
      by_cases k1 : t.kind = 1
      · have q1 : (t.kind == 1) = true := by simp [k1]
        clear k1
        go_wp2_with (first | (go_at_call 7; refine (irqMask b g L t.line t.held _ hCb).mono ?_; rintro e w3 ⟨rfl, hC3, hu3⟩; obtain ⟨s0, s0'⟩ := CB.out w3 hu3; have hr3 := hrdb.upd1 hu3 hCb.rows (by decide)) | (go_at_call 14; refine (refMask A' L.length c' L t.line t.held _ rfl b8 hr3).mono ?_; rintro e w4 ⟨v4, rfl, hl4, hu4⟩))
        go_meet
        exact ⟨(maskL L t.line t.held).1, (maskL L t.line t.held).2, rfl, rfl, hl4, hC3.updNo hu4, Lib.hid (by rw [maskL_len]; exact hL.out), (hub.transNew hu3 N0.out).trans hu4, hu4.at_ s0⟩
      have q1 : (t.kind == 1) = false := by simp [k1]
      clear k1
      by_cases k2 : t.kind = 2
      · have q2 : (t.kind == 2) = true := by simp [k2]
        clear k2
        rcases nextL_cases L with hnx | ⟨kk, x, hx, hup, hnx⟩
        · have HNX := Lib.hid hnx
          clear hnx
          go_wp2_with (first | (go_at_call 8; refine (irqNext b g L _ hCb).mono ?_; rw [HNX.out]; rintro e w3 ⟨rfl, hC3, hu3⟩; obtain ⟨s0, s0'⟩ := CB.out w3 hu3; have hr3 := hrdb.upd1 hu3 hCb.rows (by decide)) | (go_at_call 15; refine (refNext A' L.length c' L _ rfl b8 hr3).mono ?_; rw [HNX.out]; rintro e w4 ⟨v4, rfl, hl4, hu4⟩))
          go_meet
          exact ⟨L, 0, rfl, rfl, hl4, hC3.updNo hu4, hL, (hub.transNew hu3 N0.out).trans hu4, hu4.at_ s0⟩
        · have HNX := Lib.hid hnx
          have hkk : kk < L.length := (List.getElem?_eq_some_iff.1 hx).1
          clear hnx hx hup
          go_wp2_with (first | (go_at_call 8; refine (irqNext b g L _ hCb).mono ?_; rw [HNX.out]; rintro e w3 ⟨rfl, hC3, hu3⟩; obtain ⟨s0, s0'⟩ := CB.out w3 hu3; have hr3 := hrdb.upd1 hu3 hCb.rows (by decide)) | (go_at_call 15; refine (refNext A' L.length c' L _ rfl b8 hr3).mono ?_; rw [HNX.out]; rintro e w4 ⟨v4, rfl, hl4, hu4⟩))
          go_meet
          exact ⟨_, 0, rfl, rfl, hl4, hC3.updNo hu4, Lib.hid (by simpa using hL.out), (hub.transNew hu3 N0.out).trans hu4, hu4.at_ s0⟩
      have q2 : (t.kind == 2) = false := by simp [k2]
      clear k2
      by_cases k3 : t.kind = 3
      · have q3 : (t.kind == 3) = true := by simp [k3]
        clear k3
        go_wp2_with (first | (go_at_call 9; refine (irqAck b g L t.line _ hCb).mono ?_; rintro e w3 ⟨rfl, hC3, hu3⟩; obtain ⟨s0, s0'⟩ := CB.out w3 hu3; have hr3 := hrdb.upd1 hu3 hCb.rows (by decide)) | (go_at_call 16; refine (refAck A' L.length c' L t.line _ rfl b8 hr3).mono ?_; rintro e w4 ⟨v4, rfl, hl4, hu4⟩))
        go_meet
        exact ⟨(ackL L t.line).1, (ackL L t.line).2, rfl, rfl, hl4, hC3.updNo hu4, Lib.hid (by rw [ackL_len]; exact hL.out), (hub.transNew hu3 N0.out).trans hu4, hu4.at_ s0⟩
      have q3 : (t.kind == 3) = false := by simp [k3]
      clear k3
      go_wp2_with (first | (go_at_call 10; refine (irqRaise b g L t.line _ hCb).mono ?_; rintro e w3 ⟨rfl, hC3, hu3⟩; obtain ⟨s0, s0'⟩ := CB.out w3 hu3; have hr3 := hrdb.upd1 hu3 hCb.rows (by decide)) | (go_at_call 17; refine (refRaise A' L.length c' L t.line _ rfl b8 hr3).mono ?_; rintro e w4 ⟨v4, rfl, hl4, hu4⟩))
      go_meet
      exact ⟨(raiseL L t.line).1, (raiseL L t.line).2, rfl, rfl, hl4, hC3.updNo hu4, Lib.hid (by rw [raiseL_len]; exact hL.out), (hub.transNew hu3 N0.out).trans hu4, hu4.at_ s0⟩
    case rest =>
      clear hCb HBX hrdb hub b8
      obtain ⟨L', f, rfl, rfl, ⟨A2, c2', rfl, hr2⟩, hC2, hL2, hu2, ct⟩ := hcut
      have b8 := hC2.most
      have HL2 := hL2.out
      have hln : (L'.length : Int) = n := by omega
      clear HL2
      have HLN := Lib.hid hln
      clear hln
      go_wp2_with (go_at_call 11; refine (irqLen b g L' _ hC2).mono ?_; rw [HLN.out]; rintro e w5 ⟨rfl, rfl⟩)
      clear c0 c1 c2
      go_loopw [19] (fun i w5 => ∃ j : Nat, j ≤ n ∧ i = .int .i64 j ∧ Upd No wc w5) (fun i _ => n - (intOf i).toNat)
      case atStart => exact ⟨0, Nat.zero_le _, rfl, Upd.refl _ _⟩
      case round =>
        obtain ⟨j, hj, rfl, hu5⟩ := hrel
        by_cases hjn : j < n
        · have hjl : j < L'.length := by have := HLN.out; omega
          obtain ⟨x, hx⟩ : ∃ x, L'[j]? = some x := ⟨L'[j], List.getElem?_eq_getElem _⟩
          obtain ⟨g2, o2, rfl, c1, c2, c3, c4⟩ := (hr2.updNo hu5).line hx
          have HX := Lib.hid hx
          clear hx
          go_wp2_with fail
          go_region_held3 (fun w' => Upd No wr w' ∧ w'.cell? ⟨g2, o2 + j * 4, none⟩ = some (.bool x.r) ∧ w'.cell? ⟨g2, o2 + j * 4 + 1, none⟩ = some (.bool x.m) ∧ w'.cell? ⟨g2, o2 + j * 4 + 2, none⟩ = some (.bool x.s) ∧ w'.cell? ⟨g2, o2 + j * 4 + 3, none⟩ = some (.int .i64 x.d))
            (first | exact ⟨(Upd.refl _ _).drew, c1, c2, c3, c4⟩ | (obtain ⟨hs0, hs1, hs2, hs3, hs4⟩ := ‹Upd No _ _ ∧ _›; exact ⟨hs0.trans (by assumption), Upd.at_ (by assumption) hs1, Upd.at_ (by assumption) hs2, Upd.at_ (by assumption) hs3, Upd.at_ (by assumption) hs4⟩))
            (first | (go_at_call 12; refine (irqOf b g L' j _ (hC2.updNo (hu5.trans ?_))).mono ?_; (first | exact (‹Upd No wr _ ∧ _›).1 | exact (Upd.refl _ _).drew); rw [ofL_get HX.out]; rintro e w1 ⟨rfl, hu1⟩) | (go_at_call 18; refine (lawIs x _).mono ?_; rintro e w1 ⟨rfl, hu1⟩))
          all_goals
            obtain ⟨hz, z1, z2, z3, z4⟩ := ‹Upd No wr _ ∧ _›
            clear c1 c2 c3 c4 z1 z2 z3 z4
            go_wp2
            go_roundw
            case rel => exact ⟨j + 1, by omega, by go_num, hu5.trans hz⟩
            case measure => simp [intOf]; omega
        · have ct5 := hu5.at_ ct
          by_cases hhas : 0 ≤ t.line ∧ t.line < (L'.length : Int)
          · have hd : decide (0 ≤ t.line ∧ t.line < (L'.length : Int)) = true := by simpa using hhas
            clear hhas
            go_wp2_with (first | (go_at_call 19; refine (refHas _ L'.length c2' t.line _ b8).mono ?_; rw [hd]; rintro e w6 ⟨rfl, rfl⟩))
            go_roundw
            case rel => exact ⟨k + 1, L', by omega, by omega, by go_num, ⟨A2, c2', rfl, hr2.updNo hu5⟩, hC2.updNo hu5, hu2.trans hu5, hL2⟩
            case measure => simp [intOf]; omega
          · have hd : decide (0 ≤ t.line ∧ t.line < (L'.length : Int)) = false := by simpa using hhas
            have HO := Lib.hid (ofL_out hhas)
            clear hhas
            go_wp2_with (first | (go_at_call 19; refine (refHas _ L'.length c2' t.line _ b8).mono ?_; rw [hd]; rintro e w6 ⟨rfl, rfl⟩) | (go_at_call 12; refine (irqOf b g L' t.line _ (hC2.updNo hu5)).mono ?_; rw [HO.out]; rintro e w7 ⟨rfl, hu7⟩))
            go_roundw
            case rel => exact ⟨k + 1, L', by omega, by omega, by go_num, ⟨A2, c2', rfl, hr2.updNo (hu5.trans hu7)⟩, hC2.updNo (hu5.trans hu7), hu2.trans (hu5.trans hu7), hL2⟩
            case measure => simp [intOf]; omega

set_option maxRecDepth 100000 in
set_option maxHeartbeats 3000000 in
theorem lawPlays0 (n : Int) (A : Option Addr) (len cap : Nat) (h1 : n < 1 ∨ 8 < n) (w : World) :
    Calls Try.prog 4 #[.int .i64 n, .slice A len cap] w fun e w' => e = .returned (.bool true) ∧ Upd No w w' := by
  go_enter Try.func4, Try.ntmps4
  go_wp2_with fail
  refine (lawAwake w).mono ?_
  rintro e w1 ⟨rfl, hu1⟩
  go_wp2_with fail
  refine (irqNew0 n w1 h1).mono ?_
  rintro e w2 ⟨rfl, rfl⟩
  rcases h1 with h1 | h1
  all_goals
    go_wp2_with (first | (go_at_call 8; refine (irqNextN _).mono ?_; rintro e w3 ⟨rfl, rfl⟩) | (go_at_call 11; refine (irqLenN _).mono ?_; rintro e w3 ⟨rfl, rfl⟩) | (go_at_call 10; refine (irqRaiseN 0 _).mono ?_; rintro e w3 ⟨rfl, rfl⟩) | (go_at_call 7; refine (irqMaskN 0 true _).mono ?_; rintro e w3 ⟨rfl, rfl⟩) | (go_at_call 9; refine (irqAckN 0 _).mono ?_; rintro e w3 ⟨rfl, rfl⟩) | (go_at_call 12; refine (irqOfN 0 _).mono ?_; rintro e w3 ⟨rfl, hu3⟩) | (go_at_call 5; refine (lawAwake _).mono ?_; rintro e w9 ⟨rfl, hu9⟩))
    go_ret
    exact ⟨rfl, (hu1.trans hu3).trans hu9⟩

theorem lawPlaysAll (n : Int) (A : Option Addr) (len cap : Nat) (l : List Act3) (hn : len = l.length) (hm : len ≤ 9223372036854775807) (w : World) (H : Rd w A (l.flatMap Act3.cells)) :
    Calls Try.prog 4 #[.int .i64 n, .slice A len cap] w fun e w' => e = .returned (.bool true) ∧ Upd No w w' := by
  by_cases h : n < 1 ∨ 8 < n
  · exact lawPlays0 n A len cap h w
  · have h9 := lawPlays n.toNat A len cap l hn hm (by omega) (by omega) w H
    rw [show ((n.toNat : Nat) : Int) = n by omega] at h9
    exact h9

end Go.Proofs.Ytfehbkhmcngnpaa
