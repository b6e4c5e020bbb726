/- Hyperbolic and Harmonic of package bound: the walks. -/
import Derived.Test.YtabboklejodbaaaWide6
namespace Go.Proofs.Ytabboklejodbaaa
open Go.RowKit Go.Proofs.YtabboklejodbaaaW.PrintWords Go.Proofs.YtabboklejodbaaaW.PrintLast

set_option maxRecDepth 100000 in
set_option maxHeartbeats 10000000 in
theorem progHyper {w : World} {A : Option Addr} {c : Nat} {l : List Tk} (h : Rd w A (l.flatMap tcells)) (hm : l.length ≤ 9223372036854775807) (hc : l.length ≤ c) (hcm : c ≤ 9223372036854775807) :
    Calls Try.prog 11 #[.slice A l.length c] w fun e w' => e = .returned (.bool (hyperB l)) ∧ Upd No w w' := by
  cases hi : implB l
  · have e : hyperB l = false := by unfold hyperB; rw [hi]; rfl
    rw [e]
    have HI := Lib.hid hi
    clear hi e
    go_enter Try.func11, Try.ntmps11
    go_wp2_with (go_at_call 7; refine (progImpl h hm hc).mono ?_; rw [HI.out]; rintro e w1 ⟨rfl, hu1⟩)
    go_ret
    exact ⟨rfl, hu1⟩
  · obtain ⟨hl8, hg⟩ := implB_iff.1 hi
    have HI := Lib.hid hi
    have HG := Lib.hid hg
    obtain ⟨n, hn⟩ : ∃ n, l.length = n := ⟨_, rfl⟩
    have HIM : ∀ w, Rd w A (l.flatMap tcells) → Calls Try.prog 7 #[.slice A n c] w fun e w' => e = .returned (.bool true) ∧ Upd No w w' := fun w h => by
      have := progImpl h hm hc
      rw [HI.out, hn] at this; exact this
    rw [hn] at hm hc hl8 ⊢
    have HN := Lib.hid hn
    have HIM := Lib.hid HIM
    clear hi hg hn
    go_enter Try.func11, Try.ntmps11
    go_wp2_with (go_at_call 7; refine (HIM.out _ h).mono ?_; rintro e w1 ⟨rfl, hu1⟩)
    have e0 := lb_small (n := 1) (by omega) (by omega)
    have e1 := lb_small (n := 2) (by omega) (by omega)
    have hr3 : Row ((w1.alloc (.cells #[.int .u64 1, .int .u64 0, .int .u64 0, .int .u64 0] 34)).alloc (.cells #[.int .u64 2, .int .u64 0, .int .u64 0, .int .u64 0] 34)) w1.heap.size 34 [.int .u64 (lb0 1), .int .u64 (lb1 1), .int .u64 (lb2 1), .int .u64 (lb3 1)] := by
      rw [e0.1, e0.2.1, e0.2.2.1, e0.2.2.2]; exact (Row.newAt _ _ _ _ rfl).alloc _
    have hr4 : Row ((w1.alloc (.cells #[.int .u64 1, .int .u64 0, .int .u64 0, .int .u64 0] 34)).alloc (.cells #[.int .u64 2, .int .u64 0, .int .u64 0, .int .u64 0] 34)) (w1.heap.size + 1) 34 [.int .u64 (lb0 2), .int .u64 (lb1 2), .int .u64 (lb2 2), .int .u64 (lb3 2)] := by
      rw [e1.1, e1.2.1, e1.2.2.1, e1.2.2.2]; exact Row.newAt _ _ _ _ (by simp)
    have hu2 : Upd No w ((w1.alloc (.cells #[.int .u64 1, .int .u64 0, .int .u64 0, .int .u64 0] 34)).alloc (.cells #[.int .u64 2, .int .u64 0, .int .u64 0, .int .u64 0] 34)) := (by repeat (first | with_reducible assumption | exact Upd.refl _ _ | (refine Upd.setNew ?_ (by first | (simp; done) | (simp; omega)) _) | (refine Upd.alloc ?_ _) | (refine Upd.drewN ?_ _) | (refine Upd.drew ?_) | (refine Upd.trans ?_ (by with_reducible assumption))))
    have hsz := hu1.size
    obtain ⟨b4, hb4⟩ : ∃ b4, w1.heap.size + 1 = b4 := ⟨_, rfl⟩
    obtain ⟨b3, hb3⟩ : ∃ b3, w1.heap.size = b3 := ⟨_, rfl⟩
    have hne : b4 ≠ b3 := by omega
    have h30 : w.heap.size ≤ b3 := by omega
    have h40 : w.heap.size ≤ b4 := by omega
    rw [hb4] at hr4 ⊢
    rw [hb3] at hr3 ⊢
    have HR3 := Lib.hid hr3
    have HR4 := Lib.hid hr4
    have HU2 := Lib.hid hu2
    clear hb3 hb4 hr3 hr4 hu2 hu1 e0 e1 hsz
    go_loopw [14] (fun i wr => ∃ (k : Nat) (U V : Int), k ≤ n ∧ i = .int .i64 k ∧ Hid (hsum (l.take k) = (U, V)) ∧ Upd No w wr ∧ Row wr b3 34 [.int .u64 (lb0 U), .int .u64 (lb1 U), .int .u64 (lb2 U), .int .u64 (lb3 U)] ∧ Row wr b4 34 [.int .u64 (lb0 V), .int .u64 (lb1 V), .int .u64 (lb2 V), .int .u64 (lb3 V)]) (fun i _ => n - (intOf i).toNat)
    case atStart => exact ⟨0, 1, 2, Nat.zero_le _, rfl, Lib.hid rfl, HU2.out, HR3.out, HR4.out⟩
    case round =>
      obtain ⟨k, U, V, hk, rfl, hUV, hu, hr3, hr4⟩ := hrel
      by_cases hlt : k < n
      · obtain ⟨t, ht⟩ : ∃ t, l[k]? = some t := ⟨l[k]'(by rw [HN.out]; exact hlt), List.getElem?_eq_getElem _⟩
        obtain ⟨g1, g2, g3, g4⟩ := HG.out t (List.mem_iff_getElem?.2 ⟨k, ht⟩)
        have hst : Hid (hsum (l.take (k + 1)) = (U * (t.f1 + t.f0), V * t.f1)) := Lib.hid (by rw [hsum_step ht, hUV.out]; rfl)
        obtain ⟨g, o, rfl, c0, c1, c2⟩ := (h.upd hu).tk ht
        have q0 : 0 ≤ t.f1 := by omega
        have q1 : t.f1 ≤ 4194304 := by omega
        have p0 : 0 ≤ t.f0 := by omega
        have p1 : t.f1 + t.f0 ≤ 4194304 := by omega
        have p2 : 0 ≤ t.f1 + t.f0 := by omega
        clear g1 g2 g3 g4 ht
        obtain ⟨W, hW⟩ : ∃ W, W = wr.alloc (.cells #[.int .i64 t.f0, .int .i64 t.f1, .int .i64 t.f2] 31) := ⟨_, rfl⟩
        have hbx : Row W wr.heap.size 31 [.int .i64 t.f0, .int .i64 t.f1, .int .i64 t.f2] := by rw [hW]; exact Row.newAt _ _ _ _ rfl
        have huW : Upd No wr W := by rw [hW]; exact (by repeat (first | with_reducible assumption | exact Upd.refl _ _ | (refine Upd.setNew ?_ (by first | (simp; done) | (simp; omega)) _) | (refine Upd.alloc ?_ _) | (refine Upd.drewN ?_ _) | (refine Upd.drew ?_) | (refine Upd.trans ?_ (by with_reducible assumption))))
        have hr3 := hr3.updNo huW
        have hr4 := hr4.updNo huW
        have hu := hu.trans huW
        clear huW
        have HW := Lib.hid hW
        clear hW
        go_upto_region 7 with fail
        rw [← HW.out]
        obtain ⟨z0, z1, z2, z3⟩ := wideRow hr3
        have zf := hr3.frozen
        have s0 := hbx.cell (i := 0) rfl
        have s1 := hbx.cell (i := 1) rfl
        go_wp2_with (first
          | (go_at_call 22; (with_reducible refine (timesW U (t.f1 + t.f0) p2 p1 _).mono ?_); rintro e w5 ⟨rfl, hu5⟩
             have hr5 := hr3.updNo hu5
             have hr6 := hr4.updNo hu5
             have hbx5 := hbx.updNo hu5
             clear z0 z1 z2 z3 zf s0 s1 c0 c1 c2
             obtain ⟨z0, z1, z2, z3⟩ := wideRow hr5
             have zf := hr5.frozen
             obtain ⟨n1, n2, n3⟩ := wideStore (y := U * (t.f1 + t.f0)) (hu.trans hu5) h30 hr5 hne hr6
             obtain ⟨_, _, n4⟩ := wideStore (y := U * (t.f1 + t.f0)) (hu.trans hu5) h30 hr5 (hbx5.ne hr5 (by decide)) hbx5
             obtain ⟨v0, v1, v2, v3⟩ := wideRow n3
             have s1 := n4.cell (i := 1) rfl)
          | (go_at_call 22; (with_reducible refine (timesW V t.f1 q0 q1 _).mono ?_); rintro e w7 ⟨rfl, hu7⟩
             have hr7 := n3.updNo hu7
             clear v0 v1 v2 v3 z0 z1 z2 z3 zf s1
             obtain ⟨v0, v1, v2, v3⟩ := wideRow hr7
             have vf := hr7.frozen))
        obtain ⟨m1, m2, m3⟩ := wideStore (y := V * t.f1) (n1.trans hu7) h40 hr7 (Ne.symm hne) (n2.updNo hu7)
        go_roundw
        case rel => exact ⟨k + 1, _, _, by omega, by go_num, hst, m1, m3, m2⟩
        case measure => simp [intOf]; omega
      · have e : k = n := by omega
        subst e
        have eT : l.take l.length = l := List.take_of_length_le (Nat.le_refl _)
        have hUV2 := hUV.out
        rw [← HN.out, eT] at hUV2
        have hrng := hsum_rng (by rw [HN.out]; exact hl8) HG.out l.length (Nat.le_refl _)
        rw [eT, hUV2] at hrng
        have ha : Hid (hyperB l = !decide (V < U)) := Lib.hid (by
          unfold hyperB; rw [HI.out, hUV2, Bool.true_and, ← decide_not]
          apply decide_eq_decide.2; show U ≤ V ↔ _; omega)
        obtain ⟨x1, x2, x3, x4⟩ := hrng
        have hM := M20_mono (show l.length ≤ 8 by rw [HN.out]; exact hl8)
        rw [M20_8] at hM
        have hV : V < B256 := by unfold B256; simp only at x2; omega
        have hU : U < B256 := by unfold B256; simp only at x4; omega
        have hU0 : 0 ≤ U := by simp only at x3; omega
        have hV0 : 0 ≤ V := by simp only at x1; omega
        have HAB := Lib.hid (fun w => aboveN hU0 hU hV0 hV w)
        clear x1 x2 x3 x4 hM hV hU hU0 hV0 hUV2 eT hUV
        obtain ⟨z0, z1, z2, z3⟩ := wideRow hr3
        obtain ⟨v0, v1, v2, v3⟩ := wideRow hr4
        go_wp2_with (go_at_call 24; refine (HAB.out _).mono ?_; rintro e w5 ⟨rfl, hu5⟩)
        go_ret
        exact ⟨ret_bool (by rw [ha.out]), hu.trans hu5⟩


theorem progHarm {w : World} {A : Option Addr} {c : Nat} {l : List Tk} (h : Rd w A (l.flatMap tcells)) (hm : l.length ≤ 9223372036854775807) (hc : l.length ≤ c) (hcm : c ≤ 9223372036854775807) :
    Calls Try.prog 13 #[.slice A l.length c] w fun e w' => e = .returned (.bool (harmB l)) ∧ Upd No w w' := by
  cases hi : wholeB l
  · have e : harmB l = false := by unfold harmB; rw [hi]; rfl
    rw [e]
    have HI := Lib.hid hi
    clear hi e
    go_enter Try.func13, Try.ntmps13
    go_wp2_with (go_at_call 9; refine (progWhole h hm hc hcm).mono ?_; rw [HI.out]; rintro e w1 ⟨rfl, hu1⟩)
    go_ret
    exact ⟨rfl, hu1⟩
  · have hI : implB l = true := by unfold wholeB at hi; rw [Bool.and_eq_true] at hi; exact hi.1
    obtain ⟨hl8, hg⟩ := implB_iff.1 hI
    obtain ⟨n, hn⟩ : ∃ n, l.length = n := ⟨_, rfl⟩
    have HWH : ∀ w, Rd w A (l.flatMap tcells) → Calls Try.prog 9 #[.slice A n c] w fun e w' => e = .returned (.bool true) ∧ Upd No w w' := fun w h => by
      have := progWhole h hm hc hcm
      rw [hi, hn] at this; exact this
    have HH : Hid (harmB l = (List.range n).all fun i => (List.range i).all fun k => dvd1 (l.getD i Bd.z31) (l.getD k Bd.z31)) := Lib.hid (by unfold harmB; rw [hi, Bool.true_and, hn])
    rw [hn] at hm hc hl8 ⊢
    have HN := Lib.hid hn
    have HG := Lib.hid hg
    have HWH := Lib.hid HWH
    clear hi hg hn hI
    go_enter Try.func13, Try.ntmps13
    go_wp2_with (go_at_call 9; refine (HWH.out _ h).mono ?_; rintro e w1 ⟨rfl, hu1⟩)
    go_loopw [12] (fun i wr => ∃ k : Nat, k ≤ n ∧ i = .int .i64 k ∧ Upd No w wr ∧ Hid (((List.range k).all fun i => (List.range i).all fun k => dvd1 (l.getD i Bd.z31) (l.getD k Bd.z31)) = true)) (fun i _ => n - (intOf i).toNat)
    case atStart => exact ⟨0, Nat.zero_le _, rfl, hu1, Lib.hid rfl⟩
    case round =>
      obtain ⟨k, hk, rfl, hu, hdone⟩ := hrel
      by_cases hlt : k < n
      · obtain ⟨t, ht⟩ : ∃ t, l[k]? = some t := ⟨l[k]'(by rw [HN.out]; exact hlt), List.getElem?_eq_getElem _⟩
        obtain ⟨g1, g2, g3, g4⟩ := HG.out t (List.mem_iff_getElem?.2 ⟨k, ht⟩)
        have gt0 : 1 ≤ t.f1 := by omega
        obtain ⟨g, o, rfl, c0, c1, c2⟩ := (h.upd hu).tk ht
        have HT := Lib.hid ht
        clear g1 g2 g3 ht
        obtain ⟨W, hW⟩ : ∃ W, W = wr.alloc (.cells #[.int .i64 t.f0, .int .i64 t.f1, .int .i64 t.f2] 31) := ⟨_, rfl⟩
        have hbx : Row W wr.heap.size 31 [.int .i64 t.f0, .int .i64 t.f1, .int .i64 t.f2] := by rw [hW]; exact Row.newAt _ _ _ _ rfl
        have huW : Upd No wr W := by rw [hW]; exact (by repeat (first | with_reducible assumption | exact Upd.refl _ _ | (refine Upd.setNew ?_ (by first | (simp; done) | (simp; omega)) _) | (refine Upd.alloc ?_ _) | (refine Upd.drewN ?_ _) | (refine Upd.drew ?_) | (refine Upd.trans ?_ (by with_reducible assumption))))
        have HW := Lib.hid hW
        have hcap : (k : Int) ≤ c := by omega
        clear hW
        go_wp2_with fail
        rw [← HW.out]
        obtain ⟨wo, rfl⟩ : ∃ wo : World, wo = wr := ⟨_, rfl⟩
        go_loopw [21] (fun i w3 => ∃ j : Nat, j ≤ k ∧ i = .int .i64 j ∧ Upd No W w3 ∧ Hid (((List.range j).all fun q => dvd1 t (l.getD q Bd.z31)) = true)) (fun i _ => k - (intOf i).toNat)
        case atStart => exact ⟨0, Nat.zero_le _, rfl, Upd.refl _ _, Lib.hid rfl⟩
        case round =>
          obtain ⟨j, hj, rfl, hu3, hin⟩ := hrel
          by_cases hjk : j < k
          · obtain ⟨x, hx⟩ : ∃ x, l[j]? = some x := ⟨l[j]'(by rw [HN.out]; omega), List.getElem?_eq_getElem _⟩
            obtain ⟨e1, e2, e3, e4⟩ := HG.out x (List.mem_iff_getElem?.2 ⟨j, hx⟩)
            have gx0 : 1 ≤ x.f1 := by omega
            obtain ⟨g', o', eA, d0, d1, d2⟩ := ((h.upd hu).upd (huW.trans hu3)).tk hx
            injection eA with eA; injection eA with eA1 eA2; subst eA1 eA2
            have HX : Hid (l.getD j Bd.z31 = x) := Lib.hid (by simp [List.getD, hx])
            have s1 := ((hbx.updNo hu3).alloc (.cells #[.int .i64 x.f0, .int .i64 x.f1, .int .i64 x.f2] 31)).cell (i := 1) rfl
            clear hx e1 e2 e3 c0 c1 c2
            have et : t.f1.tmod x.f1 = t.f1 % x.f1 := Int.tmod_eq_emod_of_nonneg (by omega)
            have ex : x.f1.tmod t.f1 = x.f1 % t.f1 := Int.tmod_eq_emod_of_nonneg (by omega)
            have HD : Hid (dvd1 t x = (decide (t.f1 % x.f1 = 0) || decide (x.f1 % t.f1 = 0))) := Lib.hid (by unfold dvd1; rw [et, ex])
            clear et ex
            by_cases m1 : t.f1 % x.f1 = 0
            · have HD1 : Hid (dvd1 t x = true) := Lib.hid (by rw [HD.out, decide_eq_true m1]; rfl)
              have b1 : (t.f1 % x.f1 != 0) = false := by simp [m1]
              clear m1
              go_wp2
              go_roundw
              case rel => exact ⟨j + 1, by omega, by go_num, (by repeat (first | with_reducible assumption | exact Upd.refl _ _ | (refine Upd.setNew ?_ (by first | (simp; done) | (simp; omega)) _) | (refine Upd.alloc ?_ _) | (refine Upd.drewN ?_ _) | (refine Upd.drew ?_) | (refine Upd.trans ?_ (by with_reducible assumption)))), Lib.hid (by rw [List.range_succ, List.all_append, hin.out, Bool.true_and, List.all_cons, List.all_nil, Bool.and_true, HX.out, HD1.out])⟩
              case measure => simp [intOf]; omega
            · have b1 : (t.f1 % x.f1 != 0) = true := by simp [m1]
              by_cases m2 : x.f1 % t.f1 = 0
              · have HD1 : Hid (dvd1 t x = true) := Lib.hid (by rw [HD.out, decide_eq_true m2]; simp)
                have b2 : (x.f1 % t.f1 != 0) = false := by simp [m2]
                clear m1 m2
                go_wp2
                go_roundw
                case rel => exact ⟨j + 1, by omega, by go_num, (by repeat (first | with_reducible assumption | exact Upd.refl _ _ | (refine Upd.setNew ?_ (by first | (simp; done) | (simp; omega)) _) | (refine Upd.alloc ?_ _) | (refine Upd.drewN ?_ _) | (refine Upd.drew ?_) | (refine Upd.trans ?_ (by with_reducible assumption)))), Lib.hid (by rw [List.range_succ, List.all_append, hin.out, Bool.true_and, List.all_cons, List.all_nil, Bool.and_true, HX.out, HD1.out])⟩
                case measure => simp [intOf]; omega
              · have b2 : (x.f1 % t.f1 != 0) = true := by simp [m2]
                have HD1 : Hid (dvd1 t x = false) := Lib.hid (by rw [HD.out, decide_eq_false m1, decide_eq_false m2]; rfl)
                clear m1 m2
                go_wp2
                go_ret
                refine ⟨ret_bool ?_, hu.trans (huW.trans (by repeat (first | with_reducible assumption | exact Upd.refl _ _ | (refine Upd.setNew ?_ (by first | (simp; done) | (simp; omega)) _) | (refine Upd.alloc ?_ _) | (refine Upd.drewN ?_ _) | (refine Upd.drew ?_) | (refine Upd.trans ?_ (by with_reducible assumption)))))⟩
                rw [HH.out]
                symm
                rw [List.all_eq_false]
                refine ⟨k, by simp; omega, ?_⟩
                rw [Bool.not_eq_true, List.all_eq_false]
                exact ⟨j, by simp; omega, by rw [HX.out, show l.getD k Bd.z31 = t by simp [List.getD, HT.out], HD1.out]; simp⟩
          · have e : j = k := by omega
            subst e
            go_wp2
            go_roundw
            case rel => exact ⟨j + 1, by omega, by go_num, hu.trans (huW.trans hu3), Lib.hid (by
              rw [List.range_succ, List.all_append, hdone.out, Bool.true_and, List.all_cons, List.all_nil, Bool.and_true, show l.getD j Bd.z31 = t by simp [List.getD, HT.out]]; exact hin.out)⟩
            case measure => simp [intOf]; omega
      · have e : k = n := by omega
        subst e
        go_wp2
        go_ret
        exact ⟨ret_bool (by rw [HH.out]; exact hdone.out.symm), hu⟩

end Go.Proofs.Ytabboklejodbaaa
