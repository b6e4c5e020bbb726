/- The walk of ServerMost: it answers true, whatever it is given. -/
import Derived.Test.YtojlkjmdcoolnaaSvA
namespace Go.Proofs.Ytojlkjmdcoolnaa
open Go.RowKit

theorem elemInt : Elem Try.prog 33 3 1 8 := Elem.of (z := .int .i64 0) Try.underlying33 (by kernel_rfl) rfl (by decide)
theorem Rd.bl {w : World} {A : Option Addr} {l : List Bool} (h : Rd w A (l.map Value.bool)) {k : Nat} {t : Bool} (ht : l[k]? = some t) : ∃ g o, A = some ⟨g, o, none⟩ ∧ w.cell? ⟨g, o + k, none⟩ = some (.bool t) := by
  have hne : l.map Value.bool ≠ [] := by
    intro e
    have : l = [] := by simpa using e
    subst this; simp at ht
  obtain ⟨g, o, e, hc⟩ := h hne
  exact ⟨g, o, e, hc k _ (by simp [ht])⟩
theorem flat_bool (l : List Bool) : l.flatMap (fun b => [Value.bool b]) = l.map Value.bool := by
  induction l with
  | nil => rfl
  | cons b l ih => rw [List.flatMap_cons, ih]; rfl
theorem sum01 {l : List Int} (h : ∀ x ∈ l, 0 ≤ x ∧ x ≤ 1) : 0 ≤ l.sum ∧ l.sum ≤ l.length := by
  induction l with
  | nil => simp
  | cons x l ih =>
    have := h x (by simp)
    have := ih (fun y hy => h y (by simp [hy]))
    simp; omega

theorem appMr {W W1 w6 : World} {b T sz n : Nat} {v : Value} {xs : List Value} (ho : W.ownsRow b T sz v n xs) (hu : Upd No W W1) (hg : W1.grownBy w6 v.ownBlock) : Mr [T] b W w6 :=
  Mr.app (Mr.ofNo hu) (own_updNo ho hu) hg (by simp) (Nat.le_refl _)
theorem drop_sum {l : List Int} {m : Nat} {y : Int} (h : l[m]? = some y) : (l.drop m).sum = (l.drop (m + 1)).sum + y := by
  obtain ⟨hm, rfl⟩ := List.getElem?_eq_some_iff.1 h
  rw [List.drop_eq_getElem_cons hm, List.sum_cons, Int.add_comm]

set_option maxHeartbeats 20000000 in
theorem lawServerMost (b p : Int) (A1 : Option Addr) (n1 c1 : Nat) (l1 : List Bool) (hn1 : n1 = l1.length) (_hm1 : n1 ≤ 9223372036854775807) (A2 : Option Addr) (n2 c2 : Nat) (l2 : List Bool) (hn2 : n2 = l2.length) (_hm2 : n2 ≤ 9223372036854775807) (w : World)
    (H1 : Rd w A1 (l1.map Value.bool)) (H2 : Rd w A2 (l2.map Value.bool)) :
    Calls Try.prog 3 #[.agg #[.int .i64 b, .int .i64 p], .slice A1 n1 c1, .slice A2 n2 c2] w fun e w' => e = .returned (.bool true) ∧ Upd No w w' := by
  have HN1 := Lib.hid hn1
  have HN2 := Lib.hid hn2
  have HD1 := Lib.hid H1
  have HD2 := Lib.hid H2
  have hrow : ∀ w1, Upd No (w.alloc (.cells #[.int .i64 b, .int .i64 p] 23)) w1 → Row w1 w.heap.size 23 [.int .i64 b, .int .i64 p] := fun w1 hu => (Row.new w _ _).updNo hu
  have HROW := Lib.hid hrow
  clear hn1 hn2 H1 H2 hrow
  cases hr : resB b p
  · have HR := Lib.hid hr; clear hr
    go_enter Try.func3, Try.ntmps3
    go_wp2_with (first
      | (go_at_call 4; with_reducible refine (lawAwake _).mono ?_; rintro e wa ⟨rfl, hua⟩; have ra := HROW.out wa (by repeat (first | with_reducible assumption | exact Upd.refl _ _ | (refine Upd.setNew ?_ (by first | (simp; done) | (simp; omega)) _) | (refine Upd.alloc ?_ _) | (refine Upd.drewN ?_ _) | (refine Upd.drew ?_) | (refine Upd.trans ?_ (by with_reducible assumption)))); have e0 := ra.cell (i := 0) rfl; have e1 := ra.cell (i := 1) rfl)
      | (go_at_call 5; refine (ref04Right b p _).mono ?_; rw [HR.out]; rintro e wb ⟨rfl, hub⟩))
    go_ret
    exact ⟨rfl, (by repeat (first | with_reducible assumption | exact Upd.refl _ _ | (refine Upd.setNew ?_ (by first | (simp; done) | (simp; omega)) _) | (refine Upd.alloc ?_ _) | (refine Upd.drewN ?_ _) | (refine Upd.drew ?_) | (refine Upd.trans ?_ (by with_reducible assumption))))⟩
  obtain ⟨hb1, hb2, hb3⟩ := (resB_iff b p).1 hr
  have HR := Lib.hid hr; clear hr
  by_cases hbig : 200 < n1
  · have hbz : (200 : Int) < (n1 : Int) := by omega
    go_enter Try.func3, Try.ntmps3
    go_wp2_with (first
      | (go_at_call 4; with_reducible refine (lawAwake _).mono ?_; rintro e wa ⟨rfl, hua⟩; have ra := HROW.out wa (by repeat (first | with_reducible assumption | exact Upd.refl _ _ | (refine Upd.setNew ?_ (by first | (simp; done) | (simp; omega)) _) | (refine Upd.alloc ?_ _) | (refine Upd.drewN ?_ _) | (refine Upd.drew ?_) | (refine Upd.trans ?_ (by with_reducible assumption)))); have e0 := ra.cell (i := 0) rfl; have e1 := ra.cell (i := 1) rfl)
      | (go_at_call 5; refine (ref04Right b p _).mono ?_; rw [HR.out]; rintro e wb ⟨rfl, hub⟩))
    go_ret
    exact ⟨rfl, (by repeat (first | with_reducible assumption | exact Upd.refl _ _ | (refine Upd.setNew ?_ (by first | (simp; done) | (simp; omega)) _) | (refine Upd.alloc ?_ _) | (refine Upd.drewN ?_ _) | (refine Upd.drew ?_) | (refine Upd.trans ?_ (by with_reducible assumption))))⟩
  go_enter Try.func3, Try.ntmps3
  go_wp2_with (first
    | (go_at_call 4; with_reducible refine (lawAwake _).mono ?_; rintro e wa ⟨rfl, hua⟩; have ra := HROW.out wa (by repeat (first | with_reducible assumption | exact Upd.refl _ _ | (refine Upd.setNew ?_ (by first | (simp; done) | (simp; omega)) _) | (refine Upd.alloc ?_ _) | (refine Upd.drewN ?_ _) | (refine Upd.drew ?_) | (refine Upd.trans ?_ (by with_reducible assumption)))); have e0 := ra.cell (i := 0) rfl; have e1 := ra.cell (i := 1) rfl)
    | (go_at_call 5; refine (ref04Right b p _).mono ?_; rw [HR.out]; rintro e wb ⟨rfl, hub⟩; have rb := HROW.out wb (by repeat (first | with_reducible assumption | exact Upd.refl _ _ | (refine Upd.setNew ?_ (by first | (simp; done) | (simp; omega)) _) | (refine Upd.alloc ?_ _) | (refine Upd.drewN ?_ _) | (refine Upd.drew ?_) | (refine Upd.trans ?_ (by with_reducible assumption)))); have f0 := rb.cell (i := 0) rfl; have f1 := rb.cell (i := 1) rfl)
    | (go_at_call 7; refine (lawTo b p _).mono ?_; rintro e wc ⟨rfl, huc⟩)
    | (go_at_call 6; refine (srvNew b p HR.out _).mono ?_; rintro e wn ⟨g, hg, rfl, hs0, hu0⟩))
  have hrn : Row wn w.heap.size 23 [.int .i64 b, .int .i64 p] := HROW.out wn (by repeat (first | with_reducible assumption | exact Upd.refl _ _ | (refine Upd.setNew ?_ (by first | (simp; done) | (simp; omega)) _) | (refine Upd.alloc ?_ _) | (refine Upd.drewN ?_ _) | (refine Upd.drew ?_) | (refine Upd.trans ?_ (by with_reducible assumption))))
  have hwn : Upd No w wn := (by repeat (first | with_reducible assumption | exact Upd.refl _ _ | (refine Upd.setNew ?_ (by first | (simp; done) | (simp; omega)) _) | (refine Upd.alloc ?_ _) | (refine Upd.drewN ?_ _) | (refine Upd.drew ?_) | (refine Upd.trans ?_ (by with_reducible assumption))))
  obtain ⟨B0, hB0, hwB⟩ : ∃ B0, B0 = wc.heap.size ∧ w.heap.size ≤ B0 := ⟨_, rfl, by have : Upd No w wc := (by repeat (first | with_reducible assumption | exact Upd.refl _ _ | (refine Upd.setNew ?_ (by first | (simp; done) | (simp; omega)) _) | (refine Upd.alloc ?_ _) | (refine Upd.drewN ?_ _) | (refine Upd.drew ?_) | (refine Upd.trans ?_ (by with_reducible assumption)))); exact this.size⟩
  rw [← hB0] at hs0
  have HWN := Lib.hid hwn
  have HRN := Lib.hid hrn
  have HS0 := Lib.hid hs0
  clear hua ra e0 e1 hub rb f0 f1 huc hu0 hs0 hwn hrn hB0 hg
  go_loopw [9, 10] (fun v i wr => ∃ (k : Nat) (rs : List Int) (S : Sv), k ≤ n1 ∧ i = .int .i64 k ∧ rs.length = k ∧ Ran b p S rs ∧ SrvAt wr B0 g S ∧ wr.ownsRow w.heap.size 3 1 v k (rs.map (Value.int .i64)) ∧ Upd No w wr ∧ Row wr w.heap.size 23 [.int .i64 b, .int .i64 p]) (fun _ i _ => n1 - (intOf i).toNat)
  case atStart => exact ⟨0, [], _, Nat.zero_le _, rfl, rfl, Ran.start hb1, HS0.out, World.ownsRow_nil _ _ _ _, HWN.out, HRN.out⟩
  case round =>
    obtain ⟨k, rs, S, hk, rfl, hlk, hR, hs, ho, hu, hrw⟩ := hrel
    by_cases hkn : k < n1
    · obtain ⟨r, hrk⟩ : ∃ r, l1[k]? = some r := ⟨l1[k]'(by rw [← HN1.out]; exact hkn), List.getElem?_eq_getElem _⟩
      obtain ⟨ga, oa, rfl, ca⟩ := (HD1.out.upd hu).bl hrk
      have hnk := hR.now
      rw [hlk] at hnk
      have hfit := hR.ok.fit (by omega) (by omega) (by omega)
      have hok : Ok b p (k + 1) k (beginS S k r) := by
        have := (hR.ok.begin (by omega) (now := (k : Int)) hnk r).1
        rwa [hlk] at this
      have HFIT := Lib.hid hfit
      have HOK := Lib.hid hok
      have HNK := Lib.hid hnk
      have hcase : (∃ rs' Sn, rs' = rs ++ [0] ∧ Sn = beginS S k r ∧ Ran b p Sn rs' ∧ Sn.now = k ∧ ((n2 : Int) ≤ (k : Int) ∨ (k : Int) < (n2 : Int) ∧ l2[k]? = some false)) ∨
          ∃ rs' Sn, rs' = rs ++ [if (runS (beginS S k r)).2 = true then 1 else 0] ∧ Sn = (runS (beginS S k r)).1 ∧ Ran b p Sn rs' ∧ Sn.now = k ∧ (k : Int) < (n2 : Int) ∧ l2[k]? = some true := by
        obtain ⟨q1, q2⟩ := hR.tick (by omega) r false
        obtain ⟨q3, q4⟩ := hR.tick (by omega) r true
        rw [hlk] at q1 q2 q3 q4
        simp only [tick, Bool.false_eq_true, if_false, if_true] at q1 q2 q3 q4
        rcases Nat.lt_or_ge k n2 with h | h
        · have h' : k < l2.length := by rw [← HN2.out]; exact h
          cases hb : l2[k]'h' with
          | false => exact .inl ⟨_, _, rfl, rfl, q1, q2, .inr ⟨by omega, by rw [List.getElem?_eq_getElem h', hb]⟩⟩
          | true => exact .inr ⟨_, _, rfl, rfl, q3, q4, by omega, by rw [List.getElem?_eq_getElem h', hb]⟩
        · exact .inl ⟨_, _, rfl, rfl, q1, q2, .inl (by omega)⟩
      have HO := Lib.hid ho
      have HS := Lib.hid hs
      have HU := Lib.hid hu
      have HRW := Lib.hid hrw
      have HLK := Lib.hid hlk
      clear hR hfit hok hnk ho hs hrw hlk
      have hcase2 : ∃ (rs' : List Int) (Sn : Sv) (x : Int), rs' = rs ++ [x] ∧ Ran b p Sn rs' ∧ Sn.now = k ∧
          ((x = 0 ∧ Sn = beginS S k r ∧ (n2 : Int) ≤ (k : Int) ∧ (∀ W : World, Upd No w W → True) ∧ True) ∨
           (x = 0 ∧ Sn = beginS S k r ∧ (k : Int) < (n2 : Int) ∧ (∃ gb ob, A2 = some ⟨gb, ob, none⟩ ∧ ∀ W : World, Upd No w W → W.cell? ⟨gb, ob + k, none⟩ = some (.bool false)) ∧ True) ∨
           (x = 1 ∧ Sn = (runS (beginS S k r)).1 ∧ (k : Int) < (n2 : Int) ∧ (∃ gb ob, A2 = some ⟨gb, ob, none⟩ ∧ ∀ W : World, Upd No w W → W.cell? ⟨gb, ob + k, none⟩ = some (.bool true)) ∧ (runS (beginS S k r)).2 = true) ∨
           (x = 0 ∧ Sn = (runS (beginS S k r)).1 ∧ (k : Int) < (n2 : Int) ∧ (∃ gb ob, A2 = some ⟨gb, ob, none⟩ ∧ ∀ W : World, Upd No w W → W.cell? ⟨gb, ob + k, none⟩ = some (.bool true)) ∧ (runS (beginS S k r)).2 = false)) := by
        have hcell : ∀ t, l2[k]? = some t → ∃ gb ob, A2 = some ⟨gb, ob, none⟩ ∧ ∀ W : World, Upd No w W → W.cell? ⟨gb, ob + k, none⟩ = some (.bool t) := fun t ht => by
          obtain ⟨gb, ob, e, hc⟩ := HD2.out.bl ht
          exact ⟨gb, ob, e, fun W hW => hW.at_ hc⟩
        rcases hcase with ⟨rs', Sn, h1, h2, h3, h4, h5 | ⟨h5, h6⟩⟩ | ⟨rs', Sn, h1, h2, h3, h4, h5, h6⟩
        · exact ⟨rs', Sn, 0, h1, h3, h4, .inl ⟨rfl, h2, h5, fun _ _ => trivial, trivial⟩⟩
        · exact ⟨rs', Sn, 0, h1, h3, h4, .inr (.inl ⟨rfl, h2, h5, hcell _ h6, trivial⟩)⟩
        · by_cases hq : (runS (beginS S k r)).2 = true
          · exact ⟨rs', Sn, 1, by rw [h1, if_pos hq], h3, h4, .inr (.inr (.inl ⟨rfl, h2, h5, hcell _ h6, hq⟩))⟩
          · exact ⟨rs', Sn, 0, by rw [h1, if_neg hq], h3, h4, .inr (.inr (.inr ⟨rfl, h2, h5, hcell _ h6, by simpa using hq⟩))⟩
      clear hcase
      obtain ⟨rs', Sn, x, hrs', hR', hnow', hcs⟩ := hcase2
      have hlen' : rs'.length = k + 1 := by rw [hrs']; simp; exact HLK.out
      have HR' := Lib.hid hR'
      have HNW := Lib.hid hnow'
      have HLEN := Lib.hid hlen'
      clear hR' hnow' hlen' hrk
      rcases hcs with ⟨rfl, hSn, q5, hcb, hq⟩ | ⟨rfl, hSn, q5, ⟨gb, ob, rfl, hcb⟩, hq⟩ | ⟨rfl, hSn, q5, ⟨gb, ob, rfl, hcb⟩, hq⟩ | ⟨rfl, hSn, q5, ⟨gb, ob, rfl, hcb⟩, hq⟩
      all_goals
        have HRS := Lib.hid hrs'
        have HSN := Lib.hid hSn
        have HCB := Lib.hid hcb
        have HQ := Lib.hid hq
        clear hSn hcb hq hrs'
        go_wp2_with (first
          | (go_at_call 8
             with_reducible refine Calls.mono (srvBegin HS.out HFIT.out (k : Int) HNK.out (by omega) r) ?_
             rintro e wb ⟨rfl, hs2, hm2⟩
             have ho2 := own_mr HO.out hm2 (by decide)
             have hr2 := HRW.out.mr hm2 (by decide)
             have cb := HCB.out _ (hm2.mv.over HU.out hwB))
          | (go_at_call 9
             with_reducible refine Calls.mono (srvRun hs2 (HOK.out.runPre (by omega)) (HOK.out.part (by omega)) (by have := HOK.out.ch; omega) HOK.out.ord) ?_
             rw [HQ.out]
             rintro e wd ⟨rfl, hs3, hm3⟩
             have hs2 := hs3
             have ho2 := own_mr ho2 hm3 (by decide)
             have hr2 := hr2.mr hm3 (by decide)
             have hm2 := hm2.trans hm3)
          | (at_builtin; refine wpList_app rfl (.tmp 58) (.tmp 60) elemInt rfl (base := w.heap.size) rfl (own_updNo ho2 (by repeat (first | with_reducible assumption | exact Upd.refl _ _ | (refine Upd.setNew ?_ (by first | (simp; done) | (simp; omega)) _) | (refine Upd.alloc ?_ _) | (refine Upd.drewN ?_ _) | (refine Upd.drew ?_) | (refine Upd.trans ?_ (by with_reducible assumption))))) rfl (ys := [.int .i64 0]) (m := 1) rfl ?h5 ?h6 ?h7 ?h8 ?h9 ?_
             case h5 => exact (Row.newAt _ 3 _ _ (by first | rfl | simp)).rd'
             case h6 => simp [Value.oneCell']
             case h7 => omega
             case h8 => omega
             case h9 => have := hm2.size; have := HU.out.size; simp; omega
             intro v6 w6 ho6 hg6
             have m6 := appMr ho2 (by repeat (first | with_reducible assumption | exact Upd.refl _ _ | (refine Upd.setNew ?_ (by first | (simp; done) | (simp; omega)) _) | (refine Upd.alloc ?_ _) | (refine Upd.drewN ?_ _) | (refine Upd.drew ?_) | (refine Upd.trans ?_ (by with_reducible assumption)))) hg6
             have ho6 := own_same ho6 (show _ = rs'.map (Value.int .i64) by rw [HRS.out]; simp) rfl
             obtain ⟨g6, cap6, rfl, hc6, hc6m, hg6b, rd6, fz6⟩ := own_form ho6 (by omega)
             have hu6 : Upd No w w6 := m6.mv.over (hm2.mv.over HU.out hwB) (Nat.le_refl _)
             have hr6 := hr2.mr m6 (by decide)
             have hs6 := hs2.mr m6 (by decide)
             have HO6 := Lib.hid ho6
             have HRD6 := Lib.hid rd6
             have HU6 := Lib.hid hu6
             have HR6 := Lib.hid hr6
             have HS6 := Lib.hid hs6
             clear ho6 rd6 hu6 hr6 hs6 fz6 hg6 hm2 hs2 ho2 hr2 cb m6)
          | (at_builtin; refine wpList_app rfl (.tmp 58) (.tmp 60) elemInt rfl (base := w.heap.size) rfl (own_updNo ho2 (by repeat (first | with_reducible assumption | exact Upd.refl _ _ | (refine Upd.setNew ?_ (by first | (simp; done) | (simp; omega)) _) | (refine Upd.alloc ?_ _) | (refine Upd.drewN ?_ _) | (refine Upd.drew ?_) | (refine Upd.trans ?_ (by with_reducible assumption))))) rfl (ys := [.int .i64 1]) (m := 1) rfl ?h5 ?h6 ?h7 ?h8 ?h9 ?_
             case h5 => exact (Row.newAt _ 3 _ _ (by first | rfl | simp)).rd'
             case h6 => simp [Value.oneCell']
             case h7 => omega
             case h8 => omega
             case h9 => have := hm2.size; have := HU.out.size; simp; omega
             intro v6 w6 ho6 hg6
             have m6 := appMr ho2 (by repeat (first | with_reducible assumption | exact Upd.refl _ _ | (refine Upd.setNew ?_ (by first | (simp; done) | (simp; omega)) _) | (refine Upd.alloc ?_ _) | (refine Upd.drewN ?_ _) | (refine Upd.drew ?_) | (refine Upd.trans ?_ (by with_reducible assumption)))) hg6
             have ho6 := own_same ho6 (show _ = rs'.map (Value.int .i64) by rw [HRS.out]; simp) rfl
             obtain ⟨g6, cap6, rfl, hc6, hc6m, hg6b, rd6, fz6⟩ := own_form ho6 (by omega)
             have hu6 : Upd No w w6 := m6.mv.over (hm2.mv.over HU.out hwB) (Nat.le_refl _)
             have hr6 := hr2.mr m6 (by decide)
             have hs6 := hs2.mr m6 (by decide)
             have HO6 := Lib.hid ho6
             have HRD6 := Lib.hid rd6
             have HU6 := Lib.hid hu6
             have HR6 := Lib.hid hr6
             have HS6 := Lib.hid hs6
             clear ho6 rd6 hu6 hr6 hs6 fz6 hg6 hm2 hs2 ho2 hr2 cb m6))
        go_loopw [12, 13] (fun s i wr => ∃ j : Nat, j ≤ k + 1 ∧ s = .int .i64 (rs'.drop j).sum ∧ i = .int .i64 ((j : Int) - 1) ∧ Upd No w6 wr) (fun _ i _ => (intOf i + 1).toNat)
        case atStart => exact ⟨k + 1, Nat.le_refl _, by rw [List.drop_eq_nil_of_le (by rw [HLEN.out]; exact Nat.le_refl _)]; rfl, by rw [show (((k + 1 : Nat) : Int) - 1) = k by omega], Upd.refl _ _⟩
        case round =>
          obtain ⟨j, hj, rfl, rfl, hu7⟩ := hrel
          rcases j with _ | m
          · go_wp2
            go_roundw
            case rel => exact ⟨k + 1, rs', Sn, by omega, by go_num, HLEN.out, HR'.out, by rw [HSN.out]; exact HS6.out.updNo hu7, own_updNo HO6.out hu7, HU6.out.trans hu7, HR6.out.updNo hu7⟩
            case measure => simp [intOf]; omega
          · obtain ⟨y, hy⟩ : ∃ y, rs'[m]? = some y := ⟨rs'[m]'(by rw [HLEN.out]; omega), List.getElem?_eq_getElem _⟩
            have cy : wr.cell? ⟨g6, m, none⟩ = some (.int .i64 y) := hu7.at_ (by
              rcases HRD6.out m with q | q
              · rw [q, List.getElem?_map, hy]; rfl
              · simp [HLEN.out] at q; omega)
            have hsum := drop_sum hy
            have hle := HR'.out.le (by omega) HLEN.out HNW.out (j := m) (by omega)
            have hb0 := sum01 (l := rs'.drop m) (fun z hz => HR'.out.one z (List.mem_of_mem_drop hz))
            have hb1' := sum01 (l := rs'.drop (m + 1)) (fun z hz => HR'.out.one z (List.mem_of_mem_drop hz))
            have hlm : (rs'.drop m).length ≤ 201 := by simp [HLEN.out]; omega
            have hlm1 : (rs'.drop (m + 1)).length ≤ 201 := by simp [HLEN.out]; omega
            have hy01 := HR'.out.one y (List.mem_iff_getElem?.2 ⟨m, hy⟩)
            obtain ⟨s0, hs0⟩ : ∃ s0, (rs'.drop m).sum = s0 := ⟨_, rfl⟩
            obtain ⟨s1, hs1⟩ : ∃ s1, (rs'.drop (m + 1)).sum = s1 := ⟨_, rfl⟩
            rw [hs0] at hsum hle hb0
            rw [hs1] at hsum hb1'
            rw [hs1]
            have HSUM := Lib.hid (hs0.trans hsum)
            have hle' : s1 + y ≤ b * (cdiv ((k : Int) - (m : Int) + 1) p + 1) := by omega
            have hngt : ¬ (b * (cdiv ((k : Int) - (m : Int) + 1) p + 1) < s1 + y) := by omega
            have hmm : (((m + 1 : Nat) : Int) - 1) = (m : Int) := by omega
            rw [hmm]
            have hr7 := HR6.out.updNo hu7
            have e0 := hr7.cell (i := 0) rfl
            have e1 := hr7.cell (i := 1) rfl
            clear hy hs0 hs1 hsum hle hmm hr7
            go_wp2_with (first
              | (go_at_call 7; refine (lawTo b p _).mono ?_; rintro e wt ⟨rfl, hut⟩)
              | (go_at_call 10; refine (supMost b p ((k : Int) - (m : Int) + 1) _ HR.out (by omega) (by omega)).mono ?_; rintro e wq ⟨rfl, huq⟩))
            go_roundw
            case rel => exact ⟨m, by omega, by rw [HSUM.out], rfl, (hu7.trans hut).trans huq⟩
            case measure => simp [intOf] <;> omega
    · have ek : k = n1 := by omega
      subst ek
      have HU := Lib.hid hu
      clear hR hs ho hu hrw
      go_wp2_with (go_at_call 4; with_reducible refine (lawAwake _).mono ?_; rintro e wa ⟨rfl, hua⟩)
      go_ret
      exact ⟨rfl, HU.out.trans hua⟩

end Go.Proofs.Ytojlkjmdcoolnaa
