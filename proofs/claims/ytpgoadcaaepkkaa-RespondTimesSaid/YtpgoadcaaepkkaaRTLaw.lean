/- The walk of RespondTimes: it answers true, whatever it is given. -/
import Derived.Test.YtpgoadcaaepkkaaRespond
namespace Go.Proofs.Ytpgoadcaaepkkaa
open Go.RowKit

theorem lawTo (b p : Int) (w : World) : Calls Try.prog 6 #[.agg #[.int .i64 b, .int .i64 p]] w fun e w' => e = .returned (.agg #[.int .i64 b, .int .i64 p]) ∧ Upd No w w' := by
  go_enter Try.func6, Try.ntmps6
  go_wp2
  refine bodyPost_ret (v := .agg #[.int .i64 b, .int .i64 p]) (by simp [results, Try.results6, go_sem]) rfl ⟨rfl, ?_⟩
  exact (by repeat (first | with_reducible assumption | exact Upd.refl _ _ | (refine Upd.alloc ?_ _) | (refine Upd.drewN ?_ _) | (refine Upd.drew ?_) | (refine Upd.trans ?_ (by with_reducible assumption))))

theorem least_awake : Least [] 1 0 1 5 20 10 := by
  refine .inl ⟨by omega, by omega, by decide, fun m m0 m1 e => ?_⟩
  have : gW 1 5 (needT [] 1 0 m) = 10 := by
    have : needT [] 1 0 m = 1 := by simp [needT, reqS]
    rw [this]; decide
  omega

theorem lawAwake (w : World) : Calls Try.prog 4 #[] w fun e w' => e = .returned (.bool true) ∧ Upd No w w' := by
  go_enter Try.func4, Try.ntmps4
  have hok : (⟨1, 20, 20⟩ : Tk).ok = true := by decide
  have HOK := Lib.hid hok; clear hok
  go_wp2_with (first | (go_at_call 5; refine (progTime none 0 0 [] ⟨1, 20, 20⟩ 0 1 5 20 rfl (by decide) HOK.out (by omega) (by omega) (by decide) (by omega) (by omega) _ (Rd.nil _ _)).mono ?_; rintro e w1 ⟨res, nn, ee, hres, hne, rfl, hu⟩; obtain ⟨rfl, rfl⟩ : nn = 10 ∧ ee = 0 := (by have h10 := Least.one hres least_awake; rcases hne.out with ⟨a, b, c⟩ | ⟨a, b, c⟩ <;> omega)))
  go_ret
  exact ⟨rfl, hu⟩

def badArgs (l : List Tk) (t : Tk) (held b p bound : Int) : Bool :=
  !(allB l && t.ok && decide (0 ≤ held) && decide (held ≤ 1048576) && decide (0 ≤ bound) && decide (bound ≤ 1048576) && resB b p)

set_option maxHeartbeats 800000 in
theorem lawBad00 (A : Option Addr) (n c : Nat) (l : List Tk) (t : Tk) (held b p bound : Int) (hn : n = l.length) (h12 : n ≤ 12) (w : World) (H : Rd w A (l.flatMap Tk.cells))
    (hbad : (allB l && t.ok && decide (0 ≤ held) && decide (held ≤ 1048576) && decide (0 ≤ bound) && decide (bound ≤ 1048576) && resB b p) = false) (kall : allB l = false) (hq : bound ≤ 400) :
    Calls Try.prog 3 #[.slice A n c, .agg #[.int .i64 t.c, .int .i64 t.p, .int .i64 t.d], .int .i64 held, .agg #[.int .i64 b, .int .i64 p], .int .i64 bound] w
      fun e w' => e = .returned (.bool true) ∧ Upd No w w' := by
  have HN := Lib.hid hn; have HBAD := Lib.hid hbad; clear hn hbad
  have KALL := Lib.hid kall; clear kall
  go_enter Try.func3, Try.ntmps3
  go_wp2_with fail
  have hw0 : Upd No w ((w.alloc (.cells #[.int .i64 t.c, .int .i64 t.p, .int .i64 t.d] 24)).alloc (.cells #[.int .i64 b, .int .i64 p] 26)) := ((Upd.refl _ _).alloc _).alloc _
  obtain ⟨hbt, hbr⟩ := (Upd.refl No ((w.alloc (.cells #[.int .i64 t.c, .int .i64 t.p, .int .i64 t.d] 24)).alloc (.cells #[.int .i64 b, .int .i64 p] 26))).box2
  generalize hW : (w.alloc (.cells #[.int .i64 t.c, .int .i64 t.p, .int .i64 t.d] 24)).alloc (.cells #[.int .i64 b, .int .i64 p] 26) = W0 at *
  clear hW
  have c1 := hbt 0
  have c2 := hbt 1
  have c3 := hbt 2
  have c4 := hbr 0
  have c5 := hbr 1
  simp only [List.getElem?_toArray, List.getElem?_cons_zero, List.getElem?_cons_succ] at c1 c2 c3 c4 c5
  clear hbt hbr
  go_region_held3 (fun w' => Upd No W0 w' ∧ w'.cell? ⟨w.heap.size, 0, none⟩ = some (.int .i64 t.c) ∧ w'.cell? ⟨w.heap.size, 0 + 1, none⟩ = some (.int .i64 t.p) ∧ w'.cell? ⟨w.heap.size, 0 + 2, none⟩ = some (.int .i64 t.d) ∧ w'.cell? ⟨w.heap.size + 1, 0, none⟩ = some (.int .i64 b) ∧ w'.cell? ⟨w.heap.size + 1, 0 + 1, none⟩ = some (.int .i64 p))
    (first | exact ⟨(Upd.refl _ _).drew, c1, c2, c3, c4, c5⟩ | (obtain ⟨hs0, hs1, hs2, hs3, hs4, hs5⟩ := ‹Upd No _ _ ∧ _›; exact ⟨hs0.trans (by assumption), Upd.at_ (by assumption) hs1, Upd.at_ (by assumption) hs2, Upd.at_ (by assumption) hs3, Upd.at_ (by assumption) hs4, Upd.at_ (by assumption) hs5⟩))
    (first | (go_at_call 6; refine (lawTo b p _).mono ?_; rintro e w1 ⟨rfl, h1⟩) | (go_at_call 5; refine (progTime0 A n c l t held b p bound HN.out (by omega) HBAD.out _ ?_).mono ?_; (exact H.upd (by repeat (first | with_reducible assumption | exact Upd.refl _ _ | (refine Upd.alloc ?_ _) | (refine Upd.drewN ?_ _) | (refine Upd.drew ?_) | (refine Upd.trans ?_ (by with_reducible assumption))))); rintro e w2 ⟨rfl, h2⟩))
  obtain ⟨hz, z1, z2, z3, z4, z5⟩ := ‹Upd No _ _ ∧ _›
  clear c1 c2 c3 c4 c5
  have hwz := hw0.trans hz
  clear hz hw0
  go_wp2_with (first
      | (go_at_call 4; refine (lawAwake _).mono ?_; rintro e wa ⟨rfl, ha⟩)
      | (go_at_call 7; refine (refAll A n c l HN.out (by omega) _ (H.upd (by repeat (first | with_reducible assumption | exact Upd.refl _ _ | (refine Upd.alloc ?_ _) | (refine Upd.drewN ?_ _) | (refine Upd.drew ?_) | (refine Upd.trans ?_ (by with_reducible assumption)))))).mono ?_; simp only [KALL.out]; rintro e w3 ⟨rfl, h3⟩; have y1 := h3.at_ z1; have y2 := h3.at_ z2; have y3 := h3.at_ z3; have y4 := h3.at_ z4; have y5 := h3.at_ z5; clear z1 z2 z3 z4 z5)
      | (go_at_call 8; refine (refRight t _).mono ?_; simp only [KT.out]; rintro e w4 ⟨rfl, h4⟩; have x1 := h4.at_ y1; have x2 := h4.at_ y2; have x3 := h4.at_ y3; have x4 := h4.at_ y4; have x5 := h4.at_ y5; clear y1 y2 y3 y4 y5))
  go_ret
  exact ⟨rfl, (by repeat (first | with_reducible assumption | exact Upd.refl _ _ | (refine Upd.alloc ?_ _) | (refine Upd.drewN ?_ _) | (refine Upd.drew ?_) | (refine Upd.trans ?_ (by with_reducible assumption))))⟩

set_option maxHeartbeats 800000 in
theorem lawBad01 (A : Option Addr) (n c : Nat) (l : List Tk) (t : Tk) (held b p bound : Int) (hn : n = l.length) (h12 : n ≤ 12) (w : World) (H : Rd w A (l.flatMap Tk.cells))
    (hbad : (allB l && t.ok && decide (0 ≤ held) && decide (held ≤ 1048576) && decide (0 ≤ bound) && decide (bound ≤ 1048576) && resB b p) = false) (kall : allB l = false) (hq : 1048576 < bound) :
    Calls Try.prog 3 #[.slice A n c, .agg #[.int .i64 t.c, .int .i64 t.p, .int .i64 t.d], .int .i64 held, .agg #[.int .i64 b, .int .i64 p], .int .i64 bound] w
      fun e w' => e = .returned (.bool true) ∧ Upd No w w' := by
  have HN := Lib.hid hn; have HBAD := Lib.hid hbad; clear hn hbad
  have KALL := Lib.hid kall; clear kall
  go_enter Try.func3, Try.ntmps3
  go_wp2_with fail
  have hw0 : Upd No w ((w.alloc (.cells #[.int .i64 t.c, .int .i64 t.p, .int .i64 t.d] 24)).alloc (.cells #[.int .i64 b, .int .i64 p] 26)) := ((Upd.refl _ _).alloc _).alloc _
  obtain ⟨hbt, hbr⟩ := (Upd.refl No ((w.alloc (.cells #[.int .i64 t.c, .int .i64 t.p, .int .i64 t.d] 24)).alloc (.cells #[.int .i64 b, .int .i64 p] 26))).box2
  generalize hW : (w.alloc (.cells #[.int .i64 t.c, .int .i64 t.p, .int .i64 t.d] 24)).alloc (.cells #[.int .i64 b, .int .i64 p] 26) = W0 at *
  clear hW
  have c1 := hbt 0
  have c2 := hbt 1
  have c3 := hbt 2
  have c4 := hbr 0
  have c5 := hbr 1
  simp only [List.getElem?_toArray, List.getElem?_cons_zero, List.getElem?_cons_succ] at c1 c2 c3 c4 c5
  clear hbt hbr
  go_region_held3 (fun w' => Upd No W0 w' ∧ w'.cell? ⟨w.heap.size, 0, none⟩ = some (.int .i64 t.c) ∧ w'.cell? ⟨w.heap.size, 0 + 1, none⟩ = some (.int .i64 t.p) ∧ w'.cell? ⟨w.heap.size, 0 + 2, none⟩ = some (.int .i64 t.d) ∧ w'.cell? ⟨w.heap.size + 1, 0, none⟩ = some (.int .i64 b) ∧ w'.cell? ⟨w.heap.size + 1, 0 + 1, none⟩ = some (.int .i64 p))
    (first | exact ⟨(Upd.refl _ _).drew, c1, c2, c3, c4, c5⟩ | (obtain ⟨hs0, hs1, hs2, hs3, hs4, hs5⟩ := ‹Upd No _ _ ∧ _›; exact ⟨hs0.trans (by assumption), Upd.at_ (by assumption) hs1, Upd.at_ (by assumption) hs2, Upd.at_ (by assumption) hs3, Upd.at_ (by assumption) hs4, Upd.at_ (by assumption) hs5⟩))
    (first | (go_at_call 6; refine (lawTo b p _).mono ?_; rintro e w1 ⟨rfl, h1⟩) | (go_at_call 5; refine (progTime0 A n c l t held b p bound HN.out (by omega) HBAD.out _ ?_).mono ?_; (exact H.upd (by repeat (first | with_reducible assumption | exact Upd.refl _ _ | (refine Upd.alloc ?_ _) | (refine Upd.drewN ?_ _) | (refine Upd.drew ?_) | (refine Upd.trans ?_ (by with_reducible assumption))))); rintro e w2 ⟨rfl, h2⟩))
  obtain ⟨hz, z1, z2, z3, z4, z5⟩ := ‹Upd No _ _ ∧ _›
  clear c1 c2 c3 c4 c5
  have hwz := hw0.trans hz
  clear hz hw0
  go_wp2_with (first
      | (go_at_call 4; refine (lawAwake _).mono ?_; rintro e wa ⟨rfl, ha⟩)
      | (go_at_call 7; refine (refAll A n c l HN.out (by omega) _ (H.upd (by repeat (first | with_reducible assumption | exact Upd.refl _ _ | (refine Upd.alloc ?_ _) | (refine Upd.drewN ?_ _) | (refine Upd.drew ?_) | (refine Upd.trans ?_ (by with_reducible assumption)))))).mono ?_; simp only [KALL.out]; rintro e w3 ⟨rfl, h3⟩; have y1 := h3.at_ z1; have y2 := h3.at_ z2; have y3 := h3.at_ z3; have y4 := h3.at_ z4; have y5 := h3.at_ z5; clear z1 z2 z3 z4 z5)
      | (go_at_call 8; refine (refRight t _).mono ?_; simp only [KT.out]; rintro e w4 ⟨rfl, h4⟩; have x1 := h4.at_ y1; have x2 := h4.at_ y2; have x3 := h4.at_ y3; have x4 := h4.at_ y4; have x5 := h4.at_ y5; clear y1 y2 y3 y4 y5))
  go_ret
  exact ⟨rfl, (by repeat (first | with_reducible assumption | exact Upd.refl _ _ | (refine Upd.alloc ?_ _) | (refine Upd.drewN ?_ _) | (refine Upd.drew ?_) | (refine Upd.trans ?_ (by with_reducible assumption))))⟩

set_option maxHeartbeats 800000 in
theorem lawBad10 (A : Option Addr) (n c : Nat) (l : List Tk) (t : Tk) (held b p bound : Int) (hn : n = l.length) (h12 : n ≤ 12) (w : World) (H : Rd w A (l.flatMap Tk.cells))
    (hbad : (allB l && t.ok && decide (0 ≤ held) && decide (held ≤ 1048576) && decide (0 ≤ bound) && decide (bound ≤ 1048576) && resB b p) = false) (kall : allB l = true) (kt : t.ok = false) (hq : bound ≤ 400) :
    Calls Try.prog 3 #[.slice A n c, .agg #[.int .i64 t.c, .int .i64 t.p, .int .i64 t.d], .int .i64 held, .agg #[.int .i64 b, .int .i64 p], .int .i64 bound] w
      fun e w' => e = .returned (.bool true) ∧ Upd No w w' := by
  have HN := Lib.hid hn; have HBAD := Lib.hid hbad; clear hn hbad
  have KALL := Lib.hid kall; clear kall
  have KT := Lib.hid kt; clear kt
  go_enter Try.func3, Try.ntmps3
  go_wp2_with fail
  have hw0 : Upd No w ((w.alloc (.cells #[.int .i64 t.c, .int .i64 t.p, .int .i64 t.d] 24)).alloc (.cells #[.int .i64 b, .int .i64 p] 26)) := ((Upd.refl _ _).alloc _).alloc _
  obtain ⟨hbt, hbr⟩ := (Upd.refl No ((w.alloc (.cells #[.int .i64 t.c, .int .i64 t.p, .int .i64 t.d] 24)).alloc (.cells #[.int .i64 b, .int .i64 p] 26))).box2
  generalize hW : (w.alloc (.cells #[.int .i64 t.c, .int .i64 t.p, .int .i64 t.d] 24)).alloc (.cells #[.int .i64 b, .int .i64 p] 26) = W0 at *
  clear hW
  have c1 := hbt 0
  have c2 := hbt 1
  have c3 := hbt 2
  have c4 := hbr 0
  have c5 := hbr 1
  simp only [List.getElem?_toArray, List.getElem?_cons_zero, List.getElem?_cons_succ] at c1 c2 c3 c4 c5
  clear hbt hbr
  go_region_held3 (fun w' => Upd No W0 w' ∧ w'.cell? ⟨w.heap.size, 0, none⟩ = some (.int .i64 t.c) ∧ w'.cell? ⟨w.heap.size, 0 + 1, none⟩ = some (.int .i64 t.p) ∧ w'.cell? ⟨w.heap.size, 0 + 2, none⟩ = some (.int .i64 t.d) ∧ w'.cell? ⟨w.heap.size + 1, 0, none⟩ = some (.int .i64 b) ∧ w'.cell? ⟨w.heap.size + 1, 0 + 1, none⟩ = some (.int .i64 p))
    (first | exact ⟨(Upd.refl _ _).drew, c1, c2, c3, c4, c5⟩ | (obtain ⟨hs0, hs1, hs2, hs3, hs4, hs5⟩ := ‹Upd No _ _ ∧ _›; exact ⟨hs0.trans (by assumption), Upd.at_ (by assumption) hs1, Upd.at_ (by assumption) hs2, Upd.at_ (by assumption) hs3, Upd.at_ (by assumption) hs4, Upd.at_ (by assumption) hs5⟩))
    (first | (go_at_call 6; refine (lawTo b p _).mono ?_; rintro e w1 ⟨rfl, h1⟩) | (go_at_call 5; refine (progTime0 A n c l t held b p bound HN.out (by omega) HBAD.out _ ?_).mono ?_; (exact H.upd (by repeat (first | with_reducible assumption | exact Upd.refl _ _ | (refine Upd.alloc ?_ _) | (refine Upd.drewN ?_ _) | (refine Upd.drew ?_) | (refine Upd.trans ?_ (by with_reducible assumption))))); rintro e w2 ⟨rfl, h2⟩))
  obtain ⟨hz, z1, z2, z3, z4, z5⟩ := ‹Upd No _ _ ∧ _›
  clear c1 c2 c3 c4 c5
  have hwz := hw0.trans hz
  clear hz hw0
  go_wp2_with (first
      | (go_at_call 4; refine (lawAwake _).mono ?_; rintro e wa ⟨rfl, ha⟩)
      | (go_at_call 7; refine (refAll A n c l HN.out (by omega) _ (H.upd (by repeat (first | with_reducible assumption | exact Upd.refl _ _ | (refine Upd.alloc ?_ _) | (refine Upd.drewN ?_ _) | (refine Upd.drew ?_) | (refine Upd.trans ?_ (by with_reducible assumption)))))).mono ?_; simp only [KALL.out]; rintro e w3 ⟨rfl, h3⟩; have y1 := h3.at_ z1; have y2 := h3.at_ z2; have y3 := h3.at_ z3; have y4 := h3.at_ z4; have y5 := h3.at_ z5; clear z1 z2 z3 z4 z5)
      | (go_at_call 8; refine (refRight t _).mono ?_; simp only [KT.out]; rintro e w4 ⟨rfl, h4⟩; have x1 := h4.at_ y1; have x2 := h4.at_ y2; have x3 := h4.at_ y3; have x4 := h4.at_ y4; have x5 := h4.at_ y5; clear y1 y2 y3 y4 y5))
  go_ret
  exact ⟨rfl, (by repeat (first | with_reducible assumption | exact Upd.refl _ _ | (refine Upd.alloc ?_ _) | (refine Upd.drewN ?_ _) | (refine Upd.drew ?_) | (refine Upd.trans ?_ (by with_reducible assumption))))⟩

set_option maxHeartbeats 800000 in
theorem lawBad11 (A : Option Addr) (n c : Nat) (l : List Tk) (t : Tk) (held b p bound : Int) (hn : n = l.length) (h12 : n ≤ 12) (w : World) (H : Rd w A (l.flatMap Tk.cells))
    (hbad : (allB l && t.ok && decide (0 ≤ held) && decide (held ≤ 1048576) && decide (0 ≤ bound) && decide (bound ≤ 1048576) && resB b p) = false) (kall : allB l = true) (kt : t.ok = false) (hq : 1048576 < bound) :
    Calls Try.prog 3 #[.slice A n c, .agg #[.int .i64 t.c, .int .i64 t.p, .int .i64 t.d], .int .i64 held, .agg #[.int .i64 b, .int .i64 p], .int .i64 bound] w
      fun e w' => e = .returned (.bool true) ∧ Upd No w w' := by
  have HN := Lib.hid hn; have HBAD := Lib.hid hbad; clear hn hbad
  have KALL := Lib.hid kall; clear kall
  have KT := Lib.hid kt; clear kt
  go_enter Try.func3, Try.ntmps3
  go_wp2_with fail
  have hw0 : Upd No w ((w.alloc (.cells #[.int .i64 t.c, .int .i64 t.p, .int .i64 t.d] 24)).alloc (.cells #[.int .i64 b, .int .i64 p] 26)) := ((Upd.refl _ _).alloc _).alloc _
  obtain ⟨hbt, hbr⟩ := (Upd.refl No ((w.alloc (.cells #[.int .i64 t.c, .int .i64 t.p, .int .i64 t.d] 24)).alloc (.cells #[.int .i64 b, .int .i64 p] 26))).box2
  generalize hW : (w.alloc (.cells #[.int .i64 t.c, .int .i64 t.p, .int .i64 t.d] 24)).alloc (.cells #[.int .i64 b, .int .i64 p] 26) = W0 at *
  clear hW
  have c1 := hbt 0
  have c2 := hbt 1
  have c3 := hbt 2
  have c4 := hbr 0
  have c5 := hbr 1
  simp only [List.getElem?_toArray, List.getElem?_cons_zero, List.getElem?_cons_succ] at c1 c2 c3 c4 c5
  clear hbt hbr
  go_region_held3 (fun w' => Upd No W0 w' ∧ w'.cell? ⟨w.heap.size, 0, none⟩ = some (.int .i64 t.c) ∧ w'.cell? ⟨w.heap.size, 0 + 1, none⟩ = some (.int .i64 t.p) ∧ w'.cell? ⟨w.heap.size, 0 + 2, none⟩ = some (.int .i64 t.d) ∧ w'.cell? ⟨w.heap.size + 1, 0, none⟩ = some (.int .i64 b) ∧ w'.cell? ⟨w.heap.size + 1, 0 + 1, none⟩ = some (.int .i64 p))
    (first | exact ⟨(Upd.refl _ _).drew, c1, c2, c3, c4, c5⟩ | (obtain ⟨hs0, hs1, hs2, hs3, hs4, hs5⟩ := ‹Upd No _ _ ∧ _›; exact ⟨hs0.trans (by assumption), Upd.at_ (by assumption) hs1, Upd.at_ (by assumption) hs2, Upd.at_ (by assumption) hs3, Upd.at_ (by assumption) hs4, Upd.at_ (by assumption) hs5⟩))
    (first | (go_at_call 6; refine (lawTo b p _).mono ?_; rintro e w1 ⟨rfl, h1⟩) | (go_at_call 5; refine (progTime0 A n c l t held b p bound HN.out (by omega) HBAD.out _ ?_).mono ?_; (exact H.upd (by repeat (first | with_reducible assumption | exact Upd.refl _ _ | (refine Upd.alloc ?_ _) | (refine Upd.drewN ?_ _) | (refine Upd.drew ?_) | (refine Upd.trans ?_ (by with_reducible assumption))))); rintro e w2 ⟨rfl, h2⟩))
  obtain ⟨hz, z1, z2, z3, z4, z5⟩ := ‹Upd No _ _ ∧ _›
  clear c1 c2 c3 c4 c5
  have hwz := hw0.trans hz
  clear hz hw0
  go_wp2_with (first
      | (go_at_call 4; refine (lawAwake _).mono ?_; rintro e wa ⟨rfl, ha⟩)
      | (go_at_call 7; refine (refAll A n c l HN.out (by omega) _ (H.upd (by repeat (first | with_reducible assumption | exact Upd.refl _ _ | (refine Upd.alloc ?_ _) | (refine Upd.drewN ?_ _) | (refine Upd.drew ?_) | (refine Upd.trans ?_ (by with_reducible assumption)))))).mono ?_; simp only [KALL.out]; rintro e w3 ⟨rfl, h3⟩; have y1 := h3.at_ z1; have y2 := h3.at_ z2; have y3 := h3.at_ z3; have y4 := h3.at_ z4; have y5 := h3.at_ z5; clear z1 z2 z3 z4 z5)
      | (go_at_call 8; refine (refRight t _).mono ?_; simp only [KT.out]; rintro e w4 ⟨rfl, h4⟩; have x1 := h4.at_ y1; have x2 := h4.at_ y2; have x3 := h4.at_ y3; have x4 := h4.at_ y4; have x5 := h4.at_ y5; clear y1 y2 y3 y4 y5))
  go_ret
  exact ⟨rfl, (by repeat (first | with_reducible assumption | exact Upd.refl _ _ | (refine Upd.alloc ?_ _) | (refine Upd.drewN ?_ _) | (refine Upd.drew ?_) | (refine Upd.trans ?_ (by with_reducible assumption))))⟩

set_option maxHeartbeats 800000 in
theorem lawBad20 (A : Option Addr) (n c : Nat) (l : List Tk) (t : Tk) (held b p bound : Int) (hn : n = l.length) (h12 : n ≤ 12) (w : World) (H : Rd w A (l.flatMap Tk.cells))
    (hbad : (allB l && t.ok && decide (0 ≤ held) && decide (held ≤ 1048576) && decide (0 ≤ bound) && decide (bound ≤ 1048576) && resB b p) = false) (kall : allB l = true) (kt : t.ok = true) (k1 : held < 0) (hq : bound ≤ 400) :
    Calls Try.prog 3 #[.slice A n c, .agg #[.int .i64 t.c, .int .i64 t.p, .int .i64 t.d], .int .i64 held, .agg #[.int .i64 b, .int .i64 p], .int .i64 bound] w
      fun e w' => e = .returned (.bool true) ∧ Upd No w w' := by
  have HN := Lib.hid hn; have HBAD := Lib.hid hbad; clear hn hbad
  have KALL := Lib.hid kall; clear kall
  have KT := Lib.hid kt; clear kt
  go_enter Try.func3, Try.ntmps3
  go_wp2_with fail
  have hw0 : Upd No w ((w.alloc (.cells #[.int .i64 t.c, .int .i64 t.p, .int .i64 t.d] 24)).alloc (.cells #[.int .i64 b, .int .i64 p] 26)) := ((Upd.refl _ _).alloc _).alloc _
  obtain ⟨hbt, hbr⟩ := (Upd.refl No ((w.alloc (.cells #[.int .i64 t.c, .int .i64 t.p, .int .i64 t.d] 24)).alloc (.cells #[.int .i64 b, .int .i64 p] 26))).box2
  generalize hW : (w.alloc (.cells #[.int .i64 t.c, .int .i64 t.p, .int .i64 t.d] 24)).alloc (.cells #[.int .i64 b, .int .i64 p] 26) = W0 at *
  clear hW
  have c1 := hbt 0
  have c2 := hbt 1
  have c3 := hbt 2
  have c4 := hbr 0
  have c5 := hbr 1
  simp only [List.getElem?_toArray, List.getElem?_cons_zero, List.getElem?_cons_succ] at c1 c2 c3 c4 c5
  clear hbt hbr
  go_region_held3 (fun w' => Upd No W0 w' ∧ w'.cell? ⟨w.heap.size, 0, none⟩ = some (.int .i64 t.c) ∧ w'.cell? ⟨w.heap.size, 0 + 1, none⟩ = some (.int .i64 t.p) ∧ w'.cell? ⟨w.heap.size, 0 + 2, none⟩ = some (.int .i64 t.d) ∧ w'.cell? ⟨w.heap.size + 1, 0, none⟩ = some (.int .i64 b) ∧ w'.cell? ⟨w.heap.size + 1, 0 + 1, none⟩ = some (.int .i64 p))
    (first | exact ⟨(Upd.refl _ _).drew, c1, c2, c3, c4, c5⟩ | (obtain ⟨hs0, hs1, hs2, hs3, hs4, hs5⟩ := ‹Upd No _ _ ∧ _›; exact ⟨hs0.trans (by assumption), Upd.at_ (by assumption) hs1, Upd.at_ (by assumption) hs2, Upd.at_ (by assumption) hs3, Upd.at_ (by assumption) hs4, Upd.at_ (by assumption) hs5⟩))
    (first | (go_at_call 6; refine (lawTo b p _).mono ?_; rintro e w1 ⟨rfl, h1⟩) | (go_at_call 5; refine (progTime0 A n c l t held b p bound HN.out (by omega) HBAD.out _ ?_).mono ?_; (exact H.upd (by repeat (first | with_reducible assumption | exact Upd.refl _ _ | (refine Upd.alloc ?_ _) | (refine Upd.drewN ?_ _) | (refine Upd.drew ?_) | (refine Upd.trans ?_ (by with_reducible assumption))))); rintro e w2 ⟨rfl, h2⟩))
  obtain ⟨hz, z1, z2, z3, z4, z5⟩ := ‹Upd No _ _ ∧ _›
  clear c1 c2 c3 c4 c5
  have hwz := hw0.trans hz
  clear hz hw0
  go_wp2_with (first
      | (go_at_call 4; refine (lawAwake _).mono ?_; rintro e wa ⟨rfl, ha⟩)
      | (go_at_call 7; refine (refAll A n c l HN.out (by omega) _ (H.upd (by repeat (first | with_reducible assumption | exact Upd.refl _ _ | (refine Upd.alloc ?_ _) | (refine Upd.drewN ?_ _) | (refine Upd.drew ?_) | (refine Upd.trans ?_ (by with_reducible assumption)))))).mono ?_; simp only [KALL.out]; rintro e w3 ⟨rfl, h3⟩; have y1 := h3.at_ z1; have y2 := h3.at_ z2; have y3 := h3.at_ z3; have y4 := h3.at_ z4; have y5 := h3.at_ z5; clear z1 z2 z3 z4 z5)
      | (go_at_call 8; refine (refRight t _).mono ?_; simp only [KT.out]; rintro e w4 ⟨rfl, h4⟩; have x1 := h4.at_ y1; have x2 := h4.at_ y2; have x3 := h4.at_ y3; have x4 := h4.at_ y4; have x5 := h4.at_ y5; clear y1 y2 y3 y4 y5))
  go_ret
  exact ⟨rfl, (by repeat (first | with_reducible assumption | exact Upd.refl _ _ | (refine Upd.alloc ?_ _) | (refine Upd.drewN ?_ _) | (refine Upd.drew ?_) | (refine Upd.trans ?_ (by with_reducible assumption))))⟩

set_option maxHeartbeats 800000 in
theorem lawBad21 (A : Option Addr) (n c : Nat) (l : List Tk) (t : Tk) (held b p bound : Int) (hn : n = l.length) (h12 : n ≤ 12) (w : World) (H : Rd w A (l.flatMap Tk.cells))
    (hbad : (allB l && t.ok && decide (0 ≤ held) && decide (held ≤ 1048576) && decide (0 ≤ bound) && decide (bound ≤ 1048576) && resB b p) = false) (kall : allB l = true) (kt : t.ok = true) (k1 : held < 0) (hq : 1048576 < bound) :
    Calls Try.prog 3 #[.slice A n c, .agg #[.int .i64 t.c, .int .i64 t.p, .int .i64 t.d], .int .i64 held, .agg #[.int .i64 b, .int .i64 p], .int .i64 bound] w
      fun e w' => e = .returned (.bool true) ∧ Upd No w w' := by
  have HN := Lib.hid hn; have HBAD := Lib.hid hbad; clear hn hbad
  have KALL := Lib.hid kall; clear kall
  have KT := Lib.hid kt; clear kt
  go_enter Try.func3, Try.ntmps3
  go_wp2_with fail
  have hw0 : Upd No w ((w.alloc (.cells #[.int .i64 t.c, .int .i64 t.p, .int .i64 t.d] 24)).alloc (.cells #[.int .i64 b, .int .i64 p] 26)) := ((Upd.refl _ _).alloc _).alloc _
  obtain ⟨hbt, hbr⟩ := (Upd.refl No ((w.alloc (.cells #[.int .i64 t.c, .int .i64 t.p, .int .i64 t.d] 24)).alloc (.cells #[.int .i64 b, .int .i64 p] 26))).box2
  generalize hW : (w.alloc (.cells #[.int .i64 t.c, .int .i64 t.p, .int .i64 t.d] 24)).alloc (.cells #[.int .i64 b, .int .i64 p] 26) = W0 at *
  clear hW
  have c1 := hbt 0
  have c2 := hbt 1
  have c3 := hbt 2
  have c4 := hbr 0
  have c5 := hbr 1
  simp only [List.getElem?_toArray, List.getElem?_cons_zero, List.getElem?_cons_succ] at c1 c2 c3 c4 c5
  clear hbt hbr
  go_region_held3 (fun w' => Upd No W0 w' ∧ w'.cell? ⟨w.heap.size, 0, none⟩ = some (.int .i64 t.c) ∧ w'.cell? ⟨w.heap.size, 0 + 1, none⟩ = some (.int .i64 t.p) ∧ w'.cell? ⟨w.heap.size, 0 + 2, none⟩ = some (.int .i64 t.d) ∧ w'.cell? ⟨w.heap.size + 1, 0, none⟩ = some (.int .i64 b) ∧ w'.cell? ⟨w.heap.size + 1, 0 + 1, none⟩ = some (.int .i64 p))
    (first | exact ⟨(Upd.refl _ _).drew, c1, c2, c3, c4, c5⟩ | (obtain ⟨hs0, hs1, hs2, hs3, hs4, hs5⟩ := ‹Upd No _ _ ∧ _›; exact ⟨hs0.trans (by assumption), Upd.at_ (by assumption) hs1, Upd.at_ (by assumption) hs2, Upd.at_ (by assumption) hs3, Upd.at_ (by assumption) hs4, Upd.at_ (by assumption) hs5⟩))
    (first | (go_at_call 6; refine (lawTo b p _).mono ?_; rintro e w1 ⟨rfl, h1⟩) | (go_at_call 5; refine (progTime0 A n c l t held b p bound HN.out (by omega) HBAD.out _ ?_).mono ?_; (exact H.upd (by repeat (first | with_reducible assumption | exact Upd.refl _ _ | (refine Upd.alloc ?_ _) | (refine Upd.drewN ?_ _) | (refine Upd.drew ?_) | (refine Upd.trans ?_ (by with_reducible assumption))))); rintro e w2 ⟨rfl, h2⟩))
  obtain ⟨hz, z1, z2, z3, z4, z5⟩ := ‹Upd No _ _ ∧ _›
  clear c1 c2 c3 c4 c5
  have hwz := hw0.trans hz
  clear hz hw0
  go_wp2_with (first
      | (go_at_call 4; refine (lawAwake _).mono ?_; rintro e wa ⟨rfl, ha⟩)
      | (go_at_call 7; refine (refAll A n c l HN.out (by omega) _ (H.upd (by repeat (first | with_reducible assumption | exact Upd.refl _ _ | (refine Upd.alloc ?_ _) | (refine Upd.drewN ?_ _) | (refine Upd.drew ?_) | (refine Upd.trans ?_ (by with_reducible assumption)))))).mono ?_; simp only [KALL.out]; rintro e w3 ⟨rfl, h3⟩; have y1 := h3.at_ z1; have y2 := h3.at_ z2; have y3 := h3.at_ z3; have y4 := h3.at_ z4; have y5 := h3.at_ z5; clear z1 z2 z3 z4 z5)
      | (go_at_call 8; refine (refRight t _).mono ?_; simp only [KT.out]; rintro e w4 ⟨rfl, h4⟩; have x1 := h4.at_ y1; have x2 := h4.at_ y2; have x3 := h4.at_ y3; have x4 := h4.at_ y4; have x5 := h4.at_ y5; clear y1 y2 y3 y4 y5))
  go_ret
  exact ⟨rfl, (by repeat (first | with_reducible assumption | exact Upd.refl _ _ | (refine Upd.alloc ?_ _) | (refine Upd.drewN ?_ _) | (refine Upd.drew ?_) | (refine Upd.trans ?_ (by with_reducible assumption))))⟩

set_option maxHeartbeats 800000 in
theorem lawBad30 (A : Option Addr) (n c : Nat) (l : List Tk) (t : Tk) (held b p bound : Int) (hn : n = l.length) (h12 : n ≤ 12) (w : World) (H : Rd w A (l.flatMap Tk.cells))
    (hbad : (allB l && t.ok && decide (0 ≤ held) && decide (held ≤ 1048576) && decide (0 ≤ bound) && decide (bound ≤ 1048576) && resB b p) = false) (kall : allB l = true) (kt : t.ok = true) (k1 : 0 ≤ held) (k2 : 1048576 < held) (hq : bound ≤ 400) :
    Calls Try.prog 3 #[.slice A n c, .agg #[.int .i64 t.c, .int .i64 t.p, .int .i64 t.d], .int .i64 held, .agg #[.int .i64 b, .int .i64 p], .int .i64 bound] w
      fun e w' => e = .returned (.bool true) ∧ Upd No w w' := by
  have HN := Lib.hid hn; have HBAD := Lib.hid hbad; clear hn hbad
  have KALL := Lib.hid kall; clear kall
  have KT := Lib.hid kt; clear kt
  go_enter Try.func3, Try.ntmps3
  go_wp2_with fail
  have hw0 : Upd No w ((w.alloc (.cells #[.int .i64 t.c, .int .i64 t.p, .int .i64 t.d] 24)).alloc (.cells #[.int .i64 b, .int .i64 p] 26)) := ((Upd.refl _ _).alloc _).alloc _
  obtain ⟨hbt, hbr⟩ := (Upd.refl No ((w.alloc (.cells #[.int .i64 t.c, .int .i64 t.p, .int .i64 t.d] 24)).alloc (.cells #[.int .i64 b, .int .i64 p] 26))).box2
  generalize hW : (w.alloc (.cells #[.int .i64 t.c, .int .i64 t.p, .int .i64 t.d] 24)).alloc (.cells #[.int .i64 b, .int .i64 p] 26) = W0 at *
  clear hW
  have c1 := hbt 0
  have c2 := hbt 1
  have c3 := hbt 2
  have c4 := hbr 0
  have c5 := hbr 1
  simp only [List.getElem?_toArray, List.getElem?_cons_zero, List.getElem?_cons_succ] at c1 c2 c3 c4 c5
  clear hbt hbr
  go_region_held3 (fun w' => Upd No W0 w' ∧ w'.cell? ⟨w.heap.size, 0, none⟩ = some (.int .i64 t.c) ∧ w'.cell? ⟨w.heap.size, 0 + 1, none⟩ = some (.int .i64 t.p) ∧ w'.cell? ⟨w.heap.size, 0 + 2, none⟩ = some (.int .i64 t.d) ∧ w'.cell? ⟨w.heap.size + 1, 0, none⟩ = some (.int .i64 b) ∧ w'.cell? ⟨w.heap.size + 1, 0 + 1, none⟩ = some (.int .i64 p))
    (first | exact ⟨(Upd.refl _ _).drew, c1, c2, c3, c4, c5⟩ | (obtain ⟨hs0, hs1, hs2, hs3, hs4, hs5⟩ := ‹Upd No _ _ ∧ _›; exact ⟨hs0.trans (by assumption), Upd.at_ (by assumption) hs1, Upd.at_ (by assumption) hs2, Upd.at_ (by assumption) hs3, Upd.at_ (by assumption) hs4, Upd.at_ (by assumption) hs5⟩))
    (first | (go_at_call 6; refine (lawTo b p _).mono ?_; rintro e w1 ⟨rfl, h1⟩) | (go_at_call 5; refine (progTime0 A n c l t held b p bound HN.out (by omega) HBAD.out _ ?_).mono ?_; (exact H.upd (by repeat (first | with_reducible assumption | exact Upd.refl _ _ | (refine Upd.alloc ?_ _) | (refine Upd.drewN ?_ _) | (refine Upd.drew ?_) | (refine Upd.trans ?_ (by with_reducible assumption))))); rintro e w2 ⟨rfl, h2⟩))
  obtain ⟨hz, z1, z2, z3, z4, z5⟩ := ‹Upd No _ _ ∧ _›
  clear c1 c2 c3 c4 c5
  have hwz := hw0.trans hz
  clear hz hw0
  go_wp2_with (first
      | (go_at_call 4; refine (lawAwake _).mono ?_; rintro e wa ⟨rfl, ha⟩)
      | (go_at_call 7; refine (refAll A n c l HN.out (by omega) _ (H.upd (by repeat (first | with_reducible assumption | exact Upd.refl _ _ | (refine Upd.alloc ?_ _) | (refine Upd.drewN ?_ _) | (refine Upd.drew ?_) | (refine Upd.trans ?_ (by with_reducible assumption)))))).mono ?_; simp only [KALL.out]; rintro e w3 ⟨rfl, h3⟩; have y1 := h3.at_ z1; have y2 := h3.at_ z2; have y3 := h3.at_ z3; have y4 := h3.at_ z4; have y5 := h3.at_ z5; clear z1 z2 z3 z4 z5)
      | (go_at_call 8; refine (refRight t _).mono ?_; simp only [KT.out]; rintro e w4 ⟨rfl, h4⟩; have x1 := h4.at_ y1; have x2 := h4.at_ y2; have x3 := h4.at_ y3; have x4 := h4.at_ y4; have x5 := h4.at_ y5; clear y1 y2 y3 y4 y5))
  go_ret
  exact ⟨rfl, (by repeat (first | with_reducible assumption | exact Upd.refl _ _ | (refine Upd.alloc ?_ _) | (refine Upd.drewN ?_ _) | (refine Upd.drew ?_) | (refine Upd.trans ?_ (by with_reducible assumption))))⟩

set_option maxHeartbeats 800000 in
theorem lawBad31 (A : Option Addr) (n c : Nat) (l : List Tk) (t : Tk) (held b p bound : Int) (hn : n = l.length) (h12 : n ≤ 12) (w : World) (H : Rd w A (l.flatMap Tk.cells))
    (hbad : (allB l && t.ok && decide (0 ≤ held) && decide (held ≤ 1048576) && decide (0 ≤ bound) && decide (bound ≤ 1048576) && resB b p) = false) (kall : allB l = true) (kt : t.ok = true) (k1 : 0 ≤ held) (k2 : 1048576 < held) (hq : 1048576 < bound) :
    Calls Try.prog 3 #[.slice A n c, .agg #[.int .i64 t.c, .int .i64 t.p, .int .i64 t.d], .int .i64 held, .agg #[.int .i64 b, .int .i64 p], .int .i64 bound] w
      fun e w' => e = .returned (.bool true) ∧ Upd No w w' := by
  have HN := Lib.hid hn; have HBAD := Lib.hid hbad; clear hn hbad
  have KALL := Lib.hid kall; clear kall
  have KT := Lib.hid kt; clear kt
  go_enter Try.func3, Try.ntmps3
  go_wp2_with fail
  have hw0 : Upd No w ((w.alloc (.cells #[.int .i64 t.c, .int .i64 t.p, .int .i64 t.d] 24)).alloc (.cells #[.int .i64 b, .int .i64 p] 26)) := ((Upd.refl _ _).alloc _).alloc _
  obtain ⟨hbt, hbr⟩ := (Upd.refl No ((w.alloc (.cells #[.int .i64 t.c, .int .i64 t.p, .int .i64 t.d] 24)).alloc (.cells #[.int .i64 b, .int .i64 p] 26))).box2
  generalize hW : (w.alloc (.cells #[.int .i64 t.c, .int .i64 t.p, .int .i64 t.d] 24)).alloc (.cells #[.int .i64 b, .int .i64 p] 26) = W0 at *
  clear hW
  have c1 := hbt 0
  have c2 := hbt 1
  have c3 := hbt 2
  have c4 := hbr 0
  have c5 := hbr 1
  simp only [List.getElem?_toArray, List.getElem?_cons_zero, List.getElem?_cons_succ] at c1 c2 c3 c4 c5
  clear hbt hbr
  go_region_held3 (fun w' => Upd No W0 w' ∧ w'.cell? ⟨w.heap.size, 0, none⟩ = some (.int .i64 t.c) ∧ w'.cell? ⟨w.heap.size, 0 + 1, none⟩ = some (.int .i64 t.p) ∧ w'.cell? ⟨w.heap.size, 0 + 2, none⟩ = some (.int .i64 t.d) ∧ w'.cell? ⟨w.heap.size + 1, 0, none⟩ = some (.int .i64 b) ∧ w'.cell? ⟨w.heap.size + 1, 0 + 1, none⟩ = some (.int .i64 p))
    (first | exact ⟨(Upd.refl _ _).drew, c1, c2, c3, c4, c5⟩ | (obtain ⟨hs0, hs1, hs2, hs3, hs4, hs5⟩ := ‹Upd No _ _ ∧ _›; exact ⟨hs0.trans (by assumption), Upd.at_ (by assumption) hs1, Upd.at_ (by assumption) hs2, Upd.at_ (by assumption) hs3, Upd.at_ (by assumption) hs4, Upd.at_ (by assumption) hs5⟩))
    (first | (go_at_call 6; refine (lawTo b p _).mono ?_; rintro e w1 ⟨rfl, h1⟩) | (go_at_call 5; refine (progTime0 A n c l t held b p bound HN.out (by omega) HBAD.out _ ?_).mono ?_; (exact H.upd (by repeat (first | with_reducible assumption | exact Upd.refl _ _ | (refine Upd.alloc ?_ _) | (refine Upd.drewN ?_ _) | (refine Upd.drew ?_) | (refine Upd.trans ?_ (by with_reducible assumption))))); rintro e w2 ⟨rfl, h2⟩))
  obtain ⟨hz, z1, z2, z3, z4, z5⟩ := ‹Upd No _ _ ∧ _›
  clear c1 c2 c3 c4 c5
  have hwz := hw0.trans hz
  clear hz hw0
  go_wp2_with (first
      | (go_at_call 4; refine (lawAwake _).mono ?_; rintro e wa ⟨rfl, ha⟩)
      | (go_at_call 7; refine (refAll A n c l HN.out (by omega) _ (H.upd (by repeat (first | with_reducible assumption | exact Upd.refl _ _ | (refine Upd.alloc ?_ _) | (refine Upd.drewN ?_ _) | (refine Upd.drew ?_) | (refine Upd.trans ?_ (by with_reducible assumption)))))).mono ?_; simp only [KALL.out]; rintro e w3 ⟨rfl, h3⟩; have y1 := h3.at_ z1; have y2 := h3.at_ z2; have y3 := h3.at_ z3; have y4 := h3.at_ z4; have y5 := h3.at_ z5; clear z1 z2 z3 z4 z5)
      | (go_at_call 8; refine (refRight t _).mono ?_; simp only [KT.out]; rintro e w4 ⟨rfl, h4⟩; have x1 := h4.at_ y1; have x2 := h4.at_ y2; have x3 := h4.at_ y3; have x4 := h4.at_ y4; have x5 := h4.at_ y5; clear y1 y2 y3 y4 y5))
  go_ret
  exact ⟨rfl, (by repeat (first | with_reducible assumption | exact Upd.refl _ _ | (refine Upd.alloc ?_ _) | (refine Upd.drewN ?_ _) | (refine Upd.drew ?_) | (refine Upd.trans ?_ (by with_reducible assumption))))⟩

set_option maxHeartbeats 800000 in
theorem lawBad40 (A : Option Addr) (n c : Nat) (l : List Tk) (t : Tk) (held b p bound : Int) (hn : n = l.length) (h12 : n ≤ 12) (w : World) (H : Rd w A (l.flatMap Tk.cells))
    (hbad : (allB l && t.ok && decide (0 ≤ held) && decide (held ≤ 1048576) && decide (0 ≤ bound) && decide (bound ≤ 1048576) && resB b p) = false) (kall : allB l = true) (kt : t.ok = true) (k1 : 0 ≤ held) (k2 : held ≤ 1048576) (kr : resB b p = false) (hq : bound ≤ 400) :
    Calls Try.prog 3 #[.slice A n c, .agg #[.int .i64 t.c, .int .i64 t.p, .int .i64 t.d], .int .i64 held, .agg #[.int .i64 b, .int .i64 p], .int .i64 bound] w
      fun e w' => e = .returned (.bool true) ∧ Upd No w w' := by
  have HN := Lib.hid hn; have HBAD := Lib.hid hbad; clear hn hbad
  have KALL := Lib.hid kall; clear kall
  have KT := Lib.hid kt; clear kt
  have KR := Lib.hid kr; clear kr
  go_enter Try.func3, Try.ntmps3
  go_wp2_with fail
  have hw0 : Upd No w ((w.alloc (.cells #[.int .i64 t.c, .int .i64 t.p, .int .i64 t.d] 24)).alloc (.cells #[.int .i64 b, .int .i64 p] 26)) := ((Upd.refl _ _).alloc _).alloc _
  obtain ⟨hbt, hbr⟩ := (Upd.refl No ((w.alloc (.cells #[.int .i64 t.c, .int .i64 t.p, .int .i64 t.d] 24)).alloc (.cells #[.int .i64 b, .int .i64 p] 26))).box2
  generalize hW : (w.alloc (.cells #[.int .i64 t.c, .int .i64 t.p, .int .i64 t.d] 24)).alloc (.cells #[.int .i64 b, .int .i64 p] 26) = W0 at *
  clear hW
  have c1 := hbt 0
  have c2 := hbt 1
  have c3 := hbt 2
  have c4 := hbr 0
  have c5 := hbr 1
  simp only [List.getElem?_toArray, List.getElem?_cons_zero, List.getElem?_cons_succ] at c1 c2 c3 c4 c5
  clear hbt hbr
  go_region_held3 (fun w' => Upd No W0 w' ∧ w'.cell? ⟨w.heap.size, 0, none⟩ = some (.int .i64 t.c) ∧ w'.cell? ⟨w.heap.size, 0 + 1, none⟩ = some (.int .i64 t.p) ∧ w'.cell? ⟨w.heap.size, 0 + 2, none⟩ = some (.int .i64 t.d) ∧ w'.cell? ⟨w.heap.size + 1, 0, none⟩ = some (.int .i64 b) ∧ w'.cell? ⟨w.heap.size + 1, 0 + 1, none⟩ = some (.int .i64 p))
    (first | exact ⟨(Upd.refl _ _).drew, c1, c2, c3, c4, c5⟩ | (obtain ⟨hs0, hs1, hs2, hs3, hs4, hs5⟩ := ‹Upd No _ _ ∧ _›; exact ⟨hs0.trans (by assumption), Upd.at_ (by assumption) hs1, Upd.at_ (by assumption) hs2, Upd.at_ (by assumption) hs3, Upd.at_ (by assumption) hs4, Upd.at_ (by assumption) hs5⟩))
    (first | (go_at_call 6; refine (lawTo b p _).mono ?_; rintro e w1 ⟨rfl, h1⟩) | (go_at_call 5; refine (progTime0 A n c l t held b p bound HN.out (by omega) HBAD.out _ ?_).mono ?_; (exact H.upd (by repeat (first | with_reducible assumption | exact Upd.refl _ _ | (refine Upd.alloc ?_ _) | (refine Upd.drewN ?_ _) | (refine Upd.drew ?_) | (refine Upd.trans ?_ (by with_reducible assumption))))); rintro e w2 ⟨rfl, h2⟩))
  obtain ⟨hz, z1, z2, z3, z4, z5⟩ := ‹Upd No _ _ ∧ _›
  clear c1 c2 c3 c4 c5
  have hwz := hw0.trans hz
  clear hz hw0
  go_wp2_with (first
      | (go_at_call 4; refine (lawAwake _).mono ?_; rintro e wa ⟨rfl, ha⟩)
      | (go_at_call 7; refine (refAll A n c l HN.out (by omega) _ (H.upd (by repeat (first | with_reducible assumption | exact Upd.refl _ _ | (refine Upd.alloc ?_ _) | (refine Upd.drewN ?_ _) | (refine Upd.drew ?_) | (refine Upd.trans ?_ (by with_reducible assumption)))))).mono ?_; simp only [KALL.out]; rintro e w3 ⟨rfl, h3⟩; have y1 := h3.at_ z1; have y2 := h3.at_ z2; have y3 := h3.at_ z3; have y4 := h3.at_ z4; have y5 := h3.at_ z5; clear z1 z2 z3 z4 z5)
      | (go_at_call 8; refine (refRight t _).mono ?_; simp only [KT.out]; rintro e w4 ⟨rfl, h4⟩; have x1 := h4.at_ y1; have x2 := h4.at_ y2; have x3 := h4.at_ y3; have x4 := h4.at_ y4; have x5 := h4.at_ y5; clear y1 y2 y3 y4 y5)
      | (go_at_call 9; refine (ref04Right b p _).mono ?_; simp only [KR.out]; rintro e w5 ⟨rfl, h5⟩; have v1 := h5.at_ x1; have v2 := h5.at_ x2; have v3 := h5.at_ x3; have v4 := h5.at_ x4; have v5 := h5.at_ x5; clear x1 x2 x3 x4 x5))
  go_ret
  exact ⟨rfl, (by repeat (first | with_reducible assumption | exact Upd.refl _ _ | (refine Upd.alloc ?_ _) | (refine Upd.drewN ?_ _) | (refine Upd.drew ?_) | (refine Upd.trans ?_ (by with_reducible assumption))))⟩

set_option maxHeartbeats 800000 in
theorem lawBad41 (A : Option Addr) (n c : Nat) (l : List Tk) (t : Tk) (held b p bound : Int) (hn : n = l.length) (h12 : n ≤ 12) (w : World) (H : Rd w A (l.flatMap Tk.cells))
    (hbad : (allB l && t.ok && decide (0 ≤ held) && decide (held ≤ 1048576) && decide (0 ≤ bound) && decide (bound ≤ 1048576) && resB b p) = false) (kall : allB l = true) (kt : t.ok = true) (k1 : 0 ≤ held) (k2 : held ≤ 1048576) (kr : resB b p = false) (hq : 1048576 < bound) :
    Calls Try.prog 3 #[.slice A n c, .agg #[.int .i64 t.c, .int .i64 t.p, .int .i64 t.d], .int .i64 held, .agg #[.int .i64 b, .int .i64 p], .int .i64 bound] w
      fun e w' => e = .returned (.bool true) ∧ Upd No w w' := by
  have HN := Lib.hid hn; have HBAD := Lib.hid hbad; clear hn hbad
  have KALL := Lib.hid kall; clear kall
  have KT := Lib.hid kt; clear kt
  have KR := Lib.hid kr; clear kr
  go_enter Try.func3, Try.ntmps3
  go_wp2_with fail
  have hw0 : Upd No w ((w.alloc (.cells #[.int .i64 t.c, .int .i64 t.p, .int .i64 t.d] 24)).alloc (.cells #[.int .i64 b, .int .i64 p] 26)) := ((Upd.refl _ _).alloc _).alloc _
  obtain ⟨hbt, hbr⟩ := (Upd.refl No ((w.alloc (.cells #[.int .i64 t.c, .int .i64 t.p, .int .i64 t.d] 24)).alloc (.cells #[.int .i64 b, .int .i64 p] 26))).box2
  generalize hW : (w.alloc (.cells #[.int .i64 t.c, .int .i64 t.p, .int .i64 t.d] 24)).alloc (.cells #[.int .i64 b, .int .i64 p] 26) = W0 at *
  clear hW
  have c1 := hbt 0
  have c2 := hbt 1
  have c3 := hbt 2
  have c4 := hbr 0
  have c5 := hbr 1
  simp only [List.getElem?_toArray, List.getElem?_cons_zero, List.getElem?_cons_succ] at c1 c2 c3 c4 c5
  clear hbt hbr
  go_region_held3 (fun w' => Upd No W0 w' ∧ w'.cell? ⟨w.heap.size, 0, none⟩ = some (.int .i64 t.c) ∧ w'.cell? ⟨w.heap.size, 0 + 1, none⟩ = some (.int .i64 t.p) ∧ w'.cell? ⟨w.heap.size, 0 + 2, none⟩ = some (.int .i64 t.d) ∧ w'.cell? ⟨w.heap.size + 1, 0, none⟩ = some (.int .i64 b) ∧ w'.cell? ⟨w.heap.size + 1, 0 + 1, none⟩ = some (.int .i64 p))
    (first | exact ⟨(Upd.refl _ _).drew, c1, c2, c3, c4, c5⟩ | (obtain ⟨hs0, hs1, hs2, hs3, hs4, hs5⟩ := ‹Upd No _ _ ∧ _›; exact ⟨hs0.trans (by assumption), Upd.at_ (by assumption) hs1, Upd.at_ (by assumption) hs2, Upd.at_ (by assumption) hs3, Upd.at_ (by assumption) hs4, Upd.at_ (by assumption) hs5⟩))
    (first | (go_at_call 6; refine (lawTo b p _).mono ?_; rintro e w1 ⟨rfl, h1⟩) | (go_at_call 5; refine (progTime0 A n c l t held b p bound HN.out (by omega) HBAD.out _ ?_).mono ?_; (exact H.upd (by repeat (first | with_reducible assumption | exact Upd.refl _ _ | (refine Upd.alloc ?_ _) | (refine Upd.drewN ?_ _) | (refine Upd.drew ?_) | (refine Upd.trans ?_ (by with_reducible assumption))))); rintro e w2 ⟨rfl, h2⟩))
  obtain ⟨hz, z1, z2, z3, z4, z5⟩ := ‹Upd No _ _ ∧ _›
  clear c1 c2 c3 c4 c5
  have hwz := hw0.trans hz
  clear hz hw0
  go_wp2_with (first
      | (go_at_call 4; refine (lawAwake _).mono ?_; rintro e wa ⟨rfl, ha⟩)
      | (go_at_call 7; refine (refAll A n c l HN.out (by omega) _ (H.upd (by repeat (first | with_reducible assumption | exact Upd.refl _ _ | (refine Upd.alloc ?_ _) | (refine Upd.drewN ?_ _) | (refine Upd.drew ?_) | (refine Upd.trans ?_ (by with_reducible assumption)))))).mono ?_; simp only [KALL.out]; rintro e w3 ⟨rfl, h3⟩; have y1 := h3.at_ z1; have y2 := h3.at_ z2; have y3 := h3.at_ z3; have y4 := h3.at_ z4; have y5 := h3.at_ z5; clear z1 z2 z3 z4 z5)
      | (go_at_call 8; refine (refRight t _).mono ?_; simp only [KT.out]; rintro e w4 ⟨rfl, h4⟩; have x1 := h4.at_ y1; have x2 := h4.at_ y2; have x3 := h4.at_ y3; have x4 := h4.at_ y4; have x5 := h4.at_ y5; clear y1 y2 y3 y4 y5)
      | (go_at_call 9; refine (ref04Right b p _).mono ?_; simp only [KR.out]; rintro e w5 ⟨rfl, h5⟩; have v1 := h5.at_ x1; have v2 := h5.at_ x2; have v3 := h5.at_ x3; have v4 := h5.at_ x4; have v5 := h5.at_ x5; clear x1 x2 x3 x4 x5))
  go_ret
  exact ⟨rfl, (by repeat (first | with_reducible assumption | exact Upd.refl _ _ | (refine Upd.alloc ?_ _) | (refine Upd.drewN ?_ _) | (refine Upd.drew ?_) | (refine Upd.trans ?_ (by with_reducible assumption))))⟩

set_option maxHeartbeats 800000 in
theorem lawBad50 (A : Option Addr) (n c : Nat) (l : List Tk) (t : Tk) (held b p bound : Int) (hn : n = l.length) (h12 : n ≤ 12) (w : World) (H : Rd w A (l.flatMap Tk.cells))
    (hbad : (allB l && t.ok && decide (0 ≤ held) && decide (held ≤ 1048576) && decide (0 ≤ bound) && decide (bound ≤ 1048576) && resB b p) = false) (kall : allB l = true) (kt : t.ok = true) (k1 : 0 ≤ held) (k2 : held ≤ 1048576) (kr : resB b p = true) (k3 : bound < 0) (hq : bound ≤ 400) :
    Calls Try.prog 3 #[.slice A n c, .agg #[.int .i64 t.c, .int .i64 t.p, .int .i64 t.d], .int .i64 held, .agg #[.int .i64 b, .int .i64 p], .int .i64 bound] w
      fun e w' => e = .returned (.bool true) ∧ Upd No w w' := by
  have HN := Lib.hid hn; have HBAD := Lib.hid hbad; clear hn hbad
  have KALL := Lib.hid kall; clear kall
  have KT := Lib.hid kt; clear kt
  have KR := Lib.hid kr; clear kr
  go_enter Try.func3, Try.ntmps3
  go_wp2_with fail
  have hw0 : Upd No w ((w.alloc (.cells #[.int .i64 t.c, .int .i64 t.p, .int .i64 t.d] 24)).alloc (.cells #[.int .i64 b, .int .i64 p] 26)) := ((Upd.refl _ _).alloc _).alloc _
  obtain ⟨hbt, hbr⟩ := (Upd.refl No ((w.alloc (.cells #[.int .i64 t.c, .int .i64 t.p, .int .i64 t.d] 24)).alloc (.cells #[.int .i64 b, .int .i64 p] 26))).box2
  generalize hW : (w.alloc (.cells #[.int .i64 t.c, .int .i64 t.p, .int .i64 t.d] 24)).alloc (.cells #[.int .i64 b, .int .i64 p] 26) = W0 at *
  clear hW
  have c1 := hbt 0
  have c2 := hbt 1
  have c3 := hbt 2
  have c4 := hbr 0
  have c5 := hbr 1
  simp only [List.getElem?_toArray, List.getElem?_cons_zero, List.getElem?_cons_succ] at c1 c2 c3 c4 c5
  clear hbt hbr
  go_region_held3 (fun w' => Upd No W0 w' ∧ w'.cell? ⟨w.heap.size, 0, none⟩ = some (.int .i64 t.c) ∧ w'.cell? ⟨w.heap.size, 0 + 1, none⟩ = some (.int .i64 t.p) ∧ w'.cell? ⟨w.heap.size, 0 + 2, none⟩ = some (.int .i64 t.d) ∧ w'.cell? ⟨w.heap.size + 1, 0, none⟩ = some (.int .i64 b) ∧ w'.cell? ⟨w.heap.size + 1, 0 + 1, none⟩ = some (.int .i64 p))
    (first | exact ⟨(Upd.refl _ _).drew, c1, c2, c3, c4, c5⟩ | (obtain ⟨hs0, hs1, hs2, hs3, hs4, hs5⟩ := ‹Upd No _ _ ∧ _›; exact ⟨hs0.trans (by assumption), Upd.at_ (by assumption) hs1, Upd.at_ (by assumption) hs2, Upd.at_ (by assumption) hs3, Upd.at_ (by assumption) hs4, Upd.at_ (by assumption) hs5⟩))
    (first | (go_at_call 6; refine (lawTo b p _).mono ?_; rintro e w1 ⟨rfl, h1⟩) | (go_at_call 5; refine (progTime0 A n c l t held b p bound HN.out (by omega) HBAD.out _ ?_).mono ?_; (exact H.upd (by repeat (first | with_reducible assumption | exact Upd.refl _ _ | (refine Upd.alloc ?_ _) | (refine Upd.drewN ?_ _) | (refine Upd.drew ?_) | (refine Upd.trans ?_ (by with_reducible assumption))))); rintro e w2 ⟨rfl, h2⟩))
  obtain ⟨hz, z1, z2, z3, z4, z5⟩ := ‹Upd No _ _ ∧ _›
  clear c1 c2 c3 c4 c5
  have hwz := hw0.trans hz
  clear hz hw0
  go_wp2_with (first
      | (go_at_call 4; refine (lawAwake _).mono ?_; rintro e wa ⟨rfl, ha⟩)
      | (go_at_call 7; refine (refAll A n c l HN.out (by omega) _ (H.upd (by repeat (first | with_reducible assumption | exact Upd.refl _ _ | (refine Upd.alloc ?_ _) | (refine Upd.drewN ?_ _) | (refine Upd.drew ?_) | (refine Upd.trans ?_ (by with_reducible assumption)))))).mono ?_; simp only [KALL.out]; rintro e w3 ⟨rfl, h3⟩; have y1 := h3.at_ z1; have y2 := h3.at_ z2; have y3 := h3.at_ z3; have y4 := h3.at_ z4; have y5 := h3.at_ z5; clear z1 z2 z3 z4 z5)
      | (go_at_call 8; refine (refRight t _).mono ?_; simp only [KT.out]; rintro e w4 ⟨rfl, h4⟩; have x1 := h4.at_ y1; have x2 := h4.at_ y2; have x3 := h4.at_ y3; have x4 := h4.at_ y4; have x5 := h4.at_ y5; clear y1 y2 y3 y4 y5)
      | (go_at_call 9; refine (ref04Right b p _).mono ?_; simp only [KR.out]; rintro e w5 ⟨rfl, h5⟩; have v1 := h5.at_ x1; have v2 := h5.at_ x2; have v3 := h5.at_ x3; have v4 := h5.at_ x4; have v5 := h5.at_ x5; clear x1 x2 x3 x4 x5))
  go_ret
  exact ⟨rfl, (by repeat (first | with_reducible assumption | exact Upd.refl _ _ | (refine Upd.alloc ?_ _) | (refine Upd.drewN ?_ _) | (refine Upd.drew ?_) | (refine Upd.trans ?_ (by with_reducible assumption))))⟩

set_option maxHeartbeats 800000 in
theorem lawBad61 (A : Option Addr) (n c : Nat) (l : List Tk) (t : Tk) (held b p bound : Int) (hn : n = l.length) (h12 : n ≤ 12) (w : World) (H : Rd w A (l.flatMap Tk.cells))
    (hbad : (allB l && t.ok && decide (0 ≤ held) && decide (held ≤ 1048576) && decide (0 ≤ bound) && decide (bound ≤ 1048576) && resB b p) = false) (kall : allB l = true) (kt : t.ok = true) (k1 : 0 ≤ held) (k2 : held ≤ 1048576) (kr : resB b p = true) (k3 : 1048576 < bound)  :
    Calls Try.prog 3 #[.slice A n c, .agg #[.int .i64 t.c, .int .i64 t.p, .int .i64 t.d], .int .i64 held, .agg #[.int .i64 b, .int .i64 p], .int .i64 bound] w
      fun e w' => e = .returned (.bool true) ∧ Upd No w w' := by
  have HN := Lib.hid hn; have HBAD := Lib.hid hbad; clear hn hbad
  have KALL := Lib.hid kall; clear kall
  have KT := Lib.hid kt; clear kt
  have KR := Lib.hid kr; clear kr
  go_enter Try.func3, Try.ntmps3
  go_wp2_with fail
  have hw0 : Upd No w ((w.alloc (.cells #[.int .i64 t.c, .int .i64 t.p, .int .i64 t.d] 24)).alloc (.cells #[.int .i64 b, .int .i64 p] 26)) := ((Upd.refl _ _).alloc _).alloc _
  obtain ⟨hbt, hbr⟩ := (Upd.refl No ((w.alloc (.cells #[.int .i64 t.c, .int .i64 t.p, .int .i64 t.d] 24)).alloc (.cells #[.int .i64 b, .int .i64 p] 26))).box2
  generalize hW : (w.alloc (.cells #[.int .i64 t.c, .int .i64 t.p, .int .i64 t.d] 24)).alloc (.cells #[.int .i64 b, .int .i64 p] 26) = W0 at *
  clear hW
  have c1 := hbt 0
  have c2 := hbt 1
  have c3 := hbt 2
  have c4 := hbr 0
  have c5 := hbr 1
  simp only [List.getElem?_toArray, List.getElem?_cons_zero, List.getElem?_cons_succ] at c1 c2 c3 c4 c5
  clear hbt hbr
  go_region_held3 (fun w' => Upd No W0 w' ∧ w'.cell? ⟨w.heap.size, 0, none⟩ = some (.int .i64 t.c) ∧ w'.cell? ⟨w.heap.size, 0 + 1, none⟩ = some (.int .i64 t.p) ∧ w'.cell? ⟨w.heap.size, 0 + 2, none⟩ = some (.int .i64 t.d) ∧ w'.cell? ⟨w.heap.size + 1, 0, none⟩ = some (.int .i64 b) ∧ w'.cell? ⟨w.heap.size + 1, 0 + 1, none⟩ = some (.int .i64 p))
    (first | exact ⟨(Upd.refl _ _).drew, c1, c2, c3, c4, c5⟩ | (obtain ⟨hs0, hs1, hs2, hs3, hs4, hs5⟩ := ‹Upd No _ _ ∧ _›; exact ⟨hs0.trans (by assumption), Upd.at_ (by assumption) hs1, Upd.at_ (by assumption) hs2, Upd.at_ (by assumption) hs3, Upd.at_ (by assumption) hs4, Upd.at_ (by assumption) hs5⟩))
    (first | (go_at_call 6; refine (lawTo b p _).mono ?_; rintro e w1 ⟨rfl, h1⟩) | (go_at_call 5; refine (progTime0 A n c l t held b p bound HN.out (by omega) HBAD.out _ ?_).mono ?_; (exact H.upd (by repeat (first | with_reducible assumption | exact Upd.refl _ _ | (refine Upd.alloc ?_ _) | (refine Upd.drewN ?_ _) | (refine Upd.drew ?_) | (refine Upd.trans ?_ (by with_reducible assumption))))); rintro e w2 ⟨rfl, h2⟩))
  obtain ⟨hz, z1, z2, z3, z4, z5⟩ := ‹Upd No _ _ ∧ _›
  clear c1 c2 c3 c4 c5
  have hwz := hw0.trans hz
  clear hz hw0
  go_wp2_with (first
      | (go_at_call 4; refine (lawAwake _).mono ?_; rintro e wa ⟨rfl, ha⟩)
      | (go_at_call 7; refine (refAll A n c l HN.out (by omega) _ (H.upd (by repeat (first | with_reducible assumption | exact Upd.refl _ _ | (refine Upd.alloc ?_ _) | (refine Upd.drewN ?_ _) | (refine Upd.drew ?_) | (refine Upd.trans ?_ (by with_reducible assumption)))))).mono ?_; simp only [KALL.out]; rintro e w3 ⟨rfl, h3⟩; have y1 := h3.at_ z1; have y2 := h3.at_ z2; have y3 := h3.at_ z3; have y4 := h3.at_ z4; have y5 := h3.at_ z5; clear z1 z2 z3 z4 z5)
      | (go_at_call 8; refine (refRight t _).mono ?_; simp only [KT.out]; rintro e w4 ⟨rfl, h4⟩; have x1 := h4.at_ y1; have x2 := h4.at_ y2; have x3 := h4.at_ y3; have x4 := h4.at_ y4; have x5 := h4.at_ y5; clear y1 y2 y3 y4 y5)
      | (go_at_call 9; refine (ref04Right b p _).mono ?_; simp only [KR.out]; rintro e w5 ⟨rfl, h5⟩; have v1 := h5.at_ x1; have v2 := h5.at_ x2; have v3 := h5.at_ x3; have v4 := h5.at_ x4; have v5 := h5.at_ x5; clear x1 x2 x3 x4 x5))
  go_ret
  exact ⟨rfl, (by repeat (first | with_reducible assumption | exact Upd.refl _ _ | (refine Upd.alloc ?_ _) | (refine Upd.drewN ?_ _) | (refine Upd.drew ?_) | (refine Upd.trans ?_ (by with_reducible assumption))))⟩

set_option maxHeartbeats 800000 in
theorem lawGood (A : Option Addr) (n c : Nat) (l : List Tk) (t : Tk) (held b p bound : Int) (hn : n = l.length) (h12 : n ≤ 12) (w : World) (H : Rd w A (l.flatMap Tk.cells))
    (kall : allB l = true) (kt : t.ok = true) (k1 : 0 ≤ held) (k2 : held ≤ 1048576) (kr : resB b p = true) (k3 : 0 ≤ bound) (k4 : bound ≤ 400) :
    Calls Try.prog 3 #[.slice A n c, .agg #[.int .i64 t.c, .int .i64 t.p, .int .i64 t.d], .int .i64 held, .agg #[.int .i64 b, .int .i64 p], .int .i64 bound] w
      fun e w' => e = .returned (.bool true) ∧ Upd No w w' := by
  have HN := Lib.hid hn; clear hn
  have KALL := Lib.hid kall; clear kall
  have KT := Lib.hid kt; clear kt
  have KR := Lib.hid kr; clear kr
  go_enter Try.func3, Try.ntmps3
  go_wp2_with fail
  have hw0 : Upd No w ((w.alloc (.cells #[.int .i64 t.c, .int .i64 t.p, .int .i64 t.d] 24)).alloc (.cells #[.int .i64 b, .int .i64 p] 26)) := ((Upd.refl _ _).alloc _).alloc _
  obtain ⟨hbt, hbr⟩ := (Upd.refl No ((w.alloc (.cells #[.int .i64 t.c, .int .i64 t.p, .int .i64 t.d] 24)).alloc (.cells #[.int .i64 b, .int .i64 p] 26))).box2
  generalize hW : (w.alloc (.cells #[.int .i64 t.c, .int .i64 t.p, .int .i64 t.d] 24)).alloc (.cells #[.int .i64 b, .int .i64 p] 26) = W0 at *
  clear hW
  have c1 := hbt 0
  have c2 := hbt 1
  have c3 := hbt 2
  have c4 := hbr 0
  have c5 := hbr 1
  simp only [List.getElem?_toArray, List.getElem?_cons_zero, List.getElem?_cons_succ] at c1 c2 c3 c4 c5
  clear hbt hbr
  go_region_held3 (fun w' => Upd No W0 w' ∧ w'.cell? ⟨w.heap.size, 0, none⟩ = some (.int .i64 t.c) ∧ w'.cell? ⟨w.heap.size, 0 + 1, none⟩ = some (.int .i64 t.p) ∧ w'.cell? ⟨w.heap.size, 0 + 2, none⟩ = some (.int .i64 t.d) ∧ w'.cell? ⟨w.heap.size + 1, 0, none⟩ = some (.int .i64 b) ∧ w'.cell? ⟨w.heap.size + 1, 0 + 1, none⟩ = some (.int .i64 p))
    (first | exact ⟨(Upd.refl _ _).drew, c1, c2, c3, c4, c5⟩ | (obtain ⟨hs0, hs1, hs2, hs3, hs4, hs5⟩ := ‹Upd No _ _ ∧ _›; exact ⟨hs0.trans (by assumption), Upd.at_ (by assumption) hs1, Upd.at_ (by assumption) hs2, Upd.at_ (by assumption) hs3, Upd.at_ (by assumption) hs4, Upd.at_ (by assumption) hs5⟩))
    (first | (go_at_call 6; refine (lawTo b p _).mono ?_; rintro e w1 ⟨rfl, h1⟩) | (go_at_call 5; refine (progTime A n c l t held b p bound HN.out KALL.out KT.out k1 k2 KR.out k3 (by omega) _ ?_).mono ?_; (exact H.upd (by repeat (first | with_reducible assumption | exact Upd.refl _ _ | (refine Upd.alloc ?_ _) | (refine Upd.drewN ?_ _) | (refine Upd.drew ?_) | (refine Upd.trans ?_ (by with_reducible assumption))))); rintro e w2 ⟨res, nn, ee, hres, hne, rfl, h2⟩))
  obtain ⟨hz, z1, z2, z3, z4, z5⟩ := ‹Upd No _ _ ∧ _›
  clear c1 c2 c3 c4 c5
  have hwz := hw0.trans hz
  clear hz hw0
  have HRES := Lib.hid hres
  clear hres
  rcases hne.out with ⟨rfl, rfl, rfl⟩ | ⟨r0, rfl, rfl⟩
  all_goals
    go_wp2_with (first
      | (go_at_call 4; refine (lawAwake _).mono ?_; rintro e wa ⟨rfl, ha⟩)
      | (go_at_call 7; refine (refAll A n c l HN.out (by omega) _ (H.upd (by repeat (first | with_reducible assumption | exact Upd.refl _ _ | (refine Upd.alloc ?_ _) | (refine Upd.drewN ?_ _) | (refine Upd.drew ?_) | (refine Upd.trans ?_ (by with_reducible assumption)))))).mono ?_; simp only [KALL.out]; rintro e w3 ⟨rfl, h3⟩; have y1 := h3.at_ z1; have y2 := h3.at_ z2; have y3 := h3.at_ z3; have y4 := h3.at_ z4; have y5 := h3.at_ z5; clear z1 z2 z3 z4 z5)
      | (go_at_call 8; refine (refRight t _).mono ?_; simp only [KT.out]; rintro e w4 ⟨rfl, h4⟩; have x1 := h4.at_ y1; have x2 := h4.at_ y2; have x3 := h4.at_ y3; have x4 := h4.at_ y4; have x5 := h4.at_ y5; clear y1 y2 y3 y4 y5)
      | (go_at_call 9; refine (ref04Right b p _).mono ?_; simp only [KR.out]; rintro e w5 ⟨rfl, h5⟩; have v1 := h5.at_ x1; have v2 := h5.at_ x2; have v3 := h5.at_ x3; have v4 := h5.at_ x4; have v5 := h5.at_ x5; clear x1 x2 x3 x4 x5)
      | (go_at_call 10; refine (refTime A n c l t held b p bound HN.out KALL.out KT.out k1 k2 KR.out k3 (by omega) _ (H.upd (by repeat (first | with_reducible assumption | exact Upd.refl _ _ | (refine Upd.alloc ?_ _) | (refine Upd.drewN ?_ _) | (refine Upd.drew ?_) | (refine Upd.trans ?_ (by with_reducible assumption)))))).mono ?_; rintro e w6 ⟨res', rfl, hres', h6⟩; obtain rfl := Least.one HRES.out hres'))
    go_ret
    exact ⟨rfl, (by repeat (first | with_reducible assumption | exact Upd.refl _ _ | (refine Upd.alloc ?_ _) | (refine Upd.drewN ?_ _) | (refine Upd.drew ?_) | (refine Upd.trans ?_ (by with_reducible assumption))))⟩

end Go.Proofs.Ytpgoadcaaepkkaa
