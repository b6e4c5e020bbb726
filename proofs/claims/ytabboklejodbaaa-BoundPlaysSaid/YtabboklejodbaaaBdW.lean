/- The walk of BoundPlays: it answers true, whatever it is given. -/
import Derived.Test.YtabboklejodbaaaWide7
import Derived.Test.YtabboklejodbaaaBdL2
namespace Go.Proofs.Ytabboklejodbaaa
open Go.RowKit Go.Proofs.YtabboklejodbaaaW.PrintWords

theorem refImpl {w : World} {A : Option Addr} {c : Nat} {l : List Tk} (h : Rd w A (l.flatMap tcells)) (hl : l.length ≤ 40) (hc : l.length ≤ c) :
    Calls Try.prog 8 #[.slice A l.length c] w fun e w' => e = .returned (.bool (implB l)) ∧ Upd No w w' :=
  (Bd.remontoireref33_Implicit.calls 100 A c l _ w (kdOf h (by omega)) hc (rimpl_f l hl 100 (Nat.le_refl _))).mono fun e w' ⟨he, hb⟩ => ⟨he, belowNo hb⟩
theorem refWhole {w : World} {A : Option Addr} {c : Nat} {l : List Tk} (h : Rd w A (l.flatMap tcells)) (hl : l.length ≤ 40) (hc : l.length ≤ c) :
    Calls Try.prog 10 #[.slice A l.length c] w fun e w' => e = .returned (.bool (wholeB l)) ∧ Upd No w w' :=
  (Bd.remontoireref33_Whole.calls 20000 A c l _ w (kdOf h (by omega)) hc (rwhole_f l hl 20000 (Nat.le_refl _))).mono fun e w' ⟨he, hb⟩ => ⟨he, belowNo hb⟩
theorem refHyper {w : World} {A : Option Addr} {c : Nat} {l : List Tk} (h : Rd w A (l.flatMap tcells)) (hl : l.length ≤ 40) (hc : l.length ≤ c) :
    Calls Try.prog 12 #[.slice A l.length c] w fun e w' => e = .returned (.bool (hyperB l)) ∧ Upd No w w' :=
  (Bd.remontoireref33_Hyperbolic.calls 3000 A c l _ w (kdOf h (by omega)) hc (rhyp_f l hl 3000 (Nat.le_refl _))).mono fun e w' ⟨he, hb⟩ => ⟨he, belowNo hb⟩
theorem refHarm {w : World} {A : Option Addr} {c : Nat} {l : List Tk} (h : Rd w A (l.flatMap tcells)) (hl : l.length ≤ 40) (hc : l.length ≤ c) :
    Calls Try.prog 14 #[.slice A l.length c] w fun e w' => e = .returned (.bool (harmB l)) ∧ Upd No w w' :=
  (Bd.remontoireref33_Harmonic.calls 200000 A c l _ w (kdOf h (by omega)) hc (rharm_f l hl)).mono fun e w' ⟨he, hb⟩ => ⟨he, belowNo hb⟩

def exT : List Tk := [⟨1, 2, 2⟩, ⟨1, 3, 3⟩]
theorem exHyper : hyperB exT = true := by decide
theorem exWhole : wholeB exT = true := by decide
theorem exHarm : harmB exT = false := by decide

theorem lawAwake (w : World) : Calls Try.prog 6 #[] w fun e w' => e = .returned (.bool true) ∧ Upd No w w' := by
  have hr : Rd (w.alloc (.cells #[.int .i64 1, .int .i64 2, .int .i64 2, .int .i64 1, .int .i64 3, .int .i64 3] 31)) (some ⟨w.heap.size, 0, none⟩) (exT.flatMap tcells) := fun _ =>
    ⟨w.heap.size, 0, rfl, fun j u hj => by
      have hrow := Row.newAt w 31 [.int .i64 1, .int .i64 2, .int .i64 2, .int .i64 1, .int .i64 3, .int .i64 3] w.heap.size rfl
      rw [Nat.zero_add]
      exact hrow.cell hj⟩
  have hub : Upd No w (w.alloc (.cells #[.int .i64 1, .int .i64 2, .int .i64 2, .int .i64 1, .int .i64 3, .int .i64 3] 31)) := (by repeat (first | with_reducible assumption | exact Upd.refl _ _ | (refine Upd.setNew ?_ (by first | (simp; done) | (simp; omega)) _) | (refine Upd.alloc ?_ _) | (refine Upd.drewN ?_ _) | (refine Upd.drew ?_) | (refine Upd.trans ?_ (by with_reducible assumption))))
  have HR := Lib.hid hr
  have H1 := Lib.hid (fun (w' : World) (h : Rd w' (some ⟨w.heap.size, 0, none⟩) (exT.flatMap tcells)) => progHyper (c := 2) h (by decide) (by decide) (by omega))
  have H2 := Lib.hid (fun (w' : World) (h : Rd w' (some ⟨w.heap.size, 0, none⟩) (exT.flatMap tcells)) => progWhole (c := 2) h (by decide) (by decide) (by omega))
  have H3 := Lib.hid (fun (w' : World) (h : Rd w' (some ⟨w.heap.size, 0, none⟩) (exT.flatMap tcells)) => progHarm (c := 2) h (by decide) (by decide) (by omega))
  rw [exHyper, show exT.length = 2 from rfl] at H1
  rw [exWhole, show exT.length = 2 from rfl] at H2
  rw [exHarm, show exT.length = 2 from rfl] at H3
  clear hr
  go_enter Try.func6, Try.ntmps6
  go_wp2_with (first
    | (go_at_call 11; refine (H1.out _ HR.out).mono ?_; rintro e w1 ⟨rfl, hu1⟩)
    | (go_at_call 9; refine (H2.out _ (HR.out.upd hu1)).mono ?_; rintro e w2 ⟨rfl, hu2⟩)
    | (go_at_call 13; refine (H3.out _ ((HR.out.upd hu1).upd hu2)).mono ?_; rintro e w3 ⟨rfl, hu3⟩))
  go_ret
  exact ⟨rfl, ((hub.trans hu1).trans hu2).trans hu3⟩

set_option maxHeartbeats 4000000 in
theorem lawBoundPlays (A : Option Addr) (len cap : Nat) (l : List Tk) (hn : len = l.length) (hc : len ≤ cap) (hm : cap ≤ 9223372036854775807) (w : World) (H : Rd w A (l.flatMap tcells)) :
    Calls Try.prog 3 #[.slice A len cap] w fun e w' => e = .returned (.bool true) ∧ Upd No w w' := by
  subst hn
  by_cases h40 : 40 < l.length
  · go_enter Try.func3, Try.ntmps3
    go_wp2_with (go_at_call 6; refine (lawAwake _).mono ?_; rintro e w9 ⟨rfl, hu9⟩)
    go_ret
    exact ⟨rfl, hu9⟩
  · have hl : l.length ≤ 40 := by omega
    have I1 := Lib.hid (fun (w' : World) (h : Rd w' A (l.flatMap tcells)) => progImpl h (by omega) hc)
    have I2 := Lib.hid (fun (w' : World) (h : Rd w' A (l.flatMap tcells)) => refImpl h hl hc)
    have W1 := Lib.hid (fun (w' : World) (h : Rd w' A (l.flatMap tcells)) => progWhole h (by omega) hc hm)
    have W2 := Lib.hid (fun (w' : World) (h : Rd w' A (l.flatMap tcells)) => refWhole h hl hc)
    have P1 := Lib.hid (fun (w' : World) (h : Rd w' A (l.flatMap tcells)) => progHyper h (by omega) hc hm)
    have P2 := Lib.hid (fun (w' : World) (h : Rd w' A (l.flatMap tcells)) => refHyper h hl hc)
    have A1 := Lib.hid (fun (w' : World) (h : Rd w' A (l.flatMap tcells)) => progHarm h (by omega) hc hm)
    have A2 := Lib.hid (fun (w' : World) (h : Rd w' A (l.flatMap tcells)) => refHarm h hl hc)
    generalize implB l = bi at I1 I2
    generalize wholeB l = bw at W1 W2
    generalize hyperB l = bh at P1 P2
    generalize harmB l = ba at A1 A2
    go_enter Try.func3, Try.ntmps3
    go_wp2_with (first
      | (go_at_call 7; refine (I1.out _ H).mono ?_; rintro e w1 ⟨rfl, hu1⟩)
      | (go_at_call 8; refine (I2.out _ (H.upd hu1)).mono ?_; rintro e w2 ⟨rfl, hu2⟩; have v2 := hu1.trans hu2)
      | (go_at_call 9; refine (W1.out _ (H.upd v2)).mono ?_; rintro e w3 ⟨rfl, hu3⟩; have v3 := v2.trans hu3)
      | (go_at_call 10; refine (W2.out _ (H.upd v3)).mono ?_; rintro e w4 ⟨rfl, hu4⟩; have v4 := v3.trans hu4)
      | (go_at_call 11; refine (P1.out _ (H.upd v4)).mono ?_; rintro e w5 ⟨rfl, hu5⟩; have v5 := v4.trans hu5)
      | (go_at_call 12; refine (P2.out _ (H.upd v5)).mono ?_; rintro e w6 ⟨rfl, hu6⟩; have v6 := v5.trans hu6)
      | (go_at_call 13; refine (A1.out _ (H.upd v6)).mono ?_; rintro e w7 ⟨rfl, hu7⟩; have v7 := v6.trans hu7)
      | (go_at_call 14; refine (A2.out _ (H.upd v7)).mono ?_; rintro e w8 ⟨rfl, hu8⟩; have v8 := v7.trans hu8)
      | (go_at_call 6; refine (lawAwake _).mono ?_; rintro e w9 ⟨rfl, hu9⟩))
    go_ret
    exact ⟨rfl, v8.trans hu9⟩

end Go.Proofs.Ytabboklejodbaaa
