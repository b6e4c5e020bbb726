/- The walk of BoundEarliest: it answers true, whatever it is given. -/
import Derived.Test.YtabboklejodbaaaWide7
import Derived.Test.YtabboklejodbaaaBeL
import Derived.Test.YtabboklejodbaaaBdA
namespace Go.Proofs.Ytabboklejodbaaa
open Go.RowKit Go.Proofs.YtabboklejodbaaaW.PrintWords

theorem progBad {w : World} {A : Option Addr} {c : Nat} {l : List Tk} (h : Rd w A (l.flatMap tcells)) (hm : l.length ≤ 9223372036854775807) (hc : l.length ≤ c) (u : Int) (hu0 : 0 ≤ u) (hu : u ≤ 2000) :
    ∃ x b, (wholeB l = true → b = false) ∧ Calls Try.prog 15 #[.slice A l.length c, .int .i64 u] w fun e w' => e = .returned (.tuple #[.int .i64 x, .bool b]) ∧ Upd No w w' := by
  obtain ⟨x, b, hx, hb⟩ := bad_f l u hu0 hu
  exact ⟨x, b, hb, (Bd.busy_Bad.calls 2000000 A c l u x b w (kdOf h hm) hc hx).mono fun e w' ⟨he, hbl⟩ => ⟨he, belowNo hbl⟩⟩

theorem wfu16 {u : Int} (h : (Lit.int .u16 u).wf = true) : 0 ≤ u ∧ u ≤ 65535 := by
  have e1 : IntKind.u16.min = 0 := by decide
  have e2 : IntKind.u16.max = 65535 := by decide
  simp [Lit.wf, e1, e2] at h
  omega

set_option maxHeartbeats 4000000 in
theorem lawBoundEarliest (A : Option Addr) (len cap : Nat) (l : List Tk) (hn : len = l.length) (hc : len ≤ cap) (hm : cap ≤ 9223372036854775807) (u : Int) (hu0 : 0 ≤ u) (hu : u ≤ 65535) (w : World) (H : Rd w A (l.flatMap tcells)) :
    Calls Try.prog 4 #[.slice A len cap, .int .u16 u] w fun e w' => e = .returned (.bool true) ∧ Upd No w w' := by
  subst hn
  by_cases h40 : 8 < l.length
  · go_enter Try.func4, Try.ntmps4
    go_wp2_with (go_at_call 6; refine (lawAwake _).mono ?_; rintro e w9 ⟨rfl, hu9⟩)
    go_ret
    exact ⟨rfl, hu9⟩
  · have I1 : ∀ w', Rd w' A (l.flatMap tcells) → ∃ x b, (wholeB l = true → b = false) ∧ Calls Try.prog 15 #[.slice A l.length cap, .int .i64 (u % 1000)] w' fun e w'' => e = .returned (.tuple #[.int .i64 x, .bool b]) ∧ Upd No w' w'' := fun w' h => progBad h (by omega) hc (u % 1000) (by omega) (by omega)
    obtain ⟨x, b, hb, hB⟩ := I1 w H
    have HB := Lib.hid hB
    have W1 := Lib.hid (fun (w' : World) (h : Rd w' A (l.flatMap tcells)) => progWhole h (by omega) hc hm)
    have P1 := Lib.hid (fun (w' : World) (h : Rd w' A (l.flatMap tcells)) => progHyper h (by omega) hc hm)
    have hw : hyperB l = true → wholeB l = true := hyper_whole
    generalize wholeB l = bw at W1 hb hw
    generalize hyperB l = bh at P1 hw
    have hcv : IntKind.i64.wrap u = u := IntWalk.i64_in _ (by omega)
    clear I1 hB
    cases bw
    · have hbh : bh = false := by cases bh; rfl; exact absurd (hw rfl) (by simp)
      subst hbh
      clear hb hw
      go_enter Try.func4, Try.ntmps4
      go_wp2_with (first
        | (go_at_call 15; refine HB.out.mono ?_; rintro e w1 ⟨rfl, hu1⟩)
        | (go_at_call 9; refine (W1.out _ (H.upd hu1)).mono ?_; rintro e w3 ⟨rfl, hu3⟩; have v3 := hu1.trans hu3)
        | (go_at_call 11; refine (P1.out _ (H.upd v3)).mono ?_; rintro e w5 ⟨rfl, hu5⟩; have v5 := v3.trans hu5)
        | (go_at_call 6; refine (lawAwake _).mono ?_; rintro e w9 ⟨rfl, hu9⟩))
      go_ret
      exact ⟨rfl, v5.trans hu9⟩
    · have hbf : b = false := hb rfl
      subst hbf
      clear hb hw
      cases bh
      all_goals
        go_enter Try.func4, Try.ntmps4
        go_wp2_with (first
          | (go_at_call 15; refine HB.out.mono ?_; rintro e w1 ⟨rfl, hu1⟩; have tok : True := trivial)
          | (go_at_call 9; have _t := tok; refine (W1.out _ (H.upd hu1)).mono ?_; rintro e w3 ⟨rfl, hu3⟩; have v3 := hu1.trans hu3; clear tok)
          | (go_at_call 11; refine (P1.out _ (H.upd v3)).mono ?_; rintro e w5 ⟨rfl, hu5⟩; have v5 := v3.trans hu5)
          | (go_at_call 9; refine (W1.out _ (H.upd v5)).mono ?_; rintro e w6 ⟨rfl, hu6⟩; have v6 := v5.trans hu6)
          | (go_at_call 6; refine (lawAwake _).mono ?_; rintro e w9 ⟨rfl, hu9⟩))
        go_ret
        first | exact ⟨rfl, v6.trans hu9⟩ | exact ⟨rfl, v5.trans hu9⟩

end Go.Proofs.Ytabboklejodbaaa
