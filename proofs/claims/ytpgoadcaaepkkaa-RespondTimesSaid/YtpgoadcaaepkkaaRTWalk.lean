/- The walk of RespondTimes, its cases joined. -/
import Derived.Test.YtpgoadcaaepkkaaRTLaw
namespace Go.Proofs.Ytpgoadcaaepkkaa
open Go.RowKit

theorem lawWalk (A : Option Addr) (n c : Nat) (l : List Tk) (t : Tk) (held b p bound : Int) (hn : n = l.length) (hm : n ≤ 9223372036854775807) (w : World) (H : Rd w A (l.flatMap Tk.cells)) :
    Calls Try.prog 3 #[.slice A n c, .agg #[.int .i64 t.c, .int .i64 t.p, .int .i64 t.d], .int .i64 held, .agg #[.int .i64 b, .int .i64 p], .int .i64 bound] w
      fun e w' => e = .returned (.bool true) ∧ Upd No w w' := by
  by_cases h12 : 12 < n
  · clear hn
    go_enter Try.func3, Try.ntmps3
    go_wp2_with (go_at_call 4; refine (lawAwake _).mono ?_; rintro e w1 ⟨rfl, hu⟩)
    go_ret
    exact ⟨rfl, (by repeat (first | with_reducible assumption | exact Upd.refl _ _ | (refine Upd.alloc ?_ _) | (refine Upd.drewN ?_ _) | (refine Upd.drew ?_) | (refine Upd.trans ?_ (by with_reducible assumption))))⟩
  by_cases hmid : 400 < bound ∧ bound ≤ 1048576
  · obtain ⟨m1, m2⟩ := hmid
    clear hn
    go_enter Try.func3, Try.ntmps3
    go_wp2_with (go_at_call 4; refine (lawAwake _).mono ?_; rintro e w1 ⟨rfl, hu⟩)
    go_ret
    exact ⟨rfl, (by repeat (first | with_reducible assumption | exact Upd.refl _ _ | (refine Upd.alloc ?_ _) | (refine Upd.drewN ?_ _) | (refine Upd.drew ?_) | (refine Upd.trans ?_ (by with_reducible assumption))))⟩
  have hb : bound ≤ 400 ∨ 1048576 < bound := by omega
  cases hA : allB l
  · rcases hb with q | q
    · exact lawBad00 A n c l t held b p bound hn (by omega) w H (by simp [hA]) hA q
    · exact lawBad01 A n c l t held b p bound hn (by omega) w H (by simp [hA]) hA q
  cases hT : t.ok
  · rcases hb with q | q
    · exact lawBad10 A n c l t held b p bound hn (by omega) w H (by simp [hA, hT]) hA hT q
    · exact lawBad11 A n c l t held b p bound hn (by omega) w H (by simp [hA, hT]) hA hT q
  by_cases h1 : held < 0
  · rcases hb with q | q
    · exact lawBad20 A n c l t held b p bound hn (by omega) w H (by simp; intros; omega) hA hT h1 q
    · exact lawBad21 A n c l t held b p bound hn (by omega) w H (by simp; intros; omega) hA hT h1 q
  by_cases h2 : 1048576 < held
  · rcases hb with q | q
    · exact lawBad30 A n c l t held b p bound hn (by omega) w H (by simp; intros; omega) hA hT (by omega) h2 q
    · exact lawBad31 A n c l t held b p bound hn (by omega) w H (by simp; intros; omega) hA hT (by omega) h2 q
  cases hR : resB b p
  · rcases hb with q | q
    · exact lawBad40 A n c l t held b p bound hn (by omega) w H (by simp [hR]) hA hT (by omega) (by omega) hR q
    · exact lawBad41 A n c l t held b p bound hn (by omega) w H (by simp [hR]) hA hT (by omega) (by omega) hR q
  by_cases h3 : bound < 0
  · exact lawBad50 A n c l t held b p bound hn (by omega) w H (by simp; intros; omega) hA hT (by omega) (by omega) hR h3 (by omega)
  rcases hb with q | q
  · exact lawGood A n c l t held b p bound hn (by omega) w H hA hT (by omega) (by omega) hR (by omega) q
  · exact lawBad61 A n c l t held b p bound hn (by omega) w H (by simp; intros; omega) hA hT (by omega) (by omega) hR q


end Go.Proofs.Ytpgoadcaaepkkaa
