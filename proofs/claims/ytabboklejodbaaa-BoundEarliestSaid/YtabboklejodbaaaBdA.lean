/- The chapter's example answers true. -/
import Derived.Test.YtabboklejodbaaaWide7
namespace Go.Proofs.Ytabboklejodbaaa
open Go.RowKit

def exT : List Tk := [⟨1, 2, 2⟩, ⟨1, 3, 3⟩]
theorem exHyper : hyperB exT = true := by decide
theorem exWhole : wholeB exT = true := by decide
theorem exHarm : harmB exT = false := by decide

theorem lawAwake (w : World) : Calls Try.prog 6 #[] w fun e w' => e = .returned (.bool true) ∧ Upd No w w' := by
  have hr : Rd (w.alloc (.cells #[.int .i64 1, .int .i64 2, .int .i64 2, .int .i64 1, .int .i64 3, .int .i64 3] 31)) (some ⟨w.heap.size, 0, none⟩) (exT.flatMap tcells) := fun _ =>
    ⟨w.heap.size, 0, rfl, fun j u hj => by
      have hrow := Row.newAt w 31 [.int .i64 1, .int .i64 2, .int .i64 2, .int .i64 1, .int .i64 3, .int .i64 3] w.heap.size rfl
      rw [Nat.zero_add]
      exact hrow.cell hj⟩
  have hub : Upd No w (w.alloc (.cells #[.int .i64 1, .int .i64 2, .int .i64 2, .int .i64 1, .int .i64 3, .int .i64 3] 31)) := (by repeat (first | with_reducible assumption | exact Upd.refl _ _ | (refine Upd.setNew ?_ (by first | (simp; done) | (simp; omega)) _) | (refine Upd.alloc ?_ _) | (refine Upd.drewN ?_ _) | (refine Upd.drew ?_) | (refine Upd.trans ?_ (by with_reducible assumption))))
  have HR := Lib.hid hr
  have H1 := Lib.hid (fun (w' : World) (h : Rd w' (some ⟨w.heap.size, 0, none⟩) (exT.flatMap tcells)) => progHyper (c := 2) h (by decide) (by decide) (by omega))
  have H2 := Lib.hid (fun (w' : World) (h : Rd w' (some ⟨w.heap.size, 0, none⟩) (exT.flatMap tcells)) => progWhole (c := 2) h (by decide) (by decide) (by omega))
  have H3 := Lib.hid (fun (w' : World) (h : Rd w' (some ⟨w.heap.size, 0, none⟩) (exT.flatMap tcells)) => progHarm (c := 2) h (by decide) (by decide) (by omega))
  rw [exHyper, show exT.length = 2 from rfl] at H1
  rw [exWhole, show exT.length = 2 from rfl] at H2
  rw [exHarm, show exT.length = 2 from rfl] at H3
  clear hr
  go_enter Try.func6, Try.ntmps6
  go_wp2_with (first
    | (go_at_call 11; refine (H1.out _ HR.out).mono ?_; rintro e w1 ⟨rfl, hu1⟩)
    | (go_at_call 9; refine (H2.out _ (HR.out.upd hu1)).mono ?_; rintro e w2 ⟨rfl, hu2⟩)
    | (go_at_call 13; refine (H3.out _ ((HR.out.upd hu1).upd hu2)).mono ?_; rintro e w3 ⟨rfl, hu3⟩))
  go_ret
  exact ⟨rfl, ((hub.trans hu1).trans hu2).trans hu3⟩

end Go.Proofs.Ytabboklejodbaaa
