/- What tasks.Right, tasks.All, tasks.stretch, tasks.Request, ref03.Right, ref03.All, supply's byUp, Right and Wait answer. -/
import Derived.Test.YtpgoadcaaepkkaaLib
namespace Go.Proofs.Ytpgoadcaaepkkaa
open Go.RowKit

structure Tk where
  c : Int
  p : Int
  d : Int
def Tk.cells (t : Tk) : List Value := [.int .i64 t.c, .int .i64 t.p, .int .i64 t.d]
def Tk.ok (t : Tk) : Bool := decide (1 ≤ t.c ∧ t.c ≤ t.d ∧ t.d ≤ t.p ∧ t.p ≤ 1048576)
theorem Tk.ok_iff (t : Tk) : t.ok = true ↔ (1 ≤ t.c ∧ t.c ≤ t.d ∧ t.d ≤ t.p ∧ t.p ≤ 1048576) := by simp [Tk.ok]
theorem Tk.ok_not {t : Tk} (h : ¬ (1 ≤ t.c ∧ t.c ≤ t.d ∧ t.d ≤ t.p ∧ t.p ≤ 1048576)) : t.ok = false := by
  cases hk : t.ok with
  | false => rfl
  | true => exact (h ((Tk.ok_iff t).1 hk)).elim
def allB (l : List Tk) : Bool := decide (l.length ≤ 8) && l.all Tk.ok

/-- The cells of element k, in the walk's own spelling. -/
theorem Rd.tk {w : World} {A : Option Addr} {l : List Tk} (h : Rd w A (l.flatMap Tk.cells)) {k : Nat} {t : Tk} (ht : l[k]? = some t) :
    ∃ g o, A = some ⟨g, o, none⟩ ∧ w.cell? ⟨g, o + k * 3, none⟩ = some (.int .i64 t.c) ∧ w.cell? ⟨g, o + k * 3 + 1, none⟩ = some (.int .i64 t.p) ∧ w.cell? ⟨g, o + k * 3 + 2, none⟩ = some (.int .i64 t.d) := by
  have hne : l.flatMap Tk.cells ≠ [] := by
    intro e
    have h1 := flat_get Tk.cells 3 (fun _ => rfl) l k t ht 0 (by omega)
    rw [e] at h1; simp [Tk.cells] at h1
  obtain ⟨g, o, e, hc⟩ := h hne
  refine ⟨g, o, e, ?_, ?_, ?_⟩
  · exact hc (k * 3) _ (by have := flat_get Tk.cells 3 (fun _ => rfl) l k t ht 0 (by omega); simpa [Tk.cells] using this)
  · exact hc (k * 3 + 1) _ (by have := flat_get Tk.cells 3 (fun _ => rfl) l k t ht 1 (by omega); simpa [Tk.cells] using this)
  · exact hc (k * 3 + 2) _ (by have := flat_get Tk.cells 3 (fun _ => rfl) l k t ht 2 (by omega); simpa [Tk.cells] using this)

theorem tasksRight (t : Tk) (w : World) : Calls Try.prog 12 #[.agg #[.int .i64 t.c, .int .i64 t.p, .int .i64 t.d]] w fun e w' => e = .returned (.bool t.ok) ∧ Upd No w w' := by
  by_cases h1 : 1 ≤ t.c <;> by_cases h2 : t.c ≤ t.d <;> by_cases h3 : t.d ≤ t.p
  all_goals
    go_enter Try.func12, Try.ntmps12
    go_wp2
    go_ret
    refine ⟨ret_bool ?_, (Upd.refl _ _).alloc _⟩
    first | (rw [Tk.ok_not (by omega)]; done) | (simp only [Tk.ok, h1, h2, h3, true_and]) | skip

theorem refRight (t : Tk) (w : World) : Calls Try.prog 8 #[.agg #[.int .i64 t.c, .int .i64 t.p, .int .i64 t.d]] w fun e w' => e = .returned (.bool t.ok) ∧ Upd No w w' := by
  by_cases h1 : 1 ≤ t.c <;> by_cases h2 : t.c ≤ t.d <;> by_cases h3 : t.d ≤ t.p
  all_goals
    go_enter Try.func8, Try.ntmps8
    go_wp2
    go_ret
    refine ⟨ret_bool ?_, (Upd.refl _ _).alloc _⟩
    first | (rw [Tk.ok_not (by omega)]; done) | (simp only [Tk.ok, h1, h2, h3, true_and]) | skip

end Go.Proofs.Ytpgoadcaaepkkaa
