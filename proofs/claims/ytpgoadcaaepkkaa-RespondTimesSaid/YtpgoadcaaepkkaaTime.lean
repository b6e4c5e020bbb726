/- ref06.Time and respond.Time answer the least fixed point. -/
import Derived.Test.YtpgoadcaaepkkaaWait
import Derived.Deep.RegionHeld3
namespace Go.Proofs.Ytpgoadcaaepkkaa
open Go.RowKit

theorem reqS_mono {l : List Tk} (h : ∀ t ∈ l, t.ok = true) {x y : Int} (h0 : 0 ≤ x) (hxy : x ≤ y) : reqS l x ≤ reqS l y := by
  induction l with
  | nil => simp [reqS]
  | cons t l ih =>
    have h1 := ih (fun t ht => h t (List.mem_cons_of_mem _ ht))
    obtain ⟨a, b, c, d⟩ := (Tk.ok_iff t).1 (h t List.mem_cons_self)
    have h2 : (x + t.p - 1) / t.p ≤ (y + t.p - 1) / t.p := Int.ediv_le_ediv (by omega) (by omega)
    have h3 : t.c * ((x + t.p - 1) / t.p) ≤ t.c * ((y + t.p - 1) / t.p) := Int.mul_le_mul_of_nonneg_left h2 (by omega)
    simp only [reqS]; omega
theorem gW_mono {b p x y : Int} (hr : resB b p = true) (h0 : 0 ≤ x) (h : x ≤ y) : gW b p x ≤ gW b p y := by
  obtain ⟨q1, q2, q3⟩ := (resB_iff b p).1 hr
  have := cdiv_mono q1 h0 h
  exact Int.mul_le_mul_of_nonneg_right (by omega) (by omega)

/-- A fixed point is a whole number of periods. -/
theorem fix_step {b p : Int} {F : Int → Int} (hr : resB b p = true) {k n : Int} (hn : n = p * k) (hall : ∀ m, 0 ≤ m → m < n → gW b p (F m) ≠ m) (hne : gW b p (F n) ≠ n) :
    ∀ m, 0 ≤ m → m < n + p → gW b p (F m) ≠ m := by
  obtain ⟨q1, q2, q3⟩ := (resB_iff b p).1 hr
  intro m m0 m1 e
  by_cases hlt : m < n
  · exact hall m m0 hlt e
  · by_cases heq : m = n
    · subst heq; exact hne e
    · have e1 : p * k < p * (cdiv (F m) b + 1) := by rw [← hn, Int.mul_comm]; unfold gW at e; rw [e]; omega
      have e2 : p * (cdiv (F m) b + 1) < p * (k + 1) := by rw [Int.mul_add p k, ← hn, Int.mul_comm]; unfold gW at e; rw [e]; omega
      have := Int.lt_of_mul_lt_mul_left e1 (by omega)
      have := Int.lt_of_mul_lt_mul_left e2 (by omega)
      omega

def GotLeast (l : List Tk) (c held b p bound : Int) (w : World) (e : Ending) (w' : World) : Prop := ∃ res : Int, e = .returned (.int .i64 res) ∧ Least l c held b p bound res ∧ Upd No w w'

theorem refTime (A : Option Addr) (n c : Nat) (l : List Tk) (t : Tk) (held b p bound : Int) (hn : n = l.length) (hall : allB l = true) (ht : t.ok = true) (h0 : 0 ≤ held) (h1 : held ≤ 1048576) (hr : resB b p = true) (hb0 : 0 ≤ bound) (hb1 : bound ≤ 1048576)
    (w : World) (H : Rd w A (l.flatMap Tk.cells)) :
    Calls Try.prog 10 #[.slice A n c, .agg #[.int .i64 t.c, .int .i64 t.p, .int .i64 t.d], .int .i64 held, .agg #[.int .i64 b, .int .i64 p], .int .i64 bound] w (GotLeast l t.c held b p bound w) := by
  obtain ⟨q1, q2, q3⟩ := (resB_iff b p).1 hr
  obtain ⟨t1, t2, t3, t4⟩ := (Tk.ok_iff t).1 ht
  have HN := Lib.hid hn; have HALL := Lib.hid hall; have HR := Lib.hid hr
  clear hr hn hall ht
  go_enter Try.func10, Try.ntmps10
  go_wp2
  go_loopw [11] (fun i wr => ∃ k x : Int, 0 ≤ k ∧ i = .int .i64 x ∧ Hid (x = p * k) ∧ 0 ≤ x ∧ x ≤ 2097152 ∧ Hid (∀ m, 0 ≤ m → m < x → gW b p (needT l t.c held m) ≠ m) ∧
    Upd No ((w.alloc (.cells #[.int .i64 t.c, .int .i64 t.p, .int .i64 t.d] 24)).alloc (.cells #[.int .i64 b, .int .i64 p] 26)) wr) (fun i _ => 4000000 - (intOf i).toNat)
  case atStart => exact ⟨0, 0, by omega, rfl, Lib.hid (by simp), by omega, by omega, Lib.hid (fun m a b => by omega), Upd.refl _ _⟩
  case round =>
    obtain ⟨k, x, k0, rfl, hx, x0, x1, hmin, hu⟩ := hrel
    obtain ⟨hbt, hbr⟩ := hu.box2
    have hw : Upd No w wr := (((Upd.refl _ _).alloc _).alloc _).trans hu
    by_cases hxb : x ≤ bound
    · obtain ⟨r0, r1⟩ := reqS_take_bound HALL.out l.length x0 (by omega)
      rw [List.take_of_length_le (Nat.le_refl _)] at r0 r1
      go_wp2_with fail
      have c1 := hbr 0
      have c2 := hbr 1
      have c3 := hbt 0
      simp only [List.getElem?_toArray, List.getElem?_cons_zero, List.getElem?_cons_succ] at c1 c2 c3
      clear hbt hbr
      have v1 : IntKind.i64.wrap (t.c + held) = t.c + held := IntWalk.i64_in _ (by omega)
      have v2 : IntKind.i64.wrap (t.c + held + reqS l x) = t.c + held + reqS l x := IntWalk.i64_in _ (by omega)
      go_region_held3 (fun w' => Upd No wr w' ∧ w'.cell? ⟨w.heap.size + 1, 0, none⟩ = some (.int .i64 b) ∧ w'.cell? ⟨w.heap.size + 1, 0 + 1, none⟩ = some (.int .i64 p) ∧ w'.cell? ⟨w.heap.size, 0, none⟩ = some (.int .i64 t.c))
        (first | exact ⟨(Upd.refl _ _).drew, c1, c2, c3⟩ | (obtain ⟨hs0, hs1, hs2, hs3⟩ := ‹Upd No _ _ ∧ _›; exact ⟨hs0.trans (by assumption), Upd.at_ (by assumption) hs1, Upd.at_ (by assumption) hs2, Upd.at_ (by assumption) hs3⟩))
        (first | (go_at_call 17; refine (refRequest A n c l HN.out HALL.out x x0 (by omega) _ ?_).mono ?_; (exact H.upd (by repeat (first | with_reducible assumption | exact Upd.refl _ _ | (refine Upd.alloc ?_ _) | (refine Upd.drewN ?_ _) | (refine Upd.drew ?_) | (refine Upd.trans ?_ (by with_reducible assumption))))); rintro e w1 ⟨rfl, hu1⟩) | (go_at_call 16; refine (refWait b p _ bound _ HR.out ?_ ?_ hb0 hb1).mono ?_; omega; omega; rintro e w1 ⟨rfl, hu1⟩))
      obtain ⟨hz, z1, z2, z3⟩ := ‹Upd No _ _ ∧ _›
      clear c1 c2 c3 v1 v2
      have hcase : waitR b p (t.c + held + reqS l x) bound = x ↔ gW b p (needT l t.c held x) = x := by
        unfold waitR needT
        by_cases hg : gW b p (t.c + held + reqS l x) ≤ bound
        · rw [if_pos hg]
        · rw [if_neg hg]; constructor <;> intro q <;> omega
      have HC := Lib.hid hcase
      clear hcase
      by_cases hfix : gW b p (needT l t.c held x) = x
      · have hb : (waitR b p (t.c + held + reqS l x) bound == x) = true := by simpa using HC.out.2 hfix
        have HF := Lib.hid hfix
        clear hfix
        go_wp2
        go_ret
        exact ⟨x, rfl, .inl ⟨x0, hxb, HF.out, hmin.out⟩, hw.trans hz⟩
      · have hb : (waitR b p (t.c + held + reqS l x) bound == x) = false := by simpa using fun q => hfix (HC.out.1 q)
        have HF := Lib.hid hfix
        clear hfix
        go_wp2
        go_roundw
        case rel => exact ⟨k + 1, _, by omega, rfl, Lib.hid (by rw [Int.mul_add, ← hx.out]; omega), by omega, by omega, Lib.hid (fix_step HR.out hx.out hmin.out HF.out), hu.trans hz⟩
        case measure => simp [intOf]; omega
    · go_wp2
      go_ret
      exact ⟨-1, rfl, .inr ⟨rfl, fun m m0 m1 => hmin.out m m0 (by omega)⟩, (by repeat (first | with_reducible assumption | exact Upd.refl _ _ | (refine Upd.alloc ?_ _) | (refine Upd.drewN ?_ _) | (refine Upd.drew ?_) | (refine Upd.trans ?_ (by with_reducible assumption))))⟩

end Go.Proofs.Ytpgoadcaaepkkaa
