/- tasks.Request and ref03.Request answer 'reqS'. -/
import Derived.Test.YtpgoadcaaepkkaaTasks2
import Derived.Test.YtpgoadcaaepkkaaSupply
import Derived.Deep.QuietTactic
import Derived.BigQuiet
namespace Go.Proofs.Ytpgoadcaaepkkaa
open Go.RowKit

/-- What all jobs ask for that come within x ticks. -/
def reqS : List Tk → Int → Int
  | [], _ => 0
  | t :: l, x => reqS l x + t.c * ((x + t.p - 1) / t.p)
theorem reqS_append (l m : List Tk) (x : Int) : reqS (l ++ m) x = reqS l x + reqS m x := by
  induction l with
  | nil => simp [reqS]
  | cons t l ih => simp only [List.cons_append, reqS, ih]; omega
theorem take_succ_some {α : Type} {l : List α} {k : Nat} {t : α} (h : l[k]? = some t) : l.take (k + 1) = l.take k ++ [t] := by
  rw [List.take_add_one, h]; rfl
theorem reqS_take {l : List Tk} {k : Nat} {t : Tk} (h : l[k]? = some t) (x : Int) : reqS (l.take (k + 1)) x = reqS (l.take k) x + t.c * ((x + t.p - 1) / t.p) := by
  rw [take_succ_some h, reqS_append]; simp [reqS]

theorem req_term {t : Tk} (h : t.ok = true) {x : Int} (h0 : 0 ≤ x) (h1 : x ≤ 1048576) :
    0 ≤ (x + t.p - 1) / t.p ∧ (x + t.p - 1) / t.p ≤ 1048576 ∧ 0 ≤ t.c * ((x + t.p - 1) / t.p) ∧ t.c * ((x + t.p - 1) / t.p) ≤ 1099511627776 := by
  obtain ⟨a, b, c, d⟩ := (Tk.ok_iff t).1 h
  have e0 : 0 ≤ (x + t.p - 1) / t.p := Int.ediv_nonneg (by omega) (by omega)
  have e1 : (x + t.p - 1) / t.p ≤ 1048576 := by
    have hlt : (x + t.p - 1) / t.p < 1048577 := by
      refine Int.ediv_lt_of_lt_mul (by omega) ?_
      have h3 : 1048577 * 1 ≤ 1048577 * t.p := Int.mul_le_mul_of_nonneg_left (by omega) (by omega)
      have h4 : (1048577 : Int) * t.p = 1048576 * t.p + t.p := by omega
      have h5 : (1048576 : Int) * 1 ≤ 1048576 * t.p := Int.mul_le_mul_of_nonneg_left (by omega) (by omega)
      omega
    omega
  refine ⟨e0, e1, Int.mul_nonneg (by omega) e0, ?_⟩
  have h2 : t.c * ((x + t.p - 1) / t.p) ≤ 1048576 * ((x + t.p - 1) / t.p) := Int.mul_le_mul_of_nonneg_right (by omega) e0
  omega

theorem reqS_bound {l : List Tk} (h : ∀ t ∈ l, t.ok = true) {x : Int} (h0 : 0 ≤ x) (h1 : x ≤ 1048576) : 0 ≤ reqS l x ∧ reqS l x ≤ 1099511627776 * l.length := by
  induction l with
  | nil => simp [reqS]
  | cons t l ih =>
    have := ih (fun t ht => h t (List.mem_cons_of_mem _ ht))
    have h2 := req_term (h t List.mem_cons_self) h0 h1
    simp only [reqS, List.length_cons]
    omega
theorem allB_mem {l : List Tk} (h : allB l = true) : ∀ t ∈ l, t.ok = true := fun t ht => by
  simp only [allB, Bool.and_eq_true, decide_eq_true_eq, List.all_eq_true] at h; exact h.2 t ht
theorem reqS_take_bound {l : List Tk} (h : allB l = true) (k : Nat) {x : Int} (h0 : 0 ≤ x) (h1 : x ≤ 1048576) : 0 ≤ reqS (l.take k) x ∧ reqS (l.take k) x ≤ 8796093022208 := by
  have := reqS_bound (l := l.take k) (fun t ht => allB_mem h t (List.mem_of_mem_take ht)) h0 h1
  have h8 := allB_len h
  have h9 : (l.take k).length ≤ l.length := List.length_take_le' _ _
  omega

theorem tasksRequest (A : Option Addr) (n c : Nat) (l : List Tk) (hn : n = l.length) (hall : allB l = true) (x : Int) (h0 : 0 ≤ x) (h1 : x ≤ 1048576) (w : World) (H : Rd w A (l.flatMap Tk.cells)) :
    Calls Try.prog 15 #[.slice A n c, .int .i64 x] w fun e w' => e = .returned (.int .i64 (reqS l x)) ∧ Upd No w w' := by
  have h8 : n ≤ 8 := by rw [hn]; exact allB_len hall
  have hst : stretchB x = true := by simp [stretchB]; omega
  have HN := Lib.hid hn; have HALL := Lib.hid hall; have HST := Lib.hid hst; clear hn hall hst
  go_enter Try.func15, Try.ntmps15
  go_wp2_with (first | (go_at_call 11; refine (tasksAll A n c l HN.out (by omega) _ H).mono ?_; rw [HALL.out]; rintro e w1 ⟨rfl, hu1⟩) | (go_at_call 19; refine (tasksStretch x _).mono ?_; rw [HST.out]; rintro e w2 ⟨rfl, hu2⟩))
  have hu3 := hu1.trans hu2
  clear hu1 hu2
  go_loopw [5, 18] (fun s i wr => ∃ k : Nat, k ≤ n ∧ i = .int .i64 k ∧ Upd No w wr ∧ s = .int .i64 (reqS (l.take k) x)) (fun _ i _ => n - (intOf i).toNat)
  case atStart => exact ⟨0, Nat.zero_le _, rfl, hu3, by simp [reqS]⟩
  case round =>
    obtain ⟨k, hk, rfl, hu, rfl⟩ := hrel
    by_cases hlt : k < n
    · obtain ⟨t, ht⟩ : ∃ t, l[k]? = some t := ⟨l[k]'(by rw [← HN.out]; exact hlt), List.getElem?_eq_getElem _⟩
      obtain ⟨g, o, rfl, c0, c1, c2⟩ := (H.upd hu).tk ht
      have hok := allB_get HALL.out ht
      obtain ⟨q1, q2, q3, q4⟩ := (Tk.ok_iff t).1 hok
      obtain ⟨e0, e1, e2, e3⟩ := req_term hok h0 h1
      obtain ⟨s0, s1⟩ := reqS_take_bound HALL.out k h0 h1
      have HS := Lib.hid (reqS_take ht x)
      clear ht hok
      go_wp2
      go_quiet (fail)
      go_wp2
      go_roundw
      case rel => exact ⟨k + 1, by omega, by go_num, (by repeat (first | with_reducible assumption | exact Upd.refl _ _ | (refine Upd.alloc ?_ _) | (refine Upd.drewN ?_ _) | (refine Upd.drew ?_) | (refine Upd.trans ?_ (by with_reducible assumption)))), by rw [HS.out]⟩
      case measure => simp [intOf]; omega
    · go_wp2
      go_ret
      exact ⟨ret_int (by rw [List.take_of_length_le (by rw [← HN.out]; omega)]), hu⟩

theorem tasksRequest0 (A : Option Addr) (n c : Nat) (l : List Tk) (hn : n = l.length) (hm : n ≤ 9223372036854775807) (x : Int) (hx : (allB l && stretchB x) = false) (w : World) (H : Rd w A (l.flatMap Tk.cells)) :
    Calls Try.prog 15 #[.slice A n c, .int .i64 x] w fun e w' => e = .returned (.int .i64 0) ∧ Upd No w w' := by
  have HN := Lib.hid hn; clear hn
  by_cases ha : allB l = true
  · have hst : stretchB x = false := by rw [ha] at hx; simpa using hx
    have HALL := Lib.hid ha; have HST := Lib.hid hst; clear ha hst hx
    go_enter Try.func15, Try.ntmps15
    go_wp2_with (first | (go_at_call 11; refine (tasksAll A n c l HN.out hm _ H).mono ?_; rw [HALL.out]; rintro e w1 ⟨rfl, hu1⟩) | (go_at_call 19; refine (tasksStretch x _).mono ?_; rw [HST.out]; rintro e w2 ⟨rfl, hu2⟩))
    go_ret
    exact ⟨rfl, hu1.trans hu2⟩
  · have HALL := Lib.hid (show allB l = false by simpa using ha)
    clear ha hx
    go_enter Try.func15, Try.ntmps15
    go_wp2_with (first | (go_at_call 11; refine (tasksAll A n c l HN.out hm _ H).mono ?_; rw [HALL.out]; rintro e w1 ⟨rfl, hu1⟩))
    go_ret
    exact ⟨rfl, hu1⟩

theorem ceil_of {p x j : Int} (hp : 1 ≤ p) (h : x ≤ p * j) (hlt : j = 0 ∧ 0 ≤ x ∨ p * (j - 1) < x) : (x + p - 1) / p = j := by
  rw [Int.ediv_eq_iff_of_pos (by omega)]
  rw [Int.mul_sub, Int.mul_one] at hlt
  rw [Int.mul_comm j p]
  rcases hlt with ⟨rfl, h0⟩ | hlt
  · simp only [Int.mul_zero] at *; omega
  · omega

theorem req_step {t : Tk} {x j y : Int} (q1 : 1 ≤ t.c) (q2 : 1 ≤ t.p) (q3 : t.c ≤ 1048576) (q4 : t.p ≤ 1048576) (j0 : 0 ≤ j) (h1 : x ≤ 1048576) (hy : y = t.p * j) (hyx : y < x) :
    j + 1 ≤ 1048576 ∧ y + t.p = t.p * (j + 1) ∧ 0 ≤ t.c * j ∧ t.c * j ≤ 1099511627776 := by
  have e1 : 1 * j ≤ t.p * j := Int.mul_le_mul_of_nonneg_right q2 j0
  have e2 : t.c * j ≤ 1048576 * j := Int.mul_le_mul_of_nonneg_right q3 j0
  have e3 : 0 ≤ t.c * j := Int.mul_nonneg (by omega) j0
  refine ⟨by omega, by rw [Int.mul_add]; omega, e3, by omega⟩

theorem refRequest (A : Option Addr) (n c : Nat) (l : List Tk) (hn : n = l.length) (hall : allB l = true) (x : Int) (h0 : 0 ≤ x) (h1 : x ≤ 1048576) (w : World) (H : Rd w A (l.flatMap Tk.cells)) :
    Calls Try.prog 17 #[.slice A n c, .int .i64 x] w fun e w' => e = .returned (.int .i64 (reqS l x)) ∧ Upd No w w' := by
  have h8 : n ≤ 8 := by rw [hn]; exact allB_len hall
  have HN := Lib.hid hn; have HALL := Lib.hid hall; clear hn hall
  go_enter Try.func17, Try.ntmps17
  go_wp2
  go_loopw [5, 6] (fun s i wr => ∃ k : Nat, k ≤ n ∧ i = .int .i64 k ∧ Upd No w wr ∧ s = .int .i64 (reqS (l.take k) x)) (fun _ i _ => n - (intOf i).toNat)
  case atStart => exact ⟨0, Nat.zero_le _, rfl, Upd.refl _ _, by simp [reqS]⟩
  case round =>
    obtain ⟨k, hk, rfl, hu, rfl⟩ := hrel
    by_cases hlt : k < n
    · obtain ⟨t, ht⟩ : ∃ t, l[k]? = some t := ⟨l[k]'(by rw [← HN.out]; exact hlt), List.getElem?_eq_getElem _⟩
      obtain ⟨g, o, rfl, c0, c1, c2⟩ := (H.upd hu).tk ht
      have hok := allB_get HALL.out ht
      obtain ⟨q1, q2, q3, q4⟩ := (Tk.ok_iff t).1 hok
      obtain ⟨s0, s1⟩ := reqS_take_bound HALL.out k h0 h1
      have HS := Lib.hid (reqS_take ht x)
      have HTT := Lib.hid ht
      clear ht hok
      go_wp2
      obtain ⟨m0, m1, m2, m3⟩ := req_term (allB_get HALL.out HTT.out) h0 h1
      go_loopw [5, 7] (fun s a wr' => ∃ j v y : Int, 0 ≤ j ∧ j ≤ 1048576 ∧ s = .int .i64 v ∧ a = .int .i64 y ∧ 0 ≤ v ∧ v ≤ 1000000000000000 ∧ Hid (y = t.p * j) ∧ 0 ≤ y ∧ y ≤ 2097152 ∧ Hid (v = reqS (l.take k) x + t.c * j) ∧ Hid (j = 0 ∧ 0 ≤ x ∨ t.p * (j - 1) < x) ∧ Upd No wr wr') (fun _ a _ => 2097152 - (intOf a).toNat)
      case atStart => exact ⟨0, _, 0, by omega, by omega, rfl, rfl, s0, by omega, Lib.hid (by simp), by omega, by omega, Lib.hid (by simp), Lib.hid (.inl ⟨rfl, h0⟩), Upd.refl _ _⟩
      case round =>
        obtain ⟨j, v, y, j0, j1, rfl, rfl, v0, v1, hy, y0, y1, hv, hj, hu'⟩ := hrel
        have d0 := hu'.at_ c0
        have d1 := hu'.at_ c1
        have d2 := hu'.at_ c2
        clear c0 c1 c2
        by_cases hyx : y < x
        · go_wp2
          go_roundw
          case rel =>
            obtain ⟨k1, k2, k3, k4⟩ := req_step (t := t) q1 (by omega) (by omega) q4 j0 h1 hy.out hyx
            exact ⟨j + 1, _, _, by omega, k1, rfl, rfl, by omega, by rw [hv.out]; omega, Lib.hid k2, by omega, by omega, Lib.hid (by rw [hv.out, Int.mul_add]; omega), Lib.hid (.inr (by rw [Int.add_sub_cancel, ← hy.out]; exact hyx)), (by repeat (first | with_reducible assumption | exact Upd.refl _ _ | (refine Upd.alloc ?_ _) | (refine Upd.drewN ?_ _) | (refine Upd.drew ?_) | (refine Upd.trans ?_ (by with_reducible assumption))))⟩
          case measure => simp [intOf]; omega
        · go_wp2
          go_roundw
          case rel => exact ⟨k + 1, by omega, by go_num, hu.trans (by repeat (first | with_reducible assumption | exact Upd.refl _ _ | (refine Upd.alloc ?_ _) | (refine Upd.drewN ?_ _) | (refine Upd.drew ?_) | (refine Upd.trans ?_ (by with_reducible assumption)))), by rw [HS.out, hv.out, ceil_of (by omega) (by rw [← hy.out]; omega) hj.out]⟩
          case measure => simp [intOf]; omega
    · go_wp2
      go_ret
      exact ⟨ret_int (by rw [List.take_of_length_le (by rw [← HN.out]; omega)]), hu⟩

end Go.Proofs.Ytpgoadcaaepkkaa
