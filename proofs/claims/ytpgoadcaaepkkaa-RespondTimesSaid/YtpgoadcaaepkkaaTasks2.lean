/- tasks.All and ref03.All answer 'allB'. -/
import Derived.Test.YtpgoadcaaepkkaaTasks
namespace Go.Proofs.Ytpgoadcaaepkkaa
open Go.RowKit

theorem allB_of {l : List Tk} (h8 : l.length ≤ 8) (h : ∀ (j : Nat) (t : Tk), l[j]? = some t → t.ok = true) : allB l = true := by
  simp only [allB, Bool.and_eq_true, decide_eq_true_eq, List.all_eq_true]
  exact ⟨h8, fun t ht => by obtain ⟨j, hj⟩ := List.mem_iff_getElem?.1 ht; exact h j t hj⟩
theorem allB_not {l : List Tk} {j : Nat} {t : Tk} (hj : l[j]? = some t) (h : t.ok = false) : allB l = false := by
  cases hb : allB l with
  | false => rfl
  | true =>
    simp only [allB, Bool.and_eq_true, decide_eq_true_eq, List.all_eq_true] at hb
    have := hb.2 t (List.mem_iff_getElem?.2 ⟨j, hj⟩)
    rw [h] at this; cases this
theorem allB_long {l : List Tk} (h : 8 < l.length) : allB l = false := by
  simp [allB]; omega
theorem allB_get {l : List Tk} (h : allB l = true) {j : Nat} {t : Tk} (hj : l[j]? = some t) : t.ok = true := by
  simp only [allB, Bool.and_eq_true, decide_eq_true_eq, List.all_eq_true] at h
  exact h.2 t (List.mem_iff_getElem?.2 ⟨j, hj⟩)
theorem allB_len {l : List Tk} (h : allB l = true) : l.length ≤ 8 := by
  simp only [allB, Bool.and_eq_true, decide_eq_true_eq] at h; exact h.1

theorem tasksAll (A : Option Addr) (n c : Nat) (l : List Tk) (hn : n = l.length) (hm : n ≤ 9223372036854775807) (w : World) (H : Rd w A (l.flatMap Tk.cells)) :
    Calls Try.prog 11 #[.slice A n c] w fun e w' => e = .returned (.bool (allB l)) ∧ Upd No w w' := by
  have HN := Lib.hid hn; clear hn
  by_cases h8 : 8 < n
  · go_enter Try.func11, Try.ntmps11
    go_wp2
    go_ret
    exact ⟨ret_bool (by rw [allB_long]; rw [← HN.out]; exact h8), Upd.refl _ _⟩
  · go_enter Try.func11, Try.ntmps11
    go_wp2
    go_loopw [10] (fun i wr => ∃ k : Nat, k ≤ n ∧ i = .int .i64 k ∧ Upd No w wr ∧ ∀ j t, j < k → l[j]? = some t → t.ok = true) (fun i _ => n - (intOf i).toNat)
    case atStart => exact ⟨0, Nat.zero_le _, rfl, Upd.refl _ _, fun j t hj => absurd hj (by omega)⟩
    case round =>
      obtain ⟨k, hk, rfl, hu, hall⟩ := hrel
      have Hall := Lib.hid hall; clear hall
      by_cases hlt : k < n
      · obtain ⟨t, ht⟩ : ∃ t, l[k]? = some t := ⟨l[k]'(by rw [← HN.out]; exact hlt), List.getElem?_eq_getElem _⟩
        obtain ⟨g, o, rfl, h0, h1, h2⟩ := (H.upd hu).tk ht
        have HT := Lib.hid ht; clear ht
        go_wp2_with (go_at_call 12; refine (tasksRight t _).mono ?_; rintro e w1 ⟨rfl, hu1⟩)
        · rename_i hok
          go_ret
          exact ⟨ret_bool (allB_not HT.out (by simpa using hok)).symm, hu.trans (((Upd.refl _ _).alloc _).trans hu1)⟩
        · rename_i hok
          go_roundw
          case rel =>
            refine ⟨k + 1, by omega, by go_num, hu.trans (((Upd.refl _ _).alloc _).trans hu1), fun j t' hj ht' => ?_⟩
            by_cases e : j = k
            · subst e; rw [HT.out] at ht'; cases ht'; simpa using hok
            · exact Hall.out j t' (by omega) ht'
          case measure => simp [intOf]; omega
      · go_wp2
        go_ret
        exact ⟨ret_bool (allB_of (by rw [← HN.out]; omega) (fun j t hj => Hall.out j t (by have := (List.getElem?_eq_some_iff.1 hj).1; rw [← HN.out] at this; omega) hj)).symm, hu⟩

theorem refAll (A : Option Addr) (n c : Nat) (l : List Tk) (hn : n = l.length) (hm : n ≤ 9223372036854775807) (w : World) (H : Rd w A (l.flatMap Tk.cells)) :
    Calls Try.prog 7 #[.slice A n c] w fun e w' => e = .returned (.bool (allB l)) ∧ Upd No w w' := by
  have HN := Lib.hid hn; clear hn
  go_enter Try.func7, Try.ntmps7
  go_wp2
  go_loopw [3] (fun i wr => ∃ k : Nat, k ≤ n ∧ k ≤ 9 ∧ i = .int .i64 k ∧ Upd No w wr ∧ ∀ j t, j < k → l[j]? = some t → t.ok = true) (fun i _ => n - (intOf i).toNat)
  case atStart => exact ⟨0, Nat.zero_le _, by omega, rfl, Upd.refl _ _, fun j t hj => absurd hj (by omega)⟩
  case round =>
    obtain ⟨k, hk, hk9, rfl, hu, hall⟩ := hrel
    have Hall := Lib.hid hall; clear hall
    by_cases hlt : k < n
    · by_cases hlt9 : k < 9
      · obtain ⟨t, ht⟩ : ∃ t, l[k]? = some t := ⟨l[k]'(by rw [← HN.out]; exact hlt), List.getElem?_eq_getElem _⟩
        obtain ⟨g, o, rfl, h0, h1, h2⟩ := (H.upd hu).tk ht
        have HT := Lib.hid ht; clear ht
        go_wp2_with (go_at_call 8; refine (refRight t _).mono ?_; rintro e w1 ⟨rfl, hu1⟩)
        · rename_i hok
          go_ret
          exact ⟨ret_bool (allB_not HT.out (by simpa using hok)).symm, hu.trans hu1⟩
        · rename_i hok
          go_roundw
          case rel =>
            refine ⟨k + 1, by omega, by omega, by go_num, hu.trans hu1, fun j t' hj ht' => ?_⟩
            by_cases e : j = k
            · subst e; rw [HT.out] at ht'; cases ht'; simpa using hok
            · exact Hall.out j t' (by omega) ht'
          case measure => simp [intOf]; omega
      · go_wp2
        go_ret
        refine ⟨ret_bool ?_, hu⟩
        rw [allB_long (by rw [← HN.out]; omega)]
        simp; omega
    · by_cases h9 : n < 9
      all_goals
        go_wp2
        go_ret
        refine ⟨ret_bool ?_, hu⟩
      · rw [allB_of (by rw [← HN.out]; omega) (fun j t hj => Hall.out j t (by have := (List.getElem?_eq_some_iff.1 hj).1; rw [← HN.out] at this; omega) hj)]
        simp; omega
      · rw [allB_long (by rw [← HN.out]; omega)]
        simp; omega

end Go.Proofs.Ytpgoadcaaepkkaa
