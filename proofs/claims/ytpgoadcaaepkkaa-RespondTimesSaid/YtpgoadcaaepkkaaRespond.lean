/- respond.Time answers the least fixed point, or ErrOver; ErrArg where something may not be. -/
import Derived.Test.YtpgoadcaaepkkaaTime
namespace Go.Proofs.Ytpgoadcaaepkkaa
open Go.RowKit

/-- The answers of respond.Time: the ticks, and an error. -/
def GotTime (l : List Tk) (c held b p bound : Int) (w : World) (e : Ending) (w' : World) : Prop :=
  ∃ res nn ee : Int, Least l c held b p bound res ∧ Hid ((res = -1 ∧ nn = 0 ∧ ee = 24) ∨ (0 ≤ res ∧ nn = res ∧ ee = 0)) ∧ e = .returned (.tuple #[.int .i64 nn, .int .i64 ee]) ∧ Upd No w w'

theorem waitP_of {b p need bound : Int} (hr : resB b p = true) (h1 : 1 ≤ need) (hb1 : bound ≤ 1048576) :
    ((waitP b p need).2 = true ∧ (waitP b p need).1 ≤ bound ∧ (waitP b p need).1 = gW b p need ∧ gW b p need ≤ bound) ∨
    (((waitP b p need).2 = false ∨ ((waitP b p need).2 = true ∧ bound < (waitP b p need).1)) ∧ bound < gW b p need) := by
  obtain ⟨q1, q2, q3⟩ := (resB_iff b p).1 hr
  have hc := cdiv_pos q1 h1
  unfold waitP gW
  rw [if_neg (by omega), if_neg (by omega)]
  by_cases hbig : 1048576 ≤ cdiv need b
  · rw [if_pos hbig]
    have h2 : (1048576 + 1) * 1 ≤ (cdiv need b + 1) * p := Int.mul_le_mul (by omega) (by omega) (by omega) (by omega)
    right; exact ⟨.inl rfl, by omega⟩
  · rw [if_neg hbig]
    by_cases h3 : 1048576 < (cdiv need b + 1) * p
    · rw [if_pos h3]; right; exact ⟨.inl rfl, by omega⟩
    · rw [if_neg h3]
      by_cases h4 : (cdiv need b + 1) * p ≤ bound
      · left; exact ⟨rfl, h4, rfl, h4⟩
      · right; exact ⟨.inr ⟨rfl, by omega⟩, by omega⟩

theorem progTime (A : Option Addr) (n c : Nat) (l : List Tk) (t : Tk) (held b p bound : Int) (hn : n = l.length) (hall : allB l = true) (ht : t.ok = true) (h0 : 0 ≤ held) (h1 : held ≤ 1048576) (hr : resB b p = true) (hb0 : 0 ≤ bound) (hb1 : bound ≤ 1048576)
    (w : World) (H : Rd w A (l.flatMap Tk.cells)) :
    Calls Try.prog 5 #[.slice A n c, .agg #[.int .i64 t.c, .int .i64 t.p, .int .i64 t.d], .int .i64 held, .agg #[.int .i64 b, .int .i64 p], .int .i64 bound] w (GotTime l t.c held b p bound w) := by
  obtain ⟨q1, q2, q3⟩ := (resB_iff b p).1 hr
  obtain ⟨t1, t2, t3, t4⟩ := (Tk.ok_iff t).1 ht
  have h8 : n ≤ 8 := by rw [hn]; exact allB_len hall
  have HN := Lib.hid hn; have HALL := Lib.hid hall; have HR := Lib.hid hr; have HT := Lib.hid ht
  clear hr hn hall ht
  go_enter Try.func5, Try.ntmps5
  have hb2 := (Upd.refl No ((w.alloc (.cells #[.int .i64 t.c, .int .i64 t.p, .int .i64 t.d] 24)).alloc (.cells #[.int .i64 b, .int .i64 p] 31))).box2
  have hw0 : Upd No w ((w.alloc (.cells #[.int .i64 t.c, .int .i64 t.p, .int .i64 t.d] 24)).alloc (.cells #[.int .i64 b, .int .i64 p] 31)) := ((Upd.refl _ _).alloc _).alloc _
  have HB2 := Lib.hid hb2; clear hb2
  go_wp2_with (first | (go_at_call 11; refine (tasksAll A n c l HN.out (by omega) _ (H.upd hw0)).mono ?_; rw [HALL.out]; rintro e w1 ⟨rfl, hu1⟩; obtain ⟨hx1, hy1⟩ := hu1.box2) | (go_at_call 12; refine (tasksRight t _).mono ?_; rw [HT.out]; rintro e w2 ⟨rfl, hu2⟩; obtain ⟨hx2, hy2⟩ := (hu1.trans hu2).box2) | (go_at_call 13; refine (resRight b p _).mono ?_; rw [HR.out]; rintro e w3 ⟨rfl, hu3⟩))
  have hu := (hu1.trans hu2).trans hu3
  clear hu1 hu2 hu3 hx1 hy1 hx2 hy2
  go_loopw [12] (fun i wr => ∃ x : Int, i = .int .i64 x ∧ 0 ≤ x ∧ x ≤ bound ∧ Hid (∀ m, 0 ≤ m → m < x → gW b p (needT l t.c held m) ≠ m) ∧ x ≤ gW b p (needT l t.c held x) ∧
    Upd No ((w.alloc (.cells #[.int .i64 t.c, .int .i64 t.p, .int .i64 t.d] 24)).alloc (.cells #[.int .i64 b, .int .i64 p] 31)) wr) (fun i _ => 4000000 - (intOf i).toNat)
  case atStart =>
    refine ⟨0, rfl, by omega, hb0, Lib.hid (fun m a b => by omega), ?_, hu⟩
    have r0 := (reqS_bound (allB_mem HALL.out) (Int.le_refl 0) (by omega)).1
    have hc := cdiv_pos q1 (show 1 ≤ needT l t.c held 0 by unfold needT; omega)
    exact Int.mul_nonneg (by omega) (by omega)
  case round =>
    clear hu
    obtain ⟨x, rfl, x0, x1, hmin, hle, hu⟩ := hrel
    obtain ⟨hbt, hbr⟩ := hu.box2
    have hw : Upd No w wr := (((Upd.refl _ _).alloc _).alloc _).trans hu
    obtain ⟨r0, r1⟩ := reqS_take_bound HALL.out l.length x0 (by omega)
    rw [List.take_of_length_le (Nat.le_refl _)] at r0 r1
    go_wp2_with fail
    have c1 := hbr 0
    have c2 := hbr 1
    have c3 := hbt 0
    simp only [List.getElem?_toArray, List.getElem?_cons_zero, List.getElem?_cons_succ] at c1 c2 c3
    clear hbt hbr
    have v1 : IntKind.i64.wrap (t.c + held) = t.c + held := IntWalk.i64_in _ (by omega)
    have v2 : IntKind.i64.wrap (t.c + held + reqS l x) = t.c + held + reqS l x := IntWalk.i64_in _ (by omega)
    have HLE := Lib.hid hle; clear hle
    go_region_held3 (fun w' => Upd No wr w' ∧ w'.cell? ⟨w.heap.size + 1, 0, none⟩ = some (.int .i64 b) ∧ w'.cell? ⟨w.heap.size + 1, 0 + 1, none⟩ = some (.int .i64 p) ∧ w'.cell? ⟨w.heap.size, 0, none⟩ = some (.int .i64 t.c))
      (first | exact ⟨(Upd.refl _ _).drew, c1, c2, c3⟩ | (obtain ⟨hs0, hs1, hs2, hs3⟩ := ‹Upd No _ _ ∧ _›; exact ⟨hs0.trans (by assumption), Upd.at_ (by assumption) hs1, Upd.at_ (by assumption) hs2, Upd.at_ (by assumption) hs3⟩))
      (first | (go_at_call 15; refine (tasksRequest A n c l HN.out HALL.out x x0 (by omega) _ ?_).mono ?_; (exact H.upd (by repeat (first | with_reducible assumption | exact Upd.refl _ _ | (refine Upd.alloc ?_ _) | (refine Upd.drewN ?_ _) | (refine Upd.drew ?_) | (refine Upd.trans ?_ (by with_reducible assumption))))); rintro e w1 ⟨rfl, hu1⟩) | (go_at_call 14; refine (resWait b p _ _ HR.out ?_).mono ?_; omega; rintro e w1 ⟨rfl, hu1⟩))
    obtain ⟨hz, z1, z2, z3⟩ := ‹Upd No _ _ ∧ _›
    clear c1 c2 c3 v1 v2
    have hu9 := hu.trans hz
    have hw9 := hw.trans hz
    clear z1 z2 z3 hu1 hz hu hw
    have hpost : ∀ m, 0 ≤ m → m < gW b p (needT l t.c held x) → gW b p (needT l t.c held m) ≠ m := fun m m0 m1 e => by
      by_cases hmx : m < x
      · exact hmin.out m m0 hmx e
      · have h2 := reqS_mono (allB_mem HALL.out) x0 (show x ≤ m by omega)
        have h3 := gW_mono HR.out (x := needT l t.c held x) (y := needT l t.c held m) (by unfold needT; omega) (by unfold needT; omega)
        omega
    have HP := Lib.hid hpost
    clear hpost
    have hgl := HLE.out
    rcases waitP_of (need := t.c + held + reqS l x) HR.out (by omega) hb1 with ⟨k1, k2, k3, k4⟩ | ⟨k1, k2⟩
    · have K3 := Lib.hid k3
      clear k3
      have hle2 : x ≤ (waitP b p (t.c + held + reqS l x)).1 := by rw [K3.out]; exact hgl
      clear hgl
      by_cases heq : (waitP b p (t.c + held + reqS l x)).1 = x
      · have hbq : ((waitP b p (t.c + held + reqS l x)).1 == x) = true := by simpa using heq
        have HE := Lib.hid heq
        clear heq
        go_wp2
        go_ret2
        exact ⟨x, x, 0, .inl ⟨x0, x1, (show gW b p (needT l t.c held x) = x from K3.out.symm.trans HE.out), hmin.out⟩, Lib.hid (.inr ⟨x0, rfl, rfl⟩), rfl, hw9⟩
      · have hbq : ((waitP b p (t.c + held + reqS l x)).1 == x) = false := by simpa using heq
        have HE := Lib.hid heq
        clear heq
        go_wp2
        go_roundw
        case rel =>
          refine ⟨_, rfl, by omega, k2, Lib.hid ?_, ?_, hu9⟩
          · rw [K3.out]; exact HP.out
          · have h2 := reqS_mono (allB_mem HALL.out) x0 hle2
            rw [K3.out] at h2 ⊢
            exact gW_mono HR.out (x := needT l t.c held x) (by unfold needT; omega) (by unfold needT; omega)
        case measure => have := HE.out; simp [intOf]; omega
    · have hend : GotTime l t.c held b p bound w (.returned (.tuple #[.int .i64 0, .int .i64 24])) w1 :=
        ⟨-1, 0, 24, .inr ⟨rfl, fun m m0 m1 => HP.out m m0 (by have : gW b p (needT l t.c held x) = gW b p (t.c + held + reqS l x) := rfl; omega)⟩, Lib.hid (.inl ⟨rfl, rfl, rfl⟩), rfl, hw9⟩
      have HEND := Lib.hid hend
      clear hend hgl k2
      rcases k1 with k1 | ⟨k1, k2⟩
      all_goals
        go_wp2
        go_ret2
        exact HEND.out

/-- Something may not be: ErrArg. -/
theorem progTime0 (A : Option Addr) (n c : Nat) (l : List Tk) (t : Tk) (held b p bound : Int) (hn : n = l.length) (hm : n ≤ 9223372036854775807)
    (hbad : (allB l && t.ok && decide (0 ≤ held) && decide (held ≤ 1048576) && decide (0 ≤ bound) && decide (bound ≤ 1048576) && resB b p) = false) (w : World) (H : Rd w A (l.flatMap Tk.cells)) :
    Calls Try.prog 5 #[.slice A n c, .agg #[.int .i64 t.c, .int .i64 t.p, .int .i64 t.d], .int .i64 held, .agg #[.int .i64 b, .int .i64 p], .int .i64 bound] w
      fun e w' => e = .returned (.tuple #[.int .i64 0, .int .i64 1]) ∧ Upd No w w' := by
  have HN := Lib.hid hn; clear hn
  have hw0 : Upd No w ((w.alloc (.cells #[.int .i64 t.c, .int .i64 t.p, .int .i64 t.d] 24)).alloc (.cells #[.int .i64 b, .int .i64 p] 31)) := ((Upd.refl _ _).alloc _).alloc _
  cases ha : allB l
  case false =>
    have HALL := Lib.hid ha
    clear hbad ha
    go_enter Try.func5, Try.ntmps5
    go_wp2_with (first | (go_at_call 11; refine (tasksAll A n c l HN.out hm _ (H.upd hw0)).mono ?_; rw [HALL.out]; rintro e w1 ⟨rfl, hu1⟩))
    go_ret2
    exact ⟨rfl, hw0.trans hu1⟩
  case true =>
  have HALL := Lib.hid ha
  cases ht : t.ok
  case false =>
    have HT := Lib.hid ht
    clear hbad ha ht
    go_enter Try.func5, Try.ntmps5
    go_wp2_with (first | (go_at_call 11; refine (tasksAll A n c l HN.out hm _ (H.upd hw0)).mono ?_; rw [HALL.out]; rintro e w1 ⟨rfl, hu1⟩; obtain ⟨hx1, hy1⟩ := hu1.box2) | (go_at_call 12; refine (tasksRight t _).mono ?_; rw [HT.out]; rintro e w2 ⟨rfl, hu2⟩))
    go_ret2
    exact ⟨rfl, (hw0.trans hu1).trans hu2⟩
  case true =>
  have HT := Lib.hid ht
  by_cases hg : 0 ≤ held ∧ held ≤ 1048576 ∧ 0 ≤ bound ∧ bound ≤ 1048576
  · obtain ⟨g1, g2, g3, g4⟩ := hg
    have hr : resB b p = false := by simpa [ha, ht, g1, g2, g3, g4] using hbad
    have HR := Lib.hid hr
    clear hbad ha ht hr
    go_enter Try.func5, Try.ntmps5
    go_wp2_with (first | (go_at_call 11; refine (tasksAll A n c l HN.out hm _ (H.upd hw0)).mono ?_; rw [HALL.out]; rintro e w1 ⟨rfl, hu1⟩; obtain ⟨hx1, hy1⟩ := hu1.box2) | (go_at_call 12; refine (tasksRight t _).mono ?_; rw [HT.out]; rintro e w2 ⟨rfl, hu2⟩; obtain ⟨hx2, hy2⟩ := (hu1.trans hu2).box2) | (go_at_call 13; refine (resRight b p _).mono ?_; rw [HR.out]; rintro e w3 ⟨rfl, hu3⟩))
    go_ret2
    exact ⟨rfl, ((hw0.trans hu1).trans hu2).trans hu3⟩
  · clear hbad ha ht
    have hcs : held < 0 ∨ (0 ≤ held ∧ 1048576 < held) ∨ (0 ≤ held ∧ held ≤ 1048576 ∧ bound < 0) ∨ (0 ≤ held ∧ held ≤ 1048576 ∧ 0 ≤ bound ∧ 1048576 < bound) := by omega
    clear hg
    rcases hcs with h1 | ⟨h1, h2⟩ | ⟨h1, h2, h3⟩ | ⟨h1, h2, h3, h4⟩
    all_goals
      go_enter Try.func5, Try.ntmps5
      go_wp2_with (first | (go_at_call 11; refine (tasksAll A n c l HN.out hm _ (H.upd hw0)).mono ?_; rw [HALL.out]; rintro e w1 ⟨rfl, hu1⟩; obtain ⟨hx1, hy1⟩ := hu1.box2) | (go_at_call 12; refine (tasksRight t _).mono ?_; rw [HT.out]; rintro e w2 ⟨rfl, hu2⟩; obtain ⟨hx2, hy2⟩ := (hu1.trans hu2).box2))
      go_ret2
      exact ⟨rfl, (hw0.trans hu1).trans hu2⟩

end Go.Proofs.Ytpgoadcaaepkkaa
