/- Whole, Hyperbolic and Harmonic of package bound: the walks. -/
import Derived.Test.YtabboklejodbaaaWide5
import Derived.Deep.DeepCutAuto
import Derived.Deep.CutBlock
namespace Go.Proofs.Ytabboklejodbaaa
open Go.RowKit Go.Proofs.YtabboklejodbaaaW.PrintWords Go.Proofs.YtabboklejodbaaaW.PrintLast

theorem wideRow {w : World} {b : Nat} {x : Int} (h : Row w b 34 [.int .u64 (lb0 x), .int .u64 (lb1 x), .int .u64 (lb2 x), .int .u64 (lb3 x)]) : w.cell? ⟨b, 0, none⟩ = some (.int .u64 (lb0 x)) ∧ w.cell? ⟨b, 1, none⟩ = some (.int .u64 (lb1 x)) ∧ w.cell? ⟨b, 2, none⟩ = some (.int .u64 (lb2 x)) ∧ w.cell? ⟨b, 3, none⟩ = some (.int .u64 (lb3 x)) :=
  ⟨h.cell (i := 0) rfl, h.cell (i := 1) rfl, h.cell (i := 2) rfl, h.cell (i := 3) rfl⟩
/-- A number is stored whole. -/
theorem wideStore {w0 w : World} {b c : Nat} {x y : Int} {T : TypeId} {xs : List Value} (hu : Upd No w0 w) (hb : w0.heap.size ≤ b) (hr : Row w b 34 [.int .u64 (lb0 x), .int .u64 (lb1 x), .int .u64 (lb2 x), .int .u64 (lb3 x)]) (hne : c ≠ b) (hc : Row w c T xs) :
    Upd No w0 ((((w.setCell ⟨b, 0, none⟩ (.int .u64 (lb0 y))).setCell ⟨b, 1, none⟩ (.int .u64 (lb1 y))).setCell ⟨b, 2, none⟩ (.int .u64 (lb2 y))).setCell ⟨b, 3, none⟩ (.int .u64 (lb3 y))) ∧
    Row ((((w.setCell ⟨b, 0, none⟩ (.int .u64 (lb0 y))).setCell ⟨b, 1, none⟩ (.int .u64 (lb1 y))).setCell ⟨b, 2, none⟩ (.int .u64 (lb2 y))).setCell ⟨b, 3, none⟩ (.int .u64 (lb3 y))) b 34 [.int .u64 (lb0 y), .int .u64 (lb1 y), .int .u64 (lb2 y), .int .u64 (lb3 y)] ∧
    Row ((((w.setCell ⟨b, 0, none⟩ (.int .u64 (lb0 y))).setCell ⟨b, 1, none⟩ (.int .u64 (lb1 y))).setCell ⟨b, 2, none⟩ (.int .u64 (lb2 y))).setCell ⟨b, 3, none⟩ (.int .u64 (lb3 y))) c T xs :=
  ⟨(((hu.setNew (p := ⟨b, 0, none⟩) hb _).setNew (p := ⟨b, 1, none⟩) hb _).setNew (p := ⟨b, 2, none⟩) hb _).setNew (p := ⟨b, 3, none⟩) hb _,
    (((hr.set 0 (.int .u64 (lb0 y))).set 1 (.int .u64 (lb1 y))).set 2 (.int .u64 (lb2 y))).set 3 (.int .u64 (lb3 y)),
    (((hc.far (p := ⟨b, 0, none⟩) hne _).far (p := ⟨b, 1, none⟩) hne _).far (p := ⟨b, 2, none⟩) hne _).far (p := ⟨b, 3, none⟩) hne _⟩
theorem lb_small {n : Int} (h0 : 0 ≤ n) (h : n ≤ 2) : lb0 n = n ∧ lb1 n = 0 ∧ lb2 n = 0 ∧ lb3 n = 0 := by
  unfold lb0 lb1 lb2 lb3 B64; omega

set_option maxRecDepth 100000 in
set_option maxHeartbeats 10000000 in
theorem progWhole {w : World} {A : Option Addr} {c : Nat} {l : List Tk} (h : Rd w A (l.flatMap tcells)) (hm : l.length ≤ 9223372036854775807) (hc : l.length ≤ c) (hcm : c ≤ 9223372036854775807) :
    Calls Try.prog 9 #[.slice A l.length c] w fun e w' => e = .returned (.bool (wholeB l)) ∧ Upd No w w' := by
  cases hi : implB l
  · have e : wholeB l = false := by unfold wholeB; rw [hi]; rfl
    rw [e]
    have HI := Lib.hid hi
    clear hi e
    go_enter Try.func9, Try.ntmps9
    go_wp2_with (go_at_call 7; refine (progImpl h hm hc).mono ?_; rw [HI.out]; rintro e w1 ⟨rfl, hu1⟩)
    go_ret
    exact ⟨rfl, hu1⟩
  · obtain ⟨hl8, hg⟩ := implB_iff.1 hi
    have HI := Lib.hid hi
    have HG := Lib.hid hg
    obtain ⟨n, hn⟩ : ∃ n, l.length = n := ⟨_, rfl⟩
    have HIM : ∀ w, Rd w A (l.flatMap tcells) → Calls Try.prog 7 #[.slice A n c] w fun e w' => e = .returned (.bool true) ∧ Upd No w w' := fun w h => by
      have := progImpl h hm hc
      rw [HI.out, hn] at this; exact this
    rw [hn] at hm hc hl8 ⊢
    have HN := Lib.hid hn
    have HIM := Lib.hid HIM
    clear hi hg hn
    go_enter Try.func9, Try.ntmps9
    go_wp2_with (go_at_call 7; refine (HIM.out _ h).mono ?_; rintro e w1 ⟨rfl, hu1⟩)
    have e0 := lb_small (n := 0) (by omega) (by omega)
    have e1 := lb_small (n := 1) (by omega) (by omega)
    have hr3 : Row ((w1.alloc (.cells #[.int .u64 0, .int .u64 0, .int .u64 0, .int .u64 0] 34)).alloc (.cells #[.int .u64 1, .int .u64 0, .int .u64 0, .int .u64 0] 34)) w1.heap.size 34 [.int .u64 (lb0 0), .int .u64 (lb1 0), .int .u64 (lb2 0), .int .u64 (lb3 0)] := by
      rw [e0.1, e0.2.1, e0.2.2.1, e0.2.2.2]; exact (Row.newAt _ _ _ _ rfl).alloc _
    have hr4 : Row ((w1.alloc (.cells #[.int .u64 0, .int .u64 0, .int .u64 0, .int .u64 0] 34)).alloc (.cells #[.int .u64 1, .int .u64 0, .int .u64 0, .int .u64 0] 34)) (w1.heap.size + 1) 34 [.int .u64 (lb0 1), .int .u64 (lb1 1), .int .u64 (lb2 1), .int .u64 (lb3 1)] := by
      rw [e1.1, e1.2.1, e1.2.2.1, e1.2.2.2]; exact Row.newAt _ _ _ _ (by simp)
    have hu2 : Upd No w ((w1.alloc (.cells #[.int .u64 0, .int .u64 0, .int .u64 0, .int .u64 0] 34)).alloc (.cells #[.int .u64 1, .int .u64 0, .int .u64 0, .int .u64 0] 34)) := (by repeat (first | with_reducible assumption | exact Upd.refl _ _ | (refine Upd.setNew ?_ (by first | (simp; done) | (simp; omega)) _) | (refine Upd.alloc ?_ _) | (refine Upd.drewN ?_ _) | (refine Upd.drew ?_) | (refine Upd.trans ?_ (by with_reducible assumption))))
    have hsz := hu1.size
    obtain ⟨b4, hb4⟩ : ∃ b4, w1.heap.size + 1 = b4 := ⟨_, rfl⟩
    obtain ⟨b3, hb3⟩ : ∃ b3, w1.heap.size = b3 := ⟨_, rfl⟩
    have hne : b4 ≠ b3 := by omega
    have h30 : w.heap.size ≤ b3 := by omega
    have h40 : w.heap.size ≤ b4 := by omega
    rw [hb4] at hr4 ⊢
    rw [hb3] at hr3 ⊢
    have HR3 := Lib.hid hr3
    have HR4 := Lib.hid hr4
    have HU2 := Lib.hid hu2
    clear hb3 hb4 hr3 hr4 hu2 hu1 e0 e1 hsz
    go_loopw [14] (fun i wr => ∃ (k : Nat) (U V : Int), k ≤ n ∧ i = .int .i64 k ∧ Hid (wsum (l.take k) = (U, V)) ∧ Upd No w wr ∧ Row wr b3 34 [.int .u64 (lb0 U), .int .u64 (lb1 U), .int .u64 (lb2 U), .int .u64 (lb3 U)] ∧ Row wr b4 34 [.int .u64 (lb0 V), .int .u64 (lb1 V), .int .u64 (lb2 V), .int .u64 (lb3 V)]) (fun i _ => n - (intOf i).toNat)
    case atStart => exact ⟨0, 0, 1, Nat.zero_le _, rfl, Lib.hid rfl, HU2.out, HR3.out, HR4.out⟩
    case round =>
      obtain ⟨k, U, V, hk, rfl, hUV, hu, hr3, hr4⟩ := hrel
      by_cases hlt : k < n
      · obtain ⟨t, ht⟩ : ∃ t, l[k]? = some t := ⟨l[k]'(by rw [HN.out]; exact hlt), List.getElem?_eq_getElem _⟩
        obtain ⟨g1, g2, g3, g4⟩ := HG.out t (List.mem_iff_getElem?.2 ⟨k, ht⟩)
        have hst : Hid (wsum (l.take (k + 1)) = (U * t.f1 + V * t.f0, V * t.f1)) := Lib.hid (by rw [wsum_step ht, hUV.out]; rfl)
        obtain ⟨g, o, rfl, c0, c1, c2⟩ := (h.upd hu).tk ht
        have q0 : 0 ≤ t.f1 := by omega
        have q1 : t.f1 ≤ 4194304 := by omega
        have p0 : 0 ≤ t.f0 := by omega
        have p1 : t.f0 ≤ 4194304 := by omega
        clear g1 g2 g3 g4 ht
        obtain ⟨W, hW⟩ : ∃ W, W = wr.alloc (.cells #[.int .i64 t.f0, .int .i64 t.f1, .int .i64 t.f2] 31) := ⟨_, rfl⟩
        have hbx : Row W wr.heap.size 31 [.int .i64 t.f0, .int .i64 t.f1, .int .i64 t.f2] := by rw [hW]; exact Row.newAt _ _ _ _ rfl
        have huW : Upd No wr W := by rw [hW]; exact (by repeat (first | with_reducible assumption | exact Upd.refl _ _ | (refine Upd.setNew ?_ (by first | (simp; done) | (simp; omega)) _) | (refine Upd.alloc ?_ _) | (refine Upd.drewN ?_ _) | (refine Upd.drew ?_) | (refine Upd.trans ?_ (by with_reducible assumption))))
        have hr3 := hr3.updNo huW
        have hr4 := hr4.updNo huW
        have hu := hu.trans huW
        clear huW
        have HW := Lib.hid hW
        clear hW
        go_upto_region 7 with fail
        rw [← HW.out]
        obtain ⟨z0, z1, z2, z3⟩ := wideRow hr3
        obtain ⟨v0, v1, v2, v3⟩ := wideRow hr4
        have s0 := hbx.cell (i := 0) rfl
        have s1 := hbx.cell (i := 1) rfl
        go_cut [] (fun wx => ∃ w9, Upd No W w9 ∧ wx = (((w9.setCell ⟨b3, 0, none⟩ (.int .u64 (lb0 (U * t.f1 + V * t.f0)))).setCell ⟨b3, 1, none⟩ (.int .u64 (lb1 (U * t.f1 + V * t.f0)))).setCell ⟨b3, 2, none⟩ (.int .u64 (lb2 (U * t.f1 + V * t.f0)))).setCell ⟨b3, 3, none⟩ (.int .u64 (lb3 (U * t.f1 + V * t.f0))))
        case first =>
          refine start_ (n := 10) (S := fun w' => Upd No W w' ∧ w'.cell? ⟨b3, 0, none⟩ = some (.int .u64 (lb0 U)) ∧ w'.cell? ⟨b3, 1, none⟩ = some (.int .u64 (lb1 U)) ∧ w'.cell? ⟨b3, 2, none⟩ = some (.int .u64 (lb2 U)) ∧ w'.cell? ⟨b3, 3, none⟩ = some (.int .u64 (lb3 U)) ∧ w'.cell? ⟨b4, 0, none⟩ = some (.int .u64 (lb0 V)) ∧ w'.cell? ⟨b4, 1, none⟩ = some (.int .u64 (lb1 V)) ∧ w'.cell? ⟨b4, 2, none⟩ = some (.int .u64 (lb2 V)) ∧ w'.cell? ⟨b4, 3, none⟩ = some (.int .u64 (lb3 V)) ∧ w'.cell? ⟨wr.heap.size, 0, none⟩ = some (.int .i64 t.f0) ∧ w'.cell? ⟨wr.heap.size, 1, none⟩ = some (.int .i64 t.f1)) (ds := [9]) #[false, false, false, false, false, false, false, false, false, false] (by kernel_rfl) rfl rfl ?hS0 (fun hHeld => ?_)
          case hS0 => exact ⟨(Upd.refl _ _).drew, z0, z1, z2, z3, v0, v1, v2, v3, s0, s1⟩
          refine pure_ (i := 1) (N := (some 19)) (v := ?_) (a' := ?_) #[false, true, false, false, false, false, false, false, false, false] rfl rfl (by kernel_rfl) (fun _ _ _ h => h) (Or.inl ⟨by rfl, ?_⟩) ?_ ?_
          rotate_left
          · intro w'
            go_simp
            with_reducible rfl
          rotate_left
          · simp only [Act.put, List.setIfInBounds_toArray, List.set_cons_zero, List.set_cons_succ]
            rfl
          refine pure_ (i := 5) (N := (some 23)) (v := ?_) (a' := ?_) #[false, true, false, false, false, true, false, false, false, false] rfl rfl (by kernel_rfl) (fun _ _ _ h => h) (Or.inl ⟨by rfl, ?_⟩) ?_ ?_
          rotate_left
          · intro w'
            go_simp
            with_reducible rfl
          rotate_left
          · simp only [Act.put, List.setIfInBounds_toArray, List.set_cons_zero, List.set_cons_succ]
            rfl
          refine take_ (i := 0) (N := (some 18)) (v := ?_) (a' := ?_) #[true, true, false, false, false, true, false, false, false, false] rfl rfl (by kernel_rfl) (fun _ _ _ h => h) (Or.inl ⟨by rfl, ?_⟩) hHeld ?_ ?_
          rotate_left
          · rintro w' ⟨-, s1, s2, s3, s4, s5, s6, s7, s8, s9, s10⟩
            go_simp
            with_reducible rfl
          rotate_left
          · simp only [Act.put, List.setIfInBounds_toArray, List.set_cons_zero, List.set_cons_succ]
            rfl
          refine take_ (i := 2) (N := (some 20)) (v := ?_) (a' := ?_) #[true, true, true, false, false, true, false, false, false, false] rfl rfl (by kernel_rfl) (fun _ _ _ h => h) (Or.inl ⟨by rfl, ?_⟩) hHeld ?_ ?_
          rotate_left
          · rintro w' ⟨-, s1, s2, s3, s4, s5, s6, s7, s8, s9, s10⟩
            go_simp
            with_reducible rfl
          rotate_left
          · simp only [Act.put, List.setIfInBounds_toArray, List.set_cons_zero, List.set_cons_succ]
            rfl
          refine take_ (i := 4) (N := (some 22)) (v := ?_) (a' := ?_) #[true, true, true, false, true, true, false, false, false, false] rfl rfl (by kernel_rfl) (fun _ _ _ h => h) (Or.inl ⟨by rfl, ?_⟩) hHeld ?_ ?_
          rotate_left
          · rintro w' ⟨-, s1, s2, s3, s4, s5, s6, s7, s8, s9, s10⟩
            go_simp
            with_reducible rfl
          rotate_left
          · simp only [Act.put, List.setIfInBounds_toArray, List.set_cons_zero, List.set_cons_succ]
            rfl
          refine take_ (i := 6) (N := (some 24)) (v := ?_) (a' := ?_) #[true, true, true, false, true, true, true, false, false, false] rfl rfl (by kernel_rfl) (fun _ _ _ h => h) (Or.inl ⟨by rfl, ?_⟩) hHeld ?_ ?_
          rotate_left
          · rintro w' ⟨-, s1, s2, s3, s4, s5, s6, s7, s8, s9, s10⟩
            go_simp
            with_reducible rfl
          rotate_left
          · simp only [Act.put, List.setIfInBounds_toArray, List.set_cons_zero, List.set_cons_succ]
            rfl
          refine one_ (i := 3) (N := (some 21)) #[true, true, true, true, true, true, true, false, false, false] rfl rfl (by kernel_rfl) (by decide) (fun K hK => ?_)
          go_simp
          refine (timesW U t.f1 q0 q1 _).mono ?_
          rintro e w2 ⟨rfl, hu2⟩
          try go_wp2_with fail
          refine hK.out _ _ ?_ (fun hHeld => ?_)
          · obtain ⟨h0, h1, h2, h3, h4, h5, h6, h7, h8, h9, h10⟩ := hHeld
            exact ⟨h0.trans hu2, hu2.at_ h1, hu2.at_ h2, hu2.at_ h3, hu2.at_ h4, hu2.at_ h5, hu2.at_ h6, hu2.at_ h7, hu2.at_ h8, hu2.at_ h9, hu2.at_ h10⟩
          clear hK K
          try simp only [Act.put, List.setIfInBounds_toArray, List.set_cons_zero, List.set_cons_succ]
          refine one_ (i := 7) (N := (some 25)) #[true, true, true, true, true, true, true, true, false, false] rfl rfl (by kernel_rfl) (by decide) (fun K hK => ?_)
          go_simp
          refine (timesW V t.f0 p0 p1 _).mono ?_
          rintro e w2 ⟨rfl, hu2⟩
          try go_wp2_with fail
          refine hK.out _ _ ?_ (fun hHeld => ?_)
          · obtain ⟨h0, h1, h2, h3, h4, h5, h6, h7, h8, h9, h10⟩ := hHeld
            exact ⟨h0.trans hu2, hu2.at_ h1, hu2.at_ h2, hu2.at_ h3, hu2.at_ h4, hu2.at_ h5, hu2.at_ h6, hu2.at_ h7, hu2.at_ h8, hu2.at_ h9, hu2.at_ h10⟩
          clear hK K
          try simp only [Act.put, List.setIfInBounds_toArray, List.set_cons_zero, List.set_cons_succ]
          refine one_ (i := 8) (N := (some 26)) #[true, true, true, true, true, true, true, true, true, false] rfl rfl (by kernel_rfl) (by decide) (fun K hK => ?_)
          go_simp
          refine (plusW (U * t.f1) (V * t.f0) _).mono ?_
          rintro e w2 ⟨rfl, hu2⟩
          try go_wp2_with fail
          refine hK.out _ _ ?_ (fun hHeld => ?_)
          · obtain ⟨h0, h1, h2, h3, h4, h5, h6, h7, h8, h9, h10⟩ := hHeld
            exact ⟨h0.trans hu2, hu2.at_ h1, hu2.at_ h2, hu2.at_ h3, hu2.at_ h4, hu2.at_ h5, hu2.at_ h6, hu2.at_ h7, hu2.at_ h8, hu2.at_ h9, hu2.at_ h10⟩
          clear hK K
          try simp only [Act.put, List.setIfInBounds_toArray, List.set_cons_zero, List.set_cons_succ]
          refine last_ (i := 9) (N := none) #[true, true, true, true, true, true, true, true, true, true] rfl rfl (by kernel_rfl) (by decide) (fun K hK => ?_)
          have hrow9 := hr3.updNo hHeld.1
          have y0 := hrow9.cell (i := 0) rfl
          have y1 := hrow9.cell (i := 1) rfl
          have y2 := hrow9.cell (i := 2) rfl
          have y3 := hrow9.cell (i := 3) rfl
          have yf := hrow9.frozen
          have hS9 := hHeld.1
          go_simp
          refine hK.out _ _ ?_
          clear hK K
          try simp only [Act.put, List.setIfInBounds_toArray, List.set_cons_zero, List.set_cons_succ]
          refine done_ (by kernel_rfl) ?_
          go_wp2_with fail
          go_meet
          exact ⟨_, hS9, rfl⟩
        case rest =>
          obtain ⟨w9, hu9, rfl⟩ := hcut
          clear z0 z1 z2 z3 v0 v1 v2 v3 s0 s1 c0 c1 c2
          obtain ⟨n1, n2, n3⟩ := wideStore (y := (U * t.f1 + V * t.f0)) (hu.trans hu9) h30 (hr3.updNo hu9) hne (hr4.updNo hu9)
          obtain ⟨_, _, n4⟩ := wideStore (y := (U * t.f1 + V * t.f0)) (hu.trans hu9) h30 (hr3.updNo hu9) ((hbx.updNo hu9).ne (hr3.updNo hu9) (by decide)) (hbx.updNo hu9)
          generalize (((w9.setCell ⟨b3, 0, none⟩ (.int .u64 (lb0 (U * t.f1 + V * t.f0)))).setCell ⟨b3, 1, none⟩ (.int .u64 (lb1 (U * t.f1 + V * t.f0)))).setCell ⟨b3, 2, none⟩ (.int .u64 (lb2 (U * t.f1 + V * t.f0)))).setCell ⟨b3, 3, none⟩ (.int .u64 (lb3 (U * t.f1 + V * t.f0))) = wc at *
          obtain ⟨v0, v1, v2, v3⟩ := wideRow n3
          have s1 := n4.cell (i := 1) rfl
          go_wp2_with (go_at_call 22; refine (timesW V t.f1 q0 q1 _).mono ?_; rintro e w5 ⟨rfl, hu5⟩
                       have hr5 := n3.updNo hu5
                       clear v0 v1 v2 v3
                       obtain ⟨v0, v1, v2, v3⟩ := wideRow hr5
                       have vf := hr5.frozen)
          obtain ⟨m1, m2, m3⟩ := wideStore (y := V * t.f1) (n1.trans hu5) h40 hr5 (Ne.symm hne) (n2.updNo hu5)
          go_roundw
          case rel => exact ⟨k + 1, _, _, by omega, by go_num, hst, m1, m3, m2⟩
          case measure => simp [intOf]; omega
      · have e : k = n := by omega
        subst e
        have eT : l.take l.length = l := List.take_of_length_le (Nat.le_refl _)
        have hUV2 := hUV.out
        rw [← HN.out, eT] at hUV2
        have hrng := wsum_rng HG.out l.length (Nat.le_refl _)
        rw [eT, hUV2] at hrng
        have ha : Hid (wholeB l = !decide (V < U)) := Lib.hid (by
          unfold wholeB; rw [HI.out, hUV2, Bool.true_and, ← decide_not]
          apply decide_eq_decide.2; show U ≤ V ↔ _; omega)
        obtain ⟨x1, x2, x3, x4⟩ := hrng
        have hM := M20_mono (show l.length ≤ 8 by rw [HN.out]; exact hl8)
        rw [M20_8] at hM
        have hV : V < B256 := by unfold B256; simp only at x2; omega
        have hU : U < B256 := by
          have : (l.length : Int) * V ≤ 8 * V := Int.mul_le_mul_of_nonneg_right (by rw [HN.out]; omega) (by simp only at x1; omega)
          unfold B256; simp only at x2 x4; omega
        have hU0 : 0 ≤ U := x3
        have hV0 : 0 ≤ V := by simp only at x1; omega
        have HAB := Lib.hid (fun w => aboveN hU0 hU hV0 hV w)
        clear x1 x2 x3 x4 hM hV hU hU0 hV0 hUV2 eT hUV
        obtain ⟨z0, z1, z2, z3⟩ := wideRow hr3
        obtain ⟨v0, v1, v2, v3⟩ := wideRow hr4
        go_wp2_with (go_at_call 24; refine (HAB.out _).mono ?_; rintro e w5 ⟨rfl, hu5⟩)
        go_ret
        exact ⟨ret_bool (by rw [ha.out]), hu.trans hu5⟩

end Go.Proofs.Ytabboklejodbaaa
