/- The references' Has, Mask, Ack, Raise of layer 10, and the law's is. -/
import Derived.Test.YtfehbkhmcngnpaaRef10
namespace Go.Proofs.Ytfehbkhmcngnpaa
open Go.RowKit

/-- A slice value that reads as lines. -/
def LSl (w : World) (v : Value) (L : List Ln) : Prop := ∃ A c, v = .slice A L.length c ∧ RdT w 48 A (L.flatMap Ln.cells)
def RefDid (w : World) (r : List Ln × Int) (e : Ending) (w' : World) : Prop := ∃ v', e = .returned (.tuple #[v', .int .i64 r.2]) ∧ LSl w' v' r.1 ∧ Upd No w w'

theorem LSl.updNo {w w' : World} {v : Value} {L : List Ln} (h : LSl w v L) (hu : Upd No w w') : LSl w' v L := by
  obtain ⟨A, c, e, hr⟩ := h
  exact ⟨A, c, e, hr.updNo hu⟩

theorem RdT.line {w : World} {A : Option Addr} {L : List Ln} (h : RdT w 48 A (L.flatMap Ln.cells)) {k : Nat} {x : Ln} (hx : L[k]? = some x) :
    ∃ g o, A = some ⟨g, o, none⟩ ∧ w.cell? ⟨g, o + k * 4, none⟩ = some (.bool x.r) ∧ w.cell? ⟨g, o + k * 4 + 1, none⟩ = some (.bool x.m) ∧ w.cell? ⟨g, o + k * 4 + 2, none⟩ = some (.bool x.s) ∧ w.cell? ⟨g, o + k * 4 + 3, none⟩ = some (.int .i64 x.d) := by
  have hne : L.flatMap Ln.cells ≠ [] := by
    intro e
    have h1 := flat_get Ln.cells 4 (fun _ => rfl) L k x hx 0 (by omega)
    rw [e] at h1; simp [Ln.cells] at h1
  obtain ⟨g, o, e, hc⟩ := h.rd hne
  refine ⟨g, o, e, ?_, ?_, ?_, ?_⟩
  · exact hc (k * 4) _ (by have := flat_get Ln.cells 4 (fun _ => rfl) L k x hx 0 (by omega); simpa [Ln.cells] using this)
  · exact hc (k * 4 + 1) _ (by have := flat_get Ln.cells 4 (fun _ => rfl) L k x hx 1 (by omega); simpa [Ln.cells] using this)
  · exact hc (k * 4 + 2) _ (by have := flat_get Ln.cells 4 (fun _ => rfl) L k x hx 2 (by omega); simpa [Ln.cells] using this)
  · exact hc (k * 4 + 3) _ (by have := flat_get Ln.cells 4 (fun _ => rfl) L k x hx 3 (by omega); simpa [Ln.cells] using this)

theorem refHas (A : Option Addr) (n c : Nat) (i : Int) (w : World) (h8 : n ≤ 8) : Calls Try.prog 19 #[.slice A n c, .int .i64 i] w fun e w' => e = .returned (.bool (decide (0 ≤ i ∧ i < n))) ∧ w = w' := by
  by_cases h0 : 0 ≤ i
  all_goals
    go_enter Try.func19, Try.ntmps19
    go_wp2
    go_ret
    exact ⟨ret_bool (by simp [h0]; try omega), rfl⟩

theorem lawIs (x : Ln) (w : World) : Calls Try.prog 18 #[.agg #[.bool x.r, .bool x.m, .bool x.s, .int .i64 x.d], .agg #[.bool x.r, .bool x.m, .bool x.s, .int .i64 x.d]] w fun e w' => e = .returned (.bool true) ∧ Upd No w w' := by
  go_enter Try.func18, Try.ntmps18
  go_wp2
  go_ret
  exact ⟨rfl, (by repeat (first | with_reducible assumption | exact Upd.refl _ _ | (refine Upd.alloc ?_ _) | (refine Upd.drewN ?_ _) | (refine Upd.drew ?_) | (refine Upd.trans ?_ (by with_reducible assumption))))⟩

theorem refMask (A : Option Addr) (n c : Nat) (L : List Ln) (i : Int) (m : Bool) (w : World) (hn : n = L.length) (h8 : n ≤ 8) (H : RdT w 48 A (L.flatMap Ln.cells)) :
    Calls Try.prog 14 #[.slice A n c, .int .i64 i, .bool m] w (RefDid w (maskL L i m)) := by
  have HN := Lib.hid hn; clear hn
  by_cases hi : 0 ≤ i ∧ i < n
  · obtain ⟨h0, h1⟩ := hi
    obtain ⟨x, hx⟩ : ∃ x, L[i.toNat]? = some x := ⟨L[i.toNat]'(by rw [← HN.out]; omega), List.getElem?_eq_getElem _⟩
    obtain ⟨g, o, rfl, c0, c1, c2, c3⟩ := H.line hx
    have e : maskL L i m = (L.set i.toNat { x with m := m }, 0) := by simp [maskL, h0, hx]
    have hd : decide (0 ≤ i ∧ i < (n : Int)) = true := by simp [h0, h1]
    have HE := Lib.hid e
    clear e hx
    go_enter Try.func14, Try.ntmps14
    go_wp2_with (first | (go_at_call 19; refine (refHas _ n c i _ h8).mono ?_; rw [hd]; rintro e w1 ⟨rfl, rfl⟩) | (go_at_call 21; refine (refWith _ n c L i { x with m := m } _ HN.out h8 (H.updNo (by repeat (first | with_reducible assumption | exact Upd.refl _ _ | (refine Upd.alloc ?_ _) | (refine Upd.drewN ?_ _) | (refine Upd.drew ?_) | (refine Upd.trans ?_ (by with_reducible assumption))))) h0 h1).mono ?_; rintro e w1 ⟨A', c', rfl, hr, hu1⟩))
    go_ret2
    rw [HE.out]
    exact ⟨_, rfl, ⟨A', c', by rw [HN.out]; simp, hr⟩, (by repeat (first | with_reducible assumption | exact Upd.refl _ _ | (refine Upd.alloc ?_ _) | (refine Upd.drewN ?_ _) | (refine Upd.drew ?_) | (refine Upd.trans ?_ (by with_reducible assumption))))⟩
  · have hd : decide (0 ≤ i ∧ i < (n : Int)) = false := by simpa using hi
    have HI := Lib.hid hi
    clear hi
    go_enter Try.func14, Try.ntmps14
    go_wp2_with (first | (go_at_call 19; refine (refHas _ n c i _ h8).mono ?_; rw [hd]; rintro e w1 ⟨rfl, rfl⟩))
    go_ret2
    rw [maskL_out (by rw [← HN.out]; exact HI.out)]
    exact ⟨_, rfl, ⟨A, c, by rw [HN.out]; rfl, H⟩, Upd.refl _ _⟩

theorem refAck (A : Option Addr) (n c : Nat) (L : List Ln) (i : Int) (w : World) (hn : n = L.length) (h8 : n ≤ 8) (H : RdT w 48 A (L.flatMap Ln.cells)) :
    Calls Try.prog 16 #[.slice A n c, .int .i64 i] w (RefDid w (ackL L i)) := by
  have HN := Lib.hid hn; clear hn
  by_cases hi : 0 ≤ i ∧ i < n
  · obtain ⟨h0, h1⟩ := hi
    obtain ⟨x, hx⟩ : ∃ x, L[i.toNat]? = some x := ⟨L[i.toNat]'(by rw [← HN.out]; omega), List.getElem?_eq_getElem _⟩
    obtain ⟨g, o, rfl, c0, c1, c2, c3⟩ := H.line hx
    have hd : decide (0 ≤ i ∧ i < (n : Int)) = true := by simp [h0, h1]
    cases hs : x.s
    · have e : ackL L i = (L, 25) := by simp [ackL, h0, hx, hs]
      rw [hs] at c2
      have HE := Lib.hid e
      clear e hx hs
      go_enter Try.func16, Try.ntmps16
      go_wp2_with (first | (go_at_call 19; refine (refHas _ n c i _ h8).mono ?_; rw [hd]; rintro e w1 ⟨rfl, rfl⟩))
      go_ret2
      rw [HE.out]
      exact ⟨_, rfl, ⟨_, c, by rw [HN.out]; rfl, H.updNo (by repeat (first | with_reducible assumption | exact Upd.refl _ _ | (refine Upd.alloc ?_ _) | (refine Upd.drewN ?_ _) | (refine Upd.drew ?_) | (refine Upd.trans ?_ (by with_reducible assumption))))⟩, (by repeat (first | with_reducible assumption | exact Upd.refl _ _ | (refine Upd.alloc ?_ _) | (refine Upd.drewN ?_ _) | (refine Upd.drew ?_) | (refine Upd.trans ?_ (by with_reducible assumption))))⟩
    · have e : ackL L i = (L.set i.toNat { x with s := false }, 0) := by simp [ackL, h0, hx, hs]
      rw [hs] at c2
      have HE := Lib.hid e
      clear e hx hs
      go_enter Try.func16, Try.ntmps16
      go_wp2_with (first | (go_at_call 19; refine (refHas _ n c i _ h8).mono ?_; rw [hd]; rintro e w1 ⟨rfl, rfl⟩) | (go_at_call 21; refine (refWith _ n c L i { x with s := false } _ HN.out h8 (H.updNo (by repeat (first | with_reducible assumption | exact Upd.refl _ _ | (refine Upd.alloc ?_ _) | (refine Upd.drewN ?_ _) | (refine Upd.drew ?_) | (refine Upd.trans ?_ (by with_reducible assumption))))) h0 h1).mono ?_; rintro e w1 ⟨A', c', rfl, hr, hu1⟩))
      go_ret2
      rw [HE.out]
      exact ⟨_, rfl, ⟨A', c', by rw [HN.out]; simp, hr⟩, (by repeat (first | with_reducible assumption | exact Upd.refl _ _ | (refine Upd.alloc ?_ _) | (refine Upd.drewN ?_ _) | (refine Upd.drew ?_) | (refine Upd.trans ?_ (by with_reducible assumption))))⟩
  · have hd : decide (0 ≤ i ∧ i < (n : Int)) = false := by simpa using hi
    have HI := Lib.hid hi
    clear hi
    go_enter Try.func16, Try.ntmps16
    go_wp2_with (first | (go_at_call 19; refine (refHas _ n c i _ h8).mono ?_; rw [hd]; rintro e w1 ⟨rfl, rfl⟩))
    go_ret2
    rw [ackL_out (by rw [← HN.out]; exact HI.out)]
    exact ⟨_, rfl, ⟨A, c, by rw [HN.out]; rfl, H⟩, Upd.refl _ _⟩

theorem refRaise (A : Option Addr) (n c : Nat) (L : List Ln) (i : Int) (w : World) (hn : n = L.length) (h8 : n ≤ 8) (H : RdT w 48 A (L.flatMap Ln.cells)) :
    Calls Try.prog 17 #[.slice A n c, .int .i64 i] w (RefDid w (raiseL L i)) := by
  have HN := Lib.hid hn; clear hn
  by_cases hi : 0 ≤ i ∧ i < n
  · obtain ⟨h0, h1⟩ := hi
    obtain ⟨x, hx⟩ : ∃ x, L[i.toNat]? = some x := ⟨L[i.toNat]'(by rw [← HN.out]; omega), List.getElem?_eq_getElem _⟩
    obtain ⟨g, o, rfl, c0, c1, c2, c3⟩ := H.line hx
    have hd : decide (0 ≤ i ∧ i < (n : Int)) = true := by simp [h0, h1]
    cases hs : x.r
    · have e : raiseL L i = (L.set i.toNat { x with r := true }, 0) := by simp [raiseL, h0, hx, hs]
      rw [hs] at c0
      have HE := Lib.hid e
      clear e hx hs
      go_enter Try.func17, Try.ntmps17
      go_wp2_with (first | (go_at_call 19; refine (refHas _ n c i _ h8).mono ?_; rw [hd]; rintro e w1 ⟨rfl, rfl⟩) | (go_at_call 21; refine (refWith _ n c L i { x with r := true } _ HN.out h8 (H.updNo (by repeat (first | with_reducible assumption | exact Upd.refl _ _ | (refine Upd.alloc ?_ _) | (refine Upd.drewN ?_ _) | (refine Upd.drew ?_) | (refine Upd.trans ?_ (by with_reducible assumption))))) h0 h1).mono ?_; rintro e w1 ⟨A', c', rfl, hr, hu1⟩))
      go_ret2
      rw [HE.out]
      exact ⟨_, rfl, ⟨A', c', by rw [HN.out]; simp, hr⟩, (by repeat (first | with_reducible assumption | exact Upd.refl _ _ | (refine Upd.alloc ?_ _) | (refine Upd.drewN ?_ _) | (refine Upd.drew ?_) | (refine Upd.trans ?_ (by with_reducible assumption))))⟩
    · have e : raiseL L i = (L.set i.toNat ⟨true, x.m, x.s, wrap64 (x.d + 1)⟩, 7) := by simp [raiseL, h0, hx, hs]
      rw [hs] at c0
      have HE := Lib.hid e
      clear e hx hs
      go_enter Try.func17, Try.ntmps17
      go_wp2_with (first | (go_at_call 19; refine (refHas _ n c i _ h8).mono ?_; rw [hd]; rintro e w1 ⟨rfl, rfl⟩) | (go_at_call 21; refine (refWith _ n c L i ⟨true, x.m, x.s, wrap64 (x.d + 1)⟩ _ HN.out h8 (H.updNo (by repeat (first | with_reducible assumption | exact Upd.refl _ _ | (refine Upd.alloc ?_ _) | (refine Upd.drewN ?_ _) | (refine Upd.drew ?_) | (refine Upd.trans ?_ (by with_reducible assumption))))) h0 h1).mono ?_; rintro e w1 ⟨A', c', rfl, hr, hu1⟩))
      go_ret2
      rw [HE.out]
      exact ⟨_, rfl, ⟨A', c', by rw [HN.out]; simp, hr⟩, (by repeat (first | with_reducible assumption | exact Upd.refl _ _ | (refine Upd.alloc ?_ _) | (refine Upd.drewN ?_ _) | (refine Upd.drew ?_) | (refine Upd.trans ?_ (by with_reducible assumption))))⟩
  · have hd : decide (0 ≤ i ∧ i < (n : Int)) = false := by simpa using hi
    have HI := Lib.hid hi
    clear hi
    go_enter Try.func17, Try.ntmps17
    go_wp2_with (first | (go_at_call 19; refine (refHas _ n c i _ h8).mono ?_; rw [hd]; rintro e w1 ⟨rfl, rfl⟩))
    go_ret2
    rw [raiseL_out (by rw [← HN.out]; exact HI.out)]
    exact ⟨_, rfl, ⟨A, c, by rw [HN.out]; rfl, H⟩, Upd.refl _ _⟩

def RefNext (w : World) (r : List Ln × Option Nat) (e : Ending) (w' : World) : Prop :=
  ∃ v', (match r.2 with | none => e = .returned (.tuple #[v', .int .i64 (-1)]) | some k => e = .returned (.tuple #[v', .int .i64 k])) ∧ LSl w' v' r.1 ∧ Upd No w w'

theorem refNext (A : Option Addr) (n c : Nat) (L : List Ln) (w : World) (hn : n = L.length) (h8 : n ≤ 8) (H : RdT w 48 A (L.flatMap Ln.cells)) :
    Calls Try.prog 15 #[.slice A n c] w (RefNext w (nextL L)) := by
  have HN := Lib.hid hn; clear hn
  go_enter Try.func15, Try.ntmps15
  go_wp2
  go_loopw [4] (fun i wr => ∃ k : Nat, k ≤ n ∧ i = .int .i64 k ∧ Upd No w wr ∧ Hid (∀ (j : Nat) (y : Ln), j < k → L[j]? = some y → y.up = false)) (fun i _ => n - (intOf i).toNat)
  case atStart => exact ⟨0, Nat.zero_le _, rfl, Upd.refl _ _, Lib.hid (fun j y hj => absurd hj (by omega))⟩
  case round =>
    obtain ⟨k, hk, rfl, hu, hlow⟩ := hrel
    by_cases hlt : k < n
    · obtain ⟨x, hx⟩ : ∃ x, L[k]? = some x := ⟨L[k]'(by rw [← HN.out]; exact hlt), List.getElem?_eq_getElem _⟩
      obtain ⟨g, o, rfl, c0, c1, c2, c3⟩ := (H.updNo hu).line hx
      have HX := Lib.hid hx
      clear hx
      have hstep : x.up = false → ∀ (j : Nat) (y : Ln), j < k + 1 → L[j]? = some y → y.up = false := fun hxu j y hj hy => by
        by_cases e : j = k
        · subst e; rw [HX.out] at hy; cases hy; exact hxu
        · exact hlow.out j y (by omega) hy
      have HS := Lib.hid hstep
      clear hstep
      cases hr : x.r <;> cases hmm : x.m <;> cases hs : x.s
      all_goals
        rw [hr] at c0
        rw [hmm] at c1
        rw [hs] at c2
        have HU := Lib.hid (show x.up = (x.r && !x.m && !x.s) from rfl)
        have HR := Lib.hid hr
        have HM := Lib.hid hmm
        have HSS := Lib.hid hs
        clear hr hmm hs
        go_wp2_with (go_at_call 21; refine (refWith _ n c L k ⟨false, false, true, x.d⟩ _ HN.out h8 (H.updNo (by repeat (first | with_reducible assumption | exact Upd.refl _ _ | (refine Upd.alloc ?_ _) | (refine Upd.drewN ?_ _) | (refine Upd.drew ?_) | (refine Upd.trans ?_ (by with_reducible assumption))))) (by omega) (by omega)).mono ?_; rintro e w1 ⟨A', c', rfl, hrd, hu1⟩)
        first
        | (go_roundw
           case rel => exact ⟨k + 1, by omega, by go_num, (by repeat (first | with_reducible assumption | exact Upd.refl _ _ | (refine Upd.alloc ?_ _) | (refine Upd.drewN ?_ _) | (refine Upd.drew ?_) | (refine Upd.trans ?_ (by with_reducible assumption)))), Lib.hid (HS.out (by rw [HU.out, HR.out, HM.out, HSS.out]; rfl))⟩
           case measure => simp [intOf]; omega)
        | (go_ret2
           rw [nextL_some HX.out (by rw [HU.out, HR.out, HM.out, HSS.out]; rfl) hlow.out]
           refine ⟨_, rfl, ⟨A', c', by rw [HN.out]; simp, ?_⟩, (by repeat (first | with_reducible assumption | exact Upd.refl _ _ | (refine Upd.alloc ?_ _) | (refine Upd.drewN ?_ _) | (refine Upd.drew ?_) | (refine Upd.trans ?_ (by with_reducible assumption))))⟩
           rw [show ({ x with r := false, s := true } : Ln) = ⟨false, false, true, x.d⟩ by rw [HM.out]]
           simpa using hrd)
    · go_wp2
      go_ret2
      rw [nextL_none (fun j y hy => hlow.out j y (by have := (List.getElem?_eq_some_iff.1 hy).1; rw [← HN.out] at this; omega) hy)]
      exact ⟨_, rfl, ⟨A, c, by rw [HN.out]; rfl, H.updNo hu⟩, hu⟩

theorem refNew (n : Nat) (w : World) (h8 : n ≤ 8) :
    Calls Try.prog 13 #[.int .i64 n] w fun e w' => ∃ v', e = .returned v' ∧ LSl w' v' (List.replicate n ⟨false, true, false, 0⟩) ∧ Upd No w w' := by
  go_enter Try.func13, Try.ntmps13
  go_wp2
  go_loopw [3, 4] (fun s i wr => ∃ k : Nat, k ≤ n ∧ i = .int .i64 k ∧ Upd No w wr ∧ wr.ownsRow w.heap.size 48 4 s k ((List.replicate k ⟨false, true, false, 0⟩).flatMap Ln.cells)) (fun _ i _ => n - (intOf i).toNat)
  case atStart => exact ⟨0, Nat.zero_le _, rfl, Upd.refl _ _, World.ownsRow_nil _ _ _ _⟩
  case round =>
    obtain ⟨k, hk, rfl, hu, hown⟩ := hrel
    by_cases hlt : k < n
    · go_wp2_with (at_builtin; refine wpList_app rfl (.tmp 10) (.tmp 12) elem_line rfl rfl (own_updNo hown (by repeat (first | with_reducible assumption | exact Upd.refl _ _ | (refine Upd.alloc ?_ _) | (refine Upd.drewN ?_ _) | (refine Upd.drew ?_) | (refine Upd.trans ?_ (by with_reducible assumption))))) rfl (ys := [⟨false, true, false, 0⟩].flatMap Ln.cells) (m := 1) rfl ?h5 (Ln.one _) ?h6 ?h7 ?h8 ?_)
      case h5 => exact fun _ => ⟨wr.heap.size, 0, rfl, fun j u hj => by rw [Nat.zero_add]; exact (Row.new wr _ _).cell hj⟩
      case h6 => omega
      case h7 => omega
      case h8 => have := hu.size; simp; omega
      intro v1 w1 hown1 hgr
      have hnew : Upd No w w1 := by
        have h9 : Upd No w (wr.alloc (.cells #[.bool false, .bool true, .bool false, .int .i64 0] 48)) := (by repeat (first | with_reducible assumption | exact Upd.refl _ _ | (refine Upd.alloc ?_ _) | (refine Upd.drewN ?_ _) | (refine Upd.drew ?_) | (refine Upd.trans ?_ (by with_reducible assumption))))
        exact h9.grown hgr (fun kk hk2 hlt2 => by have := (hown.lt kk hk2).1; omega)
      clear hgr hown
      go_wp2
      go_roundw
      case rel => exact ⟨k + 1, by omega, by go_num, hnew, own_same hown1 (by rw [List.replicate_succ', List.flatMap_append]; rfl) rfl⟩
      case measure => simp [intOf]; omega
    · go_wp2
      go_ret
      have e : k = n := by omega
      subst e
      obtain ⟨A, c, hv, _, _, hr⟩ := own_read hown
      exact ⟨_, rfl, ⟨A, c, by simpa using hv, hr⟩, hu⟩

end Go.Proofs.Ytfehbkhmcngnpaa
