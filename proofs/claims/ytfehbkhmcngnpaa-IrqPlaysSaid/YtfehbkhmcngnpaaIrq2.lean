/- Raise, Mask, Ack, Of, Len of package irq. -/
import Derived.Test.YtfehbkhmcngnpaaIrq
namespace Go.Proofs.Ytfehbkhmcngnpaa
open Go.RowKit

def Did (w : World) (b g : Nat) (r : List Ln × Int) (e : Ending) (w' : World) : Prop := e = .returned (.int .i64 r.2) ∧ Ctl w' b g r.1 ∧ Upd (at1 g) w w'

theorem raiseL_out {l : List Ln} {i : Int} (hi : ¬ (0 ≤ i ∧ i < l.length)) : raiseL l i = (l, 1) := by
  unfold raiseL
  by_cases h : 0 ≤ i
  · rw [if_pos h, List.getElem?_eq_none (by omega)]
  · rw [if_neg h]
theorem maskL_out {l : List Ln} {i : Int} {m : Bool} (hi : ¬ (0 ≤ i ∧ i < l.length)) : maskL l i m = (l, 1) := by
  unfold maskL
  by_cases h : 0 ≤ i
  · rw [if_pos h, List.getElem?_eq_none (by omega)]
  · rw [if_neg h]
theorem ackL_out {l : List Ln} {i : Int} (hi : ¬ (0 ≤ i ∧ i < l.length)) : ackL l i = (l, 1) := by
  unfold ackL
  by_cases h : 0 ≤ i
  · rw [if_pos h, List.getElem?_eq_none (by omega)]
  · rw [if_neg h]

/-- A line's cells, in the walk's own spelling. -/
theorem Ctl.line {w : World} {b g : Nat} {l : List Ln} (h : Ctl w b g l) {i : Nat} {x : Ln} (hx : l[i]? = some x) :
    w.cell? ⟨g, i * 4, none⟩ = some (.bool x.r) ∧ w.cell? ⟨g, i * 4 + 1, none⟩ = some (.bool x.m) ∧ w.cell? ⟨g, i * 4 + 2, none⟩ = some (.bool x.s) ∧ w.cell? ⟨g, i * 4 + 3, none⟩ = some (.int .i64 x.d) ∧ ∀ j, w.frozen? ⟨g, j, none⟩ = false :=
  ⟨h.rows.cell (by have := flat_get Ln.cells 4 (fun _ => rfl) l i x hx 0 (by omega); simpa [Ln.cells] using this),
   h.rows.cell (by have := flat_get Ln.cells 4 (fun _ => rfl) l i x hx 1 (by omega); simpa [Ln.cells] using this),
   h.rows.cell (by have := flat_get Ln.cells 4 (fun _ => rfl) l i x hx 2 (by omega); simpa [Ln.cells] using this),
   h.rows.cell (by have := flat_get Ln.cells 4 (fun _ => rfl) l i x hx 3 (by omega); simpa [Ln.cells] using this),
   fun j => h.rows.frozen j⟩

theorem irqRaise (b g : Nat) (l : List Ln) (i : Int) (w : World) (h : Ctl w b g l) :
    Calls Try.prog 10 #[.pointer (some ⟨b, 0, none⟩), .int .i64 i] w (Did w b g (raiseL l i)) := by
  by_cases hi : 0 ≤ i ∧ i < l.length
  · obtain ⟨h0, h1⟩ := hi
    obtain ⟨x, hx⟩ : ∃ x, l[i.toNat]? = some x := ⟨l[i.toNat]'(by omega), List.getElem?_eq_getElem _⟩
    obtain ⟨c0, c1, c2, c3, hf⟩ := h.line hx
    have HX := Lib.hid hx
    clear hx
    cases hr : x.r
    · have HR := Lib.hid hr
      rw [hr] at c0
      clear hr
      go_enter Try.func10, Try.ntmps10
      go_wp2_with (go_at_call 20; refine (irqLine b g l i _ h h0 h1).mono ?_; rintro e w1 ⟨rfl, rfl⟩)
      go_ret
      have e : raiseL l i = (l.set i.toNat { x with r := true }, 0) := by simp [raiseL, h0, HX.out, HR.out]
      rw [e]
      exact ⟨rfl, h.set (j := 0) HX.out (by omega) (by simp [Ln.cells]), (Upd.refl _ _).set1 _ _⟩
    · have HR := Lib.hid hr
      rw [hr] at c0
      clear hr
      go_enter Try.func10, Try.ntmps10
      go_wp2_with (go_at_call 20; refine (irqLine b g l i _ h h0 h1).mono ?_; rintro e w1 ⟨rfl, rfl⟩)
      go_ret
      have e : raiseL l i = (l.set i.toNat { x with d := wrap64 (x.d + 1) }, 7) := by simp [raiseL, h0, HX.out, HR.out]
      rw [e]
      exact ⟨rfl, h.set (j := 3) HX.out (by omega) (by simp [Ln.cells]), (Upd.refl _ _).set1 _ _⟩
  · have HI := Lib.hid hi
    clear hi
    go_enter Try.func10, Try.ntmps10
    go_wp2_with (go_at_call 20; refine (irqLine0 b g l i _ h HI.out).mono ?_; rintro e w1 ⟨rfl, rfl⟩)
    go_ret
    rw [raiseL_out HI.out]
    exact ⟨rfl, h, Upd.refl _ _⟩

theorem irqMask (b g : Nat) (l : List Ln) (i : Int) (m : Bool) (w : World) (h : Ctl w b g l) :
    Calls Try.prog 7 #[.pointer (some ⟨b, 0, none⟩), .int .i64 i, .bool m] w (Did w b g (maskL l i m)) := by
  by_cases hi : 0 ≤ i ∧ i < l.length
  · obtain ⟨h0, h1⟩ := hi
    obtain ⟨x, hx⟩ : ∃ x, l[i.toNat]? = some x := ⟨l[i.toNat]'(by omega), List.getElem?_eq_getElem _⟩
    obtain ⟨c0, c1, c2, c3, hf⟩ := h.line hx
    have HX := Lib.hid hx
    clear hx
    go_enter Try.func7, Try.ntmps7
    go_wp2_with (go_at_call 20; refine (irqLine b g l i _ h h0 h1).mono ?_; rintro e w1 ⟨rfl, rfl⟩)
    go_ret
    have e : maskL l i m = (l.set i.toNat { x with m := m }, 0) := by simp [maskL, h0, HX.out]
    rw [e]
    exact ⟨rfl, h.set (j := 1) HX.out (by omega) (by simp [Ln.cells]), (Upd.refl _ _).set1 _ _⟩
  · have HI := Lib.hid hi
    clear hi
    go_enter Try.func7, Try.ntmps7
    go_wp2_with (go_at_call 20; refine (irqLine0 b g l i _ h HI.out).mono ?_; rintro e w1 ⟨rfl, rfl⟩)
    go_ret
    rw [maskL_out HI.out]
    exact ⟨rfl, h, Upd.refl _ _⟩

theorem irqAck (b g : Nat) (l : List Ln) (i : Int) (w : World) (h : Ctl w b g l) :
    Calls Try.prog 9 #[.pointer (some ⟨b, 0, none⟩), .int .i64 i] w (Did w b g (ackL l i)) := by
  by_cases hi : 0 ≤ i ∧ i < l.length
  · obtain ⟨h0, h1⟩ := hi
    obtain ⟨x, hx⟩ : ∃ x, l[i.toNat]? = some x := ⟨l[i.toNat]'(by omega), List.getElem?_eq_getElem _⟩
    obtain ⟨c0, c1, c2, c3, hf⟩ := h.line hx
    have HX := Lib.hid hx
    clear hx
    cases hr : x.s
    · have HR := Lib.hid hr
      rw [hr] at c2
      clear hr
      go_enter Try.func9, Try.ntmps9
      go_wp2_with (go_at_call 20; refine (irqLine b g l i _ h h0 h1).mono ?_; rintro e w1 ⟨rfl, rfl⟩)
      go_ret
      have e : ackL l i = (l, 25) := by simp [ackL, h0, HX.out, HR.out]
      rw [e]
      exact ⟨rfl, h, Upd.refl _ _⟩
    · have HR := Lib.hid hr
      rw [hr] at c2
      clear hr
      go_enter Try.func9, Try.ntmps9
      go_wp2_with (go_at_call 20; refine (irqLine b g l i _ h h0 h1).mono ?_; rintro e w1 ⟨rfl, rfl⟩)
      go_ret
      have e : ackL l i = (l.set i.toNat { x with s := false }, 0) := by simp [ackL, h0, HX.out, HR.out]
      rw [e]
      exact ⟨rfl, h.set (j := 2) HX.out (by omega) (by simp [Ln.cells]), (Upd.refl _ _).set1 _ _⟩
  · have HI := Lib.hid hi
    clear hi
    go_enter Try.func9, Try.ntmps9
    go_wp2_with (go_at_call 20; refine (irqLine0 b g l i _ h HI.out).mono ?_; rintro e w1 ⟨rfl, rfl⟩)
    go_ret
    rw [ackL_out HI.out]
    exact ⟨rfl, h, Upd.refl _ _⟩

theorem irqLen (b g : Nat) (l : List Ln) (w : World) (h : Ctl w b g l) :
    Calls Try.prog 11 #[.pointer (some ⟨b, 0, none⟩)] w fun e w' => e = .returned (.int .i64 l.length) ∧ w = w' := by
  have c0 := h.top.cell (i := 0) rfl
  clear h
  go_enter Try.func11, Try.ntmps11
  go_wp2
  go_ret
  exact ⟨rfl, rfl⟩

/-- What Of answers. -/
def ofL (l : List Ln) (i : Int) : Ln := if 0 ≤ i then l.getD i.toNat ⟨false, false, false, 0⟩ else ⟨false, false, false, 0⟩
theorem irqOf (b g : Nat) (l : List Ln) (i : Int) (w : World) (h : Ctl w b g l) :
    Calls Try.prog 12 #[.pointer (some ⟨b, 0, none⟩), .int .i64 i] w fun e w' => e = .returned (.agg #[.bool (ofL l i).r, .bool (ofL l i).m, .bool (ofL l i).s, .int .i64 (ofL l i).d]) ∧ Upd No w w' := by
  by_cases hi : 0 ≤ i ∧ i < l.length
  · obtain ⟨h0, h1⟩ := hi
    obtain ⟨x, hx⟩ : ∃ x, l[i.toNat]? = some x := ⟨l[i.toNat]'(by omega), List.getElem?_eq_getElem _⟩
    obtain ⟨c0, c1, c2, c3, hf⟩ := h.line hx
    have e : ofL l i = x := by simp [ofL, h0, List.getD, hx]
    rw [e]
    clear e hx
    have hlt := h.rows.lt
    go_enter Try.func12, Try.ntmps12
    go_wp2_with (go_at_call 20; refine (irqLine b g l i _ (h.updNo (by repeat (first | with_reducible assumption | exact Upd.refl _ _ | (refine Upd.alloc ?_ _) | (refine Upd.drewN ?_ _) | (refine Upd.drew ?_) | (refine Upd.trans ?_ (by with_reducible assumption))))) h0 h1).mono ?_; rintro e w1 ⟨rfl, rfl⟩)
    refine bodyPost_ret (v := .agg #[.bool x.r, .bool x.m, .bool x.s, .int .i64 x.d]) (by simp [results, Try.results12, go_sem]) rfl ⟨rfl, (by repeat (first | with_reducible assumption | exact Upd.refl _ _ | (refine Upd.alloc ?_ _) | (refine Upd.drewN ?_ _) | (refine Upd.drew ?_) | (refine Upd.trans ?_ (by with_reducible assumption))))⟩
  · have e : ofL l i = ⟨false, false, false, 0⟩ := by
      unfold ofL
      by_cases h : 0 ≤ i
      · rw [if_pos h, List.getD, List.getElem?_eq_none (by omega)]; rfl
      · rw [if_neg h]
    rw [e]
    have HI := Lib.hid hi
    clear hi e
    have hlt := h.rows.lt
    go_enter Try.func12, Try.ntmps12
    go_wp2_with (go_at_call 20; refine (irqLine0 b g l i _ (h.updNo (by repeat (first | with_reducible assumption | exact Upd.refl _ _ | (refine Upd.alloc ?_ _) | (refine Upd.drewN ?_ _) | (refine Upd.drew ?_) | (refine Upd.trans ?_ (by with_reducible assumption))))) HI.out).mono ?_; rintro e w1 ⟨rfl, rfl⟩)
    refine bodyPost_ret (v := .agg #[.bool false, .bool false, .bool false, .int .i64 0]) (by simp [results, Try.results12, go_sem]) rfl ⟨rfl, (by repeat (first | with_reducible assumption | exact Upd.refl _ _ | (refine Upd.alloc ?_ _) | (refine Upd.drewN ?_ _) | (refine Upd.drew ?_) | (refine Upd.trans ?_ (by with_reducible assumption))))⟩

def DidNext (w : World) (b g : Nat) (r : List Ln × Option Nat) (e : Ending) (w' : World) : Prop :=
  (match r.2 with | none => e = .returned (.tuple #[.int .i64 0, .bool false]) | some k => e = .returned (.tuple #[.int .i64 k, .bool true])) ∧ Ctl w' b g r.1 ∧ Upd (at1 g) w w'

theorem nextL_some {l : List Ln} {k : Nat} {x : Ln} (hx : l[k]? = some x) (hu : x.up = true) (hlow : ∀ (j : Nat) (y : Ln), j < k → l[j]? = some y → y.up = false) : nextL l = (l.set k { x with r := false, s := true }, some k) := by
  have e : firstUp l = some k := by
    unfold firstUp
    rw [List.findIdx?_eq_some_iff_getElem]
    obtain ⟨hk, hxe⟩ := List.getElem?_eq_some_iff.1 hx
    refine ⟨hk, by rw [hxe]; exact hu, fun j hj => ?_⟩
    have := hlow j (l[j]'(by omega)) hj (List.getElem?_eq_getElem _)
    simp [this]
  unfold nextL
  rw [e]
  simp [hx]
theorem nextL_none {l : List Ln} (hlow : ∀ (j : Nat) (y : Ln), l[j]? = some y → y.up = false) : nextL l = (l, none) := by
  have e : firstUp l = none := by
    unfold firstUp
    rw [List.findIdx?_eq_none_iff]
    intro x hx
    obtain ⟨j, hj⟩ := List.mem_iff_getElem?.1 hx
    exact hlow j x hj
  unfold nextL
  rw [e]

theorem irqNext (b g : Nat) (l : List Ln) (w : World) (h : Ctl w b g l) :
    Calls Try.prog 8 #[.pointer (some ⟨b, 0, none⟩)] w (DidNext w b g (nextL l)) := by
  have hm := h.most
  go_enter Try.func8, Try.ntmps8
  go_wp2_with (go_at_call 11; refine (irqLen b g l _ h).mono ?_; rintro e w1 ⟨rfl, rfl⟩)
  go_loopw [8] (fun i wr => ∃ k : Nat, k ≤ l.length ∧ i = .int .i64 k ∧ w = wr ∧ Hid (∀ (j : Nat) (y : Ln), j < k → l[j]? = some y → y.up = false)) (fun i _ => l.length - (intOf i).toNat)
  case atStart => exact ⟨0, Nat.zero_le _, rfl, rfl, Lib.hid (fun j y hj => absurd hj (by omega))⟩
  case round =>
    obtain ⟨k, hk, rfl, rfl, hlow⟩ := hrel
    by_cases hlt : k < l.length
    · obtain ⟨x, hx⟩ : ∃ x, l[k]? = some x := ⟨l[k], List.getElem?_eq_getElem _⟩
      obtain ⟨c0, c1, c2, c3, hf⟩ := h.line hx
      have HX := Lib.hid hx
      clear hx
      have hstep : x.up = false → ∀ (j : Nat) (y : Ln), j < k + 1 → l[j]? = some y → y.up = false := fun hxu j y hj hy => by
        by_cases e : j = k
        · subst e; rw [HX.out] at hy; cases hy; exact hxu
        · exact hlow.out j y (by omega) hy
      have HS := Lib.hid hstep
      clear hstep
      cases hr : x.r <;> cases hmm : x.m <;> cases hs : x.s
      all_goals
        rw [hr] at c0
        rw [hmm] at c1
        rw [hs] at c2
        have HU := Lib.hid (show x.up = (x.r && !x.m && !x.s) from rfl)
        have HR := Lib.hid hr
        have HM := Lib.hid hmm
        have HSS := Lib.hid hs
        clear hr hmm hs
        go_wp2_with (go_at_call 20; refine (irqLine b g l k _ h (by omega) (by omega)).mono ?_; rintro e w1 ⟨rfl, rfl⟩)
        first
        | (go_roundw
           case rel => exact ⟨k + 1, by omega, by go_num, by trivial, Lib.hid (HS.out (by rw [HU.out, HR.out, HM.out, HSS.out]; rfl))⟩
           case measure => simp [intOf]; omega)
        | (go_ret2
           rw [nextL_some HX.out (by rw [HU.out, HR.out, HM.out, HSS.out]; rfl) hlow.out]
           refine ⟨rfl, ?_, ((Upd.refl _ _).set1 _ _).set1 _ _⟩
           have h2 := (h.set (j := 2) (u := .bool true) (y := { x with s := true }) HX.out (by omega) (by simp [Ln.cells])).set (i := k) (x := { x with s := true }) (y := { x with r := false, s := true }) (j := 0) (u := .bool false) (by simp [hlt]) (by omega) (by simp [Ln.cells])
           simpa using h2)
    · go_wp2
      go_ret2
      rw [nextL_none (fun j y hy => hlow.out j y (by have := (List.getElem?_eq_some_iff.1 hy).1; omega) hy)]
      exact ⟨rfl, h, Upd.refl _ _⟩

end Go.Proofs.Ytfehbkhmcngnpaa
