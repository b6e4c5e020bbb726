/- The walk of AdmitPlays: it answers true, whatever it is given. -/
import Derived.Test.YtdjnjfmdmcfamaaPlayL
import Derived.Deep.RegionLaw
import Derived.Deep.RegionHeld3
import Derived.Deep.DeepCutAuto
import Derived.Deep.CutBlock
namespace Go.Proofs.Ytdjnjfmdmcfamaa
open Go.RowKit

structure ActP where
  kind : Int
  who : Int
  b : Int
  p : Int
  n : Int
def ActP.cells (a : ActP) : List Value := [.int .i64 a.kind, .int .i64 a.who, .int .i64 a.b, .int .i64 a.p, .int .i64 a.n]
theorem Rd.actP {w : World} {A : Option Addr} {l : List ActP} (h : Rd w A (l.flatMap ActP.cells)) {k : Nat} {t : ActP} (ht : l[k]? = some t) :
    ∃ g o, A = some ⟨g, o, none⟩ ∧ w.cell? ⟨g, o + k * 5, none⟩ = some (.int .i64 t.kind) ∧ w.cell? ⟨g, o + k * 5 + 1, none⟩ = some (.int .i64 t.who) ∧ w.cell? ⟨g, o + k * 5 + 2, none⟩ = some (.int .i64 t.b) ∧ w.cell? ⟨g, o + k * 5 + 3, none⟩ = some (.int .i64 t.p) ∧ w.cell? ⟨g, o + k * 5 + 4, none⟩ = some (.int .i64 t.n) := by
  have hne : l.flatMap ActP.cells ≠ [] := by
    intro e
    have h1 := flat_get ActP.cells 5 (fun _ => rfl) l k t ht 0 (by omega)
    rw [e] at h1; simp [ActP.cells] at h1
  obtain ⟨g, o, e, hc⟩ := h hne
  have key : ∀ j, j < 5 → ∀ u, t.cells[j]? = some u → w.cell? ⟨g, o + k * 5 + j, none⟩ = some u := fun j hj u hu => by
    have := hc (k * 5 + j) u (by rw [flat_get ActP.cells 5 (fun _ => rfl) l k t ht j hj]; exact hu)
    rwa [← Nat.add_assoc] at this
  exact ⟨g, o, e, key 0 (by omega) _ rfl, key 1 (by omega) _ rfl, key 2 (by omega) _ rfl, key 3 (by omega) _ rfl, key 4 (by omega) _ rfl⟩

theorem Bok.cell {w : World} {base b n g : Nat} {B : Bk} {T : TypeId} {xs : List Value} (h : Bok w base b n B) (hg : Row w g T xs) (hT : T ∉ bookT) (i : Nat) (u : Value) : Bok (w.setCell ⟨g, i, none⟩ u) base b n B :=
  h.updT (S := at1 g) ((Upd.refl _ _).set1 i u) (fun k q => by unfold at1 at q; subst q; exact ⟨_, _, _, hg, hT⟩)
/-- The law's state: the program's book at b, the document's in the variable at b4, an act's box at g. -/
structure PlaySt (w0 W : World) (b b4 n : Nat) (B : Bk) (u : Value) (E : List En) (g : Nat) (cs : List Value) : Prop where
  hu : Upd No w0 W
  hb4 : w0.heap.size ≤ b4
  bok : Bok W w0.heap.size b n B
  row : Row W b4 46 [.int .i64 B.now, u]
  ro : RO W w0.heap.size u E
  inv : PlayInv B E
  el : E.length ≤ n
  pl : B.p.length ≤ n
  box : Row W g 35 cs
theorem storeBook {w0 W : World} {b b4 n g : Nat} {B : Bk} {x y u' : Value} {now : Int} {E' : List En} {cs : List Value} (hu : Upd No w0 W) (hb4 : w0.heap.size ≤ b4) (hB : Bok W w0.heap.size b n B) (hr : Row W b4 46 [x, y]) (hR : RO W w0.heap.size u' E') (hinv : PlayInv B E') (hnow : now = B.now) (hel : E'.length ≤ n) (hpl : B.p.length ≤ n) (hx : Row W g 35 cs) :
    PlaySt w0 ((W.setCell ⟨b4, 0, none⟩ (.int .i64 now)).setCell ⟨b4, 1, none⟩ u') b b4 n B u' E' g cs := by
  subst hnow
  have hne : g ≠ b4 := hx.ne hr (by decide)
  have h1 := hr.set 0 (.int .i64 B.now)
  have h2 := h1.set 1 u'
  exact ⟨(hu.setNew (p := ⟨b4, 0, none⟩) hb4 _).setNew (p := ⟨b4, 1, none⟩) hb4 _, hb4, (hB.cell hr (by decide) 0 _).cell h1 (by decide) 1 _, h2, (hR.cell hr (by decide) 0 _).cell h1 (by decide) 1 _, hinv, hel, hpl, (hx.far (p := ⟨b4, 0, none⟩) hne _).far (p := ⟨b4, 1, none⟩) hne _⟩

theorem bookPending {b n base : Nat} {B : Bk} {w : World} (h : Bok w base b n B) :
    Calls Try.prog 21 #[.pointer (some ⟨b, 0, none⟩)] w fun e w' => e = .returned (.int .i64 B.p.length) ∧ w = w' := by
  obtain ⟨r, v, h⟩ := h
  obtain ⟨A, cap, rfl, hc1, hc2, _⟩ := own_read h.pend
  have c2 := h.row.cell (i := 3) rfl
  clear h
  go_enter Try.func21, Try.ntmps21
  go_wp2
  go_ret
  exact ⟨rfl, rfl⟩
theorem nilUsed (w : World) : Calls Try.prog 17 #[.pointer none] w fun e w' => e = .returned (.int .u64 0) ∧ w = w' := by
  go_enter Try.func17, Try.ntmps17
  go_wp2
  go_ret
  exact ⟨rfl, rfl⟩
theorem nilHas (i : Int) (w : World) : Calls Try.prog 19 #[.pointer none, .int .i64 i] w fun e w' => e = .returned (.bool false) ∧ w = w' := by
  go_enter Try.func19, Try.ntmps19
  go_wp2
  go_ret
  exact ⟨rfl, rfl⟩
theorem nilAdmit (i b p : Int) (w : World) : Calls Try.prog 8 #[.pointer none, .int .i64 i, .agg #[.int .i64 b, .int .i64 p]] w fun e w' => e = .returned (.int .i64 3) ∧ Upd No w w' := by
  go_enter Try.func8, Try.ntmps8
  go_wp2
  go_ret
  exact ⟨rfl, (by repeat (first | with_reducible assumption | exact Upd.refl _ _ | (refine Upd.setNew ?_ (by first | (simp; done) | (simp; omega)) _) | (refine Upd.alloc ?_ _) | (refine Upd.drewN ?_ _) | (refine Upd.drew ?_) | (refine Upd.trans ?_ (by with_reducible assumption))))⟩
theorem nilRelease (i n : Int) (w : World) : Calls Try.prog 6 #[.pointer none, .int .i64 i, .int .i64 n] w fun e w' => e = .returned (.int .i64 3) ∧ w = w' := by
  go_enter Try.func6, Try.ntmps6
  go_wp2
  go_ret
  exact ⟨rfl, rfl⟩
theorem nilAdvance (n : Int) (w : World) : Calls Try.prog 7 #[.pointer none, .int .i64 n] w fun e w' => e = .returned (.int .i64 0) ∧ w = w' := by
  go_enter Try.func7, Try.ntmps7
  go_wp2
  go_ret
  exact ⟨rfl, rfl⟩
theorem nilPending (w : World) : Calls Try.prog 21 #[.pointer none] w fun e w' => e = .returned (.int .i64 0) ∧ w = w' := by
  go_enter Try.func21, Try.ntmps21
  go_wp2
  go_ret
  exact ⟨rfl, rfl⟩
theorem bookUsed' {b n base : Nat} {B : Bk} {w : World} (h : Bok w base b n B) : Calls Try.prog 17 #[.pointer (some ⟨b, 0, none⟩)] w fun e w' => e = .returned (.int .u64 B.used) ∧ Upd No w w' := (bookUsed h).mono fun e w' ⟨he, hw⟩ => ⟨he, hw ▸ Upd.refl _ _⟩
theorem bookHas' {b n base : Nat} {B : Bk} {w : World} (h : Bok w base b n B) (i : Int) (hi : (Lit.int .i64 i).wf = true) : Calls Try.prog 19 #[.pointer (some ⟨b, 0, none⟩), .int .i64 i] w fun e w' => e = .returned (.bool (B.f i).isSome) ∧ Upd No w w' := (bookHas h i hi).mono fun e w' ⟨he, hw⟩ => ⟨he, hw ▸ Upd.refl _ _⟩
theorem bookPending' {b n base : Nat} {B : Bk} {w : World} (h : Bok w base b n B) : Calls Try.prog 21 #[.pointer (some ⟨b, 0, none⟩)] w fun e w' => e = .returned (.int .i64 B.p.length) ∧ Upd No w w' := (bookPending h).mono fun e w' ⟨he, hw⟩ => ⟨he, hw ▸ Upd.refl _ _⟩

set_option maxRecDepth 100000 in
set_option maxHeartbeats 30000000 in
theorem lawAdmitPlays (A : Option Addr) (len cap : Nat) (l : List ActP) (hn : len = l.length) (_hm : len ≤ 9223372036854775807) (hwf : ∀ a, a ∈ l → (Lit.int .i64 a.who).wf = true) (w : World) (H : Rd w A (l.flatMap ActP.cells)) :
    Calls Try.prog 4 #[.slice A len cap] w fun e w' => e = .returned (.bool true) ∧ Upd No w w' := by
  have HN := Lib.hid hn
  have HWF := Lib.hid hwf
  clear hn hwf
  go_enter Try.func4, Try.ntmps4
  go_wp2_with fail
  refine (lawAwake w).mono ?_
  rintro e w1 ⟨rfl, hu1⟩
  go_wp2_with fail
  have hB0 := (bookEmpty w1 w1.heap.size w.heap.size rfl hu1.size).updNo (w' := (w1.alloc (.cells #[.int .i64 0, .int .u64 0, .map none, .slice none 0 0] 29)).alloc (.cells #[.int .i64 0, .slice none 0 0] 46)) (by repeat (first | with_reducible assumption | exact Upd.refl _ _ | (refine Upd.setNew ?_ (by first | (simp; done) | (simp; omega)) _) | (refine Upd.alloc ?_ _) | (refine Upd.drewN ?_ _) | (refine Upd.drew ?_) | (refine Upd.trans ?_ (by with_reducible assumption))))
  have hu2 : Upd No w ((w1.alloc (.cells #[.int .i64 0, .int .u64 0, .map none, .slice none 0 0] 29)).alloc (.cells #[.int .i64 0, .slice none 0 0] 46)) := (by repeat (first | with_reducible assumption | exact Upd.refl _ _ | (refine Upd.setNew ?_ (by first | (simp; done) | (simp; omega)) _) | (refine Upd.alloc ?_ _) | (refine Upd.drewN ?_ _) | (refine Upd.drew ?_) | (refine Upd.trans ?_ (by with_reducible assumption))))
  have hr0 : Row ((w1.alloc (.cells #[.int .i64 0, .int .u64 0, .map none, .slice none 0 0] 29)).alloc (.cells #[.int .i64 0, .slice none 0 0] 46)) (w1.heap.size + 1) 46 [.int .i64 0, .slice none 0 0] := Row.newAt _ _ _ _ (by simp)
  have hs1 := hu1.size
  obtain ⟨b4, hb4⟩ : ∃ b4, w1.heap.size + 1 = b4 := ⟨_, rfl⟩
  have h40 : w.heap.size ≤ b4 := by omega
  obtain ⟨b, hb⟩ : ∃ b, w1.heap.size = b := ⟨_, rfl⟩
  rw [hb4] at hr0 ⊢
  rw [hb] at hB0 ⊢
  have HB0 := Lib.hid hB0
  have HR0 := Lib.hid hr0
  clear hB0 hr0 hb4 hb hs1
  go_loopw [5] (fun i wr => ∃ (k : Nat) (B : Bk) (E : List En) (u : Value), k ≤ len ∧ k ≤ 60 ∧ i = .int .i64 k ∧ Upd No w wr ∧ Bok wr w.heap.size b k B ∧ Row wr b4 46 [.int .i64 B.now, u] ∧ RO wr w.heap.size u E ∧ PlayInv B E ∧ E.length ≤ k ∧ B.p.length ≤ k) (fun i _ => len - (intOf i).toNat)
  case atStart =>
    exact ⟨0, _, [], _, Nat.zero_le _, by omega, rfl, hu2, HB0.out, HR0.out, RO.nil _ _, PlayInv.start, by simp, by simp⟩
  case round =>
    clear hu2 hu1
    obtain ⟨k, B, E, u, hk, hk60, rfl, hu, hB, hrow, hRO, hinv, hel, hpl⟩ := hrel
    by_cases hend : len ≤ k ∨ 60 ≤ k
    · by_cases hlk : k < len
      · have hk9 : 60 ≤ k := by omega
        clear hend
        go_wp2_with (first
          | (go_at_call 17; refine (nilUsed _).mono ?_; rintro e w2 ⟨rfl, rfl⟩)
          | (go_at_call 19; refine (nilHas 1 _).mono ?_; rintro e w2 ⟨rfl, rfl⟩)
          | (go_at_call 8; refine (nilAdmit 1 0 0 _).mono ?_; rintro e w2 ⟨rfl, hu2⟩)
          | (go_at_call 6; refine (nilRelease 1 1 _).mono ?_; rintro e w3 ⟨rfl, rfl⟩)
          | (go_at_call 7; refine (nilAdvance 1 _).mono ?_; rintro e w3 ⟨rfl, rfl⟩)
          | (go_at_call 21; refine (nilPending _).mono ?_; rintro e w3 ⟨rfl, rfl⟩)
          | (go_at_call 5; refine (lawAwake _).mono ?_; rintro e w9 ⟨rfl, hu9⟩))
        go_ret
        exact ⟨rfl, (hu.trans hu2).trans hu9⟩
      · clear hend
        go_wp2_with (first
          | (go_at_call 17; refine (nilUsed _).mono ?_; rintro e w2 ⟨rfl, rfl⟩)
          | (go_at_call 19; refine (nilHas 1 _).mono ?_; rintro e w2 ⟨rfl, rfl⟩)
          | (go_at_call 8; refine (nilAdmit 1 0 0 _).mono ?_; rintro e w2 ⟨rfl, hu2⟩)
          | (go_at_call 6; refine (nilRelease 1 1 _).mono ?_; rintro e w3 ⟨rfl, rfl⟩)
          | (go_at_call 7; refine (nilAdvance 1 _).mono ?_; rintro e w3 ⟨rfl, rfl⟩)
          | (go_at_call 21; refine (nilPending _).mono ?_; rintro e w3 ⟨rfl, rfl⟩)
          | (go_at_call 5; refine (lawAwake _).mono ?_; rintro e w9 ⟨rfl, hu9⟩))
        go_ret
        exact ⟨rfl, (hu.trans hu2).trans hu9⟩
    have hlt : k < len := by omega
    have hlt9 : k < 60 := by omega
    clear hend
    obtain ⟨t, ht⟩ : ∃ t, l[k]? = some t := ⟨l[k]'(by rw [← HN.out]; exact hlt), List.getElem?_eq_getElem _⟩
    have htw := HWF.out t (List.mem_iff_getElem?.2 ⟨k, ht⟩)
    obtain ⟨ga, o, rfl, c0, c1, c2, c3, c4⟩ := (H.upd hu).actP ht
    clear ht
    obtain ⟨W, hW⟩ : ∃ W, W = wr.alloc (.cells #[.int .i64 t.kind, .int .i64 t.who, .int .i64 t.b, .int .i64 t.p, .int .i64 t.n] 35) := ⟨_, rfl⟩
    have hub : Upd No wr W := by rw [hW]; exact (by repeat (first | with_reducible assumption | exact Upd.refl _ _ | (refine Upd.setNew ?_ (by first | (simp; done) | (simp; omega)) _) | (refine Upd.alloc ?_ _) | (refine Upd.drewN ?_ _) | (refine Upd.drew ?_) | (refine Upd.trans ?_ (by with_reducible assumption))))
    have hbox : Row W wr.heap.size 35 [.int .i64 t.kind, .int .i64 t.who, .int .i64 t.b, .int .i64 t.p, .int .i64 t.n] := by rw [hW]; exact Row.newAt _ _ _ _ rfl
    have hSt : ∀ w', Upd No W w' → PlaySt w w' b b4 k B u E wr.heap.size [.int .i64 t.kind, .int .i64 t.who, .int .i64 t.b, .int .i64 t.p, .int .i64 t.n] := fun w' h =>
      ⟨(hu.trans hub).trans h, h40, hB.updNo (hub.trans h), hrow.updNo (hub.trans h), hRO.updNo (hub.trans h), hinv, hel, hpl, hbox.updNo h⟩
    have ST := Lib.hid hSt
    have HW := Lib.hid hW
    have HINV := Lib.hid hinv
    clear hSt hbox hB hrow hRO hub hW hu hinv
    have cB : ∀ w', Upd No W w' → w'.cell? ⟨wr.heap.size, 0, none⟩ = some (.int .i64 t.kind) ∧ w'.cell? ⟨wr.heap.size, 1, none⟩ = some (.int .i64 t.who) ∧ w'.cell? ⟨wr.heap.size, 2, none⟩ = some (.int .i64 t.b) ∧ w'.cell? ⟨wr.heap.size, 3, none⟩ = some (.int .i64 t.p) ∧ w'.cell? ⟨wr.heap.size, 4, none⟩ = some (.int .i64 t.n) := fun w' h =>
      have hx := (ST.out w' h).box
      ⟨hx.cell (i := 0) rfl, hx.cell (i := 1) rfl, hx.cell (i := 2) rfl, hx.cell (i := 3) rfl, hx.cell (i := 4) rfl⟩
    have CB := Lib.hid cB
    clear cB
    obtain ⟨sh, hsh⟩ : ∃ sh : Int, sh = if resB t.b t.p = true then shareP t.b t.p else 0 := ⟨_, rfl⟩
    have HSH := Lib.hid hsh
    clear hsh
    go_upto_if 33 with (go_at_call 11; rw [← HW.out]; refine (ref04Right t.b t.p _).mono ?_; rintro e w3 ⟨rfl, hu3⟩; obtain ⟨s0, s1, s2, s3, s4⟩ := CB.out w3 hu3; clear c0 c1 c2 c3 c4)
    go_cut [7] (fun s7 wx => s7 = .int .u64 sh ∧ Upd No W wx)
    case first =>
      cases hr : resB t.b t.p
      · have HR : Hid (sh = 0) := Lib.hid (by rw [HSH.out, hr]; rfl)
        clear hr
        go_wp2
        go_meet
        exact ⟨by rw [HR.out], hu3⟩
      · have HR := Lib.hid hr
        clear hr
        go_wp2_with (go_at_call 12; refine (refShare t.b t.p HR.out _).mono ?_; rintro e w4 ⟨rfl, hu4⟩)
        go_meet
        exact ⟨by rw [HSH.out, HR.out]; rfl, hu3.trans hu4⟩
    case rest =>
    obtain ⟨rfl, hux⟩ := hcut
    clear s0 s1 s2 s3 s4 hu3
    obtain ⟨s0, s1, s2, s3, s4⟩ := CB.out wc hux
    go_upto_block 2 with (first
      | (go_at_call 9; refine (lawTo t.b t.p _).mono ?_; rintro e w4 ⟨rfl, hu4⟩)
      | (go_at_call 13; refine (admShare t.b t.p _).mono ?_; rw [← HSH.out]; rintro e w5 ⟨rfl, hu5⟩; have hu45 := (hux.trans hu4).trans hu5; clear s0 s1 s2 s3 s4; obtain ⟨s0, s1, s2, s3, s4⟩ := CB.out w5 hu45))
    clear hux hu4 hu5
    have hB5 := ST.out w5 hu45
    go_cut [8, 9] (fun s8 s9 wx => ∃ (B' : Bk) (E' : List En) (u' : Value) (f : Int), s8 = .int .i64 f ∧ s9 = .int .i64 f ∧ PlaySt w wx b b4 (k + 1) B' u' E' wr.heap.size [.int .i64 t.kind, .int .i64 t.who, .int .i64 t.b, .int .i64 t.p, .int .i64 t.n])
    case first =>
      have hub5 : Upd No w w5 := hB5.hu
      have hok := HINV.out.ok
      have hll : E.length < 999999 := by omega
      by_cases k1 : t.kind = 1
      · have q1 : (t.kind == 1) = true := by simp [k1]
        clear k1
        have HIR := Lib.hid (HINV.out.release t.who t.n)
        go_wp2_with (first
          | (go_at_call 6; refine (bookRelease hB5.bok hok (by omega) t.who t.n htw).mono ?_; rintro e w6 ⟨rfl, hB6, hm6⟩
             have hr6 := hB5.row.mv hm6 (by decide)
             have ho6 := hB5.ro.mv hm6 (by decide)
             have hx6 := hB5.box.mv hm6 (by decide)
             have hu6 : Upd No w w6 := hm6.over hub5 (Nat.le_refl _)
             clear s0 s1 s2 s3 s4
             have s1 := hx6.cell (i := 1) rfl
             have s4 := hx6.cell (i := 4) rfl
             have z0 := hr6.cell (i := 0) rfl
             have z1 := hr6.cell (i := 1) rfl
             have zf := hr6.frozen)
          | (go_at_call 14; refine (oRelease (now := B.now) hu6 ho6 t.who t.n hll).mono ?_; rintro e w7 ⟨u7, rfl, ho7, hm7⟩
             obtain ⟨A7, c7, rfl, _, _⟩ := ho7.reads
             have hr7 := hr6.mr hm7 (by decide)
             clear z0 z1 zf
             have z0 := hr7.cell (i := 0) rfl
             have z1 := hr7.cell (i := 1) rfl
             have zf := hr7.frozen))
        go_meet
        obtain ⟨i1, i2, i3, i4⟩ := HIR.out
        have hpl7 := release_p B t.who t.n
        exact ⟨_, _, _, _, rfl, by rw [i1], storeBook (hm7.mv.over hu6 (Nat.le_refl _)) h40 (hB6.more.mr hm7 (by decide)) hr7 ho7 i2 i3.symm (by omega) (by omega) (hx6.mr hm7 (by decide))⟩
      have q1 : (t.kind == 1) = false := by simp [k1]
      clear k1
      by_cases k2 : t.kind = 2
      · have q2 : (t.kind == 2) = true := by simp [k2]
        clear k2
        have HIA := Lib.hid (HINV.out.advance t.n)
        have z0 := hB5.row.cell (i := 0) rfl
        have z1 := hB5.row.cell (i := 1) rfl
        have zf := hB5.row.frozen
        obtain ⟨cnt, hcnt⟩ : ∃ c, c = (advanceB B t.n).2 := ⟨_, rfl⟩
        have HC1 : Hid ((advanceB B t.n).2 = cnt) := Lib.hid hcnt.symm
        have HC2 : Hid ((advE B.now E t.n).2 = cnt) := Lib.hid (by rw [← HIA.out.1]; exact hcnt.symm)
        clear hcnt
        go_wp2_with (first
          | (go_at_call 15; refine (oAdvance (now0 := B.now) hub5 hB5.ro t.n hll).mono ?_; rw [HC2.out]; rintro e w7 ⟨u7, rfl, ho7, hm7⟩
             obtain ⟨A7, c7, rfl, _, _⟩ := ho7.reads
             have hr7 := hB5.row.mr hm7 (by decide)
             have hx7 := hB5.box.mr hm7 (by decide)
             have hu7 : Upd No w w7 := hm7.mv.over hub5 (Nat.le_refl _)
             have hb7 := hB5.bok.mr hm7 (by decide)
             clear z0 z1 zf s0 s1 s2 s3 s4
             have s4 := hx7.cell (i := 4) rfl
             have z0 := hr7.cell (i := 0) rfl
             have z1 := hr7.cell (i := 1) rfl
             have zf := hr7.frozen
             have hx8 := (hx7.far (p := ⟨b4, 0, none⟩) (hx7.ne hr7 (by decide)) (.int .i64 (advE B.now E t.n).1.1)).far (p := ⟨b4, 1, none⟩) (hx7.ne hr7 (by decide)) (.slice A7 (advE B.now E t.n).1.2.length c7)
             have s4' := hx8.cell (i := 4) rfl)
          | (go_at_call 7; refine (bookAdvance (B := B) (base := w.heap.size) (n := k) ((hb7.cell hr7 (by decide) 0 _).cell (hr7.set 0 _) (by decide) 1 _) hok (by omega) t.n).mono ?_; rintro e w8 ⟨he8, hB8, hm8⟩; rw [HC1.out] at he8; subst he8))
        go_meet
        obtain ⟨i1, i2, i3, i4⟩ := HIA.out
        have hpl7 := advance_p B t.n
        have hy := (hr7.set 0 (.int .i64 (advE B.now E t.n).1.1)).set 1 (.slice A7 (advE B.now E t.n).1.2.length c7)
        refine ⟨_, _, _, 0, rfl, rfl, ⟨hm8.over ((hu7.setNew (p := ⟨b4, 0, none⟩) h40 _).setNew (p := ⟨b4, 1, none⟩) h40 _) (Nat.le_refl _), h40, hB8.more, ?_, ((ho7.cell hr7 (by decide) 0 _).cell (hr7.set 0 _) (by decide) 1 _).mv hm8 (by decide), i2, by omega, by omega, hx8.mv hm8 (by decide)⟩⟩
        rw [i3]
        exact hy.mv hm8 (by decide)
      have q2 : (t.kind == 2) = false := by simp [k2]
      clear k2
      have HIA := Lib.hid (HINV.out.admit t.who t.b t.p)
      have hsl := HINV.out.le
      have HSH2 := Lib.hid HINV.out.sh
      go_upto_region 15 with fail
      go_cut [8] (fun s8 wx => s8 = .int .i64 (admitB B t.who t.b t.p).2 ∧ Bok wx w.heap.size b (k + 1) (admitB B t.who t.b t.p).1 ∧ Mv bookT w.heap.size w5 wx)
      case first =>
        go_region_law (first
          | (go_simp; go_at_call 9; refine (lawTo t.b t.p _).mono ?_; rintro e w2 ⟨rfl, hu2⟩; have r2 := hB5.box.updNo (w' := w2) (by repeat (first | with_reducible assumption | exact Upd.refl _ _ | (refine Upd.setNew ?_ (by first | (simp; done) | (simp; omega)) _) | (refine Upd.alloc ?_ _) | (refine Upd.drewN ?_ _) | (refine Upd.drew ?_) | (refine Upd.trans ?_ (by with_reducible assumption)))); have z1 := r2.cell (i := 1) rfl)
          | (go_simp; go_at_call 8; refine (bookAdmit (hB5.bok.updNo (by repeat (first | with_reducible assumption | exact Upd.refl _ _ | (refine Upd.setNew ?_ (by first | (simp; done) | (simp; omega)) _) | (refine Upd.alloc ?_ _) | (refine Upd.drewN ?_ _) | (refine Upd.drew ?_) | (refine Upd.trans ?_ (by with_reducible assumption))))) hok (by omega) t.who t.b t.p htw).mono ?_; rintro e w3 ⟨rfl, hB3, hm3⟩))
        all_goals (go_wp2_with fail; go_meet; exact ⟨rfl, hB3, Mv.trans (Mv.ofNo (by repeat (first | with_reducible assumption | exact Upd.refl _ _ | (refine Upd.setNew ?_ (by first | (simp; done) | (simp; omega)) _) | (refine Upd.alloc ?_ _) | (refine Upd.drewN ?_ _) | (refine Upd.drew ?_) | (refine Upd.trans ?_ (by with_reducible assumption))))) hm3⟩)
      case rest =>
        obtain ⟨rfl, hB6, hm6⟩ := hcut
        have hr6 := hB5.row.mv hm6 (by decide)
        have ho6 := hB5.ro.mv hm6 (by decide)
        have hx6 := hB5.box.mv hm6 (by decide)
        have hu6 : Upd No w wc := hm6.over hub5 (Nat.le_refl _)
        clear s0 s1 s2 s3 s4
        have s1 := hx6.cell (i := 1) rfl
        have s2 := hx6.cell (i := 2) rfl
        have s3 := hx6.cell (i := 3) rfl
        have z0 := hr6.cell (i := 0) rfl
        have z1 := hr6.cell (i := 1) rfl
        have zf := hr6.frozen
        go_wp2_with (go_at_call 16; refine (oAdmit (now := B.now) hu6 ho6 t.who t.b t.p hll HSH2.out hsl).mono ?_; rintro e w7 ⟨u7, rfl, ho7, hm7⟩
                     obtain ⟨A7, c7, rfl, _, _⟩ := ho7.reads
                     have hr7 := hr6.mr hm7 (by decide)
                     clear z0 z1 zf
                     have z0 := hr7.cell (i := 0) rfl
                     have z1 := hr7.cell (i := 1) rfl
                     have zf := hr7.frozen)
        go_meet
        obtain ⟨i1, i2, i3, i4⟩ := HIA.out
        have hpl7 := admit_p B t.who t.b t.p
        exact ⟨_, _, _, _, rfl, by rw [i1], storeBook (hm7.mv.over hu6 (Nat.le_refl _)) h40 (hB6.mr hm7 (by decide)) hr7 ho7 i2 i3.symm (by omega) (by rw [hpl7]; omega) (hx6.mr hm7 (by decide))⟩
    case rest =>
    clear hB5 hu45 s0 s1 s2 s3 s4
    obtain ⟨B2, E2, u2', f, rfl, rfl, hS⟩ := hcut
    have HS := Lib.hid hS
    clear hS
    have z0 := HS.out.row.cell (i := 0) rfl
    have z1 := HS.out.row.cell (i := 1) rfl
    have s1 := HS.out.box.cell (i := 1) rfl
    have hE2 : E2.length < 1000000 := by have := HS.out.el; omega
    obtain ⟨fv, hfv⟩ : ∃ fv, fv = findE E2 t.who := ⟨_, rfl⟩
    have HF : Hid (findE E2 t.who = fv) := Lib.hid hfv.symm
    clear hfv
    by_cases hf : 0 ≤ fv
    · have HH : Hid ((B2.f t.who).isSome = true) := Lib.hid (by rw [HS.out.inv.has, HF.out]; simpa using hf)
      have hd : decide (0 ≤ fv) = true := by simpa using hf
      clear hf
      go_wp2_with fail
      go_region_held3 (fun w' => Upd No wc w' ∧ w'.cell? ⟨b4, 0, none⟩ = some (.int .i64 B2.now) ∧ w'.cell? ⟨b4, 1, none⟩ = some u2' ∧ w'.cell? ⟨wr.heap.size, 1, none⟩ = some (.int .i64 t.who))
        (first | exact ⟨(Upd.refl _ _).drew, z0, z1, s1⟩ | (obtain ⟨hs0, hs1, hs2, hs3⟩ := ‹Upd No _ _ ∧ _›; exact ⟨hs0.trans (by assumption), Upd.at_ (by assumption) hs1, Upd.at_ (by assumption) hs2, Upd.at_ (by assumption) hs3⟩))
        (first
          | (go_at_call 17; refine (bookUsed' (HS.out.bok.updNo ?_)).mono ?_; (first | exact (‹Upd No wc _ ∧ _›).1 | exact (Upd.refl _ _).drew); rintro e w1 ⟨rfl, hu1⟩)
          | (go_at_call 19; refine (bookHas' (HS.out.bok.updNo ?_) t.who htw).mono ?_; (first | exact (‹Upd No wc _ ∧ _›).1 | exact (Upd.refl _ _).drew); rw [HH.out]; rintro e w1 ⟨rfl, hu1⟩)
          | (go_at_call 21; refine (bookPending' (HS.out.bok.updNo ?_)).mono ?_; (first | exact (‹Upd No wc _ ∧ _›).1 | exact (Upd.refl _ _).drew); rintro e w1 ⟨rfl, hu1⟩)
          | (go_at_call 18; refine (oUsed (HS.out.ro.updNo ?_) hE2 HS.out.inv.sh HS.out.inv.le).mono ?_; (first | exact (‹Upd No wc _ ∧ _›).1 | exact (Upd.refl _ _).drew); rw [← HS.out.inv.used]; rintro e w1 ⟨rfl, hu1⟩)
          | (go_at_call 20; refine (oFind (HS.out.ro.updNo ?_) hE2 t.who).mono ?_; (first | exact (‹Upd No wc _ ∧ _›).1 | exact (Upd.refl _ _).drew); rw [HF.out]; rintro e w1 ⟨rfl, hu1⟩)
          | (go_at_call 22; refine (oPending (HS.out.ro.updNo ?_) hE2).mono ?_; (first | exact (‹Upd No wc _ ∧ _›).1 | exact (Upd.refl _ _).drew); rw [← HS.out.inv.pend]; rintro e w1 ⟨rfl, hu1⟩))
      all_goals
        obtain ⟨hz, _, _, _⟩ := ‹Upd No wc _ ∧ _›
        go_wp2
        go_roundw
        case rel => exact ⟨k + 1, B2, E2, u2', by omega, by omega, by go_num, HS.out.hu.trans hz, HS.out.bok.updNo hz, HS.out.row.updNo hz, HS.out.ro.updNo hz, HS.out.inv, HS.out.el, HS.out.pl⟩
        case measure => simp [intOf]; omega
    · have HH : Hid ((B2.f t.who).isSome = false) := Lib.hid (by rw [HS.out.inv.has, HF.out]; simpa using hf)
      have hd : decide (0 ≤ fv) = false := by simpa using hf
      clear hf
      go_wp2_with fail
      go_region_held3 (fun w' => Upd No wc w' ∧ w'.cell? ⟨b4, 0, none⟩ = some (.int .i64 B2.now) ∧ w'.cell? ⟨b4, 1, none⟩ = some u2' ∧ w'.cell? ⟨wr.heap.size, 1, none⟩ = some (.int .i64 t.who))
        (first | exact ⟨(Upd.refl _ _).drew, z0, z1, s1⟩ | (obtain ⟨hs0, hs1, hs2, hs3⟩ := ‹Upd No _ _ ∧ _›; exact ⟨hs0.trans (by assumption), Upd.at_ (by assumption) hs1, Upd.at_ (by assumption) hs2, Upd.at_ (by assumption) hs3⟩))
        (first
          | (go_at_call 17; refine (bookUsed' (HS.out.bok.updNo ?_)).mono ?_; (first | exact (‹Upd No wc _ ∧ _›).1 | exact (Upd.refl _ _).drew); rintro e w1 ⟨rfl, hu1⟩)
          | (go_at_call 19; refine (bookHas' (HS.out.bok.updNo ?_) t.who htw).mono ?_; (first | exact (‹Upd No wc _ ∧ _›).1 | exact (Upd.refl _ _).drew); rw [HH.out]; rintro e w1 ⟨rfl, hu1⟩)
          | (go_at_call 21; refine (bookPending' (HS.out.bok.updNo ?_)).mono ?_; (first | exact (‹Upd No wc _ ∧ _›).1 | exact (Upd.refl _ _).drew); rintro e w1 ⟨rfl, hu1⟩)
          | (go_at_call 18; refine (oUsed (HS.out.ro.updNo ?_) hE2 HS.out.inv.sh HS.out.inv.le).mono ?_; (first | exact (‹Upd No wc _ ∧ _›).1 | exact (Upd.refl _ _).drew); rw [← HS.out.inv.used]; rintro e w1 ⟨rfl, hu1⟩)
          | (go_at_call 20; refine (oFind (HS.out.ro.updNo ?_) hE2 t.who).mono ?_; (first | exact (‹Upd No wc _ ∧ _›).1 | exact (Upd.refl _ _).drew); rw [HF.out]; rintro e w1 ⟨rfl, hu1⟩)
          | (go_at_call 22; refine (oPending (HS.out.ro.updNo ?_) hE2).mono ?_; (first | exact (‹Upd No wc _ ∧ _›).1 | exact (Upd.refl _ _).drew); rw [← HS.out.inv.pend]; rintro e w1 ⟨rfl, hu1⟩))
      all_goals
        obtain ⟨hz, _, _, _⟩ := ‹Upd No wc _ ∧ _›
        go_wp2
        go_roundw
        case rel => exact ⟨k + 1, B2, E2, u2', by omega, by omega, by go_num, HS.out.hu.trans hz, HS.out.bok.updNo hz, HS.out.row.updNo hz, HS.out.ro.updNo hz, HS.out.inv, HS.out.el, HS.out.pl⟩
        case measure => simp [intOf]; omega

end Go.Proofs.Ytdjnjfmdmcfamaa
