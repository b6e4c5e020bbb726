/- New, Dead, Parts of package server; Most of package supply. -/
import Derived.Test.YtojlkjmdcoolnaaSv5
import Derived.Test.YtojlkjmdcoolnaaSupply
import Derived.OwnWalk
import Derived.Lib.SliceRun
namespace Go.Proofs.Ytojlkjmdcoolnaa
open Go.RowKit

theorem lawTo (b p : Int) (w : World) : Calls Try.prog 7 #[.agg #[.int .i64 b, .int .i64 p]] w fun e w' => e = .returned (.agg #[.int .i64 b, .int .i64 p]) ∧ Upd No w w' := by
  go_enter Try.func7, Try.ntmps7
  go_wp2
  refine bodyPost_ret (v := .agg #[.int .i64 b, .int .i64 p]) (by simp [results, Try.results7, go_sem]) rfl ⟨rfl, ?_⟩
  exact (by repeat (first | with_reducible assumption | exact Upd.refl _ _ | (refine Upd.setNew ?_ (by first | (simp; done) | (simp; omega)) _) | (refine Upd.alloc ?_ _) | (refine Upd.drewN ?_ _) | (refine Upd.drew ?_) | (refine Upd.trans ?_ (by with_reducible assumption))))

theorem supStretch (x : Int) (w : World) (h0 : 0 ≤ x) (h1 : x ≤ 1048576) : Calls Try.prog 17 #[.int .i64 x] w fun e w' => e = .returned (.bool true) ∧ Upd No w w' := by
  go_enter Try.func17, Try.ntmps17
  go_wp2
  go_ret
  exact ⟨rfl, (by repeat (first | with_reducible assumption | exact Upd.refl _ _ | (refine Upd.setNew ?_ (by first | (simp; done) | (simp; omega)) _) | (refine Upd.alloc ?_ _) | (refine Upd.drewN ?_ _) | (refine Upd.drew ?_) | (refine Upd.trans ?_ (by with_reducible assumption))))⟩

theorem supMost (b p t : Int) (w : World) (hr : resB b p = true) (h0 : 0 ≤ t) (h1 : t ≤ 1000) :
    Calls Try.prog 10 #[.agg #[.int .i64 b, .int .i64 p], .int .i64 t] w fun e w' => e = .returned (.int .i64 (b * (cdiv t p + 1))) ∧ Upd No w w' := by
  obtain ⟨hb1, hb2, hb3⟩ := (resB_iff b p).1 hr
  have HR := Lib.hid hr; clear hr
  have hq0 : 0 ≤ cdiv t p := by unfold cdiv; have := Int.ediv_nonneg h0 (show 0 ≤ p by omega); split <;> omega
  have hq1 : cdiv t p ≤ 1001 := by
    unfold cdiv
    have : t / p ≤ t := Int.ediv_le_self _ h0
    split <;> omega
  have hm1 : b * (cdiv t p + 1) ≤ 1048576 * 1002 := Int.mul_le_mul (by omega) (by omega) (by omega) (by omega)
  have hm0 : 0 ≤ b * (cdiv t p + 1) := Int.mul_nonneg (by omega) (by omega)
  have hw1 : IntKind.i64.wrap (cdiv t p + 1) = cdiv t p + 1 := IntWalk.i64_in _ (by omega)
  have hw2 : IntKind.i64.wrap (b * (cdiv t p + 1)) = b * (cdiv t p + 1) := IntWalk.i64_in _ (by omega)
  have hbx : ∀ w1, Upd No (w.alloc (.cells #[.int .i64 b, .int .i64 p] 31)) w1 → w1.cell? ⟨w.heap.size, 0, none⟩ = some (.int .i64 b) ∧ w1.cell? ⟨w.heap.size, 1, none⟩ = some (.int .i64 p) := fun w1 hu => ⟨hu.box 0, hu.box 1⟩
  have HBX := Lib.hid hbx
  clear hbx
  go_enter Try.func10, Try.ntmps10
  go_wp2_with (first
    | (go_at_call 13; refine (resRight b p _).mono ?_; rw [HR.out]; rintro e w1 ⟨rfl, hu1⟩; obtain ⟨c0, c1⟩ := HBX.out w1 hu1)
    | (go_at_call 17; refine (supStretch t _ h0 (by omega)).mono ?_; rintro e w2 ⟨rfl, hu2⟩; obtain ⟨d0, d1⟩ := HBX.out w2 (hu1.trans hu2)))
  go_region_law (go_simp; go_at_call 18; refine (byUp t p _ h0 (by omega) (by omega)).mono ?_; rintro e w3 ⟨rfl, hu3⟩; obtain ⟨e0, e1⟩ := HBX.out w3 (by repeat (first | with_reducible assumption | exact Upd.refl _ _ | (refine Upd.setNew ?_ (by first | (simp; done) | (simp; omega)) _) | (refine Upd.alloc ?_ _) | (refine Upd.drewN ?_ _) | (refine Upd.drew ?_) | (refine Upd.trans ?_ (by with_reducible assumption)))))
  all_goals
    (try go_simp)
    go_wp2
    go_ret
    exact ⟨rfl, (by repeat (first | with_reducible assumption | exact Upd.refl _ _ | (refine Upd.setNew ?_ (by first | (simp; done) | (simp; omega)) _) | (refine Upd.alloc ?_ _) | (refine Upd.drewN ?_ _) | (refine Upd.drew ?_) | (refine Upd.trans ?_ (by with_reducible assumption))))⟩

theorem srvNew (b p : Int) (hr : resB b p = true) (w : World) :
    Calls Try.prog 6 #[.agg #[.int .i64 b, .int .i64 p]] w fun e w' => ∃ g, w.heap.size ≤ g ∧ e = .returned (.tuple #[.pointer (some ⟨g, 0, none⟩), .int .i64 0]) ∧ SrvAt w' w.heap.size g ⟨b, p, 0, b, 0, [], []⟩ ∧ Upd No w w' := by
  have HR := Lib.hid hr; clear hr
  have hbx : ∀ w1, Upd No (w.alloc (.cells #[.int .i64 b, .int .i64 p] 31)) w1 → w1.cell? ⟨w.heap.size, 0, none⟩ = some (.int .i64 b) ∧ w1.cell? ⟨w.heap.size, 1, none⟩ = some (.int .i64 p) := fun w1 hu => ⟨hu.box 0, hu.box 1⟩
  have HBX := Lib.hid hbx
  clear hbx
  go_enter Try.func6, Try.ntmps6
  go_wp2_with (go_at_call 13; refine (resRight b p _).mono ?_; rw [HR.out]; rintro e w1 ⟨rfl, hu1⟩; obtain ⟨c0, c1⟩ := HBX.out w1 hu1)
  go_ret2
  have hs := hu1.size
  refine ⟨w1.heap.size, by simp at hs; omega, rfl, ⟨_, _, ⟨by simp at hs; omega, by simp at hs ⊢; omega, Row.new w1 _ _, World.ownsRow_nil _ _ _ _, World.ownsRow_nil _ _ _ _⟩⟩, (by repeat (first | with_reducible assumption | exact Upd.refl _ _ | (refine Upd.setNew ?_ (by first | (simp; done) | (simp; omega)) _) | (refine Upd.alloc ?_ _) | (refine Upd.drewN ?_ _) | (refine Upd.drew ?_) | (refine Upd.trans ?_ (by with_reducible assumption))))⟩

theorem srvDead {base g : Nat} {S : Sv} {w : World} (h : SrvAt w base g S) (c : Int × Int × Int) (r : List (Int × Int × Int)) (hcs : S.cs = c :: r) :
    Calls Try.prog 11 #[.pointer (some ⟨g, 0, none⟩)] w fun e w' => e = .returned (.tuple #[.int .i64 c.2.2, .bool true]) ∧ w = w' := by
  obtain ⟨v1, v2, h⟩ := h
  have hc1 := h.cs
  rw [hcs] at hc1
  obtain ⟨g1, cap, rfl, hc1', hc2, hb1, rd, fz⟩ := own_form hc1 (by simp)
  obtain ⟨_, _, a2⟩ := cells3 (k := 0) rd rfl
  have c4 := h.row.cell (i := 4) rfl
  have hn : (0 : Int) < (((c :: r).length : Nat) : Int) := by simp
  obtain ⟨n, hnn⟩ : ∃ n, (c :: r).length = n := ⟨_, rfl⟩
  rw [hnn] at c4 hn hc1'
  have hn0 : ¬ n = 0 := by omega
  clear h hc1 rd fz hnn hcs
  go_enter Try.func11, Try.ntmps11
  go_wp2
  go_ret2
  exact ⟨rfl, rfl⟩

set_option maxHeartbeats 1000000 in
theorem cloneC {n c : Nat} {A : Option Addr} {xs : List Value} {w : World} (hr : Rd w A xs) (hl : xs.length = n * 3) (hn : 0 < n) (hn1 : n < 1000000) (h1 : ∀ u ∈ xs, u.oneCell' = true) :
    Calls Try.prog 19 #[.slice A n c] w fun e w' => ∃ v, e = .returned v ∧ w'.ownsRow w.heap.size 44 3 v n xs ∧ Upd No w w' := by
  obtain ⟨g, o, rfl, hc⟩ := hr (by rintro rfl; simp at hl; omega)
  have HR := Lib.hid hr
  have HL := Lib.hid hl
  clear hr hl hc
  have hnil : ∀ W, Sem.run Try.prog (binOp .eql 39 (.slice (some ⟨g, o, none⟩) n c) (.slice none 0 0)) W = .ok (.bool false) W := fun W => Lib.run_eql_slice_nil W _ _ _ _ _ _ _ Try.underlying39
  go_enter Try.func19, Try.ntmps19
  go_wp2_with (at_builtin; refine wpList_app rfl (.tmp 5) (.tmp 6) elemChunk rfl (base := w.heap.size) (n := 0) (xs := []) rfl (own_lit w _ 3 0 [] w.heap.size rfl (Nat.le_refl _) rfl (by omega)) rfl (ys := xs) HL.out (HR.out.upd (by repeat (first | with_reducible assumption | exact Upd.refl _ _ | (refine Upd.setNew ?_ (by first | (simp; done) | (simp; omega)) _) | (refine Upd.alloc ?_ _) | (refine Upd.drewN ?_ _) | (refine Upd.drew ?_) | (refine Upd.trans ?_ (by with_reducible assumption))))) h1 (by omega) (by omega) (by simp) ?_
               intro v1 w1 ho1 hg1)
  go_ret
  exact ⟨v1, rfl, own_same ho1 (by simp) (by simp), Upd.grown (by repeat (first | with_reducible assumption | exact Upd.refl _ _ | (refine Upd.setNew ?_ (by first | (simp; done) | (simp; omega)) _) | (refine Upd.alloc ?_ _) | (refine Upd.drewN ?_ _) | (refine Upd.drew ?_) | (refine Upd.trans ?_ (by with_reducible assumption)))) hg1 (fun k e hlt => by have e' : some w.heap.size = some k := e; injection e' with e'; omega)⟩

set_option maxHeartbeats 1000000 in
theorem cloneR {n c : Nat} {A : Option Addr} {xs : List Value} {w : World} (hr : Rd w A xs) (hl : xs.length = n * 2) (hn : 0 < n) (hn1 : n < 1000000) (h1 : ∀ u ∈ xs, u.oneCell' = true) :
    Calls Try.prog 20 #[.slice A n c] w fun e w' => ∃ v, e = .returned v ∧ w'.ownsRow w.heap.size 46 2 v n xs ∧ Upd No w w' := by
  obtain ⟨g, o, rfl, hc⟩ := hr (by rintro rfl; simp at hl; omega)
  have HR := Lib.hid hr
  have HL := Lib.hid hl
  clear hr hl hc
  have hnil : ∀ W, Sem.run Try.prog (binOp .eql 40 (.slice (some ⟨g, o, none⟩) n c) (.slice none 0 0)) W = .ok (.bool false) W := fun W => Lib.run_eql_slice_nil W _ _ _ _ _ _ _ Try.underlying40
  go_enter Try.func20, Try.ntmps20
  go_wp2_with (at_builtin; refine wpList_app rfl (.tmp 5) (.tmp 6) elemRefill rfl (base := w.heap.size) (n := 0) (xs := []) rfl (own_lit w _ 2 0 [] w.heap.size rfl (Nat.le_refl _) rfl (by omega)) rfl (ys := xs) HL.out (HR.out.upd (by repeat (first | with_reducible assumption | exact Upd.refl _ _ | (refine Upd.setNew ?_ (by first | (simp; done) | (simp; omega)) _) | (refine Upd.alloc ?_ _) | (refine Upd.drewN ?_ _) | (refine Upd.drew ?_) | (refine Upd.trans ?_ (by with_reducible assumption))))) h1 (by omega) (by omega) (by simp) ?_
               intro v1 w1 ho1 hg1)
  go_ret
  exact ⟨v1, rfl, own_same ho1 (by simp) (by simp), Upd.grown (by repeat (first | with_reducible assumption | exact Upd.refl _ _ | (refine Upd.setNew ?_ (by first | (simp; done) | (simp; omega)) _) | (refine Upd.alloc ?_ _) | (refine Upd.drewN ?_ _) | (refine Upd.drew ?_) | (refine Upd.trans ?_ (by with_reducible assumption)))) hg1 (fun k e hlt => by have e' : some w.heap.size = some k := e; injection e' with e'; omega)⟩

/-- Parts, where there are chunks and refills. -/
theorem srvParts {base g : Nat} {S : Sv} {w : World} (h : SrvAt w base g S) (hc : 0 < S.cs.length) (hc1 : S.cs.length < 1000000) (hf : 0 < S.fs.length) (hf1 : S.fs.length < 1000000) :
    Calls Try.prog 12 #[.pointer (some ⟨g, 0, none⟩)] w fun e w' => ∃ v1 v2, e = .returned (.tuple #[.int .i64 S.av, v1, v2]) ∧ w'.ownsRow w.heap.size 44 3 v1 S.cs.length (S.cs.flatMap cCells) ∧ w'.ownsRow w.heap.size 46 2 v2 S.fs.length (S.fs.flatMap fCells) ∧ Upd No w w' := by
  obtain ⟨v1, v2, h⟩ := h
  obtain ⟨A1, cap1, rfl, _, _, hr1⟩ := own_read h.cs
  obtain ⟨A2, cap2, rfl, _, _, hr2⟩ := own_read h.fs
  have hl1 := flat_len cCells 3 (fun _ => rfl) S.cs
  have hl2 := flat_len fCells 2 (fun _ => rfl) S.fs
  have c3 := h.row.cell (i := 3) rfl
  have c4 := h.row.cell (i := 4) rfl
  have c5 := h.row.cell (i := 5) rfl
  have hrow := h.row
  obtain ⟨n1, hn1⟩ : ∃ n, S.cs.length = n := ⟨_, rfl⟩
  obtain ⟨n2, hn2⟩ : ∃ n, S.fs.length = n := ⟨_, rfl⟩
  rw [hn1] at hl1 c4 hc hc1 hrow ⊢
  rw [hn2] at hl2 c5 hf hf1 hrow ⊢
  have HR1 := Lib.hid hr1
  have HR2 := Lib.hid hr2
  have HL1 := Lib.hid hl1
  have HL2 := Lib.hid hl2
  have HROW := Lib.hid hrow
  clear h hr1 hr2 hl1 hl2 hn1 hn2 hrow
  go_enter Try.func12, Try.ntmps12
  go_wp2
  go_region_law (first
    | (go_simp; go_at_call 19
       refine Calls.mono (cloneC (HR1.out.updNo (by repeat (first | with_reducible assumption | exact Upd.refl _ _ | (refine Upd.setNew ?_ (by first | (simp; done) | (simp; omega)) _) | (refine Upd.alloc ?_ _) | (refine Upd.drewN ?_ _) | (refine Upd.drew ?_) | (refine Upd.trans ?_ (by with_reducible assumption))))).rd HL1.out hc hc1 (cCells_one _)) ?_
       rintro e w3 ⟨v3, rfl, ho3, hu3⟩
       have d3 := (HROW.out.updNo (w' := w3) (by repeat (first | with_reducible assumption | exact Upd.refl _ _ | (refine Upd.setNew ?_ (by first | (simp; done) | (simp; omega)) _) | (refine Upd.alloc ?_ _) | (refine Upd.drewN ?_ _) | (refine Upd.drew ?_) | (refine Upd.trans ?_ (by with_reducible assumption))))).cell (i := 3) rfl
       have d5 := (HROW.out.updNo (w' := w3) (by repeat (first | with_reducible assumption | exact Upd.refl _ _ | (refine Upd.setNew ?_ (by first | (simp; done) | (simp; omega)) _) | (refine Upd.alloc ?_ _) | (refine Upd.drewN ?_ _) | (refine Upd.drew ?_) | (refine Upd.trans ?_ (by with_reducible assumption))))).cell (i := 5) rfl)
    | (go_simp; go_at_call 20
       refine Calls.mono (cloneR (HR2.out.updNo (by repeat (first | with_reducible assumption | exact Upd.refl _ _ | (refine Upd.setNew ?_ (by first | (simp; done) | (simp; omega)) _) | (refine Upd.alloc ?_ _) | (refine Upd.drewN ?_ _) | (refine Upd.drew ?_) | (refine Upd.trans ?_ (by with_reducible assumption))))).rd HL2.out hf hf1 (fCells_one _)) ?_
       rintro e w4 ⟨v4, rfl, ho4, hu4⟩
       have d3' := (HROW.out.updNo (w' := w4) (by repeat (first | with_reducible assumption | exact Upd.refl _ _ | (refine Upd.setNew ?_ (by first | (simp; done) | (simp; omega)) _) | (refine Upd.alloc ?_ _) | (refine Upd.drewN ?_ _) | (refine Upd.drew ?_) | (refine Upd.trans ?_ (by with_reducible assumption))))).cell (i := 3) rfl))
  all_goals
    (try go_simp)
    go_wp2
    go_ret3
    have hu34 : Upd No w3 w4 := (by repeat (first | with_reducible assumption | exact Upd.refl _ _ | (refine Upd.setNew ?_ (by first | (simp; done) | (simp; omega)) _) | (refine Upd.alloc ?_ _) | (refine Upd.drewN ?_ _) | (refine Upd.drew ?_) | (refine Upd.trans ?_ (by with_reducible assumption))))
    exact ⟨v3, v4, rfl, own_base (own_updNo ho3 hu34) (Nat.le_refl _), own_base ho4 (by have := hu3.size; simp at this ⊢; omega), (by repeat (first | with_reducible assumption | exact Upd.refl _ _ | (refine Upd.setNew ?_ (by first | (simp; done) | (simp; omega)) _) | (refine Upd.alloc ?_ _) | (refine Upd.drewN ?_ _) | (refine Upd.drew ?_) | (refine Upd.trans ?_ (by with_reducible assumption))))⟩

end Go.Proofs.Ytojlkjmdcoolnaa
