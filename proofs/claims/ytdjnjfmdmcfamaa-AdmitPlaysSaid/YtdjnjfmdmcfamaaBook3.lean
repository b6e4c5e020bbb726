/- Advance of package admit. -/
import Derived.Test.YtdjnjfmdmcfamaaBook2
namespace Go.Proofs.Ytdjnjfmdmcfamaa
open Go.RowKit

def outP (t : Int) (p : List (Int × Int)) : List (Int × Int) := p.filter (fun x => decide (x.2 ≤ t))
def inP (t : Int) (p : List (Int × Int)) : List (Int × Int) := p.filter (fun x => decide (t < x.2))
def advanceB (B : Bk) (now : Int) : Bk × Int := if now < B.now then (B, 0) else ({ B with now := now, used := B.used - sumP (outP now B.p), p := inP now B.p }, (outP now B.p).length)

theorem sumP_nil : sumP [] = 0 := rfl
theorem sumP_cons (x : Int × Int) (p : List (Int × Int)) : sumP (x :: p) = x.1 + sumP p := by simp [sumP]
theorem sumP_app (p q : List (Int × Int)) : sumP (p ++ q) = sumP p + sumP q := by simp [sumP]
theorem sumP_nonneg {p : List (Int × Int)} (h : ∀ x, x ∈ p → 0 ≤ x.1) : 0 ≤ sumP p := by
  induction p with
  | nil => simp [sumP]
  | cons x p ih => rw [sumP_cons]; have := h x (by simp); have := ih (fun y hy => h y (by simp [hy])); omega
theorem sumP_sub {q p : List (Int × Int)} (h : q.Sublist p) (hp : ∀ x, x ∈ p → 0 ≤ x.1) : sumP q ≤ sumP p := by
  induction h with
  | slnil => omega
  | @cons l₁ l₂ a hs ih => rw [sumP_cons]; have := hp a (by simp); have := ih (fun y hy => hp y (by simp [hy])); omega
  | @cons_cons l₁ l₂ a hs ih => rw [sumP_cons, sumP_cons]; have := ih (fun y hy => hp y (by simp [hy])); omega
theorem outP_step {t : Int} {p : List (Int × Int)} {k : Nat} {x : Int × Int} (hx : p[k]? = some x) : outP t (p.take (k + 1)) = outP t (p.take k) ++ (if x.2 ≤ t then [x] else []) := by
  rw [List.take_add_one, hx, outP, List.filter_append]
  by_cases h : x.2 ≤ t <;> simp [outP, h]
theorem inP_step {t : Int} {p : List (Int × Int)} {k : Nat} {x : Int × Int} (hx : p[k]? = some x) : inP t (p.take (k + 1)) = inP t (p.take k) ++ (if x.2 ≤ t then [] else [x]) := by
  rw [List.take_add_one, hx, inP, List.filter_append]
  by_cases h : x.2 ≤ t
  · have : ¬ t < x.2 := by omega
    simp [inP, h, this]
  · have : t < x.2 := by omega
    simp [inP, h, this]
theorem Rd.bk {w : World} {A : Option Addr} {l : List (Int × Int)} (h : Rd w A (l.flatMap bkCells)) {k : Nat} {t : Int × Int} (ht : l[k]? = some t) :
    ∃ g o, A = some ⟨g, o, none⟩ ∧ w.cell? ⟨g, o + k * 2, none⟩ = some (.int .u64 t.1) ∧ w.cell? ⟨g, o + k * 2 + 1, none⟩ = some (.int .i64 t.2) := by
  have hne : l.flatMap bkCells ≠ [] := by
    intro e
    have h1 := flat_get bkCells 2 (fun _ => rfl) l k t ht 0 (by omega)
    rw [e] at h1; simp [bkCells] at h1
  obtain ⟨g, o, e, hc⟩ := h hne
  refine ⟨g, o, e, ?_, ?_⟩
  · exact hc (k * 2) _ (by have := flat_get bkCells 2 (fun _ => rfl) l k t ht 0 (by omega); simpa [bkCells] using this)
  · exact hc (k * 2 + 1) _ (by have := flat_get bkCells 2 (fun _ => rfl) l k t ht 1 (by omega); simpa [bkCells] using this)

theorem own_new {w : World} {base T sz n : Nat} {v : Value} {xs : List Value} (h : w.ownsRow base T sz v n xs) : ∀ k, v.ownBlock = some k → base ≤ k := by
  intro k hk
  rcases h.2 with ⟨rfl, _⟩ | ⟨g, cap, cur, rfl, hb, _⟩
  · cases hk
  · simp only [Value.ownBlock, Option.some.injEq] at hk
    omega

set_option maxHeartbeats 1000000 in
theorem bookAdvance {b n base : Nat} {B : Bk} {w : World} (h : Bok w base b n B) (hok : B.ok) (hp : B.p.length < 1000000) (now : Int) :
    Calls Try.prog 7 #[.pointer (some ⟨b, 0, none⟩), .int .i64 now] w (DidB w base b n (advanceB B now)) := by
  obtain ⟨r, v, h⟩ := h
  obtain ⟨A, cap, rfl, hcap1, hcap2, hrd⟩ := own_read h.pend
  have hrow := h.row
  have c0 := h.row.cell (i := 0) rfl
  have c3 := h.row.cell (i := 3) rfl
  have hfz := h.row.frozen
  have hu1 := hok.u1
  have hps := hok.ps
  have hsm := hok.sum
  by_cases hlt : now < B.now
  · have e : advanceB B now = (B, 0) := by simp [advanceB, hlt]
    rw [e]
    have H := Lib.hid h
    clear h e
    go_enter Try.func7, Try.ntmps7
    go_wp2
    go_ret
    exact ⟨rfl, ⟨_, _, H.out⟩, Mv.refl _ _ _⟩
  have e : advanceB B now = (({ B with now := now, used := B.used - sumP (outP now B.p), p := inP now B.p }, ((outP now B.p).length : Int)) : Bk × Int) := by simp [advanceB, hlt]
  rw [e]
  have hgoal : True := trivial
  have H := Lib.hid h
  have HPS := Lib.hid hps
  have HSM := Lib.hid hsm
  have r0 : Row _ b 29 [.int .i64 now, .int .u64 B.used, .map r, .slice A B.p.length cap] := hrow.set 0 (.int .i64 now)
  have c3' := r0.cell (i := 3) rfl
  clear h e hps hsm
  go_enter Try.func7, Try.ntmps7
  go_wp2
  go_loopw [5, 6, 28] (fun gone rest idx wr => ∃ (k : Nat), k ≤ B.p.length ∧ gone = .int .i64 ((outP now (B.p.take k)).length : Nat) ∧ idx = .int .i64 k ∧ Upd (at1 b) w wr ∧ Row wr b 29 [.int .i64 now, .int .u64 (B.used - sumP (outP now (B.p.take k))), .map r, .slice A B.p.length cap] ∧ wr.ownsRow w.heap.size 61 2 rest (inP now (B.p.take k)).length ((inP now (B.p.take k)).flatMap bkCells)) (fun _ _ idx _ => B.p.length - (intOf idx).toNat)
  case atStart =>
    refine ⟨0, Nat.zero_le _, rfl, rfl, (Upd.refl _ _).set1 _ _, ?_, ?_⟩
    · exact r0.same (by simp [outP, sumP])
    · exact World.ownsRow_nil _ _ _ _
  case round =>
    clear c0 c3 c3' r0 hfz
    obtain ⟨k, hk, rfl, rfl, hu, hr, ho⟩ := hrel
    by_cases hkl : k < B.p.length
    · obtain ⟨x, hx⟩ : ∃ x, B.p[k]? = some x := ⟨B.p[k]'hkl, List.getElem?_eq_getElem _⟩
      obtain ⟨ga, o, rfl, a0, a1⟩ := (hrd.upd1 hu hrow (by decide)).rd.bk hx
      have hx0 := HPS.out x (List.mem_iff_getElem?.2 ⟨k, hx⟩)
      have hs1 : sumP (outP now (B.p.take (k + 1))) ≤ sumP B.p := sumP_sub (List.filter_sublist.trans (List.take_sublist _ _)) HPS.out
      have hs0 : 0 ≤ sumP (outP now (B.p.take k)) := sumP_nonneg (fun y hy => HPS.out y (List.mem_of_mem_take (List.mem_filter.1 hy).1))
      have hl0 : (outP now (B.p.take k)).length ≤ k := by
        have h1 : (outP now (B.p.take k)).length ≤ (B.p.take k).length := List.length_filter_le _ _
        have h2 : (B.p.take k).length ≤ k := by simp; omega
        omega
      have hl1 : (inP now (B.p.take k)).length ≤ k := by
        have h1 : (inP now (B.p.take k)).length ≤ (B.p.take k).length := List.length_filter_le _ _
        have h2 : (B.p.take k).length ≤ k := by simp; omega
        omega
      have b1 := hr.cell (i := 1) rfl
      have bf := hr.frozen
      have hbx := hr.alloc (.cells #[.int .u64 x.1, .int .i64 x.2] 61)
      have b1x := hbx.cell (i := 1) rfl
      have bfx := hbx.frozen
      have hm := HSM.out
      have hout := outP_step (t := now) hx
      have hin := inP_step (t := now) hx
      by_cases ht : x.2 ≤ now
      · rw [if_pos ht] at hout hin
        rw [hout, sumP_app, sumP_cons, sumP_nil] at hs1
        have HO := Lib.hid hout
        have HI := Lib.hid hin
        clear hout hin hx
        go_wp2_with fail
        go_region
        all_goals go_wp2
        go_roundw
        case rel =>
          refine ⟨k + 1, by omega, ?_, by go_num, ?_, ?_, ?_⟩
          · rw [HO.out]; simp
          · exact ((hu.alloc _).set1 _ _).drew
          · refine ((hbx.set 1 _).drew).same ?_
            rw [HO.out, sumP_app, sumP_cons, sumP_nil]
            simp only [List.set_cons_succ, List.set_cons_zero]
            rw [show B.used - (sumP (outP now (List.take k B.p)) + (x.1 + 0)) = B.used - sumP (outP now (List.take k B.p)) - x.1 by omega]
          · rw [HI.out]
            exact own_same (own_updNo (own_cell (own_updNo ho ((Upd.refl No wr).alloc _)) hbx (by decide) 1 _) (Upd.refl No _).drew) (by simp) (by simp)
        case measure => simp [intOf]; omega
      · rw [if_neg ht] at hout hin
        have HO := Lib.hid hout
        have HI := Lib.hid hin
        have hsz := hu.size
        clear hout hin hx
        go_wp2_with (at_builtin; refine wpList_app rfl (.tmp 47) (.tmp 49) elemBack rfl (base := w.heap.size) (n := (inP now (B.p.take k)).length) (xs := (inP now (B.p.take k)).flatMap bkCells) rfl (own_updNo ho (by repeat (first | with_reducible assumption | exact Upd.refl _ _ | (refine Upd.setNew ?_ (by first | (simp; done) | (simp; omega)) _) | (refine Upd.alloc ?_ _) | (refine Upd.drewN ?_ _) | (refine Upd.drew ?_) | (refine Upd.trans ?_ (by with_reducible assumption))))) rfl (ys := bkCells x) ?h4 ?h5 ?h6 ?h7 ?h8 ?h9 ?_
                     case h4 => rfl
                     case h5 => exact (Row.newAt _ _ _ _ (by first | rfl | simp)).rd
                     case h6 => simp [bkCells, Value.oneCell']
                     case h7 => omega
                     case h8 => omega
                     case h9 => simp; omega
                     intro v6 w6 hp6 hg6
                     have hr6 := (hbx.alloc (.cells #[.int .u64 x.1, .int .i64 x.2] 61)).grownOwn ho (by repeat (first | with_reducible assumption | exact Upd.refl _ _ | (refine Upd.setNew ?_ (by first | (simp; done) | (simp; omega)) _) | (refine Upd.alloc ?_ _) | (refine Upd.drewN ?_ _) | (refine Upd.drew ?_) | (refine Upd.trans ?_ (by with_reducible assumption)))) hg6 (by decide))
        go_roundw
        case rel =>
          refine ⟨k + 1, by omega, ?_, by go_num, ?_, ?_, ?_⟩
          · rw [HO.out]; simp
          · refine Upd.grown ((hu.alloc _).alloc _) hg6 (fun i hi hlt => ?_)
            exact absurd hlt (by have := own_new ho i hi; omega)
          · refine hr6.same ?_
            rw [HO.out]; simp
          · rw [HI.out]
            exact own_same hp6 (by simp) (by simp)
        case measure => simp [intOf]; omega
    · have ek : k = B.p.length := by omega
      subst ek
      rw [List.take_length] at hr ho
      obtain ⟨A6, cap6, rfl, _, _, _⟩ := own_read ho
      have b3 := hr.cell (i := 3) rfl
      have bf := hr.frozen
      go_wp2
      go_ret
      rw [List.take_length]
      have h := H.out
      refine ⟨rfl, ⟨r, _, h.hb, ?_, (hr.set 3 _).same rfl, ?_, ?_⟩, ?_⟩
      · have := hu.size; have := h.hs; simp; omega
      · exact (h.map.upd hu (fun k es clock he q => by unfold at1 at q; subst q; unfold Row at hrow; rw [hrow] at he; cases he)).cell hr 3 _
      · exact own_cell (own_base ho h.hs) hr (by decide) 3 _
      · exact Mv.set (hu.mono (fun k _ q => by unfold at1 at q; subst q; exact Tch.row hrow (by decide) h.hb)) hr (by decide) h.hb 3 _

end Go.Proofs.Ytdjnjfmdmcfamaa
