/- note and Run of package server. -/
import Derived.Test.YtojlkjmdcoolnaaSv2
namespace Go.Proofs.Ytojlkjmdcoolnaa
open Go.RowKit

def noteS (S : Sv) (x : Int × Int × Int) : Sv := if x.2.1 = 0 then S else { S with fs := S.fs ++ [(x.2.2, x.2.1)] }

theorem own_cell' {w : World} {base T sz n g : Nat} {U : TypeId} {v : Value} {xs ys : List Value} (h : w.ownsRow base T sz v n xs) (hg : Row w g U ys) (ht : U ≠ T) (i : Nat) (u : Value) : (w.setCell ⟨g, i, none⟩ u).ownsRow base T sz v n xs := by
  refine own_upd (S := at1 g) h ((Upd.refl _ _).set1 i u) (fun k hk q => ?_)
  unfold at1 at q; subst q
  rcases h.2 with ⟨rfl, _⟩ | ⟨g', cap, cur, rfl, _, hg', _⟩
  · cases hk
  · simp only [Value.ownBlock, Option.some.injEq] at hk
    subst hk
    unfold Row at hg; rw [hg'] at hg
    simp only [Option.some.injEq, Obj.cells.injEq] at hg
    exact ht hg.2.1.symm
theorem Row.rd' {w : World} {g : Nat} {T : TypeId} {xs : List Value} (h : Row w g T xs) : Rd w (some ⟨g, 0, none⟩) xs := fun _ => ⟨g, 0, rfl, fun j u hj => by rw [Nat.zero_add]; exact h.cell hj⟩

set_option maxHeartbeats 1000000 in
theorem srvNote {base g : Nat} {v1 v2 : Value} {S : Sv} {w : World} (h : SvV w base g v1 v2 S) (x : Int × Int × Int) (hle : ∀ f ∈ S.fs, f.1 ≤ x.2.2) (hl : S.fs.length < 1000000) :
    Calls Try.prog 15 #[.pointer (some ⟨g, 0, none⟩), .agg #[.int .i64 x.1, .int .i64 x.2.1, .int .i64 x.2.2]] w fun e w' => e = .returned (.tuple #[]) ∧ ∃ v2', SvV w' base g v1 v2' (noteS S x) ∧ Mr srvR base w w' := by
  by_cases hz : x.2.1 = 0
  · have e : noteS S x = S := by simp [noteS, hz]
    rw [e]
    have H := Lib.hid h
    clear h e
    go_enter Try.func15, Try.ntmps15
    go_wp2
    (try simp only [Exit.inBlock, Exit.then])
    refine bodyPost_ret (results_none rfl _ _ _) rfl ?_
    exact ⟨rfl, v2, H.out.updNo (by repeat (first | with_reducible assumption | exact Upd.refl _ _ | (refine Upd.setNew ?_ (by first | (simp; done) | (simp; omega)) _) | (refine Upd.alloc ?_ _) | (refine Upd.drewN ?_ _) | (refine Upd.drew ?_) | (refine Upd.trans ?_ (by with_reducible assumption)))), Mr.ofNo (by repeat (first | with_reducible assumption | exact Upd.refl _ _ | (refine Upd.setNew ?_ (by first | (simp; done) | (simp; omega)) _) | (refine Upd.alloc ?_ _) | (refine Upd.drewN ?_ _) | (refine Upd.drew ?_) | (refine Upd.trans ?_ (by with_reducible assumption))))⟩
  have e : noteS S x = { S with fs := S.fs ++ [(x.2.2, x.2.1)] } := by simp [noteS, hz]
  rw [e]
  obtain ⟨A, cap, rfl, hc1, hc2, hrd⟩ := own_read h.fs
  have hlen : S.fs.length = S.fs.length := rfl
  obtain ⟨n, hn⟩ : ∃ n, S.fs.length = n := ⟨_, rfl⟩
  have hfs := h.fs
  have hrow := h.row
  have hs := h.hs
  rw [hn] at hfs hrow hc1 hl
  have c5 : ∀ w1, Upd No w w1 → w1.cell? ⟨g, 5, none⟩ = some (.slice A n cap) ∧ ∀ j, w1.frozen? ⟨g, j, none⟩ = false := fun w1 hu => ⟨(hrow.updNo hu).cell (i := 5) rfl, (hrow.updNo hu).frozen⟩
  have a5 := (c5 _ ((Upd.refl No w).alloc (.cells #[.int .i64 x.1, .int .i64 x.2.1, .int .i64 x.2.2] 44))).1
  have hbx : ∀ w1, Upd No (w.alloc (.cells #[.int .i64 x.1, .int .i64 x.2.1, .int .i64 x.2.2] 44)) w1 → w1.cell? ⟨w.heap.size, 1, none⟩ = some (.int .i64 x.2.1) ∧ w1.cell? ⟨w.heap.size, 2, none⟩ = some (.int .i64 x.2.2) := fun w1 hu => ⟨hu.box 1, hu.box 2⟩
  have H := Lib.hid h
  have HN := Lib.hid hn
  have HC := Lib.hid c5
  have HBX := Lib.hid hbx
  have HLE := Lib.hid hle
  have HFS := Lib.hid hfs
  have HRD := Lib.hid hrd
  have hd := (hbx _ (Upd.refl _ _)).2
  clear h e hn c5 hbx hle hfs hrow hrd hlen
  go_enter Try.func15, Try.ntmps15
  go_wp2_with (go_at_call 21; refine (idxNone A n cap w.heap.size S.fs HN.out.symm (by omega) x.2.2 HLE.out _ (HRD.out.updNo (by repeat (first | with_reducible assumption | exact Upd.refl _ _ | (refine Upd.setNew ?_ (by first | (simp; done) | (simp; omega)) _) | (refine Upd.alloc ?_ _) | (refine Upd.drewN ?_ _) | (refine Upd.drew ?_) | (refine Upd.trans ?_ (by with_reducible assumption))))).rd hd).mono ?_; rintro e w2 ⟨rfl, hu2⟩
               have hu3 : Upd No w w2 := (by repeat (first | with_reducible assumption | exact Upd.refl _ _ | (refine Upd.setNew ?_ (by first | (simp; done) | (simp; omega)) _) | (refine Upd.alloc ?_ _) | (refine Upd.drewN ?_ _) | (refine Upd.drew ?_) | (refine Upd.trans ?_ (by with_reducible assumption))))
               obtain ⟨b1, b2⟩ := HBX.out w2 hu2
               obtain ⟨b1', b2'⟩ := HBX.out _ (hu2.alloc (.cells #[.int .i64 x.2.2, .int .i64 x.2.1] 46))
               obtain ⟨c5, c5f⟩ := HC.out w2 hu3
               obtain ⟨c5', _⟩ := HC.out _ (hu3.alloc (.cells #[.int .i64 x.2.2, .int .i64 x.2.1] 46))
               clear a5 hd)
  go_region_law (first
    | (go_simp; go_at_call 23
       refine Calls.mono (insEnd (base := base) (xs := S.fs.flatMap fCells) (v := .slice A n cap) ?ha hl ?hb _ 1 [.int .i64 x.2.2, .int .i64 x.2.1] rfl ?hc ?hd) ?_
       case ha => exact own_updNo HFS.out (by repeat (first | with_reducible assumption | exact Upd.refl _ _ | (refine Upd.setNew ?_ (by first | (simp; done) | (simp; omega)) _) | (refine Upd.alloc ?_ _) | (refine Upd.drewN ?_ _) | (refine Upd.drew ?_) | (refine Upd.trans ?_ (by with_reducible assumption))))
       case hb => have := hu3.size; simp; omega
       case hc => exact (Row.newAt _ 46 _ _ (by first | rfl | simp)).rd'
       case hd => simp [Value.oneCell']
       rintro e w4 ⟨v4, rfl, ho4, hg4⟩
       obtain ⟨A4, cap4, rfl, _, _, _⟩ := own_read ho4
       have m4 : Mr srvR base w w4 := Mr.app (Mr.ofNo (by repeat (first | with_reducible assumption | exact Upd.refl _ _ | (refine Upd.setNew ?_ (by first | (simp; done) | (simp; omega)) _) | (refine Upd.alloc ?_ _) | (refine Upd.drewN ?_ _) | (refine Upd.drew ?_) | (refine Upd.trans ?_ (by with_reducible assumption))))) (own_updNo HFS.out (by repeat (first | with_reducible assumption | exact Upd.refl _ _ | (refine Upd.setNew ?_ (by first | (simp; done) | (simp; omega)) _) | (refine Upd.alloc ?_ _) | (refine Upd.drewN ?_ _) | (refine Upd.drew ?_) | (refine Upd.trans ?_ (by with_reducible assumption))))) hg4 (by decide) (Nat.le_refl _)
       have m4' : Mr [46] base w w4 := Mr.app (Mr.ofNo (by repeat (first | with_reducible assumption | exact Upd.refl _ _ | (refine Upd.setNew ?_ (by first | (simp; done) | (simp; omega)) _) | (refine Upd.alloc ?_ _) | (refine Upd.drewN ?_ _) | (refine Upd.drew ?_) | (refine Upd.trans ?_ (by with_reducible assumption))))) (own_updNo HFS.out (by repeat (first | with_reducible assumption | exact Upd.refl _ _ | (refine Upd.setNew ?_ (by first | (simp; done) | (simp; omega)) _) | (refine Upd.alloc ?_ _) | (refine Upd.drewN ?_ _) | (refine Upd.drew ?_) | (refine Upd.trans ?_ (by with_reducible assumption))))) hg4 (by decide) (Nat.le_refl _)
       have r4 := H.out.row.mr m4' (by decide)
       have f4 := r4.frozen
       have d4 := r4.cell (i := 5) rfl))
  all_goals
    (try go_simp)
    go_end0
    refine ⟨rfl, _, ⟨H.out.hb, ?_, (r4.set 5 _).same rfl, ?_, ?_⟩, m4.set r4 (by decide) H.out.hb 5 _⟩
    · have := m4.size; have := H.out.hs; simp; omega
    · exact own_cell' (own_mr H.out.cs m4' (by decide)) r4 (by decide) 5 _
    · exact own_same (own_cell' ho4 r4 (by decide) 5 _) (by simp [fCells]) (by simp; exact HN.out.symm)

def SrvAt (w : World) (base g : Nat) (S : Sv) : Prop := ∃ v1 v2, SvV w base g v1 v2 S

end Go.Proofs.Ytojlkjmdcoolnaa
