/- The chapter's example of remontoirelaw14. -/
import Derived.Test.YtojlkjmdcoolnaaSvL
import Derived.Test.YtojlkjmdcoolnaaSv6
namespace Go.Proofs.Ytojlkjmdcoolnaa
open Go.RowKit

theorem SvV.mr {P : List TypeId} {b0 : Nat} {w w' : World} {base g : Nat} {v1 v2 : Value} {S : Sv} (h : SvV w base g v1 v2 S) (hu : Mr P b0 w w') (hP : ∀ T, T ∈ P → T ∉ srvT) : SvV w' base g v1 v2 S :=
  ⟨h.hb, Nat.le_trans h.hs hu.size, h.row.mr hu (fun q => hP _ q (by decide)), own_mr h.cs hu (fun q => hP _ q (by decide)), own_mr h.fs hu (fun q => hP _ q (by decide))⟩
theorem SrvAt.mr {P : List TypeId} {b0 : Nat} {w w' : World} {base g : Nat} {S : Sv} (h : SrvAt w base g S) (hu : Mr P b0 w w') (hP : ∀ T, T ∈ P → T ∉ srvT) : SrvAt w' base g S := by
  obtain ⟨v1, v2, h⟩ := h; exact ⟨v1, v2, h.mr hu hP⟩
theorem SrvAt.updNo {w w' : World} {base g : Nat} {S : Sv} (h : SrvAt w base g S) (hu : Upd No w w') : SrvAt w' base g S := by
  obtain ⟨v1, v2, h⟩ := h; exact ⟨v1, v2, h.updNo hu⟩

theorem Ok.runPre {B P : Int} {kl : Nat} {kc : Int} {S : Sv} (h : Ok B P kl kc S) (hk : kl < 100000) : S.fs.length < 1000000 := by have := h.len; omega

abbrev a0 : Sv := ⟨2, 5, 0, 2, 0, [], []⟩
abbrev a1 : Sv := ⟨2, 5, 0, 0, 0, [(2, 0, 5)], []⟩
abbrev a2 : Sv := ⟨2, 5, 0, 0, 1, [(1, 1, 5)], []⟩
abbrev a3 : Sv := ⟨2, 5, 1, 1, 1, [], [(5, 1)]⟩
abbrev a4 : Sv := ⟨2, 5, 2, 0, 1, [(1, 0, 7)], [(5, 1)]⟩
theorem a1_eq : beginS a0 0 true = a1 := by simp [beginS, popA, popR]
theorem a2_eq : runS a1 = (a2, true) := by simp [runS]
theorem a3_eq : beginS a2 1 false = a3 := by simp [beginS, popA, popR, leftS, backF]
theorem a4_eq : beginS a3 2 true = a4 := by simp [beginS, popA, popR]
theorem a0_ok : Ok 2 5 0 0 a0 := (Ran.start (B := 2) (P := 5) (by omega)).ok
theorem a1_ok : Ok 2 5 1 0 a1 := by have := (a0_ok.begin (by omega) (now := 0) (by decide) true).1; rwa [a1_eq] at this
theorem a2_ok : Ok 2 5 1 1 a2 := by have := a1_ok.run.1; rwa [a2_eq] at this
theorem a3_ok : Ok 2 5 2 1 a3 := by have := (a2_ok.begin (by omega) (now := 1) (by decide) false).1; rwa [a3_eq] at this

set_option maxHeartbeats 4000000 in
theorem lawAwake (w : World) : Calls Try.prog 4 #[] w fun e w' => e = .returned (.bool true) ∧ Upd No w w' := by
  have heq : ∀ W, Sem.run Try.prog (binOp .eql 46 (.agg #[.int .i64 5, .int .i64 1]) (.agg #[.int .i64 5, .int .i64 1])) W = .ok (.bool true) W := fun W => by kernel_rfl
  go_enter Try.func4, Try.ntmps4
  go_wp2_with (first
    | (go_at_call 6; refine (srvNew 2 5 (by decide) _).mono ?_; rintro e w0 ⟨g, hg, rfl, hs0, hu0⟩)
    | (go_at_call 8; with_reducible refine Calls.mono (srvBegin (S := a0) hs0 (a0_ok.fit (by omega) (by omega) (by omega)) 0 (by decide) (by omega) true) ?_; rw [a1_eq]; rintro e w1 ⟨rfl, hs1, hm1⟩)
    | (go_at_call 9; with_reducible refine Calls.mono (srvRun (S := a1) hs1 (a1_ok.runPre (by omega)) (a1_ok.part (by omega)) (by decide) a1_ok.ord) ?_; rw [a2_eq]; rintro e w2 ⟨rfl, hs2, hm2⟩)
    | (go_at_call 8; with_reducible refine Calls.mono (srvBegin (S := a2) hs2 (a2_ok.fit (by omega) (by omega) (by omega)) 1 (by decide) (by omega) false) ?_; rw [a3_eq]; rintro e w3 ⟨rfl, hs3, hm3⟩)
    | (go_at_call 8; with_reducible refine Calls.mono (srvBegin (S := a3) hs3 (a3_ok.fit (by omega) (by omega) (by omega)) 2 (by decide) (by omega) true) ?_; rw [a4_eq]; rintro e w4 ⟨rfl, hs4, hm4⟩)
    | (go_at_call 11; with_reducible refine Calls.mono (srvDead (S := a4) hs4 (1, 0, 7) [] rfl) ?_; rintro e w5 ⟨rfl, rfl⟩)
    | (go_at_call 12; with_reducible refine Calls.mono (srvParts (S := a4) hs4 (by decide) (by decide) (by decide) (by decide)) ?_
       rintro e w6 ⟨v1, v2, rfl, ho1, ho2, hu6⟩
       obtain ⟨g1, cap1, rfl, hc1, hc1m, _, rd1, _⟩ := own_form ho1 (by decide)
       obtain ⟨g2, cap2, rfl, hc2, hc2m, _, rd2, _⟩ := own_form ho2 (by decide)
       have d0 : w6.cell? ⟨g1, 0, none⟩ = some (.int .i64 1) := by
         rcases rd1 0 with q | q
         · rw [q]; rfl
         · simp [cCells] at q
       have d1 : w6.cell? ⟨g2, 0, none⟩ = some (.int .i64 5) := by
         rcases rd2 0 with q | q
         · rw [q]; rfl
         · simp [fCells] at q
       have d2 : w6.cell? ⟨g2, 1, none⟩ = some (.int .i64 1) := by
         rcases rd2 1 with q | q
         · rw [q]; rfl
         · simp [fCells] at q
       clear rd1 rd2))
  go_ret
  exact ⟨rfl, (Mv.over hu0 (((hm1.trans hm2).trans hm3).trans hm4).mv (Nat.le_refl _)).trans hu6⟩

end Go.Proofs.Ytojlkjmdcoolnaa
