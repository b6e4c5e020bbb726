/- The laws' own helpers over package admit: the example, fits, to; and ref13.Share. -/
import Derived.Test.YtdjnjfmdmcfamaaBook3
namespace Go.Proofs.Ytdjnjfmdmcfamaa
open Go.RowKit

theorem Bok.more {w : World} {base b n : Nat} {B : Bk} (h : Bok w base b n B) : Bok w base b (n + 1) B := by
  obtain ⟨r, v, h⟩ := h
  exact ⟨r, v, { h with map := h.map.mono (by omega) }⟩

theorem bookEmpty (w : World) (b base : Nat) (hb : b = w.heap.size) (hbase : base ≤ b) : Bok (w.alloc (.cells #[.int .i64 0, .int .u64 0, .map none, .slice none 0 0] 29)) base b 0 ⟨0, 0, fun _ => none, []⟩ :=
  ⟨none, .slice none 0 0, hbase, by simp; omega, Row.newAt _ _ _ _ hb, fun _ => rfl, World.ownsRow_nil _ _ _ _⟩
theorem okEmpty : Bk.ok ⟨0, 0, fun _ => none, []⟩ := ⟨by simp, by simp, fun _ _ h => by simp at h, fun _ h => by simp at h, by simp [sumP]⟩

theorem lawTo (b p : Int) (w : World) : Calls Try.prog 9 #[.agg #[.int .i64 b, .int .i64 p]] w fun e w' => e = .returned (.agg #[.int .i64 b, .int .i64 p]) ∧ Upd No w w' := by
  go_enter Try.func9, Try.ntmps9
  go_wp2
  refine bodyPost_ret (v := .agg #[.int .i64 b, .int .i64 p]) (by simp [results, Try.results9, go_sem]) rfl ⟨rfl, ?_⟩

  exact (by repeat (first | with_reducible assumption | exact Upd.refl _ _ | (refine Upd.setNew ?_ (by first | (simp; done) | (simp; omega)) _) | (refine Upd.alloc ?_ _) | (refine Upd.drewN ?_ _) | (refine Upd.drew ?_) | (refine Upd.trans ?_ (by with_reducible assumption))))

theorem refShare (b p : Int) (hr : resB b p = true) (w : World) : Calls Try.prog 12 #[.agg #[.int .i64 b, .int .i64 p]] w fun e w' => e = .returned (.int .u64 (shareP b p)) ∧ Upd No w w' := by
  obtain ⟨hb1, hb2, hb3⟩ := (resB_iff b p).1 hr
  clear hr
  have h := Int.mul_ediv_add_emod (b * 4294967296) p
  have h0 := Int.emod_nonneg (b * 4294967296) (show p ≠ 0 by omega)
  have h1 := Int.emod_lt_of_pos (b * 4294967296) (show 0 < p by omega)
  have hd0 : 0 ≤ b * 4294967296 / p := Int.ediv_nonneg (by omega) (by omega)
  have hd1 : b * 4294967296 / p ≤ b * 4294967296 := Int.ediv_le_self _ (by omega)
  have hc2 : b * 4294967296 / p * p = p * (b * 4294967296 / p) := Int.mul_comm _ _
  have hw : IntKind.u64.wrap (p * (b * 4294967296 / p)) = p * (b * 4294967296 / p) := IntWalk.u64_in _ (by omega)
  have hw' : IntKind.u64.wrap ((b * 4294967296 / p) * p) = p * (b * 4294967296 / p) := by rw [hc2]; exact hw
  have e : shareP b p = if b * 4294967296 % p = 0 then b * 4294967296 / p else b * 4294967296 / p + 1 := by unfold shareP cdiv; rw [Int.mul_comm 4294967296 b]
  rw [e]
  by_cases hm : b * 4294967296 % p = 0
  · rw [if_pos hm]
    have hM : p * (b * 4294967296 / p) = b * 4294967296 := by omega
    rw [hM] at hw hw'
    clear hm h h0 h1 hc2 hM e
    go_enter Try.func12, Try.ntmps12
    go_wp2
    go_ret
    exact ⟨rfl, (by repeat (first | with_reducible assumption | exact Upd.refl _ _ | (refine Upd.setNew ?_ (by first | (simp; done) | (simp; omega)) _) | (refine Upd.alloc ?_ _) | (refine Upd.drewN ?_ _) | (refine Upd.drew ?_) | (refine Upd.trans ?_ (by with_reducible assumption))))⟩
  · rw [if_neg hm]
    obtain ⟨M, hM'⟩ : ∃ M, p * (b * 4294967296 / p) = M := ⟨_, rfl⟩
    rw [hM'] at h
    have hM : M < b * 4294967296 := by omega
    have hw2 : IntKind.u64.wrap (p * (b * 4294967296 / p)) = M := by rw [hw, hM']
    have hw2' : IntKind.u64.wrap ((b * 4294967296 / p) * p) = M := by rw [hw', hM']
    clear hm h h0 h1 hc2 hM' e hw hw'
    go_enter Try.func12, Try.ntmps12
    go_wp2
    go_ret
    exact ⟨rfl, (by repeat (first | with_reducible assumption | exact Upd.refl _ _ | (refine Upd.setNew ?_ (by first | (simp; done) | (simp; omega)) _) | (refine Upd.alloc ?_ _) | (refine Upd.drewN ?_ _) | (refine Upd.drew ?_) | (refine Upd.trans ?_ (by with_reducible assumption))))⟩

theorem lawAwake (w : World) : Calls Try.prog 5 #[] w fun e w' => e = .returned (.bool true) ∧ Upd No w w' := by
  have hA := bookEmpty w w.heap.size w.heap.size rfl (Nat.le_refl _)
  have e1 : admitB ⟨0, 0, fun _ => none, []⟩ 1 1 2 = (⟨0, 2147483648, fun j => if j = 1 then some 2147483648 else none, []⟩, 0) := by simp [admitB, resB, shareP, cdiv]
  have e2 : admitB ⟨0, 2147483648, fun j => if j = 1 then some 2147483648 else none, []⟩ 2 1 2 = (⟨0, 4294967296, fun j => if j = 2 then some 2147483648 else if j = 1 then some 2147483648 else none, []⟩, 0) := by simp [admitB, resB, shareP, cdiv]
  have e3 : admitB ⟨0, 4294967296, fun j => if j = 2 then some 2147483648 else if j = 1 then some 2147483648 else none, []⟩ 3 1 1000000 = (⟨0, 4294967296, fun j => if j = 2 then some 2147483648 else if j = 1 then some 2147483648 else none, []⟩, 24) := by simp [admitB, resB, shareP, cdiv]
  have o1 : Bk.ok ⟨0, 2147483648, fun j => if j = 1 then some 2147483648 else none, []⟩ := ⟨by simp, by simp, fun i s h => by simp only at h; split at h <;> cases h; simp, fun _ h => by simp at h, by simp [sumP]⟩
  have o2 : Bk.ok ⟨0, 4294967296, fun j => if j = 2 then some 2147483648 else if j = 1 then some 2147483648 else none, []⟩ := ⟨by simp, by simp, fun i s h => by
    simp only at h
    split at h
    · cases h; simp
    · split at h <;> cases h; simp, fun _ h => by simp at h, by simp [sumP]⟩
  go_enter Try.func5, Try.ntmps5
  go_wp2_with fail
  refine (bookAdmit (hA.updNo (by repeat (first | with_reducible assumption | exact Upd.refl _ _ | (refine Upd.setNew ?_ (by first | (simp; done) | (simp; omega)) _) | (refine Upd.alloc ?_ _) | (refine Upd.drewN ?_ _) | (refine Upd.drew ?_) | (refine Upd.trans ?_ (by with_reducible assumption))))) okEmpty (by omega) 1 1 2 (by decide)).mono ?_
  rw [e1]
  rintro e w1 ⟨rfl, hB1, hm1⟩
  have hub : Upd No w ((w.alloc (.cells #[.int .i64 0, .int .u64 0, .map none, .slice none 0 0] 29)).alloc (.cells #[.int .i64 1, .int .i64 2] 40)) := (by repeat (first | with_reducible assumption | exact Upd.refl _ _ | (refine Upd.setNew ?_ (by first | (simp; done) | (simp; omega)) _) | (refine Upd.alloc ?_ _) | (refine Upd.drewN ?_ _) | (refine Upd.drew ?_) | (refine Upd.trans ?_ (by with_reducible assumption))))
  have hv : Row w1 (w.heap.size + 1) 40 [.int .i64 1, .int .i64 2] := Row.mv (Row.newAt _ _ _ _ (by simp)) hm1 (by decide)
  have hn1 : Upd No w w1 := hm1.over hub (Nat.le_refl _)
  have c0 := hv.cell (i := 0) rfl
  have c1 := hv.cell (i := 1) rfl
  go_wp2_with fail
  refine (bookAdmit hB1 o1 (by omega) 2 1 2 (by decide)).mono ?_
  rw [e2]
  rintro e w2 ⟨rfl, hB2, hm2⟩
  go_wp2_with fail
  refine (bookAdmit hB2 o2 (by omega) 3 1 1000000 (by decide)).mono ?_
  rw [e3]
  rintro e w3 ⟨rfl, hB3, hm3⟩
  go_wp2_with fail
  refine (bookUsed hB3).mono ?_
  rintro e w4 ⟨rfl, rfl⟩
  go_wp2_with fail
  go_ret
  exact ⟨rfl, hm3.over (hm2.over hn1 (Nat.le_refl _)) (Nat.le_refl _)⟩

end Go.Proofs.Ytdjnjfmdmcfamaa
