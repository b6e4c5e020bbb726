/- Run of package server. -/
import Derived.Test.YtojlkjmdcoolnaaSv3
namespace Go.Proofs.Ytojlkjmdcoolnaa
open Go.RowKit

def runS (S : Sv) : Sv × Bool :=
  match S.cs with
  | [] => (S, false)
  | c :: r => if c.1 = 1 then ({ S with ch := S.ch + 1, cs := r, fs := S.fs ++ [(c.2.2, c.2.1 + 1)] }, true) else ({ S with ch := S.ch + 1, cs := (c.1 - 1, c.2.1 + 1, c.2.2) :: r }, true)

set_option maxHeartbeats 2000000 in
theorem srvRun {base g : Nat} {S : Sv} {w : World} (h : SrvAt w base g S) (hl : S.fs.length < 1000000) (hc : ∀ c ∈ S.cs, 0 ≤ c.1 ∧ c.1 ≤ 1099511627776 ∧ 0 ≤ c.2.1 ∧ c.2.1 ≤ 1099511627776) (hch : 0 ≤ S.ch ∧ S.ch ≤ 1099511627776)
    (hle : ∀ f ∈ S.fs, ∀ c ∈ S.cs, f.1 ≤ c.2.2) :
    Calls Try.prog 9 #[.pointer (some ⟨g, 0, none⟩)] w fun e w' => e = .returned (.bool (runS S).2) ∧ SrvAt w' base g (runS S).1 ∧ Mr srvT base w w' := by
  obtain ⟨v1, v2, h⟩ := h
  cases hcs : S.cs with
  | nil =>
    have e : runS S = (S, false) := by simp [runS, hcs]
    rw [e]
    have hc1 := h.cs
    rw [hcs] at hc1
    have hv : ∃ A cap, v1 = .slice A 0 cap := by obtain ⟨A, cap, e, _⟩ := own_read hc1; exact ⟨A, cap, e⟩
    obtain ⟨A, cap, rfl⟩ := hv
    have c4 := h.row.cell (i := 4) rfl
    have H := Lib.hid h
    clear h hc1 e
    go_enter Try.func9, Try.ntmps9
    go_wp2
    go_ret
    exact ⟨rfl, ⟨_, _, H.out⟩, Mr.refl _ _ _⟩
  | cons c r =>
    obtain ⟨n, hn⟩ : ∃ n, S.cs.length = n := ⟨_, rfl⟩
    have hn1 : n = r.length + 1 := by rw [← hn, hcs]; rfl
    have hcs1 := h.cs
    rw [hn] at hcs1
    obtain ⟨g1, cap, rfl, hc1, hc2, hb1, rd, fz⟩ := own_form hcs1 (by omega)
    have hfm : S.cs.flatMap cCells = [.int .i64 c.1, .int .i64 c.2.1, .int .i64 c.2.2] ++ r.flatMap cCells := by rw [hcs]; rfl
    have a0 : w.cell? ⟨g1, 0, none⟩ = some (.int .i64 c.1) := by
      rcases rd 0 with q | q
      · rw [q, hfm]; rfl
      · rw [hfm] at q; simp at q
    have a1 : w.cell? ⟨g1, 1, none⟩ = some (.int .i64 c.2.1) := by
      rcases rd 1 with q | q
      · rw [q, hfm]; rfl
      · rw [hfm] at q; simp at q
    have a2 : w.cell? ⟨g1, 2, none⟩ = some (.int .i64 c.2.2) := by
      rcases rd 2 with q | q
      · rw [q, hfm]; rfl
      · rw [hfm] at q; simp at q
    have c4 := h.row.cell (i := 4) rfl
    have c6 := h.row.cell (i := 6) rfl
    have hf := h.row.frozen
    have hne : g ≠ g1 := by
      rintro rfl
      rcases hcs1.2 with ⟨q, _⟩ | ⟨g', cap', cur, q, _, hg, _⟩
      · cases q
      · cases q
        have := h.row; unfold Row at this; rw [this] at hg; simp at hg
    have hne' : g1 ≠ g := fun e => hne e.symm
    have hcc := hc c (by rw [hcs]; simp)
    have hfz : ∀ j, w.frozen? ⟨g1, j, none⟩ = false := fz
    -- the world behind the three stores
    have own3 : ∀ u0 u1 u2 : Value, (((w.setCell ⟨g1, 0, none⟩ u0).setCell ⟨g1, 1, none⟩ u1).setCell ⟨g, 6, none⟩ u2).ownsRow base 44 3 (.slice (some ⟨g1, 0, none⟩) n cap) n ([u0, u1, .int .i64 c.2.2] ++ r.flatMap cCells) := fun u0 u1 u2 => by
      have q := own_set (own_set hcs1 0 u0) 1 u1
      rw [hfm] at q
      exact own_cell' q (((h.row.far (p := ⟨g1, 0, none⟩) hne u0)).far (p := ⟨g1, 1, none⟩) hne u1) (by decide) 6 u2
    have row3 : ∀ u0 u1 u2 : Value, Row (((w.setCell ⟨g1, 0, none⟩ u0).setCell ⟨g1, 1, none⟩ u1).setCell ⟨g, 6, none⟩ u2) g 48 [.int .i64 S.b, .int .i64 S.p, .int .i64 S.now, .int .i64 S.av, .slice (some ⟨g1, 0, none⟩) n cap, v2, u2] := fun u0 u1 u2 =>
      (((h.row.far (p := ⟨g1, 0, none⟩) hne u0)).far (p := ⟨g1, 1, none⟩) hne u1).set 6 u2
    have hfs3 : ∀ u0 u1 u2 : Value, (((w.setCell ⟨g1, 0, none⟩ u0).setCell ⟨g1, 1, none⟩ u1).setCell ⟨g, 6, none⟩ u2).ownsRow base 46 2 v2 S.fs.length (S.fs.flatMap fCells) := fun u0 u1 u2 => by
      have q0 : Upd (Tcr [44] base w) w ((w.setCell ⟨g1, 0, none⟩ u0).setCell ⟨g1, 1, none⟩ u1) := by
        have ht : Tcr [44] base w g1 := own_tcr hcs1 (by decide) (Nat.le_refl _) g1 rfl
        exact ((Upd.refl _ w).setCell (fun _ => ht) u0).setCell (fun _ => ht) u1
      exact own_cell' (own_mr h.fs q0 (by decide)) (((h.row.far (p := ⟨g1, 0, none⟩) hne u0)).far (p := ⟨g1, 1, none⟩) hne u1) (by decide) 6 u2
    have mr3 : ∀ u0 u1 u2 : Value, Mr srvT base w (((w.setCell ⟨g1, 0, none⟩ u0).setCell ⟨g1, 1, none⟩ u1).setCell ⟨g, 6, none⟩ u2) := fun u0 u1 u2 => by
      have ht : Tcr srvT base w g1 := own_tcr hcs1 (by decide) (Nat.le_refl _) g1 rfl
      have q0 : Mr srvT base w ((w.setCell ⟨g1, 0, none⟩ u0).setCell ⟨g1, 1, none⟩ u1) := ((Upd.refl _ w).setCell (fun _ => ht) u0).setCell (fun _ => ht) u1
      exact q0.set (((h.row.far (p := ⟨g1, 0, none⟩) hne u0)).far (p := ⟨g1, 1, none⟩) hne u1) (by decide) h.hb 6 u2
    have sv3 : SvV (((w.setCell ⟨g1, 0, none⟩ (.int .i64 (c.1 - 1))).setCell ⟨g1, 1, none⟩ (.int .i64 (c.2.1 + 1))).setCell ⟨g, 6, none⟩ (.int .i64 (S.ch + 1))) base g (.slice (some ⟨g1, 0, none⟩) n cap) v2 { S with ch := S.ch + 1, cs := (c.1 - 1, c.2.1 + 1, c.2.2) :: r } :=
      ⟨h.hb, by simpa using h.hs, row3 _ _ _, own_same (own3 _ _ _) rfl (by simp [hn1]), hfs3 _ _ _⟩
    have HS3 := Lib.hid sv3
    have HM3 := Lib.hid (mr3 (.int .i64 (c.1 - 1)) (.int .i64 (c.2.1 + 1)) (.int .i64 (S.ch + 1)))
    have e3 : noteS { S with ch := S.ch + 1, cs := (c.1 - 1, c.2.1 + 1, c.2.2) :: r } (c.1 - 1, c.2.1 + 1, c.2.2) = { S with ch := S.ch + 1, cs := (c.1 - 1, c.2.1 + 1, c.2.2) :: r, fs := S.fs ++ [(c.2.2, c.2.1 + 1)] } := by
      have : ¬ c.2.1 + 1 = 0 := by omega
      simp [noteS, this]
    have HE3 := Lib.hid e3
    have HB := Lib.hid h.hb
    have HLE := Lib.hid (fun f hf => hle f hf c (by rw [hcs]; simp))
    by_cases hz : c.1 = 1
    · have e : runS S = ({ S with ch := S.ch + 1, cs := r, fs := S.fs ++ [(c.2.2, c.2.1 + 1)] }, true) := by simp [runS, hcs, hz]
      rw [e]
      have q : (c.1 - 1 == 0) = true := by simp [hz]
      have HN1 := Lib.hid hn1
      have hn0 : ¬ n = 0 := by omega
      clear e e3 hcs hn hn1 hcs1 rd fz hfm own3 row3 hfs3 mr3 sv3 hle hz hc h
      go_enter Try.func9, Try.ntmps9
      go_wp2_with (first
        | (go_at_call 15; refine (srvNote HS3.out (c.1 - 1, c.2.1 + 1, c.2.2) HLE.out hl).mono ?_
           rintro e w4 ⟨rfl, v4, hs4, hm4⟩
           rw [HE3.out] at hs4
           have o4 : w4.ownsRow base 44 3 (.slice (some ⟨g1, 0, none⟩) n cap) n (((c.1 - 1, c.2.1 + 1, c.2.2) :: r).flatMap cCells) := own_same hs4.cs rfl (by simp; exact HN1.out.symm)
           have r4 := hs4.row
           have k4 := r4.cell (i := 4) rfl
           have f4 := r4.frozen)
        | (go_at_call 16; refine (delChunk (base := base) (by omega) (cCells_one _) o4).mono ?_
           rintro e w5 ⟨rfl, ho5, hu5⟩
           have m5 : Mr [44] base w4 w5 := Upd.mono hu5 (fun k _ q => by unfold at1 at q; subst q; exact own_tcr o4 (by decide) (Nat.le_refl _) _ rfl)
           have r5 := r4.mr m5 (by decide)
           have f5 := r5.frozen
           have k5 := r5.cell (i := 4) rfl))
      go_ret
      refine ⟨rfl, ⟨_, v4, ⟨HB.out, ?_, (r5.set 4 _).same rfl, ?_, ?_⟩⟩, ?_⟩
      · have := m5.size; have := hs4.hs; simp; omega
      · exact own_same (own_cell' ho5 r5 (by decide) 4 _) rfl (by simp; have := HN1.out; omega)
      · exact own_cell' (own_mr hs4.fs m5 (by decide)) r5 (by decide) 4 _
      · exact ((HM3.out.trans (hm4.more (by decide))).trans (m5.more (by decide))).set r5 (by decide) HB.out 4 _
    · have e : runS S = ({ S with ch := S.ch + 1, cs := (c.1 - 1, c.2.1 + 1, c.2.2) :: r }, true) := by simp [runS, hcs, hz]
      rw [e]
      have q : (c.1 - 1 == 0) = false := by simp; omega
      have hn0 : ¬ n = 0 := by omega
      clear e e3 hcs hn hn1 hcs1 rd fz hfm own3 row3 hfs3 mr3 sv3 hle hz hc h
      go_enter Try.func9, Try.ntmps9
      go_wp2
      go_ret
      exact ⟨rfl, ⟨_, v2, HS3.out⟩, HM3.out⟩

end Go.Proofs.Ytojlkjmdcoolnaa
