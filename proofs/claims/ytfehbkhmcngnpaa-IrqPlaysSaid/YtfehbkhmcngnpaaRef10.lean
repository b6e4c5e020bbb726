/- The references of layer 10: they answer as the calls of package irq do. -/
import Derived.Test.YtfehbkhmcngnpaaIrq2
import Derived.Test.YtfehbkhmcngnpaaOwn
namespace Go.Proofs.Ytfehbkhmcngnpaa
open Go.RowKit

theorem elem_line : Elem Try.prog 41 48 4 16 := Elem.of (z := .agg #[.bool false, .bool false, .bool false, .int .i64 0]) Try.underlying41 (by kernel_rfl) rfl (by omega)

theorem Ln.one (l : List Ln) : ∀ u ∈ l.flatMap Ln.cells, u.oneCell' = true := fun u hu => by
  obtain ⟨x, _, hx⟩ := List.mem_flatMap.1 hu
  simp [Ln.cells] at hx
  rcases hx with rfl | rfl | rfl | rfl <;> rfl

theorem refWith (A : Option Addr) (n c : Nat) (L : List Ln) (i : Int) (x : Ln) (w : World) (hn : n = L.length) (h8 : n ≤ 8) (H : RdT w 48 A (L.flatMap Ln.cells)) (h0 : 0 ≤ i) (h1 : i < n) :
    Calls Try.prog 21 #[.slice A n c, .int .i64 i, .agg #[.bool x.r, .bool x.m, .bool x.s, .int .i64 x.d]] w
      fun e w' => ∃ A' c', e = .returned (.slice A' n c') ∧ RdT w' 48 A' ((L.set i.toNat x).flatMap Ln.cells) ∧ Upd No w w' := by
  have HN := Lib.hid hn; clear hn
  go_enter Try.func21, Try.ntmps21
  go_wp2_with (at_builtin; refine wpList_app rfl (.tmp 8) (.tmp 9) elem_line rfl (base := w.heap.size) (n := 0) (xs := []) rfl (own_lit _ _ 4 0 [] (w.heap.size + 1) ?h1 ?h2 rfl ?h3) rfl (ys := L.flatMap Ln.cells) ?h4 ?h5 (Ln.one L) ?h6 ?h7 ?h8 ?_)
  case h1 => simp
  case h2 => omega
  case h3 => omega
  case h4 => rw [flat_len Ln.cells 4 (fun _ => rfl), HN.out]
  case h5 => exact (H.updNo (by repeat (first | with_reducible assumption | exact Upd.refl _ _ | (refine Upd.alloc ?_ _) | (refine Upd.drewN ?_ _) | (refine Upd.drew ?_) | (refine Upd.trans ?_ (by with_reducible assumption))))).rd
  case h6 => omega
  case h7 => omega
  case h8 => simp; omega
  intro v1 w1 hown hgr
  have hn0 : 0 < n := by omega
  obtain ⟨g, cap, hv, hg0, hg1⟩ := hown.form hn0
  have hu1 : Upd (at1 (w.heap.size + 1)) ((w.alloc (.cells #[.bool x.r, .bool x.m, .bool x.s, .int .i64 x.d] 48)).alloc (.cells #[] 48)) w1 := (Upd.refl _ _).grown hgr (fun k hk _ => by simp [Value.ownBlock] at hk; exact hk.symm)
  have hu : Upd No w w1 := Upd.transNew (T := at1 (w.heap.size + 1)) (b := (w.alloc (.cells #[.bool x.r, .bool x.m, .bool x.s, .int .i64 x.d] 48)).alloc (.cells #[] 48)) (by repeat (first | with_reducible assumption | exact Upd.refl _ _ | (refine Upd.alloc ?_ _) | (refine Upd.drewN ?_ _) | (refine Upd.drew ?_) | (refine Upd.trans ?_ (by with_reducible assumption)))) hu1 (fun i hi e => by unfold at1 at e; omega)
  have hbx : ∀ j, w1.cell? ⟨w.heap.size, j, none⟩ = #[.bool x.r, .bool x.m, .bool x.s, .int .i64 x.d][j]? := fun j => by
    have h9 : Row w1 w.heap.size 48 [.bool x.r, .bool x.m, .bool x.s, .int .i64 x.d] := Row.upd (S := at1 (w.heap.size + 1)) (w := (w.alloc (.cells #[.bool x.r, .bool x.m, .bool x.s, .int .i64 x.d] 48)).alloc (.cells #[] 48)) (by repeat (first | with_reducible assumption | (refine Row.newAt _ _ _ _ ?_; first | rfl | (simp; done)) | (refine Row.drew ?_) | (refine Row.drewN ?_ _) | (refine Row.alloc ?_ _))) hu1 (by unfold at1; omega)
    simpa using h9.get j
  rw [hv] at hown ⊢
  clear hu1 hgr hv
  obtain ⟨z, hz⟩ : ∃ z, L[i.toNat]? = some z := ⟨L[i.toNat]'(by rw [← HN.out]; omega), List.getElem?_eq_getElem _⟩
  have hget := flat_get Ln.cells 4 (fun _ => rfl) L i.toNat z hz
  have hsz : i.toNat * 4 + 4 ≤ n * 4 := by omega
  have cc : ∀ j, j < 4 → w1.cell? ⟨g, i.toNat * 4 + j, none⟩ = z.cells[j]? := fun j hj => by rw [hown.cellAt _ (by omega)]; exact hget j hj
  have s0 := cc 0 (by omega)
  have s1 := cc 1 (by omega)
  have s2 := cc 2 (by omega)
  have s3 := cc 3 (by omega)
  simp only [Ln.cells, List.getElem?_cons_zero, List.getElem?_cons_succ, Nat.add_zero] at s0 s1 s2 s3
  have f0 := hown.frozenAt
  clear cc hget
  go_wp2
  go_ret
  have hst := own_set (own_set (own_set (own_set hown (i.toNat * 4) (.bool x.r)) (i.toNat * 4 + 1) (.bool x.m)) (i.toNat * 4 + 2) (.bool x.s)) (i.toNat * 4 + 3) (.int .i64 x.d)
  have hfin := own_same hst (flat_setL Ln.cells 4 (fun _ => rfl) L i.toNat z x hz) rfl
  obtain ⟨A', c', hA, _, _, hrd⟩ := own_read hfin
  injection hA with hA1 hA2 hA3
  subst hA1
  subst hA3
  exact ⟨_, _, rfl, hrd, (((hu.setNew (by exact hg0) _).setNew (by exact hg0) _).setNew (by exact hg0) _).setNew (by exact hg0) _⟩

end Go.Proofs.Ytfehbkhmcngnpaa
