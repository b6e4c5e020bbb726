/- slices.Delete(s, 0, 1) at the two kinds of elements of package server. -/
import Derived.Test.YtojlkjmdcoolnaaMv
import Derived.BigQuiet
import Derived.Deep.QuietTactic
import Derived.RegionTactic
import Derived.Deep.RegionLaw
import Derived.Deep.DeepAppendRoom
import Derived.Laws.IdiomCopy
namespace Go.Proofs.Ytojlkjmdcoolnaa
open Go.RowKit

/-- 'append' where there is room, at the operation. -/
theorem wp_app_in {P : Program} {w : World} {o : Oper} {a : Act} {K : Act → World → Prop} {Q : Exit → Act → World → Prop} (s x : Operand) {t e : TypeId} {sz bytes : Nat} (E : Elem P t e sz bytes)
    (ho : o.op = .call { callee := .builtin .append, args := #[s, x], argTypes := #[t, t] }) {base g n cap : Nat} {xs : List Value} (hs : a.eval s = .slice (some ⟨g, 0, none⟩) n cap) (hown : w.ownsRow base e sz (.slice (some ⟨g, 0, none⟩) n cap) n xs)
    {A : Option Addr} {m c : Nat} {ys : List Value} (hx : a.eval x = .slice A m c) (hA : A.isSome = true) (hl : ys.length = m * sz) (hr : Rd w A ys) (h1 : ∀ u ∈ ys, u.oneCell' = true) (hroom : n + m ≤ cap)
    (h : ∀ w', w'.ownsRow base e sz (.slice (some ⟨g, 0, none⟩) (n + m) cap) (n + m) (xs ++ ys) → w.grownBy w' (some g) → K (a.put o.dst (.slice (some ⟨g, 0, none⟩) (n + m) cap)) w') : o.wp P a w K Q := by
  obtain ⟨ad, rfl⟩ := Option.isSome_iff_exists.1 hA
  obtain ⟨ht, ⟨i, z, hi, hz, hsz, hby, hzc⟩, hpos⟩ := E
  have hnews : ∀ j u, ys[j]? = some u → w.cell? (ad.add j) = some u := fun j u hj => by
    have hne : ys ≠ [] := by rintro rfl; simp at hj
    obtain ⟨g, o, e', hc⟩ := hr hne
    injection e' with e'
    subst e'
    have := hc j u hj
    rw [← this]
    congr 1
    unfold Addr.add
    split
    · rename_i h0; subst h0; rfl
    · rfl
  obtain ⟨w', hrun, h2, h3⟩ := run_append_own_spare (P := P) w base t o.type e i sz ht hi hsz g n cap xs hown ad m c ys hl hnews h1 hroom
  unfold Oper.wp execOp
  simp only [ho, resolve, invoke, builtin, Sem.run_bind, Sem.run_pure, Result.andThen_ok, List.map_toArray, List.map_cons, List.map_nil, hs, hx, hrun]
  exact h w' h2 h3

/-- A cell behind what is owned is stored. -/
theorem own_behind {w : World} {base T sz g n cap : Nat} {xs : List Value} (h : w.ownsRow base T sz (.slice (some ⟨g, 0, none⟩) n cap) n xs) (j : Nat) (hj : xs.length ≤ j) (u : Value) : (w.setCell ⟨g, j, none⟩ u).ownsRow base T sz (.slice (some ⟨g, 0, none⟩) n cap) n xs := by
  have := own_set h j u
  rwa [List.set_eq_of_length_le hj] at this

theorem storeCells_own {P : Program} {base T sz g n cap : Nat} {xs : List Value} : ∀ (us : List Value) (i o : Nat) (w : World), w.ownsRow base T sz (.slice (some ⟨g, 0, none⟩) n cap) n xs → xs.length ≤ o + i → o + i + us.length ≤ cap * sz → (∀ u ∈ us, u.oneCell' = true) →
    ∃ w', (storeCells ⟨g, o, none⟩ us i).run P w = .ok () w' ∧ w'.ownsRow base T sz (.slice (some ⟨g, 0, none⟩) n cap) n xs ∧ Upd (at1 g) w w'
  | [], i, o, w, h, _, _, _ => ⟨w, rfl, h, Upd.refl _ _⟩
  | u :: us, i, o, w, h, h1, h2, h3 => by
    have hadd : (⟨g, o, none⟩ : Addr).add i = ⟨g, o + i, none⟩ := by unfold Addr.add; split <;> simp_all
    simp only [List.length_cons] at h2
    have hc : ∃ v, w.cell? ⟨g, o + i, none⟩ = some v ∧ w.frozen? ⟨g, o + i, none⟩ = false := by
      rcases h.2 with ⟨hv, _⟩ | ⟨g', cap', cur, hv, _, hg, _, _, hcs, _⟩
      · cases hv
      · cases hv
        exact ⟨cur[o + i]'(by omega), by simp [World.cell?, hg, Array.getElem?_eq_getElem (show o + i < cur.size by omega)], by simp [World.frozen?, hg]⟩
    obtain ⟨v, hc, hf⟩ := hc
    have hst : (store ((⟨g, o, none⟩ : Addr).add i) u).run P w = .ok () (w.setCell ⟨g, o + i, none⟩ u) := by
      rw [hadd, run_store P w _ u _ (h3 u (by simp))]
      simp [hc, hf]
    obtain ⟨w', r1, r2, r3⟩ := storeCells_own (P := P) us (i + 1) o (w.setCell ⟨g, o + i, none⟩ u) (own_behind h _ h1 u) (by omega) (by omega) (fun x hx => h3 x (by simp [hx]))
    refine ⟨w', ?_, r2, ((Upd.refl _ _).set1 _ _).trans r3⟩
    simp only [storeCells, Sem.run_bind, hst, Result.andThen_ok, r1]

/-- 'clear' of the one element behind what is owned. -/
theorem run_clear_one {P : Program} (w : World) {t e : TypeId} {sz : Nat} {z : Value} (ty : TypeId) (ht : P.underlying t = some (.slice e)) (hv : ∀ w, (zeroValue e).run P w = .ok z w) (hz : z.cells.size = sz) (h1 : ∀ u ∈ z.cells.toList, u.oneCell' = true) {base g n cap : Nat} {xs : List Value}
    (h : w.ownsRow base e sz (.slice (some ⟨g, 0, none⟩) n cap) n xs) (hn : n < cap) (o c : Nat) (ho : o = n * sz) :
    ∃ w', (Builtin.clear_ #[t] ty #[.slice (some ⟨g, o, none⟩) 1 c]).run P w = .ok (.tuple #[]) w' ∧ w'.ownsRow base e sz (.slice (some ⟨g, 0, none⟩) n cap) n xs ∧ Upd (at1 g) w w' := by
  have hzc : (Builtin.zeroCells z.cells 1).toList = z.cells.toList := by
    simp [Builtin.zeroCells]
    apply List.ext_getElem
    · simp
    · intro i h1 h2
      simp only [List.getElem_map, List.getElem_range, Array.getElem_toList]
      simp at h1
      rw [Nat.mod_eq_of_lt h1, getElem!_pos z.cells i h1]
  have hle : (n + 1) * sz ≤ cap * sz := Nat.mul_le_mul_right _ hn
  rw [Nat.add_mul] at hle
  obtain ⟨w', r1, r2, r3⟩ := storeCells_own (P := P) z.cells.toList 0 o w h (by rw [h.1]; omega) (by simp only [Array.length_toList]; omega) h1
  refine ⟨w', ?_, r2, r3⟩
  simp [Builtin.clear_, run_underlying ht, hv, hzc, r1]

theorem Rd.tail' {w : World} {T : TypeId} {g i sz cap o : Nat} {xs : List Value} (h : RdT w T (some ⟨g, 0, none⟩) xs) (hc : xs.length ≤ cap * sz) {A : Option Addr} (hA : A = if cap = i then some ⟨g, 0, none⟩ else some ⟨g, o, none⟩) (ho : o = i * sz) : Rd w A (xs.drop (i * sz)) := by
  subst hA ho
  by_cases hci : cap = i
  · subst hci
    rw [List.drop_eq_nil_of_le hc]
    exact Rd.nil _ _
  · rw [if_neg hci]
    have := (h.part (i * sz) xs.length).rd
    rw [List.take_of_length_le (by simp)] at this
    simp only [Option.map_some, Addr.add, Nat.zero_add] at this
    by_cases h0 : i * sz = 0
    · rw [if_pos h0] at this; rw [h0] at this ⊢; exact this
    · rw [if_neg h0] at this; exact this

theorem elemChunk : Elem Try.prog 39 44 3 24 := Elem.of (z := .agg #[.int .i64 0, .int .i64 0, .int .i64 0]) Try.underlying39 (by kernel_rfl) rfl (by decide)
theorem elemRefill : Elem Try.prog 40 46 2 16 := Elem.of (z := .agg #[.int .i64 0, .int .i64 0]) Try.underlying40 (by kernel_rfl) rfl (by decide)
theorem zeroChunk (w : World) : (zeroValue 44).run Try.prog w = .ok (.agg #[.int .i64 0, .int .i64 0, .int .i64 0]) w := by kernel_rfl
theorem zeroRefill (w : World) : (zeroValue 46).run Try.prog w = .ok (.agg #[.int .i64 0, .int .i64 0]) w := by kernel_rfl

set_option maxHeartbeats 1000000 in
theorem delRefill {base g n cap : Nat} {xs : List Value} {w : World} (hn : 0 < n) (h1 : ∀ u ∈ xs, u.oneCell' = true) (hown : w.ownsRow base 46 2 (.slice (some ⟨g, 0, none⟩) n cap) n xs) :
    Calls Try.prog 14 #[.slice (some ⟨g, 0, none⟩) n cap, .int .i64 0, .int .i64 1] w fun e w' => e = .returned (.slice (some ⟨g, 0, none⟩) (n - 1) cap) ∧ w'.ownsRow base 46 2 (.slice (some ⟨g, 0, none⟩) (n - 1) cap) (n - 1) (xs.drop 2) ∧ Upd (at1 g) w w' := by
  have hf := hown.2
  obtain ⟨hcap, hmax, hz⟩ : n ≤ cap ∧ cap ≤ 9223372036854775807 ∧ w.ownsRow base 46 2 (.slice (some ⟨g, 0, none⟩) 0 cap) 0 [] := by
    rcases hown.2 with ⟨hv, _⟩ | ⟨g', cap', cur, hv, hb, hg, h1, h2, h3, h4⟩
    · cases hv
    · cases hv
      exact ⟨h1, by unfold maxLen at h2; omega, rfl, .inr ⟨g, cap, cur, rfl, hb, hg, Nat.zero_le _, h2, h3, by simp⟩⟩
  obtain ⟨A0, cap0, e0, _, _, hrd⟩ := own_read hown
  injection e0 with e0 _ e0'
  subst e0 e0'
  have hlen := hown.1
  have HO := Lib.hid hz
  have HR := Lib.hid hrd
  have HL := Lib.hid hlen
  have H1 := Lib.hid h1
  clear hown hf hz hrd hlen h1
  obtain ⟨A, hA, hAs⟩ : ∃ A : Option Addr, A = (if cap = 1 then some (⟨g, 0, none⟩ : Addr) else some ⟨g, 2, none⟩) ∧ A.isSome = true := ⟨_, rfl, by split <;> rfl⟩
  have HA := Lib.hid hA
  clear hA
  have hnz : (1 : Int) ≤ (n : Int) := by omega
  go_enter Try.func14, Try.ntmps14
  go_wp2_with fail
  go_region_law (
    rw [← HA.out]
    refine wp_app_in (.tmp 22) (.tmp 25) elemRefill rfl rfl (own_updNo HO.out (by repeat (first | with_reducible assumption | exact Upd.refl _ _ | (refine Upd.setNew ?_ (by first | (simp; done) | (simp; omega)) _) | (refine Upd.alloc ?_ _) | (refine Upd.drewN ?_ _) | (refine Upd.drew ?_) | (refine Upd.trans ?_ (by with_reducible assumption))))) rfl hAs (ys := xs.drop (1 * 2)) ?h4 ?h5 ?h6 ?h7 ?_
    case h4 => rw [List.length_drop, HL.out, Nat.sub_mul]
    case h5 => exact (Rd.tail' HR.out (by rw [HL.out]; exact Nat.mul_le_mul_right _ hcap) HA.out rfl).upd (by repeat (first | with_reducible assumption | exact Upd.refl _ _ | (refine Upd.setNew ?_ (by first | (simp; done) | (simp; omega)) _) | (refine Upd.alloc ?_ _) | (refine Upd.drewN ?_ _) | (refine Upd.drew ?_) | (refine Upd.trans ?_ (by with_reducible assumption))))
    case h6 => exact fun u hu => H1.out u (List.mem_of_mem_drop hu)
    case h7 => omega
    intro w5 ho5 hg5
    clear HA hAs
    rw [Nat.zero_add, List.nil_append, Nat.one_mul] at ho5
    obtain ⟨w6, hcl, ho6, hu6⟩ := run_clear_one (sz := 2) w5 0 Try.underlying40 zeroRefill rfl (by simp [Value.oneCell', Value.cells]) ho5 (by omega) ((n - 1) * 2) (cap - (n - 1)) rfl
    have hsub : (n : Int) - 1 = ((n - 1 : Nat) : Int) := by omega
    have hne : ¬ cap = n - 1 := by omega
    have hnn : n - (n - 1) = 1 := by omega
    have hu7 : Upd (at1 g) w w6 := (Upd.grown (by repeat (first | with_reducible assumption | exact Upd.refl _ _ | (refine Upd.setNew ?_ (by first | (simp; done) | (simp; omega)) _) | (refine Upd.alloc ?_ _) | (refine Upd.drewN ?_ _) | (refine Upd.drew ?_) | (refine Upd.trans ?_ (by with_reducible assumption)))) hg5 (fun k e _ => by injection e with e; exact e.symm)).trans hu6
    clear ho5 hg5 hu6)
  all_goals
    go_wp2
    go_ret
    exact ⟨rfl, ho6, hu7⟩

set_option maxHeartbeats 1000000 in
theorem delChunk {base g n cap : Nat} {xs : List Value} {w : World} (hn : 0 < n) (h1 : ∀ u ∈ xs, u.oneCell' = true) (hown : w.ownsRow base 44 3 (.slice (some ⟨g, 0, none⟩) n cap) n xs) :
    Calls Try.prog 16 #[.slice (some ⟨g, 0, none⟩) n cap, .int .i64 0, .int .i64 1] w fun e w' => e = .returned (.slice (some ⟨g, 0, none⟩) (n - 1) cap) ∧ w'.ownsRow base 44 3 (.slice (some ⟨g, 0, none⟩) (n - 1) cap) (n - 1) (xs.drop 3) ∧ Upd (at1 g) w w' := by
  have hf := hown.2
  obtain ⟨hcap, hmax, hz⟩ : n ≤ cap ∧ cap ≤ 9223372036854775807 ∧ w.ownsRow base 44 3 (.slice (some ⟨g, 0, none⟩) 0 cap) 0 [] := by
    rcases hown.2 with ⟨hv, _⟩ | ⟨g', cap', cur, hv, hb, hg, h1, h2, h3, h4⟩
    · cases hv
    · cases hv
      exact ⟨h1, by unfold maxLen at h2; omega, rfl, .inr ⟨g, cap, cur, rfl, hb, hg, Nat.zero_le _, h2, h3, by simp⟩⟩
  obtain ⟨A0, cap0, e0, _, _, hrd⟩ := own_read hown
  injection e0 with e0 _ e0'
  subst e0 e0'
  have hlen := hown.1
  have HO := Lib.hid hz
  have HR := Lib.hid hrd
  have HL := Lib.hid hlen
  have H1 := Lib.hid h1
  clear hown hf hz hrd hlen h1
  obtain ⟨A, hA, hAs⟩ : ∃ A : Option Addr, A = (if cap = 1 then some (⟨g, 0, none⟩ : Addr) else some ⟨g, 3, none⟩) ∧ A.isSome = true := ⟨_, rfl, by split <;> rfl⟩
  have HA := Lib.hid hA
  clear hA
  have hnz : (1 : Int) ≤ (n : Int) := by omega
  go_enter Try.func16, Try.ntmps16
  go_wp2_with fail
  go_region_law (
    rw [← HA.out]
    refine wp_app_in (.tmp 22) (.tmp 25) elemChunk rfl rfl (own_updNo HO.out (by repeat (first | with_reducible assumption | exact Upd.refl _ _ | (refine Upd.setNew ?_ (by first | (simp; done) | (simp; omega)) _) | (refine Upd.alloc ?_ _) | (refine Upd.drewN ?_ _) | (refine Upd.drew ?_) | (refine Upd.trans ?_ (by with_reducible assumption))))) rfl hAs (ys := xs.drop (1 * 3)) ?h4 ?h5 ?h6 ?h7 ?_
    case h4 => rw [List.length_drop, HL.out, Nat.sub_mul]
    case h5 => exact (Rd.tail' HR.out (by rw [HL.out]; exact Nat.mul_le_mul_right _ hcap) HA.out rfl).upd (by repeat (first | with_reducible assumption | exact Upd.refl _ _ | (refine Upd.setNew ?_ (by first | (simp; done) | (simp; omega)) _) | (refine Upd.alloc ?_ _) | (refine Upd.drewN ?_ _) | (refine Upd.drew ?_) | (refine Upd.trans ?_ (by with_reducible assumption))))
    case h6 => exact fun u hu => H1.out u (List.mem_of_mem_drop hu)
    case h7 => omega
    intro w5 ho5 hg5
    clear HA hAs
    rw [Nat.zero_add, List.nil_append, Nat.one_mul] at ho5
    obtain ⟨w6, hcl, ho6, hu6⟩ := run_clear_one (sz := 3) w5 0 Try.underlying39 zeroChunk rfl (by simp [Value.oneCell', Value.cells]) ho5 (by omega) ((n - 1) * 3) (cap - (n - 1)) rfl
    have hsub : (n : Int) - 1 = ((n - 1 : Nat) : Int) := by omega
    have hne : ¬ cap = n - 1 := by omega
    have hnn : n - (n - 1) = 1 := by omega
    have hu7 : Upd (at1 g) w w6 := (Upd.grown (by repeat (first | with_reducible assumption | exact Upd.refl _ _ | (refine Upd.setNew ?_ (by first | (simp; done) | (simp; omega)) _) | (refine Upd.alloc ?_ _) | (refine Upd.drewN ?_ _) | (refine Upd.drew ?_) | (refine Upd.trans ?_ (by with_reducible assumption)))) hg5 (fun k e _ => by injection e with e; exact e.symm)).trans hu6
    clear ho5 hg5 hu6)
  all_goals
    go_wp2
    go_ret
    exact ⟨rfl, ho6, hu7⟩
end Go.Proofs.Ytojlkjmdcoolnaa
