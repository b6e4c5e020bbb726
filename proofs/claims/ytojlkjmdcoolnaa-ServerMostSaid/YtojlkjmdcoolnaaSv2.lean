/- The server's memory; slices.IndexFunc, slices.Insert at its end, note. -/
import Derived.Test.YtojlkjmdcoolnaaSv1
import Derived.WalkSpells
namespace Go.Proofs.Ytojlkjmdcoolnaa
open Go.RowKit

structure Sv where
  b : Int
  p : Int
  now : Int
  av : Int
  ch : Int
  cs : List (Int × Int × Int)
  fs : List (Int × Int)
def cCells (x : Int × Int × Int) : List Value := [.int .i64 x.1, .int .i64 x.2.1, .int .i64 x.2.2]
def fCells (x : Int × Int) : List Value := [.int .i64 x.1, .int .i64 x.2]
abbrev srvT : List TypeId := [48, 44, 46]
abbrev srvR : List TypeId := [48, 46]
def Sv.row (S : Sv) (v1 v2 : Value) : List Value := [.int .i64 S.b, .int .i64 S.p, .int .i64 S.now, .int .i64 S.av, v1, v2, .int .i64 S.ch]

structure SvV (w : World) (base g : Nat) (v1 v2 : Value) (S : Sv) : Prop where
  hb : base ≤ g
  hs : base ≤ w.heap.size
  row : Row w g 48 (S.row v1 v2)
  cs : w.ownsRow base 44 3 v1 S.cs.length (S.cs.flatMap cCells)
  fs : w.ownsRow base 46 2 v2 S.fs.length (S.fs.flatMap fCells)

theorem fCells_one (l : List (Int × Int)) : ∀ u ∈ l.flatMap fCells, u.oneCell' = true := fun u hu => by
  obtain ⟨x, _, hx⟩ := List.mem_flatMap.1 hu
  simp [fCells] at hx
  rcases hx with rfl | rfl <;> rfl
theorem cCells_one (l : List (Int × Int × Int)) : ∀ u ∈ l.flatMap cCells, u.oneCell' = true := fun u hu => by
  obtain ⟨x, _, hx⟩ := List.mem_flatMap.1 hu
  simp [cCells] at hx
  rcases hx with rfl | rfl | rfl <;> rfl

theorem SvV.updNo {w w' : World} {base g : Nat} {v1 v2 : Value} {S : Sv} (h : SvV w base g v1 v2 S) (hu : Upd No w w') : SvV w' base g v1 v2 S :=
  ⟨h.hb, Nat.le_trans h.hs hu.size, h.row.updNo hu, own_updNo h.cs hu, own_updNo h.fs hu⟩

theorem cmpRefill (B : Nat) (x : Int × Int) (d : Int) (w : World) (hc : w.cell? ⟨B, 2, none⟩ = some (.int .i64 d)) :
    Calls Try.prog 22 #[.agg #[.int .i64 x.1, .int .i64 x.2], .pointer (some ⟨B, 0, none⟩)] w fun e w' => e = .returned (.bool (decide (d < x.1))) ∧ Upd No w w' := by
  have hB := cell_lt hc
  have hne : B ≠ w.heap.size := by simp at hB; omega
  have hc1 : (w.alloc (.cells #[.int .i64 x.1, .int .i64 x.2] 46)).cell? ⟨B, 2, none⟩ = some (.int .i64 d) := ((Upd.refl No w).alloc _).at_ hc
  go_enter Try.func22, Try.ntmps22
  go_wp2
  go_ret
  exact ⟨rfl, (by repeat (first | with_reducible assumption | exact Upd.refl _ _ | (refine Upd.setNew ?_ (by first | (simp; done) | (simp; omega)) _) | (refine Upd.alloc ?_ _) | (refine Upd.drewN ?_ _) | (refine Upd.drew ?_) | (refine Upd.trans ?_ (by with_reducible assumption))))⟩

theorem Rd.fs {w : World} {A : Option Addr} {l : List (Int × Int)} (h : Rd w A (l.flatMap fCells)) {k : Nat} {t : Int × Int} (ht : l[k]? = some t) :
    ∃ g o, A = some ⟨g, o, none⟩ ∧ w.cell? ⟨g, o + k * 2, none⟩ = some (.int .i64 t.1) ∧ w.cell? ⟨g, o + k * 2 + 1, none⟩ = some (.int .i64 t.2) := by
  have hne : l.flatMap fCells ≠ [] := by
    intro e
    have h1 := flat_get fCells 2 (fun _ => rfl) l k t ht 0 (by omega)
    rw [e] at h1; simp [fCells] at h1
  obtain ⟨g, o, e, hc⟩ := h hne
  refine ⟨g, o, e, ?_, ?_⟩
  · exact hc (k * 2) _ (by have := flat_get fCells 2 (fun _ => rfl) l k t ht 0 (by omega); simpa [fCells] using this)
  · exact hc (k * 2 + 1) _ (by have := flat_get fCells 2 (fun _ => rfl) l k t ht 1 (by omega); simpa [fCells] using this)

theorem idxNone (A : Option Addr) (n c B : Nat) (l : List (Int × Int)) (hn : n = l.length) (hm : n ≤ 9223372036854775807) (d : Int) (hd : ∀ x ∈ l, x.1 ≤ d) (w : World) (H : Rd w A (l.flatMap fCells)) (hc : w.cell? ⟨B, 2, none⟩ = some (.int .i64 d)) :
    Calls Try.prog 21 #[.slice A n c, .func (.func 22) #[] #[.pointer (some ⟨B, 0, none⟩)]] w fun e w' => e = .returned (.int .i64 (-1)) ∧ Upd No w w' := by
  have HN := Lib.hid hn
  clear hn
  go_enter Try.func21, Try.ntmps21
  go_wp2
  go_loopw [5, 8] (fun _ i wr => ∃ k : Nat, k ≤ n ∧ i = .int .i64 k ∧ Upd No w wr) (fun _ i _ => n - (intOf i).toNat)
  case atStart => exact ⟨0, Nat.zero_le _, rfl, Upd.refl _ _⟩
  case round =>
    obtain ⟨k, hk, rfl, hu⟩ := hrel
    by_cases hkl : k < n
    · obtain ⟨x, hx⟩ : ∃ x, l[k]? = some x := ⟨l[k]'(by rw [← HN.out]; exact hkl), List.getElem?_eq_getElem _⟩
      obtain ⟨ga, o, rfl, a0, a1⟩ := (H.upd hu).fs hx
      have hx0 := hd x (List.mem_iff_getElem?.2 ⟨k, hx⟩)
      have hcw := hu.at_ hc
      have e0 : decide (d < x.1) = false := decide_eq_false (by omega)
      have E0 := Lib.hid e0
      clear e0 hx
      go_wp2_with (go_at_call 22; refine (cmpRefill B x d wr hcw).mono ?_; rw [E0.out]; rintro e w1 ⟨rfl, hu1⟩)
      go_roundw
      case rel => exact ⟨k + 1, by omega, by go_num, hu.trans hu1⟩
      case measure => simp [intOf]; omega
    · have ek : k = n := by omega
      subst ek
      go_wp2
      go_ret
      exact ⟨rfl, hu⟩

set_option maxHeartbeats 1000000 in
theorem insEnd {base n : Nat} {v : Value} {xs : List Value} {w : World} (hown : w.ownsRow base 46 2 v n xs) (hn : n < 1000000) (hbase : base ≤ w.heap.size) (A : Option Addr) (c : Nat) (ys : List Value) (hl : ys.length = 2) (hr : Rd w A ys) (h1 : ∀ u ∈ ys, u.oneCell' = true) :
    Calls Try.prog 23 #[v, .int .i64 n, .slice A 1 c] w fun e w' => ∃ v', e = .returned v' ∧ w'.ownsRow base 46 2 v' (n + 1) (xs ++ ys) ∧ w.grownBy w' v.ownBlock := by
  have hown' := hown
  rcases hown.2 with ⟨rfl, rfl⟩ | ⟨g, cap, cur, rfl, hb, hg, h5, h6, h7, h8⟩
  · clear hown
    go_enter Try.func23, Try.ntmps23
    go_wp2_with (at_builtin; refine wpList_app rfl (.tmp 23) (.tmp 24) elemRefill rfl (base := base) rfl hown' rfl (ys := ys) hl hr h1 (by omega) (by omega) hbase ?_; intro v1 w1 ho1 hg1)
    go_ret
    exact ⟨v1, rfl, ho1, hg1⟩
  · have hcm : cap ≤ 9223372036854775807 := by unfold maxLen at h6; omega
    clear hown
    go_enter Try.func23, Try.ntmps23
    go_wp2_with (at_builtin; refine wpList_app rfl (.tmp 23) (.tmp 24) elemRefill rfl (base := base) rfl hown' rfl (ys := ys) hl hr h1 (by omega) (by omega) hbase ?_; intro v1 w1 ho1 hg1)
    all_goals
      go_ret
      exact ⟨v1, rfl, ho1, hg1⟩

end Go.Proofs.Ytojlkjmdcoolnaa
