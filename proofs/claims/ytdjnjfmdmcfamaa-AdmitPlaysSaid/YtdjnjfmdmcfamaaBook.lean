/- What the calls of package admit do, and answer. -/
import Derived.Test.YtdjnjfmdmcfamaaMv
import Derived.Test.YtdjnjfmdmcfamaaSupply
import Derived.BigQuiet
import Derived.Deep.QuietTactic
import Derived.RegionTactic
namespace Go.Proofs.Ytdjnjfmdmcfamaa
open Go.RowKit

/-- The share of a reservation that may be. -/
def shareP (b p : Int) : Int := cdiv (4294967296 * b) p
theorem cdiv_up {a p : Int} (hp : 1 ≤ p) : (a + p - 1) / p = cdiv a p := by
  unfold cdiv
  have h := Int.mul_ediv_add_emod a p
  have h0 := Int.emod_nonneg a (show p ≠ 0 by omega)
  have h1 := Int.emod_lt_of_pos a (show 0 < p by omega)
  split
  · rename_i he
    rw [he] at h
    rw [show a + p - 1 = (p - 1) + p * (a / p) by omega, Int.add_mul_ediv_left _ _ (by omega), Int.ediv_eq_zero_of_lt (by omega) (by omega)]; omega
  · rw [show a + p - 1 = (a % p - 1) + p * (a / p + 1) by rw [Int.mul_add]; omega, Int.add_mul_ediv_left _ _ (by omega), Int.ediv_eq_zero_of_lt (by omega) (by omega)]; omega
theorem shareP_le {b p : Int} (h1 : 1 ≤ b) (h2 : b ≤ p) : 1 ≤ shareP b p ∧ shareP b p ≤ 4294967296 := by
  unfold shareP
  rw [← cdiv_up (by omega)]
  constructor
  · exact Int.le_ediv_of_mul_le (by omega) (by omega)
  · have : (4294967296 * b + p - 1) / p < 4294967297 := Int.ediv_lt_of_lt_mul (by omega) (by omega)
    omega

theorem admShare (b p : Int) (w : World) : Calls Try.prog 13 #[.agg #[.int .i64 b, .int .i64 p]] w fun e w' => e = .returned (.int .u64 (if resB b p = true then shareP b p else 0)) ∧ Upd No w w' := by
  cases hr : resB b p
  · have HR := Lib.hid hr; clear hr
    go_enter Try.func13, Try.ntmps13
    go_wp2_with (go_at_call 23; refine (resRight b p _).mono ?_; rw [HR.out]; rintro e w1 ⟨rfl, hu1⟩)
    go_ret
    exact ⟨rfl, (by repeat (first | with_reducible assumption | exact Upd.refl _ _ | (refine Upd.setNew ?_ (by first | (simp; done) | (simp; omega)) _) | (refine Upd.alloc ?_ _) | (refine Upd.drewN ?_ _) | (refine Upd.drew ?_) | (refine Upd.trans ?_ (by with_reducible assumption))))⟩
  · obtain ⟨hb1, hb2, hb3⟩ := (resB_iff b p).1 hr
    have HR := Lib.hid hr; clear hr
    have hbx : ∀ w1, Upd No (w.alloc (.cells #[.int .i64 b, .int .i64 p] 40)) w1 → w1.cell? ⟨w.heap.size, 0, none⟩ = some (.int .i64 b) ∧ w1.cell? ⟨w.heap.size, 1, none⟩ = some (.int .i64 p) := fun w1 hu => ⟨hu.box 0, hu.box 1⟩
    have HBX := Lib.hid hbx
    clear hbx
    go_enter Try.func13, Try.ntmps13
    go_wp2_with (go_at_call 23; refine (resRight b p _).mono ?_; rw [HR.out]; rintro e w1 ⟨rfl, hu1⟩; obtain ⟨c0, c1⟩ := HBX.out w1 hu1)
    go_quiet (fail)
    go_wp2
    go_ret
    refine ⟨ret_int ?_, (by repeat (first | with_reducible assumption | exact Upd.refl _ _ | (refine Upd.setNew ?_ (by first | (simp; done) | (simp; omega)) _) | (refine Upd.alloc ?_ _) | (refine Upd.drewN ?_ _) | (refine Upd.drew ?_) | (refine Upd.trans ?_ (by with_reducible assumption))))⟩
    rw [shareP, ← cdiv_up (by omega)]

structure Bk where
  now : Int
  used : Int
  f : Int → Option Int
  p : List (Int × Int)
def bkCells (x : Int × Int) : List Value := [.int .u64 x.1, .int .i64 x.2]
def sumP (p : List (Int × Int)) : Int := (p.map Prod.fst).sum

structure Bk.ok (B : Bk) : Prop where
  u0 : 0 ≤ B.used
  u1 : B.used ≤ 4294967296
  fs : ∀ i s, B.f i = some s → 0 ≤ s ∧ s ≤ B.used
  ps : ∀ x, x ∈ B.p → 0 ≤ x.1
  sum : sumP B.p ≤ B.used

abbrev bookT : List TypeId := [29, 61]

/-- The book at block b. -/
structure BokV (w : World) (base b n : Nat) (r : Option Nat) (v : Value) (B : Bk) : Prop where
  hb : base ≤ b
  hs : base ≤ w.heap.size
  row : Row w b 29 [.int .i64 B.now, .int .u64 B.used, .map r, v]
  map : MapI Try.prog 3 25 .u64 base w r n B.f
  pend : w.ownsRow base 61 2 v B.p.length (B.p.flatMap bkCells)
def Bok (w : World) (base b n : Nat) (B : Bk) : Prop := ∃ r v, BokV w base b n r v B

theorem BokV.upd {S : Nat → Prop} {w w' : World} {base b n : Nat} {r : Option Nat} {v : Value} {B : Bk} (h : BokV w base b n r v B) (hu : Upd S w w') (h1 : ∀ k es clock, w.heap[k]? = some (.map es clock) → ¬ S k) (h2 : ∀ k cur T fz, w.heap[k]? = some (.cells cur T fz) → T ∈ bookT → ¬ S k) : BokV w' base b n r v B := by
  refine ⟨h.hb, Nat.le_trans h.hs hu.size, h.row.upd hu (h2 b _ _ _ h.row (by decide)), h.map.upd hu h1, own_upd h.pend hu (fun k hk => ?_)⟩
  rcases h.pend.2 with ⟨rfl, _⟩ | ⟨g, cap, cur, rfl, _, hg, _⟩
  · cases hk
  · simp only [Value.ownBlock, Option.some.injEq] at hk
    subst hk
    exact h2 _ _ _ _ hg (by decide)
theorem Bok.upd {S : Nat → Prop} {w w' : World} {base b n : Nat} {B : Bk} (h : Bok w base b n B) (hu : Upd S w w') (h1 : ∀ k es clock, w.heap[k]? = some (.map es clock) → ¬ S k) (h2 : ∀ k cur T fz, w.heap[k]? = some (.cells cur T fz) → T ∈ bookT → ¬ S k) : Bok w' base b n B := by
  obtain ⟨r, v, h⟩ := h
  exact ⟨r, v, h.upd hu h1 h2⟩
theorem BokV.updNo {w w' : World} {base b n : Nat} {r : Option Nat} {v : Value} {B : Bk} (h : BokV w base b n r v B) (hu : Upd No w w') : BokV w' base b n r v B := h.upd hu (fun _ _ _ _ q => q) (fun _ _ _ _ _ _ q => q)
theorem Bok.updNo {w w' : World} {base b n : Nat} {B : Bk} (h : Bok w base b n B) (hu : Upd No w w') : Bok w' base b n B := h.upd hu (fun _ _ _ _ q => q) (fun _ _ _ _ _ _ q => q)
/-- Blocks of other types alone have turned. -/
theorem Bok.updT {S : Nat → Prop} {w w' : World} {base b n : Nat} {B : Bk} (h : Bok w base b n B) (hu : Upd S w w') (hS : ∀ k, S k → ∃ cur T fz, w.heap[k]? = some (.cells cur T fz) ∧ T ∉ bookT) : Bok w' base b n B :=
  h.upd hu (fun k es clock he q => by obtain ⟨cur, T, fz, e, _⟩ := hS k q; rw [he] at e; cases e)
    (fun k cur T fz he hT q => by obtain ⟨cur', T', fz', e, hn⟩ := hS k q; rw [he] at e; simp only [Option.some.injEq, Obj.cells.injEq] at e; exact hn (e.2.1 ▸ hT))

theorem Bok.mr {P : List TypeId} {b0 : Nat} {w w' : World} {base b n : Nat} {B : Bk} (h : Bok w base b n B) (hu : Mr P b0 w w') (hP : ∀ T, T ∈ P → T ∉ bookT) : Bok w' base b n B :=
  h.updT hu (fun k q => by obtain ⟨_, cur, T, fz, h2, h3⟩ := q; exact ⟨cur, T, fz, h2, hP T h3⟩)

theorem u64zero (w : World) : (zeroValue 25).run Try.prog w = .ok (.int .u64 0) w := by kernel_rfl

theorem bookHas {b n base : Nat} {B : Bk} {w : World} (h : Bok w base b n B) (i : Int) (hi : (Lit.int .i64 i).wf = true) :
    Calls Try.prog 19 #[.pointer (some ⟨b, 0, none⟩), .int .i64 i] w fun e w' => e = .returned (.bool (B.f i).isSome) ∧ w = w' := by
  obtain ⟨r, v, h⟩ := h
  have c2 := h.row.cell (i := 2) rfl
  obtain ⟨c, hl, _⟩ := h.map.look_ok (t := 26) Try.underlying3 Try.underlying26 Try.underlying25 u64zero hi
  clear h
  go_enter Try.func19, Try.ntmps19
  go_wp2
  go_ret
  exact ⟨rfl, rfl⟩

theorem bookUsed {b n base : Nat} {B : Bk} {w : World} (h : Bok w base b n B) :
    Calls Try.prog 17 #[.pointer (some ⟨b, 0, none⟩)] w fun e w' => e = .returned (.int .u64 B.used) ∧ w = w' := by
  obtain ⟨r, v, h⟩ := h
  have c2 := h.row.cell (i := 1) rfl
  clear h
  go_enter Try.func17, Try.ntmps17
  go_wp2
  go_ret
  exact ⟨rfl, rfl⟩

end Go.Proofs.Ytdjnjfmdmcfamaa
