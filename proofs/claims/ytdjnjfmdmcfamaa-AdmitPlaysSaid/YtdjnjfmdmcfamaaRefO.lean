/- The document's book (package remontoireref13), by the printed functions: what they answer, in plain words. -/
import Derived.Test.YtdjnjfmdmcfamaaPAdmitPlaysx
import Derived.Test.YtdjnjfmdmcfamaaFitsL
namespace Go.Proofs.Ytdjnjfmdmcfamaa
open Go.RowKit Go.Proofs.YtdjnjfmdmcfamaaW.PrintWords Go.Proofs.Ytdjnjfmdmcfamaa.PAdmitPlays

abbrev En := S63
def mine (who : Int) (e : En) : Bool := e.f0 == who && !e.f2
def findE (E : List En) (who : Int) : Int :=
  match E.findIdx? (mine who) with
  | none => -1
  | some i => i
def enSum (E : List En) : Int := (E.map (fun e => e.f1)).sum
def pendE (E : List En) : Int := ((E.filter (fun e => e.f2)).length : Nat)
def counts (now : Int) (e : En) : Bool := !e.f2 || decide (now < e.f3)
def overE (now : Int) (E : List En) : List En := E.filter (counts now)
def admE (E : List En) (who b p : Int) : List En × Int :=
  if resB b p = true then if 0 ≤ findE E who then (E, 7) else if 4294967296 < enSum E + shareP b p then (E, 24) else (E ++ [⟨who, shareP b p, false, 0⟩], 0) else (E, 1)
def relE (now : Int) (E : List En) (who til : Int) : List En × Int :=
  match E.findIdx? (mine who) with
  | none => (E, 6)
  | some i => match E[i]? with
    | none => (E, 6)
    | some x => (overE now (E.set i ⟨x.f0, x.f1, true, til⟩), 0)
def advE (now0 : Int) (E : List En) (now : Int) : (Int × List En) × Int := if now < now0 then ((now0, E), 0) else ((now, overE now E), E.length - (overE now E).length)

theorem enSum_nil : enSum [] = 0 := rfl
theorem enSum_cons (x : En) (p : List En) : enSum (x :: p) = x.f1 + enSum p := by simp [enSum]
theorem enSum_app (p q : List En) : enSum (p ++ q) = enSum p + enSum q := by simp [enSum]
def nonneg (E : List En) : Prop := ∀ x, x ∈ E → 0 ≤ x.f1
theorem enSum_nonneg {p : List En} (h : nonneg p) : 0 ≤ enSum p := by
  induction p with
  | nil => simp [enSum]
  | cons x p ih => rw [enSum_cons]; have := h x (by simp); have := ih (fun y hy => h y (by simp [hy])); omega

theorem w64 {i : Nat} (h : i < 1000000) : wrap64 ((i : Int) + 1) = ((i + 1 : Nat) : Int) := by unfold wrap64; omega
theorem rd_at (l : List En) (i : Nat) (x : En) (h : l[i]? = some x) : rd_T63 l (i : Int) = x := by
  unfold rd_T63
  simp [List.getD, h]
theorem drop_at {α : Type} {l : List α} {i : Nat} (h : i < l.length) : ∃ x, l[i]? = some x ∧ l.drop i = x :: l.drop (i + 1) :=
  ⟨l[i], List.getElem?_eq_getElem h, List.drop_eq_getElem_cons h⟩

theorem find_l0 (who a0 : Int) (l : List En) (hl : l.length < 1000000) : ∀ (d k i : Nat), l.length - i = d → i ≤ l.length → d < k →
    remontoireref13_Find.l0 k who (i : Int) a0 l = some (match (l.drop i).findIdx? (mine who) with | none => -1 | some j => ((i + j : Nat) : Int)) := by
  intro d
  induction d with
  | zero =>
    intro k i hd hi hk
    obtain ⟨k, rfl⟩ : ∃ m, k = m + 1 := ⟨k - 1, by omega⟩
    simp only [remontoireref13_Find.l0]
    rw [if_neg (by omega), List.drop_eq_nil_of_le (by omega)]
    rfl
  | succ d ih =>
    intro k i hd hi hk
    obtain ⟨k, rfl⟩ : ∃ m, k = m + 1 := ⟨k - 1, by omega⟩
    obtain ⟨x, hx, hdr⟩ := drop_at (l := l) (i := i) (by omega)
    have hr := ih k (i + 1) (by omega) (by omega) (by omega)
    simp only [remontoireref13_Find.l0]
    rw [if_pos (by omega), if_pos (by omega), rd_at l i x hx, w64 (by omega), hr, hdr, List.findIdx?_cons]
    have hm : mine who x = (x.f0 == who && !x.f2) := rfl
    have hs : (match ((l.drop (i + 1)).findIdx? (mine who)).map (fun j => j + 1) with | none => (-1 : Int) | some j => ((i + j : Nat) : Int)) = (match (l.drop (i + 1)).findIdx? (mine who) with | none => -1 | some j => ((i + 1 + j : Nat) : Int)) := by
      cases (l.drop (i + 1)).findIdx? (mine who) with
      | none => rfl
      | some j => exact congrArg Int.ofNat (show i + (j + 1) = i + 1 + j by omega)
    by_cases h1 : x.f0 = who
    · rw [if_pos h1]
      cases h2 : x.f2
      · rw [if_neg (by simp), hm, h2]; simp [h1]
      · rw [if_pos rfl, hm, h2]
        simp only [Bool.not_true, Bool.and_false, Bool.false_eq_true, if_false]
        rw [← hs]
    · rw [if_neg h1, hm]
      have : (x.f0 == who) = false := by simp [h1]
      simp only [this, Bool.false_and, Bool.false_eq_true, if_false]
      rw [← hs]

theorem find_f (a0 : Int) (l : List En) (who : Int) (hl : l.length < 1000000) (k : Nat) (hk : 1000000 ≤ k) : remontoireref13_Find.f k a0 l who = some (findE l who) := by
  have h := find_l0 who a0 l hl l.length k 0 (by omega) (by omega) (by omega)
  unfold remontoireref13_Find.f findE
  rw [show ((0 : Nat) : Int) = 0 from rfl] at h
  rw [h]
  simp only [List.drop_zero, Nat.zero_add]

theorem over_l0 (now : Int) (l : List En) (hl : l.length < 1000000) : ∀ (d k i : Nat) (acc : List En), l.length - i = d → i ≤ l.length → d < k → acc.length ≤ i →
    remontoireref13_over.l0 k acc (i : Int) now l = some (now, acc ++ overE now (l.drop i), (l.length : Int) - ((acc ++ overE now (l.drop i)).length : Int)) := by
  intro d
  induction d with
  | zero =>
    intro k i acc hd hi hk ha
    obtain ⟨k, rfl⟩ : ∃ m, k = m + 1 := ⟨k - 1, by omega⟩
    simp only [remontoireref13_over.l0]
    rw [if_neg (by omega), List.drop_eq_nil_of_le (by omega)]
    have e : overE now [] = [] := rfl
    rw [e, List.append_nil]
    have : wrap64 ((l.length : Int) - (acc.length : Int)) = (l.length : Int) - (acc.length : Int) := by unfold wrap64; omega
    rw [this]
  | succ d ih =>
    intro k i acc hd hi hk ha
    obtain ⟨k, rfl⟩ : ∃ m, k = m + 1 := ⟨k - 1, by omega⟩
    obtain ⟨x, hx, hdr⟩ := drop_at (l := l) (i := i) (by omega)
    simp only [remontoireref13_over.l0]
    rw [if_pos (by omega), if_pos (by omega), rd_at l i x hx, w64 (by omega), hdr]
    have hc : overE now (x :: l.drop (i + 1)) = if counts now x = true then x :: overE now (l.drop (i + 1)) else overE now (l.drop (i + 1)) := by
      unfold overE; rw [List.filter_cons]
    have hx4 : (⟨x.f0, x.f1, x.f2, x.f3⟩ : En) = x := by cases x; rfl
    have h1 := ih k (i + 1) (acc ++ [x]) (by omega) (by omega) (by omega) (by simp; omega)
    have h2 := ih k (i + 1) acc (by omega) (by omega) (by omega) (by omega)
    have hlen : acc.length < 4398046511104 := by omega
    rw [hx4, hc]
    rw [List.append_assoc, List.singleton_append] at h1
    cases hg : x.f2
    · rw [if_neg (by simp), if_pos hlen, h1]
      have : counts now x = true := by simp [counts, hg]
      rw [if_pos this]
    · rw [if_pos rfl]
      by_cases ht : x.f3 > now
      · rw [if_pos ht, if_pos hlen, h1]
        have : counts now x = true := by simp [counts, hg]; omega
        rw [if_pos this]
      · rw [if_neg ht, h2]
        have : counts now x = false := by simp [counts, hg]; omega
        rw [this]
        simp

theorem over_f (now : Int) (l : List En) (hl : l.length < 1000000) (k : Nat) (hk : 1000000 ≤ k) : remontoireref13_over.f k now l = some (now, overE now l, (l.length : Int) - ((overE now l).length : Int)) := by
  have h := over_l0 now l hl l.length k 0 [] (by omega) (by omega) (by omega) (by simp)
  unfold remontoireref13_over.f
  rw [show ((0 : Nat) : Int) = 0 from rfl] at h
  rw [h]
  simp

theorem used_l0 (a0 : Int) (l : List En) (hl : l.length < 1000000) (hp : nonneg l) : ∀ (d k i : Nat) (s : Int), l.length - i = d → i ≤ l.length → d < k → 0 ≤ s → s + enSum (l.drop i) ≤ 4294967296 →
    remontoireref13_Used.l0 k s (i : Int) a0 l = some (s + enSum (l.drop i)) := by
  intro d
  induction d with
  | zero =>
    intro k i s hd hi hk h0 hs
    obtain ⟨k, rfl⟩ : ∃ m, k = m + 1 := ⟨k - 1, by omega⟩
    simp only [remontoireref13_Used.l0]
    rw [if_neg (by omega), List.drop_eq_nil_of_le (by omega), enSum_nil]; simp
  | succ d ih =>
    intro k i s hd hi hk h0 hs
    obtain ⟨k, rfl⟩ : ∃ m, k = m + 1 := ⟨k - 1, by omega⟩
    obtain ⟨x, hx, hdr⟩ := drop_at (l := l) (i := i) (by omega)
    rw [hdr, enSum_cons] at hs
    have hx0 := hp x (List.mem_iff_getElem?.2 ⟨i, hx⟩)
    have hn := enSum_nonneg (p := l.drop (i + 1)) (fun y hy => hp y (List.mem_of_mem_drop hy))
    simp only [remontoireref13_Used.l0]
    rw [if_pos (by omega), if_pos (by omega), rd_at l i x hx, w64 (by omega)]
    have hw : IntKind.u64.wrap (s + x.f1) = s + x.f1 := IntWalk.u64_in _ (by omega)
    rw [hw, ih k (i + 1) (s + x.f1) (by omega) (by omega) (by omega) (by omega) (by omega), hdr, enSum_cons]
    congr 1; omega
theorem used_f (a0 : Int) (l : List En) (hl : l.length < 1000000) (hp : nonneg l) (hs : enSum l ≤ 4294967296) (k : Nat) (hk : 1000000 ≤ k) : remontoireref13_Used.f k a0 l = some (enSum l) := by
  have h := used_l0 a0 l hl hp l.length k 0 0 (by omega) (by omega) (by omega) (by omega) (by simpa using hs)
  unfold remontoireref13_Used.f
  rw [show ((0 : Nat) : Int) = 0 from rfl] at h
  rw [h]; simp

theorem pend_l0 (a0 : Int) (l : List En) (hl : l.length < 1000000) : ∀ (d k i : Nat) (s : Nat), l.length - i = d → i ≤ l.length → d < k → s ≤ i →
    remontoireref13_Pending.l0 k (s : Int) (i : Int) a0 l = some ((s : Int) + pendE (l.drop i)) := by
  intro d
  induction d with
  | zero =>
    intro k i s hd hi hk h0
    obtain ⟨k, rfl⟩ : ∃ m, k = m + 1 := ⟨k - 1, by omega⟩
    simp only [remontoireref13_Pending.l0]
    rw [if_neg (by omega), List.drop_eq_nil_of_le (by omega)]; simp [pendE]
  | succ d ih =>
    intro k i s hd hi hk h0
    obtain ⟨k, rfl⟩ : ∃ m, k = m + 1 := ⟨k - 1, by omega⟩
    obtain ⟨x, hx, hdr⟩ := drop_at (l := l) (i := i) (by omega)
    simp only [remontoireref13_Pending.l0]
    rw [if_pos (by omega), if_pos (by omega), rd_at l i x hx, w64 (i := i) (by omega), hdr]
    cases hg : x.f2
    · rw [if_neg (by simp), ih k (i + 1) s (by omega) (by omega) (by omega) (by omega)]
      simp [pendE, hg]
    · rw [if_pos rfl, w64 (i := s) (by omega), ih k (i + 1) (s + 1) (by omega) (by omega) (by omega) (by omega)]
      simp only [pendE, List.filter_cons, hg, if_true, List.length_cons]
      congr 1; omega
theorem pend_f (a0 : Int) (l : List En) (hl : l.length < 1000000) (k : Nat) (hk : 1000000 ≤ k) : remontoireref13_Pending.f k a0 l = some (pendE l) := by
  have h := pend_l0 a0 l hl l.length k 0 0 (by omega) (by omega) (by omega) (by omega)
  unfold remontoireref13_Pending.f
  rw [show ((0 : Nat) : Int) = 0 from rfl] at h
  rw [h]; simp

theorem right_f (b p : Int) : remontoireref04_Right.f b p = some (resB b p) := by
  have h := resB_iff b p
  unfold remontoireref04_Right.f
  cases hr : resB b p with
  | true =>
    have := h.1 hr
    rw [if_pos (by omega), if_pos (by omega), decide_eq_true (by omega)]
  | false =>
    have hn : ¬ (1 ≤ b ∧ b ≤ p ∧ p ≤ 1048576) := fun q => by rw [h.2 q] at hr; cases hr
    split
    · split
      · rw [decide_eq_false (by omega)]
      · rfl
    · rfl

theorem share_f (b p : Int) (hr : resB b p = true) : remontoireref13_Share.f b p = some (shareP b p) := by
  obtain ⟨hb1, hb2, hb3⟩ := (resB_iff b p).1 hr
  have h := Int.mul_ediv_add_emod (b * 4294967296) p
  have h0 := Int.emod_nonneg (b * 4294967296) (show p ≠ 0 by omega)
  have h1 := Int.emod_lt_of_pos (b * 4294967296) (show 0 < p by omega)
  have hd0 : 0 ≤ b * 4294967296 / p := Int.ediv_nonneg (by omega) (by omega)
  have hd1 : b * 4294967296 / p ≤ b * 4294967296 := Int.ediv_le_self _ (by omega)
  have hp : IntKind.u64.wrap p = p := IntWalk.u64_in _ (by omega)
  have hb : IntKind.u64.wrap b = b := IntWalk.u64_in _ (by omega)
  have hm : IntKind.u64.wrap (b * 4294967296) = b * 4294967296 := IntWalk.u64_in _ (by omega)
  have ht : Int.tdiv (b * 4294967296) p = b * 4294967296 / p := Int.tdiv_eq_ediv_of_nonneg (by omega)
  have hq : IntKind.u64.wrap (b * 4294967296 / p) = b * 4294967296 / p := IntWalk.u64_in _ (by omega)
  have hc2 : b * 4294967296 / p * p = p * (b * 4294967296 / p) := Int.mul_comm _ _
  have hw : IntKind.u64.wrap (p * (b * 4294967296 / p)) = p * (b * 4294967296 / p) := IntWalk.u64_in _ (by omega)
  have hq1 : IntKind.u64.wrap (b * 4294967296 / p + 1) = b * 4294967296 / p + 1 := IntWalk.u64_in _ (by omega)
  unfold remontoireref13_Share.f
  rw [hp, hb, hm, ht, hq, hc2, hw, if_neg (by omega)]
  have e : shareP b p = if b * 4294967296 % p = 0 then b * 4294967296 / p else b * 4294967296 / p + 1 := by unfold shareP cdiv; rw [Int.mul_comm 4294967296 b]
  rw [e]
  by_cases hz : b * 4294967296 % p = 0
  · rw [if_neg (by omega), if_pos hz]
  · rw [if_pos (by omega), if_neg hz, hq1]

theorem admit_f (now : Int) (l : List En) (who b p : Int) (hl : l.length < 999999) (hp : nonneg l) (hs : enSum l ≤ 4294967296) :
    remontoireref13_Admit.f 1000000 now l who b p = some (now, (admE l who b p).1, (admE l who b p).2) := by
  unfold remontoireref13_Admit.f admE
  rw [right_f]
  simp only [Option.bind_some]
  by_cases hr : resB b p = true
  · rw [if_pos hr, if_pos hr, find_f now l who (by omega) 1000000 (Nat.le_refl _)]
    simp only [Option.bind_some]
    by_cases hf : 0 ≤ findE l who
    · rw [if_pos (by omega), if_pos hf]
    · rw [if_neg (by omega), if_neg hf, used_f now l (by omega) hp hs 1000000 (Nat.le_refl _), share_f b p hr]
      obtain ⟨hs1, hs2⟩ := shareP_le ((resB_iff _ _).1 hr).1 ((resB_iff _ _).1 hr).2.1
      have h0 := enSum_nonneg hp
      have hw : IntKind.u64.wrap (enSum l + shareP b p) = enSum l + shareP b p := IntWalk.u64_in _ (by omega)
      simp only [Option.bind_some]
      rw [hw]
      by_cases ho : 4294967296 < enSum l + shareP b p
      · rw [if_pos (by omega), if_pos ho]
      · rw [if_neg (by omega), if_neg ho, if_pos (by simp; omega), if_pos (by simp; omega)]
        simp
  · rw [if_neg hr, if_neg hr]

theorem release_f (now : Int) (l : List En) (who til : Int) (hl : l.length < 999999) :
    ∃ n, remontoireref13_Release.f 1000000 now l who til = some (now, (relE now l who til).1, n) ∧ n = (relE now l who til).2 := by
  unfold remontoireref13_Release.f relE
  rw [find_f now l who (by omega) 1000000 (Nat.le_refl _)]
  simp only [Option.bind_some]
  cases hf : l.findIdx? (mine who) with
  | none =>
    have e : findE l who = -1 := by simp [findE, hf]
    rw [e, if_pos (by omega)]
    exact ⟨6, rfl, rfl⟩
  | some i =>
    have e : findE l who = (i : Int) := by simp [findE, hf]
    have hi : i < l.length := by
      rw [List.findIdx?_eq_some_iff_getElem] at hf
      exact hf.1
    have hx : l[i]? = some l[i] := List.getElem?_eq_getElem hi
    have hx2 : (l.set i ⟨l[i].f0, l[i].f1, true, l[i].f3⟩)[i]? = some ⟨l[i].f0, l[i].f1, true, l[i].f3⟩ := by rw [List.getElem?_set]; simp [hi]
    rw [e, if_neg (by omega)]
    simp only [List.nil_append]
    rw [if_pos (by simp; omega), if_pos (by omega), if_pos (by omega), rd_at l i _ hx, Int.toNat_natCast, rd_at _ i _ hx2, List.set_set, over_f now _ (by simp; omega) 1000000 (Nat.le_refl _), hx]
    exact ⟨0, rfl, rfl⟩

theorem advance_f (now0 : Int) (l : List En) (now : Int) (hl : l.length < 999999) :
    remontoireref13_Advance.f 1000000 now0 l now = some ((advE now0 l now).1.1, (advE now0 l now).1.2, (advE now0 l now).2) := by
  unfold remontoireref13_Advance.f advE
  by_cases h : now < now0
  · rw [if_pos h, if_pos h]
  · rw [if_neg h, if_neg h, over_f now l (by omega) 1000000 (Nat.le_refl _)]
    rfl

/-! The document's book in memory: the entries are a row of the call's own. -/
def RO (w : World) (base : Nat) (u : Value) (E : List En) : Prop := Kd.R k63 63 w base (fun _ => True) u E

theorem RO.upd {S : Nat → Prop} {w w' : World} {base : Nat} {u : Value} {E : List En} (h : RO w base u E) (hu : Upd S w w') (hs : ∀ k cur fz, S k → w.heap[k]? = some (.cells cur 63 fz) → False) : RO w' base u E := by
  have hb := Kd.R_bound h
  have h2 := Kd.R_step (w1 := w') hb (fun k hk hlt => hu.block k hlt (fun q => by
    obtain ⟨_, _, _, q', hq, cells, hc⟩ := hk
    have hq' : q' = 63 := by
      have : q' ∈ [63] := hq
      simpa using this
    subst hq'
    exact hs k _ _ q hc))
  exact Kd.R_mono h2 (fun _ _ => trivial)
theorem RO.updNo {w w' : World} {base : Nat} {u : Value} {E : List En} (h : RO w base u E) (hu : Upd No w w') : RO w' base u E := h.upd hu (fun _ _ _ q _ => q)
theorem RO.mv {P : List TypeId} {b0 : Nat} {w w' : World} {base : Nat} {u : Value} {E : List En} (h : RO w base u E) (hu : Mv P b0 w w') (ht : 63 ∉ P) : RO w' base u E := h.upd hu (fun k cur fz q hk => ht (q.2 _ _ _ hk))
theorem RO.cell {w : World} {base : Nat} {u : Value} {E : List En} {g : Nat} {T : TypeId} {xs : List Value} (h : RO w base u E) (hg : Row w g T xs) (ht : T ≠ 63) (i : Nat) (x : Value) : RO (w.setCell ⟨g, i, none⟩ x) base u E :=
  h.upd (S := at1 g) ((Upd.refl _ _).set1 i x) (fun k cur fz q hk => by
    unfold at1 at q; subst q
    unfold Row at hg; rw [hg] at hk
    simp only [Option.some.injEq, Obj.cells.injEq] at hk
    exact ht hk.2.1)
theorem RO.nil (w : World) (base : Nat) : RO w base (.slice none 0 0) [] := Kd.R_nil _ _ _ _ _
theorem RO.reads {w : World} {base : Nat} {u : Value} {E : List En} (h : RO w base u E) : ∃ A c, u = .slice A E.length c ∧ E.length ≤ c ∧ Kd.C k63 w A E.length E := Kd.R_reads h

/-- What a printed call may have turned: rows of entries alone. -/
theorem mrOf {w0 w w' : World} {S : Nat → Prop} (h0 : Upd No w0 w) (hb : Below w0.heap.size w0 w') (hk : Kept w w' S) (hS : ∀ k, S k → Tcr [63] w0.heap.size w k) : Mr [63] w0.heap.size w w' :=
  ⟨hb.os.trans h0.os.symm, hb.tape.trans h0.tape.symm, hb.output.trans h0.output.symm, hk.1, fun k hlt hn => hk.2 k hlt (fun q => hn (hS k q))⟩

def DidE (w0 w : World) (now : Int) (E : List En) (r : Int) (e : Ending) (w' : World) : Prop :=
  ∃ u', e = .returned (.tuple #[.agg #[.int .i64 now, u'], .int .i64 r]) ∧ RO w' w0.heap.size u' E ∧ Mr [63] w0.heap.size w w'

theorem tcrOf {w : World} {base : Nat} {u : Value} {E : List En} (k : Nat) (h : True ∧ base ≤ k ∧ k < w.heap.size ∧ ∃ q, q ∈ 63 :: k63.E ∧ ∃ cells, w.heap[k]? = some (.cells cells q (0, 0))) : Tcr [63] base w k := by
  obtain ⟨_, h1, _, q, hq, cells, hc⟩ := h
  exact ⟨h1, cells, q, _, hc, hq⟩

theorem oAdmit {w0 w : World} {now : Int} {E : List En} {u : Value} (h0 : Upd No w0 w) (h : RO w w0.heap.size u E) (who b p : Int) (hl : E.length < 999999) (hp : nonneg E) (hs : enSum E ≤ 4294967296) :
    Calls Try.prog 16 #[.agg #[.int .i64 now, u], .int .i64 who, .agg #[.int .i64 b, .int .i64 p]] w (DidE w0 w now (admE E who b p).1 (admE E who b p).2) :=
  (remontoireref13_Admit.calls 1000000 now _ u E who b p _ _ _ w0 w h0.below (Kd.R_bound h) (admit_f now E who b p hl hp hs)).mono fun e w' ⟨v, he, hr, hb, hk⟩ =>
    ⟨v, he, Kd.R_mono hr (fun _ _ => trivial), mrOf h0 hb hk (fun k q => tcrOf (u := u) (E := E) k q)⟩
theorem oRelease {w0 w : World} {now : Int} {E : List En} {u : Value} (h0 : Upd No w0 w) (h : RO w w0.heap.size u E) (who til : Int) (hl : E.length < 999999) :
    Calls Try.prog 14 #[.agg #[.int .i64 now, u], .int .i64 who, .int .i64 til] w (DidE w0 w now (relE now E who til).1 (relE now E who til).2) := by
  obtain ⟨n, hn, e⟩ := release_f now E who til hl
  rw [← e]
  exact (remontoireref13_Release.calls 1000000 now _ u E who til _ _ _ w0 w h0.below (Kd.R_bound h) hn).mono fun e w' ⟨v, he, hr, hb, hk⟩ =>
    ⟨v, he, Kd.R_mono hr (fun _ _ => trivial), mrOf h0 hb hk (fun k q => tcrOf (u := u) (E := E) k q)⟩
theorem oAdvance {w0 w : World} {now0 : Int} {E : List En} {u : Value} (h0 : Upd No w0 w) (h : RO w w0.heap.size u E) (now : Int) (hl : E.length < 999999) :
    Calls Try.prog 15 #[.agg #[.int .i64 now0, u], .int .i64 now] w (DidE w0 w (advE now0 E now).1.1 (advE now0 E now).1.2 (advE now0 E now).2) :=
  (remontoireref13_Advance.calls 1000000 now0 _ u E now _ _ _ w0 w h0.below (Kd.R_bound h) (advance_f now0 E now hl)).mono fun e w' ⟨v, he, hr, hb, hk⟩ =>
    ⟨v, he, Kd.R_mono hr (fun _ _ => trivial), mrOf h0 hb hk (fun k q => tcrOf (u := u) (E := E) k q)⟩
theorem belowNo {w w' : World} (h : Below w.heap.size w w') : Upd No w w' := Upd.ofBelow h (fun k hk q => by omega)
theorem oUsed {w : World} {base : Nat} {now : Int} {E : List En} {u : Value} (h : RO w base u E) (hl : E.length < 1000000) (hp : nonneg E) (hs : enSum E ≤ 4294967296) :
    Calls Try.prog 18 #[.agg #[.int .i64 now, u]] w fun e w' => e = .returned (.int .u64 (enSum E)) ∧ Upd No w w' := by
  obtain ⟨A, c, rfl, hc, hr⟩ := h.reads
  exact (remontoireref13_Used.calls 1000000 now A c E _ w hr hc (used_f now E hl hp hs _ (Nat.le_refl _))).mono fun e w' ⟨he, hb⟩ => ⟨he, belowNo hb⟩
theorem oFind {w : World} {base : Nat} {now : Int} {E : List En} {u : Value} (h : RO w base u E) (hl : E.length < 1000000) (who : Int) :
    Calls Try.prog 20 #[.agg #[.int .i64 now, u], .int .i64 who] w fun e w' => e = .returned (.int .i64 (findE E who)) ∧ Upd No w w' := by
  obtain ⟨A, c, rfl, hc, hr⟩ := h.reads
  exact (remontoireref13_Find.calls 1000000 now A c E who _ w hr hc (find_f now E who hl _ (Nat.le_refl _))).mono fun e w' ⟨he, hb⟩ => ⟨he, belowNo hb⟩
theorem oPending {w : World} {base : Nat} {now : Int} {E : List En} {u : Value} (h : RO w base u E) (hl : E.length < 1000000) :
    Calls Try.prog 22 #[.agg #[.int .i64 now, u]] w fun e w' => e = .returned (.int .i64 (pendE E)) ∧ Upd No w w' := by
  obtain ⟨A, c, rfl, hc, hr⟩ := h.reads
  exact (remontoireref13_Pending.calls 1000000 now A c E _ w hr hc (pend_f now E hl _ (Nat.le_refl _))).mono fun e w' ⟨he, hb⟩ => ⟨he, belowNo hb⟩

end Go.Proofs.Ytdjnjfmdmcfamaa
