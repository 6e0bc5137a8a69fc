/- FnExactRunTasks returns true for all arguments: the program answers RunTasks as the reference does, leaves its arguments as they are, and hands out rows of its own. No conditions beyond the statement's own. -/
import Derived.Test.YtfkhncoiifojnaaQrtx11
import Derived.Test.YtfkhncoiifojnaaVBase
namespace Go.Proofs.Ytfkhncoiifojnaa.Pure
open Go.RowKit Go.Proofs.Ytfkhncoiifojnaa.Qrt Go.Proofs.YtfkhncoiifojnaaW.PrintWords Go.Proofs.YtfkhncoiifojnaaW.PrintLast Go.Proofs.YtfkhncoiifojnaaW.PrintMore Go.Proofs.Ytfkhncoiifojnaa.Base

theorem l01In_eq (n lo hi : Int) : spec_l01In.f n lo hi = some (decide (lo ≤ n ∧ n ≤ hi)) := by
  unfold spec_l01In.f
  by_cases h : n ≥ lo
  · rw [if_pos h]; congr 1; rw [decide_eq_decide]; exact ⟨fun h2 => ⟨h, h2⟩, fun h2 => h2.2⟩
  · rw [if_neg h]; congr 1; symm; rw [decide_eq_false_iff_not]; exact fun h2 => h h2.1
theorem within_eq (n lo hi : Int) : impl_within.f n lo hi = some (decide (lo ≤ n ∧ n ≤ hi)) := by
  unfold impl_within.f
  by_cases h : n ≥ lo
  · rw [if_pos h]; congr 1; rw [decide_eq_decide]; exact ⟨fun h2 => ⟨h, h2⟩, fun h2 => h2.2⟩
  · rw [if_neg h]; congr 1; symm; rw [decide_eq_false_iff_not]; exact fun h2 => h h2.1
theorem ite_dec (p q : Prop) [Decidable p] [Decidable q] : (if decide p = true then some (decide q) else some false) = some (decide (p ∧ q)) := by
  by_cases hp : p <;> by_cases hq : q <;> simp [hp, hq]
def taskOkP (a0 a1 a2 a3 a4 a5 a6 a7 a8 : Int) : Prop := (1 ≤ a0 ∧ a0 ≤ 3) ∧ (1 ≤ a1 ∧ a1 ≤ 99) ∧ (0 ≤ a2 ∧ a2 ≤ 99) ∧ (1 ≤ a3 ∧ a3 ≤ 20) ∧ (0 ≤ a4 ∧ a4 ≤ 6) ∧ (0 ≤ a5 ∧ a5 ≤ 20) ∧ (0 ≤ a6 ∧ a6 ≤ 20) ∧ (0 ≤ a7 ∧ a7 ≤ 20) ∧ (0 ≤ a8 ∧ a8 ≤ 1)
instance (a0 a1 a2 a3 a4 a5 a6 a7 a8 : Int) : Decidable (taskOkP a0 a1 a2 a3 a4 a5 a6 a7 a8) := by unfold taskOkP; exact inferInstance
theorem specTaskOk_eq (a0 a1 a2 a3 a4 a5 a6 a7 a8 : Int) (a9 : Bool) (a10 : Int) : spec_TaskOk.f a0 a1 a2 a3 a4 a5 a6 a7 a8 a9 a10 = some (decide (taskOkP a0 a1 a2 a3 a4 a5 a6 a7 a8)) := by
  unfold spec_TaskOk.f
  simp only [l01In_eq, Option.bind_some, ite_dec]
  rfl
theorem implTaskOk_j0 (b : Bool) (a0 a1 a2 a3 a4 a5 a6 a7 a8 : Int) (a9 : Bool) (a10 : Int) :
    Ev (fun k => impl_TaskOk.j0 k b a0 a1 a2 a3 a4 a5 a6 a7 a8 a9 a10) (b && decide ((0 ≤ a4 ∧ a4 ≤ 6) ∧ (0 ≤ a5 ∧ a5 ≤ 20) ∧ (0 ≤ a6 ∧ a6 ≤ 20) ∧ (0 ≤ a7 ∧ a7 ≤ 20) ∧ (0 ≤ a8 ∧ a8 ≤ 1))) := by
  refine Ev.step (fun _ => impl_TaskOk.j0.eq_2 ..) (Ev.plain ?_)
  simp only [within_eq, Option.bind_some]
  by_cases h4 : 0 ≤ a4 ∧ a4 ≤ 6 <;> by_cases h5 : 0 ≤ a5 ∧ a5 ≤ 20 <;> by_cases h6 : 0 ≤ a6 ∧ a6 ≤ 20 <;> by_cases h7 : 0 ≤ a7 ∧ a7 ≤ 20 <;> by_cases h8 : 0 ≤ a8 ∧ a8 ≤ 1 <;> cases b <;> simp [h4, h5, h6, h7, h8]
theorem implTaskOk_ev (a0 a1 a2 a3 a4 a5 a6 a7 a8 : Int) (a9 : Bool) (a10 : Int) : Ev (fun k => impl_TaskOk.f k a0 a1 a2 a3 a4 a5 a6 a7 a8 a9 a10) (decide (taskOkP a0 a1 a2 a3 a4 a5 a6 a7 a8)) := by
  refine Ev.congr (fun _ => impl_TaskOk.f.eq_1 ..) ?_
  have no : ∀ p : Prop, ∀ [Decidable p], ¬ p → Ev (fun k => impl_TaskOk.j0 k false a0 a1 a2 a3 a4 a5 a6 a7 a8 a9 a10) (decide p) := fun p _ hp =>
    Ev.eq (implTaskOk_j0 false a0 a1 a2 a3 a4 a5 a6 a7 a8 a9 a10) (by rw [decide_eq_false hp]; rfl)
  refine Ev.call (within_eq ..) ?_
  by_cases h0 : 1 ≤ a0 ∧ a0 ≤ 3
  · refine Ev.pos (by rw [decide_eq_true h0]) (Ev.call (within_eq ..) ?_)
    by_cases h1 : 1 ≤ a1 ∧ a1 ≤ 99
    · refine Ev.pos (by rw [decide_eq_true h1]) (Ev.call (within_eq ..) ?_)
      by_cases h2 : 0 ≤ a2 ∧ a2 ≤ 99
      · refine Ev.pos (by rw [decide_eq_true h2]) (Ev.call (within_eq ..) (Ev.eq (implTaskOk_j0 _ a0 a1 a2 a3 a4 a5 a6 a7 a8 a9 a10) ?_))
        rw [← Bool.decide_and]
        apply decide_eq_decide.2
        unfold taskOkP
        exact ⟨fun h => ⟨h0, h1, h2, h⟩, fun h => h.2.2.2⟩
      · exact Ev.neg (by rw [decide_eq_false h2]; simp) (no _ (fun h => h2 h.2.2.1))
    · exact Ev.neg (by rw [decide_eq_false h1]; simp) (no _ (fun h => h1 h.2.1))
  · exact Ev.neg (by rw [decide_eq_false h0]; simp) (no _ (fun h => h0 h.1))
theorem rdC_nat (xs : List S67) (i : Nat) (h : i < xs.length) : rd_T67 xs (i : Int) = xs[i] := by
  unfold rd_T67
  rw [Int.toNat_natCast, List.getD_eq_getElem?_getD, List.getElem?_eq_getElem h]; rfl
theorem eqCall_self (a0 a1 a2 a3 a4 a5 a6 a7 a8 : Int) (a9 : Bool) (a10 a11 a12 : Int) : laws_eqCall.f a0 a1 a2 a3 a4 a5 a6 a7 a8 a9 a10 a11 a12 a0 a1 a2 a3 a4 a5 a6 a7 a8 a9 a10 a11 a12 = some true := by
  unfold laws_eqCall.f laws_eqTask.f
  simp
theorem eqCallS_l0 (l : List S67) (hn : l.length ≤ 1048576) (d : Nat) : ∀ i : Nat, i + d = l.length → Ev (fun k => laws_eqCallS.l0 k l l (i : Int)) true := by
  induction d with
  | zero => intro i hi; exact Ev.step (fun _ => laws_eqCallS.l0.eq_2 ..) (Ev.neg (by omega) (Ev.now _))
  | succ d ih =>
    intro i hi
    refine Ev.step (fun _ => laws_eqCallS.l0.eq_2 ..) (Ev.pos (by omega) (Ev.pos (by omega) (Ev.pos (by omega) (Ev.call (eqCall_self ..) (Ev.pos rfl ?_)))))
    rw [w64_succ i (by omega)]
    exact ih (i + 1) (by omega)
theorem eqCallS_self (l : List S67) (hn : l.length ≤ 1048576) : Ev (fun k => laws_eqCallS.f k l l) true :=
  Ev.congr (fun _ => laws_eqCallS.f.eq_1 ..) (Ev.pos rfl (eqCallS_l0 l hn l.length 0 (by omega)))
/-- The nodes of a list from a node on: at most n are looked at. -/
def nodeM (w : Int) : Int := if 1 ≤ w / 2 ∧ w / 2 ≤ 20 then w / 2 else 0
def wordAt (l : List Int) (n : Int) : Int := if n = 0 then rd l 0 else rd l (3 * n + 2)
def nodesM (l : List Int) : Nat → Int → List Int
  | 0, _ => []
  | d + 1, n => if n = 0 then [] else if wordAt l n % 2 = 0 then n :: nodesM l d (nodeM (wordAt l n)) else nodesM l d (nodeM (wordAt l n))
theorem specNode_eq (w : Int) (hw : -9223372036854775808 ≤ w ∧ w ≤ 9223372036854775807) : spec_l06Node.f w = some (nodeM w) := by
  unfold spec_l06Node.f nodeM
  have hq : Int.tdiv w 2 = w / 2 ∨ (w < 0 ∧ Int.tdiv w 2 ≤ 0 ∧ w / 2 < 0 ∧ -9223372036854775808 ≤ Int.tdiv w 2) := by
    by_cases h : 0 ≤ w
    · left; exact Int.tdiv_eq_ediv_of_nonneg h
    · right
      have h1 := Int.mul_tdiv_add_tmod w 2
      have h2 := Int.tmod_nonneg 2 (show 0 ≤ -w by omega)
      rw [Int.neg_tmod] at h2
      have h3 := Int.tmod_lt_of_pos (-w) (b := 2) (by omega)
      rw [Int.neg_tmod] at h3
      omega
  rw [w64 (n := Int.tdiv w 2) (by omega) (by omega), l01In_eq, Option.bind_some]
  by_cases h : 0 ≤ Int.tdiv w 2 ∧ Int.tdiv w 2 ≤ 20
  · rw [decide_eq_true h, if_pos rfl]
    congr 1
    split <;> omega
  · rw [decide_eq_false h, if_neg (by simp)]
    congr 1
    split <;> omega
theorem implNode_eq (w : Int) : impl_nodeOf.f w = some (nodeM w) := by
  unfold impl_nodeOf.f nodeM
  rw [within_eq, Option.bind_some]
  by_cases h : 1 ≤ w / 2 ∧ w / 2 ≤ 20
  · rw [decide_eq_true h, if_pos rfl, if_pos h]
  · rw [decide_eq_false h, if_neg (by simp), if_neg h]
theorem specWord_eq (n : Int) (h0 : 0 ≤ n) (h1 : n ≤ 20) : spec_l06Word.f n = some (if n = 0 then 0 else 3 * n + 2) := by
  unfold spec_l06Word.f
  rw [w64 (n := 3 * n) (by omega) (by omega), w64 (by omega) (by omega)]
  split <;> rfl
theorem implWord_eq (n : Int) (h0 : 0 ≤ n) (h1 : n ≤ 20) : impl_wordCell.f n = some (if n = 0 then 0 else 3 * n + 2) := by
  unfold impl_wordCell.f
  rw [w64 (n := 3 * n) (by omega) (by omega), w64 (by omega) (by omega)]
  split <;> rfl
def nodesOfM (l : List Int) : List Int := if l.length = 63 then nodesM l 20 (nodeM (rd l 0)) else []
theorem specCellsOk_l0 (l : List Int) (hn : l.length ≤ 140737488355328) (d : Nat) :
    ∀ i : Nat, i + d = l.length → Ev (fun k => spec_CellsOk.l0 k l (i : Int)) (decide ((∀ x ∈ l.drop i, 0 ≤ x ∧ x ≤ 1000000000) ∧ 1 ≤ l.length ∧ l.length ≤ 80)) := by
  induction d with
  | zero =>
    intro i hi
    refine Ev.step (fun _ => spec_CellsOk.l0.eq_2 ..) (Ev.neg (by omega) (Ev.call (l01In_eq ..) (Ev.some ?_)))
    rw [decide_eq_decide, List.drop_eq_nil_of_le (by omega)]
    simp; omega
  | succ d ih =>
    intro i hi
    refine Ev.step (fun _ => spec_CellsOk.l0.eq_2 ..) (Ev.pos (by omega) (Ev.pos (by omega) (Ev.call (l01In_eq ..) ?_)))
    rw [rd_nat l i (by omega), w64_succ i (by omega), List.drop_eq_getElem_cons (i := i) (by omega)]
    by_cases h : 0 ≤ l[i] ∧ l[i] ≤ 1000000000
    · refine Ev.pos (by rw [decide_eq_true h]) (Ev.eq (ih (i + 1) (by omega)) ?_)
      rw [decide_eq_decide, List.forall_mem_cons]; simp only [h, true_and, and_self]
    · refine Ev.neg (by rw [decide_eq_false h]; simp) (Ev.some ?_)
      symm; rw [decide_eq_false_iff_not, List.forall_mem_cons]; exact fun h2 => h h2.1.1
theorem implIsNumber_eq (n : Int) : impl_isNumber.f n = some (decide (0 ≤ n ∧ n ≤ 1000000000)) := by
  unfold impl_isNumber.f; rw [within_eq, Option.bind_some]
theorem implCellsOk_l0 (l : List Int) (hn : l.length ≤ 140737488355328) (d : Nat) :
    ∀ i : Nat, i + d = l.length → Ev (fun k => impl_CellsOk.l0 k l l (l.length : Int) (i : Int)) (decide ((∀ x ∈ l.drop i, 0 ≤ x ∧ x ≤ 1000000000) ∧ 1 ≤ l.length ∧ l.length ≤ 80)) := by
  induction d with
  | zero =>
    intro i hi
    refine Ev.step (fun _ => impl_CellsOk.l0.eq_2 ..) (Ev.neg (by omega) (Ev.call (within_eq ..) (Ev.some ?_)))
    rw [decide_eq_decide, List.drop_eq_nil_of_le (by omega)]
    simp; omega
  | succ d ih =>
    intro i hi
    refine Ev.step (fun _ => impl_CellsOk.l0.eq_2 ..) (Ev.pos (by omega) (Ev.pos (by omega) (Ev.pos (by omega) (Ev.call (implIsNumber_eq ..) ?_))))
    rw [rd_nat l i (by omega), w64_succ i (by omega), List.drop_eq_getElem_cons (i := i) (by omega)]
    by_cases h : 0 ≤ l[i] ∧ l[i] ≤ 1000000000
    · refine Ev.pos (by rw [decide_eq_true h]) (Ev.eq (ih (i + 1) (by omega)) ?_)
      rw [decide_eq_decide, List.forall_mem_cons]; simp only [h, true_and, and_self]
    · refine Ev.neg (by rw [decide_eq_false h]; simp) (Ev.some ?_)
      symm; rw [decide_eq_false_iff_not, List.forall_mem_cons]; exact fun h2 => h h2.1.1
theorem specCellsOk_ev (l : List Int) (hn : l.length ≤ 140737488355328) : Ev (fun k => spec_CellsOk.f k l) (decide ((∀ x ∈ l, 0 ≤ x ∧ x ≤ 1000000000) ∧ 1 ≤ l.length ∧ l.length ≤ 80)) :=
  Ev.congr (fun _ => spec_CellsOk.f.eq_1 ..) (by simpa using specCellsOk_l0 l hn l.length 0 (by omega))
theorem implCellsOk_ev (l : List Int) (hn : l.length ≤ 140737488355328) : Ev (fun k => impl_CellsOk.f k l) (decide ((∀ x ∈ l, 0 ≤ x ∧ x ≤ 1000000000) ∧ 1 ≤ l.length ∧ l.length ≤ 80)) :=
  Ev.congr (fun _ => impl_CellsOk.f.eq_1 ..) (by simpa using implCellsOk_l0 l hn l.length 0 (by omega))
/-- One step of a task, in plain words: its eleven fields and the list. -/
abbrev TT : Type := Int × Int × Int × Int × Int × Int × Int × Int × Int × Bool × Int × List Int
def cellW (n : Int) : Int := if n = 0 then 0 else 3 * n + 2
def swapM (l : List Int) (n old w : Int) : Bool × List Int := if rd l (cellW n) = old then (true, l.set (cellW n).toNat w) else (false, l)
def nobodyM (l : List Int) (s0 s1 s2 s3 s4 s5 s6 s7 s8 : Int) (s9 : Bool) (s10 : Int) : TT :=
  if s0 = 2 then (s0, s1, s2, s3, 4, s5, s6, s7, s8, s9, s10, ((l.set (3 * s3).toNat s1).set (3 * s3 + 1).toNat s2).set (3 * s3 + 2).toNat (2 * s6))
  else (s0, s1, s2, s3, s4, s5, s6, s7, s8, true, 0, l)
def lookM (l : List Int) (s0 s1 s2 s3 _s4 s5 s6 s7 s8 : Int) (s9 : Bool) (s10 : Int) : TT :=
  if s8 = 1 then (if (swapM l s5 (2 * s6) (2 * s7)).1 = true then (s0, s1, s2, s3, 1, s5, s7, s7, s8, s9, s10, (swapM l s5 (2 * s6) (2 * s7)).2) else (s0, s1, s2, s3, 0, s5, s6, s7, s8, s9, s10, (swapM l s5 (2 * s6) (2 * s7)).2))
  else if rd l (3 * s6) < s1 then (s0, s1, s2, s3, 1, s6, s7, s7, s8, s9, s10, l) else (s0, s1, s2, s3, 3, s5, s6, s7, s8, s9, s10, l)
def foundM (l : List Int) (s0 s1 s2 s3 s4 s5 s6 s7 s8 : Int) (s9 : Bool) (s10 : Int) : TT :=
  if rd l (3 * s6) = s1 then (if s0 = 1 then (s0, s1, s2, s3, s4, s5, s6, s7, s8, true, rd l (3 * s6 + 1) + 1, l) else if s0 = 2 then (s0, s1, s2, s3, s4, s5, s6, s7, s8, true, 0, l) else (s0, s1, s2, s3, 5, s5, s6, s7, s8, s9, s10, l))
  else nobodyM l s0 s1 s2 s3 s4 s5 s6 s7 s8 s9 s10
def stepM (l : List Int) (s0 s1 s2 s3 s4 s5 s6 s7 s8 : Int) (s9 : Bool) (s10 : Int) : TT :=
  if s4 = 0 then (s0, s1, s2, s3, 1, 0, nodeM (rd l 0), s7, s8, s9, s10, l)
  else if s4 = 1 then (if s6 = 0 then nobodyM l s0 s1 s2 s3 s4 s5 s6 s7 s8 s9 s10 else (s0, s1, s2, s3, 2, s5, s6, nodeM (rd l (cellW s6)), rd l (cellW s6) % 2, s9, s10, l))
  else if s4 = 2 then lookM l s0 s1 s2 s3 s4 s5 s6 s7 s8 s9 s10
  else if s4 = 3 then foundM l s0 s1 s2 s3 s4 s5 s6 s7 s8 s9 s10
  else if s4 = 4 then (if (swapM l s5 (2 * s6) (2 * s3)).1 = true then (s0, s1, s2, s3, s4, s5, s6, s7, s8, true, 1, (swapM l s5 (2 * s6) (2 * s3)).2) else (s0, s1, s2, s3, 0, s5, s6, s7, s8, s9, s10, (swapM l s5 (2 * s6) (2 * s3)).2))
  else if s4 = 5 then (if (swapM l s6 (2 * s7) (2 * s7 + 1)).1 = true then (s0, s1, s2, s3, 6, s5, s6, s7, s8, s9, s10, (swapM l s6 (2 * s7) (2 * s7 + 1)).2) else (s0, s1, s2, s3, 0, s5, s6, s7, s8, s9, s10, (swapM l s6 (2 * s7) (2 * s7 + 1)).2))
  else (s0, s1, s2, s3, s4, s5, s6, s7, s8, true, 1, (swapM l s5 (2 * s6) (2 * s7)).2)
theorem cellW_range (n : Int) (h0 : 0 ≤ n) (h1 : n ≤ 20) : 0 ≤ cellW n ∧ cellW n < 63 := by unfold cellW; split <;> omega
theorem specWord_c (n : Int) (h0 : 0 ≤ n) (h1 : n ≤ 20) : spec_l06Word.f n = some (cellW n) := specWord_eq n h0 h1
theorem implWord_c (n : Int) (h0 : 0 ≤ n) (h1 : n ≤ 20) : impl_wordCell.f n = some (cellW n) := implWord_eq n h0 h1
theorem specSwap_eq (l : List Int) (hl : l.length = 63) (n a b : Int) (h0 : 0 ≤ n) (h1 : n ≤ 20) : spec_l06Swap.f l n a b = some (swapM l n a b) := by
  have hc := cellW_range n h0 h1
  unfold spec_l06Swap.f swapM
  simp only [specWord_c n h0 h1, Option.bind_some]
  rw [if_pos hc.1, if_pos (by omega)]
  by_cases h : rd l (cellW n) = a
  · rw [if_pos h, if_pos h, if_pos hc.1, if_pos (by omega)]
  · rw [if_neg h, if_neg h]
theorem implSwap_eq (l : List Int) (hl : l.length = 63) (n a b : Int) (h0 : 0 ≤ n) (h1 : n ≤ 20) : impl_swapWord.f l n a b = some (swapM l n a b) := by
  have hc := cellW_range n h0 h1
  unfold impl_swapWord.f swapM
  simp only [implWord_c n h0 h1, Option.bind_some]
  rw [if_pos hc.1, if_pos (by omega)]
  by_cases h : rd l (cellW n) = a
  · rw [if_pos h, if_pos h]
  · rw [if_neg h, if_neg h]
section
variable (l : List Int) (hl : l.length = 63) (hc : ∀ x ∈ l, 0 ≤ x ∧ x ≤ 1000000000) (s0 s1 s2 s3 s4 s5 s6 s7 s8 : Int) (s9 : Bool) (s10 : Int)
theorem specNobody_eq (hl : l.length = 63) (h3 : 1 ≤ s3 ∧ s3 ≤ 20) (h6 : 0 ≤ s6 ∧ s6 ≤ 20) : spec_l06Nobody.f l s0 s1 s2 s3 s4 s5 s6 s7 s8 s9 s10 = some (nobodyM l s0 s1 s2 s3 s4 s5 s6 s7 s8 s9 s10) := by
  unfold spec_l06Nobody.f nobodyM
  rw [w64 (n := 3 * s3) (by omega) (by omega), w64 (n := 3 * s3 + 1) (by omega) (by omega), w64 (n := 3 * s3 + 2) (by omega) (by omega), w64 (n := 2 * s6) (by omega) (by omega)]
  by_cases h : s0 = 2
  · rw [if_pos h, if_pos h, if_pos (by omega), if_pos (by omega), if_pos (by omega), if_pos (by omega), if_pos (by omega), if_pos (by omega)]
  · rw [if_neg h, if_neg h]
theorem implNobody_eq (hl : l.length = 63) (h3 : 1 ≤ s3 ∧ s3 ≤ 20) (h6 : 0 ≤ s6 ∧ s6 ≤ 20) : impl_Task_nobody.f s0 s1 s2 s3 s4 s5 s6 s7 s8 s9 s10 l = some (nobodyM l s0 s1 s2 s3 s4 s5 s6 s7 s8 s9 s10) := by
  unfold impl_Task_nobody.f nobodyM impl_keyCell.f impl_valCell.f impl_Task_done.f
  simp only [implWord_c s3 (by omega) h3.2, Option.bind_some]
  rw [show cellW s3 = 3 * s3 + 2 from by unfold cellW; rw [if_neg (by omega)]]
  rw [w64 (n := 3 * s3) (by omega) (by omega), w64 (n := 3 * s3 + 1) (by omega) (by omega), w64 (n := 2 * s6) (by omega) (by omega)]
  by_cases h : s0 = 2
  · rw [if_pos h, if_pos h, if_pos (by omega), if_pos (by omega), if_pos (by omega), if_pos (by omega), if_pos (by omega), if_pos (by omega)]
  · rw [if_neg h, if_neg h]
theorem cell_range (hl : l.length = 63) (hc : ∀ x ∈ l, 0 ≤ x ∧ x ≤ 1000000000) (i : Int) (h0 : 0 ≤ i) (h1 : i < 63) : 0 ≤ rd l i ∧ rd l i ≤ 1000000000 := by
  obtain ⟨j, rfl⟩ := Int.eq_ofNat_of_zero_le h0
  rw [rd_nat l j (by omega)]
  exact hc _ (List.getElem_mem _)
theorem specFound_eq (hl : l.length = 63) (hc : ∀ x ∈ l, 0 ≤ x ∧ x ≤ 1000000000) (h3 : 1 ≤ s3 ∧ s3 ≤ 20) (h6 : 0 ≤ s6 ∧ s6 ≤ 20) : spec_l06Found.f l s0 s1 s2 s3 s4 s5 s6 s7 s8 s9 s10 = some (foundM l s0 s1 s2 s3 s4 s5 s6 s7 s8 s9 s10) := by
  have hr := cell_range l hl hc (3 * s6 + 1) (by omega) (by omega)
  unfold spec_l06Found.f foundM
  rw [w64 (n := 3 * s6) (by omega) (by omega), w64 (n := 3 * s6 + 1) (by omega) (by omega), w64 (n := rd l (3 * s6 + 1) + 1) (by omega) (by omega), if_pos (show 0 ≤ 3 * s6 by omega), if_pos (show 3 * s6 < (l.length : Int) by omega), if_pos (show 0 ≤ 3 * s6 + 1 by omega), if_pos (show 3 * s6 + 1 < (l.length : Int) by omega), specNobody_eq l s0 s1 s2 s3 s4 s5 s6 s7 s8 s9 s10 hl h3 h6]
  by_cases h : rd l (3 * s6) = s1
  · rw [if_pos h, if_pos h]
    by_cases h1 : s0 = 1
    · rw [if_pos h1, if_pos h1]
    · rw [if_neg h1, if_neg h1]
      by_cases h2 : s0 = 2
      · rw [if_pos h2, if_pos h2]
      · rw [if_neg h2, if_neg h2]
  · rw [if_neg h, if_neg h]; rfl
theorem implFound_eq (hl : l.length = 63) (hc : ∀ x ∈ l, 0 ≤ x ∧ x ≤ 1000000000) (h3 : 1 ≤ s3 ∧ s3 ≤ 20) (h6 : 0 ≤ s6 ∧ s6 ≤ 20) : impl_Task_found.f s0 s1 s2 s3 s4 s5 s6 s7 s8 s9 s10 l = some (foundM l s0 s1 s2 s3 s4 s5 s6 s7 s8 s9 s10) := by
  have hr := cell_range l hl hc (3 * s6 + 1) (by omega) (by omega)
  unfold impl_Task_found.f foundM impl_keyCell.f impl_valCell.f impl_Task_done.f
  simp only [Option.bind_some]
  rw [w64 (n := 3 * s6) (by omega) (by omega), w64 (n := 3 * s6 + 1) (by omega) (by omega), w64 (n := rd l (3 * s6 + 1) + 1) (by omega) (by omega), if_pos (show 0 ≤ 3 * s6 by omega), if_pos (show 3 * s6 < (l.length : Int) by omega), if_pos (show 0 ≤ 3 * s6 + 1 by omega), if_pos (show 3 * s6 + 1 < (l.length : Int) by omega), implNobody_eq l s0 s1 s2 s3 s4 s5 s6 s7 s8 s9 s10 hl h3 h6]
  by_cases h : rd l (3 * s6) = s1
  · rw [if_pos h, if_pos h]
    by_cases h1 : s0 = 1
    · rw [if_pos h1, if_pos h1]
    · rw [if_neg h1, if_neg h1]
      by_cases h2 : s0 = 2
      · rw [if_pos h2, if_pos h2]
      · rw [if_neg h2, if_neg h2]
  · rw [if_neg h, if_neg h]; rfl
theorem specLook_eq (hl : l.length = 63) (h5 : 0 ≤ s5 ∧ s5 ≤ 20) (h6 : 0 ≤ s6 ∧ s6 ≤ 20) (h7 : 0 ≤ s7 ∧ s7 ≤ 20) : spec_l06Look.f l s0 s1 s2 s3 s4 s5 s6 s7 s8 s9 s10 = some (lookM l s0 s1 s2 s3 s4 s5 s6 s7 s8 s9 s10) := by
  unfold spec_l06Look.f lookM
  rw [w64 (n := 2 * s6) (by omega) (by omega), w64 (n := 2 * s7) (by omega) (by omega), w64 (n := 3 * s6) (by omega) (by omega), specSwap_eq l hl s5 _ _ h5.1 h5.2, Option.bind_some, if_pos (show 0 ≤ 3 * s6 by omega), if_pos (show 3 * s6 < (l.length : Int) by omega)]
  by_cases h : s8 = 1
  · rw [if_pos h, if_pos h]
    by_cases h1 : (swapM l s5 (2 * s6) (2 * s7)).1 = true
    · rw [if_pos h1, if_pos h1]
    · rw [if_neg h1, if_neg h1]
  · rw [if_neg h, if_neg h]
    by_cases h1 : rd l (3 * s6) < s1
    · rw [if_pos h1, if_pos h1]
    · rw [if_neg h1, if_neg h1]
theorem specStep_eq (hl : l.length = 63) (hc : ∀ x ∈ l, 0 ≤ x ∧ x ≤ 1000000000) (hok : taskOkP s0 s1 s2 s3 s4 s5 s6 s7 s8) : spec_l06Step.f l s0 s1 s2 s3 s4 s5 s6 s7 s8 s9 s10 = some (stepM l s0 s1 s2 s3 s4 s5 s6 s7 s8 s9 s10) := by
  obtain ⟨h0, h1, h2, h3, h4, h5, h6, h7, h8⟩ := hok
  have r0 := cell_range l hl hc 0 (by omega) (by omega)
  have rw6 := cellW_range s6 h6.1 h6.2
  have r6 := cell_range l hl hc (cellW s6) rw6.1 rw6.2
  unfold spec_l06Step.f stepM
  rw [specNode_eq _ (by omega), specNobody_eq l s0 s1 s2 s3 s4 s5 s6 s7 s8 s9 s10 hl h3 h6, specWord_c s6 h6.1 h6.2, specLook_eq l s0 s1 s2 s3 s4 s5 s6 s7 s8 s9 s10 hl h5 h6 h7, specFound_eq l s0 s1 s2 s3 s4 s5 s6 s7 s8 s9 s10 hl hc h3 h6,
    w64 (n := 2 * s6) (by omega) (by omega), w64 (n := 2 * s3) (by omega) (by omega), w64 (n := 2 * s7) (by omega) (by omega), w64 (n := 2 * s7 + 1) (by omega) (by omega), specSwap_eq l hl s5 _ _ h5.1 h5.2, specSwap_eq l hl s6 _ _ h6.1 h6.2, specSwap_eq l hl s5 _ _ h5.1 h5.2]
  simp only [Option.bind_some]
  rw [specNode_eq _ (by omega), if_pos (show 0 < (l.length : Int) by omega), if_pos rw6.1, if_pos (show cellW s6 < (l.length : Int) by omega), Int.tmod_eq_emod_of_nonneg r6.1]
  simp only [Option.bind_some]
  repeat' split
  all_goals rfl
theorem implWalk_ev (hl : l.length = 63) (hc : ∀ x ∈ l, 0 ≤ x ∧ x ≤ 1000000000) (hok : taskOkP s0 s1 s2 s3 s4 s5 s6 s7 s8) (h34 : s4 < 3) : Ev (fun k => impl_Task_walk.f k s0 s1 s2 s3 s4 s5 s6 s7 s8 s9 s10 l) (stepM l s0 s1 s2 s3 s4 s5 s6 s7 s8 s9 s10) := by
  obtain ⟨h0, h1, h2, h3, h4, h5, h6, h7, h8⟩ := hok
  have rw6 := cellW_range s6 h6.1 h6.2
  have r6 := cell_range l hl hc (cellW s6) rw6.1 rw6.2
  have hbit : Go.bits .and .i64 (rd l (cellW s6)) 1 = rd l (cellW s6) % 2 := and1 _
  have hj : ∀ b : Bool, (b = true ↔ s4 = 1 ∧ s6 = 0) → (s4 = 1 ∨ s4 = 2) → Ev (fun k => impl_Task_walk.j0 k l b s0 s1 s2 s3 s4 s5 s6 s7 s8 s9 s10) (stepM l s0 s1 s2 s3 s4 s5 s6 s7 s8 s9 s10) := by
    intro b hb h12
    refine Ev.step (fun _ => impl_Task_walk.j0.eq_2 ..) (Ev.ite (fun hbt => ?_) (fun hbt => Ev.ite (fun e1 => ?_) (fun e1 => Ev.ite (fun e8 => ?_) (fun e8 => ?_))))
    · obtain ⟨e1, e2⟩ := hb.1 hbt
      unfold stepM
      rw [if_neg (show ¬ s4 = 0 by omega), if_pos e1, if_pos e2]
      exact Ev.call (implNobody_eq l s0 s1 s2 s3 s4 s5 s6 s7 s8 s9 s10 hl h3 h6) (Ev.now _)
    · have e6 : ¬ s6 = 0 := fun e2 => hbt (hb.2 ⟨e1, e2⟩)
      unfold stepM
      rw [if_neg (show ¬ s4 = 0 by omega), if_pos e1, if_neg e6]
      refine Ev.call (implWord_c s6 h6.1 h6.2) (Ev.pos rw6.1 (Ev.pos (by omega) (Ev.call (implNode_eq _) (Ev.some ?_))))
      rw [hbit]
    · unfold stepM lookM
      rw [if_neg (show ¬ s4 = 0 by omega), if_neg e1, if_pos (show s4 = 2 by omega), if_pos e8, w64 (n := 2 * s6) (by omega) (by omega), w64 (n := 2 * s7) (by omega) (by omega)]
      refine Ev.call (implSwap_eq l hl s5 _ _ h5.1 h5.2) (Ev.ite (fun e => Ev.some (by rw [if_pos e])) (fun e => Ev.some (by rw [if_neg e])))
    · unfold stepM lookM
      rw [if_neg (show ¬ s4 = 0 by omega), if_neg e1, if_pos (show s4 = 2 by omega), if_neg e8]
      refine Ev.call (a := 3 * s6) (by unfold impl_keyCell.f; rw [w64 (by omega) (by omega)]) (Ev.pos (by omega) (Ev.pos (by omega) (Ev.ite (fun e => Ev.some (by rw [if_pos e])) (fun e => Ev.some (by rw [if_neg e])))))
  refine Ev.congr (fun _ => impl_Task_walk.f.eq_1 ..) (Ev.ite (fun e0 => ?_) (fun e0 => Ev.ite (fun e1 => ?_) (fun e1 => ?_)))
  · refine Ev.pos (by omega) (Ev.call (implNode_eq _) (Ev.some ?_))
    unfold stepM; rw [if_pos e0]
  · exact hj _ (by simp [e1]) (.inl e1)
  · exact hj false (by simp [e1]) (by omega)
theorem implStep_ev (hl : l.length = 63) (hc : ∀ x ∈ l, 0 ≤ x ∧ x ≤ 1000000000) (hok : taskOkP s0 s1 s2 s3 s4 s5 s6 s7 s8) : Ev (fun k => impl_Task_step.f k s0 s1 s2 s3 s4 s5 s6 s7 s8 s9 s10 l) (stepM l s0 s1 s2 s3 s4 s5 s6 s7 s8 s9 s10) := by
  have hok' := hok
  obtain ⟨h0, h1, h2, h3, h4, h5, h6, h7, h8⟩ := hok
  refine Ev.congr (fun _ => impl_Task_step.f.eq_1 ..) (Ev.ite (fun e3 => ?_) (fun e3 => Ev.ite (fun e4 => ?_) (fun e4 => Ev.ite (fun e5 => ?_) (fun e5 => Ev.ite (fun e6 => ?_) (fun e6 => ?_)))))
  · refine Ev.call (implFound_eq l s0 s1 s2 s3 s4 s5 s6 s7 s8 s9 s10 hl hc h3 h6) (Ev.some ?_)
    unfold stepM; rw [if_neg (by omega), if_neg (by omega), if_neg (by omega), if_pos e3]
  · rw [w64 (n := 2 * s6) (by omega) (by omega), w64 (n := 2 * s3) (by omega) (by omega)]
    unfold stepM
    rw [if_neg (by omega), if_neg (by omega), if_neg (by omega), if_neg e3, if_pos e4]
    exact Ev.call (implSwap_eq l hl s5 _ _ h5.1 h5.2) (Ev.ite (fun e => Ev.call rfl (Ev.some (by rw [if_pos e]))) (fun e => Ev.some (by rw [if_neg e])))
  · rw [w64 (n := 2 * s7) (by omega) (by omega), w64 (n := 2 * s7 + 1) (by omega) (by omega)]
    unfold stepM
    rw [if_neg (by omega), if_neg (by omega), if_neg (by omega), if_neg e3, if_neg e4, if_pos e5]
    exact Ev.call (implSwap_eq l hl s6 _ _ h6.1 h6.2) (Ev.ite (fun e => Ev.some (by rw [if_pos e])) (fun e => Ev.some (by rw [if_neg e])))
  · rw [w64 (n := 2 * s6) (by omega) (by omega), w64 (n := 2 * s7) (by omega) (by omega)]
    unfold stepM
    rw [if_neg (by omega), if_neg (by omega), if_neg (by omega), if_neg e3, if_neg e4, if_neg e5]
    exact Ev.call (implSwap_eq l hl s5 _ _ h5.1 h5.2) (Ev.call rfl (Ev.now _))
  · exact Ev.bind (implWalk_ev l s0 s1 s2 s3 s4 s5 s6 s7 s8 s9 s10 hl hc hok' (by omega)) (Ev.now _)
end
def ST : Type := List Int × Int × Int × Int × Int × Int × Int × Int × Int × Int × Bool × Int
def turnT (t : TT) : List Int × Int × Int × Int × Int × Int × Int × Int × Int × Int × Bool × Int := (t.2.2.2.2.2.2.2.2.2.2.2, t.1, t.2.1, t.2.2.1, t.2.2.2.1, t.2.2.2.2.1, t.2.2.2.2.2.1, t.2.2.2.2.2.2.1, t.2.2.2.2.2.2.2.1, t.2.2.2.2.2.2.2.2.1, t.2.2.2.2.2.2.2.2.2.1, t.2.2.2.2.2.2.2.2.2.2.1)
def cellsP (l : List Int) : Prop := l.length = 63 ∧ ∀ x ∈ l, 0 ≤ x ∧ x ≤ 1000000000
instance (l : List Int) : Decidable (cellsP l) := by unfold cellsP; exact inferInstance
def stepTM (l : List Int) (s0 s1 s2 s3 s4 s5 s6 s7 s8 : Int) (s9 : Bool) (s10 : Int) : List Int × Int × Int × Int × Int × Int × Int × Int × Int × Int × Bool × Int :=
  if s9 = false ∧ taskOkP s0 s1 s2 s3 s4 s5 s6 s7 s8 ∧ cellsP l then turnT (stepM l s0 s1 s2 s3 s4 s5 s6 s7 s8 s9 s10) else (l, s0, s1, s2, s3, s4, s5, s6, s7, s8, s9, s10)
theorem specStepTask_ev (l : List Int) (hl : l.length ≤ 1048576) (s0 s1 s2 s3 s4 s5 s6 s7 s8 : Int) (s9 : Bool) (s10 : Int) : Ev (fun k => spec_StepTask.f k l s0 s1 s2 s3 s4 s5 s6 s7 s8 s9 s10) (stepTM l s0 s1 s2 s3 s4 s5 s6 s7 s8 s9 s10) := by
  unfold stepTM
  refine Ev.congr (fun _ => spec_StepTask.f.eq_1 ..) (Ev.call rfl (Ev.pos (by simp; omega) (Ev.call rfl (Ev.ite (fun h9 => Ev.some ?_) (fun h9 => Ev.call (specTaskOk_eq ..) (Ev.ite (fun hok => Ev.ite (fun h63 => Ev.bind (specCellsOk_ev l (by omega)) (Ev.ite (fun hc => ?_) (fun hc => Ev.some ?_))) (fun h63 => Ev.some ?_)) (fun hok => Ev.some ?_)))))))
  · rw [if_neg (fun h => by rw [h.1] at h9; simp at h9), List.nil_append]
  · have hok' := of_decide_eq_true hok
    have hc' := of_decide_eq_true hc
    have hl63 : l.length = 63 := by omega
    rw [if_pos ⟨by simpa using h9, hok', hl63, hc'.1⟩]
    exact Ev.call (specStep_eq l s0 s1 s2 s3 s4 s5 s6 s7 s8 s9 s10 hl63 hc'.1 hok') (Ev.now _)
  · rw [if_neg (fun h => hc (decide_eq_true ⟨h.2.2.2, by omega, by omega⟩)), List.nil_append]
  · rw [if_neg (fun h => h63 (by have := h.2.2.1; omega)), List.nil_append]
  · rw [if_neg (fun h => hok (decide_eq_true h.2.1)), List.nil_append]
theorem implStepTask_ev (l : List Int) (hl : l.length ≤ 1048576) (s0 s1 s2 s3 s4 s5 s6 s7 s8 : Int) (s9 : Bool) (s10 : Int) : Ev (fun k => impl_StepTask.f k l s0 s1 s2 s3 s4 s5 s6 s7 s8 s9 s10) (stepTM l s0 s1 s2 s3 s4 s5 s6 s7 s8 s9 s10) := by
  have hcp : impl_copyInts.f l = some l := by unfold impl_copyInts.f; rw [Option.bind_some, if_pos (by simp; omega)]; rfl
  unfold stepTM
  refine Ev.congr (fun _ => impl_StepTask.f.eq_1 ..) (Ev.call hcp (Ev.ite (fun h9 => Ev.some ?_) (fun h9 => Ev.bind (implTaskOk_ev ..) (Ev.ite (fun hok => Ev.ite (fun h63 => Ev.bind (implCellsOk_ev l (by omega)) (Ev.ite (fun hc => ?_) (fun hc => Ev.some ?_))) (fun h63 => Ev.some ?_)) (fun hok => Ev.some ?_)))))
  · rw [if_neg (fun h => by rw [h.1] at h9; simp at h9)]
  · have hok' := of_decide_eq_true hok
    have hc' := of_decide_eq_true hc
    have hl63 : l.length = 63 := by omega
    rw [if_pos ⟨by simpa using h9, hok', hl63, hc'.1⟩]
    exact Ev.bind (implStep_ev l s0 s1 s2 s3 s4 s5 s6 s7 s8 s9 s10 hl63 hc'.1 hok') (Ev.now _)
  · rw [if_neg (fun h => hc (decide_eq_true ⟨h.2.2.2, by omega, by omega⟩))]
  · rw [if_neg (fun h => h63 (by have := h.2.2.1; omega))]
  · rw [if_neg (fun h => hok (decide_eq_true h.2.1))]
theorem stepM_len (l : List Int) (s0 s1 s2 s3 s4 s5 s6 s7 s8 : Int) (s9 : Bool) (s10 : Int) : (turnT (stepM l s0 s1 s2 s3 s4 s5 s6 s7 s8 s9 s10)).1.length = l.length := by
  have hsw : ∀ n a b, (swapM l n a b).2.length = l.length := fun n a b => by unfold swapM; split <;> simp
  have hnb : (nobodyM l s0 s1 s2 s3 s4 s5 s6 s7 s8 s9 s10).2.2.2.2.2.2.2.2.2.2.2.length = l.length := by unfold nobodyM; split <;> simp
  unfold turnT stepM lookM foundM
  repeat' split
  all_goals first | exact hsw _ _ _ | exact hnb | rfl
theorem stepTM_len (l : List Int) (s0 s1 s2 s3 s4 s5 s6 s7 s8 : Int) (s9 : Bool) (s10 : Int) : (stepTM l s0 s1 s2 s3 s4 s5 s6 s7 s8 s9 s10).1.length = l.length := by
  unfold stepTM; split
  · exact stepM_len ..
  · rfl
theorem eqTask_self (s0 s1 s2 s3 s4 s5 s6 s7 s8 : Int) (s9 : Bool) (s10 : Int) : laws_eqTask.f s0 s1 s2 s3 s4 s5 s6 s7 s8 s9 s10 s0 s1 s2 s3 s4 s5 s6 s7 s8 s9 s10 = some true := by
  unfold laws_eqTask.f; simp
theorem toIntS_l0 (a : List Int) (hn : a.length ≤ 140737488355328) (d : Nat) :
    ∀ i : Nat, i + d = a.length → Ev (fun k => laws_toIntS.l0 k a (a.take i ++ List.replicate (a.length - i) 0) (i : Int)) a := by
  induction d with
  | zero =>
    intro i hi
    refine Ev.step (fun _ => laws_toIntS.l0.eq_2 ..) ?_
    refine Ev.neg (by omega) (Ev.some ?_)
    rw [show a.length - i = 0 from by omega, List.take_of_length_le (by omega)]; simp
  | succ d ih =>
    intro i hi
    refine Ev.step (fun _ => laws_toIntS.l0.eq_2 ..) ?_
    refine Ev.pos (by omega) (Ev.pos (by omega) (Ev.pos (by simp; omega) ?_))
    rw [rd_nat a i (by omega), w64_succ i (by omega), Int.toNat_natCast, take_set_replicate a 0 i (by omega)]
    exact ih (i + 1) (by omega)
theorem toIntS_ev (a : List Int) (hn : a.length ≤ 35184372088832) : Ev (fun k => laws_toIntS.f k a) a := by
  refine Ev.congr (fun _ => laws_toIntS.f.eq_1 ..) (Ev.pos (by omega) (Ev.pos (by omega) ?_))
  have h := toIntS_l0 a (by omega) a.length 0 (by omega)
  simpa using h
theorem eqIntS_l0 (a b : List Int) (hlen : a.length = b.length) (hn : a.length ≤ 140737488355328) (d : Nat) :
    ∀ i : Nat, i + d = a.length → Ev (fun k => laws_eqIntS.l0 k a b (i : Int)) (decide (a.drop i = b.drop i)) := by
  induction d with
  | zero =>
    intro i hi
    refine Ev.step (fun _ => laws_eqIntS.l0.eq_2 ..) ?_
    refine Ev.neg (by omega) (Ev.some ?_)
    rw [List.drop_eq_nil_of_le (by omega), List.drop_eq_nil_of_le (by omega)]; rfl
  | succ d ih =>
    intro i hi
    refine Ev.step (fun _ => laws_eqIntS.l0.eq_2 ..) ?_
    refine Ev.pos (by omega) (Ev.pos (by omega) (Ev.pos (by omega) ?_))
    rw [rd_nat a i (by omega), rd_nat b i (by omega), w64_succ i (by omega), drop_eq_iff a b i (by omega) (by omega)]
    refine Ev.ite (fun h => ?_) (fun h => ?_)
    · rw [decide_eq_true h, Bool.true_and]; exact ih (i + 1) (by omega)
    · rw [decide_eq_false h]; exact Ev.now _
theorem eqIntS_ev (a b : List Int) (hn : a.length ≤ 140737488355328) : Ev (fun k => laws_eqIntS.f k a b) (decide (a = b)) := by
  refine Ev.congr (fun _ => laws_eqIntS.f.eq_1 ..) (Ev.ite (fun h => ?_) (fun h => ?_))
  · exact eqIntS_l0 a b (by omega) hn a.length 0 (by omega)
  · rw [decide_eq_false (fun e => h (by rw [e]))]; exact Ev.now _
theorem eqIntS_self (a : List Int) (hn : a.length ≤ 140737488355328) : Ev (fun k => laws_eqIntS.f k a a) true := by
  have h := eqIntS_ev a a hn
  rwa [decide_eq_true rfl] at h
theorem markIntS_l0 (a : List Int) (m : Int) (h0 : 0 ≤ m) (hm : m + a.length ≤ 9223372036854775807) (d : Nat) :
    ∀ i : Nat, i + d = a.length → Ev (fun k => laws_markIntS.l0 k (marks m i ++ a.drop i) (m + (i : Int)) (i : Int)) (m + (a.length : Int), marks m a.length) := by
  induction d with
  | zero =>
    intro i hi
    refine Ev.step (fun _ => laws_markIntS.l0.eq_2 ..) ?_
    refine Ev.neg (by simp [marks_length]; omega) (Ev.some ?_)
    obtain rfl : i = a.length := by omega
    simp
  | succ d ih =>
    intro i hi
    refine Ev.step (fun _ => laws_markIntS.l0.eq_2 ..) ?_
    refine Ev.pos (by simp [marks_length]; omega) (Ev.pos (by omega) ?_)
    rw [w64_succ i (by omega), Int.toNat_natCast, marks_set m a i (by omega), w64 (by omega) (by omega), Int.add_assoc, show ((i : Int) + 1) = ((i + 1 : Nat) : Int) from by omega]
    exact ih (i + 1) (by omega)
theorem markIntS_ev (a : List Int) (m : Int) (h0 : 0 ≤ m) (hm : m + a.length ≤ 9223372036854775807) : Ev (fun k => laws_markIntS.f k a m) (m + (a.length : Int), marks m a.length) := by
  have h := markIntS_l0 a m h0 hm a.length 0 (by omega)
  refine Ev.congr (fun _ => laws_markIntS.f.eq_1 ..) ?_
  simpa [marks] using h
theorem heldIntS_l0 (n : Nat) (m : Int) (h0 : 0 ≤ m) (hm : m + n ≤ 9223372036854775807) (d : Nat) :
    ∀ i : Nat, i + d = n → Ev (fun k => laws_heldIntS.l0 k (marks m n) (m + (i : Int)) (i : Int)) (m + (n : Int)) := by
  induction d with
  | zero =>
    intro i hi
    refine Ev.step (fun _ => laws_heldIntS.l0.eq_2 ..) ?_
    refine Ev.neg (by rw [marks_length]; omega) (Ev.some ?_)
    omega
  | succ d ih =>
    intro i hi
    refine Ev.step (fun _ => laws_heldIntS.l0.eq_2 ..) ?_
    refine Ev.pos (by rw [marks_length]; omega) (Ev.pos (by omega) ?_)
    rw [rd_nat _ i (by rw [marks_length]; omega), marks_get]
    refine Ev.pos rfl ?_
    rw [w64_succ i (by omega), w64 (by omega) (by omega), Int.add_assoc, show ((i : Int) + 1) = ((i + 1 : Nat) : Int) from by omega]
    exact ih (i + 1) (by omega)
theorem heldIntS_ev (n : Nat) (m : Int) (h0 : 0 ≤ m) (hm : m + n ≤ 9223372036854775807) : Ev (fun k => laws_heldIntS.f k (marks m n) m) (m + (n : Int)) := by
  have h := heldIntS_l0 n m h0 hm n 0 (by omega)
  refine Ev.congr (fun _ => laws_heldIntS.f.eq_1 ..) ?_
  simpa using h
theorem rdT30_nat (xs : List S30) (i : Nat) (h : i < xs.length) : rd_T30 xs (i : Int) = xs[i] := by
  unfold rd_T30
  rw [Int.toNat_natCast, List.getD_eq_getElem?_getD, List.getElem?_eq_getElem h]; rfl
theorem rdT24_nat (xs : List S24) (i : Nat) (h : i < xs.length) : rd_T24 xs (i : Int) = xs[i] := by
  unfold rd_T24
  rw [Int.toNat_natCast, List.getD_eq_getElem?_getD, List.getElem?_eq_getElem h]; rfl
def toT (x : S24) : S30 := ⟨x.f0, x.f1, x.f2, x.f3, x.f4, x.f5, x.f6, x.f7, x.f8, x.f9, x.f10⟩
theorem toTaskS_l0 (l : List S24) (hn : l.length ≤ 1048576) (d : Nat) :
    ∀ i : Nat, i + d = l.length → Ev (fun k => laws_toTaskS.l0 k l ((l.take i).map toT ++ List.replicate (l.length - i) z30) (i : Int)) (l.map toT) := by
  induction d with
  | zero =>
    intro i hi
    refine Ev.step (fun _ => laws_toTaskS.l0.eq_2 ..) (Ev.neg (by omega) (Ev.some ?_))
    rw [show l.length - i = 0 by omega, List.take_of_length_le (by omega)]; simp
  | succ d ih =>
    intro i hi
    have h : i < l.length := by omega
    refine Ev.step (fun _ => laws_toTaskS.l0.eq_2 ..) (Ev.pos (by omega) (Ev.pos (by omega) (Ev.call rfl (Ev.pos (by simp; omega) ?_))))
    rw [rdT24_nat l i h, w64_succ i (by omega), Int.toNat_natCast]
    refine Ev.eq (q := l.map toT) (r := l.map toT) ?_ rfl
    have := ih (i + 1) (by omega)
    have e : ((l.take i).map toT ++ List.replicate (l.length - i) z30).set i (toT l[i]) = (l.take (i + 1)).map toT ++ List.replicate (l.length - (i + 1)) z30 := by
      rw [show l.length - i = (l.length - (i + 1)) + 1 by omega, List.replicate_succ, List.set_append_right _ _ (by simp; omega)]
      simp only [List.length_map, List.length_take, Nat.min_eq_left (show i ≤ l.length by omega), Nat.sub_self, List.set_cons_zero]
      rw [List.take_succ_eq_append_getElem h, List.map_append]; simp
    rw [← e] at this
    exact this
theorem toTaskS_ev (l : List S24) (hn : l.length ≤ 1048576) : Ev (fun k => laws_toTaskS.f k l) (l.map toT) := by
  refine Ev.congr (fun _ => laws_toTaskS.f.eq_1 ..) (Ev.pos (by omega) (Ev.pos (by simp; omega) ?_))
  have := toTaskS_l0 l hn l.length 0 (by omega)
  simpa using this
theorem eqTaskS_l0 (l : List S30) (hn : l.length ≤ 1048576) (d : Nat) : ∀ i : Nat, i + d = l.length → Ev (fun k => laws_eqTaskS.l0 k l l (i : Int)) true := by
  induction d with
  | zero => intro i hi; exact Ev.step (fun _ => laws_eqTaskS.l0.eq_2 ..) (Ev.neg (by omega) (Ev.now _))
  | succ d ih =>
    intro i hi
    refine Ev.step (fun _ => laws_eqTaskS.l0.eq_2 ..) (Ev.pos (by omega) (Ev.pos (by omega) (Ev.pos (by omega) (Ev.call (eqTask_self ..) (Ev.pos rfl ?_)))))
    rw [w64_succ i (by omega)]
    exact ih (i + 1) (by omega)
theorem eqTaskS_self (l : List S30) (hn : l.length ≤ 1048576) : Ev (fun k => laws_eqTaskS.f k l l) true :=
  Ev.congr (fun _ => laws_eqTaskS.f.eq_1 ..) (Ev.pos rfl (eqTaskS_l0 l hn l.length 0 (by omega)))
/-- What the marks do: the place behind a row. -/
theorem w64n (a : Int) (n : Nat) (h0 : 0 ≤ a) (h : a + n + 1 ≤ 9223372036854775807) : wrap64 (a + (n : Int) + 1) = a + ((n + 1 : Nat) : Int) := by
  rw [w64 (by omega) (by omega)]; omega
theorem markTaskS_next (a : Int) (h0 : 0 ≤ a) (h : a + 11 ≤ 9223372036854775807) : laws_markTaskS.next a = a + 11 := by
  have e1 := w64n a 0 h0 (by omega); have e2 := w64n a 1 h0 (by omega); have e3 := w64n a 2 h0 (by omega); have e4 := w64n a 3 h0 (by omega); have e5 := w64n a 4 h0 (by omega); have e6 := w64n a 5 h0 (by omega); have e7 := w64n a 6 h0 (by omega); have e8 := w64n a 7 h0 (by omega); have e9 := w64n a 8 h0 (by omega); have e10 := w64n a 9 h0 (by omega); have e11 := w64n a 10 h0 (by omega)
  simp only [Int.natCast_zero, Int.natCast_one, Int.add_zero, Nat.reduceAdd] at *
  unfold laws_markTaskS.next
  rw [e1, e2, e3, e4, e5, e6, e7, e8, e9, e10, e11]; rfl
theorem markCallS_next (a : Int) (h0 : 0 ≤ a) (h : a + 13 ≤ 9223372036854775807) : laws_markCallS.next a = a + 13 := by
  have e1 := w64n a 0 h0 (by omega); have e2 := w64n a 1 h0 (by omega); have e3 := w64n a 2 h0 (by omega); have e4 := w64n a 3 h0 (by omega); have e5 := w64n a 4 h0 (by omega); have e6 := w64n a 5 h0 (by omega); have e7 := w64n a 6 h0 (by omega); have e8 := w64n a 7 h0 (by omega); have e9 := w64n a 8 h0 (by omega); have e10 := w64n a 9 h0 (by omega); have e11 := w64n a 10 h0 (by omega); have e12 := w64n a 11 h0 (by omega); have e13 := w64n a 12 h0 (by omega)
  simp only [Int.natCast_zero, Int.natCast_one, Int.add_zero, Nat.reduceAdd] at *
  unfold laws_markCallS.next
  rw [e1, e2, e3, e4, e5, e6, e7, e8, e9, e10, e11, e12, e13]; rfl
def nxT : Nat → Int → Int
  | 0, a => a
  | n + 1, a => nxT n (laws_markTaskS.next a)
def mkT : Nat → Int → List S30
  | 0, _ => []
  | n + 1, a => laws_markTaskS.row a :: mkT n (laws_markTaskS.next a)
theorem nxT_eq (n : Nat) : ∀ a : Int, 0 ≤ a → a + 11 * n ≤ 9223372036854775807 → nxT n a = a + 11 * n := by
  induction n with
  | zero => intro a _ _; simp [nxT]
  | succ n ih => intro a h0 h; rw [nxT, markTaskS_next a h0 (by omega), ih _ (by omega) (by omega)]; omega
theorem markTaskS_l0 (r : List S30) : ∀ (d : List S30) (a : Int), d.length + r.length ≤ 1048576 → Ev (fun k => laws_markTaskS.l0 k (d ++ r) a (d.length : Int)) (nxT r.length a, d ++ mkT r.length a) := by
  induction r with
  | nil => intro d a _; exact Ev.step (fun _ => laws_markTaskS.l0.eq_2 ..) (Ev.neg (by simp) (Ev.some (by simp [nxT, mkT])))
  | cons x r ih =>
    intro d a h
    rw [List.length_cons] at h
    refine Ev.step (fun k => laws_markTaskS.round k (d ++ x :: r) a d.length (by rw [List.length_append, List.length_cons]; omega) (by omega)) ?_
    rw [Int.toNat_natCast, w64_succ _ (by omega)]
    have e : (d ++ x :: r).set d.length (laws_markTaskS.row a) = (d ++ [laws_markTaskS.row a]) ++ r := by simp
    have hh := ih (d ++ [laws_markTaskS.row a]) (laws_markTaskS.next a) (by simp; omega)
    rw [List.length_append, List.length_singleton, ← e] at hh
    exact Ev.eq hh (by simp [nxT, mkT])
theorem markTaskS_ev (l : List S30) (a : Int) (h : l.length ≤ 1048576) : Ev (fun k => laws_markTaskS.f k l a) (nxT l.length a, mkT l.length a) := by
  have := markTaskS_l0 l [] a (by simpa using h)
  exact Ev.congr (fun _ => laws_markTaskS.f.eq_1 ..) (by simpa using this)
def nxC : Nat → Int → Int
  | 0, a => a
  | n + 1, a => nxC n (laws_markCallS.next a)
def mkC : Nat → Int → List S67
  | 0, _ => []
  | n + 1, a => laws_markCallS.row a :: mkC n (laws_markCallS.next a)
theorem mkC_len (n : Nat) : ∀ a, (mkC n a).length = n := by
  induction n with
  | zero => intro a; rfl
  | succ n ih => intro a; rw [mkC, List.length_cons, ih]
theorem nxC_eq (n : Nat) : ∀ a : Int, 0 ≤ a → a + 13 * n ≤ 9223372036854775807 → nxC n a = a + 13 * n := by
  induction n with
  | zero => intro a _ _; simp [nxC]
  | succ n ih => intro a h0 h; rw [nxC, markCallS_next a h0 (by omega), ih _ (by omega) (by omega)]; omega
theorem markCallS_l0 (r : List S67) : ∀ (d : List S67) (a : Int), d.length + r.length ≤ 1048576 → Ev (fun k => laws_markCallS.l0 k (d ++ r) a (d.length : Int)) (nxC r.length a, d ++ mkC r.length a) := by
  induction r with
  | nil => intro d a _; exact Ev.step (fun _ => laws_markCallS.l0.eq_2 ..) (Ev.neg (by simp) (Ev.some (by simp [nxC, mkC])))
  | cons x r ih =>
    intro d a h
    rw [List.length_cons] at h
    refine Ev.step (fun k => laws_markCallS.round k (d ++ x :: r) a d.length (by rw [List.length_append, List.length_cons]; omega) (by omega)) ?_
    rw [Int.toNat_natCast, w64_succ _ (by omega)]
    have e : (d ++ x :: r).set d.length (laws_markCallS.row a) = (d ++ [laws_markCallS.row a]) ++ r := by simp
    have hh := ih (d ++ [laws_markCallS.row a]) (laws_markCallS.next a) (by simp; omega)
    rw [List.length_append, List.length_singleton, ← e] at hh
    exact Ev.eq hh (by simp [nxC, mkC])
theorem markCallS_ev (l : List S67) (a : Int) (h : l.length ≤ 1048576) : Ev (fun k => laws_markCallS.f k l a) (nxC l.length a, mkC l.length a) := by
  have := markCallS_l0 l [] a (by simpa using h)
  exact Ev.congr (fun _ => laws_markCallS.f.eq_1 ..) (by simpa using this)
theorem heldCallS_round (k : Nat) (x : List S67) (a i : Int) (h1 : i < (x.length : Int)) (h0 : 0 ≤ i) (hr : rd_T67 x i = laws_markCallS.row a) : laws_heldCallS.l0 (k + 1) x a i = laws_heldCallS.l0 k x (laws_markCallS.next a) (wrap64 (i + 1)) := by
  rw [laws_heldCallS.l0, if_pos h1, if_pos h0, hr]
  unfold laws_markCallS.row laws_markCallS.next
  simp only [bne_self_eq_false, Bool.false_eq_true, ↓reduceIte]
theorem heldCallS_l0 (n : Nat) : ∀ (d : List S67) (a : Int), d.length + n ≤ 1048576 → Ev (fun k => laws_heldCallS.l0 k (d ++ mkC n a) a (d.length : Int)) (nxC n a) := by
  induction n with
  | zero => intro d a _; exact Ev.step (fun _ => laws_heldCallS.l0.eq_2 ..) (Ev.neg (by simp [mkC]) (Ev.now _))
  | succ n ih =>
    intro d a h
    have hl : d.length < (d ++ mkC (n + 1) a).length := by rw [List.length_append, mkC_len]; omega
    refine Ev.step (fun k => heldCallS_round k (d ++ mkC (n + 1) a) a d.length (by omega) (by omega) (by rw [rdC_nat _ _ hl]; simp [mkC])) ?_
    rw [w64_succ _ (by omega)]
    have hh := ih (d ++ [laws_markCallS.row a]) (laws_markCallS.next a) (by simp; omega)
    rw [List.length_append, List.length_singleton, List.append_assoc] at hh
    exact hh
theorem heldCallS_ev (n : Nat) (a : Int) (h : n ≤ 1048576) : Ev (fun k => laws_heldCallS.f k (mkC n a) a) (nxC n a) := by
  have := heldCallS_l0 n [] a (by simpa using h)
  exact Ev.congr (fun _ => laws_heldCallS.f.eq_1 ..) (by simpa using this)
/-- The tasks are new, sound, and none has another's node. -/
def newB (t : S30) : Bool := ((t.f0) == t.f0 && ((t.f1) == t.f1 && ((t.f2) == t.f2 && ((t.f3) == t.f3 && ((t.f4) == 0 && ((t.f5) == 0 && ((t.f6) == 0 && ((t.f7) == 0 && ((t.f8) == 0 && ((t.f9) == false && ((t.f10) == 0)))))))))))
def okB (t : S30) : Bool := decide (taskOkP t.f0 t.f1 t.f2 t.f3 t.f4 t.f5 t.f6 t.f7 t.f8)
def okAt (ts : List S30) (i : Nat) : Bool := newB (rd_T30 ts i) && okB (rd_T30 ts i) && !((ts.take i).any (sameNode (rd_T30 ts i).f3))
def okAll (ts : List S30) (i : Nat) : Bool := decide (∀ j, j < ts.length → i ≤ j → okAt ts j = true)
theorem okAll_end (ts : List S30) (i : Nat) (h : ¬ i < ts.length) : okAll ts i = true := by
  unfold okAll; exact decide_eq_true (fun j h2 h1 => by omega)
theorem okAll_step (ts : List S30) (i : Nat) (h : i < ts.length) : okAll ts i = (okAt ts i && okAll ts (i + 1)) := by
  unfold okAll
  rw [Bool.eq_iff_iff, Bool.and_eq_true, decide_eq_true_iff, decide_eq_true_iff]
  constructor
  · intro f; exact ⟨f i h (Nat.le_refl _), fun j h2 h1 => f j h2 (by omega)⟩
  · intro ⟨a, f⟩ j h2 h1
    by_cases e : j = i
    · rw [e]; exact a
    · exact f j h2 (by omega)
theorem any_step (ts : List S30) (n : Int) (j m : Nat) (h : j < m) (hm : m ≤ ts.length) : ((ts.take m).drop j).any (sameNode n) = ((rd_T30 ts j).f3 == n || ((ts.take m).drop (j + 1)).any (sameNode n)) := by
  have hj : j < (ts.take m).length := by rw [List.length_take]; omega
  rw [List.drop_eq_getElem_cons hj, List.any_cons, List.getElem_take, rdT30_nat ts j (by omega)]; rfl
theorem implTasksOk_l0 (ts : List S30) (hn : ts.length ≤ 1048576) (d : Nat) : ∀ i : Nat, i + d = ts.length → Ev (fun k => impl_tasksOk.l0 k ts ts (ts.length : Int) (i : Int)) (okAll ts i && decide (1 ≤ (ts.length : Int) ∧ (ts.length : Int) ≤ 6)) := by
  induction d with
  | zero =>
    intro i hi
    refine Ev.step (fun _ => impl_tasksOk.l0.eq_2 ..) (Ev.neg (by omega) (Ev.call (within_eq ..) (Ev.some ?_)))
    rw [okAll_end ts i (by omega), Bool.true_and]
  | succ d ih =>
    intro i hi
    have h : i < ts.length := by omega
    have h2 := ih (i + 1) (by omega)
    rw [okAll_step ts i h]
    unfold okAt
    refine Ev.step (fun _ => impl_tasksOk.l0.eq_2 ..) (Ev.pos (by omega) (Ev.pos (by omega) (Ev.pos (by omega) (Ev.call rfl (Ev.call rfl (Ev.ite (fun hnew => Ev.some ?_) (fun hnew => Ev.bind (implTaskOk_ev ..) (Ev.ite (fun hok => Ev.ite (fun hs => Ev.some ?_) (fun hs => ?_)) (fun hok => Ev.some ?_)))))))))
    · have e : newB (rd_T30 ts i) = false := by
        unfold newB; rw [← Bool.not_eq_true']; simpa only [Bool.not_and] using hnew
      rw [e]; rfl
    · rw [Int.toNat_natCast] at hs
      rw [hs]; simp
    · rw [Int.toNat_natCast, Bool.not_eq_true] at hs
      have e : newB (rd_T30 ts i) = true := by
        unfold newB; simpa using hnew
      have e2 : okB (rd_T30 ts i) = true := hok
      rw [hs, e, e2, w64_succ i (by omega)]
      exact h2
    · have e2 : okB (rd_T30 ts i) = false := by rw [← Bool.not_eq_true]; exact hok
      rw [e2]; simp
theorem implTasksOk_ev (ts : List S30) (hn : ts.length ≤ 1048576) : Ev (fun k => impl_tasksOk.f k ts) (okAll ts 0 && decide (1 ≤ (ts.length : Int) ∧ (ts.length : Int) ≤ 6)) :=
  Ev.congr (fun _ => impl_tasksOk.f.eq_1 ..) (implTasksOk_l0 ts hn ts.length 0 (by omega))
theorem specRun_l1 (ts : List S30) (ps : List Int) (r : List Int × List S67 × Bool) (i : Nat) (hi : i < ts.length) (hn : ts.length ≤ 1048576) (x0 x1 x2 x3 x4 x5 x6 x7 x8 : Int) (x9 : Bool) (x10 : Int) (d : Nat) :
    ∀ (j : Nat) (b : Bool), j + d = i → Ev (fun k => spec_RunTasks.l0 k ts ps (ts.length : Int) (b && !(((ts.take i).drop j).any (sameNode x3))) ((i + 1 : Nat) : Int)) r → Ev (fun k => spec_RunTasks.l1 k ts ps (ts.length : Int) b (i : Int) (j : Int) x0 x1 x2 x3 x4 x5 x6 x7 x8 x9 x10) r := by
  induction d with
  | zero =>
    intro j b hj h
    rw [List.drop_eq_nil_of_le (by rw [List.length_take]; omega)] at h
    refine Ev.step (fun _ => spec_RunTasks.l1.eq_2 ..) (Ev.neg (by omega) ?_)
    rw [w64_succ i (by omega)]
    simpa using h
  | succ d ih =>
    intro j b hj h
    rw [any_step ts x3 j i (by omega) (by omega)] at h
    refine Ev.step (fun _ => spec_RunTasks.l1.eq_2 ..) (Ev.pos (by omega) (Ev.ite (fun hb => Ev.pos (by omega) (Ev.pos (by omega) ?_)) (fun hb => ?_)))
    · rw [w64_succ j (by omega)]
      refine ih (j + 1) _ (by omega) ?_
      rw [hb] at h
      have e : (true && !((rd_T30 ts (j : Int)).f3 == x3 || ((ts.take i).drop (j + 1)).any (sameNode x3))) = (((rd_T30 ts (j : Int)).f3 != x3) && !(((ts.take i).drop (j + 1)).any (sameNode x3))) := by rw [Bool.true_and, Bool.not_or]; rfl
      rw [e] at h; exact h
    · rw [w64_succ j (by omega)]
      refine ih (j + 1) _ (by omega) ?_
      have e : b = false := by simpa using hb
      rw [e, Bool.false_and] at h
      rw [Bool.false_and]; exact h
theorem specRun_l0 (ts : List S30) (ps : List Int) (r : List Int × List S67 × Bool) (hn : ts.length ≤ 1048576) (d : Nat) :
    ∀ (i : Nat) (b : Bool), i + d = ts.length → ((b && okAll ts i) = true → Ev (fun k => spec_RunTasks.l2 k ts ps (ts.length : Int) (List.replicate 63 0) [] 0) r) → ((b && okAll ts i) = false → ([], [], false) = r) → Ev (fun k => spec_RunTasks.l0 k ts ps (ts.length : Int) b (i : Int)) r := by
  have stop : ∀ (i : Nat), ([], [], false) = r → Ev (fun k => spec_RunTasks.j2 k ts ps (ts.length : Int) false (i : Int) false) r := fun i h =>
    Ev.step (fun _ => spec_RunTasks.j2.eq_2 ..) (Ev.neg (by simp) (Ev.neg (by simp) (Ev.some h)))
  induction d with
  | zero =>
    intro i b hi hT hF
    rw [okAll_end ts i (by omega), Bool.and_true] at hT hF
    refine Ev.step (fun _ => spec_RunTasks.l0.eq_2 ..) (Ev.neg (by omega) ?_)
    cases b with
    | true => exact Ev.step (fun _ => spec_RunTasks.j2.eq_2 ..) (Ev.neg (by simp) (Ev.pos rfl (Ev.call rfl (hT rfl))))
    | false => exact stop i (hF rfl)
  | succ d ih =>
    intro i b hi hT hF
    have h : i < ts.length := by omega
    refine Ev.step (fun _ => spec_RunTasks.l0.eq_2 ..) (Ev.pos (by omega) ?_)
    cases b with
    | false => exact stop i (hF (Bool.false_and _))
    | true =>
      rw [Bool.true_and, okAll_step ts i h] at hT hF
      have j3 : ∀ b : Bool, (b && !((ts.take i).any (sameNode (rd_T30 ts (i : Int)).f3))) = okAt ts i → Ev (fun k => spec_RunTasks.j3 k ts ps (ts.length : Int) b (i : Int) ((rd_T30 ts (i : Int)).f0) ((rd_T30 ts (i : Int)).f1) ((rd_T30 ts (i : Int)).f2) ((rd_T30 ts (i : Int)).f3) ((rd_T30 ts (i : Int)).f4) ((rd_T30 ts (i : Int)).f5) ((rd_T30 ts (i : Int)).f6) ((rd_T30 ts (i : Int)).f7) ((rd_T30 ts (i : Int)).f8) ((rd_T30 ts (i : Int)).f9) ((rd_T30 ts (i : Int)).f10)) r := by
        intro b hb
        refine Ev.step (fun _ => spec_RunTasks.j3.eq_2 ..) (specRun_l1 ts ps r i h hn _ _ _ _ _ _ _ _ _ _ _ i 0 b (by omega) ?_)
        rw [List.drop_zero, hb]
        exact ih (i + 1) _ (by omega) hT hF
      refine Ev.step (fun _ => spec_RunTasks.j2.eq_2 ..) (Ev.pos rfl (Ev.pos (by omega) (Ev.pos (by omega) (Ev.call rfl (Ev.ite (fun hnew => Ev.call (specTaskOk_eq ..) (j3 _ ?_)) (fun hnew => j3 _ ?_))))))
      · have e : newB (rd_T30 ts i) = true := hnew
        unfold okAt; rw [e, Bool.true_and]; rfl
      · have e : newB (rd_T30 ts i) = false := by rw [← Bool.not_eq_true]; exact hnew
        unfold okAt; rw [e]; simp
/-- A turn of a call, in plain words. -/
abbrev RS : Type := List Int × List S67 × Int
def callOf (q : List Int × Int × Int × Int × Int × Int × Int × Int × Int × Int × Bool × Int) (a b : Int) : S67 := ⟨⟨q.2.1, q.2.2.1, q.2.2.2.1, q.2.2.2.2.1, q.2.2.2.2.2.1, q.2.2.2.2.2.2.1, q.2.2.2.2.2.2.2.1, q.2.2.2.2.2.2.2.2.1, q.2.2.2.2.2.2.2.2.2.1, q.2.2.2.2.2.2.2.2.2.2.1, q.2.2.2.2.2.2.2.2.2.2.2⟩, a, b⟩
def stepC (l : List Int) (c : S67) : List Int × Int × Int × Int × Int × Int × Int × Int × Int × Int × Bool × Int := stepTM l c.f0.f0 c.f0.f1 c.f0.f2 c.f0.f3 c.f0.f4 c.f0.f5 c.f0.f6 c.f0.f7 c.f0.f8 c.f0.f9 c.f0.f10
def stepR (st : RS) (i : Nat) : RS :=
  if (rd_T67 st.2.1 (i : Int)).f0.f9 = true then (st.1, st.2.1, wrap64 (st.2.2 + 1)) else
    ((stepC st.1 (rd_T67 st.2.1 (i : Int))).1, st.2.1.set i (callOf (stepC st.1 (rd_T67 st.2.1 (i : Int))) (if (rd_T67 st.2.1 (i : Int)).f1 = 0 then wrap64 (st.2.2 + 1) else (rd_T67 st.2.1 (i : Int)).f1) (wrap64 (st.2.2 + 1))), wrap64 (st.2.2 + 1))
theorem stepR_len (st : RS) (i : Nat) : (stepR st i).1.length = st.1.length ∧ (stepR st i).2.1.length = st.2.1.length := by
  unfold stepR; split
  · exact ⟨rfl, rfl⟩
  · exact ⟨stepTM_len .., List.length_set⟩
theorem foldR_len (L : List Nat) : ∀ st : RS, (L.foldl stepR st).1.length = st.1.length ∧ (L.foldl stepR st).2.1.length = st.2.1.length := by
  induction L with
  | nil => intro st; exact ⟨rfl, rfl⟩
  | cons i L ih => intro st; rw [List.foldl_cons]; have := ih (stepR st i); have := stepR_len st i; omega
theorem runStep_ev (st : RS) (i : Nat) (hi : i < st.2.1.length) (hl : st.1.length ≤ 1048576) : Ev (fun k => impl_runner_step.f k st.1 st.2.1 st.2.2 (i : Int)) (stepR st i) := by
  unfold stepR
  refine Ev.congr (fun _ => impl_runner_step.f.eq_1 ..) (Ev.pos (by omega) (Ev.pos (by omega) ?_))
  by_cases c : (rd_T67 st.2.1 (i : Int)).f0.f9 = true
  · rw [if_pos c]; exact Ev.pos c (Ev.now _)
  · rw [if_neg c]; exact Ev.neg c (Ev.bind (implStepTask_ev _ hl _ _ _ _ _ _ _ _ _ _ _) (Ev.some rfl))
theorem rd67_set (l : List S67) (i : Nat) (x : S67) (h : i < l.length) : rd_T67 (l.set i x) (i : Int) = x := by
  rw [rdC_nat _ _ (by rw [List.length_set]; exact h), List.getElem_set_self]
theorem specRun_j7 (ps : List Int) (n : Int) (st : RS) (x16 : Int) (i : Nat) (hi : i < st.2.1.length) (hl : st.1.length ≤ 1048576) (r : List Int × List S67 × Bool) (h : Ev (fun k => spec_RunTasks.l3 k ps n (stepR st i).1 (stepR st i).2.1 (stepR st i).2.2 (wrap64 (x16 + 1))) r) : Ev (fun k => spec_RunTasks.j7 k ps n st.1 st.2.1 st.2.2 x16 (i : Int)) r := by
  obtain ⟨l, cs, m⟩ := st
  simp only at hi hl h ⊢
  unfold stepR at h
  simp only at h
  refine Ev.step (fun _ => spec_RunTasks.j7.eq_2 ..) (Ev.pos (by omega) (Ev.pos (by omega) (Ev.ite (fun hd => ?_) (fun hd => ?_))))
  · rw [if_pos hd] at h; exact h
  · rw [if_neg hd] at h
    refine Ev.ite (fun hz => ?_) (fun hz => ?_)
    · rw [if_pos hz] at h
      simp only [Option.bind_some, Int.toNat_natCast, rd67_set _ _ _ hi, List.set_set]
      exact Ev.bind (specStepTask_ev _ hl _ _ _ _ _ _ _ _ _ _ _) h
    · rw [if_neg hz] at h
      simp only [Option.bind_some, Int.toNat_natCast, rd67_set _ _ _ hi, List.set_set]
      exact Ev.bind (specStepTask_ev _ hl _ _ _ _ _ _ _ _ _ _ _) h
theorem tmod_facts (p : Int) (n : Nat) (h : 1 ≤ n) : -(n : Int) < Int.tmod p n ∧ Int.tmod p n < n ∧ (Int.tmod p n) % (n : Int) = p % (n : Int) := by
  refine ⟨Int.lt_tmod_of_pos p (by omega), Int.tmod_lt_of_pos p (by omega), ?_⟩
  have e := Int.tmod_add_mul_tdiv p n
  conv => rhs; rw [← e]
  rw [Int.add_mul_emod_self_left]
theorem modn (p : Int) (n : Nat) (h : 1 ≤ n) (hn : n ≤ 6) : (Int.tmod p n < 0 → wrap64 (Int.tmod p n + n) = p % (n : Int)) ∧ (¬ Int.tmod p n < 0 → Int.tmod p n = p % (n : Int)) := by
  obtain ⟨h1, h2, h3⟩ := tmod_facts p n h
  constructor
  · intro hc
    rw [w64 (by omega) (by omega), ← h3, ← Int.add_emod_right, Int.emod_eq_of_lt (by omega) (by omega)]
  · intro hc; rw [← h3, Int.emod_eq_of_lt (by omega) (by omega)]
theorem modulo_eq (p : Int) (n : Nat) (h : 1 ≤ n) (hn : n ≤ 6) : impl_modulo.f p (n : Int) = some (((p % (n : Int)).toNat : Nat) : Int) := by
  obtain ⟨h1, h2, h3⟩ := tmod_facts p n h
  have h4 := Int.emod_nonneg p (show (n : Int) ≠ 0 by omega)
  unfold impl_modulo.f
  rw [if_neg (by omega), w64 (by omega) (by omega), Int.tmod_eq_emod_of_nonneg (by omega), Int.add_emod_right, h3, Int.toNat_of_nonneg h4]
def drawn (n : Nat) (ps : List Int) : List Nat := ps.map fun p => (p % (n : Int)).toNat
def turnsOf (n : Nat) (ps : List Int) : List Nat := drawn n ps ++ (List.range (400 * n)).map (· % n)
theorem drawn_lt (n : Nat) (ps : List Int) (h : 1 ≤ n) : ∀ i ∈ drawn n ps, i < n := by
  intro i hi
  obtain ⟨p, _, rfl⟩ := List.mem_map.1 hi
  have := Int.emod_nonneg p (show (n : Int) ≠ 0 by omega); have := Int.emod_lt_of_pos p (show (0 : Int) < n by omega)
  omega
theorem turnsOf_len (n : Nat) (ps : List Int) : (turnsOf n ps).length = ps.length + 400 * n := by simp [turnsOf, drawn]
theorem specRun_l3 (ps : List Int) (n : Nat) (h1 : 1 ≤ n) (hn : n ≤ 6) (hp : ps.length ≤ 200) (d : Nat) : ∀ (i : Nat) (st : RS), i + d = ps.length + 400 * n → st.2.1.length = n → st.1.length ≤ 1048576 →
    Ev (fun k => spec_RunTasks.l3 k ps (n : Int) st.1 st.2.1 st.2.2 (i : Int)) ((((turnsOf n ps).drop i).foldl stepR st).1, (((turnsOf n ps).drop i).foldl stepR st).2.1, true) := by
  have hw : wrap64 ((ps.length : Int) + wrap64 (400 * (n : Int))) = ((ps.length + 400 * n : Nat) : Int) := by
    rw [w64 (n := 400 * (n : Int)) (by omega) (by omega), w64 (by omega) (by omega)]; omega
  induction d with
  | zero =>
    intro i st hi _ _
    rw [List.drop_eq_nil_of_le (by rw [turnsOf_len]; omega)]
    exact Ev.step (fun _ => spec_RunTasks.l3.eq_2 ..) (Ev.neg (by rw [hw]; omega) (Ev.now _))
  | succ d ih =>
    intro i st hi hc hl
    have hL : i < (turnsOf n ps).length := by rw [turnsOf_len]; omega
    rw [List.drop_eq_getElem_cons hL, List.foldl_cons]
    have hs := stepR_len st (turnsOf n ps)[i]
    have hh := ih (i + 1) (stepR st (turnsOf n ps)[i]) (by omega) (by omega) (by omega)
    rw [← w64_succ i (by omega)] at hh
    refine Ev.step (fun _ => spec_RunTasks.l3.eq_2 ..) (Ev.pos (by rw [hw]; omega) (Ev.neg (by omega) (Ev.ite (fun hip => Ev.pos (by omega) ?_) (fun hip => ?_))))
    · have hip' : i < ps.length := by omega
      have e : (turnsOf n ps)[i] = (ps[i] % (n : Int)).toNat := by
        simp only [turnsOf, drawn]
        rw [List.getElem_append_left (by simpa using hip'), List.getElem_map]
      have h4 := Int.emod_nonneg ps[i] (show (n : Int) ≠ 0 by omega)
      have h5 := Int.emod_lt_of_pos ps[i] (show (0 : Int) < n by omega)
      have e2 : ps[i] % (n : Int) = (((turnsOf n ps)[i] : Nat) : Int) := by rw [e]; omega
      rw [rd_nat ps i hip']
      obtain ⟨m1, m2⟩ := modn ps[i] n h1 hn
      refine Ev.ite (fun c => ?_) (fun c => ?_)
      · rw [m1 c, e2]; exact specRun_j7 ps n st i _ (by omega) hl _ hh
      · rw [m2 c, e2]; exact specRun_j7 ps n st i _ (by omega) hl _ hh
    · have e : (turnsOf n ps)[i] = (i - ps.length) % n := by
        simp only [turnsOf, drawn]
        rw [List.getElem_append_right (by simp; omega), List.getElem_map, List.getElem_range]; simp
      have h5 : (i - ps.length) % n < n := Nat.mod_lt _ (by omega)
      have e2 : Int.tmod (wrap64 ((i : Int) - (ps.length : Int))) (n : Int) = (((turnsOf n ps)[i] : Nat) : Int) := by
        rw [w64 (by omega) (by omega), e, show (i : Int) - (ps.length : Int) = ((i - ps.length : Nat) : Int) by omega, Int.tmod_eq_emod_of_nonneg (by omega)]; rfl
      rw [e2]; exact specRun_j7 ps n st i _ (by omega) hl _ hh
theorem specRun_l2 (ts : List S30) (ps l : List Int) (hn : ts.length ≤ 1048576) (r : List Int × List S67 × Bool) (h : Ev (fun k => spec_RunTasks.l3 k ps (ts.length : Int) l (runC ts) 0 0) r) (d : Nat) : ∀ i : Nat, i + d = ts.length → Ev (fun k => spec_RunTasks.l2 k ts ps (ts.length : Int) l (runC (ts.take i)) (i : Int)) r := by
  induction d with
  | zero =>
    intro i hi
    refine Ev.step (fun _ => spec_RunTasks.l2.eq_2 ..) (Ev.neg (by omega) ?_)
    rw [List.take_of_length_le (by omega)]; exact h
  | succ d ih =>
    intro i hi
    have hlt : i < ts.length := by omega
    refine Ev.step (fun _ => spec_RunTasks.l2.eq_2 ..) (Ev.pos (by omega) (Ev.pos (by omega) (Ev.pos (by omega) (Ev.pos (by simp [runC]; omega) ?_))))
    have hh := ih (i + 1) (by omega)
    rw [List.take_succ_eq_append_getElem hlt] at hh
    rw [w64_succ i (by omega), rdT30_nat ts i hlt]
    unfold runC at hh ⊢
    rw [List.map_append] at hh
    exact hh
theorem implRun_l1 (ts : List S30) (ps : List Int) (h1 : 1 ≤ ts.length) (hn : ts.length ≤ 6) (d : Nat) : ∀ (j : Nat) (st : RS), j + d = ps.length → st.2.1.length = ts.length → st.1.length ≤ 1048576 → Ev (fun k => impl_RunTasks.l1 k ts ps st.1 st.2.1 st.2.2 j) (((drawn ts.length ps).drop j).foldl stepR st) := by
  induction d with
  | zero =>
    intro j st hj _ _
    rw [List.drop_eq_nil_of_le (by simp [drawn]; omega)]
    exact Ev.step (fun _ => impl_RunTasks.l1.eq_2 ..) (Ev.neg (by omega) (Ev.now _))
  | succ d ih =>
    intro j st hj hc hl
    have hlt : j < ps.length := by omega
    have hL : j < (drawn ts.length ps).length := by simp [drawn]; omega
    have hm := drawn_lt ts.length ps h1 _ (List.getElem_mem hL)
    have e : (drawn ts.length ps)[j] = (ps[j] % (ts.length : Int)).toNat := by simp only [drawn, List.getElem_map]
    rw [List.drop_eq_getElem_cons hL, List.foldl_cons]
    have hs := stepR_len st (drawn ts.length ps)[j]
    refine Ev.step (fun _ => impl_RunTasks.l1.eq_2 ..) (Ev.pos hlt (Ev.call (by rw [rd_nat ps j hlt, modulo_eq _ _ h1 hn, ← e]) (Ev.bind (runStep_ev st _ (by omega) hl) ?_)))
    exact ih (j + 1) (stepR st (drawn ts.length ps)[j]) (by omega) (by omega) (by omega)
theorem implRun_l3 (m d : Nat) : ∀ (j : Nat) (st : RS), j + d = m → st.2.1.length = m → st.1.length ≤ 1048576 → Ev (fun k => impl_RunTasks.l3 k m st.1 st.2.1 st.2.2 j) (((List.range m).drop j).foldl stepR st) := by
  induction d with
  | zero =>
    intro j st hj _ _
    rw [List.drop_eq_nil_of_le (by simp; omega)]
    exact Ev.step (fun _ => impl_RunTasks.l3.eq_2 ..) (Ev.neg (by omega) (Ev.now _))
  | succ d ih =>
    intro j st hj hc hl
    have hL : j < (List.range m).length := by simp; omega
    rw [List.drop_eq_getElem_cons hL, List.foldl_cons, List.getElem_range]
    have hs := stepR_len st j
    refine Ev.step (fun _ => impl_RunTasks.l3.eq_2 ..) (Ev.pos (by omega) (Ev.bind (runStep_ev st j (by omega) hl) ?_))
    exact ih (j + 1) (stepR st j) (by omega) (by omega) (by omega)
def roundsR (n : Nat) : Nat → RS → RS
  | 0, st => st
  | m + 1, st => roundsR n m ((List.range n).foldl stepR st)
theorem roundsR_fold (n : Nat) (m : Nat) : ∀ st : RS, ((List.range (m * n)).map (· % n)).foldl stepR st = roundsR n m st := by
  induction m with
  | zero => intro st; simp [roundsR]
  | succ m ih =>
    intro st
    rw [show (m + 1) * n = n + m * n by rw [Nat.add_mul]; omega, List.range_add, List.map_append, List.foldl_append, List.map_map]
    have e1 : (List.range n).map (· % n) = List.range n := by
      conv => rhs; rw [← List.map_id (List.range n)]
      exact List.map_congr_left (fun x hx => Nat.mod_eq_of_lt (List.mem_range.1 hx))
    have e2 : (List.range (m * n)).map ((· % n) ∘ (n + ·)) = (List.range (m * n)).map (· % n) := List.map_congr_left (fun x _ => by simp)
    rw [e1, e2, ih, roundsR]
theorem done_at (cs : List S67) (h : cs.any notDone = false) (i : Nat) (hi : i < cs.length) : (rd_T67 cs (i : Int)).f0.f9 = true := by
  rw [rdC_nat cs i hi]
  have := List.any_eq_false.1 h _ (List.getElem_mem hi)
  simpa [notDone] using this
theorem foldR_done (L : List Nat) : ∀ st : RS, st.2.1.any notDone = false → (∀ i ∈ L, i < st.2.1.length) → (L.foldl stepR st).1 = st.1 ∧ (L.foldl stepR st).2.1 = st.2.1 := by
  induction L with
  | nil => intro st _ _; exact ⟨rfl, rfl⟩
  | cons i L ih =>
    intro st h hL
    rw [List.foldl_cons]
    have e : stepR st i = (st.1, st.2.1, wrap64 (st.2.2 + 1)) := if_pos (done_at st.2.1 h i (hL i (List.mem_cons_self ..)))
    rw [e]
    exact ih _ h (fun j hj => hL j (List.mem_cons_of_mem _ hj))
theorem roundsR_done (n m : Nat) : ∀ st : RS, st.2.1.any notDone = false → st.2.1.length = n → (roundsR n m st).1 = st.1 ∧ (roundsR n m st).2.1 = st.2.1 := by
  induction m with
  | zero => intro st _ _; exact ⟨rfl, rfl⟩
  | succ m ih =>
    intro st h hc
    obtain ⟨a, b⟩ := foldR_done (List.range n) st h (fun i hi => by rw [hc]; exact List.mem_range.1 hi)
    have := ih ((List.range n).foldl stepR st) (by rw [b]; exact h) (by rw [b]; exact hc)
    rw [roundsR]; rw [a, b] at this; exact this
theorem implRun_l2 (n d : Nat) : ∀ (t : Nat) (st : RS), t + d = 400 → st.2.1.length = n → st.1.length ≤ 1048576 → ∃ q, Ev (fun k => impl_RunTasks.l2 k st.1 st.2.1 st.2.2 t) q ∧ q.1 = (roundsR n d st).1 ∧ q.2.1 = (roundsR n d st).2.1 := by
  induction d with
  | zero =>
    intro t st ht _ _
    exact ⟨st, Ev.step (fun _ => impl_RunTasks.l2.eq_2 ..) (Ev.neg (by omega) (Ev.now _)), rfl, rfl⟩
  | succ d ih =>
    intro t st ht hc hl
    cases ha : st.2.1.any notDone with
    | false =>
      obtain ⟨a, b⟩ := roundsR_done n (d + 1) st ha hc
      exact ⟨st, Ev.step (fun _ => impl_RunTasks.l2.eq_2 ..) (Ev.pos (by omega) (Ev.neg (by rw [ha]; simp) (Ev.now _))), a.symm, b.symm⟩
    | true =>
      have hf := foldR_len (List.range n) st
      obtain ⟨q, hq, a, b⟩ := ih (t + 1) ((List.range n).foldl stepR st) (by omega) (by omega) (by omega)
      refine ⟨q, Ev.step (fun _ => impl_RunTasks.l2.eq_2 ..) (Ev.pos (by omega) (Ev.pos ha (Ev.bind ?_ hq))), a, b⟩
      rw [hc]
      exact implRun_l3 n n 0 st (by omega) hc hl
def runAll (ts : List S30) (ps : List Int) : RS := (turnsOf ts.length ps).foldl stepR (List.replicate 63 0, runC ts, 0)
def runGood (ts : List S30) (ps : List Int) : Bool := decide (1 ≤ (ts.length : Int) ∧ (ts.length : Int) ≤ 6) && decide ((ps.length : Int) ≤ 200) && okAll ts 0
def runRes (ts : List S30) (ps : List Int) : List Int × List S67 × Bool := if runGood ts ps = true then ((runAll ts ps).1, (runAll ts ps).2.1, true) else ([], [], false)
theorem runC_len (ts : List S30) : (runC ts).length = ts.length := List.length_map _
theorem specRun_ev (ts : List S30) (ps : List Int) (hn : ts.length ≤ 1048576) : Ev (fun k => spec_RunTasks.f k ts ps) (runRes ts ps) := by
  have go : ∀ b : Bool, b = (decide (1 ≤ (ts.length : Int) ∧ (ts.length : Int) ≤ 6) && decide ((ps.length : Int) ≤ 200)) → Ev (fun k => spec_RunTasks.j0 k ts ps (ts.length : Int) b) (runRes ts ps) := by
    intro b hb
    refine Ev.step (fun _ => spec_RunTasks.j0.eq_2 ..) (specRun_l0 ts ps _ hn ts.length 0 b (by omega) (fun hg => ?_) (fun hg => ?_))
    · have hg' : runGood ts ps = true := by unfold runGood; rw [← hb]; exact hg
      have hg2 := hg'
      unfold runGood at hg2
      rw [Bool.and_eq_true, Bool.and_eq_true, decide_eq_true_iff, decide_eq_true_iff] at hg2
      unfold runRes
      rw [if_pos hg']
      have := specRun_l2 ts ps (List.replicate 63 0) hn _ (specRun_l3 ps ts.length (by omega) (by omega) (by omega) (ps.length + 400 * ts.length) 0 (List.replicate 63 0, runC ts, 0) (by omega) (runC_len ts) (by simp)) ts.length 0 (by omega)
      rw [List.drop_zero, List.take_zero] at this
      exact this
    · have hg' : ¬ runGood ts ps = true := by unfold runGood; rw [← hb, hg]; simp
      unfold runRes
      rw [if_neg hg']
  refine Ev.congr (fun _ => spec_RunTasks.f.eq_1 ..) (Ev.call (l01In_eq ..) (Ev.ite (fun h => go _ ?_) (fun h => go _ ?_)))
  · rw [h, Bool.true_and]
  · rw [Bool.eq_false_iff.2 h, Bool.false_and]
theorem implRun_ev (ts : List S30) (ps : List Int) (hn : ts.length ≤ 1048576) : Ev (fun k => impl_RunTasks.f k ts ps) (runRes ts ps) := by
  refine Ev.congr (fun _ => impl_RunTasks.f.eq_1 ..) (Ev.pos (by omega) (Ev.bind (implTasksOk_ev ts hn) (Ev.ite (fun h => Ev.ite (fun hp => Ev.some ?_) (fun hp => ?_)) (fun h => Ev.some ?_))))
  · have hg : ¬ runGood ts ps = true := by
      intro hg; unfold runGood at hg
      rw [Bool.and_eq_true, Bool.and_eq_true, decide_eq_true_iff, decide_eq_true_iff] at hg
      omega
    unfold runRes; rw [if_neg hg]
  · rw [Bool.and_eq_true, decide_eq_true_iff] at h
    have hg : runGood ts ps = true := by
      unfold runGood
      rw [Bool.and_eq_true, Bool.and_eq_true, decide_eq_true_iff, decide_eq_true_iff]
      exact ⟨⟨h.2, by omega⟩, h.1⟩
    have hl1 := implRun_l1 ts ps (by omega) (by omega) ps.length 0 (List.replicate 63 0, runC ts, 0) (by omega) (runC_len ts) (by simp)
    rw [List.drop_zero] at hl1
    have hf := foldR_len (drawn ts.length ps) (List.replicate 63 0, runC ts, 0)
    have hr := runC_len ts
    simp only [List.length_replicate] at hf
    obtain ⟨q, hq, a, b⟩ := implRun_l2 ts.length 400 0 _ (by omega) (hf.2.trans hr) (by omega)
    refine Ev.call rfl (Ev.bind hl1 (Ev.bind hq (Ev.some ?_)))
    have e : runAll ts ps = roundsR ts.length 400 ((drawn ts.length ps).foldl stepR (List.replicate 63 0, runC ts, 0)) := by
      unfold runAll turnsOf
      rw [List.foldl_append, roundsR_fold ts.length]
    unfold runRes
    rw [if_pos hg, e, a, b]
  · have hg : ¬ runGood ts ps = true := by
      intro hg; unfold runGood at hg
      rw [Bool.and_eq_true, Bool.and_eq_true] at hg
      exact h (by rw [hg.2, hg.1.1]; rfl)
    unfold runRes; rw [if_neg hg]
theorem runRes_len (ts : List S30) (ps : List Int) : (runRes ts ps).1.length ≤ 63 ∧ (runRes ts ps).2.1.length ≤ 6 := by
  unfold runRes
  split
  · next hg =>
    unfold runGood at hg
    rw [Bool.and_eq_true, Bool.and_eq_true, decide_eq_true_iff, decide_eq_true_iff] at hg
    have hf := foldR_len (turnsOf ts.length ps) (List.replicate 63 0, runC ts, 0)
    have hr := runC_len ts
    simp only [List.length_replicate] at hf
    unfold runAll
    exact ⟨Nat.le_of_eq hf.1, by have := hf.2; show (List.foldl stepR (List.replicate 63 0, runC ts, 0) (turnsOf ts.length ps)).2.1.length ≤ 6; omega⟩
  · exact ⟨by simp, by simp⟩
theorem FnExactRunTasks : laws_FnExactRunTasks.Pure := by
  intro l ps ⟨_, hl⟩ _
  apply Ev.rounds
  refine Ev.congr (fun _ => laws_FnExactRunTasks.f.eq_1 ..) (Ev.ite (fun _ => Ev.now _) (fun hp => ?_))
  have e1 : laws_szTaskS.f l 1048576 = some (if (1048576 : Int) - (l.length : Int) < 0 then -1 else 1048576 - (l.length : Int)) := by
    unfold laws_szTaskS.f maxLen at *
    rw [w64 (n := 1048576 - (l.length : Int)) (by omega) (by omega)]
    by_cases c : (1048576 : Int) - (l.length : Int) < 0
    · rw [if_pos c, if_pos c]
    · rw [if_neg c, if_neg c]
  refine Ev.call e1 (Ev.ite (fun _ => Ev.now _) (fun h => ?_))
  have hn : l.length ≤ 1048576 := by
    by_cases c : (1048576 : Int) - (l.length : Int) < 0
    · rw [if_pos c] at h; omega
    · omega
  have hps : ps.length ≤ 1048576 := by omega
  have ht := toTaskS_ev l hn
  have hi := toIntS_ev ps (by omega)
  have hm : (l.map toT).length ≤ 1048576 := by rw [List.length_map]; omega
  generalize l.map toT = ts at ht hm
  have hsp := specRun_ev ts ps hm
  have him := implRun_ev ts ps hm
  obtain ⟨hr1, hr2⟩ := runRes_len ts ps
  generalize runRes ts ps = M at hsp him hr1 hr2
  have he1 := eqIntS_self M.1 (by omega)
  have he2 := eqCallS_self M.2.1 (by omega)
  have hn1 : nxT ts.length 1 = 1 + 11 * (ts.length : Int) := nxT_eq _ 1 (by omega) (by omega)
  have hn2 : nxC M.2.1.length (1 + (M.1.length : Int)) = 1 + (M.1.length : Int) + 13 * (M.2.1.length : Int) := nxC_eq _ _ (by omega) (by omega)
  refine Ev.bind ht (Ev.bind hi (Ev.bind hsp (Ev.bind ht (Ev.bind hi (Ev.bind him (Ev.bind he1 (Ev.pos rfl (Ev.bind he2 (Ev.pos rfl ?_)))))))))
  refine Ev.step (fun _ => laws_FnExactRunTasks.j0.eq_2 ..) (Ev.neg (by simp) (Ev.bind ht (Ev.bind (eqTaskS_self ts hm) (Ev.pos rfl (Ev.bind hi (Ev.bind (eqIntS_self ps (by omega)) (Ev.pos rfl ?_)))))))
  refine Ev.bind (markTaskS_ev ts 1 hm) (Ev.bind (markIntS_ev ps _ (by rw [hn1]; omega) (by rw [hn1]; omega)) (Ev.neg (by rw [hn1]; omega) (Ev.bind he1 (Ev.pos rfl (Ev.bind he2 (Ev.pos rfl ?_))))))
  refine Ev.step (fun _ => laws_FnExactRunTasks.j1.eq_2 ..) (Ev.neg (by simp) (Ev.bind (markIntS_ev M.1 1 (by omega) (by omega)) (Ev.bind (markCallS_ev M.2.1 _ (by omega)) (Ev.bind (heldIntS_ev M.1.length 1 (by omega) (by omega)) (Ev.neg (by omega) (Ev.bind (heldCallS_ev M.2.1.length _ (by omega)) (Ev.neg (by rw [hn2]; omega) (Ev.pos rfl ?_))))))))
  refine Ev.bind ht (Ev.bind hi (Ev.bind him (Ev.bind he1 (Ev.pos rfl (Ev.bind he2 (Ev.pos rfl ?_))))))
  exact Ev.step (fun _ => laws_FnExactRunTasks.j2.eq_2 ..) (Ev.neg (by simp) (Ev.bind (heldIntS_ev M.1.length 1 (by omega) (by omega)) (Ev.neg (by omega) (Ev.bind (heldCallS_ev M.2.1.length _ (by omega)) (Ev.neg (by rw [hn2]; omega) (Ev.pos rfl (Ev.now _)))))))

end Go.Proofs.Ytfkhncoiifojnaa.Pure
