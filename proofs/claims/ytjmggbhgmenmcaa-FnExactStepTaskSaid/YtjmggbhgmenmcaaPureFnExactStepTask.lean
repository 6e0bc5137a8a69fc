/- FnExactStepTask returns true for all arguments: the program answers StepTask as the reference does, in new memory, and leaves its arguments as they are. No conditions beyond the statement's own. -/
import Derived.Test.YtjmggbhgmenmcaaQsx11
import Derived.Test.YtjmggbhgmenmcaaVBase
namespace Go.Proofs.Ytjmggbhgmenmcaa.Pure
open Go.RowKit Go.Proofs.Ytjmggbhgmenmcaa.Qs Go.Proofs.YtjmggbhgmenmcaaW.PrintWords Go.Proofs.YtjmggbhgmenmcaaW.PrintLast Go.Proofs.YtjmggbhgmenmcaaW.PrintMore Go.Proofs.Ytjmggbhgmenmcaa.Base

theorem eqIntS_l0 (a b : List Int) (hlen : a.length = b.length) (hn : a.length ≤ 140737488355328) (d : Nat) :
    ∀ i : Nat, i + d = a.length → Ev (fun k => laws_eqIntS.l0 k a b (i : Int)) (decide (a.drop i = b.drop i)) := by
  induction d with
  | zero =>
    intro i hi
    refine Ev.step (fun _ => laws_eqIntS.l0.eq_2 ..) ?_
    refine Ev.neg (by omega) (Ev.some ?_)
    rw [List.drop_eq_nil_of_le (by omega), List.drop_eq_nil_of_le (by omega)]; rfl
  | succ d ih =>
    intro i hi
    refine Ev.step (fun _ => laws_eqIntS.l0.eq_2 ..) ?_
    refine Ev.pos (by omega) (Ev.pos (by omega) (Ev.pos (by omega) ?_))
    rw [rd_nat a i (by omega), rd_nat b i (by omega), w64_succ i (by omega), drop_eq_iff a b i (by omega) (by omega)]
    refine Ev.ite (fun h => ?_) (fun h => ?_)
    · rw [decide_eq_true h, Bool.true_and]; exact ih (i + 1) (by omega)
    · rw [decide_eq_false h]; exact Ev.now _
theorem eqIntS_ev (a b : List Int) (hn : a.length ≤ 140737488355328) : Ev (fun k => laws_eqIntS.f k a b) (decide (a = b)) := by
  refine Ev.congr (fun _ => laws_eqIntS.f.eq_1 ..) (Ev.ite (fun h => ?_) (fun h => ?_))
  · exact eqIntS_l0 a b (by omega) hn a.length 0 (by omega)
  · rw [decide_eq_false (fun e => h (by rw [e]))]; exact Ev.now _
theorem eqIntS_self (a : List Int) (hn : a.length ≤ 140737488355328) : Ev (fun k => laws_eqIntS.f k a a) true := by
  have h := eqIntS_ev a a hn
  rwa [decide_eq_true rfl] at h
theorem toIntS_l0 (a : List Int) (hn : a.length ≤ 140737488355328) (d : Nat) :
    ∀ i : Nat, i + d = a.length → Ev (fun k => laws_toIntS.l0 k a (a.take i ++ List.replicate (a.length - i) 0) (i : Int)) a := by
  induction d with
  | zero =>
    intro i hi
    refine Ev.step (fun _ => laws_toIntS.l0.eq_2 ..) ?_
    refine Ev.neg (by omega) (Ev.some ?_)
    rw [show a.length - i = 0 from by omega, List.take_of_length_le (by omega)]; simp
  | succ d ih =>
    intro i hi
    refine Ev.step (fun _ => laws_toIntS.l0.eq_2 ..) ?_
    refine Ev.pos (by omega) (Ev.pos (by omega) (Ev.pos (by simp; omega) ?_))
    rw [rd_nat a i (by omega), w64_succ i (by omega), Int.toNat_natCast, take_set_replicate a 0 i (by omega)]
    exact ih (i + 1) (by omega)
theorem toIntS_ev (a : List Int) (hn : a.length ≤ 35184372088832) : Ev (fun k => laws_toIntS.f k a) a := by
  refine Ev.congr (fun _ => laws_toIntS.f.eq_1 ..) (Ev.pos (by omega) (Ev.pos (by omega) ?_))
  have h := toIntS_l0 a (by omega) a.length 0 (by omega)
  simpa using h
theorem markIntS_l0 (a : List Int) (m : Int) (h0 : 0 ≤ m) (hm : m + a.length ≤ 9223372036854775807) (d : Nat) :
    ∀ i : Nat, i + d = a.length → Ev (fun k => laws_markIntS.l0 k (marks m i ++ a.drop i) (m + (i : Int)) (i : Int)) (m + (a.length : Int), marks m a.length) := by
  induction d with
  | zero =>
    intro i hi
    refine Ev.step (fun _ => laws_markIntS.l0.eq_2 ..) ?_
    refine Ev.neg (by simp [marks_length]; omega) (Ev.some ?_)
    obtain rfl : i = a.length := by omega
    simp
  | succ d ih =>
    intro i hi
    refine Ev.step (fun _ => laws_markIntS.l0.eq_2 ..) ?_
    refine Ev.pos (by simp [marks_length]; omega) (Ev.pos (by omega) ?_)
    rw [w64_succ i (by omega), Int.toNat_natCast, marks_set m a i (by omega), w64 (by omega) (by omega), Int.add_assoc, show ((i : Int) + 1) = ((i + 1 : Nat) : Int) from by omega]
    exact ih (i + 1) (by omega)
theorem markIntS_ev (a : List Int) (m : Int) (h0 : 0 ≤ m) (hm : m + a.length ≤ 9223372036854775807) : Ev (fun k => laws_markIntS.f k a m) (m + (a.length : Int), marks m a.length) := by
  have h := markIntS_l0 a m h0 hm a.length 0 (by omega)
  refine Ev.congr (fun _ => laws_markIntS.f.eq_1 ..) ?_
  simpa [marks] using h
theorem heldIntS_l0 (n : Nat) (m : Int) (h0 : 0 ≤ m) (hm : m + n ≤ 9223372036854775807) (d : Nat) :
    ∀ i : Nat, i + d = n → Ev (fun k => laws_heldIntS.l0 k (marks m n) (m + (i : Int)) (i : Int)) (m + (n : Int)) := by
  induction d with
  | zero =>
    intro i hi
    refine Ev.step (fun _ => laws_heldIntS.l0.eq_2 ..) ?_
    refine Ev.neg (by rw [marks_length]; omega) (Ev.some ?_)
    omega
  | succ d ih =>
    intro i hi
    refine Ev.step (fun _ => laws_heldIntS.l0.eq_2 ..) ?_
    refine Ev.pos (by rw [marks_length]; omega) (Ev.pos (by omega) ?_)
    rw [rd_nat _ i (by rw [marks_length]; omega), marks_get]
    refine Ev.pos rfl ?_
    rw [w64_succ i (by omega), w64 (by omega) (by omega), Int.add_assoc, show ((i : Int) + 1) = ((i + 1 : Nat) : Int) from by omega]
    exact ih (i + 1) (by omega)
theorem heldIntS_ev (n : Nat) (m : Int) (h0 : 0 ≤ m) (hm : m + n ≤ 9223372036854775807) : Ev (fun k => laws_heldIntS.f k (marks m n) m) (m + (n : Int)) := by
  have h := heldIntS_l0 n m h0 hm n 0 (by omega)
  refine Ev.congr (fun _ => laws_heldIntS.f.eq_1 ..) ?_
  simpa using h
theorem mark_held (l : List Int) (hn : l.length ≤ 140737488355328) : Ev (fun k => laws_markIntS.f k l 1) (1 + (l.length : Int), marks 1 l.length) ∧ Ev (fun k => laws_heldIntS.f k (marks 1 l.length) 1) (1 + (l.length : Int)) :=
  ⟨markIntS_ev l 1 (by omega) (by omega), heldIntS_ev l.length 1 (by omega) (by omega)⟩
theorem l01In_eq (n lo hi : Int) : spec_l01In.f n lo hi = some (decide (lo ≤ n ∧ n ≤ hi)) := by
  unfold spec_l01In.f
  by_cases h : n ≥ lo
  · rw [if_pos h]; congr 1; rw [decide_eq_decide]; exact ⟨fun h2 => ⟨h, h2⟩, fun h2 => h2.2⟩
  · rw [if_neg h]; congr 1; symm; rw [decide_eq_false_iff_not]; exact fun h2 => h h2.1
theorem within_eq (n lo hi : Int) : impl_within.f n lo hi = some (decide (lo ≤ n ∧ n ≤ hi)) := by
  unfold impl_within.f
  by_cases h : n ≥ lo
  · rw [if_pos h]; congr 1; rw [decide_eq_decide]; exact ⟨fun h2 => ⟨h, h2⟩, fun h2 => h2.2⟩
  · rw [if_neg h]; congr 1; symm; rw [decide_eq_false_iff_not]; exact fun h2 => h h2.1
/-- The nodes of a list from a node on: at most n are looked at. -/
def nodeM (w : Int) : Int := if 1 ≤ w / 2 ∧ w / 2 ≤ 20 then w / 2 else 0
def wordAt (l : List Int) (n : Int) : Int := if n = 0 then rd l 0 else rd l (3 * n + 2)
def nodesM (l : List Int) : Nat → Int → List Int
  | 0, _ => []
  | d + 1, n => if n = 0 then [] else if wordAt l n % 2 = 0 then n :: nodesM l d (nodeM (wordAt l n)) else nodesM l d (nodeM (wordAt l n))
theorem nodeM_range (w : Int) : 0 ≤ nodeM w ∧ nodeM w ≤ 20 := by
  unfold nodeM; split <;> omega
theorem nodesM_range (l : List Int) (d : Nat) : ∀ n : Int, 0 ≤ n → n ≤ 20 → (nodesM l d n).length ≤ d ∧ ∀ x ∈ nodesM l d n, 1 ≤ x ∧ x ≤ 20 := by
  induction d with
  | zero => intro n _ _; simp [nodesM]
  | succ d ih =>
    intro n h0 h1
    unfold nodesM
    obtain ⟨a, b⟩ := ih (nodeM (wordAt l n)) (nodeM_range _).1 (nodeM_range _).2
    split
    · simp
    · split
      · refine ⟨by simp; omega, fun x hx => ?_⟩
        rcases List.mem_cons.1 hx with rfl | hx
        · omega
        · exact b x hx
      · exact ⟨by omega, b⟩
theorem specNode_eq (w : Int) (hw : -9223372036854775808 ≤ w ∧ w ≤ 9223372036854775807) : spec_l06Node.f w = some (nodeM w) := by
  unfold spec_l06Node.f nodeM
  have hq : Int.tdiv w 2 = w / 2 ∨ (w < 0 ∧ Int.tdiv w 2 ≤ 0 ∧ w / 2 < 0 ∧ -9223372036854775808 ≤ Int.tdiv w 2) := by
    by_cases h : 0 ≤ w
    · left; exact Int.tdiv_eq_ediv_of_nonneg h
    · right
      have h1 := Int.mul_tdiv_add_tmod w 2
      have h2 := Int.tmod_nonneg 2 (show 0 ≤ -w by omega)
      rw [Int.neg_tmod] at h2
      have h3 := Int.tmod_lt_of_pos (-w) (b := 2) (by omega)
      rw [Int.neg_tmod] at h3
      omega
  rw [w64 (n := Int.tdiv w 2) (by omega) (by omega), l01In_eq, Option.bind_some]
  by_cases h : 0 ≤ Int.tdiv w 2 ∧ Int.tdiv w 2 ≤ 20
  · rw [decide_eq_true h, if_pos rfl]
    congr 1
    split <;> omega
  · rw [decide_eq_false h, if_neg (by simp)]
    congr 1
    split <;> omega
theorem implNode_eq (w : Int) : impl_nodeOf.f w = some (nodeM w) := by
  unfold impl_nodeOf.f nodeM
  rw [within_eq, Option.bind_some]
  by_cases h : 1 ≤ w / 2 ∧ w / 2 ≤ 20
  · rw [decide_eq_true h, if_pos rfl, if_pos h]
  · rw [decide_eq_false h, if_neg (by simp), if_neg h]
theorem specWord_eq (n : Int) (h0 : 0 ≤ n) (h1 : n ≤ 20) : spec_l06Word.f n = some (if n = 0 then 0 else 3 * n + 2) := by
  unfold spec_l06Word.f
  rw [w64 (n := 3 * n) (by omega) (by omega), w64 (by omega) (by omega)]
  split <;> rfl
theorem implWord_eq (n : Int) (h0 : 0 ≤ n) (h1 : n ≤ 20) : impl_wordCell.f n = some (if n = 0 then 0 else 3 * n + 2) := by
  unfold impl_wordCell.f
  rw [w64 (n := 3 * n) (by omega) (by omega), w64 (by omega) (by omega)]
  split <;> rfl
theorem tmod2 (w : Int) : Int.tmod w 2 = 0 ↔ w % 2 = 0 := by
  have h1 := Int.mul_tdiv_add_tmod w 2
  have h2 := Int.tmod_lt_of_pos w (b := 2) (by omega)
  have h3 := Int.tmod_lt_of_pos (-w) (b := 2) (by omega)
  rw [Int.neg_tmod] at h3
  omega
theorem wordAt_eq (l : List Int) (n : Int) (h : n ≠ 0) : wordAt l n = rd l (3 * n + 2) := by unfold wordAt; rw [if_neg h]
def nodesOfM (l : List Int) : List Int := if l.length = 63 then nodesM l 20 (nodeM (rd l 0)) else []
theorem nodesOfM_range (l : List Int) : (nodesOfM l).length ≤ 20 ∧ ∀ x ∈ nodesOfM l, 1 ≤ x ∧ x ≤ 20 ∧ l.length = 63 := by
  unfold nodesOfM
  split
  · obtain ⟨a, b⟩ := nodesM_range l 20 (nodeM (rd l 0)) (nodeM_range _).1 (nodeM_range _).2
    exact ⟨a, fun x hx => ⟨(b x hx).1, (b x hx).2, by assumption⟩⟩
  · simp
theorem ite_dec (p q : Prop) [Decidable p] [Decidable q] : (if decide p = true then some (decide q) else some false) = some (decide (p ∧ q)) := by
  by_cases hp : p <;> by_cases hq : q <;> simp [hp, hq]
def taskOkP (a0 a1 a2 a3 a4 a5 a6 a7 a8 : Int) : Prop := (1 ≤ a0 ∧ a0 ≤ 3) ∧ (1 ≤ a1 ∧ a1 ≤ 99) ∧ (0 ≤ a2 ∧ a2 ≤ 99) ∧ (1 ≤ a3 ∧ a3 ≤ 20) ∧ (0 ≤ a4 ∧ a4 ≤ 6) ∧ (0 ≤ a5 ∧ a5 ≤ 20) ∧ (0 ≤ a6 ∧ a6 ≤ 20) ∧ (0 ≤ a7 ∧ a7 ≤ 20) ∧ (0 ≤ a8 ∧ a8 ≤ 1)
instance (a0 a1 a2 a3 a4 a5 a6 a7 a8 : Int) : Decidable (taskOkP a0 a1 a2 a3 a4 a5 a6 a7 a8) := by unfold taskOkP; exact inferInstance
theorem specTaskOk_eq (a0 a1 a2 a3 a4 a5 a6 a7 a8 : Int) (a9 : Bool) (a10 : Int) : spec_TaskOk.f a0 a1 a2 a3 a4 a5 a6 a7 a8 a9 a10 = some (decide (taskOkP a0 a1 a2 a3 a4 a5 a6 a7 a8)) := by
  unfold spec_TaskOk.f
  simp only [l01In_eq, Option.bind_some, ite_dec]
  rfl
theorem implTaskOk_j0 (b : Bool) (a0 a1 a2 a3 a4 a5 a6 a7 a8 : Int) (a9 : Bool) (a10 : Int) :
    Ev (fun k => impl_TaskOk.j0 k b a0 a1 a2 a3 a4 a5 a6 a7 a8 a9 a10) (b && decide ((0 ≤ a4 ∧ a4 ≤ 6) ∧ (0 ≤ a5 ∧ a5 ≤ 20) ∧ (0 ≤ a6 ∧ a6 ≤ 20) ∧ (0 ≤ a7 ∧ a7 ≤ 20) ∧ (0 ≤ a8 ∧ a8 ≤ 1))) := by
  refine Ev.step (fun _ => impl_TaskOk.j0.eq_2 ..) (Ev.plain ?_)
  simp only [within_eq, Option.bind_some]
  by_cases h4 : 0 ≤ a4 ∧ a4 ≤ 6 <;> by_cases h5 : 0 ≤ a5 ∧ a5 ≤ 20 <;> by_cases h6 : 0 ≤ a6 ∧ a6 ≤ 20 <;> by_cases h7 : 0 ≤ a7 ∧ a7 ≤ 20 <;> by_cases h8 : 0 ≤ a8 ∧ a8 ≤ 1 <;> cases b <;> simp [h4, h5, h6, h7, h8]
theorem implTaskOk_ev (a0 a1 a2 a3 a4 a5 a6 a7 a8 : Int) (a9 : Bool) (a10 : Int) : Ev (fun k => impl_TaskOk.f k a0 a1 a2 a3 a4 a5 a6 a7 a8 a9 a10) (decide (taskOkP a0 a1 a2 a3 a4 a5 a6 a7 a8)) := by
  refine Ev.congr (fun _ => impl_TaskOk.f.eq_1 ..) ?_
  have no : ∀ p : Prop, ∀ [Decidable p], ¬ p → Ev (fun k => impl_TaskOk.j0 k false a0 a1 a2 a3 a4 a5 a6 a7 a8 a9 a10) (decide p) := fun p _ hp =>
    Ev.eq (implTaskOk_j0 false a0 a1 a2 a3 a4 a5 a6 a7 a8 a9 a10) (by rw [decide_eq_false hp]; rfl)
  refine Ev.call (within_eq ..) ?_
  by_cases h0 : 1 ≤ a0 ∧ a0 ≤ 3
  · refine Ev.pos (by rw [decide_eq_true h0]) (Ev.call (within_eq ..) ?_)
    by_cases h1 : 1 ≤ a1 ∧ a1 ≤ 99
    · refine Ev.pos (by rw [decide_eq_true h1]) (Ev.call (within_eq ..) ?_)
      by_cases h2 : 0 ≤ a2 ∧ a2 ≤ 99
      · refine Ev.pos (by rw [decide_eq_true h2]) (Ev.call (within_eq ..) (Ev.eq (implTaskOk_j0 _ a0 a1 a2 a3 a4 a5 a6 a7 a8 a9 a10) ?_))
        rw [← Bool.decide_and]
        apply decide_eq_decide.2
        unfold taskOkP
        exact ⟨fun h => ⟨h0, h1, h2, h⟩, fun h => h.2.2.2⟩
      · exact Ev.neg (by rw [decide_eq_false h2]; simp) (no _ (fun h => h2 h.2.2.1))
    · exact Ev.neg (by rw [decide_eq_false h1]; simp) (no _ (fun h => h1 h.2.1))
  · exact Ev.neg (by rw [decide_eq_false h0]; simp) (no _ (fun h => h0 h.1))
theorem specCellsOk_l0 (l : List Int) (hn : l.length ≤ 140737488355328) (d : Nat) :
    ∀ i : Nat, i + d = l.length → Ev (fun k => spec_CellsOk.l0 k l (i : Int)) (decide ((∀ x ∈ l.drop i, 0 ≤ x ∧ x ≤ 1000000000) ∧ 1 ≤ l.length ∧ l.length ≤ 80)) := by
  induction d with
  | zero =>
    intro i hi
    refine Ev.step (fun _ => spec_CellsOk.l0.eq_2 ..) (Ev.neg (by omega) (Ev.call (l01In_eq ..) (Ev.some ?_)))
    rw [decide_eq_decide, List.drop_eq_nil_of_le (by omega)]
    simp; omega
  | succ d ih =>
    intro i hi
    refine Ev.step (fun _ => spec_CellsOk.l0.eq_2 ..) (Ev.pos (by omega) (Ev.pos (by omega) (Ev.call (l01In_eq ..) ?_)))
    rw [rd_nat l i (by omega), w64_succ i (by omega), List.drop_eq_getElem_cons (i := i) (by omega)]
    by_cases h : 0 ≤ l[i] ∧ l[i] ≤ 1000000000
    · refine Ev.pos (by rw [decide_eq_true h]) (Ev.eq (ih (i + 1) (by omega)) ?_)
      rw [decide_eq_decide, List.forall_mem_cons]; simp only [h, true_and, and_self]
    · refine Ev.neg (by rw [decide_eq_false h]; simp) (Ev.some ?_)
      symm; rw [decide_eq_false_iff_not, List.forall_mem_cons]; exact fun h2 => h h2.1.1
theorem implIsNumber_eq (n : Int) : impl_isNumber.f n = some (decide (0 ≤ n ∧ n ≤ 1000000000)) := by
  unfold impl_isNumber.f; rw [within_eq, Option.bind_some]
theorem implCellsOk_l0 (l : List Int) (hn : l.length ≤ 140737488355328) (d : Nat) :
    ∀ i : Nat, i + d = l.length → Ev (fun k => impl_CellsOk.l0 k l l (l.length : Int) (i : Int)) (decide ((∀ x ∈ l.drop i, 0 ≤ x ∧ x ≤ 1000000000) ∧ 1 ≤ l.length ∧ l.length ≤ 80)) := by
  induction d with
  | zero =>
    intro i hi
    refine Ev.step (fun _ => impl_CellsOk.l0.eq_2 ..) (Ev.neg (by omega) (Ev.call (within_eq ..) (Ev.some ?_)))
    rw [decide_eq_decide, List.drop_eq_nil_of_le (by omega)]
    simp; omega
  | succ d ih =>
    intro i hi
    refine Ev.step (fun _ => impl_CellsOk.l0.eq_2 ..) (Ev.pos (by omega) (Ev.pos (by omega) (Ev.pos (by omega) (Ev.call (implIsNumber_eq ..) ?_))))
    rw [rd_nat l i (by omega), w64_succ i (by omega), List.drop_eq_getElem_cons (i := i) (by omega)]
    by_cases h : 0 ≤ l[i] ∧ l[i] ≤ 1000000000
    · refine Ev.pos (by rw [decide_eq_true h]) (Ev.eq (ih (i + 1) (by omega)) ?_)
      rw [decide_eq_decide, List.forall_mem_cons]; simp only [h, true_and, and_self]
    · refine Ev.neg (by rw [decide_eq_false h]; simp) (Ev.some ?_)
      symm; rw [decide_eq_false_iff_not, List.forall_mem_cons]; exact fun h2 => h h2.1.1
theorem specCellsOk_ev (l : List Int) (hn : l.length ≤ 140737488355328) : Ev (fun k => spec_CellsOk.f k l) (decide ((∀ x ∈ l, 0 ≤ x ∧ x ≤ 1000000000) ∧ 1 ≤ l.length ∧ l.length ≤ 80)) :=
  Ev.congr (fun _ => spec_CellsOk.f.eq_1 ..) (by simpa using specCellsOk_l0 l hn l.length 0 (by omega))
theorem implCellsOk_ev (l : List Int) (hn : l.length ≤ 140737488355328) : Ev (fun k => impl_CellsOk.f k l) (decide ((∀ x ∈ l, 0 ≤ x ∧ x ≤ 1000000000) ∧ 1 ≤ l.length ∧ l.length ≤ 80)) :=
  Ev.congr (fun _ => impl_CellsOk.f.eq_1 ..) (by simpa using implCellsOk_l0 l hn l.length 0 (by omega))
/-- One step of a task, in plain words: its eleven fields and the list. -/
abbrev TT : Type := Int × Int × Int × Int × Int × Int × Int × Int × Int × Bool × Int × List Int
def cellW (n : Int) : Int := if n = 0 then 0 else 3 * n + 2
def swapM (l : List Int) (n old w : Int) : Bool × List Int := if rd l (cellW n) = old then (true, l.set (cellW n).toNat w) else (false, l)
def nobodyM (l : List Int) (s0 s1 s2 s3 s4 s5 s6 s7 s8 : Int) (s9 : Bool) (s10 : Int) : TT :=
  if s0 = 2 then (s0, s1, s2, s3, 4, s5, s6, s7, s8, s9, s10, ((l.set (3 * s3).toNat s1).set (3 * s3 + 1).toNat s2).set (3 * s3 + 2).toNat (2 * s6))
  else (s0, s1, s2, s3, s4, s5, s6, s7, s8, true, 0, l)
def lookM (l : List Int) (s0 s1 s2 s3 s4 s5 s6 s7 s8 : Int) (s9 : Bool) (s10 : Int) : TT :=
  if s8 = 1 then (if (swapM l s5 (2 * s6) (2 * s7)).1 = true then (s0, s1, s2, s3, 1, s5, s7, s7, s8, s9, s10, (swapM l s5 (2 * s6) (2 * s7)).2) else (s0, s1, s2, s3, 0, s5, s6, s7, s8, s9, s10, (swapM l s5 (2 * s6) (2 * s7)).2))
  else if rd l (3 * s6) < s1 then (s0, s1, s2, s3, 1, s6, s7, s7, s8, s9, s10, l) else (s0, s1, s2, s3, 3, s5, s6, s7, s8, s9, s10, l)
def foundM (l : List Int) (s0 s1 s2 s3 s4 s5 s6 s7 s8 : Int) (s9 : Bool) (s10 : Int) : TT :=
  if rd l (3 * s6) = s1 then (if s0 = 1 then (s0, s1, s2, s3, s4, s5, s6, s7, s8, true, rd l (3 * s6 + 1) + 1, l) else if s0 = 2 then (s0, s1, s2, s3, s4, s5, s6, s7, s8, true, 0, l) else (s0, s1, s2, s3, 5, s5, s6, s7, s8, s9, s10, l))
  else nobodyM l s0 s1 s2 s3 s4 s5 s6 s7 s8 s9 s10
def stepM (l : List Int) (s0 s1 s2 s3 s4 s5 s6 s7 s8 : Int) (s9 : Bool) (s10 : Int) : TT :=
  if s4 = 0 then (s0, s1, s2, s3, 1, 0, nodeM (rd l 0), s7, s8, s9, s10, l)
  else if s4 = 1 then (if s6 = 0 then nobodyM l s0 s1 s2 s3 s4 s5 s6 s7 s8 s9 s10 else (s0, s1, s2, s3, 2, s5, s6, nodeM (rd l (cellW s6)), rd l (cellW s6) % 2, s9, s10, l))
  else if s4 = 2 then lookM l s0 s1 s2 s3 s4 s5 s6 s7 s8 s9 s10
  else if s4 = 3 then foundM l s0 s1 s2 s3 s4 s5 s6 s7 s8 s9 s10
  else if s4 = 4 then (if (swapM l s5 (2 * s6) (2 * s3)).1 = true then (s0, s1, s2, s3, s4, s5, s6, s7, s8, true, 1, (swapM l s5 (2 * s6) (2 * s3)).2) else (s0, s1, s2, s3, 0, s5, s6, s7, s8, s9, s10, (swapM l s5 (2 * s6) (2 * s3)).2))
  else if s4 = 5 then (if (swapM l s6 (2 * s7) (2 * s7 + 1)).1 = true then (s0, s1, s2, s3, 6, s5, s6, s7, s8, s9, s10, (swapM l s6 (2 * s7) (2 * s7 + 1)).2) else (s0, s1, s2, s3, 0, s5, s6, s7, s8, s9, s10, (swapM l s6 (2 * s7) (2 * s7 + 1)).2))
  else (s0, s1, s2, s3, s4, s5, s6, s7, s8, true, 1, (swapM l s5 (2 * s6) (2 * s7)).2)
theorem cellW_range (n : Int) (h0 : 0 ≤ n) (h1 : n ≤ 20) : 0 ≤ cellW n ∧ cellW n < 63 := by unfold cellW; split <;> omega
theorem specWord_c (n : Int) (h0 : 0 ≤ n) (h1 : n ≤ 20) : spec_l06Word.f n = some (cellW n) := specWord_eq n h0 h1
theorem implWord_c (n : Int) (h0 : 0 ≤ n) (h1 : n ≤ 20) : impl_wordCell.f n = some (cellW n) := implWord_eq n h0 h1
theorem specSwap_eq (l : List Int) (hl : l.length = 63) (n a b : Int) (h0 : 0 ≤ n) (h1 : n ≤ 20) : spec_l06Swap.f l n a b = some (swapM l n a b) := by
  have hc := cellW_range n h0 h1
  unfold spec_l06Swap.f swapM
  simp only [specWord_c n h0 h1, Option.bind_some]
  rw [if_pos hc.1, if_pos (by omega)]
  by_cases h : rd l (cellW n) = a
  · rw [if_pos h, if_pos h, if_pos hc.1, if_pos (by omega)]
  · rw [if_neg h, if_neg h]
theorem implSwap_eq (l : List Int) (hl : l.length = 63) (n a b : Int) (h0 : 0 ≤ n) (h1 : n ≤ 20) : impl_swapWord.f l n a b = some (swapM l n a b) := by
  have hc := cellW_range n h0 h1
  unfold impl_swapWord.f swapM
  simp only [implWord_c n h0 h1, Option.bind_some]
  rw [if_pos hc.1, if_pos (by omega)]
  by_cases h : rd l (cellW n) = a
  · rw [if_pos h, if_pos h]
  · rw [if_neg h, if_neg h]
section
variable (l : List Int) (hl : l.length = 63) (hc : ∀ x ∈ l, 0 ≤ x ∧ x ≤ 1000000000) (s0 s1 s2 s3 s4 s5 s6 s7 s8 : Int) (s9 : Bool) (s10 : Int)
theorem specNobody_eq (hl : l.length = 63) (h3 : 1 ≤ s3 ∧ s3 ≤ 20) (h6 : 0 ≤ s6 ∧ s6 ≤ 20) : spec_l06Nobody.f l s0 s1 s2 s3 s4 s5 s6 s7 s8 s9 s10 = some (nobodyM l s0 s1 s2 s3 s4 s5 s6 s7 s8 s9 s10) := by
  unfold spec_l06Nobody.f nobodyM
  rw [w64 (n := 3 * s3) (by omega) (by omega), w64 (n := 3 * s3 + 1) (by omega) (by omega), w64 (n := 3 * s3 + 2) (by omega) (by omega), w64 (n := 2 * s6) (by omega) (by omega)]
  by_cases h : s0 = 2
  · rw [if_pos h, if_pos h, if_pos (by omega), if_pos (by omega), if_pos (by omega), if_pos (by omega), if_pos (by omega), if_pos (by omega)]
  · rw [if_neg h, if_neg h]
theorem implNobody_eq (hl : l.length = 63) (h3 : 1 ≤ s3 ∧ s3 ≤ 20) (h6 : 0 ≤ s6 ∧ s6 ≤ 20) : impl_Task_nobody.f s0 s1 s2 s3 s4 s5 s6 s7 s8 s9 s10 l = some (nobodyM l s0 s1 s2 s3 s4 s5 s6 s7 s8 s9 s10) := by
  unfold impl_Task_nobody.f nobodyM impl_keyCell.f impl_valCell.f impl_Task_done.f
  simp only [implWord_c s3 (by omega) h3.2, Option.bind_some]
  rw [show cellW s3 = 3 * s3 + 2 from by unfold cellW; rw [if_neg (by omega)]]
  rw [w64 (n := 3 * s3) (by omega) (by omega), w64 (n := 3 * s3 + 1) (by omega) (by omega), w64 (n := 2 * s6) (by omega) (by omega)]
  by_cases h : s0 = 2
  · rw [if_pos h, if_pos h, if_pos (by omega), if_pos (by omega), if_pos (by omega), if_pos (by omega), if_pos (by omega), if_pos (by omega)]
  · rw [if_neg h, if_neg h]
theorem cell_range (hl : l.length = 63) (hc : ∀ x ∈ l, 0 ≤ x ∧ x ≤ 1000000000) (i : Int) (h0 : 0 ≤ i) (h1 : i < 63) : 0 ≤ rd l i ∧ rd l i ≤ 1000000000 := by
  obtain ⟨j, rfl⟩ := Int.eq_ofNat_of_zero_le h0
  rw [rd_nat l j (by omega)]
  exact hc _ (List.getElem_mem _)
theorem specFound_eq (hl : l.length = 63) (hc : ∀ x ∈ l, 0 ≤ x ∧ x ≤ 1000000000) (h3 : 1 ≤ s3 ∧ s3 ≤ 20) (h6 : 0 ≤ s6 ∧ s6 ≤ 20) : spec_l06Found.f l s0 s1 s2 s3 s4 s5 s6 s7 s8 s9 s10 = some (foundM l s0 s1 s2 s3 s4 s5 s6 s7 s8 s9 s10) := by
  have hr := cell_range l hl hc (3 * s6 + 1) (by omega) (by omega)
  unfold spec_l06Found.f foundM
  rw [w64 (n := 3 * s6) (by omega) (by omega), w64 (n := 3 * s6 + 1) (by omega) (by omega), w64 (n := rd l (3 * s6 + 1) + 1) (by omega) (by omega), if_pos (show 0 ≤ 3 * s6 by omega), if_pos (show 3 * s6 < (l.length : Int) by omega), if_pos (show 0 ≤ 3 * s6 + 1 by omega), if_pos (show 3 * s6 + 1 < (l.length : Int) by omega), specNobody_eq l s0 s1 s2 s3 s4 s5 s6 s7 s8 s9 s10 hl h3 h6]
  by_cases h : rd l (3 * s6) = s1
  · rw [if_pos h, if_pos h]
    by_cases h1 : s0 = 1
    · rw [if_pos h1, if_pos h1]
    · rw [if_neg h1, if_neg h1]
      by_cases h2 : s0 = 2
      · rw [if_pos h2, if_pos h2]
      · rw [if_neg h2, if_neg h2]
  · rw [if_neg h, if_neg h]; rfl
theorem implFound_eq (hl : l.length = 63) (hc : ∀ x ∈ l, 0 ≤ x ∧ x ≤ 1000000000) (h3 : 1 ≤ s3 ∧ s3 ≤ 20) (h6 : 0 ≤ s6 ∧ s6 ≤ 20) : impl_Task_found.f s0 s1 s2 s3 s4 s5 s6 s7 s8 s9 s10 l = some (foundM l s0 s1 s2 s3 s4 s5 s6 s7 s8 s9 s10) := by
  have hr := cell_range l hl hc (3 * s6 + 1) (by omega) (by omega)
  unfold impl_Task_found.f foundM impl_keyCell.f impl_valCell.f impl_Task_done.f
  simp only [Option.bind_some]
  rw [w64 (n := 3 * s6) (by omega) (by omega), w64 (n := 3 * s6 + 1) (by omega) (by omega), w64 (n := rd l (3 * s6 + 1) + 1) (by omega) (by omega), if_pos (show 0 ≤ 3 * s6 by omega), if_pos (show 3 * s6 < (l.length : Int) by omega), if_pos (show 0 ≤ 3 * s6 + 1 by omega), if_pos (show 3 * s6 + 1 < (l.length : Int) by omega), implNobody_eq l s0 s1 s2 s3 s4 s5 s6 s7 s8 s9 s10 hl h3 h6]
  by_cases h : rd l (3 * s6) = s1
  · rw [if_pos h, if_pos h]
    by_cases h1 : s0 = 1
    · rw [if_pos h1, if_pos h1]
    · rw [if_neg h1, if_neg h1]
      by_cases h2 : s0 = 2
      · rw [if_pos h2, if_pos h2]
      · rw [if_neg h2, if_neg h2]
  · rw [if_neg h, if_neg h]; rfl
theorem specLook_eq (hl : l.length = 63) (h5 : 0 ≤ s5 ∧ s5 ≤ 20) (h6 : 0 ≤ s6 ∧ s6 ≤ 20) (h7 : 0 ≤ s7 ∧ s7 ≤ 20) : spec_l06Look.f l s0 s1 s2 s3 s4 s5 s6 s7 s8 s9 s10 = some (lookM l s0 s1 s2 s3 s4 s5 s6 s7 s8 s9 s10) := by
  unfold spec_l06Look.f lookM
  rw [w64 (n := 2 * s6) (by omega) (by omega), w64 (n := 2 * s7) (by omega) (by omega), w64 (n := 3 * s6) (by omega) (by omega), specSwap_eq l hl s5 _ _ h5.1 h5.2, Option.bind_some, if_pos (show 0 ≤ 3 * s6 by omega), if_pos (show 3 * s6 < (l.length : Int) by omega)]
  by_cases h : s8 = 1
  · rw [if_pos h, if_pos h]
    by_cases h1 : (swapM l s5 (2 * s6) (2 * s7)).1 = true
    · rw [if_pos h1, if_pos h1]
    · rw [if_neg h1, if_neg h1]
  · rw [if_neg h, if_neg h]
    by_cases h1 : rd l (3 * s6) < s1
    · rw [if_pos h1, if_pos h1]
    · rw [if_neg h1, if_neg h1]
theorem specStep_eq (hl : l.length = 63) (hc : ∀ x ∈ l, 0 ≤ x ∧ x ≤ 1000000000) (hok : taskOkP s0 s1 s2 s3 s4 s5 s6 s7 s8) : spec_l06Step.f l s0 s1 s2 s3 s4 s5 s6 s7 s8 s9 s10 = some (stepM l s0 s1 s2 s3 s4 s5 s6 s7 s8 s9 s10) := by
  obtain ⟨h0, h1, h2, h3, h4, h5, h6, h7, h8⟩ := hok
  have r0 := cell_range l hl hc 0 (by omega) (by omega)
  have rw6 := cellW_range s6 h6.1 h6.2
  have r6 := cell_range l hl hc (cellW s6) rw6.1 rw6.2
  unfold spec_l06Step.f stepM
  rw [specNode_eq _ (by omega), specNobody_eq l s0 s1 s2 s3 s4 s5 s6 s7 s8 s9 s10 hl h3 h6, specWord_c s6 h6.1 h6.2, specLook_eq l s0 s1 s2 s3 s4 s5 s6 s7 s8 s9 s10 hl h5 h6 h7, specFound_eq l s0 s1 s2 s3 s4 s5 s6 s7 s8 s9 s10 hl hc h3 h6,
    w64 (n := 2 * s6) (by omega) (by omega), w64 (n := 2 * s3) (by omega) (by omega), w64 (n := 2 * s7) (by omega) (by omega), w64 (n := 2 * s7 + 1) (by omega) (by omega), specSwap_eq l hl s5 _ _ h5.1 h5.2, specSwap_eq l hl s6 _ _ h6.1 h6.2, specSwap_eq l hl s5 _ _ h5.1 h5.2]
  simp only [Option.bind_some]
  rw [specNode_eq _ (by omega), if_pos (show 0 < (l.length : Int) by omega), if_pos rw6.1, if_pos (show cellW s6 < (l.length : Int) by omega), Int.tmod_eq_emod_of_nonneg r6.1]
  simp only [Option.bind_some]
  repeat' split
  all_goals rfl
theorem implWalk_ev (hl : l.length = 63) (hc : ∀ x ∈ l, 0 ≤ x ∧ x ≤ 1000000000) (hok : taskOkP s0 s1 s2 s3 s4 s5 s6 s7 s8) (h34 : s4 < 3) : Ev (fun k => impl_Task_walk.f k s0 s1 s2 s3 s4 s5 s6 s7 s8 s9 s10 l) (stepM l s0 s1 s2 s3 s4 s5 s6 s7 s8 s9 s10) := by
  obtain ⟨h0, h1, h2, h3, h4, h5, h6, h7, h8⟩ := hok
  have rw6 := cellW_range s6 h6.1 h6.2
  have r6 := cell_range l hl hc (cellW s6) rw6.1 rw6.2
  have hbit : Go.bits .and .i64 (rd l (cellW s6)) 1 = rd l (cellW s6) % 2 := and1 _
  have hj : ∀ b : Bool, (b = true ↔ s4 = 1 ∧ s6 = 0) → (s4 = 1 ∨ s4 = 2) → Ev (fun k => impl_Task_walk.j0 k l b s0 s1 s2 s3 s4 s5 s6 s7 s8 s9 s10) (stepM l s0 s1 s2 s3 s4 s5 s6 s7 s8 s9 s10) := by
    intro b hb h12
    refine Ev.step (fun _ => impl_Task_walk.j0.eq_2 ..) (Ev.ite (fun hbt => ?_) (fun hbt => Ev.ite (fun e1 => ?_) (fun e1 => Ev.ite (fun e8 => ?_) (fun e8 => ?_))))
    · obtain ⟨e1, e2⟩ := hb.1 hbt
      unfold stepM
      rw [if_neg (show ¬ s4 = 0 by omega), if_pos e1, if_pos e2]
      exact Ev.call (implNobody_eq l s0 s1 s2 s3 s4 s5 s6 s7 s8 s9 s10 hl h3 h6) (Ev.now _)
    · have e6 : ¬ s6 = 0 := fun e2 => hbt (hb.2 ⟨e1, e2⟩)
      unfold stepM
      rw [if_neg (show ¬ s4 = 0 by omega), if_pos e1, if_neg e6]
      refine Ev.call (implWord_c s6 h6.1 h6.2) (Ev.pos rw6.1 (Ev.pos (by omega) (Ev.call (implNode_eq _) (Ev.some ?_))))
      rw [hbit]
    · unfold stepM lookM
      rw [if_neg (show ¬ s4 = 0 by omega), if_neg e1, if_pos (show s4 = 2 by omega), if_pos e8, w64 (n := 2 * s6) (by omega) (by omega), w64 (n := 2 * s7) (by omega) (by omega)]
      refine Ev.call (implSwap_eq l hl s5 _ _ h5.1 h5.2) (Ev.ite (fun e => Ev.some (by rw [if_pos e])) (fun e => Ev.some (by rw [if_neg e])))
    · unfold stepM lookM
      rw [if_neg (show ¬ s4 = 0 by omega), if_neg e1, if_pos (show s4 = 2 by omega), if_neg e8]
      refine Ev.call (a := 3 * s6) (by unfold impl_keyCell.f; rw [w64 (by omega) (by omega)]) (Ev.pos (by omega) (Ev.pos (by omega) (Ev.ite (fun e => Ev.some (by rw [if_pos e])) (fun e => Ev.some (by rw [if_neg e])))))
  refine Ev.congr (fun _ => impl_Task_walk.f.eq_1 ..) (Ev.ite (fun e0 => ?_) (fun e0 => Ev.ite (fun e1 => ?_) (fun e1 => ?_)))
  · refine Ev.pos (by omega) (Ev.call (implNode_eq _) (Ev.some ?_))
    unfold stepM; rw [if_pos e0]
  · exact hj _ (by simp [e1]) (.inl e1)
  · exact hj false (by simp [e1]) (by omega)
theorem implStep_ev (hl : l.length = 63) (hc : ∀ x ∈ l, 0 ≤ x ∧ x ≤ 1000000000) (hok : taskOkP s0 s1 s2 s3 s4 s5 s6 s7 s8) : Ev (fun k => impl_Task_step.f k s0 s1 s2 s3 s4 s5 s6 s7 s8 s9 s10 l) (stepM l s0 s1 s2 s3 s4 s5 s6 s7 s8 s9 s10) := by
  have hok' := hok
  obtain ⟨h0, h1, h2, h3, h4, h5, h6, h7, h8⟩ := hok
  refine Ev.congr (fun _ => impl_Task_step.f.eq_1 ..) (Ev.ite (fun e3 => ?_) (fun e3 => Ev.ite (fun e4 => ?_) (fun e4 => Ev.ite (fun e5 => ?_) (fun e5 => Ev.ite (fun e6 => ?_) (fun e6 => ?_)))))
  · refine Ev.call (implFound_eq l s0 s1 s2 s3 s4 s5 s6 s7 s8 s9 s10 hl hc h3 h6) (Ev.some ?_)
    unfold stepM; rw [if_neg (by omega), if_neg (by omega), if_neg (by omega), if_pos e3]
  · rw [w64 (n := 2 * s6) (by omega) (by omega), w64 (n := 2 * s3) (by omega) (by omega)]
    unfold stepM
    rw [if_neg (by omega), if_neg (by omega), if_neg (by omega), if_neg e3, if_pos e4]
    exact Ev.call (implSwap_eq l hl s5 _ _ h5.1 h5.2) (Ev.ite (fun e => Ev.call rfl (Ev.some (by rw [if_pos e]))) (fun e => Ev.some (by rw [if_neg e])))
  · rw [w64 (n := 2 * s7) (by omega) (by omega), w64 (n := 2 * s7 + 1) (by omega) (by omega)]
    unfold stepM
    rw [if_neg (by omega), if_neg (by omega), if_neg (by omega), if_neg e3, if_neg e4, if_pos e5]
    exact Ev.call (implSwap_eq l hl s6 _ _ h6.1 h6.2) (Ev.ite (fun e => Ev.some (by rw [if_pos e])) (fun e => Ev.some (by rw [if_neg e])))
  · rw [w64 (n := 2 * s6) (by omega) (by omega), w64 (n := 2 * s7) (by omega) (by omega)]
    unfold stepM
    rw [if_neg (by omega), if_neg (by omega), if_neg (by omega), if_neg e3, if_neg e4, if_neg e5]
    exact Ev.call (implSwap_eq l hl s5 _ _ h5.1 h5.2) (Ev.call rfl (Ev.now _))
  · exact Ev.bind (implWalk_ev l s0 s1 s2 s3 s4 s5 s6 s7 s8 s9 s10 hl hc hok' (by omega)) (Ev.now _)
end
def ST : Type := List Int × Int × Int × Int × Int × Int × Int × Int × Int × Int × Bool × Int
def turnT (t : TT) : List Int × Int × Int × Int × Int × Int × Int × Int × Int × Int × Bool × Int := (t.2.2.2.2.2.2.2.2.2.2.2, t.1, t.2.1, t.2.2.1, t.2.2.2.1, t.2.2.2.2.1, t.2.2.2.2.2.1, t.2.2.2.2.2.2.1, t.2.2.2.2.2.2.2.1, t.2.2.2.2.2.2.2.2.1, t.2.2.2.2.2.2.2.2.2.1, t.2.2.2.2.2.2.2.2.2.2.1)
def cellsP (l : List Int) : Prop := l.length = 63 ∧ ∀ x ∈ l, 0 ≤ x ∧ x ≤ 1000000000
instance (l : List Int) : Decidable (cellsP l) := by unfold cellsP; exact inferInstance
def stepTM (l : List Int) (s0 s1 s2 s3 s4 s5 s6 s7 s8 : Int) (s9 : Bool) (s10 : Int) : List Int × Int × Int × Int × Int × Int × Int × Int × Int × Int × Bool × Int :=
  if s9 = false ∧ taskOkP s0 s1 s2 s3 s4 s5 s6 s7 s8 ∧ cellsP l then turnT (stepM l s0 s1 s2 s3 s4 s5 s6 s7 s8 s9 s10) else (l, s0, s1, s2, s3, s4, s5, s6, s7, s8, s9, s10)
theorem specStepTask_ev (l : List Int) (hl : l.length ≤ 1048576) (s0 s1 s2 s3 s4 s5 s6 s7 s8 : Int) (s9 : Bool) (s10 : Int) : Ev (fun k => spec_StepTask.f k l s0 s1 s2 s3 s4 s5 s6 s7 s8 s9 s10) (stepTM l s0 s1 s2 s3 s4 s5 s6 s7 s8 s9 s10) := by
  unfold stepTM
  refine Ev.congr (fun _ => spec_StepTask.f.eq_1 ..) (Ev.call rfl (Ev.pos (by simp; omega) (Ev.call rfl (Ev.ite (fun h9 => Ev.some ?_) (fun h9 => Ev.call (specTaskOk_eq ..) (Ev.ite (fun hok => Ev.ite (fun h63 => Ev.bind (specCellsOk_ev l (by omega)) (Ev.ite (fun hc => ?_) (fun hc => Ev.some ?_))) (fun h63 => Ev.some ?_)) (fun hok => Ev.some ?_)))))))
  · rw [if_neg (fun h => by rw [h.1] at h9; simp at h9), List.nil_append]
  · have hok' := of_decide_eq_true hok
    have hc' := of_decide_eq_true hc
    have hl63 : l.length = 63 := by omega
    rw [if_pos ⟨by simpa using h9, hok', hl63, hc'.1⟩]
    exact Ev.call (specStep_eq l s0 s1 s2 s3 s4 s5 s6 s7 s8 s9 s10 hl63 hc'.1 hok') (Ev.now _)
  · rw [if_neg (fun h => hc (decide_eq_true ⟨h.2.2.2, by omega, by omega⟩)), List.nil_append]
  · rw [if_neg (fun h => h63 (by have := h.2.2.1; omega)), List.nil_append]
  · rw [if_neg (fun h => hok (decide_eq_true h.2.1)), List.nil_append]
theorem implStepTask_ev (l : List Int) (hl : l.length ≤ 1048576) (s0 s1 s2 s3 s4 s5 s6 s7 s8 : Int) (s9 : Bool) (s10 : Int) : Ev (fun k => impl_StepTask.f k l s0 s1 s2 s3 s4 s5 s6 s7 s8 s9 s10) (stepTM l s0 s1 s2 s3 s4 s5 s6 s7 s8 s9 s10) := by
  have hcp : impl_copyInts.f l = some l := by unfold impl_copyInts.f; rw [Option.bind_some, if_pos (by simp; omega)]; rfl
  unfold stepTM
  refine Ev.congr (fun _ => impl_StepTask.f.eq_1 ..) (Ev.call hcp (Ev.ite (fun h9 => Ev.some ?_) (fun h9 => Ev.bind (implTaskOk_ev ..) (Ev.ite (fun hok => Ev.ite (fun h63 => Ev.bind (implCellsOk_ev l (by omega)) (Ev.ite (fun hc => ?_) (fun hc => Ev.some ?_))) (fun h63 => Ev.some ?_)) (fun hok => Ev.some ?_)))))
  · rw [if_neg (fun h => by rw [h.1] at h9; simp at h9)]
  · have hok' := of_decide_eq_true hok
    have hc' := of_decide_eq_true hc
    have hl63 : l.length = 63 := by omega
    rw [if_pos ⟨by simpa using h9, hok', hl63, hc'.1⟩]
    exact Ev.bind (implStep_ev l s0 s1 s2 s3 s4 s5 s6 s7 s8 s9 s10 hl63 hc'.1 hok') (Ev.now _)
  · rw [if_neg (fun h => hc (decide_eq_true ⟨h.2.2.2, by omega, by omega⟩))]
  · rw [if_neg (fun h => h63 (by have := h.2.2.1; omega))]
  · rw [if_neg (fun h => hok (decide_eq_true h.2.1))]
theorem stepM_len (l : List Int) (s0 s1 s2 s3 s4 s5 s6 s7 s8 : Int) (s9 : Bool) (s10 : Int) : (turnT (stepM l s0 s1 s2 s3 s4 s5 s6 s7 s8 s9 s10)).1.length = l.length := by
  have hsw : ∀ n a b, (swapM l n a b).2.length = l.length := fun n a b => by unfold swapM; split <;> simp
  have hnb : (nobodyM l s0 s1 s2 s3 s4 s5 s6 s7 s8 s9 s10).2.2.2.2.2.2.2.2.2.2.2.length = l.length := by unfold nobodyM; split <;> simp
  unfold turnT stepM lookM foundM
  repeat' split
  all_goals first | exact hsw _ _ _ | exact hnb | rfl
theorem stepTM_len (l : List Int) (s0 s1 s2 s3 s4 s5 s6 s7 s8 : Int) (s9 : Bool) (s10 : Int) : (stepTM l s0 s1 s2 s3 s4 s5 s6 s7 s8 s9 s10).1.length = l.length := by
  unfold stepTM; split
  · exact stepM_len ..
  · rfl
theorem eqTask_self (s0 s1 s2 s3 s4 s5 s6 s7 s8 : Int) (s9 : Bool) (s10 : Int) : laws_eqTask.f s0 s1 s2 s3 s4 s5 s6 s7 s8 s9 s10 s0 s1 s2 s3 s4 s5 s6 s7 s8 s9 s10 = some true := by
  unfold laws_eqTask.f; simp
theorem FnExactStepTask : laws_FnExactStepTask.Pure := by
  intro l s0 s1 s2 s3 s4 s5 s6 s7 s8 s9 s10 _ _ _ _ _ _ _ _ _ _ _
  apply Ev.rounds
  refine Ev.congr (fun _ => laws_FnExactStepTask.f.eq_1 ..) (Ev.ite (fun _ => Ev.now _) (fun h => ?_))
  have hn : l.length ≤ 1048576 := by omega
  have ht := toIntS_ev l (by omega)
  have hs := specStepTask_ev l hn s0 s1 s2 s3 s4 s5 s6 s7 s8 s9 s10
  have hi := implStepTask_ev l hn s0 s1 s2 s3 s4 s5 s6 s7 s8 s9 s10
  have hl := stepTM_len l s0 s1 s2 s3 s4 s5 s6 s7 s8 s9 s10
  generalize stepTM l s0 s1 s2 s3 s4 s5 s6 s7 s8 s9 s10 = M at hs hi hl
  have he := eqIntS_self M.1 (by omega)
  obtain ⟨hm, hh⟩ := mark_held M.1 (by omega)
  refine Ev.bind ht (Ev.call rfl (Ev.bind hs (Ev.bind ht (Ev.call rfl (Ev.bind hi (Ev.bind he (Ev.pos rfl (Ev.call (eqTask_self ..) ?_))))))))
  refine Ev.step (fun _ => laws_FnExactStepTask.j0.eq_2 ..) (Ev.neg (by simp) (Ev.bind ht (Ev.bind (eqIntS_self l (by omega)) (Ev.pos rfl (Ev.bind (mark_held l (by omega)).1 (Ev.neg (by show ¬ 1 + (l.length : Int) < 0; omega) (Ev.bind he (Ev.pos rfl (Ev.call (eqTask_self ..) ?_)))))))))
  refine Ev.step (fun _ => laws_FnExactStepTask.j1.eq_2 ..) (Ev.neg (by simp) (Ev.bind hm (Ev.bind hh (Ev.neg (by omega) (Ev.pos rfl (Ev.bind ht (Ev.call rfl (Ev.bind hi (Ev.bind he (Ev.pos rfl (Ev.call (eqTask_self ..) ?_)))))))))))
  exact Ev.step (fun _ => laws_FnExactStepTask.j2.eq_2 ..) (Ev.neg (by simp) (Ev.bind hh (Ev.neg (by omega) (Ev.pos rfl (Ev.now _)))))

end Go.Proofs.Ytjmggbhgmenmcaa.Pure
