/- FnExactCellsOk returns true for all arguments: the program's CellsOk answers what the reference's answers, and leaves the list as it is. No conditions beyond the statement's own. -/
import Derived.Test.YtjommjfpjmhehaaQax2
import Derived.Test.YtjommjfpjmhehaaBase
namespace Go.Proofs.Ytjommjfpjmhehaa.Pure
open Go.RowKit Go.Proofs.Ytjommjfpjmhehaa.Qa Go.Proofs.YtjommjfpjmhehaaW.PrintWords Go.Proofs.YtjommjfpjmhehaaW.PrintLast Go.Proofs.YtjommjfpjmhehaaW.PrintMore Go.Proofs.Ytjommjfpjmhehaa.Base

theorem eqIntS_l0 (a b : List Int) (hlen : a.length = b.length) (hn : a.length ≤ 140737488355328) (d : Nat) :
    ∀ i : Nat, i + d = a.length → Ev (fun k => laws_eqIntS.l0 k a b (i : Int)) (decide (a.drop i = b.drop i)) := by
  induction d with
  | zero =>
    intro i hi
    refine Ev.step (fun _ => laws_eqIntS.l0.eq_2 ..) ?_
    refine Ev.neg (by omega) (Ev.some ?_)
    rw [List.drop_eq_nil_of_le (by omega), List.drop_eq_nil_of_le (by omega)]; rfl
  | succ d ih =>
    intro i hi
    refine Ev.step (fun _ => laws_eqIntS.l0.eq_2 ..) ?_
    refine Ev.pos (by omega) (Ev.pos (by omega) (Ev.pos (by omega) ?_))
    rw [rd_nat a i (by omega), rd_nat b i (by omega), w64_succ i (by omega), drop_eq_iff a b i (by omega) (by omega)]
    refine Ev.ite (fun h => ?_) (fun h => ?_)
    · rw [decide_eq_true h, Bool.true_and]; exact ih (i + 1) (by omega)
    · rw [decide_eq_false h]; exact Ev.now _
theorem eqIntS_ev (a b : List Int) (hn : a.length ≤ 140737488355328) : Ev (fun k => laws_eqIntS.f k a b) (decide (a = b)) := by
  refine Ev.congr (fun _ => laws_eqIntS.f.eq_1 ..) (Ev.ite (fun h => ?_) (fun h => ?_))
  · exact eqIntS_l0 a b (by omega) hn a.length 0 (by omega)
  · rw [decide_eq_false (fun e => h (by rw [e]))]; exact Ev.now _
theorem eqIntS_self (a : List Int) (hn : a.length ≤ 140737488355328) : Ev (fun k => laws_eqIntS.f k a a) true := by
  have h := eqIntS_ev a a hn
  rwa [decide_eq_true rfl] at h
theorem toIntS_l0 (a : List Int) (hn : a.length ≤ 140737488355328) (d : Nat) :
    ∀ i : Nat, i + d = a.length → Ev (fun k => laws_toIntS.l0 k a (a.take i ++ List.replicate (a.length - i) 0) (i : Int)) a := by
  induction d with
  | zero =>
    intro i hi
    refine Ev.step (fun _ => laws_toIntS.l0.eq_2 ..) ?_
    refine Ev.neg (by omega) (Ev.some ?_)
    rw [show a.length - i = 0 from by omega, List.take_of_length_le (by omega)]; simp
  | succ d ih =>
    intro i hi
    refine Ev.step (fun _ => laws_toIntS.l0.eq_2 ..) ?_
    refine Ev.pos (by omega) (Ev.pos (by omega) (Ev.pos (by simp; omega) ?_))
    rw [rd_nat a i (by omega), w64_succ i (by omega), Int.toNat_natCast, take_set_replicate a 0 i (by omega)]
    exact ih (i + 1) (by omega)
theorem toIntS_ev (a : List Int) (hn : a.length ≤ 35184372088832) : Ev (fun k => laws_toIntS.f k a) a := by
  refine Ev.congr (fun _ => laws_toIntS.f.eq_1 ..) (Ev.pos (by omega) (Ev.pos (by omega) ?_))
  have h := toIntS_l0 a (by omega) a.length 0 (by omega)
  simpa using h
theorem l01In_eq (n lo hi : Int) : spec_l01In.f n lo hi = some (decide (lo ≤ n ∧ n ≤ hi)) := by
  unfold spec_l01In.f
  by_cases h : n ≥ lo
  · rw [if_pos h]; congr 1; rw [decide_eq_decide]; exact ⟨fun h2 => ⟨h, h2⟩, fun h2 => h2.2⟩
  · rw [if_neg h]; congr 1; symm; rw [decide_eq_false_iff_not]; exact fun h2 => h h2.1
theorem within_eq (n lo hi : Int) : impl_within.f n lo hi = some (decide (lo ≤ n ∧ n ≤ hi)) := by
  unfold impl_within.f
  by_cases h : n ≥ lo
  · rw [if_pos h]; congr 1; rw [decide_eq_decide]; exact ⟨fun h2 => ⟨h, h2⟩, fun h2 => h2.2⟩
  · rw [if_neg h]; congr 1; symm; rw [decide_eq_false_iff_not]; exact fun h2 => h h2.1
theorem specCellsOk_l0 (l : List Int) (hn : l.length ≤ 140737488355328) (d : Nat) :
    ∀ i : Nat, i + d = l.length → Ev (fun k => spec_CellsOk.l0 k l (i : Int)) (decide ((∀ x ∈ l.drop i, 0 ≤ x ∧ x ≤ 1000000000) ∧ 1 ≤ l.length ∧ l.length ≤ 80)) := by
  induction d with
  | zero =>
    intro i hi
    refine Ev.step (fun _ => spec_CellsOk.l0.eq_2 ..) (Ev.neg (by omega) (Ev.call (l01In_eq ..) (Ev.some ?_)))
    rw [decide_eq_decide, List.drop_eq_nil_of_le (by omega)]
    simp; omega
  | succ d ih =>
    intro i hi
    refine Ev.step (fun _ => spec_CellsOk.l0.eq_2 ..) (Ev.pos (by omega) (Ev.pos (by omega) (Ev.call (l01In_eq ..) ?_)))
    rw [rd_nat l i (by omega), w64_succ i (by omega), List.drop_eq_getElem_cons (i := i) (by omega)]
    by_cases h : 0 ≤ l[i] ∧ l[i] ≤ 1000000000
    · refine Ev.pos (by rw [decide_eq_true h]) (Ev.eq (ih (i + 1) (by omega)) ?_)
      rw [decide_eq_decide, List.forall_mem_cons]; simp only [h, true_and, and_self]
    · refine Ev.neg (by rw [decide_eq_false h]; simp) (Ev.some ?_)
      symm; rw [decide_eq_false_iff_not, List.forall_mem_cons]; exact fun h2 => h h2.1.1
theorem implIsNumber_eq (n : Int) : impl_isNumber.f n = some (decide (0 ≤ n ∧ n ≤ 1000000000)) := by
  unfold impl_isNumber.f; rw [within_eq, Option.bind_some]
theorem implCellsOk_l0 (l : List Int) (hn : l.length ≤ 140737488355328) (d : Nat) :
    ∀ i : Nat, i + d = l.length → Ev (fun k => impl_CellsOk.l0 k l l (l.length : Int) (i : Int)) (decide ((∀ x ∈ l.drop i, 0 ≤ x ∧ x ≤ 1000000000) ∧ 1 ≤ l.length ∧ l.length ≤ 80)) := by
  induction d with
  | zero =>
    intro i hi
    refine Ev.step (fun _ => impl_CellsOk.l0.eq_2 ..) (Ev.neg (by omega) (Ev.call (within_eq ..) (Ev.some ?_)))
    rw [decide_eq_decide, List.drop_eq_nil_of_le (by omega)]
    simp; omega
  | succ d ih =>
    intro i hi
    refine Ev.step (fun _ => impl_CellsOk.l0.eq_2 ..) (Ev.pos (by omega) (Ev.pos (by omega) (Ev.pos (by omega) (Ev.call (implIsNumber_eq ..) ?_))))
    rw [rd_nat l i (by omega), w64_succ i (by omega), List.drop_eq_getElem_cons (i := i) (by omega)]
    by_cases h : 0 ≤ l[i] ∧ l[i] ≤ 1000000000
    · refine Ev.pos (by rw [decide_eq_true h]) (Ev.eq (ih (i + 1) (by omega)) ?_)
      rw [decide_eq_decide, List.forall_mem_cons]; simp only [h, true_and, and_self]
    · refine Ev.neg (by rw [decide_eq_false h]; simp) (Ev.some ?_)
      symm; rw [decide_eq_false_iff_not, List.forall_mem_cons]; exact fun h2 => h h2.1.1
theorem specCellsOk_ev (l : List Int) (hn : l.length ≤ 140737488355328) : Ev (fun k => spec_CellsOk.f k l) (decide ((∀ x ∈ l, 0 ≤ x ∧ x ≤ 1000000000) ∧ 1 ≤ l.length ∧ l.length ≤ 80)) :=
  Ev.congr (fun _ => spec_CellsOk.f.eq_1 ..) (by simpa using specCellsOk_l0 l hn l.length 0 (by omega))
theorem implCellsOk_ev (l : List Int) (hn : l.length ≤ 140737488355328) : Ev (fun k => impl_CellsOk.f k l) (decide ((∀ x ∈ l, 0 ≤ x ∧ x ≤ 1000000000) ∧ 1 ≤ l.length ∧ l.length ≤ 80)) :=
  Ev.congr (fun _ => impl_CellsOk.f.eq_1 ..) (by simpa using implCellsOk_l0 l hn l.length 0 (by omega))
theorem FnExactCellsOk : laws_FnExactCellsOk.Pure := by
  intro l _ _ _
  apply Ev.rounds
  refine Ev.congr (fun _ => laws_FnExactCellsOk.f.eq_1 ..) (Ev.ite (fun _ => Ev.now _) (fun h => ?_))
  have ht := toIntS_ev l (by omega)
  refine Ev.bind ht (Ev.bind (specCellsOk_ev l (by omega)) (Ev.bind ht (Ev.bind (implCellsOk_ev l (by omega)) (Ev.neg (by simp) ?_))))
  exact Ev.bind ht (Ev.bind (eqIntS_self l (by omega)) (Ev.pos rfl (Ev.now _)))

end Go.Proofs.Ytjommjfpjmhehaa.Pure
