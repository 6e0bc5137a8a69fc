/- FnExactTaskOk returns true for all arguments: the program's TaskOk answers what the reference's answers. No conditions beyond the statement's own. -/
import Derived.Test.YtjommjfpjmhehaaQtx2
import Derived.Test.YtjommjfpjmhehaaBase
namespace Go.Proofs.Ytjommjfpjmhehaa.Pure
open Go.RowKit Go.Proofs.Ytjommjfpjmhehaa.Qt Go.Proofs.YtjommjfpjmhehaaW.PrintWords Go.Proofs.YtjommjfpjmhehaaW.PrintLast Go.Proofs.YtjommjfpjmhehaaW.PrintMore Go.Proofs.Ytjommjfpjmhehaa.Base

theorem l01In_eq (n lo hi : Int) : spec_l01In.f n lo hi = some (decide (lo ≤ n ∧ n ≤ hi)) := by
  unfold spec_l01In.f
  by_cases h : n ≥ lo
  · rw [if_pos h]; congr 1; rw [decide_eq_decide]; exact ⟨fun h2 => ⟨h, h2⟩, fun h2 => h2.2⟩
  · rw [if_neg h]; congr 1; symm; rw [decide_eq_false_iff_not]; exact fun h2 => h h2.1
theorem within_eq (n lo hi : Int) : impl_within.f n lo hi = some (decide (lo ≤ n ∧ n ≤ hi)) := by
  unfold impl_within.f
  by_cases h : n ≥ lo
  · rw [if_pos h]; congr 1; rw [decide_eq_decide]; exact ⟨fun h2 => ⟨h, h2⟩, fun h2 => h2.2⟩
  · rw [if_neg h]; congr 1; symm; rw [decide_eq_false_iff_not]; exact fun h2 => h h2.1
theorem ite_dec (p q : Prop) [Decidable p] [Decidable q] : (if decide p = true then some (decide q) else some false) = some (decide (p ∧ q)) := by
  by_cases hp : p <;> by_cases hq : q <;> simp [hp, hq]
def taskOkP (a0 a1 a2 a3 a4 a5 a6 a7 a8 : Int) : Prop := (1 ≤ a0 ∧ a0 ≤ 3) ∧ (1 ≤ a1 ∧ a1 ≤ 99) ∧ (0 ≤ a2 ∧ a2 ≤ 99) ∧ (1 ≤ a3 ∧ a3 ≤ 20) ∧ (0 ≤ a4 ∧ a4 ≤ 6) ∧ (0 ≤ a5 ∧ a5 ≤ 20) ∧ (0 ≤ a6 ∧ a6 ≤ 20) ∧ (0 ≤ a7 ∧ a7 ≤ 20) ∧ (0 ≤ a8 ∧ a8 ≤ 1)
instance (a0 a1 a2 a3 a4 a5 a6 a7 a8 : Int) : Decidable (taskOkP a0 a1 a2 a3 a4 a5 a6 a7 a8) := by unfold taskOkP; exact inferInstance
theorem specTaskOk_eq (a0 a1 a2 a3 a4 a5 a6 a7 a8 : Int) (a9 : Bool) (a10 : Int) : spec_TaskOk.f a0 a1 a2 a3 a4 a5 a6 a7 a8 a9 a10 = some (decide (taskOkP a0 a1 a2 a3 a4 a5 a6 a7 a8)) := by
  unfold spec_TaskOk.f
  simp only [l01In_eq, Option.bind_some, ite_dec]
  rfl
theorem implTaskOk_j0 (b : Bool) (a0 a1 a2 a3 a4 a5 a6 a7 a8 : Int) (a9 : Bool) (a10 : Int) :
    Ev (fun k => impl_TaskOk.j0 k b a0 a1 a2 a3 a4 a5 a6 a7 a8 a9 a10) (b && decide ((0 ≤ a4 ∧ a4 ≤ 6) ∧ (0 ≤ a5 ∧ a5 ≤ 20) ∧ (0 ≤ a6 ∧ a6 ≤ 20) ∧ (0 ≤ a7 ∧ a7 ≤ 20) ∧ (0 ≤ a8 ∧ a8 ≤ 1))) := by
  refine Ev.step (fun _ => impl_TaskOk.j0.eq_2 ..) (Ev.plain ?_)
  simp only [within_eq, Option.bind_some]
  by_cases h4 : 0 ≤ a4 ∧ a4 ≤ 6 <;> by_cases h5 : 0 ≤ a5 ∧ a5 ≤ 20 <;> by_cases h6 : 0 ≤ a6 ∧ a6 ≤ 20 <;> by_cases h7 : 0 ≤ a7 ∧ a7 ≤ 20 <;> by_cases h8 : 0 ≤ a8 ∧ a8 ≤ 1 <;> cases b <;> simp [h4, h5, h6, h7, h8]
theorem implTaskOk_ev (a0 a1 a2 a3 a4 a5 a6 a7 a8 : Int) (a9 : Bool) (a10 : Int) : Ev (fun k => impl_TaskOk.f k a0 a1 a2 a3 a4 a5 a6 a7 a8 a9 a10) (decide (taskOkP a0 a1 a2 a3 a4 a5 a6 a7 a8)) := by
  refine Ev.congr (fun _ => impl_TaskOk.f.eq_1 ..) ?_
  have no : ∀ p : Prop, ∀ [Decidable p], ¬ p → Ev (fun k => impl_TaskOk.j0 k false a0 a1 a2 a3 a4 a5 a6 a7 a8 a9 a10) (decide p) := fun p _ hp =>
    Ev.eq (implTaskOk_j0 false a0 a1 a2 a3 a4 a5 a6 a7 a8 a9 a10) (by rw [decide_eq_false hp]; rfl)
  refine Ev.call (within_eq ..) ?_
  by_cases h0 : 1 ≤ a0 ∧ a0 ≤ 3
  · refine Ev.pos (by rw [decide_eq_true h0]) (Ev.call (within_eq ..) ?_)
    by_cases h1 : 1 ≤ a1 ∧ a1 ≤ 99
    · refine Ev.pos (by rw [decide_eq_true h1]) (Ev.call (within_eq ..) ?_)
      by_cases h2 : 0 ≤ a2 ∧ a2 ≤ 99
      · refine Ev.pos (by rw [decide_eq_true h2]) (Ev.call (within_eq ..) (Ev.eq (implTaskOk_j0 _ a0 a1 a2 a3 a4 a5 a6 a7 a8 a9 a10) ?_))
        rw [← Bool.decide_and]
        apply decide_eq_decide.2
        unfold taskOkP
        exact ⟨fun h => ⟨h0, h1, h2, h⟩, fun h => h.2.2.2⟩
      · exact Ev.neg (by rw [decide_eq_false h2]; simp) (no _ (fun h => h2 h.2.2.1))
    · exact Ev.neg (by rw [decide_eq_false h1]; simp) (no _ (fun h => h1 h.2.1))
  · exact Ev.neg (by rw [decide_eq_false h0]; simp) (no _ (fun h => h0 h.1))
theorem FnExactTaskOk : laws_FnExactTaskOk.Pure := by
  intro a0 a1 a2 a3 a4 a5 a6 a7 a8 a9 a10 _ _ _ _ _ _ _ _ _ _
  apply Ev.rounds
  refine Ev.congr (fun _ => laws_FnExactTaskOk.f.eq_1 ..) (Ev.call rfl (Ev.call (specTaskOk_eq ..) (Ev.call rfl (Ev.bind (implTaskOk_ev ..) (Ev.neg (by simp) (Ev.now _))))))

end Go.Proofs.Ytjommjfpjmhehaa.Pure
