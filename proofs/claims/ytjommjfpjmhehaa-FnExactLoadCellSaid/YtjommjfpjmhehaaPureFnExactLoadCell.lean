/- FnExactLoadCell returns true for all arguments: the program's LoadCell answers what the reference's answers, and leaves the list as it is. No conditions beyond the statement's own. -/
import Derived.Test.YtjommjfpjmhehaaQax1
import Derived.Test.YtjommjfpjmhehaaBase
namespace Go.Proofs.Ytjommjfpjmhehaa.Pure
open Go.RowKit Go.Proofs.Ytjommjfpjmhehaa.Qa Go.Proofs.YtjommjfpjmhehaaW.PrintWords Go.Proofs.YtjommjfpjmhehaaW.PrintLast Go.Proofs.YtjommjfpjmhehaaW.PrintMore Go.Proofs.Ytjommjfpjmhehaa.Base

theorem eqIntS_l0 (a b : List Int) (hlen : a.length = b.length) (hn : a.length ≤ 140737488355328) (d : Nat) :
    ∀ i : Nat, i + d = a.length → Ev (fun k => laws_eqIntS.l0 k a b (i : Int)) (decide (a.drop i = b.drop i)) := by
  induction d with
  | zero =>
    intro i hi
    refine Ev.step (fun _ => laws_eqIntS.l0.eq_2 ..) ?_
    refine Ev.neg (by omega) (Ev.some ?_)
    rw [List.drop_eq_nil_of_le (by omega), List.drop_eq_nil_of_le (by omega)]; rfl
  | succ d ih =>
    intro i hi
    refine Ev.step (fun _ => laws_eqIntS.l0.eq_2 ..) ?_
    refine Ev.pos (by omega) (Ev.pos (by omega) (Ev.pos (by omega) ?_))
    rw [rd_nat a i (by omega), rd_nat b i (by omega), w64_succ i (by omega), drop_eq_iff a b i (by omega) (by omega)]
    refine Ev.ite (fun h => ?_) (fun h => ?_)
    · rw [decide_eq_true h, Bool.true_and]; exact ih (i + 1) (by omega)
    · rw [decide_eq_false h]; exact Ev.now _
theorem eqIntS_ev (a b : List Int) (hn : a.length ≤ 140737488355328) : Ev (fun k => laws_eqIntS.f k a b) (decide (a = b)) := by
  refine Ev.congr (fun _ => laws_eqIntS.f.eq_1 ..) (Ev.ite (fun h => ?_) (fun h => ?_))
  · exact eqIntS_l0 a b (by omega) hn a.length 0 (by omega)
  · rw [decide_eq_false (fun e => h (by rw [e]))]; exact Ev.now _
theorem eqIntS_self (a : List Int) (hn : a.length ≤ 140737488355328) : Ev (fun k => laws_eqIntS.f k a a) true := by
  have h := eqIntS_ev a a hn
  rwa [decide_eq_true rfl] at h
theorem toIntS_l0 (a : List Int) (hn : a.length ≤ 140737488355328) (d : Nat) :
    ∀ i : Nat, i + d = a.length → Ev (fun k => laws_toIntS.l0 k a (a.take i ++ List.replicate (a.length - i) 0) (i : Int)) a := by
  induction d with
  | zero =>
    intro i hi
    refine Ev.step (fun _ => laws_toIntS.l0.eq_2 ..) ?_
    refine Ev.neg (by omega) (Ev.some ?_)
    rw [show a.length - i = 0 from by omega, List.take_of_length_le (by omega)]; simp
  | succ d ih =>
    intro i hi
    refine Ev.step (fun _ => laws_toIntS.l0.eq_2 ..) ?_
    refine Ev.pos (by omega) (Ev.pos (by omega) (Ev.pos (by simp; omega) ?_))
    rw [rd_nat a i (by omega), w64_succ i (by omega), Int.toNat_natCast, take_set_replicate a 0 i (by omega)]
    exact ih (i + 1) (by omega)
theorem toIntS_ev (a : List Int) (hn : a.length ≤ 35184372088832) : Ev (fun k => laws_toIntS.f k a) a := by
  refine Ev.congr (fun _ => laws_toIntS.f.eq_1 ..) (Ev.pos (by omega) (Ev.pos (by omega) ?_))
  have h := toIntS_l0 a (by omega) a.length 0 (by omega)
  simpa using h
theorem l01In_eq (n lo hi : Int) : spec_l01In.f n lo hi = some (decide (lo ≤ n ∧ n ≤ hi)) := by
  unfold spec_l01In.f
  by_cases h : n ≥ lo
  · rw [if_pos h]; congr 1; rw [decide_eq_decide]; exact ⟨fun h2 => ⟨h, h2⟩, fun h2 => h2.2⟩
  · rw [if_neg h]; congr 1; symm; rw [decide_eq_false_iff_not]; exact fun h2 => h h2.1
theorem within_eq (n lo hi : Int) : impl_within.f n lo hi = some (decide (lo ≤ n ∧ n ≤ hi)) := by
  unfold impl_within.f
  by_cases h : n ≥ lo
  · rw [if_pos h]; congr 1; rw [decide_eq_decide]; exact ⟨fun h2 => ⟨h, h2⟩, fun h2 => h2.2⟩
  · rw [if_neg h]; congr 1; symm; rw [decide_eq_false_iff_not]; exact fun h2 => h h2.1
theorem specLoadCell_eq (l : List Int) (i : Int) (hn : l.length ≤ 140737488355328) : spec_LoadCell.f l i = some (if 0 ≤ i ∧ i < l.length then (rd l i, true) else (0, false)) := by
  unfold spec_LoadCell.f
  rw [l01In_eq, Option.bind_some, w64 (by omega) (by omega)]
  by_cases h : 0 ≤ i ∧ i < (l.length : Int)
  · rw [decide_eq_true (by omega), if_pos rfl, if_pos h.1, if_pos h.2, if_pos h]
  · rw [decide_eq_false (by omega), if_neg (by simp), if_neg h]
theorem implIsPlace_eq (l : List Int) (i : Int) (hn : l.length ≤ 140737488355328) : impl_isPlace.f l i = some (decide (0 ≤ i ∧ i < l.length)) := by
  unfold impl_isPlace.f
  rw [within_eq, Option.bind_some, w64 (by omega) (by omega)]
  congr 1
  rw [decide_eq_decide]; omega
theorem implLoadCell_eq (l : List Int) (i : Int) (hn : l.length ≤ 140737488355328) : impl_LoadCell.f l i = some (if 0 ≤ i ∧ i < l.length then (rd l i, true) else (0, false)) := by
  unfold impl_LoadCell.f
  rw [implIsPlace_eq l i hn, Option.bind_some]
  by_cases h : 0 ≤ i ∧ i < (l.length : Int)
  · rw [decide_eq_true h, if_pos rfl, if_pos h.1, if_pos h.2, if_pos h]
  · rw [decide_eq_false h, if_neg (by simp), if_neg h]
theorem FnExactLoadCell : laws_FnExactLoadCell.Pure := by
  intro l i _ _ _ _
  apply Ev.rounds
  refine Ev.congr (fun _ => laws_FnExactLoadCell.f.eq_1 ..) (Ev.ite (fun _ => Ev.now _) (fun h => ?_))
  have ht := toIntS_ev l (by omega)
  refine Ev.bind ht (Ev.call (specLoadCell_eq l i (by omega)) (Ev.bind ht (Ev.call (implLoadCell_eq l i (by omega)) (Ev.pos rfl ?_))))
  rw [bne_self_eq_false]
  refine Ev.step (fun _ => laws_FnExactLoadCell.j0.eq_2 ..) (Ev.neg (by simp) (Ev.bind ht (Ev.bind (eqIntS_self l (by omega)) (Ev.pos rfl (Ev.now _)))))

end Go.Proofs.Ytjommjfpjmhehaa.Pure
