/- FnExactListNew returns true: the program's ListNew answers 63 cells of 0, as the reference's does, in new memory. No conditions beyond the statement's own. -/
import Derived.Test.YtjommjfpjmhehaaPFnExactListNewx1
import Derived.Test.YtjommjfpjmhehaaBase
namespace Go.Proofs.Ytjommjfpjmhehaa.Pure
open Go.RowKit Go.Proofs.Ytjommjfpjmhehaa.PFnExactListNew Go.Proofs.YtjommjfpjmhehaaW.PrintWords Go.Proofs.YtjommjfpjmhehaaW.PrintLast Go.Proofs.YtjommjfpjmhehaaW.PrintMore Go.Proofs.Ytjommjfpjmhehaa.Base

theorem eqIntS_l0 (a b : List Int) (hlen : a.length = b.length) (hn : a.length ≤ 140737488355328) (d : Nat) :
    ∀ i : Nat, i + d = a.length → Ev (fun k => laws_eqIntS.l0 k a b (i : Int)) (decide (a.drop i = b.drop i)) := by
  induction d with
  | zero =>
    intro i hi
    refine Ev.step (fun _ => laws_eqIntS.l0.eq_2 ..) ?_
    refine Ev.neg (by omega) (Ev.some ?_)
    rw [List.drop_eq_nil_of_le (by omega), List.drop_eq_nil_of_le (by omega)]; rfl
  | succ d ih =>
    intro i hi
    refine Ev.step (fun _ => laws_eqIntS.l0.eq_2 ..) ?_
    refine Ev.pos (by omega) (Ev.pos (by omega) (Ev.pos (by omega) ?_))
    rw [rd_nat a i (by omega), rd_nat b i (by omega), w64_succ i (by omega), drop_eq_iff a b i (by omega) (by omega)]
    refine Ev.ite (fun h => ?_) (fun h => ?_)
    · rw [decide_eq_true h, Bool.true_and]; exact ih (i + 1) (by omega)
    · rw [decide_eq_false h]; exact Ev.now _
theorem eqIntS_ev (a b : List Int) (hn : a.length ≤ 140737488355328) : Ev (fun k => laws_eqIntS.f k a b) (decide (a = b)) := by
  refine Ev.congr (fun _ => laws_eqIntS.f.eq_1 ..) (Ev.ite (fun h => ?_) (fun h => ?_))
  · exact eqIntS_l0 a b (by omega) hn a.length 0 (by omega)
  · rw [decide_eq_false (fun e => h (by rw [e]))]; exact Ev.now _
theorem eqIntS_self (a : List Int) (hn : a.length ≤ 140737488355328) : Ev (fun k => laws_eqIntS.f k a a) true := by
  have h := eqIntS_ev a a hn
  rwa [decide_eq_true rfl] at h
theorem markIntS_l0 (a : List Int) (m : Int) (h0 : 0 ≤ m) (hm : m + a.length ≤ 9223372036854775807) (d : Nat) :
    ∀ i : Nat, i + d = a.length → Ev (fun k => laws_markIntS.l0 k (marks m i ++ a.drop i) (m + (i : Int)) (i : Int)) (m + (a.length : Int), marks m a.length) := by
  induction d with
  | zero =>
    intro i hi
    refine Ev.step (fun _ => laws_markIntS.l0.eq_2 ..) ?_
    refine Ev.neg (by simp [marks_length]; omega) (Ev.some ?_)
    obtain rfl : i = a.length := by omega
    simp
  | succ d ih =>
    intro i hi
    refine Ev.step (fun _ => laws_markIntS.l0.eq_2 ..) ?_
    refine Ev.pos (by simp [marks_length]; omega) (Ev.pos (by omega) ?_)
    rw [w64_succ i (by omega), Int.toNat_natCast, marks_set m a i (by omega), w64 (by omega) (by omega), Int.add_assoc, show ((i : Int) + 1) = ((i + 1 : Nat) : Int) from by omega]
    exact ih (i + 1) (by omega)
theorem markIntS_ev (a : List Int) (m : Int) (h0 : 0 ≤ m) (hm : m + a.length ≤ 9223372036854775807) : Ev (fun k => laws_markIntS.f k a m) (m + (a.length : Int), marks m a.length) := by
  have h := markIntS_l0 a m h0 hm a.length 0 (by omega)
  refine Ev.congr (fun _ => laws_markIntS.f.eq_1 ..) ?_
  simpa [marks] using h
theorem heldIntS_l0 (n : Nat) (m : Int) (h0 : 0 ≤ m) (hm : m + n ≤ 9223372036854775807) (d : Nat) :
    ∀ i : Nat, i + d = n → Ev (fun k => laws_heldIntS.l0 k (marks m n) (m + (i : Int)) (i : Int)) (m + (n : Int)) := by
  induction d with
  | zero =>
    intro i hi
    refine Ev.step (fun _ => laws_heldIntS.l0.eq_2 ..) ?_
    refine Ev.neg (by rw [marks_length]; omega) (Ev.some ?_)
    omega
  | succ d ih =>
    intro i hi
    refine Ev.step (fun _ => laws_heldIntS.l0.eq_2 ..) ?_
    refine Ev.pos (by rw [marks_length]; omega) (Ev.pos (by omega) ?_)
    rw [rd_nat _ i (by rw [marks_length]; omega), marks_get]
    refine Ev.pos rfl ?_
    rw [w64_succ i (by omega), w64 (by omega) (by omega), Int.add_assoc, show ((i : Int) + 1) = ((i + 1 : Nat) : Int) from by omega]
    exact ih (i + 1) (by omega)
theorem heldIntS_ev (n : Nat) (m : Int) (h0 : 0 ≤ m) (hm : m + n ≤ 9223372036854775807) : Ev (fun k => laws_heldIntS.f k (marks m n) m) (m + (n : Int)) := by
  have h := heldIntS_l0 n m h0 hm n 0 (by omega)
  refine Ev.congr (fun _ => laws_heldIntS.f.eq_1 ..) ?_
  simpa using h
theorem FnExactListNew : laws_FnExactListNew.Pure := by
  apply Ev.rounds
  refine Ev.congr (fun _ => laws_FnExactListNew.f.eq_1 ..) ?_
  have e1 : spec_ListNew.f = some (List.replicate 63 0) := by unfold spec_ListNew.f; rw [if_pos (by omega)]
  have e2 : impl_ListNew.f = some (List.replicate 63 0) := by unfold impl_ListNew.f; rw [if_pos (by omega)]
  have hl : (List.replicate 63 (0 : Int)).length = 63 := List.length_replicate
  refine Ev.call e1 (Ev.call e2 (Ev.bind (eqIntS_self _ (by rw [hl]; omega)) (Ev.pos rfl ?_)))
  refine Ev.bind (markIntS_ev _ 1 (by omega) (by rw [hl]; omega)) ?_
  rw [hl]
  refine Ev.bind (heldIntS_ev 63 1 (by omega) (by omega)) (Ev.neg (by omega) (Ev.pos rfl ?_))
  refine Ev.call e2 (Ev.bind (eqIntS_self _ (by rw [hl]; omega)) (Ev.pos rfl ?_))
  refine Ev.bind (heldIntS_ev 63 1 (by omega) (by omega)) (Ev.neg (by omega) (Ev.pos rfl ?_))
  exact Ev.now _

end Go.Proofs.Ytjommjfpjmhehaa.Pure
