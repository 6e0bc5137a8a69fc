/- FnExactSumOf returns true for all arguments: the program's SumOf answers what the reference's answers. No conditions beyond the statement's own. -/
import Derived.Test.YtjommjfpjmhehaaPFnExactSumOfx1
import Derived.Test.YtjommjfpjmhehaaBase
namespace Go.Proofs.Ytjommjfpjmhehaa.Pure
open Go.RowKit Go.Proofs.Ytjommjfpjmhehaa.PFnExactSumOf Go.Proofs.YtjommjfpjmhehaaW.PrintWords Go.Proofs.YtjommjfpjmhehaaW.PrintLast Go.Proofs.YtjommjfpjmhehaaW.PrintMore Go.Proofs.Ytjommjfpjmhehaa.Base

theorem specSumMore_l1 (t : ByteArray) (ht : t.size ≤ 140737488355328) (i : Nat) (hi : i < t.size) (r : Int) (d : Nat) :
    ∀ (j : Nat) (s : Int), j + d = 8 → Ev (fun k => spec_SumMore.l0 k (crcRounds d s) t ((i + 1 : Nat) : Int)) r → Ev (fun k => spec_SumMore.l1 k s t (i : Int) (j : Int)) r := by
  induction d with
  | zero =>
    intro j s hj h
    refine Ev.step (fun _ => spec_SumMore.l1.eq_2 ..) (Ev.neg (by omega) ?_)
    rw [w64_succ i (by omega)]
    exact h
  | succ d ih =>
    intro j s hj h
    refine Ev.step (fun _ => spec_SumMore.l1.eq_2 ..) (Ev.pos (by omega) ?_)
    rw [w64_succ j (by omega)]
    rw [crcRounds] at h
    unfold crcRound at h
    refine Ev.ite (fun hc => ?_) (fun hc => ?_)
    · rw [if_pos hc] at h; exact ih (j + 1) _ (by omega) h
    · rw [if_neg hc] at h; exact ih (j + 1) _ (by omega) h
theorem specSumMore_l0 (t : ByteArray) (ht : t.size ≤ 140737488355328) (d : Nat) :
    ∀ (i : Nat) (s : Int), i + d = t.size → Ev (fun k => spec_SumMore.l0 k s t (i : Int)) (crcList s ((bytesOf t).drop i)) := by
  induction d with
  | zero =>
    intro i s hi
    refine Ev.step (fun _ => spec_SumMore.l0.eq_2 ..) (Ev.neg (by omega) (Ev.some ?_))
    rw [List.drop_eq_nil_of_le (by rw [bytesOf_length]; omega)]; rfl
  | succ d ih =>
    intro i s hi
    refine Ev.step (fun _ => spec_SumMore.l0.eq_2 ..) (Ev.pos (by omega) (Ev.pos (by omega) ?_))
    refine specSumMore_l1 t ht i (by omega) _ 8 0 _ (by omega) ?_
    refine Ev.eq (ih (i + 1) _ (by omega)) ?_
    rw [bytesOf_drop t i (by omega)]; rfl
theorem specSumMore_ev (s : Int) (t : ByteArray) (ht : t.size ≤ 140737488355328) : Ev (fun k => spec_SumMore.f k s t) (crcList s (bytesOf t)) :=
  specSumMore_l0 t ht t.size 0 s (by omega)
theorem implSumMore_same : ∀ k, (∀ s t i, impl_SumMore.l0 k s t i = spec_SumMore.l0 k s t i) ∧ (∀ s t i j, impl_SumMore.l1 k s t i j = spec_SumMore.l1 k s t i j)
  | 0 => ⟨fun _ _ _ => rfl, fun _ _ _ _ => rfl⟩
  | k + 1 => by
    have ih := implSumMore_same k
    refine ⟨fun s t i => ?_, fun s t i j => ?_⟩
    · rw [impl_SumMore.l0.eq_2, spec_SumMore.l0.eq_2, ih.2]
    · rw [impl_SumMore.l1.eq_2, spec_SumMore.l1.eq_2, ih.1, ih.2, ih.2]
theorem implSumMore_ev (s : Int) (t : ByteArray) (ht : t.size ≤ 140737488355328) : Ev (fun k => impl_SumMore.f k s t) (crcList s (bytesOf t)) :=
  Ev.congr (fun k => (implSumMore_same k).1 s t 0) (specSumMore_ev s t ht)
theorem specSumOf_ev (t : ByteArray) (ht : t.size ≤ 140737488355328) : Ev (fun k => spec_SumOf.f k t) (crcList 4294967295 (bytesOf t)) :=
  Ev.congr (fun _ => spec_SumOf.f.eq_1 ..) (Ev.bind (specSumMore_ev _ t ht) (Ev.now _))
theorem implSumOf_ev (t : ByteArray) (ht : t.size ≤ 140737488355328) : Ev (fun k => impl_SumOf.f k t) (crcList 4294967295 (bytesOf t)) :=
  Ev.congr (fun _ => impl_SumOf.f.eq_1 ..) (Ev.bind (implSumMore_ev _ t ht) (Ev.now _))
theorem FnExactSumOf : laws_FnExactSumOf.Pure := by
  intro t ht
  apply Ev.rounds
  refine Ev.congr (fun _ => laws_FnExactSumOf.f.eq_1 ..) (Ev.ite (fun _ => Ev.now _) (fun h => ?_))
  refine Ev.bind (specSumOf_ev t (by omega)) (Ev.bind (implSumOf_ev t (by omega)) (Ev.pos rfl (Ev.now _)))

end Go.Proofs.Ytjommjfpjmhehaa.Pure
