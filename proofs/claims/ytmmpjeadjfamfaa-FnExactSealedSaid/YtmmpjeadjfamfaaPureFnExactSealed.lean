/- FnExactSealed returns true for all arguments: the program's Sealed answers what the reference's answers. No conditions beyond the statement's own. -/
import Derived.Test.YtmmpjeadjfamfaaPFnExactSealedx1
import Derived.Test.YtmmpjeadjfamfaaBase
namespace Go.Proofs.Ytmmpjeadjfamfaa.Pure
open Go.RowKit Go.Proofs.Ytmmpjeadjfamfaa.PFnExactSealed Go.Proofs.YtmmpjeadjfamfaaW.PrintWords Go.Proofs.YtmmpjeadjfamfaaW.PrintLast Go.Proofs.YtmmpjeadjfamfaaW.PrintMore Go.Proofs.Ytmmpjeadjfamfaa.Base

theorem specSumMore_l1 (t : ByteArray) (ht : t.size ≤ 140737488355328) (i : Nat) (hi : i < t.size) (r : Int) (d : Nat) :
    ∀ (j : Nat) (s : Int), j + d = 8 → Ev (fun k => spec_SumMore.l0 k (crcRounds d s) t ((i + 1 : Nat) : Int)) r → Ev (fun k => spec_SumMore.l1 k s t (i : Int) (j : Int)) r := by
  induction d with
  | zero =>
    intro j s hj h
    refine Ev.step (fun _ => spec_SumMore.l1.eq_2 ..) (Ev.neg (by omega) ?_)
    rw [w64_succ i (by omega)]
    exact h
  | succ d ih =>
    intro j s hj h
    refine Ev.step (fun _ => spec_SumMore.l1.eq_2 ..) (Ev.pos (by omega) ?_)
    rw [w64_succ j (by omega)]
    rw [crcRounds] at h
    unfold crcRound at h
    refine Ev.ite (fun hc => ?_) (fun hc => ?_)
    · rw [if_pos hc] at h; exact ih (j + 1) _ (by omega) h
    · rw [if_neg hc] at h; exact ih (j + 1) _ (by omega) h
theorem specSumMore_l0 (t : ByteArray) (ht : t.size ≤ 140737488355328) (d : Nat) :
    ∀ (i : Nat) (s : Int), i + d = t.size → Ev (fun k => spec_SumMore.l0 k s t (i : Int)) (crcList s ((bytesOf t).drop i)) := by
  induction d with
  | zero =>
    intro i s hi
    refine Ev.step (fun _ => spec_SumMore.l0.eq_2 ..) (Ev.neg (by omega) (Ev.some ?_))
    rw [List.drop_eq_nil_of_le (by rw [bytesOf_length]; omega)]; rfl
  | succ d ih =>
    intro i s hi
    refine Ev.step (fun _ => spec_SumMore.l0.eq_2 ..) (Ev.pos (by omega) (Ev.pos (by omega) ?_))
    refine specSumMore_l1 t ht i (by omega) _ 8 0 _ (by omega) ?_
    refine Ev.eq (ih (i + 1) _ (by omega)) ?_
    rw [bytesOf_drop t i (by omega)]; rfl
theorem specSumMore_ev (s : Int) (t : ByteArray) (ht : t.size ≤ 140737488355328) : Ev (fun k => spec_SumMore.f k s t) (crcList s (bytesOf t)) :=
  specSumMore_l0 t ht t.size 0 s (by omega)
theorem implSumMore_same : ∀ k, (∀ s t i, impl_SumMore.l0 k s t i = spec_SumMore.l0 k s t i) ∧ (∀ s t i j, impl_SumMore.l1 k s t i j = spec_SumMore.l1 k s t i j)
  | 0 => ⟨fun _ _ _ => rfl, fun _ _ _ _ => rfl⟩
  | k + 1 => by
    have ih := implSumMore_same k
    refine ⟨fun s t i => ?_, fun s t i j => ?_⟩
    · rw [impl_SumMore.l0.eq_2, spec_SumMore.l0.eq_2, ih.2]
    · rw [impl_SumMore.l1.eq_2, spec_SumMore.l1.eq_2, ih.1, ih.2, ih.2]
theorem implSumMore_ev (s : Int) (t : ByteArray) (ht : t.size ≤ 140737488355328) : Ev (fun k => impl_SumMore.f k s t) (crcList s (bytesOf t)) :=
  Ev.congr (fun k => (implSumMore_same k).1 s t 0) (specSumMore_ev s t ht)
theorem specSumOf_ev (t : ByteArray) (ht : t.size ≤ 140737488355328) : Ev (fun k => spec_SumOf.f k t) (crcList 4294967295 (bytesOf t)) :=
  Ev.congr (fun _ => spec_SumOf.f.eq_1 ..) (Ev.bind (specSumMore_ev _ t ht) (Ev.now _))
theorem implSumOf_ev (t : ByteArray) (ht : t.size ≤ 140737488355328) : Ev (fun k => impl_SumOf.f k t) (crcList 4294967295 (bytesOf t)) :=
  Ev.congr (fun _ => impl_SumOf.f.eq_1 ..) (Ev.bind (implSumMore_ev _ t ht) (Ev.now _))
/-- Four bytes, the highest first. -/
def four (x : Int) : List Int := [x / 16777216 % 256, x / 65536 % 256, x / 256 % 256, x % 256]
def sumM (t : ByteArray) : Int := crcList 4294967295 (bytesOf t)
theorem crcRound_range (s : Int) : 0 ≤ crcRound s ∧ crcRound s < 4294967296 := by
  unfold crcRound
  split
  · exact xor32_range _ _
  · omega
theorem crcRounds_range (n : Nat) : ∀ s : Int, 0 ≤ s ∧ s < 4294967296 → 0 ≤ crcRounds n s ∧ crcRounds n s < 4294967296 := by
  induction n with
  | zero => intro s h; exact h
  | succ n ih => intro s _; exact ih _ (crcRound_range s)
theorem crcList_range (l : List Int) : ∀ s : Int, 0 ≤ s ∧ s < 4294967296 → 0 ≤ crcList s l ∧ crcList s l < 4294967296 := by
  induction l with
  | nil => intro s h; exact h
  | cons b l ih => intro s _; exact ih _ (crcRounds_range 8 _ (xor32_range _ _))
theorem sumM_range (t : ByteArray) : 0 ≤ sumM t ∧ sumM t < 4294967296 := crcList_range _ _ (by omega)
theorem specFour_eq (x : Int) : spec_l02Four.f x = some (strOfNums (four x)) := rfl
theorem highFirst_ev (x : Int) : Ev (fun k => impl_highFirst.f k x 4) (strOfNums (four x)) := by
  refine Ev.congr (fun _ => impl_highFirst.f.eq_1 ..) (Ev.pos (by omega) (Ev.pos (by decide) ?_))
  have go : ∀ y, Go.bits .and .i64 y 255 % 256 = y % 256 := fun y => by rw [and255_eq]; omega
  rw [show wrap64 ((4 : Int) - 1) = 3 from by unfold wrap64; omega]
  refine Ev.step (fun _ => impl_highFirst.l0.eq_2 ..) (Ev.pos (by omega) (Ev.pos (by omega) (Ev.pos (by decide) ?_)))
  rw [show wrap64 ((3 : Int) - 1) = 2 from by unfold wrap64; omega, go]
  refine Ev.step (fun _ => impl_highFirst.l0.eq_2 ..) (Ev.pos (by omega) (Ev.pos (by omega) (Ev.pos (by simp) ?_)))
  rw [show wrap64 ((2 : Int) - 1) = 1 from by unfold wrap64; omega, go]
  refine Ev.step (fun _ => impl_highFirst.l0.eq_2 ..) (Ev.pos (by omega) (Ev.pos (by omega) (Ev.pos (by simp) ?_)))
  rw [show wrap64 ((1 : Int) - 1) = 0 from by unfold wrap64; omega, go]
  refine Ev.step (fun _ => impl_highFirst.l0.eq_2 ..) (Ev.pos (by omega) (Ev.pos (by omega) (Ev.pos (by simp) ?_)))
  rw [show wrap64 ((0 : Int) - 1) = -1 from by unfold wrap64; omega, go]
  refine Ev.step (fun _ => impl_highFirst.l0.eq_2 ..) (Ev.neg (by omega) (Ev.some ?_))
  congr 1
  have e1 : x / 256 / 256 = x / 65536 := by omega
  have e2 : x / 256 / 256 / 256 = x / 16777216 := by omega
  show [x / 256 / 256 / 256 % 256, x / 256 / 256 % 256, x / 256 % 256, x % 256] = four x
  rw [e2, e1]; rfl
def sealedM (t : ByteArray) : ByteArray × Bool := if t.size ≤ 20000 then (t ++ strOfNums (four (sumM t)), true) else ((⟨#[]⟩ : ByteArray), false)
theorem implSealed_ev (t : ByteArray) : Ev (fun k => impl_Sealed.f k t) (sealedM t) := by
  refine Ev.congr (fun _ => impl_Sealed.f.eq_1 ..) ?_
  unfold sealedM
  by_cases h : t.size ≤ 20000
  · rw [if_pos h]
    have hr := sumM_range t
    refine Ev.neg (by omega) (Ev.bind (implSumOf_ev t (by omega)) ?_)
    rw [w64 (n := crcList 4294967295 (bytesOf t)) (by unfold sumM at hr; omega) (by unfold sumM at hr; omega)]
    refine Ev.bind (highFirst_ev _) (Ev.pos ?_ (Ev.now _))
    rw [strOfNums_size]
    show t.size + 4 ≤ _
    omega
  · rw [if_neg h]; exact Ev.pos (by omega) (Ev.now _)
theorem specSealed_ev (t : ByteArray) : Ev (fun k => spec_Sealed.f k t) (sealedM t) := by
  refine Ev.congr (fun _ => spec_Sealed.f.eq_1 ..) ?_
  unfold sealedM
  by_cases h : t.size ≤ 20000
  · rw [if_pos h]
    refine Ev.neg (by omega) (Ev.bind (specSumOf_ev t (by omega)) (Ev.call (specFour_eq _) (Ev.pos ?_ (Ev.now _))))
    rw [strOfNums_size]
    show t.size + 4 ≤ _
    omega
  · rw [if_neg h]; exact Ev.pos (by omega) (Ev.now _)
theorem FnExactSealed : laws_FnExactSealed.Pure := by
  intro t _
  apply Ev.rounds
  refine Ev.congr (fun _ => laws_FnExactSealed.f.eq_1 ..) (Ev.ite (fun _ => Ev.now _) (fun _ => ?_))
  exact Ev.bind (specSealed_ev t) (Ev.bind (implSealed_ev t) (Ev.pos rfl (Ev.neg (by simp) (Ev.now _))))

end Go.Proofs.Ytmmpjeadjfamfaa.Pure
