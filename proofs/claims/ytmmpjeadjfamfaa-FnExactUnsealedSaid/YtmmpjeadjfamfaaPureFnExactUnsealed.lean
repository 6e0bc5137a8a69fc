/- FnExactUnsealed returns true for all arguments: the program's Unsealed answers what the reference's answers. No conditions beyond the statement's own. -/
import Derived.Test.YtmmpjeadjfamfaaPFnExactUnsealedx2
import Derived.Test.YtmmpjeadjfamfaaBase
namespace Go.Proofs.Ytmmpjeadjfamfaa.Pure
open Go.RowKit Go.Proofs.Ytmmpjeadjfamfaa.PFnExactUnsealed Go.Proofs.YtmmpjeadjfamfaaW.PrintWords Go.Proofs.YtmmpjeadjfamfaaW.PrintLast Go.Proofs.YtmmpjeadjfamfaaW.PrintMore Go.Proofs.Ytmmpjeadjfamfaa.Base

theorem specSumMore_l1 (t : ByteArray) (ht : t.size ≤ 140737488355328) (i : Nat) (hi : i < t.size) (r : Int) (d : Nat) :
    ∀ (j : Nat) (s : Int), j + d = 8 → Ev (fun k => spec_SumMore.l0 k (crcRounds d s) t ((i + 1 : Nat) : Int)) r → Ev (fun k => spec_SumMore.l1 k s t (i : Int) (j : Int)) r := by
  induction d with
  | zero =>
    intro j s hj h
    refine Ev.step (fun _ => spec_SumMore.l1.eq_2 ..) (Ev.neg (by omega) ?_)
    rw [w64_succ i (by omega)]
    exact h
  | succ d ih =>
    intro j s hj h
    refine Ev.step (fun _ => spec_SumMore.l1.eq_2 ..) (Ev.pos (by omega) ?_)
    rw [w64_succ j (by omega)]
    rw [crcRounds] at h
    unfold crcRound at h
    refine Ev.ite (fun hc => ?_) (fun hc => ?_)
    · rw [if_pos hc] at h; exact ih (j + 1) _ (by omega) h
    · rw [if_neg hc] at h; exact ih (j + 1) _ (by omega) h
theorem specSumMore_l0 (t : ByteArray) (ht : t.size ≤ 140737488355328) (d : Nat) :
    ∀ (i : Nat) (s : Int), i + d = t.size → Ev (fun k => spec_SumMore.l0 k s t (i : Int)) (crcList s ((bytesOf t).drop i)) := by
  induction d with
  | zero =>
    intro i s hi
    refine Ev.step (fun _ => spec_SumMore.l0.eq_2 ..) (Ev.neg (by omega) (Ev.some ?_))
    rw [List.drop_eq_nil_of_le (by rw [bytesOf_length]; omega)]; rfl
  | succ d ih =>
    intro i s hi
    refine Ev.step (fun _ => spec_SumMore.l0.eq_2 ..) (Ev.pos (by omega) (Ev.pos (by omega) ?_))
    refine specSumMore_l1 t ht i (by omega) _ 8 0 _ (by omega) ?_
    refine Ev.eq (ih (i + 1) _ (by omega)) ?_
    rw [bytesOf_drop t i (by omega)]; rfl
theorem specSumMore_ev (s : Int) (t : ByteArray) (ht : t.size ≤ 140737488355328) : Ev (fun k => spec_SumMore.f k s t) (crcList s (bytesOf t)) :=
  specSumMore_l0 t ht t.size 0 s (by omega)
theorem implSumMore_same : ∀ k, (∀ s t i, impl_SumMore.l0 k s t i = spec_SumMore.l0 k s t i) ∧ (∀ s t i j, impl_SumMore.l1 k s t i j = spec_SumMore.l1 k s t i j)
  | 0 => ⟨fun _ _ _ => rfl, fun _ _ _ _ => rfl⟩
  | k + 1 => by
    have ih := implSumMore_same k
    refine ⟨fun s t i => ?_, fun s t i j => ?_⟩
    · rw [impl_SumMore.l0.eq_2, spec_SumMore.l0.eq_2, ih.2]
    · rw [impl_SumMore.l1.eq_2, spec_SumMore.l1.eq_2, ih.1, ih.2, ih.2]
theorem implSumMore_ev (s : Int) (t : ByteArray) (ht : t.size ≤ 140737488355328) : Ev (fun k => impl_SumMore.f k s t) (crcList s (bytesOf t)) :=
  Ev.congr (fun k => (implSumMore_same k).1 s t 0) (specSumMore_ev s t ht)
theorem specSumOf_ev (t : ByteArray) (ht : t.size ≤ 140737488355328) : Ev (fun k => spec_SumOf.f k t) (crcList 4294967295 (bytesOf t)) :=
  Ev.congr (fun _ => spec_SumOf.f.eq_1 ..) (Ev.bind (specSumMore_ev _ t ht) (Ev.now _))
theorem implSumOf_ev (t : ByteArray) (ht : t.size ≤ 140737488355328) : Ev (fun k => impl_SumOf.f k t) (crcList 4294967295 (bytesOf t)) :=
  Ev.congr (fun _ => impl_SumOf.f.eq_1 ..) (Ev.bind (implSumMore_ev _ t ht) (Ev.now _))
/-- Four bytes, the highest first. -/
def four (x : Int) : List Int := [x / 16777216 % 256, x / 65536 % 256, x / 256 % 256, x % 256]
def sumM (t : ByteArray) : Int := crcList 4294967295 (bytesOf t)
theorem crcRound_range (s : Int) : 0 ≤ crcRound s ∧ crcRound s < 4294967296 := by
  unfold crcRound
  split
  · exact xor32_range _ _
  · omega
theorem crcRounds_range (n : Nat) : ∀ s : Int, 0 ≤ s ∧ s < 4294967296 → 0 ≤ crcRounds n s ∧ crcRounds n s < 4294967296 := by
  induction n with
  | zero => intro s h; exact h
  | succ n ih => intro s _; exact ih _ (crcRound_range s)
theorem crcList_range (l : List Int) : ∀ s : Int, 0 ≤ s ∧ s < 4294967296 → 0 ≤ crcList s l ∧ crcList s l < 4294967296 := by
  induction l with
  | nil => intro s h; exact h
  | cons b l ih => intro s _; exact ih _ (crcRounds_range 8 _ (xor32_range _ _))
theorem sumM_range (t : ByteArray) : 0 ≤ sumM t ∧ sumM t < 4294967296 := crcList_range _ _ (by omega)
theorem specFour_eq (x : Int) : spec_l02Four.f x = some (strOfNums (four x)) := rfl
theorem highFirst_ev (x : Int) : Ev (fun k => impl_highFirst.f k x 4) (strOfNums (four x)) := by
  refine Ev.congr (fun _ => impl_highFirst.f.eq_1 ..) (Ev.pos (by omega) (Ev.pos (by decide) ?_))
  have go : ∀ y, Go.bits .and .i64 y 255 % 256 = y % 256 := fun y => by rw [and255_eq]; omega
  rw [show wrap64 ((4 : Int) - 1) = 3 from by unfold wrap64; omega]
  refine Ev.step (fun _ => impl_highFirst.l0.eq_2 ..) (Ev.pos (by omega) (Ev.pos (by omega) (Ev.pos (by decide) ?_)))
  rw [show wrap64 ((3 : Int) - 1) = 2 from by unfold wrap64; omega, go]
  refine Ev.step (fun _ => impl_highFirst.l0.eq_2 ..) (Ev.pos (by omega) (Ev.pos (by omega) (Ev.pos (by simp) ?_)))
  rw [show wrap64 ((2 : Int) - 1) = 1 from by unfold wrap64; omega, go]
  refine Ev.step (fun _ => impl_highFirst.l0.eq_2 ..) (Ev.pos (by omega) (Ev.pos (by omega) (Ev.pos (by simp) ?_)))
  rw [show wrap64 ((1 : Int) - 1) = 0 from by unfold wrap64; omega, go]
  refine Ev.step (fun _ => impl_highFirst.l0.eq_2 ..) (Ev.pos (by omega) (Ev.pos (by omega) (Ev.pos (by simp) ?_)))
  rw [show wrap64 ((0 : Int) - 1) = -1 from by unfold wrap64; omega, go]
  refine Ev.step (fun _ => impl_highFirst.l0.eq_2 ..) (Ev.neg (by omega) (Ev.some ?_))
  congr 1
  have e1 : x / 256 / 256 = x / 65536 := by omega
  have e2 : x / 256 / 256 / 256 = x / 16777216 := by omega
  show [x / 256 / 256 / 256 % 256, x / 256 / 256 % 256, x / 256 % 256, x % 256] = four x
  rw [e2, e1]; rfl
def sealedM (t : ByteArray) : ByteArray × Bool := if t.size ≤ 20000 then (t ++ strOfNums (four (sumM t)), true) else ((⟨#[]⟩ : ByteArray), false)
theorem implSealed_ev (t : ByteArray) : Ev (fun k => impl_Sealed.f k t) (sealedM t) := by
  refine Ev.congr (fun _ => impl_Sealed.f.eq_1 ..) ?_
  unfold sealedM
  by_cases h : t.size ≤ 20000
  · rw [if_pos h]
    have hr := sumM_range t
    refine Ev.neg (by omega) (Ev.bind (implSumOf_ev t (by omega)) ?_)
    rw [w64 (n := crcList 4294967295 (bytesOf t)) (by unfold sumM at hr; omega) (by unfold sumM at hr; omega)]
    refine Ev.bind (highFirst_ev _) (Ev.pos ?_ (Ev.now _))
    rw [strOfNums_size]
    show t.size + 4 ≤ _
    omega
  · rw [if_neg h]; exact Ev.pos (by omega) (Ev.now _)
theorem bytesOf_range (s : ByteArray) : ∀ x ∈ bytesOf s, 0 ≤ x ∧ x ≤ 255 := by
  intro x hx
  obtain ⟨b, _, rfl⟩ := List.mem_map.1 hx
  have := b.toNat_lt
  omega
theorem strOfNums_bytesOf (s : ByteArray) : strOfNums (bytesOf s) = s := by
  apply ByteArray.ext
  unfold strOfNums bytesOf
  rw [List.map_map, show ((fun n : Int => UInt8.ofNat n.toNat) ∘ fun b : UInt8 => (b.toNat : Int)) = id from by funext b; simp]
  simp
theorem bytesOf_strOfNums (l : List Int) (h : ∀ x ∈ l, 0 ≤ x ∧ x ≤ 255) : bytesOf (strOfNums l) = l := by
  unfold strOfNums bytesOf
  simp only [List.map_map]
  conv => rhs; rw [← List.map_id l]
  apply List.map_congr_left
  intro x hx
  have := h x hx
  show ((UInt8.ofNat x.toNat).toNat : Int) = x
  rw [UInt8.toNat_ofNat']
  omega
theorem strOfNums_eq (l : List Int) (s : ByteArray) (h : ∀ x ∈ l, 0 ≤ x ∧ x ≤ 255) : strOfNums l = s ↔ l = bytesOf s :=
  ⟨fun e => by rw [← e, bytesOf_strOfNums l h], fun e => by rw [e, strOfNums_bytesOf]⟩
theorem bytesOf_inj {s t : ByteArray} (h : bytesOf s = bytesOf t) : s = t := by
  rw [← strOfNums_bytesOf s, h, strOfNums_bytesOf]
theorem bytesOf_append (s t : ByteArray) : bytesOf (s ++ t) = bytesOf s ++ bytesOf t := by
  unfold bytesOf; simp
theorem bytesOf_extract (s : ByteArray) (a b : Nat) : bytesOf (s.extract a b) = ((bytesOf s).drop a).take (b - a) := by
  unfold bytesOf
  rw [ByteArray.data_extract]
  simp [List.extract_eq_take_drop, List.map_take, List.map_drop]
def unsealedM (t : ByteArray) : ByteArray × Bool :=
  if 4 ≤ t.size ∧ t.size ≤ 20004 ∧ t = t.extract 0 (t.size - 4) ++ strOfNums (four (sumM (t.extract 0 (t.size - 4)))) then (t.extract 0 (t.size - 4), true) else ((⟨#[]⟩ : ByteArray), false)
theorem split_at (t : ByteArray) (n : Nat) (h : n ≤ t.size) : t = t.extract 0 n ++ t.extract n t.size := by
  apply bytesOf_inj
  rw [bytesOf_append, bytesOf_extract, bytesOf_extract]
  have := bytesOf_length t
  rw [List.drop_zero, Nat.sub_zero, List.take_of_length_le (l := (bytesOf t).drop n) (by rw [List.length_drop]; omega), List.take_append_drop]
theorem append_right_inj (a b c : ByteArray) : a ++ b = a ++ c ↔ b = c := by
  constructor
  · intro h
    apply bytesOf_inj
    have := congrArg bytesOf h
    rw [bytesOf_append, bytesOf_append] at this
    exact List.append_cancel_left this
  · intro h; rw [h]
theorem extract_size' (t : ByteArray) (n : Nat) (h : n ≤ t.size) : (t.extract 0 n).size = n := by
  have := congrArg List.length (bytesOf_extract t 0 n)
  rw [bytesOf_length, List.length_take, List.length_drop, bytesOf_length] at this
  omega
theorem specUnsealed_ev (t : ByteArray) (ht : t.size ≤ 140737488355328) : Ev (fun k => spec_Unsealed.f k t) (unsealedM t) := by
  refine Ev.congr (fun _ => spec_Unsealed.f.eq_1 ..) ?_
  rw [w64 (n := (t.size : Int) - 4) (by omega) (by omega)]
  unfold unsealedM
  refine Ev.ite (fun h => ?_) (fun h => ?_)
  · rw [if_neg (by omega)]; exact Ev.now _
  refine Ev.ite (fun h2 => ?_) (fun h2 => ?_)
  · rw [if_neg (by omega)]; exact Ev.now _
  have e : ((t.size : Int) - 4).toNat = t.size - 4 := by omega
  rw [e]
  refine Ev.pos (by omega) (Ev.pos (by omega) (Ev.bind (specSumOf_ev _ (by rw [extract_size' t _ (by omega)]; omega)) (Ev.call (specFour_eq _) ?_)))
  have hs := split_at t (t.size - 4) (by omega)
  have hiff : (t.extract (t.size - 4) t.size).toList = (strOfNums (four (sumM (t.extract 0 (t.size - 4))))).toList ↔ t = t.extract 0 (t.size - 4) ++ strOfNums (four (sumM (t.extract 0 (t.size - 4)))) := by
    rw [toList_eq]
    conv => rhs; lhs; rw [hs]
    rw [append_right_inj]
  refine Ev.ite (fun hq => ?_) (fun hq => ?_)
  · rw [if_pos ⟨by omega, by omega, hiff.1 hq⟩]; exact Ev.now _
  · rw [if_neg (fun z => hq (hiff.2 z.2.2))]; exact Ev.now _
theorem implUnsealed_ev (t : ByteArray) (ht : t.size ≤ 140737488355328) : Ev (fun k => impl_Unsealed.f k t) (unsealedM t) := by
  refine Ev.congr (fun _ => impl_Unsealed.f.eq_1 ..) ?_
  rw [w64 (n := (t.size : Int) - 4) (by omega) (by omega)]
  unfold unsealedM
  refine Ev.ite (fun h => ?_) (fun h => ?_)
  · rw [if_neg (by omega)]; exact Ev.now _
  have e : ((t.size : Int) - 4).toNat = t.size - 4 := by omega
  rw [e]
  refine Ev.pos (by omega) (Ev.pos (by omega) (Ev.bind (implSealed_ev _) ?_))
  unfold sealedM
  rw [extract_size' t _ (by omega)]
  by_cases h2 : t.size - 4 ≤ 20000
  · rw [if_pos h2]
    refine Ev.pos rfl (Ev.ite (fun hq => ?_) (fun hq => ?_))
    · rw [if_pos ⟨by omega, by omega, (toList_eq.1 hq).symm⟩]; exact Ev.now _
    · rw [if_neg (fun z => hq (toList_eq.2 z.2.2.symm))]; exact Ev.now _
  · rw [if_neg h2]
    exact Ev.neg (by simp) (Ev.some (if_neg (by omega)).symm)
theorem FnExactUnsealed : laws_FnExactUnsealed.Pure := by
  intro t ht
  apply Ev.rounds
  refine Ev.congr (fun _ => laws_FnExactUnsealed.f.eq_1 ..) (Ev.ite (fun _ => Ev.now _) (fun _ => ?_))
  exact Ev.bind (specUnsealed_ev t (by omega)) (Ev.bind (implUnsealed_ev t (by omega)) (Ev.pos rfl (Ev.neg (by simp) (Ev.now _))))

end Go.Proofs.Ytmmpjeadjfamfaa.Pure
