/- FnExactFrame returns true for all arguments: the program's Frame answers what the reference's answers. No conditions beyond the statement's own. -/
import Derived.Test.YtmmpjeadjfamfaaPFnExactFramex2
import Derived.Test.YtmmpjeadjfamfaaBase
namespace Go.Proofs.Ytmmpjeadjfamfaa.Pure
open Go.RowKit Go.Proofs.Ytmmpjeadjfamfaa.PFnExactFrame Go.Proofs.YtmmpjeadjfamfaaW.PrintWords Go.Proofs.YtmmpjeadjfamfaaW.PrintLast Go.Proofs.YtmmpjeadjfamfaaW.PrintMore Go.Proofs.Ytmmpjeadjfamfaa.Base

theorem specSumMore_l1 (t : ByteArray) (ht : t.size ≤ 140737488355328) (i : Nat) (hi : i < t.size) (r : Int) (d : Nat) :
    ∀ (j : Nat) (s : Int), j + d = 8 → Ev (fun k => spec_SumMore.l0 k (crcRounds d s) t ((i + 1 : Nat) : Int)) r → Ev (fun k => spec_SumMore.l1 k s t (i : Int) (j : Int)) r := by
  induction d with
  | zero =>
    intro j s hj h
    refine Ev.step (fun _ => spec_SumMore.l1.eq_2 ..) (Ev.neg (by omega) ?_)
    rw [w64_succ i (by omega)]
    exact h
  | succ d ih =>
    intro j s hj h
    refine Ev.step (fun _ => spec_SumMore.l1.eq_2 ..) (Ev.pos (by omega) ?_)
    rw [w64_succ j (by omega)]
    rw [crcRounds] at h
    unfold crcRound at h
    refine Ev.ite (fun hc => ?_) (fun hc => ?_)
    · rw [if_pos hc] at h; exact ih (j + 1) _ (by omega) h
    · rw [if_neg hc] at h; exact ih (j + 1) _ (by omega) h
theorem specSumMore_l0 (t : ByteArray) (ht : t.size ≤ 140737488355328) (d : Nat) :
    ∀ (i : Nat) (s : Int), i + d = t.size → Ev (fun k => spec_SumMore.l0 k s t (i : Int)) (crcList s ((bytesOf t).drop i)) := by
  induction d with
  | zero =>
    intro i s hi
    refine Ev.step (fun _ => spec_SumMore.l0.eq_2 ..) (Ev.neg (by omega) (Ev.some ?_))
    rw [List.drop_eq_nil_of_le (by rw [bytesOf_length]; omega)]; rfl
  | succ d ih =>
    intro i s hi
    refine Ev.step (fun _ => spec_SumMore.l0.eq_2 ..) (Ev.pos (by omega) (Ev.pos (by omega) ?_))
    refine specSumMore_l1 t ht i (by omega) _ 8 0 _ (by omega) ?_
    refine Ev.eq (ih (i + 1) _ (by omega)) ?_
    rw [bytesOf_drop t i (by omega)]; rfl
theorem specSumMore_ev (s : Int) (t : ByteArray) (ht : t.size ≤ 140737488355328) : Ev (fun k => spec_SumMore.f k s t) (crcList s (bytesOf t)) :=
  specSumMore_l0 t ht t.size 0 s (by omega)
theorem implSumMore_same : ∀ k, (∀ s t i, impl_SumMore.l0 k s t i = spec_SumMore.l0 k s t i) ∧ (∀ s t i j, impl_SumMore.l1 k s t i j = spec_SumMore.l1 k s t i j)
  | 0 => ⟨fun _ _ _ => rfl, fun _ _ _ _ => rfl⟩
  | k + 1 => by
    have ih := implSumMore_same k
    refine ⟨fun s t i => ?_, fun s t i j => ?_⟩
    · rw [impl_SumMore.l0.eq_2, spec_SumMore.l0.eq_2, ih.2]
    · rw [impl_SumMore.l1.eq_2, spec_SumMore.l1.eq_2, ih.1, ih.2, ih.2]
theorem implSumMore_ev (s : Int) (t : ByteArray) (ht : t.size ≤ 140737488355328) : Ev (fun k => impl_SumMore.f k s t) (crcList s (bytesOf t)) :=
  Ev.congr (fun k => (implSumMore_same k).1 s t 0) (specSumMore_ev s t ht)
theorem specSumOf_ev (t : ByteArray) (ht : t.size ≤ 140737488355328) : Ev (fun k => spec_SumOf.f k t) (crcList 4294967295 (bytesOf t)) :=
  Ev.congr (fun _ => spec_SumOf.f.eq_1 ..) (Ev.bind (specSumMore_ev _ t ht) (Ev.now _))
theorem implSumOf_ev (t : ByteArray) (ht : t.size ≤ 140737488355328) : Ev (fun k => impl_SumOf.f k t) (crcList 4294967295 (bytesOf t)) :=
  Ev.congr (fun _ => impl_SumOf.f.eq_1 ..) (Ev.bind (implSumMore_ev _ t ht) (Ev.now _))
/-- Four bytes, the highest first. -/
def four (x : Int) : List Int := [x / 16777216 % 256, x / 65536 % 256, x / 256 % 256, x % 256]
def sumM (t : ByteArray) : Int := crcList 4294967295 (bytesOf t)
theorem crcRound_range (s : Int) : 0 ≤ crcRound s ∧ crcRound s < 4294967296 := by
  unfold crcRound
  split
  · exact xor32_range _ _
  · omega
theorem crcRounds_range (n : Nat) : ∀ s : Int, 0 ≤ s ∧ s < 4294967296 → 0 ≤ crcRounds n s ∧ crcRounds n s < 4294967296 := by
  induction n with
  | zero => intro s h; exact h
  | succ n ih => intro s _; exact ih _ (crcRound_range s)
theorem crcList_range (l : List Int) : ∀ s : Int, 0 ≤ s ∧ s < 4294967296 → 0 ≤ crcList s l ∧ crcList s l < 4294967296 := by
  induction l with
  | nil => intro s h; exact h
  | cons b l ih => intro s _; exact ih _ (crcRounds_range 8 _ (xor32_range _ _))
theorem sumM_range (t : ByteArray) : 0 ≤ sumM t ∧ sumM t < 4294967296 := crcList_range _ _ (by omega)
theorem specFour_eq (x : Int) : spec_l02Four.f x = some (strOfNums (four x)) := rfl
def sealedM (t : ByteArray) : ByteArray × Bool := if t.size ≤ 20000 then (t ++ strOfNums (four (sumM t)), true) else ((⟨#[]⟩ : ByteArray), false)
theorem l01Var_l0 (n : Nat) : ∀ acc : List Int, acc.length + n < 140737488355328 → Ev (fun k => spec_l01Var.l0 k (n : Int) acc) (strOfNums (acc ++ varNums n)) := by
  induction n using Nat.strongRecOn with
  | _ n ih =>
    intro acc hl
    refine Ev.step (fun _ => spec_l01Var.l0.eq_2 ..) ?_
    by_cases h : 127 < n
    · refine Ev.pos (by omega) (Ev.pos (by omega) ?_)
      rw [varNums_big n h, show Int.tdiv (n : Int) 128 = ((n / 128 : Nat) : Int) from Int.ofNat_tdiv n 128 ▸ rfl, show Int.tmod (n : Int) 128 = ((n % 128 : Nat) : Int) from rfl,
        w64 (by omega) (by omega), w64 (by omega) (by omega), show (((n % 128 : Nat) : Int) + 128) % 256 = ((n % 128 + 128 : Nat) : Int) from by omega]
      have := ih (n / 128) (by omega) (acc ++ [((n % 128 + 128 : Nat) : Int)]) (by simp; omega)
      rwa [List.append_assoc] at this
    · refine Ev.neg (by omega) (Ev.pos (by omega) (Ev.some ?_))
      rw [varNums_small n h, show (n : Int) % 256 = n from by omega]
theorem l01Var_ev (n : Nat) (hn : n < 140737488355328) : Ev (fun k => spec_l01Var.f k (n : Int)) (strOfNums (varNums n)) := by
  have h := l01Var_l0 n [] (by simpa using hn)
  exact Ev.congr (fun _ => spec_l01Var.f.eq_1 ..) (by simpa using h)
theorem within_eq (n lo hi : Int) : impl_within.f n lo hi = some (decide (lo ≤ n ∧ n ≤ hi)) := by
  unfold impl_within.f
  by_cases h : n ≥ lo
  · rw [if_pos h]; congr 1; rw [decide_eq_decide]; exact ⟨fun h2 => ⟨h, h2⟩, fun h2 => h2.2⟩
  · rw [if_neg h]; congr 1; symm; rw [decide_eq_false_iff_not]; exact fun h2 => h h2.1
theorem implVarText_l0 (n : Nat) : ∀ acc : List Int, acc.length + n < 140737488355328 → Ev (fun k => impl_VarText.l0 k (n : Int) acc) (strOfNums (acc ++ varNums n), true) := by
  induction n using Nat.strongRecOn with
  | _ n ih =>
    intro acc hl
    refine Ev.step (fun _ => impl_VarText.l0.eq_2 ..) ?_
    by_cases h : 127 < n
    · refine Ev.pos (by omega) (Ev.pos (by omega) ?_)
      rw [varNums_big n h, show Int.tdiv (n : Int) 128 = ((n / 128 : Nat) : Int) from Int.ofNat_tdiv n 128 ▸ rfl, show Int.tmod (n : Int) 128 = ((n % 128 : Nat) : Int) from rfl,
        w64 (by omega) (by omega), w64 (by omega) (by omega), show (((n % 128 : Nat) : Int) + 128) % 256 = ((n % 128 + 128 : Nat) : Int) from by omega]
      have := ih (n / 128) (by omega) (acc ++ [((n % 128 + 128 : Nat) : Int)]) (by simp; omega)
      rwa [List.append_assoc] at this
    · refine Ev.neg (by omega) (Ev.pos (by omega) (Ev.some ?_))
      rw [varNums_small n h, show (n : Int) % 256 = n from by omega]
theorem implVarText_ev (n : Int) : Ev (fun k => impl_VarText.f k n) (if 0 ≤ n ∧ n ≤ 1000000000 then (strOfNums (varNums n.toNat), true) else ((⟨#[]⟩ : ByteArray), false)) := by
  refine Ev.congr (fun _ => impl_VarText.f.eq_1 ..) (Ev.call (within_eq ..) ?_)
  by_cases h : 0 ≤ n ∧ n ≤ 1000000000
  · rw [if_pos h, decide_eq_true h]
    obtain ⟨m, rfl⟩ := Int.eq_ofNat_of_zero_le h.1
    exact Ev.pos rfl (by simpa using implVarText_l0 m [] (by simp; omega))
  · rw [if_neg h, decide_eq_false h]
    exact Ev.neg (by simp) (Ev.now _)
theorem implVarText_nat (n : Nat) (h : n ≤ 1000000000) : Ev (fun k => impl_VarText.f k (n : Int)) (strOfNums (varNums n), true) := by
  have := implVarText_ev (n : Int)
  rwa [if_pos (by omega), Int.toNat_natCast] at this
theorem l01In_eq (n lo hi : Int) : spec_l01In.f n lo hi = some (decide (lo ≤ n ∧ n ≤ hi)) := by
  unfold spec_l01In.f
  by_cases h : n ≥ lo
  · rw [if_pos h]; congr 1; rw [decide_eq_decide]; exact ⟨fun h2 => ⟨h, h2⟩, fun h2 => h2.2⟩
  · rw [if_neg h]; congr 1; symm; rw [decide_eq_false_iff_not]; exact fun h2 => h h2.1
def frameM (t : ByteArray) : ByteArray × Bool := if 1 ≤ t.size ∧ t.size ≤ 9000 then ((strOfNums (varNums t.size) ++ strOfNums (four (sumM t))) ++ t, true) else ((⟨#[]⟩ : ByteArray), false)
theorem implSumText_ev (t : ByteArray) (ht : t.size ≤ 140737488355328) : Ev (fun k => impl_sumText.f k t) (strOfNums (four (sumM t))) :=
  Ev.congr (fun _ => impl_sumText.f.eq_1 ..) (Ev.bind (implSumOf_ev t ht) (Ev.now _))
theorem frame_size (t : ByteArray) : (strOfNums (varNums t.size) ++ strOfNums (four (sumM t))).size ≤ t.size + 5 := by
  rw [ByteArray.size_append, strOfNums_size, strOfNums_size]
  have := varNums_length t.size
  show _ + 4 ≤ _
  omega
theorem specFrame_ev (t : ByteArray) : Ev (fun k => spec_Frame.f k t) (frameM t) := by
  refine Ev.congr (fun _ => spec_Frame.f.eq_1 ..) (Ev.call (l01In_eq ..) ?_)
  unfold frameM
  have hz := frame_size t
  have hv := varNums_length t.size
  by_cases h : 1 ≤ t.size ∧ t.size ≤ 9000
  · rw [if_pos h]
    refine Ev.pos (by rw [decide_eq_true (by omega)]) (Ev.bind (l01Var_ev t.size (by omega)) (Ev.bind (specSumOf_ev t (by omega)) (Ev.call (specFour_eq _) (Ev.pos ?_ (Ev.pos ?_ (Ev.now _))))))
    · rw [ByteArray.size_append] at hz; exact Nat.le_trans hz (by omega)
    · exact Nat.le_trans (Nat.add_le_add_right hz _) (by omega)
  · rw [if_neg h]; exact Ev.neg (by rw [decide_eq_false (by omega)]; simp) (Ev.now _)
theorem implFrame_ev (t : ByteArray) : Ev (fun k => impl_Frame.f k t) (frameM t) := by
  refine Ev.congr (fun _ => impl_Frame.f.eq_1 ..) (Ev.call (within_eq ..) ?_)
  unfold frameM
  have hz := frame_size t
  by_cases h : 1 ≤ t.size ∧ t.size ≤ 9000
  · rw [if_pos h]
    refine Ev.pos (by rw [decide_eq_true (by omega)]) (Ev.bind (implVarText_nat t.size (by omega)) (Ev.bind (implSumText_ev t (by omega)) (Ev.pos ?_ (Ev.pos ?_ (Ev.now _)))))
    · rw [ByteArray.size_append] at hz; exact Nat.le_trans hz (by omega)
    · exact Nat.le_trans (Nat.add_le_add_right hz _) (by omega)
  · rw [if_neg h]; exact Ev.neg (by rw [decide_eq_false (by omega)]; simp) (Ev.now _)
theorem FnExactFrame : laws_FnExactFrame.Pure := by
  intro t ht
  apply Ev.rounds
  refine Ev.congr (fun _ => laws_FnExactFrame.f.eq_1 ..) (Ev.ite (fun _ => Ev.now _) (fun _ => ?_))
  exact Ev.bind (specFrame_ev t) (Ev.bind (implFrame_ev t) (Ev.pos rfl (Ev.neg (by simp) (Ev.now _))))

end Go.Proofs.Ytmmpjeadjfamfaa.Pure
