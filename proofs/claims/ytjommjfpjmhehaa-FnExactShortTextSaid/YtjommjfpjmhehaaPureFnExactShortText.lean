/- FnExactShortText returns true for all arguments: the program's ShortText answers what the reference's answers. No conditions beyond the statement's own. -/
import Derived.Test.YtjommjfpjmhehaaPFnExactShortTextx1
import Derived.Test.YtjommjfpjmhehaaBase
namespace Go.Proofs.Ytjommjfpjmhehaa.Pure
open Go.RowKit Go.Proofs.Ytjommjfpjmhehaa.PFnExactShortText Go.Proofs.YtjommjfpjmhehaaW.PrintWords Go.Proofs.YtjommjfpjmhehaaW.PrintLast Go.Proofs.YtjommjfpjmhehaaW.PrintMore Go.Proofs.Ytjommjfpjmhehaa.Base

theorem l01Var_l0 (n : Nat) : ∀ acc : List Int, acc.length + n < 140737488355328 → Ev (fun k => spec_l01Var.l0 k (n : Int) acc) (strOfNums (acc ++ varNums n)) := by
  induction n using Nat.strongRecOn with
  | _ n ih =>
    intro acc hl
    refine Ev.step (fun _ => spec_l01Var.l0.eq_2 ..) ?_
    by_cases h : 127 < n
    · refine Ev.pos (by omega) (Ev.pos (by omega) ?_)
      rw [varNums_big n h, show Int.tdiv (n : Int) 128 = ((n / 128 : Nat) : Int) from Int.ofNat_tdiv n 128 ▸ rfl, show Int.tmod (n : Int) 128 = ((n % 128 : Nat) : Int) from rfl,
        w64 (by omega) (by omega), w64 (by omega) (by omega), show (((n % 128 : Nat) : Int) + 128) % 256 = ((n % 128 + 128 : Nat) : Int) from by omega]
      have := ih (n / 128) (by omega) (acc ++ [((n % 128 + 128 : Nat) : Int)]) (by simp; omega)
      rwa [List.append_assoc] at this
    · refine Ev.neg (by omega) (Ev.pos (by omega) (Ev.some ?_))
      rw [varNums_small n h, show (n : Int) % 256 = n from by omega]
theorem l01Var_ev (n : Nat) (hn : n < 140737488355328) : Ev (fun k => spec_l01Var.f k (n : Int)) (strOfNums (varNums n)) := by
  have h := l01Var_l0 n [] (by simpa using hn)
  exact Ev.congr (fun _ => spec_l01Var.f.eq_1 ..) (by simpa using h)
theorem within_eq (n lo hi : Int) : impl_within.f n lo hi = some (decide (lo ≤ n ∧ n ≤ hi)) := by
  unfold impl_within.f
  by_cases h : n ≥ lo
  · rw [if_pos h]; congr 1; rw [decide_eq_decide]; exact ⟨fun h2 => ⟨h, h2⟩, fun h2 => h2.2⟩
  · rw [if_neg h]; congr 1; symm; rw [decide_eq_false_iff_not]; exact fun h2 => h h2.1
theorem implVarText_l0 (n : Nat) : ∀ acc : List Int, acc.length + n < 140737488355328 → Ev (fun k => impl_VarText.l0 k (n : Int) acc) (strOfNums (acc ++ varNums n), true) := by
  induction n using Nat.strongRecOn with
  | _ n ih =>
    intro acc hl
    refine Ev.step (fun _ => impl_VarText.l0.eq_2 ..) ?_
    by_cases h : 127 < n
    · refine Ev.pos (by omega) (Ev.pos (by omega) ?_)
      rw [varNums_big n h, show Int.tdiv (n : Int) 128 = ((n / 128 : Nat) : Int) from Int.ofNat_tdiv n 128 ▸ rfl, show Int.tmod (n : Int) 128 = ((n % 128 : Nat) : Int) from rfl,
        w64 (by omega) (by omega), w64 (by omega) (by omega), show (((n % 128 : Nat) : Int) + 128) % 256 = ((n % 128 + 128 : Nat) : Int) from by omega]
      have := ih (n / 128) (by omega) (acc ++ [((n % 128 + 128 : Nat) : Int)]) (by simp; omega)
      rwa [List.append_assoc] at this
    · refine Ev.neg (by omega) (Ev.pos (by omega) (Ev.some ?_))
      rw [varNums_small n h, show (n : Int) % 256 = n from by omega]
theorem implVarText_ev (n : Int) : Ev (fun k => impl_VarText.f k n) (if 0 ≤ n ∧ n ≤ 1000000000 then (strOfNums (varNums n.toNat), true) else ((⟨#[]⟩ : ByteArray), false)) := by
  refine Ev.congr (fun _ => impl_VarText.f.eq_1 ..) (Ev.call (within_eq ..) ?_)
  by_cases h : 0 ≤ n ∧ n ≤ 1000000000
  · rw [if_pos h, decide_eq_true h]
    obtain ⟨m, rfl⟩ := Int.eq_ofNat_of_zero_le h.1
    exact Ev.pos rfl (by simpa using implVarText_l0 m [] (by simp; omega))
  · rw [if_neg h, decide_eq_false h]
    exact Ev.neg (by simp) (Ev.now _)
theorem implVarText_nat (n : Nat) (h : n ≤ 1000000000) : Ev (fun k => impl_VarText.f k (n : Int)) (strOfNums (varNums n), true) := by
  have := implVarText_ev (n : Int)
  rwa [if_pos (by omega), Int.toNat_natCast] at this
theorem specShortText_ev (s : ByteArray) : Ev (fun k => spec_ShortText.f k s) (if s.size ≤ 20000 then (strOfNums (varNums s.size) ++ s, true) else ((⟨#[]⟩ : ByteArray), false)) := by
  refine Ev.congr (fun _ => spec_ShortText.f.eq_1 ..) ?_
  by_cases h : s.size ≤ 20000
  · rw [if_pos h]
    refine Ev.neg (by omega) (Ev.bind (l01Var_ev s.size (by omega)) (Ev.pos ?_ (Ev.now _)))
    rw [strOfNums_size]
    have := varNums_length s.size
    omega
  · rw [if_neg h]; exact Ev.pos (by omega) (Ev.now _)
theorem implShortText_ev (s : ByteArray) : Ev (fun k => impl_ShortText.f k s) (if s.size ≤ 20000 then (strOfNums (varNums s.size) ++ s, true) else ((⟨#[]⟩ : ByteArray), false)) := by
  refine Ev.congr (fun _ => impl_ShortText.f.eq_1 ..) ?_
  by_cases h : s.size ≤ 20000
  · rw [if_pos h]
    refine Ev.neg (by omega) (Ev.bind (implVarText_nat s.size (by omega)) (Ev.pos ?_ (Ev.now _)))
    show (strOfNums _).size + _ ≤ _
    rw [strOfNums_size]
    have := varNums_length s.size
    omega
  · rw [if_neg h]; exact Ev.pos (by omega) (Ev.now _)
theorem FnExactShortText : laws_FnExactShortText.Pure := by
  intro s _
  apply Ev.rounds
  refine Ev.congr (fun _ => laws_FnExactShortText.f.eq_1 ..) (Ev.ite (fun _ => Ev.now _) (fun _ => ?_))
  exact Ev.bind (specShortText_ev s) (Ev.bind (implShortText_ev s) (Ev.pos rfl (Ev.neg (by simp) (Ev.now _))))

end Go.Proofs.Ytjommjfpjmhehaa.Pure
