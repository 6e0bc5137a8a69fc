/- FnExactHex returns true for all arguments: the program's Hex answers what the reference's answers. No conditions beyond the statement's own. -/
import Derived.Test.YtjommjfpjmhehaaQhx1
import Derived.Test.YtjommjfpjmhehaaBase
namespace Go.Proofs.Ytjommjfpjmhehaa.Pure
open Go.RowKit Go.Proofs.Ytjommjfpjmhehaa.Qh Go.Proofs.YtjommjfpjmhehaaW.PrintWords Go.Proofs.YtjommjfpjmhehaaW.PrintLast Go.Proofs.YtjommjfpjmhehaaW.PrintMore Go.Proofs.Ytjommjfpjmhehaa.Base

def figM (x : Int) : Int := if x < 10 then 48 + x else 87 + x
def hexM (l : List Int) : List Int := l.flatMap fun b => [figM (b / 16), figM (b % 16)]
theorem hexM_cons (b : Int) (l : List Int) : hexM (b :: l) = [figM (b / 16), figM (b % 16)] ++ hexM l := List.flatMap_cons
theorem specFigure_eq (x : Int) (h : 0 ≤ x ∧ x < 16) : spec_l01Figure.f x = some (figM x) := by
  unfold spec_l01Figure.f figM
  by_cases c : x < 10
  · rw [if_pos c, if_pos c, w64 (by omega) (by omega)]; congr 1; omega
  · rw [if_neg c, if_neg c, w64 (n := 97 + x) (by omega) (by omega), w64 (by omega) (by omega)]; congr 1; omega
theorem figures_at (x : Int) (h : 0 ≤ x ∧ x < 16) : bt (⟨#[48, 49, 50, 51, 52, 53, 54, 55, 56, 57, 97, 98, 99, 100, 101, 102]⟩ : ByteArray) x = figM x := by
  obtain ⟨n, rfl⟩ := Int.eq_ofNat_of_zero_le h.1
  have : n = 0 ∨ n = 1 ∨ n = 2 ∨ n = 3 ∨ n = 4 ∨ n = 5 ∨ n = 6 ∨ n = 7 ∨ n = 8 ∨ n = 9 ∨ n = 10 ∨ n = 11 ∨ n = 12 ∨ n = 13 ∨ n = 14 ∨ n = 15 := by omega
  rcases this with rfl | rfl | rfl | rfl | rfl | rfl | rfl | rfl | rfl | rfl | rfl | rfl | rfl | rfl | rfl | rfl <;> rfl
theorem specHex_l0 (s : ByteArray) (hs : s.size ≤ 20000) (d : Nat) :
    ∀ (i : Nat) (acc : List Int), i + d = s.size → acc.length = 2 * i → Ev (fun k => spec_Hex.l0 k s acc (i : Int)) (strOfNums (acc ++ hexM ((bytesOf s).drop i)), true) := by
  induction d with
  | zero =>
    intro i acc hi _
    refine Ev.step (fun _ => spec_Hex.l0.eq_2 ..) (Ev.neg (by omega) (Ev.some ?_))
    rw [List.drop_eq_nil_of_le (by rw [bytesOf_length]; omega)]; simp [hexM]
  | succ d ih =>
    intro i acc hi ha
    have hb := bt_range s (i : Int)
    refine Ev.step (fun _ => spec_Hex.l0.eq_2 ..) (Ev.pos (by omega) (Ev.pos (by omega) ?_))
    rw [bytesOf_drop s i (by omega), hexM_cons, w64_succ i (by omega)]
    generalize bt s (i : Int) = c at *
    rw [w64 (n := c) (by omega) (by omega), Int.tdiv_eq_ediv_of_nonneg hb.1, Int.tmod_eq_emod_of_nonneg hb.1, w64 (n := c / 16) (by omega) (by omega)]
    refine Ev.call (specFigure_eq _ (by omega)) (Ev.call (specFigure_eq _ (by omega)) (Ev.call rfl (Ev.pos (by show acc.length + 2 < _; omega) ?_)))
    rw [← List.append_assoc]
    exact ih (i + 1) _ (by omega) (by rw [List.length_append]; show acc.length + 2 = _; omega)
theorem implHex_l0 (s : ByteArray) (hs : s.size ≤ 20000) (d : Nat) :
    ∀ (i : Nat) (acc : List Int), i + d = s.size → acc.length = 2 * i → Ev (fun k => impl_Hex.l0 k s acc (i : Int)) (strOfNums (acc ++ hexM ((bytesOf s).drop i)), true) := by
  induction d with
  | zero =>
    intro i acc hi _
    refine Ev.step (fun _ => impl_Hex.l0.eq_2 ..) (Ev.neg (by omega) (Ev.some ?_))
    rw [List.drop_eq_nil_of_le (by rw [bytesOf_length]; omega)]; simp [hexM]
  | succ d ih =>
    intro i acc hi ha
    have hb := bt_range s (i : Int)
    refine Ev.step (fun _ => impl_Hex.l0.eq_2 ..) (Ev.pos (by omega) (Ev.pos (by omega) ?_))
    rw [bytesOf_drop s i (by omega), hexM_cons, w64_succ i (by omega)]
    generalize bt s (i : Int) = c at *
    rw [Int.tdiv_eq_ediv_of_nonneg hb.1, Int.tmod_eq_emod_of_nonneg hb.1, show c / 16 % 256 = c / 16 from by omega]
    refine Ev.pos (by omega) (Ev.pos (by omega) (Ev.pos (by omega) (Ev.pos (by omega) ?_)))
    rw [figures_at (c / 16) (by omega), figures_at (c % 16) (by omega)]
    refine Ev.call rfl (Ev.pos (by show acc.length + 2 < _; omega) ?_)
    rw [← List.append_assoc]
    exact ih (i + 1) _ (by omega) (by rw [List.length_append]; show acc.length + 2 = _; omega)
def hexOut (s : ByteArray) : ByteArray × Bool := if s.size ≤ 20000 then (strOfNums (hexM (bytesOf s)), true) else ((⟨#[]⟩ : ByteArray), false)
theorem specHex_ev (s : ByteArray) : Ev (fun k => spec_Hex.f k s) (hexOut s) := by
  refine Ev.congr (fun _ => spec_Hex.f.eq_1 ..) ?_
  unfold hexOut
  by_cases h : s.size ≤ 20000
  · rw [if_pos h]; exact Ev.neg (by omega) (by simpa using specHex_l0 s h s.size 0 [] (by omega) rfl)
  · rw [if_neg h]; exact Ev.pos (by omega) (Ev.now _)
theorem implHex_ev (s : ByteArray) : Ev (fun k => impl_Hex.f k s) (hexOut s) := by
  refine Ev.congr (fun _ => impl_Hex.f.eq_1 ..) ?_
  unfold hexOut
  by_cases h : s.size ≤ 20000
  · rw [if_pos h]; exact Ev.neg (by omega) (by simpa using implHex_l0 s h s.size 0 [] (by omega) rfl)
  · rw [if_neg h]; exact Ev.pos (by omega) (Ev.now _)
theorem FnExactHex : laws_FnExactHex.Pure := by
  intro s _
  apply Ev.rounds
  refine Ev.congr (fun _ => laws_FnExactHex.f.eq_1 ..) (Ev.ite (fun _ => Ev.now _) (fun _ => ?_))
  exact Ev.bind (specHex_ev s) (Ev.bind (implHex_ev s) (Ev.pos rfl (Ev.neg (by simp) (Ev.now _))))

end Go.Proofs.Ytjommjfpjmhehaa.Pure
