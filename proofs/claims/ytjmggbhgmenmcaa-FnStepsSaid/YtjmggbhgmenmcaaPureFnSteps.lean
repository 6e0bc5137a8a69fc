/- FnSteps returns true for all arguments: each step of a drawn task is what the document tells; keys of the list stay in order. No conditions beyond the statement's own. -/
import Derived.Test.YtjmggbhgmenmcaaQstx9
import Derived.Test.YtjmggbhgmenmcaaVBase
namespace Go.Proofs.Ytjmggbhgmenmcaa.Pure
open Go.RowKit Go.Proofs.Ytjmggbhgmenmcaa.Qst Go.Proofs.YtjmggbhgmenmcaaW.PrintWords Go.Proofs.YtjmggbhgmenmcaaW.PrintLast Go.Proofs.YtjmggbhgmenmcaaW.PrintMore Go.Proofs.Ytjmggbhgmenmcaa.Base

theorem byte_ok (l : List Int) (i h : Int) (hi : 0 ≤ i) (hl : l.length ≤ 140737488355328) :
    ∃ r i' h', spec_l01Byte.f l i h = some (r, i', h') ∧ 0 ≤ r ∧ r ≤ 255 ∧ 0 ≤ i' := by
  unfold spec_l01Byte.f
  by_cases c : i < (l.length : Int)
  · rw [if_pos c, if_pos hi]
    exact ⟨_, _, _, rfl, (and255 _).1, (and255 _).2, by rw [w64 (by omega) (by omega)]; omega⟩
  · rw [if_neg c]
    exact ⟨_, _, _, rfl, (and255 _).1, (and255 _).2, hi⟩
theorem below_ok (l : List Int) (i h n : Int) (hi : 0 ≤ i) (hl : l.length ≤ 140737488355328) :
    ∃ r i' h', spec_l01Below.f l i h n = some (r, i', h') ∧ 0 ≤ i' ∧ 0 ≤ r ∧ (0 < n → r < n) ∧ (n ≤ 0 → r = 0) := by
  unfold spec_l01Below.f
  by_cases c : n ≤ 0
  · rw [if_pos c]; exact ⟨_, _, _, rfl, hi, by omega, by omega, fun _ => rfl⟩
  · rw [if_neg c]
    by_cases c2 : n ≤ 256
    · rw [if_pos c2]
      obtain ⟨r, i1, h1, e, r0, r1, hi1⟩ := byte_ok l i h hi hl
      rw [e, Option.bind_some, if_neg (by omega)]
      have := tmod_in r n r0 (by omega)
      exact ⟨_, _, _, rfl, hi1, this.1, fun _ => this.2, by omega⟩
    · rw [if_neg c2]
      obtain ⟨x, i1, h1, e1, x0, x1, hi1⟩ := byte_ok l i h hi hl
      obtain ⟨y, i2, h2, e2, y0, y1, hi2⟩ := byte_ok l i1 h1 hi1 hl
      obtain ⟨z, i3, h3, e3, z0, z1, hi3⟩ := byte_ok l i2 h2 hi2 hl
      obtain ⟨w, i4, h4, e4, w0, w1, hi4⟩ := byte_ok l i3 h3 hi3 hl
      rw [e1, Option.bind_some, e2, Option.bind_some, e3, Option.bind_some, e4, Option.bind_some, if_neg (by omega)]
      have q1 : wrap64 (x * 16777216) = x * 16777216 := w64 (by omega) (by omega)
      have q2 : wrap64 (y * 65536) = y * 65536 := w64 (by omega) (by omega)
      have q3 : wrap64 (z * 256) = z * 256 := w64 (by omega) (by omega)
      simp only [q1, q2, q3]
      rw [w64 (n := x * 16777216 + y * 65536) (by omega) (by omega), w64 (n := x * 16777216 + y * 65536 + z * 256) (by omega) (by omega), w64 (n := x * 16777216 + y * 65536 + z * 256 + w) (by omega) (by omega)]
      have := tmod_in (x * 16777216 + y * 65536 + z * 256 + w) n (by omega) (by omega)
      exact ⟨_, _, _, rfl, hi4, this.1, fun _ => this.2, by omega⟩
theorem new_l0 (l : List Int) (d : Nat) :
    ∀ (j : Nat) (x : Int), j + d = l.length → ∃ h, Ev (fun k => spec_l01New.l0 k l x (j : Int)) (l, 0, h) := by
  induction d with
  | zero => intro j x hj; exact ⟨x, Ev.step (fun _ => spec_l01New.l0.eq_2 ..) (Ev.neg (by omega) (Ev.now _))⟩
  | succ d ih =>
    intro j x hj
    by_cases c : (j : Int) < 4000
    · obtain ⟨h, e⟩ := ih (j + 1) (Go.bits .and .i64 (wrap64 ((wrap64 ((wrap64 (x * 131)) + (wrap64 (rd l j)))) + 7)) 1073741823) (by omega)
      refine ⟨h, Ev.step (fun _ => spec_l01New.l0.eq_2 ..) (Ev.pos (by omega) (Ev.pos c (Ev.pos (by omega) ?_)))⟩
      rw [w64_succ j (by omega)]
      exact e
    · exact ⟨x, Ev.step (fun _ => spec_l01New.l0.eq_2 ..) (Ev.pos (by omega) (Ev.neg c (Ev.now _)))⟩
theorem new_ok (l : List Int) (_hl : l.length ≤ 140737488355328) : ∃ h, Ev (fun k => spec_l01New.f k l) (l, 0, h) := by
  obtain ⟨h, e⟩ := new_l0 l l.length 0 (wrap64 (34901 + (l.length : Int))) (by omega)
  exact ⟨h, Ev.congr (fun _ => spec_l01New.f.eq_1 ..) e⟩
theorem big_eq (l : List Int) : laws_big.f l = some (decide ((l.length : Int) > 1048576)) := rfl
theorem pickInt_ok (l : List Int) (i h : Int) (xs : List Int) (hx : 0 < xs.length) (hi : 0 ≤ i) (hl : l.length ≤ 140737488355328) :
    ∃ r i' h', spec_l01PickInt.f l i h xs = some (r, i', h') ∧ 0 ≤ i' ∧ r ∈ xs := by
  unfold spec_l01PickInt.f
  obtain ⟨r, i1, h1, e, hi1, r0, r1, _⟩ := below_ok l i h (xs.length : Int) hi hl
  rw [e, Option.bind_some, if_pos r0, if_pos (r1 (by omega))]
  exact ⟨_, _, _, rfl, hi1, rd_mem xs r r0 (r1 (by omega))⟩
theorem l01In_eq (n lo hi : Int) : spec_l01In.f n lo hi = some (decide (lo ≤ n ∧ n ≤ hi)) := by
  unfold spec_l01In.f
  by_cases h : n ≥ lo
  · rw [if_pos h]; congr 1; rw [decide_eq_decide]; exact ⟨fun h2 => ⟨h, h2⟩, fun h2 => h2.2⟩
  · rw [if_neg h]; congr 1; symm; rw [decide_eq_false_iff_not]; exact fun h2 => h h2.1
theorem within_eq (n lo hi : Int) : impl_within.f n lo hi = some (decide (lo ≤ n ∧ n ≤ hi)) := by
  unfold impl_within.f
  by_cases h : n ≥ lo
  · rw [if_pos h]; congr 1; rw [decide_eq_decide]; exact ⟨fun h2 => ⟨h, h2⟩, fun h2 => h2.2⟩
  · rw [if_neg h]; congr 1; symm; rw [decide_eq_false_iff_not]; exact fun h2 => h h2.1
/-- The nodes of a list from a node on: at most n are looked at. -/
def nodeM (w : Int) : Int := if 1 ≤ w / 2 ∧ w / 2 ≤ 20 then w / 2 else 0
def wordAt (l : List Int) (n : Int) : Int := if n = 0 then rd l 0 else rd l (3 * n + 2)
def nodesM (l : List Int) : Nat → Int → List Int
  | 0, _ => []
  | d + 1, n => if n = 0 then [] else if wordAt l n % 2 = 0 then n :: nodesM l d (nodeM (wordAt l n)) else nodesM l d (nodeM (wordAt l n))
theorem nodeM_range (w : Int) : 0 ≤ nodeM w ∧ nodeM w ≤ 20 := by
  unfold nodeM; split <;> omega
theorem nodesM_range (l : List Int) (d : Nat) : ∀ n : Int, 0 ≤ n → n ≤ 20 → (nodesM l d n).length ≤ d ∧ ∀ x ∈ nodesM l d n, 1 ≤ x ∧ x ≤ 20 := by
  induction d with
  | zero => intro n _ _; simp [nodesM]
  | succ d ih =>
    intro n h0 h1
    unfold nodesM
    obtain ⟨a, b⟩ := ih (nodeM (wordAt l n)) (nodeM_range _).1 (nodeM_range _).2
    split
    · simp
    · split
      · refine ⟨by simp; omega, fun x hx => ?_⟩
        rcases List.mem_cons.1 hx with rfl | hx
        · omega
        · exact b x hx
      · exact ⟨by omega, b⟩
theorem specNode_eq (w : Int) (hw : -9223372036854775808 ≤ w ∧ w ≤ 9223372036854775807) : spec_l06Node.f w = some (nodeM w) := by
  unfold spec_l06Node.f nodeM
  have hq : Int.tdiv w 2 = w / 2 ∨ (w < 0 ∧ Int.tdiv w 2 ≤ 0 ∧ w / 2 < 0 ∧ -9223372036854775808 ≤ Int.tdiv w 2) := by
    by_cases h : 0 ≤ w
    · left; exact Int.tdiv_eq_ediv_of_nonneg h
    · right
      have h1 := Int.mul_tdiv_add_tmod w 2
      have h2 := Int.tmod_nonneg 2 (show 0 ≤ -w by omega)
      rw [Int.neg_tmod] at h2
      have h3 := Int.tmod_lt_of_pos (-w) (b := 2) (by omega)
      rw [Int.neg_tmod] at h3
      omega
  rw [w64 (n := Int.tdiv w 2) (by omega) (by omega), l01In_eq, Option.bind_some]
  by_cases h : 0 ≤ Int.tdiv w 2 ∧ Int.tdiv w 2 ≤ 20
  · rw [decide_eq_true h, if_pos rfl]
    congr 1
    split <;> omega
  · rw [decide_eq_false h, if_neg (by simp)]
    congr 1
    split <;> omega
theorem implNode_eq (w : Int) : impl_nodeOf.f w = some (nodeM w) := by
  unfold impl_nodeOf.f nodeM
  rw [within_eq, Option.bind_some]
  by_cases h : 1 ≤ w / 2 ∧ w / 2 ≤ 20
  · rw [decide_eq_true h, if_pos rfl, if_pos h]
  · rw [decide_eq_false h, if_neg (by simp), if_neg h]
theorem specWord_eq (n : Int) (h0 : 0 ≤ n) (h1 : n ≤ 20) : spec_l06Word.f n = some (if n = 0 then 0 else 3 * n + 2) := by
  unfold spec_l06Word.f
  rw [w64 (n := 3 * n) (by omega) (by omega), w64 (by omega) (by omega)]
  split <;> rfl
theorem implWord_eq (n : Int) (h0 : 0 ≤ n) (h1 : n ≤ 20) : impl_wordCell.f n = some (if n = 0 then 0 else 3 * n + 2) := by
  unfold impl_wordCell.f
  rw [w64 (n := 3 * n) (by omega) (by omega), w64 (by omega) (by omega)]
  split <;> rfl
theorem tmod2 (w : Int) : Int.tmod w 2 = 0 ↔ w % 2 = 0 := by
  have h1 := Int.mul_tdiv_add_tmod w 2
  have h2 := Int.tmod_lt_of_pos w (b := 2) (by omega)
  have h3 := Int.tmod_lt_of_pos (-w) (b := 2) (by omega)
  rw [Int.neg_tmod] at h3
  omega
theorem wordAt_eq (l : List Int) (n : Int) (h : n ≠ 0) : wordAt l n = rd l (3 * n + 2) := by unfold wordAt; rw [if_neg h]
theorem specNodes_l0 (l : List Int) (hl : l.length = 63) (hw : ∀ x ∈ l, -9223372036854775808 ≤ x ∧ x ≤ 9223372036854775807) (d : Nat) :
    ∀ (j : Nat) (acc : List Int) (n : Int), j + d = 20 → acc.length ≤ j → 0 ≤ n → n ≤ 20 → Ev (fun k => spec_l06Nodes.l0 k l acc n (j : Int)) (acc ++ nodesM l d n) := by
  induction d with
  | zero =>
    intro j acc n hj _ _ _
    refine Ev.step (fun _ => spec_l06Nodes.l0.eq_2 ..) (Ev.neg (by omega) (Ev.step (fun _ => spec_l06Nodes.j1.eq_2 ..) (Ev.neg (by simp) (Ev.some ?_))))
    simp [nodesM]
  | succ d ih =>
    intro j acc n hj ha h0 h1
    refine Ev.step (fun _ => spec_l06Nodes.l0.eq_2 ..) (Ev.pos (by omega) (Ev.step (fun _ => spec_l06Nodes.j1.eq_2 ..) ?_))
    unfold nodesM
    by_cases hn : n = 0
    · refine Ev.neg (by simp [hn]) (Ev.some ?_)
      rw [if_pos hn]; simp
    · have hm := hw _ (rd_mem l (3 * n + 2) (by omega) (by omega))
      rw [if_neg hn, wordAt_eq l n hn]
      refine Ev.pos (by simpa using hn) (Ev.call ((specWord_eq n h0 h1).trans (by rw [if_neg hn])) (Ev.pos (by omega) (Ev.pos (by omega) ?_)))
      have hr := nodeM_range (rd l (3 * n + 2))
      by_cases h2 : rd l (3 * n + 2) % 2 = 0
      · refine Ev.pos ((tmod2 _).2 h2) (Ev.pos (by omega) (Ev.call (specNode_eq _ hm) ?_))
        rw [w64_succ j (by omega), if_pos h2]
        refine Ev.eq (ih (j + 1) (acc ++ [n]) _ (by omega) (by simp; omega) hr.1 hr.2) ?_
        simp
      · refine Ev.neg (fun z => h2 ((tmod2 _).1 z)) (Ev.call (specNode_eq _ hm) ?_)
        rw [w64_succ j (by omega), if_neg h2]
        exact ih (j + 1) acc _ (by omega) (by omega) hr.1 hr.2
theorem implNodes_l0 (l : List Int) (hl : l.length = 63) (d : Nat) :
    ∀ (j : Nat) (acc : List Int) (n : Int), j + d = 20 → acc.length ≤ j → 0 ≤ n → n ≤ 20 → Ev (fun k => impl_nodesOf.l0 k l acc n (j : Int)) (acc ++ nodesM l d n) := by
  induction d with
  | zero =>
    intro j acc n hj _ _ _
    refine Ev.step (fun _ => impl_nodesOf.l0.eq_2 ..) (Ev.neg (by omega) (Ev.step (fun _ => impl_nodesOf.j1.eq_2 ..) (Ev.neg (by simp) (Ev.some ?_))))
    simp [nodesM]
  | succ d ih =>
    intro j acc n hj ha h0 h1
    refine Ev.step (fun _ => impl_nodesOf.l0.eq_2 ..) (Ev.pos (by omega) (Ev.step (fun _ => impl_nodesOf.j1.eq_2 ..) ?_))
    unfold nodesM
    by_cases hn : n = 0
    · refine Ev.neg (by simp [hn]) (Ev.some ?_)
      rw [if_pos hn]; simp
    · rw [if_neg hn, wordAt_eq l n hn]
      refine Ev.pos (by simpa using hn) (Ev.call ((implWord_eq n h0 h1).trans (by rw [if_neg hn])) (Ev.pos (by omega) (Ev.pos (by omega) ?_)))
      have hr := nodeM_range (rd l (3 * n + 2))
      rw [and1]
      by_cases h2 : rd l (3 * n + 2) % 2 = 0
      · refine Ev.pos h2 (Ev.pos (by omega) (Ev.call (implNode_eq _) ?_))
        rw [w64_succ j (by omega), if_pos h2]
        refine Ev.eq (ih (j + 1) (acc ++ [n]) _ (by omega) (by simp; omega) hr.1 hr.2) ?_
        simp
      · refine Ev.neg h2 (Ev.call (implNode_eq _) ?_)
        rw [w64_succ j (by omega), if_neg h2]
        exact ih (j + 1) acc _ (by omega) (by omega) hr.1 hr.2
def nodesOfM (l : List Int) : List Int := if l.length = 63 then nodesM l 20 (nodeM (rd l 0)) else []
theorem specNodes_ev (l : List Int) (hw : ∀ x ∈ l, -9223372036854775808 ≤ x ∧ x ≤ 9223372036854775807) : Ev (fun k => spec_l06Nodes.f k l) (nodesOfM l) := by
  refine Ev.congr (fun _ => spec_l06Nodes.f.eq_1 ..) (Ev.call rfl ?_)
  unfold nodesOfM
  by_cases h : l.length = 63
  · rw [if_pos h]
    have hr := nodeM_range (rd l 0)
    exact Ev.pos (by omega) (Ev.pos (by omega) (Ev.call (specNode_eq _ (hw _ (rd_mem l 0 (by omega) (by omega)))) (specNodes_l0 l h hw 20 0 [] _ (by omega) (by simp) hr.1 hr.2)))
  · rw [if_neg h]; exact Ev.neg (by omega) (Ev.now _)
theorem implNodes_ev (l : List Int) : Ev (fun k => impl_nodesOf.f k l) (nodesOfM l) := by
  refine Ev.congr (fun _ => impl_nodesOf.f.eq_1 ..) (Ev.call rfl ?_)
  unfold nodesOfM
  by_cases h : l.length = 63
  · rw [if_pos h]
    have hr := nodeM_range (rd l 0)
    exact Ev.pos (by omega) (Ev.pos (by omega) (Ev.call (implNode_eq _) (implNodes_l0 l h 20 0 [] _ (by omega) (by simp) hr.1 hr.2)))
  · rw [if_neg h]; exact Ev.neg (by omega) (Ev.now _)
theorem nodesOfM_range (l : List Int) : (nodesOfM l).length ≤ 20 ∧ ∀ x ∈ nodesOfM l, 1 ≤ x ∧ x ≤ 20 ∧ l.length = 63 := by
  unfold nodesOfM
  split
  · obtain ⟨a, b⟩ := nodesM_range l 20 (nodeM (rd l 0)) (nodeM_range _).1 (nodeM_range _).2
    exact ⟨a, fun x hx => ⟨(b x hx).1, (b x hx).2, by assumption⟩⟩
  · simp
theorem ite_dec (p q : Prop) [Decidable p] [Decidable q] : (if decide p = true then some (decide q) else some false) = some (decide (p ∧ q)) := by
  by_cases hp : p <;> by_cases hq : q <;> simp [hp, hq]
def taskOkP (a0 a1 a2 a3 a4 a5 a6 a7 a8 : Int) : Prop := (1 ≤ a0 ∧ a0 ≤ 3) ∧ (1 ≤ a1 ∧ a1 ≤ 99) ∧ (0 ≤ a2 ∧ a2 ≤ 99) ∧ (1 ≤ a3 ∧ a3 ≤ 20) ∧ (0 ≤ a4 ∧ a4 ≤ 6) ∧ (0 ≤ a5 ∧ a5 ≤ 20) ∧ (0 ≤ a6 ∧ a6 ≤ 20) ∧ (0 ≤ a7 ∧ a7 ≤ 20) ∧ (0 ≤ a8 ∧ a8 ≤ 1)
instance (a0 a1 a2 a3 a4 a5 a6 a7 a8 : Int) : Decidable (taskOkP a0 a1 a2 a3 a4 a5 a6 a7 a8) := by unfold taskOkP; exact inferInstance
theorem specTaskOk_eq (a0 a1 a2 a3 a4 a5 a6 a7 a8 : Int) (a9 : Bool) (a10 : Int) : spec_TaskOk.f a0 a1 a2 a3 a4 a5 a6 a7 a8 a9 a10 = some (decide (taskOkP a0 a1 a2 a3 a4 a5 a6 a7 a8)) := by
  unfold spec_TaskOk.f
  simp only [l01In_eq, Option.bind_some, ite_dec]
  rfl
theorem implTaskOk_j0 (b : Bool) (a0 a1 a2 a3 a4 a5 a6 a7 a8 : Int) (a9 : Bool) (a10 : Int) :
    Ev (fun k => impl_TaskOk.j0 k b a0 a1 a2 a3 a4 a5 a6 a7 a8 a9 a10) (b && decide ((0 ≤ a4 ∧ a4 ≤ 6) ∧ (0 ≤ a5 ∧ a5 ≤ 20) ∧ (0 ≤ a6 ∧ a6 ≤ 20) ∧ (0 ≤ a7 ∧ a7 ≤ 20) ∧ (0 ≤ a8 ∧ a8 ≤ 1))) := by
  refine Ev.step (fun _ => impl_TaskOk.j0.eq_2 ..) (Ev.plain ?_)
  simp only [within_eq, Option.bind_some]
  by_cases h4 : 0 ≤ a4 ∧ a4 ≤ 6 <;> by_cases h5 : 0 ≤ a5 ∧ a5 ≤ 20 <;> by_cases h6 : 0 ≤ a6 ∧ a6 ≤ 20 <;> by_cases h7 : 0 ≤ a7 ∧ a7 ≤ 20 <;> by_cases h8 : 0 ≤ a8 ∧ a8 ≤ 1 <;> cases b <;> simp [h4, h5, h6, h7, h8]
theorem implTaskOk_ev (a0 a1 a2 a3 a4 a5 a6 a7 a8 : Int) (a9 : Bool) (a10 : Int) : Ev (fun k => impl_TaskOk.f k a0 a1 a2 a3 a4 a5 a6 a7 a8 a9 a10) (decide (taskOkP a0 a1 a2 a3 a4 a5 a6 a7 a8)) := by
  refine Ev.congr (fun _ => impl_TaskOk.f.eq_1 ..) ?_
  have no : ∀ p : Prop, ∀ [Decidable p], ¬ p → Ev (fun k => impl_TaskOk.j0 k false a0 a1 a2 a3 a4 a5 a6 a7 a8 a9 a10) (decide p) := fun p _ hp =>
    Ev.eq (implTaskOk_j0 false a0 a1 a2 a3 a4 a5 a6 a7 a8 a9 a10) (by rw [decide_eq_false hp]; rfl)
  refine Ev.call (within_eq ..) ?_
  by_cases h0 : 1 ≤ a0 ∧ a0 ≤ 3
  · refine Ev.pos (by rw [decide_eq_true h0]) (Ev.call (within_eq ..) ?_)
    by_cases h1 : 1 ≤ a1 ∧ a1 ≤ 99
    · refine Ev.pos (by rw [decide_eq_true h1]) (Ev.call (within_eq ..) ?_)
      by_cases h2 : 0 ≤ a2 ∧ a2 ≤ 99
      · refine Ev.pos (by rw [decide_eq_true h2]) (Ev.call (within_eq ..) (Ev.eq (implTaskOk_j0 _ a0 a1 a2 a3 a4 a5 a6 a7 a8 a9 a10) ?_))
        rw [← Bool.decide_and]
        apply decide_eq_decide.2
        unfold taskOkP
        exact ⟨fun h => ⟨h0, h1, h2, h⟩, fun h => h.2.2.2⟩
      · exact Ev.neg (by rw [decide_eq_false h2]; simp) (no _ (fun h => h2 h.2.2.1))
    · exact Ev.neg (by rw [decide_eq_false h1]; simp) (no _ (fun h => h1 h.2.1))
  · exact Ev.neg (by rw [decide_eq_false h0]; simp) (no _ (fun h => h0 h.1))
theorem specCellsOk_l0 (l : List Int) (hn : l.length ≤ 140737488355328) (d : Nat) :
    ∀ i : Nat, i + d = l.length → Ev (fun k => spec_CellsOk.l0 k l (i : Int)) (decide ((∀ x ∈ l.drop i, 0 ≤ x ∧ x ≤ 1000000000) ∧ 1 ≤ l.length ∧ l.length ≤ 80)) := by
  induction d with
  | zero =>
    intro i hi
    refine Ev.step (fun _ => spec_CellsOk.l0.eq_2 ..) (Ev.neg (by omega) (Ev.call (l01In_eq ..) (Ev.some ?_)))
    rw [decide_eq_decide, List.drop_eq_nil_of_le (by omega)]
    simp; omega
  | succ d ih =>
    intro i hi
    refine Ev.step (fun _ => spec_CellsOk.l0.eq_2 ..) (Ev.pos (by omega) (Ev.pos (by omega) (Ev.call (l01In_eq ..) ?_)))
    rw [rd_nat l i (by omega), w64_succ i (by omega), List.drop_eq_getElem_cons (i := i) (by omega)]
    by_cases h : 0 ≤ l[i] ∧ l[i] ≤ 1000000000
    · refine Ev.pos (by rw [decide_eq_true h]) (Ev.eq (ih (i + 1) (by omega)) ?_)
      rw [decide_eq_decide, List.forall_mem_cons]; simp only [h, true_and, and_self]
    · refine Ev.neg (by rw [decide_eq_false h]; simp) (Ev.some ?_)
      symm; rw [decide_eq_false_iff_not, List.forall_mem_cons]; exact fun h2 => h h2.1.1
theorem implIsNumber_eq (n : Int) : impl_isNumber.f n = some (decide (0 ≤ n ∧ n ≤ 1000000000)) := by
  unfold impl_isNumber.f; rw [within_eq, Option.bind_some]
theorem implCellsOk_l0 (l : List Int) (hn : l.length ≤ 140737488355328) (d : Nat) :
    ∀ i : Nat, i + d = l.length → Ev (fun k => impl_CellsOk.l0 k l l (l.length : Int) (i : Int)) (decide ((∀ x ∈ l.drop i, 0 ≤ x ∧ x ≤ 1000000000) ∧ 1 ≤ l.length ∧ l.length ≤ 80)) := by
  induction d with
  | zero =>
    intro i hi
    refine Ev.step (fun _ => impl_CellsOk.l0.eq_2 ..) (Ev.neg (by omega) (Ev.call (within_eq ..) (Ev.some ?_)))
    rw [decide_eq_decide, List.drop_eq_nil_of_le (by omega)]
    simp; omega
  | succ d ih =>
    intro i hi
    refine Ev.step (fun _ => impl_CellsOk.l0.eq_2 ..) (Ev.pos (by omega) (Ev.pos (by omega) (Ev.pos (by omega) (Ev.call (implIsNumber_eq ..) ?_))))
    rw [rd_nat l i (by omega), w64_succ i (by omega), List.drop_eq_getElem_cons (i := i) (by omega)]
    by_cases h : 0 ≤ l[i] ∧ l[i] ≤ 1000000000
    · refine Ev.pos (by rw [decide_eq_true h]) (Ev.eq (ih (i + 1) (by omega)) ?_)
      rw [decide_eq_decide, List.forall_mem_cons]; simp only [h, true_and, and_self]
    · refine Ev.neg (by rw [decide_eq_false h]; simp) (Ev.some ?_)
      symm; rw [decide_eq_false_iff_not, List.forall_mem_cons]; exact fun h2 => h h2.1.1
theorem specCellsOk_ev (l : List Int) (hn : l.length ≤ 140737488355328) : Ev (fun k => spec_CellsOk.f k l) (decide ((∀ x ∈ l, 0 ≤ x ∧ x ≤ 1000000000) ∧ 1 ≤ l.length ∧ l.length ≤ 80)) :=
  Ev.congr (fun _ => spec_CellsOk.f.eq_1 ..) (by simpa using specCellsOk_l0 l hn l.length 0 (by omega))
theorem implCellsOk_ev (l : List Int) (hn : l.length ≤ 140737488355328) : Ev (fun k => impl_CellsOk.f k l) (decide ((∀ x ∈ l, 0 ≤ x ∧ x ≤ 1000000000) ∧ 1 ≤ l.length ∧ l.length ≤ 80)) :=
  Ev.congr (fun _ => impl_CellsOk.f.eq_1 ..) (by simpa using implCellsOk_l0 l hn l.length 0 (by omega))
/-- One step of a task, in plain words: its eleven fields and the list. -/
abbrev TT : Type := Int × Int × Int × Int × Int × Int × Int × Int × Int × Bool × Int × List Int
def cellW (n : Int) : Int := if n = 0 then 0 else 3 * n + 2
def swapM (l : List Int) (n old w : Int) : Bool × List Int := if rd l (cellW n) = old then (true, l.set (cellW n).toNat w) else (false, l)
def nobodyM (l : List Int) (s0 s1 s2 s3 s4 s5 s6 s7 s8 : Int) (s9 : Bool) (s10 : Int) : TT :=
  if s0 = 2 then (s0, s1, s2, s3, 4, s5, s6, s7, s8, s9, s10, ((l.set (3 * s3).toNat s1).set (3 * s3 + 1).toNat s2).set (3 * s3 + 2).toNat (2 * s6))
  else (s0, s1, s2, s3, s4, s5, s6, s7, s8, true, 0, l)
def lookM (l : List Int) (s0 s1 s2 s3 s4 s5 s6 s7 s8 : Int) (s9 : Bool) (s10 : Int) : TT :=
  if s8 = 1 then (if (swapM l s5 (2 * s6) (2 * s7)).1 = true then (s0, s1, s2, s3, 1, s5, s7, s7, s8, s9, s10, (swapM l s5 (2 * s6) (2 * s7)).2) else (s0, s1, s2, s3, 0, s5, s6, s7, s8, s9, s10, (swapM l s5 (2 * s6) (2 * s7)).2))
  else if rd l (3 * s6) < s1 then (s0, s1, s2, s3, 1, s6, s7, s7, s8, s9, s10, l) else (s0, s1, s2, s3, 3, s5, s6, s7, s8, s9, s10, l)
def foundM (l : List Int) (s0 s1 s2 s3 s4 s5 s6 s7 s8 : Int) (s9 : Bool) (s10 : Int) : TT :=
  if rd l (3 * s6) = s1 then (if s0 = 1 then (s0, s1, s2, s3, s4, s5, s6, s7, s8, true, rd l (3 * s6 + 1) + 1, l) else if s0 = 2 then (s0, s1, s2, s3, s4, s5, s6, s7, s8, true, 0, l) else (s0, s1, s2, s3, 5, s5, s6, s7, s8, s9, s10, l))
  else nobodyM l s0 s1 s2 s3 s4 s5 s6 s7 s8 s9 s10
def stepM (l : List Int) (s0 s1 s2 s3 s4 s5 s6 s7 s8 : Int) (s9 : Bool) (s10 : Int) : TT :=
  if s4 = 0 then (s0, s1, s2, s3, 1, 0, nodeM (rd l 0), s7, s8, s9, s10, l)
  else if s4 = 1 then (if s6 = 0 then nobodyM l s0 s1 s2 s3 s4 s5 s6 s7 s8 s9 s10 else (s0, s1, s2, s3, 2, s5, s6, nodeM (rd l (cellW s6)), rd l (cellW s6) % 2, s9, s10, l))
  else if s4 = 2 then lookM l s0 s1 s2 s3 s4 s5 s6 s7 s8 s9 s10
  else if s4 = 3 then foundM l s0 s1 s2 s3 s4 s5 s6 s7 s8 s9 s10
  else if s4 = 4 then (if (swapM l s5 (2 * s6) (2 * s3)).1 = true then (s0, s1, s2, s3, s4, s5, s6, s7, s8, true, 1, (swapM l s5 (2 * s6) (2 * s3)).2) else (s0, s1, s2, s3, 0, s5, s6, s7, s8, s9, s10, (swapM l s5 (2 * s6) (2 * s3)).2))
  else if s4 = 5 then (if (swapM l s6 (2 * s7) (2 * s7 + 1)).1 = true then (s0, s1, s2, s3, 6, s5, s6, s7, s8, s9, s10, (swapM l s6 (2 * s7) (2 * s7 + 1)).2) else (s0, s1, s2, s3, 0, s5, s6, s7, s8, s9, s10, (swapM l s6 (2 * s7) (2 * s7 + 1)).2))
  else (s0, s1, s2, s3, s4, s5, s6, s7, s8, true, 1, (swapM l s5 (2 * s6) (2 * s7)).2)
theorem cellW_range (n : Int) (h0 : 0 ≤ n) (h1 : n ≤ 20) : 0 ≤ cellW n ∧ cellW n < 63 := by unfold cellW; split <;> omega
theorem specWord_c (n : Int) (h0 : 0 ≤ n) (h1 : n ≤ 20) : spec_l06Word.f n = some (cellW n) := specWord_eq n h0 h1
theorem implWord_c (n : Int) (h0 : 0 ≤ n) (h1 : n ≤ 20) : impl_wordCell.f n = some (cellW n) := implWord_eq n h0 h1
theorem specSwap_eq (l : List Int) (hl : l.length = 63) (n a b : Int) (h0 : 0 ≤ n) (h1 : n ≤ 20) : spec_l06Swap.f l n a b = some (swapM l n a b) := by
  have hc := cellW_range n h0 h1
  unfold spec_l06Swap.f swapM
  simp only [specWord_c n h0 h1, Option.bind_some]
  rw [if_pos hc.1, if_pos (by omega)]
  by_cases h : rd l (cellW n) = a
  · rw [if_pos h, if_pos h, if_pos hc.1, if_pos (by omega)]
  · rw [if_neg h, if_neg h]
theorem implSwap_eq (l : List Int) (hl : l.length = 63) (n a b : Int) (h0 : 0 ≤ n) (h1 : n ≤ 20) : impl_swapWord.f l n a b = some (swapM l n a b) := by
  have hc := cellW_range n h0 h1
  unfold impl_swapWord.f swapM
  simp only [implWord_c n h0 h1, Option.bind_some]
  rw [if_pos hc.1, if_pos (by omega)]
  by_cases h : rd l (cellW n) = a
  · rw [if_pos h, if_pos h]
  · rw [if_neg h, if_neg h]
section
variable (l : List Int) (hl : l.length = 63) (hc : ∀ x ∈ l, 0 ≤ x ∧ x ≤ 1000000000) (s0 s1 s2 s3 s4 s5 s6 s7 s8 : Int) (s9 : Bool) (s10 : Int)
theorem specNobody_eq (hl : l.length = 63) (h3 : 1 ≤ s3 ∧ s3 ≤ 20) (h6 : 0 ≤ s6 ∧ s6 ≤ 20) : spec_l06Nobody.f l s0 s1 s2 s3 s4 s5 s6 s7 s8 s9 s10 = some (nobodyM l s0 s1 s2 s3 s4 s5 s6 s7 s8 s9 s10) := by
  unfold spec_l06Nobody.f nobodyM
  rw [w64 (n := 3 * s3) (by omega) (by omega), w64 (n := 3 * s3 + 1) (by omega) (by omega), w64 (n := 3 * s3 + 2) (by omega) (by omega), w64 (n := 2 * s6) (by omega) (by omega)]
  by_cases h : s0 = 2
  · rw [if_pos h, if_pos h, if_pos (by omega), if_pos (by omega), if_pos (by omega), if_pos (by omega), if_pos (by omega), if_pos (by omega)]
  · rw [if_neg h, if_neg h]
theorem implNobody_eq (hl : l.length = 63) (h3 : 1 ≤ s3 ∧ s3 ≤ 20) (h6 : 0 ≤ s6 ∧ s6 ≤ 20) : impl_Task_nobody.f s0 s1 s2 s3 s4 s5 s6 s7 s8 s9 s10 l = some (nobodyM l s0 s1 s2 s3 s4 s5 s6 s7 s8 s9 s10) := by
  unfold impl_Task_nobody.f nobodyM impl_keyCell.f impl_valCell.f impl_Task_done.f
  simp only [implWord_c s3 (by omega) h3.2, Option.bind_some]
  rw [show cellW s3 = 3 * s3 + 2 from by unfold cellW; rw [if_neg (by omega)]]
  rw [w64 (n := 3 * s3) (by omega) (by omega), w64 (n := 3 * s3 + 1) (by omega) (by omega), w64 (n := 2 * s6) (by omega) (by omega)]
  by_cases h : s0 = 2
  · rw [if_pos h, if_pos h, if_pos (by omega), if_pos (by omega), if_pos (by omega), if_pos (by omega), if_pos (by omega), if_pos (by omega)]
  · rw [if_neg h, if_neg h]
theorem cell_range (hl : l.length = 63) (hc : ∀ x ∈ l, 0 ≤ x ∧ x ≤ 1000000000) (i : Int) (h0 : 0 ≤ i) (h1 : i < 63) : 0 ≤ rd l i ∧ rd l i ≤ 1000000000 := by
  obtain ⟨j, rfl⟩ := Int.eq_ofNat_of_zero_le h0
  rw [rd_nat l j (by omega)]
  exact hc _ (List.getElem_mem _)
theorem specFound_eq (hl : l.length = 63) (hc : ∀ x ∈ l, 0 ≤ x ∧ x ≤ 1000000000) (h3 : 1 ≤ s3 ∧ s3 ≤ 20) (h6 : 0 ≤ s6 ∧ s6 ≤ 20) : spec_l06Found.f l s0 s1 s2 s3 s4 s5 s6 s7 s8 s9 s10 = some (foundM l s0 s1 s2 s3 s4 s5 s6 s7 s8 s9 s10) := by
  have hr := cell_range l hl hc (3 * s6 + 1) (by omega) (by omega)
  unfold spec_l06Found.f foundM
  rw [w64 (n := 3 * s6) (by omega) (by omega), w64 (n := 3 * s6 + 1) (by omega) (by omega), w64 (n := rd l (3 * s6 + 1) + 1) (by omega) (by omega), if_pos (show 0 ≤ 3 * s6 by omega), if_pos (show 3 * s6 < (l.length : Int) by omega), if_pos (show 0 ≤ 3 * s6 + 1 by omega), if_pos (show 3 * s6 + 1 < (l.length : Int) by omega), specNobody_eq l s0 s1 s2 s3 s4 s5 s6 s7 s8 s9 s10 hl h3 h6]
  by_cases h : rd l (3 * s6) = s1
  · rw [if_pos h, if_pos h]
    by_cases h1 : s0 = 1
    · rw [if_pos h1, if_pos h1]
    · rw [if_neg h1, if_neg h1]
      by_cases h2 : s0 = 2
      · rw [if_pos h2, if_pos h2]
      · rw [if_neg h2, if_neg h2]
  · rw [if_neg h, if_neg h]; rfl
theorem implFound_eq (hl : l.length = 63) (hc : ∀ x ∈ l, 0 ≤ x ∧ x ≤ 1000000000) (h3 : 1 ≤ s3 ∧ s3 ≤ 20) (h6 : 0 ≤ s6 ∧ s6 ≤ 20) : impl_Task_found.f s0 s1 s2 s3 s4 s5 s6 s7 s8 s9 s10 l = some (foundM l s0 s1 s2 s3 s4 s5 s6 s7 s8 s9 s10) := by
  have hr := cell_range l hl hc (3 * s6 + 1) (by omega) (by omega)
  unfold impl_Task_found.f foundM impl_keyCell.f impl_valCell.f impl_Task_done.f
  simp only [Option.bind_some]
  rw [w64 (n := 3 * s6) (by omega) (by omega), w64 (n := 3 * s6 + 1) (by omega) (by omega), w64 (n := rd l (3 * s6 + 1) + 1) (by omega) (by omega), if_pos (show 0 ≤ 3 * s6 by omega), if_pos (show 3 * s6 < (l.length : Int) by omega), if_pos (show 0 ≤ 3 * s6 + 1 by omega), if_pos (show 3 * s6 + 1 < (l.length : Int) by omega), implNobody_eq l s0 s1 s2 s3 s4 s5 s6 s7 s8 s9 s10 hl h3 h6]
  by_cases h : rd l (3 * s6) = s1
  · rw [if_pos h, if_pos h]
    by_cases h1 : s0 = 1
    · rw [if_pos h1, if_pos h1]
    · rw [if_neg h1, if_neg h1]
      by_cases h2 : s0 = 2
      · rw [if_pos h2, if_pos h2]
      · rw [if_neg h2, if_neg h2]
  · rw [if_neg h, if_neg h]; rfl
theorem specLook_eq (hl : l.length = 63) (h5 : 0 ≤ s5 ∧ s5 ≤ 20) (h6 : 0 ≤ s6 ∧ s6 ≤ 20) (h7 : 0 ≤ s7 ∧ s7 ≤ 20) : spec_l06Look.f l s0 s1 s2 s3 s4 s5 s6 s7 s8 s9 s10 = some (lookM l s0 s1 s2 s3 s4 s5 s6 s7 s8 s9 s10) := by
  unfold spec_l06Look.f lookM
  rw [w64 (n := 2 * s6) (by omega) (by omega), w64 (n := 2 * s7) (by omega) (by omega), w64 (n := 3 * s6) (by omega) (by omega), specSwap_eq l hl s5 _ _ h5.1 h5.2, Option.bind_some, if_pos (show 0 ≤ 3 * s6 by omega), if_pos (show 3 * s6 < (l.length : Int) by omega)]
  by_cases h : s8 = 1
  · rw [if_pos h, if_pos h]
    by_cases h1 : (swapM l s5 (2 * s6) (2 * s7)).1 = true
    · rw [if_pos h1, if_pos h1]
    · rw [if_neg h1, if_neg h1]
  · rw [if_neg h, if_neg h]
    by_cases h1 : rd l (3 * s6) < s1
    · rw [if_pos h1, if_pos h1]
    · rw [if_neg h1, if_neg h1]
theorem specStep_eq (hl : l.length = 63) (hc : ∀ x ∈ l, 0 ≤ x ∧ x ≤ 1000000000) (hok : taskOkP s0 s1 s2 s3 s4 s5 s6 s7 s8) : spec_l06Step.f l s0 s1 s2 s3 s4 s5 s6 s7 s8 s9 s10 = some (stepM l s0 s1 s2 s3 s4 s5 s6 s7 s8 s9 s10) := by
  obtain ⟨h0, h1, h2, h3, h4, h5, h6, h7, h8⟩ := hok
  have r0 := cell_range l hl hc 0 (by omega) (by omega)
  have rw6 := cellW_range s6 h6.1 h6.2
  have r6 := cell_range l hl hc (cellW s6) rw6.1 rw6.2
  unfold spec_l06Step.f stepM
  rw [specNode_eq _ (by omega), specNobody_eq l s0 s1 s2 s3 s4 s5 s6 s7 s8 s9 s10 hl h3 h6, specWord_c s6 h6.1 h6.2, specLook_eq l s0 s1 s2 s3 s4 s5 s6 s7 s8 s9 s10 hl h5 h6 h7, specFound_eq l s0 s1 s2 s3 s4 s5 s6 s7 s8 s9 s10 hl hc h3 h6,
    w64 (n := 2 * s6) (by omega) (by omega), w64 (n := 2 * s3) (by omega) (by omega), w64 (n := 2 * s7) (by omega) (by omega), w64 (n := 2 * s7 + 1) (by omega) (by omega), specSwap_eq l hl s5 _ _ h5.1 h5.2, specSwap_eq l hl s6 _ _ h6.1 h6.2, specSwap_eq l hl s5 _ _ h5.1 h5.2]
  simp only [Option.bind_some]
  rw [specNode_eq _ (by omega), if_pos (show 0 < (l.length : Int) by omega), if_pos rw6.1, if_pos (show cellW s6 < (l.length : Int) by omega), Int.tmod_eq_emod_of_nonneg r6.1]
  simp only [Option.bind_some]
  repeat' split
  all_goals rfl
theorem implWalk_ev (hl : l.length = 63) (hc : ∀ x ∈ l, 0 ≤ x ∧ x ≤ 1000000000) (hok : taskOkP s0 s1 s2 s3 s4 s5 s6 s7 s8) (h34 : s4 < 3) : Ev (fun k => impl_Task_walk.f k s0 s1 s2 s3 s4 s5 s6 s7 s8 s9 s10 l) (stepM l s0 s1 s2 s3 s4 s5 s6 s7 s8 s9 s10) := by
  obtain ⟨h0, h1, h2, h3, h4, h5, h6, h7, h8⟩ := hok
  have rw6 := cellW_range s6 h6.1 h6.2
  have r6 := cell_range l hl hc (cellW s6) rw6.1 rw6.2
  have hbit : Go.bits .and .i64 (rd l (cellW s6)) 1 = rd l (cellW s6) % 2 := and1 _
  have hj : ∀ b : Bool, (b = true ↔ s4 = 1 ∧ s6 = 0) → (s4 = 1 ∨ s4 = 2) → Ev (fun k => impl_Task_walk.j0 k l b s0 s1 s2 s3 s4 s5 s6 s7 s8 s9 s10) (stepM l s0 s1 s2 s3 s4 s5 s6 s7 s8 s9 s10) := by
    intro b hb h12
    refine Ev.step (fun _ => impl_Task_walk.j0.eq_2 ..) (Ev.ite (fun hbt => ?_) (fun hbt => Ev.ite (fun e1 => ?_) (fun e1 => Ev.ite (fun e8 => ?_) (fun e8 => ?_))))
    · obtain ⟨e1, e2⟩ := hb.1 hbt
      unfold stepM
      rw [if_neg (show ¬ s4 = 0 by omega), if_pos e1, if_pos e2]
      exact Ev.call (implNobody_eq l s0 s1 s2 s3 s4 s5 s6 s7 s8 s9 s10 hl h3 h6) (Ev.now _)
    · have e6 : ¬ s6 = 0 := fun e2 => hbt (hb.2 ⟨e1, e2⟩)
      unfold stepM
      rw [if_neg (show ¬ s4 = 0 by omega), if_pos e1, if_neg e6]
      refine Ev.call (implWord_c s6 h6.1 h6.2) (Ev.pos rw6.1 (Ev.pos (by omega) (Ev.call (implNode_eq _) (Ev.some ?_))))
      rw [hbit]
    · unfold stepM lookM
      rw [if_neg (show ¬ s4 = 0 by omega), if_neg e1, if_pos (show s4 = 2 by omega), if_pos e8, w64 (n := 2 * s6) (by omega) (by omega), w64 (n := 2 * s7) (by omega) (by omega)]
      refine Ev.call (implSwap_eq l hl s5 _ _ h5.1 h5.2) (Ev.ite (fun e => Ev.some (by rw [if_pos e])) (fun e => Ev.some (by rw [if_neg e])))
    · unfold stepM lookM
      rw [if_neg (show ¬ s4 = 0 by omega), if_neg e1, if_pos (show s4 = 2 by omega), if_neg e8]
      refine Ev.call (a := 3 * s6) (by unfold impl_keyCell.f; rw [w64 (by omega) (by omega)]) (Ev.pos (by omega) (Ev.pos (by omega) (Ev.ite (fun e => Ev.some (by rw [if_pos e])) (fun e => Ev.some (by rw [if_neg e])))))
  refine Ev.congr (fun _ => impl_Task_walk.f.eq_1 ..) (Ev.ite (fun e0 => ?_) (fun e0 => Ev.ite (fun e1 => ?_) (fun e1 => ?_)))
  · refine Ev.pos (by omega) (Ev.call (implNode_eq _) (Ev.some ?_))
    unfold stepM; rw [if_pos e0]
  · exact hj _ (by simp [e1]) (.inl e1)
  · exact hj false (by simp [e1]) (by omega)
theorem implStep_ev (hl : l.length = 63) (hc : ∀ x ∈ l, 0 ≤ x ∧ x ≤ 1000000000) (hok : taskOkP s0 s1 s2 s3 s4 s5 s6 s7 s8) : Ev (fun k => impl_Task_step.f k s0 s1 s2 s3 s4 s5 s6 s7 s8 s9 s10 l) (stepM l s0 s1 s2 s3 s4 s5 s6 s7 s8 s9 s10) := by
  have hok' := hok
  obtain ⟨h0, h1, h2, h3, h4, h5, h6, h7, h8⟩ := hok
  refine Ev.congr (fun _ => impl_Task_step.f.eq_1 ..) (Ev.ite (fun e3 => ?_) (fun e3 => Ev.ite (fun e4 => ?_) (fun e4 => Ev.ite (fun e5 => ?_) (fun e5 => Ev.ite (fun e6 => ?_) (fun e6 => ?_)))))
  · refine Ev.call (implFound_eq l s0 s1 s2 s3 s4 s5 s6 s7 s8 s9 s10 hl hc h3 h6) (Ev.some ?_)
    unfold stepM; rw [if_neg (by omega), if_neg (by omega), if_neg (by omega), if_pos e3]
  · rw [w64 (n := 2 * s6) (by omega) (by omega), w64 (n := 2 * s3) (by omega) (by omega)]
    unfold stepM
    rw [if_neg (by omega), if_neg (by omega), if_neg (by omega), if_neg e3, if_pos e4]
    exact Ev.call (implSwap_eq l hl s5 _ _ h5.1 h5.2) (Ev.ite (fun e => Ev.call rfl (Ev.some (by rw [if_pos e]))) (fun e => Ev.some (by rw [if_neg e])))
  · rw [w64 (n := 2 * s7) (by omega) (by omega), w64 (n := 2 * s7 + 1) (by omega) (by omega)]
    unfold stepM
    rw [if_neg (by omega), if_neg (by omega), if_neg (by omega), if_neg e3, if_neg e4, if_pos e5]
    exact Ev.call (implSwap_eq l hl s6 _ _ h6.1 h6.2) (Ev.ite (fun e => Ev.some (by rw [if_pos e])) (fun e => Ev.some (by rw [if_neg e])))
  · rw [w64 (n := 2 * s6) (by omega) (by omega), w64 (n := 2 * s7) (by omega) (by omega)]
    unfold stepM
    rw [if_neg (by omega), if_neg (by omega), if_neg (by omega), if_neg e3, if_neg e4, if_neg e5]
    exact Ev.call (implSwap_eq l hl s5 _ _ h5.1 h5.2) (Ev.call rfl (Ev.now _))
  · exact Ev.bind (implWalk_ev l s0 s1 s2 s3 s4 s5 s6 s7 s8 s9 s10 hl hc hok' (by omega)) (Ev.now _)
end
def ST : Type := List Int × Int × Int × Int × Int × Int × Int × Int × Int × Int × Bool × Int
def turnT (t : TT) : List Int × Int × Int × Int × Int × Int × Int × Int × Int × Int × Bool × Int := (t.2.2.2.2.2.2.2.2.2.2.2, t.1, t.2.1, t.2.2.1, t.2.2.2.1, t.2.2.2.2.1, t.2.2.2.2.2.1, t.2.2.2.2.2.2.1, t.2.2.2.2.2.2.2.1, t.2.2.2.2.2.2.2.2.1, t.2.2.2.2.2.2.2.2.2.1, t.2.2.2.2.2.2.2.2.2.2.1)
def cellsP (l : List Int) : Prop := l.length = 63 ∧ ∀ x ∈ l, 0 ≤ x ∧ x ≤ 1000000000
instance (l : List Int) : Decidable (cellsP l) := by unfold cellsP; exact inferInstance
def stepTM (l : List Int) (s0 s1 s2 s3 s4 s5 s6 s7 s8 : Int) (s9 : Bool) (s10 : Int) : List Int × Int × Int × Int × Int × Int × Int × Int × Int × Int × Bool × Int :=
  if s9 = false ∧ taskOkP s0 s1 s2 s3 s4 s5 s6 s7 s8 ∧ cellsP l then turnT (stepM l s0 s1 s2 s3 s4 s5 s6 s7 s8 s9 s10) else (l, s0, s1, s2, s3, s4, s5, s6, s7, s8, s9, s10)
theorem specStepTask_ev (l : List Int) (hl : l.length ≤ 1048576) (s0 s1 s2 s3 s4 s5 s6 s7 s8 : Int) (s9 : Bool) (s10 : Int) : Ev (fun k => spec_StepTask.f k l s0 s1 s2 s3 s4 s5 s6 s7 s8 s9 s10) (stepTM l s0 s1 s2 s3 s4 s5 s6 s7 s8 s9 s10) := by
  unfold stepTM
  refine Ev.congr (fun _ => spec_StepTask.f.eq_1 ..) (Ev.call rfl (Ev.pos (by simp; omega) (Ev.call rfl (Ev.ite (fun h9 => Ev.some ?_) (fun h9 => Ev.call (specTaskOk_eq ..) (Ev.ite (fun hok => Ev.ite (fun h63 => Ev.bind (specCellsOk_ev l (by omega)) (Ev.ite (fun hc => ?_) (fun hc => Ev.some ?_))) (fun h63 => Ev.some ?_)) (fun hok => Ev.some ?_)))))))
  · rw [if_neg (fun h => by rw [h.1] at h9; simp at h9), List.nil_append]
  · have hok' := of_decide_eq_true hok
    have hc' := of_decide_eq_true hc
    have hl63 : l.length = 63 := by omega
    rw [if_pos ⟨by simpa using h9, hok', hl63, hc'.1⟩]
    exact Ev.call (specStep_eq l s0 s1 s2 s3 s4 s5 s6 s7 s8 s9 s10 hl63 hc'.1 hok') (Ev.now _)
  · rw [if_neg (fun h => hc (decide_eq_true ⟨h.2.2.2, by omega, by omega⟩)), List.nil_append]
  · rw [if_neg (fun h => h63 (by have := h.2.2.1; omega)), List.nil_append]
  · rw [if_neg (fun h => hok (decide_eq_true h.2.1)), List.nil_append]
theorem implStepTask_ev (l : List Int) (hl : l.length ≤ 1048576) (s0 s1 s2 s3 s4 s5 s6 s7 s8 : Int) (s9 : Bool) (s10 : Int) : Ev (fun k => impl_StepTask.f k l s0 s1 s2 s3 s4 s5 s6 s7 s8 s9 s10) (stepTM l s0 s1 s2 s3 s4 s5 s6 s7 s8 s9 s10) := by
  have hcp : impl_copyInts.f l = some l := by unfold impl_copyInts.f; rw [Option.bind_some, if_pos (by simp; omega)]; rfl
  unfold stepTM
  refine Ev.congr (fun _ => impl_StepTask.f.eq_1 ..) (Ev.call hcp (Ev.ite (fun h9 => Ev.some ?_) (fun h9 => Ev.bind (implTaskOk_ev ..) (Ev.ite (fun hok => Ev.ite (fun h63 => Ev.bind (implCellsOk_ev l (by omega)) (Ev.ite (fun hc => ?_) (fun hc => Ev.some ?_))) (fun h63 => Ev.some ?_)) (fun hok => Ev.some ?_)))))
  · rw [if_neg (fun h => by rw [h.1] at h9; simp at h9)]
  · have hok' := of_decide_eq_true hok
    have hc' := of_decide_eq_true hc
    have hl63 : l.length = 63 := by omega
    rw [if_pos ⟨by simpa using h9, hok', hl63, hc'.1⟩]
    exact Ev.bind (implStep_ev l s0 s1 s2 s3 s4 s5 s6 s7 s8 s9 s10 hl63 hc'.1 hok') (Ev.now _)
  · rw [if_neg (fun h => hc (decide_eq_true ⟨h.2.2.2, by omega, by omega⟩))]
  · rw [if_neg (fun h => h63 (by have := h.2.2.1; omega))]
  · rw [if_neg (fun h => hok (decide_eq_true h.2.1))]
theorem stepM_len (l : List Int) (s0 s1 s2 s3 s4 s5 s6 s7 s8 : Int) (s9 : Bool) (s10 : Int) : (turnT (stepM l s0 s1 s2 s3 s4 s5 s6 s7 s8 s9 s10)).1.length = l.length := by
  have hsw : ∀ n a b, (swapM l n a b).2.length = l.length := fun n a b => by unfold swapM; split <;> simp
  have hnb : (nobodyM l s0 s1 s2 s3 s4 s5 s6 s7 s8 s9 s10).2.2.2.2.2.2.2.2.2.2.2.length = l.length := by unfold nobodyM; split <;> simp
  unfold turnT stepM lookM foundM
  repeat' split
  all_goals first | exact hsw _ _ _ | exact hnb | rfl
theorem stepTM_len (l : List Int) (s0 s1 s2 s3 s4 s5 s6 s7 s8 : Int) (s9 : Bool) (s10 : Int) : (stepTM l s0 s1 s2 s3 s4 s5 s6 s7 s8 s9 s10).1.length = l.length := by
  unfold stepTM; split
  · exact stepM_len ..
  · rfl
theorem taskNew_eq (a b c d : Int) : spec_TaskNew.f a b c d = some (a, b, c, d, 0, 0, 0, 0, 0, false, 0) := rfl
theorem l06Task_ok (l : List Int) (hl : l.length ≤ 140737488355328) (i h n : Int) (hi : 0 ≤ i) : ∃ kind key val i' h', spec_l06Task.f l i h n = some (kind, key, val, n, 0, 0, 0, 0, 0, false, 0, i', h') ∧ 0 ≤ i' ∧ 1 ≤ kind ∧ kind ≤ 3 ∧ 1 ≤ key ∧ key ≤ 6 ∧ 0 ≤ val ∧ val ≤ 8 := by
  unfold spec_l06Task.f
  obtain ⟨q, i1, h1, e1, hi1, hq⟩ := pickInt_ok l i h [1, 2, 2, 2, 3] (by simp) hi hl
  obtain ⟨b, i2, h2, e2, hi2, b0, b1, _⟩ := below_ok l i1 h1 6 hi1 hl
  obtain ⟨v, i3, h3, e3, hi3, v0, v1, _⟩ := below_ok l i2 h2 9 hi2 hl
  have b1 := b1 (by omega)
  have v1 := v1 (by omega)
  rw [e1]
  simp only [Option.bind_some]
  rw [e2]
  simp only [Option.bind_some]
  rw [e3]
  simp only [Option.bind_some, taskNew_eq, w64 (n := 1 + b) (by omega) (by omega)]
  refine ⟨q, 1 + b, v, i3, h3, rfl, hi3, ?_, ?_, by omega, by omega, v0, by omega⟩ <;> simp at hq <;> omega
/-- A drawn list, a task and the place in the code. -/
abbrev RS : Type := List Int × Int × Int × Int × Int × Int × Int × Int × Int × Int × Bool × Int × Int × Int
theorem cellsP_put {l : List Int} (h : cellsP l) (i : Nat) (x : Int) (hx : 0 ≤ x ∧ x ≤ 1000000000) : cellsP (l.set i x) := by
  refine ⟨by rw [List.length_set]; exact h.1, fun y hy => ?_⟩
  rcases List.mem_or_eq_of_mem_set hy with h1 | rfl
  · exact h.2 y h1
  · exact hx
theorem swapM_cells {l : List Int} (h : cellsP l) (n a w : Int) (hw : 0 ≤ w ∧ w ≤ 1000000000) : cellsP (swapM l n a w).2 := by
  unfold swapM; split
  · exact cellsP_put h _ _ hw
  · exact h
theorem stepM_cells {l : List Int} (h : cellsP l) (s0 s1 s2 s3 s4 s5 s6 s7 s8 : Int) (s9 : Bool) (s10 : Int) (hok : taskOkP s0 s1 s2 s3 s4 s5 s6 s7 s8) : cellsP (turnT (stepM l s0 s1 s2 s3 s4 s5 s6 s7 s8 s9 s10)).1 := by
  obtain ⟨h0, h1, h2, h3, h4, h5, h6, h7, h8⟩ := hok
  have hnb : cellsP (nobodyM l s0 s1 s2 s3 s4 s5 s6 s7 s8 s9 s10).2.2.2.2.2.2.2.2.2.2.2 := by
    unfold nobodyM; split
    · exact cellsP_put (cellsP_put (cellsP_put h _ _ (by omega)) _ _ (by omega)) _ _ (by omega)
    · exact h
  unfold turnT stepM lookM foundM
  repeat' split
  all_goals first | exact h | exact hnb | exact swapM_cells h _ _ _ (by omega)
theorem stepTM_cells {l : List Int} (h : cellsP l) (s0 s1 s2 s3 s4 s5 s6 s7 s8 : Int) (s9 : Bool) (s10 : Int) : cellsP (stepTM l s0 s1 s2 s3 s4 s5 s6 s7 s8 s9 s10).1 := by
  unfold stepTM; split
  · rename_i hh
    exact stepM_cells h s0 s1 s2 s3 s4 s5 s6 s7 s8 s9 s10 hh.2.1
  · exact h
theorem some_l2 (l : List Int) (list : List Int) (ts : List S46) (hts : ts.length = 4) (hc : cellsP list) (x i h : Int) (hx : 0 ≤ x ∧ x < 4) (hi : 0 ≤ i) (d : Nat) :
    ∀ j : Nat, j + d = 4 → ∃ r : RS, Ev (fun k => spec_l06Some.l2 k list ts x (j : Int) l i h) r ∧ cellsP r.1 ∧ 0 ≤ r.2.2.2.2.2.2.2.2.2.2.2.2.1 := by
  induction d with
  | zero =>
    intro j hj
    exact ⟨_, Ev.step (fun _ => spec_l06Some.l2.eq_2 ..) (Ev.neg (by omega) (Ev.pos hx.1 (Ev.pos (by omega) (Ev.now _)))), hc, hi⟩
  | succ d ih =>
    intro j hj
    obtain ⟨r, er, q1, q2⟩ := ih (j + 1) (by omega)
    have hw : wrap64 (x + (j : Int)) = x + j := w64 (by omega) (by omega)
    have ht := tmod_in (x + (j : Int)) 4 (by omega) (by omega)
    by_cases c : (rd_T46 ts (Int.tmod (wrap64 (x + (j : Int))) 4)).f9 = true
    · refine ⟨r, Ev.step (fun _ => spec_l06Some.l2.eq_2 ..) (Ev.pos (by omega) (Ev.pos (by rw [hw]; omega) (Ev.pos (by rw [hw]; omega) (Ev.pos c ?_)))), q1, q2⟩
      rw [w64_succ j (by omega)]; exact er
    · exact ⟨_, Ev.step (fun _ => spec_l06Some.l2.eq_2 ..) (Ev.pos (by omega) (Ev.pos (by rw [hw]; omega) (Ev.pos (by rw [hw]; omega) (Ev.neg c (Ev.now _))))), hc, hi⟩
theorem some_l1 (l : List Int) (hl : l.length ≤ 140737488355328) (d : Nat) :
    ∀ (j : Nat) (list : List Int) (ts : List S46) (i h : Int), j + d = 40 → cellsP list → ts.length = 4 → 0 ≤ i → ∃ r : RS, Ev (fun k => spec_l06Some.l1 k list ts (j : Int) l i h) r ∧ cellsP r.1 ∧ 0 ≤ r.2.2.2.2.2.2.2.2.2.2.2.2.1 := by
  have fin : ∀ (list : List Int) (ts : List S46) (i h : Int), cellsP list → ts.length = 4 → 0 ≤ i → ∃ r : RS, Ev (fun k => (spec_l01Below.f l i h 4).bind fun bt => spec_l06Some.l2 k list ts bt.1 0 l bt.2.1 bt.2.2) r ∧ cellsP r.1 ∧ 0 ≤ r.2.2.2.2.2.2.2.2.2.2.2.2.1 := by
    intro list ts i h hc ht hi
    obtain ⟨x, i2, h2, e2, hi2, x0, x1, _⟩ := below_ok l i h 4 hi hl
    obtain ⟨r, er, q⟩ := some_l2 l list ts ht hc x i2 h2 ⟨x0, x1 (by omega)⟩ hi2 4 0 (by omega)
    exact ⟨r, Ev.call e2 er, q⟩
  induction d with
  | zero =>
    intro j list ts i h hj hc ht hi
    obtain ⟨b, i1, h1, e, hi1, b0, b1, _⟩ := below_ok l i h 40 hi hl
    obtain ⟨r, er, q⟩ := fin list ts i1 h1 hc ht hi1
    exact ⟨r, Ev.step (fun _ => spec_l06Some.l1.eq_2 ..) (Ev.call e (Ev.neg (by have := b1 (by omega); omega) er)), q⟩
  | succ d ih =>
    intro j list ts i h hj hc ht hi
    obtain ⟨b, i1, h1, e, hi1, b0, b1, _⟩ := below_ok l i h 40 hi hl
    by_cases c : (j : Int) < b
    · obtain ⟨x, i2, h2, e2, hi2, x0, x1, _⟩ := below_ok l i1 h1 4 hi1 hl
      have x1 := x1 (by omega)
      have hl63 := hc.1
      have hst := specStepTask_ev list (by omega) (rd_T46 ts x).f0 (rd_T46 ts x).f1 (rd_T46 ts x).f2 (rd_T46 ts x).f3 (rd_T46 ts x).f4 (rd_T46 ts x).f5 (rd_T46 ts x).f6 (rd_T46 ts x).f7 (rd_T46 ts x).f8 (rd_T46 ts x).f9 (rd_T46 ts x).f10
      have hcs := stepTM_cells hc (rd_T46 ts x).f0 (rd_T46 ts x).f1 (rd_T46 ts x).f2 (rd_T46 ts x).f3 (rd_T46 ts x).f4 (rd_T46 ts x).f5 (rd_T46 ts x).f6 (rd_T46 ts x).f7 (rd_T46 ts x).f8 (rd_T46 ts x).f9 (rd_T46 ts x).f10
      generalize stepTM list (rd_T46 ts x).f0 (rd_T46 ts x).f1 (rd_T46 ts x).f2 (rd_T46 ts x).f3 (rd_T46 ts x).f4 (rd_T46 ts x).f5 (rd_T46 ts x).f6 (rd_T46 ts x).f7 (rd_T46 ts x).f8 (rd_T46 ts x).f9 (rd_T46 ts x).f10 = M at hst hcs
      obtain ⟨r, er, q⟩ := ih (j + 1) M.1 (ts.set (x : Int).toNat ⟨M.2.1, M.2.2.1, M.2.2.2.1, M.2.2.2.2.1, M.2.2.2.2.2.1, M.2.2.2.2.2.2.1, M.2.2.2.2.2.2.2.1, M.2.2.2.2.2.2.2.2.1, M.2.2.2.2.2.2.2.2.2.1, M.2.2.2.2.2.2.2.2.2.2.1, M.2.2.2.2.2.2.2.2.2.2.2⟩) i2 h2 (by omega) hcs (by rw [List.length_set]; exact ht) hi2
      refine ⟨r, Ev.step (fun _ => spec_l06Some.l1.eq_2 ..) (Ev.call e (Ev.pos c (Ev.call e2 (Ev.pos x0 (Ev.pos (by omega) (Ev.bind hst ?_)))))), q⟩
      rw [w64_succ j (by omega)]
      exact er
    · obtain ⟨r, er, q⟩ := fin list ts i1 h1 hc ht hi1
      exact ⟨r, Ev.step (fun _ => spec_l06Some.l1.eq_2 ..) (Ev.call e (Ev.neg c er)), q⟩
theorem some_l0 (l : List Int) (hl : l.length ≤ 140737488355328) (list : List Int) (hc : cellsP list) (d : Nat) :
    ∀ (j : Nat) (ts : List S46) (i h : Int), j + d = 4 → ts.length = j → 0 ≤ i → ∃ r : RS, Ev (fun k => spec_l06Some.l0 k list ts (j : Int) l i h) r ∧ cellsP r.1 ∧ 0 ≤ r.2.2.2.2.2.2.2.2.2.2.2.2.1 := by
  induction d with
  | zero =>
    intro j ts i h hj ht hi
    obtain ⟨r, er, q⟩ := some_l1 l hl 40 0 list ts i h (by omega) hc (by omega) hi
    exact ⟨r, Ev.step (fun _ => spec_l06Some.l0.eq_2 ..) (Ev.neg (by omega) er), q⟩
  | succ d ih =>
    intro j ts i h hj ht hi
    obtain ⟨kind, key, val, i1, h1, e1, hi1, _⟩ := l06Task_ok l hl i h (wrap64 ((j : Int) + 1)) hi
    obtain ⟨r, er, q⟩ := ih (j + 1) (ts ++ [_]) i1 h1 (by omega) (by rw [List.length_append, ht]; rfl) hi1
    refine ⟨r, Ev.step (fun _ => spec_l06Some.l0.eq_2 ..) (Ev.pos (by omega) (Ev.call e1 (Ev.pos (by omega) ?_))), q⟩
    rw [w64_succ j (by omega)] at e1 ⊢
    exact er
theorem l06Some_ok (l : List Int) (hl : l.length ≤ 140737488355328) (i h : Int) (hi : 0 ≤ i) : ∃ r : RS, Ev (fun k => spec_l06Some.f k l i h) r ∧ cellsP r.1 ∧ 0 ≤ r.2.2.2.2.2.2.2.2.2.2.2.2.1 := by
  obtain ⟨r, er, q⟩ := some_l0 l hl (List.replicate 63 0) ⟨by simp, fun x hx => by rw [(List.mem_replicate.1 hx).2]; omega⟩ 4 0 [] i h (by omega) rfl hi
  exact ⟨r, Ev.congr (fun _ => spec_l06Some.f.eq_1 ..) (Ev.call (a := List.replicate 63 0) (by unfold spec_ListNew.f; rw [if_pos (by omega)]) er), q⟩
theorem l06Any_ok (l : List Int) (hl : l.length ≤ 140737488355328) (i h : Int) (hi : 0 ≤ i) : ∃ r : RS, Ev (fun k => spec_l06Any.f k l i h) r ∧ r.1.length ≤ 63 ∧ (∀ x ∈ r.1, 0 ≤ x ∧ x ≤ 1000000000) := by
  obtain ⟨b, i1, h1, e1, hi1, b0, b1, _⟩ := below_ok l i h 16 hi hl
  obtain ⟨x, i2, h2, e2, hi2, x0, x1, _⟩ := below_ok l i1 h1 60 hi1 hl
  have x1 := x1 (by omega)
  obtain ⟨r, er, hc, _⟩ := l06Some_ok l hl i2 h2 hi2
  have hs := hc.1
  have base : r.1.length ≤ 63 ∧ ∀ x ∈ r.1, 0 ≤ x ∧ x ≤ 1000000000 := ⟨by omega, hc.2⟩
  have key : ∃ q : RS, Ev (fun k => spec_l06Any.f k l i h) q ∧ (q.1.length ≤ 63 ∧ ∀ x ∈ q.1, 0 ≤ x ∧ x ≤ 1000000000) := by
    have st : ∀ {q : RS}, Ev _ q → Ev (fun k => spec_l06Any.f k l i h) q := fun {q} e => Ev.congr (fun _ => spec_l06Any.f.eq_1 ..) (Ev.call e1 (Ev.call e2 (Ev.bind er e)))
    by_cases c0 : b = 0
    · exact ⟨_, st (Ev.pos c0 (Ev.pos x0 (Ev.pos (by omega) (Ev.now _)))), by rw [List.length_set]; omega, fun y hy => by
        rcases List.mem_or_eq_of_mem_set hy with h1 | rfl
        · exact hc.2 y h1
        · rw [w64 (n := x * 7) (by omega) (by omega)]; omega⟩
    by_cases c1 : b = 1
    · exact ⟨_, st (Ev.neg c0 (Ev.pos c1 (Ev.now _))), base⟩
    by_cases c2 : b = 2
    · exact ⟨_, st (Ev.neg c0 (Ev.neg c1 (Ev.pos c2 (Ev.now _)))), base⟩
    by_cases c3 : b = 3
    · exact ⟨_, st (Ev.neg c0 (Ev.neg c1 (Ev.neg c2 (Ev.pos c3 (Ev.now _))))), base⟩
    by_cases c4 : b = 4
    · exact ⟨_, st (Ev.neg c0 (Ev.neg c1 (Ev.neg c2 (Ev.neg c3 (Ev.pos c4 (Ev.pos (by omega) (Ev.now _))))))), by rw [List.length_drop]; omega, fun y hy => hc.2 y (List.mem_of_mem_drop hy)⟩
    by_cases c5 : b = 5
    · exact ⟨_, st (Ev.neg c0 (Ev.neg c1 (Ev.neg c2 (Ev.neg c3 (Ev.neg c4 (Ev.pos c5 (Ev.now _))))))), base⟩
    by_cases c6 : b = 6
    · exact ⟨_, st (Ev.neg c0 (Ev.neg c1 (Ev.neg c2 (Ev.neg c3 (Ev.neg c4 (Ev.neg c5 (Ev.pos c6 (Ev.pos (by omega) (Ev.now _))))))))), by rw [List.length_set]; omega, fun y hy => by
        rcases List.mem_or_eq_of_mem_set hy with h1 | rfl
        · exact hc.2 y h1
        · omega⟩
    · exact ⟨_, st (Ev.neg c0 (Ev.neg c1 (Ev.neg c2 (Ev.neg c3 (Ev.neg c4 (Ev.neg c5 (Ev.neg c6 (Ev.now _)))))))), base⟩
  exact key
def keysM (l : List Int) : List Int := (nodesOfM l).map fun n => rd l (3 * n)
theorem keysM_length (l : List Int) : (keysM l).length ≤ 20 := by unfold keysM; rw [List.length_map]; exact (nodesOfM_range l).1
theorem specKeys_l0 (l : List Int) (hl : l.length = 63) (ns : List Int) (hr : ∀ x ∈ ns, 1 ≤ x ∧ x ≤ 20) (hn : ns.length ≤ 20) (d : Nat) :
    ∀ (j : Nat) (acc : List Int), j + d = ns.length → acc.length = j → Ev (fun k => spec_KeysOf.l0 k l ns acc (j : Int)) (acc ++ (ns.drop j).map fun n => rd l (3 * n)) := by
  induction d with
  | zero =>
    intro j acc hj _
    refine Ev.step (fun _ => spec_KeysOf.l0.eq_2 ..) (Ev.neg (by omega) (Ev.some ?_))
    rw [List.drop_eq_nil_of_le (by omega)]; simp
  | succ d ih =>
    intro j acc hj ha
    have hm := hr _ (List.getElem_mem (by omega : j < ns.length))
    refine Ev.step (fun _ => spec_KeysOf.l0.eq_2 ..) (Ev.pos (by omega) (Ev.pos (by omega) ?_))
    rw [rd_nat ns j (by omega), w64 (n := 3 * ns[j]) (by omega) (by omega), w64_succ j (by omega)]
    refine Ev.pos (by omega) (Ev.pos (by omega) (Ev.pos (by omega) (Ev.eq (ih (j + 1) _ (by omega) (by simp; omega)) ?_)))
    rw [List.drop_eq_getElem_cons (i := j) (by omega), List.map_cons, List.append_assoc]; rfl
theorem implKeys_l0 (l : List Int) (hl : l.length = 63) (ns : List Int) (hr : ∀ x ∈ ns, 1 ≤ x ∧ x ≤ 20) (hn : ns.length ≤ 20) (d : Nat) :
    ∀ (j : Nat) (acc : List Int), j + d = ns.length → acc.length = j → Ev (fun k => impl_KeysOf.l0 k l acc ns (ns.length : Int) (j : Int)) (acc ++ (ns.drop j).map fun n => rd l (3 * n)) := by
  induction d with
  | zero =>
    intro j acc hj _
    refine Ev.step (fun _ => impl_KeysOf.l0.eq_2 ..) (Ev.neg (by omega) (Ev.some ?_))
    rw [List.drop_eq_nil_of_le (by omega)]; simp
  | succ d ih =>
    intro j acc hj ha
    have hm := hr _ (List.getElem_mem (by omega : j < ns.length))
    refine Ev.step (fun _ => impl_KeysOf.l0.eq_2 ..) (Ev.pos (by omega) (Ev.pos (by omega) (Ev.pos (by omega) ?_)))
    rw [rd_nat ns j (by omega), w64_succ j (by omega)]
    refine Ev.call (show impl_keyCell.f ns[j] = some (3 * ns[j]) from by unfold impl_keyCell.f; rw [w64 (by omega) (by omega)]) ?_
    refine Ev.pos (by omega) (Ev.pos (by omega) (Ev.pos (by omega) (Ev.eq (ih (j + 1) _ (by omega) (by simp; omega)) ?_)))
    rw [List.drop_eq_getElem_cons (i := j) (by omega), List.map_cons, List.append_assoc]; rfl
theorem specKeys_ev (l : List Int) (hw : ∀ x ∈ l, -9223372036854775808 ≤ x ∧ x ≤ 9223372036854775807) : Ev (fun k => spec_KeysOf.f k l) (keysM l) := by
  refine Ev.congr (fun _ => spec_KeysOf.f.eq_1 ..) (Ev.bind (specNodes_ev l hw) ?_)
  obtain ⟨a, b⟩ := nodesOfM_range l
  unfold keysM
  by_cases h : l.length = 63
  · exact specKeys_l0 l h (nodesOfM l) (fun x hx => ⟨(b x hx).1, (b x hx).2.1⟩) a (nodesOfM l).length 0 [] (by omega) rfl
  · rw [show nodesOfM l = [] from by unfold nodesOfM; rw [if_neg h]]
    exact Ev.step (fun _ => spec_KeysOf.l0.eq_2 ..) (Ev.neg (by simp) (Ev.now _))
theorem implKeys_ev (l : List Int) : Ev (fun k => impl_KeysOf.f k l) (keysM l) := by
  refine Ev.congr (fun _ => impl_KeysOf.f.eq_1 ..) (Ev.bind (implNodes_ev l) ?_)
  obtain ⟨a, b⟩ := nodesOfM_range l
  unfold keysM
  by_cases h : l.length = 63
  · exact implKeys_l0 l h (nodesOfM l) (fun x hx => ⟨(b x hx).1, (b x hx).2.1⟩) a (nodesOfM l).length 0 [] (by omega) rfl
  · rw [show nodesOfM l = [] from by unfold nodesOfM; rw [if_neg h]]
    exact Ev.step (fun _ => impl_KeysOf.l0.eq_2 ..) (Ev.neg (by simp) (Ev.now _))
def valueM (l : List Int) (key : Int) : List Int → Int
  | [] => 0
  | n :: r => if rd l (3 * n) = key then wrap64 (rd l (3 * n + 1) + 1) else valueM l key r
theorem specValue_l0 (l : List Int) (key : Int) (hl : l.length = 63) (ns : List Int) (hr : ∀ x ∈ ns, 1 ≤ x ∧ x ≤ 20) (hn : ns.length ≤ 20) (d : Nat) :
    ∀ (j : Nat), j + d = ns.length → Ev (fun k => spec_ValueOf.l0 k l key ns (j : Int)) (valueM l key (ns.drop j)) := by
  induction d with
  | zero =>
    intro j hj
    refine Ev.step (fun _ => spec_ValueOf.l0.eq_2 ..) (Ev.neg (by omega) (Ev.some ?_))
    rw [List.drop_eq_nil_of_le (by omega)]; rfl
  | succ d ih =>
    intro j hj
    have hm := hr _ (List.getElem_mem (by omega : j < ns.length))
    refine Ev.step (fun _ => spec_ValueOf.l0.eq_2 ..) (Ev.pos (by omega) (Ev.pos (by omega) ?_))
    rw [rd_nat ns j (by omega), w64 (n := 3 * ns[j]) (by omega) (by omega), w64 (n := 3 * ns[j] + 1) (by omega) (by omega), w64_succ j (by omega), List.drop_eq_getElem_cons (i := j) (by omega)]
    refine Ev.pos (by omega) (Ev.pos (by omega) ?_)
    unfold valueM
    by_cases h : rd l (3 * ns[j]) = key
    · rw [if_pos h]; exact Ev.pos h (Ev.pos (by omega) (Ev.pos (by omega) (Ev.now _)))
    · rw [if_neg h]; exact Ev.neg h (ih (j + 1) (by omega))
theorem implValue_l0 (l : List Int) (key : Int) (hl : l.length = 63) (ns : List Int) (hr : ∀ x ∈ ns, 1 ≤ x ∧ x ≤ 20) (hn : ns.length ≤ 20) (d : Nat) :
    ∀ (j : Nat), j + d = ns.length → Ev (fun k => impl_ValueOf.l0 k l key ns (ns.length : Int) (j : Int)) (valueM l key (ns.drop j)) := by
  induction d with
  | zero =>
    intro j hj
    refine Ev.step (fun _ => impl_ValueOf.l0.eq_2 ..) (Ev.neg (by omega) (Ev.some ?_))
    rw [List.drop_eq_nil_of_le (by omega)]; rfl
  | succ d ih =>
    intro j hj
    have hm := hr _ (List.getElem_mem (by omega : j < ns.length))
    refine Ev.step (fun _ => impl_ValueOf.l0.eq_2 ..) (Ev.pos (by omega) (Ev.pos (by omega) (Ev.pos (by omega) ?_)))
    rw [rd_nat ns j (by omega), w64_succ j (by omega), List.drop_eq_getElem_cons (i := j) (by omega)]
    refine Ev.call (show impl_keyCell.f ns[j] = some (3 * ns[j]) from by unfold impl_keyCell.f; rw [w64 (by omega) (by omega)]) (Ev.pos (by omega) (Ev.pos (by omega) ?_))
    unfold valueM
    by_cases h : rd l (3 * ns[j]) = key
    · rw [if_pos h]
      refine Ev.pos h (Ev.call (show impl_valCell.f ns[j] = some (3 * ns[j] + 1) from by unfold impl_valCell.f; rw [w64 (n := 3 * ns[j]) (by omega) (by omega), w64 (by omega) (by omega)]) (Ev.pos (by omega) (Ev.pos (by omega) (Ev.now _))))
    · rw [if_neg h]; exact Ev.neg h (ih (j + 1) (by omega))
theorem specValue_ev (l : List Int) (key : Int) (hw : ∀ x ∈ l, -9223372036854775808 ≤ x ∧ x ≤ 9223372036854775807) : Ev (fun k => spec_ValueOf.f k l key) (valueM l key (nodesOfM l)) := by
  refine Ev.congr (fun _ => spec_ValueOf.f.eq_1 ..) (Ev.bind (specNodes_ev l hw) ?_)
  obtain ⟨a, b⟩ := nodesOfM_range l
  by_cases h : l.length = 63
  · exact specValue_l0 l key h (nodesOfM l) (fun x hx => ⟨(b x hx).1, (b x hx).2.1⟩) a (nodesOfM l).length 0 (by omega)
  · rw [show nodesOfM l = [] from by unfold nodesOfM; rw [if_neg h]]
    exact Ev.step (fun _ => spec_ValueOf.l0.eq_2 ..) (Ev.neg (by simp) (Ev.now _))
theorem implValue_ev (l : List Int) (key : Int) : Ev (fun k => impl_ValueOf.f k l key) (valueM l key (nodesOfM l)) := by
  refine Ev.congr (fun _ => impl_ValueOf.f.eq_1 ..) (Ev.bind (implNodes_ev l) ?_)
  obtain ⟨a, b⟩ := nodesOfM_range l
  by_cases h : l.length = 63
  · exact implValue_l0 l key h (nodesOfM l) (fun x hx => ⟨(b x hx).1, (b x hx).2.1⟩) a (nodesOfM l).length 0 (by omega)
  · rw [show nodesOfM l = [] from by unfold nodesOfM; rw [if_neg h]]
    exact Ev.step (fun _ => impl_ValueOf.l0.eq_2 ..) (Ev.neg (by simp) (Ev.now _))
theorem sameInts_l0 (a b : List Int) (hlen : a.length = b.length) (hn : a.length ≤ 140737488355328) (d : Nat) :
    ∀ i : Nat, i + d = a.length → Ev (fun k => laws_sameInts.l0 k a b (i : Int)) (decide (a.drop i = b.drop i)) := by
  induction d with
  | zero =>
    intro i hi
    refine Ev.step (fun _ => laws_sameInts.l0.eq_2 ..) ?_
    refine Ev.neg (by omega) (Ev.some ?_)
    rw [List.drop_eq_nil_of_le (by omega), List.drop_eq_nil_of_le (by omega)]; rfl
  | succ d ih =>
    intro i hi
    refine Ev.step (fun _ => laws_sameInts.l0.eq_2 ..) ?_
    refine Ev.pos (by omega) (Ev.pos (by omega) (Ev.pos (by omega) ?_))
    rw [rd_nat a i (by omega), rd_nat b i (by omega), w64_succ i (by omega), drop_eq_iff a b i (by omega) (by omega)]
    refine Ev.ite (fun h => ?_) (fun h => ?_)
    · rw [decide_eq_true h, Bool.true_and]; exact ih (i + 1) (by omega)
    · rw [decide_eq_false h]; exact Ev.now _
theorem sameInts_ev (a b : List Int) (hn : a.length ≤ 140737488355328) : Ev (fun k => laws_sameInts.f k a b) (decide (a = b)) := by
  refine Ev.congr (fun _ => laws_sameInts.f.eq_1 ..) (Ev.ite (fun h => ?_) (fun h => ?_))
  · exact sameInts_l0 a b (by omega) hn a.length 0 (by omega)
  · rw [decide_eq_false (fun e => h (by rw [e]))]; exact Ev.now _
theorem sameInts_self (a : List Int) (hn : a.length ≤ 140737488355328) : Ev (fun k => laws_sameInts.f k a a) true := by
  have h := sameInts_ev a a hn
  rwa [decide_eq_true rfl] at h
theorem FnSteps : laws_FnSteps.Pure := by
  intro l hl hm hw
  apply Ev.rounds
  have hlen : l.length ≤ 140737488355328 := by unfold maxLen at *; omega
  refine Ev.congr (fun _ => laws_FnSteps.f.eq_1 ..) (Ev.call (big_eq l) (Ev.ite (fun _ => Ev.now _) (fun hb => ?_)))
  obtain ⟨h, e⟩ := new_ok l hlen
  obtain ⟨r, er, r1, r2⟩ := l06Any_ok l hlen 0 h (by omega)
  obtain ⟨b, i1, h1, eb, hi1, b0, b1, _⟩ := below_ok l 0 h 6 (by omega) hlen
  obtain ⟨q, eq, q1, q2⟩ := l06Any_ok l hlen i1 h1 hi1
  have b1 := b1 (by omega)
  have hlt := stepTM_len r.1 r.2.1 r.2.2.1 r.2.2.2.1 r.2.2.2.2.1 r.2.2.2.2.2.1 r.2.2.2.2.2.2.1 r.2.2.2.2.2.2.2.1 r.2.2.2.2.2.2.2.2.1 r.2.2.2.2.2.2.2.2.2.1 r.2.2.2.2.2.2.2.2.2.2.1 r.2.2.2.2.2.2.2.2.2.2.2.1
  have hself := sameInts_self (stepTM r.1 r.2.1 r.2.2.1 r.2.2.2.1 r.2.2.2.2.1 r.2.2.2.2.2.1 r.2.2.2.2.2.2.1 r.2.2.2.2.2.2.2.1 r.2.2.2.2.2.2.2.2.1 r.2.2.2.2.2.2.2.2.2.1 r.2.2.2.2.2.2.2.2.2.2.1 r.2.2.2.2.2.2.2.2.2.2.2.1).1 (by omega)
  have hk := keysM_length q.1
  have hq : ∀ x ∈ q.1, -9223372036854775808 ≤ x ∧ x ≤ 9223372036854775807 := fun x hx => by have := q2 x hx; omega
  refine Ev.bind (Ev.congr (fun _ => spec_DrawStepTask.f.eq_1 ..) (Ev.bind e (Ev.bind er (Ev.now _)))) ?_
  refine Ev.bind (implStepTask_ev r.1 (by omega) ..) (Ev.bind (specStepTask_ev r.1 (by omega) ..) ?_)
  refine Ev.bind (Ev.congr (fun _ => spec_DrawValueOf.f.eq_1 ..) (Ev.bind e (Ev.call eb (Ev.bind eq (Ev.now _))))) ?_
  refine Ev.bind (Ev.congr (fun _ => spec_DrawTaskOk.f.eq_1 ..) (Ev.bind e (Ev.bind er (Ev.now _)))) ?_
  refine Ev.bind hself (Ev.pos rfl (Ev.pos (by simp) ?_))
  refine Ev.bind (implTaskOk_ev ..) (Ev.call (specTaskOk_eq ..) (Ev.pos (by simp) ?_))
  refine Ev.bind (implKeys_ev q.1) (Ev.bind (specKeys_ev q.1 hq) (Ev.bind (sameInts_self _ (by omega)) (Ev.pos rfl ?_)))
  refine Ev.bind (implValue_ev q.1 _) (Ev.bind (specValue_ev q.1 _ hq) (Ev.pos rfl ?_))
  refine Ev.bind (implTaskOk_ev ..) (Ev.call (specTaskOk_eq ..) (Ev.pos (by simp) ?_))
  exact Ev.call (a := List.replicate 63 0) (by unfold impl_ListNew.f; rw [if_pos (by omega)]) (Ev.pos (by simp) (Ev.call rfl (Ev.now _)))

end Go.Proofs.Ytjmggbhgmenmcaa.Pure
