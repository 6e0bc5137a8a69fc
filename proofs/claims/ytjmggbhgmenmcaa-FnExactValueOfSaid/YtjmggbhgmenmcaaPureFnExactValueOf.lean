/- FnExactValueOf returns true for all arguments: the program's ValueOf answers what the reference's answers, and leaves the list as it is. No conditions beyond the statement's own. -/
import Derived.Test.YtjmggbhgmenmcaaQcellsx11
import Derived.Test.YtjmggbhgmenmcaaBase
namespace Go.Proofs.Ytjmggbhgmenmcaa.Pure
open Go.RowKit Go.Proofs.Ytjmggbhgmenmcaa.Qcells Go.Proofs.YtjmggbhgmenmcaaW.PrintWords Go.Proofs.YtjmggbhgmenmcaaW.PrintLast Go.Proofs.YtjmggbhgmenmcaaW.PrintMore Go.Proofs.Ytjmggbhgmenmcaa.Base

theorem eqIntS_l0 (a b : List Int) (hlen : a.length = b.length) (hn : a.length ≤ 140737488355328) (d : Nat) :
    ∀ i : Nat, i + d = a.length → Ev (fun k => laws_eqIntS.l0 k a b (i : Int)) (decide (a.drop i = b.drop i)) := by
  induction d with
  | zero =>
    intro i hi
    refine Ev.step (fun _ => laws_eqIntS.l0.eq_2 ..) ?_
    refine Ev.neg (by omega) (Ev.some ?_)
    rw [List.drop_eq_nil_of_le (by omega), List.drop_eq_nil_of_le (by omega)]; rfl
  | succ d ih =>
    intro i hi
    refine Ev.step (fun _ => laws_eqIntS.l0.eq_2 ..) ?_
    refine Ev.pos (by omega) (Ev.pos (by omega) (Ev.pos (by omega) ?_))
    rw [rd_nat a i (by omega), rd_nat b i (by omega), w64_succ i (by omega), drop_eq_iff a b i (by omega) (by omega)]
    refine Ev.ite (fun h => ?_) (fun h => ?_)
    · rw [decide_eq_true h, Bool.true_and]; exact ih (i + 1) (by omega)
    · rw [decide_eq_false h]; exact Ev.now _
theorem eqIntS_ev (a b : List Int) (hn : a.length ≤ 140737488355328) : Ev (fun k => laws_eqIntS.f k a b) (decide (a = b)) := by
  refine Ev.congr (fun _ => laws_eqIntS.f.eq_1 ..) (Ev.ite (fun h => ?_) (fun h => ?_))
  · exact eqIntS_l0 a b (by omega) hn a.length 0 (by omega)
  · rw [decide_eq_false (fun e => h (by rw [e]))]; exact Ev.now _
theorem eqIntS_self (a : List Int) (hn : a.length ≤ 140737488355328) : Ev (fun k => laws_eqIntS.f k a a) true := by
  have h := eqIntS_ev a a hn
  rwa [decide_eq_true rfl] at h
theorem toIntS_l0 (a : List Int) (hn : a.length ≤ 140737488355328) (d : Nat) :
    ∀ i : Nat, i + d = a.length → Ev (fun k => laws_toIntS.l0 k a (a.take i ++ List.replicate (a.length - i) 0) (i : Int)) a := by
  induction d with
  | zero =>
    intro i hi
    refine Ev.step (fun _ => laws_toIntS.l0.eq_2 ..) ?_
    refine Ev.neg (by omega) (Ev.some ?_)
    rw [show a.length - i = 0 from by omega, List.take_of_length_le (by omega)]; simp
  | succ d ih =>
    intro i hi
    refine Ev.step (fun _ => laws_toIntS.l0.eq_2 ..) ?_
    refine Ev.pos (by omega) (Ev.pos (by omega) (Ev.pos (by simp; omega) ?_))
    rw [rd_nat a i (by omega), w64_succ i (by omega), Int.toNat_natCast, take_set_replicate a 0 i (by omega)]
    exact ih (i + 1) (by omega)
theorem toIntS_ev (a : List Int) (hn : a.length ≤ 35184372088832) : Ev (fun k => laws_toIntS.f k a) a := by
  refine Ev.congr (fun _ => laws_toIntS.f.eq_1 ..) (Ev.pos (by omega) (Ev.pos (by omega) ?_))
  have h := toIntS_l0 a (by omega) a.length 0 (by omega)
  simpa using h
theorem l01In_eq (n lo hi : Int) : spec_l01In.f n lo hi = some (decide (lo ≤ n ∧ n ≤ hi)) := by
  unfold spec_l01In.f
  by_cases h : n ≥ lo
  · rw [if_pos h]; congr 1; rw [decide_eq_decide]; exact ⟨fun h2 => ⟨h, h2⟩, fun h2 => h2.2⟩
  · rw [if_neg h]; congr 1; symm; rw [decide_eq_false_iff_not]; exact fun h2 => h h2.1
theorem within_eq (n lo hi : Int) : impl_within.f n lo hi = some (decide (lo ≤ n ∧ n ≤ hi)) := by
  unfold impl_within.f
  by_cases h : n ≥ lo
  · rw [if_pos h]; congr 1; rw [decide_eq_decide]; exact ⟨fun h2 => ⟨h, h2⟩, fun h2 => h2.2⟩
  · rw [if_neg h]; congr 1; symm; rw [decide_eq_false_iff_not]; exact fun h2 => h h2.1
/-- The nodes of a list from a node on: at most n are looked at. -/
def nodeM (w : Int) : Int := if 1 ≤ w / 2 ∧ w / 2 ≤ 20 then w / 2 else 0
def wordAt (l : List Int) (n : Int) : Int := if n = 0 then rd l 0 else rd l (3 * n + 2)
def nodesM (l : List Int) : Nat → Int → List Int
  | 0, _ => []
  | d + 1, n => if n = 0 then [] else if wordAt l n % 2 = 0 then n :: nodesM l d (nodeM (wordAt l n)) else nodesM l d (nodeM (wordAt l n))
theorem nodeM_range (w : Int) : 0 ≤ nodeM w ∧ nodeM w ≤ 20 := by
  unfold nodeM; split <;> omega
theorem nodesM_range (l : List Int) (d : Nat) : ∀ n : Int, 0 ≤ n → n ≤ 20 → (nodesM l d n).length ≤ d ∧ ∀ x ∈ nodesM l d n, 1 ≤ x ∧ x ≤ 20 := by
  induction d with
  | zero => intro n _ _; simp [nodesM]
  | succ d ih =>
    intro n h0 h1
    unfold nodesM
    obtain ⟨a, b⟩ := ih (nodeM (wordAt l n)) (nodeM_range _).1 (nodeM_range _).2
    split
    · simp
    · split
      · refine ⟨by simp; omega, fun x hx => ?_⟩
        rcases List.mem_cons.1 hx with rfl | hx
        · omega
        · exact b x hx
      · exact ⟨by omega, b⟩
theorem specNode_eq (w : Int) (hw : -9223372036854775808 ≤ w ∧ w ≤ 9223372036854775807) : spec_l06Node.f w = some (nodeM w) := by
  unfold spec_l06Node.f nodeM
  have hq : Int.tdiv w 2 = w / 2 ∨ (w < 0 ∧ Int.tdiv w 2 ≤ 0 ∧ w / 2 < 0 ∧ -9223372036854775808 ≤ Int.tdiv w 2) := by
    by_cases h : 0 ≤ w
    · left; exact Int.tdiv_eq_ediv_of_nonneg h
    · right
      have h1 := Int.mul_tdiv_add_tmod w 2
      have h2 := Int.tmod_nonneg 2 (show 0 ≤ -w by omega)
      rw [Int.neg_tmod] at h2
      have h3 := Int.tmod_lt_of_pos (-w) (b := 2) (by omega)
      rw [Int.neg_tmod] at h3
      omega
  rw [w64 (n := Int.tdiv w 2) (by omega) (by omega), l01In_eq, Option.bind_some]
  by_cases h : 0 ≤ Int.tdiv w 2 ∧ Int.tdiv w 2 ≤ 20
  · rw [decide_eq_true h, if_pos rfl]
    congr 1
    split <;> omega
  · rw [decide_eq_false h, if_neg (by simp)]
    congr 1
    split <;> omega
theorem implNode_eq (w : Int) : impl_nodeOf.f w = some (nodeM w) := by
  unfold impl_nodeOf.f nodeM
  rw [within_eq, Option.bind_some]
  by_cases h : 1 ≤ w / 2 ∧ w / 2 ≤ 20
  · rw [decide_eq_true h, if_pos rfl, if_pos h]
  · rw [decide_eq_false h, if_neg (by simp), if_neg h]
theorem specWord_eq (n : Int) (h0 : 0 ≤ n) (h1 : n ≤ 20) : spec_l06Word.f n = some (if n = 0 then 0 else 3 * n + 2) := by
  unfold spec_l06Word.f
  rw [w64 (n := 3 * n) (by omega) (by omega), w64 (by omega) (by omega)]
  split <;> rfl
theorem implWord_eq (n : Int) (h0 : 0 ≤ n) (h1 : n ≤ 20) : impl_wordCell.f n = some (if n = 0 then 0 else 3 * n + 2) := by
  unfold impl_wordCell.f
  rw [w64 (n := 3 * n) (by omega) (by omega), w64 (by omega) (by omega)]
  split <;> rfl
theorem tmod2 (w : Int) : Int.tmod w 2 = 0 ↔ w % 2 = 0 := by
  have h1 := Int.mul_tdiv_add_tmod w 2
  have h2 := Int.tmod_lt_of_pos w (b := 2) (by omega)
  have h3 := Int.tmod_lt_of_pos (-w) (b := 2) (by omega)
  rw [Int.neg_tmod] at h3
  omega
theorem wordAt_eq (l : List Int) (n : Int) (h : n ≠ 0) : wordAt l n = rd l (3 * n + 2) := by unfold wordAt; rw [if_neg h]
theorem specNodes_l0 (l : List Int) (hl : l.length = 63) (hw : ∀ x ∈ l, -9223372036854775808 ≤ x ∧ x ≤ 9223372036854775807) (d : Nat) :
    ∀ (j : Nat) (acc : List Int) (n : Int), j + d = 20 → acc.length ≤ j → 0 ≤ n → n ≤ 20 → Ev (fun k => spec_l06Nodes.l0 k l acc n (j : Int)) (acc ++ nodesM l d n) := by
  induction d with
  | zero =>
    intro j acc n hj _ _ _
    refine Ev.step (fun _ => spec_l06Nodes.l0.eq_2 ..) (Ev.neg (by omega) (Ev.step (fun _ => spec_l06Nodes.j1.eq_2 ..) (Ev.neg (by simp) (Ev.some ?_))))
    simp [nodesM]
  | succ d ih =>
    intro j acc n hj ha h0 h1
    refine Ev.step (fun _ => spec_l06Nodes.l0.eq_2 ..) (Ev.pos (by omega) (Ev.step (fun _ => spec_l06Nodes.j1.eq_2 ..) ?_))
    unfold nodesM
    by_cases hn : n = 0
    · refine Ev.neg (by simp [hn]) (Ev.some ?_)
      rw [if_pos hn]; simp
    · have hm := hw _ (rd_mem l (3 * n + 2) (by omega) (by omega))
      rw [if_neg hn, wordAt_eq l n hn]
      refine Ev.pos (by simpa using hn) (Ev.call ((specWord_eq n h0 h1).trans (by rw [if_neg hn])) (Ev.pos (by omega) (Ev.pos (by omega) ?_)))
      have hr := nodeM_range (rd l (3 * n + 2))
      by_cases h2 : rd l (3 * n + 2) % 2 = 0
      · refine Ev.pos ((tmod2 _).2 h2) (Ev.pos (by omega) (Ev.call (specNode_eq _ hm) ?_))
        rw [w64_succ j (by omega), if_pos h2]
        refine Ev.eq (ih (j + 1) (acc ++ [n]) _ (by omega) (by simp; omega) hr.1 hr.2) ?_
        simp
      · refine Ev.neg (fun z => h2 ((tmod2 _).1 z)) (Ev.call (specNode_eq _ hm) ?_)
        rw [w64_succ j (by omega), if_neg h2]
        exact ih (j + 1) acc _ (by omega) (by omega) hr.1 hr.2
theorem implNodes_l0 (l : List Int) (hl : l.length = 63) (d : Nat) :
    ∀ (j : Nat) (acc : List Int) (n : Int), j + d = 20 → acc.length ≤ j → 0 ≤ n → n ≤ 20 → Ev (fun k => impl_nodesOf.l0 k l acc n (j : Int)) (acc ++ nodesM l d n) := by
  induction d with
  | zero =>
    intro j acc n hj _ _ _
    refine Ev.step (fun _ => impl_nodesOf.l0.eq_2 ..) (Ev.neg (by omega) (Ev.step (fun _ => impl_nodesOf.j1.eq_2 ..) (Ev.neg (by simp) (Ev.some ?_))))
    simp [nodesM]
  | succ d ih =>
    intro j acc n hj ha h0 h1
    refine Ev.step (fun _ => impl_nodesOf.l0.eq_2 ..) (Ev.pos (by omega) (Ev.step (fun _ => impl_nodesOf.j1.eq_2 ..) ?_))
    unfold nodesM
    by_cases hn : n = 0
    · refine Ev.neg (by simp [hn]) (Ev.some ?_)
      rw [if_pos hn]; simp
    · rw [if_neg hn, wordAt_eq l n hn]
      refine Ev.pos (by simpa using hn) (Ev.call ((implWord_eq n h0 h1).trans (by rw [if_neg hn])) (Ev.pos (by omega) (Ev.pos (by omega) ?_)))
      have hr := nodeM_range (rd l (3 * n + 2))
      rw [and1]
      by_cases h2 : rd l (3 * n + 2) % 2 = 0
      · refine Ev.pos h2 (Ev.pos (by omega) (Ev.call (implNode_eq _) ?_))
        rw [w64_succ j (by omega), if_pos h2]
        refine Ev.eq (ih (j + 1) (acc ++ [n]) _ (by omega) (by simp; omega) hr.1 hr.2) ?_
        simp
      · refine Ev.neg h2 (Ev.call (implNode_eq _) ?_)
        rw [w64_succ j (by omega), if_neg h2]
        exact ih (j + 1) acc _ (by omega) (by omega) hr.1 hr.2
def nodesOfM (l : List Int) : List Int := if l.length = 63 then nodesM l 20 (nodeM (rd l 0)) else []
theorem specNodes_ev (l : List Int) (hw : ∀ x ∈ l, -9223372036854775808 ≤ x ∧ x ≤ 9223372036854775807) : Ev (fun k => spec_l06Nodes.f k l) (nodesOfM l) := by
  refine Ev.congr (fun _ => spec_l06Nodes.f.eq_1 ..) (Ev.call rfl ?_)
  unfold nodesOfM
  by_cases h : l.length = 63
  · rw [if_pos h]
    have hr := nodeM_range (rd l 0)
    exact Ev.pos (by omega) (Ev.pos (by omega) (Ev.call (specNode_eq _ (hw _ (rd_mem l 0 (by omega) (by omega)))) (specNodes_l0 l h hw 20 0 [] _ (by omega) (by simp) hr.1 hr.2)))
  · rw [if_neg h]; exact Ev.neg (by omega) (Ev.now _)
theorem implNodes_ev (l : List Int) : Ev (fun k => impl_nodesOf.f k l) (nodesOfM l) := by
  refine Ev.congr (fun _ => impl_nodesOf.f.eq_1 ..) (Ev.call rfl ?_)
  unfold nodesOfM
  by_cases h : l.length = 63
  · rw [if_pos h]
    have hr := nodeM_range (rd l 0)
    exact Ev.pos (by omega) (Ev.pos (by omega) (Ev.call (implNode_eq _) (implNodes_l0 l h 20 0 [] _ (by omega) (by simp) hr.1 hr.2)))
  · rw [if_neg h]; exact Ev.neg (by omega) (Ev.now _)
theorem nodesOfM_range (l : List Int) : (nodesOfM l).length ≤ 20 ∧ ∀ x ∈ nodesOfM l, 1 ≤ x ∧ x ≤ 20 ∧ l.length = 63 := by
  unfold nodesOfM
  split
  · obtain ⟨a, b⟩ := nodesM_range l 20 (nodeM (rd l 0)) (nodeM_range _).1 (nodeM_range _).2
    exact ⟨a, fun x hx => ⟨(b x hx).1, (b x hx).2, by assumption⟩⟩
  · simp
def valueM (l : List Int) (key : Int) : List Int → Int
  | [] => 0
  | n :: r => if rd l (3 * n) = key then wrap64 (rd l (3 * n + 1) + 1) else valueM l key r
theorem specValue_l0 (l : List Int) (key : Int) (hl : l.length = 63) (ns : List Int) (hr : ∀ x ∈ ns, 1 ≤ x ∧ x ≤ 20) (hn : ns.length ≤ 20) (d : Nat) :
    ∀ (j : Nat), j + d = ns.length → Ev (fun k => spec_ValueOf.l0 k l key ns (j : Int)) (valueM l key (ns.drop j)) := by
  induction d with
  | zero =>
    intro j hj
    refine Ev.step (fun _ => spec_ValueOf.l0.eq_2 ..) (Ev.neg (by omega) (Ev.some ?_))
    rw [List.drop_eq_nil_of_le (by omega)]; rfl
  | succ d ih =>
    intro j hj
    have hm := hr _ (List.getElem_mem (by omega : j < ns.length))
    refine Ev.step (fun _ => spec_ValueOf.l0.eq_2 ..) (Ev.pos (by omega) (Ev.pos (by omega) ?_))
    rw [rd_nat ns j (by omega), w64 (n := 3 * ns[j]) (by omega) (by omega), w64 (n := 3 * ns[j] + 1) (by omega) (by omega), w64_succ j (by omega), List.drop_eq_getElem_cons (i := j) (by omega)]
    refine Ev.pos (by omega) (Ev.pos (by omega) ?_)
    unfold valueM
    by_cases h : rd l (3 * ns[j]) = key
    · rw [if_pos h]; exact Ev.pos h (Ev.pos (by omega) (Ev.pos (by omega) (Ev.now _)))
    · rw [if_neg h]; exact Ev.neg h (ih (j + 1) (by omega))
theorem implValue_l0 (l : List Int) (key : Int) (hl : l.length = 63) (ns : List Int) (hr : ∀ x ∈ ns, 1 ≤ x ∧ x ≤ 20) (hn : ns.length ≤ 20) (d : Nat) :
    ∀ (j : Nat), j + d = ns.length → Ev (fun k => impl_ValueOf.l0 k l key ns (ns.length : Int) (j : Int)) (valueM l key (ns.drop j)) := by
  induction d with
  | zero =>
    intro j hj
    refine Ev.step (fun _ => impl_ValueOf.l0.eq_2 ..) (Ev.neg (by omega) (Ev.some ?_))
    rw [List.drop_eq_nil_of_le (by omega)]; rfl
  | succ d ih =>
    intro j hj
    have hm := hr _ (List.getElem_mem (by omega : j < ns.length))
    refine Ev.step (fun _ => impl_ValueOf.l0.eq_2 ..) (Ev.pos (by omega) (Ev.pos (by omega) (Ev.pos (by omega) ?_)))
    rw [rd_nat ns j (by omega), w64_succ j (by omega), List.drop_eq_getElem_cons (i := j) (by omega)]
    refine Ev.call (show impl_keyCell.f ns[j] = some (3 * ns[j]) from by unfold impl_keyCell.f; rw [w64 (by omega) (by omega)]) (Ev.pos (by omega) (Ev.pos (by omega) ?_))
    unfold valueM
    by_cases h : rd l (3 * ns[j]) = key
    · rw [if_pos h]
      refine Ev.pos h (Ev.call (show impl_valCell.f ns[j] = some (3 * ns[j] + 1) from by unfold impl_valCell.f; rw [w64 (n := 3 * ns[j]) (by omega) (by omega), w64 (by omega) (by omega)]) (Ev.pos (by omega) (Ev.pos (by omega) (Ev.now _))))
    · rw [if_neg h]; exact Ev.neg h (ih (j + 1) (by omega))
theorem specValue_ev (l : List Int) (key : Int) (hw : ∀ x ∈ l, -9223372036854775808 ≤ x ∧ x ≤ 9223372036854775807) : Ev (fun k => spec_ValueOf.f k l key) (valueM l key (nodesOfM l)) := by
  refine Ev.congr (fun _ => spec_ValueOf.f.eq_1 ..) (Ev.bind (specNodes_ev l hw) ?_)
  obtain ⟨a, b⟩ := nodesOfM_range l
  by_cases h : l.length = 63
  · exact specValue_l0 l key h (nodesOfM l) (fun x hx => ⟨(b x hx).1, (b x hx).2.1⟩) a (nodesOfM l).length 0 (by omega)
  · rw [show nodesOfM l = [] from by unfold nodesOfM; rw [if_neg h]]
    exact Ev.step (fun _ => spec_ValueOf.l0.eq_2 ..) (Ev.neg (by simp) (Ev.now _))
theorem implValue_ev (l : List Int) (key : Int) : Ev (fun k => impl_ValueOf.f k l key) (valueM l key (nodesOfM l)) := by
  refine Ev.congr (fun _ => impl_ValueOf.f.eq_1 ..) (Ev.bind (implNodes_ev l) ?_)
  obtain ⟨a, b⟩ := nodesOfM_range l
  by_cases h : l.length = 63
  · exact implValue_l0 l key h (nodesOfM l) (fun x hx => ⟨(b x hx).1, (b x hx).2.1⟩) a (nodesOfM l).length 0 (by omega)
  · rw [show nodesOfM l = [] from by unfold nodesOfM; rw [if_neg h]]
    exact Ev.step (fun _ => impl_ValueOf.l0.eq_2 ..) (Ev.neg (by simp) (Ev.now _))
theorem FnExactValueOf : laws_FnExactValueOf.Pure := by
  intro l key _ _ hw _
  apply Ev.rounds
  refine Ev.congr (fun _ => laws_FnExactValueOf.f.eq_1 ..) (Ev.ite (fun _ => Ev.now _) (fun h => ?_))
  have hw' : ∀ x ∈ l, -9223372036854775808 ≤ x ∧ x ≤ 9223372036854775807 := fun x hx => wf64 (hw x hx)
  have ht := toIntS_ev l (by omega)
  refine Ev.bind ht (Ev.bind (specValue_ev l key hw') (Ev.bind ht (Ev.bind (implValue_ev l key) (Ev.pos rfl (Ev.bind ht (Ev.bind (eqIntS_self l (by omega)) (Ev.pos rfl (Ev.now _))))))))

end Go.Proofs.Ytjmggbhgmenmcaa.Pure
