/- FnExactInSomeOrder returns true for all arguments: the program answers InSomeOrder as the reference does, and leaves its argument as it is. No conditions beyond the statement's own. -/
import Derived.Test.YtfkhncoiifojnaaQsox3
import Derived.Test.YtfkhncoiifojnaaVBase
namespace Go.Proofs.Ytfkhncoiifojnaa.Pure
open Go.RowKit Go.Proofs.Ytfkhncoiifojnaa.Qso Go.Proofs.YtfkhncoiifojnaaW.PrintWords Go.Proofs.YtfkhncoiifojnaaW.PrintLast Go.Proofs.YtfkhncoiifojnaaW.PrintMore Go.Proofs.Ytfkhncoiifojnaa.Base

theorem rdC_nat (xs : List S67) (i : Nat) (h : i < xs.length) : rd_T67 xs (i : Int) = xs[i] := by
  unfold rd_T67
  rw [Int.toNat_natCast, List.getD_eq_getElem?_getD, List.getElem?_eq_getElem h]; rfl
theorem rdCL_nat (xs : List S91) (i : Nat) (h : i < xs.length) : rd_T91 xs (i : Int) = xs[i] := by
  unfold rd_T91
  rw [Int.toNat_natCast, List.getD_eq_getElem?_getD, List.getElem?_eq_getElem h]; rfl
def toC (x : S91) : S67 := ⟨⟨x.f0.f0, x.f0.f1, x.f0.f2, x.f0.f3, x.f0.f4, x.f0.f5, x.f0.f6, x.f0.f7, x.f0.f8, x.f0.f9, x.f0.f10⟩, x.f1, x.f2⟩
theorem toCallS_l0 (l : List S91) (hn : l.length ≤ 1048576) (d : Nat) :
    ∀ i : Nat, i + d = l.length → Ev (fun k => laws_toCallS.l0 k l ((l.take i).map toC ++ List.replicate (l.length - i) z67) (i : Int)) (l.map toC) := by
  induction d with
  | zero =>
    intro i hi
    refine Ev.step (fun _ => laws_toCallS.l0.eq_2 ..) (Ev.neg (by omega) (Ev.some ?_))
    rw [show l.length - i = 0 by omega, List.take_of_length_le (by omega)]; simp
  | succ d ih =>
    intro i hi
    have h : i < l.length := by omega
    refine Ev.step (fun _ => laws_toCallS.l0.eq_2 ..) (Ev.pos (by omega) (Ev.pos (by omega) (Ev.call rfl (Ev.pos (by simp; omega) ?_))))
    rw [rdCL_nat l i h, w64_succ i (by omega), Int.toNat_natCast]
    refine Ev.eq (q := l.map toC) (r := l.map toC) ?_ rfl
    have := ih (i + 1) (by omega)
    have e : ((l.take i).map toC ++ List.replicate (l.length - i) z67).set i (toC l[i]) = (l.take (i + 1)).map toC ++ List.replicate (l.length - (i + 1)) z67 := by
      rw [show l.length - i = (l.length - (i + 1)) + 1 by omega, List.replicate_succ, List.set_append_right _ _ (by simp; omega)]
      simp only [List.length_map, List.length_take, Nat.min_eq_left (show i ≤ l.length by omega), Nat.sub_self, List.set_cons_zero]
      rw [List.take_succ_eq_append_getElem h, List.map_append]; simp
    rw [← e] at this
    exact this
theorem toCallS_ev (l : List S91) (hn : l.length ≤ 1048576) : Ev (fun k => laws_toCallS.f k l) (l.map toC) := by
  refine Ev.congr (fun _ => laws_toCallS.f.eq_1 ..) (Ev.pos (by omega) (Ev.pos (by simp; omega) ?_))
  have := toCallS_l0 l hn l.length 0 (by omega)
  simpa using this
theorem eqCall_self (a0 a1 a2 a3 a4 a5 a6 a7 a8 : Int) (a9 : Bool) (a10 a11 a12 : Int) : laws_eqCall.f a0 a1 a2 a3 a4 a5 a6 a7 a8 a9 a10 a11 a12 a0 a1 a2 a3 a4 a5 a6 a7 a8 a9 a10 a11 a12 = some true := by
  unfold laws_eqCall.f laws_eqTask.f
  simp
theorem eqCallS_l0 (l : List S67) (hn : l.length ≤ 1048576) (d : Nat) : ∀ i : Nat, i + d = l.length → Ev (fun k => laws_eqCallS.l0 k l l (i : Int)) true := by
  induction d with
  | zero => intro i hi; exact Ev.step (fun _ => laws_eqCallS.l0.eq_2 ..) (Ev.neg (by omega) (Ev.now _))
  | succ d ih =>
    intro i hi
    refine Ev.step (fun _ => laws_eqCallS.l0.eq_2 ..) (Ev.pos (by omega) (Ev.pos (by omega) (Ev.pos (by omega) (Ev.call (eqCall_self ..) (Ev.pos rfl ?_)))))
    rw [w64_succ i (by omega)]
    exact ih (i + 1) (by omega)
theorem eqCallS_self (l : List S67) (hn : l.length ≤ 1048576) : Ev (fun k => laws_eqCallS.f k l l) true :=
  Ev.congr (fun _ => laws_eqCallS.f.eq_1 ..) (Ev.pos rfl (eqCallS_l0 l hn l.length 0 (by omega)))
theorem l01In_eq (n lo hi : Int) : spec_l01In.f n lo hi = some (decide (lo ≤ n ∧ n ≤ hi)) := by
  unfold spec_l01In.f
  by_cases h : n ≥ lo
  · rw [if_pos h]; congr 1; rw [decide_eq_decide]; exact ⟨fun h2 => ⟨h, h2⟩, fun h2 => h2.2⟩
  · rw [if_neg h]; congr 1; symm; rw [decide_eq_false_iff_not]; exact fun h2 => h h2.1
instance : DecidableEq S71 := fun a b => decidable_of_iff (a.f0 = b.f0 ∧ a.f1 = b.f1) ⟨fun h => by cases a; cases b; simp_all, fun h => by rw [h]; exact ⟨rfl, rfl⟩⟩
theorem rdP_nat (xs : List S71) (i : Nat) (h : i < xs.length) : rd_T71 xs (i : Int) = xs[i] := by
  unfold rd_T71
  rw [Int.toNat_natCast, List.getD_eq_getElem?_getD, List.getElem?_eq_getElem h]; rfl
theorem dropP (l : List S71) (i : Nat) (h : i < l.length) : l.drop i = rd_T71 l (i : Int) :: l.drop (i + 1) := by
  rw [List.drop_eq_getElem_cons h, rdP_nat l i h]
def isK (k : Int) (x : S71) : Bool := decide (x.f0 = k)
def ltK (k : Int) (x : S71) : Bool := decide (x.f0 < k)
def gtK (k : Int) (x : S71) : Bool := decide (x.f0 > k)
theorem dropP2 (l : List S71) (i : Nat) (h : i < l.length) : l.drop i = rd_T71 l (i : Int) :: l.drop (i + 1) := by
  rw [List.drop_eq_getElem_cons h, rdP_nat l i h]
theorem parted_l0 (l : List S71) (key : Int) (hn : l.length ≤ 1048576) (d : Nat) :
    ∀ (i : Nat) (b s a : List S71), i + d = l.length → b.length ≤ i → s.length ≤ i → a.length ≤ i → Ev (fun k => impl_parted.l0 k key b s a l (l.length : Int) (i : Int)) (b ++ (l.drop i).filter (ltK key), s ++ (l.drop i).filter (isK key), a ++ (l.drop i).filter (gtK key)) := by
  induction d with
  | zero =>
    intro i b s a hi _ _ _
    refine Ev.step (fun _ => impl_parted.l0.eq_2 ..) (Ev.neg (by omega) (Ev.some ?_))
    rw [List.drop_eq_nil_of_le (by omega)]; simp
  | succ d ih =>
    intro i b s a hi hb hs ha
    rw [dropP2 l i (by omega)]
    refine Ev.step (fun _ => impl_parted.l0.eq_2 ..) (Ev.pos (by omega) (Ev.pos (by omega) (Ev.pos (by omega) (Ev.ite (fun h => Ev.pos (by omega) ?_) (fun h => Ev.ite (fun h2 => Ev.pos (by omega) ?_) (fun h2 => Ev.pos (by omega) ?_))))))
    · rw [w64_succ i (by omega), List.filter_cons_of_pos (by unfold ltK; exact decide_eq_true h), List.filter_cons_of_neg (by unfold isK; simp; omega), List.filter_cons_of_neg (by unfold gtK; simp; omega)]
      have := ih (i + 1) (b ++ [rd_T71 l (i : Int)]) s a (by omega) (by simp; omega) (by omega) (by omega)
      rwa [List.append_assoc, List.singleton_append] at this
    · rw [w64_succ i (by omega), List.filter_cons_of_neg (by unfold ltK; simp; omega), List.filter_cons_of_neg (by unfold isK; simp; omega), List.filter_cons_of_pos (by unfold gtK; exact decide_eq_true h2)]
      have := ih (i + 1) b s (a ++ [rd_T71 l (i : Int)]) (by omega) (by omega) (by omega) (by simp; omega)
      rwa [List.append_assoc, List.singleton_append] at this
    · rw [w64_succ i (by omega), List.filter_cons_of_neg (by unfold ltK; simp; omega), List.filter_cons_of_pos (by unfold isK; exact decide_eq_true (by omega)), List.filter_cons_of_neg (by unfold gtK; simp; omega)]
      have := ih (i + 1) b (s ++ [rd_T71 l (i : Int)]) a (by omega) (by omega) (by simp; omega) (by omega)
      rwa [List.append_assoc, List.singleton_append] at this
theorem parted_ev (l : List S71) (key : Int) (hn : l.length ≤ 1048576) : Ev (fun k => impl_parted.f k l key) (l.filter (ltK key), l.filter (isK key), l.filter (gtK key)) := by
  have h := parted_l0 l key hn l.length 0 [] [] [] (by omega) (by simp) (by simp) (by simp)
  refine Ev.congr (fun _ => impl_parted.f.eq_1 ..) ?_
  simpa using h
def doM (l : List S71) (kind key val : Int) : List S71 × Int :=
  if kind = 1 then (l, impl_DoTask.fnd (l.filter (isK key)))
  else if kind = 3 ∧ 0 < (l.filter (isK key)).length then (l.filter (keepF key), 1)
  else if kind = 2 ∧ (l.filter (isK key)).length = 0 then (l.filter (ltK key) ++ [⟨key, val⟩] ++ l.filter (gtK key), 1)
  else (l, 0)
theorem implDoTask_ev (l : List S71) (hn : l.length ≤ 1048576) (a0 a1 a2 a3 a4 a5 a6 a7 a8 : Int) (a9 : Bool) (a10 : Int) : Ev (fun k => impl_DoTask.f k l a0 a1 a2 a3 a4 a5 a6 a7 a8 a9 a10) (doM l a0 a1 a2) := by
  refine Ev.congr (fun _ => impl_DoTask.f.eq_1 ..) (Ev.bind (parted_ev l a1 hn) ?_)
  have h1 := List.length_filter_le (ltK a1) l
  have h2 : (l.filter (gtK a1)).length ≤ l.length := List.length_filter_le _ _
  have h3 : (l.filter (ltK a1)).length + (l.filter (gtK a1)).length < 2000000 + l.length := by omega
  have hlen : (l.filter (ltK a1)).length + (l.filter (gtK a1)).length ≤ l.length := by
    clear h1 h2 h3 hn
    induction l with
    | nil => simp
    | cons x r ih =>
      by_cases c1 : x.f0 < a1
      · rw [List.filter_cons_of_pos (by unfold ltK; exact decide_eq_true c1), List.filter_cons_of_neg (by unfold gtK; simp; omega)]; simp; omega
      · by_cases c2 : x.f0 > a1
        · rw [List.filter_cons_of_neg (by unfold ltK; simp; omega), List.filter_cons_of_pos (by unfold gtK; exact decide_eq_true c2)]; simp; omega
        · rw [List.filter_cons_of_neg (by unfold ltK; simp; omega), List.filter_cons_of_neg (by unfold gtK; simp; omega)]; simp; omega
  refine Ev.pos ⟨by omega, by show (l.filter (ltK a1)).length + (l.filter (gtK a1)).length < 2000000; omega⟩ ?_
  unfold doM
  refine Ev.ite (fun h => Ev.some (by rw [if_pos h])) (fun h => ?_)
  rw [if_neg h]
  refine Ev.ite (fun h => Ev.some (by rw [if_pos h])) (fun h => ?_)
  rw [if_neg h]
  exact Ev.ite (fun h => Ev.some (by rw [if_pos h])) (fun h => Ev.some (by rw [if_neg h]))
def fndA (acc : Int) (l : List S71) : Int := if acc = 0 then impl_DoTask.fnd l else acc
theorem specDo_l4 (l : List S71) (hn : l.length ≤ 1048576) (a0 a1 a2 a3 a4 a5 a6 a7 a8 : Int) (a9 : Bool) (a10 : Int) (d : Nat) :
    ∀ (i : Nat) (acc : List S71) (g : Int), i + d = l.length → acc.length ≤ i → Ev (fun k => spec_DoTask.l4 k l acc g (i : Int) a0 a1 a2 a3 a4 a5 a6 a7 a8 a9 a10) (acc ++ (l.drop i).filter (keepF a1), if 0 < ((l.drop i).filter (isK a1)).length then 1 else g) := by
  induction d with
  | zero =>
    intro i acc g hi _
    refine Ev.step (fun _ => spec_DoTask.l4.eq_2 ..) (Ev.neg (by omega) (Ev.some ?_))
    rw [List.drop_eq_nil_of_le (by omega)]; simp
  | succ d ih =>
    intro i acc g hi ha
    rw [dropP2 l i (by omega)]
    refine Ev.step (fun _ => spec_DoTask.l4.eq_2 ..) (Ev.pos (by omega) (Ev.pos (by omega) (Ev.ite (fun h => ?_) (fun h => Ev.pos (by omega) ?_))))
    · rw [w64_succ i (by omega), List.filter_cons_of_neg (by unfold keepF; simp [h]), List.filter_cons_of_pos (by unfold isK; exact decide_eq_true h), if_pos (by simp)]
      refine Ev.eq (ih (i + 1) acc 1 (by omega) (by omega)) ?_
      congr 1
      by_cases c : 0 < ((l.drop (i + 1)).filter (isK a1)).length
      · rw [if_pos c]
      · rw [if_neg c]
    · rw [w64_succ i (by omega), List.filter_cons_of_pos (by unfold keepF; simpa using h), List.filter_cons_of_neg (by unfold isK; simpa using h)]
      have := ih (i + 1) (acc ++ [rd_T71 l (i : Int)]) g (by omega) (by simp; omega)
      rwa [List.append_assoc, List.singleton_append] at this
theorem specDo_l3 (l : List S71) (hn : l.length ≤ 1048576) (a0 a1 a2 a3 a4 a5 a6 a7 a8 : Int) (a9 : Bool) (a10 : Int) (d : Nat) :
    ∀ (i : Nat) (acc : List S71), i + d = l.length → acc.length ≤ 2000000 + i → Ev (fun k => spec_DoTask.l3 k l acc (i : Int) a0 a1 a2 a3 a4 a5 a6 a7 a8 a9 a10) (acc ++ (l.drop i).filter (gtK a1), 1) := by
  induction d with
  | zero =>
    intro i acc hi _
    refine Ev.step (fun _ => spec_DoTask.l3.eq_2 ..) (Ev.neg (by omega) (Ev.some ?_))
    rw [List.drop_eq_nil_of_le (by omega)]; simp
  | succ d ih =>
    intro i acc hi ha
    rw [dropP2 l i (by omega)]
    refine Ev.step (fun _ => spec_DoTask.l3.eq_2 ..) (Ev.pos (by omega) (Ev.pos (by omega) (Ev.ite (fun h => Ev.pos (by omega) ?_) (fun h => ?_))))
    · rw [w64_succ i (by omega), List.filter_cons_of_pos (by unfold gtK; exact decide_eq_true h)]
      have := ih (i + 1) (acc ++ [rd_T71 l (i : Int)]) (by omega) (by simp; omega)
      rwa [List.append_assoc, List.singleton_append] at this
    · rw [w64_succ i (by omega), List.filter_cons_of_neg (by unfold gtK; simpa using h)]
      exact ih (i + 1) acc (by omega) (by omega)
theorem specDo_l2 (l : List S71) (hn : l.length ≤ 1048576) (a0 a1 a2 a3 a4 a5 a6 a7 a8 : Int) (a9 : Bool) (a10 : Int) (d : Nat) :
    ∀ (i : Nat) (acc : List S71), i + d = l.length → acc.length ≤ i → Ev (fun k => spec_DoTask.l2 k l acc (i : Int) a0 a1 a2 a3 a4 a5 a6 a7 a8 a9 a10) ((acc ++ (l.drop i).filter (ltK a1)) ++ [⟨a1, a2⟩] ++ l.filter (gtK a1), 1) := by
  induction d with
  | zero =>
    intro i acc hi ha
    refine Ev.step (fun _ => spec_DoTask.l2.eq_2 ..) (Ev.neg (by omega) (Ev.pos (by omega) ?_))
    rw [List.drop_eq_nil_of_le (by omega), List.filter_nil, List.append_nil]
    have := specDo_l3 l hn a0 a1 a2 a3 a4 a5 a6 a7 a8 a9 a10 l.length 0 (acc ++ [⟨a1, a2⟩]) (by omega) (by simp; omega)
    rwa [List.drop_zero] at this
  | succ d ih =>
    intro i acc hi ha
    rw [dropP2 l i (by omega)]
    refine Ev.step (fun _ => spec_DoTask.l2.eq_2 ..) (Ev.pos (by omega) (Ev.pos (by omega) (Ev.ite (fun h => Ev.pos (by omega) ?_) (fun h => ?_))))
    · rw [w64_succ i (by omega), List.filter_cons_of_pos (by unfold ltK; exact decide_eq_true h)]
      have := ih (i + 1) (acc ++ [rd_T71 l (i : Int)]) (by omega) (by simp; omega)
      rwa [List.append_assoc acc, List.singleton_append] at this
    · rw [w64_succ i (by omega), List.filter_cons_of_neg (by unfold ltK; simpa using h)]
      exact ih (i + 1) acc (by omega) (by omega)
theorem specDo_l1 (l : List S71) (hn : l.length ≤ 1048576) (a0 a1 a2 a3 a4 a5 a6 a7 a8 : Int) (a9 : Bool) (a10 : Int) (d : Nat) :
    ∀ i : Nat, i + d = l.length → ((l.take i).filter (isK a1)).length = 0 → Ev (fun k => spec_DoTask.l1 k l [] (i : Int) a0 a1 a2 a3 a4 a5 a6 a7 a8 a9 a10) (if (l.filter (isK a1)).length = 0 then (l.filter (ltK a1) ++ [⟨a1, a2⟩] ++ l.filter (gtK a1), 1) else (l, 0)) := by
  induction d with
  | zero =>
    intro i hi h0
    refine Ev.step (fun _ => spec_DoTask.l1.eq_2 ..) (Ev.neg (by omega) ?_)
    rw [List.take_of_length_le (by omega)] at h0
    rw [if_pos h0]
    have := specDo_l2 l hn a0 a1 a2 a3 a4 a5 a6 a7 a8 a9 a10 l.length 0 [] (by omega) (by simp)
    rwa [List.drop_zero, List.nil_append] at this
  | succ d ih =>
    intro i hi h0
    refine Ev.step (fun _ => spec_DoTask.l1.eq_2 ..) (Ev.pos (by omega) (Ev.pos (by omega) (Ev.ite (fun h => Ev.call rfl (Ev.pos (by simp; omega) (Ev.some ?_))) (fun h => ?_))))
    · have hm : (l.filter (isK a1)).length ≠ 0 := by
        intro hc
        have := List.filter_eq_nil_iff.1 (List.length_eq_zero_iff.1 hc) (rd_T71 l (i : Int)) (by rw [rdP_nat l i (by omega)]; exact List.getElem_mem _)
        exact this (by unfold isK; exact decide_eq_true h)
      rw [if_neg hm, List.nil_append]
    · rw [w64_succ i (by omega)]
      refine ih (i + 1) (by omega) ?_
      rw [List.take_succ_eq_append_getElem (by omega), List.filter_append, List.length_append, h0, ← rdP_nat l i (by omega), List.filter_cons_of_neg (by unfold isK; simpa using h)]; rfl
theorem specDo_l0 (l : List S71) (hn : l.length ≤ 1048576) (a0 a1 a2 a3 a4 a5 a6 a7 a8 : Int) (a9 : Bool) (a10 : Int) (hk : 1 ≤ a0 ∧ a0 ≤ 3) (d : Nat) :
    ∀ (i : Nat) (g : Int), i + d = l.length → fndA g ((l.drop i).filter (isK a1)) = impl_DoTask.fnd (l.filter (isK a1)) → Ev (fun k => spec_DoTask.l0 k l [] g (i : Int) a0 a1 a2 a3 a4 a5 a6 a7 a8 a9 a10) (doM l a0 a1 a2) := by
  induction d with
  | zero =>
    intro i g hi hg
    rw [List.drop_eq_nil_of_le (by omega)] at hg
    have hg' : g = impl_DoTask.fnd (l.filter (isK a1)) := by
      rw [← hg]; unfold fndA
      by_cases c : g = 0
      · rw [if_pos c, c]; rfl
      · rw [if_neg c]
    unfold doM
    refine Ev.step (fun _ => spec_DoTask.l0.eq_2 ..) (Ev.neg (by omega) (Ev.ite (fun h => Ev.pos (by simp; omega) (Ev.some ?_)) (fun h => Ev.ite (fun h2 => ?_) (fun h2 => ?_))))
    · rw [if_pos h, List.nil_append, hg']
    · rw [if_neg h, if_neg (by omega)]
      refine Ev.eq (specDo_l1 l hn a0 a1 a2 a3 a4 a5 a6 a7 a8 a9 a10 l.length 0 (by omega) (by simp)) ?_
      by_cases c : (l.filter (isK a1)).length = 0
      · rw [if_pos c, if_pos ⟨h2, c⟩]
      · rw [if_neg c, if_neg (fun z => c z.2)]
    · rw [if_neg h]
      have := specDo_l4 l hn a0 a1 a2 a3 a4 a5 a6 a7 a8 a9 a10 l.length 0 [] 0 (by omega) (by simp)
      rw [List.drop_zero, List.nil_append] at this
      refine Ev.eq this ?_
      by_cases c : 0 < (l.filter (isK a1)).length
      · rw [if_pos c, if_pos ⟨by omega, c⟩]
      · rw [if_neg c, if_neg (fun z => c z.2), if_neg (fun z => h2 z.1)]
        congr 1
        refine List.filter_eq_self.2 fun x hx => ?_
        have := List.filter_eq_nil_iff.1 (List.length_eq_zero_iff.1 (by omega : (l.filter (isK a1)).length = 0)) x hx
        unfold isK at this
        unfold keepF
        simpa using this
  | succ d ih =>
    intro i g hi hg
    rw [dropP2 l i (by omega)] at hg
    refine Ev.step (fun _ => spec_DoTask.l0.eq_2 ..) (Ev.pos (by omega) (Ev.pos (by omega) (Ev.ite (fun h => Ev.ite (fun h2 => ?_) (fun h2 => ?_)) (fun h => ?_))))
    · rw [w64_succ i (by omega)]
      refine ih (i + 1) _ (by omega) ?_
      rw [List.filter_cons_of_pos (by unfold isK; exact decide_eq_true h)] at hg
      rw [← hg, h2]
      unfold fndA
      rw [if_pos rfl, impl_DoTask.fnd]
    · rw [w64_succ i (by omega)]
      refine ih (i + 1) _ (by omega) ?_
      rw [← hg]; unfold fndA; rw [if_neg h2, if_neg h2]
    · rw [w64_succ i (by omega)]
      refine ih (i + 1) _ (by omega) ?_
      rw [List.filter_cons_of_neg (by unfold isK; simpa using h)] at hg
      exact hg
theorem specDoTask_ev (l : List S71) (hn : l.length ≤ 1048576) (a0 a1 a2 a3 a4 a5 a6 a7 a8 : Int) (a9 : Bool) (a10 : Int) : Ev (fun k => spec_DoTask.f k l a0 a1 a2 a3 a4 a5 a6 a7 a8 a9 a10) (doM l a0 a1 a2) := by
  refine Ev.congr (fun _ => spec_DoTask.f.eq_1 ..) (Ev.call rfl (Ev.call (l01In_eq ..) (Ev.ite (fun h => ?_) (fun h => Ev.pos (by simp; omega) (Ev.some ?_)))))
  · have := specDo_l0 l hn a0 a1 a2 a3 a4 a5 a6 a7 a8 a9 a10 (of_decide_eq_true h) l.length 0 0 (by omega) (by rw [List.drop_zero]; unfold fndA; rw [if_pos rfl])
    exact this
  · have hk : ¬ (1 ≤ a0 ∧ a0 ≤ 3) := fun z => h (decide_eq_true z)
    unfold doM
    rw [if_neg (by omega), if_neg (by omega), if_neg (by omega), List.nil_append]
theorem doM_len (l : List S71) (kind key val : Int) : (doM l kind key val).1.length ≤ l.length + 1 := by
  unfold doM
  by_cases h1 : kind = 1
  · rw [if_pos h1]; simp
  · rw [if_neg h1]
    by_cases h2 : kind = 3 ∧ 0 < (l.filter (isK key)).length
    · rw [if_pos h2]; exact Nat.le_succ_of_le (List.length_filter_le _ _)
    · rw [if_neg h2]
      by_cases h3 : kind = 2 ∧ (l.filter (isK key)).length = 0
      · rw [if_pos h3]
        have : (l.filter (ltK key)).length + (l.filter (gtK key)).length ≤ l.length := by
          clear h1 h2 h3
          induction l with
          | nil => simp
          | cons x r ih =>
            by_cases c1 : x.f0 < key
            · rw [List.filter_cons_of_pos (by unfold ltK; exact decide_eq_true c1), List.filter_cons_of_neg (by unfold gtK; simp; omega)]; simp; omega
            · by_cases c2 : x.f0 > key
              · rw [List.filter_cons_of_neg (by unfold ltK; simp; omega), List.filter_cons_of_pos (by unfold gtK; exact decide_eq_true c2)]; simp; omega
              · rw [List.filter_cons_of_neg (by unfold ltK; simp; omega), List.filter_cons_of_neg (by unfold gtK; simp; omega)]; simp; omega
        simp; omega
      · rw [if_neg h3]; simp
/-- May a call come ahead of all the others that are left? -/
def mayB (cs : List S67) (left : List Int) (i : Int) : Bool := left.all fun o => decide (o = i) || !decide ((rd_T67 cs o).f2 < (rd_T67 cs i).f1)
def opB (cs : List S67) (Q : List S71) (i : Int) : List S71 × Int := doM Q (rd_T67 cs i).f0.f0 (rd_T67 cs i).f0.f1 (rd_T67 cs i).f0.f2
/-- Has what is left an order, from pairs on? -/
def ordB (cs : List S67) : Nat → List Int → List S71 → Bool
  | 0, _, _ => true
  | n + 1, left, Q => left.any fun i => mayB cs left i && (decide ((opB cs Q i).2 = (rd_T67 cs i).f0.f10) && ordB cs n (left.filter fun o => decide (o ≠ i)) (opB cs Q i).1)
def passB (cs : List S67) (n : Nat) (left : List Int) (Q : List S71) (i : Int) : Bool := mayB cs left i && (decide ((opB cs Q i).2 = (rd_T67 cs i).f0.f10) && ordB cs n (left.filter fun o => decide (o ≠ i)) (opB cs Q i).1)
theorem ordB_succ (cs : List S67) (n : Nat) (left : List Int) (Q : List S71) : ordB cs (n + 1) left Q = left.any (passB cs n left Q) := rfl
theorem drop_rdI (l : List Int) (i : Nat) (h : i < l.length) : l.drop i = rd l (i : Int) :: l.drop (i + 1) := by
  rw [List.drop_eq_getElem_cons h, rd_nat l i h]
theorem mayBeNext_l0 (cs : List S67) (left : List Int) (i : Int) (hc : cs.length ≤ 100) (hn : left.length ≤ 100) (hr : ∀ o ∈ left, 0 ≤ o ∧ o < (cs.length : Int)) (hi : 0 ≤ i ∧ i < (cs.length : Int)) (d : Nat) :
    ∀ j : Nat, j + d = left.length → Ev (fun k => impl_mayBeNext.l0 k cs i left (left.length : Int) (j : Int)) ((left.drop j).all fun o => decide (o = i) || !decide ((rd_T67 cs o).f2 < (rd_T67 cs i).f1)) := by
  induction d with
  | zero =>
    intro j hj
    refine Ev.step (fun _ => impl_mayBeNext.l0.eq_2 ..) (Ev.neg (by omega) (Ev.some ?_))
    rw [List.drop_eq_nil_of_le (by omega)]; rfl
  | succ d ih =>
    intro j hj
    have h : j < left.length := by omega
    have ho := hr _ (rd_mem left (j : Int) (by omega) (by omega))
    rw [drop_rdI left j h]
    refine Ev.step (fun _ => impl_mayBeNext.l0.eq_2 ..) (Ev.pos (by omega) (Ev.pos (by omega) (Ev.pos (by omega) (Ev.ite (fun e => ?_) (fun e => Ev.pos ho.1 (Ev.pos ho.2 (Ev.pos hi.1 (Ev.pos hi.2 (Ev.ite (fun e2 => Ev.some ?_) (fun e2 => ?_))))))))))
    · rw [w64_succ j (by omega)]
      refine Ev.eq (ih (j + 1) (by omega)) ?_
      rw [List.all_cons, decide_eq_true e]; simp
    · rw [List.all_cons, decide_eq_false e, decide_eq_true e2]; rfl
    · rw [w64_succ j (by omega)]
      refine Ev.eq (ih (j + 1) (by omega)) ?_
      rw [List.all_cons, decide_eq_false e, decide_eq_false e2]; simp
theorem mayBeNext_ev (cs : List S67) (left : List Int) (i : Int) (hc : cs.length ≤ 100) (hn : left.length ≤ 100) (hr : ∀ o ∈ left, 0 ≤ o ∧ o < (cs.length : Int)) (hi : 0 ≤ i ∧ i < (cs.length : Int)) : Ev (fun k => impl_mayBeNext.f k cs left i) (mayB cs left i) :=
  Ev.congr (fun _ => impl_mayBeNext.f.eq_1 ..) (mayBeNext_l0 cs left i hc hn hr hi left.length 0 (by omega))
theorem erase_filter : ∀ (l : List Int) (j : Nat) (h : j < l.length), l.Nodup → l.eraseIdx j = l.filter fun o => decide (o ≠ l[j])
  | [], j, h, _ => by simp at h
  | a :: r, 0, h, hn => by
    have h1 := (List.nodup_cons.1 hn).1
    rw [List.eraseIdx_zero, List.tail_cons, List.getElem_cons_zero, List.filter_cons_of_neg (by simp)]
    symm; rw [List.filter_eq_self]
    intro o ho; exact decide_eq_true (fun e => h1 (e ▸ ho))
  | a :: r, j + 1, h, hn => by
    obtain ⟨h1, h2⟩ := List.nodup_cons.1 hn
    have hj : j < r.length := by simpa using h
    rw [List.eraseIdx_cons_succ, List.getElem_cons_succ, List.filter_cons_of_pos, erase_filter r j hj h2]
    exact decide_eq_true (fun e => h1 (by rw [e]; exact List.getElem_mem _))
theorem copyI_eq (l : List Int) (h : l.length ≤ 1048576) : impl_copyInts.f l = some l := by
  unfold impl_copyInts.f; rw [Option.bind_some, if_pos (by simp; omega)]; rfl
theorem ordered_ev (cs : List S67) (hc : cs.length ≤ 100) : ∀ (n : Nat) (left : List Int) (Q : List S71), left.length = n → n ≤ 100 → Q.length + n ≤ 1000 → left.Nodup → (∀ o ∈ left, 0 ≤ o ∧ o < (cs.length : Int)) → Ev (fun k => impl_ordered.f k cs left Q) (ordB cs n left Q)
  | 0, left, Q, hl, _, _, _, _ => by
    refine Ev.step (fun _ => impl_ordered.f.eq_2 ..) (Ev.step (fun _ => impl_ordered.l0.eq_2 ..) (Ev.neg (by omega) (Ev.some ?_)))
    show ((left.length : Int) == 0) = true
    rw [hl]; rfl
  | n + 1, left, Q, hl, h100, hq, hnd, hr => by
    have loop : ∀ (d j : Nat), j + d = left.length → Ev (fun k => impl_ordered.l0 k cs left Q left (left.length : Int) (j : Int)) ((left.drop j).any (passB cs n left Q)) := by
      intro d
      induction d with
      | zero =>
        intro j hj
        refine Ev.step (fun _ => impl_ordered.l0.eq_2 ..) (Ev.neg (by omega) (Ev.some ?_))
        rw [List.drop_eq_nil_of_le (by omega)]
        show ((left.length : Int) == 0) = false
        exact beq_eq_false_iff_ne.2 (by omega)
      | succ d ih =>
        intro j hj
        have h : j < left.length := by omega
        have hi := hr _ (rd_mem left (j : Int) (by omega) (by omega))
        have hlen := doM_len Q (rd_T67 cs (rd left (j : Int))).f0.f0 (rd_T67 cs (rd left (j : Int))).f0.f1 (rd_T67 cs (rd left (j : Int))).f0.f2
        have hdel : slices_Delete_int_int.f left (j : Int) ((j + 1 : Nat) : Int) = some (left.filter fun o => decide (o ≠ rd left (j : Int))) := by
          unfold slices_Delete_int_int.f
          rw [if_pos (by omega), if_pos (by omega), if_pos (by omega), Int.toNat_natCast, erase_filter left j h hnd, rd_nat left j h]
        have hfl : (left.filter fun o => decide (o ≠ rd left (j : Int))).length = n := by
          rw [rd_nat left j h, ← erase_filter left j h hnd, List.length_eraseIdx_of_lt h]; omega
        have ihn := ordered_ev cs hc n (left.filter fun o => decide (o ≠ rd left (j : Int))) (opB cs Q (rd left (j : Int))).1 hfl (by omega) (by unfold opB; omega) (hnd.sublist List.filter_sublist) (fun o ho => hr o (List.mem_filter.1 ho).1)
        rw [drop_rdI left j h, List.any_cons]
        refine Ev.step (fun _ => impl_ordered.l0.eq_2 ..) (Ev.pos (by omega) (Ev.pos (by omega) (Ev.pos (by omega) (Ev.bind (mayBeNext_ev cs left _ hc (by omega) hr hi) ?_))))
        have hw := w64_succ j (by omega)
        cases hm : mayB cs left (rd left (j : Int)) with
        | false =>
          refine Ev.neg (by decide) ?_
          rw [hw]
          refine Ev.eq (ih (j + 1) (by omega)) ?_
          unfold passB; rw [hm]; rfl
        | true =>
          refine Ev.pos rfl (Ev.pos hi.1 (Ev.pos hi.2 (Ev.bind (implDoTask_ev Q (by omega) ..) (Ev.call (copyI_eq left (by omega)) ?_))))
          rw [hw]
          refine Ev.call hdel (Ev.ite (fun e => Ev.bind ihn ?_) (fun e => ?_))
          · cases ho : ordB cs n (left.filter fun o => decide (o ≠ rd left (j : Int))) (opB cs Q (rd left (j : Int))).1 with
            | true =>
              refine Ev.pos rfl (Ev.some ?_)
              have e' : (opB cs Q (rd left (j : Int))).2 = (rd_T67 cs (rd left (j : Int))).f0.f10 := e
              unfold passB; rw [hm, ho, decide_eq_true e']; rfl
            | false =>
              refine Ev.neg (by decide) (Ev.eq (ih (j + 1) (by omega)) ?_)
              unfold passB; rw [hm, ho]; simp
          · refine Ev.eq (ih (j + 1) (by omega)) ?_
            unfold passB; rw [hm, decide_eq_false (show ¬ (opB cs Q (rd left (j : Int))).2 = _ from e)]; simp
    refine Ev.step (fun _ => impl_ordered.f.eq_2 ..) ?_
    exact loop left.length 0 (by omega)
/-- The reference: which calls are not used yet. -/
def unN (used : List Bool) (a n : Nat) : List Int := ((List.range' a n).filter fun i => !(used.getD i false)).map fun i : Nat => (i : Int)
theorem unN_succ (used : List Bool) (a n : Nat) : unN used a (n + 1) = if used.getD a false = true then unN used (a + 1) n else (a : Int) :: unN used (a + 1) n := by
  unfold unN
  rw [List.range'_succ]
  by_cases h : used.getD a false = true
  · rw [if_pos h, List.filter_cons_of_neg (by simpa using h)]
  · rw [if_neg h, List.filter_cons_of_pos (by simpa using h)]; rfl
theorem mem_unN {used : List Bool} {a n : Nat} {o : Int} : o ∈ unN used a n ↔ ∃ i : Nat, (a ≤ i ∧ i < a + n) ∧ used.getD i false = false ∧ (i : Int) = o := by
  unfold unN
  rw [List.mem_map]
  constructor
  · rintro ⟨i, hi, rfl⟩
    obtain ⟨h1, h2⟩ := List.mem_filter.1 hi
    have := List.mem_range'_1.1 h1
    exact ⟨i, this, by simpa using h2, rfl⟩
  · rintro ⟨i, hi, h2, rfl⟩
    exact ⟨i, List.mem_filter.2 ⟨List.mem_range'_1.2 hi, by simpa using h2⟩, rfl⟩
theorem unN_nodup (used : List Bool) (a n : Nat) : (unN used a n).Nodup := by
  unfold unN
  exact List.Pairwise.map _ (fun x y h e => h (by omega)) (List.Pairwise.sublist List.filter_sublist (List.nodup_range' (s := a) (n := n)))
theorem unN_set (used : List Bool) (j a n : Nat) (hj : j < used.length) : unN (used.set j true) a n = (unN used a n).filter fun o => decide (o ≠ (j : Int)) := by
  unfold unN
  rw [List.filter_map, List.filter_filter]
  congr 1
  refine List.filter_congr fun i _ => ?_
  show (!((used.set j true).getD i false)) = (decide ((i : Int) ≠ (j : Int)) && !(used.getD i false))
  rw [List.getD_eq_getElem?_getD, List.getD_eq_getElem?_getD]
  by_cases e : i = j
  · subst e
    rw [List.getElem?_set_self hj]
    simp
  · rw [List.getElem?_set_ne (Ne.symm e), decide_eq_true (by omega)]; simp
theorem rdB_nat (used : List Bool) (i : Nat) : rdOf false used (i : Int) = used.getD i false := by unfold rdOf; rw [Int.toNat_natCast]
theorem try_l1 (cs : List S67) (used : List Bool) (Q : List S71) (i : Nat) (hc : cs.length ≤ 100) (hu : used.length = cs.length) (hi : i < cs.length) {r : Bool × List Bool} (d : Nat) :
    ∀ (m : Nat) (x9 : Bool), m + d = cs.length → Ev (fun k => spec_l07Try.l1 k cs used Q false (i : Int) (x9 && (unN used m d).all fun o => decide (o = (i : Int)) || !decide ((rd_T67 cs o).f2 < (rd_T67 cs (i : Int)).f1)) (cs.length : Int)) r →
      Ev (fun k => spec_l07Try.l1 k cs used Q false (i : Int) x9 (m : Int)) r := by
  induction d with
  | zero =>
    intro m x9 hm h
    rw [show (m : Int) = (cs.length : Int) by omega]
    have e : (unN used m 0) = [] := rfl
    rw [e] at h
    simpa using h
  | succ d ih =>
    intro m x9 hm h
    rw [unN_succ] at h
    refine Ev.step (fun _ => spec_l07Try.l1.eq_2 ..) (Ev.pos (by omega) (Ev.pos (by omega) (Ev.pos (by omega) ?_)))
    rw [rdB_nat, w64_succ m (by omega)]
    by_cases u : used.getD m false = true
    · rw [if_pos u] at h
      exact Ev.pos u (ih (m + 1) x9 (by omega) h)
    · rw [if_neg u] at h
      refine Ev.neg u (Ev.ite (fun e => ?_) (fun e => Ev.pos (by omega) (Ev.pos (by omega) (Ev.ite (fun e2 => ?_) (fun e2 => ?_)))))
      · refine ih (m + 1) x9 (by omega) ?_
        rw [List.all_cons, decide_eq_true e] at h; simpa using h
      · refine ih (m + 1) false (by omega) ?_
        rw [List.all_cons, decide_eq_false e, decide_eq_true e2] at h; simpa using h
      · refine ih (m + 1) x9 (by omega) ?_
        rw [List.all_cons, decide_eq_false e, decide_eq_false e2] at h; simpa using h
theorem try_ev (cs : List S67) (hc : cs.length ≤ 100) : ∀ (n : Nat) (used : List Bool) (Q : List S71), used.length = cs.length → (unN used 0 cs.length).length = n → n ≤ 100 → Q.length + n ≤ 1000 →
    ∃ u', Ev (fun k => spec_l07Try.f k cs used Q) (ordB cs n (unN used 0 cs.length) Q, u') ∧ (ordB cs n (unN used 0 cs.length) Q = false → u' = used) := by
  intro n
  induction n with
  | zero =>
    intro used Q hu hl _ _
    have hnil : unN used 0 cs.length = [] := List.length_eq_zero_iff.1 hl
    have loop : ∀ (d j : Nat), j + d = cs.length → unN used j d = [] → Ev (fun k => spec_l07Try.l0 k cs used Q true (j : Int)) (true, used) := by
      intro d
      induction d with
      | zero => intro j hj _; exact Ev.step (fun _ => spec_l07Try.l0.eq_2 ..) (Ev.neg (by omega) (Ev.now _))
      | succ d ih =>
        intro j hj hn
        rw [unN_succ] at hn
        have u : used.getD j false = true := by
          by_cases u : used.getD j false = true
          · exact u
          · rw [if_neg u] at hn; cases hn
        rw [if_pos u] at hn
        refine Ev.step (fun _ => spec_l07Try.l0.eq_2 ..) (Ev.pos (by omega) (Ev.pos (by omega) (Ev.pos (by omega) (Ev.pos (by rw [rdB_nat]; exact u) ?_))))
        rw [w64_succ j (by omega)]
        exact ih (j + 1) (by omega) hn
    refine ⟨used, Ev.step (fun _ => spec_l07Try.f.eq_2 ..) ?_, fun _ => rfl⟩
    exact loop cs.length 0 (by omega) hnil
  | succ n ihn =>
    intro used Q hu hl h100 hq
    have hr : ∀ o ∈ unN used 0 cs.length, 0 ≤ o ∧ o < (cs.length : Int) := fun o ho => by
      obtain ⟨i, hi, _, rfl⟩ := mem_unN.1 ho; omega
    have loop : ∀ (d j : Nat) (x7 : Bool), j + d = cs.length → ∃ u', Ev (fun k => spec_l07Try.l0 k cs used Q x7 (j : Int)) (if (unN used j d).any (passB cs n (unN used 0 cs.length) Q) = true then true else (x7 && (unN used j d).isEmpty), u') ∧ ((unN used j d).any (passB cs n (unN used 0 cs.length) Q) = false → u' = used) := by
      intro d
      induction d with
      | zero =>
        intro j x7 hj
        refine ⟨used, Ev.step (fun _ => spec_l07Try.l0.eq_2 ..) (Ev.neg (by omega) (Ev.some ?_)), fun _ => rfl⟩
        show (x7, used) = (if ([] : List Int).any _ = true then true else (x7 && true), used)
        simp
      | succ d ih =>
        intro j x7 hj
        have hj' : j < cs.length := by omega
        rw [unN_succ]
        by_cases u : used.getD j false = true
        · rw [if_pos u]
          obtain ⟨u', e1, e2⟩ := ih (j + 1) x7 (by omega)
          refine ⟨u', Ev.step (fun _ => spec_l07Try.l0.eq_2 ..) (Ev.pos (by omega) (Ev.pos (by omega) (Ev.pos (by omega) (Ev.pos (by rw [rdB_nat]; exact u) ?_)))), e2⟩
          rw [w64_succ j (by omega)]; exact e1
        · rw [if_neg u]
          obtain ⟨u', e1, e2⟩ := ih (j + 1) false (by omega)
          have hmem : ((j : Nat) : Int) ∈ unN used 0 cs.length := mem_unN.2 ⟨j, by omega, by simpa using u, rfl⟩
          have hlen := doM_len Q (rd_T67 cs (j : Int)).f0.f0 (rd_T67 cs (j : Int)).f0.f1 (rd_T67 cs (j : Int)).f0.f2
          have hsl : (unN (used.set j true) 0 cs.length).length = n := by
            rw [unN_set used j 0 cs.length (by omega)]
            obtain ⟨m, hm, e⟩ := List.getElem_of_mem hmem
            have := erase_filter (unN used 0 cs.length) m hm (unN_nodup ..)
            rw [e] at this
            rw [← this, List.length_eraseIdx_of_lt hm]; omega
          obtain ⟨u2, r1, r2⟩ := ihn (used.set j true) (opB cs Q (j : Int)).1 (by rw [List.length_set]; exact hu) hsl (by omega) (by unfold opB; omega)
          rw [unN_set used j 0 cs.length (by omega)] at r1 r2
          have l1 := fun r => try_l1 cs used Q j hc hu hj' (r := r) cs.length 0 true (by omega)
          simp only [Bool.true_and] at l1
          have start : ∀ r, Ev (fun k => spec_l07Try.l1 k cs used Q false (j : Int) (mayB cs (unN used 0 cs.length) (j : Int)) (cs.length : Int)) r → Ev (fun k => spec_l07Try.l0 k cs used Q x7 (j : Int)) r := fun r h => by
            refine Ev.step (fun _ => spec_l07Try.l0.eq_2 ..) (Ev.pos (by omega) (Ev.pos (by omega) (Ev.pos (by omega) (Ev.neg (by rw [rdB_nat]; exact u) ?_))))
            exact l1 r h
          have rest : Ev (fun k => spec_l07Try.l0 k cs used Q false (wrap64 ((j : Int) + 1))) (if (unN used (j + 1) d).any (passB cs n (unN used 0 cs.length) Q) = true then true else false, u') := by
            rw [w64_succ j (by omega)]
            refine Ev.eq e1 ?_
            rw [Bool.false_and]
          cases hm : mayB cs (unN used 0 cs.length) (j : Int) with
          | false =>
            have hp : passB cs n (unN used 0 cs.length) Q (j : Int) = false := by unfold passB; rw [hm]; rfl
            refine ⟨u', start _ ?_, ?_⟩
            · rw [hm]
              refine Ev.step (fun _ => spec_l07Try.l1.eq_2 ..) (Ev.neg (by omega) (Ev.neg (by decide) ?_))
              refine Ev.eq rest ?_
              rw [List.any_cons, hp, Bool.false_or, List.isEmpty_cons, Bool.and_false]
            · rw [List.any_cons, hp, Bool.false_or]; exact e2
          | true =>
            by_cases e : (opB cs Q (j : Int)).2 = (rd_T67 cs (j : Int)).f0.f10
            · cases ho : ordB cs n ((unN used 0 cs.length).filter fun o => decide (o ≠ (j : Int))) (opB cs Q (j : Int)).1 with
              | true =>
                have hp : passB cs n (unN used 0 cs.length) Q (j : Int) = true := by unfold passB; rw [hm, ho, decide_eq_true e]; rfl
                refine ⟨u2, start _ ?_, ?_⟩
                · rw [hm]
                  rw [ho] at r1
                  refine Ev.step (fun _ => spec_l07Try.l1.eq_2 ..) (Ev.neg (by omega) (Ev.pos rfl (Ev.pos (by omega) (Ev.pos (by omega) (Ev.bind (specDoTask_ev Q (by omega) ..) (Ev.pos e (Ev.pos (by omega) ?_)))))))
                  rw [Int.toNat_natCast]
                  refine Ev.bind r1 (Ev.pos rfl (Ev.some ?_))
                  rw [List.any_cons, hp]; rfl
                · rw [List.any_cons, hp]; intro h; cases h
              | false =>
                have hp : passB cs n (unN used 0 cs.length) Q (j : Int) = false := by unfold passB; rw [hm, ho]; simp
                refine ⟨u', start _ ?_, ?_⟩
                · rw [hm]
                  have hu2 := r2 ho
                  rw [ho] at r1
                  refine Ev.step (fun _ => spec_l07Try.l1.eq_2 ..) (Ev.neg (by omega) (Ev.pos rfl (Ev.pos (by omega) (Ev.pos (by omega) (Ev.bind (specDoTask_ev Q (by omega) ..) (Ev.pos e (Ev.pos (by omega) ?_)))))))
                  rw [Int.toNat_natCast]
                  refine Ev.bind r1 (Ev.neg (by simp) ?_)
                  have hback : u2.set j false = used := by
                    rw [hu2, List.set_set]
                    refine List.ext_getElem (by simp) fun q h1 h2 => ?_
                    by_cases eq : q = j
                    · subst eq
                      rw [List.getElem_set_self]
                      have : used.getD q false = false := by simpa using u
                      rw [List.getD_eq_getElem?_getD, List.getElem?_eq_getElem h2] at this
                      exact this.symm
                    · rw [List.getElem_set_ne (Ne.symm eq)]
                  show Ev (fun k => spec_l07Try.l0 k cs (u2.set j false) Q false (wrap64 ((j : Int) + 1))) _
                  rw [hback]
                  refine Ev.eq rest ?_
                  rw [List.any_cons, hp, Bool.false_or, List.isEmpty_cons, Bool.and_false]
                · rw [List.any_cons, hp, Bool.false_or]; exact e2
            · have hp : passB cs n (unN used 0 cs.length) Q (j : Int) = false := by unfold passB; rw [hm, decide_eq_false e]; simp
              refine ⟨u', start _ ?_, ?_⟩
              · rw [hm]
                refine Ev.step (fun _ => spec_l07Try.l1.eq_2 ..) (Ev.neg (by omega) (Ev.pos rfl (Ev.pos (by omega) (Ev.pos (by omega) (Ev.bind (specDoTask_ev Q (by omega) ..) (Ev.neg e ?_))))))
                refine Ev.eq rest ?_
                rw [List.any_cons, hp, Bool.false_or, List.isEmpty_cons, Bool.and_false]
              · rw [List.any_cons, hp, Bool.false_or]; exact e2
    obtain ⟨u', e1, e2⟩ := loop cs.length 0 true (by omega)
    have hne : (unN used 0 cs.length).isEmpty = false := by
      cases h : unN used 0 cs.length with
      | nil => rw [h] at hl; cases hl
      | cons _ _ => rfl
    refine ⟨u', Ev.step (fun _ => spec_l07Try.f.eq_2 ..) (Ev.eq e1 ?_), e2⟩
    rw [hne, Bool.and_false, ordB_succ]
    cases (unN used 0 cs.length).any (passB cs n (unN used 0 cs.length) Q) <;> rfl
/-- Whether calls have some order. -/
def inSomeM (cs : List S67) : Bool := if cs.length > 6 then false else ordB cs cs.length ((List.range cs.length).map fun i : Nat => (i : Int)) []
theorem unN_new (n : Nat) : unN (List.replicate n false) 0 n = (List.range n).map fun i : Nat => (i : Int) := by
  unfold unN
  rw [List.filter_eq_self.2, List.range_eq_range']
  intro i _
  rw [List.getD_eq_getElem?_getD, List.getElem?_replicate]
  split <;> rfl
theorem specInSome_ev (cs : List S67) (hc : cs.length ≤ 1048576) : Ev (fun k => spec_InSomeOrder.f k cs) (inSomeM cs) := by
  unfold inSomeM
  refine Ev.congr (fun _ => spec_InSomeOrder.f.eq_1 ..) (Ev.ite (fun h => Ev.some ?_) (fun h => Ev.pos (by omega) (Ev.pos (by simp; omega) ?_)))
  · rw [if_pos (by omega)]
  · rw [if_neg (by omega), Int.toNat_natCast]
    obtain ⟨u', e1, _⟩ := try_ev cs (by omega) cs.length (List.replicate cs.length false) [] (by simp) (by rw [unN_new]; simp) (by omega) (by simp; omega)
    rw [unN_new] at e1
    exact Ev.bind e1 (Ev.now _)
theorem implInSome_l0 (cs : List S67) (hc : cs.length ≤ 6) {r : Bool} (h : Ev (fun k => impl_ordered.f k cs ((List.range cs.length).map fun i : Nat => (i : Int)) []) r) (d : Nat) :
    ∀ i : Nat, i + d = cs.length → Ev (fun k => impl_InSomeOrder.l0 k cs ((List.range i).map fun i : Nat => (i : Int)) (cs.length : Int) (i : Int)) r := by
  induction d with
  | zero =>
    intro i hi
    refine Ev.step (fun _ => impl_InSomeOrder.l0.eq_2 ..) (Ev.neg (by omega) ?_)
    rw [show i = cs.length by omega]
    exact Ev.bind h (Ev.now _)
  | succ d ih =>
    intro i hi
    refine Ev.step (fun _ => impl_InSomeOrder.l0.eq_2 ..) (Ev.pos (by omega) (Ev.pos (by simp; omega) ?_))
    have := ih (i + 1) (by omega)
    rw [List.range_succ, List.map_append] at this
    rw [w64_succ i (by omega)]
    exact this
theorem implInSome_ev (cs : List S67) (hc : cs.length ≤ 1048576) : Ev (fun k => impl_InSomeOrder.f k cs) (inSomeM cs) := by
  unfold inSomeM
  refine Ev.congr (fun _ => impl_InSomeOrder.f.eq_1 ..) (Ev.ite (fun h => Ev.some ?_) (fun h => ?_))
  · rw [if_pos (by omega)]
  · rw [if_neg (by omega)]
    refine implInSome_l0 cs (by omega) (ordered_ev cs (by omega) cs.length _ [] (by simp) (by omega) (by simp; omega) ?_ ?_) cs.length 0 (by omega)
    · exact List.Pairwise.map _ (fun x y h e => h (by omega)) List.nodup_range
    · intro o ho
      obtain ⟨i, hi, rfl⟩ := List.mem_map.1 ho
      have := List.mem_range.1 hi; omega
theorem FnExactInSomeOrder : laws_FnExactInSomeOrder.Pure := by
  intro a ⟨_, hl⟩
  apply Ev.rounds
  have e1 : laws_szCallS.f a 1048576 = some (if (1048576 : Int) - (a.length : Int) < 0 then -1 else 1048576 - (a.length : Int)) := by
    unfold laws_szCallS.f maxLen at *
    rw [w64 (n := 1048576 - (a.length : Int)) (by omega) (by omega)]
    by_cases c : (1048576 : Int) - (a.length : Int) < 0
    · rw [if_pos c, if_pos c]
    · rw [if_neg c, if_neg c]
  refine Ev.congr (fun _ => laws_FnExactInSomeOrder.f.eq_1 ..) (Ev.call e1 (Ev.ite (fun _ => Ev.now _) (fun h => ?_)))
  have hn : a.length ≤ 1048576 := by
    by_cases c : (1048576 : Int) - (a.length : Int) < 0
    · rw [if_pos c] at h; omega
    · omega
  have ht := toCallS_ev a hn
  have hm : (a.map toC).length ≤ 1048576 := by simp; omega
  exact Ev.bind ht (Ev.bind (specInSome_ev _ hm) (Ev.bind ht (Ev.bind (implInSome_ev _ hm) (Ev.neg (by simp) (Ev.bind ht (Ev.bind (eqCallS_self _ hm) (Ev.pos rfl (Ev.now _))))))))

end Go.Proofs.Ytfkhncoiifojnaa.Pure
