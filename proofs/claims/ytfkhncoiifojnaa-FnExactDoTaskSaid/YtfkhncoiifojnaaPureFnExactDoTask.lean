/- FnExactDoTask returns true for all arguments: the program answers DoTask as the reference does, leaves its arguments as they are, and hands out pairs of its own. No conditions beyond the statement's own. -/
import Derived.Test.YtfkhncoiifojnaaQdtx6
import Derived.Test.YtfkhncoiifojnaaBase
namespace Go.Proofs.Ytfkhncoiifojnaa.Pure
open Go.RowKit Go.Proofs.Ytfkhncoiifojnaa.Qdt Go.Proofs.YtfkhncoiifojnaaW.PrintWords Go.Proofs.YtfkhncoiifojnaaW.PrintLast Go.Proofs.YtfkhncoiifojnaaW.PrintMore Go.Proofs.Ytfkhncoiifojnaa.Base

instance : DecidableEq S71 := fun a b => decidable_of_iff (a.f0 = b.f0 ∧ a.f1 = b.f1) ⟨fun h => by cases a; cases b; simp_all, fun h => by rw [h]; exact ⟨rfl, rfl⟩⟩
theorem rdP_nat (xs : List S71) (i : Nat) (h : i < xs.length) : rd_T71 xs (i : Int) = xs[i] := by
  unfold rd_T71
  rw [Int.toNat_natCast, List.getD_eq_getElem?_getD, List.getElem?_eq_getElem h]; rfl
theorem rdQ_nat (xs : List S73) (i : Nat) (h : i < xs.length) : rd_T73 xs (i : Int) = xs[i] := by
  unfold rd_T73
  rw [Int.toNat_natCast, List.getD_eq_getElem?_getD, List.getElem?_eq_getElem h]; rfl
theorem dropP (l : List S71) (i : Nat) (h : i < l.length) : l.drop i = rd_T71 l (i : Int) :: l.drop (i + 1) := by
  rw [List.drop_eq_getElem_cons h, rdP_nat l i h]
def toP (x : S73) : S71 := ⟨x.f0, x.f1⟩
theorem toPairS_l0 (a : List S73) (hn : a.length ≤ 140737488355328) (d : Nat) :
    ∀ i : Nat, i + d = a.length → Ev (fun k => laws_toPairS.l0 k a ((a.map toP).take i ++ List.replicate (a.length - i) z71) (i : Int)) (a.map toP) := by
  induction d with
  | zero =>
    intro i hi
    refine Ev.step (fun _ => laws_toPairS.l0.eq_2 ..) ?_
    refine Ev.neg (by omega) (Ev.some ?_)
    rw [show a.length - i = 0 from by omega, List.take_of_length_le (by simp; omega)]; simp
  | succ d ih =>
    intro i hi
    refine Ev.step (fun _ => laws_toPairS.l0.eq_2 ..) ?_
    refine Ev.pos (by omega) (Ev.pos (by omega) (Ev.call rfl (Ev.pos (by simp; omega) ?_)))
    have e := take_set_replicate (a.map toP) z71 i (by simp; omega)
    have e2 : (a.map toP)[i]'(by simp; omega) = ⟨(rd_T73 a (i : Int)).f0, (rd_T73 a (i : Int)).f1⟩ := by
      rw [List.getElem_map, rdQ_nat a i (by omega)]; rfl
    rw [e2, List.length_map] at e
    rw [w64_succ i (by omega), Int.toNat_natCast]
    show Ev (fun k => laws_toPairS.l0 k a (((a.map toP).take i ++ List.replicate (a.length - i) z71).set i ⟨(rd_T73 a (i : Int)).f0, (rd_T73 a (i : Int)).f1⟩) ((i + 1 : Nat) : Int)) _
    rw [e]
    exact ih (i + 1) (by omega)
theorem toPairS_ev (a : List S73) (hn : a.length ≤ 1048576) : Ev (fun k => laws_toPairS.f k a) (a.map toP) := by
  refine Ev.congr (fun _ => laws_toPairS.f.eq_1 ..) (Ev.pos (by omega) (Ev.pos (by omega) ?_))
  have h := toPairS_l0 a (by omega) a.length 0 (by omega)
  simpa using h
theorem eqPair_eq (a b : S71) : laws_eqPair.f a.f0 a.f1 b.f0 b.f1 = some (decide (a = b)) := by
  unfold laws_eqPair.f
  obtain ⟨a0, a1⟩ := a
  obtain ⟨b0, b1⟩ := b
  simp only [S71.mk.injEq]
  by_cases h0 : a0 = b0 <;> by_cases h1 : a1 = b1 <;> simp [h0, h1]
theorem eqPairS_l0 (a b : List S71) (hlen : a.length = b.length) (hn : a.length ≤ 140737488355328) (d : Nat) :
    ∀ i : Nat, i + d = a.length → Ev (fun k => laws_eqPairS.l0 k a b (i : Int)) (decide (a.drop i = b.drop i)) := by
  induction d with
  | zero =>
    intro i hi
    refine Ev.step (fun _ => laws_eqPairS.l0.eq_2 ..) ?_
    refine Ev.neg (by omega) (Ev.some ?_)
    rw [List.drop_eq_nil_of_le (by omega), List.drop_eq_nil_of_le (by omega)]; simp
  | succ d ih =>
    intro i hi
    refine Ev.step (fun _ => laws_eqPairS.l0.eq_2 ..) ?_
    refine Ev.pos (by omega) (Ev.pos (by omega) (Ev.pos (by omega) (Ev.call (eqPair_eq _ _) ?_)))
    rw [rdP_nat a i (by omega), rdP_nat b i (by omega), w64_succ i (by omega), drop_eq_iff a b i (by omega) (by omega)]
    refine Ev.ite (fun h => ?_) (fun h => ?_)
    · rw [h, Bool.true_and]; exact ih (i + 1) (by omega)
    · rw [Bool.eq_false_iff.2 h]; exact Ev.now _
theorem eqPairS_ev (a b : List S71) (hn : a.length ≤ 140737488355328) : Ev (fun k => laws_eqPairS.f k a b) (decide (a = b)) := by
  refine Ev.congr (fun _ => laws_eqPairS.f.eq_1 ..) (Ev.ite (fun h => ?_) (fun h => ?_))
  · exact eqPairS_l0 a b (by omega) hn a.length 0 (by omega)
  · rw [decide_eq_false (fun e => h (by rw [e]))]; exact Ev.now _
theorem eqPairS_self (a : List S71) (hn : a.length ≤ 140737488355328) : Ev (fun k => laws_eqPairS.f k a a) true := by
  have h := eqPairS_ev a a hn
  rwa [decide_eq_true rfl] at h
theorem rdP_set (l : List S71) (i : Nat) (v : S71) (h : i < l.length) : rd_T71 (l.set i v) (i : Int) = v := by
  rw [rdP_nat _ i (by simpa using h)]; simp
def marksP (m : Int) (n : Nat) : List S71 := (List.range n).map (fun j : Nat => ⟨m + 2 * (j : Int), m + 2 * (j : Int) + 1⟩)
theorem marksP_length (m : Int) (n : Nat) : (marksP m n).length = n := by simp [marksP]
theorem marksP_get (m : Int) (n j : Nat) (h : j < (marksP m n).length) : (marksP m n)[j] = ⟨m + 2 * (j : Int), m + 2 * (j : Int) + 1⟩ := by simp [marksP]
theorem marksP_set (m : Int) (l : List S71) (i : Nat) (h : i < l.length) : (marksP m i ++ l.drop i).set i ⟨m + 2 * (i : Int), m + 2 * (i : Int) + 1⟩ = marksP m (i + 1) ++ l.drop (i + 1) := by
  rw [List.set_append_right _ _ (by rw [marksP_length]; omega), marksP_length, Nat.sub_self, List.drop_eq_getElem_cons h, List.set_cons_zero]
  unfold marksP
  rw [List.range_succ]
  simp
theorem markPairS_l0 (a : List S71) (m : Int) (h0 : 0 ≤ m) (hm : m + 2 * a.length ≤ 4611686018427387904) (d : Nat) :
    ∀ i : Nat, i + d = a.length → Ev (fun k => laws_markPairS.l0 k (marksP m i ++ a.drop i) (m + 2 * (i : Int)) (i : Int)) (m + 2 * (a.length : Int), marksP m a.length) := by
  induction d with
  | zero =>
    intro i hi
    refine Ev.step (fun _ => laws_markPairS.l0.eq_2 ..) (Ev.neg (by rw [List.length_append, marksP_length, List.length_drop]; omega) (Ev.some ?_))
    obtain rfl : i = a.length := by omega
    rw [List.drop_length, List.append_nil]
  | succ d ih =>
    intro i hi
    have hl : (marksP m i ++ a.drop i).length = a.length := by rw [List.length_append, marksP_length, List.length_drop]; omega
    refine Ev.step (fun _ => laws_markPairS.l0.eq_2 ..) (Ev.pos (by rw [hl]; omega) (Ev.pos (by omega) (Ev.call rfl ?_)))
    have := ih (i + 1) (by omega)
    rw [← marksP_set m a i (by omega)] at this
    rw [Int.toNat_natCast, rdP_set _ i _ (by rw [hl]; omega), List.set_set, w64 (n := m + 2 * (i : Int) + 1) (by omega) (by omega), w64 (n := m + 2 * (i : Int) + 1 + 1) (by omega) (by omega), w64_succ i (by omega)]
    rwa [show m + 2 * ((i + 1 : Nat) : Int) = m + 2 * (i : Int) + 1 + 1 from by omega] at this
theorem markPairS_ev (a : List S71) (m : Int) (h0 : 0 ≤ m) (hm : m + 2 * a.length ≤ 4611686018427387904) : Ev (fun k => laws_markPairS.f k a m) (m + 2 * (a.length : Int), marksP m a.length) := by
  have h := markPairS_l0 a m h0 hm a.length 0 (by omega)
  refine Ev.congr (fun _ => laws_markPairS.f.eq_1 ..) ?_
  simpa [marksP] using h
theorem heldPairS_l0 (n : Nat) (m : Int) (h0 : 0 ≤ m) (hm : m + 2 * n ≤ 4611686018427387904) (d : Nat) :
    ∀ i : Nat, i + d = n → Ev (fun k => laws_heldPairS.l0 k (marksP m n) (m + 2 * (i : Int)) (i : Int)) (m + 2 * (n : Int)) := by
  induction d with
  | zero =>
    intro i hi
    refine Ev.step (fun _ => laws_heldPairS.l0.eq_2 ..) (Ev.neg (by rw [marksP_length]; omega) (Ev.some (by omega)))
  | succ d ih =>
    intro i hi
    have e : rd_T71 (marksP m n) (i : Int) = ⟨m + 2 * (i : Int), m + 2 * (i : Int) + 1⟩ := by rw [rdP_nat _ i (by rw [marksP_length]; omega), marksP_get]
    refine Ev.step (fun _ => laws_heldPairS.l0.eq_2 ..) (Ev.pos (by rw [marksP_length]; omega) (Ev.pos (by omega) ?_))
    rw [e, w64 (n := m + 2 * (i : Int) + 1) (by omega) (by omega), w64 (n := m + 2 * (i : Int) + 1 + 1) (by omega) (by omega), w64_succ i (by omega)]
    refine Ev.pos rfl (Ev.pos rfl ?_)
    have := ih (i + 1) (by omega)
    rwa [show m + 2 * ((i + 1 : Nat) : Int) = m + 2 * (i : Int) + 1 + 1 from by omega] at this
theorem heldPairS_ev (n : Nat) (m : Int) (h0 : 0 ≤ m) (hm : m + 2 * n ≤ 4611686018427387904) : Ev (fun k => laws_heldPairS.f k (marksP m n) m) (m + 2 * (n : Int)) := by
  have h := heldPairS_l0 n m h0 hm n 0 (by omega)
  refine Ev.congr (fun _ => laws_heldPairS.f.eq_1 ..) ?_
  simpa using h
theorem l01In_eq (n lo hi : Int) : spec_l01In.f n lo hi = some (decide (lo ≤ n ∧ n ≤ hi)) := by
  unfold spec_l01In.f
  by_cases h : n ≥ lo
  · rw [if_pos h]; congr 1; rw [decide_eq_decide]; exact ⟨fun h2 => ⟨h, h2⟩, fun h2 => h2.2⟩
  · rw [if_neg h]; congr 1; symm; rw [decide_eq_false_iff_not]; exact fun h2 => h h2.1
def isK (k : Int) (x : S71) : Bool := decide (x.f0 = k)
def ltK (k : Int) (x : S71) : Bool := decide (x.f0 < k)
def gtK (k : Int) (x : S71) : Bool := decide (x.f0 > k)
theorem dropP2 (l : List S71) (i : Nat) (h : i < l.length) : l.drop i = rd_T71 l (i : Int) :: l.drop (i + 1) := by
  rw [List.drop_eq_getElem_cons h, rdP_nat l i h]
theorem parted_l0 (l : List S71) (key : Int) (hn : l.length ≤ 1048576) (d : Nat) :
    ∀ (i : Nat) (b s a : List S71), i + d = l.length → b.length ≤ i → s.length ≤ i → a.length ≤ i → Ev (fun k => impl_parted.l0 k key b s a l (l.length : Int) (i : Int)) (b ++ (l.drop i).filter (ltK key), s ++ (l.drop i).filter (isK key), a ++ (l.drop i).filter (gtK key)) := by
  induction d with
  | zero =>
    intro i b s a hi _ _ _
    refine Ev.step (fun _ => impl_parted.l0.eq_2 ..) (Ev.neg (by omega) (Ev.some ?_))
    rw [List.drop_eq_nil_of_le (by omega)]; simp
  | succ d ih =>
    intro i b s a hi hb hs ha
    rw [dropP2 l i (by omega)]
    refine Ev.step (fun _ => impl_parted.l0.eq_2 ..) (Ev.pos (by omega) (Ev.pos (by omega) (Ev.pos (by omega) (Ev.ite (fun h => Ev.pos (by omega) ?_) (fun h => Ev.ite (fun h2 => Ev.pos (by omega) ?_) (fun h2 => Ev.pos (by omega) ?_))))))
    · rw [w64_succ i (by omega), List.filter_cons_of_pos (by unfold ltK; exact decide_eq_true h), List.filter_cons_of_neg (by unfold isK; simp; omega), List.filter_cons_of_neg (by unfold gtK; simp; omega)]
      have := ih (i + 1) (b ++ [rd_T71 l (i : Int)]) s a (by omega) (by simp; omega) (by omega) (by omega)
      rwa [List.append_assoc, List.singleton_append] at this
    · rw [w64_succ i (by omega), List.filter_cons_of_neg (by unfold ltK; simp; omega), List.filter_cons_of_neg (by unfold isK; simp; omega), List.filter_cons_of_pos (by unfold gtK; exact decide_eq_true h2)]
      have := ih (i + 1) b s (a ++ [rd_T71 l (i : Int)]) (by omega) (by omega) (by omega) (by simp; omega)
      rwa [List.append_assoc, List.singleton_append] at this
    · rw [w64_succ i (by omega), List.filter_cons_of_neg (by unfold ltK; simp; omega), List.filter_cons_of_pos (by unfold isK; exact decide_eq_true (by omega)), List.filter_cons_of_neg (by unfold gtK; simp; omega)]
      have := ih (i + 1) b (s ++ [rd_T71 l (i : Int)]) a (by omega) (by omega) (by simp; omega) (by omega)
      rwa [List.append_assoc, List.singleton_append] at this
theorem parted_ev (l : List S71) (key : Int) (hn : l.length ≤ 1048576) : Ev (fun k => impl_parted.f k l key) (l.filter (ltK key), l.filter (isK key), l.filter (gtK key)) := by
  have h := parted_l0 l key hn l.length 0 [] [] [] (by omega) (by simp) (by simp) (by simp)
  refine Ev.congr (fun _ => impl_parted.f.eq_1 ..) ?_
  simpa using h
def doM (l : List S71) (kind key val : Int) : List S71 × Int :=
  if kind = 1 then (l, impl_DoTask.fnd (l.filter (isK key)))
  else if kind = 3 ∧ 0 < (l.filter (isK key)).length then (l.filter (keepF key), 1)
  else if kind = 2 ∧ (l.filter (isK key)).length = 0 then (l.filter (ltK key) ++ [⟨key, val⟩] ++ l.filter (gtK key), 1)
  else (l, 0)
theorem implDoTask_ev (l : List S71) (hn : l.length ≤ 1048576) (a0 a1 a2 a3 a4 a5 a6 a7 a8 : Int) (a9 : Bool) (a10 : Int) : Ev (fun k => impl_DoTask.f k l a0 a1 a2 a3 a4 a5 a6 a7 a8 a9 a10) (doM l a0 a1 a2) := by
  refine Ev.congr (fun _ => impl_DoTask.f.eq_1 ..) (Ev.bind (parted_ev l a1 hn) ?_)
  have h1 := List.length_filter_le (ltK a1) l
  have h2 : (l.filter (gtK a1)).length ≤ l.length := List.length_filter_le _ _
  have h3 : (l.filter (ltK a1)).length + (l.filter (gtK a1)).length < 2000000 + l.length := by omega
  have hlen : (l.filter (ltK a1)).length + (l.filter (gtK a1)).length ≤ l.length := by
    clear h1 h2 h3 hn
    induction l with
    | nil => simp
    | cons x r ih =>
      by_cases c1 : x.f0 < a1
      · rw [List.filter_cons_of_pos (by unfold ltK; exact decide_eq_true c1), List.filter_cons_of_neg (by unfold gtK; simp; omega)]; simp; omega
      · by_cases c2 : x.f0 > a1
        · rw [List.filter_cons_of_neg (by unfold ltK; simp; omega), List.filter_cons_of_pos (by unfold gtK; exact decide_eq_true c2)]; simp; omega
        · rw [List.filter_cons_of_neg (by unfold ltK; simp; omega), List.filter_cons_of_neg (by unfold gtK; simp; omega)]; simp; omega
  refine Ev.pos ⟨by omega, by show (l.filter (ltK a1)).length + (l.filter (gtK a1)).length < 2000000; omega⟩ ?_
  unfold doM
  refine Ev.ite (fun h => Ev.some (by rw [if_pos h])) (fun h => ?_)
  rw [if_neg h]
  refine Ev.ite (fun h => Ev.some (by rw [if_pos h])) (fun h => ?_)
  rw [if_neg h]
  exact Ev.ite (fun h => Ev.some (by rw [if_pos h])) (fun h => Ev.some (by rw [if_neg h]))
def fndA (acc : Int) (l : List S71) : Int := if acc = 0 then impl_DoTask.fnd l else acc
theorem specDo_l4 (l : List S71) (hn : l.length ≤ 1048576) (a0 a1 a2 a3 a4 a5 a6 a7 a8 : Int) (a9 : Bool) (a10 : Int) (d : Nat) :
    ∀ (i : Nat) (acc : List S71) (g : Int), i + d = l.length → acc.length ≤ i → Ev (fun k => spec_DoTask.l4 k l acc g (i : Int) a0 a1 a2 a3 a4 a5 a6 a7 a8 a9 a10) (acc ++ (l.drop i).filter (keepF a1), if 0 < ((l.drop i).filter (isK a1)).length then 1 else g) := by
  induction d with
  | zero =>
    intro i acc g hi _
    refine Ev.step (fun _ => spec_DoTask.l4.eq_2 ..) (Ev.neg (by omega) (Ev.some ?_))
    rw [List.drop_eq_nil_of_le (by omega)]; simp
  | succ d ih =>
    intro i acc g hi ha
    rw [dropP2 l i (by omega)]
    refine Ev.step (fun _ => spec_DoTask.l4.eq_2 ..) (Ev.pos (by omega) (Ev.pos (by omega) (Ev.ite (fun h => ?_) (fun h => Ev.pos (by omega) ?_))))
    · rw [w64_succ i (by omega), List.filter_cons_of_neg (by unfold keepF; simp [h]), List.filter_cons_of_pos (by unfold isK; exact decide_eq_true h), if_pos (by simp)]
      refine Ev.eq (ih (i + 1) acc 1 (by omega) (by omega)) ?_
      congr 1
      by_cases c : 0 < ((l.drop (i + 1)).filter (isK a1)).length
      · rw [if_pos c]
      · rw [if_neg c]
    · rw [w64_succ i (by omega), List.filter_cons_of_pos (by unfold keepF; simpa using h), List.filter_cons_of_neg (by unfold isK; simpa using h)]
      have := ih (i + 1) (acc ++ [rd_T71 l (i : Int)]) g (by omega) (by simp; omega)
      rwa [List.append_assoc, List.singleton_append] at this
theorem specDo_l3 (l : List S71) (hn : l.length ≤ 1048576) (a0 a1 a2 a3 a4 a5 a6 a7 a8 : Int) (a9 : Bool) (a10 : Int) (d : Nat) :
    ∀ (i : Nat) (acc : List S71), i + d = l.length → acc.length ≤ 2000000 + i → Ev (fun k => spec_DoTask.l3 k l acc (i : Int) a0 a1 a2 a3 a4 a5 a6 a7 a8 a9 a10) (acc ++ (l.drop i).filter (gtK a1), 1) := by
  induction d with
  | zero =>
    intro i acc hi _
    refine Ev.step (fun _ => spec_DoTask.l3.eq_2 ..) (Ev.neg (by omega) (Ev.some ?_))
    rw [List.drop_eq_nil_of_le (by omega)]; simp
  | succ d ih =>
    intro i acc hi ha
    rw [dropP2 l i (by omega)]
    refine Ev.step (fun _ => spec_DoTask.l3.eq_2 ..) (Ev.pos (by omega) (Ev.pos (by omega) (Ev.ite (fun h => Ev.pos (by omega) ?_) (fun h => ?_))))
    · rw [w64_succ i (by omega), List.filter_cons_of_pos (by unfold gtK; exact decide_eq_true h)]
      have := ih (i + 1) (acc ++ [rd_T71 l (i : Int)]) (by omega) (by simp; omega)
      rwa [List.append_assoc, List.singleton_append] at this
    · rw [w64_succ i (by omega), List.filter_cons_of_neg (by unfold gtK; simpa using h)]
      exact ih (i + 1) acc (by omega) (by omega)
theorem specDo_l2 (l : List S71) (hn : l.length ≤ 1048576) (a0 a1 a2 a3 a4 a5 a6 a7 a8 : Int) (a9 : Bool) (a10 : Int) (d : Nat) :
    ∀ (i : Nat) (acc : List S71), i + d = l.length → acc.length ≤ i → Ev (fun k => spec_DoTask.l2 k l acc (i : Int) a0 a1 a2 a3 a4 a5 a6 a7 a8 a9 a10) ((acc ++ (l.drop i).filter (ltK a1)) ++ [⟨a1, a2⟩] ++ l.filter (gtK a1), 1) := by
  induction d with
  | zero =>
    intro i acc hi ha
    refine Ev.step (fun _ => spec_DoTask.l2.eq_2 ..) (Ev.neg (by omega) (Ev.pos (by omega) ?_))
    rw [List.drop_eq_nil_of_le (by omega), List.filter_nil, List.append_nil]
    have := specDo_l3 l hn a0 a1 a2 a3 a4 a5 a6 a7 a8 a9 a10 l.length 0 (acc ++ [⟨a1, a2⟩]) (by omega) (by simp; omega)
    rwa [List.drop_zero] at this
  | succ d ih =>
    intro i acc hi ha
    rw [dropP2 l i (by omega)]
    refine Ev.step (fun _ => spec_DoTask.l2.eq_2 ..) (Ev.pos (by omega) (Ev.pos (by omega) (Ev.ite (fun h => Ev.pos (by omega) ?_) (fun h => ?_))))
    · rw [w64_succ i (by omega), List.filter_cons_of_pos (by unfold ltK; exact decide_eq_true h)]
      have := ih (i + 1) (acc ++ [rd_T71 l (i : Int)]) (by omega) (by simp; omega)
      rwa [List.append_assoc acc, List.singleton_append] at this
    · rw [w64_succ i (by omega), List.filter_cons_of_neg (by unfold ltK; simpa using h)]
      exact ih (i + 1) acc (by omega) (by omega)
theorem specDo_l1 (l : List S71) (hn : l.length ≤ 1048576) (a0 a1 a2 a3 a4 a5 a6 a7 a8 : Int) (a9 : Bool) (a10 : Int) (d : Nat) :
    ∀ i : Nat, i + d = l.length → ((l.take i).filter (isK a1)).length = 0 → Ev (fun k => spec_DoTask.l1 k l [] (i : Int) a0 a1 a2 a3 a4 a5 a6 a7 a8 a9 a10) (if (l.filter (isK a1)).length = 0 then (l.filter (ltK a1) ++ [⟨a1, a2⟩] ++ l.filter (gtK a1), 1) else (l, 0)) := by
  induction d with
  | zero =>
    intro i hi h0
    refine Ev.step (fun _ => spec_DoTask.l1.eq_2 ..) (Ev.neg (by omega) ?_)
    rw [List.take_of_length_le (by omega)] at h0
    rw [if_pos h0]
    have := specDo_l2 l hn a0 a1 a2 a3 a4 a5 a6 a7 a8 a9 a10 l.length 0 [] (by omega) (by simp)
    rwa [List.drop_zero, List.nil_append] at this
  | succ d ih =>
    intro i hi h0
    refine Ev.step (fun _ => spec_DoTask.l1.eq_2 ..) (Ev.pos (by omega) (Ev.pos (by omega) (Ev.ite (fun h => Ev.call rfl (Ev.pos (by simp; omega) (Ev.some ?_))) (fun h => ?_))))
    · have hm : (l.filter (isK a1)).length ≠ 0 := by
        intro hc
        have := List.filter_eq_nil_iff.1 (List.length_eq_zero_iff.1 hc) (rd_T71 l (i : Int)) (by rw [rdP_nat l i (by omega)]; exact List.getElem_mem _)
        exact this (by unfold isK; exact decide_eq_true h)
      rw [if_neg hm, List.nil_append]
    · rw [w64_succ i (by omega)]
      refine ih (i + 1) (by omega) ?_
      rw [List.take_succ_eq_append_getElem (by omega), List.filter_append, List.length_append, h0, ← rdP_nat l i (by omega), List.filter_cons_of_neg (by unfold isK; simpa using h)]; rfl
theorem specDo_l0 (l : List S71) (hn : l.length ≤ 1048576) (a0 a1 a2 a3 a4 a5 a6 a7 a8 : Int) (a9 : Bool) (a10 : Int) (hk : 1 ≤ a0 ∧ a0 ≤ 3) (d : Nat) :
    ∀ (i : Nat) (g : Int), i + d = l.length → fndA g ((l.drop i).filter (isK a1)) = impl_DoTask.fnd (l.filter (isK a1)) → Ev (fun k => spec_DoTask.l0 k l [] g (i : Int) a0 a1 a2 a3 a4 a5 a6 a7 a8 a9 a10) (doM l a0 a1 a2) := by
  induction d with
  | zero =>
    intro i g hi hg
    rw [List.drop_eq_nil_of_le (by omega)] at hg
    have hg' : g = impl_DoTask.fnd (l.filter (isK a1)) := by
      rw [← hg]; unfold fndA
      by_cases c : g = 0
      · rw [if_pos c, c]; rfl
      · rw [if_neg c]
    unfold doM
    refine Ev.step (fun _ => spec_DoTask.l0.eq_2 ..) (Ev.neg (by omega) (Ev.ite (fun h => Ev.pos (by simp; omega) (Ev.some ?_)) (fun h => Ev.ite (fun h2 => ?_) (fun h2 => ?_))))
    · rw [if_pos h, List.nil_append, hg']
    · rw [if_neg h, if_neg (by omega)]
      refine Ev.eq (specDo_l1 l hn a0 a1 a2 a3 a4 a5 a6 a7 a8 a9 a10 l.length 0 (by omega) (by simp)) ?_
      by_cases c : (l.filter (isK a1)).length = 0
      · rw [if_pos c, if_pos ⟨h2, c⟩]
      · rw [if_neg c, if_neg (fun z => c z.2)]
    · rw [if_neg h]
      have := specDo_l4 l hn a0 a1 a2 a3 a4 a5 a6 a7 a8 a9 a10 l.length 0 [] 0 (by omega) (by simp)
      rw [List.drop_zero, List.nil_append] at this
      refine Ev.eq this ?_
      by_cases c : 0 < (l.filter (isK a1)).length
      · rw [if_pos c, if_pos ⟨by omega, c⟩]
      · rw [if_neg c, if_neg (fun z => c z.2), if_neg (fun z => h2 z.1)]
        congr 1
        refine List.filter_eq_self.2 fun x hx => ?_
        have := List.filter_eq_nil_iff.1 (List.length_eq_zero_iff.1 (by omega : (l.filter (isK a1)).length = 0)) x hx
        unfold isK at this
        unfold keepF
        simpa using this
  | succ d ih =>
    intro i g hi hg
    rw [dropP2 l i (by omega)] at hg
    refine Ev.step (fun _ => spec_DoTask.l0.eq_2 ..) (Ev.pos (by omega) (Ev.pos (by omega) (Ev.ite (fun h => Ev.ite (fun h2 => ?_) (fun h2 => ?_)) (fun h => ?_))))
    · rw [w64_succ i (by omega)]
      refine ih (i + 1) _ (by omega) ?_
      rw [List.filter_cons_of_pos (by unfold isK; exact decide_eq_true h)] at hg
      rw [← hg, h2]
      unfold fndA
      rw [if_pos rfl, impl_DoTask.fnd]
    · rw [w64_succ i (by omega)]
      refine ih (i + 1) _ (by omega) ?_
      rw [← hg]; unfold fndA; rw [if_neg h2, if_neg h2]
    · rw [w64_succ i (by omega)]
      refine ih (i + 1) _ (by omega) ?_
      rw [List.filter_cons_of_neg (by unfold isK; simpa using h)] at hg
      exact hg
theorem specDoTask_ev (l : List S71) (hn : l.length ≤ 1048576) (a0 a1 a2 a3 a4 a5 a6 a7 a8 : Int) (a9 : Bool) (a10 : Int) : Ev (fun k => spec_DoTask.f k l a0 a1 a2 a3 a4 a5 a6 a7 a8 a9 a10) (doM l a0 a1 a2) := by
  refine Ev.congr (fun _ => spec_DoTask.f.eq_1 ..) (Ev.call rfl (Ev.call (l01In_eq ..) (Ev.ite (fun h => ?_) (fun h => Ev.pos (by simp; omega) (Ev.some ?_)))))
  · have := specDo_l0 l hn a0 a1 a2 a3 a4 a5 a6 a7 a8 a9 a10 (of_decide_eq_true h) l.length 0 0 (by omega) (by rw [List.drop_zero]; unfold fndA; rw [if_pos rfl])
    exact this
  · have hk : ¬ (1 ≤ a0 ∧ a0 ≤ 3) := fun z => h (decide_eq_true z)
    unfold doM
    rw [if_neg (by omega), if_neg (by omega), if_neg (by omega), List.nil_append]
theorem doM_len (l : List S71) (kind key val : Int) : (doM l kind key val).1.length ≤ l.length + 1 := by
  unfold doM
  by_cases h1 : kind = 1
  · rw [if_pos h1]; simp
  · rw [if_neg h1]
    by_cases h2 : kind = 3 ∧ 0 < (l.filter (isK key)).length
    · rw [if_pos h2]; exact Nat.le_succ_of_le (List.length_filter_le _ _)
    · rw [if_neg h2]
      by_cases h3 : kind = 2 ∧ (l.filter (isK key)).length = 0
      · rw [if_pos h3]
        have : (l.filter (ltK key)).length + (l.filter (gtK key)).length ≤ l.length := by
          clear h1 h2 h3
          induction l with
          | nil => simp
          | cons x r ih =>
            by_cases c1 : x.f0 < key
            · rw [List.filter_cons_of_pos (by unfold ltK; exact decide_eq_true c1), List.filter_cons_of_neg (by unfold gtK; simp; omega)]; simp; omega
            · by_cases c2 : x.f0 > key
              · rw [List.filter_cons_of_neg (by unfold ltK; simp; omega), List.filter_cons_of_pos (by unfold gtK; exact decide_eq_true c2)]; simp; omega
              · rw [List.filter_cons_of_neg (by unfold ltK; simp; omega), List.filter_cons_of_neg (by unfold gtK; simp; omega)]; simp; omega
        simp; omega
      · rw [if_neg h3]; simp
theorem FnExactDoTask : laws_FnExactDoTask.Pure := by
  intro a a0 a1 a2 a3 a4 a5 a6 a7 a8 a9 a10 ⟨hs, hl⟩ _ _ _ _ _ _ _ _ _ _
  apply Ev.rounds
  have e1 : laws_szPairS.f a 1048576 = some (if (1048576 : Int) - (a.length : Int) < 0 then -1 else 1048576 - (a.length : Int)) := by
    unfold laws_szPairS.f maxLen at *
    rw [w64 (n := 1048576 - (a.length : Int)) (by omega) (by omega)]
    by_cases c : (1048576 : Int) - (a.length : Int) < 0
    · rw [if_pos c, if_pos c]
    · rw [if_neg c, if_neg c]
  refine Ev.congr (fun _ => laws_FnExactDoTask.f.eq_1 ..) (Ev.call e1 (Ev.ite (fun _ => Ev.now _) (fun h => ?_)))
  have hn : a.length ≤ 1048576 := by
    by_cases c : (1048576 : Int) - (a.length : Int) < 0
    · rw [if_pos c] at h; omega
    · omega
  have ht := toPairS_ev a hn
  have hm : (a.map toP).length ≤ 1048576 := by simp; omega
  generalize a.map toP = fs at ht hm
  have hsp := specDoTask_ev fs hm a0 a1 a2 a3 a4 a5 a6 a7 a8 a9 a10
  have him := implDoTask_ev fs hm a0 a1 a2 a3 a4 a5 a6 a7 a8 a9 a10
  have hlen := doM_len fs a0 a1 a2
  generalize doM fs a0 a1 a2 = M at hsp him hlen
  refine Ev.bind ht (Ev.call rfl (Ev.bind hsp (Ev.bind ht (Ev.call rfl (Ev.bind him (Ev.bind (eqPairS_self _ (by omega)) (Ev.pos rfl ?_)))))))
  refine Ev.step (fun _ => laws_FnExactDoTask.j0.eq_2 ..) (Ev.neg (by simp) (Ev.bind ht (Ev.bind (eqPairS_self _ (by omega)) (Ev.pos rfl ?_))))
  refine Ev.bind (markPairS_ev fs 1 (by omega) (by omega)) (Ev.neg (by omega) (Ev.bind (eqPairS_self _ (by omega)) (Ev.pos rfl ?_)))
  refine Ev.step (fun _ => laws_FnExactDoTask.j1.eq_2 ..) (Ev.neg (by simp) (Ev.bind (markPairS_ev _ 1 (by omega) (by omega)) (Ev.bind (heldPairS_ev _ 1 (by omega) (by omega)) (Ev.neg (by omega) (Ev.pos rfl (Ev.bind ht (Ev.call rfl (Ev.bind him (Ev.bind (eqPairS_self _ (by omega)) (Ev.pos rfl ?_))))))))))
  exact Ev.step (fun _ => laws_FnExactDoTask.j2.eq_2 ..) (Ev.neg (by simp) (Ev.bind (heldPairS_ev _ 1 (by omega) (by omega)) (Ev.neg (by omega) (Ev.pos rfl (Ev.now _)))))

end Go.Proofs.Ytfkhncoiifojnaa.Pure
