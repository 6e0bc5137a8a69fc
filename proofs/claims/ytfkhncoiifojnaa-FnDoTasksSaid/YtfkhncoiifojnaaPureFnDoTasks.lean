/- FnDoTasks returns true for all arguments: what is put into drawn pairs is found, and is put once; taken out it is not there. No conditions beyond the statement's own. -/
import Derived.Test.YtfkhncoiifojnaaQdsx7
import Derived.Test.YtfkhncoiifojnaaBase
namespace Go.Proofs.Ytfkhncoiifojnaa.Pure
open Go.RowKit Go.Proofs.Ytfkhncoiifojnaa.Qds Go.Proofs.YtfkhncoiifojnaaW.PrintWords Go.Proofs.YtfkhncoiifojnaaW.PrintLast Go.Proofs.YtfkhncoiifojnaaW.PrintMore Go.Proofs.Ytfkhncoiifojnaa.Base

theorem byte_ok (l : List Int) (i h : Int) (hi : 0 ≤ i) (hl : l.length ≤ 140737488355328) :
    ∃ r i' h', spec_l01Byte.f l i h = some (r, i', h') ∧ 0 ≤ r ∧ r ≤ 255 ∧ 0 ≤ i' := by
  unfold spec_l01Byte.f
  by_cases c : i < (l.length : Int)
  · rw [if_pos c, if_pos hi]
    exact ⟨_, _, _, rfl, (and255 _).1, (and255 _).2, by rw [w64 (by omega) (by omega)]; omega⟩
  · rw [if_neg c]
    exact ⟨_, _, _, rfl, (and255 _).1, (and255 _).2, hi⟩
theorem below_ok (l : List Int) (i h n : Int) (hi : 0 ≤ i) (hl : l.length ≤ 140737488355328) :
    ∃ r i' h', spec_l01Below.f l i h n = some (r, i', h') ∧ 0 ≤ i' ∧ 0 ≤ r ∧ (0 < n → r < n) ∧ (n ≤ 0 → r = 0) := by
  unfold spec_l01Below.f
  by_cases c : n ≤ 0
  · rw [if_pos c]; exact ⟨_, _, _, rfl, hi, by omega, by omega, fun _ => rfl⟩
  · rw [if_neg c]
    by_cases c2 : n ≤ 256
    · rw [if_pos c2]
      obtain ⟨r, i1, h1, e, r0, r1, hi1⟩ := byte_ok l i h hi hl
      rw [e, Option.bind_some, if_neg (by omega)]
      have := tmod_in r n r0 (by omega)
      exact ⟨_, _, _, rfl, hi1, this.1, fun _ => this.2, by omega⟩
    · rw [if_neg c2]
      obtain ⟨x, i1, h1, e1, x0, x1, hi1⟩ := byte_ok l i h hi hl
      obtain ⟨y, i2, h2, e2, y0, y1, hi2⟩ := byte_ok l i1 h1 hi1 hl
      obtain ⟨z, i3, h3, e3, z0, z1, hi3⟩ := byte_ok l i2 h2 hi2 hl
      obtain ⟨w, i4, h4, e4, w0, w1, hi4⟩ := byte_ok l i3 h3 hi3 hl
      rw [e1, Option.bind_some, e2, Option.bind_some, e3, Option.bind_some, e4, Option.bind_some, if_neg (by omega)]
      have q1 : wrap64 (x * 16777216) = x * 16777216 := w64 (by omega) (by omega)
      have q2 : wrap64 (y * 65536) = y * 65536 := w64 (by omega) (by omega)
      have q3 : wrap64 (z * 256) = z * 256 := w64 (by omega) (by omega)
      simp only [q1, q2, q3]
      rw [w64 (n := x * 16777216 + y * 65536) (by omega) (by omega), w64 (n := x * 16777216 + y * 65536 + z * 256) (by omega) (by omega), w64 (n := x * 16777216 + y * 65536 + z * 256 + w) (by omega) (by omega)]
      have := tmod_in (x * 16777216 + y * 65536 + z * 256 + w) n (by omega) (by omega)
      exact ⟨_, _, _, rfl, hi4, this.1, fun _ => this.2, by omega⟩
theorem new_l0 (l : List Int) (d : Nat) :
    ∀ (j : Nat) (x : Int), j + d = l.length → ∃ h, Ev (fun k => spec_l01New.l0 k l x (j : Int)) (l, 0, h) := by
  induction d with
  | zero => intro j x hj; exact ⟨x, Ev.step (fun _ => spec_l01New.l0.eq_2 ..) (Ev.neg (by omega) (Ev.now _))⟩
  | succ d ih =>
    intro j x hj
    by_cases c : (j : Int) < 4000
    · obtain ⟨h, e⟩ := ih (j + 1) (Go.bits .and .i64 (wrap64 ((wrap64 ((wrap64 (x * 131)) + (wrap64 (rd l j)))) + 7)) 1073741823) (by omega)
      refine ⟨h, Ev.step (fun _ => spec_l01New.l0.eq_2 ..) (Ev.pos (by omega) (Ev.pos c (Ev.pos (by omega) ?_)))⟩
      rw [w64_succ j (by omega)]
      exact e
    · exact ⟨x, Ev.step (fun _ => spec_l01New.l0.eq_2 ..) (Ev.pos (by omega) (Ev.neg c (Ev.now _)))⟩
theorem new_ok (l : List Int) (_hl : l.length ≤ 140737488355328) : ∃ h, Ev (fun k => spec_l01New.f k l) (l, 0, h) := by
  obtain ⟨h, e⟩ := new_l0 l l.length 0 (wrap64 (34901 + (l.length : Int))) (by omega)
  exact ⟨h, Ev.congr (fun _ => spec_l01New.f.eq_1 ..) e⟩
theorem big_eq (l : List Int) : laws_big.f l = some (decide ((l.length : Int) > 1048576)) := rfl
theorem pickInt_ok (l : List Int) (i h : Int) (xs : List Int) (hx : 0 < xs.length) (hi : 0 ≤ i) (hl : l.length ≤ 140737488355328) :
    ∃ r i' h', spec_l01PickInt.f l i h xs = some (r, i', h') ∧ 0 ≤ i' ∧ r ∈ xs := by
  unfold spec_l01PickInt.f
  obtain ⟨r, i1, h1, e, hi1, r0, r1, _⟩ := below_ok l i h (xs.length : Int) hi hl
  rw [e, Option.bind_some, if_pos r0, if_pos (r1 (by omega))]
  exact ⟨_, _, _, rfl, hi1, rd_mem xs r r0 (r1 (by omega))⟩
theorem l01In_eq (n lo hi : Int) : spec_l01In.f n lo hi = some (decide (lo ≤ n ∧ n ≤ hi)) := by
  unfold spec_l01In.f
  by_cases h : n ≥ lo
  · rw [if_pos h]; congr 1; rw [decide_eq_decide]; exact ⟨fun h2 => ⟨h, h2⟩, fun h2 => h2.2⟩
  · rw [if_neg h]; congr 1; symm; rw [decide_eq_false_iff_not]; exact fun h2 => h h2.1
instance : DecidableEq S71 := fun a b => decidable_of_iff (a.f0 = b.f0 ∧ a.f1 = b.f1) ⟨fun h => by cases a; cases b; simp_all, fun h => by rw [h]; exact ⟨rfl, rfl⟩⟩
theorem rdP_nat (xs : List S71) (i : Nat) (h : i < xs.length) : rd_T71 xs (i : Int) = xs[i] := by
  unfold rd_T71
  rw [Int.toNat_natCast, List.getD_eq_getElem?_getD, List.getElem?_eq_getElem h]; rfl
theorem dropP (l : List S71) (i : Nat) (h : i < l.length) : l.drop i = rd_T71 l (i : Int) :: l.drop (i + 1) := by
  rw [List.drop_eq_getElem_cons h, rdP_nat l i h]
def isK (k : Int) (x : S71) : Bool := decide (x.f0 = k)
def ltK (k : Int) (x : S71) : Bool := decide (x.f0 < k)
def gtK (k : Int) (x : S71) : Bool := decide (x.f0 > k)
theorem dropP2 (l : List S71) (i : Nat) (h : i < l.length) : l.drop i = rd_T71 l (i : Int) :: l.drop (i + 1) := by
  rw [List.drop_eq_getElem_cons h, rdP_nat l i h]
theorem parted_l0 (l : List S71) (key : Int) (hn : l.length ≤ 1048576) (d : Nat) :
    ∀ (i : Nat) (b s a : List S71), i + d = l.length → b.length ≤ i → s.length ≤ i → a.length ≤ i → Ev (fun k => impl_parted.l0 k key b s a l (l.length : Int) (i : Int)) (b ++ (l.drop i).filter (ltK key), s ++ (l.drop i).filter (isK key), a ++ (l.drop i).filter (gtK key)) := by
  induction d with
  | zero =>
    intro i b s a hi _ _ _
    refine Ev.step (fun _ => impl_parted.l0.eq_2 ..) (Ev.neg (by omega) (Ev.some ?_))
    rw [List.drop_eq_nil_of_le (by omega)]; simp
  | succ d ih =>
    intro i b s a hi hb hs ha
    rw [dropP2 l i (by omega)]
    refine Ev.step (fun _ => impl_parted.l0.eq_2 ..) (Ev.pos (by omega) (Ev.pos (by omega) (Ev.pos (by omega) (Ev.ite (fun h => Ev.pos (by omega) ?_) (fun h => Ev.ite (fun h2 => Ev.pos (by omega) ?_) (fun h2 => Ev.pos (by omega) ?_))))))
    · rw [w64_succ i (by omega), List.filter_cons_of_pos (by unfold ltK; exact decide_eq_true h), List.filter_cons_of_neg (by unfold isK; simp; omega), List.filter_cons_of_neg (by unfold gtK; simp; omega)]
      have := ih (i + 1) (b ++ [rd_T71 l (i : Int)]) s a (by omega) (by simp; omega) (by omega) (by omega)
      rwa [List.append_assoc, List.singleton_append] at this
    · rw [w64_succ i (by omega), List.filter_cons_of_neg (by unfold ltK; simp; omega), List.filter_cons_of_neg (by unfold isK; simp; omega), List.filter_cons_of_pos (by unfold gtK; exact decide_eq_true h2)]
      have := ih (i + 1) b s (a ++ [rd_T71 l (i : Int)]) (by omega) (by omega) (by omega) (by simp; omega)
      rwa [List.append_assoc, List.singleton_append] at this
    · rw [w64_succ i (by omega), List.filter_cons_of_neg (by unfold ltK; simp; omega), List.filter_cons_of_pos (by unfold isK; exact decide_eq_true (by omega)), List.filter_cons_of_neg (by unfold gtK; simp; omega)]
      have := ih (i + 1) b (s ++ [rd_T71 l (i : Int)]) a (by omega) (by omega) (by simp; omega) (by omega)
      rwa [List.append_assoc, List.singleton_append] at this
theorem parted_ev (l : List S71) (key : Int) (hn : l.length ≤ 1048576) : Ev (fun k => impl_parted.f k l key) (l.filter (ltK key), l.filter (isK key), l.filter (gtK key)) := by
  have h := parted_l0 l key hn l.length 0 [] [] [] (by omega) (by simp) (by simp) (by simp)
  refine Ev.congr (fun _ => impl_parted.f.eq_1 ..) ?_
  simpa using h
def doM (l : List S71) (kind key val : Int) : List S71 × Int :=
  if kind = 1 then (l, impl_DoTask.fnd (l.filter (isK key)))
  else if kind = 3 ∧ 0 < (l.filter (isK key)).length then (l.filter (keepF key), 1)
  else if kind = 2 ∧ (l.filter (isK key)).length = 0 then (l.filter (ltK key) ++ [⟨key, val⟩] ++ l.filter (gtK key), 1)
  else (l, 0)
theorem implDoTask_ev (l : List S71) (hn : l.length ≤ 1048576) (a0 a1 a2 a3 a4 a5 a6 a7 a8 : Int) (a9 : Bool) (a10 : Int) : Ev (fun k => impl_DoTask.f k l a0 a1 a2 a3 a4 a5 a6 a7 a8 a9 a10) (doM l a0 a1 a2) := by
  refine Ev.congr (fun _ => impl_DoTask.f.eq_1 ..) (Ev.bind (parted_ev l a1 hn) ?_)
  have h1 := List.length_filter_le (ltK a1) l
  have h2 : (l.filter (gtK a1)).length ≤ l.length := List.length_filter_le _ _
  have h3 : (l.filter (ltK a1)).length + (l.filter (gtK a1)).length < 2000000 + l.length := by omega
  have hlen : (l.filter (ltK a1)).length + (l.filter (gtK a1)).length ≤ l.length := by
    clear h1 h2 h3 hn
    induction l with
    | nil => simp
    | cons x r ih =>
      by_cases c1 : x.f0 < a1
      · rw [List.filter_cons_of_pos (by unfold ltK; exact decide_eq_true c1), List.filter_cons_of_neg (by unfold gtK; simp; omega)]; simp; omega
      · by_cases c2 : x.f0 > a1
        · rw [List.filter_cons_of_neg (by unfold ltK; simp; omega), List.filter_cons_of_pos (by unfold gtK; exact decide_eq_true c2)]; simp; omega
        · rw [List.filter_cons_of_neg (by unfold ltK; simp; omega), List.filter_cons_of_neg (by unfold gtK; simp; omega)]; simp; omega
  refine Ev.pos ⟨by omega, by show (l.filter (ltK a1)).length + (l.filter (gtK a1)).length < 2000000; omega⟩ ?_
  unfold doM
  refine Ev.ite (fun h => Ev.some (by rw [if_pos h])) (fun h => ?_)
  rw [if_neg h]
  refine Ev.ite (fun h => Ev.some (by rw [if_pos h])) (fun h => ?_)
  rw [if_neg h]
  exact Ev.ite (fun h => Ev.some (by rw [if_pos h])) (fun h => Ev.some (by rw [if_neg h]))
def fndA (acc : Int) (l : List S71) : Int := if acc = 0 then impl_DoTask.fnd l else acc
theorem specDo_l4 (l : List S71) (hn : l.length ≤ 1048576) (a0 a1 a2 a3 a4 a5 a6 a7 a8 : Int) (a9 : Bool) (a10 : Int) (d : Nat) :
    ∀ (i : Nat) (acc : List S71) (g : Int), i + d = l.length → acc.length ≤ i → Ev (fun k => spec_DoTask.l4 k l acc g (i : Int) a0 a1 a2 a3 a4 a5 a6 a7 a8 a9 a10) (acc ++ (l.drop i).filter (keepF a1), if 0 < ((l.drop i).filter (isK a1)).length then 1 else g) := by
  induction d with
  | zero =>
    intro i acc g hi _
    refine Ev.step (fun _ => spec_DoTask.l4.eq_2 ..) (Ev.neg (by omega) (Ev.some ?_))
    rw [List.drop_eq_nil_of_le (by omega)]; simp
  | succ d ih =>
    intro i acc g hi ha
    rw [dropP2 l i (by omega)]
    refine Ev.step (fun _ => spec_DoTask.l4.eq_2 ..) (Ev.pos (by omega) (Ev.pos (by omega) (Ev.ite (fun h => ?_) (fun h => Ev.pos (by omega) ?_))))
    · rw [w64_succ i (by omega), List.filter_cons_of_neg (by unfold keepF; simp [h]), List.filter_cons_of_pos (by unfold isK; exact decide_eq_true h), if_pos (by simp)]
      refine Ev.eq (ih (i + 1) acc 1 (by omega) (by omega)) ?_
      congr 1
      by_cases c : 0 < ((l.drop (i + 1)).filter (isK a1)).length
      · rw [if_pos c]
      · rw [if_neg c]
    · rw [w64_succ i (by omega), List.filter_cons_of_pos (by unfold keepF; simpa using h), List.filter_cons_of_neg (by unfold isK; simpa using h)]
      have := ih (i + 1) (acc ++ [rd_T71 l (i : Int)]) g (by omega) (by simp; omega)
      rwa [List.append_assoc, List.singleton_append] at this
theorem specDo_l3 (l : List S71) (hn : l.length ≤ 1048576) (a0 a1 a2 a3 a4 a5 a6 a7 a8 : Int) (a9 : Bool) (a10 : Int) (d : Nat) :
    ∀ (i : Nat) (acc : List S71), i + d = l.length → acc.length ≤ 2000000 + i → Ev (fun k => spec_DoTask.l3 k l acc (i : Int) a0 a1 a2 a3 a4 a5 a6 a7 a8 a9 a10) (acc ++ (l.drop i).filter (gtK a1), 1) := by
  induction d with
  | zero =>
    intro i acc hi _
    refine Ev.step (fun _ => spec_DoTask.l3.eq_2 ..) (Ev.neg (by omega) (Ev.some ?_))
    rw [List.drop_eq_nil_of_le (by omega)]; simp
  | succ d ih =>
    intro i acc hi ha
    rw [dropP2 l i (by omega)]
    refine Ev.step (fun _ => spec_DoTask.l3.eq_2 ..) (Ev.pos (by omega) (Ev.pos (by omega) (Ev.ite (fun h => Ev.pos (by omega) ?_) (fun h => ?_))))
    · rw [w64_succ i (by omega), List.filter_cons_of_pos (by unfold gtK; exact decide_eq_true h)]
      have := ih (i + 1) (acc ++ [rd_T71 l (i : Int)]) (by omega) (by simp; omega)
      rwa [List.append_assoc, List.singleton_append] at this
    · rw [w64_succ i (by omega), List.filter_cons_of_neg (by unfold gtK; simpa using h)]
      exact ih (i + 1) acc (by omega) (by omega)
theorem specDo_l2 (l : List S71) (hn : l.length ≤ 1048576) (a0 a1 a2 a3 a4 a5 a6 a7 a8 : Int) (a9 : Bool) (a10 : Int) (d : Nat) :
    ∀ (i : Nat) (acc : List S71), i + d = l.length → acc.length ≤ i → Ev (fun k => spec_DoTask.l2 k l acc (i : Int) a0 a1 a2 a3 a4 a5 a6 a7 a8 a9 a10) ((acc ++ (l.drop i).filter (ltK a1)) ++ [⟨a1, a2⟩] ++ l.filter (gtK a1), 1) := by
  induction d with
  | zero =>
    intro i acc hi ha
    refine Ev.step (fun _ => spec_DoTask.l2.eq_2 ..) (Ev.neg (by omega) (Ev.pos (by omega) ?_))
    rw [List.drop_eq_nil_of_le (by omega), List.filter_nil, List.append_nil]
    have := specDo_l3 l hn a0 a1 a2 a3 a4 a5 a6 a7 a8 a9 a10 l.length 0 (acc ++ [⟨a1, a2⟩]) (by omega) (by simp; omega)
    rwa [List.drop_zero] at this
  | succ d ih =>
    intro i acc hi ha
    rw [dropP2 l i (by omega)]
    refine Ev.step (fun _ => spec_DoTask.l2.eq_2 ..) (Ev.pos (by omega) (Ev.pos (by omega) (Ev.ite (fun h => Ev.pos (by omega) ?_) (fun h => ?_))))
    · rw [w64_succ i (by omega), List.filter_cons_of_pos (by unfold ltK; exact decide_eq_true h)]
      have := ih (i + 1) (acc ++ [rd_T71 l (i : Int)]) (by omega) (by simp; omega)
      rwa [List.append_assoc acc, List.singleton_append] at this
    · rw [w64_succ i (by omega), List.filter_cons_of_neg (by unfold ltK; simpa using h)]
      exact ih (i + 1) acc (by omega) (by omega)
theorem specDo_l1 (l : List S71) (hn : l.length ≤ 1048576) (a0 a1 a2 a3 a4 a5 a6 a7 a8 : Int) (a9 : Bool) (a10 : Int) (d : Nat) :
    ∀ i : Nat, i + d = l.length → ((l.take i).filter (isK a1)).length = 0 → Ev (fun k => spec_DoTask.l1 k l [] (i : Int) a0 a1 a2 a3 a4 a5 a6 a7 a8 a9 a10) (if (l.filter (isK a1)).length = 0 then (l.filter (ltK a1) ++ [⟨a1, a2⟩] ++ l.filter (gtK a1), 1) else (l, 0)) := by
  induction d with
  | zero =>
    intro i hi h0
    refine Ev.step (fun _ => spec_DoTask.l1.eq_2 ..) (Ev.neg (by omega) ?_)
    rw [List.take_of_length_le (by omega)] at h0
    rw [if_pos h0]
    have := specDo_l2 l hn a0 a1 a2 a3 a4 a5 a6 a7 a8 a9 a10 l.length 0 [] (by omega) (by simp)
    rwa [List.drop_zero, List.nil_append] at this
  | succ d ih =>
    intro i hi h0
    refine Ev.step (fun _ => spec_DoTask.l1.eq_2 ..) (Ev.pos (by omega) (Ev.pos (by omega) (Ev.ite (fun h => Ev.call rfl (Ev.pos (by simp; omega) (Ev.some ?_))) (fun h => ?_))))
    · have hm : (l.filter (isK a1)).length ≠ 0 := by
        intro hc
        have := List.filter_eq_nil_iff.1 (List.length_eq_zero_iff.1 hc) (rd_T71 l (i : Int)) (by rw [rdP_nat l i (by omega)]; exact List.getElem_mem _)
        exact this (by unfold isK; exact decide_eq_true h)
      rw [if_neg hm, List.nil_append]
    · rw [w64_succ i (by omega)]
      refine ih (i + 1) (by omega) ?_
      rw [List.take_succ_eq_append_getElem (by omega), List.filter_append, List.length_append, h0, ← rdP_nat l i (by omega), List.filter_cons_of_neg (by unfold isK; simpa using h)]; rfl
theorem specDo_l0 (l : List S71) (hn : l.length ≤ 1048576) (a0 a1 a2 a3 a4 a5 a6 a7 a8 : Int) (a9 : Bool) (a10 : Int) (hk : 1 ≤ a0 ∧ a0 ≤ 3) (d : Nat) :
    ∀ (i : Nat) (g : Int), i + d = l.length → fndA g ((l.drop i).filter (isK a1)) = impl_DoTask.fnd (l.filter (isK a1)) → Ev (fun k => spec_DoTask.l0 k l [] g (i : Int) a0 a1 a2 a3 a4 a5 a6 a7 a8 a9 a10) (doM l a0 a1 a2) := by
  induction d with
  | zero =>
    intro i g hi hg
    rw [List.drop_eq_nil_of_le (by omega)] at hg
    have hg' : g = impl_DoTask.fnd (l.filter (isK a1)) := by
      rw [← hg]; unfold fndA
      by_cases c : g = 0
      · rw [if_pos c, c]; rfl
      · rw [if_neg c]
    unfold doM
    refine Ev.step (fun _ => spec_DoTask.l0.eq_2 ..) (Ev.neg (by omega) (Ev.ite (fun h => Ev.pos (by simp; omega) (Ev.some ?_)) (fun h => Ev.ite (fun h2 => ?_) (fun h2 => ?_))))
    · rw [if_pos h, List.nil_append, hg']
    · rw [if_neg h, if_neg (by omega)]
      refine Ev.eq (specDo_l1 l hn a0 a1 a2 a3 a4 a5 a6 a7 a8 a9 a10 l.length 0 (by omega) (by simp)) ?_
      by_cases c : (l.filter (isK a1)).length = 0
      · rw [if_pos c, if_pos ⟨h2, c⟩]
      · rw [if_neg c, if_neg (fun z => c z.2)]
    · rw [if_neg h]
      have := specDo_l4 l hn a0 a1 a2 a3 a4 a5 a6 a7 a8 a9 a10 l.length 0 [] 0 (by omega) (by simp)
      rw [List.drop_zero, List.nil_append] at this
      refine Ev.eq this ?_
      by_cases c : 0 < (l.filter (isK a1)).length
      · rw [if_pos c, if_pos ⟨by omega, c⟩]
      · rw [if_neg c, if_neg (fun z => c z.2), if_neg (fun z => h2 z.1)]
        congr 1
        refine List.filter_eq_self.2 fun x hx => ?_
        have := List.filter_eq_nil_iff.1 (List.length_eq_zero_iff.1 (by omega : (l.filter (isK a1)).length = 0)) x hx
        unfold isK at this
        unfold keepF
        simpa using this
  | succ d ih =>
    intro i g hi hg
    rw [dropP2 l i (by omega)] at hg
    refine Ev.step (fun _ => spec_DoTask.l0.eq_2 ..) (Ev.pos (by omega) (Ev.pos (by omega) (Ev.ite (fun h => Ev.ite (fun h2 => ?_) (fun h2 => ?_)) (fun h => ?_))))
    · rw [w64_succ i (by omega)]
      refine ih (i + 1) _ (by omega) ?_
      rw [List.filter_cons_of_pos (by unfold isK; exact decide_eq_true h)] at hg
      rw [← hg, h2]
      unfold fndA
      rw [if_pos rfl, impl_DoTask.fnd]
    · rw [w64_succ i (by omega)]
      refine ih (i + 1) _ (by omega) ?_
      rw [← hg]; unfold fndA; rw [if_neg h2, if_neg h2]
    · rw [w64_succ i (by omega)]
      refine ih (i + 1) _ (by omega) ?_
      rw [List.filter_cons_of_neg (by unfold isK; simpa using h)] at hg
      exact hg
theorem specDoTask_ev (l : List S71) (hn : l.length ≤ 1048576) (a0 a1 a2 a3 a4 a5 a6 a7 a8 : Int) (a9 : Bool) (a10 : Int) : Ev (fun k => spec_DoTask.f k l a0 a1 a2 a3 a4 a5 a6 a7 a8 a9 a10) (doM l a0 a1 a2) := by
  refine Ev.congr (fun _ => spec_DoTask.f.eq_1 ..) (Ev.call rfl (Ev.call (l01In_eq ..) (Ev.ite (fun h => ?_) (fun h => Ev.pos (by simp; omega) (Ev.some ?_)))))
  · have := specDo_l0 l hn a0 a1 a2 a3 a4 a5 a6 a7 a8 a9 a10 (of_decide_eq_true h) l.length 0 0 (by omega) (by rw [List.drop_zero]; unfold fndA; rw [if_pos rfl])
    exact this
  · have hk : ¬ (1 ≤ a0 ∧ a0 ≤ 3) := fun z => h (decide_eq_true z)
    unfold doM
    rw [if_neg (by omega), if_neg (by omega), if_neg (by omega), List.nil_append]
theorem doM_len (l : List S71) (kind key val : Int) : (doM l kind key val).1.length ≤ l.length + 1 := by
  unfold doM
  by_cases h1 : kind = 1
  · rw [if_pos h1]; simp
  · rw [if_neg h1]
    by_cases h2 : kind = 3 ∧ 0 < (l.filter (isK key)).length
    · rw [if_pos h2]; exact Nat.le_succ_of_le (List.length_filter_le _ _)
    · rw [if_neg h2]
      by_cases h3 : kind = 2 ∧ (l.filter (isK key)).length = 0
      · rw [if_pos h3]
        have : (l.filter (ltK key)).length + (l.filter (gtK key)).length ≤ l.length := by
          clear h1 h2 h3
          induction l with
          | nil => simp
          | cons x r ih =>
            by_cases c1 : x.f0 < key
            · rw [List.filter_cons_of_pos (by unfold ltK; exact decide_eq_true c1), List.filter_cons_of_neg (by unfold gtK; simp; omega)]; simp; omega
            · by_cases c2 : x.f0 > key
              · rw [List.filter_cons_of_neg (by unfold ltK; simp; omega), List.filter_cons_of_pos (by unfold gtK; exact decide_eq_true c2)]; simp; omega
              · rw [List.filter_cons_of_neg (by unfold ltK; simp; omega), List.filter_cons_of_neg (by unfold gtK; simp; omega)]; simp; omega
        simp; omega
      · rw [if_neg h3]; simp
theorem taskNew_eq (a b c d : Int) : spec_TaskNew.f a b c d = some (a, b, c, d, 0, 0, 0, 0, 0, false, 0) := rfl
/-- Pairs that puts alone made: each key once, the values 0 to 8. -/
def goodP (l : List S71) : Prop := (∀ k : Int, (l.filter (isK k)).length ≤ 1) ∧ ∀ x ∈ l, 0 ≤ x.f1 ∧ x.f1 ≤ 98
theorem goodP_nil : goodP [] := ⟨fun _ => by simp, by simp⟩
theorem isK_filter_lt (l : List S71) (key k : Int) : ((l.filter (ltK key)).filter (isK k)).length + ((l.filter (gtK key)).filter (isK k)).length ≤ (l.filter (isK k)).length := by
  induction l with
  | nil => simp
  | cons x r ih =>
    by_cases c1 : x.f0 < key
    · rw [List.filter_cons_of_pos (p := ltK key) (by unfold ltK; exact decide_eq_true c1), List.filter_cons_of_neg (p := gtK key) (by unfold gtK; simp; omega)]
      by_cases c : isK k x = true
      · rw [List.filter_cons_of_pos c, List.filter_cons_of_pos c]; simp only [List.length_cons]; omega
      · rw [List.filter_cons_of_neg c, List.filter_cons_of_neg c]; exact ih
    · by_cases c2 : x.f0 > key
      · rw [List.filter_cons_of_neg (p := ltK key) (by unfold ltK; simp; omega), List.filter_cons_of_pos (p := gtK key) (by unfold gtK; exact decide_eq_true c2)]
        by_cases c : isK k x = true
        · rw [List.filter_cons_of_pos c, List.filter_cons_of_pos c]; simp only [List.length_cons]; omega
        · rw [List.filter_cons_of_neg c, List.filter_cons_of_neg c]; exact ih
      · rw [List.filter_cons_of_neg (p := ltK key) (by unfold ltK; simp; omega), List.filter_cons_of_neg (p := gtK key) (by unfold gtK; simp; omega)]
        by_cases c : isK k x = true
        · rw [List.filter_cons_of_pos c]; simp only [List.length_cons]; omega
        · rw [List.filter_cons_of_neg c]; exact ih
theorem isK_other (l : List S71) (key : Int) : ((l.filter (ltK key)).filter (isK key)) = [] ∧ ((l.filter (gtK key)).filter (isK key)) = [] := by
  constructor <;> refine List.filter_eq_nil_iff.2 fun x hx => ?_ <;> have h := (List.mem_filter.1 hx).2
  · unfold ltK at h; unfold isK; have := of_decide_eq_true h; simp; omega
  · unfold gtK at h; unfold isK; have := of_decide_eq_true h; simp; omega
theorem good_put {l : List S71} (h : goodP l) (key val : Int) (hv : 0 ≤ val ∧ val ≤ 98) : goodP (doM l 2 key val).1 := by
  unfold doM
  rw [if_neg (by omega), if_neg (by omega)]
  by_cases c : (l.filter (isK key)).length = 0
  · rw [if_pos ⟨rfl, c⟩]
    refine ⟨fun k => ?_, fun x hx => ?_⟩
    · rw [List.filter_append, List.filter_append, List.length_append, List.length_append]
      have h1 := isK_filter_lt l key k
      by_cases e : key = k
      · subst e
        obtain ⟨e1, e2⟩ := isK_other l key
        rw [e1, e2, List.filter_cons_of_pos (by unfold isK; simp)]; simp
      · rw [List.filter_cons_of_neg (by unfold isK; simpa using e)]
        have := h.1 k
        simp only [List.filter_nil, List.length_nil]; omega
    · rcases List.mem_append.1 hx with hx | hx
      · rcases List.mem_append.1 hx with hx | hx
        · exact h.2 x (List.mem_filter.1 hx).1
        · rw [List.mem_singleton.1 hx]; exact hv
      · exact h.2 x (List.mem_filter.1 hx).1
  · rw [if_neg fun z => c z.2]; exact h
theorem pairs_l0 (l : List Int) (hl : l.length ≤ 140737488355328) (d : Nat) :
    ∀ (j : Nat) (acc : List S71) (i h : Int), j + d = 5 → acc.length ≤ j → goodP acc → 0 ≤ i →
      ∃ r i' h', Ev (fun k => spec_l07Pairs.l0 k acc (j : Int) l i h) (r, i', h') ∧ r.length ≤ 5 ∧ goodP r ∧ 0 ≤ i' := by
  induction d with
  | zero =>
    intro j acc i h hj ha hg hi
    obtain ⟨b, i1, h1, e, hi1, b0, b1, _⟩ := below_ok l i h 5 hi hl
    exact ⟨acc, i1, h1, Ev.step (fun _ => spec_l07Pairs.l0.eq_2 ..) (Ev.call e (Ev.neg (by have := b1 (by omega); omega) (Ev.now _))), by omega, hg, hi1⟩
  | succ d ih =>
    intro j acc i h hj ha hg hi
    obtain ⟨b, i1, h1, e, hi1, b0, b1, _⟩ := below_ok l i h 5 hi hl
    by_cases c : (j : Int) < b
    · obtain ⟨n, i2, h2, e2, hi2, n0, n1, _⟩ := below_ok l i1 h1 6 hi1 hl
      have n1 := n1 (by omega)
      obtain ⟨v, i3, h3, e3, hi3, v0, v1, _⟩ := below_ok l i2 h2 9 hi2 hl
      have v1 := v1 (by omega)
      have hlen := doM_len acc 2 (1 + n) v
      obtain ⟨r, i4, h4, er, q1, q2, q3⟩ := ih (j + 1) (doM acc 2 (1 + n) v).1 i3 h3 (by omega) (by omega) (good_put hg (1 + n) v ⟨v0, by omega⟩) hi3
      refine ⟨r, i4, h4, Ev.step (fun _ => spec_l07Pairs.l0.eq_2 ..) (Ev.call e (Ev.pos c (Ev.call e2 (Ev.call e3 (Ev.call rfl ?_))))), q1, q2, q3⟩
      rw [w64 (n := 1 + n) (by omega) (by omega), w64_succ j (by omega)]
      exact Ev.bind (specDoTask_ev acc (by omega) 2 (1 + n) v 1 0 0 0 0 0 false 0) er
    · exact ⟨acc, i1, h1, Ev.step (fun _ => spec_l07Pairs.l0.eq_2 ..) (Ev.call e (Ev.neg c (Ev.now _))), by omega, hg, hi1⟩
theorem pairs_ok (l : List Int) (hl : l.length ≤ 140737488355328) (i h : Int) (hi : 0 ≤ i) : ∃ r i' h', Ev (fun k => spec_l07Pairs.f k l i h) (r, i', h') ∧ r.length ≤ 5 ∧ goodP r ∧ 0 ≤ i' := by
  obtain ⟨r, i', h', e, q⟩ := pairs_l0 l hl 5 0 [] i h (by omega) (by simp) goodP_nil hi
  exact ⟨r, i', h', Ev.congr (fun _ => spec_l07Pairs.f.eq_1 ..) e, q⟩
theorem drawPairs_ok (l : List Int) (hl : l.length ≤ 140737488355328) : ∃ r, Ev (fun k => spec_DrawPairs.f k l) r ∧ r.length ≤ 5 ∧ goodP r := by
  obtain ⟨h, e⟩ := new_ok l hl
  obtain ⟨r, i', h', e2, q1, q2, _⟩ := pairs_ok l hl 0 h (by omega)
  exact ⟨r, Ev.congr (fun _ => spec_DrawPairs.f.eq_1 ..) (Ev.bind e (Ev.bind e2 (Ev.now _))), q1, q2⟩
theorem l06Task_ok (l : List Int) (hl : l.length ≤ 140737488355328) (i h n : Int) (hi : 0 ≤ i) : ∃ kind key val i' h', spec_l06Task.f l i h n = some (kind, key, val, n, 0, 0, 0, 0, 0, false, 0, i', h') ∧ 0 ≤ i' ∧ 1 ≤ kind ∧ kind ≤ 3 ∧ 1 ≤ key ∧ key ≤ 6 ∧ 0 ≤ val ∧ val ≤ 8 := by
  unfold spec_l06Task.f
  obtain ⟨q, i1, h1, e1, hi1, hq⟩ := pickInt_ok l i h [1, 2, 2, 2, 3] (by simp) hi hl
  obtain ⟨b, i2, h2, e2, hi2, b0, b1, _⟩ := below_ok l i1 h1 6 hi1 hl
  obtain ⟨v, i3, h3, e3, hi3, v0, v1, _⟩ := below_ok l i2 h2 9 hi2 hl
  have b1 := b1 (by omega)
  have v1 := v1 (by omega)
  rw [e1]
  simp only [Option.bind_some]
  rw [e2]
  simp only [Option.bind_some]
  rw [e3]
  simp only [Option.bind_some, taskNew_eq, w64 (n := 1 + b) (by omega) (by omega)]
  refine ⟨q, 1 + b, v, i3, h3, rfl, hi3, ?_, ?_, by omega, by omega, v0, by omega⟩ <;> simp at hq <;> omega
theorem drawDoTask_ok (l : List Int) (hl : l.length ≤ 140737488355328) : ∃ r a0 a1 a2 a3 a4 a5 a6 a7 a8 a9 a10, Ev (fun k => spec_DrawDoTask.f k l) (r, a0, a1, a2, a3, a4, a5, a6, a7, a8, a9, a10) ∧ r.length ≤ 5 := by
  obtain ⟨h, e⟩ := new_ok l hl
  obtain ⟨kind, key, val, i1, h1, e1, hi1, _⟩ := l06Task_ok l hl 0 h 1 (by omega)
  obtain ⟨b, i2, h2, e2, hi2, _⟩ := below_ok l i1 h1 12 hi1 hl
  have eo : spec_l01Once.f l i1 h1 12 = some (b == 0, i2, h2) := by unfold spec_l01Once.f; rw [e2]; rfl
  by_cases c : (b == 0) = true
  · obtain ⟨k2, i3, h3, e3, hi3, _⟩ := below_ok l i2 h2 6 hi2 hl
    obtain ⟨r, i', h', e4, q1, _⟩ := pairs_ok l hl i3 h3 hi3
    exact ⟨r, k2, key, val, 1, 0, 0, 0, 0, 0, false, 0, Ev.congr (fun _ => spec_DrawDoTask.f.eq_1 ..) (Ev.bind e (Ev.call e1 (Ev.call eo (Ev.pos c (Ev.call e3 (Ev.bind e4 (Ev.now _))))))), q1⟩
  · obtain ⟨r, i', h', e4, q1, _⟩ := pairs_ok l hl i2 h2 hi2
    exact ⟨r, kind, key, val, 1, 0, 0, 0, 0, 0, false, 0, Ev.congr (fun _ => spec_DrawDoTask.f.eq_1 ..) (Ev.bind e (Ev.call e1 (Ev.call eo (Ev.neg c (Ev.bind e4 (Ev.now _)))))), q1⟩
theorem samePairs_l0 (a : List S71) (hn : a.length ≤ 140737488355328) (d : Nat) : ∀ i : Nat, i + d = a.length → Ev (fun k => laws_samePairs.l0 k a a (i : Int)) true := by
  induction d with
  | zero => intro i hi; exact Ev.step (fun _ => laws_samePairs.l0.eq_2 ..) (Ev.neg (by omega) (Ev.now _))
  | succ d ih =>
    intro i hi
    refine Ev.step (fun _ => laws_samePairs.l0.eq_2 ..) (Ev.pos (by omega) (Ev.pos (by omega) (Ev.pos (by omega) (Ev.neg (by simp) ?_))))
    rw [w64_succ i (by omega)]; exact ih (i + 1) (by omega)
theorem samePairs_self (a : List S71) (hn : a.length ≤ 140737488355328) : Ev (fun k => laws_samePairs.f k a a) true :=
  Ev.congr (fun _ => laws_samePairs.f.eq_1 ..) (Ev.pos rfl (samePairs_l0 a hn a.length 0 (by omega)))
theorem fnd_one {l : List S71} (h : goodP l) (k : Int) : (∃ x ∈ l, x.f0 = k ∧ l.filter (isK k) = [x] ∧ impl_DoTask.fnd (l.filter (isK k)) = x.f1 + 1) ∨ (l.filter (isK k) = [] ∧ impl_DoTask.fnd (l.filter (isK k)) = 0) := by
  have h1 := h.1 k
  match hq : l.filter (isK k) with
  | [] => exact .inr ⟨rfl, rfl⟩
  | x :: y :: r => rw [hq] at h1; simp at h1
  | [x] =>
    have hx : x ∈ l.filter (isK k) := by rw [hq]; simp
    have hm := List.mem_filter.1 hx
    have hv := h.2 x hm.1
    refine .inl ⟨x, hm.1, by have := hm.2; unfold isK at this; exact of_decide_eq_true this, rfl, ?_⟩
    unfold impl_DoTask.fnd
    rw [w64 (n := x.f1 + 1) (by omega) (by omega), if_neg (by omega)]
theorem places_l0 (l : List Int) (hl : l.length ≤ 140737488355328) (d : Nat) :
    ∀ (j : Nat) (acc : List Int) (i h : Int), j + d = 12 → acc.length = j → (∀ x ∈ acc, 0 ≤ x ∧ x < 10000) → 0 ≤ i →
      ∃ r, Ev (fun k => spec_DrawPlaces.l0 k acc (j : Int) l i h) r ∧ r.length = 12 ∧ ∀ x ∈ r, 0 ≤ x ∧ x < 10000 := by
  induction d with
  | zero =>
    intro j acc i h hj hc ha hi
    exact ⟨acc, Ev.step (fun _ => spec_DrawPlaces.l0.eq_2 ..) (Ev.neg (by omega) (Ev.now _)), by omega, ha⟩
  | succ d ih =>
    intro j acc i h hj hc ha hi
    obtain ⟨b, i1, h1, e, hi1, b0, b1, _⟩ := below_ok l i h 10000 hi hl
    obtain ⟨r, er, hr⟩ := ih (j + 1) (acc ++ [b]) i1 h1 (by omega) (by simp; omega) (by
      intro x hx
      rcases List.mem_append.1 hx with hx | hx
      · exact ha x hx
      · obtain rfl := List.mem_singleton.1 hx; exact ⟨b0, b1 (by omega)⟩) hi1
    refine ⟨r, Ev.step (fun _ => spec_DrawPlaces.l0.eq_2 ..) (Ev.pos (by omega) (Ev.call e (Ev.pos (by omega) ?_))), hr⟩
    rw [w64_succ j (by omega)]
    exact er
theorem places_ok (l : List Int) (hl : l.length ≤ 140737488355328) : ∃ r, Ev (fun k => spec_DrawPlaces.f k l) r ∧ r.length = 12 ∧ ∀ x ∈ r, 0 ≤ x ∧ x < 10000 := by
  obtain ⟨h, e⟩ := new_ok l hl
  obtain ⟨b, i1, h1, e1, _, _, hi1⟩ := byte_ok l 0 h (by omega) hl
  obtain ⟨r, er, hr⟩ := places_l0 l hl 12 0 [] i1 h1 (by omega) rfl (by simp) hi1
  exact ⟨r, Ev.congr (fun _ => spec_DrawPlaces.f.eq_1 ..) (Ev.bind e (Ev.call e1 er)), hr⟩
theorem law_arith (l : List S71) (h : goodP l) (k v : Int) (hv : 0 ≤ v ∧ v ≤ 98) (there put found twice took none : Int) (a b : List S71) (e1 : there = (doM l 1 k 0).2) (e2 : (a, put) = doM l 2 k v) (e3 : found = (doM a 1 k 0).2) (e4 : twice = (doM a 2 k v).2) (e5 : (b, took) = doM a 3 k 0) (e6 : none = (doM b 3 k 0).2) :
    ((put == 1) = (there == 0)) ∧ (there > 0 ∧ found = there ∨ there = 0 ∧ found = v + 1) ∧ twice = 0 ∧ took = 1 ∧ none = 0 ∧ (b.length : Int) = (a.length : Int) - 1 := by
  have hga : goodP a := by have := good_put h k v hv; rw [← e2] at this; exact this
  have d1 : ∀ l' : List S71, (doM l' 1 k 0).2 = impl_DoTask.fnd (l'.filter (isK k)) := fun l' => by unfold doM; rw [if_pos rfl]
  have d2 : ∀ l' : List S71, doM l' 2 k v = if (l'.filter (isK k)).length = 0 then (l'.filter (ltK k) ++ [⟨k, v⟩] ++ l'.filter (gtK k), 1) else (l', 0) := fun l' => by
    unfold doM
    rw [if_neg (by omega), if_neg (by omega)]
    by_cases c : (l'.filter (isK k)).length = 0
    · rw [if_pos ⟨rfl, c⟩, if_pos c]
    · rw [if_neg fun z => c z.2, if_neg c]
  have d3 : ∀ l' : List S71, doM l' 3 k 0 = if 0 < (l'.filter (isK k)).length then (l'.filter (keepF k), 1) else (l', 0) := fun l' => by
    unfold doM
    rw [if_neg (by omega)]
    by_cases c : 0 < (l'.filter (isK k)).length
    · rw [if_pos ⟨rfl, c⟩, if_pos c]
    · rw [if_neg fun z => c z.2, if_neg c, if_neg (by omega)]
  have hone : ∀ x, a.filter (isK k) = [x] → twice = 0 ∧ took = 1 ∧ none = 0 ∧ (b.length : Int) = (a.length : Int) - 1 := by
    intro x hx
    rw [d2, if_neg (by rw [hx]; simp)] at e4
    rw [d3, if_pos (by rw [hx]; simp)] at e5
    obtain ⟨rfl, rfl⟩ := Prod.mk.inj e5
    have hb : (a.filter (keepF k)).filter (isK k) = [] := List.filter_eq_nil_iff.2 fun y hy => by
      have := (List.mem_filter.1 hy).2
      unfold keepF at this; unfold isK; simpa using this
    rw [d3, if_neg (by rw [hb]; simp)] at e6
    refine ⟨e4, rfl, e6, ?_⟩
    have hsum : ∀ l' : List S71, (l'.filter (keepF k)).length + (l'.filter (isK k)).length = l'.length := by
      intro l'
      induction l' with
      | nil => rfl
      | cons y r ih =>
        by_cases c : y.f0 = k
        · rw [List.filter_cons_of_neg (p := keepF k) (by unfold keepF; simp [c]), List.filter_cons_of_pos (p := isK k) (by unfold isK; exact decide_eq_true c)]; simp; omega
        · rw [List.filter_cons_of_pos (p := keepF k) (by unfold keepF; simpa using c), List.filter_cons_of_neg (p := isK k) (by unfold isK; simpa using c)]; simp; omega
    have := hsum a
    rw [hx] at this
    simp at this
    omega
  rw [d1] at e1 e3
  rw [d2] at e2
  rcases fnd_one h k with ⟨x, hxm, hxk, hx, hf⟩ | ⟨hx, hf⟩
  · rw [if_neg (by rw [hx]; simp)] at e2
    obtain ⟨rfl, rfl⟩ := Prod.mk.inj e2
    have hv2 := h.2 x hxm
    have ht : there > 0 := by omega
    refine ⟨?_, .inl ⟨ht, by rw [e3, e1]⟩, hone x hx⟩
    rw [show (there == 0) = false from by simp; omega]; rfl
  · rw [if_pos (by rw [hx]; rfl)] at e2
    obtain ⟨rfl, rfl⟩ := Prod.mk.inj e2
    obtain ⟨q1, q2⟩ := isK_other l k
    have hx2 : (l.filter (ltK k) ++ [(⟨k, v⟩ : S71)] ++ l.filter (gtK k)).filter (isK k) = [⟨k, v⟩] := by
      rw [List.filter_append, List.filter_append, q1, q2, List.filter_cons_of_pos (by unfold isK; simp)]; rfl
    refine ⟨by rw [e1, hf]; rfl, .inr ⟨by omega, ?_⟩, hone _ hx2⟩
    rw [e3, hx2]
    unfold impl_DoTask.fnd
    show (if wrap64 (v + 1) = 0 then _ else _) = _
    rw [w64 (n := v + 1) (by omega) (by omega), if_neg (by omega)]
theorem FnDoTasks : laws_FnDoTasks.Pure := by
  intro l hl hl2 hw
  apply Ev.rounds
  refine Ev.congr (fun _ => laws_FnDoTasks.f.eq_1 ..) (Ev.call (big_eq l) (Ev.ite (fun _ => Ev.now _) (fun hbig => ?_)))
  have hlen : l.length ≤ 140737488355328 := by omega
  obtain ⟨ps, ep, hp1, hp2⟩ := drawPairs_ok l hlen
  obtain ⟨pl, eq, hq1, hq2⟩ := places_ok l hlen
  obtain ⟨r, b0, b1, b2, b3, b4, b5, b6, b7, b8, b9, b10, er, hr⟩ := drawDoTask_ok l hlen
  have g0 := hq2 pl[0] (List.getElem_mem _)
  have g1 := hq2 pl[1] (List.getElem_mem _)
  rw [← rd_nat pl 0 (by omega)] at g0
  rw [← rd_nat pl 1 (by omega)] at g1
  have t0 : Int.tmod (rd pl 0) 9 = (rd pl 0) % 9 := Int.tmod_eq_emod_of_nonneg g0.1
  have t1 : Int.tmod (rd pl 1) 99 = (rd pl 1) % 99 := Int.tmod_eq_emod_of_nonneg g1.1
  rw [Int.natCast_zero] at g0
  refine Ev.bind ep (Ev.bind eq (Ev.pos (by omega) (Ev.pos (by omega) (Ev.call rfl ?_))))
  rw [t0, t1, w64 (n := 1 + rd pl 0 % 9) (by omega) (by omega)]
  have hv : 0 ≤ rd pl 1 % 99 ∧ rd pl 1 % 99 ≤ 98 := by omega
  generalize 1 + rd pl 0 % 9 = k
  generalize rd pl 1 % 99 = v at hv
  obtain ⟨q1, q2, q3, q4, q5, q6⟩ := law_arith ps hp2 k v hv (doM ps 1 k 0).2 (doM ps 2 k v).2 (doM (doM ps 2 k v).1 1 k 0).2 (doM (doM ps 2 k v).1 2 k v).2 (doM (doM ps 2 k v).1 3 k 0).2 (doM (doM (doM ps 2 k v).1 3 k 0).1 3 k 0).2 (doM ps 2 k v).1 (doM (doM ps 2 k v).1 3 k 0).1 rfl rfl rfl rfl rfl rfl
  have hla := doM_len ps 2 k v
  have hlb := doM_len (doM ps 2 k v).1 3 k 0
  refine Ev.bind (implDoTask_ev ps (by omega) 1 k 0 1 0 0 0 0 0 false 0) (Ev.call rfl (Ev.bind (implDoTask_ev ps (by omega) 2 k v 1 0 0 0 0 0 false 0) (Ev.call rfl (Ev.bind (implDoTask_ev _ (by omega) 1 k 0 1 0 0 0 0 0 false 0) (Ev.call rfl (Ev.bind (implDoTask_ev _ (by omega) 2 k v 1 0 0 0 0 0 false 0) (Ev.call rfl (Ev.bind (implDoTask_ev _ (by omega) 3 k 0 1 0 0 0 0 0 false 0) (Ev.call rfl (Ev.bind (implDoTask_ev _ (by omega) 3 k 0 1 0 0 0 0 0 false 0) (Ev.bind er (Ev.bind (implDoTask_ev r (by omega) b0 b1 b2 b3 b4 b5 b6 b7 b8 b9 b10) (Ev.bind (specDoTask_ev r (by omega) b0 b1 b2 b3 b4 b5 b6 b7 b8 b9 b10) ?_)))))))))))))
  have hw1 : wrap64 (((doM ps 2 k v).1.length : Int) - 1) = ((doM ps 2 k v).1.length : Int) - 1 := w64 (by omega) (by omega)
  have hw2 : wrap64 (v + 1) = v + 1 := w64 (by omega) (by omega)
  have hlr := doM_len r b0 b1 b2
  have tail : Ev (fun n => (laws_samePairs.f n (doM r b0 b1 b2).1 (doM r b0 b1 b2).1).bind fun t => some t) true := Ev.bind (samePairs_self _ (by omega)) (Ev.now _)
  rw [hw1, hw2]
  refine Ev.pos (by rw [q1]; simp) (Ev.ite (fun c => ?_) (fun c => ?_))
  · refine Ev.ite (fun _ => Ev.pos q3 (Ev.pos q4 (Ev.pos q5 (Ev.pos q6 (Ev.pos rfl tail))))) (fun c2 => ?_)
    rcases q2 with q2 | q2
    · exact absurd q2.2 c2
    · omega
  · rcases q2 with q2 | q2
    · exact absurd q2.1 c
    · exact Ev.pos q2.2 (Ev.pos q3 (Ev.pos q4 (Ev.pos q5 (Ev.pos q6 (Ev.pos rfl tail)))))

end Go.Proofs.Ytfkhncoiifojnaa.Pure
