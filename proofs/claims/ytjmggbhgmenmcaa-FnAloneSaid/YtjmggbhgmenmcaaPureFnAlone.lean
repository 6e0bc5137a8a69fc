/- FnAlone returns true for all arguments: a task that steps alone does what it does alone; the keys stay in order. No conditions beyond the statement's own. -/
import Derived.Test.YtjmggbhgmenmcaaQalx6
import Derived.Test.YtjmggbhgmenmcaaVBase
namespace Go.Proofs.Ytjmggbhgmenmcaa.Pure
open Go.RowKit Go.Proofs.Ytjmggbhgmenmcaa.Qal Go.Proofs.YtjmggbhgmenmcaaW.PrintWords Go.Proofs.YtjmggbhgmenmcaaW.PrintLast Go.Proofs.YtjmggbhgmenmcaaW.PrintMore Go.Proofs.Ytjmggbhgmenmcaa.Base

instance : DecidableEq S61 := fun a b => decidable_of_iff (a.f0 = b.f0 ∧ a.f1 = b.f1) ⟨fun h => by cases a; cases b; simp_all, fun h => by rw [h]; exact ⟨rfl, rfl⟩⟩
theorem rdP_nat (xs : List S61) (i : Nat) (h : i < xs.length) : rd_T61 xs (i : Int) = xs[i] := by
  unfold rd_T61
  rw [Int.toNat_natCast, List.getD_eq_getElem?_getD, List.getElem?_eq_getElem h]; rfl
theorem dropP (l : List S61) (i : Nat) (h : i < l.length) : l.drop i = rd_T61 l (i : Int) :: l.drop (i + 1) := by
  rw [List.drop_eq_getElem_cons h, rdP_nat l i h]
def fndP : List S61 → Int
  | [] => 0
  | p :: r => if wrap64 (p.f1 + 1) = 0 then fndP r else wrap64 (p.f1 + 1)
def keepF (k : Int) (x : S61) : Bool := decide (x.f0 ≠ k)
theorem byte_ok (l : List Int) (i h : Int) (hi : 0 ≤ i) (hl : l.length ≤ 140737488355328) :
    ∃ r i' h', spec_l01Byte.f l i h = some (r, i', h') ∧ 0 ≤ r ∧ r ≤ 255 ∧ 0 ≤ i' := by
  unfold spec_l01Byte.f
  by_cases c : i < (l.length : Int)
  · rw [if_pos c, if_pos hi]
    exact ⟨_, _, _, rfl, (and255 _).1, (and255 _).2, by rw [w64 (by omega) (by omega)]; omega⟩
  · rw [if_neg c]
    exact ⟨_, _, _, rfl, (and255 _).1, (and255 _).2, hi⟩
theorem below_ok (l : List Int) (i h n : Int) (hi : 0 ≤ i) (hl : l.length ≤ 140737488355328) :
    ∃ r i' h', spec_l01Below.f l i h n = some (r, i', h') ∧ 0 ≤ i' ∧ 0 ≤ r ∧ (0 < n → r < n) ∧ (n ≤ 0 → r = 0) := by
  unfold spec_l01Below.f
  by_cases c : n ≤ 0
  · rw [if_pos c]; exact ⟨_, _, _, rfl, hi, by omega, by omega, fun _ => rfl⟩
  · rw [if_neg c]
    by_cases c2 : n ≤ 256
    · rw [if_pos c2]
      obtain ⟨r, i1, h1, e, r0, r1, hi1⟩ := byte_ok l i h hi hl
      rw [e, Option.bind_some, if_neg (by omega)]
      have := tmod_in r n r0 (by omega)
      exact ⟨_, _, _, rfl, hi1, this.1, fun _ => this.2, by omega⟩
    · rw [if_neg c2]
      obtain ⟨x, i1, h1, e1, x0, x1, hi1⟩ := byte_ok l i h hi hl
      obtain ⟨y, i2, h2, e2, y0, y1, hi2⟩ := byte_ok l i1 h1 hi1 hl
      obtain ⟨z, i3, h3, e3, z0, z1, hi3⟩ := byte_ok l i2 h2 hi2 hl
      obtain ⟨w, i4, h4, e4, w0, w1, hi4⟩ := byte_ok l i3 h3 hi3 hl
      rw [e1, Option.bind_some, e2, Option.bind_some, e3, Option.bind_some, e4, Option.bind_some, if_neg (by omega)]
      have q1 : wrap64 (x * 16777216) = x * 16777216 := w64 (by omega) (by omega)
      have q2 : wrap64 (y * 65536) = y * 65536 := w64 (by omega) (by omega)
      have q3 : wrap64 (z * 256) = z * 256 := w64 (by omega) (by omega)
      simp only [q1, q2, q3]
      rw [w64 (n := x * 16777216 + y * 65536) (by omega) (by omega), w64 (n := x * 16777216 + y * 65536 + z * 256) (by omega) (by omega), w64 (n := x * 16777216 + y * 65536 + z * 256 + w) (by omega) (by omega)]
      have := tmod_in (x * 16777216 + y * 65536 + z * 256 + w) n (by omega) (by omega)
      exact ⟨_, _, _, rfl, hi4, this.1, fun _ => this.2, by omega⟩
theorem new_l0 (l : List Int) (d : Nat) :
    ∀ (j : Nat) (x : Int), j + d = l.length → ∃ h, Ev (fun k => spec_l01New.l0 k l x (j : Int)) (l, 0, h) := by
  induction d with
  | zero => intro j x hj; exact ⟨x, Ev.step (fun _ => spec_l01New.l0.eq_2 ..) (Ev.neg (by omega) (Ev.now _))⟩
  | succ d ih =>
    intro j x hj
    by_cases c : (j : Int) < 4000
    · obtain ⟨h, e⟩ := ih (j + 1) (Go.bits .and .i64 (wrap64 ((wrap64 ((wrap64 (x * 131)) + (wrap64 (rd l j)))) + 7)) 1073741823) (by omega)
      refine ⟨h, Ev.step (fun _ => spec_l01New.l0.eq_2 ..) (Ev.pos (by omega) (Ev.pos c (Ev.pos (by omega) ?_)))⟩
      rw [w64_succ j (by omega)]
      exact e
    · exact ⟨x, Ev.step (fun _ => spec_l01New.l0.eq_2 ..) (Ev.pos (by omega) (Ev.neg c (Ev.now _)))⟩
theorem new_ok (l : List Int) (_hl : l.length ≤ 140737488355328) : ∃ h, Ev (fun k => spec_l01New.f k l) (l, 0, h) := by
  obtain ⟨h, e⟩ := new_l0 l l.length 0 (wrap64 (34901 + (l.length : Int))) (by omega)
  exact ⟨h, Ev.congr (fun _ => spec_l01New.f.eq_1 ..) e⟩
theorem big_eq (l : List Int) : laws_big.f l = some (decide ((l.length : Int) > 1048576)) := rfl
theorem l01In_eq (n lo hi : Int) : spec_l01In.f n lo hi = some (decide (lo ≤ n ∧ n ≤ hi)) := by
  unfold spec_l01In.f
  by_cases h : n ≥ lo
  · rw [if_pos h]; congr 1; rw [decide_eq_decide]; exact ⟨fun h2 => ⟨h, h2⟩, fun h2 => h2.2⟩
  · rw [if_neg h]; congr 1; symm; rw [decide_eq_false_iff_not]; exact fun h2 => h h2.1
def isK (k : Int) (x : S61) : Bool := decide (x.f0 = k)
def ltK (k : Int) (x : S61) : Bool := decide (x.f0 < k)
def gtK (k : Int) (x : S61) : Bool := decide (x.f0 > k)
theorem dropP2 (l : List S61) (i : Nat) (h : i < l.length) : l.drop i = rd_T61 l (i : Int) :: l.drop (i + 1) := by
  rw [List.drop_eq_getElem_cons h, rdP_nat l i h]
def doM (l : List S61) (kind key val : Int) : List S61 × Int :=
  if kind = 1 then (l, fndP (l.filter (isK key)))
  else if kind = 3 ∧ 0 < (l.filter (isK key)).length then (l.filter (keepF key), 1)
  else if kind = 2 ∧ (l.filter (isK key)).length = 0 then (l.filter (ltK key) ++ [⟨key, val⟩] ++ l.filter (gtK key), 1)
  else (l, 0)
def fndA (acc : Int) (l : List S61) : Int := if acc = 0 then fndP l else acc
theorem specDo_l4 (l : List S61) (hn : l.length ≤ 1048576) (a0 a1 a2 a3 a4 a5 a6 a7 a8 : Int) (a9 : Bool) (a10 : Int) (d : Nat) :
    ∀ (i : Nat) (acc : List S61) (g : Int), i + d = l.length → acc.length ≤ i → Ev (fun k => spec_DoTask.l4 k l acc g (i : Int) a0 a1 a2 a3 a4 a5 a6 a7 a8 a9 a10) (acc ++ (l.drop i).filter (keepF a1), if 0 < ((l.drop i).filter (isK a1)).length then 1 else g) := by
  induction d with
  | zero =>
    intro i acc g hi _
    refine Ev.step (fun _ => spec_DoTask.l4.eq_2 ..) (Ev.neg (by omega) (Ev.some ?_))
    rw [List.drop_eq_nil_of_le (by omega)]; simp
  | succ d ih =>
    intro i acc g hi ha
    rw [dropP2 l i (by omega)]
    refine Ev.step (fun _ => spec_DoTask.l4.eq_2 ..) (Ev.pos (by omega) (Ev.pos (by omega) (Ev.ite (fun h => ?_) (fun h => Ev.pos (by omega) ?_))))
    · rw [w64_succ i (by omega), List.filter_cons_of_neg (by unfold keepF; simp [h]), List.filter_cons_of_pos (by unfold isK; exact decide_eq_true h), if_pos (by simp)]
      refine Ev.eq (ih (i + 1) acc 1 (by omega) (by omega)) ?_
      congr 1
      by_cases c : 0 < ((l.drop (i + 1)).filter (isK a1)).length
      · rw [if_pos c]
      · rw [if_neg c]
    · rw [w64_succ i (by omega), List.filter_cons_of_pos (by unfold keepF; simpa using h), List.filter_cons_of_neg (by unfold isK; simpa using h)]
      have := ih (i + 1) (acc ++ [rd_T61 l (i : Int)]) g (by omega) (by simp; omega)
      rwa [List.append_assoc, List.singleton_append] at this
theorem specDo_l3 (l : List S61) (hn : l.length ≤ 1048576) (a0 a1 a2 a3 a4 a5 a6 a7 a8 : Int) (a9 : Bool) (a10 : Int) (d : Nat) :
    ∀ (i : Nat) (acc : List S61), i + d = l.length → acc.length ≤ 2000000 + i → Ev (fun k => spec_DoTask.l3 k l acc (i : Int) a0 a1 a2 a3 a4 a5 a6 a7 a8 a9 a10) (acc ++ (l.drop i).filter (gtK a1), 1) := by
  induction d with
  | zero =>
    intro i acc hi _
    refine Ev.step (fun _ => spec_DoTask.l3.eq_2 ..) (Ev.neg (by omega) (Ev.some ?_))
    rw [List.drop_eq_nil_of_le (by omega)]; simp
  | succ d ih =>
    intro i acc hi ha
    rw [dropP2 l i (by omega)]
    refine Ev.step (fun _ => spec_DoTask.l3.eq_2 ..) (Ev.pos (by omega) (Ev.pos (by omega) (Ev.ite (fun h => Ev.pos (by omega) ?_) (fun h => ?_))))
    · rw [w64_succ i (by omega), List.filter_cons_of_pos (by unfold gtK; exact decide_eq_true h)]
      have := ih (i + 1) (acc ++ [rd_T61 l (i : Int)]) (by omega) (by simp; omega)
      rwa [List.append_assoc, List.singleton_append] at this
    · rw [w64_succ i (by omega), List.filter_cons_of_neg (by unfold gtK; simpa using h)]
      exact ih (i + 1) acc (by omega) (by omega)
theorem specDo_l2 (l : List S61) (hn : l.length ≤ 1048576) (a0 a1 a2 a3 a4 a5 a6 a7 a8 : Int) (a9 : Bool) (a10 : Int) (d : Nat) :
    ∀ (i : Nat) (acc : List S61), i + d = l.length → acc.length ≤ i → Ev (fun k => spec_DoTask.l2 k l acc (i : Int) a0 a1 a2 a3 a4 a5 a6 a7 a8 a9 a10) ((acc ++ (l.drop i).filter (ltK a1)) ++ [⟨a1, a2⟩] ++ l.filter (gtK a1), 1) := by
  induction d with
  | zero =>
    intro i acc hi ha
    refine Ev.step (fun _ => spec_DoTask.l2.eq_2 ..) (Ev.neg (by omega) (Ev.pos (by omega) ?_))
    rw [List.drop_eq_nil_of_le (by omega), List.filter_nil, List.append_nil]
    have := specDo_l3 l hn a0 a1 a2 a3 a4 a5 a6 a7 a8 a9 a10 l.length 0 (acc ++ [⟨a1, a2⟩]) (by omega) (by simp; omega)
    rwa [List.drop_zero] at this
  | succ d ih =>
    intro i acc hi ha
    rw [dropP2 l i (by omega)]
    refine Ev.step (fun _ => spec_DoTask.l2.eq_2 ..) (Ev.pos (by omega) (Ev.pos (by omega) (Ev.ite (fun h => Ev.pos (by omega) ?_) (fun h => ?_))))
    · rw [w64_succ i (by omega), List.filter_cons_of_pos (by unfold ltK; exact decide_eq_true h)]
      have := ih (i + 1) (acc ++ [rd_T61 l (i : Int)]) (by omega) (by simp; omega)
      rwa [List.append_assoc acc, List.singleton_append] at this
    · rw [w64_succ i (by omega), List.filter_cons_of_neg (by unfold ltK; simpa using h)]
      exact ih (i + 1) acc (by omega) (by omega)
theorem specDo_l1 (l : List S61) (hn : l.length ≤ 1048576) (a0 a1 a2 a3 a4 a5 a6 a7 a8 : Int) (a9 : Bool) (a10 : Int) (d : Nat) :
    ∀ i : Nat, i + d = l.length → ((l.take i).filter (isK a1)).length = 0 → Ev (fun k => spec_DoTask.l1 k l [] (i : Int) a0 a1 a2 a3 a4 a5 a6 a7 a8 a9 a10) (if (l.filter (isK a1)).length = 0 then (l.filter (ltK a1) ++ [⟨a1, a2⟩] ++ l.filter (gtK a1), 1) else (l, 0)) := by
  induction d with
  | zero =>
    intro i hi h0
    refine Ev.step (fun _ => spec_DoTask.l1.eq_2 ..) (Ev.neg (by omega) ?_)
    rw [List.take_of_length_le (by omega)] at h0
    rw [if_pos h0]
    have := specDo_l2 l hn a0 a1 a2 a3 a4 a5 a6 a7 a8 a9 a10 l.length 0 [] (by omega) (by simp)
    rwa [List.drop_zero, List.nil_append] at this
  | succ d ih =>
    intro i hi h0
    refine Ev.step (fun _ => spec_DoTask.l1.eq_2 ..) (Ev.pos (by omega) (Ev.pos (by omega) (Ev.ite (fun h => Ev.call rfl (Ev.pos (by simp; omega) (Ev.some ?_))) (fun h => ?_))))
    · have hm : (l.filter (isK a1)).length ≠ 0 := by
        intro hc
        have := List.filter_eq_nil_iff.1 (List.length_eq_zero_iff.1 hc) (rd_T61 l (i : Int)) (by rw [rdP_nat l i (by omega)]; exact List.getElem_mem _)
        exact this (by unfold isK; exact decide_eq_true h)
      rw [if_neg hm, List.nil_append]
    · rw [w64_succ i (by omega)]
      refine ih (i + 1) (by omega) ?_
      rw [List.take_succ_eq_append_getElem (by omega), List.filter_append, List.length_append, h0, ← rdP_nat l i (by omega), List.filter_cons_of_neg (by unfold isK; simpa using h)]; rfl
theorem specDo_l0 (l : List S61) (hn : l.length ≤ 1048576) (a0 a1 a2 a3 a4 a5 a6 a7 a8 : Int) (a9 : Bool) (a10 : Int) (hk : 1 ≤ a0 ∧ a0 ≤ 3) (d : Nat) :
    ∀ (i : Nat) (g : Int), i + d = l.length → fndA g ((l.drop i).filter (isK a1)) = fndP (l.filter (isK a1)) → Ev (fun k => spec_DoTask.l0 k l [] g (i : Int) a0 a1 a2 a3 a4 a5 a6 a7 a8 a9 a10) (doM l a0 a1 a2) := by
  induction d with
  | zero =>
    intro i g hi hg
    rw [List.drop_eq_nil_of_le (by omega)] at hg
    have hg' : g = fndP (l.filter (isK a1)) := by
      rw [← hg]; unfold fndA
      by_cases c : g = 0
      · rw [if_pos c, c]; rfl
      · rw [if_neg c]
    unfold doM
    refine Ev.step (fun _ => spec_DoTask.l0.eq_2 ..) (Ev.neg (by omega) (Ev.ite (fun h => Ev.pos (by simp; omega) (Ev.some ?_)) (fun h => Ev.ite (fun h2 => ?_) (fun h2 => ?_))))
    · rw [if_pos h, List.nil_append, hg']
    · rw [if_neg h, if_neg (by omega)]
      refine Ev.eq (specDo_l1 l hn a0 a1 a2 a3 a4 a5 a6 a7 a8 a9 a10 l.length 0 (by omega) (by simp)) ?_
      by_cases c : (l.filter (isK a1)).length = 0
      · rw [if_pos c, if_pos ⟨h2, c⟩]
      · rw [if_neg c, if_neg (fun z => c z.2)]
    · rw [if_neg h]
      have := specDo_l4 l hn a0 a1 a2 a3 a4 a5 a6 a7 a8 a9 a10 l.length 0 [] 0 (by omega) (by simp)
      rw [List.drop_zero, List.nil_append] at this
      refine Ev.eq this ?_
      by_cases c : 0 < (l.filter (isK a1)).length
      · rw [if_pos c, if_pos ⟨by omega, c⟩]
      · rw [if_neg c, if_neg (fun z => c z.2), if_neg (fun z => h2 z.1)]
        congr 1
        refine List.filter_eq_self.2 fun x hx => ?_
        have := List.filter_eq_nil_iff.1 (List.length_eq_zero_iff.1 (by omega : (l.filter (isK a1)).length = 0)) x hx
        unfold isK at this
        unfold keepF
        simpa using this
  | succ d ih =>
    intro i g hi hg
    rw [dropP2 l i (by omega)] at hg
    refine Ev.step (fun _ => spec_DoTask.l0.eq_2 ..) (Ev.pos (by omega) (Ev.pos (by omega) (Ev.ite (fun h => Ev.ite (fun h2 => ?_) (fun h2 => ?_)) (fun h => ?_))))
    · rw [w64_succ i (by omega)]
      refine ih (i + 1) _ (by omega) ?_
      rw [List.filter_cons_of_pos (by unfold isK; exact decide_eq_true h)] at hg
      rw [← hg, h2]
      unfold fndA
      rw [if_pos rfl, fndP]
    · rw [w64_succ i (by omega)]
      refine ih (i + 1) _ (by omega) ?_
      rw [← hg]; unfold fndA; rw [if_neg h2, if_neg h2]
    · rw [w64_succ i (by omega)]
      refine ih (i + 1) _ (by omega) ?_
      rw [List.filter_cons_of_neg (by unfold isK; simpa using h)] at hg
      exact hg
theorem specDoTask_ev (l : List S61) (hn : l.length ≤ 1048576) (a0 a1 a2 a3 a4 a5 a6 a7 a8 : Int) (a9 : Bool) (a10 : Int) : Ev (fun k => spec_DoTask.f k l a0 a1 a2 a3 a4 a5 a6 a7 a8 a9 a10) (doM l a0 a1 a2) := by
  refine Ev.congr (fun _ => spec_DoTask.f.eq_1 ..) (Ev.call rfl (Ev.call (l01In_eq ..) (Ev.ite (fun h => ?_) (fun h => Ev.pos (by simp; omega) (Ev.some ?_)))))
  · have := specDo_l0 l hn a0 a1 a2 a3 a4 a5 a6 a7 a8 a9 a10 (of_decide_eq_true h) l.length 0 0 (by omega) (by rw [List.drop_zero]; unfold fndA; rw [if_pos rfl])
    exact this
  · have hk : ¬ (1 ≤ a0 ∧ a0 ≤ 3) := fun z => h (decide_eq_true z)
    unfold doM
    rw [if_neg (by omega), if_neg (by omega), if_neg (by omega), List.nil_append]
theorem doM_len (l : List S61) (kind key val : Int) : (doM l kind key val).1.length ≤ l.length + 1 := by
  unfold doM
  by_cases h1 : kind = 1
  · rw [if_pos h1]; simp
  · rw [if_neg h1]
    by_cases h2 : kind = 3 ∧ 0 < (l.filter (isK key)).length
    · rw [if_pos h2]; exact Nat.le_succ_of_le (List.length_filter_le _ _)
    · rw [if_neg h2]
      by_cases h3 : kind = 2 ∧ (l.filter (isK key)).length = 0
      · rw [if_pos h3]
        have : (l.filter (ltK key)).length + (l.filter (gtK key)).length ≤ l.length := by
          clear h1 h2 h3
          induction l with
          | nil => simp
          | cons x r ih =>
            by_cases c1 : x.f0 < key
            · rw [List.filter_cons_of_pos (by unfold ltK; exact decide_eq_true c1), List.filter_cons_of_neg (by unfold gtK; simp; omega)]; simp; omega
            · by_cases c2 : x.f0 > key
              · rw [List.filter_cons_of_neg (by unfold ltK; simp; omega), List.filter_cons_of_pos (by unfold gtK; exact decide_eq_true c2)]; simp; omega
              · rw [List.filter_cons_of_neg (by unfold ltK; simp; omega), List.filter_cons_of_neg (by unfold gtK; simp; omega)]; simp; omega
        simp; omega
      · rw [if_neg h3]; simp
theorem taskNew_eq (a b c d : Int) : spec_TaskNew.f a b c d = some (a, b, c, d, 0, 0, 0, 0, 0, false, 0) := rfl
def goodP (l : List S61) : Prop := (∀ k : Int, (l.filter (isK k)).length ≤ 1) ∧ ∀ x ∈ l, 0 ≤ x.f1 ∧ x.f1 ≤ 98
theorem goodP_nil : goodP [] := ⟨fun _ => by simp, by simp⟩
theorem isK_filter_lt (l : List S61) (key k : Int) : ((l.filter (ltK key)).filter (isK k)).length + ((l.filter (gtK key)).filter (isK k)).length ≤ (l.filter (isK k)).length := by
  induction l with
  | nil => simp
  | cons x r ih =>
    by_cases c1 : x.f0 < key
    · rw [List.filter_cons_of_pos (p := ltK key) (by unfold ltK; exact decide_eq_true c1), List.filter_cons_of_neg (p := gtK key) (by unfold gtK; simp; omega)]
      by_cases c : isK k x = true
      · rw [List.filter_cons_of_pos c, List.filter_cons_of_pos c]; simp only [List.length_cons]; omega
      · rw [List.filter_cons_of_neg c, List.filter_cons_of_neg c]; exact ih
    · by_cases c2 : x.f0 > key
      · rw [List.filter_cons_of_neg (p := ltK key) (by unfold ltK; simp; omega), List.filter_cons_of_pos (p := gtK key) (by unfold gtK; exact decide_eq_true c2)]
        by_cases c : isK k x = true
        · rw [List.filter_cons_of_pos c, List.filter_cons_of_pos c]; simp only [List.length_cons]; omega
        · rw [List.filter_cons_of_neg c, List.filter_cons_of_neg c]; exact ih
      · rw [List.filter_cons_of_neg (p := ltK key) (by unfold ltK; simp; omega), List.filter_cons_of_neg (p := gtK key) (by unfold gtK; simp; omega)]
        by_cases c : isK k x = true
        · rw [List.filter_cons_of_pos c]; simp only [List.length_cons]; omega
        · rw [List.filter_cons_of_neg c]; exact ih
theorem isK_other (l : List S61) (key : Int) : ((l.filter (ltK key)).filter (isK key)) = [] ∧ ((l.filter (gtK key)).filter (isK key)) = [] := by
  constructor <;> refine List.filter_eq_nil_iff.2 fun x hx => ?_ <;> have h := (List.mem_filter.1 hx).2
  · unfold ltK at h; unfold isK; have := of_decide_eq_true h; simp; omega
  · unfold gtK at h; unfold isK; have := of_decide_eq_true h; simp; omega
theorem good_put {l : List S61} (h : goodP l) (key val : Int) (hv : 0 ≤ val ∧ val ≤ 98) : goodP (doM l 2 key val).1 := by
  unfold doM
  rw [if_neg (by omega), if_neg (by omega)]
  by_cases c : (l.filter (isK key)).length = 0
  · rw [if_pos ⟨rfl, c⟩]
    refine ⟨fun k => ?_, fun x hx => ?_⟩
    · rw [List.filter_append, List.filter_append, List.length_append, List.length_append]
      have h1 := isK_filter_lt l key k
      by_cases e : key = k
      · subst e
        obtain ⟨e1, e2⟩ := isK_other l key
        rw [e1, e2, List.filter_cons_of_pos (by unfold isK; simp)]; simp
      · rw [List.filter_cons_of_neg (by unfold isK; simpa using e)]
        have := h.1 k
        simp only [List.filter_nil, List.length_nil]; omega
    · rcases List.mem_append.1 hx with hx | hx
      · rcases List.mem_append.1 hx with hx | hx
        · exact h.2 x (List.mem_filter.1 hx).1
        · rw [List.mem_singleton.1 hx]; exact hv
      · exact h.2 x (List.mem_filter.1 hx).1
  · rw [if_neg fun z => c z.2]; exact h
theorem pairs_l0 (l : List Int) (hl : l.length ≤ 140737488355328) (d : Nat) :
    ∀ (j : Nat) (acc : List S61) (i h : Int), j + d = 5 → acc.length ≤ j → goodP acc → 0 ≤ i →
      ∃ r i' h', Ev (fun k => spec_l07Pairs.l0 k acc (j : Int) l i h) (r, i', h') ∧ r.length ≤ 5 ∧ goodP r ∧ 0 ≤ i' := by
  induction d with
  | zero =>
    intro j acc i h hj ha hg hi
    obtain ⟨b, i1, h1, e, hi1, b0, b1, _⟩ := below_ok l i h 5 hi hl
    exact ⟨acc, i1, h1, Ev.step (fun _ => spec_l07Pairs.l0.eq_2 ..) (Ev.call e (Ev.neg (by have := b1 (by omega); omega) (Ev.now _))), by omega, hg, hi1⟩
  | succ d ih =>
    intro j acc i h hj ha hg hi
    obtain ⟨b, i1, h1, e, hi1, b0, b1, _⟩ := below_ok l i h 5 hi hl
    by_cases c : (j : Int) < b
    · obtain ⟨n, i2, h2, e2, hi2, n0, n1, _⟩ := below_ok l i1 h1 6 hi1 hl
      have n1 := n1 (by omega)
      obtain ⟨v, i3, h3, e3, hi3, v0, v1, _⟩ := below_ok l i2 h2 9 hi2 hl
      have v1 := v1 (by omega)
      have hlen := doM_len acc 2 (1 + n) v
      obtain ⟨r, i4, h4, er, q1, q2, q3⟩ := ih (j + 1) (doM acc 2 (1 + n) v).1 i3 h3 (by omega) (by omega) (good_put hg (1 + n) v ⟨v0, by omega⟩) hi3
      refine ⟨r, i4, h4, Ev.step (fun _ => spec_l07Pairs.l0.eq_2 ..) (Ev.call e (Ev.pos c (Ev.call e2 (Ev.call e3 (Ev.call rfl ?_))))), q1, q2, q3⟩
      rw [w64 (n := 1 + n) (by omega) (by omega), w64_succ j (by omega)]
      exact Ev.bind (specDoTask_ev acc (by omega) 2 (1 + n) v 1 0 0 0 0 0 false 0) er
    · exact ⟨acc, i1, h1, Ev.step (fun _ => spec_l07Pairs.l0.eq_2 ..) (Ev.call e (Ev.neg c (Ev.now _))), by omega, hg, hi1⟩
theorem pairs_ok (l : List Int) (hl : l.length ≤ 140737488355328) (i h : Int) (hi : 0 ≤ i) : ∃ r i' h', Ev (fun k => spec_l07Pairs.f k l i h) (r, i', h') ∧ r.length ≤ 5 ∧ goodP r ∧ 0 ≤ i' := by
  obtain ⟨r, i', h', e, q⟩ := pairs_l0 l hl 5 0 [] i h (by omega) (by simp) goodP_nil hi
  exact ⟨r, i', h', Ev.congr (fun _ => spec_l07Pairs.f.eq_1 ..) e, q⟩
theorem drawPairs_ok (l : List Int) (hl : l.length ≤ 140737488355328) : ∃ r, Ev (fun k => spec_DrawPairs.f k l) r ∧ r.length ≤ 5 ∧ goodP r := by
  obtain ⟨h, e⟩ := new_ok l hl
  obtain ⟨r, i', h', e2, q1, q2, _⟩ := pairs_ok l hl 0 h (by omega)
  exact ⟨r, Ev.congr (fun _ => spec_DrawPairs.f.eq_1 ..) (Ev.bind e (Ev.bind e2 (Ev.now _))), q1, q2⟩
theorem fnd_one {l : List S61} (h : goodP l) (k : Int) : (∃ x ∈ l, x.f0 = k ∧ l.filter (isK k) = [x] ∧ fndP (l.filter (isK k)) = x.f1 + 1) ∨ (l.filter (isK k) = [] ∧ fndP (l.filter (isK k)) = 0) := by
  have h1 := h.1 k
  match hq : l.filter (isK k) with
  | [] => exact .inr ⟨rfl, rfl⟩
  | x :: y :: r => rw [hq] at h1; simp at h1
  | [x] =>
    have hx : x ∈ l.filter (isK k) := by rw [hq]; simp
    have hm := List.mem_filter.1 hx
    have hv := h.2 x hm.1
    refine .inl ⟨x, hm.1, by have := hm.2; unfold isK at this; exact of_decide_eq_true this, rfl, ?_⟩
    unfold fndP
    rw [w64 (n := x.f1 + 1) (by omega) (by omega), if_neg (by omega)]
theorem places_l0 (l : List Int) (hl : l.length ≤ 140737488355328) (d : Nat) :
    ∀ (j : Nat) (acc : List Int) (i h : Int), j + d = 12 → acc.length = j → (∀ x ∈ acc, 0 ≤ x ∧ x < 10000) → 0 ≤ i →
      ∃ r, Ev (fun k => spec_DrawPlaces.l0 k acc (j : Int) l i h) r ∧ r.length = 12 ∧ ∀ x ∈ r, 0 ≤ x ∧ x < 10000 := by
  induction d with
  | zero =>
    intro j acc i h hj hc ha hi
    exact ⟨acc, Ev.step (fun _ => spec_DrawPlaces.l0.eq_2 ..) (Ev.neg (by omega) (Ev.now _)), by omega, ha⟩
  | succ d ih =>
    intro j acc i h hj hc ha hi
    obtain ⟨b, i1, h1, e, hi1, b0, b1, _⟩ := below_ok l i h 10000 hi hl
    obtain ⟨r, er, hr⟩ := ih (j + 1) (acc ++ [b]) i1 h1 (by omega) (by simp; omega) (by
      intro x hx
      rcases List.mem_append.1 hx with hx | hx
      · exact ha x hx
      · obtain rfl := List.mem_singleton.1 hx; exact ⟨b0, b1 (by omega)⟩) hi1
    refine ⟨r, Ev.step (fun _ => spec_DrawPlaces.l0.eq_2 ..) (Ev.pos (by omega) (Ev.call e (Ev.pos (by omega) ?_))), hr⟩
    rw [w64_succ j (by omega)]
    exact er
theorem places_ok (l : List Int) (hl : l.length ≤ 140737488355328) : ∃ r, Ev (fun k => spec_DrawPlaces.f k l) r ∧ r.length = 12 ∧ ∀ x ∈ r, 0 ≤ x ∧ x < 10000 := by
  obtain ⟨h, e⟩ := new_ok l hl
  obtain ⟨b, i1, h1, e1, _, _, hi1⟩ := byte_ok l 0 h (by omega) hl
  obtain ⟨r, er, hr⟩ := places_l0 l hl 12 0 [] i1 h1 (by omega) rfl (by simp) hi1
  exact ⟨r, Ev.congr (fun _ => spec_DrawPlaces.f.eq_1 ..) (Ev.bind e (Ev.call e1 er)), hr⟩
theorem within_eq (n lo hi : Int) : impl_within.f n lo hi = some (decide (lo ≤ n ∧ n ≤ hi)) := by
  unfold impl_within.f
  by_cases h : n ≥ lo
  · rw [if_pos h]; congr 1; rw [decide_eq_decide]; exact ⟨fun h2 => ⟨h, h2⟩, fun h2 => h2.2⟩
  · rw [if_neg h]; congr 1; symm; rw [decide_eq_false_iff_not]; exact fun h2 => h h2.1
/-- The nodes of a list from a node on: at most n are looked at. -/
def nodeM (w : Int) : Int := if 1 ≤ w / 2 ∧ w / 2 ≤ 20 then w / 2 else 0
def wordAt (l : List Int) (n : Int) : Int := if n = 0 then rd l 0 else rd l (3 * n + 2)
def nodesM (l : List Int) : Nat → Int → List Int
  | 0, _ => []
  | d + 1, n => if n = 0 then [] else if wordAt l n % 2 = 0 then n :: nodesM l d (nodeM (wordAt l n)) else nodesM l d (nodeM (wordAt l n))
theorem nodeM_range (w : Int) : 0 ≤ nodeM w ∧ nodeM w ≤ 20 := by
  unfold nodeM; split <;> omega
theorem nodesM_range (l : List Int) (d : Nat) : ∀ n : Int, 0 ≤ n → n ≤ 20 → (nodesM l d n).length ≤ d ∧ ∀ x ∈ nodesM l d n, 1 ≤ x ∧ x ≤ 20 := by
  induction d with
  | zero => intro n _ _; simp [nodesM]
  | succ d ih =>
    intro n h0 h1
    unfold nodesM
    obtain ⟨a, b⟩ := ih (nodeM (wordAt l n)) (nodeM_range _).1 (nodeM_range _).2
    split
    · simp
    · split
      · refine ⟨by simp; omega, fun x hx => ?_⟩
        rcases List.mem_cons.1 hx with rfl | hx
        · omega
        · exact b x hx
      · exact ⟨by omega, b⟩
theorem implNode_eq (w : Int) : impl_nodeOf.f w = some (nodeM w) := by
  unfold impl_nodeOf.f nodeM
  rw [within_eq, Option.bind_some]
  by_cases h : 1 ≤ w / 2 ∧ w / 2 ≤ 20
  · rw [decide_eq_true h, if_pos rfl, if_pos h]
  · rw [decide_eq_false h, if_neg (by simp), if_neg h]
theorem implWord_eq (n : Int) (h0 : 0 ≤ n) (h1 : n ≤ 20) : impl_wordCell.f n = some (if n = 0 then 0 else 3 * n + 2) := by
  unfold impl_wordCell.f
  rw [w64 (n := 3 * n) (by omega) (by omega), w64 (by omega) (by omega)]
  split <;> rfl
theorem tmod2 (w : Int) : Int.tmod w 2 = 0 ↔ w % 2 = 0 := by
  have h1 := Int.mul_tdiv_add_tmod w 2
  have h2 := Int.tmod_lt_of_pos w (b := 2) (by omega)
  have h3 := Int.tmod_lt_of_pos (-w) (b := 2) (by omega)
  rw [Int.neg_tmod] at h3
  omega
theorem wordAt_eq (l : List Int) (n : Int) (h : n ≠ 0) : wordAt l n = rd l (3 * n + 2) := by unfold wordAt; rw [if_neg h]
theorem implNodes_l0 (l : List Int) (hl : l.length = 63) (d : Nat) :
    ∀ (j : Nat) (acc : List Int) (n : Int), j + d = 20 → acc.length ≤ j → 0 ≤ n → n ≤ 20 → Ev (fun k => impl_nodesOf.l0 k l acc n (j : Int)) (acc ++ nodesM l d n) := by
  induction d with
  | zero =>
    intro j acc n hj _ _ _
    refine Ev.step (fun _ => impl_nodesOf.l0.eq_2 ..) (Ev.neg (by omega) (Ev.step (fun _ => impl_nodesOf.j1.eq_2 ..) (Ev.neg (by simp) (Ev.some ?_))))
    simp [nodesM]
  | succ d ih =>
    intro j acc n hj ha h0 h1
    refine Ev.step (fun _ => impl_nodesOf.l0.eq_2 ..) (Ev.pos (by omega) (Ev.step (fun _ => impl_nodesOf.j1.eq_2 ..) ?_))
    unfold nodesM
    by_cases hn : n = 0
    · refine Ev.neg (by simp [hn]) (Ev.some ?_)
      rw [if_pos hn]; simp
    · rw [if_neg hn, wordAt_eq l n hn]
      refine Ev.pos (by simpa using hn) (Ev.call ((implWord_eq n h0 h1).trans (by rw [if_neg hn])) (Ev.pos (by omega) (Ev.pos (by omega) ?_)))
      have hr := nodeM_range (rd l (3 * n + 2))
      rw [and1]
      by_cases h2 : rd l (3 * n + 2) % 2 = 0
      · refine Ev.pos h2 (Ev.pos (by omega) (Ev.call (implNode_eq _) ?_))
        rw [w64_succ j (by omega), if_pos h2]
        refine Ev.eq (ih (j + 1) (acc ++ [n]) _ (by omega) (by simp; omega) hr.1 hr.2) ?_
        simp
      · refine Ev.neg h2 (Ev.call (implNode_eq _) ?_)
        rw [w64_succ j (by omega), if_neg h2]
        exact ih (j + 1) acc _ (by omega) (by omega) hr.1 hr.2
def nodesOfM (l : List Int) : List Int := if l.length = 63 then nodesM l 20 (nodeM (rd l 0)) else []
theorem implNodes_ev (l : List Int) : Ev (fun k => impl_nodesOf.f k l) (nodesOfM l) := by
  refine Ev.congr (fun _ => impl_nodesOf.f.eq_1 ..) (Ev.call rfl ?_)
  unfold nodesOfM
  by_cases h : l.length = 63
  · rw [if_pos h]
    have hr := nodeM_range (rd l 0)
    exact Ev.pos (by omega) (Ev.pos (by omega) (Ev.call (implNode_eq _) (implNodes_l0 l h 20 0 [] _ (by omega) (by simp) hr.1 hr.2)))
  · rw [if_neg h]; exact Ev.neg (by omega) (Ev.now _)
theorem nodesOfM_range (l : List Int) : (nodesOfM l).length ≤ 20 ∧ ∀ x ∈ nodesOfM l, 1 ≤ x ∧ x ≤ 20 ∧ l.length = 63 := by
  unfold nodesOfM
  split
  · obtain ⟨a, b⟩ := nodesM_range l 20 (nodeM (rd l 0)) (nodeM_range _).1 (nodeM_range _).2
    exact ⟨a, fun x hx => ⟨(b x hx).1, (b x hx).2, by assumption⟩⟩
  · simp
theorem ite_dec (p q : Prop) [Decidable p] [Decidable q] : (if decide p = true then some (decide q) else some false) = some (decide (p ∧ q)) := by
  by_cases hp : p <;> by_cases hq : q <;> simp [hp, hq]
def taskOkP (a0 a1 a2 a3 a4 a5 a6 a7 a8 : Int) : Prop := (1 ≤ a0 ∧ a0 ≤ 3) ∧ (1 ≤ a1 ∧ a1 ≤ 99) ∧ (0 ≤ a2 ∧ a2 ≤ 99) ∧ (1 ≤ a3 ∧ a3 ≤ 20) ∧ (0 ≤ a4 ∧ a4 ≤ 6) ∧ (0 ≤ a5 ∧ a5 ≤ 20) ∧ (0 ≤ a6 ∧ a6 ≤ 20) ∧ (0 ≤ a7 ∧ a7 ≤ 20) ∧ (0 ≤ a8 ∧ a8 ≤ 1)
instance (a0 a1 a2 a3 a4 a5 a6 a7 a8 : Int) : Decidable (taskOkP a0 a1 a2 a3 a4 a5 a6 a7 a8) := by unfold taskOkP; exact inferInstance
theorem implTaskOk_j0 (b : Bool) (a0 a1 a2 a3 a4 a5 a6 a7 a8 : Int) (a9 : Bool) (a10 : Int) :
    Ev (fun k => impl_TaskOk.j0 k b a0 a1 a2 a3 a4 a5 a6 a7 a8 a9 a10) (b && decide ((0 ≤ a4 ∧ a4 ≤ 6) ∧ (0 ≤ a5 ∧ a5 ≤ 20) ∧ (0 ≤ a6 ∧ a6 ≤ 20) ∧ (0 ≤ a7 ∧ a7 ≤ 20) ∧ (0 ≤ a8 ∧ a8 ≤ 1))) := by
  refine Ev.step (fun _ => impl_TaskOk.j0.eq_2 ..) (Ev.plain ?_)
  simp only [within_eq, Option.bind_some]
  by_cases h4 : 0 ≤ a4 ∧ a4 ≤ 6 <;> by_cases h5 : 0 ≤ a5 ∧ a5 ≤ 20 <;> by_cases h6 : 0 ≤ a6 ∧ a6 ≤ 20 <;> by_cases h7 : 0 ≤ a7 ∧ a7 ≤ 20 <;> by_cases h8 : 0 ≤ a8 ∧ a8 ≤ 1 <;> cases b <;> simp [h4, h5, h6, h7, h8]
theorem implTaskOk_ev (a0 a1 a2 a3 a4 a5 a6 a7 a8 : Int) (a9 : Bool) (a10 : Int) : Ev (fun k => impl_TaskOk.f k a0 a1 a2 a3 a4 a5 a6 a7 a8 a9 a10) (decide (taskOkP a0 a1 a2 a3 a4 a5 a6 a7 a8)) := by
  refine Ev.congr (fun _ => impl_TaskOk.f.eq_1 ..) ?_
  have no : ∀ p : Prop, ∀ [Decidable p], ¬ p → Ev (fun k => impl_TaskOk.j0 k false a0 a1 a2 a3 a4 a5 a6 a7 a8 a9 a10) (decide p) := fun p _ hp =>
    Ev.eq (implTaskOk_j0 false a0 a1 a2 a3 a4 a5 a6 a7 a8 a9 a10) (by rw [decide_eq_false hp]; rfl)
  refine Ev.call (within_eq ..) ?_
  by_cases h0 : 1 ≤ a0 ∧ a0 ≤ 3
  · refine Ev.pos (by rw [decide_eq_true h0]) (Ev.call (within_eq ..) ?_)
    by_cases h1 : 1 ≤ a1 ∧ a1 ≤ 99
    · refine Ev.pos (by rw [decide_eq_true h1]) (Ev.call (within_eq ..) ?_)
      by_cases h2 : 0 ≤ a2 ∧ a2 ≤ 99
      · refine Ev.pos (by rw [decide_eq_true h2]) (Ev.call (within_eq ..) (Ev.eq (implTaskOk_j0 _ a0 a1 a2 a3 a4 a5 a6 a7 a8 a9 a10) ?_))
        rw [← Bool.decide_and]
        apply decide_eq_decide.2
        unfold taskOkP
        exact ⟨fun h => ⟨h0, h1, h2, h⟩, fun h => h.2.2.2⟩
      · exact Ev.neg (by rw [decide_eq_false h2]; simp) (no _ (fun h => h2 h.2.2.1))
    · exact Ev.neg (by rw [decide_eq_false h1]; simp) (no _ (fun h => h1 h.2.1))
  · exact Ev.neg (by rw [decide_eq_false h0]; simp) (no _ (fun h => h0 h.1))
theorem implIsNumber_eq (n : Int) : impl_isNumber.f n = some (decide (0 ≤ n ∧ n ≤ 1000000000)) := by
  unfold impl_isNumber.f; rw [within_eq, Option.bind_some]
theorem implCellsOk_l0 (l : List Int) (hn : l.length ≤ 140737488355328) (d : Nat) :
    ∀ i : Nat, i + d = l.length → Ev (fun k => impl_CellsOk.l0 k l l (l.length : Int) (i : Int)) (decide ((∀ x ∈ l.drop i, 0 ≤ x ∧ x ≤ 1000000000) ∧ 1 ≤ l.length ∧ l.length ≤ 80)) := by
  induction d with
  | zero =>
    intro i hi
    refine Ev.step (fun _ => impl_CellsOk.l0.eq_2 ..) (Ev.neg (by omega) (Ev.call (within_eq ..) (Ev.some ?_)))
    rw [decide_eq_decide, List.drop_eq_nil_of_le (by omega)]
    simp; omega
  | succ d ih =>
    intro i hi
    refine Ev.step (fun _ => impl_CellsOk.l0.eq_2 ..) (Ev.pos (by omega) (Ev.pos (by omega) (Ev.pos (by omega) (Ev.call (implIsNumber_eq ..) ?_))))
    rw [rd_nat l i (by omega), w64_succ i (by omega), List.drop_eq_getElem_cons (i := i) (by omega)]
    by_cases h : 0 ≤ l[i] ∧ l[i] ≤ 1000000000
    · refine Ev.pos (by rw [decide_eq_true h]) (Ev.eq (ih (i + 1) (by omega)) ?_)
      rw [decide_eq_decide, List.forall_mem_cons]; simp only [h, true_and, and_self]
    · refine Ev.neg (by rw [decide_eq_false h]; simp) (Ev.some ?_)
      symm; rw [decide_eq_false_iff_not, List.forall_mem_cons]; exact fun h2 => h h2.1.1
theorem implCellsOk_ev (l : List Int) (hn : l.length ≤ 140737488355328) : Ev (fun k => impl_CellsOk.f k l) (decide ((∀ x ∈ l, 0 ≤ x ∧ x ≤ 1000000000) ∧ 1 ≤ l.length ∧ l.length ≤ 80)) :=
  Ev.congr (fun _ => impl_CellsOk.f.eq_1 ..) (by simpa using implCellsOk_l0 l hn l.length 0 (by omega))
/-- One step of a task, in plain words: its eleven fields and the list. -/
abbrev TT : Type := Int × Int × Int × Int × Int × Int × Int × Int × Int × Bool × Int × List Int
def cellW (n : Int) : Int := if n = 0 then 0 else 3 * n + 2
def swapM (l : List Int) (n old w : Int) : Bool × List Int := if rd l (cellW n) = old then (true, l.set (cellW n).toNat w) else (false, l)
def nobodyM (l : List Int) (s0 s1 s2 s3 s4 s5 s6 s7 s8 : Int) (s9 : Bool) (s10 : Int) : TT :=
  if s0 = 2 then (s0, s1, s2, s3, 4, s5, s6, s7, s8, s9, s10, ((l.set (3 * s3).toNat s1).set (3 * s3 + 1).toNat s2).set (3 * s3 + 2).toNat (2 * s6))
  else (s0, s1, s2, s3, s4, s5, s6, s7, s8, true, 0, l)
def lookM (l : List Int) (s0 s1 s2 s3 s4 s5 s6 s7 s8 : Int) (s9 : Bool) (s10 : Int) : TT :=
  if s8 = 1 then (if (swapM l s5 (2 * s6) (2 * s7)).1 = true then (s0, s1, s2, s3, 1, s5, s7, s7, s8, s9, s10, (swapM l s5 (2 * s6) (2 * s7)).2) else (s0, s1, s2, s3, 0, s5, s6, s7, s8, s9, s10, (swapM l s5 (2 * s6) (2 * s7)).2))
  else if rd l (3 * s6) < s1 then (s0, s1, s2, s3, 1, s6, s7, s7, s8, s9, s10, l) else (s0, s1, s2, s3, 3, s5, s6, s7, s8, s9, s10, l)
def foundM (l : List Int) (s0 s1 s2 s3 s4 s5 s6 s7 s8 : Int) (s9 : Bool) (s10 : Int) : TT :=
  if rd l (3 * s6) = s1 then (if s0 = 1 then (s0, s1, s2, s3, s4, s5, s6, s7, s8, true, rd l (3 * s6 + 1) + 1, l) else if s0 = 2 then (s0, s1, s2, s3, s4, s5, s6, s7, s8, true, 0, l) else (s0, s1, s2, s3, 5, s5, s6, s7, s8, s9, s10, l))
  else nobodyM l s0 s1 s2 s3 s4 s5 s6 s7 s8 s9 s10
def stepM (l : List Int) (s0 s1 s2 s3 s4 s5 s6 s7 s8 : Int) (s9 : Bool) (s10 : Int) : TT :=
  if s4 = 0 then (s0, s1, s2, s3, 1, 0, nodeM (rd l 0), s7, s8, s9, s10, l)
  else if s4 = 1 then (if s6 = 0 then nobodyM l s0 s1 s2 s3 s4 s5 s6 s7 s8 s9 s10 else (s0, s1, s2, s3, 2, s5, s6, nodeM (rd l (cellW s6)), rd l (cellW s6) % 2, s9, s10, l))
  else if s4 = 2 then lookM l s0 s1 s2 s3 s4 s5 s6 s7 s8 s9 s10
  else if s4 = 3 then foundM l s0 s1 s2 s3 s4 s5 s6 s7 s8 s9 s10
  else if s4 = 4 then (if (swapM l s5 (2 * s6) (2 * s3)).1 = true then (s0, s1, s2, s3, s4, s5, s6, s7, s8, true, 1, (swapM l s5 (2 * s6) (2 * s3)).2) else (s0, s1, s2, s3, 0, s5, s6, s7, s8, s9, s10, (swapM l s5 (2 * s6) (2 * s3)).2))
  else if s4 = 5 then (if (swapM l s6 (2 * s7) (2 * s7 + 1)).1 = true then (s0, s1, s2, s3, 6, s5, s6, s7, s8, s9, s10, (swapM l s6 (2 * s7) (2 * s7 + 1)).2) else (s0, s1, s2, s3, 0, s5, s6, s7, s8, s9, s10, (swapM l s6 (2 * s7) (2 * s7 + 1)).2))
  else (s0, s1, s2, s3, s4, s5, s6, s7, s8, true, 1, (swapM l s5 (2 * s6) (2 * s7)).2)
theorem cellW_range (n : Int) (h0 : 0 ≤ n) (h1 : n ≤ 20) : 0 ≤ cellW n ∧ cellW n < 63 := by unfold cellW; split <;> omega
theorem implWord_c (n : Int) (h0 : 0 ≤ n) (h1 : n ≤ 20) : impl_wordCell.f n = some (cellW n) := implWord_eq n h0 h1
theorem implSwap_eq (l : List Int) (hl : l.length = 63) (n a b : Int) (h0 : 0 ≤ n) (h1 : n ≤ 20) : impl_swapWord.f l n a b = some (swapM l n a b) := by
  have hc := cellW_range n h0 h1
  unfold impl_swapWord.f swapM
  simp only [implWord_c n h0 h1, Option.bind_some]
  rw [if_pos hc.1, if_pos (by omega)]
  by_cases h : rd l (cellW n) = a
  · rw [if_pos h, if_pos h]
  · rw [if_neg h, if_neg h]
section
variable (l : List Int) (hl : l.length = 63) (hc : ∀ x ∈ l, 0 ≤ x ∧ x ≤ 1000000000) (s0 s1 s2 s3 s4 s5 s6 s7 s8 : Int) (s9 : Bool) (s10 : Int)
theorem implNobody_eq (hl : l.length = 63) (h3 : 1 ≤ s3 ∧ s3 ≤ 20) (h6 : 0 ≤ s6 ∧ s6 ≤ 20) : impl_Task_nobody.f s0 s1 s2 s3 s4 s5 s6 s7 s8 s9 s10 l = some (nobodyM l s0 s1 s2 s3 s4 s5 s6 s7 s8 s9 s10) := by
  unfold impl_Task_nobody.f nobodyM impl_keyCell.f impl_valCell.f impl_Task_done.f
  simp only [implWord_c s3 (by omega) h3.2, Option.bind_some]
  rw [show cellW s3 = 3 * s3 + 2 from by unfold cellW; rw [if_neg (by omega)]]
  rw [w64 (n := 3 * s3) (by omega) (by omega), w64 (n := 3 * s3 + 1) (by omega) (by omega), w64 (n := 2 * s6) (by omega) (by omega)]
  by_cases h : s0 = 2
  · rw [if_pos h, if_pos h, if_pos (by omega), if_pos (by omega), if_pos (by omega), if_pos (by omega), if_pos (by omega), if_pos (by omega)]
  · rw [if_neg h, if_neg h]
theorem cell_range (hl : l.length = 63) (hc : ∀ x ∈ l, 0 ≤ x ∧ x ≤ 1000000000) (i : Int) (h0 : 0 ≤ i) (h1 : i < 63) : 0 ≤ rd l i ∧ rd l i ≤ 1000000000 := by
  obtain ⟨j, rfl⟩ := Int.eq_ofNat_of_zero_le h0
  rw [rd_nat l j (by omega)]
  exact hc _ (List.getElem_mem _)
theorem implFound_eq (hl : l.length = 63) (hc : ∀ x ∈ l, 0 ≤ x ∧ x ≤ 1000000000) (h3 : 1 ≤ s3 ∧ s3 ≤ 20) (h6 : 0 ≤ s6 ∧ s6 ≤ 20) : impl_Task_found.f s0 s1 s2 s3 s4 s5 s6 s7 s8 s9 s10 l = some (foundM l s0 s1 s2 s3 s4 s5 s6 s7 s8 s9 s10) := by
  have hr := cell_range l hl hc (3 * s6 + 1) (by omega) (by omega)
  unfold impl_Task_found.f foundM impl_keyCell.f impl_valCell.f impl_Task_done.f
  simp only [Option.bind_some]
  rw [w64 (n := 3 * s6) (by omega) (by omega), w64 (n := 3 * s6 + 1) (by omega) (by omega), w64 (n := rd l (3 * s6 + 1) + 1) (by omega) (by omega), if_pos (show 0 ≤ 3 * s6 by omega), if_pos (show 3 * s6 < (l.length : Int) by omega), if_pos (show 0 ≤ 3 * s6 + 1 by omega), if_pos (show 3 * s6 + 1 < (l.length : Int) by omega), implNobody_eq l s0 s1 s2 s3 s4 s5 s6 s7 s8 s9 s10 hl h3 h6]
  by_cases h : rd l (3 * s6) = s1
  · rw [if_pos h, if_pos h]
    by_cases h1 : s0 = 1
    · rw [if_pos h1, if_pos h1]
    · rw [if_neg h1, if_neg h1]
      by_cases h2 : s0 = 2
      · rw [if_pos h2, if_pos h2]
      · rw [if_neg h2, if_neg h2]
  · rw [if_neg h, if_neg h]; rfl
theorem implWalk_ev (hl : l.length = 63) (hc : ∀ x ∈ l, 0 ≤ x ∧ x ≤ 1000000000) (hok : taskOkP s0 s1 s2 s3 s4 s5 s6 s7 s8) (h34 : s4 < 3) : Ev (fun k => impl_Task_walk.f k s0 s1 s2 s3 s4 s5 s6 s7 s8 s9 s10 l) (stepM l s0 s1 s2 s3 s4 s5 s6 s7 s8 s9 s10) := by
  obtain ⟨h0, h1, h2, h3, h4, h5, h6, h7, h8⟩ := hok
  have rw6 := cellW_range s6 h6.1 h6.2
  have r6 := cell_range l hl hc (cellW s6) rw6.1 rw6.2
  have hbit : Go.bits .and .i64 (rd l (cellW s6)) 1 = rd l (cellW s6) % 2 := and1 _
  have hj : ∀ b : Bool, (b = true ↔ s4 = 1 ∧ s6 = 0) → (s4 = 1 ∨ s4 = 2) → Ev (fun k => impl_Task_walk.j0 k l b s0 s1 s2 s3 s4 s5 s6 s7 s8 s9 s10) (stepM l s0 s1 s2 s3 s4 s5 s6 s7 s8 s9 s10) := by
    intro b hb h12
    refine Ev.step (fun _ => impl_Task_walk.j0.eq_2 ..) (Ev.ite (fun hbt => ?_) (fun hbt => Ev.ite (fun e1 => ?_) (fun e1 => Ev.ite (fun e8 => ?_) (fun e8 => ?_))))
    · obtain ⟨e1, e2⟩ := hb.1 hbt
      unfold stepM
      rw [if_neg (show ¬ s4 = 0 by omega), if_pos e1, if_pos e2]
      exact Ev.call (implNobody_eq l s0 s1 s2 s3 s4 s5 s6 s7 s8 s9 s10 hl h3 h6) (Ev.now _)
    · have e6 : ¬ s6 = 0 := fun e2 => hbt (hb.2 ⟨e1, e2⟩)
      unfold stepM
      rw [if_neg (show ¬ s4 = 0 by omega), if_pos e1, if_neg e6]
      refine Ev.call (implWord_c s6 h6.1 h6.2) (Ev.pos rw6.1 (Ev.pos (by omega) (Ev.call (implNode_eq _) (Ev.some ?_))))
      rw [hbit]
    · unfold stepM lookM
      rw [if_neg (show ¬ s4 = 0 by omega), if_neg e1, if_pos (show s4 = 2 by omega), if_pos e8, w64 (n := 2 * s6) (by omega) (by omega), w64 (n := 2 * s7) (by omega) (by omega)]
      refine Ev.call (implSwap_eq l hl s5 _ _ h5.1 h5.2) (Ev.ite (fun e => Ev.some (by rw [if_pos e])) (fun e => Ev.some (by rw [if_neg e])))
    · unfold stepM lookM
      rw [if_neg (show ¬ s4 = 0 by omega), if_neg e1, if_pos (show s4 = 2 by omega), if_neg e8]
      refine Ev.call (a := 3 * s6) (by unfold impl_keyCell.f; rw [w64 (by omega) (by omega)]) (Ev.pos (by omega) (Ev.pos (by omega) (Ev.ite (fun e => Ev.some (by rw [if_pos e])) (fun e => Ev.some (by rw [if_neg e])))))
  refine Ev.congr (fun _ => impl_Task_walk.f.eq_1 ..) (Ev.ite (fun e0 => ?_) (fun e0 => Ev.ite (fun e1 => ?_) (fun e1 => ?_)))
  · refine Ev.pos (by omega) (Ev.call (implNode_eq _) (Ev.some ?_))
    unfold stepM; rw [if_pos e0]
  · exact hj _ (by simp [e1]) (.inl e1)
  · exact hj false (by simp [e1]) (by omega)
theorem implStep_ev (hl : l.length = 63) (hc : ∀ x ∈ l, 0 ≤ x ∧ x ≤ 1000000000) (hok : taskOkP s0 s1 s2 s3 s4 s5 s6 s7 s8) : Ev (fun k => impl_Task_step.f k s0 s1 s2 s3 s4 s5 s6 s7 s8 s9 s10 l) (stepM l s0 s1 s2 s3 s4 s5 s6 s7 s8 s9 s10) := by
  have hok' := hok
  obtain ⟨h0, h1, h2, h3, h4, h5, h6, h7, h8⟩ := hok
  refine Ev.congr (fun _ => impl_Task_step.f.eq_1 ..) (Ev.ite (fun e3 => ?_) (fun e3 => Ev.ite (fun e4 => ?_) (fun e4 => Ev.ite (fun e5 => ?_) (fun e5 => Ev.ite (fun e6 => ?_) (fun e6 => ?_)))))
  · refine Ev.call (implFound_eq l s0 s1 s2 s3 s4 s5 s6 s7 s8 s9 s10 hl hc h3 h6) (Ev.some ?_)
    unfold stepM; rw [if_neg (by omega), if_neg (by omega), if_neg (by omega), if_pos e3]
  · rw [w64 (n := 2 * s6) (by omega) (by omega), w64 (n := 2 * s3) (by omega) (by omega)]
    unfold stepM
    rw [if_neg (by omega), if_neg (by omega), if_neg (by omega), if_neg e3, if_pos e4]
    exact Ev.call (implSwap_eq l hl s5 _ _ h5.1 h5.2) (Ev.ite (fun e => Ev.call rfl (Ev.some (by rw [if_pos e]))) (fun e => Ev.some (by rw [if_neg e])))
  · rw [w64 (n := 2 * s7) (by omega) (by omega), w64 (n := 2 * s7 + 1) (by omega) (by omega)]
    unfold stepM
    rw [if_neg (by omega), if_neg (by omega), if_neg (by omega), if_neg e3, if_neg e4, if_pos e5]
    exact Ev.call (implSwap_eq l hl s6 _ _ h6.1 h6.2) (Ev.ite (fun e => Ev.some (by rw [if_pos e])) (fun e => Ev.some (by rw [if_neg e])))
  · rw [w64 (n := 2 * s6) (by omega) (by omega), w64 (n := 2 * s7) (by omega) (by omega)]
    unfold stepM
    rw [if_neg (by omega), if_neg (by omega), if_neg (by omega), if_neg e3, if_neg e4, if_neg e5]
    exact Ev.call (implSwap_eq l hl s5 _ _ h5.1 h5.2) (Ev.call rfl (Ev.now _))
  · exact Ev.bind (implWalk_ev l s0 s1 s2 s3 s4 s5 s6 s7 s8 s9 s10 hl hc hok' (by omega)) (Ev.now _)
end
def ST : Type := List Int × Int × Int × Int × Int × Int × Int × Int × Int × Int × Bool × Int
def turnT (t : TT) : List Int × Int × Int × Int × Int × Int × Int × Int × Int × Int × Bool × Int := (t.2.2.2.2.2.2.2.2.2.2.2, t.1, t.2.1, t.2.2.1, t.2.2.2.1, t.2.2.2.2.1, t.2.2.2.2.2.1, t.2.2.2.2.2.2.1, t.2.2.2.2.2.2.2.1, t.2.2.2.2.2.2.2.2.1, t.2.2.2.2.2.2.2.2.2.1, t.2.2.2.2.2.2.2.2.2.2.1)
def cellsP (l : List Int) : Prop := l.length = 63 ∧ ∀ x ∈ l, 0 ≤ x ∧ x ≤ 1000000000
instance (l : List Int) : Decidable (cellsP l) := by unfold cellsP; exact inferInstance
def stepTM (l : List Int) (s0 s1 s2 s3 s4 s5 s6 s7 s8 : Int) (s9 : Bool) (s10 : Int) : List Int × Int × Int × Int × Int × Int × Int × Int × Int × Int × Bool × Int :=
  if s9 = false ∧ taskOkP s0 s1 s2 s3 s4 s5 s6 s7 s8 ∧ cellsP l then turnT (stepM l s0 s1 s2 s3 s4 s5 s6 s7 s8 s9 s10) else (l, s0, s1, s2, s3, s4, s5, s6, s7, s8, s9, s10)
theorem implStepTask_ev (l : List Int) (hl : l.length ≤ 1048576) (s0 s1 s2 s3 s4 s5 s6 s7 s8 : Int) (s9 : Bool) (s10 : Int) : Ev (fun k => impl_StepTask.f k l s0 s1 s2 s3 s4 s5 s6 s7 s8 s9 s10) (stepTM l s0 s1 s2 s3 s4 s5 s6 s7 s8 s9 s10) := by
  have hcp : impl_copyInts.f l = some l := by unfold impl_copyInts.f; rw [Option.bind_some, if_pos (by simp; omega)]; rfl
  unfold stepTM
  refine Ev.congr (fun _ => impl_StepTask.f.eq_1 ..) (Ev.call hcp (Ev.ite (fun h9 => Ev.some ?_) (fun h9 => Ev.bind (implTaskOk_ev ..) (Ev.ite (fun hok => Ev.ite (fun h63 => Ev.bind (implCellsOk_ev l (by omega)) (Ev.ite (fun hc => ?_) (fun hc => Ev.some ?_))) (fun h63 => Ev.some ?_)) (fun hok => Ev.some ?_)))))
  · rw [if_neg (fun h => by rw [h.1] at h9; simp at h9)]
  · have hok' := of_decide_eq_true hok
    have hc' := of_decide_eq_true hc
    have hl63 : l.length = 63 := by omega
    rw [if_pos ⟨by simpa using h9, hok', hl63, hc'.1⟩]
    exact Ev.bind (implStep_ev l s0 s1 s2 s3 s4 s5 s6 s7 s8 s9 s10 hl63 hc'.1 hok') (Ev.now _)
  · rw [if_neg (fun h => hc (decide_eq_true ⟨h.2.2.2, by omega, by omega⟩))]
  · rw [if_neg (fun h => h63 (by have := h.2.2.1; omega))]
  · rw [if_neg (fun h => hok (decide_eq_true h.2.1))]
theorem stepM_len (l : List Int) (s0 s1 s2 s3 s4 s5 s6 s7 s8 : Int) (s9 : Bool) (s10 : Int) : (turnT (stepM l s0 s1 s2 s3 s4 s5 s6 s7 s8 s9 s10)).1.length = l.length := by
  have hsw : ∀ n a b, (swapM l n a b).2.length = l.length := fun n a b => by unfold swapM; split <;> simp
  have hnb : (nobodyM l s0 s1 s2 s3 s4 s5 s6 s7 s8 s9 s10).2.2.2.2.2.2.2.2.2.2.2.length = l.length := by unfold nobodyM; split <;> simp
  unfold turnT stepM lookM foundM
  repeat' split
  all_goals first | exact hsw _ _ _ | exact hnb | rfl
theorem stepTM_len (l : List Int) (s0 s1 s2 s3 s4 s5 s6 s7 s8 : Int) (s9 : Bool) (s10 : Int) : (stepTM l s0 s1 s2 s3 s4 s5 s6 s7 s8 s9 s10).1.length = l.length := by
  unfold stepTM; split
  · exact stepM_len ..
  · rfl
def keysM (l : List Int) : List Int := (nodesOfM l).map fun n => rd l (3 * n)
theorem keysM_length (l : List Int) : (keysM l).length ≤ 20 := by unfold keysM; rw [List.length_map]; exact (nodesOfM_range l).1
theorem implKeys_l0 (l : List Int) (hl : l.length = 63) (ns : List Int) (hr : ∀ x ∈ ns, 1 ≤ x ∧ x ≤ 20) (hn : ns.length ≤ 20) (d : Nat) :
    ∀ (j : Nat) (acc : List Int), j + d = ns.length → acc.length = j → Ev (fun k => impl_KeysOf.l0 k l acc ns (ns.length : Int) (j : Int)) (acc ++ (ns.drop j).map fun n => rd l (3 * n)) := by
  induction d with
  | zero =>
    intro j acc hj _
    refine Ev.step (fun _ => impl_KeysOf.l0.eq_2 ..) (Ev.neg (by omega) (Ev.some ?_))
    rw [List.drop_eq_nil_of_le (by omega)]; simp
  | succ d ih =>
    intro j acc hj ha
    have hm := hr _ (List.getElem_mem (by omega : j < ns.length))
    refine Ev.step (fun _ => impl_KeysOf.l0.eq_2 ..) (Ev.pos (by omega) (Ev.pos (by omega) (Ev.pos (by omega) ?_)))
    rw [rd_nat ns j (by omega), w64_succ j (by omega)]
    refine Ev.call (show impl_keyCell.f ns[j] = some (3 * ns[j]) from by unfold impl_keyCell.f; rw [w64 (by omega) (by omega)]) ?_
    refine Ev.pos (by omega) (Ev.pos (by omega) (Ev.pos (by omega) (Ev.eq (ih (j + 1) _ (by omega) (by simp; omega)) ?_)))
    rw [List.drop_eq_getElem_cons (i := j) (by omega), List.map_cons, List.append_assoc]; rfl
theorem implKeys_ev (l : List Int) : Ev (fun k => impl_KeysOf.f k l) (keysM l) := by
  refine Ev.congr (fun _ => impl_KeysOf.f.eq_1 ..) (Ev.bind (implNodes_ev l) ?_)
  obtain ⟨a, b⟩ := nodesOfM_range l
  unfold keysM
  by_cases h : l.length = 63
  · exact implKeys_l0 l h (nodesOfM l) (fun x hx => ⟨(b x hx).1, (b x hx).2.1⟩) a (nodesOfM l).length 0 [] (by omega) rfl
  · rw [show nodesOfM l = [] from by unfold nodesOfM; rw [if_neg h]]
    exact Ev.step (fun _ => impl_KeysOf.l0.eq_2 ..) (Ev.neg (by simp) (Ev.now _))
def valueM (l : List Int) (key : Int) : List Int → Int
  | [] => 0
  | n :: r => if rd l (3 * n) = key then wrap64 (rd l (3 * n + 1) + 1) else valueM l key r
theorem implValue_l0 (l : List Int) (key : Int) (hl : l.length = 63) (ns : List Int) (hr : ∀ x ∈ ns, 1 ≤ x ∧ x ≤ 20) (hn : ns.length ≤ 20) (d : Nat) :
    ∀ (j : Nat), j + d = ns.length → Ev (fun k => impl_ValueOf.l0 k l key ns (ns.length : Int) (j : Int)) (valueM l key (ns.drop j)) := by
  induction d with
  | zero =>
    intro j hj
    refine Ev.step (fun _ => impl_ValueOf.l0.eq_2 ..) (Ev.neg (by omega) (Ev.some ?_))
    rw [List.drop_eq_nil_of_le (by omega)]; rfl
  | succ d ih =>
    intro j hj
    have hm := hr _ (List.getElem_mem (by omega : j < ns.length))
    refine Ev.step (fun _ => impl_ValueOf.l0.eq_2 ..) (Ev.pos (by omega) (Ev.pos (by omega) (Ev.pos (by omega) ?_)))
    rw [rd_nat ns j (by omega), w64_succ j (by omega), List.drop_eq_getElem_cons (i := j) (by omega)]
    refine Ev.call (show impl_keyCell.f ns[j] = some (3 * ns[j]) from by unfold impl_keyCell.f; rw [w64 (by omega) (by omega)]) (Ev.pos (by omega) (Ev.pos (by omega) ?_))
    unfold valueM
    by_cases h : rd l (3 * ns[j]) = key
    · rw [if_pos h]
      refine Ev.pos h (Ev.call (show impl_valCell.f ns[j] = some (3 * ns[j] + 1) from by unfold impl_valCell.f; rw [w64 (n := 3 * ns[j]) (by omega) (by omega), w64 (by omega) (by omega)]) (Ev.pos (by omega) (Ev.pos (by omega) (Ev.now _))))
    · rw [if_neg h]; exact Ev.neg h (ih (j + 1) (by omega))
theorem implValue_ev (l : List Int) (key : Int) : Ev (fun k => impl_ValueOf.f k l key) (valueM l key (nodesOfM l)) := by
  refine Ev.congr (fun _ => impl_ValueOf.f.eq_1 ..) (Ev.bind (implNodes_ev l) ?_)
  obtain ⟨a, b⟩ := nodesOfM_range l
  by_cases h : l.length = 63
  · exact implValue_l0 l key h (nodesOfM l) (fun x hx => ⟨(b x hx).1, (b x hx).2.1⟩) a (nodesOfM l).length 0 (by omega)
  · rw [show nodesOfM l = [] from by unfold nodesOfM; rw [if_neg h]]
    exact Ev.step (fun _ => impl_ValueOf.l0.eq_2 ..) (Ev.neg (by simp) (Ev.now _))
/-- A list and a task that steps on it, alone. -/
abbrev SS : Type := List Int × Int × Int × Int × Int × Int × Int × Int × Int × Int × Bool × Int
def stT (s : SS) : SS := stepTM s.1 s.2.1 s.2.2.1 s.2.2.2.1 s.2.2.2.2.1 s.2.2.2.2.2.1 s.2.2.2.2.2.2.1 s.2.2.2.2.2.2.2.1 s.2.2.2.2.2.2.2.2.1 s.2.2.2.2.2.2.2.2.2.1 s.2.2.2.2.2.2.2.2.2.2.1 s.2.2.2.2.2.2.2.2.2.2.2
def runT : Nat → SS → SS
  | 0, s => s
  | m + 1, s => if s.2.2.2.2.2.2.2.2.2.2.1 = true then s else runT m (stT s)
theorem runT_done (m : Nat) (s : SS) (h : s.2.2.2.2.2.2.2.2.2.2.1 = true) : runT m s = s := by
  cases m with
  | zero => rfl
  | succ m => unfold runT; rw [if_pos h]
theorem runT_step (m : Nat) (l : List Int) (s0 s1 s2 s3 s4 s5 s6 s7 s8 s10 : Int) (hok : taskOkP s0 s1 s2 s3 s4 s5 s6 s7 s8) (hc : cellsP l) :
    runT (m + 1) (l, s0, s1, s2, s3, s4, s5, s6, s7, s8, false, s10) = runT m (turnT (stepM l s0 s1 s2 s3 s4 s5 s6 s7 s8 false s10)) := by
  show (if (false : Bool) = true then _ else runT m (stepTM l s0 s1 s2 s3 s4 s5 s6 s7 s8 false s10)) = _
  rw [if_neg (by decide)]
  unfold stepTM
  rw [if_pos ⟨rfl, hok, hc⟩]
theorem nodeM_two (h : Int) (h0 : 0 ≤ h) (h1 : h ≤ 20) : nodeM (2 * h) = h := by unfold nodeM; split <;> omega
/-- From the word of p on, over these nodes, to c. -/
def Pth (l : List Int) : Int → List Int → Int → Prop
  | p, [], c => rd l (cellW p) = 2 * c
  | p, a :: r, c => rd l (cellW p) = 2 * a ∧ Pth l a r c
def lastN : Int → List Int → Int
  | p, [] => p
  | _, a :: r => lastN a r
def headN : List Int → Int → Int
  | [], c => c
  | a :: _, _ => a
theorem pth_head {l : List Int} {c : Int} : ∀ {xs : List Int} {p : Int}, Pth l p xs c → rd l (cellW p) = 2 * headN xs c
  | [], _, h => h
  | _ :: _, _, h => h.1
theorem pth_split {l : List Int} {c : Int} {suf : List Int} : ∀ (pre : List Int) (p : Int), Pth l p (pre ++ suf) c → Pth l p pre (headN suf c) ∧ Pth l (lastN p pre) suf c
  | [], _, h => ⟨pth_head h, h⟩
  | a :: r, _, h => ⟨⟨h.1, (pth_split r a h.2).1⟩, (pth_split r a h.2).2⟩
theorem pth_join {l : List Int} {c : Int} {suf : List Int} : ∀ (pre : List Int) (p : Int), Pth l p pre (headN suf c) → Pth l (lastN p pre) suf c → Pth l p (pre ++ suf) c
  | [], _, _, h => h
  | a :: r, _, h1, h2 => ⟨h1.1, pth_join r a h1.2 h2⟩
theorem pth_re {l l' : List Int} {c : Int} : ∀ (xs : List Int) (p q : Int), Pth l p xs c → rd l' (cellW q) = rd l (cellW p) → (∀ a ∈ xs, rd l' (cellW a) = rd l (cellW a)) → Pth l' q xs c
  | [], _, _, h, e, _ => e.trans h
  | a :: r, _, _, h, e, ha => ⟨e.trans h.1, pth_re r a a h.2 (ha a (List.mem_cons_self ..)) (fun b hb => ha b (List.mem_cons_of_mem _ hb))⟩
theorem lastN_mem : ∀ (xs : List Int) (p : Int), lastN p xs ∈ p :: xs
  | [], p => List.mem_cons_self ..
  | a :: r, p => List.mem_cons_of_mem _ (lastN_mem r a)
theorem pth_last {l l' : List Int} {c x : Int} : ∀ (xs : List Int) (p : Int), (p :: xs).Nodup → Pth l p xs c → (∀ a ∈ p :: xs, a ≠ lastN p xs → rd l' (cellW a) = rd l (cellW a)) → rd l' (cellW (lastN p xs)) = 2 * x → Pth l' p xs x
  | [], _, _, _, _, e => e
  | a :: r, p, hn, h, ha, e => by
    have hn' := List.nodup_cons.1 hn
    refine ⟨(ha p (List.mem_cons_self ..) ?_).trans h.1, pth_last r a hn'.2 h.2 (fun b hb => ha b (List.mem_cons_of_mem _ hb)) e⟩
    intro e2
    exact hn'.1 (by rw [e2]; exact lastN_mem r a)
/-- What lies in the nodes. -/
def ct (l : List Int) (ns : List Int) : List S61 := ns.map fun a => ⟨rd l (3 * a), rd l (3 * a + 1)⟩
def sortedS (l : List S61) : Prop := l.Pairwise fun a b => a.f0 < b.f0
structure Rep (l : List Int) (ns : List Int) : Prop where
  cells : cellsP l
  path : Pth l 0 ns 0
  nodup : (0 :: ns).Nodup
  range : ∀ a ∈ ns, 1 ≤ a ∧ a ≤ 20
  sorted : sortedS (ct l ns)
section
variable (l : List Int) (hc : cellsP l) (k key v n : Int) (hk : 1 ≤ k ∧ k ≤ 3) (hy : 1 ≤ key ∧ key ≤ 99) (hv : 0 ≤ v ∧ v ≤ 99) (hn : 1 ≤ n ∧ n ≤ 20) (b : Int) (m : Nat)
include hc hk hy hv hn
theorem run_0 : runT (m + 1) (l, k, key, v, n, 0, 0, 0, 0, 0, false, b) = runT m (l, k, key, v, n, 1, 0, nodeM (rd l 0), 0, 0, false, b) := by
  rw [runT_step m l k key v n 0 0 0 0 0 b ⟨hk, hy, hv, hn, by omega, by omega, by omega, by omega, by omega⟩ hc]
  unfold stepM; rw [if_pos rfl]; rfl
theorem run_look (p a h x7 x8 : Int) (hp : 0 ≤ p ∧ p ≤ 20) (ha : 1 ≤ a ∧ a ≤ 20) (hh : 0 ≤ h ∧ h ≤ 20) (h7 : 0 ≤ x7 ∧ x7 ≤ 20) (h8 : 0 ≤ x8 ∧ x8 ≤ 1) (hw : rd l (cellW a) = 2 * h) :
    runT (m + 1) (l, k, key, v, n, 1, p, a, x7, x8, false, b) = runT m (l, k, key, v, n, 2, p, a, h, 0, false, b) := by
  rw [runT_step m l k key v n 1 p a x7 x8 b ⟨hk, hy, hv, hn, by omega, hp, by omega, h7, h8⟩ hc]
  unfold stepM; rw [if_neg (by omega), if_pos rfl, if_neg (by omega), hw, nodeM_two h hh.1 hh.2, show 2 * h % 2 = 0 by omega]; rfl
theorem run_move (p a h : Int) (hp : 0 ≤ p ∧ p ≤ 20) (ha : 1 ≤ a ∧ a ≤ 20) (hh : 0 ≤ h ∧ h ≤ 20) (hlt : rd l (3 * a) < key) :
    runT (m + 1) (l, k, key, v, n, 2, p, a, h, 0, false, b) = runT m (l, k, key, v, n, 1, a, h, h, 0, false, b) := by
  rw [runT_step m l k key v n 2 p a h 0 b ⟨hk, hy, hv, hn, by omega, hp, by omega, hh, by omega⟩ hc]
  unfold stepM lookM; rw [if_neg (by omega), if_neg (by omega), if_pos rfl, if_neg (by omega), if_pos hlt]; rfl
theorem run_stop (p a h : Int) (hp : 0 ≤ p ∧ p ≤ 20) (ha : 1 ≤ a ∧ a ≤ 20) (hh : 0 ≤ h ∧ h ≤ 20) (hlt : ¬ rd l (3 * a) < key) :
    runT (m + 1) (l, k, key, v, n, 2, p, a, h, 0, false, b) = runT m (l, k, key, v, n, 3, p, a, h, 0, false, b) := by
  rw [runT_step m l k key v n 2 p a h 0 b ⟨hk, hy, hv, hn, by omega, hp, by omega, hh, by omega⟩ hc]
  unfold stepM lookM; rw [if_neg (by omega), if_neg (by omega), if_pos rfl, if_neg (by omega), if_neg hlt]; rfl
theorem run_none (p x7 x8 : Int) (hp : 0 ≤ p ∧ p ≤ 20) (h7 : 0 ≤ x7 ∧ x7 ≤ 20) (h8 : 0 ≤ x8 ∧ x8 ≤ 1) (h2 : k ≠ 2) :
    runT (m + 1) (l, k, key, v, n, 1, p, 0, x7, x8, false, b) = (l, k, key, v, n, 1, p, 0, x7, x8, true, 0) := by
  rw [runT_step m l k key v n 1 p 0 x7 x8 b ⟨hk, hy, hv, hn, by omega, hp, by omega, h7, h8⟩ hc]
  unfold stepM nobodyM; rw [if_neg (by omega), if_pos rfl, if_pos rfl, if_neg h2]; exact runT_done _ _ rfl
theorem run_put0 (p x7 x8 : Int) (hp : 0 ≤ p ∧ p ≤ 20) (h7 : 0 ≤ x7 ∧ x7 ≤ 20) (h8 : 0 ≤ x8 ∧ x8 ≤ 1) (h2 : k = 2) :
    runT (m + 1) (l, k, key, v, n, 1, p, 0, x7, x8, false, b) = runT m (((l.set (3 * n).toNat key).set (3 * n + 1).toNat v).set (3 * n + 2).toNat (2 * 0), k, key, v, n, 4, p, 0, x7, x8, false, b) := by
  rw [runT_step m l k key v n 1 p 0 x7 x8 b ⟨hk, hy, hv, hn, by omega, hp, by omega, h7, h8⟩ hc]
  unfold stepM nobodyM; rw [if_neg (by omega), if_pos rfl, if_pos rfl, if_pos h2]; rfl
theorem run_no (p a h : Int) (hp : 0 ≤ p ∧ p ≤ 20) (ha : 1 ≤ a ∧ a ≤ 20) (hh : 0 ≤ h ∧ h ≤ 20) (hne : rd l (3 * a) ≠ key) (h2 : k ≠ 2) :
    runT (m + 1) (l, k, key, v, n, 3, p, a, h, 0, false, b) = (l, k, key, v, n, 3, p, a, h, 0, true, 0) := by
  rw [runT_step m l k key v n 3 p a h 0 b ⟨hk, hy, hv, hn, by omega, hp, by omega, hh, by omega⟩ hc]
  unfold stepM foundM nobodyM; rw [if_neg (by omega), if_neg (by omega), if_neg (by omega), if_pos rfl, if_neg hne, if_neg h2]; exact runT_done _ _ rfl
theorem run_putA (p a h : Int) (hp : 0 ≤ p ∧ p ≤ 20) (ha : 1 ≤ a ∧ a ≤ 20) (hh : 0 ≤ h ∧ h ≤ 20) (hne : rd l (3 * a) ≠ key) (h2 : k = 2) :
    runT (m + 1) (l, k, key, v, n, 3, p, a, h, 0, false, b) = runT m (((l.set (3 * n).toNat key).set (3 * n + 1).toNat v).set (3 * n + 2).toNat (2 * a), k, key, v, n, 4, p, a, h, 0, false, b) := by
  rw [runT_step m l k key v n 3 p a h 0 b ⟨hk, hy, hv, hn, by omega, hp, by omega, hh, by omega⟩ hc]
  unfold stepM foundM nobodyM; rw [if_neg (by omega), if_neg (by omega), if_neg (by omega), if_pos rfl, if_neg hne, if_pos h2]; rfl
theorem run_find (p a h : Int) (hp : 0 ≤ p ∧ p ≤ 20) (ha : 1 ≤ a ∧ a ≤ 20) (hh : 0 ≤ h ∧ h ≤ 20) (he : rd l (3 * a) = key) (h1 : k = 1) :
    runT (m + 1) (l, k, key, v, n, 3, p, a, h, 0, false, b) = (l, k, key, v, n, 3, p, a, h, 0, true, rd l (3 * a + 1) + 1) := by
  rw [runT_step m l k key v n 3 p a h 0 b ⟨hk, hy, hv, hn, by omega, hp, by omega, hh, by omega⟩ hc]
  unfold stepM foundM; rw [if_neg (by omega), if_neg (by omega), if_neg (by omega), if_pos rfl, if_pos he, if_pos h1]; exact runT_done _ _ rfl
theorem run_had (p a h : Int) (hp : 0 ≤ p ∧ p ≤ 20) (ha : 1 ≤ a ∧ a ≤ 20) (hh : 0 ≤ h ∧ h ≤ 20) (he : rd l (3 * a) = key) (h2 : k = 2) :
    runT (m + 1) (l, k, key, v, n, 3, p, a, h, 0, false, b) = (l, k, key, v, n, 3, p, a, h, 0, true, 0) := by
  rw [runT_step m l k key v n 3 p a h 0 b ⟨hk, hy, hv, hn, by omega, hp, by omega, hh, by omega⟩ hc]
  unfold stepM foundM; rw [if_neg (by omega), if_neg (by omega), if_neg (by omega), if_pos rfl, if_pos he, if_neg (by omega), if_pos h2]; exact runT_done _ _ rfl
theorem run_take (p a h : Int) (hp : 0 ≤ p ∧ p ≤ 20) (ha : 1 ≤ a ∧ a ≤ 20) (hh : 0 ≤ h ∧ h ≤ 20) (he : rd l (3 * a) = key) (h3 : k = 3) :
    runT (m + 1) (l, k, key, v, n, 3, p, a, h, 0, false, b) = runT m (l, k, key, v, n, 5, p, a, h, 0, false, b) := by
  rw [runT_step m l k key v n 3 p a h 0 b ⟨hk, hy, hv, hn, by omega, hp, by omega, hh, by omega⟩ hc]
  unfold stepM foundM; rw [if_neg (by omega), if_neg (by omega), if_neg (by omega), if_pos rfl, if_pos he, if_neg (by omega), if_neg (by omega)]; rfl
theorem run_4 (p a x7 x8 : Int) (hp : 0 ≤ p ∧ p ≤ 20) (ha : 0 ≤ a ∧ a ≤ 20) (h7 : 0 ≤ x7 ∧ x7 ≤ 20) (h8 : 0 ≤ x8 ∧ x8 ≤ 1) (hw : rd l (cellW p) = 2 * a) :
    runT (m + 1) (l, k, key, v, n, 4, p, a, x7, x8, false, b) = (l.set (cellW p).toNat (2 * n), k, key, v, n, 4, p, a, x7, x8, true, 1) := by
  rw [runT_step m l k key v n 4 p a x7 x8 b ⟨hk, hy, hv, hn, by omega, hp, by omega, h7, h8⟩ hc]
  unfold stepM swapM; rw [if_neg (by omega), if_neg (by omega), if_neg (by omega), if_neg (by omega), if_pos rfl, if_pos hw, if_pos rfl]; exact runT_done _ _ rfl
theorem run_5 (p a h : Int) (hp : 0 ≤ p ∧ p ≤ 20) (ha : 1 ≤ a ∧ a ≤ 20) (hh : 0 ≤ h ∧ h ≤ 20) (hw : rd l (cellW a) = 2 * h) :
    runT (m + 1) (l, k, key, v, n, 5, p, a, h, 0, false, b) = runT m (l.set (cellW a).toNat (2 * h + 1), k, key, v, n, 6, p, a, h, 0, false, b) := by
  rw [runT_step m l k key v n 5 p a h 0 b ⟨hk, hy, hv, hn, by omega, hp, by omega, hh, by omega⟩ hc]
  unfold stepM swapM; rw [if_neg (by omega), if_neg (by omega), if_neg (by omega), if_neg (by omega), if_neg (by omega), if_pos rfl, if_pos hw, if_pos rfl]; rfl
theorem run_6 (p a h : Int) (hp : 0 ≤ p ∧ p ≤ 20) (ha : 1 ≤ a ∧ a ≤ 20) (hh : 0 ≤ h ∧ h ≤ 20) (hw : rd l (cellW p) = 2 * a) :
    runT (m + 1) (l, k, key, v, n, 6, p, a, h, 0, false, b) = (l.set (cellW p).toNat (2 * h), k, key, v, n, 6, p, a, h, 0, true, 1) := by
  rw [runT_step m l k key v n 6 p a h 0 b ⟨hk, hy, hv, hn, by omega, hp, by omega, hh, by omega⟩ hc]
  unfold stepM swapM; rw [if_neg (by omega), if_neg (by omega), if_neg (by omega), if_neg (by omega), if_neg (by omega), if_neg (by omega), if_pos hw]; exact runT_done _ _ rfl
theorem run_trav (c : Int) (hc0 : 0 ≤ c ∧ c ≤ 20) : ∀ (xs : List Int) (p x7 x8 : Int), Pth l p xs c → 0 ≤ p ∧ p ≤ 20 → (∀ a ∈ xs, (1 ≤ a ∧ a ≤ 20) ∧ rd l (3 * a) < key) → 0 ≤ x7 ∧ x7 ≤ 20 → 0 ≤ x8 ∧ x8 ≤ 1 →
    ∃ y7 y8 : Int, (0 ≤ y7 ∧ y7 ≤ 20) ∧ (0 ≤ y8 ∧ y8 ≤ 1) ∧ ∀ m, runT (m + 2 * xs.length) (l, k, key, v, n, 1, p, headN xs c, x7, x8, false, b) = runT m (l, k, key, v, n, 1, lastN p xs, c, y7, y8, false, b)
  | [], p, x7, x8, _, _, _, h7, h8 => ⟨x7, x8, h7, h8, fun m => rfl⟩
  | a :: r, p, x7, x8, h, hp, ha, h7, h8 => by
    obtain ⟨ha1, ha2⟩ := ha a (List.mem_cons_self ..)
    have hh : 0 ≤ headN r c ∧ headN r c ≤ 20 := by
      cases r with
      | nil => exact hc0
      | cons z _ => have := (ha z (by simp)).1; show 0 ≤ z ∧ z ≤ 20; omega
    obtain ⟨y7, y8, q7, q8, hr⟩ := run_trav c hc0 r a (headN r c) 0 h.2 (by omega) (fun z hz => ha z (List.mem_cons_of_mem _ hz)) hh (by omega)
    refine ⟨y7, y8, q7, q8, fun m => ?_⟩
    show runT (m + 2 * (r.length + 1)) (l, k, key, v, n, 1, p, a, x7, x8, false, b) = _
    rw [show m + 2 * (r.length + 1) = m + 2 * r.length + 1 + 1 by omega, run_look l hc k key v n hk hy hv hn b _ p a (headN r c) x7 x8 hp ha1 hh h7 h8 (pth_head h.2), run_move l hc k key v n hk hy hv hn b _ p a (headN r c) hp ha1 hh ha2]
    exact hr m
end
theorem cellW_inj {a b : Int} (ha : 0 ≤ a) (hb : 0 ≤ b) (h : cellW a = cellW b) : a = b := by
  unfold cellW at h; split at h <;> split at h <;> omega
theorem cellW_ne {a p : Int} (ha : 1 ≤ a) (hp : 0 ≤ p) : cellW p ≠ 3 * a ∧ cellW p ≠ 3 * a + 1 := by
  unfold cellW; split <;> omega
theorem cellW_at {n : Int} (h : 1 ≤ n) : cellW n = 3 * n + 2 := by unfold cellW; rw [if_neg (by omega)]
theorem cellsP_set {l : List Int} (h : cellsP l) (i : Nat) (x : Int) (hx : 0 ≤ x ∧ x ≤ 1000000000) : cellsP (l.set i x) := by
  refine ⟨by rw [List.length_set]; exact h.1, fun y hy => ?_⟩
  rcases List.mem_or_eq_of_mem_set hy with h1 | rfl
  · exact h.2 y h1
  · exact hx
def putL (l : List Int) (key v n c p : Int) : List Int := (((l.set (3 * n).toNat key).set (3 * n + 1).toNat v).set (3 * n + 2).toNat (2 * c)).set (cellW p).toNat (2 * n)
theorem putL_other (l : List Int) (key v n c p j : Int) (hl : l.length = 63) (hn : 1 ≤ n ∧ n ≤ 20) (hp : 0 ≤ p ∧ p ≤ 20) (hj : 0 ≤ j) (h1 : j ≠ 3 * n) (h2 : j ≠ 3 * n + 1) (h3 : j ≠ 3 * n + 2) (h4 : j ≠ cellW p) : rd (putL l key v n c p) j = rd l j := by
  have := cellW_range p hp.1 hp.2
  unfold putL
  rw [rd_set_ne _ _ _ _ this.1 hj h4, rd_set_ne _ _ _ _ (by omega) hj h3, rd_set_ne _ _ _ _ (by omega) hj h2, rd_set_ne _ _ _ _ (by omega) hj h1]
theorem putL_at (l : List Int) (key v n c p : Int) (hl : l.length = 63) (hn : 1 ≤ n ∧ n ≤ 20) (hp : 0 ≤ p ∧ p ≤ 20) (hne : p ≠ n) : rd (putL l key v n c p) (3 * n) = key ∧ rd (putL l key v n c p) (3 * n + 1) = v ∧ rd (putL l key v n c p) (cellW n) = 2 * c ∧ rd (putL l key v n c p) (cellW p) = 2 * n := by
  have hp' := cellW_range p hp.1 hp.2
  have h1 := cellW_ne hn.1 hp.1
  have h2 : cellW p ≠ cellW n := fun h => hne (cellW_inj hp.1 (by omega) h)
  rw [cellW_at hn.1] at h2 ⊢
  unfold putL
  refine ⟨?_, ?_, ?_, ?_⟩
  · rw [rd_set_ne _ _ _ _ hp'.1 (by omega) (Ne.symm h1.1), rd_set_ne _ _ _ _ (by omega) (by omega) (by omega), rd_set_ne _ _ _ _ (by omega) (by omega) (by omega), rd_set_eq _ _ _ (by omega) (by omega)]
  · rw [rd_set_ne _ _ _ _ hp'.1 (by omega) (Ne.symm h1.2), rd_set_ne _ _ _ _ (by omega) (by omega) (by omega), rd_set_eq _ _ _ (by omega) (by rw [List.length_set]; omega)]
  · rw [rd_set_ne _ _ _ _ hp'.1 (by omega) (Ne.symm h2), rd_set_eq _ _ _ (by omega) (by rw [List.length_set, List.length_set]; omega)]
  · rw [rd_set_eq _ _ _ hp'.1 (by rw [List.length_set, List.length_set, List.length_set]; omega)]
theorem ct_app (l : List Int) (a b : List Int) : ct l (a ++ b) = ct l a ++ ct l b := List.map_append
theorem ct_same {l l' : List Int} (ns : List Int) (h : ∀ a ∈ ns, rd l' (3 * a) = rd l (3 * a) ∧ rd l' (3 * a + 1) = rd l (3 * a + 1)) : ct l' ns = ct l ns := by
  unfold ct
  exact List.map_congr_left fun a ha => by rw [(h a ha).1, (h a ha).2]
theorem last_range {pre suf : List Int} (hr : ∀ a ∈ pre ++ suf, 1 ≤ a ∧ a ≤ 20) : 0 ≤ lastN 0 pre ∧ lastN 0 pre ≤ 20 := by
  rcases List.mem_cons.1 (lastN_mem pre 0) with h | h
  · rw [h]; omega
  · have := hr _ (List.mem_append_left _ h); omega
theorem head_range {suf : List Int} (hr : ∀ a ∈ suf, 1 ≤ a ∧ a ≤ 20) : 0 ≤ headN suf 0 ∧ headN suf 0 ≤ 20 := by
  cases suf with
  | nil => exact ⟨by decide, by decide⟩
  | cons z _ => have := hr z (List.mem_cons_self ..); show 0 ≤ z ∧ z ≤ 20; omega
theorem rep_put {l : List Int} {pre suf : List Int} (R : Rep l (pre ++ suf)) (key v n : Int) (hy : 1 ≤ key ∧ key ≤ 99) (hv : 0 ≤ v ∧ v ≤ 99) (hn : 1 ≤ n ∧ n ≤ 20) (hnn : n ∉ pre ++ suf)
    (h1 : ∀ x ∈ ct l pre, x.f0 < key) (h2 : ∀ x ∈ ct l suf, key < x.f0) :
    Rep (putL l key v n (headN suf 0) (lastN 0 pre)) (pre ++ n :: suf) ∧ ct (putL l key v n (headN suf 0) (lastN 0 pre)) (pre ++ n :: suf) = ct l pre ++ [⟨key, v⟩] ++ ct l suf := by
  have hp := last_range R.range
  have hh := head_range (suf := suf) (fun a ha => R.range a (List.mem_append_right _ ha))
  have hl := R.cells.1
  have hpm := lastN_mem pre 0
  have hne : lastN 0 pre ≠ n := by
    intro e
    rcases List.mem_cons.1 hpm with h | h
    · omega
    · exact hnn (by rw [← e]; exact List.mem_append_left _ h)
  obtain ⟨g1, g2, g3, g4⟩ := putL_at l key v n (headN suf 0) (lastN 0 pre) hl hn hp hne
  have go := putL_other l key v n (headN suf 0) (lastN 0 pre)
  obtain ⟨hp1, hp2⟩ := pth_split pre 0 R.path
  have hnd : (0 :: pre).Nodup := R.nodup.sublist (List.Sublist.cons_cons _ (List.sublist_append_left ..))
  have word : ∀ a, 0 ≤ a → a ≠ n → a ≠ lastN 0 pre → rd (putL l key v n (headN suf 0) (lastN 0 pre)) (cellW a) = rd l (cellW a) := fun a ha han hap => by
    have hr := cellW_ne hn.1 ha
    refine go (cellW a) hl hn hp (by unfold cellW; split <;> omega) hr.1 hr.2 (fun e => han (cellW_inj ha (by omega) (e.trans (cellW_at hn.1).symm))) (fun e => hap (cellW_inj ha hp.1 e))
  have same : ∀ a ∈ pre ++ suf, rd (putL l key v n (headN suf 0) (lastN 0 pre)) (3 * a) = rd l (3 * a) ∧ rd (putL l key v n (headN suf 0) (lastN 0 pre)) (3 * a + 1) = rd l (3 * a + 1) := fun a ha => by
    have hr := R.range a ha
    have han : a ≠ n := fun e => hnn (e ▸ ha)
    have hc := cellW_ne hr.1 hp.1
    exact ⟨go (3 * a) hl hn hp (by omega) (by omega) (by omega) (by omega) (Ne.symm hc.1), go (3 * a + 1) hl hn hp (by omega) (by omega) (by omega) (by omega) (Ne.symm hc.2)⟩
  have hct : ct (putL l key v n (headN suf 0) (lastN 0 pre)) (pre ++ n :: suf) = ct l pre ++ [⟨key, v⟩] ++ ct l suf := by
    rw [ct_app, ct_same pre (fun a ha => same a (List.mem_append_left _ ha))]
    show ct l pre ++ (⟨_, _⟩ :: ct _ suf) = _
    rw [g1, g2, ct_same suf (fun a ha => same a (List.mem_append_right _ ha)), List.append_assoc]; rfl
  refine ⟨⟨?_, ?_, ?_, ?_, ?_⟩, hct⟩
  · exact cellsP_set (cellsP_set (cellsP_set (cellsP_set R.cells _ _ (by omega)) _ _ (by omega)) _ _ (by omega)) _ _ (by omega)
  · refine pth_join pre 0 (pth_last pre 0 hnd hp1 (fun a ha hal => word a ?_ ?_ hal) g4) ⟨g4, pth_re suf _ n hp2 (g3.trans (pth_head hp2).symm) (fun a ha => word a ?_ ?_ ?_)⟩
    · rcases List.mem_cons.1 ha with rfl | ha
      · omega
      · have := R.range a (List.mem_append_left _ ha); omega
    · intro e
      rcases List.mem_cons.1 ha with rfl | ha
      · omega
      · exact hnn (e ▸ List.mem_append_left _ ha)
    · have := R.range a (List.mem_append_right _ ha); omega
    · exact fun e => hnn (e ▸ List.mem_append_right _ ha)
    · intro e
      have hd := R.nodup
      rw [← List.cons_append] at hd
      exact (List.nodup_append.1 hd).2.2 _ hpm _ ha e.symm
  · show ((0 :: pre) ++ n :: suf).Nodup
    refine (List.perm_middle.nodup_iff).2 (List.nodup_cons.2 ⟨?_, R.nodup⟩)
    intro h
    rcases List.mem_cons.1 h with h | h
    · omega
    · exact hnn h
  · intro a ha
    rcases List.mem_append.1 ha with ha | ha
    · exact R.range a (List.mem_append_left _ ha)
    · rcases List.mem_cons.1 ha with rfl | ha
      · exact hn
      · exact R.range a (List.mem_append_right _ ha)
  · have hs := R.sorted
    unfold sortedS at hs ⊢
    rw [ct_app] at hs
    rw [hct, List.append_assoc]
    obtain ⟨s1, s2, s3⟩ := List.pairwise_append.1 hs
    refine List.pairwise_append.2 ⟨s1, List.pairwise_cons.2 ⟨fun x hx => h2 x hx, s2⟩, fun x hx y hy => ?_⟩
    rcases List.mem_cons.1 hy with rfl | hy
    · exact h1 x hx
    · exact s3 x hx y hy
def takeL (l : List Int) (a h p : Int) : List Int := (l.set (cellW a).toNat (2 * h + 1)).set (cellW p).toNat (2 * h)
theorem rep_take {l : List Int} {pre r : List Int} {a : Int} (R : Rep l (pre ++ a :: r)) :
    Rep (takeL l a (headN r 0) (lastN 0 pre)) (pre ++ r) ∧ ct (takeL l a (headN r 0) (lastN 0 pre)) (pre ++ r) = ct l pre ++ ct l r := by
  have hp := last_range R.range
  have ha := R.range a (by simp)
  have hh := head_range (suf := r) (fun a ha => R.range a (by simp [ha]))
  have hl := R.cells.1
  have hpm := lastN_mem pre 0
  have hd := R.nodup
  rw [← List.cons_append] at hd
  obtain ⟨d1, d2, d3⟩ := List.nodup_append.1 hd
  have hpa : lastN 0 pre ≠ a := d3 _ hpm _ (List.mem_cons_self ..)
  have cp := cellW_range _ hp.1 hp.2
  have ca := cellW_range a (by omega) ha.2
  have go : ∀ j, 0 ≤ j → j ≠ cellW a → j ≠ cellW (lastN 0 pre) → rd (takeL l a (headN r 0) (lastN 0 pre)) j = rd l j := fun j hj h1 h2 => by
    unfold takeL
    rw [rd_set_ne _ _ _ _ cp.1 hj h2, rd_set_ne _ _ _ _ ca.1 hj h1]
  have gp : rd (takeL l a (headN r 0) (lastN 0 pre)) (cellW (lastN 0 pre)) = 2 * headN r 0 := by
    unfold takeL
    rw [rd_set_eq _ _ _ cp.1 (by rw [List.length_set]; omega)]
  obtain ⟨hp1, hp2⟩ := pth_split pre 0 R.path
  have word : ∀ z, 0 ≤ z → z ≠ a → z ≠ lastN 0 pre → rd (takeL l a (headN r 0) (lastN 0 pre)) (cellW z) = rd l (cellW z) := fun z hz h1 h2 =>
    go _ (by unfold cellW; split <;> omega) (fun e => h1 (cellW_inj hz (by omega) e)) (fun e => h2 (cellW_inj hz hp.1 e))
  have same : ∀ z ∈ pre ++ r, rd (takeL l a (headN r 0) (lastN 0 pre)) (3 * z) = rd l (3 * z) ∧ rd (takeL l a (headN r 0) (lastN 0 pre)) (3 * z + 1) = rd l (3 * z + 1) := fun z hz => by
    have hr : 1 ≤ z ∧ z ≤ 20 := R.range z (by rcases List.mem_append.1 hz with h | h <;> simp [h])
    have c1 := cellW_ne hr.1 hp.1
    have c2 := cellW_ne (p := a) hr.1 (by omega)
    exact ⟨go _ (by omega) (Ne.symm c2.1) (Ne.symm c1.1), go _ (by omega) (Ne.symm c2.2) (Ne.symm c1.2)⟩
  have hct : ct (takeL l a (headN r 0) (lastN 0 pre)) (pre ++ r) = ct l pre ++ ct l r := by rw [ct_same _ same, ct_app]
  have sub : (pre ++ r).Sublist (pre ++ a :: r) := List.Sublist.append (List.Sublist.refl _) (List.sublist_cons_self a r)
  refine ⟨⟨?_, ?_, ?_, ?_, ?_⟩, hct⟩
  · exact cellsP_set (cellsP_set R.cells _ _ (by omega)) _ _ (by omega)
  · refine pth_join pre 0 (pth_last pre 0 d1 hp1 (fun z hz hzl => word z ?_ ?_ hzl) gp) (pth_re r a _ hp2.2 (gp.trans (pth_head hp2.2).symm) (fun z hz => word z ?_ ?_ ?_))
    · rcases List.mem_cons.1 hz with rfl | hz
      · omega
      · have := R.range z (List.mem_append_left _ hz); omega
    · exact d3 z hz a (List.mem_cons_self ..)
    · have := R.range z (by simp [hz]); omega
    · intro e; exact (List.nodup_cons.1 d2).1 (e ▸ hz)
    · exact fun e => d3 _ hpm z (List.mem_cons_of_mem _ hz) e.symm
  · exact R.nodup.sublist (List.Sublist.cons_cons _ sub)
  · exact fun z hz => R.range z (sub.subset hz)
  · have hs := R.sorted
    unfold sortedS at hs ⊢
    rw [hct]
    rw [ct_app] at hs
    exact hs.sublist (List.Sublist.append (List.Sublist.refl _) (List.sublist_cons_self ..))
theorem cut_lt (l : List Int) (key : Int) : ∀ ns : List Int, ∃ pre suf, ns = pre ++ suf ∧ (∀ a ∈ pre, rd l (3 * a) < key) ∧ (∀ b r, suf = b :: r → ¬ rd l (3 * b) < key)
  | [] => ⟨[], [], rfl, by simp, by simp⟩
  | a :: t => by
    by_cases h : rd l (3 * a) < key
    · obtain ⟨p, s, e, h1, h2⟩ := cut_lt l key t
      refine ⟨a :: p, s, by rw [e]; rfl, fun z hz => ?_, h2⟩
      rcases List.mem_cons.1 hz with rfl | hz
      · exact h
      · exact h1 z hz
    · exact ⟨[], a :: t, rfl, by simp, fun b r e => by cases e; exact h⟩
theorem flt_lt {A : List S61} {key : Int} (h : ∀ x ∈ A, x.f0 < key) : A.filter (ltK key) = A ∧ A.filter (isK key) = [] ∧ A.filter (gtK key) = [] ∧ A.filter (keepF key) = A := by
  refine ⟨List.filter_eq_self.2 fun x hx => ?_, List.filter_eq_nil_iff.2 fun x hx => ?_, List.filter_eq_nil_iff.2 fun x hx => ?_, List.filter_eq_self.2 fun x hx => ?_⟩ <;> have := h x hx
  · unfold ltK; simp; omega
  · unfold isK; simp; omega
  · unfold gtK; simp; omega
  · unfold keepF; simp; omega
theorem flt_gt {A : List S61} {key : Int} (h : ∀ x ∈ A, key < x.f0) : A.filter (ltK key) = [] ∧ A.filter (isK key) = [] ∧ A.filter (gtK key) = A ∧ A.filter (keepF key) = A := by
  refine ⟨List.filter_eq_nil_iff.2 fun x hx => ?_, List.filter_eq_nil_iff.2 fun x hx => ?_, List.filter_eq_self.2 fun x hx => ?_, List.filter_eq_self.2 fun x hx => ?_⟩ <;> have := h x hx
  · unfold ltK; simp; omega
  · unfold isK; simp; omega
  · unfold gtK; simp; omega
  · unfold keepF; simp; omega
theorem doM_none {A B : List S61} {k key v : Int} (hA : ∀ x ∈ A, x.f0 < key) (hB : ∀ x ∈ B, key < x.f0) : doM (A ++ B) k key v = if k = 2 then (A ++ [⟨key, v⟩] ++ B, 1) else (A ++ B, 0) := by
  obtain ⟨a1, a2, a3, a4⟩ := flt_lt hA
  obtain ⟨b1, b2, b3, b4⟩ := flt_gt hB
  have e1 : (A ++ B).filter (isK key) = [] := by rw [List.filter_append, a2, b2]; rfl
  have e2 : (A ++ B).filter (ltK key) = A := by rw [List.filter_append, a1, b1, List.append_nil]
  have e3 : (A ++ B).filter (gtK key) = B := by rw [List.filter_append, a3, b3]; rfl
  unfold doM
  rw [e1, e2, e3]
  by_cases h2 : k = 2
  · rw [if_neg (by omega), if_neg (by simp), if_pos ⟨h2, rfl⟩, if_pos h2]
  · rw [if_neg h2]
    by_cases h1 : k = 1
    · rw [if_pos h1]; rfl
    · rw [if_neg h1, if_neg (by simp), if_neg (fun h => h2 h.1)]
theorem doM_some {A B : List S61} {k key v : Int} {b : S61} (hA : ∀ x ∈ A, x.f0 < key) (hB : ∀ x ∈ B, key < x.f0) (hb : b.f0 = key) (hv : 0 ≤ b.f1 ∧ b.f1 ≤ 1000000000) : doM (A ++ b :: B) k key v = if k = 1 then (A ++ b :: B, b.f1 + 1) else if k = 3 then (A ++ B, 1) else (A ++ b :: B, 0) := by
  obtain ⟨a1, a2, a3, a4⟩ := flt_lt hA
  obtain ⟨b1, b2, b3, b4⟩ := flt_gt hB
  have e1 : (A ++ b :: B).filter (isK key) = [b] := by rw [List.filter_append, a2, List.filter_cons_of_pos (by unfold isK; simpa using hb), b2]; rfl
  have e2 : (A ++ b :: B).filter (keepF key) = A ++ B := by rw [List.filter_append, a4, List.filter_cons_of_neg (by unfold keepF; simpa using hb), b4]
  unfold doM
  rw [e1, e2]
  by_cases h1 : k = 1
  · rw [if_pos h1, if_pos h1]
    show (_, (if wrap64 (b.f1 + 1) = 0 then _ else wrap64 (b.f1 + 1))) = _
    rw [w64 (n := b.f1 + 1) (by omega) (by omega), if_neg (by omega)]
  · rw [if_neg h1, if_neg h1]
    by_cases h3 : k = 3
    · rw [if_pos ⟨h3, by simp⟩, if_pos h3]
    · rw [if_neg (fun h => h3 h.1), if_neg h3, if_neg (by simp)]
theorem headN_app (suf : List Int) : ∀ pre : List Int, headN (pre ++ suf) 0 = headN pre (headN suf 0)
  | [] => rfl
  | _ :: _ => rfl
theorem put3_word (l : List Int) (key v n c p : Int) (hn : 1 ≤ n ∧ n ≤ 20) (hp : 0 ≤ p ∧ p ≤ 20) (hne : p ≠ n) : rd (((l.set (3 * n).toNat key).set (3 * n + 1).toNat v).set (3 * n + 2).toNat (2 * c)) (cellW p) = rd l (cellW p) := by
  have h1 := cellW_ne hn.1 hp.1
  have h2 : cellW p ≠ cellW n := fun h => hne (cellW_inj hp.1 (by omega) h)
  have hr := cellW_range p hp.1 hp.2
  rw [cellW_at hn.1] at h2
  rw [rd_set_ne _ _ _ _ (by omega) hr.1 h2, rd_set_ne _ _ _ _ (by omega) hr.1 h1.2, rd_set_ne _ _ _ _ (by omega) hr.1 h1.1]
/-- A task that steps alone does what it does alone. -/
theorem alone {l ns : List Int} (R : Rep l ns) (k key v n : Int) (hk : 1 ≤ k ∧ k ≤ 3) (hy : 1 ≤ key ∧ key ≤ 99) (hv : 0 ≤ v ∧ v ≤ 99) (hn : 1 ≤ n ∧ n ≤ 20) (hnn : n ∉ ns) (hlen : ns.length ≤ 8) :
    ∃ s : SS, runT 60 (l, k, key, v, n, 0, 0, 0, 0, 0, false, 0) = s ∧ s.2.2.2.2.2.2.2.2.2.2.1 = true ∧ s.2.2.2.2.2.2.2.2.2.2.2 = (doM (ct l ns) k key v).2 ∧
      ∃ ns', Rep s.1 ns' ∧ (∀ a ∈ ns', a ∈ ns ∨ a = n) ∧ ct s.1 ns' = (doM (ct l ns) k key v).1 := by
  obtain ⟨pre, suf, rfl, h1, h2⟩ := cut_lt l key ns
  have hc := R.cells
  have hp := last_range R.range
  have hpm := lastN_mem pre 0
  have hpn : lastN 0 pre ≠ n := by
    intro e
    rcases List.mem_cons.1 hpm with h | h
    · omega
    · exact hnn (by rw [← e]; exact List.mem_append_left _ h)
  have hh := head_range (suf := suf) (fun a ha => R.range a (List.mem_append_right _ ha))
  have hh2 := head_range (suf := pre ++ suf) R.range
  obtain ⟨hp1, hp2⟩ := pth_split pre 0 R.path
  have hA : ∀ x ∈ ct l pre, x.f0 < key := fun x hx => by
    obtain ⟨a, ha, rfl⟩ := List.mem_map.1 hx
    exact h1 a ha
  have hw0 : nodeM (rd l 0) = headN pre (headN suf 0) := by
    have := pth_head R.path
    rw [← headN_app, ← nodeM_two _ hh2.1 hh2.2, ← this]; rfl
  obtain ⟨y7, y8, q7, q8, hr⟩ := run_trav l hc k key v n hk hy hv hn 0 (headN suf 0) hh pre 0 0 0 hp1 (by omega) (fun a ha => ⟨R.range a (List.mem_append_left _ ha), h1 a ha⟩) (by omega) (by omega)
  have hlen' : pre.length ≤ 8 := by rw [List.length_append] at hlen; omega
  have hstart : ∀ m, runT (m + 2 * pre.length + 1) (l, k, key, v, n, 0, 0, 0, 0, 0, false, 0) = runT m (l, k, key, v, n, 1, lastN 0 pre, headN suf 0, y7, y8, false, 0) := fun m => by
    rw [run_0 l hc k key v n hk hy hv hn, hw0]; exact hr m
  have h60 : (60 : Nat) = (59 - 2 * pre.length - 6 + 6) + 2 * pre.length + 1 := by omega
  rw [h60, hstart]
  generalize 59 - 2 * pre.length - 6 = M
  have c3 : ∀ c, 0 ≤ c ∧ c ≤ 20 → cellsP (((l.set (3 * n).toNat key).set (3 * n + 1).toNat v).set (3 * n + 2).toNat (2 * c)) := fun c h => cellsP_set (cellsP_set (cellsP_set hc _ _ (by omega)) _ _ (by omega)) _ _ (by omega)
  have stay : ∀ a ∈ pre ++ suf, a ∈ pre ++ suf ∨ a = n := fun a h => .inl h
  have more : ∀ a ∈ pre ++ n :: suf, a ∈ pre ++ suf ∨ a = n := fun a h => by
    rcases List.mem_append.1 h with h | h
    · exact .inl (List.mem_append_left _ h)
    · rcases List.mem_cons.1 h with h | h
      · exact .inr h
      · exact .inl (List.mem_append_right _ h)
  cases suf with
  | nil =>
    have hd := doM_none (A := ct l pre) (B := ct l []) (k := k) (key := key) (v := v) hA (by intro x hx; cases hx)
    rw [ct_app, hd]
    show ∃ s, runT (M + 5 + 1) (l, k, key, v, n, 1, lastN 0 pre, 0, y7, y8, false, 0) = s ∧ _
    by_cases hk2 : k = 2
    · rw [run_put0 l hc k key v n hk hy hv hn 0 _ _ y7 y8 hp q7 q8 hk2, run_4 _ (c3 0 (by omega)) k key v n hk hy hv hn 0 _ _ 0 y7 y8 hp (by omega) q7 q8 ((put3_word l key v n 0 _ hn hp hpn).trans (pth_head hp2)), if_pos hk2]
      obtain ⟨r1, r2⟩ := rep_put R key v n hy hv hn hnn hA (by intro x hx; cases hx)
      exact ⟨_, rfl, rfl, rfl, pre ++ n :: [], r1, more, r2⟩
    · rw [run_none l hc k key v n hk hy hv hn 0 _ _ y7 y8 hp q7 q8 hk2, if_neg hk2]
      exact ⟨_, rfl, rfl, rfl, pre ++ [], R, stay, ct_app ..⟩
  | cons b r =>
    have hb := R.range b (by simp)
    have hhr := head_range (suf := r) (fun a ha => R.range a (by simp [ha]))
    have hnlt := h2 b r rfl
    have hs := R.sorted
    unfold sortedS at hs
    rw [ct_app] at hs
    have hs2 := List.pairwise_cons.1 (List.pairwise_append.1 hs).2.1
    show ∃ s, runT (M + 4 + 1 + 1) (l, k, key, v, n, 1, lastN 0 pre, b, y7, y8, false, 0) = s ∧ _
    rw [run_look l hc k key v n hk hy hv hn 0 _ _ b (headN r 0) y7 y8 hp hb hhr q7 q8 (pth_head hp2.2), run_stop l hc k key v n hk hy hv hn 0 _ _ b (headN r 0) hp hb hhr hnlt]
    show ∃ s, runT (M + 3 + 1) (l, k, key, v, n, 3, lastN 0 pre, b, headN r 0, 0, false, 0) = s ∧ _
    rw [ct_app]
    by_cases he : rd l (3 * b) = key
    · have hB : ∀ x ∈ ct l r, key < x.f0 := fun x hx => by
        have h3 : rd l (3 * b) < x.f0 := hs2.1 x hx
        omega
      have hvb := cell_range l hc.1 hc.2 (3 * b + 1) (by omega) (by omega)
      have hd := doM_some (A := ct l pre) (B := ct l r) (k := k) (key := key) (v := v) (b := ⟨rd l (3 * b), rd l (3 * b + 1)⟩) hA hB he hvb
      rw [show ct l (b :: r) = ⟨rd l (3 * b), rd l (3 * b + 1)⟩ :: ct l r from rfl, hd]
      by_cases hk1 : k = 1
      · rw [run_find l hc k key v n hk hy hv hn 0 _ _ b (headN r 0) hp hb hhr he hk1, if_pos hk1]
        exact ⟨_, rfl, rfl, rfl, pre ++ b :: r, R, stay, ct_app ..⟩
      · rw [if_neg hk1]
        by_cases hk3 : k = 3
        · have hc2 : cellsP (l.set (cellW b).toNat (2 * headN r 0 + 1)) := cellsP_set hc _ _ (by omega)
          have hpb : lastN 0 pre ≠ b := by
            have hd := R.nodup
            rw [← List.cons_append] at hd
            exact (List.nodup_append.1 hd).2.2 _ hpm _ (List.mem_cons_self ..)
          have cp := cellW_range _ hp.1 hp.2
          have ca := cellW_range b (by omega) hb.2
          have hw2 : rd (l.set (cellW b).toNat (2 * headN r 0 + 1)) (cellW (lastN 0 pre)) = 2 * b := by
            rw [rd_set_ne _ _ _ _ ca.1 cp.1 (fun e => hpb (cellW_inj hp.1 (by omega) e))]; exact hp2.1
          rw [run_take l hc k key v n hk hy hv hn 0 _ _ b (headN r 0) hp hb hhr he hk3]
          show ∃ s, runT (M + 1 + 1 + 1) (l, k, key, v, n, 5, lastN 0 pre, b, headN r 0, 0, false, 0) = s ∧ _
          rw [run_5 l hc k key v n hk hy hv hn 0 _ _ b (headN r 0) hp hb hhr (pth_head hp2.2), run_6 _ hc2 k key v n hk hy hv hn 0 _ _ b (headN r 0) hp hb hhr hw2, if_pos hk3]
          obtain ⟨r1, r2⟩ := rep_take R
          exact ⟨_, rfl, rfl, rfl, pre ++ r, r1, fun a h => .inl (by rcases List.mem_append.1 h with h | h <;> simp [h]), r2⟩
        · rw [run_had l hc k key v n hk hy hv hn 0 _ _ b (headN r 0) hp hb hhr he (by omega), if_neg hk3]
          exact ⟨_, rfl, rfl, rfl, pre ++ b :: r, R, stay, ct_app ..⟩
    · have hB : ∀ x ∈ ct l (b :: r), key < x.f0 := fun x hx => by
        rcases List.mem_cons.1 hx with rfl | hx
        · show key < rd l (3 * b); omega
        · have := hs2.1 x hx
          have h3 : rd l (3 * b) < x.f0 := this
          omega
      have hd := doM_none (A := ct l pre) (B := ct l (b :: r)) (k := k) (key := key) (v := v) hA hB
      rw [hd]
      by_cases hk2 : k = 2
      · rw [run_putA l hc k key v n hk hy hv hn 0 _ _ b (headN r 0) hp hb hhr he hk2, run_4 _ (c3 b (by omega)) k key v n hk hy hv hn 0 _ _ b (headN r 0) 0 hp (by omega) hhr (by omega) ((put3_word l key v n b _ hn hp hpn).trans (pth_head hp2)), if_pos hk2]
        obtain ⟨r1, r2⟩ := rep_put R key v n hy hv hn hnn hA hB
        exact ⟨_, rfl, rfl, rfl, pre ++ n :: b :: r, r1, more, r2⟩
      · rw [run_no l hc k key v n hk hy hv hn 0 _ _ b (headN r 0) hp hb hhr he hk2, if_neg hk2]
        exact ⟨_, rfl, rfl, rfl, pre ++ b :: r, R, stay, ct_app ..⟩
/-- Drawn pairs: each key once, in order; the keys 1 to 6, the values 0 to 98. -/
def goodS (l : List S61) : Prop := sortedS l ∧ ∀ x ∈ l, (1 ≤ x.f0 ∧ x.f0 ≤ 6) ∧ 0 ≤ x.f1 ∧ x.f1 ≤ 98
theorem goodS_put {l : List S61} (h : goodS l) (key val : Int) (hk : 1 ≤ key ∧ key ≤ 6) (hv : 0 ≤ val ∧ val ≤ 98) : goodS (doM l 2 key val).1 := by
  unfold doM
  rw [if_neg (by omega), if_neg (by omega)]
  by_cases c : (l.filter (isK key)).length = 0
  · rw [if_pos ⟨rfl, c⟩]
    have hlt : ∀ x ∈ l.filter (ltK key), x.f0 < key := fun x hx => by have := (List.mem_filter.1 hx).2; unfold ltK at this; exact of_decide_eq_true this
    have hgt : ∀ x ∈ l.filter (gtK key), key < x.f0 := fun x hx => by have := (List.mem_filter.1 hx).2; unfold gtK at this; exact of_decide_eq_true this
    refine ⟨?_, fun x hx => ?_⟩
    · show sortedS (l.filter (ltK key) ++ [⟨key, val⟩] ++ l.filter (gtK key))
      rw [List.append_assoc]
      refine List.pairwise_append.2 ⟨h.1.sublist List.filter_sublist, List.pairwise_cons.2 ⟨fun x hx => hgt x hx, h.1.sublist List.filter_sublist⟩, fun x hx y hy => ?_⟩
      have h1 := hlt x hx
      rcases List.mem_cons.1 hy with rfl | hy
      · exact h1
      · have := hgt y hy; omega
    · rcases List.mem_append.1 hx with hx | hx
      · rcases List.mem_append.1 hx with hx | hx
        · exact h.2 x (List.mem_filter.1 hx).1
        · rw [List.mem_singleton.1 hx]; exact ⟨hk, hv⟩
      · exact h.2 x (List.mem_filter.1 hx).1
  · rw [if_neg fun z => c z.2]; exact h
theorem pairsS_l0 (l : List Int) (hl : l.length ≤ 140737488355328) (d : Nat) :
    ∀ (j : Nat) (acc : List S61) (i h : Int), j + d = 5 → acc.length ≤ j → goodS acc → 0 ≤ i →
      ∃ r i' h', Ev (fun k => spec_l07Pairs.l0 k acc (j : Int) l i h) (r, i', h') ∧ r.length ≤ 5 ∧ goodS r ∧ 0 ≤ i' := by
  induction d with
  | zero =>
    intro j acc i h hj ha hg hi
    obtain ⟨b, i1, h1, e, hi1, b0, b1, _⟩ := below_ok l i h 5 hi hl
    exact ⟨acc, i1, h1, Ev.step (fun _ => spec_l07Pairs.l0.eq_2 ..) (Ev.call e (Ev.neg (by have := b1 (by omega); omega) (Ev.now _))), by omega, hg, hi1⟩
  | succ d ih =>
    intro j acc i h hj ha hg hi
    obtain ⟨b, i1, h1, e, hi1, b0, b1, _⟩ := below_ok l i h 5 hi hl
    by_cases c : (j : Int) < b
    · obtain ⟨n, i2, h2, e2, hi2, n0, n1, _⟩ := below_ok l i1 h1 6 hi1 hl
      have n1 := n1 (by omega)
      obtain ⟨v, i3, h3, e3, hi3, v0, v1, _⟩ := below_ok l i2 h2 9 hi2 hl
      have v1 := v1 (by omega)
      have hlen := doM_len acc 2 (1 + n) v
      obtain ⟨r, i4, h4, er, q1, q2, q3⟩ := ih (j + 1) (doM acc 2 (1 + n) v).1 i3 h3 (by omega) (by omega) (goodS_put hg (1 + n) v (by omega) ⟨v0, by omega⟩) hi3
      refine ⟨r, i4, h4, Ev.step (fun _ => spec_l07Pairs.l0.eq_2 ..) (Ev.call e (Ev.pos c (Ev.call e2 (Ev.call e3 (Ev.call rfl ?_))))), q1, q2, q3⟩
      rw [w64 (n := 1 + n) (by omega) (by omega), w64_succ j (by omega)]
      exact Ev.bind (specDoTask_ev acc (by omega) 2 (1 + n) v 1 0 0 0 0 0 false 0) er
    · exact ⟨acc, i1, h1, Ev.step (fun _ => spec_l07Pairs.l0.eq_2 ..) (Ev.call e (Ev.neg c (Ev.now _))), by omega, hg, hi1⟩
theorem drawPairsS (l : List Int) (hl : l.length ≤ 140737488355328) : ∃ r, Ev (fun k => spec_DrawPairs.f k l) r ∧ r.length ≤ 5 ∧ goodS r := by
  obtain ⟨h, e⟩ := new_ok l hl
  obtain ⟨r, i', h', e2, q1, q2, _⟩ := pairsS_l0 l hl 5 0 [] 0 h (by omega) (by simp) ⟨List.Pairwise.nil, by simp⟩ (by omega)
  exact ⟨r, Ev.congr (fun _ => spec_DrawPairs.f.eq_1 ..) (Ev.bind e (Ev.bind (Ev.congr (fun _ => spec_l07Pairs.f.eq_1 ..) e2) (Ev.now _))), q1, q2⟩
theorem wordAt_cell (l : List Int) (a : Int) : wordAt l a = rd l (cellW a) := by unfold wordAt cellW; split <;> rfl
theorem nodesM_of {l : List Int} : ∀ (xs : List Int) (p : Int) (d : Nat), Pth l p xs 0 → (∀ a ∈ xs, 1 ≤ a ∧ a ≤ 20) → xs.length ≤ d → nodesM l d (headN xs 0) = xs
  | [], _, 0, _, _, _ => rfl
  | [], _, d + 1, _, _, _ => by show (if (0 : Int) = 0 then _ else _) = _; rw [if_pos rfl]
  | a :: r, _, 0, _, _, h => by simp at h
  | a :: r, p, d + 1, hp, hr, h => by
    have ha := hr a (List.mem_cons_self ..)
    have hh := head_range (suf := r) (fun z hz => hr z (List.mem_cons_of_mem _ hz))
    have hw : wordAt l a = 2 * headN r 0 := (wordAt_cell l a).trans (pth_head hp.2)
    show (if a = 0 then [] else if wordAt l a % 2 = 0 then a :: nodesM l d (nodeM (wordAt l a)) else nodesM l d (nodeM (wordAt l a))) = _
    rw [if_neg (by omega), hw, if_pos (by omega), nodeM_two _ hh.1 hh.2, nodesM_of r a d hp.2 (fun z hz => hr z (List.mem_cons_of_mem _ hz)) (by simp at h; omega)]
theorem nodes_rep {l ns : List Int} (R : Rep l ns) (hlen : ns.length ≤ 20) : nodesOfM l = ns := by
  have hh := head_range R.range
  have hw : rd l 0 = 2 * headN ns 0 := pth_head R.path
  unfold nodesOfM
  rw [if_pos R.cells.1, hw, nodeM_two _ hh.1 hh.2]
  exact nodesM_of ns 0 20 R.path R.range hlen
theorem valueM_at {l : List Int} (a : Int) : ∀ ns : List Int, sortedS (ct l ns) → a ∈ ns → valueM l (rd l (3 * a)) ns = wrap64 (rd l (3 * a + 1) + 1)
  | [], _, h => by cases h
  | z :: r, hs, h => by
    unfold valueM
    rcases List.mem_cons.1 h with rfl | h
    · rw [if_pos rfl]
    · have hs' := List.pairwise_cons.1 hs
      have : rd l (3 * z) < rd l (3 * a) := hs'.1 ⟨rd l (3 * a), rd l (3 * a + 1)⟩ (List.mem_map.2 ⟨a, h, rfl⟩)
      rw [if_neg (by omega), valueM_at a r hs'.2 h]
theorem valueM_no {l : List Int} (key : Int) : ∀ ns : List Int, (∀ x ∈ ct l ns, x.f0 ≠ key) → valueM l key ns = 0
  | [], _ => rfl
  | z :: r, h => by
    unfold valueM
    rw [if_neg (h ⟨rd l (3 * z), rd l (3 * z + 1)⟩ (List.mem_cons_self ..)), valueM_no key r (fun x hx => h x (List.mem_cons_of_mem _ hx))]
theorem doM_mem {l : List S61} {k key v : Int} {x : S61} (h : x ∈ (doM l k key v).1) : x ∈ l ∨ x = ⟨key, v⟩ := by
  unfold doM at h
  split at h
  · exact .inl h
  · split at h
    · exact .inl (List.mem_filter.1 h).1
    · split at h
      · rcases List.mem_append.1 h with h | h
        · rcases List.mem_append.1 h with h | h
          · exact .inl (List.mem_filter.1 h).1
          · exact .inr (List.mem_singleton.1 h)
        · exact .inl (List.mem_filter.1 h).1
      · exact .inl h
theorem stT_len (s : SS) : (stT s).1.length = s.1.length := stepTM_len ..
theorem runT_succ (d : Nat) (s : SS) (h : ¬ s.2.2.2.2.2.2.2.2.2.2.1 = true) : runT (d + 1) s = runT d (stT s) := by
  show (if s.2.2.2.2.2.2.2.2.2.2.1 = true then s else runT d (stT s)) = _
  rw [if_neg h]
theorem l1_run (x3 : List S61) (x4 : List Int) (x6 : Int) {r : Bool} (d : Nat) : ∀ (j : Nat) (s : SS), j + d = 60 → s.1.length ≤ 1048576 → (runT d s).2.2.2.2.2.2.2.2.2.2.1 = true → (runT d s).2.2.2.2.2.2.2.2.2.2.2 = 1 →
    Ev (fun k => laws_FnAlone.l0 k x3 x4 (runT d s).1 (wrap64 (x6 + 1))) r →
    Ev (fun k => laws_FnAlone.l1 k x3 x4 s.1 x6 (j : Int) s.2.1 s.2.2.1 s.2.2.2.1 s.2.2.2.2.1 s.2.2.2.2.2.1 s.2.2.2.2.2.2.1 s.2.2.2.2.2.2.2.1 s.2.2.2.2.2.2.2.2.1 s.2.2.2.2.2.2.2.2.2.1 s.2.2.2.2.2.2.2.2.2.2.1 s.2.2.2.2.2.2.2.2.2.2.2) r := by
  induction d with
  | zero =>
    intro j s hj _ hd ha e
    exact Ev.step (fun _ => laws_FnAlone.l1.eq_2 ..) (Ev.neg (by omega) (Ev.pos hd (Ev.pos ha e)))
  | succ d ih =>
    intro j s hj hl hd ha e
    refine Ev.step (fun _ => laws_FnAlone.l1.eq_2 ..) (Ev.pos (by omega) (Ev.ite (fun hdn => ?_) (fun hdn => ?_)))
    · rw [runT_done _ _ hdn] at ha e
      exact Ev.pos ha e
    · rw [runT_succ d s hdn] at hd ha e
      rw [w64_succ j (by omega)]
      exact Ev.bind (implStepTask_ev s.1 hl ..) (ih (j + 1) (stT s) (by omega) (by rw [stT_len]; exact hl) hd ha e)
theorem l2_run (want : List S61) (answer : Int) {r : Bool} (d : Nat) : ∀ (j : Nat) (s : SS), j + d = 60 → s.1.length ≤ 1048576 →
    Ev (fun k => laws_FnAlone.j3 k (runT d s).1 want answer (runT d s).2.1 (runT d s).2.2.1 (runT d s).2.2.2.1 (runT d s).2.2.2.2.1 (runT d s).2.2.2.2.2.1 (runT d s).2.2.2.2.2.2.1 (runT d s).2.2.2.2.2.2.2.1 (runT d s).2.2.2.2.2.2.2.2.1 (runT d s).2.2.2.2.2.2.2.2.2.1 (runT d s).2.2.2.2.2.2.2.2.2.2.1 (runT d s).2.2.2.2.2.2.2.2.2.2.2) r →
    Ev (fun k => laws_FnAlone.l2 k s.1 want answer (j : Int) s.2.1 s.2.2.1 s.2.2.2.1 s.2.2.2.2.1 s.2.2.2.2.2.1 s.2.2.2.2.2.2.1 s.2.2.2.2.2.2.2.1 s.2.2.2.2.2.2.2.2.1 s.2.2.2.2.2.2.2.2.2.1 s.2.2.2.2.2.2.2.2.2.2.1 s.2.2.2.2.2.2.2.2.2.2.2) r := by
  induction d with
  | zero =>
    intro j s hj _ e
    exact Ev.step (fun _ => laws_FnAlone.l2.eq_2 ..) (Ev.neg (by omega) e)
  | succ d ih =>
    intro j s hj hl e
    refine Ev.step (fun _ => laws_FnAlone.l2.eq_2 ..) (Ev.pos (by omega) (Ev.ite (fun hdn => ?_) (fun hdn => ?_)))
    · rw [runT_done _ _ hdn] at e
      exact e
    · rw [runT_succ d s hdn] at e
      rw [w64_succ j (by omega)]
      exact Ev.bind (implStepTask_ev s.1 hl ..) (ih (j + 1) (stT s) (by omega) (by rw [stT_len]; exact hl) e)
theorem l3_run {l ns : List Int} (R : Rep l ns) (hlen : ns.length ≤ 20) (h99 : ∀ x ∈ ct l ns, x.f0 ≠ 99) (answer s0 s1 s2 s3 s4 s5 s6 s7 s8 : Int) (d : Nat) :
    ∀ i : Nat, i + d = ns.length → Ev (fun k => laws_FnAlone.l3 k l (ct l ns) answer (ns.map fun n => rd l (3 * n)) (i : Int) s0 s1 s2 s3 s4 s5 s6 s7 s8 true answer) true := by
  have hL : (ct l ns).length = ns.length := List.length_map ..
  have hK : (ns.map fun n => rd l (3 * n)).length = ns.length := List.length_map ..
  induction d with
  | zero =>
    intro i hi
    refine Ev.step (fun _ => laws_FnAlone.l3.eq_2 ..) (Ev.neg (by omega) (Ev.pos rfl (Ev.pos rfl (Ev.pos (by omega) (Ev.bind (implValue_ev l 99) (Ev.some ?_))))))
    rw [nodes_rep R hlen, valueM_no 99 ns h99]; rfl
  | succ d ih =>
    intro i hi
    have hx : i < ns.length := by omega
    have e1 : rd (ns.map fun n => rd l (3 * n)) (i : Int) = rd l (3 * ns[i]) := by rw [rd_nat _ i (by omega), List.getElem_map]
    have e2 : rd_T61 (ct l ns) (i : Int) = ⟨rd l (3 * ns[i]), rd l (3 * ns[i] + 1)⟩ := by rw [rdP_nat _ i (by omega)]; exact List.getElem_map ..
    refine Ev.step (fun _ => laws_FnAlone.l3.eq_2 ..) (Ev.pos (by omega) (Ev.neg (by omega) (Ev.pos (by omega) (Ev.pos (by omega) (Ev.pos (by rw [e1, e2]) (Ev.bind (implValue_ev l _) (Ev.pos ?_ ?_)))))))
    · rw [nodes_rep R hlen, e1, e2, valueM_at _ ns R.sorted (List.getElem_mem _)]
    · rw [w64_succ i (by omega)]; exact ih (i + 1) (by omega)
theorem l0_run {ps : List S61} (hp : ps.length ≤ 5) (hg : goodS ps) {pl : List Int} (hpl : pl.length = 12) (hpr : ∀ x ∈ pl, 0 ≤ x ∧ x < 10000) (d : Nat) :
    ∀ (i : Nat) (l ns : List Int), i + d = ps.length → Rep l ns → ct l ns = ps.take i → (∀ a ∈ ns, 10 ≤ a ∧ a < 10 + (i : Int)) → Ev (fun k => laws_FnAlone.l0 k ps pl l (i : Int)) true := by
  induction d with
  | zero =>
    intro i l ns hi R hct hns
    have hnl : ns.length = i := by have := congrArg List.length hct; rw [List.length_take] at this; unfold ct at this; rw [List.length_map] at this; omega
    have g0 := hpr _ (rd_mem pl 0 (by omega) (by omega))
    have g1 := hpr _ (rd_mem pl 1 (by omega) (by omega))
    have g2 := hpr _ (rd_mem pl 2 (by omega) (by omega))
    have t0 := Int.tmod_eq_emod_of_nonneg (b := 3) g0.1
    have t1 := Int.tmod_eq_emod_of_nonneg (b := 7) g1.1
    have t2 := Int.tmod_eq_emod_of_nonneg (b := 50) g2.1
    have hct' : ct l ns = ps := by rw [hct, List.take_of_length_le (by omega)]
    refine Ev.step (fun _ => laws_FnAlone.l0.eq_2 ..) (Ev.neg (by omega) (Ev.pos (by omega) (Ev.pos (by omega) (Ev.pos (by omega) (Ev.call rfl ?_)))))
    rw [w64 (n := 1 + Int.tmod (rd pl 0) 3) (by omega) (by omega), w64 (n := 1 + Int.tmod (rd pl 1) 7) (by omega) (by omega)]
    generalize hK : 1 + Int.tmod (rd pl 0) 3 = K
    generalize hY : 1 + Int.tmod (rd pl 1) 7 = Y
    generalize hV : Int.tmod (rd pl 2) 50 = V
    refine Ev.bind (specDoTask_ev ps (by omega) ..) ?_
    obtain ⟨s, hs, sd, sa, ns', R', hm', hc'⟩ := alone R K Y V 1 (by omega) (by omega) (by omega) (by omega) (fun h => by have := hns 1 h; omega) (by omega)
    rw [hct'] at sa hc'
    have hlen := doM_len ps K Y V
    have hnl' : ns'.length = (doM ps K Y V).1.length := by rw [← hc']; unfold ct; rw [List.length_map]
    refine l2_run (doM ps K Y V).1 (doM ps K Y V).2 60 0 (l, K, Y, V, 1, 0, 0, 0, 0, 0, false, 0) (by omega) (by show l.length ≤ _; rw [R.cells.1]; omega) ?_
    rw [hs, sd, sa]
    refine Ev.step (fun _ => laws_FnAlone.j3.eq_2 ..) (Ev.bind (implKeys_ev s.1) ?_)
    unfold keysM
    rw [nodes_rep R' (by omega), ← hc']
    refine l3_run R' (by omega) ?_ _ _ _ _ _ _ _ _ _ _ ns'.length 0 (by omega)
    intro x hx
    rw [hc'] at hx
    rcases doM_mem hx with h | rfl
    · have := (hg.2 x h).1; omega
    · show Y ≠ 99; omega
  | succ d ih =>
    intro i l ns hi R hct hns
    have hx : i < ps.length := by omega
    have hnl : ns.length = i := by have := congrArg List.length hct; rw [List.length_take] at this; unfold ct at this; rw [List.length_map] at this; omega
    have hpi := hg.2 ps[i] (List.getElem_mem _)
    obtain ⟨s, hs, sd, sa, ns', R', hm', hc'⟩ := alone R 2 ps[i].f0 ps[i].f1 (10 + (i : Int)) (by omega) (by omega) (by omega) (by omega) (fun h => by have := hns _ h; omega) (by omega)
    have hA : ∀ x ∈ ps.take i, x.f0 < ps[i].f0 := fun x hx' => by
      obtain ⟨j, hj, rfl⟩ := List.mem_iff_getElem.1 hx'
      rw [List.length_take] at hj
      rw [List.getElem_take]
      exact List.pairwise_iff_getElem.1 hg.1 j i (by omega) hx (by omega)
    have hd := doM_none (A := ps.take i) (B := []) (k := 2) (key := ps[i].f0) (v := ps[i].f1) hA (by intro x hx; cases hx)
    rw [List.append_nil, if_pos rfl, List.append_nil] at hd
    rw [hct, hd] at sa hc'
    refine Ev.step (fun _ => laws_FnAlone.l0.eq_2 ..) (Ev.pos (by omega) (Ev.pos (by omega) ?_))
    rw [rdP_nat ps i hx, w64 (n := 10 + (i : Int)) (by omega) (by omega)]
    refine Ev.call rfl ?_
    refine l1_run ps pl (i : Int) 60 0 (l, 2, ps[i].f0, ps[i].f1, 10 + (i : Int), 0, 0, 0, 0, 0, false, 0) (by omega) (by show l.length ≤ _; rw [R.cells.1]; omega) (by rw [hs]; exact sd) (by rw [hs]; exact sa) ?_
    rw [hs, w64_succ i (by omega)]
    refine ih (i + 1) s.1 ns' (by omega) R' ?_ (fun a ha => ?_)
    · rw [hc']
      exact List.take_append_getElem hx
    · rcases hm' a ha with h | h
      · have := hns a h; omega
      · omega
theorem FnAlone : laws_FnAlone.Pure := by
  intro l hl hm hw
  apply Ev.rounds
  refine Ev.congr (fun _ => laws_FnAlone.f.eq_1 ..) (Ev.call (big_eq l) (Ev.ite (fun _ => Ev.now _) (fun hb => ?_)))
  obtain ⟨ps, e1, hp, hg⟩ := drawPairsS l (by unfold maxLen at *; omega)
  obtain ⟨pl, e2, hpl, hpr⟩ := places_ok l (by unfold maxLen at *; omega)
  refine Ev.bind e1 (Ev.bind e2 (Ev.call (a := List.replicate 63 0) (by unfold impl_ListNew.f; rw [if_pos (by omega)]) ?_))
  have R : Rep (List.replicate 63 0) [] := ⟨⟨by simp, fun x hx => by rw [(List.mem_replicate.1 hx).2]; omega⟩, by show rd (List.replicate 63 0) 0 = 2 * 0; rfl, by simp, by simp, List.Pairwise.nil⟩
  exact l0_run hp hg hpl hpr ps.length 0 _ [] (by omega) R rfl (by simp)

end Go.Proofs.Ytjmggbhgmenmcaa.Pure
