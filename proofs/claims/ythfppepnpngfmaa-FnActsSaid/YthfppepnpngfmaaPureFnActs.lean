/- FnActs returns true for all arguments: drawn acts, done one by one, leave what they leave all at once; what is moved is wholly kept; what is added stands behind. No conditions beyond the statement's own. -/
import Derived.Test.YthfppepnpngfmaaQacx10
import Derived.Test.YthfppepnpngfmaaVBase
namespace Go.Proofs.Ythfppepnpngfmaa.Pure
open Go.RowKit Go.Proofs.Ythfppepnpngfmaa.Qac Go.Proofs.YthfppepnpngfmaaW.PrintWords Go.Proofs.YthfppepnpngfmaaW.PrintLast Go.Proofs.YthfppepnpngfmaaW.PrintMore Go.Proofs.Ythfppepnpngfmaa.Base

theorem byte_ok (l : List Int) (i h : Int) (hi : 0 ≤ i) (hl : l.length ≤ 140737488355328) :
    ∃ r i' h', spec_l01Byte.f l i h = some (r, i', h') ∧ 0 ≤ r ∧ r ≤ 255 ∧ 0 ≤ i' := by
  unfold spec_l01Byte.f
  by_cases c : i < (l.length : Int)
  · rw [if_pos c, if_pos hi]
    exact ⟨_, _, _, rfl, (and255 _).1, (and255 _).2, by rw [w64 (by omega) (by omega)]; omega⟩
  · rw [if_neg c]
    exact ⟨_, _, _, rfl, (and255 _).1, (and255 _).2, hi⟩
theorem q5 (l : List Int) (i h n : Int) (hi : 0 ≤ i) (hl : l.length ≤ 140737488355328) :
    ∃ r i' h', spec_l01Below.f l i h n = some (r, i', h') ∧ 0 ≤ i' ∧ 0 ≤ r ∧ (0 < n → r < n) ∧ (n ≤ 0 → r = 0) := by
  unfold spec_l01Below.f
  by_cases c : n ≤ 0
  · rw [if_pos c]; exact ⟨_, _, _, rfl, hi, by omega, by omega, fun _ => rfl⟩
  · rw [if_neg c]
    by_cases c2 : n ≤ 256
    · rw [if_pos c2]
      obtain ⟨r, i1, h1, e, r0, r1, hi1⟩ := byte_ok l i h hi hl
      rw [e, Option.bind_some, if_neg (by omega)]
      have := tmod_in r n r0 (by omega)
      exact ⟨_, _, _, rfl, hi1, this.1, fun _ => this.2, by omega⟩
    · rw [if_neg c2]
      obtain ⟨x, i1, h1, e1, x0, x1, hi1⟩ := byte_ok l i h hi hl
      obtain ⟨y, i2, h2, e2, y0, y1, hi2⟩ := byte_ok l i1 h1 hi1 hl
      obtain ⟨z, i3, h3, e3, z0, z1, hi3⟩ := byte_ok l i2 h2 hi2 hl
      obtain ⟨w, i4, h4, e4, w0, w1, hi4⟩ := byte_ok l i3 h3 hi3 hl
      rw [e1, Option.bind_some, e2, Option.bind_some, e3, Option.bind_some, e4, Option.bind_some, if_neg (by omega)]
      have q1 : wrap64 (x * 16777216) = x * 16777216 := w64 (by omega) (by omega)
      have q2 : wrap64 (y * 65536) = y * 65536 := w64 (by omega) (by omega)
      have q3 : wrap64 (z * 256) = z * 256 := w64 (by omega) (by omega)
      simp only [q1, q2, q3]
      rw [w64 (n := x * 16777216 + y * 65536) (by omega) (by omega), w64 (n := x * 16777216 + y * 65536 + z * 256) (by omega) (by omega), w64 (n := x * 16777216 + y * 65536 + z * 256 + w) (by omega) (by omega)]
      have := tmod_in (x * 16777216 + y * 65536 + z * 256 + w) n (by omega) (by omega)
      exact ⟨_, _, _, rfl, hi4, this.1, fun _ => this.2, by omega⟩
instance decS45 : DecidableEq S45 := fun a b => decidable_of_iff (a.f0 = b.f0 ∧ a.f1 = b.f1 ∧ a.f2 = b.f2) (by cases a; cases b; simp)
theorem rdF_nat (xs : List S45) (i : Nat) (h : i < xs.length) : rd_T45 xs (i : Int) = xs[i] := by
  unfold rd_T45
  rw [Int.toNat_natCast, List.getD_eq_getElem?_getD, List.getElem?_eq_getElem h]; rfl
theorem new_l0 (l : List Int) (d : Nat) :
    ∀ (j : Nat) (x : Int), j + d = l.length → ∃ h, Ev (fun k => spec_l01New.l0 k l x (j : Int)) (l, 0, h) := by
  induction d with
  | zero => intro j x hj; exact ⟨x, Ev.step (fun _ => spec_l01New.l0.eq_2 ..) (Ev.neg (by omega) (Ev.now _))⟩
  | succ d ih =>
    intro j x hj
    by_cases c : (j : Int) < 4000
    · obtain ⟨h, e⟩ := ih (j + 1) (Go.bits .and .i64 (wrap64 ((wrap64 ((wrap64 (x * 131)) + (wrap64 (rd l j)))) + 7)) 1073741823) (by omega)
      refine ⟨h, Ev.step (fun _ => spec_l01New.l0.eq_2 ..) (Ev.pos (by omega) (Ev.pos c (Ev.pos (by omega) ?_)))⟩
      rw [w64_succ j (by omega)]
      exact e
    · exact ⟨x, Ev.step (fun _ => spec_l01New.l0.eq_2 ..) (Ev.pos (by omega) (Ev.neg c (Ev.now _)))⟩
theorem new_ok (l : List Int) (_hl : l.length ≤ 140737488355328) : ∃ h, Ev (fun k => spec_l01New.f k l) (l, 0, h) := by
  obtain ⟨h, e⟩ := new_l0 l l.length 0 (wrap64 (34901 + (l.length : Int))) (by omega)
  exact ⟨h, Ev.congr (fun _ => spec_l01New.f.eq_1 ..) e⟩
theorem big_eq (l : List Int) : laws_big.f l = some (decide ((l.length : Int) > 1048576)) := rfl
theorem text_l0 (l : List Int) (hl : l.length ≤ 140737488355328) (n : Nat) (hn : n ≤ 5000) (d : Nat) :
    ∀ (j : Nat) (acc : List Int) (i h : Int), j + d = n → acc.length = j → 0 ≤ i →
      ∃ r i' h', Ev (fun k => spec_l01Text.l0 k (n : Int) acc (j : Int) l i h) (r, i', h') ∧ 0 ≤ i' ∧ r.size = n := by
  induction d with
  | zero =>
    intro j acc i h hj hc hi
    exact ⟨_, _, _, Ev.step (fun _ => spec_l01Text.l0.eq_2 ..) (Ev.neg (by omega) (Ev.now _)), hi, by rw [strOfNums_size]; omega⟩
  | succ d ih =>
    intro j acc i h hj hc hi
    obtain ⟨b, i1, h1, e, _, _, hi1⟩ := byte_ok l i h hi hl
    obtain ⟨r, i2, h2, er, hi2, hr⟩ := ih (j + 1) (acc ++ [b % 256]) i1 h1 (by omega) (by simp; omega) hi1
    refine ⟨r, i2, h2, Ev.step (fun _ => spec_l01Text.l0.eq_2 ..) (Ev.pos (by omega) (Ev.call e (Ev.pos (by omega) ?_))), hi2, hr⟩
    rw [w64_succ j (by omega)]
    exact er
theorem text_ok (l : List Int) (hl : l.length ≤ 140737488355328) (i h n : Int) (hi : 0 ≤ i) (hn : 0 ≤ n ∧ n ≤ 5000) :
    ∃ r i' h', Ev (fun k => spec_l01Text.f k l i h n) (r, i', h') ∧ 0 ≤ i' ∧ (r.size : Int) = n := by
  obtain ⟨m, rfl⟩ := Int.eq_ofNat_of_zero_le hn.1
  obtain ⟨r, i', h', e, a, b⟩ := text_l0 l hl m (by omega) m 0 [] i h (by omega) rfl hi
  exact ⟨r, i', h', Ev.congr (fun _ => spec_l01Text.f.eq_1 ..) (Ev.neg (by omega) (Ev.step (fun _ => spec_l01Text.j0.eq_2 ..) e)), a, by omega⟩
theorem pickInt_ok (l : List Int) (i h : Int) (xs : List Int) (hx : 0 < xs.length) (hi : 0 ≤ i) (hl : l.length ≤ 140737488355328) :
    ∃ r i' h', spec_l01PickInt.f l i h xs = some (r, i', h') ∧ 0 ≤ i' ∧ r ∈ xs := by
  unfold spec_l01PickInt.f
  obtain ⟨r, i1, h1, e, hi1, r0, r1, _⟩ := q5 l i h (xs.length : Int) hi hl
  rw [e, Option.bind_some, if_pos r0, if_pos (r1 (by omega))]
  exact ⟨_, _, _, rfl, hi1, rd_mem xs r r0 (r1 (by omega))⟩
theorem l01In_eq (n lo hi : Int) : spec_l01In.f n lo hi = some (decide (lo ≤ n ∧ n ≤ hi)) := by
  unfold spec_l01In.f
  by_cases h : n ≥ lo
  · rw [if_pos h]; congr 1; rw [decide_eq_decide]; exact ⟨fun h2 => ⟨h, h2⟩, fun h2 => h2.2⟩
  · rw [if_neg h]; congr 1; symm; rw [decide_eq_false_iff_not]; exact fun h2 => h h2.1
theorem within_eq (n lo hi : Int) : impl_within.f n lo hi = some (decide (lo ≤ n ∧ n ≤ hi)) := by
  unfold impl_within.f
  by_cases h : n ≥ lo
  · rw [if_pos h]; congr 1; rw [decide_eq_decide]; exact ⟨fun h2 => ⟨h, h2⟩, fun h2 => h2.2⟩
  · rw [if_neg h]; congr 1; symm; rw [decide_eq_false_iff_not]; exact fun h2 => h h2.1
def okAt (fs : List S45) (i : Nat) : Prop := (1 ≤ ((rd_T45 fs (i : Int)).f0.size : Int) ∧ ((rd_T45 fs (i : Int)).f0.size : Int) ≤ 8) ∧ ¬ ((rd_T45 fs (i : Int)).f1.size : Int) > 20000 ∧ (0 ≤ (rd_T45 fs (i : Int)).f2 ∧ (rd_T45 fs (i : Int)).f2 ≤ ((rd_T45 fs (i : Int)).f1.size : Int)) ∧
  (0 < i → Op.bytesLess (rd_T45 fs ((i : Int) - 1)).f0.toList (rd_T45 fs (i : Int)).f0.toList = true)
instance (fs : List S45) (i : Nat) : Decidable (okAt fs i) := by unfold okAt; exact inferInstance
def q13 (fs : List S45) : Nat → Nat → Bool
  | 0, _ => true
  | d + 1, i => decide (okAt fs i) && q13 fs d (i + 1)
theorem allFrom_iff (fs : List S45) (d : Nat) : ∀ i, q13 fs d i = true ↔ ∀ j, j < d → okAt fs (i + j) := by
  induction d with
  | zero => intro i; simp [q13]
  | succ d ih =>
    intro i
    unfold q13
    rw [Bool.and_eq_true, decide_eq_true_iff, ih]
    constructor
    · rintro ⟨h1, h2⟩ j hj
      cases j with
      | zero => exact h1
      | succ j => have := h2 j (by omega); rwa [show i + 1 + j = i + (j + 1) from by omega] at this
    · intro h
      refine ⟨h 0 (by omega), fun j hj => ?_⟩
      have := h (j + 1) (by omega)
      rwa [show i + (j + 1) = i + 1 + j from by omega] at this
def q7 (fs : List S45) : Bool := q13 fs fs.length 0 && decide (fs.length ≤ 30)
theorem implDiskOk_l0 (fs : List S45) (hn : fs.length ≤ 140737488355328) (d : Nat) :
    ∀ i : Nat, i + d = fs.length → Ev (fun k => impl_DiskOk.l0 k fs (fs.length : Int) (i : Int) fs) (q13 fs d i && decide (fs.length ≤ 30)) := by
  induction d with
  | zero =>
    intro i hi
    refine Ev.step (fun _ => impl_DiskOk.l0.eq_2 ..) (Ev.neg (by omega) (Ev.some ?_))
    unfold q13
    rw [Bool.true_and, decide_eq_decide]; omega
  | succ d ih =>
    intro i hi
    unfold q13
    have no : ¬ okAt fs i → ∀ b c : Bool, ((decide (okAt fs i) && b) && c) = false := fun h b c => by rw [decide_eq_false h]; rfl
    refine Ev.step (fun _ => impl_DiskOk.l0.eq_2 ..) (Ev.pos (by omega) (Ev.pos (by omega) (Ev.pos (by omega) (Ev.call (within_eq ..) ?_))))
    by_cases h1 : 1 ≤ ((rd_T45 fs (i : Int)).f0.size : Int) ∧ ((rd_T45 fs (i : Int)).f0.size : Int) ≤ 8
    · refine Ev.pos (by rw [decide_eq_true h1]) (Ev.ite (fun h2 => ?_) (fun h2 => ?_))
      · exact Ev.some (no (fun z => z.2.1 h2) _ _).symm
      · refine Ev.call (within_eq ..) ?_
        by_cases h3 : 0 ≤ (rd_T45 fs (i : Int)).f2 ∧ (rd_T45 fs (i : Int)).f2 ≤ ((rd_T45 fs (i : Int)).f1.size : Int)
        · refine Ev.pos (by rw [decide_eq_true h3]) ?_
          rw [w64_succ i (by omega)]
          by_cases hi0 : 0 < i
          · rw [w64 (n := (i : Int) - 1) (by omega) (by omega)]
            refine Ev.pos (by omega) (Ev.pos (by omega) (Ev.pos (by omega) (Ev.ite (fun h4 => ?_) (fun h4 => ?_))))
            · rw [show decide (okAt fs i) = true from decide_eq_true ⟨h1, h2, h3, fun _ => h4⟩, Bool.true_and]
              exact ih (i + 1) (by omega)
            · exact Ev.some (no (fun z => h4 (z.2.2.2 hi0)) _ _).symm
          · refine Ev.neg (by omega) ?_
            rw [show decide (okAt fs i) = true from decide_eq_true ⟨h1, h2, h3, fun z => absurd z hi0⟩, Bool.true_and]
            exact ih (i + 1) (by omega)
        · exact Ev.neg (by rw [decide_eq_false h3]; simp) (Ev.some (no (fun z => h3 z.2.2.1) _ _).symm)
    · exact Ev.neg (by rw [decide_eq_false h1]; simp) (Ev.some (no (fun z => h1 z.1) _ _).symm)
theorem q17 (fs : List S45) (hn : fs.length ≤ 140737488355328) : Ev (fun k => impl_DiskOk.f k fs) (q7 fs) :=
  Ev.congr (fun _ => impl_DiskOk.f.eq_1 ..) (implDiskOk_l0 fs hn fs.length 0 (by omega))
theorem specName_eq (s : ByteArray) : spec_l03Name.f s = some (decide (1 ≤ (s.size : Int) ∧ (s.size : Int) ≤ 8)) := by
  unfold spec_l03Name.f; rw [l01In_eq, Option.bind_some]
theorem specDiskOk_l0 (fs : List S45) (hn : fs.length ≤ 140737488355328) (d : Nat) :
    ∀ i : Nat, i + d = fs.length → Ev (fun k => spec_DiskOk.l0 k (i : Int) fs) (q13 fs d i) := by
  induction d with
  | zero =>
    intro i hi
    exact Ev.step (fun _ => spec_DiskOk.l0.eq_2 ..) (Ev.neg (by omega) (Ev.some rfl))
  | succ d ih =>
    intro i hi
    unfold q13
    have no : ¬ okAt fs i → ∀ b : Bool, (decide (okAt fs i) && b) = false := fun h b => by rw [decide_eq_false h]; rfl
    refine Ev.step (fun _ => spec_DiskOk.l0.eq_2 ..) (Ev.pos (by omega) (Ev.pos (by omega) (Ev.call (specName_eq _) ?_)))
    by_cases h1 : 1 ≤ ((rd_T45 fs (i : Int)).f0.size : Int) ∧ ((rd_T45 fs (i : Int)).f0.size : Int) ≤ 8
    · refine Ev.pos (by rw [decide_eq_true h1]) (Ev.ite (fun h2 => ?_) (fun h2 => ?_))
      · exact Ev.some (no (fun z => z.2.1 h2) _).symm
      · refine Ev.call (l01In_eq ..) ?_
        by_cases h3 : 0 ≤ (rd_T45 fs (i : Int)).f2 ∧ (rd_T45 fs (i : Int)).f2 ≤ ((rd_T45 fs (i : Int)).f1.size : Int)
        · refine Ev.pos (by rw [decide_eq_true h3]) ?_
          rw [w64_succ i (by omega)]
          by_cases hi0 : 0 < i
          · rw [w64 (n := (i : Int) - 1) (by omega) (by omega)]
            refine Ev.pos (by omega) (Ev.pos (by omega) (Ev.pos (by omega) (Ev.ite (fun h4 => ?_) (fun h4 => ?_))))
            · rw [show decide (okAt fs i) = true from decide_eq_true ⟨h1, h2, h3, fun _ => h4⟩, Bool.true_and]
              exact ih (i + 1) (by omega)
            · exact Ev.some (no (fun z => h4 (z.2.2.2 hi0)) _).symm
          · refine Ev.neg (by omega) ?_
            rw [show decide (okAt fs i) = true from decide_eq_true ⟨h1, h2, h3, fun z => absurd z hi0⟩, Bool.true_and]
            exact ih (i + 1) (by omega)
        · exact Ev.neg (by rw [decide_eq_false h3]; simp) (Ev.some (no (fun z => h3 z.2.2.1) _).symm)
    · exact Ev.neg (by rw [decide_eq_false h1]; simp) (Ev.some (no (fun z => h1 z.1) _).symm)
theorem q14 (fs : List S45) (hn : fs.length ≤ 140737488355328) : Ev (fun k => spec_DiskOk.f k fs) (q7 fs) := by
  refine Ev.congr (fun _ => spec_DiskOk.f.eq_1 ..) (Ev.ite (fun h => ?_) (fun h => ?_))
  · unfold q7; rw [decide_eq_false (by omega : ¬ fs.length ≤ 30), Bool.and_false]; exact Ev.now _
  · unfold q7; rw [decide_eq_true (by omega : fs.length ≤ 30), Bool.and_true]; exact specDiskOk_l0 fs hn fs.length 0 (by omega)
theorem bl_trans : ∀ x y z : List UInt8, Op.bytesLess x y = true → Op.bytesLess y z = true → Op.bytesLess x z = true
  | _, _, [], _, h => by unfold Op.bytesLess at h; simp at h
  | _, [], _ :: _, h, _ => by unfold Op.bytesLess at h; simp at h
  | [], _ :: _, _ :: _, _, _ => rfl
  | a :: x, b :: y, c :: z, h1, h2 => by
    unfold Op.bytesLess at h1 h2 ⊢
    simp only [Bool.or_eq_true, Bool.and_eq_true, decide_eq_true_iff, beq_iff_eq] at h1 h2 ⊢
    rcases h1 with h1 | ⟨rfl, h1⟩
    · rcases h2 with h2 | ⟨rfl, h2⟩
      · exact .inl (UInt8.lt_trans h1 h2)
      · exact .inl h1
    · rcases h2 with h2 | ⟨rfl, h2⟩
      · exact .inl h2
      · exact .inr ⟨rfl, bl_trans x y z h1 h2⟩
theorem q8 : ∀ x : List UInt8, Op.bytesLess x x = false
  | [] => rfl
  | a :: x => by
    unfold Op.bytesLess
    rw [q8 x]; simp
def sortedF (l : List S45) : Prop := l.Pairwise (fun a b => Op.bytesLess a.f0.toList b.f0.toList = true)
def goodF (f : S45) : Prop := (1 ≤ f.f0.size ∧ f.f0.size ≤ 8) ∧ f.f1.size ≤ 30 ∧ 0 ≤ f.f2 ∧ f.f2 ≤ (f.f1.size : Int)
def ltF (n : ByteArray) (x : S45) : Bool := Op.bytesLess x.f0.toList n.toList
def gtF (n : ByteArray) (x : S45) : Bool := Op.bytesLess n.toList x.f0.toList
theorem filters_len (n : ByteArray) (l : List S45) : (l.filter (ltF n)).length + (l.filter (gtF n)).length ≤ l.length := by
  induction l with
  | nil => simp
  | cons x l ih =>
    have hx : ¬ (ltF n x = true ∧ gtF n x = true) := fun h => by
      have := bl_trans _ _ _ h.1 h.2
      rw [q8] at this; simp at this
    by_cases c1 : ltF n x = true <;> by_cases c2 : gtF n x = true
    · exact absurd ⟨c1, c2⟩ hx
    all_goals simp only [List.filter_cons, c1, c2, if_true, List.length_cons]; simp at *; omega
def putF (l : List S45) (f : S45) : List S45 := (l.filter (ltF f.f0) ++ [f]) ++ l.filter (gtF f.f0)
theorem q16 (l : List S45) (f : S45) : (putF l f).length ≤ l.length + 1 := by
  have := filters_len f.f0 l
  unfold putF
  rw [List.length_append, List.length_append, List.length_singleton]; omega
theorem put_l1 (l : List S45) (f : S45) (hn : l.length ≤ 100) (d : Nat) :
    ∀ (i : Nat) (acc : List S45), i + d = l.length → acc.length ≤ 1000 + i → Ev (fun k => spec_l03Put.l1 k (i : Int) l f.f0 f.f1 f.f2 acc) (acc ++ (l.drop i).filter (gtF f.f0)) := by
  induction d with
  | zero =>
    intro i acc hi _
    refine Ev.step (fun _ => spec_l03Put.l1.eq_2 ..) (Ev.neg (by omega) (Ev.some ?_))
    rw [List.drop_eq_nil_of_le (by omega)]; simp
  | succ d ih =>
    intro i acc hi ha
    refine Ev.step (fun _ => spec_l03Put.l1.eq_2 ..) (Ev.pos (by omega) (Ev.pos (by omega) ?_))
    rw [List.drop_eq_getElem_cons (show i < l.length by omega), w64_succ i (by omega), rdF_nat l i (by omega)]
    refine Ev.ite (fun c => ?_) (fun c => ?_)
    · refine Ev.pos (by omega) (Ev.eq (ih (i + 1) _ (by omega) (by simp; omega)) ?_)
      rw [List.filter_cons_of_pos (by exact c), List.append_assoc]; rfl
    · refine Ev.eq (ih (i + 1) _ (by omega) (by omega)) ?_
      rw [List.filter_cons_of_neg (by exact c)]
theorem put_l0 (l : List S45) (f : S45) (hn : l.length ≤ 100) (d : Nat) :
    ∀ (i : Nat) (acc : List S45), i + d = l.length → acc.length ≤ i → Ev (fun k => spec_l03Put.l0 k (i : Int) l f.f0 f.f1 f.f2 acc) (((acc ++ (l.drop i).filter (ltF f.f0)) ++ [f]) ++ l.filter (gtF f.f0)) := by
  induction d with
  | zero =>
    intro i acc hi ha
    refine Ev.step (fun _ => spec_l03Put.l0.eq_2 ..) (Ev.neg (by omega) (Ev.pos (by omega) ?_))
    rw [List.drop_eq_nil_of_le (by omega)]
    have := put_l1 l f hn l.length 0 (acc ++ [f]) (by omega) (by simp; omega)
    simpa using this
  | succ d ih =>
    intro i acc hi ha
    refine Ev.step (fun _ => spec_l03Put.l0.eq_2 ..) (Ev.pos (by omega) (Ev.pos (by omega) ?_))
    rw [List.drop_eq_getElem_cons (show i < l.length by omega), w64_succ i (by omega), rdF_nat l i (by omega)]
    refine Ev.ite (fun c => ?_) (fun c => ?_)
    · refine Ev.pos (by omega) (Ev.eq (ih (i + 1) _ (by omega) (by simp; omega)) ?_)
      rw [List.filter_cons_of_pos (by exact c)]; simp
    · refine Ev.eq (ih (i + 1) _ (by omega) (by omega)) ?_
      rw [List.filter_cons_of_neg (by exact c)]
theorem put_ev (l : List S45) (f : S45) (hn : l.length ≤ 100) : Ev (fun k => spec_l03Put.f k l f.f0 f.f1 f.f2) (putF l f) := by
  have := put_l0 l f hn l.length 0 [] (by omega) (by simp)
  exact Ev.congr (fun _ => spec_l03Put.f.eq_1 ..) (by simpa [putF] using this)
theorem named_ok (l : List Int) (i h : Int) (hi : 0 ≤ i) (hl : l.length ≤ 140737488355328) :
    ∃ r i' h', spec_l03Named.f l i h = some (r, i', h') ∧ 0 ≤ i' ∧ 1 ≤ r.size ∧ r.size ≤ 8 := by
  unfold spec_l03Named.f spec_l01Pick.f
  obtain ⟨b, i1, h1, e, hi1, b0, b1, _⟩ := q5 l i h 8 hi hl
  have b1 := b1 (by omega)
  rw [show (([(⟨#[97]⟩ : ByteArray), (⟨#[98]⟩ : ByteArray), (⟨#[99]⟩ : ByteArray), (⟨#[106, 48]⟩ : ByteArray), (⟨#[106, 49]⟩ : ByteArray), (⟨#[106, 43]⟩ : ByteArray), (⟨#[115, 48]⟩ : ByteArray), (⟨#[115, 43]⟩ : ByteArray)] : List ByteArray).length : Int) = 8 from rfl, e]
  simp only [Option.bind_some]
  rw [if_pos b0, if_pos b1]
  refine ⟨_, _, _, rfl, hi1, ?_⟩
  dsimp only
  have : b = 0 ∨ b = 1 ∨ b = 2 ∨ b = 3 ∨ b = 4 ∨ b = 5 ∨ b = 6 ∨ b = 7 := by omega
  rcases this with rfl | rfl | rfl | rfl | rfl | rfl | rfl | rfl <;> exact ⟨by decide, by decide⟩
theorem ix_spec (s : ByteArray) (l : List S45) : ∀ i : Int, (impl_placeOf.ix s l i = -1 ∧ ∀ x ∈ l, x.f0 ≠ s) ∨ ∃ j : Nat, ∃ h : j < l.length, impl_placeOf.ix s l i = i + (j : Int) ∧ (l[j]).f0 = s := by
  induction l with
  | nil => intro i; exact .inl ⟨rfl, by simp⟩
  | cons x r ih =>
    intro i
    by_cases h : x.f0 = s
    · refine .inr ⟨0, by simp, ?_, h⟩
      rw [impl_placeOf.ix, if_pos (by rw [h]; simp)]; simp
    · have e : impl_placeOf.ix s (x :: r) i = impl_placeOf.ix s r (i + 1) := by
        rw [impl_placeOf.ix, if_neg (fun z => h (toList_eq.1 (by simpa using z)))]
      rcases ih (i + 1) with ⟨h1, h2⟩ | ⟨j, hj, h1, h2⟩
      · refine .inl ⟨by rw [e, h1], fun y hy => ?_⟩
        rcases List.mem_cons.1 hy with rfl | hy
        · exact h
        · exact h2 y hy
      · exact .inr ⟨j + 1, by simpa using hj, by rw [e, h1]; omega, by simpa using h2⟩
theorem specAt_l0 (fs : List S45) (s : ByteArray) (hn : fs.length ≤ 140737488355328) (d : Nat) :
    ∀ i : Nat, i + d = fs.length → Ev (fun k => spec_l03At.l0 k s (i : Int) fs) (impl_placeOf.ix s (fs.drop i) (i : Int)) := by
  induction d with
  | zero =>
    intro i hi
    refine Ev.step (fun _ => spec_l03At.l0.eq_2 ..) (Ev.neg (by omega) (Ev.some ?_))
    rw [List.drop_eq_nil_of_le (by omega), impl_placeOf.ix]
  | succ d ih =>
    intro i hi
    rw [impl_placeOf.drop_rd fs i (by omega), impl_placeOf.ix]
    refine Ev.step (fun _ => spec_l03At.l0.eq_2 ..) (Ev.pos (by omega) (Ev.pos (by omega) (Ev.ite (fun h => ?_) (fun h => ?_))))
    · exact Ev.some (by rw [if_pos (by rw [h]; simp)])
    · rw [if_neg (fun z => h (by simpa using z)), w64_succ i (by omega)]
      exact ih (i + 1) (by omega)
theorem specAt_ev (fs : List S45) (s : ByteArray) (hn : fs.length ≤ 140737488355328) : Ev (fun k => spec_l03At.f k fs s) (impl_placeOf.ix s fs 0) :=
  Ev.congr (fun _ => spec_l03At.f.eq_1 ..) (specAt_l0 fs s hn fs.length 0 (by omega))
def q9 (fs : List S45) (s : ByteArray) : ByteArray × Bool := if impl_placeOf.ix s fs 0 < 0 then (⟨#[]⟩, false) else ((rd_T45 fs (impl_placeOf.ix s fs 0)).f1, true)
theorem ix_lt (fs : List S45) (s : ByteArray) : impl_placeOf.ix s fs 0 < (fs.length : Int) := by
  rcases ix_spec s fs 0 with ⟨h, _⟩ | ⟨j, hj, h, _⟩ <;> omega
theorem implFileAt_eq (fs : List S45) (s : ByteArray) : impl_FileAt.f fs s = some (q9 fs s) := by
  have := ix_lt fs s
  unfold impl_FileAt.f impl_placeOf.f q9
  rw [Option.bind_some]
  by_cases h : impl_placeOf.ix s fs 0 < 0
  · rw [if_pos h, if_pos h]
  · rw [if_neg h, if_neg h, if_pos (by omega), if_pos this]
theorem bl_total (x y : List UInt8) (h : Op.bytesLess x y = false) (hne : x ≠ y) : Op.bytesLess y x = true := by
  rw [← StrCmp.less_other x y, h, beq_false_of_ne hne]; rfl
theorem bl_asymm {x y : List UInt8} (h : Op.bytesLess x y = true) : Op.bytesLess y x = false := by
  cases hq : Op.bytesLess y x with
  | false => rfl
  | true => have := bl_trans _ _ _ h hq; rw [q8] at this; exact absurd this (by simp)
theorem keep_split (s : ByteArray) : ∀ l : List S45, sortedF l → (l.filter (keepF s)).take (impl_withFile.at_ s (l.filter (keepF s))) = l.filter (ltF s) ∧ (l.filter (keepF s)).drop (impl_withFile.at_ s (l.filter (keepF s))) = l.filter (gtF s)
  | [], _ => ⟨rfl, rfl⟩
  | x :: r, h => by
    have hr := List.pairwise_cons.1 h
    obtain ⟨i1, i2⟩ := keep_split s r hr.2
    by_cases c1 : Op.bytesLess x.f0.toList s.toList = true
    · have hk : keepF s x = true := by
        unfold keepF
        rw [Bool.not_eq_true', beq_eq_false_iff_ne]
        intro e; rw [e, q8] at c1; exact absurd c1 (by simp)
      have hl : ltF s x = true := c1
      have hg : ¬ gtF s x = true := by unfold gtF; rw [bl_asymm c1]; simp
      rw [List.filter_cons_of_pos hk, List.filter_cons_of_pos hl, List.filter_cons_of_neg hg, impl_withFile.at_, if_pos c1, List.take_succ_cons, List.drop_succ_cons, i1, i2]
      exact ⟨rfl, rfl⟩
    · have hl : ¬ ltF s x = true := c1
      by_cases c2 : x.f0.toList = s.toList
      · have hk : ¬ keepF s x = true := by unfold keepF; rw [c2]; simp
        have hg : ¬ gtF s x = true := by unfold gtF; rw [c2, q8]; simp
        rw [List.filter_cons_of_neg hk, List.filter_cons_of_neg hl, List.filter_cons_of_neg hg]
        exact ⟨i1, i2⟩
      · have hk : keepF s x = true := by unfold keepF; rw [Bool.not_eq_true', beq_eq_false_iff_ne]; exact c2
        have hgx : Op.bytesLess s.toList x.f0.toList = true := bl_total _ _ (Bool.eq_false_iff.2 c1) c2
        have hg : gtF s x = true := hgx
        have hall : ∀ y ∈ r, Op.bytesLess s.toList y.f0.toList = true := fun y hy => bl_trans _ _ _ hgx (hr.1 y hy)
        have e1 : r.filter (ltF s) = [] := List.filter_eq_nil_iff.2 fun y hy => by unfold ltF; rw [bl_asymm (hall y hy)]; simp
        have e2 : r.filter (gtF s) = r := List.filter_eq_self.2 fun y hy => hall y hy
        have e3 : r.filter (keepF s) = r := List.filter_eq_self.2 fun y hy => by
          unfold keepF
          rw [Bool.not_eq_true', beq_eq_false_iff_ne]
          intro e; have := hall y hy; rw [e, q8] at this; exact absurd this (by simp)
        rw [List.filter_cons_of_pos hk, List.filter_cons_of_neg hl, List.filter_cons_of_pos hg, impl_withFile.at_, if_neg c1, e1, e2, e3]
        exact ⟨rfl, rfl⟩
theorem q12 (l : List S45) (s : ByteArray) (hn : l.length ≤ 1000) : impl_withoutFile.f l s = some (l.filter (keepF s)) := by
  unfold impl_withoutFile.f impl_copyDisk.f
  rw [Option.bind_some, if_pos (by simp; omega)]; rfl
theorem withFile_eq (l : List S45) (f : S45) (hn : l.length ≤ 1000) (hs : sortedF l) : impl_withFile.f l f.f0 f.f1 f.f2 = some (putF l f) := by
  unfold impl_withFile.f
  obtain ⟨h1, h2⟩ := keep_split f.f0 l hs
  have := List.length_filter_le (keepF f.f0) l
  rw [q12 l f.f0 hn, Option.bind_some, if_pos (by omega), h1, h2]; rfl
theorem without_l0 (l : List S45) (s : ByteArray) (hn : l.length ≤ 1000) (d : Nat) :
    ∀ (i : Nat) (acc : List S45), i + d = l.length → acc.length ≤ i → Ev (fun k => spec_l03Without.l0 k s (i : Int) l acc) (acc ++ (l.drop i).filter (keepF s)) := by
  induction d with
  | zero =>
    intro i acc hi _
    refine Ev.step (fun _ => spec_l03Without.l0.eq_2 ..) (Ev.neg (by omega) (Ev.some ?_))
    rw [List.drop_eq_nil_of_le (by omega)]; simp
  | succ d ih =>
    intro i acc hi ha
    refine Ev.step (fun _ => spec_l03Without.l0.eq_2 ..) (Ev.pos (by omega) (Ev.pos (by omega) ?_))
    rw [impl_placeOf.drop_rd l i (by omega), w64_succ i (by omega)]
    refine Ev.ite (fun h => ?_) (fun h => Ev.pos (by omega) ?_)
    · rw [List.filter_cons_of_neg (by unfold keepF; rw [h]; simp)]
      exact ih (i + 1) acc (by omega) (by omega)
    · rw [List.filter_cons_of_pos (by unfold keepF; rw [Bool.not_eq_true', beq_eq_false_iff_ne]; exact h)]
      have := ih (i + 1) (acc ++ [rd_T45 l (i : Int)]) (by omega) (by simp; omega)
      rwa [List.append_assoc, List.singleton_append] at this
theorem without_ev (l : List S45) (s : ByteArray) (hn : l.length ≤ 1000) : Ev (fun k => spec_l03Without.f k l s) (l.filter (keepF s)) := by
  have := without_l0 l s hn l.length 0 [] (by omega) (by simp)
  rw [List.nil_append, List.drop_zero] at this
  exact Ev.congr (fun _ => spec_l03Without.f.eq_1 ..) this
theorem diskB_at {fs : List S45} (h : q7 fs = true) (i : Nat) (hi : i < fs.length) : okAt fs i := by
  unfold q7 at h
  have := (allFrom_iff fs fs.length 0).1 (Bool.and_eq_true_iff.1 h).1 i hi
  rwa [Nat.zero_add] at this
theorem diskB_30 {fs : List S45} (h : q7 fs = true) : fs.length ≤ 30 := by
  unfold q7 at h
  exact of_decide_eq_true (Bool.and_eq_true_iff.1 h).2
theorem diskB_sorted {fs : List S45} (h : q7 fs = true) : sortedF fs := by
  unfold sortedF
  refine List.pairwise_iff_getElem.2 ?_
  intro i j hi hj hij
  induction j with
  | zero => omega
  | succ j ih =>
    have hs := (diskB_at h (j + 1) hj).2.2.2 (by omega)
    rw [rdF_nat fs (j + 1) hj, show (((j + 1 : Nat) : Int) - 1) = (j : Int) from by omega, rdF_nat fs j (by omega)] at hs
    by_cases e : i = j
    · subst e; exact hs
    · exact bl_trans _ _ _ (ih (by omega) (by omega)) hs
theorem diskB_name {fs : List S45} (h : q7 fs = true) (x : S45) (hx : x ∈ fs) : 1 ≤ (x.f0.size : Int) ∧ (x.f0.size : Int) ≤ 8 := by
  obtain ⟨i, hi, rfl⟩ := List.mem_iff_getElem.1 hx
  have := (diskB_at h i hi).1
  rwa [rdF_nat fs i hi] at this
theorem putF_mem (l : List S45) (f : S45) : f ∈ putF l f := by unfold putF; simp
/-- What a disk comes dst. -/
def finD (o : List S45) : List S45 × Bool := if q7 o = true then (o, true) else ([], false)
def q4 (fs : List S45) (name : ByteArray) : S45 := if impl_placeOf.ix name fs 0 ≥ 0 then rd_T45 fs (impl_placeOf.ix name fs 0) else ⟨name, ⟨#[]⟩, 0⟩
def actM (fs : List S45) (kind : Int) (name text dst : ByteArray) : List S45 × Bool :=
  if q7 fs = true ∧ (1 ≤ (name.size : Int) ∧ (name.size : Int) ≤ 8) ∧ (kind = 3 ∨ dst.toList = []) ∧ (kind = 1 ∨ text.toList = []) then
    if kind = 1 then finD (putF fs ⟨(q4 fs name).f0, (q4 fs name).f1 ++ text, (q4 fs name).f2⟩)
    else if impl_placeOf.ix name fs 0 < 0 then ([], false)
    else if kind = 2 then finD (putF fs ⟨(q4 fs name).f0, (q4 fs name).f1, ((q4 fs name).f1.size : Int)⟩)
    else if kind = 3 then if (q4 fs name).f2 < ((q4 fs name).f1.size : Int) ∨ dst.toList = name.toList then ([], false) else finD (putF (fs.filter (keepF name)) ⟨dst, (q4 fs name).f1, (q4 fs name).f2⟩)
    else if kind = 4 then finD (fs.filter (keepF name)) else ([], false)
  else ([], false)
theorem finSpec (o : List S45) (hn : o.length ≤ 1000) : Ev (fun k => (spec_DiskOk.f k o).bind fun t => (if t = true then (some (o, true)) else (some (([] : List S45), false)))) (finD o) := by
  unfold finD
  refine Ev.bind (q14 o (by omega)) (Ev.ite (fun h => Ev.some (by rw [if_pos h])) (fun h => Ev.some (by rw [if_neg h])))
theorem finImpl (o : List S45) (hn : o.length ≤ 1000) : Ev (fun k => (impl_DiskOk.f k o).bind fun t => (if t = true then (some (o, true)) else (some (([] : List S45), false)))) (finD o) := by
  unfold finD
  refine Ev.bind (q17 o (by omega)) (Ev.ite (fun h => Ev.some (by rw [if_pos h])) (fun h => Ev.some (by rw [if_neg h])))
theorem heldF_size {fs : List S45} (hd : q7 fs = true) (name : ByteArray) : (q4 fs name).f1.size ≤ 20000 := by
  unfold q4
  split
  · rename_i h
    have hlt := ix_lt fs name
    obtain ⟨i, hi⟩ : ∃ i : Nat, impl_placeOf.ix name fs 0 = (i : Int) := ⟨(impl_placeOf.ix name fs 0).toNat, by omega⟩
    rw [hi] at hlt ⊢
    have := (diskB_at hd i (by omega)).2.1
    omega
  · show (⟨#[]⟩ : ByteArray).size ≤ 20000
    simp [ByteArray.size]
theorem heldF_kept {fs : List S45} (hd : q7 fs = true) (name : ByteArray) (h : impl_placeOf.ix name fs 0 ≥ 0) : (q4 fs name).f2 ≤ ((q4 fs name).f1.size : Int) := by
  unfold q4
  rw [if_pos h]
  have hlt := ix_lt fs name
  obtain ⟨i, hi⟩ : ∃ i : Nat, impl_placeOf.ix name fs 0 = (i : Int) := ⟨(impl_placeOf.ix name fs 0).toNat, by omega⟩
  rw [hi] at hlt ⊢
  exact (diskB_at hd i (by omega)).2.2.1.2
theorem heldF_name (fs : List S45) (name : ByteArray) : (q4 fs name).f0 = name := by
  unfold q4
  split
  · rename_i h
    rcases ix_spec name fs 0 with ⟨e, _⟩ | ⟨j, hj, e, hx⟩
    · omega
    · rw [e, Int.zero_add, rdF_nat fs j hj]; exact hx
  · rfl
theorem heldF_neg {fs : List S45} {name : ByteArray} (h : ¬ impl_placeOf.ix name fs 0 ≥ 0) : q4 fs name = ⟨name, ⟨#[]⟩, 0⟩ := by unfold q4; rw [if_neg h]
theorem heldF_pos {fs : List S45} {name : ByteArray} (h : impl_placeOf.ix name fs 0 ≥ 0) : rd_T45 fs (impl_placeOf.ix name fs 0) = q4 fs name := by unfold q4; rw [if_pos h]
/-- Behind the tests: what the reference does. -/
def restM (fs : List S45) (kind : Int) (name text dst : ByteArray) : List S45 × Bool :=
    if kind = 1 then finD (putF fs ⟨(q4 fs name).f0, (q4 fs name).f1 ++ text, (q4 fs name).f2⟩)
    else if impl_placeOf.ix name fs 0 < 0 then ([], false)
    else if kind = 2 then finD (putF fs ⟨(q4 fs name).f0, (q4 fs name).f1, ((q4 fs name).f1.size : Int)⟩)
    else if kind = 3 then if (q4 fs name).f2 < ((q4 fs name).f1.size : Int) ∨ dst.toList = name.toList then ([], false) else finD (putF (fs.filter (keepF name)) ⟨dst, (q4 fs name).f1, (q4 fs name).f2⟩)
    else if kind = 4 then finD (fs.filter (keepF name)) else ([], false)
theorem finD_bad {o : List S45} {x : S45} (hx : x ∈ o) (hb : ¬ (1 ≤ (x.f0.size : Int) ∧ (x.f0.size : Int) ≤ 8)) : finD o = ([], false) := by
  unfold finD
  rw [if_neg fun h => hb (diskB_name h x hx)]
theorem filter_len (fs : List S45) (p : S45 → Bool) (hn : fs.length ≤ 30) : (fs.filter p).length ≤ 30 := Nat.le_trans (List.length_filter_le p fs) hn
theorem specAct_j2 (fs : List S45) (hd : q7 fs = true) (b : Bool) (kind : Int) (name text dst : ByteArray) (g : S45) :
    Ev (fun k => spec_DoAct.j2 k b fs kind name text dst g.f0 g.f1 g.f2) (if b = true then ([], false) else finD (putF (fs.filter (keepF name)) ⟨dst, g.f1, g.f2⟩)) := by
  have h30 := diskB_30 hd
  have h31 := filter_len fs (keepF name) h30
  have h32 := q16 (fs.filter (keepF name)) ⟨dst, g.f1, g.f2⟩
  refine Ev.step (fun _ => spec_DoAct.j2.eq_2 ..) (Ev.ite (fun h => Ev.some (by rw [if_pos h])) (fun h => ?_))
  rw [if_neg h]
  exact Ev.bind (without_ev fs name (by omega)) (Ev.bind (put_ev (fs.filter (keepF name)) ⟨dst, g.f1, g.f2⟩ (by omega)) (finSpec _ (by omega)))
theorem specAct_j1 (fs : List S45) (hd : q7 fs = true) (kind : Int) (name text dst : ByteArray) (ht : text.size ≤ 1048576) :
    Ev (fun k => spec_DoAct.j1 k (impl_placeOf.ix name fs 0) fs kind name text dst (q4 fs name).f0 (q4 fs name).f1 (q4 fs name).f2) (restM fs kind name text dst) := by
  have h30 := diskB_30 hd
  have hz := heldF_size hd name
  unfold restM
  refine Ev.step (fun _ => spec_DoAct.j1.eq_2 ..) (Ev.ite (fun h1 => ?_) (fun h1 => ?_))
  · rw [if_pos h1]
    have := q16 fs ⟨(q4 fs name).f0, (q4 fs name).f1 ++ text, (q4 fs name).f2⟩
    exact Ev.pos (by omega) (Ev.bind (put_ev fs ⟨(q4 fs name).f0, (q4 fs name).f1 ++ text, (q4 fs name).f2⟩ (by omega)) (finSpec _ (by omega)))
  · rw [if_neg h1]
    refine Ev.ite (fun h2 => Ev.some (by rw [if_pos h2])) (fun h2 => ?_)
    rw [if_neg h2]
    refine Ev.ite (fun h3 => ?_) (fun h3 => ?_)
    · rw [if_pos h3]
      have := q16 fs ⟨(q4 fs name).f0, (q4 fs name).f1, ((q4 fs name).f1.size : Int)⟩
      exact Ev.bind (put_ev fs ⟨(q4 fs name).f0, (q4 fs name).f1, ((q4 fs name).f1.size : Int)⟩ (by omega)) (finSpec _ (by omega))
    · rw [if_neg h3]
      refine Ev.ite (fun h4 => ?_) (fun h4 => ?_)
      · rw [if_pos h4]
        refine Ev.ite (fun h5 => ?_) (fun h5 => Ev.ite (fun h6 => ?_) (fun h6 => ?_))
        · refine Ev.eq (specAct_j2 fs hd true kind name text dst (q4 fs name)) ?_
          rw [if_pos rfl, if_pos (.inl h5)]
        · refine Ev.eq (specAct_j2 fs hd true kind name text dst (q4 fs name)) ?_
          rw [if_pos rfl, if_pos (.inr h6)]
        · refine Ev.call (specName_eq dst) (Ev.eq (specAct_j2 fs hd _ kind name text dst (q4 fs name)) ?_)
          rw [if_neg (c := _ ∨ _) (by rintro (h | h); exact h5 h; exact h6 h)]
          by_cases h7 : 1 ≤ (dst.size : Int) ∧ (dst.size : Int) ≤ 8
          · rw [decide_eq_true h7, if_neg (by simp)]
          · rw [decide_eq_false h7, if_pos (by simp), finD_bad (putF_mem _ _) h7]
      · rw [if_neg h4]
        refine Ev.ite (fun h5 => ?_) (fun h5 => Ev.some (by rw [if_neg h5]))
        rw [if_pos h5]
        have := filter_len fs (keepF name) h30
        exact Ev.bind (without_ev fs name (by omega)) (finSpec _ (by omega))
theorem specAct_j0 (fs : List S45) (hd : q7 fs = true) (b : Bool) (kind : Int) (name text dst : ByteArray) (ht : text.size ≤ 1048576) :
    Ev (fun k => spec_DoAct.j0 k b fs kind name text dst) (if b = true then ([], false) else restM fs kind name text dst) := by
  have h30 := diskB_30 hd
  have hlt := ix_lt fs name
  refine Ev.step (fun _ => spec_DoAct.j0.eq_2 ..) (Ev.ite (fun h => Ev.some (by rw [if_pos h])) (fun h => ?_))
  rw [if_neg h]
  refine Ev.bind (specAt_ev fs name (by omega)) (Ev.ite (fun h1 => Ev.pos (by omega) (Ev.pos hlt ?_)) (fun h1 => ?_))
  · have := specAct_j1 fs hd kind name text dst ht
    rwa [← heldF_pos h1] at this
  · have := specAct_j1 fs hd kind name text dst ht
    rwa [heldF_neg h1] at this
theorem actM_yes {fs : List S45} {kind : Int} {name text dst : ByteArray} (h : q7 fs = true ∧ (1 ≤ (name.size : Int) ∧ (name.size : Int) ≤ 8) ∧ (kind = 3 ∨ dst.toList = []) ∧ (kind = 1 ∨ text.toList = [])) : actM fs kind name text dst = restM fs kind name text dst := by
  unfold actM restM
  rw [if_pos h]
theorem actM_no {fs : List S45} {kind : Int} {name text dst : ByteArray} (h : ¬ (q7 fs = true ∧ (1 ≤ (name.size : Int) ∧ (name.size : Int) ≤ 8) ∧ (kind = 3 ∨ dst.toList = []) ∧ (kind = 1 ∨ text.toList = []))) : actM fs kind name text dst = ([], false) := by
  unfold actM
  rw [if_neg h]
theorem specAct_false (fs : List S45) (kind : Int) (name text dst : ByteArray) : Ev (fun k => spec_DoAct.j0 k true fs kind name text dst) ([], false) :=
  Ev.step (fun _ => spec_DoAct.j0.eq_2 ..) (Ev.pos rfl (Ev.now _))
theorem specDoAct_ev (fs : List S45) (kind : Int) (name text dst : ByteArray) (hn : fs.length ≤ 140737488355328) (ht : text.size ≤ 1048576) : Ev (fun k => spec_DoAct.f k fs kind name text dst) (actM fs kind name text dst) := by
  refine Ev.congr (fun _ => spec_DoAct.f.eq_1 ..) (Ev.bind (q14 fs hn) (Ev.ite (fun hd => Ev.call (specName_eq name) ?_) (fun hd => ?_)))
  · by_cases hnm : 1 ≤ (name.size : Int) ∧ (name.size : Int) ≤ 8
    · rw [decide_eq_true hnm]
      refine Ev.pos rfl ?_
      have key : ∀ b : Bool, (b = false ↔ (kind = 3 ∨ dst.toList = []) ∧ (kind = 1 ∨ text.toList = [])) → Ev (fun k => spec_DoAct.j0 k b fs kind name text dst) (actM fs kind name text dst) := by
        intro b hb
        refine Ev.eq (specAct_j0 fs hd b kind name text dst ht) ?_
        cases b with
        | false => rw [if_neg (by simp), actM_yes ⟨hd, hnm, hb.1 rfl⟩]
        | true => rw [if_pos rfl, actM_no fun h => absurd (hb.2 h.2.2) (by simp)]
      refine Ev.ite (fun h3 => Ev.ite (fun h1 => ?_) (fun h1 => ?_)) (fun h3 => Ev.ite (fun h2 => Ev.ite (fun h1 => ?_) (fun h1 => ?_)) (fun h2 => ?_))
      · exact absurd (h3.symm.trans h1) (by omega)
      · exact key _ (by simp [h3])
      · exact key false (by simp [h1, h2])
      · exact key _ (by simp [h1, h2])
      · exact key true (by simp [h3, h2])
    · rw [decide_eq_false hnm]
      refine Ev.neg (by simp) ?_
      rw [actM_no fun h => hnm h.2.1]
      exact specAct_false ..
  · rw [actM_no fun h => hd h.1]
    exact specAct_false ..
theorem implAct_j2 (fs : List S45) (hd : q7 fs = true) (b : Bool) (kind : Int) (name text dst : ByteArray) (g : S45) :
    Ev (fun k => impl_DoAct.j2 k b fs kind name text dst g.f0 g.f1 g.f2) (if b = true then ([], false) else finD (putF (fs.filter (keepF name)) ⟨dst, g.f1, g.f2⟩)) := by
  have h30 := diskB_30 hd
  have h31 := filter_len fs (keepF name) h30
  have h32 := q16 (fs.filter (keepF name)) ⟨dst, g.f1, g.f2⟩
  refine Ev.step (fun _ => impl_DoAct.j2.eq_2 ..) (Ev.ite (fun h => Ev.some (by rw [if_pos h])) (fun h => ?_))
  rw [if_neg h]
  exact Ev.call (q12 fs name (by omega)) (Ev.call (withFile_eq (fs.filter (keepF name)) ⟨dst, g.f1, g.f2⟩ (by omega) ((diskB_sorted hd).filter _)) (finImpl _ (by omega)))
theorem implAct_j1 (fs : List S45) (hd : q7 fs = true) (kind : Int) (name text dst : ByteArray) (ht : text.size ≤ 1048576) (hk : 1 ≤ kind ∧ kind ≤ 4) (hi : ¬ (impl_placeOf.ix name fs 0 < 0 ∧ kind ≠ 1)) :
    Ev (fun k => impl_DoAct.j1 k fs kind name text dst (q4 fs name).f0 (q4 fs name).f1 (q4 fs name).f2) (restM fs kind name text dst) := by
  have h30 := diskB_30 hd
  have hz := heldF_size hd name
  have hs := diskB_sorted hd
  unfold restM
  refine Ev.step (fun _ => impl_DoAct.j1.eq_2 ..) (Ev.ite (fun h1 => ?_) (fun h1 => ?_))
  · rw [if_pos h1]
    have := q16 fs ⟨(q4 fs name).f0, (q4 fs name).f1 ++ text, (q4 fs name).f2⟩
    exact Ev.pos (by omega) (Ev.call (withFile_eq fs ⟨(q4 fs name).f0, (q4 fs name).f1 ++ text, (q4 fs name).f2⟩ (by omega) hs) (finImpl _ (by omega)))
  · have hp : ¬ impl_placeOf.ix name fs 0 < 0 := fun h => hi ⟨h, h1⟩
    rw [if_neg h1, if_neg hp]
    refine Ev.ite (fun h3 => ?_) (fun h3 => ?_)
    · rw [if_pos h3]
      have := q16 fs ⟨(q4 fs name).f0, (q4 fs name).f1, ((q4 fs name).f1.size : Int)⟩
      exact Ev.call (withFile_eq fs ⟨(q4 fs name).f0, (q4 fs name).f1, ((q4 fs name).f1.size : Int)⟩ (by omega) hs) (finImpl _ (by omega))
    · rw [if_neg h3]
      refine Ev.ite (fun h4 => ?_) (fun h4 => ?_)
      · rw [if_pos h4]
        have hkp := heldF_kept hd name (by omega)
        refine Ev.ite (fun h5 => Ev.eq (implAct_j2 fs hd _ kind name text dst (q4 fs name)) ?_) (fun h5 => Ev.eq (implAct_j2 fs hd true kind name text dst (q4 fs name)) ?_)
        · by_cases h6 : dst.toList = name.toList
          · rw [if_pos (by simpa using h6), if_pos (.inr h6)]
          · rw [if_neg (by simpa using h6), if_neg (c := _ ∨ _) (by rintro (h | h); omega; exact h6 h)]
        · rw [if_pos rfl, if_pos (.inl (by omega))]
      · rw [if_neg h4, if_pos (by omega)]
        have := filter_len fs (keepF name) h30
        exact Ev.call (q12 fs name (by omega)) (finImpl _ (by omega))
theorem implAct_j0 (fs : List S45) (hd : q7 fs = true) (b : Bool) (kind : Int) (name text dst : ByteArray) (ht : text.size ≤ 1048576) (hk : b = false → 1 ≤ kind ∧ kind ≤ 4) (hi : b = false → ¬ (impl_placeOf.ix name fs 0 < 0 ∧ kind ≠ 1)) :
    Ev (fun k => impl_DoAct.j0 k (impl_placeOf.ix name fs 0) b fs kind name text dst) (if b = true then ([], false) else restM fs kind name text dst) := by
  have hlt := ix_lt fs name
  refine Ev.step (fun _ => impl_DoAct.j0.eq_2 ..) (Ev.ite (fun h => Ev.some (by rw [if_pos h])) (fun h => ?_))
  rw [if_neg h]
  have hb : b = false := by simpa using h
  refine Ev.ite (fun h1 => Ev.pos (by omega) (Ev.pos hlt ?_)) (fun h1 => ?_)
  · have := implAct_j1 fs hd kind name text dst ht (hk hb) (hi hb)
    rwa [← heldF_pos h1] at this
  · have := implAct_j1 fs hd kind name text dst ht (hk hb) (hi hb)
    rwa [heldF_neg h1] at this
theorem implAct_false (i : Int) (fs : List S45) (kind : Int) (name text dst : ByteArray) : Ev (fun k => impl_DoAct.j0 k i true fs kind name text dst) ([], false) :=
  Ev.step (fun _ => impl_DoAct.j0.eq_2 ..) (Ev.pos rfl (Ev.now _))
def actOkB (kind : Int) (text dst : ByteArray) : Bool := decide ((1 ≤ kind ∧ kind ≤ 4) ∧ (kind = 3 ∨ dst.toList = []) ∧ (kind = 1 ∨ text.toList = []))
theorem actOk_eq (kind : Int) (name text dst : ByteArray) : impl_actOk.f kind name text dst = some (actOkB kind text dst) := by
  unfold impl_actOk.f actOkB
  rw [within_eq, Option.bind_some]
  by_cases h0 : 1 ≤ kind ∧ kind ≤ 4
  · rw [if_pos (decide_eq_true h0)]
    by_cases h1 : text.toList = [] <;> by_cases h2 : dst.toList = [] <;> by_cases h3 : kind = 1 <;> by_cases h4 : kind = 3 <;> simp [h0, h1, h2, h3, h4] <;> omega
  · rw [if_neg (by simpa using h0), decide_eq_false fun h => h0 h.1]
theorem restM_bad_kind {fs : List S45} {kind : Int} {name text dst : ByteArray} (h : ¬ (1 ≤ kind ∧ kind ≤ 4)) : restM fs kind name text dst = ([], false) := by
  unfold restM
  rw [if_neg (by omega)]
  by_cases h1 : impl_placeOf.ix name fs 0 < 0
  · rw [if_pos h1]
  · rw [if_neg h1, if_neg (by omega), if_neg (by omega), if_neg (by omega)]
theorem ix_name {fs : List S45} (hd : q7 fs = true) {name : ByteArray} (h : ¬ impl_placeOf.ix name fs 0 < 0) : 1 ≤ (name.size : Int) ∧ (name.size : Int) ≤ 8 := by
  rcases ix_spec name fs 0 with ⟨e, _⟩ | ⟨j, hj, e, hx⟩
  · omega
  · rw [← hx]; exact diskB_name hd _ (List.getElem_mem hj)
theorem implDoAct_ev (fs : List S45) (kind : Int) (name text dst : ByteArray) (hn : fs.length ≤ 140737488355328) (ht : text.size ≤ 1048576) : Ev (fun k => impl_DoAct.f k fs kind name text dst) (actM fs kind name text dst) := by
  refine Ev.congr (fun _ => impl_DoAct.f.eq_1 ..) (Ev.call (a := impl_placeOf.ix name fs 0) rfl (Ev.bind (q17 fs hn) (Ev.ite (fun hd => Ev.call (actOk_eq ..) (Ev.ite (fun ha => ?_) (fun ha => ?_))) (fun hd => ?_))))
  · have ha' := of_decide_eq_true ha
    have key : ∀ b : Bool, (b = true ↔ impl_placeOf.ix name fs 0 < 0 ∧ kind ≠ 1) → Ev (fun k => impl_DoAct.j0 k (impl_placeOf.ix name fs 0) b fs kind name text dst) (actM fs kind name text dst) := by
      intro b hb
      refine Ev.eq (implAct_j0 fs hd b kind name text dst ht (fun _ => ha'.1) (fun h h' => absurd (hb.2 h') (by rw [h]; simp))) ?_
      by_cases hnm : 1 ≤ (name.size : Int) ∧ (name.size : Int) ≤ 8
      · rw [actM_yes ⟨hd, hnm, ha'.2⟩]
        cases b with
        | false => rw [if_neg (by simp)]
        | true =>
          obtain ⟨h1, h2⟩ := hb.1 rfl
          rw [if_pos rfl]; unfold restM; rw [if_neg h2, if_pos h1]
      · rw [actM_no fun h => hnm h.2.1]
        have h1 : impl_placeOf.ix name fs 0 < 0 := Classical.byContradiction fun h => hnm (ix_name hd h)
        cases b with
        | true => rw [if_pos rfl]
        | false =>
          rw [if_neg (by simp)]
          have h2 : kind = 1 := Classical.byContradiction fun h => absurd (hb.2 ⟨h1, h⟩) (by simp)
          unfold restM
          rw [if_pos h2]
          refine finD_bad (putF_mem _ _) ?_
          show ¬ (1 ≤ ((q4 fs name).f0.size : Int) ∧ _)
          rw [heldF_name]; exact hnm
    refine Ev.ite (fun h1 => ?_) (fun h1 => ?_)
    · exact key _ (by simp [h1])
    · exact key false (by simp; intro h; omega)
  · refine Ev.eq (implAct_false ..) ?_
    have ha' : ¬ ((1 ≤ kind ∧ kind ≤ 4) ∧ (kind = 3 ∨ dst.toList = []) ∧ (kind = 1 ∨ text.toList = [])) := fun h => ha (decide_eq_true h)
    by_cases h : q7 fs = true ∧ (1 ≤ (name.size : Int) ∧ (name.size : Int) ≤ 8) ∧ (kind = 3 ∨ dst.toList = []) ∧ (kind = 1 ∨ text.toList = [])
    · rw [actM_yes h, restM_bad_kind fun hk => ha' ⟨hk, h.2.2⟩]
    · rw [actM_no h]
  · rw [actM_no fun h => hd h.1]
    exact implAct_false ..
theorem finD_len (o : List S45) : (finD o).1.length ≤ 30 := by
  unfold finD
  by_cases h : q7 o = true
  · rw [if_pos h]; exact diskB_30 h
  · rw [if_neg h]; simp
theorem actM_len (fs : List S45) (kind : Int) (name text dst : ByteArray) : (actM fs kind name text dst).1.length ≤ 30 := by
  unfold actM
  repeat' split
  all_goals first | exact finD_len _ | simp
theorem rdA_nat (xs : List S55) (i : Nat) (h : i < xs.length) : rd_T55 xs (i : Int) = xs[i] := by
  unfold rd_T55
  rw [Int.toNat_natCast, List.getD_eq_getElem?_getD, List.getElem?_eq_getElem h]; rfl
def q11 : List S55 → Nat → List S45 → List S45 × Int
  | [], i, d => (d, (i : Int))
  | a :: r, i, d => if (actM d a.f0 a.f1 a.f2 a.f3).2 = true then q11 r (i + 1) (actM d a.f0 a.f1 a.f2 a.f3).1 else (d, (i : Int))
theorem actsM_len (l : List S55) : ∀ (i : Nat) (d : List S45), d.length ≤ 1048576 → (q11 l i d).1.length ≤ 1048576 := by
  induction l with
  | nil => intro i d h; exact h
  | cons a r ih =>
    intro i d h
    unfold q11
    split
    · exact ih _ _ (by have := actM_len d a.f0 a.f1 a.f2 a.f3; omega)
    · exact h
theorem specActs_l0 (l : List S55) (ht : ∀ x ∈ l, x.f2.size ≤ 1048576) (hl : l.length ≤ 1048576) (d : Nat) :
    ∀ (i : Nat) (fs : List S45), i + d = l.length → fs.length ≤ 1048576 → Ev (fun k => spec_DoActs.l0 k l (i : Int) fs) (q11 (l.drop i) i fs) := by
  induction d with
  | zero =>
    intro i fs hi _
    refine Ev.step (fun _ => spec_DoActs.l0.eq_2 ..) (Ev.neg (by omega) (Ev.some ?_))
    rw [List.drop_eq_nil_of_le (by omega), q11, show l.length = i from by omega]
  | succ d ih =>
    intro i fs hi hf
    have hx := ht _ (List.getElem_mem (by omega : i < l.length))
    rw [← rdA_nat l i (by omega)] at hx
    rw [List.drop_eq_getElem_cons (by omega : i < l.length), ← rdA_nat l i (by omega), q11]
    refine Ev.step (fun _ => spec_DoActs.l0.eq_2 ..) (Ev.pos (by omega) (Ev.pos (by omega) (Ev.bind (specDoAct_ev fs _ _ _ _ (by omega) hx) (Ev.ite (fun h => ?_) (fun h => ?_)))))
    · rw [if_pos h, w64_succ i (by omega)]
      exact ih (i + 1) _ (by omega) (by have := actM_len fs (rd_T55 l (i : Int)).f0 (rd_T55 l (i : Int)).f1 (rd_T55 l (i : Int)).f2 (rd_T55 l (i : Int)).f3; omega)
    · exact Ev.some (by rw [if_neg h])
theorem specDoActs_ev (l : List S55) (fs : List S45) (ht : ∀ x ∈ l, x.f2.size ≤ 1048576) (hl : l.length ≤ 1048576) (hf : fs.length ≤ 1048576) : Ev (fun k => spec_DoActs.f k fs l) (q11 l 0 fs) := by
  refine Ev.congr (fun _ => spec_DoActs.f.eq_1 ..) (Ev.call rfl (Ev.pos (by simp; omega) ?_))
  have := specActs_l0 l ht hl l.length 0 fs (by omega) hf
  rwa [List.drop_zero] at this
theorem implActs_l0 (l : List S55) (ht : ∀ x ∈ l, x.f2.size ≤ 1048576) (hl : l.length ≤ 1048576) (d : Nat) :
    ∀ (i : Nat) (fs : List S45), i + d = l.length → fs.length ≤ 1048576 → Ev (fun k => impl_DoActs.l0 k l l (l.length : Int) (i : Int) fs) (q11 (l.drop i) i fs) := by
  induction d with
  | zero =>
    intro i fs hi _
    refine Ev.step (fun _ => impl_DoActs.l0.eq_2 ..) (Ev.neg (by omega) (Ev.some ?_))
    rw [List.drop_eq_nil_of_le (by omega), q11, show l.length = i from by omega]
  | succ d ih =>
    intro i fs hi hf
    have hx := ht _ (List.getElem_mem (by omega : i < l.length))
    rw [← rdA_nat l i (by omega)] at hx
    rw [List.drop_eq_getElem_cons (by omega : i < l.length), ← rdA_nat l i (by omega), q11]
    refine Ev.step (fun _ => impl_DoActs.l0.eq_2 ..) (Ev.pos (by omega) (Ev.pos (by omega) (Ev.pos (by omega) (Ev.bind (implDoAct_ev fs _ _ _ _ (by omega) hx) (Ev.ite (fun h => ?_) (fun h => ?_))))))
    · rw [if_pos h, w64_succ i (by omega)]
      exact ih (i + 1) _ (by omega) (by have := actM_len fs (rd_T55 l (i : Int)).f0 (rd_T55 l (i : Int)).f1 (rd_T55 l (i : Int)).f2 (rd_T55 l (i : Int)).f3; omega)
    · exact Ev.some (by rw [if_neg h])
theorem implDoActs_ev (l : List S55) (fs : List S45) (ht : ∀ x ∈ l, x.f2.size ≤ 1048576) (hl : l.length ≤ 1048576) (hf : fs.length ≤ 1048576) : Ev (fun k => impl_DoActs.f k fs l) (q11 l 0 fs) := by
  have hc : impl_copyDisk.f fs = some fs := by unfold impl_copyDisk.f; rw [Option.bind_some, if_pos (by simp; omega)]; rfl
  refine Ev.congr (fun _ => impl_DoActs.f.eq_1 ..) (Ev.call hc ?_)
  have := implActs_l0 l ht hl l.length 0 fs (by omega) hf
  rwa [List.drop_zero] at this
theorem take_set_drop {α : Type} (L a : List α) (h : L.length = a.length) (i : Nat) (hi : i < a.length) : (L.take i ++ a.drop i).set i (L[i]'(by omega)) = L.take (i + 1) ++ a.drop (i + 1) := by
  rw [List.set_append_right _ _ (by rw [List.length_take]; omega), List.length_take, Nat.min_eq_left (by omega), Nat.sub_self, List.drop_eq_getElem_cons hi, List.set_cons_zero, List.take_succ_eq_append_getElem (by omega), List.append_assoc]
  rfl
theorem diskB_kept {fs : List S45} (h : q7 fs = true) (i : Nat) (hi : i < fs.length) : 0 ≤ (rd_T45 fs (i : Int)).f2 ∧ (rd_T45 fs (i : Int)).f2 ≤ ((rd_T45 fs (i : Int)).f1.size : Int) := by
  unfold q7 at h
  rw [Bool.and_eq_true] at h
  have := (allFrom_iff fs fs.length 0).1 h.1 i hi
  rw [Nat.zero_add] at this
  exact this.2.2.1
theorem diskB_len {fs : List S45} (h : q7 fs = true) : fs.length ≤ 30 := by
  unfold q7 at h
  rw [Bool.and_eq_true, decide_eq_true_iff] at h
  exact h.2
def leftN (left : List Int) (fs : List S45) (i : Nat) : Int := if (i : Int) < (left.length : Int) then mx (rd_T45 fs (i : Int)).f2 (mn (rd left (i : Int)) ((rd_T45 fs (i : Int)).f1.size : Int)) else (rd_T45 fs (i : Int)).f2
def lostF (f : S45) (n : Int) : S45 := ⟨f.f0, f.f1.extract 0 n.toNat, n⟩
def q10 (left : List Int) (fs : List S45) : List S45 := (List.range fs.length).map (fun i : Nat => lostF (rd_T45 fs (i : Int)) (leftN left fs i))
theorem q6 (left : List Int) (fs : List S45) : (q10 left fs).length = fs.length := by simp [q10]
theorem loseL_get (left : List Int) (fs : List S45) (i : Nat) (h : i < (q10 left fs).length) : (q10 left fs)[i] = lostF (rd_T45 fs (i : Int)) (leftN left fs i) := by simp [q10]
def loseM (left : List Int) (fs : List S45) : List S45 × Bool := if q7 fs = true then (q10 left fs, true) else ([], false)
theorem implLoseDisk_l0 (left : List Int) (fs : List S45) (hd : q7 fs = true) (d : Nat) :
    ∀ i : Nat, i + d = fs.length → Ev (fun k => impl_LoseDisk.l0 k left fs (fs.length : Int) (i : Int) ((q10 left fs).take i ++ fs.drop i)) (q10 left fs, true) := by
  have hl := diskB_len hd
  induction d with
  | zero =>
    intro i hi
    refine Ev.step (fun _ => impl_LoseDisk.l0.eq_2 ..) (Ev.neg (by omega) (Ev.some ?_))
    obtain rfl : i = fs.length := by omega
    rw [List.take_of_length_le (by rw [q6]; omega)]; simp
  | succ d ih =>
    intro i hi
    have hk := diskB_kept hd i (by omega)
    have hlen : ((q10 left fs).take i ++ fs.drop i).length = fs.length := by simp [q6]; omega
    have hset := take_set_drop (q10 left fs) fs (q6 _ _) i (by omega)
    rw [loseL_get] at hset
    refine Ev.step (fun _ => impl_LoseDisk.l0.eq_2 ..) (Ev.pos (by omega) (Ev.pos (by omega) (Ev.pos (by omega) (Ev.ite (fun c => ?_) (fun c => ?_)))))
    · have e : leftN left fs i = mx (rd_T45 fs (i : Int)).f2 (mn (rd left (i : Int)) ((rd_T45 fs (i : Int)).f1.size : Int)) := if_pos c
      rw [← e]
      have hr : 0 ≤ leftN left fs i ∧ leftN left fs i ≤ ((rd_T45 fs (i : Int)).f1.size : Int) := by
        rw [e]; unfold mx mn; split <;> split <;> omega
      refine Ev.pos hr.1 (Ev.pos hr.2 (Ev.pos (by rw [hlen]; omega) ?_))
      rw [w64_succ i (by omega), Int.toNat_natCast]
      show Ev (fun k => impl_LoseDisk.l0 k left fs (fs.length : Int) ((i + 1 : Nat) : Int) (((q10 left fs).take i ++ fs.drop i).set i (lostF (rd_T45 fs (i : Int)) (leftN left fs i)))) _
      rw [hset]
      exact ih (i + 1) (by omega)
    · have e : leftN left fs i = (rd_T45 fs (i : Int)).f2 := if_neg c
      refine Ev.pos hk.1 (Ev.pos hk.2 (Ev.pos (by rw [hlen]; omega) ?_))
      rw [w64_succ i (by omega), Int.toNat_natCast]
      rw [e] at hset
      show Ev (fun k => impl_LoseDisk.l0 k left fs (fs.length : Int) ((i + 1 : Nat) : Int) (((q10 left fs).take i ++ fs.drop i).set i (lostF (rd_T45 fs (i : Int)) (rd_T45 fs (i : Int)).f2))) _
      rw [hset]
      exact ih (i + 1) (by omega)
theorem implLoseDisk_ev (left : List Int) (fs : List S45) (hn : fs.length ≤ 140737488355328) : Ev (fun k => impl_LoseDisk.f k fs left) (loseM left fs) := by
  refine Ev.congr (fun _ => impl_LoseDisk.f.eq_1 ..) (Ev.bind (q17 fs hn) (Ev.ite (fun h => ?_) (fun h => ?_)))
  · refine Ev.call (a := fs) ?_ ?_
    · unfold impl_copyDisk.f
      rw [Option.bind_some, if_pos (by have := diskB_len h; simp; omega)]; rfl
    · unfold loseM; rw [if_pos h]
      have := implLoseDisk_l0 left fs h fs.length 0 (by omega)
      simpa using this
  · unfold loseM; rw [if_neg h]; exact Ev.now _
theorem specLoseDisk_l0 (left : List Int) (fs : List S45) (hd : q7 fs = true) (d : Nat) :
    ∀ i : Nat, i + d = fs.length → Ev (fun k => spec_LoseDisk.l0 k left (i : Int) fs ((q10 left fs).take i)) (q10 left fs, true) := by
  have hl := diskB_len hd
  induction d with
  | zero =>
    intro i hi
    refine Ev.step (fun _ => spec_LoseDisk.l0.eq_2 ..) (Ev.neg (by omega) (Ev.some ?_))
    rw [List.take_of_length_le (by rw [q6]; omega)]
  | succ d ih =>
    intro i hi
    have hk := diskB_kept hd i (by omega)
    have hlen : ((q10 left fs).take i).length = i := by simp [q6]; omega
    have fin : ∀ n : Int, n = leftN left fs i → 0 ≤ n → n ≤ ((rd_T45 fs (i : Int)).f1.size : Int) → Ev (fun k => if 0 ≤ n then (if n ≤ ((rd_T45 fs (i : Int)).f1.size : Int) then (if ((q10 left fs).take i).length < 3518437208883 then (spec_LoseDisk.l0 k left (wrap64 ((i : Int) + 1)) fs ((q10 left fs).take i ++ [(⟨(rd_T45 fs (i : Int)).f0, ((rd_T45 fs (i : Int)).f1).extract 0 (n : Int).toNat, n⟩ : S45)])) else (none)) else (none)) else (none)) (q10 left fs, true) := by
      intro n hn h0 h1
      refine Ev.pos h0 (Ev.pos h1 (Ev.pos (by rw [hlen]; omega) ?_))
      have e : (q10 left fs).take i ++ [(⟨(rd_T45 fs (i : Int)).f0, ((rd_T45 fs (i : Int)).f1).extract 0 (n : Int).toNat, n⟩ : S45)] = (q10 left fs).take (i + 1) := by
        rw [List.take_succ_eq_append_getElem (by rw [q6]; omega), loseL_get, hn]; rfl
      rw [e, w64_succ i (by omega)]
      exact ih (i + 1) (by omega)
    have one : ∀ m : Int, (if m > ((rd_T45 fs (i : Int)).f1.size : Int) then ((rd_T45 fs (i : Int)).f1.size : Int) else m) < (rd_T45 fs (i : Int)).f2 ∧ leftN left fs i = (rd_T45 fs (i : Int)).f2 ∨ ¬ (if m > ((rd_T45 fs (i : Int)).f1.size : Int) then ((rd_T45 fs (i : Int)).f1.size : Int) else m) < (rd_T45 fs (i : Int)).f2 ∧ leftN left fs i = (if m > ((rd_T45 fs (i : Int)).f1.size : Int) then ((rd_T45 fs (i : Int)).f1.size : Int) else m) → Ev (fun k => spec_LoseDisk.j1 k left (i : Int) m fs ((q10 left fs).take i) (rd_T45 fs (i : Int)).f0 (rd_T45 fs (i : Int)).f1 (rd_T45 fs (i : Int)).f2) (q10 left fs, true) := by
      intro m hm
      refine Ev.step (fun _ => spec_LoseDisk.j1.eq_2 ..) (Ev.ite (fun c => ?_) (fun c => ?_))
      · rw [if_pos c] at hm
        refine Ev.ite (fun c2 => ?_) (fun c2 => ?_)
        · exact fin _ (by omega) hk.1 hk.2
        · exact fin _ (by omega) (by omega) (by omega)
      · rw [if_neg c] at hm
        refine Ev.ite (fun c2 => ?_) (fun c2 => ?_)
        · exact fin _ (by omega) hk.1 hk.2
        · exact fin _ (by omega) (by omega) (by omega)
    refine Ev.step (fun _ => spec_LoseDisk.l0.eq_2 ..) (Ev.pos (by omega) (Ev.pos (by omega) (Ev.ite (fun c => one _ ?_) (fun c => one _ ?_))))
    · have e : leftN left fs i = mx (rd_T45 fs (i : Int)).f2 (mn (rd left (i : Int)) ((rd_T45 fs (i : Int)).f1.size : Int)) := if_pos c
      rw [e]; unfold mx mn
      split <;> split <;> (try split) <;> omega
    · have e : leftN left fs i = (rd_T45 fs (i : Int)).f2 := if_neg c
      rw [e]
      split <;> omega
theorem specLoseDisk_ev (left : List Int) (fs : List S45) (hn : fs.length ≤ 140737488355328) : Ev (fun k => spec_LoseDisk.f k fs left) (loseM left fs) := by
  refine Ev.congr (fun _ => spec_LoseDisk.f.eq_1 ..) (Ev.bind (q14 fs hn) (Ev.ite (fun h => ?_) (fun h => ?_)))
  · unfold loseM; rw [if_pos h]
    have := specLoseDisk_l0 left fs h fs.length 0 (by omega)
    simpa using this
  · unfold loseM; rw [if_neg h]; exact Ev.now _
def cutM (l : List S55) (whole : Int) (left : List Int) (fs : List S45) : List S45 × Bool :=
  if 0 ≤ whole ∧ whole ≤ (l.length : Int) then (if (q11 (l.take whole.toNat) 0 fs).2 < whole then ([], false) else loseM left (q11 (l.take whole.toNat) 0 fs).1) else ([], false)
theorem loseM_len (left : List Int) (fs : List S45) (h : fs.length ≤ 1048576) : (loseM left fs).1.length ≤ 1048576 := by
  unfold loseM; split
  · rw [q6]; exact h
  · simp
theorem cutM_len (l : List S55) (whole : Int) (left : List Int) (fs : List S45) (h : fs.length ≤ 1048576) : (cutM l whole left fs).1.length ≤ 1048576 := by
  unfold cutM
  split
  · split
    · simp
    · exact loseM_len _ _ (actsM_len _ _ _ h)
  · simp
theorem specCutActs_ev (l : List S55) (whole : Int) (left : List Int) (fs : List S45) (ht : ∀ x ∈ l, x.f2.size ≤ 1048576) (hl : l.length ≤ 1048576) (hf : fs.length ≤ 1048576) : Ev (fun k => spec_CutActs.f k fs l whole left) (cutM l whole left fs) := by
  have hlen := actsM_len (l.take whole.toNat) 0 fs hf
  unfold cutM
  refine Ev.congr (fun _ => spec_CutActs.f.eq_1 ..) (Ev.call (l01In_eq ..) (Ev.ite (fun h => ?_) (fun h => Ev.some ?_)))
  · have h' := of_decide_eq_true h
    rw [if_pos h']
    refine Ev.pos h'.1 (Ev.pos h'.2 (Ev.bind (specDoActs_ev _ fs (fun x hx => ht x (List.mem_of_mem_take hx)) (by rw [List.length_take]; omega) hf) (Ev.ite (fun h2 => Ev.some (by rw [if_pos h2])) (fun h2 => ?_))))
    rw [if_neg h2]
    exact Ev.bind (specLoseDisk_ev left _ (by omega)) (Ev.now _)
  · rw [if_neg fun z => h (decide_eq_true z)]
theorem implCutActs_ev (l : List S55) (whole : Int) (left : List Int) (fs : List S45) (ht : ∀ x ∈ l, x.f2.size ≤ 1048576) (hl : l.length ≤ 1048576) (hf : fs.length ≤ 1048576) : Ev (fun k => impl_CutActs.f k fs l whole left) (cutM l whole left fs) := by
  have hlen := actsM_len (l.take whole.toNat) 0 fs hf
  unfold cutM
  refine Ev.congr (fun _ => impl_CutActs.f.eq_1 ..) (Ev.call (within_eq ..) (Ev.ite (fun h => ?_) (fun h => Ev.some ?_)))
  · have h' := of_decide_eq_true h
    rw [if_pos h']
    refine Ev.pos h'.1 (Ev.pos h'.2 (Ev.bind (implDoActs_ev _ fs (fun x hx => ht x (List.mem_of_mem_take hx)) (by rw [List.length_take]; omega) hf) (Ev.ite (fun h2 => Ev.some (by rw [if_pos h2])) (fun h2 => ?_))))
    rw [if_neg h2]
    exact Ev.bind (implLoseDisk_ev left _ (by omega)) (Ev.now _)
  · rw [if_neg fun z => h (decide_eq_true z)]
theorem pick_ok (l : List Int) (i h : Int) (xs : List ByteArray) (hx : 0 < xs.length) (hi : 0 ≤ i) (hl : l.length ≤ 140737488355328) :
    ∃ r i' h', spec_l01Pick.f l i h xs = some (r, i', h') ∧ 0 ≤ i' := by
  unfold spec_l01Pick.f
  obtain ⟨b, i1, h1, e, hi1, b0, b1, _⟩ := q5 l i h (xs.length : Int) hi hl
  rw [e, Option.bind_some, if_pos b0, if_pos (b1 (by omega))]
  exact ⟨_, _, _, rfl, hi1⟩
theorem dec_l0 (n : Nat) : ∀ (x : Int) (acc : ByteArray), 0 ≤ x → x < 10 ^ n → x < 1000 → acc.size + n ≤ 1000 → ∃ s, Ev (fun k => spec_Decimal.l0 k x false acc) s ∧ s.size ≤ acc.size + n := by
  induction n with
  | zero =>
    intro x acc h0 h1 _ _
    exact ⟨acc, Ev.step (fun _ => spec_Decimal.l0.eq_2 ..) (Ev.pos (by rw [Int.pow_zero] at h1; omega) (Ev.neg (by decide) (Ev.now _))), by omega⟩
  | succ n ih =>
    intro x acc h0 h1 hk ha
    by_cases c : x = 0
    · exact ⟨acc, Ev.step (fun _ => spec_Decimal.l0.eq_2 ..) (Ev.pos c (Ev.neg (by simp) (Ev.now _))), by omega⟩
    · have ht := tmod_in x 10 h0 (by omega)
      have hd : Int.tdiv x 10 = x / 10 := Int.tdiv_eq_ediv_of_nonneg h0
      have hf : spec_l01Figure.f (Int.tmod x 10) = some ((wrap64 (48 + Int.tmod x 10)) % 256) := by unfold spec_l01Figure.f; rw [if_pos ht.2]
      have hsz : (strOfNums [(wrap64 (48 + Int.tmod x 10)) % 256]).size = 1 := strOfNums_size _
      have hp : (10 : Int) ^ (n + 1) = 10 ^ n * 10 := Int.pow_succ ..
      have hlt : x / 10 < 10 ^ n := by rw [hp] at h1; omega
      obtain ⟨s, es, hs⟩ := ih (x / 10) (strOfNums [(wrap64 (48 + Int.tmod x 10)) % 256] ++ acc) (by omega) hlt (by omega) (by rw [ByteArray.size_append, hsz]; omega)
      rw [ByteArray.size_append, hsz] at hs
      refine ⟨s, Ev.step (fun _ => spec_Decimal.l0.eq_2 ..) (Ev.neg c (Ev.neg (by omega) (Ev.call hf (Ev.call rfl (Ev.pos (by rw [hsz]; omega) ?_))))), by omega⟩
      rw [hd, w64 (n := x / 10) (by omega) (by omega)]
      exact es
theorem dec_ok (x : Int) (h0 : 0 ≤ x) (h1 : x < 1000) : ∃ s, Ev (fun k => spec_Decimal.f k x) s ∧ s.size ≤ 4 := by
  by_cases c : x = 0
  · exact ⟨_, Ev.congr (fun _ => spec_Decimal.f.eq_1 ..) (Ev.pos c (Ev.now _)), by decide⟩
  · obtain ⟨s, es, hs⟩ := dec_l0 3 x ⟨#[]⟩ h0 (by omega) h1 (by decide)
    refine ⟨s, Ev.congr (fun _ => spec_Decimal.f.eq_1 ..) (Ev.neg c ?_), by have h0 : (⟨#[]⟩ : ByteArray).size = 0 := rfl; omega⟩
    rw [decide_eq_false (by omega)]
    exact es
theorem long_l0 (n x : Int) (d : Nat) : ∀ (j : Nat) (xs : List Int), (j : Int) + d = n → (xs.length : Int) = n → n ≤ 100000 → ∃ s, Ev (fun k => spec_l01Long.l0 k n x xs (j : Int)) s := by
  induction d with
  | zero => intro j xs hj _ _; exact ⟨_, Ev.step (fun _ => spec_l01Long.l0.eq_2 ..) (Ev.neg (by omega) (Ev.now _))⟩
  | succ d ih =>
    intro j xs hj hx hn
    obtain ⟨s, es⟩ := ih (j + 1) (xs.set ((j : Int)).toNat x) (by omega) (by rw [List.length_set]; exact hx) hn
    refine ⟨s, Ev.step (fun _ => spec_l01Long.l0.eq_2 ..) (Ev.pos (by omega) (Ev.pos (by omega) (Ev.pos (by omega) ?_)))⟩
    rw [w64_succ j (by omega)]; exact es
theorem long_ok (n x : Int) (h0 : 0 ≤ n) (h1 : n ≤ 100000) : ∃ s, Ev (fun k => spec_l01Long.f k n x) s := by
  obtain ⟨s, es⟩ := long_l0 n x n.toNat 0 (List.replicate n.toNat 0) (by omega) (by rw [List.length_replicate]; omega) h1
  exact ⟨s, Ev.congr (fun _ => spec_l01Long.f.eq_1 ..) (Ev.pos h0 (Ev.pos (by omega) es))⟩
theorem disk_l1 (l : List Int) (hl : l.length ≤ 140737488355328) (d : Nat) :
    ∀ (j : Nat) (acc : List S45) (i h : Int), j + d = 31 → acc.length ≤ j → 0 ≤ i → ∃ r i' h', Ev (fun k => spec_l03Disk.l1 k (j : Int) l i h acc) (r, i', h') ∧ r.length ≤ 100 ∧ 0 ≤ i' := by
  induction d with
  | zero =>
    intro j acc i h hj ha hi
    obtain ⟨b, i1, h1, e, hi1, b0, b1, _⟩ := q5 l i h 2 hi hl
    have b1 := b1 (by omega)
    exact ⟨acc, i1, h1, Ev.step (fun _ => spec_l03Disk.l1.eq_2 ..) (Ev.call e (Ev.neg (by rw [w64 (n := 30 + b) (by omega) (by omega)]; omega) (Ev.now _))), by omega, hi1⟩
  | succ d ih =>
    intro j acc i h hj ha hi
    obtain ⟨b, i1, h1, e, hi1, b0, b1, _⟩ := q5 l i h 2 hi hl
    have b1 := b1 (by omega)
    by_cases c : (j : Int) < wrap64 (30 + b)
    · obtain ⟨s, es, hs⟩ := dec_ok (100 + (j : Int)) (by omega) (by omega)
      obtain ⟨r, i', h', er, q⟩ := ih (j + 1) (acc ++ [⟨(⟨#[102]⟩ : ByteArray) ++ s, (⟨#[]⟩ : ByteArray), 0⟩]) i1 h1 (by omega) (by rw [List.length_append]; simp; omega) hi1
      refine ⟨r, i', h', Ev.step (fun _ => spec_l03Disk.l1.eq_2 ..) (Ev.call e (Ev.pos c ?_)), q⟩
      rw [w64 (n := 100 + (j : Int)) (by omega) (by omega)]
      refine Ev.bind es (Ev.pos (by omega) (Ev.pos (by omega) ?_))
      rw [w64_succ j (by omega)]; exact er
    · exact ⟨acc, i1, h1, Ev.step (fun _ => spec_l03Disk.l1.eq_2 ..) (Ev.call e (Ev.neg c (Ev.now _))), by omega, hi1⟩
theorem disk_l0 (l : List Int) (hl : l.length ≤ 140737488355328) (d : Nat) :
    ∀ (j : Nat) (acc : List S45) (i h : Int), j + d = 6 → acc.length ≤ j → 0 ≤ i → ∃ r i' h', Ev (fun k => spec_l03Disk.l0 k (j : Int) l i h acc) (r, i', h') ∧ r.length ≤ 100 ∧ 0 ≤ i' := by
  have stop : ∀ (j : Nat) (acc : List S45) (i h b i1 h1 : Int), acc.length ≤ 6 → spec_l01Below.f l i h 6 = some (b, i1, h1) → ¬ (j : Int) < b → 0 ≤ i1 → ∃ r i' h', Ev (fun k => spec_l03Disk.l0 k (j : Int) l i h acc) (r, i', h') ∧ r.length ≤ 100 ∧ 0 ≤ i' := by
    intro j acc i h b i1 h1 ha e c hi1
    by_cases c0 : (acc.length : Int) = 0
    · exact ⟨acc, i1, h1, Ev.step (fun _ => spec_l03Disk.l0.eq_2 ..) (Ev.call e (Ev.neg c (Ev.pos c0 (Ev.now _)))), by omega, hi1⟩
    obtain ⟨x, i2, h2, e2, hi2, x0, x1, _⟩ := q5 l i1 h1 (acc.length : Int) hi1 hl
    have x1 := x1 (by omega)
    obtain ⟨q, i3, h3, e3, hi3, q0, q1, _⟩ := q5 l i2 h2 40 hi2 hl
    have st : ∀ {r : List S45 × Int × Int}, Ev _ r → Ev (fun k => spec_l03Disk.l0 k (j : Int) l i h acc) r := fun {r} z => Ev.step (fun _ => spec_l03Disk.l0.eq_2 ..) (Ev.call e (Ev.neg c (Ev.neg c0 (Ev.call e2 (Ev.call e3 z)))))
    by_cases k0 : q = 0
    · obtain ⟨y, i4, h4, e4, hi4, _⟩ := pickInt_ok l i3 h3 [-1, wrap64 ((((rd_T45 acc x).f1).size : Int) + 1)] (by simp) hi3 hl
      exact ⟨_, _, _, st (Ev.pos k0 (Ev.pos x0 (Ev.pos x1 (Ev.call e4 (Ev.now _))))), by rw [List.length_set]; omega, hi4⟩
    by_cases k1 : q = 1
    · exact ⟨_, _, _, st (Ev.neg k0 (Ev.pos k1 (Ev.pos x0 (Ev.pos x1 (Ev.pos (by omega) (Ev.now _)))))), by rw [List.length_append]; simp; omega, hi3⟩
    by_cases k2 : q = 2
    · obtain ⟨y, i4, h4, e4, hi4⟩ := pick_ok l i3 h3 [(⟨#[]⟩ : ByteArray), (⟨#[49, 50, 51, 52, 53, 54, 55, 56]⟩ : ByteArray), (⟨#[49, 50, 51, 52, 53, 54, 55, 56, 57]⟩ : ByteArray)] (by simp) hi3 hl
      exact ⟨_, _, _, st (Ev.neg k0 (Ev.neg k1 (Ev.pos k2 (Ev.call e4 (Ev.pos x0 (Ev.pos x1 (Ev.now _))))))), by rw [List.length_set]; omega, hi4⟩
    by_cases k3 : q = 3
    · obtain ⟨r, i', h', er, z⟩ := disk_l1 l hl 31 0 [] i3 h3 (by omega) (by simp) hi3
      exact ⟨r, i', h', st (Ev.neg k0 (Ev.neg k1 (Ev.neg k2 (Ev.pos k3 er)))), z⟩
    by_cases k4 : q = 4
    · obtain ⟨y, i4, h4, e4, hi4, y0, y1, _⟩ := q5 l i3 h3 3 hi3 hl
      have y1 := y1 (by omega)
      obtain ⟨s, es⟩ := long_ok (wrap64 (19999 + y)) 65 (by rw [w64 (by omega) (by omega)]; omega) (by rw [w64 (by omega) (by omega)]; omega)
      exact ⟨_, _, _, st (Ev.neg k0 (Ev.neg k1 (Ev.neg k2 (Ev.neg k3 (Ev.pos k4 (Ev.call e4 (Ev.bind es (Ev.pos x0 (Ev.pos x1 (Ev.now _)))))))))), by rw [List.length_set]; omega, hi4⟩
    · exact ⟨_, _, _, st (Ev.neg k0 (Ev.neg k1 (Ev.neg k2 (Ev.neg k3 (Ev.neg k4 (Ev.now _)))))), by omega, hi3⟩
  induction d with
  | zero =>
    intro j acc i h hj ha hi
    obtain ⟨b, i1, h1, e, hi1, b0, b1, _⟩ := q5 l i h 6 hi hl
    exact stop j acc i h b i1 h1 (by omega) e (by have := b1 (by omega); omega) hi1
  | succ d ih =>
    intro j acc i h hj ha hi
    obtain ⟨b, i1, h1, e, hi1, b0, b1, _⟩ := q5 l i h 6 hi hl
    by_cases c : (j : Int) < b
    · obtain ⟨n, i2, h2, e2, hi2, n0, n1, _⟩ := q5 l i1 h1 9 hi1 hl
      have n1 := n1 (by omega)
      obtain ⟨t, i3, h3, e3, hi3, ht⟩ := text_ok l hl i2 h2 n hi2 (by omega)
      obtain ⟨m, i4, h4, e4, hi4, m1, m2⟩ := named_ok l i3 h3 hi3 hl
      obtain ⟨q, i5, h5, e5, hi5, q0, q1, _⟩ := q5 l i4 h4 ((t.size : Int) + 1) hi4 hl
      obtain ⟨r, i', h', er, hr⟩ := ih (j + 1) (putF acc ⟨m, t, q⟩) i5 h5 (by omega) (by have := q16 acc ⟨m, t, q⟩; omega) hi5
      refine ⟨r, i', h', Ev.step (fun _ => spec_l03Disk.l0.eq_2 ..) (Ev.call e (Ev.pos c (Ev.call e2 (Ev.bind e3 (Ev.call e4 ?_))))), hr⟩
      rw [w64 (n := (t.size : Int) + 1) (by omega) (by omega), w64_succ j (by omega)]
      exact Ev.call e5 (Ev.bind (put_ev acc ⟨m, t, q⟩ (by omega)) er)
    · exact stop j acc i h b i1 h1 (by omega) e c hi1
theorem act_j0 (l : List Int) (hl : l.length ≤ 140737488355328) (i h kind : Int) (name text dst : ByteArray) (hi : 0 ≤ i) (ht : text.size ≤ 5000) :
    ∃ a b c d i' h', Ev (fun k => spec_l03Act.j0 k l i h kind name text dst) (a, b, c, d, i', h') ∧ c.size ≤ 5000 ∧ 0 ≤ i' := by
  obtain ⟨q, i1, h1, e, hi1, q0, q1, _⟩ := q5 l i h 40 hi hl
  have st : ∀ {r : Int × ByteArray × ByteArray × ByteArray × Int × Int}, Ev _ r → Ev (fun k => spec_l03Act.j0 k l i h kind name text dst) r := fun {r} z => Ev.step (fun _ => spec_l03Act.j0.eq_2 ..) (Ev.call e z)
  by_cases k0 : q = 0
  · obtain ⟨y, i4, h4, e4, hi4, _⟩ := pickInt_ok l i1 h1 [0, 5] (by simp) hi1 hl
    exact ⟨_, _, _, _, _, _, st (Ev.pos k0 (Ev.call e4 (Ev.now _))), ht, hi4⟩
  by_cases k1 : q = 1
  · obtain ⟨y, i4, h4, e4, hi4⟩ := pick_ok l i1 h1 [(⟨#[]⟩ : ByteArray), (⟨#[49, 50, 51, 52, 53, 54, 55, 56, 57]⟩ : ByteArray), (⟨#[110, 101, 119]⟩ : ByteArray)] (by simp) hi1 hl
    exact ⟨_, _, _, _, _, _, st (Ev.neg k0 (Ev.pos k1 (Ev.call e4 (Ev.now _)))), ht, hi4⟩
  by_cases k2 : q = 2
  · exact ⟨_, _, _, _, _, _, st (Ev.neg k0 (Ev.neg k1 (Ev.pos k2 (Ev.now _)))), ht, hi1⟩
  by_cases k3 : q = 3
  · exact ⟨_, _, _, _, _, _, st (Ev.neg k0 (Ev.neg k1 (Ev.neg k2 (Ev.pos k3 (Ev.now _))))), by decide, hi1⟩
  · exact ⟨_, _, _, _, _, _, st (Ev.neg k0 (Ev.neg k1 (Ev.neg k2 (Ev.neg k3 (Ev.now _))))), ht, hi1⟩
theorem act_ok (l : List Int) (hl : l.length ≤ 140737488355328) (i h : Int) (hi : 0 ≤ i) :
    ∃ a b c d i' h', Ev (fun k => spec_l03Act.f k l i h) (a, b, c, d, i', h') ∧ c.size ≤ 5000 ∧ 0 ≤ i' := by
  obtain ⟨q, i1, h1, e, hi1, q0, q1, _⟩ := q5 l i h 4 hi hl
  obtain ⟨m, i2, h2, e2, hi2, _⟩ := named_ok l i1 h1 hi1 hl
  have st : ∀ {r : Int × ByteArray × ByteArray × ByteArray × Int × Int}, Ev _ r → Ev (fun k => spec_l03Act.f k l i h) r := fun {r} z => Ev.congr (fun _ => spec_l03Act.f.eq_1 ..) (Ev.call e (Ev.call e2 z))
  by_cases k1 : wrap64 (1 + q) = 1
  · obtain ⟨n, i3, h3, e3, hi3, n0, n1, _⟩ := q5 l i2 h2 6 hi2 hl
    have n1 := n1 (by omega)
    obtain ⟨t, i4, h4, e4, hi4, ht⟩ := text_ok l hl i3 h3 n hi3 (by omega)
    obtain ⟨a, b, c, d, i', h', er, z⟩ := act_j0 l hl i4 h4 (wrap64 (1 + q)) m t ⟨#[]⟩ hi4 (by omega)
    exact ⟨a, b, c, d, i', h', st (Ev.pos k1 (Ev.call e3 (Ev.bind e4 er))), z⟩
  by_cases k3 : wrap64 (1 + q) = 3
  · obtain ⟨m2, i3, h3, e3, hi3, _⟩ := named_ok l i2 h2 hi2 hl
    obtain ⟨a, b, c, d, i', h', er, z⟩ := act_j0 l hl i3 h3 (wrap64 (1 + q)) m ⟨#[]⟩ m2 hi3 (by decide)
    exact ⟨a, b, c, d, i', h', st (Ev.neg k1 (Ev.pos k3 (Ev.call e3 er))), z⟩
  · obtain ⟨a, b, c, d, i', h', er, z⟩ := act_j0 l hl i2 h2 (wrap64 (1 + q)) m ⟨#[]⟩ ⟨#[]⟩ hi2 (by decide)
    exact ⟨a, b, c, d, i', h', st (Ev.neg k1 (Ev.neg k3 er)), z⟩
theorem once_ok (l : List Int) (hl : l.length ≤ 140737488355328) (i h n : Int) (hi : 0 ≤ i) : ∃ b i' h', spec_l01Once.f l i h n = some (b, i', h') ∧ 0 ≤ i' := by
  obtain ⟨q, i1, h1, e, hi1, _⟩ := q5 l i h n hi hl
  unfold spec_l01Once.f
  rw [e, Option.bind_some]
  exact ⟨_, _, _, rfl, hi1⟩
theorem acts_l0 (l : List Int) (hl : l.length ≤ 140737488355328) (d : Nat) :
    ∀ (j : Nat) (out : List S55) (i h : Int) (fs : List S45), j + d = 9 → out.length ≤ j → (∀ x ∈ out, x.f2.size ≤ 5000) → fs.length ≤ 100 → 0 ≤ i →
      ∃ r i' h', Ev (fun k => spec_l03Acts.l0 k out (j : Int) l i h fs) (r, i', h') ∧ r.length ≤ 9 ∧ (∀ x ∈ r, x.f2.size ≤ 5000) ∧ 0 ≤ i' := by
  induction d with
  | zero =>
    intro j out i h fs hj ho ht hf hi
    obtain ⟨b, i1, h1, e, hi1, b0, b1, _⟩ := q5 l i h 9 hi hl
    exact ⟨out, i1, h1, Ev.step (fun _ => spec_l03Acts.l0.eq_2 ..) (Ev.call e (Ev.neg (by have := b1 (by omega); omega) (Ev.now _))), by omega, ht, hi1⟩
  | succ d ih =>
    intro j out i h fs hj ho ht hf hi
    obtain ⟨b, i1, h1, e, hi1, b0, b1, _⟩ := q5 l i h 9 hi hl
    by_cases c : (j : Int) < b
    · obtain ⟨a0, a1, a2, a3, i2, h2, ea, hsz, hi2⟩ := act_ok l hl i1 h1 hi1
      have hM := actM_len fs a0 a1 a2 a3
      have hact := specDoAct_ev fs a0 a1 a2 a3 (by omega) (by omega)
      have app : ∀ x ∈ out ++ [(⟨a0, a1, a2, a3⟩ : S55)], x.f2.size ≤ 5000 := fun x hx => by
        rcases List.mem_append.1 hx with hx | hx
        · exact ht x hx
        · rw [List.mem_singleton.1 hx]; exact hsz
      have st : ∀ {r : List S55 × Int × Int}, Ev _ r → Ev (fun k => spec_l03Acts.l0 k out (j : Int) l i h fs) r := fun {r} z => Ev.step (fun _ => spec_l03Acts.l0.eq_2 ..) (Ev.call e (Ev.pos c (Ev.bind ea (Ev.bind hact z))))
      by_cases k1 : (actM fs a0 a1 a2 a3).2 = true
      · obtain ⟨r, i', h', er, z⟩ := ih (j + 1) (out ++ [⟨a0, a1, a2, a3⟩]) i2 h2 (actM fs a0 a1 a2 a3).1 (by omega) (by rw [List.length_append]; simp; omega) app (by omega) hi2
        refine ⟨r, i', h', st (Ev.pos k1 (Ev.pos (by omega) ?_)), z⟩
        rw [w64_succ j (by omega)]; exact er
      · obtain ⟨o, i3, h3, eo, hi3⟩ := once_ok l hl i2 h2 20 hi2
        by_cases k2 : o = true
        · obtain ⟨r, i', h', er, z⟩ := ih (j + 1) (out ++ [⟨a0, a1, a2, a3⟩]) i3 h3 (actM fs a0 a1 a2 a3).1 (by omega) (by rw [List.length_append]; simp; omega) app (by omega) hi3
          refine ⟨r, i', h', st (Ev.neg k1 (Ev.call eo (Ev.pos k2 (Ev.pos (by omega) ?_)))), z⟩
          rw [w64_succ j (by omega)]; exact er
        · obtain ⟨r, i', h', er, z⟩ := ih (j + 1) out i3 h3 fs (by omega) (by omega) ht hf hi3
          refine ⟨r, i', h', st (Ev.neg k1 (Ev.call eo (Ev.neg k2 ?_))), z⟩
          rw [w64_succ j (by omega)]; exact er
    · exact ⟨out, i1, h1, Ev.step (fun _ => spec_l03Acts.l0.eq_2 ..) (Ev.call e (Ev.neg c (Ev.now _))), by omega, ht, hi1⟩
theorem place_ok (l : List Int) (hl : l.length ≤ 140737488355328) (i h n : Int) (hi : 0 ≤ i) : ∃ r i' h', spec_l01Place.f l i h n = some (r, i', h') ∧ 0 ≤ i' := by
  obtain ⟨o, i1, h1, e, hi1⟩ := once_ok l hl i h 15 hi
  unfold spec_l01Place.f
  rw [e, Option.bind_some]
  by_cases c : o = true
  · obtain ⟨y, i4, h4, e4, hi4, _⟩ := pickInt_ok l i1 h1 [-1, n, wrap64 (n + 1), 9223372036854775807, -9223372036854775808] (by simp) hi1 hl
    rw [if_pos c, e4, Option.bind_some]; exact ⟨_, _, _, rfl, hi4⟩
  · obtain ⟨q, i4, h4, e4, hi4, _⟩ := q5 l i1 h1 n hi1 hl
    rw [if_neg c, e4, Option.bind_some]; exact ⟨_, _, _, rfl, hi4⟩
theorem left_l0 (l : List Int) (hl : l.length ≤ 140737488355328) (d : Nat) :
    ∀ (j : Nat) (out : List Int) (i h : Int), j + d = 6 → out.length ≤ j → 0 ≤ i → ∃ r i' h', Ev (fun k => spec_l03Left.l0 k out (j : Int) l i h) (r, i', h') ∧ r.length ≤ 6 := by
  induction d with
  | zero =>
    intro j out i h hj ho hi
    obtain ⟨b, i1, h1, e, hi1, b0, b1, _⟩ := q5 l i h 6 hi hl
    exact ⟨out, i1, h1, Ev.step (fun _ => spec_l03Left.l0.eq_2 ..) (Ev.call e (Ev.neg (by have := b1 (by omega); omega) (Ev.now _))), by omega⟩
  | succ d ih =>
    intro j out i h hj ho hi
    obtain ⟨b, i1, h1, e, hi1, b0, b1, _⟩ := q5 l i h 6 hi hl
    by_cases c : (j : Int) < b
    · obtain ⟨y, i4, h4, e4, hi4, _⟩ := pickInt_ok l i1 h1 [0, 1, 2, 3, 5, 9, 40, 200, -1, 9223372036854775807] (by simp) hi1 hl
      obtain ⟨r, i', h', er, z⟩ := ih (j + 1) (out ++ [y]) i4 h4 (by omega) (by rw [List.length_append]; simp; omega) hi4
      refine ⟨r, i', h', Ev.step (fun _ => spec_l03Left.l0.eq_2 ..) (Ev.call e (Ev.pos c (Ev.call e4 (Ev.pos (by omega) ?_)))), z⟩
      rw [w64_succ j (by omega)]; exact er
    · exact ⟨out, i1, h1, Ev.step (fun _ => spec_l03Left.l0.eq_2 ..) (Ev.call e (Ev.neg c (Ev.now _))), by omega⟩
theorem drawCutActs_ok (l : List Int) (hl : l.length ≤ 140737488355328) : ∃ d list whole left, Ev (fun k => spec_DrawCutActs.f k l) (d, list, whole, left) ∧ d.length ≤ 100 ∧ list.length ≤ 9 ∧ ∀ x ∈ list, x.f2.size ≤ 5000 := by
  obtain ⟨h, e⟩ := new_ok l hl
  obtain ⟨d, i1, h1, e1, hd, hi1⟩ := disk_l0 l hl 6 0 [] 0 h (by omega) (by simp) (by omega)
  obtain ⟨list, i2, h2, e2, hlen, hsz, hi2⟩ := acts_l0 l hl 9 0 [] i1 h1 d (by omega) (by simp) (by simp) hd hi1
  obtain ⟨w, i3, h3, e3, hi3⟩ := place_ok l hl i2 h2 (wrap64 ((list.length : Int) + 1)) hi2
  obtain ⟨left, i4, h4, e4, _⟩ := left_l0 l hl 6 0 [] i3 h3 (by omega) (by simp) hi3
  exact ⟨d, list, w, left, Ev.congr (fun _ => spec_DrawCutActs.f.eq_1 ..) (Ev.bind e (Ev.bind (Ev.congr (fun _ => spec_l03Disk.f.eq_1 ..) e1) (Ev.bind (Ev.congr (fun _ => spec_l03Acts.f.eq_1 ..) e2) (Ev.call e3 (Ev.bind (Ev.congr (fun _ => spec_l03Left.f.eq_1 ..) e4) (Ev.now _)))))), hd, hlen, hsz⟩
theorem sameDisk_l0 (a : List S45) (hn : a.length ≤ 140737488355328) (d : Nat) : ∀ i : Nat, i + d = a.length → Ev (fun k => laws_sameDisk.l0 k (i : Int) a a) true := by
  induction d with
  | zero => intro i hi; exact Ev.step (fun _ => laws_sameDisk.l0.eq_2 ..) (Ev.neg (by omega) (Ev.now _))
  | succ d ih =>
    intro i hi
    refine Ev.step (fun _ => laws_sameDisk.l0.eq_2 ..) (Ev.pos (by omega) (Ev.pos (by omega) (Ev.pos (by omega) (Ev.neg (by simp) ?_))))
    rw [w64_succ i (by omega)]; exact ih (i + 1) (by omega)
theorem q15 (a : List S45) (hn : a.length ≤ 140737488355328) : Ev (fun k => laws_sameDisk.f k a a) true :=
  Ev.congr (fun _ => laws_sameDisk.f.eq_1 ..) (Ev.pos rfl (sameDisk_l0 a hn a.length 0 (by omega)))
theorem finD_yes {o : List S45} (h : (finD o).2 = true) : (finD o).1 = o := by
  unfold finD at h ⊢
  split
  · rfl
  · rename_i c; rw [if_neg c] at h; cases h
theorem putF_only {l : List S45} {f x : S45} (h : x ∈ putF l f) (hx : x.f0 = f.f0) : x = f := by
  unfold putF at h
  rcases List.mem_append.1 h with h | h
  · rcases List.mem_append.1 h with h | h
    · have := (List.mem_filter.1 h).2
      unfold ltF at this
      rw [hx, q8] at this; cases this
    · exact List.mem_singleton.1 h
  · have := (List.mem_filter.1 h).2
    unfold gtF at this
    rw [hx, q8] at this; cases this
theorem fileAt_put (l : List S45) (f : S45) : q9 (putF l f) f.f0 = (f.f1, true) := by
  unfold q9
  rcases ix_spec f.f0 (putF l f) 0 with ⟨e, h⟩ | ⟨j, hj, e, hx⟩
  · exact absurd rfl (h f (putF_mem l f))
  · rw [e, Int.zero_add, if_neg (by omega), rdF_nat _ j hj, putF_only (List.getElem_mem hj) hx]
theorem fileAt_held (fs : List S45) (name : ByteArray) : (q9 fs name).1 = (q4 fs name).f1 := by
  unfold q9 q4
  by_cases c : impl_placeOf.ix name fs 0 < 0
  · rw [if_pos c, if_neg (by omega)]
  · rw [if_neg c, if_pos (by omega)]
theorem fileAt_gone (fs : List S45) (name : ByteArray) : (q9 (fs.filter (keepF name)) name).2 = false := by
  unfold q9
  rcases ix_spec name (fs.filter (keepF name)) 0 with ⟨e, h⟩ | ⟨j, hj, e, hx⟩
  · rw [e, if_pos (by omega)]
  · have h2 := (List.mem_filter.1 (List.getElem_mem hj)).2
    have h3 : (!(((fs.filter (keepF name))[j]).f0.toList == name.toList)) = true := h2
    rw [hx] at h3
    simp at h3
theorem actM_good {fs : List S45} {kind : Int} {name text dst : ByteArray} (h : (actM fs kind name text dst).2 = true) : q7 fs = true := by
  by_cases c : q7 fs = true
  · exact c
  · unfold actM at h
    rw [if_neg (fun z => c z.1)] at h; cases h
theorem actM_add {fs : List S45} {name text dst : ByteArray} (h : (actM fs 1 name text dst).2 = true) : q9 (actM fs 1 name text dst).1 name = ((q4 fs name).f1 ++ text, true) := by
  unfold actM at h ⊢
  split
  · rename_i c
    rw [if_pos c, if_pos rfl] at h
    rw [if_pos rfl, finD_yes h]
    have e := fileAt_put fs ⟨(q4 fs name).f0, (q4 fs name).f1 ++ text, (q4 fs name).f2⟩
    exact (congrArg (q9 (putF fs ⟨(q4 fs name).f0, (q4 fs name).f1 ++ text, (q4 fs name).f2⟩)) (heldF_name fs name).symm).trans e
  · rename_i c; rw [if_neg c] at h; cases h
theorem actM_drop {fs : List S45} {name text dst : ByteArray} (h : (actM fs 4 name text dst).2 = true) : (q9 (actM fs 4 name text dst).1 name).2 = false := by
  unfold actM at h ⊢
  split
  · rename_i c
    rw [if_pos c, if_neg (by omega)] at h
    rw [if_neg (by omega)]
    by_cases c2 : impl_placeOf.ix name fs 0 < 0
    · rw [if_pos c2] at h; cases h
    · rw [if_neg c2, if_neg (by omega), if_neg (by omega), if_pos rfl] at h
      rw [if_neg c2, if_neg (by omega), if_neg (by omega), if_pos rfl, finD_yes h]
      exact fileAt_gone fs name
  · rename_i c; rw [if_neg c] at h; cases h
theorem actsM_ge (l : List S55) : ∀ (i : Nat) (d : List S45), (i : Int) ≤ (q11 l i d).2 ∧ (q11 l i d).2 ≤ (i : Int) + l.length := by
  induction l with
  | nil => intro i d; unfold q11; simp
  | cons a r ih =>
    intro i d
    unfold q11
    split
    · have := ih (i + 1) (actM d a.f0 a.f1 a.f2 a.f3).1
      rw [List.length_cons]; omega
    · rw [List.length_cons]; show (i : Int) ≤ (i : Int) ∧ _; omega
theorem acts_run (list : List S55) (whole : Int) (left : List Int) (ds now : List S45) (n : Int) (hl : list.length ≤ 9) (ht : ∀ x ∈ list, x.f2.size ≤ 5000) (hd : ds.length ≤ 100) (hnow : now.length ≤ 1048576) (d : Nat) :
    ∀ (i : Nat) (one : List S45), i + d = list.length → one.length ≤ 1048576 → q11 (list.drop i) i one = (now, n) → Ev (fun k => laws_FnActs.l0 k list whole left n (i : Int) ds now one) true := by
  have fin : ∀ (i : Nat) (one : List S45), one.length ≤ 1048576 → one = now → ¬ (i : Int) < n → Ev (fun k => laws_FnActs.l0 k list whole left n (i : Int) ds now one) true := by
    intro i one ho he hi
    subst he
    have hc := cutM_len list whole left ds (by omega)
    refine Ev.step (fun _ => laws_FnActs.l0.eq_2 ..) (Ev.neg hi (Ev.bind (implCutActs_ev list whole left ds (fun x hx => by have := ht x hx; omega) (by omega) (by omega)) (Ev.bind (specCutActs_ev list whole left ds (fun x hx => by have := ht x hx; omega) (by omega) (by omega)) (Ev.pos (by simp) (Ev.bind (q15 _ (by omega)) (Ev.pos rfl ?_))))))
    exact Ev.ite (fun _ => Ev.now _) (fun _ => Ev.bind (q15 _ (by omega)) (Ev.now _))
  induction d with
  | zero =>
    intro i one hi ho h
    rw [List.drop_eq_nil_of_le (by omega)] at h
    unfold q11 at h
    obtain ⟨e1, e2⟩ := Prod.mk.inj h
    exact fin i one ho e1 (by omega)
  | succ d ih =>
    intro i one hi ho h
    have hx : i < list.length := by omega
    rw [List.drop_eq_getElem_cons hx] at h
    have hsz := ht _ (List.getElem_mem hx)
    unfold q11 at h
    by_cases c : (actM one list[i].f0 list[i].f1 list[i].f2 list[i].f3).2 = true
    · rw [if_pos c] at h
      have hge := actsM_ge (list.drop (i + 1)) (i + 1) (actM one list[i].f0 list[i].f1 list[i].f2 list[i].f3).1
      rw [h] at hge
      have hdk := actM_good c
      have hhs := heldF_size hdk list[i].f1
      have hM := actM_len one list[i].f0 list[i].f1 list[i].f2 list[i].f3
      have nx : Ev (fun k => laws_FnActs.l0 k list whole left n (wrap64 ((i : Int) + 1)) ds now (actM one list[i].f0 list[i].f1 list[i].f2 list[i].f3).1) true := by
        rw [w64_succ i (by omega)]; exact ih (i + 1) _ (by omega) (by omega) h
      refine Ev.step (fun _ => laws_FnActs.l0.eq_2 ..) (Ev.pos (by have : n = (now, n).2 := rfl; omega) (Ev.pos (by omega) (Ev.pos (by omega) ?_)))
      rw [rdA_nat list i hx]
      refine Ev.bind (implDoAct_ev one _ _ _ _ (by omega) (by omega)) (Ev.pos c (Ev.call (implFileAt_eq one _) (Ev.call (implFileAt_eq _ _) (Ev.ite (fun k1 => ?_) (fun k1 => Ev.ite (fun k4 => ?_) (fun _ => nx))))))
      · rw [k1] at c nx ⊢
        rw [actM_add c, fileAt_held]
        exact Ev.pos rfl (Ev.pos (by omega) (Ev.pos rfl (Ev.neg (by omega) nx)))
      · rw [k4] at c nx ⊢
        rw [actM_drop c]
        exact Ev.neg (by simp) nx
    · rw [if_neg c] at h
      obtain ⟨e1, e2⟩ := Prod.mk.inj h
      exact fin i one ho e1 (by omega)
theorem FnActs : laws_FnActs.Pure := by
  intro l hl hm hw
  apply Ev.rounds
  have hlen : l.length ≤ 140737488355328 := by unfold maxLen at *; omega
  refine Ev.congr (fun _ => laws_FnActs.f.eq_1 ..) (Ev.call (big_eq l) (Ev.ite (fun _ => Ev.now _) (fun hb => ?_)))
  obtain ⟨d, list, whole, left, e, hd, hlist, hsz⟩ := drawCutActs_ok l hlen
  have hlA := actsM_len list 0 d (by omega)
  refine Ev.bind e (Ev.bind (implDoActs_ev list d (fun x hx => by have := hsz x hx; omega) (by omega) (by omega)) (Ev.bind (specDoActs_ev list d (fun x hx => by have := hsz x hx; omega) (by omega) (by omega)) (Ev.pos rfl (Ev.bind (q15 _ (by omega)) ?_))))
  refine Ev.step (fun _ => laws_FnActs.j0.eq_2 ..) (Ev.neg (by simp) ?_)
  exact acts_run list whole left d (q11 list 0 d).1 (q11 list 0 d).2 hlist hsz hd hlA list.length 0 d (by omega) (by omega) rfl

end Go.Proofs.Ythfppepnpngfmaa.Pure
