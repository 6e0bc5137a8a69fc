/- FnExactLoseDisk returns true for all arguments: the program's LoseDisk answers what the reference's answers, leaves its arguments as they are, and hands out files of its own. No conditions beyond the statement's own. -/
import Derived.Test.YthfppepnpngfmaaQklx10
import Derived.Test.YthfppepnpngfmaaVBase
namespace Go.Proofs.Ythfppepnpngfmaa.Pure
open Go.RowKit Go.Proofs.Ythfppepnpngfmaa.Qkl Go.Proofs.YthfppepnpngfmaaW.PrintWords Go.Proofs.YthfppepnpngfmaaW.PrintLast Go.Proofs.YthfppepnpngfmaaW.PrintMore Go.Proofs.Ythfppepnpngfmaa.Base

instance decS45 : DecidableEq S45 := fun a b => decidable_of_iff (a.f0 = b.f0 ∧ a.f1 = b.f1 ∧ a.f2 = b.f2) (by cases a; cases b; simp)
theorem rdF_nat (xs : List S45) (i : Nat) (h : i < xs.length) : rd_T45 xs (i : Int) = xs[i] := by
  unfold rd_T45
  rw [Int.toNat_natCast, List.getD_eq_getElem?_getD, List.getElem?_eq_getElem h]; rfl
theorem rdG_nat (xs : List S94) (i : Nat) (h : i < xs.length) : rd_T94 xs (i : Int) = xs[i] := by
  unfold rd_T94
  rw [Int.toNat_natCast, List.getD_eq_getElem?_getD, List.getElem?_eq_getElem h]; rfl
def toF (x : S94) : S45 := ⟨x.f0, x.f1, x.f2⟩
theorem toFileS_l0 (a : List S94) (hn : a.length ≤ 140737488355328) (d : Nat) :
    ∀ i : Nat, i + d = a.length → Ev (fun k => laws_toFileS.l0 k a ((a.map toF).take i ++ List.replicate (a.length - i) z45) (i : Int)) (a.map toF) := by
  induction d with
  | zero =>
    intro i hi
    refine Ev.step (fun _ => laws_toFileS.l0.eq_2 ..) ?_
    refine Ev.neg (by omega) (Ev.some ?_)
    rw [show a.length - i = 0 from by omega, List.take_of_length_le (by simp; omega)]; simp
  | succ d ih =>
    intro i hi
    refine Ev.step (fun _ => laws_toFileS.l0.eq_2 ..) ?_
    refine Ev.pos (by omega) (Ev.pos (by omega) (Ev.call rfl (Ev.pos (by simp; omega) ?_)))
    have e := take_set_replicate (a.map toF) z45 i (by simp; omega)
    have e2 : (a.map toF)[i]'(by simp; omega) = ⟨(rd_T94 a (i : Int)).f0, (rd_T94 a (i : Int)).f1, (rd_T94 a (i : Int)).f2⟩ := by
      rw [List.getElem_map, rdG_nat a i (by omega)]; rfl
    rw [e2, List.length_map] at e
    rw [w64_succ i (by omega), Int.toNat_natCast]
    show Ev (fun k => laws_toFileS.l0 k a (((a.map toF).take i ++ List.replicate (a.length - i) z45).set i ⟨(rd_T94 a (i : Int)).f0, (rd_T94 a (i : Int)).f1, (rd_T94 a (i : Int)).f2⟩) ((i + 1 : Nat) : Int)) _
    rw [e]
    exact ih (i + 1) (by omega)
theorem toDisk_ev (a : List S94) (hn : a.length ≤ 1048576) : Ev (fun k => laws_toDisk.f k a) (a.map toF) := by
  refine Ev.congr (fun _ => laws_toDisk.f.eq_1 ..) (Ev.bind (Ev.congr (fun _ => laws_toFileS.f.eq_1 ..) (Ev.pos (by omega) (Ev.pos (by omega) ?_))) (Ev.now _))
  have h := toFileS_l0 a (by omega) a.length 0 (by omega)
  simpa using h
theorem eqFile_eq (a b : S45) : laws_eqFile.f a.f0 a.f1 a.f2 b.f0 b.f1 b.f2 = some (decide (a = b)) := by
  unfold laws_eqFile.f
  obtain ⟨a0, a1, a2⟩ := a
  obtain ⟨b0, b1, b2⟩ := b
  simp only [toList_eq, S45.mk.injEq]
  by_cases h0 : a0 = b0 <;> by_cases h1 : a1 = b1 <;> by_cases h2 : a2 = b2 <;> simp [h0, h1, h2]
theorem eqFileS_l0 (a b : List S45) (hlen : a.length = b.length) (hn : a.length ≤ 140737488355328) (d : Nat) :
    ∀ i : Nat, i + d = a.length → Ev (fun k => laws_eqFileS.l0 k a b (i : Int)) (decide (a.drop i = b.drop i)) := by
  induction d with
  | zero =>
    intro i hi
    refine Ev.step (fun _ => laws_eqFileS.l0.eq_2 ..) ?_
    refine Ev.neg (by omega) (Ev.some ?_)
    rw [List.drop_eq_nil_of_le (by omega), List.drop_eq_nil_of_le (by omega)]; simp
  | succ d ih =>
    intro i hi
    refine Ev.step (fun _ => laws_eqFileS.l0.eq_2 ..) ?_
    refine Ev.pos (by omega) (Ev.pos (by omega) (Ev.pos (by omega) (Ev.call (eqFile_eq _ _) ?_)))
    rw [rdF_nat a i (by omega), rdF_nat b i (by omega), w64_succ i (by omega), drop_eq_iff a b i (by omega) (by omega)]
    refine Ev.ite (fun h => ?_) (fun h => ?_)
    · rw [h, Bool.true_and]; exact ih (i + 1) (by omega)
    · rw [Bool.eq_false_iff.2 h]; exact Ev.now _
theorem eqDisk_ev (a b : List S45) (hn : a.length ≤ 140737488355328) : Ev (fun k => laws_eqDisk.f k a b) (decide (a = b)) := by
  refine Ev.congr (fun _ => laws_eqDisk.f.eq_1 ..) (Ev.bind (a := decide (a = b)) (Ev.congr (fun _ => laws_eqFileS.f.eq_1 ..) (Ev.ite (fun h => ?_) (fun h => ?_))) (Ev.ite (fun h => Ev.some h.symm) (fun h => Ev.some (Bool.eq_false_iff.2 h).symm)))
  · exact eqFileS_l0 a b (by omega) hn a.length 0 (by omega)
  · rw [decide_eq_false (fun e => h (by rw [e]))]; exact Ev.now _
theorem eqDisk_self (a : List S45) (hn : a.length ≤ 140737488355328) : Ev (fun k => laws_eqDisk.f k a a) true := by
  have h := eqDisk_ev a a hn
  rwa [decide_eq_true rfl] at h
theorem szFile_ok (x : S94) (n : Int) (h0 : x.f0.size ≤ maxLen) (h1 : x.f1.size ≤ maxLen) (hn : 0 ≤ n ∧ n ≤ 1048576) :
    ∃ r, laws_szFile.f x.f0 x.f1 x.f2 n = some r ∧ r ≤ n ∧ -1 ≤ r ∧ (0 ≤ r → x.f0.size ≤ 1048576 ∧ x.f1.size ≤ 1048576) := by
  unfold laws_szFile.f maxLen at *
  rw [w64 (n := n - (x.f0.size : Int)) (by omega) (by omega)]
  by_cases c : n - (x.f0.size : Int) < 0
  · rw [if_pos c]; exact ⟨_, rfl, by omega, by omega, by omega⟩
  · rw [if_neg c, w64 (n := n - (x.f0.size : Int) - (x.f1.size : Int)) (by omega) (by omega)]
    by_cases c2 : n - (x.f0.size : Int) - (x.f1.size : Int) < 0
    · rw [if_pos c2]; exact ⟨_, rfl, by omega, by omega, by omega⟩
    · rw [if_neg c2]; exact ⟨_, rfl, by omega, by omega, by omega⟩
theorem szFileS_l0 (a : List S94) (hs : ∀ x ∈ a, x.f0.size ≤ maxLen ∧ x.f1.size ≤ maxLen) (hl : a.length ≤ maxLen) (d : Nat) :
    ∀ (i : Nat) (n : Int), i + d = a.length → 0 ≤ n → n ≤ 1048576 → ∃ r, Ev (fun k => laws_szFileS.l0 k a n (i : Int)) r ∧ r ≤ n ∧ (0 ≤ r → ∀ x ∈ a.drop i, x.f0.size ≤ 1048576 ∧ x.f1.size ≤ 1048576) := by
  induction d with
  | zero =>
    intro i n hi h0 h1
    refine ⟨n, Ev.step (fun _ => laws_szFileS.l0.eq_2 ..) (Ev.neg (by omega) (Ev.now _)), by omega, fun _ x hx => ?_⟩
    rw [List.drop_eq_nil_of_le (by omega)] at hx; simp at hx
  | succ d ih =>
    intro i n hi h0 h1
    have hx := hs _ (List.getElem_mem (by omega : i < a.length))
    obtain ⟨r1, e1, q1, q2, q3⟩ := szFile_ok a[i] n hx.1 hx.2 ⟨h0, h1⟩
    rw [← rdG_nat a i (by omega)] at e1
    by_cases c : r1 < 0
    · exact ⟨-1, Ev.step (fun _ => laws_szFileS.l0.eq_2 ..) (Ev.pos (by omega) (Ev.pos (by omega) (Ev.call e1 (Ev.pos c (Ev.now _))))), by omega, by omega⟩
    · obtain ⟨r, er, p1, p2⟩ := ih (i + 1) r1 (by omega) (by omega) (by omega)
      refine ⟨r, Ev.step (fun _ => laws_szFileS.l0.eq_2 ..) (Ev.pos (by omega) (Ev.pos (by omega) (Ev.call e1 (Ev.neg c ?_)))), by omega, fun hr x hx => ?_⟩
      · rw [w64_succ i (by unfold maxLen at hl; omega)]; exact er
      · rw [List.drop_eq_getElem_cons (i := i) (by omega)] at hx
        rcases List.mem_cons.1 hx with rfl | hx
        · exact q3 (by omega)
        · exact p2 hr x hx
theorem szDisk_ok (a : List S94) (hs : ∀ x ∈ a, x.f0.size ≤ maxLen ∧ x.f1.size ≤ maxLen) (hl : a.length ≤ maxLen) (n : Int) (hn : 0 ≤ n ∧ n ≤ 1048576) :
    ∃ r, Ev (fun k => laws_szDisk.f k a n) r ∧ r ≤ n ∧ (0 ≤ r → a.length ≤ 1048576 ∧ ∀ x ∈ a, x.f0.size ≤ 1048576 ∧ x.f1.size ≤ 1048576) := by
  have hm : maxLen = 9223372036854775807 := rfl
  have hw : wrap64 (n - (a.length : Int)) = n - (a.length : Int) := w64 (by omega) (by omega)
  by_cases c : n - (a.length : Int) < 0
  · refine ⟨-1, Ev.congr (fun _ => laws_szDisk.f.eq_1 ..) (Ev.bind (a := -1) (Ev.congr (fun _ => laws_szFileS.f.eq_1 ..) ?_) (Ev.pos (by omega) (Ev.now _))), by omega, by omega⟩
    rw [hw]; exact Ev.pos c (Ev.now _)
  · obtain ⟨r, er, q1, q2⟩ := szFileS_l0 a hs hl a.length 0 (n - (a.length : Int)) (by omega) (by omega) (by omega)
    have e : Ev (fun k => laws_szFileS.f k a n) r := by
      refine Ev.congr (fun _ => laws_szFileS.f.eq_1 ..) ?_
      rw [hw]; exact Ev.neg c er
    by_cases c2 : r < 0
    · exact ⟨-1, Ev.congr (fun _ => laws_szDisk.f.eq_1 ..) (Ev.bind e (Ev.pos c2 (Ev.now _))), by omega, by omega⟩
    · exact ⟨r, Ev.congr (fun _ => laws_szDisk.f.eq_1 ..) (Ev.bind e (Ev.neg c2 (Ev.now _))), by omega, fun h => ⟨by omega, by simpa using q2 h⟩⟩
theorem l01In_eq (n lo hi : Int) : spec_l01In.f n lo hi = some (decide (lo ≤ n ∧ n ≤ hi)) := by
  unfold spec_l01In.f
  by_cases h : n ≥ lo
  · rw [if_pos h]; congr 1; rw [decide_eq_decide]; exact ⟨fun h2 => ⟨h, h2⟩, fun h2 => h2.2⟩
  · rw [if_neg h]; congr 1; symm; rw [decide_eq_false_iff_not]; exact fun h2 => h h2.1
theorem within_eq (n lo hi : Int) : impl_within.f n lo hi = some (decide (lo ≤ n ∧ n ≤ hi)) := by
  unfold impl_within.f
  by_cases h : n ≥ lo
  · rw [if_pos h]; congr 1; rw [decide_eq_decide]; exact ⟨fun h2 => ⟨h, h2⟩, fun h2 => h2.2⟩
  · rw [if_neg h]; congr 1; symm; rw [decide_eq_false_iff_not]; exact fun h2 => h h2.1
def okAt (fs : List S45) (i : Nat) : Prop := (1 ≤ ((rd_T45 fs (i : Int)).f0.size : Int) ∧ ((rd_T45 fs (i : Int)).f0.size : Int) ≤ 8) ∧ ¬ ((rd_T45 fs (i : Int)).f1.size : Int) > 20000 ∧ (0 ≤ (rd_T45 fs (i : Int)).f2 ∧ (rd_T45 fs (i : Int)).f2 ≤ ((rd_T45 fs (i : Int)).f1.size : Int)) ∧
  (0 < i → Op.bytesLess (rd_T45 fs ((i : Int) - 1)).f0.toList (rd_T45 fs (i : Int)).f0.toList = true)
instance (fs : List S45) (i : Nat) : Decidable (okAt fs i) := by unfold okAt; exact inferInstance
def allFrom (fs : List S45) : Nat → Nat → Bool
  | 0, _ => true
  | d + 1, i => decide (okAt fs i) && allFrom fs d (i + 1)
theorem allFrom_iff (fs : List S45) (d : Nat) : ∀ i, allFrom fs d i = true ↔ ∀ j, j < d → okAt fs (i + j) := by
  induction d with
  | zero => intro i; simp [allFrom]
  | succ d ih =>
    intro i
    unfold allFrom
    rw [Bool.and_eq_true, decide_eq_true_iff, ih]
    constructor
    · rintro ⟨h1, h2⟩ j hj
      cases j with
      | zero => exact h1
      | succ j => have := h2 j (by omega); rwa [show i + 1 + j = i + (j + 1) from by omega] at this
    · intro h
      refine ⟨h 0 (by omega), fun j hj => ?_⟩
      have := h (j + 1) (by omega)
      rwa [show i + (j + 1) = i + 1 + j from by omega] at this
def diskB (fs : List S45) : Bool := allFrom fs fs.length 0 && decide (fs.length ≤ 30)
theorem implDiskOk_l0 (fs : List S45) (hn : fs.length ≤ 140737488355328) (d : Nat) :
    ∀ i : Nat, i + d = fs.length → Ev (fun k => impl_DiskOk.l0 k fs (fs.length : Int) (i : Int) fs) (allFrom fs d i && decide (fs.length ≤ 30)) := by
  induction d with
  | zero =>
    intro i hi
    refine Ev.step (fun _ => impl_DiskOk.l0.eq_2 ..) (Ev.neg (by omega) (Ev.some ?_))
    unfold allFrom
    rw [Bool.true_and, decide_eq_decide]; omega
  | succ d ih =>
    intro i hi
    unfold allFrom
    have no : ¬ okAt fs i → ∀ b c : Bool, ((decide (okAt fs i) && b) && c) = false := fun h b c => by rw [decide_eq_false h]; rfl
    refine Ev.step (fun _ => impl_DiskOk.l0.eq_2 ..) (Ev.pos (by omega) (Ev.pos (by omega) (Ev.pos (by omega) (Ev.call (within_eq ..) ?_))))
    by_cases h1 : 1 ≤ ((rd_T45 fs (i : Int)).f0.size : Int) ∧ ((rd_T45 fs (i : Int)).f0.size : Int) ≤ 8
    · refine Ev.pos (by rw [decide_eq_true h1]) (Ev.ite (fun h2 => ?_) (fun h2 => ?_))
      · exact Ev.some (no (fun z => z.2.1 h2) _ _).symm
      · refine Ev.call (within_eq ..) ?_
        by_cases h3 : 0 ≤ (rd_T45 fs (i : Int)).f2 ∧ (rd_T45 fs (i : Int)).f2 ≤ ((rd_T45 fs (i : Int)).f1.size : Int)
        · refine Ev.pos (by rw [decide_eq_true h3]) ?_
          rw [w64_succ i (by omega)]
          by_cases hi0 : 0 < i
          · rw [w64 (n := (i : Int) - 1) (by omega) (by omega)]
            refine Ev.pos (by omega) (Ev.pos (by omega) (Ev.pos (by omega) (Ev.ite (fun h4 => ?_) (fun h4 => ?_))))
            · rw [show decide (okAt fs i) = true from decide_eq_true ⟨h1, h2, h3, fun _ => h4⟩, Bool.true_and]
              exact ih (i + 1) (by omega)
            · exact Ev.some (no (fun z => h4 (z.2.2.2 hi0)) _ _).symm
          · refine Ev.neg (by omega) ?_
            rw [show decide (okAt fs i) = true from decide_eq_true ⟨h1, h2, h3, fun z => absurd z hi0⟩, Bool.true_and]
            exact ih (i + 1) (by omega)
        · exact Ev.neg (by rw [decide_eq_false h3]; simp) (Ev.some (no (fun z => h3 z.2.2.1) _ _).symm)
    · exact Ev.neg (by rw [decide_eq_false h1]; simp) (Ev.some (no (fun z => h1 z.1) _ _).symm)
theorem implDiskOk_ev (fs : List S45) (hn : fs.length ≤ 140737488355328) : Ev (fun k => impl_DiskOk.f k fs) (diskB fs) :=
  Ev.congr (fun _ => impl_DiskOk.f.eq_1 ..) (implDiskOk_l0 fs hn fs.length 0 (by omega))
theorem specName_eq (s : ByteArray) : spec_l03Name.f s = some (decide (1 ≤ (s.size : Int) ∧ (s.size : Int) ≤ 8)) := by
  unfold spec_l03Name.f; rw [l01In_eq, Option.bind_some]
theorem specDiskOk_l0 (fs : List S45) (hn : fs.length ≤ 140737488355328) (d : Nat) :
    ∀ i : Nat, i + d = fs.length → Ev (fun k => spec_DiskOk.l0 k (i : Int) fs) (allFrom fs d i) := by
  induction d with
  | zero =>
    intro i hi
    exact Ev.step (fun _ => spec_DiskOk.l0.eq_2 ..) (Ev.neg (by omega) (Ev.some rfl))
  | succ d ih =>
    intro i hi
    unfold allFrom
    have no : ¬ okAt fs i → ∀ b : Bool, (decide (okAt fs i) && b) = false := fun h b => by rw [decide_eq_false h]; rfl
    refine Ev.step (fun _ => spec_DiskOk.l0.eq_2 ..) (Ev.pos (by omega) (Ev.pos (by omega) (Ev.call (specName_eq _) ?_)))
    by_cases h1 : 1 ≤ ((rd_T45 fs (i : Int)).f0.size : Int) ∧ ((rd_T45 fs (i : Int)).f0.size : Int) ≤ 8
    · refine Ev.pos (by rw [decide_eq_true h1]) (Ev.ite (fun h2 => ?_) (fun h2 => ?_))
      · exact Ev.some (no (fun z => z.2.1 h2) _).symm
      · refine Ev.call (l01In_eq ..) ?_
        by_cases h3 : 0 ≤ (rd_T45 fs (i : Int)).f2 ∧ (rd_T45 fs (i : Int)).f2 ≤ ((rd_T45 fs (i : Int)).f1.size : Int)
        · refine Ev.pos (by rw [decide_eq_true h3]) ?_
          rw [w64_succ i (by omega)]
          by_cases hi0 : 0 < i
          · rw [w64 (n := (i : Int) - 1) (by omega) (by omega)]
            refine Ev.pos (by omega) (Ev.pos (by omega) (Ev.pos (by omega) (Ev.ite (fun h4 => ?_) (fun h4 => ?_))))
            · rw [show decide (okAt fs i) = true from decide_eq_true ⟨h1, h2, h3, fun _ => h4⟩, Bool.true_and]
              exact ih (i + 1) (by omega)
            · exact Ev.some (no (fun z => h4 (z.2.2.2 hi0)) _).symm
          · refine Ev.neg (by omega) ?_
            rw [show decide (okAt fs i) = true from decide_eq_true ⟨h1, h2, h3, fun z => absurd z hi0⟩, Bool.true_and]
            exact ih (i + 1) (by omega)
        · exact Ev.neg (by rw [decide_eq_false h3]; simp) (Ev.some (no (fun z => h3 z.2.2.1) _).symm)
    · exact Ev.neg (by rw [decide_eq_false h1]; simp) (Ev.some (no (fun z => h1 z.1) _).symm)
theorem specDiskOk_ev (fs : List S45) (hn : fs.length ≤ 140737488355328) : Ev (fun k => spec_DiskOk.f k fs) (diskB fs) := by
  refine Ev.congr (fun _ => spec_DiskOk.f.eq_1 ..) (Ev.ite (fun h => ?_) (fun h => ?_))
  · unfold diskB; rw [decide_eq_false (by omega : ¬ fs.length ≤ 30), Bool.and_false]; exact Ev.now _
  · unfold diskB; rw [decide_eq_true (by omega : fs.length ≤ 30), Bool.and_true]; exact specDiskOk_l0 fs hn fs.length 0 (by omega)
theorem take_set_drop {α : Type} (L a : List α) (h : L.length = a.length) (i : Nat) (hi : i < a.length) : (L.take i ++ a.drop i).set i (L[i]'(by omega)) = L.take (i + 1) ++ a.drop (i + 1) := by
  rw [List.set_append_right _ _ (by rw [List.length_take]; omega), List.length_take, Nat.min_eq_left (by omega), Nat.sub_self, List.drop_eq_getElem_cons hi, List.set_cons_zero, List.take_succ_eq_append_getElem (by omega), List.append_assoc]
  rfl
theorem diskB_kept {fs : List S45} (h : diskB fs = true) (i : Nat) (hi : i < fs.length) : 0 ≤ (rd_T45 fs (i : Int)).f2 ∧ (rd_T45 fs (i : Int)).f2 ≤ ((rd_T45 fs (i : Int)).f1.size : Int) := by
  unfold diskB at h
  rw [Bool.and_eq_true] at h
  have := (allFrom_iff fs fs.length 0).1 h.1 i hi
  rw [Nat.zero_add] at this
  exact this.2.2.1
theorem diskB_len {fs : List S45} (h : diskB fs = true) : fs.length ≤ 30 := by
  unfold diskB at h
  rw [Bool.and_eq_true, decide_eq_true_iff] at h
  exact h.2
def leftN (left : List Int) (fs : List S45) (i : Nat) : Int := if (i : Int) < (left.length : Int) then mx (rd_T45 fs (i : Int)).f2 (mn (rd left (i : Int)) ((rd_T45 fs (i : Int)).f1.size : Int)) else (rd_T45 fs (i : Int)).f2
def lostF (f : S45) (n : Int) : S45 := ⟨f.f0, f.f1.extract 0 n.toNat, n⟩
def loseL (left : List Int) (fs : List S45) : List S45 := (List.range fs.length).map (fun i : Nat => lostF (rd_T45 fs (i : Int)) (leftN left fs i))
theorem loseL_length (left : List Int) (fs : List S45) : (loseL left fs).length = fs.length := by simp [loseL]
theorem loseL_get (left : List Int) (fs : List S45) (i : Nat) (h : i < (loseL left fs).length) : (loseL left fs)[i] = lostF (rd_T45 fs (i : Int)) (leftN left fs i) := by simp [loseL]
def loseM (left : List Int) (fs : List S45) : List S45 × Bool := if diskB fs = true then (loseL left fs, true) else ([], false)
theorem implLoseDisk_l0 (left : List Int) (fs : List S45) (hd : diskB fs = true) (d : Nat) :
    ∀ i : Nat, i + d = fs.length → Ev (fun k => impl_LoseDisk.l0 k left fs (fs.length : Int) (i : Int) ((loseL left fs).take i ++ fs.drop i)) (loseL left fs, true) := by
  have hl := diskB_len hd
  induction d with
  | zero =>
    intro i hi
    refine Ev.step (fun _ => impl_LoseDisk.l0.eq_2 ..) (Ev.neg (by omega) (Ev.some ?_))
    obtain rfl : i = fs.length := by omega
    rw [List.take_of_length_le (by rw [loseL_length]; omega)]; simp
  | succ d ih =>
    intro i hi
    have hk := diskB_kept hd i (by omega)
    have hlen : ((loseL left fs).take i ++ fs.drop i).length = fs.length := by simp [loseL_length]; omega
    have hset := take_set_drop (loseL left fs) fs (loseL_length _ _) i (by omega)
    rw [loseL_get] at hset
    refine Ev.step (fun _ => impl_LoseDisk.l0.eq_2 ..) (Ev.pos (by omega) (Ev.pos (by omega) (Ev.pos (by omega) (Ev.ite (fun c => ?_) (fun c => ?_)))))
    · have e : leftN left fs i = mx (rd_T45 fs (i : Int)).f2 (mn (rd left (i : Int)) ((rd_T45 fs (i : Int)).f1.size : Int)) := if_pos c
      rw [← e]
      have hr : 0 ≤ leftN left fs i ∧ leftN left fs i ≤ ((rd_T45 fs (i : Int)).f1.size : Int) := by
        rw [e]; unfold mx mn; split <;> split <;> omega
      refine Ev.pos hr.1 (Ev.pos hr.2 (Ev.pos (by rw [hlen]; omega) ?_))
      rw [w64_succ i (by omega), Int.toNat_natCast]
      show Ev (fun k => impl_LoseDisk.l0 k left fs (fs.length : Int) ((i + 1 : Nat) : Int) (((loseL left fs).take i ++ fs.drop i).set i (lostF (rd_T45 fs (i : Int)) (leftN left fs i)))) _
      rw [hset]
      exact ih (i + 1) (by omega)
    · have e : leftN left fs i = (rd_T45 fs (i : Int)).f2 := if_neg c
      refine Ev.pos hk.1 (Ev.pos hk.2 (Ev.pos (by rw [hlen]; omega) ?_))
      rw [w64_succ i (by omega), Int.toNat_natCast]
      rw [e] at hset
      show Ev (fun k => impl_LoseDisk.l0 k left fs (fs.length : Int) ((i + 1 : Nat) : Int) (((loseL left fs).take i ++ fs.drop i).set i (lostF (rd_T45 fs (i : Int)) (rd_T45 fs (i : Int)).f2))) _
      rw [hset]
      exact ih (i + 1) (by omega)
theorem implLoseDisk_ev (left : List Int) (fs : List S45) (hn : fs.length ≤ 140737488355328) : Ev (fun k => impl_LoseDisk.f k fs left) (loseM left fs) := by
  refine Ev.congr (fun _ => impl_LoseDisk.f.eq_1 ..) (Ev.bind (implDiskOk_ev fs hn) (Ev.ite (fun h => ?_) (fun h => ?_)))
  · refine Ev.call (a := fs) ?_ ?_
    · unfold impl_copyDisk.f
      rw [Option.bind_some, if_pos (by have := diskB_len h; simp; omega)]; rfl
    · unfold loseM; rw [if_pos h]
      have := implLoseDisk_l0 left fs h fs.length 0 (by omega)
      simpa using this
  · unfold loseM; rw [if_neg h]; exact Ev.now _
theorem specLoseDisk_l0 (left : List Int) (fs : List S45) (hd : diskB fs = true) (d : Nat) :
    ∀ i : Nat, i + d = fs.length → Ev (fun k => spec_LoseDisk.l0 k left (i : Int) fs ((loseL left fs).take i)) (loseL left fs, true) := by
  have hl := diskB_len hd
  induction d with
  | zero =>
    intro i hi
    refine Ev.step (fun _ => spec_LoseDisk.l0.eq_2 ..) (Ev.neg (by omega) (Ev.some ?_))
    rw [List.take_of_length_le (by rw [loseL_length]; omega)]
  | succ d ih =>
    intro i hi
    have hk := diskB_kept hd i (by omega)
    have hlen : ((loseL left fs).take i).length = i := by simp [loseL_length]; omega
    have fin : ∀ n : Int, n = leftN left fs i → 0 ≤ n → n ≤ ((rd_T45 fs (i : Int)).f1.size : Int) → Ev (fun k => if 0 ≤ n then (if n ≤ ((rd_T45 fs (i : Int)).f1.size : Int) then (if ((loseL left fs).take i).length < 3518437208883 then (spec_LoseDisk.l0 k left (wrap64 ((i : Int) + 1)) fs ((loseL left fs).take i ++ [(⟨(rd_T45 fs (i : Int)).f0, ((rd_T45 fs (i : Int)).f1).extract 0 (n : Int).toNat, n⟩ : S45)])) else (none)) else (none)) else (none)) (loseL left fs, true) := by
      intro n hn h0 h1
      refine Ev.pos h0 (Ev.pos h1 (Ev.pos (by rw [hlen]; omega) ?_))
      have e : (loseL left fs).take i ++ [(⟨(rd_T45 fs (i : Int)).f0, ((rd_T45 fs (i : Int)).f1).extract 0 (n : Int).toNat, n⟩ : S45)] = (loseL left fs).take (i + 1) := by
        rw [List.take_succ_eq_append_getElem (by rw [loseL_length]; omega), loseL_get, hn]; rfl
      rw [e, w64_succ i (by omega)]
      exact ih (i + 1) (by omega)
    have one : ∀ m : Int, (if m > ((rd_T45 fs (i : Int)).f1.size : Int) then ((rd_T45 fs (i : Int)).f1.size : Int) else m) < (rd_T45 fs (i : Int)).f2 ∧ leftN left fs i = (rd_T45 fs (i : Int)).f2 ∨ ¬ (if m > ((rd_T45 fs (i : Int)).f1.size : Int) then ((rd_T45 fs (i : Int)).f1.size : Int) else m) < (rd_T45 fs (i : Int)).f2 ∧ leftN left fs i = (if m > ((rd_T45 fs (i : Int)).f1.size : Int) then ((rd_T45 fs (i : Int)).f1.size : Int) else m) → Ev (fun k => spec_LoseDisk.j1 k left (i : Int) m fs ((loseL left fs).take i) (rd_T45 fs (i : Int)).f0 (rd_T45 fs (i : Int)).f1 (rd_T45 fs (i : Int)).f2) (loseL left fs, true) := by
      intro m hm
      refine Ev.step (fun _ => spec_LoseDisk.j1.eq_2 ..) (Ev.ite (fun c => ?_) (fun c => ?_))
      · rw [if_pos c] at hm
        refine Ev.ite (fun c2 => ?_) (fun c2 => ?_)
        · exact fin _ (by omega) hk.1 hk.2
        · exact fin _ (by omega) (by omega) (by omega)
      · rw [if_neg c] at hm
        refine Ev.ite (fun c2 => ?_) (fun c2 => ?_)
        · exact fin _ (by omega) hk.1 hk.2
        · exact fin _ (by omega) (by omega) (by omega)
    refine Ev.step (fun _ => spec_LoseDisk.l0.eq_2 ..) (Ev.pos (by omega) (Ev.pos (by omega) (Ev.ite (fun c => one _ ?_) (fun c => one _ ?_))))
    · have e : leftN left fs i = mx (rd_T45 fs (i : Int)).f2 (mn (rd left (i : Int)) ((rd_T45 fs (i : Int)).f1.size : Int)) := if_pos c
      rw [e]; unfold mx mn
      split <;> split <;> (try split) <;> omega
    · have e : leftN left fs i = (rd_T45 fs (i : Int)).f2 := if_neg c
      rw [e]
      split <;> omega
theorem specLoseDisk_ev (left : List Int) (fs : List S45) (hn : fs.length ≤ 140737488355328) : Ev (fun k => spec_LoseDisk.f k fs left) (loseM left fs) := by
  refine Ev.congr (fun _ => spec_LoseDisk.f.eq_1 ..) (Ev.bind (specDiskOk_ev fs hn) (Ev.ite (fun h => ?_) (fun h => ?_)))
  · unfold loseM; rw [if_pos h]
    have := specLoseDisk_l0 left fs h fs.length 0 (by omega)
    simpa using this
  · unfold loseM; rw [if_neg h]; exact Ev.now _
theorem toIntS_l0 (a : List Int) (hn : a.length ≤ 140737488355328) (d : Nat) :
    ∀ i : Nat, i + d = a.length → Ev (fun k => laws_toIntS.l0 k a (a.take i ++ List.replicate (a.length - i) 0) (i : Int)) a := by
  induction d with
  | zero =>
    intro i hi
    refine Ev.step (fun _ => laws_toIntS.l0.eq_2 ..) ?_
    refine Ev.neg (by omega) (Ev.some ?_)
    rw [show a.length - i = 0 from by omega, List.take_of_length_le (by omega)]; simp
  | succ d ih =>
    intro i hi
    refine Ev.step (fun _ => laws_toIntS.l0.eq_2 ..) ?_
    refine Ev.pos (by omega) (Ev.pos (by omega) (Ev.pos (by simp; omega) ?_))
    rw [rd_nat a i (by omega), w64_succ i (by omega), Int.toNat_natCast, take_set_replicate a 0 i (by omega)]
    exact ih (i + 1) (by omega)
theorem toIntS_ev (a : List Int) (hn : a.length ≤ 35184372088832) : Ev (fun k => laws_toIntS.f k a) a := by
  refine Ev.congr (fun _ => laws_toIntS.f.eq_1 ..) (Ev.pos (by omega) (Ev.pos (by omega) ?_))
  have h := toIntS_l0 a (by omega) a.length 0 (by omega)
  simpa using h
theorem eqIntS_l0 (a b : List Int) (hlen : a.length = b.length) (hn : a.length ≤ 140737488355328) (d : Nat) :
    ∀ i : Nat, i + d = a.length → Ev (fun k => laws_eqIntS.l0 k a b (i : Int)) (decide (a.drop i = b.drop i)) := by
  induction d with
  | zero =>
    intro i hi
    refine Ev.step (fun _ => laws_eqIntS.l0.eq_2 ..) ?_
    refine Ev.neg (by omega) (Ev.some ?_)
    rw [List.drop_eq_nil_of_le (by omega), List.drop_eq_nil_of_le (by omega)]; rfl
  | succ d ih =>
    intro i hi
    refine Ev.step (fun _ => laws_eqIntS.l0.eq_2 ..) ?_
    refine Ev.pos (by omega) (Ev.pos (by omega) (Ev.pos (by omega) ?_))
    rw [rd_nat a i (by omega), rd_nat b i (by omega), w64_succ i (by omega), drop_eq_iff a b i (by omega) (by omega)]
    refine Ev.ite (fun h => ?_) (fun h => ?_)
    · rw [decide_eq_true h, Bool.true_and]; exact ih (i + 1) (by omega)
    · rw [decide_eq_false h]; exact Ev.now _
theorem eqIntS_ev (a b : List Int) (hn : a.length ≤ 140737488355328) : Ev (fun k => laws_eqIntS.f k a b) (decide (a = b)) := by
  refine Ev.congr (fun _ => laws_eqIntS.f.eq_1 ..) (Ev.ite (fun h => ?_) (fun h => ?_))
  · exact eqIntS_l0 a b (by omega) hn a.length 0 (by omega)
  · rw [decide_eq_false (fun e => h (by rw [e]))]; exact Ev.now _
theorem eqIntS_self (a : List Int) (hn : a.length ≤ 140737488355328) : Ev (fun k => laws_eqIntS.f k a a) true := by
  have h := eqIntS_ev a a hn
  rwa [decide_eq_true rfl] at h
theorem markIntS_l0 (a : List Int) (m : Int) (h0 : 0 ≤ m) (hm : m + a.length ≤ 9223372036854775807) (d : Nat) :
    ∀ i : Nat, i + d = a.length → Ev (fun k => laws_markIntS.l0 k (marks m i ++ a.drop i) (m + (i : Int)) (i : Int)) (m + (a.length : Int), marks m a.length) := by
  induction d with
  | zero =>
    intro i hi
    refine Ev.step (fun _ => laws_markIntS.l0.eq_2 ..) ?_
    refine Ev.neg (by simp [marks_length]; omega) (Ev.some ?_)
    obtain rfl : i = a.length := by omega
    simp
  | succ d ih =>
    intro i hi
    refine Ev.step (fun _ => laws_markIntS.l0.eq_2 ..) ?_
    refine Ev.pos (by simp [marks_length]; omega) (Ev.pos (by omega) ?_)
    rw [w64_succ i (by omega), Int.toNat_natCast, marks_set m a i (by omega), w64 (by omega) (by omega), Int.add_assoc, show ((i : Int) + 1) = ((i + 1 : Nat) : Int) from by omega]
    exact ih (i + 1) (by omega)
theorem markIntS_ev (a : List Int) (m : Int) (h0 : 0 ≤ m) (hm : m + a.length ≤ 9223372036854775807) : Ev (fun k => laws_markIntS.f k a m) (m + (a.length : Int), marks m a.length) := by
  have h := markIntS_l0 a m h0 hm a.length 0 (by omega)
  refine Ev.congr (fun _ => laws_markIntS.f.eq_1 ..) ?_
  simpa [marks] using h
theorem markText_l0 (n : Nat) : ∀ acc : ByteArray, acc.size + n + 1 ≤ 9223372036854775807 → ∃ v, Ev (fun k => laws_markText.l0 k (n : Int) acc) v := by
  induction n using Nat.strongRecOn with
  | _ n ih =>
    intro acc ha
    by_cases h : 0 < n
    · have e : wrap64 (Int.tdiv (n : Int) 10) = ((n / 10 : Nat) : Int) := by
        rw [show Int.tdiv (n : Int) 10 = ((n / 10 : Nat) : Int) from Int.ofNat_tdiv n 10 ▸ rfl]
        exact w64 (by omega) (by omega)
      have hz : (strOfNums [(wrap64 (48 + (Int.tmod (n : Int) 10))) % 256]).size = 1 := strOfNums_size _
      obtain ⟨v, hv⟩ := ih (n / 10) (by omega) (strOfNums [(wrap64 (48 + (Int.tmod (n : Int) 10))) % 256] ++ acc) (by rw [ByteArray.size_append, hz]; omega)
      refine ⟨v, Ev.step (fun _ => laws_markText.l0.eq_2 ..) (Ev.pos (by omega) (Ev.call rfl (Ev.pos (by rw [hz]; omega) ?_)))⟩
      rw [e]; exact hv
    · exact ⟨_, Ev.step (fun _ => laws_markText.l0.eq_2 ..) (Ev.neg (by omega) (Ev.pos (by omega) (Ev.now _)))⟩
theorem markText_ex (m : Int) : ∃ v, m ≤ 4611686018427387904 → Ev (fun k => laws_markText.f k m) v := by
  by_cases h : m ≤ 0
  · exact ⟨_, fun _ => Ev.congr (fun _ => laws_markText.f.eq_1 ..) (Ev.pos h (Ev.now _))⟩
  · by_cases h2 : m ≤ 4611686018427387904
    · obtain ⟨n, rfl⟩ := Int.eq_ofNat_of_zero_le (by omega : 0 ≤ m)
      obtain ⟨v, hv⟩ := markText_l0 n (⟨#[]⟩ : ByteArray) (by show 0 + n + 1 ≤ _; omega)
      exact ⟨v, fun _ => Ev.congr (fun _ => laws_markText.f.eq_1 ..) (Ev.neg h hv)⟩
    · exact ⟨(⟨#[]⟩ : ByteArray), fun h3 => absurd h3 h2⟩
/-- The mark of a number. -/
noncomputable def mtM (m : Int) : ByteArray := Classical.choose (markText_ex m)
theorem markText_ev (m : Int) (h : m ≤ 4611686018427387904) : Ev (fun k => laws_markText.f k m) (mtM m) := Classical.choose_spec (markText_ex m) h
noncomputable def marksT (a : Int) (n : Nat) : List ByteArray := (List.range n).map (fun j : Nat => mtM (a + (j : Int)))
theorem marksT_length (a : Int) (n : Nat) : (marksT a n).length = n := by simp [marksT]
theorem marksT_get (a : Int) (n j : Nat) (h : j < (marksT a n).length) : (marksT a n)[j] = mtM (a + (j : Int)) := by simp [marksT]
theorem marksT_set (a : Int) (l : List ByteArray) (i : Nat) (h : i < l.length) :
    (marksT a i ++ l.drop i).set i (mtM (a + (i : Int))) = marksT a (i + 1) ++ l.drop (i + 1) := by
  rw [List.set_append_right _ _ (by rw [marksT_length]; omega), marksT_length, Nat.sub_self, List.drop_eq_getElem_cons h, List.set_cons_zero]
  unfold marksT
  rw [List.range_succ]
  simp
theorem rdF_set (l : List S45) (i : Nat) (v : S45) (h : i < l.length) : rd_T45 (l.set i v) (i : Int) = v := by
  rw [rdF_nat _ i (by rw [List.length_set]; exact h)]; simp
/-- Files that were marked, from m on: each takes three numbers. -/
noncomputable def marksF (m : Int) (n : Nat) : List S45 := (List.range n).map (fun j : Nat => ⟨mtM (m + 3 * (j : Int)), mtM (m + 3 * (j : Int) + 1), m + 3 * (j : Int) + 2⟩)
theorem marksF_length (m : Int) (n : Nat) : (marksF m n).length = n := by simp [marksF]
theorem marksF_get (m : Int) (n j : Nat) (h : j < (marksF m n).length) : (marksF m n)[j] = ⟨mtM (m + 3 * (j : Int)), mtM (m + 3 * (j : Int) + 1), m + 3 * (j : Int) + 2⟩ := by simp [marksF]
theorem marksF_set (m : Int) (l : List S45) (i : Nat) (h : i < l.length) :
    (marksF m i ++ l.drop i).set i ⟨mtM (m + 3 * (i : Int)), mtM (m + 3 * (i : Int) + 1), m + 3 * (i : Int) + 2⟩ = marksF m (i + 1) ++ l.drop (i + 1) := by
  rw [List.set_append_right _ _ (by rw [marksF_length]; omega), marksF_length, Nat.sub_self, List.drop_eq_getElem_cons h, List.set_cons_zero]
  unfold marksF
  rw [List.range_succ]
  simp
theorem markFileS_l0 (a : List S45) (m : Int) (h0 : 0 ≤ m) (hm : m + 3 * a.length ≤ 4611686018427387904) (d : Nat) :
    ∀ i : Nat, i + d = a.length → Ev (fun k => laws_markFileS.l0 k (marksF m i ++ a.drop i) (m + 3 * (i : Int)) (i : Int)) (m + 3 * (a.length : Int), marksF m a.length) := by
  induction d with
  | zero =>
    intro i hi
    refine Ev.step (fun _ => laws_markFileS.l0.eq_2 ..) ?_
    refine Ev.neg (by simp [marksF_length]; omega) (Ev.some ?_)
    obtain rfl : i = a.length := by omega
    simp
  | succ d ih =>
    intro i hi
    have hlen : (marksF m i ++ a.drop i).length = a.length := by simp [marksF_length]; omega
    have e1 : wrap64 (m + 3 * (i : Int) + 1) = m + 3 * (i : Int) + 1 := w64 (by omega) (by omega)
    have e2 : wrap64 (m + 3 * (i : Int) + 1 + 1) = m + 3 * (i : Int) + 2 := by rw [w64 (by omega) (by omega)]; omega
    have e3 : wrap64 (m + 3 * (i : Int) + 2 + 1) = m + 3 * ((i + 1 : Nat) : Int) := by rw [w64 (by omega) (by omega)]; omega
    refine Ev.step (fun _ => laws_markFileS.l0.eq_2 ..) ?_
    simp only [e1, e2, e3, Int.toNat_natCast]
    refine Ev.pos (by rw [hlen]; omega) (Ev.bind (markText_ev _ (by omega)) (Ev.pos (by omega) (Ev.call rfl (Ev.bind (markText_ev _ (by omega)) (Ev.call rfl ?_)))))
    rw [rdF_set _ i _ (by rw [hlen]; omega), List.set_set, rdF_set _ i _ (by simp only [List.length_set, hlen]; omega), List.set_set, marksF_set m a i (by omega), w64_succ i (by omega)]
    exact ih (i + 1) (by omega)
theorem markDisk_ev (a : List S45) (m : Int) (h0 : 0 ≤ m) (hm : m + 3 * a.length ≤ 4611686018427387904) : Ev (fun k => laws_markDisk.f k a m) (m + 3 * (a.length : Int), marksF m a.length) := by
  have h := markFileS_l0 a m h0 hm a.length 0 (by omega)
  refine Ev.congr (fun _ => laws_markDisk.f.eq_1 ..) (Ev.bind (a := (m + 3 * (a.length : Int), marksF m a.length)) (Ev.congr (fun _ => laws_markFileS.f.eq_1 ..) ?_) (Ev.now _))
  simpa [marksF] using h
theorem heldFileS_l0 (n : Nat) (m : Int) (h0 : 0 ≤ m) (hm : m + 3 * n ≤ 4611686018427387904) (d : Nat) :
    ∀ i : Nat, i + d = n → Ev (fun k => laws_heldFileS.l0 k (marksF m n) (m + 3 * (i : Int)) (i : Int)) (m + 3 * (n : Int)) := by
  induction d with
  | zero =>
    intro i hi
    refine Ev.step (fun _ => laws_heldFileS.l0.eq_2 ..) ?_
    refine Ev.neg (by rw [marksF_length]; omega) (Ev.some ?_)
    omega
  | succ d ih =>
    intro i hi
    have e1 : wrap64 (m + 3 * (i : Int) + 1) = m + 3 * (i : Int) + 1 := w64 (by omega) (by omega)
    have e2 : wrap64 (m + 3 * (i : Int) + 1 + 1) = m + 3 * (i : Int) + 2 := by rw [w64 (by omega) (by omega)]; omega
    have e3 : wrap64 (m + 3 * (i : Int) + 2 + 1) = m + 3 * ((i + 1 : Nat) : Int) := by rw [w64 (by omega) (by omega)]; omega
    refine Ev.step (fun _ => laws_heldFileS.l0.eq_2 ..) ?_
    simp only [e1, e2, e3]
    rw [rdF_nat _ i (by rw [marksF_length]; omega), marksF_get]
    refine Ev.pos (by rw [marksF_length]; omega) (Ev.pos (by omega) (Ev.bind (markText_ev _ (by omega)) (Ev.pos rfl (Ev.bind (markText_ev _ (by omega)) (Ev.pos rfl (Ev.pos rfl ?_))))))
    rw [w64_succ i (by omega)]
    exact ih (i + 1) (by omega)
theorem heldDisk_ev (n : Nat) (m : Int) (h0 : 0 ≤ m) (hm : m + 3 * n ≤ 4611686018427387904) : Ev (fun k => laws_heldDisk.f k (marksF m n) m) (m + 3 * (n : Int)) := by
  have h := heldFileS_l0 n m h0 hm n 0 (by omega)
  refine Ev.congr (fun _ => laws_heldDisk.f.eq_1 ..) (Ev.bind (a := m + 3 * (n : Int)) (Ev.congr (fun _ => laws_heldFileS.f.eq_1 ..) ?_) (Ev.neg (by omega) (Ev.now _)))
  simpa using h
theorem FnExactLoseDisk : laws_FnExactLoseDisk.Pure := by
  intro a l ⟨hs, hl⟩ ⟨_, hl1⟩
  apply Ev.rounds
  refine Ev.congr (fun _ => laws_FnExactLoseDisk.f.eq_1 ..) (Ev.ite (fun _ => Ev.now _) (fun h1 => ?_))
  obtain ⟨r, er, _, hr⟩ := szDisk_ok a (fun x hx => ⟨(hs x hx).1, (hs x hx).2.1⟩) hl 1048576 (by omega)
  refine Ev.bind er (Ev.ite (fun _ => Ev.now _) (fun h => ?_))
  have hn := (hr (by omega)).1
  have ht := toDisk_ev a hn
  have hi := toIntS_ev l (by omega)
  have hm : (a.map toF).length ≤ 1048576 := by simp; omega
  generalize a.map toF = fs at ht hm
  have hsp := specLoseDisk_ev l fs (by omega)
  have him := implLoseDisk_ev l fs (by omega)
  have hlen : (loseM l fs).1.length ≤ 1048576 := by
    unfold loseM; split
    · rw [loseL_length]; exact hm
    · simp
  generalize loseM l fs = M at hsp him hlen
  refine Ev.bind ht (Ev.bind hi (Ev.bind hsp (Ev.bind ht (Ev.bind hi (Ev.bind him (Ev.bind (eqDisk_self _ (by omega)) (Ev.pos rfl ?_)))))))
  refine Ev.step (fun _ => laws_FnExactLoseDisk.j0.eq_2 ..) (Ev.neg (by simp) (Ev.bind ht (Ev.bind (eqDisk_self _ (by omega)) (Ev.pos rfl (Ev.bind hi (Ev.bind (eqIntS_self _ (by omega)) (Ev.pos rfl ?_)))))))
  refine Ev.bind (markDisk_ev fs 1 (by omega) (by omega)) (Ev.bind (markIntS_ev l _ (by omega) (by omega)) (Ev.neg (by omega) (Ev.bind (eqDisk_self _ (by omega)) (Ev.pos rfl ?_))))
  refine Ev.step (fun _ => laws_FnExactLoseDisk.j1.eq_2 ..) (Ev.neg (by simp) (Ev.bind (markDisk_ev _ 1 (by omega) (by omega)) (Ev.bind (heldDisk_ev _ 1 (by omega) (by omega)) (Ev.neg (by omega) (Ev.pos rfl (Ev.bind ht (Ev.bind hi (Ev.bind him (Ev.bind (eqDisk_self _ (by omega)) (Ev.pos rfl ?_))))))))))
  exact Ev.step (fun _ => laws_FnExactLoseDisk.j2.eq_2 ..) (Ev.neg (by simp) (Ev.bind (heldDisk_ev _ 1 (by omega) (by omega)) (Ev.neg (by omega) (Ev.pos rfl (Ev.now _)))))

end Go.Proofs.Ythfppepnpngfmaa.Pure
