/- FnExactAllKept returns true for all arguments: the program's AllKept answers what the reference's answers, and leaves the disk as it is. No conditions beyond the statement's own. -/
import Derived.Test.YthfppepnpngfmaaQdx6
import Derived.Test.YthfppepnpngfmaaBase
namespace Go.Proofs.Ythfppepnpngfmaa.Pure
open Go.RowKit Go.Proofs.Ythfppepnpngfmaa.Qd Go.Proofs.YthfppepnpngfmaaW.PrintWords Go.Proofs.YthfppepnpngfmaaW.PrintLast Go.Proofs.YthfppepnpngfmaaW.PrintMore Go.Proofs.Ythfppepnpngfmaa.Base

instance decS45 : DecidableEq S45 := fun a b => decidable_of_iff (a.f0 = b.f0 ∧ a.f1 = b.f1 ∧ a.f2 = b.f2) (by cases a; cases b; simp)
theorem rdF_nat (xs : List S45) (i : Nat) (h : i < xs.length) : rd_T45 xs (i : Int) = xs[i] := by
  unfold rd_T45
  rw [Int.toNat_natCast, List.getD_eq_getElem?_getD, List.getElem?_eq_getElem h]; rfl
theorem rdG_nat (xs : List S94) (i : Nat) (h : i < xs.length) : rd_T94 xs (i : Int) = xs[i] := by
  unfold rd_T94
  rw [Int.toNat_natCast, List.getD_eq_getElem?_getD, List.getElem?_eq_getElem h]; rfl
def toF (x : S94) : S45 := ⟨x.f0, x.f1, x.f2⟩
theorem toFileS_l0 (a : List S94) (hn : a.length ≤ 140737488355328) (d : Nat) :
    ∀ i : Nat, i + d = a.length → Ev (fun k => laws_toFileS.l0 k a ((a.map toF).take i ++ List.replicate (a.length - i) z45) (i : Int)) (a.map toF) := by
  induction d with
  | zero =>
    intro i hi
    refine Ev.step (fun _ => laws_toFileS.l0.eq_2 ..) ?_
    refine Ev.neg (by omega) (Ev.some ?_)
    rw [show a.length - i = 0 from by omega, List.take_of_length_le (by simp; omega)]; simp
  | succ d ih =>
    intro i hi
    refine Ev.step (fun _ => laws_toFileS.l0.eq_2 ..) ?_
    refine Ev.pos (by omega) (Ev.pos (by omega) (Ev.call rfl (Ev.pos (by simp; omega) ?_)))
    have e := take_set_replicate (a.map toF) z45 i (by simp; omega)
    have e2 : (a.map toF)[i]'(by simp; omega) = ⟨(rd_T94 a (i : Int)).f0, (rd_T94 a (i : Int)).f1, (rd_T94 a (i : Int)).f2⟩ := by
      rw [List.getElem_map, rdG_nat a i (by omega)]; rfl
    rw [e2, List.length_map] at e
    rw [w64_succ i (by omega), Int.toNat_natCast]
    show Ev (fun k => laws_toFileS.l0 k a (((a.map toF).take i ++ List.replicate (a.length - i) z45).set i ⟨(rd_T94 a (i : Int)).f0, (rd_T94 a (i : Int)).f1, (rd_T94 a (i : Int)).f2⟩) ((i + 1 : Nat) : Int)) _
    rw [e]
    exact ih (i + 1) (by omega)
theorem toDisk_ev (a : List S94) (hn : a.length ≤ 1048576) : Ev (fun k => laws_toDisk.f k a) (a.map toF) := by
  refine Ev.congr (fun _ => laws_toDisk.f.eq_1 ..) (Ev.bind (Ev.congr (fun _ => laws_toFileS.f.eq_1 ..) (Ev.pos (by omega) (Ev.pos (by omega) ?_))) (Ev.now _))
  have h := toFileS_l0 a (by omega) a.length 0 (by omega)
  simpa using h
theorem eqFile_eq (a b : S45) : laws_eqFile.f a.f0 a.f1 a.f2 b.f0 b.f1 b.f2 = some (decide (a = b)) := by
  unfold laws_eqFile.f
  obtain ⟨a0, a1, a2⟩ := a
  obtain ⟨b0, b1, b2⟩ := b
  simp only [toList_eq, S45.mk.injEq]
  by_cases h0 : a0 = b0 <;> by_cases h1 : a1 = b1 <;> by_cases h2 : a2 = b2 <;> simp [h0, h1, h2]
theorem eqFileS_l0 (a b : List S45) (hlen : a.length = b.length) (hn : a.length ≤ 140737488355328) (d : Nat) :
    ∀ i : Nat, i + d = a.length → Ev (fun k => laws_eqFileS.l0 k a b (i : Int)) (decide (a.drop i = b.drop i)) := by
  induction d with
  | zero =>
    intro i hi
    refine Ev.step (fun _ => laws_eqFileS.l0.eq_2 ..) ?_
    refine Ev.neg (by omega) (Ev.some ?_)
    rw [List.drop_eq_nil_of_le (by omega), List.drop_eq_nil_of_le (by omega)]; simp
  | succ d ih =>
    intro i hi
    refine Ev.step (fun _ => laws_eqFileS.l0.eq_2 ..) ?_
    refine Ev.pos (by omega) (Ev.pos (by omega) (Ev.pos (by omega) (Ev.call (eqFile_eq _ _) ?_)))
    rw [rdF_nat a i (by omega), rdF_nat b i (by omega), w64_succ i (by omega), drop_eq_iff a b i (by omega) (by omega)]
    refine Ev.ite (fun h => ?_) (fun h => ?_)
    · rw [h, Bool.true_and]; exact ih (i + 1) (by omega)
    · rw [Bool.eq_false_iff.2 h]; exact Ev.now _
theorem eqDisk_ev (a b : List S45) (hn : a.length ≤ 140737488355328) : Ev (fun k => laws_eqDisk.f k a b) (decide (a = b)) := by
  refine Ev.congr (fun _ => laws_eqDisk.f.eq_1 ..) (Ev.bind (a := decide (a = b)) (Ev.congr (fun _ => laws_eqFileS.f.eq_1 ..) (Ev.ite (fun h => ?_) (fun h => ?_))) (Ev.ite (fun h => Ev.some h.symm) (fun h => Ev.some (Bool.eq_false_iff.2 h).symm)))
  · exact eqFileS_l0 a b (by omega) hn a.length 0 (by omega)
  · rw [decide_eq_false (fun e => h (by rw [e]))]; exact Ev.now _
theorem eqDisk_self (a : List S45) (hn : a.length ≤ 140737488355328) : Ev (fun k => laws_eqDisk.f k a a) true := by
  have h := eqDisk_ev a a hn
  rwa [decide_eq_true rfl] at h
theorem szFile_ok (x : S94) (n : Int) (h0 : x.f0.size ≤ maxLen) (h1 : x.f1.size ≤ maxLen) (hn : 0 ≤ n ∧ n ≤ 1048576) :
    ∃ r, laws_szFile.f x.f0 x.f1 x.f2 n = some r ∧ r ≤ n ∧ -1 ≤ r ∧ (0 ≤ r → x.f0.size ≤ 1048576 ∧ x.f1.size ≤ 1048576) := by
  unfold laws_szFile.f maxLen at *
  rw [w64 (n := n - (x.f0.size : Int)) (by omega) (by omega)]
  by_cases c : n - (x.f0.size : Int) < 0
  · rw [if_pos c]; exact ⟨_, rfl, by omega, by omega, by omega⟩
  · rw [if_neg c, w64 (n := n - (x.f0.size : Int) - (x.f1.size : Int)) (by omega) (by omega)]
    by_cases c2 : n - (x.f0.size : Int) - (x.f1.size : Int) < 0
    · rw [if_pos c2]; exact ⟨_, rfl, by omega, by omega, by omega⟩
    · rw [if_neg c2]; exact ⟨_, rfl, by omega, by omega, by omega⟩
theorem szFileS_l0 (a : List S94) (hs : ∀ x ∈ a, x.f0.size ≤ maxLen ∧ x.f1.size ≤ maxLen) (hl : a.length ≤ maxLen) (d : Nat) :
    ∀ (i : Nat) (n : Int), i + d = a.length → 0 ≤ n → n ≤ 1048576 → ∃ r, Ev (fun k => laws_szFileS.l0 k a n (i : Int)) r ∧ r ≤ n ∧ (0 ≤ r → ∀ x ∈ a.drop i, x.f0.size ≤ 1048576 ∧ x.f1.size ≤ 1048576) := by
  induction d with
  | zero =>
    intro i n hi h0 h1
    refine ⟨n, Ev.step (fun _ => laws_szFileS.l0.eq_2 ..) (Ev.neg (by omega) (Ev.now _)), by omega, fun _ x hx => ?_⟩
    rw [List.drop_eq_nil_of_le (by omega)] at hx; simp at hx
  | succ d ih =>
    intro i n hi h0 h1
    have hx := hs _ (List.getElem_mem (by omega : i < a.length))
    obtain ⟨r1, e1, q1, q2, q3⟩ := szFile_ok a[i] n hx.1 hx.2 ⟨h0, h1⟩
    rw [← rdG_nat a i (by omega)] at e1
    by_cases c : r1 < 0
    · exact ⟨-1, Ev.step (fun _ => laws_szFileS.l0.eq_2 ..) (Ev.pos (by omega) (Ev.pos (by omega) (Ev.call e1 (Ev.pos c (Ev.now _))))), by omega, by omega⟩
    · obtain ⟨r, er, p1, p2⟩ := ih (i + 1) r1 (by omega) (by omega) (by omega)
      refine ⟨r, Ev.step (fun _ => laws_szFileS.l0.eq_2 ..) (Ev.pos (by omega) (Ev.pos (by omega) (Ev.call e1 (Ev.neg c ?_)))), by omega, fun hr x hx => ?_⟩
      · rw [w64_succ i (by unfold maxLen at hl; omega)]; exact er
      · rw [List.drop_eq_getElem_cons (i := i) (by omega)] at hx
        rcases List.mem_cons.1 hx with rfl | hx
        · exact q3 (by omega)
        · exact p2 hr x hx
theorem szDisk_ok (a : List S94) (hs : ∀ x ∈ a, x.f0.size ≤ maxLen ∧ x.f1.size ≤ maxLen) (hl : a.length ≤ maxLen) (n : Int) (hn : 0 ≤ n ∧ n ≤ 1048576) :
    ∃ r, Ev (fun k => laws_szDisk.f k a n) r ∧ r ≤ n ∧ (0 ≤ r → a.length ≤ 1048576 ∧ ∀ x ∈ a, x.f0.size ≤ 1048576 ∧ x.f1.size ≤ 1048576) := by
  have hm : maxLen = 9223372036854775807 := rfl
  have hw : wrap64 (n - (a.length : Int)) = n - (a.length : Int) := w64 (by omega) (by omega)
  by_cases c : n - (a.length : Int) < 0
  · refine ⟨-1, Ev.congr (fun _ => laws_szDisk.f.eq_1 ..) (Ev.bind (a := -1) (Ev.congr (fun _ => laws_szFileS.f.eq_1 ..) ?_) (Ev.pos (by omega) (Ev.now _))), by omega, by omega⟩
    rw [hw]; exact Ev.pos c (Ev.now _)
  · obtain ⟨r, er, q1, q2⟩ := szFileS_l0 a hs hl a.length 0 (n - (a.length : Int)) (by omega) (by omega) (by omega)
    have e : Ev (fun k => laws_szFileS.f k a n) r := by
      refine Ev.congr (fun _ => laws_szFileS.f.eq_1 ..) ?_
      rw [hw]; exact Ev.neg c er
    by_cases c2 : r < 0
    · exact ⟨-1, Ev.congr (fun _ => laws_szDisk.f.eq_1 ..) (Ev.bind e (Ev.pos c2 (Ev.now _))), by omega, by omega⟩
    · exact ⟨r, Ev.congr (fun _ => laws_szDisk.f.eq_1 ..) (Ev.bind e (Ev.neg c2 (Ev.now _))), by omega, fun h => ⟨by omega, by simpa using q2 h⟩⟩
theorem l01In_eq (n lo hi : Int) : spec_l01In.f n lo hi = some (decide (lo ≤ n ∧ n ≤ hi)) := by
  unfold spec_l01In.f
  by_cases h : n ≥ lo
  · rw [if_pos h]; congr 1; rw [decide_eq_decide]; exact ⟨fun h2 => ⟨h, h2⟩, fun h2 => h2.2⟩
  · rw [if_neg h]; congr 1; symm; rw [decide_eq_false_iff_not]; exact fun h2 => h h2.1
theorem within_eq (n lo hi : Int) : impl_within.f n lo hi = some (decide (lo ≤ n ∧ n ≤ hi)) := by
  unfold impl_within.f
  by_cases h : n ≥ lo
  · rw [if_pos h]; congr 1; rw [decide_eq_decide]; exact ⟨fun h2 => ⟨h, h2⟩, fun h2 => h2.2⟩
  · rw [if_neg h]; congr 1; symm; rw [decide_eq_false_iff_not]; exact fun h2 => h h2.1
def okAt (fs : List S45) (i : Nat) : Prop := (1 ≤ ((rd_T45 fs (i : Int)).f0.size : Int) ∧ ((rd_T45 fs (i : Int)).f0.size : Int) ≤ 8) ∧ ¬ ((rd_T45 fs (i : Int)).f1.size : Int) > 20000 ∧ (0 ≤ (rd_T45 fs (i : Int)).f2 ∧ (rd_T45 fs (i : Int)).f2 ≤ ((rd_T45 fs (i : Int)).f1.size : Int)) ∧
  (0 < i → Op.bytesLess (rd_T45 fs ((i : Int) - 1)).f0.toList (rd_T45 fs (i : Int)).f0.toList = true)
instance (fs : List S45) (i : Nat) : Decidable (okAt fs i) := by unfold okAt; exact inferInstance
def allFrom (fs : List S45) : Nat → Nat → Bool
  | 0, _ => true
  | d + 1, i => decide (okAt fs i) && allFrom fs d (i + 1)
theorem allFrom_iff (fs : List S45) (d : Nat) : ∀ i, allFrom fs d i = true ↔ ∀ j, j < d → okAt fs (i + j) := by
  induction d with
  | zero => intro i; simp [allFrom]
  | succ d ih =>
    intro i
    unfold allFrom
    rw [Bool.and_eq_true, decide_eq_true_iff, ih]
    constructor
    · rintro ⟨h1, h2⟩ j hj
      cases j with
      | zero => exact h1
      | succ j => have := h2 j (by omega); rwa [show i + 1 + j = i + (j + 1) from by omega] at this
    · intro h
      refine ⟨h 0 (by omega), fun j hj => ?_⟩
      have := h (j + 1) (by omega)
      rwa [show i + (j + 1) = i + 1 + j from by omega] at this
def diskB (fs : List S45) : Bool := allFrom fs fs.length 0 && decide (fs.length ≤ 30)
theorem implDiskOk_l0 (fs : List S45) (hn : fs.length ≤ 140737488355328) (d : Nat) :
    ∀ i : Nat, i + d = fs.length → Ev (fun k => impl_DiskOk.l0 k fs (fs.length : Int) (i : Int) fs) (allFrom fs d i && decide (fs.length ≤ 30)) := by
  induction d with
  | zero =>
    intro i hi
    refine Ev.step (fun _ => impl_DiskOk.l0.eq_2 ..) (Ev.neg (by omega) (Ev.some ?_))
    unfold allFrom
    rw [Bool.true_and, decide_eq_decide]; omega
  | succ d ih =>
    intro i hi
    unfold allFrom
    have no : ¬ okAt fs i → ∀ b c : Bool, ((decide (okAt fs i) && b) && c) = false := fun h b c => by rw [decide_eq_false h]; rfl
    refine Ev.step (fun _ => impl_DiskOk.l0.eq_2 ..) (Ev.pos (by omega) (Ev.pos (by omega) (Ev.pos (by omega) (Ev.call (within_eq ..) ?_))))
    by_cases h1 : 1 ≤ ((rd_T45 fs (i : Int)).f0.size : Int) ∧ ((rd_T45 fs (i : Int)).f0.size : Int) ≤ 8
    · refine Ev.pos (by rw [decide_eq_true h1]) (Ev.ite (fun h2 => ?_) (fun h2 => ?_))
      · exact Ev.some (no (fun z => z.2.1 h2) _ _).symm
      · refine Ev.call (within_eq ..) ?_
        by_cases h3 : 0 ≤ (rd_T45 fs (i : Int)).f2 ∧ (rd_T45 fs (i : Int)).f2 ≤ ((rd_T45 fs (i : Int)).f1.size : Int)
        · refine Ev.pos (by rw [decide_eq_true h3]) ?_
          rw [w64_succ i (by omega)]
          by_cases hi0 : 0 < i
          · rw [w64 (n := (i : Int) - 1) (by omega) (by omega)]
            refine Ev.pos (by omega) (Ev.pos (by omega) (Ev.pos (by omega) (Ev.ite (fun h4 => ?_) (fun h4 => ?_))))
            · rw [show decide (okAt fs i) = true from decide_eq_true ⟨h1, h2, h3, fun _ => h4⟩, Bool.true_and]
              exact ih (i + 1) (by omega)
            · exact Ev.some (no (fun z => h4 (z.2.2.2 hi0)) _ _).symm
          · refine Ev.neg (by omega) ?_
            rw [show decide (okAt fs i) = true from decide_eq_true ⟨h1, h2, h3, fun z => absurd z hi0⟩, Bool.true_and]
            exact ih (i + 1) (by omega)
        · exact Ev.neg (by rw [decide_eq_false h3]; simp) (Ev.some (no (fun z => h3 z.2.2.1) _ _).symm)
    · exact Ev.neg (by rw [decide_eq_false h1]; simp) (Ev.some (no (fun z => h1 z.1) _ _).symm)
theorem implDiskOk_ev (fs : List S45) (hn : fs.length ≤ 140737488355328) : Ev (fun k => impl_DiskOk.f k fs) (diskB fs) :=
  Ev.congr (fun _ => impl_DiskOk.f.eq_1 ..) (implDiskOk_l0 fs hn fs.length 0 (by omega))
theorem specName_eq (s : ByteArray) : spec_l03Name.f s = some (decide (1 ≤ (s.size : Int) ∧ (s.size : Int) ≤ 8)) := by
  unfold spec_l03Name.f; rw [l01In_eq, Option.bind_some]
theorem specDiskOk_l0 (fs : List S45) (hn : fs.length ≤ 140737488355328) (d : Nat) :
    ∀ i : Nat, i + d = fs.length → Ev (fun k => spec_DiskOk.l0 k (i : Int) fs) (allFrom fs d i) := by
  induction d with
  | zero =>
    intro i hi
    exact Ev.step (fun _ => spec_DiskOk.l0.eq_2 ..) (Ev.neg (by omega) (Ev.some rfl))
  | succ d ih =>
    intro i hi
    unfold allFrom
    have no : ¬ okAt fs i → ∀ b : Bool, (decide (okAt fs i) && b) = false := fun h b => by rw [decide_eq_false h]; rfl
    refine Ev.step (fun _ => spec_DiskOk.l0.eq_2 ..) (Ev.pos (by omega) (Ev.pos (by omega) (Ev.call (specName_eq _) ?_)))
    by_cases h1 : 1 ≤ ((rd_T45 fs (i : Int)).f0.size : Int) ∧ ((rd_T45 fs (i : Int)).f0.size : Int) ≤ 8
    · refine Ev.pos (by rw [decide_eq_true h1]) (Ev.ite (fun h2 => ?_) (fun h2 => ?_))
      · exact Ev.some (no (fun z => z.2.1 h2) _).symm
      · refine Ev.call (l01In_eq ..) ?_
        by_cases h3 : 0 ≤ (rd_T45 fs (i : Int)).f2 ∧ (rd_T45 fs (i : Int)).f2 ≤ ((rd_T45 fs (i : Int)).f1.size : Int)
        · refine Ev.pos (by rw [decide_eq_true h3]) ?_
          rw [w64_succ i (by omega)]
          by_cases hi0 : 0 < i
          · rw [w64 (n := (i : Int) - 1) (by omega) (by omega)]
            refine Ev.pos (by omega) (Ev.pos (by omega) (Ev.pos (by omega) (Ev.ite (fun h4 => ?_) (fun h4 => ?_))))
            · rw [show decide (okAt fs i) = true from decide_eq_true ⟨h1, h2, h3, fun _ => h4⟩, Bool.true_and]
              exact ih (i + 1) (by omega)
            · exact Ev.some (no (fun z => h4 (z.2.2.2 hi0)) _).symm
          · refine Ev.neg (by omega) ?_
            rw [show decide (okAt fs i) = true from decide_eq_true ⟨h1, h2, h3, fun z => absurd z hi0⟩, Bool.true_and]
            exact ih (i + 1) (by omega)
        · exact Ev.neg (by rw [decide_eq_false h3]; simp) (Ev.some (no (fun z => h3 z.2.2.1) _).symm)
    · exact Ev.neg (by rw [decide_eq_false h1]; simp) (Ev.some (no (fun z => h1 z.1) _).symm)
theorem specDiskOk_ev (fs : List S45) (hn : fs.length ≤ 140737488355328) : Ev (fun k => spec_DiskOk.f k fs) (diskB fs) := by
  refine Ev.congr (fun _ => spec_DiskOk.f.eq_1 ..) (Ev.ite (fun h => ?_) (fun h => ?_))
  · unfold diskB; rw [decide_eq_false (by omega : ¬ fs.length ≤ 30), Bool.and_false]; exact Ev.now _
  · unfold diskB; rw [decide_eq_true (by omega : fs.length ≤ 30), Bool.and_true]; exact specDiskOk_l0 fs hn fs.length 0 (by omega)
def keptFrom (fs : List S45) : Nat → Nat → Bool
  | 0, _ => true
  | d + 1, i => decide ((rd_T45 fs (i : Int)).f2 = ((rd_T45 fs (i : Int)).f1.size : Int)) && keptFrom fs d (i + 1)
theorem implAllKept_l0 (fs : List S45) (hn : fs.length ≤ 140737488355328) (d : Nat) :
    ∀ i : Nat, i + d = fs.length → Ev (fun k => impl_AllKept.l0 k fs (fs.length : Int) (i : Int) fs) (keptFrom fs d i && diskB fs) := by
  induction d with
  | zero =>
    intro i hi
    exact Ev.step (fun _ => impl_AllKept.l0.eq_2 ..) (Ev.neg (by omega) (Ev.bind (implDiskOk_ev fs hn) (Ev.some rfl)))
  | succ d ih =>
    intro i hi
    unfold keptFrom
    refine Ev.step (fun _ => impl_AllKept.l0.eq_2 ..) (Ev.pos (by omega) (Ev.pos (by omega) (Ev.pos (by omega) (Ev.ite (fun h => ?_) (fun h => ?_)))))
    · rw [decide_eq_true h, Bool.true_and, w64_succ i (by omega)]; exact ih (i + 1) (by omega)
    · rw [decide_eq_false h]; exact Ev.some rfl
theorem implAllKept_ev (fs : List S45) (hn : fs.length ≤ 140737488355328) : Ev (fun k => impl_AllKept.f k fs) (keptFrom fs fs.length 0 && diskB fs) :=
  Ev.congr (fun _ => impl_AllKept.f.eq_1 ..) (implAllKept_l0 fs hn fs.length 0 (by omega))
theorem specAllKept_l0 (fs : List S45) (hn : fs.length ≤ 140737488355328) (hok : ∀ j, j < fs.length → okAt fs j) (d : Nat) :
    ∀ i : Nat, i + d = fs.length → Ev (fun k => spec_AllKept.l0 k (i : Int) fs) (keptFrom fs d i) := by
  induction d with
  | zero =>
    intro i hi
    exact Ev.step (fun _ => spec_AllKept.l0.eq_2 ..) (Ev.neg (by omega) (Ev.some rfl))
  | succ d ih =>
    intro i hi
    unfold keptFrom
    have h3 := (hok i (by omega)).2.2.1
    refine Ev.step (fun _ => spec_AllKept.l0.eq_2 ..) (Ev.pos (by omega) (Ev.pos (by omega) (Ev.ite (fun h => ?_) (fun h => ?_))))
    · rw [decide_eq_false (by omega)]; exact Ev.some rfl
    · rw [decide_eq_true (by omega), Bool.true_and, w64_succ i (by omega)]; exact ih (i + 1) (by omega)
theorem diskB_ok (fs : List S45) (h : diskB fs = true) : (∀ j, j < fs.length → okAt fs j) ∧ fs.length ≤ 30 := by
  unfold diskB at h
  rw [Bool.and_eq_true, decide_eq_true_iff, allFrom_iff] at h
  exact ⟨fun j hj => by have := h.1 j hj; rwa [Nat.zero_add] at this, h.2⟩
theorem specAllKept_ev (fs : List S45) (hn : fs.length ≤ 140737488355328) : Ev (fun k => spec_AllKept.f k fs) (keptFrom fs fs.length 0 && diskB fs) := by
  refine Ev.congr (fun _ => spec_AllKept.f.eq_1 ..) (Ev.bind (specDiskOk_ev fs hn) (Ev.ite (fun h => ?_) (fun h => ?_)))
  · rw [h, Bool.and_true]; exact specAllKept_l0 fs hn (diskB_ok fs h).1 fs.length 0 (by omega)
  · rw [Bool.eq_false_iff.2 h, Bool.and_false]; exact Ev.now _
theorem FnExactAllKept : laws_FnExactAllKept.Pure := by
  intro a ⟨hs, hl⟩
  apply Ev.rounds
  obtain ⟨r, er, _, hr⟩ := szDisk_ok a (fun x hx => ⟨(hs x hx).1, (hs x hx).2.1⟩) hl 1048576 (by omega)
  refine Ev.congr (fun _ => laws_FnExactAllKept.f.eq_1 ..) (Ev.bind er (Ev.ite (fun _ => Ev.now _) (fun h => ?_)))
  have hn := (hr (by omega)).1
  have ht := toDisk_ev a hn
  have hm : (a.map toF).length ≤ 140737488355328 := by simp; omega
  exact Ev.bind ht (Ev.bind (specAllKept_ev _ hm) (Ev.bind ht (Ev.bind (implAllKept_ev _ hm) (Ev.neg (by simp) (Ev.bind ht (Ev.bind (eqDisk_self _ hm) (Ev.pos rfl (Ev.now _))))))))

end Go.Proofs.Ythfppepnpngfmaa.Pure
