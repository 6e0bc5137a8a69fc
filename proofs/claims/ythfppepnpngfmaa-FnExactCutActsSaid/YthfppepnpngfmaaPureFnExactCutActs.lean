/- FnExactCutActs returns true for all arguments: the program answers CutActs as the reference does, leaves its arguments as they are, and hands out files of its own. No conditions beyond the statement's own. -/
import Derived.Test.YthfppepnpngfmaaQcux10
import Derived.Test.YthfppepnpngfmaaVBase
namespace Go.Proofs.Ythfppepnpngfmaa.Pure
open Go.RowKit Go.Proofs.Ythfppepnpngfmaa.Qcu Go.Proofs.YthfppepnpngfmaaW.PrintWords Go.Proofs.YthfppepnpngfmaaW.PrintLast Go.Proofs.YthfppepnpngfmaaW.PrintMore Go.Proofs.Ythfppepnpngfmaa.Base

instance decS45 : DecidableEq S45 := fun a b => decidable_of_iff (a.f0 = b.f0 ∧ a.f1 = b.f1 ∧ a.f2 = b.f2) (by cases a; cases b; simp)
theorem rdF_nat (xs : List S45) (i : Nat) (h : i < xs.length) : rd_T45 xs (i : Int) = xs[i] := by
  unfold rd_T45
  rw [Int.toNat_natCast, List.getD_eq_getElem?_getD, List.getElem?_eq_getElem h]; rfl
theorem rdG_nat (xs : List S94) (i : Nat) (h : i < xs.length) : rd_T94 xs (i : Int) = xs[i] := by
  unfold rd_T94
  rw [Int.toNat_natCast, List.getD_eq_getElem?_getD, List.getElem?_eq_getElem h]; rfl
def toF (x : S94) : S45 := ⟨x.f0, x.f1, x.f2⟩
theorem toFileS_l0 (a : List S94) (hn : a.length ≤ 140737488355328) (d : Nat) :
    ∀ i : Nat, i + d = a.length → Ev (fun k => laws_toFileS.l0 k a ((a.map toF).take i ++ List.replicate (a.length - i) z45) (i : Int)) (a.map toF) := by
  induction d with
  | zero =>
    intro i hi
    refine Ev.step (fun _ => laws_toFileS.l0.eq_2 ..) ?_
    refine Ev.neg (by omega) (Ev.some ?_)
    rw [show a.length - i = 0 from by omega, List.take_of_length_le (by simp; omega)]; simp
  | succ d ih =>
    intro i hi
    refine Ev.step (fun _ => laws_toFileS.l0.eq_2 ..) ?_
    refine Ev.pos (by omega) (Ev.pos (by omega) (Ev.call rfl (Ev.pos (by simp; omega) ?_)))
    have e := take_set_replicate (a.map toF) z45 i (by simp; omega)
    have e2 : (a.map toF)[i]'(by simp; omega) = ⟨(rd_T94 a (i : Int)).f0, (rd_T94 a (i : Int)).f1, (rd_T94 a (i : Int)).f2⟩ := by
      rw [List.getElem_map, rdG_nat a i (by omega)]; rfl
    rw [e2, List.length_map] at e
    rw [w64_succ i (by omega), Int.toNat_natCast]
    show Ev (fun k => laws_toFileS.l0 k a (((a.map toF).take i ++ List.replicate (a.length - i) z45).set i ⟨(rd_T94 a (i : Int)).f0, (rd_T94 a (i : Int)).f1, (rd_T94 a (i : Int)).f2⟩) ((i + 1 : Nat) : Int)) _
    rw [e]
    exact ih (i + 1) (by omega)
theorem toDisk_ev (a : List S94) (hn : a.length ≤ 1048576) : Ev (fun k => laws_toDisk.f k a) (a.map toF) := by
  refine Ev.congr (fun _ => laws_toDisk.f.eq_1 ..) (Ev.bind (Ev.congr (fun _ => laws_toFileS.f.eq_1 ..) (Ev.pos (by omega) (Ev.pos (by omega) ?_))) (Ev.now _))
  have h := toFileS_l0 a (by omega) a.length 0 (by omega)
  simpa using h
theorem eqFile_eq (a b : S45) : laws_eqFile.f a.f0 a.f1 a.f2 b.f0 b.f1 b.f2 = some (decide (a = b)) := by
  unfold laws_eqFile.f
  obtain ⟨a0, a1, a2⟩ := a
  obtain ⟨b0, b1, b2⟩ := b
  simp only [toList_eq, S45.mk.injEq]
  by_cases h0 : a0 = b0 <;> by_cases h1 : a1 = b1 <;> by_cases h2 : a2 = b2 <;> simp [h0, h1, h2]
theorem eqFileS_l0 (a b : List S45) (hlen : a.length = b.length) (hn : a.length ≤ 140737488355328) (d : Nat) :
    ∀ i : Nat, i + d = a.length → Ev (fun k => laws_eqFileS.l0 k a b (i : Int)) (decide (a.drop i = b.drop i)) := by
  induction d with
  | zero =>
    intro i hi
    refine Ev.step (fun _ => laws_eqFileS.l0.eq_2 ..) ?_
    refine Ev.neg (by omega) (Ev.some ?_)
    rw [List.drop_eq_nil_of_le (by omega), List.drop_eq_nil_of_le (by omega)]; simp
  | succ d ih =>
    intro i hi
    refine Ev.step (fun _ => laws_eqFileS.l0.eq_2 ..) ?_
    refine Ev.pos (by omega) (Ev.pos (by omega) (Ev.pos (by omega) (Ev.call (eqFile_eq _ _) ?_)))
    rw [rdF_nat a i (by omega), rdF_nat b i (by omega), w64_succ i (by omega), drop_eq_iff a b i (by omega) (by omega)]
    refine Ev.ite (fun h => ?_) (fun h => ?_)
    · rw [h, Bool.true_and]; exact ih (i + 1) (by omega)
    · rw [Bool.eq_false_iff.2 h]; exact Ev.now _
theorem eqDisk_ev (a b : List S45) (hn : a.length ≤ 140737488355328) : Ev (fun k => laws_eqDisk.f k a b) (decide (a = b)) := by
  refine Ev.congr (fun _ => laws_eqDisk.f.eq_1 ..) (Ev.bind (a := decide (a = b)) (Ev.congr (fun _ => laws_eqFileS.f.eq_1 ..) (Ev.ite (fun h => ?_) (fun h => ?_))) (Ev.ite (fun h => Ev.some h.symm) (fun h => Ev.some (Bool.eq_false_iff.2 h).symm)))
  · exact eqFileS_l0 a b (by omega) hn a.length 0 (by omega)
  · rw [decide_eq_false (fun e => h (by rw [e]))]; exact Ev.now _
theorem eqDisk_self (a : List S45) (hn : a.length ≤ 140737488355328) : Ev (fun k => laws_eqDisk.f k a a) true := by
  have h := eqDisk_ev a a hn
  rwa [decide_eq_true rfl] at h
theorem szFile_ok (x : S94) (n : Int) (h0 : x.f0.size ≤ maxLen) (h1 : x.f1.size ≤ maxLen) (hn : 0 ≤ n ∧ n ≤ 1048576) :
    ∃ r, laws_szFile.f x.f0 x.f1 x.f2 n = some r ∧ r ≤ n ∧ -1 ≤ r ∧ (0 ≤ r → x.f0.size ≤ 1048576 ∧ x.f1.size ≤ 1048576) := by
  unfold laws_szFile.f maxLen at *
  rw [w64 (n := n - (x.f0.size : Int)) (by omega) (by omega)]
  by_cases c : n - (x.f0.size : Int) < 0
  · rw [if_pos c]; exact ⟨_, rfl, by omega, by omega, by omega⟩
  · rw [if_neg c, w64 (n := n - (x.f0.size : Int) - (x.f1.size : Int)) (by omega) (by omega)]
    by_cases c2 : n - (x.f0.size : Int) - (x.f1.size : Int) < 0
    · rw [if_pos c2]; exact ⟨_, rfl, by omega, by omega, by omega⟩
    · rw [if_neg c2]; exact ⟨_, rfl, by omega, by omega, by omega⟩
theorem szFileS_l0 (a : List S94) (hs : ∀ x ∈ a, x.f0.size ≤ maxLen ∧ x.f1.size ≤ maxLen) (hl : a.length ≤ maxLen) (d : Nat) :
    ∀ (i : Nat) (n : Int), i + d = a.length → 0 ≤ n → n ≤ 1048576 → ∃ r, Ev (fun k => laws_szFileS.l0 k a n (i : Int)) r ∧ r ≤ n ∧ (0 ≤ r → ∀ x ∈ a.drop i, x.f0.size ≤ 1048576 ∧ x.f1.size ≤ 1048576) := by
  induction d with
  | zero =>
    intro i n hi h0 h1
    refine ⟨n, Ev.step (fun _ => laws_szFileS.l0.eq_2 ..) (Ev.neg (by omega) (Ev.now _)), by omega, fun _ x hx => ?_⟩
    rw [List.drop_eq_nil_of_le (by omega)] at hx; simp at hx
  | succ d ih =>
    intro i n hi h0 h1
    have hx := hs _ (List.getElem_mem (by omega : i < a.length))
    obtain ⟨r1, e1, q1, q2, q3⟩ := szFile_ok a[i] n hx.1 hx.2 ⟨h0, h1⟩
    rw [← rdG_nat a i (by omega)] at e1
    by_cases c : r1 < 0
    · exact ⟨-1, Ev.step (fun _ => laws_szFileS.l0.eq_2 ..) (Ev.pos (by omega) (Ev.pos (by omega) (Ev.call e1 (Ev.pos c (Ev.now _))))), by omega, by omega⟩
    · obtain ⟨r, er, p1, p2⟩ := ih (i + 1) r1 (by omega) (by omega) (by omega)
      refine ⟨r, Ev.step (fun _ => laws_szFileS.l0.eq_2 ..) (Ev.pos (by omega) (Ev.pos (by omega) (Ev.call e1 (Ev.neg c ?_)))), by omega, fun hr x hx => ?_⟩
      · rw [w64_succ i (by unfold maxLen at hl; omega)]; exact er
      · rw [List.drop_eq_getElem_cons (i := i) (by omega)] at hx
        rcases List.mem_cons.1 hx with rfl | hx
        · exact q3 (by omega)
        · exact p2 hr x hx
theorem szDisk_ok (a : List S94) (hs : ∀ x ∈ a, x.f0.size ≤ maxLen ∧ x.f1.size ≤ maxLen) (hl : a.length ≤ maxLen) (n : Int) (hn : 0 ≤ n ∧ n ≤ 1048576) :
    ∃ r, Ev (fun k => laws_szDisk.f k a n) r ∧ r ≤ n ∧ (0 ≤ r → a.length ≤ 1048576 ∧ ∀ x ∈ a, x.f0.size ≤ 1048576 ∧ x.f1.size ≤ 1048576) := by
  have hm : maxLen = 9223372036854775807 := rfl
  have hw : wrap64 (n - (a.length : Int)) = n - (a.length : Int) := w64 (by omega) (by omega)
  by_cases c : n - (a.length : Int) < 0
  · refine ⟨-1, Ev.congr (fun _ => laws_szDisk.f.eq_1 ..) (Ev.bind (a := -1) (Ev.congr (fun _ => laws_szFileS.f.eq_1 ..) ?_) (Ev.pos (by omega) (Ev.now _))), by omega, by omega⟩
    rw [hw]; exact Ev.pos c (Ev.now _)
  · obtain ⟨r, er, q1, q2⟩ := szFileS_l0 a hs hl a.length 0 (n - (a.length : Int)) (by omega) (by omega) (by omega)
    have e : Ev (fun k => laws_szFileS.f k a n) r := by
      refine Ev.congr (fun _ => laws_szFileS.f.eq_1 ..) ?_
      rw [hw]; exact Ev.neg c er
    by_cases c2 : r < 0
    · exact ⟨-1, Ev.congr (fun _ => laws_szDisk.f.eq_1 ..) (Ev.bind e (Ev.pos c2 (Ev.now _))), by omega, by omega⟩
    · exact ⟨r, Ev.congr (fun _ => laws_szDisk.f.eq_1 ..) (Ev.bind e (Ev.neg c2 (Ev.now _))), by omega, fun h => ⟨by omega, by simpa using q2 h⟩⟩
theorem l01In_eq (n lo hi : Int) : spec_l01In.f n lo hi = some (decide (lo ≤ n ∧ n ≤ hi)) := by
  unfold spec_l01In.f
  by_cases h : n ≥ lo
  · rw [if_pos h]; congr 1; rw [decide_eq_decide]; exact ⟨fun h2 => ⟨h, h2⟩, fun h2 => h2.2⟩
  · rw [if_neg h]; congr 1; symm; rw [decide_eq_false_iff_not]; exact fun h2 => h h2.1
theorem within_eq (n lo hi : Int) : impl_within.f n lo hi = some (decide (lo ≤ n ∧ n ≤ hi)) := by
  unfold impl_within.f
  by_cases h : n ≥ lo
  · rw [if_pos h]; congr 1; rw [decide_eq_decide]; exact ⟨fun h2 => ⟨h, h2⟩, fun h2 => h2.2⟩
  · rw [if_neg h]; congr 1; symm; rw [decide_eq_false_iff_not]; exact fun h2 => h h2.1
def okAt (fs : List S45) (i : Nat) : Prop := (1 ≤ ((rd_T45 fs (i : Int)).f0.size : Int) ∧ ((rd_T45 fs (i : Int)).f0.size : Int) ≤ 8) ∧ ¬ ((rd_T45 fs (i : Int)).f1.size : Int) > 20000 ∧ (0 ≤ (rd_T45 fs (i : Int)).f2 ∧ (rd_T45 fs (i : Int)).f2 ≤ ((rd_T45 fs (i : Int)).f1.size : Int)) ∧
  (0 < i → Op.bytesLess (rd_T45 fs ((i : Int) - 1)).f0.toList (rd_T45 fs (i : Int)).f0.toList = true)
instance (fs : List S45) (i : Nat) : Decidable (okAt fs i) := by unfold okAt; exact inferInstance
def allFrom (fs : List S45) : Nat → Nat → Bool
  | 0, _ => true
  | d + 1, i => decide (okAt fs i) && allFrom fs d (i + 1)
theorem allFrom_iff (fs : List S45) (d : Nat) : ∀ i, allFrom fs d i = true ↔ ∀ j, j < d → okAt fs (i + j) := by
  induction d with
  | zero => intro i; simp [allFrom]
  | succ d ih =>
    intro i
    unfold allFrom
    rw [Bool.and_eq_true, decide_eq_true_iff, ih]
    constructor
    · rintro ⟨h1, h2⟩ j hj
      cases j with
      | zero => exact h1
      | succ j => have := h2 j (by omega); rwa [show i + 1 + j = i + (j + 1) from by omega] at this
    · intro h
      refine ⟨h 0 (by omega), fun j hj => ?_⟩
      have := h (j + 1) (by omega)
      rwa [show i + (j + 1) = i + 1 + j from by omega] at this
def diskB (fs : List S45) : Bool := allFrom fs fs.length 0 && decide (fs.length ≤ 30)
theorem implDiskOk_l0 (fs : List S45) (hn : fs.length ≤ 140737488355328) (d : Nat) :
    ∀ i : Nat, i + d = fs.length → Ev (fun k => impl_DiskOk.l0 k fs (fs.length : Int) (i : Int) fs) (allFrom fs d i && decide (fs.length ≤ 30)) := by
  induction d with
  | zero =>
    intro i hi
    refine Ev.step (fun _ => impl_DiskOk.l0.eq_2 ..) (Ev.neg (by omega) (Ev.some ?_))
    unfold allFrom
    rw [Bool.true_and, decide_eq_decide]; omega
  | succ d ih =>
    intro i hi
    unfold allFrom
    have no : ¬ okAt fs i → ∀ b c : Bool, ((decide (okAt fs i) && b) && c) = false := fun h b c => by rw [decide_eq_false h]; rfl
    refine Ev.step (fun _ => impl_DiskOk.l0.eq_2 ..) (Ev.pos (by omega) (Ev.pos (by omega) (Ev.pos (by omega) (Ev.call (within_eq ..) ?_))))
    by_cases h1 : 1 ≤ ((rd_T45 fs (i : Int)).f0.size : Int) ∧ ((rd_T45 fs (i : Int)).f0.size : Int) ≤ 8
    · refine Ev.pos (by rw [decide_eq_true h1]) (Ev.ite (fun h2 => ?_) (fun h2 => ?_))
      · exact Ev.some (no (fun z => z.2.1 h2) _ _).symm
      · refine Ev.call (within_eq ..) ?_
        by_cases h3 : 0 ≤ (rd_T45 fs (i : Int)).f2 ∧ (rd_T45 fs (i : Int)).f2 ≤ ((rd_T45 fs (i : Int)).f1.size : Int)
        · refine Ev.pos (by rw [decide_eq_true h3]) ?_
          rw [w64_succ i (by omega)]
          by_cases hi0 : 0 < i
          · rw [w64 (n := (i : Int) - 1) (by omega) (by omega)]
            refine Ev.pos (by omega) (Ev.pos (by omega) (Ev.pos (by omega) (Ev.ite (fun h4 => ?_) (fun h4 => ?_))))
            · rw [show decide (okAt fs i) = true from decide_eq_true ⟨h1, h2, h3, fun _ => h4⟩, Bool.true_and]
              exact ih (i + 1) (by omega)
            · exact Ev.some (no (fun z => h4 (z.2.2.2 hi0)) _ _).symm
          · refine Ev.neg (by omega) ?_
            rw [show decide (okAt fs i) = true from decide_eq_true ⟨h1, h2, h3, fun z => absurd z hi0⟩, Bool.true_and]
            exact ih (i + 1) (by omega)
        · exact Ev.neg (by rw [decide_eq_false h3]; simp) (Ev.some (no (fun z => h3 z.2.2.1) _ _).symm)
    · exact Ev.neg (by rw [decide_eq_false h1]; simp) (Ev.some (no (fun z => h1 z.1) _ _).symm)
theorem implDiskOk_ev (fs : List S45) (hn : fs.length ≤ 140737488355328) : Ev (fun k => impl_DiskOk.f k fs) (diskB fs) :=
  Ev.congr (fun _ => impl_DiskOk.f.eq_1 ..) (implDiskOk_l0 fs hn fs.length 0 (by omega))
theorem specName_eq (s : ByteArray) : spec_l03Name.f s = some (decide (1 ≤ (s.size : Int) ∧ (s.size : Int) ≤ 8)) := by
  unfold spec_l03Name.f; rw [l01In_eq, Option.bind_some]
theorem specDiskOk_l0 (fs : List S45) (hn : fs.length ≤ 140737488355328) (d : Nat) :
    ∀ i : Nat, i + d = fs.length → Ev (fun k => spec_DiskOk.l0 k (i : Int) fs) (allFrom fs d i) := by
  induction d with
  | zero =>
    intro i hi
    exact Ev.step (fun _ => spec_DiskOk.l0.eq_2 ..) (Ev.neg (by omega) (Ev.some rfl))
  | succ d ih =>
    intro i hi
    unfold allFrom
    have no : ¬ okAt fs i → ∀ b : Bool, (decide (okAt fs i) && b) = false := fun h b => by rw [decide_eq_false h]; rfl
    refine Ev.step (fun _ => spec_DiskOk.l0.eq_2 ..) (Ev.pos (by omega) (Ev.pos (by omega) (Ev.call (specName_eq _) ?_)))
    by_cases h1 : 1 ≤ ((rd_T45 fs (i : Int)).f0.size : Int) ∧ ((rd_T45 fs (i : Int)).f0.size : Int) ≤ 8
    · refine Ev.pos (by rw [decide_eq_true h1]) (Ev.ite (fun h2 => ?_) (fun h2 => ?_))
      · exact Ev.some (no (fun z => z.2.1 h2) _).symm
      · refine Ev.call (l01In_eq ..) ?_
        by_cases h3 : 0 ≤ (rd_T45 fs (i : Int)).f2 ∧ (rd_T45 fs (i : Int)).f2 ≤ ((rd_T45 fs (i : Int)).f1.size : Int)
        · refine Ev.pos (by rw [decide_eq_true h3]) ?_
          rw [w64_succ i (by omega)]
          by_cases hi0 : 0 < i
          · rw [w64 (n := (i : Int) - 1) (by omega) (by omega)]
            refine Ev.pos (by omega) (Ev.pos (by omega) (Ev.pos (by omega) (Ev.ite (fun h4 => ?_) (fun h4 => ?_))))
            · rw [show decide (okAt fs i) = true from decide_eq_true ⟨h1, h2, h3, fun _ => h4⟩, Bool.true_and]
              exact ih (i + 1) (by omega)
            · exact Ev.some (no (fun z => h4 (z.2.2.2 hi0)) _).symm
          · refine Ev.neg (by omega) ?_
            rw [show decide (okAt fs i) = true from decide_eq_true ⟨h1, h2, h3, fun z => absurd z hi0⟩, Bool.true_and]
            exact ih (i + 1) (by omega)
        · exact Ev.neg (by rw [decide_eq_false h3]; simp) (Ev.some (no (fun z => h3 z.2.2.1) _).symm)
    · exact Ev.neg (by rw [decide_eq_false h1]; simp) (Ev.some (no (fun z => h1 z.1) _).symm)
theorem specDiskOk_ev (fs : List S45) (hn : fs.length ≤ 140737488355328) : Ev (fun k => spec_DiskOk.f k fs) (diskB fs) := by
  refine Ev.congr (fun _ => spec_DiskOk.f.eq_1 ..) (Ev.ite (fun h => ?_) (fun h => ?_))
  · unfold diskB; rw [decide_eq_false (by omega : ¬ fs.length ≤ 30), Bool.and_false]; exact Ev.now _
  · unfold diskB; rw [decide_eq_true (by omega : fs.length ≤ 30), Bool.and_true]; exact specDiskOk_l0 fs hn fs.length 0 (by omega)
theorem bl_trans : ∀ x y z : List UInt8, Op.bytesLess x y = true → Op.bytesLess y z = true → Op.bytesLess x z = true
  | _, _, [], _, h => by unfold Op.bytesLess at h; simp at h
  | _, [], _ :: _, h, _ => by unfold Op.bytesLess at h; simp at h
  | [], _ :: _, _ :: _, _, _ => rfl
  | a :: x, b :: y, c :: z, h1, h2 => by
    unfold Op.bytesLess at h1 h2 ⊢
    simp only [Bool.or_eq_true, Bool.and_eq_true, decide_eq_true_iff, beq_iff_eq] at h1 h2 ⊢
    rcases h1 with h1 | ⟨rfl, h1⟩
    · rcases h2 with h2 | ⟨rfl, h2⟩
      · exact .inl (UInt8.lt_trans h1 h2)
      · exact .inl h1
    · rcases h2 with h2 | ⟨rfl, h2⟩
      · exact .inl h2
      · exact .inr ⟨rfl, bl_trans x y z h1 h2⟩
theorem bl_irrefl : ∀ x : List UInt8, Op.bytesLess x x = false
  | [] => rfl
  | a :: x => by
    unfold Op.bytesLess
    rw [bl_irrefl x]; simp
def sortedF (l : List S45) : Prop := l.Pairwise (fun a b => Op.bytesLess a.f0.toList b.f0.toList = true)
def goodF (f : S45) : Prop := (1 ≤ f.f0.size ∧ f.f0.size ≤ 8) ∧ f.f1.size ≤ 30 ∧ 0 ≤ f.f2 ∧ f.f2 ≤ (f.f1.size : Int)
def ltF (n : ByteArray) (x : S45) : Bool := Op.bytesLess x.f0.toList n.toList
def gtF (n : ByteArray) (x : S45) : Bool := Op.bytesLess n.toList x.f0.toList
theorem filters_len (n : ByteArray) (l : List S45) : (l.filter (ltF n)).length + (l.filter (gtF n)).length ≤ l.length := by
  induction l with
  | nil => simp
  | cons x l ih =>
    have hx : ¬ (ltF n x = true ∧ gtF n x = true) := fun h => by
      have := bl_trans _ _ _ h.1 h.2
      rw [bl_irrefl] at this; simp at this
    by_cases c1 : ltF n x = true <;> by_cases c2 : gtF n x = true
    · exact absurd ⟨c1, c2⟩ hx
    all_goals simp only [List.filter_cons, c1, c2, if_true, List.length_cons]; simp at *; omega
def putF (l : List S45) (f : S45) : List S45 := (l.filter (ltF f.f0) ++ [f]) ++ l.filter (gtF f.f0)
theorem putF_len (l : List S45) (f : S45) : (putF l f).length ≤ l.length + 1 := by
  have := filters_len f.f0 l
  unfold putF
  rw [List.length_append, List.length_append, List.length_singleton]; omega
theorem putF_sorted {l : List S45} (h : sortedF l) (f : S45) : sortedF (putF l f) := by
  unfold putF sortedF at *
  have h1 : ∀ a ∈ l.filter (ltF f.f0), Op.bytesLess a.f0.toList f.f0.toList = true := fun a ha => (List.mem_filter.1 ha).2
  have h2 : ∀ a ∈ l.filter (gtF f.f0), Op.bytesLess f.f0.toList a.f0.toList = true := fun a ha => (List.mem_filter.1 ha).2
  refine List.pairwise_append.2 ⟨List.pairwise_append.2 ⟨h.filter _, by simp, fun a ha b hb => ?_⟩, h.filter _, fun a ha b hb => ?_⟩
  · rw [List.mem_singleton.1 hb]; exact h1 a ha
  · rcases List.mem_append.1 ha with ha | ha
    · exact bl_trans _ _ _ (h1 a ha) (h2 b hb)
    · rw [List.mem_singleton.1 ha]; exact h2 b hb
theorem putF_good {l : List S45} (h : ∀ x ∈ l, goodF x) {f : S45} (hf : goodF f) : ∀ x ∈ putF l f, goodF x := by
  intro x hx
  unfold putF at hx
  rcases List.mem_append.1 hx with hx | hx
  · rcases List.mem_append.1 hx with hx | hx
    · exact h x (List.mem_filter.1 hx).1
    · rw [List.mem_singleton.1 hx]; exact hf
  · exact h x (List.mem_filter.1 hx).1
theorem put_l1 (l : List S45) (f : S45) (hn : l.length ≤ 100) (d : Nat) :
    ∀ (i : Nat) (acc : List S45), i + d = l.length → acc.length ≤ 1000 + i → Ev (fun k => spec_l03Put.l1 k (i : Int) l f.f0 f.f1 f.f2 acc) (acc ++ (l.drop i).filter (gtF f.f0)) := by
  induction d with
  | zero =>
    intro i acc hi _
    refine Ev.step (fun _ => spec_l03Put.l1.eq_2 ..) (Ev.neg (by omega) (Ev.some ?_))
    rw [List.drop_eq_nil_of_le (by omega)]; simp
  | succ d ih =>
    intro i acc hi ha
    refine Ev.step (fun _ => spec_l03Put.l1.eq_2 ..) (Ev.pos (by omega) (Ev.pos (by omega) ?_))
    rw [List.drop_eq_getElem_cons (show i < l.length by omega), w64_succ i (by omega), rdF_nat l i (by omega)]
    refine Ev.ite (fun c => ?_) (fun c => ?_)
    · refine Ev.pos (by omega) (Ev.eq (ih (i + 1) _ (by omega) (by simp; omega)) ?_)
      rw [List.filter_cons_of_pos (by exact c), List.append_assoc]; rfl
    · refine Ev.eq (ih (i + 1) _ (by omega) (by omega)) ?_
      rw [List.filter_cons_of_neg (by exact c)]
theorem put_l0 (l : List S45) (f : S45) (hn : l.length ≤ 100) (d : Nat) :
    ∀ (i : Nat) (acc : List S45), i + d = l.length → acc.length ≤ i → Ev (fun k => spec_l03Put.l0 k (i : Int) l f.f0 f.f1 f.f2 acc) (((acc ++ (l.drop i).filter (ltF f.f0)) ++ [f]) ++ l.filter (gtF f.f0)) := by
  induction d with
  | zero =>
    intro i acc hi ha
    refine Ev.step (fun _ => spec_l03Put.l0.eq_2 ..) (Ev.neg (by omega) (Ev.pos (by omega) ?_))
    rw [List.drop_eq_nil_of_le (by omega)]
    have := put_l1 l f hn l.length 0 (acc ++ [f]) (by omega) (by simp; omega)
    simpa using this
  | succ d ih =>
    intro i acc hi ha
    refine Ev.step (fun _ => spec_l03Put.l0.eq_2 ..) (Ev.pos (by omega) (Ev.pos (by omega) ?_))
    rw [List.drop_eq_getElem_cons (show i < l.length by omega), w64_succ i (by omega), rdF_nat l i (by omega)]
    refine Ev.ite (fun c => ?_) (fun c => ?_)
    · refine Ev.pos (by omega) (Ev.eq (ih (i + 1) _ (by omega) (by simp; omega)) ?_)
      rw [List.filter_cons_of_pos (by exact c)]; simp
    · refine Ev.eq (ih (i + 1) _ (by omega) (by omega)) ?_
      rw [List.filter_cons_of_neg (by exact c)]
theorem put_ev (l : List S45) (f : S45) (hn : l.length ≤ 100) : Ev (fun k => spec_l03Put.f k l f.f0 f.f1 f.f2) (putF l f) := by
  have := put_l0 l f hn l.length 0 [] (by omega) (by simp)
  exact Ev.congr (fun _ => spec_l03Put.f.eq_1 ..) (by simpa [putF] using this)
theorem diskB_of {r : List S45} (hl : r.length ≤ 30) (hs : sortedF r) (hg : ∀ x ∈ r, goodF x) : diskB r = true := by
  unfold diskB
  rw [decide_eq_true hl, Bool.and_true]
  refine (allFrom_iff r r.length 0).2 fun j hj => ?_
  rw [Nat.zero_add]
  have h := hg _ (List.getElem_mem (by omega : j < r.length))
  unfold okAt
  rw [rdF_nat r j hj]
  refine ⟨⟨by have := h.1.1; omega, by have := h.1.2; omega⟩, by have := h.2.1; omega, h.2.2, fun h0 => ?_⟩
  rw [show ((j : Int) - 1) = ((j - 1 : Nat) : Int) from by omega, rdF_nat r (j - 1) (by omega)]
  exact List.pairwise_iff_getElem.1 hs (j - 1) j (by omega) hj (by omega)
theorem ix_spec (s : ByteArray) (l : List S45) : ∀ i : Int, (impl_placeOf.ix s l i = -1 ∧ ∀ x ∈ l, x.f0 ≠ s) ∨ ∃ j : Nat, ∃ h : j < l.length, impl_placeOf.ix s l i = i + (j : Int) ∧ (l[j]).f0 = s := by
  induction l with
  | nil => intro i; exact .inl ⟨rfl, by simp⟩
  | cons x r ih =>
    intro i
    by_cases h : x.f0 = s
    · refine .inr ⟨0, by simp, ?_, h⟩
      rw [impl_placeOf.ix, if_pos (by rw [h]; simp)]; simp
    · have e : impl_placeOf.ix s (x :: r) i = impl_placeOf.ix s r (i + 1) := by
        rw [impl_placeOf.ix, if_neg (fun z => h (toList_eq.1 (by simpa using z)))]
      rcases ih (i + 1) with ⟨h1, h2⟩ | ⟨j, hj, h1, h2⟩
      · refine .inl ⟨by rw [e, h1], fun y hy => ?_⟩
        rcases List.mem_cons.1 hy with rfl | hy
        · exact h
        · exact h2 y hy
      · exact .inr ⟨j + 1, by simpa using hj, by rw [e, h1]; omega, by simpa using h2⟩
theorem specAt_l0 (fs : List S45) (s : ByteArray) (hn : fs.length ≤ 140737488355328) (d : Nat) :
    ∀ i : Nat, i + d = fs.length → Ev (fun k => spec_l03At.l0 k s (i : Int) fs) (impl_placeOf.ix s (fs.drop i) (i : Int)) := by
  induction d with
  | zero =>
    intro i hi
    refine Ev.step (fun _ => spec_l03At.l0.eq_2 ..) (Ev.neg (by omega) (Ev.some ?_))
    rw [List.drop_eq_nil_of_le (by omega), impl_placeOf.ix]
  | succ d ih =>
    intro i hi
    rw [impl_placeOf.drop_rd fs i (by omega), impl_placeOf.ix]
    refine Ev.step (fun _ => spec_l03At.l0.eq_2 ..) (Ev.pos (by omega) (Ev.pos (by omega) (Ev.ite (fun h => ?_) (fun h => ?_))))
    · exact Ev.some (by rw [if_pos (by rw [h]; simp)])
    · rw [if_neg (fun z => h (by simpa using z)), w64_succ i (by omega)]
      exact ih (i + 1) (by omega)
theorem specAt_ev (fs : List S45) (s : ByteArray) (hn : fs.length ≤ 140737488355328) : Ev (fun k => spec_l03At.f k fs s) (impl_placeOf.ix s fs 0) :=
  Ev.congr (fun _ => spec_l03At.f.eq_1 ..) (specAt_l0 fs s hn fs.length 0 (by omega))
def fileAtB (fs : List S45) (s : ByteArray) : ByteArray × Bool := if impl_placeOf.ix s fs 0 < 0 then (⟨#[]⟩, false) else ((rd_T45 fs (impl_placeOf.ix s fs 0)).f1, true)
theorem ix_lt (fs : List S45) (s : ByteArray) : impl_placeOf.ix s fs 0 < (fs.length : Int) := by
  rcases ix_spec s fs 0 with ⟨h, _⟩ | ⟨j, hj, h, _⟩ <;> omega
theorem bl_total (x y : List UInt8) (h : Op.bytesLess x y = false) (hne : x ≠ y) : Op.bytesLess y x = true := by
  rw [← StrCmp.less_other x y, h, beq_false_of_ne hne]; rfl
theorem bl_asymm {x y : List UInt8} (h : Op.bytesLess x y = true) : Op.bytesLess y x = false := by
  cases hq : Op.bytesLess y x with
  | false => rfl
  | true => have := bl_trans _ _ _ h hq; rw [bl_irrefl] at this; exact absurd this (by simp)
theorem keep_split (s : ByteArray) : ∀ l : List S45, sortedF l → (l.filter (keepF s)).take (impl_withFile.at_ s (l.filter (keepF s))) = l.filter (ltF s) ∧ (l.filter (keepF s)).drop (impl_withFile.at_ s (l.filter (keepF s))) = l.filter (gtF s)
  | [], _ => ⟨rfl, rfl⟩
  | x :: r, h => by
    have hr := List.pairwise_cons.1 h
    obtain ⟨i1, i2⟩ := keep_split s r hr.2
    by_cases c1 : Op.bytesLess x.f0.toList s.toList = true
    · have hk : keepF s x = true := by
        unfold keepF
        rw [Bool.not_eq_true', beq_eq_false_iff_ne]
        intro e; rw [e, bl_irrefl] at c1; exact absurd c1 (by simp)
      have hl : ltF s x = true := c1
      have hg : ¬ gtF s x = true := by unfold gtF; rw [bl_asymm c1]; simp
      rw [List.filter_cons_of_pos hk, List.filter_cons_of_pos hl, List.filter_cons_of_neg hg, impl_withFile.at_, if_pos c1, List.take_succ_cons, List.drop_succ_cons, i1, i2]
      exact ⟨rfl, rfl⟩
    · have hl : ¬ ltF s x = true := c1
      by_cases c2 : x.f0.toList = s.toList
      · have hk : ¬ keepF s x = true := by unfold keepF; rw [c2]; simp
        have hg : ¬ gtF s x = true := by unfold gtF; rw [c2, bl_irrefl]; simp
        rw [List.filter_cons_of_neg hk, List.filter_cons_of_neg hl, List.filter_cons_of_neg hg]
        exact ⟨i1, i2⟩
      · have hk : keepF s x = true := by unfold keepF; rw [Bool.not_eq_true', beq_eq_false_iff_ne]; exact c2
        have hgx : Op.bytesLess s.toList x.f0.toList = true := bl_total _ _ (Bool.eq_false_iff.2 c1) c2
        have hg : gtF s x = true := hgx
        have hall : ∀ y ∈ r, Op.bytesLess s.toList y.f0.toList = true := fun y hy => bl_trans _ _ _ hgx (hr.1 y hy)
        have e1 : r.filter (ltF s) = [] := List.filter_eq_nil_iff.2 fun y hy => by unfold ltF; rw [bl_asymm (hall y hy)]; simp
        have e2 : r.filter (gtF s) = r := List.filter_eq_self.2 fun y hy => hall y hy
        have e3 : r.filter (keepF s) = r := List.filter_eq_self.2 fun y hy => by
          unfold keepF
          rw [Bool.not_eq_true', beq_eq_false_iff_ne]
          intro e; have := hall y hy; rw [e, bl_irrefl] at this; exact absurd this (by simp)
        rw [List.filter_cons_of_pos hk, List.filter_cons_of_neg hl, List.filter_cons_of_pos hg, impl_withFile.at_, if_neg c1, e1, e2, e3]
        exact ⟨rfl, rfl⟩
theorem withoutFile_eq (l : List S45) (s : ByteArray) (hn : l.length ≤ 1000) : impl_withoutFile.f l s = some (l.filter (keepF s)) := by
  unfold impl_withoutFile.f impl_copyDisk.f
  rw [Option.bind_some, if_pos (by simp; omega)]; rfl
theorem withFile_eq (l : List S45) (f : S45) (hn : l.length ≤ 1000) (hs : sortedF l) : impl_withFile.f l f.f0 f.f1 f.f2 = some (putF l f) := by
  unfold impl_withFile.f
  obtain ⟨h1, h2⟩ := keep_split f.f0 l hs
  have := List.length_filter_le (keepF f.f0) l
  rw [withoutFile_eq l f.f0 hn, Option.bind_some, if_pos (by omega), h1, h2]; rfl
theorem without_l0 (l : List S45) (s : ByteArray) (hn : l.length ≤ 1000) (d : Nat) :
    ∀ (i : Nat) (acc : List S45), i + d = l.length → acc.length ≤ i → Ev (fun k => spec_l03Without.l0 k s (i : Int) l acc) (acc ++ (l.drop i).filter (keepF s)) := by
  induction d with
  | zero =>
    intro i acc hi _
    refine Ev.step (fun _ => spec_l03Without.l0.eq_2 ..) (Ev.neg (by omega) (Ev.some ?_))
    rw [List.drop_eq_nil_of_le (by omega)]; simp
  | succ d ih =>
    intro i acc hi ha
    refine Ev.step (fun _ => spec_l03Without.l0.eq_2 ..) (Ev.pos (by omega) (Ev.pos (by omega) ?_))
    rw [impl_placeOf.drop_rd l i (by omega), w64_succ i (by omega)]
    refine Ev.ite (fun h => ?_) (fun h => Ev.pos (by omega) ?_)
    · rw [List.filter_cons_of_neg (by unfold keepF; rw [h]; simp)]
      exact ih (i + 1) acc (by omega) (by omega)
    · rw [List.filter_cons_of_pos (by unfold keepF; rw [Bool.not_eq_true', beq_eq_false_iff_ne]; exact h)]
      have := ih (i + 1) (acc ++ [rd_T45 l (i : Int)]) (by omega) (by simp; omega)
      rwa [List.append_assoc, List.singleton_append] at this
theorem without_ev (l : List S45) (s : ByteArray) (hn : l.length ≤ 1000) : Ev (fun k => spec_l03Without.f k l s) (l.filter (keepF s)) := by
  have := without_l0 l s hn l.length 0 [] (by omega) (by simp)
  rw [List.nil_append, List.drop_zero] at this
  exact Ev.congr (fun _ => spec_l03Without.f.eq_1 ..) this
theorem diskB_at {fs : List S45} (h : diskB fs = true) (i : Nat) (hi : i < fs.length) : okAt fs i := by
  unfold diskB at h
  have := (allFrom_iff fs fs.length 0).1 (Bool.and_eq_true_iff.1 h).1 i hi
  rwa [Nat.zero_add] at this
theorem diskB_30 {fs : List S45} (h : diskB fs = true) : fs.length ≤ 30 := by
  unfold diskB at h
  exact of_decide_eq_true (Bool.and_eq_true_iff.1 h).2
theorem diskB_sorted {fs : List S45} (h : diskB fs = true) : sortedF fs := by
  unfold sortedF
  refine List.pairwise_iff_getElem.2 ?_
  intro i j hi hj hij
  induction j with
  | zero => omega
  | succ j ih =>
    have hs := (diskB_at h (j + 1) hj).2.2.2 (by omega)
    rw [rdF_nat fs (j + 1) hj, show (((j + 1 : Nat) : Int) - 1) = (j : Int) from by omega, rdF_nat fs j (by omega)] at hs
    by_cases e : i = j
    · subst e; exact hs
    · exact bl_trans _ _ _ (ih (by omega) (by omega)) hs
theorem diskB_name {fs : List S45} (h : diskB fs = true) (x : S45) (hx : x ∈ fs) : 1 ≤ (x.f0.size : Int) ∧ (x.f0.size : Int) ≤ 8 := by
  obtain ⟨i, hi, rfl⟩ := List.mem_iff_getElem.1 hx
  have := (diskB_at h i hi).1
  rwa [rdF_nat fs i hi] at this
theorem putF_mem (l : List S45) (f : S45) : f ∈ putF l f := by unfold putF; simp
/-- What a disk comes dst. -/
def finD (o : List S45) : List S45 × Bool := if diskB o = true then (o, true) else ([], false)
def heldF (fs : List S45) (name : ByteArray) : S45 := if impl_placeOf.ix name fs 0 ≥ 0 then rd_T45 fs (impl_placeOf.ix name fs 0) else ⟨name, ⟨#[]⟩, 0⟩
def actM (fs : List S45) (kind : Int) (name text dst : ByteArray) : List S45 × Bool :=
  if diskB fs = true ∧ (1 ≤ (name.size : Int) ∧ (name.size : Int) ≤ 8) ∧ (kind = 3 ∨ dst.toList = []) ∧ (kind = 1 ∨ text.toList = []) then
    if kind = 1 then finD (putF fs ⟨(heldF fs name).f0, (heldF fs name).f1 ++ text, (heldF fs name).f2⟩)
    else if impl_placeOf.ix name fs 0 < 0 then ([], false)
    else if kind = 2 then finD (putF fs ⟨(heldF fs name).f0, (heldF fs name).f1, ((heldF fs name).f1.size : Int)⟩)
    else if kind = 3 then if (heldF fs name).f2 < ((heldF fs name).f1.size : Int) ∨ dst.toList = name.toList then ([], false) else finD (putF (fs.filter (keepF name)) ⟨dst, (heldF fs name).f1, (heldF fs name).f2⟩)
    else if kind = 4 then finD (fs.filter (keepF name)) else ([], false)
  else ([], false)
theorem finSpec (o : List S45) (hn : o.length ≤ 1000) : Ev (fun k => (spec_DiskOk.f k o).bind fun t => (if t = true then (some (o, true)) else (some (([] : List S45), false)))) (finD o) := by
  unfold finD
  refine Ev.bind (specDiskOk_ev o (by omega)) (Ev.ite (fun h => Ev.some (by rw [if_pos h])) (fun h => Ev.some (by rw [if_neg h])))
theorem finImpl (o : List S45) (hn : o.length ≤ 1000) : Ev (fun k => (impl_DiskOk.f k o).bind fun t => (if t = true then (some (o, true)) else (some (([] : List S45), false)))) (finD o) := by
  unfold finD
  refine Ev.bind (implDiskOk_ev o (by omega)) (Ev.ite (fun h => Ev.some (by rw [if_pos h])) (fun h => Ev.some (by rw [if_neg h])))
theorem heldF_size {fs : List S45} (hd : diskB fs = true) (name : ByteArray) : (heldF fs name).f1.size ≤ 20000 := by
  unfold heldF
  split
  · rename_i h
    have hlt := ix_lt fs name
    obtain ⟨i, hi⟩ : ∃ i : Nat, impl_placeOf.ix name fs 0 = (i : Int) := ⟨(impl_placeOf.ix name fs 0).toNat, by omega⟩
    rw [hi] at hlt ⊢
    have := (diskB_at hd i (by omega)).2.1
    omega
  · show (⟨#[]⟩ : ByteArray).size ≤ 20000
    simp [ByteArray.size]
theorem heldF_kept {fs : List S45} (hd : diskB fs = true) (name : ByteArray) (h : impl_placeOf.ix name fs 0 ≥ 0) : (heldF fs name).f2 ≤ ((heldF fs name).f1.size : Int) := by
  unfold heldF
  rw [if_pos h]
  have hlt := ix_lt fs name
  obtain ⟨i, hi⟩ : ∃ i : Nat, impl_placeOf.ix name fs 0 = (i : Int) := ⟨(impl_placeOf.ix name fs 0).toNat, by omega⟩
  rw [hi] at hlt ⊢
  exact (diskB_at hd i (by omega)).2.2.1.2
theorem heldF_name (fs : List S45) (name : ByteArray) : (heldF fs name).f0 = name := by
  unfold heldF
  split
  · rename_i h
    rcases ix_spec name fs 0 with ⟨e, _⟩ | ⟨j, hj, e, hx⟩
    · omega
    · rw [e, Int.zero_add, rdF_nat fs j hj]; exact hx
  · rfl
theorem heldF_neg {fs : List S45} {name : ByteArray} (h : ¬ impl_placeOf.ix name fs 0 ≥ 0) : heldF fs name = ⟨name, ⟨#[]⟩, 0⟩ := by unfold heldF; rw [if_neg h]
theorem heldF_pos {fs : List S45} {name : ByteArray} (h : impl_placeOf.ix name fs 0 ≥ 0) : rd_T45 fs (impl_placeOf.ix name fs 0) = heldF fs name := by unfold heldF; rw [if_pos h]
/-- Behind the tests: what the reference does. -/
def restM (fs : List S45) (kind : Int) (name text dst : ByteArray) : List S45 × Bool :=
    if kind = 1 then finD (putF fs ⟨(heldF fs name).f0, (heldF fs name).f1 ++ text, (heldF fs name).f2⟩)
    else if impl_placeOf.ix name fs 0 < 0 then ([], false)
    else if kind = 2 then finD (putF fs ⟨(heldF fs name).f0, (heldF fs name).f1, ((heldF fs name).f1.size : Int)⟩)
    else if kind = 3 then if (heldF fs name).f2 < ((heldF fs name).f1.size : Int) ∨ dst.toList = name.toList then ([], false) else finD (putF (fs.filter (keepF name)) ⟨dst, (heldF fs name).f1, (heldF fs name).f2⟩)
    else if kind = 4 then finD (fs.filter (keepF name)) else ([], false)
theorem finD_bad {o : List S45} {x : S45} (hx : x ∈ o) (hb : ¬ (1 ≤ (x.f0.size : Int) ∧ (x.f0.size : Int) ≤ 8)) : finD o = ([], false) := by
  unfold finD
  rw [if_neg fun h => hb (diskB_name h x hx)]
theorem filter_len (fs : List S45) (p : S45 → Bool) (hn : fs.length ≤ 30) : (fs.filter p).length ≤ 30 := Nat.le_trans (List.length_filter_le p fs) hn
theorem specAct_j2 (fs : List S45) (hd : diskB fs = true) (b : Bool) (kind : Int) (name text dst : ByteArray) (g : S45) :
    Ev (fun k => spec_DoAct.j2 k b fs kind name text dst g.f0 g.f1 g.f2) (if b = true then ([], false) else finD (putF (fs.filter (keepF name)) ⟨dst, g.f1, g.f2⟩)) := by
  have h30 := diskB_30 hd
  have h31 := filter_len fs (keepF name) h30
  have h32 := putF_len (fs.filter (keepF name)) ⟨dst, g.f1, g.f2⟩
  refine Ev.step (fun _ => spec_DoAct.j2.eq_2 ..) (Ev.ite (fun h => Ev.some (by rw [if_pos h])) (fun h => ?_))
  rw [if_neg h]
  exact Ev.bind (without_ev fs name (by omega)) (Ev.bind (put_ev (fs.filter (keepF name)) ⟨dst, g.f1, g.f2⟩ (by omega)) (finSpec _ (by omega)))
theorem specAct_j1 (fs : List S45) (hd : diskB fs = true) (kind : Int) (name text dst : ByteArray) (ht : text.size ≤ 1048576) :
    Ev (fun k => spec_DoAct.j1 k (impl_placeOf.ix name fs 0) fs kind name text dst (heldF fs name).f0 (heldF fs name).f1 (heldF fs name).f2) (restM fs kind name text dst) := by
  have h30 := diskB_30 hd
  have hz := heldF_size hd name
  unfold restM
  refine Ev.step (fun _ => spec_DoAct.j1.eq_2 ..) (Ev.ite (fun h1 => ?_) (fun h1 => ?_))
  · rw [if_pos h1]
    have := putF_len fs ⟨(heldF fs name).f0, (heldF fs name).f1 ++ text, (heldF fs name).f2⟩
    exact Ev.pos (by omega) (Ev.bind (put_ev fs ⟨(heldF fs name).f0, (heldF fs name).f1 ++ text, (heldF fs name).f2⟩ (by omega)) (finSpec _ (by omega)))
  · rw [if_neg h1]
    refine Ev.ite (fun h2 => Ev.some (by rw [if_pos h2])) (fun h2 => ?_)
    rw [if_neg h2]
    refine Ev.ite (fun h3 => ?_) (fun h3 => ?_)
    · rw [if_pos h3]
      have := putF_len fs ⟨(heldF fs name).f0, (heldF fs name).f1, ((heldF fs name).f1.size : Int)⟩
      exact Ev.bind (put_ev fs ⟨(heldF fs name).f0, (heldF fs name).f1, ((heldF fs name).f1.size : Int)⟩ (by omega)) (finSpec _ (by omega))
    · rw [if_neg h3]
      refine Ev.ite (fun h4 => ?_) (fun h4 => ?_)
      · rw [if_pos h4]
        refine Ev.ite (fun h5 => ?_) (fun h5 => Ev.ite (fun h6 => ?_) (fun h6 => ?_))
        · refine Ev.eq (specAct_j2 fs hd true kind name text dst (heldF fs name)) ?_
          rw [if_pos rfl, if_pos (.inl h5)]
        · refine Ev.eq (specAct_j2 fs hd true kind name text dst (heldF fs name)) ?_
          rw [if_pos rfl, if_pos (.inr h6)]
        · refine Ev.call (specName_eq dst) (Ev.eq (specAct_j2 fs hd _ kind name text dst (heldF fs name)) ?_)
          rw [if_neg (c := _ ∨ _) (by rintro (h | h); exact h5 h; exact h6 h)]
          by_cases h7 : 1 ≤ (dst.size : Int) ∧ (dst.size : Int) ≤ 8
          · rw [decide_eq_true h7, if_neg (by simp)]
          · rw [decide_eq_false h7, if_pos (by simp), finD_bad (putF_mem _ _) h7]
      · rw [if_neg h4]
        refine Ev.ite (fun h5 => ?_) (fun h5 => Ev.some (by rw [if_neg h5]))
        rw [if_pos h5]
        have := filter_len fs (keepF name) h30
        exact Ev.bind (without_ev fs name (by omega)) (finSpec _ (by omega))
theorem specAct_j0 (fs : List S45) (hd : diskB fs = true) (b : Bool) (kind : Int) (name text dst : ByteArray) (ht : text.size ≤ 1048576) :
    Ev (fun k => spec_DoAct.j0 k b fs kind name text dst) (if b = true then ([], false) else restM fs kind name text dst) := by
  have h30 := diskB_30 hd
  have hlt := ix_lt fs name
  refine Ev.step (fun _ => spec_DoAct.j0.eq_2 ..) (Ev.ite (fun h => Ev.some (by rw [if_pos h])) (fun h => ?_))
  rw [if_neg h]
  refine Ev.bind (specAt_ev fs name (by omega)) (Ev.ite (fun h1 => Ev.pos (by omega) (Ev.pos hlt ?_)) (fun h1 => ?_))
  · have := specAct_j1 fs hd kind name text dst ht
    rwa [← heldF_pos h1] at this
  · have := specAct_j1 fs hd kind name text dst ht
    rwa [heldF_neg h1] at this
theorem actM_yes {fs : List S45} {kind : Int} {name text dst : ByteArray} (h : diskB fs = true ∧ (1 ≤ (name.size : Int) ∧ (name.size : Int) ≤ 8) ∧ (kind = 3 ∨ dst.toList = []) ∧ (kind = 1 ∨ text.toList = [])) : actM fs kind name text dst = restM fs kind name text dst := by
  unfold actM restM
  rw [if_pos h]
theorem actM_no {fs : List S45} {kind : Int} {name text dst : ByteArray} (h : ¬ (diskB fs = true ∧ (1 ≤ (name.size : Int) ∧ (name.size : Int) ≤ 8) ∧ (kind = 3 ∨ dst.toList = []) ∧ (kind = 1 ∨ text.toList = []))) : actM fs kind name text dst = ([], false) := by
  unfold actM
  rw [if_neg h]
theorem specAct_false (fs : List S45) (kind : Int) (name text dst : ByteArray) : Ev (fun k => spec_DoAct.j0 k true fs kind name text dst) ([], false) :=
  Ev.step (fun _ => spec_DoAct.j0.eq_2 ..) (Ev.pos rfl (Ev.now _))
theorem specDoAct_ev (fs : List S45) (kind : Int) (name text dst : ByteArray) (hn : fs.length ≤ 140737488355328) (ht : text.size ≤ 1048576) : Ev (fun k => spec_DoAct.f k fs kind name text dst) (actM fs kind name text dst) := by
  refine Ev.congr (fun _ => spec_DoAct.f.eq_1 ..) (Ev.bind (specDiskOk_ev fs hn) (Ev.ite (fun hd => Ev.call (specName_eq name) ?_) (fun hd => ?_)))
  · by_cases hnm : 1 ≤ (name.size : Int) ∧ (name.size : Int) ≤ 8
    · rw [decide_eq_true hnm]
      refine Ev.pos rfl ?_
      have key : ∀ b : Bool, (b = false ↔ (kind = 3 ∨ dst.toList = []) ∧ (kind = 1 ∨ text.toList = [])) → Ev (fun k => spec_DoAct.j0 k b fs kind name text dst) (actM fs kind name text dst) := by
        intro b hb
        refine Ev.eq (specAct_j0 fs hd b kind name text dst ht) ?_
        cases b with
        | false => rw [if_neg (by simp), actM_yes ⟨hd, hnm, hb.1 rfl⟩]
        | true => rw [if_pos rfl, actM_no fun h => absurd (hb.2 h.2.2) (by simp)]
      refine Ev.ite (fun h3 => Ev.ite (fun h1 => ?_) (fun h1 => ?_)) (fun h3 => Ev.ite (fun h2 => Ev.ite (fun h1 => ?_) (fun h1 => ?_)) (fun h2 => ?_))
      · exact absurd (h3.symm.trans h1) (by omega)
      · exact key _ (by simp [h3])
      · exact key false (by simp [h1, h2])
      · exact key _ (by simp [h1, h2])
      · exact key true (by simp [h3, h2])
    · rw [decide_eq_false hnm]
      refine Ev.neg (by simp) ?_
      rw [actM_no fun h => hnm h.2.1]
      exact specAct_false ..
  · rw [actM_no fun h => hd h.1]
    exact specAct_false ..
theorem implAct_j2 (fs : List S45) (hd : diskB fs = true) (b : Bool) (kind : Int) (name text dst : ByteArray) (g : S45) :
    Ev (fun k => impl_DoAct.j2 k b fs kind name text dst g.f0 g.f1 g.f2) (if b = true then ([], false) else finD (putF (fs.filter (keepF name)) ⟨dst, g.f1, g.f2⟩)) := by
  have h30 := diskB_30 hd
  have h31 := filter_len fs (keepF name) h30
  have h32 := putF_len (fs.filter (keepF name)) ⟨dst, g.f1, g.f2⟩
  refine Ev.step (fun _ => impl_DoAct.j2.eq_2 ..) (Ev.ite (fun h => Ev.some (by rw [if_pos h])) (fun h => ?_))
  rw [if_neg h]
  exact Ev.call (withoutFile_eq fs name (by omega)) (Ev.call (withFile_eq (fs.filter (keepF name)) ⟨dst, g.f1, g.f2⟩ (by omega) ((diskB_sorted hd).filter _)) (finImpl _ (by omega)))
theorem implAct_j1 (fs : List S45) (hd : diskB fs = true) (kind : Int) (name text dst : ByteArray) (ht : text.size ≤ 1048576) (hk : 1 ≤ kind ∧ kind ≤ 4) (hi : ¬ (impl_placeOf.ix name fs 0 < 0 ∧ kind ≠ 1)) :
    Ev (fun k => impl_DoAct.j1 k fs kind name text dst (heldF fs name).f0 (heldF fs name).f1 (heldF fs name).f2) (restM fs kind name text dst) := by
  have h30 := diskB_30 hd
  have hz := heldF_size hd name
  have hs := diskB_sorted hd
  unfold restM
  refine Ev.step (fun _ => impl_DoAct.j1.eq_2 ..) (Ev.ite (fun h1 => ?_) (fun h1 => ?_))
  · rw [if_pos h1]
    have := putF_len fs ⟨(heldF fs name).f0, (heldF fs name).f1 ++ text, (heldF fs name).f2⟩
    exact Ev.pos (by omega) (Ev.call (withFile_eq fs ⟨(heldF fs name).f0, (heldF fs name).f1 ++ text, (heldF fs name).f2⟩ (by omega) hs) (finImpl _ (by omega)))
  · have hp : ¬ impl_placeOf.ix name fs 0 < 0 := fun h => hi ⟨h, h1⟩
    rw [if_neg h1, if_neg hp]
    refine Ev.ite (fun h3 => ?_) (fun h3 => ?_)
    · rw [if_pos h3]
      have := putF_len fs ⟨(heldF fs name).f0, (heldF fs name).f1, ((heldF fs name).f1.size : Int)⟩
      exact Ev.call (withFile_eq fs ⟨(heldF fs name).f0, (heldF fs name).f1, ((heldF fs name).f1.size : Int)⟩ (by omega) hs) (finImpl _ (by omega))
    · rw [if_neg h3]
      refine Ev.ite (fun h4 => ?_) (fun h4 => ?_)
      · rw [if_pos h4]
        have hkp := heldF_kept hd name (by omega)
        refine Ev.ite (fun h5 => Ev.eq (implAct_j2 fs hd _ kind name text dst (heldF fs name)) ?_) (fun h5 => Ev.eq (implAct_j2 fs hd true kind name text dst (heldF fs name)) ?_)
        · by_cases h6 : dst.toList = name.toList
          · rw [if_pos (by simpa using h6), if_pos (.inr h6)]
          · rw [if_neg (by simpa using h6), if_neg (c := _ ∨ _) (by rintro (h | h); omega; exact h6 h)]
        · rw [if_pos rfl, if_pos (.inl (by omega))]
      · rw [if_neg h4, if_pos (by omega)]
        have := filter_len fs (keepF name) h30
        exact Ev.call (withoutFile_eq fs name (by omega)) (finImpl _ (by omega))
theorem implAct_j0 (fs : List S45) (hd : diskB fs = true) (b : Bool) (kind : Int) (name text dst : ByteArray) (ht : text.size ≤ 1048576) (hk : b = false → 1 ≤ kind ∧ kind ≤ 4) (hi : b = false → ¬ (impl_placeOf.ix name fs 0 < 0 ∧ kind ≠ 1)) :
    Ev (fun k => impl_DoAct.j0 k (impl_placeOf.ix name fs 0) b fs kind name text dst) (if b = true then ([], false) else restM fs kind name text dst) := by
  have hlt := ix_lt fs name
  refine Ev.step (fun _ => impl_DoAct.j0.eq_2 ..) (Ev.ite (fun h => Ev.some (by rw [if_pos h])) (fun h => ?_))
  rw [if_neg h]
  have hb : b = false := by simpa using h
  refine Ev.ite (fun h1 => Ev.pos (by omega) (Ev.pos hlt ?_)) (fun h1 => ?_)
  · have := implAct_j1 fs hd kind name text dst ht (hk hb) (hi hb)
    rwa [← heldF_pos h1] at this
  · have := implAct_j1 fs hd kind name text dst ht (hk hb) (hi hb)
    rwa [heldF_neg h1] at this
theorem implAct_false (i : Int) (fs : List S45) (kind : Int) (name text dst : ByteArray) : Ev (fun k => impl_DoAct.j0 k i true fs kind name text dst) ([], false) :=
  Ev.step (fun _ => impl_DoAct.j0.eq_2 ..) (Ev.pos rfl (Ev.now _))
def actOkB (kind : Int) (text dst : ByteArray) : Bool := decide ((1 ≤ kind ∧ kind ≤ 4) ∧ (kind = 3 ∨ dst.toList = []) ∧ (kind = 1 ∨ text.toList = []))
theorem actOk_eq (kind : Int) (name text dst : ByteArray) : impl_actOk.f kind name text dst = some (actOkB kind text dst) := by
  unfold impl_actOk.f actOkB
  rw [within_eq, Option.bind_some]
  by_cases h0 : 1 ≤ kind ∧ kind ≤ 4
  · rw [if_pos (decide_eq_true h0)]
    by_cases h1 : text.toList = [] <;> by_cases h2 : dst.toList = [] <;> by_cases h3 : kind = 1 <;> by_cases h4 : kind = 3 <;> simp [h0, h1, h2, h3, h4] <;> omega
  · rw [if_neg (by simpa using h0), decide_eq_false fun h => h0 h.1]
theorem restM_bad_kind {fs : List S45} {kind : Int} {name text dst : ByteArray} (h : ¬ (1 ≤ kind ∧ kind ≤ 4)) : restM fs kind name text dst = ([], false) := by
  unfold restM
  rw [if_neg (by omega)]
  by_cases h1 : impl_placeOf.ix name fs 0 < 0
  · rw [if_pos h1]
  · rw [if_neg h1, if_neg (by omega), if_neg (by omega), if_neg (by omega)]
theorem ix_name {fs : List S45} (hd : diskB fs = true) {name : ByteArray} (h : ¬ impl_placeOf.ix name fs 0 < 0) : 1 ≤ (name.size : Int) ∧ (name.size : Int) ≤ 8 := by
  rcases ix_spec name fs 0 with ⟨e, _⟩ | ⟨j, hj, e, hx⟩
  · omega
  · rw [← hx]; exact diskB_name hd _ (List.getElem_mem hj)
theorem implDoAct_ev (fs : List S45) (kind : Int) (name text dst : ByteArray) (hn : fs.length ≤ 140737488355328) (ht : text.size ≤ 1048576) : Ev (fun k => impl_DoAct.f k fs kind name text dst) (actM fs kind name text dst) := by
  refine Ev.congr (fun _ => impl_DoAct.f.eq_1 ..) (Ev.call (a := impl_placeOf.ix name fs 0) rfl (Ev.bind (implDiskOk_ev fs hn) (Ev.ite (fun hd => Ev.call (actOk_eq ..) (Ev.ite (fun ha => ?_) (fun ha => ?_))) (fun hd => ?_))))
  · have ha' := of_decide_eq_true ha
    have key : ∀ b : Bool, (b = true ↔ impl_placeOf.ix name fs 0 < 0 ∧ kind ≠ 1) → Ev (fun k => impl_DoAct.j0 k (impl_placeOf.ix name fs 0) b fs kind name text dst) (actM fs kind name text dst) := by
      intro b hb
      refine Ev.eq (implAct_j0 fs hd b kind name text dst ht (fun _ => ha'.1) (fun h h' => absurd (hb.2 h') (by rw [h]; simp))) ?_
      by_cases hnm : 1 ≤ (name.size : Int) ∧ (name.size : Int) ≤ 8
      · rw [actM_yes ⟨hd, hnm, ha'.2⟩]
        cases b with
        | false => rw [if_neg (by simp)]
        | true =>
          obtain ⟨h1, h2⟩ := hb.1 rfl
          rw [if_pos rfl]; unfold restM; rw [if_neg h2, if_pos h1]
      · rw [actM_no fun h => hnm h.2.1]
        have h1 : impl_placeOf.ix name fs 0 < 0 := Classical.byContradiction fun h => hnm (ix_name hd h)
        cases b with
        | true => rw [if_pos rfl]
        | false =>
          rw [if_neg (by simp)]
          have h2 : kind = 1 := Classical.byContradiction fun h => absurd (hb.2 ⟨h1, h⟩) (by simp)
          unfold restM
          rw [if_pos h2]
          refine finD_bad (putF_mem _ _) ?_
          show ¬ (1 ≤ ((heldF fs name).f0.size : Int) ∧ _)
          rw [heldF_name]; exact hnm
    refine Ev.ite (fun h1 => ?_) (fun h1 => ?_)
    · exact key _ (by simp [h1])
    · exact key false (by simp; intro h; omega)
  · refine Ev.eq (implAct_false ..) ?_
    have ha' : ¬ ((1 ≤ kind ∧ kind ≤ 4) ∧ (kind = 3 ∨ dst.toList = []) ∧ (kind = 1 ∨ text.toList = [])) := fun h => ha (decide_eq_true h)
    by_cases h : diskB fs = true ∧ (1 ≤ (name.size : Int) ∧ (name.size : Int) ≤ 8) ∧ (kind = 3 ∨ dst.toList = []) ∧ (kind = 1 ∨ text.toList = [])
    · rw [actM_yes h, restM_bad_kind fun hk => ha' ⟨hk, h.2.2⟩]
    · rw [actM_no h]
  · rw [actM_no fun h => hd h.1]
    exact implAct_false ..
theorem finD_len (o : List S45) : (finD o).1.length ≤ 30 := by
  unfold finD
  by_cases h : diskB o = true
  · rw [if_pos h]; exact diskB_30 h
  · rw [if_neg h]; simp
theorem actM_len (fs : List S45) (kind : Int) (name text dst : ByteArray) : (actM fs kind name text dst).1.length ≤ 30 := by
  unfold actM
  repeat' split
  all_goals first | exact finD_len _ | simp
theorem szAct_ok (kind : Int) (name text dst : ByteArray) (n : Int) (hn : n ≤ 1048576) (h0 : name.size ≤ maxLen) (h1 : text.size ≤ maxLen) (h2 : dst.size ≤ maxLen) (hp : 0 ≤ n) : ∃ r, laws_szAct.f kind name text dst n = some r ∧ r ≤ n ∧ (0 ≤ r → text.size ≤ 1048576) := by
  unfold laws_szAct.f maxLen at *
  rw [w64 (n := n - (name.size : Int)) (by omega) (by omega)]
  by_cases c : n - (name.size : Int) < 0
  · rw [if_pos c]; exact ⟨_, rfl, by omega, by omega⟩
  · rw [if_neg c, w64 (n := n - (name.size : Int) - (text.size : Int)) (by omega) (by omega)]
    by_cases c2 : n - (name.size : Int) - (text.size : Int) < 0
    · rw [if_pos c2]; exact ⟨_, rfl, by omega, by omega⟩
    · rw [if_neg c2, w64 (n := n - (name.size : Int) - (text.size : Int) - (dst.size : Int)) (by omega) (by omega)]
      by_cases c3 : n - (name.size : Int) - (text.size : Int) - (dst.size : Int) < 0
      · rw [if_pos c3]; exact ⟨_, rfl, by omega, by omega⟩
      · rw [if_neg c3]; exact ⟨_, rfl, by omega, by omega⟩
theorem markText_l0 (n : Nat) : ∀ acc : ByteArray, acc.size + n + 1 ≤ 9223372036854775807 → ∃ v, Ev (fun k => laws_markText.l0 k (n : Int) acc) v := by
  induction n using Nat.strongRecOn with
  | _ n ih =>
    intro acc ha
    by_cases h : 0 < n
    · have e : wrap64 (Int.tdiv (n : Int) 10) = ((n / 10 : Nat) : Int) := by
        rw [show Int.tdiv (n : Int) 10 = ((n / 10 : Nat) : Int) from Int.ofNat_tdiv n 10 ▸ rfl]
        exact w64 (by omega) (by omega)
      have hz : (strOfNums [(wrap64 (48 + (Int.tmod (n : Int) 10))) % 256]).size = 1 := strOfNums_size _
      obtain ⟨v, hv⟩ := ih (n / 10) (by omega) (strOfNums [(wrap64 (48 + (Int.tmod (n : Int) 10))) % 256] ++ acc) (by rw [ByteArray.size_append, hz]; omega)
      refine ⟨v, Ev.step (fun _ => laws_markText.l0.eq_2 ..) (Ev.pos (by omega) (Ev.call rfl (Ev.pos (by rw [hz]; omega) ?_)))⟩
      rw [e]; exact hv
    · exact ⟨_, Ev.step (fun _ => laws_markText.l0.eq_2 ..) (Ev.neg (by omega) (Ev.pos (by omega) (Ev.now _)))⟩
theorem markText_ex (m : Int) : ∃ v, m ≤ 4611686018427387904 → Ev (fun k => laws_markText.f k m) v := by
  by_cases h : m ≤ 0
  · exact ⟨_, fun _ => Ev.congr (fun _ => laws_markText.f.eq_1 ..) (Ev.pos h (Ev.now _))⟩
  · by_cases h2 : m ≤ 4611686018427387904
    · obtain ⟨n, rfl⟩ := Int.eq_ofNat_of_zero_le (by omega : 0 ≤ m)
      obtain ⟨v, hv⟩ := markText_l0 n (⟨#[]⟩ : ByteArray) (by show 0 + n + 1 ≤ _; omega)
      exact ⟨v, fun _ => Ev.congr (fun _ => laws_markText.f.eq_1 ..) (Ev.neg h hv)⟩
    · exact ⟨(⟨#[]⟩ : ByteArray), fun h3 => absurd h3 h2⟩
/-- The mark of a number. -/
noncomputable def mtM (m : Int) : ByteArray := Classical.choose (markText_ex m)
theorem markText_ev (m : Int) (h : m ≤ 4611686018427387904) : Ev (fun k => laws_markText.f k m) (mtM m) := Classical.choose_spec (markText_ex m) h
noncomputable def marksT (a : Int) (n : Nat) : List ByteArray := (List.range n).map (fun j : Nat => mtM (a + (j : Int)))
theorem marksT_length (a : Int) (n : Nat) : (marksT a n).length = n := by simp [marksT]
theorem marksT_get (a : Int) (n j : Nat) (h : j < (marksT a n).length) : (marksT a n)[j] = mtM (a + (j : Int)) := by simp [marksT]
theorem marksT_set (a : Int) (l : List ByteArray) (i : Nat) (h : i < l.length) :
    (marksT a i ++ l.drop i).set i (mtM (a + (i : Int))) = marksT a (i + 1) ++ l.drop (i + 1) := by
  rw [List.set_append_right _ _ (by rw [marksT_length]; omega), marksT_length, Nat.sub_self, List.drop_eq_getElem_cons h, List.set_cons_zero]
  unfold marksT
  rw [List.range_succ]
  simp
theorem rdA_nat (xs : List S55) (i : Nat) (h : i < xs.length) : rd_T55 xs (i : Int) = xs[i] := by
  unfold rd_T55
  rw [Int.toNat_natCast, List.getD_eq_getElem?_getD, List.getElem?_eq_getElem h]; rfl
theorem rdB_nat (xs : List S52) (i : Nat) (h : i < xs.length) : rd_T52 xs (i : Int) = xs[i] := by
  unfold rd_T52
  rw [Int.toNat_natCast, List.getD_eq_getElem?_getD, List.getElem?_eq_getElem h]; rfl
instance decS55 : DecidableEq S55 := fun a b => decidable_of_iff (a.f0 = b.f0 ∧ a.f1 = b.f1 ∧ a.f2 = b.f2 ∧ a.f3 = b.f3) (by cases a; cases b; simp)
def toA (x : S52) : S55 := ⟨x.f0, x.f1, x.f2, x.f3⟩
theorem toActS_l0 (a : List S52) (hn : a.length ≤ 140737488355328) (d : Nat) :
    ∀ i : Nat, i + d = a.length → Ev (fun k => laws_toActS.l0 k a ((a.map toA).take i ++ List.replicate (a.length - i) z55) (i : Int)) (a.map toA) := by
  induction d with
  | zero =>
    intro i hi
    refine Ev.step (fun _ => laws_toActS.l0.eq_2 ..) ?_
    refine Ev.neg (by omega) (Ev.some ?_)
    rw [show a.length - i = 0 from by omega, List.take_of_length_le (by simp; omega)]; simp
  | succ d ih =>
    intro i hi
    refine Ev.step (fun _ => laws_toActS.l0.eq_2 ..) ?_
    refine Ev.pos (by omega) (Ev.pos (by omega) (Ev.call rfl (Ev.pos (by simp; omega) ?_)))
    have e := take_set_replicate (a.map toA) z55 i (by simp; omega)
    have e2 : (a.map toA)[i]'(by simp; omega) = ⟨(rd_T52 a (i : Int)).f0, (rd_T52 a (i : Int)).f1, (rd_T52 a (i : Int)).f2, (rd_T52 a (i : Int)).f3⟩ := by
      rw [List.getElem_map, rdB_nat a i (by omega)]; rfl
    rw [e2, List.length_map] at e
    rw [w64_succ i (by omega), Int.toNat_natCast]
    show Ev (fun k => laws_toActS.l0 k a (((a.map toA).take i ++ List.replicate (a.length - i) z55).set i ⟨(rd_T52 a (i : Int)).f0, (rd_T52 a (i : Int)).f1, (rd_T52 a (i : Int)).f2, (rd_T52 a (i : Int)).f3⟩) ((i + 1 : Nat) : Int)) _
    rw [e]
    exact ih (i + 1) (by omega)
theorem toActS_ev (a : List S52) (hn : a.length ≤ 1048576) : Ev (fun k => laws_toActS.f k a) (a.map toA) := by
  refine Ev.congr (fun _ => laws_toActS.f.eq_1 ..) (Ev.pos (by omega) (Ev.pos (by omega) ?_))
  have h := toActS_l0 a (by omega) a.length 0 (by omega)
  simpa using h
theorem eqAct_eq (a b : S55) : laws_eqAct.f a.f0 a.f1 a.f2 a.f3 b.f0 b.f1 b.f2 b.f3 = some (decide (a = b)) := by
  unfold laws_eqAct.f
  obtain ⟨a0, a1, a2, a3⟩ := a
  obtain ⟨b0, b1, b2, b3⟩ := b
  simp only [toList_eq, S55.mk.injEq]
  by_cases h0 : a0 = b0 <;> by_cases h1 : a1 = b1 <;> by_cases h2 : a2 = b2 <;> by_cases h3 : a3 = b3 <;> simp [h0, h1, h2, h3]
theorem eqActS_l0 (a b : List S55) (hlen : a.length = b.length) (hn : a.length ≤ 140737488355328) (d : Nat) :
    ∀ i : Nat, i + d = a.length → Ev (fun k => laws_eqActS.l0 k a b (i : Int)) (decide (a.drop i = b.drop i)) := by
  induction d with
  | zero =>
    intro i hi
    refine Ev.step (fun _ => laws_eqActS.l0.eq_2 ..) ?_
    refine Ev.neg (by omega) (Ev.some ?_)
    rw [List.drop_eq_nil_of_le (by omega), List.drop_eq_nil_of_le (by omega)]; simp
  | succ d ih =>
    intro i hi
    refine Ev.step (fun _ => laws_eqActS.l0.eq_2 ..) ?_
    refine Ev.pos (by omega) (Ev.pos (by omega) (Ev.pos (by omega) (Ev.call (eqAct_eq _ _) ?_)))
    rw [rdA_nat a i (by omega), rdA_nat b i (by omega), w64_succ i (by omega), drop_eq_iff a b i (by omega) (by omega)]
    refine Ev.ite (fun h => ?_) (fun h => ?_)
    · rw [h, Bool.true_and]; exact ih (i + 1) (by omega)
    · rw [Bool.eq_false_iff.2 h]; exact Ev.now _
theorem eqActS_self (a : List S55) (hn : a.length ≤ 140737488355328) : Ev (fun k => laws_eqActS.f k a a) true := by
  refine Ev.congr (fun _ => laws_eqActS.f.eq_1 ..) (Ev.pos rfl ?_)
  have h := eqActS_l0 a a rfl hn a.length 0 (by omega)
  rwa [decide_eq_true rfl] at h
theorem szActS_l0 (a : List S52) (hs : ∀ x ∈ a, x.f1.size ≤ maxLen ∧ x.f2.size ≤ maxLen ∧ x.f3.size ≤ maxLen) (hl : a.length ≤ maxLen) (d : Nat) :
    ∀ (i : Nat) (n : Int), i + d = a.length → 0 ≤ n → n ≤ 1048576 → ∃ r, Ev (fun k => laws_szActS.l0 k a n (i : Int)) r ∧ r ≤ n ∧ (0 ≤ r → ∀ x ∈ a.drop i, x.f2.size ≤ 1048576) := by
  induction d with
  | zero =>
    intro i n hi h0 h1
    refine ⟨n, Ev.step (fun _ => laws_szActS.l0.eq_2 ..) (Ev.neg (by omega) (Ev.now _)), by omega, fun _ x hx => ?_⟩
    rw [List.drop_eq_nil_of_le (by omega)] at hx; simp at hx
  | succ d ih =>
    intro i n hi h0 h1
    have hx := hs _ (List.getElem_mem (by omega : i < a.length))
    obtain ⟨r1, e1, q1, q2⟩ := szAct_ok a[i].f0 a[i].f1 a[i].f2 a[i].f3 n h1 hx.1 hx.2.1 hx.2.2 h0
    rw [← rdB_nat a i (by omega)] at e1
    by_cases c : r1 < 0
    · exact ⟨-1, Ev.step (fun _ => laws_szActS.l0.eq_2 ..) (Ev.pos (by omega) (Ev.pos (by omega) (Ev.call e1 (Ev.pos c (Ev.now _))))), by omega, by omega⟩
    · obtain ⟨r, er, p1, p2⟩ := ih (i + 1) r1 (by omega) (by omega) (by omega)
      refine ⟨r, Ev.step (fun _ => laws_szActS.l0.eq_2 ..) (Ev.pos (by omega) (Ev.pos (by omega) (Ev.call e1 (Ev.neg c ?_)))), by omega, fun hr x hx => ?_⟩
      · rw [w64_succ i (by unfold maxLen at hl; omega)]; exact er
      · rw [List.drop_eq_getElem_cons (i := i) (by omega)] at hx
        rcases List.mem_cons.1 hx with rfl | hx
        · exact q2 (by omega)
        · exact p2 hr x hx
theorem szActS_ok (a : List S52) (hs : ∀ x ∈ a, x.f1.size ≤ maxLen ∧ x.f2.size ≤ maxLen ∧ x.f3.size ≤ maxLen) (hl : a.length ≤ maxLen) (n : Int) (hn : 0 ≤ n ∧ n ≤ 1048576) :
    ∃ r, Ev (fun k => laws_szActS.f k a n) r ∧ r ≤ n ∧ (0 ≤ r → a.length ≤ 1048576 ∧ ∀ x ∈ a, x.f2.size ≤ 1048576) := by
  have hm : maxLen = 9223372036854775807 := rfl
  have hw : wrap64 (n - (a.length : Int)) = n - (a.length : Int) := w64 (by omega) (by omega)
  by_cases c : n - (a.length : Int) < 0
  · refine ⟨-1, Ev.congr (fun _ => laws_szActS.f.eq_1 ..) ?_, by omega, by omega⟩
    rw [hw]; exact Ev.pos c (Ev.now _)
  · obtain ⟨r, er, q1, q2⟩ := szActS_l0 a hs hl a.length 0 (n - (a.length : Int)) (by omega) (by omega) (by omega)
    refine ⟨r, Ev.congr (fun _ => laws_szActS.f.eq_1 ..) ?_, by omega, fun h => ⟨by omega, by simpa using q2 h⟩⟩
    rw [hw]; exact Ev.neg c er
theorem rdA_set (l : List S55) (i : Nat) (v : S55) (h : i < l.length) : rd_T55 (l.set i v) (i : Int) = v := by
  rw [rdA_nat _ i (by simpa using h)]; simp
theorem markActS_l0 (n : Nat) (m : Int) (h0 : 0 ≤ m) (hm : m + 4 * n ≤ 4611686018427387904) (d : Nat) :
    ∀ (i : Nat) (a : List S55), i + d = n → a.length = n → ∃ q, Ev (fun k => laws_markActS.l0 k a (m + 4 * (i : Int)) (i : Int)) (m + 4 * (n : Int), q) := by
  induction d with
  | zero =>
    intro i a hi ha
    refine ⟨a, Ev.step (fun _ => laws_markActS.l0.eq_2 ..) (Ev.neg (by omega) (Ev.some ?_))⟩
    obtain rfl : i = n := by omega
    rfl
  | succ d ih =>
    intro i a hi ha
    have e1 : wrap64 (m + 4 * (i : Int) + 1) = m + 4 * (i : Int) + 1 := w64 (by omega) (by omega)
    have e2 : wrap64 (m + 4 * (i : Int) + 1 + 1) = m + 4 * (i : Int) + 2 := by rw [w64 (by omega) (by omega)]; omega
    have e3 : wrap64 (m + 4 * (i : Int) + 2 + 1) = m + 4 * (i : Int) + 3 := by rw [w64 (by omega) (by omega)]; omega
    have e4 : wrap64 (m + 4 * (i : Int) + 3 + 1) = m + 4 * ((i + 1 : Nat) : Int) := by rw [w64 (by omega) (by omega)]; omega
    obtain ⟨q, hq⟩ := ih (i + 1) (((((a.set i ⟨m + 4 * (i : Int), (rd_T55 a (i : Int)).f1, (rd_T55 a (i : Int)).f2, (rd_T55 a (i : Int)).f3⟩).set i ⟨m + 4 * (i : Int), mtM (m + 4 * (i : Int) + 1), (rd_T55 a (i : Int)).f2, (rd_T55 a (i : Int)).f3⟩).set i ⟨m + 4 * (i : Int), mtM (m + 4 * (i : Int) + 1), mtM (m + 4 * (i : Int) + 2), (rd_T55 a (i : Int)).f3⟩).set i ⟨m + 4 * (i : Int), mtM (m + 4 * (i : Int) + 1), mtM (m + 4 * (i : Int) + 2), mtM (m + 4 * (i : Int) + 3)⟩)) (by omega) (by simpa using ha)
    refine ⟨q, Ev.step (fun _ => laws_markActS.l0.eq_2 ..) ?_⟩
    simp only [e1, e2, e3, e4, Int.toNat_natCast]
    refine Ev.pos (by omega) (Ev.pos (by omega) (Ev.call rfl (Ev.bind (markText_ev _ (by omega)) (Ev.call rfl (Ev.bind (markText_ev _ (by omega)) (Ev.call rfl (Ev.bind (markText_ev _ (by omega)) ?_)))))))
    rw [rdA_set _ i _ (by omega), rdA_set _ i _ (by simp; omega), rdA_set _ i _ (by simp; omega), w64_succ i (by omega)]
    exact hq
theorem markActS_ev (a : List S55) (m : Int) (h0 : 0 ≤ m) (hm : m + 4 * a.length ≤ 4611686018427387904) : ∃ q, Ev (fun k => laws_markActS.f k a m) (m + 4 * (a.length : Int), q) := by
  obtain ⟨q, h⟩ := markActS_l0 a.length m h0 hm a.length 0 a (by omega) rfl
  refine ⟨q, Ev.congr (fun _ => laws_markActS.f.eq_1 ..) ?_⟩
  simpa using h
def actsM : List S55 → Nat → List S45 → List S45 × Int
  | [], i, d => (d, (i : Int))
  | a :: r, i, d => if (actM d a.f0 a.f1 a.f2 a.f3).2 = true then actsM r (i + 1) (actM d a.f0 a.f1 a.f2 a.f3).1 else (d, (i : Int))
theorem actsM_len (l : List S55) : ∀ (i : Nat) (d : List S45), d.length ≤ 1048576 → (actsM l i d).1.length ≤ 1048576 := by
  induction l with
  | nil => intro i d h; exact h
  | cons a r ih =>
    intro i d h
    unfold actsM
    split
    · exact ih _ _ (by have := actM_len d a.f0 a.f1 a.f2 a.f3; omega)
    · exact h
theorem specActs_l0 (l : List S55) (ht : ∀ x ∈ l, x.f2.size ≤ 1048576) (hl : l.length ≤ 1048576) (d : Nat) :
    ∀ (i : Nat) (fs : List S45), i + d = l.length → fs.length ≤ 1048576 → Ev (fun k => spec_DoActs.l0 k l (i : Int) fs) (actsM (l.drop i) i fs) := by
  induction d with
  | zero =>
    intro i fs hi _
    refine Ev.step (fun _ => spec_DoActs.l0.eq_2 ..) (Ev.neg (by omega) (Ev.some ?_))
    rw [List.drop_eq_nil_of_le (by omega), actsM, show l.length = i from by omega]
  | succ d ih =>
    intro i fs hi hf
    have hx := ht _ (List.getElem_mem (by omega : i < l.length))
    rw [← rdA_nat l i (by omega)] at hx
    rw [List.drop_eq_getElem_cons (by omega : i < l.length), ← rdA_nat l i (by omega), actsM]
    refine Ev.step (fun _ => spec_DoActs.l0.eq_2 ..) (Ev.pos (by omega) (Ev.pos (by omega) (Ev.bind (specDoAct_ev fs _ _ _ _ (by omega) hx) (Ev.ite (fun h => ?_) (fun h => ?_)))))
    · rw [if_pos h, w64_succ i (by omega)]
      exact ih (i + 1) _ (by omega) (by have := actM_len fs (rd_T55 l (i : Int)).f0 (rd_T55 l (i : Int)).f1 (rd_T55 l (i : Int)).f2 (rd_T55 l (i : Int)).f3; omega)
    · exact Ev.some (by rw [if_neg h])
theorem specDoActs_ev (l : List S55) (fs : List S45) (ht : ∀ x ∈ l, x.f2.size ≤ 1048576) (hl : l.length ≤ 1048576) (hf : fs.length ≤ 1048576) : Ev (fun k => spec_DoActs.f k fs l) (actsM l 0 fs) := by
  refine Ev.congr (fun _ => spec_DoActs.f.eq_1 ..) (Ev.call rfl (Ev.pos (by simp; omega) ?_))
  have := specActs_l0 l ht hl l.length 0 fs (by omega) hf
  rwa [List.drop_zero] at this
theorem implActs_l0 (l : List S55) (ht : ∀ x ∈ l, x.f2.size ≤ 1048576) (hl : l.length ≤ 1048576) (d : Nat) :
    ∀ (i : Nat) (fs : List S45), i + d = l.length → fs.length ≤ 1048576 → Ev (fun k => impl_DoActs.l0 k l l (l.length : Int) (i : Int) fs) (actsM (l.drop i) i fs) := by
  induction d with
  | zero =>
    intro i fs hi _
    refine Ev.step (fun _ => impl_DoActs.l0.eq_2 ..) (Ev.neg (by omega) (Ev.some ?_))
    rw [List.drop_eq_nil_of_le (by omega), actsM, show l.length = i from by omega]
  | succ d ih =>
    intro i fs hi hf
    have hx := ht _ (List.getElem_mem (by omega : i < l.length))
    rw [← rdA_nat l i (by omega)] at hx
    rw [List.drop_eq_getElem_cons (by omega : i < l.length), ← rdA_nat l i (by omega), actsM]
    refine Ev.step (fun _ => impl_DoActs.l0.eq_2 ..) (Ev.pos (by omega) (Ev.pos (by omega) (Ev.pos (by omega) (Ev.bind (implDoAct_ev fs _ _ _ _ (by omega) hx) (Ev.ite (fun h => ?_) (fun h => ?_))))))
    · rw [if_pos h, w64_succ i (by omega)]
      exact ih (i + 1) _ (by omega) (by have := actM_len fs (rd_T55 l (i : Int)).f0 (rd_T55 l (i : Int)).f1 (rd_T55 l (i : Int)).f2 (rd_T55 l (i : Int)).f3; omega)
    · exact Ev.some (by rw [if_neg h])
theorem implDoActs_ev (l : List S55) (fs : List S45) (ht : ∀ x ∈ l, x.f2.size ≤ 1048576) (hl : l.length ≤ 1048576) (hf : fs.length ≤ 1048576) : Ev (fun k => impl_DoActs.f k fs l) (actsM l 0 fs) := by
  have hc : impl_copyDisk.f fs = some fs := by unfold impl_copyDisk.f; rw [Option.bind_some, if_pos (by simp; omega)]; rfl
  refine Ev.congr (fun _ => impl_DoActs.f.eq_1 ..) (Ev.call hc ?_)
  have := implActs_l0 l ht hl l.length 0 fs (by omega) hf
  rwa [List.drop_zero] at this
theorem take_set_drop {α : Type} (L a : List α) (h : L.length = a.length) (i : Nat) (hi : i < a.length) : (L.take i ++ a.drop i).set i (L[i]'(by omega)) = L.take (i + 1) ++ a.drop (i + 1) := by
  rw [List.set_append_right _ _ (by rw [List.length_take]; omega), List.length_take, Nat.min_eq_left (by omega), Nat.sub_self, List.drop_eq_getElem_cons hi, List.set_cons_zero, List.take_succ_eq_append_getElem (by omega), List.append_assoc]
  rfl
theorem diskB_kept {fs : List S45} (h : diskB fs = true) (i : Nat) (hi : i < fs.length) : 0 ≤ (rd_T45 fs (i : Int)).f2 ∧ (rd_T45 fs (i : Int)).f2 ≤ ((rd_T45 fs (i : Int)).f1.size : Int) := by
  unfold diskB at h
  rw [Bool.and_eq_true] at h
  have := (allFrom_iff fs fs.length 0).1 h.1 i hi
  rw [Nat.zero_add] at this
  exact this.2.2.1
theorem diskB_len {fs : List S45} (h : diskB fs = true) : fs.length ≤ 30 := by
  unfold diskB at h
  rw [Bool.and_eq_true, decide_eq_true_iff] at h
  exact h.2
def leftN (left : List Int) (fs : List S45) (i : Nat) : Int := if (i : Int) < (left.length : Int) then mx (rd_T45 fs (i : Int)).f2 (mn (rd left (i : Int)) ((rd_T45 fs (i : Int)).f1.size : Int)) else (rd_T45 fs (i : Int)).f2
def lostF (f : S45) (n : Int) : S45 := ⟨f.f0, f.f1.extract 0 n.toNat, n⟩
def loseL (left : List Int) (fs : List S45) : List S45 := (List.range fs.length).map (fun i : Nat => lostF (rd_T45 fs (i : Int)) (leftN left fs i))
theorem loseL_length (left : List Int) (fs : List S45) : (loseL left fs).length = fs.length := by simp [loseL]
theorem loseL_get (left : List Int) (fs : List S45) (i : Nat) (h : i < (loseL left fs).length) : (loseL left fs)[i] = lostF (rd_T45 fs (i : Int)) (leftN left fs i) := by simp [loseL]
def loseM (left : List Int) (fs : List S45) : List S45 × Bool := if diskB fs = true then (loseL left fs, true) else ([], false)
theorem implLoseDisk_l0 (left : List Int) (fs : List S45) (hd : diskB fs = true) (d : Nat) :
    ∀ i : Nat, i + d = fs.length → Ev (fun k => impl_LoseDisk.l0 k left fs (fs.length : Int) (i : Int) ((loseL left fs).take i ++ fs.drop i)) (loseL left fs, true) := by
  have hl := diskB_len hd
  induction d with
  | zero =>
    intro i hi
    refine Ev.step (fun _ => impl_LoseDisk.l0.eq_2 ..) (Ev.neg (by omega) (Ev.some ?_))
    obtain rfl : i = fs.length := by omega
    rw [List.take_of_length_le (by rw [loseL_length]; omega)]; simp
  | succ d ih =>
    intro i hi
    have hk := diskB_kept hd i (by omega)
    have hlen : ((loseL left fs).take i ++ fs.drop i).length = fs.length := by simp [loseL_length]; omega
    have hset := take_set_drop (loseL left fs) fs (loseL_length _ _) i (by omega)
    rw [loseL_get] at hset
    refine Ev.step (fun _ => impl_LoseDisk.l0.eq_2 ..) (Ev.pos (by omega) (Ev.pos (by omega) (Ev.pos (by omega) (Ev.ite (fun c => ?_) (fun c => ?_)))))
    · have e : leftN left fs i = mx (rd_T45 fs (i : Int)).f2 (mn (rd left (i : Int)) ((rd_T45 fs (i : Int)).f1.size : Int)) := if_pos c
      rw [← e]
      have hr : 0 ≤ leftN left fs i ∧ leftN left fs i ≤ ((rd_T45 fs (i : Int)).f1.size : Int) := by
        rw [e]; unfold mx mn; split <;> split <;> omega
      refine Ev.pos hr.1 (Ev.pos hr.2 (Ev.pos (by rw [hlen]; omega) ?_))
      rw [w64_succ i (by omega), Int.toNat_natCast]
      show Ev (fun k => impl_LoseDisk.l0 k left fs (fs.length : Int) ((i + 1 : Nat) : Int) (((loseL left fs).take i ++ fs.drop i).set i (lostF (rd_T45 fs (i : Int)) (leftN left fs i)))) _
      rw [hset]
      exact ih (i + 1) (by omega)
    · have e : leftN left fs i = (rd_T45 fs (i : Int)).f2 := if_neg c
      refine Ev.pos hk.1 (Ev.pos hk.2 (Ev.pos (by rw [hlen]; omega) ?_))
      rw [w64_succ i (by omega), Int.toNat_natCast]
      rw [e] at hset
      show Ev (fun k => impl_LoseDisk.l0 k left fs (fs.length : Int) ((i + 1 : Nat) : Int) (((loseL left fs).take i ++ fs.drop i).set i (lostF (rd_T45 fs (i : Int)) (rd_T45 fs (i : Int)).f2))) _
      rw [hset]
      exact ih (i + 1) (by omega)
theorem implLoseDisk_ev (left : List Int) (fs : List S45) (hn : fs.length ≤ 140737488355328) : Ev (fun k => impl_LoseDisk.f k fs left) (loseM left fs) := by
  refine Ev.congr (fun _ => impl_LoseDisk.f.eq_1 ..) (Ev.bind (implDiskOk_ev fs hn) (Ev.ite (fun h => ?_) (fun h => ?_)))
  · refine Ev.call (a := fs) ?_ ?_
    · unfold impl_copyDisk.f
      rw [Option.bind_some, if_pos (by have := diskB_len h; simp; omega)]; rfl
    · unfold loseM; rw [if_pos h]
      have := implLoseDisk_l0 left fs h fs.length 0 (by omega)
      simpa using this
  · unfold loseM; rw [if_neg h]; exact Ev.now _
theorem specLoseDisk_l0 (left : List Int) (fs : List S45) (hd : diskB fs = true) (d : Nat) :
    ∀ i : Nat, i + d = fs.length → Ev (fun k => spec_LoseDisk.l0 k left (i : Int) fs ((loseL left fs).take i)) (loseL left fs, true) := by
  have hl := diskB_len hd
  induction d with
  | zero =>
    intro i hi
    refine Ev.step (fun _ => spec_LoseDisk.l0.eq_2 ..) (Ev.neg (by omega) (Ev.some ?_))
    rw [List.take_of_length_le (by rw [loseL_length]; omega)]
  | succ d ih =>
    intro i hi
    have hk := diskB_kept hd i (by omega)
    have hlen : ((loseL left fs).take i).length = i := by simp [loseL_length]; omega
    have fin : ∀ n : Int, n = leftN left fs i → 0 ≤ n → n ≤ ((rd_T45 fs (i : Int)).f1.size : Int) → Ev (fun k => if 0 ≤ n then (if n ≤ ((rd_T45 fs (i : Int)).f1.size : Int) then (if ((loseL left fs).take i).length < 3518437208883 then (spec_LoseDisk.l0 k left (wrap64 ((i : Int) + 1)) fs ((loseL left fs).take i ++ [(⟨(rd_T45 fs (i : Int)).f0, ((rd_T45 fs (i : Int)).f1).extract 0 (n : Int).toNat, n⟩ : S45)])) else (none)) else (none)) else (none)) (loseL left fs, true) := by
      intro n hn h0 h1
      refine Ev.pos h0 (Ev.pos h1 (Ev.pos (by rw [hlen]; omega) ?_))
      have e : (loseL left fs).take i ++ [(⟨(rd_T45 fs (i : Int)).f0, ((rd_T45 fs (i : Int)).f1).extract 0 (n : Int).toNat, n⟩ : S45)] = (loseL left fs).take (i + 1) := by
        rw [List.take_succ_eq_append_getElem (by rw [loseL_length]; omega), loseL_get, hn]; rfl
      rw [e, w64_succ i (by omega)]
      exact ih (i + 1) (by omega)
    have one : ∀ m : Int, (if m > ((rd_T45 fs (i : Int)).f1.size : Int) then ((rd_T45 fs (i : Int)).f1.size : Int) else m) < (rd_T45 fs (i : Int)).f2 ∧ leftN left fs i = (rd_T45 fs (i : Int)).f2 ∨ ¬ (if m > ((rd_T45 fs (i : Int)).f1.size : Int) then ((rd_T45 fs (i : Int)).f1.size : Int) else m) < (rd_T45 fs (i : Int)).f2 ∧ leftN left fs i = (if m > ((rd_T45 fs (i : Int)).f1.size : Int) then ((rd_T45 fs (i : Int)).f1.size : Int) else m) → Ev (fun k => spec_LoseDisk.j1 k left (i : Int) m fs ((loseL left fs).take i) (rd_T45 fs (i : Int)).f0 (rd_T45 fs (i : Int)).f1 (rd_T45 fs (i : Int)).f2) (loseL left fs, true) := by
      intro m hm
      refine Ev.step (fun _ => spec_LoseDisk.j1.eq_2 ..) (Ev.ite (fun c => ?_) (fun c => ?_))
      · rw [if_pos c] at hm
        refine Ev.ite (fun c2 => ?_) (fun c2 => ?_)
        · exact fin _ (by omega) hk.1 hk.2
        · exact fin _ (by omega) (by omega) (by omega)
      · rw [if_neg c] at hm
        refine Ev.ite (fun c2 => ?_) (fun c2 => ?_)
        · exact fin _ (by omega) hk.1 hk.2
        · exact fin _ (by omega) (by omega) (by omega)
    refine Ev.step (fun _ => spec_LoseDisk.l0.eq_2 ..) (Ev.pos (by omega) (Ev.pos (by omega) (Ev.ite (fun c => one _ ?_) (fun c => one _ ?_))))
    · have e : leftN left fs i = mx (rd_T45 fs (i : Int)).f2 (mn (rd left (i : Int)) ((rd_T45 fs (i : Int)).f1.size : Int)) := if_pos c
      rw [e]; unfold mx mn
      split <;> split <;> (try split) <;> omega
    · have e : leftN left fs i = (rd_T45 fs (i : Int)).f2 := if_neg c
      rw [e]
      split <;> omega
theorem specLoseDisk_ev (left : List Int) (fs : List S45) (hn : fs.length ≤ 140737488355328) : Ev (fun k => spec_LoseDisk.f k fs left) (loseM left fs) := by
  refine Ev.congr (fun _ => spec_LoseDisk.f.eq_1 ..) (Ev.bind (specDiskOk_ev fs hn) (Ev.ite (fun h => ?_) (fun h => ?_)))
  · unfold loseM; rw [if_pos h]
    have := specLoseDisk_l0 left fs h fs.length 0 (by omega)
    simpa using this
  · unfold loseM; rw [if_neg h]; exact Ev.now _
def cutM (l : List S55) (whole : Int) (left : List Int) (fs : List S45) : List S45 × Bool :=
  if 0 ≤ whole ∧ whole ≤ (l.length : Int) then (if (actsM (l.take whole.toNat) 0 fs).2 < whole then ([], false) else loseM left (actsM (l.take whole.toNat) 0 fs).1) else ([], false)
theorem loseM_len (left : List Int) (fs : List S45) (h : fs.length ≤ 1048576) : (loseM left fs).1.length ≤ 1048576 := by
  unfold loseM; split
  · rw [loseL_length]; exact h
  · simp
theorem cutM_len (l : List S55) (whole : Int) (left : List Int) (fs : List S45) (h : fs.length ≤ 1048576) : (cutM l whole left fs).1.length ≤ 1048576 := by
  unfold cutM
  split
  · split
    · simp
    · exact loseM_len _ _ (actsM_len _ _ _ h)
  · simp
theorem specCutActs_ev (l : List S55) (whole : Int) (left : List Int) (fs : List S45) (ht : ∀ x ∈ l, x.f2.size ≤ 1048576) (hl : l.length ≤ 1048576) (hf : fs.length ≤ 1048576) : Ev (fun k => spec_CutActs.f k fs l whole left) (cutM l whole left fs) := by
  have hlen := actsM_len (l.take whole.toNat) 0 fs hf
  unfold cutM
  refine Ev.congr (fun _ => spec_CutActs.f.eq_1 ..) (Ev.call (l01In_eq ..) (Ev.ite (fun h => ?_) (fun h => Ev.some ?_)))
  · have h' := of_decide_eq_true h
    rw [if_pos h']
    refine Ev.pos h'.1 (Ev.pos h'.2 (Ev.bind (specDoActs_ev _ fs (fun x hx => ht x (List.mem_of_mem_take hx)) (by rw [List.length_take]; omega) hf) (Ev.ite (fun h2 => Ev.some (by rw [if_pos h2])) (fun h2 => ?_))))
    rw [if_neg h2]
    exact Ev.bind (specLoseDisk_ev left _ (by omega)) (Ev.now _)
  · rw [if_neg fun z => h (decide_eq_true z)]
theorem implCutActs_ev (l : List S55) (whole : Int) (left : List Int) (fs : List S45) (ht : ∀ x ∈ l, x.f2.size ≤ 1048576) (hl : l.length ≤ 1048576) (hf : fs.length ≤ 1048576) : Ev (fun k => impl_CutActs.f k fs l whole left) (cutM l whole left fs) := by
  have hlen := actsM_len (l.take whole.toNat) 0 fs hf
  unfold cutM
  refine Ev.congr (fun _ => impl_CutActs.f.eq_1 ..) (Ev.call (within_eq ..) (Ev.ite (fun h => ?_) (fun h => Ev.some ?_)))
  · have h' := of_decide_eq_true h
    rw [if_pos h']
    refine Ev.pos h'.1 (Ev.pos h'.2 (Ev.bind (implDoActs_ev _ fs (fun x hx => ht x (List.mem_of_mem_take hx)) (by rw [List.length_take]; omega) hf) (Ev.ite (fun h2 => Ev.some (by rw [if_pos h2])) (fun h2 => ?_))))
    rw [if_neg h2]
    exact Ev.bind (implLoseDisk_ev left _ (by omega)) (Ev.now _)
  · rw [if_neg fun z => h (decide_eq_true z)]
theorem toIntS_l0 (a : List Int) (hn : a.length ≤ 140737488355328) (d : Nat) :
    ∀ i : Nat, i + d = a.length → Ev (fun k => laws_toIntS.l0 k a (a.take i ++ List.replicate (a.length - i) 0) (i : Int)) a := by
  induction d with
  | zero =>
    intro i hi
    refine Ev.step (fun _ => laws_toIntS.l0.eq_2 ..) ?_
    refine Ev.neg (by omega) (Ev.some ?_)
    rw [show a.length - i = 0 from by omega, List.take_of_length_le (by omega)]; simp
  | succ d ih =>
    intro i hi
    refine Ev.step (fun _ => laws_toIntS.l0.eq_2 ..) ?_
    refine Ev.pos (by omega) (Ev.pos (by omega) (Ev.pos (by simp; omega) ?_))
    rw [rd_nat a i (by omega), w64_succ i (by omega), Int.toNat_natCast, take_set_replicate a 0 i (by omega)]
    exact ih (i + 1) (by omega)
theorem toIntS_ev (a : List Int) (hn : a.length ≤ 35184372088832) : Ev (fun k => laws_toIntS.f k a) a := by
  refine Ev.congr (fun _ => laws_toIntS.f.eq_1 ..) (Ev.pos (by omega) (Ev.pos (by omega) ?_))
  have h := toIntS_l0 a (by omega) a.length 0 (by omega)
  simpa using h
theorem eqIntS_l0 (a b : List Int) (hlen : a.length = b.length) (hn : a.length ≤ 140737488355328) (d : Nat) :
    ∀ i : Nat, i + d = a.length → Ev (fun k => laws_eqIntS.l0 k a b (i : Int)) (decide (a.drop i = b.drop i)) := by
  induction d with
  | zero =>
    intro i hi
    refine Ev.step (fun _ => laws_eqIntS.l0.eq_2 ..) ?_
    refine Ev.neg (by omega) (Ev.some ?_)
    rw [List.drop_eq_nil_of_le (by omega), List.drop_eq_nil_of_le (by omega)]; rfl
  | succ d ih =>
    intro i hi
    refine Ev.step (fun _ => laws_eqIntS.l0.eq_2 ..) ?_
    refine Ev.pos (by omega) (Ev.pos (by omega) (Ev.pos (by omega) ?_))
    rw [rd_nat a i (by omega), rd_nat b i (by omega), w64_succ i (by omega), drop_eq_iff a b i (by omega) (by omega)]
    refine Ev.ite (fun h => ?_) (fun h => ?_)
    · rw [decide_eq_true h, Bool.true_and]; exact ih (i + 1) (by omega)
    · rw [decide_eq_false h]; exact Ev.now _
theorem eqIntS_ev (a b : List Int) (hn : a.length ≤ 140737488355328) : Ev (fun k => laws_eqIntS.f k a b) (decide (a = b)) := by
  refine Ev.congr (fun _ => laws_eqIntS.f.eq_1 ..) (Ev.ite (fun h => ?_) (fun h => ?_))
  · exact eqIntS_l0 a b (by omega) hn a.length 0 (by omega)
  · rw [decide_eq_false (fun e => h (by rw [e]))]; exact Ev.now _
theorem eqIntS_self (a : List Int) (hn : a.length ≤ 140737488355328) : Ev (fun k => laws_eqIntS.f k a a) true := by
  have h := eqIntS_ev a a hn
  rwa [decide_eq_true rfl] at h
theorem markIntS_l0 (a : List Int) (m : Int) (h0 : 0 ≤ m) (hm : m + a.length ≤ 9223372036854775807) (d : Nat) :
    ∀ i : Nat, i + d = a.length → Ev (fun k => laws_markIntS.l0 k (marks m i ++ a.drop i) (m + (i : Int)) (i : Int)) (m + (a.length : Int), marks m a.length) := by
  induction d with
  | zero =>
    intro i hi
    refine Ev.step (fun _ => laws_markIntS.l0.eq_2 ..) ?_
    refine Ev.neg (by simp [marks_length]; omega) (Ev.some ?_)
    obtain rfl : i = a.length := by omega
    simp
  | succ d ih =>
    intro i hi
    refine Ev.step (fun _ => laws_markIntS.l0.eq_2 ..) ?_
    refine Ev.pos (by simp [marks_length]; omega) (Ev.pos (by omega) ?_)
    rw [w64_succ i (by omega), Int.toNat_natCast, marks_set m a i (by omega), w64 (by omega) (by omega), Int.add_assoc, show ((i : Int) + 1) = ((i + 1 : Nat) : Int) from by omega]
    exact ih (i + 1) (by omega)
theorem markIntS_ev (a : List Int) (m : Int) (h0 : 0 ≤ m) (hm : m + a.length ≤ 9223372036854775807) : Ev (fun k => laws_markIntS.f k a m) (m + (a.length : Int), marks m a.length) := by
  have h := markIntS_l0 a m h0 hm a.length 0 (by omega)
  refine Ev.congr (fun _ => laws_markIntS.f.eq_1 ..) ?_
  simpa [marks] using h
theorem rdF_set (l : List S45) (i : Nat) (v : S45) (h : i < l.length) : rd_T45 (l.set i v) (i : Int) = v := by
  rw [rdF_nat _ i (by rw [List.length_set]; exact h)]; simp
/-- Files that were marked, from m on: each takes three numbers. -/
noncomputable def marksF (m : Int) (n : Nat) : List S45 := (List.range n).map (fun j : Nat => ⟨mtM (m + 3 * (j : Int)), mtM (m + 3 * (j : Int) + 1), m + 3 * (j : Int) + 2⟩)
theorem marksF_length (m : Int) (n : Nat) : (marksF m n).length = n := by simp [marksF]
theorem marksF_get (m : Int) (n j : Nat) (h : j < (marksF m n).length) : (marksF m n)[j] = ⟨mtM (m + 3 * (j : Int)), mtM (m + 3 * (j : Int) + 1), m + 3 * (j : Int) + 2⟩ := by simp [marksF]
theorem marksF_set (m : Int) (l : List S45) (i : Nat) (h : i < l.length) :
    (marksF m i ++ l.drop i).set i ⟨mtM (m + 3 * (i : Int)), mtM (m + 3 * (i : Int) + 1), m + 3 * (i : Int) + 2⟩ = marksF m (i + 1) ++ l.drop (i + 1) := by
  rw [List.set_append_right _ _ (by rw [marksF_length]; omega), marksF_length, Nat.sub_self, List.drop_eq_getElem_cons h, List.set_cons_zero]
  unfold marksF
  rw [List.range_succ]
  simp
theorem markFileS_l0 (a : List S45) (m : Int) (h0 : 0 ≤ m) (hm : m + 3 * a.length ≤ 4611686018427387904) (d : Nat) :
    ∀ i : Nat, i + d = a.length → Ev (fun k => laws_markFileS.l0 k (marksF m i ++ a.drop i) (m + 3 * (i : Int)) (i : Int)) (m + 3 * (a.length : Int), marksF m a.length) := by
  induction d with
  | zero =>
    intro i hi
    refine Ev.step (fun _ => laws_markFileS.l0.eq_2 ..) ?_
    refine Ev.neg (by simp [marksF_length]; omega) (Ev.some ?_)
    obtain rfl : i = a.length := by omega
    simp
  | succ d ih =>
    intro i hi
    have hlen : (marksF m i ++ a.drop i).length = a.length := by simp [marksF_length]; omega
    have e1 : wrap64 (m + 3 * (i : Int) + 1) = m + 3 * (i : Int) + 1 := w64 (by omega) (by omega)
    have e2 : wrap64 (m + 3 * (i : Int) + 1 + 1) = m + 3 * (i : Int) + 2 := by rw [w64 (by omega) (by omega)]; omega
    have e3 : wrap64 (m + 3 * (i : Int) + 2 + 1) = m + 3 * ((i + 1 : Nat) : Int) := by rw [w64 (by omega) (by omega)]; omega
    refine Ev.step (fun _ => laws_markFileS.l0.eq_2 ..) ?_
    simp only [e1, e2, e3, Int.toNat_natCast]
    refine Ev.pos (by rw [hlen]; omega) (Ev.bind (markText_ev _ (by omega)) (Ev.pos (by omega) (Ev.call rfl (Ev.bind (markText_ev _ (by omega)) (Ev.call rfl ?_)))))
    rw [rdF_set _ i _ (by rw [hlen]; omega), List.set_set, rdF_set _ i _ (by simp only [List.length_set, hlen]; omega), List.set_set, marksF_set m a i (by omega), w64_succ i (by omega)]
    exact ih (i + 1) (by omega)
theorem markDisk_ev (a : List S45) (m : Int) (h0 : 0 ≤ m) (hm : m + 3 * a.length ≤ 4611686018427387904) : Ev (fun k => laws_markDisk.f k a m) (m + 3 * (a.length : Int), marksF m a.length) := by
  have h := markFileS_l0 a m h0 hm a.length 0 (by omega)
  refine Ev.congr (fun _ => laws_markDisk.f.eq_1 ..) (Ev.bind (a := (m + 3 * (a.length : Int), marksF m a.length)) (Ev.congr (fun _ => laws_markFileS.f.eq_1 ..) ?_) (Ev.now _))
  simpa [marksF] using h
theorem heldFileS_l0 (n : Nat) (m : Int) (h0 : 0 ≤ m) (hm : m + 3 * n ≤ 4611686018427387904) (d : Nat) :
    ∀ i : Nat, i + d = n → Ev (fun k => laws_heldFileS.l0 k (marksF m n) (m + 3 * (i : Int)) (i : Int)) (m + 3 * (n : Int)) := by
  induction d with
  | zero =>
    intro i hi
    refine Ev.step (fun _ => laws_heldFileS.l0.eq_2 ..) ?_
    refine Ev.neg (by rw [marksF_length]; omega) (Ev.some ?_)
    omega
  | succ d ih =>
    intro i hi
    have e1 : wrap64 (m + 3 * (i : Int) + 1) = m + 3 * (i : Int) + 1 := w64 (by omega) (by omega)
    have e2 : wrap64 (m + 3 * (i : Int) + 1 + 1) = m + 3 * (i : Int) + 2 := by rw [w64 (by omega) (by omega)]; omega
    have e3 : wrap64 (m + 3 * (i : Int) + 2 + 1) = m + 3 * ((i + 1 : Nat) : Int) := by rw [w64 (by omega) (by omega)]; omega
    refine Ev.step (fun _ => laws_heldFileS.l0.eq_2 ..) ?_
    simp only [e1, e2, e3]
    rw [rdF_nat _ i (by rw [marksF_length]; omega), marksF_get]
    refine Ev.pos (by rw [marksF_length]; omega) (Ev.pos (by omega) (Ev.bind (markText_ev _ (by omega)) (Ev.pos rfl (Ev.bind (markText_ev _ (by omega)) (Ev.pos rfl (Ev.pos rfl ?_))))))
    rw [w64_succ i (by omega)]
    exact ih (i + 1) (by omega)
theorem heldDisk_ev (n : Nat) (m : Int) (h0 : 0 ≤ m) (hm : m + 3 * n ≤ 4611686018427387904) : Ev (fun k => laws_heldDisk.f k (marksF m n) m) (m + 3 * (n : Int)) := by
  have h := heldFileS_l0 n m h0 hm n 0 (by omega)
  refine Ev.congr (fun _ => laws_heldDisk.f.eq_1 ..) (Ev.bind (a := m + 3 * (n : Int)) (Ev.congr (fun _ => laws_heldFileS.f.eq_1 ..) ?_) (Ev.neg (by omega) (Ev.now _)))
  simpa using h
theorem FnExactCutActs : laws_FnExactCutActs.Pure := by
  intro a b wh z ⟨hs, hl⟩ ⟨hs2, hl2⟩ _ ⟨_, hl3⟩
  apply Ev.rounds
  obtain ⟨r, er, hr1, hr⟩ := szDisk_ok a (fun x hx => ⟨(hs x hx).1, (hs x hx).2.1⟩) hl 1048576 (by omega)
  refine Ev.congr (fun _ => laws_FnExactCutActs.f.eq_1 ..) (Ev.ite (fun _ => Ev.now _) (fun hz => Ev.bind er (Ev.ite (fun _ => Ev.now _) (fun h => ?_))))
  have hn := (hr (by omega)).1
  obtain ⟨q, eq, hq1, hq⟩ := szActS_ok b (fun x hx => (hs2 x hx).2) hl2 r (by omega)
  refine Ev.bind eq (Ev.ite (fun _ => Ev.now _) (fun h2 => ?_))
  obtain ⟨hbn, hbt⟩ := hq (by omega)
  have ht := toDisk_ev a hn
  have hu := toActS_ev b hbn
  have hi := toIntS_ev z (by omega)
  have hm : (a.map toF).length ≤ 1048576 := by simp; omega
  have hmb : (b.map toA).length ≤ 1048576 := by simp; omega
  have hbt2 : ∀ x ∈ b.map toA, x.f2.size ≤ 1048576 := by
    intro x hx
    obtain ⟨y, hy, rfl⟩ := List.mem_map.1 hx
    exact hbt y hy
  generalize a.map toF = fs at ht hm
  generalize b.map toA = l at hu hmb hbt2
  have hsp := specCutActs_ev l wh z fs hbt2 hmb hm
  have him := implCutActs_ev l wh z fs hbt2 hmb hm
  have hlen := cutM_len l wh z fs hm
  generalize cutM l wh z fs = M at hsp him hlen
  obtain ⟨w, hw⟩ := markActS_ev l (1 + 3 * (fs.length : Int)) (by omega) (by omega)
  refine Ev.bind ht (Ev.bind hu (Ev.bind hi (Ev.bind hsp (Ev.bind ht (Ev.bind hu (Ev.bind hi (Ev.bind him (Ev.bind (eqDisk_self _ (by omega)) (Ev.pos rfl ?_)))))))))
  refine Ev.step (fun _ => laws_FnExactCutActs.j0.eq_2 ..) (Ev.neg (by simp) (Ev.bind ht (Ev.bind (eqDisk_self _ (by omega)) (Ev.pos rfl (Ev.bind hu (Ev.bind (eqActS_self _ (by omega)) (Ev.pos rfl (Ev.bind hi (Ev.bind (eqIntS_self _ (by omega)) (Ev.pos rfl ?_))))))))))
  refine Ev.bind (markDisk_ev fs 1 (by omega) (by omega)) (Ev.bind hw (Ev.bind (markIntS_ev z _ (by omega) (by omega)) (Ev.neg (by omega) (Ev.bind (eqDisk_self _ (by omega)) (Ev.pos rfl ?_)))))
  refine Ev.step (fun _ => laws_FnExactCutActs.j1.eq_2 ..) (Ev.neg (by simp) (Ev.bind (markDisk_ev _ 1 (by omega) (by omega)) (Ev.bind (heldDisk_ev _ 1 (by omega) (by omega)) (Ev.neg (by omega) (Ev.pos rfl (Ev.bind ht (Ev.bind hu (Ev.bind hi (Ev.bind him (Ev.bind (eqDisk_self _ (by omega)) (Ev.pos rfl ?_)))))))))))
  exact Ev.step (fun _ => laws_FnExactCutActs.j2.eq_2 ..) (Ev.neg (by simp) (Ev.bind (heldDisk_ev _ 1 (by omega) (by omega)) (Ev.neg (by omega) (Ev.pos rfl (Ev.now _)))))

end Go.Proofs.Ythfppepnpngfmaa.Pure
