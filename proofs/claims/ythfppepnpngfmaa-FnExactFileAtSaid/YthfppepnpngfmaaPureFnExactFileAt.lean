/- FnExactFileAt returns true for all arguments: the program's FileAt answers what the reference's answers, and leaves the disk as it is. No conditions beyond the statement's own. -/
import Derived.Test.YthfppepnpngfmaaQfax3
import Derived.Test.YthfppepnpngfmaaBase
namespace Go.Proofs.Ythfppepnpngfmaa.Pure
open Go.RowKit Go.Proofs.Ythfppepnpngfmaa.Qfa Go.Proofs.YthfppepnpngfmaaW.PrintWords Go.Proofs.YthfppepnpngfmaaW.PrintLast Go.Proofs.YthfppepnpngfmaaW.PrintMore Go.Proofs.Ythfppepnpngfmaa.Base

instance decS45 : DecidableEq S45 := fun a b => decidable_of_iff (a.f0 = b.f0 ∧ a.f1 = b.f1 ∧ a.f2 = b.f2) (by cases a; cases b; simp)
theorem rdF_nat (xs : List S45) (i : Nat) (h : i < xs.length) : rd_T45 xs (i : Int) = xs[i] := by
  unfold rd_T45
  rw [Int.toNat_natCast, List.getD_eq_getElem?_getD, List.getElem?_eq_getElem h]; rfl
theorem rdG_nat (xs : List S94) (i : Nat) (h : i < xs.length) : rd_T94 xs (i : Int) = xs[i] := by
  unfold rd_T94
  rw [Int.toNat_natCast, List.getD_eq_getElem?_getD, List.getElem?_eq_getElem h]; rfl
def toF (x : S94) : S45 := ⟨x.f0, x.f1, x.f2⟩
theorem toFileS_l0 (a : List S94) (hn : a.length ≤ 140737488355328) (d : Nat) :
    ∀ i : Nat, i + d = a.length → Ev (fun k => laws_toFileS.l0 k a ((a.map toF).take i ++ List.replicate (a.length - i) z45) (i : Int)) (a.map toF) := by
  induction d with
  | zero =>
    intro i hi
    refine Ev.step (fun _ => laws_toFileS.l0.eq_2 ..) ?_
    refine Ev.neg (by omega) (Ev.some ?_)
    rw [show a.length - i = 0 from by omega, List.take_of_length_le (by simp; omega)]; simp
  | succ d ih =>
    intro i hi
    refine Ev.step (fun _ => laws_toFileS.l0.eq_2 ..) ?_
    refine Ev.pos (by omega) (Ev.pos (by omega) (Ev.call rfl (Ev.pos (by simp; omega) ?_)))
    have e := take_set_replicate (a.map toF) z45 i (by simp; omega)
    have e2 : (a.map toF)[i]'(by simp; omega) = ⟨(rd_T94 a (i : Int)).f0, (rd_T94 a (i : Int)).f1, (rd_T94 a (i : Int)).f2⟩ := by
      rw [List.getElem_map, rdG_nat a i (by omega)]; rfl
    rw [e2, List.length_map] at e
    rw [w64_succ i (by omega), Int.toNat_natCast]
    show Ev (fun k => laws_toFileS.l0 k a (((a.map toF).take i ++ List.replicate (a.length - i) z45).set i ⟨(rd_T94 a (i : Int)).f0, (rd_T94 a (i : Int)).f1, (rd_T94 a (i : Int)).f2⟩) ((i + 1 : Nat) : Int)) _
    rw [e]
    exact ih (i + 1) (by omega)
theorem toDisk_ev (a : List S94) (hn : a.length ≤ 1048576) : Ev (fun k => laws_toDisk.f k a) (a.map toF) := by
  refine Ev.congr (fun _ => laws_toDisk.f.eq_1 ..) (Ev.bind (Ev.congr (fun _ => laws_toFileS.f.eq_1 ..) (Ev.pos (by omega) (Ev.pos (by omega) ?_))) (Ev.now _))
  have h := toFileS_l0 a (by omega) a.length 0 (by omega)
  simpa using h
theorem eqFile_eq (a b : S45) : laws_eqFile.f a.f0 a.f1 a.f2 b.f0 b.f1 b.f2 = some (decide (a = b)) := by
  unfold laws_eqFile.f
  obtain ⟨a0, a1, a2⟩ := a
  obtain ⟨b0, b1, b2⟩ := b
  simp only [toList_eq, S45.mk.injEq]
  by_cases h0 : a0 = b0 <;> by_cases h1 : a1 = b1 <;> by_cases h2 : a2 = b2 <;> simp [h0, h1, h2]
theorem eqFileS_l0 (a b : List S45) (hlen : a.length = b.length) (hn : a.length ≤ 140737488355328) (d : Nat) :
    ∀ i : Nat, i + d = a.length → Ev (fun k => laws_eqFileS.l0 k a b (i : Int)) (decide (a.drop i = b.drop i)) := by
  induction d with
  | zero =>
    intro i hi
    refine Ev.step (fun _ => laws_eqFileS.l0.eq_2 ..) ?_
    refine Ev.neg (by omega) (Ev.some ?_)
    rw [List.drop_eq_nil_of_le (by omega), List.drop_eq_nil_of_le (by omega)]; simp
  | succ d ih =>
    intro i hi
    refine Ev.step (fun _ => laws_eqFileS.l0.eq_2 ..) ?_
    refine Ev.pos (by omega) (Ev.pos (by omega) (Ev.pos (by omega) (Ev.call (eqFile_eq _ _) ?_)))
    rw [rdF_nat a i (by omega), rdF_nat b i (by omega), w64_succ i (by omega), drop_eq_iff a b i (by omega) (by omega)]
    refine Ev.ite (fun h => ?_) (fun h => ?_)
    · rw [h, Bool.true_and]; exact ih (i + 1) (by omega)
    · rw [Bool.eq_false_iff.2 h]; exact Ev.now _
theorem eqDisk_ev (a b : List S45) (hn : a.length ≤ 140737488355328) : Ev (fun k => laws_eqDisk.f k a b) (decide (a = b)) := by
  refine Ev.congr (fun _ => laws_eqDisk.f.eq_1 ..) (Ev.bind (a := decide (a = b)) (Ev.congr (fun _ => laws_eqFileS.f.eq_1 ..) (Ev.ite (fun h => ?_) (fun h => ?_))) (Ev.ite (fun h => Ev.some h.symm) (fun h => Ev.some (Bool.eq_false_iff.2 h).symm)))
  · exact eqFileS_l0 a b (by omega) hn a.length 0 (by omega)
  · rw [decide_eq_false (fun e => h (by rw [e]))]; exact Ev.now _
theorem eqDisk_self (a : List S45) (hn : a.length ≤ 140737488355328) : Ev (fun k => laws_eqDisk.f k a a) true := by
  have h := eqDisk_ev a a hn
  rwa [decide_eq_true rfl] at h
theorem szFile_ok (x : S94) (n : Int) (h0 : x.f0.size ≤ maxLen) (h1 : x.f1.size ≤ maxLen) (hn : 0 ≤ n ∧ n ≤ 1048576) :
    ∃ r, laws_szFile.f x.f0 x.f1 x.f2 n = some r ∧ r ≤ n ∧ -1 ≤ r ∧ (0 ≤ r → x.f0.size ≤ 1048576 ∧ x.f1.size ≤ 1048576) := by
  unfold laws_szFile.f maxLen at *
  rw [w64 (n := n - (x.f0.size : Int)) (by omega) (by omega)]
  by_cases c : n - (x.f0.size : Int) < 0
  · rw [if_pos c]; exact ⟨_, rfl, by omega, by omega, by omega⟩
  · rw [if_neg c, w64 (n := n - (x.f0.size : Int) - (x.f1.size : Int)) (by omega) (by omega)]
    by_cases c2 : n - (x.f0.size : Int) - (x.f1.size : Int) < 0
    · rw [if_pos c2]; exact ⟨_, rfl, by omega, by omega, by omega⟩
    · rw [if_neg c2]; exact ⟨_, rfl, by omega, by omega, by omega⟩
theorem szFileS_l0 (a : List S94) (hs : ∀ x ∈ a, x.f0.size ≤ maxLen ∧ x.f1.size ≤ maxLen) (hl : a.length ≤ maxLen) (d : Nat) :
    ∀ (i : Nat) (n : Int), i + d = a.length → 0 ≤ n → n ≤ 1048576 → ∃ r, Ev (fun k => laws_szFileS.l0 k a n (i : Int)) r ∧ r ≤ n ∧ (0 ≤ r → ∀ x ∈ a.drop i, x.f0.size ≤ 1048576 ∧ x.f1.size ≤ 1048576) := by
  induction d with
  | zero =>
    intro i n hi h0 h1
    refine ⟨n, Ev.step (fun _ => laws_szFileS.l0.eq_2 ..) (Ev.neg (by omega) (Ev.now _)), by omega, fun _ x hx => ?_⟩
    rw [List.drop_eq_nil_of_le (by omega)] at hx; simp at hx
  | succ d ih =>
    intro i n hi h0 h1
    have hx := hs _ (List.getElem_mem (by omega : i < a.length))
    obtain ⟨r1, e1, q1, q2, q3⟩ := szFile_ok a[i] n hx.1 hx.2 ⟨h0, h1⟩
    rw [← rdG_nat a i (by omega)] at e1
    by_cases c : r1 < 0
    · exact ⟨-1, Ev.step (fun _ => laws_szFileS.l0.eq_2 ..) (Ev.pos (by omega) (Ev.pos (by omega) (Ev.call e1 (Ev.pos c (Ev.now _))))), by omega, by omega⟩
    · obtain ⟨r, er, p1, p2⟩ := ih (i + 1) r1 (by omega) (by omega) (by omega)
      refine ⟨r, Ev.step (fun _ => laws_szFileS.l0.eq_2 ..) (Ev.pos (by omega) (Ev.pos (by omega) (Ev.call e1 (Ev.neg c ?_)))), by omega, fun hr x hx => ?_⟩
      · rw [w64_succ i (by unfold maxLen at hl; omega)]; exact er
      · rw [List.drop_eq_getElem_cons (i := i) (by omega)] at hx
        rcases List.mem_cons.1 hx with rfl | hx
        · exact q3 (by omega)
        · exact p2 hr x hx
theorem szDisk_ok (a : List S94) (hs : ∀ x ∈ a, x.f0.size ≤ maxLen ∧ x.f1.size ≤ maxLen) (hl : a.length ≤ maxLen) (n : Int) (hn : 0 ≤ n ∧ n ≤ 1048576) :
    ∃ r, Ev (fun k => laws_szDisk.f k a n) r ∧ r ≤ n ∧ (0 ≤ r → a.length ≤ 1048576 ∧ ∀ x ∈ a, x.f0.size ≤ 1048576 ∧ x.f1.size ≤ 1048576) := by
  have hm : maxLen = 9223372036854775807 := rfl
  have hw : wrap64 (n - (a.length : Int)) = n - (a.length : Int) := w64 (by omega) (by omega)
  by_cases c : n - (a.length : Int) < 0
  · refine ⟨-1, Ev.congr (fun _ => laws_szDisk.f.eq_1 ..) (Ev.bind (a := -1) (Ev.congr (fun _ => laws_szFileS.f.eq_1 ..) ?_) (Ev.pos (by omega) (Ev.now _))), by omega, by omega⟩
    rw [hw]; exact Ev.pos c (Ev.now _)
  · obtain ⟨r, er, q1, q2⟩ := szFileS_l0 a hs hl a.length 0 (n - (a.length : Int)) (by omega) (by omega) (by omega)
    have e : Ev (fun k => laws_szFileS.f k a n) r := by
      refine Ev.congr (fun _ => laws_szFileS.f.eq_1 ..) ?_
      rw [hw]; exact Ev.neg c er
    by_cases c2 : r < 0
    · exact ⟨-1, Ev.congr (fun _ => laws_szDisk.f.eq_1 ..) (Ev.bind e (Ev.pos c2 (Ev.now _))), by omega, by omega⟩
    · exact ⟨r, Ev.congr (fun _ => laws_szDisk.f.eq_1 ..) (Ev.bind e (Ev.neg c2 (Ev.now _))), by omega, fun h => ⟨by omega, by simpa using q2 h⟩⟩
theorem ix_spec (s : ByteArray) (l : List S45) : ∀ i : Int, (impl_placeOf.ix s l i = -1 ∧ ∀ x ∈ l, x.f0 ≠ s) ∨ ∃ j : Nat, ∃ h : j < l.length, impl_placeOf.ix s l i = i + (j : Int) ∧ (l[j]).f0 = s := by
  induction l with
  | nil => intro i; exact .inl ⟨rfl, by simp⟩
  | cons x r ih =>
    intro i
    by_cases h : x.f0 = s
    · refine .inr ⟨0, by simp, ?_, h⟩
      rw [impl_placeOf.ix, if_pos (by rw [h]; simp)]; simp
    · have e : impl_placeOf.ix s (x :: r) i = impl_placeOf.ix s r (i + 1) := by
        rw [impl_placeOf.ix, if_neg (fun z => h (toList_eq.1 (by simpa using z)))]
      rcases ih (i + 1) with ⟨h1, h2⟩ | ⟨j, hj, h1, h2⟩
      · refine .inl ⟨by rw [e, h1], fun y hy => ?_⟩
        rcases List.mem_cons.1 hy with rfl | hy
        · exact h
        · exact h2 y hy
      · exact .inr ⟨j + 1, by simpa using hj, by rw [e, h1]; omega, by simpa using h2⟩
theorem specAt_l0 (fs : List S45) (s : ByteArray) (hn : fs.length ≤ 140737488355328) (d : Nat) :
    ∀ i : Nat, i + d = fs.length → Ev (fun k => spec_l03At.l0 k s (i : Int) fs) (impl_placeOf.ix s (fs.drop i) (i : Int)) := by
  induction d with
  | zero =>
    intro i hi
    refine Ev.step (fun _ => spec_l03At.l0.eq_2 ..) (Ev.neg (by omega) (Ev.some ?_))
    rw [List.drop_eq_nil_of_le (by omega), impl_placeOf.ix]
  | succ d ih =>
    intro i hi
    rw [impl_placeOf.drop_rd fs i (by omega), impl_placeOf.ix]
    refine Ev.step (fun _ => spec_l03At.l0.eq_2 ..) (Ev.pos (by omega) (Ev.pos (by omega) (Ev.ite (fun h => ?_) (fun h => ?_))))
    · exact Ev.some (by rw [if_pos (by rw [h]; simp)])
    · rw [if_neg (fun z => h (by simpa using z)), w64_succ i (by omega)]
      exact ih (i + 1) (by omega)
theorem specAt_ev (fs : List S45) (s : ByteArray) (hn : fs.length ≤ 140737488355328) : Ev (fun k => spec_l03At.f k fs s) (impl_placeOf.ix s fs 0) :=
  Ev.congr (fun _ => spec_l03At.f.eq_1 ..) (specAt_l0 fs s hn fs.length 0 (by omega))
def fileAtB (fs : List S45) (s : ByteArray) : ByteArray × Bool := if impl_placeOf.ix s fs 0 < 0 then (⟨#[]⟩, false) else ((rd_T45 fs (impl_placeOf.ix s fs 0)).f1, true)
theorem ix_lt (fs : List S45) (s : ByteArray) : impl_placeOf.ix s fs 0 < (fs.length : Int) := by
  rcases ix_spec s fs 0 with ⟨h, _⟩ | ⟨j, hj, h, _⟩ <;> omega
theorem specFileAt_ev (fs : List S45) (s : ByteArray) (hn : fs.length ≤ 140737488355328) : Ev (fun k => spec_FileAt.f k fs s) (fileAtB fs s) := by
  have := ix_lt fs s
  unfold fileAtB
  refine Ev.congr (fun _ => spec_FileAt.f.eq_1 ..) (Ev.bind (specAt_ev fs s hn) (Ev.ite (fun h => ?_) (fun h => ?_)))
  · exact Ev.some (by rw [if_pos h])
  · exact Ev.pos (by omega) (Ev.pos this (Ev.some (by rw [if_neg h])))
theorem implFileAt_eq (fs : List S45) (s : ByteArray) : impl_FileAt.f fs s = some (fileAtB fs s) := by
  have := ix_lt fs s
  unfold impl_FileAt.f impl_placeOf.f fileAtB
  rw [Option.bind_some]
  by_cases h : impl_placeOf.ix s fs 0 < 0
  · rw [if_pos h, if_pos h]
  · rw [if_neg h, if_neg h, if_pos (by omega), if_pos this]
theorem FnExactFileAt : laws_FnExactFileAt.Pure := by
  intro a s ⟨hs, hl⟩ _
  apply Ev.rounds
  obtain ⟨r, er, _, hr⟩ := szDisk_ok a (fun x hx => ⟨(hs x hx).1, (hs x hx).2.1⟩) hl 1048576 (by omega)
  refine Ev.congr (fun _ => laws_FnExactFileAt.f.eq_1 ..) (Ev.ite (fun _ => Ev.now _) (fun _ => Ev.bind er (Ev.ite (fun _ => Ev.now _) (fun h => ?_))))
  have hn := (hr (by omega)).1
  have ht := toDisk_ev a hn
  have hm : (a.map toF).length ≤ 140737488355328 := by simp; omega
  refine Ev.bind ht (Ev.bind (specFileAt_ev _ s hm) (Ev.bind ht (Ev.call (implFileAt_eq _ s) (Ev.pos rfl ?_))))
  refine Ev.step (fun _ => laws_FnExactFileAt.j0.eq_2 ..) (Ev.neg (by simp) (Ev.bind ht (Ev.bind (eqDisk_self _ hm) (Ev.pos rfl (Ev.now _)))))

end Go.Proofs.Ythfppepnpngfmaa.Pure
