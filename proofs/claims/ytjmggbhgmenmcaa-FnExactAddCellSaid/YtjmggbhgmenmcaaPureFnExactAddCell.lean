/- FnExactAddCell returns true for all arguments: the program's AddCell answers what the reference's answers, in new memory, and leaves the list as it is. No conditions beyond the statement's own. -/
import Derived.Test.YtjmggbhgmenmcaaQcellsx10
import Derived.Test.YtjmggbhgmenmcaaBase
namespace Go.Proofs.Ytjmggbhgmenmcaa.Pure
open Go.RowKit Go.Proofs.Ytjmggbhgmenmcaa.Qcells Go.Proofs.YtjmggbhgmenmcaaW.PrintWords Go.Proofs.YtjmggbhgmenmcaaW.PrintLast Go.Proofs.YtjmggbhgmenmcaaW.PrintMore Go.Proofs.Ytjmggbhgmenmcaa.Base

theorem eqIntS_l0 (a b : List Int) (hlen : a.length = b.length) (hn : a.length ≤ 140737488355328) (d : Nat) :
    ∀ i : Nat, i + d = a.length → Ev (fun k => laws_eqIntS.l0 k a b (i : Int)) (decide (a.drop i = b.drop i)) := by
  induction d with
  | zero =>
    intro i hi
    refine Ev.step (fun _ => laws_eqIntS.l0.eq_2 ..) ?_
    refine Ev.neg (by omega) (Ev.some ?_)
    rw [List.drop_eq_nil_of_le (by omega), List.drop_eq_nil_of_le (by omega)]; rfl
  | succ d ih =>
    intro i hi
    refine Ev.step (fun _ => laws_eqIntS.l0.eq_2 ..) ?_
    refine Ev.pos (by omega) (Ev.pos (by omega) (Ev.pos (by omega) ?_))
    rw [rd_nat a i (by omega), rd_nat b i (by omega), w64_succ i (by omega), drop_eq_iff a b i (by omega) (by omega)]
    refine Ev.ite (fun h => ?_) (fun h => ?_)
    · rw [decide_eq_true h, Bool.true_and]; exact ih (i + 1) (by omega)
    · rw [decide_eq_false h]; exact Ev.now _
theorem eqIntS_ev (a b : List Int) (hn : a.length ≤ 140737488355328) : Ev (fun k => laws_eqIntS.f k a b) (decide (a = b)) := by
  refine Ev.congr (fun _ => laws_eqIntS.f.eq_1 ..) (Ev.ite (fun h => ?_) (fun h => ?_))
  · exact eqIntS_l0 a b (by omega) hn a.length 0 (by omega)
  · rw [decide_eq_false (fun e => h (by rw [e]))]; exact Ev.now _
theorem eqIntS_self (a : List Int) (hn : a.length ≤ 140737488355328) : Ev (fun k => laws_eqIntS.f k a a) true := by
  have h := eqIntS_ev a a hn
  rwa [decide_eq_true rfl] at h
theorem toIntS_l0 (a : List Int) (hn : a.length ≤ 140737488355328) (d : Nat) :
    ∀ i : Nat, i + d = a.length → Ev (fun k => laws_toIntS.l0 k a (a.take i ++ List.replicate (a.length - i) 0) (i : Int)) a := by
  induction d with
  | zero =>
    intro i hi
    refine Ev.step (fun _ => laws_toIntS.l0.eq_2 ..) ?_
    refine Ev.neg (by omega) (Ev.some ?_)
    rw [show a.length - i = 0 from by omega, List.take_of_length_le (by omega)]; simp
  | succ d ih =>
    intro i hi
    refine Ev.step (fun _ => laws_toIntS.l0.eq_2 ..) ?_
    refine Ev.pos (by omega) (Ev.pos (by omega) (Ev.pos (by simp; omega) ?_))
    rw [rd_nat a i (by omega), w64_succ i (by omega), Int.toNat_natCast, take_set_replicate a 0 i (by omega)]
    exact ih (i + 1) (by omega)
theorem toIntS_ev (a : List Int) (hn : a.length ≤ 35184372088832) : Ev (fun k => laws_toIntS.f k a) a := by
  refine Ev.congr (fun _ => laws_toIntS.f.eq_1 ..) (Ev.pos (by omega) (Ev.pos (by omega) ?_))
  have h := toIntS_l0 a (by omega) a.length 0 (by omega)
  simpa using h
theorem markIntS_l0 (a : List Int) (m : Int) (h0 : 0 ≤ m) (hm : m + a.length ≤ 9223372036854775807) (d : Nat) :
    ∀ i : Nat, i + d = a.length → Ev (fun k => laws_markIntS.l0 k (marks m i ++ a.drop i) (m + (i : Int)) (i : Int)) (m + (a.length : Int), marks m a.length) := by
  induction d with
  | zero =>
    intro i hi
    refine Ev.step (fun _ => laws_markIntS.l0.eq_2 ..) ?_
    refine Ev.neg (by simp [marks_length]; omega) (Ev.some ?_)
    obtain rfl : i = a.length := by omega
    simp
  | succ d ih =>
    intro i hi
    refine Ev.step (fun _ => laws_markIntS.l0.eq_2 ..) ?_
    refine Ev.pos (by simp [marks_length]; omega) (Ev.pos (by omega) ?_)
    rw [w64_succ i (by omega), Int.toNat_natCast, marks_set m a i (by omega), w64 (by omega) (by omega), Int.add_assoc, show ((i : Int) + 1) = ((i + 1 : Nat) : Int) from by omega]
    exact ih (i + 1) (by omega)
theorem markIntS_ev (a : List Int) (m : Int) (h0 : 0 ≤ m) (hm : m + a.length ≤ 9223372036854775807) : Ev (fun k => laws_markIntS.f k a m) (m + (a.length : Int), marks m a.length) := by
  have h := markIntS_l0 a m h0 hm a.length 0 (by omega)
  refine Ev.congr (fun _ => laws_markIntS.f.eq_1 ..) ?_
  simpa [marks] using h
theorem heldIntS_l0 (n : Nat) (m : Int) (h0 : 0 ≤ m) (hm : m + n ≤ 9223372036854775807) (d : Nat) :
    ∀ i : Nat, i + d = n → Ev (fun k => laws_heldIntS.l0 k (marks m n) (m + (i : Int)) (i : Int)) (m + (n : Int)) := by
  induction d with
  | zero =>
    intro i hi
    refine Ev.step (fun _ => laws_heldIntS.l0.eq_2 ..) ?_
    refine Ev.neg (by rw [marks_length]; omega) (Ev.some ?_)
    omega
  | succ d ih =>
    intro i hi
    refine Ev.step (fun _ => laws_heldIntS.l0.eq_2 ..) ?_
    refine Ev.pos (by rw [marks_length]; omega) (Ev.pos (by omega) ?_)
    rw [rd_nat _ i (by rw [marks_length]; omega), marks_get]
    refine Ev.pos rfl ?_
    rw [w64_succ i (by omega), w64 (by omega) (by omega), Int.add_assoc, show ((i : Int) + 1) = ((i + 1 : Nat) : Int) from by omega]
    exact ih (i + 1) (by omega)
theorem heldIntS_ev (n : Nat) (m : Int) (h0 : 0 ≤ m) (hm : m + n ≤ 9223372036854775807) : Ev (fun k => laws_heldIntS.f k (marks m n) m) (m + (n : Int)) := by
  have h := heldIntS_l0 n m h0 hm n 0 (by omega)
  refine Ev.congr (fun _ => laws_heldIntS.f.eq_1 ..) ?_
  simpa using h
theorem mark_held (l : List Int) (hn : l.length ≤ 140737488355328) : Ev (fun k => laws_markIntS.f k l 1) (1 + (l.length : Int), marks 1 l.length) ∧ Ev (fun k => laws_heldIntS.f k (marks 1 l.length) 1) (1 + (l.length : Int)) :=
  ⟨markIntS_ev l 1 (by omega) (by omega), heldIntS_ev l.length 1 (by omega) (by omega)⟩
theorem l01In_eq (n lo hi : Int) : spec_l01In.f n lo hi = some (decide (lo ≤ n ∧ n ≤ hi)) := by
  unfold spec_l01In.f
  by_cases h : n ≥ lo
  · rw [if_pos h]; congr 1; rw [decide_eq_decide]; exact ⟨fun h2 => ⟨h, h2⟩, fun h2 => h2.2⟩
  · rw [if_neg h]; congr 1; symm; rw [decide_eq_false_iff_not]; exact fun h2 => h h2.1
theorem within_eq (n lo hi : Int) : impl_within.f n lo hi = some (decide (lo ≤ n ∧ n ≤ hi)) := by
  unfold impl_within.f
  by_cases h : n ≥ lo
  · rw [if_pos h]; congr 1; rw [decide_eq_decide]; exact ⟨fun h2 => ⟨h, h2⟩, fun h2 => h2.2⟩
  · rw [if_neg h]; congr 1; symm; rw [decide_eq_false_iff_not]; exact fun h2 => h h2.1
theorem implIsPlace_eq (l : List Int) (i : Int) (hn : l.length ≤ 140737488355328) : impl_isPlace.f l i = some (decide (0 ≤ i ∧ i < l.length)) := by
  unfold impl_isPlace.f
  rw [within_eq, Option.bind_some, w64 (by omega) (by omega)]
  congr 1
  rw [decide_eq_decide]; omega
theorem implIsNumber_eq (n : Int) : impl_isNumber.f n = some (decide (0 ≤ n ∧ n ≤ 1000000000)) := by
  unfold impl_isNumber.f; rw [within_eq, Option.bind_some]
theorem implCopyInts_eq (l : List Int) (hn : l.length < 17592186044416) : impl_copyInts.f l = some l := by
  unfold impl_copyInts.f
  rw [Option.bind_some, if_pos (by simpa using hn)]; rfl
def storeM (l : List Int) (i n : Int) : List Int × Bool := if (0 ≤ i ∧ i < (l.length : Int)) ∧ (0 ≤ n ∧ n ≤ 1000000000) then (l.set i.toNat n, true) else (l, false)
theorem implStoreCell_eq (l : List Int) (i n : Int) (hn : l.length < 17592186044416) : impl_StoreCell.f l i n = some (storeM l i n) := by
  unfold impl_StoreCell.f storeM
  rw [implCopyInts_eq l hn, Option.bind_some, implIsPlace_eq l i (by omega), Option.bind_some]
  by_cases h : 0 ≤ i ∧ i < (l.length : Int)
  · rw [decide_eq_true h, if_pos rfl, implIsNumber_eq, Option.bind_some]
    by_cases h2 : 0 ≤ n ∧ n ≤ 1000000000
    · rw [decide_eq_true h2, if_pos rfl, if_pos h.1, if_pos h.2, if_pos ⟨h, h2⟩]
    · rw [decide_eq_false h2, if_neg (by simp), if_neg (fun z => h2 z.2)]
  · rw [decide_eq_false h, if_neg (by simp), if_neg (fun z => h z.1)]
theorem specStoreCell_eq (l : List Int) (i n : Int) (hn : l.length < 17592186044416) : spec_StoreCell.f l i n = some (storeM l i n) := by
  unfold spec_StoreCell.f storeM
  rw [Option.bind_some, if_pos (by simpa using hn), Option.bind_some, l01In_eq, Option.bind_some, w64 (by omega) (by omega), List.nil_append]
  by_cases h : 0 ≤ i ∧ i < (l.length : Int)
  · rw [decide_eq_true (by omega), if_pos rfl, l01In_eq, Option.bind_some]
    by_cases h2 : 0 ≤ n ∧ n ≤ 1000000000
    · rw [decide_eq_true h2, if_pos rfl, if_pos h.1, if_pos h.2, if_pos ⟨h, h2⟩]
    · rw [decide_eq_false h2, if_neg (by simp), if_neg (fun z => h2 z.2)]
  · rw [decide_eq_false (by omega), if_neg (by simp), if_neg (fun z => h z.1)]
theorem storeM_length (l : List Int) (i n : Int) : (storeM l i n).1.length = l.length := by
  unfold storeM; split <;> simp
theorem tmod_range (a : Int) : -1000000000 ≤ Int.tmod a 1000000001 ∧ Int.tmod a 1000000001 ≤ 1000000000 := by
  have h1 := Int.tmod_lt_of_pos a (b := 1000000001) (by omega)
  have h2 := Int.tmod_lt_of_pos (-a) (b := 1000000001) (by omega)
  rw [Int.neg_tmod] at h2
  omega
theorem tmod_emod (a : Int) : ∃ q : Int, Int.tmod a 1000000001 = a % 1000000001 + 1000000001 * q := by
  refine ⟨a / 1000000001 - Int.tdiv a 1000000001, ?_⟩
  have h1 := Int.mul_tdiv_add_tmod a 1000000001
  have h2 := Int.mul_ediv_add_emod a 1000000001
  omega
theorem implModulo_eq (a : Int) : impl_modulo.f a 1000000001 = some (a % 1000000001) := by
  unfold impl_modulo.f
  rw [if_neg (by omega)]
  have h := tmod_range a
  obtain ⟨q, hq⟩ := tmod_emod a
  rw [w64 (by omega) (by omega)]
  congr 1
  rw [Int.tmod_eq_emod_of_nonneg (by omega)]
  omega
def addM (l : List Int) (i n : Int) : List Int × Int := if 0 ≤ i ∧ i < (l.length : Int) then (l.set i.toNat ((rd l i + n) % 1000000001), rd l i) else (l, 0)
theorem addM_length (l : List Int) (i n : Int) : (addM l i n).1.length = l.length := by
  unfold addM; split <;> simp
theorem implAddCell_eq (l : List Int) (i n : Int) (hn : l.length < 17592186044416) : impl_AddCell.f l i n = some (addM l i n) := by
  unfold impl_AddCell.f addM
  rw [implCopyInts_eq l hn, Option.bind_some, implIsPlace_eq l i (by omega), Option.bind_some]
  by_cases h : 0 ≤ i ∧ i < (l.length : Int)
  · rw [decide_eq_true h, if_pos rfl, if_pos h.1, if_pos h.2, implModulo_eq, Option.bind_some, implModulo_eq, Option.bind_some, if_pos h.2, if_pos h]
    rw [w64 (by omega) (by omega), Int.tmod_eq_emod_of_nonneg (by omega), ← Int.add_emod]
  · rw [decide_eq_false h, if_neg (by simp), if_neg h]
theorem specAddCell_eq (l : List Int) (i n : Int) (hn : l.length < 17592186044416) : spec_AddCell.f l i n = some (addM l i n) := by
  unfold spec_AddCell.f addM
  rw [Option.bind_some, if_pos (by simpa using hn), Option.bind_some, l01In_eq, Option.bind_some, w64 (by omega) (by omega), List.nil_append]
  by_cases h : 0 ≤ i ∧ i < (l.length : Int)
  · rw [decide_eq_true (by omega), if_pos rfl, if_pos h.1, if_pos h.2, if_pos h.2, if_pos h]
    have h1 := tmod_range (rd l i)
    have h2 := tmod_range n
    obtain ⟨q1, e1⟩ := tmod_emod (rd l i)
    obtain ⟨q2, e2⟩ := tmod_emod n
    rw [w64 (by omega) (by omega)]
    have h3 := tmod_range (Int.tmod (rd l i) 1000000001 + Int.tmod n 1000000001)
    obtain ⟨q3, e3⟩ := tmod_emod (Int.tmod (rd l i) 1000000001 + Int.tmod n 1000000001)
    by_cases h4 : Int.tmod (Int.tmod (rd l i) 1000000001 + Int.tmod n 1000000001) 1000000001 < 0
    · rw [if_pos h4, w64 (by omega) (by omega)]
      congr 3
      omega
    · rw [if_neg h4, if_pos h.2]
      congr 3
      omega
  · rw [decide_eq_false (by omega), if_neg (by simp), if_neg h]
theorem FnExactAddCell : laws_FnExactAddCell.Pure := by
  intro l i n _ _ _ _ _
  apply Ev.rounds
  refine Ev.congr (fun _ => laws_FnExactAddCell.f.eq_1 ..) (Ev.ite (fun _ => Ev.now _) (fun h => ?_))
  have ht := toIntS_ev l (by omega)
  have hi := implAddCell_eq l i n (by omega)
  have hl := addM_length l i n
  have he := eqIntS_self (addM l i n).1 (by omega)
  obtain ⟨hm, hh⟩ := mark_held (addM l i n).1 (by omega)
  refine Ev.bind ht (Ev.call (specAddCell_eq l i n (by omega)) (Ev.bind ht (Ev.call hi (Ev.bind he (Ev.pos rfl ?_)))))
  try rw [bne_self_eq_false]
  refine Ev.step (fun _ => laws_FnExactAddCell.j0.eq_2 ..) (Ev.neg (by simp) (Ev.bind ht (Ev.bind (eqIntS_self l (by omega)) (Ev.pos rfl (Ev.bind (mark_held l (by omega)).1 (Ev.neg (by show ¬ 1 + (l.length : Int) < 0; omega) (Ev.bind he (Ev.pos rfl ?_))))))))
  try rw [bne_self_eq_false]
  refine Ev.step (fun _ => laws_FnExactAddCell.j1.eq_2 ..) (Ev.neg (by simp) (Ev.bind hm (Ev.bind hh (Ev.neg (by omega) (Ev.pos rfl (Ev.bind ht (Ev.call hi (Ev.bind he (Ev.pos rfl ?_)))))))))
  try rw [bne_self_eq_false]
  exact Ev.step (fun _ => laws_FnExactAddCell.j2.eq_2 ..) (Ev.neg (by simp) (Ev.bind hh (Ev.neg (by omega) (Ev.pos rfl (Ev.now _)))))

end Go.Proofs.Ytjmggbhgmenmcaa.Pure
