/- FnExactPartsOf returns true for all arguments: the program's PartsOf answers what the reference's answers, in new memory. No conditions beyond the statement's own. -/
import Derived.Test.YtmmpjeadjfamfaaDoorQpax2
import Derived.Test.YtmmpjeadjfamfaaDoorBase
namespace Go.Proofs.YtmmpjeadjfamfaaDoor.Pure
open Go.RowKit Go.Proofs.YtmmpjeadjfamfaaDoor.Qpa Go.Proofs.YtmmpjeadjfamfaaDoorW.PrintWords Go.Proofs.YtmmpjeadjfamfaaDoorW.PrintLast Go.Proofs.YtmmpjeadjfamfaaDoorW.PrintMore Go.Proofs.YtmmpjeadjfamfaaDoor.Base

theorem eqStringS_l0 (a b : List ByteArray) (hlen : a.length = b.length) (hn : a.length ≤ 140737488355328) (d : Nat) :
    ∀ i : Nat, i + d = a.length → Ev (fun k => laws_eqStringS.l0 k a b (i : Int)) (decide (a.drop i = b.drop i)) := by
  induction d with
  | zero =>
    intro i hi
    refine Ev.step (fun _ => laws_eqStringS.l0.eq_2 ..) ?_
    refine Ev.neg (by omega) (Ev.some ?_)
    rw [List.drop_eq_nil_of_le (by omega), List.drop_eq_nil_of_le (by omega)]; simp
  | succ d ih =>
    intro i hi
    refine Ev.step (fun _ => laws_eqStringS.l0.eq_2 ..) ?_
    refine Ev.pos (by omega) (Ev.pos (by omega) (Ev.pos (by omega) ?_))
    rw [rdOf_nat _ a i (by omega), rdOf_nat _ b i (by omega), w64_succ i (by omega), drop_eq_iff a b i (by omega) (by omega)]
    refine Ev.ite (fun h => ?_) (fun h => ?_)
    · rw [decide_eq_true (toList_eq.1 h), Bool.true_and]; exact ih (i + 1) (by omega)
    · rw [decide_eq_false (fun e => h (toList_eq.2 e))]; exact Ev.now _
theorem eqStringS_ev (a b : List ByteArray) (hn : a.length ≤ 140737488355328) : Ev (fun k => laws_eqStringS.f k a b) (decide (a = b)) := by
  refine Ev.congr (fun _ => laws_eqStringS.f.eq_1 ..) (Ev.ite (fun h => ?_) (fun h => ?_))
  · exact eqStringS_l0 a b (by omega) hn a.length 0 (by omega)
  · rw [decide_eq_false (fun e => h (by rw [e]))]; exact Ev.now _
theorem eqStringS_self (a : List ByteArray) (hn : a.length ≤ 140737488355328) : Ev (fun k => laws_eqStringS.f k a a) true := by
  have h := eqStringS_ev a a hn
  rwa [decide_eq_true rfl] at h
theorem markText_l0 (n : Nat) : ∀ acc : ByteArray, acc.size + n + 1 ≤ 9223372036854775807 → ∃ v, Ev (fun k => laws_markText.l0 k (n : Int) acc) v := by
  induction n using Nat.strongRecOn with
  | _ n ih =>
    intro acc ha
    by_cases h : 0 < n
    · have e : wrap64 (Int.tdiv (n : Int) 10) = ((n / 10 : Nat) : Int) := by
        rw [show Int.tdiv (n : Int) 10 = ((n / 10 : Nat) : Int) from Int.ofNat_tdiv n 10 ▸ rfl]
        exact w64 (by omega) (by omega)
      have hz : (strOfNums [(wrap64 (48 + (Int.tmod (n : Int) 10))) % 256]).size = 1 := strOfNums_size _
      obtain ⟨v, hv⟩ := ih (n / 10) (by omega) (strOfNums [(wrap64 (48 + (Int.tmod (n : Int) 10))) % 256] ++ acc) (by rw [ByteArray.size_append, hz]; omega)
      refine ⟨v, Ev.step (fun _ => laws_markText.l0.eq_2 ..) (Ev.pos (by omega) (Ev.call rfl (Ev.pos (by rw [hz]; omega) ?_)))⟩
      rw [e]; exact hv
    · exact ⟨_, Ev.step (fun _ => laws_markText.l0.eq_2 ..) (Ev.neg (by omega) (Ev.pos (by omega) (Ev.now _)))⟩
theorem markText_ex (m : Int) : ∃ v, m ≤ 4611686018427387904 → Ev (fun k => laws_markText.f k m) v := by
  by_cases h : m ≤ 0
  · exact ⟨_, fun _ => Ev.congr (fun _ => laws_markText.f.eq_1 ..) (Ev.pos h (Ev.now _))⟩
  · by_cases h2 : m ≤ 4611686018427387904
    · obtain ⟨n, rfl⟩ := Int.eq_ofNat_of_zero_le (by omega : 0 ≤ m)
      obtain ⟨v, hv⟩ := markText_l0 n (⟨#[]⟩ : ByteArray) (by show 0 + n + 1 ≤ _; omega)
      exact ⟨v, fun _ => Ev.congr (fun _ => laws_markText.f.eq_1 ..) (Ev.neg h hv)⟩
    · exact ⟨(⟨#[]⟩ : ByteArray), fun h3 => absurd h3 h2⟩
/-- The mark of a number. -/
noncomputable def mtM (m : Int) : ByteArray := Classical.choose (markText_ex m)
theorem markText_ev (m : Int) (h : m ≤ 4611686018427387904) : Ev (fun k => laws_markText.f k m) (mtM m) := Classical.choose_spec (markText_ex m) h
noncomputable def marksT (a : Int) (n : Nat) : List ByteArray := (List.range n).map (fun j : Nat => mtM (a + (j : Int)))
theorem marksT_length (a : Int) (n : Nat) : (marksT a n).length = n := by simp [marksT]
theorem marksT_get (a : Int) (n j : Nat) (h : j < (marksT a n).length) : (marksT a n)[j] = mtM (a + (j : Int)) := by simp [marksT]
theorem marksT_set (a : Int) (l : List ByteArray) (i : Nat) (h : i < l.length) :
    (marksT a i ++ l.drop i).set i (mtM (a + (i : Int))) = marksT a (i + 1) ++ l.drop (i + 1) := by
  rw [List.set_append_right _ _ (by rw [marksT_length]; omega), marksT_length, Nat.sub_self, List.drop_eq_getElem_cons h, List.set_cons_zero]
  unfold marksT
  rw [List.range_succ]
  simp
theorem markStringS_l0 (a : List ByteArray) (m : Int) (h0 : 0 ≤ m) (hm : m + a.length ≤ 4611686018427387904) (d : Nat) :
    ∀ i : Nat, i + d = a.length → Ev (fun k => laws_markStringS.l0 k (marksT m i ++ a.drop i) (m + (i : Int)) (i : Int)) (m + (a.length : Int), marksT m a.length) := by
  induction d with
  | zero =>
    intro i hi
    refine Ev.step (fun _ => laws_markStringS.l0.eq_2 ..) ?_
    refine Ev.neg (by simp [marksT_length]; omega) (Ev.some ?_)
    obtain rfl : i = a.length := by omega
    simp
  | succ d ih =>
    intro i hi
    refine Ev.step (fun _ => laws_markStringS.l0.eq_2 ..) ?_
    refine Ev.pos (by simp [marksT_length]; omega) (Ev.bind (markText_ev _ (by omega)) (Ev.pos (by omega) ?_))
    rw [w64_succ i (by omega), Int.toNat_natCast, marksT_set m a i (by omega), w64 (by omega) (by omega), Int.add_assoc, show ((i : Int) + 1) = ((i + 1 : Nat) : Int) from by omega]
    exact ih (i + 1) (by omega)
theorem markStringS_ev (a : List ByteArray) (m : Int) (h0 : 0 ≤ m) (hm : m + a.length ≤ 4611686018427387904) : Ev (fun k => laws_markStringS.f k a m) (m + (a.length : Int), marksT m a.length) := by
  have h := markStringS_l0 a m h0 hm a.length 0 (by omega)
  refine Ev.congr (fun _ => laws_markStringS.f.eq_1 ..) ?_
  simpa [marksT] using h
theorem heldStringS_l0 (n : Nat) (m : Int) (h0 : 0 ≤ m) (hm : m + n ≤ 4611686018427387904) (d : Nat) :
    ∀ i : Nat, i + d = n → Ev (fun k => laws_heldStringS.l0 k (marksT m n) (m + (i : Int)) (i : Int)) (m + (n : Int)) := by
  induction d with
  | zero =>
    intro i hi
    refine Ev.step (fun _ => laws_heldStringS.l0.eq_2 ..) ?_
    refine Ev.neg (by rw [marksT_length]; omega) (Ev.some ?_)
    omega
  | succ d ih =>
    intro i hi
    refine Ev.step (fun _ => laws_heldStringS.l0.eq_2 ..) ?_
    refine Ev.pos (by rw [marksT_length]; omega) (Ev.pos (by omega) (Ev.bind (markText_ev _ (by omega)) ?_))
    rw [rdOf_nat _ _ i (by rw [marksT_length]; omega), marksT_get]
    refine Ev.pos rfl ?_
    rw [w64_succ i (by omega), w64 (by omega) (by omega), Int.add_assoc, show ((i : Int) + 1) = ((i + 1 : Nat) : Int) from by omega]
    exact ih (i + 1) (by omega)
theorem heldStringS_ev (n : Nat) (m : Int) (h0 : 0 ≤ m) (hm : m + n ≤ 4611686018427387904) : Ev (fun k => laws_heldStringS.f k (marksT m n) m) (m + (n : Int)) := by
  have h := heldStringS_l0 n m h0 hm n 0 (by omega)
  refine Ev.congr (fun _ => laws_heldStringS.f.eq_1 ..) ?_
  simpa using h
theorem within_eq (n lo hi : Int) : impl_within.f n lo hi = some (decide (lo ≤ n ∧ n ≤ hi)) := by
  unfold impl_within.f
  by_cases h : n ≥ lo
  · rw [if_pos h]; congr 1; rw [decide_eq_decide]; exact ⟨fun h2 => ⟨h, h2⟩, fun h2 => h2.2⟩
  · rw [if_neg h]; congr 1; symm; rw [decide_eq_false_iff_not]; exact fun h2 => h h2.1
def mkB (l : List UInt8) : ByteArray := ⟨l.toArray⟩
theorem mkB_data (b : ByteArray) : mkB b.data.toList = b := by cases b; simp [mkB]
theorem mkB_inj {a b : List UInt8} (h : mkB a = mkB b) : a = b := by
  have := congrArg (fun x : ByteArray => x.data.toList) h
  simpa [mkB] using this
theorem mkB_len (l : List UInt8) : (mkB l).size = l.length := by show l.toArray.size = _; simp
def goodB (c : UInt8) : Bool := decide (32 ≤ c.toNat) && decide (c.toNat ≤ 126)
/-- The words: cur is the one that is being read. -/
def wd : List UInt8 → List UInt8 → List (List UInt8)
  | cur, [] => if cur = [] then [] else [cur]
  | cur, c :: l => if c = 32 then (if cur = [] then wd [] l else cur :: wd [] l) else wd (cur ++ [c]) l
def sp : List UInt8 → List (List UInt8)
  | [] => [[]]
  | c :: l => if c = 32 then [] :: sp l else match sp l with
    | [] => [[c]]
    | h :: t => (c :: h) :: t
theorem sp_ne (l : List UInt8) : ∃ h t, sp l = h :: t := by
  cases l with
  | nil => exact ⟨_, _, rfl⟩
  | cons c l =>
    unfold sp
    by_cases h : c = 32
    · rw [if_pos h]; exact ⟨_, _, rfl⟩
    · rw [if_neg h]; cases sp l <;> exact ⟨_, _, rfl⟩
theorem wd_sp (l : List UInt8) : ∀ cur h t, sp l = h :: t → wd cur l = ((cur ++ h) :: t).filter (fun x => decide (x ≠ [])) := by
  induction l with
  | nil =>
    intro cur h t e
    cases e
    by_cases hc : cur = []
    · simp [wd, hc]
    · simp [wd, hc]
  | cons c l ih =>
    intro cur h t e
    obtain ⟨h', t', e'⟩ := sp_ne l
    unfold sp at e
    by_cases hc : c = 32
    · rw [if_pos hc] at e
      cases e
      rw [wd, if_pos hc, ih [] h' t' e', e', List.append_nil]
      by_cases hz : cur = []
      · rw [if_pos hz, hz]; simp
      · rw [if_neg hz]; simp [hz]
    · rw [if_neg hc, e'] at e
      simp only [List.cons.injEq] at e
      obtain ⟨rfl, rfl⟩ := e
      rw [wd, if_neg hc, ih (cur ++ [c]) h' t' e']
      simp
theorem wd_sp0 (l : List UInt8) : (sp l).filter (fun x => decide (x ≠ [])) = wd [] l := by
  obtain ⟨h, t, e⟩ := sp_ne l
  rw [wd_sp l [] h t e, e, List.nil_append]
theorem index_nil32 : Lib.index [] [32] = -1 := rfl
theorem splitK_sp (l : List UInt8) : Lib.splitK [32] 0 (Lib.count l [32]) l = sp l := by
  induction l with
  | nil => rfl
  | cons c l ih =>
    unfold sp
    by_cases hc : c = 32
    · subst hc
      rw [if_pos rfl, Lib.count_cons_eq, Nat.add_comm, Lib.splitK]
      have e : Lib.index (32 :: l) [32] = 0 := by simp [Lib.index_one, Lib.indexByte]
      rw [e, if_neg (by decide)]
      simp only [Int.toNat_zero, Nat.zero_add, List.take_zero, List.length_singleton, List.drop_one, List.tail_cons, Nat.add_zero]
      rw [ih]
    · rw [if_neg hc, Lib.count_cons_ne c 32 l hc, ← ih]
      cases hk : Lib.count l [32] with
      | zero => simp [Lib.splitK]
      | succ k =>
        obtain ⟨i, hi⟩ : ∃ i : Nat, Lib.index l [32] = i := by
          have h1 := Lib.index_ge l [32]
          by_cases h2 : Lib.index l [32] = -1
          · rw [Lib.count_miss h2] at hk; omega
          · exact ⟨(Lib.index l [32]).toNat, by omega⟩
        have e : Lib.index (c :: l) [32] = ((i + 1 : Nat) : Int) := by
          rw [Lib.index_one] at hi ⊢
          have hb : (c == 32) = false := by simpa using hc
          rw [Lib.indexByte, hb, hi]
          have : ((i : Int) == -1) = false := by rw [beq_eq_false_iff_ne]; omega
          rw [this]; simp
        have n1 : ¬ ((((i + 1 : Nat) : Int) == -1) = true) := by rw [beq_iff_eq]; omega
        have n2 : ¬ (((i : Int) == -1) = true) := by rw [beq_iff_eq]; omega
        rw [Lib.splitK, Lib.splitK, e, hi, if_neg n1, if_neg n2]
        simp
def sep32 : ByteArray := ⟨#[32]⟩
theorem splitB_sp (s : ByteArray) : Lib.splitB sep32 0 (Lib.countB s sep32) s = (sp s.data.toList).map mkB := by
  have h := Lib.splitB_data sep32 0 (Lib.countB s sep32) s
  have e : Lib.splitK sep32.data.toList 0 (Lib.countB s sep32) s.data.toList = sp s.data.toList := splitK_sp s.data.toList
  rw [e] at h
  rw [← h, List.map_map]
  have : (mkB ∘ fun b : ByteArray => b.data.toList) = id := funext fun b => mkB_data b
  rw [this, List.map_id]
theorem sp_len (l : List UInt8) : (sp l).length ≤ l.length + 1 := by
  induction l with
  | nil => simp [sp]
  | cons c l ih =>
    unfold sp
    by_cases hc : c = 32
    · rw [if_pos hc]; simp; omega
    · rw [if_neg hc]
      obtain ⟨h, t, e⟩ := sp_ne l
      rw [e] at ih ⊢; simp at ih ⊢; omega
def endM (p : List ByteArray) : List ByteArray × Bool := if (p.length : Int) > 10 then ([], false) else (p, true)
def restM (acc : List ByteArray) (cur l : List UInt8) : List ByteArray × Bool := if l.all goodB = true then endM (acc ++ (wd cur l).map mkB) else ([], false)
def partsM (s : ByteArray) : List ByteArray × Bool := if (s.size : Int) > 600 then ([], false) else restM [] [] s.data.toList
theorem bt_at (s : ByteArray) (i : Nat) (h : i < s.data.toList.length) : bt s (i : Int) = ((s.data.toList[i]).toNat : Int) := by
  have h' : i < s.size := by simpa using h
  rw [bt_nat s i h']
  congr 2
theorem extract_mk (s : ByteArray) (b i : Nat) : s.extract b i = mkB ((s.data.toList.take i).drop b) := by
  apply ByteArray.ext
  apply Array.ext'
  simp [mkB, ByteArray.data_extract, List.drop_take]
theorem spec_end (s : ByteArray) (acc : List ByteArray) (b i : Int) (hi : ¬ i ≤ (s.size : Int)) : Ev (fun k => spec_PartsOf.l0 k s acc b i) (endM acc) := by
  refine Ev.step (fun _ => spec_PartsOf.l0.eq_2 ..) (Ev.neg hi (Ev.ite (fun h => Ev.some ?_) (fun h => Ev.some ?_)))
  · unfold endM; rw [if_pos h]
  · unfold endM; rw [if_neg h]
theorem spec_l0 (s : ByteArray) (hs : s.size ≤ 600) (d : Nat) : ∀ (i b : Nat) (acc : List ByteArray), i + d = s.size → b ≤ i → acc.length ≤ i →
    Ev (fun k => spec_PartsOf.l0 k s acc (b : Int) (i : Int)) (restM acc ((s.data.toList.take i).drop b) (s.data.toList.drop i)) := by
  have hlen : s.data.toList.length = s.size := by rw [Array.length_toList]; rfl
  induction d with
  | zero =>
    intro i b acc hi hb ha
    have hd : s.data.toList.drop i = [] := List.drop_eq_nil_of_le (by omega)
    rw [hd]
    unfold restM
    rw [if_pos (by simp)]
    refine Ev.step (fun _ => spec_PartsOf.l0.eq_2 ..) (Ev.pos (by omega) (Ev.neg (by omega) ?_))
    refine Ev.step (fun _ => spec_PartsOf.j1.eq_2 ..) (Ev.neg (by simp) (Ev.neg (by omega) ?_))
    refine Ev.step (fun _ => spec_PartsOf.j2.eq_2 ..) (Ev.neg (by simp) (Ev.ite (fun hlt => ?_) (fun hlt => ?_)))
    · refine Ev.pos (by omega) (Ev.pos (by omega) (Ev.pos (by omega) (Ev.pos (by omega) ?_)))
      rw [Int.toNat_natCast, Int.toNat_natCast, extract_mk]
      have hc : ¬ (s.data.toList.take i).drop b = [] := by
        intro h; have := congrArg List.length h; simp at this; omega
      rw [wd, if_neg hc]
      exact spec_end s _ _ _ (by rw [w64_succ i (by omega)]; omega)
    · have hc : (s.data.toList.take i).drop b = [] := List.drop_eq_nil_of_le (by rw [List.length_take]; omega)
      rw [wd, if_pos hc, List.map_nil, List.append_nil]
      exact spec_end s _ _ _ (by rw [w64_succ i (by omega)]; omega)
  | succ d ih =>
    intro i b acc hi hb ha
    have hil : i < s.data.toList.length := by omega
    have hd : s.data.toList.drop i = s.data.toList[i] :: s.data.toList.drop (i + 1) := List.drop_eq_getElem_cons hil
    have hbt := bt_at s i hil
    have ht : s.data.toList.take (i + 1) = s.data.toList.take i ++ [s.data.toList[i]] := by rw [List.take_succ_eq_append_getElem hil]
    have bad : goodB s.data.toList[i] = false → (([], false) : List ByteArray × Bool) = restM acc ((s.data.toList.take i).drop b) (s.data.toList.drop i) := by
      intro h; unfold restM; rw [hd, List.all_cons, h, if_neg (by simp)]
    have ok : goodB s.data.toList[i] = true → restM acc ((s.data.toList.take i).drop b) (s.data.toList.drop i) = (if (s.data.toList.drop (i + 1)).all goodB = true then endM (acc ++ (wd ((s.data.toList.take i).drop b) (s.data.toList[i] :: s.data.toList.drop (i + 1))).map mkB) else ([], false)) := by
      intro h; unfold restM; rw [hd, List.all_cons, h, Bool.true_and]
    have nil2 : (s.data.toList.take (i + 1)).drop (i + 1) = [] := List.drop_eq_nil_of_le (by rw [List.length_take]; omega)
    have e32 : (bt s (i : Int) = 32) ↔ s.data.toList[i] = 32 := by
      rw [hbt]; constructor
      · intro h; apply UInt8.toNat_inj.1; show _ = 32; omega
      · intro h; rw [h]; rfl
    have next : goodB s.data.toList[i] = true → Ev (fun k => spec_PartsOf.j1 k s acc (b : Int) (i : Int) false) (restM acc ((s.data.toList.take i).drop b) (s.data.toList.drop i)) := by
      intro hg
      rw [ok hg]
      refine Ev.step (fun _ => spec_PartsOf.j1.eq_2 ..) (Ev.neg (by simp) (Ev.pos (by omega) (Ev.pos (by omega) ?_)))
      refine Ev.step (fun _ => spec_PartsOf.j2.eq_2 ..) (Ev.ite (fun hne => ?_) (fun he => ?_))
      · have hne' : ¬ s.data.toList[i] = 32 := by
          intro h; rw [bne_iff_ne] at hne; exact hne (e32.2 h)
        have := ih (i + 1) b acc (by omega) (by omega) (by omega)
        rw [w64_succ i (by omega)]
        refine Ev.eq this ?_
        unfold restM
        rw [wd, if_neg hne', ht, List.drop_append_of_le_length (by rw [List.length_take]; omega)]
      · have he' : s.data.toList[i] = 32 := by
          apply e32.1
          simpa using he
        rw [w64_succ i (by omega)]
        refine Ev.ite (fun hlt => ?_) (fun hlt => ?_)
        · refine Ev.pos (by omega) (Ev.pos (by omega) (Ev.pos (by omega) (Ev.pos (by omega) ?_)))
          rw [Int.toNat_natCast, Int.toNat_natCast, extract_mk]
          have hc : ¬ (s.data.toList.take i).drop b = [] := by
            intro h; have := congrArg List.length h; simp at this; omega
          have := ih (i + 1) (i + 1) (acc ++ [mkB ((s.data.toList.take i).drop b)]) (by omega) (by omega) (by simp; omega)
          refine Ev.eq this ?_
          unfold restM
          rw [wd, if_pos he', if_neg hc, nil2, List.map_cons, List.append_assoc, List.singleton_append]
        · have hc : (s.data.toList.take i).drop b = [] := List.drop_eq_nil_of_le (by rw [List.length_take]; omega)
          have := ih (i + 1) (i + 1) acc (by omega) (by omega) (by omega)
          refine Ev.eq this ?_
          unfold restM
          rw [wd, if_pos he', if_pos hc, nil2]
    refine Ev.step (fun _ => spec_PartsOf.l0.eq_2 ..) (Ev.pos (by omega) (Ev.pos (by omega) (Ev.pos (by omega) (Ev.ite (fun h => ?_) (fun h => ?_)))))
    · refine Ev.step (fun _ => spec_PartsOf.j1.eq_2 ..) (Ev.pos rfl (Ev.some (bad ?_)))
      rw [hbt] at h
      unfold goodB; rw [decide_eq_false (by omega), Bool.false_and]
    · rw [hbt] at h
      by_cases h2 : ((s.data.toList[i]).toNat : Int) > 126
      · rw [hbt, decide_eq_true h2]
        refine Ev.step (fun _ => spec_PartsOf.j1.eq_2 ..) (Ev.pos rfl (Ev.some (bad ?_)))
        unfold goodB; rw [decide_eq_false (by omega : ¬ (s.data.toList[i]).toNat ≤ 126), Bool.and_false]
      · rw [hbt, decide_eq_false h2]
        refine next ?_
        unfold goodB; rw [decide_eq_true (by omega), decide_eq_true (by omega)]; rfl
theorem specParts_ev (s : ByteArray) : Ev (fun k => spec_PartsOf.f k s) (partsM s) := by
  refine Ev.congr (fun _ => spec_PartsOf.f.eq_1 ..) (Ev.call rfl (Ev.ite (fun h => Ev.some ?_) (fun h => ?_)))
  · unfold partsM; rw [if_pos h]
  · unfold partsM; rw [if_neg h]
    exact spec_l0 s (by omega) s.size 0 0 [] (by omega) (by omega) (by simp)
theorem impl_l1 (L : List (List UInt8)) (hL : L.length ≤ 1000) (d : Nat) : ∀ (j : Nat) (acc : List ByteArray), j + d = L.length → acc.length ≤ j →
    Ev (fun k => impl_PartsOf.l1 k acc (L.map mkB) (L.length : Int) (j : Int)) (endM (acc ++ (((L.drop j).filter (fun x => decide (x ≠ []))).map mkB))) := by
  induction d with
  | zero =>
    intro j acc hj ha
    rw [List.drop_eq_nil_of_le (by omega), List.filter_nil, List.map_nil, List.append_nil]
    refine Ev.step (fun _ => impl_PartsOf.l1.eq_2 ..) (Ev.neg (by omega) (Ev.ite (fun h => Ev.some ?_) (fun h => Ev.some ?_)))
    · unfold endM; rw [if_pos h]
    · unfold endM; rw [if_neg h]
  | succ d ih =>
    intro j acc hj ha
    have hjl : j < L.length := by omega
    rw [List.drop_eq_getElem_cons hjl]
    have hr : rdOf ByteArray.empty (L.map mkB) (j : Int) = mkB L[j] := by rw [rdOf_nat _ _ j (by simpa using hjl), List.getElem_map]
    refine Ev.step (fun _ => impl_PartsOf.l1.eq_2 ..) (Ev.pos (by omega) (Ev.pos (by omega) (Ev.pos (by rw [List.length_map]; omega) ?_)))
    rw [hr, w64_succ j (by omega)]
    have hte : ((mkB L[j]).toList = ([] : List UInt8)) ↔ L[j] = [] := by
      rw [ByteArray.toList_eq]; simp [mkB]
    refine Ev.ite (fun h => ?_) (fun h => ?_)
    · have := ih (j + 1) acc (by omega) (by omega)
      refine Ev.eq this ?_
      rw [List.filter_cons_of_neg (by rw [hte.1 h]; simp)]
    · refine Ev.pos (by omega) ?_
      have := ih (j + 1) (acc ++ [mkB L[j]]) (by omega) (by simp; omega)
      refine Ev.eq this ?_
      have hne : ¬ L[j] = [] := fun e => h (hte.2 e)
      rw [List.filter_cons_of_pos (by simp [hne]), List.map_cons, List.append_assoc, List.singleton_append]
theorem impl_l0 (s : ByteArray) (hs : s.size ≤ 600) (d : Nat) : ∀ i : Nat, i + d = s.size →
    Ev (fun k => impl_PartsOf.l0 k s ([] : List ByteArray) (i : Int)) (if (s.data.toList.drop i).all goodB = true then endM ((wd [] s.data.toList).map mkB) else ([], false)) := by
  have hlen : s.data.toList.length = s.size := by rw [Array.length_toList]; rfl
  induction d with
  | zero =>
    intro i hi
    rw [List.drop_eq_nil_of_le (by omega), if_pos (by simp)]
    have hsp : strings_Split.f s (⟨#[32]⟩ : ByteArray) = some ((sp s.data.toList).map mkB) := by
      unfold strings_Split.f
      rw [if_pos (by omega), if_pos (by decide)]
      exact congrArg some (splitB_sp s)
    have hl := sp_len s.data.toList
    refine Ev.step (fun _ => impl_PartsOf.l0.eq_2 ..) (Ev.neg (by omega) (Ev.call hsp ?_))
    have := impl_l1 (sp s.data.toList) (by omega) (sp s.data.toList).length 0 [] (by omega) (by simp)
    rw [List.length_map]
    refine Ev.eq this ?_
    rw [List.nil_append, List.drop_zero, wd_sp0]
  | succ d ih =>
    intro i hi
    have hil : i < s.data.toList.length := by omega
    have hbt := bt_at s i hil
    have hc : (s.data.toList[i]).toNat < 256 := (s.data.toList[i]).toNat_lt
    rw [List.drop_eq_getElem_cons hil, List.all_cons]
    refine Ev.step (fun _ => impl_PartsOf.l0.eq_2 ..) (Ev.pos (by omega) (Ev.pos (by omega) (Ev.call (within_eq _ _ _) ?_)))
    rw [hbt, w64 (by omega) (by omega), w64_succ i (by omega)]
    by_cases hg : 32 ≤ (s.data.toList[i]).toNat ∧ (s.data.toList[i]).toNat ≤ 126
    · have e : goodB s.data.toList[i] = true := by unfold goodB; rw [decide_eq_true hg.1, decide_eq_true hg.2]; rfl
      refine Ev.pos (decide_eq_true (by omega)) ?_
      rw [e, Bool.true_and]
      exact ih (i + 1) (by omega)
    · have e : goodB s.data.toList[i] = false := by
        unfold goodB; rw [← Bool.decide_and]; exact decide_eq_false hg
      rw [e, Bool.false_and]
      refine Ev.neg (fun h => hg ?_) (Ev.now _)
      have := of_decide_eq_true h
      omega
theorem implParts_ev (s : ByteArray) : Ev (fun k => impl_PartsOf.f k s) (partsM s) := by
  refine Ev.congr (fun _ => impl_PartsOf.f.eq_1 ..) (Ev.ite (fun h => Ev.some ?_) (fun h => ?_))
  · unfold partsM; rw [if_pos h]
  · unfold partsM restM; rw [if_neg h, List.nil_append]
    exact impl_l0 s (by omega) s.size 0 (by omega)
theorem partsM_len (s : ByteArray) : (partsM s).1.length ≤ 10 := by
  unfold partsM restM endM
  split
  · simp
  · split
    · split
      · simp
      · next h => exact Int.ofNat_le.1 (Int.not_lt.1 h)
    · simp
theorem FnExactPartsOf : laws_FnExactPartsOf.Pure := by
  intro s _
  apply Ev.rounds
  refine Ev.congr (fun _ => laws_FnExactPartsOf.f.eq_1 ..) (Ev.ite (fun _ => Ev.now _) (fun _ => ?_))
  have hs := specParts_ev s
  have hi := implParts_ev s
  have hl := partsM_len s
  generalize partsM s = p at hs hi hl
  obtain ⟨r, b⟩ := p
  have he := eqStringS_self r (by simp at hl; omega)
  have hm := markStringS_ev r 1 (by omega) (by simp at hl; omega)
  have hh := heldStringS_ev r.length 1 (by omega) (by simp at hl; omega)
  refine Ev.bind hs (Ev.bind hi (Ev.bind he (Ev.pos rfl ?_)))
  refine Ev.step (fun _ => laws_FnExactPartsOf.j0.eq_2 ..) (Ev.neg (by simp) (Ev.bind hm (Ev.bind hh (Ev.neg (by omega) (Ev.pos rfl (Ev.bind hi (Ev.bind he (Ev.pos rfl ?_))))))))
  refine Ev.step (fun _ => laws_FnExactPartsOf.j1.eq_2 ..) (Ev.neg (by simp) (Ev.bind hh (Ev.neg (by omega) (Ev.pos rfl (Ev.now _)))))

end Go.Proofs.YtmmpjeadjfamfaaDoor.Pure
