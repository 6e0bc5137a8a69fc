/- FnKeeps returns true for all arguments: of a drawn right disk what is kept is never lost; of what is not kept a beginning is left; lost again, nothing more is lost. No conditions beyond the statement's own. -/
import Derived.Test.YthfppepnpngfmaaQkex9
import Derived.Test.YthfppepnpngfmaaBase
namespace Go.Proofs.Ythfppepnpngfmaa.Pure
open Go.RowKit Go.Proofs.Ythfppepnpngfmaa.Qke Go.Proofs.YthfppepnpngfmaaW.PrintWords Go.Proofs.YthfppepnpngfmaaW.PrintLast Go.Proofs.YthfppepnpngfmaaW.PrintMore Go.Proofs.Ythfppepnpngfmaa.Base

instance decS45 : DecidableEq S45 := fun a b => decidable_of_iff (a.f0 = b.f0 ∧ a.f1 = b.f1 ∧ a.f2 = b.f2) (by cases a; cases b; simp)
theorem rdF_nat (xs : List S45) (i : Nat) (h : i < xs.length) : rd_T45 xs (i : Int) = xs[i] := by
  unfold rd_T45
  rw [Int.toNat_natCast, List.getD_eq_getElem?_getD, List.getElem?_eq_getElem h]; rfl
theorem byte_ok (l : List Int) (i h : Int) (hi : 0 ≤ i) (hl : l.length ≤ 140737488355328) :
    ∃ r i' h', spec_l01Byte.f l i h = some (r, i', h') ∧ 0 ≤ r ∧ r ≤ 255 ∧ 0 ≤ i' := by
  unfold spec_l01Byte.f
  by_cases c : i < (l.length : Int)
  · rw [if_pos c, if_pos hi]
    exact ⟨_, _, _, rfl, (and255 _).1, (and255 _).2, by rw [w64 (by omega) (by omega)]; omega⟩
  · rw [if_neg c]
    exact ⟨_, _, _, rfl, (and255 _).1, (and255 _).2, hi⟩
theorem below_ok (l : List Int) (i h n : Int) (hi : 0 ≤ i) (hl : l.length ≤ 140737488355328) :
    ∃ r i' h', spec_l01Below.f l i h n = some (r, i', h') ∧ 0 ≤ i' ∧ 0 ≤ r ∧ (0 < n → r < n) ∧ (n ≤ 0 → r = 0) := by
  unfold spec_l01Below.f
  by_cases c : n ≤ 0
  · rw [if_pos c]; exact ⟨_, _, _, rfl, hi, by omega, by omega, fun _ => rfl⟩
  · rw [if_neg c]
    by_cases c2 : n ≤ 256
    · rw [if_pos c2]
      obtain ⟨r, i1, h1, e, r0, r1, hi1⟩ := byte_ok l i h hi hl
      rw [e, Option.bind_some, if_neg (by omega)]
      have := tmod_in r n r0 (by omega)
      exact ⟨_, _, _, rfl, hi1, this.1, fun _ => this.2, by omega⟩
    · rw [if_neg c2]
      obtain ⟨x, i1, h1, e1, x0, x1, hi1⟩ := byte_ok l i h hi hl
      obtain ⟨y, i2, h2, e2, y0, y1, hi2⟩ := byte_ok l i1 h1 hi1 hl
      obtain ⟨z, i3, h3, e3, z0, z1, hi3⟩ := byte_ok l i2 h2 hi2 hl
      obtain ⟨w, i4, h4, e4, w0, w1, hi4⟩ := byte_ok l i3 h3 hi3 hl
      rw [e1, Option.bind_some, e2, Option.bind_some, e3, Option.bind_some, e4, Option.bind_some, if_neg (by omega)]
      have q1 : wrap64 (x * 16777216) = x * 16777216 := w64 (by omega) (by omega)
      have q2 : wrap64 (y * 65536) = y * 65536 := w64 (by omega) (by omega)
      have q3 : wrap64 (z * 256) = z * 256 := w64 (by omega) (by omega)
      simp only [q1, q2, q3]
      rw [w64 (n := x * 16777216 + y * 65536) (by omega) (by omega), w64 (n := x * 16777216 + y * 65536 + z * 256) (by omega) (by omega), w64 (n := x * 16777216 + y * 65536 + z * 256 + w) (by omega) (by omega)]
      have := tmod_in (x * 16777216 + y * 65536 + z * 256 + w) n (by omega) (by omega)
      exact ⟨_, _, _, rfl, hi4, this.1, fun _ => this.2, by omega⟩
theorem new_l0 (l : List Int) (d : Nat) :
    ∀ (j : Nat) (x : Int), j + d = l.length → ∃ h, Ev (fun k => spec_l01New.l0 k l x (j : Int)) (l, 0, h) := by
  induction d with
  | zero => intro j x hj; exact ⟨x, Ev.step (fun _ => spec_l01New.l0.eq_2 ..) (Ev.neg (by omega) (Ev.now _))⟩
  | succ d ih =>
    intro j x hj
    by_cases c : (j : Int) < 4000
    · obtain ⟨h, e⟩ := ih (j + 1) (Go.bits .and .i64 (wrap64 ((wrap64 ((wrap64 (x * 131)) + (wrap64 (rd l j)))) + 7)) 1073741823) (by omega)
      refine ⟨h, Ev.step (fun _ => spec_l01New.l0.eq_2 ..) (Ev.pos (by omega) (Ev.pos c (Ev.pos (by omega) ?_)))⟩
      rw [w64_succ j (by omega)]
      exact e
    · exact ⟨x, Ev.step (fun _ => spec_l01New.l0.eq_2 ..) (Ev.pos (by omega) (Ev.neg c (Ev.now _)))⟩
theorem new_ok (l : List Int) (_hl : l.length ≤ 140737488355328) : ∃ h, Ev (fun k => spec_l01New.f k l) (l, 0, h) := by
  obtain ⟨h, e⟩ := new_l0 l l.length 0 (wrap64 (34901 + (l.length : Int))) (by omega)
  exact ⟨h, Ev.congr (fun _ => spec_l01New.f.eq_1 ..) e⟩
theorem big_eq (l : List Int) : laws_big.f l = some (decide ((l.length : Int) > 1048576)) := rfl
theorem within_eq (n lo hi : Int) : impl_within.f n lo hi = some (decide (lo ≤ n ∧ n ≤ hi)) := by
  unfold impl_within.f
  by_cases h : n ≥ lo
  · rw [if_pos h]; congr 1; rw [decide_eq_decide]; exact ⟨fun h2 => ⟨h, h2⟩, fun h2 => h2.2⟩
  · rw [if_neg h]; congr 1; symm; rw [decide_eq_false_iff_not]; exact fun h2 => h h2.1
def okAt (fs : List S45) (i : Nat) : Prop := (1 ≤ ((rd_T45 fs (i : Int)).f0.size : Int) ∧ ((rd_T45 fs (i : Int)).f0.size : Int) ≤ 8) ∧ ¬ ((rd_T45 fs (i : Int)).f1.size : Int) > 20000 ∧ (0 ≤ (rd_T45 fs (i : Int)).f2 ∧ (rd_T45 fs (i : Int)).f2 ≤ ((rd_T45 fs (i : Int)).f1.size : Int)) ∧
  (0 < i → Op.bytesLess (rd_T45 fs ((i : Int) - 1)).f0.toList (rd_T45 fs (i : Int)).f0.toList = true)
instance (fs : List S45) (i : Nat) : Decidable (okAt fs i) := by unfold okAt; exact inferInstance
def allFrom (fs : List S45) : Nat → Nat → Bool
  | 0, _ => true
  | d + 1, i => decide (okAt fs i) && allFrom fs d (i + 1)
theorem allFrom_iff (fs : List S45) (d : Nat) : ∀ i, allFrom fs d i = true ↔ ∀ j, j < d → okAt fs (i + j) := by
  induction d with
  | zero => intro i; simp [allFrom]
  | succ d ih =>
    intro i
    unfold allFrom
    rw [Bool.and_eq_true, decide_eq_true_iff, ih]
    constructor
    · rintro ⟨h1, h2⟩ j hj
      cases j with
      | zero => exact h1
      | succ j => have := h2 j (by omega); rwa [show i + 1 + j = i + (j + 1) from by omega] at this
    · intro h
      refine ⟨h 0 (by omega), fun j hj => ?_⟩
      have := h (j + 1) (by omega)
      rwa [show i + (j + 1) = i + 1 + j from by omega] at this
def diskB (fs : List S45) : Bool := allFrom fs fs.length 0 && decide (fs.length ≤ 30)
theorem implDiskOk_l0 (fs : List S45) (hn : fs.length ≤ 140737488355328) (d : Nat) :
    ∀ i : Nat, i + d = fs.length → Ev (fun k => impl_DiskOk.l0 k fs (fs.length : Int) (i : Int) fs) (allFrom fs d i && decide (fs.length ≤ 30)) := by
  induction d with
  | zero =>
    intro i hi
    refine Ev.step (fun _ => impl_DiskOk.l0.eq_2 ..) (Ev.neg (by omega) (Ev.some ?_))
    unfold allFrom
    rw [Bool.true_and, decide_eq_decide]; omega
  | succ d ih =>
    intro i hi
    unfold allFrom
    have no : ¬ okAt fs i → ∀ b c : Bool, ((decide (okAt fs i) && b) && c) = false := fun h b c => by rw [decide_eq_false h]; rfl
    refine Ev.step (fun _ => impl_DiskOk.l0.eq_2 ..) (Ev.pos (by omega) (Ev.pos (by omega) (Ev.pos (by omega) (Ev.call (within_eq ..) ?_))))
    by_cases h1 : 1 ≤ ((rd_T45 fs (i : Int)).f0.size : Int) ∧ ((rd_T45 fs (i : Int)).f0.size : Int) ≤ 8
    · refine Ev.pos (by rw [decide_eq_true h1]) (Ev.ite (fun h2 => ?_) (fun h2 => ?_))
      · exact Ev.some (no (fun z => z.2.1 h2) _ _).symm
      · refine Ev.call (within_eq ..) ?_
        by_cases h3 : 0 ≤ (rd_T45 fs (i : Int)).f2 ∧ (rd_T45 fs (i : Int)).f2 ≤ ((rd_T45 fs (i : Int)).f1.size : Int)
        · refine Ev.pos (by rw [decide_eq_true h3]) ?_
          rw [w64_succ i (by omega)]
          by_cases hi0 : 0 < i
          · rw [w64 (n := (i : Int) - 1) (by omega) (by omega)]
            refine Ev.pos (by omega) (Ev.pos (by omega) (Ev.pos (by omega) (Ev.ite (fun h4 => ?_) (fun h4 => ?_))))
            · rw [show decide (okAt fs i) = true from decide_eq_true ⟨h1, h2, h3, fun _ => h4⟩, Bool.true_and]
              exact ih (i + 1) (by omega)
            · exact Ev.some (no (fun z => h4 (z.2.2.2 hi0)) _ _).symm
          · refine Ev.neg (by omega) ?_
            rw [show decide (okAt fs i) = true from decide_eq_true ⟨h1, h2, h3, fun z => absurd z hi0⟩, Bool.true_and]
            exact ih (i + 1) (by omega)
        · exact Ev.neg (by rw [decide_eq_false h3]; simp) (Ev.some (no (fun z => h3 z.2.2.1) _ _).symm)
    · exact Ev.neg (by rw [decide_eq_false h1]; simp) (Ev.some (no (fun z => h1 z.1) _ _).symm)
theorem implDiskOk_ev (fs : List S45) (hn : fs.length ≤ 140737488355328) : Ev (fun k => impl_DiskOk.f k fs) (diskB fs) :=
  Ev.congr (fun _ => impl_DiskOk.f.eq_1 ..) (implDiskOk_l0 fs hn fs.length 0 (by omega))
theorem take_set_drop {α : Type} (L a : List α) (h : L.length = a.length) (i : Nat) (hi : i < a.length) : (L.take i ++ a.drop i).set i (L[i]'(by omega)) = L.take (i + 1) ++ a.drop (i + 1) := by
  rw [List.set_append_right _ _ (by rw [List.length_take]; omega), List.length_take, Nat.min_eq_left (by omega), Nat.sub_self, List.drop_eq_getElem_cons hi, List.set_cons_zero, List.take_succ_eq_append_getElem (by omega), List.append_assoc]
  rfl
theorem diskB_kept {fs : List S45} (h : diskB fs = true) (i : Nat) (hi : i < fs.length) : 0 ≤ (rd_T45 fs (i : Int)).f2 ∧ (rd_T45 fs (i : Int)).f2 ≤ ((rd_T45 fs (i : Int)).f1.size : Int) := by
  unfold diskB at h
  rw [Bool.and_eq_true] at h
  have := (allFrom_iff fs fs.length 0).1 h.1 i hi
  rw [Nat.zero_add] at this
  exact this.2.2.1
theorem diskB_len {fs : List S45} (h : diskB fs = true) : fs.length ≤ 30 := by
  unfold diskB at h
  rw [Bool.and_eq_true, decide_eq_true_iff] at h
  exact h.2
def leftN (left : List Int) (fs : List S45) (i : Nat) : Int := if (i : Int) < (left.length : Int) then mx (rd_T45 fs (i : Int)).f2 (mn (rd left (i : Int)) ((rd_T45 fs (i : Int)).f1.size : Int)) else (rd_T45 fs (i : Int)).f2
def lostF (f : S45) (n : Int) : S45 := ⟨f.f0, f.f1.extract 0 n.toNat, n⟩
def loseL (left : List Int) (fs : List S45) : List S45 := (List.range fs.length).map (fun i : Nat => lostF (rd_T45 fs (i : Int)) (leftN left fs i))
theorem loseL_length (left : List Int) (fs : List S45) : (loseL left fs).length = fs.length := by simp [loseL]
theorem loseL_get (left : List Int) (fs : List S45) (i : Nat) (h : i < (loseL left fs).length) : (loseL left fs)[i] = lostF (rd_T45 fs (i : Int)) (leftN left fs i) := by simp [loseL]
def loseM (left : List Int) (fs : List S45) : List S45 × Bool := if diskB fs = true then (loseL left fs, true) else ([], false)
theorem implLoseDisk_l0 (left : List Int) (fs : List S45) (hd : diskB fs = true) (d : Nat) :
    ∀ i : Nat, i + d = fs.length → Ev (fun k => impl_LoseDisk.l0 k left fs (fs.length : Int) (i : Int) ((loseL left fs).take i ++ fs.drop i)) (loseL left fs, true) := by
  have hl := diskB_len hd
  induction d with
  | zero =>
    intro i hi
    refine Ev.step (fun _ => impl_LoseDisk.l0.eq_2 ..) (Ev.neg (by omega) (Ev.some ?_))
    obtain rfl : i = fs.length := by omega
    rw [List.take_of_length_le (by rw [loseL_length]; omega)]; simp
  | succ d ih =>
    intro i hi
    have hk := diskB_kept hd i (by omega)
    have hlen : ((loseL left fs).take i ++ fs.drop i).length = fs.length := by simp [loseL_length]; omega
    have hset := take_set_drop (loseL left fs) fs (loseL_length _ _) i (by omega)
    rw [loseL_get] at hset
    refine Ev.step (fun _ => impl_LoseDisk.l0.eq_2 ..) (Ev.pos (by omega) (Ev.pos (by omega) (Ev.pos (by omega) (Ev.ite (fun c => ?_) (fun c => ?_)))))
    · have e : leftN left fs i = mx (rd_T45 fs (i : Int)).f2 (mn (rd left (i : Int)) ((rd_T45 fs (i : Int)).f1.size : Int)) := if_pos c
      rw [← e]
      have hr : 0 ≤ leftN left fs i ∧ leftN left fs i ≤ ((rd_T45 fs (i : Int)).f1.size : Int) := by
        rw [e]; unfold mx mn; split <;> split <;> omega
      refine Ev.pos hr.1 (Ev.pos hr.2 (Ev.pos (by rw [hlen]; omega) ?_))
      rw [w64_succ i (by omega), Int.toNat_natCast]
      show Ev (fun k => impl_LoseDisk.l0 k left fs (fs.length : Int) ((i + 1 : Nat) : Int) (((loseL left fs).take i ++ fs.drop i).set i (lostF (rd_T45 fs (i : Int)) (leftN left fs i)))) _
      rw [hset]
      exact ih (i + 1) (by omega)
    · have e : leftN left fs i = (rd_T45 fs (i : Int)).f2 := if_neg c
      refine Ev.pos hk.1 (Ev.pos hk.2 (Ev.pos (by rw [hlen]; omega) ?_))
      rw [w64_succ i (by omega), Int.toNat_natCast]
      rw [e] at hset
      show Ev (fun k => impl_LoseDisk.l0 k left fs (fs.length : Int) ((i + 1 : Nat) : Int) (((loseL left fs).take i ++ fs.drop i).set i (lostF (rd_T45 fs (i : Int)) (rd_T45 fs (i : Int)).f2))) _
      rw [hset]
      exact ih (i + 1) (by omega)
theorem implLoseDisk_ev (left : List Int) (fs : List S45) (hn : fs.length ≤ 140737488355328) : Ev (fun k => impl_LoseDisk.f k fs left) (loseM left fs) := by
  refine Ev.congr (fun _ => impl_LoseDisk.f.eq_1 ..) (Ev.bind (implDiskOk_ev fs hn) (Ev.ite (fun h => ?_) (fun h => ?_)))
  · refine Ev.call (a := fs) ?_ ?_
    · unfold impl_copyDisk.f
      rw [Option.bind_some, if_pos (by have := diskB_len h; simp; omega)]; rfl
    · unfold loseM; rw [if_pos h]
      have := implLoseDisk_l0 left fs h fs.length 0 (by omega)
      simpa using this
  · unfold loseM; rw [if_neg h]; exact Ev.now _
def keptFrom (fs : List S45) : Nat → Nat → Bool
  | 0, _ => true
  | d + 1, i => decide ((rd_T45 fs (i : Int)).f2 = ((rd_T45 fs (i : Int)).f1.size : Int)) && keptFrom fs d (i + 1)
theorem implAllKept_l0 (fs : List S45) (hn : fs.length ≤ 140737488355328) (d : Nat) :
    ∀ i : Nat, i + d = fs.length → Ev (fun k => impl_AllKept.l0 k fs (fs.length : Int) (i : Int) fs) (keptFrom fs d i && diskB fs) := by
  induction d with
  | zero =>
    intro i hi
    exact Ev.step (fun _ => impl_AllKept.l0.eq_2 ..) (Ev.neg (by omega) (Ev.bind (implDiskOk_ev fs hn) (Ev.some rfl)))
  | succ d ih =>
    intro i hi
    unfold keptFrom
    refine Ev.step (fun _ => impl_AllKept.l0.eq_2 ..) (Ev.pos (by omega) (Ev.pos (by omega) (Ev.pos (by omega) (Ev.ite (fun h => ?_) (fun h => ?_)))))
    · rw [decide_eq_true h, Bool.true_and, w64_succ i (by omega)]; exact ih (i + 1) (by omega)
    · rw [decide_eq_false h]; exact Ev.some rfl
theorem implAllKept_ev (fs : List S45) (hn : fs.length ≤ 140737488355328) : Ev (fun k => impl_AllKept.f k fs) (keptFrom fs fs.length 0 && diskB fs) :=
  Ev.congr (fun _ => impl_AllKept.f.eq_1 ..) (implAllKept_l0 fs hn fs.length 0 (by omega))
theorem diskB_ok (fs : List S45) (h : diskB fs = true) : (∀ j, j < fs.length → okAt fs j) ∧ fs.length ≤ 30 := by
  unfold diskB at h
  rw [Bool.and_eq_true, decide_eq_true_iff, allFrom_iff] at h
  exact ⟨fun j hj => by have := h.1 j hj; rwa [Nat.zero_add] at this, h.2⟩
theorem places_l0 (l : List Int) (hl : l.length ≤ 140737488355328) (d : Nat) :
    ∀ (j : Nat) (acc : List Int) (i h : Int), j + d = 12 → acc.length = j → (∀ x ∈ acc, 0 ≤ x ∧ x < 10000) → 0 ≤ i →
      ∃ r, Ev (fun k => spec_DrawPlaces.l0 k acc (j : Int) l i h) r ∧ r.length = 12 ∧ ∀ x ∈ r, 0 ≤ x ∧ x < 10000 := by
  induction d with
  | zero =>
    intro j acc i h hj hc ha hi
    exact ⟨acc, Ev.step (fun _ => spec_DrawPlaces.l0.eq_2 ..) (Ev.neg (by omega) (Ev.now _)), by omega, ha⟩
  | succ d ih =>
    intro j acc i h hj hc ha hi
    obtain ⟨b, i1, h1, e, hi1, b0, b1, _⟩ := below_ok l i h 10000 hi hl
    obtain ⟨r, er, hr⟩ := ih (j + 1) (acc ++ [b]) i1 h1 (by omega) (by simp; omega) (by
      intro x hx
      rcases List.mem_append.1 hx with hx | hx
      · exact ha x hx
      · obtain rfl := List.mem_singleton.1 hx; exact ⟨b0, b1 (by omega)⟩) hi1
    refine ⟨r, Ev.step (fun _ => spec_DrawPlaces.l0.eq_2 ..) (Ev.pos (by omega) (Ev.call e (Ev.pos (by omega) ?_))), hr⟩
    rw [w64_succ j (by omega)]
    exact er
theorem places_ok (l : List Int) (hl : l.length ≤ 140737488355328) : ∃ r, Ev (fun k => spec_DrawPlaces.f k l) r ∧ r.length = 12 ∧ ∀ x ∈ r, 0 ≤ x ∧ x < 10000 := by
  obtain ⟨h, e⟩ := new_ok l hl
  obtain ⟨b, i1, h1, e1, _, _, hi1⟩ := byte_ok l 0 h (by omega) hl
  obtain ⟨r, er, hr⟩ := places_l0 l hl 12 0 [] i1 h1 (by omega) rfl (by simp) hi1
  exact ⟨r, Ev.congr (fun _ => spec_DrawPlaces.f.eq_1 ..) (Ev.bind e (Ev.call e1 er)), hr⟩
theorem text_l0 (l : List Int) (hl : l.length ≤ 140737488355328) (n : Nat) (hn : n ≤ 5000) (d : Nat) :
    ∀ (j : Nat) (acc : List Int) (i h : Int), j + d = n → acc.length = j → 0 ≤ i →
      ∃ r i' h', Ev (fun k => spec_l01Text.l0 k (n : Int) acc (j : Int) l i h) (r, i', h') ∧ 0 ≤ i' ∧ r.size = n := by
  induction d with
  | zero =>
    intro j acc i h hj hc hi
    exact ⟨_, _, _, Ev.step (fun _ => spec_l01Text.l0.eq_2 ..) (Ev.neg (by omega) (Ev.now _)), hi, by rw [strOfNums_size]; omega⟩
  | succ d ih =>
    intro j acc i h hj hc hi
    obtain ⟨b, i1, h1, e, _, _, hi1⟩ := byte_ok l i h hi hl
    obtain ⟨r, i2, h2, er, hi2, hr⟩ := ih (j + 1) (acc ++ [b % 256]) i1 h1 (by omega) (by simp; omega) hi1
    refine ⟨r, i2, h2, Ev.step (fun _ => spec_l01Text.l0.eq_2 ..) (Ev.pos (by omega) (Ev.call e (Ev.pos (by omega) ?_))), hi2, hr⟩
    rw [w64_succ j (by omega)]
    exact er
theorem text_ok (l : List Int) (hl : l.length ≤ 140737488355328) (i h n : Int) (hi : 0 ≤ i) (hn : 0 ≤ n ∧ n ≤ 5000) :
    ∃ r i' h', Ev (fun k => spec_l01Text.f k l i h n) (r, i', h') ∧ 0 ≤ i' ∧ (r.size : Int) = n := by
  obtain ⟨m, rfl⟩ := Int.eq_ofNat_of_zero_le hn.1
  obtain ⟨r, i', h', e, a, b⟩ := text_l0 l hl m (by omega) m 0 [] i h (by omega) rfl hi
  exact ⟨r, i', h', Ev.congr (fun _ => spec_l01Text.f.eq_1 ..) (Ev.neg (by omega) (Ev.step (fun _ => spec_l01Text.j0.eq_2 ..) e)), a, by omega⟩
theorem bl_trans : ∀ x y z : List UInt8, Op.bytesLess x y = true → Op.bytesLess y z = true → Op.bytesLess x z = true
  | _, _, [], _, h => by unfold Op.bytesLess at h; simp at h
  | _, [], _ :: _, h, _ => by unfold Op.bytesLess at h; simp at h
  | [], _ :: _, _ :: _, _, _ => rfl
  | a :: x, b :: y, c :: z, h1, h2 => by
    unfold Op.bytesLess at h1 h2 ⊢
    simp only [Bool.or_eq_true, Bool.and_eq_true, decide_eq_true_iff, beq_iff_eq] at h1 h2 ⊢
    rcases h1 with h1 | ⟨rfl, h1⟩
    · rcases h2 with h2 | ⟨rfl, h2⟩
      · exact .inl (UInt8.lt_trans h1 h2)
      · exact .inl h1
    · rcases h2 with h2 | ⟨rfl, h2⟩
      · exact .inl h2
      · exact .inr ⟨rfl, bl_trans x y z h1 h2⟩
theorem bl_irrefl : ∀ x : List UInt8, Op.bytesLess x x = false
  | [] => rfl
  | a :: x => by
    unfold Op.bytesLess
    rw [bl_irrefl x]; simp
def sortedF (l : List S45) : Prop := l.Pairwise (fun a b => Op.bytesLess a.f0.toList b.f0.toList = true)
def goodF (f : S45) : Prop := (1 ≤ f.f0.size ∧ f.f0.size ≤ 8) ∧ f.f1.size ≤ 30 ∧ 0 ≤ f.f2 ∧ f.f2 ≤ (f.f1.size : Int)
def ltF (n : ByteArray) (x : S45) : Bool := Op.bytesLess x.f0.toList n.toList
def gtF (n : ByteArray) (x : S45) : Bool := Op.bytesLess n.toList x.f0.toList
theorem filters_len (n : ByteArray) (l : List S45) : (l.filter (ltF n)).length + (l.filter (gtF n)).length ≤ l.length := by
  induction l with
  | nil => simp
  | cons x l ih =>
    have hx : ¬ (ltF n x = true ∧ gtF n x = true) := fun h => by
      have := bl_trans _ _ _ h.1 h.2
      rw [bl_irrefl] at this; simp at this
    by_cases c1 : ltF n x = true <;> by_cases c2 : gtF n x = true
    · exact absurd ⟨c1, c2⟩ hx
    all_goals simp only [List.filter_cons, c1, c2, if_true, List.length_cons]; simp at *; omega
def putF (l : List S45) (f : S45) : List S45 := (l.filter (ltF f.f0) ++ [f]) ++ l.filter (gtF f.f0)
theorem putF_len (l : List S45) (f : S45) : (putF l f).length ≤ l.length + 1 := by
  have := filters_len f.f0 l
  unfold putF
  rw [List.length_append, List.length_append, List.length_singleton]; omega
theorem putF_sorted {l : List S45} (h : sortedF l) (f : S45) : sortedF (putF l f) := by
  unfold putF sortedF at *
  have h1 : ∀ a ∈ l.filter (ltF f.f0), Op.bytesLess a.f0.toList f.f0.toList = true := fun a ha => (List.mem_filter.1 ha).2
  have h2 : ∀ a ∈ l.filter (gtF f.f0), Op.bytesLess f.f0.toList a.f0.toList = true := fun a ha => (List.mem_filter.1 ha).2
  refine List.pairwise_append.2 ⟨List.pairwise_append.2 ⟨h.filter _, by simp, fun a ha b hb => ?_⟩, h.filter _, fun a ha b hb => ?_⟩
  · rw [List.mem_singleton.1 hb]; exact h1 a ha
  · rcases List.mem_append.1 ha with ha | ha
    · exact bl_trans _ _ _ (h1 a ha) (h2 b hb)
    · rw [List.mem_singleton.1 ha]; exact h2 b hb
theorem putF_good {l : List S45} (h : ∀ x ∈ l, goodF x) {f : S45} (hf : goodF f) : ∀ x ∈ putF l f, goodF x := by
  intro x hx
  unfold putF at hx
  rcases List.mem_append.1 hx with hx | hx
  · rcases List.mem_append.1 hx with hx | hx
    · exact h x (List.mem_filter.1 hx).1
    · rw [List.mem_singleton.1 hx]; exact hf
  · exact h x (List.mem_filter.1 hx).1
theorem put_l1 (l : List S45) (f : S45) (hn : l.length ≤ 100) (d : Nat) :
    ∀ (i : Nat) (acc : List S45), i + d = l.length → acc.length ≤ 1000 + i → Ev (fun k => spec_l03Put.l1 k (i : Int) l f.f0 f.f1 f.f2 acc) (acc ++ (l.drop i).filter (gtF f.f0)) := by
  induction d with
  | zero =>
    intro i acc hi _
    refine Ev.step (fun _ => spec_l03Put.l1.eq_2 ..) (Ev.neg (by omega) (Ev.some ?_))
    rw [List.drop_eq_nil_of_le (by omega)]; simp
  | succ d ih =>
    intro i acc hi ha
    refine Ev.step (fun _ => spec_l03Put.l1.eq_2 ..) (Ev.pos (by omega) (Ev.pos (by omega) ?_))
    rw [List.drop_eq_getElem_cons (show i < l.length by omega), w64_succ i (by omega), rdF_nat l i (by omega)]
    refine Ev.ite (fun c => ?_) (fun c => ?_)
    · refine Ev.pos (by omega) (Ev.eq (ih (i + 1) _ (by omega) (by simp; omega)) ?_)
      rw [List.filter_cons_of_pos (by exact c), List.append_assoc]; rfl
    · refine Ev.eq (ih (i + 1) _ (by omega) (by omega)) ?_
      rw [List.filter_cons_of_neg (by exact c)]
theorem put_l0 (l : List S45) (f : S45) (hn : l.length ≤ 100) (d : Nat) :
    ∀ (i : Nat) (acc : List S45), i + d = l.length → acc.length ≤ i → Ev (fun k => spec_l03Put.l0 k (i : Int) l f.f0 f.f1 f.f2 acc) (((acc ++ (l.drop i).filter (ltF f.f0)) ++ [f]) ++ l.filter (gtF f.f0)) := by
  induction d with
  | zero =>
    intro i acc hi ha
    refine Ev.step (fun _ => spec_l03Put.l0.eq_2 ..) (Ev.neg (by omega) (Ev.pos (by omega) ?_))
    rw [List.drop_eq_nil_of_le (by omega)]
    have := put_l1 l f hn l.length 0 (acc ++ [f]) (by omega) (by simp; omega)
    simpa using this
  | succ d ih =>
    intro i acc hi ha
    refine Ev.step (fun _ => spec_l03Put.l0.eq_2 ..) (Ev.pos (by omega) (Ev.pos (by omega) ?_))
    rw [List.drop_eq_getElem_cons (show i < l.length by omega), w64_succ i (by omega), rdF_nat l i (by omega)]
    refine Ev.ite (fun c => ?_) (fun c => ?_)
    · refine Ev.pos (by omega) (Ev.eq (ih (i + 1) _ (by omega) (by simp; omega)) ?_)
      rw [List.filter_cons_of_pos (by exact c)]; simp
    · refine Ev.eq (ih (i + 1) _ (by omega) (by omega)) ?_
      rw [List.filter_cons_of_neg (by exact c)]
theorem put_ev (l : List S45) (f : S45) (hn : l.length ≤ 100) : Ev (fun k => spec_l03Put.f k l f.f0 f.f1 f.f2) (putF l f) := by
  have := put_l0 l f hn l.length 0 [] (by omega) (by simp)
  exact Ev.congr (fun _ => spec_l03Put.f.eq_1 ..) (by simpa [putF] using this)
theorem named_ok (l : List Int) (i h : Int) (hi : 0 ≤ i) (hl : l.length ≤ 140737488355328) :
    ∃ r i' h', spec_l03Named.f l i h = some (r, i', h') ∧ 0 ≤ i' ∧ 1 ≤ r.size ∧ r.size ≤ 8 := by
  unfold spec_l03Named.f spec_l01Pick.f
  obtain ⟨b, i1, h1, e, hi1, b0, b1, _⟩ := below_ok l i h 8 hi hl
  have b1 := b1 (by omega)
  rw [show (([(⟨#[97]⟩ : ByteArray), (⟨#[98]⟩ : ByteArray), (⟨#[99]⟩ : ByteArray), (⟨#[106, 48]⟩ : ByteArray), (⟨#[106, 49]⟩ : ByteArray), (⟨#[106, 43]⟩ : ByteArray), (⟨#[115, 48]⟩ : ByteArray), (⟨#[115, 43]⟩ : ByteArray)] : List ByteArray).length : Int) = 8 from rfl, e]
  simp only [Option.bind_some]
  rw [if_pos b0, if_pos b1]
  refine ⟨_, _, _, rfl, hi1, ?_⟩
  dsimp only
  have : b = 0 ∨ b = 1 ∨ b = 2 ∨ b = 3 ∨ b = 4 ∨ b = 5 ∨ b = 6 ∨ b = 7 := by omega
  rcases this with rfl | rfl | rfl | rfl | rfl | rfl | rfl | rfl <;> exact ⟨by decide, by decide⟩
theorem rightDisk_l0 (l : List Int) (hl : l.length ≤ 140737488355328) (d : Nat) :
    ∀ (j : Nat) (acc : List S45) (i h : Int), j + d = 6 → acc.length ≤ j → sortedF acc → (∀ x ∈ acc, goodF x) → 0 ≤ i →
      ∃ r, Ev (fun k => spec_DrawRightDisk.l0 k (j : Int) l i h acc) r ∧ r.length ≤ 6 ∧ sortedF r ∧ ∀ x ∈ r, goodF x := by
  induction d with
  | zero =>
    intro j acc i h hj ha hs hg hi
    obtain ⟨b, i1, h1, e, hi1, b0, b1, _⟩ := below_ok l i h 6 hi hl
    exact ⟨acc, Ev.step (fun _ => spec_DrawRightDisk.l0.eq_2 ..) (Ev.call e (Ev.neg (by have := b1 (by omega); omega) (Ev.now _))), by omega, hs, hg⟩
  | succ d ih =>
    intro j acc i h hj ha hs hg hi
    obtain ⟨b, i1, h1, e, hi1, b0, b1, _⟩ := below_ok l i h 6 hi hl
    by_cases c : (j : Int) < b
    · obtain ⟨n, i2, h2, e2, hi2, n0, n1, _⟩ := below_ok l i1 h1 30 hi1 hl
      have n1 := n1 (by omega)
      obtain ⟨t, i3, h3, e3, hi3, ht⟩ := text_ok l hl i2 h2 n hi2 (by omega)
      obtain ⟨m, i4, h4, e4, hi4, m1, m2⟩ := named_ok l i3 h3 hi3 hl
      obtain ⟨q, i5, h5, e5, hi5, q0, q1, _⟩ := below_ok l i4 h4 ((t.size : Int) + 1) hi4 hl
      have q1 := q1 (by omega)
      have hf : goodF ⟨m, t, q⟩ := ⟨⟨m1, m2⟩, by show t.size ≤ 30; omega, q0, by show q ≤ (t.size : Int); omega⟩
      obtain ⟨r, er, hr⟩ := ih (j + 1) (putF acc ⟨m, t, q⟩) i5 h5 (by omega) (by have := putF_len acc ⟨m, t, q⟩; omega) (putF_sorted hs _) (putF_good hg hf) hi5
      refine ⟨r, Ev.step (fun _ => spec_DrawRightDisk.l0.eq_2 ..) (Ev.call e (Ev.pos c (Ev.call e2 (Ev.bind e3 (Ev.call e4 ?_))))), hr⟩
      rw [w64 (n := (t.size : Int) + 1) (by omega) (by omega), w64_succ j (by omega)]
      exact Ev.call e5 (Ev.bind (put_ev acc ⟨m, t, q⟩ (by omega)) er)
    · exact ⟨acc, Ev.step (fun _ => spec_DrawRightDisk.l0.eq_2 ..) (Ev.call e (Ev.neg c (Ev.now _))), by omega, hs, hg⟩
theorem diskB_of {r : List S45} (hl : r.length ≤ 30) (hs : sortedF r) (hg : ∀ x ∈ r, goodF x) : diskB r = true := by
  unfold diskB
  rw [decide_eq_true hl, Bool.and_true]
  refine (allFrom_iff r r.length 0).2 fun j hj => ?_
  rw [Nat.zero_add]
  have h := hg _ (List.getElem_mem (by omega : j < r.length))
  unfold okAt
  rw [rdF_nat r j hj]
  refine ⟨⟨by have := h.1.1; omega, by have := h.1.2; omega⟩, by have := h.2.1; omega, h.2.2, fun h0 => ?_⟩
  rw [show ((j : Int) - 1) = ((j - 1 : Nat) : Int) from by omega, rdF_nat r (j - 1) (by omega)]
  exact List.pairwise_iff_getElem.1 hs (j - 1) j (by omega) hj (by omega)
theorem rightDisk_ok (l : List Int) (hl : l.length ≤ 140737488355328) : ∃ r, Ev (fun k => spec_DrawRightDisk.f k l) r ∧ r.length ≤ 6 ∧ sortedF r ∧ ∀ x ∈ r, goodF x := by
  obtain ⟨h, e⟩ := new_ok l hl
  obtain ⟨r, er, hr⟩ := rightDisk_l0 l hl 6 0 [] 0 h (by omega) (by simp) List.Pairwise.nil (by simp) (by omega)
  exact ⟨r, Ev.congr (fun _ => spec_DrawRightDisk.f.eq_1 ..) (Ev.bind e er), hr⟩
theorem leftN_range {left : List Int} {fs : List S45} (h : diskB fs = true) (i : Nat) (hi : i < fs.length) :
    (0 ≤ (rd_T45 fs (i : Int)).f2 ∧ (rd_T45 fs (i : Int)).f2 ≤ leftN left fs i) ∧ leftN left fs i ≤ ((rd_T45 fs (i : Int)).f1.size : Int) := by
  have hk := diskB_kept h i hi
  unfold leftN mx mn
  split <;> (try split) <;> (try split) <;> omega
theorem rdLose (left : List Int) (fs : List S45) (i : Nat) (hi : i < fs.length) : rd_T45 (loseL left fs) (i : Int) = lostF (rd_T45 fs (i : Int)) (leftN left fs i) := by
  rw [rdF_nat _ i (by rw [loseL_length]; exact hi), loseL_get]
theorem cut_size (t : ByteArray) (n : Nat) (h : n ≤ t.size) : (t.extract 0 n).size = n := by
  rw [ByteArray.size_extract]; omega
theorem lose_ok {left : List Int} {fs : List S45} (h : diskB fs = true) : diskB (loseL left fs) = true := by
  obtain ⟨ho, hl⟩ := diskB_ok fs h
  unfold diskB
  rw [loseL_length, decide_eq_true hl, Bool.and_true]
  refine (allFrom_iff _ _ 0).2 fun j hj => ?_
  rw [Nat.zero_add]
  have o := ho j hj
  have r := leftN_range (left := left) h j hj
  unfold okAt at o ⊢
  rw [rdLose left fs j hj]
  have hz : (lostF (rd_T45 fs (j : Int)) (leftN left fs j)).f1.size = (leftN left fs j).toNat := cut_size _ _ (by omega)
  refine ⟨o.1, by rw [hz]; have := o.2.1; omega, ⟨by show 0 ≤ leftN left fs j; omega, by rw [hz]; show leftN left fs j ≤ _; omega⟩, fun h0 => ?_⟩
  have e : ((j : Int) - 1) = ((j - 1 : Nat) : Int) := by omega
  have o4 := o.2.2.2 h0
  rw [e] at o4 ⊢
  rw [rdLose left fs (j - 1) (by omega)]
  exact o4
theorem lose_kept {left : List Int} {fs : List S45} (h : diskB fs = true) (d : Nat) : ∀ i : Nat, i + d = fs.length → keptFrom (loseL left fs) d i = true := by
  induction d with
  | zero => intro i _; rfl
  | succ d ih =>
    intro i hi
    unfold keptFrom
    have r := leftN_range (left := left) h i (by omega)
    rw [rdLose left fs i (by omega), ih (i + 1) (by omega), Bool.and_true, decide_eq_true_iff]
    have hz : (lostF (rd_T45 fs (i : Int)) (leftN left fs i)).f1.size = (leftN left fs i).toNat := cut_size _ _ (by omega)
    rw [hz]
    show leftN left fs i = _
    omega
theorem lose_again {left : List Int} {fs : List S45} (h : diskB fs = true) : loseL [] (loseL left fs) = loseL left fs := by
  refine List.ext_getElem (by rw [loseL_length]) fun i h1 h2 => ?_
  have hi : i < fs.length := by rw [loseL_length] at h2; exact h2
  have r := leftN_range (left := left) h i hi
  rw [loseL_get, rdLose left fs i hi, loseL_get]
  have e : leftN [] (loseL left fs) i = leftN left fs i := by
    show (if (i : Int) < (([] : List Int).length : Int) then _ else _) = _
    rw [if_neg (by simp), rdLose left fs i hi]; rfl
  rw [e]
  have hz : ((rd_T45 fs (i : Int)).f1.extract 0 (leftN left fs i).toNat).size = (leftN left fs i).toNat := cut_size _ _ (by omega)
  show (⟨_, ((rd_T45 fs (i : Int)).f1.extract 0 (leftN left fs i).toNat).extract 0 (leftN left fs i).toNat, _⟩ : S45) = ⟨_, _, _⟩
  conv => lhs; arg 2; arg 3; rw [← hz]
  rw [ByteArray.extract_zero_size]
  rfl
theorem sameDisk_l0 (a : List S45) (hn : a.length ≤ 140737488355328) (d : Nat) : ∀ i : Nat, i + d = a.length → Ev (fun k => laws_sameDisk.l0 k (i : Int) a a) true := by
  induction d with
  | zero => intro i hi; exact Ev.step (fun _ => laws_sameDisk.l0.eq_2 ..) (Ev.neg (by omega) (Ev.now _))
  | succ d ih =>
    intro i hi
    refine Ev.step (fun _ => laws_sameDisk.l0.eq_2 ..) (Ev.pos (by omega) (Ev.pos (by omega) (Ev.pos (by omega) (Ev.neg (by simp) ?_))))
    rw [w64_succ i (by omega)]; exact ih (i + 1) (by omega)
theorem sameDisk_self (a : List S45) (hn : a.length ≤ 140737488355328) : Ev (fun k => laws_sameDisk.f k a a) true :=
  Ev.congr (fun _ => laws_sameDisk.f.eq_1 ..) (Ev.pos rfl (sameDisk_l0 a hn a.length 0 (by omega)))
theorem begins_true (a b : ByteArray) (h : a.size ≤ b.size) (e : b.extract 0 a.size = a) : laws_begins.f a b = some true := by
  unfold laws_begins.f
  rw [if_pos (by omega), if_pos (by omega), Int.toNat_natCast, e]; simp
theorem lefts_l0 (p : List Int) (hp : p.length = 12) (d : Nat) : ∀ (i : Nat) (acc : List Int), i + d = 6 → acc.length = i → ∃ r, Ev (fun k => laws_lefts.l0 k p acc (i : Int)) r := by
  induction d with
  | zero => intro i acc hi _; exact ⟨_, Ev.step (fun _ => laws_lefts.l0.eq_2 ..) (Ev.neg (by omega) (Ev.now _))⟩
  | succ d ih =>
    intro i acc hi ha
    obtain ⟨r, er⟩ := ih (i + 1) (acc ++ [Int.tmod (rd p (i : Int)) 300]) (by omega) (by simp; omega)
    refine ⟨r, Ev.step (fun _ => laws_lefts.l0.eq_2 ..) (Ev.pos (by omega) (Ev.pos (by omega) (Ev.pos (by omega) (Ev.pos (by omega) ?_))))⟩
    rw [w64_succ i (by omega)]; exact er
theorem keeps_l0 (left : List Int) (fs : List S45) (h : diskB fs = true) (d : Nat) : ∀ i : Nat, i + d = fs.length → Ev (fun k => laws_FnKeeps.l0 k (i : Int) fs (loseL left fs)) true := by
  have hl := (diskB_ok fs h).2
  induction d with
  | zero => intro i hi; exact Ev.step (fun _ => laws_FnKeeps.l0.eq_2 ..) (Ev.neg (by omega) (Ev.now _))
  | succ d ih =>
    intro i hi
    have r := leftN_range (left := left) h i (by omega)
    have hz : ((rd_T45 fs (i : Int)).f1.extract 0 (leftN left fs i).toNat).size = (leftN left fs i).toNat := cut_size _ _ (by omega)
    refine Ev.step (fun _ => laws_FnKeeps.l0.eq_2 ..) (Ev.pos (by omega) (Ev.pos (by omega) (Ev.pos (by rw [loseL_length]; omega) ?_)))
    rw [rdLose left fs i (by omega), w64_succ i (by omega)]
    refine Ev.pos rfl (Ev.call (begins_true _ _ ?_ ?_) (Ev.pos rfl (Ev.pos r.1.1 (Ev.pos (by omega) (Ev.call (begins_true _ _ ?_ ?_) (Ev.pos rfl (ih (i + 1) (by omega))))))))
    · show ((rd_T45 fs (i : Int)).f1.extract 0 (leftN left fs i).toNat).size ≤ _
      rw [hz]; omega
    · show (rd_T45 fs (i : Int)).f1.extract 0 ((rd_T45 fs (i : Int)).f1.extract 0 (leftN left fs i).toNat).size = _
      rw [hz]; rfl
    · show _ ≤ ((rd_T45 fs (i : Int)).f1.extract 0 (leftN left fs i).toNat).size
      rw [hz, cut_size _ _ (by omega)]; omega
    · show ((rd_T45 fs (i : Int)).f1.extract 0 (leftN left fs i).toNat).extract 0 _ = _
      rw [cut_size _ _ (by omega), ByteArray.extract_extract]
      congr 1; omega
theorem FnKeeps : laws_FnKeeps.Pure := by
  intro code hm _ _
  apply Ev.rounds
  refine Ev.congr (fun _ => laws_FnKeeps.f.eq_1 ..) (Ev.call (big_eq code) ?_)
  by_cases hbig : (code.length : Int) > 1048576
  · exact Ev.pos (by rw [decide_eq_true hbig]) (Ev.now _)
  refine Ev.neg (by rw [decide_eq_false hbig]; simp) ?_
  obtain ⟨fs, ef, hl, hs, hg⟩ := rightDisk_ok code (by omega)
  obtain ⟨p, ep, hp, _⟩ := places_ok code (by omega)
  obtain ⟨left, el⟩ := lefts_l0 p hp 6 0 [] (by omega) rfl
  have hd := diskB_of (by omega) hs hg
  have hd2 := lose_ok (left := left) hd
  have h1 : loseM left fs = (loseL left fs, true) := if_pos hd
  have h2 : loseM [] (loseL left fs) = (loseL left fs, true) := (if_pos hd2).trans (by rw [lose_again hd])
  have hll := loseL_length left fs
  refine Ev.bind ef (Ev.bind ep (Ev.bind (Ev.congr (fun _ => laws_lefts.f.eq_1 ..) el) (Ev.bind (Ev.eq (implLoseDisk_ev left fs (by omega)) h1) (Ev.bind (Ev.eq (implLoseDisk_ev [] (loseL left fs) (by omega)) h2) ?_))))
  refine Ev.pos rfl (Ev.pos rfl (Ev.pos (by rw [hll]) (Ev.bind (sameDisk_self (loseL left fs) (by omega)) (Ev.pos rfl (Ev.bind (Ev.eq (implAllKept_ev (loseL left fs) (by omega)) ?_) (Ev.pos rfl (Ev.bind (Ev.eq (implDiskOk_ev fs (by omega)) hd) ?_)))))))
  · rw [hd2, Bool.and_true, hll]; exact lose_kept hd fs.length 0 (by omega)
  exact Ev.step (fun _ => laws_FnKeeps.j0.eq_2 ..) (Ev.neg (by simp) (keeps_l0 left fs hd fs.length 0 (by omega)))

end Go.Proofs.Ythfppepnpngfmaa.Pure
