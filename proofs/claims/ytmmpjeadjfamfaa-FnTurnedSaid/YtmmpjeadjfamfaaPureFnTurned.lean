/- FnTurned returns true for all arguments: a drawn text whose one byte is another is not Unsealed; it is Unsealed as it was sealed; SumMore goes on. No conditions beyond the statement's own. -/
import Derived.Test.YtmmpjeadjfamfaaQftx3
import Derived.Test.YtmmpjeadjfamfaaBase
namespace Go.Proofs.Ytmmpjeadjfamfaa.Pure
open Go.RowKit Go.Proofs.Ytmmpjeadjfamfaa.Qft Go.Proofs.YtmmpjeadjfamfaaW.PrintWords Go.Proofs.YtmmpjeadjfamfaaW.PrintLast Go.Proofs.YtmmpjeadjfamfaaW.PrintMore Go.Proofs.Ytmmpjeadjfamfaa.Base

theorem byte_ok (l : List Int) (i h : Int) (hi : 0 ≤ i) (hl : l.length ≤ 140737488355328) :
    ∃ r i' h', spec_l01Byte.f l i h = some (r, i', h') ∧ 0 ≤ r ∧ r ≤ 255 ∧ 0 ≤ i' := by
  unfold spec_l01Byte.f
  by_cases c : i < (l.length : Int)
  · rw [if_pos c, if_pos hi]
    exact ⟨_, _, _, rfl, (and255 _).1, (and255 _).2, by rw [w64 (by omega) (by omega)]; omega⟩
  · rw [if_neg c]
    exact ⟨_, _, _, rfl, (and255 _).1, (and255 _).2, hi⟩
theorem below_ok (l : List Int) (i h n : Int) (hi : 0 ≤ i) (hl : l.length ≤ 140737488355328) :
    ∃ r i' h', spec_l01Below.f l i h n = some (r, i', h') ∧ 0 ≤ i' ∧ 0 ≤ r ∧ (0 < n → r < n) ∧ (n ≤ 0 → r = 0) := by
  unfold spec_l01Below.f
  by_cases c : n ≤ 0
  · rw [if_pos c]; exact ⟨_, _, _, rfl, hi, by omega, by omega, fun _ => rfl⟩
  · rw [if_neg c]
    by_cases c2 : n ≤ 256
    · rw [if_pos c2]
      obtain ⟨r, i1, h1, e, r0, r1, hi1⟩ := byte_ok l i h hi hl
      rw [e, Option.bind_some, if_neg (by omega)]
      have := tmod_in r n r0 (by omega)
      exact ⟨_, _, _, rfl, hi1, this.1, fun _ => this.2, by omega⟩
    · rw [if_neg c2]
      obtain ⟨x, i1, h1, e1, x0, x1, hi1⟩ := byte_ok l i h hi hl
      obtain ⟨y, i2, h2, e2, y0, y1, hi2⟩ := byte_ok l i1 h1 hi1 hl
      obtain ⟨z, i3, h3, e3, z0, z1, hi3⟩ := byte_ok l i2 h2 hi2 hl
      obtain ⟨w, i4, h4, e4, w0, w1, hi4⟩ := byte_ok l i3 h3 hi3 hl
      rw [e1, Option.bind_some, e2, Option.bind_some, e3, Option.bind_some, e4, Option.bind_some, if_neg (by omega)]
      have q1 : wrap64 (x * 16777216) = x * 16777216 := w64 (by omega) (by omega)
      have q2 : wrap64 (y * 65536) = y * 65536 := w64 (by omega) (by omega)
      have q3 : wrap64 (z * 256) = z * 256 := w64 (by omega) (by omega)
      simp only [q1, q2, q3]
      rw [w64 (n := x * 16777216 + y * 65536) (by omega) (by omega), w64 (n := x * 16777216 + y * 65536 + z * 256) (by omega) (by omega), w64 (n := x * 16777216 + y * 65536 + z * 256 + w) (by omega) (by omega)]
      have := tmod_in (x * 16777216 + y * 65536 + z * 256 + w) n (by omega) (by omega)
      exact ⟨_, _, _, rfl, hi4, this.1, fun _ => this.2, by omega⟩
theorem new_l0 (l : List Int) (d : Nat) :
    ∀ (j : Nat) (x : Int), j + d = l.length → ∃ h, Ev (fun k => spec_l01New.l0 k l x (j : Int)) (l, 0, h) := by
  induction d with
  | zero => intro j x hj; exact ⟨x, Ev.step (fun _ => spec_l01New.l0.eq_2 ..) (Ev.neg (by omega) (Ev.now _))⟩
  | succ d ih =>
    intro j x hj
    by_cases c : (j : Int) < 4000
    · obtain ⟨h, e⟩ := ih (j + 1) (Go.bits .and .i64 (wrap64 ((wrap64 ((wrap64 (x * 131)) + (wrap64 (rd l j)))) + 7)) 1073741823) (by omega)
      refine ⟨h, Ev.step (fun _ => spec_l01New.l0.eq_2 ..) (Ev.pos (by omega) (Ev.pos c (Ev.pos (by omega) ?_)))⟩
      rw [w64_succ j (by omega)]
      exact e
    · exact ⟨x, Ev.step (fun _ => spec_l01New.l0.eq_2 ..) (Ev.pos (by omega) (Ev.neg c (Ev.now _)))⟩
theorem new_ok (l : List Int) (_hl : l.length ≤ 140737488355328) : ∃ h, Ev (fun k => spec_l01New.f k l) (l, 0, h) := by
  obtain ⟨h, e⟩ := new_l0 l l.length 0 (wrap64 (34901 + (l.length : Int))) (by omega)
  exact ⟨h, Ev.congr (fun _ => spec_l01New.f.eq_1 ..) e⟩
theorem big_eq (l : List Int) : laws_big.f l = some (decide ((l.length : Int) > 1048576)) := rfl
theorem places_l0 (l : List Int) (hl : l.length ≤ 140737488355328) (d : Nat) :
    ∀ (j : Nat) (acc : List Int) (i h : Int), j + d = 12 → acc.length = j → (∀ x ∈ acc, 0 ≤ x ∧ x < 10000) → 0 ≤ i →
      ∃ r, Ev (fun k => spec_DrawPlaces.l0 k acc (j : Int) l i h) r ∧ r.length = 12 ∧ ∀ x ∈ r, 0 ≤ x ∧ x < 10000 := by
  induction d with
  | zero =>
    intro j acc i h hj hc ha hi
    exact ⟨acc, Ev.step (fun _ => spec_DrawPlaces.l0.eq_2 ..) (Ev.neg (by omega) (Ev.now _)), by omega, ha⟩
  | succ d ih =>
    intro j acc i h hj hc ha hi
    obtain ⟨b, i1, h1, e, hi1, b0, b1, _⟩ := below_ok l i h 10000 hi hl
    obtain ⟨r, er, hr⟩ := ih (j + 1) (acc ++ [b]) i1 h1 (by omega) (by simp; omega) (by
      intro x hx
      rcases List.mem_append.1 hx with hx | hx
      · exact ha x hx
      · obtain rfl := List.mem_singleton.1 hx; exact ⟨b0, b1 (by omega)⟩) hi1
    refine ⟨r, Ev.step (fun _ => spec_DrawPlaces.l0.eq_2 ..) (Ev.pos (by omega) (Ev.call e (Ev.pos (by omega) ?_))), hr⟩
    rw [w64_succ j (by omega)]
    exact er
theorem places_ok (l : List Int) (hl : l.length ≤ 140737488355328) : ∃ r, Ev (fun k => spec_DrawPlaces.f k l) r ∧ r.length = 12 ∧ ∀ x ∈ r, 0 ≤ x ∧ x < 10000 := by
  obtain ⟨h, e⟩ := new_ok l hl
  obtain ⟨b, i1, h1, e1, _, _, hi1⟩ := byte_ok l 0 h (by omega) hl
  obtain ⟨r, er, hr⟩ := places_l0 l hl 12 0 [] i1 h1 (by omega) rfl (by simp) hi1
  exact ⟨r, Ev.congr (fun _ => spec_DrawPlaces.f.eq_1 ..) (Ev.bind e (Ev.call e1 er)), hr⟩
theorem text_l0 (l : List Int) (hl : l.length ≤ 140737488355328) (n : Nat) (hn : n ≤ 5000) (d : Nat) :
    ∀ (j : Nat) (acc : List Int) (i h : Int), j + d = n → acc.length = j → 0 ≤ i →
      ∃ r i' h', Ev (fun k => spec_l01Text.l0 k (n : Int) acc (j : Int) l i h) (r, i', h') ∧ 0 ≤ i' ∧ r.size = n := by
  induction d with
  | zero =>
    intro j acc i h hj hc hi
    exact ⟨_, _, _, Ev.step (fun _ => spec_l01Text.l0.eq_2 ..) (Ev.neg (by omega) (Ev.now _)), hi, by rw [strOfNums_size]; omega⟩
  | succ d ih =>
    intro j acc i h hj hc hi
    obtain ⟨b, i1, h1, e, _, _, hi1⟩ := byte_ok l i h hi hl
    obtain ⟨r, i2, h2, er, hi2, hr⟩ := ih (j + 1) (acc ++ [b % 256]) i1 h1 (by omega) (by simp; omega) hi1
    refine ⟨r, i2, h2, Ev.step (fun _ => spec_l01Text.l0.eq_2 ..) (Ev.pos (by omega) (Ev.call e (Ev.pos (by omega) ?_))), hi2, hr⟩
    rw [w64_succ j (by omega)]
    exact er
theorem text_ok (l : List Int) (hl : l.length ≤ 140737488355328) (i h n : Int) (hi : 0 ≤ i) (hn : 0 ≤ n ∧ n ≤ 5000) :
    ∃ r i' h', Ev (fun k => spec_l01Text.f k l i h n) (r, i', h') ∧ 0 ≤ i' ∧ (r.size : Int) = n := by
  obtain ⟨m, rfl⟩ := Int.eq_ofNat_of_zero_le hn.1
  obtain ⟨r, i', h', e, a, b⟩ := text_l0 l hl m (by omega) m 0 [] i h (by omega) rfl hi
  exact ⟨r, i', h', Ev.congr (fun _ => spec_l01Text.f.eq_1 ..) (Ev.neg (by omega) (Ev.step (fun _ => spec_l01Text.j0.eq_2 ..) e)), a, by omega⟩
theorem implSumMore_l1 (t : ByteArray) (ht : t.size ≤ 140737488355328) (i : Nat) (hi : i < t.size) (r : Int) (d : Nat) :
    ∀ (j : Nat) (s : Int), j + d = 8 → Ev (fun k => impl_SumMore.l0 k (crcRounds d s) t ((i + 1 : Nat) : Int)) r → Ev (fun k => impl_SumMore.l1 k s t (i : Int) (j : Int)) r := by
  induction d with
  | zero =>
    intro j s hj h
    refine Ev.step (fun _ => impl_SumMore.l1.eq_2 ..) (Ev.neg (by omega) ?_)
    rw [w64_succ i (by omega)]
    exact h
  | succ d ih =>
    intro j s hj h
    refine Ev.step (fun _ => impl_SumMore.l1.eq_2 ..) (Ev.pos (by omega) ?_)
    rw [w64_succ j (by omega)]
    rw [crcRounds] at h
    unfold crcRound at h
    refine Ev.ite (fun hc => ?_) (fun hc => ?_)
    · rw [if_pos hc] at h; exact ih (j + 1) _ (by omega) h
    · rw [if_neg hc] at h; exact ih (j + 1) _ (by omega) h
theorem implSumMore_l0 (t : ByteArray) (ht : t.size ≤ 140737488355328) (d : Nat) :
    ∀ (i : Nat) (s : Int), i + d = t.size → Ev (fun k => impl_SumMore.l0 k s t (i : Int)) (crcList s ((bytesOf t).drop i)) := by
  induction d with
  | zero =>
    intro i s hi
    refine Ev.step (fun _ => impl_SumMore.l0.eq_2 ..) (Ev.neg (by omega) (Ev.some ?_))
    rw [List.drop_eq_nil_of_le (by rw [bytesOf_length]; omega)]; rfl
  | succ d ih =>
    intro i s hi
    refine Ev.step (fun _ => impl_SumMore.l0.eq_2 ..) (Ev.pos (by omega) (Ev.pos (by omega) ?_))
    refine implSumMore_l1 t ht i (by omega) _ 8 0 _ (by omega) ?_
    refine Ev.eq (ih (i + 1) _ (by omega)) ?_
    rw [bytesOf_drop t i (by omega)]; rfl
theorem implSumMore_ev (s : Int) (t : ByteArray) (ht : t.size ≤ 140737488355328) : Ev (fun k => impl_SumMore.f k s t) (crcList s (bytesOf t)) :=
  implSumMore_l0 t ht t.size 0 s (by omega)
theorem implSumOf_ev (t : ByteArray) (ht : t.size ≤ 140737488355328) : Ev (fun k => impl_SumOf.f k t) (crcList 4294967295 (bytesOf t)) :=
  Ev.congr (fun _ => impl_SumOf.f.eq_1 ..) (Ev.bind (implSumMore_ev _ t ht) (Ev.now _))
/-- Four bytes, the highest first. -/
def four (x : Int) : List Int := [x / 16777216 % 256, x / 65536 % 256, x / 256 % 256, x % 256]
def sumM (t : ByteArray) : Int := crcList 4294967295 (bytesOf t)
theorem crcRound_range (s : Int) : 0 ≤ crcRound s ∧ crcRound s < 4294967296 := by
  unfold crcRound
  split
  · exact xor32_range _ _
  · omega
theorem crcRounds_range (n : Nat) : ∀ s : Int, 0 ≤ s ∧ s < 4294967296 → 0 ≤ crcRounds n s ∧ crcRounds n s < 4294967296 := by
  induction n with
  | zero => intro s h; exact h
  | succ n ih => intro s _; exact ih _ (crcRound_range s)
theorem crcList_range (l : List Int) : ∀ s : Int, 0 ≤ s ∧ s < 4294967296 → 0 ≤ crcList s l ∧ crcList s l < 4294967296 := by
  induction l with
  | nil => intro s h; exact h
  | cons b l ih => intro s _; exact ih _ (crcRounds_range 8 _ (xor32_range _ _))
theorem sumM_range (t : ByteArray) : 0 ≤ sumM t ∧ sumM t < 4294967296 := crcList_range _ _ (by omega)
theorem highFirst_ev (x : Int) : Ev (fun k => impl_highFirst.f k x 4) (strOfNums (four x)) := by
  refine Ev.congr (fun _ => impl_highFirst.f.eq_1 ..) (Ev.pos (by omega) (Ev.pos (by decide) ?_))
  have go : ∀ y, Go.bits .and .i64 y 255 % 256 = y % 256 := fun y => by rw [and255_eq]; omega
  rw [show wrap64 ((4 : Int) - 1) = 3 from by unfold wrap64; omega]
  refine Ev.step (fun _ => impl_highFirst.l0.eq_2 ..) (Ev.pos (by omega) (Ev.pos (by omega) (Ev.pos (by decide) ?_)))
  rw [show wrap64 ((3 : Int) - 1) = 2 from by unfold wrap64; omega, go]
  refine Ev.step (fun _ => impl_highFirst.l0.eq_2 ..) (Ev.pos (by omega) (Ev.pos (by omega) (Ev.pos (by simp) ?_)))
  rw [show wrap64 ((2 : Int) - 1) = 1 from by unfold wrap64; omega, go]
  refine Ev.step (fun _ => impl_highFirst.l0.eq_2 ..) (Ev.pos (by omega) (Ev.pos (by omega) (Ev.pos (by simp) ?_)))
  rw [show wrap64 ((1 : Int) - 1) = 0 from by unfold wrap64; omega, go]
  refine Ev.step (fun _ => impl_highFirst.l0.eq_2 ..) (Ev.pos (by omega) (Ev.pos (by omega) (Ev.pos (by simp) ?_)))
  rw [show wrap64 ((0 : Int) - 1) = -1 from by unfold wrap64; omega, go]
  refine Ev.step (fun _ => impl_highFirst.l0.eq_2 ..) (Ev.neg (by omega) (Ev.some ?_))
  congr 1
  have e1 : x / 256 / 256 = x / 65536 := by omega
  have e2 : x / 256 / 256 / 256 = x / 16777216 := by omega
  show [x / 256 / 256 / 256 % 256, x / 256 / 256 % 256, x / 256 % 256, x % 256] = four x
  rw [e2, e1]; rfl
def sealedM (t : ByteArray) : ByteArray × Bool := if t.size ≤ 20000 then (t ++ strOfNums (four (sumM t)), true) else ((⟨#[]⟩ : ByteArray), false)
theorem implSealed_ev (t : ByteArray) : Ev (fun k => impl_Sealed.f k t) (sealedM t) := by
  refine Ev.congr (fun _ => impl_Sealed.f.eq_1 ..) ?_
  unfold sealedM
  by_cases h : t.size ≤ 20000
  · rw [if_pos h]
    have hr := sumM_range t
    refine Ev.neg (by omega) (Ev.bind (implSumOf_ev t (by omega)) ?_)
    rw [w64 (n := crcList 4294967295 (bytesOf t)) (by unfold sumM at hr; omega) (by unfold sumM at hr; omega)]
    refine Ev.bind (highFirst_ev _) (Ev.pos ?_ (Ev.now _))
    rw [strOfNums_size]
    show t.size + 4 ≤ _
    omega
  · rw [if_neg h]; exact Ev.pos (by omega) (Ev.now _)
theorem bytesOf_range (s : ByteArray) : ∀ x ∈ bytesOf s, 0 ≤ x ∧ x ≤ 255 := by
  intro x hx
  obtain ⟨b, _, rfl⟩ := List.mem_map.1 hx
  have := b.toNat_lt
  omega
theorem strOfNums_bytesOf (s : ByteArray) : strOfNums (bytesOf s) = s := by
  apply ByteArray.ext
  unfold strOfNums bytesOf
  rw [List.map_map, show ((fun n : Int => UInt8.ofNat n.toNat) ∘ fun b : UInt8 => (b.toNat : Int)) = id from by funext b; simp]
  simp
theorem bytesOf_strOfNums (l : List Int) (h : ∀ x ∈ l, 0 ≤ x ∧ x ≤ 255) : bytesOf (strOfNums l) = l := by
  unfold strOfNums bytesOf
  simp only [List.map_map]
  conv => rhs; rw [← List.map_id l]
  apply List.map_congr_left
  intro x hx
  have := h x hx
  show ((UInt8.ofNat x.toNat).toNat : Int) = x
  rw [UInt8.toNat_ofNat']
  omega
theorem strOfNums_eq (l : List Int) (s : ByteArray) (h : ∀ x ∈ l, 0 ≤ x ∧ x ≤ 255) : strOfNums l = s ↔ l = bytesOf s :=
  ⟨fun e => by rw [← e, bytesOf_strOfNums l h], fun e => by rw [e, strOfNums_bytesOf]⟩
theorem bytesOf_inj {s t : ByteArray} (h : bytesOf s = bytesOf t) : s = t := by
  rw [← strOfNums_bytesOf s, h, strOfNums_bytesOf]
theorem bytesOf_append (s t : ByteArray) : bytesOf (s ++ t) = bytesOf s ++ bytesOf t := by
  unfold bytesOf; simp
theorem bytesOf_extract (s : ByteArray) (a b : Nat) : bytesOf (s.extract a b) = ((bytesOf s).drop a).take (b - a) := by
  unfold bytesOf
  rw [ByteArray.data_extract]
  simp [List.extract_eq_take_drop, List.map_take, List.map_drop]
theorem append_right_inj (a b c : ByteArray) : a ++ b = a ++ c ↔ b = c := by
  constructor
  · intro h
    apply bytesOf_inj
    have := congrArg bytesOf h
    rw [bytesOf_append, bytesOf_append] at this
    exact List.append_cancel_left this
  · intro h; rw [h]
theorem append_left_inj (a b c : ByteArray) : a ++ c = b ++ c ↔ a = b := by
  constructor
  · intro h
    apply bytesOf_inj
    have := congrArg bytesOf h
    rw [bytesOf_append, bytesOf_append] at this
    exact List.append_cancel_right this
  · intro h; rw [h]
theorem extract_join (s : ByteArray) (a b c : Nat) (h1 : a ≤ b) (h2 : b ≤ c) : s.extract a b ++ s.extract b c = s.extract a c := by
  apply bytesOf_inj
  rw [bytesOf_append, bytesOf_extract, bytesOf_extract, bytesOf_extract]
  rw [show c - a = (b - a) + (c - b) from by omega, List.take_add, List.drop_drop, show a + (b - a) = b from by omega]
def unsealedM (t : ByteArray) : ByteArray × Bool :=
  if 4 ≤ t.size ∧ t.size ≤ 20004 ∧ t = t.extract 0 (t.size - 4) ++ strOfNums (four (sumM (t.extract 0 (t.size - 4)))) then (t.extract 0 (t.size - 4), true) else ((⟨#[]⟩ : ByteArray), false)
theorem split_at (t : ByteArray) (n : Nat) (h : n ≤ t.size) : t = t.extract 0 n ++ t.extract n t.size := by
  apply bytesOf_inj
  rw [bytesOf_append, bytesOf_extract, bytesOf_extract]
  have := bytesOf_length t
  rw [List.drop_zero, Nat.sub_zero, List.take_of_length_le (l := (bytesOf t).drop n) (by rw [List.length_drop]; omega), List.take_append_drop]
theorem extract_size' (t : ByteArray) (n : Nat) (h : n ≤ t.size) : (t.extract 0 n).size = n := by
  have := congrArg List.length (bytesOf_extract t 0 n)
  rw [bytesOf_length, List.length_take, List.length_drop, bytesOf_length] at this
  omega
theorem implUnsealed_ev (t : ByteArray) (ht : t.size ≤ 140737488355328) : Ev (fun k => impl_Unsealed.f k t) (unsealedM t) := by
  refine Ev.congr (fun _ => impl_Unsealed.f.eq_1 ..) ?_
  rw [w64 (n := (t.size : Int) - 4) (by omega) (by omega)]
  unfold unsealedM
  refine Ev.ite (fun h => ?_) (fun h => ?_)
  · rw [if_neg (by omega)]; exact Ev.now _
  have e : ((t.size : Int) - 4).toNat = t.size - 4 := by omega
  rw [e]
  refine Ev.pos (by omega) (Ev.pos (by omega) (Ev.bind (implSealed_ev _) ?_))
  unfold sealedM
  rw [extract_size' t _ (by omega)]
  by_cases h2 : t.size - 4 ≤ 20000
  · rw [if_pos h2]
    refine Ev.pos rfl (Ev.ite (fun hq => ?_) (fun hq => ?_))
    · rw [if_pos ⟨by omega, by omega, (toList_eq.1 hq).symm⟩]; exact Ev.now _
    · rw [if_neg (fun z => hq (toList_eq.2 z.2.2.symm))]; exact Ev.now _
  · rw [if_neg h2]
    exact Ev.neg (by simp) (Ev.some (if_neg (by omega)).symm)
def rN (s : Nat) : Nat := if s % 2 = 1 then (s / 2) ^^^ 3558460437 else s / 2
theorem xor_cancel {a b p : Nat} (h : a ^^^ p = b ^^^ p) : a = b := by
  have := congrArg (· ^^^ p) h
  simpa [Nat.xor_assoc] using this
theorem xor_high (a : Nat) (h : a < 2147483648) : 2147483648 ≤ a ^^^ 3558460437 := by
  have h1 : a.testBit 31 = false := Nat.testBit_lt_two_pow (by omega)
  have h2 : (a ^^^ 3558460437).testBit 31 = true := by rw [Nat.testBit_xor, h1]; decide
  exact Nat.ge_two_pow_of_testBit h2
theorem rN_inj {a b : Nat} (ha : a < 4294967296) (hb : b < 4294967296) (h : rN a = rN b) : a = b := by
  unfold rN at h
  have h1 := xor_high (a / 2) (by omega)
  have h2 := xor_high (b / 2) (by omega)
  by_cases ca : a % 2 = 1 <;> by_cases cb : b % 2 = 1
  · rw [if_pos ca, if_pos cb] at h
    have := xor_cancel h
    omega
  · rw [if_pos ca, if_neg cb] at h
    omega
  · rw [if_neg ca, if_pos cb] at h
    omega
  · rw [if_neg ca, if_neg cb] at h
    omega
theorem xor32_nat (a b : Nat) (ha : a < 4294967296) (hb : b < 4294967296) : Go.bits .xor .u32 (a : Int) (b : Int) = ((a ^^^ b : Nat) : Int) := by
  unfold Go.bits
  show IntKind.u32.wrap ((BitVec.ofInt 32 (a : Int) ^^^ BitVec.ofInt 32 (b : Int)).toNat : Int) = _
  have hx : a ^^^ b < 4294967296 := Nat.xor_lt_two_pow (n := 32) (by omega) (by omega)
  have e1 : (BitVec.ofInt 32 (a : Int)).toNat = a := by rw [BitVec.toNat_ofInt]; omega
  have e2 : (BitVec.ofInt 32 (b : Int)).toNat = b := by rw [BitVec.toNat_ofInt]; omega
  rw [BitVec.toNat_xor, e1, e2, IntKind.wrap_u32]
  omega
theorem xor8_nat (a b : Nat) (ha : a < 256) (hb : b < 256) : Go.bits .xor .u8 (a : Int) (b : Int) = ((a ^^^ b : Nat) : Int) := by
  unfold Go.bits
  show IntKind.u8.wrap ((BitVec.ofInt 8 (a : Int) ^^^ BitVec.ofInt 8 (b : Int)).toNat : Int) = _
  have hx : a ^^^ b < 256 := Nat.xor_lt_two_pow (n := 8) (by omega) (by omega)
  have e1 : (BitVec.ofInt 8 (a : Int)).toNat = a := by rw [BitVec.toNat_ofInt]; omega
  have e2 : (BitVec.ofInt 8 (b : Int)).toNat = b := by rw [BitVec.toNat_ofInt]; omega
  rw [BitVec.toNat_xor, e1, e2, IntKind.wrap_u8]
  omega
theorem crcRound_nat (m : Nat) (hm : m < 4294967296) : crcRound (m : Int) = (rN m : Int) := by
  unfold crcRound rN
  have e1 : Int.tmod (m : Int) 2 = ((m % 2 : Nat) : Int) := by rw [Int.tmod_eq_emod_of_nonneg (by omega)]; omega
  have e2 : Int.tdiv (m : Int) 2 % 4294967296 = ((m / 2 : Nat) : Int) := by rw [Int.tdiv_eq_ediv_of_nonneg (by omega)]; omega
  rw [e1, e2]
  by_cases c : m % 2 = 1
  · rw [if_pos (by omega), if_pos c]
    exact xor32_nat _ 3558460437 (by omega) (by omega)
  · rw [if_neg (by omega), if_neg c]
theorem crcRound_inj {a b : Int} (ha : 0 ≤ a ∧ a < 4294967296) (hb : 0 ≤ b ∧ b < 4294967296) (h : crcRound a = crcRound b) : a = b := by
  obtain ⟨m, rfl⟩ := Int.eq_ofNat_of_zero_le ha.1
  obtain ⟨n, rfl⟩ := Int.eq_ofNat_of_zero_le hb.1
  rw [crcRound_nat m (by omega), crcRound_nat n (by omega)] at h
  have := rN_inj (a := m) (b := n) (by omega) (by omega) (by omega)
  omega
theorem crcRounds_inj (n : Nat) : ∀ {a b : Int}, 0 ≤ a ∧ a < 4294967296 → 0 ≤ b ∧ b < 4294967296 → crcRounds n a = crcRounds n b → a = b := by
  induction n with
  | zero => intro a b _ _ h; exact h
  | succ n ih =>
    intro a b ha hb h
    exact crcRound_inj ha hb (ih (crcRound_range a) (crcRound_range b) h)
theorem crcByte_range (s b : Int) : 0 ≤ crcByte s b ∧ crcByte s b < 4294967296 := crcRounds_range 8 _ (xor32_range _ _)
theorem crcByte_inj {s t b c : Int} (hs : 0 ≤ s ∧ s < 4294967296) (ht : 0 ≤ t ∧ t < 4294967296) (hb : 0 ≤ b ∧ b ≤ 255) (hc : 0 ≤ c ∧ c ≤ 255) (h : crcByte s b = crcByte t c) (hst : s = t ∨ b = c) : s = t ∧ b = c := by
  have h1 := crcRounds_inj 8 (xor32_range _ _) (xor32_range _ _) h
  obtain ⟨s, rfl⟩ := Int.eq_ofNat_of_zero_le hs.1
  obtain ⟨t, rfl⟩ := Int.eq_ofNat_of_zero_le ht.1
  obtain ⟨b, rfl⟩ := Int.eq_ofNat_of_zero_le hb.1
  obtain ⟨c, rfl⟩ := Int.eq_ofNat_of_zero_le hc.1
  rw [show ((b : Int) % 4294967296) = (b : Int) by omega, show ((c : Int) % 4294967296) = (c : Int) by omega, xor32_nat _ _ (by omega) (by omega), xor32_nat _ _ (by omega) (by omega)] at h1
  have h2 : s ^^^ b = t ^^^ c := by omega
  rcases hst with e | e
  · have e : s = t := by omega
    subst e
    rw [Nat.xor_comm s b, Nat.xor_comm s c] at h2
    have := xor_cancel h2
    omega
  · have e : b = c := by omega
    subst e
    have := xor_cancel h2
    omega
theorem crcList_inj (l : List Int) (hl : ∀ x ∈ l, 0 ≤ x ∧ x ≤ 255) : ∀ {s t : Int}, 0 ≤ s ∧ s < 4294967296 → 0 ≤ t ∧ t < 4294967296 → crcList s l = crcList t l → s = t := by
  induction l with
  | nil => intro s t _ _ h; exact h
  | cons b l ih =>
    intro s t hs ht h
    have hb := hl b (by simp)
    exact (crcByte_inj hs ht hb hb (ih (fun x hx => hl x (by simp [hx])) (crcByte_range s b) (crcByte_range t b) h) (.inr rfl)).1
theorem crcList_set (l : List Int) (v : Int) (hv : 0 ≤ v ∧ v ≤ 255) (hl : ∀ x ∈ l, 0 ≤ x ∧ x ≤ 255) : ∀ (i : Nat) {s : Int}, 0 ≤ s ∧ s < 4294967296 → i < l.length → crcList s l = crcList s (l.set i v) → l.getD i 0 = v := by
  induction l with
  | nil => intro i s _ h; exact absurd h (by simp)
  | cons b l ih =>
    intro i s hs hi h
    have hb := hl b (by simp)
    have hl' : ∀ x ∈ l, 0 ≤ x ∧ x ≤ 255 := fun x hx => hl x (by simp [hx])
    cases i with
    | zero => exact (crcByte_inj hs hs hb hv (crcList_inj l hl' (crcByte_range s b) (crcByte_range s v) h) (.inl rfl)).2
    | succ i => exact ih hl' i (crcByte_range s b) (by simpa using hi) h
theorem four_inj {x y : Int} (hx : 0 ≤ x ∧ x < 4294967296) (hy : 0 ≤ y ∧ y < 4294967296) (h : four x = four y) : x = y := by
  unfold four at h
  injection h with h1 h
  injection h with h2 h
  injection h with h3 h
  injection h with h4 h
  omega
theorem four_range (x : Int) : ∀ b ∈ four x, 0 ≤ b ∧ b ≤ 255 := by
  intro b hb
  unfold four at hb
  simp only [List.mem_cons, List.not_mem_nil, or_false] at hb
  rcases hb with rfl | rfl | rfl | rfl <;> omega
theorem xor8_turned (a c : Int) (ha : 0 ≤ a ∧ a ≤ 255) (hc : 1 ≤ c ∧ c ≤ 255) : (0 ≤ Go.bits .xor .u8 a c ∧ Go.bits .xor .u8 a c ≤ 255) ∧ Go.bits .xor .u8 a c ≠ a := by
  obtain ⟨a, rfl⟩ := Int.eq_ofNat_of_zero_le ha.1
  obtain ⟨c, rfl⟩ := Int.eq_ofNat_of_zero_le (show 0 ≤ c by omega)
  rw [xor8_nat a c (by omega) (by omega)]
  have hx : a ^^^ c < 256 := Nat.xor_lt_two_pow (n := 8) (by omega) (by omega)
  refine ⟨by omega, fun h => ?_⟩
  have h1 : a ^^^ c = a := by omega
  have h2 : c ^^^ a = 0 ^^^ a := by rw [Nat.xor_comm, h1]; simp
  have := xor_cancel h2
  omega
def whole (s : ByteArray) : ByteArray := s ++ strOfNums (four (sumM s))
theorem whole_bytes (s : ByteArray) : bytesOf (whole s) = bytesOf s ++ four (sumM s) := by
  unfold whole; rw [bytesOf_append, bytesOf_strOfNums _ (four_range _)]
theorem whole_size (s : ByteArray) : (whole s).size = s.size + 4 := by
  rw [← bytesOf_length, whole_bytes, List.length_append, bytesOf_length]; rfl
theorem unsealed_whole (s : ByteArray) (hs : s.size ≤ 20000) : unsealedM (whole s) = (s, true) := by
  have e : (whole s).extract 0 ((whole s).size - 4) = s := by
    apply bytesOf_inj
    rw [bytesOf_extract, whole_bytes, whole_size, List.drop_zero, Nat.sub_zero, Nat.add_sub_cancel, ← bytesOf_length, List.take_left]
  unfold unsealedM
  rw [e, if_pos ⟨by rw [whole_size]; omega, by rw [whole_size]; omega, rfl⟩]
theorem unsealed_turned (s : ByteArray) (i : Nat) (hi : i < s.size + 4) (v : Int) (hv : 0 ≤ v ∧ v ≤ 255) (hne : v ≠ (bytesOf (whole s)).getD i 0) :
    (unsealedM (strOfNums ((bytesOf (whole s)).set i v))).2 = false := by
  have hr : ∀ x ∈ (bytesOf (whole s)).set i v, 0 ≤ x ∧ x ≤ 255 := by
    intro x hx
    rcases List.mem_or_eq_of_mem_set hx with h | rfl
    · exact bytesOf_range _ x h
    · exact hv
  have hb := bytesOf_strOfNums _ hr
  have hsz : (strOfNums ((bytesOf (whole s)).set i v)).size = s.size + 4 := by rw [strOfNums_size, List.length_set, bytesOf_length, whole_size]
  generalize strOfNums ((bytesOf (whole s)).set i v) = b at hb hsz
  unfold unsealedM
  by_cases h : 4 ≤ b.size ∧ b.size ≤ 20004 ∧ b = b.extract 0 (b.size - 4) ++ strOfNums (four (sumM (b.extract 0 (b.size - 4))))
  · exfalso
    obtain ⟨_, _, h⟩ := h
    have h := congrArg bytesOf h
    rw [bytesOf_append, bytesOf_strOfNums _ (four_range _), sumM, bytesOf_extract, hb, hsz, List.drop_zero, Nat.sub_zero, Nat.add_sub_cancel, whole_bytes] at h
    rw [whole_bytes] at hne
    have hlen : (bytesOf s).length = s.size := bytesOf_length s
    have hf : (four (sumM s)).length = 4 := rfl
    by_cases hc : i < s.size
    · rw [List.set_append_left _ _ (by omega), List.take_append_of_le_length (by rw [List.length_set]; omega), List.take_of_length_le (by rw [List.length_set]; omega)] at h
      have h4 := four_inj (sumM_range s) (crcList_range _ _ (by omega)) (List.append_cancel_left h)
      have := crcList_set (bytesOf s) v hv (bytesOf_range s) i (by omega) (by omega) h4
      apply hne
      rw [← this, List.getD_eq_getElem?_getD, List.getD_eq_getElem?_getD, List.getElem?_append_left (by omega)]
    · rw [List.set_append_right _ _ (by omega), List.take_append_of_le_length (by omega), List.take_of_length_le (by omega)] at h
      have h4 := List.append_cancel_left h
      apply hne
      rw [List.getD_eq_getElem?_getD, List.getElem?_append_right (by omega), hlen]
      have h5 : (four (sumM s)).set (i - (bytesOf s).length) v = four (sumM s) := h4
      rw [hlen] at h5
      rw [← h5, List.getElem?_set_self (by omega)]
      rfl
  · rw [if_neg h]
theorem FnTurned : laws_FnTurned.Pure := by
  intro l hl _ _
  apply Ev.rounds
  refine Ev.congr (fun _ => laws_FnTurned.f.eq_1 ..) (Ev.call (big_eq l) ?_)
  by_cases hbig : (l.length : Int) > 1048576
  · exact Ev.pos (by rw [decide_eq_true hbig]) (Ev.now _)
  refine Ev.neg (by rw [decide_eq_false hbig]; simp) ?_
  obtain ⟨h, e⟩ := new_ok l (by omega)
  obtain ⟨n, i1, h1, e1, hi1, n0, n1, _⟩ := below_ok l 0 h 40 (by omega) (by omega)
  obtain ⟨s, i2, h2, e2, _, hs⟩ := text_ok l (by omega) i1 h1 n hi1 (by have := n1 (by omega); omega)
  obtain ⟨p, ep, hp, hpr⟩ := places_ok l (by omega)
  have hs40 : s.size < 40 := by have := n1 (by omega); omega
  have es : Ev (fun k => spec_DrawSumOf.f k l) s := Ev.congr (fun _ => spec_DrawSumOf.f.eq_1 ..) (Ev.bind e (Ev.call e1 (Ev.bind e2 (Ev.now _))))
  refine Ev.bind es (Ev.bind ep (Ev.bind (Ev.eq (q := (whole s, true)) (implSealed_ev s) ?_) ?_))
  · unfold sealedM; rw [if_pos (by omega)]; rfl
  have hw := whole_size s
  refine Ev.bind (Ev.eq (q := (s, true)) (implUnsealed_ev (whole s) (by omega)) (unsealed_whole s (by omega))) ?_
  refine Ev.pos rfl (Ev.pos rfl (Ev.pos rfl ?_))
  refine Ev.step (fun _ => laws_FnTurned.j0.eq_2 ..) (Ev.neg ?_ ?_)
  · rw [w64 (by omega) (by omega)]
    show ¬ (((whole s).size : Int) != _) = true
    rw [hw]; simp
  refine Ev.pos (by show 0 + (whole s).size < _; omega) ?_
  refine Ev.call (a := bytesOf (whole s)) (by rw [List.nil_append]) ?_
  have hbl : (bytesOf (whole s)).length = s.size + 4 := by rw [bytesOf_length, hw]
  have hp0 := hpr (rd p 0) (rd_mem p 0 (by omega) (by omega))
  have hp1 := hpr (rd p 1) (rd_mem p 1 (by omega) (by omega))
  have ht := tmod_in (rd p 0) ((bytesOf (whole s)).length : Int) hp0.1 (by omega)
  have ht1 := tmod_in (rd p 1) 255 hp1.1 (by omega)
  refine Ev.pos (by omega) (Ev.neg (by omega) (Ev.pos ht.1 (Ev.pos ht.2 (Ev.pos (by omega) ?_))))
  generalize hI : Int.tmod (rd p 0) ((bytesOf (whole s)).length : Int) = I at ht
  generalize hC : Int.tmod (rd p 1) 255 = C at ht1
  rw [w64 (n := 1 + C) (by omega) (by omega)]
  have hbi := bytesOf_range (whole s) (rd (bytesOf (whole s)) I) (rd_mem _ I ht.1 ht.2)
  have hx := xor8_turned (rd (bytesOf (whole s)) I) ((1 + C) % 256) hbi (by omega)
  have hu := unsealed_turned s I.toNat (by omega) _ hx.1 hx.2
  refine Ev.bind (implUnsealed_ev _ (by rw [strOfNums_size, List.length_set]; omega)) (Ev.neg (by rw [hu]; decide) ?_)
  refine Ev.bind (implSumOf_ev s (by omega)) (Ev.bind (implSumMore_ev _ _ (by decide)) (Ev.pos (by omega) (Ev.bind (implSumOf_ev _ ?_) (Ev.some ?_))))
  · rw [ByteArray.size_append]; show s.size + 1 ≤ _; omega
  · rw [bytesOf_append, crcList, crcList, crcList, List.foldl_append]; simp

end Go.Proofs.Ytmmpjeadjfamfaa.Pure
