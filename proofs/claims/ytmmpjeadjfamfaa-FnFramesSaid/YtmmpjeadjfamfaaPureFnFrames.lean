/- FnFrames returns true for all arguments: drawn records come back from their frames, and of frames cut anywhere just the whole ones do. No conditions beyond the statement's own. -/
import Derived.Test.YtmmpjeadjfamfaaQfx4
import Derived.Test.YtmmpjeadjfamfaaBase
namespace Go.Proofs.Ytmmpjeadjfamfaa.Pure
open Go.RowKit Go.Proofs.Ytmmpjeadjfamfaa.Qf Go.Proofs.YtmmpjeadjfamfaaW.PrintWords Go.Proofs.YtmmpjeadjfamfaaW.PrintLast Go.Proofs.YtmmpjeadjfamfaaW.PrintMore Go.Proofs.Ytmmpjeadjfamfaa.Base

theorem byte_ok (l : List Int) (i h : Int) (hi : 0 ≤ i) (hl : l.length ≤ 140737488355328) :
    ∃ r i' h', spec_l01Byte.f l i h = some (r, i', h') ∧ 0 ≤ r ∧ r ≤ 255 ∧ 0 ≤ i' := by
  unfold spec_l01Byte.f
  by_cases c : i < (l.length : Int)
  · rw [if_pos c, if_pos hi]
    exact ⟨_, _, _, rfl, (and255 _).1, (and255 _).2, by rw [w64 (by omega) (by omega)]; omega⟩
  · rw [if_neg c]
    exact ⟨_, _, _, rfl, (and255 _).1, (and255 _).2, hi⟩
theorem below_ok (l : List Int) (i h n : Int) (hi : 0 ≤ i) (hl : l.length ≤ 140737488355328) :
    ∃ r i' h', spec_l01Below.f l i h n = some (r, i', h') ∧ 0 ≤ i' ∧ 0 ≤ r ∧ (0 < n → r < n) ∧ (n ≤ 0 → r = 0) := by
  unfold spec_l01Below.f
  by_cases c : n ≤ 0
  · rw [if_pos c]; exact ⟨_, _, _, rfl, hi, by omega, by omega, fun _ => rfl⟩
  · rw [if_neg c]
    by_cases c2 : n ≤ 256
    · rw [if_pos c2]
      obtain ⟨r, i1, h1, e, r0, r1, hi1⟩ := byte_ok l i h hi hl
      rw [e, Option.bind_some, if_neg (by omega)]
      have := tmod_in r n r0 (by omega)
      exact ⟨_, _, _, rfl, hi1, this.1, fun _ => this.2, by omega⟩
    · rw [if_neg c2]
      obtain ⟨x, i1, h1, e1, x0, x1, hi1⟩ := byte_ok l i h hi hl
      obtain ⟨y, i2, h2, e2, y0, y1, hi2⟩ := byte_ok l i1 h1 hi1 hl
      obtain ⟨z, i3, h3, e3, z0, z1, hi3⟩ := byte_ok l i2 h2 hi2 hl
      obtain ⟨w, i4, h4, e4, w0, w1, hi4⟩ := byte_ok l i3 h3 hi3 hl
      rw [e1, Option.bind_some, e2, Option.bind_some, e3, Option.bind_some, e4, Option.bind_some, if_neg (by omega)]
      have q1 : wrap64 (x * 16777216) = x * 16777216 := w64 (by omega) (by omega)
      have q2 : wrap64 (y * 65536) = y * 65536 := w64 (by omega) (by omega)
      have q3 : wrap64 (z * 256) = z * 256 := w64 (by omega) (by omega)
      simp only [q1, q2, q3]
      rw [w64 (n := x * 16777216 + y * 65536) (by omega) (by omega), w64 (n := x * 16777216 + y * 65536 + z * 256) (by omega) (by omega), w64 (n := x * 16777216 + y * 65536 + z * 256 + w) (by omega) (by omega)]
      have := tmod_in (x * 16777216 + y * 65536 + z * 256 + w) n (by omega) (by omega)
      exact ⟨_, _, _, rfl, hi4, this.1, fun _ => this.2, by omega⟩
theorem new_l0 (l : List Int) (d : Nat) :
    ∀ (j : Nat) (x : Int), j + d = l.length → ∃ h, Ev (fun k => spec_l01New.l0 k l x (j : Int)) (l, 0, h) := by
  induction d with
  | zero => intro j x hj; exact ⟨x, Ev.step (fun _ => spec_l01New.l0.eq_2 ..) (Ev.neg (by omega) (Ev.now _))⟩
  | succ d ih =>
    intro j x hj
    by_cases c : (j : Int) < 4000
    · obtain ⟨h, e⟩ := ih (j + 1) (Go.bits .and .i64 (wrap64 ((wrap64 ((wrap64 (x * 131)) + (wrap64 (rd l j)))) + 7)) 1073741823) (by omega)
      refine ⟨h, Ev.step (fun _ => spec_l01New.l0.eq_2 ..) (Ev.pos (by omega) (Ev.pos c (Ev.pos (by omega) ?_)))⟩
      rw [w64_succ j (by omega)]
      exact e
    · exact ⟨x, Ev.step (fun _ => spec_l01New.l0.eq_2 ..) (Ev.pos (by omega) (Ev.neg c (Ev.now _)))⟩
theorem new_ok (l : List Int) (_hl : l.length ≤ 140737488355328) : ∃ h, Ev (fun k => spec_l01New.f k l) (l, 0, h) := by
  obtain ⟨h, e⟩ := new_l0 l l.length 0 (wrap64 (34901 + (l.length : Int))) (by omega)
  exact ⟨h, Ev.congr (fun _ => spec_l01New.f.eq_1 ..) e⟩
theorem big_eq (l : List Int) : laws_big.f l = some (decide ((l.length : Int) > 1048576)) := rfl
theorem places_l0 (l : List Int) (hl : l.length ≤ 140737488355328) (d : Nat) :
    ∀ (j : Nat) (acc : List Int) (i h : Int), j + d = 12 → acc.length = j → (∀ x ∈ acc, 0 ≤ x ∧ x < 10000) → 0 ≤ i →
      ∃ r, Ev (fun k => spec_DrawPlaces.l0 k acc (j : Int) l i h) r ∧ r.length = 12 ∧ ∀ x ∈ r, 0 ≤ x ∧ x < 10000 := by
  induction d with
  | zero =>
    intro j acc i h hj hc ha hi
    exact ⟨acc, Ev.step (fun _ => spec_DrawPlaces.l0.eq_2 ..) (Ev.neg (by omega) (Ev.now _)), by omega, ha⟩
  | succ d ih =>
    intro j acc i h hj hc ha hi
    obtain ⟨b, i1, h1, e, hi1, b0, b1, _⟩ := below_ok l i h 10000 hi hl
    obtain ⟨r, er, hr⟩ := ih (j + 1) (acc ++ [b]) i1 h1 (by omega) (by simp; omega) (by
      intro x hx
      rcases List.mem_append.1 hx with hx | hx
      · exact ha x hx
      · obtain rfl := List.mem_singleton.1 hx; exact ⟨b0, b1 (by omega)⟩) hi1
    refine ⟨r, Ev.step (fun _ => spec_DrawPlaces.l0.eq_2 ..) (Ev.pos (by omega) (Ev.call e (Ev.pos (by omega) ?_))), hr⟩
    rw [w64_succ j (by omega)]
    exact er
theorem places_ok (l : List Int) (hl : l.length ≤ 140737488355328) : ∃ r, Ev (fun k => spec_DrawPlaces.f k l) r ∧ r.length = 12 ∧ ∀ x ∈ r, 0 ≤ x ∧ x < 10000 := by
  obtain ⟨h, e⟩ := new_ok l hl
  obtain ⟨b, i1, h1, e1, _, _, hi1⟩ := byte_ok l 0 h (by omega) hl
  obtain ⟨r, er, hr⟩ := places_l0 l hl 12 0 [] i1 h1 (by omega) rfl (by simp) hi1
  exact ⟨r, Ev.congr (fun _ => spec_DrawPlaces.f.eq_1 ..) (Ev.bind e (Ev.call e1 er)), hr⟩
theorem bytesOf_range (s : ByteArray) : ∀ x ∈ bytesOf s, 0 ≤ x ∧ x ≤ 255 := by
  intro x hx
  obtain ⟨b, _, rfl⟩ := List.mem_map.1 hx
  have := b.toNat_lt
  omega
theorem strOfNums_bytesOf (s : ByteArray) : strOfNums (bytesOf s) = s := by
  apply ByteArray.ext
  unfold strOfNums bytesOf
  rw [List.map_map, show ((fun n : Int => UInt8.ofNat n.toNat) ∘ fun b : UInt8 => (b.toNat : Int)) = id from by funext b; simp]
  simp
theorem bytesOf_strOfNums (l : List Int) (h : ∀ x ∈ l, 0 ≤ x ∧ x ≤ 255) : bytesOf (strOfNums l) = l := by
  unfold strOfNums bytesOf
  simp only [List.map_map]
  conv => rhs; rw [← List.map_id l]
  apply List.map_congr_left
  intro x hx
  have := h x hx
  show ((UInt8.ofNat x.toNat).toNat : Int) = x
  rw [UInt8.toNat_ofNat']
  omega
theorem strOfNums_eq (l : List Int) (s : ByteArray) (h : ∀ x ∈ l, 0 ≤ x ∧ x ≤ 255) : strOfNums l = s ↔ l = bytesOf s :=
  ⟨fun e => by rw [← e, bytesOf_strOfNums l h], fun e => by rw [e, strOfNums_bytesOf]⟩
theorem bytesOf_inj {s t : ByteArray} (h : bytesOf s = bytesOf t) : s = t := by
  rw [← strOfNums_bytesOf s, h, strOfNums_bytesOf]
theorem bytesOf_append (s t : ByteArray) : bytesOf (s ++ t) = bytesOf s ++ bytesOf t := by
  unfold bytesOf; simp
theorem bytesOf_extract (s : ByteArray) (a b : Nat) : bytesOf (s.extract a b) = ((bytesOf s).drop a).take (b - a) := by
  unfold bytesOf
  rw [ByteArray.data_extract]
  simp [List.extract_eq_take_drop, List.map_take, List.map_drop]
theorem append_right_inj (a b c : ByteArray) : a ++ b = a ++ c ↔ b = c := by
  constructor
  · intro h
    apply bytesOf_inj
    have := congrArg bytesOf h
    rw [bytesOf_append, bytesOf_append] at this
    exact List.append_cancel_left this
  · intro h; rw [h]
theorem append_left_inj (a b c : ByteArray) : a ++ c = b ++ c ↔ a = b := by
  constructor
  · intro h
    apply bytesOf_inj
    have := congrArg bytesOf h
    rw [bytesOf_append, bytesOf_append] at this
    exact List.append_cancel_right this
  · intro h; rw [h]
theorem extract_join (s : ByteArray) (a b c : Nat) (h1 : a ≤ b) (h2 : b ≤ c) : s.extract a b ++ s.extract b c = s.extract a c := by
  apply bytesOf_inj
  rw [bytesOf_append, bytesOf_extract, bytesOf_extract, bytesOf_extract]
  rw [show c - a = (b - a) + (c - b) from by omega, List.take_add, List.drop_drop, show a + (b - a) = b from by omega]
/-- The number that bytes of seven bits are. -/
def valL : List Int → Int
  | [] => 0
  | b :: r => b % 128 + 128 * valL r
theorem valL_snoc (p : List Int) (c : Int) : valL (p ++ [c]) = valL p + c % 128 * 128 ^ p.length := by
  induction p with
  | nil => simp [valL]
  | cons b p ih =>
    show b % 128 + 128 * valL (p ++ [c]) = b % 128 + 128 * valL p + c % 128 * 128 ^ (p.length + 1)
    rw [ih, Int.pow_succ, Int.mul_add, ← Int.add_assoc]
    congr 1
    rw [← Int.mul_assoc, Int.mul_comm 128 (c % 128), Int.mul_assoc, Int.mul_comm 128 (128 ^ p.length)]
theorem valL_bound (p : List Int) : 0 ≤ valL p ∧ valL p < 128 ^ p.length := by
  induction p with
  | nil => simp [valL]
  | cons b p ih =>
    show 0 ≤ b % 128 + 128 * valL p ∧ b % 128 + 128 * valL p < 128 ^ (p.length + 1)
    rw [Int.pow_succ]
    generalize (128 : Int) ^ p.length = z at *
    omega
theorem canon (pre : List Int) (c : Int) (hp : ∀ b ∈ pre, 128 ≤ b ∧ b ≤ 255) (hc : 0 ≤ c ∧ c ≤ 127) :
    varNums (valL (pre ++ [c])).toNat = pre ++ [c] ↔ (pre = [] ∨ c ≠ 0) := by
  induction pre with
  | nil =>
    have e : valL ([] ++ [c]) = c := by show c % 128 + 128 * 0 = c; omega
    rw [e, varNums_small _ (by omega)]
    have : ((c.toNat : Nat) : Int) = c := by omega
    simp [this]
  | cons b p ih =>
    have hb := hp b (List.mem_cons_self ..)
    have ih := ih (fun x hx => hp x (List.mem_cons_of_mem _ hx))
    have hV := valL_bound (p ++ [c])
    have hs := valL_snoc p c
    have hpow : 0 < (128 : Int) ^ p.length := Int.pow_pos (by omega)
    have hvp := valL_bound p
    show varNums (b % 128 + 128 * valL (p ++ [c])).toNat = b :: (p ++ [c]) ↔ _
    by_cases hz : valL (p ++ [c]) = 0
    · have c0 : c = 0 := by
        rw [hz] at hs
        rcases Int.lt_or_le 0 (c % 128) with h | h
        · have := Int.mul_pos h hpow; omega
        · omega
      rw [hz, varNums_small _ (by omega)]
      simp [c0]
    · rw [varNums_big _ (by omega)]
      have e1 : (((b % 128 + 128 * valL (p ++ [c])).toNat % 128 + 128 : Nat) : Int) = b := by omega
      have e2 : (b % 128 + 128 * valL (p ++ [c])).toNat / 128 = (valL (p ++ [c])).toNat := by omega
      rw [e1, e2, List.cons.injEq]
      simp only [true_and, ih, reduceCtorEq, false_or]
      constructor
      · rintro (rfl | h)
        · intro h0; apply hz; rw [h0]; rfl
        · exact h
      · exact fun h => .inr h
/-- The number that bytes begin with: how many have been read, what they are, what is left. -/
def rvL : Nat → Nat → Int → List Int → Option (Int × Nat)
  | 0, _, _, _ => none
  | _ + 1, _, _, [] => none
  | d + 1, i, n, c :: r => if c > 127 then rvL d (i + 1) (n + c % 128 * 128 ^ i) r else if (0 < i ∧ c = 0) ∨ n + c % 128 * 128 ^ i > 1000000000 then none else some (n + c % 128 * 128 ^ i, i + 1)
def rvOut (a : Int) : Option (Int × Nat) → Int × Int × Bool
  | none => (0, 0, false)
  | some (n, j) => (n, a + (j : Int), true)
def readVarM (s : ByteArray) (a : Int) : Int × Int × Bool :=
  if 0 ≤ a ∧ a ≤ (s.size : Int) then rvOut a (rvL 5 0 0 ((bytesOf s).drop a.toNat)) else (0, 0, false)
theorem pow5 (i : Nat) (h : i < 5) : 1 ≤ (128 : Int) ^ i ∧ (128 : Int) ^ i ≤ 268435456 := by
  have : i = 0 ∨ i = 1 ∨ i = 2 ∨ i = 3 ∨ i = 4 := by omega
  rcases this with rfl | rfl | rfl | rfl | rfl <;> decide
theorem mul_small (x z : Int) (hx : 0 ≤ x ∧ x ≤ 127) (hz : 1 ≤ z ∧ z ≤ 268435456) : 0 ≤ x * z ∧ x * z ≤ 127 * z :=
  ⟨Int.mul_nonneg hx.1 (by omega), Int.mul_le_mul_of_nonneg_right hx.2 (by omega)⟩
theorem rvL_cons (d i : Nat) (n c : Int) (r : List Int) : rvL (d + 1) i n (c :: r) = if c > 127 then rvL d (i + 1) (n + c % 128 * 128 ^ i) r else if (0 < i ∧ c = 0) ∨ n + c % 128 * 128 ^ i > 1000000000 then none else some (n + c % 128 * 128 ^ i, i + 1) := rfl
theorem within_eq (n lo hi : Int) : impl_within.f n lo hi = some (decide (lo ≤ n ∧ n ≤ hi)) := by
  unfold impl_within.f
  by_cases h : n ≥ lo
  · rw [if_pos h]; congr 1; rw [decide_eq_decide]; exact ⟨fun h2 => ⟨h, h2⟩, fun h2 => h2.2⟩
  · rw [if_neg h]; congr 1; symm; rw [decide_eq_false_iff_not]; exact fun h2 => h h2.1
theorem implReadVar_l0 (s : ByteArray) (a : Nat) (hs : s.size ≤ 140737488355328) (ha : a ≤ s.size) (d : Nat) :
    ∀ (i : Nat) (n : Int), i + d = 5 → 0 ≤ n → n < 128 ^ i → Ev (fun k => impl_ReadVar.l0 k s (a : Int) n (i : Int)) (rvOut (a : Int) (rvL d i n ((bytesOf s).drop (a + i)))) := by
  induction d with
  | zero =>
    intro i n hi _ _
    exact Ev.step (fun _ => impl_ReadVar.l0.eq_2 ..) (Ev.neg (by omega) (Ev.step (fun _ => impl_ReadVar.j1.eq_2 ..) (Ev.neg (by simp) (Ev.some rfl))))
  | succ d ih =>
    intro i n hi hn0 hn1
    refine Ev.step (fun _ => impl_ReadVar.l0.eq_2 ..) (Ev.pos (by omega) (Ev.step (fun _ => impl_ReadVar.j1.eq_2 ..) ?_))
    have e0 : wrap64 ((a : Int) + (i : Int)) = ((a + i : Nat) : Int) := by rw [w64 (by omega) (by omega)]; omega
    rw [e0]
    by_cases h : a + i < s.size
    · rw [bytesOf_drop s (a + i) h, rvL_cons]
      have hb := bt_range s ((a + i : Nat) : Int)
      generalize bt s ((a + i : Nat) : Int) = c at *
      have hp := pow5 i (by omega)
      have hm := mul_small (c % 128) (128 ^ i) (by omega) hp
      have e1 : wrap64 c = c := w64 (by omega) (by omega)
      have e2 : Int.tmod c 128 = c % 128 := Int.tmod_eq_emod_of_nonneg (by omega)
      have e3 : shl .i64 (c % 128) (wrap64 (7 * (i : Int))) = c % 128 * 128 ^ i := by
        rw [w64 (n := 7 * (i : Int)) (by omega) (by omega)]
        unfold shl
        have q : (2 : Int) ^ min (7 * (i : Int)).toNat IntKind.i64.bits = 128 ^ i := by
          have : i = 0 ∨ i = 1 ∨ i = 2 ∨ i = 3 ∨ i = 4 := by omega
          rcases this with rfl | rfl | rfl | rfl | rfl <;> decide
        rw [q, IntKind.wrap_i64]
        generalize (128 : Int) ^ i = z at *
        generalize c % 128 * z = y at *
        omega
      rw [e1, e2, e3]
      have e4 : wrap64 (n + c % 128 * 128 ^ i) = n + c % 128 * 128 ^ i := by
        generalize (128 : Int) ^ i = z at *
        exact w64 (by omega) (by omega)
      rw [e4, w64_succ i (by omega), w64_succ (a + i) (by omega)]
      refine Ev.pos (by rw [decide_eq_true_iff]; omega) (Ev.pos (by omega) (Ev.pos (by omega) (Ev.pos (by rw [w64 (by omega) (by omega)]; omega) ?_)))
      refine Ev.ite (fun hc => ?_) (fun hc => ?_)
      · rw [if_pos hc, show a + i + 1 = a + (i + 1) from by omega]
        refine ih (i + 1) _ (by omega) ?_ ?_
        · generalize (128 : Int) ^ i = z at *
          omega
        · rw [Int.pow_succ]
          generalize (128 : Int) ^ i = z at *
          omega
      · rw [if_neg hc]
        have out : ∀ x, x = rvOut (a : Int) (some (n + c % 128 * 128 ^ i, i + 1)) → Ev (fun _ => some (n + c % 128 * 128 ^ i, ((a + i + 1 : Nat) : Int), true)) x := fun x hx => Ev.some (by rw [hx]; show _ = (_, (a : Int) + ((i + 1 : Nat) : Int), true); rw [show ((a + i + 1 : Nat) : Int) = (a : Int) + ((i + 1 : Nat) : Int) from by omega])
        refine Ev.ite (fun hi0 => ?_) (fun hi0 => ?_)
        · refine Ev.ite (fun hc0 => ?_) (fun hc0 => ?_)
          · rw [if_pos (.inl ⟨by omega, hc0⟩)]; exact Ev.some rfl
          · refine Ev.ite (fun hb2 => ?_) (fun hb2 => ?_)
            · rw [if_pos (.inr hb2)]; exact Ev.some rfl
            · rw [if_neg (fun z => z.elim (fun y => hc0 y.2) hb2)]; exact out _ rfl
        · refine Ev.ite (fun hb2 => ?_) (fun hb2 => ?_)
          · rw [if_pos (.inr hb2)]; exact Ev.some rfl
          · rw [if_neg (fun z => z.elim (fun y => hi0 (by omega)) hb2)]; exact out _ rfl
    · refine Ev.neg (by rw [decide_eq_true_iff]; omega) (Ev.some ?_)
      rw [List.drop_eq_nil_of_le (by rw [bytesOf_length]; omega)]; rfl
theorem implReadVar_ev (s : ByteArray) (a : Int) (hs : s.size ≤ 140737488355328) : Ev (fun k => impl_ReadVar.f k s a) (readVarM s a) := by
  refine Ev.congr (fun _ => impl_ReadVar.f.eq_1 ..) (Ev.call (within_eq ..) ?_)
  unfold readVarM
  by_cases h : 0 ≤ a ∧ a ≤ (s.size : Int)
  · rw [if_pos h, decide_eq_true h]
    obtain ⟨m, rfl⟩ := Int.eq_ofNat_of_zero_le h.1
    exact Ev.pos rfl (implReadVar_l0 s m hs (by omega) 5 0 0 (by omega) (by omega) (by decide))
  · rw [if_neg h, decide_eq_false h]
    exact Ev.neg (by simp) (Ev.now _)
theorem rvL_range (d : Nat) : ∀ (i : Nat) (n : Int) (l : List Int) (m : Int) (j : Nat), i + d = 5 → 0 ≤ n → (∀ x ∈ l, 0 ≤ x) → rvL d i n l = some (m, j) → 0 ≤ m ∧ m ≤ 1000000000 ∧ i < j ∧ j ≤ i + l.length ∧ j ≤ 5 := by
  induction d with
  | zero => intro i n l m j _ _ _ h; simp [rvL] at h
  | succ d ih =>
    intro i n l m j hi hn hl h
    cases l with
    | nil => simp [rvL] at h
    | cons c r =>
      rw [rvL_cons] at h
      have hp := pow5 i (by omega)
      have hc := hl c (List.mem_cons_self ..)
      have hm := mul_small (c % 128) (128 ^ i) (by omega) hp
      by_cases h1 : c > 127
      · rw [if_pos h1] at h
        obtain ⟨a, b, e, f, g⟩ := ih (i + 1) _ r m j (by omega) (by omega) (fun x hx => hl x (List.mem_cons_of_mem _ hx)) h
        rw [List.length_cons]
        omega
      · rw [if_neg h1] at h
        by_cases h2 : (0 < i ∧ c = 0) ∨ n + c % 128 * 128 ^ i > 1000000000
        · rw [if_pos h2] at h; cases h
        · rw [if_neg h2] at h
          rw [Option.some.injEq, Prod.mk.injEq] at h
          rw [List.length_cons]
          have := fun z => h2 (.inr z)
          omega
/-- What a number is that is read: in its range, and its end is in the text, at most five bytes on. -/
theorem readVarM_range (s : ByteArray) (a : Int) (h : (readVarM s a).2.2 = true) :
    0 ≤ a ∧ a < (readVarM s a).2.1 ∧ (readVarM s a).2.1 ≤ (s.size : Int) ∧ (readVarM s a).2.1 ≤ a + 5 ∧ 0 ≤ (readVarM s a).1 ∧ (readVarM s a).1 ≤ 1000000000 := by
  unfold readVarM at h ⊢
  by_cases h1 : 0 ≤ a ∧ a ≤ (s.size : Int)
  · rw [if_pos h1] at h ⊢
    cases e : rvL 5 0 0 ((bytesOf s).drop a.toNat) with
    | none => rw [e] at h; simp [rvOut] at h
    | some x =>
      obtain ⟨m, j⟩ := x
      obtain ⟨b, c, f, g, q⟩ := rvL_range 5 0 0 _ m j (by omega) (by omega) (fun x hx => (bytesOf_range s x (List.mem_of_mem_drop hx)).1) e
      rw [List.length_drop, bytesOf_length] at g
      show 0 ≤ a ∧ a < a + (j : Int) ∧ a + (j : Int) ≤ _ ∧ a + (j : Int) ≤ a + 5 ∧ 0 ≤ m ∧ m ≤ _
      omega
  · rw [if_neg h1] at h; simp at h
theorem readVarM_false (s : ByteArray) (a : Int) (h : ¬ (readVarM s a).2.2 = true) : readVarM s a = (0, 0, false) := by
  unfold readVarM at h ⊢
  by_cases h1 : 0 ≤ a ∧ a ≤ (s.size : Int)
  · rw [if_pos h1] at h ⊢
    cases e : rvL 5 0 0 ((bytesOf s).drop a.toNat) with
    | none => rfl
    | some x => rw [e] at h; simp [rvOut] at h
  · rw [if_neg h1]
theorem rvL_canon (d : Nat) : ∀ (pre l : List Int) (m : Int) (j : Nat), pre.length + d = 5 → (∀ b ∈ pre, 128 ≤ b ∧ b ≤ 255) → (∀ x ∈ l, 0 ≤ x ∧ x ≤ 255) → rvL d pre.length (valL pre) l = some (m, j) →
    ∃ k, j = pre.length + k ∧ k ≤ l.length ∧ 0 ≤ m ∧ varNums m.toNat = pre ++ l.take k := by
  induction d with
  | zero => intro pre l m j _ _ _ h; simp [rvL] at h
  | succ d ih =>
    intro pre l m j hi hp hl h
    cases l with
    | nil => simp [rvL] at h
    | cons c r =>
      rw [rvL_cons, ← valL_snoc] at h
      have hc := hl c (List.mem_cons_self ..)
      by_cases h1 : c > 127
      · rw [if_pos h1] at h
        have e : pre.length + 1 = (pre ++ [c]).length := by simp
        rw [e] at h
        obtain ⟨k, a, b, q, w⟩ := ih (pre ++ [c]) r m j (by simp; omega) (fun b hb => by
          rcases List.mem_append.1 hb with hb | hb
          · exact hp b hb
          · obtain rfl := List.mem_singleton.1 hb; omega) (fun x hx => hl x (List.mem_cons_of_mem _ hx)) h
        refine ⟨k + 1, by rw [a]; simp; omega, by simp; omega, q, ?_⟩
        rw [w, List.take_succ_cons, List.append_assoc]; rfl
      · rw [if_neg h1] at h
        by_cases h2 : (0 < pre.length ∧ c = 0) ∨ valL (pre ++ [c]) > 1000000000
        · rw [if_pos h2] at h; cases h
        · rw [if_neg h2] at h
          rw [Option.some.injEq, Prod.mk.injEq] at h
          obtain ⟨rfl, rfl⟩ := h
          refine ⟨1, rfl, by simp, (valL_bound _).1, ?_⟩
          rw [(canon pre c hp (by omega)).2 ?_]
          · rfl
          · by_cases hn : pre = []
            · exact .inl hn
            · right
              intro hc0
              exact h2 (.inl ⟨List.length_pos_iff.2 hn, hc0⟩)
/-- The bytes that a number was read from are its VarText. -/
theorem readVarM_canon (s : ByteArray) (a : Int) (h : (readVarM s a).2.2 = true) :
    s.extract a.toNat (readVarM s a).2.1.toNat = strOfNums (varNums (readVarM s a).1.toNat) := by
  unfold readVarM at h ⊢
  by_cases h1 : 0 ≤ a ∧ a ≤ (s.size : Int)
  · rw [if_pos h1] at h ⊢
    cases e : rvL 5 0 0 ((bytesOf s).drop a.toNat) with
    | none => rw [e] at h; simp [rvOut] at h
    | some x =>
      obtain ⟨m, j⟩ := x
      obtain ⟨k, q1, q2, q3, q4⟩ := rvL_canon 5 [] _ m j rfl (by simp) (fun x hx => bytesOf_range s x (List.mem_of_mem_drop hx)) e
      symm
      show strOfNums (varNums m.toNat) = s.extract a.toNat (a + (j : Int)).toNat
      rw [strOfNums_eq _ _ (varNums_range _), bytesOf_extract, q4, show (a + (j : Int)).toNat - a.toNat = k from by simp at q1; omega]
      rfl
  · rw [if_neg h1] at h; simp at h
theorem implSumMore_l1 (t : ByteArray) (ht : t.size ≤ 140737488355328) (i : Nat) (hi : i < t.size) (r : Int) (d : Nat) :
    ∀ (j : Nat) (s : Int), j + d = 8 → Ev (fun k => impl_SumMore.l0 k (crcRounds d s) t ((i + 1 : Nat) : Int)) r → Ev (fun k => impl_SumMore.l1 k s t (i : Int) (j : Int)) r := by
  induction d with
  | zero =>
    intro j s hj h
    refine Ev.step (fun _ => impl_SumMore.l1.eq_2 ..) (Ev.neg (by omega) ?_)
    rw [w64_succ i (by omega)]
    exact h
  | succ d ih =>
    intro j s hj h
    refine Ev.step (fun _ => impl_SumMore.l1.eq_2 ..) (Ev.pos (by omega) ?_)
    rw [w64_succ j (by omega)]
    rw [crcRounds] at h
    unfold crcRound at h
    refine Ev.ite (fun hc => ?_) (fun hc => ?_)
    · rw [if_pos hc] at h; exact ih (j + 1) _ (by omega) h
    · rw [if_neg hc] at h; exact ih (j + 1) _ (by omega) h
theorem implSumMore_l0 (t : ByteArray) (ht : t.size ≤ 140737488355328) (d : Nat) :
    ∀ (i : Nat) (s : Int), i + d = t.size → Ev (fun k => impl_SumMore.l0 k s t (i : Int)) (crcList s ((bytesOf t).drop i)) := by
  induction d with
  | zero =>
    intro i s hi
    refine Ev.step (fun _ => impl_SumMore.l0.eq_2 ..) (Ev.neg (by omega) (Ev.some ?_))
    rw [List.drop_eq_nil_of_le (by rw [bytesOf_length]; omega)]; rfl
  | succ d ih =>
    intro i s hi
    refine Ev.step (fun _ => impl_SumMore.l0.eq_2 ..) (Ev.pos (by omega) (Ev.pos (by omega) ?_))
    refine implSumMore_l1 t ht i (by omega) _ 8 0 _ (by omega) ?_
    refine Ev.eq (ih (i + 1) _ (by omega)) ?_
    rw [bytesOf_drop t i (by omega)]; rfl
theorem implSumMore_ev (s : Int) (t : ByteArray) (ht : t.size ≤ 140737488355328) : Ev (fun k => impl_SumMore.f k s t) (crcList s (bytesOf t)) :=
  implSumMore_l0 t ht t.size 0 s (by omega)
theorem implSumOf_ev (t : ByteArray) (ht : t.size ≤ 140737488355328) : Ev (fun k => impl_SumOf.f k t) (crcList 4294967295 (bytesOf t)) :=
  Ev.congr (fun _ => impl_SumOf.f.eq_1 ..) (Ev.bind (implSumMore_ev _ t ht) (Ev.now _))
/-- Four bytes, the highest first. -/
def four (x : Int) : List Int := [x / 16777216 % 256, x / 65536 % 256, x / 256 % 256, x % 256]
def sumM (t : ByteArray) : Int := crcList 4294967295 (bytesOf t)
theorem crcRound_range (s : Int) : 0 ≤ crcRound s ∧ crcRound s < 4294967296 := by
  unfold crcRound
  split
  · exact xor32_range _ _
  · omega
theorem crcRounds_range (n : Nat) : ∀ s : Int, 0 ≤ s ∧ s < 4294967296 → 0 ≤ crcRounds n s ∧ crcRounds n s < 4294967296 := by
  induction n with
  | zero => intro s h; exact h
  | succ n ih => intro s _; exact ih _ (crcRound_range s)
theorem crcList_range (l : List Int) : ∀ s : Int, 0 ≤ s ∧ s < 4294967296 → 0 ≤ crcList s l ∧ crcList s l < 4294967296 := by
  induction l with
  | nil => intro s h; exact h
  | cons b l ih => intro s _; exact ih _ (crcRounds_range 8 _ (xor32_range _ _))
theorem sumM_range (t : ByteArray) : 0 ≤ sumM t ∧ sumM t < 4294967296 := crcList_range _ _ (by omega)
def sealedM (t : ByteArray) : ByteArray × Bool := if t.size ≤ 20000 then (t ++ strOfNums (four (sumM t)), true) else ((⟨#[]⟩ : ByteArray), false)
theorem implVarText_l0 (n : Nat) : ∀ acc : List Int, acc.length + n < 140737488355328 → Ev (fun k => impl_VarText.l0 k (n : Int) acc) (strOfNums (acc ++ varNums n), true) := by
  induction n using Nat.strongRecOn with
  | _ n ih =>
    intro acc hl
    refine Ev.step (fun _ => impl_VarText.l0.eq_2 ..) ?_
    by_cases h : 127 < n
    · refine Ev.pos (by omega) (Ev.pos (by omega) ?_)
      rw [varNums_big n h, show Int.tdiv (n : Int) 128 = ((n / 128 : Nat) : Int) from Int.ofNat_tdiv n 128 ▸ rfl, show Int.tmod (n : Int) 128 = ((n % 128 : Nat) : Int) from rfl,
        w64 (by omega) (by omega), w64 (by omega) (by omega), show (((n % 128 : Nat) : Int) + 128) % 256 = ((n % 128 + 128 : Nat) : Int) from by omega]
      have := ih (n / 128) (by omega) (acc ++ [((n % 128 + 128 : Nat) : Int)]) (by simp; omega)
      rwa [List.append_assoc] at this
    · refine Ev.neg (by omega) (Ev.pos (by omega) (Ev.some ?_))
      rw [varNums_small n h, show (n : Int) % 256 = n from by omega]
theorem implVarText_ev (n : Int) : Ev (fun k => impl_VarText.f k n) (if 0 ≤ n ∧ n ≤ 1000000000 then (strOfNums (varNums n.toNat), true) else ((⟨#[]⟩ : ByteArray), false)) := by
  refine Ev.congr (fun _ => impl_VarText.f.eq_1 ..) (Ev.call (within_eq ..) ?_)
  by_cases h : 0 ≤ n ∧ n ≤ 1000000000
  · rw [if_pos h, decide_eq_true h]
    obtain ⟨m, rfl⟩ := Int.eq_ofNat_of_zero_le h.1
    exact Ev.pos rfl (by simpa using implVarText_l0 m [] (by simp; omega))
  · rw [if_neg h, decide_eq_false h]
    exact Ev.neg (by simp) (Ev.now _)
theorem implVarText_nat (n : Nat) (h : n ≤ 1000000000) : Ev (fun k => impl_VarText.f k (n : Int)) (strOfNums (varNums n), true) := by
  have := implVarText_ev (n : Int)
  rwa [if_pos (by omega), Int.toNat_natCast] at this
def frameM (t : ByteArray) : ByteArray × Bool := if 1 ≤ t.size ∧ t.size ≤ 9000 then ((strOfNums (varNums t.size) ++ strOfNums (four (sumM t))) ++ t, true) else ((⟨#[]⟩ : ByteArray), false)
theorem implSumText_ev (t : ByteArray) (ht : t.size ≤ 140737488355328) : Ev (fun k => impl_sumText.f k t) (strOfNums (four (sumM t))) :=
  Ev.congr (fun _ => impl_sumText.f.eq_1 ..) (Ev.bind (implSumOf_ev t ht) (Ev.now _))
theorem frame_size (t : ByteArray) : (strOfNums (varNums t.size) ++ strOfNums (four (sumM t))).size ≤ t.size + 5 := by
  rw [ByteArray.size_append, strOfNums_size, strOfNums_size]
  have := varNums_length t.size
  show _ + 4 ≤ _
  omega
theorem implFrame_ev (t : ByteArray) : Ev (fun k => impl_Frame.f k t) (frameM t) := by
  refine Ev.congr (fun _ => impl_Frame.f.eq_1 ..) (Ev.call (within_eq ..) ?_)
  unfold frameM
  have hz := frame_size t
  by_cases h : 1 ≤ t.size ∧ t.size ≤ 9000
  · rw [if_pos h]
    refine Ev.pos (by rw [decide_eq_true (by omega)]) (Ev.bind (implVarText_nat t.size (by omega)) (Ev.bind (implSumText_ev t (by omega)) (Ev.pos ?_ (Ev.pos ?_ (Ev.now _)))))
    · rw [ByteArray.size_append] at hz; exact Nat.le_trans hz (by omega)
    · exact Nat.le_trans (Nat.add_le_add_right hz _) (by omega)
  · rw [if_neg h]; exact Ev.neg (by rw [decide_eq_false (by omega)]; simp) (Ev.now _)
/-- The frame that stands at a place, and the place behind it. -/
def frameText (s : ByteArray) (a : Int) : ByteArray := s.extract ((readVarM s a).2.1 + 4).toNat ((readVarM s a).2.1 + 4 + (readVarM s a).1).toNat
def frameOk (s : ByteArray) (a : Int) : Prop := (readVarM s a).2.2 = true ∧ (1 ≤ (readVarM s a).1 ∧ (readVarM s a).1 ≤ 9000) ∧ (readVarM s a).1 + 4 ≤ (s.size : Int) - (readVarM s a).2.1 ∧
  strOfNums (four (sumM (frameText s a))) = s.extract (readVarM s a).2.1.toNat ((readVarM s a).2.1 + 4).toNat
instance (s : ByteArray) (a : Int) : Decidable (frameOk s a) := by unfold frameOk; exact inferInstance
def unframeM (s : ByteArray) : Nat → Int → List ByteArray → List ByteArray × Int
  | 0, a, acc => (acc, a)
  | d + 1, a, acc => if frameOk s a then unframeM s d ((readVarM s a).2.1 + 4 + (readVarM s a).1) (acc ++ [frameText s a]) else (acc, a)
theorem unframeM_length (s : ByteArray) (d : Nat) : ∀ (a : Int) (acc : List ByteArray), (unframeM s d a acc).1.length ≤ acc.length + d := by
  induction d with
  | zero => intro a acc; exact Nat.le_refl _
  | succ d ih =>
    intro a acc
    unfold unframeM
    split
    · refine Nat.le_trans (ih _ _) ?_
      simp; omega
    · exact Nat.le_add_right _ _
theorem implUnframe_l0 (s : ByteArray) (hs : s.size ≤ 20000) (d : Nat) :
    ∀ (a : Int) (acc : List ByteArray), 0 ≤ a → a ≤ (s.size : Int) → (s.size : Int) - a < d → (acc.length : Int) ≤ a → Ev (fun k => impl_Unframe.l0 k s acc a) (unframeM s d a acc) := by
  induction d with
  | zero => intro a acc _ _ _ _; omega
  | succ d ih =>
    intro a acc h0 h1 h2 h3
    refine Ev.step (fun _ => impl_Unframe.l0.eq_2 ..) (Ev.pos (by omega) (Ev.bind (implReadVar_ev s a (by omega)) ?_))
    have stop : ¬ frameOk s a → ∀ n nx, Ev (fun k => impl_Unframe.j1 k s acc a n nx true) (unframeM s (d + 1) a acc) := fun h n nx => by
      refine Ev.step (fun _ => impl_Unframe.j1.eq_2 ..) (Ev.pos rfl (Ev.some ?_))
      unfold unframeM; rw [if_neg h]
    by_cases c1 : (readVarM s a).2.2 = true
    · have hr := readVarM_range s a c1
      refine Ev.pos c1 (Ev.call (within_eq ..) ?_)
      by_cases c2 : 1 ≤ (readVarM s a).1 ∧ (readVarM s a).1 ≤ 9000
      · refine Ev.pos (by rw [decide_eq_true c2]) ?_
        rw [w64 (n := (readVarM s a).1 + 4) (by omega) (by omega), w64 (n := (s.size : Int) - (readVarM s a).2.1) (by omega) (by omega)]
        by_cases c3 : (readVarM s a).1 + 4 > (s.size : Int) - (readVarM s a).2.1
        · rw [decide_eq_true c3]
          exact stop (fun z => by have := z.2.2.1; omega) _ _
        · rw [decide_eq_false c3]
          refine Ev.step (fun _ => impl_Unframe.j1.eq_2 ..) (Ev.neg (by simp) ?_)
          rw [w64 (n := (readVarM s a).2.1 + 4) (by omega) (by omega), w64 (n := (readVarM s a).2.1 + 4 + (readVarM s a).1) (by omega) (by omega)]
          refine Ev.pos (by omega) (Ev.pos (by omega) (Ev.pos (by omega) (Ev.bind (implSumText_ev (frameText s a) ?_) (Ev.pos (by omega) (Ev.pos (by omega) (Ev.pos (by omega) ?_))))))
          · unfold frameText
            rw [← bytesOf_length, bytesOf_extract, List.length_take, List.length_drop, bytesOf_length]; omega
          · by_cases c4 : strOfNums (four (sumM (frameText s a))) = s.extract (readVarM s a).2.1.toNat ((readVarM s a).2.1 + 4).toNat
            · refine Ev.pos (toList_eq.2 c4) (Ev.pos (by omega) ?_)
              have hok : frameOk s a := ⟨c1, c2, by omega, c4⟩
              refine Ev.eq (ih ((readVarM s a).2.1 + 4 + (readVarM s a).1) (acc ++ [frameText s a]) (by omega) (by omega) (by omega) (by simp; omega)) ?_
              conv => rhs; unfold unframeM
              rw [if_pos hok]
            · refine Ev.neg (fun z => c4 (toList_eq.1 z)) (Ev.some ?_)
              unfold unframeM; rw [if_neg (fun z => c4 z.2.2.2)]
      · exact Ev.neg (by rw [decide_eq_false c2]; simp) (stop (fun z => c2 z.2.1) _ _)
    · exact Ev.neg c1 (stop (fun z => c1 z.1) _ _)
def unframeOut (s : ByteArray) : List ByteArray × Int := if s.size ≤ 20000 then unframeM s (s.size + 1) 0 [] else ([], 0)
theorem implUnframe_ev (s : ByteArray) : Ev (fun k => impl_Unframe.f k s) (unframeOut s) := by
  refine Ev.congr (fun _ => impl_Unframe.f.eq_1 ..) ?_
  unfold unframeOut
  by_cases h : s.size ≤ 20000
  · rw [if_pos h]; exact implUnframe_l0 s h (s.size + 1) 0 [] (by omega) (by omega) (by omega) (by simp)
  · rw [if_neg h]; exact Ev.step (fun _ => impl_Unframe.l0.eq_2 ..) (Ev.neg (by omega) (Ev.now _))
theorem unframeOut_length (s : ByteArray) : (unframeOut s).1.length ≤ 20001 := by
  unfold unframeOut
  by_cases h : s.size ≤ 20000
  · rw [if_pos h]
    have := unframeM_length s (s.size + 1) 0 []
    simp at this
    omega
  · rw [if_neg h]; simp
theorem varNums_len (k : Nat) : ∀ n : Nat, n < 128 ^ (k + 1) → (varNums n).length ≤ k + 1 := by
  induction k with
  | zero =>
    intro n h
    rw [varNums_small n (by omega)]; simp
  | succ k ih =>
    intro n h
    by_cases hn : 127 < n
    · rw [varNums_big n hn, List.length_cons]
      have := ih (n / 128) (by
        rw [Nat.pow_succ] at h
        exact Nat.div_lt_of_lt_mul (by rw [Nat.mul_comm]; exact h))
      omega
    · rw [varNums_small n hn]; simp
theorem rvL_back (n : Nat) : ∀ (d i : Nat) (acc : Int) (rest : List Int), (varNums n).length ≤ d → (n = 0 → i = 0) → 0 ≤ acc → acc + (n : Int) * 128 ^ i ≤ 1000000000 →
    rvL d i acc (varNums n ++ rest) = some (acc + (n : Int) * 128 ^ i, i + (varNums n).length) := by
  induction n using Nat.strongRecOn with
  | _ n ih =>
    intro d i acc rest hd h0 ha hb
    have hz : 0 < (128 : Int) ^ i := Int.pow_pos (by omega)
    by_cases h : 127 < n
    · rw [varNums_big n h] at hd ⊢
      rw [List.length_cons] at hd ⊢
      obtain ⟨d, rfl⟩ : ∃ m, d = m + 1 := ⟨d - 1, by omega⟩
      rw [List.cons_append, rvL_cons, if_pos (by omega)]
      have e1 : (((n % 128 + 128 : Nat) : Int)) % 128 = ((n % 128 : Nat) : Int) := by omega
      have e2 : acc + ((n % 128 : Nat) : Int) * 128 ^ i + ((n / 128 : Nat) : Int) * 128 ^ (i + 1) = acc + (n : Int) * 128 ^ i := by
        rw [Int.pow_succ, Int.add_assoc]
        congr 1
        rw [Int.mul_comm ((128 : Int) ^ i) 128, ← Int.mul_assoc, ← Int.add_mul]
        congr 1
        omega
      rw [e1]
      have hm : 0 ≤ ((n % 128 : Nat) : Int) * 128 ^ i := Int.mul_nonneg (by omega) (by omega)
      rw [ih (n / 128) (by omega) d (i + 1) _ rest (by omega) (by omega) (by omega) (by rw [e2]; exact hb), e2, show i + 1 + (varNums (n / 128)).length = i + ((varNums (n / 128)).length + 1) from by omega]
    · rw [varNums_small n h] at hd ⊢
      obtain ⟨d, rfl⟩ : ∃ m, d = m + 1 := ⟨d - 1, by simp at hd; omega⟩
      rw [List.cons_append, rvL_cons, if_neg (by omega), show (n : Int) % 128 = n from by omega, if_neg (by
        rintro (⟨a, b⟩ | c)
        · have := h0 (by omega); omega
        · omega)]
      rfl
theorem rvL_torn (n : Nat) : ∀ (d i j : Nat) (acc : Int), j < (varNums n).length → rvL d i acc ((varNums n).take j) = none := by
  induction n using Nat.strongRecOn with
  | _ n ih =>
    intro d i j acc hj
    cases d with
    | zero => rfl
    | succ d =>
      cases j with
      | zero => rfl
      | succ j =>
        by_cases h : 127 < n
        · rw [varNums_big n h] at hj ⊢
          rw [List.take_succ_cons, rvL_cons, if_pos (by omega)]
          exact ih (n / 128) (by omega) d (i + 1) j _ (by simpa using hj)
        · rw [varNums_small n h] at hj; simp at hj
/-- A frame in numbers. -/
def frameL (t : ByteArray) : List Int := varNums t.size ++ (four (sumM t) ++ bytesOf t)
theorem frameL_length (t : ByteArray) : (frameL t).length = (varNums t.size).length + 4 + t.size := by
  unfold frameL; rw [List.length_append, List.length_append, bytesOf_length]; show _ + (4 + _) = _; omega
theorem four_range (x : Int) : ∀ y ∈ four x, 0 ≤ y ∧ y ≤ 255 := by
  intro y hy
  simp only [four, List.mem_cons, List.not_mem_nil, or_false] at hy
  omega
theorem frameM_bytes (t : ByteArray) : bytesOf ((strOfNums (varNums t.size) ++ strOfNums (four (sumM t))) ++ t) = frameL t := by
  rw [bytesOf_append, bytesOf_append, bytesOf_strOfNums _ (varNums_range _), bytesOf_strOfNums _ (four_range _), List.append_assoc]; rfl
theorem bytesOf_piece (s : ByteArray) (P Q R : List Int) (h : bytesOf s = P ++ (Q ++ R)) : bytesOf (s.extract P.length (P.length + Q.length)) = Q := by
  rw [bytesOf_extract, h, List.drop_left, show P.length + Q.length - P.length = Q.length from by omega, List.take_left]
theorem frame_reads (s : ByteArray) (P : List Int) (n : Nat) (R : List Int) (hn : n ≤ 1000000000) (h : bytesOf s = P ++ (varNums n ++ R)) :
    readVarM s (P.length : Int) = ((n : Int), ((P.length + (varNums n).length : Nat) : Int), true) := by
  have hl := congrArg List.length h
  rw [bytesOf_length, List.length_append, List.length_append] at hl
  unfold readVarM
  rw [if_pos (by omega), Int.toNat_natCast, h, List.drop_left]
  have hv := varNums_len 4 n (by omega)
  rw [rvL_back n 5 0 0 R hv (fun _ => rfl) (by omega) (by simp; omega)]
  simp [rvOut]
theorem frame_whole (s : ByteArray) (P : List Int) (t : ByteArray) (R : List Int) (ht : 1 ≤ t.size ∧ t.size ≤ 9000) (h : bytesOf s = P ++ (frameL t ++ R)) :
    frameOk s (P.length : Int) ∧ frameText s (P.length : Int) = t ∧ (readVarM s (P.length : Int)).2.1 + 4 + (readVarM s (P.length : Int)).1 = (((P ++ frameL t).length : Nat) : Int) := by
  have hl := congrArg List.length h
  have hfl := frameL_length t
  rw [bytesOf_length, List.length_append, List.length_append, hfl] at hl
  have hr := frame_reads s P t.size (four (sumM t) ++ (bytesOf t ++ R)) (by omega) (by rw [h]; unfold frameL; simp [List.append_assoc])
  have ht2 : frameText s (P.length : Int) = t := by
    unfold frameText
    rw [hr]
    apply bytesOf_inj
    have := bytesOf_piece s (P ++ (varNums t.size ++ four (sumM t))) (bytesOf t) R (by rw [h]; unfold frameL; simp [List.append_assoc])
    rw [bytesOf_length, List.length_append, List.length_append] at this
    rw [← this]
    show bytesOf (s.extract (((P.length + (varNums t.size).length : Nat) : Int) + 4).toNat (((P.length + (varNums t.size).length : Nat) : Int) + 4 + (t.size : Int)).toNat) = bytesOf (s.extract (P.length + ((varNums t.size).length + 4)) (P.length + ((varNums t.size).length + 4) + t.size))
    rw [show (((P.length + (varNums t.size).length : Nat) : Int) + 4).toNat = P.length + ((varNums t.size).length + 4) from by omega, show (((P.length + (varNums t.size).length : Nat) : Int) + 4 + (t.size : Int)).toNat = P.length + ((varNums t.size).length + 4) + t.size from by omega]
  refine ⟨⟨by rw [hr], by rw [hr]; show 1 ≤ (t.size : Int) ∧ (t.size : Int) ≤ 9000; omega, ?_, ?_⟩, ht2, ?_⟩
  · rw [hr]; show (t.size : Int) + 4 ≤ (s.size : Int) - ((P.length + (varNums t.size).length : Nat) : Int); omega
  · rw [ht2, strOfNums_eq _ _ (four_range _), hr]
    have := bytesOf_piece s (P ++ varNums t.size) (four (sumM t)) (bytesOf t ++ R) (by rw [h]; unfold frameL; simp [List.append_assoc])
    rw [List.length_append] at this
    refine this.symm.trans ?_
    show bytesOf (s.extract (P.length + (varNums t.size).length) (P.length + (varNums t.size).length + 4)) = bytesOf (s.extract (((P.length + (varNums t.size).length : Nat) : Int)).toNat (((P.length + (varNums t.size).length : Nat) : Int) + 4).toNat)
    rw [Int.toNat_natCast, show (((P.length + (varNums t.size).length : Nat) : Int) + 4).toNat = P.length + (varNums t.size).length + 4 from by omega]
  · rw [hr, List.length_append, hfl]
    show ((P.length + (varNums t.size).length : Nat) : Int) + 4 + (t.size : Int) = _
    omega
theorem frame_torn (s : ByteArray) (P : List Int) (t : ByteArray) (j : Nat) (ht : 1 ≤ t.size ∧ t.size ≤ 9000) (hj : j < (frameL t).length) (h : bytesOf s = P ++ (frameL t).take j) :
    ¬ frameOk s (P.length : Int) := by
  intro hok
  have hl := congrArg List.length h
  have hfl := frameL_length t
  rw [bytesOf_length, List.length_append, List.length_take] at hl
  by_cases hv : j < (varNums t.size).length
  · have h1 := hok.1
    unfold readVarM at h1
    rw [if_pos (by omega), Int.toNat_natCast, h, List.drop_left] at h1
    have e : (frameL t).take j = (varNums t.size).take j := by
      unfold frameL; rw [List.take_append_of_le_length (by omega)]
    rw [e, rvL_torn _ _ _ _ _ hv] at h1
    simp [rvOut] at h1
  · have hr := frame_reads s P t.size ((four (sumM t) ++ bytesOf t).take (j - (varNums t.size).length)) (by omega) (by
      rw [h]; unfold frameL
      congr 1
      rw [List.take_append, List.take_of_length_le (by omega)])
    have h3 := hok.2.2.1
    rw [hr] at h3
    have : (t.size : Int) + 4 ≤ (s.size : Int) - ((P.length + (varNums t.size).length : Nat) : Int) := h3
    omega
theorem frame_end (s : ByteArray) (P : List Int) (h : bytesOf s = P) : ¬ frameOk s (P.length : Int) := by
  intro hok
  have hr := readVarM_range s _ hok.1
  have hl := congrArg List.length h
  rw [bytesOf_length] at hl
  omega
def framesL (ts : List ByteArray) : List Int := ts.flatMap frameL
theorem unframe_frames (ts : List ByteArray) (hts : ∀ t ∈ ts, 1 ≤ t.size ∧ t.size ≤ 9000) : ∀ (s : ByteArray) (P Q : List Int) (d : Nat) (acc : List ByteArray), ts.length < d →
    bytesOf s = P ++ (framesL ts ++ Q) → ¬ frameOk s (((P ++ framesL ts).length : Nat) : Int) → unframeM s d (P.length : Int) acc = (acc ++ ts, (((P ++ framesL ts).length : Nat) : Int)) := by
  induction ts with
  | nil =>
    intro s P Q d acc hd h hno
    obtain ⟨d, rfl⟩ : ∃ m, d = m + 1 := ⟨d - 1, by simp at hd; omega⟩
    unfold unframeM
    simp only [framesL, List.flatMap_nil, List.append_nil] at hno ⊢
    rw [if_neg hno]
  | cons t ts ih =>
    intro s P Q d acc hd h hno
    obtain ⟨d, rfl⟩ : ∃ m, d = m + 1 := ⟨d - 1, by simp at hd; omega⟩
    have e : framesL (t :: ts) = frameL t ++ framesL ts := List.flatMap_cons
    rw [e] at h hno ⊢
    obtain ⟨a, b, c⟩ := frame_whole s P t (framesL ts ++ Q) (hts t (List.mem_cons_self ..)) (by rw [h]; simp [List.append_assoc])
    unfold unframeM
    rw [if_pos a, b, c, ih (fun x hx => hts x (List.mem_cons_of_mem _ hx)) s (P ++ frameL t) Q d (acc ++ [t]) (by simp at hd; omega) (by rw [h]; simp [List.append_assoc]) (by rw [List.append_assoc]; exact hno)]
    simp [List.append_assoc]
/-- Of frames that are cut anywhere just the whole ones come back. -/
theorem unframe_cut (ts : List ByteArray) (hts : ∀ t ∈ ts, 1 ≤ t.size ∧ t.size ≤ 9000) : ∀ (j : Nat), j ≤ (framesL ts).length →
    ∃ m, m ≤ ts.length ∧ (framesL (ts.take m)).length ≤ j ∧ (m = ts.length ∨ j < (framesL (ts.take (m + 1))).length) ∧
      ∃ Q, (framesL ts).take j = framesL (ts.take m) ++ Q ∧ ∀ (s : ByteArray) (P : List Int), bytesOf s = P ++ (framesL (ts.take m) ++ Q) → ¬ frameOk s (((P ++ framesL (ts.take m)).length : Nat) : Int) := by
  induction ts with
  | nil =>
    intro j hj
    refine ⟨0, Nat.le_refl _, by simp [framesL], .inl rfl, [], by simp [framesL], fun s P h => ?_⟩
    have := frame_end s P (by rw [h]; simp [framesL])
    simpa [framesL] using this
  | cons t ts ih =>
    intro j hj
    have e : ∀ x, framesL (t :: x) = frameL t ++ framesL x := fun x => List.flatMap_cons
    by_cases hc : j < (frameL t).length
    · refine ⟨0, by simp, by simp [framesL], .inr (by simp [framesL]; exact hc), (frameL t).take j, by rw [e, List.take_append_of_le_length (by omega)]; simp [framesL], fun s P h => ?_⟩
      have := frame_torn s P t j (hts t (List.mem_cons_self ..)) hc (by rw [h]; simp [framesL])
      simpa [framesL] using this
    · rw [e, List.length_append] at hj
      obtain ⟨m, h1, h2, h3, Q, h4, h5⟩ := ih (fun x hx => hts x (List.mem_cons_of_mem _ hx)) (j - (frameL t).length) (by omega)
      refine ⟨m + 1, by simp; omega, by rw [List.take_succ_cons, e, List.length_append]; omega, ?_, Q, ?_, fun s P h => ?_⟩
      · rcases h3 with h3 | h3
        · left; simp [h3]
        · right; rw [List.take_succ_cons, e, List.length_append]; omega
      · rw [e, List.take_succ_cons, e, List.take_append, List.take_of_length_le (by omega), h4, List.append_assoc]
      · rw [List.take_succ_cons, e] at h ⊢
        have := h5 s (P ++ frameL t) (by rw [h]; simp [List.append_assoc])
        rwa [List.append_assoc] at this
theorem text_l0 (l : List Int) (hl : l.length ≤ 140737488355328) (n : Nat) (hn : n ≤ 5000) (d : Nat) :
    ∀ (j : Nat) (acc : List Int) (i h : Int), j + d = n → acc.length = j → 0 ≤ i →
      ∃ r i' h', Ev (fun k => spec_l01Text.l0 k (n : Int) acc (j : Int) l i h) (r, i', h') ∧ 0 ≤ i' ∧ r.size = n := by
  induction d with
  | zero =>
    intro j acc i h hj hc hi
    exact ⟨_, _, _, Ev.step (fun _ => spec_l01Text.l0.eq_2 ..) (Ev.neg (by omega) (Ev.now _)), hi, by rw [strOfNums_size]; omega⟩
  | succ d ih =>
    intro j acc i h hj hc hi
    obtain ⟨b, i1, h1, e, _, _, hi1⟩ := byte_ok l i h hi hl
    obtain ⟨r, i2, h2, er, hi2, hr⟩ := ih (j + 1) (acc ++ [b % 256]) i1 h1 (by omega) (by simp; omega) hi1
    refine ⟨r, i2, h2, Ev.step (fun _ => spec_l01Text.l0.eq_2 ..) (Ev.pos (by omega) (Ev.call e (Ev.pos (by omega) ?_))), hi2, hr⟩
    rw [w64_succ j (by omega)]
    exact er
theorem text_ok (l : List Int) (hl : l.length ≤ 140737488355328) (i h n : Int) (hi : 0 ≤ i) (hn : 0 ≤ n ∧ n ≤ 5000) :
    ∃ r i' h', Ev (fun k => spec_l01Text.f k l i h n) (r, i', h') ∧ 0 ≤ i' ∧ (r.size : Int) = n := by
  obtain ⟨m, rfl⟩ := Int.eq_ofNat_of_zero_le hn.1
  obtain ⟨r, i', h', e, a, b⟩ := text_l0 l hl m (by omega) m 0 [] i h (by omega) rfl hi
  exact ⟨r, i', h', Ev.congr (fun _ => spec_l01Text.f.eq_1 ..) (Ev.neg (by omega) (Ev.step (fun _ => spec_l01Text.j0.eq_2 ..) e)), a, by omega⟩
theorem long_l0 (n : Nat) (x : Int) (hn : n ≤ 281474976710656) (d : Nat) :
    ∀ (j : Nat) (acc : List Int), j + d = n → acc.length = n → ∃ r, Ev (fun k => spec_l01Long.l0 k (n : Int) x acc (j : Int)) r ∧ r.size = n := by
  induction d with
  | zero =>
    intro j acc hj hc
    exact ⟨_, Ev.step (fun _ => spec_l01Long.l0.eq_2 ..) (Ev.neg (by omega) (Ev.now _)), by rw [strOfNums_size]; omega⟩
  | succ d ih =>
    intro j acc hj hc
    obtain ⟨r, er, hr⟩ := ih (j + 1) (acc.set (j : Int).toNat x) (by omega) (by simp; omega)
    refine ⟨r, Ev.step (fun _ => spec_l01Long.l0.eq_2 ..) (Ev.pos (by omega) (Ev.pos (by omega) (Ev.pos (by omega) ?_))), hr⟩
    rw [w64_succ j (by omega)]
    exact er
theorem long_ok (n x : Int) (hn : 0 ≤ n ∧ n ≤ 281474976710656) : ∃ r, Ev (fun k => spec_l01Long.f k n x) r ∧ (r.size : Int) = n := by
  obtain ⟨m, rfl⟩ := Int.eq_ofNat_of_zero_le hn.1
  obtain ⟨r, e, hr⟩ := long_l0 m x (by omega) m 0 (List.replicate m 0) (by omega) (by simp)
  exact ⟨r, Ev.congr (fun _ => spec_l01Long.f.eq_1 ..) (Ev.pos (by omega) (Ev.pos (by omega) e)), by omega⟩
theorem once_ok' (l : List Int) (i h n : Int) (hi : 0 ≤ i) (hl : l.length ≤ 140737488355328) :
    ∃ b i' h', spec_l01Once.f l i h n = some (b, i', h') ∧ 0 ≤ i' := by
  unfold spec_l01Once.f
  obtain ⟨r, i1, h1, e, hi1, _⟩ := below_ok l i h n hi hl
  rw [e, Option.bind_some]
  exact ⟨_, _, _, rfl, hi1⟩
theorem drawHex_ok (l : List Int) (hl : l.length ≤ 140737488355328) : ∃ r, Ev (fun k => spec_DrawHex.f k l) r ∧ r.size ≤ 20001 ∧ (r.size < 30 ∨ 20000 ≤ r.size) := by
  obtain ⟨h, e⟩ := new_ok l hl
  obtain ⟨b, i1, h1, e1, hi1⟩ := once_ok' l 0 h 60 (by omega) hl
  by_cases c : b = true
  · obtain ⟨x, i2, h2, e2, hi2, x0, x1, _⟩ := below_ok l i1 h1 2 hi1 hl
    have x1 := x1 (by omega)
    obtain ⟨r, er, hr⟩ := long_ok (20000 + x) 200 (by omega)
    refine ⟨r, Ev.congr (fun _ => spec_DrawHex.f.eq_1 ..) (Ev.bind e (Ev.call e1 (Ev.pos c (Ev.call e2 ?_)))), by omega, by omega⟩
    show Ev (fun n => (spec_l01Long.f n (wrap64 (20000 + x)) 200).bind fun t => some t) r
    rw [w64 (n := 20000 + x) (by omega) (by omega)]
    exact Ev.bind er (Ev.now _)
  · obtain ⟨x, i2, h2, e2, hi2, x0, x1, _⟩ := below_ok l i1 h1 30 hi1 hl
    have x1 := x1 (by omega)
    obtain ⟨r, i3, h3, er, _, hr⟩ := text_ok l hl i2 h2 x hi2 (by omega)
    exact ⟨r, Ev.congr (fun _ => spec_DrawHex.f.eq_1 ..) (Ev.bind e (Ev.call e1 (Ev.neg c (Ev.call e2 (Ev.bind er (Ev.now _)))))), by omega, by omega⟩
theorem sameTexts_l0 (a b : List ByteArray) (hlen : a.length = b.length) (hn : a.length ≤ 140737488355328) (d : Nat) :
    ∀ i : Nat, i + d = a.length → Ev (fun k => laws_sameTexts.l0 k a b (i : Int)) (decide (a.drop i = b.drop i)) := by
  induction d with
  | zero =>
    intro i hi
    refine Ev.step (fun _ => laws_sameTexts.l0.eq_2 ..) ?_
    refine Ev.neg (by omega) (Ev.some ?_)
    rw [List.drop_eq_nil_of_le (by omega), List.drop_eq_nil_of_le (by omega)]; simp
  | succ d ih =>
    intro i hi
    refine Ev.step (fun _ => laws_sameTexts.l0.eq_2 ..) ?_
    refine Ev.pos (by omega) (Ev.pos (by omega) (Ev.pos (by omega) ?_))
    rw [rdOf_nat _ a i (by omega), rdOf_nat _ b i (by omega), w64_succ i (by omega), drop_eq_iff a b i (by omega) (by omega)]
    refine Ev.ite (fun h => ?_) (fun h => ?_)
    · rw [decide_eq_true (toList_eq.1 h), Bool.true_and]; exact ih (i + 1) (by omega)
    · rw [decide_eq_false (fun e => h (toList_eq.2 e))]; exact Ev.now _
theorem sameTexts_ev (a b : List ByteArray) (hn : a.length ≤ 140737488355328) : Ev (fun k => laws_sameTexts.f k a b) (decide (a = b)) := by
  refine Ev.congr (fun _ => laws_sameTexts.f.eq_1 ..) (Ev.ite (fun h => ?_) (fun h => ?_))
  · exact sameTexts_l0 a b (by omega) hn a.length 0 (by omega)
  · rw [decide_eq_false (fun e => h (by rw [e]))]; exact Ev.now _
theorem sameTexts_self (a : List ByteArray) (hn : a.length ≤ 140737488355328) : Ev (fun k => laws_sameTexts.f k a a) true := by
  have h := sameTexts_ev a a hn
  rwa [decide_eq_true rfl] at h
def frB (t : ByteArray) : ByteArray := (strOfNums (varNums t.size) ++ strOfNums (four (sumM t))) ++ t
theorem frB_bytes (t : ByteArray) : bytesOf (frB t) = frameL t := frameM_bytes t
theorem implFrame_ok (t : ByteArray) (ht : 1 ≤ t.size ∧ t.size ≤ 9000) : Ev (fun k => impl_Frame.f k t) (frB t, true) := by
  refine Ev.eq (implFrame_ev t) ?_
  unfold frameM; rw [if_pos ht]; rfl
def two : ByteArray := ⟨#[116, 119, 111]⟩
def three : ByteArray := ⟨#[116, 104, 114, 101, 101, 32, 97, 110, 100, 32, 109, 111, 114, 101]⟩
theorem sameTexts_ev' (a b : List ByteArray) (h : a = b) (hn : a.length ≤ 140737488355328) : Ev (fun k => laws_sameTexts.f k a b) true := by
  subst h; exact sameTexts_self a hn
theorem frames_from (p : List Int) (hp : p.length = 12) (p0 : 0 ≤ rd p 0) (t : ByteArray) (ht : 1 ≤ t.size ∧ t.size ≤ 900) : Ev (fun k => laws_FnFrames.j1 k p [t, two, three]) true := by
  have h2 : two.size = 3 := rfl
  have h3 : three.size = 14 := rfl
  have hfr : ∀ x ∈ [t, two, three], 1 ≤ x.size ∧ x.size ≤ 9000 := by
    intro x hx
    simp only [List.mem_cons, List.not_mem_nil, or_false] at hx
    rcases hx with rfl | rfl | rfl <;> omega
  have hv1 := varNums_len 1 t.size (by omega)
  have hv2 := varNums_len 1 two.size (by omega)
  have hv3 := varNums_len 1 three.size (by omega)
  have l1 := frameL_length t
  have l2 := frameL_length two
  have l3 := frameL_length three
  have b1 : bytesOf ((⟨#[]⟩ : ByteArray) ++ frB t) = framesL [t] := by rw [bytesOf_append, frB_bytes]; simp [framesL, bytesOf]
  have b2 : bytesOf ((⟨#[]⟩ : ByteArray) ++ frB t ++ frB two) = framesL [t, two] := by rw [bytesOf_append, b1, frB_bytes]; simp [framesL]
  have b3 : bytesOf ((⟨#[]⟩ : ByteArray) ++ frB t ++ frB two ++ frB three) = framesL [t, two, three] := by rw [bytesOf_append, b2, frB_bytes]; simp [framesL]
  have n1 : (framesL [t]).length = (frameL t).length := by simp [framesL]
  have n2 : (framesL [t, two]).length = (frameL t).length + (frameL two).length := by simp [framesL]
  have n3 : (framesL [t, two, three]).length = (frameL t).length + (frameL two).length + (frameL three).length := by simp [framesL]; omega
  have s1 : ((⟨#[]⟩ : ByteArray) ++ frB t).size = (frameL t).length := by rw [← bytesOf_length, b1, n1]
  have s2 : ((⟨#[]⟩ : ByteArray) ++ frB t ++ frB two).size = (frameL t).length + (frameL two).length := by rw [← bytesOf_length, b2, n2]
  have s3 : ((⟨#[]⟩ : ByteArray) ++ frB t ++ frB two ++ frB three).size = (frameL t).length + (frameL two).length + (frameL three).length := by rw [← bytesOf_length, b3, n3]
  refine Ev.step (fun _ => laws_FnFrames.j1.eq_2 ..) ?_
  refine Ev.step (fun _ => laws_FnFrames.l0.eq_2 ..) (Ev.pos (by simp) (Ev.pos (by omega) (Ev.bind (implFrame_ok t (by omega)) (Ev.pos rfl (Ev.pos ?_ (Ev.pos (by simp) ?_))))))
  · rw [ByteArray.size_append] at s1; exact Nat.le_trans (Nat.le_of_eq s1) (by omega)
  rw [show wrap64 (0 + 1) = 1 from by unfold wrap64; omega]
  refine Ev.step (fun _ => laws_FnFrames.l0.eq_2 ..) (Ev.pos (by simp) (Ev.pos (by omega) (Ev.bind (implFrame_ok two (by omega)) (Ev.pos rfl (Ev.pos ?_ (Ev.pos (by simp) ?_))))))
  · rw [ByteArray.size_append] at s2; exact Nat.le_trans (Nat.le_of_eq s2) (by omega)
  rw [show wrap64 (1 + 1) = 2 from by unfold wrap64; omega]
  refine Ev.step (fun _ => laws_FnFrames.l0.eq_2 ..) (Ev.pos (by simp) (Ev.pos (by omega) (Ev.bind (implFrame_ok three (by omega)) (Ev.pos rfl (Ev.pos ?_ (Ev.pos (by simp) ?_))))))
  · rw [ByteArray.size_append] at s3; exact Nat.le_trans (Nat.le_of_eq s3) (by omega)
  rw [show wrap64 (2 + 1) = 3 from by unfold wrap64; omega]
  refine Ev.step (fun _ => laws_FnFrames.l0.eq_2 ..) (Ev.neg (by simp) ?_)
  show Ev (fun k => (impl_Unframe.f k ((⟨#[]⟩ : ByteArray) ++ frB t ++ frB two ++ frB three)).bind _) true
  rw [show [(0 : Int)] ++ [((((⟨#[]⟩ : ByteArray) ++ frB t).size : Nat) : Int)] ++ [((((⟨#[]⟩ : ByteArray) ++ frB t ++ frB two).size : Nat) : Int)] ++ [((((⟨#[]⟩ : ByteArray) ++ frB t ++ frB two ++ frB three).size : Nat) : Int)] = [0, ((frameL t).length : Int), (((frameL t).length + (frameL two).length : Nat) : Int), (((frameL t).length + (frameL two).length + (frameL three).length : Nat) : Int)] from by rw [s1, s2, s3]; rfl]
  generalize hF : (⟨#[]⟩ : ByteArray) ++ frB t ++ frB two ++ frB three = F at *
  have hun : unframeOut F = ([t, two, three], (F.size : Int)) := by
    unfold unframeOut
    rw [if_pos (by omega)]
    have := unframe_frames [t, two, three] hfr F [] [] (F.size + 1) [] (by simp; omega) (by rw [b3]; simp) (by
      have := frame_end F (framesL [t, two, three]) b3
      simpa using this)
    rw [List.nil_append, List.nil_append, n3, ← s3] at this
    exact this
  refine Ev.bind (Ev.eq (implUnframe_ev F) hun) (Ev.pos rfl (Ev.bind (sameTexts_self [t, two, three] (by simp)) ?_))
  refine Ev.step (fun _ => laws_FnFrames.j3.eq_2 ..) (Ev.neg (by simp) (Ev.pos (by omega) ?_))
  rw [w64 (n := (F.size : Int) + 1) (by omega) (by omega)]
  obtain ⟨c0, c1⟩ := tmod_in (rd p 0) ((F.size : Int) + 1) p0 (by omega)
  generalize Int.tmod (rd p 0) ((F.size : Int) + 1) = c at *
  obtain ⟨j, rfl⟩ := Int.eq_ofNat_of_zero_le c0
  refine Ev.neg (by omega) (Ev.pos c0 (Ev.pos (by omega) ?_))
  rw [Int.toNat_natCast]
  obtain ⟨m, m1, m2, m3, Q, m4, m5⟩ := unframe_cut [t, two, three] hfr j (by omega)
  have hcut : unframeOut (F.extract 0 j) = ([t, two, three].take m, ((framesL ([t, two, three].take m)).length : Int)) := by
    have hz : (F.extract 0 j).size = j := by
      rw [← bytesOf_length, bytesOf_extract, List.length_take, List.length_drop, bytesOf_length]; omega
    have hb : bytesOf (F.extract 0 j) = [] ++ (framesL ([t, two, three].take m) ++ Q) := by
      rw [bytesOf_extract, b3, List.drop_zero, Nat.sub_zero, m4]; rfl
    unfold unframeOut
    rw [if_pos (by omega)]
    have := unframe_frames ([t, two, three].take m) (fun x hx => hfr x (List.mem_of_mem_take hx)) (F.extract 0 j) [] Q ((F.extract 0 j).size + 1) [] (by
      rw [hz, List.length_take]
      have hle : m ≤ j := by
        have q : ∀ x : List ByteArray, (∀ y ∈ x, 1 ≤ y.size ∧ y.size ≤ 9000) → x.length ≤ (framesL x).length := by
          intro x
          induction x with
          | nil => intro _; simp
          | cons y x ih =>
            intro hx
            have := ih (fun z hz => hx z (List.mem_cons_of_mem _ hz))
            have hy := frameL_length y
            rw [show framesL (y :: x) = frameL y ++ framesL x from List.flatMap_cons, List.length_append, List.length_cons]
            omega
        have := q ([t, two, three].take m) (fun x hx => hfr x (List.mem_of_mem_take hx))
        rw [List.length_take] at this
        omega
      omega) hb (m5 _ [] hb)
    rw [List.nil_append, List.nil_append] at this
    exact this
  refine Ev.bind (Ev.eq (implUnframe_ev _) hcut) ?_
  have hm : m = 0 ∨ m = 1 ∨ m = 2 ∨ m = 3 := by simp at m1; omega
  have fin : ∀ (xs ys : List ByteArray), xs = ys → xs.length ≤ 3 → Ev (fun k => laws_sameTexts.f k xs ys) true := fun xs ys h hn => sameTexts_ev' xs ys h (by omega)
  rcases hm with rfl | rfl | rfl | rfl
  · refine Ev.pos (by simp) (Ev.pos (by simp) (Ev.pos (by simp) (Ev.pos rfl (Ev.pos (by simp [framesL]) (Ev.pos (by simp) (Ev.bind (fin _ _ rfl (by simp)) (Ev.pos rfl (Ev.neg (by simp) ?_))))))))
    rw [show wrap64 (((List.take 0 [t, two, three]).length : Int) + 1) = 1 from by show wrap64 (0 + 1) = 1; unfold wrap64; omega]
    refine Ev.pos (by omega) (Ev.pos (by simp) (Ev.some ?_))
    rw [decide_eq_true_iff]
    show ((frameL t).length : Int) > (j : Int)
    rcases m3 with m3 | m3
    · simp at m3
    · rw [show List.take (0 + 1) [t, two, three] = [t] from rfl, n1] at m3; omega
  · refine Ev.pos (by simp) (Ev.pos (by simp) (Ev.pos (by simp) (Ev.pos (by show ((framesL [t]).length : Int) = ((frameL t).length : Int); rw [n1]) (Ev.pos (by show ((framesL [t]).length : Int) ≤ _; have : (framesL [t]).length ≤ j := m2; omega) (Ev.pos (by simp) (Ev.bind (fin _ _ rfl (by simp)) (Ev.pos rfl (Ev.neg (by simp) ?_))))))))
    rw [show wrap64 (((List.take 1 [t, two, three]).length : Int) + 1) = 2 from by show wrap64 (1 + 1) = 2; unfold wrap64; omega]
    refine Ev.pos (by omega) (Ev.pos (by simp) (Ev.some ?_))
    rw [decide_eq_true_iff]
    show (((frameL t).length + (frameL two).length : Nat) : Int) > (j : Int)
    rcases m3 with m3 | m3
    · simp at m3
    · rw [show List.take (1 + 1) [t, two, three] = [t, two] from rfl, n2] at m3; omega
  · refine Ev.pos (by simp) (Ev.pos (by simp) (Ev.pos (by simp) (Ev.pos (by show ((framesL [t, two]).length : Int) = (((frameL t).length + (frameL two).length : Nat) : Int); rw [n2]) (Ev.pos (by show ((framesL [t, two]).length : Int) ≤ _; have : (framesL [t, two]).length ≤ j := m2; omega) (Ev.pos (by simp) (Ev.bind (fin _ _ rfl (by simp)) (Ev.pos rfl (Ev.neg (by simp) ?_))))))))
    rw [show wrap64 (((List.take 2 [t, two, three]).length : Int) + 1) = 3 from by show wrap64 (2 + 1) = 3; unfold wrap64; omega]
    refine Ev.pos (by omega) (Ev.pos (by simp) (Ev.some ?_))
    rw [decide_eq_true_iff]
    show (((frameL t).length + (frameL two).length + (frameL three).length : Nat) : Int) > (j : Int)
    rcases m3 with m3 | m3
    · simp at m3
    · rw [show List.take (2 + 1) [t, two, three] = [t, two, three] from rfl, n3] at m3; omega
  · refine Ev.pos (by simp) (Ev.pos (by simp) (Ev.pos (by simp) (Ev.pos (by show ((framesL [t, two, three]).length : Int) = (((frameL t).length + (frameL two).length + (frameL three).length : Nat) : Int); rw [n3]) (Ev.pos (by show ((framesL [t, two, three]).length : Int) ≤ _; have : (framesL [t, two, three]).length ≤ j := m2; omega) (Ev.pos (by simp) (Ev.bind (fin _ _ rfl (by simp)) (Ev.pos rfl (Ev.pos rfl (Ev.now _)))))))))
theorem FnFrames : laws_FnFrames.Pure := by
  intro code hm _ _
  apply Ev.rounds
  refine Ev.congr (fun _ => laws_FnFrames.f.eq_1 ..) (Ev.call (big_eq code) ?_)
  by_cases hbig : (code.length : Int) > 1048576
  · exact Ev.pos (by rw [decide_eq_true hbig]) (Ev.now _)
  refine Ev.neg (by rw [decide_eq_false hbig]; simp) ?_
  obtain ⟨p, ep, hp, hpr⟩ := places_ok code (by omega)
  obtain ⟨t, et, _, _⟩ := drawHex_ok code (by omega)
  have p0 := hpr _ (rd_mem p 0 (by omega) (by omega))
  refine Ev.bind ep (Ev.bind et (Ev.call rfl (Ev.pos (by simp) ?_)))
  have one : Ev (fun k => laws_FnFrames.j0 k p [t, two, three] true) true := by
    refine Ev.step (fun _ => laws_FnFrames.j0.eq_2 ..) (Ev.pos rfl (Ev.pos (by simp) ?_))
    exact frames_from p hp p0.1 (⟨#[111, 110, 101]⟩ : ByteArray) (by show 1 ≤ 3 ∧ 3 ≤ 900; omega)
  refine Ev.ite (fun h => one) (fun h => ?_)
  by_cases h9 : (t.size : Int) > 900
  · show Ev (fun k => laws_FnFrames.j0 k p [t, two, three] (decide ((t.size : Int) > 900))) true
    rw [decide_eq_true h9]; exact one
  · show Ev (fun k => laws_FnFrames.j0 k p [t, two, three] (decide ((t.size : Int) > 900))) true
    rw [decide_eq_false h9]
    refine Ev.step (fun _ => laws_FnFrames.j0.eq_2 ..) (Ev.neg (by simp) ?_)
    have h' : ¬ (t.size : Int) = 0 := h
    exact frames_from p hp p0.1 t (by omega)

end Go.Proofs.Ytmmpjeadjfamfaa.Pure
