/- FnNumbers returns true for all arguments: a drawn number comes back from VarText and from Decimal, a drawn text from ShortText and Hex. No conditions beyond the statement's own. -/
import Derived.Test.YtmmpjeadjfamfaaDoorQdnx3
import Derived.Test.YtmmpjeadjfamfaaDoorBase
namespace Go.Proofs.YtmmpjeadjfamfaaDoor.Pure
open Go.RowKit Go.Proofs.YtmmpjeadjfamfaaDoor.Qdn Go.Proofs.YtmmpjeadjfamfaaDoorW.PrintWords Go.Proofs.YtmmpjeadjfamfaaDoorW.PrintLast Go.Proofs.YtmmpjeadjfamfaaDoorW.PrintMore Go.Proofs.YtmmpjeadjfamfaaDoor.Base

theorem byte_ok (l : List Int) (i h : Int) (hi : 0 ≤ i) (hl : l.length ≤ 140737488355328) :
    ∃ r i' h', spec_l01Byte.f l i h = some (r, i', h') ∧ 0 ≤ r ∧ r ≤ 255 ∧ 0 ≤ i' := by
  unfold spec_l01Byte.f
  by_cases c : i < (l.length : Int)
  · rw [if_pos c, if_pos hi]
    exact ⟨_, _, _, rfl, (and255 _).1, (and255 _).2, by rw [w64 (by omega) (by omega)]; omega⟩
  · rw [if_neg c]
    exact ⟨_, _, _, rfl, (and255 _).1, (and255 _).2, hi⟩
theorem below_ok (l : List Int) (i h n : Int) (hi : 0 ≤ i) (hl : l.length ≤ 140737488355328) :
    ∃ r i' h', spec_l01Below.f l i h n = some (r, i', h') ∧ 0 ≤ i' ∧ 0 ≤ r ∧ (0 < n → r < n) ∧ (n ≤ 0 → r = 0) := by
  unfold spec_l01Below.f
  by_cases c : n ≤ 0
  · rw [if_pos c]; exact ⟨_, _, _, rfl, hi, by omega, by omega, fun _ => rfl⟩
  · rw [if_neg c]
    by_cases c2 : n ≤ 256
    · rw [if_pos c2]
      obtain ⟨r, i1, h1, e, r0, r1, hi1⟩ := byte_ok l i h hi hl
      rw [e, Option.bind_some, if_neg (by omega)]
      have := tmod_in r n r0 (by omega)
      exact ⟨_, _, _, rfl, hi1, this.1, fun _ => this.2, by omega⟩
    · rw [if_neg c2]
      obtain ⟨x, i1, h1, e1, x0, x1, hi1⟩ := byte_ok l i h hi hl
      obtain ⟨y, i2, h2, e2, y0, y1, hi2⟩ := byte_ok l i1 h1 hi1 hl
      obtain ⟨z, i3, h3, e3, z0, z1, hi3⟩ := byte_ok l i2 h2 hi2 hl
      obtain ⟨w, i4, h4, e4, w0, w1, hi4⟩ := byte_ok l i3 h3 hi3 hl
      rw [e1, Option.bind_some, e2, Option.bind_some, e3, Option.bind_some, e4, Option.bind_some, if_neg (by omega)]
      have q1 : wrap64 (x * 16777216) = x * 16777216 := w64 (by omega) (by omega)
      have q2 : wrap64 (y * 65536) = y * 65536 := w64 (by omega) (by omega)
      have q3 : wrap64 (z * 256) = z * 256 := w64 (by omega) (by omega)
      simp only [q1, q2, q3]
      rw [w64 (n := x * 16777216 + y * 65536) (by omega) (by omega), w64 (n := x * 16777216 + y * 65536 + z * 256) (by omega) (by omega), w64 (n := x * 16777216 + y * 65536 + z * 256 + w) (by omega) (by omega)]
      have := tmod_in (x * 16777216 + y * 65536 + z * 256 + w) n (by omega) (by omega)
      exact ⟨_, _, _, rfl, hi4, this.1, fun _ => this.2, by omega⟩
theorem new_l0 (l : List Int) (d : Nat) :
    ∀ (j : Nat) (x : Int), j + d = l.length → ∃ h, Ev (fun k => spec_l01New.l0 k l x (j : Int)) (l, 0, h) := by
  induction d with
  | zero => intro j x hj; exact ⟨x, Ev.step (fun _ => spec_l01New.l0.eq_2 ..) (Ev.neg (by omega) (Ev.now _))⟩
  | succ d ih =>
    intro j x hj
    by_cases c : (j : Int) < 4000
    · obtain ⟨h, e⟩ := ih (j + 1) (Go.bits .and .i64 (wrap64 ((wrap64 ((wrap64 (x * 131)) + (wrap64 (rd l j)))) + 7)) 1073741823) (by omega)
      refine ⟨h, Ev.step (fun _ => spec_l01New.l0.eq_2 ..) (Ev.pos (by omega) (Ev.pos c (Ev.pos (by omega) ?_)))⟩
      rw [w64_succ j (by omega)]
      exact e
    · exact ⟨x, Ev.step (fun _ => spec_l01New.l0.eq_2 ..) (Ev.pos (by omega) (Ev.neg c (Ev.now _)))⟩
theorem new_ok (l : List Int) (_hl : l.length ≤ 140737488355328) : ∃ h, Ev (fun k => spec_l01New.f k l) (l, 0, h) := by
  obtain ⟨h, e⟩ := new_l0 l l.length 0 (wrap64 (34901 + (l.length : Int))) (by omega)
  exact ⟨h, Ev.congr (fun _ => spec_l01New.f.eq_1 ..) e⟩
theorem big_eq (l : List Int) : laws_big.f l = some (decide ((l.length : Int) > 1048576)) := rfl
theorem pickInt_ok (l : List Int) (i h : Int) (xs : List Int) (hx : 0 < xs.length) (hi : 0 ≤ i) (hl : l.length ≤ 140737488355328) :
    ∃ r i' h', spec_l01PickInt.f l i h xs = some (r, i', h') ∧ 0 ≤ i' ∧ r ∈ xs := by
  unfold spec_l01PickInt.f
  obtain ⟨r, i1, h1, e, hi1, r0, r1, _⟩ := below_ok l i h (xs.length : Int) hi hl
  rw [e, Option.bind_some, if_pos r0, if_pos (r1 (by omega))]
  exact ⟨_, _, _, rfl, hi1, rd_mem xs r r0 (r1 (by omega))⟩
theorem text_l0 (l : List Int) (hl : l.length ≤ 140737488355328) (n : Nat) (hn : n ≤ 5000) (d : Nat) :
    ∀ (j : Nat) (acc : List Int) (i h : Int), j + d = n → acc.length = j → 0 ≤ i →
      ∃ r i' h', Ev (fun k => spec_l01Text.l0 k (n : Int) acc (j : Int) l i h) (r, i', h') ∧ 0 ≤ i' ∧ r.size = n := by
  induction d with
  | zero =>
    intro j acc i h hj hc hi
    exact ⟨_, _, _, Ev.step (fun _ => spec_l01Text.l0.eq_2 ..) (Ev.neg (by omega) (Ev.now _)), hi, by rw [strOfNums_size]; omega⟩
  | succ d ih =>
    intro j acc i h hj hc hi
    obtain ⟨b, i1, h1, e, _, _, hi1⟩ := byte_ok l i h hi hl
    obtain ⟨r, i2, h2, er, hi2, hr⟩ := ih (j + 1) (acc ++ [b % 256]) i1 h1 (by omega) (by simp; omega) hi1
    refine ⟨r, i2, h2, Ev.step (fun _ => spec_l01Text.l0.eq_2 ..) (Ev.pos (by omega) (Ev.call e (Ev.pos (by omega) ?_))), hi2, hr⟩
    rw [w64_succ j (by omega)]
    exact er
theorem text_ok (l : List Int) (hl : l.length ≤ 140737488355328) (i h n : Int) (hi : 0 ≤ i) (hn : 0 ≤ n ∧ n ≤ 5000) :
    ∃ r i' h', Ev (fun k => spec_l01Text.f k l i h n) (r, i', h') ∧ 0 ≤ i' ∧ (r.size : Int) = n := by
  obtain ⟨m, rfl⟩ := Int.eq_ofNat_of_zero_le hn.1
  obtain ⟨r, i', h', e, a, b⟩ := text_l0 l hl m (by omega) m 0 [] i h (by omega) rfl hi
  exact ⟨r, i', h', Ev.congr (fun _ => spec_l01Text.f.eq_1 ..) (Ev.neg (by omega) (Ev.step (fun _ => spec_l01Text.j0.eq_2 ..) e)), a, by omega⟩
theorem long_l0 (n : Nat) (x : Int) (hn : n ≤ 281474976710656) (d : Nat) :
    ∀ (j : Nat) (acc : List Int), j + d = n → acc.length = n → ∃ r, Ev (fun k => spec_l01Long.l0 k (n : Int) x acc (j : Int)) r ∧ r.size = n := by
  induction d with
  | zero =>
    intro j acc hj hc
    exact ⟨_, Ev.step (fun _ => spec_l01Long.l0.eq_2 ..) (Ev.neg (by omega) (Ev.now _)), by rw [strOfNums_size]; omega⟩
  | succ d ih =>
    intro j acc hj hc
    obtain ⟨r, er, hr⟩ := ih (j + 1) (acc.set (j : Int).toNat x) (by omega) (by simp; omega)
    refine ⟨r, Ev.step (fun _ => spec_l01Long.l0.eq_2 ..) (Ev.pos (by omega) (Ev.pos (by omega) (Ev.pos (by omega) ?_))), hr⟩
    rw [w64_succ j (by omega)]
    exact er
theorem long_ok (n x : Int) (hn : 0 ≤ n ∧ n ≤ 281474976710656) : ∃ r, Ev (fun k => spec_l01Long.f k n x) r ∧ (r.size : Int) = n := by
  obtain ⟨m, rfl⟩ := Int.eq_ofNat_of_zero_le hn.1
  obtain ⟨r, e, hr⟩ := long_l0 m x (by omega) m 0 (List.replicate m 0) (by omega) (by simp)
  exact ⟨r, Ev.congr (fun _ => spec_l01Long.f.eq_1 ..) (Ev.pos (by omega) (Ev.pos (by omega) e)), by omega⟩
theorem once_ok' (l : List Int) (i h n : Int) (hi : 0 ≤ i) (hl : l.length ≤ 140737488355328) :
    ∃ b i' h', spec_l01Once.f l i h n = some (b, i', h') ∧ 0 ≤ i' := by
  unfold spec_l01Once.f
  obtain ⟨r, i1, h1, e, hi1, _⟩ := below_ok l i h n hi hl
  rw [e, Option.bind_some]
  exact ⟨_, _, _, rfl, hi1⟩
theorem drawHex_ok (l : List Int) (hl : l.length ≤ 140737488355328) : ∃ r, Ev (fun k => spec_DrawHex.f k l) r ∧ r.size ≤ 20001 ∧ (r.size < 30 ∨ 20000 ≤ r.size) := by
  obtain ⟨h, e⟩ := new_ok l hl
  obtain ⟨b, i1, h1, e1, hi1⟩ := once_ok' l 0 h 60 (by omega) hl
  by_cases c : b = true
  · obtain ⟨x, i2, h2, e2, hi2, x0, x1, _⟩ := below_ok l i1 h1 2 hi1 hl
    have x1 := x1 (by omega)
    obtain ⟨r, er, hr⟩ := long_ok (20000 + x) 200 (by omega)
    refine ⟨r, Ev.congr (fun _ => spec_DrawHex.f.eq_1 ..) (Ev.bind e (Ev.call e1 (Ev.pos c (Ev.call e2 ?_)))), by omega, by omega⟩
    show Ev (fun n => (spec_l01Long.f n (wrap64 (20000 + x)) 200).bind fun t => some t) r
    rw [w64 (n := 20000 + x) (by omega) (by omega)]
    exact Ev.bind er (Ev.now _)
  · obtain ⟨x, i2, h2, e2, hi2, x0, x1, _⟩ := below_ok l i1 h1 30 hi1 hl
    have x1 := x1 (by omega)
    obtain ⟨r, i3, h3, er, _, hr⟩ := text_ok l hl i2 h2 x hi2 (by omega)
    exact ⟨r, Ev.congr (fun _ => spec_DrawHex.f.eq_1 ..) (Ev.bind e (Ev.call e1 (Ev.neg c (Ev.call e2 (Ev.bind er (Ev.now _)))))), by omega, by omega⟩
theorem within_eq (n lo hi : Int) : impl_within.f n lo hi = some (decide (lo ≤ n ∧ n ≤ hi)) := by
  unfold impl_within.f
  by_cases h : n ≥ lo
  · rw [if_pos h]; congr 1; rw [decide_eq_decide]; exact ⟨fun h2 => ⟨h, h2⟩, fun h2 => h2.2⟩
  · rw [if_neg h]; congr 1; symm; rw [decide_eq_false_iff_not]; exact fun h2 => h h2.1
theorem implVarText_l0 (n : Nat) : ∀ acc : List Int, acc.length + n < 140737488355328 → Ev (fun k => impl_VarText.l0 k (n : Int) acc) (strOfNums (acc ++ varNums n), true) := by
  induction n using Nat.strongRecOn with
  | _ n ih =>
    intro acc hl
    refine Ev.step (fun _ => impl_VarText.l0.eq_2 ..) ?_
    by_cases h : 127 < n
    · refine Ev.pos (by omega) (Ev.pos (by omega) ?_)
      rw [varNums_big n h, show Int.tdiv (n : Int) 128 = ((n / 128 : Nat) : Int) from Int.ofNat_tdiv n 128 ▸ rfl, show Int.tmod (n : Int) 128 = ((n % 128 : Nat) : Int) from rfl,
        w64 (by omega) (by omega), w64 (by omega) (by omega), show (((n % 128 : Nat) : Int) + 128) % 256 = ((n % 128 + 128 : Nat) : Int) from by omega]
      have := ih (n / 128) (by omega) (acc ++ [((n % 128 + 128 : Nat) : Int)]) (by simp; omega)
      rwa [List.append_assoc] at this
    · refine Ev.neg (by omega) (Ev.pos (by omega) (Ev.some ?_))
      rw [varNums_small n h, show (n : Int) % 256 = n from by omega]
theorem implVarText_ev (n : Int) : Ev (fun k => impl_VarText.f k n) (if 0 ≤ n ∧ n ≤ 1000000000 then (strOfNums (varNums n.toNat), true) else ((⟨#[]⟩ : ByteArray), false)) := by
  refine Ev.congr (fun _ => impl_VarText.f.eq_1 ..) (Ev.call (within_eq ..) ?_)
  by_cases h : 0 ≤ n ∧ n ≤ 1000000000
  · rw [if_pos h, decide_eq_true h]
    obtain ⟨m, rfl⟩ := Int.eq_ofNat_of_zero_le h.1
    exact Ev.pos rfl (by simpa using implVarText_l0 m [] (by simp; omega))
  · rw [if_neg h, decide_eq_false h]
    exact Ev.neg (by simp) (Ev.now _)
theorem implVarText_nat (n : Nat) (h : n ≤ 1000000000) : Ev (fun k => impl_VarText.f k (n : Int)) (strOfNums (varNums n), true) := by
  have := implVarText_ev (n : Int)
  rwa [if_pos (by omega), Int.toNat_natCast] at this
theorem implShortText_ev (s : ByteArray) : Ev (fun k => impl_ShortText.f k s) (if s.size ≤ 20000 then (strOfNums (varNums s.size) ++ s, true) else ((⟨#[]⟩ : ByteArray), false)) := by
  refine Ev.congr (fun _ => impl_ShortText.f.eq_1 ..) ?_
  by_cases h : s.size ≤ 20000
  · rw [if_pos h]
    refine Ev.neg (by omega) (Ev.bind (implVarText_nat s.size (by omega)) (Ev.pos ?_ (Ev.now _)))
    show (strOfNums _).size + _ ≤ _
    rw [strOfNums_size]
    have := varNums_length s.size
    omega
  · rw [if_neg h]; exact Ev.pos (by omega) (Ev.now _)
theorem bytesOf_range (s : ByteArray) : ∀ x ∈ bytesOf s, 0 ≤ x ∧ x ≤ 255 := by
  intro x hx
  obtain ⟨b, _, rfl⟩ := List.mem_map.1 hx
  have := b.toNat_lt
  omega
theorem strOfNums_bytesOf (s : ByteArray) : strOfNums (bytesOf s) = s := by
  apply ByteArray.ext
  unfold strOfNums bytesOf
  rw [List.map_map, show ((fun n : Int => UInt8.ofNat n.toNat) ∘ fun b : UInt8 => (b.toNat : Int)) = id from by funext b; simp]
  simp
theorem bytesOf_strOfNums (l : List Int) (h : ∀ x ∈ l, 0 ≤ x ∧ x ≤ 255) : bytesOf (strOfNums l) = l := by
  unfold strOfNums bytesOf
  simp only [List.map_map]
  conv => rhs; rw [← List.map_id l]
  apply List.map_congr_left
  intro x hx
  have := h x hx
  show ((UInt8.ofNat x.toNat).toNat : Int) = x
  rw [UInt8.toNat_ofNat']
  omega
theorem strOfNums_eq (l : List Int) (s : ByteArray) (h : ∀ x ∈ l, 0 ≤ x ∧ x ≤ 255) : strOfNums l = s ↔ l = bytesOf s :=
  ⟨fun e => by rw [← e, bytesOf_strOfNums l h], fun e => by rw [e, strOfNums_bytesOf]⟩
theorem bytesOf_inj {s t : ByteArray} (h : bytesOf s = bytesOf t) : s = t := by
  rw [← strOfNums_bytesOf s, h, strOfNums_bytesOf]
theorem bytesOf_append (s t : ByteArray) : bytesOf (s ++ t) = bytesOf s ++ bytesOf t := by
  unfold bytesOf; simp
theorem bytesOf_extract (s : ByteArray) (a b : Nat) : bytesOf (s.extract a b) = ((bytesOf s).drop a).take (b - a) := by
  unfold bytesOf
  rw [ByteArray.data_extract]
  simp [List.extract_eq_take_drop, List.map_take, List.map_drop]
theorem append_right_inj (a b c : ByteArray) : a ++ b = a ++ c ↔ b = c := by
  constructor
  · intro h
    apply bytesOf_inj
    have := congrArg bytesOf h
    rw [bytesOf_append, bytesOf_append] at this
    exact List.append_cancel_left this
  · intro h; rw [h]
theorem append_left_inj (a b c : ByteArray) : a ++ c = b ++ c ↔ a = b := by
  constructor
  · intro h
    apply bytesOf_inj
    have := congrArg bytesOf h
    rw [bytesOf_append, bytesOf_append] at this
    exact List.append_cancel_right this
  · intro h; rw [h]
theorem extract_join (s : ByteArray) (a b c : Nat) (h1 : a ≤ b) (h2 : b ≤ c) : s.extract a b ++ s.extract b c = s.extract a c := by
  apply bytesOf_inj
  rw [bytesOf_append, bytesOf_extract, bytesOf_extract, bytesOf_extract]
  rw [show c - a = (b - a) + (c - b) from by omega, List.take_add, List.drop_drop, show a + (b - a) = b from by omega]
/-- The number that bytes of seven bits are. -/
def valL : List Int → Int
  | [] => 0
  | b :: r => b % 128 + 128 * valL r
theorem valL_snoc (p : List Int) (c : Int) : valL (p ++ [c]) = valL p + c % 128 * 128 ^ p.length := by
  induction p with
  | nil => simp [valL]
  | cons b p ih =>
    show b % 128 + 128 * valL (p ++ [c]) = b % 128 + 128 * valL p + c % 128 * 128 ^ (p.length + 1)
    rw [ih, Int.pow_succ, Int.mul_add, ← Int.add_assoc]
    congr 1
    rw [← Int.mul_assoc, Int.mul_comm 128 (c % 128), Int.mul_assoc, Int.mul_comm 128 (128 ^ p.length)]
theorem valL_bound (p : List Int) : 0 ≤ valL p ∧ valL p < 128 ^ p.length := by
  induction p with
  | nil => simp [valL]
  | cons b p ih =>
    show 0 ≤ b % 128 + 128 * valL p ∧ b % 128 + 128 * valL p < 128 ^ (p.length + 1)
    rw [Int.pow_succ]
    generalize (128 : Int) ^ p.length = z at *
    omega
theorem canon (pre : List Int) (c : Int) (hp : ∀ b ∈ pre, 128 ≤ b ∧ b ≤ 255) (hc : 0 ≤ c ∧ c ≤ 127) :
    varNums (valL (pre ++ [c])).toNat = pre ++ [c] ↔ (pre = [] ∨ c ≠ 0) := by
  induction pre with
  | nil =>
    have e : valL ([] ++ [c]) = c := by show c % 128 + 128 * 0 = c; omega
    rw [e, varNums_small _ (by omega)]
    have : ((c.toNat : Nat) : Int) = c := by omega
    simp [this]
  | cons b p ih =>
    have hb := hp b (List.mem_cons_self ..)
    have ih := ih (fun x hx => hp x (List.mem_cons_of_mem _ hx))
    have hV := valL_bound (p ++ [c])
    have hs := valL_snoc p c
    have hpow : 0 < (128 : Int) ^ p.length := Int.pow_pos (by omega)
    have hvp := valL_bound p
    show varNums (b % 128 + 128 * valL (p ++ [c])).toNat = b :: (p ++ [c]) ↔ _
    by_cases hz : valL (p ++ [c]) = 0
    · have c0 : c = 0 := by
        rw [hz] at hs
        rcases Int.lt_or_le 0 (c % 128) with h | h
        · have := Int.mul_pos h hpow; omega
        · omega
      rw [hz, varNums_small _ (by omega)]
      simp [c0]
    · rw [varNums_big _ (by omega)]
      have e1 : (((b % 128 + 128 * valL (p ++ [c])).toNat % 128 + 128 : Nat) : Int) = b := by omega
      have e2 : (b % 128 + 128 * valL (p ++ [c])).toNat / 128 = (valL (p ++ [c])).toNat := by omega
      rw [e1, e2, List.cons.injEq]
      simp only [true_and, ih, reduceCtorEq, false_or]
      constructor
      · rintro (rfl | h)
        · intro h0; apply hz; rw [h0]; rfl
        · exact h
      · exact fun h => .inr h
/-- The number that bytes begin with: how many have been read, what they are, what is left. -/
def rvL : Nat → Nat → Int → List Int → Option (Int × Nat)
  | 0, _, _, _ => none
  | _ + 1, _, _, [] => none
  | d + 1, i, n, c :: r => if c > 127 then rvL d (i + 1) (n + c % 128 * 128 ^ i) r else if (0 < i ∧ c = 0) ∨ n + c % 128 * 128 ^ i > 1000000000 then none else some (n + c % 128 * 128 ^ i, i + 1)
def rvOut (a : Int) : Option (Int × Nat) → Int × Int × Bool
  | none => (0, 0, false)
  | some (n, j) => (n, a + (j : Int), true)
def readVarM (s : ByteArray) (a : Int) : Int × Int × Bool :=
  if 0 ≤ a ∧ a ≤ (s.size : Int) then rvOut a (rvL 5 0 0 ((bytesOf s).drop a.toNat)) else (0, 0, false)
theorem pow5 (i : Nat) (h : i < 5) : 1 ≤ (128 : Int) ^ i ∧ (128 : Int) ^ i ≤ 268435456 := by
  have : i = 0 ∨ i = 1 ∨ i = 2 ∨ i = 3 ∨ i = 4 := by omega
  rcases this with rfl | rfl | rfl | rfl | rfl <;> decide
theorem mul_small (x z : Int) (hx : 0 ≤ x ∧ x ≤ 127) (hz : 1 ≤ z ∧ z ≤ 268435456) : 0 ≤ x * z ∧ x * z ≤ 127 * z :=
  ⟨Int.mul_nonneg hx.1 (by omega), Int.mul_le_mul_of_nonneg_right hx.2 (by omega)⟩
theorem rvL_cons (d i : Nat) (n c : Int) (r : List Int) : rvL (d + 1) i n (c :: r) = if c > 127 then rvL d (i + 1) (n + c % 128 * 128 ^ i) r else if (0 < i ∧ c = 0) ∨ n + c % 128 * 128 ^ i > 1000000000 then none else some (n + c % 128 * 128 ^ i, i + 1) := rfl
theorem implReadVar_l0 (s : ByteArray) (a : Nat) (hs : s.size ≤ 140737488355328) (ha : a ≤ s.size) (d : Nat) :
    ∀ (i : Nat) (n : Int), i + d = 5 → 0 ≤ n → n < 128 ^ i → Ev (fun k => impl_ReadVar.l0 k s (a : Int) n (i : Int)) (rvOut (a : Int) (rvL d i n ((bytesOf s).drop (a + i)))) := by
  induction d with
  | zero =>
    intro i n hi _ _
    exact Ev.step (fun _ => impl_ReadVar.l0.eq_2 ..) (Ev.neg (by omega) (Ev.step (fun _ => impl_ReadVar.j1.eq_2 ..) (Ev.neg (by simp) (Ev.some rfl))))
  | succ d ih =>
    intro i n hi hn0 hn1
    refine Ev.step (fun _ => impl_ReadVar.l0.eq_2 ..) (Ev.pos (by omega) (Ev.step (fun _ => impl_ReadVar.j1.eq_2 ..) ?_))
    have e0 : wrap64 ((a : Int) + (i : Int)) = ((a + i : Nat) : Int) := by rw [w64 (by omega) (by omega)]; omega
    rw [e0]
    by_cases h : a + i < s.size
    · rw [bytesOf_drop s (a + i) h, rvL_cons]
      have hb := bt_range s ((a + i : Nat) : Int)
      generalize bt s ((a + i : Nat) : Int) = c at *
      have hp := pow5 i (by omega)
      have hm := mul_small (c % 128) (128 ^ i) (by omega) hp
      have e1 : wrap64 c = c := w64 (by omega) (by omega)
      have e2 : Int.tmod c 128 = c % 128 := Int.tmod_eq_emod_of_nonneg (by omega)
      have e3 : shl .i64 (c % 128) (wrap64 (7 * (i : Int))) = c % 128 * 128 ^ i := by
        rw [w64 (n := 7 * (i : Int)) (by omega) (by omega)]
        unfold shl
        have q : (2 : Int) ^ min (7 * (i : Int)).toNat IntKind.i64.bits = 128 ^ i := by
          have : i = 0 ∨ i = 1 ∨ i = 2 ∨ i = 3 ∨ i = 4 := by omega
          rcases this with rfl | rfl | rfl | rfl | rfl <;> decide
        rw [q, IntKind.wrap_i64]
        generalize (128 : Int) ^ i = z at *
        generalize c % 128 * z = y at *
        omega
      rw [e1, e2, e3]
      have e4 : wrap64 (n + c % 128 * 128 ^ i) = n + c % 128 * 128 ^ i := by
        generalize (128 : Int) ^ i = z at *
        exact w64 (by omega) (by omega)
      rw [e4, w64_succ i (by omega), w64_succ (a + i) (by omega)]
      refine Ev.pos (by rw [decide_eq_true_iff]; omega) (Ev.pos (by omega) (Ev.pos (by omega) (Ev.pos (by rw [w64 (by omega) (by omega)]; omega) ?_)))
      refine Ev.ite (fun hc => ?_) (fun hc => ?_)
      · rw [if_pos hc, show a + i + 1 = a + (i + 1) from by omega]
        refine ih (i + 1) _ (by omega) ?_ ?_
        · generalize (128 : Int) ^ i = z at *
          omega
        · rw [Int.pow_succ]
          generalize (128 : Int) ^ i = z at *
          omega
      · rw [if_neg hc]
        have out : ∀ x, x = rvOut (a : Int) (some (n + c % 128 * 128 ^ i, i + 1)) → Ev (fun _ => some (n + c % 128 * 128 ^ i, ((a + i + 1 : Nat) : Int), true)) x := fun x hx => Ev.some (by rw [hx]; show _ = (_, (a : Int) + ((i + 1 : Nat) : Int), true); rw [show ((a + i + 1 : Nat) : Int) = (a : Int) + ((i + 1 : Nat) : Int) from by omega])
        refine Ev.ite (fun hi0 => ?_) (fun hi0 => ?_)
        · refine Ev.ite (fun hc0 => ?_) (fun hc0 => ?_)
          · rw [if_pos (.inl ⟨by omega, hc0⟩)]; exact Ev.some rfl
          · refine Ev.ite (fun hb2 => ?_) (fun hb2 => ?_)
            · rw [if_pos (.inr hb2)]; exact Ev.some rfl
            · rw [if_neg (fun z => z.elim (fun y => hc0 y.2) hb2)]; exact out _ rfl
        · refine Ev.ite (fun hb2 => ?_) (fun hb2 => ?_)
          · rw [if_pos (.inr hb2)]; exact Ev.some rfl
          · rw [if_neg (fun z => z.elim (fun y => hi0 (by omega)) hb2)]; exact out _ rfl
    · refine Ev.neg (by rw [decide_eq_true_iff]; omega) (Ev.some ?_)
      rw [List.drop_eq_nil_of_le (by rw [bytesOf_length]; omega)]; rfl
theorem implReadVar_ev (s : ByteArray) (a : Int) (hs : s.size ≤ 140737488355328) : Ev (fun k => impl_ReadVar.f k s a) (readVarM s a) := by
  refine Ev.congr (fun _ => impl_ReadVar.f.eq_1 ..) (Ev.call (within_eq ..) ?_)
  unfold readVarM
  by_cases h : 0 ≤ a ∧ a ≤ (s.size : Int)
  · rw [if_pos h, decide_eq_true h]
    obtain ⟨m, rfl⟩ := Int.eq_ofNat_of_zero_le h.1
    exact Ev.pos rfl (implReadVar_l0 s m hs (by omega) 5 0 0 (by omega) (by omega) (by decide))
  · rw [if_neg h, decide_eq_false h]
    exact Ev.neg (by simp) (Ev.now _)
theorem rvL_range (d : Nat) : ∀ (i : Nat) (n : Int) (l : List Int) (m : Int) (j : Nat), i + d = 5 → 0 ≤ n → (∀ x ∈ l, 0 ≤ x) → rvL d i n l = some (m, j) → 0 ≤ m ∧ m ≤ 1000000000 ∧ i < j ∧ j ≤ i + l.length ∧ j ≤ 5 := by
  induction d with
  | zero => intro i n l m j _ _ _ h; simp [rvL] at h
  | succ d ih =>
    intro i n l m j hi hn hl h
    cases l with
    | nil => simp [rvL] at h
    | cons c r =>
      rw [rvL_cons] at h
      have hp := pow5 i (by omega)
      have hc := hl c (List.mem_cons_self ..)
      have hm := mul_small (c % 128) (128 ^ i) (by omega) hp
      by_cases h1 : c > 127
      · rw [if_pos h1] at h
        obtain ⟨a, b, e, f, g⟩ := ih (i + 1) _ r m j (by omega) (by omega) (fun x hx => hl x (List.mem_cons_of_mem _ hx)) h
        rw [List.length_cons]
        omega
      · rw [if_neg h1] at h
        by_cases h2 : (0 < i ∧ c = 0) ∨ n + c % 128 * 128 ^ i > 1000000000
        · rw [if_pos h2] at h; cases h
        · rw [if_neg h2] at h
          rw [Option.some.injEq, Prod.mk.injEq] at h
          rw [List.length_cons]
          have := fun z => h2 (.inr z)
          omega
/-- What a number is that is read: in its range, and its end is in the text, at most five bytes on. -/
theorem readVarM_range (s : ByteArray) (a : Int) (h : (readVarM s a).2.2 = true) :
    0 ≤ a ∧ a < (readVarM s a).2.1 ∧ (readVarM s a).2.1 ≤ (s.size : Int) ∧ (readVarM s a).2.1 ≤ a + 5 ∧ 0 ≤ (readVarM s a).1 ∧ (readVarM s a).1 ≤ 1000000000 := by
  unfold readVarM at h ⊢
  by_cases h1 : 0 ≤ a ∧ a ≤ (s.size : Int)
  · rw [if_pos h1] at h ⊢
    cases e : rvL 5 0 0 ((bytesOf s).drop a.toNat) with
    | none => rw [e] at h; simp [rvOut] at h
    | some x =>
      obtain ⟨m, j⟩ := x
      obtain ⟨b, c, f, g, q⟩ := rvL_range 5 0 0 _ m j (by omega) (by omega) (fun x hx => (bytesOf_range s x (List.mem_of_mem_drop hx)).1) e
      rw [List.length_drop, bytesOf_length] at g
      show 0 ≤ a ∧ a < a + (j : Int) ∧ a + (j : Int) ≤ _ ∧ a + (j : Int) ≤ a + 5 ∧ 0 ≤ m ∧ m ≤ _
      omega
  · rw [if_neg h1] at h; simp at h
theorem readVarM_false (s : ByteArray) (a : Int) (h : ¬ (readVarM s a).2.2 = true) : readVarM s a = (0, 0, false) := by
  unfold readVarM at h ⊢
  by_cases h1 : 0 ≤ a ∧ a ≤ (s.size : Int)
  · rw [if_pos h1] at h ⊢
    cases e : rvL 5 0 0 ((bytesOf s).drop a.toNat) with
    | none => rfl
    | some x => rw [e] at h; simp [rvOut] at h
  · rw [if_neg h1]
def readShortM (s : ByteArray) (a : Int) : ByteArray × Int × Bool :=
  if (readVarM s a).2.2 = true ∧ (readVarM s a).1 ≤ 20000 ∧ (readVarM s a).1 ≤ (s.size : Int) - (readVarM s a).2.1 then
    (s.extract (readVarM s a).2.1.toNat ((readVarM s a).2.1 + (readVarM s a).1).toNat, (readVarM s a).2.1 + (readVarM s a).1, true)
  else ((⟨#[]⟩ : ByteArray), 0, false)
theorem implReadShort_ev (s : ByteArray) (a : Int) (hs : s.size ≤ 140737488355328) : Ev (fun k => impl_ReadShort.f k s a) (readShortM s a) := by
  refine Ev.congr (fun _ => impl_ReadShort.f.eq_1 ..) (Ev.bind (implReadVar_ev s a hs) ?_)
  by_cases h : (readVarM s a).2.2 = true
  · have hr := readVarM_range s a h
    rw [w64 (n := (s.size : Int) - (readVarM s a).2.1) (by omega) (by omega), w64 (n := (readVarM s a).2.1 + (readVarM s a).1) (by omega) (by omega)]
    refine Ev.pos h (Ev.ite (fun h1 => ?_) (fun h1 => ?_))
    · exact Ev.some (if_neg (by omega)).symm
    · refine Ev.ite (fun h2 => ?_) (fun h2 => ?_)
      · exact Ev.some (if_neg (by omega)).symm
      · exact Ev.pos (by omega) (Ev.pos (by omega) (Ev.pos (by omega) (Ev.some (if_pos ⟨h, by omega, by omega⟩).symm)))
  · exact Ev.neg h (Ev.some (if_neg (fun z => h z.1)).symm)
theorem varNums_len (k : Nat) : ∀ n : Nat, n < 128 ^ (k + 1) → (varNums n).length ≤ k + 1 := by
  induction k with
  | zero =>
    intro n h
    rw [varNums_small n (by omega)]; simp
  | succ k ih =>
    intro n h
    by_cases hn : 127 < n
    · rw [varNums_big n hn, List.length_cons]
      have := ih (n / 128) (by
        rw [Nat.pow_succ] at h
        exact Nat.div_lt_of_lt_mul (by rw [Nat.mul_comm]; exact h))
      omega
    · rw [varNums_small n hn]; simp
theorem rvL_back (n : Nat) : ∀ (d i : Nat) (acc : Int) (rest : List Int), (varNums n).length ≤ d → (n = 0 → i = 0) → 0 ≤ acc → acc + (n : Int) * 128 ^ i ≤ 1000000000 →
    rvL d i acc (varNums n ++ rest) = some (acc + (n : Int) * 128 ^ i, i + (varNums n).length) := by
  induction n using Nat.strongRecOn with
  | _ n ih =>
    intro d i acc rest hd h0 ha hb
    have hz : 0 < (128 : Int) ^ i := Int.pow_pos (by omega)
    by_cases h : 127 < n
    · rw [varNums_big n h] at hd ⊢
      rw [List.length_cons] at hd ⊢
      obtain ⟨d, rfl⟩ : ∃ m, d = m + 1 := ⟨d - 1, by omega⟩
      rw [List.cons_append, rvL_cons, if_pos (by omega)]
      have e1 : (((n % 128 + 128 : Nat) : Int)) % 128 = ((n % 128 : Nat) : Int) := by omega
      have e2 : acc + ((n % 128 : Nat) : Int) * 128 ^ i + ((n / 128 : Nat) : Int) * 128 ^ (i + 1) = acc + (n : Int) * 128 ^ i := by
        rw [Int.pow_succ, Int.add_assoc]
        congr 1
        rw [Int.mul_comm ((128 : Int) ^ i) 128, ← Int.mul_assoc, ← Int.add_mul]
        congr 1
        omega
      rw [e1]
      have hm : 0 ≤ ((n % 128 : Nat) : Int) * 128 ^ i := Int.mul_nonneg (by omega) (by omega)
      rw [ih (n / 128) (by omega) d (i + 1) _ rest (by omega) (by omega) (by omega) (by rw [e2]; exact hb), e2, show i + 1 + (varNums (n / 128)).length = i + ((varNums (n / 128)).length + 1) from by omega]
    · rw [varNums_small n h] at hd ⊢
      obtain ⟨d, rfl⟩ : ∃ m, d = m + 1 := ⟨d - 1, by simp at hd; omega⟩
      rw [List.cons_append, rvL_cons, if_neg (by omega), show (n : Int) % 128 = n from by omega, if_neg (by
        rintro (⟨a, b⟩ | c)
        · have := h0 (by omega); omega
        · omega)]
      rfl
theorem frame_reads (s : ByteArray) (P : List Int) (n : Nat) (R : List Int) (hn : n ≤ 1000000000) (h : bytesOf s = P ++ (varNums n ++ R)) :
    readVarM s (P.length : Int) = ((n : Int), ((P.length + (varNums n).length : Nat) : Int), true) := by
  have hl := congrArg List.length h
  rw [bytesOf_length, List.length_append, List.length_append] at hl
  unfold readVarM
  rw [if_pos (by omega), Int.toNat_natCast, h, List.drop_left]
  have hv := varNums_len 4 n (by omega)
  rw [rvL_back n 5 0 0 R hv (fun _ => rfl) (by omega) (by simp; omega)]
  simp [rvOut]
def figM (x : Int) : Int := if x < 10 then 48 + x else 87 + x
def hexM (l : List Int) : List Int := l.flatMap fun b => [figM (b / 16), figM (b % 16)]
theorem hexM_cons (b : Int) (l : List Int) : hexM (b :: l) = [figM (b / 16), figM (b % 16)] ++ hexM l := List.flatMap_cons
theorem figures_at (x : Int) (h : 0 ≤ x ∧ x < 16) : bt (⟨#[48, 49, 50, 51, 52, 53, 54, 55, 56, 57, 97, 98, 99, 100, 101, 102]⟩ : ByteArray) x = figM x := by
  obtain ⟨n, rfl⟩ := Int.eq_ofNat_of_zero_le h.1
  have : n = 0 ∨ n = 1 ∨ n = 2 ∨ n = 3 ∨ n = 4 ∨ n = 5 ∨ n = 6 ∨ n = 7 ∨ n = 8 ∨ n = 9 ∨ n = 10 ∨ n = 11 ∨ n = 12 ∨ n = 13 ∨ n = 14 ∨ n = 15 := by omega
  rcases this with rfl | rfl | rfl | rfl | rfl | rfl | rfl | rfl | rfl | rfl | rfl | rfl | rfl | rfl | rfl | rfl <;> rfl
theorem implHex_l0 (s : ByteArray) (hs : s.size ≤ 20000) (d : Nat) :
    ∀ (i : Nat) (acc : List Int), i + d = s.size → acc.length = 2 * i → Ev (fun k => impl_Hex.l0 k s acc (i : Int)) (strOfNums (acc ++ hexM ((bytesOf s).drop i)), true) := by
  induction d with
  | zero =>
    intro i acc hi _
    refine Ev.step (fun _ => impl_Hex.l0.eq_2 ..) (Ev.neg (by omega) (Ev.some ?_))
    rw [List.drop_eq_nil_of_le (by rw [bytesOf_length]; omega)]; simp [hexM]
  | succ d ih =>
    intro i acc hi ha
    have hb := bt_range s (i : Int)
    refine Ev.step (fun _ => impl_Hex.l0.eq_2 ..) (Ev.pos (by omega) (Ev.pos (by omega) ?_))
    rw [bytesOf_drop s i (by omega), hexM_cons, w64_succ i (by omega)]
    generalize bt s (i : Int) = c at *
    rw [Int.tdiv_eq_ediv_of_nonneg hb.1, Int.tmod_eq_emod_of_nonneg hb.1, show c / 16 % 256 = c / 16 from by omega]
    refine Ev.pos (by omega) (Ev.pos (by omega) (Ev.pos (by omega) (Ev.pos (by omega) ?_)))
    rw [figures_at (c / 16) (by omega), figures_at (c % 16) (by omega)]
    refine Ev.call rfl (Ev.pos (by show acc.length + 2 < _; omega) ?_)
    rw [← List.append_assoc]
    exact ih (i + 1) _ (by omega) (by rw [List.length_append]; show acc.length + 2 = _; omega)
def hexOut (s : ByteArray) : ByteArray × Bool := if s.size ≤ 20000 then (strOfNums (hexM (bytesOf s)), true) else ((⟨#[]⟩ : ByteArray), false)
theorem implHex_ev (s : ByteArray) : Ev (fun k => impl_Hex.f k s) (hexOut s) := by
  refine Ev.congr (fun _ => impl_Hex.f.eq_1 ..) ?_
  unfold hexOut
  by_cases h : s.size ≤ 20000
  · rw [if_pos h]; exact Ev.neg (by omega) (by simpa using implHex_l0 s h s.size 0 [] (by omega) rfl)
  · rw [if_neg h]; exact Ev.pos (by omega) (Ev.now _)
def valM (c : Int) : Int := if 48 ≤ c ∧ c ≤ 57 then c - 48 else if 97 ≤ c ∧ c ≤ 102 then c - 87 else -1
theorem valM_range (c : Int) : -1 ≤ valM c ∧ valM c ≤ 15 := by
  unfold valM; split
  · omega
  · split <;> omega
theorem index_all : ∀ n : Fin 256, Lib.indexByte ([48, 49, 50, 51, 52, 53, 54, 55, 56, 57, 97, 98, 99, 100, 101, 102] : List UInt8) n.val.toUInt8 = valM (n.val : Int) := by decide +kernel
theorem index_eq (c : Int) (h : 0 ≤ c ∧ c ≤ 255) : strings_IndexByte.f (⟨#[48, 49, 50, 51, 52, 53, 54, 55, 56, 57, 97, 98, 99, 100, 101, 102]⟩ : ByteArray) c = some (valM c) := by
  have := index_all ⟨c.toNat, by omega⟩
  unfold strings_IndexByte.f
  rw [show (((⟨c.toNat, by omega⟩ : Fin 256).val : Nat) : Int) = c from by show ((c.toNat : Nat) : Int) = c; omega] at this
  exact congrArg some this
def unhexM : List Int → Option (List Int)
  | [] => some []
  | [_] => none
  | a :: b :: r => if valM a < 0 ∨ valM b < 0 then none else (unhexM r).map fun t => (16 * valM a + valM b) :: t
def unhexOut (acc : List Int) : Option (List Int) → ByteArray × Bool
  | none => ((⟨#[]⟩ : ByteArray), false)
  | some t => (strOfNums (acc ++ t), true)
theorem implUnhex_l0 (s : ByteArray) (hs : s.size ≤ 40000) (d : Nat) :
    ∀ (i : Nat) (acc : List Int), i + 2 * d = s.size → acc.length ≤ i → Ev (fun k => impl_Unhex.l0 k s acc (i : Int)) (unhexOut acc (unhexM ((bytesOf s).drop i))) := by
  induction d with
  | zero =>
    intro i acc hi _
    refine Ev.step (fun _ => impl_Unhex.l0.eq_2 ..) (Ev.neg (by omega) (Ev.some ?_))
    rw [List.drop_eq_nil_of_le (by rw [bytesOf_length]; omega)]; simp [unhexM, unhexOut]
  | succ d ih =>
    intro i acc hi ha
    have hb := bt_range s (i : Int)
    have hc := bt_range s ((i + 1 : Nat) : Int)
    refine Ev.step (fun _ => impl_Unhex.l0.eq_2 ..) (Ev.pos (by omega) (Ev.pos (by omega) ?_))
    rw [bytesOf_drop s i (by omega), bytesOf_drop s (i + 1) (by omega), w64_succ i (by omega), show wrap64 ((i : Int) + 2) = ((i + 2 : Nat) : Int) from by rw [w64 (by omega) (by omega)]; omega]
    refine Ev.call (index_eq _ hb) (Ev.pos (by omega) (Ev.pos (by omega) (Ev.call (index_eq _ hc) ?_)))
    have r1 := valM_range (bt s (i : Int))
    have r2 := valM_range (bt s ((i + 1 : Nat) : Int))
    by_cases h1 : valM (bt s (i : Int)) < 0
    · have v : unhexM (bt s (i : Int) :: bt s ((i + 1 : Nat) : Int) :: (bytesOf s).drop (i + 1 + 1)) = none := by unfold unhexM; exact if_pos (.inl h1)
      rw [v]; exact Ev.pos h1 (Ev.now _)
    · by_cases h2 : valM (bt s ((i + 1 : Nat) : Int)) < 0
      · have v : unhexM (bt s (i : Int) :: bt s ((i + 1 : Nat) : Int) :: (bytesOf s).drop (i + 1 + 1)) = none := by unfold unhexM; exact if_pos (.inr h2)
        rw [v]; exact Ev.neg h1 (Ev.pos h2 (Ev.now _))
      · have v : unhexM (bt s (i : Int) :: bt s ((i + 1 : Nat) : Int) :: (bytesOf s).drop (i + 1 + 1)) = (unhexM ((bytesOf s).drop (i + 1 + 1))).map fun t => (16 * valM (bt s (i : Int)) + valM (bt s ((i + 1 : Nat) : Int))) :: t := by rw [unhexM, if_neg (fun z => z.elim h1 h2)]
        rw [v]
        refine Ev.neg h1 (Ev.neg h2 (Ev.pos (by omega) ?_))
        rw [w64 (n := 16 * valM (bt s (i : Int))) (by omega) (by omega), w64 (n := 16 * valM (bt s (i : Int)) + valM (bt s ((i + 1 : Nat) : Int))) (by omega) (by omega), show (16 * valM (bt s (i : Int)) + valM (bt s ((i + 1 : Nat) : Int))) % 256 = 16 * valM (bt s (i : Int)) + valM (bt s ((i + 1 : Nat) : Int)) from by omega]
        refine Ev.eq (ih (i + 2) _ (by omega) (by simp; omega)) ?_
        cases unhexM ((bytesOf s).drop (i + 2)) with
        | none => rfl
        | some t => simp [unhexOut]
def unhexF (s : ByteArray) : ByteArray × Bool := if s.size ≤ 40000 ∧ s.size % 2 = 0 then unhexOut [] (unhexM (bytesOf s)) else ((⟨#[]⟩ : ByteArray), false)
theorem implUnhex_ev (s : ByteArray) : Ev (fun k => impl_Unhex.f k s) (unhexF s) := by
  refine Ev.congr (fun _ => impl_Unhex.f.eq_1 ..) ?_
  by_cases h : (s.size : Int) % 2 = 0
  · refine Ev.pos h (Ev.step (fun _ => impl_Unhex.j0.eq_2 ..) ?_)
    by_cases h2 : (s.size : Int) > 40000
    · rw [show unhexF s = ((⟨#[]⟩ : ByteArray), false) from if_neg (by omega)]; exact Ev.pos (by rw [decide_eq_true h2]) (Ev.now _)
    · rw [show unhexF s = unhexOut [] (unhexM (bytesOf s)) from if_pos (by omega)]
      refine Ev.neg (by rw [decide_eq_false h2]; simp) ?_
      have := implUnhex_l0 s (by omega) (s.size / 2) 0 [] (by omega) (by simp)
      simpa using this
  · rw [show unhexF s = ((⟨#[]⟩ : ByteArray), false) from if_neg (by omega)]
    exact Ev.neg h (Ev.step (fun _ => impl_Unhex.j0.eq_2 ..) (Ev.pos rfl (Ev.now _)))
theorem number_ok (l : List Int) (i h : Int) (hi : 0 ≤ i) (hl : l.length ≤ 140737488355328) : ∃ v i' h', spec_l01Number.f l i h = some (v, i', h') := by
  unfold spec_l01Number.f
  obtain ⟨r, i1, h1, e, hi1, _⟩ := below_ok l i h 4 hi hl
  rw [e, Option.bind_some]
  by_cases c0 : r = 0
  · rw [if_pos c0]
    obtain ⟨v, i2, h2, e2, _⟩ := pickInt_ok l i1 h1 [(-1), 0, 127, 128, 16383, 16384, 1000000000, 1000000001, 9223372036854775807, (-9223372036854775808)] (by decide) hi1 hl
    rw [e2, Option.bind_some]; exact ⟨_, _, _, rfl⟩
  · rw [if_neg c0]
    by_cases c1 : r = 1
    · rw [if_pos c1]
      obtain ⟨v, i2, h2, e2, _⟩ := below_ok l i1 h1 1000000000 hi1 hl
      rw [e2, Option.bind_some]; exact ⟨_, _, _, rfl⟩
    · rw [if_neg c1]
      obtain ⟨v, i2, h2, e2, _⟩ := below_ok l i1 h1 400 hi1 hl
      rw [e2, Option.bind_some]; exact ⟨_, _, _, rfl⟩
theorem drawVar_ok (l : List Int) (hl : l.length ≤ 140737488355328) : ∃ v, Ev (fun k => spec_DrawVarText.f k l) v := by
  obtain ⟨h, e⟩ := new_ok l hl
  obtain ⟨v, i1, h1, e1⟩ := number_ok l 0 h (by omega) hl
  exact ⟨v, Ev.congr (fun _ => spec_DrawVarText.f.eq_1 ..) (Ev.bind e (Ev.call e1 (Ev.now _)))⟩
theorem val_fig (x : Int) (h : 0 ≤ x ∧ x < 16) : valM (figM x) = x := by
  unfold valM figM
  by_cases c : x < 10
  · rw [if_pos c, if_pos (by omega)]; omega
  · rw [if_neg c, if_neg (by omega), if_pos (by omega)]; omega
theorem fig_range (x : Int) (h : 0 ≤ x ∧ x < 16) : 0 ≤ figM x ∧ figM x ≤ 255 := by
  unfold figM; split <;> omega
theorem hex_back (l : List Int) : (∀ x ∈ l, 0 ≤ x ∧ x ≤ 255) → unhexM (hexM l) = some l := by
  induction l with
  | nil => intro _; rfl
  | cons b l ih =>
    intro h
    have hb := h b List.mem_cons_self
    have e1 := val_fig (b / 16) (by omega)
    have e2 := val_fig (b % 16) (by omega)
    rw [hexM_cons]
    show (if valM (figM (b / 16)) < 0 ∨ valM (figM (b % 16)) < 0 then none else (unhexM (hexM l)).map fun t => (16 * valM (figM (b / 16)) + valM (figM (b % 16))) :: t) = _
    rw [e1, e2, if_neg (by omega), ih (fun x hx => h x (List.mem_cons_of_mem _ hx))]
    show some ((16 * (b / 16) + b % 16) :: l) = _
    rw [show 16 * (b / 16) + b % 16 = b from by omega]
theorem hexM_range (l : List Int) : (∀ x ∈ l, 0 ≤ x ∧ x ≤ 255) → ∀ x ∈ hexM l, 0 ≤ x ∧ x ≤ 255 := by
  intro h x hx
  obtain ⟨b, hb, hx⟩ := List.mem_flatMap.1 hx
  have := h b hb
  simp only [List.mem_cons, List.not_mem_nil, or_false] at hx
  rcases hx with rfl | rfl
  · exact fig_range _ (by omega)
  · exact fig_range _ (by omega)
theorem hexM_length (l : List Int) : (hexM l).length = 2 * l.length := by
  induction l with
  | nil => rfl
  | cons b l ih => rw [hexM_cons, List.length_append, ih]; simp; omega
theorem bytesOf_range' (s : ByteArray) : ∀ x ∈ bytesOf s, 0 ≤ x ∧ x ≤ 255 := by
  intro x hx
  unfold bytesOf at hx
  obtain ⟨c, _, rfl⟩ := List.mem_map.1 hx
  have : c.toNat < 256 := c.toNat_lt
  omega
theorem extract_back (a t : ByteArray) : (a ++ t).extract a.size (a.size + t.size) = t := by
  apply bytesOf_inj
  rw [bytesOf_extract, bytesOf_append, show a.size = (bytesOf a).length from (bytesOf_length a).symm, List.drop_left, show (bytesOf a).length + t.size - (bytesOf a).length = (bytesOf t).length from by rw [bytesOf_length, bytesOf_length]; omega, List.take_length]
theorem hex_whole (t : ByteArray) (ht : t.size ≤ 20000) : unhexF (hexOut t).1 = (t, true) := by
  unfold hexOut
  rw [if_pos ht]
  show unhexF (strOfNums (hexM (bytesOf t))) = _
  have hr := hexM_range (bytesOf t) (bytesOf_range' t)
  have hl := hexM_length (bytesOf t)
  rw [bytesOf_length] at hl
  have hs := strOfNums_size (hexM (bytesOf t))
  unfold unhexF
  rw [if_pos (by omega), bytesOf_strOfNums _ hr, hex_back _ (bytesOf_range' t)]
  show (strOfNums ([] ++ bytesOf t), true) = _
  rw [List.nil_append, strOfNums_bytesOf]
theorem short_back (t : ByteArray) (ht : t.size ≤ 20000) : readShortM (strOfNums (varNums t.size) ++ t) 0 = (t, ((strOfNums (varNums t.size) ++ t).size : Int), true) := by
  have hb : bytesOf (strOfNums (varNums t.size) ++ t) = ([] : List Int) ++ (varNums t.size ++ bytesOf t) := by
    rw [bytesOf_append, bytesOf_strOfNums _ (varNums_range _), List.nil_append]
  have hr := frame_reads _ [] t.size (bytesOf t) (by omega) hb
  have hz := strOfNums_size (varNums t.size)
  have hsz : (strOfNums (varNums t.size) ++ t).size = (varNums t.size).length + t.size := by rw [ByteArray.size_append, hz]
  unfold readShortM
  have e0 : ((([] : List Int).length : Nat) : Int) = 0 := rfl
  rw [e0] at hr
  rw [hr]
  simp only [List.length_nil, Nat.zero_add]
  rw [if_pos ⟨trivial, by omega, by rw [hsz]; omega⟩]
  have e1 : (((varNums t.size).length : Nat) : Int).toNat = (strOfNums (varNums t.size)).size := by rw [hz]; omega
  have e2 : ((((varNums t.size).length : Nat) : Int) + (t.size : Int)).toNat = (strOfNums (varNums t.size)).size + t.size := by rw [hz]; omega
  rw [e1, e2, extract_back, hsz]
  congr 1
theorem num_j2 (t : ByteArray) (ht : t.size ≤ 300) (n : Nat) (s : ByteArray) (hs : s.size ≤ 100) :
    Ev (fun k => laws_FnNumbers.j2 k (n : Int) s true (n : Int) ((s.size : Int) + 1) true (n : Int) true t) true := by
  have h1 := implShortText_ev t
  rw [if_pos (by omega)] at h1
  have hv := varNums_len 4 t.size (by omega)
  have hz := strOfNums_size (varNums t.size)
  have hsz : (strOfNums (varNums t.size) ++ t).size = (varNums t.size).length + t.size := by rw [ByteArray.size_append, hz]
  have h2 := implReadShort_ev (strOfNums (varNums t.size) ++ t) 0 (by omega)
  rw [short_back t (by omega)] at h2
  have h3 := implHex_ev t
  have h4 := implUnhex_ev (hexOut t).1
  rw [hex_whole t (by omega)] at h4
  have h5 : (hexOut t).2 = true := by unfold hexOut; rw [if_pos (by omega)]
  refine Ev.step (fun _ => laws_FnNumbers.j2.eq_2 ..) (Ev.bind h1 (Ev.bind h2 (Ev.bind h3 (Ev.bind h4 ?_))))
  refine Ev.pos rfl (Ev.pos rfl (Ev.pos rfl (Ev.pos rfl (Ev.pos rfl (Ev.pos h5 (Ev.pos rfl (Ev.pos rfl (Ev.pos rfl (Ev.pos ?_ (Ev.pos rfl (Ev.pos rfl (Ev.some ?_))))))))))))
  · rw [w64 (by omega) (by omega)]
  · simp
theorem num_j1 (l : List Int) (hl : l.length ≤ 140737488355328) (n : Nat) (hn : n ≤ 1000000000) : Ev (fun k => laws_FnNumbers.j1 k l (n : Int)) true := by
  have h1 := implVarText_nat n hn
  have hv := varNums_len 4 n (by omega)
  have hz := strOfNums_size (varNums n)
  have hb : bytesOf (((⟨#[120]⟩ : ByteArray) ++ strOfNums (varNums n)) ++ (⟨#[121]⟩ : ByteArray)) = [120] ++ (varNums n ++ [121]) := by
    rw [bytesOf_append, bytesOf_append, bytesOf_strOfNums _ (varNums_range _), List.append_assoc]; rfl
  have hr := frame_reads _ [120] n [121] hn hb
  have hsx : (((⟨#[120]⟩ : ByteArray) ++ strOfNums (varNums n)) ++ (⟨#[121]⟩ : ByteArray)).size = 1 + (varNums n).length + 1 := by rw [ByteArray.size_append, ByteArray.size_append, hz]; rfl
  have hsy : ((⟨#[120]⟩ : ByteArray) ++ strOfNums (varNums n)).size = 1 + (varNums n).length := by rw [ByteArray.size_append, hz]; rfl
  have h2 := implReadVar_ev (((⟨#[120]⟩ : ByteArray) ++ strOfNums (varNums n)) ++ (⟨#[121]⟩ : ByteArray)) 1 (by omega)
  have e0 : ((([120] : List Int).length : Nat) : Int) = 1 := rfl
  rw [e0] at hr
  rw [hr] at h2
  have h3 : impl_Decimal.f (n : Int) = some ⟨(Lib.itoa (n : Int)).toArray⟩ := by unfold impl_Decimal.f; rw [if_pos (by omega), if_pos (by omega)]
  have h4 : impl_ReadDecimal.f ⟨(Lib.itoa (n : Int)).toArray⟩ = some ((n : Int), true) := by
    unfold impl_ReadDecimal.f
    rw [if_pos (RdI.itoa_size n (by omega)), RdI.readI_itoa n (by omega)]
  obtain ⟨t, h5, _, _⟩ := drawHex_ok l hl
  have e3 : ((([120] : List Int).length + (varNums n).length : Nat) : Int) = ((strOfNums (varNums n)).size : Int) + 1 := by rw [hz]; simp; omega
  rw [e3] at h2
  refine Ev.step (fun _ => laws_FnNumbers.j1.eq_2 ..) (Ev.bind h1 (Ev.pos (by show 1 + (strOfNums (varNums n)).size ≤ 9223372036854775807; omega) (Ev.pos (by show ((⟨#[120]⟩ : ByteArray) ++ strOfNums (varNums n)).size + 1 ≤ 9223372036854775807; omega) (Ev.bind h2 (Ev.call h3 (Ev.call h4 (Ev.bind h5 ?_)))))))
  refine Ev.ite (fun _ => ?_) (fun hh => ?_)
  · exact num_j2 _ (by decide) n _ (by show (strOfNums (varNums n)).size ≤ 100; omega)
  · exact num_j2 t (by omega) n _ (by show (strOfNums (varNums n)).size ≤ 100; omega)
theorem FnNumbers : laws_FnNumbers.Pure := by
  intro l _ hl _
  apply Ev.rounds
  refine Ev.congr (fun _ => laws_FnNumbers.f.eq_1 ..) (Ev.call (big_eq l) (Ev.ite (fun _ => Ev.now _) (fun _ => ?_)))
  obtain ⟨v, e⟩ := drawVar_ok l (by omega)
  refine Ev.bind e (Ev.ite (fun h0 => ?_) (fun h0 => ?_))
  · exact Ev.step (fun _ => laws_FnNumbers.j0.eq_2 ..) (Ev.pos rfl (num_j1 l (by omega) 12345 (by omega)))
  · refine Ev.step (fun _ => laws_FnNumbers.j0.eq_2 ..) (Ev.ite (fun _ => num_j1 l (by omega) 12345 (by omega)) (fun h1 => ?_))
    have h1' := of_decide_eq_false (Bool.eq_false_iff.2 h1)
    have := num_j1 l (by omega) v.toNat (by omega)
    rw [show ((v.toNat : Nat) : Int) = v from by omega] at this
    exact this

end Go.Proofs.YtmmpjeadjfamfaaDoor.Pure
