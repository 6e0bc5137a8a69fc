/- FnExactUnframe returns true for all arguments: the program's Unframe answers what the reference's answers, in new memory. No conditions beyond the statement's own. -/
import Derived.Test.YtmmpjeadjfamfaaQfx8
import Derived.Test.YtmmpjeadjfamfaaBase
namespace Go.Proofs.Ytmmpjeadjfamfaa.Pure
open Go.RowKit Go.Proofs.Ytmmpjeadjfamfaa.Qf Go.Proofs.YtmmpjeadjfamfaaW.PrintWords Go.Proofs.YtmmpjeadjfamfaaW.PrintLast Go.Proofs.YtmmpjeadjfamfaaW.PrintMore Go.Proofs.Ytmmpjeadjfamfaa.Base

theorem bytesOf_range (s : ByteArray) : ∀ x ∈ bytesOf s, 0 ≤ x ∧ x ≤ 255 := by
  intro x hx
  obtain ⟨b, _, rfl⟩ := List.mem_map.1 hx
  have := b.toNat_lt
  omega
theorem strOfNums_bytesOf (s : ByteArray) : strOfNums (bytesOf s) = s := by
  apply ByteArray.ext
  unfold strOfNums bytesOf
  rw [List.map_map, show ((fun n : Int => UInt8.ofNat n.toNat) ∘ fun b : UInt8 => (b.toNat : Int)) = id from by funext b; simp]
  simp
theorem bytesOf_strOfNums (l : List Int) (h : ∀ x ∈ l, 0 ≤ x ∧ x ≤ 255) : bytesOf (strOfNums l) = l := by
  unfold strOfNums bytesOf
  simp only [List.map_map]
  conv => rhs; rw [← List.map_id l]
  apply List.map_congr_left
  intro x hx
  have := h x hx
  show ((UInt8.ofNat x.toNat).toNat : Int) = x
  rw [UInt8.toNat_ofNat']
  omega
theorem strOfNums_eq (l : List Int) (s : ByteArray) (h : ∀ x ∈ l, 0 ≤ x ∧ x ≤ 255) : strOfNums l = s ↔ l = bytesOf s :=
  ⟨fun e => by rw [← e, bytesOf_strOfNums l h], fun e => by rw [e, strOfNums_bytesOf]⟩
theorem bytesOf_inj {s t : ByteArray} (h : bytesOf s = bytesOf t) : s = t := by
  rw [← strOfNums_bytesOf s, h, strOfNums_bytesOf]
theorem bytesOf_append (s t : ByteArray) : bytesOf (s ++ t) = bytesOf s ++ bytesOf t := by
  unfold bytesOf; simp
theorem bytesOf_extract (s : ByteArray) (a b : Nat) : bytesOf (s.extract a b) = ((bytesOf s).drop a).take (b - a) := by
  unfold bytesOf
  rw [ByteArray.data_extract]
  simp [List.extract_eq_take_drop, List.map_take, List.map_drop]
theorem append_right_inj (a b c : ByteArray) : a ++ b = a ++ c ↔ b = c := by
  constructor
  · intro h
    apply bytesOf_inj
    have := congrArg bytesOf h
    rw [bytesOf_append, bytesOf_append] at this
    exact List.append_cancel_left this
  · intro h; rw [h]
theorem append_left_inj (a b c : ByteArray) : a ++ c = b ++ c ↔ a = b := by
  constructor
  · intro h
    apply bytesOf_inj
    have := congrArg bytesOf h
    rw [bytesOf_append, bytesOf_append] at this
    exact List.append_cancel_right this
  · intro h; rw [h]
theorem extract_join (s : ByteArray) (a b c : Nat) (h1 : a ≤ b) (h2 : b ≤ c) : s.extract a b ++ s.extract b c = s.extract a c := by
  apply bytesOf_inj
  rw [bytesOf_append, bytesOf_extract, bytesOf_extract, bytesOf_extract]
  rw [show c - a = (b - a) + (c - b) from by omega, List.take_add, List.drop_drop, show a + (b - a) = b from by omega]
/-- The number that bytes of seven bits are. -/
def valL : List Int → Int
  | [] => 0
  | b :: r => b % 128 + 128 * valL r
theorem valL_snoc (p : List Int) (c : Int) : valL (p ++ [c]) = valL p + c % 128 * 128 ^ p.length := by
  induction p with
  | nil => simp [valL]
  | cons b p ih =>
    show b % 128 + 128 * valL (p ++ [c]) = b % 128 + 128 * valL p + c % 128 * 128 ^ (p.length + 1)
    rw [ih, Int.pow_succ, Int.mul_add, ← Int.add_assoc]
    congr 1
    rw [← Int.mul_assoc, Int.mul_comm 128 (c % 128), Int.mul_assoc, Int.mul_comm 128 (128 ^ p.length)]
theorem valL_bound (p : List Int) : 0 ≤ valL p ∧ valL p < 128 ^ p.length := by
  induction p with
  | nil => simp [valL]
  | cons b p ih =>
    show 0 ≤ b % 128 + 128 * valL p ∧ b % 128 + 128 * valL p < 128 ^ (p.length + 1)
    rw [Int.pow_succ]
    generalize (128 : Int) ^ p.length = z at *
    omega
theorem canon (pre : List Int) (c : Int) (hp : ∀ b ∈ pre, 128 ≤ b ∧ b ≤ 255) (hc : 0 ≤ c ∧ c ≤ 127) :
    varNums (valL (pre ++ [c])).toNat = pre ++ [c] ↔ (pre = [] ∨ c ≠ 0) := by
  induction pre with
  | nil =>
    have e : valL ([] ++ [c]) = c := by show c % 128 + 128 * 0 = c; omega
    rw [e, varNums_small _ (by omega)]
    have : ((c.toNat : Nat) : Int) = c := by omega
    simp [this]
  | cons b p ih =>
    have hb := hp b (List.mem_cons_self ..)
    have ih := ih (fun x hx => hp x (List.mem_cons_of_mem _ hx))
    have hV := valL_bound (p ++ [c])
    have hs := valL_snoc p c
    have hpow : 0 < (128 : Int) ^ p.length := Int.pow_pos (by omega)
    have hvp := valL_bound p
    show varNums (b % 128 + 128 * valL (p ++ [c])).toNat = b :: (p ++ [c]) ↔ _
    by_cases hz : valL (p ++ [c]) = 0
    · have c0 : c = 0 := by
        rw [hz] at hs
        rcases Int.lt_or_le 0 (c % 128) with h | h
        · have := Int.mul_pos h hpow; omega
        · omega
      rw [hz, varNums_small _ (by omega)]
      simp [c0]
    · rw [varNums_big _ (by omega)]
      have e1 : (((b % 128 + 128 * valL (p ++ [c])).toNat % 128 + 128 : Nat) : Int) = b := by omega
      have e2 : (b % 128 + 128 * valL (p ++ [c])).toNat / 128 = (valL (p ++ [c])).toNat := by omega
      rw [e1, e2, List.cons.injEq]
      simp only [true_and, ih, reduceCtorEq, false_or]
      constructor
      · rintro (rfl | h)
        · intro h0; apply hz; rw [h0]; rfl
        · exact h
      · exact fun h => .inr h
/-- The number that bytes begin with: how many have been read, what they are, what is left. -/
def rvL : Nat → Nat → Int → List Int → Option (Int × Nat)
  | 0, _, _, _ => none
  | _ + 1, _, _, [] => none
  | d + 1, i, n, c :: r => if c > 127 then rvL d (i + 1) (n + c % 128 * 128 ^ i) r else if (0 < i ∧ c = 0) ∨ n + c % 128 * 128 ^ i > 1000000000 then none else some (n + c % 128 * 128 ^ i, i + 1)
def rvOut (a : Int) : Option (Int × Nat) → Int × Int × Bool
  | none => (0, 0, false)
  | some (n, j) => (n, a + (j : Int), true)
def readVarM (s : ByteArray) (a : Int) : Int × Int × Bool :=
  if 0 ≤ a ∧ a ≤ (s.size : Int) then rvOut a (rvL 5 0 0 ((bytesOf s).drop a.toNat)) else (0, 0, false)
theorem pow5 (i : Nat) (h : i < 5) : 1 ≤ (128 : Int) ^ i ∧ (128 : Int) ^ i ≤ 268435456 := by
  have : i = 0 ∨ i = 1 ∨ i = 2 ∨ i = 3 ∨ i = 4 := by omega
  rcases this with rfl | rfl | rfl | rfl | rfl <;> decide
theorem mul_small (x z : Int) (hx : 0 ≤ x ∧ x ≤ 127) (hz : 1 ≤ z ∧ z ≤ 268435456) : 0 ≤ x * z ∧ x * z ≤ 127 * z :=
  ⟨Int.mul_nonneg hx.1 (by omega), Int.mul_le_mul_of_nonneg_right hx.2 (by omega)⟩
theorem rvL_cons (d i : Nat) (n c : Int) (r : List Int) : rvL (d + 1) i n (c :: r) = if c > 127 then rvL d (i + 1) (n + c % 128 * 128 ^ i) r else if (0 < i ∧ c = 0) ∨ n + c % 128 * 128 ^ i > 1000000000 then none else some (n + c % 128 * 128 ^ i, i + 1) := rfl
theorem l01In_eq (n lo hi : Int) : spec_l01In.f n lo hi = some (decide (lo ≤ n ∧ n ≤ hi)) := by
  unfold spec_l01In.f
  by_cases h : n ≥ lo
  · rw [if_pos h]; congr 1; rw [decide_eq_decide]; exact ⟨fun h2 => ⟨h, h2⟩, fun h2 => h2.2⟩
  · rw [if_neg h]; congr 1; symm; rw [decide_eq_false_iff_not]; exact fun h2 => h h2.1
theorem within_eq (n lo hi : Int) : impl_within.f n lo hi = some (decide (lo ≤ n ∧ n ≤ hi)) := by
  unfold impl_within.f
  by_cases h : n ≥ lo
  · rw [if_pos h]; congr 1; rw [decide_eq_decide]; exact ⟨fun h2 => ⟨h, h2⟩, fun h2 => h2.2⟩
  · rw [if_neg h]; congr 1; symm; rw [decide_eq_false_iff_not]; exact fun h2 => h h2.1
theorem l01Var_l0 (n : Nat) : ∀ acc : List Int, acc.length + n < 140737488355328 → Ev (fun k => spec_l01Var.l0 k (n : Int) acc) (strOfNums (acc ++ varNums n)) := by
  induction n using Nat.strongRecOn with
  | _ n ih =>
    intro acc hl
    refine Ev.step (fun _ => spec_l01Var.l0.eq_2 ..) ?_
    by_cases h : 127 < n
    · refine Ev.pos (by omega) (Ev.pos (by omega) ?_)
      rw [varNums_big n h, show Int.tdiv (n : Int) 128 = ((n / 128 : Nat) : Int) from Int.ofNat_tdiv n 128 ▸ rfl, show Int.tmod (n : Int) 128 = ((n % 128 : Nat) : Int) from rfl,
        w64 (by omega) (by omega), w64 (by omega) (by omega), show (((n % 128 : Nat) : Int) + 128) % 256 = ((n % 128 + 128 : Nat) : Int) from by omega]
      have := ih (n / 128) (by omega) (acc ++ [((n % 128 + 128 : Nat) : Int)]) (by simp; omega)
      rwa [List.append_assoc] at this
    · refine Ev.neg (by omega) (Ev.pos (by omega) (Ev.some ?_))
      rw [varNums_small n h, show (n : Int) % 256 = n from by omega]
theorem l01Var_ev (n : Nat) (hn : n < 140737488355328) : Ev (fun k => spec_l01Var.f k (n : Int)) (strOfNums (varNums n)) := by
  have h := l01Var_l0 n [] (by simpa using hn)
  exact Ev.congr (fun _ => spec_l01Var.f.eq_1 ..) (by simpa using h)
theorem implReadVar_l0 (s : ByteArray) (a : Nat) (hs : s.size ≤ 140737488355328) (ha : a ≤ s.size) (d : Nat) :
    ∀ (i : Nat) (n : Int), i + d = 5 → 0 ≤ n → n < 128 ^ i → Ev (fun k => impl_ReadVar.l0 k s (a : Int) n (i : Int)) (rvOut (a : Int) (rvL d i n ((bytesOf s).drop (a + i)))) := by
  induction d with
  | zero =>
    intro i n hi _ _
    exact Ev.step (fun _ => impl_ReadVar.l0.eq_2 ..) (Ev.neg (by omega) (Ev.step (fun _ => impl_ReadVar.j1.eq_2 ..) (Ev.neg (by simp) (Ev.some rfl))))
  | succ d ih =>
    intro i n hi hn0 hn1
    refine Ev.step (fun _ => impl_ReadVar.l0.eq_2 ..) (Ev.pos (by omega) (Ev.step (fun _ => impl_ReadVar.j1.eq_2 ..) ?_))
    have e0 : wrap64 ((a : Int) + (i : Int)) = ((a + i : Nat) : Int) := by rw [w64 (by omega) (by omega)]; omega
    rw [e0]
    by_cases h : a + i < s.size
    · rw [bytesOf_drop s (a + i) h, rvL_cons]
      have hb := bt_range s ((a + i : Nat) : Int)
      generalize bt s ((a + i : Nat) : Int) = c at *
      have hp := pow5 i (by omega)
      have hm := mul_small (c % 128) (128 ^ i) (by omega) hp
      have e1 : wrap64 c = c := w64 (by omega) (by omega)
      have e2 : Int.tmod c 128 = c % 128 := Int.tmod_eq_emod_of_nonneg (by omega)
      have e3 : shl .i64 (c % 128) (wrap64 (7 * (i : Int))) = c % 128 * 128 ^ i := by
        rw [w64 (n := 7 * (i : Int)) (by omega) (by omega)]
        unfold shl
        have q : (2 : Int) ^ min (7 * (i : Int)).toNat IntKind.i64.bits = 128 ^ i := by
          have : i = 0 ∨ i = 1 ∨ i = 2 ∨ i = 3 ∨ i = 4 := by omega
          rcases this with rfl | rfl | rfl | rfl | rfl <;> decide
        rw [q, IntKind.wrap_i64]
        generalize (128 : Int) ^ i = z at *
        generalize c % 128 * z = y at *
        omega
      rw [e1, e2, e3]
      have e4 : wrap64 (n + c % 128 * 128 ^ i) = n + c % 128 * 128 ^ i := by
        generalize (128 : Int) ^ i = z at *
        exact w64 (by omega) (by omega)
      rw [e4, w64_succ i (by omega), w64_succ (a + i) (by omega)]
      refine Ev.pos (by rw [decide_eq_true_iff]; omega) (Ev.pos (by omega) (Ev.pos (by omega) (Ev.pos (by rw [w64 (by omega) (by omega)]; omega) ?_)))
      refine Ev.ite (fun hc => ?_) (fun hc => ?_)
      · rw [if_pos hc, show a + i + 1 = a + (i + 1) from by omega]
        refine ih (i + 1) _ (by omega) ?_ ?_
        · generalize (128 : Int) ^ i = z at *
          omega
        · rw [Int.pow_succ]
          generalize (128 : Int) ^ i = z at *
          omega
      · rw [if_neg hc]
        have out : ∀ x, x = rvOut (a : Int) (some (n + c % 128 * 128 ^ i, i + 1)) → Ev (fun _ => some (n + c % 128 * 128 ^ i, ((a + i + 1 : Nat) : Int), true)) x := fun x hx => Ev.some (by rw [hx]; show _ = (_, (a : Int) + ((i + 1 : Nat) : Int), true); rw [show ((a + i + 1 : Nat) : Int) = (a : Int) + ((i + 1 : Nat) : Int) from by omega])
        refine Ev.ite (fun hi0 => ?_) (fun hi0 => ?_)
        · refine Ev.ite (fun hc0 => ?_) (fun hc0 => ?_)
          · rw [if_pos (.inl ⟨by omega, hc0⟩)]; exact Ev.some rfl
          · refine Ev.ite (fun hb2 => ?_) (fun hb2 => ?_)
            · rw [if_pos (.inr hb2)]; exact Ev.some rfl
            · rw [if_neg (fun z => z.elim (fun y => hc0 y.2) hb2)]; exact out _ rfl
        · refine Ev.ite (fun hb2 => ?_) (fun hb2 => ?_)
          · rw [if_pos (.inr hb2)]; exact Ev.some rfl
          · rw [if_neg (fun z => z.elim (fun y => hi0 (by omega)) hb2)]; exact out _ rfl
    · refine Ev.neg (by rw [decide_eq_true_iff]; omega) (Ev.some ?_)
      rw [List.drop_eq_nil_of_le (by rw [bytesOf_length]; omega)]; rfl
theorem specReadVar_l0 (s : ByteArray) (a : Nat) (hs : s.size ≤ 140737488355328) (ha : a ≤ s.size) (d : Nat) :
    ∀ (i : Nat) (n : Int), i + d = 5 → a + i ≤ s.size → n = valL (((bytesOf s).drop a).take i) → (∀ b ∈ ((bytesOf s).drop a).take i, 128 ≤ b ∧ b ≤ 255) →
      Ev (fun k => spec_ReadVar.l0 k s (a : Int) n (128 ^ i) ((a + i : Nat) : Int)) (rvOut (a : Int) (rvL d i n ((bytesOf s).drop (a + i)))) := by
  induction d with
  | zero =>
    intro i n hi hai hn hp
    refine Ev.step (fun _ => spec_ReadVar.l0.eq_2 ..) (Ev.ite (fun _ => ?_) (fun _ => ?_))
    · refine Ev.step (fun _ => spec_ReadVar.j1.eq_2 ..) (Ev.neg ?_ (Ev.some rfl))
      rw [w64 (n := (a : Int) + 5) (by omega) (by omega), decide_eq_false (by omega)]; simp
    · exact Ev.step (fun _ => spec_ReadVar.j1.eq_2 ..) (Ev.neg (by simp) (Ev.some rfl))
  | succ d ih =>
    intro i n hi hai hn hp
    refine Ev.step (fun _ => spec_ReadVar.l0.eq_2 ..) ?_
    have hlen : (((bytesOf s).drop a).take i).length = i := by rw [List.length_take, List.length_drop, bytesOf_length]; omega
    by_cases h : a + i < s.size
    · refine Ev.pos (by omega) (Ev.step (fun _ => spec_ReadVar.j1.eq_2 ..) (Ev.pos ?_ (Ev.pos (by omega) (Ev.pos (by omega) ?_))))
      · rw [w64 (n := (a : Int) + 5) (by omega) (by omega), decide_eq_true (by omega)]
      have htake : ((bytesOf s).drop a).take (i + 1) = ((bytesOf s).drop a).take i ++ [bt s ((a + i : Nat) : Int)] := by
        have hg := bytesOf_get s (a + i) h
        rw [List.take_succ_eq_append_getElem (by rw [List.length_drop, bytesOf_length]; omega), List.getElem_drop, hg]
      have hv := valL_snoc (((bytesOf s).drop a).take i) (bt s ((a + i : Nat) : Int))
      have hbd := valL_bound (((bytesOf s).drop a).take i)
      have hcan := canon (((bytesOf s).drop a).take i) (bt s ((a + i : Nat) : Int)) hp
      rw [hlen, ← hn] at hv
      rw [hlen, ← hn] at hbd
      rw [← htake] at hv hcan
      have hnil : ((bytesOf s).drop a).take i = [] ↔ i = 0 := by
        rw [← List.length_eq_zero_iff, hlen]
      rw [hnil] at hcan
      rw [bytesOf_drop s (a + i) h, rvL_cons]
      have hb := bt_range s ((a + i : Nat) : Int)
      generalize hc' : bt s ((a + i : Nat) : Int) = c at *
      have hpw := pow5 i (by omega)
      have hm := mul_small (c % 128) (128 ^ i) (by omega) hpw
      have e1 : wrap64 c = c := w64 (by omega) (by omega)
      have e2 : Int.tmod c 128 = c % 128 := Int.tmod_eq_emod_of_nonneg (by omega)
      have e3 : wrap64 (c % 128 * 128 ^ i) = c % 128 * 128 ^ i := by
        generalize (128 : Int) ^ i = z at *
        generalize c % 128 * z = y at *
        exact w64 (by omega) (by omega)
      have e4 : wrap64 (n + c % 128 * 128 ^ i) = n + c % 128 * 128 ^ i := by
        generalize (128 : Int) ^ i = z at *
        generalize c % 128 * z = y at *
        exact w64 (by omega) (by omega)
      rw [e1, e2, e3, e4, w64_succ (a + i) (by omega)]
      by_cases hc : c > 127
      · rw [if_pos hc]
        refine Ev.neg (by omega) ?_
        rw [show wrap64 (128 ^ i * 128) = 128 ^ (i + 1) from by rw [Int.pow_succ]; exact w64 (by omega) (by omega), show a + i + 1 = a + (i + 1) from by omega]
        refine ih (i + 1) _ (by omega) (by omega) (by rw [hv]) (fun b hb' => ?_)
        rw [htake] at hb'
        rcases List.mem_append.1 hb' with hb' | hb'
        · exact hp b hb'
        · obtain rfl := List.mem_singleton.1 hb'; omega
      · rw [if_neg hc]
        refine Ev.pos (by omega) (Ev.ite (fun hb2 => ?_) (fun hb2 => ?_))
        · rw [if_pos (.inr hb2)]; exact Ev.some rfl
        · rw [← hv] at hb2 ⊢
          have hnn := valL_bound (((bytesOf s).drop a).take (i + 1))
          obtain ⟨m, hm'⟩ := Int.eq_ofNat_of_zero_le hnn.1
          have hcan := hcan (by omega)
          rw [hm'] at hcan hb2 ⊢
          refine Ev.bind (l01Var_ev m (by omega)) (Ev.pos (by omega) (Ev.pos (by omega) (Ev.pos (by omega) ?_)))
          rw [Int.toNat_natCast, Int.toNat_natCast]
          have hiff : (strOfNums (varNums m)).toList = (s.extract a (a + i + 1)).toList ↔ (i = 0 ∨ c ≠ 0) := by
            rw [toList_eq, strOfNums_eq _ _ (varNums_range m), bytesOf_extract, show a + i + 1 - a = i + 1 from by omega]
            simpa using hcan
          refine Ev.ite (fun hq => ?_) (fun hq => ?_)
          · rw [hiff] at hq
            rw [if_neg (fun z => z.elim (fun y => by omega) hb2)]
            refine Ev.some ?_
            show _ = (_, (a : Int) + ((i + 1 : Nat) : Int), true)
            rw [show ((a + i + 1 : Nat) : Int) = (a : Int) + ((i + 1 : Nat) : Int) from by omega]
          · rw [hiff] at hq
            rw [if_pos (.inl ⟨by omega, by omega⟩)]; exact Ev.some rfl
    · refine Ev.neg (by omega) (Ev.step (fun _ => spec_ReadVar.j1.eq_2 ..) (Ev.neg (by simp) (Ev.some ?_)))
      rw [List.drop_eq_nil_of_le (by rw [bytesOf_length]; omega)]; rfl
theorem implReadVar_ev (s : ByteArray) (a : Int) (hs : s.size ≤ 140737488355328) : Ev (fun k => impl_ReadVar.f k s a) (readVarM s a) := by
  refine Ev.congr (fun _ => impl_ReadVar.f.eq_1 ..) (Ev.call (within_eq ..) ?_)
  unfold readVarM
  by_cases h : 0 ≤ a ∧ a ≤ (s.size : Int)
  · rw [if_pos h, decide_eq_true h]
    obtain ⟨m, rfl⟩ := Int.eq_ofNat_of_zero_le h.1
    exact Ev.pos rfl (implReadVar_l0 s m hs (by omega) 5 0 0 (by omega) (by omega) (by decide))
  · rw [if_neg h, decide_eq_false h]
    exact Ev.neg (by simp) (Ev.now _)
theorem specReadVar_ev (s : ByteArray) (a : Int) (hs : s.size ≤ 140737488355328) : Ev (fun k => spec_ReadVar.f k s a) (readVarM s a) := by
  refine Ev.congr (fun _ => spec_ReadVar.f.eq_1 ..) (Ev.call (l01In_eq ..) ?_)
  unfold readVarM
  by_cases h : 0 ≤ a ∧ a ≤ (s.size : Int)
  · rw [if_pos h, decide_eq_true h]
    obtain ⟨m, rfl⟩ := Int.eq_ofNat_of_zero_le h.1
    exact Ev.pos rfl (specReadVar_l0 s m hs (by omega) 5 0 0 (by omega) (by omega) (by simp [valL]) (by simp))
  · rw [if_neg h, decide_eq_false h]
    exact Ev.neg (by simp) (Ev.now _)
theorem rvL_range (d : Nat) : ∀ (i : Nat) (n : Int) (l : List Int) (m : Int) (j : Nat), i + d = 5 → 0 ≤ n → (∀ x ∈ l, 0 ≤ x) → rvL d i n l = some (m, j) → 0 ≤ m ∧ m ≤ 1000000000 ∧ i < j ∧ j ≤ i + l.length ∧ j ≤ 5 := by
  induction d with
  | zero => intro i n l m j _ _ _ h; simp [rvL] at h
  | succ d ih =>
    intro i n l m j hi hn hl h
    cases l with
    | nil => simp [rvL] at h
    | cons c r =>
      rw [rvL_cons] at h
      have hp := pow5 i (by omega)
      have hc := hl c (List.mem_cons_self ..)
      have hm := mul_small (c % 128) (128 ^ i) (by omega) hp
      by_cases h1 : c > 127
      · rw [if_pos h1] at h
        obtain ⟨a, b, e, f, g⟩ := ih (i + 1) _ r m j (by omega) (by omega) (fun x hx => hl x (List.mem_cons_of_mem _ hx)) h
        rw [List.length_cons]
        omega
      · rw [if_neg h1] at h
        by_cases h2 : (0 < i ∧ c = 0) ∨ n + c % 128 * 128 ^ i > 1000000000
        · rw [if_pos h2] at h; cases h
        · rw [if_neg h2] at h
          rw [Option.some.injEq, Prod.mk.injEq] at h
          rw [List.length_cons]
          have := fun z => h2 (.inr z)
          omega
/-- What a number is that is read: in its range, and its end is in the text, at most five bytes on. -/
theorem readVarM_range (s : ByteArray) (a : Int) (h : (readVarM s a).2.2 = true) :
    0 ≤ a ∧ a < (readVarM s a).2.1 ∧ (readVarM s a).2.1 ≤ (s.size : Int) ∧ (readVarM s a).2.1 ≤ a + 5 ∧ 0 ≤ (readVarM s a).1 ∧ (readVarM s a).1 ≤ 1000000000 := by
  unfold readVarM at h ⊢
  by_cases h1 : 0 ≤ a ∧ a ≤ (s.size : Int)
  · rw [if_pos h1] at h ⊢
    cases e : rvL 5 0 0 ((bytesOf s).drop a.toNat) with
    | none => rw [e] at h; simp [rvOut] at h
    | some x =>
      obtain ⟨m, j⟩ := x
      obtain ⟨b, c, f, g, q⟩ := rvL_range 5 0 0 _ m j (by omega) (by omega) (fun x hx => (bytesOf_range s x (List.mem_of_mem_drop hx)).1) e
      rw [List.length_drop, bytesOf_length] at g
      show 0 ≤ a ∧ a < a + (j : Int) ∧ a + (j : Int) ≤ _ ∧ a + (j : Int) ≤ a + 5 ∧ 0 ≤ m ∧ m ≤ _
      omega
  · rw [if_neg h1] at h; simp at h
theorem readVarM_false (s : ByteArray) (a : Int) (h : ¬ (readVarM s a).2.2 = true) : readVarM s a = (0, 0, false) := by
  unfold readVarM at h ⊢
  by_cases h1 : 0 ≤ a ∧ a ≤ (s.size : Int)
  · rw [if_pos h1] at h ⊢
    cases e : rvL 5 0 0 ((bytesOf s).drop a.toNat) with
    | none => rfl
    | some x => rw [e] at h; simp [rvOut] at h
  · rw [if_neg h1]
theorem rvL_canon (d : Nat) : ∀ (pre l : List Int) (m : Int) (j : Nat), pre.length + d = 5 → (∀ b ∈ pre, 128 ≤ b ∧ b ≤ 255) → (∀ x ∈ l, 0 ≤ x ∧ x ≤ 255) → rvL d pre.length (valL pre) l = some (m, j) →
    ∃ k, j = pre.length + k ∧ k ≤ l.length ∧ 0 ≤ m ∧ varNums m.toNat = pre ++ l.take k := by
  induction d with
  | zero => intro pre l m j _ _ _ h; simp [rvL] at h
  | succ d ih =>
    intro pre l m j hi hp hl h
    cases l with
    | nil => simp [rvL] at h
    | cons c r =>
      rw [rvL_cons, ← valL_snoc] at h
      have hc := hl c (List.mem_cons_self ..)
      by_cases h1 : c > 127
      · rw [if_pos h1] at h
        have e : pre.length + 1 = (pre ++ [c]).length := by simp
        rw [e] at h
        obtain ⟨k, a, b, q, w⟩ := ih (pre ++ [c]) r m j (by simp; omega) (fun b hb => by
          rcases List.mem_append.1 hb with hb | hb
          · exact hp b hb
          · obtain rfl := List.mem_singleton.1 hb; omega) (fun x hx => hl x (List.mem_cons_of_mem _ hx)) h
        refine ⟨k + 1, by rw [a]; simp; omega, by simp; omega, q, ?_⟩
        rw [w, List.take_succ_cons, List.append_assoc]; rfl
      · rw [if_neg h1] at h
        by_cases h2 : (0 < pre.length ∧ c = 0) ∨ valL (pre ++ [c]) > 1000000000
        · rw [if_pos h2] at h; cases h
        · rw [if_neg h2] at h
          rw [Option.some.injEq, Prod.mk.injEq] at h
          obtain ⟨rfl, rfl⟩ := h
          refine ⟨1, rfl, by simp, (valL_bound _).1, ?_⟩
          rw [(canon pre c hp (by omega)).2 ?_]
          · rfl
          · by_cases hn : pre = []
            · exact .inl hn
            · right
              intro hc0
              exact h2 (.inl ⟨List.length_pos_iff.2 hn, hc0⟩)
/-- The bytes that a number was read from are its VarText. -/
theorem readVarM_canon (s : ByteArray) (a : Int) (h : (readVarM s a).2.2 = true) :
    s.extract a.toNat (readVarM s a).2.1.toNat = strOfNums (varNums (readVarM s a).1.toNat) := by
  unfold readVarM at h ⊢
  by_cases h1 : 0 ≤ a ∧ a ≤ (s.size : Int)
  · rw [if_pos h1] at h ⊢
    cases e : rvL 5 0 0 ((bytesOf s).drop a.toNat) with
    | none => rw [e] at h; simp [rvOut] at h
    | some x =>
      obtain ⟨m, j⟩ := x
      obtain ⟨k, q1, q2, q3, q4⟩ := rvL_canon 5 [] _ m j rfl (by simp) (fun x hx => bytesOf_range s x (List.mem_of_mem_drop hx)) e
      symm
      show strOfNums (varNums m.toNat) = s.extract a.toNat (a + (j : Int)).toNat
      rw [strOfNums_eq _ _ (varNums_range _), bytesOf_extract, q4, show (a + (j : Int)).toNat - a.toNat = k from by simp at q1; omega]
      rfl
  · rw [if_neg h1] at h; simp at h
theorem specSumMore_l1 (t : ByteArray) (ht : t.size ≤ 140737488355328) (i : Nat) (hi : i < t.size) (r : Int) (d : Nat) :
    ∀ (j : Nat) (s : Int), j + d = 8 → Ev (fun k => spec_SumMore.l0 k (crcRounds d s) t ((i + 1 : Nat) : Int)) r → Ev (fun k => spec_SumMore.l1 k s t (i : Int) (j : Int)) r := by
  induction d with
  | zero =>
    intro j s hj h
    refine Ev.step (fun _ => spec_SumMore.l1.eq_2 ..) (Ev.neg (by omega) ?_)
    rw [w64_succ i (by omega)]
    exact h
  | succ d ih =>
    intro j s hj h
    refine Ev.step (fun _ => spec_SumMore.l1.eq_2 ..) (Ev.pos (by omega) ?_)
    rw [w64_succ j (by omega)]
    rw [crcRounds] at h
    unfold crcRound at h
    refine Ev.ite (fun hc => ?_) (fun hc => ?_)
    · rw [if_pos hc] at h; exact ih (j + 1) _ (by omega) h
    · rw [if_neg hc] at h; exact ih (j + 1) _ (by omega) h
theorem specSumMore_l0 (t : ByteArray) (ht : t.size ≤ 140737488355328) (d : Nat) :
    ∀ (i : Nat) (s : Int), i + d = t.size → Ev (fun k => spec_SumMore.l0 k s t (i : Int)) (crcList s ((bytesOf t).drop i)) := by
  induction d with
  | zero =>
    intro i s hi
    refine Ev.step (fun _ => spec_SumMore.l0.eq_2 ..) (Ev.neg (by omega) (Ev.some ?_))
    rw [List.drop_eq_nil_of_le (by rw [bytesOf_length]; omega)]; rfl
  | succ d ih =>
    intro i s hi
    refine Ev.step (fun _ => spec_SumMore.l0.eq_2 ..) (Ev.pos (by omega) (Ev.pos (by omega) ?_))
    refine specSumMore_l1 t ht i (by omega) _ 8 0 _ (by omega) ?_
    refine Ev.eq (ih (i + 1) _ (by omega)) ?_
    rw [bytesOf_drop t i (by omega)]; rfl
theorem specSumMore_ev (s : Int) (t : ByteArray) (ht : t.size ≤ 140737488355328) : Ev (fun k => spec_SumMore.f k s t) (crcList s (bytesOf t)) :=
  specSumMore_l0 t ht t.size 0 s (by omega)
theorem implSumMore_same : ∀ k, (∀ s t i, impl_SumMore.l0 k s t i = spec_SumMore.l0 k s t i) ∧ (∀ s t i j, impl_SumMore.l1 k s t i j = spec_SumMore.l1 k s t i j)
  | 0 => ⟨fun _ _ _ => rfl, fun _ _ _ _ => rfl⟩
  | k + 1 => by
    have ih := implSumMore_same k
    refine ⟨fun s t i => ?_, fun s t i j => ?_⟩
    · rw [impl_SumMore.l0.eq_2, spec_SumMore.l0.eq_2, ih.2]
    · rw [impl_SumMore.l1.eq_2, spec_SumMore.l1.eq_2, ih.1, ih.2, ih.2]
theorem implSumMore_ev (s : Int) (t : ByteArray) (ht : t.size ≤ 140737488355328) : Ev (fun k => impl_SumMore.f k s t) (crcList s (bytesOf t)) :=
  Ev.congr (fun k => (implSumMore_same k).1 s t 0) (specSumMore_ev s t ht)
theorem specSumOf_ev (t : ByteArray) (ht : t.size ≤ 140737488355328) : Ev (fun k => spec_SumOf.f k t) (crcList 4294967295 (bytesOf t)) :=
  Ev.congr (fun _ => spec_SumOf.f.eq_1 ..) (Ev.bind (specSumMore_ev _ t ht) (Ev.now _))
theorem implSumOf_ev (t : ByteArray) (ht : t.size ≤ 140737488355328) : Ev (fun k => impl_SumOf.f k t) (crcList 4294967295 (bytesOf t)) :=
  Ev.congr (fun _ => impl_SumOf.f.eq_1 ..) (Ev.bind (implSumMore_ev _ t ht) (Ev.now _))
/-- Four bytes, the highest first. -/
def four (x : Int) : List Int := [x / 16777216 % 256, x / 65536 % 256, x / 256 % 256, x % 256]
def sumM (t : ByteArray) : Int := crcList 4294967295 (bytesOf t)
theorem crcRound_range (s : Int) : 0 ≤ crcRound s ∧ crcRound s < 4294967296 := by
  unfold crcRound
  split
  · exact xor32_range _ _
  · omega
theorem crcRounds_range (n : Nat) : ∀ s : Int, 0 ≤ s ∧ s < 4294967296 → 0 ≤ crcRounds n s ∧ crcRounds n s < 4294967296 := by
  induction n with
  | zero => intro s h; exact h
  | succ n ih => intro s _; exact ih _ (crcRound_range s)
theorem crcList_range (l : List Int) : ∀ s : Int, 0 ≤ s ∧ s < 4294967296 → 0 ≤ crcList s l ∧ crcList s l < 4294967296 := by
  induction l with
  | nil => intro s h; exact h
  | cons b l ih => intro s _; exact ih _ (crcRounds_range 8 _ (xor32_range _ _))
theorem sumM_range (t : ByteArray) : 0 ≤ sumM t ∧ sumM t < 4294967296 := crcList_range _ _ (by omega)
theorem specFour_eq (x : Int) : spec_l02Four.f x = some (strOfNums (four x)) := rfl
theorem highFirst_ev (x : Int) : Ev (fun k => impl_highFirst.f k x 4) (strOfNums (four x)) := by
  refine Ev.congr (fun _ => impl_highFirst.f.eq_1 ..) (Ev.pos (by omega) (Ev.pos (by decide) ?_))
  have go : ∀ y, Go.bits .and .i64 y 255 % 256 = y % 256 := fun y => by rw [and255_eq]; omega
  rw [show wrap64 ((4 : Int) - 1) = 3 from by unfold wrap64; omega]
  refine Ev.step (fun _ => impl_highFirst.l0.eq_2 ..) (Ev.pos (by omega) (Ev.pos (by omega) (Ev.pos (by decide) ?_)))
  rw [show wrap64 ((3 : Int) - 1) = 2 from by unfold wrap64; omega, go]
  refine Ev.step (fun _ => impl_highFirst.l0.eq_2 ..) (Ev.pos (by omega) (Ev.pos (by omega) (Ev.pos (by simp) ?_)))
  rw [show wrap64 ((2 : Int) - 1) = 1 from by unfold wrap64; omega, go]
  refine Ev.step (fun _ => impl_highFirst.l0.eq_2 ..) (Ev.pos (by omega) (Ev.pos (by omega) (Ev.pos (by simp) ?_)))
  rw [show wrap64 ((1 : Int) - 1) = 0 from by unfold wrap64; omega, go]
  refine Ev.step (fun _ => impl_highFirst.l0.eq_2 ..) (Ev.pos (by omega) (Ev.pos (by omega) (Ev.pos (by simp) ?_)))
  rw [show wrap64 ((0 : Int) - 1) = -1 from by unfold wrap64; omega, go]
  refine Ev.step (fun _ => impl_highFirst.l0.eq_2 ..) (Ev.neg (by omega) (Ev.some ?_))
  congr 1
  have e1 : x / 256 / 256 = x / 65536 := by omega
  have e2 : x / 256 / 256 / 256 = x / 16777216 := by omega
  show [x / 256 / 256 / 256 % 256, x / 256 / 256 % 256, x / 256 % 256, x % 256] = four x
  rw [e2, e1]; rfl
def sealedM (t : ByteArray) : ByteArray × Bool := if t.size ≤ 20000 then (t ++ strOfNums (four (sumM t)), true) else ((⟨#[]⟩ : ByteArray), false)
theorem implSealed_ev (t : ByteArray) : Ev (fun k => impl_Sealed.f k t) (sealedM t) := by
  refine Ev.congr (fun _ => impl_Sealed.f.eq_1 ..) ?_
  unfold sealedM
  by_cases h : t.size ≤ 20000
  · rw [if_pos h]
    have hr := sumM_range t
    refine Ev.neg (by omega) (Ev.bind (implSumOf_ev t (by omega)) ?_)
    rw [w64 (n := crcList 4294967295 (bytesOf t)) (by unfold sumM at hr; omega) (by unfold sumM at hr; omega)]
    refine Ev.bind (highFirst_ev _) (Ev.pos ?_ (Ev.now _))
    rw [strOfNums_size]
    show t.size + 4 ≤ _
    omega
  · rw [if_neg h]; exact Ev.pos (by omega) (Ev.now _)
theorem implVarText_l0 (n : Nat) : ∀ acc : List Int, acc.length + n < 140737488355328 → Ev (fun k => impl_VarText.l0 k (n : Int) acc) (strOfNums (acc ++ varNums n), true) := by
  induction n using Nat.strongRecOn with
  | _ n ih =>
    intro acc hl
    refine Ev.step (fun _ => impl_VarText.l0.eq_2 ..) ?_
    by_cases h : 127 < n
    · refine Ev.pos (by omega) (Ev.pos (by omega) ?_)
      rw [varNums_big n h, show Int.tdiv (n : Int) 128 = ((n / 128 : Nat) : Int) from Int.ofNat_tdiv n 128 ▸ rfl, show Int.tmod (n : Int) 128 = ((n % 128 : Nat) : Int) from rfl,
        w64 (by omega) (by omega), w64 (by omega) (by omega), show (((n % 128 : Nat) : Int) + 128) % 256 = ((n % 128 + 128 : Nat) : Int) from by omega]
      have := ih (n / 128) (by omega) (acc ++ [((n % 128 + 128 : Nat) : Int)]) (by simp; omega)
      rwa [List.append_assoc] at this
    · refine Ev.neg (by omega) (Ev.pos (by omega) (Ev.some ?_))
      rw [varNums_small n h, show (n : Int) % 256 = n from by omega]
theorem implVarText_ev (n : Int) : Ev (fun k => impl_VarText.f k n) (if 0 ≤ n ∧ n ≤ 1000000000 then (strOfNums (varNums n.toNat), true) else ((⟨#[]⟩ : ByteArray), false)) := by
  refine Ev.congr (fun _ => impl_VarText.f.eq_1 ..) (Ev.call (within_eq ..) ?_)
  by_cases h : 0 ≤ n ∧ n ≤ 1000000000
  · rw [if_pos h, decide_eq_true h]
    obtain ⟨m, rfl⟩ := Int.eq_ofNat_of_zero_le h.1
    exact Ev.pos rfl (by simpa using implVarText_l0 m [] (by simp; omega))
  · rw [if_neg h, decide_eq_false h]
    exact Ev.neg (by simp) (Ev.now _)
theorem implVarText_nat (n : Nat) (h : n ≤ 1000000000) : Ev (fun k => impl_VarText.f k (n : Int)) (strOfNums (varNums n), true) := by
  have := implVarText_ev (n : Int)
  rwa [if_pos (by omega), Int.toNat_natCast] at this
def frameM (t : ByteArray) : ByteArray × Bool := if 1 ≤ t.size ∧ t.size ≤ 9000 then ((strOfNums (varNums t.size) ++ strOfNums (four (sumM t))) ++ t, true) else ((⟨#[]⟩ : ByteArray), false)
theorem implSumText_ev (t : ByteArray) (ht : t.size ≤ 140737488355328) : Ev (fun k => impl_sumText.f k t) (strOfNums (four (sumM t))) :=
  Ev.congr (fun _ => impl_sumText.f.eq_1 ..) (Ev.bind (implSumOf_ev t ht) (Ev.now _))
theorem frame_size (t : ByteArray) : (strOfNums (varNums t.size) ++ strOfNums (four (sumM t))).size ≤ t.size + 5 := by
  rw [ByteArray.size_append, strOfNums_size, strOfNums_size]
  have := varNums_length t.size
  show _ + 4 ≤ _
  omega
theorem specFrame_ev (t : ByteArray) : Ev (fun k => spec_Frame.f k t) (frameM t) := by
  refine Ev.congr (fun _ => spec_Frame.f.eq_1 ..) (Ev.call (l01In_eq ..) ?_)
  unfold frameM
  have hz := frame_size t
  have hv := varNums_length t.size
  by_cases h : 1 ≤ t.size ∧ t.size ≤ 9000
  · rw [if_pos h]
    refine Ev.pos (by rw [decide_eq_true (by omega)]) (Ev.bind (l01Var_ev t.size (by omega)) (Ev.bind (specSumOf_ev t (by omega)) (Ev.call (specFour_eq _) (Ev.pos ?_ (Ev.pos ?_ (Ev.now _))))))
    · rw [ByteArray.size_append] at hz; exact Nat.le_trans hz (by omega)
    · exact Nat.le_trans (Nat.add_le_add_right hz _) (by omega)
  · rw [if_neg h]; exact Ev.neg (by rw [decide_eq_false (by omega)]; simp) (Ev.now _)
theorem implFrame_ev (t : ByteArray) : Ev (fun k => impl_Frame.f k t) (frameM t) := by
  refine Ev.congr (fun _ => impl_Frame.f.eq_1 ..) (Ev.call (within_eq ..) ?_)
  unfold frameM
  have hz := frame_size t
  by_cases h : 1 ≤ t.size ∧ t.size ≤ 9000
  · rw [if_pos h]
    refine Ev.pos (by rw [decide_eq_true (by omega)]) (Ev.bind (implVarText_nat t.size (by omega)) (Ev.bind (implSumText_ev t (by omega)) (Ev.pos ?_ (Ev.pos ?_ (Ev.now _)))))
    · rw [ByteArray.size_append] at hz; exact Nat.le_trans hz (by omega)
    · exact Nat.le_trans (Nat.add_le_add_right hz _) (by omega)
  · rw [if_neg h]; exact Ev.neg (by rw [decide_eq_false (by omega)]; simp) (Ev.now _)
/-- The frame that stands at a place, and the place behind it. -/
def frameText (s : ByteArray) (a : Int) : ByteArray := s.extract ((readVarM s a).2.1 + 4).toNat ((readVarM s a).2.1 + 4 + (readVarM s a).1).toNat
def frameOk (s : ByteArray) (a : Int) : Prop := (readVarM s a).2.2 = true ∧ (1 ≤ (readVarM s a).1 ∧ (readVarM s a).1 ≤ 9000) ∧ (readVarM s a).1 + 4 ≤ (s.size : Int) - (readVarM s a).2.1 ∧
  strOfNums (four (sumM (frameText s a))) = s.extract (readVarM s a).2.1.toNat ((readVarM s a).2.1 + 4).toNat
instance (s : ByteArray) (a : Int) : Decidable (frameOk s a) := by unfold frameOk; exact inferInstance
def unframeM (s : ByteArray) : Nat → Int → List ByteArray → List ByteArray × Int
  | 0, a, acc => (acc, a)
  | d + 1, a, acc => if frameOk s a then unframeM s d ((readVarM s a).2.1 + 4 + (readVarM s a).1) (acc ++ [frameText s a]) else (acc, a)
theorem unframeM_length (s : ByteArray) (d : Nat) : ∀ (a : Int) (acc : List ByteArray), (unframeM s d a acc).1.length ≤ acc.length + d := by
  induction d with
  | zero => intro a acc; exact Nat.le_refl _
  | succ d ih =>
    intro a acc
    unfold unframeM
    split
    · refine Nat.le_trans (ih _ _) ?_
      simp; omega
    · exact Nat.le_add_right _ _
theorem implUnframe_l0 (s : ByteArray) (hs : s.size ≤ 20000) (d : Nat) :
    ∀ (a : Int) (acc : List ByteArray), 0 ≤ a → a ≤ (s.size : Int) → (s.size : Int) - a < d → (acc.length : Int) ≤ a → Ev (fun k => impl_Unframe.l0 k s acc a) (unframeM s d a acc) := by
  induction d with
  | zero => intro a acc _ _ _ _; omega
  | succ d ih =>
    intro a acc h0 h1 h2 h3
    refine Ev.step (fun _ => impl_Unframe.l0.eq_2 ..) (Ev.pos (by omega) (Ev.bind (implReadVar_ev s a (by omega)) ?_))
    have stop : ¬ frameOk s a → ∀ n nx, Ev (fun k => impl_Unframe.j1 k s acc a n nx true) (unframeM s (d + 1) a acc) := fun h n nx => by
      refine Ev.step (fun _ => impl_Unframe.j1.eq_2 ..) (Ev.pos rfl (Ev.some ?_))
      unfold unframeM; rw [if_neg h]
    by_cases c1 : (readVarM s a).2.2 = true
    · have hr := readVarM_range s a c1
      refine Ev.pos c1 (Ev.call (within_eq ..) ?_)
      by_cases c2 : 1 ≤ (readVarM s a).1 ∧ (readVarM s a).1 ≤ 9000
      · refine Ev.pos (by rw [decide_eq_true c2]) ?_
        rw [w64 (n := (readVarM s a).1 + 4) (by omega) (by omega), w64 (n := (s.size : Int) - (readVarM s a).2.1) (by omega) (by omega)]
        by_cases c3 : (readVarM s a).1 + 4 > (s.size : Int) - (readVarM s a).2.1
        · rw [decide_eq_true c3]
          exact stop (fun z => by have := z.2.2.1; omega) _ _
        · rw [decide_eq_false c3]
          refine Ev.step (fun _ => impl_Unframe.j1.eq_2 ..) (Ev.neg (by simp) ?_)
          rw [w64 (n := (readVarM s a).2.1 + 4) (by omega) (by omega), w64 (n := (readVarM s a).2.1 + 4 + (readVarM s a).1) (by omega) (by omega)]
          refine Ev.pos (by omega) (Ev.pos (by omega) (Ev.pos (by omega) (Ev.bind (implSumText_ev (frameText s a) ?_) (Ev.pos (by omega) (Ev.pos (by omega) (Ev.pos (by omega) ?_))))))
          · unfold frameText
            rw [← bytesOf_length, bytesOf_extract, List.length_take, List.length_drop, bytesOf_length]; omega
          · by_cases c4 : strOfNums (four (sumM (frameText s a))) = s.extract (readVarM s a).2.1.toNat ((readVarM s a).2.1 + 4).toNat
            · refine Ev.pos (toList_eq.2 c4) (Ev.pos (by omega) ?_)
              have hok : frameOk s a := ⟨c1, c2, by omega, c4⟩
              refine Ev.eq (ih ((readVarM s a).2.1 + 4 + (readVarM s a).1) (acc ++ [frameText s a]) (by omega) (by omega) (by omega) (by simp; omega)) ?_
              conv => rhs; unfold unframeM
              rw [if_pos hok]
            · refine Ev.neg (fun z => c4 (toList_eq.1 z)) (Ev.some ?_)
              unfold unframeM; rw [if_neg (fun z => c4 z.2.2.2)]
      · exact Ev.neg (by rw [decide_eq_false c2]; simp) (stop (fun z => c2 z.2.1) _ _)
    · exact Ev.neg c1 (stop (fun z => c1 z.1) _ _)
theorem specUnframe_l0 (s : ByteArray) (hs : s.size ≤ 20000) (d : Nat) :
    ∀ (a : Int) (acc : List ByteArray), 0 ≤ a → a ≤ (s.size : Int) → (s.size : Int) - a < d → (acc.length : Int) ≤ a → Ev (fun k => spec_Unframe.l0 k s acc a) (unframeM s d a acc) := by
  induction d with
  | zero => intro a acc _ _ _ _; omega
  | succ d ih =>
    intro a acc h0 h1 h2 h3
    refine Ev.step (fun _ => spec_Unframe.l0.eq_2 ..) ?_
    have stop : ¬ frameOk s a → unframeM s (d + 1) a acc = (acc, a) := fun h => by
      unfold unframeM; rw [if_neg h]
    by_cases c0 : a < (s.size : Int)
    · refine Ev.pos c0 (Ev.bind (specReadVar_ev s a (by omega)) ?_)
      by_cases c1 : (readVarM s a).2.2 = true
      · have hr := readVarM_range s a c1
        refine Ev.pos c1 ?_
        rw [w64 (n := (s.size : Int) - (readVarM s a).2.1) (by omega) (by omega), w64 (n := (s.size : Int) - (readVarM s a).2.1 - 4) (by omega) (by omega)]
        refine Ev.step (fun _ => spec_Unframe.j1.eq_2 ..) ?_
        by_cases c3 : (readVarM s a).1 > (s.size : Int) - (readVarM s a).2.1 - 4
        · rw [decide_eq_true c3]
          exact Ev.pos rfl (Ev.some (stop (fun z => by have := z.2.2.1; omega)).symm)
        · rw [decide_eq_false c3]
          refine Ev.neg (by simp) ?_
          rw [w64 (n := (readVarM s a).2.1 + 4) (by omega) (by omega), w64 (n := (readVarM s a).2.1 + 4 + (readVarM s a).1) (by omega) (by omega)]
          refine Ev.pos (by omega) (Ev.pos (by omega) (Ev.pos (by omega) (Ev.bind (specFrame_ev (frameText s a)) ?_)))
          have hsz : ((frameText s a).size : Int) = (readVarM s a).1 := by
            unfold frameText
            rw [← bytesOf_length, bytesOf_extract, List.length_take, List.length_drop, bytesOf_length]; omega
          unfold frameM
          by_cases c2 : 1 ≤ (readVarM s a).1 ∧ (readVarM s a).1 ≤ 9000
          · rw [if_pos (by omega)]
            refine Ev.pos rfl (Ev.pos (by omega) (Ev.pos (by omega) ?_))
            have hcan := readVarM_canon s a c1
            have hiff : ((strOfNums (varNums (frameText s a).size) ++ strOfNums (four (sumM (frameText s a)))) ++ frameText s a).toList = (s.extract a.toNat ((readVarM s a).2.1 + 4 + (readVarM s a).1).toNat).toList ↔ strOfNums (four (sumM (frameText s a))) = s.extract (readVarM s a).2.1.toNat ((readVarM s a).2.1 + 4).toNat := by
              have e1 : s.extract a.toNat ((readVarM s a).2.1 + 4 + (readVarM s a).1).toNat = (s.extract a.toNat (readVarM s a).2.1.toNat ++ s.extract (readVarM s a).2.1.toNat ((readVarM s a).2.1 + 4).toNat) ++ frameText s a := by
                rw [extract_join s _ _ _ (by omega) (by omega), show frameText s a = s.extract ((readVarM s a).2.1 + 4).toNat ((readVarM s a).2.1 + 4 + (readVarM s a).1).toNat from rfl, extract_join s _ _ _ (by omega) (by omega)]
              rw [toList_eq, e1, hcan, show (frameText s a).size = (readVarM s a).1.toNat from by omega, append_left_inj, append_right_inj]
            by_cases c4 : strOfNums (four (sumM (frameText s a))) = s.extract (readVarM s a).2.1.toNat ((readVarM s a).2.1 + 4).toNat
            · refine Ev.pos (hiff.2 c4) (Ev.pos (by omega) ?_)
              have hok : frameOk s a := ⟨c1, c2, by omega, c4⟩
              refine Ev.eq (ih ((readVarM s a).2.1 + 4 + (readVarM s a).1) (acc ++ [frameText s a]) (by omega) (by omega) (by omega) (by simp; omega)) ?_
              conv => rhs; unfold unframeM
              rw [if_pos hok]
            · exact Ev.neg (fun z => c4 (hiff.1 z)) (Ev.some (stop (fun z => c4 z.2.2.2)).symm)
          · rw [if_neg (by omega)]
            exact Ev.neg (by simp) (Ev.some (stop (fun z => c2 z.2.1)).symm)
      · refine Ev.neg c1 (Ev.step (fun _ => spec_Unframe.j1.eq_2 ..) (Ev.pos rfl (Ev.some (stop (fun z => c1 z.1)).symm)))
    · refine Ev.neg c0 (Ev.some (stop (fun z => ?_)).symm)
      have := readVarM_range s a z.1
      omega
def unframeOut (s : ByteArray) : List ByteArray × Int := if s.size ≤ 20000 then unframeM s (s.size + 1) 0 [] else ([], 0)
theorem implUnframe_ev (s : ByteArray) : Ev (fun k => impl_Unframe.f k s) (unframeOut s) := by
  refine Ev.congr (fun _ => impl_Unframe.f.eq_1 ..) ?_
  unfold unframeOut
  by_cases h : s.size ≤ 20000
  · rw [if_pos h]; exact implUnframe_l0 s h (s.size + 1) 0 [] (by omega) (by omega) (by omega) (by simp)
  · rw [if_neg h]; exact Ev.step (fun _ => impl_Unframe.l0.eq_2 ..) (Ev.neg (by omega) (Ev.now _))
theorem specUnframe_ev (s : ByteArray) : Ev (fun k => spec_Unframe.f k s) (unframeOut s) := by
  refine Ev.congr (fun _ => spec_Unframe.f.eq_1 ..) (Ev.call rfl ?_)
  unfold unframeOut
  by_cases h : s.size ≤ 20000
  · rw [if_pos h]; exact Ev.neg (by omega) (specUnframe_l0 s h (s.size + 1) 0 [] (by omega) (by omega) (by omega) (by simp))
  · rw [if_neg h]; exact Ev.pos (by omega) (Ev.now _)
theorem unframeOut_length (s : ByteArray) : (unframeOut s).1.length ≤ 20001 := by
  unfold unframeOut
  by_cases h : s.size ≤ 20000
  · rw [if_pos h]
    have := unframeM_length s (s.size + 1) 0 []
    simp at this
    omega
  · rw [if_neg h]; simp
theorem eqStringS_l0 (a b : List ByteArray) (hlen : a.length = b.length) (hn : a.length ≤ 140737488355328) (d : Nat) :
    ∀ i : Nat, i + d = a.length → Ev (fun k => laws_eqStringS.l0 k a b (i : Int)) (decide (a.drop i = b.drop i)) := by
  induction d with
  | zero =>
    intro i hi
    refine Ev.step (fun _ => laws_eqStringS.l0.eq_2 ..) ?_
    refine Ev.neg (by omega) (Ev.some ?_)
    rw [List.drop_eq_nil_of_le (by omega), List.drop_eq_nil_of_le (by omega)]; simp
  | succ d ih =>
    intro i hi
    refine Ev.step (fun _ => laws_eqStringS.l0.eq_2 ..) ?_
    refine Ev.pos (by omega) (Ev.pos (by omega) (Ev.pos (by omega) ?_))
    rw [rdOf_nat _ a i (by omega), rdOf_nat _ b i (by omega), w64_succ i (by omega), drop_eq_iff a b i (by omega) (by omega)]
    refine Ev.ite (fun h => ?_) (fun h => ?_)
    · rw [decide_eq_true (toList_eq.1 h), Bool.true_and]; exact ih (i + 1) (by omega)
    · rw [decide_eq_false (fun e => h (toList_eq.2 e))]; exact Ev.now _
theorem eqStringS_ev (a b : List ByteArray) (hn : a.length ≤ 140737488355328) : Ev (fun k => laws_eqStringS.f k a b) (decide (a = b)) := by
  refine Ev.congr (fun _ => laws_eqStringS.f.eq_1 ..) (Ev.ite (fun h => ?_) (fun h => ?_))
  · exact eqStringS_l0 a b (by omega) hn a.length 0 (by omega)
  · rw [decide_eq_false (fun e => h (by rw [e]))]; exact Ev.now _
theorem eqStringS_self (a : List ByteArray) (hn : a.length ≤ 140737488355328) : Ev (fun k => laws_eqStringS.f k a a) true := by
  have h := eqStringS_ev a a hn
  rwa [decide_eq_true rfl] at h
theorem markText_l0 (n : Nat) : ∀ acc : ByteArray, acc.size + n + 1 ≤ 9223372036854775807 → ∃ v, Ev (fun k => laws_markText.l0 k (n : Int) acc) v := by
  induction n using Nat.strongRecOn with
  | _ n ih =>
    intro acc ha
    by_cases h : 0 < n
    · have e : wrap64 (Int.tdiv (n : Int) 10) = ((n / 10 : Nat) : Int) := by
        rw [show Int.tdiv (n : Int) 10 = ((n / 10 : Nat) : Int) from Int.ofNat_tdiv n 10 ▸ rfl]
        exact w64 (by omega) (by omega)
      have hz : (strOfNums [(wrap64 (48 + (Int.tmod (n : Int) 10))) % 256]).size = 1 := strOfNums_size _
      obtain ⟨v, hv⟩ := ih (n / 10) (by omega) (strOfNums [(wrap64 (48 + (Int.tmod (n : Int) 10))) % 256] ++ acc) (by rw [ByteArray.size_append, hz]; omega)
      refine ⟨v, Ev.step (fun _ => laws_markText.l0.eq_2 ..) (Ev.pos (by omega) (Ev.call rfl (Ev.pos (by rw [hz]; omega) ?_)))⟩
      rw [e]; exact hv
    · exact ⟨_, Ev.step (fun _ => laws_markText.l0.eq_2 ..) (Ev.neg (by omega) (Ev.pos (by omega) (Ev.now _)))⟩
theorem markText_ex (m : Int) : ∃ v, m ≤ 4611686018427387904 → Ev (fun k => laws_markText.f k m) v := by
  by_cases h : m ≤ 0
  · exact ⟨_, fun _ => Ev.congr (fun _ => laws_markText.f.eq_1 ..) (Ev.pos h (Ev.now _))⟩
  · by_cases h2 : m ≤ 4611686018427387904
    · obtain ⟨n, rfl⟩ := Int.eq_ofNat_of_zero_le (by omega : 0 ≤ m)
      obtain ⟨v, hv⟩ := markText_l0 n (⟨#[]⟩ : ByteArray) (by show 0 + n + 1 ≤ _; omega)
      exact ⟨v, fun _ => Ev.congr (fun _ => laws_markText.f.eq_1 ..) (Ev.neg h hv)⟩
    · exact ⟨(⟨#[]⟩ : ByteArray), fun h3 => absurd h3 h2⟩
/-- The mark of a number. -/
noncomputable def mtM (m : Int) : ByteArray := Classical.choose (markText_ex m)
theorem markText_ev (m : Int) (h : m ≤ 4611686018427387904) : Ev (fun k => laws_markText.f k m) (mtM m) := Classical.choose_spec (markText_ex m) h
noncomputable def marksT (a : Int) (n : Nat) : List ByteArray := (List.range n).map (fun j : Nat => mtM (a + (j : Int)))
theorem marksT_length (a : Int) (n : Nat) : (marksT a n).length = n := by simp [marksT]
theorem marksT_get (a : Int) (n j : Nat) (h : j < (marksT a n).length) : (marksT a n)[j] = mtM (a + (j : Int)) := by simp [marksT]
theorem marksT_set (a : Int) (l : List ByteArray) (i : Nat) (h : i < l.length) :
    (marksT a i ++ l.drop i).set i (mtM (a + (i : Int))) = marksT a (i + 1) ++ l.drop (i + 1) := by
  rw [List.set_append_right _ _ (by rw [marksT_length]; omega), marksT_length, Nat.sub_self, List.drop_eq_getElem_cons h, List.set_cons_zero]
  unfold marksT
  rw [List.range_succ]
  simp
theorem markStringS_l0 (a : List ByteArray) (m : Int) (h0 : 0 ≤ m) (hm : m + a.length ≤ 4611686018427387904) (d : Nat) :
    ∀ i : Nat, i + d = a.length → Ev (fun k => laws_markStringS.l0 k (marksT m i ++ a.drop i) (m + (i : Int)) (i : Int)) (m + (a.length : Int), marksT m a.length) := by
  induction d with
  | zero =>
    intro i hi
    refine Ev.step (fun _ => laws_markStringS.l0.eq_2 ..) ?_
    refine Ev.neg (by simp [marksT_length]; omega) (Ev.some ?_)
    obtain rfl : i = a.length := by omega
    simp
  | succ d ih =>
    intro i hi
    refine Ev.step (fun _ => laws_markStringS.l0.eq_2 ..) ?_
    refine Ev.pos (by simp [marksT_length]; omega) (Ev.bind (markText_ev _ (by omega)) (Ev.pos (by omega) ?_))
    rw [w64_succ i (by omega), Int.toNat_natCast, marksT_set m a i (by omega), w64 (by omega) (by omega), Int.add_assoc, show ((i : Int) + 1) = ((i + 1 : Nat) : Int) from by omega]
    exact ih (i + 1) (by omega)
theorem markStringS_ev (a : List ByteArray) (m : Int) (h0 : 0 ≤ m) (hm : m + a.length ≤ 4611686018427387904) : Ev (fun k => laws_markStringS.f k a m) (m + (a.length : Int), marksT m a.length) := by
  have h := markStringS_l0 a m h0 hm a.length 0 (by omega)
  refine Ev.congr (fun _ => laws_markStringS.f.eq_1 ..) ?_
  simpa [marksT] using h
theorem heldStringS_l0 (n : Nat) (m : Int) (h0 : 0 ≤ m) (hm : m + n ≤ 4611686018427387904) (d : Nat) :
    ∀ i : Nat, i + d = n → Ev (fun k => laws_heldStringS.l0 k (marksT m n) (m + (i : Int)) (i : Int)) (m + (n : Int)) := by
  induction d with
  | zero =>
    intro i hi
    refine Ev.step (fun _ => laws_heldStringS.l0.eq_2 ..) ?_
    refine Ev.neg (by rw [marksT_length]; omega) (Ev.some ?_)
    omega
  | succ d ih =>
    intro i hi
    refine Ev.step (fun _ => laws_heldStringS.l0.eq_2 ..) ?_
    refine Ev.pos (by rw [marksT_length]; omega) (Ev.pos (by omega) (Ev.bind (markText_ev _ (by omega)) ?_))
    rw [rdOf_nat _ _ i (by rw [marksT_length]; omega), marksT_get]
    refine Ev.pos rfl ?_
    rw [w64_succ i (by omega), w64 (by omega) (by omega), Int.add_assoc, show ((i : Int) + 1) = ((i + 1 : Nat) : Int) from by omega]
    exact ih (i + 1) (by omega)
theorem heldStringS_ev (n : Nat) (m : Int) (h0 : 0 ≤ m) (hm : m + n ≤ 4611686018427387904) : Ev (fun k => laws_heldStringS.f k (marksT m n) m) (m + (n : Int)) := by
  have h := heldStringS_l0 n m h0 hm n 0 (by omega)
  refine Ev.congr (fun _ => laws_heldStringS.f.eq_1 ..) ?_
  simpa using h
theorem FnExactUnframe : laws_FnExactUnframe.Pure := by
  intro s _
  apply Ev.rounds
  refine Ev.congr (fun _ => laws_FnExactUnframe.f.eq_1 ..) (Ev.ite (fun _ => Ev.now _) (fun _ => ?_))
  have hi := implUnframe_ev s
  have hl := unframeOut_length s
  have he := eqStringS_self (unframeOut s).1 (by omega)
  have hm := markStringS_ev (unframeOut s).1 1 (by omega) (by omega)
  have hh := heldStringS_ev (unframeOut s).1.length 1 (by omega) (by omega)
  refine Ev.bind (specUnframe_ev s) (Ev.bind hi (Ev.bind he (Ev.pos rfl ?_)))
  rw [bne_self_eq_false]
  refine Ev.step (fun _ => laws_FnExactUnframe.j0.eq_2 ..) (Ev.neg (by simp) (Ev.bind hm (Ev.bind hh (Ev.neg (by omega) (Ev.pos rfl (Ev.bind hi (Ev.bind he (Ev.pos rfl ?_))))))))
  rw [bne_self_eq_false]
  exact Ev.step (fun _ => laws_FnExactUnframe.j1.eq_2 ..) (Ev.neg (by simp) (Ev.bind hh (Ev.neg (by omega) (Ev.pos rfl (Ev.now _)))))

end Go.Proofs.Ytmmpjeadjfamfaa.Pure
