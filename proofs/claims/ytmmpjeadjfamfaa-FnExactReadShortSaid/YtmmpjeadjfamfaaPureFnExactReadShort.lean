/- FnExactReadShort returns true for all arguments: the program's ReadShort answers what the reference's answers. No conditions beyond the statement's own. -/
import Derived.Test.YtmmpjeadjfamfaaPFnExactReadShortx2
import Derived.Test.YtmmpjeadjfamfaaBase
namespace Go.Proofs.Ytmmpjeadjfamfaa.Pure
open Go.RowKit Go.Proofs.Ytmmpjeadjfamfaa.PFnExactReadShort Go.Proofs.YtmmpjeadjfamfaaW.PrintWords Go.Proofs.YtmmpjeadjfamfaaW.PrintLast Go.Proofs.YtmmpjeadjfamfaaW.PrintMore Go.Proofs.Ytmmpjeadjfamfaa.Base

theorem bytesOf_range (s : ByteArray) : ∀ x ∈ bytesOf s, 0 ≤ x ∧ x ≤ 255 := by
  intro x hx
  obtain ⟨b, _, rfl⟩ := List.mem_map.1 hx
  have := b.toNat_lt
  omega
theorem strOfNums_bytesOf (s : ByteArray) : strOfNums (bytesOf s) = s := by
  apply ByteArray.ext
  unfold strOfNums bytesOf
  rw [List.map_map, show ((fun n : Int => UInt8.ofNat n.toNat) ∘ fun b : UInt8 => (b.toNat : Int)) = id from by funext b; simp]
  simp
theorem bytesOf_strOfNums (l : List Int) (h : ∀ x ∈ l, 0 ≤ x ∧ x ≤ 255) : bytesOf (strOfNums l) = l := by
  unfold strOfNums bytesOf
  simp only [List.map_map]
  conv => rhs; rw [← List.map_id l]
  apply List.map_congr_left
  intro x hx
  have := h x hx
  show ((UInt8.ofNat x.toNat).toNat : Int) = x
  rw [UInt8.toNat_ofNat']
  omega
theorem strOfNums_eq (l : List Int) (s : ByteArray) (h : ∀ x ∈ l, 0 ≤ x ∧ x ≤ 255) : strOfNums l = s ↔ l = bytesOf s :=
  ⟨fun e => by rw [← e, bytesOf_strOfNums l h], fun e => by rw [e, strOfNums_bytesOf]⟩
theorem bytesOf_inj {s t : ByteArray} (h : bytesOf s = bytesOf t) : s = t := by
  rw [← strOfNums_bytesOf s, h, strOfNums_bytesOf]
theorem bytesOf_append (s t : ByteArray) : bytesOf (s ++ t) = bytesOf s ++ bytesOf t := by
  unfold bytesOf; simp
theorem bytesOf_extract (s : ByteArray) (a b : Nat) : bytesOf (s.extract a b) = ((bytesOf s).drop a).take (b - a) := by
  unfold bytesOf
  rw [ByteArray.data_extract]
  simp [List.extract_eq_take_drop, List.map_take, List.map_drop]
/-- The number that bytes of seven bits are. -/
def valL : List Int → Int
  | [] => 0
  | b :: r => b % 128 + 128 * valL r
theorem valL_snoc (p : List Int) (c : Int) : valL (p ++ [c]) = valL p + c % 128 * 128 ^ p.length := by
  induction p with
  | nil => simp [valL]
  | cons b p ih =>
    show b % 128 + 128 * valL (p ++ [c]) = b % 128 + 128 * valL p + c % 128 * 128 ^ (p.length + 1)
    rw [ih, Int.pow_succ, Int.mul_add, ← Int.add_assoc]
    congr 1
    rw [← Int.mul_assoc, Int.mul_comm 128 (c % 128), Int.mul_assoc, Int.mul_comm 128 (128 ^ p.length)]
theorem valL_bound (p : List Int) : 0 ≤ valL p ∧ valL p < 128 ^ p.length := by
  induction p with
  | nil => simp [valL]
  | cons b p ih =>
    show 0 ≤ b % 128 + 128 * valL p ∧ b % 128 + 128 * valL p < 128 ^ (p.length + 1)
    rw [Int.pow_succ]
    generalize (128 : Int) ^ p.length = z at *
    omega
theorem canon (pre : List Int) (c : Int) (hp : ∀ b ∈ pre, 128 ≤ b ∧ b ≤ 255) (hc : 0 ≤ c ∧ c ≤ 127) :
    varNums (valL (pre ++ [c])).toNat = pre ++ [c] ↔ (pre = [] ∨ c ≠ 0) := by
  induction pre with
  | nil =>
    have e : valL ([] ++ [c]) = c := by show c % 128 + 128 * 0 = c; omega
    rw [e, varNums_small _ (by omega)]
    have : ((c.toNat : Nat) : Int) = c := by omega
    simp [this]
  | cons b p ih =>
    have hb := hp b (List.mem_cons_self ..)
    have ih := ih (fun x hx => hp x (List.mem_cons_of_mem _ hx))
    have hV := valL_bound (p ++ [c])
    have hs := valL_snoc p c
    have hpow : 0 < (128 : Int) ^ p.length := Int.pow_pos (by omega)
    have hvp := valL_bound p
    show varNums (b % 128 + 128 * valL (p ++ [c])).toNat = b :: (p ++ [c]) ↔ _
    by_cases hz : valL (p ++ [c]) = 0
    · have c0 : c = 0 := by
        rw [hz] at hs
        rcases Int.lt_or_le 0 (c % 128) with h | h
        · have := Int.mul_pos h hpow; omega
        · omega
      rw [hz, varNums_small _ (by omega)]
      simp [c0]
    · rw [varNums_big _ (by omega)]
      have e1 : (((b % 128 + 128 * valL (p ++ [c])).toNat % 128 + 128 : Nat) : Int) = b := by omega
      have e2 : (b % 128 + 128 * valL (p ++ [c])).toNat / 128 = (valL (p ++ [c])).toNat := by omega
      rw [e1, e2, List.cons.injEq]
      simp only [true_and, ih, reduceCtorEq, false_or]
      constructor
      · rintro (rfl | h)
        · intro h0; apply hz; rw [h0]; rfl
        · exact h
      · exact fun h => .inr h
/-- The number that bytes begin with: how many have been read, what they are, what is left. -/
def rvL : Nat → Nat → Int → List Int → Option (Int × Nat)
  | 0, _, _, _ => none
  | _ + 1, _, _, [] => none
  | d + 1, i, n, c :: r => if c > 127 then rvL d (i + 1) (n + c % 128 * 128 ^ i) r else if (0 < i ∧ c = 0) ∨ n + c % 128 * 128 ^ i > 1000000000 then none else some (n + c % 128 * 128 ^ i, i + 1)
def rvOut (a : Int) : Option (Int × Nat) → Int × Int × Bool
  | none => (0, 0, false)
  | some (n, j) => (n, a + (j : Int), true)
def readVarM (s : ByteArray) (a : Int) : Int × Int × Bool :=
  if 0 ≤ a ∧ a ≤ (s.size : Int) then rvOut a (rvL 5 0 0 ((bytesOf s).drop a.toNat)) else (0, 0, false)
theorem pow5 (i : Nat) (h : i < 5) : 1 ≤ (128 : Int) ^ i ∧ (128 : Int) ^ i ≤ 268435456 := by
  have : i = 0 ∨ i = 1 ∨ i = 2 ∨ i = 3 ∨ i = 4 := by omega
  rcases this with rfl | rfl | rfl | rfl | rfl <;> decide
theorem mul_small (x z : Int) (hx : 0 ≤ x ∧ x ≤ 127) (hz : 1 ≤ z ∧ z ≤ 268435456) : 0 ≤ x * z ∧ x * z ≤ 127 * z :=
  ⟨Int.mul_nonneg hx.1 (by omega), Int.mul_le_mul_of_nonneg_right hx.2 (by omega)⟩
theorem rvL_cons (d i : Nat) (n c : Int) (r : List Int) : rvL (d + 1) i n (c :: r) = if c > 127 then rvL d (i + 1) (n + c % 128 * 128 ^ i) r else if (0 < i ∧ c = 0) ∨ n + c % 128 * 128 ^ i > 1000000000 then none else some (n + c % 128 * 128 ^ i, i + 1) := rfl
theorem l01In_eq (n lo hi : Int) : spec_l01In.f n lo hi = some (decide (lo ≤ n ∧ n ≤ hi)) := by
  unfold spec_l01In.f
  by_cases h : n ≥ lo
  · rw [if_pos h]; congr 1; rw [decide_eq_decide]; exact ⟨fun h2 => ⟨h, h2⟩, fun h2 => h2.2⟩
  · rw [if_neg h]; congr 1; symm; rw [decide_eq_false_iff_not]; exact fun h2 => h h2.1
theorem within_eq (n lo hi : Int) : impl_within.f n lo hi = some (decide (lo ≤ n ∧ n ≤ hi)) := by
  unfold impl_within.f
  by_cases h : n ≥ lo
  · rw [if_pos h]; congr 1; rw [decide_eq_decide]; exact ⟨fun h2 => ⟨h, h2⟩, fun h2 => h2.2⟩
  · rw [if_neg h]; congr 1; symm; rw [decide_eq_false_iff_not]; exact fun h2 => h h2.1
theorem l01Var_l0 (n : Nat) : ∀ acc : List Int, acc.length + n < 140737488355328 → Ev (fun k => spec_l01Var.l0 k (n : Int) acc) (strOfNums (acc ++ varNums n)) := by
  induction n using Nat.strongRecOn with
  | _ n ih =>
    intro acc hl
    refine Ev.step (fun _ => spec_l01Var.l0.eq_2 ..) ?_
    by_cases h : 127 < n
    · refine Ev.pos (by omega) (Ev.pos (by omega) ?_)
      rw [varNums_big n h, show Int.tdiv (n : Int) 128 = ((n / 128 : Nat) : Int) from Int.ofNat_tdiv n 128 ▸ rfl, show Int.tmod (n : Int) 128 = ((n % 128 : Nat) : Int) from rfl,
        w64 (by omega) (by omega), w64 (by omega) (by omega), show (((n % 128 : Nat) : Int) + 128) % 256 = ((n % 128 + 128 : Nat) : Int) from by omega]
      have := ih (n / 128) (by omega) (acc ++ [((n % 128 + 128 : Nat) : Int)]) (by simp; omega)
      rwa [List.append_assoc] at this
    · refine Ev.neg (by omega) (Ev.pos (by omega) (Ev.some ?_))
      rw [varNums_small n h, show (n : Int) % 256 = n from by omega]
theorem l01Var_ev (n : Nat) (hn : n < 140737488355328) : Ev (fun k => spec_l01Var.f k (n : Int)) (strOfNums (varNums n)) := by
  have h := l01Var_l0 n [] (by simpa using hn)
  exact Ev.congr (fun _ => spec_l01Var.f.eq_1 ..) (by simpa using h)
theorem implReadVar_l0 (s : ByteArray) (a : Nat) (hs : s.size ≤ 140737488355328) (ha : a ≤ s.size) (d : Nat) :
    ∀ (i : Nat) (n : Int), i + d = 5 → 0 ≤ n → n < 128 ^ i → Ev (fun k => impl_ReadVar.l0 k s (a : Int) n (i : Int)) (rvOut (a : Int) (rvL d i n ((bytesOf s).drop (a + i)))) := by
  induction d with
  | zero =>
    intro i n hi _ _
    exact Ev.step (fun _ => impl_ReadVar.l0.eq_2 ..) (Ev.neg (by omega) (Ev.step (fun _ => impl_ReadVar.j1.eq_2 ..) (Ev.neg (by simp) (Ev.some rfl))))
  | succ d ih =>
    intro i n hi hn0 hn1
    refine Ev.step (fun _ => impl_ReadVar.l0.eq_2 ..) (Ev.pos (by omega) (Ev.step (fun _ => impl_ReadVar.j1.eq_2 ..) ?_))
    have e0 : wrap64 ((a : Int) + (i : Int)) = ((a + i : Nat) : Int) := by rw [w64 (by omega) (by omega)]; omega
    rw [e0]
    by_cases h : a + i < s.size
    · rw [bytesOf_drop s (a + i) h, rvL_cons]
      have hb := bt_range s ((a + i : Nat) : Int)
      generalize bt s ((a + i : Nat) : Int) = c at *
      have hp := pow5 i (by omega)
      have hm := mul_small (c % 128) (128 ^ i) (by omega) hp
      have e1 : wrap64 c = c := w64 (by omega) (by omega)
      have e2 : Int.tmod c 128 = c % 128 := Int.tmod_eq_emod_of_nonneg (by omega)
      have e3 : shl .i64 (c % 128) (wrap64 (7 * (i : Int))) = c % 128 * 128 ^ i := by
        rw [w64 (n := 7 * (i : Int)) (by omega) (by omega)]
        unfold shl
        have q : (2 : Int) ^ min (7 * (i : Int)).toNat IntKind.i64.bits = 128 ^ i := by
          have : i = 0 ∨ i = 1 ∨ i = 2 ∨ i = 3 ∨ i = 4 := by omega
          rcases this with rfl | rfl | rfl | rfl | rfl <;> decide
        rw [q, IntKind.wrap_i64]
        generalize (128 : Int) ^ i = z at *
        generalize c % 128 * z = y at *
        omega
      rw [e1, e2, e3]
      have e4 : wrap64 (n + c % 128 * 128 ^ i) = n + c % 128 * 128 ^ i := by
        generalize (128 : Int) ^ i = z at *
        exact w64 (by omega) (by omega)
      rw [e4, w64_succ i (by omega), w64_succ (a + i) (by omega)]
      refine Ev.pos (by rw [decide_eq_true_iff]; omega) (Ev.pos (by omega) (Ev.pos (by omega) (Ev.pos (by rw [w64 (by omega) (by omega)]; omega) ?_)))
      refine Ev.ite (fun hc => ?_) (fun hc => ?_)
      · rw [if_pos hc, show a + i + 1 = a + (i + 1) from by omega]
        refine ih (i + 1) _ (by omega) ?_ ?_
        · generalize (128 : Int) ^ i = z at *
          omega
        · rw [Int.pow_succ]
          generalize (128 : Int) ^ i = z at *
          omega
      · rw [if_neg hc]
        have out : ∀ x, x = rvOut (a : Int) (some (n + c % 128 * 128 ^ i, i + 1)) → Ev (fun _ => some (n + c % 128 * 128 ^ i, ((a + i + 1 : Nat) : Int), true)) x := fun x hx => Ev.some (by rw [hx]; show _ = (_, (a : Int) + ((i + 1 : Nat) : Int), true); rw [show ((a + i + 1 : Nat) : Int) = (a : Int) + ((i + 1 : Nat) : Int) from by omega])
        refine Ev.ite (fun hi0 => ?_) (fun hi0 => ?_)
        · refine Ev.ite (fun hc0 => ?_) (fun hc0 => ?_)
          · rw [if_pos (.inl ⟨by omega, hc0⟩)]; exact Ev.some rfl
          · refine Ev.ite (fun hb2 => ?_) (fun hb2 => ?_)
            · rw [if_pos (.inr hb2)]; exact Ev.some rfl
            · rw [if_neg (fun z => z.elim (fun y => hc0 y.2) hb2)]; exact out _ rfl
        · refine Ev.ite (fun hb2 => ?_) (fun hb2 => ?_)
          · rw [if_pos (.inr hb2)]; exact Ev.some rfl
          · rw [if_neg (fun z => z.elim (fun y => hi0 (by omega)) hb2)]; exact out _ rfl
    · refine Ev.neg (by rw [decide_eq_true_iff]; omega) (Ev.some ?_)
      rw [List.drop_eq_nil_of_le (by rw [bytesOf_length]; omega)]; rfl
theorem specReadVar_l0 (s : ByteArray) (a : Nat) (hs : s.size ≤ 140737488355328) (ha : a ≤ s.size) (d : Nat) :
    ∀ (i : Nat) (n : Int), i + d = 5 → a + i ≤ s.size → n = valL (((bytesOf s).drop a).take i) → (∀ b ∈ ((bytesOf s).drop a).take i, 128 ≤ b ∧ b ≤ 255) →
      Ev (fun k => spec_ReadVar.l0 k s (a : Int) n (128 ^ i) ((a + i : Nat) : Int)) (rvOut (a : Int) (rvL d i n ((bytesOf s).drop (a + i)))) := by
  induction d with
  | zero =>
    intro i n hi hai hn hp
    refine Ev.step (fun _ => spec_ReadVar.l0.eq_2 ..) (Ev.ite (fun _ => ?_) (fun _ => ?_))
    · refine Ev.step (fun _ => spec_ReadVar.j1.eq_2 ..) (Ev.neg ?_ (Ev.some rfl))
      rw [w64 (n := (a : Int) + 5) (by omega) (by omega), decide_eq_false (by omega)]; simp
    · exact Ev.step (fun _ => spec_ReadVar.j1.eq_2 ..) (Ev.neg (by simp) (Ev.some rfl))
  | succ d ih =>
    intro i n hi hai hn hp
    refine Ev.step (fun _ => spec_ReadVar.l0.eq_2 ..) ?_
    have hlen : (((bytesOf s).drop a).take i).length = i := by rw [List.length_take, List.length_drop, bytesOf_length]; omega
    by_cases h : a + i < s.size
    · refine Ev.pos (by omega) (Ev.step (fun _ => spec_ReadVar.j1.eq_2 ..) (Ev.pos ?_ (Ev.pos (by omega) (Ev.pos (by omega) ?_))))
      · rw [w64 (n := (a : Int) + 5) (by omega) (by omega), decide_eq_true (by omega)]
      have htake : ((bytesOf s).drop a).take (i + 1) = ((bytesOf s).drop a).take i ++ [bt s ((a + i : Nat) : Int)] := by
        have hg := bytesOf_get s (a + i) h
        rw [List.take_succ_eq_append_getElem (by rw [List.length_drop, bytesOf_length]; omega), List.getElem_drop, hg]
      have hv := valL_snoc (((bytesOf s).drop a).take i) (bt s ((a + i : Nat) : Int))
      have hbd := valL_bound (((bytesOf s).drop a).take i)
      have hcan := canon (((bytesOf s).drop a).take i) (bt s ((a + i : Nat) : Int)) hp
      rw [hlen, ← hn] at hv
      rw [hlen, ← hn] at hbd
      rw [← htake] at hv hcan
      have hnil : ((bytesOf s).drop a).take i = [] ↔ i = 0 := by
        rw [← List.length_eq_zero_iff, hlen]
      rw [hnil] at hcan
      rw [bytesOf_drop s (a + i) h, rvL_cons]
      have hb := bt_range s ((a + i : Nat) : Int)
      generalize hc' : bt s ((a + i : Nat) : Int) = c at *
      have hpw := pow5 i (by omega)
      have hm := mul_small (c % 128) (128 ^ i) (by omega) hpw
      have e1 : wrap64 c = c := w64 (by omega) (by omega)
      have e2 : Int.tmod c 128 = c % 128 := Int.tmod_eq_emod_of_nonneg (by omega)
      have e3 : wrap64 (c % 128 * 128 ^ i) = c % 128 * 128 ^ i := by
        generalize (128 : Int) ^ i = z at *
        generalize c % 128 * z = y at *
        exact w64 (by omega) (by omega)
      have e4 : wrap64 (n + c % 128 * 128 ^ i) = n + c % 128 * 128 ^ i := by
        generalize (128 : Int) ^ i = z at *
        generalize c % 128 * z = y at *
        exact w64 (by omega) (by omega)
      rw [e1, e2, e3, e4, w64_succ (a + i) (by omega)]
      by_cases hc : c > 127
      · rw [if_pos hc]
        refine Ev.neg (by omega) ?_
        rw [show wrap64 (128 ^ i * 128) = 128 ^ (i + 1) from by rw [Int.pow_succ]; exact w64 (by omega) (by omega), show a + i + 1 = a + (i + 1) from by omega]
        refine ih (i + 1) _ (by omega) (by omega) (by rw [hv]) (fun b hb' => ?_)
        rw [htake] at hb'
        rcases List.mem_append.1 hb' with hb' | hb'
        · exact hp b hb'
        · obtain rfl := List.mem_singleton.1 hb'; omega
      · rw [if_neg hc]
        refine Ev.pos (by omega) (Ev.ite (fun hb2 => ?_) (fun hb2 => ?_))
        · rw [if_pos (.inr hb2)]; exact Ev.some rfl
        · rw [← hv] at hb2 ⊢
          have hnn := valL_bound (((bytesOf s).drop a).take (i + 1))
          obtain ⟨m, hm'⟩ := Int.eq_ofNat_of_zero_le hnn.1
          have hcan := hcan (by omega)
          rw [hm'] at hcan hb2 ⊢
          refine Ev.bind (l01Var_ev m (by omega)) (Ev.pos (by omega) (Ev.pos (by omega) (Ev.pos (by omega) ?_)))
          rw [Int.toNat_natCast, Int.toNat_natCast]
          have hiff : (strOfNums (varNums m)).toList = (s.extract a (a + i + 1)).toList ↔ (i = 0 ∨ c ≠ 0) := by
            rw [toList_eq, strOfNums_eq _ _ (varNums_range m), bytesOf_extract, show a + i + 1 - a = i + 1 from by omega]
            simpa using hcan
          refine Ev.ite (fun hq => ?_) (fun hq => ?_)
          · rw [hiff] at hq
            rw [if_neg (fun z => z.elim (fun y => by omega) hb2)]
            refine Ev.some ?_
            show _ = (_, (a : Int) + ((i + 1 : Nat) : Int), true)
            rw [show ((a + i + 1 : Nat) : Int) = (a : Int) + ((i + 1 : Nat) : Int) from by omega]
          · rw [hiff] at hq
            rw [if_pos (.inl ⟨by omega, by omega⟩)]; exact Ev.some rfl
    · refine Ev.neg (by omega) (Ev.step (fun _ => spec_ReadVar.j1.eq_2 ..) (Ev.neg (by simp) (Ev.some ?_)))
      rw [List.drop_eq_nil_of_le (by rw [bytesOf_length]; omega)]; rfl
theorem implReadVar_ev (s : ByteArray) (a : Int) (hs : s.size ≤ 140737488355328) : Ev (fun k => impl_ReadVar.f k s a) (readVarM s a) := by
  refine Ev.congr (fun _ => impl_ReadVar.f.eq_1 ..) (Ev.call (within_eq ..) ?_)
  unfold readVarM
  by_cases h : 0 ≤ a ∧ a ≤ (s.size : Int)
  · rw [if_pos h, decide_eq_true h]
    obtain ⟨m, rfl⟩ := Int.eq_ofNat_of_zero_le h.1
    exact Ev.pos rfl (implReadVar_l0 s m hs (by omega) 5 0 0 (by omega) (by omega) (by decide))
  · rw [if_neg h, decide_eq_false h]
    exact Ev.neg (by simp) (Ev.now _)
theorem specReadVar_ev (s : ByteArray) (a : Int) (hs : s.size ≤ 140737488355328) : Ev (fun k => spec_ReadVar.f k s a) (readVarM s a) := by
  refine Ev.congr (fun _ => spec_ReadVar.f.eq_1 ..) (Ev.call (l01In_eq ..) ?_)
  unfold readVarM
  by_cases h : 0 ≤ a ∧ a ≤ (s.size : Int)
  · rw [if_pos h, decide_eq_true h]
    obtain ⟨m, rfl⟩ := Int.eq_ofNat_of_zero_le h.1
    exact Ev.pos rfl (specReadVar_l0 s m hs (by omega) 5 0 0 (by omega) (by omega) (by simp [valL]) (by simp))
  · rw [if_neg h, decide_eq_false h]
    exact Ev.neg (by simp) (Ev.now _)
theorem rvL_range (d : Nat) : ∀ (i : Nat) (n : Int) (l : List Int) (m : Int) (j : Nat), i + d = 5 → 0 ≤ n → (∀ x ∈ l, 0 ≤ x) → rvL d i n l = some (m, j) → 0 ≤ m ∧ m ≤ 1000000000 ∧ i < j ∧ j ≤ i + l.length ∧ j ≤ 5 := by
  induction d with
  | zero => intro i n l m j _ _ _ h; simp [rvL] at h
  | succ d ih =>
    intro i n l m j hi hn hl h
    cases l with
    | nil => simp [rvL] at h
    | cons c r =>
      rw [rvL_cons] at h
      have hp := pow5 i (by omega)
      have hc := hl c (List.mem_cons_self ..)
      have hm := mul_small (c % 128) (128 ^ i) (by omega) hp
      by_cases h1 : c > 127
      · rw [if_pos h1] at h
        obtain ⟨a, b, e, f, g⟩ := ih (i + 1) _ r m j (by omega) (by omega) (fun x hx => hl x (List.mem_cons_of_mem _ hx)) h
        rw [List.length_cons]
        omega
      · rw [if_neg h1] at h
        by_cases h2 : (0 < i ∧ c = 0) ∨ n + c % 128 * 128 ^ i > 1000000000
        · rw [if_pos h2] at h; cases h
        · rw [if_neg h2] at h
          rw [Option.some.injEq, Prod.mk.injEq] at h
          rw [List.length_cons]
          have := fun z => h2 (.inr z)
          omega
/-- What a number is that is read: in its range, and its end is in the text, at most five bytes on. -/
theorem readVarM_range (s : ByteArray) (a : Int) (h : (readVarM s a).2.2 = true) :
    0 ≤ a ∧ a < (readVarM s a).2.1 ∧ (readVarM s a).2.1 ≤ (s.size : Int) ∧ (readVarM s a).2.1 ≤ a + 5 ∧ 0 ≤ (readVarM s a).1 ∧ (readVarM s a).1 ≤ 1000000000 := by
  unfold readVarM at h ⊢
  by_cases h1 : 0 ≤ a ∧ a ≤ (s.size : Int)
  · rw [if_pos h1] at h ⊢
    cases e : rvL 5 0 0 ((bytesOf s).drop a.toNat) with
    | none => rw [e] at h; simp [rvOut] at h
    | some x =>
      obtain ⟨m, j⟩ := x
      obtain ⟨b, c, f, g, q⟩ := rvL_range 5 0 0 _ m j (by omega) (by omega) (fun x hx => (bytesOf_range s x (List.mem_of_mem_drop hx)).1) e
      rw [List.length_drop, bytesOf_length] at g
      show 0 ≤ a ∧ a < a + (j : Int) ∧ a + (j : Int) ≤ _ ∧ a + (j : Int) ≤ a + 5 ∧ 0 ≤ m ∧ m ≤ _
      omega
  · rw [if_neg h1] at h; simp at h
theorem readVarM_false (s : ByteArray) (a : Int) (h : ¬ (readVarM s a).2.2 = true) : readVarM s a = (0, 0, false) := by
  unfold readVarM at h ⊢
  by_cases h1 : 0 ≤ a ∧ a ≤ (s.size : Int)
  · rw [if_pos h1] at h ⊢
    cases e : rvL 5 0 0 ((bytesOf s).drop a.toNat) with
    | none => rfl
    | some x => rw [e] at h; simp [rvOut] at h
  · rw [if_neg h1]
def readShortM (s : ByteArray) (a : Int) : ByteArray × Int × Bool :=
  if (readVarM s a).2.2 = true ∧ (readVarM s a).1 ≤ 20000 ∧ (readVarM s a).1 ≤ (s.size : Int) - (readVarM s a).2.1 then
    (s.extract (readVarM s a).2.1.toNat ((readVarM s a).2.1 + (readVarM s a).1).toNat, (readVarM s a).2.1 + (readVarM s a).1, true)
  else ((⟨#[]⟩ : ByteArray), 0, false)
theorem specReadShort_ev (s : ByteArray) (a : Int) (hs : s.size ≤ 140737488355328) : Ev (fun k => spec_ReadShort.f k s a) (readShortM s a) := by
  refine Ev.congr (fun _ => spec_ReadShort.f.eq_1 ..) (Ev.bind (specReadVar_ev s a hs) ?_)
  by_cases h : (readVarM s a).2.2 = true
  · have hr := readVarM_range s a h
    rw [w64 (n := (s.size : Int) - (readVarM s a).2.1) (by omega) (by omega), w64 (n := (readVarM s a).2.1 + (readVarM s a).1) (by omega) (by omega)]
    refine Ev.pos h (Ev.ite (fun h1 => ?_) (fun h1 => ?_))
    · exact Ev.some (if_neg (by omega)).symm
    · refine Ev.ite (fun h2 => ?_) (fun h2 => ?_)
      · exact Ev.some (if_neg (by omega)).symm
      · exact Ev.pos (by omega) (Ev.pos (by omega) (Ev.pos (by omega) (Ev.some (if_pos ⟨h, by omega, by omega⟩).symm)))
  · exact Ev.neg h (Ev.some (if_neg (fun z => h z.1)).symm)
theorem implReadShort_ev (s : ByteArray) (a : Int) (hs : s.size ≤ 140737488355328) : Ev (fun k => impl_ReadShort.f k s a) (readShortM s a) := by
  refine Ev.congr (fun _ => impl_ReadShort.f.eq_1 ..) (Ev.bind (implReadVar_ev s a hs) ?_)
  by_cases h : (readVarM s a).2.2 = true
  · have hr := readVarM_range s a h
    rw [w64 (n := (s.size : Int) - (readVarM s a).2.1) (by omega) (by omega), w64 (n := (readVarM s a).2.1 + (readVarM s a).1) (by omega) (by omega)]
    refine Ev.pos h (Ev.ite (fun h1 => ?_) (fun h1 => ?_))
    · exact Ev.some (if_neg (by omega)).symm
    · refine Ev.ite (fun h2 => ?_) (fun h2 => ?_)
      · exact Ev.some (if_neg (by omega)).symm
      · exact Ev.pos (by omega) (Ev.pos (by omega) (Ev.pos (by omega) (Ev.some (if_pos ⟨h, by omega, by omega⟩).symm)))
  · exact Ev.neg h (Ev.some (if_neg (fun z => h z.1)).symm)
theorem FnExactReadShort : laws_FnExactReadShort.Pure := by
  intro s a hs _
  apply Ev.rounds
  refine Ev.congr (fun _ => laws_FnExactReadShort.f.eq_1 ..) (Ev.ite (fun _ => Ev.now _) (fun _ => ?_))
  exact Ev.bind (specReadShort_ev s a (by omega)) (Ev.bind (implReadShort_ev s a (by omega)) (Ev.pos rfl (Ev.pos rfl (Ev.neg (by simp) (Ev.now _)))))

end Go.Proofs.Ytmmpjeadjfamfaa.Pure
