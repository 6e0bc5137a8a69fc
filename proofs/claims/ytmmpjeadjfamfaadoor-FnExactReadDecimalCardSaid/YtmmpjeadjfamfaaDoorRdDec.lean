import Derived.Test.YtmmpjeadjfamfaaDoorQdrx
import Derived.Test.YtmmpjeadjfamfaaDoorBase
import Derived.Test.YtmmpjeadjfamfaaDoorDecR
import Derived.Lib.AtoiAll
import Derived.Lib.ItoaNum
namespace Go.Proofs.YtmmpjeadjfamfaaDoor.DecR
open Go.RowKit Go.Proofs.YtmmpjeadjfamfaaDoor.Qdr Go.Proofs.YtmmpjeadjfamfaaDoorW.PrintWords Go.Proofs.YtmmpjeadjfamfaaDoor.Base

def isDig (c : UInt8) : Bool := decide (48 ≤ c.toNat ∧ c.toNat ≤ 57)
def numOf (l : List UInt8) (a : Nat) : Nat := l.foldl (fun a c => a * 10 + (c.toNat - 48)) a
theorem numOf_append (l r : List UInt8) (a : Nat) : numOf (l ++ r) a = numOf r (numOf l a) := List.foldl_append ..
theorem numOf_lt (l : List UInt8) (h : l.all isDig = true) : ∀ a, numOf l a + 1 ≤ (a + 1) * 10 ^ l.length := by
  induction l with
  | nil => intro a; simp [numOf]
  | cons c l ih =>
    intro a
    rw [List.all_cons, Bool.and_eq_true] at h
    have hc := of_decide_eq_true h.1
    have := ih h.2 (a * 10 + (c.toNat - 48))
    have e : numOf (c :: l) a = numOf l (a * 10 + (c.toNat - 48)) := rfl
    rw [e, List.length_cons, Nat.pow_succ]
    have h2 : (a * 10 + (c.toNat - 48) + 1) * 10 ^ l.length ≤ ((a + 1) * 10) * 10 ^ l.length := Nat.mul_le_mul_right _ (by omega)
    rw [show (a + 1) * (10 ^ l.length * 10) = (a + 1) * 10 * 10 ^ l.length by rw [Nat.mul_comm (10 ^ l.length), Nat.mul_assoc]]
    omega
theorem dec_dig (m : Nat) : (Lib.decDigits m).all isDig = true ∧ numOf (Lib.decDigits m) 0 = m := by
  induction m using Nat.strongRecOn with
  | _ m ih =>
    have one : ∀ d, d < 10 → (UInt8.ofNat (48 + d)).toNat = 48 + d := fun d h => by rw [UInt8.toNat_ofNat']; omega
    by_cases c : m < 10
    · rw [Lib.decDigits_one c]
      refine ⟨by simp [isDig]; omega, ?_⟩
      show 0 * 10 + ((UInt8.ofNat (48 + m)).toNat - 48) = m
      rw [one m c]; omega
    · obtain ⟨h1, h2⟩ := ih (m / 10) (by omega)
      rw [Lib.decDigits, dif_neg c, List.all_append, h1, numOf_append, h2]
      have := one (m % 10) (Nat.mod_lt _ (by omega))
      refine ⟨by simp [isDig]; omega, ?_⟩
      show m / 10 * 10 + ((UInt8.ofNat (48 + m % 10)).toNat - 48) = m
      rw [this]; omega
def readM (t : ByteArray) : Int × Bool := if t.data.toList.all isDig = true ∧ numOf t.data.toList 0 ≤ 1000000000 ∧ Lib.itoa (numOf t.data.toList 0 : Nat) = t.data.toList ∧ t.size ≤ 10 then ((numOf t.data.toList 0 : Nat), true) else (0, false)
theorem specRead_l0 (t : ByteArray) (ht : t.size ≤ 10) (r : List UInt8) : ∀ done : List UInt8, t.data.toList = done ++ r → done.all isDig = true → Ev (fun k => spec_ReadDecimal.l0 k t ((numOf done 0 : Nat) : Int) (done.length : Int)) (readM t) := by
  induction r with
  | nil =>
    intro done hd hall
    rw [List.append_nil] at hd
    have hsz : done.length = t.size := by rw [← hd, Array.length_toList]; rfl
    have hlt := numOf_lt done hall 0
    have hp : 10 ^ done.length ≤ 10 ^ 10 := Nat.pow_le_pow_right (by omega) (by omega)
    have hb : numOf done 0 < 10000000000 := by omega
    have hsp := specDecimal_ev ((numOf done 0 : Nat) : Int) (by omega) (by omega)
    refine Ev.step (fun _ => spec_ReadDecimal.l0.eq_2 ..) (Ev.neg (by omega) (Ev.ite (fun hx => Ev.some ?_) (fun hx => Ev.bind hsp (Ev.ite (fun he => Ev.some ?_) (fun he => Ev.some ?_)))))
    · unfold readM; rw [hd, if_neg (fun h => by omega)]
    · unfold readM
      rw [toList_eq] at he
      have e3 : Lib.itoa ((numOf done 0 : Nat) : Int) = done := (congrArg (fun b : ByteArray => b.data.toList) he).trans hd
      rw [hd, if_pos ⟨hall, by omega, e3, ht⟩]
    · unfold readM
      rw [hd, if_neg]
      intro h; apply he; rw [toList_eq]; apply ByteArray.ext
      rw [← hd] at h
      have := h.2.2.1
      rw [hd] at this
      show (Lib.itoa _).toArray = t.data
      rw [this, ← hd]
  | cons c r ih =>
    intro done hd hall
    have hlen : done.length < t.size := by
      have : t.data.toList.length = t.size := by rw [Array.length_toList]; rfl
      rw [hd] at this; simp at this; omega
    have hbt : bt t (done.length : Int) = (c.toNat : Int) := by
      rw [bt_nat t done.length hlen]
      congr 2
      show t.data[done.length]'hlen = c
      rw [← Array.getElem_toList]
      simp [hd]
    have hc : c.toNat < 256 := c.toNat_lt
    have bad : isDig c = false → (0, false) = readM t := by
      intro h; unfold readM
      rw [hd, if_neg]
      intro h2
      have := h2.1
      rw [List.all_append, List.all_cons, h] at this; simp at this
    have hlt := numOf_lt done hall 0
    have hp : 10 ^ done.length ≤ 10 ^ 10 := Nat.pow_le_pow_right (by omega) (by omega)
    refine Ev.step (fun _ => spec_ReadDecimal.l0.eq_2 ..) (Ev.pos (by omega) (Ev.pos (by omega) (Ev.ite (fun h48 => Ev.some (bad ?_)) (fun h48 => Ev.ite (fun h57 => Ev.some (bad ?_)) (fun h57 => ?_)))))
    · rw [hbt] at h48; exact decide_eq_false (by omega)
    · rw [hbt] at h57; exact decide_eq_false (by omega)
    · rw [hbt] at h48 h57
      have hh := ih (done ++ [c]) (by rw [hd]; simp) (by rw [List.all_append, hall]; simp [isDig]; omega)
      rw [hbt, w64 (n := 10 * _) (by omega) (by omega), w64 (n := ((c.toNat : Nat) : Int)) (by omega) (by omega), w64 (n := _ + _) (by omega) (by omega), w64 (n := _ - 48) (by omega) (by omega), w64_succ _ (by omega)]
      rw [numOf_append, List.length_append, List.length_singleton] at hh
      have e : ((numOf [c] (numOf done 0) : Nat) : Int) = 10 * ((numOf done 0 : Nat) : Int) + (c.toNat : Int) - 48 := by
        show ((numOf done 0 * 10 + (c.toNat - 48) : Nat) : Int) = _
        omega
      rw [e] at hh
      exact hh
theorem specRead_ev (t : ByteArray) : Ev (fun k => spec_ReadDecimal.f k t) (readM t) := by
  refine Ev.congr (fun _ => spec_ReadDecimal.f.eq_1 ..) (Ev.ite (fun h => Ev.some ?_) (fun h => specRead_l0 t (by omega) t.data.toList [] rfl rfl))
  unfold readM; rw [if_neg (fun h2 => by omega)]
theorem numOf_le (l : List UInt8) : ∀ a, a ≤ numOf l a := by
  induction l with
  | nil => intro a; exact Nat.le_refl _
  | cons c l ih => intro a; have := ih (a * 10 + (c.toNat - 48)); have e : numOf (c :: l) a = numOf l (a * 10 + (c.toNat - 48)) := rfl; rw [e]; omega
theorem parse_dig (l : List UInt8) : ∀ a, l.all isDig = true → numOf l a < 18446744073709551616 → Lib.parseUint10 a l = .ok (numOf l a) := by
  induction l with
  | nil => intro a _ _; rfl
  | cons c l ih =>
    intro a h hn
    rw [List.all_cons, Bool.and_eq_true] at h
    have hc := of_decide_eq_true h.1
    have e : numOf (c :: l) a = numOf l (a * 10 + (c.toNat - 48)) := rfl
    have hle := numOf_le l (a * 10 + (c.toNat - 48))
    rw [e] at hn ⊢
    rw [Lib.parseUint10, if_pos hc, if_neg (by omega), if_neg (by omega)]
    exact ih _ h.2 hn
theorem dec_ne (m : Nat) : Lib.decDigits m ≠ [] := by
  rw [Lib.decDigits]; split <;> simp
theorem dec_len (d : Nat) : ∀ m, m < 10 ^ (d + 1) → (Lib.decDigits m).length ≤ d + 1 := by
  induction d with
  | zero => intro m h; rw [Lib.decDigits_one (by omega)]; simp
  | succ d ih =>
    intro m h
    by_cases c : m < 10
    · rw [Lib.decDigits_one c]; simp
    · rw [Lib.decDigits, dif_neg c, List.length_append]
      have := ih (m / 10) (by rw [Nat.pow_succ] at h; omega)
      simp; omega
theorem atoi_dec (m : Nat) (h : m < 9223372036854775808) : Lib.atoiAll (Lib.decDigits m) = .ok (m : Int) := by
  obtain ⟨h1, h2⟩ := dec_dig m
  have hne := dec_ne m
  generalize Lib.decDigits m = l at h1 h2 hne
  cases l with
  | nil => exact absurd rfl hne
  | cons c r =>
    have hc : isDig c = true := by rw [List.all_cons, Bool.and_eq_true] at h1; exact h1.1
    have hc' := of_decide_eq_true hc
    have hp := parse_dig (c :: r) 0 h1 (by omega)
    rw [h2] at hp
    have n43 : ¬ c.toNat = 43 := by omega
    have n45 : ¬ c.toNat = 45 := by omega
    unfold Lib.atoiAll Lib.parseMag
    simp only [n43, n45, or_self, if_false, reduceCtorEq, hp, not_false_eq_true, true_and, false_and]
    rw [if_neg (by omega)]
def readI (t : ByteArray) : Int × Bool := match Lib.atoiAll t.data.toList with
  | .ok v => if (0 ≤ v ∧ v ≤ 1000000000) ∧ Lib.itoa v = t.data.toList then (v, true) else (0, false)
  | _ => (0, false)
theorem readI_eq (t : ByteArray) : readI t = readM t := by
  unfold readI
  have stop : (∀ v : Int, Lib.atoiAll t.data.toList = .ok v → ¬ ((0 ≤ v ∧ v ≤ 1000000000) ∧ Lib.itoa v = t.data.toList)) → (0, false) = readM t := by
    intro h
    unfold readM
    rw [if_neg]
    intro ⟨h1, h2, h3, h4⟩
    have e : Lib.itoa (numOf t.data.toList 0 : Nat) = Lib.decDigits (numOf t.data.toList 0) := by unfold Lib.itoa; rw [if_neg (by omega)]; rfl
    have := atoi_dec (numOf t.data.toList 0) (by omega)
    rw [← e, h3] at this
    exact h _ this ⟨⟨by omega, by omega⟩, h3⟩
  cases ha : Lib.atoiAll t.data.toList
  rotate_left
  · exact stop (fun v hv => by rw [ha] at hv; cases hv)
  · exact stop (fun v hv => by rw [ha] at hv; cases hv)
  · next v =>
    show (if _ then _ else _) = _
    by_cases c : (0 ≤ v ∧ v ≤ 1000000000) ∧ Lib.itoa v = t.data.toList
    · rw [if_pos c]
      have e : Lib.itoa v = Lib.decDigits v.toNat := by unfold Lib.itoa; rw [if_neg (by omega)]
      obtain ⟨h1, h2⟩ := dec_dig v.toNat
      have hl := dec_len 9 v.toNat (by omega)
      have hL : t.data.toList = Lib.decDigits v.toNat := by rw [← c.2, e]
      have hsz : t.size ≤ 10 := by have : t.data.toList.length = t.size := by rw [Array.length_toList]; rfl
                                   rw [hL] at this; omega
      unfold readM
      rw [hL, h2, if_pos ⟨h1, by omega, by rw [← e]; congr 1; omega, hsz⟩]
      congr 1; omega
    · rw [if_neg c]
      exact stop (fun v' hv => by rw [ha] at hv; cases hv; exact c)
end Go.Proofs.YtmmpjeadjfamfaaDoor.DecR
