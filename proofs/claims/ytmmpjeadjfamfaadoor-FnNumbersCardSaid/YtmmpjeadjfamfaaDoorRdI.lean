/- Decimal numerals of whole numbers: what strconv.Atoi reads in them. -/
import Derived.Lib.AtoiAll
import Derived.Lib.ItoaNum
import Derived.Test.YtmmpjeadjfamfaaDoorBase
namespace Go.Proofs.YtmmpjeadjfamfaaDoor.RdI
open Go.RowKit
def isDig (c : UInt8) : Bool := decide (48 ≤ c.toNat ∧ c.toNat ≤ 57)
def numOf (l : List UInt8) (a : Nat) : Nat := l.foldl (fun a c => a * 10 + (c.toNat - 48)) a
theorem numOf_append (l r : List UInt8) (a : Nat) : numOf (l ++ r) a = numOf r (numOf l a) := List.foldl_append ..
theorem numOf_lt (l : List UInt8) (h : l.all isDig = true) : ∀ a, numOf l a + 1 ≤ (a + 1) * 10 ^ l.length := by
  induction l with
  | nil => intro a; simp [numOf]
  | cons c l ih =>
    intro a
    rw [List.all_cons, Bool.and_eq_true] at h
    have hc := of_decide_eq_true h.1
    have := ih h.2 (a * 10 + (c.toNat - 48))
    have e : numOf (c :: l) a = numOf l (a * 10 + (c.toNat - 48)) := rfl
    rw [e, List.length_cons, Nat.pow_succ]
    have h2 : (a * 10 + (c.toNat - 48) + 1) * 10 ^ l.length ≤ ((a + 1) * 10) * 10 ^ l.length := Nat.mul_le_mul_right _ (by omega)
    rw [show (a + 1) * (10 ^ l.length * 10) = (a + 1) * 10 * 10 ^ l.length by rw [Nat.mul_comm (10 ^ l.length), Nat.mul_assoc]]
    omega
theorem dec_dig (m : Nat) : (Lib.decDigits m).all isDig = true ∧ numOf (Lib.decDigits m) 0 = m := by
  induction m using Nat.strongRecOn with
  | _ m ih =>
    have one : ∀ d, d < 10 → (UInt8.ofNat (48 + d)).toNat = 48 + d := fun d h => by rw [UInt8.toNat_ofNat']; omega
    by_cases c : m < 10
    · rw [Lib.decDigits_one c]
      refine ⟨by simp [isDig]; omega, ?_⟩
      show 0 * 10 + ((UInt8.ofNat (48 + m)).toNat - 48) = m
      rw [one m c]; omega
    · obtain ⟨h1, h2⟩ := ih (m / 10) (by omega)
      rw [Lib.decDigits, dif_neg c, List.all_append, h1, numOf_append, h2]
      have := one (m % 10) (Nat.mod_lt _ (by omega))
      refine ⟨by simp [isDig]; omega, ?_⟩
      show m / 10 * 10 + ((UInt8.ofNat (48 + m % 10)).toNat - 48) = m
      rw [this]; omega
theorem numOf_le (l : List UInt8) : ∀ a, a ≤ numOf l a := by
  induction l with
  | nil => intro a; exact Nat.le_refl _
  | cons c l ih => intro a; have := ih (a * 10 + (c.toNat - 48)); have e : numOf (c :: l) a = numOf l (a * 10 + (c.toNat - 48)) := rfl; rw [e]; omega
theorem parse_dig (l : List UInt8) : ∀ a, l.all isDig = true → numOf l a < 18446744073709551616 → Lib.parseUint10 a l = .ok (numOf l a) := by
  induction l with
  | nil => intro a _ _; rfl
  | cons c l ih =>
    intro a h hn
    rw [List.all_cons, Bool.and_eq_true] at h
    have hc := of_decide_eq_true h.1
    have e : numOf (c :: l) a = numOf l (a * 10 + (c.toNat - 48)) := rfl
    have hle := numOf_le l (a * 10 + (c.toNat - 48))
    rw [e] at hn ⊢
    rw [Lib.parseUint10, if_pos hc, if_neg (by omega), if_neg (by omega)]
    exact ih _ h.2 hn
theorem dec_ne (m : Nat) : Lib.decDigits m ≠ [] := by
  rw [Lib.decDigits]; split <;> simp
theorem dec_len (d : Nat) : ∀ m, m < 10 ^ (d + 1) → (Lib.decDigits m).length ≤ d + 1 := by
  induction d with
  | zero => intro m h; rw [Lib.decDigits_one (by omega)]; simp
  | succ d ih =>
    intro m h
    by_cases c : m < 10
    · rw [Lib.decDigits_one c]; simp
    · rw [Lib.decDigits, dif_neg c, List.length_append]
      have := ih (m / 10) (by rw [Nat.pow_succ] at h; omega)
      simp; omega
theorem atoi_dec (m : Nat) (h : m < 9223372036854775808) : Lib.atoiAll (Lib.decDigits m) = .ok (m : Int) := by
  obtain ⟨h1, h2⟩ := dec_dig m
  have hne := dec_ne m
  generalize Lib.decDigits m = l at h1 h2 hne
  cases l with
  | nil => exact absurd rfl hne
  | cons c r =>
    have hc : isDig c = true := by rw [List.all_cons, Bool.and_eq_true] at h1; exact h1.1
    have hc' := of_decide_eq_true hc
    have hp := parse_dig (c :: r) 0 h1 (by omega)
    rw [h2] at hp
    have n43 : ¬ c.toNat = 43 := by omega
    have n45 : ¬ c.toNat = 45 := by omega
    unfold Lib.atoiAll Lib.parseMag
    simp only [n43, n45, or_self, if_false, reduceCtorEq, hp, not_false_eq_true, true_and, false_and]
    rw [if_neg (by omega)]
def readI (t : ByteArray) : Int × Bool := match Lib.atoiAll t.data.toList with
  | .ok v => if (0 ≤ v ∧ v ≤ 1000000000) ∧ Lib.itoa v = t.data.toList then (v, true) else (0, false)
  | _ => (0, false)
theorem readI_itoa (v : Int) (h : 0 ≤ v ∧ v ≤ 1000000000) : readI ⟨(Lib.itoa v).toArray⟩ = (v, true) := by
  have e : Lib.itoa v = Lib.decDigits v.toNat := by unfold Lib.itoa; rw [if_neg (by omega)]
  have ha := atoi_dec v.toNat (by omega)
  rw [← e] at ha
  unfold readI
  show (match Lib.atoiAll (Lib.itoa v) with | .ok v' => if (0 ≤ v' ∧ v' ≤ 1000000000) ∧ Lib.itoa v' = Lib.itoa v then (v', true) else (0, false) | _ => (0, false)) = _
  have e2 : ((v.toNat : Nat) : Int) = v := by omega
  rw [e2] at ha
  rw [ha]
  show (if _ then _ else _) = _
  rw [if_pos ⟨h, rfl⟩]
theorem itoa_size (v : Int) (h : 0 ≤ v ∧ v ≤ 1000000000) : (⟨(Lib.itoa v).toArray⟩ : ByteArray).size ≤ 1048576 := by
  have e : Lib.itoa v = Lib.decDigits v.toNat := by unfold Lib.itoa; rw [if_neg (by omega)]
  have := dec_len 9 v.toNat (by omega)
  show (Lib.itoa v).toArray.size ≤ 1048576
  rw [e]; simp; omega
end Go.Proofs.YtmmpjeadjfamfaaDoor.RdI
