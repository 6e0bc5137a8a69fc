import Derived.Test.YtmmpjeadjfamfaaDoorQdrx
import Derived.Test.YtmmpjeadjfamfaaDoorBase
import Derived.Lib.ItoaNum
namespace Go.Proofs.YtmmpjeadjfamfaaDoor.DecR
open Go.RowKit Go.Proofs.YtmmpjeadjfamfaaDoor.Qdr Go.Proofs.YtmmpjeadjfamfaaDoorW.PrintWords Go.Proofs.YtmmpjeadjfamfaaDoor.Base

theorem figure_eq (d : Nat) (h : d < 10) : spec_l01Figure.f (d : Int) = some ((48 + d : Nat) : Int) := by
  unfold spec_l01Figure.f
  rw [if_pos (by omega), w64 (by omega) (by omega)]
  congr 1; omega
theorem one_eq (d : Nat) : strOfNums [((48 + d : Nat) : Int)] = ⟨#[UInt8.ofNat (48 + d)]⟩ := rfl
def dg (m : Nat) : List UInt8 := if m = 0 then [] else Lib.decDigits m
theorem dg_step (m : Nat) (h : m ≠ 0) : dg m = dg (m / 10) ++ [UInt8.ofNat (48 + m % 10)] := by
  unfold dg
  rw [if_neg h]
  by_cases c : m < 10
  · rw [Lib.decDigits_one c, if_pos (by omega), Nat.mod_eq_of_lt c]; rfl
  · rw [Lib.decDigits, dif_neg c, if_neg (by omega)]
theorem app_eq (a : List UInt8) (b s : ByteArray) : (⟨a.toArray⟩ : ByteArray) ++ (b ++ s) = (⟨(a ++ b.data.toList).toArray⟩ : ByteArray) ++ s := by
  apply ByteArray.ext
  simp only [ByteArray.data_append]
  rw [← List.append_toArray, Array.toArray_toList, Array.append_assoc]
theorem spec_l0 (b : Bool) (d : Nat) : ∀ (x : Int) (s : ByteArray), -9223372036854775808 ≤ x → x ≤ 9223372036854775807 → x.natAbs < 10 ^ d → s.size + d ≤ 1000 →
    Ev (fun k => spec_Decimal.l0 k x b s) ((if b = true then ⟨#[45]⟩ else ⟨#[]⟩) ++ ((⟨(dg x.natAbs).toArray⟩ : ByteArray) ++ s)) := by
  induction d with
  | zero =>
    intro x s _ _ hx hs
    have e : x = 0 := by omega
    subst e
    refine Ev.step (fun _ => spec_Decimal.l0.eq_2 ..) (Ev.pos rfl (Ev.ite (fun hb => Ev.pos (by omega) (Ev.some ?_)) (fun hb => Ev.some ?_)))
    · rw [if_pos hb]; simp [dg]; apply ByteArray.ext; simp
    · rw [if_neg hb]; apply ByteArray.ext; simp [dg]
  | succ d ih =>
    intro x s h0 h1 hx hs
    by_cases e : x = 0
    · subst e
      refine Ev.step (fun _ => spec_Decimal.l0.eq_2 ..) (Ev.pos rfl (Ev.ite (fun hb => Ev.pos (by omega) (Ev.some ?_)) (fun hb => Ev.some ?_)))
      · rw [if_pos hb]; simp [dg]; apply ByteArray.ext; simp
      · rw [if_neg hb]; apply ByteArray.ext; simp [dg]
    · have hm : x.natAbs ≠ 0 := by omega
      have t1 : (Int.tmod x 10).natAbs = x.natAbs % 10 := Int.natAbs_tmod x 10
      have t2 : (Int.tdiv x 10).natAbs = x.natAbs / 10 := Int.natAbs_tdiv x 10
      have hlt : x.natAbs % 10 < 10 := Nat.mod_lt _ (by omega)
      have hd : x.natAbs / 10 < 10 ^ d := by rw [Nat.pow_succ] at hx; omega
      have hsz : (⟨#[UInt8.ofNat (48 + x.natAbs % 10)]⟩ : ByteArray).size = 1 := rfl
      have hh := ih (Int.tdiv x 10) (⟨#[UInt8.ofNat (48 + x.natAbs % 10)]⟩ ++ s) (by omega) (by omega) (by rw [t2]; exact hd) (by rw [ByteArray.size_append, hsz]; omega)
      rw [t2, app_eq (dg (x.natAbs / 10)) ⟨#[UInt8.ofNat (48 + x.natAbs % 10)]⟩ s, show dg (x.natAbs / 10) ++ (⟨#[UInt8.ofNat (48 + x.natAbs % 10)]⟩ : ByteArray).data.toList = dg x.natAbs from (dg_step x.natAbs hm).symm] at hh
      have hw : wrap64 (Int.tdiv x 10) = Int.tdiv x 10 := w64 (by omega) (by omega)
      refine Ev.step (fun _ => spec_Decimal.l0.eq_2 ..) (Ev.neg e (Ev.ite (fun c => ?_) (fun c => ?_)))
      · have e1 : wrap64 (-(Int.tmod x 10)) = ((x.natAbs % 10 : Nat) : Int) := by rw [w64 (by omega) (by omega)]; omega
        rw [e1, hw]
        exact Ev.call (figure_eq _ hlt) (Ev.call rfl (Ev.pos (by rw [one_eq, hsz]; omega) (by rw [one_eq]; exact hh)))
      · have e1 : Int.tmod x 10 = ((x.natAbs % 10 : Nat) : Int) := by omega
        rw [hw]
        conv => enter [1, k]; rw [e1]
        exact Ev.call (figure_eq _ hlt) (Ev.call rfl (Ev.pos (by rw [one_eq, hsz]; omega) (by rw [one_eq]; exact hh)))
theorem specDecimal_ev (n : Int) (h0 : -9223372036854775808 ≤ n) (h1 : n ≤ 9223372036854775807) : Ev (fun k => spec_Decimal.f k n) ⟨(Lib.itoa n).toArray⟩ := by
  refine Ev.congr (fun _ => spec_Decimal.f.eq_1 ..) (Ev.ite (fun h => Ev.some ?_) (fun h => ?_))
  · subst h; decide +kernel
  · have := spec_l0 (decide (n < 0)) 20 n ⟨#[]⟩ h0 h1 (by omega) (by decide)
    refine Ev.eq this ?_
    unfold Lib.itoa dg
    rw [if_neg (show ¬ n.natAbs = 0 by omega)]
    by_cases c : n < 0
    · rw [if_pos c, if_pos (decide_eq_true c)]; apply ByteArray.ext; simp
    · rw [if_neg c, if_neg (by simpa using c), show n.toNat = n.natAbs by omega]; apply ByteArray.ext; simp
end Go.Proofs.YtmmpjeadjfamfaaDoor.DecR
