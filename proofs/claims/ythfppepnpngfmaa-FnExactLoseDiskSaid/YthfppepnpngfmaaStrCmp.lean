/- Comparisons of texts, as the printed functions spell them: each by '<'. -/
import Derived.Laws.Strings
namespace Go.Proofs.Ythfppepnpngfmaa.StrCmp
theorem less_other : ∀ a b : List UInt8, (!(Op.bytesLess a b || a == b)) = Op.bytesLess b a
  | [], [] => rfl
  | [], _ :: _ => rfl
  | _ :: _, [] => rfl
  | a :: x, b :: y => by
    have ih := less_other x y
    simp only [Op.bytesLess, List.cons_beq_cons]
    by_cases h : a = b
    · subst h
      have hlt : decide (a < a) = false := by simp
      simp only [hlt, beq_self_eq_true, Bool.false_or, Bool.true_and]
      exact ih
    · have hba : ¬ b = a := fun e => h e.symm
      have e1 : (a == b) = false := by simpa using h
      have e2 : (b == a) = false := by simpa using hba
      have e3 : decide (b < a) = !decide (a < b) := by
        have hn : a.toNat ≠ b.toNat := fun e => h (UInt8.toNat_inj.1 e)
        rw [Bool.eq_iff_iff]
        simp only [decide_eq_true_eq, Bool.not_eq_true', decide_eq_false_iff_not, UInt8.lt_iff_toNat_lt]
        omega
      rw [e1, e2, e3]
      simp
theorem gtr_less (t : TypeId) (a b : ByteArray) : binOp .gtr t (.string a) (.string b) = pure (.bool (Op.bytesLess b.toList a.toList)) := by
  simp only [binOp, Op.stringOp, less_other]
theorem geq_less (t : TypeId) (a b : ByteArray) : binOp .geq t (.string a) (.string b) = pure (.bool (!Op.bytesLess a.toList b.toList)) := by
  simp [binOp, Op.stringOp]
theorem leq_less (t : TypeId) (a b : ByteArray) : binOp .leq t (.string a) (.string b) = pure (.bool (!Op.bytesLess b.toList a.toList)) := by
  have h := less_other a.toList b.toList
  simp only [binOp, Op.stringOp]
  rw [← h, Bool.not_not]
end Go.Proofs.Ythfppepnpngfmaa.StrCmp
