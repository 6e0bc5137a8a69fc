/- Comparisons of texts, as the printed functions spell them: each by '<'. -/
import Derived.Laws.Strings
namespace Go.Proofs.YtmmpjeadjfamfaaDoor.StrCmp
theorem less_other : ∀ a b : List UInt8, (!(Op.bytesLess a b || a == b)) = Op.bytesLess b a
  | [], [] => rfl
  | [], _ :: _ => rfl
  | _ :: _, [] => rfl
  | a :: x, b :: y => by
    have ih := less_other x y
    simp only [Op.bytesLess, List.cons_beq_cons]
    by_cases h : a = b
    · subst h
      have hlt : decide (a < a) = false := by simp
      simp only [hlt, beq_self_eq_true, Bool.false_or, Bool.true_and]
      exact ih
    · have hba : ¬ b = a := fun e => h e.symm
      have e1 : (a == b) = false := by simpa using h
      have e2 : (b == a) = false := by simpa using hba
      have e3 : decide (b < a) = !decide (a < b) := by
        have hn : a.toNat ≠ b.toNat := fun e => h (UInt8.toNat_inj.1 e)
        rw [Bool.eq_iff_iff]
        simp only [decide_eq_true_eq, Bool.not_eq_true', decide_eq_false_iff_not, UInt8.lt_iff_toNat_lt]
        omega
      rw [e1, e2, e3]
      simp
theorem gtr_less (t : TypeId) (a b : ByteArray) : binOp .gtr t (.string a) (.string b) = pure (.bool (Op.bytesLess b.toList a.toList)) := by
  simp only [binOp, Op.stringOp, less_other]
theorem geq_less (t : TypeId) (a b : ByteArray) : binOp .geq t (.string a) (.string b) = pure (.bool (!Op.bytesLess a.toList b.toList)) := by
  simp [binOp, Op.stringOp]
theorem leq_less (t : TypeId) (a b : ByteArray) : binOp .leq t (.string a) (.string b) = pure (.bool (!Op.bytesLess b.toList a.toList)) := by
  have h := less_other a.toList b.toList
  simp only [binOp, Op.stringOp]
  rw [← h, Bool.not_not]
end Go.Proofs.YtmmpjeadjfamfaaDoor.StrCmp

namespace Go.Proofs.YtmmpjeadjfamfaaDoor
theorem BL {p : Prop} (h : p := by repeat (first | (with_reducible first | exact HB.out | apply below_alloc | apply pw_below_drewN | apply below_drew1 | refine below_set ?_ (Aside0.out (by assumption))) | exact HB.out)) : p := h
theorem KL {p : Prop} (h : p := by repeat (first | (with_reducible first | exact HK.out | apply Kept.alloc | apply Kept.drewN | apply Kept.drew | refine Kept.setCell ?_ (.inr (Aside0.out (by assumption))) _) | exact HK.out)) : p := h
theorem BQ {p q : Prop} (h : q) (k : q → p := by intro h_; (with_reducible repeat (first | refine blk_drewN ?_ _ | refine blk_drew ?_ | refine blk_alloc ?_ _)); exact h_) : p := k h
theorem RQ {p q : Prop} (h : q) (k : q → p := by intro h_; (with_reducible repeat (first | apply Kd.R_alloc | apply Kd.R_drewN | apply Kd.R_drew)); exact h_) : p := k h
theorem MA {p : Prop} (h : p := by (try simp only [List.map_toArray, List.map_cons, List.map_nil]); first | done | rfl | (simp only [List.length_drop, List.length_take]; rfl)) : p := h
theorem EE {p : Prop} (h : p := by first | rfl | (simp [errW_none, errW_some] <;> rfl) | (simp [*, errW_none, errW_some] <;> rfl)) : p := h
theorem empty_bne (l : List UInt8) : l.isEmpty = !(l != []) := by cases l <;> rfl
theorem SD {p : Prop} (h : p := by first | rfl | (simp; done) | (simp [*]; done) | (simp; exact empty_bne _)) : p := h
theorem AS {p : Prop} (h : p := by first | (with_reducible assumption) | assumption) : p := h
end Go.Proofs.YtmmpjeadjfamfaaDoor

namespace Go.Proofs.YtmmpjeadjfamfaaDoor
def OB (n b : Nat) : Array Bool := ((List.range n).map (fun i => b.testBit i)).toArray
theorem zA {α : Type} (l : List α) (i : Nat) (a : α) : l.toArray.setIfInBounds i a = (l.set i a).toArray := List.setIfInBounds_toArray ..
theorem zB {α : Type} (x a : α) (l : List α) : (x :: l).set 0 a = a :: l := rfl
theorem zC {α : Type} (x a : α) (i : Nat) (l : List α) : (x :: l).set (i + 1) a = x :: l.set i a := rfl
end Go.Proofs.YtmmpjeadjfamfaaDoor
