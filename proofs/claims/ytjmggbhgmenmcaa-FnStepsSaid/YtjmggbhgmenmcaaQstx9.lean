-- Laid by myprint.py, a program of this session's own, over the kit's print. Not trusted: Lean checks it.
import Derived.Test.YtjmggbhgmenmcaaQstx0
import Derived.Test.YtjmggbhgmenmcaaQstx1
import Derived.Test.YtjmggbhgmenmcaaQstx2
import Derived.Test.YtjmggbhgmenmcaaQstx3
import Derived.Test.YtjmggbhgmenmcaaQstx4
import Derived.Test.YtjmggbhgmenmcaaQstx5
import Derived.Test.YtjmggbhgmenmcaaQstx6
import Derived.Test.YtjmggbhgmenmcaaQstx8
namespace Go.Proofs.Ytjmggbhgmenmcaa.Qst
open Go.RowKit Go.Proofs.YtjmggbhgmenmcaaW.PrintWords Go.Proofs.YtjmggbhgmenmcaaW.PrintLast Go.Proofs.YtjmggbhgmenmcaaW.PrintMore
attribute [local go_sem] Go.Proofs.Ytjmggbhgmenmcaa.StrCmp.gtr_less Go.Proofs.Ytjmggbhgmenmcaa.StrCmp.geq_less Go.Proofs.Ytjmggbhgmenmcaa.StrCmp.leq_less max2_int min2_int max_two min_two max_three min_three max_four min_four   -- for this text's walks alone
set_option linter.unusedVariables false
set_option linter.unusedSimpArgs false

attribute [local go_sem high] eqA46
/-! ### laws_FnSteps: function 11 -/
def laws_FnSteps.f (k : Nat) (l0 : List Int) : Option (Bool) := (laws_big.f l0).bind fun t647 => (if t647 = true then (some true) else ((spec_DrawStepTask.f k l0).bind fun bt648 => ((impl_StepTask.f k bt648.1 bt648.2.1 bt648.2.2.1 bt648.2.2.2.1 bt648.2.2.2.2.1 bt648.2.2.2.2.2.1 bt648.2.2.2.2.2.2.1 bt648.2.2.2.2.2.2.2.1 bt648.2.2.2.2.2.2.2.2.1 bt648.2.2.2.2.2.2.2.2.2.1 bt648.2.2.2.2.2.2.2.2.2.2.1 bt648.2.2.2.2.2.2.2.2.2.2.2).bind fun bt663 => ((spec_StepTask.f k bt648.1 bt648.2.1 bt648.2.2.1 bt648.2.2.2.1 bt648.2.2.2.2.1 bt648.2.2.2.2.2.1 bt648.2.2.2.2.2.2.1 bt648.2.2.2.2.2.2.2.1 bt648.2.2.2.2.2.2.2.2.1 bt648.2.2.2.2.2.2.2.2.2.1 bt648.2.2.2.2.2.2.2.2.2.2.1 bt648.2.2.2.2.2.2.2.2.2.2.2).bind fun bt678 => ((spec_DrawValueOf.f k l0).bind fun bt693 => ((spec_DrawTaskOk.f k l0).bind fun bt697 => ((laws_sameInts.f k bt663.1 bt678.1).bind fun t709 => (if t709 = true then (if (bt663.2.1 == bt678.2.1 && (bt663.2.2.1 == bt678.2.2.1 && (bt663.2.2.2.1 == bt678.2.2.2.1 && (bt663.2.2.2.2.1 == bt678.2.2.2.2.1 && (bt663.2.2.2.2.2.1 == bt678.2.2.2.2.2.1 && (bt663.2.2.2.2.2.2.1 == bt678.2.2.2.2.2.2.1 && (bt663.2.2.2.2.2.2.2.1 == bt678.2.2.2.2.2.2.2.1 && (bt663.2.2.2.2.2.2.2.2.1 == bt678.2.2.2.2.2.2.2.2.1 && (bt663.2.2.2.2.2.2.2.2.2.1 == bt678.2.2.2.2.2.2.2.2.2.1 && (bt663.2.2.2.2.2.2.2.2.2.2.1 == bt678.2.2.2.2.2.2.2.2.2.2.1 && (bt663.2.2.2.2.2.2.2.2.2.2.2 == bt678.2.2.2.2.2.2.2.2.2.2.2))))))))))) = true then ((impl_TaskOk.f k bt648.2.1 bt648.2.2.1 bt648.2.2.2.1 bt648.2.2.2.2.1 bt648.2.2.2.2.2.1 bt648.2.2.2.2.2.2.1 bt648.2.2.2.2.2.2.2.1 bt648.2.2.2.2.2.2.2.2.1 bt648.2.2.2.2.2.2.2.2.2.1 bt648.2.2.2.2.2.2.2.2.2.2.1 bt648.2.2.2.2.2.2.2.2.2.2.2).bind fun t710 => ((spec_TaskOk.f bt648.2.1 bt648.2.2.1 bt648.2.2.2.1 bt648.2.2.2.2.1 bt648.2.2.2.2.2.1 bt648.2.2.2.2.2.2.1 bt648.2.2.2.2.2.2.2.1 bt648.2.2.2.2.2.2.2.2.1 bt648.2.2.2.2.2.2.2.2.2.1 bt648.2.2.2.2.2.2.2.2.2.2.1 bt648.2.2.2.2.2.2.2.2.2.2.2).bind fun t711 => (if (t710 == t711) = true then ((impl_KeysOf.f k bt693.1).bind fun t712 => ((spec_KeysOf.f k bt693.1).bind fun t715 => ((laws_sameInts.f k t712 t715).bind fun t718 => (if t718 = true then ((impl_ValueOf.f k bt693.1 bt693.2).bind fun t719 => ((spec_ValueOf.f k bt693.1 bt693.2).bind fun t720 => (if t719 = t720 then ((impl_TaskOk.f k bt697.1 bt697.2.1 bt697.2.2.1 bt697.2.2.2.1 bt697.2.2.2.2.1 bt697.2.2.2.2.2.1 bt697.2.2.2.2.2.2.1 bt697.2.2.2.2.2.2.2.1 bt697.2.2.2.2.2.2.2.2.1 bt697.2.2.2.2.2.2.2.2.2.1 bt697.2.2.2.2.2.2.2.2.2.2).bind fun t721 => ((spec_TaskOk.f bt697.1 bt697.2.1 bt697.2.2.1 bt697.2.2.2.1 bt697.2.2.2.2.1 bt697.2.2.2.2.2.1 bt697.2.2.2.2.2.2.1 bt697.2.2.2.2.2.2.2.1 bt697.2.2.2.2.2.2.2.2.1 bt697.2.2.2.2.2.2.2.2.2.1 bt697.2.2.2.2.2.2.2.2.2.2).bind fun t722 => (if (t721 == t722) = true then ((impl_ListNew.f).bind fun t723 => (if (t723.length : Int) = 63 then ((impl_TaskNew.f 1 2 3 4).bind fun bt726 => (some (bt726.2.2.2.1 == 4))) else (none))) else (none)))) else (none)))) else (none))))) else (none)))) else (none)) else (none)))))))))
theorem laws_FnSteps.mono : ∀ a0 k, LeO (laws_FnSteps.f k a0) (laws_FnSteps.f (k + 1) a0) := by
 intro a0 k
 unfold laws_FnSteps.f
 repeat' first
   | (with_reducible exact impl_KeysOf.mono _ _)
   | (with_reducible exact impl_StepTask.mono _ _ _ _ _ _ _ _ _ _ _ _ _)
   | (with_reducible exact impl_TaskOk.mono _ _ _ _ _ _ _ _ _ _ _ _)
   | (with_reducible exact impl_ValueOf.mono _ _ _)
   | (with_reducible exact laws_sameInts.mono _ _ _)
   | (with_reducible exact spec_DrawStepTask.mono _ _)
   | (with_reducible exact spec_DrawTaskOk.mono _ _)
   | (with_reducible exact spec_DrawValueOf.mono _ _)
   | (with_reducible exact spec_KeysOf.mono _ _)
   | (with_reducible exact spec_StepTask.mono _ _ _ _ _ _ _ _ _ _ _ _ _)
   | (with_reducible exact spec_ValueOf.mono _ _ _)
   | (with_reducible exact LeO.refl _)
   | (with_reducible exact LeO.none _)
   | (with_reducible refine LeO.ite ?_ ?_)
   | (with_reducible refine LeO.bind ?_ (fun _ => ?_))
   | exact impl_KeysOf.mono _ _
   | exact impl_StepTask.mono _ _ _ _ _ _ _ _ _ _ _ _ _
   | exact impl_TaskOk.mono _ _ _ _ _ _ _ _ _ _ _ _
   | exact impl_ValueOf.mono _ _ _
   | exact laws_sameInts.mono _ _ _
   | exact spec_DrawStepTask.mono _ _
   | exact spec_DrawTaskOk.mono _ _
   | exact spec_DrawValueOf.mono _ _
   | exact spec_KeysOf.mono _ _
   | exact spec_StepTask.mono _ _ _ _ _ _ _ _ _ _ _ _ _
   | exact spec_ValueOf.mono _ _ _
   | exact LeO.none _
   | refine LeO.ite ?_ ?_
   | refine LeO.bind ?_ (fun _ => ?_)
def laws_FnSteps.T8 : Bool × List (List Nat × List Nat) := (true, [([], []), ([], []), ([0, 1], [0, 1]), ([2, 2], [2]), ([3], [3]), ([3], [3]), ([4, 5, 3], [3, 4, 5]), ([3, 6], [3, 6]), ([7, 3], [7]), ([8], [8]), ([9, 8, 8], [8, 9]), ([8], [8]), ([11, 10, 8], [8, 11]), ([10, 12, 8], [8, 10, 12]), ([8, 13], [8, 13]), ([14, 12], [14]), ([15], [15]), ([16, 15, 15], [15, 16]), ([15], [15]), ([18, 17, 15], [15, 18]), ([17, 19, 19, 15], [15, 17, 19]), ([15, 20], [15, 20]), ([21, 20], [21]), ([22], [22]), ([22], [22]), ([23, 24, 22, 22], [22, 23, 24]), ([22], [22]), ([22], [22]), ([26, 27, 25, 22], [22, 26, 27]), ([25, 28, 22], [22, 25, 28]), ([22, 29], [22, 29]), ([30, 28], [30]), ([31], [31]), ([32, 31, 31], [31, 32]), ([31], [31]), ([34, 33, 31], [31, 34]), ([33, 35, 31], [31, 33, 35]), ([31, 36], [31, 36]), ([37, 35], [37]), ([38, 38], [38]), ([39, 38], [38, 39]), ([40, 38], [38, 40]), ([38, 41], [38, 41]), ([42, 39], [42]), ([43, 43], [43]), ([44, 43], [43, 44]), ([45, 43], [43, 45]), ([43, 46], [43, 46]), ([47, 44, 0, 1, 2, 3, 4, 5, 6, 7, 8, 9, 10, 11, 12, 13, 14, 15, 16, 17, 18, 19, 20, 21, 22, 23, 24, 25, 26, 27, 28, 29, 30, 31, 32, 33, 34, 35, 36, 37, 38, 39, 40, 41, 42, 43, 44, 45, 46, 47], [47])])
def laws_FnSteps.B8 : List Nat := [0, 0, 3, 7, 15, 15, 63, 127, 255, 511, 1023, 511, 4095, 8191, 16383, 32767, 65535, 131071, 65535, 524287, 1048575, 2097151, 4194303, 8388607, 8388607, 33554431, 8388607, 8388607, 268435455, 536870911, 1073741823, 2147483647, 4294967295, 8589934591, 4294967295, 34359738367, 68719476735, 137438953471, 274877906943, 549755813887, 1099511627775, 2199023255551, 4398046511103, 8796093022207, 17592186044415, 35184372088831, 70368744177663, 140737488355327, 281474976710655]
theorem laws_FnSteps.tab8 : rtab .any (opsOf Try.f11 8) = laws_FnSteps.T8 := by kernel_rfl
theorem laws_FnSteps.bits8 : waitsOk laws_FnSteps.T8.2 laws_FnSteps.B8 = true := by kernel_rfl
theorem laws_FnSteps.fld (a b c d e f g h i : Int) (j : Bool) (k : Int) (w : World) : (Instr.field 46 (.agg #[.int .i64 a, .int .i64 b, .int .i64 c, .int .i64 d, .int .i64 e, .int .i64 f, .int .i64 g, .int .i64 h, .int .i64 i, .bool j, .int .i64 k]) 3).run Try.prog w = .ok (.int .i64 d) w := by kernel_rfl
set_option maxHeartbeats 8000000 in
set_option maxRecDepth 100000 in
theorem laws_FnSteps.calls (k : Nat) (A0 : Option Addr) (c0 : Nat) (l0 : List Int) (r : Bool) (w : World) (hr0 : Kd.C (Kd.int .u8) w A0 l0.length l0) (hc0 : l0.length ≤ c0) (h : laws_FnSteps.f k l0 = some r) :
  Calls Try.prog 11 #[.slice A0 l0.length c0] w fun e w' => e = .returned (.bool r) ∧ Below w.heap.size w w' := by
 have hu46 := Try.underlying46
 have HR0 := Aside0.mk hr0
 have HC0 := Aside0.mk hc0
 clear hr0 hc0
 have HB := Aside0.mk (Below.refl w.heap.size w)
 have H : ((laws_big.f l0).bind fun t647 => (if t647 = true then (some true) else ((spec_DrawStepTask.f k l0).bind fun bt648 => ((impl_StepTask.f k bt648.1 bt648.2.1 bt648.2.2.1 bt648.2.2.2.1 bt648.2.2.2.2.1 bt648.2.2.2.2.2.1 bt648.2.2.2.2.2.2.1 bt648.2.2.2.2.2.2.2.1 bt648.2.2.2.2.2.2.2.2.1 bt648.2.2.2.2.2.2.2.2.2.1 bt648.2.2.2.2.2.2.2.2.2.2.1 bt648.2.2.2.2.2.2.2.2.2.2.2).bind fun bt663 => ((spec_StepTask.f k bt648.1 bt648.2.1 bt648.2.2.1 bt648.2.2.2.1 bt648.2.2.2.2.1 bt648.2.2.2.2.2.1 bt648.2.2.2.2.2.2.1 bt648.2.2.2.2.2.2.2.1 bt648.2.2.2.2.2.2.2.2.1 bt648.2.2.2.2.2.2.2.2.2.1 bt648.2.2.2.2.2.2.2.2.2.2.1 bt648.2.2.2.2.2.2.2.2.2.2.2).bind fun bt678 => ((spec_DrawValueOf.f k l0).bind fun bt693 => ((spec_DrawTaskOk.f k l0).bind fun bt697 => ((laws_sameInts.f k bt663.1 bt678.1).bind fun t709 => (if t709 = true then (if (bt663.2.1 == bt678.2.1 && (bt663.2.2.1 == bt678.2.2.1 && (bt663.2.2.2.1 == bt678.2.2.2.1 && (bt663.2.2.2.2.1 == bt678.2.2.2.2.1 && (bt663.2.2.2.2.2.1 == bt678.2.2.2.2.2.1 && (bt663.2.2.2.2.2.2.1 == bt678.2.2.2.2.2.2.1 && (bt663.2.2.2.2.2.2.2.1 == bt678.2.2.2.2.2.2.2.1 && (bt663.2.2.2.2.2.2.2.2.1 == bt678.2.2.2.2.2.2.2.2.1 && (bt663.2.2.2.2.2.2.2.2.2.1 == bt678.2.2.2.2.2.2.2.2.2.1 && (bt663.2.2.2.2.2.2.2.2.2.2.1 == bt678.2.2.2.2.2.2.2.2.2.2.1 && (bt663.2.2.2.2.2.2.2.2.2.2.2 == bt678.2.2.2.2.2.2.2.2.2.2.2))))))))))) = true then ((impl_TaskOk.f k bt648.2.1 bt648.2.2.1 bt648.2.2.2.1 bt648.2.2.2.2.1 bt648.2.2.2.2.2.1 bt648.2.2.2.2.2.2.1 bt648.2.2.2.2.2.2.2.1 bt648.2.2.2.2.2.2.2.2.1 bt648.2.2.2.2.2.2.2.2.2.1 bt648.2.2.2.2.2.2.2.2.2.2.1 bt648.2.2.2.2.2.2.2.2.2.2.2).bind fun t710 => ((spec_TaskOk.f bt648.2.1 bt648.2.2.1 bt648.2.2.2.1 bt648.2.2.2.2.1 bt648.2.2.2.2.2.1 bt648.2.2.2.2.2.2.1 bt648.2.2.2.2.2.2.2.1 bt648.2.2.2.2.2.2.2.2.1 bt648.2.2.2.2.2.2.2.2.2.1 bt648.2.2.2.2.2.2.2.2.2.2.1 bt648.2.2.2.2.2.2.2.2.2.2.2).bind fun t711 => (if (t710 == t711) = true then ((impl_KeysOf.f k bt693.1).bind fun t712 => ((spec_KeysOf.f k bt693.1).bind fun t715 => ((laws_sameInts.f k t712 t715).bind fun t718 => (if t718 = true then ((impl_ValueOf.f k bt693.1 bt693.2).bind fun t719 => ((spec_ValueOf.f k bt693.1 bt693.2).bind fun t720 => (if t719 = t720 then ((impl_TaskOk.f k bt697.1 bt697.2.1 bt697.2.2.1 bt697.2.2.2.1 bt697.2.2.2.2.1 bt697.2.2.2.2.2.1 bt697.2.2.2.2.2.2.1 bt697.2.2.2.2.2.2.2.1 bt697.2.2.2.2.2.2.2.2.1 bt697.2.2.2.2.2.2.2.2.2.1 bt697.2.2.2.2.2.2.2.2.2.2).bind fun t721 => ((spec_TaskOk.f bt697.1 bt697.2.1 bt697.2.2.1 bt697.2.2.2.1 bt697.2.2.2.2.1 bt697.2.2.2.2.2.1 bt697.2.2.2.2.2.2.1 bt697.2.2.2.2.2.2.2.1 bt697.2.2.2.2.2.2.2.2.1 bt697.2.2.2.2.2.2.2.2.2.1 bt697.2.2.2.2.2.2.2.2.2.2).bind fun t722 => (if (t721 == t722) = true then ((impl_ListNew.f).bind fun t723 => (if (t723.length : Int) = 63 then ((impl_TaskNew.f 1 2 3 4).bind fun bt726 => (some (bt726.2.2.2.1 == 4))) else (none))) else (none)))) else (none)))) else (none))))) else (none)))) else (none)) else (none)))))))))) = some r := h
 clear h
 replace H := Option.bind_eq_some_iff.mp H
 obtain ⟨t647, A20, H⟩ := H
 have A2 := Aside0.mk A20
 clear A20
 by_cases c3 : t647 = true
 ·
  subst c3
  have H1 : (some true) = some r := by rw [if_pos rfl] at H; exact H
  clear H; have H := H1; clear H1; obtain rfl := Option.some.inj H
  go_enter Try.func11, Try.ntmps11
  go_wp2_with (first | ((with_reducible refine gate_callee (f := 23) rfl ?_); refine goesL_ (some 13) rfl rfl Try.func23 (by kernel_rfl) rfl #[.slice A0 l0.length c0] rfl (MA) ?_; (with_reducible refine (laws_big.calls _ _ l0 true _ ?side1 ?side2 A2.out).mono ?_); (case side1 => repeat (first | exact HR0.out | (with_reducible refine Kd.C_alloc ?_ _) | (with_reducible refine Kd.C_drewN ?_ _) | (with_reducible refine Kd.C_drew ?_))); (case side2 => exact HC0.out); rintro e w' ⟨rfl, ⟨nd, rfl⟩⟩; refine ⟨_, rfl, ?_⟩))
  go_ret
  exact ⟨EE, BL⟩
 replace c3 := Bool.eq_false_iff.mpr c3
 subst c3
 have H1 : ((spec_DrawStepTask.f k l0).bind fun bt648 => ((impl_StepTask.f k bt648.1 bt648.2.1 bt648.2.2.1 bt648.2.2.2.1 bt648.2.2.2.2.1 bt648.2.2.2.2.2.1 bt648.2.2.2.2.2.2.1 bt648.2.2.2.2.2.2.2.1 bt648.2.2.2.2.2.2.2.2.1 bt648.2.2.2.2.2.2.2.2.2.1 bt648.2.2.2.2.2.2.2.2.2.2.1 bt648.2.2.2.2.2.2.2.2.2.2.2).bind fun bt663 => ((spec_StepTask.f k bt648.1 bt648.2.1 bt648.2.2.1 bt648.2.2.2.1 bt648.2.2.2.2.1 bt648.2.2.2.2.2.1 bt648.2.2.2.2.2.2.1 bt648.2.2.2.2.2.2.2.1 bt648.2.2.2.2.2.2.2.2.1 bt648.2.2.2.2.2.2.2.2.2.1 bt648.2.2.2.2.2.2.2.2.2.2.1 bt648.2.2.2.2.2.2.2.2.2.2.2).bind fun bt678 => ((spec_DrawValueOf.f k l0).bind fun bt693 => ((spec_DrawTaskOk.f k l0).bind fun bt697 => ((laws_sameInts.f k bt663.1 bt678.1).bind fun t709 => (if t709 = true then (if (bt663.2.1 == bt678.2.1 && (bt663.2.2.1 == bt678.2.2.1 && (bt663.2.2.2.1 == bt678.2.2.2.1 && (bt663.2.2.2.2.1 == bt678.2.2.2.2.1 && (bt663.2.2.2.2.2.1 == bt678.2.2.2.2.2.1 && (bt663.2.2.2.2.2.2.1 == bt678.2.2.2.2.2.2.1 && (bt663.2.2.2.2.2.2.2.1 == bt678.2.2.2.2.2.2.2.1 && (bt663.2.2.2.2.2.2.2.2.1 == bt678.2.2.2.2.2.2.2.2.1 && (bt663.2.2.2.2.2.2.2.2.2.1 == bt678.2.2.2.2.2.2.2.2.2.1 && (bt663.2.2.2.2.2.2.2.2.2.2.1 == bt678.2.2.2.2.2.2.2.2.2.2.1 && (bt663.2.2.2.2.2.2.2.2.2.2.2 == bt678.2.2.2.2.2.2.2.2.2.2.2))))))))))) = true then ((impl_TaskOk.f k bt648.2.1 bt648.2.2.1 bt648.2.2.2.1 bt648.2.2.2.2.1 bt648.2.2.2.2.2.1 bt648.2.2.2.2.2.2.1 bt648.2.2.2.2.2.2.2.1 bt648.2.2.2.2.2.2.2.2.1 bt648.2.2.2.2.2.2.2.2.2.1 bt648.2.2.2.2.2.2.2.2.2.2.1 bt648.2.2.2.2.2.2.2.2.2.2.2).bind fun t710 => ((spec_TaskOk.f bt648.2.1 bt648.2.2.1 bt648.2.2.2.1 bt648.2.2.2.2.1 bt648.2.2.2.2.2.1 bt648.2.2.2.2.2.2.1 bt648.2.2.2.2.2.2.2.1 bt648.2.2.2.2.2.2.2.2.1 bt648.2.2.2.2.2.2.2.2.2.1 bt648.2.2.2.2.2.2.2.2.2.2.1 bt648.2.2.2.2.2.2.2.2.2.2.2).bind fun t711 => (if (t710 == t711) = true then ((impl_KeysOf.f k bt693.1).bind fun t712 => ((spec_KeysOf.f k bt693.1).bind fun t715 => ((laws_sameInts.f k t712 t715).bind fun t718 => (if t718 = true then ((impl_ValueOf.f k bt693.1 bt693.2).bind fun t719 => ((spec_ValueOf.f k bt693.1 bt693.2).bind fun t720 => (if t719 = t720 then ((impl_TaskOk.f k bt697.1 bt697.2.1 bt697.2.2.1 bt697.2.2.2.1 bt697.2.2.2.2.1 bt697.2.2.2.2.2.1 bt697.2.2.2.2.2.2.1 bt697.2.2.2.2.2.2.2.1 bt697.2.2.2.2.2.2.2.2.1 bt697.2.2.2.2.2.2.2.2.2.1 bt697.2.2.2.2.2.2.2.2.2.2).bind fun t721 => ((spec_TaskOk.f bt697.1 bt697.2.1 bt697.2.2.1 bt697.2.2.2.1 bt697.2.2.2.2.1 bt697.2.2.2.2.2.1 bt697.2.2.2.2.2.2.1 bt697.2.2.2.2.2.2.2.1 bt697.2.2.2.2.2.2.2.2.1 bt697.2.2.2.2.2.2.2.2.2.1 bt697.2.2.2.2.2.2.2.2.2.2).bind fun t722 => (if (t721 == t722) = true then ((impl_ListNew.f).bind fun t723 => (if (t723.length : Int) = 63 then ((impl_TaskNew.f 1 2 3 4).bind fun bt726 => (some (bt726.2.2.2.1 == 4))) else (none))) else (none)))) else (none)))) else (none))))) else (none)))) else (none)) else (none)))))))) = some r := by rw [if_neg (show ¬ (false = true) by decide)] at H; exact H
 clear H
 have H := H1
 clear H1
 replace H := Option.bind_eq_some_iff.mp H
 obtain ⟨⟨t648, t651, t652, t653, t654, t655, t656, t657, t658, t659, t660, t661⟩, A40, H⟩ := H
 replace H : ((impl_StepTask.f k t648 t651 t652 t653 t654 t655 t656 t657 t658 t659 t660 t661).bind fun bt663 => ((spec_StepTask.f k t648 t651 t652 t653 t654 t655 t656 t657 t658 t659 t660 t661).bind fun bt678 => ((spec_DrawValueOf.f k l0).bind fun bt693 => ((spec_DrawTaskOk.f k l0).bind fun bt697 => ((laws_sameInts.f k bt663.1 bt678.1).bind fun t709 => (if t709 = true then (if (bt663.2.1 == bt678.2.1 && (bt663.2.2.1 == bt678.2.2.1 && (bt663.2.2.2.1 == bt678.2.2.2.1 && (bt663.2.2.2.2.1 == bt678.2.2.2.2.1 && (bt663.2.2.2.2.2.1 == bt678.2.2.2.2.2.1 && (bt663.2.2.2.2.2.2.1 == bt678.2.2.2.2.2.2.1 && (bt663.2.2.2.2.2.2.2.1 == bt678.2.2.2.2.2.2.2.1 && (bt663.2.2.2.2.2.2.2.2.1 == bt678.2.2.2.2.2.2.2.2.1 && (bt663.2.2.2.2.2.2.2.2.2.1 == bt678.2.2.2.2.2.2.2.2.2.1 && (bt663.2.2.2.2.2.2.2.2.2.2.1 == bt678.2.2.2.2.2.2.2.2.2.2.1 && (bt663.2.2.2.2.2.2.2.2.2.2.2 == bt678.2.2.2.2.2.2.2.2.2.2.2))))))))))) = true then ((impl_TaskOk.f k t651 t652 t653 t654 t655 t656 t657 t658 t659 t660 t661).bind fun t710 => ((spec_TaskOk.f t651 t652 t653 t654 t655 t656 t657 t658 t659 t660 t661).bind fun t711 => (if (t710 == t711) = true then ((impl_KeysOf.f k bt693.1).bind fun t712 => ((spec_KeysOf.f k bt693.1).bind fun t715 => ((laws_sameInts.f k t712 t715).bind fun t718 => (if t718 = true then ((impl_ValueOf.f k bt693.1 bt693.2).bind fun t719 => ((spec_ValueOf.f k bt693.1 bt693.2).bind fun t720 => (if t719 = t720 then ((impl_TaskOk.f k bt697.1 bt697.2.1 bt697.2.2.1 bt697.2.2.2.1 bt697.2.2.2.2.1 bt697.2.2.2.2.2.1 bt697.2.2.2.2.2.2.1 bt697.2.2.2.2.2.2.2.1 bt697.2.2.2.2.2.2.2.2.1 bt697.2.2.2.2.2.2.2.2.2.1 bt697.2.2.2.2.2.2.2.2.2.2).bind fun t721 => ((spec_TaskOk.f bt697.1 bt697.2.1 bt697.2.2.1 bt697.2.2.2.1 bt697.2.2.2.2.1 bt697.2.2.2.2.2.1 bt697.2.2.2.2.2.2.1 bt697.2.2.2.2.2.2.2.1 bt697.2.2.2.2.2.2.2.2.1 bt697.2.2.2.2.2.2.2.2.2.1 bt697.2.2.2.2.2.2.2.2.2.2).bind fun t722 => (if (t721 == t722) = true then ((impl_ListNew.f).bind fun t723 => (if (t723.length : Int) = 63 then ((impl_TaskNew.f 1 2 3 4).bind fun bt726 => (some (bt726.2.2.2.1 == 4))) else (none))) else (none)))) else (none)))) else (none))))) else (none)))) else (none)) else (none))))))) = some r := H
 have A4 := Aside0.mk A40
 clear A40
 replace H := Option.bind_eq_some_iff.mp H
 obtain ⟨⟨t663, t666, t667, t668, t669, t670, t671, t672, t673, t674, t675, t676⟩, A50, H⟩ := H
 replace H : ((spec_StepTask.f k t648 t651 t652 t653 t654 t655 t656 t657 t658 t659 t660 t661).bind fun bt678 => ((spec_DrawValueOf.f k l0).bind fun bt693 => ((spec_DrawTaskOk.f k l0).bind fun bt697 => ((laws_sameInts.f k t663 bt678.1).bind fun t709 => (if t709 = true then (if (t666 == bt678.2.1 && (t667 == bt678.2.2.1 && (t668 == bt678.2.2.2.1 && (t669 == bt678.2.2.2.2.1 && (t670 == bt678.2.2.2.2.2.1 && (t671 == bt678.2.2.2.2.2.2.1 && (t672 == bt678.2.2.2.2.2.2.2.1 && (t673 == bt678.2.2.2.2.2.2.2.2.1 && (t674 == bt678.2.2.2.2.2.2.2.2.2.1 && (t675 == bt678.2.2.2.2.2.2.2.2.2.2.1 && (t676 == bt678.2.2.2.2.2.2.2.2.2.2.2))))))))))) = true then ((impl_TaskOk.f k t651 t652 t653 t654 t655 t656 t657 t658 t659 t660 t661).bind fun t710 => ((spec_TaskOk.f t651 t652 t653 t654 t655 t656 t657 t658 t659 t660 t661).bind fun t711 => (if (t710 == t711) = true then ((impl_KeysOf.f k bt693.1).bind fun t712 => ((spec_KeysOf.f k bt693.1).bind fun t715 => ((laws_sameInts.f k t712 t715).bind fun t718 => (if t718 = true then ((impl_ValueOf.f k bt693.1 bt693.2).bind fun t719 => ((spec_ValueOf.f k bt693.1 bt693.2).bind fun t720 => (if t719 = t720 then ((impl_TaskOk.f k bt697.1 bt697.2.1 bt697.2.2.1 bt697.2.2.2.1 bt697.2.2.2.2.1 bt697.2.2.2.2.2.1 bt697.2.2.2.2.2.2.1 bt697.2.2.2.2.2.2.2.1 bt697.2.2.2.2.2.2.2.2.1 bt697.2.2.2.2.2.2.2.2.2.1 bt697.2.2.2.2.2.2.2.2.2.2).bind fun t721 => ((spec_TaskOk.f bt697.1 bt697.2.1 bt697.2.2.1 bt697.2.2.2.1 bt697.2.2.2.2.1 bt697.2.2.2.2.2.1 bt697.2.2.2.2.2.2.1 bt697.2.2.2.2.2.2.2.1 bt697.2.2.2.2.2.2.2.2.1 bt697.2.2.2.2.2.2.2.2.2.1 bt697.2.2.2.2.2.2.2.2.2.2).bind fun t722 => (if (t721 == t722) = true then ((impl_ListNew.f).bind fun t723 => (if (t723.length : Int) = 63 then ((impl_TaskNew.f 1 2 3 4).bind fun bt726 => (some (bt726.2.2.2.1 == 4))) else (none))) else (none)))) else (none)))) else (none))))) else (none)))) else (none)) else (none)))))) = some r := H
 have A5 := Aside0.mk A50
 clear A50
 replace H := Option.bind_eq_some_iff.mp H
 obtain ⟨⟨t678, t681, t682, t683, t684, t685, t686, t687, t688, t689, t690, t691⟩, A60, H⟩ := H
 replace H : ((spec_DrawValueOf.f k l0).bind fun bt693 => ((spec_DrawTaskOk.f k l0).bind fun bt697 => ((laws_sameInts.f k t663 t678).bind fun t709 => (if t709 = true then (if (t666 == t681 && (t667 == t682 && (t668 == t683 && (t669 == t684 && (t670 == t685 && (t671 == t686 && (t672 == t687 && (t673 == t688 && (t674 == t689 && (t675 == t690 && (t676 == t691))))))))))) = true then ((impl_TaskOk.f k t651 t652 t653 t654 t655 t656 t657 t658 t659 t660 t661).bind fun t710 => ((spec_TaskOk.f t651 t652 t653 t654 t655 t656 t657 t658 t659 t660 t661).bind fun t711 => (if (t710 == t711) = true then ((impl_KeysOf.f k bt693.1).bind fun t712 => ((spec_KeysOf.f k bt693.1).bind fun t715 => ((laws_sameInts.f k t712 t715).bind fun t718 => (if t718 = true then ((impl_ValueOf.f k bt693.1 bt693.2).bind fun t719 => ((spec_ValueOf.f k bt693.1 bt693.2).bind fun t720 => (if t719 = t720 then ((impl_TaskOk.f k bt697.1 bt697.2.1 bt697.2.2.1 bt697.2.2.2.1 bt697.2.2.2.2.1 bt697.2.2.2.2.2.1 bt697.2.2.2.2.2.2.1 bt697.2.2.2.2.2.2.2.1 bt697.2.2.2.2.2.2.2.2.1 bt697.2.2.2.2.2.2.2.2.2.1 bt697.2.2.2.2.2.2.2.2.2.2).bind fun t721 => ((spec_TaskOk.f bt697.1 bt697.2.1 bt697.2.2.1 bt697.2.2.2.1 bt697.2.2.2.2.1 bt697.2.2.2.2.2.1 bt697.2.2.2.2.2.2.1 bt697.2.2.2.2.2.2.2.1 bt697.2.2.2.2.2.2.2.2.1 bt697.2.2.2.2.2.2.2.2.2.1 bt697.2.2.2.2.2.2.2.2.2.2).bind fun t722 => (if (t721 == t722) = true then ((impl_ListNew.f).bind fun t723 => (if (t723.length : Int) = 63 then ((impl_TaskNew.f 1 2 3 4).bind fun bt726 => (some (bt726.2.2.2.1 == 4))) else (none))) else (none)))) else (none)))) else (none))))) else (none)))) else (none)) else (none))))) = some r := H
 have A6 := Aside0.mk A60
 clear A60
 replace H := Option.bind_eq_some_iff.mp H
 obtain ⟨⟨t693, t694⟩, A70, H⟩ := H
 replace H : ((spec_DrawTaskOk.f k l0).bind fun bt697 => ((laws_sameInts.f k t663 t678).bind fun t709 => (if t709 = true then (if (t666 == t681 && (t667 == t682 && (t668 == t683 && (t669 == t684 && (t670 == t685 && (t671 == t686 && (t672 == t687 && (t673 == t688 && (t674 == t689 && (t675 == t690 && (t676 == t691))))))))))) = true then ((impl_TaskOk.f k t651 t652 t653 t654 t655 t656 t657 t658 t659 t660 t661).bind fun t710 => ((spec_TaskOk.f t651 t652 t653 t654 t655 t656 t657 t658 t659 t660 t661).bind fun t711 => (if (t710 == t711) = true then ((impl_KeysOf.f k t693).bind fun t712 => ((spec_KeysOf.f k t693).bind fun t715 => ((laws_sameInts.f k t712 t715).bind fun t718 => (if t718 = true then ((impl_ValueOf.f k t693 t694).bind fun t719 => ((spec_ValueOf.f k t693 t694).bind fun t720 => (if t719 = t720 then ((impl_TaskOk.f k bt697.1 bt697.2.1 bt697.2.2.1 bt697.2.2.2.1 bt697.2.2.2.2.1 bt697.2.2.2.2.2.1 bt697.2.2.2.2.2.2.1 bt697.2.2.2.2.2.2.2.1 bt697.2.2.2.2.2.2.2.2.1 bt697.2.2.2.2.2.2.2.2.2.1 bt697.2.2.2.2.2.2.2.2.2.2).bind fun t721 => ((spec_TaskOk.f bt697.1 bt697.2.1 bt697.2.2.1 bt697.2.2.2.1 bt697.2.2.2.2.1 bt697.2.2.2.2.2.1 bt697.2.2.2.2.2.2.1 bt697.2.2.2.2.2.2.2.1 bt697.2.2.2.2.2.2.2.2.1 bt697.2.2.2.2.2.2.2.2.2.1 bt697.2.2.2.2.2.2.2.2.2.2).bind fun t722 => (if (t721 == t722) = true then ((impl_ListNew.f).bind fun t723 => (if (t723.length : Int) = 63 then ((impl_TaskNew.f 1 2 3 4).bind fun bt726 => (some (bt726.2.2.2.1 == 4))) else (none))) else (none)))) else (none)))) else (none))))) else (none)))) else (none)) else (none)))) = some r := H
 have A7 := Aside0.mk A70
 clear A70
 replace H := Option.bind_eq_some_iff.mp H
 obtain ⟨⟨t697, t698, t699, t700, t701, t702, t703, t704, t705, t706, t707⟩, A80, H⟩ := H
 replace H : ((laws_sameInts.f k t663 t678).bind fun t709 => (if t709 = true then (if (t666 == t681 && (t667 == t682 && (t668 == t683 && (t669 == t684 && (t670 == t685 && (t671 == t686 && (t672 == t687 && (t673 == t688 && (t674 == t689 && (t675 == t690 && (t676 == t691))))))))))) = true then ((impl_TaskOk.f k t651 t652 t653 t654 t655 t656 t657 t658 t659 t660 t661).bind fun t710 => ((spec_TaskOk.f t651 t652 t653 t654 t655 t656 t657 t658 t659 t660 t661).bind fun t711 => (if (t710 == t711) = true then ((impl_KeysOf.f k t693).bind fun t712 => ((spec_KeysOf.f k t693).bind fun t715 => ((laws_sameInts.f k t712 t715).bind fun t718 => (if t718 = true then ((impl_ValueOf.f k t693 t694).bind fun t719 => ((spec_ValueOf.f k t693 t694).bind fun t720 => (if t719 = t720 then ((impl_TaskOk.f k t697 t698 t699 t700 t701 t702 t703 t704 t705 t706 t707).bind fun t721 => ((spec_TaskOk.f t697 t698 t699 t700 t701 t702 t703 t704 t705 t706 t707).bind fun t722 => (if (t721 == t722) = true then ((impl_ListNew.f).bind fun t723 => (if (t723.length : Int) = 63 then ((impl_TaskNew.f 1 2 3 4).bind fun bt726 => (some (bt726.2.2.2.1 == 4))) else (none))) else (none)))) else (none)))) else (none))))) else (none)))) else (none)) else (none))) = some r := H
 have A8 := Aside0.mk A80
 clear A80
 replace H := Option.bind_eq_some_iff.mp H
 obtain ⟨t709, A90, H⟩ := H
 have A9 := Aside0.mk A90
 clear A90
 by_cases c10 : t709 = true; rotate_left
 ·
  replace c10 := Bool.eq_false_iff.mpr c10; subst c10
  have H1 : (none) = some r := by rw [if_neg (show ¬ (false = true) by decide)] at H; exact H
  clear H; have H := H1; clear H1; exact absurd H (by simp)
 subst c10
 have H1 : (if (t666 == t681 && (t667 == t682 && (t668 == t683 && (t669 == t684 && (t670 == t685 && (t671 == t686 && (t672 == t687 && (t673 == t688 && (t674 == t689 && (t675 == t690 && (t676 == t691))))))))))) = true then ((impl_TaskOk.f k t651 t652 t653 t654 t655 t656 t657 t658 t659 t660 t661).bind fun t710 => ((spec_TaskOk.f t651 t652 t653 t654 t655 t656 t657 t658 t659 t660 t661).bind fun t711 => (if (t710 == t711) = true then ((impl_KeysOf.f k t693).bind fun t712 => ((spec_KeysOf.f k t693).bind fun t715 => ((laws_sameInts.f k t712 t715).bind fun t718 => (if t718 = true then ((impl_ValueOf.f k t693 t694).bind fun t719 => ((spec_ValueOf.f k t693 t694).bind fun t720 => (if t719 = t720 then ((impl_TaskOk.f k t697 t698 t699 t700 t701 t702 t703 t704 t705 t706 t707).bind fun t721 => ((spec_TaskOk.f t697 t698 t699 t700 t701 t702 t703 t704 t705 t706 t707).bind fun t722 => (if (t721 == t722) = true then ((impl_ListNew.f).bind fun t723 => (if (t723.length : Int) = 63 then ((impl_TaskNew.f 1 2 3 4).bind fun bt726 => (some (bt726.2.2.2.1 == 4))) else (none))) else (none)))) else (none)))) else (none))))) else (none)))) else (none)) = some r := by rw [if_pos rfl] at H; exact H
 clear H
 have H := H1
 clear H1
 by_cases c11 : (t666 == t681 && (t667 == t682 && (t668 == t683 && (t669 == t684 && (t670 == t685 && (t671 == t686 && (t672 == t687 && (t673 == t688 && (t674 == t689 && (t675 == t690 && (t676 == t691))))))))))) = true; rotate_left
 ·
  rw [if_neg c11] at H; exact absurd H (by simp)
 rw [if_pos c11] at H
 have c11b0 : (t666 == t681 && (t667 == t682 && (t668 == t683 && (t669 == t684 && (t670 == t685 && (t671 == t686 && (t672 == t687 && (t673 == t688 && (t674 == t689 && (t675 == t690 && (t676 == t691))))))))))) = true := c11
 (try (have c11b1 : decide (t666 = t681 && (t667 == t682 && (t668 == t683 && (t669 == t684 && (t670 == t685 && (t671 == t686 && (t672 == t687 && (t673 == t688 && (t674 == t689 && (t675 == t690 && (t676 == t691))))))))))) = true := by simpa using c11))
 (try (have c11b2 : (t666 == t681 && (t667 == t682 && (t668 == t683 && (t669 == t684 && (t670 == t685 && (t671 == t686 && (t672 == t687 && (t673 == t688 && (t674 == t689 && (t675 == t690 && (t676 == t691))))))))))) = true := by simpa using c11))
 clear c11
 replace H := Option.bind_eq_some_iff.mp H
 obtain ⟨t710, A120, H⟩ := H
 have A12 := Aside0.mk A120
 clear A120
 replace H := Option.bind_eq_some_iff.mp H
 obtain ⟨t711, A130, H⟩ := H
 have A13 := Aside0.mk A130
 clear A130
 by_cases c14 : (t710 == t711) = true; rotate_left
 ·
  rw [if_neg c14] at H; exact absurd H (by simp)
 rw [if_pos c14] at H
 have c14b0 : (t710 == t711) = true := c14
 (try (have c14b1 : decide (t710 = t711) = true := by simpa using c14))
 (try (have c14b2 : (t710 == t711) = true := by simpa using c14))
 clear c14
 replace H := Option.bind_eq_some_iff.mp H
 obtain ⟨t712, A150, H⟩ := H
 have A15 := Aside0.mk A150
 clear A150
 replace H := Option.bind_eq_some_iff.mp H
 obtain ⟨t715, A160, H⟩ := H
 have A16 := Aside0.mk A160
 clear A160
 replace H := Option.bind_eq_some_iff.mp H
 obtain ⟨t718, A170, H⟩ := H
 have A17 := Aside0.mk A170
 clear A170
 by_cases c18 : t718 = true; rotate_left
 ·
  replace c18 := Bool.eq_false_iff.mpr c18; subst c18
  have H1 : (none) = some r := by rw [if_neg (show ¬ (false = true) by decide)] at H; exact H
  clear H; have H := H1; clear H1; exact absurd H (by simp)
 subst c18
 have H1 : ((impl_ValueOf.f k t693 t694).bind fun t719 => ((spec_ValueOf.f k t693 t694).bind fun t720 => (if t719 = t720 then ((impl_TaskOk.f k t697 t698 t699 t700 t701 t702 t703 t704 t705 t706 t707).bind fun t721 => ((spec_TaskOk.f t697 t698 t699 t700 t701 t702 t703 t704 t705 t706 t707).bind fun t722 => (if (t721 == t722) = true then ((impl_ListNew.f).bind fun t723 => (if (t723.length : Int) = 63 then ((impl_TaskNew.f 1 2 3 4).bind fun bt726 => (some (bt726.2.2.2.1 == 4))) else (none))) else (none)))) else (none)))) = some r := by rw [if_pos rfl] at H; exact H
 clear H
 have H := H1
 clear H1
 replace H := Option.bind_eq_some_iff.mp H
 obtain ⟨t719, A190, H⟩ := H
 have A19 := Aside0.mk A190
 clear A190
 replace H := Option.bind_eq_some_iff.mp H
 obtain ⟨t720, A200, H⟩ := H
 have A20 := Aside0.mk A200
 clear A200
 by_cases c21 : t719 = t720; rotate_left
 ·
  rw [if_neg c21] at H; exact absurd H (by simp)
 rw [if_pos c21] at H
 have c21b0 : (t719 == t720) = true := beq_iff_eq.mpr c21
 have c21b1 : (t719 != t720) = false := bne_eq_false_iff_eq.mpr c21
 clear c21
 replace H := Option.bind_eq_some_iff.mp H
 obtain ⟨t721, A220, H⟩ := H
 have A22 := Aside0.mk A220
 clear A220
 replace H := Option.bind_eq_some_iff.mp H
 obtain ⟨t722, A230, H⟩ := H
 have A23 := Aside0.mk A230
 clear A230
 by_cases c24 : (t721 == t722) = true; rotate_left
 ·
  rw [if_neg c24] at H; exact absurd H (by simp)
 rw [if_pos c24] at H
 have c24b0 : (t721 == t722) = true := c24
 (try (have c24b1 : decide (t721 = t722) = true := by simpa using c24))
 (try (have c24b2 : (t721 == t722) = true := by simpa using c24))
 clear c24
 replace H := Option.bind_eq_some_iff.mp H
 obtain ⟨t723, A250, H⟩ := H
 have A25 := Aside0.mk A250
 clear A250
 by_cases c26 : (t723.length : Int) = 63; rotate_left
 ·
  rw [if_neg c26] at H; exact absurd H (by simp)
 rw [if_pos c26] at H
 have c26b0 : ((t723.length : Int) == 63) = true := beq_iff_eq.mpr c26
 have c26b1 : ((t723.length : Int) != 63) = false := bne_eq_false_iff_eq.mpr c26
 clear c26
 replace H := Option.bind_eq_some_iff.mp H
 obtain ⟨⟨t726, t727, t728, t729, t730, t731, t732, t733, t734, t735, t736⟩, A270, H⟩ := H
 replace H : (some (t729 == 4)) = some r := H
 have A27 := Aside0.mk A270
 clear A270
 obtain rfl := Option.some.inj H
 go_enter Try.func11, Try.ntmps11
 try go_wp2_with (first | ((with_reducible refine gate_callee (f := 23) rfl ?_); refine goesL_ (some 13) rfl rfl Try.func23 (by kernel_rfl) rfl #[.slice A0 l0.length c0] rfl (MA) ?_; (with_reducible refine (laws_big.calls _ _ l0 false _ ?side1 ?side2 A2.out).mono ?_); (case side1 => repeat (first | exact HR0.out | (with_reducible refine Kd.C_alloc ?_ _) | (with_reducible refine Kd.C_drewN ?_ _) | (with_reducible refine Kd.C_drew ?_))); (case side2 => exact HC0.out); rintro e w' ⟨rfl, ⟨nd, rfl⟩⟩; refine ⟨_, rfl, ?_⟩) | ((with_reducible refine gate_callee (f := 41) rfl ?_); refine goesL_ (some 16) rfl rfl Try.func41 (by kernel_rfl) rfl #[.slice A0 l0.length c0] rfl (MA) ?_; (with_reducible refine (spec_DrawStepTask.calls k _ _ l0 t648 t651 t652 t653 t654 t655 t656 t657 t658 t659 t660 t661 _ ?side1 ?side2 A4.out).mono ?_); (case side1 => repeat (first | exact HR0.out | (with_reducible refine Kd.C_alloc ?_ _) | (with_reducible refine Kd.C_drewN ?_ _) | (with_reducible refine Kd.C_drew ?_))); (case side2 => exact HC0.out); rintro e w28 ⟨v649, rfl, ho0, hb⟩; refine ⟨_, rfl, ?_⟩; have HO650 := Aside0.mk (Kd.Q_lower ho0 (below_size (BL))); replace HB := Aside0.mk (below_step (BL) hb); (try clear hb); (try clear hb2); (try clear hk); (try clear hi); (try clear ho0)) | ((with_reducible refine gate_dst (N := 4) rfl ?_); (try (refine gate_guard (by rfl) ?_; dsimp only)); refine bE 4 #[.int .i64 0, .int .i64 0, .int .i64 0, .int .i64 0, .int .i64 0, .int .i64 0, .int .i64 0, .int .i64 0, .int .i64 0, .bool false, .int .i64 0] 46 ?_; intro gb662 hg w29 hbox hb; have BK662 := Aside0.mk (hbox); have GW662 : Aside0 (w.heap.size ≤ gb662) := GS; have GE662 := GW662; replace HO650 := Aside0.mk (Kd.Q_below (by (with_reducible repeat (first | apply Kd.Q_alloc | apply Kd.Q_drewN | apply Kd.Q_drew)); exact HO650.out) hb); replace HB := Aside0.mk (below_step (BL) hb); clear hb hbox hg; obtain ⟨hcz30_0, hcz30_1, hcz30_2, hcz30_3, hcz30_4, hcz30_5, hcz30_6, hcz30_7, hcz30_8, hcz30_9, hcz30_10, hfz30_0, hfz30_1, hfz30_2, hfz30_3, hfz30_4, hfz30_5, hfz30_6, hfz30_7, hfz30_8, hfz30_9, hfz30_10⟩ := KC11 BK662.out; obtain ⟨Ao31, co31, eo31, _⟩ := Kd.Q_slice HO650.out; subst eo31) | ((with_reducible refine gate_callee (f := 39) rfl ?_); refine goesL_ (some 22) rfl rfl Try.func39 (by kernel_rfl) rfl #[.slice Ao31 t648.length co31, .agg #[.int .i64 t651, .int .i64 t652, .int .i64 t653, .int .i64 t654, .int .i64 t655, .int .i64 t656, .int .i64 t657, .int .i64 t658, .int .i64 t659, .bool t660, .int .i64 t661]] rfl (MA) ?_; (with_reducible refine (impl_StepTask.calls k _ _ t648 t651 t652 t653 t654 t655 t656 t657 t658 t659 t660 t661 t663 t666 t667 t668 t669 t670 t671 t672 t673 t674 t675 t676 _ ?side1 ?side2 A5.out).mono ?_); (case side1 => refine (Kd.Q_reads' (e := 3) (base := w.heap.size) (ok := fun k_ => True) (n := t648.length) (c := co31) ?_).2.2; exact (by (with_reducible repeat (first | apply Kd.Q_alloc | apply Kd.Q_drewN | apply Kd.Q_drew)); exact (Kd.Q_mono (Kd.Q_far (p := ⟨gb662, 10, none⟩) (Kd.Q_far (p := ⟨gb662, 9, none⟩) (Kd.Q_far (p := ⟨gb662, 8, none⟩) (Kd.Q_far (p := ⟨gb662, 7, none⟩) (Kd.Q_far (p := ⟨gb662, 6, none⟩) (Kd.Q_far (p := ⟨gb662, 5, none⟩) (Kd.Q_far (p := ⟨gb662, 4, none⟩) (Kd.Q_far (p := ⟨gb662, 3, none⟩) (Kd.Q_far (p := ⟨gb662, 2, none⟩) (Kd.Q_far (p := ⟨gb662, 1, none⟩) (Kd.Q_far (p := ⟨gb662, 0, none⟩) (Kd.Q_types HO650.out BK662.out (by decide)) (fun _ hk => hk.2) (.int .i64 t651)) (fun _ hk => hk.2) (.int .i64 t652)) (fun _ hk => hk.2) (.int .i64 t653)) (fun _ hk => hk.2) (.int .i64 t654)) (fun _ hk => hk.2) (.int .i64 t655)) (fun _ hk => hk.2) (.int .i64 t656)) (fun _ hk => hk.2) (.int .i64 t657)) (fun _ hk => hk.2) (.int .i64 t658)) (fun _ hk => hk.2) (.int .i64 t659)) (fun _ hk => hk.2) (.bool t660)) (fun _ hk => hk.2) (.int .i64 t661)) (fun _ h_ => h_.1)))); (case side2 => exact (Kd.Q_reads' HO650.out).2.1); rintro e w32 ⟨v664, rfl, ho0, hb⟩; refine ⟨_, rfl, ?_⟩; have HO665 := Aside0.mk (Kd.R_lower (Kd.R_new' ho0 (Kd.Q_lt (by (with_reducible repeat (first | apply Kd.Q_alloc | apply Kd.Q_drewN | apply Kd.Q_drew)); exact (Kd.Q_mono (Kd.Q_far (p := ⟨gb662, 10, none⟩) (Kd.Q_far (p := ⟨gb662, 9, none⟩) (Kd.Q_far (p := ⟨gb662, 8, none⟩) (Kd.Q_far (p := ⟨gb662, 7, none⟩) (Kd.Q_far (p := ⟨gb662, 6, none⟩) (Kd.Q_far (p := ⟨gb662, 5, none⟩) (Kd.Q_far (p := ⟨gb662, 4, none⟩) (Kd.Q_far (p := ⟨gb662, 3, none⟩) (Kd.Q_far (p := ⟨gb662, 2, none⟩) (Kd.Q_far (p := ⟨gb662, 1, none⟩) (Kd.Q_far (p := ⟨gb662, 0, none⟩) (Kd.Q_types HO650.out BK662.out (by decide)) (fun _ hk => hk.2) (.int .i64 t651)) (fun _ hk => hk.2) (.int .i64 t652)) (fun _ hk => hk.2) (.int .i64 t653)) (fun _ hk => hk.2) (.int .i64 t654)) (fun _ hk => hk.2) (.int .i64 t655)) (fun _ hk => hk.2) (.int .i64 t656)) (fun _ hk => hk.2) (.int .i64 t657)) (fun _ hk => hk.2) (.int .i64 t658)) (fun _ hk => hk.2) (.int .i64 t659)) (fun _ hk => hk.2) (.bool t660)) (fun _ hk => hk.2) (.int .i64 t661)) (fun _ h_ => h_.1))))) (below_size (BL))); replace HO650 := Aside0.mk (Kd.Q_elder' (by (with_reducible repeat (first | apply Kd.Q_alloc | apply Kd.Q_drewN | apply Kd.Q_drew)); exact (Kd.Q_mono (Kd.Q_far (p := ⟨gb662, 10, none⟩) (Kd.Q_far (p := ⟨gb662, 9, none⟩) (Kd.Q_far (p := ⟨gb662, 8, none⟩) (Kd.Q_far (p := ⟨gb662, 7, none⟩) (Kd.Q_far (p := ⟨gb662, 6, none⟩) (Kd.Q_far (p := ⟨gb662, 5, none⟩) (Kd.Q_far (p := ⟨gb662, 4, none⟩) (Kd.Q_far (p := ⟨gb662, 3, none⟩) (Kd.Q_far (p := ⟨gb662, 2, none⟩) (Kd.Q_far (p := ⟨gb662, 1, none⟩) (Kd.Q_far (p := ⟨gb662, 0, none⟩) (Kd.Q_types HO650.out BK662.out (by decide)) (fun _ hk => hk.2) (.int .i64 t651)) (fun _ hk => hk.2) (.int .i64 t652)) (fun _ hk => hk.2) (.int .i64 t653)) (fun _ hk => hk.2) (.int .i64 t654)) (fun _ hk => hk.2) (.int .i64 t655)) (fun _ hk => hk.2) (.int .i64 t656)) (fun _ hk => hk.2) (.int .i64 t657)) (fun _ hk => hk.2) (.int .i64 t658)) (fun _ hk => hk.2) (.int .i64 t659)) (fun _ hk => hk.2) (.bool t660)) (fun _ hk => hk.2) (.int .i64 t661)) (fun _ h_ => h_.1))) (Kd.R_base ho0) hb); replace BK662 := Aside0.mk (blk_below (g := gb662) (o := .cells #[.int .i64 t651, .int .i64 t652, .int .i64 t653, .int .i64 t654, .int .i64 t655, .int .i64 t656, .int .i64 t657, .int .i64 t658, .int .i64 t659, .bool t660, .int .i64 t661] 46 (0, 0)) (BU BK662.out) hb); replace HB := Aside0.mk (below_step (BL) hb); (try clear hb); (try clear hb2); (try clear hk); (try clear hi); (try clear ho0)) | ((with_reducible refine gate_dst (N := 6) rfl ?_); (try (refine gate_guard (by rfl) ?_; dsimp only)); refine bE 6 #[.int .i64 0, .int .i64 0, .int .i64 0, .int .i64 0, .int .i64 0, .int .i64 0, .int .i64 0, .int .i64 0, .int .i64 0, .bool false, .int .i64 0] 46 ?_; intro gb677 hg w33 hbox hb; have BK677 := Aside0.mk (hbox); have GW677 : Aside0 (w.heap.size ≤ gb677) := GS; have GE677 := GW677; have NB662_677 := NL BK662.out hg; have NB677_662 := NG BK662.out hg; replace HO650 := Aside0.mk (Kd.Q_below (by (with_reducible repeat (first | apply Kd.Q_alloc | apply Kd.Q_drewN | apply Kd.Q_drew)); exact HO650.out) hb); replace HO665 := Aside0.mk (Kd.R_below (RQ HO665.out) hb); replace BK662 := BB BK662.out hb; replace HB := Aside0.mk (below_step (BL) hb); clear hb hbox hg; have hnb34 := NB677_662.out; have hnc34 := NB662_677.out; obtain ⟨hcz35_0, hcz35_1, hcz35_2, hcz35_3, hcz35_4, hcz35_5, hcz35_6, hcz35_7, hcz35_8, hcz35_9, hcz35_10, hfz35_0, hfz35_1, hfz35_2, hfz35_3, hfz35_4, hfz35_5, hfz35_6, hfz35_7, hfz35_8, hfz35_9, hfz35_10⟩ := KC11 BK677.out; obtain ⟨hcz36_0, hcz36_1, hcz36_2, hcz36_3, hcz36_4, hcz36_5, hcz36_6, hcz36_7, hcz36_8, hcz36_9, hcz36_10, hfz36_0, hfz36_1, hfz36_2, hfz36_3, hfz36_4, hfz36_5, hfz36_6, hfz36_7, hfz36_8, hfz36_9, hfz36_10⟩ := KC11 BK662.out) | ((with_reducible refine gate_callee (f := 37) rfl ?_); refine goesL_ (some 28) rfl rfl Try.func37 (by kernel_rfl) rfl #[.slice Ao31 t648.length co31, .agg #[.int .i64 t651, .int .i64 t652, .int .i64 t653, .int .i64 t654, .int .i64 t655, .int .i64 t656, .int .i64 t657, .int .i64 t658, .int .i64 t659, .bool t660, .int .i64 t661]] rfl (MA) ?_; (with_reducible refine (spec_StepTask.calls k _ _ t648 t651 t652 t653 t654 t655 t656 t657 t658 t659 t660 t661 t678 t681 t682 t683 t684 t685 t686 t687 t688 t689 t690 t691 _ ?side1 ?side2 A6.out).mono ?_); (case side1 => refine (Kd.Q_reads' (e := 3) (base := w.heap.size) (ok := fun k_ => (True ∧ some k_ ≠ (v664 : Value).ownBlock)) (n := t648.length) (c := co31) ?_).2.2; exact (by (with_reducible repeat (first | apply Kd.Q_alloc | apply Kd.Q_drewN | apply Kd.Q_drew)); exact (Kd.Q_mono (Kd.Q_far (p := ⟨gb677, 10, none⟩) (Kd.Q_far (p := ⟨gb677, 9, none⟩) (Kd.Q_far (p := ⟨gb677, 8, none⟩) (Kd.Q_far (p := ⟨gb677, 7, none⟩) (Kd.Q_far (p := ⟨gb677, 6, none⟩) (Kd.Q_far (p := ⟨gb677, 5, none⟩) (Kd.Q_far (p := ⟨gb677, 4, none⟩) (Kd.Q_far (p := ⟨gb677, 3, none⟩) (Kd.Q_far (p := ⟨gb677, 2, none⟩) (Kd.Q_far (p := ⟨gb677, 1, none⟩) (Kd.Q_far (p := ⟨gb677, 0, none⟩) (Kd.Q_types HO650.out BK677.out (by decide)) (fun _ hk => hk.2) (.int .i64 t666)) (fun _ hk => hk.2) (.int .i64 t667)) (fun _ hk => hk.2) (.int .i64 t668)) (fun _ hk => hk.2) (.int .i64 t669)) (fun _ hk => hk.2) (.int .i64 t670)) (fun _ hk => hk.2) (.int .i64 t671)) (fun _ hk => hk.2) (.int .i64 t672)) (fun _ hk => hk.2) (.int .i64 t673)) (fun _ hk => hk.2) (.int .i64 t674)) (fun _ hk => hk.2) (.bool t675)) (fun _ hk => hk.2) (.int .i64 t676)) (fun _ h_ => h_.1)))); (case side2 => exact (Kd.Q_reads' HO650.out).2.1); rintro e w37 ⟨v679, rfl, ho0, hb⟩; refine ⟨_, rfl, ?_⟩; have HO680 := Aside0.mk (Kd.R_lower (Kd.R_new' (Kd.R_new' ho0 (Kd.Q_lt (by (with_reducible repeat (first | apply Kd.Q_alloc | apply Kd.Q_drewN | apply Kd.Q_drew)); exact (Kd.Q_mono (Kd.Q_far (p := ⟨gb677, 10, none⟩) (Kd.Q_far (p := ⟨gb677, 9, none⟩) (Kd.Q_far (p := ⟨gb677, 8, none⟩) (Kd.Q_far (p := ⟨gb677, 7, none⟩) (Kd.Q_far (p := ⟨gb677, 6, none⟩) (Kd.Q_far (p := ⟨gb677, 5, none⟩) (Kd.Q_far (p := ⟨gb677, 4, none⟩) (Kd.Q_far (p := ⟨gb677, 3, none⟩) (Kd.Q_far (p := ⟨gb677, 2, none⟩) (Kd.Q_far (p := ⟨gb677, 1, none⟩) (Kd.Q_far (p := ⟨gb677, 0, none⟩) (Kd.Q_types HO650.out BK677.out (by decide)) (fun _ hk => hk.2) (.int .i64 t666)) (fun _ hk => hk.2) (.int .i64 t667)) (fun _ hk => hk.2) (.int .i64 t668)) (fun _ hk => hk.2) (.int .i64 t669)) (fun _ hk => hk.2) (.int .i64 t670)) (fun _ hk => hk.2) (.int .i64 t671)) (fun _ hk => hk.2) (.int .i64 t672)) (fun _ hk => hk.2) (.int .i64 t673)) (fun _ hk => hk.2) (.int .i64 t674)) (fun _ hk => hk.2) (.bool t675)) (fun _ hk => hk.2) (.int .i64 t676)) (fun _ h_ => h_.1))))) (Kd.R_lt (RG HO665.out BK677.out))) (below_size (BL))); replace HO650 := Aside0.mk (Kd.Q_elder' (by (with_reducible repeat (first | apply Kd.Q_alloc | apply Kd.Q_drewN | apply Kd.Q_drew)); exact (Kd.Q_mono (Kd.Q_far (p := ⟨gb677, 10, none⟩) (Kd.Q_far (p := ⟨gb677, 9, none⟩) (Kd.Q_far (p := ⟨gb677, 8, none⟩) (Kd.Q_far (p := ⟨gb677, 7, none⟩) (Kd.Q_far (p := ⟨gb677, 6, none⟩) (Kd.Q_far (p := ⟨gb677, 5, none⟩) (Kd.Q_far (p := ⟨gb677, 4, none⟩) (Kd.Q_far (p := ⟨gb677, 3, none⟩) (Kd.Q_far (p := ⟨gb677, 2, none⟩) (Kd.Q_far (p := ⟨gb677, 1, none⟩) (Kd.Q_far (p := ⟨gb677, 0, none⟩) (Kd.Q_types HO650.out BK677.out (by decide)) (fun _ hk => hk.2) (.int .i64 t666)) (fun _ hk => hk.2) (.int .i64 t667)) (fun _ hk => hk.2) (.int .i64 t668)) (fun _ hk => hk.2) (.int .i64 t669)) (fun _ hk => hk.2) (.int .i64 t670)) (fun _ hk => hk.2) (.int .i64 t671)) (fun _ hk => hk.2) (.int .i64 t672)) (fun _ hk => hk.2) (.int .i64 t673)) (fun _ hk => hk.2) (.int .i64 t674)) (fun _ hk => hk.2) (.bool t675)) (fun _ hk => hk.2) (.int .i64 t676)) (fun _ h_ => h_.1))) (Kd.R_base ho0) hb); replace HO665 := Aside0.mk (Kd.R_elder' (RG HO665.out BK677.out) (Kd.R_base ho0) hb); replace BK662 := BX BK662.out hb; replace BK677 := Aside0.mk (blk_below (g := gb677) (o := .cells #[.int .i64 t666, .int .i64 t667, .int .i64 t668, .int .i64 t669, .int .i64 t670, .int .i64 t671, .int .i64 t672, .int .i64 t673, .int .i64 t674, .bool t675, .int .i64 t676] 46 (0, 0)) (BU BK677.out) hb); replace HB := Aside0.mk (below_step (BL) hb); (try clear hb); (try clear hb2); (try clear hk); (try clear hi); (try clear ho0)) | ((with_reducible refine gate_dst (N := 8) rfl ?_); (try (refine gate_guard (by rfl) ?_; dsimp only)); refine bE 8 #[.int .i64 0, .int .i64 0, .int .i64 0, .int .i64 0, .int .i64 0, .int .i64 0, .int .i64 0, .int .i64 0, .int .i64 0, .bool false, .int .i64 0] 46 ?_; intro gb692 hg w38 hbox hb; have BK692 := Aside0.mk (hbox); have GW692 : Aside0 (w.heap.size ≤ gb692) := GS; have GE692 := GW692; have NB662_692 := NL BK662.out hg; have NB692_662 := NG BK662.out hg; have NB677_692 := NL BK677.out hg; have NB692_677 := NG BK677.out hg; replace HO650 := Aside0.mk (Kd.Q_below (by (with_reducible repeat (first | apply Kd.Q_alloc | apply Kd.Q_drewN | apply Kd.Q_drew)); exact HO650.out) hb); replace HO665 := Aside0.mk (Kd.R_below (RQ HO665.out) hb); replace HO680 := Aside0.mk (Kd.R_below (RQ HO680.out) hb); replace BK662 := BB BK662.out hb; replace BK677 := BB BK677.out hb; replace HB := Aside0.mk (below_step (BL) hb); clear hb hbox hg; have hnb39 := NB692_662.out; have hnc39 := NB662_692.out; have hnb40 := NB692_677.out; have hnc40 := NB677_692.out; obtain ⟨hcz41_0, hcz41_1, hcz41_2, hcz41_3, hcz41_4, hcz41_5, hcz41_6, hcz41_7, hcz41_8, hcz41_9, hcz41_10, hfz41_0, hfz41_1, hfz41_2, hfz41_3, hfz41_4, hfz41_5, hfz41_6, hfz41_7, hfz41_8, hfz41_9, hfz41_10⟩ := KC11 BK692.out) | ((with_reducible refine gate_callee (f := 42) rfl ?_); refine goesL_ (some 33) rfl rfl Try.func42 (by kernel_rfl) rfl #[.slice A0 l0.length c0] rfl (MA) ?_; (with_reducible refine (spec_DrawValueOf.calls k _ _ l0 t693 t694 _ ?side1 ?side2 A7.out).mono ?_); (case side1 => exact Kd.C_below HR0.out (BL)); (case side2 => exact HC0.out); rintro e w42 ⟨v695, rfl, ho0, hb⟩; refine ⟨_, rfl, ?_⟩; have HO696 := Aside0.mk (Kd.Q_lower (Kd.Q_new' (Kd.Q_new' (Kd.Q_new' ho0 (Kd.Q_lt (by (with_reducible repeat (first | apply Kd.Q_alloc | apply Kd.Q_drewN | apply Kd.Q_drew)); exact (Kd.Q_mono (Kd.Q_far (p := ⟨gb692, 10, none⟩) (Kd.Q_far (p := ⟨gb692, 9, none⟩) (Kd.Q_far (p := ⟨gb692, 8, none⟩) (Kd.Q_far (p := ⟨gb692, 7, none⟩) (Kd.Q_far (p := ⟨gb692, 6, none⟩) (Kd.Q_far (p := ⟨gb692, 5, none⟩) (Kd.Q_far (p := ⟨gb692, 4, none⟩) (Kd.Q_far (p := ⟨gb692, 3, none⟩) (Kd.Q_far (p := ⟨gb692, 2, none⟩) (Kd.Q_far (p := ⟨gb692, 1, none⟩) (Kd.Q_far (p := ⟨gb692, 0, none⟩) (Kd.Q_types HO650.out BK692.out (by decide)) (fun _ hk => hk.2) (.int .i64 t681)) (fun _ hk => hk.2) (.int .i64 t682)) (fun _ hk => hk.2) (.int .i64 t683)) (fun _ hk => hk.2) (.int .i64 t684)) (fun _ hk => hk.2) (.int .i64 t685)) (fun _ hk => hk.2) (.int .i64 t686)) (fun _ hk => hk.2) (.int .i64 t687)) (fun _ hk => hk.2) (.int .i64 t688)) (fun _ hk => hk.2) (.int .i64 t689)) (fun _ hk => hk.2) (.bool t690)) (fun _ hk => hk.2) (.int .i64 t691)) (fun _ h_ => h_.1))))) (Kd.R_lt (RG HO665.out BK692.out))) (Kd.R_lt (RG HO680.out BK692.out))) (below_size (BL))); replace HO650 := Aside0.mk (Kd.Q_elder' (by (with_reducible repeat (first | apply Kd.Q_alloc | apply Kd.Q_drewN | apply Kd.Q_drew)); exact (Kd.Q_mono (Kd.Q_far (p := ⟨gb692, 10, none⟩) (Kd.Q_far (p := ⟨gb692, 9, none⟩) (Kd.Q_far (p := ⟨gb692, 8, none⟩) (Kd.Q_far (p := ⟨gb692, 7, none⟩) (Kd.Q_far (p := ⟨gb692, 6, none⟩) (Kd.Q_far (p := ⟨gb692, 5, none⟩) (Kd.Q_far (p := ⟨gb692, 4, none⟩) (Kd.Q_far (p := ⟨gb692, 3, none⟩) (Kd.Q_far (p := ⟨gb692, 2, none⟩) (Kd.Q_far (p := ⟨gb692, 1, none⟩) (Kd.Q_far (p := ⟨gb692, 0, none⟩) (Kd.Q_types HO650.out BK692.out (by decide)) (fun _ hk => hk.2) (.int .i64 t681)) (fun _ hk => hk.2) (.int .i64 t682)) (fun _ hk => hk.2) (.int .i64 t683)) (fun _ hk => hk.2) (.int .i64 t684)) (fun _ hk => hk.2) (.int .i64 t685)) (fun _ hk => hk.2) (.int .i64 t686)) (fun _ hk => hk.2) (.int .i64 t687)) (fun _ hk => hk.2) (.int .i64 t688)) (fun _ hk => hk.2) (.int .i64 t689)) (fun _ hk => hk.2) (.bool t690)) (fun _ hk => hk.2) (.int .i64 t691)) (fun _ h_ => h_.1))) (Kd.Q_base ho0) hb); replace HO665 := Aside0.mk (Kd.R_elder' (RG HO665.out BK692.out) (Kd.Q_base ho0) hb); replace HO680 := Aside0.mk (Kd.R_elder' (RG HO680.out BK692.out) (Kd.Q_base ho0) hb); replace BK662 := BX BK662.out hb; replace BK677 := BX BK677.out hb; replace BK692 := Aside0.mk (blk_below (g := gb692) (o := .cells #[.int .i64 t681, .int .i64 t682, .int .i64 t683, .int .i64 t684, .int .i64 t685, .int .i64 t686, .int .i64 t687, .int .i64 t688, .int .i64 t689, .bool t690, .int .i64 t691] 46 (0, 0)) (BU BK692.out) hb); replace HB := Aside0.mk (below_step (BL) hb); (try clear hb); (try clear hb2); (try clear hk); (try clear hi); (try clear ho0)) | ((with_reducible refine gate_callee (f := 43) rfl ?_); refine goesL_ (some 37) rfl rfl Try.func43 (by kernel_rfl) rfl #[.slice A0 l0.length c0] rfl (MA) ?_; (with_reducible refine (spec_DrawTaskOk.calls k _ _ l0 t697 t698 t699 t700 t701 t702 t703 t704 t705 t706 t707 _ ?side1 ?side2 A8.out).mono ?_); (case side1 => exact CB HR0.out); (case side2 => exact HC0.out); rintro e w43 ⟨rfl, hb⟩; refine ⟨_, rfl, ?_⟩; replace HO650 := Aside0.mk (Kd.Q_below (by (with_reducible repeat (first | apply Kd.Q_alloc | apply Kd.Q_drewN | apply Kd.Q_drew)); exact HO650.out) hb); replace HO665 := Aside0.mk (Kd.R_below (RQ HO665.out) hb); replace HO680 := Aside0.mk (Kd.R_below (RQ HO680.out) hb); replace HO696 := Aside0.mk (Kd.Q_below (by (with_reducible repeat (first | apply Kd.Q_alloc | apply Kd.Q_drewN | apply Kd.Q_drew)); exact HO696.out) hb); replace BK662 := BB BK662.out hb; replace BK677 := BB BK677.out hb; replace BK692 := BB BK692.out hb; replace HB := Aside0.mk (below_step (BL) hb); (try clear hb); (try clear hb2); (try clear hk); (try clear hi)) | ((with_reducible refine gate_dst (N := 11) rfl ?_); (try (refine gate_guard (by rfl) ?_; dsimp only)); refine bE 11 #[.int .i64 0, .int .i64 0, .int .i64 0, .int .i64 0, .int .i64 0, .int .i64 0, .int .i64 0, .int .i64 0, .int .i64 0, .bool false, .int .i64 0] 46 ?_; intro gb708 hg w44 hbox hb; have BK708 := Aside0.mk (hbox); have GW708 : Aside0 (w.heap.size ≤ gb708) := GS; have GE708 := GW708; have NB662_708 := NL BK662.out hg; have NB708_662 := NG BK662.out hg; have NB677_708 := NL BK677.out hg; have NB708_677 := NG BK677.out hg; have NB692_708 := NL BK692.out hg; have NB708_692 := NG BK692.out hg; replace HO650 := Aside0.mk (Kd.Q_below (by (with_reducible repeat (first | apply Kd.Q_alloc | apply Kd.Q_drewN | apply Kd.Q_drew)); exact HO650.out) hb); replace HO665 := Aside0.mk (Kd.R_below (RQ HO665.out) hb); replace HO680 := Aside0.mk (Kd.R_below (RQ HO680.out) hb); replace HO696 := Aside0.mk (Kd.Q_below (by (with_reducible repeat (first | apply Kd.Q_alloc | apply Kd.Q_drewN | apply Kd.Q_drew)); exact HO696.out) hb); replace BK662 := BB BK662.out hb; replace BK677 := BB BK677.out hb; replace BK692 := BB BK692.out hb; replace HB := Aside0.mk (below_step (BL) hb); clear hb hbox hg; have hnb45 := NB708_662.out; have hnc45 := NB662_708.out; have hnb46 := NB708_677.out; have hnc46 := NB677_708.out; have hnb47 := NB708_692.out; have hnc47 := NB692_708.out; obtain ⟨hcz48_0, hcz48_1, hcz48_2, hcz48_3, hcz48_4, hcz48_5, hcz48_6, hcz48_7, hcz48_8, hcz48_9, hcz48_10, hfz48_0, hfz48_1, hfz48_2, hfz48_3, hfz48_4, hfz48_5, hfz48_6, hfz48_7, hfz48_8, hfz48_9, hfz48_10⟩ := KC11 BK708.out))
 have n0_ : Aside0 (Kd.Q (Kd.int .i64) 3 (((((((((((w44.setCell ⟨gb708, 0, none⟩ (.int .i64 t697)).setCell ⟨gb708, 1, none⟩ (.int .i64 t698)).setCell ⟨gb708, 2, none⟩ (.int .i64 t699)).setCell ⟨gb708, 3, none⟩ (.int .i64 t700)).setCell ⟨gb708, 4, none⟩ (.int .i64 t701)).setCell ⟨gb708, 5, none⟩ (.int .i64 t702)).setCell ⟨gb708, 6, none⟩ (.int .i64 t703)).setCell ⟨gb708, 7, none⟩ (.int .i64 t704)).setCell ⟨gb708, 8, none⟩ (.int .i64 t705)).setCell ⟨gb708, 9, none⟩ (.bool t706)).setCell ⟨gb708, 10, none⟩ (.int .i64 t707)) w.heap.size (fun k_ => some k_ ≠ (v664 : Value).ownBlock ∧ some k_ ≠ (v679 : Value).ownBlock ∧ some k_ ≠ (v695 : Value).ownBlock) (.slice Ao31 t648.length co31) t648) := ⟨by (with_reducible repeat (first | apply Kd.Q_alloc | apply Kd.Q_drewN | apply Kd.Q_drew)); exact Kd.Q_mono (Kd.Q_far (p := ⟨gb708, 10, none⟩) (Kd.Q_far (p := ⟨gb708, 9, none⟩) (Kd.Q_far (p := ⟨gb708, 8, none⟩) (Kd.Q_far (p := ⟨gb708, 7, none⟩) (Kd.Q_far (p := ⟨gb708, 6, none⟩) (Kd.Q_far (p := ⟨gb708, 5, none⟩) (Kd.Q_far (p := ⟨gb708, 4, none⟩) (Kd.Q_far (p := ⟨gb708, 3, none⟩) (Kd.Q_far (p := ⟨gb708, 2, none⟩) (Kd.Q_far (p := ⟨gb708, 1, none⟩) (Kd.Q_far (p := ⟨gb708, 0, none⟩) (Kd.Q_types HO650.out BK708.out (by decide)) (fun _ hk => hk.2) (.int .i64 t697)) (fun _ hk => hk.2) (.int .i64 t698)) (fun _ hk => hk.2) (.int .i64 t699)) (fun _ hk => hk.2) (.int .i64 t700)) (fun _ hk => hk.2) (.int .i64 t701)) (fun _ hk => hk.2) (.int .i64 t702)) (fun _ hk => hk.2) (.int .i64 t703)) (fun _ hk => hk.2) (.int .i64 t704)) (fun _ hk => hk.2) (.int .i64 t705)) (fun _ hk => hk.2) (.bool t706)) (fun _ hk => hk.2) (.int .i64 t707)) (fun _ hk => ⟨hk.1.1.1.2, ⟨hk.1.1.2, hk.1.2⟩⟩)⟩
 have n1_ : Aside0 (Kd.R (Kd.int .i64) 3 (((((((((((w44.setCell ⟨gb708, 0, none⟩ (.int .i64 t697)).setCell ⟨gb708, 1, none⟩ (.int .i64 t698)).setCell ⟨gb708, 2, none⟩ (.int .i64 t699)).setCell ⟨gb708, 3, none⟩ (.int .i64 t700)).setCell ⟨gb708, 4, none⟩ (.int .i64 t701)).setCell ⟨gb708, 5, none⟩ (.int .i64 t702)).setCell ⟨gb708, 6, none⟩ (.int .i64 t703)).setCell ⟨gb708, 7, none⟩ (.int .i64 t704)).setCell ⟨gb708, 8, none⟩ (.int .i64 t705)).setCell ⟨gb708, 9, none⟩ (.bool t706)).setCell ⟨gb708, 10, none⟩ (.int .i64 t707)) w.heap.size (fun k_ => some k_ ≠ (.slice Ao31 t648.length co31 : Value).ownBlock ∧ some k_ ≠ (v679 : Value).ownBlock ∧ some k_ ≠ (v695 : Value).ownBlock) v664 t663) := ⟨by (with_reducible repeat (first | apply r1 | apply r2 | apply r3)); exact Kd.R_mono (Kd.R_far (p := ⟨gb708, 10, none⟩) (Kd.R_far (p := ⟨gb708, 9, none⟩) (Kd.R_far (p := ⟨gb708, 8, none⟩) (Kd.R_far (p := ⟨gb708, 7, none⟩) (Kd.R_far (p := ⟨gb708, 6, none⟩) (Kd.R_far (p := ⟨gb708, 5, none⟩) (Kd.R_far (p := ⟨gb708, 4, none⟩) (Kd.R_far (p := ⟨gb708, 3, none⟩) (Kd.R_far (p := ⟨gb708, 2, none⟩) (Kd.R_far (p := ⟨gb708, 1, none⟩) (Kd.R_far (p := ⟨gb708, 0, none⟩) (Kd.R_types HO665.out BK708.out (by decide)) (fun _ hk => hk.2) (.int .i64 t697)) (fun _ hk => hk.2) (.int .i64 t698)) (fun _ hk => hk.2) (.int .i64 t699)) (fun _ hk => hk.2) (.int .i64 t700)) (fun _ hk => hk.2) (.int .i64 t701)) (fun _ hk => hk.2) (.int .i64 t702)) (fun _ hk => hk.2) (.int .i64 t703)) (fun _ hk => hk.2) (.int .i64 t704)) (fun _ hk => hk.2) (.int .i64 t705)) (fun _ hk => hk.2) (.bool t706)) (fun _ hk => hk.2) (.int .i64 t707)) (fun _ hk => ⟨hk.1.1.1.2, ⟨hk.1.1.2, hk.1.2⟩⟩)⟩
 have n2_ : Aside0 (Kd.R (Kd.int .i64) 3 (((((((((((w44.setCell ⟨gb708, 0, none⟩ (.int .i64 t697)).setCell ⟨gb708, 1, none⟩ (.int .i64 t698)).setCell ⟨gb708, 2, none⟩ (.int .i64 t699)).setCell ⟨gb708, 3, none⟩ (.int .i64 t700)).setCell ⟨gb708, 4, none⟩ (.int .i64 t701)).setCell ⟨gb708, 5, none⟩ (.int .i64 t702)).setCell ⟨gb708, 6, none⟩ (.int .i64 t703)).setCell ⟨gb708, 7, none⟩ (.int .i64 t704)).setCell ⟨gb708, 8, none⟩ (.int .i64 t705)).setCell ⟨gb708, 9, none⟩ (.bool t706)).setCell ⟨gb708, 10, none⟩ (.int .i64 t707)) w.heap.size (fun k_ => some k_ ≠ (.slice Ao31 t648.length co31 : Value).ownBlock ∧ some k_ ≠ (v664 : Value).ownBlock ∧ some k_ ≠ (v695 : Value).ownBlock) v679 t678) := ⟨by (with_reducible repeat (first | apply r1 | apply r2 | apply r3)); exact Kd.R_mono (Kd.R_far (p := ⟨gb708, 10, none⟩) (Kd.R_far (p := ⟨gb708, 9, none⟩) (Kd.R_far (p := ⟨gb708, 8, none⟩) (Kd.R_far (p := ⟨gb708, 7, none⟩) (Kd.R_far (p := ⟨gb708, 6, none⟩) (Kd.R_far (p := ⟨gb708, 5, none⟩) (Kd.R_far (p := ⟨gb708, 4, none⟩) (Kd.R_far (p := ⟨gb708, 3, none⟩) (Kd.R_far (p := ⟨gb708, 2, none⟩) (Kd.R_far (p := ⟨gb708, 1, none⟩) (Kd.R_far (p := ⟨gb708, 0, none⟩) (Kd.R_types HO680.out BK708.out (by decide)) (fun _ hk => hk.2) (.int .i64 t697)) (fun _ hk => hk.2) (.int .i64 t698)) (fun _ hk => hk.2) (.int .i64 t699)) (fun _ hk => hk.2) (.int .i64 t700)) (fun _ hk => hk.2) (.int .i64 t701)) (fun _ hk => hk.2) (.int .i64 t702)) (fun _ hk => hk.2) (.int .i64 t703)) (fun _ hk => hk.2) (.int .i64 t704)) (fun _ hk => hk.2) (.int .i64 t705)) (fun _ hk => hk.2) (.bool t706)) (fun _ hk => hk.2) (.int .i64 t707)) (fun _ hk => ⟨hk.1.1.1.2, ⟨hk.1.1.2, hk.1.2⟩⟩)⟩
 have n3_ : Aside0 (Kd.Q (Kd.int .i64) 3 (((((((((((w44.setCell ⟨gb708, 0, none⟩ (.int .i64 t697)).setCell ⟨gb708, 1, none⟩ (.int .i64 t698)).setCell ⟨gb708, 2, none⟩ (.int .i64 t699)).setCell ⟨gb708, 3, none⟩ (.int .i64 t700)).setCell ⟨gb708, 4, none⟩ (.int .i64 t701)).setCell ⟨gb708, 5, none⟩ (.int .i64 t702)).setCell ⟨gb708, 6, none⟩ (.int .i64 t703)).setCell ⟨gb708, 7, none⟩ (.int .i64 t704)).setCell ⟨gb708, 8, none⟩ (.int .i64 t705)).setCell ⟨gb708, 9, none⟩ (.bool t706)).setCell ⟨gb708, 10, none⟩ (.int .i64 t707)) w.heap.size (fun k_ => some k_ ≠ (.slice Ao31 t648.length co31 : Value).ownBlock ∧ some k_ ≠ (v664 : Value).ownBlock ∧ some k_ ≠ (v679 : Value).ownBlock) v695 t693) := ⟨by (with_reducible repeat (first | apply Kd.Q_alloc | apply Kd.Q_drewN | apply Kd.Q_drew)); exact Kd.Q_mono (Kd.Q_far (p := ⟨gb708, 10, none⟩) (Kd.Q_far (p := ⟨gb708, 9, none⟩) (Kd.Q_far (p := ⟨gb708, 8, none⟩) (Kd.Q_far (p := ⟨gb708, 7, none⟩) (Kd.Q_far (p := ⟨gb708, 6, none⟩) (Kd.Q_far (p := ⟨gb708, 5, none⟩) (Kd.Q_far (p := ⟨gb708, 4, none⟩) (Kd.Q_far (p := ⟨gb708, 3, none⟩) (Kd.Q_far (p := ⟨gb708, 2, none⟩) (Kd.Q_far (p := ⟨gb708, 1, none⟩) (Kd.Q_far (p := ⟨gb708, 0, none⟩) (Kd.Q_types HO696.out BK708.out (by decide)) (fun _ hk => hk.2) (.int .i64 t697)) (fun _ hk => hk.2) (.int .i64 t698)) (fun _ hk => hk.2) (.int .i64 t699)) (fun _ hk => hk.2) (.int .i64 t700)) (fun _ hk => hk.2) (.int .i64 t701)) (fun _ hk => hk.2) (.int .i64 t702)) (fun _ hk => hk.2) (.int .i64 t703)) (fun _ hk => hk.2) (.int .i64 t704)) (fun _ hk => hk.2) (.int .i64 t705)) (fun _ hk => hk.2) (.bool t706)) (fun _ hk => hk.2) (.int .i64 t707)) (fun _ hk => ⟨hk.1.1.1.2, ⟨hk.1.1.2, hk.1.2⟩⟩)⟩
 have n4_ : Aside0 ((((((((((((w44.setCell ⟨gb708, 0, none⟩ (.int .i64 t697)).setCell ⟨gb708, 1, none⟩ (.int .i64 t698)).setCell ⟨gb708, 2, none⟩ (.int .i64 t699)).setCell ⟨gb708, 3, none⟩ (.int .i64 t700)).setCell ⟨gb708, 4, none⟩ (.int .i64 t701)).setCell ⟨gb708, 5, none⟩ (.int .i64 t702)).setCell ⟨gb708, 6, none⟩ (.int .i64 t703)).setCell ⟨gb708, 7, none⟩ (.int .i64 t704)).setCell ⟨gb708, 8, none⟩ (.int .i64 t705)).setCell ⟨gb708, 9, none⟩ (.bool t706)).setCell ⟨gb708, 10, none⟩ (.int .i64 t707)).heap[gb662]? = some (.cells #[.int .i64 t651, .int .i64 t652, .int .i64 t653, .int .i64 t654, .int .i64 t655, .int .i64 t656, .int .i64 t657, .int .i64 t658, .int .i64 t659, .bool t660, .int .i64 t661] 46 (0, 0))) := ⟨BP BK662.out⟩
 have n5_ : Aside0 ((((((((((((w44.setCell ⟨gb708, 0, none⟩ (.int .i64 t697)).setCell ⟨gb708, 1, none⟩ (.int .i64 t698)).setCell ⟨gb708, 2, none⟩ (.int .i64 t699)).setCell ⟨gb708, 3, none⟩ (.int .i64 t700)).setCell ⟨gb708, 4, none⟩ (.int .i64 t701)).setCell ⟨gb708, 5, none⟩ (.int .i64 t702)).setCell ⟨gb708, 6, none⟩ (.int .i64 t703)).setCell ⟨gb708, 7, none⟩ (.int .i64 t704)).setCell ⟨gb708, 8, none⟩ (.int .i64 t705)).setCell ⟨gb708, 9, none⟩ (.bool t706)).setCell ⟨gb708, 10, none⟩ (.int .i64 t707)).heap[gb677]? = some (.cells #[.int .i64 t666, .int .i64 t667, .int .i64 t668, .int .i64 t669, .int .i64 t670, .int .i64 t671, .int .i64 t672, .int .i64 t673, .int .i64 t674, .bool t675, .int .i64 t676] 46 (0, 0))) := ⟨BP BK677.out⟩
 have n6_ : Aside0 ((((((((((((w44.setCell ⟨gb708, 0, none⟩ (.int .i64 t697)).setCell ⟨gb708, 1, none⟩ (.int .i64 t698)).setCell ⟨gb708, 2, none⟩ (.int .i64 t699)).setCell ⟨gb708, 3, none⟩ (.int .i64 t700)).setCell ⟨gb708, 4, none⟩ (.int .i64 t701)).setCell ⟨gb708, 5, none⟩ (.int .i64 t702)).setCell ⟨gb708, 6, none⟩ (.int .i64 t703)).setCell ⟨gb708, 7, none⟩ (.int .i64 t704)).setCell ⟨gb708, 8, none⟩ (.int .i64 t705)).setCell ⟨gb708, 9, none⟩ (.bool t706)).setCell ⟨gb708, 10, none⟩ (.int .i64 t707)).heap[gb692]? = some (.cells #[.int .i64 t681, .int .i64 t682, .int .i64 t683, .int .i64 t684, .int .i64 t685, .int .i64 t686, .int .i64 t687, .int .i64 t688, .int .i64 t689, .bool t690, .int .i64 t691] 46 (0, 0))) := ⟨BP BK692.out⟩
 have n7_ : Aside0 ((((((((((((w44.setCell ⟨gb708, 0, none⟩ (.int .i64 t697)).setCell ⟨gb708, 1, none⟩ (.int .i64 t698)).setCell ⟨gb708, 2, none⟩ (.int .i64 t699)).setCell ⟨gb708, 3, none⟩ (.int .i64 t700)).setCell ⟨gb708, 4, none⟩ (.int .i64 t701)).setCell ⟨gb708, 5, none⟩ (.int .i64 t702)).setCell ⟨gb708, 6, none⟩ (.int .i64 t703)).setCell ⟨gb708, 7, none⟩ (.int .i64 t704)).setCell ⟨gb708, 8, none⟩ (.int .i64 t705)).setCell ⟨gb708, 9, none⟩ (.bool t706)).setCell ⟨gb708, 10, none⟩ (.int .i64 t707)).heap[gb708]? = some (.cells #[.int .i64 t697, .int .i64 t698, .int .i64 t699, .int .i64 t700, .int .i64 t701, .int .i64 t702, .int .i64 t703, .int .i64 t704, .int .i64 t705, .bool t706, .int .i64 t707] 46 (0, 0))) := ⟨BU BK708.out⟩
 have n8_ : Aside0 (Below w.heap.size w (((((((((((w44.setCell ⟨gb708, 0, none⟩ (.int .i64 t697)).setCell ⟨gb708, 1, none⟩ (.int .i64 t698)).setCell ⟨gb708, 2, none⟩ (.int .i64 t699)).setCell ⟨gb708, 3, none⟩ (.int .i64 t700)).setCell ⟨gb708, 4, none⟩ (.int .i64 t701)).setCell ⟨gb708, 5, none⟩ (.int .i64 t702)).setCell ⟨gb708, 6, none⟩ (.int .i64 t703)).setCell ⟨gb708, 7, none⟩ (.int .i64 t704)).setCell ⟨gb708, 8, none⟩ (.int .i64 t705)).setCell ⟨gb708, 9, none⟩ (.bool t706)).setCell ⟨gb708, 10, none⟩ (.int .i64 t707))) := ⟨BL⟩
 (try clear HO650)
 (try clear HO665)
 (try clear HO680)
 (try clear HO696)
 (try clear BK662)
 (try clear BK677)
 (try clear BK692)
 (try clear BK708)
 (try clear HB)
 generalize (((((((((((w44.setCell ⟨gb708, 0, none⟩ (.int .i64 t697)).setCell ⟨gb708, 1, none⟩ (.int .i64 t698)).setCell ⟨gb708, 2, none⟩ (.int .i64 t699)).setCell ⟨gb708, 3, none⟩ (.int .i64 t700)).setCell ⟨gb708, 4, none⟩ (.int .i64 t701)).setCell ⟨gb708, 5, none⟩ (.int .i64 t702)).setCell ⟨gb708, 6, none⟩ (.int .i64 t703)).setCell ⟨gb708, 7, none⟩ (.int .i64 t704)).setCell ⟨gb708, 8, none⟩ (.int .i64 t705)).setCell ⟨gb708, 9, none⟩ (.bool t706)).setCell ⟨gb708, 10, none⟩ (.int .i64 t707)) = w49 at n0_ n1_ n2_ n3_ n4_ n5_ n6_ n7_ n8_ ⊢
 have HO650 := n0_
 have HO665 := n1_
 have HO680 := n2_
 have HO696 := n3_
 have BK662 := n4_
 have BK677 := n5_
 have BK692 := n6_
 have BK708 := n7_
 have HB := n8_
 clear n0_ n1_ n2_ n3_ n4_ n5_ n6_ n7_ n8_
 have n0_ := Aside0.mk (Kd.Q_drew HO650.out)
 have n1_ := Aside0.mk (Kd.R_drew HO665.out)
 have n2_ := Aside0.mk (Kd.R_drew HO680.out)
 have n3_ := Aside0.mk (Kd.Q_drew HO696.out)
 have n4_ := Aside0.mk (blk_drew BK662.out)
 have n5_ := Aside0.mk (blk_drew BK677.out)
 have n6_ := Aside0.mk (blk_drew BK692.out)
 have n7_ := Aside0.mk (blk_drew BK708.out)
 have n8_ := Aside0.mk (below_drew1 HB.out)
 clear HO650
 clear HO665
 clear HO680
 clear HO696
 clear BK662
 clear BK677
 clear BK692
 clear BK708
 clear HB
 have HO650 := n0_
 have HO665 := n1_
 have HO680 := n2_
 have HO696 := n3_
 have BK662 := n4_
 have BK677 := n5_
 have BK692 := n6_
 have BK708 := n7_
 have HB := n8_
 clear n0_ n1_ n2_ n3_ n4_ n5_ n6_ n7_ n8_
 obtain ⟨Ao51, co51, eo51⟩ := Kd.R_slice HO665.out
 (first | subst eo51 | (injection eo51 with f1_ f2_ f3_; have f4_ := f1_.symm; have f5_ := f3_.symm; clear f1_ f2_ f3_; subst f4_; subst f5_))
 obtain ⟨Ao52, co52, eo52⟩ := Kd.R_slice HO680.out
 (first | subst eo52 | (injection eo52 with f1_ f2_ f3_; have f4_ := f1_.symm; have f5_ := f3_.symm; clear f1_ f2_ f3_; subst f4_; subst f5_))
 refine start_ (n := 49) (S := fun w' => w'.cell? ⟨gb677, 0, none⟩ = some (.int .i64 t666) ∧ w'.cell? ⟨gb677, 1, none⟩ = some (.int .i64 t667) ∧ w'.cell? ⟨gb677, 2, none⟩ = some (.int .i64 t668) ∧ w'.cell? ⟨gb677, 3, none⟩ = some (.int .i64 t669) ∧ w'.cell? ⟨gb677, 4, none⟩ = some (.int .i64 t670) ∧ w'.cell? ⟨gb677, 5, none⟩ = some (.int .i64 t671) ∧ w'.cell? ⟨gb677, 6, none⟩ = some (.int .i64 t672) ∧ w'.cell? ⟨gb677, 7, none⟩ = some (.int .i64 t673) ∧ w'.cell? ⟨gb677, 8, none⟩ = some (.int .i64 t674) ∧ w'.cell? ⟨gb677, 9, none⟩ = some (.bool t675) ∧ w'.cell? ⟨gb677, 10, none⟩ = some (.int .i64 t676) ∧ w'.cell? ⟨gb692, 0, none⟩ = some (.int .i64 t681) ∧ w'.cell? ⟨gb692, 1, none⟩ = some (.int .i64 t682) ∧ w'.cell? ⟨gb692, 2, none⟩ = some (.int .i64 t683) ∧ w'.cell? ⟨gb692, 3, none⟩ = some (.int .i64 t684) ∧ w'.cell? ⟨gb692, 4, none⟩ = some (.int .i64 t685) ∧ w'.cell? ⟨gb692, 5, none⟩ = some (.int .i64 t686) ∧ w'.cell? ⟨gb692, 6, none⟩ = some (.int .i64 t687) ∧ w'.cell? ⟨gb692, 7, none⟩ = some (.int .i64 t688) ∧ w'.cell? ⟨gb692, 8, none⟩ = some (.int .i64 t689) ∧ w'.cell? ⟨gb692, 9, none⟩ = some (.bool t690) ∧ w'.cell? ⟨gb692, 10, none⟩ = some (.int .i64 t691) ∧ w'.cell? ⟨gb662, 0, none⟩ = some (.int .i64 t651) ∧ w'.cell? ⟨gb662, 1, none⟩ = some (.int .i64 t652) ∧ w'.cell? ⟨gb662, 2, none⟩ = some (.int .i64 t653) ∧ w'.cell? ⟨gb662, 3, none⟩ = some (.int .i64 t654) ∧ w'.cell? ⟨gb662, 4, none⟩ = some (.int .i64 t655) ∧ w'.cell? ⟨gb662, 5, none⟩ = some (.int .i64 t656) ∧ w'.cell? ⟨gb662, 6, none⟩ = some (.int .i64 t657) ∧ w'.cell? ⟨gb662, 7, none⟩ = some (.int .i64 t658) ∧ w'.cell? ⟨gb662, 8, none⟩ = some (.int .i64 t659) ∧ w'.cell? ⟨gb662, 9, none⟩ = some (.bool t660) ∧ w'.cell? ⟨gb662, 10, none⟩ = some (.int .i64 t661) ∧ w'.cell? ⟨gb708, 0, none⟩ = some (.int .i64 t697) ∧ w'.cell? ⟨gb708, 1, none⟩ = some (.int .i64 t698) ∧ w'.cell? ⟨gb708, 2, none⟩ = some (.int .i64 t699) ∧ w'.cell? ⟨gb708, 3, none⟩ = some (.int .i64 t700) ∧ w'.cell? ⟨gb708, 4, none⟩ = some (.int .i64 t701) ∧ w'.cell? ⟨gb708, 5, none⟩ = some (.int .i64 t702) ∧ w'.cell? ⟨gb708, 6, none⟩ = some (.int .i64 t703) ∧ w'.cell? ⟨gb708, 7, none⟩ = some (.int .i64 t704) ∧ w'.cell? ⟨gb708, 8, none⟩ = some (.int .i64 t705) ∧ w'.cell? ⟨gb708, 9, none⟩ = some (.bool t706) ∧ w'.cell? ⟨gb708, 10, none⟩ = some (.int .i64 t707)) (ds := []) #[false, false, false, false, false, false, false, false, false, false, false, false, false, false, false, false, false, false, false, false, false, false, false, false, false, false, false, false, false, false, false, false, false, false, false, false, false, false, false, false, false, false, false, false, false, false, false, false, false] (by kernel_rfl) rfl rfl ⟨CZ BK677.out 0, CZ BK677.out 1, CZ BK677.out 2, CZ BK677.out 3, CZ BK677.out 4, CZ BK677.out 5, CZ BK677.out 6, CZ BK677.out 7, CZ BK677.out 8, CZ BK677.out 9, CZ BK677.out 10, CZ BK692.out 0, CZ BK692.out 1, CZ BK692.out 2, CZ BK692.out 3, CZ BK692.out 4, CZ BK692.out 5, CZ BK692.out 6, CZ BK692.out 7, CZ BK692.out 8, CZ BK692.out 9, CZ BK692.out 10, CZ BK662.out 0, CZ BK662.out 1, CZ BK662.out 2, CZ BK662.out 3, CZ BK662.out 4, CZ BK662.out 5, CZ BK662.out 6, CZ BK662.out 7, CZ BK662.out 8, CZ BK662.out 9, CZ BK662.out 10, CZ BK708.out 0, CZ BK708.out 1, CZ BK708.out 2, CZ BK708.out 3, CZ BK708.out 4, CZ BK708.out 5, CZ BK708.out 6, CZ BK708.out 7, CZ BK708.out 8, CZ BK708.out 9, CZ BK708.out 10⟩ (fun hHeld => ?_); refine with_tabW laws_FnSteps.tab8 laws_FnSteps.bits8 (fun HT_ HW_ => ?_)
 generalize w49.drew = w50 at HO650 HO665 HO680 HO696 BK662 BK677 BK692 BK708 HB hHeld ⊢
 refine pV 0 38 (OB 49 1) ?_
 refine pV 1 39 (OB 49 3) ?_
 refine one_ (i := 2) (N := some 40) (OB 49 7) rfl rfl (one_of HT_.out (by kernel_rfl)) (by decide) (fun K hK => ?_)
 refine goes_ Try.func28 (by kernel_rfl) rfl #[.slice Ao51 t663.length co51, .slice Ao52 t678.length co52] (by rfl) rfl rfl (MA) ?_
 with_reducible refine (laws_sameInts.calls k _ _ t663 _ _ t678 true _ ?side1 ?side2 ?side3 ?side4 A9.out).mono ?_
 (case side1 => repeat (first | exact (Kd.R_reads' HO665.out).2.2 | (with_reducible refine Kd.C_alloc ?_ _) | (with_reducible refine Kd.C_drewN ?_ _) | (with_reducible refine Kd.C_drew ?_)))
 (case side2 => exact (Kd.R_reads' HO665.out).2.1)
 (case side3 => repeat (first | exact (Kd.R_reads' HO680.out).2.2 | (with_reducible refine Kd.C_alloc ?_ _) | (with_reducible refine Kd.C_drewN ?_ _) | (with_reducible refine Kd.C_drew ?_)))
 (case side4 => exact (Kd.R_reads' HO680.out).2.1)
 rintro e w' ⟨rfl, ⟨nd, rfl⟩⟩
 refine ⟨_, rfl, ?_⟩
 refine hK.out _ _ ⟨CZ BK677.out 0, CZ BK677.out 1, CZ BK677.out 2, CZ BK677.out 3, CZ BK677.out 4, CZ BK677.out 5, CZ BK677.out 6, CZ BK677.out 7, CZ BK677.out 8, CZ BK677.out 9, CZ BK677.out 10, CZ BK692.out 0, CZ BK692.out 1, CZ BK692.out 2, CZ BK692.out 3, CZ BK692.out 4, CZ BK692.out 5, CZ BK692.out 6, CZ BK692.out 7, CZ BK692.out 8, CZ BK692.out 9, CZ BK692.out 10, CZ BK662.out 0, CZ BK662.out 1, CZ BK662.out 2, CZ BK662.out 3, CZ BK662.out 4, CZ BK662.out 5, CZ BK662.out 6, CZ BK662.out 7, CZ BK662.out 8, CZ BK662.out 9, CZ BK662.out 10, CZ BK708.out 0, CZ BK708.out 1, CZ BK708.out 2, CZ BK708.out 3, CZ BK708.out 4, CZ BK708.out 5, CZ BK708.out 6, CZ BK708.out 7, CZ BK708.out 8, CZ BK708.out 9, CZ BK708.out 10⟩ (fun hHeld => ?_)
 clear hK K
 refine norm_ (a' := ?_) ?_ ?_
 rotate_left
 ·
  show Act.put _ (some 40) _ = _; simp only [Act.put, zA, zB, zC, i64_w, i32_w]; rfl
 refine pV 3 41 (OB 49 15) ?_
 refine pT 4 42 (OB 49 31) ?_
 refine pT 5 43 (OB 49 63) ?_
 refine pV 6 44 (OB 49 127) ?_
 refine pV 7 45 (OB 49 255) ?_
 refine pV 8 46 (OB 49 511) ?_
 refine pT 9 47 (OB 49 1023) ?_
 refine pT 11 49 (OB 49 3071) ?_
 refine one_ (i := 10) (N := some 48) (OB 49 4095) rfl rfl (one_of HT_.out (by kernel_rfl)) (by decide) (fun K hK => ?_)
 refine goes_ Try.func44 (by kernel_rfl) rfl #[.agg #[.int .i64 t651, .int .i64 t652, .int .i64 t653, .int .i64 t654, .int .i64 t655, .int .i64 t656, .int .i64 t657, .int .i64 t658, .int .i64 t659, .bool t660, .int .i64 t661]] (by rfl) rfl rfl (MA) ?_
 with_reducible refine (impl_TaskOk.calls k t651 t652 t653 t654 t655 t656 t657 t658 t659 t660 t661 t710 _ A12.out).mono ?_
 rintro e w53 ⟨rfl, hb⟩
 refine ⟨_, rfl, ?_⟩
 have n0_ := Aside0.mk (Kd.Q_below (by (with_reducible repeat (first | apply Kd.Q_alloc | apply Kd.Q_drewN | apply Kd.Q_drew)); exact HO650.out) hb)
 have n1_ := Aside0.mk (Kd.R_below (RQ HO665.out) hb)
 have n2_ := Aside0.mk (Kd.R_below (RQ HO680.out) hb)
 have n3_ := Aside0.mk (Kd.Q_below (by (with_reducible repeat (first | apply Kd.Q_alloc | apply Kd.Q_drewN | apply Kd.Q_drew)); exact HO696.out) hb)
 have n4_ := BB BK662.out hb
 have n5_ := BB BK677.out hb
 have n6_ := BB BK692.out hb
 have n7_ := BB BK708.out hb
 have n8_ := Aside0.mk (below_step (BL) hb)
 clear HO650
 clear HO665
 clear HO680
 clear HO696
 clear BK662
 clear BK677
 clear BK692
 clear BK708
 clear HB
 have HO650 := n0_
 have HO665 := n1_
 have HO680 := n2_
 have HO696 := n3_
 have BK662 := n4_
 have BK677 := n5_
 have BK692 := n6_
 have BK708 := n7_
 have HB := n8_
 clear n0_ n1_ n2_ n3_ n4_ n5_ n6_ n7_ n8_
 (try clear hb)
 (try clear hb2)
 (try clear hk)
 (try clear hi)
 refine hK.out _ _ ⟨CZ BK677.out 0, CZ BK677.out 1, CZ BK677.out 2, CZ BK677.out 3, CZ BK677.out 4, CZ BK677.out 5, CZ BK677.out 6, CZ BK677.out 7, CZ BK677.out 8, CZ BK677.out 9, CZ BK677.out 10, CZ BK692.out 0, CZ BK692.out 1, CZ BK692.out 2, CZ BK692.out 3, CZ BK692.out 4, CZ BK692.out 5, CZ BK692.out 6, CZ BK692.out 7, CZ BK692.out 8, CZ BK692.out 9, CZ BK692.out 10, CZ BK662.out 0, CZ BK662.out 1, CZ BK662.out 2, CZ BK662.out 3, CZ BK662.out 4, CZ BK662.out 5, CZ BK662.out 6, CZ BK662.out 7, CZ BK662.out 8, CZ BK662.out 9, CZ BK662.out 10, CZ BK708.out 0, CZ BK708.out 1, CZ BK708.out 2, CZ BK708.out 3, CZ BK708.out 4, CZ BK708.out 5, CZ BK708.out 6, CZ BK708.out 7, CZ BK708.out 8, CZ BK708.out 9, CZ BK708.out 10⟩ (fun hHeld => ?_)
 clear hK K
 refine norm_ (a' := ?_) ?_ ?_
 rotate_left
 ·
  show Act.put _ (some 48) _ = _; simp only [Act.put, zA, zB, zC, i64_w, i32_w]; rfl
 refine one_ (i := 12) (N := some 50) (OB 49 8191) rfl rfl (one_of HT_.out (by kernel_rfl)) (by decide) (fun K hK => ?_)
 refine goes_ Try.func45 (by kernel_rfl) rfl #[.agg #[.int .i64 t651, .int .i64 t652, .int .i64 t653, .int .i64 t654, .int .i64 t655, .int .i64 t656, .int .i64 t657, .int .i64 t658, .int .i64 t659, .bool t660, .int .i64 t661]] (by rfl) rfl rfl (MA) ?_
 with_reducible refine (spec_TaskOk.calls t651 t652 t653 t654 t655 t656 t657 t658 t659 t660 t661 t711 _ A13.out).mono ?_
 rintro e w54 ⟨rfl, hb⟩
 refine ⟨_, rfl, ?_⟩
 have n0_ := Aside0.mk (Kd.Q_below (by (with_reducible repeat (first | apply Kd.Q_alloc | apply Kd.Q_drewN | apply Kd.Q_drew)); exact HO650.out) hb)
 have n1_ := Aside0.mk (Kd.R_below (RQ HO665.out) hb)
 have n2_ := Aside0.mk (Kd.R_below (RQ HO680.out) hb)
 have n3_ := Aside0.mk (Kd.Q_below (by (with_reducible repeat (first | apply Kd.Q_alloc | apply Kd.Q_drewN | apply Kd.Q_drew)); exact HO696.out) hb)
 have n4_ := BB BK662.out hb
 have n5_ := BB BK677.out hb
 have n6_ := BB BK692.out hb
 have n7_ := BB BK708.out hb
 have n8_ := Aside0.mk (below_step (BL) hb)
 clear HO650
 clear HO665
 clear HO680
 clear HO696
 clear BK662
 clear BK677
 clear BK692
 clear BK708
 clear HB
 have HO650 := n0_
 have HO665 := n1_
 have HO680 := n2_
 have HO696 := n3_
 have BK662 := n4_
 have BK677 := n5_
 have BK692 := n6_
 have BK708 := n7_
 have HB := n8_
 clear n0_ n1_ n2_ n3_ n4_ n5_ n6_ n7_ n8_
 (try clear hb)
 (try clear hb2)
 (try clear hk)
 (try clear hi)
 obtain ⟨Ao55, co55, eo55, _⟩ := Kd.Q_slice HO696.out
 (first | subst eo55 | (injection eo55 with f1_ f2_ f3_; have f4_ := f1_.symm; have f5_ := f3_.symm; clear f1_ f2_ f3_; subst f4_; subst f5_))
 refine hK.out _ _ ⟨CZ BK677.out 0, CZ BK677.out 1, CZ BK677.out 2, CZ BK677.out 3, CZ BK677.out 4, CZ BK677.out 5, CZ BK677.out 6, CZ BK677.out 7, CZ BK677.out 8, CZ BK677.out 9, CZ BK677.out 10, CZ BK692.out 0, CZ BK692.out 1, CZ BK692.out 2, CZ BK692.out 3, CZ BK692.out 4, CZ BK692.out 5, CZ BK692.out 6, CZ BK692.out 7, CZ BK692.out 8, CZ BK692.out 9, CZ BK692.out 10, CZ BK662.out 0, CZ BK662.out 1, CZ BK662.out 2, CZ BK662.out 3, CZ BK662.out 4, CZ BK662.out 5, CZ BK662.out 6, CZ BK662.out 7, CZ BK662.out 8, CZ BK662.out 9, CZ BK662.out 10, CZ BK708.out 0, CZ BK708.out 1, CZ BK708.out 2, CZ BK708.out 3, CZ BK708.out 4, CZ BK708.out 5, CZ BK708.out 6, CZ BK708.out 7, CZ BK708.out 8, CZ BK708.out 9, CZ BK708.out 10⟩ (fun hHeld => ?_)
 clear hK K
 refine norm_ (a' := ?_) ?_ ?_
 rotate_left
 ·
  show Act.put _ (some 50) _ = _; simp only [Act.put, zA, zB, zC, i64_w, i32_w]; rfl
 refine pV 13 51 (OB 49 16383) ?_
 refine pV 14 52 (OB 49 32767) ?_
 refine pV 15 53 (OB 49 65535) ?_
 refine pV 16 54 (OB 49 131071) ?_
 refine pV 18 56 (OB 49 393215) ?_
 refine one_ (i := 17) (N := some 55) (OB 49 524287) rfl rfl (one_of HT_.out (by kernel_rfl)) (by decide) (fun K hK => ?_)
 refine goes_ Try.func36 (by kernel_rfl) rfl #[.slice Ao55 t693.length co55] (by rfl) rfl rfl (MA) ?_
 with_reducible refine (impl_KeysOf.calls k _ _ t693 t712 _ ?side1 ?side2 A15.out).mono ?_
 (case side1 => repeat (first | exact (Kd.Q_reads' HO696.out).2.2 | (with_reducible refine Kd.C_alloc ?_ _) | (with_reducible refine Kd.C_drewN ?_ _) | (with_reducible refine Kd.C_drew ?_)))
 (case side2 => exact (Kd.Q_reads' HO696.out).2.1)
 rintro e w56 ⟨v713, rfl, ho0, hb⟩
 refine ⟨_, rfl, ?_⟩
 have n0_ := Aside0.mk (Kd.Q_elder' (by (with_reducible repeat (first | apply Kd.Q_alloc | apply Kd.Q_drewN | apply Kd.Q_drew)); exact HO650.out) (Kd.R_base ho0) hb)
 have n1_ := Aside0.mk (Kd.R_elder' (RQ HO665.out) (Kd.R_base ho0) hb)
 have n2_ := Aside0.mk (Kd.R_elder' (RQ HO680.out) (Kd.R_base ho0) hb)
 have n3_ := Aside0.mk (Kd.Q_elder' (by (with_reducible repeat (first | apply Kd.Q_alloc | apply Kd.Q_drewN | apply Kd.Q_drew)); exact HO696.out) (Kd.R_base ho0) hb)
 have n4_ := Aside0.mk (Kd.R_lower (Kd.R_new' (Kd.R_new' (Kd.R_new' (Kd.R_new' ho0 (Kd.Q_lt (by (with_reducible repeat (first | apply Kd.Q_alloc | apply Kd.Q_drewN | apply Kd.Q_drew)); exact HO650.out))) (Kd.R_lt (RQ HO665.out))) (Kd.R_lt (RQ HO680.out))) (Kd.Q_lt (by (with_reducible repeat (first | apply Kd.Q_alloc | apply Kd.Q_drewN | apply Kd.Q_drew)); exact HO696.out))) (below_size (BL)))
 have n5_ := BB BK662.out hb
 have n6_ := BB BK677.out hb
 have n7_ := BB BK692.out hb
 have n8_ := BB BK708.out hb
 have n9_ := Aside0.mk (below_step (BL) hb)
 clear HO650
 clear HO665
 clear HO680
 clear HO696
 clear BK662
 clear BK677
 clear BK692
 clear BK708
 clear HB
 have HO650 := n0_
 have HO665 := n1_
 have HO680 := n2_
 have HO696 := n3_
 have HO714 := n4_
 have BK662 := n5_
 have BK677 := n6_
 have BK692 := n7_
 have BK708 := n8_
 have HB := n9_
 clear n0_ n1_ n2_ n3_ n4_ n5_ n6_ n7_ n8_ n9_
 (try clear hb)
 (try clear hb2)
 (try clear hk)
 (try clear hi)
 (try clear ho0)
 refine hK.out _ _ ⟨CZ BK677.out 0, CZ BK677.out 1, CZ BK677.out 2, CZ BK677.out 3, CZ BK677.out 4, CZ BK677.out 5, CZ BK677.out 6, CZ BK677.out 7, CZ BK677.out 8, CZ BK677.out 9, CZ BK677.out 10, CZ BK692.out 0, CZ BK692.out 1, CZ BK692.out 2, CZ BK692.out 3, CZ BK692.out 4, CZ BK692.out 5, CZ BK692.out 6, CZ BK692.out 7, CZ BK692.out 8, CZ BK692.out 9, CZ BK692.out 10, CZ BK662.out 0, CZ BK662.out 1, CZ BK662.out 2, CZ BK662.out 3, CZ BK662.out 4, CZ BK662.out 5, CZ BK662.out 6, CZ BK662.out 7, CZ BK662.out 8, CZ BK662.out 9, CZ BK662.out 10, CZ BK708.out 0, CZ BK708.out 1, CZ BK708.out 2, CZ BK708.out 3, CZ BK708.out 4, CZ BK708.out 5, CZ BK708.out 6, CZ BK708.out 7, CZ BK708.out 8, CZ BK708.out 9, CZ BK708.out 10⟩ (fun hHeld => ?_)
 clear hK K
 refine norm_ (a' := ?_) ?_ ?_
 rotate_left
 ·
  show Act.put _ (some 55) _ = _; simp only [Act.put, zA, zB, zC, i64_w, i32_w]; rfl
 refine one_ (i := 19) (N := some 57) (OB 49 1048575) rfl rfl (one_of HT_.out (by kernel_rfl)) (by decide) (fun K hK => ?_)
 refine goes_ Try.func35 (by kernel_rfl) rfl #[.slice Ao55 t693.length co55] (by rfl) rfl rfl (MA) ?_
 with_reducible refine (spec_KeysOf.calls k _ _ t693 t715 _ ?side1 ?side2 A16.out).mono ?_
 (case side1 => repeat (first | exact (Kd.Q_reads' HO696.out).2.2 | (with_reducible refine Kd.C_alloc ?_ _) | (with_reducible refine Kd.C_drewN ?_ _) | (with_reducible refine Kd.C_drew ?_)))
 (case side2 => exact (Kd.Q_reads' HO696.out).2.1)
 rintro e w57 ⟨v716, rfl, ho0, hb⟩
 refine ⟨_, rfl, ?_⟩
 have n0_ := Aside0.mk (Kd.Q_elder' (by (with_reducible repeat (first | apply Kd.Q_alloc | apply Kd.Q_drewN | apply Kd.Q_drew)); exact HO650.out) (Kd.R_base ho0) hb)
 have n1_ := Aside0.mk (Kd.R_elder' (RQ HO665.out) (Kd.R_base ho0) hb)
 have n2_ := Aside0.mk (Kd.R_elder' (RQ HO680.out) (Kd.R_base ho0) hb)
 have n3_ := Aside0.mk (Kd.Q_elder' (by (with_reducible repeat (first | apply Kd.Q_alloc | apply Kd.Q_drewN | apply Kd.Q_drew)); exact HO696.out) (Kd.R_base ho0) hb)
 have n4_ := Aside0.mk (Kd.R_elder' (RQ HO714.out) (Kd.R_base ho0) hb)
 have n5_ := Aside0.mk (Kd.R_lower (Kd.R_new' (Kd.R_new' (Kd.R_new' (Kd.R_new' (Kd.R_new' ho0 (Kd.Q_lt (by (with_reducible repeat (first | apply Kd.Q_alloc | apply Kd.Q_drewN | apply Kd.Q_drew)); exact HO650.out))) (Kd.R_lt (RQ HO665.out))) (Kd.R_lt (RQ HO680.out))) (Kd.Q_lt (by (with_reducible repeat (first | apply Kd.Q_alloc | apply Kd.Q_drewN | apply Kd.Q_drew)); exact HO696.out))) (Kd.R_lt (RQ HO714.out))) (below_size (BL)))
 have n6_ := BB BK662.out hb
 have n7_ := BB BK677.out hb
 have n8_ := BB BK692.out hb
 have n9_ := BB BK708.out hb
 have n10_ := Aside0.mk (below_step (BL) hb)
 clear HO650
 clear HO665
 clear HO680
 clear HO696
 clear HO714
 clear BK662
 clear BK677
 clear BK692
 clear BK708
 clear HB
 have HO650 := n0_
 have HO665 := n1_
 have HO680 := n2_
 have HO696 := n3_
 have HO714 := n4_
 have HO717 := n5_
 have BK662 := n6_
 have BK677 := n7_
 have BK692 := n8_
 have BK708 := n9_
 have HB := n10_
 clear n0_ n1_ n2_ n3_ n4_ n5_ n6_ n7_ n8_ n9_ n10_
 (try clear hb)
 (try clear hb2)
 (try clear hk)
 (try clear hi)
 (try clear ho0)
 obtain ⟨Ao58, co58, eo58⟩ := Kd.R_slice HO714.out
 (first | subst eo58 | (injection eo58 with f1_ f2_ f3_; have f4_ := f1_.symm; have f5_ := f3_.symm; clear f1_ f2_ f3_; subst f4_; subst f5_))
 obtain ⟨Ao59, co59, eo59⟩ := Kd.R_slice HO717.out
 (first | subst eo59 | (injection eo59 with f1_ f2_ f3_; have f4_ := f1_.symm; have f5_ := f3_.symm; clear f1_ f2_ f3_; subst f4_; subst f5_))
 refine hK.out _ _ ⟨CZ BK677.out 0, CZ BK677.out 1, CZ BK677.out 2, CZ BK677.out 3, CZ BK677.out 4, CZ BK677.out 5, CZ BK677.out 6, CZ BK677.out 7, CZ BK677.out 8, CZ BK677.out 9, CZ BK677.out 10, CZ BK692.out 0, CZ BK692.out 1, CZ BK692.out 2, CZ BK692.out 3, CZ BK692.out 4, CZ BK692.out 5, CZ BK692.out 6, CZ BK692.out 7, CZ BK692.out 8, CZ BK692.out 9, CZ BK692.out 10, CZ BK662.out 0, CZ BK662.out 1, CZ BK662.out 2, CZ BK662.out 3, CZ BK662.out 4, CZ BK662.out 5, CZ BK662.out 6, CZ BK662.out 7, CZ BK662.out 8, CZ BK662.out 9, CZ BK662.out 10, CZ BK708.out 0, CZ BK708.out 1, CZ BK708.out 2, CZ BK708.out 3, CZ BK708.out 4, CZ BK708.out 5, CZ BK708.out 6, CZ BK708.out 7, CZ BK708.out 8, CZ BK708.out 9, CZ BK708.out 10⟩ (fun hHeld => ?_)
 clear hK K
 refine norm_ (a' := ?_) ?_ ?_
 rotate_left
 ·
  show Act.put _ (some 57) _ = _; simp only [Act.put, zA, zB, zC, i64_w, i32_w]; rfl
 refine one_ (i := 20) (N := some 58) (OB 49 2097151) rfl rfl (one_of HT_.out (by kernel_rfl)) (by decide) (fun K hK => ?_)
 refine goes_ Try.func28 (by kernel_rfl) rfl #[.slice Ao58 t712.length co58, .slice Ao59 t715.length co59] (by rfl) rfl rfl (MA) ?_
 with_reducible refine (laws_sameInts.calls k _ _ t712 _ _ t715 true _ ?side1 ?side2 ?side3 ?side4 A17.out).mono ?_
 (case side1 => repeat (first | exact (Kd.R_reads' HO714.out).2.2 | (with_reducible refine Kd.C_alloc ?_ _) | (with_reducible refine Kd.C_drewN ?_ _) | (with_reducible refine Kd.C_drew ?_)))
 (case side2 => exact (Kd.R_reads' HO714.out).2.1)
 (case side3 => repeat (first | exact (Kd.R_reads' HO717.out).2.2 | (with_reducible refine Kd.C_alloc ?_ _) | (with_reducible refine Kd.C_drewN ?_ _) | (with_reducible refine Kd.C_drew ?_)))
 (case side4 => exact (Kd.R_reads' HO717.out).2.1)
 rintro e w' ⟨rfl, ⟨nd, rfl⟩⟩
 refine ⟨_, rfl, ?_⟩
 refine hK.out _ _ ⟨CZ BK677.out 0, CZ BK677.out 1, CZ BK677.out 2, CZ BK677.out 3, CZ BK677.out 4, CZ BK677.out 5, CZ BK677.out 6, CZ BK677.out 7, CZ BK677.out 8, CZ BK677.out 9, CZ BK677.out 10, CZ BK692.out 0, CZ BK692.out 1, CZ BK692.out 2, CZ BK692.out 3, CZ BK692.out 4, CZ BK692.out 5, CZ BK692.out 6, CZ BK692.out 7, CZ BK692.out 8, CZ BK692.out 9, CZ BK692.out 10, CZ BK662.out 0, CZ BK662.out 1, CZ BK662.out 2, CZ BK662.out 3, CZ BK662.out 4, CZ BK662.out 5, CZ BK662.out 6, CZ BK662.out 7, CZ BK662.out 8, CZ BK662.out 9, CZ BK662.out 10, CZ BK708.out 0, CZ BK708.out 1, CZ BK708.out 2, CZ BK708.out 3, CZ BK708.out 4, CZ BK708.out 5, CZ BK708.out 6, CZ BK708.out 7, CZ BK708.out 8, CZ BK708.out 9, CZ BK708.out 10⟩ (fun hHeld => ?_)
 clear hK K
 refine norm_ (a' := ?_) ?_ ?_
 rotate_left
 ·
  show Act.put _ (some 58) _ = _; simp only [Act.put, zA, zB, zC, i64_w, i32_w]; rfl
 refine pV 21 59 (OB 49 4194303) ?_
 refine pV 22 60 (OB 49 8388607) ?_
 refine pV 23 61 (OB 49 16777215) ?_
 refine pV 24 62 (OB 49 33554431) ?_
 refine pV 26 64 (OB 49 100663295) ?_
 refine pV 27 65 (OB 49 234881023) ?_
 refine one_ (i := 25) (N := some 63) (OB 49 268435455) rfl rfl (one_of HT_.out (by kernel_rfl)) (by decide) (fun K hK => ?_)
 refine goes_ Try.func34 (by kernel_rfl) rfl #[.slice Ao55 t693.length co55, .int .i64 t694] (by rfl) rfl rfl (MA) ?_
 with_reducible refine (impl_ValueOf.calls k _ _ t693 t694 t719 _ ?side1 ?side2 A19.out).mono ?_
 (case side1 => repeat (first | exact (Kd.Q_reads' HO696.out).2.2 | (with_reducible refine Kd.C_alloc ?_ _) | (with_reducible refine Kd.C_drewN ?_ _) | (with_reducible refine Kd.C_drew ?_)))
 (case side2 => exact (Kd.Q_reads' HO696.out).2.1)
 rintro e w60 ⟨rfl, hb⟩
 refine ⟨_, rfl, ?_⟩
 have n0_ := Aside0.mk (Kd.Q_below (by (with_reducible repeat (first | apply Kd.Q_alloc | apply Kd.Q_drewN | apply Kd.Q_drew)); exact HO650.out) hb)
 have n1_ := Aside0.mk (Kd.R_below (RQ HO665.out) hb)
 have n2_ := Aside0.mk (Kd.R_below (RQ HO680.out) hb)
 have n3_ := Aside0.mk (Kd.Q_below (by (with_reducible repeat (first | apply Kd.Q_alloc | apply Kd.Q_drewN | apply Kd.Q_drew)); exact HO696.out) hb)
 have n4_ := Aside0.mk (Kd.R_below (RQ HO714.out) hb)
 have n5_ := Aside0.mk (Kd.R_below (RQ HO717.out) hb)
 have n6_ := BB BK662.out hb
 have n7_ := BB BK677.out hb
 have n8_ := BB BK692.out hb
 have n9_ := BB BK708.out hb
 have n10_ := Aside0.mk (below_step (BL) hb)
 clear HO650
 clear HO665
 clear HO680
 clear HO696
 clear HO714
 clear HO717
 clear BK662
 clear BK677
 clear BK692
 clear BK708
 clear HB
 have HO650 := n0_
 have HO665 := n1_
 have HO680 := n2_
 have HO696 := n3_
 have HO714 := n4_
 have HO717 := n5_
 have BK662 := n6_
 have BK677 := n7_
 have BK692 := n8_
 have BK708 := n9_
 have HB := n10_
 clear n0_ n1_ n2_ n3_ n4_ n5_ n6_ n7_ n8_ n9_ n10_
 (try clear hb)
 (try clear hb2)
 (try clear hk)
 (try clear hi)
 refine hK.out _ _ ⟨CZ BK677.out 0, CZ BK677.out 1, CZ BK677.out 2, CZ BK677.out 3, CZ BK677.out 4, CZ BK677.out 5, CZ BK677.out 6, CZ BK677.out 7, CZ BK677.out 8, CZ BK677.out 9, CZ BK677.out 10, CZ BK692.out 0, CZ BK692.out 1, CZ BK692.out 2, CZ BK692.out 3, CZ BK692.out 4, CZ BK692.out 5, CZ BK692.out 6, CZ BK692.out 7, CZ BK692.out 8, CZ BK692.out 9, CZ BK692.out 10, CZ BK662.out 0, CZ BK662.out 1, CZ BK662.out 2, CZ BK662.out 3, CZ BK662.out 4, CZ BK662.out 5, CZ BK662.out 6, CZ BK662.out 7, CZ BK662.out 8, CZ BK662.out 9, CZ BK662.out 10, CZ BK708.out 0, CZ BK708.out 1, CZ BK708.out 2, CZ BK708.out 3, CZ BK708.out 4, CZ BK708.out 5, CZ BK708.out 6, CZ BK708.out 7, CZ BK708.out 8, CZ BK708.out 9, CZ BK708.out 10⟩ (fun hHeld => ?_)
 clear hK K
 refine norm_ (a' := ?_) ?_ ?_
 rotate_left
 ·
  show Act.put _ (some 63) _ = _; simp only [Act.put, zA, zB, zC, i64_w, i32_w]; rfl
 refine one_ (i := 28) (N := some 66) (OB 49 536870911) rfl rfl (one_of HT_.out (by kernel_rfl)) (by decide) (fun K hK => ?_)
 refine goes_ Try.func33 (by kernel_rfl) rfl #[.slice Ao55 t693.length co55, .int .i64 t694] (by rfl) rfl rfl (MA) ?_
 with_reducible refine (spec_ValueOf.calls k _ _ t693 t694 t720 _ ?side1 ?side2 A20.out).mono ?_
 (case side1 => repeat (first | exact (Kd.Q_reads' HO696.out).2.2 | (with_reducible refine Kd.C_alloc ?_ _) | (with_reducible refine Kd.C_drewN ?_ _) | (with_reducible refine Kd.C_drew ?_)))
 (case side2 => exact (Kd.Q_reads' HO696.out).2.1)
 rintro e w61 ⟨rfl, hb⟩
 refine ⟨_, rfl, ?_⟩
 have n0_ := Aside0.mk (Kd.Q_below (by (with_reducible repeat (first | apply Kd.Q_alloc | apply Kd.Q_drewN | apply Kd.Q_drew)); exact HO650.out) hb)
 have n1_ := Aside0.mk (Kd.R_below (RQ HO665.out) hb)
 have n2_ := Aside0.mk (Kd.R_below (RQ HO680.out) hb)
 have n3_ := Aside0.mk (Kd.Q_below (by (with_reducible repeat (first | apply Kd.Q_alloc | apply Kd.Q_drewN | apply Kd.Q_drew)); exact HO696.out) hb)
 have n4_ := Aside0.mk (Kd.R_below (RQ HO714.out) hb)
 have n5_ := Aside0.mk (Kd.R_below (RQ HO717.out) hb)
 have n6_ := BB BK662.out hb
 have n7_ := BB BK677.out hb
 have n8_ := BB BK692.out hb
 have n9_ := BB BK708.out hb
 have n10_ := Aside0.mk (below_step (BL) hb)
 clear HO650
 clear HO665
 clear HO680
 clear HO696
 clear HO714
 clear HO717
 clear BK662
 clear BK677
 clear BK692
 clear BK708
 clear HB
 have HO650 := n0_
 have HO665 := n1_
 have HO680 := n2_
 have HO696 := n3_
 have HO714 := n4_
 have HO717 := n5_
 have BK662 := n6_
 have BK677 := n7_
 have BK692 := n8_
 have BK708 := n9_
 have HB := n10_
 clear n0_ n1_ n2_ n3_ n4_ n5_ n6_ n7_ n8_ n9_ n10_
 (try clear hb)
 (try clear hb2)
 (try clear hk)
 (try clear hi)
 refine hK.out _ _ ⟨CZ BK677.out 0, CZ BK677.out 1, CZ BK677.out 2, CZ BK677.out 3, CZ BK677.out 4, CZ BK677.out 5, CZ BK677.out 6, CZ BK677.out 7, CZ BK677.out 8, CZ BK677.out 9, CZ BK677.out 10, CZ BK692.out 0, CZ BK692.out 1, CZ BK692.out 2, CZ BK692.out 3, CZ BK692.out 4, CZ BK692.out 5, CZ BK692.out 6, CZ BK692.out 7, CZ BK692.out 8, CZ BK692.out 9, CZ BK692.out 10, CZ BK662.out 0, CZ BK662.out 1, CZ BK662.out 2, CZ BK662.out 3, CZ BK662.out 4, CZ BK662.out 5, CZ BK662.out 6, CZ BK662.out 7, CZ BK662.out 8, CZ BK662.out 9, CZ BK662.out 10, CZ BK708.out 0, CZ BK708.out 1, CZ BK708.out 2, CZ BK708.out 3, CZ BK708.out 4, CZ BK708.out 5, CZ BK708.out 6, CZ BK708.out 7, CZ BK708.out 8, CZ BK708.out 9, CZ BK708.out 10⟩ (fun hHeld => ?_)
 clear hK K
 refine norm_ (a' := ?_) ?_ ?_
 rotate_left
 ·
  show Act.put _ (some 66) _ = _; simp only [Act.put, zA, zB, zC, i64_w, i32_w]; rfl
 refine pV 29 67 (OB 49 1073741823) ?_
 refine pV 30 68 (OB 49 2147483647) ?_
 refine pV 31 69 (OB 49 4294967295) ?_
 refine pT 32 70 (OB 49 8589934591) ?_
 refine pT 34 72 (OB 49 25769803775) ?_
 refine one_ (i := 33) (N := some 71) (OB 49 34359738367) rfl rfl (one_of HT_.out (by kernel_rfl)) (by decide) (fun K hK => ?_)
 refine goes_ Try.func44 (by kernel_rfl) rfl #[.agg #[.int .i64 t697, .int .i64 t698, .int .i64 t699, .int .i64 t700, .int .i64 t701, .int .i64 t702, .int .i64 t703, .int .i64 t704, .int .i64 t705, .bool t706, .int .i64 t707]] (by rfl) rfl rfl (MA) ?_
 with_reducible refine (impl_TaskOk.calls k t697 t698 t699 t700 t701 t702 t703 t704 t705 t706 t707 t721 _ A22.out).mono ?_
 rintro e w62 ⟨rfl, hb⟩
 refine ⟨_, rfl, ?_⟩
 have n0_ := Aside0.mk (Kd.Q_below (by (with_reducible repeat (first | apply Kd.Q_alloc | apply Kd.Q_drewN | apply Kd.Q_drew)); exact HO650.out) hb)
 have n1_ := Aside0.mk (Kd.R_below (RQ HO665.out) hb)
 have n2_ := Aside0.mk (Kd.R_below (RQ HO680.out) hb)
 have n3_ := Aside0.mk (Kd.Q_below (by (with_reducible repeat (first | apply Kd.Q_alloc | apply Kd.Q_drewN | apply Kd.Q_drew)); exact HO696.out) hb)
 have n4_ := Aside0.mk (Kd.R_below (RQ HO714.out) hb)
 have n5_ := Aside0.mk (Kd.R_below (RQ HO717.out) hb)
 have n6_ := BB BK662.out hb
 have n7_ := BB BK677.out hb
 have n8_ := BB BK692.out hb
 have n9_ := BB BK708.out hb
 have n10_ := Aside0.mk (below_step (BL) hb)
 clear HO650
 clear HO665
 clear HO680
 clear HO696
 clear HO714
 clear HO717
 clear BK662
 clear BK677
 clear BK692
 clear BK708
 clear HB
 have HO650 := n0_
 have HO665 := n1_
 have HO680 := n2_
 have HO696 := n3_
 have HO714 := n4_
 have HO717 := n5_
 have BK662 := n6_
 have BK677 := n7_
 have BK692 := n8_
 have BK708 := n9_
 have HB := n10_
 clear n0_ n1_ n2_ n3_ n4_ n5_ n6_ n7_ n8_ n9_ n10_
 (try clear hb)
 (try clear hb2)
 (try clear hk)
 (try clear hi)
 refine hK.out _ _ ⟨CZ BK677.out 0, CZ BK677.out 1, CZ BK677.out 2, CZ BK677.out 3, CZ BK677.out 4, CZ BK677.out 5, CZ BK677.out 6, CZ BK677.out 7, CZ BK677.out 8, CZ BK677.out 9, CZ BK677.out 10, CZ BK692.out 0, CZ BK692.out 1, CZ BK692.out 2, CZ BK692.out 3, CZ BK692.out 4, CZ BK692.out 5, CZ BK692.out 6, CZ BK692.out 7, CZ BK692.out 8, CZ BK692.out 9, CZ BK692.out 10, CZ BK662.out 0, CZ BK662.out 1, CZ BK662.out 2, CZ BK662.out 3, CZ BK662.out 4, CZ BK662.out 5, CZ BK662.out 6, CZ BK662.out 7, CZ BK662.out 8, CZ BK662.out 9, CZ BK662.out 10, CZ BK708.out 0, CZ BK708.out 1, CZ BK708.out 2, CZ BK708.out 3, CZ BK708.out 4, CZ BK708.out 5, CZ BK708.out 6, CZ BK708.out 7, CZ BK708.out 8, CZ BK708.out 9, CZ BK708.out 10⟩ (fun hHeld => ?_)
 clear hK K
 refine norm_ (a' := ?_) ?_ ?_
 rotate_left
 ·
  show Act.put _ (some 71) _ = _; simp only [Act.put, zA, zB, zC, i64_w, i32_w]; rfl
 refine one_ (i := 35) (N := some 73) (OB 49 68719476735) rfl rfl (one_of HT_.out (by kernel_rfl)) (by decide) (fun K hK => ?_)
 refine goes_ Try.func45 (by kernel_rfl) rfl #[.agg #[.int .i64 t697, .int .i64 t698, .int .i64 t699, .int .i64 t700, .int .i64 t701, .int .i64 t702, .int .i64 t703, .int .i64 t704, .int .i64 t705, .bool t706, .int .i64 t707]] (by rfl) rfl rfl (MA) ?_
 with_reducible refine (spec_TaskOk.calls t697 t698 t699 t700 t701 t702 t703 t704 t705 t706 t707 t722 _ A23.out).mono ?_
 rintro e w63 ⟨rfl, hb⟩
 refine ⟨_, rfl, ?_⟩
 have n0_ := Aside0.mk (Kd.Q_below (by (with_reducible repeat (first | apply Kd.Q_alloc | apply Kd.Q_drewN | apply Kd.Q_drew)); exact HO650.out) hb)
 have n1_ := Aside0.mk (Kd.R_below (RQ HO665.out) hb)
 have n2_ := Aside0.mk (Kd.R_below (RQ HO680.out) hb)
 have n3_ := Aside0.mk (Kd.Q_below (by (with_reducible repeat (first | apply Kd.Q_alloc | apply Kd.Q_drewN | apply Kd.Q_drew)); exact HO696.out) hb)
 have n4_ := Aside0.mk (Kd.R_below (RQ HO714.out) hb)
 have n5_ := Aside0.mk (Kd.R_below (RQ HO717.out) hb)
 have n6_ := BB BK662.out hb
 have n7_ := BB BK677.out hb
 have n8_ := BB BK692.out hb
 have n9_ := BB BK708.out hb
 have n10_ := Aside0.mk (below_step (BL) hb)
 clear HO650
 clear HO665
 clear HO680
 clear HO696
 clear HO714
 clear HO717
 clear BK662
 clear BK677
 clear BK692
 clear BK708
 clear HB
 have HO650 := n0_
 have HO665 := n1_
 have HO680 := n2_
 have HO696 := n3_
 have HO714 := n4_
 have HO717 := n5_
 have BK662 := n6_
 have BK677 := n7_
 have BK692 := n8_
 have BK708 := n9_
 have HB := n10_
 clear n0_ n1_ n2_ n3_ n4_ n5_ n6_ n7_ n8_ n9_ n10_
 (try clear hb)
 (try clear hb2)
 (try clear hk)
 (try clear hi)
 refine hK.out _ _ ⟨CZ BK677.out 0, CZ BK677.out 1, CZ BK677.out 2, CZ BK677.out 3, CZ BK677.out 4, CZ BK677.out 5, CZ BK677.out 6, CZ BK677.out 7, CZ BK677.out 8, CZ BK677.out 9, CZ BK677.out 10, CZ BK692.out 0, CZ BK692.out 1, CZ BK692.out 2, CZ BK692.out 3, CZ BK692.out 4, CZ BK692.out 5, CZ BK692.out 6, CZ BK692.out 7, CZ BK692.out 8, CZ BK692.out 9, CZ BK692.out 10, CZ BK662.out 0, CZ BK662.out 1, CZ BK662.out 2, CZ BK662.out 3, CZ BK662.out 4, CZ BK662.out 5, CZ BK662.out 6, CZ BK662.out 7, CZ BK662.out 8, CZ BK662.out 9, CZ BK662.out 10, CZ BK708.out 0, CZ BK708.out 1, CZ BK708.out 2, CZ BK708.out 3, CZ BK708.out 4, CZ BK708.out 5, CZ BK708.out 6, CZ BK708.out 7, CZ BK708.out 8, CZ BK708.out 9, CZ BK708.out 10⟩ (fun hHeld => ?_)
 clear hK K
 refine norm_ (a' := ?_) ?_ ?_
 rotate_left
 ·
  show Act.put _ (some 73) _ = _; simp only [Act.put, zA, zB, zC, i64_w, i32_w]; rfl
 refine pV 36 74 (OB 49 137438953471) ?_
 refine pV 37 75 (OB 49 274877906943) ?_
 refine pV 38 76 (OB 49 549755813887) ?_
 refine one_ (i := 39) (N := some 77) (OB 49 1099511627775) rfl rfl (one_of HT_.out (by kernel_rfl)) (by decide) (fun K hK => ?_)
 refine goes_ Try.func46 (by kernel_rfl) rfl #[] (by rfl) rfl rfl (MA) ?_
 with_reducible refine (impl_ListNew.calls  t723 _ A25.out).mono ?_
 rintro e w64 ⟨v724, rfl, ho0, hb⟩
 refine ⟨_, rfl, ?_⟩
 have n0_ := Aside0.mk (Kd.Q_elder' (by (with_reducible repeat (first | apply Kd.Q_alloc | apply Kd.Q_drewN | apply Kd.Q_drew)); exact HO650.out) (Kd.R_base ho0) hb)
 have n1_ := Aside0.mk (Kd.R_elder' (RQ HO665.out) (Kd.R_base ho0) hb)
 have n2_ := Aside0.mk (Kd.R_elder' (RQ HO680.out) (Kd.R_base ho0) hb)
 have n3_ := Aside0.mk (Kd.Q_elder' (by (with_reducible repeat (first | apply Kd.Q_alloc | apply Kd.Q_drewN | apply Kd.Q_drew)); exact HO696.out) (Kd.R_base ho0) hb)
 have n4_ := Aside0.mk (Kd.R_elder' (RQ HO714.out) (Kd.R_base ho0) hb)
 have n5_ := Aside0.mk (Kd.R_elder' (RQ HO717.out) (Kd.R_base ho0) hb)
 have n6_ := Aside0.mk (Kd.R_lower (Kd.R_new' (Kd.R_new' (Kd.R_new' (Kd.R_new' (Kd.R_new' (Kd.R_new' ho0 (Kd.Q_lt (by (with_reducible repeat (first | apply Kd.Q_alloc | apply Kd.Q_drewN | apply Kd.Q_drew)); exact HO650.out))) (Kd.R_lt (RQ HO665.out))) (Kd.R_lt (RQ HO680.out))) (Kd.Q_lt (by (with_reducible repeat (first | apply Kd.Q_alloc | apply Kd.Q_drewN | apply Kd.Q_drew)); exact HO696.out))) (Kd.R_lt (RQ HO714.out))) (Kd.R_lt (RQ HO717.out))) (below_size (BL)))
 have n7_ := BB BK662.out hb
 have n8_ := BB BK677.out hb
 have n9_ := BB BK692.out hb
 have n10_ := BB BK708.out hb
 have n11_ := Aside0.mk (below_step (BL) hb)
 clear HO650
 clear HO665
 clear HO680
 clear HO696
 clear HO714
 clear HO717
 clear BK662
 clear BK677
 clear BK692
 clear BK708
 clear HB
 have HO650 := n0_
 have HO665 := n1_
 have HO680 := n2_
 have HO696 := n3_
 have HO714 := n4_
 have HO717 := n5_
 have HO725 := n6_
 have BK662 := n7_
 have BK677 := n8_
 have BK692 := n9_
 have BK708 := n10_
 have HB := n11_
 clear n0_ n1_ n2_ n3_ n4_ n5_ n6_ n7_ n8_ n9_ n10_ n11_
 (try clear hb)
 (try clear hb2)
 (try clear hk)
 (try clear hi)
 (try clear ho0)
 obtain ⟨Ao65, co65, eo65⟩ := Kd.R_slice HO725.out
 (first | subst eo65 | (injection eo65 with f1_ f2_ f3_; have f4_ := f1_.symm; have f5_ := f3_.symm; clear f1_ f2_ f3_; subst f4_; subst f5_))
 refine hK.out _ _ ⟨CZ BK677.out 0, CZ BK677.out 1, CZ BK677.out 2, CZ BK677.out 3, CZ BK677.out 4, CZ BK677.out 5, CZ BK677.out 6, CZ BK677.out 7, CZ BK677.out 8, CZ BK677.out 9, CZ BK677.out 10, CZ BK692.out 0, CZ BK692.out 1, CZ BK692.out 2, CZ BK692.out 3, CZ BK692.out 4, CZ BK692.out 5, CZ BK692.out 6, CZ BK692.out 7, CZ BK692.out 8, CZ BK692.out 9, CZ BK692.out 10, CZ BK662.out 0, CZ BK662.out 1, CZ BK662.out 2, CZ BK662.out 3, CZ BK662.out 4, CZ BK662.out 5, CZ BK662.out 6, CZ BK662.out 7, CZ BK662.out 8, CZ BK662.out 9, CZ BK662.out 10, CZ BK708.out 0, CZ BK708.out 1, CZ BK708.out 2, CZ BK708.out 3, CZ BK708.out 4, CZ BK708.out 5, CZ BK708.out 6, CZ BK708.out 7, CZ BK708.out 8, CZ BK708.out 9, CZ BK708.out 10⟩ (fun hHeld => ?_)
 clear hK K
 refine norm_ (a' := ?_) ?_ ?_
 rotate_left
 ·
  show Act.put _ (some 77) _ = _; simp only [Act.put, zA, zB, zC, i64_w, i32_w]; rfl
 refine pV 40 78 (OB 49 2199023255551) ?_
 refine pV 41 79 (OB 49 4398046511103) ?_
 refine pV 42 80 (OB 49 8796093022207) ?_
 refine pV 43 81 (OB 49 17592186044415) ?_
 refine one_ (i := 44) (N := some 82) (OB 49 35184372088831) rfl rfl (one_of HT_.out (by kernel_rfl)) (by decide) (fun K hK => ?_)
 refine goes_ Try.func47 (by kernel_rfl) rfl #[.int .i64 1, .int .i64 2, .int .i64 3, .int .i64 4] (by rfl) rfl rfl (MA) ?_
 with_reducible refine (impl_TaskNew.calls 1 2 3 4 t726 t727 t728 t729 t730 t731 t732 t733 t734 t735 t736 _ A27.out).mono ?_
 rintro e w66 ⟨rfl, hb⟩
 refine ⟨_, rfl, ?_⟩
 have n0_ := Aside0.mk (Kd.Q_below (by (with_reducible repeat (first | apply Kd.Q_alloc | apply Kd.Q_drewN | apply Kd.Q_drew)); exact HO650.out) hb)
 have n1_ := Aside0.mk (Kd.R_below (RQ HO665.out) hb)
 have n2_ := Aside0.mk (Kd.R_below (RQ HO680.out) hb)
 have n3_ := Aside0.mk (Kd.Q_below (by (with_reducible repeat (first | apply Kd.Q_alloc | apply Kd.Q_drewN | apply Kd.Q_drew)); exact HO696.out) hb)
 have n4_ := Aside0.mk (Kd.R_below (RQ HO714.out) hb)
 have n5_ := Aside0.mk (Kd.R_below (RQ HO717.out) hb)
 have n6_ := Aside0.mk (Kd.R_below (RQ HO725.out) hb)
 have n7_ := BB BK662.out hb
 have n8_ := BB BK677.out hb
 have n9_ := BB BK692.out hb
 have n10_ := BB BK708.out hb
 have n11_ := Aside0.mk (below_step (BL) hb)
 clear HO650
 clear HO665
 clear HO680
 clear HO696
 clear HO714
 clear HO717
 clear HO725
 clear BK662
 clear BK677
 clear BK692
 clear BK708
 clear HB
 have HO650 := n0_
 have HO665 := n1_
 have HO680 := n2_
 have HO696 := n3_
 have HO714 := n4_
 have HO717 := n5_
 have HO725 := n6_
 have BK662 := n7_
 have BK677 := n8_
 have BK692 := n9_
 have BK708 := n10_
 have HB := n11_
 clear n0_ n1_ n2_ n3_ n4_ n5_ n6_ n7_ n8_ n9_ n10_ n11_
 (try clear hb)
 (try clear hb2)
 (try clear hk)
 (try clear hi)
 refine hK.out _ _ ⟨CZ BK677.out 0, CZ BK677.out 1, CZ BK677.out 2, CZ BK677.out 3, CZ BK677.out 4, CZ BK677.out 5, CZ BK677.out 6, CZ BK677.out 7, CZ BK677.out 8, CZ BK677.out 9, CZ BK677.out 10, CZ BK692.out 0, CZ BK692.out 1, CZ BK692.out 2, CZ BK692.out 3, CZ BK692.out 4, CZ BK692.out 5, CZ BK692.out 6, CZ BK692.out 7, CZ BK692.out 8, CZ BK692.out 9, CZ BK692.out 10, CZ BK662.out 0, CZ BK662.out 1, CZ BK662.out 2, CZ BK662.out 3, CZ BK662.out 4, CZ BK662.out 5, CZ BK662.out 6, CZ BK662.out 7, CZ BK662.out 8, CZ BK662.out 9, CZ BK662.out 10, CZ BK708.out 0, CZ BK708.out 1, CZ BK708.out 2, CZ BK708.out 3, CZ BK708.out 4, CZ BK708.out 5, CZ BK708.out 6, CZ BK708.out 7, CZ BK708.out 8, CZ BK708.out 9, CZ BK708.out 10⟩ (fun hHeld => ?_)
 clear hK K
 refine norm_ (a' := ?_) ?_ ?_
 rotate_left
 ·
  show Act.put _ (some 82) _ = _; simp only [Act.put, zA, zB, zC, i64_w, i32_w]; rfl
 refine pV 45 83 (OB 49 70368744177663) ?_ (hy := by intro w'; go_simp; rw [laws_FnSteps.fld]; rfl)
 refine pV 46 84 (OB 49 140737488355327) ?_
 refine pV 47 85 (OB 49 281474976710655) ?_
 refine pV 48 2 (OB 49 562949953421311) ?_
 refine done_ (done_of HT_.out (by kernel_rfl)) ?_
 try go_wp2
 go_ret
 exact ⟨EE, BL⟩

/-- THE ONE PURE STATEMENT of laws_FnSteps: yours. -/
def laws_FnSteps.Pure : Prop := ∀ (l0 : List Int), l0.length ≤ maxLen → l0.length * 1 ≤ 140737488351232 → (∀ x ∈ l0, (Lit.int .u8 x).wf = true) → ∃ k, laws_FnSteps.f k l0 = some true
theorem laws_FnSteps.walk (P : laws_FnSteps.Pure) (a0 : Option Addr) (len0 cap0 : Nat) (z0 : List Int) (w : World) (w0 : (a0 = none ∧ len0 = 0 ∧ cap0 = 0 ∧ z0 = []) ∨ ∃ x, a0 = some x ∧ len0 ≤ cap0 ∧ cap0 ≤ maxLen ∧ z0.length = cap0 ∧ (∀ i, i < z0.length → w.cell? (x.add i) = some (.int .u8 (z0.getD i 0))) ∧ ∀ n ∈ z0, (Lit.int .u8 n).wf = true) (y0 : len0 * 1 ≤ 140737488351232) :
  Calls Try.prog 11 #[.slice a0 len0 cap0] w fun e w' => e = .returned (.bool true) ∧ Below w.heap.size w w' := by
 obtain ⟨l0, rfl, hr0, hm0, hw0, hc0⟩ := ReadsInt.ofRowC w0
 obtain ⟨k, h⟩ := P l0 hm0 y0 hw0
 refine (laws_FnSteps.calls k _ _ l0 true w (Kd.C_of_reads (d := (0 : Int)) (h1 := fun _ => rfl) hr0) hc0 h).mono ?_
 rintro e w' ⟨rfl, hd⟩
 exact ⟨rfl, hd⟩

end Go.Proofs.Ytjmggbhgmenmcaa.Qst
