-- Laid by myprint.py, a program of this session's own, over the kit's print. Not trusted: Lean checks it.
import Derived.Test.YtjmggbhgmenmcaaQalx0
import Derived.Test.YtjmggbhgmenmcaaQalx1
import Derived.Test.YtjmggbhgmenmcaaQalx4
import Derived.Test.YtjmggbhgmenmcaaQalx5
namespace Go.Proofs.Ytjmggbhgmenmcaa.Qal
open Go.RowKit Go.Proofs.YtjmggbhgmenmcaaW.PrintWords Go.Proofs.YtjmggbhgmenmcaaW.PrintLast Go.Proofs.YtjmggbhgmenmcaaW.PrintMore
attribute [local go_sem] Go.Proofs.Ytjmggbhgmenmcaa.StrCmp.gtr_less Go.Proofs.Ytjmggbhgmenmcaa.StrCmp.geq_less Go.Proofs.Ytjmggbhgmenmcaa.StrCmp.leq_less max2_int min2_int max_two min_two max_three min_three max_four min_four   -- for this text's walks alone
set_option linter.unusedVariables false
set_option linter.unusedSimpArgs false

/-! ### laws_FnAlone: function 12 -/
mutual
def laws_FnAlone.l0 : Nat → List (S61) → List Int → List Int → Int → Option (Bool)
 | 0, _, _, _, _ => none
 | k + 1, x3, x4, x5, x6 => if x6 < (x3.length : Int) then (if 0 ≤ x6 then ((impl_TaskNew.f 2 ((rd_T61 x3 x6).f0) ((rd_T61 x3 x6).f1) (wrap64 (10 + x6))).bind fun bt432 => (laws_FnAlone.l1 k x3 x4 x5 x6 0 bt432.1 bt432.2.1 bt432.2.2.1 bt432.2.2.2.1 bt432.2.2.2.2.1 bt432.2.2.2.2.2.1 bt432.2.2.2.2.2.2.1 bt432.2.2.2.2.2.2.2.1 bt432.2.2.2.2.2.2.2.2.1 bt432.2.2.2.2.2.2.2.2.2.1 bt432.2.2.2.2.2.2.2.2.2.2)) else (none)) else (if 0 < (x4.length : Int) then (if 1 < (x4.length : Int) then (if 2 < (x4.length : Int) then ((impl_TaskNew.f (wrap64 (1 + (Int.tmod (rd x4 0) 3))) (wrap64 (1 + (Int.tmod (rd x4 1) 7))) (Int.tmod (rd x4 2) 50) 1).bind fun bt461 => ((spec_DoTask.f k x3 bt461.1 bt461.2.1 bt461.2.2.1 bt461.2.2.2.1 bt461.2.2.2.2.1 bt461.2.2.2.2.2.1 bt461.2.2.2.2.2.2.1 bt461.2.2.2.2.2.2.2.1 bt461.2.2.2.2.2.2.2.2.1 bt461.2.2.2.2.2.2.2.2.2.1 bt461.2.2.2.2.2.2.2.2.2.2).bind fun bt473 => (laws_FnAlone.l2 k x5 bt473.1 bt473.2 0 bt461.1 bt461.2.1 bt461.2.2.1 bt461.2.2.2.1 bt461.2.2.2.2.1 bt461.2.2.2.2.2.1 bt461.2.2.2.2.2.2.1 bt461.2.2.2.2.2.2.2.1 bt461.2.2.2.2.2.2.2.2.1 bt461.2.2.2.2.2.2.2.2.2.1 bt461.2.2.2.2.2.2.2.2.2.2))) else (none)) else (none)) else (none))
def laws_FnAlone.l1 : Nat → List (S61) → List Int → List Int → Int → Int → Int → Int → Int → Int → Int → Int → Int → Int → Int → Bool → Int → Option (Bool)
 | 0, _, _, _, _, _, _, _, _, _, _, _, _, _, _, _, _ => none
 | k + 1, x3, x4, x5, x6, x8, x444000, x444001, x444002, x444003, x444004, x444005, x444006, x444007, x444008, x444009, x444010 => if x8 < 60 then (if x444009 = true then (if x444010 = 1 then (laws_FnAlone.l0 k x3 x4 x5 (wrap64 (x6 + 1))) else (none)) else ((impl_StepTask.f k x5 x444000 x444001 x444002 x444003 x444004 x444005 x444006 x444007 x444008 x444009 x444010).bind fun bt444 => (laws_FnAlone.l1 k x3 x4 bt444.1 x6 (wrap64 (x8 + 1)) bt444.2.1 bt444.2.2.1 bt444.2.2.2.1 bt444.2.2.2.2.1 bt444.2.2.2.2.2.1 bt444.2.2.2.2.2.2.1 bt444.2.2.2.2.2.2.2.1 bt444.2.2.2.2.2.2.2.2.1 bt444.2.2.2.2.2.2.2.2.2.1 bt444.2.2.2.2.2.2.2.2.2.2.1 bt444.2.2.2.2.2.2.2.2.2.2.2))) else (if x444009 = true then (if x444010 = 1 then (laws_FnAlone.l0 k x3 x4 x5 (wrap64 (x6 + 1))) else (none)) else (none))
def laws_FnAlone.j3 : Nat → List Int → List (S61) → Int → Int → Int → Int → Int → Int → Int → Int → Int → Int → Bool → Int → Option (Bool)
 | 0, _, _, _, _, _, _, _, _, _, _, _, _, _, _ => none
 | k + 1, x5, x10, x11, x473000, x473001, x473002, x473003, x473004, x473005, x473006, x473007, x473008, x473009, x473010 => (impl_KeysOf.f k x5).bind fun t491 => (laws_FnAlone.l3 k x5 x10 x11 t491 0 x473000 x473001 x473002 x473003 x473004 x473005 x473006 x473007 x473008 x473009 x473010)
def laws_FnAlone.l3 : Nat → List Int → List (S61) → Int → List Int → Int → Int → Int → Int → Int → Int → Int → Int → Int → Int → Bool → Int → Option (Bool)
 | 0, _, _, _, _, _, _, _, _, _, _, _, _, _, _, _, _ => none
 | k + 1, x5, x10, x11, x13, x14, x473000, x473001, x473002, x473003, x473004, x473005, x473006, x473007, x473008, x473009, x473010 => if x14 < (x10.length : Int) then (if x14 ≥ (x13.length : Int) then (none) else (if 0 ≤ x14 then (if x14 < (x13.length : Int) then (if (rd x13 x14) = ((rd_T61 x10 x14).f0) then ((impl_ValueOf.f k x5 (rd x13 x14)).bind fun t497 => (if t497 = (wrap64 (((rd_T61 x10 x14).f1) + 1)) then (laws_FnAlone.l3 k x5 x10 x11 x13 (wrap64 (x14 + 1)) x473000 x473001 x473002 x473003 x473004 x473005 x473006 x473007 x473008 x473009 x473010) else (none))) else (none)) else (none)) else (none))) else (if x473009 = true then (if x473010 = x11 then (if (x13.length : Int) = (x10.length : Int) then ((impl_ValueOf.f k x5 99).bind fun t499 => (some (t499 == 0))) else (none)) else (none)) else (none))
def laws_FnAlone.l2 : Nat → List Int → List (S61) → Int → Int → Int → Int → Int → Int → Int → Int → Int → Int → Int → Bool → Int → Option (Bool)
 | 0, _, _, _, _, _, _, _, _, _, _, _, _, _, _, _ => none
 | k + 1, x5, x10, x11, x12, x473000, x473001, x473002, x473003, x473004, x473005, x473006, x473007, x473008, x473009, x473010 => if x12 < 60 then (if x473009 = true then (laws_FnAlone.j3 k x5 x10 x11 x473000 x473001 x473002 x473003 x473004 x473005 x473006 x473007 x473008 x473009 x473010) else ((impl_StepTask.f k x5 x473000 x473001 x473002 x473003 x473004 x473005 x473006 x473007 x473008 x473009 x473010).bind fun bt477 => (laws_FnAlone.l2 k bt477.1 x10 x11 (wrap64 (x12 + 1)) bt477.2.1 bt477.2.2.1 bt477.2.2.2.1 bt477.2.2.2.2.1 bt477.2.2.2.2.2.1 bt477.2.2.2.2.2.2.1 bt477.2.2.2.2.2.2.2.1 bt477.2.2.2.2.2.2.2.2.1 bt477.2.2.2.2.2.2.2.2.2.1 bt477.2.2.2.2.2.2.2.2.2.2.1 bt477.2.2.2.2.2.2.2.2.2.2.2))) else (laws_FnAlone.j3 k x5 x10 x11 x473000 x473001 x473002 x473003 x473004 x473005 x473006 x473007 x473008 x473009 x473010)
end
def laws_FnAlone.f (k : Nat) (l0 : List Int) : Option (Bool) := (laws_big.f l0).bind fun t420 => (if t420 = true then (some true) else ((spec_DrawPairs.f k l0).bind fun t421 => ((spec_DrawPlaces.f k l0).bind fun t424 => ((impl_ListNew.f).bind fun t427 => (laws_FnAlone.l0 k t421 t424 t427 0)))))
theorem laws_FnAlone.mono_l : ∀ k, (∀ y0 y1 y2 y3, LeO (laws_FnAlone.l0 k y0 y1 y2 y3) (laws_FnAlone.l0 (k + 1) y0 y1 y2 y3)) ∧ (∀ y0 y1 y2 y3 y4 y5 y6 y7 y8 y9 y10 y11 y12 y13 y14 y15, LeO (laws_FnAlone.l1 k y0 y1 y2 y3 y4 y5 y6 y7 y8 y9 y10 y11 y12 y13 y14 y15) (laws_FnAlone.l1 (k + 1) y0 y1 y2 y3 y4 y5 y6 y7 y8 y9 y10 y11 y12 y13 y14 y15)) ∧ (∀ y0 y1 y2 y3 y4 y5 y6 y7 y8 y9 y10 y11 y12 y13, LeO (laws_FnAlone.j3 k y0 y1 y2 y3 y4 y5 y6 y7 y8 y9 y10 y11 y12 y13) (laws_FnAlone.j3 (k + 1) y0 y1 y2 y3 y4 y5 y6 y7 y8 y9 y10 y11 y12 y13)) ∧ (∀ y0 y1 y2 y3 y4 y5 y6 y7 y8 y9 y10 y11 y12 y13 y14 y15, LeO (laws_FnAlone.l3 k y0 y1 y2 y3 y4 y5 y6 y7 y8 y9 y10 y11 y12 y13 y14 y15) (laws_FnAlone.l3 (k + 1) y0 y1 y2 y3 y4 y5 y6 y7 y8 y9 y10 y11 y12 y13 y14 y15)) ∧ (∀ y0 y1 y2 y3 y4 y5 y6 y7 y8 y9 y10 y11 y12 y13 y14, LeO (laws_FnAlone.l2 k y0 y1 y2 y3 y4 y5 y6 y7 y8 y9 y10 y11 y12 y13 y14) (laws_FnAlone.l2 (k + 1) y0 y1 y2 y3 y4 y5 y6 y7 y8 y9 y10 y11 y12 y13 y14))
 | 0 => ⟨fun _ _ _ _ r h => by simp [laws_FnAlone.l0] at h, fun _ _ _ _ _ _ _ _ _ _ _ _ _ _ _ _ r h => by simp [laws_FnAlone.l1] at h, fun _ _ _ _ _ _ _ _ _ _ _ _ _ _ r h => by simp [laws_FnAlone.j3] at h, fun _ _ _ _ _ _ _ _ _ _ _ _ _ _ _ _ r h => by simp [laws_FnAlone.l3] at h, fun _ _ _ _ _ _ _ _ _ _ _ _ _ _ _ r h => by simp [laws_FnAlone.l2] at h⟩
 | k + 1 => by
  obtain ⟨ih0, ih1, ih2, ih3, ih4⟩ := laws_FnAlone.mono_l k; refine ⟨?_, ?_, ?_, ?_, ?_⟩
  ·
   intro y0 y1 y2 y3
   unfold laws_FnAlone.l0
   repeat' first
   | (with_reducible exact ih0 _ _ _ _)
   | (with_reducible exact ih1 _ _ _ _ _ _ _ _ _ _ _ _ _ _ _ _)
   | (with_reducible exact ih2 _ _ _ _ _ _ _ _ _ _ _ _ _ _)
   | (with_reducible exact ih3 _ _ _ _ _ _ _ _ _ _ _ _ _ _ _ _)
   | (with_reducible exact ih4 _ _ _ _ _ _ _ _ _ _ _ _ _ _ _)
   | (with_reducible exact impl_KeysOf.mono _ _)
   | (with_reducible exact impl_StepTask.mono _ _ _ _ _ _ _ _ _ _ _ _ _)
   | (with_reducible exact impl_ValueOf.mono _ _ _)
   | (with_reducible exact spec_DoTask.mono _ _ _ _ _ _ _ _ _ _ _ _ _)
   | (with_reducible exact spec_DrawPairs.mono _ _)
   | (with_reducible exact spec_DrawPlaces.mono _ _)
   | (with_reducible exact LeO.refl _)
   | (with_reducible exact LeO.none _)
   | (with_reducible refine LeO.ite ?_ ?_)
   | (with_reducible refine LeO.bind ?_ (fun _ => ?_))
   | exact ih0 _ _ _ _
   | exact ih1 _ _ _ _ _ _ _ _ _ _ _ _ _ _ _ _
   | exact ih2 _ _ _ _ _ _ _ _ _ _ _ _ _ _
   | exact ih3 _ _ _ _ _ _ _ _ _ _ _ _ _ _ _ _
   | exact ih4 _ _ _ _ _ _ _ _ _ _ _ _ _ _ _
   | exact impl_KeysOf.mono _ _
   | exact impl_StepTask.mono _ _ _ _ _ _ _ _ _ _ _ _ _
   | exact impl_ValueOf.mono _ _ _
   | exact spec_DoTask.mono _ _ _ _ _ _ _ _ _ _ _ _ _
   | exact spec_DrawPairs.mono _ _
   | exact spec_DrawPlaces.mono _ _
   | exact LeO.none _
   | refine LeO.ite ?_ ?_
   | refine LeO.bind ?_ (fun _ => ?_)
  ·
   intro y0 y1 y2 y3 y4 y5 y6 y7 y8 y9 y10 y11 y12 y13 y14 y15
   unfold laws_FnAlone.l1
   repeat' first
   | (with_reducible exact ih0 _ _ _ _)
   | (with_reducible exact ih1 _ _ _ _ _ _ _ _ _ _ _ _ _ _ _ _)
   | (with_reducible exact ih2 _ _ _ _ _ _ _ _ _ _ _ _ _ _)
   | (with_reducible exact ih3 _ _ _ _ _ _ _ _ _ _ _ _ _ _ _ _)
   | (with_reducible exact ih4 _ _ _ _ _ _ _ _ _ _ _ _ _ _ _)
   | (with_reducible exact impl_KeysOf.mono _ _)
   | (with_reducible exact impl_StepTask.mono _ _ _ _ _ _ _ _ _ _ _ _ _)
   | (with_reducible exact impl_ValueOf.mono _ _ _)
   | (with_reducible exact spec_DoTask.mono _ _ _ _ _ _ _ _ _ _ _ _ _)
   | (with_reducible exact spec_DrawPairs.mono _ _)
   | (with_reducible exact spec_DrawPlaces.mono _ _)
   | (with_reducible exact LeO.refl _)
   | (with_reducible exact LeO.none _)
   | (with_reducible refine LeO.ite ?_ ?_)
   | (with_reducible refine LeO.bind ?_ (fun _ => ?_))
   | exact ih0 _ _ _ _
   | exact ih1 _ _ _ _ _ _ _ _ _ _ _ _ _ _ _ _
   | exact ih2 _ _ _ _ _ _ _ _ _ _ _ _ _ _
   | exact ih3 _ _ _ _ _ _ _ _ _ _ _ _ _ _ _ _
   | exact ih4 _ _ _ _ _ _ _ _ _ _ _ _ _ _ _
   | exact impl_KeysOf.mono _ _
   | exact impl_StepTask.mono _ _ _ _ _ _ _ _ _ _ _ _ _
   | exact impl_ValueOf.mono _ _ _
   | exact spec_DoTask.mono _ _ _ _ _ _ _ _ _ _ _ _ _
   | exact spec_DrawPairs.mono _ _
   | exact spec_DrawPlaces.mono _ _
   | exact LeO.none _
   | refine LeO.ite ?_ ?_
   | refine LeO.bind ?_ (fun _ => ?_)
  ·
   intro y0 y1 y2 y3 y4 y5 y6 y7 y8 y9 y10 y11 y12 y13
   unfold laws_FnAlone.j3
   repeat' first
   | (with_reducible exact ih0 _ _ _ _)
   | (with_reducible exact ih1 _ _ _ _ _ _ _ _ _ _ _ _ _ _ _ _)
   | (with_reducible exact ih2 _ _ _ _ _ _ _ _ _ _ _ _ _ _)
   | (with_reducible exact ih3 _ _ _ _ _ _ _ _ _ _ _ _ _ _ _ _)
   | (with_reducible exact ih4 _ _ _ _ _ _ _ _ _ _ _ _ _ _ _)
   | (with_reducible exact impl_KeysOf.mono _ _)
   | (with_reducible exact impl_StepTask.mono _ _ _ _ _ _ _ _ _ _ _ _ _)
   | (with_reducible exact impl_ValueOf.mono _ _ _)
   | (with_reducible exact spec_DoTask.mono _ _ _ _ _ _ _ _ _ _ _ _ _)
   | (with_reducible exact spec_DrawPairs.mono _ _)
   | (with_reducible exact spec_DrawPlaces.mono _ _)
   | (with_reducible exact LeO.refl _)
   | (with_reducible exact LeO.none _)
   | (with_reducible refine LeO.ite ?_ ?_)
   | (with_reducible refine LeO.bind ?_ (fun _ => ?_))
   | exact ih0 _ _ _ _
   | exact ih1 _ _ _ _ _ _ _ _ _ _ _ _ _ _ _ _
   | exact ih2 _ _ _ _ _ _ _ _ _ _ _ _ _ _
   | exact ih3 _ _ _ _ _ _ _ _ _ _ _ _ _ _ _ _
   | exact ih4 _ _ _ _ _ _ _ _ _ _ _ _ _ _ _
   | exact impl_KeysOf.mono _ _
   | exact impl_StepTask.mono _ _ _ _ _ _ _ _ _ _ _ _ _
   | exact impl_ValueOf.mono _ _ _
   | exact spec_DoTask.mono _ _ _ _ _ _ _ _ _ _ _ _ _
   | exact spec_DrawPairs.mono _ _
   | exact spec_DrawPlaces.mono _ _
   | exact LeO.none _
   | refine LeO.ite ?_ ?_
   | refine LeO.bind ?_ (fun _ => ?_)
  ·
   intro y0 y1 y2 y3 y4 y5 y6 y7 y8 y9 y10 y11 y12 y13 y14 y15
   unfold laws_FnAlone.l3
   repeat' first
   | (with_reducible exact ih0 _ _ _ _)
   | (with_reducible exact ih1 _ _ _ _ _ _ _ _ _ _ _ _ _ _ _ _)
   | (with_reducible exact ih2 _ _ _ _ _ _ _ _ _ _ _ _ _ _)
   | (with_reducible exact ih3 _ _ _ _ _ _ _ _ _ _ _ _ _ _ _ _)
   | (with_reducible exact ih4 _ _ _ _ _ _ _ _ _ _ _ _ _ _ _)
   | (with_reducible exact impl_KeysOf.mono _ _)
   | (with_reducible exact impl_StepTask.mono _ _ _ _ _ _ _ _ _ _ _ _ _)
   | (with_reducible exact impl_ValueOf.mono _ _ _)
   | (with_reducible exact spec_DoTask.mono _ _ _ _ _ _ _ _ _ _ _ _ _)
   | (with_reducible exact spec_DrawPairs.mono _ _)
   | (with_reducible exact spec_DrawPlaces.mono _ _)
   | (with_reducible exact LeO.refl _)
   | (with_reducible exact LeO.none _)
   | (with_reducible refine LeO.ite ?_ ?_)
   | (with_reducible refine LeO.bind ?_ (fun _ => ?_))
   | exact ih0 _ _ _ _
   | exact ih1 _ _ _ _ _ _ _ _ _ _ _ _ _ _ _ _
   | exact ih2 _ _ _ _ _ _ _ _ _ _ _ _ _ _
   | exact ih3 _ _ _ _ _ _ _ _ _ _ _ _ _ _ _ _
   | exact ih4 _ _ _ _ _ _ _ _ _ _ _ _ _ _ _
   | exact impl_KeysOf.mono _ _
   | exact impl_StepTask.mono _ _ _ _ _ _ _ _ _ _ _ _ _
   | exact impl_ValueOf.mono _ _ _
   | exact spec_DoTask.mono _ _ _ _ _ _ _ _ _ _ _ _ _
   | exact spec_DrawPairs.mono _ _
   | exact spec_DrawPlaces.mono _ _
   | exact LeO.none _
   | refine LeO.ite ?_ ?_
   | refine LeO.bind ?_ (fun _ => ?_)
  ·
   intro y0 y1 y2 y3 y4 y5 y6 y7 y8 y9 y10 y11 y12 y13 y14
   unfold laws_FnAlone.l2
   repeat' first
   | (with_reducible exact ih0 _ _ _ _)
   | (with_reducible exact ih1 _ _ _ _ _ _ _ _ _ _ _ _ _ _ _ _)
   | (with_reducible exact ih2 _ _ _ _ _ _ _ _ _ _ _ _ _ _)
   | (with_reducible exact ih3 _ _ _ _ _ _ _ _ _ _ _ _ _ _ _ _)
   | (with_reducible exact ih4 _ _ _ _ _ _ _ _ _ _ _ _ _ _ _)
   | (with_reducible exact impl_KeysOf.mono _ _)
   | (with_reducible exact impl_StepTask.mono _ _ _ _ _ _ _ _ _ _ _ _ _)
   | (with_reducible exact impl_ValueOf.mono _ _ _)
   | (with_reducible exact spec_DoTask.mono _ _ _ _ _ _ _ _ _ _ _ _ _)
   | (with_reducible exact spec_DrawPairs.mono _ _)
   | (with_reducible exact spec_DrawPlaces.mono _ _)
   | (with_reducible exact LeO.refl _)
   | (with_reducible exact LeO.none _)
   | (with_reducible refine LeO.ite ?_ ?_)
   | (with_reducible refine LeO.bind ?_ (fun _ => ?_))
   | exact ih0 _ _ _ _
   | exact ih1 _ _ _ _ _ _ _ _ _ _ _ _ _ _ _ _
   | exact ih2 _ _ _ _ _ _ _ _ _ _ _ _ _ _
   | exact ih3 _ _ _ _ _ _ _ _ _ _ _ _ _ _ _ _
   | exact ih4 _ _ _ _ _ _ _ _ _ _ _ _ _ _ _
   | exact impl_KeysOf.mono _ _
   | exact impl_StepTask.mono _ _ _ _ _ _ _ _ _ _ _ _ _
   | exact impl_ValueOf.mono _ _ _
   | exact spec_DoTask.mono _ _ _ _ _ _ _ _ _ _ _ _ _
   | exact spec_DrawPairs.mono _ _
   | exact spec_DrawPlaces.mono _ _
   | exact LeO.none _
   | refine LeO.ite ?_ ?_
   | refine LeO.bind ?_ (fun _ => ?_)
theorem laws_FnAlone.mono : ∀ a0 k, LeO (laws_FnAlone.f k a0) (laws_FnAlone.f (k + 1) a0) := by
 intro a0 k
 obtain ⟨ih0, ih1, ih2, ih3, ih4⟩ := laws_FnAlone.mono_l k
 unfold laws_FnAlone.f
 repeat' first
   | (with_reducible exact ih0 _ _ _ _)
   | (with_reducible exact ih1 _ _ _ _ _ _ _ _ _ _ _ _ _ _ _ _)
   | (with_reducible exact ih2 _ _ _ _ _ _ _ _ _ _ _ _ _ _)
   | (with_reducible exact ih3 _ _ _ _ _ _ _ _ _ _ _ _ _ _ _ _)
   | (with_reducible exact ih4 _ _ _ _ _ _ _ _ _ _ _ _ _ _ _)
   | (with_reducible exact impl_KeysOf.mono _ _)
   | (with_reducible exact impl_StepTask.mono _ _ _ _ _ _ _ _ _ _ _ _ _)
   | (with_reducible exact impl_ValueOf.mono _ _ _)
   | (with_reducible exact spec_DoTask.mono _ _ _ _ _ _ _ _ _ _ _ _ _)
   | (with_reducible exact spec_DrawPairs.mono _ _)
   | (with_reducible exact spec_DrawPlaces.mono _ _)
   | (with_reducible exact LeO.refl _)
   | (with_reducible exact LeO.none _)
   | (with_reducible refine LeO.ite ?_ ?_)
   | (with_reducible refine LeO.bind ?_ (fun _ => ?_))
   | exact ih0 _ _ _ _
   | exact ih1 _ _ _ _ _ _ _ _ _ _ _ _ _ _ _ _
   | exact ih2 _ _ _ _ _ _ _ _ _ _ _ _ _ _
   | exact ih3 _ _ _ _ _ _ _ _ _ _ _ _ _ _ _ _
   | exact ih4 _ _ _ _ _ _ _ _ _ _ _ _ _ _ _
   | exact impl_KeysOf.mono _ _
   | exact impl_StepTask.mono _ _ _ _ _ _ _ _ _ _ _ _ _
   | exact impl_ValueOf.mono _ _ _
   | exact spec_DoTask.mono _ _ _ _ _ _ _ _ _ _ _ _ _
   | exact spec_DrawPairs.mono _ _
   | exact spec_DrawPlaces.mono _ _
   | exact LeO.none _
   | refine LeO.ite ?_ ?_
   | refine LeO.bind ?_ (fun _ => ?_)
def laws_FnAlone.T9 : Bool × List (List Nat × List Nat) := (true, [([], []), ([], []), ([0, 1], [0, 1]), ([2], [2]), ([3], [3]), ([], []), ([], []), ([5, 6], [5, 6]), ([7], [7]), ([8], [8]), ([], []), ([10], [10]), ([4, 9, 11], [4, 9, 11]), ([], []), ([13, 12, 12, 0, 1, 2, 3, 4, 5, 6, 7, 8, 9, 10, 11, 12, 13], [12, 13])])
def laws_FnAlone.B9 : List Nat := [0, 0, 3, 7, 15, 0, 0, 96, 224, 480, 0, 1024, 4095, 0, 16383]
theorem laws_FnAlone.tab9 : rtab .any (opsOf Try.f12 9) = laws_FnAlone.T9 := by kernel_rfl
theorem laws_FnAlone.bits9 : waitsOk laws_FnAlone.T9.2 laws_FnAlone.B9 = true := by kernel_rfl
def laws_FnAlone.T16 : Bool × List (List Nat × List Nat) := (true, [([], []), ([0], [0]), ([1], [1]), ([2], [2]), ([3], [3]), ([], []), ([5], [5]), ([6], [6]), ([7], [7]), ([8], [8]), ([], []), ([10], [10]), ([11], [11]), ([12], [12]), ([4, 9, 13], [4, 9, 13]), ([], []), ([15, 14, 14, 0, 1, 2, 3, 4, 5, 6, 7, 8, 9, 10, 11, 12, 13, 14, 15], [14, 15])])
def laws_FnAlone.B16 : List Nat := [0, 1, 3, 7, 15, 0, 32, 96, 224, 480, 0, 1024, 3072, 7168, 16383, 0, 65535]
theorem laws_FnAlone.tab16 : rtab .any (opsOf Try.f12 16) = laws_FnAlone.T16 := by kernel_rfl
theorem laws_FnAlone.bits16 : waitsOk laws_FnAlone.T16.2 laws_FnAlone.B16 = true := by kernel_rfl
def laws_FnAlone.T26 : Bool × List (List Nat × List Nat) := (true, [([], []), ([], []), ([1], [1]), ([0, 2], [0, 2]), ([3], [3]), ([4], [4]), ([4], [4]), ([5, 6, 4], [4, 5, 6]), ([7, 4], [4, 7]), ([4], [4]), ([4], [4]), ([9, 10, 4], [4, 9, 10]), ([11, 4], [4, 11]), ([12, 4], [4, 12]), ([8, 13, 4], [4, 8, 13]), ([4, 14], [4, 14]), ([15, 4], [15]), ([16], [16]), ([16], [16]), ([16], [16]), ([18, 19, 16], [16, 18, 19]), ([20, 16], [16, 20]), ([17, 21, 16, 16], [16, 17, 21]), ([16], [16]), ([16], [16]), ([23, 24, 16], [16, 23, 24]), ([25, 16], [16, 25]), ([26, 16], [16, 26]), ([27, 16], [16, 27]), ([22, 28, 16], [16, 22, 28]), ([16, 29], [16, 29])])
def laws_FnAlone.B26 : List Nat := [0, 0, 2, 7, 15, 31, 31, 127, 255, 31, 31, 1567, 3615, 7711, 16383, 32767, 65535, 131071, 131071, 131071, 917503, 1966079, 4194303, 131071, 131071, 25296895, 58851327, 125960191, 260177919, 536870911, 1073741823]
theorem laws_FnAlone.tab26 : rtab .any (opsOf Try.f12 26) = laws_FnAlone.T26 := by kernel_rfl
theorem laws_FnAlone.bits26 : waitsOk laws_FnAlone.T26.2 laws_FnAlone.B26 = true := by kernel_rfl
set_option maxHeartbeats 8000000 in
set_option maxRecDepth 100000 in
theorem laws_FnAlone.calls (k : Nat) (A0 : Option Addr) (c0 : Nat) (l0 : List Int) (r : Bool) (w : World) (hr0 : Kd.C (Kd.int .u8) w A0 l0.length l0) (hc0 : l0.length ≤ c0) (h : laws_FnAlone.f k l0 = some r) :
  Calls Try.prog 12 #[.slice A0 l0.length c0] w fun e w' => e = .returned (.bool r) ∧ Below w.heap.size w w' := by
 have hu46 := Try.underlying46
 have HR0 := Aside0.mk hr0
 have HC0 := Aside0.mk hc0
 clear hr0 hc0
 have HB := Aside0.mk (Below.refl w.heap.size w)
 have H : ((laws_big.f l0).bind fun t420 => (if t420 = true then (some true) else ((spec_DrawPairs.f k l0).bind fun t421 => ((spec_DrawPlaces.f k l0).bind fun t424 => ((impl_ListNew.f).bind fun t427 => (laws_FnAlone.l0 k t421 t424 t427 0)))))) = some r := h
 clear h
 replace H := Option.bind_eq_some_iff.mp H
 obtain ⟨t420, A20, H⟩ := H
 have A2 := Aside0.mk A20
 clear A20
 by_cases c3 : t420 = true
 ·
  subst c3
  have H1 : (some true) = some r := by rw [if_pos rfl] at H; exact H
  clear H; have H := H1; clear H1; obtain rfl := Option.some.inj H
  go_enter Try.func12, Try.ntmps12
  go_wp2_with (first | ((with_reducible refine gate_callee (f := 23) rfl ?_); refine goesL_ (some 16) rfl rfl Try.func23 (by kernel_rfl) rfl #[.slice A0 l0.length c0] rfl (MA) ?_; (with_reducible refine (laws_big.calls _ _ l0 true _ ?side1 ?side2 A2.out).mono ?_); (case side1 => repeat (first | exact HR0.out | (with_reducible refine Kd.C_alloc ?_ _) | (with_reducible refine Kd.C_drewN ?_ _) | (with_reducible refine Kd.C_drew ?_))); (case side2 => exact HC0.out); rintro e w' ⟨rfl, ⟨nd, rfl⟩⟩; refine ⟨_, rfl, ?_⟩))
  go_ret
  exact ⟨EE, BL⟩
 replace c3 := Bool.eq_false_iff.mpr c3
 subst c3
 have H1 : ((spec_DrawPairs.f k l0).bind fun t421 => ((spec_DrawPlaces.f k l0).bind fun t424 => ((impl_ListNew.f).bind fun t427 => (laws_FnAlone.l0 k t421 t424 t427 0)))) = some r := by rw [if_neg (show ¬ (false = true) by decide)] at H; exact H
 clear H
 have H := H1
 clear H1
 replace H := Option.bind_eq_some_iff.mp H
 obtain ⟨t421, A40, H⟩ := H
 have A4 := Aside0.mk A40
 clear A40
 replace H := Option.bind_eq_some_iff.mp H
 obtain ⟨t424, A50, H⟩ := H
 have A5 := Aside0.mk A50
 clear A50
 replace H := Option.bind_eq_some_iff.mp H
 obtain ⟨t427, A60, H⟩ := H
 have A6 := Aside0.mk A60
 clear A60
 have H' := Aside0.mk H
 clear H
 go_enter Try.func12, Try.ntmps12
 go_wp2_with (first | ((with_reducible refine gate_callee (f := 23) rfl ?_); refine goesL_ (some 16) rfl rfl Try.func23 (by kernel_rfl) rfl #[.slice A0 l0.length c0] rfl (MA) ?_; (with_reducible refine (laws_big.calls _ _ l0 false _ ?side1 ?side2 A2.out).mono ?_); (case side1 => repeat (first | exact HR0.out | (with_reducible refine Kd.C_alloc ?_ _) | (with_reducible refine Kd.C_drewN ?_ _) | (with_reducible refine Kd.C_drew ?_))); (case side2 => exact HC0.out); rintro e w' ⟨rfl, ⟨nd, rfl⟩⟩; refine ⟨_, rfl, ?_⟩) | ((with_reducible refine gate_callee (f := 48) rfl ?_); refine goesL_ (some 18) rfl rfl Try.func48 (by kernel_rfl) rfl #[.slice A0 l0.length c0] rfl (MA) ?_; (with_reducible refine (spec_DrawPairs.calls k _ _ l0 t421 _ ?side1 ?side2 A4.out).mono ?_); (case side1 => repeat (first | exact HR0.out | (with_reducible refine Kd.C_alloc ?_ _) | (with_reducible refine Kd.C_drewN ?_ _) | (with_reducible refine Kd.C_drew ?_))); (case side2 => exact HC0.out); rintro e w7 ⟨v422, rfl, ho0, hb⟩; refine ⟨_, rfl, ?_⟩; have HO423 := Aside0.mk (Kd.R_lower ho0 (below_size (BL))); replace HB := Aside0.mk (below_step (BL) hb); (try clear hb); (try clear hb2); (try clear hk); (try clear hi); (try clear ho0)) | ((with_reducible refine gate_callee (f := 25) rfl ?_); refine goesL_ (some 20) rfl rfl Try.func25 (by kernel_rfl) rfl #[.slice A0 l0.length c0] rfl (MA) ?_; (with_reducible refine (spec_DrawPlaces.calls k _ _ l0 t424 _ ?side1 ?side2 A5.out).mono ?_); (case side1 => exact CB HR0.out); (case side2 => exact HC0.out); rintro e w8 ⟨v425, rfl, ho0, hb⟩; refine ⟨_, rfl, ?_⟩; have HO426 := Aside0.mk (Kd.R_lower ho0 (below_size (BL))); replace HO423 := Aside0.mk (Kd.R_below (RQ HO423.out) hb); replace HB := Aside0.mk (below_step (BL) hb); (try clear hb); (try clear hb2); (try clear hk); (try clear hi); (try clear ho0)) | ((with_reducible refine gate_callee (f := 46) rfl ?_); refine goesL_ (some 21) rfl rfl Try.func46 (by kernel_rfl) rfl #[] rfl (MA) ?_; (with_reducible refine (impl_ListNew.calls  t427 _ A6.out).mono ?_); rintro e w9 ⟨v428, rfl, ho0, hb⟩; refine ⟨_, rfl, ?_⟩; have HO429 := Aside0.mk (Kd.R_lower (Kd.R_new' ho0 (Kd.R_lt (RQ HO426.out))) (below_size (BL))); replace HO423 := Aside0.mk (Kd.R_below (RQ HO423.out) hb); replace HO426 := Aside0.mk (Kd.R_elder' (RQ HO426.out) (Kd.R_base ho0) hb); replace HB := Aside0.mk (below_step (BL) hb); (try clear hb); (try clear hb2); (try clear hk); (try clear hi); (try clear ho0)))
 go_loopg [5, 6] k (fun kq v5 v6 w' => ∃ (x5_1 : List Int) (x6_1 : Int), v6 = .int .i64 x6_1 ∧ Aside0 (laws_FnAlone.l0 kq t421 t424 x5_1 x6_1 = some r) ∧ Aside0 (kq ≤ k) ∧ Aside0 (Kd.R k61 61 w' w.heap.size (fun _ => True) v422 t421) ∧ Aside0 (Kd.R (Kd.int .i64) 3 w' w.heap.size (fun k_ => some k_ ≠ (v5 : Value).ownBlock) v425 t424) ∧ Aside0 (Kd.R (Kd.int .i64) 3 w' w.heap.size (fun k_ => some k_ ≠ (v425 : Value).ownBlock) v5 x5_1) ∧ Aside0 (Below w.heap.size w w'))
 case atStart => exact ⟨(t427), (0), SD, H', ⟨Nat.le_refl _⟩, ⟨RQ HO423.out⟩, ⟨by (with_reducible repeat (first | apply r1 | apply r2 | apply r3)); exact Kd.R_mono HO426.out (fun _ hk => hk.2)⟩, ⟨by (with_reducible repeat (first | apply r1 | apply r2 | apply r3)); exact Kd.R_mono HO429.out (fun _ hk => hk.2)⟩, ⟨BL⟩⟩
 case round =>
  clear H'
  try clear c1 c2 p2 c3 c4
  obtain ⟨x5_1, x6_1, rfl, HA, HK1, HO_3, HO_4, HO_5, HB⟩ := hrel; cases gk with
  | zero => exact absurd HA.out (by simp [laws_FnAlone.l0])
  | succ k1 =>
   have H := HA.out; clear HA; simp only [laws_FnAlone.l0] at H
   by_cases c10 : x6_1 < (t421.length : Int)
   ·
    rw [if_pos c10] at H; have c10b0 : decide (x6_1 < (t421.length : Int)) = true := decide_eq_true c10; clear c10
    by_cases c11 : 0 ≤ x6_1; rotate_left
    ·
     rw [if_neg c11] at H; exact absurd H (by simp)
    rw [if_pos c11] at H; have c11b0 : decide (0 ≤ x6_1) = true := decide_eq_true c11; clear c11; replace H := Option.bind_eq_some_iff.mp H; obtain ⟨⟨t432, t433, t434, t435, t436, t437, t438, t439, t440, t441, t442⟩, A120, H⟩ := H; replace H : (laws_FnAlone.l1 k1 t421 t424 x5_1 x6_1 0 t432 t433 t434 t435 t436 t437 t438 t439 t440 t441 t442) = some r := H; have A12 := Aside0.mk A120; clear A120; have H' := Aside0.mk H; clear H; obtain ⟨Ao13, co13, eo13⟩ := Kd.R_slice HO_3.out; subst eo13
    try go_wp2
    have n0_ := Aside0.mk (Kd.R_drew HO_3.out); have n1_ := Aside0.mk (Kd.R_drew HO_4.out); have n2_ := Aside0.mk (Kd.R_drew HO_5.out); have n3_ := Aside0.mk (below_drew1 HB.out); clear HO_3; clear HO_4; clear HO_5; clear HB; have HO_3 := n0_; have HO_4 := n1_; have HO_5 := n2_; have HB := n3_; clear n0_ n1_ n2_ n3_; have p430 : 0 ≤ (x6_1 : Int) := of_decide_eq_true AS; have q430 : x6_1 < (t421.length : Int) := of_decide_eq_true AS; obtain ⟨ad430, e430, hx430_0, hx430_1⟩ := at_T61 (Kd.R_reads' HO_3.out).2.2 x6_1 p430 q430; cases e430; replace p430 := eq_true p430; replace q430 := eq_true q430; have p431 : 0 ≤ (x6_1 : Int) := of_decide_eq_true AS; have q431 : x6_1 < (t421.length : Int) := of_decide_eq_true AS; obtain ⟨ad431, e431, hx431_0, hx431_1⟩ := at_T61 (Kd.R_reads' HO_3.out).2.2 x6_1 p431 q431; obtain rfl : ad430 = ad431 := (by injection e431); replace p431 := eq_true p431; replace q431 := eq_true q431; refine start_ (n := 15) (S := fun w' => w'.cell? (ad430.add ((x6_1).toNat * 2)) = some (.int .i64 ((rd_T61 t421 x6_1).f0)) ∧ w'.cell? ⟨(ad430.add ((x6_1).toNat * 2)).block, (ad430.add ((x6_1).toNat * 2)).off + 1, none⟩ = some (.int .i64 ((rd_T61 t421 x6_1).f1)) ∧ w'.cell? (ad430.add ((x6_1).toNat * 2)) = some (.int .i64 ((rd_T61 t421 x6_1).f0)) ∧ w'.cell? ⟨(ad430.add ((x6_1).toNat * 2)).block, (ad430.add ((x6_1).toNat * 2)).off + 1, none⟩ = some (.int .i64 ((rd_T61 t421 x6_1).f1))) (ds := []) #[false, false, false, false, false, false, false, false, false, false, false, false, false, false, false] (by kernel_rfl) rfl rfl ⟨hx430_0, hx430_1, hx431_0, hx431_1⟩ (fun hHeld => ?_); refine with_tabW laws_FnAlone.tab9 laws_FnAlone.bits9 (fun HT_ HW_ => ?_); generalize wr.drew = w14 at HO_3 HO_4 HO_5 HB hx430_0 hx430_1 hx431_0 hx431_1 hHeld ⊢; refine pV 0 28 (OB 15 1) ?_; refine pV 1 29 (OB 15 3) ?_; refine pV 2 30 (OB 15 7) ?_; refine pV 3 31 (OB 15 15) ?_; refine pV 5 33 (OB 15 47) ?_; refine pV 6 34 (OB 15 111) ?_; refine pV 7 35 (OB 15 239) ?_; refine pV 8 36 (OB 15 495) ?_; refine pV 10 38 (OB 15 1519) ?_; refine pV 11 39 (OB 15 3567) ?_; refine take_ (i := 4) (N := some 32) (v := ?_) (a' := ?_) (OB 15 3583) rfl rfl (take_ofW HT_.out HW_.out (by kernel_rfl)) (fun _ _ _ h => h) (Or.inl ⟨by rfl, ?_⟩) hHeld ?_ ?_; rotate_left
    ·
     rintro w' ⟨s0, s1, s2, s3⟩
     go_simp
     with_reducible rfl
    rotate_left
    ·
     simp only [Act.put, zA, zB, zC, i64_w, i32_w]; rfl
    refine take_ (i := 9) (N := some 37) (v := ?_) (a' := ?_) (OB 15 4095) rfl rfl (take_ofW HT_.out HW_.out (by kernel_rfl)) (fun _ _ _ h => h) (Or.inl ⟨by rfl, ?_⟩) hHeld ?_ ?_; rotate_left
    ·
     rintro w' ⟨s0, s1, s2, s3⟩
     go_simp
     with_reducible rfl
    rotate_left
    ·
     simp only [Act.put, zA, zB, zC, i64_w, i32_w]; rfl
    refine join_ (σ := Nat) 1 #[true, true, true, true, true, true, true, true, true, true, true, true, true, true, false] (fun s_ => [(40, .agg #[.int .i64 t432, .int .i64 t433, .int .i64 t434, .int .i64 t435, .int .i64 t436, .int .i64 t437, .int .i64 t438, .int .i64 t439, .int .i64 t440, .bool t441, .int .i64 t442]), (7, .pointer (some ⟨s_, 0, none⟩))]) (fun s_ w' => (w'.cell? (ad430.add ((x6_1).toNat * 2)) = some (.int .i64 ((rd_T61 t421 x6_1).f0)) ∧ w'.cell? ⟨(ad430.add ((x6_1).toNat * 2)).block, (ad430.add ((x6_1).toNat * 2)).off + 1, none⟩ = some (.int .i64 ((rd_T61 t421 x6_1).f1)) ∧ w'.cell? (ad430.add ((x6_1).toNat * 2)) = some (.int .i64 ((rd_T61 t421 x6_1).f0)) ∧ w'.cell? ⟨(ad430.add ((x6_1).toNat * 2)).block, (ad430.add ((x6_1).toNat * 2)).off + 1, none⟩ = some (.int .i64 ((rd_T61 t421 x6_1).f1))) ∧ (Kd.R k61 61 w' w.heap.size (fun _ => True) (.slice (some ad430) t421.length co13) t421) ∧ (Kd.R (Kd.int .i64) 3 w' w.heap.size (fun k_ => some k_ ≠ (u5 : Value).ownBlock) v425 t424) ∧ (Kd.R (Kd.int .i64) 3 w' w.heap.size (fun k_ => some k_ ≠ (v425 : Value).ownBlock) u5 x5_1) ∧ (w'.heap[s_]? = some (.cells #[.int .i64 0, .int .i64 0, .int .i64 0, .int .i64 0, .int .i64 0, .int .i64 0, .int .i64 0, .int .i64 0, .int .i64 0, .bool false, .int .i64 0] 46 (0, 0))) ∧ (w.heap.size ≤ s_) ∧ (w.heap.size ≤ s_) ∧ (Below w.heap.size w w')) ?_ ?_; rotate_left
    ·
     intro hCont; refine two_ (i := 12) (j := 13) (Ni := some 40) (Nj := some 7) #[true, true, true, true, true, true, true, true, true, true, true, true, true, false, false] #[true, true, true, true, true, true, true, true, true, true, true, true, false, true, false] rfl rfl rfl rfl (two_of HT_.out (by kernel_rfl)) (by decide) (by decide) (fun K hK => ?_) (fun K hK => ?_)
     ·
      skip
      refine goes_ Try.func47 (by kernel_rfl) rfl #[.int .i64 2, .int .i64 ((rd_T61 t421 x6_1).f0), .int .i64 ((rd_T61 t421 x6_1).f1), .int .i64 (wrap64 (10 + x6_1))] (by rfl) rfl rfl (MA) ?_
      with_reducible refine (impl_TaskNew.calls 2 ((rd_T61 t421 x6_1).f0) ((rd_T61 t421 x6_1).f1) (wrap64 (10 + x6_1)) t432 t433 t434 t435 t436 t437 t438 t439 t440 t441 t442 _ A12.out).mono ?_
      rintro e w15 ⟨rfl, hb⟩; have HS0_ := (hb.cell (World.block_lt_of_cell? _ _ (hHeld.1))).trans (hHeld.1); have HS1_ := (hb.cell (World.block_lt_of_cell? _ _ (hHeld.2.1))).trans (hHeld.2.1); have HS2_ := (hb.cell (World.block_lt_of_cell? _ _ (hHeld.2.2.1))).trans (hHeld.2.2.1); have HS3_ := (hb.cell (World.block_lt_of_cell? _ _ (hHeld.2.2.2))).trans (hHeld.2.2.2); refine ⟨_, rfl, ?_⟩; have n0_ := Aside0.mk (Kd.R_below (RQ HO_3.out) hb); have n1_ := Aside0.mk (Kd.R_below (RQ HO_4.out) hb); have n2_ := Aside0.mk (Kd.R_below (RQ HO_5.out) hb); have n3_ := Aside0.mk (below_step (BL) hb); clear HO_3; clear HO_4; clear HO_5; clear HB; have HO_3 := n0_; have HO_4 := n1_; have HO_5 := n2_; have HB := n3_; clear n0_ n1_ n2_ n3_
      (try clear hb)
      (try clear hb2)
      (try clear hk)
      (try clear hi)
      refine hK.out _ _ ⟨HS0_, HS1_, HS2_, HS3_⟩ (fun hHeld => ?_); clear hK K; refine norm_ (a' := ?_) ?_ ?_; rotate_left
      ·
       show Act.put _ (some 40) _ = _; simp only [Act.put, zA, zB, zC, i64_w, i32_w]; rfl
      refine one_ (i := 13) (N := some 7) (OB 15 16383) rfl rfl (one_of HT_.out (by kernel_rfl)) (by decide) (fun K hK => ?_); refine box_step ?hg (N := 7) ?hd (cs := #[.int .i64 0, .int .i64 0, .int .i64 0, .int .i64 0, .int .i64 0, .int .i64 0, .int .i64 0, .int .i64 0, .int .i64 0, .bool false, .int .i64 0]) (t := 46) ?hr ?_; (case hd => rfl); (case hg => rfl); (case hr => first | (go_simp; done) | (go_simp; rfl)); intro gb443 hg w16 hbox hb; have HS0_ := (hb.cell (World.block_lt_of_cell? _ _ (hHeld.1))).trans (hHeld.1); have HS1_ := (hb.cell (World.block_lt_of_cell? _ _ (hHeld.2.1))).trans (hHeld.2.1); have HS2_ := (hb.cell (World.block_lt_of_cell? _ _ (hHeld.2.2.1))).trans (hHeld.2.2.1); have HS3_ := (hb.cell (World.block_lt_of_cell? _ _ (hHeld.2.2.2))).trans (hHeld.2.2.2); have n0_ := Aside0.mk (Kd.R_below (RQ HO_3.out) hb); have n1_ := Aside0.mk (Kd.R_below (RQ HO_4.out) hb); have n2_ := Aside0.mk (Kd.R_below (RQ HO_5.out) hb); have n3_ := Aside0.mk (below_step (BL) hb); have n4_ := Aside0.mk (hbox); have n5_ : Aside0 (w.heap.size ≤ gb443) := GS; have n6_ : Aside0 (w.heap.size ≤ gb443) := GS; clear HO_3; clear HO_4; clear HO_5; clear HB; have HO_3 := n0_; have HO_4 := n1_; have HO_5 := n2_; have HB := n3_; have BK443 := n4_; have GW443 := n5_; have GE443 := n6_; clear n0_ n1_ n2_ n3_ n4_ n5_ n6_; clear hb hbox hg; refine hK.out _ _ ⟨HS0_, HS1_, HS2_, HS3_⟩ (fun hHeld => ?_); clear hK K; refine norm_ (a' := ?_) ?_ ?_; rotate_left
      ·
       show Act.put _ (some 7) _ = _; simp only [Act.put, zA, zB, zC, i64_w, i32_w]; rfl
      exact norm_ (by simp only [putAll, Act.put, zA, zB, zC]) (hCont (gb443) _ ⟨hHeld, (RQ HO_3.out), (RQ HO_4.out), (RQ HO_5.out), (BQ BK443.out), GW443.out, GE443.out, (BL)⟩)
     ·
      skip
      refine box_step ?hg (N := 7) ?hd (cs := #[.int .i64 0, .int .i64 0, .int .i64 0, .int .i64 0, .int .i64 0, .int .i64 0, .int .i64 0, .int .i64 0, .int .i64 0, .bool false, .int .i64 0]) (t := 46) ?hr ?_; (case hd => rfl); (case hg => rfl); (case hr => first | (go_simp; done) | (go_simp; rfl)); intro gb443 hg w15 hbox hb; have HS0_ := (hb.cell (World.block_lt_of_cell? _ _ (hHeld.1))).trans (hHeld.1); have HS1_ := (hb.cell (World.block_lt_of_cell? _ _ (hHeld.2.1))).trans (hHeld.2.1); have HS2_ := (hb.cell (World.block_lt_of_cell? _ _ (hHeld.2.2.1))).trans (hHeld.2.2.1); have HS3_ := (hb.cell (World.block_lt_of_cell? _ _ (hHeld.2.2.2))).trans (hHeld.2.2.2); have n0_ := Aside0.mk (Kd.R_below (RQ HO_3.out) hb); have n1_ := Aside0.mk (Kd.R_below (RQ HO_4.out) hb); have n2_ := Aside0.mk (Kd.R_below (RQ HO_5.out) hb); have n3_ := Aside0.mk (below_step (BL) hb); have n4_ := Aside0.mk (hbox); have n5_ : Aside0 (w.heap.size ≤ gb443) := GS; have n6_ : Aside0 (w.heap.size ≤ gb443) := GS; clear HO_3; clear HO_4; clear HO_5; clear HB; have HO_3 := n0_; have HO_4 := n1_; have HO_5 := n2_; have HB := n3_; have BK443 := n4_; have GW443 := n5_; have GE443 := n6_; clear n0_ n1_ n2_ n3_ n4_ n5_ n6_; clear hb hbox hg; refine hK.out _ _ ⟨HS0_, HS1_, HS2_, HS3_⟩ (fun hHeld => ?_); clear hK K; refine norm_ (a' := ?_) ?_ ?_; rotate_left
      ·
       show Act.put _ (some 7) _ = _; simp only [Act.put, zA, zB, zC, i64_w, i32_w]; rfl
      refine one_ (i := 12) (N := some 40) (OB 15 16383) rfl rfl (one_of HT_.out (by kernel_rfl)) (by decide) (fun K hK => ?_); refine goes_ Try.func47 (by kernel_rfl) rfl #[.int .i64 2, .int .i64 ((rd_T61 t421 x6_1).f0), .int .i64 ((rd_T61 t421 x6_1).f1), .int .i64 (wrap64 (10 + x6_1))] (by rfl) rfl rfl (MA) ?_
      with_reducible refine (impl_TaskNew.calls 2 ((rd_T61 t421 x6_1).f0) ((rd_T61 t421 x6_1).f1) (wrap64 (10 + x6_1)) t432 t433 t434 t435 t436 t437 t438 t439 t440 t441 t442 _ A12.out).mono ?_
      rintro e w16 ⟨rfl, hb⟩; have HS0_ := (hb.cell (World.block_lt_of_cell? _ _ (hHeld.1))).trans (hHeld.1); have HS1_ := (hb.cell (World.block_lt_of_cell? _ _ (hHeld.2.1))).trans (hHeld.2.1); have HS2_ := (hb.cell (World.block_lt_of_cell? _ _ (hHeld.2.2.1))).trans (hHeld.2.2.1); have HS3_ := (hb.cell (World.block_lt_of_cell? _ _ (hHeld.2.2.2))).trans (hHeld.2.2.2); refine ⟨_, rfl, ?_⟩; have n0_ := Aside0.mk (Kd.R_below (RQ HO_3.out) hb); have n1_ := Aside0.mk (Kd.R_below (RQ HO_4.out) hb); have n2_ := Aside0.mk (Kd.R_below (RQ HO_5.out) hb); have n3_ := BB BK443.out hb; have n4_ := Aside0.mk (below_step (BL) hb); clear HO_3; clear HO_4; clear HO_5; clear BK443; clear HB; have HO_3 := n0_; have HO_4 := n1_; have HO_5 := n2_; have BK443 := n3_; have HB := n4_; clear n0_ n1_ n2_ n3_ n4_
      (try clear hb)
      (try clear hb2)
      (try clear hk)
      (try clear hi)
      refine hK.out _ _ ⟨HS0_, HS1_, HS2_, HS3_⟩ (fun hHeld => ?_); clear hK K; refine norm_ (a' := ?_) ?_ ?_; rotate_left
      ·
       show Act.put _ (some 40) _ = _; simp only [Act.put, zA, zB, zC, i64_w, i32_w]; rfl
      exact norm_ (by simp only [putAll, Act.put, zA, zB, zC]) (hCont (gb443) _ ⟨hHeld, (RQ HO_3.out), (RQ HO_4.out), (RQ HO_5.out), (BQ BK443.out), GW443.out, GE443.out, (BL)⟩)
    rintro gb443 w17 ⟨hS_, h0_, h1_, h2_, h3_, h4_, h5_, h6_⟩; have n0_ : Aside0 (Kd.R k61 61 w17 w.heap.size (fun _ => True) (.slice (some ad430) t421.length co13) t421) := ⟨h0_⟩; have n1_ : Aside0 (Kd.R (Kd.int .i64) 3 w17 w.heap.size (fun k_ => some k_ ≠ (u5 : Value).ownBlock) v425 t424) := ⟨h1_⟩; have n2_ : Aside0 (Kd.R (Kd.int .i64) 3 w17 w.heap.size (fun k_ => some k_ ≠ (v425 : Value).ownBlock) u5 x5_1) := ⟨h2_⟩; have n3_ : Aside0 (w17.heap[gb443]? = some (.cells #[.int .i64 0, .int .i64 0, .int .i64 0, .int .i64 0, .int .i64 0, .int .i64 0, .int .i64 0, .int .i64 0, .int .i64 0, .bool false, .int .i64 0] 46 (0, 0))) := ⟨h3_⟩; have n4_ : Aside0 (w.heap.size ≤ gb443) := ⟨h4_⟩; have n5_ : Aside0 (w.heap.size ≤ gb443) := ⟨h5_⟩; have n6_ : Aside0 (Below w.heap.size w w17) := ⟨h6_⟩; clear HO_3; clear HO_4; clear HO_5; clear HB; clear h0_ h1_ h2_ h3_ h4_ h5_ h6_; have HO_3 := n0_; have HO_4 := n1_; have HO_5 := n2_; have BK443 := n3_; have GW443 := n4_; have GE443 := n5_; have HB := n6_; clear n0_ n1_ n2_ n3_ n4_ n5_ n6_; have hHeld : w17.cell? (ad430.add ((x6_1).toNat * 2)) = some (.int .i64 ((rd_T61 t421 x6_1).f0)) ∧ w17.cell? ⟨(ad430.add ((x6_1).toNat * 2)).block, (ad430.add ((x6_1).toNat * 2)).off + 1, none⟩ = some (.int .i64 ((rd_T61 t421 x6_1).f1)) ∧ w17.cell? (ad430.add ((x6_1).toNat * 2)) = some (.int .i64 ((rd_T61 t421 x6_1).f0)) ∧ w17.cell? ⟨(ad430.add ((x6_1).toNat * 2)).block, (ad430.add ((x6_1).toNat * 2)).off + 1, none⟩ = some (.int .i64 ((rd_T61 t421 x6_1).f1)) := hS_; refine norm_ (a' := ?_) ?_ ?_; rotate_left
    ·
     simp only [putAll, Act.put, zA, zB, zC]; rfl
    refine one_ (i := 14) (N := none) (OB 15 32767) rfl rfl (one_of HT_.out (by kernel_rfl)) (by decide) (fun K hK => ?_); have hs18 : w17.cell? ⟨gb443, 0, none⟩ = some (.int .i64 0) := CZ BK443.out 0; have hfs18 := blk_frozen BK443.out 0; have hs19 : w17.cell? ⟨gb443, 1, none⟩ = some (.int .i64 0) := CZ BK443.out 1; have hfs19 := blk_frozen BK443.out 1; have hs20 : w17.cell? ⟨gb443, 2, none⟩ = some (.int .i64 0) := CZ BK443.out 2; have hfs20 := blk_frozen BK443.out 2; have hs21 : w17.cell? ⟨gb443, 3, none⟩ = some (.int .i64 0) := CZ BK443.out 3; have hfs21 := blk_frozen BK443.out 3; have hs22 : w17.cell? ⟨gb443, 4, none⟩ = some (.int .i64 0) := CZ BK443.out 4; have hfs22 := blk_frozen BK443.out 4; have hs23 : w17.cell? ⟨gb443, 5, none⟩ = some (.int .i64 0) := CZ BK443.out 5; have hfs23 := blk_frozen BK443.out 5; have hs24 : w17.cell? ⟨gb443, 6, none⟩ = some (.int .i64 0) := CZ BK443.out 6; have hfs24 := blk_frozen BK443.out 6; have hs25 : w17.cell? ⟨gb443, 7, none⟩ = some (.int .i64 0) := CZ BK443.out 7; have hfs25 := blk_frozen BK443.out 7; have hs26 : w17.cell? ⟨gb443, 8, none⟩ = some (.int .i64 0) := CZ BK443.out 8; have hfs26 := blk_frozen BK443.out 8; have hs27 : w17.cell? ⟨gb443, 9, none⟩ = some (.bool false) := CZ BK443.out 9; have hfs27 := blk_frozen BK443.out 9; have hs28 : w17.cell? ⟨gb443, 10, none⟩ = some (.int .i64 0) := CZ BK443.out 10; have hfs28 := blk_frozen BK443.out 10; refine skip_ (w1 := ?_) (by rfl) rfl ?_ ?_; rotate_left
    ·
     go_simp
     rfl
    refine hK.out _ _ ?hh_ (fun hHeld => ?_)
    (case hh_ => have h_ := hHeld; (repeat (obtain ⟨h0_, h_⟩ := h_)); (repeat' refine And.intro ?_ ?_) <;> ((repeat (refine cf ((by first | exact Kd.own_blk (Kd.R_ne HO_3.out BK443.out (by decide)) | (rw [add_block]; exact Kd.own_blk (Kd.R_ne HO_3.out BK443.out (by decide))) | (show (Addr.add _ _).block ≠ _; rw [add_block]; exact Kd.own_blk (Kd.R_ne HO_3.out BK443.out (by decide))) | (dsimp only; exact Kd.own_blk (Kd.R_ne HO_3.out BK443.out (by decide))))) ?_)) <;> assumption))
    clear hK K; refine done_ (done_of HT_.out (by kernel_rfl)) ?_
    try go_wp2
    go_loopg [5, 8] k1 (fun kq v5 v8 w' => ∃ (x5_2 : List Int) (x8_2 : Int) (x444000_2 : Int) (x444001_2 : Int) (x444002_2 : Int) (x444003_2 : Int) (x444004_2 : Int) (x444005_2 : Int) (x444006_2 : Int) (x444007_2 : Int) (x444008_2 : Int) (x444009_2 : Bool) (x444010_2 : Int), v8 = .int .i64 x8_2 ∧ Aside0 (laws_FnAlone.l1 kq t421 t424 x5_2 x6_1 x8_2 x444000_2 x444001_2 x444002_2 x444003_2 x444004_2 x444005_2 x444006_2 x444007_2 x444008_2 x444009_2 x444010_2 = some r) ∧ Aside0 (kq ≤ k1) ∧ Aside0 (Kd.R k61 61 w' w.heap.size (fun _ => True) (.slice (some ad430) t421.length co13) t421) ∧ Aside0 (Kd.R (Kd.int .i64) 3 w' w.heap.size (fun k_ => some k_ ≠ (v5 : Value).ownBlock) v425 t424) ∧ Aside0 (Kd.R (Kd.int .i64) 3 w' w.heap.size (fun k_ => some k_ ≠ (v425 : Value).ownBlock) v5 x5_2) ∧ Aside0 (w'.heap[gb443]? = some (.cells #[.int .i64 x444000_2, .int .i64 x444001_2, .int .i64 x444002_2, .int .i64 x444003_2, .int .i64 x444004_2, .int .i64 x444005_2, .int .i64 x444006_2, .int .i64 x444007_2, .int .i64 x444008_2, .bool x444009_2, .int .i64 x444010_2] 46 (0, 0))) ∧ Aside0 (Below w.heap.size w w'))
    case atStart => exact ⟨(x5_1), (0), (t432), (t433), (t434), (t435), (t436), (t437), (t438), (t439), (t440), (t441), (t442), SD, H', ⟨Nat.le_refl _⟩, ⟨RG HO_3.out BK443.out⟩, ⟨RG HO_4.out BK443.out⟩, ⟨RG HO_5.out BK443.out⟩, ⟨BU BK443.out⟩, ⟨BL⟩⟩
    case round =>
     clear H'
     try clear c1 c2 p2 c3 c4 p4 q4 hx4 p6 c10 c10b0 c11 c11b0 c12 c23 c25 hx430_0 hx430_1 hx431_0 hx431_1 p2 p430 p431 q430 q431
     obtain ⟨x5_2, x8_2, x444000_2, x444001_2, x444002_2, x444003_2, x444004_2, x444005_2, x444006_2, x444007_2, x444008_2, x444009_2, x444010_2, rfl, HA, HK2, HO_3, HO_4, HO_5, BK443, HB⟩ := hrel; cases gk with
     | zero => exact absurd HA.out (by simp [laws_FnAlone.l1])
     | succ k2 =>
      have H := HA.out; clear HA; simp only [laws_FnAlone.l1] at H
      by_cases c29 : x8_2 < 60; rotate_left
      ·
       rw [if_neg c29] at H; have c29b0 : decide (x8_2 < 60) = false := decide_eq_false c29; clear c29
       by_cases c38 : x444009_2 = true; rotate_left
       ·
        replace c38 := Bool.eq_false_iff.mpr c38; subst c38
        have H1 : (none) = some r := by rw [if_neg (show ¬ (false = true) by decide)] at H; exact H
        clear H; have H := H1; clear H1; exact absurd H (by simp)
       subst c38
       have H1 : (if x444010_2 = 1 then (laws_FnAlone.l0 k2 t421 t424 x5_2 (wrap64 (x6_1 + 1))) else (none)) = some r := by rw [if_pos rfl] at H; exact H
       clear H; have H := H1; clear H1
       by_cases c39 : x444010_2 = 1; rotate_left
       ·
        rw [if_neg c39] at H; exact absurd H (by simp)
       rw [if_pos c39] at H; have c39b0 : (x444010_2 == 1) = true := beq_iff_eq.mpr c39; have c39b1 : (x444010_2 != 1) = false := bne_eq_false_iff_eq.mpr c39; clear c39; have H' := Aside0.mk H; clear H; have hcz40_0 : wr.cell? ⟨gb443, 0, none⟩ = some (.int .i64 x444000_2) := CZ BK443.out 0; have hcz40_1 : wr.cell? ⟨gb443, 1, none⟩ = some (.int .i64 x444001_2) := CZ BK443.out 1; have hcz40_2 : wr.cell? ⟨gb443, 2, none⟩ = some (.int .i64 x444002_2) := CZ BK443.out 2; have hcz40_3 : wr.cell? ⟨gb443, 3, none⟩ = some (.int .i64 x444003_2) := CZ BK443.out 3; have hcz40_4 : wr.cell? ⟨gb443, 4, none⟩ = some (.int .i64 x444004_2) := CZ BK443.out 4; have hcz40_5 : wr.cell? ⟨gb443, 5, none⟩ = some (.int .i64 x444005_2) := CZ BK443.out 5; have hcz40_6 : wr.cell? ⟨gb443, 6, none⟩ = some (.int .i64 x444006_2) := CZ BK443.out 6; have hcz40_7 : wr.cell? ⟨gb443, 7, none⟩ = some (.int .i64 x444007_2) := CZ BK443.out 7; have hcz40_8 : wr.cell? ⟨gb443, 8, none⟩ = some (.int .i64 x444008_2) := CZ BK443.out 8; have hcz40_9 : wr.cell? ⟨gb443, 9, none⟩ = some (.bool true) := CZ BK443.out 9; have hcz40_10 : wr.cell? ⟨gb443, 10, none⟩ = some (.int .i64 x444010_2) := CZ BK443.out 10; have hfz40_0 := blk_frozen BK443.out 0; have hfz40_1 := blk_frozen BK443.out 1; have hfz40_2 := blk_frozen BK443.out 2; have hfz40_3 := blk_frozen BK443.out 3; have hfz40_4 := blk_frozen BK443.out 4; have hfz40_5 := blk_frozen BK443.out 5; have hfz40_6 := blk_frozen BK443.out 6; have hfz40_7 := blk_frozen BK443.out 7; have hfz40_8 := blk_frozen BK443.out 8; have hfz40_9 := blk_frozen BK443.out 9; have hfz40_10 := blk_frozen BK443.out 10
       go_wp2
       go_roundg k2
       case measure => have := HK1.out; have := HK2.out; omega
       case rel => exact ⟨(x5_2), (wrap64 (x6_1 + 1)), SD, H', ⟨by have := HK1.out; have := HK2.out; omega⟩, ⟨RQ HO_3.out⟩, ⟨RQ HO_4.out⟩, ⟨RQ HO_5.out⟩, ⟨BL⟩⟩
      rw [if_pos c29] at H; have c29b0 : decide (x8_2 < 60) = true := decide_eq_true c29; clear c29
      by_cases c30 : x444009_2 = true
      ·
       subst c30
       have H1 : (if x444010_2 = 1 then (laws_FnAlone.l0 k2 t421 t424 x5_2 (wrap64 (x6_1 + 1))) else (none)) = some r := by rw [if_pos rfl] at H; exact H
       clear H; have H := H1; clear H1
       by_cases c31 : x444010_2 = 1; rotate_left
       ·
        rw [if_neg c31] at H; exact absurd H (by simp)
       rw [if_pos c31] at H; have c31b0 : (x444010_2 == 1) = true := beq_iff_eq.mpr c31; have c31b1 : (x444010_2 != 1) = false := bne_eq_false_iff_eq.mpr c31; clear c31; have H' := Aside0.mk H; clear H; have hcz32_0 : wr.cell? ⟨gb443, 0, none⟩ = some (.int .i64 x444000_2) := CZ BK443.out 0; have hcz32_1 : wr.cell? ⟨gb443, 1, none⟩ = some (.int .i64 x444001_2) := CZ BK443.out 1; have hcz32_2 : wr.cell? ⟨gb443, 2, none⟩ = some (.int .i64 x444002_2) := CZ BK443.out 2; have hcz32_3 : wr.cell? ⟨gb443, 3, none⟩ = some (.int .i64 x444003_2) := CZ BK443.out 3; have hcz32_4 : wr.cell? ⟨gb443, 4, none⟩ = some (.int .i64 x444004_2) := CZ BK443.out 4; have hcz32_5 : wr.cell? ⟨gb443, 5, none⟩ = some (.int .i64 x444005_2) := CZ BK443.out 5; have hcz32_6 : wr.cell? ⟨gb443, 6, none⟩ = some (.int .i64 x444006_2) := CZ BK443.out 6; have hcz32_7 : wr.cell? ⟨gb443, 7, none⟩ = some (.int .i64 x444007_2) := CZ BK443.out 7; have hcz32_8 : wr.cell? ⟨gb443, 8, none⟩ = some (.int .i64 x444008_2) := CZ BK443.out 8; have hcz32_9 : wr.cell? ⟨gb443, 9, none⟩ = some (.bool true) := CZ BK443.out 9; have hcz32_10 : wr.cell? ⟨gb443, 10, none⟩ = some (.int .i64 x444010_2) := CZ BK443.out 10; have hfz32_0 := blk_frozen BK443.out 0; have hfz32_1 := blk_frozen BK443.out 1; have hfz32_2 := blk_frozen BK443.out 2; have hfz32_3 := blk_frozen BK443.out 3; have hfz32_4 := blk_frozen BK443.out 4; have hfz32_5 := blk_frozen BK443.out 5; have hfz32_6 := blk_frozen BK443.out 6; have hfz32_7 := blk_frozen BK443.out 7; have hfz32_8 := blk_frozen BK443.out 8; have hfz32_9 := blk_frozen BK443.out 9; have hfz32_10 := blk_frozen BK443.out 10
       go_wp2
       go_roundg k2
       case measure => have := HK1.out; have := HK2.out; omega
       case rel => exact ⟨(x5_2), (wrap64 (x6_1 + 1)), SD, H', ⟨by have := HK1.out; have := HK2.out; omega⟩, ⟨RQ HO_3.out⟩, ⟨RQ HO_4.out⟩, ⟨RQ HO_5.out⟩, ⟨BL⟩⟩
      replace c30 := Bool.eq_false_iff.mpr c30; subst c30
      have H1 : ((impl_StepTask.f k2 x5_2 x444000_2 x444001_2 x444002_2 x444003_2 x444004_2 x444005_2 x444006_2 x444007_2 x444008_2 false x444010_2).bind fun bt444 => (laws_FnAlone.l1 k2 t421 t424 bt444.1 x6_1 (wrap64 (x8_2 + 1)) bt444.2.1 bt444.2.2.1 bt444.2.2.2.1 bt444.2.2.2.2.1 bt444.2.2.2.2.2.1 bt444.2.2.2.2.2.2.1 bt444.2.2.2.2.2.2.2.1 bt444.2.2.2.2.2.2.2.2.1 bt444.2.2.2.2.2.2.2.2.2.1 bt444.2.2.2.2.2.2.2.2.2.2.1 bt444.2.2.2.2.2.2.2.2.2.2.2)) = some r := by rw [if_neg (show ¬ (false = true) by decide)] at H; exact H
      clear H; have H := H1; clear H1; replace H := Option.bind_eq_some_iff.mp H; obtain ⟨⟨t444, t447, t448, t449, t450, t451, t452, t453, t454, t455, t456, t457⟩, A330, H⟩ := H; replace H : (laws_FnAlone.l1 k2 t421 t424 t444 x6_1 (wrap64 (x8_2 + 1)) t447 t448 t449 t450 t451 t452 t453 t454 t455 t456 t457) = some r := H; have A33 := Aside0.mk A330; clear A330; have H' := Aside0.mk H; clear H; have hcz34_0 : wr.cell? ⟨gb443, 0, none⟩ = some (.int .i64 x444000_2) := CZ BK443.out 0; have hcz34_1 : wr.cell? ⟨gb443, 1, none⟩ = some (.int .i64 x444001_2) := CZ BK443.out 1; have hcz34_2 : wr.cell? ⟨gb443, 2, none⟩ = some (.int .i64 x444002_2) := CZ BK443.out 2; have hcz34_3 : wr.cell? ⟨gb443, 3, none⟩ = some (.int .i64 x444003_2) := CZ BK443.out 3; have hcz34_4 : wr.cell? ⟨gb443, 4, none⟩ = some (.int .i64 x444004_2) := CZ BK443.out 4; have hcz34_5 : wr.cell? ⟨gb443, 5, none⟩ = some (.int .i64 x444005_2) := CZ BK443.out 5; have hcz34_6 : wr.cell? ⟨gb443, 6, none⟩ = some (.int .i64 x444006_2) := CZ BK443.out 6; have hcz34_7 : wr.cell? ⟨gb443, 7, none⟩ = some (.int .i64 x444007_2) := CZ BK443.out 7; have hcz34_8 : wr.cell? ⟨gb443, 8, none⟩ = some (.int .i64 x444008_2) := CZ BK443.out 8; have hcz34_9 : wr.cell? ⟨gb443, 9, none⟩ = some (.bool false) := CZ BK443.out 9; have hcz34_10 : wr.cell? ⟨gb443, 10, none⟩ = some (.int .i64 x444010_2) := CZ BK443.out 10; have hfz34_0 := blk_frozen BK443.out 0; have hfz34_1 := blk_frozen BK443.out 1; have hfz34_2 := blk_frozen BK443.out 2; have hfz34_3 := blk_frozen BK443.out 3; have hfz34_4 := blk_frozen BK443.out 4; have hfz34_5 := blk_frozen BK443.out 5; have hfz34_6 := blk_frozen BK443.out 6; have hfz34_7 := blk_frozen BK443.out 7; have hfz34_8 := blk_frozen BK443.out 8; have hfz34_9 := blk_frozen BK443.out 9; have hfz34_10 := blk_frozen BK443.out 10; obtain ⟨Ao35, co35, eo35⟩ := Kd.R_slice HO_5.out; subst eo35
      go_wp2_with (first | ((with_reducible refine gate_callee (f := 39) rfl ?_); refine goesL_ (some 53) rfl rfl Try.func39 (by kernel_rfl) rfl #[.slice Ao35 x5_2.length co35, .agg #[.int .i64 x444000_2, .int .i64 x444001_2, .int .i64 x444002_2, .int .i64 x444003_2, .int .i64 x444004_2, .int .i64 x444005_2, .int .i64 x444006_2, .int .i64 x444007_2, .int .i64 x444008_2, .bool false, .int .i64 x444010_2]] rfl (MA) ?_; (with_reducible refine (impl_StepTask.calls k2 _ _ x5_2 x444000_2 x444001_2 x444002_2 x444003_2 x444004_2 x444005_2 x444006_2 x444007_2 x444008_2 false x444010_2 t444 t447 t448 t449 t450 t451 t452 t453 t454 t455 t456 t457 _ ?side1 ?side2 A33.out).mono ?_); (case side1 => repeat (first | exact (Kd.R_reads' HO_5.out).2.2 | (with_reducible refine Kd.C_alloc ?_ _) | (with_reducible refine Kd.C_drewN ?_ _) | (with_reducible refine Kd.C_drew ?_))); (case side2 => exact (Kd.R_reads' HO_5.out).2.1); rintro e w36 ⟨v445, rfl, ho0, hb⟩; refine ⟨_, rfl, ?_⟩; have HO446 := Aside0.mk (Kd.R_lower (Kd.R_new' (Kd.R_new' ho0 (Kd.R_lt (RQ HO_4.out))) (Kd.R_lt (RQ HO_5.out))) (below_size (BL))); replace HO_3 := Aside0.mk (Kd.R_below (RQ HO_3.out) hb); replace HO_4 := Aside0.mk (Kd.R_elder' (RQ HO_4.out) (Kd.R_base ho0) hb); replace HO_5 := Aside0.mk (Kd.R_elder' (RQ HO_5.out) (Kd.R_base ho0) hb); replace BK443 := BB BK443.out hb; replace HB := Aside0.mk (below_step (BL) hb); (try clear hb); (try clear hb2); (try clear hk); (try clear hi); (try clear ho0); have hcz37_0 : w36.cell? ⟨gb443, 0, none⟩ = some (.int .i64 x444000_2) := CZ BK443.out 0; have hcz37_1 : w36.cell? ⟨gb443, 1, none⟩ = some (.int .i64 x444001_2) := CZ BK443.out 1; have hcz37_2 : w36.cell? ⟨gb443, 2, none⟩ = some (.int .i64 x444002_2) := CZ BK443.out 2; have hcz37_3 : w36.cell? ⟨gb443, 3, none⟩ = some (.int .i64 x444003_2) := CZ BK443.out 3; have hcz37_4 : w36.cell? ⟨gb443, 4, none⟩ = some (.int .i64 x444004_2) := CZ BK443.out 4; have hcz37_5 : w36.cell? ⟨gb443, 5, none⟩ = some (.int .i64 x444005_2) := CZ BK443.out 5; have hcz37_6 : w36.cell? ⟨gb443, 6, none⟩ = some (.int .i64 x444006_2) := CZ BK443.out 6; have hcz37_7 : w36.cell? ⟨gb443, 7, none⟩ = some (.int .i64 x444007_2) := CZ BK443.out 7; have hcz37_8 : w36.cell? ⟨gb443, 8, none⟩ = some (.int .i64 x444008_2) := CZ BK443.out 8; have hcz37_9 : w36.cell? ⟨gb443, 9, none⟩ = some (.bool false) := CZ BK443.out 9; have hcz37_10 : w36.cell? ⟨gb443, 10, none⟩ = some (.int .i64 x444010_2) := CZ BK443.out 10; have hfz37_0 := blk_frozen BK443.out 0; have hfz37_1 := blk_frozen BK443.out 1; have hfz37_2 := blk_frozen BK443.out 2; have hfz37_3 := blk_frozen BK443.out 3; have hfz37_4 := blk_frozen BK443.out 4; have hfz37_5 := blk_frozen BK443.out 5; have hfz37_6 := blk_frozen BK443.out 6; have hfz37_7 := blk_frozen BK443.out 7; have hfz37_8 := blk_frozen BK443.out 8; have hfz37_9 := blk_frozen BK443.out 9; have hfz37_10 := blk_frozen BK443.out 10))
      go_roundg k2
      case measure => have := HK1.out; have := HK2.out; omega
      case rel => exact ⟨(t444), (wrap64 (x8_2 + 1)), (t447), (t448), (t449), (t450), (t451), (t452), (t453), (t454), (t455), (t456), (t457), SD, H', ⟨by have := HK1.out; have := HK2.out; omega⟩, ⟨RG HO_3.out BK443.out⟩, ⟨by (with_reducible repeat (first | apply r1 | apply r2 | apply r3)); exact Kd.R_mono (Kd.R_far (p := ⟨gb443, 10, none⟩) (Kd.R_far (p := ⟨gb443, 9, none⟩) (Kd.R_far (p := ⟨gb443, 8, none⟩) (Kd.R_far (p := ⟨gb443, 7, none⟩) (Kd.R_far (p := ⟨gb443, 6, none⟩) (Kd.R_far (p := ⟨gb443, 5, none⟩) (Kd.R_far (p := ⟨gb443, 4, none⟩) (Kd.R_far (p := ⟨gb443, 3, none⟩) (Kd.R_far (p := ⟨gb443, 2, none⟩) (Kd.R_far (p := ⟨gb443, 1, none⟩) (Kd.R_far (p := ⟨gb443, 0, none⟩) (Kd.R_types HO_4.out BK443.out (by decide)) (fun _ hk => hk.2) (.int .i64 t447)) (fun _ hk => hk.2) (.int .i64 t448)) (fun _ hk => hk.2) (.int .i64 t449)) (fun _ hk => hk.2) (.int .i64 t450)) (fun _ hk => hk.2) (.int .i64 t451)) (fun _ hk => hk.2) (.int .i64 t452)) (fun _ hk => hk.2) (.int .i64 t453)) (fun _ hk => hk.2) (.int .i64 t454)) (fun _ hk => hk.2) (.int .i64 t455)) (fun _ hk => hk.2) (.bool t456)) (fun _ hk => hk.2) (.int .i64 t457)) (fun _ hk => hk.1.2)⟩, ⟨by (with_reducible repeat (first | apply r1 | apply r2 | apply r3)); exact Kd.R_mono (Kd.R_far (p := ⟨gb443, 10, none⟩) (Kd.R_far (p := ⟨gb443, 9, none⟩) (Kd.R_far (p := ⟨gb443, 8, none⟩) (Kd.R_far (p := ⟨gb443, 7, none⟩) (Kd.R_far (p := ⟨gb443, 6, none⟩) (Kd.R_far (p := ⟨gb443, 5, none⟩) (Kd.R_far (p := ⟨gb443, 4, none⟩) (Kd.R_far (p := ⟨gb443, 3, none⟩) (Kd.R_far (p := ⟨gb443, 2, none⟩) (Kd.R_far (p := ⟨gb443, 1, none⟩) (Kd.R_far (p := ⟨gb443, 0, none⟩) (Kd.R_types HO446.out BK443.out (by decide)) (fun _ hk => hk.2) (.int .i64 t447)) (fun _ hk => hk.2) (.int .i64 t448)) (fun _ hk => hk.2) (.int .i64 t449)) (fun _ hk => hk.2) (.int .i64 t450)) (fun _ hk => hk.2) (.int .i64 t451)) (fun _ hk => hk.2) (.int .i64 t452)) (fun _ hk => hk.2) (.int .i64 t453)) (fun _ hk => hk.2) (.int .i64 t454)) (fun _ hk => hk.2) (.int .i64 t455)) (fun _ hk => hk.2) (.bool t456)) (fun _ hk => hk.2) (.int .i64 t457)) (fun _ hk => hk.1.1.2)⟩, ⟨BU BK443.out⟩, ⟨BL⟩⟩
   rw [if_neg c10] at H; have c10b0 : decide (x6_1 < (t421.length : Int)) = false := decide_eq_false c10; clear c10
   by_cases c41 : 0 < (t424.length : Int); rotate_left
   ·
    rw [if_neg c41] at H; exact absurd H (by simp)
   rw [if_pos c41] at H; have c41b0 : decide (0 < (t424.length : Int)) = true := decide_eq_true c41; have c41b1 : decide (0 < t424.length) = true := decide_eq_true (by omega); clear c41
   by_cases c42 : 1 < (t424.length : Int); rotate_left
   ·
    rw [if_neg c42] at H; exact absurd H (by simp)
   rw [if_pos c42] at H; have c42b0 : decide (1 < (t424.length : Int)) = true := decide_eq_true c42; have c42b1 : decide (1 < t424.length) = true := decide_eq_true (by omega); clear c42
   by_cases c43 : 2 < (t424.length : Int); rotate_left
   ·
    rw [if_neg c43] at H; exact absurd H (by simp)
   rw [if_pos c43] at H; have c43b0 : decide (2 < (t424.length : Int)) = true := decide_eq_true c43; have c43b1 : decide (2 < t424.length) = true := decide_eq_true (by omega); clear c43; replace H := Option.bind_eq_some_iff.mp H; obtain ⟨⟨t461, t462, t463, t464, t465, t466, t467, t468, t469, t470, t471⟩, A440, H⟩ := H; replace H : ((spec_DoTask.f k1 t421 t461 t462 t463 t464 t465 t466 t467 t468 t469 t470 t471).bind fun bt473 => (laws_FnAlone.l2 k1 x5_1 bt473.1 bt473.2 0 t461 t462 t463 t464 t465 t466 t467 t468 t469 t470 t471)) = some r := H; have A44 := Aside0.mk A440; clear A440; replace H := Option.bind_eq_some_iff.mp H; obtain ⟨⟨t473, t476⟩, A450, H⟩ := H; replace H : (laws_FnAlone.l2 k1 x5_1 t473 t476 0 t461 t462 t463 t464 t465 t466 t467 t468 t469 t470 t471) = some r := H; have A45 := Aside0.mk A450; clear A450; have HC46 := Aside0.mk H; clear H; obtain ⟨Ao47, co47, eo47⟩ := Kd.R_slice HO_3.out; subst eo47
   try go_wp2
   have n0_ := Aside0.mk (Kd.R_drew HO_3.out); have n1_ := Aside0.mk (Kd.R_drew HO_4.out); have n2_ := Aside0.mk (Kd.R_drew HO_5.out); have n3_ := Aside0.mk (below_drew1 HB.out); clear HO_3; clear HO_4; clear HO_5; clear HB; have HO_3 := n0_; have HO_4 := n1_; have HO_5 := n2_; have HB := n3_; clear n0_ n1_ n2_ n3_; obtain ⟨Ao49, co49, eo49⟩ := Kd.R_slice HO_4.out
   (first | subst eo49 | (injection eo49 with f1_ f2_ f3_; have f4_ := f1_.symm; have f5_ := f3_.symm; clear f1_ f2_ f3_; subst f4_; subst f5_))
   have p458 : 0 ≤ (0 : Int) := (by omega); have q458 : 0 < (t424.length : Int) := of_decide_eq_true AS; obtain ⟨ad458, e458, hx458_0⟩ := Kd.at_int (Kd.R_reads' HO_4.out).2.2 0 p458 q458; cases e458; have qi458 : (0 < t424.length) = True := eq_true (by omega)
   (try rw [show ((0 : Int)).toNat = 0 from rfl] at hx458_0)
   (try rw [Addr.add_zero'] at hx458_0)
   replace p458 := eq_true p458; replace q458 := eq_true q458; have p459 : 0 ≤ (1 : Int) := (by omega); have q459 : 1 < (t424.length : Int) := of_decide_eq_true AS; obtain ⟨ad459, e459, hx459_0⟩ := Kd.at_int (Kd.R_reads' HO_4.out).2.2 1 p459 q459; obtain rfl : ad458 = ad459 := (by injection e459)
   (try simp only [show (1 : Int).toNat = 1 from rfl, Nat.reduceMul, Nat.reduceEqDiff, Go.Addr.add, ↓reduceIte] at hx459_0)
   have qi459 : (1 < t424.length) = True := eq_true (by omega)
   (try rw [show ((1 : Int)).toNat = 1 from rfl] at hx459_0)
   replace p459 := eq_true p459; replace q459 := eq_true q459; have p460 : 0 ≤ (2 : Int) := (by omega); have q460 : 2 < (t424.length : Int) := of_decide_eq_true AS; obtain ⟨ad460, e460, hx460_0⟩ := Kd.at_int (Kd.R_reads' HO_4.out).2.2 2 p460 q460; obtain rfl : ad458 = ad460 := (by injection e460)
   (try simp only [show (2 : Int).toNat = 2 from rfl, Nat.reduceMul, Nat.reduceEqDiff, Go.Addr.add, ↓reduceIte] at hx460_0)
   have qi460 : (2 < t424.length) = True := eq_true (by omega)
   (try rw [show ((2 : Int)).toNat = 2 from rfl] at hx460_0)
   replace p460 := eq_true p460; replace q460 := eq_true q460; refine start_ (n := 17) (S := fun w' => w'.cell? ad458 = some (.int .i64 (rd t424 0)) ∧ w'.cell? ⟨ad458.block, ad458.off + 1, none⟩ = some (.int .i64 (rd t424 1)) ∧ w'.cell? ⟨ad458.block, ad458.off + 2, none⟩ = some (.int .i64 (rd t424 2))) (ds := []) #[false, false, false, false, false, false, false, false, false, false, false, false, false, false, false, false, false] (by kernel_rfl) rfl rfl ⟨hx458_0, hx459_0, hx460_0⟩ (fun hHeld => ?_); refine with_tabW laws_FnAlone.tab16 laws_FnAlone.bits16 (fun HT_ HW_ => ?_); generalize wr.drew = w48 at HO_3 HO_4 HO_5 HB hx458_0 hx459_0 hx460_0 hHeld ⊢; refine pV 0 64 (OB 17 1) ?_; refine pV 1 65 (OB 17 3) ?_; refine pV 5 69 (OB 17 35) ?_; refine pV 6 70 (OB 17 99) ?_; refine pV 10 74 (OB 17 1123) ?_; refine pV 11 75 (OB 17 3171) ?_; refine take_ (i := 2) (N := some 66) (v := ?_) (a' := ?_) (OB 17 3175) rfl rfl (take_ofW HT_.out HW_.out (by kernel_rfl)) (fun _ _ _ h => h) (Or.inl ⟨by rfl, ?_⟩) hHeld ?_ ?_; rotate_left
   ·
    rintro w' ⟨s0, s1, s2⟩
    go_simp
    with_reducible rfl
   rotate_left
   ·
    simp only [Act.put, zA, zB, zC, i64_w, i32_w]; rfl
   refine pV 3 67 (OB 17 3183) ?_; refine pV 4 68 (OB 17 3199) ?_; refine take_ (i := 7) (N := some 71) (v := ?_) (a' := ?_) (OB 17 3327) rfl rfl (take_ofW HT_.out HW_.out (by kernel_rfl)) (fun _ _ _ h => h) (Or.inl ⟨by rfl, ?_⟩) hHeld ?_ ?_; rotate_left
   ·
    rintro w' ⟨s0, s1, s2⟩
    go_simp
    with_reducible rfl
   rotate_left
   ·
    simp only [Act.put, zA, zB, zC, i64_w, i32_w]; rfl
   refine pV 8 72 (OB 17 3583) ?_; refine pV 9 73 (OB 17 4095) ?_; refine take_ (i := 12) (N := some 76) (v := ?_) (a' := ?_) (OB 17 8191) rfl rfl (take_ofW HT_.out HW_.out (by kernel_rfl)) (fun _ _ _ h => h) (Or.inl ⟨by rfl, ?_⟩) hHeld ?_ ?_; rotate_left
   ·
    rintro w' ⟨s0, s1, s2⟩
    go_simp
    with_reducible rfl
   rotate_left
   ·
    simp only [Act.put, zA, zB, zC, i64_w, i32_w]; rfl
   refine pV 13 77 (OB 17 16383) ?_; refine join_ (σ := Nat) 1 #[true, true, true, true, true, true, true, true, true, true, true, true, true, true, true, true, false] (fun s_ => [(78, .agg #[.int .i64 t461, .int .i64 t462, .int .i64 t463, .int .i64 t464, .int .i64 t465, .int .i64 t466, .int .i64 t467, .int .i64 t468, .int .i64 t469, .bool t470, .int .i64 t471]), (9, .pointer (some ⟨s_, 0, none⟩))]) (fun s_ w' => (w'.cell? ad458 = some (.int .i64 (rd t424 0)) ∧ w'.cell? ⟨ad458.block, ad458.off + 1, none⟩ = some (.int .i64 (rd t424 1)) ∧ w'.cell? ⟨ad458.block, ad458.off + 2, none⟩ = some (.int .i64 (rd t424 2))) ∧ (Kd.R k61 61 w' w.heap.size (fun _ => True) (.slice Ao47 t421.length co47) t421) ∧ (Kd.R (Kd.int .i64) 3 w' w.heap.size (fun k_ => some k_ ≠ (u5 : Value).ownBlock) (.slice (some ad458) t424.length co49) t424) ∧ (Kd.R (Kd.int .i64) 3 w' w.heap.size (fun k_ => some k_ ≠ (.slice (some ad458) t424.length co49 : Value).ownBlock) u5 x5_1) ∧ (w'.heap[s_]? = some (.cells #[.int .i64 0, .int .i64 0, .int .i64 0, .int .i64 0, .int .i64 0, .int .i64 0, .int .i64 0, .int .i64 0, .int .i64 0, .bool false, .int .i64 0] 46 (0, 0))) ∧ (w.heap.size ≤ s_) ∧ (w.heap.size ≤ s_) ∧ (Below w.heap.size w w')) ?_ ?_; rotate_left
   ·
    intro hCont; refine two_ (i := 14) (j := 15) (Ni := some 78) (Nj := some 9) #[true, true, true, true, true, true, true, true, true, true, true, true, true, true, true, false, false] #[true, true, true, true, true, true, true, true, true, true, true, true, true, true, false, true, false] rfl rfl rfl rfl (two_of HT_.out (by kernel_rfl)) (by decide) (by decide) (fun K hK => ?_) (fun K hK => ?_)
    ·
     skip
     refine goes_ Try.func47 (by kernel_rfl) rfl #[.int .i64 (wrap64 (1 + (Int.tmod (rd t424 0) 3))), .int .i64 (wrap64 (1 + (Int.tmod (rd t424 1) 7))), .int .i64 (Int.tmod (rd t424 2) 50), .int .i64 1] (by rfl) rfl rfl (MA) ?_
     with_reducible refine (impl_TaskNew.calls (wrap64 (1 + (Int.tmod (rd t424 0) 3))) (wrap64 (1 + (Int.tmod (rd t424 1) 7))) (Int.tmod (rd t424 2) 50) 1 t461 t462 t463 t464 t465 t466 t467 t468 t469 t470 t471 _ A44.out).mono ?_
     rintro e w50 ⟨rfl, hb⟩; have HS0_ := (hb.cell (World.block_lt_of_cell? _ _ (hHeld.1))).trans (hHeld.1); have HS1_ := (hb.cell (World.block_lt_of_cell? _ _ (hHeld.2.1))).trans (hHeld.2.1); have HS2_ := (hb.cell (World.block_lt_of_cell? _ _ (hHeld.2.2))).trans (hHeld.2.2); refine ⟨_, rfl, ?_⟩; have n0_ := Aside0.mk (Kd.R_below (RQ HO_3.out) hb); have n1_ := Aside0.mk (Kd.R_below (RQ HO_4.out) hb); have n2_ := Aside0.mk (Kd.R_below (RQ HO_5.out) hb); have n3_ := Aside0.mk (below_step (BL) hb); clear HO_3; clear HO_4; clear HO_5; clear HB; have HO_3 := n0_; have HO_4 := n1_; have HO_5 := n2_; have HB := n3_; clear n0_ n1_ n2_ n3_
     (try clear hb)
     (try clear hb2)
     (try clear hk)
     (try clear hi)
     refine hK.out _ _ ⟨HS0_, HS1_, HS2_⟩ (fun hHeld => ?_); clear hK K; refine norm_ (a' := ?_) ?_ ?_; rotate_left
     ·
      show Act.put _ (some 78) _ = _; simp only [Act.put, zA, zB, zC, i64_w, i32_w]; rfl
     refine one_ (i := 15) (N := some 9) (OB 17 65535) rfl rfl (one_of HT_.out (by kernel_rfl)) (by decide) (fun K hK => ?_); refine box_step ?hg (N := 9) ?hd (cs := #[.int .i64 0, .int .i64 0, .int .i64 0, .int .i64 0, .int .i64 0, .int .i64 0, .int .i64 0, .int .i64 0, .int .i64 0, .bool false, .int .i64 0]) (t := 46) ?hr ?_; (case hd => rfl); (case hg => rfl); (case hr => first | (go_simp; done) | (go_simp; rfl)); intro gb472 hg w51 hbox hb; have HS0_ := (hb.cell (World.block_lt_of_cell? _ _ (hHeld.1))).trans (hHeld.1); have HS1_ := (hb.cell (World.block_lt_of_cell? _ _ (hHeld.2.1))).trans (hHeld.2.1); have HS2_ := (hb.cell (World.block_lt_of_cell? _ _ (hHeld.2.2))).trans (hHeld.2.2); have n0_ := Aside0.mk (Kd.R_below (RQ HO_3.out) hb); have n1_ := Aside0.mk (Kd.R_below (RQ HO_4.out) hb); have n2_ := Aside0.mk (Kd.R_below (RQ HO_5.out) hb); have n3_ := Aside0.mk (below_step (BL) hb); have n4_ := Aside0.mk (hbox); have n5_ : Aside0 (w.heap.size ≤ gb472) := GS; have n6_ : Aside0 (w.heap.size ≤ gb472) := GS; clear HO_3; clear HO_4; clear HO_5; clear HB; have HO_3 := n0_; have HO_4 := n1_; have HO_5 := n2_; have HB := n3_; have BK472 := n4_; have GW472 := n5_; have GE472 := n6_; clear n0_ n1_ n2_ n3_ n4_ n5_ n6_; clear hb hbox hg; refine hK.out _ _ ⟨HS0_, HS1_, HS2_⟩ (fun hHeld => ?_); clear hK K; refine norm_ (a' := ?_) ?_ ?_; rotate_left
     ·
      show Act.put _ (some 9) _ = _; simp only [Act.put, zA, zB, zC, i64_w, i32_w]; rfl
     exact norm_ (by simp only [putAll, Act.put, zA, zB, zC]) (hCont (gb472) _ ⟨hHeld, (RQ HO_3.out), (RQ HO_4.out), (RQ HO_5.out), (BQ BK472.out), GW472.out, GE472.out, (BL)⟩)
    ·
     skip
     refine box_step ?hg (N := 9) ?hd (cs := #[.int .i64 0, .int .i64 0, .int .i64 0, .int .i64 0, .int .i64 0, .int .i64 0, .int .i64 0, .int .i64 0, .int .i64 0, .bool false, .int .i64 0]) (t := 46) ?hr ?_; (case hd => rfl); (case hg => rfl); (case hr => first | (go_simp; done) | (go_simp; rfl)); intro gb472 hg w50 hbox hb; have HS0_ := (hb.cell (World.block_lt_of_cell? _ _ (hHeld.1))).trans (hHeld.1); have HS1_ := (hb.cell (World.block_lt_of_cell? _ _ (hHeld.2.1))).trans (hHeld.2.1); have HS2_ := (hb.cell (World.block_lt_of_cell? _ _ (hHeld.2.2))).trans (hHeld.2.2); have n0_ := Aside0.mk (Kd.R_below (RQ HO_3.out) hb); have n1_ := Aside0.mk (Kd.R_below (RQ HO_4.out) hb); have n2_ := Aside0.mk (Kd.R_below (RQ HO_5.out) hb); have n3_ := Aside0.mk (below_step (BL) hb); have n4_ := Aside0.mk (hbox); have n5_ : Aside0 (w.heap.size ≤ gb472) := GS; have n6_ : Aside0 (w.heap.size ≤ gb472) := GS; clear HO_3; clear HO_4; clear HO_5; clear HB; have HO_3 := n0_; have HO_4 := n1_; have HO_5 := n2_; have HB := n3_; have BK472 := n4_; have GW472 := n5_; have GE472 := n6_; clear n0_ n1_ n2_ n3_ n4_ n5_ n6_; clear hb hbox hg; refine hK.out _ _ ⟨HS0_, HS1_, HS2_⟩ (fun hHeld => ?_); clear hK K; refine norm_ (a' := ?_) ?_ ?_; rotate_left
     ·
      show Act.put _ (some 9) _ = _; simp only [Act.put, zA, zB, zC, i64_w, i32_w]; rfl
     refine one_ (i := 14) (N := some 78) (OB 17 65535) rfl rfl (one_of HT_.out (by kernel_rfl)) (by decide) (fun K hK => ?_); refine goes_ Try.func47 (by kernel_rfl) rfl #[.int .i64 (wrap64 (1 + (Int.tmod (rd t424 0) 3))), .int .i64 (wrap64 (1 + (Int.tmod (rd t424 1) 7))), .int .i64 (Int.tmod (rd t424 2) 50), .int .i64 1] (by rfl) rfl rfl (MA) ?_
     with_reducible refine (impl_TaskNew.calls (wrap64 (1 + (Int.tmod (rd t424 0) 3))) (wrap64 (1 + (Int.tmod (rd t424 1) 7))) (Int.tmod (rd t424 2) 50) 1 t461 t462 t463 t464 t465 t466 t467 t468 t469 t470 t471 _ A44.out).mono ?_
     rintro e w51 ⟨rfl, hb⟩; have HS0_ := (hb.cell (World.block_lt_of_cell? _ _ (hHeld.1))).trans (hHeld.1); have HS1_ := (hb.cell (World.block_lt_of_cell? _ _ (hHeld.2.1))).trans (hHeld.2.1); have HS2_ := (hb.cell (World.block_lt_of_cell? _ _ (hHeld.2.2))).trans (hHeld.2.2); refine ⟨_, rfl, ?_⟩; have n0_ := Aside0.mk (Kd.R_below (RQ HO_3.out) hb); have n1_ := Aside0.mk (Kd.R_below (RQ HO_4.out) hb); have n2_ := Aside0.mk (Kd.R_below (RQ HO_5.out) hb); have n3_ := BB BK472.out hb; have n4_ := Aside0.mk (below_step (BL) hb); clear HO_3; clear HO_4; clear HO_5; clear BK472; clear HB; have HO_3 := n0_; have HO_4 := n1_; have HO_5 := n2_; have BK472 := n3_; have HB := n4_; clear n0_ n1_ n2_ n3_ n4_
     (try clear hb)
     (try clear hb2)
     (try clear hk)
     (try clear hi)
     refine hK.out _ _ ⟨HS0_, HS1_, HS2_⟩ (fun hHeld => ?_); clear hK K; refine norm_ (a' := ?_) ?_ ?_; rotate_left
     ·
      show Act.put _ (some 78) _ = _; simp only [Act.put, zA, zB, zC, i64_w, i32_w]; rfl
     exact norm_ (by simp only [putAll, Act.put, zA, zB, zC]) (hCont (gb472) _ ⟨hHeld, (RQ HO_3.out), (RQ HO_4.out), (RQ HO_5.out), (BQ BK472.out), GW472.out, GE472.out, (BL)⟩)
   rintro gb472 w52 ⟨hS_, h0_, h1_, h2_, h3_, h4_, h5_, h6_⟩; have n0_ : Aside0 (Kd.R k61 61 w52 w.heap.size (fun _ => True) (.slice Ao47 t421.length co47) t421) := ⟨h0_⟩; have n1_ : Aside0 (Kd.R (Kd.int .i64) 3 w52 w.heap.size (fun k_ => some k_ ≠ (u5 : Value).ownBlock) (.slice (some ad458) t424.length co49) t424) := ⟨h1_⟩; have n2_ : Aside0 (Kd.R (Kd.int .i64) 3 w52 w.heap.size (fun k_ => some k_ ≠ (.slice (some ad458) t424.length co49 : Value).ownBlock) u5 x5_1) := ⟨h2_⟩; have n3_ : Aside0 (w52.heap[gb472]? = some (.cells #[.int .i64 0, .int .i64 0, .int .i64 0, .int .i64 0, .int .i64 0, .int .i64 0, .int .i64 0, .int .i64 0, .int .i64 0, .bool false, .int .i64 0] 46 (0, 0))) := ⟨h3_⟩; have n4_ : Aside0 (w.heap.size ≤ gb472) := ⟨h4_⟩; have n5_ : Aside0 (w.heap.size ≤ gb472) := ⟨h5_⟩; have n6_ : Aside0 (Below w.heap.size w w52) := ⟨h6_⟩; clear HO_3; clear HO_4; clear HO_5; clear HB; clear h0_ h1_ h2_ h3_ h4_ h5_ h6_; have HO_3 := n0_; have HO_4 := n1_; have HO_5 := n2_; have BK472 := n3_; have GW472 := n4_; have GE472 := n5_; have HB := n6_; clear n0_ n1_ n2_ n3_ n4_ n5_ n6_; have hHeld : w52.cell? ad458 = some (.int .i64 (rd t424 0)) ∧ w52.cell? ⟨ad458.block, ad458.off + 1, none⟩ = some (.int .i64 (rd t424 1)) ∧ w52.cell? ⟨ad458.block, ad458.off + 2, none⟩ = some (.int .i64 (rd t424 2)) := hS_; refine norm_ (a' := ?_) ?_ ?_; rotate_left
   ·
    simp only [putAll, Act.put, zA, zB, zC]; rfl
   refine one_ (i := 16) (N := none) (OB 17 131071) rfl rfl (one_of HT_.out (by kernel_rfl)) (by decide) (fun K hK => ?_); have hs53 : w52.cell? ⟨gb472, 0, none⟩ = some (.int .i64 0) := CZ BK472.out 0; have hfs53 := blk_frozen BK472.out 0; have hs54 : w52.cell? ⟨gb472, 1, none⟩ = some (.int .i64 0) := CZ BK472.out 1; have hfs54 := blk_frozen BK472.out 1; have hs55 : w52.cell? ⟨gb472, 2, none⟩ = some (.int .i64 0) := CZ BK472.out 2; have hfs55 := blk_frozen BK472.out 2; have hs56 : w52.cell? ⟨gb472, 3, none⟩ = some (.int .i64 0) := CZ BK472.out 3; have hfs56 := blk_frozen BK472.out 3; have hs57 : w52.cell? ⟨gb472, 4, none⟩ = some (.int .i64 0) := CZ BK472.out 4; have hfs57 := blk_frozen BK472.out 4; have hs58 : w52.cell? ⟨gb472, 5, none⟩ = some (.int .i64 0) := CZ BK472.out 5; have hfs58 := blk_frozen BK472.out 5; have hs59 : w52.cell? ⟨gb472, 6, none⟩ = some (.int .i64 0) := CZ BK472.out 6; have hfs59 := blk_frozen BK472.out 6; have hs60 : w52.cell? ⟨gb472, 7, none⟩ = some (.int .i64 0) := CZ BK472.out 7; have hfs60 := blk_frozen BK472.out 7; have hs61 : w52.cell? ⟨gb472, 8, none⟩ = some (.int .i64 0) := CZ BK472.out 8; have hfs61 := blk_frozen BK472.out 8; have hs62 : w52.cell? ⟨gb472, 9, none⟩ = some (.bool false) := CZ BK472.out 9; have hfs62 := blk_frozen BK472.out 9; have hs63 : w52.cell? ⟨gb472, 10, none⟩ = some (.int .i64 0) := CZ BK472.out 10; have hfs63 := blk_frozen BK472.out 10; refine skip_ (w1 := ?_) (by rfl) rfl ?_ ?_; rotate_left
   ·
    go_simp
    rfl
   refine hK.out _ _ ?hh_ (fun hHeld => ?_)
   (case hh_ => have h_ := hHeld; (repeat (obtain ⟨h0_, h_⟩ := h_)); (repeat' refine And.intro ?_ ?_) <;> ((repeat (refine cf ((by first | exact Kd.own_blk (Kd.R_ne HO_4.out BK472.out (by decide)) | (rw [add_block]; exact Kd.own_blk (Kd.R_ne HO_4.out BK472.out (by decide))) | (show (Addr.add _ _).block ≠ _; rw [add_block]; exact Kd.own_blk (Kd.R_ne HO_4.out BK472.out (by decide))) | (dsimp only; exact Kd.own_blk (Kd.R_ne HO_4.out BK472.out (by decide))))) ?_)) <;> assumption))
   clear hK K; refine done_ (done_of HT_.out (by kernel_rfl)) ?_; have hcz64_0 : w52.cell? ⟨gb472, 0, none⟩ = some (.int .i64 0) := CZ BK472.out 0; have hcz64_1 : w52.cell? ⟨gb472, 1, none⟩ = some (.int .i64 0) := CZ BK472.out 1; have hcz64_2 : w52.cell? ⟨gb472, 2, none⟩ = some (.int .i64 0) := CZ BK472.out 2; have hcz64_3 : w52.cell? ⟨gb472, 3, none⟩ = some (.int .i64 0) := CZ BK472.out 3; have hcz64_4 : w52.cell? ⟨gb472, 4, none⟩ = some (.int .i64 0) := CZ BK472.out 4; have hcz64_5 : w52.cell? ⟨gb472, 5, none⟩ = some (.int .i64 0) := CZ BK472.out 5; have hcz64_6 : w52.cell? ⟨gb472, 6, none⟩ = some (.int .i64 0) := CZ BK472.out 6; have hcz64_7 : w52.cell? ⟨gb472, 7, none⟩ = some (.int .i64 0) := CZ BK472.out 7; have hcz64_8 : w52.cell? ⟨gb472, 8, none⟩ = some (.int .i64 0) := CZ BK472.out 8; have hcz64_9 : w52.cell? ⟨gb472, 9, none⟩ = some (.bool false) := CZ BK472.out 9; have hcz64_10 : w52.cell? ⟨gb472, 10, none⟩ = some (.int .i64 0) := CZ BK472.out 10; have hfz64_0 := blk_frozen BK472.out 0; have hfz64_1 := blk_frozen BK472.out 1; have hfz64_2 := blk_frozen BK472.out 2; have hfz64_3 := blk_frozen BK472.out 3; have hfz64_4 := blk_frozen BK472.out 4; have hfz64_5 := blk_frozen BK472.out 5; have hfz64_6 := blk_frozen BK472.out 6; have hfz64_7 := blk_frozen BK472.out 7; have hfz64_8 := blk_frozen BK472.out 8; have hfz64_9 := blk_frozen BK472.out 9; have hfz64_10 := blk_frozen BK472.out 10
   go_upto_block 4 with (first | ((with_reducible refine gate_callee (f := 49) rfl ?_); refine goesL_ (some 82) rfl rfl Try.func49 (by kernel_rfl) rfl #[.slice Ao47 t421.length co47, .agg #[.int .i64 t461, .int .i64 t462, .int .i64 t463, .int .i64 t464, .int .i64 t465, .int .i64 t466, .int .i64 t467, .int .i64 t468, .int .i64 t469, .bool t470, .int .i64 t471]] rfl (MA) ?_; (with_reducible refine (spec_DoTask.calls k1 _ _ t421 t461 t462 t463 t464 t465 t466 t467 t468 t469 t470 t471 t473 t476 _ ?side1 ?side2 A45.out).mono ?_); (case side1 => refine (Kd.R_reads' (e := 61) (base := w.heap.size) (ok := fun k_ => True) (n := t421.length) (c := co47) ?_).2.2; exact (RG HO_3.out BK472.out)); (case side2 => exact (Kd.R_reads' HO_3.out).2.1); rintro e w65 ⟨v474, rfl, ho0, hb⟩; refine ⟨_, rfl, ?_⟩; have HO475 := Aside0.mk (Kd.R_lower (Kd.R_new' ho0 (Kd.R_lt (RG HO_3.out BK472.out))) (below_size (BL))); replace HO_3 := Aside0.mk (Kd.R_elder' (RG HO_3.out BK472.out) (Kd.R_base ho0) hb); replace HO_4 := Aside0.mk (Kd.R_below (RG HO_4.out BK472.out) hb); replace HO_5 := Aside0.mk (Kd.R_below (RG HO_5.out BK472.out) hb); replace BK472 := Aside0.mk (blk_below (g := gb472) (o := .cells #[.int .i64 t461, .int .i64 t462, .int .i64 t463, .int .i64 t464, .int .i64 t465, .int .i64 t466, .int .i64 t467, .int .i64 t468, .int .i64 t469, .bool t470, .int .i64 t471] 46 (0, 0)) (BU BK472.out) hb); replace HB := Aside0.mk (below_step (BL) hb); (try clear hb); (try clear hb2); (try clear hk); (try clear hi); (try clear ho0)))
   (try simp only [Act.put, zA, zB, zC])
   go_cut [5] (fun v5 wc => ∃ (kq : Nat) (x5_45 : List Int) (x473000_45 : Int) (x473001_45 : Int) (x473002_45 : Int) (x473003_45 : Int) (x473004_45 : Int) (x473005_45 : Int) (x473006_45 : Int) (x473007_45 : Int) (x473008_45 : Int) (x473009_45 : Bool) (x473010_45 : Int), Aside0 (laws_FnAlone.j3 kq x5_45 t473 t476 x473000_45 x473001_45 x473002_45 x473003_45 x473004_45 x473005_45 x473006_45 x473007_45 x473008_45 x473009_45 x473010_45 = some r) ∧ Aside0 (kq ≤ k1) ∧ Aside0 (Kd.R (Kd.int .i64) 3 wc w.heap.size (fun _ => True) v5 x5_45) ∧ Aside0 (Kd.R k61 61 wc w.heap.size (fun _ => True) v474 t473) ∧ Aside0 (wc.heap[gb472]? = some (.cells #[.int .i64 x473000_45, .int .i64 x473001_45, .int .i64 x473002_45, .int .i64 x473003_45, .int .i64 x473004_45, .int .i64 x473005_45, .int .i64 x473006_45, .int .i64 x473007_45, .int .i64 x473008_45, .bool x473009_45, .int .i64 x473010_45] 46 (0, 0))) ∧ Aside0 (Below w.heap.size w wc))
   case first =>
    have H := HC46.out; clear HC46; have H' := Aside0.mk H; clear H
    go_wp2
    go_loopg [5, 12] k1 (fun kq v5 v12 w' => ∃ (x5_2 : List Int) (x12_2 : Int) (x473000_2 : Int) (x473001_2 : Int) (x473002_2 : Int) (x473003_2 : Int) (x473004_2 : Int) (x473005_2 : Int) (x473006_2 : Int) (x473007_2 : Int) (x473008_2 : Int) (x473009_2 : Bool) (x473010_2 : Int), v12 = .int .i64 x12_2 ∧ Aside0 (laws_FnAlone.l2 kq x5_2 t473 t476 x12_2 x473000_2 x473001_2 x473002_2 x473003_2 x473004_2 x473005_2 x473006_2 x473007_2 x473008_2 x473009_2 x473010_2 = some r) ∧ Aside0 (kq ≤ k1) ∧ Aside0 (Kd.R (Kd.int .i64) 3 w' w.heap.size (fun _ => True) v5 x5_2) ∧ Aside0 (Kd.R k61 61 w' w.heap.size (fun _ => True) v474 t473) ∧ Aside0 (w'.heap[gb472]? = some (.cells #[.int .i64 x473000_2, .int .i64 x473001_2, .int .i64 x473002_2, .int .i64 x473003_2, .int .i64 x473004_2, .int .i64 x473005_2, .int .i64 x473006_2, .int .i64 x473007_2, .int .i64 x473008_2, .bool x473009_2, .int .i64 x473010_2] 46 (0, 0))) ∧ Aside0 (Below w.heap.size w w'))
    case atStart => exact ⟨(x5_1), (0), (t461), (t462), (t463), (t464), (t465), (t466), (t467), (t468), (t469), (t470), (t471), SD, H', ⟨Nat.le_refl _⟩, ⟨by (with_reducible repeat (first | apply r1 | apply r2 | apply r3)); exact Kd.R_mono HO_5.out (fun _ hk => trivial)⟩, ⟨by (with_reducible repeat (first | apply r1 | apply r2 | apply r3)); exact Kd.R_mono HO475.out (fun _ hk => trivial)⟩, ⟨BQ BK472.out⟩, ⟨BL⟩⟩
    case round =>
     clear H'
     try clear c1 c2 p2 c3 c4 p4 q4 hx4 qi4 p6 c10 c10b0 c11 c11b0 c12 c23 c25 c29 c29b0 c30 c31 c31b0 c31b1 c38 c39 c39b0 c39b1 c41 c41b0 c41b1 c42 c42b0 c42b1 c43 c43b0 c43b1 p43 q43 hx43 p45 q45 hx45 qi45 p46 q46 hx46 qi46 c47 c49 p64 hcz32_0 hcz32_1 hcz32_10 hcz32_2 hcz32_3 hcz32_4 hcz32_5 hcz32_6 hcz32_7 hcz32_8 hcz32_9 hcz34_0 hcz34_1 hcz34_10 hcz34_2 hcz34_3 hcz34_4 hcz34_5 hcz34_6 hcz34_7 hcz34_8 hcz34_9 hcz37_0 hcz37_1 hcz37_10 hcz37_2 hcz37_3 hcz37_4 hcz37_5 hcz37_6 hcz37_7 hcz37_8 hcz37_9 hcz40_0 hcz40_1 hcz40_10 hcz40_2 hcz40_3 hcz40_4 hcz40_5 hcz40_6 hcz40_7 hcz40_8 hcz40_9 hcz64_0 hcz64_1 hcz64_10 hcz64_2 hcz64_3 hcz64_4 hcz64_5 hcz64_6 hcz64_7 hcz64_8 hcz64_9 hfz32_0 hfz32_1 hfz32_10 hfz32_2 hfz32_3 hfz32_4 hfz32_5 hfz32_6 hfz32_7 hfz32_8 hfz32_9 hfz34_0 hfz34_1 hfz34_10 hfz34_2 hfz34_3 hfz34_4 hfz34_5 hfz34_6 hfz34_7 hfz34_8 hfz34_9 hfz37_0 hfz37_1 hfz37_10 hfz37_2 hfz37_3 hfz37_4 hfz37_5 hfz37_6 hfz37_7 hfz37_8 hfz37_9 hfz40_0 hfz40_1 hfz40_10 hfz40_2 hfz40_3 hfz40_4 hfz40_5 hfz40_6 hfz40_7 hfz40_8 hfz40_9 hfz64_0 hfz64_1 hfz64_10 hfz64_2 hfz64_3 hfz64_4 hfz64_5 hfz64_6 hfz64_7 hfz64_8 hfz64_9 hx430_0 hx430_1 hx431_0 hx431_1 hx458_0 hx459_0 hx460_0 p2 p4 p430 p431 p458 p459 p460 p6 q4 q430 q431 q458 q459 q460
     obtain ⟨x5_2, x12_2, x473000_2, x473001_2, x473002_2, x473003_2, x473004_2, x473005_2, x473006_2, x473007_2, x473008_2, x473009_2, x473010_2, rfl, HA, HK2, HO_5, HO_10, BK472, HB⟩ := hrel; cases gk with
     | zero => exact absurd HA.out (by simp [laws_FnAlone.l2])
     | succ k2 =>
      have H := HA.out; clear HA; simp only [laws_FnAlone.l2] at H
      by_cases c66 : x12_2 < 60; rotate_left
      ·
       rw [if_neg c66] at H; have c66b0 : decide (x12_2 < 60) = false := decide_eq_false c66; clear c66
       (first | rw [c66b0] | (simp only [i64_w, i32_w]; rw [c66b0]) | skip)
       have H' := Aside0.mk H; clear H
       go_wp2
       go_meet
       case rel => exact ⟨_, (x5_2), (x473000_2), (x473001_2), (x473002_2), (x473003_2), (x473004_2), (x473005_2), (x473006_2), (x473007_2), (x473008_2), (x473009_2), (x473010_2), H', ⟨by have := HK1.out; have := HK2.out; first | omega | exact Nat.le_refl _⟩, ⟨RQ HO_5.out⟩, ⟨RQ HO_10.out⟩, ⟨BQ BK472.out⟩, ⟨BL⟩⟩
      rw [if_pos c66] at H; have c66b0 : decide (x12_2 < 60) = true := decide_eq_true c66; clear c66
      (first | rw [c66b0] | (simp only [i64_w, i32_w]; rw [c66b0]) | skip)
      by_cases c67 : x473009_2 = true
      ·
       subst c67
       have H1 : (laws_FnAlone.j3 k2 x5_2 t473 t476 x473000_2 x473001_2 x473002_2 x473003_2 x473004_2 x473005_2 x473006_2 x473007_2 x473008_2 true x473010_2) = some r := by rw [if_pos rfl] at H; exact H
       clear H; have H := H1; clear H1; have H' := Aside0.mk H; clear H; have hcz68_0 : wr.cell? ⟨gb472, 0, none⟩ = some (.int .i64 x473000_2) := CZ BK472.out 0; have hcz68_1 : wr.cell? ⟨gb472, 1, none⟩ = some (.int .i64 x473001_2) := CZ BK472.out 1; have hcz68_2 : wr.cell? ⟨gb472, 2, none⟩ = some (.int .i64 x473002_2) := CZ BK472.out 2; have hcz68_3 : wr.cell? ⟨gb472, 3, none⟩ = some (.int .i64 x473003_2) := CZ BK472.out 3; have hcz68_4 : wr.cell? ⟨gb472, 4, none⟩ = some (.int .i64 x473004_2) := CZ BK472.out 4; have hcz68_5 : wr.cell? ⟨gb472, 5, none⟩ = some (.int .i64 x473005_2) := CZ BK472.out 5; have hcz68_6 : wr.cell? ⟨gb472, 6, none⟩ = some (.int .i64 x473006_2) := CZ BK472.out 6; have hcz68_7 : wr.cell? ⟨gb472, 7, none⟩ = some (.int .i64 x473007_2) := CZ BK472.out 7; have hcz68_8 : wr.cell? ⟨gb472, 8, none⟩ = some (.int .i64 x473008_2) := CZ BK472.out 8; have hcz68_9 : wr.cell? ⟨gb472, 9, none⟩ = some (.bool true) := CZ BK472.out 9; have hcz68_10 : wr.cell? ⟨gb472, 10, none⟩ = some (.int .i64 x473010_2) := CZ BK472.out 10; have hfz68_0 := blk_frozen BK472.out 0; have hfz68_1 := blk_frozen BK472.out 1; have hfz68_2 := blk_frozen BK472.out 2; have hfz68_3 := blk_frozen BK472.out 3; have hfz68_4 := blk_frozen BK472.out 4; have hfz68_5 := blk_frozen BK472.out 5; have hfz68_6 := blk_frozen BK472.out 6; have hfz68_7 := blk_frozen BK472.out 7; have hfz68_8 := blk_frozen BK472.out 8; have hfz68_9 := blk_frozen BK472.out 9; have hfz68_10 := blk_frozen BK472.out 10
       go_wp2
       go_meet
       case rel => exact ⟨_, (x5_2), (x473000_2), (x473001_2), (x473002_2), (x473003_2), (x473004_2), (x473005_2), (x473006_2), (x473007_2), (x473008_2), (true), (x473010_2), H', ⟨by have := HK1.out; have := HK2.out; first | omega | exact Nat.le_refl _⟩, ⟨RQ HO_5.out⟩, ⟨RQ HO_10.out⟩, ⟨BQ BK472.out⟩, ⟨BL⟩⟩
      replace c67 := Bool.eq_false_iff.mpr c67; subst c67
      have H1 : ((impl_StepTask.f k2 x5_2 x473000_2 x473001_2 x473002_2 x473003_2 x473004_2 x473005_2 x473006_2 x473007_2 x473008_2 false x473010_2).bind fun bt477 => (laws_FnAlone.l2 k2 bt477.1 t473 t476 (wrap64 (x12_2 + 1)) bt477.2.1 bt477.2.2.1 bt477.2.2.2.1 bt477.2.2.2.2.1 bt477.2.2.2.2.2.1 bt477.2.2.2.2.2.2.1 bt477.2.2.2.2.2.2.2.1 bt477.2.2.2.2.2.2.2.2.1 bt477.2.2.2.2.2.2.2.2.2.1 bt477.2.2.2.2.2.2.2.2.2.2.1 bt477.2.2.2.2.2.2.2.2.2.2.2)) = some r := by rw [if_neg (show ¬ (false = true) by decide)] at H; exact H
      clear H; have H := H1; clear H1; replace H := Option.bind_eq_some_iff.mp H; obtain ⟨⟨t477, t480, t481, t482, t483, t484, t485, t486, t487, t488, t489, t490⟩, A690, H⟩ := H; replace H : (laws_FnAlone.l2 k2 t477 t473 t476 (wrap64 (x12_2 + 1)) t480 t481 t482 t483 t484 t485 t486 t487 t488 t489 t490) = some r := H; have A69 := Aside0.mk A690; clear A690; have H' := Aside0.mk H; clear H; have hcz70_0 : wr.cell? ⟨gb472, 0, none⟩ = some (.int .i64 x473000_2) := CZ BK472.out 0; have hcz70_1 : wr.cell? ⟨gb472, 1, none⟩ = some (.int .i64 x473001_2) := CZ BK472.out 1; have hcz70_2 : wr.cell? ⟨gb472, 2, none⟩ = some (.int .i64 x473002_2) := CZ BK472.out 2; have hcz70_3 : wr.cell? ⟨gb472, 3, none⟩ = some (.int .i64 x473003_2) := CZ BK472.out 3; have hcz70_4 : wr.cell? ⟨gb472, 4, none⟩ = some (.int .i64 x473004_2) := CZ BK472.out 4; have hcz70_5 : wr.cell? ⟨gb472, 5, none⟩ = some (.int .i64 x473005_2) := CZ BK472.out 5; have hcz70_6 : wr.cell? ⟨gb472, 6, none⟩ = some (.int .i64 x473006_2) := CZ BK472.out 6; have hcz70_7 : wr.cell? ⟨gb472, 7, none⟩ = some (.int .i64 x473007_2) := CZ BK472.out 7; have hcz70_8 : wr.cell? ⟨gb472, 8, none⟩ = some (.int .i64 x473008_2) := CZ BK472.out 8; have hcz70_9 : wr.cell? ⟨gb472, 9, none⟩ = some (.bool false) := CZ BK472.out 9; have hcz70_10 : wr.cell? ⟨gb472, 10, none⟩ = some (.int .i64 x473010_2) := CZ BK472.out 10; have hfz70_0 := blk_frozen BK472.out 0; have hfz70_1 := blk_frozen BK472.out 1; have hfz70_2 := blk_frozen BK472.out 2; have hfz70_3 := blk_frozen BK472.out 3; have hfz70_4 := blk_frozen BK472.out 4; have hfz70_5 := blk_frozen BK472.out 5; have hfz70_6 := blk_frozen BK472.out 6; have hfz70_7 := blk_frozen BK472.out 7; have hfz70_8 := blk_frozen BK472.out 8; have hfz70_9 := blk_frozen BK472.out 9; have hfz70_10 := blk_frozen BK472.out 10; obtain ⟨Ao71, co71, eo71⟩ := Kd.R_slice HO_5.out; subst eo71
      go_wp2_with (first | ((with_reducible refine gate_callee (f := 39) rfl ?_); refine goesL_ (some 97) rfl rfl Try.func39 (by kernel_rfl) rfl #[.slice Ao71 x5_2.length co71, .agg #[.int .i64 x473000_2, .int .i64 x473001_2, .int .i64 x473002_2, .int .i64 x473003_2, .int .i64 x473004_2, .int .i64 x473005_2, .int .i64 x473006_2, .int .i64 x473007_2, .int .i64 x473008_2, .bool false, .int .i64 x473010_2]] rfl (MA) ?_; (with_reducible refine (impl_StepTask.calls k2 _ _ x5_2 x473000_2 x473001_2 x473002_2 x473003_2 x473004_2 x473005_2 x473006_2 x473007_2 x473008_2 false x473010_2 t477 t480 t481 t482 t483 t484 t485 t486 t487 t488 t489 t490 _ ?side1 ?side2 A69.out).mono ?_); (case side1 => repeat (first | exact (Kd.R_reads' HO_5.out).2.2 | (with_reducible refine Kd.C_alloc ?_ _) | (with_reducible refine Kd.C_drewN ?_ _) | (with_reducible refine Kd.C_drew ?_))); (case side2 => exact (Kd.R_reads' HO_5.out).2.1); rintro e w72 ⟨v478, rfl, ho0, hb⟩; refine ⟨_, rfl, ?_⟩; have HO479 := Aside0.mk (Kd.R_lower (Kd.R_new' ho0 (Kd.R_lt (RQ HO_5.out))) (below_size (BL))); replace HO_5 := Aside0.mk (Kd.R_elder' (RQ HO_5.out) (Kd.R_base ho0) hb); replace HO_10 := Aside0.mk (Kd.R_below (RQ HO_10.out) hb); replace BK472 := BB BK472.out hb; replace HB := Aside0.mk (below_step (BL) hb); (try clear hb); (try clear hb2); (try clear hk); (try clear hi); (try clear ho0); have hcz73_0 : w72.cell? ⟨gb472, 0, none⟩ = some (.int .i64 x473000_2) := CZ BK472.out 0; have hcz73_1 : w72.cell? ⟨gb472, 1, none⟩ = some (.int .i64 x473001_2) := CZ BK472.out 1; have hcz73_2 : w72.cell? ⟨gb472, 2, none⟩ = some (.int .i64 x473002_2) := CZ BK472.out 2; have hcz73_3 : w72.cell? ⟨gb472, 3, none⟩ = some (.int .i64 x473003_2) := CZ BK472.out 3; have hcz73_4 : w72.cell? ⟨gb472, 4, none⟩ = some (.int .i64 x473004_2) := CZ BK472.out 4; have hcz73_5 : w72.cell? ⟨gb472, 5, none⟩ = some (.int .i64 x473005_2) := CZ BK472.out 5; have hcz73_6 : w72.cell? ⟨gb472, 6, none⟩ = some (.int .i64 x473006_2) := CZ BK472.out 6; have hcz73_7 : w72.cell? ⟨gb472, 7, none⟩ = some (.int .i64 x473007_2) := CZ BK472.out 7; have hcz73_8 : w72.cell? ⟨gb472, 8, none⟩ = some (.int .i64 x473008_2) := CZ BK472.out 8; have hcz73_9 : w72.cell? ⟨gb472, 9, none⟩ = some (.bool false) := CZ BK472.out 9; have hcz73_10 : w72.cell? ⟨gb472, 10, none⟩ = some (.int .i64 x473010_2) := CZ BK472.out 10; have hfz73_0 := blk_frozen BK472.out 0; have hfz73_1 := blk_frozen BK472.out 1; have hfz73_2 := blk_frozen BK472.out 2; have hfz73_3 := blk_frozen BK472.out 3; have hfz73_4 := blk_frozen BK472.out 4; have hfz73_5 := blk_frozen BK472.out 5; have hfz73_6 := blk_frozen BK472.out 6; have hfz73_7 := blk_frozen BK472.out 7; have hfz73_8 := blk_frozen BK472.out 8; have hfz73_9 := blk_frozen BK472.out 9; have hfz73_10 := blk_frozen BK472.out 10))
      go_roundg k2
      case measure => have := HK1.out; have := HK2.out; omega
      case rel => exact ⟨(t477), (wrap64 (x12_2 + 1)), (t480), (t481), (t482), (t483), (t484), (t485), (t486), (t487), (t488), (t489), (t490), SD, H', ⟨by have := HK1.out; have := HK2.out; omega⟩, ⟨RG HO479.out BK472.out⟩, ⟨RG HO_10.out BK472.out⟩, ⟨BU BK472.out⟩, ⟨BL⟩⟩
   case rest =>
    clear HC46
    try clear c1 c2 p2 c3 c4 p4 q4 hx4 qi4 c6 p6 c10 c10b0 c11 c11b0 c12 c23 c25 c29 c29b0 c30 c31 c31b0 c31b1 c38 c39 c39b0 c39b1 c41 c41b0 c41b1 c42 c42b0 c42b1 c43 c43b0 c43b1 p43 q43 hx43 p45 q45 hx45 qi45 p46 q46 hx46 qi46 c47 c49 p64 c66 c66b0 c67 hcz32_0 hcz32_1 hcz32_10 hcz32_2 hcz32_3 hcz32_4 hcz32_5 hcz32_6 hcz32_7 hcz32_8 hcz32_9 hcz34_0 hcz34_1 hcz34_10 hcz34_2 hcz34_3 hcz34_4 hcz34_5 hcz34_6 hcz34_7 hcz34_8 hcz34_9 hcz37_0 hcz37_1 hcz37_10 hcz37_2 hcz37_3 hcz37_4 hcz37_5 hcz37_6 hcz37_7 hcz37_8 hcz37_9 hcz40_0 hcz40_1 hcz40_10 hcz40_2 hcz40_3 hcz40_4 hcz40_5 hcz40_6 hcz40_7 hcz40_8 hcz40_9 hcz64_0 hcz64_1 hcz64_10 hcz64_2 hcz64_3 hcz64_4 hcz64_5 hcz64_6 hcz64_7 hcz64_8 hcz64_9 hcz68_0 hcz68_1 hcz68_10 hcz68_2 hcz68_3 hcz68_4 hcz68_5 hcz68_6 hcz68_7 hcz68_8 hcz68_9 hcz70_0 hcz70_1 hcz70_10 hcz70_2 hcz70_3 hcz70_4 hcz70_5 hcz70_6 hcz70_7 hcz70_8 hcz70_9 hcz73_0 hcz73_1 hcz73_10 hcz73_2 hcz73_3 hcz73_4 hcz73_5 hcz73_6 hcz73_7 hcz73_8 hcz73_9 hfz32_0 hfz32_1 hfz32_10 hfz32_2 hfz32_3 hfz32_4 hfz32_5 hfz32_6 hfz32_7 hfz32_8 hfz32_9 hfz34_0 hfz34_1 hfz34_10 hfz34_2 hfz34_3 hfz34_4 hfz34_5 hfz34_6 hfz34_7 hfz34_8 hfz34_9 hfz37_0 hfz37_1 hfz37_10 hfz37_2 hfz37_3 hfz37_4 hfz37_5 hfz37_6 hfz37_7 hfz37_8 hfz37_9 hfz40_0 hfz40_1 hfz40_10 hfz40_2 hfz40_3 hfz40_4 hfz40_5 hfz40_6 hfz40_7 hfz40_8 hfz40_9 hfz64_0 hfz64_1 hfz64_10 hfz64_2 hfz64_3 hfz64_4 hfz64_5 hfz64_6 hfz64_7 hfz64_8 hfz64_9 hfz68_0 hfz68_1 hfz68_10 hfz68_2 hfz68_3 hfz68_4 hfz68_5 hfz68_6 hfz68_7 hfz68_8 hfz68_9 hfz70_0 hfz70_1 hfz70_10 hfz70_2 hfz70_3 hfz70_4 hfz70_5 hfz70_6 hfz70_7 hfz70_8 hfz70_9 hfz73_0 hfz73_1 hfz73_10 hfz73_2 hfz73_3 hfz73_4 hfz73_5 hfz73_6 hfz73_7 hfz73_8 hfz73_9 hx430_0 hx430_1 hx431_0 hx431_1 hx458_0 hx459_0 hx460_0 p2 p4 p43 p430 p431 p45 p458 p459 p46 p460 p6 p64 q4 q43 q430 q431 q45 q458 q459 q46 q460
    obtain ⟨kq, x5_45, x473000_45, x473001_45, x473002_45, x473003_45, x473004_45, x473005_45, x473006_45, x473007_45, x473008_45, x473009_45, x473010_45, HA, HJ45, HO_5, HO_10, BK472, HB⟩ := hcut; cases kq with
    | zero => exact absurd HA.out (by simp [laws_FnAlone.j3])
    | succ kj45 =>
     have H := HA.out; clear HA; simp only [laws_FnAlone.j3] at H; replace H := Option.bind_eq_some_iff.mp H; obtain ⟨t491, A740, H⟩ := H; have A74 := Aside0.mk A740; clear A740; have H' := Aside0.mk H; clear H; obtain ⟨Ao75, co75, eo75⟩ := Kd.R_slice HO_5.out; subst eo75
     go_wp2_with (first | ((with_reducible refine gate_callee (f := 36) rfl ?_); refine goesL_ (some 101) rfl rfl Try.func36 (by kernel_rfl) rfl #[.slice Ao75 x5_45.length co75] rfl (MA) ?_; (with_reducible refine (impl_KeysOf.calls kj45 _ _ x5_45 t491 _ ?side1 ?side2 A74.out).mono ?_); (case side1 => repeat (first | exact (Kd.R_reads' HO_5.out).2.2 | (with_reducible refine Kd.C_alloc ?_ _) | (with_reducible refine Kd.C_drewN ?_ _) | (with_reducible refine Kd.C_drew ?_))); (case side2 => exact (Kd.R_reads' HO_5.out).2.1); rintro e w76 ⟨v492, rfl, ho0, hb⟩; refine ⟨_, rfl, ?_⟩; have HO493 := Aside0.mk (Kd.R_lower (Kd.R_new' ho0 (Kd.R_lt (RQ HO_5.out))) (below_size (BL))); replace HO_5 := Aside0.mk (Kd.R_elder' (RQ HO_5.out) (Kd.R_base ho0) hb); replace HO_10 := Aside0.mk (Kd.R_below (RQ HO_10.out) hb); replace BK472 := BB BK472.out hb; replace HB := Aside0.mk (below_step (BL) hb); (try clear hb); (try clear hb2); (try clear hk); (try clear hi); (try clear ho0)))
     go_loopg [14] kj45 (fun kq v14 w' => ∃ (x14_3 : Int), v14 = .int .i64 x14_3 ∧ Aside0 (laws_FnAlone.l3 kq x5_45 t473 t476 t491 x14_3 x473000_45 x473001_45 x473002_45 x473003_45 x473004_45 x473005_45 x473006_45 x473007_45 x473008_45 x473009_45 x473010_45 = some r) ∧ Aside0 (kq ≤ kj45) ∧ Aside0 (Kd.R (Kd.int .i64) 3 w' w.heap.size (fun k_ => some k_ ≠ (v492 : Value).ownBlock) (.slice Ao75 x5_45.length co75) x5_45) ∧ Aside0 (Kd.R k61 61 w' w.heap.size (fun _ => True) v474 t473) ∧ Aside0 (Kd.R (Kd.int .i64) 3 w' w.heap.size (fun k_ => some k_ ≠ ((.slice Ao75 x5_45.length co75) : Value).ownBlock) v492 t491) ∧ Aside0 (w'.heap[gb472]? = some (.cells #[.int .i64 x473000_45, .int .i64 x473001_45, .int .i64 x473002_45, .int .i64 x473003_45, .int .i64 x473004_45, .int .i64 x473005_45, .int .i64 x473006_45, .int .i64 x473007_45, .int .i64 x473008_45, .bool x473009_45, .int .i64 x473010_45] 46 (0, 0))) ∧ Aside0 (Below w.heap.size w w'))
     case atStart => exact ⟨(0), SD, H', ⟨Nat.le_refl _⟩, ⟨by (with_reducible repeat (first | apply r1 | apply r2 | apply r3)); exact Kd.R_mono HO_5.out (fun _ hk => hk.2)⟩, ⟨RQ HO_10.out⟩, ⟨by (with_reducible repeat (first | apply r1 | apply r2 | apply r3)); exact Kd.R_mono HO493.out (fun _ hk => hk.2)⟩, ⟨BQ BK472.out⟩, ⟨BL⟩⟩
     case round =>
      clear H'
      try clear c1 c2 p2 c3 c4 p4 q4 hx4 qi4 c6 p6 c10 c10b0 c11 c11b0 c12 c23 c25 c29 c29b0 c30 c31 c31b0 c31b1 c36 c38 c39 c39b0 c39b1 c41 c41b0 c41b1 c42 c42b0 c42b1 c43 c43b0 c43b1 p43 q43 hx43 p45 q45 hx45 qi45 p46 q46 hx46 qi46 c47 c49 p64 c66 c66b0 c67 hcz32_0 hcz32_1 hcz32_10 hcz32_2 hcz32_3 hcz32_4 hcz32_5 hcz32_6 hcz32_7 hcz32_8 hcz32_9 hcz34_0 hcz34_1 hcz34_10 hcz34_2 hcz34_3 hcz34_4 hcz34_5 hcz34_6 hcz34_7 hcz34_8 hcz34_9 hcz37_0 hcz37_1 hcz37_10 hcz37_2 hcz37_3 hcz37_4 hcz37_5 hcz37_6 hcz37_7 hcz37_8 hcz37_9 hcz40_0 hcz40_1 hcz40_10 hcz40_2 hcz40_3 hcz40_4 hcz40_5 hcz40_6 hcz40_7 hcz40_8 hcz40_9 hcz64_0 hcz64_1 hcz64_10 hcz64_2 hcz64_3 hcz64_4 hcz64_5 hcz64_6 hcz64_7 hcz64_8 hcz64_9 hcz68_0 hcz68_1 hcz68_10 hcz68_2 hcz68_3 hcz68_4 hcz68_5 hcz68_6 hcz68_7 hcz68_8 hcz68_9 hcz70_0 hcz70_1 hcz70_10 hcz70_2 hcz70_3 hcz70_4 hcz70_5 hcz70_6 hcz70_7 hcz70_8 hcz70_9 hcz73_0 hcz73_1 hcz73_10 hcz73_2 hcz73_3 hcz73_4 hcz73_5 hcz73_6 hcz73_7 hcz73_8 hcz73_9 hfz32_0 hfz32_1 hfz32_10 hfz32_2 hfz32_3 hfz32_4 hfz32_5 hfz32_6 hfz32_7 hfz32_8 hfz32_9 hfz34_0 hfz34_1 hfz34_10 hfz34_2 hfz34_3 hfz34_4 hfz34_5 hfz34_6 hfz34_7 hfz34_8 hfz34_9 hfz37_0 hfz37_1 hfz37_10 hfz37_2 hfz37_3 hfz37_4 hfz37_5 hfz37_6 hfz37_7 hfz37_8 hfz37_9 hfz40_0 hfz40_1 hfz40_10 hfz40_2 hfz40_3 hfz40_4 hfz40_5 hfz40_6 hfz40_7 hfz40_8 hfz40_9 hfz64_0 hfz64_1 hfz64_10 hfz64_2 hfz64_3 hfz64_4 hfz64_5 hfz64_6 hfz64_7 hfz64_8 hfz64_9 hfz68_0 hfz68_1 hfz68_10 hfz68_2 hfz68_3 hfz68_4 hfz68_5 hfz68_6 hfz68_7 hfz68_8 hfz68_9 hfz70_0 hfz70_1 hfz70_10 hfz70_2 hfz70_3 hfz70_4 hfz70_5 hfz70_6 hfz70_7 hfz70_8 hfz70_9 hfz73_0 hfz73_1 hfz73_10 hfz73_2 hfz73_3 hfz73_4 hfz73_5 hfz73_6 hfz73_7 hfz73_8 hfz73_9 hx430_0 hx430_1 hx431_0 hx431_1 hx458_0 hx459_0 hx460_0 p2 p4 p43 p430 p431 p45 p458 p459 p46 p460 p6 p64 q4 q43 q430 q431 q45 q458 q459 q46 q460
      obtain ⟨x14_3, rfl, HA, HK3, HO_5, HO_10, HO_13, BK472, HB⟩ := hrel; cases gk with
      | zero => exact absurd HA.out (by simp [laws_FnAlone.l3])
      | succ k3 =>
       have H := HA.out; clear HA; simp only [laws_FnAlone.l3] at H
       by_cases c77 : x14_3 < (t473.length : Int); rotate_left
       ·
        rw [if_neg c77] at H; have c77b0 : decide (x14_3 < (t473.length : Int)) = false := decide_eq_false c77; clear c77
        by_cases c88 : x473009_45 = true; rotate_left
        ·
         replace c88 := Bool.eq_false_iff.mpr c88; subst c88
         have H1 : (none) = some r := by rw [if_neg (show ¬ (false = true) by decide)] at H; exact H
         clear H; have H := H1; clear H1; exact absurd H (by simp)
        subst c88
        have H1 : (if x473010_45 = t476 then (if (t491.length : Int) = (t473.length : Int) then ((impl_ValueOf.f k3 x5_45 99).bind fun t499 => (some (t499 == 0))) else (none)) else (none)) = some r := by rw [if_pos rfl] at H; exact H
        clear H; have H := H1; clear H1
        by_cases c89 : x473010_45 = t476; rotate_left
        ·
         rw [if_neg c89] at H; exact absurd H (by simp)
        rw [if_pos c89] at H; have c89b0 : (x473010_45 == t476) = true := beq_iff_eq.mpr c89; have c89b1 : (x473010_45 != t476) = false := bne_eq_false_iff_eq.mpr c89; clear c89
        by_cases c90 : (t491.length : Int) = (t473.length : Int); rotate_left
        ·
         rw [if_neg c90] at H; exact absurd H (by simp)
        rw [if_pos c90] at H; have c90b0 : ((t491.length : Int) == (t473.length : Int)) = true := beq_iff_eq.mpr c90; have c90b1 : ((t491.length : Int) != (t473.length : Int)) = false := bne_eq_false_iff_eq.mpr c90
        have c90b2 : (t491.length == t473.length) = true := by first | simpa using c90 | (simp at c90 ⊢; omega)
        clear c90; replace H := Option.bind_eq_some_iff.mp H; obtain ⟨t499, A910, H⟩ := H; have A91 := Aside0.mk A910; clear A910; obtain rfl := Option.some.inj H; obtain ⟨Ao92, co92, eo92⟩ := Kd.R_slice HO_10.out; subst eo92; have hcz93_0 : wr.cell? ⟨gb472, 0, none⟩ = some (.int .i64 x473000_45) := CZ BK472.out 0; have hcz93_1 : wr.cell? ⟨gb472, 1, none⟩ = some (.int .i64 x473001_45) := CZ BK472.out 1; have hcz93_2 : wr.cell? ⟨gb472, 2, none⟩ = some (.int .i64 x473002_45) := CZ BK472.out 2; have hcz93_3 : wr.cell? ⟨gb472, 3, none⟩ = some (.int .i64 x473003_45) := CZ BK472.out 3; have hcz93_4 : wr.cell? ⟨gb472, 4, none⟩ = some (.int .i64 x473004_45) := CZ BK472.out 4; have hcz93_5 : wr.cell? ⟨gb472, 5, none⟩ = some (.int .i64 x473005_45) := CZ BK472.out 5; have hcz93_6 : wr.cell? ⟨gb472, 6, none⟩ = some (.int .i64 x473006_45) := CZ BK472.out 6; have hcz93_7 : wr.cell? ⟨gb472, 7, none⟩ = some (.int .i64 x473007_45) := CZ BK472.out 7; have hcz93_8 : wr.cell? ⟨gb472, 8, none⟩ = some (.int .i64 x473008_45) := CZ BK472.out 8; have hcz93_9 : wr.cell? ⟨gb472, 9, none⟩ = some (.bool true) := CZ BK472.out 9; have hcz93_10 : wr.cell? ⟨gb472, 10, none⟩ = some (.int .i64 x473010_45) := CZ BK472.out 10; have hfz93_0 := blk_frozen BK472.out 0; have hfz93_1 := blk_frozen BK472.out 1; have hfz93_2 := blk_frozen BK472.out 2; have hfz93_3 := blk_frozen BK472.out 3; have hfz93_4 := blk_frozen BK472.out 4; have hfz93_5 := blk_frozen BK472.out 5; have hfz93_6 := blk_frozen BK472.out 6; have hfz93_7 := blk_frozen BK472.out 7; have hfz93_8 := blk_frozen BK472.out 8; have hfz93_9 := blk_frozen BK472.out 9; have hfz93_10 := blk_frozen BK472.out 10; obtain ⟨Ao94, co94, eo94⟩ := Kd.R_slice HO_13.out; subst eo94
        go_wp2_with (first | (go_at_call 34; (with_reducible refine (impl_ValueOf.calls k3 _ _ x5_45 99 t499 _ ?side1 ?side2 A91.out).mono ?_); (case side1 => repeat (first | exact (Kd.R_reads' HO_5.out).2.2 | (with_reducible refine Kd.C_alloc ?_ _) | (with_reducible refine Kd.C_drewN ?_ _) | (with_reducible refine Kd.C_drew ?_))); (case side2 => exact (Kd.R_reads' HO_5.out).2.1); rintro e w95 ⟨rfl, hb⟩; replace HO_5 := Aside0.mk (Kd.R_below (RQ HO_5.out) hb); replace HO_10 := Aside0.mk (Kd.R_below (RQ HO_10.out) hb); replace HO_13 := Aside0.mk (Kd.R_below (RQ HO_13.out) hb); replace BK472 := BB BK472.out hb; replace HB := Aside0.mk (below_step (BL) hb); (try clear hb); (try clear hb2); (try clear hk); (try clear hi)))
        go_ret
        exact ⟨EE, BL⟩
       rw [if_pos c77] at H; have c77b0 : decide (x14_3 < (t473.length : Int)) = true := decide_eq_true c77; clear c77
       by_cases c78 : x14_3 ≥ (t491.length : Int)
       ·
        rw [if_pos c78] at H; exact absurd H (by simp)
       rw [if_neg c78] at H; have c78b0 : decide ((t491.length : Int) ≤ x14_3) = false := decide_eq_false c78; clear c78
       by_cases c79 : 0 ≤ x14_3; rotate_left
       ·
        rw [if_neg c79] at H; exact absurd H (by simp)
       rw [if_pos c79] at H; have c79b0 : decide (0 ≤ x14_3) = true := decide_eq_true c79; clear c79
       by_cases c80 : x14_3 < (t491.length : Int); rotate_left
       ·
        rw [if_neg c80] at H; exact absurd H (by simp)
       rw [if_pos c80] at H; have c80b0 : decide (x14_3 < (t491.length : Int)) = true := decide_eq_true c80; clear c80
       by_cases c81 : (rd t491 x14_3) = ((rd_T61 t473 x14_3).f0); rotate_left
       ·
        rw [if_neg c81] at H; exact absurd H (by simp)
       rw [if_pos c81] at H; have c81b0 : ((rd t491 x14_3) == ((rd_T61 t473 x14_3).f0)) = true := beq_iff_eq.mpr c81; have c81b1 : ((rd t491 x14_3) != ((rd_T61 t473 x14_3).f0)) = false := bne_eq_false_iff_eq.mpr c81; clear c81; replace H := Option.bind_eq_some_iff.mp H; obtain ⟨t497, A820, H⟩ := H; have A82 := Aside0.mk A820; clear A820
       by_cases c83 : t497 = (wrap64 (((rd_T61 t473 x14_3).f1) + 1)); rotate_left
       ·
        rw [if_neg c83] at H; exact absurd H (by simp)
       rw [if_pos c83] at H; have c83b0 : (t497 == (wrap64 (((rd_T61 t473 x14_3).f1) + 1))) = true := beq_iff_eq.mpr c83; have c83b1 : (t497 != (wrap64 (((rd_T61 t473 x14_3).f1) + 1))) = false := bne_eq_false_iff_eq.mpr c83; clear c83; have H' := Aside0.mk H; clear H; obtain ⟨Ao84, co84, eo84⟩ := Kd.R_slice HO_10.out; subst eo84
       try go_wp2
       have n0_ := Aside0.mk (Kd.R_drew HO_5.out); have n1_ := Aside0.mk (Kd.R_drew HO_10.out); have n2_ := Aside0.mk (Kd.R_drew HO_13.out); have n3_ := Aside0.mk (blk_drew BK472.out); have n4_ := Aside0.mk (below_drew1 HB.out); clear HO_5; clear HO_10; clear HO_13; clear BK472; clear HB; have HO_5 := n0_; have HO_10 := n1_; have HO_13 := n2_; have BK472 := n3_; have HB := n4_; clear n0_ n1_ n2_ n3_ n4_; obtain ⟨Ao86, co86, eo86⟩ := Kd.R_slice HO_13.out
       (first | subst eo86 | (injection eo86 with f1_ f2_ f3_; have f4_ := f1_.symm; have f5_ := f3_.symm; clear f1_ f2_ f3_; subst f4_; subst f5_))
       have p494 : 0 ≤ (x14_3 : Int) := of_decide_eq_true AS; have q494 : x14_3 < (t491.length : Int) := of_decide_eq_true AS; obtain ⟨ad494, e494, hx494_0⟩ := Kd.at_int (Kd.R_reads' HO_13.out).2.2 x14_3 p494 q494; cases e494; replace p494 := eq_true p494; replace q494 := eq_true q494; have p495 : 0 ≤ (x14_3 : Int) := of_decide_eq_true AS; have q495 : x14_3 < (t473.length : Int) := of_decide_eq_true AS; obtain ⟨ad495, e495, hx495_0, hx495_1⟩ := at_T61 (Kd.R_reads' HO_10.out).2.2 x14_3 p495 q495; cases e495; replace p495 := eq_true p495; replace q495 := eq_true q495; have p496 : 0 ≤ (x14_3 : Int) := of_decide_eq_true AS; have q496 : x14_3 < (t491.length : Int) := of_decide_eq_true AS; obtain ⟨ad496, e496, hx496_0⟩ := Kd.at_int (Kd.R_reads' HO_13.out).2.2 x14_3 p496 q496; obtain rfl : ad494 = ad496 := (by injection e496); replace p496 := eq_true p496; replace q496 := eq_true q496; have p498 : 0 ≤ (x14_3 : Int) := of_decide_eq_true AS; have q498 : x14_3 < (t473.length : Int) := of_decide_eq_true AS; obtain ⟨ad498, e498, hx498_0, hx498_1⟩ := at_T61 (Kd.R_reads' HO_10.out).2.2 x14_3 p498 q498; obtain rfl : ad495 = ad498 := (by injection e498); replace p498 := eq_true p498; replace q498 := eq_true q498; refine start_ (n := 31) (S := fun w' => w'.cell? (ad494.add (x14_3).toNat) = some (.int .i64 (rd t491 x14_3)) ∧ w'.cell? (ad495.add ((x14_3).toNat * 2)) = some (.int .i64 ((rd_T61 t473 x14_3).f0)) ∧ w'.cell? ⟨(ad495.add ((x14_3).toNat * 2)).block, (ad495.add ((x14_3).toNat * 2)).off + 1, none⟩ = some (.int .i64 ((rd_T61 t473 x14_3).f1)) ∧ w'.cell? (ad494.add (x14_3).toNat) = some (.int .i64 (rd t491 x14_3)) ∧ w'.cell? (ad495.add ((x14_3).toNat * 2)) = some (.int .i64 ((rd_T61 t473 x14_3).f0)) ∧ w'.cell? ⟨(ad495.add ((x14_3).toNat * 2)).block, (ad495.add ((x14_3).toNat * 2)).off + 1, none⟩ = some (.int .i64 ((rd_T61 t473 x14_3).f1))) (ds := []) #[false, false, false, false, false, false, false, false, false, false, false, false, false, false, false, false, false, false, false, false, false, false, false, false, false, false, false, false, false, false, false] (by kernel_rfl) rfl rfl ⟨hx494_0, hx495_0, hx495_1, hx496_0, hx498_0, hx498_1⟩ (fun hHeld => ?_); refine with_tabW laws_FnAlone.tab26 laws_FnAlone.bits26 (fun HT_ HW_ => ?_); generalize wr.drew = w85 at HO_5 HO_10 HO_13 BK472 HB hx494_0 hx495_0 hx495_1 hx496_0 hx498_0 hx498_1 hHeld ⊢; refine pV 0 108 (OB 31 1) ?_; refine pV 1 109 (OB 31 3) ?_; refine pV 2 110 (OB 31 7) ?_; refine pV 3 111 (OB 31 15) ?_; refine pV 4 112 (OB 31 31) ?_; refine pV 5 113 (OB 31 63) ?_; refine pV 6 114 (OB 31 127) ?_; refine pV 7 115 (OB 31 255) ?_; refine pV 9 117 (OB 31 767) ?_; refine pV 10 118 (OB 31 1791) ?_; refine pV 11 119 (OB 31 3839) ?_; refine pV 12 120 (OB 31 7935) ?_; refine take_ (i := 8) (N := some 116) (v := ?_) (a' := ?_) (OB 31 8191) rfl rfl (take_ofW HT_.out HW_.out (by kernel_rfl)) (fun _ _ _ h => h) (Or.inl ⟨by rfl, ?_⟩) hHeld ?_ ?_; rotate_left
       ·
        rintro w' ⟨s0, s1, s2, s3, s4, s5⟩
        go_simp
        with_reducible rfl
       rotate_left
       ·
        simp only [Act.put, zA, zB, zC, i64_w, i32_w]; rfl
       refine take_ (i := 13) (N := some 121) (v := ?_) (a' := ?_) (OB 31 16383) rfl rfl (take_ofW HT_.out HW_.out (by kernel_rfl)) (fun _ _ _ h => h) (Or.inl ⟨by rfl, ?_⟩) hHeld ?_ ?_; rotate_left
       ·
        rintro w' ⟨s0, s1, s2, s3, s4, s5⟩
        go_simp
        with_reducible rfl
       rotate_left
       ·
        simp only [Act.put, zA, zB, zC, i64_w, i32_w]; rfl
       refine pV 14 122 (OB 31 32767) ?_; refine pV 15 123 (OB 31 65535) ?_; refine pV 16 124 (OB 31 131071) ?_; refine pV 17 125 (OB 31 262143) ?_; refine pV 18 126 (OB 31 524287) ?_; refine pV 19 127 (OB 31 1048575) ?_; refine pV 20 128 (OB 31 2097151) ?_; refine pV 23 131 (OB 31 10485759) ?_; refine pV 24 132 (OB 31 27262975) ?_; refine pV 25 133 (OB 31 60817407) ?_; refine pV 26 134 (OB 31 127926271) ?_; refine take_ (i := 21) (N := some 129) (v := ?_) (a' := ?_) (OB 31 130023423) rfl rfl (take_ofW HT_.out HW_.out (by kernel_rfl)) (fun _ _ _ h => h) (Or.inl ⟨by rfl, ?_⟩) hHeld ?_ ?_; rotate_left
       ·
        rintro w' ⟨s0, s1, s2, s3, s4, s5⟩
        go_simp
        with_reducible rfl
       rotate_left
       ·
        simp only [Act.put, zA, zB, zC, i64_w, i32_w]; rfl
       refine take_ (i := 27) (N := some 135) (v := ?_) (a' := ?_) (OB 31 264241151) rfl rfl (take_ofW HT_.out HW_.out (by kernel_rfl)) (fun _ _ _ h => h) (Or.inl ⟨by rfl, ?_⟩) hHeld ?_ ?_; rotate_left
       ·
        rintro w' ⟨s0, s1, s2, s3, s4, s5⟩
        go_simp
        with_reducible rfl
       rotate_left
       ·
        simp only [Act.put, zA, zB, zC, i64_w, i32_w]; rfl
       refine pV 28 136 (OB 31 532676607) ?_; refine one_ (i := 22) (N := some 130) (OB 31 536870911) rfl rfl (one_of HT_.out (by kernel_rfl)) (by decide) (fun K hK => ?_); refine goes_ Try.func34 (by kernel_rfl) rfl #[.slice Ao75 x5_45.length co75, .int .i64 (rd t491 x14_3)] (by rfl) rfl rfl (MA) ?_
       with_reducible refine (impl_ValueOf.calls k3 _ _ x5_45 (rd t491 x14_3) t497 _ ?side1 ?side2 A82.out).mono ?_
       (case side1 => repeat (first | exact (Kd.R_reads' HO_5.out).2.2 | (with_reducible refine Kd.C_alloc ?_ _) | (with_reducible refine Kd.C_drewN ?_ _) | (with_reducible refine Kd.C_drew ?_)))
       (case side2 => exact (Kd.R_reads' HO_5.out).2.1)
       rintro e w87 ⟨rfl, hb⟩; have HS0_ := (hb.cell (World.block_lt_of_cell? _ _ (hHeld.1))).trans (hHeld.1); have HS1_ := (hb.cell (World.block_lt_of_cell? _ _ (hHeld.2.1))).trans (hHeld.2.1); have HS2_ := (hb.cell (World.block_lt_of_cell? _ _ (hHeld.2.2.1))).trans (hHeld.2.2.1); have HS3_ := (hb.cell (World.block_lt_of_cell? _ _ (hHeld.2.2.2.1))).trans (hHeld.2.2.2.1); have HS4_ := (hb.cell (World.block_lt_of_cell? _ _ (hHeld.2.2.2.2.1))).trans (hHeld.2.2.2.2.1); have HS5_ := (hb.cell (World.block_lt_of_cell? _ _ (hHeld.2.2.2.2.2))).trans (hHeld.2.2.2.2.2); refine ⟨_, rfl, ?_⟩; have n0_ := Aside0.mk (Kd.R_below (RQ HO_5.out) hb); have n1_ := Aside0.mk (Kd.R_below (RQ HO_10.out) hb); have n2_ := Aside0.mk (Kd.R_below (RQ HO_13.out) hb); have n3_ := BB BK472.out hb; have n4_ := Aside0.mk (below_step (BL) hb); clear HO_5; clear HO_10; clear HO_13; clear BK472; clear HB; have HO_5 := n0_; have HO_10 := n1_; have HO_13 := n2_; have BK472 := n3_; have HB := n4_; clear n0_ n1_ n2_ n3_ n4_
       (try clear hb)
       (try clear hb2)
       (try clear hk)
       (try clear hi)
       refine hK.out _ _ ⟨HS0_, HS1_, HS2_, HS3_, HS4_, HS5_⟩ (fun hHeld => ?_); clear hK K; refine norm_ (a' := ?_) ?_ ?_; rotate_left
       ·
        show Act.put _ (some 130) _ = _; simp only [Act.put, zA, zB, zC, i64_w, i32_w]; rfl
       refine pV 29 137 (OB 31 1073741823) ?_; refine pV 30 138 (OB 31 2147483647) ?_; refine done_ (done_of HT_.out (by kernel_rfl)) ?_
       try go_wp2
       go_roundg k3
       case measure => have := HK1.out; have := HJ45.out; have := HK3.out; omega
       case rel => exact ⟨(wrap64 (x14_3 + 1)), SD, H', ⟨by have := HK1.out; have := HJ45.out; have := HK3.out; omega⟩, ⟨RQ HO_5.out⟩, ⟨RQ HO_10.out⟩, ⟨RQ HO_13.out⟩, ⟨BQ BK472.out⟩, ⟨BL⟩⟩

/-- THE ONE PURE STATEMENT of laws_FnAlone: yours. -/
def laws_FnAlone.Pure : Prop := ∀ (l0 : List Int), l0.length ≤ maxLen → l0.length * 1 ≤ 140737488351232 → (∀ x ∈ l0, (Lit.int .u8 x).wf = true) → ∃ k, laws_FnAlone.f k l0 = some true
theorem laws_FnAlone.walk (P : laws_FnAlone.Pure) (a0 : Option Addr) (len0 cap0 : Nat) (z0 : List Int) (w : World) (w0 : (a0 = none ∧ len0 = 0 ∧ cap0 = 0 ∧ z0 = []) ∨ ∃ x, a0 = some x ∧ len0 ≤ cap0 ∧ cap0 ≤ maxLen ∧ z0.length = cap0 ∧ (∀ i, i < z0.length → w.cell? (x.add i) = some (.int .u8 (z0.getD i 0))) ∧ ∀ n ∈ z0, (Lit.int .u8 n).wf = true) (y0 : len0 * 1 ≤ 140737488351232) :
  Calls Try.prog 12 #[.slice a0 len0 cap0] w fun e w' => e = .returned (.bool true) ∧ Below w.heap.size w w' := by
 obtain ⟨l0, rfl, hr0, hm0, hw0, hc0⟩ := ReadsInt.ofRowC w0
 obtain ⟨k, h⟩ := P l0 hm0 y0 hw0
 refine (laws_FnAlone.calls k _ _ l0 true w (Kd.C_of_reads (d := (0 : Int)) (h1 := fun _ => rfl) hr0) hc0 h).mono ?_
 rintro e w' ⟨rfl, hd⟩
 exact ⟨rfl, hd⟩

end Go.Proofs.Ytjmggbhgmenmcaa.Qal
