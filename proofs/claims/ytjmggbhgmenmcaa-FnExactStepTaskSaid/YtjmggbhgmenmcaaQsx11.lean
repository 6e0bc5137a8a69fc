-- Laid by myprint.py, a program of this session's own, over the kit's print. Not trusted: Lean checks it.
import Derived.Test.YtjmggbhgmenmcaaQsx0
import Derived.Test.YtjmggbhgmenmcaaQsx1
import Derived.Test.YtjmggbhgmenmcaaQsx5
import Derived.Test.YtjmggbhgmenmcaaQsx10
namespace Go.Proofs.Ytjmggbhgmenmcaa.Qs
open Go.RowKit Go.Proofs.YtjmggbhgmenmcaaW.PrintWords Go.Proofs.YtjmggbhgmenmcaaW.PrintLast Go.Proofs.YtjmggbhgmenmcaaW.PrintMore
attribute [local go_sem] Go.Proofs.Ytjmggbhgmenmcaa.StrCmp.gtr_less Go.Proofs.Ytjmggbhgmenmcaa.StrCmp.geq_less Go.Proofs.Ytjmggbhgmenmcaa.StrCmp.leq_less max2_int min2_int max_two min_two max_three min_three max_four min_four   -- for this text's walks alone
set_option linter.unusedVariables false
set_option linter.unusedSimpArgs false

/-! ### laws_FnExactStepTask: function 10 -/
mutual
def laws_FnExactStepTask.j0 : Nat → List Int → List Int → List Int → List Int → Bool → Int → Int → Int → Int → Int → Int → Int → Int → Int → Bool → Int → Int → Int → Int → Int → Int → Int → Int → Int → Int → Bool → Int → Int → Int → Int → Int → Int → Int → Int → Int → Int → Bool → Int → Option (Bool)
 | 0, _, _, _, _, _, _, _, _, _, _, _, _, _, _, _, _, _, _, _, _, _, _, _, _, _, _, _, _, _, _, _, _, _, _, _, _, _, _ => none
 | k + 1, x0, x5, x7, x8, x44, x396000, x396001, x396002, x396003, x396004, x396005, x396006, x396007, x396008, x396009, x396010, x425000, x425001, x425002, x425003, x425004, x425005, x425006, x425007, x425008, x425009, x425010, x454000, x454001, x454002, x454003, x454004, x454005, x454006, x454007, x454008, x454009, x454010 => if x44 = true then (none) else ((laws_toIntS.f k x0).bind fun t456 => ((laws_eqIntS.f k x7 t456).bind fun t459 => (if t459 = true then ((laws_markIntS.f k x7 1).bind fun bt460 => (if bt460.1 < 0 then (laws_FnExactStepTask.j1 k x0 x5 x8 true x396000 x396001 x396002 x396003 x396004 x396005 x396006 x396007 x396008 x396009 x396010 x425000 x425001 x425002 x425003 x425004 x425005 x425006 x425007 x425008 x425009 x425010) else ((laws_eqIntS.f k x8 x5).bind fun t462 => (if t462 = true then ((laws_eqTask.f x454000 x454001 x454002 x454003 x454004 x454005 x454006 x454007 x454008 x454009 x454010 x425000 x425001 x425002 x425003 x425004 x425005 x425006 x425007 x425008 x425009 x425010).bind fun t463 => (laws_FnExactStepTask.j1 k x0 x5 x8 (!t463) x396000 x396001 x396002 x396003 x396004 x396005 x396006 x396007 x396008 x396009 x396010 x425000 x425001 x425002 x425003 x425004 x425005 x425006 x425007 x425008 x425009 x425010)) else (laws_FnExactStepTask.j1 k x0 x5 x8 true x396000 x396001 x396002 x396003 x396004 x396005 x396006 x396007 x396008 x396009 x396010 x425000 x425001 x425002 x425003 x425004 x425005 x425006 x425007 x425008 x425009 x425010))))) else (none))))
def laws_FnExactStepTask.j1 : Nat → List Int → List Int → List Int → Bool → Int → Int → Int → Int → Int → Int → Int → Int → Int → Bool → Int → Int → Int → Int → Int → Int → Int → Int → Int → Int → Bool → Int → Option (Bool)
 | 0, _, _, _, _, _, _, _, _, _, _, _, _, _, _, _, _, _, _, _, _, _, _, _, _, _, _ => none
 | k + 1, x0, x5, x8, x66, x396000, x396001, x396002, x396003, x396004, x396005, x396006, x396007, x396008, x396009, x396010, x425000, x425001, x425002, x425003, x425004, x425005, x425006, x425007, x425008, x425009, x425010 => if x66 = true then (none) else ((laws_markIntS.f k x8 1).bind fun bt464 => ((laws_heldIntS.f k bt464.2 1).bind fun t466 => (if t466 < 0 then (none) else (if t466 = bt464.1 then ((laws_toIntS.f k x0).bind fun t467 => ((laws_toTask.f x396000 x396001 x396002 x396003 x396004 x396005 x396006 x396007 x396008 x396009 x396010).bind fun bt470 => ((impl_StepTask.f k t467 bt470.1 bt470.2.1 bt470.2.2.1 bt470.2.2.2.1 bt470.2.2.2.2.1 bt470.2.2.2.2.2.1 bt470.2.2.2.2.2.2.1 bt470.2.2.2.2.2.2.2.1 bt470.2.2.2.2.2.2.2.2.1 bt470.2.2.2.2.2.2.2.2.2.1 bt470.2.2.2.2.2.2.2.2.2.2).bind fun bt481 => ((laws_eqIntS.f k bt481.1 x5).bind fun t496 => (if t496 = true then ((laws_eqTask.f bt481.2.1 bt481.2.2.1 bt481.2.2.2.1 bt481.2.2.2.2.1 bt481.2.2.2.2.2.1 bt481.2.2.2.2.2.2.1 bt481.2.2.2.2.2.2.2.1 bt481.2.2.2.2.2.2.2.2.1 bt481.2.2.2.2.2.2.2.2.2.1 bt481.2.2.2.2.2.2.2.2.2.2.1 bt481.2.2.2.2.2.2.2.2.2.2.2 x425000 x425001 x425002 x425003 x425004 x425005 x425006 x425007 x425008 x425009 x425010).bind fun t497 => (laws_FnExactStepTask.j2 k bt464.2 bt464.1 (!t497))) else (laws_FnExactStepTask.j2 k bt464.2 bt464.1 true)))))) else (none)))))
def laws_FnExactStepTask.j2 : Nat → List Int → Int → Bool → Option (Bool)
 | 0, _, _, _ => none
 | k + 1, x8, x11, x95 => if x95 = true then (none) else ((laws_heldIntS.f k x8 1).bind fun t498 => (if t498 < 0 then (none) else (if t498 = x11 then (some true) else (none))))
end
def laws_FnExactStepTask.f (k : Nat) (l0 : List Int) (a1_0 : Int) (a1_1 : Int) (a1_2 : Int) (a1_3 : Int) (a1_4 : Int) (a1_5 : Int) (a1_6 : Int) (a1_7 : Int) (a1_8 : Int) (a1_9 : Bool) (a1_10 : Int) : Option (Bool) := if (l0.length : Int) > 1048576 then (some true) else ((laws_toIntS.f k l0).bind fun t396 => ((laws_toTask.f a1_0 a1_1 a1_2 a1_3 a1_4 a1_5 a1_6 a1_7 a1_8 a1_9 a1_10).bind fun bt399 => ((spec_StepTask.f k t396 bt399.1 bt399.2.1 bt399.2.2.1 bt399.2.2.2.1 bt399.2.2.2.2.1 bt399.2.2.2.2.2.1 bt399.2.2.2.2.2.2.1 bt399.2.2.2.2.2.2.2.1 bt399.2.2.2.2.2.2.2.2.1 bt399.2.2.2.2.2.2.2.2.2.1 bt399.2.2.2.2.2.2.2.2.2.2).bind fun bt410 => ((laws_toIntS.f k l0).bind fun t425 => ((laws_toTask.f a1_0 a1_1 a1_2 a1_3 a1_4 a1_5 a1_6 a1_7 a1_8 a1_9 a1_10).bind fun bt428 => ((impl_StepTask.f k t425 bt428.1 bt428.2.1 bt428.2.2.1 bt428.2.2.2.1 bt428.2.2.2.2.1 bt428.2.2.2.2.2.1 bt428.2.2.2.2.2.2.1 bt428.2.2.2.2.2.2.2.1 bt428.2.2.2.2.2.2.2.2.1 bt428.2.2.2.2.2.2.2.2.2.1 bt428.2.2.2.2.2.2.2.2.2.2).bind fun bt439 => ((laws_eqIntS.f k bt439.1 bt410.1).bind fun t454 => (if t454 = true then ((laws_eqTask.f bt439.2.1 bt439.2.2.1 bt439.2.2.2.1 bt439.2.2.2.2.1 bt439.2.2.2.2.2.1 bt439.2.2.2.2.2.2.1 bt439.2.2.2.2.2.2.2.1 bt439.2.2.2.2.2.2.2.2.1 bt439.2.2.2.2.2.2.2.2.2.1 bt439.2.2.2.2.2.2.2.2.2.2.1 bt439.2.2.2.2.2.2.2.2.2.2.2 bt410.2.1 bt410.2.2.1 bt410.2.2.2.1 bt410.2.2.2.2.1 bt410.2.2.2.2.2.1 bt410.2.2.2.2.2.2.1 bt410.2.2.2.2.2.2.2.1 bt410.2.2.2.2.2.2.2.2.1 bt410.2.2.2.2.2.2.2.2.2.1 bt410.2.2.2.2.2.2.2.2.2.2.1 bt410.2.2.2.2.2.2.2.2.2.2.2).bind fun t455 => (laws_FnExactStepTask.j0 k l0 bt410.1 t425 bt439.1 (!t455) a1_0 a1_1 a1_2 a1_3 a1_4 a1_5 a1_6 a1_7 a1_8 a1_9 a1_10 bt410.2.1 bt410.2.2.1 bt410.2.2.2.1 bt410.2.2.2.2.1 bt410.2.2.2.2.2.1 bt410.2.2.2.2.2.2.1 bt410.2.2.2.2.2.2.2.1 bt410.2.2.2.2.2.2.2.2.1 bt410.2.2.2.2.2.2.2.2.2.1 bt410.2.2.2.2.2.2.2.2.2.2.1 bt410.2.2.2.2.2.2.2.2.2.2.2 bt439.2.1 bt439.2.2.1 bt439.2.2.2.1 bt439.2.2.2.2.1 bt439.2.2.2.2.2.1 bt439.2.2.2.2.2.2.1 bt439.2.2.2.2.2.2.2.1 bt439.2.2.2.2.2.2.2.2.1 bt439.2.2.2.2.2.2.2.2.2.1 bt439.2.2.2.2.2.2.2.2.2.2.1 bt439.2.2.2.2.2.2.2.2.2.2.2)) else (laws_FnExactStepTask.j0 k l0 bt410.1 t425 bt439.1 true a1_0 a1_1 a1_2 a1_3 a1_4 a1_5 a1_6 a1_7 a1_8 a1_9 a1_10 bt410.2.1 bt410.2.2.1 bt410.2.2.2.1 bt410.2.2.2.2.1 bt410.2.2.2.2.2.1 bt410.2.2.2.2.2.2.1 bt410.2.2.2.2.2.2.2.1 bt410.2.2.2.2.2.2.2.2.1 bt410.2.2.2.2.2.2.2.2.2.1 bt410.2.2.2.2.2.2.2.2.2.2.1 bt410.2.2.2.2.2.2.2.2.2.2.2 bt439.2.1 bt439.2.2.1 bt439.2.2.2.1 bt439.2.2.2.2.1 bt439.2.2.2.2.2.1 bt439.2.2.2.2.2.2.1 bt439.2.2.2.2.2.2.2.1 bt439.2.2.2.2.2.2.2.2.1 bt439.2.2.2.2.2.2.2.2.2.1 bt439.2.2.2.2.2.2.2.2.2.2.1 bt439.2.2.2.2.2.2.2.2.2.2.2)))))))))
theorem laws_FnExactStepTask.mono_l : ∀ k, (∀ y0 y1 y2 y3 y4 y5 y6 y7 y8 y9 y10 y11 y12 y13 y14 y15 y16 y17 y18 y19 y20 y21 y22 y23 y24 y25 y26 y27 y28 y29 y30 y31 y32 y33 y34 y35 y36 y37, LeO (laws_FnExactStepTask.j0 k y0 y1 y2 y3 y4 y5 y6 y7 y8 y9 y10 y11 y12 y13 y14 y15 y16 y17 y18 y19 y20 y21 y22 y23 y24 y25 y26 y27 y28 y29 y30 y31 y32 y33 y34 y35 y36 y37) (laws_FnExactStepTask.j0 (k + 1) y0 y1 y2 y3 y4 y5 y6 y7 y8 y9 y10 y11 y12 y13 y14 y15 y16 y17 y18 y19 y20 y21 y22 y23 y24 y25 y26 y27 y28 y29 y30 y31 y32 y33 y34 y35 y36 y37)) ∧ (∀ y0 y1 y2 y3 y4 y5 y6 y7 y8 y9 y10 y11 y12 y13 y14 y15 y16 y17 y18 y19 y20 y21 y22 y23 y24 y25, LeO (laws_FnExactStepTask.j1 k y0 y1 y2 y3 y4 y5 y6 y7 y8 y9 y10 y11 y12 y13 y14 y15 y16 y17 y18 y19 y20 y21 y22 y23 y24 y25) (laws_FnExactStepTask.j1 (k + 1) y0 y1 y2 y3 y4 y5 y6 y7 y8 y9 y10 y11 y12 y13 y14 y15 y16 y17 y18 y19 y20 y21 y22 y23 y24 y25)) ∧ (∀ y0 y1 y2, LeO (laws_FnExactStepTask.j2 k y0 y1 y2) (laws_FnExactStepTask.j2 (k + 1) y0 y1 y2))
 | 0 => ⟨fun _ _ _ _ _ _ _ _ _ _ _ _ _ _ _ _ _ _ _ _ _ _ _ _ _ _ _ _ _ _ _ _ _ _ _ _ _ _ r h => by simp [laws_FnExactStepTask.j0] at h, fun _ _ _ _ _ _ _ _ _ _ _ _ _ _ _ _ _ _ _ _ _ _ _ _ _ _ r h => by simp [laws_FnExactStepTask.j1] at h, fun _ _ _ r h => by simp [laws_FnExactStepTask.j2] at h⟩
 | k + 1 => by
  obtain ⟨ih0, ih1, ih2⟩ := laws_FnExactStepTask.mono_l k
  refine ⟨?_, ?_, ?_⟩
  ·
   intro y0 y1 y2 y3 y4 y5 y6 y7 y8 y9 y10 y11 y12 y13 y14 y15 y16 y17 y18 y19 y20 y21 y22 y23 y24 y25 y26 y27 y28 y29 y30 y31 y32 y33 y34 y35 y36 y37
   unfold laws_FnExactStepTask.j0
   repeat' first
   | (with_reducible exact ih0 _ _ _ _ _ _ _ _ _ _ _ _ _ _ _ _ _ _ _ _ _ _ _ _ _ _ _ _ _ _ _ _ _ _ _ _ _ _)
   | (with_reducible exact ih1 _ _ _ _ _ _ _ _ _ _ _ _ _ _ _ _ _ _ _ _ _ _ _ _ _ _)
   | (with_reducible exact ih2 _ _ _)
   | (with_reducible exact impl_StepTask.mono _ _ _ _ _ _ _ _ _ _ _ _ _)
   | (with_reducible exact laws_eqIntS.mono _ _ _)
   | (with_reducible exact laws_heldIntS.mono _ _ _)
   | (with_reducible exact laws_markIntS.mono _ _ _)
   | (with_reducible exact laws_toIntS.mono _ _)
   | (with_reducible exact spec_StepTask.mono _ _ _ _ _ _ _ _ _ _ _ _ _)
   | (with_reducible exact LeO.refl _)
   | (with_reducible exact LeO.none _)
   | (with_reducible refine LeO.ite ?_ ?_)
   | (with_reducible refine LeO.bind ?_ (fun _ => ?_))
   | exact ih0 _ _ _ _ _ _ _ _ _ _ _ _ _ _ _ _ _ _ _ _ _ _ _ _ _ _ _ _ _ _ _ _ _ _ _ _ _ _
   | exact ih1 _ _ _ _ _ _ _ _ _ _ _ _ _ _ _ _ _ _ _ _ _ _ _ _ _ _
   | exact ih2 _ _ _
   | exact impl_StepTask.mono _ _ _ _ _ _ _ _ _ _ _ _ _
   | exact laws_eqIntS.mono _ _ _
   | exact laws_heldIntS.mono _ _ _
   | exact laws_markIntS.mono _ _ _
   | exact laws_toIntS.mono _ _
   | exact spec_StepTask.mono _ _ _ _ _ _ _ _ _ _ _ _ _
   | exact LeO.none _
   | refine LeO.ite ?_ ?_
   | refine LeO.bind ?_ (fun _ => ?_)
  ·
   intro y0 y1 y2 y3 y4 y5 y6 y7 y8 y9 y10 y11 y12 y13 y14 y15 y16 y17 y18 y19 y20 y21 y22 y23 y24 y25
   unfold laws_FnExactStepTask.j1
   repeat' first
   | (with_reducible exact ih0 _ _ _ _ _ _ _ _ _ _ _ _ _ _ _ _ _ _ _ _ _ _ _ _ _ _ _ _ _ _ _ _ _ _ _ _ _ _)
   | (with_reducible exact ih1 _ _ _ _ _ _ _ _ _ _ _ _ _ _ _ _ _ _ _ _ _ _ _ _ _ _)
   | (with_reducible exact ih2 _ _ _)
   | (with_reducible exact impl_StepTask.mono _ _ _ _ _ _ _ _ _ _ _ _ _)
   | (with_reducible exact laws_eqIntS.mono _ _ _)
   | (with_reducible exact laws_heldIntS.mono _ _ _)
   | (with_reducible exact laws_markIntS.mono _ _ _)
   | (with_reducible exact laws_toIntS.mono _ _)
   | (with_reducible exact spec_StepTask.mono _ _ _ _ _ _ _ _ _ _ _ _ _)
   | (with_reducible exact LeO.refl _)
   | (with_reducible exact LeO.none _)
   | (with_reducible refine LeO.ite ?_ ?_)
   | (with_reducible refine LeO.bind ?_ (fun _ => ?_))
   | exact ih0 _ _ _ _ _ _ _ _ _ _ _ _ _ _ _ _ _ _ _ _ _ _ _ _ _ _ _ _ _ _ _ _ _ _ _ _ _ _
   | exact ih1 _ _ _ _ _ _ _ _ _ _ _ _ _ _ _ _ _ _ _ _ _ _ _ _ _ _
   | exact ih2 _ _ _
   | exact impl_StepTask.mono _ _ _ _ _ _ _ _ _ _ _ _ _
   | exact laws_eqIntS.mono _ _ _
   | exact laws_heldIntS.mono _ _ _
   | exact laws_markIntS.mono _ _ _
   | exact laws_toIntS.mono _ _
   | exact spec_StepTask.mono _ _ _ _ _ _ _ _ _ _ _ _ _
   | exact LeO.none _
   | refine LeO.ite ?_ ?_
   | refine LeO.bind ?_ (fun _ => ?_)
  ·
   intro y0 y1 y2
   unfold laws_FnExactStepTask.j2
   repeat' first
   | (with_reducible exact ih0 _ _ _ _ _ _ _ _ _ _ _ _ _ _ _ _ _ _ _ _ _ _ _ _ _ _ _ _ _ _ _ _ _ _ _ _ _ _)
   | (with_reducible exact ih1 _ _ _ _ _ _ _ _ _ _ _ _ _ _ _ _ _ _ _ _ _ _ _ _ _ _)
   | (with_reducible exact ih2 _ _ _)
   | (with_reducible exact impl_StepTask.mono _ _ _ _ _ _ _ _ _ _ _ _ _)
   | (with_reducible exact laws_eqIntS.mono _ _ _)
   | (with_reducible exact laws_heldIntS.mono _ _ _)
   | (with_reducible exact laws_markIntS.mono _ _ _)
   | (with_reducible exact laws_toIntS.mono _ _)
   | (with_reducible exact spec_StepTask.mono _ _ _ _ _ _ _ _ _ _ _ _ _)
   | (with_reducible exact LeO.refl _)
   | (with_reducible exact LeO.none _)
   | (with_reducible refine LeO.ite ?_ ?_)
   | (with_reducible refine LeO.bind ?_ (fun _ => ?_))
   | exact ih0 _ _ _ _ _ _ _ _ _ _ _ _ _ _ _ _ _ _ _ _ _ _ _ _ _ _ _ _ _ _ _ _ _ _ _ _ _ _
   | exact ih1 _ _ _ _ _ _ _ _ _ _ _ _ _ _ _ _ _ _ _ _ _ _ _ _ _ _
   | exact ih2 _ _ _
   | exact impl_StepTask.mono _ _ _ _ _ _ _ _ _ _ _ _ _
   | exact laws_eqIntS.mono _ _ _
   | exact laws_heldIntS.mono _ _ _
   | exact laws_markIntS.mono _ _ _
   | exact laws_toIntS.mono _ _
   | exact spec_StepTask.mono _ _ _ _ _ _ _ _ _ _ _ _ _
   | exact LeO.none _
   | refine LeO.ite ?_ ?_
   | refine LeO.bind ?_ (fun _ => ?_)
theorem laws_FnExactStepTask.mono : ∀ a0 a1 a2 a3 a4 a5 a6 a7 a8 a9 a10 a11 k, LeO (laws_FnExactStepTask.f k a0 a1 a2 a3 a4 a5 a6 a7 a8 a9 a10 a11) (laws_FnExactStepTask.f (k + 1) a0 a1 a2 a3 a4 a5 a6 a7 a8 a9 a10 a11) := by
 intro a0 a1 a2 a3 a4 a5 a6 a7 a8 a9 a10 a11 k
 obtain ⟨ih0, ih1, ih2⟩ := laws_FnExactStepTask.mono_l k
 unfold laws_FnExactStepTask.f
 repeat' first
   | (with_reducible exact ih0 _ _ _ _ _ _ _ _ _ _ _ _ _ _ _ _ _ _ _ _ _ _ _ _ _ _ _ _ _ _ _ _ _ _ _ _ _ _)
   | (with_reducible exact ih1 _ _ _ _ _ _ _ _ _ _ _ _ _ _ _ _ _ _ _ _ _ _ _ _ _ _)
   | (with_reducible exact ih2 _ _ _)
   | (with_reducible exact impl_StepTask.mono _ _ _ _ _ _ _ _ _ _ _ _ _)
   | (with_reducible exact laws_eqIntS.mono _ _ _)
   | (with_reducible exact laws_heldIntS.mono _ _ _)
   | (with_reducible exact laws_markIntS.mono _ _ _)
   | (with_reducible exact laws_toIntS.mono _ _)
   | (with_reducible exact spec_StepTask.mono _ _ _ _ _ _ _ _ _ _ _ _ _)
   | (with_reducible exact LeO.refl _)
   | (with_reducible exact LeO.none _)
   | (with_reducible refine LeO.ite ?_ ?_)
   | (with_reducible refine LeO.bind ?_ (fun _ => ?_))
   | exact ih0 _ _ _ _ _ _ _ _ _ _ _ _ _ _ _ _ _ _ _ _ _ _ _ _ _ _ _ _ _ _ _ _ _ _ _ _ _ _
   | exact ih1 _ _ _ _ _ _ _ _ _ _ _ _ _ _ _ _ _ _ _ _ _ _ _ _ _ _
   | exact ih2 _ _ _
   | exact impl_StepTask.mono _ _ _ _ _ _ _ _ _ _ _ _ _
   | exact laws_eqIntS.mono _ _ _
   | exact laws_heldIntS.mono _ _ _
   | exact laws_markIntS.mono _ _ _
   | exact laws_toIntS.mono _ _
   | exact spec_StepTask.mono _ _ _ _ _ _ _ _ _ _ _ _ _
   | exact LeO.none _
   | refine LeO.ite ?_ ?_
   | refine LeO.bind ?_ (fun _ => ?_)
def laws_FnExactStepTask.T3 : Bool × List (List Nat × List Nat) := (true, [([], []), ([0], [0]), ([], []), ([2, 1], [2]), ([1, 3, 3], [1, 3]), ([4], [4]), ([5], [5]), ([5], [5]), ([], []), ([6, 4, 0, 1, 2, 3, 4, 5, 6, 8], [6]), ([8, 7, 9, 0, 1, 2, 3, 4, 5, 6, 7, 8, 9], [7, 8])])
def laws_FnExactStepTask.B3 : List Nat := [0, 1, 0, 7, 15, 31, 63, 63, 0, 383, 1023]
theorem laws_FnExactStepTask.tab3 : rtab .any (opsOf Try.f10 3) = laws_FnExactStepTask.T3 := by kernel_rfl
theorem laws_FnExactStepTask.bits3 : waitsOk laws_FnExactStepTask.T3.2 laws_FnExactStepTask.B3 = true := by kernel_rfl
def laws_FnExactStepTask.T22 : Bool × List (List Nat × List Nat) := (true, [([], []), ([0], [0]), ([], []), ([2, 1], [2]), ([1, 3, 3], [1, 3]), ([4], [4]), ([5], [5]), ([5], [5]), ([], []), ([6, 4, 0, 1, 2, 3, 4, 5, 6, 8], [6]), ([8, 7, 9, 0, 1, 2, 3, 4, 5, 6, 7, 8, 9], [7, 8])])
def laws_FnExactStepTask.B22 : List Nat := [0, 1, 0, 7, 15, 31, 63, 63, 0, 383, 1023]
theorem laws_FnExactStepTask.tab22 : rtab .any (opsOf Try.f10 22) = laws_FnExactStepTask.T22 := by kernel_rfl
theorem laws_FnExactStepTask.bits22 : waitsOk laws_FnExactStepTask.T22.2 laws_FnExactStepTask.B22 = true := by kernel_rfl
set_option maxHeartbeats 8000000 in
set_option maxRecDepth 100000 in
theorem laws_FnExactStepTask.calls (k : Nat) (A0 : Option Addr) (c0 : Nat) (l0 : List Int) (a1_0 : Int) (a1_1 : Int) (a1_2 : Int) (a1_3 : Int) (a1_4 : Int) (a1_5 : Int) (a1_6 : Int) (a1_7 : Int) (a1_8 : Int) (a1_9 : Bool) (a1_10 : Int) (r : Bool) (w : World) (hr0 : Kd.C (Kd.int .i64) w A0 l0.length l0) (hc0 : l0.length ≤ c0) (h : laws_FnExactStepTask.f k l0 a1_0 a1_1 a1_2 a1_3 a1_4 a1_5 a1_6 a1_7 a1_8 a1_9 a1_10 = some r) :
  Calls Try.prog 10 #[.slice A0 l0.length c0, .agg #[.int .i64 a1_0, .int .i64 a1_1, .int .i64 a1_2, .int .i64 a1_3, .int .i64 a1_4, .int .i64 a1_5, .int .i64 a1_6, .int .i64 a1_7, .int .i64 a1_8, .bool a1_9, .int .i64 a1_10]] w fun e w' => e = .returned (.bool r) ∧ Below w.heap.size w w' := by
 have hu45 := Try.underlying45
 have hu46 := Try.underlying46
 have HR0 := Aside0.mk hr0
 have HC0 := Aside0.mk hc0
 clear hr0 hc0
 have HB := Aside0.mk (Below.refl w.heap.size w)
 have H : (if (l0.length : Int) > 1048576 then (some true) else ((laws_toIntS.f k l0).bind fun t396 => ((laws_toTask.f a1_0 a1_1 a1_2 a1_3 a1_4 a1_5 a1_6 a1_7 a1_8 a1_9 a1_10).bind fun bt399 => ((spec_StepTask.f k t396 bt399.1 bt399.2.1 bt399.2.2.1 bt399.2.2.2.1 bt399.2.2.2.2.1 bt399.2.2.2.2.2.1 bt399.2.2.2.2.2.2.1 bt399.2.2.2.2.2.2.2.1 bt399.2.2.2.2.2.2.2.2.1 bt399.2.2.2.2.2.2.2.2.2.1 bt399.2.2.2.2.2.2.2.2.2.2).bind fun bt410 => ((laws_toIntS.f k l0).bind fun t425 => ((laws_toTask.f a1_0 a1_1 a1_2 a1_3 a1_4 a1_5 a1_6 a1_7 a1_8 a1_9 a1_10).bind fun bt428 => ((impl_StepTask.f k t425 bt428.1 bt428.2.1 bt428.2.2.1 bt428.2.2.2.1 bt428.2.2.2.2.1 bt428.2.2.2.2.2.1 bt428.2.2.2.2.2.2.1 bt428.2.2.2.2.2.2.2.1 bt428.2.2.2.2.2.2.2.2.1 bt428.2.2.2.2.2.2.2.2.2.1 bt428.2.2.2.2.2.2.2.2.2.2).bind fun bt439 => ((laws_eqIntS.f k bt439.1 bt410.1).bind fun t454 => (if t454 = true then ((laws_eqTask.f bt439.2.1 bt439.2.2.1 bt439.2.2.2.1 bt439.2.2.2.2.1 bt439.2.2.2.2.2.1 bt439.2.2.2.2.2.2.1 bt439.2.2.2.2.2.2.2.1 bt439.2.2.2.2.2.2.2.2.1 bt439.2.2.2.2.2.2.2.2.2.1 bt439.2.2.2.2.2.2.2.2.2.2.1 bt439.2.2.2.2.2.2.2.2.2.2.2 bt410.2.1 bt410.2.2.1 bt410.2.2.2.1 bt410.2.2.2.2.1 bt410.2.2.2.2.2.1 bt410.2.2.2.2.2.2.1 bt410.2.2.2.2.2.2.2.1 bt410.2.2.2.2.2.2.2.2.1 bt410.2.2.2.2.2.2.2.2.2.1 bt410.2.2.2.2.2.2.2.2.2.2.1 bt410.2.2.2.2.2.2.2.2.2.2.2).bind fun t455 => (laws_FnExactStepTask.j0 k l0 bt410.1 t425 bt439.1 (!t455) a1_0 a1_1 a1_2 a1_3 a1_4 a1_5 a1_6 a1_7 a1_8 a1_9 a1_10 bt410.2.1 bt410.2.2.1 bt410.2.2.2.1 bt410.2.2.2.2.1 bt410.2.2.2.2.2.1 bt410.2.2.2.2.2.2.1 bt410.2.2.2.2.2.2.2.1 bt410.2.2.2.2.2.2.2.2.1 bt410.2.2.2.2.2.2.2.2.2.1 bt410.2.2.2.2.2.2.2.2.2.2.1 bt410.2.2.2.2.2.2.2.2.2.2.2 bt439.2.1 bt439.2.2.1 bt439.2.2.2.1 bt439.2.2.2.2.1 bt439.2.2.2.2.2.1 bt439.2.2.2.2.2.2.1 bt439.2.2.2.2.2.2.2.1 bt439.2.2.2.2.2.2.2.2.1 bt439.2.2.2.2.2.2.2.2.2.1 bt439.2.2.2.2.2.2.2.2.2.2.1 bt439.2.2.2.2.2.2.2.2.2.2.2)) else (laws_FnExactStepTask.j0 k l0 bt410.1 t425 bt439.1 true a1_0 a1_1 a1_2 a1_3 a1_4 a1_5 a1_6 a1_7 a1_8 a1_9 a1_10 bt410.2.1 bt410.2.2.1 bt410.2.2.2.1 bt410.2.2.2.2.1 bt410.2.2.2.2.2.1 bt410.2.2.2.2.2.2.1 bt410.2.2.2.2.2.2.2.1 bt410.2.2.2.2.2.2.2.2.1 bt410.2.2.2.2.2.2.2.2.2.1 bt410.2.2.2.2.2.2.2.2.2.2.1 bt410.2.2.2.2.2.2.2.2.2.2.2 bt439.2.1 bt439.2.2.1 bt439.2.2.2.1 bt439.2.2.2.2.1 bt439.2.2.2.2.2.1 bt439.2.2.2.2.2.2.1 bt439.2.2.2.2.2.2.2.1 bt439.2.2.2.2.2.2.2.2.1 bt439.2.2.2.2.2.2.2.2.2.1 bt439.2.2.2.2.2.2.2.2.2.2.1 bt439.2.2.2.2.2.2.2.2.2.2.2)))))))))) = some r := h
 clear h
 by_cases c3 : (l0.length : Int) > 1048576
 ·
  rw [if_pos c3] at H
  have c3b0 : decide (1048576 < (l0.length : Int)) = true := decide_eq_true c3
  have c3b1 : decide (1048576 < l0.length) = true := decide_eq_true (by omega)
  clear c3
  obtain rfl := Option.some.inj H
  go_enter Try.func10, Try.ntmps10
  go_wp2_with (first | ((with_reducible refine gate_dst (N := 3) rfl ?_); refine bE 3 #[.int .i64 a1_0, .int .i64 a1_1, .int .i64 a1_2, .int .i64 a1_3, .int .i64 a1_4, .int .i64 a1_5, .int .i64 a1_6, .int .i64 a1_7, .int .i64 a1_8, .bool a1_9, .int .i64 a1_10] 45 ?_; intro gb395 hg w4 hbox hb; have BK395 := Aside0.mk (hbox); have GW395 : Aside0 (w.heap.size ≤ gb395) := GS; have GE395 : Aside0 (w.heap.size ≤ gb395) := GS; replace HB := Aside0.mk (below_step (BL) hb); clear hb hbox hg))
  go_ret
  exact ⟨EE, BL⟩
 rw [if_neg c3] at H
 have c3b0 : decide (1048576 < (l0.length : Int)) = false := decide_eq_false c3
 have c3b1 : decide (1048576 < l0.length) = false := decide_eq_false (by omega)
 clear c3
 replace H := Option.bind_eq_some_iff.mp H
 obtain ⟨t396, A50, H⟩ := H
 replace H : ((laws_toTask.f a1_0 a1_1 a1_2 a1_3 a1_4 a1_5 a1_6 a1_7 a1_8 a1_9 a1_10).bind fun bt399 => ((spec_StepTask.f k t396 bt399.1 bt399.2.1 bt399.2.2.1 bt399.2.2.2.1 bt399.2.2.2.2.1 bt399.2.2.2.2.2.1 bt399.2.2.2.2.2.2.1 bt399.2.2.2.2.2.2.2.1 bt399.2.2.2.2.2.2.2.2.1 bt399.2.2.2.2.2.2.2.2.2.1 bt399.2.2.2.2.2.2.2.2.2.2).bind fun bt410 => ((laws_toIntS.f k l0).bind fun t425 => ((laws_toTask.f a1_0 a1_1 a1_2 a1_3 a1_4 a1_5 a1_6 a1_7 a1_8 a1_9 a1_10).bind fun bt428 => ((impl_StepTask.f k t425 bt428.1 bt428.2.1 bt428.2.2.1 bt428.2.2.2.1 bt428.2.2.2.2.1 bt428.2.2.2.2.2.1 bt428.2.2.2.2.2.2.1 bt428.2.2.2.2.2.2.2.1 bt428.2.2.2.2.2.2.2.2.1 bt428.2.2.2.2.2.2.2.2.2.1 bt428.2.2.2.2.2.2.2.2.2.2).bind fun bt439 => ((laws_eqIntS.f k bt439.1 bt410.1).bind fun t454 => (if t454 = true then ((laws_eqTask.f bt439.2.1 bt439.2.2.1 bt439.2.2.2.1 bt439.2.2.2.2.1 bt439.2.2.2.2.2.1 bt439.2.2.2.2.2.2.1 bt439.2.2.2.2.2.2.2.1 bt439.2.2.2.2.2.2.2.2.1 bt439.2.2.2.2.2.2.2.2.2.1 bt439.2.2.2.2.2.2.2.2.2.2.1 bt439.2.2.2.2.2.2.2.2.2.2.2 bt410.2.1 bt410.2.2.1 bt410.2.2.2.1 bt410.2.2.2.2.1 bt410.2.2.2.2.2.1 bt410.2.2.2.2.2.2.1 bt410.2.2.2.2.2.2.2.1 bt410.2.2.2.2.2.2.2.2.1 bt410.2.2.2.2.2.2.2.2.2.1 bt410.2.2.2.2.2.2.2.2.2.2.1 bt410.2.2.2.2.2.2.2.2.2.2.2).bind fun t455 => (laws_FnExactStepTask.j0 k l0 bt410.1 t425 bt439.1 (!t455) a1_0 a1_1 a1_2 a1_3 a1_4 a1_5 a1_6 a1_7 a1_8 a1_9 a1_10 bt410.2.1 bt410.2.2.1 bt410.2.2.2.1 bt410.2.2.2.2.1 bt410.2.2.2.2.2.1 bt410.2.2.2.2.2.2.1 bt410.2.2.2.2.2.2.2.1 bt410.2.2.2.2.2.2.2.2.1 bt410.2.2.2.2.2.2.2.2.2.1 bt410.2.2.2.2.2.2.2.2.2.2.1 bt410.2.2.2.2.2.2.2.2.2.2.2 bt439.2.1 bt439.2.2.1 bt439.2.2.2.1 bt439.2.2.2.2.1 bt439.2.2.2.2.2.1 bt439.2.2.2.2.2.2.1 bt439.2.2.2.2.2.2.2.1 bt439.2.2.2.2.2.2.2.2.1 bt439.2.2.2.2.2.2.2.2.2.1 bt439.2.2.2.2.2.2.2.2.2.2.1 bt439.2.2.2.2.2.2.2.2.2.2.2)) else (laws_FnExactStepTask.j0 k l0 bt410.1 t425 bt439.1 true a1_0 a1_1 a1_2 a1_3 a1_4 a1_5 a1_6 a1_7 a1_8 a1_9 a1_10 bt410.2.1 bt410.2.2.1 bt410.2.2.2.1 bt410.2.2.2.2.1 bt410.2.2.2.2.2.1 bt410.2.2.2.2.2.2.1 bt410.2.2.2.2.2.2.2.1 bt410.2.2.2.2.2.2.2.2.1 bt410.2.2.2.2.2.2.2.2.2.1 bt410.2.2.2.2.2.2.2.2.2.2.1 bt410.2.2.2.2.2.2.2.2.2.2.2 bt439.2.1 bt439.2.2.1 bt439.2.2.2.1 bt439.2.2.2.2.1 bt439.2.2.2.2.2.1 bt439.2.2.2.2.2.2.1 bt439.2.2.2.2.2.2.2.1 bt439.2.2.2.2.2.2.2.2.1 bt439.2.2.2.2.2.2.2.2.2.1 bt439.2.2.2.2.2.2.2.2.2.2.1 bt439.2.2.2.2.2.2.2.2.2.2.2)))))))) = some r := H
 have A5 := Aside0.mk A50
 clear A50
 replace H := Option.bind_eq_some_iff.mp H
 obtain ⟨⟨t399, t400, t401, t402, t403, t404, t405, t406, t407, t408, t409⟩, A60, H⟩ := H
 replace H : ((spec_StepTask.f k t396 t399 t400 t401 t402 t403 t404 t405 t406 t407 t408 t409).bind fun bt410 => ((laws_toIntS.f k l0).bind fun t425 => ((laws_toTask.f a1_0 a1_1 a1_2 a1_3 a1_4 a1_5 a1_6 a1_7 a1_8 a1_9 a1_10).bind fun bt428 => ((impl_StepTask.f k t425 bt428.1 bt428.2.1 bt428.2.2.1 bt428.2.2.2.1 bt428.2.2.2.2.1 bt428.2.2.2.2.2.1 bt428.2.2.2.2.2.2.1 bt428.2.2.2.2.2.2.2.1 bt428.2.2.2.2.2.2.2.2.1 bt428.2.2.2.2.2.2.2.2.2.1 bt428.2.2.2.2.2.2.2.2.2.2).bind fun bt439 => ((laws_eqIntS.f k bt439.1 bt410.1).bind fun t454 => (if t454 = true then ((laws_eqTask.f bt439.2.1 bt439.2.2.1 bt439.2.2.2.1 bt439.2.2.2.2.1 bt439.2.2.2.2.2.1 bt439.2.2.2.2.2.2.1 bt439.2.2.2.2.2.2.2.1 bt439.2.2.2.2.2.2.2.2.1 bt439.2.2.2.2.2.2.2.2.2.1 bt439.2.2.2.2.2.2.2.2.2.2.1 bt439.2.2.2.2.2.2.2.2.2.2.2 bt410.2.1 bt410.2.2.1 bt410.2.2.2.1 bt410.2.2.2.2.1 bt410.2.2.2.2.2.1 bt410.2.2.2.2.2.2.1 bt410.2.2.2.2.2.2.2.1 bt410.2.2.2.2.2.2.2.2.1 bt410.2.2.2.2.2.2.2.2.2.1 bt410.2.2.2.2.2.2.2.2.2.2.1 bt410.2.2.2.2.2.2.2.2.2.2.2).bind fun t455 => (laws_FnExactStepTask.j0 k l0 bt410.1 t425 bt439.1 (!t455) a1_0 a1_1 a1_2 a1_3 a1_4 a1_5 a1_6 a1_7 a1_8 a1_9 a1_10 bt410.2.1 bt410.2.2.1 bt410.2.2.2.1 bt410.2.2.2.2.1 bt410.2.2.2.2.2.1 bt410.2.2.2.2.2.2.1 bt410.2.2.2.2.2.2.2.1 bt410.2.2.2.2.2.2.2.2.1 bt410.2.2.2.2.2.2.2.2.2.1 bt410.2.2.2.2.2.2.2.2.2.2.1 bt410.2.2.2.2.2.2.2.2.2.2.2 bt439.2.1 bt439.2.2.1 bt439.2.2.2.1 bt439.2.2.2.2.1 bt439.2.2.2.2.2.1 bt439.2.2.2.2.2.2.1 bt439.2.2.2.2.2.2.2.1 bt439.2.2.2.2.2.2.2.2.1 bt439.2.2.2.2.2.2.2.2.2.1 bt439.2.2.2.2.2.2.2.2.2.2.1 bt439.2.2.2.2.2.2.2.2.2.2.2)) else (laws_FnExactStepTask.j0 k l0 bt410.1 t425 bt439.1 true a1_0 a1_1 a1_2 a1_3 a1_4 a1_5 a1_6 a1_7 a1_8 a1_9 a1_10 bt410.2.1 bt410.2.2.1 bt410.2.2.2.1 bt410.2.2.2.2.1 bt410.2.2.2.2.2.1 bt410.2.2.2.2.2.2.1 bt410.2.2.2.2.2.2.2.1 bt410.2.2.2.2.2.2.2.2.1 bt410.2.2.2.2.2.2.2.2.2.1 bt410.2.2.2.2.2.2.2.2.2.2.1 bt410.2.2.2.2.2.2.2.2.2.2.2 bt439.2.1 bt439.2.2.1 bt439.2.2.2.1 bt439.2.2.2.2.1 bt439.2.2.2.2.2.1 bt439.2.2.2.2.2.2.1 bt439.2.2.2.2.2.2.2.1 bt439.2.2.2.2.2.2.2.2.1 bt439.2.2.2.2.2.2.2.2.2.1 bt439.2.2.2.2.2.2.2.2.2.2.1 bt439.2.2.2.2.2.2.2.2.2.2.2))))))) = some r := H
 have A6 := Aside0.mk A60
 clear A60
 replace H := Option.bind_eq_some_iff.mp H
 obtain ⟨⟨t410, t413, t414, t415, t416, t417, t418, t419, t420, t421, t422, t423⟩, A70, H⟩ := H
 replace H : ((laws_toIntS.f k l0).bind fun t425 => ((laws_toTask.f a1_0 a1_1 a1_2 a1_3 a1_4 a1_5 a1_6 a1_7 a1_8 a1_9 a1_10).bind fun bt428 => ((impl_StepTask.f k t425 bt428.1 bt428.2.1 bt428.2.2.1 bt428.2.2.2.1 bt428.2.2.2.2.1 bt428.2.2.2.2.2.1 bt428.2.2.2.2.2.2.1 bt428.2.2.2.2.2.2.2.1 bt428.2.2.2.2.2.2.2.2.1 bt428.2.2.2.2.2.2.2.2.2.1 bt428.2.2.2.2.2.2.2.2.2.2).bind fun bt439 => ((laws_eqIntS.f k bt439.1 t410).bind fun t454 => (if t454 = true then ((laws_eqTask.f bt439.2.1 bt439.2.2.1 bt439.2.2.2.1 bt439.2.2.2.2.1 bt439.2.2.2.2.2.1 bt439.2.2.2.2.2.2.1 bt439.2.2.2.2.2.2.2.1 bt439.2.2.2.2.2.2.2.2.1 bt439.2.2.2.2.2.2.2.2.2.1 bt439.2.2.2.2.2.2.2.2.2.2.1 bt439.2.2.2.2.2.2.2.2.2.2.2 t413 t414 t415 t416 t417 t418 t419 t420 t421 t422 t423).bind fun t455 => (laws_FnExactStepTask.j0 k l0 t410 t425 bt439.1 (!t455) a1_0 a1_1 a1_2 a1_3 a1_4 a1_5 a1_6 a1_7 a1_8 a1_9 a1_10 t413 t414 t415 t416 t417 t418 t419 t420 t421 t422 t423 bt439.2.1 bt439.2.2.1 bt439.2.2.2.1 bt439.2.2.2.2.1 bt439.2.2.2.2.2.1 bt439.2.2.2.2.2.2.1 bt439.2.2.2.2.2.2.2.1 bt439.2.2.2.2.2.2.2.2.1 bt439.2.2.2.2.2.2.2.2.2.1 bt439.2.2.2.2.2.2.2.2.2.2.1 bt439.2.2.2.2.2.2.2.2.2.2.2)) else (laws_FnExactStepTask.j0 k l0 t410 t425 bt439.1 true a1_0 a1_1 a1_2 a1_3 a1_4 a1_5 a1_6 a1_7 a1_8 a1_9 a1_10 t413 t414 t415 t416 t417 t418 t419 t420 t421 t422 t423 bt439.2.1 bt439.2.2.1 bt439.2.2.2.1 bt439.2.2.2.2.1 bt439.2.2.2.2.2.1 bt439.2.2.2.2.2.2.1 bt439.2.2.2.2.2.2.2.1 bt439.2.2.2.2.2.2.2.2.1 bt439.2.2.2.2.2.2.2.2.2.1 bt439.2.2.2.2.2.2.2.2.2.2.1 bt439.2.2.2.2.2.2.2.2.2.2.2)))))) = some r := H
 have A7 := Aside0.mk A70
 clear A70
 replace H := Option.bind_eq_some_iff.mp H
 obtain ⟨t425, A80, H⟩ := H
 replace H : ((laws_toTask.f a1_0 a1_1 a1_2 a1_3 a1_4 a1_5 a1_6 a1_7 a1_8 a1_9 a1_10).bind fun bt428 => ((impl_StepTask.f k t425 bt428.1 bt428.2.1 bt428.2.2.1 bt428.2.2.2.1 bt428.2.2.2.2.1 bt428.2.2.2.2.2.1 bt428.2.2.2.2.2.2.1 bt428.2.2.2.2.2.2.2.1 bt428.2.2.2.2.2.2.2.2.1 bt428.2.2.2.2.2.2.2.2.2.1 bt428.2.2.2.2.2.2.2.2.2.2).bind fun bt439 => ((laws_eqIntS.f k bt439.1 t410).bind fun t454 => (if t454 = true then ((laws_eqTask.f bt439.2.1 bt439.2.2.1 bt439.2.2.2.1 bt439.2.2.2.2.1 bt439.2.2.2.2.2.1 bt439.2.2.2.2.2.2.1 bt439.2.2.2.2.2.2.2.1 bt439.2.2.2.2.2.2.2.2.1 bt439.2.2.2.2.2.2.2.2.2.1 bt439.2.2.2.2.2.2.2.2.2.2.1 bt439.2.2.2.2.2.2.2.2.2.2.2 t413 t414 t415 t416 t417 t418 t419 t420 t421 t422 t423).bind fun t455 => (laws_FnExactStepTask.j0 k l0 t410 t425 bt439.1 (!t455) a1_0 a1_1 a1_2 a1_3 a1_4 a1_5 a1_6 a1_7 a1_8 a1_9 a1_10 t413 t414 t415 t416 t417 t418 t419 t420 t421 t422 t423 bt439.2.1 bt439.2.2.1 bt439.2.2.2.1 bt439.2.2.2.2.1 bt439.2.2.2.2.2.1 bt439.2.2.2.2.2.2.1 bt439.2.2.2.2.2.2.2.1 bt439.2.2.2.2.2.2.2.2.1 bt439.2.2.2.2.2.2.2.2.2.1 bt439.2.2.2.2.2.2.2.2.2.2.1 bt439.2.2.2.2.2.2.2.2.2.2.2)) else (laws_FnExactStepTask.j0 k l0 t410 t425 bt439.1 true a1_0 a1_1 a1_2 a1_3 a1_4 a1_5 a1_6 a1_7 a1_8 a1_9 a1_10 t413 t414 t415 t416 t417 t418 t419 t420 t421 t422 t423 bt439.2.1 bt439.2.2.1 bt439.2.2.2.1 bt439.2.2.2.2.1 bt439.2.2.2.2.2.1 bt439.2.2.2.2.2.2.1 bt439.2.2.2.2.2.2.2.1 bt439.2.2.2.2.2.2.2.2.1 bt439.2.2.2.2.2.2.2.2.2.1 bt439.2.2.2.2.2.2.2.2.2.2.1 bt439.2.2.2.2.2.2.2.2.2.2.2))))) = some r := H
 have A8 := Aside0.mk A80
 clear A80
 replace H := Option.bind_eq_some_iff.mp H
 obtain ⟨⟨t428, t429, t430, t431, t432, t433, t434, t435, t436, t437, t438⟩, A90, H⟩ := H
 replace H : ((impl_StepTask.f k t425 t428 t429 t430 t431 t432 t433 t434 t435 t436 t437 t438).bind fun bt439 => ((laws_eqIntS.f k bt439.1 t410).bind fun t454 => (if t454 = true then ((laws_eqTask.f bt439.2.1 bt439.2.2.1 bt439.2.2.2.1 bt439.2.2.2.2.1 bt439.2.2.2.2.2.1 bt439.2.2.2.2.2.2.1 bt439.2.2.2.2.2.2.2.1 bt439.2.2.2.2.2.2.2.2.1 bt439.2.2.2.2.2.2.2.2.2.1 bt439.2.2.2.2.2.2.2.2.2.2.1 bt439.2.2.2.2.2.2.2.2.2.2.2 t413 t414 t415 t416 t417 t418 t419 t420 t421 t422 t423).bind fun t455 => (laws_FnExactStepTask.j0 k l0 t410 t425 bt439.1 (!t455) a1_0 a1_1 a1_2 a1_3 a1_4 a1_5 a1_6 a1_7 a1_8 a1_9 a1_10 t413 t414 t415 t416 t417 t418 t419 t420 t421 t422 t423 bt439.2.1 bt439.2.2.1 bt439.2.2.2.1 bt439.2.2.2.2.1 bt439.2.2.2.2.2.1 bt439.2.2.2.2.2.2.1 bt439.2.2.2.2.2.2.2.1 bt439.2.2.2.2.2.2.2.2.1 bt439.2.2.2.2.2.2.2.2.2.1 bt439.2.2.2.2.2.2.2.2.2.2.1 bt439.2.2.2.2.2.2.2.2.2.2.2)) else (laws_FnExactStepTask.j0 k l0 t410 t425 bt439.1 true a1_0 a1_1 a1_2 a1_3 a1_4 a1_5 a1_6 a1_7 a1_8 a1_9 a1_10 t413 t414 t415 t416 t417 t418 t419 t420 t421 t422 t423 bt439.2.1 bt439.2.2.1 bt439.2.2.2.1 bt439.2.2.2.2.1 bt439.2.2.2.2.2.1 bt439.2.2.2.2.2.2.1 bt439.2.2.2.2.2.2.2.1 bt439.2.2.2.2.2.2.2.2.1 bt439.2.2.2.2.2.2.2.2.2.1 bt439.2.2.2.2.2.2.2.2.2.2.1 bt439.2.2.2.2.2.2.2.2.2.2.2)))) = some r := H
 have A9 := Aside0.mk A90
 clear A90
 replace H := Option.bind_eq_some_iff.mp H
 obtain ⟨⟨t439, t442, t443, t444, t445, t446, t447, t448, t449, t450, t451, t452⟩, A100, H⟩ := H
 replace H : ((laws_eqIntS.f k t439 t410).bind fun t454 => (if t454 = true then ((laws_eqTask.f t442 t443 t444 t445 t446 t447 t448 t449 t450 t451 t452 t413 t414 t415 t416 t417 t418 t419 t420 t421 t422 t423).bind fun t455 => (laws_FnExactStepTask.j0 k l0 t410 t425 t439 (!t455) a1_0 a1_1 a1_2 a1_3 a1_4 a1_5 a1_6 a1_7 a1_8 a1_9 a1_10 t413 t414 t415 t416 t417 t418 t419 t420 t421 t422 t423 t442 t443 t444 t445 t446 t447 t448 t449 t450 t451 t452)) else (laws_FnExactStepTask.j0 k l0 t410 t425 t439 true a1_0 a1_1 a1_2 a1_3 a1_4 a1_5 a1_6 a1_7 a1_8 a1_9 a1_10 t413 t414 t415 t416 t417 t418 t419 t420 t421 t422 t423 t442 t443 t444 t445 t446 t447 t448 t449 t450 t451 t452))) = some r := H
 have A10 := Aside0.mk A100
 clear A100
 have HC11 := Aside0.mk H
 clear H
 go_enter Try.func10, Try.ntmps10
 try go_wp2_with (first | ((with_reducible refine gate_dst (N := 3) rfl ?_); refine bE 3 #[.int .i64 a1_0, .int .i64 a1_1, .int .i64 a1_2, .int .i64 a1_3, .int .i64 a1_4, .int .i64 a1_5, .int .i64 a1_6, .int .i64 a1_7, .int .i64 a1_8, .bool a1_9, .int .i64 a1_10] 45 ?_; intro gb395 hg w12 hbox hb; have BK395 := Aside0.mk (hbox); have GW395 : Aside0 (w.heap.size ≤ gb395) := GS; have GE395 : Aside0 (w.heap.size ≤ gb395) := GS; replace HB := Aside0.mk (below_step (BL) hb); clear hb hbox hg))
 have n0_ := Aside0.mk (blk_drew BK395.out)
 have n1_ := Aside0.mk (below_drew1 HB.out)
 clear BK395
 clear HB
 have BK395 := n0_
 have HB := n1_
 clear n0_ n1_
 refine start_ (n := 11) (S := fun w' => w'.cell? ⟨gb395, 0, none⟩ = some (.int .i64 a1_0) ∧ w'.cell? ⟨gb395, 1, none⟩ = some (.int .i64 a1_1) ∧ w'.cell? ⟨gb395, 2, none⟩ = some (.int .i64 a1_2) ∧ w'.cell? ⟨gb395, 3, none⟩ = some (.int .i64 a1_3) ∧ w'.cell? ⟨gb395, 4, none⟩ = some (.int .i64 a1_4) ∧ w'.cell? ⟨gb395, 5, none⟩ = some (.int .i64 a1_5) ∧ w'.cell? ⟨gb395, 6, none⟩ = some (.int .i64 a1_6) ∧ w'.cell? ⟨gb395, 7, none⟩ = some (.int .i64 a1_7) ∧ w'.cell? ⟨gb395, 8, none⟩ = some (.int .i64 a1_8) ∧ w'.cell? ⟨gb395, 9, none⟩ = some (.bool a1_9) ∧ w'.cell? ⟨gb395, 10, none⟩ = some (.int .i64 a1_10)) (ds := []) #[false, false, false, false, false, false, false, false, false, false, false] (by kernel_rfl) rfl rfl ⟨CZ BK395.out 0, CZ BK395.out 1, CZ BK395.out 2, CZ BK395.out 3, CZ BK395.out 4, CZ BK395.out 5, CZ BK395.out 6, CZ BK395.out 7, CZ BK395.out 8, CZ BK395.out 9, CZ BK395.out 10⟩ (fun hHeld => ?_); refine with_tabW laws_FnExactStepTask.tab3 laws_FnExactStepTask.bits3 (fun HT_ HW_ => ?_)
 generalize w12.drew = w13 at BK395 HB hHeld ⊢
 refine pV 0 19 (OB 11 1) ?_
 refine take_ (i := 2) (N := some 21) (v := ?_) (a' := ?_) (OB 11 5) rfl rfl (take_ofW HT_.out HW_.out (by kernel_rfl)) (fun _ _ _ h => h) (Or.inl ⟨by rfl, ?_⟩) hHeld ?_ ?_
 rotate_left
 ·
  rintro w' ⟨s0, s1, s2, s3, s4, s5, s6, s7, s8, s9, s10⟩
  go_simp
  with_reducible rfl
 rotate_left
 ·
  simp only [Act.put, zA, zB, zC, i64_w, i32_w]
  rfl
 refine join_ (σ := Value × Value × Nat) 2 #[true, true, true, true, true, true, true, true, true, false, false] (fun s_ => [(20, s_.1), (22, .agg #[.int .i64 t399, .int .i64 t400, .int .i64 t401, .int .i64 t402, .int .i64 t403, .int .i64 t404, .int .i64 t405, .int .i64 t406, .int .i64 t407, .bool t408, .int .i64 t409]), (23, .tuple #[s_.2.1, .agg #[.int .i64 t413, .int .i64 t414, .int .i64 t415, .int .i64 t416, .int .i64 t417, .int .i64 t418, .int .i64 t419, .int .i64 t420, .int .i64 t421, .bool t422, .int .i64 t423]]), (6, .pointer (some ⟨s_.2.2, 0, none⟩)), (18, .tuple #[s_.2.1, .agg #[.int .i64 t413, .int .i64 t414, .int .i64 t415, .int .i64 t416, .int .i64 t417, .int .i64 t418, .int .i64 t419, .int .i64 t420, .int .i64 t421, .bool t422, .int .i64 t423]]), (24, s_.2.1), (25, .agg #[.int .i64 t413, .int .i64 t414, .int .i64 t415, .int .i64 t416, .int .i64 t417, .int .i64 t418, .int .i64 t419, .int .i64 t420, .int .i64 t421, .bool t422, .int .i64 t423])]) (fun s_ w' => (w'.cell? ⟨gb395, 0, none⟩ = some (.int .i64 a1_0) ∧ w'.cell? ⟨gb395, 1, none⟩ = some (.int .i64 a1_1) ∧ w'.cell? ⟨gb395, 2, none⟩ = some (.int .i64 a1_2) ∧ w'.cell? ⟨gb395, 3, none⟩ = some (.int .i64 a1_3) ∧ w'.cell? ⟨gb395, 4, none⟩ = some (.int .i64 a1_4) ∧ w'.cell? ⟨gb395, 5, none⟩ = some (.int .i64 a1_5) ∧ w'.cell? ⟨gb395, 6, none⟩ = some (.int .i64 a1_6) ∧ w'.cell? ⟨gb395, 7, none⟩ = some (.int .i64 a1_7) ∧ w'.cell? ⟨gb395, 8, none⟩ = some (.int .i64 a1_8) ∧ w'.cell? ⟨gb395, 9, none⟩ = some (.bool a1_9) ∧ w'.cell? ⟨gb395, 10, none⟩ = some (.int .i64 a1_10)) ∧ (Kd.R (Kd.int .i64) 3 w' w.heap.size (fun k_ => some k_ ≠ (s_.2.1 : Value).ownBlock) s_.1 t396) ∧ (Kd.R (Kd.int .i64) 3 w' w.heap.size (fun k_ => some k_ ≠ (s_.1 : Value).ownBlock) s_.2.1 t410) ∧ (w'.heap[gb395]? = some (.cells #[.int .i64 a1_0, .int .i64 a1_1, .int .i64 a1_2, .int .i64 a1_3, .int .i64 a1_4, .int .i64 a1_5, .int .i64 a1_6, .int .i64 a1_7, .int .i64 a1_8, .bool a1_9, .int .i64 a1_10] 45 (0, 0))) ∧ (w'.heap[s_.2.2]? = some (.cells #[.int .i64 0, .int .i64 0, .int .i64 0, .int .i64 0, .int .i64 0, .int .i64 0, .int .i64 0, .int .i64 0, .int .i64 0, .bool false, .int .i64 0] 46 (0, 0))) ∧ (w.heap.size ≤ s_.2.2) ∧ (w.heap.size ≤ s_.2.2) ∧ (gb395 ≠ s_.2.2) ∧ (s_.2.2 ≠ gb395) ∧ (Below w.heap.size w w')) ?_ ?_
 rotate_left
 ·
  intro hCont
  refine two_ (i := 1) (j := 8) (Ni := some 20) (Nj := some 6) #[true, true, true, false, false, false, false, false, false, false, false] #[true, false, true, false, false, false, false, false, true, false, false] rfl rfl rfl rfl (two_of HT_.out (by kernel_rfl)) (by decide) (by decide) (fun K hK => ?_) (fun K hK => ?_)
  ·
   skip
   refine goes_ Try.func14 (by kernel_rfl) rfl #[.slice A0 l0.length c0] (by rfl) rfl rfl (MA) ?_
   with_reducible refine (laws_toIntS.calls k _ _ l0 t396 _ ?side1 ?side2 A5.out).mono ?_
   (case side1 => repeat (first | exact (Kd.C_below HR0.out HB.out) | (with_reducible refine Kd.C_alloc ?_ _) | (with_reducible refine Kd.C_drewN ?_ _) | (with_reducible refine Kd.C_drew ?_)))
   (case side2 => exact HC0.out)
   rintro e w14 ⟨v397, rfl, ho0, hb⟩
   refine ⟨_, rfl, ?_⟩
   have n0_ := Aside0.mk (Kd.R_lower ho0 (below_size (BL)))
   have n1_ := BB BK395.out hb
   have n2_ := Aside0.mk (below_step (BL) hb)
   clear BK395
   clear HB
   have HO398 := n0_
   have BK395 := n1_
   have HB := n2_
   clear n0_ n1_ n2_
   (try clear hb)
   (try clear hb2)
   (try clear hk)
   (try clear hi)
   (try clear ho0)
   refine hK.out _ _ ⟨CZ BK395.out 0, CZ BK395.out 1, CZ BK395.out 2, CZ BK395.out 3, CZ BK395.out 4, CZ BK395.out 5, CZ BK395.out 6, CZ BK395.out 7, CZ BK395.out 8, CZ BK395.out 9, CZ BK395.out 10⟩ (fun hHeld => ?_)
   clear hK K
   refine norm_ (a' := ?_) ?_ ?_
   rotate_left
   ·
    show Act.put _ (some 20) _ = _
    simp only [Act.put, zA, zB, zC, i64_w, i32_w]
    rfl
   refine two_ (i := 3) (j := 8) (Ni := some 22) (Nj := some 6) #[true, true, true, true, false, false, false, false, false, false, false] #[true, true, true, false, false, false, false, false, true, false, false] rfl rfl rfl rfl (two_of HT_.out (by kernel_rfl)) (by decide) (by decide) (fun K hK => ?_) (fun K hK => ?_)
   ·
    skip
    refine goes_ Try.func38 (by kernel_rfl) rfl #[.agg #[.int .i64 a1_0, .int .i64 a1_1, .int .i64 a1_2, .int .i64 a1_3, .int .i64 a1_4, .int .i64 a1_5, .int .i64 a1_6, .int .i64 a1_7, .int .i64 a1_8, .bool a1_9, .int .i64 a1_10]] (by rfl) rfl rfl (MA) ?_
    with_reducible refine (laws_toTask.calls a1_0 a1_1 a1_2 a1_3 a1_4 a1_5 a1_6 a1_7 a1_8 a1_9 a1_10 t399 t400 t401 t402 t403 t404 t405 t406 t407 t408 t409 _ A6.out).mono ?_
    rintro e w15 ⟨rfl, hb⟩
    refine ⟨_, rfl, ?_⟩
    have n0_ := Aside0.mk (Kd.R_below (RQ HO398.out) hb)
    have n1_ := BB BK395.out hb
    have n2_ := Aside0.mk (below_step (BL) hb)
    clear HO398
    clear BK395
    clear HB
    have HO398 := n0_
    have BK395 := n1_
    have HB := n2_
    clear n0_ n1_ n2_
    (try clear hb)
    (try clear hb2)
    (try clear hk)
    (try clear hi)
    obtain ⟨Ao16, co16, eo16⟩ := Kd.R_slice HO398.out
    (first | subst eo16 | (injection eo16 with f1_ f2_ f3_; have f4_ := f1_.symm; have f5_ := f3_.symm; clear f1_ f2_ f3_; subst f4_; subst f5_))
    refine hK.out _ _ ⟨CZ BK395.out 0, CZ BK395.out 1, CZ BK395.out 2, CZ BK395.out 3, CZ BK395.out 4, CZ BK395.out 5, CZ BK395.out 6, CZ BK395.out 7, CZ BK395.out 8, CZ BK395.out 9, CZ BK395.out 10⟩ (fun hHeld => ?_)
    clear hK K
    refine norm_ (a' := ?_) ?_ ?_
    rotate_left
    ·
     show Act.put _ (some 22) _ = _
     simp only [Act.put, zA, zB, zC, i64_w, i32_w]
     rfl
    refine two_ (i := 4) (j := 8) (Ni := some 23) (Nj := some 6) #[true, true, true, true, true, false, false, false, false, false, false] #[true, true, true, true, false, false, false, false, true, false, false] rfl rfl rfl rfl (two_of HT_.out (by kernel_rfl)) (by decide) (by decide) (fun K hK => ?_) (fun K hK => ?_)
    ·
     skip
     refine goes_ Try.func37 (by kernel_rfl) rfl #[.slice Ao16 t396.length co16, .agg #[.int .i64 t399, .int .i64 t400, .int .i64 t401, .int .i64 t402, .int .i64 t403, .int .i64 t404, .int .i64 t405, .int .i64 t406, .int .i64 t407, .bool t408, .int .i64 t409]] (by rfl) rfl rfl (MA) ?_
     with_reducible refine (spec_StepTask.calls k _ _ t396 t399 t400 t401 t402 t403 t404 t405 t406 t407 t408 t409 t410 t413 t414 t415 t416 t417 t418 t419 t420 t421 t422 t423 _ ?side1 ?side2 A7.out).mono ?_
     (case side1 => repeat (first | exact (Kd.R_reads' HO398.out).2.2 | (with_reducible refine Kd.C_alloc ?_ _) | (with_reducible refine Kd.C_drewN ?_ _) | (with_reducible refine Kd.C_drew ?_)))
     (case side2 => exact (Kd.R_reads' HO398.out).2.1)
     rintro e w17 ⟨v411, rfl, ho0, hb⟩
     refine ⟨_, rfl, ?_⟩
     have n0_ := Aside0.mk (Kd.R_elder' (RQ HO398.out) (Kd.R_base ho0) hb)
     have n1_ := Aside0.mk (Kd.R_lower (Kd.R_new' ho0 (Kd.R_lt (RQ HO398.out))) (below_size (BL)))
     have n2_ := BB BK395.out hb
     have n3_ := Aside0.mk (below_step (BL) hb)
     clear HO398
     clear BK395
     clear HB
     have HO398 := n0_
     have HO412 := n1_
     have BK395 := n2_
     have HB := n3_
     clear n0_ n1_ n2_ n3_
     (try clear hb)
     (try clear hb2)
     (try clear hk)
     (try clear hi)
     (try clear ho0)
     refine hK.out _ _ ⟨CZ BK395.out 0, CZ BK395.out 1, CZ BK395.out 2, CZ BK395.out 3, CZ BK395.out 4, CZ BK395.out 5, CZ BK395.out 6, CZ BK395.out 7, CZ BK395.out 8, CZ BK395.out 9, CZ BK395.out 10⟩ (fun hHeld => ?_)
     clear hK K
     refine norm_ (a' := ?_) ?_ ?_
     rotate_left
     ·
      show Act.put _ (some 23) _ = _
      simp only [Act.put, zA, zB, zC, i64_w, i32_w]
      rfl
     refine pV 5 18 (OB 11 63) ?_
     refine pV 6 24 (OB 11 127) ?_
     refine pV 7 25 (OB 11 255) ?_
     refine one_ (i := 8) (N := some 6) (OB 11 511) rfl rfl (one_of HT_.out (by kernel_rfl)) (by decide) (fun K hK => ?_)
     refine box_step ?hg (N := 6) ?hd (cs := #[.int .i64 0, .int .i64 0, .int .i64 0, .int .i64 0, .int .i64 0, .int .i64 0, .int .i64 0, .int .i64 0, .int .i64 0, .bool false, .int .i64 0]) (t := 46) ?hr ?_; (case hd => rfl); (case hg => rfl); (case hr => first | (go_simp; done) | (go_simp; rfl))
     intro gb424 hg w18 hbox hb
     have n0_ := Aside0.mk (Kd.R_below (RQ HO398.out) hb)
     have n1_ := Aside0.mk (Kd.R_below (RQ HO412.out) hb)
     have n2_ := BB BK395.out hb
     have n3_ := Aside0.mk (below_step (BL) hb)
     have n4_ := Aside0.mk (hbox)
     have n5_ : Aside0 (w.heap.size ≤ gb424) := GS
     have n6_ : Aside0 (w.heap.size ≤ gb424) := GS
     have n7_ := NL BK395.out hg
     have n8_ := NG BK395.out hg
     clear HO398
     clear HO412
     clear BK395
     clear HB
     have HO398 := n0_
     have HO412 := n1_
     have BK395 := n2_
     have HB := n3_
     have BK424 := n4_
     have GW424 := n5_
     have GE424 := n6_
     have NB395_424 := n7_
     have NB424_395 := n8_
     clear n0_ n1_ n2_ n3_ n4_ n5_ n6_ n7_ n8_
     clear hb hbox hg
     refine hK.out _ _ ⟨CZ BK395.out 0, CZ BK395.out 1, CZ BK395.out 2, CZ BK395.out 3, CZ BK395.out 4, CZ BK395.out 5, CZ BK395.out 6, CZ BK395.out 7, CZ BK395.out 8, CZ BK395.out 9, CZ BK395.out 10⟩ (fun hHeld => ?_)
     clear hK K
     refine norm_ (a' := ?_) ?_ ?_
     rotate_left
     ·
      show Act.put _ (some 6) _ = _
      simp only [Act.put, zA, zB, zC, i64_w, i32_w]
      rfl
     exact norm_ (by simp only [putAll, Act.put, zA, zB, zC]) (hCont (.slice Ao16 t396.length co16, v411, gb424) _ ⟨hHeld, (by (with_reducible repeat (first | apply r1 | apply r2 | apply r3)); exact Kd.R_mono HO398.out (fun _ hk => hk.2)), (by (with_reducible repeat (first | apply r1 | apply r2 | apply r3)); exact Kd.R_mono HO412.out (fun _ hk => hk.2)), (BQ BK395.out), (BQ BK424.out), GW424.out, GE424.out, NB395_424.out, NB424_395.out, (BL)⟩)
    ·
     skip
     refine box_step ?hg (N := 6) ?hd (cs := #[.int .i64 0, .int .i64 0, .int .i64 0, .int .i64 0, .int .i64 0, .int .i64 0, .int .i64 0, .int .i64 0, .int .i64 0, .bool false, .int .i64 0]) (t := 46) ?hr ?_; (case hd => rfl); (case hg => rfl); (case hr => first | (go_simp; done) | (go_simp; rfl))
     intro gb424 hg w16 hbox hb
     have n0_ := Aside0.mk (Kd.R_below (RQ HO398.out) hb)
     have n1_ := BB BK395.out hb
     have n2_ := Aside0.mk (below_step (BL) hb)
     have n3_ := Aside0.mk (hbox)
     have n4_ : Aside0 (w.heap.size ≤ gb424) := GS
     have n5_ : Aside0 (w.heap.size ≤ gb424) := GS
     have n6_ := NL BK395.out hg
     have n7_ := NG BK395.out hg
     clear HO398
     clear BK395
     clear HB
     have HO398 := n0_
     have BK395 := n1_
     have HB := n2_
     have BK424 := n3_
     have GW424 := n4_
     have GE424 := n5_
     have NB395_424 := n6_
     have NB424_395 := n7_
     clear n0_ n1_ n2_ n3_ n4_ n5_ n6_ n7_
     clear hb hbox hg
     obtain ⟨Ao17, co17, eo17⟩ := Kd.R_slice HO398.out
     (first | subst eo17 | (injection eo17 with f1_ f2_ f3_; have f4_ := f1_.symm; have f5_ := f3_.symm; clear f1_ f2_ f3_; subst f4_; subst f5_))
     refine hK.out _ _ ⟨CZ BK395.out 0, CZ BK395.out 1, CZ BK395.out 2, CZ BK395.out 3, CZ BK395.out 4, CZ BK395.out 5, CZ BK395.out 6, CZ BK395.out 7, CZ BK395.out 8, CZ BK395.out 9, CZ BK395.out 10⟩ (fun hHeld => ?_)
     clear hK K
     refine norm_ (a' := ?_) ?_ ?_
     rotate_left
     ·
      show Act.put _ (some 6) _ = _
      simp only [Act.put, zA, zB, zC, i64_w, i32_w]
      rfl
     refine one_ (i := 4) (N := some 23) (OB 11 287) rfl rfl (one_of HT_.out (by kernel_rfl)) (by decide) (fun K hK => ?_)
     refine goes_ Try.func37 (by kernel_rfl) rfl #[.slice Ao17 t396.length co17, .agg #[.int .i64 t399, .int .i64 t400, .int .i64 t401, .int .i64 t402, .int .i64 t403, .int .i64 t404, .int .i64 t405, .int .i64 t406, .int .i64 t407, .bool t408, .int .i64 t409]] (by rfl) rfl rfl (MA) ?_
     with_reducible refine (spec_StepTask.calls k _ _ t396 t399 t400 t401 t402 t403 t404 t405 t406 t407 t408 t409 t410 t413 t414 t415 t416 t417 t418 t419 t420 t421 t422 t423 _ ?side1 ?side2 A7.out).mono ?_
     (case side1 => repeat (first | exact (Kd.R_reads' HO398.out).2.2 | (with_reducible refine Kd.C_alloc ?_ _) | (with_reducible refine Kd.C_drewN ?_ _) | (with_reducible refine Kd.C_drew ?_)))
     (case side2 => exact (Kd.R_reads' HO398.out).2.1)
     rintro e w18 ⟨v411, rfl, ho0, hb⟩
     refine ⟨_, rfl, ?_⟩
     have n0_ := Aside0.mk (Kd.R_elder' (RQ HO398.out) (Kd.R_base ho0) hb)
     have n1_ := Aside0.mk (Kd.R_lower (Kd.R_new' ho0 (Kd.R_lt (RQ HO398.out))) (below_size (BL)))
     have n2_ := BB BK395.out hb
     have n3_ := BB BK424.out hb
     have n4_ := Aside0.mk (below_step (BL) hb)
     clear HO398
     clear BK395
     clear BK424
     clear HB
     have HO398 := n0_
     have HO412 := n1_
     have BK395 := n2_
     have BK424 := n3_
     have HB := n4_
     clear n0_ n1_ n2_ n3_ n4_
     (try clear hb)
     (try clear hb2)
     (try clear hk)
     (try clear hi)
     (try clear ho0)
     refine hK.out _ _ ⟨CZ BK395.out 0, CZ BK395.out 1, CZ BK395.out 2, CZ BK395.out 3, CZ BK395.out 4, CZ BK395.out 5, CZ BK395.out 6, CZ BK395.out 7, CZ BK395.out 8, CZ BK395.out 9, CZ BK395.out 10⟩ (fun hHeld => ?_)
     clear hK K
     refine norm_ (a' := ?_) ?_ ?_
     rotate_left
     ·
      show Act.put _ (some 23) _ = _
      simp only [Act.put, zA, zB, zC, i64_w, i32_w]
      rfl
     refine pV 5 18 (OB 11 319) ?_
     refine pV 6 24 (OB 11 383) ?_
     refine pV 7 25 (OB 11 511) ?_
     exact norm_ (by simp only [putAll, Act.put, zA, zB, zC]) (hCont (.slice Ao17 t396.length co17, v411, gb424) _ ⟨hHeld, (by (with_reducible repeat (first | apply r1 | apply r2 | apply r3)); exact Kd.R_mono HO398.out (fun _ hk => hk.2)), (by (with_reducible repeat (first | apply r1 | apply r2 | apply r3)); exact Kd.R_mono HO412.out (fun _ hk => hk.2)), (BQ BK395.out), (BQ BK424.out), GW424.out, GE424.out, NB395_424.out, NB424_395.out, (BL)⟩)
   ·
    skip
    refine box_step ?hg (N := 6) ?hd (cs := #[.int .i64 0, .int .i64 0, .int .i64 0, .int .i64 0, .int .i64 0, .int .i64 0, .int .i64 0, .int .i64 0, .int .i64 0, .bool false, .int .i64 0]) (t := 46) ?hr ?_; (case hd => rfl); (case hg => rfl); (case hr => first | (go_simp; done) | (go_simp; rfl))
    intro gb424 hg w15 hbox hb
    have n0_ := Aside0.mk (Kd.R_below (RQ HO398.out) hb)
    have n1_ := BB BK395.out hb
    have n2_ := Aside0.mk (below_step (BL) hb)
    have n3_ := Aside0.mk (hbox)
    have n4_ : Aside0 (w.heap.size ≤ gb424) := GS
    have n5_ : Aside0 (w.heap.size ≤ gb424) := GS
    have n6_ := NL BK395.out hg
    have n7_ := NG BK395.out hg
    clear HO398
    clear BK395
    clear HB
    have HO398 := n0_
    have BK395 := n1_
    have HB := n2_
    have BK424 := n3_
    have GW424 := n4_
    have GE424 := n5_
    have NB395_424 := n6_
    have NB424_395 := n7_
    clear n0_ n1_ n2_ n3_ n4_ n5_ n6_ n7_
    clear hb hbox hg
    refine hK.out _ _ ⟨CZ BK395.out 0, CZ BK395.out 1, CZ BK395.out 2, CZ BK395.out 3, CZ BK395.out 4, CZ BK395.out 5, CZ BK395.out 6, CZ BK395.out 7, CZ BK395.out 8, CZ BK395.out 9, CZ BK395.out 10⟩ (fun hHeld => ?_)
    clear hK K
    refine norm_ (a' := ?_) ?_ ?_
    rotate_left
    ·
     show Act.put _ (some 6) _ = _
     simp only [Act.put, zA, zB, zC, i64_w, i32_w]
     rfl
    refine one_ (i := 3) (N := some 22) (OB 11 271) rfl rfl (one_of HT_.out (by kernel_rfl)) (by decide) (fun K hK => ?_)
    refine goes_ Try.func38 (by kernel_rfl) rfl #[.agg #[.int .i64 a1_0, .int .i64 a1_1, .int .i64 a1_2, .int .i64 a1_3, .int .i64 a1_4, .int .i64 a1_5, .int .i64 a1_6, .int .i64 a1_7, .int .i64 a1_8, .bool a1_9, .int .i64 a1_10]] (by rfl) rfl rfl (MA) ?_
    with_reducible refine (laws_toTask.calls a1_0 a1_1 a1_2 a1_3 a1_4 a1_5 a1_6 a1_7 a1_8 a1_9 a1_10 t399 t400 t401 t402 t403 t404 t405 t406 t407 t408 t409 _ A6.out).mono ?_
    rintro e w16 ⟨rfl, hb⟩
    refine ⟨_, rfl, ?_⟩
    have n0_ := Aside0.mk (Kd.R_below (RQ HO398.out) hb)
    have n1_ := BB BK395.out hb
    have n2_ := BB BK424.out hb
    have n3_ := Aside0.mk (below_step (BL) hb)
    clear HO398
    clear BK395
    clear BK424
    clear HB
    have HO398 := n0_
    have BK395 := n1_
    have BK424 := n2_
    have HB := n3_
    clear n0_ n1_ n2_ n3_
    (try clear hb)
    (try clear hb2)
    (try clear hk)
    (try clear hi)
    obtain ⟨Ao17, co17, eo17⟩ := Kd.R_slice HO398.out
    (first | subst eo17 | (injection eo17 with f1_ f2_ f3_; have f4_ := f1_.symm; have f5_ := f3_.symm; clear f1_ f2_ f3_; subst f4_; subst f5_))
    refine hK.out _ _ ⟨CZ BK395.out 0, CZ BK395.out 1, CZ BK395.out 2, CZ BK395.out 3, CZ BK395.out 4, CZ BK395.out 5, CZ BK395.out 6, CZ BK395.out 7, CZ BK395.out 8, CZ BK395.out 9, CZ BK395.out 10⟩ (fun hHeld => ?_)
    clear hK K
    refine norm_ (a' := ?_) ?_ ?_
    rotate_left
    ·
     show Act.put _ (some 22) _ = _
     simp only [Act.put, zA, zB, zC, i64_w, i32_w]
     rfl
    refine one_ (i := 4) (N := some 23) (OB 11 287) rfl rfl (one_of HT_.out (by kernel_rfl)) (by decide) (fun K hK => ?_)
    refine goes_ Try.func37 (by kernel_rfl) rfl #[.slice Ao17 t396.length co17, .agg #[.int .i64 t399, .int .i64 t400, .int .i64 t401, .int .i64 t402, .int .i64 t403, .int .i64 t404, .int .i64 t405, .int .i64 t406, .int .i64 t407, .bool t408, .int .i64 t409]] (by rfl) rfl rfl (MA) ?_
    with_reducible refine (spec_StepTask.calls k _ _ t396 t399 t400 t401 t402 t403 t404 t405 t406 t407 t408 t409 t410 t413 t414 t415 t416 t417 t418 t419 t420 t421 t422 t423 _ ?side1 ?side2 A7.out).mono ?_
    (case side1 => repeat (first | exact (Kd.R_reads' HO398.out).2.2 | (with_reducible refine Kd.C_alloc ?_ _) | (with_reducible refine Kd.C_drewN ?_ _) | (with_reducible refine Kd.C_drew ?_)))
    (case side2 => exact (Kd.R_reads' HO398.out).2.1)
    rintro e w18 ⟨v411, rfl, ho0, hb⟩
    refine ⟨_, rfl, ?_⟩
    have n0_ := Aside0.mk (Kd.R_elder' (RQ HO398.out) (Kd.R_base ho0) hb)
    have n1_ := Aside0.mk (Kd.R_lower (Kd.R_new' ho0 (Kd.R_lt (RQ HO398.out))) (below_size (BL)))
    have n2_ := BB BK395.out hb
    have n3_ := BB BK424.out hb
    have n4_ := Aside0.mk (below_step (BL) hb)
    clear HO398
    clear BK395
    clear BK424
    clear HB
    have HO398 := n0_
    have HO412 := n1_
    have BK395 := n2_
    have BK424 := n3_
    have HB := n4_
    clear n0_ n1_ n2_ n3_ n4_
    (try clear hb)
    (try clear hb2)
    (try clear hk)
    (try clear hi)
    (try clear ho0)
    refine hK.out _ _ ⟨CZ BK395.out 0, CZ BK395.out 1, CZ BK395.out 2, CZ BK395.out 3, CZ BK395.out 4, CZ BK395.out 5, CZ BK395.out 6, CZ BK395.out 7, CZ BK395.out 8, CZ BK395.out 9, CZ BK395.out 10⟩ (fun hHeld => ?_)
    clear hK K
    refine norm_ (a' := ?_) ?_ ?_
    rotate_left
    ·
     show Act.put _ (some 23) _ = _
     simp only [Act.put, zA, zB, zC, i64_w, i32_w]
     rfl
    refine pV 5 18 (OB 11 319) ?_
    refine pV 6 24 (OB 11 383) ?_
    refine pV 7 25 (OB 11 511) ?_
    exact norm_ (by simp only [putAll, Act.put, zA, zB, zC]) (hCont (.slice Ao17 t396.length co17, v411, gb424) _ ⟨hHeld, (by (with_reducible repeat (first | apply r1 | apply r2 | apply r3)); exact Kd.R_mono HO398.out (fun _ hk => hk.2)), (by (with_reducible repeat (first | apply r1 | apply r2 | apply r3)); exact Kd.R_mono HO412.out (fun _ hk => hk.2)), (BQ BK395.out), (BQ BK424.out), GW424.out, GE424.out, NB395_424.out, NB424_395.out, (BL)⟩)
  ·
   skip
   refine box_step ?hg (N := 6) ?hd (cs := #[.int .i64 0, .int .i64 0, .int .i64 0, .int .i64 0, .int .i64 0, .int .i64 0, .int .i64 0, .int .i64 0, .int .i64 0, .bool false, .int .i64 0]) (t := 46) ?hr ?_; (case hd => rfl); (case hg => rfl); (case hr => first | (go_simp; done) | (go_simp; rfl))
   intro gb424 hg w14 hbox hb
   have n0_ := BB BK395.out hb
   have n1_ := Aside0.mk (below_step (BL) hb)
   have n2_ := Aside0.mk (hbox)
   have n3_ : Aside0 (w.heap.size ≤ gb424) := GS
   have n4_ : Aside0 (w.heap.size ≤ gb424) := GS
   have n5_ := NL BK395.out hg
   have n6_ := NG BK395.out hg
   clear BK395
   clear HB
   have BK395 := n0_
   have HB := n1_
   have BK424 := n2_
   have GW424 := n3_
   have GE424 := n4_
   have NB395_424 := n5_
   have NB424_395 := n6_
   clear n0_ n1_ n2_ n3_ n4_ n5_ n6_
   clear hb hbox hg
   refine hK.out _ _ ⟨CZ BK395.out 0, CZ BK395.out 1, CZ BK395.out 2, CZ BK395.out 3, CZ BK395.out 4, CZ BK395.out 5, CZ BK395.out 6, CZ BK395.out 7, CZ BK395.out 8, CZ BK395.out 9, CZ BK395.out 10⟩ (fun hHeld => ?_)
   clear hK K
   refine norm_ (a' := ?_) ?_ ?_
   rotate_left
   ·
    show Act.put _ (some 6) _ = _
    simp only [Act.put, zA, zB, zC, i64_w, i32_w]
    rfl
   refine one_ (i := 1) (N := some 20) (OB 11 263) rfl rfl (one_of HT_.out (by kernel_rfl)) (by decide) (fun K hK => ?_)
   refine goes_ Try.func14 (by kernel_rfl) rfl #[.slice A0 l0.length c0] (by rfl) rfl rfl (MA) ?_
   with_reducible refine (laws_toIntS.calls k _ _ l0 t396 _ ?side1 ?side2 A5.out).mono ?_
   (case side1 => repeat (first | exact (Kd.C_below HR0.out HB.out) | (with_reducible refine Kd.C_alloc ?_ _) | (with_reducible refine Kd.C_drewN ?_ _) | (with_reducible refine Kd.C_drew ?_)))
   (case side2 => exact HC0.out)
   rintro e w15 ⟨v397, rfl, ho0, hb⟩
   refine ⟨_, rfl, ?_⟩
   have n0_ := Aside0.mk (Kd.R_lower ho0 (below_size (BL)))
   have n1_ := BB BK395.out hb
   have n2_ := BB BK424.out hb
   have n3_ := Aside0.mk (below_step (BL) hb)
   clear BK395
   clear BK424
   clear HB
   have HO398 := n0_
   have BK395 := n1_
   have BK424 := n2_
   have HB := n3_
   clear n0_ n1_ n2_ n3_
   (try clear hb)
   (try clear hb2)
   (try clear hk)
   (try clear hi)
   (try clear ho0)
   refine hK.out _ _ ⟨CZ BK395.out 0, CZ BK395.out 1, CZ BK395.out 2, CZ BK395.out 3, CZ BK395.out 4, CZ BK395.out 5, CZ BK395.out 6, CZ BK395.out 7, CZ BK395.out 8, CZ BK395.out 9, CZ BK395.out 10⟩ (fun hHeld => ?_)
   clear hK K
   refine norm_ (a' := ?_) ?_ ?_
   rotate_left
   ·
    show Act.put _ (some 20) _ = _
    simp only [Act.put, zA, zB, zC, i64_w, i32_w]
    rfl
   refine one_ (i := 3) (N := some 22) (OB 11 271) rfl rfl (one_of HT_.out (by kernel_rfl)) (by decide) (fun K hK => ?_)
   refine goes_ Try.func38 (by kernel_rfl) rfl #[.agg #[.int .i64 a1_0, .int .i64 a1_1, .int .i64 a1_2, .int .i64 a1_3, .int .i64 a1_4, .int .i64 a1_5, .int .i64 a1_6, .int .i64 a1_7, .int .i64 a1_8, .bool a1_9, .int .i64 a1_10]] (by rfl) rfl rfl (MA) ?_
   with_reducible refine (laws_toTask.calls a1_0 a1_1 a1_2 a1_3 a1_4 a1_5 a1_6 a1_7 a1_8 a1_9 a1_10 t399 t400 t401 t402 t403 t404 t405 t406 t407 t408 t409 _ A6.out).mono ?_
   rintro e w16 ⟨rfl, hb⟩
   refine ⟨_, rfl, ?_⟩
   have n0_ := Aside0.mk (Kd.R_below (RQ HO398.out) hb)
   have n1_ := BB BK395.out hb
   have n2_ := BB BK424.out hb
   have n3_ := Aside0.mk (below_step (BL) hb)
   clear HO398
   clear BK395
   clear BK424
   clear HB
   have HO398 := n0_
   have BK395 := n1_
   have BK424 := n2_
   have HB := n3_
   clear n0_ n1_ n2_ n3_
   (try clear hb)
   (try clear hb2)
   (try clear hk)
   (try clear hi)
   obtain ⟨Ao17, co17, eo17⟩ := Kd.R_slice HO398.out
   (first | subst eo17 | (injection eo17 with f1_ f2_ f3_; have f4_ := f1_.symm; have f5_ := f3_.symm; clear f1_ f2_ f3_; subst f4_; subst f5_))
   refine hK.out _ _ ⟨CZ BK395.out 0, CZ BK395.out 1, CZ BK395.out 2, CZ BK395.out 3, CZ BK395.out 4, CZ BK395.out 5, CZ BK395.out 6, CZ BK395.out 7, CZ BK395.out 8, CZ BK395.out 9, CZ BK395.out 10⟩ (fun hHeld => ?_)
   clear hK K
   refine norm_ (a' := ?_) ?_ ?_
   rotate_left
   ·
    show Act.put _ (some 22) _ = _
    simp only [Act.put, zA, zB, zC, i64_w, i32_w]
    rfl
   refine one_ (i := 4) (N := some 23) (OB 11 287) rfl rfl (one_of HT_.out (by kernel_rfl)) (by decide) (fun K hK => ?_)
   refine goes_ Try.func37 (by kernel_rfl) rfl #[.slice Ao17 t396.length co17, .agg #[.int .i64 t399, .int .i64 t400, .int .i64 t401, .int .i64 t402, .int .i64 t403, .int .i64 t404, .int .i64 t405, .int .i64 t406, .int .i64 t407, .bool t408, .int .i64 t409]] (by rfl) rfl rfl (MA) ?_
   with_reducible refine (spec_StepTask.calls k _ _ t396 t399 t400 t401 t402 t403 t404 t405 t406 t407 t408 t409 t410 t413 t414 t415 t416 t417 t418 t419 t420 t421 t422 t423 _ ?side1 ?side2 A7.out).mono ?_
   (case side1 => repeat (first | exact (Kd.R_reads' HO398.out).2.2 | (with_reducible refine Kd.C_alloc ?_ _) | (with_reducible refine Kd.C_drewN ?_ _) | (with_reducible refine Kd.C_drew ?_)))
   (case side2 => exact (Kd.R_reads' HO398.out).2.1)
   rintro e w18 ⟨v411, rfl, ho0, hb⟩
   refine ⟨_, rfl, ?_⟩
   have n0_ := Aside0.mk (Kd.R_elder' (RQ HO398.out) (Kd.R_base ho0) hb)
   have n1_ := Aside0.mk (Kd.R_lower (Kd.R_new' ho0 (Kd.R_lt (RQ HO398.out))) (below_size (BL)))
   have n2_ := BB BK395.out hb
   have n3_ := BB BK424.out hb
   have n4_ := Aside0.mk (below_step (BL) hb)
   clear HO398
   clear BK395
   clear BK424
   clear HB
   have HO398 := n0_
   have HO412 := n1_
   have BK395 := n2_
   have BK424 := n3_
   have HB := n4_
   clear n0_ n1_ n2_ n3_ n4_
   (try clear hb)
   (try clear hb2)
   (try clear hk)
   (try clear hi)
   (try clear ho0)
   refine hK.out _ _ ⟨CZ BK395.out 0, CZ BK395.out 1, CZ BK395.out 2, CZ BK395.out 3, CZ BK395.out 4, CZ BK395.out 5, CZ BK395.out 6, CZ BK395.out 7, CZ BK395.out 8, CZ BK395.out 9, CZ BK395.out 10⟩ (fun hHeld => ?_)
   clear hK K
   refine norm_ (a' := ?_) ?_ ?_
   rotate_left
   ·
    show Act.put _ (some 23) _ = _
    simp only [Act.put, zA, zB, zC, i64_w, i32_w]
    rfl
   refine pV 5 18 (OB 11 319) ?_
   refine pV 6 24 (OB 11 383) ?_
   refine pV 7 25 (OB 11 511) ?_
   exact norm_ (by simp only [putAll, Act.put, zA, zB, zC]) (hCont (.slice Ao17 t396.length co17, v411, gb424) _ ⟨hHeld, (by (with_reducible repeat (first | apply r1 | apply r2 | apply r3)); exact Kd.R_mono HO398.out (fun _ hk => hk.2)), (by (with_reducible repeat (first | apply r1 | apply r2 | apply r3)); exact Kd.R_mono HO412.out (fun _ hk => hk.2)), (BQ BK395.out), (BQ BK424.out), GW424.out, GE424.out, NB395_424.out, NB424_395.out, (BL)⟩)
 rintro ⟨v397, v411, gb424⟩ w19 ⟨hS_, h0_, h1_, h2_, h3_, h4_, h5_, h6_, h7_, h8_⟩
 have n0_ : Aside0 (Kd.R (Kd.int .i64) 3 w19 w.heap.size (fun k_ => some k_ ≠ (v411 : Value).ownBlock) v397 t396) := ⟨h0_⟩
 have n1_ : Aside0 (Kd.R (Kd.int .i64) 3 w19 w.heap.size (fun k_ => some k_ ≠ (v397 : Value).ownBlock) v411 t410) := ⟨h1_⟩
 have n2_ : Aside0 (w19.heap[gb395]? = some (.cells #[.int .i64 a1_0, .int .i64 a1_1, .int .i64 a1_2, .int .i64 a1_3, .int .i64 a1_4, .int .i64 a1_5, .int .i64 a1_6, .int .i64 a1_7, .int .i64 a1_8, .bool a1_9, .int .i64 a1_10] 45 (0, 0))) := ⟨h2_⟩
 have n3_ : Aside0 (w19.heap[gb424]? = some (.cells #[.int .i64 0, .int .i64 0, .int .i64 0, .int .i64 0, .int .i64 0, .int .i64 0, .int .i64 0, .int .i64 0, .int .i64 0, .bool false, .int .i64 0] 46 (0, 0))) := ⟨h3_⟩
 have n4_ : Aside0 (w.heap.size ≤ gb424) := ⟨h4_⟩
 have n5_ : Aside0 (w.heap.size ≤ gb424) := ⟨h5_⟩
 have n6_ : Aside0 (gb395 ≠ gb424) := ⟨h6_⟩
 have n7_ : Aside0 (gb424 ≠ gb395) := ⟨h7_⟩
 have n8_ : Aside0 (Below w.heap.size w w19) := ⟨h8_⟩
 clear BK395
 clear HB
 clear h0_ h1_ h2_ h3_ h4_ h5_ h6_ h7_ h8_
 have HO398 := n0_
 have HO412 := n1_
 have BK395 := n2_
 have BK424 := n3_
 have GW424 := n4_
 have GE424 := n5_
 have NB395_424 := n6_
 have NB424_395 := n7_
 have HB := n8_
 clear n0_ n1_ n2_ n3_ n4_ n5_ n6_ n7_ n8_
 have hHeld : w19.cell? ⟨gb395, 0, none⟩ = some (.int .i64 a1_0) ∧ w19.cell? ⟨gb395, 1, none⟩ = some (.int .i64 a1_1) ∧ w19.cell? ⟨gb395, 2, none⟩ = some (.int .i64 a1_2) ∧ w19.cell? ⟨gb395, 3, none⟩ = some (.int .i64 a1_3) ∧ w19.cell? ⟨gb395, 4, none⟩ = some (.int .i64 a1_4) ∧ w19.cell? ⟨gb395, 5, none⟩ = some (.int .i64 a1_5) ∧ w19.cell? ⟨gb395, 6, none⟩ = some (.int .i64 a1_6) ∧ w19.cell? ⟨gb395, 7, none⟩ = some (.int .i64 a1_7) ∧ w19.cell? ⟨gb395, 8, none⟩ = some (.int .i64 a1_8) ∧ w19.cell? ⟨gb395, 9, none⟩ = some (.bool a1_9) ∧ w19.cell? ⟨gb395, 10, none⟩ = some (.int .i64 a1_10) := hS_
 refine norm_ (a' := ?_) ?_ ?_
 rotate_left
 ·
  simp only [putAll, Act.put, zA, zB, zC]
  rfl
 refine pV 9 5 (OB 11 1023) ?_
 refine one_ (i := 10) (N := none) (OB 11 2047) rfl rfl (one_of HT_.out (by kernel_rfl)) (by decide) (fun K hK => ?_)
 have hs20 : w19.cell? ⟨gb424, 0, none⟩ = some (.int .i64 0) := CZ BK424.out 0
 have hfs20 := blk_frozen BK424.out 0
 have hns20_0 := NB395_424.out
 have hms20_0 := NB424_395.out
 have hs21 : w19.cell? ⟨gb424, 1, none⟩ = some (.int .i64 0) := CZ BK424.out 1
 have hfs21 := blk_frozen BK424.out 1
 have hns21_0 := NB395_424.out
 have hms21_0 := NB424_395.out
 have hs22 : w19.cell? ⟨gb424, 2, none⟩ = some (.int .i64 0) := CZ BK424.out 2
 have hfs22 := blk_frozen BK424.out 2
 have hns22_0 := NB395_424.out
 have hms22_0 := NB424_395.out
 have hs23 : w19.cell? ⟨gb424, 3, none⟩ = some (.int .i64 0) := CZ BK424.out 3
 have hfs23 := blk_frozen BK424.out 3
 have hns23_0 := NB395_424.out
 have hms23_0 := NB424_395.out
 have hs24 : w19.cell? ⟨gb424, 4, none⟩ = some (.int .i64 0) := CZ BK424.out 4
 have hfs24 := blk_frozen BK424.out 4
 have hns24_0 := NB395_424.out
 have hms24_0 := NB424_395.out
 have hs25 : w19.cell? ⟨gb424, 5, none⟩ = some (.int .i64 0) := CZ BK424.out 5
 have hfs25 := blk_frozen BK424.out 5
 have hns25_0 := NB395_424.out
 have hms25_0 := NB424_395.out
 have hs26 : w19.cell? ⟨gb424, 6, none⟩ = some (.int .i64 0) := CZ BK424.out 6
 have hfs26 := blk_frozen BK424.out 6
 have hns26_0 := NB395_424.out
 have hms26_0 := NB424_395.out
 have hs27 : w19.cell? ⟨gb424, 7, none⟩ = some (.int .i64 0) := CZ BK424.out 7
 have hfs27 := blk_frozen BK424.out 7
 have hns27_0 := NB395_424.out
 have hms27_0 := NB424_395.out
 have hs28 : w19.cell? ⟨gb424, 8, none⟩ = some (.int .i64 0) := CZ BK424.out 8
 have hfs28 := blk_frozen BK424.out 8
 have hns28_0 := NB395_424.out
 have hms28_0 := NB424_395.out
 have hs29 : w19.cell? ⟨gb424, 9, none⟩ = some (.bool false) := CZ BK424.out 9
 have hfs29 := blk_frozen BK424.out 9
 have hns29_0 := NB395_424.out
 have hms29_0 := NB424_395.out
 have hs30 : w19.cell? ⟨gb424, 10, none⟩ = some (.int .i64 0) := CZ BK424.out 10
 have hfs30 := blk_frozen BK424.out 10
 have hns30_0 := NB395_424.out
 have hms30_0 := NB424_395.out
 refine skip_ (w1 := ?_) (by rfl) rfl ?_ ?_
 rotate_left
 ·
  go_simp
  rfl
 refine hK.out _ _ ⟨((cell_far (p := ⟨gb424, _, none⟩) NB395_424.out _).trans (((cell_far (p := ⟨gb424, _, none⟩) NB395_424.out _).trans (((cell_far (p := ⟨gb424, _, none⟩) NB395_424.out _).trans (((cell_far (p := ⟨gb424, _, none⟩) NB395_424.out _).trans (((cell_far (p := ⟨gb424, _, none⟩) NB395_424.out _).trans (((cell_far (p := ⟨gb424, _, none⟩) NB395_424.out _).trans (((cell_far (p := ⟨gb424, _, none⟩) NB395_424.out _).trans (((cell_far (p := ⟨gb424, _, none⟩) NB395_424.out _).trans (((cell_far (p := ⟨gb424, _, none⟩) NB395_424.out _).trans (((cell_far (p := ⟨gb424, _, none⟩) NB395_424.out _).trans (((cell_far (p := ⟨gb424, _, none⟩) NB395_424.out _).trans (hHeld.1)))))))))))))))))))))), ((cell_far (p := ⟨gb424, _, none⟩) NB395_424.out _).trans (((cell_far (p := ⟨gb424, _, none⟩) NB395_424.out _).trans (((cell_far (p := ⟨gb424, _, none⟩) NB395_424.out _).trans (((cell_far (p := ⟨gb424, _, none⟩) NB395_424.out _).trans (((cell_far (p := ⟨gb424, _, none⟩) NB395_424.out _).trans (((cell_far (p := ⟨gb424, _, none⟩) NB395_424.out _).trans (((cell_far (p := ⟨gb424, _, none⟩) NB395_424.out _).trans (((cell_far (p := ⟨gb424, _, none⟩) NB395_424.out _).trans (((cell_far (p := ⟨gb424, _, none⟩) NB395_424.out _).trans (((cell_far (p := ⟨gb424, _, none⟩) NB395_424.out _).trans (((cell_far (p := ⟨gb424, _, none⟩) NB395_424.out _).trans (hHeld.2.1)))))))))))))))))))))), ((cell_far (p := ⟨gb424, _, none⟩) NB395_424.out _).trans (((cell_far (p := ⟨gb424, _, none⟩) NB395_424.out _).trans (((cell_far (p := ⟨gb424, _, none⟩) NB395_424.out _).trans (((cell_far (p := ⟨gb424, _, none⟩) NB395_424.out _).trans (((cell_far (p := ⟨gb424, _, none⟩) NB395_424.out _).trans (((cell_far (p := ⟨gb424, _, none⟩) NB395_424.out _).trans (((cell_far (p := ⟨gb424, _, none⟩) NB395_424.out _).trans (((cell_far (p := ⟨gb424, _, none⟩) NB395_424.out _).trans (((cell_far (p := ⟨gb424, _, none⟩) NB395_424.out _).trans (((cell_far (p := ⟨gb424, _, none⟩) NB395_424.out _).trans (((cell_far (p := ⟨gb424, _, none⟩) NB395_424.out _).trans (hHeld.2.2.1)))))))))))))))))))))), ((cell_far (p := ⟨gb424, _, none⟩) NB395_424.out _).trans (((cell_far (p := ⟨gb424, _, none⟩) NB395_424.out _).trans (((cell_far (p := ⟨gb424, _, none⟩) NB395_424.out _).trans (((cell_far (p := ⟨gb424, _, none⟩) NB395_424.out _).trans (((cell_far (p := ⟨gb424, _, none⟩) NB395_424.out _).trans (((cell_far (p := ⟨gb424, _, none⟩) NB395_424.out _).trans (((cell_far (p := ⟨gb424, _, none⟩) NB395_424.out _).trans (((cell_far (p := ⟨gb424, _, none⟩) NB395_424.out _).trans (((cell_far (p := ⟨gb424, _, none⟩) NB395_424.out _).trans (((cell_far (p := ⟨gb424, _, none⟩) NB395_424.out _).trans (((cell_far (p := ⟨gb424, _, none⟩) NB395_424.out _).trans (hHeld.2.2.2.1)))))))))))))))))))))), ((cell_far (p := ⟨gb424, _, none⟩) NB395_424.out _).trans (((cell_far (p := ⟨gb424, _, none⟩) NB395_424.out _).trans (((cell_far (p := ⟨gb424, _, none⟩) NB395_424.out _).trans (((cell_far (p := ⟨gb424, _, none⟩) NB395_424.out _).trans (((cell_far (p := ⟨gb424, _, none⟩) NB395_424.out _).trans (((cell_far (p := ⟨gb424, _, none⟩) NB395_424.out _).trans (((cell_far (p := ⟨gb424, _, none⟩) NB395_424.out _).trans (((cell_far (p := ⟨gb424, _, none⟩) NB395_424.out _).trans (((cell_far (p := ⟨gb424, _, none⟩) NB395_424.out _).trans (((cell_far (p := ⟨gb424, _, none⟩) NB395_424.out _).trans (((cell_far (p := ⟨gb424, _, none⟩) NB395_424.out _).trans (hHeld.2.2.2.2.1)))))))))))))))))))))), ((cell_far (p := ⟨gb424, _, none⟩) NB395_424.out _).trans (((cell_far (p := ⟨gb424, _, none⟩) NB395_424.out _).trans (((cell_far (p := ⟨gb424, _, none⟩) NB395_424.out _).trans (((cell_far (p := ⟨gb424, _, none⟩) NB395_424.out _).trans (((cell_far (p := ⟨gb424, _, none⟩) NB395_424.out _).trans (((cell_far (p := ⟨gb424, _, none⟩) NB395_424.out _).trans (((cell_far (p := ⟨gb424, _, none⟩) NB395_424.out _).trans (((cell_far (p := ⟨gb424, _, none⟩) NB395_424.out _).trans (((cell_far (p := ⟨gb424, _, none⟩) NB395_424.out _).trans (((cell_far (p := ⟨gb424, _, none⟩) NB395_424.out _).trans (((cell_far (p := ⟨gb424, _, none⟩) NB395_424.out _).trans (hHeld.2.2.2.2.2.1)))))))))))))))))))))), ((cell_far (p := ⟨gb424, _, none⟩) NB395_424.out _).trans (((cell_far (p := ⟨gb424, _, none⟩) NB395_424.out _).trans (((cell_far (p := ⟨gb424, _, none⟩) NB395_424.out _).trans (((cell_far (p := ⟨gb424, _, none⟩) NB395_424.out _).trans (((cell_far (p := ⟨gb424, _, none⟩) NB395_424.out _).trans (((cell_far (p := ⟨gb424, _, none⟩) NB395_424.out _).trans (((cell_far (p := ⟨gb424, _, none⟩) NB395_424.out _).trans (((cell_far (p := ⟨gb424, _, none⟩) NB395_424.out _).trans (((cell_far (p := ⟨gb424, _, none⟩) NB395_424.out _).trans (((cell_far (p := ⟨gb424, _, none⟩) NB395_424.out _).trans (((cell_far (p := ⟨gb424, _, none⟩) NB395_424.out _).trans (hHeld.2.2.2.2.2.2.1)))))))))))))))))))))), ((cell_far (p := ⟨gb424, _, none⟩) NB395_424.out _).trans (((cell_far (p := ⟨gb424, _, none⟩) NB395_424.out _).trans (((cell_far (p := ⟨gb424, _, none⟩) NB395_424.out _).trans (((cell_far (p := ⟨gb424, _, none⟩) NB395_424.out _).trans (((cell_far (p := ⟨gb424, _, none⟩) NB395_424.out _).trans (((cell_far (p := ⟨gb424, _, none⟩) NB395_424.out _).trans (((cell_far (p := ⟨gb424, _, none⟩) NB395_424.out _).trans (((cell_far (p := ⟨gb424, _, none⟩) NB395_424.out _).trans (((cell_far (p := ⟨gb424, _, none⟩) NB395_424.out _).trans (((cell_far (p := ⟨gb424, _, none⟩) NB395_424.out _).trans (((cell_far (p := ⟨gb424, _, none⟩) NB395_424.out _).trans (hHeld.2.2.2.2.2.2.2.1)))))))))))))))))))))), ((cell_far (p := ⟨gb424, _, none⟩) NB395_424.out _).trans (((cell_far (p := ⟨gb424, _, none⟩) NB395_424.out _).trans (((cell_far (p := ⟨gb424, _, none⟩) NB395_424.out _).trans (((cell_far (p := ⟨gb424, _, none⟩) NB395_424.out _).trans (((cell_far (p := ⟨gb424, _, none⟩) NB395_424.out _).trans (((cell_far (p := ⟨gb424, _, none⟩) NB395_424.out _).trans (((cell_far (p := ⟨gb424, _, none⟩) NB395_424.out _).trans (((cell_far (p := ⟨gb424, _, none⟩) NB395_424.out _).trans (((cell_far (p := ⟨gb424, _, none⟩) NB395_424.out _).trans (((cell_far (p := ⟨gb424, _, none⟩) NB395_424.out _).trans (((cell_far (p := ⟨gb424, _, none⟩) NB395_424.out _).trans (hHeld.2.2.2.2.2.2.2.2.1)))))))))))))))))))))), ((cell_far (p := ⟨gb424, _, none⟩) NB395_424.out _).trans (((cell_far (p := ⟨gb424, _, none⟩) NB395_424.out _).trans (((cell_far (p := ⟨gb424, _, none⟩) NB395_424.out _).trans (((cell_far (p := ⟨gb424, _, none⟩) NB395_424.out _).trans (((cell_far (p := ⟨gb424, _, none⟩) NB395_424.out _).trans (((cell_far (p := ⟨gb424, _, none⟩) NB395_424.out _).trans (((cell_far (p := ⟨gb424, _, none⟩) NB395_424.out _).trans (((cell_far (p := ⟨gb424, _, none⟩) NB395_424.out _).trans (((cell_far (p := ⟨gb424, _, none⟩) NB395_424.out _).trans (((cell_far (p := ⟨gb424, _, none⟩) NB395_424.out _).trans (((cell_far (p := ⟨gb424, _, none⟩) NB395_424.out _).trans (hHeld.2.2.2.2.2.2.2.2.2.1)))))))))))))))))))))), ((cell_far (p := ⟨gb424, _, none⟩) NB395_424.out _).trans (((cell_far (p := ⟨gb424, _, none⟩) NB395_424.out _).trans (((cell_far (p := ⟨gb424, _, none⟩) NB395_424.out _).trans (((cell_far (p := ⟨gb424, _, none⟩) NB395_424.out _).trans (((cell_far (p := ⟨gb424, _, none⟩) NB395_424.out _).trans (((cell_far (p := ⟨gb424, _, none⟩) NB395_424.out _).trans (((cell_far (p := ⟨gb424, _, none⟩) NB395_424.out _).trans (((cell_far (p := ⟨gb424, _, none⟩) NB395_424.out _).trans (((cell_far (p := ⟨gb424, _, none⟩) NB395_424.out _).trans (((cell_far (p := ⟨gb424, _, none⟩) NB395_424.out _).trans (((cell_far (p := ⟨gb424, _, none⟩) NB395_424.out _).trans (hHeld.2.2.2.2.2.2.2.2.2.2))))))))))))))))))))))⟩ (fun hHeld => ?_)
 clear hK K
 refine done_ (done_of HT_.out (by kernel_rfl)) ?_
 go_upto_region 6 with (first | ((with_reducible refine gate_callee (f := 14) rfl ?_); refine goesL_ (some 27) rfl rfl Try.func14 (by kernel_rfl) rfl #[.slice A0 l0.length c0] rfl (MA) ?_; (with_reducible refine (laws_toIntS.calls k _ _ l0 t425 _ ?side1 ?side2 A8.out).mono ?_); (case side1 => exact Kd.C_below HR0.out (BL)); (case side2 => exact HC0.out); rintro e w31 ⟨v426, rfl, ho0, hb⟩; refine ⟨_, rfl, ?_⟩; have HO427 := Aside0.mk (Kd.R_lower (Kd.R_new' (Kd.R_new' ho0 (Kd.R_lt (by (with_reducible repeat (first | apply r1 | apply r2 | apply r3)); exact (Kd.R_mono (Kd.R_far (p := ⟨gb424, 10, none⟩) (Kd.R_far (p := ⟨gb424, 9, none⟩) (Kd.R_far (p := ⟨gb424, 8, none⟩) (Kd.R_far (p := ⟨gb424, 7, none⟩) (Kd.R_far (p := ⟨gb424, 6, none⟩) (Kd.R_far (p := ⟨gb424, 5, none⟩) (Kd.R_far (p := ⟨gb424, 4, none⟩) (Kd.R_far (p := ⟨gb424, 3, none⟩) (Kd.R_far (p := ⟨gb424, 2, none⟩) (Kd.R_far (p := ⟨gb424, 1, none⟩) (Kd.R_far (p := ⟨gb424, 0, none⟩) (Kd.R_types HO398.out BK424.out (by decide)) (fun _ hk => hk.2) (.int .i64 t413)) (fun _ hk => hk.2) (.int .i64 t414)) (fun _ hk => hk.2) (.int .i64 t415)) (fun _ hk => hk.2) (.int .i64 t416)) (fun _ hk => hk.2) (.int .i64 t417)) (fun _ hk => hk.2) (.int .i64 t418)) (fun _ hk => hk.2) (.int .i64 t419)) (fun _ hk => hk.2) (.int .i64 t420)) (fun _ hk => hk.2) (.int .i64 t421)) (fun _ hk => hk.2) (.bool t422)) (fun _ hk => hk.2) (.int .i64 t423)) (fun _ h_ => h_.1))))) (Kd.R_lt (by (with_reducible repeat (first | apply r1 | apply r2 | apply r3)); exact (Kd.R_mono (Kd.R_far (p := ⟨gb424, 10, none⟩) (Kd.R_far (p := ⟨gb424, 9, none⟩) (Kd.R_far (p := ⟨gb424, 8, none⟩) (Kd.R_far (p := ⟨gb424, 7, none⟩) (Kd.R_far (p := ⟨gb424, 6, none⟩) (Kd.R_far (p := ⟨gb424, 5, none⟩) (Kd.R_far (p := ⟨gb424, 4, none⟩) (Kd.R_far (p := ⟨gb424, 3, none⟩) (Kd.R_far (p := ⟨gb424, 2, none⟩) (Kd.R_far (p := ⟨gb424, 1, none⟩) (Kd.R_far (p := ⟨gb424, 0, none⟩) (Kd.R_types HO412.out BK424.out (by decide)) (fun _ hk => hk.2) (.int .i64 t413)) (fun _ hk => hk.2) (.int .i64 t414)) (fun _ hk => hk.2) (.int .i64 t415)) (fun _ hk => hk.2) (.int .i64 t416)) (fun _ hk => hk.2) (.int .i64 t417)) (fun _ hk => hk.2) (.int .i64 t418)) (fun _ hk => hk.2) (.int .i64 t419)) (fun _ hk => hk.2) (.int .i64 t420)) (fun _ hk => hk.2) (.int .i64 t421)) (fun _ hk => hk.2) (.bool t422)) (fun _ hk => hk.2) (.int .i64 t423)) (fun _ h_ => h_.1))))) (below_size (BL))); replace HO398 := Aside0.mk (Kd.R_elder' (by (with_reducible repeat (first | apply r1 | apply r2 | apply r3)); exact (Kd.R_mono (Kd.R_far (p := ⟨gb424, 10, none⟩) (Kd.R_far (p := ⟨gb424, 9, none⟩) (Kd.R_far (p := ⟨gb424, 8, none⟩) (Kd.R_far (p := ⟨gb424, 7, none⟩) (Kd.R_far (p := ⟨gb424, 6, none⟩) (Kd.R_far (p := ⟨gb424, 5, none⟩) (Kd.R_far (p := ⟨gb424, 4, none⟩) (Kd.R_far (p := ⟨gb424, 3, none⟩) (Kd.R_far (p := ⟨gb424, 2, none⟩) (Kd.R_far (p := ⟨gb424, 1, none⟩) (Kd.R_far (p := ⟨gb424, 0, none⟩) (Kd.R_types HO398.out BK424.out (by decide)) (fun _ hk => hk.2) (.int .i64 t413)) (fun _ hk => hk.2) (.int .i64 t414)) (fun _ hk => hk.2) (.int .i64 t415)) (fun _ hk => hk.2) (.int .i64 t416)) (fun _ hk => hk.2) (.int .i64 t417)) (fun _ hk => hk.2) (.int .i64 t418)) (fun _ hk => hk.2) (.int .i64 t419)) (fun _ hk => hk.2) (.int .i64 t420)) (fun _ hk => hk.2) (.int .i64 t421)) (fun _ hk => hk.2) (.bool t422)) (fun _ hk => hk.2) (.int .i64 t423)) (fun _ h_ => h_.1))) (Kd.R_base ho0) hb); replace HO412 := Aside0.mk (Kd.R_elder' (by (with_reducible repeat (first | apply r1 | apply r2 | apply r3)); exact (Kd.R_mono (Kd.R_far (p := ⟨gb424, 10, none⟩) (Kd.R_far (p := ⟨gb424, 9, none⟩) (Kd.R_far (p := ⟨gb424, 8, none⟩) (Kd.R_far (p := ⟨gb424, 7, none⟩) (Kd.R_far (p := ⟨gb424, 6, none⟩) (Kd.R_far (p := ⟨gb424, 5, none⟩) (Kd.R_far (p := ⟨gb424, 4, none⟩) (Kd.R_far (p := ⟨gb424, 3, none⟩) (Kd.R_far (p := ⟨gb424, 2, none⟩) (Kd.R_far (p := ⟨gb424, 1, none⟩) (Kd.R_far (p := ⟨gb424, 0, none⟩) (Kd.R_types HO412.out BK424.out (by decide)) (fun _ hk => hk.2) (.int .i64 t413)) (fun _ hk => hk.2) (.int .i64 t414)) (fun _ hk => hk.2) (.int .i64 t415)) (fun _ hk => hk.2) (.int .i64 t416)) (fun _ hk => hk.2) (.int .i64 t417)) (fun _ hk => hk.2) (.int .i64 t418)) (fun _ hk => hk.2) (.int .i64 t419)) (fun _ hk => hk.2) (.int .i64 t420)) (fun _ hk => hk.2) (.int .i64 t421)) (fun _ hk => hk.2) (.bool t422)) (fun _ hk => hk.2) (.int .i64 t423)) (fun _ h_ => h_.1))) (Kd.R_base ho0) hb); replace BK395 := Aside0.mk (blk_below (g := gb395) (o := .cells #[.int .i64 a1_0, .int .i64 a1_1, .int .i64 a1_2, .int .i64 a1_3, .int .i64 a1_4, .int .i64 a1_5, .int .i64 a1_6, .int .i64 a1_7, .int .i64 a1_8, .bool a1_9, .int .i64 a1_10] 45 (0, 0)) (by (with_reducible repeat (first | apply b1 | apply b2 | apply b3)); refine blk_far ?_ NB395_424.out _; (with_reducible repeat (first | apply b1 | apply b2 | apply b3)); refine blk_far ?_ NB395_424.out _; (with_reducible repeat (first | apply b1 | apply b2 | apply b3)); refine blk_far ?_ NB395_424.out _; (with_reducible repeat (first | apply b1 | apply b2 | apply b3)); refine blk_far ?_ NB395_424.out _; (with_reducible repeat (first | apply b1 | apply b2 | apply b3)); refine blk_far ?_ NB395_424.out _; (with_reducible repeat (first | apply b1 | apply b2 | apply b3)); refine blk_far ?_ NB395_424.out _; (with_reducible repeat (first | apply b1 | apply b2 | apply b3)); refine blk_far ?_ NB395_424.out _; (with_reducible repeat (first | apply b1 | apply b2 | apply b3)); refine blk_far ?_ NB395_424.out _; (with_reducible repeat (first | apply b1 | apply b2 | apply b3)); refine blk_far ?_ NB395_424.out _; (with_reducible repeat (first | apply b1 | apply b2 | apply b3)); refine blk_far ?_ NB395_424.out _; (with_reducible repeat (first | apply b1 | apply b2 | apply b3)); refine blk_far ?_ NB395_424.out _; (with_reducible repeat (first | apply b1 | apply b2 | apply b3)); exact BK395.out) hb); replace BK424 := Aside0.mk (blk_below (g := gb424) (o := .cells #[.int .i64 t413, .int .i64 t414, .int .i64 t415, .int .i64 t416, .int .i64 t417, .int .i64 t418, .int .i64 t419, .int .i64 t420, .int .i64 t421, .bool t422, .int .i64 t423] 46 (0, 0)) (by (with_reducible repeat (first | apply b1 | apply b2 | apply b3)); refine blk_put (cs := #[.int .i64 t413, .int .i64 t414, .int .i64 t415, .int .i64 t416, .int .i64 t417, .int .i64 t418, .int .i64 t419, .int .i64 t420, .int .i64 t421, .bool t422, .int .i64 0]) ?_ 10 _ rfl; (with_reducible repeat (first | apply b1 | apply b2 | apply b3)); refine blk_put (cs := #[.int .i64 t413, .int .i64 t414, .int .i64 t415, .int .i64 t416, .int .i64 t417, .int .i64 t418, .int .i64 t419, .int .i64 t420, .int .i64 t421, .bool false, .int .i64 0]) ?_ 9 _ rfl; (with_reducible repeat (first | apply b1 | apply b2 | apply b3)); refine blk_put (cs := #[.int .i64 t413, .int .i64 t414, .int .i64 t415, .int .i64 t416, .int .i64 t417, .int .i64 t418, .int .i64 t419, .int .i64 t420, .int .i64 0, .bool false, .int .i64 0]) ?_ 8 _ rfl; (with_reducible repeat (first | apply b1 | apply b2 | apply b3)); refine blk_put (cs := #[.int .i64 t413, .int .i64 t414, .int .i64 t415, .int .i64 t416, .int .i64 t417, .int .i64 t418, .int .i64 t419, .int .i64 0, .int .i64 0, .bool false, .int .i64 0]) ?_ 7 _ rfl; (with_reducible repeat (first | apply b1 | apply b2 | apply b3)); refine blk_put (cs := #[.int .i64 t413, .int .i64 t414, .int .i64 t415, .int .i64 t416, .int .i64 t417, .int .i64 t418, .int .i64 0, .int .i64 0, .int .i64 0, .bool false, .int .i64 0]) ?_ 6 _ rfl; (with_reducible repeat (first | apply b1 | apply b2 | apply b3)); refine blk_put (cs := #[.int .i64 t413, .int .i64 t414, .int .i64 t415, .int .i64 t416, .int .i64 t417, .int .i64 0, .int .i64 0, .int .i64 0, .int .i64 0, .bool false, .int .i64 0]) ?_ 5 _ rfl; (with_reducible repeat (first | apply b1 | apply b2 | apply b3)); refine blk_put (cs := #[.int .i64 t413, .int .i64 t414, .int .i64 t415, .int .i64 t416, .int .i64 0, .int .i64 0, .int .i64 0, .int .i64 0, .int .i64 0, .bool false, .int .i64 0]) ?_ 4 _ rfl; (with_reducible repeat (first | apply b1 | apply b2 | apply b3)); refine blk_put (cs := #[.int .i64 t413, .int .i64 t414, .int .i64 t415, .int .i64 0, .int .i64 0, .int .i64 0, .int .i64 0, .int .i64 0, .int .i64 0, .bool false, .int .i64 0]) ?_ 3 _ rfl; (with_reducible repeat (first | apply b1 | apply b2 | apply b3)); refine blk_put (cs := #[.int .i64 t413, .int .i64 t414, .int .i64 0, .int .i64 0, .int .i64 0, .int .i64 0, .int .i64 0, .int .i64 0, .int .i64 0, .bool false, .int .i64 0]) ?_ 2 _ rfl; (with_reducible repeat (first | apply b1 | apply b2 | apply b3)); refine blk_put (cs := #[.int .i64 t413, .int .i64 0, .int .i64 0, .int .i64 0, .int .i64 0, .int .i64 0, .int .i64 0, .int .i64 0, .int .i64 0, .bool false, .int .i64 0]) ?_ 1 _ rfl; (with_reducible repeat (first | apply b1 | apply b2 | apply b3)); refine blk_put (cs := #[.int .i64 0, .int .i64 0, .int .i64 0, .int .i64 0, .int .i64 0, .int .i64 0, .int .i64 0, .int .i64 0, .int .i64 0, .bool false, .int .i64 0]) ?_ 0 _ rfl; (with_reducible repeat (first | apply b1 | apply b2 | apply b3)); exact BK424.out) hb); replace HB := Aside0.mk (below_step (BL) hb); (try clear hb); (try clear hb2); (try clear hk); (try clear hi); (try clear ho0); have hnb32 := NB395_424.out; have hnc32 := NB424_395.out; have hcz33_0 : w31.cell? ⟨gb395, 0, none⟩ = some (.int .i64 a1_0) := CZ BK395.out 0; have hcz33_1 : w31.cell? ⟨gb395, 1, none⟩ = some (.int .i64 a1_1) := CZ BK395.out 1; have hcz33_2 : w31.cell? ⟨gb395, 2, none⟩ = some (.int .i64 a1_2) := CZ BK395.out 2; have hcz33_3 : w31.cell? ⟨gb395, 3, none⟩ = some (.int .i64 a1_3) := CZ BK395.out 3; have hcz33_4 : w31.cell? ⟨gb395, 4, none⟩ = some (.int .i64 a1_4) := CZ BK395.out 4; have hcz33_5 : w31.cell? ⟨gb395, 5, none⟩ = some (.int .i64 a1_5) := CZ BK395.out 5; have hcz33_6 : w31.cell? ⟨gb395, 6, none⟩ = some (.int .i64 a1_6) := CZ BK395.out 6; have hcz33_7 : w31.cell? ⟨gb395, 7, none⟩ = some (.int .i64 a1_7) := CZ BK395.out 7; have hcz33_8 : w31.cell? ⟨gb395, 8, none⟩ = some (.int .i64 a1_8) := CZ BK395.out 8; have hcz33_9 : w31.cell? ⟨gb395, 9, none⟩ = some (.bool a1_9) := CZ BK395.out 9; have hcz33_10 : w31.cell? ⟨gb395, 10, none⟩ = some (.int .i64 a1_10) := CZ BK395.out 10; have hfz33_0 := blk_frozen BK395.out 0; have hfz33_1 := blk_frozen BK395.out 1; have hfz33_2 := blk_frozen BK395.out 2; have hfz33_3 := blk_frozen BK395.out 3; have hfz33_4 := blk_frozen BK395.out 4; have hfz33_5 := blk_frozen BK395.out 5; have hfz33_6 := blk_frozen BK395.out 6; have hfz33_7 := blk_frozen BK395.out 7; have hfz33_8 := blk_frozen BK395.out 8; have hfz33_9 := blk_frozen BK395.out 9; have hfz33_10 := blk_frozen BK395.out 10) | ((with_reducible refine gate_callee (f := 38) rfl ?_); refine goesL_ (some 31) rfl rfl Try.func38 (by kernel_rfl) rfl #[.agg #[.int .i64 a1_0, .int .i64 a1_1, .int .i64 a1_2, .int .i64 a1_3, .int .i64 a1_4, .int .i64 a1_5, .int .i64 a1_6, .int .i64 a1_7, .int .i64 a1_8, .bool a1_9, .int .i64 a1_10]] rfl (MA) ?_; (with_reducible refine (laws_toTask.calls a1_0 a1_1 a1_2 a1_3 a1_4 a1_5 a1_6 a1_7 a1_8 a1_9 a1_10 t428 t429 t430 t431 t432 t433 t434 t435 t436 t437 t438 _ A9.out).mono ?_); rintro e w34 ⟨rfl, hb⟩; refine ⟨_, rfl, ?_⟩; replace HO398 := Aside0.mk (Kd.R_below (RQ HO398.out) hb); replace HO412 := Aside0.mk (Kd.R_below (RQ HO412.out) hb); replace HO427 := Aside0.mk (Kd.R_below (RQ HO427.out) hb); replace BK395 := BB BK395.out hb; replace BK424 := BB BK424.out hb; replace HB := Aside0.mk (below_step (BL) hb); (try clear hb); (try clear hb2); (try clear hk); (try clear hi); obtain ⟨Ao35, co35, eo35⟩ := Kd.R_slice HO427.out; subst eo35) | ((with_reducible refine gate_callee (f := 39) rfl ?_); refine goesL_ (some 32) rfl rfl Try.func39 (by kernel_rfl) rfl #[.slice Ao35 t425.length co35, .agg #[.int .i64 t428, .int .i64 t429, .int .i64 t430, .int .i64 t431, .int .i64 t432, .int .i64 t433, .int .i64 t434, .int .i64 t435, .int .i64 t436, .bool t437, .int .i64 t438]] rfl (MA) ?_; (with_reducible refine (impl_StepTask.calls k _ _ t425 t428 t429 t430 t431 t432 t433 t434 t435 t436 t437 t438 t439 t442 t443 t444 t445 t446 t447 t448 t449 t450 t451 t452 _ ?side1 ?side2 A10.out).mono ?_); (case side1 => repeat (first | exact (Kd.R_reads' HO427.out).2.2 | (with_reducible refine Kd.C_alloc ?_ _) | (with_reducible refine Kd.C_drewN ?_ _) | (with_reducible refine Kd.C_drew ?_))); (case side2 => exact (Kd.R_reads' HO427.out).2.1); rintro e w36 ⟨v440, rfl, ho0, hb⟩; refine ⟨_, rfl, ?_⟩; have HO441 := Aside0.mk (Kd.R_lower (Kd.R_new' (Kd.R_new' (Kd.R_new' ho0 (Kd.R_lt (RQ HO398.out))) (Kd.R_lt (RQ HO412.out))) (Kd.R_lt (RQ HO427.out))) (below_size (BL))); replace HO398 := Aside0.mk (Kd.R_elder' (RQ HO398.out) (Kd.R_base ho0) hb); replace HO412 := Aside0.mk (Kd.R_elder' (RQ HO412.out) (Kd.R_base ho0) hb); replace HO427 := Aside0.mk (Kd.R_elder' (RQ HO427.out) (Kd.R_base ho0) hb); replace BK395 := BB BK395.out hb; replace BK424 := BB BK424.out hb; replace HB := Aside0.mk (below_step (BL) hb); (try clear hb); (try clear hb2); (try clear hk); (try clear hi); (try clear ho0)) | ((with_reducible refine gate_dst (N := 9) rfl ?_); refine bE 9 #[.int .i64 0, .int .i64 0, .int .i64 0, .int .i64 0, .int .i64 0, .int .i64 0, .int .i64 0, .int .i64 0, .int .i64 0, .bool false, .int .i64 0] 46 ?_; intro gb453 hg w37 hbox hb; have BK453 := Aside0.mk (hbox); have GW453 : Aside0 (w.heap.size ≤ gb453) := GS; have GE453 : Aside0 (w.heap.size ≤ gb453) := GS; have NB395_453 := NL BK395.out hg; have NB453_395 := NG BK395.out hg; have NB424_453 := NL BK424.out hg; have NB453_424 := NG BK424.out hg; replace HO398 := Aside0.mk (Kd.R_below (RQ HO398.out) hb); replace HO412 := Aside0.mk (Kd.R_below (RQ HO412.out) hb); replace HO427 := Aside0.mk (Kd.R_below (RQ HO427.out) hb); replace HO441 := Aside0.mk (Kd.R_below (RQ HO441.out) hb); replace BK395 := BB BK395.out hb; replace BK424 := BB BK424.out hb; replace HB := Aside0.mk (below_step (BL) hb); clear hb hbox hg; have hnb38 := NB453_395.out; have hnc38 := NB395_453.out; have hnb39 := NB453_424.out; have hnc39 := NB424_453.out; have hcz40_0 : w37.cell? ⟨gb453, 0, none⟩ = some (.int .i64 0) := CZ BK453.out 0; have hcz40_1 : w37.cell? ⟨gb453, 1, none⟩ = some (.int .i64 0) := CZ BK453.out 1; have hcz40_2 : w37.cell? ⟨gb453, 2, none⟩ = some (.int .i64 0) := CZ BK453.out 2; have hcz40_3 : w37.cell? ⟨gb453, 3, none⟩ = some (.int .i64 0) := CZ BK453.out 3; have hcz40_4 : w37.cell? ⟨gb453, 4, none⟩ = some (.int .i64 0) := CZ BK453.out 4; have hcz40_5 : w37.cell? ⟨gb453, 5, none⟩ = some (.int .i64 0) := CZ BK453.out 5; have hcz40_6 : w37.cell? ⟨gb453, 6, none⟩ = some (.int .i64 0) := CZ BK453.out 6; have hcz40_7 : w37.cell? ⟨gb453, 7, none⟩ = some (.int .i64 0) := CZ BK453.out 7; have hcz40_8 : w37.cell? ⟨gb453, 8, none⟩ = some (.int .i64 0) := CZ BK453.out 8; have hcz40_9 : w37.cell? ⟨gb453, 9, none⟩ = some (.bool false) := CZ BK453.out 9; have hcz40_10 : w37.cell? ⟨gb453, 10, none⟩ = some (.int .i64 0) := CZ BK453.out 10; have hfz40_0 := blk_frozen BK453.out 0; have hfz40_1 := blk_frozen BK453.out 1; have hfz40_2 := blk_frozen BK453.out 2; have hfz40_3 := blk_frozen BK453.out 3; have hfz40_4 := blk_frozen BK453.out 4; have hfz40_5 := blk_frozen BK453.out 5; have hfz40_6 := blk_frozen BK453.out 6; have hfz40_7 := blk_frozen BK453.out 7; have hfz40_8 := blk_frozen BK453.out 8; have hfz40_9 := blk_frozen BK453.out 9; have hfz40_10 := blk_frozen BK453.out 10))
 (try simp only [Act.put, zA, zB, zC])
 go_cut [44] (fun v44 wc => ∃ (kq : Nat) (x44_10 : Bool), v44 = .bool x44_10 ∧ Aside0 (laws_FnExactStepTask.j0 kq l0 t410 t425 t439 x44_10 a1_0 a1_1 a1_2 a1_3 a1_4 a1_5 a1_6 a1_7 a1_8 a1_9 a1_10 t413 t414 t415 t416 t417 t418 t419 t420 t421 t422 t423 t442 t443 t444 t445 t446 t447 t448 t449 t450 t451 t452 = some r) ∧ Aside0 (kq ≤ k) ∧ Aside0 (Kd.R (Kd.int .i64) 3 wc w.heap.size (fun k_ => some k_ ≠ ((.slice Ao35 t425.length co35) : Value).ownBlock ∧ some k_ ≠ (v440 : Value).ownBlock) v411 t410) ∧ Aside0 (Kd.R (Kd.int .i64) 3 wc w.heap.size (fun k_ => some k_ ≠ (v411 : Value).ownBlock ∧ some k_ ≠ (v440 : Value).ownBlock) (.slice Ao35 t425.length co35) t425) ∧ Aside0 (Kd.R (Kd.int .i64) 3 wc w.heap.size (fun k_ => some k_ ≠ (v411 : Value).ownBlock ∧ some k_ ≠ ((.slice Ao35 t425.length co35) : Value).ownBlock) v440 t439) ∧ Aside0 (wc.heap[gb395]? = some (.cells #[.int .i64 a1_0, .int .i64 a1_1, .int .i64 a1_2, .int .i64 a1_3, .int .i64 a1_4, .int .i64 a1_5, .int .i64 a1_6, .int .i64 a1_7, .int .i64 a1_8, .bool a1_9, .int .i64 a1_10] 45 (0, 0))) ∧ Aside0 (wc.heap[gb424]? = some (.cells #[.int .i64 t413, .int .i64 t414, .int .i64 t415, .int .i64 t416, .int .i64 t417, .int .i64 t418, .int .i64 t419, .int .i64 t420, .int .i64 t421, .bool t422, .int .i64 t423] 46 (0, 0))) ∧ Aside0 (wc.heap[gb453]? = some (.cells #[.int .i64 t442, .int .i64 t443, .int .i64 t444, .int .i64 t445, .int .i64 t446, .int .i64 t447, .int .i64 t448, .int .i64 t449, .int .i64 t450, .bool t451, .int .i64 t452] 46 (0, 0))) ∧ Aside0 (Below w.heap.size w wc))
 case first =>
  have H := HC11.out
  clear HC11
  replace H := Option.bind_eq_some_iff.mp H
  obtain ⟨t454, A410, H⟩ := H
  replace H : (if t454 = true then ((laws_eqTask.f t442 t443 t444 t445 t446 t447 t448 t449 t450 t451 t452 t413 t414 t415 t416 t417 t418 t419 t420 t421 t422 t423).bind fun t455 => (laws_FnExactStepTask.j0 k l0 t410 t425 t439 (!t455) a1_0 a1_1 a1_2 a1_3 a1_4 a1_5 a1_6 a1_7 a1_8 a1_9 a1_10 t413 t414 t415 t416 t417 t418 t419 t420 t421 t422 t423 t442 t443 t444 t445 t446 t447 t448 t449 t450 t451 t452)) else (laws_FnExactStepTask.j0 k l0 t410 t425 t439 true a1_0 a1_1 a1_2 a1_3 a1_4 a1_5 a1_6 a1_7 a1_8 a1_9 a1_10 t413 t414 t415 t416 t417 t418 t419 t420 t421 t422 t423 t442 t443 t444 t445 t446 t447 t448 t449 t450 t451 t452)) = some r := H
  have A41 := Aside0.mk A410
  clear A410
  by_cases c42 : t454 = true; rotate_left
  ·
   replace c42 := Bool.eq_false_iff.mpr c42
   subst c42
   have H1 : (laws_FnExactStepTask.j0 k l0 t410 t425 t439 true a1_0 a1_1 a1_2 a1_3 a1_4 a1_5 a1_6 a1_7 a1_8 a1_9 a1_10 t413 t414 t415 t416 t417 t418 t419 t420 t421 t422 t423 t442 t443 t444 t445 t446 t447 t448 t449 t450 t451 t452) = some r := by rw [if_neg (show ¬ (false = true) by decide)] at H; exact H
   clear H
   have H := H1
   clear H1
   have H' := Aside0.mk H
   clear H
   obtain ⟨Ao52, co52, eo52⟩ := Kd.R_slice HO441.out
   subst eo52
   obtain ⟨Ao53, co53, eo53⟩ := Kd.R_slice HO412.out
   subst eo53
   go_wp2_with (first | ((with_reducible refine gate_callee (f := 16) rfl ?_); refine goesL_ (some 37) rfl rfl Try.func16 (by kernel_rfl) rfl #[.slice Ao52 t439.length co52, .slice Ao53 t410.length co53] rfl (MA) ?_; (with_reducible refine (laws_eqIntS.calls k _ _ t439 _ _ t410 false _ ?side1 ?side2 ?side3 ?side4 A41.out).mono ?_); (case side1 => refine (Kd.R_reads' (e := 3) (base := w.heap.size) (ok := fun k_ => (((True ∧ some k_ ≠ (v397 : Value).ownBlock) ∧ some k_ ≠ (.slice Ao53 t410.length co53 : Value).ownBlock) ∧ some k_ ≠ (.slice Ao35 t425.length co35 : Value).ownBlock)) (n := t439.length) (c := co52) ?_).2.2; exact (by (with_reducible repeat (first | apply r1 | apply r2 | apply r3)); exact (Kd.R_mono (Kd.R_far (p := ⟨gb453, 10, none⟩) (Kd.R_far (p := ⟨gb453, 9, none⟩) (Kd.R_far (p := ⟨gb453, 8, none⟩) (Kd.R_far (p := ⟨gb453, 7, none⟩) (Kd.R_far (p := ⟨gb453, 6, none⟩) (Kd.R_far (p := ⟨gb453, 5, none⟩) (Kd.R_far (p := ⟨gb453, 4, none⟩) (Kd.R_far (p := ⟨gb453, 3, none⟩) (Kd.R_far (p := ⟨gb453, 2, none⟩) (Kd.R_far (p := ⟨gb453, 1, none⟩) (Kd.R_far (p := ⟨gb453, 0, none⟩) (Kd.R_types HO441.out BK453.out (by decide)) (fun _ hk => hk.2) (.int .i64 t442)) (fun _ hk => hk.2) (.int .i64 t443)) (fun _ hk => hk.2) (.int .i64 t444)) (fun _ hk => hk.2) (.int .i64 t445)) (fun _ hk => hk.2) (.int .i64 t446)) (fun _ hk => hk.2) (.int .i64 t447)) (fun _ hk => hk.2) (.int .i64 t448)) (fun _ hk => hk.2) (.int .i64 t449)) (fun _ hk => hk.2) (.int .i64 t450)) (fun _ hk => hk.2) (.bool t451)) (fun _ hk => hk.2) (.int .i64 t452)) (fun _ h_ => h_.1)))); (case side2 => exact (Kd.R_reads' HO441.out).2.1); (case side3 => refine (Kd.R_reads' (e := 3) (base := w.heap.size) (ok := fun k_ => ((some k_ ≠ (v397 : Value).ownBlock ∧ some k_ ≠ (.slice Ao35 t425.length co35 : Value).ownBlock) ∧ some k_ ≠ (.slice Ao52 t439.length co52 : Value).ownBlock)) (n := t410.length) (c := co53) ?_).2.2; exact (by (with_reducible repeat (first | apply r1 | apply r2 | apply r3)); exact (Kd.R_mono (Kd.R_far (p := ⟨gb453, 10, none⟩) (Kd.R_far (p := ⟨gb453, 9, none⟩) (Kd.R_far (p := ⟨gb453, 8, none⟩) (Kd.R_far (p := ⟨gb453, 7, none⟩) (Kd.R_far (p := ⟨gb453, 6, none⟩) (Kd.R_far (p := ⟨gb453, 5, none⟩) (Kd.R_far (p := ⟨gb453, 4, none⟩) (Kd.R_far (p := ⟨gb453, 3, none⟩) (Kd.R_far (p := ⟨gb453, 2, none⟩) (Kd.R_far (p := ⟨gb453, 1, none⟩) (Kd.R_far (p := ⟨gb453, 0, none⟩) (Kd.R_types HO412.out BK453.out (by decide)) (fun _ hk => hk.2) (.int .i64 t442)) (fun _ hk => hk.2) (.int .i64 t443)) (fun _ hk => hk.2) (.int .i64 t444)) (fun _ hk => hk.2) (.int .i64 t445)) (fun _ hk => hk.2) (.int .i64 t446)) (fun _ hk => hk.2) (.int .i64 t447)) (fun _ hk => hk.2) (.int .i64 t448)) (fun _ hk => hk.2) (.int .i64 t449)) (fun _ hk => hk.2) (.int .i64 t450)) (fun _ hk => hk.2) (.bool t451)) (fun _ hk => hk.2) (.int .i64 t452)) (fun _ h_ => h_.1)))); (case side4 => exact (Kd.R_reads' HO412.out).2.1); rintro e w' ⟨rfl, ⟨nd, rfl⟩⟩; refine ⟨_, rfl, ?_⟩))
   go_meet
   case rel => exact ⟨_, (true), SD, H', ⟨by first | omega | exact Nat.le_refl _⟩, ⟨by (with_reducible repeat (first | apply r1 | apply r2 | apply r3)); exact Kd.R_mono (Kd.R_far (p := ⟨gb453, 10, none⟩) (Kd.R_far (p := ⟨gb453, 9, none⟩) (Kd.R_far (p := ⟨gb453, 8, none⟩) (Kd.R_far (p := ⟨gb453, 7, none⟩) (Kd.R_far (p := ⟨gb453, 6, none⟩) (Kd.R_far (p := ⟨gb453, 5, none⟩) (Kd.R_far (p := ⟨gb453, 4, none⟩) (Kd.R_far (p := ⟨gb453, 3, none⟩) (Kd.R_far (p := ⟨gb453, 2, none⟩) (Kd.R_far (p := ⟨gb453, 1, none⟩) (Kd.R_far (p := ⟨gb453, 0, none⟩) (Kd.R_types HO412.out BK453.out (by decide)) (fun _ hk => hk.2) (.int .i64 t442)) (fun _ hk => hk.2) (.int .i64 t443)) (fun _ hk => hk.2) (.int .i64 t444)) (fun _ hk => hk.2) (.int .i64 t445)) (fun _ hk => hk.2) (.int .i64 t446)) (fun _ hk => hk.2) (.int .i64 t447)) (fun _ hk => hk.2) (.int .i64 t448)) (fun _ hk => hk.2) (.int .i64 t449)) (fun _ hk => hk.2) (.int .i64 t450)) (fun _ hk => hk.2) (.bool t451)) (fun _ hk => hk.2) (.int .i64 t452)) (fun _ hk => ⟨hk.1.1.2, hk.1.2⟩)⟩, ⟨by (with_reducible repeat (first | apply r1 | apply r2 | apply r3)); exact Kd.R_mono (Kd.R_far (p := ⟨gb453, 10, none⟩) (Kd.R_far (p := ⟨gb453, 9, none⟩) (Kd.R_far (p := ⟨gb453, 8, none⟩) (Kd.R_far (p := ⟨gb453, 7, none⟩) (Kd.R_far (p := ⟨gb453, 6, none⟩) (Kd.R_far (p := ⟨gb453, 5, none⟩) (Kd.R_far (p := ⟨gb453, 4, none⟩) (Kd.R_far (p := ⟨gb453, 3, none⟩) (Kd.R_far (p := ⟨gb453, 2, none⟩) (Kd.R_far (p := ⟨gb453, 1, none⟩) (Kd.R_far (p := ⟨gb453, 0, none⟩) (Kd.R_types HO427.out BK453.out (by decide)) (fun _ hk => hk.2) (.int .i64 t442)) (fun _ hk => hk.2) (.int .i64 t443)) (fun _ hk => hk.2) (.int .i64 t444)) (fun _ hk => hk.2) (.int .i64 t445)) (fun _ hk => hk.2) (.int .i64 t446)) (fun _ hk => hk.2) (.int .i64 t447)) (fun _ hk => hk.2) (.int .i64 t448)) (fun _ hk => hk.2) (.int .i64 t449)) (fun _ hk => hk.2) (.int .i64 t450)) (fun _ hk => hk.2) (.bool t451)) (fun _ hk => hk.2) (.int .i64 t452)) (fun _ hk => ⟨hk.1.1.2, hk.1.2⟩)⟩, ⟨by (with_reducible repeat (first | apply r1 | apply r2 | apply r3)); exact Kd.R_mono (Kd.R_far (p := ⟨gb453, 10, none⟩) (Kd.R_far (p := ⟨gb453, 9, none⟩) (Kd.R_far (p := ⟨gb453, 8, none⟩) (Kd.R_far (p := ⟨gb453, 7, none⟩) (Kd.R_far (p := ⟨gb453, 6, none⟩) (Kd.R_far (p := ⟨gb453, 5, none⟩) (Kd.R_far (p := ⟨gb453, 4, none⟩) (Kd.R_far (p := ⟨gb453, 3, none⟩) (Kd.R_far (p := ⟨gb453, 2, none⟩) (Kd.R_far (p := ⟨gb453, 1, none⟩) (Kd.R_far (p := ⟨gb453, 0, none⟩) (Kd.R_types HO441.out BK453.out (by decide)) (fun _ hk => hk.2) (.int .i64 t442)) (fun _ hk => hk.2) (.int .i64 t443)) (fun _ hk => hk.2) (.int .i64 t444)) (fun _ hk => hk.2) (.int .i64 t445)) (fun _ hk => hk.2) (.int .i64 t446)) (fun _ hk => hk.2) (.int .i64 t447)) (fun _ hk => hk.2) (.int .i64 t448)) (fun _ hk => hk.2) (.int .i64 t449)) (fun _ hk => hk.2) (.int .i64 t450)) (fun _ hk => hk.2) (.bool t451)) (fun _ hk => hk.2) (.int .i64 t452)) (fun _ hk => ⟨hk.1.1.2, hk.1.2⟩)⟩, ⟨by (with_reducible repeat (first | apply b1 | apply b2 | apply b3)); refine blk_far ?_ NB395_453.out _; (with_reducible repeat (first | apply b1 | apply b2 | apply b3)); refine blk_far ?_ NB395_453.out _; (with_reducible repeat (first | apply b1 | apply b2 | apply b3)); refine blk_far ?_ NB395_453.out _; (with_reducible repeat (first | apply b1 | apply b2 | apply b3)); refine blk_far ?_ NB395_453.out _; (with_reducible repeat (first | apply b1 | apply b2 | apply b3)); refine blk_far ?_ NB395_453.out _; (with_reducible repeat (first | apply b1 | apply b2 | apply b3)); refine blk_far ?_ NB395_453.out _; (with_reducible repeat (first | apply b1 | apply b2 | apply b3)); refine blk_far ?_ NB395_453.out _; (with_reducible repeat (first | apply b1 | apply b2 | apply b3)); refine blk_far ?_ NB395_453.out _; (with_reducible repeat (first | apply b1 | apply b2 | apply b3)); refine blk_far ?_ NB395_453.out _; (with_reducible repeat (first | apply b1 | apply b2 | apply b3)); refine blk_far ?_ NB395_453.out _; (with_reducible repeat (first | apply b1 | apply b2 | apply b3)); refine blk_far ?_ NB395_453.out _; (with_reducible repeat (first | apply b1 | apply b2 | apply b3)); exact BK395.out⟩, ⟨by (with_reducible repeat (first | apply b1 | apply b2 | apply b3)); refine blk_far ?_ NB424_453.out _; (with_reducible repeat (first | apply b1 | apply b2 | apply b3)); refine blk_far ?_ NB424_453.out _; (with_reducible repeat (first | apply b1 | apply b2 | apply b3)); refine blk_far ?_ NB424_453.out _; (with_reducible repeat (first | apply b1 | apply b2 | apply b3)); refine blk_far ?_ NB424_453.out _; (with_reducible repeat (first | apply b1 | apply b2 | apply b3)); refine blk_far ?_ NB424_453.out _; (with_reducible repeat (first | apply b1 | apply b2 | apply b3)); refine blk_far ?_ NB424_453.out _; (with_reducible repeat (first | apply b1 | apply b2 | apply b3)); refine blk_far ?_ NB424_453.out _; (with_reducible repeat (first | apply b1 | apply b2 | apply b3)); refine blk_far ?_ NB424_453.out _; (with_reducible repeat (first | apply b1 | apply b2 | apply b3)); refine blk_far ?_ NB424_453.out _; (with_reducible repeat (first | apply b1 | apply b2 | apply b3)); refine blk_far ?_ NB424_453.out _; (with_reducible repeat (first | apply b1 | apply b2 | apply b3)); refine blk_far ?_ NB424_453.out _; (with_reducible repeat (first | apply b1 | apply b2 | apply b3)); exact BK424.out⟩, ⟨by (with_reducible repeat (first | apply b1 | apply b2 | apply b3)); refine blk_put (cs := #[.int .i64 t442, .int .i64 t443, .int .i64 t444, .int .i64 t445, .int .i64 t446, .int .i64 t447, .int .i64 t448, .int .i64 t449, .int .i64 t450, .bool t451, .int .i64 0]) ?_ 10 _ rfl; (with_reducible repeat (first | apply b1 | apply b2 | apply b3)); refine blk_put (cs := #[.int .i64 t442, .int .i64 t443, .int .i64 t444, .int .i64 t445, .int .i64 t446, .int .i64 t447, .int .i64 t448, .int .i64 t449, .int .i64 t450, .bool false, .int .i64 0]) ?_ 9 _ rfl; (with_reducible repeat (first | apply b1 | apply b2 | apply b3)); refine blk_put (cs := #[.int .i64 t442, .int .i64 t443, .int .i64 t444, .int .i64 t445, .int .i64 t446, .int .i64 t447, .int .i64 t448, .int .i64 t449, .int .i64 0, .bool false, .int .i64 0]) ?_ 8 _ rfl; (with_reducible repeat (first | apply b1 | apply b2 | apply b3)); refine blk_put (cs := #[.int .i64 t442, .int .i64 t443, .int .i64 t444, .int .i64 t445, .int .i64 t446, .int .i64 t447, .int .i64 t448, .int .i64 0, .int .i64 0, .bool false, .int .i64 0]) ?_ 7 _ rfl; (with_reducible repeat (first | apply b1 | apply b2 | apply b3)); refine blk_put (cs := #[.int .i64 t442, .int .i64 t443, .int .i64 t444, .int .i64 t445, .int .i64 t446, .int .i64 t447, .int .i64 0, .int .i64 0, .int .i64 0, .bool false, .int .i64 0]) ?_ 6 _ rfl; (with_reducible repeat (first | apply b1 | apply b2 | apply b3)); refine blk_put (cs := #[.int .i64 t442, .int .i64 t443, .int .i64 t444, .int .i64 t445, .int .i64 t446, .int .i64 0, .int .i64 0, .int .i64 0, .int .i64 0, .bool false, .int .i64 0]) ?_ 5 _ rfl; (with_reducible repeat (first | apply b1 | apply b2 | apply b3)); refine blk_put (cs := #[.int .i64 t442, .int .i64 t443, .int .i64 t444, .int .i64 t445, .int .i64 0, .int .i64 0, .int .i64 0, .int .i64 0, .int .i64 0, .bool false, .int .i64 0]) ?_ 4 _ rfl; (with_reducible repeat (first | apply b1 | apply b2 | apply b3)); refine blk_put (cs := #[.int .i64 t442, .int .i64 t443, .int .i64 t444, .int .i64 0, .int .i64 0, .int .i64 0, .int .i64 0, .int .i64 0, .int .i64 0, .bool false, .int .i64 0]) ?_ 3 _ rfl; (with_reducible repeat (first | apply b1 | apply b2 | apply b3)); refine blk_put (cs := #[.int .i64 t442, .int .i64 t443, .int .i64 0, .int .i64 0, .int .i64 0, .int .i64 0, .int .i64 0, .int .i64 0, .int .i64 0, .bool false, .int .i64 0]) ?_ 2 _ rfl; (with_reducible repeat (first | apply b1 | apply b2 | apply b3)); refine blk_put (cs := #[.int .i64 t442, .int .i64 0, .int .i64 0, .int .i64 0, .int .i64 0, .int .i64 0, .int .i64 0, .int .i64 0, .int .i64 0, .bool false, .int .i64 0]) ?_ 1 _ rfl; (with_reducible repeat (first | apply b1 | apply b2 | apply b3)); refine blk_put (cs := #[.int .i64 0, .int .i64 0, .int .i64 0, .int .i64 0, .int .i64 0, .int .i64 0, .int .i64 0, .int .i64 0, .int .i64 0, .bool false, .int .i64 0]) ?_ 0 _ rfl; (with_reducible repeat (first | apply b1 | apply b2 | apply b3)); exact BK453.out⟩, ⟨BL⟩⟩
  subst c42
  have H1 : ((laws_eqTask.f t442 t443 t444 t445 t446 t447 t448 t449 t450 t451 t452 t413 t414 t415 t416 t417 t418 t419 t420 t421 t422 t423).bind fun t455 => (laws_FnExactStepTask.j0 k l0 t410 t425 t439 (!t455) a1_0 a1_1 a1_2 a1_3 a1_4 a1_5 a1_6 a1_7 a1_8 a1_9 a1_10 t413 t414 t415 t416 t417 t418 t419 t420 t421 t422 t423 t442 t443 t444 t445 t446 t447 t448 t449 t450 t451 t452)) = some r := by rw [if_pos rfl] at H; exact H
  clear H
  have H := H1
  clear H1
  replace H := Option.bind_eq_some_iff.mp H
  obtain ⟨t455, A430, H⟩ := H
  replace H : (laws_FnExactStepTask.j0 k l0 t410 t425 t439 (!t455) a1_0 a1_1 a1_2 a1_3 a1_4 a1_5 a1_6 a1_7 a1_8 a1_9 a1_10 t413 t414 t415 t416 t417 t418 t419 t420 t421 t422 t423 t442 t443 t444 t445 t446 t447 t448 t449 t450 t451 t452) = some r := H
  have A43 := Aside0.mk A430
  clear A430
  have H' := Aside0.mk H
  clear H
  obtain ⟨Ao44, co44, eo44⟩ := Kd.R_slice HO441.out
  subst eo44
  obtain ⟨Ao45, co45, eo45⟩ := Kd.R_slice HO412.out
  subst eo45
  go_wp2_with (first | ((with_reducible refine gate_callee (f := 16) rfl ?_); refine goesL_ (some 37) rfl rfl Try.func16 (by kernel_rfl) rfl #[.slice Ao44 t439.length co44, .slice Ao45 t410.length co45] rfl (MA) ?_; (with_reducible refine (laws_eqIntS.calls k _ _ t439 _ _ t410 true _ ?side1 ?side2 ?side3 ?side4 A41.out).mono ?_); (case side1 => refine (Kd.R_reads' (e := 3) (base := w.heap.size) (ok := fun k_ => (((True ∧ some k_ ≠ (v397 : Value).ownBlock) ∧ some k_ ≠ (.slice Ao45 t410.length co45 : Value).ownBlock) ∧ some k_ ≠ (.slice Ao35 t425.length co35 : Value).ownBlock)) (n := t439.length) (c := co44) ?_).2.2; exact (by (with_reducible repeat (first | apply r1 | apply r2 | apply r3)); exact (Kd.R_mono (Kd.R_far (p := ⟨gb453, 10, none⟩) (Kd.R_far (p := ⟨gb453, 9, none⟩) (Kd.R_far (p := ⟨gb453, 8, none⟩) (Kd.R_far (p := ⟨gb453, 7, none⟩) (Kd.R_far (p := ⟨gb453, 6, none⟩) (Kd.R_far (p := ⟨gb453, 5, none⟩) (Kd.R_far (p := ⟨gb453, 4, none⟩) (Kd.R_far (p := ⟨gb453, 3, none⟩) (Kd.R_far (p := ⟨gb453, 2, none⟩) (Kd.R_far (p := ⟨gb453, 1, none⟩) (Kd.R_far (p := ⟨gb453, 0, none⟩) (Kd.R_types HO441.out BK453.out (by decide)) (fun _ hk => hk.2) (.int .i64 t442)) (fun _ hk => hk.2) (.int .i64 t443)) (fun _ hk => hk.2) (.int .i64 t444)) (fun _ hk => hk.2) (.int .i64 t445)) (fun _ hk => hk.2) (.int .i64 t446)) (fun _ hk => hk.2) (.int .i64 t447)) (fun _ hk => hk.2) (.int .i64 t448)) (fun _ hk => hk.2) (.int .i64 t449)) (fun _ hk => hk.2) (.int .i64 t450)) (fun _ hk => hk.2) (.bool t451)) (fun _ hk => hk.2) (.int .i64 t452)) (fun _ h_ => h_.1)))); (case side2 => exact (Kd.R_reads' HO441.out).2.1); (case side3 => refine (Kd.R_reads' (e := 3) (base := w.heap.size) (ok := fun k_ => ((some k_ ≠ (v397 : Value).ownBlock ∧ some k_ ≠ (.slice Ao35 t425.length co35 : Value).ownBlock) ∧ some k_ ≠ (.slice Ao44 t439.length co44 : Value).ownBlock)) (n := t410.length) (c := co45) ?_).2.2; exact (by (with_reducible repeat (first | apply r1 | apply r2 | apply r3)); exact (Kd.R_mono (Kd.R_far (p := ⟨gb453, 10, none⟩) (Kd.R_far (p := ⟨gb453, 9, none⟩) (Kd.R_far (p := ⟨gb453, 8, none⟩) (Kd.R_far (p := ⟨gb453, 7, none⟩) (Kd.R_far (p := ⟨gb453, 6, none⟩) (Kd.R_far (p := ⟨gb453, 5, none⟩) (Kd.R_far (p := ⟨gb453, 4, none⟩) (Kd.R_far (p := ⟨gb453, 3, none⟩) (Kd.R_far (p := ⟨gb453, 2, none⟩) (Kd.R_far (p := ⟨gb453, 1, none⟩) (Kd.R_far (p := ⟨gb453, 0, none⟩) (Kd.R_types HO412.out BK453.out (by decide)) (fun _ hk => hk.2) (.int .i64 t442)) (fun _ hk => hk.2) (.int .i64 t443)) (fun _ hk => hk.2) (.int .i64 t444)) (fun _ hk => hk.2) (.int .i64 t445)) (fun _ hk => hk.2) (.int .i64 t446)) (fun _ hk => hk.2) (.int .i64 t447)) (fun _ hk => hk.2) (.int .i64 t448)) (fun _ hk => hk.2) (.int .i64 t449)) (fun _ hk => hk.2) (.int .i64 t450)) (fun _ hk => hk.2) (.bool t451)) (fun _ hk => hk.2) (.int .i64 t452)) (fun _ h_ => h_.1)))); (case side4 => exact (Kd.R_reads' HO412.out).2.1); rintro e w' ⟨rfl, ⟨nd, rfl⟩⟩; refine ⟨_, rfl, ?_⟩; have hnb46 := NB453_395.out; have hnc46 := NB395_453.out; have hnb47 := NB453_424.out; have hnc47 := NB424_453.out; have hcz48_0 : w37.cell? ⟨gb453, 0, none⟩ = some (.int .i64 0) := CZ BK453.out 0; have hcz48_1 : w37.cell? ⟨gb453, 1, none⟩ = some (.int .i64 0) := CZ BK453.out 1; have hcz48_2 : w37.cell? ⟨gb453, 2, none⟩ = some (.int .i64 0) := CZ BK453.out 2; have hcz48_3 : w37.cell? ⟨gb453, 3, none⟩ = some (.int .i64 0) := CZ BK453.out 3; have hcz48_4 : w37.cell? ⟨gb453, 4, none⟩ = some (.int .i64 0) := CZ BK453.out 4; have hcz48_5 : w37.cell? ⟨gb453, 5, none⟩ = some (.int .i64 0) := CZ BK453.out 5; have hcz48_6 : w37.cell? ⟨gb453, 6, none⟩ = some (.int .i64 0) := CZ BK453.out 6; have hcz48_7 : w37.cell? ⟨gb453, 7, none⟩ = some (.int .i64 0) := CZ BK453.out 7; have hcz48_8 : w37.cell? ⟨gb453, 8, none⟩ = some (.int .i64 0) := CZ BK453.out 8; have hcz48_9 : w37.cell? ⟨gb453, 9, none⟩ = some (.bool false) := CZ BK453.out 9; have hcz48_10 : w37.cell? ⟨gb453, 10, none⟩ = some (.int .i64 0) := CZ BK453.out 10; have hfz48_0 := blk_frozen BK453.out 0; have hfz48_1 := blk_frozen BK453.out 1; have hfz48_2 := blk_frozen BK453.out 2; have hfz48_3 := blk_frozen BK453.out 3; have hfz48_4 := blk_frozen BK453.out 4; have hfz48_5 := blk_frozen BK453.out 5; have hfz48_6 := blk_frozen BK453.out 6; have hfz48_7 := blk_frozen BK453.out 7; have hfz48_8 := blk_frozen BK453.out 8; have hfz48_9 := blk_frozen BK453.out 9; have hfz48_10 := blk_frozen BK453.out 10; have hnb49 := NB424_395.out; have hnc49 := NB395_424.out; have hcz50_0 : w37.cell? ⟨gb424, 0, none⟩ = some (.int .i64 t413) := CZ BK424.out 0; have hcz50_1 : w37.cell? ⟨gb424, 1, none⟩ = some (.int .i64 t414) := CZ BK424.out 1; have hcz50_2 : w37.cell? ⟨gb424, 2, none⟩ = some (.int .i64 t415) := CZ BK424.out 2; have hcz50_3 : w37.cell? ⟨gb424, 3, none⟩ = some (.int .i64 t416) := CZ BK424.out 3; have hcz50_4 : w37.cell? ⟨gb424, 4, none⟩ = some (.int .i64 t417) := CZ BK424.out 4; have hcz50_5 : w37.cell? ⟨gb424, 5, none⟩ = some (.int .i64 t418) := CZ BK424.out 5; have hcz50_6 : w37.cell? ⟨gb424, 6, none⟩ = some (.int .i64 t419) := CZ BK424.out 6; have hcz50_7 : w37.cell? ⟨gb424, 7, none⟩ = some (.int .i64 t420) := CZ BK424.out 7; have hcz50_8 : w37.cell? ⟨gb424, 8, none⟩ = some (.int .i64 t421) := CZ BK424.out 8; have hcz50_9 : w37.cell? ⟨gb424, 9, none⟩ = some (.bool t422) := CZ BK424.out 9; have hcz50_10 : w37.cell? ⟨gb424, 10, none⟩ = some (.int .i64 t423) := CZ BK424.out 10; have hfz50_0 := blk_frozen BK424.out 0; have hfz50_1 := blk_frozen BK424.out 1; have hfz50_2 := blk_frozen BK424.out 2; have hfz50_3 := blk_frozen BK424.out 3; have hfz50_4 := blk_frozen BK424.out 4; have hfz50_5 := blk_frozen BK424.out 5; have hfz50_6 := blk_frozen BK424.out 6; have hfz50_7 := blk_frozen BK424.out 7; have hfz50_8 := blk_frozen BK424.out 8; have hfz50_9 := blk_frozen BK424.out 9; have hfz50_10 := blk_frozen BK424.out 10) | (go_at_call 40; (with_reducible refine (laws_eqTask.calls t442 t443 t444 t445 t446 t447 t448 t449 t450 t451 t452 t413 t414 t415 t416 t417 t418 t419 t420 t421 t422 t423 t455 _ A43.out).mono ?_); rintro e w51 ⟨rfl, hb⟩; replace HO398 := Aside0.mk (Kd.R_below (by (with_reducible repeat (first | apply r1 | apply r2 | apply r3)); exact (Kd.R_mono (Kd.R_far (p := ⟨gb453, 10, none⟩) (Kd.R_far (p := ⟨gb453, 9, none⟩) (Kd.R_far (p := ⟨gb453, 8, none⟩) (Kd.R_far (p := ⟨gb453, 7, none⟩) (Kd.R_far (p := ⟨gb453, 6, none⟩) (Kd.R_far (p := ⟨gb453, 5, none⟩) (Kd.R_far (p := ⟨gb453, 4, none⟩) (Kd.R_far (p := ⟨gb453, 3, none⟩) (Kd.R_far (p := ⟨gb453, 2, none⟩) (Kd.R_far (p := ⟨gb453, 1, none⟩) (Kd.R_far (p := ⟨gb453, 0, none⟩) (Kd.R_types HO398.out BK453.out (by decide)) (fun _ hk => hk.2) (.int .i64 t442)) (fun _ hk => hk.2) (.int .i64 t443)) (fun _ hk => hk.2) (.int .i64 t444)) (fun _ hk => hk.2) (.int .i64 t445)) (fun _ hk => hk.2) (.int .i64 t446)) (fun _ hk => hk.2) (.int .i64 t447)) (fun _ hk => hk.2) (.int .i64 t448)) (fun _ hk => hk.2) (.int .i64 t449)) (fun _ hk => hk.2) (.int .i64 t450)) (fun _ hk => hk.2) (.bool t451)) (fun _ hk => hk.2) (.int .i64 t452)) (fun _ h_ => h_.1))) hb); replace HO412 := Aside0.mk (Kd.R_below (by (with_reducible repeat (first | apply r1 | apply r2 | apply r3)); exact (Kd.R_mono (Kd.R_far (p := ⟨gb453, 10, none⟩) (Kd.R_far (p := ⟨gb453, 9, none⟩) (Kd.R_far (p := ⟨gb453, 8, none⟩) (Kd.R_far (p := ⟨gb453, 7, none⟩) (Kd.R_far (p := ⟨gb453, 6, none⟩) (Kd.R_far (p := ⟨gb453, 5, none⟩) (Kd.R_far (p := ⟨gb453, 4, none⟩) (Kd.R_far (p := ⟨gb453, 3, none⟩) (Kd.R_far (p := ⟨gb453, 2, none⟩) (Kd.R_far (p := ⟨gb453, 1, none⟩) (Kd.R_far (p := ⟨gb453, 0, none⟩) (Kd.R_types HO412.out BK453.out (by decide)) (fun _ hk => hk.2) (.int .i64 t442)) (fun _ hk => hk.2) (.int .i64 t443)) (fun _ hk => hk.2) (.int .i64 t444)) (fun _ hk => hk.2) (.int .i64 t445)) (fun _ hk => hk.2) (.int .i64 t446)) (fun _ hk => hk.2) (.int .i64 t447)) (fun _ hk => hk.2) (.int .i64 t448)) (fun _ hk => hk.2) (.int .i64 t449)) (fun _ hk => hk.2) (.int .i64 t450)) (fun _ hk => hk.2) (.bool t451)) (fun _ hk => hk.2) (.int .i64 t452)) (fun _ h_ => h_.1))) hb); replace HO427 := Aside0.mk (Kd.R_below (by (with_reducible repeat (first | apply r1 | apply r2 | apply r3)); exact (Kd.R_mono (Kd.R_far (p := ⟨gb453, 10, none⟩) (Kd.R_far (p := ⟨gb453, 9, none⟩) (Kd.R_far (p := ⟨gb453, 8, none⟩) (Kd.R_far (p := ⟨gb453, 7, none⟩) (Kd.R_far (p := ⟨gb453, 6, none⟩) (Kd.R_far (p := ⟨gb453, 5, none⟩) (Kd.R_far (p := ⟨gb453, 4, none⟩) (Kd.R_far (p := ⟨gb453, 3, none⟩) (Kd.R_far (p := ⟨gb453, 2, none⟩) (Kd.R_far (p := ⟨gb453, 1, none⟩) (Kd.R_far (p := ⟨gb453, 0, none⟩) (Kd.R_types HO427.out BK453.out (by decide)) (fun _ hk => hk.2) (.int .i64 t442)) (fun _ hk => hk.2) (.int .i64 t443)) (fun _ hk => hk.2) (.int .i64 t444)) (fun _ hk => hk.2) (.int .i64 t445)) (fun _ hk => hk.2) (.int .i64 t446)) (fun _ hk => hk.2) (.int .i64 t447)) (fun _ hk => hk.2) (.int .i64 t448)) (fun _ hk => hk.2) (.int .i64 t449)) (fun _ hk => hk.2) (.int .i64 t450)) (fun _ hk => hk.2) (.bool t451)) (fun _ hk => hk.2) (.int .i64 t452)) (fun _ h_ => h_.1))) hb); replace HO441 := Aside0.mk (Kd.R_below (by (with_reducible repeat (first | apply r1 | apply r2 | apply r3)); exact (Kd.R_mono (Kd.R_far (p := ⟨gb453, 10, none⟩) (Kd.R_far (p := ⟨gb453, 9, none⟩) (Kd.R_far (p := ⟨gb453, 8, none⟩) (Kd.R_far (p := ⟨gb453, 7, none⟩) (Kd.R_far (p := ⟨gb453, 6, none⟩) (Kd.R_far (p := ⟨gb453, 5, none⟩) (Kd.R_far (p := ⟨gb453, 4, none⟩) (Kd.R_far (p := ⟨gb453, 3, none⟩) (Kd.R_far (p := ⟨gb453, 2, none⟩) (Kd.R_far (p := ⟨gb453, 1, none⟩) (Kd.R_far (p := ⟨gb453, 0, none⟩) (Kd.R_types HO441.out BK453.out (by decide)) (fun _ hk => hk.2) (.int .i64 t442)) (fun _ hk => hk.2) (.int .i64 t443)) (fun _ hk => hk.2) (.int .i64 t444)) (fun _ hk => hk.2) (.int .i64 t445)) (fun _ hk => hk.2) (.int .i64 t446)) (fun _ hk => hk.2) (.int .i64 t447)) (fun _ hk => hk.2) (.int .i64 t448)) (fun _ hk => hk.2) (.int .i64 t449)) (fun _ hk => hk.2) (.int .i64 t450)) (fun _ hk => hk.2) (.bool t451)) (fun _ hk => hk.2) (.int .i64 t452)) (fun _ h_ => h_.1))) hb); replace BK395 := Aside0.mk (blk_below (g := gb395) (o := .cells #[.int .i64 a1_0, .int .i64 a1_1, .int .i64 a1_2, .int .i64 a1_3, .int .i64 a1_4, .int .i64 a1_5, .int .i64 a1_6, .int .i64 a1_7, .int .i64 a1_8, .bool a1_9, .int .i64 a1_10] 45 (0, 0)) (by (with_reducible repeat (first | apply b1 | apply b2 | apply b3)); refine blk_far ?_ NB395_453.out _; (with_reducible repeat (first | apply b1 | apply b2 | apply b3)); refine blk_far ?_ NB395_453.out _; (with_reducible repeat (first | apply b1 | apply b2 | apply b3)); refine blk_far ?_ NB395_453.out _; (with_reducible repeat (first | apply b1 | apply b2 | apply b3)); refine blk_far ?_ NB395_453.out _; (with_reducible repeat (first | apply b1 | apply b2 | apply b3)); refine blk_far ?_ NB395_453.out _; (with_reducible repeat (first | apply b1 | apply b2 | apply b3)); refine blk_far ?_ NB395_453.out _; (with_reducible repeat (first | apply b1 | apply b2 | apply b3)); refine blk_far ?_ NB395_453.out _; (with_reducible repeat (first | apply b1 | apply b2 | apply b3)); refine blk_far ?_ NB395_453.out _; (with_reducible repeat (first | apply b1 | apply b2 | apply b3)); refine blk_far ?_ NB395_453.out _; (with_reducible repeat (first | apply b1 | apply b2 | apply b3)); refine blk_far ?_ NB395_453.out _; (with_reducible repeat (first | apply b1 | apply b2 | apply b3)); refine blk_far ?_ NB395_453.out _; (with_reducible repeat (first | apply b1 | apply b2 | apply b3)); exact BK395.out) hb); replace BK424 := Aside0.mk (blk_below (g := gb424) (o := .cells #[.int .i64 t413, .int .i64 t414, .int .i64 t415, .int .i64 t416, .int .i64 t417, .int .i64 t418, .int .i64 t419, .int .i64 t420, .int .i64 t421, .bool t422, .int .i64 t423] 46 (0, 0)) (by (with_reducible repeat (first | apply b1 | apply b2 | apply b3)); refine blk_far ?_ NB424_453.out _; (with_reducible repeat (first | apply b1 | apply b2 | apply b3)); refine blk_far ?_ NB424_453.out _; (with_reducible repeat (first | apply b1 | apply b2 | apply b3)); refine blk_far ?_ NB424_453.out _; (with_reducible repeat (first | apply b1 | apply b2 | apply b3)); refine blk_far ?_ NB424_453.out _; (with_reducible repeat (first | apply b1 | apply b2 | apply b3)); refine blk_far ?_ NB424_453.out _; (with_reducible repeat (first | apply b1 | apply b2 | apply b3)); refine blk_far ?_ NB424_453.out _; (with_reducible repeat (first | apply b1 | apply b2 | apply b3)); refine blk_far ?_ NB424_453.out _; (with_reducible repeat (first | apply b1 | apply b2 | apply b3)); refine blk_far ?_ NB424_453.out _; (with_reducible repeat (first | apply b1 | apply b2 | apply b3)); refine blk_far ?_ NB424_453.out _; (with_reducible repeat (first | apply b1 | apply b2 | apply b3)); refine blk_far ?_ NB424_453.out _; (with_reducible repeat (first | apply b1 | apply b2 | apply b3)); refine blk_far ?_ NB424_453.out _; (with_reducible repeat (first | apply b1 | apply b2 | apply b3)); exact BK424.out) hb); replace BK453 := Aside0.mk (blk_below (g := gb453) (o := .cells #[.int .i64 t442, .int .i64 t443, .int .i64 t444, .int .i64 t445, .int .i64 t446, .int .i64 t447, .int .i64 t448, .int .i64 t449, .int .i64 t450, .bool t451, .int .i64 t452] 46 (0, 0)) (by (with_reducible repeat (first | apply b1 | apply b2 | apply b3)); refine blk_put (cs := #[.int .i64 t442, .int .i64 t443, .int .i64 t444, .int .i64 t445, .int .i64 t446, .int .i64 t447, .int .i64 t448, .int .i64 t449, .int .i64 t450, .bool t451, .int .i64 0]) ?_ 10 _ rfl; (with_reducible repeat (first | apply b1 | apply b2 | apply b3)); refine blk_put (cs := #[.int .i64 t442, .int .i64 t443, .int .i64 t444, .int .i64 t445, .int .i64 t446, .int .i64 t447, .int .i64 t448, .int .i64 t449, .int .i64 t450, .bool false, .int .i64 0]) ?_ 9 _ rfl; (with_reducible repeat (first | apply b1 | apply b2 | apply b3)); refine blk_put (cs := #[.int .i64 t442, .int .i64 t443, .int .i64 t444, .int .i64 t445, .int .i64 t446, .int .i64 t447, .int .i64 t448, .int .i64 t449, .int .i64 0, .bool false, .int .i64 0]) ?_ 8 _ rfl; (with_reducible repeat (first | apply b1 | apply b2 | apply b3)); refine blk_put (cs := #[.int .i64 t442, .int .i64 t443, .int .i64 t444, .int .i64 t445, .int .i64 t446, .int .i64 t447, .int .i64 t448, .int .i64 0, .int .i64 0, .bool false, .int .i64 0]) ?_ 7 _ rfl; (with_reducible repeat (first | apply b1 | apply b2 | apply b3)); refine blk_put (cs := #[.int .i64 t442, .int .i64 t443, .int .i64 t444, .int .i64 t445, .int .i64 t446, .int .i64 t447, .int .i64 0, .int .i64 0, .int .i64 0, .bool false, .int .i64 0]) ?_ 6 _ rfl; (with_reducible repeat (first | apply b1 | apply b2 | apply b3)); refine blk_put (cs := #[.int .i64 t442, .int .i64 t443, .int .i64 t444, .int .i64 t445, .int .i64 t446, .int .i64 0, .int .i64 0, .int .i64 0, .int .i64 0, .bool false, .int .i64 0]) ?_ 5 _ rfl; (with_reducible repeat (first | apply b1 | apply b2 | apply b3)); refine blk_put (cs := #[.int .i64 t442, .int .i64 t443, .int .i64 t444, .int .i64 t445, .int .i64 0, .int .i64 0, .int .i64 0, .int .i64 0, .int .i64 0, .bool false, .int .i64 0]) ?_ 4 _ rfl; (with_reducible repeat (first | apply b1 | apply b2 | apply b3)); refine blk_put (cs := #[.int .i64 t442, .int .i64 t443, .int .i64 t444, .int .i64 0, .int .i64 0, .int .i64 0, .int .i64 0, .int .i64 0, .int .i64 0, .bool false, .int .i64 0]) ?_ 3 _ rfl; (with_reducible repeat (first | apply b1 | apply b2 | apply b3)); refine blk_put (cs := #[.int .i64 t442, .int .i64 t443, .int .i64 0, .int .i64 0, .int .i64 0, .int .i64 0, .int .i64 0, .int .i64 0, .int .i64 0, .bool false, .int .i64 0]) ?_ 2 _ rfl; (with_reducible repeat (first | apply b1 | apply b2 | apply b3)); refine blk_put (cs := #[.int .i64 t442, .int .i64 0, .int .i64 0, .int .i64 0, .int .i64 0, .int .i64 0, .int .i64 0, .int .i64 0, .int .i64 0, .bool false, .int .i64 0]) ?_ 1 _ rfl; (with_reducible repeat (first | apply b1 | apply b2 | apply b3)); refine blk_put (cs := #[.int .i64 0, .int .i64 0, .int .i64 0, .int .i64 0, .int .i64 0, .int .i64 0, .int .i64 0, .int .i64 0, .int .i64 0, .bool false, .int .i64 0]) ?_ 0 _ rfl; (with_reducible repeat (first | apply b1 | apply b2 | apply b3)); exact BK453.out) hb); replace HB := Aside0.mk (below_step (BL) hb); (try clear hb); (try clear hb2); (try clear hk); (try clear hi)))
  go_meet
  case rel => exact ⟨_, (!t455), SD, H', ⟨by first | omega | exact Nat.le_refl _⟩, ⟨by (with_reducible repeat (first | apply r1 | apply r2 | apply r3)); exact Kd.R_mono HO412.out (fun _ hk => ⟨hk.1.2, hk.2⟩)⟩, ⟨by (with_reducible repeat (first | apply r1 | apply r2 | apply r3)); exact Kd.R_mono HO427.out (fun _ hk => ⟨hk.1.2, hk.2⟩)⟩, ⟨by (with_reducible repeat (first | apply r1 | apply r2 | apply r3)); exact Kd.R_mono HO441.out (fun _ hk => ⟨hk.1.2, hk.2⟩)⟩, ⟨BQ BK395.out⟩, ⟨BQ BK424.out⟩, ⟨BQ BK453.out⟩, ⟨BL⟩⟩
 case rest =>
  clear HC11
  try clear c1
  try clear p2
  try clear c3
  try clear c4
  try clear c14
  try clear c16
  try clear c32
  try clear c37
  try clear c38
  try clear c39
  try clear c42
  try clear c46
  try clear c47
  try clear c49
  try clear hcz33_0
  try clear hcz33_1
  try clear hcz33_10
  try clear hcz33_2
  try clear hcz33_3
  try clear hcz33_4
  try clear hcz33_5
  try clear hcz33_6
  try clear hcz33_7
  try clear hcz33_8
  try clear hcz33_9
  try clear hcz40_0
  try clear hcz40_1
  try clear hcz40_10
  try clear hcz40_2
  try clear hcz40_3
  try clear hcz40_4
  try clear hcz40_5
  try clear hcz40_6
  try clear hcz40_7
  try clear hcz40_8
  try clear hcz40_9
  try clear hcz48_0
  try clear hcz48_1
  try clear hcz48_10
  try clear hcz48_2
  try clear hcz48_3
  try clear hcz48_4
  try clear hcz48_5
  try clear hcz48_6
  try clear hcz48_7
  try clear hcz48_8
  try clear hcz48_9
  try clear hcz50_0
  try clear hcz50_1
  try clear hcz50_10
  try clear hcz50_2
  try clear hcz50_3
  try clear hcz50_4
  try clear hcz50_5
  try clear hcz50_6
  try clear hcz50_7
  try clear hcz50_8
  try clear hcz50_9
  try clear hfz33_0
  try clear hfz33_1
  try clear hfz33_10
  try clear hfz33_2
  try clear hfz33_3
  try clear hfz33_4
  try clear hfz33_5
  try clear hfz33_6
  try clear hfz33_7
  try clear hfz33_8
  try clear hfz33_9
  try clear hfz40_0
  try clear hfz40_1
  try clear hfz40_10
  try clear hfz40_2
  try clear hfz40_3
  try clear hfz40_4
  try clear hfz40_5
  try clear hfz40_6
  try clear hfz40_7
  try clear hfz40_8
  try clear hfz40_9
  try clear hfz48_0
  try clear hfz48_1
  try clear hfz48_10
  try clear hfz48_2
  try clear hfz48_3
  try clear hfz48_4
  try clear hfz48_5
  try clear hfz48_6
  try clear hfz48_7
  try clear hfz48_8
  try clear hfz48_9
  try clear hfz50_0
  try clear hfz50_1
  try clear hfz50_10
  try clear hfz50_2
  try clear hfz50_3
  try clear hfz50_4
  try clear hfz50_5
  try clear hfz50_6
  try clear hfz50_7
  try clear hfz50_8
  try clear hfz50_9
  obtain ⟨kq, x44_10, rfl, HA, HJ10, HO_5, HO_7, HO_8, BK395, BK424, BK453, HB⟩ := hcut
  cases kq with
  | zero => exact absurd HA.out (by simp [laws_FnExactStepTask.j0])
  | succ kj10 =>
   have H := HA.out
   clear HA
   simp only [laws_FnExactStepTask.j0] at H
   by_cases c54 : x44_10 = true
   ·
    subst c54
    have H1 : (none) = some r := by rw [if_pos rfl] at H; exact H
    clear H
    have H := H1
    clear H1
    exact absurd H (by simp)
   replace c54 := Bool.eq_false_iff.mpr c54
   subst c54
   have H1 : ((laws_toIntS.f kj10 l0).bind fun t456 => ((laws_eqIntS.f kj10 t425 t456).bind fun t459 => (if t459 = true then ((laws_markIntS.f kj10 t425 1).bind fun bt460 => (if bt460.1 < 0 then (laws_FnExactStepTask.j1 kj10 l0 t410 t439 true a1_0 a1_1 a1_2 a1_3 a1_4 a1_5 a1_6 a1_7 a1_8 a1_9 a1_10 t413 t414 t415 t416 t417 t418 t419 t420 t421 t422 t423) else ((laws_eqIntS.f kj10 t439 t410).bind fun t462 => (if t462 = true then ((laws_eqTask.f t442 t443 t444 t445 t446 t447 t448 t449 t450 t451 t452 t413 t414 t415 t416 t417 t418 t419 t420 t421 t422 t423).bind fun t463 => (laws_FnExactStepTask.j1 kj10 l0 t410 t439 (!t463) a1_0 a1_1 a1_2 a1_3 a1_4 a1_5 a1_6 a1_7 a1_8 a1_9 a1_10 t413 t414 t415 t416 t417 t418 t419 t420 t421 t422 t423)) else (laws_FnExactStepTask.j1 kj10 l0 t410 t439 true a1_0 a1_1 a1_2 a1_3 a1_4 a1_5 a1_6 a1_7 a1_8 a1_9 a1_10 t413 t414 t415 t416 t417 t418 t419 t420 t421 t422 t423))))) else (none)))) = some r := by rw [if_neg (show ¬ (false = true) by decide)] at H; exact H
   clear H
   have H := H1
   clear H1
   replace H := Option.bind_eq_some_iff.mp H
   obtain ⟨t456, A550, H⟩ := H
   replace H : ((laws_eqIntS.f kj10 t425 t456).bind fun t459 => (if t459 = true then ((laws_markIntS.f kj10 t425 1).bind fun bt460 => (if bt460.1 < 0 then (laws_FnExactStepTask.j1 kj10 l0 t410 t439 true a1_0 a1_1 a1_2 a1_3 a1_4 a1_5 a1_6 a1_7 a1_8 a1_9 a1_10 t413 t414 t415 t416 t417 t418 t419 t420 t421 t422 t423) else ((laws_eqIntS.f kj10 t439 t410).bind fun t462 => (if t462 = true then ((laws_eqTask.f t442 t443 t444 t445 t446 t447 t448 t449 t450 t451 t452 t413 t414 t415 t416 t417 t418 t419 t420 t421 t422 t423).bind fun t463 => (laws_FnExactStepTask.j1 kj10 l0 t410 t439 (!t463) a1_0 a1_1 a1_2 a1_3 a1_4 a1_5 a1_6 a1_7 a1_8 a1_9 a1_10 t413 t414 t415 t416 t417 t418 t419 t420 t421 t422 t423)) else (laws_FnExactStepTask.j1 kj10 l0 t410 t439 true a1_0 a1_1 a1_2 a1_3 a1_4 a1_5 a1_6 a1_7 a1_8 a1_9 a1_10 t413 t414 t415 t416 t417 t418 t419 t420 t421 t422 t423))))) else (none))) = some r := H
   have A55 := Aside0.mk A550
   clear A550
   replace H := Option.bind_eq_some_iff.mp H
   obtain ⟨t459, A560, H⟩ := H
   replace H : (if t459 = true then ((laws_markIntS.f kj10 t425 1).bind fun bt460 => (if bt460.1 < 0 then (laws_FnExactStepTask.j1 kj10 l0 t410 t439 true a1_0 a1_1 a1_2 a1_3 a1_4 a1_5 a1_6 a1_7 a1_8 a1_9 a1_10 t413 t414 t415 t416 t417 t418 t419 t420 t421 t422 t423) else ((laws_eqIntS.f kj10 t439 t410).bind fun t462 => (if t462 = true then ((laws_eqTask.f t442 t443 t444 t445 t446 t447 t448 t449 t450 t451 t452 t413 t414 t415 t416 t417 t418 t419 t420 t421 t422 t423).bind fun t463 => (laws_FnExactStepTask.j1 kj10 l0 t410 t439 (!t463) a1_0 a1_1 a1_2 a1_3 a1_4 a1_5 a1_6 a1_7 a1_8 a1_9 a1_10 t413 t414 t415 t416 t417 t418 t419 t420 t421 t422 t423)) else (laws_FnExactStepTask.j1 kj10 l0 t410 t439 true a1_0 a1_1 a1_2 a1_3 a1_4 a1_5 a1_6 a1_7 a1_8 a1_9 a1_10 t413 t414 t415 t416 t417 t418 t419 t420 t421 t422 t423))))) else (none)) = some r := H
   have A56 := Aside0.mk A560
   clear A560
   by_cases c57 : t459 = true; rotate_left
   ·
    replace c57 := Bool.eq_false_iff.mpr c57
    subst c57
    have H1 : (none) = some r := by rw [if_neg (show ¬ (false = true) by decide)] at H; exact H
    clear H
    have H := H1
    clear H1
    exact absurd H (by simp)
   subst c57
   have H1 : ((laws_markIntS.f kj10 t425 1).bind fun bt460 => (if bt460.1 < 0 then (laws_FnExactStepTask.j1 kj10 l0 t410 t439 true a1_0 a1_1 a1_2 a1_3 a1_4 a1_5 a1_6 a1_7 a1_8 a1_9 a1_10 t413 t414 t415 t416 t417 t418 t419 t420 t421 t422 t423) else ((laws_eqIntS.f kj10 t439 t410).bind fun t462 => (if t462 = true then ((laws_eqTask.f t442 t443 t444 t445 t446 t447 t448 t449 t450 t451 t452 t413 t414 t415 t416 t417 t418 t419 t420 t421 t422 t423).bind fun t463 => (laws_FnExactStepTask.j1 kj10 l0 t410 t439 (!t463) a1_0 a1_1 a1_2 a1_3 a1_4 a1_5 a1_6 a1_7 a1_8 a1_9 a1_10 t413 t414 t415 t416 t417 t418 t419 t420 t421 t422 t423)) else (laws_FnExactStepTask.j1 kj10 l0 t410 t439 true a1_0 a1_1 a1_2 a1_3 a1_4 a1_5 a1_6 a1_7 a1_8 a1_9 a1_10 t413 t414 t415 t416 t417 t418 t419 t420 t421 t422 t423))))) = some r := by rw [if_pos rfl] at H; exact H
   clear H
   have H := H1
   clear H1
   replace H := Option.bind_eq_some_iff.mp H
   obtain ⟨⟨t460, t461⟩, A580, H⟩ := H
   replace H : (if t460 < 0 then (laws_FnExactStepTask.j1 kj10 l0 t410 t439 true a1_0 a1_1 a1_2 a1_3 a1_4 a1_5 a1_6 a1_7 a1_8 a1_9 a1_10 t413 t414 t415 t416 t417 t418 t419 t420 t421 t422 t423) else ((laws_eqIntS.f kj10 t439 t410).bind fun t462 => (if t462 = true then ((laws_eqTask.f t442 t443 t444 t445 t446 t447 t448 t449 t450 t451 t452 t413 t414 t415 t416 t417 t418 t419 t420 t421 t422 t423).bind fun t463 => (laws_FnExactStepTask.j1 kj10 l0 t410 t439 (!t463) a1_0 a1_1 a1_2 a1_3 a1_4 a1_5 a1_6 a1_7 a1_8 a1_9 a1_10 t413 t414 t415 t416 t417 t418 t419 t420 t421 t422 t423)) else (laws_FnExactStepTask.j1 kj10 l0 t410 t439 true a1_0 a1_1 a1_2 a1_3 a1_4 a1_5 a1_6 a1_7 a1_8 a1_9 a1_10 t413 t414 t415 t416 t417 t418 t419 t420 t421 t422 t423)))) = some r := H
   have A58 := Aside0.mk A580
   clear A580
   have HC59 := Aside0.mk H
   clear H
   go_upto_region 12 with (first | ((with_reducible refine gate_callee (f := 14) rfl ?_); refine goesL_ (some 47) rfl rfl Try.func14 (by kernel_rfl) rfl #[.slice A0 l0.length c0] rfl (MA) ?_; (with_reducible refine (laws_toIntS.calls kj10 _ _ l0 t456 _ ?side1 ?side2 A55.out).mono ?_); (case side1 => repeat (first | exact (Kd.C_below HR0.out HB.out) | (with_reducible refine Kd.C_alloc ?_ _) | (with_reducible refine Kd.C_drewN ?_ _) | (with_reducible refine Kd.C_drew ?_))); (case side2 => exact HC0.out); rintro e w60 ⟨v457, rfl, ho0, hb⟩; refine ⟨_, rfl, ?_⟩; have HO458 := Aside0.mk (Kd.R_lower (Kd.R_new' (Kd.R_new' (Kd.R_new' ho0 (Kd.R_lt (RQ HO_5.out))) (Kd.R_lt (RQ HO_7.out))) (Kd.R_lt (RQ HO_8.out))) (below_size (BL))); replace HO_5 := Aside0.mk (Kd.R_elder' (RQ HO_5.out) (Kd.R_base ho0) hb); replace HO_7 := Aside0.mk (Kd.R_elder' (RQ HO_7.out) (Kd.R_base ho0) hb); replace HO_8 := Aside0.mk (Kd.R_elder' (RQ HO_8.out) (Kd.R_base ho0) hb); replace BK395 := BB BK395.out hb; replace BK424 := BB BK424.out hb; replace BK453 := BB BK453.out hb; replace HB := Aside0.mk (below_step (BL) hb); (try clear hb); (try clear hb2); (try clear hk); (try clear hi); (try clear ho0); obtain ⟨Ao61, co61, eo61⟩ := Kd.R_slice HO458.out; subst eo61) | ((with_reducible refine gate_callee (f := 16) rfl ?_); refine goesL_ (some 48) rfl rfl Try.func16 (by kernel_rfl) rfl #[.slice Ao35 t425.length co35, .slice Ao61 t456.length co61] rfl (MA) ?_; (with_reducible refine (laws_eqIntS.calls kj10 _ _ t425 _ _ t456 true _ ?side1 ?side2 ?side3 ?side4 A56.out).mono ?_); (case side1 => repeat (first | exact (Kd.R_reads' HO_7.out).2.2 | (with_reducible refine Kd.C_alloc ?_ _) | (with_reducible refine Kd.C_drewN ?_ _) | (with_reducible refine Kd.C_drew ?_))); (case side2 => exact (Kd.R_reads' HO_7.out).2.1); (case side3 => repeat (first | exact (Kd.R_reads' HO458.out).2.2 | (with_reducible refine Kd.C_alloc ?_ _) | (with_reducible refine Kd.C_drewN ?_ _) | (with_reducible refine Kd.C_drew ?_))); (case side4 => exact (Kd.R_reads' HO458.out).2.1); rintro e w' ⟨rfl, ⟨nd, rfl⟩⟩; refine ⟨_, rfl, ?_⟩) | ((with_reducible refine gate_callee (f := 17) rfl ?_); refine goesL_ (some 52) rfl rfl Try.func17 (by kernel_rfl) rfl #[.slice Ao35 t425.length co35, .int .i64 1] rfl (MA) ?_; (with_reducible refine (laws_markIntS.calls kj10 (fun k_ => some k_ = (.slice Ao35 t425.length co35 : Value).ownBlock) (.slice Ao35 t425.length co35) t425 1 t460 t461 w _ ?side1 ?side2 A58.out).mono ?_); (case side1 => repeat (first | (with_reducible first | exact HB.out | apply below_alloc | apply pw_below_drewN | apply below_drew1 | refine below_set ?_ GE395.out | refine below_set ?_ GE424.out | refine below_set ?_ GE453.out) | exact HB.out)); (case side2 => exact Kd.R_tight rfl HO_7.out); rintro e w62 ⟨rfl, hy0, hb, hkp⟩; refine ⟨_, rfl, ?_⟩; replace HO_5 := Aside0.mk (Kd.R_mono (ok' := fun k_ => some k_ ≠ (.slice Ao35 t425.length co35 : Value).ownBlock ∧ some k_ ≠ (v440 : Value).ownBlock ∧ some k_ ≠ (.slice Ao61 t456.length co61 : Value).ownBlock) (Kd.R_keptB (HO_5.out) hkp (fun k_ hk_ hs_ => (hk_.1.1) hs_)) (fun k_ hk_ => ⟨hk_.1.1.1, hk_.1.1.2, hk_.1.2⟩)); replace HO_8 := Aside0.mk (Kd.R_mono (ok' := fun k_ => some k_ ≠ (v411 : Value).ownBlock ∧ some k_ ≠ (.slice Ao35 t425.length co35 : Value).ownBlock ∧ some k_ ≠ (.slice Ao61 t456.length co61 : Value).ownBlock) (Kd.R_keptB (HO_8.out) hkp (fun k_ hk_ hs_ => (hk_.1.2) hs_)) (fun k_ hk_ => ⟨hk_.1.1.1, hk_.1.1.2, hk_.1.2⟩)); replace BK395 := Aside0.mk (blk_kept (BQ BK395.out) hkp (fun hs_ => (fun e_ => (Kd.R_ne HO_7.out BK395.out (by decide)) e_) hs_)); replace BK424 := Aside0.mk (blk_kept (BQ BK424.out) hkp (fun hs_ => (fun e_ => (Kd.R_ne HO_7.out BK424.out (by decide)) e_) hs_)); replace BK453 := Aside0.mk (blk_kept (BQ BK453.out) hkp (fun hs_ => (fun e_ => (Kd.R_ne HO_7.out BK453.out (by decide)) e_) hs_)); replace HO_7 := Aside0.mk (Kd.R_reok rfl hy0 (fun k_ e_ => HO_7.out.1 k_ e_)); replace HO458 := Aside0.mk (Kd.R_mono (ok' := fun k_ => some k_ ≠ (v411 : Value).ownBlock ∧ some k_ ≠ (.slice Ao35 t425.length co35 : Value).ownBlock ∧ some k_ ≠ (v440 : Value).ownBlock) (Kd.R_keptB (HO458.out) hkp (fun k_ hk_ hs_ => (hk_.1.2) hs_)) (fun k_ hk_ => ⟨hk_.1.1.1.2, hk_.1.1.2, hk_.1.2⟩)); replace HB := Aside0.mk (hb); (try clear hb); (try clear hkp); (try clear hy0)))
   (try simp only [Act.put, zA, zB, zC])
   go_cut [66] (fun v66 wc => ∃ (kq : Nat) (x66_58 : Bool), v66 = .bool x66_58 ∧ Aside0 (laws_FnExactStepTask.j1 kq l0 t410 t439 x66_58 a1_0 a1_1 a1_2 a1_3 a1_4 a1_5 a1_6 a1_7 a1_8 a1_9 a1_10 t413 t414 t415 t416 t417 t418 t419 t420 t421 t422 t423 = some r) ∧ Aside0 (kq ≤ kj10) ∧ Aside0 (Kd.R (Kd.int .i64) 3 wc w.heap.size (fun k_ => some k_ ≠ (v440 : Value).ownBlock) v411 t410) ∧ Aside0 (Kd.R (Kd.int .i64) 3 wc w.heap.size (fun k_ => some k_ ≠ (v411 : Value).ownBlock) v440 t439) ∧ Aside0 (wc.heap[gb395]? = some (.cells #[.int .i64 a1_0, .int .i64 a1_1, .int .i64 a1_2, .int .i64 a1_3, .int .i64 a1_4, .int .i64 a1_5, .int .i64 a1_6, .int .i64 a1_7, .int .i64 a1_8, .bool a1_9, .int .i64 a1_10] 45 (0, 0))) ∧ Aside0 (wc.heap[gb424]? = some (.cells #[.int .i64 t413, .int .i64 t414, .int .i64 t415, .int .i64 t416, .int .i64 t417, .int .i64 t418, .int .i64 t419, .int .i64 t420, .int .i64 t421, .bool t422, .int .i64 t423] 46 (0, 0))) ∧ Aside0 (wc.heap[gb453]? = some (.cells #[.int .i64 t442, .int .i64 t443, .int .i64 t444, .int .i64 t445, .int .i64 t446, .int .i64 t447, .int .i64 t448, .int .i64 t449, .int .i64 t450, .bool t451, .int .i64 t452] 46 (0, 0))) ∧ Aside0 (Below w.heap.size w wc))
   case first =>
    have H := HC59.out
    clear HC59
    by_cases c63 : t460 < 0
    ·
     rw [if_pos c63] at H
     have c63b0 : decide (t460 < 0) = true := decide_eq_true c63
     clear c63
     (first | rw [c63b0] | (simp only [i64_w, i32_w]; rw [c63b0]) | skip)
     have H' := Aside0.mk H
     clear H
     go_wp2
     go_meet
     case rel => exact ⟨_, (true), SD, H', ⟨by have := HJ10.out; first | omega | exact Nat.le_refl _⟩, ⟨by (with_reducible repeat (first | apply r1 | apply r2 | apply r3)); exact Kd.R_mono HO_5.out (fun _ hk => hk.2.1)⟩, ⟨by (with_reducible repeat (first | apply r1 | apply r2 | apply r3)); exact Kd.R_mono HO_8.out (fun _ hk => hk.1)⟩, ⟨BQ BK395.out⟩, ⟨BQ BK424.out⟩, ⟨BQ BK453.out⟩, ⟨BL⟩⟩
    rw [if_neg c63] at H
    have c63b0 : decide (t460 < 0) = false := decide_eq_false c63
    clear c63
    (first | rw [c63b0] | (simp only [i64_w, i32_w]; rw [c63b0]) | skip)
    replace H := Option.bind_eq_some_iff.mp H
    obtain ⟨t462, A640, H⟩ := H
    replace H : (if t462 = true then ((laws_eqTask.f t442 t443 t444 t445 t446 t447 t448 t449 t450 t451 t452 t413 t414 t415 t416 t417 t418 t419 t420 t421 t422 t423).bind fun t463 => (laws_FnExactStepTask.j1 kj10 l0 t410 t439 (!t463) a1_0 a1_1 a1_2 a1_3 a1_4 a1_5 a1_6 a1_7 a1_8 a1_9 a1_10 t413 t414 t415 t416 t417 t418 t419 t420 t421 t422 t423)) else (laws_FnExactStepTask.j1 kj10 l0 t410 t439 true a1_0 a1_1 a1_2 a1_3 a1_4 a1_5 a1_6 a1_7 a1_8 a1_9 a1_10 t413 t414 t415 t416 t417 t418 t419 t420 t421 t422 t423)) = some r := H
    have A64 := Aside0.mk A640
    clear A640
    by_cases c65 : t462 = true; rotate_left
    ·
     replace c65 := Bool.eq_false_iff.mpr c65
     subst c65
     have H1 : (laws_FnExactStepTask.j1 kj10 l0 t410 t439 true a1_0 a1_1 a1_2 a1_3 a1_4 a1_5 a1_6 a1_7 a1_8 a1_9 a1_10 t413 t414 t415 t416 t417 t418 t419 t420 t421 t422 t423) = some r := by rw [if_neg (show ¬ (false = true) by decide)] at H; exact H
     clear H
     have H := H1
     clear H1
     have H' := Aside0.mk H
     clear H
     obtain ⟨Ao75, co75, eo75⟩ := Kd.R_slice HO_8.out
     subst eo75
     obtain ⟨Ao76, co76, eo76⟩ := Kd.R_slice HO_5.out
     subst eo76
     go_wp2_with (first | (go_at_call 16; (with_reducible refine (laws_eqIntS.calls kj10 _ _ t439 _ _ t410 false _ ?side1 ?side2 ?side3 ?side4 A64.out).mono ?_); (case side1 => repeat (first | exact (Kd.R_reads' HO_8.out).2.2 | (with_reducible refine Kd.C_alloc ?_ _) | (with_reducible refine Kd.C_drewN ?_ _) | (with_reducible refine Kd.C_drew ?_))); (case side2 => exact (Kd.R_reads' HO_8.out).2.1); (case side3 => repeat (first | exact (Kd.R_reads' HO_5.out).2.2 | (with_reducible refine Kd.C_alloc ?_ _) | (with_reducible refine Kd.C_drewN ?_ _) | (with_reducible refine Kd.C_drew ?_))); (case side4 => exact (Kd.R_reads' HO_5.out).2.1); rintro e w' ⟨rfl, ⟨nd, rfl⟩⟩))
     go_meet
     case rel => exact ⟨_, (true), SD, H', ⟨by have := HJ10.out; first | omega | exact Nat.le_refl _⟩, ⟨by (with_reducible repeat (first | apply r1 | apply r2 | apply r3)); exact Kd.R_mono HO_5.out (fun _ hk => hk.2.1)⟩, ⟨by (with_reducible repeat (first | apply r1 | apply r2 | apply r3)); exact Kd.R_mono HO_8.out (fun _ hk => hk.1)⟩, ⟨BQ BK395.out⟩, ⟨BQ BK424.out⟩, ⟨BQ BK453.out⟩, ⟨BL⟩⟩
    subst c65
    have H1 : ((laws_eqTask.f t442 t443 t444 t445 t446 t447 t448 t449 t450 t451 t452 t413 t414 t415 t416 t417 t418 t419 t420 t421 t422 t423).bind fun t463 => (laws_FnExactStepTask.j1 kj10 l0 t410 t439 (!t463) a1_0 a1_1 a1_2 a1_3 a1_4 a1_5 a1_6 a1_7 a1_8 a1_9 a1_10 t413 t414 t415 t416 t417 t418 t419 t420 t421 t422 t423)) = some r := by rw [if_pos rfl] at H; exact H
    clear H
    have H := H1
    clear H1
    replace H := Option.bind_eq_some_iff.mp H
    obtain ⟨t463, A660, H⟩ := H
    replace H : (laws_FnExactStepTask.j1 kj10 l0 t410 t439 (!t463) a1_0 a1_1 a1_2 a1_3 a1_4 a1_5 a1_6 a1_7 a1_8 a1_9 a1_10 t413 t414 t415 t416 t417 t418 t419 t420 t421 t422 t423) = some r := H
    have A66 := Aside0.mk A660
    clear A660
    have H' := Aside0.mk H
    clear H
    obtain ⟨Ao67, co67, eo67⟩ := Kd.R_slice HO_8.out
    subst eo67
    obtain ⟨Ao68, co68, eo68⟩ := Kd.R_slice HO_5.out
    subst eo68
    go_wp2_with (first | (go_at_call 16; (with_reducible refine (laws_eqIntS.calls kj10 _ _ t439 _ _ t410 true _ ?side1 ?side2 ?side3 ?side4 A64.out).mono ?_); (case side1 => repeat (first | exact (Kd.R_reads' HO_8.out).2.2 | (with_reducible refine Kd.C_alloc ?_ _) | (with_reducible refine Kd.C_drewN ?_ _) | (with_reducible refine Kd.C_drew ?_))); (case side2 => exact (Kd.R_reads' HO_8.out).2.1); (case side3 => repeat (first | exact (Kd.R_reads' HO_5.out).2.2 | (with_reducible refine Kd.C_alloc ?_ _) | (with_reducible refine Kd.C_drewN ?_ _) | (with_reducible refine Kd.C_drew ?_))); (case side4 => exact (Kd.R_reads' HO_5.out).2.1); rintro e w' ⟨rfl, ⟨nd, rfl⟩⟩; have hnb69 := NB453_395.out; have hnc69 := NB395_453.out; have hnb70 := NB453_424.out; have hnc70 := NB424_453.out; have hcz71_0 : w62.cell? ⟨gb453, 0, none⟩ = some (.int .i64 t442) := CZ BK453.out 0; have hcz71_1 : w62.cell? ⟨gb453, 1, none⟩ = some (.int .i64 t443) := CZ BK453.out 1; have hcz71_2 : w62.cell? ⟨gb453, 2, none⟩ = some (.int .i64 t444) := CZ BK453.out 2; have hcz71_3 : w62.cell? ⟨gb453, 3, none⟩ = some (.int .i64 t445) := CZ BK453.out 3; have hcz71_4 : w62.cell? ⟨gb453, 4, none⟩ = some (.int .i64 t446) := CZ BK453.out 4; have hcz71_5 : w62.cell? ⟨gb453, 5, none⟩ = some (.int .i64 t447) := CZ BK453.out 5; have hcz71_6 : w62.cell? ⟨gb453, 6, none⟩ = some (.int .i64 t448) := CZ BK453.out 6; have hcz71_7 : w62.cell? ⟨gb453, 7, none⟩ = some (.int .i64 t449) := CZ BK453.out 7; have hcz71_8 : w62.cell? ⟨gb453, 8, none⟩ = some (.int .i64 t450) := CZ BK453.out 8; have hcz71_9 : w62.cell? ⟨gb453, 9, none⟩ = some (.bool t451) := CZ BK453.out 9; have hcz71_10 : w62.cell? ⟨gb453, 10, none⟩ = some (.int .i64 t452) := CZ BK453.out 10; have hfz71_0 := blk_frozen BK453.out 0; have hfz71_1 := blk_frozen BK453.out 1; have hfz71_2 := blk_frozen BK453.out 2; have hfz71_3 := blk_frozen BK453.out 3; have hfz71_4 := blk_frozen BK453.out 4; have hfz71_5 := blk_frozen BK453.out 5; have hfz71_6 := blk_frozen BK453.out 6; have hfz71_7 := blk_frozen BK453.out 7; have hfz71_8 := blk_frozen BK453.out 8; have hfz71_9 := blk_frozen BK453.out 9; have hfz71_10 := blk_frozen BK453.out 10; have hnb72 := NB424_395.out; have hnc72 := NB395_424.out; have hcz73_0 : w62.cell? ⟨gb424, 0, none⟩ = some (.int .i64 t413) := CZ BK424.out 0; have hcz73_1 : w62.cell? ⟨gb424, 1, none⟩ = some (.int .i64 t414) := CZ BK424.out 1; have hcz73_2 : w62.cell? ⟨gb424, 2, none⟩ = some (.int .i64 t415) := CZ BK424.out 2; have hcz73_3 : w62.cell? ⟨gb424, 3, none⟩ = some (.int .i64 t416) := CZ BK424.out 3; have hcz73_4 : w62.cell? ⟨gb424, 4, none⟩ = some (.int .i64 t417) := CZ BK424.out 4; have hcz73_5 : w62.cell? ⟨gb424, 5, none⟩ = some (.int .i64 t418) := CZ BK424.out 5; have hcz73_6 : w62.cell? ⟨gb424, 6, none⟩ = some (.int .i64 t419) := CZ BK424.out 6; have hcz73_7 : w62.cell? ⟨gb424, 7, none⟩ = some (.int .i64 t420) := CZ BK424.out 7; have hcz73_8 : w62.cell? ⟨gb424, 8, none⟩ = some (.int .i64 t421) := CZ BK424.out 8; have hcz73_9 : w62.cell? ⟨gb424, 9, none⟩ = some (.bool t422) := CZ BK424.out 9; have hcz73_10 : w62.cell? ⟨gb424, 10, none⟩ = some (.int .i64 t423) := CZ BK424.out 10; have hfz73_0 := blk_frozen BK424.out 0; have hfz73_1 := blk_frozen BK424.out 1; have hfz73_2 := blk_frozen BK424.out 2; have hfz73_3 := blk_frozen BK424.out 3; have hfz73_4 := blk_frozen BK424.out 4; have hfz73_5 := blk_frozen BK424.out 5; have hfz73_6 := blk_frozen BK424.out 6; have hfz73_7 := blk_frozen BK424.out 7; have hfz73_8 := blk_frozen BK424.out 8; have hfz73_9 := blk_frozen BK424.out 9; have hfz73_10 := blk_frozen BK424.out 10) | (go_at_call 40; (with_reducible refine (laws_eqTask.calls t442 t443 t444 t445 t446 t447 t448 t449 t450 t451 t452 t413 t414 t415 t416 t417 t418 t419 t420 t421 t422 t423 t463 _ A66.out).mono ?_); rintro e w74 ⟨rfl, hb⟩; replace HO_5 := Aside0.mk (Kd.R_below (RQ HO_5.out) hb); replace HO_7 := Aside0.mk (Kd.R_below (RQ HO_7.out) hb); replace HO_8 := Aside0.mk (Kd.R_below (RQ HO_8.out) hb); replace HO458 := Aside0.mk (Kd.R_below (RQ HO458.out) hb); replace BK395 := BB BK395.out hb; replace BK424 := BB BK424.out hb; replace BK453 := BB BK453.out hb; replace HB := Aside0.mk (below_step (BL) hb); (try clear hb); (try clear hb2); (try clear hk); (try clear hi)))
    go_meet
    case rel => exact ⟨_, (!t463), SD, H', ⟨by have := HJ10.out; first | omega | exact Nat.le_refl _⟩, ⟨by (with_reducible repeat (first | apply r1 | apply r2 | apply r3)); exact Kd.R_mono HO_5.out (fun _ hk => hk.2.1)⟩, ⟨by (with_reducible repeat (first | apply r1 | apply r2 | apply r3)); exact Kd.R_mono HO_8.out (fun _ hk => hk.1)⟩, ⟨BQ BK395.out⟩, ⟨BQ BK424.out⟩, ⟨BQ BK453.out⟩, ⟨BL⟩⟩
   case rest =>
    clear HC59
    try clear c1
    try clear p2
    try clear c3
    try clear c4
    try clear c5
    try clear c6
    try clear c7
    try clear c14
    try clear c16
    try clear c17
    try clear c32
    try clear c37
    try clear c38
    try clear c39
    try clear c42
    try clear c46
    try clear c47
    try clear c49
    try clear c54
    try clear c57
    try clear c63
    try clear c63b0
    try clear c65
    try clear c69
    try clear c70
    try clear c72
    try clear hcz33_0
    try clear hcz33_1
    try clear hcz33_10
    try clear hcz33_2
    try clear hcz33_3
    try clear hcz33_4
    try clear hcz33_5
    try clear hcz33_6
    try clear hcz33_7
    try clear hcz33_8
    try clear hcz33_9
    try clear hcz40_0
    try clear hcz40_1
    try clear hcz40_10
    try clear hcz40_2
    try clear hcz40_3
    try clear hcz40_4
    try clear hcz40_5
    try clear hcz40_6
    try clear hcz40_7
    try clear hcz40_8
    try clear hcz40_9
    try clear hcz48_0
    try clear hcz48_1
    try clear hcz48_10
    try clear hcz48_2
    try clear hcz48_3
    try clear hcz48_4
    try clear hcz48_5
    try clear hcz48_6
    try clear hcz48_7
    try clear hcz48_8
    try clear hcz48_9
    try clear hcz50_0
    try clear hcz50_1
    try clear hcz50_10
    try clear hcz50_2
    try clear hcz50_3
    try clear hcz50_4
    try clear hcz50_5
    try clear hcz50_6
    try clear hcz50_7
    try clear hcz50_8
    try clear hcz50_9
    try clear hcz71_0
    try clear hcz71_1
    try clear hcz71_10
    try clear hcz71_2
    try clear hcz71_3
    try clear hcz71_4
    try clear hcz71_5
    try clear hcz71_6
    try clear hcz71_7
    try clear hcz71_8
    try clear hcz71_9
    try clear hcz73_0
    try clear hcz73_1
    try clear hcz73_10
    try clear hcz73_2
    try clear hcz73_3
    try clear hcz73_4
    try clear hcz73_5
    try clear hcz73_6
    try clear hcz73_7
    try clear hcz73_8
    try clear hcz73_9
    try clear hfz33_0
    try clear hfz33_1
    try clear hfz33_10
    try clear hfz33_2
    try clear hfz33_3
    try clear hfz33_4
    try clear hfz33_5
    try clear hfz33_6
    try clear hfz33_7
    try clear hfz33_8
    try clear hfz33_9
    try clear hfz40_0
    try clear hfz40_1
    try clear hfz40_10
    try clear hfz40_2
    try clear hfz40_3
    try clear hfz40_4
    try clear hfz40_5
    try clear hfz40_6
    try clear hfz40_7
    try clear hfz40_8
    try clear hfz40_9
    try clear hfz48_0
    try clear hfz48_1
    try clear hfz48_10
    try clear hfz48_2
    try clear hfz48_3
    try clear hfz48_4
    try clear hfz48_5
    try clear hfz48_6
    try clear hfz48_7
    try clear hfz48_8
    try clear hfz48_9
    try clear hfz50_0
    try clear hfz50_1
    try clear hfz50_10
    try clear hfz50_2
    try clear hfz50_3
    try clear hfz50_4
    try clear hfz50_5
    try clear hfz50_6
    try clear hfz50_7
    try clear hfz50_8
    try clear hfz50_9
    try clear hfz71_0
    try clear hfz71_1
    try clear hfz71_10
    try clear hfz71_2
    try clear hfz71_3
    try clear hfz71_4
    try clear hfz71_5
    try clear hfz71_6
    try clear hfz71_7
    try clear hfz71_8
    try clear hfz71_9
    try clear hfz73_0
    try clear hfz73_1
    try clear hfz73_10
    try clear hfz73_2
    try clear hfz73_3
    try clear hfz73_4
    try clear hfz73_5
    try clear hfz73_6
    try clear hfz73_7
    try clear hfz73_8
    try clear hfz73_9
    try clear p2
    obtain ⟨kq, x66_58, rfl, HA, HJ58, HO_5, HO_8, BK395, BK424, BK453, HB⟩ := hcut
    cases kq with
    | zero => exact absurd HA.out (by simp [laws_FnExactStepTask.j1])
    | succ kj58 =>
     have H := HA.out
     clear HA
     simp only [laws_FnExactStepTask.j1] at H
     by_cases c77 : x66_58 = true
     ·
      subst c77
      have H1 : (none) = some r := by rw [if_pos rfl] at H; exact H
      clear H
      have H := H1
      clear H1
      exact absurd H (by simp)
     replace c77 := Bool.eq_false_iff.mpr c77
     subst c77
     have H1 : ((laws_markIntS.f kj58 t439 1).bind fun bt464 => ((laws_heldIntS.f kj58 bt464.2 1).bind fun t466 => (if t466 < 0 then (none) else (if t466 = bt464.1 then ((laws_toIntS.f kj58 l0).bind fun t467 => ((laws_toTask.f a1_0 a1_1 a1_2 a1_3 a1_4 a1_5 a1_6 a1_7 a1_8 a1_9 a1_10).bind fun bt470 => ((impl_StepTask.f kj58 t467 bt470.1 bt470.2.1 bt470.2.2.1 bt470.2.2.2.1 bt470.2.2.2.2.1 bt470.2.2.2.2.2.1 bt470.2.2.2.2.2.2.1 bt470.2.2.2.2.2.2.2.1 bt470.2.2.2.2.2.2.2.2.1 bt470.2.2.2.2.2.2.2.2.2.1 bt470.2.2.2.2.2.2.2.2.2.2).bind fun bt481 => ((laws_eqIntS.f kj58 bt481.1 t410).bind fun t496 => (if t496 = true then ((laws_eqTask.f bt481.2.1 bt481.2.2.1 bt481.2.2.2.1 bt481.2.2.2.2.1 bt481.2.2.2.2.2.1 bt481.2.2.2.2.2.2.1 bt481.2.2.2.2.2.2.2.1 bt481.2.2.2.2.2.2.2.2.1 bt481.2.2.2.2.2.2.2.2.2.1 bt481.2.2.2.2.2.2.2.2.2.2.1 bt481.2.2.2.2.2.2.2.2.2.2.2 t413 t414 t415 t416 t417 t418 t419 t420 t421 t422 t423).bind fun t497 => (laws_FnExactStepTask.j2 kj58 bt464.2 bt464.1 (!t497))) else (laws_FnExactStepTask.j2 kj58 bt464.2 bt464.1 true)))))) else (none))))) = some r := by rw [if_neg (show ¬ (false = true) by decide)] at H; exact H
     clear H
     have H := H1
     clear H1
     replace H := Option.bind_eq_some_iff.mp H
     obtain ⟨⟨t464, t465⟩, A780, H⟩ := H
     replace H : ((laws_heldIntS.f kj58 t465 1).bind fun t466 => (if t466 < 0 then (none) else (if t466 = t464 then ((laws_toIntS.f kj58 l0).bind fun t467 => ((laws_toTask.f a1_0 a1_1 a1_2 a1_3 a1_4 a1_5 a1_6 a1_7 a1_8 a1_9 a1_10).bind fun bt470 => ((impl_StepTask.f kj58 t467 bt470.1 bt470.2.1 bt470.2.2.1 bt470.2.2.2.1 bt470.2.2.2.2.1 bt470.2.2.2.2.2.1 bt470.2.2.2.2.2.2.1 bt470.2.2.2.2.2.2.2.1 bt470.2.2.2.2.2.2.2.2.1 bt470.2.2.2.2.2.2.2.2.2.1 bt470.2.2.2.2.2.2.2.2.2.2).bind fun bt481 => ((laws_eqIntS.f kj58 bt481.1 t410).bind fun t496 => (if t496 = true then ((laws_eqTask.f bt481.2.1 bt481.2.2.1 bt481.2.2.2.1 bt481.2.2.2.2.1 bt481.2.2.2.2.2.1 bt481.2.2.2.2.2.2.1 bt481.2.2.2.2.2.2.2.1 bt481.2.2.2.2.2.2.2.2.1 bt481.2.2.2.2.2.2.2.2.2.1 bt481.2.2.2.2.2.2.2.2.2.2.1 bt481.2.2.2.2.2.2.2.2.2.2.2 t413 t414 t415 t416 t417 t418 t419 t420 t421 t422 t423).bind fun t497 => (laws_FnExactStepTask.j2 kj58 t465 t464 (!t497))) else (laws_FnExactStepTask.j2 kj58 t465 t464 true)))))) else (none)))) = some r := H
     have A78 := Aside0.mk A780
     clear A780
     replace H := Option.bind_eq_some_iff.mp H
     obtain ⟨t466, A790, H⟩ := H
     replace H : (if t466 < 0 then (none) else (if t466 = t464 then ((laws_toIntS.f kj58 l0).bind fun t467 => ((laws_toTask.f a1_0 a1_1 a1_2 a1_3 a1_4 a1_5 a1_6 a1_7 a1_8 a1_9 a1_10).bind fun bt470 => ((impl_StepTask.f kj58 t467 bt470.1 bt470.2.1 bt470.2.2.1 bt470.2.2.2.1 bt470.2.2.2.2.1 bt470.2.2.2.2.2.1 bt470.2.2.2.2.2.2.1 bt470.2.2.2.2.2.2.2.1 bt470.2.2.2.2.2.2.2.2.1 bt470.2.2.2.2.2.2.2.2.2.1 bt470.2.2.2.2.2.2.2.2.2.2).bind fun bt481 => ((laws_eqIntS.f kj58 bt481.1 t410).bind fun t496 => (if t496 = true then ((laws_eqTask.f bt481.2.1 bt481.2.2.1 bt481.2.2.2.1 bt481.2.2.2.2.1 bt481.2.2.2.2.2.1 bt481.2.2.2.2.2.2.1 bt481.2.2.2.2.2.2.2.1 bt481.2.2.2.2.2.2.2.2.1 bt481.2.2.2.2.2.2.2.2.2.1 bt481.2.2.2.2.2.2.2.2.2.2.1 bt481.2.2.2.2.2.2.2.2.2.2.2 t413 t414 t415 t416 t417 t418 t419 t420 t421 t422 t423).bind fun t497 => (laws_FnExactStepTask.j2 kj58 t465 t464 (!t497))) else (laws_FnExactStepTask.j2 kj58 t465 t464 true)))))) else (none))) = some r := H
     have A79 := Aside0.mk A790
     clear A790
     by_cases c80 : t466 < 0
     ·
      rw [if_pos c80] at H
      exact absurd H (by simp)
     rw [if_neg c80] at H
     have c80b0 : decide (t466 < 0) = false := decide_eq_false c80
     clear c80
     by_cases c81 : t466 = t464; rotate_left
     ·
      rw [if_neg c81] at H
      exact absurd H (by simp)
     rw [if_pos c81] at H
     have c81b0 : (t466 == t464) = true := beq_iff_eq.mpr c81
     have c81b1 : (t466 != t464) = false := bne_eq_false_iff_eq.mpr c81
     clear c81
     replace H := Option.bind_eq_some_iff.mp H
     obtain ⟨t467, A820, H⟩ := H
     replace H : ((laws_toTask.f a1_0 a1_1 a1_2 a1_3 a1_4 a1_5 a1_6 a1_7 a1_8 a1_9 a1_10).bind fun bt470 => ((impl_StepTask.f kj58 t467 bt470.1 bt470.2.1 bt470.2.2.1 bt470.2.2.2.1 bt470.2.2.2.2.1 bt470.2.2.2.2.2.1 bt470.2.2.2.2.2.2.1 bt470.2.2.2.2.2.2.2.1 bt470.2.2.2.2.2.2.2.2.1 bt470.2.2.2.2.2.2.2.2.2.1 bt470.2.2.2.2.2.2.2.2.2.2).bind fun bt481 => ((laws_eqIntS.f kj58 bt481.1 t410).bind fun t496 => (if t496 = true then ((laws_eqTask.f bt481.2.1 bt481.2.2.1 bt481.2.2.2.1 bt481.2.2.2.2.1 bt481.2.2.2.2.2.1 bt481.2.2.2.2.2.2.1 bt481.2.2.2.2.2.2.2.1 bt481.2.2.2.2.2.2.2.2.1 bt481.2.2.2.2.2.2.2.2.2.1 bt481.2.2.2.2.2.2.2.2.2.2.1 bt481.2.2.2.2.2.2.2.2.2.2.2 t413 t414 t415 t416 t417 t418 t419 t420 t421 t422 t423).bind fun t497 => (laws_FnExactStepTask.j2 kj58 t465 t464 (!t497))) else (laws_FnExactStepTask.j2 kj58 t465 t464 true))))) = some r := H
     have A82 := Aside0.mk A820
     clear A820
     replace H := Option.bind_eq_some_iff.mp H
     obtain ⟨⟨t470, t471, t472, t473, t474, t475, t476, t477, t478, t479, t480⟩, A830, H⟩ := H
     replace H : ((impl_StepTask.f kj58 t467 t470 t471 t472 t473 t474 t475 t476 t477 t478 t479 t480).bind fun bt481 => ((laws_eqIntS.f kj58 bt481.1 t410).bind fun t496 => (if t496 = true then ((laws_eqTask.f bt481.2.1 bt481.2.2.1 bt481.2.2.2.1 bt481.2.2.2.2.1 bt481.2.2.2.2.2.1 bt481.2.2.2.2.2.2.1 bt481.2.2.2.2.2.2.2.1 bt481.2.2.2.2.2.2.2.2.1 bt481.2.2.2.2.2.2.2.2.2.1 bt481.2.2.2.2.2.2.2.2.2.2.1 bt481.2.2.2.2.2.2.2.2.2.2.2 t413 t414 t415 t416 t417 t418 t419 t420 t421 t422 t423).bind fun t497 => (laws_FnExactStepTask.j2 kj58 t465 t464 (!t497))) else (laws_FnExactStepTask.j2 kj58 t465 t464 true)))) = some r := H
     have A83 := Aside0.mk A830
     clear A830
     replace H := Option.bind_eq_some_iff.mp H
     obtain ⟨⟨t481, t484, t485, t486, t487, t488, t489, t490, t491, t492, t493, t494⟩, A840, H⟩ := H
     replace H : ((laws_eqIntS.f kj58 t481 t410).bind fun t496 => (if t496 = true then ((laws_eqTask.f t484 t485 t486 t487 t488 t489 t490 t491 t492 t493 t494 t413 t414 t415 t416 t417 t418 t419 t420 t421 t422 t423).bind fun t497 => (laws_FnExactStepTask.j2 kj58 t465 t464 (!t497))) else (laws_FnExactStepTask.j2 kj58 t465 t464 true))) = some r := H
     have A84 := Aside0.mk A840
     clear A840
     have HC85 := Aside0.mk H
     clear H
     obtain ⟨Ao86, co86, eo86⟩ := Kd.R_slice HO_8.out
     subst eo86
     try go_wp2_with (first | ((with_reducible refine gate_callee (f := 17) rfl ?_); refine goesL_ (some 69) rfl rfl Try.func17 (by kernel_rfl) rfl #[.slice Ao86 t439.length co86, .int .i64 1] rfl (MA) ?_; (with_reducible refine (laws_markIntS.calls kj58 (fun k_ => some k_ = (.slice Ao86 t439.length co86 : Value).ownBlock) (.slice Ao86 t439.length co86) t439 1 t464 t465 w _ ?side1 ?side2 A78.out).mono ?_); (case side1 => repeat (first | (with_reducible first | exact HB.out | apply below_alloc | apply pw_below_drewN | apply below_drew1 | refine below_set ?_ GE395.out | refine below_set ?_ GE424.out | refine below_set ?_ GE453.out) | exact HB.out)); (case side2 => exact Kd.R_tight rfl HO_8.out); rintro e w87 ⟨rfl, hy0, hb, hkp⟩; refine ⟨_, rfl, ?_⟩; replace HO_5 := Aside0.mk (Kd.R_mono (ok' := fun k_ => some k_ ≠ (.slice Ao86 t439.length co86 : Value).ownBlock) (Kd.R_keptB (HO_5.out) hkp (fun k_ hk_ hs_ => (hk_) hs_)) (fun k_ hk_ => hk_.1)); replace BK395 := Aside0.mk (blk_kept (BQ BK395.out) hkp (fun hs_ => (fun e_ => (Kd.R_ne HO_8.out BK395.out (by decide)) e_) hs_)); replace BK424 := Aside0.mk (blk_kept (BQ BK424.out) hkp (fun hs_ => (fun e_ => (Kd.R_ne HO_8.out BK424.out (by decide)) e_) hs_)); replace BK453 := Aside0.mk (blk_kept (BQ BK453.out) hkp (fun hs_ => (fun e_ => (Kd.R_ne HO_8.out BK453.out (by decide)) e_) hs_)); replace HO_8 := Aside0.mk (Kd.R_reok rfl hy0 (fun k_ e_ => HO_8.out.1 k_ e_)); replace HB := Aside0.mk (hb); (try clear hb); (try clear hkp); (try clear hy0)) | ((with_reducible refine gate_callee (f := 18) rfl ?_); refine goesL_ (some 72) rfl rfl Try.func18 (by kernel_rfl) rfl #[.slice Ao86 t465.length co86, .int .i64 1] rfl (by (try simp only [List.map_toArray, List.map_cons, List.map_nil]); first | done | (rw [show t465.length = t439.length from (Kd.R_reads' HO_8.out).1.symm] <;> rfl) | rfl | (simp only [List.length_drop, List.length_take]; rfl)) ?_; (with_reducible refine (laws_heldIntS.calls kj58 _ _ t465 1 t466 _ ?side1 ?side2 A79.out).mono ?_); (case side1 => repeat (first | exact (Kd.R_reads' HO_8.out).2.2 | (with_reducible refine Kd.C_alloc ?_ _) | (with_reducible refine Kd.C_drewN ?_ _) | (with_reducible refine Kd.C_drew ?_))); (case side2 => rw [show t465.length = t439.length from (Kd.R_reads' HO_8.out).1.symm]; exact (Kd.R_reads' HO_8.out).2.1); rintro e w' ⟨rfl, ⟨nd, rfl⟩⟩; refine ⟨_, rfl, ?_⟩; (try (rw [drewN_self w87]; generalize hq_ : World.drewN w87 _ = w87; have n0_ : Aside0 (Kd.R (Kd.int .i64) 3 w87 w.heap.size (fun k_ => some k_ ≠ (.slice Ao86 t439.length co86 : Value).ownBlock) v411 t410) := ⟨by rw [← hq_]; exact (RQ HO_5.out)⟩; have n1_ : Aside0 (Kd.R (Kd.int .i64) 3 w87 w.heap.size (fun k_ => some k_ ≠ (v411 : Value).ownBlock) (.slice Ao86 t439.length co86) t465) := ⟨by rw [← hq_]; exact (RQ HO_8.out)⟩; have n2_ : Aside0 (w87.heap[gb395]? = some (.cells #[.int .i64 a1_0, .int .i64 a1_1, .int .i64 a1_2, .int .i64 a1_3, .int .i64 a1_4, .int .i64 a1_5, .int .i64 a1_6, .int .i64 a1_7, .int .i64 a1_8, .bool a1_9, .int .i64 a1_10] 45 (0, 0))) := ⟨by rw [← hq_]; exact (BQ BK395.out)⟩; have n3_ : Aside0 (w87.heap[gb424]? = some (.cells #[.int .i64 t413, .int .i64 t414, .int .i64 t415, .int .i64 t416, .int .i64 t417, .int .i64 t418, .int .i64 t419, .int .i64 t420, .int .i64 t421, .bool t422, .int .i64 t423] 46 (0, 0))) := ⟨by rw [← hq_]; exact (BQ BK424.out)⟩; have n4_ : Aside0 (w87.heap[gb453]? = some (.cells #[.int .i64 t442, .int .i64 t443, .int .i64 t444, .int .i64 t445, .int .i64 t446, .int .i64 t447, .int .i64 t448, .int .i64 t449, .int .i64 t450, .bool t451, .int .i64 t452] 46 (0, 0))) := ⟨by rw [← hq_]; exact (BQ BK453.out)⟩; have n5_ : Aside0 (Below w.heap.size w w87) := ⟨by rw [← hq_]; exact (BL)⟩; clear HO_5 HO_8 BK395 BK424 BK453 HB hq_; have HO_5 := n0_; have HO_8 := n1_; have BK395 := n2_; have BK424 := n3_; have BK453 := n4_; have HB := n5_; clear n0_ n1_ n2_ n3_ n4_ n5_))))
     have n0_ := Aside0.mk (Kd.R_drew HO_5.out)
     have n1_ := Aside0.mk (Kd.R_drew HO_8.out)
     have n2_ := Aside0.mk (blk_drew BK395.out)
     have n3_ := Aside0.mk (blk_drew BK424.out)
     have n4_ := Aside0.mk (blk_drew BK453.out)
     have n5_ := Aside0.mk (below_drew1 HB.out)
     clear HO_5
     clear HO_8
     clear BK395
     clear BK424
     clear BK453
     clear HB
     have HO_5 := n0_
     have HO_8 := n1_
     have BK395 := n2_
     have BK424 := n3_
     have BK453 := n4_
     have HB := n5_
     clear n0_ n1_ n2_ n3_ n4_ n5_
     refine start_ (n := 11) (S := fun w' => w'.cell? ⟨gb395, 0, none⟩ = some (.int .i64 a1_0) ∧ w'.cell? ⟨gb395, 1, none⟩ = some (.int .i64 a1_1) ∧ w'.cell? ⟨gb395, 2, none⟩ = some (.int .i64 a1_2) ∧ w'.cell? ⟨gb395, 3, none⟩ = some (.int .i64 a1_3) ∧ w'.cell? ⟨gb395, 4, none⟩ = some (.int .i64 a1_4) ∧ w'.cell? ⟨gb395, 5, none⟩ = some (.int .i64 a1_5) ∧ w'.cell? ⟨gb395, 6, none⟩ = some (.int .i64 a1_6) ∧ w'.cell? ⟨gb395, 7, none⟩ = some (.int .i64 a1_7) ∧ w'.cell? ⟨gb395, 8, none⟩ = some (.int .i64 a1_8) ∧ w'.cell? ⟨gb395, 9, none⟩ = some (.bool a1_9) ∧ w'.cell? ⟨gb395, 10, none⟩ = some (.int .i64 a1_10)) (ds := []) #[false, false, false, false, false, false, false, false, false, false, false] (by kernel_rfl) rfl rfl ⟨CZ BK395.out 0, CZ BK395.out 1, CZ BK395.out 2, CZ BK395.out 3, CZ BK395.out 4, CZ BK395.out 5, CZ BK395.out 6, CZ BK395.out 7, CZ BK395.out 8, CZ BK395.out 9, CZ BK395.out 10⟩ (fun hHeld => ?_); refine with_tabW laws_FnExactStepTask.tab22 laws_FnExactStepTask.bits22 (fun HT_ HW_ => ?_)
     generalize w87.drew = w88 at HO_5 HO_8 BK395 BK424 BK453 HB hHeld ⊢
     refine pV 0 79 (OB 11 1) ?_
     refine take_ (i := 2) (N := some 81) (v := ?_) (a' := ?_) (OB 11 5) rfl rfl (take_ofW HT_.out HW_.out (by kernel_rfl)) (fun _ _ _ h => h) (Or.inl ⟨by rfl, ?_⟩) hHeld ?_ ?_
     rotate_left
     ·
      rintro w' ⟨s0, s1, s2, s3, s4, s5, s6, s7, s8, s9, s10⟩
      go_simp
      with_reducible rfl
     rotate_left
     ·
      simp only [Act.put, zA, zB, zC, i64_w, i32_w]
      rfl
     refine join_ (σ := Value × Value × Nat) 2 #[true, true, true, true, true, true, true, true, true, false, false] (fun s_ => [(80, s_.1), (82, .agg #[.int .i64 t470, .int .i64 t471, .int .i64 t472, .int .i64 t473, .int .i64 t474, .int .i64 t475, .int .i64 t476, .int .i64 t477, .int .i64 t478, .bool t479, .int .i64 t480]), (83, .tuple #[s_.2.1, .agg #[.int .i64 t484, .int .i64 t485, .int .i64 t486, .int .i64 t487, .int .i64 t488, .int .i64 t489, .int .i64 t490, .int .i64 t491, .int .i64 t492, .bool t493, .int .i64 t494]]), (14, .pointer (some ⟨s_.2.2, 0, none⟩)), (78, .tuple #[s_.2.1, .agg #[.int .i64 t484, .int .i64 t485, .int .i64 t486, .int .i64 t487, .int .i64 t488, .int .i64 t489, .int .i64 t490, .int .i64 t491, .int .i64 t492, .bool t493, .int .i64 t494]]), (84, s_.2.1), (85, .agg #[.int .i64 t484, .int .i64 t485, .int .i64 t486, .int .i64 t487, .int .i64 t488, .int .i64 t489, .int .i64 t490, .int .i64 t491, .int .i64 t492, .bool t493, .int .i64 t494])]) (fun s_ w' => (w'.cell? ⟨gb395, 0, none⟩ = some (.int .i64 a1_0) ∧ w'.cell? ⟨gb395, 1, none⟩ = some (.int .i64 a1_1) ∧ w'.cell? ⟨gb395, 2, none⟩ = some (.int .i64 a1_2) ∧ w'.cell? ⟨gb395, 3, none⟩ = some (.int .i64 a1_3) ∧ w'.cell? ⟨gb395, 4, none⟩ = some (.int .i64 a1_4) ∧ w'.cell? ⟨gb395, 5, none⟩ = some (.int .i64 a1_5) ∧ w'.cell? ⟨gb395, 6, none⟩ = some (.int .i64 a1_6) ∧ w'.cell? ⟨gb395, 7, none⟩ = some (.int .i64 a1_7) ∧ w'.cell? ⟨gb395, 8, none⟩ = some (.int .i64 a1_8) ∧ w'.cell? ⟨gb395, 9, none⟩ = some (.bool a1_9) ∧ w'.cell? ⟨gb395, 10, none⟩ = some (.int .i64 a1_10)) ∧ (Kd.R (Kd.int .i64) 3 w' w.heap.size (fun k_ => some k_ ≠ (s_.2.1 : Value).ownBlock ∧ some k_ ≠ (v411 : Value).ownBlock ∧ some k_ ≠ (.slice Ao86 t439.length co86 : Value).ownBlock) s_.1 t467) ∧ (Kd.R (Kd.int .i64) 3 w' w.heap.size (fun k_ => some k_ ≠ (s_.1 : Value).ownBlock ∧ some k_ ≠ (v411 : Value).ownBlock ∧ some k_ ≠ (.slice Ao86 t439.length co86 : Value).ownBlock) s_.2.1 t481) ∧ (Kd.R (Kd.int .i64) 3 w' w.heap.size (fun k_ => some k_ ≠ (s_.1 : Value).ownBlock ∧ some k_ ≠ (s_.2.1 : Value).ownBlock ∧ some k_ ≠ (.slice Ao86 t439.length co86 : Value).ownBlock) v411 t410) ∧ (Kd.R (Kd.int .i64) 3 w' w.heap.size (fun k_ => some k_ ≠ (s_.1 : Value).ownBlock ∧ some k_ ≠ (s_.2.1 : Value).ownBlock ∧ some k_ ≠ (v411 : Value).ownBlock) (.slice Ao86 t439.length co86) t465) ∧ (w'.heap[gb395]? = some (.cells #[.int .i64 a1_0, .int .i64 a1_1, .int .i64 a1_2, .int .i64 a1_3, .int .i64 a1_4, .int .i64 a1_5, .int .i64 a1_6, .int .i64 a1_7, .int .i64 a1_8, .bool a1_9, .int .i64 a1_10] 45 (0, 0))) ∧ (w'.heap[gb424]? = some (.cells #[.int .i64 t413, .int .i64 t414, .int .i64 t415, .int .i64 t416, .int .i64 t417, .int .i64 t418, .int .i64 t419, .int .i64 t420, .int .i64 t421, .bool t422, .int .i64 t423] 46 (0, 0))) ∧ (w'.heap[gb453]? = some (.cells #[.int .i64 t442, .int .i64 t443, .int .i64 t444, .int .i64 t445, .int .i64 t446, .int .i64 t447, .int .i64 t448, .int .i64 t449, .int .i64 t450, .bool t451, .int .i64 t452] 46 (0, 0))) ∧ (w'.heap[s_.2.2]? = some (.cells #[.int .i64 0, .int .i64 0, .int .i64 0, .int .i64 0, .int .i64 0, .int .i64 0, .int .i64 0, .int .i64 0, .int .i64 0, .bool false, .int .i64 0] 46 (0, 0))) ∧ (w.heap.size ≤ s_.2.2) ∧ (w.heap.size ≤ s_.2.2) ∧ (gb395 ≠ s_.2.2) ∧ (s_.2.2 ≠ gb395) ∧ (gb424 ≠ s_.2.2) ∧ (s_.2.2 ≠ gb424) ∧ (gb453 ≠ s_.2.2) ∧ (s_.2.2 ≠ gb453) ∧ (Below w.heap.size w w')) ?_ ?_
     rotate_left
     ·
      intro hCont
      refine two_ (i := 1) (j := 8) (Ni := some 80) (Nj := some 14) #[true, true, true, false, false, false, false, false, false, false, false] #[true, false, true, false, false, false, false, false, true, false, false] rfl rfl rfl rfl (two_of HT_.out (by kernel_rfl)) (by decide) (by decide) (fun K hK => ?_) (fun K hK => ?_)
      ·
       skip
       refine goes_ Try.func14 (by kernel_rfl) rfl #[.slice A0 l0.length c0] (by rfl) rfl rfl (MA) ?_
       with_reducible refine (laws_toIntS.calls kj58 _ _ l0 t467 _ ?side1 ?side2 A82.out).mono ?_
       (case side1 => repeat (first | exact (Kd.C_below HR0.out HB.out) | (with_reducible refine Kd.C_alloc ?_ _) | (with_reducible refine Kd.C_drewN ?_ _) | (with_reducible refine Kd.C_drew ?_)))
       (case side2 => exact HC0.out)
       rintro e w89 ⟨v468, rfl, ho0, hb⟩
       refine ⟨_, rfl, ?_⟩
       have n0_ := Aside0.mk (Kd.R_elder' (RQ HO_5.out) (Kd.R_base ho0) hb)
       have n1_ := Aside0.mk (Kd.R_elder' (RQ HO_8.out) (Kd.R_base ho0) hb)
       have n2_ := Aside0.mk (Kd.R_lower (Kd.R_new' (Kd.R_new' ho0 (Kd.R_lt (RQ HO_5.out))) (Kd.R_lt (RQ HO_8.out))) (below_size (BL)))
       have n3_ := BB BK395.out hb
       have n4_ := BB BK424.out hb
       have n5_ := BB BK453.out hb
       have n6_ := Aside0.mk (below_step (BL) hb)
       clear HO_5
       clear HO_8
       clear BK395
       clear BK424
       clear BK453
       clear HB
       have HO_5 := n0_
       have HO_8 := n1_
       have HO469 := n2_
       have BK395 := n3_
       have BK424 := n4_
       have BK453 := n5_
       have HB := n6_
       clear n0_ n1_ n2_ n3_ n4_ n5_ n6_
       (try clear hb)
       (try clear hb2)
       (try clear hk)
       (try clear hi)
       (try clear ho0)
       refine hK.out _ _ ⟨CZ BK395.out 0, CZ BK395.out 1, CZ BK395.out 2, CZ BK395.out 3, CZ BK395.out 4, CZ BK395.out 5, CZ BK395.out 6, CZ BK395.out 7, CZ BK395.out 8, CZ BK395.out 9, CZ BK395.out 10⟩ (fun hHeld => ?_)
       clear hK K
       refine norm_ (a' := ?_) ?_ ?_
       rotate_left
       ·
        show Act.put _ (some 80) _ = _
        simp only [Act.put, zA, zB, zC, i64_w, i32_w]
        rfl
       refine two_ (i := 3) (j := 8) (Ni := some 82) (Nj := some 14) #[true, true, true, true, false, false, false, false, false, false, false] #[true, true, true, false, false, false, false, false, true, false, false] rfl rfl rfl rfl (two_of HT_.out (by kernel_rfl)) (by decide) (by decide) (fun K hK => ?_) (fun K hK => ?_)
       ·
        skip
        refine goes_ Try.func38 (by kernel_rfl) rfl #[.agg #[.int .i64 a1_0, .int .i64 a1_1, .int .i64 a1_2, .int .i64 a1_3, .int .i64 a1_4, .int .i64 a1_5, .int .i64 a1_6, .int .i64 a1_7, .int .i64 a1_8, .bool a1_9, .int .i64 a1_10]] (by rfl) rfl rfl (MA) ?_
        with_reducible refine (laws_toTask.calls a1_0 a1_1 a1_2 a1_3 a1_4 a1_5 a1_6 a1_7 a1_8 a1_9 a1_10 t470 t471 t472 t473 t474 t475 t476 t477 t478 t479 t480 _ A83.out).mono ?_
        rintro e w90 ⟨rfl, hb⟩
        refine ⟨_, rfl, ?_⟩
        have n0_ := Aside0.mk (Kd.R_below (RQ HO_5.out) hb)
        have n1_ := Aside0.mk (Kd.R_below (RQ HO_8.out) hb)
        have n2_ := Aside0.mk (Kd.R_below (RQ HO469.out) hb)
        have n3_ := BB BK395.out hb
        have n4_ := BB BK424.out hb
        have n5_ := BB BK453.out hb
        have n6_ := Aside0.mk (below_step (BL) hb)
        clear HO_5
        clear HO_8
        clear HO469
        clear BK395
        clear BK424
        clear BK453
        clear HB
        have HO_5 := n0_
        have HO_8 := n1_
        have HO469 := n2_
        have BK395 := n3_
        have BK424 := n4_
        have BK453 := n5_
        have HB := n6_
        clear n0_ n1_ n2_ n3_ n4_ n5_ n6_
        (try clear hb)
        (try clear hb2)
        (try clear hk)
        (try clear hi)
        obtain ⟨Ao91, co91, eo91⟩ := Kd.R_slice HO469.out
        (first | subst eo91 | (injection eo91 with f1_ f2_ f3_; have f4_ := f1_.symm; have f5_ := f3_.symm; clear f1_ f2_ f3_; subst f4_; subst f5_))
        refine hK.out _ _ ⟨CZ BK395.out 0, CZ BK395.out 1, CZ BK395.out 2, CZ BK395.out 3, CZ BK395.out 4, CZ BK395.out 5, CZ BK395.out 6, CZ BK395.out 7, CZ BK395.out 8, CZ BK395.out 9, CZ BK395.out 10⟩ (fun hHeld => ?_)
        clear hK K
        refine norm_ (a' := ?_) ?_ ?_
        rotate_left
        ·
         show Act.put _ (some 82) _ = _
         simp only [Act.put, zA, zB, zC, i64_w, i32_w]
         rfl
        refine two_ (i := 4) (j := 8) (Ni := some 83) (Nj := some 14) #[true, true, true, true, true, false, false, false, false, false, false] #[true, true, true, true, false, false, false, false, true, false, false] rfl rfl rfl rfl (two_of HT_.out (by kernel_rfl)) (by decide) (by decide) (fun K hK => ?_) (fun K hK => ?_)
        ·
         skip
         refine goes_ Try.func39 (by kernel_rfl) rfl #[.slice Ao91 t467.length co91, .agg #[.int .i64 t470, .int .i64 t471, .int .i64 t472, .int .i64 t473, .int .i64 t474, .int .i64 t475, .int .i64 t476, .int .i64 t477, .int .i64 t478, .bool t479, .int .i64 t480]] (by rfl) rfl rfl (MA) ?_
         with_reducible refine (impl_StepTask.calls kj58 _ _ t467 t470 t471 t472 t473 t474 t475 t476 t477 t478 t479 t480 t481 t484 t485 t486 t487 t488 t489 t490 t491 t492 t493 t494 _ ?side1 ?side2 A84.out).mono ?_
         (case side1 => repeat (first | exact (Kd.R_reads' HO469.out).2.2 | (with_reducible refine Kd.C_alloc ?_ _) | (with_reducible refine Kd.C_drewN ?_ _) | (with_reducible refine Kd.C_drew ?_)))
         (case side2 => exact (Kd.R_reads' HO469.out).2.1)
         rintro e w92 ⟨v482, rfl, ho0, hb⟩
         refine ⟨_, rfl, ?_⟩
         have n0_ := Aside0.mk (Kd.R_elder' (RQ HO_5.out) (Kd.R_base ho0) hb)
         have n1_ := Aside0.mk (Kd.R_elder' (RQ HO_8.out) (Kd.R_base ho0) hb)
         have n2_ := Aside0.mk (Kd.R_elder' (RQ HO469.out) (Kd.R_base ho0) hb)
         have n3_ := Aside0.mk (Kd.R_lower (Kd.R_new' (Kd.R_new' (Kd.R_new' ho0 (Kd.R_lt (RQ HO_5.out))) (Kd.R_lt (RQ HO_8.out))) (Kd.R_lt (RQ HO469.out))) (below_size (BL)))
         have n4_ := BB BK395.out hb
         have n5_ := BB BK424.out hb
         have n6_ := BB BK453.out hb
         have n7_ := Aside0.mk (below_step (BL) hb)
         clear HO_5
         clear HO_8
         clear HO469
         clear BK395
         clear BK424
         clear BK453
         clear HB
         have HO_5 := n0_
         have HO_8 := n1_
         have HO469 := n2_
         have HO483 := n3_
         have BK395 := n4_
         have BK424 := n5_
         have BK453 := n6_
         have HB := n7_
         clear n0_ n1_ n2_ n3_ n4_ n5_ n6_ n7_
         (try clear hb)
         (try clear hb2)
         (try clear hk)
         (try clear hi)
         (try clear ho0)
         refine hK.out _ _ ⟨CZ BK395.out 0, CZ BK395.out 1, CZ BK395.out 2, CZ BK395.out 3, CZ BK395.out 4, CZ BK395.out 5, CZ BK395.out 6, CZ BK395.out 7, CZ BK395.out 8, CZ BK395.out 9, CZ BK395.out 10⟩ (fun hHeld => ?_)
         clear hK K
         refine norm_ (a' := ?_) ?_ ?_
         rotate_left
         ·
          show Act.put _ (some 83) _ = _
          simp only [Act.put, zA, zB, zC, i64_w, i32_w]
          rfl
         refine pV 5 78 (OB 11 63) ?_
         refine pV 6 84 (OB 11 127) ?_
         refine pV 7 85 (OB 11 255) ?_
         refine one_ (i := 8) (N := some 14) (OB 11 511) rfl rfl (one_of HT_.out (by kernel_rfl)) (by decide) (fun K hK => ?_)
         refine box_step ?hg (N := 14) ?hd (cs := #[.int .i64 0, .int .i64 0, .int .i64 0, .int .i64 0, .int .i64 0, .int .i64 0, .int .i64 0, .int .i64 0, .int .i64 0, .bool false, .int .i64 0]) (t := 46) ?hr ?_; (case hd => rfl); (case hg => rfl); (case hr => first | (go_simp; done) | (go_simp; rfl))
         intro gb495 hg w93 hbox hb
         have n0_ := Aside0.mk (Kd.R_below (RQ HO_5.out) hb)
         have n1_ := Aside0.mk (Kd.R_below (RQ HO_8.out) hb)
         have n2_ := Aside0.mk (Kd.R_below (RQ HO469.out) hb)
         have n3_ := Aside0.mk (Kd.R_below (RQ HO483.out) hb)
         have n4_ := BB BK395.out hb
         have n5_ := BB BK424.out hb
         have n6_ := BB BK453.out hb
         have n7_ := Aside0.mk (below_step (BL) hb)
         have n8_ := Aside0.mk (hbox)
         have n9_ : Aside0 (w.heap.size ≤ gb495) := GS
         have n10_ : Aside0 (w.heap.size ≤ gb495) := GS
         have n11_ := NL BK395.out hg
         have n12_ := NG BK395.out hg
         have n13_ := NL BK424.out hg
         have n14_ := NG BK424.out hg
         have n15_ := NL BK453.out hg
         have n16_ := NG BK453.out hg
         clear HO_5
         clear HO_8
         clear HO469
         clear HO483
         clear BK395
         clear BK424
         clear BK453
         clear HB
         have HO_5 := n0_
         have HO_8 := n1_
         have HO469 := n2_
         have HO483 := n3_
         have BK395 := n4_
         have BK424 := n5_
         have BK453 := n6_
         have HB := n7_
         have BK495 := n8_
         have GW495 := n9_
         have GE495 := n10_
         have NB395_495 := n11_
         have NB495_395 := n12_
         have NB424_495 := n13_
         have NB495_424 := n14_
         have NB453_495 := n15_
         have NB495_453 := n16_
         clear n0_ n1_ n2_ n3_ n4_ n5_ n6_ n7_ n8_ n9_ n10_ n11_ n12_ n13_ n14_ n15_ n16_
         clear hb hbox hg
         refine hK.out _ _ ⟨CZ BK395.out 0, CZ BK395.out 1, CZ BK395.out 2, CZ BK395.out 3, CZ BK395.out 4, CZ BK395.out 5, CZ BK395.out 6, CZ BK395.out 7, CZ BK395.out 8, CZ BK395.out 9, CZ BK395.out 10⟩ (fun hHeld => ?_)
         clear hK K
         refine norm_ (a' := ?_) ?_ ?_
         rotate_left
         ·
          show Act.put _ (some 14) _ = _
          simp only [Act.put, zA, zB, zC, i64_w, i32_w]
          rfl
         exact norm_ (by simp only [putAll, Act.put, zA, zB, zC]) (hCont (.slice Ao91 t467.length co91, v482, gb495) _ ⟨hHeld, (by (with_reducible repeat (first | apply r1 | apply r2 | apply r3)); exact Kd.R_mono HO469.out (fun _ hk => ⟨hk.2, ⟨hk.1.1.2, hk.1.2⟩⟩)), (by (with_reducible repeat (first | apply r1 | apply r2 | apply r3)); exact Kd.R_mono HO483.out (fun _ hk => ⟨hk.2, ⟨hk.1.1.2, hk.1.2⟩⟩)), (by (with_reducible repeat (first | apply r1 | apply r2 | apply r3)); exact Kd.R_mono HO_5.out (fun _ hk => ⟨hk.1.2, ⟨hk.2, hk.1.1⟩⟩)), (by (with_reducible repeat (first | apply r1 | apply r2 | apply r3)); exact Kd.R_mono HO_8.out (fun _ hk => ⟨hk.1.2, ⟨hk.2, hk.1.1⟩⟩)), (BQ BK395.out), (BQ BK424.out), (BQ BK453.out), (BQ BK495.out), GW495.out, GE495.out, NB395_495.out, NB495_395.out, NB424_495.out, NB495_424.out, NB453_495.out, NB495_453.out, (BL)⟩)
        ·
         skip
         refine box_step ?hg (N := 14) ?hd (cs := #[.int .i64 0, .int .i64 0, .int .i64 0, .int .i64 0, .int .i64 0, .int .i64 0, .int .i64 0, .int .i64 0, .int .i64 0, .bool false, .int .i64 0]) (t := 46) ?hr ?_; (case hd => rfl); (case hg => rfl); (case hr => first | (go_simp; done) | (go_simp; rfl))
         intro gb495 hg w91 hbox hb
         have n0_ := Aside0.mk (Kd.R_below (RQ HO_5.out) hb)
         have n1_ := Aside0.mk (Kd.R_below (RQ HO_8.out) hb)
         have n2_ := Aside0.mk (Kd.R_below (RQ HO469.out) hb)
         have n3_ := BB BK395.out hb
         have n4_ := BB BK424.out hb
         have n5_ := BB BK453.out hb
         have n6_ := Aside0.mk (below_step (BL) hb)
         have n7_ := Aside0.mk (hbox)
         have n8_ : Aside0 (w.heap.size ≤ gb495) := GS
         have n9_ : Aside0 (w.heap.size ≤ gb495) := GS
         have n10_ := NL BK395.out hg
         have n11_ := NG BK395.out hg
         have n12_ := NL BK424.out hg
         have n13_ := NG BK424.out hg
         have n14_ := NL BK453.out hg
         have n15_ := NG BK453.out hg
         clear HO_5
         clear HO_8
         clear HO469
         clear BK395
         clear BK424
         clear BK453
         clear HB
         have HO_5 := n0_
         have HO_8 := n1_
         have HO469 := n2_
         have BK395 := n3_
         have BK424 := n4_
         have BK453 := n5_
         have HB := n6_
         have BK495 := n7_
         have GW495 := n8_
         have GE495 := n9_
         have NB395_495 := n10_
         have NB495_395 := n11_
         have NB424_495 := n12_
         have NB495_424 := n13_
         have NB453_495 := n14_
         have NB495_453 := n15_
         clear n0_ n1_ n2_ n3_ n4_ n5_ n6_ n7_ n8_ n9_ n10_ n11_ n12_ n13_ n14_ n15_
         clear hb hbox hg
         obtain ⟨Ao92, co92, eo92⟩ := Kd.R_slice HO469.out
         (first | subst eo92 | (injection eo92 with f1_ f2_ f3_; have f4_ := f1_.symm; have f5_ := f3_.symm; clear f1_ f2_ f3_; subst f4_; subst f5_))
         refine hK.out _ _ ⟨CZ BK395.out 0, CZ BK395.out 1, CZ BK395.out 2, CZ BK395.out 3, CZ BK395.out 4, CZ BK395.out 5, CZ BK395.out 6, CZ BK395.out 7, CZ BK395.out 8, CZ BK395.out 9, CZ BK395.out 10⟩ (fun hHeld => ?_)
         clear hK K
         refine norm_ (a' := ?_) ?_ ?_
         rotate_left
         ·
          show Act.put _ (some 14) _ = _
          simp only [Act.put, zA, zB, zC, i64_w, i32_w]
          rfl
         refine one_ (i := 4) (N := some 83) (OB 11 287) rfl rfl (one_of HT_.out (by kernel_rfl)) (by decide) (fun K hK => ?_)
         refine goes_ Try.func39 (by kernel_rfl) rfl #[.slice Ao92 t467.length co92, .agg #[.int .i64 t470, .int .i64 t471, .int .i64 t472, .int .i64 t473, .int .i64 t474, .int .i64 t475, .int .i64 t476, .int .i64 t477, .int .i64 t478, .bool t479, .int .i64 t480]] (by rfl) rfl rfl (MA) ?_
         with_reducible refine (impl_StepTask.calls kj58 _ _ t467 t470 t471 t472 t473 t474 t475 t476 t477 t478 t479 t480 t481 t484 t485 t486 t487 t488 t489 t490 t491 t492 t493 t494 _ ?side1 ?side2 A84.out).mono ?_
         (case side1 => repeat (first | exact (Kd.R_reads' HO469.out).2.2 | (with_reducible refine Kd.C_alloc ?_ _) | (with_reducible refine Kd.C_drewN ?_ _) | (with_reducible refine Kd.C_drew ?_)))
         (case side2 => exact (Kd.R_reads' HO469.out).2.1)
         rintro e w93 ⟨v482, rfl, ho0, hb⟩
         refine ⟨_, rfl, ?_⟩
         have n0_ := Aside0.mk (Kd.R_elder' (RQ HO_5.out) (Kd.R_base ho0) hb)
         have n1_ := Aside0.mk (Kd.R_elder' (RQ HO_8.out) (Kd.R_base ho0) hb)
         have n2_ := Aside0.mk (Kd.R_elder' (RQ HO469.out) (Kd.R_base ho0) hb)
         have n3_ := Aside0.mk (Kd.R_lower (Kd.R_new' (Kd.R_new' (Kd.R_new' ho0 (Kd.R_lt (RQ HO_5.out))) (Kd.R_lt (RQ HO_8.out))) (Kd.R_lt (RQ HO469.out))) (below_size (BL)))
         have n4_ := BB BK395.out hb
         have n5_ := BB BK424.out hb
         have n6_ := BB BK453.out hb
         have n7_ := BB BK495.out hb
         have n8_ := Aside0.mk (below_step (BL) hb)
         clear HO_5
         clear HO_8
         clear HO469
         clear BK395
         clear BK424
         clear BK453
         clear BK495
         clear HB
         have HO_5 := n0_
         have HO_8 := n1_
         have HO469 := n2_
         have HO483 := n3_
         have BK395 := n4_
         have BK424 := n5_
         have BK453 := n6_
         have BK495 := n7_
         have HB := n8_
         clear n0_ n1_ n2_ n3_ n4_ n5_ n6_ n7_ n8_
         (try clear hb)
         (try clear hb2)
         (try clear hk)
         (try clear hi)
         (try clear ho0)
         refine hK.out _ _ ⟨CZ BK395.out 0, CZ BK395.out 1, CZ BK395.out 2, CZ BK395.out 3, CZ BK395.out 4, CZ BK395.out 5, CZ BK395.out 6, CZ BK395.out 7, CZ BK395.out 8, CZ BK395.out 9, CZ BK395.out 10⟩ (fun hHeld => ?_)
         clear hK K
         refine norm_ (a' := ?_) ?_ ?_
         rotate_left
         ·
          show Act.put _ (some 83) _ = _
          simp only [Act.put, zA, zB, zC, i64_w, i32_w]
          rfl
         refine pV 5 78 (OB 11 319) ?_
         refine pV 6 84 (OB 11 383) ?_
         refine pV 7 85 (OB 11 511) ?_
         exact norm_ (by simp only [putAll, Act.put, zA, zB, zC]) (hCont (.slice Ao92 t467.length co92, v482, gb495) _ ⟨hHeld, (by (with_reducible repeat (first | apply r1 | apply r2 | apply r3)); exact Kd.R_mono HO469.out (fun _ hk => ⟨hk.2, ⟨hk.1.1.2, hk.1.2⟩⟩)), (by (with_reducible repeat (first | apply r1 | apply r2 | apply r3)); exact Kd.R_mono HO483.out (fun _ hk => ⟨hk.2, ⟨hk.1.1.2, hk.1.2⟩⟩)), (by (with_reducible repeat (first | apply r1 | apply r2 | apply r3)); exact Kd.R_mono HO_5.out (fun _ hk => ⟨hk.1.2, ⟨hk.2, hk.1.1⟩⟩)), (by (with_reducible repeat (first | apply r1 | apply r2 | apply r3)); exact Kd.R_mono HO_8.out (fun _ hk => ⟨hk.1.2, ⟨hk.2, hk.1.1⟩⟩)), (BQ BK395.out), (BQ BK424.out), (BQ BK453.out), (BQ BK495.out), GW495.out, GE495.out, NB395_495.out, NB495_395.out, NB424_495.out, NB495_424.out, NB453_495.out, NB495_453.out, (BL)⟩)
       ·
        skip
        refine box_step ?hg (N := 14) ?hd (cs := #[.int .i64 0, .int .i64 0, .int .i64 0, .int .i64 0, .int .i64 0, .int .i64 0, .int .i64 0, .int .i64 0, .int .i64 0, .bool false, .int .i64 0]) (t := 46) ?hr ?_; (case hd => rfl); (case hg => rfl); (case hr => first | (go_simp; done) | (go_simp; rfl))
        intro gb495 hg w90 hbox hb
        have n0_ := Aside0.mk (Kd.R_below (RQ HO_5.out) hb)
        have n1_ := Aside0.mk (Kd.R_below (RQ HO_8.out) hb)
        have n2_ := Aside0.mk (Kd.R_below (RQ HO469.out) hb)
        have n3_ := BB BK395.out hb
        have n4_ := BB BK424.out hb
        have n5_ := BB BK453.out hb
        have n6_ := Aside0.mk (below_step (BL) hb)
        have n7_ := Aside0.mk (hbox)
        have n8_ : Aside0 (w.heap.size ≤ gb495) := GS
        have n9_ : Aside0 (w.heap.size ≤ gb495) := GS
        have n10_ := NL BK395.out hg
        have n11_ := NG BK395.out hg
        have n12_ := NL BK424.out hg
        have n13_ := NG BK424.out hg
        have n14_ := NL BK453.out hg
        have n15_ := NG BK453.out hg
        clear HO_5
        clear HO_8
        clear HO469
        clear BK395
        clear BK424
        clear BK453
        clear HB
        have HO_5 := n0_
        have HO_8 := n1_
        have HO469 := n2_
        have BK395 := n3_
        have BK424 := n4_
        have BK453 := n5_
        have HB := n6_
        have BK495 := n7_
        have GW495 := n8_
        have GE495 := n9_
        have NB395_495 := n10_
        have NB495_395 := n11_
        have NB424_495 := n12_
        have NB495_424 := n13_
        have NB453_495 := n14_
        have NB495_453 := n15_
        clear n0_ n1_ n2_ n3_ n4_ n5_ n6_ n7_ n8_ n9_ n10_ n11_ n12_ n13_ n14_ n15_
        clear hb hbox hg
        refine hK.out _ _ ⟨CZ BK395.out 0, CZ BK395.out 1, CZ BK395.out 2, CZ BK395.out 3, CZ BK395.out 4, CZ BK395.out 5, CZ BK395.out 6, CZ BK395.out 7, CZ BK395.out 8, CZ BK395.out 9, CZ BK395.out 10⟩ (fun hHeld => ?_)
        clear hK K
        refine norm_ (a' := ?_) ?_ ?_
        rotate_left
        ·
         show Act.put _ (some 14) _ = _
         simp only [Act.put, zA, zB, zC, i64_w, i32_w]
         rfl
        refine one_ (i := 3) (N := some 82) (OB 11 271) rfl rfl (one_of HT_.out (by kernel_rfl)) (by decide) (fun K hK => ?_)
        refine goes_ Try.func38 (by kernel_rfl) rfl #[.agg #[.int .i64 a1_0, .int .i64 a1_1, .int .i64 a1_2, .int .i64 a1_3, .int .i64 a1_4, .int .i64 a1_5, .int .i64 a1_6, .int .i64 a1_7, .int .i64 a1_8, .bool a1_9, .int .i64 a1_10]] (by rfl) rfl rfl (MA) ?_
        with_reducible refine (laws_toTask.calls a1_0 a1_1 a1_2 a1_3 a1_4 a1_5 a1_6 a1_7 a1_8 a1_9 a1_10 t470 t471 t472 t473 t474 t475 t476 t477 t478 t479 t480 _ A83.out).mono ?_
        rintro e w91 ⟨rfl, hb⟩
        refine ⟨_, rfl, ?_⟩
        have n0_ := Aside0.mk (Kd.R_below (RQ HO_5.out) hb)
        have n1_ := Aside0.mk (Kd.R_below (RQ HO_8.out) hb)
        have n2_ := Aside0.mk (Kd.R_below (RQ HO469.out) hb)
        have n3_ := BB BK395.out hb
        have n4_ := BB BK424.out hb
        have n5_ := BB BK453.out hb
        have n6_ := BB BK495.out hb
        have n7_ := Aside0.mk (below_step (BL) hb)
        clear HO_5
        clear HO_8
        clear HO469
        clear BK395
        clear BK424
        clear BK453
        clear BK495
        clear HB
        have HO_5 := n0_
        have HO_8 := n1_
        have HO469 := n2_
        have BK395 := n3_
        have BK424 := n4_
        have BK453 := n5_
        have BK495 := n6_
        have HB := n7_
        clear n0_ n1_ n2_ n3_ n4_ n5_ n6_ n7_
        (try clear hb)
        (try clear hb2)
        (try clear hk)
        (try clear hi)
        obtain ⟨Ao92, co92, eo92⟩ := Kd.R_slice HO469.out
        (first | subst eo92 | (injection eo92 with f1_ f2_ f3_; have f4_ := f1_.symm; have f5_ := f3_.symm; clear f1_ f2_ f3_; subst f4_; subst f5_))
        refine hK.out _ _ ⟨CZ BK395.out 0, CZ BK395.out 1, CZ BK395.out 2, CZ BK395.out 3, CZ BK395.out 4, CZ BK395.out 5, CZ BK395.out 6, CZ BK395.out 7, CZ BK395.out 8, CZ BK395.out 9, CZ BK395.out 10⟩ (fun hHeld => ?_)
        clear hK K
        refine norm_ (a' := ?_) ?_ ?_
        rotate_left
        ·
         show Act.put _ (some 82) _ = _
         simp only [Act.put, zA, zB, zC, i64_w, i32_w]
         rfl
        refine one_ (i := 4) (N := some 83) (OB 11 287) rfl rfl (one_of HT_.out (by kernel_rfl)) (by decide) (fun K hK => ?_)
        refine goes_ Try.func39 (by kernel_rfl) rfl #[.slice Ao92 t467.length co92, .agg #[.int .i64 t470, .int .i64 t471, .int .i64 t472, .int .i64 t473, .int .i64 t474, .int .i64 t475, .int .i64 t476, .int .i64 t477, .int .i64 t478, .bool t479, .int .i64 t480]] (by rfl) rfl rfl (MA) ?_
        with_reducible refine (impl_StepTask.calls kj58 _ _ t467 t470 t471 t472 t473 t474 t475 t476 t477 t478 t479 t480 t481 t484 t485 t486 t487 t488 t489 t490 t491 t492 t493 t494 _ ?side1 ?side2 A84.out).mono ?_
        (case side1 => repeat (first | exact (Kd.R_reads' HO469.out).2.2 | (with_reducible refine Kd.C_alloc ?_ _) | (with_reducible refine Kd.C_drewN ?_ _) | (with_reducible refine Kd.C_drew ?_)))
        (case side2 => exact (Kd.R_reads' HO469.out).2.1)
        rintro e w93 ⟨v482, rfl, ho0, hb⟩
        refine ⟨_, rfl, ?_⟩
        have n0_ := Aside0.mk (Kd.R_elder' (RQ HO_5.out) (Kd.R_base ho0) hb)
        have n1_ := Aside0.mk (Kd.R_elder' (RQ HO_8.out) (Kd.R_base ho0) hb)
        have n2_ := Aside0.mk (Kd.R_elder' (RQ HO469.out) (Kd.R_base ho0) hb)
        have n3_ := Aside0.mk (Kd.R_lower (Kd.R_new' (Kd.R_new' (Kd.R_new' ho0 (Kd.R_lt (RQ HO_5.out))) (Kd.R_lt (RQ HO_8.out))) (Kd.R_lt (RQ HO469.out))) (below_size (BL)))
        have n4_ := BB BK395.out hb
        have n5_ := BB BK424.out hb
        have n6_ := BB BK453.out hb
        have n7_ := BB BK495.out hb
        have n8_ := Aside0.mk (below_step (BL) hb)
        clear HO_5
        clear HO_8
        clear HO469
        clear BK395
        clear BK424
        clear BK453
        clear BK495
        clear HB
        have HO_5 := n0_
        have HO_8 := n1_
        have HO469 := n2_
        have HO483 := n3_
        have BK395 := n4_
        have BK424 := n5_
        have BK453 := n6_
        have BK495 := n7_
        have HB := n8_
        clear n0_ n1_ n2_ n3_ n4_ n5_ n6_ n7_ n8_
        (try clear hb)
        (try clear hb2)
        (try clear hk)
        (try clear hi)
        (try clear ho0)
        refine hK.out _ _ ⟨CZ BK395.out 0, CZ BK395.out 1, CZ BK395.out 2, CZ BK395.out 3, CZ BK395.out 4, CZ BK395.out 5, CZ BK395.out 6, CZ BK395.out 7, CZ BK395.out 8, CZ BK395.out 9, CZ BK395.out 10⟩ (fun hHeld => ?_)
        clear hK K
        refine norm_ (a' := ?_) ?_ ?_
        rotate_left
        ·
         show Act.put _ (some 83) _ = _
         simp only [Act.put, zA, zB, zC, i64_w, i32_w]
         rfl
        refine pV 5 78 (OB 11 319) ?_
        refine pV 6 84 (OB 11 383) ?_
        refine pV 7 85 (OB 11 511) ?_
        exact norm_ (by simp only [putAll, Act.put, zA, zB, zC]) (hCont (.slice Ao92 t467.length co92, v482, gb495) _ ⟨hHeld, (by (with_reducible repeat (first | apply r1 | apply r2 | apply r3)); exact Kd.R_mono HO469.out (fun _ hk => ⟨hk.2, ⟨hk.1.1.2, hk.1.2⟩⟩)), (by (with_reducible repeat (first | apply r1 | apply r2 | apply r3)); exact Kd.R_mono HO483.out (fun _ hk => ⟨hk.2, ⟨hk.1.1.2, hk.1.2⟩⟩)), (by (with_reducible repeat (first | apply r1 | apply r2 | apply r3)); exact Kd.R_mono HO_5.out (fun _ hk => ⟨hk.1.2, ⟨hk.2, hk.1.1⟩⟩)), (by (with_reducible repeat (first | apply r1 | apply r2 | apply r3)); exact Kd.R_mono HO_8.out (fun _ hk => ⟨hk.1.2, ⟨hk.2, hk.1.1⟩⟩)), (BQ BK395.out), (BQ BK424.out), (BQ BK453.out), (BQ BK495.out), GW495.out, GE495.out, NB395_495.out, NB495_395.out, NB424_495.out, NB495_424.out, NB453_495.out, NB495_453.out, (BL)⟩)
      ·
       skip
       refine box_step ?hg (N := 14) ?hd (cs := #[.int .i64 0, .int .i64 0, .int .i64 0, .int .i64 0, .int .i64 0, .int .i64 0, .int .i64 0, .int .i64 0, .int .i64 0, .bool false, .int .i64 0]) (t := 46) ?hr ?_; (case hd => rfl); (case hg => rfl); (case hr => first | (go_simp; done) | (go_simp; rfl))
       intro gb495 hg w89 hbox hb
       have n0_ := Aside0.mk (Kd.R_below (RQ HO_5.out) hb)
       have n1_ := Aside0.mk (Kd.R_below (RQ HO_8.out) hb)
       have n2_ := BB BK395.out hb
       have n3_ := BB BK424.out hb
       have n4_ := BB BK453.out hb
       have n5_ := Aside0.mk (below_step (BL) hb)
       have n6_ := Aside0.mk (hbox)
       have n7_ : Aside0 (w.heap.size ≤ gb495) := GS
       have n8_ : Aside0 (w.heap.size ≤ gb495) := GS
       have n9_ := NL BK395.out hg
       have n10_ := NG BK395.out hg
       have n11_ := NL BK424.out hg
       have n12_ := NG BK424.out hg
       have n13_ := NL BK453.out hg
       have n14_ := NG BK453.out hg
       clear HO_5
       clear HO_8
       clear BK395
       clear BK424
       clear BK453
       clear HB
       have HO_5 := n0_
       have HO_8 := n1_
       have BK395 := n2_
       have BK424 := n3_
       have BK453 := n4_
       have HB := n5_
       have BK495 := n6_
       have GW495 := n7_
       have GE495 := n8_
       have NB395_495 := n9_
       have NB495_395 := n10_
       have NB424_495 := n11_
       have NB495_424 := n12_
       have NB453_495 := n13_
       have NB495_453 := n14_
       clear n0_ n1_ n2_ n3_ n4_ n5_ n6_ n7_ n8_ n9_ n10_ n11_ n12_ n13_ n14_
       clear hb hbox hg
       refine hK.out _ _ ⟨CZ BK395.out 0, CZ BK395.out 1, CZ BK395.out 2, CZ BK395.out 3, CZ BK395.out 4, CZ BK395.out 5, CZ BK395.out 6, CZ BK395.out 7, CZ BK395.out 8, CZ BK395.out 9, CZ BK395.out 10⟩ (fun hHeld => ?_)
       clear hK K
       refine norm_ (a' := ?_) ?_ ?_
       rotate_left
       ·
        show Act.put _ (some 14) _ = _
        simp only [Act.put, zA, zB, zC, i64_w, i32_w]
        rfl
       refine one_ (i := 1) (N := some 80) (OB 11 263) rfl rfl (one_of HT_.out (by kernel_rfl)) (by decide) (fun K hK => ?_)
       refine goes_ Try.func14 (by kernel_rfl) rfl #[.slice A0 l0.length c0] (by rfl) rfl rfl (MA) ?_
       with_reducible refine (laws_toIntS.calls kj58 _ _ l0 t467 _ ?side1 ?side2 A82.out).mono ?_
       (case side1 => repeat (first | exact (Kd.C_below HR0.out HB.out) | (with_reducible refine Kd.C_alloc ?_ _) | (with_reducible refine Kd.C_drewN ?_ _) | (with_reducible refine Kd.C_drew ?_)))
       (case side2 => exact HC0.out)
       rintro e w90 ⟨v468, rfl, ho0, hb⟩
       refine ⟨_, rfl, ?_⟩
       have n0_ := Aside0.mk (Kd.R_elder' (RQ HO_5.out) (Kd.R_base ho0) hb)
       have n1_ := Aside0.mk (Kd.R_elder' (RQ HO_8.out) (Kd.R_base ho0) hb)
       have n2_ := Aside0.mk (Kd.R_lower (Kd.R_new' (Kd.R_new' ho0 (Kd.R_lt (RQ HO_5.out))) (Kd.R_lt (RQ HO_8.out))) (below_size (BL)))
       have n3_ := BB BK395.out hb
       have n4_ := BB BK424.out hb
       have n5_ := BB BK453.out hb
       have n6_ := BB BK495.out hb
       have n7_ := Aside0.mk (below_step (BL) hb)
       clear HO_5
       clear HO_8
       clear BK395
       clear BK424
       clear BK453
       clear BK495
       clear HB
       have HO_5 := n0_
       have HO_8 := n1_
       have HO469 := n2_
       have BK395 := n3_
       have BK424 := n4_
       have BK453 := n5_
       have BK495 := n6_
       have HB := n7_
       clear n0_ n1_ n2_ n3_ n4_ n5_ n6_ n7_
       (try clear hb)
       (try clear hb2)
       (try clear hk)
       (try clear hi)
       (try clear ho0)
       refine hK.out _ _ ⟨CZ BK395.out 0, CZ BK395.out 1, CZ BK395.out 2, CZ BK395.out 3, CZ BK395.out 4, CZ BK395.out 5, CZ BK395.out 6, CZ BK395.out 7, CZ BK395.out 8, CZ BK395.out 9, CZ BK395.out 10⟩ (fun hHeld => ?_)
       clear hK K
       refine norm_ (a' := ?_) ?_ ?_
       rotate_left
       ·
        show Act.put _ (some 80) _ = _
        simp only [Act.put, zA, zB, zC, i64_w, i32_w]
        rfl
       refine one_ (i := 3) (N := some 82) (OB 11 271) rfl rfl (one_of HT_.out (by kernel_rfl)) (by decide) (fun K hK => ?_)
       refine goes_ Try.func38 (by kernel_rfl) rfl #[.agg #[.int .i64 a1_0, .int .i64 a1_1, .int .i64 a1_2, .int .i64 a1_3, .int .i64 a1_4, .int .i64 a1_5, .int .i64 a1_6, .int .i64 a1_7, .int .i64 a1_8, .bool a1_9, .int .i64 a1_10]] (by rfl) rfl rfl (MA) ?_
       with_reducible refine (laws_toTask.calls a1_0 a1_1 a1_2 a1_3 a1_4 a1_5 a1_6 a1_7 a1_8 a1_9 a1_10 t470 t471 t472 t473 t474 t475 t476 t477 t478 t479 t480 _ A83.out).mono ?_
       rintro e w91 ⟨rfl, hb⟩
       refine ⟨_, rfl, ?_⟩
       have n0_ := Aside0.mk (Kd.R_below (RQ HO_5.out) hb)
       have n1_ := Aside0.mk (Kd.R_below (RQ HO_8.out) hb)
       have n2_ := Aside0.mk (Kd.R_below (RQ HO469.out) hb)
       have n3_ := BB BK395.out hb
       have n4_ := BB BK424.out hb
       have n5_ := BB BK453.out hb
       have n6_ := BB BK495.out hb
       have n7_ := Aside0.mk (below_step (BL) hb)
       clear HO_5
       clear HO_8
       clear HO469
       clear BK395
       clear BK424
       clear BK453
       clear BK495
       clear HB
       have HO_5 := n0_
       have HO_8 := n1_
       have HO469 := n2_
       have BK395 := n3_
       have BK424 := n4_
       have BK453 := n5_
       have BK495 := n6_
       have HB := n7_
       clear n0_ n1_ n2_ n3_ n4_ n5_ n6_ n7_
       (try clear hb)
       (try clear hb2)
       (try clear hk)
       (try clear hi)
       obtain ⟨Ao92, co92, eo92⟩ := Kd.R_slice HO469.out
       (first | subst eo92 | (injection eo92 with f1_ f2_ f3_; have f4_ := f1_.symm; have f5_ := f3_.symm; clear f1_ f2_ f3_; subst f4_; subst f5_))
       refine hK.out _ _ ⟨CZ BK395.out 0, CZ BK395.out 1, CZ BK395.out 2, CZ BK395.out 3, CZ BK395.out 4, CZ BK395.out 5, CZ BK395.out 6, CZ BK395.out 7, CZ BK395.out 8, CZ BK395.out 9, CZ BK395.out 10⟩ (fun hHeld => ?_)
       clear hK K
       refine norm_ (a' := ?_) ?_ ?_
       rotate_left
       ·
        show Act.put _ (some 82) _ = _
        simp only [Act.put, zA, zB, zC, i64_w, i32_w]
        rfl
       refine one_ (i := 4) (N := some 83) (OB 11 287) rfl rfl (one_of HT_.out (by kernel_rfl)) (by decide) (fun K hK => ?_)
       refine goes_ Try.func39 (by kernel_rfl) rfl #[.slice Ao92 t467.length co92, .agg #[.int .i64 t470, .int .i64 t471, .int .i64 t472, .int .i64 t473, .int .i64 t474, .int .i64 t475, .int .i64 t476, .int .i64 t477, .int .i64 t478, .bool t479, .int .i64 t480]] (by rfl) rfl rfl (MA) ?_
       with_reducible refine (impl_StepTask.calls kj58 _ _ t467 t470 t471 t472 t473 t474 t475 t476 t477 t478 t479 t480 t481 t484 t485 t486 t487 t488 t489 t490 t491 t492 t493 t494 _ ?side1 ?side2 A84.out).mono ?_
       (case side1 => repeat (first | exact (Kd.R_reads' HO469.out).2.2 | (with_reducible refine Kd.C_alloc ?_ _) | (with_reducible refine Kd.C_drewN ?_ _) | (with_reducible refine Kd.C_drew ?_)))
       (case side2 => exact (Kd.R_reads' HO469.out).2.1)
       rintro e w93 ⟨v482, rfl, ho0, hb⟩
       refine ⟨_, rfl, ?_⟩
       have n0_ := Aside0.mk (Kd.R_elder' (RQ HO_5.out) (Kd.R_base ho0) hb)
       have n1_ := Aside0.mk (Kd.R_elder' (RQ HO_8.out) (Kd.R_base ho0) hb)
       have n2_ := Aside0.mk (Kd.R_elder' (RQ HO469.out) (Kd.R_base ho0) hb)
       have n3_ := Aside0.mk (Kd.R_lower (Kd.R_new' (Kd.R_new' (Kd.R_new' ho0 (Kd.R_lt (RQ HO_5.out))) (Kd.R_lt (RQ HO_8.out))) (Kd.R_lt (RQ HO469.out))) (below_size (BL)))
       have n4_ := BB BK395.out hb
       have n5_ := BB BK424.out hb
       have n6_ := BB BK453.out hb
       have n7_ := BB BK495.out hb
       have n8_ := Aside0.mk (below_step (BL) hb)
       clear HO_5
       clear HO_8
       clear HO469
       clear BK395
       clear BK424
       clear BK453
       clear BK495
       clear HB
       have HO_5 := n0_
       have HO_8 := n1_
       have HO469 := n2_
       have HO483 := n3_
       have BK395 := n4_
       have BK424 := n5_
       have BK453 := n6_
       have BK495 := n7_
       have HB := n8_
       clear n0_ n1_ n2_ n3_ n4_ n5_ n6_ n7_ n8_
       (try clear hb)
       (try clear hb2)
       (try clear hk)
       (try clear hi)
       (try clear ho0)
       refine hK.out _ _ ⟨CZ BK395.out 0, CZ BK395.out 1, CZ BK395.out 2, CZ BK395.out 3, CZ BK395.out 4, CZ BK395.out 5, CZ BK395.out 6, CZ BK395.out 7, CZ BK395.out 8, CZ BK395.out 9, CZ BK395.out 10⟩ (fun hHeld => ?_)
       clear hK K
       refine norm_ (a' := ?_) ?_ ?_
       rotate_left
       ·
        show Act.put _ (some 83) _ = _
        simp only [Act.put, zA, zB, zC, i64_w, i32_w]
        rfl
       refine pV 5 78 (OB 11 319) ?_
       refine pV 6 84 (OB 11 383) ?_
       refine pV 7 85 (OB 11 511) ?_
       exact norm_ (by simp only [putAll, Act.put, zA, zB, zC]) (hCont (.slice Ao92 t467.length co92, v482, gb495) _ ⟨hHeld, (by (with_reducible repeat (first | apply r1 | apply r2 | apply r3)); exact Kd.R_mono HO469.out (fun _ hk => ⟨hk.2, ⟨hk.1.1.2, hk.1.2⟩⟩)), (by (with_reducible repeat (first | apply r1 | apply r2 | apply r3)); exact Kd.R_mono HO483.out (fun _ hk => ⟨hk.2, ⟨hk.1.1.2, hk.1.2⟩⟩)), (by (with_reducible repeat (first | apply r1 | apply r2 | apply r3)); exact Kd.R_mono HO_5.out (fun _ hk => ⟨hk.1.2, ⟨hk.2, hk.1.1⟩⟩)), (by (with_reducible repeat (first | apply r1 | apply r2 | apply r3)); exact Kd.R_mono HO_8.out (fun _ hk => ⟨hk.1.2, ⟨hk.2, hk.1.1⟩⟩)), (BQ BK395.out), (BQ BK424.out), (BQ BK453.out), (BQ BK495.out), GW495.out, GE495.out, NB395_495.out, NB495_395.out, NB424_495.out, NB495_424.out, NB453_495.out, NB495_453.out, (BL)⟩)
     rintro ⟨v468, v482, gb495⟩ w94 ⟨hS_, h0_, h1_, h2_, h3_, h4_, h5_, h6_, h7_, h8_, h9_, h10_, h11_, h12_, h13_, h14_, h15_, h16_⟩
     have n0_ : Aside0 (Kd.R (Kd.int .i64) 3 w94 w.heap.size (fun k_ => some k_ ≠ (v482 : Value).ownBlock ∧ some k_ ≠ (v411 : Value).ownBlock ∧ some k_ ≠ (.slice Ao86 t439.length co86 : Value).ownBlock) v468 t467) := ⟨h0_⟩
     have n1_ : Aside0 (Kd.R (Kd.int .i64) 3 w94 w.heap.size (fun k_ => some k_ ≠ (v468 : Value).ownBlock ∧ some k_ ≠ (v411 : Value).ownBlock ∧ some k_ ≠ (.slice Ao86 t439.length co86 : Value).ownBlock) v482 t481) := ⟨h1_⟩
     have n2_ : Aside0 (Kd.R (Kd.int .i64) 3 w94 w.heap.size (fun k_ => some k_ ≠ (v468 : Value).ownBlock ∧ some k_ ≠ (v482 : Value).ownBlock ∧ some k_ ≠ (.slice Ao86 t439.length co86 : Value).ownBlock) v411 t410) := ⟨h2_⟩
     have n3_ : Aside0 (Kd.R (Kd.int .i64) 3 w94 w.heap.size (fun k_ => some k_ ≠ (v468 : Value).ownBlock ∧ some k_ ≠ (v482 : Value).ownBlock ∧ some k_ ≠ (v411 : Value).ownBlock) (.slice Ao86 t439.length co86) t465) := ⟨h3_⟩
     have n4_ : Aside0 (w94.heap[gb395]? = some (.cells #[.int .i64 a1_0, .int .i64 a1_1, .int .i64 a1_2, .int .i64 a1_3, .int .i64 a1_4, .int .i64 a1_5, .int .i64 a1_6, .int .i64 a1_7, .int .i64 a1_8, .bool a1_9, .int .i64 a1_10] 45 (0, 0))) := ⟨h4_⟩
     have n5_ : Aside0 (w94.heap[gb424]? = some (.cells #[.int .i64 t413, .int .i64 t414, .int .i64 t415, .int .i64 t416, .int .i64 t417, .int .i64 t418, .int .i64 t419, .int .i64 t420, .int .i64 t421, .bool t422, .int .i64 t423] 46 (0, 0))) := ⟨h5_⟩
     have n6_ : Aside0 (w94.heap[gb453]? = some (.cells #[.int .i64 t442, .int .i64 t443, .int .i64 t444, .int .i64 t445, .int .i64 t446, .int .i64 t447, .int .i64 t448, .int .i64 t449, .int .i64 t450, .bool t451, .int .i64 t452] 46 (0, 0))) := ⟨h6_⟩
     have n7_ : Aside0 (w94.heap[gb495]? = some (.cells #[.int .i64 0, .int .i64 0, .int .i64 0, .int .i64 0, .int .i64 0, .int .i64 0, .int .i64 0, .int .i64 0, .int .i64 0, .bool false, .int .i64 0] 46 (0, 0))) := ⟨h7_⟩
     have n8_ : Aside0 (w.heap.size ≤ gb495) := ⟨h8_⟩
     have n9_ : Aside0 (w.heap.size ≤ gb495) := ⟨h9_⟩
     have n10_ : Aside0 (gb395 ≠ gb495) := ⟨h10_⟩
     have n11_ : Aside0 (gb495 ≠ gb395) := ⟨h11_⟩
     have n12_ : Aside0 (gb424 ≠ gb495) := ⟨h12_⟩
     have n13_ : Aside0 (gb495 ≠ gb424) := ⟨h13_⟩
     have n14_ : Aside0 (gb453 ≠ gb495) := ⟨h14_⟩
     have n15_ : Aside0 (gb495 ≠ gb453) := ⟨h15_⟩
     have n16_ : Aside0 (Below w.heap.size w w94) := ⟨h16_⟩
     clear HO_5
     clear HO_8
     clear BK395
     clear BK424
     clear BK453
     clear HB
     clear h0_ h1_ h2_ h3_ h4_ h5_ h6_ h7_ h8_ h9_ h10_ h11_ h12_ h13_ h14_ h15_ h16_
     have HO469 := n0_
     have HO483 := n1_
     have HO_5 := n2_
     have HO_8 := n3_
     have BK395 := n4_
     have BK424 := n5_
     have BK453 := n6_
     have BK495 := n7_
     have GW495 := n8_
     have GE495 := n9_
     have NB395_495 := n10_
     have NB495_395 := n11_
     have NB424_495 := n12_
     have NB495_424 := n13_
     have NB453_495 := n14_
     have NB495_453 := n15_
     have HB := n16_
     clear n0_ n1_ n2_ n3_ n4_ n5_ n6_ n7_ n8_ n9_ n10_ n11_ n12_ n13_ n14_ n15_ n16_
     have hHeld : w94.cell? ⟨gb395, 0, none⟩ = some (.int .i64 a1_0) ∧ w94.cell? ⟨gb395, 1, none⟩ = some (.int .i64 a1_1) ∧ w94.cell? ⟨gb395, 2, none⟩ = some (.int .i64 a1_2) ∧ w94.cell? ⟨gb395, 3, none⟩ = some (.int .i64 a1_3) ∧ w94.cell? ⟨gb395, 4, none⟩ = some (.int .i64 a1_4) ∧ w94.cell? ⟨gb395, 5, none⟩ = some (.int .i64 a1_5) ∧ w94.cell? ⟨gb395, 6, none⟩ = some (.int .i64 a1_6) ∧ w94.cell? ⟨gb395, 7, none⟩ = some (.int .i64 a1_7) ∧ w94.cell? ⟨gb395, 8, none⟩ = some (.int .i64 a1_8) ∧ w94.cell? ⟨gb395, 9, none⟩ = some (.bool a1_9) ∧ w94.cell? ⟨gb395, 10, none⟩ = some (.int .i64 a1_10) := hS_
     refine norm_ (a' := ?_) ?_ ?_
     rotate_left
     ·
      simp only [putAll, Act.put, zA, zB, zC]
      rfl
     refine pV 9 13 (OB 11 1023) ?_
     refine one_ (i := 10) (N := none) (OB 11 2047) rfl rfl (one_of HT_.out (by kernel_rfl)) (by decide) (fun K hK => ?_)
     have hs95 : w94.cell? ⟨gb495, 0, none⟩ = some (.int .i64 0) := CZ BK495.out 0
     have hfs95 := blk_frozen BK495.out 0
     have hns95_0 := NB395_495.out
     have hns95_1 := NB424_495.out
     have hns95_2 := NB453_495.out
     have hms95_0 := NB495_395.out
     have hms95_1 := NB495_424.out
     have hms95_2 := NB495_453.out
     have hs96 : w94.cell? ⟨gb495, 1, none⟩ = some (.int .i64 0) := CZ BK495.out 1
     have hfs96 := blk_frozen BK495.out 1
     have hns96_0 := NB395_495.out
     have hns96_1 := NB424_495.out
     have hns96_2 := NB453_495.out
     have hms96_0 := NB495_395.out
     have hms96_1 := NB495_424.out
     have hms96_2 := NB495_453.out
     have hs97 : w94.cell? ⟨gb495, 2, none⟩ = some (.int .i64 0) := CZ BK495.out 2
     have hfs97 := blk_frozen BK495.out 2
     have hns97_0 := NB395_495.out
     have hns97_1 := NB424_495.out
     have hns97_2 := NB453_495.out
     have hms97_0 := NB495_395.out
     have hms97_1 := NB495_424.out
     have hms97_2 := NB495_453.out
     have hs98 : w94.cell? ⟨gb495, 3, none⟩ = some (.int .i64 0) := CZ BK495.out 3
     have hfs98 := blk_frozen BK495.out 3
     have hns98_0 := NB395_495.out
     have hns98_1 := NB424_495.out
     have hns98_2 := NB453_495.out
     have hms98_0 := NB495_395.out
     have hms98_1 := NB495_424.out
     have hms98_2 := NB495_453.out
     have hs99 : w94.cell? ⟨gb495, 4, none⟩ = some (.int .i64 0) := CZ BK495.out 4
     have hfs99 := blk_frozen BK495.out 4
     have hns99_0 := NB395_495.out
     have hns99_1 := NB424_495.out
     have hns99_2 := NB453_495.out
     have hms99_0 := NB495_395.out
     have hms99_1 := NB495_424.out
     have hms99_2 := NB495_453.out
     have hs100 : w94.cell? ⟨gb495, 5, none⟩ = some (.int .i64 0) := CZ BK495.out 5
     have hfs100 := blk_frozen BK495.out 5
     have hns100_0 := NB395_495.out
     have hns100_1 := NB424_495.out
     have hns100_2 := NB453_495.out
     have hms100_0 := NB495_395.out
     have hms100_1 := NB495_424.out
     have hms100_2 := NB495_453.out
     have hs101 : w94.cell? ⟨gb495, 6, none⟩ = some (.int .i64 0) := CZ BK495.out 6
     have hfs101 := blk_frozen BK495.out 6
     have hns101_0 := NB395_495.out
     have hns101_1 := NB424_495.out
     have hns101_2 := NB453_495.out
     have hms101_0 := NB495_395.out
     have hms101_1 := NB495_424.out
     have hms101_2 := NB495_453.out
     have hs102 : w94.cell? ⟨gb495, 7, none⟩ = some (.int .i64 0) := CZ BK495.out 7
     have hfs102 := blk_frozen BK495.out 7
     have hns102_0 := NB395_495.out
     have hns102_1 := NB424_495.out
     have hns102_2 := NB453_495.out
     have hms102_0 := NB495_395.out
     have hms102_1 := NB495_424.out
     have hms102_2 := NB495_453.out
     have hs103 : w94.cell? ⟨gb495, 8, none⟩ = some (.int .i64 0) := CZ BK495.out 8
     have hfs103 := blk_frozen BK495.out 8
     have hns103_0 := NB395_495.out
     have hns103_1 := NB424_495.out
     have hns103_2 := NB453_495.out
     have hms103_0 := NB495_395.out
     have hms103_1 := NB495_424.out
     have hms103_2 := NB495_453.out
     have hs104 : w94.cell? ⟨gb495, 9, none⟩ = some (.bool false) := CZ BK495.out 9
     have hfs104 := blk_frozen BK495.out 9
     have hns104_0 := NB395_495.out
     have hns104_1 := NB424_495.out
     have hns104_2 := NB453_495.out
     have hms104_0 := NB495_395.out
     have hms104_1 := NB495_424.out
     have hms104_2 := NB495_453.out
     have hs105 : w94.cell? ⟨gb495, 10, none⟩ = some (.int .i64 0) := CZ BK495.out 10
     have hfs105 := blk_frozen BK495.out 10
     have hns105_0 := NB395_495.out
     have hns105_1 := NB424_495.out
     have hns105_2 := NB453_495.out
     have hms105_0 := NB495_395.out
     have hms105_1 := NB495_424.out
     have hms105_2 := NB495_453.out
     refine skip_ (w1 := ?_) (by rfl) rfl ?_ ?_
     rotate_left
     ·
      go_simp
      rfl
     refine hK.out _ _ ⟨((cell_far (p := ⟨gb495, _, none⟩) NB395_495.out _).trans (((cell_far (p := ⟨gb495, _, none⟩) NB395_495.out _).trans (((cell_far (p := ⟨gb495, _, none⟩) NB395_495.out _).trans (((cell_far (p := ⟨gb495, _, none⟩) NB395_495.out _).trans (((cell_far (p := ⟨gb495, _, none⟩) NB395_495.out _).trans (((cell_far (p := ⟨gb495, _, none⟩) NB395_495.out _).trans (((cell_far (p := ⟨gb495, _, none⟩) NB395_495.out _).trans (((cell_far (p := ⟨gb495, _, none⟩) NB395_495.out _).trans (((cell_far (p := ⟨gb495, _, none⟩) NB395_495.out _).trans (((cell_far (p := ⟨gb495, _, none⟩) NB395_495.out _).trans (((cell_far (p := ⟨gb495, _, none⟩) NB395_495.out _).trans (hHeld.1)))))))))))))))))))))), ((cell_far (p := ⟨gb495, _, none⟩) NB395_495.out _).trans (((cell_far (p := ⟨gb495, _, none⟩) NB395_495.out _).trans (((cell_far (p := ⟨gb495, _, none⟩) NB395_495.out _).trans (((cell_far (p := ⟨gb495, _, none⟩) NB395_495.out _).trans (((cell_far (p := ⟨gb495, _, none⟩) NB395_495.out _).trans (((cell_far (p := ⟨gb495, _, none⟩) NB395_495.out _).trans (((cell_far (p := ⟨gb495, _, none⟩) NB395_495.out _).trans (((cell_far (p := ⟨gb495, _, none⟩) NB395_495.out _).trans (((cell_far (p := ⟨gb495, _, none⟩) NB395_495.out _).trans (((cell_far (p := ⟨gb495, _, none⟩) NB395_495.out _).trans (((cell_far (p := ⟨gb495, _, none⟩) NB395_495.out _).trans (hHeld.2.1)))))))))))))))))))))), ((cell_far (p := ⟨gb495, _, none⟩) NB395_495.out _).trans (((cell_far (p := ⟨gb495, _, none⟩) NB395_495.out _).trans (((cell_far (p := ⟨gb495, _, none⟩) NB395_495.out _).trans (((cell_far (p := ⟨gb495, _, none⟩) NB395_495.out _).trans (((cell_far (p := ⟨gb495, _, none⟩) NB395_495.out _).trans (((cell_far (p := ⟨gb495, _, none⟩) NB395_495.out _).trans (((cell_far (p := ⟨gb495, _, none⟩) NB395_495.out _).trans (((cell_far (p := ⟨gb495, _, none⟩) NB395_495.out _).trans (((cell_far (p := ⟨gb495, _, none⟩) NB395_495.out _).trans (((cell_far (p := ⟨gb495, _, none⟩) NB395_495.out _).trans (((cell_far (p := ⟨gb495, _, none⟩) NB395_495.out _).trans (hHeld.2.2.1)))))))))))))))))))))), ((cell_far (p := ⟨gb495, _, none⟩) NB395_495.out _).trans (((cell_far (p := ⟨gb495, _, none⟩) NB395_495.out _).trans (((cell_far (p := ⟨gb495, _, none⟩) NB395_495.out _).trans (((cell_far (p := ⟨gb495, _, none⟩) NB395_495.out _).trans (((cell_far (p := ⟨gb495, _, none⟩) NB395_495.out _).trans (((cell_far (p := ⟨gb495, _, none⟩) NB395_495.out _).trans (((cell_far (p := ⟨gb495, _, none⟩) NB395_495.out _).trans (((cell_far (p := ⟨gb495, _, none⟩) NB395_495.out _).trans (((cell_far (p := ⟨gb495, _, none⟩) NB395_495.out _).trans (((cell_far (p := ⟨gb495, _, none⟩) NB395_495.out _).trans (((cell_far (p := ⟨gb495, _, none⟩) NB395_495.out _).trans (hHeld.2.2.2.1)))))))))))))))))))))), ((cell_far (p := ⟨gb495, _, none⟩) NB395_495.out _).trans (((cell_far (p := ⟨gb495, _, none⟩) NB395_495.out _).trans (((cell_far (p := ⟨gb495, _, none⟩) NB395_495.out _).trans (((cell_far (p := ⟨gb495, _, none⟩) NB395_495.out _).trans (((cell_far (p := ⟨gb495, _, none⟩) NB395_495.out _).trans (((cell_far (p := ⟨gb495, _, none⟩) NB395_495.out _).trans (((cell_far (p := ⟨gb495, _, none⟩) NB395_495.out _).trans (((cell_far (p := ⟨gb495, _, none⟩) NB395_495.out _).trans (((cell_far (p := ⟨gb495, _, none⟩) NB395_495.out _).trans (((cell_far (p := ⟨gb495, _, none⟩) NB395_495.out _).trans (((cell_far (p := ⟨gb495, _, none⟩) NB395_495.out _).trans (hHeld.2.2.2.2.1)))))))))))))))))))))), ((cell_far (p := ⟨gb495, _, none⟩) NB395_495.out _).trans (((cell_far (p := ⟨gb495, _, none⟩) NB395_495.out _).trans (((cell_far (p := ⟨gb495, _, none⟩) NB395_495.out _).trans (((cell_far (p := ⟨gb495, _, none⟩) NB395_495.out _).trans (((cell_far (p := ⟨gb495, _, none⟩) NB395_495.out _).trans (((cell_far (p := ⟨gb495, _, none⟩) NB395_495.out _).trans (((cell_far (p := ⟨gb495, _, none⟩) NB395_495.out _).trans (((cell_far (p := ⟨gb495, _, none⟩) NB395_495.out _).trans (((cell_far (p := ⟨gb495, _, none⟩) NB395_495.out _).trans (((cell_far (p := ⟨gb495, _, none⟩) NB395_495.out _).trans (((cell_far (p := ⟨gb495, _, none⟩) NB395_495.out _).trans (hHeld.2.2.2.2.2.1)))))))))))))))))))))), ((cell_far (p := ⟨gb495, _, none⟩) NB395_495.out _).trans (((cell_far (p := ⟨gb495, _, none⟩) NB395_495.out _).trans (((cell_far (p := ⟨gb495, _, none⟩) NB395_495.out _).trans (((cell_far (p := ⟨gb495, _, none⟩) NB395_495.out _).trans (((cell_far (p := ⟨gb495, _, none⟩) NB395_495.out _).trans (((cell_far (p := ⟨gb495, _, none⟩) NB395_495.out _).trans (((cell_far (p := ⟨gb495, _, none⟩) NB395_495.out _).trans (((cell_far (p := ⟨gb495, _, none⟩) NB395_495.out _).trans (((cell_far (p := ⟨gb495, _, none⟩) NB395_495.out _).trans (((cell_far (p := ⟨gb495, _, none⟩) NB395_495.out _).trans (((cell_far (p := ⟨gb495, _, none⟩) NB395_495.out _).trans (hHeld.2.2.2.2.2.2.1)))))))))))))))))))))), ((cell_far (p := ⟨gb495, _, none⟩) NB395_495.out _).trans (((cell_far (p := ⟨gb495, _, none⟩) NB395_495.out _).trans (((cell_far (p := ⟨gb495, _, none⟩) NB395_495.out _).trans (((cell_far (p := ⟨gb495, _, none⟩) NB395_495.out _).trans (((cell_far (p := ⟨gb495, _, none⟩) NB395_495.out _).trans (((cell_far (p := ⟨gb495, _, none⟩) NB395_495.out _).trans (((cell_far (p := ⟨gb495, _, none⟩) NB395_495.out _).trans (((cell_far (p := ⟨gb495, _, none⟩) NB395_495.out _).trans (((cell_far (p := ⟨gb495, _, none⟩) NB395_495.out _).trans (((cell_far (p := ⟨gb495, _, none⟩) NB395_495.out _).trans (((cell_far (p := ⟨gb495, _, none⟩) NB395_495.out _).trans (hHeld.2.2.2.2.2.2.2.1)))))))))))))))))))))), ((cell_far (p := ⟨gb495, _, none⟩) NB395_495.out _).trans (((cell_far (p := ⟨gb495, _, none⟩) NB395_495.out _).trans (((cell_far (p := ⟨gb495, _, none⟩) NB395_495.out _).trans (((cell_far (p := ⟨gb495, _, none⟩) NB395_495.out _).trans (((cell_far (p := ⟨gb495, _, none⟩) NB395_495.out _).trans (((cell_far (p := ⟨gb495, _, none⟩) NB395_495.out _).trans (((cell_far (p := ⟨gb495, _, none⟩) NB395_495.out _).trans (((cell_far (p := ⟨gb495, _, none⟩) NB395_495.out _).trans (((cell_far (p := ⟨gb495, _, none⟩) NB395_495.out _).trans (((cell_far (p := ⟨gb495, _, none⟩) NB395_495.out _).trans (((cell_far (p := ⟨gb495, _, none⟩) NB395_495.out _).trans (hHeld.2.2.2.2.2.2.2.2.1)))))))))))))))))))))), ((cell_far (p := ⟨gb495, _, none⟩) NB395_495.out _).trans (((cell_far (p := ⟨gb495, _, none⟩) NB395_495.out _).trans (((cell_far (p := ⟨gb495, _, none⟩) NB395_495.out _).trans (((cell_far (p := ⟨gb495, _, none⟩) NB395_495.out _).trans (((cell_far (p := ⟨gb495, _, none⟩) NB395_495.out _).trans (((cell_far (p := ⟨gb495, _, none⟩) NB395_495.out _).trans (((cell_far (p := ⟨gb495, _, none⟩) NB395_495.out _).trans (((cell_far (p := ⟨gb495, _, none⟩) NB395_495.out _).trans (((cell_far (p := ⟨gb495, _, none⟩) NB395_495.out _).trans (((cell_far (p := ⟨gb495, _, none⟩) NB395_495.out _).trans (((cell_far (p := ⟨gb495, _, none⟩) NB395_495.out _).trans (hHeld.2.2.2.2.2.2.2.2.2.1)))))))))))))))))))))), ((cell_far (p := ⟨gb495, _, none⟩) NB395_495.out _).trans (((cell_far (p := ⟨gb495, _, none⟩) NB395_495.out _).trans (((cell_far (p := ⟨gb495, _, none⟩) NB395_495.out _).trans (((cell_far (p := ⟨gb495, _, none⟩) NB395_495.out _).trans (((cell_far (p := ⟨gb495, _, none⟩) NB395_495.out _).trans (((cell_far (p := ⟨gb495, _, none⟩) NB395_495.out _).trans (((cell_far (p := ⟨gb495, _, none⟩) NB395_495.out _).trans (((cell_far (p := ⟨gb495, _, none⟩) NB395_495.out _).trans (((cell_far (p := ⟨gb495, _, none⟩) NB395_495.out _).trans (((cell_far (p := ⟨gb495, _, none⟩) NB395_495.out _).trans (((cell_far (p := ⟨gb495, _, none⟩) NB395_495.out _).trans (hHeld.2.2.2.2.2.2.2.2.2.2))))))))))))))))))))))⟩ (fun hHeld => ?_)
     clear hK K
     refine done_ (done_of HT_.out (by kernel_rfl)) ?_
     go_upto_region 23 with (fail)
     go_cut [95] (fun v95 wc => ∃ (kq : Nat) (x95_84 : Bool), v95 = .bool x95_84 ∧ Aside0 (laws_FnExactStepTask.j2 kq t465 t464 x95_84 = some r) ∧ Aside0 (kq ≤ kj58) ∧ Aside0 (Kd.R (Kd.int .i64) 3 wc w.heap.size (fun _ => True) (.slice Ao86 t439.length co86) t465) ∧ Aside0 (wc.heap[gb395]? = some (.cells #[.int .i64 a1_0, .int .i64 a1_1, .int .i64 a1_2, .int .i64 a1_3, .int .i64 a1_4, .int .i64 a1_5, .int .i64 a1_6, .int .i64 a1_7, .int .i64 a1_8, .bool a1_9, .int .i64 a1_10] 45 (0, 0))) ∧ Aside0 (wc.heap[gb424]? = some (.cells #[.int .i64 t413, .int .i64 t414, .int .i64 t415, .int .i64 t416, .int .i64 t417, .int .i64 t418, .int .i64 t419, .int .i64 t420, .int .i64 t421, .bool t422, .int .i64 t423] 46 (0, 0))) ∧ Aside0 (wc.heap[gb453]? = some (.cells #[.int .i64 t442, .int .i64 t443, .int .i64 t444, .int .i64 t445, .int .i64 t446, .int .i64 t447, .int .i64 t448, .int .i64 t449, .int .i64 t450, .bool t451, .int .i64 t452] 46 (0, 0))) ∧ Aside0 (wc.heap[gb495]? = some (.cells #[.int .i64 t484, .int .i64 t485, .int .i64 t486, .int .i64 t487, .int .i64 t488, .int .i64 t489, .int .i64 t490, .int .i64 t491, .int .i64 t492, .bool t493, .int .i64 t494] 46 (0, 0))) ∧ Aside0 (Below w.heap.size w wc))
     case first =>
      have H := HC85.out
      clear HC85
      replace H := Option.bind_eq_some_iff.mp H
      obtain ⟨t496, A1060, H⟩ := H
      replace H : (if t496 = true then ((laws_eqTask.f t484 t485 t486 t487 t488 t489 t490 t491 t492 t493 t494 t413 t414 t415 t416 t417 t418 t419 t420 t421 t422 t423).bind fun t497 => (laws_FnExactStepTask.j2 kj58 t465 t464 (!t497))) else (laws_FnExactStepTask.j2 kj58 t465 t464 true)) = some r := H
      have A106 := Aside0.mk A1060
      clear A1060
      by_cases c107 : t496 = true; rotate_left
      ·
       replace c107 := Bool.eq_false_iff.mpr c107
       subst c107
       have H1 : (laws_FnExactStepTask.j2 kj58 t465 t464 true) = some r := by rw [if_neg (show ¬ (false = true) by decide)] at H; exact H
       clear H
       have H := H1
       clear H1
       have H' := Aside0.mk H
       clear H
       obtain ⟨Ao119, co119, eo119⟩ := Kd.R_slice HO483.out
       subst eo119
       obtain ⟨Ao120, co120, eo120⟩ := Kd.R_slice HO_5.out
       subst eo120
       go_wp2_with (first | ((with_reducible refine gate_callee (f := 16) rfl ?_); refine goesL_ (some 88) rfl rfl Try.func16 (by kernel_rfl) rfl #[.slice Ao119 t481.length co119, .slice Ao120 t410.length co120] rfl (MA) ?_; (with_reducible refine (laws_eqIntS.calls kj58 _ _ t481 _ _ t410 false _ ?side1 ?side2 ?side3 ?side4 A106.out).mono ?_); (case side1 => refine (Kd.R_reads' (e := 3) (base := w.heap.size) (ok := fun k_ => (some k_ ≠ (v468 : Value).ownBlock ∧ (some k_ ≠ (.slice Ao120 t410.length co120 : Value).ownBlock ∧ some k_ ≠ (.slice Ao86 t439.length co86 : Value).ownBlock))) (n := t481.length) (c := co119) ?_).2.2; exact (by (with_reducible repeat (first | apply r1 | apply r2 | apply r3)); exact (Kd.R_mono (Kd.R_far (p := ⟨gb495, 10, none⟩) (Kd.R_far (p := ⟨gb495, 9, none⟩) (Kd.R_far (p := ⟨gb495, 8, none⟩) (Kd.R_far (p := ⟨gb495, 7, none⟩) (Kd.R_far (p := ⟨gb495, 6, none⟩) (Kd.R_far (p := ⟨gb495, 5, none⟩) (Kd.R_far (p := ⟨gb495, 4, none⟩) (Kd.R_far (p := ⟨gb495, 3, none⟩) (Kd.R_far (p := ⟨gb495, 2, none⟩) (Kd.R_far (p := ⟨gb495, 1, none⟩) (Kd.R_far (p := ⟨gb495, 0, none⟩) (Kd.R_types HO483.out BK495.out (by decide)) (fun _ hk => hk.2) (.int .i64 t484)) (fun _ hk => hk.2) (.int .i64 t485)) (fun _ hk => hk.2) (.int .i64 t486)) (fun _ hk => hk.2) (.int .i64 t487)) (fun _ hk => hk.2) (.int .i64 t488)) (fun _ hk => hk.2) (.int .i64 t489)) (fun _ hk => hk.2) (.int .i64 t490)) (fun _ hk => hk.2) (.int .i64 t491)) (fun _ hk => hk.2) (.int .i64 t492)) (fun _ hk => hk.2) (.bool t493)) (fun _ hk => hk.2) (.int .i64 t494)) (fun _ h_ => h_.1)))); (case side2 => exact (Kd.R_reads' HO483.out).2.1); (case side3 => refine (Kd.R_reads' (e := 3) (base := w.heap.size) (ok := fun k_ => (some k_ ≠ (v468 : Value).ownBlock ∧ (some k_ ≠ (.slice Ao119 t481.length co119 : Value).ownBlock ∧ some k_ ≠ (.slice Ao86 t439.length co86 : Value).ownBlock))) (n := t410.length) (c := co120) ?_).2.2; exact (by (with_reducible repeat (first | apply r1 | apply r2 | apply r3)); exact (Kd.R_mono (Kd.R_far (p := ⟨gb495, 10, none⟩) (Kd.R_far (p := ⟨gb495, 9, none⟩) (Kd.R_far (p := ⟨gb495, 8, none⟩) (Kd.R_far (p := ⟨gb495, 7, none⟩) (Kd.R_far (p := ⟨gb495, 6, none⟩) (Kd.R_far (p := ⟨gb495, 5, none⟩) (Kd.R_far (p := ⟨gb495, 4, none⟩) (Kd.R_far (p := ⟨gb495, 3, none⟩) (Kd.R_far (p := ⟨gb495, 2, none⟩) (Kd.R_far (p := ⟨gb495, 1, none⟩) (Kd.R_far (p := ⟨gb495, 0, none⟩) (Kd.R_types HO_5.out BK495.out (by decide)) (fun _ hk => hk.2) (.int .i64 t484)) (fun _ hk => hk.2) (.int .i64 t485)) (fun _ hk => hk.2) (.int .i64 t486)) (fun _ hk => hk.2) (.int .i64 t487)) (fun _ hk => hk.2) (.int .i64 t488)) (fun _ hk => hk.2) (.int .i64 t489)) (fun _ hk => hk.2) (.int .i64 t490)) (fun _ hk => hk.2) (.int .i64 t491)) (fun _ hk => hk.2) (.int .i64 t492)) (fun _ hk => hk.2) (.bool t493)) (fun _ hk => hk.2) (.int .i64 t494)) (fun _ h_ => h_.1)))); (case side4 => exact (Kd.R_reads' HO_5.out).2.1); rintro e w' ⟨rfl, ⟨nd, rfl⟩⟩; refine ⟨_, rfl, ?_⟩))
       go_meet
       case rel => exact ⟨_, (true), SD, H', ⟨by have := HJ10.out; have := HJ58.out; first | omega | exact Nat.le_refl _⟩, ⟨by (with_reducible repeat (first | apply r1 | apply r2 | apply r3)); exact Kd.R_mono (Kd.R_far (p := ⟨gb495, 10, none⟩) (Kd.R_far (p := ⟨gb495, 9, none⟩) (Kd.R_far (p := ⟨gb495, 8, none⟩) (Kd.R_far (p := ⟨gb495, 7, none⟩) (Kd.R_far (p := ⟨gb495, 6, none⟩) (Kd.R_far (p := ⟨gb495, 5, none⟩) (Kd.R_far (p := ⟨gb495, 4, none⟩) (Kd.R_far (p := ⟨gb495, 3, none⟩) (Kd.R_far (p := ⟨gb495, 2, none⟩) (Kd.R_far (p := ⟨gb495, 1, none⟩) (Kd.R_far (p := ⟨gb495, 0, none⟩) (Kd.R_types HO_8.out BK495.out (by decide)) (fun _ hk => hk.2) (.int .i64 t484)) (fun _ hk => hk.2) (.int .i64 t485)) (fun _ hk => hk.2) (.int .i64 t486)) (fun _ hk => hk.2) (.int .i64 t487)) (fun _ hk => hk.2) (.int .i64 t488)) (fun _ hk => hk.2) (.int .i64 t489)) (fun _ hk => hk.2) (.int .i64 t490)) (fun _ hk => hk.2) (.int .i64 t491)) (fun _ hk => hk.2) (.int .i64 t492)) (fun _ hk => hk.2) (.bool t493)) (fun _ hk => hk.2) (.int .i64 t494)) (fun _ hk => trivial)⟩, ⟨by (with_reducible repeat (first | apply b1 | apply b2 | apply b3)); refine blk_far ?_ NB395_495.out _; (with_reducible repeat (first | apply b1 | apply b2 | apply b3)); refine blk_far ?_ NB395_495.out _; (with_reducible repeat (first | apply b1 | apply b2 | apply b3)); refine blk_far ?_ NB395_495.out _; (with_reducible repeat (first | apply b1 | apply b2 | apply b3)); refine blk_far ?_ NB395_495.out _; (with_reducible repeat (first | apply b1 | apply b2 | apply b3)); refine blk_far ?_ NB395_495.out _; (with_reducible repeat (first | apply b1 | apply b2 | apply b3)); refine blk_far ?_ NB395_495.out _; (with_reducible repeat (first | apply b1 | apply b2 | apply b3)); refine blk_far ?_ NB395_495.out _; (with_reducible repeat (first | apply b1 | apply b2 | apply b3)); refine blk_far ?_ NB395_495.out _; (with_reducible repeat (first | apply b1 | apply b2 | apply b3)); refine blk_far ?_ NB395_495.out _; (with_reducible repeat (first | apply b1 | apply b2 | apply b3)); refine blk_far ?_ NB395_495.out _; (with_reducible repeat (first | apply b1 | apply b2 | apply b3)); refine blk_far ?_ NB395_495.out _; (with_reducible repeat (first | apply b1 | apply b2 | apply b3)); exact BK395.out⟩, ⟨by (with_reducible repeat (first | apply b1 | apply b2 | apply b3)); refine blk_far ?_ NB424_495.out _; (with_reducible repeat (first | apply b1 | apply b2 | apply b3)); refine blk_far ?_ NB424_495.out _; (with_reducible repeat (first | apply b1 | apply b2 | apply b3)); refine blk_far ?_ NB424_495.out _; (with_reducible repeat (first | apply b1 | apply b2 | apply b3)); refine blk_far ?_ NB424_495.out _; (with_reducible repeat (first | apply b1 | apply b2 | apply b3)); refine blk_far ?_ NB424_495.out _; (with_reducible repeat (first | apply b1 | apply b2 | apply b3)); refine blk_far ?_ NB424_495.out _; (with_reducible repeat (first | apply b1 | apply b2 | apply b3)); refine blk_far ?_ NB424_495.out _; (with_reducible repeat (first | apply b1 | apply b2 | apply b3)); refine blk_far ?_ NB424_495.out _; (with_reducible repeat (first | apply b1 | apply b2 | apply b3)); refine blk_far ?_ NB424_495.out _; (with_reducible repeat (first | apply b1 | apply b2 | apply b3)); refine blk_far ?_ NB424_495.out _; (with_reducible repeat (first | apply b1 | apply b2 | apply b3)); refine blk_far ?_ NB424_495.out _; (with_reducible repeat (first | apply b1 | apply b2 | apply b3)); exact BK424.out⟩, ⟨by (with_reducible repeat (first | apply b1 | apply b2 | apply b3)); refine blk_far ?_ NB453_495.out _; (with_reducible repeat (first | apply b1 | apply b2 | apply b3)); refine blk_far ?_ NB453_495.out _; (with_reducible repeat (first | apply b1 | apply b2 | apply b3)); refine blk_far ?_ NB453_495.out _; (with_reducible repeat (first | apply b1 | apply b2 | apply b3)); refine blk_far ?_ NB453_495.out _; (with_reducible repeat (first | apply b1 | apply b2 | apply b3)); refine blk_far ?_ NB453_495.out _; (with_reducible repeat (first | apply b1 | apply b2 | apply b3)); refine blk_far ?_ NB453_495.out _; (with_reducible repeat (first | apply b1 | apply b2 | apply b3)); refine blk_far ?_ NB453_495.out _; (with_reducible repeat (first | apply b1 | apply b2 | apply b3)); refine blk_far ?_ NB453_495.out _; (with_reducible repeat (first | apply b1 | apply b2 | apply b3)); refine blk_far ?_ NB453_495.out _; (with_reducible repeat (first | apply b1 | apply b2 | apply b3)); refine blk_far ?_ NB453_495.out _; (with_reducible repeat (first | apply b1 | apply b2 | apply b3)); refine blk_far ?_ NB453_495.out _; (with_reducible repeat (first | apply b1 | apply b2 | apply b3)); exact BK453.out⟩, ⟨by (with_reducible repeat (first | apply b1 | apply b2 | apply b3)); refine blk_put (cs := #[.int .i64 t484, .int .i64 t485, .int .i64 t486, .int .i64 t487, .int .i64 t488, .int .i64 t489, .int .i64 t490, .int .i64 t491, .int .i64 t492, .bool t493, .int .i64 0]) ?_ 10 _ rfl; (with_reducible repeat (first | apply b1 | apply b2 | apply b3)); refine blk_put (cs := #[.int .i64 t484, .int .i64 t485, .int .i64 t486, .int .i64 t487, .int .i64 t488, .int .i64 t489, .int .i64 t490, .int .i64 t491, .int .i64 t492, .bool false, .int .i64 0]) ?_ 9 _ rfl; (with_reducible repeat (first | apply b1 | apply b2 | apply b3)); refine blk_put (cs := #[.int .i64 t484, .int .i64 t485, .int .i64 t486, .int .i64 t487, .int .i64 t488, .int .i64 t489, .int .i64 t490, .int .i64 t491, .int .i64 0, .bool false, .int .i64 0]) ?_ 8 _ rfl; (with_reducible repeat (first | apply b1 | apply b2 | apply b3)); refine blk_put (cs := #[.int .i64 t484, .int .i64 t485, .int .i64 t486, .int .i64 t487, .int .i64 t488, .int .i64 t489, .int .i64 t490, .int .i64 0, .int .i64 0, .bool false, .int .i64 0]) ?_ 7 _ rfl; (with_reducible repeat (first | apply b1 | apply b2 | apply b3)); refine blk_put (cs := #[.int .i64 t484, .int .i64 t485, .int .i64 t486, .int .i64 t487, .int .i64 t488, .int .i64 t489, .int .i64 0, .int .i64 0, .int .i64 0, .bool false, .int .i64 0]) ?_ 6 _ rfl; (with_reducible repeat (first | apply b1 | apply b2 | apply b3)); refine blk_put (cs := #[.int .i64 t484, .int .i64 t485, .int .i64 t486, .int .i64 t487, .int .i64 t488, .int .i64 0, .int .i64 0, .int .i64 0, .int .i64 0, .bool false, .int .i64 0]) ?_ 5 _ rfl; (with_reducible repeat (first | apply b1 | apply b2 | apply b3)); refine blk_put (cs := #[.int .i64 t484, .int .i64 t485, .int .i64 t486, .int .i64 t487, .int .i64 0, .int .i64 0, .int .i64 0, .int .i64 0, .int .i64 0, .bool false, .int .i64 0]) ?_ 4 _ rfl; (with_reducible repeat (first | apply b1 | apply b2 | apply b3)); refine blk_put (cs := #[.int .i64 t484, .int .i64 t485, .int .i64 t486, .int .i64 0, .int .i64 0, .int .i64 0, .int .i64 0, .int .i64 0, .int .i64 0, .bool false, .int .i64 0]) ?_ 3 _ rfl; (with_reducible repeat (first | apply b1 | apply b2 | apply b3)); refine blk_put (cs := #[.int .i64 t484, .int .i64 t485, .int .i64 0, .int .i64 0, .int .i64 0, .int .i64 0, .int .i64 0, .int .i64 0, .int .i64 0, .bool false, .int .i64 0]) ?_ 2 _ rfl; (with_reducible repeat (first | apply b1 | apply b2 | apply b3)); refine blk_put (cs := #[.int .i64 t484, .int .i64 0, .int .i64 0, .int .i64 0, .int .i64 0, .int .i64 0, .int .i64 0, .int .i64 0, .int .i64 0, .bool false, .int .i64 0]) ?_ 1 _ rfl; (with_reducible repeat (first | apply b1 | apply b2 | apply b3)); refine blk_put (cs := #[.int .i64 0, .int .i64 0, .int .i64 0, .int .i64 0, .int .i64 0, .int .i64 0, .int .i64 0, .int .i64 0, .int .i64 0, .bool false, .int .i64 0]) ?_ 0 _ rfl; (with_reducible repeat (first | apply b1 | apply b2 | apply b3)); exact BK495.out⟩, ⟨BL⟩⟩
      subst c107
      have H1 : ((laws_eqTask.f t484 t485 t486 t487 t488 t489 t490 t491 t492 t493 t494 t413 t414 t415 t416 t417 t418 t419 t420 t421 t422 t423).bind fun t497 => (laws_FnExactStepTask.j2 kj58 t465 t464 (!t497))) = some r := by rw [if_pos rfl] at H; exact H
      clear H
      have H := H1
      clear H1
      replace H := Option.bind_eq_some_iff.mp H
      obtain ⟨t497, A1080, H⟩ := H
      replace H : (laws_FnExactStepTask.j2 kj58 t465 t464 (!t497)) = some r := H
      have A108 := Aside0.mk A1080
      clear A1080
      have H' := Aside0.mk H
      clear H
      obtain ⟨Ao109, co109, eo109⟩ := Kd.R_slice HO483.out
      subst eo109
      obtain ⟨Ao110, co110, eo110⟩ := Kd.R_slice HO_5.out
      subst eo110
      go_wp2_with (first | ((with_reducible refine gate_callee (f := 16) rfl ?_); refine goesL_ (some 88) rfl rfl Try.func16 (by kernel_rfl) rfl #[.slice Ao109 t481.length co109, .slice Ao110 t410.length co110] rfl (MA) ?_; (with_reducible refine (laws_eqIntS.calls kj58 _ _ t481 _ _ t410 true _ ?side1 ?side2 ?side3 ?side4 A106.out).mono ?_); (case side1 => refine (Kd.R_reads' (e := 3) (base := w.heap.size) (ok := fun k_ => (some k_ ≠ (v468 : Value).ownBlock ∧ (some k_ ≠ (.slice Ao110 t410.length co110 : Value).ownBlock ∧ some k_ ≠ (.slice Ao86 t439.length co86 : Value).ownBlock))) (n := t481.length) (c := co109) ?_).2.2; exact (by (with_reducible repeat (first | apply r1 | apply r2 | apply r3)); exact (Kd.R_mono (Kd.R_far (p := ⟨gb495, 10, none⟩) (Kd.R_far (p := ⟨gb495, 9, none⟩) (Kd.R_far (p := ⟨gb495, 8, none⟩) (Kd.R_far (p := ⟨gb495, 7, none⟩) (Kd.R_far (p := ⟨gb495, 6, none⟩) (Kd.R_far (p := ⟨gb495, 5, none⟩) (Kd.R_far (p := ⟨gb495, 4, none⟩) (Kd.R_far (p := ⟨gb495, 3, none⟩) (Kd.R_far (p := ⟨gb495, 2, none⟩) (Kd.R_far (p := ⟨gb495, 1, none⟩) (Kd.R_far (p := ⟨gb495, 0, none⟩) (Kd.R_types HO483.out BK495.out (by decide)) (fun _ hk => hk.2) (.int .i64 t484)) (fun _ hk => hk.2) (.int .i64 t485)) (fun _ hk => hk.2) (.int .i64 t486)) (fun _ hk => hk.2) (.int .i64 t487)) (fun _ hk => hk.2) (.int .i64 t488)) (fun _ hk => hk.2) (.int .i64 t489)) (fun _ hk => hk.2) (.int .i64 t490)) (fun _ hk => hk.2) (.int .i64 t491)) (fun _ hk => hk.2) (.int .i64 t492)) (fun _ hk => hk.2) (.bool t493)) (fun _ hk => hk.2) (.int .i64 t494)) (fun _ h_ => h_.1)))); (case side2 => exact (Kd.R_reads' HO483.out).2.1); (case side3 => refine (Kd.R_reads' (e := 3) (base := w.heap.size) (ok := fun k_ => (some k_ ≠ (v468 : Value).ownBlock ∧ (some k_ ≠ (.slice Ao109 t481.length co109 : Value).ownBlock ∧ some k_ ≠ (.slice Ao86 t439.length co86 : Value).ownBlock))) (n := t410.length) (c := co110) ?_).2.2; exact (by (with_reducible repeat (first | apply r1 | apply r2 | apply r3)); exact (Kd.R_mono (Kd.R_far (p := ⟨gb495, 10, none⟩) (Kd.R_far (p := ⟨gb495, 9, none⟩) (Kd.R_far (p := ⟨gb495, 8, none⟩) (Kd.R_far (p := ⟨gb495, 7, none⟩) (Kd.R_far (p := ⟨gb495, 6, none⟩) (Kd.R_far (p := ⟨gb495, 5, none⟩) (Kd.R_far (p := ⟨gb495, 4, none⟩) (Kd.R_far (p := ⟨gb495, 3, none⟩) (Kd.R_far (p := ⟨gb495, 2, none⟩) (Kd.R_far (p := ⟨gb495, 1, none⟩) (Kd.R_far (p := ⟨gb495, 0, none⟩) (Kd.R_types HO_5.out BK495.out (by decide)) (fun _ hk => hk.2) (.int .i64 t484)) (fun _ hk => hk.2) (.int .i64 t485)) (fun _ hk => hk.2) (.int .i64 t486)) (fun _ hk => hk.2) (.int .i64 t487)) (fun _ hk => hk.2) (.int .i64 t488)) (fun _ hk => hk.2) (.int .i64 t489)) (fun _ hk => hk.2) (.int .i64 t490)) (fun _ hk => hk.2) (.int .i64 t491)) (fun _ hk => hk.2) (.int .i64 t492)) (fun _ hk => hk.2) (.bool t493)) (fun _ hk => hk.2) (.int .i64 t494)) (fun _ h_ => h_.1)))); (case side4 => exact (Kd.R_reads' HO_5.out).2.1); rintro e w' ⟨rfl, ⟨nd, rfl⟩⟩; refine ⟨_, rfl, ?_⟩; have hnb111 := NB495_395.out; have hnc111 := NB395_495.out; have hnb112 := NB495_424.out; have hnc112 := NB424_495.out; have hnb113 := NB495_453.out; have hnc113 := NB453_495.out; have hcz114_0 : w94.cell? ⟨gb495, 0, none⟩ = some (.int .i64 0) := CZ BK495.out 0; have hcz114_1 : w94.cell? ⟨gb495, 1, none⟩ = some (.int .i64 0) := CZ BK495.out 1; have hcz114_2 : w94.cell? ⟨gb495, 2, none⟩ = some (.int .i64 0) := CZ BK495.out 2; have hcz114_3 : w94.cell? ⟨gb495, 3, none⟩ = some (.int .i64 0) := CZ BK495.out 3; have hcz114_4 : w94.cell? ⟨gb495, 4, none⟩ = some (.int .i64 0) := CZ BK495.out 4; have hcz114_5 : w94.cell? ⟨gb495, 5, none⟩ = some (.int .i64 0) := CZ BK495.out 5; have hcz114_6 : w94.cell? ⟨gb495, 6, none⟩ = some (.int .i64 0) := CZ BK495.out 6; have hcz114_7 : w94.cell? ⟨gb495, 7, none⟩ = some (.int .i64 0) := CZ BK495.out 7; have hcz114_8 : w94.cell? ⟨gb495, 8, none⟩ = some (.int .i64 0) := CZ BK495.out 8; have hcz114_9 : w94.cell? ⟨gb495, 9, none⟩ = some (.bool false) := CZ BK495.out 9; have hcz114_10 : w94.cell? ⟨gb495, 10, none⟩ = some (.int .i64 0) := CZ BK495.out 10; have hfz114_0 := blk_frozen BK495.out 0; have hfz114_1 := blk_frozen BK495.out 1; have hfz114_2 := blk_frozen BK495.out 2; have hfz114_3 := blk_frozen BK495.out 3; have hfz114_4 := blk_frozen BK495.out 4; have hfz114_5 := blk_frozen BK495.out 5; have hfz114_6 := blk_frozen BK495.out 6; have hfz114_7 := blk_frozen BK495.out 7; have hfz114_8 := blk_frozen BK495.out 8; have hfz114_9 := blk_frozen BK495.out 9; have hfz114_10 := blk_frozen BK495.out 10; have hnb115 := NB424_395.out; have hnc115 := NB395_424.out; have hnb116 := NB424_453.out; have hnc116 := NB453_424.out; have hcz117_0 : w94.cell? ⟨gb424, 0, none⟩ = some (.int .i64 t413) := CZ BK424.out 0; have hcz117_1 : w94.cell? ⟨gb424, 1, none⟩ = some (.int .i64 t414) := CZ BK424.out 1; have hcz117_2 : w94.cell? ⟨gb424, 2, none⟩ = some (.int .i64 t415) := CZ BK424.out 2; have hcz117_3 : w94.cell? ⟨gb424, 3, none⟩ = some (.int .i64 t416) := CZ BK424.out 3; have hcz117_4 : w94.cell? ⟨gb424, 4, none⟩ = some (.int .i64 t417) := CZ BK424.out 4; have hcz117_5 : w94.cell? ⟨gb424, 5, none⟩ = some (.int .i64 t418) := CZ BK424.out 5; have hcz117_6 : w94.cell? ⟨gb424, 6, none⟩ = some (.int .i64 t419) := CZ BK424.out 6; have hcz117_7 : w94.cell? ⟨gb424, 7, none⟩ = some (.int .i64 t420) := CZ BK424.out 7; have hcz117_8 : w94.cell? ⟨gb424, 8, none⟩ = some (.int .i64 t421) := CZ BK424.out 8; have hcz117_9 : w94.cell? ⟨gb424, 9, none⟩ = some (.bool t422) := CZ BK424.out 9; have hcz117_10 : w94.cell? ⟨gb424, 10, none⟩ = some (.int .i64 t423) := CZ BK424.out 10; have hfz117_0 := blk_frozen BK424.out 0; have hfz117_1 := blk_frozen BK424.out 1; have hfz117_2 := blk_frozen BK424.out 2; have hfz117_3 := blk_frozen BK424.out 3; have hfz117_4 := blk_frozen BK424.out 4; have hfz117_5 := blk_frozen BK424.out 5; have hfz117_6 := blk_frozen BK424.out 6; have hfz117_7 := blk_frozen BK424.out 7; have hfz117_8 := blk_frozen BK424.out 8; have hfz117_9 := blk_frozen BK424.out 9; have hfz117_10 := blk_frozen BK424.out 10) | (go_at_call 40; (with_reducible refine (laws_eqTask.calls t484 t485 t486 t487 t488 t489 t490 t491 t492 t493 t494 t413 t414 t415 t416 t417 t418 t419 t420 t421 t422 t423 t497 _ A108.out).mono ?_); rintro e w118 ⟨rfl, hb⟩; replace HO_5 := Aside0.mk (Kd.R_below (by (with_reducible repeat (first | apply r1 | apply r2 | apply r3)); exact (Kd.R_mono (Kd.R_far (p := ⟨gb495, 10, none⟩) (Kd.R_far (p := ⟨gb495, 9, none⟩) (Kd.R_far (p := ⟨gb495, 8, none⟩) (Kd.R_far (p := ⟨gb495, 7, none⟩) (Kd.R_far (p := ⟨gb495, 6, none⟩) (Kd.R_far (p := ⟨gb495, 5, none⟩) (Kd.R_far (p := ⟨gb495, 4, none⟩) (Kd.R_far (p := ⟨gb495, 3, none⟩) (Kd.R_far (p := ⟨gb495, 2, none⟩) (Kd.R_far (p := ⟨gb495, 1, none⟩) (Kd.R_far (p := ⟨gb495, 0, none⟩) (Kd.R_types HO_5.out BK495.out (by decide)) (fun _ hk => hk.2) (.int .i64 t484)) (fun _ hk => hk.2) (.int .i64 t485)) (fun _ hk => hk.2) (.int .i64 t486)) (fun _ hk => hk.2) (.int .i64 t487)) (fun _ hk => hk.2) (.int .i64 t488)) (fun _ hk => hk.2) (.int .i64 t489)) (fun _ hk => hk.2) (.int .i64 t490)) (fun _ hk => hk.2) (.int .i64 t491)) (fun _ hk => hk.2) (.int .i64 t492)) (fun _ hk => hk.2) (.bool t493)) (fun _ hk => hk.2) (.int .i64 t494)) (fun _ h_ => h_.1))) hb); replace HO_8 := Aside0.mk (Kd.R_below (by (with_reducible repeat (first | apply r1 | apply r2 | apply r3)); exact (Kd.R_mono (Kd.R_far (p := ⟨gb495, 10, none⟩) (Kd.R_far (p := ⟨gb495, 9, none⟩) (Kd.R_far (p := ⟨gb495, 8, none⟩) (Kd.R_far (p := ⟨gb495, 7, none⟩) (Kd.R_far (p := ⟨gb495, 6, none⟩) (Kd.R_far (p := ⟨gb495, 5, none⟩) (Kd.R_far (p := ⟨gb495, 4, none⟩) (Kd.R_far (p := ⟨gb495, 3, none⟩) (Kd.R_far (p := ⟨gb495, 2, none⟩) (Kd.R_far (p := ⟨gb495, 1, none⟩) (Kd.R_far (p := ⟨gb495, 0, none⟩) (Kd.R_types HO_8.out BK495.out (by decide)) (fun _ hk => hk.2) (.int .i64 t484)) (fun _ hk => hk.2) (.int .i64 t485)) (fun _ hk => hk.2) (.int .i64 t486)) (fun _ hk => hk.2) (.int .i64 t487)) (fun _ hk => hk.2) (.int .i64 t488)) (fun _ hk => hk.2) (.int .i64 t489)) (fun _ hk => hk.2) (.int .i64 t490)) (fun _ hk => hk.2) (.int .i64 t491)) (fun _ hk => hk.2) (.int .i64 t492)) (fun _ hk => hk.2) (.bool t493)) (fun _ hk => hk.2) (.int .i64 t494)) (fun _ h_ => h_.1))) hb); replace HO469 := Aside0.mk (Kd.R_below (by (with_reducible repeat (first | apply r1 | apply r2 | apply r3)); exact (Kd.R_mono (Kd.R_far (p := ⟨gb495, 10, none⟩) (Kd.R_far (p := ⟨gb495, 9, none⟩) (Kd.R_far (p := ⟨gb495, 8, none⟩) (Kd.R_far (p := ⟨gb495, 7, none⟩) (Kd.R_far (p := ⟨gb495, 6, none⟩) (Kd.R_far (p := ⟨gb495, 5, none⟩) (Kd.R_far (p := ⟨gb495, 4, none⟩) (Kd.R_far (p := ⟨gb495, 3, none⟩) (Kd.R_far (p := ⟨gb495, 2, none⟩) (Kd.R_far (p := ⟨gb495, 1, none⟩) (Kd.R_far (p := ⟨gb495, 0, none⟩) (Kd.R_types HO469.out BK495.out (by decide)) (fun _ hk => hk.2) (.int .i64 t484)) (fun _ hk => hk.2) (.int .i64 t485)) (fun _ hk => hk.2) (.int .i64 t486)) (fun _ hk => hk.2) (.int .i64 t487)) (fun _ hk => hk.2) (.int .i64 t488)) (fun _ hk => hk.2) (.int .i64 t489)) (fun _ hk => hk.2) (.int .i64 t490)) (fun _ hk => hk.2) (.int .i64 t491)) (fun _ hk => hk.2) (.int .i64 t492)) (fun _ hk => hk.2) (.bool t493)) (fun _ hk => hk.2) (.int .i64 t494)) (fun _ h_ => h_.1))) hb); replace HO483 := Aside0.mk (Kd.R_below (by (with_reducible repeat (first | apply r1 | apply r2 | apply r3)); exact (Kd.R_mono (Kd.R_far (p := ⟨gb495, 10, none⟩) (Kd.R_far (p := ⟨gb495, 9, none⟩) (Kd.R_far (p := ⟨gb495, 8, none⟩) (Kd.R_far (p := ⟨gb495, 7, none⟩) (Kd.R_far (p := ⟨gb495, 6, none⟩) (Kd.R_far (p := ⟨gb495, 5, none⟩) (Kd.R_far (p := ⟨gb495, 4, none⟩) (Kd.R_far (p := ⟨gb495, 3, none⟩) (Kd.R_far (p := ⟨gb495, 2, none⟩) (Kd.R_far (p := ⟨gb495, 1, none⟩) (Kd.R_far (p := ⟨gb495, 0, none⟩) (Kd.R_types HO483.out BK495.out (by decide)) (fun _ hk => hk.2) (.int .i64 t484)) (fun _ hk => hk.2) (.int .i64 t485)) (fun _ hk => hk.2) (.int .i64 t486)) (fun _ hk => hk.2) (.int .i64 t487)) (fun _ hk => hk.2) (.int .i64 t488)) (fun _ hk => hk.2) (.int .i64 t489)) (fun _ hk => hk.2) (.int .i64 t490)) (fun _ hk => hk.2) (.int .i64 t491)) (fun _ hk => hk.2) (.int .i64 t492)) (fun _ hk => hk.2) (.bool t493)) (fun _ hk => hk.2) (.int .i64 t494)) (fun _ h_ => h_.1))) hb); replace BK395 := Aside0.mk (blk_below (g := gb395) (o := .cells #[.int .i64 a1_0, .int .i64 a1_1, .int .i64 a1_2, .int .i64 a1_3, .int .i64 a1_4, .int .i64 a1_5, .int .i64 a1_6, .int .i64 a1_7, .int .i64 a1_8, .bool a1_9, .int .i64 a1_10] 45 (0, 0)) (by (with_reducible repeat (first | apply b1 | apply b2 | apply b3)); refine blk_far ?_ NB395_495.out _; (with_reducible repeat (first | apply b1 | apply b2 | apply b3)); refine blk_far ?_ NB395_495.out _; (with_reducible repeat (first | apply b1 | apply b2 | apply b3)); refine blk_far ?_ NB395_495.out _; (with_reducible repeat (first | apply b1 | apply b2 | apply b3)); refine blk_far ?_ NB395_495.out _; (with_reducible repeat (first | apply b1 | apply b2 | apply b3)); refine blk_far ?_ NB395_495.out _; (with_reducible repeat (first | apply b1 | apply b2 | apply b3)); refine blk_far ?_ NB395_495.out _; (with_reducible repeat (first | apply b1 | apply b2 | apply b3)); refine blk_far ?_ NB395_495.out _; (with_reducible repeat (first | apply b1 | apply b2 | apply b3)); refine blk_far ?_ NB395_495.out _; (with_reducible repeat (first | apply b1 | apply b2 | apply b3)); refine blk_far ?_ NB395_495.out _; (with_reducible repeat (first | apply b1 | apply b2 | apply b3)); refine blk_far ?_ NB395_495.out _; (with_reducible repeat (first | apply b1 | apply b2 | apply b3)); refine blk_far ?_ NB395_495.out _; (with_reducible repeat (first | apply b1 | apply b2 | apply b3)); exact BK395.out) hb); replace BK424 := Aside0.mk (blk_below (g := gb424) (o := .cells #[.int .i64 t413, .int .i64 t414, .int .i64 t415, .int .i64 t416, .int .i64 t417, .int .i64 t418, .int .i64 t419, .int .i64 t420, .int .i64 t421, .bool t422, .int .i64 t423] 46 (0, 0)) (by (with_reducible repeat (first | apply b1 | apply b2 | apply b3)); refine blk_far ?_ NB424_495.out _; (with_reducible repeat (first | apply b1 | apply b2 | apply b3)); refine blk_far ?_ NB424_495.out _; (with_reducible repeat (first | apply b1 | apply b2 | apply b3)); refine blk_far ?_ NB424_495.out _; (with_reducible repeat (first | apply b1 | apply b2 | apply b3)); refine blk_far ?_ NB424_495.out _; (with_reducible repeat (first | apply b1 | apply b2 | apply b3)); refine blk_far ?_ NB424_495.out _; (with_reducible repeat (first | apply b1 | apply b2 | apply b3)); refine blk_far ?_ NB424_495.out _; (with_reducible repeat (first | apply b1 | apply b2 | apply b3)); refine blk_far ?_ NB424_495.out _; (with_reducible repeat (first | apply b1 | apply b2 | apply b3)); refine blk_far ?_ NB424_495.out _; (with_reducible repeat (first | apply b1 | apply b2 | apply b3)); refine blk_far ?_ NB424_495.out _; (with_reducible repeat (first | apply b1 | apply b2 | apply b3)); refine blk_far ?_ NB424_495.out _; (with_reducible repeat (first | apply b1 | apply b2 | apply b3)); refine blk_far ?_ NB424_495.out _; (with_reducible repeat (first | apply b1 | apply b2 | apply b3)); exact BK424.out) hb); replace BK453 := Aside0.mk (blk_below (g := gb453) (o := .cells #[.int .i64 t442, .int .i64 t443, .int .i64 t444, .int .i64 t445, .int .i64 t446, .int .i64 t447, .int .i64 t448, .int .i64 t449, .int .i64 t450, .bool t451, .int .i64 t452] 46 (0, 0)) (by (with_reducible repeat (first | apply b1 | apply b2 | apply b3)); refine blk_far ?_ NB453_495.out _; (with_reducible repeat (first | apply b1 | apply b2 | apply b3)); refine blk_far ?_ NB453_495.out _; (with_reducible repeat (first | apply b1 | apply b2 | apply b3)); refine blk_far ?_ NB453_495.out _; (with_reducible repeat (first | apply b1 | apply b2 | apply b3)); refine blk_far ?_ NB453_495.out _; (with_reducible repeat (first | apply b1 | apply b2 | apply b3)); refine blk_far ?_ NB453_495.out _; (with_reducible repeat (first | apply b1 | apply b2 | apply b3)); refine blk_far ?_ NB453_495.out _; (with_reducible repeat (first | apply b1 | apply b2 | apply b3)); refine blk_far ?_ NB453_495.out _; (with_reducible repeat (first | apply b1 | apply b2 | apply b3)); refine blk_far ?_ NB453_495.out _; (with_reducible repeat (first | apply b1 | apply b2 | apply b3)); refine blk_far ?_ NB453_495.out _; (with_reducible repeat (first | apply b1 | apply b2 | apply b3)); refine blk_far ?_ NB453_495.out _; (with_reducible repeat (first | apply b1 | apply b2 | apply b3)); refine blk_far ?_ NB453_495.out _; (with_reducible repeat (first | apply b1 | apply b2 | apply b3)); exact BK453.out) hb); replace BK495 := Aside0.mk (blk_below (g := gb495) (o := .cells #[.int .i64 t484, .int .i64 t485, .int .i64 t486, .int .i64 t487, .int .i64 t488, .int .i64 t489, .int .i64 t490, .int .i64 t491, .int .i64 t492, .bool t493, .int .i64 t494] 46 (0, 0)) (by (with_reducible repeat (first | apply b1 | apply b2 | apply b3)); refine blk_put (cs := #[.int .i64 t484, .int .i64 t485, .int .i64 t486, .int .i64 t487, .int .i64 t488, .int .i64 t489, .int .i64 t490, .int .i64 t491, .int .i64 t492, .bool t493, .int .i64 0]) ?_ 10 _ rfl; (with_reducible repeat (first | apply b1 | apply b2 | apply b3)); refine blk_put (cs := #[.int .i64 t484, .int .i64 t485, .int .i64 t486, .int .i64 t487, .int .i64 t488, .int .i64 t489, .int .i64 t490, .int .i64 t491, .int .i64 t492, .bool false, .int .i64 0]) ?_ 9 _ rfl; (with_reducible repeat (first | apply b1 | apply b2 | apply b3)); refine blk_put (cs := #[.int .i64 t484, .int .i64 t485, .int .i64 t486, .int .i64 t487, .int .i64 t488, .int .i64 t489, .int .i64 t490, .int .i64 t491, .int .i64 0, .bool false, .int .i64 0]) ?_ 8 _ rfl; (with_reducible repeat (first | apply b1 | apply b2 | apply b3)); refine blk_put (cs := #[.int .i64 t484, .int .i64 t485, .int .i64 t486, .int .i64 t487, .int .i64 t488, .int .i64 t489, .int .i64 t490, .int .i64 0, .int .i64 0, .bool false, .int .i64 0]) ?_ 7 _ rfl; (with_reducible repeat (first | apply b1 | apply b2 | apply b3)); refine blk_put (cs := #[.int .i64 t484, .int .i64 t485, .int .i64 t486, .int .i64 t487, .int .i64 t488, .int .i64 t489, .int .i64 0, .int .i64 0, .int .i64 0, .bool false, .int .i64 0]) ?_ 6 _ rfl; (with_reducible repeat (first | apply b1 | apply b2 | apply b3)); refine blk_put (cs := #[.int .i64 t484, .int .i64 t485, .int .i64 t486, .int .i64 t487, .int .i64 t488, .int .i64 0, .int .i64 0, .int .i64 0, .int .i64 0, .bool false, .int .i64 0]) ?_ 5 _ rfl; (with_reducible repeat (first | apply b1 | apply b2 | apply b3)); refine blk_put (cs := #[.int .i64 t484, .int .i64 t485, .int .i64 t486, .int .i64 t487, .int .i64 0, .int .i64 0, .int .i64 0, .int .i64 0, .int .i64 0, .bool false, .int .i64 0]) ?_ 4 _ rfl; (with_reducible repeat (first | apply b1 | apply b2 | apply b3)); refine blk_put (cs := #[.int .i64 t484, .int .i64 t485, .int .i64 t486, .int .i64 0, .int .i64 0, .int .i64 0, .int .i64 0, .int .i64 0, .int .i64 0, .bool false, .int .i64 0]) ?_ 3 _ rfl; (with_reducible repeat (first | apply b1 | apply b2 | apply b3)); refine blk_put (cs := #[.int .i64 t484, .int .i64 t485, .int .i64 0, .int .i64 0, .int .i64 0, .int .i64 0, .int .i64 0, .int .i64 0, .int .i64 0, .bool false, .int .i64 0]) ?_ 2 _ rfl; (with_reducible repeat (first | apply b1 | apply b2 | apply b3)); refine blk_put (cs := #[.int .i64 t484, .int .i64 0, .int .i64 0, .int .i64 0, .int .i64 0, .int .i64 0, .int .i64 0, .int .i64 0, .int .i64 0, .bool false, .int .i64 0]) ?_ 1 _ rfl; (with_reducible repeat (first | apply b1 | apply b2 | apply b3)); refine blk_put (cs := #[.int .i64 0, .int .i64 0, .int .i64 0, .int .i64 0, .int .i64 0, .int .i64 0, .int .i64 0, .int .i64 0, .int .i64 0, .bool false, .int .i64 0]) ?_ 0 _ rfl; (with_reducible repeat (first | apply b1 | apply b2 | apply b3)); exact BK495.out) hb); replace HB := Aside0.mk (below_step (BL) hb); (try clear hb); (try clear hb2); (try clear hk); (try clear hi)))
      go_meet
      case rel => exact ⟨_, (!t497), SD, H', ⟨by have := HJ10.out; have := HJ58.out; first | omega | exact Nat.le_refl _⟩, ⟨by (with_reducible repeat (first | apply r1 | apply r2 | apply r3)); exact Kd.R_mono HO_8.out (fun _ hk => trivial)⟩, ⟨BQ BK395.out⟩, ⟨BQ BK424.out⟩, ⟨BQ BK453.out⟩, ⟨BQ BK495.out⟩, ⟨BL⟩⟩
     case rest =>
      clear HC85
      try clear c1
      try clear p2
      try clear c3
      try clear c10
      try clear c11
      try clear c14
      try clear c16
      try clear c38
      try clear c39
      try clear c107
      try clear c111
      try clear c112
      try clear c113
      try clear c115
      try clear c116
      try clear hcz114_0
      try clear hcz114_1
      try clear hcz114_10
      try clear hcz114_2
      try clear hcz114_3
      try clear hcz114_4
      try clear hcz114_5
      try clear hcz114_6
      try clear hcz114_7
      try clear hcz114_8
      try clear hcz114_9
      try clear hcz117_0
      try clear hcz117_1
      try clear hcz117_10
      try clear hcz117_2
      try clear hcz117_3
      try clear hcz117_4
      try clear hcz117_5
      try clear hcz117_6
      try clear hcz117_7
      try clear hcz117_8
      try clear hcz117_9
      try clear hfz114_0
      try clear hfz114_1
      try clear hfz114_10
      try clear hfz114_2
      try clear hfz114_3
      try clear hfz114_4
      try clear hfz114_5
      try clear hfz114_6
      try clear hfz114_7
      try clear hfz114_8
      try clear hfz114_9
      try clear hfz117_0
      try clear hfz117_1
      try clear hfz117_10
      try clear hfz117_2
      try clear hfz117_3
      try clear hfz117_4
      try clear hfz117_5
      try clear hfz117_6
      try clear hfz117_7
      try clear hfz117_8
      try clear hfz117_9
      obtain ⟨kq, x95_84, rfl, HA, HJ84, HO_8, BK395, BK424, BK453, BK495, HB⟩ := hcut
      have hl8_84 := (Kd.R_reads' HO_8.out).1
      rw [hl8_84] at HO_8
      (try simp only [hl8_84])
      (try simp only [hl8_84] at BK395)
      (try simp only [hl8_84] at BK424)
      (try simp only [hl8_84] at BK453)
      (try simp only [hl8_84] at BK495)
      cases kq with
      | zero => exact absurd HA.out (by simp [laws_FnExactStepTask.j2])
      | succ kj84 =>
       have H := HA.out
       clear HA
       simp only [laws_FnExactStepTask.j2] at H
       by_cases c121 : x95_84 = true
       ·
        subst c121
        have H1 : (none) = some r := by rw [if_pos rfl] at H; exact H
        clear H
        have H := H1
        clear H1
        exact absurd H (by simp)
       replace c121 := Bool.eq_false_iff.mpr c121
       subst c121
       have H1 : ((laws_heldIntS.f kj84 t465 1).bind fun t498 => (if t498 < 0 then (none) else (if t498 = t464 then (some true) else (none)))) = some r := by rw [if_neg (show ¬ (false = true) by decide)] at H; exact H
       clear H
       have H := H1
       clear H1
       replace H := Option.bind_eq_some_iff.mp H
       obtain ⟨t498, A1220, H⟩ := H
       replace H : (if t498 < 0 then (none) else (if t498 = t464 then (some true) else (none))) = some r := H
       have A122 := Aside0.mk A1220
       clear A1220
       by_cases c123 : t498 < 0
       ·
        rw [if_pos c123] at H
        exact absurd H (by simp)
       rw [if_neg c123] at H
       have c123b0 : decide (t498 < 0) = false := decide_eq_false c123
       clear c123
       by_cases c124 : t498 = t464; rotate_left
       ·
        rw [if_neg c124] at H
        exact absurd H (by simp)
       rw [if_pos c124] at H
       have c124b0 : (t498 == t464) = true := beq_iff_eq.mpr c124
       have c124b1 : (t498 != t464) = false := bne_eq_false_iff_eq.mpr c124
       clear c124
       obtain rfl := Option.some.inj H
       go_wp2_with (first | ((with_reducible refine gate_callee (f := 18) rfl ?_); refine goesL_ (some 98) rfl rfl Try.func18 (by kernel_rfl) rfl #[.slice Ao86 t465.length co86, .int .i64 1] rfl (MA) ?_; (with_reducible refine (laws_heldIntS.calls kj84 _ _ t465 1 t498 _ ?side1 ?side2 A122.out).mono ?_); (case side1 => repeat (first | exact (Kd.R_reads' HO_8.out).2.2 | (with_reducible refine Kd.C_alloc ?_ _) | (with_reducible refine Kd.C_drewN ?_ _) | (with_reducible refine Kd.C_drew ?_))); (case side2 => exact (Kd.R_reads' HO_8.out).2.1); rintro e w' ⟨rfl, ⟨nd, rfl⟩⟩; refine ⟨_, rfl, ?_⟩))
       go_ret
       exact ⟨EE, BL⟩

/-- THE PURE STATEMENT of laws_FnExactStepTask. -/
def laws_FnExactStepTask.Pure : Prop := ∀ (l0 : List Int) (a1_0 : Int) (a1_1 : Int) (a1_2 : Int) (a1_3 : Int) (a1_4 : Int) (a1_5 : Int) (a1_6 : Int) (a1_7 : Int) (a1_8 : Int) (a1_9 : Bool) (a1_10 : Int), ((∀ x_ ∈ l0, (Lit.int .i64 x_).wf = true) ∧ l0.length ≤ maxLen) → (Lit.int .i64 a1_0).wf = true → (Lit.int .i64 a1_1).wf = true → (Lit.int .i64 a1_2).wf = true → (Lit.int .i64 a1_3).wf = true → (Lit.int .i64 a1_4).wf = true → (Lit.int .i64 a1_5).wf = true → (Lit.int .i64 a1_6).wf = true → (Lit.int .i64 a1_7).wf = true → (Lit.int .i64 a1_8).wf = true → (Lit.int .i64 a1_10).wf = true → ∃ k, laws_FnExactStepTask.f k l0 a1_0 a1_1 a1_2 a1_3 a1_4 a1_5 a1_6 a1_7 a1_8 a1_9 a1_10 = some true

end Go.Proofs.Ytjmggbhgmenmcaa.Qs
