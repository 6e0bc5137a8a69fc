-- Laid by myprint.py, a program of this session's own, over the kit's print. Not trusted: Lean checks it.
import Derived.Test.YtfkhncoiifojnaaQdtx0
import Derived.Test.YtfkhncoiifojnaaQdtx1
import Derived.Test.YtfkhncoiifojnaaQdtx2
import Derived.Test.YtfkhncoiifojnaaQdtx3
import Derived.Test.YtfkhncoiifojnaaQdtx4
import Derived.Test.YtfkhncoiifojnaaQdtx5
namespace Go.Proofs.Ytfkhncoiifojnaa.Qdt
open Go.RowKit Go.Proofs.YtfkhncoiifojnaaW.PrintWords Go.Proofs.YtfkhncoiifojnaaW.PrintLast Go.Proofs.YtfkhncoiifojnaaW.PrintMore
attribute [local go_sem] Go.Proofs.Ytfkhncoiifojnaa.StrCmp.gtr_less Go.Proofs.Ytfkhncoiifojnaa.StrCmp.geq_less Go.Proofs.Ytfkhncoiifojnaa.StrCmp.leq_less max2_int min2_int max_two min_two max_three min_three max_four min_four   -- for this text's walks alone
set_option linter.unusedVariables false
set_option linter.unusedSimpArgs false

/-! ### laws_FnExactDoTask: function 3 -/
mutual
def laws_FnExactDoTask.j0 : Nat → List (S73) → List (S71) → Int → List (S71) → List (S71) → Int → Bool → Int → Int → Int → Int → Int → Int → Int → Int → Int → Bool → Int → Option (Bool)
 | 0, _, _, _, _, _, _, _, _, _, _, _, _, _, _, _, _, _, _ => none
 | k + 1, x0, x6, x7, x8, x9, x10, x46, x182000, x182001, x182002, x182003, x182004, x182005, x182006, x182007, x182008, x182009, x182010 => if x46 = true then (none) else ((laws_toPairS.f k x0).bind fun t220 => ((laws_eqPairS.f k x8 t220).bind fun t223 => (if t223 = true then ((laws_markPairS.f k x8 1).bind fun bt224 => (if bt224.1 < 0 then (laws_FnExactDoTask.j1 k x0 x6 x7 x9 true x182000 x182001 x182002 x182003 x182004 x182005 x182006 x182007 x182008 x182009 x182010) else ((laws_eqPairS.f k x9 x6).bind fun t226 => (if t226 = true then (laws_FnExactDoTask.j1 k x0 x6 x7 x9 (x10 != x7) x182000 x182001 x182002 x182003 x182004 x182005 x182006 x182007 x182008 x182009 x182010) else (laws_FnExactDoTask.j1 k x0 x6 x7 x9 true x182000 x182001 x182002 x182003 x182004 x182005 x182006 x182007 x182008 x182009 x182010))))) else (none))))
def laws_FnExactDoTask.j1 : Nat → List (S73) → List (S71) → Int → List (S71) → Bool → Int → Int → Int → Int → Int → Int → Int → Int → Int → Bool → Int → Option (Bool)
 | 0, _, _, _, _, _, _, _, _, _, _, _, _, _, _, _, _ => none
 | k + 1, x0, x6, x7, x9, x67, x182000, x182001, x182002, x182003, x182004, x182005, x182006, x182007, x182008, x182009, x182010 => if x67 = true then (none) else ((laws_markPairS.f k x9 1).bind fun bt227 => ((laws_heldPairS.f k bt227.2 1).bind fun t229 => (if t229 < 0 then (none) else (if t229 = bt227.1 then ((laws_toPairS.f k x0).bind fun t230 => ((laws_toTask.f x182000 x182001 x182002 x182003 x182004 x182005 x182006 x182007 x182008 x182009 x182010).bind fun bt233 => ((impl_DoTask.f k t230 bt233.1 bt233.2.1 bt233.2.2.1 bt233.2.2.2.1 bt233.2.2.2.2.1 bt233.2.2.2.2.2.1 bt233.2.2.2.2.2.2.1 bt233.2.2.2.2.2.2.2.1 bt233.2.2.2.2.2.2.2.2.1 bt233.2.2.2.2.2.2.2.2.2.1 bt233.2.2.2.2.2.2.2.2.2.2).bind fun bt244 => ((laws_eqPairS.f k bt244.1 x6).bind fun t248 => (if t248 = true then (laws_FnExactDoTask.j2 k bt227.2 bt227.1 (bt244.2 != x7)) else (laws_FnExactDoTask.j2 k bt227.2 bt227.1 true)))))) else (none)))))
def laws_FnExactDoTask.j2 : Nat → List (S71) → Int → Bool → Option (Bool)
 | 0, _, _, _ => none
 | k + 1, x9, x12, x95 => if x95 = true then (none) else ((laws_heldPairS.f k x9 1).bind fun t249 => (if t249 < 0 then (none) else (if t249 = x12 then (some true) else (none))))
end
def laws_FnExactDoTask.f (k : Nat) (l0 : List (S73)) (a1_0 : Int) (a1_1 : Int) (a1_2 : Int) (a1_3 : Int) (a1_4 : Int) (a1_5 : Int) (a1_6 : Int) (a1_7 : Int) (a1_8 : Int) (a1_9 : Bool) (a1_10 : Int) : Option (Bool) := (laws_szPairS.f l0 1048576).bind fun t182 => (if t182 < 0 then (some true) else ((laws_toPairS.f k l0).bind fun t183 => ((laws_toTask.f a1_0 a1_1 a1_2 a1_3 a1_4 a1_5 a1_6 a1_7 a1_8 a1_9 a1_10).bind fun bt186 => ((spec_DoTask.f k t183 bt186.1 bt186.2.1 bt186.2.2.1 bt186.2.2.2.1 bt186.2.2.2.2.1 bt186.2.2.2.2.2.1 bt186.2.2.2.2.2.2.1 bt186.2.2.2.2.2.2.2.1 bt186.2.2.2.2.2.2.2.2.1 bt186.2.2.2.2.2.2.2.2.2.1 bt186.2.2.2.2.2.2.2.2.2.2).bind fun bt197 => ((laws_toPairS.f k l0).bind fun t201 => ((laws_toTask.f a1_0 a1_1 a1_2 a1_3 a1_4 a1_5 a1_6 a1_7 a1_8 a1_9 a1_10).bind fun bt204 => ((impl_DoTask.f k t201 bt204.1 bt204.2.1 bt204.2.2.1 bt204.2.2.2.1 bt204.2.2.2.2.1 bt204.2.2.2.2.2.1 bt204.2.2.2.2.2.2.1 bt204.2.2.2.2.2.2.2.1 bt204.2.2.2.2.2.2.2.2.1 bt204.2.2.2.2.2.2.2.2.2.1 bt204.2.2.2.2.2.2.2.2.2.2).bind fun bt215 => ((laws_eqPairS.f k bt215.1 bt197.1).bind fun t219 => (if t219 = true then (laws_FnExactDoTask.j0 k l0 bt197.1 bt197.2 t201 bt215.1 bt215.2 (bt215.2 != bt197.2) a1_0 a1_1 a1_2 a1_3 a1_4 a1_5 a1_6 a1_7 a1_8 a1_9 a1_10) else (laws_FnExactDoTask.j0 k l0 bt197.1 bt197.2 t201 bt215.1 bt215.2 true a1_0 a1_1 a1_2 a1_3 a1_4 a1_5 a1_6 a1_7 a1_8 a1_9 a1_10))))))))))
theorem laws_FnExactDoTask.mono_l : ∀ k, (∀ y0 y1 y2 y3 y4 y5 y6 y7 y8 y9 y10 y11 y12 y13 y14 y15 y16 y17, LeO (laws_FnExactDoTask.j0 k y0 y1 y2 y3 y4 y5 y6 y7 y8 y9 y10 y11 y12 y13 y14 y15 y16 y17) (laws_FnExactDoTask.j0 (k + 1) y0 y1 y2 y3 y4 y5 y6 y7 y8 y9 y10 y11 y12 y13 y14 y15 y16 y17)) ∧ (∀ y0 y1 y2 y3 y4 y5 y6 y7 y8 y9 y10 y11 y12 y13 y14 y15, LeO (laws_FnExactDoTask.j1 k y0 y1 y2 y3 y4 y5 y6 y7 y8 y9 y10 y11 y12 y13 y14 y15) (laws_FnExactDoTask.j1 (k + 1) y0 y1 y2 y3 y4 y5 y6 y7 y8 y9 y10 y11 y12 y13 y14 y15)) ∧ (∀ y0 y1 y2, LeO (laws_FnExactDoTask.j2 k y0 y1 y2) (laws_FnExactDoTask.j2 (k + 1) y0 y1 y2))
 | 0 => ⟨fun _ _ _ _ _ _ _ _ _ _ _ _ _ _ _ _ _ _ r h => by simp [laws_FnExactDoTask.j0] at h, fun _ _ _ _ _ _ _ _ _ _ _ _ _ _ _ _ r h => by simp [laws_FnExactDoTask.j1] at h, fun _ _ _ r h => by simp [laws_FnExactDoTask.j2] at h⟩
 | k + 1 => by
  obtain ⟨ih0, ih1, ih2⟩ := laws_FnExactDoTask.mono_l k
  refine ⟨?_, ?_, ?_⟩
  ·
   intro y0 y1 y2 y3 y4 y5 y6 y7 y8 y9 y10 y11 y12 y13 y14 y15 y16 y17
   unfold laws_FnExactDoTask.j0
   repeat' first
   | (with_reducible exact ih0 _ _ _ _ _ _ _ _ _ _ _ _ _ _ _ _ _ _)
   | (with_reducible exact ih1 _ _ _ _ _ _ _ _ _ _ _ _ _ _ _ _)
   | (with_reducible exact ih2 _ _ _)
   | (with_reducible exact impl_DoTask.mono _ _ _ _ _ _ _ _ _ _ _ _ _)
   | (with_reducible exact laws_eqPairS.mono _ _ _)
   | (with_reducible exact laws_heldPairS.mono _ _ _)
   | (with_reducible exact laws_markPairS.mono _ _ _)
   | (with_reducible exact laws_toPairS.mono _ _)
   | (with_reducible exact spec_DoTask.mono _ _ _ _ _ _ _ _ _ _ _ _ _)
   | (with_reducible exact LeO.refl _)
   | (with_reducible exact LeO.none _)
   | (with_reducible refine LeO.ite ?_ ?_)
   | (with_reducible refine LeO.bind ?_ (fun _ => ?_))
   | exact ih0 _ _ _ _ _ _ _ _ _ _ _ _ _ _ _ _ _ _
   | exact ih1 _ _ _ _ _ _ _ _ _ _ _ _ _ _ _ _
   | exact ih2 _ _ _
   | exact impl_DoTask.mono _ _ _ _ _ _ _ _ _ _ _ _ _
   | exact laws_eqPairS.mono _ _ _
   | exact laws_heldPairS.mono _ _ _
   | exact laws_markPairS.mono _ _ _
   | exact laws_toPairS.mono _ _
   | exact spec_DoTask.mono _ _ _ _ _ _ _ _ _ _ _ _ _
   | exact LeO.none _
   | refine LeO.ite ?_ ?_
   | refine LeO.bind ?_ (fun _ => ?_)
  ·
   intro y0 y1 y2 y3 y4 y5 y6 y7 y8 y9 y10 y11 y12 y13 y14 y15
   unfold laws_FnExactDoTask.j1
   repeat' first
   | (with_reducible exact ih0 _ _ _ _ _ _ _ _ _ _ _ _ _ _ _ _ _ _)
   | (with_reducible exact ih1 _ _ _ _ _ _ _ _ _ _ _ _ _ _ _ _)
   | (with_reducible exact ih2 _ _ _)
   | (with_reducible exact impl_DoTask.mono _ _ _ _ _ _ _ _ _ _ _ _ _)
   | (with_reducible exact laws_eqPairS.mono _ _ _)
   | (with_reducible exact laws_heldPairS.mono _ _ _)
   | (with_reducible exact laws_markPairS.mono _ _ _)
   | (with_reducible exact laws_toPairS.mono _ _)
   | (with_reducible exact spec_DoTask.mono _ _ _ _ _ _ _ _ _ _ _ _ _)
   | (with_reducible exact LeO.refl _)
   | (with_reducible exact LeO.none _)
   | (with_reducible refine LeO.ite ?_ ?_)
   | (with_reducible refine LeO.bind ?_ (fun _ => ?_))
   | exact ih0 _ _ _ _ _ _ _ _ _ _ _ _ _ _ _ _ _ _
   | exact ih1 _ _ _ _ _ _ _ _ _ _ _ _ _ _ _ _
   | exact ih2 _ _ _
   | exact impl_DoTask.mono _ _ _ _ _ _ _ _ _ _ _ _ _
   | exact laws_eqPairS.mono _ _ _
   | exact laws_heldPairS.mono _ _ _
   | exact laws_markPairS.mono _ _ _
   | exact laws_toPairS.mono _ _
   | exact spec_DoTask.mono _ _ _ _ _ _ _ _ _ _ _ _ _
   | exact LeO.none _
   | refine LeO.ite ?_ ?_
   | refine LeO.bind ?_ (fun _ => ?_)
  ·
   intro y0 y1 y2
   unfold laws_FnExactDoTask.j2
   repeat' first
   | (with_reducible exact ih0 _ _ _ _ _ _ _ _ _ _ _ _ _ _ _ _ _ _)
   | (with_reducible exact ih1 _ _ _ _ _ _ _ _ _ _ _ _ _ _ _ _)
   | (with_reducible exact ih2 _ _ _)
   | (with_reducible exact impl_DoTask.mono _ _ _ _ _ _ _ _ _ _ _ _ _)
   | (with_reducible exact laws_eqPairS.mono _ _ _)
   | (with_reducible exact laws_heldPairS.mono _ _ _)
   | (with_reducible exact laws_markPairS.mono _ _ _)
   | (with_reducible exact laws_toPairS.mono _ _)
   | (with_reducible exact spec_DoTask.mono _ _ _ _ _ _ _ _ _ _ _ _ _)
   | (with_reducible exact LeO.refl _)
   | (with_reducible exact LeO.none _)
   | (with_reducible refine LeO.ite ?_ ?_)
   | (with_reducible refine LeO.bind ?_ (fun _ => ?_))
   | exact ih0 _ _ _ _ _ _ _ _ _ _ _ _ _ _ _ _ _ _
   | exact ih1 _ _ _ _ _ _ _ _ _ _ _ _ _ _ _ _
   | exact ih2 _ _ _
   | exact impl_DoTask.mono _ _ _ _ _ _ _ _ _ _ _ _ _
   | exact laws_eqPairS.mono _ _ _
   | exact laws_heldPairS.mono _ _ _
   | exact laws_markPairS.mono _ _ _
   | exact laws_toPairS.mono _ _
   | exact spec_DoTask.mono _ _ _ _ _ _ _ _ _ _ _ _ _
   | exact LeO.none _
   | refine LeO.ite ?_ ?_
   | refine LeO.bind ?_ (fun _ => ?_)
theorem laws_FnExactDoTask.mono : ∀ a0 a1 a2 a3 a4 a5 a6 a7 a8 a9 a10 a11 k, LeO (laws_FnExactDoTask.f k a0 a1 a2 a3 a4 a5 a6 a7 a8 a9 a10 a11) (laws_FnExactDoTask.f (k + 1) a0 a1 a2 a3 a4 a5 a6 a7 a8 a9 a10 a11) := by
 intro a0 a1 a2 a3 a4 a5 a6 a7 a8 a9 a10 a11 k
 obtain ⟨ih0, ih1, ih2⟩ := laws_FnExactDoTask.mono_l k
 unfold laws_FnExactDoTask.f
 repeat' first
   | (with_reducible exact ih0 _ _ _ _ _ _ _ _ _ _ _ _ _ _ _ _ _ _)
   | (with_reducible exact ih1 _ _ _ _ _ _ _ _ _ _ _ _ _ _ _ _)
   | (with_reducible exact ih2 _ _ _)
   | (with_reducible exact impl_DoTask.mono _ _ _ _ _ _ _ _ _ _ _ _ _)
   | (with_reducible exact laws_eqPairS.mono _ _ _)
   | (with_reducible exact laws_heldPairS.mono _ _ _)
   | (with_reducible exact laws_markPairS.mono _ _ _)
   | (with_reducible exact laws_toPairS.mono _ _)
   | (with_reducible exact spec_DoTask.mono _ _ _ _ _ _ _ _ _ _ _ _ _)
   | (with_reducible exact LeO.refl _)
   | (with_reducible exact LeO.none _)
   | (with_reducible refine LeO.ite ?_ ?_)
   | (with_reducible refine LeO.bind ?_ (fun _ => ?_))
   | exact ih0 _ _ _ _ _ _ _ _ _ _ _ _ _ _ _ _ _ _
   | exact ih1 _ _ _ _ _ _ _ _ _ _ _ _ _ _ _ _
   | exact ih2 _ _ _
   | exact impl_DoTask.mono _ _ _ _ _ _ _ _ _ _ _ _ _
   | exact laws_eqPairS.mono _ _ _
   | exact laws_heldPairS.mono _ _ _
   | exact laws_markPairS.mono _ _ _
   | exact laws_toPairS.mono _ _
   | exact spec_DoTask.mono _ _ _ _ _ _ _ _ _ _ _ _ _
   | exact LeO.none _
   | refine LeO.ite ?_ ?_
   | refine LeO.bind ?_ (fun _ => ?_)
def laws_FnExactDoTask.T5 : Bool × List (List Nat × List Nat) := (true, [([], []), ([0], [0]), ([], []), ([2, 1], [2]), ([1, 3, 3], [1, 3]), ([4], [4]), ([5], [5]), ([5], [5]), ([6, 4, 0, 1, 2, 3, 4, 5, 6], [6]), ([7, 8, 0, 1, 2, 3, 4, 5, 6, 7, 8], [7])])
def laws_FnExactDoTask.B5 : List Nat := [0, 1, 0, 7, 15, 31, 63, 63, 127, 511]
theorem laws_FnExactDoTask.tab5 : rtab .any (opsOf Try.f3 5) = laws_FnExactDoTask.T5 := by kernel_rfl
theorem laws_FnExactDoTask.bits5 : waitsOk laws_FnExactDoTask.T5.2 laws_FnExactDoTask.B5 = true := by kernel_rfl
def laws_FnExactDoTask.T24 : Bool × List (List Nat × List Nat) := (true, [([], []), ([0], [0]), ([], []), ([2, 1], [2]), ([1, 3, 3], [1, 3]), ([4], [4]), ([5], [5]), ([5], [5]), ([6, 4, 0, 1, 2, 3, 4, 5, 6], [6]), ([7, 8, 0, 1, 2, 3, 4, 5, 6, 7, 8], [7])])
def laws_FnExactDoTask.B24 : List Nat := [0, 1, 0, 7, 15, 31, 63, 63, 127, 511]
theorem laws_FnExactDoTask.tab24 : rtab .any (opsOf Try.f3 24) = laws_FnExactDoTask.T24 := by kernel_rfl
theorem laws_FnExactDoTask.bits24 : waitsOk laws_FnExactDoTask.T24.2 laws_FnExactDoTask.B24 = true := by kernel_rfl
set_option maxHeartbeats 8000000 in
set_option maxRecDepth 100000 in
theorem laws_FnExactDoTask.calls (k : Nat) (A0 : Option Addr) (c0 : Nat) (l0 : List (S73)) (a1_0 : Int) (a1_1 : Int) (a1_2 : Int) (a1_3 : Int) (a1_4 : Int) (a1_5 : Int) (a1_6 : Int) (a1_7 : Int) (a1_8 : Int) (a1_9 : Bool) (a1_10 : Int) (r : Bool) (w : World) (hr0 : Kd.C k73 w A0 l0.length l0) (hc0 : l0.length ≤ c0) (h : laws_FnExactDoTask.f k l0 a1_0 a1_1 a1_2 a1_3 a1_4 a1_5 a1_6 a1_7 a1_8 a1_9 a1_10 = some r) :
  Calls Try.prog 3 #[.slice A0 l0.length c0, .agg #[.int .i64 a1_0, .int .i64 a1_1, .int .i64 a1_2, .int .i64 a1_3, .int .i64 a1_4, .int .i64 a1_5, .int .i64 a1_6, .int .i64 a1_7, .int .i64 a1_8, .bool a1_9, .int .i64 a1_10]] w fun e w' => e = .returned (.bool r) ∧ Below w.heap.size w w' := by
 have hu24 := Try.underlying24
 have HR0 := Aside0.mk hr0
 have HC0 := Aside0.mk hc0
 clear hr0 hc0
 have HB := Aside0.mk (Below.refl w.heap.size w)
 have H : ((laws_szPairS.f l0 1048576).bind fun t182 => (if t182 < 0 then (some true) else ((laws_toPairS.f k l0).bind fun t183 => ((laws_toTask.f a1_0 a1_1 a1_2 a1_3 a1_4 a1_5 a1_6 a1_7 a1_8 a1_9 a1_10).bind fun bt186 => ((spec_DoTask.f k t183 bt186.1 bt186.2.1 bt186.2.2.1 bt186.2.2.2.1 bt186.2.2.2.2.1 bt186.2.2.2.2.2.1 bt186.2.2.2.2.2.2.1 bt186.2.2.2.2.2.2.2.1 bt186.2.2.2.2.2.2.2.2.1 bt186.2.2.2.2.2.2.2.2.2.1 bt186.2.2.2.2.2.2.2.2.2.2).bind fun bt197 => ((laws_toPairS.f k l0).bind fun t201 => ((laws_toTask.f a1_0 a1_1 a1_2 a1_3 a1_4 a1_5 a1_6 a1_7 a1_8 a1_9 a1_10).bind fun bt204 => ((impl_DoTask.f k t201 bt204.1 bt204.2.1 bt204.2.2.1 bt204.2.2.2.1 bt204.2.2.2.2.1 bt204.2.2.2.2.2.1 bt204.2.2.2.2.2.2.1 bt204.2.2.2.2.2.2.2.1 bt204.2.2.2.2.2.2.2.2.1 bt204.2.2.2.2.2.2.2.2.2.1 bt204.2.2.2.2.2.2.2.2.2.2).bind fun bt215 => ((laws_eqPairS.f k bt215.1 bt197.1).bind fun t219 => (if t219 = true then (laws_FnExactDoTask.j0 k l0 bt197.1 bt197.2 t201 bt215.1 bt215.2 (bt215.2 != bt197.2) a1_0 a1_1 a1_2 a1_3 a1_4 a1_5 a1_6 a1_7 a1_8 a1_9 a1_10) else (laws_FnExactDoTask.j0 k l0 bt197.1 bt197.2 t201 bt215.1 bt215.2 true a1_0 a1_1 a1_2 a1_3 a1_4 a1_5 a1_6 a1_7 a1_8 a1_9 a1_10))))))))))) = some r := h
 clear h
 replace H := Option.bind_eq_some_iff.mp H
 obtain ⟨t182, A30, H⟩ := H
 replace H : (if t182 < 0 then (some true) else ((laws_toPairS.f k l0).bind fun t183 => ((laws_toTask.f a1_0 a1_1 a1_2 a1_3 a1_4 a1_5 a1_6 a1_7 a1_8 a1_9 a1_10).bind fun bt186 => ((spec_DoTask.f k t183 bt186.1 bt186.2.1 bt186.2.2.1 bt186.2.2.2.1 bt186.2.2.2.2.1 bt186.2.2.2.2.2.1 bt186.2.2.2.2.2.2.1 bt186.2.2.2.2.2.2.2.1 bt186.2.2.2.2.2.2.2.2.1 bt186.2.2.2.2.2.2.2.2.2.1 bt186.2.2.2.2.2.2.2.2.2.2).bind fun bt197 => ((laws_toPairS.f k l0).bind fun t201 => ((laws_toTask.f a1_0 a1_1 a1_2 a1_3 a1_4 a1_5 a1_6 a1_7 a1_8 a1_9 a1_10).bind fun bt204 => ((impl_DoTask.f k t201 bt204.1 bt204.2.1 bt204.2.2.1 bt204.2.2.2.1 bt204.2.2.2.2.1 bt204.2.2.2.2.2.1 bt204.2.2.2.2.2.2.1 bt204.2.2.2.2.2.2.2.1 bt204.2.2.2.2.2.2.2.2.1 bt204.2.2.2.2.2.2.2.2.2.1 bt204.2.2.2.2.2.2.2.2.2.2).bind fun bt215 => ((laws_eqPairS.f k bt215.1 bt197.1).bind fun t219 => (if t219 = true then (laws_FnExactDoTask.j0 k l0 bt197.1 bt197.2 t201 bt215.1 bt215.2 (bt215.2 != bt197.2) a1_0 a1_1 a1_2 a1_3 a1_4 a1_5 a1_6 a1_7 a1_8 a1_9 a1_10) else (laws_FnExactDoTask.j0 k l0 bt197.1 bt197.2 t201 bt215.1 bt215.2 true a1_0 a1_1 a1_2 a1_3 a1_4 a1_5 a1_6 a1_7 a1_8 a1_9 a1_10)))))))))) = some r := H
 have A3 := Aside0.mk A30
 clear A30
 by_cases c4 : t182 < 0
 ·
  rw [if_pos c4] at H
  have c4b0 : decide (t182 < 0) = true := decide_eq_true c4
  clear c4
  obtain rfl := Option.some.inj H
  go_enter Try.func3, Try.ntmps3
  go_wp2_with (first | ((with_reducible refine gate_dst (N := 3) rfl ?_); refine bE 3 #[.int .i64 a1_0, .int .i64 a1_1, .int .i64 a1_2, .int .i64 a1_3, .int .i64 a1_4, .int .i64 a1_5, .int .i64 a1_6, .int .i64 a1_7, .int .i64 a1_8, .bool a1_9, .int .i64 a1_10] 24 ?_; intro gb181 hg w5 hbox hb; have BK181 := Aside0.mk (hbox); have GW181 : Aside0 (w.heap.size ≤ gb181) := GS; have GE181 : Aside0 (w.heap.size ≤ gb181) := GS; replace HB := Aside0.mk (below_step (BL) hb); clear hb hbox hg) | ((with_reducible refine gate_callee (f := 10) rfl ?_); refine goesL_ (some 18) rfl rfl Try.func10 (by kernel_rfl) rfl #[.slice A0 l0.length c0, .int .i64 1048576] rfl (MA) ?_; (with_reducible refine (laws_szPairS.calls _ _ l0 1048576 t182 _ ?side1 ?side2 A3.out).mono ?_); (case side1 => repeat (first | exact (Kd.C_below HR0.out HB.out) | (with_reducible refine Kd.C_alloc ?_ _) | (with_reducible refine Kd.C_drewN ?_ _) | (with_reducible refine Kd.C_drew ?_))); (case side2 => exact HC0.out); rintro e w' ⟨rfl, ⟨nd, rfl⟩⟩; refine ⟨_, rfl, ?_⟩))
  go_ret
  exact ⟨EE, BL⟩
 rw [if_neg c4] at H
 have c4b0 : decide (t182 < 0) = false := decide_eq_false c4
 clear c4
 replace H := Option.bind_eq_some_iff.mp H
 obtain ⟨t183, A60, H⟩ := H
 replace H : ((laws_toTask.f a1_0 a1_1 a1_2 a1_3 a1_4 a1_5 a1_6 a1_7 a1_8 a1_9 a1_10).bind fun bt186 => ((spec_DoTask.f k t183 bt186.1 bt186.2.1 bt186.2.2.1 bt186.2.2.2.1 bt186.2.2.2.2.1 bt186.2.2.2.2.2.1 bt186.2.2.2.2.2.2.1 bt186.2.2.2.2.2.2.2.1 bt186.2.2.2.2.2.2.2.2.1 bt186.2.2.2.2.2.2.2.2.2.1 bt186.2.2.2.2.2.2.2.2.2.2).bind fun bt197 => ((laws_toPairS.f k l0).bind fun t201 => ((laws_toTask.f a1_0 a1_1 a1_2 a1_3 a1_4 a1_5 a1_6 a1_7 a1_8 a1_9 a1_10).bind fun bt204 => ((impl_DoTask.f k t201 bt204.1 bt204.2.1 bt204.2.2.1 bt204.2.2.2.1 bt204.2.2.2.2.1 bt204.2.2.2.2.2.1 bt204.2.2.2.2.2.2.1 bt204.2.2.2.2.2.2.2.1 bt204.2.2.2.2.2.2.2.2.1 bt204.2.2.2.2.2.2.2.2.2.1 bt204.2.2.2.2.2.2.2.2.2.2).bind fun bt215 => ((laws_eqPairS.f k bt215.1 bt197.1).bind fun t219 => (if t219 = true then (laws_FnExactDoTask.j0 k l0 bt197.1 bt197.2 t201 bt215.1 bt215.2 (bt215.2 != bt197.2) a1_0 a1_1 a1_2 a1_3 a1_4 a1_5 a1_6 a1_7 a1_8 a1_9 a1_10) else (laws_FnExactDoTask.j0 k l0 bt197.1 bt197.2 t201 bt215.1 bt215.2 true a1_0 a1_1 a1_2 a1_3 a1_4 a1_5 a1_6 a1_7 a1_8 a1_9 a1_10)))))))) = some r := H
 have A6 := Aside0.mk A60
 clear A60
 replace H := Option.bind_eq_some_iff.mp H
 obtain ⟨⟨t186, t187, t188, t189, t190, t191, t192, t193, t194, t195, t196⟩, A70, H⟩ := H
 replace H : ((spec_DoTask.f k t183 t186 t187 t188 t189 t190 t191 t192 t193 t194 t195 t196).bind fun bt197 => ((laws_toPairS.f k l0).bind fun t201 => ((laws_toTask.f a1_0 a1_1 a1_2 a1_3 a1_4 a1_5 a1_6 a1_7 a1_8 a1_9 a1_10).bind fun bt204 => ((impl_DoTask.f k t201 bt204.1 bt204.2.1 bt204.2.2.1 bt204.2.2.2.1 bt204.2.2.2.2.1 bt204.2.2.2.2.2.1 bt204.2.2.2.2.2.2.1 bt204.2.2.2.2.2.2.2.1 bt204.2.2.2.2.2.2.2.2.1 bt204.2.2.2.2.2.2.2.2.2.1 bt204.2.2.2.2.2.2.2.2.2.2).bind fun bt215 => ((laws_eqPairS.f k bt215.1 bt197.1).bind fun t219 => (if t219 = true then (laws_FnExactDoTask.j0 k l0 bt197.1 bt197.2 t201 bt215.1 bt215.2 (bt215.2 != bt197.2) a1_0 a1_1 a1_2 a1_3 a1_4 a1_5 a1_6 a1_7 a1_8 a1_9 a1_10) else (laws_FnExactDoTask.j0 k l0 bt197.1 bt197.2 t201 bt215.1 bt215.2 true a1_0 a1_1 a1_2 a1_3 a1_4 a1_5 a1_6 a1_7 a1_8 a1_9 a1_10))))))) = some r := H
 have A7 := Aside0.mk A70
 clear A70
 replace H := Option.bind_eq_some_iff.mp H
 obtain ⟨⟨t197, t200⟩, A80, H⟩ := H
 replace H : ((laws_toPairS.f k l0).bind fun t201 => ((laws_toTask.f a1_0 a1_1 a1_2 a1_3 a1_4 a1_5 a1_6 a1_7 a1_8 a1_9 a1_10).bind fun bt204 => ((impl_DoTask.f k t201 bt204.1 bt204.2.1 bt204.2.2.1 bt204.2.2.2.1 bt204.2.2.2.2.1 bt204.2.2.2.2.2.1 bt204.2.2.2.2.2.2.1 bt204.2.2.2.2.2.2.2.1 bt204.2.2.2.2.2.2.2.2.1 bt204.2.2.2.2.2.2.2.2.2.1 bt204.2.2.2.2.2.2.2.2.2.2).bind fun bt215 => ((laws_eqPairS.f k bt215.1 t197).bind fun t219 => (if t219 = true then (laws_FnExactDoTask.j0 k l0 t197 t200 t201 bt215.1 bt215.2 (bt215.2 != t200) a1_0 a1_1 a1_2 a1_3 a1_4 a1_5 a1_6 a1_7 a1_8 a1_9 a1_10) else (laws_FnExactDoTask.j0 k l0 t197 t200 t201 bt215.1 bt215.2 true a1_0 a1_1 a1_2 a1_3 a1_4 a1_5 a1_6 a1_7 a1_8 a1_9 a1_10)))))) = some r := H
 have A8 := Aside0.mk A80
 clear A80
 replace H := Option.bind_eq_some_iff.mp H
 obtain ⟨t201, A90, H⟩ := H
 replace H : ((laws_toTask.f a1_0 a1_1 a1_2 a1_3 a1_4 a1_5 a1_6 a1_7 a1_8 a1_9 a1_10).bind fun bt204 => ((impl_DoTask.f k t201 bt204.1 bt204.2.1 bt204.2.2.1 bt204.2.2.2.1 bt204.2.2.2.2.1 bt204.2.2.2.2.2.1 bt204.2.2.2.2.2.2.1 bt204.2.2.2.2.2.2.2.1 bt204.2.2.2.2.2.2.2.2.1 bt204.2.2.2.2.2.2.2.2.2.1 bt204.2.2.2.2.2.2.2.2.2.2).bind fun bt215 => ((laws_eqPairS.f k bt215.1 t197).bind fun t219 => (if t219 = true then (laws_FnExactDoTask.j0 k l0 t197 t200 t201 bt215.1 bt215.2 (bt215.2 != t200) a1_0 a1_1 a1_2 a1_3 a1_4 a1_5 a1_6 a1_7 a1_8 a1_9 a1_10) else (laws_FnExactDoTask.j0 k l0 t197 t200 t201 bt215.1 bt215.2 true a1_0 a1_1 a1_2 a1_3 a1_4 a1_5 a1_6 a1_7 a1_8 a1_9 a1_10))))) = some r := H
 have A9 := Aside0.mk A90
 clear A90
 replace H := Option.bind_eq_some_iff.mp H
 obtain ⟨⟨t204, t205, t206, t207, t208, t209, t210, t211, t212, t213, t214⟩, A100, H⟩ := H
 replace H : ((impl_DoTask.f k t201 t204 t205 t206 t207 t208 t209 t210 t211 t212 t213 t214).bind fun bt215 => ((laws_eqPairS.f k bt215.1 t197).bind fun t219 => (if t219 = true then (laws_FnExactDoTask.j0 k l0 t197 t200 t201 bt215.1 bt215.2 (bt215.2 != t200) a1_0 a1_1 a1_2 a1_3 a1_4 a1_5 a1_6 a1_7 a1_8 a1_9 a1_10) else (laws_FnExactDoTask.j0 k l0 t197 t200 t201 bt215.1 bt215.2 true a1_0 a1_1 a1_2 a1_3 a1_4 a1_5 a1_6 a1_7 a1_8 a1_9 a1_10)))) = some r := H
 have A10 := Aside0.mk A100
 clear A100
 replace H := Option.bind_eq_some_iff.mp H
 obtain ⟨⟨t215, t218⟩, A110, H⟩ := H
 replace H : ((laws_eqPairS.f k t215 t197).bind fun t219 => (if t219 = true then (laws_FnExactDoTask.j0 k l0 t197 t200 t201 t215 t218 (t218 != t200) a1_0 a1_1 a1_2 a1_3 a1_4 a1_5 a1_6 a1_7 a1_8 a1_9 a1_10) else (laws_FnExactDoTask.j0 k l0 t197 t200 t201 t215 t218 true a1_0 a1_1 a1_2 a1_3 a1_4 a1_5 a1_6 a1_7 a1_8 a1_9 a1_10))) = some r := H
 have A11 := Aside0.mk A110
 clear A110
 have HC12 := Aside0.mk H
 clear H
 go_enter Try.func3, Try.ntmps3
 try go_wp2_with (first | ((with_reducible refine gate_dst (N := 3) rfl ?_); refine bE 3 #[.int .i64 a1_0, .int .i64 a1_1, .int .i64 a1_2, .int .i64 a1_3, .int .i64 a1_4, .int .i64 a1_5, .int .i64 a1_6, .int .i64 a1_7, .int .i64 a1_8, .bool a1_9, .int .i64 a1_10] 24 ?_; intro gb181 hg w13 hbox hb; have BK181 := Aside0.mk (hbox); have GW181 : Aside0 (w.heap.size ≤ gb181) := GS; have GE181 : Aside0 (w.heap.size ≤ gb181) := GS; replace HB := Aside0.mk (below_step (BL) hb); clear hb hbox hg) | ((with_reducible refine gate_callee (f := 10) rfl ?_); refine goesL_ (some 18) rfl rfl Try.func10 (by kernel_rfl) rfl #[.slice A0 l0.length c0, .int .i64 1048576] rfl (MA) ?_; (with_reducible refine (laws_szPairS.calls _ _ l0 1048576 t182 _ ?side1 ?side2 A3.out).mono ?_); (case side1 => repeat (first | exact (Kd.C_below HR0.out HB.out) | (with_reducible refine Kd.C_alloc ?_ _) | (with_reducible refine Kd.C_drewN ?_ _) | (with_reducible refine Kd.C_drew ?_))); (case side2 => exact HC0.out); rintro e w' ⟨rfl, ⟨nd, rfl⟩⟩; refine ⟨_, rfl, ?_⟩))
 (try (rw [drewN_self w13]; generalize hq_ : World.drewN w13 _ = w13; have n0_ : Aside0 (w13.heap[gb181]? = some (.cells #[.int .i64 a1_0, .int .i64 a1_1, .int .i64 a1_2, .int .i64 a1_3, .int .i64 a1_4, .int .i64 a1_5, .int .i64 a1_6, .int .i64 a1_7, .int .i64 a1_8, .bool a1_9, .int .i64 a1_10] 24 (0, 0))) := ⟨by rw [← hq_]; exact (BQ BK181.out)⟩; have n1_ : Aside0 (Below w.heap.size w w13) := ⟨by rw [← hq_]; exact (BL)⟩; clear BK181 HB hq_; have BK181 := n0_; have HB := n1_; clear n0_ n1_))
 have n0_ := Aside0.mk (blk_drew BK181.out)
 have n1_ := Aside0.mk (below_drew1 HB.out)
 clear BK181
 clear HB
 have BK181 := n0_
 have HB := n1_
 clear n0_ n1_
 refine start_ (n := 10) (S := fun w' => w'.cell? ⟨gb181, 0, none⟩ = some (.int .i64 a1_0) ∧ w'.cell? ⟨gb181, 1, none⟩ = some (.int .i64 a1_1) ∧ w'.cell? ⟨gb181, 2, none⟩ = some (.int .i64 a1_2) ∧ w'.cell? ⟨gb181, 3, none⟩ = some (.int .i64 a1_3) ∧ w'.cell? ⟨gb181, 4, none⟩ = some (.int .i64 a1_4) ∧ w'.cell? ⟨gb181, 5, none⟩ = some (.int .i64 a1_5) ∧ w'.cell? ⟨gb181, 6, none⟩ = some (.int .i64 a1_6) ∧ w'.cell? ⟨gb181, 7, none⟩ = some (.int .i64 a1_7) ∧ w'.cell? ⟨gb181, 8, none⟩ = some (.int .i64 a1_8) ∧ w'.cell? ⟨gb181, 9, none⟩ = some (.bool a1_9) ∧ w'.cell? ⟨gb181, 10, none⟩ = some (.int .i64 a1_10)) (ds := []) #[false, false, false, false, false, false, false, false, false, false] (by kernel_rfl) rfl rfl ⟨CZ BK181.out 0, CZ BK181.out 1, CZ BK181.out 2, CZ BK181.out 3, CZ BK181.out 4, CZ BK181.out 5, CZ BK181.out 6, CZ BK181.out 7, CZ BK181.out 8, CZ BK181.out 9, CZ BK181.out 10⟩ (fun hHeld => ?_); refine with_tabW laws_FnExactDoTask.tab5 laws_FnExactDoTask.bits5 (fun HT_ HW_ => ?_)
 generalize w13.drew = w14 at BK181 HB hHeld ⊢
 refine pV 0 22 (OB 10 1) ?_
 refine take_ (i := 2) (N := some 24) (v := ?_) (a' := ?_) (OB 10 5) rfl rfl (take_ofW HT_.out HW_.out (by kernel_rfl)) (fun _ _ _ h => h) (Or.inl ⟨by rfl, ?_⟩) hHeld ?_ ?_
 rotate_left
 ·
  rintro w' ⟨s0, s1, s2, s3, s4, s5, s6, s7, s8, s9, s10⟩
  go_simp
  with_reducible rfl
 rotate_left
 ·
  simp only [Act.put, zA, zB, zC, i64_w, i32_w]
  rfl
 refine one_ (i := 1) (N := some 23) (OB 10 7) rfl rfl (one_of HT_.out (by kernel_rfl)) (by decide) (fun K hK => ?_)
 refine goes_ Try.func12 (by kernel_rfl) rfl #[.slice A0 l0.length c0] (by rfl) rfl rfl (MA) ?_
 with_reducible refine (laws_toPairS.calls k _ _ l0 t183 _ ?side1 ?side2 A6.out).mono ?_
 (case side1 => repeat (first | exact (Kd.C_below HR0.out HB.out) | (with_reducible refine Kd.C_alloc ?_ _) | (with_reducible refine Kd.C_drewN ?_ _) | (with_reducible refine Kd.C_drew ?_)))
 (case side2 => exact HC0.out)
 rintro e w15 ⟨v184, rfl, ho0, hb⟩
 refine ⟨_, rfl, ?_⟩
 have n0_ := Aside0.mk (Kd.R_lower ho0 (below_size (BL)))
 have n1_ := BB BK181.out hb
 have n2_ := Aside0.mk (below_step (BL) hb)
 clear BK181
 clear HB
 have HO185 := n0_
 have BK181 := n1_
 have HB := n2_
 clear n0_ n1_ n2_
 (try clear hb)
 (try clear hb2)
 (try clear hk)
 (try clear hi)
 (try clear ho0)
 refine hK.out _ _ ⟨CZ BK181.out 0, CZ BK181.out 1, CZ BK181.out 2, CZ BK181.out 3, CZ BK181.out 4, CZ BK181.out 5, CZ BK181.out 6, CZ BK181.out 7, CZ BK181.out 8, CZ BK181.out 9, CZ BK181.out 10⟩ (fun hHeld => ?_)
 clear hK K
 refine norm_ (a' := ?_) ?_ ?_
 rotate_left
 ·
  show Act.put _ (some 23) _ = _
  simp only [Act.put, zA, zB, zC, i64_w, i32_w]
  rfl
 refine one_ (i := 3) (N := some 25) (OB 10 15) rfl rfl (one_of HT_.out (by kernel_rfl)) (by decide) (fun K hK => ?_)
 refine goes_ Try.func13 (by kernel_rfl) rfl #[.agg #[.int .i64 a1_0, .int .i64 a1_1, .int .i64 a1_2, .int .i64 a1_3, .int .i64 a1_4, .int .i64 a1_5, .int .i64 a1_6, .int .i64 a1_7, .int .i64 a1_8, .bool a1_9, .int .i64 a1_10]] (by rfl) rfl rfl (MA) ?_
 with_reducible refine (laws_toTask.calls a1_0 a1_1 a1_2 a1_3 a1_4 a1_5 a1_6 a1_7 a1_8 a1_9 a1_10 t186 t187 t188 t189 t190 t191 t192 t193 t194 t195 t196 _ A7.out).mono ?_
 rintro e w16 ⟨rfl, hb⟩
 refine ⟨_, rfl, ?_⟩
 have n0_ := Aside0.mk (Kd.R_below (RQ HO185.out) hb)
 have n1_ := BB BK181.out hb
 have n2_ := Aside0.mk (below_step (BL) hb)
 clear HO185
 clear BK181
 clear HB
 have HO185 := n0_
 have BK181 := n1_
 have HB := n2_
 clear n0_ n1_ n2_
 (try clear hb)
 (try clear hb2)
 (try clear hk)
 (try clear hi)
 obtain ⟨Ao17, co17, eo17⟩ := Kd.R_slice HO185.out
 (first | subst eo17 | (injection eo17 with f1_ f2_ f3_; have f4_ := f1_.symm; have f5_ := f3_.symm; clear f1_ f2_ f3_; subst f4_; subst f5_))
 refine hK.out _ _ ⟨CZ BK181.out 0, CZ BK181.out 1, CZ BK181.out 2, CZ BK181.out 3, CZ BK181.out 4, CZ BK181.out 5, CZ BK181.out 6, CZ BK181.out 7, CZ BK181.out 8, CZ BK181.out 9, CZ BK181.out 10⟩ (fun hHeld => ?_)
 clear hK K
 refine norm_ (a' := ?_) ?_ ?_
 rotate_left
 ·
  show Act.put _ (some 25) _ = _
  simp only [Act.put, zA, zB, zC, i64_w, i32_w]
  rfl
 refine one_ (i := 4) (N := some 26) (OB 10 31) rfl rfl (one_of HT_.out (by kernel_rfl)) (by decide) (fun K hK => ?_)
 refine goes_ Try.func11 (by kernel_rfl) rfl #[.slice Ao17 t183.length co17, .agg #[.int .i64 t186, .int .i64 t187, .int .i64 t188, .int .i64 t189, .int .i64 t190, .int .i64 t191, .int .i64 t192, .int .i64 t193, .int .i64 t194, .bool t195, .int .i64 t196]] (by rfl) rfl rfl (MA) ?_
 with_reducible refine (spec_DoTask.calls k _ _ t183 t186 t187 t188 t189 t190 t191 t192 t193 t194 t195 t196 t197 t200 _ ?side1 ?side2 A8.out).mono ?_
 (case side1 => repeat (first | exact (Kd.R_reads' HO185.out).2.2 | (with_reducible refine Kd.C_alloc ?_ _) | (with_reducible refine Kd.C_drewN ?_ _) | (with_reducible refine Kd.C_drew ?_)))
 (case side2 => exact (Kd.R_reads' HO185.out).2.1)
 rintro e w18 ⟨v198, rfl, ho0, hb⟩
 refine ⟨_, rfl, ?_⟩
 have n0_ := Aside0.mk (Kd.R_elder' (RQ HO185.out) (Kd.R_base ho0) hb)
 have n1_ := Aside0.mk (Kd.R_lower (Kd.R_new' ho0 (Kd.R_lt (RQ HO185.out))) (below_size (BL)))
 have n2_ := BB BK181.out hb
 have n3_ := Aside0.mk (below_step (BL) hb)
 clear HO185
 clear BK181
 clear HB
 have HO185 := n0_
 have HO199 := n1_
 have BK181 := n2_
 have HB := n3_
 clear n0_ n1_ n2_ n3_
 (try clear hb)
 (try clear hb2)
 (try clear hk)
 (try clear hi)
 (try clear ho0)
 refine hK.out _ _ ⟨CZ BK181.out 0, CZ BK181.out 1, CZ BK181.out 2, CZ BK181.out 3, CZ BK181.out 4, CZ BK181.out 5, CZ BK181.out 6, CZ BK181.out 7, CZ BK181.out 8, CZ BK181.out 9, CZ BK181.out 10⟩ (fun hHeld => ?_)
 clear hK K
 refine norm_ (a' := ?_) ?_ ?_
 rotate_left
 ·
  show Act.put _ (some 26) _ = _
  simp only [Act.put, zA, zB, zC, i64_w, i32_w]
  rfl
 refine pV 5 21 (OB 10 63) ?_
 refine pV 6 27 (OB 10 127) ?_
 refine pV 7 28 (OB 10 255) ?_
 refine pV 8 6 (OB 10 511) ?_
 refine pV 9 7 (OB 10 1023) ?_
 refine done_ (done_of HT_.out (by kernel_rfl)) ?_
 go_upto_region 8 with (first | ((with_reducible refine gate_callee (f := 12) rfl ?_); refine goesL_ (some 30) rfl rfl Try.func12 (by kernel_rfl) rfl #[.slice A0 l0.length c0] rfl (MA) ?_; (with_reducible refine (laws_toPairS.calls k _ _ l0 t201 _ ?side1 ?side2 A9.out).mono ?_); (case side1 => repeat (first | exact (Kd.C_below HR0.out HB.out) | (with_reducible refine Kd.C_alloc ?_ _) | (with_reducible refine Kd.C_drewN ?_ _) | (with_reducible refine Kd.C_drew ?_))); (case side2 => exact HC0.out); rintro e w19 ⟨v202, rfl, ho0, hb⟩; refine ⟨_, rfl, ?_⟩; have HO203 := Aside0.mk (Kd.R_lower (Kd.R_new' (Kd.R_new' ho0 (Kd.R_lt (RQ HO185.out))) (Kd.R_lt (RQ HO199.out))) (below_size (BL))); replace HO185 := Aside0.mk (Kd.R_elder' (RQ HO185.out) (Kd.R_base ho0) hb); replace HO199 := Aside0.mk (Kd.R_elder' (RQ HO199.out) (Kd.R_base ho0) hb); replace BK181 := BB BK181.out hb; replace HB := Aside0.mk (below_step (BL) hb); (try clear hb); (try clear hb2); (try clear hk); (try clear hi); (try clear ho0); have hcz20_0 : w19.cell? ⟨gb181, 0, none⟩ = some (.int .i64 a1_0) := CZ BK181.out 0; have hcz20_1 : w19.cell? ⟨gb181, 1, none⟩ = some (.int .i64 a1_1) := CZ BK181.out 1; have hcz20_2 : w19.cell? ⟨gb181, 2, none⟩ = some (.int .i64 a1_2) := CZ BK181.out 2; have hcz20_3 : w19.cell? ⟨gb181, 3, none⟩ = some (.int .i64 a1_3) := CZ BK181.out 3; have hcz20_4 : w19.cell? ⟨gb181, 4, none⟩ = some (.int .i64 a1_4) := CZ BK181.out 4; have hcz20_5 : w19.cell? ⟨gb181, 5, none⟩ = some (.int .i64 a1_5) := CZ BK181.out 5; have hcz20_6 : w19.cell? ⟨gb181, 6, none⟩ = some (.int .i64 a1_6) := CZ BK181.out 6; have hcz20_7 : w19.cell? ⟨gb181, 7, none⟩ = some (.int .i64 a1_7) := CZ BK181.out 7; have hcz20_8 : w19.cell? ⟨gb181, 8, none⟩ = some (.int .i64 a1_8) := CZ BK181.out 8; have hcz20_9 : w19.cell? ⟨gb181, 9, none⟩ = some (.bool a1_9) := CZ BK181.out 9; have hcz20_10 : w19.cell? ⟨gb181, 10, none⟩ = some (.int .i64 a1_10) := CZ BK181.out 10; have hfz20_0 := blk_frozen BK181.out 0; have hfz20_1 := blk_frozen BK181.out 1; have hfz20_2 := blk_frozen BK181.out 2; have hfz20_3 := blk_frozen BK181.out 3; have hfz20_4 := blk_frozen BK181.out 4; have hfz20_5 := blk_frozen BK181.out 5; have hfz20_6 := blk_frozen BK181.out 6; have hfz20_7 := blk_frozen BK181.out 7; have hfz20_8 := blk_frozen BK181.out 8; have hfz20_9 := blk_frozen BK181.out 9; have hfz20_10 := blk_frozen BK181.out 10) | ((with_reducible refine gate_callee (f := 13) rfl ?_); refine goesL_ (some 34) rfl rfl Try.func13 (by kernel_rfl) rfl #[.agg #[.int .i64 a1_0, .int .i64 a1_1, .int .i64 a1_2, .int .i64 a1_3, .int .i64 a1_4, .int .i64 a1_5, .int .i64 a1_6, .int .i64 a1_7, .int .i64 a1_8, .bool a1_9, .int .i64 a1_10]] rfl (MA) ?_; (with_reducible refine (laws_toTask.calls a1_0 a1_1 a1_2 a1_3 a1_4 a1_5 a1_6 a1_7 a1_8 a1_9 a1_10 t204 t205 t206 t207 t208 t209 t210 t211 t212 t213 t214 _ A10.out).mono ?_); rintro e w21 ⟨rfl, hb⟩; refine ⟨_, rfl, ?_⟩; replace HO185 := Aside0.mk (Kd.R_below (RQ HO185.out) hb); replace HO199 := Aside0.mk (Kd.R_below (RQ HO199.out) hb); replace HO203 := Aside0.mk (Kd.R_below (RQ HO203.out) hb); replace BK181 := BB BK181.out hb; replace HB := Aside0.mk (below_step (BL) hb); (try clear hb); (try clear hb2); (try clear hk); (try clear hi); obtain ⟨Ao22, co22, eo22⟩ := Kd.R_slice HO203.out; subst eo22) | ((with_reducible refine gate_callee (f := 14) rfl ?_); refine goesL_ (some 35) rfl rfl Try.func14 (by kernel_rfl) rfl #[.slice Ao22 t201.length co22, .agg #[.int .i64 t204, .int .i64 t205, .int .i64 t206, .int .i64 t207, .int .i64 t208, .int .i64 t209, .int .i64 t210, .int .i64 t211, .int .i64 t212, .bool t213, .int .i64 t214]] rfl (MA) ?_; (with_reducible refine (impl_DoTask.calls k _ _ t201 t204 t205 t206 t207 t208 t209 t210 t211 t212 t213 t214 t215 t218 _ ?side1 ?side2 A11.out).mono ?_); (case side1 => repeat (first | exact (Kd.R_reads' HO203.out).2.2 | (with_reducible refine Kd.C_alloc ?_ _) | (with_reducible refine Kd.C_drewN ?_ _) | (with_reducible refine Kd.C_drew ?_))); (case side2 => exact (Kd.R_reads' HO203.out).2.1); rintro e w23 ⟨v216, rfl, ho0, hb⟩; refine ⟨_, rfl, ?_⟩; have HO217 := Aside0.mk (Kd.R_lower (Kd.R_new' (Kd.R_new' (Kd.R_new' ho0 (Kd.R_lt (RQ HO185.out))) (Kd.R_lt (RQ HO199.out))) (Kd.R_lt (RQ HO203.out))) (below_size (BL))); replace HO185 := Aside0.mk (Kd.R_elder' (RQ HO185.out) (Kd.R_base ho0) hb); replace HO199 := Aside0.mk (Kd.R_elder' (RQ HO199.out) (Kd.R_base ho0) hb); replace HO203 := Aside0.mk (Kd.R_elder' (RQ HO203.out) (Kd.R_base ho0) hb); replace BK181 := BB BK181.out hb; replace HB := Aside0.mk (below_step (BL) hb); (try clear hb); (try clear hb2); (try clear hk); (try clear hi); (try clear ho0)))
 (try simp only [Act.put, zA, zB, zC])
 go_cut [46] (fun v46 wc => ∃ (kq : Nat) (x46_11 : Bool), v46 = .bool x46_11 ∧ Aside0 (laws_FnExactDoTask.j0 kq l0 t197 t200 t201 t215 t218 x46_11 a1_0 a1_1 a1_2 a1_3 a1_4 a1_5 a1_6 a1_7 a1_8 a1_9 a1_10 = some r) ∧ Aside0 (kq ≤ k) ∧ Aside0 (Kd.R k71 71 wc w.heap.size (fun k_ => some k_ ≠ ((.slice Ao22 t201.length co22) : Value).ownBlock ∧ some k_ ≠ (v216 : Value).ownBlock) v198 t197) ∧ Aside0 (Kd.R k71 71 wc w.heap.size (fun k_ => some k_ ≠ (v198 : Value).ownBlock ∧ some k_ ≠ (v216 : Value).ownBlock) (.slice Ao22 t201.length co22) t201) ∧ Aside0 (Kd.R k71 71 wc w.heap.size (fun k_ => some k_ ≠ (v198 : Value).ownBlock ∧ some k_ ≠ ((.slice Ao22 t201.length co22) : Value).ownBlock) v216 t215) ∧ Aside0 (wc.heap[gb181]? = some (.cells #[.int .i64 a1_0, .int .i64 a1_1, .int .i64 a1_2, .int .i64 a1_3, .int .i64 a1_4, .int .i64 a1_5, .int .i64 a1_6, .int .i64 a1_7, .int .i64 a1_8, .bool a1_9, .int .i64 a1_10] 24 (0, 0))) ∧ Aside0 (Below w.heap.size w wc))
 case first =>
  have H := HC12.out
  clear HC12
  replace H := Option.bind_eq_some_iff.mp H
  obtain ⟨t219, A240, H⟩ := H
  replace H : (if t219 = true then (laws_FnExactDoTask.j0 k l0 t197 t200 t201 t215 t218 (t218 != t200) a1_0 a1_1 a1_2 a1_3 a1_4 a1_5 a1_6 a1_7 a1_8 a1_9 a1_10) else (laws_FnExactDoTask.j0 k l0 t197 t200 t201 t215 t218 true a1_0 a1_1 a1_2 a1_3 a1_4 a1_5 a1_6 a1_7 a1_8 a1_9 a1_10)) = some r := H
  have A24 := Aside0.mk A240
  clear A240
  by_cases c25 : t219 = true
  ·
   subst c25
   have H1 : (laws_FnExactDoTask.j0 k l0 t197 t200 t201 t215 t218 (t218 != t200) a1_0 a1_1 a1_2 a1_3 a1_4 a1_5 a1_6 a1_7 a1_8 a1_9 a1_10) = some r := by rw [if_pos rfl] at H; exact H
   clear H
   have H := H1
   clear H1
   have H' := Aside0.mk H
   clear H
   obtain ⟨Ao26, co26, eo26⟩ := Kd.R_slice HO217.out
   subst eo26
   obtain ⟨Ao27, co27, eo27⟩ := Kd.R_slice HO199.out
   subst eo27
   go_wp2_with (first | ((with_reducible refine gate_callee (f := 15) rfl ?_); refine goesL_ (some 40) rfl rfl Try.func15 (by kernel_rfl) rfl #[.slice Ao26 t215.length co26, .slice Ao27 t197.length co27] rfl (MA) ?_; (with_reducible refine (laws_eqPairS.calls k _ _ t215 _ _ t197 true _ ?side1 ?side2 ?side3 ?side4 A24.out).mono ?_); (case side1 => repeat (first | exact (Kd.R_reads' HO217.out).2.2 | (with_reducible refine Kd.C_alloc ?_ _) | (with_reducible refine Kd.C_drewN ?_ _) | (with_reducible refine Kd.C_drew ?_))); (case side2 => exact (Kd.R_reads' HO217.out).2.1); (case side3 => repeat (first | exact (Kd.R_reads' HO199.out).2.2 | (with_reducible refine Kd.C_alloc ?_ _) | (with_reducible refine Kd.C_drewN ?_ _) | (with_reducible refine Kd.C_drew ?_))); (case side4 => exact (Kd.R_reads' HO199.out).2.1); rintro e w28 ⟨rfl, hb⟩; refine ⟨_, rfl, ?_⟩; replace HO185 := Aside0.mk (Kd.R_below (RQ HO185.out) hb); replace HO199 := Aside0.mk (Kd.R_below (RQ HO199.out) hb); replace HO203 := Aside0.mk (Kd.R_below (RQ HO203.out) hb); replace HO217 := Aside0.mk (Kd.R_below (RQ HO217.out) hb); replace BK181 := BB BK181.out hb; replace HB := Aside0.mk (below_step (BL) hb); (try clear hb); (try clear hb2); (try clear hk); (try clear hi)))
   go_meet
   case rel => exact ⟨_, ((t218 != t200)), SD, H', ⟨by first | omega | exact Nat.le_refl _⟩, ⟨by (with_reducible repeat (first | apply r1 | apply r2 | apply r3)); exact Kd.R_mono HO199.out (fun _ hk => ⟨hk.1.2, hk.2⟩)⟩, ⟨by (with_reducible repeat (first | apply r1 | apply r2 | apply r3)); exact Kd.R_mono HO203.out (fun _ hk => ⟨hk.1.2, hk.2⟩)⟩, ⟨by (with_reducible repeat (first | apply r1 | apply r2 | apply r3)); exact Kd.R_mono HO217.out (fun _ hk => ⟨hk.1.2, hk.2⟩)⟩, ⟨BQ BK181.out⟩, ⟨BL⟩⟩
  replace c25 := Bool.eq_false_iff.mpr c25
  subst c25
  have H1 : (laws_FnExactDoTask.j0 k l0 t197 t200 t201 t215 t218 true a1_0 a1_1 a1_2 a1_3 a1_4 a1_5 a1_6 a1_7 a1_8 a1_9 a1_10) = some r := by rw [if_neg (show ¬ (false = true) by decide)] at H; exact H
  clear H
  have H := H1
  clear H1
  have H' := Aside0.mk H
  clear H
  obtain ⟨Ao29, co29, eo29⟩ := Kd.R_slice HO217.out
  subst eo29
  obtain ⟨Ao30, co30, eo30⟩ := Kd.R_slice HO199.out
  subst eo30
  go_wp2_with (first | ((with_reducible refine gate_callee (f := 15) rfl ?_); refine goesL_ (some 40) rfl rfl Try.func15 (by kernel_rfl) rfl #[.slice Ao29 t215.length co29, .slice Ao30 t197.length co30] rfl (MA) ?_; (with_reducible refine (laws_eqPairS.calls k _ _ t215 _ _ t197 false _ ?side1 ?side2 ?side3 ?side4 A24.out).mono ?_); (case side1 => repeat (first | exact (Kd.R_reads' HO217.out).2.2 | (with_reducible refine Kd.C_alloc ?_ _) | (with_reducible refine Kd.C_drewN ?_ _) | (with_reducible refine Kd.C_drew ?_))); (case side2 => exact (Kd.R_reads' HO217.out).2.1); (case side3 => repeat (first | exact (Kd.R_reads' HO199.out).2.2 | (with_reducible refine Kd.C_alloc ?_ _) | (with_reducible refine Kd.C_drewN ?_ _) | (with_reducible refine Kd.C_drew ?_))); (case side4 => exact (Kd.R_reads' HO199.out).2.1); rintro e w31 ⟨rfl, hb⟩; refine ⟨_, rfl, ?_⟩; replace HO185 := Aside0.mk (Kd.R_below (RQ HO185.out) hb); replace HO199 := Aside0.mk (Kd.R_below (RQ HO199.out) hb); replace HO203 := Aside0.mk (Kd.R_below (RQ HO203.out) hb); replace HO217 := Aside0.mk (Kd.R_below (RQ HO217.out) hb); replace BK181 := BB BK181.out hb; replace HB := Aside0.mk (below_step (BL) hb); (try clear hb); (try clear hb2); (try clear hk); (try clear hi)))
  go_meet
  case rel => exact ⟨_, (true), SD, H', ⟨by first | omega | exact Nat.le_refl _⟩, ⟨by (with_reducible repeat (first | apply r1 | apply r2 | apply r3)); exact Kd.R_mono HO199.out (fun _ hk => ⟨hk.1.2, hk.2⟩)⟩, ⟨by (with_reducible repeat (first | apply r1 | apply r2 | apply r3)); exact Kd.R_mono HO203.out (fun _ hk => ⟨hk.1.2, hk.2⟩)⟩, ⟨by (with_reducible repeat (first | apply r1 | apply r2 | apply r3)); exact Kd.R_mono HO217.out (fun _ hk => ⟨hk.1.2, hk.2⟩)⟩, ⟨BQ BK181.out⟩, ⟨BL⟩⟩
 case rest =>
  clear HC12
  try clear c1
  try clear c2
  try clear p2
  try clear c3
  try clear c4
  try clear c4b0
  try clear c10
  try clear c11
  try clear c12
  try clear c13
  try clear c14
  try clear c15
  try clear c25
  try clear hcz20_0
  try clear hcz20_1
  try clear hcz20_10
  try clear hcz20_2
  try clear hcz20_3
  try clear hcz20_4
  try clear hcz20_5
  try clear hcz20_6
  try clear hcz20_7
  try clear hcz20_8
  try clear hcz20_9
  try clear hfz20_0
  try clear hfz20_1
  try clear hfz20_10
  try clear hfz20_2
  try clear hfz20_3
  try clear hfz20_4
  try clear hfz20_5
  try clear hfz20_6
  try clear hfz20_7
  try clear hfz20_8
  try clear hfz20_9
  obtain ⟨kq, x46_11, rfl, HA, HJ11, HO_6, HO_8, HO_9, BK181, HB⟩ := hcut
  cases kq with
  | zero => exact absurd HA.out (by simp [laws_FnExactDoTask.j0])
  | succ kj11 =>
   have H := HA.out
   clear HA
   simp only [laws_FnExactDoTask.j0] at H
   by_cases c32 : x46_11 = true
   ·
    subst c32
    have H1 : (none) = some r := by rw [if_pos rfl] at H; exact H
    clear H
    have H := H1
    clear H1
    exact absurd H (by simp)
   replace c32 := Bool.eq_false_iff.mpr c32
   subst c32
   have H1 : ((laws_toPairS.f kj11 l0).bind fun t220 => ((laws_eqPairS.f kj11 t201 t220).bind fun t223 => (if t223 = true then ((laws_markPairS.f kj11 t201 1).bind fun bt224 => (if bt224.1 < 0 then (laws_FnExactDoTask.j1 kj11 l0 t197 t200 t215 true a1_0 a1_1 a1_2 a1_3 a1_4 a1_5 a1_6 a1_7 a1_8 a1_9 a1_10) else ((laws_eqPairS.f kj11 t215 t197).bind fun t226 => (if t226 = true then (laws_FnExactDoTask.j1 kj11 l0 t197 t200 t215 (t218 != t200) a1_0 a1_1 a1_2 a1_3 a1_4 a1_5 a1_6 a1_7 a1_8 a1_9 a1_10) else (laws_FnExactDoTask.j1 kj11 l0 t197 t200 t215 true a1_0 a1_1 a1_2 a1_3 a1_4 a1_5 a1_6 a1_7 a1_8 a1_9 a1_10))))) else (none)))) = some r := by rw [if_neg (show ¬ (false = true) by decide)] at H; exact H
   clear H
   have H := H1
   clear H1
   replace H := Option.bind_eq_some_iff.mp H
   obtain ⟨t220, A330, H⟩ := H
   replace H : ((laws_eqPairS.f kj11 t201 t220).bind fun t223 => (if t223 = true then ((laws_markPairS.f kj11 t201 1).bind fun bt224 => (if bt224.1 < 0 then (laws_FnExactDoTask.j1 kj11 l0 t197 t200 t215 true a1_0 a1_1 a1_2 a1_3 a1_4 a1_5 a1_6 a1_7 a1_8 a1_9 a1_10) else ((laws_eqPairS.f kj11 t215 t197).bind fun t226 => (if t226 = true then (laws_FnExactDoTask.j1 kj11 l0 t197 t200 t215 (t218 != t200) a1_0 a1_1 a1_2 a1_3 a1_4 a1_5 a1_6 a1_7 a1_8 a1_9 a1_10) else (laws_FnExactDoTask.j1 kj11 l0 t197 t200 t215 true a1_0 a1_1 a1_2 a1_3 a1_4 a1_5 a1_6 a1_7 a1_8 a1_9 a1_10))))) else (none))) = some r := H
   have A33 := Aside0.mk A330
   clear A330
   replace H := Option.bind_eq_some_iff.mp H
   obtain ⟨t223, A340, H⟩ := H
   replace H : (if t223 = true then ((laws_markPairS.f kj11 t201 1).bind fun bt224 => (if bt224.1 < 0 then (laws_FnExactDoTask.j1 kj11 l0 t197 t200 t215 true a1_0 a1_1 a1_2 a1_3 a1_4 a1_5 a1_6 a1_7 a1_8 a1_9 a1_10) else ((laws_eqPairS.f kj11 t215 t197).bind fun t226 => (if t226 = true then (laws_FnExactDoTask.j1 kj11 l0 t197 t200 t215 (t218 != t200) a1_0 a1_1 a1_2 a1_3 a1_4 a1_5 a1_6 a1_7 a1_8 a1_9 a1_10) else (laws_FnExactDoTask.j1 kj11 l0 t197 t200 t215 true a1_0 a1_1 a1_2 a1_3 a1_4 a1_5 a1_6 a1_7 a1_8 a1_9 a1_10))))) else (none)) = some r := H
   have A34 := Aside0.mk A340
   clear A340
   by_cases c35 : t223 = true; rotate_left
   ·
    replace c35 := Bool.eq_false_iff.mpr c35
    subst c35
    have H1 : (none) = some r := by rw [if_neg (show ¬ (false = true) by decide)] at H; exact H
    clear H
    have H := H1
    clear H1
    exact absurd H (by simp)
   subst c35
   have H1 : ((laws_markPairS.f kj11 t201 1).bind fun bt224 => (if bt224.1 < 0 then (laws_FnExactDoTask.j1 kj11 l0 t197 t200 t215 true a1_0 a1_1 a1_2 a1_3 a1_4 a1_5 a1_6 a1_7 a1_8 a1_9 a1_10) else ((laws_eqPairS.f kj11 t215 t197).bind fun t226 => (if t226 = true then (laws_FnExactDoTask.j1 kj11 l0 t197 t200 t215 (t218 != t200) a1_0 a1_1 a1_2 a1_3 a1_4 a1_5 a1_6 a1_7 a1_8 a1_9 a1_10) else (laws_FnExactDoTask.j1 kj11 l0 t197 t200 t215 true a1_0 a1_1 a1_2 a1_3 a1_4 a1_5 a1_6 a1_7 a1_8 a1_9 a1_10))))) = some r := by rw [if_pos rfl] at H; exact H
   clear H
   have H := H1
   clear H1
   replace H := Option.bind_eq_some_iff.mp H
   obtain ⟨⟨t224, t225⟩, A360, H⟩ := H
   replace H : (if t224 < 0 then (laws_FnExactDoTask.j1 kj11 l0 t197 t200 t215 true a1_0 a1_1 a1_2 a1_3 a1_4 a1_5 a1_6 a1_7 a1_8 a1_9 a1_10) else ((laws_eqPairS.f kj11 t215 t197).bind fun t226 => (if t226 = true then (laws_FnExactDoTask.j1 kj11 l0 t197 t200 t215 (t218 != t200) a1_0 a1_1 a1_2 a1_3 a1_4 a1_5 a1_6 a1_7 a1_8 a1_9 a1_10) else (laws_FnExactDoTask.j1 kj11 l0 t197 t200 t215 true a1_0 a1_1 a1_2 a1_3 a1_4 a1_5 a1_6 a1_7 a1_8 a1_9 a1_10)))) = some r := H
   have A36 := Aside0.mk A360
   clear A360
   have HC37 := Aside0.mk H
   clear H
   go_upto_region 14 with (first | ((with_reducible refine gate_callee (f := 12) rfl ?_); refine goesL_ (some 49) rfl rfl Try.func12 (by kernel_rfl) rfl #[.slice A0 l0.length c0] rfl (MA) ?_; (with_reducible refine (laws_toPairS.calls kj11 _ _ l0 t220 _ ?side1 ?side2 A33.out).mono ?_); (case side1 => repeat (first | exact (Kd.C_below HR0.out HB.out) | (with_reducible refine Kd.C_alloc ?_ _) | (with_reducible refine Kd.C_drewN ?_ _) | (with_reducible refine Kd.C_drew ?_))); (case side2 => exact HC0.out); rintro e w38 ⟨v221, rfl, ho0, hb⟩; refine ⟨_, rfl, ?_⟩; have HO222 := Aside0.mk (Kd.R_lower (Kd.R_new' (Kd.R_new' (Kd.R_new' ho0 (Kd.R_lt (RQ HO_6.out))) (Kd.R_lt (RQ HO_8.out))) (Kd.R_lt (RQ HO_9.out))) (below_size (BL))); replace HO_6 := Aside0.mk (Kd.R_elder' (RQ HO_6.out) (Kd.R_base ho0) hb); replace HO_8 := Aside0.mk (Kd.R_elder' (RQ HO_8.out) (Kd.R_base ho0) hb); replace HO_9 := Aside0.mk (Kd.R_elder' (RQ HO_9.out) (Kd.R_base ho0) hb); replace BK181 := BB BK181.out hb; replace HB := Aside0.mk (below_step (BL) hb); (try clear hb); (try clear hb2); (try clear hk); (try clear hi); (try clear ho0); obtain ⟨Ao39, co39, eo39⟩ := Kd.R_slice HO222.out; subst eo39) | ((with_reducible refine gate_callee (f := 15) rfl ?_); refine goesL_ (some 50) rfl rfl Try.func15 (by kernel_rfl) rfl #[.slice Ao22 t201.length co22, .slice Ao39 t220.length co39] rfl (MA) ?_; (with_reducible refine (laws_eqPairS.calls kj11 _ _ t201 _ _ t220 true _ ?side1 ?side2 ?side3 ?side4 A34.out).mono ?_); (case side1 => repeat (first | exact (Kd.R_reads' HO_8.out).2.2 | (with_reducible refine Kd.C_alloc ?_ _) | (with_reducible refine Kd.C_drewN ?_ _) | (with_reducible refine Kd.C_drew ?_))); (case side2 => exact (Kd.R_reads' HO_8.out).2.1); (case side3 => repeat (first | exact (Kd.R_reads' HO222.out).2.2 | (with_reducible refine Kd.C_alloc ?_ _) | (with_reducible refine Kd.C_drewN ?_ _) | (with_reducible refine Kd.C_drew ?_))); (case side4 => exact (Kd.R_reads' HO222.out).2.1); rintro e w40 ⟨rfl, hb⟩; refine ⟨_, rfl, ?_⟩; replace HO_6 := Aside0.mk (Kd.R_below (RQ HO_6.out) hb); replace HO_8 := Aside0.mk (Kd.R_below (RQ HO_8.out) hb); replace HO_9 := Aside0.mk (Kd.R_below (RQ HO_9.out) hb); replace HO222 := Aside0.mk (Kd.R_below (RQ HO222.out) hb); replace BK181 := BB BK181.out hb; replace HB := Aside0.mk (below_step (BL) hb); (try clear hb); (try clear hb2); (try clear hk); (try clear hi)) | ((with_reducible refine gate_callee (f := 16) rfl ?_); refine goesL_ (some 54) rfl rfl Try.func16 (by kernel_rfl) rfl #[.slice Ao22 t201.length co22, .int .i64 1] rfl (MA) ?_; (with_reducible refine (laws_markPairS.calls kj11 (fun k_ => some k_ = (.slice Ao22 t201.length co22 : Value).ownBlock) (.slice Ao22 t201.length co22) t201 1 t224 t225 w _ ?side1 ?side2 A36.out).mono ?_); (case side1 => repeat (first | (with_reducible first | exact HB.out | apply below_alloc | apply pw_below_drewN | apply below_drew1 | refine below_set ?_ GE181.out) | exact HB.out)); (case side2 => exact Kd.R_tight rfl HO_8.out); rintro e w41 ⟨rfl, hy0, hb, hkp⟩; refine ⟨_, rfl, ?_⟩; replace HO_6 := Aside0.mk (Kd.R_mono (ok' := fun k_ => some k_ ≠ (.slice Ao22 t201.length co22 : Value).ownBlock ∧ some k_ ≠ (v216 : Value).ownBlock ∧ some k_ ≠ (.slice Ao39 t220.length co39 : Value).ownBlock) (Kd.R_keptB (HO_6.out) hkp (fun k_ hk_ hs_ => (hk_.1.1) hs_)) (fun k_ hk_ => ⟨hk_.1.1.1, hk_.1.1.2, hk_.1.2⟩)); replace HO_9 := Aside0.mk (Kd.R_mono (ok' := fun k_ => some k_ ≠ (v198 : Value).ownBlock ∧ some k_ ≠ (.slice Ao22 t201.length co22 : Value).ownBlock ∧ some k_ ≠ (.slice Ao39 t220.length co39 : Value).ownBlock) (Kd.R_keptB (HO_9.out) hkp (fun k_ hk_ hs_ => (hk_.1.2) hs_)) (fun k_ hk_ => ⟨hk_.1.1.1, hk_.1.1.2, hk_.1.2⟩)); replace BK181 := Aside0.mk (blk_kept (BQ BK181.out) hkp (fun hs_ => (fun e_ => (Kd.R_ne HO_8.out BK181.out (by decide)) e_) hs_)); replace HO_8 := Aside0.mk (Kd.R_reok rfl hy0 (fun k_ e_ => HO_8.out.1 k_ e_)); replace HO222 := Aside0.mk (Kd.R_mono (ok' := fun k_ => some k_ ≠ (v198 : Value).ownBlock ∧ some k_ ≠ (.slice Ao22 t201.length co22 : Value).ownBlock ∧ some k_ ≠ (v216 : Value).ownBlock) (Kd.R_keptB (HO222.out) hkp (fun k_ hk_ hs_ => (hk_.1.2) hs_)) (fun k_ hk_ => ⟨hk_.1.1.1.2, hk_.1.1.2, hk_.1.2⟩)); replace HB := Aside0.mk (hb); (try clear hb); (try clear hkp); (try clear hy0)))
   (try simp only [Act.put, zA, zB, zC])
   go_cut [67] (fun v67 wc => ∃ (kq : Nat) (x67_36 : Bool), v67 = .bool x67_36 ∧ Aside0 (laws_FnExactDoTask.j1 kq l0 t197 t200 t215 x67_36 a1_0 a1_1 a1_2 a1_3 a1_4 a1_5 a1_6 a1_7 a1_8 a1_9 a1_10 = some r) ∧ Aside0 (kq ≤ kj11) ∧ Aside0 (Kd.R k71 71 wc w.heap.size (fun k_ => some k_ ≠ (v216 : Value).ownBlock) v198 t197) ∧ Aside0 (Kd.R k71 71 wc w.heap.size (fun k_ => some k_ ≠ (v198 : Value).ownBlock) v216 t215) ∧ Aside0 (wc.heap[gb181]? = some (.cells #[.int .i64 a1_0, .int .i64 a1_1, .int .i64 a1_2, .int .i64 a1_3, .int .i64 a1_4, .int .i64 a1_5, .int .i64 a1_6, .int .i64 a1_7, .int .i64 a1_8, .bool a1_9, .int .i64 a1_10] 24 (0, 0))) ∧ Aside0 (Below w.heap.size w wc))
   case first =>
    have H := HC37.out
    clear HC37
    by_cases c42 : t224 < 0
    ·
     rw [if_pos c42] at H
     have c42b0 : decide (t224 < 0) = true := decide_eq_true c42
     clear c42
     (first | rw [c42b0] | (simp only [i64_w, i32_w]; rw [c42b0]) | skip)
     have H' := Aside0.mk H
     clear H
     go_wp2
     go_meet
     case rel => exact ⟨_, (true), SD, H', ⟨by have := HJ11.out; first | omega | exact Nat.le_refl _⟩, ⟨by (with_reducible repeat (first | apply r1 | apply r2 | apply r3)); exact Kd.R_mono HO_6.out (fun _ hk => hk.2.1)⟩, ⟨by (with_reducible repeat (first | apply r1 | apply r2 | apply r3)); exact Kd.R_mono HO_9.out (fun _ hk => hk.1)⟩, ⟨BQ BK181.out⟩, ⟨BL⟩⟩
    rw [if_neg c42] at H
    have c42b0 : decide (t224 < 0) = false := decide_eq_false c42
    clear c42
    (first | rw [c42b0] | (simp only [i64_w, i32_w]; rw [c42b0]) | skip)
    replace H := Option.bind_eq_some_iff.mp H
    obtain ⟨t226, A430, H⟩ := H
    replace H : (if t226 = true then (laws_FnExactDoTask.j1 kj11 l0 t197 t200 t215 (t218 != t200) a1_0 a1_1 a1_2 a1_3 a1_4 a1_5 a1_6 a1_7 a1_8 a1_9 a1_10) else (laws_FnExactDoTask.j1 kj11 l0 t197 t200 t215 true a1_0 a1_1 a1_2 a1_3 a1_4 a1_5 a1_6 a1_7 a1_8 a1_9 a1_10)) = some r := H
    have A43 := Aside0.mk A430
    clear A430
    by_cases c44 : t226 = true
    ·
     subst c44
     have H1 : (laws_FnExactDoTask.j1 kj11 l0 t197 t200 t215 (t218 != t200) a1_0 a1_1 a1_2 a1_3 a1_4 a1_5 a1_6 a1_7 a1_8 a1_9 a1_10) = some r := by rw [if_pos rfl] at H; exact H
     clear H
     have H := H1
     clear H1
     have H' := Aside0.mk H
     clear H
     obtain ⟨Ao45, co45, eo45⟩ := Kd.R_slice HO_9.out
     subst eo45
     obtain ⟨Ao46, co46, eo46⟩ := Kd.R_slice HO_6.out
     subst eo46
     go_wp2_with (first | (go_at_call 15; (with_reducible refine (laws_eqPairS.calls kj11 _ _ t215 _ _ t197 true _ ?side1 ?side2 ?side3 ?side4 A43.out).mono ?_); (case side1 => repeat (first | exact (Kd.R_reads' HO_9.out).2.2 | (with_reducible refine Kd.C_alloc ?_ _) | (with_reducible refine Kd.C_drewN ?_ _) | (with_reducible refine Kd.C_drew ?_))); (case side2 => exact (Kd.R_reads' HO_9.out).2.1); (case side3 => repeat (first | exact (Kd.R_reads' HO_6.out).2.2 | (with_reducible refine Kd.C_alloc ?_ _) | (with_reducible refine Kd.C_drewN ?_ _) | (with_reducible refine Kd.C_drew ?_))); (case side4 => exact (Kd.R_reads' HO_6.out).2.1); rintro e w47 ⟨rfl, hb⟩; replace HO_6 := Aside0.mk (Kd.R_below (RQ HO_6.out) hb); replace HO_8 := Aside0.mk (Kd.R_below (RQ HO_8.out) hb); replace HO_9 := Aside0.mk (Kd.R_below (RQ HO_9.out) hb); replace HO222 := Aside0.mk (Kd.R_below (RQ HO222.out) hb); replace BK181 := BB BK181.out hb; replace HB := Aside0.mk (below_step (BL) hb); (try clear hb); (try clear hb2); (try clear hk); (try clear hi)))
     go_meet
     case rel => exact ⟨_, ((t218 != t200)), SD, H', ⟨by have := HJ11.out; first | omega | exact Nat.le_refl _⟩, ⟨by (with_reducible repeat (first | apply r1 | apply r2 | apply r3)); exact Kd.R_mono HO_6.out (fun _ hk => hk.2.1)⟩, ⟨by (with_reducible repeat (first | apply r1 | apply r2 | apply r3)); exact Kd.R_mono HO_9.out (fun _ hk => hk.1)⟩, ⟨BQ BK181.out⟩, ⟨BL⟩⟩
    replace c44 := Bool.eq_false_iff.mpr c44
    subst c44
    have H1 : (laws_FnExactDoTask.j1 kj11 l0 t197 t200 t215 true a1_0 a1_1 a1_2 a1_3 a1_4 a1_5 a1_6 a1_7 a1_8 a1_9 a1_10) = some r := by rw [if_neg (show ¬ (false = true) by decide)] at H; exact H
    clear H
    have H := H1
    clear H1
    have H' := Aside0.mk H
    clear H
    obtain ⟨Ao48, co48, eo48⟩ := Kd.R_slice HO_9.out
    subst eo48
    obtain ⟨Ao49, co49, eo49⟩ := Kd.R_slice HO_6.out
    subst eo49
    go_wp2_with (first | (go_at_call 15; (with_reducible refine (laws_eqPairS.calls kj11 _ _ t215 _ _ t197 false _ ?side1 ?side2 ?side3 ?side4 A43.out).mono ?_); (case side1 => repeat (first | exact (Kd.R_reads' HO_9.out).2.2 | (with_reducible refine Kd.C_alloc ?_ _) | (with_reducible refine Kd.C_drewN ?_ _) | (with_reducible refine Kd.C_drew ?_))); (case side2 => exact (Kd.R_reads' HO_9.out).2.1); (case side3 => repeat (first | exact (Kd.R_reads' HO_6.out).2.2 | (with_reducible refine Kd.C_alloc ?_ _) | (with_reducible refine Kd.C_drewN ?_ _) | (with_reducible refine Kd.C_drew ?_))); (case side4 => exact (Kd.R_reads' HO_6.out).2.1); rintro e w50 ⟨rfl, hb⟩; replace HO_6 := Aside0.mk (Kd.R_below (RQ HO_6.out) hb); replace HO_8 := Aside0.mk (Kd.R_below (RQ HO_8.out) hb); replace HO_9 := Aside0.mk (Kd.R_below (RQ HO_9.out) hb); replace HO222 := Aside0.mk (Kd.R_below (RQ HO222.out) hb); replace BK181 := BB BK181.out hb; replace HB := Aside0.mk (below_step (BL) hb); (try clear hb); (try clear hb2); (try clear hk); (try clear hi)))
    go_meet
    case rel => exact ⟨_, (true), SD, H', ⟨by have := HJ11.out; first | omega | exact Nat.le_refl _⟩, ⟨by (with_reducible repeat (first | apply r1 | apply r2 | apply r3)); exact Kd.R_mono HO_6.out (fun _ hk => hk.2.1)⟩, ⟨by (with_reducible repeat (first | apply r1 | apply r2 | apply r3)); exact Kd.R_mono HO_9.out (fun _ hk => hk.1)⟩, ⟨BQ BK181.out⟩, ⟨BL⟩⟩
   case rest =>
    clear HC37
    try clear c1
    try clear c2
    try clear p2
    try clear c3
    try clear c4
    try clear c4b0
    try clear c10
    try clear c11
    try clear c12
    try clear c13
    try clear c14
    try clear c15
    try clear c16
    try clear c25
    try clear c32
    try clear c35
    try clear c42
    try clear c42b0
    try clear c44
    try clear hcz20_0
    try clear hcz20_1
    try clear hcz20_10
    try clear hcz20_2
    try clear hcz20_3
    try clear hcz20_4
    try clear hcz20_5
    try clear hcz20_6
    try clear hcz20_7
    try clear hcz20_8
    try clear hcz20_9
    try clear hfz20_0
    try clear hfz20_1
    try clear hfz20_10
    try clear hfz20_2
    try clear hfz20_3
    try clear hfz20_4
    try clear hfz20_5
    try clear hfz20_6
    try clear hfz20_7
    try clear hfz20_8
    try clear hfz20_9
    try clear p2
    obtain ⟨kq, x67_36, rfl, HA, HJ36, HO_6, HO_9, BK181, HB⟩ := hcut
    cases kq with
    | zero => exact absurd HA.out (by simp [laws_FnExactDoTask.j1])
    | succ kj36 =>
     have H := HA.out
     clear HA
     simp only [laws_FnExactDoTask.j1] at H
     by_cases c51 : x67_36 = true
     ·
      subst c51
      have H1 : (none) = some r := by rw [if_pos rfl] at H; exact H
      clear H
      have H := H1
      clear H1
      exact absurd H (by simp)
     replace c51 := Bool.eq_false_iff.mpr c51
     subst c51
     have H1 : ((laws_markPairS.f kj36 t215 1).bind fun bt227 => ((laws_heldPairS.f kj36 bt227.2 1).bind fun t229 => (if t229 < 0 then (none) else (if t229 = bt227.1 then ((laws_toPairS.f kj36 l0).bind fun t230 => ((laws_toTask.f a1_0 a1_1 a1_2 a1_3 a1_4 a1_5 a1_6 a1_7 a1_8 a1_9 a1_10).bind fun bt233 => ((impl_DoTask.f kj36 t230 bt233.1 bt233.2.1 bt233.2.2.1 bt233.2.2.2.1 bt233.2.2.2.2.1 bt233.2.2.2.2.2.1 bt233.2.2.2.2.2.2.1 bt233.2.2.2.2.2.2.2.1 bt233.2.2.2.2.2.2.2.2.1 bt233.2.2.2.2.2.2.2.2.2.1 bt233.2.2.2.2.2.2.2.2.2.2).bind fun bt244 => ((laws_eqPairS.f kj36 bt244.1 t197).bind fun t248 => (if t248 = true then (laws_FnExactDoTask.j2 kj36 bt227.2 bt227.1 (bt244.2 != t200)) else (laws_FnExactDoTask.j2 kj36 bt227.2 bt227.1 true)))))) else (none))))) = some r := by rw [if_neg (show ¬ (false = true) by decide)] at H; exact H
     clear H
     have H := H1
     clear H1
     replace H := Option.bind_eq_some_iff.mp H
     obtain ⟨⟨t227, t228⟩, A520, H⟩ := H
     replace H : ((laws_heldPairS.f kj36 t228 1).bind fun t229 => (if t229 < 0 then (none) else (if t229 = t227 then ((laws_toPairS.f kj36 l0).bind fun t230 => ((laws_toTask.f a1_0 a1_1 a1_2 a1_3 a1_4 a1_5 a1_6 a1_7 a1_8 a1_9 a1_10).bind fun bt233 => ((impl_DoTask.f kj36 t230 bt233.1 bt233.2.1 bt233.2.2.1 bt233.2.2.2.1 bt233.2.2.2.2.1 bt233.2.2.2.2.2.1 bt233.2.2.2.2.2.2.1 bt233.2.2.2.2.2.2.2.1 bt233.2.2.2.2.2.2.2.2.1 bt233.2.2.2.2.2.2.2.2.2.1 bt233.2.2.2.2.2.2.2.2.2.2).bind fun bt244 => ((laws_eqPairS.f kj36 bt244.1 t197).bind fun t248 => (if t248 = true then (laws_FnExactDoTask.j2 kj36 t228 t227 (bt244.2 != t200)) else (laws_FnExactDoTask.j2 kj36 t228 t227 true)))))) else (none)))) = some r := H
     have A52 := Aside0.mk A520
     clear A520
     replace H := Option.bind_eq_some_iff.mp H
     obtain ⟨t229, A530, H⟩ := H
     replace H : (if t229 < 0 then (none) else (if t229 = t227 then ((laws_toPairS.f kj36 l0).bind fun t230 => ((laws_toTask.f a1_0 a1_1 a1_2 a1_3 a1_4 a1_5 a1_6 a1_7 a1_8 a1_9 a1_10).bind fun bt233 => ((impl_DoTask.f kj36 t230 bt233.1 bt233.2.1 bt233.2.2.1 bt233.2.2.2.1 bt233.2.2.2.2.1 bt233.2.2.2.2.2.1 bt233.2.2.2.2.2.2.1 bt233.2.2.2.2.2.2.2.1 bt233.2.2.2.2.2.2.2.2.1 bt233.2.2.2.2.2.2.2.2.2.1 bt233.2.2.2.2.2.2.2.2.2.2).bind fun bt244 => ((laws_eqPairS.f kj36 bt244.1 t197).bind fun t248 => (if t248 = true then (laws_FnExactDoTask.j2 kj36 t228 t227 (bt244.2 != t200)) else (laws_FnExactDoTask.j2 kj36 t228 t227 true)))))) else (none))) = some r := H
     have A53 := Aside0.mk A530
     clear A530
     by_cases c54 : t229 < 0
     ·
      rw [if_pos c54] at H
      exact absurd H (by simp)
     rw [if_neg c54] at H
     have c54b0 : decide (t229 < 0) = false := decide_eq_false c54
     clear c54
     by_cases c55 : t229 = t227; rotate_left
     ·
      rw [if_neg c55] at H
      exact absurd H (by simp)
     rw [if_pos c55] at H
     have c55b0 : (t229 == t227) = true := beq_iff_eq.mpr c55
     have c55b1 : (t229 != t227) = false := bne_eq_false_iff_eq.mpr c55
     clear c55
     replace H := Option.bind_eq_some_iff.mp H
     obtain ⟨t230, A560, H⟩ := H
     replace H : ((laws_toTask.f a1_0 a1_1 a1_2 a1_3 a1_4 a1_5 a1_6 a1_7 a1_8 a1_9 a1_10).bind fun bt233 => ((impl_DoTask.f kj36 t230 bt233.1 bt233.2.1 bt233.2.2.1 bt233.2.2.2.1 bt233.2.2.2.2.1 bt233.2.2.2.2.2.1 bt233.2.2.2.2.2.2.1 bt233.2.2.2.2.2.2.2.1 bt233.2.2.2.2.2.2.2.2.1 bt233.2.2.2.2.2.2.2.2.2.1 bt233.2.2.2.2.2.2.2.2.2.2).bind fun bt244 => ((laws_eqPairS.f kj36 bt244.1 t197).bind fun t248 => (if t248 = true then (laws_FnExactDoTask.j2 kj36 t228 t227 (bt244.2 != t200)) else (laws_FnExactDoTask.j2 kj36 t228 t227 true))))) = some r := H
     have A56 := Aside0.mk A560
     clear A560
     replace H := Option.bind_eq_some_iff.mp H
     obtain ⟨⟨t233, t234, t235, t236, t237, t238, t239, t240, t241, t242, t243⟩, A570, H⟩ := H
     replace H : ((impl_DoTask.f kj36 t230 t233 t234 t235 t236 t237 t238 t239 t240 t241 t242 t243).bind fun bt244 => ((laws_eqPairS.f kj36 bt244.1 t197).bind fun t248 => (if t248 = true then (laws_FnExactDoTask.j2 kj36 t228 t227 (bt244.2 != t200)) else (laws_FnExactDoTask.j2 kj36 t228 t227 true)))) = some r := H
     have A57 := Aside0.mk A570
     clear A570
     replace H := Option.bind_eq_some_iff.mp H
     obtain ⟨⟨t244, t247⟩, A580, H⟩ := H
     replace H : ((laws_eqPairS.f kj36 t244 t197).bind fun t248 => (if t248 = true then (laws_FnExactDoTask.j2 kj36 t228 t227 (t247 != t200)) else (laws_FnExactDoTask.j2 kj36 t228 t227 true))) = some r := H
     have A58 := Aside0.mk A580
     clear A580
     have HC59 := Aside0.mk H
     clear H
     obtain ⟨Ao60, co60, eo60⟩ := Kd.R_slice HO_9.out
     subst eo60
     try go_wp2_with (first | ((with_reducible refine gate_callee (f := 16) rfl ?_); refine goesL_ (some 70) rfl rfl Try.func16 (by kernel_rfl) rfl #[.slice Ao60 t215.length co60, .int .i64 1] rfl (MA) ?_; (with_reducible refine (laws_markPairS.calls kj36 (fun k_ => some k_ = (.slice Ao60 t215.length co60 : Value).ownBlock) (.slice Ao60 t215.length co60) t215 1 t227 t228 w _ ?side1 ?side2 A52.out).mono ?_); (case side1 => repeat (first | (with_reducible first | exact HB.out | apply below_alloc | apply pw_below_drewN | apply below_drew1 | refine below_set ?_ GE181.out) | exact HB.out)); (case side2 => exact Kd.R_tight rfl HO_9.out); rintro e w61 ⟨rfl, hy0, hb, hkp⟩; refine ⟨_, rfl, ?_⟩; replace HO_6 := Aside0.mk (Kd.R_mono (ok' := fun k_ => some k_ ≠ (.slice Ao60 t215.length co60 : Value).ownBlock) (Kd.R_keptB (HO_6.out) hkp (fun k_ hk_ hs_ => (hk_) hs_)) (fun k_ hk_ => hk_.1)); replace BK181 := Aside0.mk (blk_kept (BQ BK181.out) hkp (fun hs_ => (fun e_ => (Kd.R_ne HO_9.out BK181.out (by decide)) e_) hs_)); replace HO_9 := Aside0.mk (Kd.R_reok rfl hy0 (fun k_ e_ => HO_9.out.1 k_ e_)); replace HB := Aside0.mk (hb); (try clear hb); (try clear hkp); (try clear hy0)) | ((with_reducible refine gate_callee (f := 17) rfl ?_); refine goesL_ (some 73) rfl rfl Try.func17 (by kernel_rfl) rfl #[.slice Ao60 t228.length co60, .int .i64 1] rfl (by (try simp only [List.map_toArray, List.map_cons, List.map_nil]); first | done | (rw [show t228.length = t215.length from (Kd.R_reads' HO_9.out).1.symm] <;> rfl) | rfl | (simp only [List.length_drop, List.length_take]; rfl)) ?_; (with_reducible refine (laws_heldPairS.calls kj36 _ _ t228 1 t229 _ ?side1 ?side2 A53.out).mono ?_); (case side1 => repeat (first | exact (Kd.R_reads' HO_9.out).2.2 | (with_reducible refine Kd.C_alloc ?_ _) | (with_reducible refine Kd.C_drewN ?_ _) | (with_reducible refine Kd.C_drew ?_))); (case side2 => rw [show t228.length = t215.length from (Kd.R_reads' HO_9.out).1.symm]; exact (Kd.R_reads' HO_9.out).2.1); rintro e w' ⟨rfl, ⟨nd, rfl⟩⟩; refine ⟨_, rfl, ?_⟩))
     (try (rw [drewN_self w61]; generalize hq_ : World.drewN w61 _ = w61; have n0_ : Aside0 (Kd.R k71 71 w61 w.heap.size (fun k_ => some k_ ≠ (.slice Ao60 t215.length co60 : Value).ownBlock) v198 t197) := ⟨by rw [← hq_]; exact (RQ HO_6.out)⟩; have n1_ : Aside0 (Kd.R k71 71 w61 w.heap.size (fun k_ => some k_ ≠ (v198 : Value).ownBlock) (.slice Ao60 t215.length co60) t228) := ⟨by rw [← hq_]; exact (RQ HO_9.out)⟩; have n2_ : Aside0 (w61.heap[gb181]? = some (.cells #[.int .i64 a1_0, .int .i64 a1_1, .int .i64 a1_2, .int .i64 a1_3, .int .i64 a1_4, .int .i64 a1_5, .int .i64 a1_6, .int .i64 a1_7, .int .i64 a1_8, .bool a1_9, .int .i64 a1_10] 24 (0, 0))) := ⟨by rw [← hq_]; exact (BQ BK181.out)⟩; have n3_ : Aside0 (Below w.heap.size w w61) := ⟨by rw [← hq_]; exact (BL)⟩; clear HO_6 HO_9 BK181 HB hq_; have HO_6 := n0_; have HO_9 := n1_; have BK181 := n2_; have HB := n3_; clear n0_ n1_ n2_ n3_))
     have n0_ := Aside0.mk (Kd.R_drew HO_6.out)
     have n1_ := Aside0.mk (Kd.R_drew HO_9.out)
     have n2_ := Aside0.mk (blk_drew BK181.out)
     have n3_ := Aside0.mk (below_drew1 HB.out)
     clear HO_6
     clear HO_9
     clear BK181
     clear HB
     have HO_6 := n0_
     have HO_9 := n1_
     have BK181 := n2_
     have HB := n3_
     clear n0_ n1_ n2_ n3_
     refine start_ (n := 10) (S := fun w' => w'.cell? ⟨gb181, 0, none⟩ = some (.int .i64 a1_0) ∧ w'.cell? ⟨gb181, 1, none⟩ = some (.int .i64 a1_1) ∧ w'.cell? ⟨gb181, 2, none⟩ = some (.int .i64 a1_2) ∧ w'.cell? ⟨gb181, 3, none⟩ = some (.int .i64 a1_3) ∧ w'.cell? ⟨gb181, 4, none⟩ = some (.int .i64 a1_4) ∧ w'.cell? ⟨gb181, 5, none⟩ = some (.int .i64 a1_5) ∧ w'.cell? ⟨gb181, 6, none⟩ = some (.int .i64 a1_6) ∧ w'.cell? ⟨gb181, 7, none⟩ = some (.int .i64 a1_7) ∧ w'.cell? ⟨gb181, 8, none⟩ = some (.int .i64 a1_8) ∧ w'.cell? ⟨gb181, 9, none⟩ = some (.bool a1_9) ∧ w'.cell? ⟨gb181, 10, none⟩ = some (.int .i64 a1_10)) (ds := []) #[false, false, false, false, false, false, false, false, false, false] (by kernel_rfl) rfl rfl ⟨CZ BK181.out 0, CZ BK181.out 1, CZ BK181.out 2, CZ BK181.out 3, CZ BK181.out 4, CZ BK181.out 5, CZ BK181.out 6, CZ BK181.out 7, CZ BK181.out 8, CZ BK181.out 9, CZ BK181.out 10⟩ (fun hHeld => ?_); refine with_tabW laws_FnExactDoTask.tab24 laws_FnExactDoTask.bits24 (fun HT_ HW_ => ?_)
     generalize w61.drew = w62 at HO_6 HO_9 BK181 HB hHeld ⊢
     refine pV 0 80 (OB 10 1) ?_
     refine take_ (i := 2) (N := some 82) (v := ?_) (a' := ?_) (OB 10 5) rfl rfl (take_ofW HT_.out HW_.out (by kernel_rfl)) (fun _ _ _ h => h) (Or.inl ⟨by rfl, ?_⟩) hHeld ?_ ?_
     rotate_left
     ·
      rintro w' ⟨s0, s1, s2, s3, s4, s5, s6, s7, s8, s9, s10⟩
      go_simp
      with_reducible rfl
     rotate_left
     ·
      simp only [Act.put, zA, zB, zC, i64_w, i32_w]
      rfl
     refine one_ (i := 1) (N := some 81) (OB 10 7) rfl rfl (one_of HT_.out (by kernel_rfl)) (by decide) (fun K hK => ?_)
     refine goes_ Try.func12 (by kernel_rfl) rfl #[.slice A0 l0.length c0] (by rfl) rfl rfl (MA) ?_
     with_reducible refine (laws_toPairS.calls kj36 _ _ l0 t230 _ ?side1 ?side2 A56.out).mono ?_
     (case side1 => repeat (first | exact (Kd.C_below HR0.out HB.out) | (with_reducible refine Kd.C_alloc ?_ _) | (with_reducible refine Kd.C_drewN ?_ _) | (with_reducible refine Kd.C_drew ?_)))
     (case side2 => exact HC0.out)
     rintro e w63 ⟨v231, rfl, ho0, hb⟩
     refine ⟨_, rfl, ?_⟩
     have n0_ := Aside0.mk (Kd.R_elder' (RQ HO_6.out) (Kd.R_base ho0) hb)
     have n1_ := Aside0.mk (Kd.R_elder' (RQ HO_9.out) (Kd.R_base ho0) hb)
     have n2_ := Aside0.mk (Kd.R_lower (Kd.R_new' (Kd.R_new' ho0 (Kd.R_lt (RQ HO_6.out))) (Kd.R_lt (RQ HO_9.out))) (below_size (BL)))
     have n3_ := BB BK181.out hb
     have n4_ := Aside0.mk (below_step (BL) hb)
     clear HO_6
     clear HO_9
     clear BK181
     clear HB
     have HO_6 := n0_
     have HO_9 := n1_
     have HO232 := n2_
     have BK181 := n3_
     have HB := n4_
     clear n0_ n1_ n2_ n3_ n4_
     (try clear hb)
     (try clear hb2)
     (try clear hk)
     (try clear hi)
     (try clear ho0)
     refine hK.out _ _ ⟨CZ BK181.out 0, CZ BK181.out 1, CZ BK181.out 2, CZ BK181.out 3, CZ BK181.out 4, CZ BK181.out 5, CZ BK181.out 6, CZ BK181.out 7, CZ BK181.out 8, CZ BK181.out 9, CZ BK181.out 10⟩ (fun hHeld => ?_)
     clear hK K
     refine norm_ (a' := ?_) ?_ ?_
     rotate_left
     ·
      show Act.put _ (some 81) _ = _
      simp only [Act.put, zA, zB, zC, i64_w, i32_w]
      rfl
     refine one_ (i := 3) (N := some 83) (OB 10 15) rfl rfl (one_of HT_.out (by kernel_rfl)) (by decide) (fun K hK => ?_)
     refine goes_ Try.func13 (by kernel_rfl) rfl #[.agg #[.int .i64 a1_0, .int .i64 a1_1, .int .i64 a1_2, .int .i64 a1_3, .int .i64 a1_4, .int .i64 a1_5, .int .i64 a1_6, .int .i64 a1_7, .int .i64 a1_8, .bool a1_9, .int .i64 a1_10]] (by rfl) rfl rfl (MA) ?_
     with_reducible refine (laws_toTask.calls a1_0 a1_1 a1_2 a1_3 a1_4 a1_5 a1_6 a1_7 a1_8 a1_9 a1_10 t233 t234 t235 t236 t237 t238 t239 t240 t241 t242 t243 _ A57.out).mono ?_
     rintro e w64 ⟨rfl, hb⟩
     refine ⟨_, rfl, ?_⟩
     have n0_ := Aside0.mk (Kd.R_below (RQ HO_6.out) hb)
     have n1_ := Aside0.mk (Kd.R_below (RQ HO_9.out) hb)
     have n2_ := Aside0.mk (Kd.R_below (RQ HO232.out) hb)
     have n3_ := BB BK181.out hb
     have n4_ := Aside0.mk (below_step (BL) hb)
     clear HO_6
     clear HO_9
     clear HO232
     clear BK181
     clear HB
     have HO_6 := n0_
     have HO_9 := n1_
     have HO232 := n2_
     have BK181 := n3_
     have HB := n4_
     clear n0_ n1_ n2_ n3_ n4_
     (try clear hb)
     (try clear hb2)
     (try clear hk)
     (try clear hi)
     obtain ⟨Ao65, co65, eo65⟩ := Kd.R_slice HO232.out
     (first | subst eo65 | (injection eo65 with f1_ f2_ f3_; have f4_ := f1_.symm; have f5_ := f3_.symm; clear f1_ f2_ f3_; subst f4_; subst f5_))
     refine hK.out _ _ ⟨CZ BK181.out 0, CZ BK181.out 1, CZ BK181.out 2, CZ BK181.out 3, CZ BK181.out 4, CZ BK181.out 5, CZ BK181.out 6, CZ BK181.out 7, CZ BK181.out 8, CZ BK181.out 9, CZ BK181.out 10⟩ (fun hHeld => ?_)
     clear hK K
     refine norm_ (a' := ?_) ?_ ?_
     rotate_left
     ·
      show Act.put _ (some 83) _ = _
      simp only [Act.put, zA, zB, zC, i64_w, i32_w]
      rfl
     refine one_ (i := 4) (N := some 84) (OB 10 31) rfl rfl (one_of HT_.out (by kernel_rfl)) (by decide) (fun K hK => ?_)
     refine goes_ Try.func14 (by kernel_rfl) rfl #[.slice Ao65 t230.length co65, .agg #[.int .i64 t233, .int .i64 t234, .int .i64 t235, .int .i64 t236, .int .i64 t237, .int .i64 t238, .int .i64 t239, .int .i64 t240, .int .i64 t241, .bool t242, .int .i64 t243]] (by rfl) rfl rfl (MA) ?_
     with_reducible refine (impl_DoTask.calls kj36 _ _ t230 t233 t234 t235 t236 t237 t238 t239 t240 t241 t242 t243 t244 t247 _ ?side1 ?side2 A58.out).mono ?_
     (case side1 => repeat (first | exact (Kd.R_reads' HO232.out).2.2 | (with_reducible refine Kd.C_alloc ?_ _) | (with_reducible refine Kd.C_drewN ?_ _) | (with_reducible refine Kd.C_drew ?_)))
     (case side2 => exact (Kd.R_reads' HO232.out).2.1)
     rintro e w66 ⟨v245, rfl, ho0, hb⟩
     refine ⟨_, rfl, ?_⟩
     have n0_ := Aside0.mk (Kd.R_elder' (RQ HO_6.out) (Kd.R_base ho0) hb)
     have n1_ := Aside0.mk (Kd.R_elder' (RQ HO_9.out) (Kd.R_base ho0) hb)
     have n2_ := Aside0.mk (Kd.R_elder' (RQ HO232.out) (Kd.R_base ho0) hb)
     have n3_ := Aside0.mk (Kd.R_lower (Kd.R_new' (Kd.R_new' (Kd.R_new' ho0 (Kd.R_lt (RQ HO_6.out))) (Kd.R_lt (RQ HO_9.out))) (Kd.R_lt (RQ HO232.out))) (below_size (BL)))
     have n4_ := BB BK181.out hb
     have n5_ := Aside0.mk (below_step (BL) hb)
     clear HO_6
     clear HO_9
     clear HO232
     clear BK181
     clear HB
     have HO_6 := n0_
     have HO_9 := n1_
     have HO232 := n2_
     have HO246 := n3_
     have BK181 := n4_
     have HB := n5_
     clear n0_ n1_ n2_ n3_ n4_ n5_
     (try clear hb)
     (try clear hb2)
     (try clear hk)
     (try clear hi)
     (try clear ho0)
     refine hK.out _ _ ⟨CZ BK181.out 0, CZ BK181.out 1, CZ BK181.out 2, CZ BK181.out 3, CZ BK181.out 4, CZ BK181.out 5, CZ BK181.out 6, CZ BK181.out 7, CZ BK181.out 8, CZ BK181.out 9, CZ BK181.out 10⟩ (fun hHeld => ?_)
     clear hK K
     refine norm_ (a' := ?_) ?_ ?_
     rotate_left
     ·
      show Act.put _ (some 84) _ = _
      simp only [Act.put, zA, zB, zC, i64_w, i32_w]
      rfl
     refine pV 5 79 (OB 10 63) ?_
     refine pV 6 85 (OB 10 127) ?_
     refine pV 7 86 (OB 10 255) ?_
     refine pV 8 14 (OB 10 511) ?_
     refine pV 9 15 (OB 10 1023) ?_
     refine done_ (done_of HT_.out (by kernel_rfl)) ?_
     go_upto_region 25 with (fail)
     go_cut [95] (fun v95 wc => ∃ (kq : Nat) (x95_58 : Bool), v95 = .bool x95_58 ∧ Aside0 (laws_FnExactDoTask.j2 kq t228 t227 x95_58 = some r) ∧ Aside0 (kq ≤ kj36) ∧ Aside0 (Kd.R k71 71 wc w.heap.size (fun _ => True) (.slice Ao60 t215.length co60) t228) ∧ Aside0 (wc.heap[gb181]? = some (.cells #[.int .i64 a1_0, .int .i64 a1_1, .int .i64 a1_2, .int .i64 a1_3, .int .i64 a1_4, .int .i64 a1_5, .int .i64 a1_6, .int .i64 a1_7, .int .i64 a1_8, .bool a1_9, .int .i64 a1_10] 24 (0, 0))) ∧ Aside0 (Below w.heap.size w wc))
     case first =>
      have H := HC59.out
      clear HC59
      replace H := Option.bind_eq_some_iff.mp H
      obtain ⟨t248, A670, H⟩ := H
      replace H : (if t248 = true then (laws_FnExactDoTask.j2 kj36 t228 t227 (t247 != t200)) else (laws_FnExactDoTask.j2 kj36 t228 t227 true)) = some r := H
      have A67 := Aside0.mk A670
      clear A670
      by_cases c68 : t248 = true
      ·
       subst c68
       have H1 : (laws_FnExactDoTask.j2 kj36 t228 t227 (t247 != t200)) = some r := by rw [if_pos rfl] at H; exact H
       clear H
       have H := H1
       clear H1
       have H' := Aside0.mk H
       clear H
       obtain ⟨Ao69, co69, eo69⟩ := Kd.R_slice HO246.out
       subst eo69
       obtain ⟨Ao70, co70, eo70⟩ := Kd.R_slice HO_6.out
       subst eo70
       go_wp2_with (first | ((with_reducible refine gate_callee (f := 15) rfl ?_); refine goesL_ (some 89) rfl rfl Try.func15 (by kernel_rfl) rfl #[.slice Ao69 t244.length co69, .slice Ao70 t197.length co70] rfl (MA) ?_; (with_reducible refine (laws_eqPairS.calls kj36 _ _ t244 _ _ t197 true _ ?side1 ?side2 ?side3 ?side4 A67.out).mono ?_); (case side1 => repeat (first | exact (Kd.R_reads' HO246.out).2.2 | (with_reducible refine Kd.C_alloc ?_ _) | (with_reducible refine Kd.C_drewN ?_ _) | (with_reducible refine Kd.C_drew ?_))); (case side2 => exact (Kd.R_reads' HO246.out).2.1); (case side3 => repeat (first | exact (Kd.R_reads' HO_6.out).2.2 | (with_reducible refine Kd.C_alloc ?_ _) | (with_reducible refine Kd.C_drewN ?_ _) | (with_reducible refine Kd.C_drew ?_))); (case side4 => exact (Kd.R_reads' HO_6.out).2.1); rintro e w71 ⟨rfl, hb⟩; refine ⟨_, rfl, ?_⟩; replace HO_6 := Aside0.mk (Kd.R_below (RQ HO_6.out) hb); replace HO_9 := Aside0.mk (Kd.R_below (RQ HO_9.out) hb); replace HO232 := Aside0.mk (Kd.R_below (RQ HO232.out) hb); replace HO246 := Aside0.mk (Kd.R_below (RQ HO246.out) hb); replace BK181 := BB BK181.out hb; replace HB := Aside0.mk (below_step (BL) hb); (try clear hb); (try clear hb2); (try clear hk); (try clear hi)))
       go_meet
       case rel => exact ⟨_, ((t247 != t200)), SD, H', ⟨by have := HJ11.out; have := HJ36.out; first | omega | exact Nat.le_refl _⟩, ⟨by (with_reducible repeat (first | apply r1 | apply r2 | apply r3)); exact Kd.R_mono HO_9.out (fun _ hk => trivial)⟩, ⟨BQ BK181.out⟩, ⟨BL⟩⟩
      replace c68 := Bool.eq_false_iff.mpr c68
      subst c68
      have H1 : (laws_FnExactDoTask.j2 kj36 t228 t227 true) = some r := by rw [if_neg (show ¬ (false = true) by decide)] at H; exact H
      clear H
      have H := H1
      clear H1
      have H' := Aside0.mk H
      clear H
      obtain ⟨Ao72, co72, eo72⟩ := Kd.R_slice HO246.out
      subst eo72
      obtain ⟨Ao73, co73, eo73⟩ := Kd.R_slice HO_6.out
      subst eo73
      go_wp2_with (first | ((with_reducible refine gate_callee (f := 15) rfl ?_); refine goesL_ (some 89) rfl rfl Try.func15 (by kernel_rfl) rfl #[.slice Ao72 t244.length co72, .slice Ao73 t197.length co73] rfl (MA) ?_; (with_reducible refine (laws_eqPairS.calls kj36 _ _ t244 _ _ t197 false _ ?side1 ?side2 ?side3 ?side4 A67.out).mono ?_); (case side1 => repeat (first | exact (Kd.R_reads' HO246.out).2.2 | (with_reducible refine Kd.C_alloc ?_ _) | (with_reducible refine Kd.C_drewN ?_ _) | (with_reducible refine Kd.C_drew ?_))); (case side2 => exact (Kd.R_reads' HO246.out).2.1); (case side3 => repeat (first | exact (Kd.R_reads' HO_6.out).2.2 | (with_reducible refine Kd.C_alloc ?_ _) | (with_reducible refine Kd.C_drewN ?_ _) | (with_reducible refine Kd.C_drew ?_))); (case side4 => exact (Kd.R_reads' HO_6.out).2.1); rintro e w74 ⟨rfl, hb⟩; refine ⟨_, rfl, ?_⟩; replace HO_6 := Aside0.mk (Kd.R_below (RQ HO_6.out) hb); replace HO_9 := Aside0.mk (Kd.R_below (RQ HO_9.out) hb); replace HO232 := Aside0.mk (Kd.R_below (RQ HO232.out) hb); replace HO246 := Aside0.mk (Kd.R_below (RQ HO246.out) hb); replace BK181 := BB BK181.out hb; replace HB := Aside0.mk (below_step (BL) hb); (try clear hb); (try clear hb2); (try clear hk); (try clear hi)))
      go_meet
      case rel => exact ⟨_, (true), SD, H', ⟨by have := HJ11.out; have := HJ36.out; first | omega | exact Nat.le_refl _⟩, ⟨by (with_reducible repeat (first | apply r1 | apply r2 | apply r3)); exact Kd.R_mono HO_9.out (fun _ hk => trivial)⟩, ⟨BQ BK181.out⟩, ⟨BL⟩⟩
     case rest =>
      clear HC59
      try clear c1
      try clear c2
      try clear p2
      try clear c3
      try clear c4
      try clear c4b0
      try clear c5
      try clear c6
      try clear c10
      try clear c11
      try clear c12
      try clear c13
      try clear c14
      try clear c15
      try clear c16
      try clear c17
      try clear c25
      try clear c32
      try clear c35
      try clear c42
      try clear c42b0
      try clear c44
      try clear c51
      try clear c54
      try clear c54b0
      try clear c55
      try clear c55b0
      try clear c55b1
      try clear c68
      try clear hcz20_0
      try clear hcz20_1
      try clear hcz20_10
      try clear hcz20_2
      try clear hcz20_3
      try clear hcz20_4
      try clear hcz20_5
      try clear hcz20_6
      try clear hcz20_7
      try clear hcz20_8
      try clear hcz20_9
      try clear hfz20_0
      try clear hfz20_1
      try clear hfz20_10
      try clear hfz20_2
      try clear hfz20_3
      try clear hfz20_4
      try clear hfz20_5
      try clear hfz20_6
      try clear hfz20_7
      try clear hfz20_8
      try clear hfz20_9
      try clear p2
      obtain ⟨kq, x95_58, rfl, HA, HJ58, HO_9, BK181, HB⟩ := hcut
      have hl9_58 := (Kd.R_reads' HO_9.out).1
      rw [hl9_58] at HO_9
      (try simp only [hl9_58])
      (try simp only [hl9_58] at BK181)
      cases kq with
      | zero => exact absurd HA.out (by simp [laws_FnExactDoTask.j2])
      | succ kj58 =>
       have H := HA.out
       clear HA
       simp only [laws_FnExactDoTask.j2] at H
       by_cases c75 : x95_58 = true
       ·
        subst c75
        have H1 : (none) = some r := by rw [if_pos rfl] at H; exact H
        clear H
        have H := H1
        clear H1
        exact absurd H (by simp)
       replace c75 := Bool.eq_false_iff.mpr c75
       subst c75
       have H1 : ((laws_heldPairS.f kj58 t228 1).bind fun t249 => (if t249 < 0 then (none) else (if t249 = t227 then (some true) else (none)))) = some r := by rw [if_neg (show ¬ (false = true) by decide)] at H; exact H
       clear H
       have H := H1
       clear H1
       replace H := Option.bind_eq_some_iff.mp H
       obtain ⟨t249, A760, H⟩ := H
       replace H : (if t249 < 0 then (none) else (if t249 = t227 then (some true) else (none))) = some r := H
       have A76 := Aside0.mk A760
       clear A760
       by_cases c77 : t249 < 0
       ·
        rw [if_pos c77] at H
        exact absurd H (by simp)
       rw [if_neg c77] at H
       have c77b0 : decide (t249 < 0) = false := decide_eq_false c77
       clear c77
       by_cases c78 : t249 = t227; rotate_left
       ·
        rw [if_neg c78] at H
        exact absurd H (by simp)
       rw [if_pos c78] at H
       have c78b0 : (t249 == t227) = true := beq_iff_eq.mpr c78
       have c78b1 : (t249 != t227) = false := bne_eq_false_iff_eq.mpr c78
       clear c78
       obtain rfl := Option.some.inj H
       go_wp2_with (first | ((with_reducible refine gate_callee (f := 17) rfl ?_); refine goesL_ (some 98) rfl rfl Try.func17 (by kernel_rfl) rfl #[.slice Ao60 t228.length co60, .int .i64 1] rfl (MA) ?_; (with_reducible refine (laws_heldPairS.calls kj58 _ _ t228 1 t249 _ ?side1 ?side2 A76.out).mono ?_); (case side1 => repeat (first | exact (Kd.R_reads' HO_9.out).2.2 | (with_reducible refine Kd.C_alloc ?_ _) | (with_reducible refine Kd.C_drewN ?_ _) | (with_reducible refine Kd.C_drew ?_))); (case side2 => exact (Kd.R_reads' HO_9.out).2.1); rintro e w' ⟨rfl, ⟨nd, rfl⟩⟩; refine ⟨_, rfl, ?_⟩))
       go_ret
       exact ⟨EE, BL⟩

/-- THE PURE STATEMENT of laws_FnExactDoTask. -/
def laws_FnExactDoTask.Pure : Prop := ∀ (l0 : List (S73)) (a1_0 : Int) (a1_1 : Int) (a1_2 : Int) (a1_3 : Int) (a1_4 : Int) (a1_5 : Int) (a1_6 : Int) (a1_7 : Int) (a1_8 : Int) (a1_9 : Bool) (a1_10 : Int), ((∀ x_ ∈ l0, ((Lit.int .i64 x_.f0).wf = true ∧ (Lit.int .i64 x_.f1).wf = true)) ∧ l0.length ≤ maxLen) → (Lit.int .i64 a1_0).wf = true → (Lit.int .i64 a1_1).wf = true → (Lit.int .i64 a1_2).wf = true → (Lit.int .i64 a1_3).wf = true → (Lit.int .i64 a1_4).wf = true → (Lit.int .i64 a1_5).wf = true → (Lit.int .i64 a1_6).wf = true → (Lit.int .i64 a1_7).wf = true → (Lit.int .i64 a1_8).wf = true → (Lit.int .i64 a1_10).wf = true → ∃ k, laws_FnExactDoTask.f k l0 a1_0 a1_1 a1_2 a1_3 a1_4 a1_5 a1_6 a1_7 a1_8 a1_9 a1_10 = some true

end Go.Proofs.Ytfkhncoiifojnaa.Qdt
