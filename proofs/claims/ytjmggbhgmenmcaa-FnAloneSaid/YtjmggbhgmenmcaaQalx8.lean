-- Laid by myprint.py, a program of this session's own, over the kit's print. Not trusted: Lean checks it.
import Derived.Test.YtjmggbhgmenmcaaQalx0
import Derived.Test.YtjmggbhgmenmcaaQalx7
namespace Go.Proofs.Ytjmggbhgmenmcaa.Qal
open Go.RowKit Go.Proofs.YtjmggbhgmenmcaaW.PrintWords Go.Proofs.YtjmggbhgmenmcaaW.PrintLast Go.Proofs.YtjmggbhgmenmcaaW.PrintMore
attribute [local go_sem] Go.Proofs.Ytjmggbhgmenmcaa.StrCmp.gtr_less Go.Proofs.Ytjmggbhgmenmcaa.StrCmp.geq_less Go.Proofs.Ytjmggbhgmenmcaa.StrCmp.leq_less max2_int min2_int max_two min_two max_three min_three max_four min_four   -- for this text's walks alone
set_option linter.unusedVariables false
set_option linter.unusedSimpArgs false

/-! ### spec_DoTask: function 49 -/
mutual
def spec_DoTask.l0 : Nat → List (S61) → List (S61) → Int → Int → Int → Int → Int → Int → Int → Int → Int → Int → Int → Bool → Int → Option ((List (S61)) × Int)
 | 0, _, _, _, _, _, _, _, _, _, _, _, _, _, _, _ => none
 | k + 1, x0, x6, x7, x8, x346000, x346001, x346002, x346003, x346004, x346005, x346006, x346007, x346008, x346009, x346010 => if x8 < (x0.length : Int) then (if 0 ≤ x8 then (if ((rd_T61 x0 x8).f0) = x346001 then (if x7 = 0 then (spec_DoTask.l0 k x0 x6 (wrap64 (((rd_T61 x0 x8).f1) + 1)) (wrap64 (x8 + 1)) x346000 x346001 x346002 x346003 x346004 x346005 x346006 x346007 x346008 x346009 x346010) else (spec_DoTask.l0 k x0 x6 x7 (wrap64 (x8 + 1)) x346000 x346001 x346002 x346003 x346004 x346005 x346006 x346007 x346008 x346009 x346010)) else (spec_DoTask.l0 k x0 x6 x7 (wrap64 (x8 + 1)) x346000 x346001 x346002 x346003 x346004 x346005 x346006 x346007 x346008 x346009 x346010)) else (none)) else (if x346000 = 1 then (if x6.length + x0.length < 8796093022208 then (some ((x6 ++ x0), x7)) else (none)) else (if x346000 = 2 then (spec_DoTask.l1 k x0 x6 0 x346000 x346001 x346002 x346003 x346004 x346005 x346006 x346007 x346008 x346009 x346010) else (spec_DoTask.l4 k x0 x6 0 0 x346000 x346001 x346002 x346003 x346004 x346005 x346006 x346007 x346008 x346009 x346010)))
def spec_DoTask.l1 : Nat → List (S61) → List (S61) → Int → Int → Int → Int → Int → Int → Int → Int → Int → Int → Bool → Int → Option ((List (S61)) × Int)
 | 0, _, _, _, _, _, _, _, _, _, _, _, _, _, _ => none
 | k + 1, x0, x6, x9, x346000, x346001, x346002, x346003, x346004, x346005, x346006, x346007, x346008, x346009, x346010 => if x9 < (x0.length : Int) then (if 0 ≤ x9 then (if ((rd_T61 x0 x9).f0) = x346001 then ((some (([] : List (S61)) : List (S61))).bind fun y359 => (if y359.length + x0.length < 8796093022208 then (some ((y359 ++ x0), 0)) else (none))) else (spec_DoTask.l1 k x0 x6 (wrap64 (x9 + 1)) x346000 x346001 x346002 x346003 x346004 x346005 x346006 x346007 x346008 x346009 x346010)) else (none)) else (spec_DoTask.l2 k x0 x6 0 x346000 x346001 x346002 x346003 x346004 x346005 x346006 x346007 x346008 x346009 x346010)
def spec_DoTask.l2 : Nat → List (S61) → List (S61) → Int → Int → Int → Int → Int → Int → Int → Int → Int → Int → Bool → Int → Option ((List (S61)) × Int)
 | 0, _, _, _, _, _, _, _, _, _, _, _, _, _, _ => none
 | k + 1, x0, x6, x10, x346000, x346001, x346002, x346003, x346004, x346005, x346006, x346007, x346008, x346009, x346010 => if x10 < (x0.length : Int) then (if 0 ≤ x10 then (if ((rd_T61 x0 x10).f0) < x346001 then (if x6.length < 8796093022208 then (spec_DoTask.l2 k x0 (x6 ++ [(⟨(rd_T61 x0 x10).f0, (rd_T61 x0 x10).f1⟩ : S61)]) (wrap64 (x10 + 1)) x346000 x346001 x346002 x346003 x346004 x346005 x346006 x346007 x346008 x346009 x346010) else (none)) else (spec_DoTask.l2 k x0 x6 (wrap64 (x10 + 1)) x346000 x346001 x346002 x346003 x346004 x346005 x346006 x346007 x346008 x346009 x346010)) else (none)) else (if x6.length < 8796093022208 then (spec_DoTask.l3 k x0 (x6 ++ [(⟨x346001, x346002⟩ : S61)]) 0 x346000 x346001 x346002 x346003 x346004 x346005 x346006 x346007 x346008 x346009 x346010) else (none))
def spec_DoTask.l3 : Nat → List (S61) → List (S61) → Int → Int → Int → Int → Int → Int → Int → Int → Int → Int → Bool → Int → Option ((List (S61)) × Int)
 | 0, _, _, _, _, _, _, _, _, _, _, _, _, _, _ => none
 | k + 1, x0, x6, x11, x346000, x346001, x346002, x346003, x346004, x346005, x346006, x346007, x346008, x346009, x346010 => if x11 < (x0.length : Int) then (if 0 ≤ x11 then (if ((rd_T61 x0 x11).f0) > x346001 then (if x6.length < 8796093022208 then (spec_DoTask.l3 k x0 (x6 ++ [(⟨(rd_T61 x0 x11).f0, (rd_T61 x0 x11).f1⟩ : S61)]) (wrap64 (x11 + 1)) x346000 x346001 x346002 x346003 x346004 x346005 x346006 x346007 x346008 x346009 x346010) else (none)) else (spec_DoTask.l3 k x0 x6 (wrap64 (x11 + 1)) x346000 x346001 x346002 x346003 x346004 x346005 x346006 x346007 x346008 x346009 x346010)) else (none)) else (some (x6, 1))
def spec_DoTask.l4 : Nat → List (S61) → List (S61) → Int → Int → Int → Int → Int → Int → Int → Int → Int → Int → Int → Bool → Int → Option ((List (S61)) × Int)
 | 0, _, _, _, _, _, _, _, _, _, _, _, _, _, _, _ => none
 | k + 1, x0, x6, x12, x13, x346000, x346001, x346002, x346003, x346004, x346005, x346006, x346007, x346008, x346009, x346010 => if x13 < (x0.length : Int) then (if 0 ≤ x13 then (if ((rd_T61 x0 x13).f0) = x346001 then (spec_DoTask.l4 k x0 x6 1 (wrap64 (x13 + 1)) x346000 x346001 x346002 x346003 x346004 x346005 x346006 x346007 x346008 x346009 x346010) else (if x6.length < 8796093022208 then (spec_DoTask.l4 k x0 (x6 ++ [(⟨(rd_T61 x0 x13).f0, (rd_T61 x0 x13).f1⟩ : S61)]) x12 (wrap64 (x13 + 1)) x346000 x346001 x346002 x346003 x346004 x346005 x346006 x346007 x346008 x346009 x346010) else (none))) else (none)) else (some (x6, x12))
end
def spec_DoTask.f (k : Nat) (l0 : List (S61)) (a1_0 : Int) (a1_1 : Int) (a1_2 : Int) (a1_3 : Int) (a1_4 : Int) (a1_5 : Int) (a1_6 : Int) (a1_7 : Int) (a1_8 : Int) (a1_9 : Bool) (a1_10 : Int) : Option ((List (S61)) × Int) := (some (([] : List (S61)) : List (S61))).bind fun y346 => ((spec_l01In.f a1_0 1 3).bind fun t349 => (if t349 = true then (spec_DoTask.l0 k l0 y346 0 0 a1_0 a1_1 a1_2 a1_3 a1_4 a1_5 a1_6 a1_7 a1_8 a1_9 a1_10) else (if y346.length + l0.length < 8796093022208 then (some ((y346 ++ l0), 0)) else (none))))
theorem spec_DoTask.mono_l : ∀ k, (∀ y0 y1 y2 y3 y4 y5 y6 y7 y8 y9 y10 y11 y12 y13 y14, LeO (spec_DoTask.l0 k y0 y1 y2 y3 y4 y5 y6 y7 y8 y9 y10 y11 y12 y13 y14) (spec_DoTask.l0 (k + 1) y0 y1 y2 y3 y4 y5 y6 y7 y8 y9 y10 y11 y12 y13 y14)) ∧ (∀ y0 y1 y2 y3 y4 y5 y6 y7 y8 y9 y10 y11 y12 y13, LeO (spec_DoTask.l1 k y0 y1 y2 y3 y4 y5 y6 y7 y8 y9 y10 y11 y12 y13) (spec_DoTask.l1 (k + 1) y0 y1 y2 y3 y4 y5 y6 y7 y8 y9 y10 y11 y12 y13)) ∧ (∀ y0 y1 y2 y3 y4 y5 y6 y7 y8 y9 y10 y11 y12 y13, LeO (spec_DoTask.l2 k y0 y1 y2 y3 y4 y5 y6 y7 y8 y9 y10 y11 y12 y13) (spec_DoTask.l2 (k + 1) y0 y1 y2 y3 y4 y5 y6 y7 y8 y9 y10 y11 y12 y13)) ∧ (∀ y0 y1 y2 y3 y4 y5 y6 y7 y8 y9 y10 y11 y12 y13, LeO (spec_DoTask.l3 k y0 y1 y2 y3 y4 y5 y6 y7 y8 y9 y10 y11 y12 y13) (spec_DoTask.l3 (k + 1) y0 y1 y2 y3 y4 y5 y6 y7 y8 y9 y10 y11 y12 y13)) ∧ (∀ y0 y1 y2 y3 y4 y5 y6 y7 y8 y9 y10 y11 y12 y13 y14, LeO (spec_DoTask.l4 k y0 y1 y2 y3 y4 y5 y6 y7 y8 y9 y10 y11 y12 y13 y14) (spec_DoTask.l4 (k + 1) y0 y1 y2 y3 y4 y5 y6 y7 y8 y9 y10 y11 y12 y13 y14))
 | 0 => ⟨fun _ _ _ _ _ _ _ _ _ _ _ _ _ _ _ r h => by simp [spec_DoTask.l0] at h, fun _ _ _ _ _ _ _ _ _ _ _ _ _ _ r h => by simp [spec_DoTask.l1] at h, fun _ _ _ _ _ _ _ _ _ _ _ _ _ _ r h => by simp [spec_DoTask.l2] at h, fun _ _ _ _ _ _ _ _ _ _ _ _ _ _ r h => by simp [spec_DoTask.l3] at h, fun _ _ _ _ _ _ _ _ _ _ _ _ _ _ _ r h => by simp [spec_DoTask.l4] at h⟩
 | k + 1 => by
  obtain ⟨ih0, ih1, ih2, ih3, ih4⟩ := spec_DoTask.mono_l k
  refine ⟨?_, ?_, ?_, ?_, ?_⟩
  ·
   intro y0 y1 y2 y3 y4 y5 y6 y7 y8 y9 y10 y11 y12 y13 y14
   unfold spec_DoTask.l0
   repeat' first
   | (with_reducible exact ih0 _ _ _ _ _ _ _ _ _ _ _ _ _ _ _)
   | (with_reducible exact ih1 _ _ _ _ _ _ _ _ _ _ _ _ _ _)
   | (with_reducible exact ih2 _ _ _ _ _ _ _ _ _ _ _ _ _ _)
   | (with_reducible exact ih3 _ _ _ _ _ _ _ _ _ _ _ _ _ _)
   | (with_reducible exact ih4 _ _ _ _ _ _ _ _ _ _ _ _ _ _ _)
   | (with_reducible exact LeO.refl _)
   | (with_reducible exact LeO.none _)
   | (with_reducible refine LeO.ite ?_ ?_)
   | (with_reducible refine LeO.bind ?_ (fun _ => ?_))
   | exact ih0 _ _ _ _ _ _ _ _ _ _ _ _ _ _ _
   | exact ih1 _ _ _ _ _ _ _ _ _ _ _ _ _ _
   | exact ih2 _ _ _ _ _ _ _ _ _ _ _ _ _ _
   | exact ih3 _ _ _ _ _ _ _ _ _ _ _ _ _ _
   | exact ih4 _ _ _ _ _ _ _ _ _ _ _ _ _ _ _
   | exact LeO.none _
   | refine LeO.ite ?_ ?_
   | refine LeO.bind ?_ (fun _ => ?_)
  ·
   intro y0 y1 y2 y3 y4 y5 y6 y7 y8 y9 y10 y11 y12 y13
   unfold spec_DoTask.l1
   repeat' first
   | (with_reducible exact ih0 _ _ _ _ _ _ _ _ _ _ _ _ _ _ _)
   | (with_reducible exact ih1 _ _ _ _ _ _ _ _ _ _ _ _ _ _)
   | (with_reducible exact ih2 _ _ _ _ _ _ _ _ _ _ _ _ _ _)
   | (with_reducible exact ih3 _ _ _ _ _ _ _ _ _ _ _ _ _ _)
   | (with_reducible exact ih4 _ _ _ _ _ _ _ _ _ _ _ _ _ _ _)
   | (with_reducible exact LeO.refl _)
   | (with_reducible exact LeO.none _)
   | (with_reducible refine LeO.ite ?_ ?_)
   | (with_reducible refine LeO.bind ?_ (fun _ => ?_))
   | exact ih0 _ _ _ _ _ _ _ _ _ _ _ _ _ _ _
   | exact ih1 _ _ _ _ _ _ _ _ _ _ _ _ _ _
   | exact ih2 _ _ _ _ _ _ _ _ _ _ _ _ _ _
   | exact ih3 _ _ _ _ _ _ _ _ _ _ _ _ _ _
   | exact ih4 _ _ _ _ _ _ _ _ _ _ _ _ _ _ _
   | exact LeO.none _
   | refine LeO.ite ?_ ?_
   | refine LeO.bind ?_ (fun _ => ?_)
  ·
   intro y0 y1 y2 y3 y4 y5 y6 y7 y8 y9 y10 y11 y12 y13
   unfold spec_DoTask.l2
   repeat' first
   | (with_reducible exact ih0 _ _ _ _ _ _ _ _ _ _ _ _ _ _ _)
   | (with_reducible exact ih1 _ _ _ _ _ _ _ _ _ _ _ _ _ _)
   | (with_reducible exact ih2 _ _ _ _ _ _ _ _ _ _ _ _ _ _)
   | (with_reducible exact ih3 _ _ _ _ _ _ _ _ _ _ _ _ _ _)
   | (with_reducible exact ih4 _ _ _ _ _ _ _ _ _ _ _ _ _ _ _)
   | (with_reducible exact LeO.refl _)
   | (with_reducible exact LeO.none _)
   | (with_reducible refine LeO.ite ?_ ?_)
   | (with_reducible refine LeO.bind ?_ (fun _ => ?_))
   | exact ih0 _ _ _ _ _ _ _ _ _ _ _ _ _ _ _
   | exact ih1 _ _ _ _ _ _ _ _ _ _ _ _ _ _
   | exact ih2 _ _ _ _ _ _ _ _ _ _ _ _ _ _
   | exact ih3 _ _ _ _ _ _ _ _ _ _ _ _ _ _
   | exact ih4 _ _ _ _ _ _ _ _ _ _ _ _ _ _ _
   | exact LeO.none _
   | refine LeO.ite ?_ ?_
   | refine LeO.bind ?_ (fun _ => ?_)
  ·
   intro y0 y1 y2 y3 y4 y5 y6 y7 y8 y9 y10 y11 y12 y13
   unfold spec_DoTask.l3
   repeat' first
   | (with_reducible exact ih0 _ _ _ _ _ _ _ _ _ _ _ _ _ _ _)
   | (with_reducible exact ih1 _ _ _ _ _ _ _ _ _ _ _ _ _ _)
   | (with_reducible exact ih2 _ _ _ _ _ _ _ _ _ _ _ _ _ _)
   | (with_reducible exact ih3 _ _ _ _ _ _ _ _ _ _ _ _ _ _)
   | (with_reducible exact ih4 _ _ _ _ _ _ _ _ _ _ _ _ _ _ _)
   | (with_reducible exact LeO.refl _)
   | (with_reducible exact LeO.none _)
   | (with_reducible refine LeO.ite ?_ ?_)
   | (with_reducible refine LeO.bind ?_ (fun _ => ?_))
   | exact ih0 _ _ _ _ _ _ _ _ _ _ _ _ _ _ _
   | exact ih1 _ _ _ _ _ _ _ _ _ _ _ _ _ _
   | exact ih2 _ _ _ _ _ _ _ _ _ _ _ _ _ _
   | exact ih3 _ _ _ _ _ _ _ _ _ _ _ _ _ _
   | exact ih4 _ _ _ _ _ _ _ _ _ _ _ _ _ _ _
   | exact LeO.none _
   | refine LeO.ite ?_ ?_
   | refine LeO.bind ?_ (fun _ => ?_)
  ·
   intro y0 y1 y2 y3 y4 y5 y6 y7 y8 y9 y10 y11 y12 y13 y14
   unfold spec_DoTask.l4
   repeat' first
   | (with_reducible exact ih0 _ _ _ _ _ _ _ _ _ _ _ _ _ _ _)
   | (with_reducible exact ih1 _ _ _ _ _ _ _ _ _ _ _ _ _ _)
   | (with_reducible exact ih2 _ _ _ _ _ _ _ _ _ _ _ _ _ _)
   | (with_reducible exact ih3 _ _ _ _ _ _ _ _ _ _ _ _ _ _)
   | (with_reducible exact ih4 _ _ _ _ _ _ _ _ _ _ _ _ _ _ _)
   | (with_reducible exact LeO.refl _)
   | (with_reducible exact LeO.none _)
   | (with_reducible refine LeO.ite ?_ ?_)
   | (with_reducible refine LeO.bind ?_ (fun _ => ?_))
   | exact ih0 _ _ _ _ _ _ _ _ _ _ _ _ _ _ _
   | exact ih1 _ _ _ _ _ _ _ _ _ _ _ _ _ _
   | exact ih2 _ _ _ _ _ _ _ _ _ _ _ _ _ _
   | exact ih3 _ _ _ _ _ _ _ _ _ _ _ _ _ _
   | exact ih4 _ _ _ _ _ _ _ _ _ _ _ _ _ _ _
   | exact LeO.none _
   | refine LeO.ite ?_ ?_
   | refine LeO.bind ?_ (fun _ => ?_)
theorem spec_DoTask.mono : ∀ a0 a1 a2 a3 a4 a5 a6 a7 a8 a9 a10 a11 k, LeO (spec_DoTask.f k a0 a1 a2 a3 a4 a5 a6 a7 a8 a9 a10 a11) (spec_DoTask.f (k + 1) a0 a1 a2 a3 a4 a5 a6 a7 a8 a9 a10 a11) := by
 intro a0 a1 a2 a3 a4 a5 a6 a7 a8 a9 a10 a11 k
 obtain ⟨ih0, ih1, ih2, ih3, ih4⟩ := spec_DoTask.mono_l k
 unfold spec_DoTask.f
 repeat' first
   | (with_reducible exact ih0 _ _ _ _ _ _ _ _ _ _ _ _ _ _ _)
   | (with_reducible exact ih1 _ _ _ _ _ _ _ _ _ _ _ _ _ _)
   | (with_reducible exact ih2 _ _ _ _ _ _ _ _ _ _ _ _ _ _)
   | (with_reducible exact ih3 _ _ _ _ _ _ _ _ _ _ _ _ _ _)
   | (with_reducible exact ih4 _ _ _ _ _ _ _ _ _ _ _ _ _ _ _)
   | (with_reducible exact LeO.refl _)
   | (with_reducible exact LeO.none _)
   | (with_reducible refine LeO.ite ?_ ?_)
   | (with_reducible refine LeO.bind ?_ (fun _ => ?_))
   | exact ih0 _ _ _ _ _ _ _ _ _ _ _ _ _ _ _
   | exact ih1 _ _ _ _ _ _ _ _ _ _ _ _ _ _
   | exact ih2 _ _ _ _ _ _ _ _ _ _ _ _ _ _
   | exact ih3 _ _ _ _ _ _ _ _ _ _ _ _ _ _
   | exact ih4 _ _ _ _ _ _ _ _ _ _ _ _ _ _ _
   | exact LeO.none _
   | refine LeO.ite ?_ ?_
   | refine LeO.bind ?_ (fun _ => ?_)
set_option maxHeartbeats 8000000 in
set_option maxRecDepth 100000 in
theorem spec_DoTask.calls (k : Nat) (A0 : Option Addr) (c0 : Nat) (l0 : List (S61)) (a1_0 : Int) (a1_1 : Int) (a1_2 : Int) (a1_3 : Int) (a1_4 : Int) (a1_5 : Int) (a1_6 : Int) (a1_7 : Int) (a1_8 : Int) (a1_9 : Bool) (a1_10 : Int) (r1 : List (S61)) (r2 : Int) (w : World) (hr0 : Kd.C k61 w A0 l0.length l0) (hc0 : l0.length ≤ c0) (h : spec_DoTask.f k l0 a1_0 a1_1 a1_2 a1_3 a1_4 a1_5 a1_6 a1_7 a1_8 a1_9 a1_10 = some (r1, r2)) :
  Calls Try.prog 49 #[.slice A0 l0.length c0, .agg #[.int .i64 a1_0, .int .i64 a1_1, .int .i64 a1_2, .int .i64 a1_3, .int .i64 a1_4, .int .i64 a1_5, .int .i64 a1_6, .int .i64 a1_7, .int .i64 a1_8, .bool a1_9, .int .i64 a1_10]] w fun e w' => ∃ v0_ : Value, e = .returned (.tuple #[v0_, .int .i64 r2]) ∧ Kd.R k61 61 w' w.heap.size (fun _ => True) v0_ r1 ∧ Below w.heap.size w w' := by
 have hu46 := Try.underlying46
 have hu61 := Try.underlying61
 have HR0 := Aside0.mk hr0
 have HC0 := Aside0.mk hc0
 clear hr0 hc0
 have HB := Aside0.mk (Below.refl w.heap.size w)
 have H : ((some (([] : List (S61)) : List (S61))).bind fun y346 => ((spec_l01In.f a1_0 1 3).bind fun t349 => (if t349 = true then (spec_DoTask.l0 k l0 y346 0 0 a1_0 a1_1 a1_2 a1_3 a1_4 a1_5 a1_6 a1_7 a1_8 a1_9 a1_10) else (if y346.length + l0.length < 8796093022208 then (some ((y346 ++ l0), 0)) else (none))))) = some (r1, r2) := h
 clear h
 obtain ⟨y346, hy346⟩ : ∃ y_ : List (S61), y_ = (([] : List (S61))) := ⟨_, rfl⟩
 replace H : ((spec_l01In.f a1_0 1 3).bind fun t349 => (if t349 = true then (spec_DoTask.l0 k l0 y346 0 0 a1_0 a1_1 a1_2 a1_3 a1_4 a1_5 a1_6 a1_7 a1_8 a1_9 a1_10) else (if y346.length + l0.length < 8796093022208 then (some ((y346 ++ l0), 0)) else (none)))) = some (r1, r2) := by first | (rw [hy346]; with_reducible exact H) | (have H2_ := (Option.bind_some _ _).symm.trans H; rw [hy346]; with_reducible exact H2_) | (have H2_ := (Option.bind_some _ _).symm.trans H; with_reducible exact H2_) | with_reducible exact H | (rw [hy346]; exact H) | exact H
 have Ny346 := Aside0.mk hy346
 clear hy346
 replace H := Option.bind_eq_some_iff.mp H
 obtain ⟨t349, A30, H⟩ := H
 have A3 := Aside0.mk A30
 clear A30
 by_cases c4 : t349 = true; rotate_left
 ·
  replace c4 := Bool.eq_false_iff.mpr c4
  subst c4
  have H1 : (if y346.length + l0.length < 8796093022208 then (some ((y346 ++ l0), 0)) else (none)) = some (r1, r2) := by rw [if_neg (show ¬ (false = true) by decide)] at H; exact H
  clear H
  have H := H1
  clear H1
  by_cases c56 : y346.length + l0.length < 8796093022208; rotate_left
  ·
   rw [if_neg c56] at H
   exact absurd H (by simp)
  rw [if_pos c56] at H
  have LMc56 := Aside0.mk c56
  clear c56
  obtain ⟨y350, hy350⟩ : ∃ y_ : List (S61), y_ = (y346 ++ l0) := ⟨_, rfl⟩
  replace H : (some (y350, 0)) = some (r1, r2) := by first | (rw [hy350]; with_reducible exact H) | (have H2_ := (Option.bind_some _ _).symm.trans H; rw [hy350]; with_reducible exact H2_) | (have H2_ := (Option.bind_some _ _).symm.trans H; with_reducible exact H2_) | with_reducible exact H | (rw [hy350]; exact H) | exact H
  have Ny350 := Aside0.mk hy350
  clear hy350
  simp only [Option.some.injEq, Prod.mk.injEq] at H
  obtain ⟨rfl, rfl⟩ := H
  go_enter Try.func49, Try.ntmps49
  go_wp2_with (first | ((with_reducible refine gate_dst (N := 3) rfl ?_); refine bE 3 #[.int .i64 a1_0, .int .i64 a1_1, .int .i64 a1_2, .int .i64 a1_3, .int .i64 a1_4, .int .i64 a1_5, .int .i64 a1_6, .int .i64 a1_7, .int .i64 a1_8, .bool a1_9, .int .i64 a1_10] 46 ?_; intro gb345 hg w57 hbox hb; have BK345 := Aside0.mk (hbox); have GW345 : Aside0 (w.heap.size ≤ gb345) := GS; have GE345 := GW345; replace HB := Aside0.mk (below_step (BL) hb); clear hb hbox hg) | ((with_reducible refine gate_dst (N := 14) rfl ?_); refine Kd.R_lit k61 _ 61 ?hg (N := 14) ?hd (xs := ([] : List (S61))) (inner := []) (ok := fun _ => True) (okp := fun _ => True) ?hr ?hp (fun _ hk => hk) trivial (Below.refl _ _) (Nat.le_refl _) (by simp) ?_; (case hd => rfl); (case hg => rfl); (case hr => first | (go_simp; done) | (go_simp; rfl)); (case hp => exact (Reps.none _ _)); intro v347 w58 ho59 hb hg_ hnew_; clear hg_ hnew_; (first | rw [← Ny346.out] at ho59 | (simp only [Int.reduceToNat] at ho59; rw [← Ny346.out] at ho59)); have HO348 := Aside0.mk (Kd.R_lower ho59 (below_size (BL))); replace BK345 := BB BK345.out hb; replace HB := Aside0.mk (below_step (BL) hb); clear hb ho59; have hcz60_0 : w58.cell? ⟨gb345, 0, none⟩ = some (.int .i64 a1_0) := CZ BK345.out 0; have hcz60_1 : w58.cell? ⟨gb345, 1, none⟩ = some (.int .i64 a1_1) := CZ BK345.out 1; have hcz60_2 : w58.cell? ⟨gb345, 2, none⟩ = some (.int .i64 a1_2) := CZ BK345.out 2; have hcz60_3 : w58.cell? ⟨gb345, 3, none⟩ = some (.int .i64 a1_3) := CZ BK345.out 3; have hcz60_4 : w58.cell? ⟨gb345, 4, none⟩ = some (.int .i64 a1_4) := CZ BK345.out 4; have hcz60_5 : w58.cell? ⟨gb345, 5, none⟩ = some (.int .i64 a1_5) := CZ BK345.out 5; have hcz60_6 : w58.cell? ⟨gb345, 6, none⟩ = some (.int .i64 a1_6) := CZ BK345.out 6; have hcz60_7 : w58.cell? ⟨gb345, 7, none⟩ = some (.int .i64 a1_7) := CZ BK345.out 7; have hcz60_8 : w58.cell? ⟨gb345, 8, none⟩ = some (.int .i64 a1_8) := CZ BK345.out 8; have hcz60_9 : w58.cell? ⟨gb345, 9, none⟩ = some (.bool a1_9) := CZ BK345.out 9; have hcz60_10 : w58.cell? ⟨gb345, 10, none⟩ = some (.int .i64 a1_10) := CZ BK345.out 10; have hfz60_0 := blk_frozen BK345.out 0; have hfz60_1 := blk_frozen BK345.out 1; have hfz60_2 := blk_frozen BK345.out 2; have hfz60_3 := blk_frozen BK345.out 3; have hfz60_4 := blk_frozen BK345.out 4; have hfz60_5 := blk_frozen BK345.out 5; have hfz60_6 := blk_frozen BK345.out 6; have hfz60_7 := blk_frozen BK345.out 7; have hfz60_8 := blk_frozen BK345.out 8; have hfz60_9 := blk_frozen BK345.out 9; have hfz60_10 := blk_frozen BK345.out 10) | (go_at_call 50; (with_reducible refine (spec_l01In.calls a1_0 1 3 false _ A3.out).mono ?_); rintro e w' ⟨rfl, ⟨nd, rfl⟩⟩; (try first | exact ⟨rfl, _, World.drewN_drewN _ _ _⟩ | exact ⟨rfl, _, Eq.trans (World.drewN_drewN _ _ _) (congrArg (World.drewN _) (Nat.add_assoc _ _ _))⟩)) | ((with_reducible refine gate_builtin (b := .append) (xs := #[.tmp 19, .tmp 20]) rfl ?_); at_builtin; refine Kd.R_append_rows k61 (w0 := w) w.heap.size rfl (.tmp 19) (.tmp 20) 58 61 (.agg #[(.int .i64 0), (.int .i64 0)]) 16 rfl Try.underlying58 info61 rfl (by decide) (by omega) v347 y346 l0 _ _ _ (fun _ => True) (fun _ => False) rfl rfl ?aO ?aR (fun _ _ h => h) (fun _ h => h.elim) ?aF ?aB ?aS ?aL ?_; (case aR => repeat (first | exact (Kd.C_below HR0.out (BL)) | (with_reducible refine Kd.C_alloc ?_ _) | (with_reducible refine Kd.C_drewN ?_ _) | (with_reducible refine Kd.C_drew ?_))); (case aB => exact (BL)); (case aF => exact (fun _ _ => trivial)); (case aO => exact (RQ HO348.out)); (case aS => exact (below_size (BL))); (case aL => have := LMc56.out; omega); intro v351 w61 ho hb hg hat; rw [← Ny350.out] at ho; have n0_ := Aside0.mk (blk_grown (g := gb345) (o := .cells #[.int .i64 a1_0, .int .i64 a1_1, .int .i64 a1_2, .int .i64 a1_3, .int .i64 a1_4, .int .i64 a1_5, .int .i64 a1_6, .int .i64 a1_7, .int .i64 a1_8, .bool a1_9, .int .i64 a1_10] 46 (0, 0)) (BQ BK345.out) hg (Kd.R_ne HO348.out BK345.out (by decide))); have n1_ := Aside0.mk (hb); have n2_ := Aside0.mk (ho); clear BK345; clear HB; clear HO348; have BK345 := n0_; have HB := n1_; have HO352 := n2_; clear n0_ n1_ n2_; clear ho hb hg hat))
  repeat (go_quiet (first | ((with_reducible refine gate_dst (N := 3) rfl ?_); refine bE 3 #[.int .i64 a1_0, .int .i64 a1_1, .int .i64 a1_2, .int .i64 a1_3, .int .i64 a1_4, .int .i64 a1_5, .int .i64 a1_6, .int .i64 a1_7, .int .i64 a1_8, .bool a1_9, .int .i64 a1_10] 46 ?_; intro gb345 hg w57 hbox hb; have BK345 := Aside0.mk (hbox); have GW345 : Aside0 (w.heap.size ≤ gb345) := GS; have GE345 := GW345; replace HB := Aside0.mk (below_step (BL) hb); clear hb hbox hg) | ((with_reducible refine gate_dst (N := 14) rfl ?_); refine Kd.R_lit k61 _ 61 ?hg (N := 14) ?hd (xs := ([] : List (S61))) (inner := []) (ok := fun _ => True) (okp := fun _ => True) ?hr ?hp (fun _ hk => hk) trivial (Below.refl _ _) (Nat.le_refl _) (by simp) ?_; (case hd => rfl); (case hg => rfl); (case hr => first | (go_simp; done) | (go_simp; rfl)); (case hp => exact (Reps.none _ _)); intro v347 w58 ho59 hb hg_ hnew_; clear hg_ hnew_; (first | rw [← Ny346.out] at ho59 | (simp only [Int.reduceToNat] at ho59; rw [← Ny346.out] at ho59)); have HO348 := Aside0.mk (Kd.R_lower ho59 (below_size (BL))); replace BK345 := BB BK345.out hb; replace HB := Aside0.mk (below_step (BL) hb); clear hb ho59; have hcz60_0 : w58.cell? ⟨gb345, 0, none⟩ = some (.int .i64 a1_0) := CZ BK345.out 0; have hcz60_1 : w58.cell? ⟨gb345, 1, none⟩ = some (.int .i64 a1_1) := CZ BK345.out 1; have hcz60_2 : w58.cell? ⟨gb345, 2, none⟩ = some (.int .i64 a1_2) := CZ BK345.out 2; have hcz60_3 : w58.cell? ⟨gb345, 3, none⟩ = some (.int .i64 a1_3) := CZ BK345.out 3; have hcz60_4 : w58.cell? ⟨gb345, 4, none⟩ = some (.int .i64 a1_4) := CZ BK345.out 4; have hcz60_5 : w58.cell? ⟨gb345, 5, none⟩ = some (.int .i64 a1_5) := CZ BK345.out 5; have hcz60_6 : w58.cell? ⟨gb345, 6, none⟩ = some (.int .i64 a1_6) := CZ BK345.out 6; have hcz60_7 : w58.cell? ⟨gb345, 7, none⟩ = some (.int .i64 a1_7) := CZ BK345.out 7; have hcz60_8 : w58.cell? ⟨gb345, 8, none⟩ = some (.int .i64 a1_8) := CZ BK345.out 8; have hcz60_9 : w58.cell? ⟨gb345, 9, none⟩ = some (.bool a1_9) := CZ BK345.out 9; have hcz60_10 : w58.cell? ⟨gb345, 10, none⟩ = some (.int .i64 a1_10) := CZ BK345.out 10; have hfz60_0 := blk_frozen BK345.out 0; have hfz60_1 := blk_frozen BK345.out 1; have hfz60_2 := blk_frozen BK345.out 2; have hfz60_3 := blk_frozen BK345.out 3; have hfz60_4 := blk_frozen BK345.out 4; have hfz60_5 := blk_frozen BK345.out 5; have hfz60_6 := blk_frozen BK345.out 6; have hfz60_7 := blk_frozen BK345.out 7; have hfz60_8 := blk_frozen BK345.out 8; have hfz60_9 := blk_frozen BK345.out 9; have hfz60_10 := blk_frozen BK345.out 10) | (go_at_call 50; (with_reducible refine (spec_l01In.calls a1_0 1 3 false _ A3.out).mono ?_); rintro e w' ⟨rfl, ⟨nd, rfl⟩⟩; (try first | exact ⟨rfl, _, World.drewN_drewN _ _ _⟩ | exact ⟨rfl, _, Eq.trans (World.drewN_drewN _ _ _) (congrArg (World.drewN _) (Nat.add_assoc _ _ _))⟩)) | ((with_reducible refine gate_builtin (b := .append) (xs := #[.tmp 19, .tmp 20]) rfl ?_); at_builtin; refine Kd.R_append_rows k61 (w0 := w) w.heap.size rfl (.tmp 19) (.tmp 20) 58 61 (.agg #[(.int .i64 0), (.int .i64 0)]) 16 rfl Try.underlying58 info61 rfl (by decide) (by omega) v347 y346 l0 _ _ _ (fun _ => True) (fun _ => False) rfl rfl ?aO ?aR (fun _ _ h => h) (fun _ h => h.elim) ?aF ?aB ?aS ?aL ?_; (case aR => repeat (first | exact (Kd.C_below HR0.out (BL)) | (with_reducible refine Kd.C_alloc ?_ _) | (with_reducible refine Kd.C_drewN ?_ _) | (with_reducible refine Kd.C_drew ?_))); (case aB => exact (BL)); (case aF => exact (fun _ _ => trivial)); (case aO => exact (RQ HO348.out)); (case aS => exact (below_size (BL))); (case aL => have := LMc56.out; omega); intro v351 w61 ho hb hg hat; rw [← Ny350.out] at ho; have n0_ := Aside0.mk (blk_grown (g := gb345) (o := .cells #[.int .i64 a1_0, .int .i64 a1_1, .int .i64 a1_2, .int .i64 a1_3, .int .i64 a1_4, .int .i64 a1_5, .int .i64 a1_6, .int .i64 a1_7, .int .i64 a1_8, .bool a1_9, .int .i64 a1_10] 46 (0, 0)) (BQ BK345.out) hg (Kd.R_ne HO348.out BK345.out (by decide))); have n1_ := Aside0.mk (hb); have n2_ := Aside0.mk (ho); clear BK345; clear HB; clear HO348; have BK345 := n0_; have HB := n1_; have HO352 := n2_; clear n0_ n1_ n2_; clear ho hb hg hat)); try go_wp2_with (first | ((with_reducible refine gate_dst (N := 3) rfl ?_); refine bE 3 #[.int .i64 a1_0, .int .i64 a1_1, .int .i64 a1_2, .int .i64 a1_3, .int .i64 a1_4, .int .i64 a1_5, .int .i64 a1_6, .int .i64 a1_7, .int .i64 a1_8, .bool a1_9, .int .i64 a1_10] 46 ?_; intro gb345 hg w57 hbox hb; have BK345 := Aside0.mk (hbox); have GW345 : Aside0 (w.heap.size ≤ gb345) := GS; have GE345 := GW345; replace HB := Aside0.mk (below_step (BL) hb); clear hb hbox hg) | ((with_reducible refine gate_dst (N := 14) rfl ?_); refine Kd.R_lit k61 _ 61 ?hg (N := 14) ?hd (xs := ([] : List (S61))) (inner := []) (ok := fun _ => True) (okp := fun _ => True) ?hr ?hp (fun _ hk => hk) trivial (Below.refl _ _) (Nat.le_refl _) (by simp) ?_; (case hd => rfl); (case hg => rfl); (case hr => first | (go_simp; done) | (go_simp; rfl)); (case hp => exact (Reps.none _ _)); intro v347 w58 ho59 hb hg_ hnew_; clear hg_ hnew_; (first | rw [← Ny346.out] at ho59 | (simp only [Int.reduceToNat] at ho59; rw [← Ny346.out] at ho59)); have HO348 := Aside0.mk (Kd.R_lower ho59 (below_size (BL))); replace BK345 := BB BK345.out hb; replace HB := Aside0.mk (below_step (BL) hb); clear hb ho59; have hcz60_0 : w58.cell? ⟨gb345, 0, none⟩ = some (.int .i64 a1_0) := CZ BK345.out 0; have hcz60_1 : w58.cell? ⟨gb345, 1, none⟩ = some (.int .i64 a1_1) := CZ BK345.out 1; have hcz60_2 : w58.cell? ⟨gb345, 2, none⟩ = some (.int .i64 a1_2) := CZ BK345.out 2; have hcz60_3 : w58.cell? ⟨gb345, 3, none⟩ = some (.int .i64 a1_3) := CZ BK345.out 3; have hcz60_4 : w58.cell? ⟨gb345, 4, none⟩ = some (.int .i64 a1_4) := CZ BK345.out 4; have hcz60_5 : w58.cell? ⟨gb345, 5, none⟩ = some (.int .i64 a1_5) := CZ BK345.out 5; have hcz60_6 : w58.cell? ⟨gb345, 6, none⟩ = some (.int .i64 a1_6) := CZ BK345.out 6; have hcz60_7 : w58.cell? ⟨gb345, 7, none⟩ = some (.int .i64 a1_7) := CZ BK345.out 7; have hcz60_8 : w58.cell? ⟨gb345, 8, none⟩ = some (.int .i64 a1_8) := CZ BK345.out 8; have hcz60_9 : w58.cell? ⟨gb345, 9, none⟩ = some (.bool a1_9) := CZ BK345.out 9; have hcz60_10 : w58.cell? ⟨gb345, 10, none⟩ = some (.int .i64 a1_10) := CZ BK345.out 10; have hfz60_0 := blk_frozen BK345.out 0; have hfz60_1 := blk_frozen BK345.out 1; have hfz60_2 := blk_frozen BK345.out 2; have hfz60_3 := blk_frozen BK345.out 3; have hfz60_4 := blk_frozen BK345.out 4; have hfz60_5 := blk_frozen BK345.out 5; have hfz60_6 := blk_frozen BK345.out 6; have hfz60_7 := blk_frozen BK345.out 7; have hfz60_8 := blk_frozen BK345.out 8; have hfz60_9 := blk_frozen BK345.out 9; have hfz60_10 := blk_frozen BK345.out 10) | (go_at_call 50; (with_reducible refine (spec_l01In.calls a1_0 1 3 false _ A3.out).mono ?_); rintro e w' ⟨rfl, ⟨nd, rfl⟩⟩; (try first | exact ⟨rfl, _, World.drewN_drewN _ _ _⟩ | exact ⟨rfl, _, Eq.trans (World.drewN_drewN _ _ _) (congrArg (World.drewN _) (Nat.add_assoc _ _ _))⟩)) | ((with_reducible refine gate_builtin (b := .append) (xs := #[.tmp 19, .tmp 20]) rfl ?_); at_builtin; refine Kd.R_append_rows k61 (w0 := w) w.heap.size rfl (.tmp 19) (.tmp 20) 58 61 (.agg #[(.int .i64 0), (.int .i64 0)]) 16 rfl Try.underlying58 info61 rfl (by decide) (by omega) v347 y346 l0 _ _ _ (fun _ => True) (fun _ => False) rfl rfl ?aO ?aR (fun _ _ h => h) (fun _ h => h.elim) ?aF ?aB ?aS ?aL ?_; (case aR => repeat (first | exact (Kd.C_below HR0.out (BL)) | (with_reducible refine Kd.C_alloc ?_ _) | (with_reducible refine Kd.C_drewN ?_ _) | (with_reducible refine Kd.C_drew ?_))); (case aB => exact (BL)); (case aF => exact (fun _ _ => trivial)); (case aO => exact (RQ HO348.out)); (case aS => exact (below_size (BL))); (case aL => have := LMc56.out; omega); intro v351 w61 ho hb hg hat; rw [← Ny350.out] at ho; have n0_ := Aside0.mk (blk_grown (g := gb345) (o := .cells #[.int .i64 a1_0, .int .i64 a1_1, .int .i64 a1_2, .int .i64 a1_3, .int .i64 a1_4, .int .i64 a1_5, .int .i64 a1_6, .int .i64 a1_7, .int .i64 a1_8, .bool a1_9, .int .i64 a1_10] 46 (0, 0)) (BQ BK345.out) hg (Kd.R_ne HO348.out BK345.out (by decide))); have n1_ := Aside0.mk (hb); have n2_ := Aside0.mk (ho); clear BK345; clear HB; clear HO348; have BK345 := n0_; have HB := n1_; have HO352 := n2_; clear n0_ n1_ n2_; clear ho hb hg hat)))
  go_ret2
  exact ⟨_, EE, RQ HO352.out, BL⟩
 subst c4
 have H1 : (spec_DoTask.l0 k l0 y346 0 0 a1_0 a1_1 a1_2 a1_3 a1_4 a1_5 a1_6 a1_7 a1_8 a1_9 a1_10) = some (r1, r2) := by rw [if_pos rfl] at H; exact H
 clear H
 have H := H1
 clear H1
 have H' := Aside0.mk H
 clear H
 go_enter Try.func49, Try.ntmps49
 go_wp2_with (first | ((with_reducible refine gate_dst (N := 3) rfl ?_); refine bE 3 #[.int .i64 a1_0, .int .i64 a1_1, .int .i64 a1_2, .int .i64 a1_3, .int .i64 a1_4, .int .i64 a1_5, .int .i64 a1_6, .int .i64 a1_7, .int .i64 a1_8, .bool a1_9, .int .i64 a1_10] 46 ?_; intro gb345 hg w5 hbox hb; have BK345 := Aside0.mk (hbox); have GW345 : Aside0 (w.heap.size ≤ gb345) := GS; have GE345 := GW345; replace HB := Aside0.mk (below_step (BL) hb); clear hb hbox hg) | ((with_reducible refine gate_dst (N := 14) rfl ?_); refine Kd.R_lit k61 _ 61 ?hg (N := 14) ?hd (xs := ([] : List (S61))) (inner := []) (ok := fun _ => True) (okp := fun _ => True) ?hr ?hp (fun _ hk => hk) trivial (Below.refl _ _) (Nat.le_refl _) (by simp) ?_; (case hd => rfl); (case hg => rfl); (case hr => first | (go_simp; done) | (go_simp; rfl)); (case hp => exact (Reps.none _ _)); intro v347 w6 ho7 hb hg_ hnew_; clear hg_ hnew_; (first | rw [← Ny346.out] at ho7 | (simp only [Int.reduceToNat] at ho7; rw [← Ny346.out] at ho7)); have HO348 := Aside0.mk (Kd.R_lower ho7 (below_size (BL))); replace BK345 := BB BK345.out hb; replace HB := Aside0.mk (below_step (BL) hb); clear hb ho7; have hcz8_0 : w6.cell? ⟨gb345, 0, none⟩ = some (.int .i64 a1_0) := CZ BK345.out 0; have hcz8_1 : w6.cell? ⟨gb345, 1, none⟩ = some (.int .i64 a1_1) := CZ BK345.out 1; have hcz8_2 : w6.cell? ⟨gb345, 2, none⟩ = some (.int .i64 a1_2) := CZ BK345.out 2; have hcz8_3 : w6.cell? ⟨gb345, 3, none⟩ = some (.int .i64 a1_3) := CZ BK345.out 3; have hcz8_4 : w6.cell? ⟨gb345, 4, none⟩ = some (.int .i64 a1_4) := CZ BK345.out 4; have hcz8_5 : w6.cell? ⟨gb345, 5, none⟩ = some (.int .i64 a1_5) := CZ BK345.out 5; have hcz8_6 : w6.cell? ⟨gb345, 6, none⟩ = some (.int .i64 a1_6) := CZ BK345.out 6; have hcz8_7 : w6.cell? ⟨gb345, 7, none⟩ = some (.int .i64 a1_7) := CZ BK345.out 7; have hcz8_8 : w6.cell? ⟨gb345, 8, none⟩ = some (.int .i64 a1_8) := CZ BK345.out 8; have hcz8_9 : w6.cell? ⟨gb345, 9, none⟩ = some (.bool a1_9) := CZ BK345.out 9; have hcz8_10 : w6.cell? ⟨gb345, 10, none⟩ = some (.int .i64 a1_10) := CZ BK345.out 10; have hfz8_0 := blk_frozen BK345.out 0; have hfz8_1 := blk_frozen BK345.out 1; have hfz8_2 := blk_frozen BK345.out 2; have hfz8_3 := blk_frozen BK345.out 3; have hfz8_4 := blk_frozen BK345.out 4; have hfz8_5 := blk_frozen BK345.out 5; have hfz8_6 := blk_frozen BK345.out 6; have hfz8_7 := blk_frozen BK345.out 7; have hfz8_8 := blk_frozen BK345.out 8; have hfz8_9 := blk_frozen BK345.out 9; have hfz8_10 := blk_frozen BK345.out 10) | (go_at_call 50; (with_reducible refine (spec_l01In.calls a1_0 1 3 true _ A3.out).mono ?_); rintro e w' ⟨rfl, ⟨nd, rfl⟩⟩; (try first | exact ⟨rfl, _, World.drewN_drewN _ _ _⟩ | exact ⟨rfl, _, Eq.trans (World.drewN_drewN _ _ _) (congrArg (World.drewN _) (Nat.add_assoc _ _ _))⟩)))
 repeat (go_quiet (first | ((with_reducible refine gate_dst (N := 3) rfl ?_); refine bE 3 #[.int .i64 a1_0, .int .i64 a1_1, .int .i64 a1_2, .int .i64 a1_3, .int .i64 a1_4, .int .i64 a1_5, .int .i64 a1_6, .int .i64 a1_7, .int .i64 a1_8, .bool a1_9, .int .i64 a1_10] 46 ?_; intro gb345 hg w5 hbox hb; have BK345 := Aside0.mk (hbox); have GW345 : Aside0 (w.heap.size ≤ gb345) := GS; have GE345 := GW345; replace HB := Aside0.mk (below_step (BL) hb); clear hb hbox hg) | ((with_reducible refine gate_dst (N := 14) rfl ?_); refine Kd.R_lit k61 _ 61 ?hg (N := 14) ?hd (xs := ([] : List (S61))) (inner := []) (ok := fun _ => True) (okp := fun _ => True) ?hr ?hp (fun _ hk => hk) trivial (Below.refl _ _) (Nat.le_refl _) (by simp) ?_; (case hd => rfl); (case hg => rfl); (case hr => first | (go_simp; done) | (go_simp; rfl)); (case hp => exact (Reps.none _ _)); intro v347 w6 ho7 hb hg_ hnew_; clear hg_ hnew_; (first | rw [← Ny346.out] at ho7 | (simp only [Int.reduceToNat] at ho7; rw [← Ny346.out] at ho7)); have HO348 := Aside0.mk (Kd.R_lower ho7 (below_size (BL))); replace BK345 := BB BK345.out hb; replace HB := Aside0.mk (below_step (BL) hb); clear hb ho7; have hcz8_0 : w6.cell? ⟨gb345, 0, none⟩ = some (.int .i64 a1_0) := CZ BK345.out 0; have hcz8_1 : w6.cell? ⟨gb345, 1, none⟩ = some (.int .i64 a1_1) := CZ BK345.out 1; have hcz8_2 : w6.cell? ⟨gb345, 2, none⟩ = some (.int .i64 a1_2) := CZ BK345.out 2; have hcz8_3 : w6.cell? ⟨gb345, 3, none⟩ = some (.int .i64 a1_3) := CZ BK345.out 3; have hcz8_4 : w6.cell? ⟨gb345, 4, none⟩ = some (.int .i64 a1_4) := CZ BK345.out 4; have hcz8_5 : w6.cell? ⟨gb345, 5, none⟩ = some (.int .i64 a1_5) := CZ BK345.out 5; have hcz8_6 : w6.cell? ⟨gb345, 6, none⟩ = some (.int .i64 a1_6) := CZ BK345.out 6; have hcz8_7 : w6.cell? ⟨gb345, 7, none⟩ = some (.int .i64 a1_7) := CZ BK345.out 7; have hcz8_8 : w6.cell? ⟨gb345, 8, none⟩ = some (.int .i64 a1_8) := CZ BK345.out 8; have hcz8_9 : w6.cell? ⟨gb345, 9, none⟩ = some (.bool a1_9) := CZ BK345.out 9; have hcz8_10 : w6.cell? ⟨gb345, 10, none⟩ = some (.int .i64 a1_10) := CZ BK345.out 10; have hfz8_0 := blk_frozen BK345.out 0; have hfz8_1 := blk_frozen BK345.out 1; have hfz8_2 := blk_frozen BK345.out 2; have hfz8_3 := blk_frozen BK345.out 3; have hfz8_4 := blk_frozen BK345.out 4; have hfz8_5 := blk_frozen BK345.out 5; have hfz8_6 := blk_frozen BK345.out 6; have hfz8_7 := blk_frozen BK345.out 7; have hfz8_8 := blk_frozen BK345.out 8; have hfz8_9 := blk_frozen BK345.out 9; have hfz8_10 := blk_frozen BK345.out 10) | (go_at_call 50; (with_reducible refine (spec_l01In.calls a1_0 1 3 true _ A3.out).mono ?_); rintro e w' ⟨rfl, ⟨nd, rfl⟩⟩; (try first | exact ⟨rfl, _, World.drewN_drewN _ _ _⟩ | exact ⟨rfl, _, Eq.trans (World.drewN_drewN _ _ _) (congrArg (World.drewN _) (Nat.add_assoc _ _ _))⟩))); try go_wp2_with (first | ((with_reducible refine gate_dst (N := 3) rfl ?_); refine bE 3 #[.int .i64 a1_0, .int .i64 a1_1, .int .i64 a1_2, .int .i64 a1_3, .int .i64 a1_4, .int .i64 a1_5, .int .i64 a1_6, .int .i64 a1_7, .int .i64 a1_8, .bool a1_9, .int .i64 a1_10] 46 ?_; intro gb345 hg w5 hbox hb; have BK345 := Aside0.mk (hbox); have GW345 : Aside0 (w.heap.size ≤ gb345) := GS; have GE345 := GW345; replace HB := Aside0.mk (below_step (BL) hb); clear hb hbox hg) | ((with_reducible refine gate_dst (N := 14) rfl ?_); refine Kd.R_lit k61 _ 61 ?hg (N := 14) ?hd (xs := ([] : List (S61))) (inner := []) (ok := fun _ => True) (okp := fun _ => True) ?hr ?hp (fun _ hk => hk) trivial (Below.refl _ _) (Nat.le_refl _) (by simp) ?_; (case hd => rfl); (case hg => rfl); (case hr => first | (go_simp; done) | (go_simp; rfl)); (case hp => exact (Reps.none _ _)); intro v347 w6 ho7 hb hg_ hnew_; clear hg_ hnew_; (first | rw [← Ny346.out] at ho7 | (simp only [Int.reduceToNat] at ho7; rw [← Ny346.out] at ho7)); have HO348 := Aside0.mk (Kd.R_lower ho7 (below_size (BL))); replace BK345 := BB BK345.out hb; replace HB := Aside0.mk (below_step (BL) hb); clear hb ho7; have hcz8_0 : w6.cell? ⟨gb345, 0, none⟩ = some (.int .i64 a1_0) := CZ BK345.out 0; have hcz8_1 : w6.cell? ⟨gb345, 1, none⟩ = some (.int .i64 a1_1) := CZ BK345.out 1; have hcz8_2 : w6.cell? ⟨gb345, 2, none⟩ = some (.int .i64 a1_2) := CZ BK345.out 2; have hcz8_3 : w6.cell? ⟨gb345, 3, none⟩ = some (.int .i64 a1_3) := CZ BK345.out 3; have hcz8_4 : w6.cell? ⟨gb345, 4, none⟩ = some (.int .i64 a1_4) := CZ BK345.out 4; have hcz8_5 : w6.cell? ⟨gb345, 5, none⟩ = some (.int .i64 a1_5) := CZ BK345.out 5; have hcz8_6 : w6.cell? ⟨gb345, 6, none⟩ = some (.int .i64 a1_6) := CZ BK345.out 6; have hcz8_7 : w6.cell? ⟨gb345, 7, none⟩ = some (.int .i64 a1_7) := CZ BK345.out 7; have hcz8_8 : w6.cell? ⟨gb345, 8, none⟩ = some (.int .i64 a1_8) := CZ BK345.out 8; have hcz8_9 : w6.cell? ⟨gb345, 9, none⟩ = some (.bool a1_9) := CZ BK345.out 9; have hcz8_10 : w6.cell? ⟨gb345, 10, none⟩ = some (.int .i64 a1_10) := CZ BK345.out 10; have hfz8_0 := blk_frozen BK345.out 0; have hfz8_1 := blk_frozen BK345.out 1; have hfz8_2 := blk_frozen BK345.out 2; have hfz8_3 := blk_frozen BK345.out 3; have hfz8_4 := blk_frozen BK345.out 4; have hfz8_5 := blk_frozen BK345.out 5; have hfz8_6 := blk_frozen BK345.out 6; have hfz8_7 := blk_frozen BK345.out 7; have hfz8_8 := blk_frozen BK345.out 8; have hfz8_9 := blk_frozen BK345.out 9; have hfz8_10 := blk_frozen BK345.out 10) | (go_at_call 50; (with_reducible refine (spec_l01In.calls a1_0 1 3 true _ A3.out).mono ?_); rintro e w' ⟨rfl, ⟨nd, rfl⟩⟩; (try first | exact ⟨rfl, _, World.drewN_drewN _ _ _⟩ | exact ⟨rfl, _, Eq.trans (World.drewN_drewN _ _ _) (congrArg (World.drewN _) (Nat.add_assoc _ _ _))⟩))))
 go_loopg [7, 8] k (fun kq v7 v8 w' => ∃ (x7_1 : Int) (x8_1 : Int), v7 = .int .i64 x7_1 ∧ v8 = .int .i64 x8_1 ∧ Aside0 (spec_DoTask.l0 kq l0 y346 x7_1 x8_1 a1_0 a1_1 a1_2 a1_3 a1_4 a1_5 a1_6 a1_7 a1_8 a1_9 a1_10 = some (r1, r2)) ∧ Aside0 (kq ≤ k) ∧ Aside0 (Kd.R k61 61 w' w.heap.size (fun _ => True) v347 y346) ∧ Aside0 (w'.heap[gb345]? = some (.cells #[.int .i64 a1_0, .int .i64 a1_1, .int .i64 a1_2, .int .i64 a1_3, .int .i64 a1_4, .int .i64 a1_5, .int .i64 a1_6, .int .i64 a1_7, .int .i64 a1_8, .bool a1_9, .int .i64 a1_10] 46 (0, 0))) ∧ Aside0 (Below w.heap.size w w'))
 case atStart => exact ⟨(0), (0), SD, SD, H', ⟨Nat.le_refl _⟩, ⟨RQ HO348.out⟩, ⟨BQ BK345.out⟩, ⟨BL⟩⟩
 case round =>
  clear H'
  try clear p2 c4 hcz8_0 hcz8_1 hcz8_10 hcz8_2 hcz8_3 hcz8_4 hcz8_5 hcz8_6 hcz8_7 hcz8_8 hcz8_9 hfz8_0 hfz8_1 hfz8_10 hfz8_2 hfz8_3 hfz8_4 hfz8_5 hfz8_6 hfz8_7 hfz8_8 hfz8_9
  obtain ⟨x7_1, x8_1, rfl, rfl, HA, HK1, HO_6, BK345, HB⟩ := hrel
  cases gk with
  | zero => exact absurd HA.out (by simp [spec_DoTask.l0])
  | succ k1 =>
   have H := HA.out
   clear HA
   simp only [spec_DoTask.l0] at H
   by_cases c9 : x8_1 < (l0.length : Int)
   ·
    rw [if_pos c9] at H
    have c9b0 : decide (x8_1 < (l0.length : Int)) = true := decide_eq_true c9
    clear c9
    by_cases c10 : 0 ≤ x8_1; rotate_left
    ·
     rw [if_neg c10] at H
     exact absurd H (by simp)
    rw [if_pos c10] at H
    have c10b0 : decide (0 ≤ x8_1) = true := decide_eq_true c10
    clear c10
    by_cases c11 : ((rd_T61 l0 x8_1).f0) = a1_1; rotate_left
    ·
     rw [if_neg c11] at H
     have c11b0 : (((rd_T61 l0 x8_1).f0) == a1_1) = false := beq_eq_false_iff_ne.mpr c11
     have c11b1 : (((rd_T61 l0 x8_1).f0) != a1_1) = true := bne_iff_ne.mpr c11
     have H' := Aside0.mk H
     clear H
     have p353 : 0 ≤ (x8_1 : Int) := of_decide_eq_true AS
     have q353 : x8_1 < (l0.length : Int) := of_decide_eq_true AS
     obtain ⟨ad353, e353, hx353_0, hx353_1⟩ := at_T61 HR0.out x8_1 p353 q353
     cases e353
     replace hx353_0 := (HB.out.cell (World.block_lt_of_cell? w _ hx353_0)).trans hx353_0
     replace hx353_1 := (HB.out.cell (World.block_lt_of_cell? w _ hx353_1)).trans hx353_1
     replace p353 := eq_true p353
     replace q353 := eq_true q353
     have hcz15_0 : wr.cell? ⟨gb345, 0, none⟩ = some (.int .i64 a1_0) := CZ BK345.out 0
     have hcz15_1 : wr.cell? ⟨gb345, 1, none⟩ = some (.int .i64 a1_1) := CZ BK345.out 1
     have hcz15_2 : wr.cell? ⟨gb345, 2, none⟩ = some (.int .i64 a1_2) := CZ BK345.out 2
     have hcz15_3 : wr.cell? ⟨gb345, 3, none⟩ = some (.int .i64 a1_3) := CZ BK345.out 3
     have hcz15_4 : wr.cell? ⟨gb345, 4, none⟩ = some (.int .i64 a1_4) := CZ BK345.out 4
     have hcz15_5 : wr.cell? ⟨gb345, 5, none⟩ = some (.int .i64 a1_5) := CZ BK345.out 5
     have hcz15_6 : wr.cell? ⟨gb345, 6, none⟩ = some (.int .i64 a1_6) := CZ BK345.out 6
     have hcz15_7 : wr.cell? ⟨gb345, 7, none⟩ = some (.int .i64 a1_7) := CZ BK345.out 7
     have hcz15_8 : wr.cell? ⟨gb345, 8, none⟩ = some (.int .i64 a1_8) := CZ BK345.out 8
     have hcz15_9 : wr.cell? ⟨gb345, 9, none⟩ = some (.bool a1_9) := CZ BK345.out 9
     have hcz15_10 : wr.cell? ⟨gb345, 10, none⟩ = some (.int .i64 a1_10) := CZ BK345.out 10
     have hfz15_0 := blk_frozen BK345.out 0
     have hfz15_1 := blk_frozen BK345.out 1
     have hfz15_2 := blk_frozen BK345.out 2
     have hfz15_3 := blk_frozen BK345.out 3
     have hfz15_4 := blk_frozen BK345.out 4
     have hfz15_5 := blk_frozen BK345.out 5
     have hfz15_6 := blk_frozen BK345.out 6
     have hfz15_7 := blk_frozen BK345.out 7
     have hfz15_8 := blk_frozen BK345.out 8
     have hfz15_9 := blk_frozen BK345.out 9
     have hfz15_10 := blk_frozen BK345.out 10
     go_wp2
     repeat (go_quiet (fail); try go_wp2)
     go_roundg k1
     case measure => have := HK1.out; omega
     case rel => exact ⟨(x7_1), (wrap64 (x8_1 + 1)), SD, SD, H', ⟨by have := HK1.out; omega⟩, ⟨RQ HO_6.out⟩, ⟨BQ BK345.out⟩, ⟨BL⟩⟩
    rw [if_pos c11] at H
    have c11b0 : (((rd_T61 l0 x8_1).f0) == a1_1) = true := beq_iff_eq.mpr c11
    have c11b1 : (((rd_T61 l0 x8_1).f0) != a1_1) = false := bne_eq_false_iff_eq.mpr c11
    clear c11
    by_cases c12 : x7_1 = 0; rotate_left
    ·
     rw [if_neg c12] at H
     have c12b0 : (x7_1 == 0) = false := beq_eq_false_iff_ne.mpr c12
     have c12b1 : (x7_1 != 0) = true := bne_iff_ne.mpr c12
     have H' := Aside0.mk H
     clear H
     have p353 : 0 ≤ (x8_1 : Int) := of_decide_eq_true AS
     have q353 : x8_1 < (l0.length : Int) := of_decide_eq_true AS
     obtain ⟨ad353, e353, hx353_0, hx353_1⟩ := at_T61 HR0.out x8_1 p353 q353
     cases e353
     replace hx353_0 := (HB.out.cell (World.block_lt_of_cell? w _ hx353_0)).trans hx353_0
     replace hx353_1 := (HB.out.cell (World.block_lt_of_cell? w _ hx353_1)).trans hx353_1
     replace p353 := eq_true p353
     replace q353 := eq_true q353
     have hcz14_0 : wr.cell? ⟨gb345, 0, none⟩ = some (.int .i64 a1_0) := CZ BK345.out 0
     have hcz14_1 : wr.cell? ⟨gb345, 1, none⟩ = some (.int .i64 a1_1) := CZ BK345.out 1
     have hcz14_2 : wr.cell? ⟨gb345, 2, none⟩ = some (.int .i64 a1_2) := CZ BK345.out 2
     have hcz14_3 : wr.cell? ⟨gb345, 3, none⟩ = some (.int .i64 a1_3) := CZ BK345.out 3
     have hcz14_4 : wr.cell? ⟨gb345, 4, none⟩ = some (.int .i64 a1_4) := CZ BK345.out 4
     have hcz14_5 : wr.cell? ⟨gb345, 5, none⟩ = some (.int .i64 a1_5) := CZ BK345.out 5
     have hcz14_6 : wr.cell? ⟨gb345, 6, none⟩ = some (.int .i64 a1_6) := CZ BK345.out 6
     have hcz14_7 : wr.cell? ⟨gb345, 7, none⟩ = some (.int .i64 a1_7) := CZ BK345.out 7
     have hcz14_8 : wr.cell? ⟨gb345, 8, none⟩ = some (.int .i64 a1_8) := CZ BK345.out 8
     have hcz14_9 : wr.cell? ⟨gb345, 9, none⟩ = some (.bool a1_9) := CZ BK345.out 9
     have hcz14_10 : wr.cell? ⟨gb345, 10, none⟩ = some (.int .i64 a1_10) := CZ BK345.out 10
     have hfz14_0 := blk_frozen BK345.out 0
     have hfz14_1 := blk_frozen BK345.out 1
     have hfz14_2 := blk_frozen BK345.out 2
     have hfz14_3 := blk_frozen BK345.out 3
     have hfz14_4 := blk_frozen BK345.out 4
     have hfz14_5 := blk_frozen BK345.out 5
     have hfz14_6 := blk_frozen BK345.out 6
     have hfz14_7 := blk_frozen BK345.out 7
     have hfz14_8 := blk_frozen BK345.out 8
     have hfz14_9 := blk_frozen BK345.out 9
     have hfz14_10 := blk_frozen BK345.out 10
     go_wp2
     repeat (go_quiet (fail); try go_wp2)
     go_roundg k1
     case measure => have := HK1.out; omega
     case rel => exact ⟨(x7_1), (wrap64 (x8_1 + 1)), SD, SD, H', ⟨by have := HK1.out; omega⟩, ⟨RQ HO_6.out⟩, ⟨BQ BK345.out⟩, ⟨BL⟩⟩
    rw [if_pos c12] at H
    have c12b0 : (x7_1 == 0) = true := beq_iff_eq.mpr c12
    have c12b1 : (x7_1 != 0) = false := bne_eq_false_iff_eq.mpr c12
    clear c12
    have H' := Aside0.mk H
    clear H
    have p353 : 0 ≤ (x8_1 : Int) := of_decide_eq_true AS
    have q353 : x8_1 < (l0.length : Int) := of_decide_eq_true AS
    obtain ⟨ad353, e353, hx353_0, hx353_1⟩ := at_T61 HR0.out x8_1 p353 q353
    cases e353
    replace hx353_0 := (HB.out.cell (World.block_lt_of_cell? w _ hx353_0)).trans hx353_0
    replace hx353_1 := (HB.out.cell (World.block_lt_of_cell? w _ hx353_1)).trans hx353_1
    replace p353 := eq_true p353
    replace q353 := eq_true q353
    have hcz13_0 : wr.cell? ⟨gb345, 0, none⟩ = some (.int .i64 a1_0) := CZ BK345.out 0
    have hcz13_1 : wr.cell? ⟨gb345, 1, none⟩ = some (.int .i64 a1_1) := CZ BK345.out 1
    have hcz13_2 : wr.cell? ⟨gb345, 2, none⟩ = some (.int .i64 a1_2) := CZ BK345.out 2
    have hcz13_3 : wr.cell? ⟨gb345, 3, none⟩ = some (.int .i64 a1_3) := CZ BK345.out 3
    have hcz13_4 : wr.cell? ⟨gb345, 4, none⟩ = some (.int .i64 a1_4) := CZ BK345.out 4
    have hcz13_5 : wr.cell? ⟨gb345, 5, none⟩ = some (.int .i64 a1_5) := CZ BK345.out 5
    have hcz13_6 : wr.cell? ⟨gb345, 6, none⟩ = some (.int .i64 a1_6) := CZ BK345.out 6
    have hcz13_7 : wr.cell? ⟨gb345, 7, none⟩ = some (.int .i64 a1_7) := CZ BK345.out 7
    have hcz13_8 : wr.cell? ⟨gb345, 8, none⟩ = some (.int .i64 a1_8) := CZ BK345.out 8
    have hcz13_9 : wr.cell? ⟨gb345, 9, none⟩ = some (.bool a1_9) := CZ BK345.out 9
    have hcz13_10 : wr.cell? ⟨gb345, 10, none⟩ = some (.int .i64 a1_10) := CZ BK345.out 10
    have hfz13_0 := blk_frozen BK345.out 0
    have hfz13_1 := blk_frozen BK345.out 1
    have hfz13_2 := blk_frozen BK345.out 2
    have hfz13_3 := blk_frozen BK345.out 3
    have hfz13_4 := blk_frozen BK345.out 4
    have hfz13_5 := blk_frozen BK345.out 5
    have hfz13_6 := blk_frozen BK345.out 6
    have hfz13_7 := blk_frozen BK345.out 7
    have hfz13_8 := blk_frozen BK345.out 8
    have hfz13_9 := blk_frozen BK345.out 9
    have hfz13_10 := blk_frozen BK345.out 10
    have p354 : 0 ≤ (x8_1 : Int) := of_decide_eq_true AS
    have q354 : x8_1 < (l0.length : Int) := of_decide_eq_true AS
    obtain ⟨ad354, e354, hx354_0, hx354_1⟩ := at_T61 HR0.out x8_1 p354 q354
    obtain rfl : ad353 = ad354 := (by injection e354)
    replace hx354_0 := (HB.out.cell (World.block_lt_of_cell? w _ hx354_0)).trans hx354_0
    replace hx354_1 := (HB.out.cell (World.block_lt_of_cell? w _ hx354_1)).trans hx354_1
    replace p354 := eq_true p354
    replace q354 := eq_true q354
    go_wp2
    repeat (go_quiet (fail); try go_wp2)
    go_roundg k1
    case measure => have := HK1.out; omega
    case rel => exact ⟨(wrap64 (((rd_T61 l0 x8_1).f1) + 1)), (wrap64 (x8_1 + 1)), SD, SD, H', ⟨by have := HK1.out; omega⟩, ⟨RQ HO_6.out⟩, ⟨BQ BK345.out⟩, ⟨BL⟩⟩
   rw [if_neg c9] at H
   have c9b0 : decide (x8_1 < (l0.length : Int)) = false := decide_eq_false c9
   clear c9
   by_cases c16 : a1_0 = 1
   ·
    rw [if_pos c16] at H
    have c16b0 : (a1_0 == 1) = true := beq_iff_eq.mpr c16
    have c16b1 : (a1_0 != 1) = false := bne_eq_false_iff_eq.mpr c16
    clear c16
    by_cases c17 : y346.length + l0.length < 8796093022208; rotate_left
    ·
     rw [if_neg c17] at H
     exact absurd H (by simp)
    rw [if_pos c17] at H
    have LMc17 := Aside0.mk c17
    clear c17
    obtain ⟨y355, hy355⟩ : ∃ y_ : List (S61), y_ = (y346 ++ l0) := ⟨_, rfl⟩
    replace H : (some (y355, x7_1)) = some (r1, r2) := by first | (rw [hy355]; with_reducible exact H) | (have H2_ := (Option.bind_some _ _).symm.trans H; rw [hy355]; with_reducible exact H2_) | (have H2_ := (Option.bind_some _ _).symm.trans H; with_reducible exact H2_) | with_reducible exact H | (rw [hy355]; exact H) | exact H
    have Ny355 := Aside0.mk hy355
    clear hy355
    simp only [Option.some.injEq, Prod.mk.injEq] at H
    obtain ⟨rfl, rfl⟩ := H
    have hcz18_0 : wr.cell? ⟨gb345, 0, none⟩ = some (.int .i64 a1_0) := CZ BK345.out 0
    have hcz18_1 : wr.cell? ⟨gb345, 1, none⟩ = some (.int .i64 a1_1) := CZ BK345.out 1
    have hcz18_2 : wr.cell? ⟨gb345, 2, none⟩ = some (.int .i64 a1_2) := CZ BK345.out 2
    have hcz18_3 : wr.cell? ⟨gb345, 3, none⟩ = some (.int .i64 a1_3) := CZ BK345.out 3
    have hcz18_4 : wr.cell? ⟨gb345, 4, none⟩ = some (.int .i64 a1_4) := CZ BK345.out 4
    have hcz18_5 : wr.cell? ⟨gb345, 5, none⟩ = some (.int .i64 a1_5) := CZ BK345.out 5
    have hcz18_6 : wr.cell? ⟨gb345, 6, none⟩ = some (.int .i64 a1_6) := CZ BK345.out 6
    have hcz18_7 : wr.cell? ⟨gb345, 7, none⟩ = some (.int .i64 a1_7) := CZ BK345.out 7
    have hcz18_8 : wr.cell? ⟨gb345, 8, none⟩ = some (.int .i64 a1_8) := CZ BK345.out 8
    have hcz18_9 : wr.cell? ⟨gb345, 9, none⟩ = some (.bool a1_9) := CZ BK345.out 9
    have hcz18_10 : wr.cell? ⟨gb345, 10, none⟩ = some (.int .i64 a1_10) := CZ BK345.out 10
    have hfz18_0 := blk_frozen BK345.out 0
    have hfz18_1 := blk_frozen BK345.out 1
    have hfz18_2 := blk_frozen BK345.out 2
    have hfz18_3 := blk_frozen BK345.out 3
    have hfz18_4 := blk_frozen BK345.out 4
    have hfz18_5 := blk_frozen BK345.out 5
    have hfz18_6 := blk_frozen BK345.out 6
    have hfz18_7 := blk_frozen BK345.out 7
    have hfz18_8 := blk_frozen BK345.out 8
    have hfz18_9 := blk_frozen BK345.out 9
    have hfz18_10 := blk_frozen BK345.out 10
    go_wp2_with (first | ((with_reducible refine gate_builtin (b := .append) (xs := #[.tmp 49, .tmp 50]) rfl ?_); at_builtin; refine Kd.R_append_rows k61 (w0 := w) w.heap.size rfl (.tmp 49) (.tmp 50) 58 61 (.agg #[(.int .i64 0), (.int .i64 0)]) 16 rfl Try.underlying58 info61 rfl (by decide) (by omega) v347 y346 l0 _ _ _ (fun _ => True) (fun _ => False) rfl rfl ?aO ?aR (fun _ _ h => h) (fun _ h => h.elim) ?aF ?aB ?aS ?aL ?_; (case aR => exact CB HR0.out); (case aB => exact (BL)); (case aF => exact (fun _ _ => trivial)); (case aO => exact (RQ HO_6.out)); (case aS => exact (below_size (BL))); (case aL => have := LMc17.out; omega); intro v356 w19 ho hb hg hat; rw [← Ny355.out] at ho; have n0_ := Aside0.mk (blk_grown (g := gb345) (o := .cells #[.int .i64 a1_0, .int .i64 a1_1, .int .i64 a1_2, .int .i64 a1_3, .int .i64 a1_4, .int .i64 a1_5, .int .i64 a1_6, .int .i64 a1_7, .int .i64 a1_8, .bool a1_9, .int .i64 a1_10] 46 (0, 0)) (BQ BK345.out) hg (Kd.R_ne HO_6.out BK345.out (by decide))); have n1_ := Aside0.mk (hb); have n2_ := Aside0.mk (ho); clear BK345; clear HB; clear HO_6; have BK345 := n0_; have HB := n1_; have HO357 := n2_; clear n0_ n1_ n2_; clear ho hb hg hat))
    repeat (go_quiet (first | ((with_reducible refine gate_builtin (b := .append) (xs := #[.tmp 49, .tmp 50]) rfl ?_); at_builtin; refine Kd.R_append_rows k61 (w0 := w) w.heap.size rfl (.tmp 49) (.tmp 50) 58 61 (.agg #[(.int .i64 0), (.int .i64 0)]) 16 rfl Try.underlying58 info61 rfl (by decide) (by omega) v347 y346 l0 _ _ _ (fun _ => True) (fun _ => False) rfl rfl ?aO ?aR (fun _ _ h => h) (fun _ h => h.elim) ?aF ?aB ?aS ?aL ?_; (case aR => exact CB HR0.out); (case aB => exact (BL)); (case aF => exact (fun _ _ => trivial)); (case aO => exact (RQ HO_6.out)); (case aS => exact (below_size (BL))); (case aL => have := LMc17.out; omega); intro v356 w19 ho hb hg hat; rw [← Ny355.out] at ho; have n0_ := Aside0.mk (blk_grown (g := gb345) (o := .cells #[.int .i64 a1_0, .int .i64 a1_1, .int .i64 a1_2, .int .i64 a1_3, .int .i64 a1_4, .int .i64 a1_5, .int .i64 a1_6, .int .i64 a1_7, .int .i64 a1_8, .bool a1_9, .int .i64 a1_10] 46 (0, 0)) (BQ BK345.out) hg (Kd.R_ne HO_6.out BK345.out (by decide))); have n1_ := Aside0.mk (hb); have n2_ := Aside0.mk (ho); clear BK345; clear HB; clear HO_6; have BK345 := n0_; have HB := n1_; have HO357 := n2_; clear n0_ n1_ n2_; clear ho hb hg hat)); try go_wp2_with (first | ((with_reducible refine gate_builtin (b := .append) (xs := #[.tmp 49, .tmp 50]) rfl ?_); at_builtin; refine Kd.R_append_rows k61 (w0 := w) w.heap.size rfl (.tmp 49) (.tmp 50) 58 61 (.agg #[(.int .i64 0), (.int .i64 0)]) 16 rfl Try.underlying58 info61 rfl (by decide) (by omega) v347 y346 l0 _ _ _ (fun _ => True) (fun _ => False) rfl rfl ?aO ?aR (fun _ _ h => h) (fun _ h => h.elim) ?aF ?aB ?aS ?aL ?_; (case aR => exact CB HR0.out); (case aB => exact (BL)); (case aF => exact (fun _ _ => trivial)); (case aO => exact (RQ HO_6.out)); (case aS => exact (below_size (BL))); (case aL => have := LMc17.out; omega); intro v356 w19 ho hb hg hat; rw [← Ny355.out] at ho; have n0_ := Aside0.mk (blk_grown (g := gb345) (o := .cells #[.int .i64 a1_0, .int .i64 a1_1, .int .i64 a1_2, .int .i64 a1_3, .int .i64 a1_4, .int .i64 a1_5, .int .i64 a1_6, .int .i64 a1_7, .int .i64 a1_8, .bool a1_9, .int .i64 a1_10] 46 (0, 0)) (BQ BK345.out) hg (Kd.R_ne HO_6.out BK345.out (by decide))); have n1_ := Aside0.mk (hb); have n2_ := Aside0.mk (ho); clear BK345; clear HB; clear HO_6; have BK345 := n0_; have HB := n1_; have HO357 := n2_; clear n0_ n1_ n2_; clear ho hb hg hat)))
    go_ret2
    exact ⟨_, EE, RQ HO357.out, BL⟩
   rw [if_neg c16] at H
   have c16b0 : (a1_0 == 1) = false := beq_eq_false_iff_ne.mpr c16
   have c16b1 : (a1_0 != 1) = true := bne_iff_ne.mpr c16
   by_cases c20 : a1_0 = 2; rotate_left
   ·
    rw [if_neg c20] at H
    have c20b0 : (a1_0 == 2) = false := beq_eq_false_iff_ne.mpr c20
    have c20b1 : (a1_0 != 2) = true := bne_iff_ne.mpr c20
    have H' := Aside0.mk H
    clear H
    have hcz48_0 : wr.cell? ⟨gb345, 0, none⟩ = some (.int .i64 a1_0) := CZ BK345.out 0
    have hcz48_1 : wr.cell? ⟨gb345, 1, none⟩ = some (.int .i64 a1_1) := CZ BK345.out 1
    have hcz48_2 : wr.cell? ⟨gb345, 2, none⟩ = some (.int .i64 a1_2) := CZ BK345.out 2
    have hcz48_3 : wr.cell? ⟨gb345, 3, none⟩ = some (.int .i64 a1_3) := CZ BK345.out 3
    have hcz48_4 : wr.cell? ⟨gb345, 4, none⟩ = some (.int .i64 a1_4) := CZ BK345.out 4
    have hcz48_5 : wr.cell? ⟨gb345, 5, none⟩ = some (.int .i64 a1_5) := CZ BK345.out 5
    have hcz48_6 : wr.cell? ⟨gb345, 6, none⟩ = some (.int .i64 a1_6) := CZ BK345.out 6
    have hcz48_7 : wr.cell? ⟨gb345, 7, none⟩ = some (.int .i64 a1_7) := CZ BK345.out 7
    have hcz48_8 : wr.cell? ⟨gb345, 8, none⟩ = some (.int .i64 a1_8) := CZ BK345.out 8
    have hcz48_9 : wr.cell? ⟨gb345, 9, none⟩ = some (.bool a1_9) := CZ BK345.out 9
    have hcz48_10 : wr.cell? ⟨gb345, 10, none⟩ = some (.int .i64 a1_10) := CZ BK345.out 10
    have hfz48_0 := blk_frozen BK345.out 0
    have hfz48_1 := blk_frozen BK345.out 1
    have hfz48_2 := blk_frozen BK345.out 2
    have hfz48_3 := blk_frozen BK345.out 3
    have hfz48_4 := blk_frozen BK345.out 4
    have hfz48_5 := blk_frozen BK345.out 5
    have hfz48_6 := blk_frozen BK345.out 6
    have hfz48_7 := blk_frozen BK345.out 7
    have hfz48_8 := blk_frozen BK345.out 8
    have hfz48_9 := blk_frozen BK345.out 9
    have hfz48_10 := blk_frozen BK345.out 10
    go_wp2
    repeat (go_quiet (fail); try go_wp2)
    go_loopg [6, 12, 13] k1 (fun kq v6 v12 v13 w' => ∃ (x6_2 : List (S61)) (x12_2 : Int) (x13_2 : Int), v12 = .int .i64 x12_2 ∧ v13 = .int .i64 x13_2 ∧ Aside0 (spec_DoTask.l4 kq l0 x6_2 x12_2 x13_2 a1_0 a1_1 a1_2 a1_3 a1_4 a1_5 a1_6 a1_7 a1_8 a1_9 a1_10 = some (r1, r2)) ∧ Aside0 (kq ≤ k1) ∧ Aside0 (Kd.R k61 61 w' w.heap.size (fun _ => True) v6 x6_2) ∧ Aside0 (w'.heap[gb345]? = some (.cells #[.int .i64 a1_0, .int .i64 a1_1, .int .i64 a1_2, .int .i64 a1_3, .int .i64 a1_4, .int .i64 a1_5, .int .i64 a1_6, .int .i64 a1_7, .int .i64 a1_8, .bool a1_9, .int .i64 a1_10] 46 (0, 0))) ∧ Aside0 (Below w.heap.size w w'))
    case atStart => exact ⟨(y346), (0), (0), SD, SD, H', ⟨Nat.le_refl _⟩, ⟨RQ HO_6.out⟩, ⟨BQ BK345.out⟩, ⟨BL⟩⟩
    case round =>
     clear H'
     try clear c1 c2 p2 c3 p3 q3 hx3 c4 p6 c9 c9b0 c10 c10b0 c11 c11b0 c11b1 c12 c12b0 c12b1 c16 c16b0 c16b1 c17 c20 c20b0 c20b1 c22 c22b0 c23 c23b0 c24 c24b0 c24b1 c25 c31 c31b0 c32 c32b0 c33 c33b0 c34 p35 q35 hx35 p36 q36 hx36 p37 q37 hx37 c38 c41 c41b0 c42 c42b0 c43 c43b0 c44 hcz13_0 hcz13_1 hcz13_10 hcz13_2 hcz13_3 hcz13_4 hcz13_5 hcz13_6 hcz13_7 hcz13_8 hcz13_9 hcz14_0 hcz14_1 hcz14_10 hcz14_2 hcz14_3 hcz14_4 hcz14_5 hcz14_6 hcz14_7 hcz14_8 hcz14_9 hcz15_0 hcz15_1 hcz15_10 hcz15_2 hcz15_3 hcz15_4 hcz15_5 hcz15_6 hcz15_7 hcz15_8 hcz15_9 hcz18_0 hcz18_1 hcz18_10 hcz18_2 hcz18_3 hcz18_4 hcz18_5 hcz18_6 hcz18_7 hcz18_8 hcz18_9 hcz21_0 hcz21_1 hcz21_10 hcz21_2 hcz21_3 hcz21_4 hcz21_5 hcz21_6 hcz21_7 hcz21_8 hcz21_9 hcz26_0 hcz26_1 hcz26_10 hcz26_2 hcz26_3 hcz26_4 hcz26_5 hcz26_6 hcz26_7 hcz26_8 hcz26_9 hcz30_0 hcz30_1 hcz30_10 hcz30_2 hcz30_3 hcz30_4 hcz30_5 hcz30_6 hcz30_7 hcz30_8 hcz30_9 hcz35_0 hcz35_1 hcz35_10 hcz35_2 hcz35_3 hcz35_4 hcz35_5 hcz35_6 hcz35_7 hcz35_8 hcz35_9 hcz37_0 hcz37_1 hcz37_10 hcz37_2 hcz37_3 hcz37_4 hcz37_5 hcz37_6 hcz37_7 hcz37_8 hcz37_9 hcz39_0 hcz39_1 hcz39_10 hcz39_2 hcz39_3 hcz39_4 hcz39_5 hcz39_6 hcz39_7 hcz39_8 hcz39_9 hcz45_0 hcz45_1 hcz45_10 hcz45_2 hcz45_3 hcz45_4 hcz45_5 hcz45_6 hcz45_7 hcz45_8 hcz45_9 hcz47_0 hcz47_1 hcz47_10 hcz47_2 hcz47_3 hcz47_4 hcz47_5 hcz47_6 hcz47_7 hcz47_8 hcz47_9 hcz48_0 hcz48_1 hcz48_10 hcz48_2 hcz48_3 hcz48_4 hcz48_5 hcz48_6 hcz48_7 hcz48_8 hcz48_9 hcz8_0 hcz8_1 hcz8_10 hcz8_2 hcz8_3 hcz8_4 hcz8_5 hcz8_6 hcz8_7 hcz8_8 hcz8_9 hfz13_0 hfz13_1 hfz13_10 hfz13_2 hfz13_3 hfz13_4 hfz13_5 hfz13_6 hfz13_7 hfz13_8 hfz13_9 hfz14_0 hfz14_1 hfz14_10 hfz14_2 hfz14_3 hfz14_4 hfz14_5 hfz14_6 hfz14_7 hfz14_8 hfz14_9 hfz15_0 hfz15_1 hfz15_10 hfz15_2 hfz15_3 hfz15_4 hfz15_5 hfz15_6 hfz15_7 hfz15_8 hfz15_9 hfz18_0 hfz18_1 hfz18_10 hfz18_2 hfz18_3 hfz18_4 hfz18_5 hfz18_6 hfz18_7 hfz18_8 hfz18_9 hfz21_0 hfz21_1 hfz21_10 hfz21_2 hfz21_3 hfz21_4 hfz21_5 hfz21_6 hfz21_7 hfz21_8 hfz21_9 hfz26_0 hfz26_1 hfz26_10 hfz26_2 hfz26_3 hfz26_4 hfz26_5 hfz26_6 hfz26_7 hfz26_8 hfz26_9 hfz30_0 hfz30_1 hfz30_10 hfz30_2 hfz30_3 hfz30_4 hfz30_5 hfz30_6 hfz30_7 hfz30_8 hfz30_9 hfz35_0 hfz35_1 hfz35_10 hfz35_2 hfz35_3 hfz35_4 hfz35_5 hfz35_6 hfz35_7 hfz35_8 hfz35_9 hfz37_0 hfz37_1 hfz37_10 hfz37_2 hfz37_3 hfz37_4 hfz37_5 hfz37_6 hfz37_7 hfz37_8 hfz37_9 hfz39_0 hfz39_1 hfz39_10 hfz39_2 hfz39_3 hfz39_4 hfz39_5 hfz39_6 hfz39_7 hfz39_8 hfz39_9 hfz45_0 hfz45_1 hfz45_10 hfz45_2 hfz45_3 hfz45_4 hfz45_5 hfz45_6 hfz45_7 hfz45_8 hfz45_9 hfz47_0 hfz47_1 hfz47_10 hfz47_2 hfz47_3 hfz47_4 hfz47_5 hfz47_6 hfz47_7 hfz47_8 hfz47_9 hfz48_0 hfz48_1 hfz48_10 hfz48_2 hfz48_3 hfz48_4 hfz48_5 hfz48_6 hfz48_7 hfz48_8 hfz48_9 hfz8_0 hfz8_1 hfz8_10 hfz8_2 hfz8_3 hfz8_4 hfz8_5 hfz8_6 hfz8_7 hfz8_8 hfz8_9 hx353_0 hx353_1 hx354_0 hx354_1 hx358_0 hx358_1 hx365_0 hx365_1 hx366_0 hx366_1 hx373_0 hx373_1 hx374_0 hx374_1 p2 p3 p35 p353 p354 p358 p36 p365 p366 p373 p374 p6 q3 q35 q353 q354 q358 q36 q365 q366 q373 q374
     obtain ⟨x6_2, x12_2, x13_2, rfl, rfl, HA, HK2, HO_6, BK345, HB⟩ := hrel
     cases gk with
     | zero => exact absurd HA.out (by simp [spec_DoTask.l4])
     | succ k2 =>
      have H := HA.out
      clear HA
      simp only [spec_DoTask.l4] at H
      by_cases c49 : x13_2 < (l0.length : Int); rotate_left
      ·
       rw [if_neg c49] at H
       have c49b0 : decide (x13_2 < (l0.length : Int)) = false := decide_eq_false c49
       clear c49
       simp only [Option.some.injEq, Prod.mk.injEq] at H
       obtain ⟨rfl, rfl⟩ := H
       go_wp2
       repeat (go_quiet (fail); try go_wp2)
       go_ret2
       exact ⟨_, EE, RQ HO_6.out, BL⟩
      rw [if_pos c49] at H
      have c49b0 : decide (x13_2 < (l0.length : Int)) = true := decide_eq_true c49
      clear c49
      by_cases c50 : 0 ≤ x13_2; rotate_left
      ·
       rw [if_neg c50] at H
       exact absurd H (by simp)
      rw [if_pos c50] at H
      have c50b0 : decide (0 ≤ x13_2) = true := decide_eq_true c50
      clear c50
      by_cases c51 : ((rd_T61 l0 x13_2).f0) = a1_1
      ·
       rw [if_pos c51] at H
       have c51b0 : (((rd_T61 l0 x13_2).f0) == a1_1) = true := beq_iff_eq.mpr c51
       have c51b1 : (((rd_T61 l0 x13_2).f0) != a1_1) = false := bne_eq_false_iff_eq.mpr c51
       clear c51
       have H' := Aside0.mk H
       clear H
       have p378 : 0 ≤ (x13_2 : Int) := of_decide_eq_true AS
       have q378 : x13_2 < (l0.length : Int) := of_decide_eq_true AS
       obtain ⟨ad378, e378, hx378_0, hx378_1⟩ := at_T61 HR0.out x13_2 p378 q378
       cases e378
       replace hx378_0 := (HB.out.cell (World.block_lt_of_cell? w _ hx378_0)).trans hx378_0
       replace hx378_1 := (HB.out.cell (World.block_lt_of_cell? w _ hx378_1)).trans hx378_1
       replace p378 := eq_true p378
       replace q378 := eq_true q378
       have hcz52_0 : wr.cell? ⟨gb345, 0, none⟩ = some (.int .i64 a1_0) := CZ BK345.out 0
       have hcz52_1 : wr.cell? ⟨gb345, 1, none⟩ = some (.int .i64 a1_1) := CZ BK345.out 1
       have hcz52_2 : wr.cell? ⟨gb345, 2, none⟩ = some (.int .i64 a1_2) := CZ BK345.out 2
       have hcz52_3 : wr.cell? ⟨gb345, 3, none⟩ = some (.int .i64 a1_3) := CZ BK345.out 3
       have hcz52_4 : wr.cell? ⟨gb345, 4, none⟩ = some (.int .i64 a1_4) := CZ BK345.out 4
       have hcz52_5 : wr.cell? ⟨gb345, 5, none⟩ = some (.int .i64 a1_5) := CZ BK345.out 5
       have hcz52_6 : wr.cell? ⟨gb345, 6, none⟩ = some (.int .i64 a1_6) := CZ BK345.out 6
       have hcz52_7 : wr.cell? ⟨gb345, 7, none⟩ = some (.int .i64 a1_7) := CZ BK345.out 7
       have hcz52_8 : wr.cell? ⟨gb345, 8, none⟩ = some (.int .i64 a1_8) := CZ BK345.out 8
       have hcz52_9 : wr.cell? ⟨gb345, 9, none⟩ = some (.bool a1_9) := CZ BK345.out 9
       have hcz52_10 : wr.cell? ⟨gb345, 10, none⟩ = some (.int .i64 a1_10) := CZ BK345.out 10
       have hfz52_0 := blk_frozen BK345.out 0
       have hfz52_1 := blk_frozen BK345.out 1
       have hfz52_2 := blk_frozen BK345.out 2
       have hfz52_3 := blk_frozen BK345.out 3
       have hfz52_4 := blk_frozen BK345.out 4
       have hfz52_5 := blk_frozen BK345.out 5
       have hfz52_6 := blk_frozen BK345.out 6
       have hfz52_7 := blk_frozen BK345.out 7
       have hfz52_8 := blk_frozen BK345.out 8
       have hfz52_9 := blk_frozen BK345.out 9
       have hfz52_10 := blk_frozen BK345.out 10
       go_wp2
       repeat (go_quiet (fail); try go_wp2)
       go_roundg k2
       case measure => have := HK1.out; have := HK2.out; omega
       case rel => exact ⟨(x6_2), (1), (wrap64 (x13_2 + 1)), SD, SD, H', ⟨by have := HK1.out; have := HK2.out; omega⟩, ⟨RQ HO_6.out⟩, ⟨BQ BK345.out⟩, ⟨BL⟩⟩
      rw [if_neg c51] at H
      have c51b0 : (((rd_T61 l0 x13_2).f0) == a1_1) = false := beq_eq_false_iff_ne.mpr c51
      have c51b1 : (((rd_T61 l0 x13_2).f0) != a1_1) = true := bne_iff_ne.mpr c51
      by_cases c53 : x6_2.length < 8796093022208; rotate_left
      ·
       rw [if_neg c53] at H
       exact absurd H (by simp)
      rw [if_pos c53] at H
      have LMc53 := Aside0.mk c53
      clear c53
      obtain ⟨y380, hy380⟩ : ∃ y_ : List (S61), y_ = (x6_2 ++ [(⟨(rd_T61 l0 x13_2).f0, (rd_T61 l0 x13_2).f1⟩ : S61)]) := ⟨_, rfl⟩
      replace H : (spec_DoTask.l4 k2 l0 y380 x12_2 (wrap64 (x13_2 + 1)) a1_0 a1_1 a1_2 a1_3 a1_4 a1_5 a1_6 a1_7 a1_8 a1_9 a1_10) = some (r1, r2) := by first | (rw [hy380]; with_reducible exact H) | (have H2_ := (Option.bind_some _ _).symm.trans H; rw [hy380]; with_reducible exact H2_) | (have H2_ := (Option.bind_some _ _).symm.trans H; with_reducible exact H2_) | with_reducible exact H | (rw [hy380]; exact H) | exact H
      have Ny380 := Aside0.mk hy380
      clear hy380
      have H' := Aside0.mk H
      clear H
      have p378 : 0 ≤ (x13_2 : Int) := of_decide_eq_true AS
      have q378 : x13_2 < (l0.length : Int) := of_decide_eq_true AS
      obtain ⟨ad378, e378, hx378_0, hx378_1⟩ := at_T61 HR0.out x13_2 p378 q378
      cases e378
      replace hx378_0 := (HB.out.cell (World.block_lt_of_cell? w _ hx378_0)).trans hx378_0
      replace hx378_1 := (HB.out.cell (World.block_lt_of_cell? w _ hx378_1)).trans hx378_1
      replace p378 := eq_true p378
      replace q378 := eq_true q378
      have hcz54_0 : wr.cell? ⟨gb345, 0, none⟩ = some (.int .i64 a1_0) := CZ BK345.out 0
      have hcz54_1 : wr.cell? ⟨gb345, 1, none⟩ = some (.int .i64 a1_1) := CZ BK345.out 1
      have hcz54_2 : wr.cell? ⟨gb345, 2, none⟩ = some (.int .i64 a1_2) := CZ BK345.out 2
      have hcz54_3 : wr.cell? ⟨gb345, 3, none⟩ = some (.int .i64 a1_3) := CZ BK345.out 3
      have hcz54_4 : wr.cell? ⟨gb345, 4, none⟩ = some (.int .i64 a1_4) := CZ BK345.out 4
      have hcz54_5 : wr.cell? ⟨gb345, 5, none⟩ = some (.int .i64 a1_5) := CZ BK345.out 5
      have hcz54_6 : wr.cell? ⟨gb345, 6, none⟩ = some (.int .i64 a1_6) := CZ BK345.out 6
      have hcz54_7 : wr.cell? ⟨gb345, 7, none⟩ = some (.int .i64 a1_7) := CZ BK345.out 7
      have hcz54_8 : wr.cell? ⟨gb345, 8, none⟩ = some (.int .i64 a1_8) := CZ BK345.out 8
      have hcz54_9 : wr.cell? ⟨gb345, 9, none⟩ = some (.bool a1_9) := CZ BK345.out 9
      have hcz54_10 : wr.cell? ⟨gb345, 10, none⟩ = some (.int .i64 a1_10) := CZ BK345.out 10
      have hfz54_0 := blk_frozen BK345.out 0
      have hfz54_1 := blk_frozen BK345.out 1
      have hfz54_2 := blk_frozen BK345.out 2
      have hfz54_3 := blk_frozen BK345.out 3
      have hfz54_4 := blk_frozen BK345.out 4
      have hfz54_5 := blk_frozen BK345.out 5
      have hfz54_6 := blk_frozen BK345.out 6
      have hfz54_7 := blk_frozen BK345.out 7
      have hfz54_8 := blk_frozen BK345.out 8
      have hfz54_9 := blk_frozen BK345.out 9
      have hfz54_10 := blk_frozen BK345.out 10
      have p379 : 0 ≤ (x13_2 : Int) := of_decide_eq_true AS
      have q379 : x13_2 < (l0.length : Int) := of_decide_eq_true AS
      obtain ⟨ad379, e379, hx379_0, hx379_1⟩ := at_T61 HR0.out x13_2 p379 q379
      obtain rfl : ad378 = ad379 := (by injection e379)
      replace hx379_0 := (HB.out.cell (World.block_lt_of_cell? w _ hx379_0)).trans hx379_0
      replace hx379_1 := (HB.out.cell (World.block_lt_of_cell? w _ hx379_1)).trans hx379_1
      replace p379 := eq_true p379
      replace q379 := eq_true q379
      go_wp2_with (first | ((with_reducible refine gate_builtin (b := .append) (xs := #[.tmp 138, .tmp 143]) rfl ?_); at_builtin; refine Kd.R_append k61 (w0 := w) w.heap.size rfl (.tmp 138) (.tmp 143) 58 61 (.agg #[(.int .i64 0), (.int .i64 0)]) 16 rfl Try.underlying58 info61 rfl (by decide) (by omega) u6 x6_2 (⟨(rd_T61 l0 x13_2).f0, (rd_T61 l0 x13_2).f1⟩ : S61) [.int .i64 ((rd_T61 l0 x13_2).f0), .int .i64 ((rd_T61 l0 x13_2).f1)] (fun _ => True) (fun _ => False) rfl rfl ?aP (fun _ hk => hk.elim) ?aF ?aO ?aB ?aS ?aL ?_; (case aP => exact k61_mkM _ _ _ (⟨(rd_T61 l0 x13_2).f0, (rd_T61 l0 x13_2).f1⟩ : S61)); (case aB => exact (BL)); (case aF => exact (fun _ _ => trivial)); (case aO => exact (RQ HO_6.out)); (case aS => exact (below_size (BL))); (case aL => have := LMc53.out; omega); intro v381 w55 ho hb hg hat; rw [← Ny380.out] at ho; have n0_ := Aside0.mk (blk_grown (g := gb345) (o := .cells #[.int .i64 a1_0, .int .i64 a1_1, .int .i64 a1_2, .int .i64 a1_3, .int .i64 a1_4, .int .i64 a1_5, .int .i64 a1_6, .int .i64 a1_7, .int .i64 a1_8, .bool a1_9, .int .i64 a1_10] 46 (0, 0)) (BQ BK345.out) hg (Kd.R_ne HO_6.out BK345.out (by decide))); have n1_ := Aside0.mk (hb); have n2_ := Aside0.mk (ho); clear BK345; clear HB; clear HO_6; have BK345 := n0_; have HB := n1_; have HO382 := n2_; clear n0_ n1_ n2_; clear ho hb hg hat))
      repeat (go_quiet (first | ((with_reducible refine gate_builtin (b := .append) (xs := #[.tmp 138, .tmp 143]) rfl ?_); at_builtin; refine Kd.R_append k61 (w0 := w) w.heap.size rfl (.tmp 138) (.tmp 143) 58 61 (.agg #[(.int .i64 0), (.int .i64 0)]) 16 rfl Try.underlying58 info61 rfl (by decide) (by omega) u6 x6_2 (⟨(rd_T61 l0 x13_2).f0, (rd_T61 l0 x13_2).f1⟩ : S61) [.int .i64 ((rd_T61 l0 x13_2).f0), .int .i64 ((rd_T61 l0 x13_2).f1)] (fun _ => True) (fun _ => False) rfl rfl ?aP (fun _ hk => hk.elim) ?aF ?aO ?aB ?aS ?aL ?_; (case aP => exact k61_mkM _ _ _ (⟨(rd_T61 l0 x13_2).f0, (rd_T61 l0 x13_2).f1⟩ : S61)); (case aB => exact (BL)); (case aF => exact (fun _ _ => trivial)); (case aO => exact (RQ HO_6.out)); (case aS => exact (below_size (BL))); (case aL => have := LMc53.out; omega); intro v381 w55 ho hb hg hat; rw [← Ny380.out] at ho; have n0_ := Aside0.mk (blk_grown (g := gb345) (o := .cells #[.int .i64 a1_0, .int .i64 a1_1, .int .i64 a1_2, .int .i64 a1_3, .int .i64 a1_4, .int .i64 a1_5, .int .i64 a1_6, .int .i64 a1_7, .int .i64 a1_8, .bool a1_9, .int .i64 a1_10] 46 (0, 0)) (BQ BK345.out) hg (Kd.R_ne HO_6.out BK345.out (by decide))); have n1_ := Aside0.mk (hb); have n2_ := Aside0.mk (ho); clear BK345; clear HB; clear HO_6; have BK345 := n0_; have HB := n1_; have HO382 := n2_; clear n0_ n1_ n2_; clear ho hb hg hat)); try go_wp2_with (first | ((with_reducible refine gate_builtin (b := .append) (xs := #[.tmp 138, .tmp 143]) rfl ?_); at_builtin; refine Kd.R_append k61 (w0 := w) w.heap.size rfl (.tmp 138) (.tmp 143) 58 61 (.agg #[(.int .i64 0), (.int .i64 0)]) 16 rfl Try.underlying58 info61 rfl (by decide) (by omega) u6 x6_2 (⟨(rd_T61 l0 x13_2).f0, (rd_T61 l0 x13_2).f1⟩ : S61) [.int .i64 ((rd_T61 l0 x13_2).f0), .int .i64 ((rd_T61 l0 x13_2).f1)] (fun _ => True) (fun _ => False) rfl rfl ?aP (fun _ hk => hk.elim) ?aF ?aO ?aB ?aS ?aL ?_; (case aP => exact k61_mkM _ _ _ (⟨(rd_T61 l0 x13_2).f0, (rd_T61 l0 x13_2).f1⟩ : S61)); (case aB => exact (BL)); (case aF => exact (fun _ _ => trivial)); (case aO => exact (RQ HO_6.out)); (case aS => exact (below_size (BL))); (case aL => have := LMc53.out; omega); intro v381 w55 ho hb hg hat; rw [← Ny380.out] at ho; have n0_ := Aside0.mk (blk_grown (g := gb345) (o := .cells #[.int .i64 a1_0, .int .i64 a1_1, .int .i64 a1_2, .int .i64 a1_3, .int .i64 a1_4, .int .i64 a1_5, .int .i64 a1_6, .int .i64 a1_7, .int .i64 a1_8, .bool a1_9, .int .i64 a1_10] 46 (0, 0)) (BQ BK345.out) hg (Kd.R_ne HO_6.out BK345.out (by decide))); have n1_ := Aside0.mk (hb); have n2_ := Aside0.mk (ho); clear BK345; clear HB; clear HO_6; have BK345 := n0_; have HB := n1_; have HO382 := n2_; clear n0_ n1_ n2_; clear ho hb hg hat)))
      go_roundg k2
      case measure => have := HK1.out; have := HK2.out; omega
      case rel => exact ⟨(y380), (x12_2), (wrap64 (x13_2 + 1)), SD, SD, H', ⟨by have := HK1.out; have := HK2.out; omega⟩, ⟨RQ HO382.out⟩, ⟨BQ BK345.out⟩, ⟨BL⟩⟩
   rw [if_pos c20] at H
   have c20b0 : (a1_0 == 2) = true := beq_iff_eq.mpr c20
   have c20b1 : (a1_0 != 2) = false := bne_eq_false_iff_eq.mpr c20
   clear c20
   have H' := Aside0.mk H
   clear H
   have hcz21_0 : wr.cell? ⟨gb345, 0, none⟩ = some (.int .i64 a1_0) := CZ BK345.out 0
   have hcz21_1 : wr.cell? ⟨gb345, 1, none⟩ = some (.int .i64 a1_1) := CZ BK345.out 1
   have hcz21_2 : wr.cell? ⟨gb345, 2, none⟩ = some (.int .i64 a1_2) := CZ BK345.out 2
   have hcz21_3 : wr.cell? ⟨gb345, 3, none⟩ = some (.int .i64 a1_3) := CZ BK345.out 3
   have hcz21_4 : wr.cell? ⟨gb345, 4, none⟩ = some (.int .i64 a1_4) := CZ BK345.out 4
   have hcz21_5 : wr.cell? ⟨gb345, 5, none⟩ = some (.int .i64 a1_5) := CZ BK345.out 5
   have hcz21_6 : wr.cell? ⟨gb345, 6, none⟩ = some (.int .i64 a1_6) := CZ BK345.out 6
   have hcz21_7 : wr.cell? ⟨gb345, 7, none⟩ = some (.int .i64 a1_7) := CZ BK345.out 7
   have hcz21_8 : wr.cell? ⟨gb345, 8, none⟩ = some (.int .i64 a1_8) := CZ BK345.out 8
   have hcz21_9 : wr.cell? ⟨gb345, 9, none⟩ = some (.bool a1_9) := CZ BK345.out 9
   have hcz21_10 : wr.cell? ⟨gb345, 10, none⟩ = some (.int .i64 a1_10) := CZ BK345.out 10
   have hfz21_0 := blk_frozen BK345.out 0
   have hfz21_1 := blk_frozen BK345.out 1
   have hfz21_2 := blk_frozen BK345.out 2
   have hfz21_3 := blk_frozen BK345.out 3
   have hfz21_4 := blk_frozen BK345.out 4
   have hfz21_5 := blk_frozen BK345.out 5
   have hfz21_6 := blk_frozen BK345.out 6
   have hfz21_7 := blk_frozen BK345.out 7
   have hfz21_8 := blk_frozen BK345.out 8
   have hfz21_9 := blk_frozen BK345.out 9
   have hfz21_10 := blk_frozen BK345.out 10
   go_wp2
   repeat (go_quiet (fail); try go_wp2)
   go_loopg [9] k1 (fun kq v9 w' => ∃ (x9_2 : Int), v9 = .int .i64 x9_2 ∧ Aside0 (spec_DoTask.l1 kq l0 y346 x9_2 a1_0 a1_1 a1_2 a1_3 a1_4 a1_5 a1_6 a1_7 a1_8 a1_9 a1_10 = some (r1, r2)) ∧ Aside0 (kq ≤ k1) ∧ Aside0 (Kd.R k61 61 w' w.heap.size (fun _ => True) v347 y346) ∧ Aside0 (w'.heap[gb345]? = some (.cells #[.int .i64 a1_0, .int .i64 a1_1, .int .i64 a1_2, .int .i64 a1_3, .int .i64 a1_4, .int .i64 a1_5, .int .i64 a1_6, .int .i64 a1_7, .int .i64 a1_8, .bool a1_9, .int .i64 a1_10] 46 (0, 0))) ∧ Aside0 (Below w.heap.size w w'))
   case atStart => exact ⟨(0), SD, H', ⟨Nat.le_refl _⟩, ⟨RQ HO_6.out⟩, ⟨BQ BK345.out⟩, ⟨BL⟩⟩
   case round =>
    clear H'
    try clear c1 c2 p2 p3 q3 hx3 c4 p6 c9 c9b0 c10 c10b0 c11 c11b0 c11b1 c12 c12b0 c12b1 c16 c16b0 c16b1 c17 c20 c20b0 c20b1 hcz13_0 hcz13_1 hcz13_10 hcz13_2 hcz13_3 hcz13_4 hcz13_5 hcz13_6 hcz13_7 hcz13_8 hcz13_9 hcz14_0 hcz14_1 hcz14_10 hcz14_2 hcz14_3 hcz14_4 hcz14_5 hcz14_6 hcz14_7 hcz14_8 hcz14_9 hcz15_0 hcz15_1 hcz15_10 hcz15_2 hcz15_3 hcz15_4 hcz15_5 hcz15_6 hcz15_7 hcz15_8 hcz15_9 hcz18_0 hcz18_1 hcz18_10 hcz18_2 hcz18_3 hcz18_4 hcz18_5 hcz18_6 hcz18_7 hcz18_8 hcz18_9 hcz21_0 hcz21_1 hcz21_10 hcz21_2 hcz21_3 hcz21_4 hcz21_5 hcz21_6 hcz21_7 hcz21_8 hcz21_9 hcz8_0 hcz8_1 hcz8_10 hcz8_2 hcz8_3 hcz8_4 hcz8_5 hcz8_6 hcz8_7 hcz8_8 hcz8_9 hfz13_0 hfz13_1 hfz13_10 hfz13_2 hfz13_3 hfz13_4 hfz13_5 hfz13_6 hfz13_7 hfz13_8 hfz13_9 hfz14_0 hfz14_1 hfz14_10 hfz14_2 hfz14_3 hfz14_4 hfz14_5 hfz14_6 hfz14_7 hfz14_8 hfz14_9 hfz15_0 hfz15_1 hfz15_10 hfz15_2 hfz15_3 hfz15_4 hfz15_5 hfz15_6 hfz15_7 hfz15_8 hfz15_9 hfz18_0 hfz18_1 hfz18_10 hfz18_2 hfz18_3 hfz18_4 hfz18_5 hfz18_6 hfz18_7 hfz18_8 hfz18_9 hfz21_0 hfz21_1 hfz21_10 hfz21_2 hfz21_3 hfz21_4 hfz21_5 hfz21_6 hfz21_7 hfz21_8 hfz21_9 hfz8_0 hfz8_1 hfz8_10 hfz8_2 hfz8_3 hfz8_4 hfz8_5 hfz8_6 hfz8_7 hfz8_8 hfz8_9 hx353_0 hx353_1 hx354_0 hx354_1 p2 p353 p354 q353 q354
    obtain ⟨x9_2, rfl, HA, HK2, HO_6, BK345, HB⟩ := hrel
    cases gk with
    | zero => exact absurd HA.out (by simp [spec_DoTask.l1])
    | succ k2 =>
     have H := HA.out
     clear HA
     simp only [spec_DoTask.l1] at H
     by_cases c22 : x9_2 < (l0.length : Int)
     ·
      rw [if_pos c22] at H
      have c22b0 : decide (x9_2 < (l0.length : Int)) = true := decide_eq_true c22
      clear c22
      by_cases c23 : 0 ≤ x9_2; rotate_left
      ·
       rw [if_neg c23] at H
       exact absurd H (by simp)
      rw [if_pos c23] at H
      have c23b0 : decide (0 ≤ x9_2) = true := decide_eq_true c23
      clear c23
      by_cases c24 : ((rd_T61 l0 x9_2).f0) = a1_1; rotate_left
      ·
       rw [if_neg c24] at H
       have c24b0 : (((rd_T61 l0 x9_2).f0) == a1_1) = false := beq_eq_false_iff_ne.mpr c24
       have c24b1 : (((rd_T61 l0 x9_2).f0) != a1_1) = true := bne_iff_ne.mpr c24
       have H' := Aside0.mk H
       clear H
       have p358 : 0 ≤ (x9_2 : Int) := of_decide_eq_true AS
       have q358 : x9_2 < (l0.length : Int) := of_decide_eq_true AS
       obtain ⟨ad358, e358, hx358_0, hx358_1⟩ := at_T61 HR0.out x9_2 p358 q358
       cases e358
       replace hx358_0 := (HB.out.cell (World.block_lt_of_cell? w _ hx358_0)).trans hx358_0
       replace hx358_1 := (HB.out.cell (World.block_lt_of_cell? w _ hx358_1)).trans hx358_1
       replace p358 := eq_true p358
       replace q358 := eq_true q358
       have hcz30_0 : wr.cell? ⟨gb345, 0, none⟩ = some (.int .i64 a1_0) := CZ BK345.out 0
       have hcz30_1 : wr.cell? ⟨gb345, 1, none⟩ = some (.int .i64 a1_1) := CZ BK345.out 1
       have hcz30_2 : wr.cell? ⟨gb345, 2, none⟩ = some (.int .i64 a1_2) := CZ BK345.out 2
       have hcz30_3 : wr.cell? ⟨gb345, 3, none⟩ = some (.int .i64 a1_3) := CZ BK345.out 3
       have hcz30_4 : wr.cell? ⟨gb345, 4, none⟩ = some (.int .i64 a1_4) := CZ BK345.out 4
       have hcz30_5 : wr.cell? ⟨gb345, 5, none⟩ = some (.int .i64 a1_5) := CZ BK345.out 5
       have hcz30_6 : wr.cell? ⟨gb345, 6, none⟩ = some (.int .i64 a1_6) := CZ BK345.out 6
       have hcz30_7 : wr.cell? ⟨gb345, 7, none⟩ = some (.int .i64 a1_7) := CZ BK345.out 7
       have hcz30_8 : wr.cell? ⟨gb345, 8, none⟩ = some (.int .i64 a1_8) := CZ BK345.out 8
       have hcz30_9 : wr.cell? ⟨gb345, 9, none⟩ = some (.bool a1_9) := CZ BK345.out 9
       have hcz30_10 : wr.cell? ⟨gb345, 10, none⟩ = some (.int .i64 a1_10) := CZ BK345.out 10
       have hfz30_0 := blk_frozen BK345.out 0
       have hfz30_1 := blk_frozen BK345.out 1
       have hfz30_2 := blk_frozen BK345.out 2
       have hfz30_3 := blk_frozen BK345.out 3
       have hfz30_4 := blk_frozen BK345.out 4
       have hfz30_5 := blk_frozen BK345.out 5
       have hfz30_6 := blk_frozen BK345.out 6
       have hfz30_7 := blk_frozen BK345.out 7
       have hfz30_8 := blk_frozen BK345.out 8
       have hfz30_9 := blk_frozen BK345.out 9
       have hfz30_10 := blk_frozen BK345.out 10
       go_wp2
       repeat (go_quiet (fail); try go_wp2)
       go_roundg k2
       case measure => have := HK1.out; have := HK2.out; omega
       case rel => exact ⟨(wrap64 (x9_2 + 1)), SD, H', ⟨by have := HK1.out; have := HK2.out; omega⟩, ⟨RQ HO_6.out⟩, ⟨BQ BK345.out⟩, ⟨BL⟩⟩
      rw [if_pos c24] at H
      have c24b0 : (((rd_T61 l0 x9_2).f0) == a1_1) = true := beq_iff_eq.mpr c24
      have c24b1 : (((rd_T61 l0 x9_2).f0) != a1_1) = false := bne_eq_false_iff_eq.mpr c24
      clear c24
      obtain ⟨y359, hy359⟩ : ∃ y_ : List (S61), y_ = (([] : List (S61))) := ⟨_, rfl⟩
      replace H : (if y359.length + l0.length < 8796093022208 then (some ((y359 ++ l0), 0)) else (none)) = some (r1, r2) := by first | (rw [hy359]; with_reducible exact H) | (have H2_ := (Option.bind_some _ _).symm.trans H; rw [hy359]; with_reducible exact H2_) | (have H2_ := (Option.bind_some _ _).symm.trans H; with_reducible exact H2_) | with_reducible exact H | (rw [hy359]; exact H) | exact H
      have Ny359 := Aside0.mk hy359
      clear hy359
      by_cases c25 : y359.length + l0.length < 8796093022208; rotate_left
      ·
       rw [if_neg c25] at H
       exact absurd H (by simp)
      rw [if_pos c25] at H
      have LMc25 := Aside0.mk c25
      clear c25
      obtain ⟨y362, hy362⟩ : ∃ y_ : List (S61), y_ = (y359 ++ l0) := ⟨_, rfl⟩
      replace H : (some (y362, 0)) = some (r1, r2) := by first | (rw [hy362]; with_reducible exact H) | (have H2_ := (Option.bind_some _ _).symm.trans H; rw [hy362]; with_reducible exact H2_) | (have H2_ := (Option.bind_some _ _).symm.trans H; with_reducible exact H2_) | with_reducible exact H | (rw [hy362]; exact H) | exact H
      have Ny362 := Aside0.mk hy362
      clear hy362
      simp only [Option.some.injEq, Prod.mk.injEq] at H
      obtain ⟨rfl, rfl⟩ := H
      have p358 : 0 ≤ (x9_2 : Int) := of_decide_eq_true AS
      have q358 : x9_2 < (l0.length : Int) := of_decide_eq_true AS
      obtain ⟨ad358, e358, hx358_0, hx358_1⟩ := at_T61 HR0.out x9_2 p358 q358
      cases e358
      replace hx358_0 := (HB.out.cell (World.block_lt_of_cell? w _ hx358_0)).trans hx358_0
      replace hx358_1 := (HB.out.cell (World.block_lt_of_cell? w _ hx358_1)).trans hx358_1
      replace p358 := eq_true p358
      replace q358 := eq_true q358
      have hcz26_0 : wr.cell? ⟨gb345, 0, none⟩ = some (.int .i64 a1_0) := CZ BK345.out 0
      have hcz26_1 : wr.cell? ⟨gb345, 1, none⟩ = some (.int .i64 a1_1) := CZ BK345.out 1
      have hcz26_2 : wr.cell? ⟨gb345, 2, none⟩ = some (.int .i64 a1_2) := CZ BK345.out 2
      have hcz26_3 : wr.cell? ⟨gb345, 3, none⟩ = some (.int .i64 a1_3) := CZ BK345.out 3
      have hcz26_4 : wr.cell? ⟨gb345, 4, none⟩ = some (.int .i64 a1_4) := CZ BK345.out 4
      have hcz26_5 : wr.cell? ⟨gb345, 5, none⟩ = some (.int .i64 a1_5) := CZ BK345.out 5
      have hcz26_6 : wr.cell? ⟨gb345, 6, none⟩ = some (.int .i64 a1_6) := CZ BK345.out 6
      have hcz26_7 : wr.cell? ⟨gb345, 7, none⟩ = some (.int .i64 a1_7) := CZ BK345.out 7
      have hcz26_8 : wr.cell? ⟨gb345, 8, none⟩ = some (.int .i64 a1_8) := CZ BK345.out 8
      have hcz26_9 : wr.cell? ⟨gb345, 9, none⟩ = some (.bool a1_9) := CZ BK345.out 9
      have hcz26_10 : wr.cell? ⟨gb345, 10, none⟩ = some (.int .i64 a1_10) := CZ BK345.out 10
      have hfz26_0 := blk_frozen BK345.out 0
      have hfz26_1 := blk_frozen BK345.out 1
      have hfz26_2 := blk_frozen BK345.out 2
      have hfz26_3 := blk_frozen BK345.out 3
      have hfz26_4 := blk_frozen BK345.out 4
      have hfz26_5 := blk_frozen BK345.out 5
      have hfz26_6 := blk_frozen BK345.out 6
      have hfz26_7 := blk_frozen BK345.out 7
      have hfz26_8 := blk_frozen BK345.out 8
      have hfz26_9 := blk_frozen BK345.out 9
      have hfz26_10 := blk_frozen BK345.out 10
      go_wp2_with (first | ((with_reducible refine gate_dst (N := 70) rfl ?_); refine Kd.R_lit k61 _ 61 ?hg (N := 70) ?hd (xs := ([] : List (S61))) (inner := []) (ok := fun _ => True) (okp := fun _ => True) ?hr ?hp (fun _ hk => hk) trivial (Below.refl _ _) (Nat.le_refl _) (by simp) ?_; (case hd => rfl); (case hg => rfl); (case hr => first | (go_simp; done) | (go_simp; rfl)); (case hp => exact (Reps.none _ _)); intro v360 w27 ho28 hb hg_ hnew_; clear hg_ hnew_; (first | rw [← Ny359.out] at ho28 | (simp only [Int.reduceToNat] at ho28; rw [← Ny359.out] at ho28)); have HO361 := Aside0.mk (Kd.R_lower (Kd.R_new' ho28 (Kd.R_lt (RQ HO_6.out))) (below_size (BL))); replace HO_6 := Aside0.mk (Kd.R_elder' (RQ HO_6.out) (Kd.R_base ho28) hb); replace BK345 := BB BK345.out hb; replace HB := Aside0.mk (below_step (BL) hb); clear hb ho28) | ((with_reducible refine gate_builtin (b := .append) (xs := #[.tmp 70, .tmp 71]) rfl ?_); at_builtin; refine Kd.R_append_rows k61 (w0 := w) w.heap.size rfl (.tmp 70) (.tmp 71) 58 61 (.agg #[(.int .i64 0), (.int .i64 0)]) 16 rfl Try.underlying58 info61 rfl (by decide) (by omega) v360 y359 l0 _ _ _ (fun k_ => some k_ ≠ (v347 : Value).ownBlock) (fun _ => False) rfl rfl ?aO ?aR (fun _ _ h => h) (fun _ h => h.elim) ?aF ?aB ?aS ?aL ?_; (case aR => exact CB HR0.out); (case aB => exact (BL)); (case aF => exact (fun k_ hk => Kd.fresh' (Kd.R_lt (RQ HO_6.out)) k_ hk)); (case aO => exact (by (with_reducible repeat (first | apply r1 | apply r2 | apply r3)); exact Kd.R_mono HO361.out (fun _ hk => hk.2))); (case aS => exact (below_size (BL))); (case aL => have := LMc25.out; omega); intro v363 w29 ho hb hg hat; rw [← Ny362.out] at ho; have n0_ := Aside0.mk (Kd.R_after (ok := (fun _ => True)) (RQ HO_6.out) hg hat); have n1_ := Aside0.mk (blk_grown (g := gb345) (o := .cells #[.int .i64 a1_0, .int .i64 a1_1, .int .i64 a1_2, .int .i64 a1_3, .int .i64 a1_4, .int .i64 a1_5, .int .i64 a1_6, .int .i64 a1_7, .int .i64 a1_8, .bool a1_9, .int .i64 a1_10] 46 (0, 0)) (BQ BK345.out) hg (Kd.R_ne HO361.out BK345.out (by decide))); have n2_ := Aside0.mk (hb); have n3_ := Aside0.mk (ho); clear HO_6; clear BK345; clear HB; clear HO361; have HO_6 := n0_; have BK345 := n1_; have HB := n2_; have HO364 := n3_; clear n0_ n1_ n2_ n3_; clear ho hb hg hat))
      repeat (go_quiet (first | ((with_reducible refine gate_dst (N := 70) rfl ?_); refine Kd.R_lit k61 _ 61 ?hg (N := 70) ?hd (xs := ([] : List (S61))) (inner := []) (ok := fun _ => True) (okp := fun _ => True) ?hr ?hp (fun _ hk => hk) trivial (Below.refl _ _) (Nat.le_refl _) (by simp) ?_; (case hd => rfl); (case hg => rfl); (case hr => first | (go_simp; done) | (go_simp; rfl)); (case hp => exact (Reps.none _ _)); intro v360 w27 ho28 hb hg_ hnew_; clear hg_ hnew_; (first | rw [← Ny359.out] at ho28 | (simp only [Int.reduceToNat] at ho28; rw [← Ny359.out] at ho28)); have HO361 := Aside0.mk (Kd.R_lower (Kd.R_new' ho28 (Kd.R_lt (RQ HO_6.out))) (below_size (BL))); replace HO_6 := Aside0.mk (Kd.R_elder' (RQ HO_6.out) (Kd.R_base ho28) hb); replace BK345 := BB BK345.out hb; replace HB := Aside0.mk (below_step (BL) hb); clear hb ho28) | ((with_reducible refine gate_builtin (b := .append) (xs := #[.tmp 70, .tmp 71]) rfl ?_); at_builtin; refine Kd.R_append_rows k61 (w0 := w) w.heap.size rfl (.tmp 70) (.tmp 71) 58 61 (.agg #[(.int .i64 0), (.int .i64 0)]) 16 rfl Try.underlying58 info61 rfl (by decide) (by omega) v360 y359 l0 _ _ _ (fun k_ => some k_ ≠ (v347 : Value).ownBlock) (fun _ => False) rfl rfl ?aO ?aR (fun _ _ h => h) (fun _ h => h.elim) ?aF ?aB ?aS ?aL ?_; (case aR => exact CB HR0.out); (case aB => exact (BL)); (case aF => exact (fun k_ hk => Kd.fresh' (Kd.R_lt (RQ HO_6.out)) k_ hk)); (case aO => exact (by (with_reducible repeat (first | apply r1 | apply r2 | apply r3)); exact Kd.R_mono HO361.out (fun _ hk => hk.2))); (case aS => exact (below_size (BL))); (case aL => have := LMc25.out; omega); intro v363 w29 ho hb hg hat; rw [← Ny362.out] at ho; have n0_ := Aside0.mk (Kd.R_after (ok := (fun _ => True)) (RQ HO_6.out) hg hat); have n1_ := Aside0.mk (blk_grown (g := gb345) (o := .cells #[.int .i64 a1_0, .int .i64 a1_1, .int .i64 a1_2, .int .i64 a1_3, .int .i64 a1_4, .int .i64 a1_5, .int .i64 a1_6, .int .i64 a1_7, .int .i64 a1_8, .bool a1_9, .int .i64 a1_10] 46 (0, 0)) (BQ BK345.out) hg (Kd.R_ne HO361.out BK345.out (by decide))); have n2_ := Aside0.mk (hb); have n3_ := Aside0.mk (ho); clear HO_6; clear BK345; clear HB; clear HO361; have HO_6 := n0_; have BK345 := n1_; have HB := n2_; have HO364 := n3_; clear n0_ n1_ n2_ n3_; clear ho hb hg hat)); try go_wp2_with (first | ((with_reducible refine gate_dst (N := 70) rfl ?_); refine Kd.R_lit k61 _ 61 ?hg (N := 70) ?hd (xs := ([] : List (S61))) (inner := []) (ok := fun _ => True) (okp := fun _ => True) ?hr ?hp (fun _ hk => hk) trivial (Below.refl _ _) (Nat.le_refl _) (by simp) ?_; (case hd => rfl); (case hg => rfl); (case hr => first | (go_simp; done) | (go_simp; rfl)); (case hp => exact (Reps.none _ _)); intro v360 w27 ho28 hb hg_ hnew_; clear hg_ hnew_; (first | rw [← Ny359.out] at ho28 | (simp only [Int.reduceToNat] at ho28; rw [← Ny359.out] at ho28)); have HO361 := Aside0.mk (Kd.R_lower (Kd.R_new' ho28 (Kd.R_lt (RQ HO_6.out))) (below_size (BL))); replace HO_6 := Aside0.mk (Kd.R_elder' (RQ HO_6.out) (Kd.R_base ho28) hb); replace BK345 := BB BK345.out hb; replace HB := Aside0.mk (below_step (BL) hb); clear hb ho28) | ((with_reducible refine gate_builtin (b := .append) (xs := #[.tmp 70, .tmp 71]) rfl ?_); at_builtin; refine Kd.R_append_rows k61 (w0 := w) w.heap.size rfl (.tmp 70) (.tmp 71) 58 61 (.agg #[(.int .i64 0), (.int .i64 0)]) 16 rfl Try.underlying58 info61 rfl (by decide) (by omega) v360 y359 l0 _ _ _ (fun k_ => some k_ ≠ (v347 : Value).ownBlock) (fun _ => False) rfl rfl ?aO ?aR (fun _ _ h => h) (fun _ h => h.elim) ?aF ?aB ?aS ?aL ?_; (case aR => exact CB HR0.out); (case aB => exact (BL)); (case aF => exact (fun k_ hk => Kd.fresh' (Kd.R_lt (RQ HO_6.out)) k_ hk)); (case aO => exact (by (with_reducible repeat (first | apply r1 | apply r2 | apply r3)); exact Kd.R_mono HO361.out (fun _ hk => hk.2))); (case aS => exact (below_size (BL))); (case aL => have := LMc25.out; omega); intro v363 w29 ho hb hg hat; rw [← Ny362.out] at ho; have n0_ := Aside0.mk (Kd.R_after (ok := (fun _ => True)) (RQ HO_6.out) hg hat); have n1_ := Aside0.mk (blk_grown (g := gb345) (o := .cells #[.int .i64 a1_0, .int .i64 a1_1, .int .i64 a1_2, .int .i64 a1_3, .int .i64 a1_4, .int .i64 a1_5, .int .i64 a1_6, .int .i64 a1_7, .int .i64 a1_8, .bool a1_9, .int .i64 a1_10] 46 (0, 0)) (BQ BK345.out) hg (Kd.R_ne HO361.out BK345.out (by decide))); have n2_ := Aside0.mk (hb); have n3_ := Aside0.mk (ho); clear HO_6; clear BK345; clear HB; clear HO361; have HO_6 := n0_; have BK345 := n1_; have HB := n2_; have HO364 := n3_; clear n0_ n1_ n2_ n3_; clear ho hb hg hat)))
      go_ret2
      exact ⟨_, EE, by (with_reducible repeat (first | apply r1 | apply r2 | apply r3)); exact Kd.R_mono HO364.out (fun _ hk => trivial), BL⟩
     rw [if_neg c22] at H
     have c22b0 : decide (x9_2 < (l0.length : Int)) = false := decide_eq_false c22
     clear c22
     have H' := Aside0.mk H
     clear H
     go_wp2
     repeat (go_quiet (fail); try go_wp2)
     go_loopg [6, 10] k2 (fun kq v6 v10 w' => ∃ (x6_3 : List (S61)) (x10_3 : Int), v10 = .int .i64 x10_3 ∧ Aside0 (spec_DoTask.l2 kq l0 x6_3 x10_3 a1_0 a1_1 a1_2 a1_3 a1_4 a1_5 a1_6 a1_7 a1_8 a1_9 a1_10 = some (r1, r2)) ∧ Aside0 (kq ≤ k2) ∧ Aside0 (Kd.R k61 61 w' w.heap.size (fun _ => True) v6 x6_3) ∧ Aside0 (w'.heap[gb345]? = some (.cells #[.int .i64 a1_0, .int .i64 a1_1, .int .i64 a1_2, .int .i64 a1_3, .int .i64 a1_4, .int .i64 a1_5, .int .i64 a1_6, .int .i64 a1_7, .int .i64 a1_8, .bool a1_9, .int .i64 a1_10] 46 (0, 0))) ∧ Aside0 (Below w.heap.size w w'))
     case atStart => exact ⟨(y346), (0), SD, H', ⟨Nat.le_refl _⟩, ⟨RQ HO_6.out⟩, ⟨BQ BK345.out⟩, ⟨BL⟩⟩
     case round =>
      clear H'
      try clear c1 c2 p2 p3 q3 hx3 c4 p6 c9 c9b0 c10 c10b0 c11 c11b0 c11b1 c12 c12b0 c12b1 c16 c16b0 c16b1 c17 c20 c20b0 c20b1 c22 c22b0 c23 c23b0 c24 c24b0 c24b1 c25 hcz13_0 hcz13_1 hcz13_10 hcz13_2 hcz13_3 hcz13_4 hcz13_5 hcz13_6 hcz13_7 hcz13_8 hcz13_9 hcz14_0 hcz14_1 hcz14_10 hcz14_2 hcz14_3 hcz14_4 hcz14_5 hcz14_6 hcz14_7 hcz14_8 hcz14_9 hcz15_0 hcz15_1 hcz15_10 hcz15_2 hcz15_3 hcz15_4 hcz15_5 hcz15_6 hcz15_7 hcz15_8 hcz15_9 hcz18_0 hcz18_1 hcz18_10 hcz18_2 hcz18_3 hcz18_4 hcz18_5 hcz18_6 hcz18_7 hcz18_8 hcz18_9 hcz21_0 hcz21_1 hcz21_10 hcz21_2 hcz21_3 hcz21_4 hcz21_5 hcz21_6 hcz21_7 hcz21_8 hcz21_9 hcz26_0 hcz26_1 hcz26_10 hcz26_2 hcz26_3 hcz26_4 hcz26_5 hcz26_6 hcz26_7 hcz26_8 hcz26_9 hcz30_0 hcz30_1 hcz30_10 hcz30_2 hcz30_3 hcz30_4 hcz30_5 hcz30_6 hcz30_7 hcz30_8 hcz30_9 hcz8_0 hcz8_1 hcz8_10 hcz8_2 hcz8_3 hcz8_4 hcz8_5 hcz8_6 hcz8_7 hcz8_8 hcz8_9 hfz13_0 hfz13_1 hfz13_10 hfz13_2 hfz13_3 hfz13_4 hfz13_5 hfz13_6 hfz13_7 hfz13_8 hfz13_9 hfz14_0 hfz14_1 hfz14_10 hfz14_2 hfz14_3 hfz14_4 hfz14_5 hfz14_6 hfz14_7 hfz14_8 hfz14_9 hfz15_0 hfz15_1 hfz15_10 hfz15_2 hfz15_3 hfz15_4 hfz15_5 hfz15_6 hfz15_7 hfz15_8 hfz15_9 hfz18_0 hfz18_1 hfz18_10 hfz18_2 hfz18_3 hfz18_4 hfz18_5 hfz18_6 hfz18_7 hfz18_8 hfz18_9 hfz21_0 hfz21_1 hfz21_10 hfz21_2 hfz21_3 hfz21_4 hfz21_5 hfz21_6 hfz21_7 hfz21_8 hfz21_9 hfz26_0 hfz26_1 hfz26_10 hfz26_2 hfz26_3 hfz26_4 hfz26_5 hfz26_6 hfz26_7 hfz26_8 hfz26_9 hfz30_0 hfz30_1 hfz30_10 hfz30_2 hfz30_3 hfz30_4 hfz30_5 hfz30_6 hfz30_7 hfz30_8 hfz30_9 hfz8_0 hfz8_1 hfz8_10 hfz8_2 hfz8_3 hfz8_4 hfz8_5 hfz8_6 hfz8_7 hfz8_8 hfz8_9 hx353_0 hx353_1 hx354_0 hx354_1 hx358_0 hx358_1 p2 p3 p353 p354 p358 p6 q3 q353 q354 q358
      obtain ⟨x6_3, x10_3, rfl, HA, HK3, HO_6, BK345, HB⟩ := hrel
      cases gk with
      | zero => exact absurd HA.out (by simp [spec_DoTask.l2])
      | succ k3 =>
       have H := HA.out
       clear HA
       simp only [spec_DoTask.l2] at H
       by_cases c31 : x10_3 < (l0.length : Int)
       ·
        rw [if_pos c31] at H
        have c31b0 : decide (x10_3 < (l0.length : Int)) = true := decide_eq_true c31
        clear c31
        by_cases c32 : 0 ≤ x10_3; rotate_left
        ·
         rw [if_neg c32] at H
         exact absurd H (by simp)
        rw [if_pos c32] at H
        have c32b0 : decide (0 ≤ x10_3) = true := decide_eq_true c32
        clear c32
        by_cases c33 : ((rd_T61 l0 x10_3).f0) < a1_1; rotate_left
        ·
         rw [if_neg c33] at H
         have c33b0 : decide (((rd_T61 l0 x10_3).f0) < a1_1) = false := decide_eq_false c33
         clear c33
         have H' := Aside0.mk H
         clear H
         have p365 : 0 ≤ (x10_3 : Int) := of_decide_eq_true AS
         have q365 : x10_3 < (l0.length : Int) := of_decide_eq_true AS
         obtain ⟨ad365, e365, hx365_0, hx365_1⟩ := at_T61 HR0.out x10_3 p365 q365
         cases e365
         replace hx365_0 := (HB.out.cell (World.block_lt_of_cell? w _ hx365_0)).trans hx365_0
         replace hx365_1 := (HB.out.cell (World.block_lt_of_cell? w _ hx365_1)).trans hx365_1
         replace p365 := eq_true p365
         replace q365 := eq_true q365
         have hcz37_0 : wr.cell? ⟨gb345, 0, none⟩ = some (.int .i64 a1_0) := CZ BK345.out 0
         have hcz37_1 : wr.cell? ⟨gb345, 1, none⟩ = some (.int .i64 a1_1) := CZ BK345.out 1
         have hcz37_2 : wr.cell? ⟨gb345, 2, none⟩ = some (.int .i64 a1_2) := CZ BK345.out 2
         have hcz37_3 : wr.cell? ⟨gb345, 3, none⟩ = some (.int .i64 a1_3) := CZ BK345.out 3
         have hcz37_4 : wr.cell? ⟨gb345, 4, none⟩ = some (.int .i64 a1_4) := CZ BK345.out 4
         have hcz37_5 : wr.cell? ⟨gb345, 5, none⟩ = some (.int .i64 a1_5) := CZ BK345.out 5
         have hcz37_6 : wr.cell? ⟨gb345, 6, none⟩ = some (.int .i64 a1_6) := CZ BK345.out 6
         have hcz37_7 : wr.cell? ⟨gb345, 7, none⟩ = some (.int .i64 a1_7) := CZ BK345.out 7
         have hcz37_8 : wr.cell? ⟨gb345, 8, none⟩ = some (.int .i64 a1_8) := CZ BK345.out 8
         have hcz37_9 : wr.cell? ⟨gb345, 9, none⟩ = some (.bool a1_9) := CZ BK345.out 9
         have hcz37_10 : wr.cell? ⟨gb345, 10, none⟩ = some (.int .i64 a1_10) := CZ BK345.out 10
         have hfz37_0 := blk_frozen BK345.out 0
         have hfz37_1 := blk_frozen BK345.out 1
         have hfz37_2 := blk_frozen BK345.out 2
         have hfz37_3 := blk_frozen BK345.out 3
         have hfz37_4 := blk_frozen BK345.out 4
         have hfz37_5 := blk_frozen BK345.out 5
         have hfz37_6 := blk_frozen BK345.out 6
         have hfz37_7 := blk_frozen BK345.out 7
         have hfz37_8 := blk_frozen BK345.out 8
         have hfz37_9 := blk_frozen BK345.out 9
         have hfz37_10 := blk_frozen BK345.out 10
         go_wp2
         repeat (go_quiet (fail); try go_wp2)
         go_roundg k3
         case measure => have := HK1.out; have := HK2.out; have := HK3.out; omega
         case rel => exact ⟨(x6_3), (wrap64 (x10_3 + 1)), SD, H', ⟨by have := HK1.out; have := HK2.out; have := HK3.out; omega⟩, ⟨RQ HO_6.out⟩, ⟨BQ BK345.out⟩, ⟨BL⟩⟩
        rw [if_pos c33] at H
        have c33b0 : decide (((rd_T61 l0 x10_3).f0) < a1_1) = true := decide_eq_true c33
        clear c33
        by_cases c34 : x6_3.length < 8796093022208; rotate_left
        ·
         rw [if_neg c34] at H
         exact absurd H (by simp)
        rw [if_pos c34] at H
        have LMc34 := Aside0.mk c34
        clear c34
        obtain ⟨y367, hy367⟩ : ∃ y_ : List (S61), y_ = (x6_3 ++ [(⟨(rd_T61 l0 x10_3).f0, (rd_T61 l0 x10_3).f1⟩ : S61)]) := ⟨_, rfl⟩
        replace H : (spec_DoTask.l2 k3 l0 y367 (wrap64 (x10_3 + 1)) a1_0 a1_1 a1_2 a1_3 a1_4 a1_5 a1_6 a1_7 a1_8 a1_9 a1_10) = some (r1, r2) := by first | (rw [hy367]; with_reducible exact H) | (have H2_ := (Option.bind_some _ _).symm.trans H; rw [hy367]; with_reducible exact H2_) | (have H2_ := (Option.bind_some _ _).symm.trans H; with_reducible exact H2_) | with_reducible exact H | (rw [hy367]; exact H) | exact H
        have Ny367 := Aside0.mk hy367
        clear hy367
        have H' := Aside0.mk H
        clear H
        have p365 : 0 ≤ (x10_3 : Int) := of_decide_eq_true AS
        have q365 : x10_3 < (l0.length : Int) := of_decide_eq_true AS
        obtain ⟨ad365, e365, hx365_0, hx365_1⟩ := at_T61 HR0.out x10_3 p365 q365
        cases e365
        replace hx365_0 := (HB.out.cell (World.block_lt_of_cell? w _ hx365_0)).trans hx365_0
        replace hx365_1 := (HB.out.cell (World.block_lt_of_cell? w _ hx365_1)).trans hx365_1
        replace p365 := eq_true p365
        replace q365 := eq_true q365
        have hcz35_0 : wr.cell? ⟨gb345, 0, none⟩ = some (.int .i64 a1_0) := CZ BK345.out 0
        have hcz35_1 : wr.cell? ⟨gb345, 1, none⟩ = some (.int .i64 a1_1) := CZ BK345.out 1
        have hcz35_2 : wr.cell? ⟨gb345, 2, none⟩ = some (.int .i64 a1_2) := CZ BK345.out 2
        have hcz35_3 : wr.cell? ⟨gb345, 3, none⟩ = some (.int .i64 a1_3) := CZ BK345.out 3
        have hcz35_4 : wr.cell? ⟨gb345, 4, none⟩ = some (.int .i64 a1_4) := CZ BK345.out 4
        have hcz35_5 : wr.cell? ⟨gb345, 5, none⟩ = some (.int .i64 a1_5) := CZ BK345.out 5
        have hcz35_6 : wr.cell? ⟨gb345, 6, none⟩ = some (.int .i64 a1_6) := CZ BK345.out 6
        have hcz35_7 : wr.cell? ⟨gb345, 7, none⟩ = some (.int .i64 a1_7) := CZ BK345.out 7
        have hcz35_8 : wr.cell? ⟨gb345, 8, none⟩ = some (.int .i64 a1_8) := CZ BK345.out 8
        have hcz35_9 : wr.cell? ⟨gb345, 9, none⟩ = some (.bool a1_9) := CZ BK345.out 9
        have hcz35_10 : wr.cell? ⟨gb345, 10, none⟩ = some (.int .i64 a1_10) := CZ BK345.out 10
        have hfz35_0 := blk_frozen BK345.out 0
        have hfz35_1 := blk_frozen BK345.out 1
        have hfz35_2 := blk_frozen BK345.out 2
        have hfz35_3 := blk_frozen BK345.out 3
        have hfz35_4 := blk_frozen BK345.out 4
        have hfz35_5 := blk_frozen BK345.out 5
        have hfz35_6 := blk_frozen BK345.out 6
        have hfz35_7 := blk_frozen BK345.out 7
        have hfz35_8 := blk_frozen BK345.out 8
        have hfz35_9 := blk_frozen BK345.out 9
        have hfz35_10 := blk_frozen BK345.out 10
        have p366 : 0 ≤ (x10_3 : Int) := of_decide_eq_true AS
        have q366 : x10_3 < (l0.length : Int) := of_decide_eq_true AS
        obtain ⟨ad366, e366, hx366_0, hx366_1⟩ := at_T61 HR0.out x10_3 p366 q366
        obtain rfl : ad365 = ad366 := (by injection e366)
        replace hx366_0 := (HB.out.cell (World.block_lt_of_cell? w _ hx366_0)).trans hx366_0
        replace hx366_1 := (HB.out.cell (World.block_lt_of_cell? w _ hx366_1)).trans hx366_1
        replace p366 := eq_true p366
        replace q366 := eq_true q366
        go_wp2_with (first | ((with_reducible refine gate_builtin (b := .append) (xs := #[.tmp 87, .tmp 92]) rfl ?_); at_builtin; refine Kd.R_append k61 (w0 := w) w.heap.size rfl (.tmp 87) (.tmp 92) 58 61 (.agg #[(.int .i64 0), (.int .i64 0)]) 16 rfl Try.underlying58 info61 rfl (by decide) (by omega) u6 x6_3 (⟨(rd_T61 l0 x10_3).f0, (rd_T61 l0 x10_3).f1⟩ : S61) [.int .i64 ((rd_T61 l0 x10_3).f0), .int .i64 ((rd_T61 l0 x10_3).f1)] (fun _ => True) (fun _ => False) rfl rfl ?aP (fun _ hk => hk.elim) ?aF ?aO ?aB ?aS ?aL ?_; (case aP => exact k61_mkM _ _ _ (⟨(rd_T61 l0 x10_3).f0, (rd_T61 l0 x10_3).f1⟩ : S61)); (case aB => exact (BL)); (case aF => exact (fun _ _ => trivial)); (case aO => exact (RQ HO_6.out)); (case aS => exact (below_size (BL))); (case aL => have := LMc34.out; omega); intro v368 w36 ho hb hg hat; rw [← Ny367.out] at ho; have n0_ := Aside0.mk (blk_grown (g := gb345) (o := .cells #[.int .i64 a1_0, .int .i64 a1_1, .int .i64 a1_2, .int .i64 a1_3, .int .i64 a1_4, .int .i64 a1_5, .int .i64 a1_6, .int .i64 a1_7, .int .i64 a1_8, .bool a1_9, .int .i64 a1_10] 46 (0, 0)) (BQ BK345.out) hg (Kd.R_ne HO_6.out BK345.out (by decide))); have n1_ := Aside0.mk (hb); have n2_ := Aside0.mk (ho); clear BK345; clear HB; clear HO_6; have BK345 := n0_; have HB := n1_; have HO369 := n2_; clear n0_ n1_ n2_; clear ho hb hg hat))
        repeat (go_quiet (first | ((with_reducible refine gate_builtin (b := .append) (xs := #[.tmp 87, .tmp 92]) rfl ?_); at_builtin; refine Kd.R_append k61 (w0 := w) w.heap.size rfl (.tmp 87) (.tmp 92) 58 61 (.agg #[(.int .i64 0), (.int .i64 0)]) 16 rfl Try.underlying58 info61 rfl (by decide) (by omega) u6 x6_3 (⟨(rd_T61 l0 x10_3).f0, (rd_T61 l0 x10_3).f1⟩ : S61) [.int .i64 ((rd_T61 l0 x10_3).f0), .int .i64 ((rd_T61 l0 x10_3).f1)] (fun _ => True) (fun _ => False) rfl rfl ?aP (fun _ hk => hk.elim) ?aF ?aO ?aB ?aS ?aL ?_; (case aP => exact k61_mkM _ _ _ (⟨(rd_T61 l0 x10_3).f0, (rd_T61 l0 x10_3).f1⟩ : S61)); (case aB => exact (BL)); (case aF => exact (fun _ _ => trivial)); (case aO => exact (RQ HO_6.out)); (case aS => exact (below_size (BL))); (case aL => have := LMc34.out; omega); intro v368 w36 ho hb hg hat; rw [← Ny367.out] at ho; have n0_ := Aside0.mk (blk_grown (g := gb345) (o := .cells #[.int .i64 a1_0, .int .i64 a1_1, .int .i64 a1_2, .int .i64 a1_3, .int .i64 a1_4, .int .i64 a1_5, .int .i64 a1_6, .int .i64 a1_7, .int .i64 a1_8, .bool a1_9, .int .i64 a1_10] 46 (0, 0)) (BQ BK345.out) hg (Kd.R_ne HO_6.out BK345.out (by decide))); have n1_ := Aside0.mk (hb); have n2_ := Aside0.mk (ho); clear BK345; clear HB; clear HO_6; have BK345 := n0_; have HB := n1_; have HO369 := n2_; clear n0_ n1_ n2_; clear ho hb hg hat)); try go_wp2_with (first | ((with_reducible refine gate_builtin (b := .append) (xs := #[.tmp 87, .tmp 92]) rfl ?_); at_builtin; refine Kd.R_append k61 (w0 := w) w.heap.size rfl (.tmp 87) (.tmp 92) 58 61 (.agg #[(.int .i64 0), (.int .i64 0)]) 16 rfl Try.underlying58 info61 rfl (by decide) (by omega) u6 x6_3 (⟨(rd_T61 l0 x10_3).f0, (rd_T61 l0 x10_3).f1⟩ : S61) [.int .i64 ((rd_T61 l0 x10_3).f0), .int .i64 ((rd_T61 l0 x10_3).f1)] (fun _ => True) (fun _ => False) rfl rfl ?aP (fun _ hk => hk.elim) ?aF ?aO ?aB ?aS ?aL ?_; (case aP => exact k61_mkM _ _ _ (⟨(rd_T61 l0 x10_3).f0, (rd_T61 l0 x10_3).f1⟩ : S61)); (case aB => exact (BL)); (case aF => exact (fun _ _ => trivial)); (case aO => exact (RQ HO_6.out)); (case aS => exact (below_size (BL))); (case aL => have := LMc34.out; omega); intro v368 w36 ho hb hg hat; rw [← Ny367.out] at ho; have n0_ := Aside0.mk (blk_grown (g := gb345) (o := .cells #[.int .i64 a1_0, .int .i64 a1_1, .int .i64 a1_2, .int .i64 a1_3, .int .i64 a1_4, .int .i64 a1_5, .int .i64 a1_6, .int .i64 a1_7, .int .i64 a1_8, .bool a1_9, .int .i64 a1_10] 46 (0, 0)) (BQ BK345.out) hg (Kd.R_ne HO_6.out BK345.out (by decide))); have n1_ := Aside0.mk (hb); have n2_ := Aside0.mk (ho); clear BK345; clear HB; clear HO_6; have BK345 := n0_; have HB := n1_; have HO369 := n2_; clear n0_ n1_ n2_; clear ho hb hg hat)))
        go_roundg k3
        case measure => have := HK1.out; have := HK2.out; have := HK3.out; omega
        case rel => exact ⟨(y367), (wrap64 (x10_3 + 1)), SD, H', ⟨by have := HK1.out; have := HK2.out; have := HK3.out; omega⟩, ⟨RQ HO369.out⟩, ⟨BQ BK345.out⟩, ⟨BL⟩⟩
       rw [if_neg c31] at H
       have c31b0 : decide (x10_3 < (l0.length : Int)) = false := decide_eq_false c31
       clear c31
       by_cases c38 : x6_3.length < 8796093022208; rotate_left
       ·
        rw [if_neg c38] at H
        exact absurd H (by simp)
       rw [if_pos c38] at H
       have LMc38 := Aside0.mk c38
       clear c38
       obtain ⟨y370, hy370⟩ : ∃ y_ : List (S61), y_ = (x6_3 ++ [(⟨a1_1, a1_2⟩ : S61)]) := ⟨_, rfl⟩
       replace H : (spec_DoTask.l3 k3 l0 y370 0 a1_0 a1_1 a1_2 a1_3 a1_4 a1_5 a1_6 a1_7 a1_8 a1_9 a1_10) = some (r1, r2) := by first | (rw [hy370]; with_reducible exact H) | (have H2_ := (Option.bind_some _ _).symm.trans H; rw [hy370]; with_reducible exact H2_) | (have H2_ := (Option.bind_some _ _).symm.trans H; with_reducible exact H2_) | with_reducible exact H | (rw [hy370]; exact H) | exact H
       have Ny370 := Aside0.mk hy370
       clear hy370
       have H' := Aside0.mk H
       clear H
       have hcz39_0 : wr.cell? ⟨gb345, 0, none⟩ = some (.int .i64 a1_0) := CZ BK345.out 0
       have hcz39_1 : wr.cell? ⟨gb345, 1, none⟩ = some (.int .i64 a1_1) := CZ BK345.out 1
       have hcz39_2 : wr.cell? ⟨gb345, 2, none⟩ = some (.int .i64 a1_2) := CZ BK345.out 2
       have hcz39_3 : wr.cell? ⟨gb345, 3, none⟩ = some (.int .i64 a1_3) := CZ BK345.out 3
       have hcz39_4 : wr.cell? ⟨gb345, 4, none⟩ = some (.int .i64 a1_4) := CZ BK345.out 4
       have hcz39_5 : wr.cell? ⟨gb345, 5, none⟩ = some (.int .i64 a1_5) := CZ BK345.out 5
       have hcz39_6 : wr.cell? ⟨gb345, 6, none⟩ = some (.int .i64 a1_6) := CZ BK345.out 6
       have hcz39_7 : wr.cell? ⟨gb345, 7, none⟩ = some (.int .i64 a1_7) := CZ BK345.out 7
       have hcz39_8 : wr.cell? ⟨gb345, 8, none⟩ = some (.int .i64 a1_8) := CZ BK345.out 8
       have hcz39_9 : wr.cell? ⟨gb345, 9, none⟩ = some (.bool a1_9) := CZ BK345.out 9
       have hcz39_10 : wr.cell? ⟨gb345, 10, none⟩ = some (.int .i64 a1_10) := CZ BK345.out 10
       have hfz39_0 := blk_frozen BK345.out 0
       have hfz39_1 := blk_frozen BK345.out 1
       have hfz39_2 := blk_frozen BK345.out 2
       have hfz39_3 := blk_frozen BK345.out 3
       have hfz39_4 := blk_frozen BK345.out 4
       have hfz39_5 := blk_frozen BK345.out 5
       have hfz39_6 := blk_frozen BK345.out 6
       have hfz39_7 := blk_frozen BK345.out 7
       have hfz39_8 := blk_frozen BK345.out 8
       have hfz39_9 := blk_frozen BK345.out 9
       have hfz39_10 := blk_frozen BK345.out 10
       go_wp2_with (first | ((with_reducible refine gate_builtin (b := .append) (xs := #[.tmp 94, .tmp 100]) rfl ?_); at_builtin; refine Kd.R_append k61 (w0 := w) w.heap.size rfl (.tmp 94) (.tmp 100) 58 61 (.agg #[(.int .i64 0), (.int .i64 0)]) 16 rfl Try.underlying58 info61 rfl (by decide) (by omega) u6 x6_3 (⟨a1_1, a1_2⟩ : S61) [.int .i64 a1_1, .int .i64 a1_2] (fun _ => True) (fun _ => False) rfl rfl ?aP (fun _ hk => hk.elim) ?aF ?aO ?aB ?aS ?aL ?_; (case aP => exact k61_mkM _ _ _ (⟨a1_1, a1_2⟩ : S61)); (case aB => exact (BL)); (case aF => exact (fun _ _ => trivial)); (case aO => exact (RQ HO_6.out)); (case aS => exact (below_size (BL))); (case aL => have := LMc38.out; omega); intro v371 w40 ho hb hg hat; rw [← Ny370.out] at ho; have n0_ := Aside0.mk (blk_grown (g := gb345) (o := .cells #[.int .i64 a1_0, .int .i64 a1_1, .int .i64 a1_2, .int .i64 a1_3, .int .i64 a1_4, .int .i64 a1_5, .int .i64 a1_6, .int .i64 a1_7, .int .i64 a1_8, .bool a1_9, .int .i64 a1_10] 46 (0, 0)) (BQ BK345.out) hg (Kd.R_ne HO_6.out BK345.out (by decide))); have n1_ := Aside0.mk (hb); have n2_ := Aside0.mk (ho); clear BK345; clear HB; clear HO_6; have BK345 := n0_; have HB := n1_; have HO372 := n2_; clear n0_ n1_ n2_; clear ho hb hg hat))
       repeat (go_quiet (first | ((with_reducible refine gate_builtin (b := .append) (xs := #[.tmp 94, .tmp 100]) rfl ?_); at_builtin; refine Kd.R_append k61 (w0 := w) w.heap.size rfl (.tmp 94) (.tmp 100) 58 61 (.agg #[(.int .i64 0), (.int .i64 0)]) 16 rfl Try.underlying58 info61 rfl (by decide) (by omega) u6 x6_3 (⟨a1_1, a1_2⟩ : S61) [.int .i64 a1_1, .int .i64 a1_2] (fun _ => True) (fun _ => False) rfl rfl ?aP (fun _ hk => hk.elim) ?aF ?aO ?aB ?aS ?aL ?_; (case aP => exact k61_mkM _ _ _ (⟨a1_1, a1_2⟩ : S61)); (case aB => exact (BL)); (case aF => exact (fun _ _ => trivial)); (case aO => exact (RQ HO_6.out)); (case aS => exact (below_size (BL))); (case aL => have := LMc38.out; omega); intro v371 w40 ho hb hg hat; rw [← Ny370.out] at ho; have n0_ := Aside0.mk (blk_grown (g := gb345) (o := .cells #[.int .i64 a1_0, .int .i64 a1_1, .int .i64 a1_2, .int .i64 a1_3, .int .i64 a1_4, .int .i64 a1_5, .int .i64 a1_6, .int .i64 a1_7, .int .i64 a1_8, .bool a1_9, .int .i64 a1_10] 46 (0, 0)) (BQ BK345.out) hg (Kd.R_ne HO_6.out BK345.out (by decide))); have n1_ := Aside0.mk (hb); have n2_ := Aside0.mk (ho); clear BK345; clear HB; clear HO_6; have BK345 := n0_; have HB := n1_; have HO372 := n2_; clear n0_ n1_ n2_; clear ho hb hg hat)); try go_wp2_with (first | ((with_reducible refine gate_builtin (b := .append) (xs := #[.tmp 94, .tmp 100]) rfl ?_); at_builtin; refine Kd.R_append k61 (w0 := w) w.heap.size rfl (.tmp 94) (.tmp 100) 58 61 (.agg #[(.int .i64 0), (.int .i64 0)]) 16 rfl Try.underlying58 info61 rfl (by decide) (by omega) u6 x6_3 (⟨a1_1, a1_2⟩ : S61) [.int .i64 a1_1, .int .i64 a1_2] (fun _ => True) (fun _ => False) rfl rfl ?aP (fun _ hk => hk.elim) ?aF ?aO ?aB ?aS ?aL ?_; (case aP => exact k61_mkM _ _ _ (⟨a1_1, a1_2⟩ : S61)); (case aB => exact (BL)); (case aF => exact (fun _ _ => trivial)); (case aO => exact (RQ HO_6.out)); (case aS => exact (below_size (BL))); (case aL => have := LMc38.out; omega); intro v371 w40 ho hb hg hat; rw [← Ny370.out] at ho; have n0_ := Aside0.mk (blk_grown (g := gb345) (o := .cells #[.int .i64 a1_0, .int .i64 a1_1, .int .i64 a1_2, .int .i64 a1_3, .int .i64 a1_4, .int .i64 a1_5, .int .i64 a1_6, .int .i64 a1_7, .int .i64 a1_8, .bool a1_9, .int .i64 a1_10] 46 (0, 0)) (BQ BK345.out) hg (Kd.R_ne HO_6.out BK345.out (by decide))); have n1_ := Aside0.mk (hb); have n2_ := Aside0.mk (ho); clear BK345; clear HB; clear HO_6; have BK345 := n0_; have HB := n1_; have HO372 := n2_; clear n0_ n1_ n2_; clear ho hb hg hat)))
       go_loopg [6, 11] k3 (fun kq v6 v11 w' => ∃ (x6_4 : List (S61)) (x11_4 : Int), v11 = .int .i64 x11_4 ∧ Aside0 (spec_DoTask.l3 kq l0 x6_4 x11_4 a1_0 a1_1 a1_2 a1_3 a1_4 a1_5 a1_6 a1_7 a1_8 a1_9 a1_10 = some (r1, r2)) ∧ Aside0 (kq ≤ k3) ∧ Aside0 (Kd.R k61 61 w' w.heap.size (fun _ => True) v6 x6_4) ∧ Aside0 (w'.heap[gb345]? = some (.cells #[.int .i64 a1_0, .int .i64 a1_1, .int .i64 a1_2, .int .i64 a1_3, .int .i64 a1_4, .int .i64 a1_5, .int .i64 a1_6, .int .i64 a1_7, .int .i64 a1_8, .bool a1_9, .int .i64 a1_10] 46 (0, 0))) ∧ Aside0 (Below w.heap.size w w'))
       case atStart => exact ⟨(y370), (0), SD, H', ⟨Nat.le_refl _⟩, ⟨RQ HO372.out⟩, ⟨BQ BK345.out⟩, ⟨BL⟩⟩
       case round =>
        clear H'
        try clear c1 c2 p2 c3 p3 q3 hx3 c4 p6 c9 c9b0 c10 c10b0 c11 c11b0 c11b1 c12 c12b0 c12b1 c16 c16b0 c16b1 c17 c20 c20b0 c20b1 c22 c22b0 c23 c23b0 c24 c24b0 c24b1 c25 c31 c31b0 c32 c32b0 c33 c33b0 c34 p35 q35 hx35 p36 q36 hx36 c38 hcz13_0 hcz13_1 hcz13_10 hcz13_2 hcz13_3 hcz13_4 hcz13_5 hcz13_6 hcz13_7 hcz13_8 hcz13_9 hcz14_0 hcz14_1 hcz14_10 hcz14_2 hcz14_3 hcz14_4 hcz14_5 hcz14_6 hcz14_7 hcz14_8 hcz14_9 hcz15_0 hcz15_1 hcz15_10 hcz15_2 hcz15_3 hcz15_4 hcz15_5 hcz15_6 hcz15_7 hcz15_8 hcz15_9 hcz18_0 hcz18_1 hcz18_10 hcz18_2 hcz18_3 hcz18_4 hcz18_5 hcz18_6 hcz18_7 hcz18_8 hcz18_9 hcz21_0 hcz21_1 hcz21_10 hcz21_2 hcz21_3 hcz21_4 hcz21_5 hcz21_6 hcz21_7 hcz21_8 hcz21_9 hcz26_0 hcz26_1 hcz26_10 hcz26_2 hcz26_3 hcz26_4 hcz26_5 hcz26_6 hcz26_7 hcz26_8 hcz26_9 hcz30_0 hcz30_1 hcz30_10 hcz30_2 hcz30_3 hcz30_4 hcz30_5 hcz30_6 hcz30_7 hcz30_8 hcz30_9 hcz35_0 hcz35_1 hcz35_10 hcz35_2 hcz35_3 hcz35_4 hcz35_5 hcz35_6 hcz35_7 hcz35_8 hcz35_9 hcz37_0 hcz37_1 hcz37_10 hcz37_2 hcz37_3 hcz37_4 hcz37_5 hcz37_6 hcz37_7 hcz37_8 hcz37_9 hcz39_0 hcz39_1 hcz39_10 hcz39_2 hcz39_3 hcz39_4 hcz39_5 hcz39_6 hcz39_7 hcz39_8 hcz39_9 hcz8_0 hcz8_1 hcz8_10 hcz8_2 hcz8_3 hcz8_4 hcz8_5 hcz8_6 hcz8_7 hcz8_8 hcz8_9 hfz13_0 hfz13_1 hfz13_10 hfz13_2 hfz13_3 hfz13_4 hfz13_5 hfz13_6 hfz13_7 hfz13_8 hfz13_9 hfz14_0 hfz14_1 hfz14_10 hfz14_2 hfz14_3 hfz14_4 hfz14_5 hfz14_6 hfz14_7 hfz14_8 hfz14_9 hfz15_0 hfz15_1 hfz15_10 hfz15_2 hfz15_3 hfz15_4 hfz15_5 hfz15_6 hfz15_7 hfz15_8 hfz15_9 hfz18_0 hfz18_1 hfz18_10 hfz18_2 hfz18_3 hfz18_4 hfz18_5 hfz18_6 hfz18_7 hfz18_8 hfz18_9 hfz21_0 hfz21_1 hfz21_10 hfz21_2 hfz21_3 hfz21_4 hfz21_5 hfz21_6 hfz21_7 hfz21_8 hfz21_9 hfz26_0 hfz26_1 hfz26_10 hfz26_2 hfz26_3 hfz26_4 hfz26_5 hfz26_6 hfz26_7 hfz26_8 hfz26_9 hfz30_0 hfz30_1 hfz30_10 hfz30_2 hfz30_3 hfz30_4 hfz30_5 hfz30_6 hfz30_7 hfz30_8 hfz30_9 hfz35_0 hfz35_1 hfz35_10 hfz35_2 hfz35_3 hfz35_4 hfz35_5 hfz35_6 hfz35_7 hfz35_8 hfz35_9 hfz37_0 hfz37_1 hfz37_10 hfz37_2 hfz37_3 hfz37_4 hfz37_5 hfz37_6 hfz37_7 hfz37_8 hfz37_9 hfz39_0 hfz39_1 hfz39_10 hfz39_2 hfz39_3 hfz39_4 hfz39_5 hfz39_6 hfz39_7 hfz39_8 hfz39_9 hfz8_0 hfz8_1 hfz8_10 hfz8_2 hfz8_3 hfz8_4 hfz8_5 hfz8_6 hfz8_7 hfz8_8 hfz8_9 hx353_0 hx353_1 hx354_0 hx354_1 hx358_0 hx358_1 hx365_0 hx365_1 hx366_0 hx366_1 p2 p3 p353 p354 p358 p365 p366 p6 q3 q353 q354 q358 q365 q366
        obtain ⟨x6_4, x11_4, rfl, HA, HK4, HO_6, BK345, HB⟩ := hrel
        cases gk with
        | zero => exact absurd HA.out (by simp [spec_DoTask.l3])
        | succ k4 =>
         have H := HA.out
         clear HA
         simp only [spec_DoTask.l3] at H
         by_cases c41 : x11_4 < (l0.length : Int); rotate_left
         ·
          rw [if_neg c41] at H
          have c41b0 : decide (x11_4 < (l0.length : Int)) = false := decide_eq_false c41
          clear c41
          simp only [Option.some.injEq, Prod.mk.injEq] at H
          obtain ⟨rfl, rfl⟩ := H
          go_wp2
          repeat (go_quiet (fail); try go_wp2)
          go_ret2
          exact ⟨_, EE, RQ HO_6.out, BL⟩
         rw [if_pos c41] at H
         have c41b0 : decide (x11_4 < (l0.length : Int)) = true := decide_eq_true c41
         clear c41
         by_cases c42 : 0 ≤ x11_4; rotate_left
         ·
          rw [if_neg c42] at H
          exact absurd H (by simp)
         rw [if_pos c42] at H
         have c42b0 : decide (0 ≤ x11_4) = true := decide_eq_true c42
         clear c42
         by_cases c43 : ((rd_T61 l0 x11_4).f0) > a1_1; rotate_left
         ·
          rw [if_neg c43] at H
          have c43b0 : decide (a1_1 < ((rd_T61 l0 x11_4).f0)) = false := decide_eq_false c43
          clear c43
          have H' := Aside0.mk H
          clear H
          have p373 : 0 ≤ (x11_4 : Int) := of_decide_eq_true AS
          have q373 : x11_4 < (l0.length : Int) := of_decide_eq_true AS
          obtain ⟨ad373, e373, hx373_0, hx373_1⟩ := at_T61 HR0.out x11_4 p373 q373
          cases e373
          replace hx373_0 := (HB.out.cell (World.block_lt_of_cell? w _ hx373_0)).trans hx373_0
          replace hx373_1 := (HB.out.cell (World.block_lt_of_cell? w _ hx373_1)).trans hx373_1
          replace p373 := eq_true p373
          replace q373 := eq_true q373
          have hcz47_0 : wr.cell? ⟨gb345, 0, none⟩ = some (.int .i64 a1_0) := CZ BK345.out 0
          have hcz47_1 : wr.cell? ⟨gb345, 1, none⟩ = some (.int .i64 a1_1) := CZ BK345.out 1
          have hcz47_2 : wr.cell? ⟨gb345, 2, none⟩ = some (.int .i64 a1_2) := CZ BK345.out 2
          have hcz47_3 : wr.cell? ⟨gb345, 3, none⟩ = some (.int .i64 a1_3) := CZ BK345.out 3
          have hcz47_4 : wr.cell? ⟨gb345, 4, none⟩ = some (.int .i64 a1_4) := CZ BK345.out 4
          have hcz47_5 : wr.cell? ⟨gb345, 5, none⟩ = some (.int .i64 a1_5) := CZ BK345.out 5
          have hcz47_6 : wr.cell? ⟨gb345, 6, none⟩ = some (.int .i64 a1_6) := CZ BK345.out 6
          have hcz47_7 : wr.cell? ⟨gb345, 7, none⟩ = some (.int .i64 a1_7) := CZ BK345.out 7
          have hcz47_8 : wr.cell? ⟨gb345, 8, none⟩ = some (.int .i64 a1_8) := CZ BK345.out 8
          have hcz47_9 : wr.cell? ⟨gb345, 9, none⟩ = some (.bool a1_9) := CZ BK345.out 9
          have hcz47_10 : wr.cell? ⟨gb345, 10, none⟩ = some (.int .i64 a1_10) := CZ BK345.out 10
          have hfz47_0 := blk_frozen BK345.out 0
          have hfz47_1 := blk_frozen BK345.out 1
          have hfz47_2 := blk_frozen BK345.out 2
          have hfz47_3 := blk_frozen BK345.out 3
          have hfz47_4 := blk_frozen BK345.out 4
          have hfz47_5 := blk_frozen BK345.out 5
          have hfz47_6 := blk_frozen BK345.out 6
          have hfz47_7 := blk_frozen BK345.out 7
          have hfz47_8 := blk_frozen BK345.out 8
          have hfz47_9 := blk_frozen BK345.out 9
          have hfz47_10 := blk_frozen BK345.out 10
          go_wp2
          repeat (go_quiet (fail); try go_wp2)
          go_roundg k4
          case measure => have := HK1.out; have := HK2.out; have := HK3.out; have := HK4.out; omega
          case rel => exact ⟨(x6_4), (wrap64 (x11_4 + 1)), SD, H', ⟨by have := HK1.out; have := HK2.out; have := HK3.out; have := HK4.out; omega⟩, ⟨RQ HO_6.out⟩, ⟨BQ BK345.out⟩, ⟨BL⟩⟩
         rw [if_pos c43] at H
         have c43b0 : decide (a1_1 < ((rd_T61 l0 x11_4).f0)) = true := decide_eq_true c43
         clear c43
         by_cases c44 : x6_4.length < 8796093022208; rotate_left
         ·
          rw [if_neg c44] at H
          exact absurd H (by simp)
         rw [if_pos c44] at H
         have LMc44 := Aside0.mk c44
         clear c44
         obtain ⟨y375, hy375⟩ : ∃ y_ : List (S61), y_ = (x6_4 ++ [(⟨(rd_T61 l0 x11_4).f0, (rd_T61 l0 x11_4).f1⟩ : S61)]) := ⟨_, rfl⟩
         replace H : (spec_DoTask.l3 k4 l0 y375 (wrap64 (x11_4 + 1)) a1_0 a1_1 a1_2 a1_3 a1_4 a1_5 a1_6 a1_7 a1_8 a1_9 a1_10) = some (r1, r2) := by first | (rw [hy375]; with_reducible exact H) | (have H2_ := (Option.bind_some _ _).symm.trans H; rw [hy375]; with_reducible exact H2_) | (have H2_ := (Option.bind_some _ _).symm.trans H; with_reducible exact H2_) | with_reducible exact H | (rw [hy375]; exact H) | exact H
         have Ny375 := Aside0.mk hy375
         clear hy375
         have H' := Aside0.mk H
         clear H
         have p373 : 0 ≤ (x11_4 : Int) := of_decide_eq_true AS
         have q373 : x11_4 < (l0.length : Int) := of_decide_eq_true AS
         obtain ⟨ad373, e373, hx373_0, hx373_1⟩ := at_T61 HR0.out x11_4 p373 q373
         cases e373
         replace hx373_0 := (HB.out.cell (World.block_lt_of_cell? w _ hx373_0)).trans hx373_0
         replace hx373_1 := (HB.out.cell (World.block_lt_of_cell? w _ hx373_1)).trans hx373_1
         replace p373 := eq_true p373
         replace q373 := eq_true q373
         have hcz45_0 : wr.cell? ⟨gb345, 0, none⟩ = some (.int .i64 a1_0) := CZ BK345.out 0
         have hcz45_1 : wr.cell? ⟨gb345, 1, none⟩ = some (.int .i64 a1_1) := CZ BK345.out 1
         have hcz45_2 : wr.cell? ⟨gb345, 2, none⟩ = some (.int .i64 a1_2) := CZ BK345.out 2
         have hcz45_3 : wr.cell? ⟨gb345, 3, none⟩ = some (.int .i64 a1_3) := CZ BK345.out 3
         have hcz45_4 : wr.cell? ⟨gb345, 4, none⟩ = some (.int .i64 a1_4) := CZ BK345.out 4
         have hcz45_5 : wr.cell? ⟨gb345, 5, none⟩ = some (.int .i64 a1_5) := CZ BK345.out 5
         have hcz45_6 : wr.cell? ⟨gb345, 6, none⟩ = some (.int .i64 a1_6) := CZ BK345.out 6
         have hcz45_7 : wr.cell? ⟨gb345, 7, none⟩ = some (.int .i64 a1_7) := CZ BK345.out 7
         have hcz45_8 : wr.cell? ⟨gb345, 8, none⟩ = some (.int .i64 a1_8) := CZ BK345.out 8
         have hcz45_9 : wr.cell? ⟨gb345, 9, none⟩ = some (.bool a1_9) := CZ BK345.out 9
         have hcz45_10 : wr.cell? ⟨gb345, 10, none⟩ = some (.int .i64 a1_10) := CZ BK345.out 10
         have hfz45_0 := blk_frozen BK345.out 0
         have hfz45_1 := blk_frozen BK345.out 1
         have hfz45_2 := blk_frozen BK345.out 2
         have hfz45_3 := blk_frozen BK345.out 3
         have hfz45_4 := blk_frozen BK345.out 4
         have hfz45_5 := blk_frozen BK345.out 5
         have hfz45_6 := blk_frozen BK345.out 6
         have hfz45_7 := blk_frozen BK345.out 7
         have hfz45_8 := blk_frozen BK345.out 8
         have hfz45_9 := blk_frozen BK345.out 9
         have hfz45_10 := blk_frozen BK345.out 10
         have p374 : 0 ≤ (x11_4 : Int) := of_decide_eq_true AS
         have q374 : x11_4 < (l0.length : Int) := of_decide_eq_true AS
         obtain ⟨ad374, e374, hx374_0, hx374_1⟩ := at_T61 HR0.out x11_4 p374 q374
         obtain rfl : ad373 = ad374 := (by injection e374)
         replace hx374_0 := (HB.out.cell (World.block_lt_of_cell? w _ hx374_0)).trans hx374_0
         replace hx374_1 := (HB.out.cell (World.block_lt_of_cell? w _ hx374_1)).trans hx374_1
         replace p374 := eq_true p374
         replace q374 := eq_true q374
         go_wp2_with (first | ((with_reducible refine gate_builtin (b := .append) (xs := #[.tmp 116, .tmp 121]) rfl ?_); at_builtin; refine Kd.R_append k61 (w0 := w) w.heap.size rfl (.tmp 116) (.tmp 121) 58 61 (.agg #[(.int .i64 0), (.int .i64 0)]) 16 rfl Try.underlying58 info61 rfl (by decide) (by omega) u6 x6_4 (⟨(rd_T61 l0 x11_4).f0, (rd_T61 l0 x11_4).f1⟩ : S61) [.int .i64 ((rd_T61 l0 x11_4).f0), .int .i64 ((rd_T61 l0 x11_4).f1)] (fun _ => True) (fun _ => False) rfl rfl ?aP (fun _ hk => hk.elim) ?aF ?aO ?aB ?aS ?aL ?_; (case aP => exact k61_mkM _ _ _ (⟨(rd_T61 l0 x11_4).f0, (rd_T61 l0 x11_4).f1⟩ : S61)); (case aB => exact (BL)); (case aF => exact (fun _ _ => trivial)); (case aO => exact (RQ HO_6.out)); (case aS => exact (below_size (BL))); (case aL => have := LMc44.out; omega); intro v376 w46 ho hb hg hat; rw [← Ny375.out] at ho; have n0_ := Aside0.mk (blk_grown (g := gb345) (o := .cells #[.int .i64 a1_0, .int .i64 a1_1, .int .i64 a1_2, .int .i64 a1_3, .int .i64 a1_4, .int .i64 a1_5, .int .i64 a1_6, .int .i64 a1_7, .int .i64 a1_8, .bool a1_9, .int .i64 a1_10] 46 (0, 0)) (BQ BK345.out) hg (Kd.R_ne HO_6.out BK345.out (by decide))); have n1_ := Aside0.mk (hb); have n2_ := Aside0.mk (ho); clear BK345; clear HB; clear HO_6; have BK345 := n0_; have HB := n1_; have HO377 := n2_; clear n0_ n1_ n2_; clear ho hb hg hat))
         repeat (go_quiet (first | ((with_reducible refine gate_builtin (b := .append) (xs := #[.tmp 116, .tmp 121]) rfl ?_); at_builtin; refine Kd.R_append k61 (w0 := w) w.heap.size rfl (.tmp 116) (.tmp 121) 58 61 (.agg #[(.int .i64 0), (.int .i64 0)]) 16 rfl Try.underlying58 info61 rfl (by decide) (by omega) u6 x6_4 (⟨(rd_T61 l0 x11_4).f0, (rd_T61 l0 x11_4).f1⟩ : S61) [.int .i64 ((rd_T61 l0 x11_4).f0), .int .i64 ((rd_T61 l0 x11_4).f1)] (fun _ => True) (fun _ => False) rfl rfl ?aP (fun _ hk => hk.elim) ?aF ?aO ?aB ?aS ?aL ?_; (case aP => exact k61_mkM _ _ _ (⟨(rd_T61 l0 x11_4).f0, (rd_T61 l0 x11_4).f1⟩ : S61)); (case aB => exact (BL)); (case aF => exact (fun _ _ => trivial)); (case aO => exact (RQ HO_6.out)); (case aS => exact (below_size (BL))); (case aL => have := LMc44.out; omega); intro v376 w46 ho hb hg hat; rw [← Ny375.out] at ho; have n0_ := Aside0.mk (blk_grown (g := gb345) (o := .cells #[.int .i64 a1_0, .int .i64 a1_1, .int .i64 a1_2, .int .i64 a1_3, .int .i64 a1_4, .int .i64 a1_5, .int .i64 a1_6, .int .i64 a1_7, .int .i64 a1_8, .bool a1_9, .int .i64 a1_10] 46 (0, 0)) (BQ BK345.out) hg (Kd.R_ne HO_6.out BK345.out (by decide))); have n1_ := Aside0.mk (hb); have n2_ := Aside0.mk (ho); clear BK345; clear HB; clear HO_6; have BK345 := n0_; have HB := n1_; have HO377 := n2_; clear n0_ n1_ n2_; clear ho hb hg hat)); try go_wp2_with (first | ((with_reducible refine gate_builtin (b := .append) (xs := #[.tmp 116, .tmp 121]) rfl ?_); at_builtin; refine Kd.R_append k61 (w0 := w) w.heap.size rfl (.tmp 116) (.tmp 121) 58 61 (.agg #[(.int .i64 0), (.int .i64 0)]) 16 rfl Try.underlying58 info61 rfl (by decide) (by omega) u6 x6_4 (⟨(rd_T61 l0 x11_4).f0, (rd_T61 l0 x11_4).f1⟩ : S61) [.int .i64 ((rd_T61 l0 x11_4).f0), .int .i64 ((rd_T61 l0 x11_4).f1)] (fun _ => True) (fun _ => False) rfl rfl ?aP (fun _ hk => hk.elim) ?aF ?aO ?aB ?aS ?aL ?_; (case aP => exact k61_mkM _ _ _ (⟨(rd_T61 l0 x11_4).f0, (rd_T61 l0 x11_4).f1⟩ : S61)); (case aB => exact (BL)); (case aF => exact (fun _ _ => trivial)); (case aO => exact (RQ HO_6.out)); (case aS => exact (below_size (BL))); (case aL => have := LMc44.out; omega); intro v376 w46 ho hb hg hat; rw [← Ny375.out] at ho; have n0_ := Aside0.mk (blk_grown (g := gb345) (o := .cells #[.int .i64 a1_0, .int .i64 a1_1, .int .i64 a1_2, .int .i64 a1_3, .int .i64 a1_4, .int .i64 a1_5, .int .i64 a1_6, .int .i64 a1_7, .int .i64 a1_8, .bool a1_9, .int .i64 a1_10] 46 (0, 0)) (BQ BK345.out) hg (Kd.R_ne HO_6.out BK345.out (by decide))); have n1_ := Aside0.mk (hb); have n2_ := Aside0.mk (ho); clear BK345; clear HB; clear HO_6; have BK345 := n0_; have HB := n1_; have HO377 := n2_; clear n0_ n1_ n2_; clear ho hb hg hat)))
         go_roundg k4
         case measure => have := HK1.out; have := HK2.out; have := HK3.out; have := HK4.out; omega
         case rel => exact ⟨(y375), (wrap64 (x11_4 + 1)), SD, H', ⟨by have := HK1.out; have := HK2.out; have := HK3.out; have := HK4.out; omega⟩, ⟨RQ HO377.out⟩, ⟨BQ BK345.out⟩, ⟨BL⟩⟩

end Go.Proofs.Ytjmggbhgmenmcaa.Qal
