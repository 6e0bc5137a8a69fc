-- Laid by myprint.py, a program of this session's own, over the kit's print. Not trusted: Lean checks it.
import Derived.Test.YtfkhncoiifojnaaQdsx0
import Derived.Test.YtfkhncoiifojnaaQdsx2
namespace Go.Proofs.Ytfkhncoiifojnaa.Qds
open Go.RowKit Go.Proofs.YtfkhncoiifojnaaW.PrintWords Go.Proofs.YtfkhncoiifojnaaW.PrintLast Go.Proofs.YtfkhncoiifojnaaW.PrintMore
attribute [local go_sem] Go.Proofs.Ytfkhncoiifojnaa.StrCmp.gtr_less Go.Proofs.Ytfkhncoiifojnaa.StrCmp.geq_less Go.Proofs.Ytfkhncoiifojnaa.StrCmp.leq_less max2_int min2_int max_two min_two max_three min_three max_four min_four   -- for this text's walks alone
set_option linter.unusedVariables false
set_option linter.unusedSimpArgs false

/-! ### spec_DoTask: function 11 -/
mutual
def spec_DoTask.l0 : Nat → List (S71) → List (S71) → Int → Int → Int → Int → Int → Int → Int → Int → Int → Int → Int → Bool → Int → Option ((List (S71)) × Int)
 | 0, _, _, _, _, _, _, _, _, _, _, _, _, _, _, _ => none
 | k + 1, x0, x6, x7, x8, x102000, x102001, x102002, x102003, x102004, x102005, x102006, x102007, x102008, x102009, x102010 => if x8 < (x0.length : Int) then (if 0 ≤ x8 then (if ((rd_T71 x0 x8).f0) = x102001 then (if x7 = 0 then (spec_DoTask.l0 k x0 x6 (wrap64 (((rd_T71 x0 x8).f1) + 1)) (wrap64 (x8 + 1)) x102000 x102001 x102002 x102003 x102004 x102005 x102006 x102007 x102008 x102009 x102010) else (spec_DoTask.l0 k x0 x6 x7 (wrap64 (x8 + 1)) x102000 x102001 x102002 x102003 x102004 x102005 x102006 x102007 x102008 x102009 x102010)) else (spec_DoTask.l0 k x0 x6 x7 (wrap64 (x8 + 1)) x102000 x102001 x102002 x102003 x102004 x102005 x102006 x102007 x102008 x102009 x102010)) else (none)) else (if x102000 = 1 then (if x6.length + x0.length < 8796093022208 then (some ((x6 ++ x0), x7)) else (none)) else (if x102000 = 2 then (spec_DoTask.l1 k x0 x6 0 x102000 x102001 x102002 x102003 x102004 x102005 x102006 x102007 x102008 x102009 x102010) else (spec_DoTask.l4 k x0 x6 0 0 x102000 x102001 x102002 x102003 x102004 x102005 x102006 x102007 x102008 x102009 x102010)))
def spec_DoTask.l1 : Nat → List (S71) → List (S71) → Int → Int → Int → Int → Int → Int → Int → Int → Int → Int → Bool → Int → Option ((List (S71)) × Int)
 | 0, _, _, _, _, _, _, _, _, _, _, _, _, _, _ => none
 | k + 1, x0, x6, x9, x102000, x102001, x102002, x102003, x102004, x102005, x102006, x102007, x102008, x102009, x102010 => if x9 < (x0.length : Int) then (if 0 ≤ x9 then (if ((rd_T71 x0 x9).f0) = x102001 then ((some (([] : List (S71)) : List (S71))).bind fun y115 => (if y115.length + x0.length < 8796093022208 then (some ((y115 ++ x0), 0)) else (none))) else (spec_DoTask.l1 k x0 x6 (wrap64 (x9 + 1)) x102000 x102001 x102002 x102003 x102004 x102005 x102006 x102007 x102008 x102009 x102010)) else (none)) else (spec_DoTask.l2 k x0 x6 0 x102000 x102001 x102002 x102003 x102004 x102005 x102006 x102007 x102008 x102009 x102010)
def spec_DoTask.l2 : Nat → List (S71) → List (S71) → Int → Int → Int → Int → Int → Int → Int → Int → Int → Int → Bool → Int → Option ((List (S71)) × Int)
 | 0, _, _, _, _, _, _, _, _, _, _, _, _, _, _ => none
 | k + 1, x0, x6, x10, x102000, x102001, x102002, x102003, x102004, x102005, x102006, x102007, x102008, x102009, x102010 => if x10 < (x0.length : Int) then (if 0 ≤ x10 then (if ((rd_T71 x0 x10).f0) < x102001 then (if x6.length < 8796093022208 then (spec_DoTask.l2 k x0 (x6 ++ [(⟨(rd_T71 x0 x10).f0, (rd_T71 x0 x10).f1⟩ : S71)]) (wrap64 (x10 + 1)) x102000 x102001 x102002 x102003 x102004 x102005 x102006 x102007 x102008 x102009 x102010) else (none)) else (spec_DoTask.l2 k x0 x6 (wrap64 (x10 + 1)) x102000 x102001 x102002 x102003 x102004 x102005 x102006 x102007 x102008 x102009 x102010)) else (none)) else (if x6.length < 8796093022208 then (spec_DoTask.l3 k x0 (x6 ++ [(⟨x102001, x102002⟩ : S71)]) 0 x102000 x102001 x102002 x102003 x102004 x102005 x102006 x102007 x102008 x102009 x102010) else (none))
def spec_DoTask.l3 : Nat → List (S71) → List (S71) → Int → Int → Int → Int → Int → Int → Int → Int → Int → Int → Bool → Int → Option ((List (S71)) × Int)
 | 0, _, _, _, _, _, _, _, _, _, _, _, _, _, _ => none
 | k + 1, x0, x6, x11, x102000, x102001, x102002, x102003, x102004, x102005, x102006, x102007, x102008, x102009, x102010 => if x11 < (x0.length : Int) then (if 0 ≤ x11 then (if ((rd_T71 x0 x11).f0) > x102001 then (if x6.length < 8796093022208 then (spec_DoTask.l3 k x0 (x6 ++ [(⟨(rd_T71 x0 x11).f0, (rd_T71 x0 x11).f1⟩ : S71)]) (wrap64 (x11 + 1)) x102000 x102001 x102002 x102003 x102004 x102005 x102006 x102007 x102008 x102009 x102010) else (none)) else (spec_DoTask.l3 k x0 x6 (wrap64 (x11 + 1)) x102000 x102001 x102002 x102003 x102004 x102005 x102006 x102007 x102008 x102009 x102010)) else (none)) else (some (x6, 1))
def spec_DoTask.l4 : Nat → List (S71) → List (S71) → Int → Int → Int → Int → Int → Int → Int → Int → Int → Int → Int → Bool → Int → Option ((List (S71)) × Int)
 | 0, _, _, _, _, _, _, _, _, _, _, _, _, _, _, _ => none
 | k + 1, x0, x6, x12, x13, x102000, x102001, x102002, x102003, x102004, x102005, x102006, x102007, x102008, x102009, x102010 => if x13 < (x0.length : Int) then (if 0 ≤ x13 then (if ((rd_T71 x0 x13).f0) = x102001 then (spec_DoTask.l4 k x0 x6 1 (wrap64 (x13 + 1)) x102000 x102001 x102002 x102003 x102004 x102005 x102006 x102007 x102008 x102009 x102010) else (if x6.length < 8796093022208 then (spec_DoTask.l4 k x0 (x6 ++ [(⟨(rd_T71 x0 x13).f0, (rd_T71 x0 x13).f1⟩ : S71)]) x12 (wrap64 (x13 + 1)) x102000 x102001 x102002 x102003 x102004 x102005 x102006 x102007 x102008 x102009 x102010) else (none))) else (none)) else (some (x6, x12))
end
def spec_DoTask.f (k : Nat) (l0 : List (S71)) (a1_0 : Int) (a1_1 : Int) (a1_2 : Int) (a1_3 : Int) (a1_4 : Int) (a1_5 : Int) (a1_6 : Int) (a1_7 : Int) (a1_8 : Int) (a1_9 : Bool) (a1_10 : Int) : Option ((List (S71)) × Int) := (some (([] : List (S71)) : List (S71))).bind fun y102 => ((spec_l01In.f a1_0 1 3).bind fun t105 => (if t105 = true then (spec_DoTask.l0 k l0 y102 0 0 a1_0 a1_1 a1_2 a1_3 a1_4 a1_5 a1_6 a1_7 a1_8 a1_9 a1_10) else (if y102.length + l0.length < 8796093022208 then (some ((y102 ++ l0), 0)) else (none))))
theorem spec_DoTask.mono_l : ∀ k, (∀ y0 y1 y2 y3 y4 y5 y6 y7 y8 y9 y10 y11 y12 y13 y14, LeO (spec_DoTask.l0 k y0 y1 y2 y3 y4 y5 y6 y7 y8 y9 y10 y11 y12 y13 y14) (spec_DoTask.l0 (k + 1) y0 y1 y2 y3 y4 y5 y6 y7 y8 y9 y10 y11 y12 y13 y14)) ∧ (∀ y0 y1 y2 y3 y4 y5 y6 y7 y8 y9 y10 y11 y12 y13, LeO (spec_DoTask.l1 k y0 y1 y2 y3 y4 y5 y6 y7 y8 y9 y10 y11 y12 y13) (spec_DoTask.l1 (k + 1) y0 y1 y2 y3 y4 y5 y6 y7 y8 y9 y10 y11 y12 y13)) ∧ (∀ y0 y1 y2 y3 y4 y5 y6 y7 y8 y9 y10 y11 y12 y13, LeO (spec_DoTask.l2 k y0 y1 y2 y3 y4 y5 y6 y7 y8 y9 y10 y11 y12 y13) (spec_DoTask.l2 (k + 1) y0 y1 y2 y3 y4 y5 y6 y7 y8 y9 y10 y11 y12 y13)) ∧ (∀ y0 y1 y2 y3 y4 y5 y6 y7 y8 y9 y10 y11 y12 y13, LeO (spec_DoTask.l3 k y0 y1 y2 y3 y4 y5 y6 y7 y8 y9 y10 y11 y12 y13) (spec_DoTask.l3 (k + 1) y0 y1 y2 y3 y4 y5 y6 y7 y8 y9 y10 y11 y12 y13)) ∧ (∀ y0 y1 y2 y3 y4 y5 y6 y7 y8 y9 y10 y11 y12 y13 y14, LeO (spec_DoTask.l4 k y0 y1 y2 y3 y4 y5 y6 y7 y8 y9 y10 y11 y12 y13 y14) (spec_DoTask.l4 (k + 1) y0 y1 y2 y3 y4 y5 y6 y7 y8 y9 y10 y11 y12 y13 y14))
 | 0 => ⟨fun _ _ _ _ _ _ _ _ _ _ _ _ _ _ _ r h => by simp [spec_DoTask.l0] at h, fun _ _ _ _ _ _ _ _ _ _ _ _ _ _ r h => by simp [spec_DoTask.l1] at h, fun _ _ _ _ _ _ _ _ _ _ _ _ _ _ r h => by simp [spec_DoTask.l2] at h, fun _ _ _ _ _ _ _ _ _ _ _ _ _ _ r h => by simp [spec_DoTask.l3] at h, fun _ _ _ _ _ _ _ _ _ _ _ _ _ _ _ r h => by simp [spec_DoTask.l4] at h⟩
 | k + 1 => by
  obtain ⟨ih0, ih1, ih2, ih3, ih4⟩ := spec_DoTask.mono_l k
  refine ⟨?_, ?_, ?_, ?_, ?_⟩
  ·
   intro y0 y1 y2 y3 y4 y5 y6 y7 y8 y9 y10 y11 y12 y13 y14
   unfold spec_DoTask.l0
   repeat' first
   | (with_reducible exact ih0 _ _ _ _ _ _ _ _ _ _ _ _ _ _ _)
   | (with_reducible exact ih1 _ _ _ _ _ _ _ _ _ _ _ _ _ _)
   | (with_reducible exact ih2 _ _ _ _ _ _ _ _ _ _ _ _ _ _)
   | (with_reducible exact ih3 _ _ _ _ _ _ _ _ _ _ _ _ _ _)
   | (with_reducible exact ih4 _ _ _ _ _ _ _ _ _ _ _ _ _ _ _)
   | (with_reducible exact LeO.refl _)
   | (with_reducible exact LeO.none _)
   | (with_reducible refine LeO.ite ?_ ?_)
   | (with_reducible refine LeO.bind ?_ (fun _ => ?_))
   | exact ih0 _ _ _ _ _ _ _ _ _ _ _ _ _ _ _
   | exact ih1 _ _ _ _ _ _ _ _ _ _ _ _ _ _
   | exact ih2 _ _ _ _ _ _ _ _ _ _ _ _ _ _
   | exact ih3 _ _ _ _ _ _ _ _ _ _ _ _ _ _
   | exact ih4 _ _ _ _ _ _ _ _ _ _ _ _ _ _ _
   | exact LeO.none _
   | refine LeO.ite ?_ ?_
   | refine LeO.bind ?_ (fun _ => ?_)
  ·
   intro y0 y1 y2 y3 y4 y5 y6 y7 y8 y9 y10 y11 y12 y13
   unfold spec_DoTask.l1
   repeat' first
   | (with_reducible exact ih0 _ _ _ _ _ _ _ _ _ _ _ _ _ _ _)
   | (with_reducible exact ih1 _ _ _ _ _ _ _ _ _ _ _ _ _ _)
   | (with_reducible exact ih2 _ _ _ _ _ _ _ _ _ _ _ _ _ _)
   | (with_reducible exact ih3 _ _ _ _ _ _ _ _ _ _ _ _ _ _)
   | (with_reducible exact ih4 _ _ _ _ _ _ _ _ _ _ _ _ _ _ _)
   | (with_reducible exact LeO.refl _)
   | (with_reducible exact LeO.none _)
   | (with_reducible refine LeO.ite ?_ ?_)
   | (with_reducible refine LeO.bind ?_ (fun _ => ?_))
   | exact ih0 _ _ _ _ _ _ _ _ _ _ _ _ _ _ _
   | exact ih1 _ _ _ _ _ _ _ _ _ _ _ _ _ _
   | exact ih2 _ _ _ _ _ _ _ _ _ _ _ _ _ _
   | exact ih3 _ _ _ _ _ _ _ _ _ _ _ _ _ _
   | exact ih4 _ _ _ _ _ _ _ _ _ _ _ _ _ _ _
   | exact LeO.none _
   | refine LeO.ite ?_ ?_
   | refine LeO.bind ?_ (fun _ => ?_)
  ·
   intro y0 y1 y2 y3 y4 y5 y6 y7 y8 y9 y10 y11 y12 y13
   unfold spec_DoTask.l2
   repeat' first
   | (with_reducible exact ih0 _ _ _ _ _ _ _ _ _ _ _ _ _ _ _)
   | (with_reducible exact ih1 _ _ _ _ _ _ _ _ _ _ _ _ _ _)
   | (with_reducible exact ih2 _ _ _ _ _ _ _ _ _ _ _ _ _ _)
   | (with_reducible exact ih3 _ _ _ _ _ _ _ _ _ _ _ _ _ _)
   | (with_reducible exact ih4 _ _ _ _ _ _ _ _ _ _ _ _ _ _ _)
   | (with_reducible exact LeO.refl _)
   | (with_reducible exact LeO.none _)
   | (with_reducible refine LeO.ite ?_ ?_)
   | (with_reducible refine LeO.bind ?_ (fun _ => ?_))
   | exact ih0 _ _ _ _ _ _ _ _ _ _ _ _ _ _ _
   | exact ih1 _ _ _ _ _ _ _ _ _ _ _ _ _ _
   | exact ih2 _ _ _ _ _ _ _ _ _ _ _ _ _ _
   | exact ih3 _ _ _ _ _ _ _ _ _ _ _ _ _ _
   | exact ih4 _ _ _ _ _ _ _ _ _ _ _ _ _ _ _
   | exact LeO.none _
   | refine LeO.ite ?_ ?_
   | refine LeO.bind ?_ (fun _ => ?_)
  ·
   intro y0 y1 y2 y3 y4 y5 y6 y7 y8 y9 y10 y11 y12 y13
   unfold spec_DoTask.l3
   repeat' first
   | (with_reducible exact ih0 _ _ _ _ _ _ _ _ _ _ _ _ _ _ _)
   | (with_reducible exact ih1 _ _ _ _ _ _ _ _ _ _ _ _ _ _)
   | (with_reducible exact ih2 _ _ _ _ _ _ _ _ _ _ _ _ _ _)
   | (with_reducible exact ih3 _ _ _ _ _ _ _ _ _ _ _ _ _ _)
   | (with_reducible exact ih4 _ _ _ _ _ _ _ _ _ _ _ _ _ _ _)
   | (with_reducible exact LeO.refl _)
   | (with_reducible exact LeO.none _)
   | (with_reducible refine LeO.ite ?_ ?_)
   | (with_reducible refine LeO.bind ?_ (fun _ => ?_))
   | exact ih0 _ _ _ _ _ _ _ _ _ _ _ _ _ _ _
   | exact ih1 _ _ _ _ _ _ _ _ _ _ _ _ _ _
   | exact ih2 _ _ _ _ _ _ _ _ _ _ _ _ _ _
   | exact ih3 _ _ _ _ _ _ _ _ _ _ _ _ _ _
   | exact ih4 _ _ _ _ _ _ _ _ _ _ _ _ _ _ _
   | exact LeO.none _
   | refine LeO.ite ?_ ?_
   | refine LeO.bind ?_ (fun _ => ?_)
  ·
   intro y0 y1 y2 y3 y4 y5 y6 y7 y8 y9 y10 y11 y12 y13 y14
   unfold spec_DoTask.l4
   repeat' first
   | (with_reducible exact ih0 _ _ _ _ _ _ _ _ _ _ _ _ _ _ _)
   | (with_reducible exact ih1 _ _ _ _ _ _ _ _ _ _ _ _ _ _)
   | (with_reducible exact ih2 _ _ _ _ _ _ _ _ _ _ _ _ _ _)
   | (with_reducible exact ih3 _ _ _ _ _ _ _ _ _ _ _ _ _ _)
   | (with_reducible exact ih4 _ _ _ _ _ _ _ _ _ _ _ _ _ _ _)
   | (with_reducible exact LeO.refl _)
   | (with_reducible exact LeO.none _)
   | (with_reducible refine LeO.ite ?_ ?_)
   | (with_reducible refine LeO.bind ?_ (fun _ => ?_))
   | exact ih0 _ _ _ _ _ _ _ _ _ _ _ _ _ _ _
   | exact ih1 _ _ _ _ _ _ _ _ _ _ _ _ _ _
   | exact ih2 _ _ _ _ _ _ _ _ _ _ _ _ _ _
   | exact ih3 _ _ _ _ _ _ _ _ _ _ _ _ _ _
   | exact ih4 _ _ _ _ _ _ _ _ _ _ _ _ _ _ _
   | exact LeO.none _
   | refine LeO.ite ?_ ?_
   | refine LeO.bind ?_ (fun _ => ?_)
theorem spec_DoTask.mono : ∀ a0 a1 a2 a3 a4 a5 a6 a7 a8 a9 a10 a11 k, LeO (spec_DoTask.f k a0 a1 a2 a3 a4 a5 a6 a7 a8 a9 a10 a11) (spec_DoTask.f (k + 1) a0 a1 a2 a3 a4 a5 a6 a7 a8 a9 a10 a11) := by
 intro a0 a1 a2 a3 a4 a5 a6 a7 a8 a9 a10 a11 k
 obtain ⟨ih0, ih1, ih2, ih3, ih4⟩ := spec_DoTask.mono_l k
 unfold spec_DoTask.f
 repeat' first
   | (with_reducible exact ih0 _ _ _ _ _ _ _ _ _ _ _ _ _ _ _)
   | (with_reducible exact ih1 _ _ _ _ _ _ _ _ _ _ _ _ _ _)
   | (with_reducible exact ih2 _ _ _ _ _ _ _ _ _ _ _ _ _ _)
   | (with_reducible exact ih3 _ _ _ _ _ _ _ _ _ _ _ _ _ _)
   | (with_reducible exact ih4 _ _ _ _ _ _ _ _ _ _ _ _ _ _ _)
   | (with_reducible exact LeO.refl _)
   | (with_reducible exact LeO.none _)
   | (with_reducible refine LeO.ite ?_ ?_)
   | (with_reducible refine LeO.bind ?_ (fun _ => ?_))
   | exact ih0 _ _ _ _ _ _ _ _ _ _ _ _ _ _ _
   | exact ih1 _ _ _ _ _ _ _ _ _ _ _ _ _ _
   | exact ih2 _ _ _ _ _ _ _ _ _ _ _ _ _ _
   | exact ih3 _ _ _ _ _ _ _ _ _ _ _ _ _ _
   | exact ih4 _ _ _ _ _ _ _ _ _ _ _ _ _ _ _
   | exact LeO.none _
   | refine LeO.ite ?_ ?_
   | refine LeO.bind ?_ (fun _ => ?_)
set_option maxHeartbeats 8000000 in
set_option maxRecDepth 100000 in
theorem spec_DoTask.calls (k : Nat) (A0 : Option Addr) (c0 : Nat) (l0 : List (S71)) (a1_0 : Int) (a1_1 : Int) (a1_2 : Int) (a1_3 : Int) (a1_4 : Int) (a1_5 : Int) (a1_6 : Int) (a1_7 : Int) (a1_8 : Int) (a1_9 : Bool) (a1_10 : Int) (r1 : List (S71)) (r2 : Int) (w : World) (hr0 : Kd.C k71 w A0 l0.length l0) (hc0 : l0.length ≤ c0) (h : spec_DoTask.f k l0 a1_0 a1_1 a1_2 a1_3 a1_4 a1_5 a1_6 a1_7 a1_8 a1_9 a1_10 = some (r1, r2)) :
  Calls Try.prog 11 #[.slice A0 l0.length c0, .agg #[.int .i64 a1_0, .int .i64 a1_1, .int .i64 a1_2, .int .i64 a1_3, .int .i64 a1_4, .int .i64 a1_5, .int .i64 a1_6, .int .i64 a1_7, .int .i64 a1_8, .bool a1_9, .int .i64 a1_10]] w fun e w' => ∃ v0_ : Value, e = .returned (.tuple #[v0_, .int .i64 r2]) ∧ Kd.R k71 71 w' w.heap.size (fun _ => True) v0_ r1 ∧ Below w.heap.size w w' := by
 have hu30 := Try.underlying30
 have hu71 := Try.underlying71
 have HR0 := Aside0.mk hr0
 have HC0 := Aside0.mk hc0
 clear hr0 hc0
 have HB := Aside0.mk (Below.refl w.heap.size w)
 have H : ((some (([] : List (S71)) : List (S71))).bind fun y102 => ((spec_l01In.f a1_0 1 3).bind fun t105 => (if t105 = true then (spec_DoTask.l0 k l0 y102 0 0 a1_0 a1_1 a1_2 a1_3 a1_4 a1_5 a1_6 a1_7 a1_8 a1_9 a1_10) else (if y102.length + l0.length < 8796093022208 then (some ((y102 ++ l0), 0)) else (none))))) = some (r1, r2) := h
 clear h
 obtain ⟨y102, hy102⟩ : ∃ y_ : List (S71), y_ = (([] : List (S71))) := ⟨_, rfl⟩
 replace H : ((spec_l01In.f a1_0 1 3).bind fun t105 => (if t105 = true then (spec_DoTask.l0 k l0 y102 0 0 a1_0 a1_1 a1_2 a1_3 a1_4 a1_5 a1_6 a1_7 a1_8 a1_9 a1_10) else (if y102.length + l0.length < 8796093022208 then (some ((y102 ++ l0), 0)) else (none)))) = some (r1, r2) := by first | (rw [hy102]; with_reducible exact H) | (have H2_ := (Option.bind_some _ _).symm.trans H; rw [hy102]; with_reducible exact H2_) | (have H2_ := (Option.bind_some _ _).symm.trans H; with_reducible exact H2_) | with_reducible exact H | (rw [hy102]; exact H) | exact H
 have Ny102 := Aside0.mk hy102
 clear hy102
 replace H := Option.bind_eq_some_iff.mp H
 obtain ⟨t105, A30, H⟩ := H
 replace H : (if t105 = true then (spec_DoTask.l0 k l0 y102 0 0 a1_0 a1_1 a1_2 a1_3 a1_4 a1_5 a1_6 a1_7 a1_8 a1_9 a1_10) else (if y102.length + l0.length < 8796093022208 then (some ((y102 ++ l0), 0)) else (none))) = some (r1, r2) := H
 have A3 := Aside0.mk A30
 clear A30
 by_cases c4 : t105 = true; rotate_left
 ·
  replace c4 := Bool.eq_false_iff.mpr c4
  subst c4
  have H1 : (if y102.length + l0.length < 8796093022208 then (some ((y102 ++ l0), 0)) else (none)) = some (r1, r2) := by rw [if_neg (show ¬ (false = true) by decide)] at H; exact H
  clear H
  have H := H1
  clear H1
  by_cases c56 : y102.length + l0.length < 8796093022208; rotate_left
  ·
   rw [if_neg c56] at H
   exact absurd H (by simp)
  rw [if_pos c56] at H
  have LMc56 := Aside0.mk c56
  clear c56
  obtain ⟨y106, hy106⟩ : ∃ y_ : List (S71), y_ = (y102 ++ l0) := ⟨_, rfl⟩
  replace H : (some (y106, 0)) = some (r1, r2) := by first | (rw [hy106]; with_reducible exact H) | (have H2_ := (Option.bind_some _ _).symm.trans H; rw [hy106]; with_reducible exact H2_) | (have H2_ := (Option.bind_some _ _).symm.trans H; with_reducible exact H2_) | with_reducible exact H | (rw [hy106]; exact H) | exact H
  have Ny106 := Aside0.mk hy106
  clear hy106
  simp only [Option.some.injEq, Prod.mk.injEq] at H
  obtain ⟨rfl, rfl⟩ := H
  go_enter Try.func11, Try.ntmps11
  go_wp2_with (first | ((with_reducible refine gate_dst (N := 3) rfl ?_); refine bE 3 #[.int .i64 a1_0, .int .i64 a1_1, .int .i64 a1_2, .int .i64 a1_3, .int .i64 a1_4, .int .i64 a1_5, .int .i64 a1_6, .int .i64 a1_7, .int .i64 a1_8, .bool a1_9, .int .i64 a1_10] 30 ?_; intro gb101 hg w57 hbox hb; have BK101 := Aside0.mk (hbox); have GW101 : Aside0 (w.heap.size ≤ gb101) := GS; have GE101 : Aside0 (w.heap.size ≤ gb101) := GS; replace HB := Aside0.mk (below_step (BL) hb); clear hb hbox hg) | ((with_reducible refine gate_dst (N := 14) rfl ?_); refine Kd.R_lit k71 _ 71 ?hg (N := 14) ?hd (xs := ([] : List (S71))) (inner := []) (ok := fun _ => True) (okp := fun _ => True) ?hr ?hp (fun _ hk => hk) trivial (Below.refl _ _) (Nat.le_refl _) (by simp) ?_; (case hd => rfl); (case hg => rfl); (case hr => first | (go_simp; done) | (go_simp; rfl)); (case hp => exact (Reps.none _ _)); intro v103 w58 ho59 hb hg_ hnew_; clear hg_ hnew_; (first | rw [← Ny102.out] at ho59 | (simp only [Int.reduceToNat] at ho59; rw [← Ny102.out] at ho59)); have HO104 := Aside0.mk (Kd.R_lower ho59 (below_size (BL))); replace BK101 := BB BK101.out hb; replace HB := Aside0.mk (below_step (BL) hb); clear hb ho59; have hcz60_0 : w58.cell? ⟨gb101, 0, none⟩ = some (.int .i64 a1_0) := CZ BK101.out 0; have hcz60_1 : w58.cell? ⟨gb101, 1, none⟩ = some (.int .i64 a1_1) := CZ BK101.out 1; have hcz60_2 : w58.cell? ⟨gb101, 2, none⟩ = some (.int .i64 a1_2) := CZ BK101.out 2; have hcz60_3 : w58.cell? ⟨gb101, 3, none⟩ = some (.int .i64 a1_3) := CZ BK101.out 3; have hcz60_4 : w58.cell? ⟨gb101, 4, none⟩ = some (.int .i64 a1_4) := CZ BK101.out 4; have hcz60_5 : w58.cell? ⟨gb101, 5, none⟩ = some (.int .i64 a1_5) := CZ BK101.out 5; have hcz60_6 : w58.cell? ⟨gb101, 6, none⟩ = some (.int .i64 a1_6) := CZ BK101.out 6; have hcz60_7 : w58.cell? ⟨gb101, 7, none⟩ = some (.int .i64 a1_7) := CZ BK101.out 7; have hcz60_8 : w58.cell? ⟨gb101, 8, none⟩ = some (.int .i64 a1_8) := CZ BK101.out 8; have hcz60_9 : w58.cell? ⟨gb101, 9, none⟩ = some (.bool a1_9) := CZ BK101.out 9; have hcz60_10 : w58.cell? ⟨gb101, 10, none⟩ = some (.int .i64 a1_10) := CZ BK101.out 10; have hfz60_0 := blk_frozen BK101.out 0; have hfz60_1 := blk_frozen BK101.out 1; have hfz60_2 := blk_frozen BK101.out 2; have hfz60_3 := blk_frozen BK101.out 3; have hfz60_4 := blk_frozen BK101.out 4; have hfz60_5 := blk_frozen BK101.out 5; have hfz60_6 := blk_frozen BK101.out 6; have hfz60_7 := blk_frozen BK101.out 7; have hfz60_8 := blk_frozen BK101.out 8; have hfz60_9 := blk_frozen BK101.out 9; have hfz60_10 := blk_frozen BK101.out 10) | (go_at_call 48; (with_reducible refine (spec_l01In.calls a1_0 1 3 false _ A3.out).mono ?_); rintro e w' ⟨rfl, ⟨nd, rfl⟩⟩; (try first | exact ⟨rfl, _, World.drewN_drewN _ _ _⟩ | exact ⟨rfl, _, Eq.trans (World.drewN_drewN _ _ _) (congrArg (World.drewN _) (Nat.add_assoc _ _ _))⟩)) | ((with_reducible refine gate_builtin (b := .append) (xs := #[.tmp 19, .tmp 20]) rfl ?_); at_builtin; refine Kd.R_append_rows k71 (w0 := w) w.heap.size rfl (.tmp 19) (.tmp 20) 26 71 (.agg #[(.int .i64 0), (.int .i64 0)]) 16 rfl Try.underlying26 info71 rfl (by decide) (by omega) v103 y102 l0 _ _ _ (fun _ => True) (fun _ => False) rfl rfl ?aO ?aR (fun _ _ h => h) (fun _ h => h.elim) ?aF ?aB ?aS ?aL ?_; (case aR => repeat (first | exact (Kd.C_below HR0.out (BL)) | (with_reducible refine Kd.C_alloc ?_ _) | (with_reducible refine Kd.C_drewN ?_ _) | (with_reducible refine Kd.C_drew ?_))); (case aB => exact (BL)); (case aF => exact (fun _ _ => trivial)); (case aO => exact (RQ HO104.out)); (case aS => exact (below_size (BL))); (case aL => have := LMc56.out; omega); intro v107 w61 ho hb hg hat; rw [← Ny106.out] at ho; have n0_ := Aside0.mk (blk_grown (g := gb101) (o := .cells #[.int .i64 a1_0, .int .i64 a1_1, .int .i64 a1_2, .int .i64 a1_3, .int .i64 a1_4, .int .i64 a1_5, .int .i64 a1_6, .int .i64 a1_7, .int .i64 a1_8, .bool a1_9, .int .i64 a1_10] 30 (0, 0)) (BQ BK101.out) hg (Kd.R_ne HO104.out BK101.out (by decide))); have n1_ := Aside0.mk (hb); have n2_ := Aside0.mk (ho); clear BK101; clear HB; clear HO104; have BK101 := n0_; have HB := n1_; have HO108 := n2_; clear n0_ n1_ n2_; clear ho hb hg hat))
  repeat (go_quiet (first | ((with_reducible refine gate_dst (N := 3) rfl ?_); refine bE 3 #[.int .i64 a1_0, .int .i64 a1_1, .int .i64 a1_2, .int .i64 a1_3, .int .i64 a1_4, .int .i64 a1_5, .int .i64 a1_6, .int .i64 a1_7, .int .i64 a1_8, .bool a1_9, .int .i64 a1_10] 30 ?_; intro gb101 hg w57 hbox hb; have BK101 := Aside0.mk (hbox); have GW101 : Aside0 (w.heap.size ≤ gb101) := GS; have GE101 : Aside0 (w.heap.size ≤ gb101) := GS; replace HB := Aside0.mk (below_step (BL) hb); clear hb hbox hg) | ((with_reducible refine gate_dst (N := 14) rfl ?_); refine Kd.R_lit k71 _ 71 ?hg (N := 14) ?hd (xs := ([] : List (S71))) (inner := []) (ok := fun _ => True) (okp := fun _ => True) ?hr ?hp (fun _ hk => hk) trivial (Below.refl _ _) (Nat.le_refl _) (by simp) ?_; (case hd => rfl); (case hg => rfl); (case hr => first | (go_simp; done) | (go_simp; rfl)); (case hp => exact (Reps.none _ _)); intro v103 w58 ho59 hb hg_ hnew_; clear hg_ hnew_; (first | rw [← Ny102.out] at ho59 | (simp only [Int.reduceToNat] at ho59; rw [← Ny102.out] at ho59)); have HO104 := Aside0.mk (Kd.R_lower ho59 (below_size (BL))); replace BK101 := BB BK101.out hb; replace HB := Aside0.mk (below_step (BL) hb); clear hb ho59; have hcz60_0 : w58.cell? ⟨gb101, 0, none⟩ = some (.int .i64 a1_0) := CZ BK101.out 0; have hcz60_1 : w58.cell? ⟨gb101, 1, none⟩ = some (.int .i64 a1_1) := CZ BK101.out 1; have hcz60_2 : w58.cell? ⟨gb101, 2, none⟩ = some (.int .i64 a1_2) := CZ BK101.out 2; have hcz60_3 : w58.cell? ⟨gb101, 3, none⟩ = some (.int .i64 a1_3) := CZ BK101.out 3; have hcz60_4 : w58.cell? ⟨gb101, 4, none⟩ = some (.int .i64 a1_4) := CZ BK101.out 4; have hcz60_5 : w58.cell? ⟨gb101, 5, none⟩ = some (.int .i64 a1_5) := CZ BK101.out 5; have hcz60_6 : w58.cell? ⟨gb101, 6, none⟩ = some (.int .i64 a1_6) := CZ BK101.out 6; have hcz60_7 : w58.cell? ⟨gb101, 7, none⟩ = some (.int .i64 a1_7) := CZ BK101.out 7; have hcz60_8 : w58.cell? ⟨gb101, 8, none⟩ = some (.int .i64 a1_8) := CZ BK101.out 8; have hcz60_9 : w58.cell? ⟨gb101, 9, none⟩ = some (.bool a1_9) := CZ BK101.out 9; have hcz60_10 : w58.cell? ⟨gb101, 10, none⟩ = some (.int .i64 a1_10) := CZ BK101.out 10; have hfz60_0 := blk_frozen BK101.out 0; have hfz60_1 := blk_frozen BK101.out 1; have hfz60_2 := blk_frozen BK101.out 2; have hfz60_3 := blk_frozen BK101.out 3; have hfz60_4 := blk_frozen BK101.out 4; have hfz60_5 := blk_frozen BK101.out 5; have hfz60_6 := blk_frozen BK101.out 6; have hfz60_7 := blk_frozen BK101.out 7; have hfz60_8 := blk_frozen BK101.out 8; have hfz60_9 := blk_frozen BK101.out 9; have hfz60_10 := blk_frozen BK101.out 10) | (go_at_call 48; (with_reducible refine (spec_l01In.calls a1_0 1 3 false _ A3.out).mono ?_); rintro e w' ⟨rfl, ⟨nd, rfl⟩⟩; (try first | exact ⟨rfl, _, World.drewN_drewN _ _ _⟩ | exact ⟨rfl, _, Eq.trans (World.drewN_drewN _ _ _) (congrArg (World.drewN _) (Nat.add_assoc _ _ _))⟩)) | ((with_reducible refine gate_builtin (b := .append) (xs := #[.tmp 19, .tmp 20]) rfl ?_); at_builtin; refine Kd.R_append_rows k71 (w0 := w) w.heap.size rfl (.tmp 19) (.tmp 20) 26 71 (.agg #[(.int .i64 0), (.int .i64 0)]) 16 rfl Try.underlying26 info71 rfl (by decide) (by omega) v103 y102 l0 _ _ _ (fun _ => True) (fun _ => False) rfl rfl ?aO ?aR (fun _ _ h => h) (fun _ h => h.elim) ?aF ?aB ?aS ?aL ?_; (case aR => repeat (first | exact (Kd.C_below HR0.out (BL)) | (with_reducible refine Kd.C_alloc ?_ _) | (with_reducible refine Kd.C_drewN ?_ _) | (with_reducible refine Kd.C_drew ?_))); (case aB => exact (BL)); (case aF => exact (fun _ _ => trivial)); (case aO => exact (RQ HO104.out)); (case aS => exact (below_size (BL))); (case aL => have := LMc56.out; omega); intro v107 w61 ho hb hg hat; rw [← Ny106.out] at ho; have n0_ := Aside0.mk (blk_grown (g := gb101) (o := .cells #[.int .i64 a1_0, .int .i64 a1_1, .int .i64 a1_2, .int .i64 a1_3, .int .i64 a1_4, .int .i64 a1_5, .int .i64 a1_6, .int .i64 a1_7, .int .i64 a1_8, .bool a1_9, .int .i64 a1_10] 30 (0, 0)) (BQ BK101.out) hg (Kd.R_ne HO104.out BK101.out (by decide))); have n1_ := Aside0.mk (hb); have n2_ := Aside0.mk (ho); clear BK101; clear HB; clear HO104; have BK101 := n0_; have HB := n1_; have HO108 := n2_; clear n0_ n1_ n2_; clear ho hb hg hat)); try go_wp2_with (first | ((with_reducible refine gate_dst (N := 3) rfl ?_); refine bE 3 #[.int .i64 a1_0, .int .i64 a1_1, .int .i64 a1_2, .int .i64 a1_3, .int .i64 a1_4, .int .i64 a1_5, .int .i64 a1_6, .int .i64 a1_7, .int .i64 a1_8, .bool a1_9, .int .i64 a1_10] 30 ?_; intro gb101 hg w57 hbox hb; have BK101 := Aside0.mk (hbox); have GW101 : Aside0 (w.heap.size ≤ gb101) := GS; have GE101 : Aside0 (w.heap.size ≤ gb101) := GS; replace HB := Aside0.mk (below_step (BL) hb); clear hb hbox hg) | ((with_reducible refine gate_dst (N := 14) rfl ?_); refine Kd.R_lit k71 _ 71 ?hg (N := 14) ?hd (xs := ([] : List (S71))) (inner := []) (ok := fun _ => True) (okp := fun _ => True) ?hr ?hp (fun _ hk => hk) trivial (Below.refl _ _) (Nat.le_refl _) (by simp) ?_; (case hd => rfl); (case hg => rfl); (case hr => first | (go_simp; done) | (go_simp; rfl)); (case hp => exact (Reps.none _ _)); intro v103 w58 ho59 hb hg_ hnew_; clear hg_ hnew_; (first | rw [← Ny102.out] at ho59 | (simp only [Int.reduceToNat] at ho59; rw [← Ny102.out] at ho59)); have HO104 := Aside0.mk (Kd.R_lower ho59 (below_size (BL))); replace BK101 := BB BK101.out hb; replace HB := Aside0.mk (below_step (BL) hb); clear hb ho59; have hcz60_0 : w58.cell? ⟨gb101, 0, none⟩ = some (.int .i64 a1_0) := CZ BK101.out 0; have hcz60_1 : w58.cell? ⟨gb101, 1, none⟩ = some (.int .i64 a1_1) := CZ BK101.out 1; have hcz60_2 : w58.cell? ⟨gb101, 2, none⟩ = some (.int .i64 a1_2) := CZ BK101.out 2; have hcz60_3 : w58.cell? ⟨gb101, 3, none⟩ = some (.int .i64 a1_3) := CZ BK101.out 3; have hcz60_4 : w58.cell? ⟨gb101, 4, none⟩ = some (.int .i64 a1_4) := CZ BK101.out 4; have hcz60_5 : w58.cell? ⟨gb101, 5, none⟩ = some (.int .i64 a1_5) := CZ BK101.out 5; have hcz60_6 : w58.cell? ⟨gb101, 6, none⟩ = some (.int .i64 a1_6) := CZ BK101.out 6; have hcz60_7 : w58.cell? ⟨gb101, 7, none⟩ = some (.int .i64 a1_7) := CZ BK101.out 7; have hcz60_8 : w58.cell? ⟨gb101, 8, none⟩ = some (.int .i64 a1_8) := CZ BK101.out 8; have hcz60_9 : w58.cell? ⟨gb101, 9, none⟩ = some (.bool a1_9) := CZ BK101.out 9; have hcz60_10 : w58.cell? ⟨gb101, 10, none⟩ = some (.int .i64 a1_10) := CZ BK101.out 10; have hfz60_0 := blk_frozen BK101.out 0; have hfz60_1 := blk_frozen BK101.out 1; have hfz60_2 := blk_frozen BK101.out 2; have hfz60_3 := blk_frozen BK101.out 3; have hfz60_4 := blk_frozen BK101.out 4; have hfz60_5 := blk_frozen BK101.out 5; have hfz60_6 := blk_frozen BK101.out 6; have hfz60_7 := blk_frozen BK101.out 7; have hfz60_8 := blk_frozen BK101.out 8; have hfz60_9 := blk_frozen BK101.out 9; have hfz60_10 := blk_frozen BK101.out 10) | (go_at_call 48; (with_reducible refine (spec_l01In.calls a1_0 1 3 false _ A3.out).mono ?_); rintro e w' ⟨rfl, ⟨nd, rfl⟩⟩; (try first | exact ⟨rfl, _, World.drewN_drewN _ _ _⟩ | exact ⟨rfl, _, Eq.trans (World.drewN_drewN _ _ _) (congrArg (World.drewN _) (Nat.add_assoc _ _ _))⟩)) | ((with_reducible refine gate_builtin (b := .append) (xs := #[.tmp 19, .tmp 20]) rfl ?_); at_builtin; refine Kd.R_append_rows k71 (w0 := w) w.heap.size rfl (.tmp 19) (.tmp 20) 26 71 (.agg #[(.int .i64 0), (.int .i64 0)]) 16 rfl Try.underlying26 info71 rfl (by decide) (by omega) v103 y102 l0 _ _ _ (fun _ => True) (fun _ => False) rfl rfl ?aO ?aR (fun _ _ h => h) (fun _ h => h.elim) ?aF ?aB ?aS ?aL ?_; (case aR => repeat (first | exact (Kd.C_below HR0.out (BL)) | (with_reducible refine Kd.C_alloc ?_ _) | (with_reducible refine Kd.C_drewN ?_ _) | (with_reducible refine Kd.C_drew ?_))); (case aB => exact (BL)); (case aF => exact (fun _ _ => trivial)); (case aO => exact (RQ HO104.out)); (case aS => exact (below_size (BL))); (case aL => have := LMc56.out; omega); intro v107 w61 ho hb hg hat; rw [← Ny106.out] at ho; have n0_ := Aside0.mk (blk_grown (g := gb101) (o := .cells #[.int .i64 a1_0, .int .i64 a1_1, .int .i64 a1_2, .int .i64 a1_3, .int .i64 a1_4, .int .i64 a1_5, .int .i64 a1_6, .int .i64 a1_7, .int .i64 a1_8, .bool a1_9, .int .i64 a1_10] 30 (0, 0)) (BQ BK101.out) hg (Kd.R_ne HO104.out BK101.out (by decide))); have n1_ := Aside0.mk (hb); have n2_ := Aside0.mk (ho); clear BK101; clear HB; clear HO104; have BK101 := n0_; have HB := n1_; have HO108 := n2_; clear n0_ n1_ n2_; clear ho hb hg hat)))
  go_ret2
  exact ⟨_, EE, RQ HO108.out, BL⟩
 subst c4
 have H1 : (spec_DoTask.l0 k l0 y102 0 0 a1_0 a1_1 a1_2 a1_3 a1_4 a1_5 a1_6 a1_7 a1_8 a1_9 a1_10) = some (r1, r2) := by rw [if_pos rfl] at H; exact H
 clear H
 have H := H1
 clear H1
 have H' := Aside0.mk H
 clear H
 go_enter Try.func11, Try.ntmps11
 go_wp2_with (first | ((with_reducible refine gate_dst (N := 3) rfl ?_); refine bE 3 #[.int .i64 a1_0, .int .i64 a1_1, .int .i64 a1_2, .int .i64 a1_3, .int .i64 a1_4, .int .i64 a1_5, .int .i64 a1_6, .int .i64 a1_7, .int .i64 a1_8, .bool a1_9, .int .i64 a1_10] 30 ?_; intro gb101 hg w5 hbox hb; have BK101 := Aside0.mk (hbox); have GW101 : Aside0 (w.heap.size ≤ gb101) := GS; have GE101 : Aside0 (w.heap.size ≤ gb101) := GS; replace HB := Aside0.mk (below_step (BL) hb); clear hb hbox hg) | ((with_reducible refine gate_dst (N := 14) rfl ?_); refine Kd.R_lit k71 _ 71 ?hg (N := 14) ?hd (xs := ([] : List (S71))) (inner := []) (ok := fun _ => True) (okp := fun _ => True) ?hr ?hp (fun _ hk => hk) trivial (Below.refl _ _) (Nat.le_refl _) (by simp) ?_; (case hd => rfl); (case hg => rfl); (case hr => first | (go_simp; done) | (go_simp; rfl)); (case hp => exact (Reps.none _ _)); intro v103 w6 ho7 hb hg_ hnew_; clear hg_ hnew_; (first | rw [← Ny102.out] at ho7 | (simp only [Int.reduceToNat] at ho7; rw [← Ny102.out] at ho7)); have HO104 := Aside0.mk (Kd.R_lower ho7 (below_size (BL))); replace BK101 := BB BK101.out hb; replace HB := Aside0.mk (below_step (BL) hb); clear hb ho7; have hcz8_0 : w6.cell? ⟨gb101, 0, none⟩ = some (.int .i64 a1_0) := CZ BK101.out 0; have hcz8_1 : w6.cell? ⟨gb101, 1, none⟩ = some (.int .i64 a1_1) := CZ BK101.out 1; have hcz8_2 : w6.cell? ⟨gb101, 2, none⟩ = some (.int .i64 a1_2) := CZ BK101.out 2; have hcz8_3 : w6.cell? ⟨gb101, 3, none⟩ = some (.int .i64 a1_3) := CZ BK101.out 3; have hcz8_4 : w6.cell? ⟨gb101, 4, none⟩ = some (.int .i64 a1_4) := CZ BK101.out 4; have hcz8_5 : w6.cell? ⟨gb101, 5, none⟩ = some (.int .i64 a1_5) := CZ BK101.out 5; have hcz8_6 : w6.cell? ⟨gb101, 6, none⟩ = some (.int .i64 a1_6) := CZ BK101.out 6; have hcz8_7 : w6.cell? ⟨gb101, 7, none⟩ = some (.int .i64 a1_7) := CZ BK101.out 7; have hcz8_8 : w6.cell? ⟨gb101, 8, none⟩ = some (.int .i64 a1_8) := CZ BK101.out 8; have hcz8_9 : w6.cell? ⟨gb101, 9, none⟩ = some (.bool a1_9) := CZ BK101.out 9; have hcz8_10 : w6.cell? ⟨gb101, 10, none⟩ = some (.int .i64 a1_10) := CZ BK101.out 10; have hfz8_0 := blk_frozen BK101.out 0; have hfz8_1 := blk_frozen BK101.out 1; have hfz8_2 := blk_frozen BK101.out 2; have hfz8_3 := blk_frozen BK101.out 3; have hfz8_4 := blk_frozen BK101.out 4; have hfz8_5 := blk_frozen BK101.out 5; have hfz8_6 := blk_frozen BK101.out 6; have hfz8_7 := blk_frozen BK101.out 7; have hfz8_8 := blk_frozen BK101.out 8; have hfz8_9 := blk_frozen BK101.out 9; have hfz8_10 := blk_frozen BK101.out 10) | (go_at_call 48; (with_reducible refine (spec_l01In.calls a1_0 1 3 true _ A3.out).mono ?_); rintro e w' ⟨rfl, ⟨nd, rfl⟩⟩; (try first | exact ⟨rfl, _, World.drewN_drewN _ _ _⟩ | exact ⟨rfl, _, Eq.trans (World.drewN_drewN _ _ _) (congrArg (World.drewN _) (Nat.add_assoc _ _ _))⟩)))
 repeat (go_quiet (first | ((with_reducible refine gate_dst (N := 3) rfl ?_); refine bE 3 #[.int .i64 a1_0, .int .i64 a1_1, .int .i64 a1_2, .int .i64 a1_3, .int .i64 a1_4, .int .i64 a1_5, .int .i64 a1_6, .int .i64 a1_7, .int .i64 a1_8, .bool a1_9, .int .i64 a1_10] 30 ?_; intro gb101 hg w5 hbox hb; have BK101 := Aside0.mk (hbox); have GW101 : Aside0 (w.heap.size ≤ gb101) := GS; have GE101 : Aside0 (w.heap.size ≤ gb101) := GS; replace HB := Aside0.mk (below_step (BL) hb); clear hb hbox hg) | ((with_reducible refine gate_dst (N := 14) rfl ?_); refine Kd.R_lit k71 _ 71 ?hg (N := 14) ?hd (xs := ([] : List (S71))) (inner := []) (ok := fun _ => True) (okp := fun _ => True) ?hr ?hp (fun _ hk => hk) trivial (Below.refl _ _) (Nat.le_refl _) (by simp) ?_; (case hd => rfl); (case hg => rfl); (case hr => first | (go_simp; done) | (go_simp; rfl)); (case hp => exact (Reps.none _ _)); intro v103 w6 ho7 hb hg_ hnew_; clear hg_ hnew_; (first | rw [← Ny102.out] at ho7 | (simp only [Int.reduceToNat] at ho7; rw [← Ny102.out] at ho7)); have HO104 := Aside0.mk (Kd.R_lower ho7 (below_size (BL))); replace BK101 := BB BK101.out hb; replace HB := Aside0.mk (below_step (BL) hb); clear hb ho7; have hcz8_0 : w6.cell? ⟨gb101, 0, none⟩ = some (.int .i64 a1_0) := CZ BK101.out 0; have hcz8_1 : w6.cell? ⟨gb101, 1, none⟩ = some (.int .i64 a1_1) := CZ BK101.out 1; have hcz8_2 : w6.cell? ⟨gb101, 2, none⟩ = some (.int .i64 a1_2) := CZ BK101.out 2; have hcz8_3 : w6.cell? ⟨gb101, 3, none⟩ = some (.int .i64 a1_3) := CZ BK101.out 3; have hcz8_4 : w6.cell? ⟨gb101, 4, none⟩ = some (.int .i64 a1_4) := CZ BK101.out 4; have hcz8_5 : w6.cell? ⟨gb101, 5, none⟩ = some (.int .i64 a1_5) := CZ BK101.out 5; have hcz8_6 : w6.cell? ⟨gb101, 6, none⟩ = some (.int .i64 a1_6) := CZ BK101.out 6; have hcz8_7 : w6.cell? ⟨gb101, 7, none⟩ = some (.int .i64 a1_7) := CZ BK101.out 7; have hcz8_8 : w6.cell? ⟨gb101, 8, none⟩ = some (.int .i64 a1_8) := CZ BK101.out 8; have hcz8_9 : w6.cell? ⟨gb101, 9, none⟩ = some (.bool a1_9) := CZ BK101.out 9; have hcz8_10 : w6.cell? ⟨gb101, 10, none⟩ = some (.int .i64 a1_10) := CZ BK101.out 10; have hfz8_0 := blk_frozen BK101.out 0; have hfz8_1 := blk_frozen BK101.out 1; have hfz8_2 := blk_frozen BK101.out 2; have hfz8_3 := blk_frozen BK101.out 3; have hfz8_4 := blk_frozen BK101.out 4; have hfz8_5 := blk_frozen BK101.out 5; have hfz8_6 := blk_frozen BK101.out 6; have hfz8_7 := blk_frozen BK101.out 7; have hfz8_8 := blk_frozen BK101.out 8; have hfz8_9 := blk_frozen BK101.out 9; have hfz8_10 := blk_frozen BK101.out 10) | (go_at_call 48; (with_reducible refine (spec_l01In.calls a1_0 1 3 true _ A3.out).mono ?_); rintro e w' ⟨rfl, ⟨nd, rfl⟩⟩; (try first | exact ⟨rfl, _, World.drewN_drewN _ _ _⟩ | exact ⟨rfl, _, Eq.trans (World.drewN_drewN _ _ _) (congrArg (World.drewN _) (Nat.add_assoc _ _ _))⟩))); try go_wp2_with (first | ((with_reducible refine gate_dst (N := 3) rfl ?_); refine bE 3 #[.int .i64 a1_0, .int .i64 a1_1, .int .i64 a1_2, .int .i64 a1_3, .int .i64 a1_4, .int .i64 a1_5, .int .i64 a1_6, .int .i64 a1_7, .int .i64 a1_8, .bool a1_9, .int .i64 a1_10] 30 ?_; intro gb101 hg w5 hbox hb; have BK101 := Aside0.mk (hbox); have GW101 : Aside0 (w.heap.size ≤ gb101) := GS; have GE101 : Aside0 (w.heap.size ≤ gb101) := GS; replace HB := Aside0.mk (below_step (BL) hb); clear hb hbox hg) | ((with_reducible refine gate_dst (N := 14) rfl ?_); refine Kd.R_lit k71 _ 71 ?hg (N := 14) ?hd (xs := ([] : List (S71))) (inner := []) (ok := fun _ => True) (okp := fun _ => True) ?hr ?hp (fun _ hk => hk) trivial (Below.refl _ _) (Nat.le_refl _) (by simp) ?_; (case hd => rfl); (case hg => rfl); (case hr => first | (go_simp; done) | (go_simp; rfl)); (case hp => exact (Reps.none _ _)); intro v103 w6 ho7 hb hg_ hnew_; clear hg_ hnew_; (first | rw [← Ny102.out] at ho7 | (simp only [Int.reduceToNat] at ho7; rw [← Ny102.out] at ho7)); have HO104 := Aside0.mk (Kd.R_lower ho7 (below_size (BL))); replace BK101 := BB BK101.out hb; replace HB := Aside0.mk (below_step (BL) hb); clear hb ho7; have hcz8_0 : w6.cell? ⟨gb101, 0, none⟩ = some (.int .i64 a1_0) := CZ BK101.out 0; have hcz8_1 : w6.cell? ⟨gb101, 1, none⟩ = some (.int .i64 a1_1) := CZ BK101.out 1; have hcz8_2 : w6.cell? ⟨gb101, 2, none⟩ = some (.int .i64 a1_2) := CZ BK101.out 2; have hcz8_3 : w6.cell? ⟨gb101, 3, none⟩ = some (.int .i64 a1_3) := CZ BK101.out 3; have hcz8_4 : w6.cell? ⟨gb101, 4, none⟩ = some (.int .i64 a1_4) := CZ BK101.out 4; have hcz8_5 : w6.cell? ⟨gb101, 5, none⟩ = some (.int .i64 a1_5) := CZ BK101.out 5; have hcz8_6 : w6.cell? ⟨gb101, 6, none⟩ = some (.int .i64 a1_6) := CZ BK101.out 6; have hcz8_7 : w6.cell? ⟨gb101, 7, none⟩ = some (.int .i64 a1_7) := CZ BK101.out 7; have hcz8_8 : w6.cell? ⟨gb101, 8, none⟩ = some (.int .i64 a1_8) := CZ BK101.out 8; have hcz8_9 : w6.cell? ⟨gb101, 9, none⟩ = some (.bool a1_9) := CZ BK101.out 9; have hcz8_10 : w6.cell? ⟨gb101, 10, none⟩ = some (.int .i64 a1_10) := CZ BK101.out 10; have hfz8_0 := blk_frozen BK101.out 0; have hfz8_1 := blk_frozen BK101.out 1; have hfz8_2 := blk_frozen BK101.out 2; have hfz8_3 := blk_frozen BK101.out 3; have hfz8_4 := blk_frozen BK101.out 4; have hfz8_5 := blk_frozen BK101.out 5; have hfz8_6 := blk_frozen BK101.out 6; have hfz8_7 := blk_frozen BK101.out 7; have hfz8_8 := blk_frozen BK101.out 8; have hfz8_9 := blk_frozen BK101.out 9; have hfz8_10 := blk_frozen BK101.out 10) | (go_at_call 48; (with_reducible refine (spec_l01In.calls a1_0 1 3 true _ A3.out).mono ?_); rintro e w' ⟨rfl, ⟨nd, rfl⟩⟩; (try first | exact ⟨rfl, _, World.drewN_drewN _ _ _⟩ | exact ⟨rfl, _, Eq.trans (World.drewN_drewN _ _ _) (congrArg (World.drewN _) (Nat.add_assoc _ _ _))⟩))))
 go_loopg [7, 8] k (fun kq v7 v8 w' => ∃ (x7_1 : Int) (x8_1 : Int), v7 = .int .i64 x7_1 ∧ v8 = .int .i64 x8_1 ∧ Aside0 (spec_DoTask.l0 kq l0 y102 x7_1 x8_1 a1_0 a1_1 a1_2 a1_3 a1_4 a1_5 a1_6 a1_7 a1_8 a1_9 a1_10 = some (r1, r2)) ∧ Aside0 (kq ≤ k) ∧ Aside0 (Kd.R k71 71 w' w.heap.size (fun _ => True) v103 y102) ∧ Aside0 (w'.heap[gb101]? = some (.cells #[.int .i64 a1_0, .int .i64 a1_1, .int .i64 a1_2, .int .i64 a1_3, .int .i64 a1_4, .int .i64 a1_5, .int .i64 a1_6, .int .i64 a1_7, .int .i64 a1_8, .bool a1_9, .int .i64 a1_10] 30 (0, 0))) ∧ Aside0 (Below w.heap.size w w'))
 case atStart => exact ⟨(0), (0), SD, SD, H', ⟨Nat.le_refl _⟩, ⟨RQ HO104.out⟩, ⟨BQ BK101.out⟩, ⟨BL⟩⟩
 case round =>
  clear H'
  try clear c1
  try clear p2
  try clear c4
  try clear hcz8_0
  try clear hcz8_1
  try clear hcz8_10
  try clear hcz8_2
  try clear hcz8_3
  try clear hcz8_4
  try clear hcz8_5
  try clear hcz8_6
  try clear hcz8_7
  try clear hcz8_8
  try clear hcz8_9
  try clear hfz8_0
  try clear hfz8_1
  try clear hfz8_10
  try clear hfz8_2
  try clear hfz8_3
  try clear hfz8_4
  try clear hfz8_5
  try clear hfz8_6
  try clear hfz8_7
  try clear hfz8_8
  try clear hfz8_9
  obtain ⟨x7_1, x8_1, rfl, rfl, HA, HK1, HO_6, BK101, HB⟩ := hrel
  cases gk with
  | zero => exact absurd HA.out (by simp [spec_DoTask.l0])
  | succ k1 =>
   have H := HA.out
   clear HA
   simp only [spec_DoTask.l0] at H
   by_cases c9 : x8_1 < (l0.length : Int)
   ·
    rw [if_pos c9] at H
    have c9b0 : decide (x8_1 < (l0.length : Int)) = true := decide_eq_true c9
    clear c9
    by_cases c10 : 0 ≤ x8_1; rotate_left
    ·
     rw [if_neg c10] at H
     exact absurd H (by simp)
    rw [if_pos c10] at H
    have c10b0 : decide (0 ≤ x8_1) = true := decide_eq_true c10
    clear c10
    by_cases c11 : ((rd_T71 l0 x8_1).f0) = a1_1; rotate_left
    ·
     rw [if_neg c11] at H
     have c11b0 : (((rd_T71 l0 x8_1).f0) == a1_1) = false := beq_eq_false_iff_ne.mpr c11
     have c11b1 : (((rd_T71 l0 x8_1).f0) != a1_1) = true := bne_iff_ne.mpr c11
     have H' := Aside0.mk H
     clear H
     have p109 : 0 ≤ (x8_1 : Int) := of_decide_eq_true AS
     have q109 : x8_1 < (l0.length : Int) := of_decide_eq_true AS
     obtain ⟨ad109, e109, hx109_0, hx109_1⟩ := at_T71 HR0.out x8_1 p109 q109
     cases e109
     replace hx109_0 := (HB.out.cell (World.block_lt_of_cell? w _ hx109_0)).trans hx109_0
     replace hx109_1 := (HB.out.cell (World.block_lt_of_cell? w _ hx109_1)).trans hx109_1
     replace p109 := eq_true p109
     replace q109 := eq_true q109
     have hcz15_0 : wr.cell? ⟨gb101, 0, none⟩ = some (.int .i64 a1_0) := CZ BK101.out 0
     have hcz15_1 : wr.cell? ⟨gb101, 1, none⟩ = some (.int .i64 a1_1) := CZ BK101.out 1
     have hcz15_2 : wr.cell? ⟨gb101, 2, none⟩ = some (.int .i64 a1_2) := CZ BK101.out 2
     have hcz15_3 : wr.cell? ⟨gb101, 3, none⟩ = some (.int .i64 a1_3) := CZ BK101.out 3
     have hcz15_4 : wr.cell? ⟨gb101, 4, none⟩ = some (.int .i64 a1_4) := CZ BK101.out 4
     have hcz15_5 : wr.cell? ⟨gb101, 5, none⟩ = some (.int .i64 a1_5) := CZ BK101.out 5
     have hcz15_6 : wr.cell? ⟨gb101, 6, none⟩ = some (.int .i64 a1_6) := CZ BK101.out 6
     have hcz15_7 : wr.cell? ⟨gb101, 7, none⟩ = some (.int .i64 a1_7) := CZ BK101.out 7
     have hcz15_8 : wr.cell? ⟨gb101, 8, none⟩ = some (.int .i64 a1_8) := CZ BK101.out 8
     have hcz15_9 : wr.cell? ⟨gb101, 9, none⟩ = some (.bool a1_9) := CZ BK101.out 9
     have hcz15_10 : wr.cell? ⟨gb101, 10, none⟩ = some (.int .i64 a1_10) := CZ BK101.out 10
     have hfz15_0 := blk_frozen BK101.out 0
     have hfz15_1 := blk_frozen BK101.out 1
     have hfz15_2 := blk_frozen BK101.out 2
     have hfz15_3 := blk_frozen BK101.out 3
     have hfz15_4 := blk_frozen BK101.out 4
     have hfz15_5 := blk_frozen BK101.out 5
     have hfz15_6 := blk_frozen BK101.out 6
     have hfz15_7 := blk_frozen BK101.out 7
     have hfz15_8 := blk_frozen BK101.out 8
     have hfz15_9 := blk_frozen BK101.out 9
     have hfz15_10 := blk_frozen BK101.out 10
     go_wp2
     repeat (go_quiet (fail); try go_wp2)
     go_roundg k1
     case measure => have := HK1.out; omega
     case rel => exact ⟨(x7_1), (wrap64 (x8_1 + 1)), SD, SD, H', ⟨by have := HK1.out; omega⟩, ⟨RQ HO_6.out⟩, ⟨BQ BK101.out⟩, ⟨BL⟩⟩
    rw [if_pos c11] at H
    have c11b0 : (((rd_T71 l0 x8_1).f0) == a1_1) = true := beq_iff_eq.mpr c11
    have c11b1 : (((rd_T71 l0 x8_1).f0) != a1_1) = false := bne_eq_false_iff_eq.mpr c11
    clear c11
    by_cases c12 : x7_1 = 0; rotate_left
    ·
     rw [if_neg c12] at H
     have c12b0 : (x7_1 == 0) = false := beq_eq_false_iff_ne.mpr c12
     have c12b1 : (x7_1 != 0) = true := bne_iff_ne.mpr c12
     have H' := Aside0.mk H
     clear H
     have p109 : 0 ≤ (x8_1 : Int) := of_decide_eq_true AS
     have q109 : x8_1 < (l0.length : Int) := of_decide_eq_true AS
     obtain ⟨ad109, e109, hx109_0, hx109_1⟩ := at_T71 HR0.out x8_1 p109 q109
     cases e109
     replace hx109_0 := (HB.out.cell (World.block_lt_of_cell? w _ hx109_0)).trans hx109_0
     replace hx109_1 := (HB.out.cell (World.block_lt_of_cell? w _ hx109_1)).trans hx109_1
     replace p109 := eq_true p109
     replace q109 := eq_true q109
     have hcz14_0 : wr.cell? ⟨gb101, 0, none⟩ = some (.int .i64 a1_0) := CZ BK101.out 0
     have hcz14_1 : wr.cell? ⟨gb101, 1, none⟩ = some (.int .i64 a1_1) := CZ BK101.out 1
     have hcz14_2 : wr.cell? ⟨gb101, 2, none⟩ = some (.int .i64 a1_2) := CZ BK101.out 2
     have hcz14_3 : wr.cell? ⟨gb101, 3, none⟩ = some (.int .i64 a1_3) := CZ BK101.out 3
     have hcz14_4 : wr.cell? ⟨gb101, 4, none⟩ = some (.int .i64 a1_4) := CZ BK101.out 4
     have hcz14_5 : wr.cell? ⟨gb101, 5, none⟩ = some (.int .i64 a1_5) := CZ BK101.out 5
     have hcz14_6 : wr.cell? ⟨gb101, 6, none⟩ = some (.int .i64 a1_6) := CZ BK101.out 6
     have hcz14_7 : wr.cell? ⟨gb101, 7, none⟩ = some (.int .i64 a1_7) := CZ BK101.out 7
     have hcz14_8 : wr.cell? ⟨gb101, 8, none⟩ = some (.int .i64 a1_8) := CZ BK101.out 8
     have hcz14_9 : wr.cell? ⟨gb101, 9, none⟩ = some (.bool a1_9) := CZ BK101.out 9
     have hcz14_10 : wr.cell? ⟨gb101, 10, none⟩ = some (.int .i64 a1_10) := CZ BK101.out 10
     have hfz14_0 := blk_frozen BK101.out 0
     have hfz14_1 := blk_frozen BK101.out 1
     have hfz14_2 := blk_frozen BK101.out 2
     have hfz14_3 := blk_frozen BK101.out 3
     have hfz14_4 := blk_frozen BK101.out 4
     have hfz14_5 := blk_frozen BK101.out 5
     have hfz14_6 := blk_frozen BK101.out 6
     have hfz14_7 := blk_frozen BK101.out 7
     have hfz14_8 := blk_frozen BK101.out 8
     have hfz14_9 := blk_frozen BK101.out 9
     have hfz14_10 := blk_frozen BK101.out 10
     go_wp2
     repeat (go_quiet (fail); try go_wp2)
     go_roundg k1
     case measure => have := HK1.out; omega
     case rel => exact ⟨(x7_1), (wrap64 (x8_1 + 1)), SD, SD, H', ⟨by have := HK1.out; omega⟩, ⟨RQ HO_6.out⟩, ⟨BQ BK101.out⟩, ⟨BL⟩⟩
    rw [if_pos c12] at H
    have c12b0 : (x7_1 == 0) = true := beq_iff_eq.mpr c12
    have c12b1 : (x7_1 != 0) = false := bne_eq_false_iff_eq.mpr c12
    clear c12
    have H' := Aside0.mk H
    clear H
    have p109 : 0 ≤ (x8_1 : Int) := of_decide_eq_true AS
    have q109 : x8_1 < (l0.length : Int) := of_decide_eq_true AS
    obtain ⟨ad109, e109, hx109_0, hx109_1⟩ := at_T71 HR0.out x8_1 p109 q109
    cases e109
    replace hx109_0 := (HB.out.cell (World.block_lt_of_cell? w _ hx109_0)).trans hx109_0
    replace hx109_1 := (HB.out.cell (World.block_lt_of_cell? w _ hx109_1)).trans hx109_1
    replace p109 := eq_true p109
    replace q109 := eq_true q109
    have hcz13_0 : wr.cell? ⟨gb101, 0, none⟩ = some (.int .i64 a1_0) := CZ BK101.out 0
    have hcz13_1 : wr.cell? ⟨gb101, 1, none⟩ = some (.int .i64 a1_1) := CZ BK101.out 1
    have hcz13_2 : wr.cell? ⟨gb101, 2, none⟩ = some (.int .i64 a1_2) := CZ BK101.out 2
    have hcz13_3 : wr.cell? ⟨gb101, 3, none⟩ = some (.int .i64 a1_3) := CZ BK101.out 3
    have hcz13_4 : wr.cell? ⟨gb101, 4, none⟩ = some (.int .i64 a1_4) := CZ BK101.out 4
    have hcz13_5 : wr.cell? ⟨gb101, 5, none⟩ = some (.int .i64 a1_5) := CZ BK101.out 5
    have hcz13_6 : wr.cell? ⟨gb101, 6, none⟩ = some (.int .i64 a1_6) := CZ BK101.out 6
    have hcz13_7 : wr.cell? ⟨gb101, 7, none⟩ = some (.int .i64 a1_7) := CZ BK101.out 7
    have hcz13_8 : wr.cell? ⟨gb101, 8, none⟩ = some (.int .i64 a1_8) := CZ BK101.out 8
    have hcz13_9 : wr.cell? ⟨gb101, 9, none⟩ = some (.bool a1_9) := CZ BK101.out 9
    have hcz13_10 : wr.cell? ⟨gb101, 10, none⟩ = some (.int .i64 a1_10) := CZ BK101.out 10
    have hfz13_0 := blk_frozen BK101.out 0
    have hfz13_1 := blk_frozen BK101.out 1
    have hfz13_2 := blk_frozen BK101.out 2
    have hfz13_3 := blk_frozen BK101.out 3
    have hfz13_4 := blk_frozen BK101.out 4
    have hfz13_5 := blk_frozen BK101.out 5
    have hfz13_6 := blk_frozen BK101.out 6
    have hfz13_7 := blk_frozen BK101.out 7
    have hfz13_8 := blk_frozen BK101.out 8
    have hfz13_9 := blk_frozen BK101.out 9
    have hfz13_10 := blk_frozen BK101.out 10
    have p110 : 0 ≤ (x8_1 : Int) := of_decide_eq_true AS
    have q110 : x8_1 < (l0.length : Int) := of_decide_eq_true AS
    obtain ⟨ad110, e110, hx110_0, hx110_1⟩ := at_T71 HR0.out x8_1 p110 q110
    obtain rfl : ad109 = ad110 := (by injection e110)
    replace hx110_0 := (HB.out.cell (World.block_lt_of_cell? w _ hx110_0)).trans hx110_0
    replace hx110_1 := (HB.out.cell (World.block_lt_of_cell? w _ hx110_1)).trans hx110_1
    replace p110 := eq_true p110
    replace q110 := eq_true q110
    go_wp2
    repeat (go_quiet (fail); try go_wp2)
    go_roundg k1
    case measure => have := HK1.out; omega
    case rel => exact ⟨(wrap64 (((rd_T71 l0 x8_1).f1) + 1)), (wrap64 (x8_1 + 1)), SD, SD, H', ⟨by have := HK1.out; omega⟩, ⟨RQ HO_6.out⟩, ⟨BQ BK101.out⟩, ⟨BL⟩⟩
   rw [if_neg c9] at H
   have c9b0 : decide (x8_1 < (l0.length : Int)) = false := decide_eq_false c9
   clear c9
   by_cases c16 : a1_0 = 1
   ·
    rw [if_pos c16] at H
    have c16b0 : (a1_0 == 1) = true := beq_iff_eq.mpr c16
    have c16b1 : (a1_0 != 1) = false := bne_eq_false_iff_eq.mpr c16
    clear c16
    by_cases c17 : y102.length + l0.length < 8796093022208; rotate_left
    ·
     rw [if_neg c17] at H
     exact absurd H (by simp)
    rw [if_pos c17] at H
    have LMc17 := Aside0.mk c17
    clear c17
    obtain ⟨y111, hy111⟩ : ∃ y_ : List (S71), y_ = (y102 ++ l0) := ⟨_, rfl⟩
    replace H : (some (y111, x7_1)) = some (r1, r2) := by first | (rw [hy111]; with_reducible exact H) | (have H2_ := (Option.bind_some _ _).symm.trans H; rw [hy111]; with_reducible exact H2_) | (have H2_ := (Option.bind_some _ _).symm.trans H; with_reducible exact H2_) | with_reducible exact H | (rw [hy111]; exact H) | exact H
    have Ny111 := Aside0.mk hy111
    clear hy111
    simp only [Option.some.injEq, Prod.mk.injEq] at H
    obtain ⟨rfl, rfl⟩ := H
    have hcz18_0 : wr.cell? ⟨gb101, 0, none⟩ = some (.int .i64 a1_0) := CZ BK101.out 0
    have hcz18_1 : wr.cell? ⟨gb101, 1, none⟩ = some (.int .i64 a1_1) := CZ BK101.out 1
    have hcz18_2 : wr.cell? ⟨gb101, 2, none⟩ = some (.int .i64 a1_2) := CZ BK101.out 2
    have hcz18_3 : wr.cell? ⟨gb101, 3, none⟩ = some (.int .i64 a1_3) := CZ BK101.out 3
    have hcz18_4 : wr.cell? ⟨gb101, 4, none⟩ = some (.int .i64 a1_4) := CZ BK101.out 4
    have hcz18_5 : wr.cell? ⟨gb101, 5, none⟩ = some (.int .i64 a1_5) := CZ BK101.out 5
    have hcz18_6 : wr.cell? ⟨gb101, 6, none⟩ = some (.int .i64 a1_6) := CZ BK101.out 6
    have hcz18_7 : wr.cell? ⟨gb101, 7, none⟩ = some (.int .i64 a1_7) := CZ BK101.out 7
    have hcz18_8 : wr.cell? ⟨gb101, 8, none⟩ = some (.int .i64 a1_8) := CZ BK101.out 8
    have hcz18_9 : wr.cell? ⟨gb101, 9, none⟩ = some (.bool a1_9) := CZ BK101.out 9
    have hcz18_10 : wr.cell? ⟨gb101, 10, none⟩ = some (.int .i64 a1_10) := CZ BK101.out 10
    have hfz18_0 := blk_frozen BK101.out 0
    have hfz18_1 := blk_frozen BK101.out 1
    have hfz18_2 := blk_frozen BK101.out 2
    have hfz18_3 := blk_frozen BK101.out 3
    have hfz18_4 := blk_frozen BK101.out 4
    have hfz18_5 := blk_frozen BK101.out 5
    have hfz18_6 := blk_frozen BK101.out 6
    have hfz18_7 := blk_frozen BK101.out 7
    have hfz18_8 := blk_frozen BK101.out 8
    have hfz18_9 := blk_frozen BK101.out 9
    have hfz18_10 := blk_frozen BK101.out 10
    go_wp2_with (first | ((with_reducible refine gate_builtin (b := .append) (xs := #[.tmp 49, .tmp 50]) rfl ?_); at_builtin; refine Kd.R_append_rows k71 (w0 := w) w.heap.size rfl (.tmp 49) (.tmp 50) 26 71 (.agg #[(.int .i64 0), (.int .i64 0)]) 16 rfl Try.underlying26 info71 rfl (by decide) (by omega) v103 y102 l0 _ _ _ (fun _ => True) (fun _ => False) rfl rfl ?aO ?aR (fun _ _ h => h) (fun _ h => h.elim) ?aF ?aB ?aS ?aL ?_; (case aR => repeat (first | exact (Kd.C_below HR0.out HB.out) | (with_reducible refine Kd.C_alloc ?_ _) | (with_reducible refine Kd.C_drewN ?_ _) | (with_reducible refine Kd.C_drew ?_))); (case aB => exact (BL)); (case aF => exact (fun _ _ => trivial)); (case aO => exact (RQ HO_6.out)); (case aS => exact (below_size (BL))); (case aL => have := LMc17.out; omega); intro v112 w19 ho hb hg hat; rw [← Ny111.out] at ho; have n0_ := Aside0.mk (blk_grown (g := gb101) (o := .cells #[.int .i64 a1_0, .int .i64 a1_1, .int .i64 a1_2, .int .i64 a1_3, .int .i64 a1_4, .int .i64 a1_5, .int .i64 a1_6, .int .i64 a1_7, .int .i64 a1_8, .bool a1_9, .int .i64 a1_10] 30 (0, 0)) (BQ BK101.out) hg (Kd.R_ne HO_6.out BK101.out (by decide))); have n1_ := Aside0.mk (hb); have n2_ := Aside0.mk (ho); clear BK101; clear HB; clear HO_6; have BK101 := n0_; have HB := n1_; have HO113 := n2_; clear n0_ n1_ n2_; clear ho hb hg hat))
    repeat (go_quiet (first | ((with_reducible refine gate_builtin (b := .append) (xs := #[.tmp 49, .tmp 50]) rfl ?_); at_builtin; refine Kd.R_append_rows k71 (w0 := w) w.heap.size rfl (.tmp 49) (.tmp 50) 26 71 (.agg #[(.int .i64 0), (.int .i64 0)]) 16 rfl Try.underlying26 info71 rfl (by decide) (by omega) v103 y102 l0 _ _ _ (fun _ => True) (fun _ => False) rfl rfl ?aO ?aR (fun _ _ h => h) (fun _ h => h.elim) ?aF ?aB ?aS ?aL ?_; (case aR => repeat (first | exact (Kd.C_below HR0.out HB.out) | (with_reducible refine Kd.C_alloc ?_ _) | (with_reducible refine Kd.C_drewN ?_ _) | (with_reducible refine Kd.C_drew ?_))); (case aB => exact (BL)); (case aF => exact (fun _ _ => trivial)); (case aO => exact (RQ HO_6.out)); (case aS => exact (below_size (BL))); (case aL => have := LMc17.out; omega); intro v112 w19 ho hb hg hat; rw [← Ny111.out] at ho; have n0_ := Aside0.mk (blk_grown (g := gb101) (o := .cells #[.int .i64 a1_0, .int .i64 a1_1, .int .i64 a1_2, .int .i64 a1_3, .int .i64 a1_4, .int .i64 a1_5, .int .i64 a1_6, .int .i64 a1_7, .int .i64 a1_8, .bool a1_9, .int .i64 a1_10] 30 (0, 0)) (BQ BK101.out) hg (Kd.R_ne HO_6.out BK101.out (by decide))); have n1_ := Aside0.mk (hb); have n2_ := Aside0.mk (ho); clear BK101; clear HB; clear HO_6; have BK101 := n0_; have HB := n1_; have HO113 := n2_; clear n0_ n1_ n2_; clear ho hb hg hat)); try go_wp2_with (first | ((with_reducible refine gate_builtin (b := .append) (xs := #[.tmp 49, .tmp 50]) rfl ?_); at_builtin; refine Kd.R_append_rows k71 (w0 := w) w.heap.size rfl (.tmp 49) (.tmp 50) 26 71 (.agg #[(.int .i64 0), (.int .i64 0)]) 16 rfl Try.underlying26 info71 rfl (by decide) (by omega) v103 y102 l0 _ _ _ (fun _ => True) (fun _ => False) rfl rfl ?aO ?aR (fun _ _ h => h) (fun _ h => h.elim) ?aF ?aB ?aS ?aL ?_; (case aR => repeat (first | exact (Kd.C_below HR0.out HB.out) | (with_reducible refine Kd.C_alloc ?_ _) | (with_reducible refine Kd.C_drewN ?_ _) | (with_reducible refine Kd.C_drew ?_))); (case aB => exact (BL)); (case aF => exact (fun _ _ => trivial)); (case aO => exact (RQ HO_6.out)); (case aS => exact (below_size (BL))); (case aL => have := LMc17.out; omega); intro v112 w19 ho hb hg hat; rw [← Ny111.out] at ho; have n0_ := Aside0.mk (blk_grown (g := gb101) (o := .cells #[.int .i64 a1_0, .int .i64 a1_1, .int .i64 a1_2, .int .i64 a1_3, .int .i64 a1_4, .int .i64 a1_5, .int .i64 a1_6, .int .i64 a1_7, .int .i64 a1_8, .bool a1_9, .int .i64 a1_10] 30 (0, 0)) (BQ BK101.out) hg (Kd.R_ne HO_6.out BK101.out (by decide))); have n1_ := Aside0.mk (hb); have n2_ := Aside0.mk (ho); clear BK101; clear HB; clear HO_6; have BK101 := n0_; have HB := n1_; have HO113 := n2_; clear n0_ n1_ n2_; clear ho hb hg hat)))
    go_ret2
    exact ⟨_, EE, RQ HO113.out, BL⟩
   rw [if_neg c16] at H
   have c16b0 : (a1_0 == 1) = false := beq_eq_false_iff_ne.mpr c16
   have c16b1 : (a1_0 != 1) = true := bne_iff_ne.mpr c16
   by_cases c20 : a1_0 = 2; rotate_left
   ·
    rw [if_neg c20] at H
    have c20b0 : (a1_0 == 2) = false := beq_eq_false_iff_ne.mpr c20
    have c20b1 : (a1_0 != 2) = true := bne_iff_ne.mpr c20
    have H' := Aside0.mk H
    clear H
    have hcz48_0 : wr.cell? ⟨gb101, 0, none⟩ = some (.int .i64 a1_0) := CZ BK101.out 0
    have hcz48_1 : wr.cell? ⟨gb101, 1, none⟩ = some (.int .i64 a1_1) := CZ BK101.out 1
    have hcz48_2 : wr.cell? ⟨gb101, 2, none⟩ = some (.int .i64 a1_2) := CZ BK101.out 2
    have hcz48_3 : wr.cell? ⟨gb101, 3, none⟩ = some (.int .i64 a1_3) := CZ BK101.out 3
    have hcz48_4 : wr.cell? ⟨gb101, 4, none⟩ = some (.int .i64 a1_4) := CZ BK101.out 4
    have hcz48_5 : wr.cell? ⟨gb101, 5, none⟩ = some (.int .i64 a1_5) := CZ BK101.out 5
    have hcz48_6 : wr.cell? ⟨gb101, 6, none⟩ = some (.int .i64 a1_6) := CZ BK101.out 6
    have hcz48_7 : wr.cell? ⟨gb101, 7, none⟩ = some (.int .i64 a1_7) := CZ BK101.out 7
    have hcz48_8 : wr.cell? ⟨gb101, 8, none⟩ = some (.int .i64 a1_8) := CZ BK101.out 8
    have hcz48_9 : wr.cell? ⟨gb101, 9, none⟩ = some (.bool a1_9) := CZ BK101.out 9
    have hcz48_10 : wr.cell? ⟨gb101, 10, none⟩ = some (.int .i64 a1_10) := CZ BK101.out 10
    have hfz48_0 := blk_frozen BK101.out 0
    have hfz48_1 := blk_frozen BK101.out 1
    have hfz48_2 := blk_frozen BK101.out 2
    have hfz48_3 := blk_frozen BK101.out 3
    have hfz48_4 := blk_frozen BK101.out 4
    have hfz48_5 := blk_frozen BK101.out 5
    have hfz48_6 := blk_frozen BK101.out 6
    have hfz48_7 := blk_frozen BK101.out 7
    have hfz48_8 := blk_frozen BK101.out 8
    have hfz48_9 := blk_frozen BK101.out 9
    have hfz48_10 := blk_frozen BK101.out 10
    go_wp2
    repeat (go_quiet (fail); try go_wp2)
    go_loopg [6, 12, 13] k1 (fun kq v6 v12 v13 w' => ∃ (x6_2 : List (S71)) (x12_2 : Int) (x13_2 : Int), v12 = .int .i64 x12_2 ∧ v13 = .int .i64 x13_2 ∧ Aside0 (spec_DoTask.l4 kq l0 x6_2 x12_2 x13_2 a1_0 a1_1 a1_2 a1_3 a1_4 a1_5 a1_6 a1_7 a1_8 a1_9 a1_10 = some (r1, r2)) ∧ Aside0 (kq ≤ k1) ∧ Aside0 (Kd.R k71 71 w' w.heap.size (fun _ => True) v6 x6_2) ∧ Aside0 (w'.heap[gb101]? = some (.cells #[.int .i64 a1_0, .int .i64 a1_1, .int .i64 a1_2, .int .i64 a1_3, .int .i64 a1_4, .int .i64 a1_5, .int .i64 a1_6, .int .i64 a1_7, .int .i64 a1_8, .bool a1_9, .int .i64 a1_10] 30 (0, 0))) ∧ Aside0 (Below w.heap.size w w'))
    case atStart => exact ⟨(y102), (0), (0), SD, SD, H', ⟨Nat.le_refl _⟩, ⟨RQ HO_6.out⟩, ⟨BQ BK101.out⟩, ⟨BL⟩⟩
    case round =>
     clear H'
     try clear c1
     try clear p1
     try clear q1
     try clear hx1
     try clear c2
     try clear p2
     try clear c3
     try clear c4
     try clear p6
     try clear c9
     try clear c9b0
     try clear c10
     try clear c10b0
     try clear p10
     try clear q10
     try clear hx10
     try clear c11
     try clear c11b0
     try clear c11b1
     try clear p11
     try clear q11
     try clear hx11
     try clear c12
     try clear c12b0
     try clear c12b1
     try clear p12
     try clear q12
     try clear hx12
     try clear p13
     try clear q13
     try clear hx13
     try clear c16
     try clear c16b0
     try clear c16b1
     try clear c17
     try clear c20
     try clear c20b0
     try clear c20b1
     try clear c22
     try clear c22b0
     try clear c23
     try clear c23b0
     try clear c24
     try clear c24b0
     try clear c24b1
     try clear c25
     try clear c31
     try clear c31b0
     try clear c32
     try clear c32b0
     try clear c33
     try clear c33b0
     try clear c34
     try clear c38
     try clear c41
     try clear c41b0
     try clear c42
     try clear c42b0
     try clear c43
     try clear c43b0
     try clear c44
     try clear hcz13_0
     try clear hcz13_1
     try clear hcz13_10
     try clear hcz13_2
     try clear hcz13_3
     try clear hcz13_4
     try clear hcz13_5
     try clear hcz13_6
     try clear hcz13_7
     try clear hcz13_8
     try clear hcz13_9
     try clear hcz14_0
     try clear hcz14_1
     try clear hcz14_10
     try clear hcz14_2
     try clear hcz14_3
     try clear hcz14_4
     try clear hcz14_5
     try clear hcz14_6
     try clear hcz14_7
     try clear hcz14_8
     try clear hcz14_9
     try clear hcz15_0
     try clear hcz15_1
     try clear hcz15_10
     try clear hcz15_2
     try clear hcz15_3
     try clear hcz15_4
     try clear hcz15_5
     try clear hcz15_6
     try clear hcz15_7
     try clear hcz15_8
     try clear hcz15_9
     try clear hcz18_0
     try clear hcz18_1
     try clear hcz18_10
     try clear hcz18_2
     try clear hcz18_3
     try clear hcz18_4
     try clear hcz18_5
     try clear hcz18_6
     try clear hcz18_7
     try clear hcz18_8
     try clear hcz18_9
     try clear hcz21_0
     try clear hcz21_1
     try clear hcz21_10
     try clear hcz21_2
     try clear hcz21_3
     try clear hcz21_4
     try clear hcz21_5
     try clear hcz21_6
     try clear hcz21_7
     try clear hcz21_8
     try clear hcz21_9
     try clear hcz26_0
     try clear hcz26_1
     try clear hcz26_10
     try clear hcz26_2
     try clear hcz26_3
     try clear hcz26_4
     try clear hcz26_5
     try clear hcz26_6
     try clear hcz26_7
     try clear hcz26_8
     try clear hcz26_9
     try clear hcz30_0
     try clear hcz30_1
     try clear hcz30_10
     try clear hcz30_2
     try clear hcz30_3
     try clear hcz30_4
     try clear hcz30_5
     try clear hcz30_6
     try clear hcz30_7
     try clear hcz30_8
     try clear hcz30_9
     try clear hcz35_0
     try clear hcz35_1
     try clear hcz35_10
     try clear hcz35_2
     try clear hcz35_3
     try clear hcz35_4
     try clear hcz35_5
     try clear hcz35_6
     try clear hcz35_7
     try clear hcz35_8
     try clear hcz35_9
     try clear hcz37_0
     try clear hcz37_1
     try clear hcz37_10
     try clear hcz37_2
     try clear hcz37_3
     try clear hcz37_4
     try clear hcz37_5
     try clear hcz37_6
     try clear hcz37_7
     try clear hcz37_8
     try clear hcz37_9
     try clear hcz39_0
     try clear hcz39_1
     try clear hcz39_10
     try clear hcz39_2
     try clear hcz39_3
     try clear hcz39_4
     try clear hcz39_5
     try clear hcz39_6
     try clear hcz39_7
     try clear hcz39_8
     try clear hcz39_9
     try clear hcz45_0
     try clear hcz45_1
     try clear hcz45_10
     try clear hcz45_2
     try clear hcz45_3
     try clear hcz45_4
     try clear hcz45_5
     try clear hcz45_6
     try clear hcz45_7
     try clear hcz45_8
     try clear hcz45_9
     try clear hcz47_0
     try clear hcz47_1
     try clear hcz47_10
     try clear hcz47_2
     try clear hcz47_3
     try clear hcz47_4
     try clear hcz47_5
     try clear hcz47_6
     try clear hcz47_7
     try clear hcz47_8
     try clear hcz47_9
     try clear hcz48_0
     try clear hcz48_1
     try clear hcz48_10
     try clear hcz48_2
     try clear hcz48_3
     try clear hcz48_4
     try clear hcz48_5
     try clear hcz48_6
     try clear hcz48_7
     try clear hcz48_8
     try clear hcz48_9
     try clear hcz8_0
     try clear hcz8_1
     try clear hcz8_10
     try clear hcz8_2
     try clear hcz8_3
     try clear hcz8_4
     try clear hcz8_5
     try clear hcz8_6
     try clear hcz8_7
     try clear hcz8_8
     try clear hcz8_9
     try clear hfz13_0
     try clear hfz13_1
     try clear hfz13_10
     try clear hfz13_2
     try clear hfz13_3
     try clear hfz13_4
     try clear hfz13_5
     try clear hfz13_6
     try clear hfz13_7
     try clear hfz13_8
     try clear hfz13_9
     try clear hfz14_0
     try clear hfz14_1
     try clear hfz14_10
     try clear hfz14_2
     try clear hfz14_3
     try clear hfz14_4
     try clear hfz14_5
     try clear hfz14_6
     try clear hfz14_7
     try clear hfz14_8
     try clear hfz14_9
     try clear hfz15_0
     try clear hfz15_1
     try clear hfz15_10
     try clear hfz15_2
     try clear hfz15_3
     try clear hfz15_4
     try clear hfz15_5
     try clear hfz15_6
     try clear hfz15_7
     try clear hfz15_8
     try clear hfz15_9
     try clear hfz18_0
     try clear hfz18_1
     try clear hfz18_10
     try clear hfz18_2
     try clear hfz18_3
     try clear hfz18_4
     try clear hfz18_5
     try clear hfz18_6
     try clear hfz18_7
     try clear hfz18_8
     try clear hfz18_9
     try clear hfz21_0
     try clear hfz21_1
     try clear hfz21_10
     try clear hfz21_2
     try clear hfz21_3
     try clear hfz21_4
     try clear hfz21_5
     try clear hfz21_6
     try clear hfz21_7
     try clear hfz21_8
     try clear hfz21_9
     try clear hfz26_0
     try clear hfz26_1
     try clear hfz26_10
     try clear hfz26_2
     try clear hfz26_3
     try clear hfz26_4
     try clear hfz26_5
     try clear hfz26_6
     try clear hfz26_7
     try clear hfz26_8
     try clear hfz26_9
     try clear hfz30_0
     try clear hfz30_1
     try clear hfz30_10
     try clear hfz30_2
     try clear hfz30_3
     try clear hfz30_4
     try clear hfz30_5
     try clear hfz30_6
     try clear hfz30_7
     try clear hfz30_8
     try clear hfz30_9
     try clear hfz35_0
     try clear hfz35_1
     try clear hfz35_10
     try clear hfz35_2
     try clear hfz35_3
     try clear hfz35_4
     try clear hfz35_5
     try clear hfz35_6
     try clear hfz35_7
     try clear hfz35_8
     try clear hfz35_9
     try clear hfz37_0
     try clear hfz37_1
     try clear hfz37_10
     try clear hfz37_2
     try clear hfz37_3
     try clear hfz37_4
     try clear hfz37_5
     try clear hfz37_6
     try clear hfz37_7
     try clear hfz37_8
     try clear hfz37_9
     try clear hfz39_0
     try clear hfz39_1
     try clear hfz39_10
     try clear hfz39_2
     try clear hfz39_3
     try clear hfz39_4
     try clear hfz39_5
     try clear hfz39_6
     try clear hfz39_7
     try clear hfz39_8
     try clear hfz39_9
     try clear hfz45_0
     try clear hfz45_1
     try clear hfz45_10
     try clear hfz45_2
     try clear hfz45_3
     try clear hfz45_4
     try clear hfz45_5
     try clear hfz45_6
     try clear hfz45_7
     try clear hfz45_8
     try clear hfz45_9
     try clear hfz47_0
     try clear hfz47_1
     try clear hfz47_10
     try clear hfz47_2
     try clear hfz47_3
     try clear hfz47_4
     try clear hfz47_5
     try clear hfz47_6
     try clear hfz47_7
     try clear hfz47_8
     try clear hfz47_9
     try clear hfz48_0
     try clear hfz48_1
     try clear hfz48_10
     try clear hfz48_2
     try clear hfz48_3
     try clear hfz48_4
     try clear hfz48_5
     try clear hfz48_6
     try clear hfz48_7
     try clear hfz48_8
     try clear hfz48_9
     try clear hfz8_0
     try clear hfz8_1
     try clear hfz8_10
     try clear hfz8_2
     try clear hfz8_3
     try clear hfz8_4
     try clear hfz8_5
     try clear hfz8_6
     try clear hfz8_7
     try clear hfz8_8
     try clear hfz8_9
     try clear hx109_0
     try clear hx109_1
     try clear hx110_0
     try clear hx110_1
     try clear hx114_0
     try clear hx114_1
     try clear hx121_0
     try clear hx121_1
     try clear hx122_0
     try clear hx122_1
     try clear hx129_0
     try clear hx129_1
     try clear hx130_0
     try clear hx130_1
     try clear p1
     try clear p10
     try clear p109
     try clear p11
     try clear p110
     try clear p114
     try clear p12
     try clear p121
     try clear p122
     try clear p129
     try clear p130
     try clear p2
     try clear p6
     try clear q1
     try clear q10
     try clear q109
     try clear q11
     try clear q110
     try clear q114
     try clear q12
     try clear q121
     try clear q122
     try clear q129
     try clear q130
     obtain ⟨x6_2, x12_2, x13_2, rfl, rfl, HA, HK2, HO_6, BK101, HB⟩ := hrel
     cases gk with
     | zero => exact absurd HA.out (by simp [spec_DoTask.l4])
     | succ k2 =>
      have H := HA.out
      clear HA
      simp only [spec_DoTask.l4] at H
      by_cases c49 : x13_2 < (l0.length : Int); rotate_left
      ·
       rw [if_neg c49] at H
       have c49b0 : decide (x13_2 < (l0.length : Int)) = false := decide_eq_false c49
       clear c49
       simp only [Option.some.injEq, Prod.mk.injEq] at H
       obtain ⟨rfl, rfl⟩ := H
       go_wp2
       repeat (go_quiet (fail); try go_wp2)
       go_ret2
       exact ⟨_, EE, RQ HO_6.out, BL⟩
      rw [if_pos c49] at H
      have c49b0 : decide (x13_2 < (l0.length : Int)) = true := decide_eq_true c49
      clear c49
      by_cases c50 : 0 ≤ x13_2; rotate_left
      ·
       rw [if_neg c50] at H
       exact absurd H (by simp)
      rw [if_pos c50] at H
      have c50b0 : decide (0 ≤ x13_2) = true := decide_eq_true c50
      clear c50
      by_cases c51 : ((rd_T71 l0 x13_2).f0) = a1_1
      ·
       rw [if_pos c51] at H
       have c51b0 : (((rd_T71 l0 x13_2).f0) == a1_1) = true := beq_iff_eq.mpr c51
       have c51b1 : (((rd_T71 l0 x13_2).f0) != a1_1) = false := bne_eq_false_iff_eq.mpr c51
       clear c51
       have H' := Aside0.mk H
       clear H
       have p134 : 0 ≤ (x13_2 : Int) := of_decide_eq_true AS
       have q134 : x13_2 < (l0.length : Int) := of_decide_eq_true AS
       obtain ⟨ad134, e134, hx134_0, hx134_1⟩ := at_T71 HR0.out x13_2 p134 q134
       cases e134
       replace hx134_0 := (HB.out.cell (World.block_lt_of_cell? w _ hx134_0)).trans hx134_0
       replace hx134_1 := (HB.out.cell (World.block_lt_of_cell? w _ hx134_1)).trans hx134_1
       replace p134 := eq_true p134
       replace q134 := eq_true q134
       have hcz52_0 : wr.cell? ⟨gb101, 0, none⟩ = some (.int .i64 a1_0) := CZ BK101.out 0
       have hcz52_1 : wr.cell? ⟨gb101, 1, none⟩ = some (.int .i64 a1_1) := CZ BK101.out 1
       have hcz52_2 : wr.cell? ⟨gb101, 2, none⟩ = some (.int .i64 a1_2) := CZ BK101.out 2
       have hcz52_3 : wr.cell? ⟨gb101, 3, none⟩ = some (.int .i64 a1_3) := CZ BK101.out 3
       have hcz52_4 : wr.cell? ⟨gb101, 4, none⟩ = some (.int .i64 a1_4) := CZ BK101.out 4
       have hcz52_5 : wr.cell? ⟨gb101, 5, none⟩ = some (.int .i64 a1_5) := CZ BK101.out 5
       have hcz52_6 : wr.cell? ⟨gb101, 6, none⟩ = some (.int .i64 a1_6) := CZ BK101.out 6
       have hcz52_7 : wr.cell? ⟨gb101, 7, none⟩ = some (.int .i64 a1_7) := CZ BK101.out 7
       have hcz52_8 : wr.cell? ⟨gb101, 8, none⟩ = some (.int .i64 a1_8) := CZ BK101.out 8
       have hcz52_9 : wr.cell? ⟨gb101, 9, none⟩ = some (.bool a1_9) := CZ BK101.out 9
       have hcz52_10 : wr.cell? ⟨gb101, 10, none⟩ = some (.int .i64 a1_10) := CZ BK101.out 10
       have hfz52_0 := blk_frozen BK101.out 0
       have hfz52_1 := blk_frozen BK101.out 1
       have hfz52_2 := blk_frozen BK101.out 2
       have hfz52_3 := blk_frozen BK101.out 3
       have hfz52_4 := blk_frozen BK101.out 4
       have hfz52_5 := blk_frozen BK101.out 5
       have hfz52_6 := blk_frozen BK101.out 6
       have hfz52_7 := blk_frozen BK101.out 7
       have hfz52_8 := blk_frozen BK101.out 8
       have hfz52_9 := blk_frozen BK101.out 9
       have hfz52_10 := blk_frozen BK101.out 10
       go_wp2
       repeat (go_quiet (fail); try go_wp2)
       go_roundg k2
       case measure => have := HK1.out; have := HK2.out; omega
       case rel => exact ⟨(x6_2), (1), (wrap64 (x13_2 + 1)), SD, SD, H', ⟨by have := HK1.out; have := HK2.out; omega⟩, ⟨RQ HO_6.out⟩, ⟨BQ BK101.out⟩, ⟨BL⟩⟩
      rw [if_neg c51] at H
      have c51b0 : (((rd_T71 l0 x13_2).f0) == a1_1) = false := beq_eq_false_iff_ne.mpr c51
      have c51b1 : (((rd_T71 l0 x13_2).f0) != a1_1) = true := bne_iff_ne.mpr c51
      by_cases c53 : x6_2.length < 8796093022208; rotate_left
      ·
       rw [if_neg c53] at H
       exact absurd H (by simp)
      rw [if_pos c53] at H
      have LMc53 := Aside0.mk c53
      clear c53
      obtain ⟨y136, hy136⟩ : ∃ y_ : List (S71), y_ = (x6_2 ++ [(⟨(rd_T71 l0 x13_2).f0, (rd_T71 l0 x13_2).f1⟩ : S71)]) := ⟨_, rfl⟩
      replace H : (spec_DoTask.l4 k2 l0 y136 x12_2 (wrap64 (x13_2 + 1)) a1_0 a1_1 a1_2 a1_3 a1_4 a1_5 a1_6 a1_7 a1_8 a1_9 a1_10) = some (r1, r2) := by first | (rw [hy136]; with_reducible exact H) | (have H2_ := (Option.bind_some _ _).symm.trans H; rw [hy136]; with_reducible exact H2_) | (have H2_ := (Option.bind_some _ _).symm.trans H; with_reducible exact H2_) | with_reducible exact H | (rw [hy136]; exact H) | exact H
      have Ny136 := Aside0.mk hy136
      clear hy136
      have H' := Aside0.mk H
      clear H
      have p134 : 0 ≤ (x13_2 : Int) := of_decide_eq_true AS
      have q134 : x13_2 < (l0.length : Int) := of_decide_eq_true AS
      obtain ⟨ad134, e134, hx134_0, hx134_1⟩ := at_T71 HR0.out x13_2 p134 q134
      cases e134
      replace hx134_0 := (HB.out.cell (World.block_lt_of_cell? w _ hx134_0)).trans hx134_0
      replace hx134_1 := (HB.out.cell (World.block_lt_of_cell? w _ hx134_1)).trans hx134_1
      replace p134 := eq_true p134
      replace q134 := eq_true q134
      have hcz54_0 : wr.cell? ⟨gb101, 0, none⟩ = some (.int .i64 a1_0) := CZ BK101.out 0
      have hcz54_1 : wr.cell? ⟨gb101, 1, none⟩ = some (.int .i64 a1_1) := CZ BK101.out 1
      have hcz54_2 : wr.cell? ⟨gb101, 2, none⟩ = some (.int .i64 a1_2) := CZ BK101.out 2
      have hcz54_3 : wr.cell? ⟨gb101, 3, none⟩ = some (.int .i64 a1_3) := CZ BK101.out 3
      have hcz54_4 : wr.cell? ⟨gb101, 4, none⟩ = some (.int .i64 a1_4) := CZ BK101.out 4
      have hcz54_5 : wr.cell? ⟨gb101, 5, none⟩ = some (.int .i64 a1_5) := CZ BK101.out 5
      have hcz54_6 : wr.cell? ⟨gb101, 6, none⟩ = some (.int .i64 a1_6) := CZ BK101.out 6
      have hcz54_7 : wr.cell? ⟨gb101, 7, none⟩ = some (.int .i64 a1_7) := CZ BK101.out 7
      have hcz54_8 : wr.cell? ⟨gb101, 8, none⟩ = some (.int .i64 a1_8) := CZ BK101.out 8
      have hcz54_9 : wr.cell? ⟨gb101, 9, none⟩ = some (.bool a1_9) := CZ BK101.out 9
      have hcz54_10 : wr.cell? ⟨gb101, 10, none⟩ = some (.int .i64 a1_10) := CZ BK101.out 10
      have hfz54_0 := blk_frozen BK101.out 0
      have hfz54_1 := blk_frozen BK101.out 1
      have hfz54_2 := blk_frozen BK101.out 2
      have hfz54_3 := blk_frozen BK101.out 3
      have hfz54_4 := blk_frozen BK101.out 4
      have hfz54_5 := blk_frozen BK101.out 5
      have hfz54_6 := blk_frozen BK101.out 6
      have hfz54_7 := blk_frozen BK101.out 7
      have hfz54_8 := blk_frozen BK101.out 8
      have hfz54_9 := blk_frozen BK101.out 9
      have hfz54_10 := blk_frozen BK101.out 10
      have p135 : 0 ≤ (x13_2 : Int) := of_decide_eq_true AS
      have q135 : x13_2 < (l0.length : Int) := of_decide_eq_true AS
      obtain ⟨ad135, e135, hx135_0, hx135_1⟩ := at_T71 HR0.out x13_2 p135 q135
      obtain rfl : ad134 = ad135 := (by injection e135)
      replace hx135_0 := (HB.out.cell (World.block_lt_of_cell? w _ hx135_0)).trans hx135_0
      replace hx135_1 := (HB.out.cell (World.block_lt_of_cell? w _ hx135_1)).trans hx135_1
      replace p135 := eq_true p135
      replace q135 := eq_true q135
      go_wp2_with (first | ((with_reducible refine gate_builtin (b := .append) (xs := #[.tmp 138, .tmp 143]) rfl ?_); at_builtin; refine Kd.R_append k71 (w0 := w) w.heap.size rfl (.tmp 138) (.tmp 143) 26 71 (.agg #[(.int .i64 0), (.int .i64 0)]) 16 rfl Try.underlying26 info71 rfl (by decide) (by omega) u6 x6_2 (⟨(rd_T71 l0 x13_2).f0, (rd_T71 l0 x13_2).f1⟩ : S71) [.int .i64 ((rd_T71 l0 x13_2).f0), .int .i64 ((rd_T71 l0 x13_2).f1)] (fun _ => True) (fun _ => False) rfl rfl ?aP (fun _ hk => hk.elim) ?aF ?aO ?aB ?aS ?aL ?_; (case aP => exact k71_mkM _ _ _ (⟨(rd_T71 l0 x13_2).f0, (rd_T71 l0 x13_2).f1⟩ : S71)); (case aB => exact (BL)); (case aF => exact (fun _ _ => trivial)); (case aO => exact (RQ HO_6.out)); (case aS => exact (below_size (BL))); (case aL => have := LMc53.out; omega); intro v137 w55 ho hb hg hat; rw [← Ny136.out] at ho; have n0_ := Aside0.mk (blk_grown (g := gb101) (o := .cells #[.int .i64 a1_0, .int .i64 a1_1, .int .i64 a1_2, .int .i64 a1_3, .int .i64 a1_4, .int .i64 a1_5, .int .i64 a1_6, .int .i64 a1_7, .int .i64 a1_8, .bool a1_9, .int .i64 a1_10] 30 (0, 0)) (BQ BK101.out) hg (Kd.R_ne HO_6.out BK101.out (by decide))); have n1_ := Aside0.mk (hb); have n2_ := Aside0.mk (ho); clear BK101; clear HB; clear HO_6; have BK101 := n0_; have HB := n1_; have HO138 := n2_; clear n0_ n1_ n2_; clear ho hb hg hat))
      repeat (go_quiet (first | ((with_reducible refine gate_builtin (b := .append) (xs := #[.tmp 138, .tmp 143]) rfl ?_); at_builtin; refine Kd.R_append k71 (w0 := w) w.heap.size rfl (.tmp 138) (.tmp 143) 26 71 (.agg #[(.int .i64 0), (.int .i64 0)]) 16 rfl Try.underlying26 info71 rfl (by decide) (by omega) u6 x6_2 (⟨(rd_T71 l0 x13_2).f0, (rd_T71 l0 x13_2).f1⟩ : S71) [.int .i64 ((rd_T71 l0 x13_2).f0), .int .i64 ((rd_T71 l0 x13_2).f1)] (fun _ => True) (fun _ => False) rfl rfl ?aP (fun _ hk => hk.elim) ?aF ?aO ?aB ?aS ?aL ?_; (case aP => exact k71_mkM _ _ _ (⟨(rd_T71 l0 x13_2).f0, (rd_T71 l0 x13_2).f1⟩ : S71)); (case aB => exact (BL)); (case aF => exact (fun _ _ => trivial)); (case aO => exact (RQ HO_6.out)); (case aS => exact (below_size (BL))); (case aL => have := LMc53.out; omega); intro v137 w55 ho hb hg hat; rw [← Ny136.out] at ho; have n0_ := Aside0.mk (blk_grown (g := gb101) (o := .cells #[.int .i64 a1_0, .int .i64 a1_1, .int .i64 a1_2, .int .i64 a1_3, .int .i64 a1_4, .int .i64 a1_5, .int .i64 a1_6, .int .i64 a1_7, .int .i64 a1_8, .bool a1_9, .int .i64 a1_10] 30 (0, 0)) (BQ BK101.out) hg (Kd.R_ne HO_6.out BK101.out (by decide))); have n1_ := Aside0.mk (hb); have n2_ := Aside0.mk (ho); clear BK101; clear HB; clear HO_6; have BK101 := n0_; have HB := n1_; have HO138 := n2_; clear n0_ n1_ n2_; clear ho hb hg hat)); try go_wp2_with (first | ((with_reducible refine gate_builtin (b := .append) (xs := #[.tmp 138, .tmp 143]) rfl ?_); at_builtin; refine Kd.R_append k71 (w0 := w) w.heap.size rfl (.tmp 138) (.tmp 143) 26 71 (.agg #[(.int .i64 0), (.int .i64 0)]) 16 rfl Try.underlying26 info71 rfl (by decide) (by omega) u6 x6_2 (⟨(rd_T71 l0 x13_2).f0, (rd_T71 l0 x13_2).f1⟩ : S71) [.int .i64 ((rd_T71 l0 x13_2).f0), .int .i64 ((rd_T71 l0 x13_2).f1)] (fun _ => True) (fun _ => False) rfl rfl ?aP (fun _ hk => hk.elim) ?aF ?aO ?aB ?aS ?aL ?_; (case aP => exact k71_mkM _ _ _ (⟨(rd_T71 l0 x13_2).f0, (rd_T71 l0 x13_2).f1⟩ : S71)); (case aB => exact (BL)); (case aF => exact (fun _ _ => trivial)); (case aO => exact (RQ HO_6.out)); (case aS => exact (below_size (BL))); (case aL => have := LMc53.out; omega); intro v137 w55 ho hb hg hat; rw [← Ny136.out] at ho; have n0_ := Aside0.mk (blk_grown (g := gb101) (o := .cells #[.int .i64 a1_0, .int .i64 a1_1, .int .i64 a1_2, .int .i64 a1_3, .int .i64 a1_4, .int .i64 a1_5, .int .i64 a1_6, .int .i64 a1_7, .int .i64 a1_8, .bool a1_9, .int .i64 a1_10] 30 (0, 0)) (BQ BK101.out) hg (Kd.R_ne HO_6.out BK101.out (by decide))); have n1_ := Aside0.mk (hb); have n2_ := Aside0.mk (ho); clear BK101; clear HB; clear HO_6; have BK101 := n0_; have HB := n1_; have HO138 := n2_; clear n0_ n1_ n2_; clear ho hb hg hat)))
      go_roundg k2
      case measure => have := HK1.out; have := HK2.out; omega
      case rel => exact ⟨(y136), (x12_2), (wrap64 (x13_2 + 1)), SD, SD, H', ⟨by have := HK1.out; have := HK2.out; omega⟩, ⟨RQ HO138.out⟩, ⟨BQ BK101.out⟩, ⟨BL⟩⟩
   rw [if_pos c20] at H
   have c20b0 : (a1_0 == 2) = true := beq_iff_eq.mpr c20
   have c20b1 : (a1_0 != 2) = false := bne_eq_false_iff_eq.mpr c20
   clear c20
   have H' := Aside0.mk H
   clear H
   have hcz21_0 : wr.cell? ⟨gb101, 0, none⟩ = some (.int .i64 a1_0) := CZ BK101.out 0
   have hcz21_1 : wr.cell? ⟨gb101, 1, none⟩ = some (.int .i64 a1_1) := CZ BK101.out 1
   have hcz21_2 : wr.cell? ⟨gb101, 2, none⟩ = some (.int .i64 a1_2) := CZ BK101.out 2
   have hcz21_3 : wr.cell? ⟨gb101, 3, none⟩ = some (.int .i64 a1_3) := CZ BK101.out 3
   have hcz21_4 : wr.cell? ⟨gb101, 4, none⟩ = some (.int .i64 a1_4) := CZ BK101.out 4
   have hcz21_5 : wr.cell? ⟨gb101, 5, none⟩ = some (.int .i64 a1_5) := CZ BK101.out 5
   have hcz21_6 : wr.cell? ⟨gb101, 6, none⟩ = some (.int .i64 a1_6) := CZ BK101.out 6
   have hcz21_7 : wr.cell? ⟨gb101, 7, none⟩ = some (.int .i64 a1_7) := CZ BK101.out 7
   have hcz21_8 : wr.cell? ⟨gb101, 8, none⟩ = some (.int .i64 a1_8) := CZ BK101.out 8
   have hcz21_9 : wr.cell? ⟨gb101, 9, none⟩ = some (.bool a1_9) := CZ BK101.out 9
   have hcz21_10 : wr.cell? ⟨gb101, 10, none⟩ = some (.int .i64 a1_10) := CZ BK101.out 10
   have hfz21_0 := blk_frozen BK101.out 0
   have hfz21_1 := blk_frozen BK101.out 1
   have hfz21_2 := blk_frozen BK101.out 2
   have hfz21_3 := blk_frozen BK101.out 3
   have hfz21_4 := blk_frozen BK101.out 4
   have hfz21_5 := blk_frozen BK101.out 5
   have hfz21_6 := blk_frozen BK101.out 6
   have hfz21_7 := blk_frozen BK101.out 7
   have hfz21_8 := blk_frozen BK101.out 8
   have hfz21_9 := blk_frozen BK101.out 9
   have hfz21_10 := blk_frozen BK101.out 10
   go_wp2
   repeat (go_quiet (fail); try go_wp2)
   go_loopg [9] k1 (fun kq v9 w' => ∃ (x9_2 : Int), v9 = .int .i64 x9_2 ∧ Aside0 (spec_DoTask.l1 kq l0 y102 x9_2 a1_0 a1_1 a1_2 a1_3 a1_4 a1_5 a1_6 a1_7 a1_8 a1_9 a1_10 = some (r1, r2)) ∧ Aside0 (kq ≤ k1) ∧ Aside0 (Kd.R k71 71 w' w.heap.size (fun _ => True) v103 y102) ∧ Aside0 (w'.heap[gb101]? = some (.cells #[.int .i64 a1_0, .int .i64 a1_1, .int .i64 a1_2, .int .i64 a1_3, .int .i64 a1_4, .int .i64 a1_5, .int .i64 a1_6, .int .i64 a1_7, .int .i64 a1_8, .bool a1_9, .int .i64 a1_10] 30 (0, 0))) ∧ Aside0 (Below w.heap.size w w'))
   case atStart => exact ⟨(0), SD, H', ⟨Nat.le_refl _⟩, ⟨RQ HO_6.out⟩, ⟨BQ BK101.out⟩, ⟨BL⟩⟩
   case round =>
    clear H'
    try clear c1
    try clear p1
    try clear q1
    try clear hx1
    try clear c2
    try clear p2
    try clear c4
    try clear p6
    try clear c9
    try clear c9b0
    try clear c10
    try clear c10b0
    try clear p10
    try clear q10
    try clear hx10
    try clear c11
    try clear c11b0
    try clear c11b1
    try clear p11
    try clear q11
    try clear hx11
    try clear c12
    try clear c12b0
    try clear c12b1
    try clear c16
    try clear c16b0
    try clear c16b1
    try clear c17
    try clear c20
    try clear c20b0
    try clear c20b1
    try clear hcz13_0
    try clear hcz13_1
    try clear hcz13_10
    try clear hcz13_2
    try clear hcz13_3
    try clear hcz13_4
    try clear hcz13_5
    try clear hcz13_6
    try clear hcz13_7
    try clear hcz13_8
    try clear hcz13_9
    try clear hcz14_0
    try clear hcz14_1
    try clear hcz14_10
    try clear hcz14_2
    try clear hcz14_3
    try clear hcz14_4
    try clear hcz14_5
    try clear hcz14_6
    try clear hcz14_7
    try clear hcz14_8
    try clear hcz14_9
    try clear hcz15_0
    try clear hcz15_1
    try clear hcz15_10
    try clear hcz15_2
    try clear hcz15_3
    try clear hcz15_4
    try clear hcz15_5
    try clear hcz15_6
    try clear hcz15_7
    try clear hcz15_8
    try clear hcz15_9
    try clear hcz18_0
    try clear hcz18_1
    try clear hcz18_10
    try clear hcz18_2
    try clear hcz18_3
    try clear hcz18_4
    try clear hcz18_5
    try clear hcz18_6
    try clear hcz18_7
    try clear hcz18_8
    try clear hcz18_9
    try clear hcz21_0
    try clear hcz21_1
    try clear hcz21_10
    try clear hcz21_2
    try clear hcz21_3
    try clear hcz21_4
    try clear hcz21_5
    try clear hcz21_6
    try clear hcz21_7
    try clear hcz21_8
    try clear hcz21_9
    try clear hcz8_0
    try clear hcz8_1
    try clear hcz8_10
    try clear hcz8_2
    try clear hcz8_3
    try clear hcz8_4
    try clear hcz8_5
    try clear hcz8_6
    try clear hcz8_7
    try clear hcz8_8
    try clear hcz8_9
    try clear hfz13_0
    try clear hfz13_1
    try clear hfz13_10
    try clear hfz13_2
    try clear hfz13_3
    try clear hfz13_4
    try clear hfz13_5
    try clear hfz13_6
    try clear hfz13_7
    try clear hfz13_8
    try clear hfz13_9
    try clear hfz14_0
    try clear hfz14_1
    try clear hfz14_10
    try clear hfz14_2
    try clear hfz14_3
    try clear hfz14_4
    try clear hfz14_5
    try clear hfz14_6
    try clear hfz14_7
    try clear hfz14_8
    try clear hfz14_9
    try clear hfz15_0
    try clear hfz15_1
    try clear hfz15_10
    try clear hfz15_2
    try clear hfz15_3
    try clear hfz15_4
    try clear hfz15_5
    try clear hfz15_6
    try clear hfz15_7
    try clear hfz15_8
    try clear hfz15_9
    try clear hfz18_0
    try clear hfz18_1
    try clear hfz18_10
    try clear hfz18_2
    try clear hfz18_3
    try clear hfz18_4
    try clear hfz18_5
    try clear hfz18_6
    try clear hfz18_7
    try clear hfz18_8
    try clear hfz18_9
    try clear hfz21_0
    try clear hfz21_1
    try clear hfz21_10
    try clear hfz21_2
    try clear hfz21_3
    try clear hfz21_4
    try clear hfz21_5
    try clear hfz21_6
    try clear hfz21_7
    try clear hfz21_8
    try clear hfz21_9
    try clear hfz8_0
    try clear hfz8_1
    try clear hfz8_10
    try clear hfz8_2
    try clear hfz8_3
    try clear hfz8_4
    try clear hfz8_5
    try clear hfz8_6
    try clear hfz8_7
    try clear hfz8_8
    try clear hfz8_9
    try clear hx109_0
    try clear hx109_1
    try clear hx110_0
    try clear hx110_1
    try clear p109
    try clear p110
    try clear p2
    try clear q109
    try clear q110
    obtain ⟨x9_2, rfl, HA, HK2, HO_6, BK101, HB⟩ := hrel
    cases gk with
    | zero => exact absurd HA.out (by simp [spec_DoTask.l1])
    | succ k2 =>
     have H := HA.out
     clear HA
     simp only [spec_DoTask.l1] at H
     by_cases c22 : x9_2 < (l0.length : Int)
     ·
      rw [if_pos c22] at H
      have c22b0 : decide (x9_2 < (l0.length : Int)) = true := decide_eq_true c22
      clear c22
      by_cases c23 : 0 ≤ x9_2; rotate_left
      ·
       rw [if_neg c23] at H
       exact absurd H (by simp)
      rw [if_pos c23] at H
      have c23b0 : decide (0 ≤ x9_2) = true := decide_eq_true c23
      clear c23
      by_cases c24 : ((rd_T71 l0 x9_2).f0) = a1_1; rotate_left
      ·
       rw [if_neg c24] at H
       have c24b0 : (((rd_T71 l0 x9_2).f0) == a1_1) = false := beq_eq_false_iff_ne.mpr c24
       have c24b1 : (((rd_T71 l0 x9_2).f0) != a1_1) = true := bne_iff_ne.mpr c24
       have H' := Aside0.mk H
       clear H
       have p114 : 0 ≤ (x9_2 : Int) := of_decide_eq_true AS
       have q114 : x9_2 < (l0.length : Int) := of_decide_eq_true AS
       obtain ⟨ad114, e114, hx114_0, hx114_1⟩ := at_T71 HR0.out x9_2 p114 q114
       cases e114
       replace hx114_0 := (HB.out.cell (World.block_lt_of_cell? w _ hx114_0)).trans hx114_0
       replace hx114_1 := (HB.out.cell (World.block_lt_of_cell? w _ hx114_1)).trans hx114_1
       replace p114 := eq_true p114
       replace q114 := eq_true q114
       have hcz30_0 : wr.cell? ⟨gb101, 0, none⟩ = some (.int .i64 a1_0) := CZ BK101.out 0
       have hcz30_1 : wr.cell? ⟨gb101, 1, none⟩ = some (.int .i64 a1_1) := CZ BK101.out 1
       have hcz30_2 : wr.cell? ⟨gb101, 2, none⟩ = some (.int .i64 a1_2) := CZ BK101.out 2
       have hcz30_3 : wr.cell? ⟨gb101, 3, none⟩ = some (.int .i64 a1_3) := CZ BK101.out 3
       have hcz30_4 : wr.cell? ⟨gb101, 4, none⟩ = some (.int .i64 a1_4) := CZ BK101.out 4
       have hcz30_5 : wr.cell? ⟨gb101, 5, none⟩ = some (.int .i64 a1_5) := CZ BK101.out 5
       have hcz30_6 : wr.cell? ⟨gb101, 6, none⟩ = some (.int .i64 a1_6) := CZ BK101.out 6
       have hcz30_7 : wr.cell? ⟨gb101, 7, none⟩ = some (.int .i64 a1_7) := CZ BK101.out 7
       have hcz30_8 : wr.cell? ⟨gb101, 8, none⟩ = some (.int .i64 a1_8) := CZ BK101.out 8
       have hcz30_9 : wr.cell? ⟨gb101, 9, none⟩ = some (.bool a1_9) := CZ BK101.out 9
       have hcz30_10 : wr.cell? ⟨gb101, 10, none⟩ = some (.int .i64 a1_10) := CZ BK101.out 10
       have hfz30_0 := blk_frozen BK101.out 0
       have hfz30_1 := blk_frozen BK101.out 1
       have hfz30_2 := blk_frozen BK101.out 2
       have hfz30_3 := blk_frozen BK101.out 3
       have hfz30_4 := blk_frozen BK101.out 4
       have hfz30_5 := blk_frozen BK101.out 5
       have hfz30_6 := blk_frozen BK101.out 6
       have hfz30_7 := blk_frozen BK101.out 7
       have hfz30_8 := blk_frozen BK101.out 8
       have hfz30_9 := blk_frozen BK101.out 9
       have hfz30_10 := blk_frozen BK101.out 10
       go_wp2
       repeat (go_quiet (fail); try go_wp2)
       go_roundg k2
       case measure => have := HK1.out; have := HK2.out; omega
       case rel => exact ⟨(wrap64 (x9_2 + 1)), SD, H', ⟨by have := HK1.out; have := HK2.out; omega⟩, ⟨RQ HO_6.out⟩, ⟨BQ BK101.out⟩, ⟨BL⟩⟩
      rw [if_pos c24] at H
      have c24b0 : (((rd_T71 l0 x9_2).f0) == a1_1) = true := beq_iff_eq.mpr c24
      have c24b1 : (((rd_T71 l0 x9_2).f0) != a1_1) = false := bne_eq_false_iff_eq.mpr c24
      clear c24
      obtain ⟨y115, hy115⟩ : ∃ y_ : List (S71), y_ = (([] : List (S71))) := ⟨_, rfl⟩
      replace H : (if y115.length + l0.length < 8796093022208 then (some ((y115 ++ l0), 0)) else (none)) = some (r1, r2) := by first | (rw [hy115]; with_reducible exact H) | (have H2_ := (Option.bind_some _ _).symm.trans H; rw [hy115]; with_reducible exact H2_) | (have H2_ := (Option.bind_some _ _).symm.trans H; with_reducible exact H2_) | with_reducible exact H | (rw [hy115]; exact H) | exact H
      have Ny115 := Aside0.mk hy115
      clear hy115
      by_cases c25 : y115.length + l0.length < 8796093022208; rotate_left
      ·
       rw [if_neg c25] at H
       exact absurd H (by simp)
      rw [if_pos c25] at H
      have LMc25 := Aside0.mk c25
      clear c25
      obtain ⟨y118, hy118⟩ : ∃ y_ : List (S71), y_ = (y115 ++ l0) := ⟨_, rfl⟩
      replace H : (some (y118, 0)) = some (r1, r2) := by first | (rw [hy118]; with_reducible exact H) | (have H2_ := (Option.bind_some _ _).symm.trans H; rw [hy118]; with_reducible exact H2_) | (have H2_ := (Option.bind_some _ _).symm.trans H; with_reducible exact H2_) | with_reducible exact H | (rw [hy118]; exact H) | exact H
      have Ny118 := Aside0.mk hy118
      clear hy118
      simp only [Option.some.injEq, Prod.mk.injEq] at H
      obtain ⟨rfl, rfl⟩ := H
      have p114 : 0 ≤ (x9_2 : Int) := of_decide_eq_true AS
      have q114 : x9_2 < (l0.length : Int) := of_decide_eq_true AS
      obtain ⟨ad114, e114, hx114_0, hx114_1⟩ := at_T71 HR0.out x9_2 p114 q114
      cases e114
      replace hx114_0 := (HB.out.cell (World.block_lt_of_cell? w _ hx114_0)).trans hx114_0
      replace hx114_1 := (HB.out.cell (World.block_lt_of_cell? w _ hx114_1)).trans hx114_1
      replace p114 := eq_true p114
      replace q114 := eq_true q114
      have hcz26_0 : wr.cell? ⟨gb101, 0, none⟩ = some (.int .i64 a1_0) := CZ BK101.out 0
      have hcz26_1 : wr.cell? ⟨gb101, 1, none⟩ = some (.int .i64 a1_1) := CZ BK101.out 1
      have hcz26_2 : wr.cell? ⟨gb101, 2, none⟩ = some (.int .i64 a1_2) := CZ BK101.out 2
      have hcz26_3 : wr.cell? ⟨gb101, 3, none⟩ = some (.int .i64 a1_3) := CZ BK101.out 3
      have hcz26_4 : wr.cell? ⟨gb101, 4, none⟩ = some (.int .i64 a1_4) := CZ BK101.out 4
      have hcz26_5 : wr.cell? ⟨gb101, 5, none⟩ = some (.int .i64 a1_5) := CZ BK101.out 5
      have hcz26_6 : wr.cell? ⟨gb101, 6, none⟩ = some (.int .i64 a1_6) := CZ BK101.out 6
      have hcz26_7 : wr.cell? ⟨gb101, 7, none⟩ = some (.int .i64 a1_7) := CZ BK101.out 7
      have hcz26_8 : wr.cell? ⟨gb101, 8, none⟩ = some (.int .i64 a1_8) := CZ BK101.out 8
      have hcz26_9 : wr.cell? ⟨gb101, 9, none⟩ = some (.bool a1_9) := CZ BK101.out 9
      have hcz26_10 : wr.cell? ⟨gb101, 10, none⟩ = some (.int .i64 a1_10) := CZ BK101.out 10
      have hfz26_0 := blk_frozen BK101.out 0
      have hfz26_1 := blk_frozen BK101.out 1
      have hfz26_2 := blk_frozen BK101.out 2
      have hfz26_3 := blk_frozen BK101.out 3
      have hfz26_4 := blk_frozen BK101.out 4
      have hfz26_5 := blk_frozen BK101.out 5
      have hfz26_6 := blk_frozen BK101.out 6
      have hfz26_7 := blk_frozen BK101.out 7
      have hfz26_8 := blk_frozen BK101.out 8
      have hfz26_9 := blk_frozen BK101.out 9
      have hfz26_10 := blk_frozen BK101.out 10
      go_wp2_with (first | ((with_reducible refine gate_dst (N := 70) rfl ?_); refine Kd.R_lit k71 _ 71 ?hg (N := 70) ?hd (xs := ([] : List (S71))) (inner := []) (ok := fun _ => True) (okp := fun _ => True) ?hr ?hp (fun _ hk => hk) trivial (Below.refl _ _) (Nat.le_refl _) (by simp) ?_; (case hd => rfl); (case hg => rfl); (case hr => first | (go_simp; done) | (go_simp; rfl)); (case hp => exact (Reps.none _ _)); intro v116 w27 ho28 hb hg_ hnew_; clear hg_ hnew_; (first | rw [← Ny115.out] at ho28 | (simp only [Int.reduceToNat] at ho28; rw [← Ny115.out] at ho28)); have HO117 := Aside0.mk (Kd.R_lower (Kd.R_new' ho28 (Kd.R_lt (RQ HO_6.out))) (below_size (BL))); replace HO_6 := Aside0.mk (Kd.R_elder' (RQ HO_6.out) (Kd.R_base ho28) hb); replace BK101 := BB BK101.out hb; replace HB := Aside0.mk (below_step (BL) hb); clear hb ho28) | ((with_reducible refine gate_builtin (b := .append) (xs := #[.tmp 70, .tmp 71]) rfl ?_); at_builtin; refine Kd.R_append_rows k71 (w0 := w) w.heap.size rfl (.tmp 70) (.tmp 71) 26 71 (.agg #[(.int .i64 0), (.int .i64 0)]) 16 rfl Try.underlying26 info71 rfl (by decide) (by omega) v116 y115 l0 _ _ _ (fun k_ => some k_ ≠ (v103 : Value).ownBlock) (fun _ => False) rfl rfl ?aO ?aR (fun _ _ h => h) (fun _ h => h.elim) ?aF ?aB ?aS ?aL ?_; (case aR => repeat (first | exact (Kd.C_below HR0.out HB.out) | (with_reducible refine Kd.C_alloc ?_ _) | (with_reducible refine Kd.C_drewN ?_ _) | (with_reducible refine Kd.C_drew ?_))); (case aB => exact (BL)); (case aF => exact (fun k_ hk => Kd.fresh' (Kd.R_lt (RQ HO_6.out)) k_ hk)); (case aO => exact (by (with_reducible repeat (first | apply r1 | apply r2 | apply r3)); exact Kd.R_mono HO117.out (fun _ hk => hk.2))); (case aS => exact (below_size (BL))); (case aL => have := LMc25.out; omega); intro v119 w29 ho hb hg hat; rw [← Ny118.out] at ho; have n0_ := Aside0.mk (Kd.R_after (ok := (fun _ => True)) (RQ HO_6.out) hg hat); have n1_ := Aside0.mk (blk_grown (g := gb101) (o := .cells #[.int .i64 a1_0, .int .i64 a1_1, .int .i64 a1_2, .int .i64 a1_3, .int .i64 a1_4, .int .i64 a1_5, .int .i64 a1_6, .int .i64 a1_7, .int .i64 a1_8, .bool a1_9, .int .i64 a1_10] 30 (0, 0)) (BQ BK101.out) hg (Kd.R_ne HO117.out BK101.out (by decide))); have n2_ := Aside0.mk (hb); have n3_ := Aside0.mk (ho); clear HO_6; clear BK101; clear HB; clear HO117; have HO_6 := n0_; have BK101 := n1_; have HB := n2_; have HO120 := n3_; clear n0_ n1_ n2_ n3_; clear ho hb hg hat))
      repeat (go_quiet (first | ((with_reducible refine gate_dst (N := 70) rfl ?_); refine Kd.R_lit k71 _ 71 ?hg (N := 70) ?hd (xs := ([] : List (S71))) (inner := []) (ok := fun _ => True) (okp := fun _ => True) ?hr ?hp (fun _ hk => hk) trivial (Below.refl _ _) (Nat.le_refl _) (by simp) ?_; (case hd => rfl); (case hg => rfl); (case hr => first | (go_simp; done) | (go_simp; rfl)); (case hp => exact (Reps.none _ _)); intro v116 w27 ho28 hb hg_ hnew_; clear hg_ hnew_; (first | rw [← Ny115.out] at ho28 | (simp only [Int.reduceToNat] at ho28; rw [← Ny115.out] at ho28)); have HO117 := Aside0.mk (Kd.R_lower (Kd.R_new' ho28 (Kd.R_lt (RQ HO_6.out))) (below_size (BL))); replace HO_6 := Aside0.mk (Kd.R_elder' (RQ HO_6.out) (Kd.R_base ho28) hb); replace BK101 := BB BK101.out hb; replace HB := Aside0.mk (below_step (BL) hb); clear hb ho28) | ((with_reducible refine gate_builtin (b := .append) (xs := #[.tmp 70, .tmp 71]) rfl ?_); at_builtin; refine Kd.R_append_rows k71 (w0 := w) w.heap.size rfl (.tmp 70) (.tmp 71) 26 71 (.agg #[(.int .i64 0), (.int .i64 0)]) 16 rfl Try.underlying26 info71 rfl (by decide) (by omega) v116 y115 l0 _ _ _ (fun k_ => some k_ ≠ (v103 : Value).ownBlock) (fun _ => False) rfl rfl ?aO ?aR (fun _ _ h => h) (fun _ h => h.elim) ?aF ?aB ?aS ?aL ?_; (case aR => repeat (first | exact (Kd.C_below HR0.out HB.out) | (with_reducible refine Kd.C_alloc ?_ _) | (with_reducible refine Kd.C_drewN ?_ _) | (with_reducible refine Kd.C_drew ?_))); (case aB => exact (BL)); (case aF => exact (fun k_ hk => Kd.fresh' (Kd.R_lt (RQ HO_6.out)) k_ hk)); (case aO => exact (by (with_reducible repeat (first | apply r1 | apply r2 | apply r3)); exact Kd.R_mono HO117.out (fun _ hk => hk.2))); (case aS => exact (below_size (BL))); (case aL => have := LMc25.out; omega); intro v119 w29 ho hb hg hat; rw [← Ny118.out] at ho; have n0_ := Aside0.mk (Kd.R_after (ok := (fun _ => True)) (RQ HO_6.out) hg hat); have n1_ := Aside0.mk (blk_grown (g := gb101) (o := .cells #[.int .i64 a1_0, .int .i64 a1_1, .int .i64 a1_2, .int .i64 a1_3, .int .i64 a1_4, .int .i64 a1_5, .int .i64 a1_6, .int .i64 a1_7, .int .i64 a1_8, .bool a1_9, .int .i64 a1_10] 30 (0, 0)) (BQ BK101.out) hg (Kd.R_ne HO117.out BK101.out (by decide))); have n2_ := Aside0.mk (hb); have n3_ := Aside0.mk (ho); clear HO_6; clear BK101; clear HB; clear HO117; have HO_6 := n0_; have BK101 := n1_; have HB := n2_; have HO120 := n3_; clear n0_ n1_ n2_ n3_; clear ho hb hg hat)); try go_wp2_with (first | ((with_reducible refine gate_dst (N := 70) rfl ?_); refine Kd.R_lit k71 _ 71 ?hg (N := 70) ?hd (xs := ([] : List (S71))) (inner := []) (ok := fun _ => True) (okp := fun _ => True) ?hr ?hp (fun _ hk => hk) trivial (Below.refl _ _) (Nat.le_refl _) (by simp) ?_; (case hd => rfl); (case hg => rfl); (case hr => first | (go_simp; done) | (go_simp; rfl)); (case hp => exact (Reps.none _ _)); intro v116 w27 ho28 hb hg_ hnew_; clear hg_ hnew_; (first | rw [← Ny115.out] at ho28 | (simp only [Int.reduceToNat] at ho28; rw [← Ny115.out] at ho28)); have HO117 := Aside0.mk (Kd.R_lower (Kd.R_new' ho28 (Kd.R_lt (RQ HO_6.out))) (below_size (BL))); replace HO_6 := Aside0.mk (Kd.R_elder' (RQ HO_6.out) (Kd.R_base ho28) hb); replace BK101 := BB BK101.out hb; replace HB := Aside0.mk (below_step (BL) hb); clear hb ho28) | ((with_reducible refine gate_builtin (b := .append) (xs := #[.tmp 70, .tmp 71]) rfl ?_); at_builtin; refine Kd.R_append_rows k71 (w0 := w) w.heap.size rfl (.tmp 70) (.tmp 71) 26 71 (.agg #[(.int .i64 0), (.int .i64 0)]) 16 rfl Try.underlying26 info71 rfl (by decide) (by omega) v116 y115 l0 _ _ _ (fun k_ => some k_ ≠ (v103 : Value).ownBlock) (fun _ => False) rfl rfl ?aO ?aR (fun _ _ h => h) (fun _ h => h.elim) ?aF ?aB ?aS ?aL ?_; (case aR => repeat (first | exact (Kd.C_below HR0.out HB.out) | (with_reducible refine Kd.C_alloc ?_ _) | (with_reducible refine Kd.C_drewN ?_ _) | (with_reducible refine Kd.C_drew ?_))); (case aB => exact (BL)); (case aF => exact (fun k_ hk => Kd.fresh' (Kd.R_lt (RQ HO_6.out)) k_ hk)); (case aO => exact (by (with_reducible repeat (first | apply r1 | apply r2 | apply r3)); exact Kd.R_mono HO117.out (fun _ hk => hk.2))); (case aS => exact (below_size (BL))); (case aL => have := LMc25.out; omega); intro v119 w29 ho hb hg hat; rw [← Ny118.out] at ho; have n0_ := Aside0.mk (Kd.R_after (ok := (fun _ => True)) (RQ HO_6.out) hg hat); have n1_ := Aside0.mk (blk_grown (g := gb101) (o := .cells #[.int .i64 a1_0, .int .i64 a1_1, .int .i64 a1_2, .int .i64 a1_3, .int .i64 a1_4, .int .i64 a1_5, .int .i64 a1_6, .int .i64 a1_7, .int .i64 a1_8, .bool a1_9, .int .i64 a1_10] 30 (0, 0)) (BQ BK101.out) hg (Kd.R_ne HO117.out BK101.out (by decide))); have n2_ := Aside0.mk (hb); have n3_ := Aside0.mk (ho); clear HO_6; clear BK101; clear HB; clear HO117; have HO_6 := n0_; have BK101 := n1_; have HB := n2_; have HO120 := n3_; clear n0_ n1_ n2_ n3_; clear ho hb hg hat)))
      go_ret2
      exact ⟨_, EE, by (with_reducible repeat (first | apply r1 | apply r2 | apply r3)); exact Kd.R_mono HO120.out (fun _ hk => trivial), BL⟩
     rw [if_neg c22] at H
     have c22b0 : decide (x9_2 < (l0.length : Int)) = false := decide_eq_false c22
     clear c22
     have H' := Aside0.mk H
     clear H
     go_wp2
     repeat (go_quiet (fail); try go_wp2)
     go_loopg [6, 10] k2 (fun kq v6 v10 w' => ∃ (x6_3 : List (S71)) (x10_3 : Int), v10 = .int .i64 x10_3 ∧ Aside0 (spec_DoTask.l2 kq l0 x6_3 x10_3 a1_0 a1_1 a1_2 a1_3 a1_4 a1_5 a1_6 a1_7 a1_8 a1_9 a1_10 = some (r1, r2)) ∧ Aside0 (kq ≤ k2) ∧ Aside0 (Kd.R k71 71 w' w.heap.size (fun _ => True) v6 x6_3) ∧ Aside0 (w'.heap[gb101]? = some (.cells #[.int .i64 a1_0, .int .i64 a1_1, .int .i64 a1_2, .int .i64 a1_3, .int .i64 a1_4, .int .i64 a1_5, .int .i64 a1_6, .int .i64 a1_7, .int .i64 a1_8, .bool a1_9, .int .i64 a1_10] 30 (0, 0))) ∧ Aside0 (Below w.heap.size w w'))
     case atStart => exact ⟨(y102), (0), SD, H', ⟨Nat.le_refl _⟩, ⟨RQ HO_6.out⟩, ⟨BQ BK101.out⟩, ⟨BL⟩⟩
     case round =>
      clear H'
      try clear c1
      try clear p1
      try clear q1
      try clear hx1
      try clear c2
      try clear p2
      try clear c4
      try clear p6
      try clear c9
      try clear c9b0
      try clear c10
      try clear c10b0
      try clear p10
      try clear q10
      try clear hx10
      try clear c11
      try clear c11b0
      try clear c11b1
      try clear p11
      try clear q11
      try clear hx11
      try clear c12
      try clear c12b0
      try clear c12b1
      try clear c16
      try clear c16b0
      try clear c16b1
      try clear c17
      try clear c20
      try clear c20b0
      try clear c20b1
      try clear c22
      try clear c22b0
      try clear c23
      try clear c23b0
      try clear c24
      try clear c24b0
      try clear c24b1
      try clear c25
      try clear hcz13_0
      try clear hcz13_1
      try clear hcz13_10
      try clear hcz13_2
      try clear hcz13_3
      try clear hcz13_4
      try clear hcz13_5
      try clear hcz13_6
      try clear hcz13_7
      try clear hcz13_8
      try clear hcz13_9
      try clear hcz14_0
      try clear hcz14_1
      try clear hcz14_10
      try clear hcz14_2
      try clear hcz14_3
      try clear hcz14_4
      try clear hcz14_5
      try clear hcz14_6
      try clear hcz14_7
      try clear hcz14_8
      try clear hcz14_9
      try clear hcz15_0
      try clear hcz15_1
      try clear hcz15_10
      try clear hcz15_2
      try clear hcz15_3
      try clear hcz15_4
      try clear hcz15_5
      try clear hcz15_6
      try clear hcz15_7
      try clear hcz15_8
      try clear hcz15_9
      try clear hcz18_0
      try clear hcz18_1
      try clear hcz18_10
      try clear hcz18_2
      try clear hcz18_3
      try clear hcz18_4
      try clear hcz18_5
      try clear hcz18_6
      try clear hcz18_7
      try clear hcz18_8
      try clear hcz18_9
      try clear hcz21_0
      try clear hcz21_1
      try clear hcz21_10
      try clear hcz21_2
      try clear hcz21_3
      try clear hcz21_4
      try clear hcz21_5
      try clear hcz21_6
      try clear hcz21_7
      try clear hcz21_8
      try clear hcz21_9
      try clear hcz26_0
      try clear hcz26_1
      try clear hcz26_10
      try clear hcz26_2
      try clear hcz26_3
      try clear hcz26_4
      try clear hcz26_5
      try clear hcz26_6
      try clear hcz26_7
      try clear hcz26_8
      try clear hcz26_9
      try clear hcz30_0
      try clear hcz30_1
      try clear hcz30_10
      try clear hcz30_2
      try clear hcz30_3
      try clear hcz30_4
      try clear hcz30_5
      try clear hcz30_6
      try clear hcz30_7
      try clear hcz30_8
      try clear hcz30_9
      try clear hcz8_0
      try clear hcz8_1
      try clear hcz8_10
      try clear hcz8_2
      try clear hcz8_3
      try clear hcz8_4
      try clear hcz8_5
      try clear hcz8_6
      try clear hcz8_7
      try clear hcz8_8
      try clear hcz8_9
      try clear hfz13_0
      try clear hfz13_1
      try clear hfz13_10
      try clear hfz13_2
      try clear hfz13_3
      try clear hfz13_4
      try clear hfz13_5
      try clear hfz13_6
      try clear hfz13_7
      try clear hfz13_8
      try clear hfz13_9
      try clear hfz14_0
      try clear hfz14_1
      try clear hfz14_10
      try clear hfz14_2
      try clear hfz14_3
      try clear hfz14_4
      try clear hfz14_5
      try clear hfz14_6
      try clear hfz14_7
      try clear hfz14_8
      try clear hfz14_9
      try clear hfz15_0
      try clear hfz15_1
      try clear hfz15_10
      try clear hfz15_2
      try clear hfz15_3
      try clear hfz15_4
      try clear hfz15_5
      try clear hfz15_6
      try clear hfz15_7
      try clear hfz15_8
      try clear hfz15_9
      try clear hfz18_0
      try clear hfz18_1
      try clear hfz18_10
      try clear hfz18_2
      try clear hfz18_3
      try clear hfz18_4
      try clear hfz18_5
      try clear hfz18_6
      try clear hfz18_7
      try clear hfz18_8
      try clear hfz18_9
      try clear hfz21_0
      try clear hfz21_1
      try clear hfz21_10
      try clear hfz21_2
      try clear hfz21_3
      try clear hfz21_4
      try clear hfz21_5
      try clear hfz21_6
      try clear hfz21_7
      try clear hfz21_8
      try clear hfz21_9
      try clear hfz26_0
      try clear hfz26_1
      try clear hfz26_10
      try clear hfz26_2
      try clear hfz26_3
      try clear hfz26_4
      try clear hfz26_5
      try clear hfz26_6
      try clear hfz26_7
      try clear hfz26_8
      try clear hfz26_9
      try clear hfz30_0
      try clear hfz30_1
      try clear hfz30_10
      try clear hfz30_2
      try clear hfz30_3
      try clear hfz30_4
      try clear hfz30_5
      try clear hfz30_6
      try clear hfz30_7
      try clear hfz30_8
      try clear hfz30_9
      try clear hfz8_0
      try clear hfz8_1
      try clear hfz8_10
      try clear hfz8_2
      try clear hfz8_3
      try clear hfz8_4
      try clear hfz8_5
      try clear hfz8_6
      try clear hfz8_7
      try clear hfz8_8
      try clear hfz8_9
      try clear hx109_0
      try clear hx109_1
      try clear hx110_0
      try clear hx110_1
      try clear hx114_0
      try clear hx114_1
      try clear p1
      try clear p10
      try clear p109
      try clear p11
      try clear p110
      try clear p114
      try clear p2
      try clear p6
      try clear q1
      try clear q10
      try clear q109
      try clear q11
      try clear q110
      try clear q114
      obtain ⟨x6_3, x10_3, rfl, HA, HK3, HO_6, BK101, HB⟩ := hrel
      cases gk with
      | zero => exact absurd HA.out (by simp [spec_DoTask.l2])
      | succ k3 =>
       have H := HA.out
       clear HA
       simp only [spec_DoTask.l2] at H
       by_cases c31 : x10_3 < (l0.length : Int)
       ·
        rw [if_pos c31] at H
        have c31b0 : decide (x10_3 < (l0.length : Int)) = true := decide_eq_true c31
        clear c31
        by_cases c32 : 0 ≤ x10_3; rotate_left
        ·
         rw [if_neg c32] at H
         exact absurd H (by simp)
        rw [if_pos c32] at H
        have c32b0 : decide (0 ≤ x10_3) = true := decide_eq_true c32
        clear c32
        by_cases c33 : ((rd_T71 l0 x10_3).f0) < a1_1; rotate_left
        ·
         rw [if_neg c33] at H
         have c33b0 : decide (((rd_T71 l0 x10_3).f0) < a1_1) = false := decide_eq_false c33
         clear c33
         have H' := Aside0.mk H
         clear H
         have p121 : 0 ≤ (x10_3 : Int) := of_decide_eq_true AS
         have q121 : x10_3 < (l0.length : Int) := of_decide_eq_true AS
         obtain ⟨ad121, e121, hx121_0, hx121_1⟩ := at_T71 HR0.out x10_3 p121 q121
         cases e121
         replace hx121_0 := (HB.out.cell (World.block_lt_of_cell? w _ hx121_0)).trans hx121_0
         replace hx121_1 := (HB.out.cell (World.block_lt_of_cell? w _ hx121_1)).trans hx121_1
         replace p121 := eq_true p121
         replace q121 := eq_true q121
         have hcz37_0 : wr.cell? ⟨gb101, 0, none⟩ = some (.int .i64 a1_0) := CZ BK101.out 0
         have hcz37_1 : wr.cell? ⟨gb101, 1, none⟩ = some (.int .i64 a1_1) := CZ BK101.out 1
         have hcz37_2 : wr.cell? ⟨gb101, 2, none⟩ = some (.int .i64 a1_2) := CZ BK101.out 2
         have hcz37_3 : wr.cell? ⟨gb101, 3, none⟩ = some (.int .i64 a1_3) := CZ BK101.out 3
         have hcz37_4 : wr.cell? ⟨gb101, 4, none⟩ = some (.int .i64 a1_4) := CZ BK101.out 4
         have hcz37_5 : wr.cell? ⟨gb101, 5, none⟩ = some (.int .i64 a1_5) := CZ BK101.out 5
         have hcz37_6 : wr.cell? ⟨gb101, 6, none⟩ = some (.int .i64 a1_6) := CZ BK101.out 6
         have hcz37_7 : wr.cell? ⟨gb101, 7, none⟩ = some (.int .i64 a1_7) := CZ BK101.out 7
         have hcz37_8 : wr.cell? ⟨gb101, 8, none⟩ = some (.int .i64 a1_8) := CZ BK101.out 8
         have hcz37_9 : wr.cell? ⟨gb101, 9, none⟩ = some (.bool a1_9) := CZ BK101.out 9
         have hcz37_10 : wr.cell? ⟨gb101, 10, none⟩ = some (.int .i64 a1_10) := CZ BK101.out 10
         have hfz37_0 := blk_frozen BK101.out 0
         have hfz37_1 := blk_frozen BK101.out 1
         have hfz37_2 := blk_frozen BK101.out 2
         have hfz37_3 := blk_frozen BK101.out 3
         have hfz37_4 := blk_frozen BK101.out 4
         have hfz37_5 := blk_frozen BK101.out 5
         have hfz37_6 := blk_frozen BK101.out 6
         have hfz37_7 := blk_frozen BK101.out 7
         have hfz37_8 := blk_frozen BK101.out 8
         have hfz37_9 := blk_frozen BK101.out 9
         have hfz37_10 := blk_frozen BK101.out 10
         go_wp2
         repeat (go_quiet (fail); try go_wp2)
         go_roundg k3
         case measure => have := HK1.out; have := HK2.out; have := HK3.out; omega
         case rel => exact ⟨(x6_3), (wrap64 (x10_3 + 1)), SD, H', ⟨by have := HK1.out; have := HK2.out; have := HK3.out; omega⟩, ⟨RQ HO_6.out⟩, ⟨BQ BK101.out⟩, ⟨BL⟩⟩
        rw [if_pos c33] at H
        have c33b0 : decide (((rd_T71 l0 x10_3).f0) < a1_1) = true := decide_eq_true c33
        clear c33
        by_cases c34 : x6_3.length < 8796093022208; rotate_left
        ·
         rw [if_neg c34] at H
         exact absurd H (by simp)
        rw [if_pos c34] at H
        have LMc34 := Aside0.mk c34
        clear c34
        obtain ⟨y123, hy123⟩ : ∃ y_ : List (S71), y_ = (x6_3 ++ [(⟨(rd_T71 l0 x10_3).f0, (rd_T71 l0 x10_3).f1⟩ : S71)]) := ⟨_, rfl⟩
        replace H : (spec_DoTask.l2 k3 l0 y123 (wrap64 (x10_3 + 1)) a1_0 a1_1 a1_2 a1_3 a1_4 a1_5 a1_6 a1_7 a1_8 a1_9 a1_10) = some (r1, r2) := by first | (rw [hy123]; with_reducible exact H) | (have H2_ := (Option.bind_some _ _).symm.trans H; rw [hy123]; with_reducible exact H2_) | (have H2_ := (Option.bind_some _ _).symm.trans H; with_reducible exact H2_) | with_reducible exact H | (rw [hy123]; exact H) | exact H
        have Ny123 := Aside0.mk hy123
        clear hy123
        have H' := Aside0.mk H
        clear H
        have p121 : 0 ≤ (x10_3 : Int) := of_decide_eq_true AS
        have q121 : x10_3 < (l0.length : Int) := of_decide_eq_true AS
        obtain ⟨ad121, e121, hx121_0, hx121_1⟩ := at_T71 HR0.out x10_3 p121 q121
        cases e121
        replace hx121_0 := (HB.out.cell (World.block_lt_of_cell? w _ hx121_0)).trans hx121_0
        replace hx121_1 := (HB.out.cell (World.block_lt_of_cell? w _ hx121_1)).trans hx121_1
        replace p121 := eq_true p121
        replace q121 := eq_true q121
        have hcz35_0 : wr.cell? ⟨gb101, 0, none⟩ = some (.int .i64 a1_0) := CZ BK101.out 0
        have hcz35_1 : wr.cell? ⟨gb101, 1, none⟩ = some (.int .i64 a1_1) := CZ BK101.out 1
        have hcz35_2 : wr.cell? ⟨gb101, 2, none⟩ = some (.int .i64 a1_2) := CZ BK101.out 2
        have hcz35_3 : wr.cell? ⟨gb101, 3, none⟩ = some (.int .i64 a1_3) := CZ BK101.out 3
        have hcz35_4 : wr.cell? ⟨gb101, 4, none⟩ = some (.int .i64 a1_4) := CZ BK101.out 4
        have hcz35_5 : wr.cell? ⟨gb101, 5, none⟩ = some (.int .i64 a1_5) := CZ BK101.out 5
        have hcz35_6 : wr.cell? ⟨gb101, 6, none⟩ = some (.int .i64 a1_6) := CZ BK101.out 6
        have hcz35_7 : wr.cell? ⟨gb101, 7, none⟩ = some (.int .i64 a1_7) := CZ BK101.out 7
        have hcz35_8 : wr.cell? ⟨gb101, 8, none⟩ = some (.int .i64 a1_8) := CZ BK101.out 8
        have hcz35_9 : wr.cell? ⟨gb101, 9, none⟩ = some (.bool a1_9) := CZ BK101.out 9
        have hcz35_10 : wr.cell? ⟨gb101, 10, none⟩ = some (.int .i64 a1_10) := CZ BK101.out 10
        have hfz35_0 := blk_frozen BK101.out 0
        have hfz35_1 := blk_frozen BK101.out 1
        have hfz35_2 := blk_frozen BK101.out 2
        have hfz35_3 := blk_frozen BK101.out 3
        have hfz35_4 := blk_frozen BK101.out 4
        have hfz35_5 := blk_frozen BK101.out 5
        have hfz35_6 := blk_frozen BK101.out 6
        have hfz35_7 := blk_frozen BK101.out 7
        have hfz35_8 := blk_frozen BK101.out 8
        have hfz35_9 := blk_frozen BK101.out 9
        have hfz35_10 := blk_frozen BK101.out 10
        have p122 : 0 ≤ (x10_3 : Int) := of_decide_eq_true AS
        have q122 : x10_3 < (l0.length : Int) := of_decide_eq_true AS
        obtain ⟨ad122, e122, hx122_0, hx122_1⟩ := at_T71 HR0.out x10_3 p122 q122
        obtain rfl : ad121 = ad122 := (by injection e122)
        replace hx122_0 := (HB.out.cell (World.block_lt_of_cell? w _ hx122_0)).trans hx122_0
        replace hx122_1 := (HB.out.cell (World.block_lt_of_cell? w _ hx122_1)).trans hx122_1
        replace p122 := eq_true p122
        replace q122 := eq_true q122
        go_wp2_with (first | ((with_reducible refine gate_builtin (b := .append) (xs := #[.tmp 87, .tmp 92]) rfl ?_); at_builtin; refine Kd.R_append k71 (w0 := w) w.heap.size rfl (.tmp 87) (.tmp 92) 26 71 (.agg #[(.int .i64 0), (.int .i64 0)]) 16 rfl Try.underlying26 info71 rfl (by decide) (by omega) u6 x6_3 (⟨(rd_T71 l0 x10_3).f0, (rd_T71 l0 x10_3).f1⟩ : S71) [.int .i64 ((rd_T71 l0 x10_3).f0), .int .i64 ((rd_T71 l0 x10_3).f1)] (fun _ => True) (fun _ => False) rfl rfl ?aP (fun _ hk => hk.elim) ?aF ?aO ?aB ?aS ?aL ?_; (case aP => exact k71_mkM _ _ _ (⟨(rd_T71 l0 x10_3).f0, (rd_T71 l0 x10_3).f1⟩ : S71)); (case aB => exact (BL)); (case aF => exact (fun _ _ => trivial)); (case aO => exact (RQ HO_6.out)); (case aS => exact (below_size (BL))); (case aL => have := LMc34.out; omega); intro v124 w36 ho hb hg hat; rw [← Ny123.out] at ho; have n0_ := Aside0.mk (blk_grown (g := gb101) (o := .cells #[.int .i64 a1_0, .int .i64 a1_1, .int .i64 a1_2, .int .i64 a1_3, .int .i64 a1_4, .int .i64 a1_5, .int .i64 a1_6, .int .i64 a1_7, .int .i64 a1_8, .bool a1_9, .int .i64 a1_10] 30 (0, 0)) (BQ BK101.out) hg (Kd.R_ne HO_6.out BK101.out (by decide))); have n1_ := Aside0.mk (hb); have n2_ := Aside0.mk (ho); clear BK101; clear HB; clear HO_6; have BK101 := n0_; have HB := n1_; have HO125 := n2_; clear n0_ n1_ n2_; clear ho hb hg hat))
        repeat (go_quiet (first | ((with_reducible refine gate_builtin (b := .append) (xs := #[.tmp 87, .tmp 92]) rfl ?_); at_builtin; refine Kd.R_append k71 (w0 := w) w.heap.size rfl (.tmp 87) (.tmp 92) 26 71 (.agg #[(.int .i64 0), (.int .i64 0)]) 16 rfl Try.underlying26 info71 rfl (by decide) (by omega) u6 x6_3 (⟨(rd_T71 l0 x10_3).f0, (rd_T71 l0 x10_3).f1⟩ : S71) [.int .i64 ((rd_T71 l0 x10_3).f0), .int .i64 ((rd_T71 l0 x10_3).f1)] (fun _ => True) (fun _ => False) rfl rfl ?aP (fun _ hk => hk.elim) ?aF ?aO ?aB ?aS ?aL ?_; (case aP => exact k71_mkM _ _ _ (⟨(rd_T71 l0 x10_3).f0, (rd_T71 l0 x10_3).f1⟩ : S71)); (case aB => exact (BL)); (case aF => exact (fun _ _ => trivial)); (case aO => exact (RQ HO_6.out)); (case aS => exact (below_size (BL))); (case aL => have := LMc34.out; omega); intro v124 w36 ho hb hg hat; rw [← Ny123.out] at ho; have n0_ := Aside0.mk (blk_grown (g := gb101) (o := .cells #[.int .i64 a1_0, .int .i64 a1_1, .int .i64 a1_2, .int .i64 a1_3, .int .i64 a1_4, .int .i64 a1_5, .int .i64 a1_6, .int .i64 a1_7, .int .i64 a1_8, .bool a1_9, .int .i64 a1_10] 30 (0, 0)) (BQ BK101.out) hg (Kd.R_ne HO_6.out BK101.out (by decide))); have n1_ := Aside0.mk (hb); have n2_ := Aside0.mk (ho); clear BK101; clear HB; clear HO_6; have BK101 := n0_; have HB := n1_; have HO125 := n2_; clear n0_ n1_ n2_; clear ho hb hg hat)); try go_wp2_with (first | ((with_reducible refine gate_builtin (b := .append) (xs := #[.tmp 87, .tmp 92]) rfl ?_); at_builtin; refine Kd.R_append k71 (w0 := w) w.heap.size rfl (.tmp 87) (.tmp 92) 26 71 (.agg #[(.int .i64 0), (.int .i64 0)]) 16 rfl Try.underlying26 info71 rfl (by decide) (by omega) u6 x6_3 (⟨(rd_T71 l0 x10_3).f0, (rd_T71 l0 x10_3).f1⟩ : S71) [.int .i64 ((rd_T71 l0 x10_3).f0), .int .i64 ((rd_T71 l0 x10_3).f1)] (fun _ => True) (fun _ => False) rfl rfl ?aP (fun _ hk => hk.elim) ?aF ?aO ?aB ?aS ?aL ?_; (case aP => exact k71_mkM _ _ _ (⟨(rd_T71 l0 x10_3).f0, (rd_T71 l0 x10_3).f1⟩ : S71)); (case aB => exact (BL)); (case aF => exact (fun _ _ => trivial)); (case aO => exact (RQ HO_6.out)); (case aS => exact (below_size (BL))); (case aL => have := LMc34.out; omega); intro v124 w36 ho hb hg hat; rw [← Ny123.out] at ho; have n0_ := Aside0.mk (blk_grown (g := gb101) (o := .cells #[.int .i64 a1_0, .int .i64 a1_1, .int .i64 a1_2, .int .i64 a1_3, .int .i64 a1_4, .int .i64 a1_5, .int .i64 a1_6, .int .i64 a1_7, .int .i64 a1_8, .bool a1_9, .int .i64 a1_10] 30 (0, 0)) (BQ BK101.out) hg (Kd.R_ne HO_6.out BK101.out (by decide))); have n1_ := Aside0.mk (hb); have n2_ := Aside0.mk (ho); clear BK101; clear HB; clear HO_6; have BK101 := n0_; have HB := n1_; have HO125 := n2_; clear n0_ n1_ n2_; clear ho hb hg hat)))
        go_roundg k3
        case measure => have := HK1.out; have := HK2.out; have := HK3.out; omega
        case rel => exact ⟨(y123), (wrap64 (x10_3 + 1)), SD, H', ⟨by have := HK1.out; have := HK2.out; have := HK3.out; omega⟩, ⟨RQ HO125.out⟩, ⟨BQ BK101.out⟩, ⟨BL⟩⟩
       rw [if_neg c31] at H
       have c31b0 : decide (x10_3 < (l0.length : Int)) = false := decide_eq_false c31
       clear c31
       by_cases c38 : x6_3.length < 8796093022208; rotate_left
       ·
        rw [if_neg c38] at H
        exact absurd H (by simp)
       rw [if_pos c38] at H
       have LMc38 := Aside0.mk c38
       clear c38
       obtain ⟨y126, hy126⟩ : ∃ y_ : List (S71), y_ = (x6_3 ++ [(⟨a1_1, a1_2⟩ : S71)]) := ⟨_, rfl⟩
       replace H : (spec_DoTask.l3 k3 l0 y126 0 a1_0 a1_1 a1_2 a1_3 a1_4 a1_5 a1_6 a1_7 a1_8 a1_9 a1_10) = some (r1, r2) := by first | (rw [hy126]; with_reducible exact H) | (have H2_ := (Option.bind_some _ _).symm.trans H; rw [hy126]; with_reducible exact H2_) | (have H2_ := (Option.bind_some _ _).symm.trans H; with_reducible exact H2_) | with_reducible exact H | (rw [hy126]; exact H) | exact H
       have Ny126 := Aside0.mk hy126
       clear hy126
       have H' := Aside0.mk H
       clear H
       have hcz39_0 : wr.cell? ⟨gb101, 0, none⟩ = some (.int .i64 a1_0) := CZ BK101.out 0
       have hcz39_1 : wr.cell? ⟨gb101, 1, none⟩ = some (.int .i64 a1_1) := CZ BK101.out 1
       have hcz39_2 : wr.cell? ⟨gb101, 2, none⟩ = some (.int .i64 a1_2) := CZ BK101.out 2
       have hcz39_3 : wr.cell? ⟨gb101, 3, none⟩ = some (.int .i64 a1_3) := CZ BK101.out 3
       have hcz39_4 : wr.cell? ⟨gb101, 4, none⟩ = some (.int .i64 a1_4) := CZ BK101.out 4
       have hcz39_5 : wr.cell? ⟨gb101, 5, none⟩ = some (.int .i64 a1_5) := CZ BK101.out 5
       have hcz39_6 : wr.cell? ⟨gb101, 6, none⟩ = some (.int .i64 a1_6) := CZ BK101.out 6
       have hcz39_7 : wr.cell? ⟨gb101, 7, none⟩ = some (.int .i64 a1_7) := CZ BK101.out 7
       have hcz39_8 : wr.cell? ⟨gb101, 8, none⟩ = some (.int .i64 a1_8) := CZ BK101.out 8
       have hcz39_9 : wr.cell? ⟨gb101, 9, none⟩ = some (.bool a1_9) := CZ BK101.out 9
       have hcz39_10 : wr.cell? ⟨gb101, 10, none⟩ = some (.int .i64 a1_10) := CZ BK101.out 10
       have hfz39_0 := blk_frozen BK101.out 0
       have hfz39_1 := blk_frozen BK101.out 1
       have hfz39_2 := blk_frozen BK101.out 2
       have hfz39_3 := blk_frozen BK101.out 3
       have hfz39_4 := blk_frozen BK101.out 4
       have hfz39_5 := blk_frozen BK101.out 5
       have hfz39_6 := blk_frozen BK101.out 6
       have hfz39_7 := blk_frozen BK101.out 7
       have hfz39_8 := blk_frozen BK101.out 8
       have hfz39_9 := blk_frozen BK101.out 9
       have hfz39_10 := blk_frozen BK101.out 10
       go_wp2_with (first | ((with_reducible refine gate_builtin (b := .append) (xs := #[.tmp 94, .tmp 100]) rfl ?_); at_builtin; refine Kd.R_append k71 (w0 := w) w.heap.size rfl (.tmp 94) (.tmp 100) 26 71 (.agg #[(.int .i64 0), (.int .i64 0)]) 16 rfl Try.underlying26 info71 rfl (by decide) (by omega) u6 x6_3 (⟨a1_1, a1_2⟩ : S71) [.int .i64 a1_1, .int .i64 a1_2] (fun _ => True) (fun _ => False) rfl rfl ?aP (fun _ hk => hk.elim) ?aF ?aO ?aB ?aS ?aL ?_; (case aP => exact k71_mkM _ _ _ (⟨a1_1, a1_2⟩ : S71)); (case aB => exact (BL)); (case aF => exact (fun _ _ => trivial)); (case aO => exact (RQ HO_6.out)); (case aS => exact (below_size (BL))); (case aL => have := LMc38.out; omega); intro v127 w40 ho hb hg hat; rw [← Ny126.out] at ho; have n0_ := Aside0.mk (blk_grown (g := gb101) (o := .cells #[.int .i64 a1_0, .int .i64 a1_1, .int .i64 a1_2, .int .i64 a1_3, .int .i64 a1_4, .int .i64 a1_5, .int .i64 a1_6, .int .i64 a1_7, .int .i64 a1_8, .bool a1_9, .int .i64 a1_10] 30 (0, 0)) (BQ BK101.out) hg (Kd.R_ne HO_6.out BK101.out (by decide))); have n1_ := Aside0.mk (hb); have n2_ := Aside0.mk (ho); clear BK101; clear HB; clear HO_6; have BK101 := n0_; have HB := n1_; have HO128 := n2_; clear n0_ n1_ n2_; clear ho hb hg hat))
       repeat (go_quiet (first | ((with_reducible refine gate_builtin (b := .append) (xs := #[.tmp 94, .tmp 100]) rfl ?_); at_builtin; refine Kd.R_append k71 (w0 := w) w.heap.size rfl (.tmp 94) (.tmp 100) 26 71 (.agg #[(.int .i64 0), (.int .i64 0)]) 16 rfl Try.underlying26 info71 rfl (by decide) (by omega) u6 x6_3 (⟨a1_1, a1_2⟩ : S71) [.int .i64 a1_1, .int .i64 a1_2] (fun _ => True) (fun _ => False) rfl rfl ?aP (fun _ hk => hk.elim) ?aF ?aO ?aB ?aS ?aL ?_; (case aP => exact k71_mkM _ _ _ (⟨a1_1, a1_2⟩ : S71)); (case aB => exact (BL)); (case aF => exact (fun _ _ => trivial)); (case aO => exact (RQ HO_6.out)); (case aS => exact (below_size (BL))); (case aL => have := LMc38.out; omega); intro v127 w40 ho hb hg hat; rw [← Ny126.out] at ho; have n0_ := Aside0.mk (blk_grown (g := gb101) (o := .cells #[.int .i64 a1_0, .int .i64 a1_1, .int .i64 a1_2, .int .i64 a1_3, .int .i64 a1_4, .int .i64 a1_5, .int .i64 a1_6, .int .i64 a1_7, .int .i64 a1_8, .bool a1_9, .int .i64 a1_10] 30 (0, 0)) (BQ BK101.out) hg (Kd.R_ne HO_6.out BK101.out (by decide))); have n1_ := Aside0.mk (hb); have n2_ := Aside0.mk (ho); clear BK101; clear HB; clear HO_6; have BK101 := n0_; have HB := n1_; have HO128 := n2_; clear n0_ n1_ n2_; clear ho hb hg hat)); try go_wp2_with (first | ((with_reducible refine gate_builtin (b := .append) (xs := #[.tmp 94, .tmp 100]) rfl ?_); at_builtin; refine Kd.R_append k71 (w0 := w) w.heap.size rfl (.tmp 94) (.tmp 100) 26 71 (.agg #[(.int .i64 0), (.int .i64 0)]) 16 rfl Try.underlying26 info71 rfl (by decide) (by omega) u6 x6_3 (⟨a1_1, a1_2⟩ : S71) [.int .i64 a1_1, .int .i64 a1_2] (fun _ => True) (fun _ => False) rfl rfl ?aP (fun _ hk => hk.elim) ?aF ?aO ?aB ?aS ?aL ?_; (case aP => exact k71_mkM _ _ _ (⟨a1_1, a1_2⟩ : S71)); (case aB => exact (BL)); (case aF => exact (fun _ _ => trivial)); (case aO => exact (RQ HO_6.out)); (case aS => exact (below_size (BL))); (case aL => have := LMc38.out; omega); intro v127 w40 ho hb hg hat; rw [← Ny126.out] at ho; have n0_ := Aside0.mk (blk_grown (g := gb101) (o := .cells #[.int .i64 a1_0, .int .i64 a1_1, .int .i64 a1_2, .int .i64 a1_3, .int .i64 a1_4, .int .i64 a1_5, .int .i64 a1_6, .int .i64 a1_7, .int .i64 a1_8, .bool a1_9, .int .i64 a1_10] 30 (0, 0)) (BQ BK101.out) hg (Kd.R_ne HO_6.out BK101.out (by decide))); have n1_ := Aside0.mk (hb); have n2_ := Aside0.mk (ho); clear BK101; clear HB; clear HO_6; have BK101 := n0_; have HB := n1_; have HO128 := n2_; clear n0_ n1_ n2_; clear ho hb hg hat)))
       go_loopg [6, 11] k3 (fun kq v6 v11 w' => ∃ (x6_4 : List (S71)) (x11_4 : Int), v11 = .int .i64 x11_4 ∧ Aside0 (spec_DoTask.l3 kq l0 x6_4 x11_4 a1_0 a1_1 a1_2 a1_3 a1_4 a1_5 a1_6 a1_7 a1_8 a1_9 a1_10 = some (r1, r2)) ∧ Aside0 (kq ≤ k3) ∧ Aside0 (Kd.R k71 71 w' w.heap.size (fun _ => True) v6 x6_4) ∧ Aside0 (w'.heap[gb101]? = some (.cells #[.int .i64 a1_0, .int .i64 a1_1, .int .i64 a1_2, .int .i64 a1_3, .int .i64 a1_4, .int .i64 a1_5, .int .i64 a1_6, .int .i64 a1_7, .int .i64 a1_8, .bool a1_9, .int .i64 a1_10] 30 (0, 0))) ∧ Aside0 (Below w.heap.size w w'))
       case atStart => exact ⟨(y126), (0), SD, H', ⟨Nat.le_refl _⟩, ⟨RQ HO128.out⟩, ⟨BQ BK101.out⟩, ⟨BL⟩⟩
       case round =>
        clear H'
        try clear c1
        try clear p1
        try clear q1
        try clear hx1
        try clear c2
        try clear p2
        try clear c3
        try clear c4
        try clear p6
        try clear c9
        try clear c9b0
        try clear c10
        try clear c10b0
        try clear p10
        try clear q10
        try clear hx10
        try clear c11
        try clear c11b0
        try clear c11b1
        try clear p11
        try clear q11
        try clear hx11
        try clear c12
        try clear c12b0
        try clear c12b1
        try clear p12
        try clear q12
        try clear hx12
        try clear c16
        try clear c16b0
        try clear c16b1
        try clear c17
        try clear c20
        try clear c20b0
        try clear c20b1
        try clear c22
        try clear c22b0
        try clear c23
        try clear c23b0
        try clear c24
        try clear c24b0
        try clear c24b1
        try clear c25
        try clear c31
        try clear c31b0
        try clear c32
        try clear c32b0
        try clear c33
        try clear c33b0
        try clear c34
        try clear c38
        try clear hcz13_0
        try clear hcz13_1
        try clear hcz13_10
        try clear hcz13_2
        try clear hcz13_3
        try clear hcz13_4
        try clear hcz13_5
        try clear hcz13_6
        try clear hcz13_7
        try clear hcz13_8
        try clear hcz13_9
        try clear hcz14_0
        try clear hcz14_1
        try clear hcz14_10
        try clear hcz14_2
        try clear hcz14_3
        try clear hcz14_4
        try clear hcz14_5
        try clear hcz14_6
        try clear hcz14_7
        try clear hcz14_8
        try clear hcz14_9
        try clear hcz15_0
        try clear hcz15_1
        try clear hcz15_10
        try clear hcz15_2
        try clear hcz15_3
        try clear hcz15_4
        try clear hcz15_5
        try clear hcz15_6
        try clear hcz15_7
        try clear hcz15_8
        try clear hcz15_9
        try clear hcz18_0
        try clear hcz18_1
        try clear hcz18_10
        try clear hcz18_2
        try clear hcz18_3
        try clear hcz18_4
        try clear hcz18_5
        try clear hcz18_6
        try clear hcz18_7
        try clear hcz18_8
        try clear hcz18_9
        try clear hcz21_0
        try clear hcz21_1
        try clear hcz21_10
        try clear hcz21_2
        try clear hcz21_3
        try clear hcz21_4
        try clear hcz21_5
        try clear hcz21_6
        try clear hcz21_7
        try clear hcz21_8
        try clear hcz21_9
        try clear hcz26_0
        try clear hcz26_1
        try clear hcz26_10
        try clear hcz26_2
        try clear hcz26_3
        try clear hcz26_4
        try clear hcz26_5
        try clear hcz26_6
        try clear hcz26_7
        try clear hcz26_8
        try clear hcz26_9
        try clear hcz30_0
        try clear hcz30_1
        try clear hcz30_10
        try clear hcz30_2
        try clear hcz30_3
        try clear hcz30_4
        try clear hcz30_5
        try clear hcz30_6
        try clear hcz30_7
        try clear hcz30_8
        try clear hcz30_9
        try clear hcz35_0
        try clear hcz35_1
        try clear hcz35_10
        try clear hcz35_2
        try clear hcz35_3
        try clear hcz35_4
        try clear hcz35_5
        try clear hcz35_6
        try clear hcz35_7
        try clear hcz35_8
        try clear hcz35_9
        try clear hcz37_0
        try clear hcz37_1
        try clear hcz37_10
        try clear hcz37_2
        try clear hcz37_3
        try clear hcz37_4
        try clear hcz37_5
        try clear hcz37_6
        try clear hcz37_7
        try clear hcz37_8
        try clear hcz37_9
        try clear hcz39_0
        try clear hcz39_1
        try clear hcz39_10
        try clear hcz39_2
        try clear hcz39_3
        try clear hcz39_4
        try clear hcz39_5
        try clear hcz39_6
        try clear hcz39_7
        try clear hcz39_8
        try clear hcz39_9
        try clear hcz8_0
        try clear hcz8_1
        try clear hcz8_10
        try clear hcz8_2
        try clear hcz8_3
        try clear hcz8_4
        try clear hcz8_5
        try clear hcz8_6
        try clear hcz8_7
        try clear hcz8_8
        try clear hcz8_9
        try clear hfz13_0
        try clear hfz13_1
        try clear hfz13_10
        try clear hfz13_2
        try clear hfz13_3
        try clear hfz13_4
        try clear hfz13_5
        try clear hfz13_6
        try clear hfz13_7
        try clear hfz13_8
        try clear hfz13_9
        try clear hfz14_0
        try clear hfz14_1
        try clear hfz14_10
        try clear hfz14_2
        try clear hfz14_3
        try clear hfz14_4
        try clear hfz14_5
        try clear hfz14_6
        try clear hfz14_7
        try clear hfz14_8
        try clear hfz14_9
        try clear hfz15_0
        try clear hfz15_1
        try clear hfz15_10
        try clear hfz15_2
        try clear hfz15_3
        try clear hfz15_4
        try clear hfz15_5
        try clear hfz15_6
        try clear hfz15_7
        try clear hfz15_8
        try clear hfz15_9
        try clear hfz18_0
        try clear hfz18_1
        try clear hfz18_10
        try clear hfz18_2
        try clear hfz18_3
        try clear hfz18_4
        try clear hfz18_5
        try clear hfz18_6
        try clear hfz18_7
        try clear hfz18_8
        try clear hfz18_9
        try clear hfz21_0
        try clear hfz21_1
        try clear hfz21_10
        try clear hfz21_2
        try clear hfz21_3
        try clear hfz21_4
        try clear hfz21_5
        try clear hfz21_6
        try clear hfz21_7
        try clear hfz21_8
        try clear hfz21_9
        try clear hfz26_0
        try clear hfz26_1
        try clear hfz26_10
        try clear hfz26_2
        try clear hfz26_3
        try clear hfz26_4
        try clear hfz26_5
        try clear hfz26_6
        try clear hfz26_7
        try clear hfz26_8
        try clear hfz26_9
        try clear hfz30_0
        try clear hfz30_1
        try clear hfz30_10
        try clear hfz30_2
        try clear hfz30_3
        try clear hfz30_4
        try clear hfz30_5
        try clear hfz30_6
        try clear hfz30_7
        try clear hfz30_8
        try clear hfz30_9
        try clear hfz35_0
        try clear hfz35_1
        try clear hfz35_10
        try clear hfz35_2
        try clear hfz35_3
        try clear hfz35_4
        try clear hfz35_5
        try clear hfz35_6
        try clear hfz35_7
        try clear hfz35_8
        try clear hfz35_9
        try clear hfz37_0
        try clear hfz37_1
        try clear hfz37_10
        try clear hfz37_2
        try clear hfz37_3
        try clear hfz37_4
        try clear hfz37_5
        try clear hfz37_6
        try clear hfz37_7
        try clear hfz37_8
        try clear hfz37_9
        try clear hfz39_0
        try clear hfz39_1
        try clear hfz39_10
        try clear hfz39_2
        try clear hfz39_3
        try clear hfz39_4
        try clear hfz39_5
        try clear hfz39_6
        try clear hfz39_7
        try clear hfz39_8
        try clear hfz39_9
        try clear hfz8_0
        try clear hfz8_1
        try clear hfz8_10
        try clear hfz8_2
        try clear hfz8_3
        try clear hfz8_4
        try clear hfz8_5
        try clear hfz8_6
        try clear hfz8_7
        try clear hfz8_8
        try clear hfz8_9
        try clear hx109_0
        try clear hx109_1
        try clear hx110_0
        try clear hx110_1
        try clear hx114_0
        try clear hx114_1
        try clear hx121_0
        try clear hx121_1
        try clear hx122_0
        try clear hx122_1
        try clear p1
        try clear p10
        try clear p109
        try clear p11
        try clear p110
        try clear p114
        try clear p121
        try clear p122
        try clear p2
        try clear p6
        try clear q1
        try clear q10
        try clear q109
        try clear q11
        try clear q110
        try clear q114
        try clear q121
        try clear q122
        obtain ⟨x6_4, x11_4, rfl, HA, HK4, HO_6, BK101, HB⟩ := hrel
        cases gk with
        | zero => exact absurd HA.out (by simp [spec_DoTask.l3])
        | succ k4 =>
         have H := HA.out
         clear HA
         simp only [spec_DoTask.l3] at H
         by_cases c41 : x11_4 < (l0.length : Int); rotate_left
         ·
          rw [if_neg c41] at H
          have c41b0 : decide (x11_4 < (l0.length : Int)) = false := decide_eq_false c41
          clear c41
          simp only [Option.some.injEq, Prod.mk.injEq] at H
          obtain ⟨rfl, rfl⟩ := H
          go_wp2
          repeat (go_quiet (fail); try go_wp2)
          go_ret2
          exact ⟨_, EE, RQ HO_6.out, BL⟩
         rw [if_pos c41] at H
         have c41b0 : decide (x11_4 < (l0.length : Int)) = true := decide_eq_true c41
         clear c41
         by_cases c42 : 0 ≤ x11_4; rotate_left
         ·
          rw [if_neg c42] at H
          exact absurd H (by simp)
         rw [if_pos c42] at H
         have c42b0 : decide (0 ≤ x11_4) = true := decide_eq_true c42
         clear c42
         by_cases c43 : ((rd_T71 l0 x11_4).f0) > a1_1; rotate_left
         ·
          rw [if_neg c43] at H
          have c43b0 : decide (a1_1 < ((rd_T71 l0 x11_4).f0)) = false := decide_eq_false c43
          clear c43
          have H' := Aside0.mk H
          clear H
          have p129 : 0 ≤ (x11_4 : Int) := of_decide_eq_true AS
          have q129 : x11_4 < (l0.length : Int) := of_decide_eq_true AS
          obtain ⟨ad129, e129, hx129_0, hx129_1⟩ := at_T71 HR0.out x11_4 p129 q129
          cases e129
          replace hx129_0 := (HB.out.cell (World.block_lt_of_cell? w _ hx129_0)).trans hx129_0
          replace hx129_1 := (HB.out.cell (World.block_lt_of_cell? w _ hx129_1)).trans hx129_1
          replace p129 := eq_true p129
          replace q129 := eq_true q129
          have hcz47_0 : wr.cell? ⟨gb101, 0, none⟩ = some (.int .i64 a1_0) := CZ BK101.out 0
          have hcz47_1 : wr.cell? ⟨gb101, 1, none⟩ = some (.int .i64 a1_1) := CZ BK101.out 1
          have hcz47_2 : wr.cell? ⟨gb101, 2, none⟩ = some (.int .i64 a1_2) := CZ BK101.out 2
          have hcz47_3 : wr.cell? ⟨gb101, 3, none⟩ = some (.int .i64 a1_3) := CZ BK101.out 3
          have hcz47_4 : wr.cell? ⟨gb101, 4, none⟩ = some (.int .i64 a1_4) := CZ BK101.out 4
          have hcz47_5 : wr.cell? ⟨gb101, 5, none⟩ = some (.int .i64 a1_5) := CZ BK101.out 5
          have hcz47_6 : wr.cell? ⟨gb101, 6, none⟩ = some (.int .i64 a1_6) := CZ BK101.out 6
          have hcz47_7 : wr.cell? ⟨gb101, 7, none⟩ = some (.int .i64 a1_7) := CZ BK101.out 7
          have hcz47_8 : wr.cell? ⟨gb101, 8, none⟩ = some (.int .i64 a1_8) := CZ BK101.out 8
          have hcz47_9 : wr.cell? ⟨gb101, 9, none⟩ = some (.bool a1_9) := CZ BK101.out 9
          have hcz47_10 : wr.cell? ⟨gb101, 10, none⟩ = some (.int .i64 a1_10) := CZ BK101.out 10
          have hfz47_0 := blk_frozen BK101.out 0
          have hfz47_1 := blk_frozen BK101.out 1
          have hfz47_2 := blk_frozen BK101.out 2
          have hfz47_3 := blk_frozen BK101.out 3
          have hfz47_4 := blk_frozen BK101.out 4
          have hfz47_5 := blk_frozen BK101.out 5
          have hfz47_6 := blk_frozen BK101.out 6
          have hfz47_7 := blk_frozen BK101.out 7
          have hfz47_8 := blk_frozen BK101.out 8
          have hfz47_9 := blk_frozen BK101.out 9
          have hfz47_10 := blk_frozen BK101.out 10
          go_wp2
          repeat (go_quiet (fail); try go_wp2)
          go_roundg k4
          case measure => have := HK1.out; have := HK2.out; have := HK3.out; have := HK4.out; omega
          case rel => exact ⟨(x6_4), (wrap64 (x11_4 + 1)), SD, H', ⟨by have := HK1.out; have := HK2.out; have := HK3.out; have := HK4.out; omega⟩, ⟨RQ HO_6.out⟩, ⟨BQ BK101.out⟩, ⟨BL⟩⟩
         rw [if_pos c43] at H
         have c43b0 : decide (a1_1 < ((rd_T71 l0 x11_4).f0)) = true := decide_eq_true c43
         clear c43
         by_cases c44 : x6_4.length < 8796093022208; rotate_left
         ·
          rw [if_neg c44] at H
          exact absurd H (by simp)
         rw [if_pos c44] at H
         have LMc44 := Aside0.mk c44
         clear c44
         obtain ⟨y131, hy131⟩ : ∃ y_ : List (S71), y_ = (x6_4 ++ [(⟨(rd_T71 l0 x11_4).f0, (rd_T71 l0 x11_4).f1⟩ : S71)]) := ⟨_, rfl⟩
         replace H : (spec_DoTask.l3 k4 l0 y131 (wrap64 (x11_4 + 1)) a1_0 a1_1 a1_2 a1_3 a1_4 a1_5 a1_6 a1_7 a1_8 a1_9 a1_10) = some (r1, r2) := by first | (rw [hy131]; with_reducible exact H) | (have H2_ := (Option.bind_some _ _).symm.trans H; rw [hy131]; with_reducible exact H2_) | (have H2_ := (Option.bind_some _ _).symm.trans H; with_reducible exact H2_) | with_reducible exact H | (rw [hy131]; exact H) | exact H
         have Ny131 := Aside0.mk hy131
         clear hy131
         have H' := Aside0.mk H
         clear H
         have p129 : 0 ≤ (x11_4 : Int) := of_decide_eq_true AS
         have q129 : x11_4 < (l0.length : Int) := of_decide_eq_true AS
         obtain ⟨ad129, e129, hx129_0, hx129_1⟩ := at_T71 HR0.out x11_4 p129 q129
         cases e129
         replace hx129_0 := (HB.out.cell (World.block_lt_of_cell? w _ hx129_0)).trans hx129_0
         replace hx129_1 := (HB.out.cell (World.block_lt_of_cell? w _ hx129_1)).trans hx129_1
         replace p129 := eq_true p129
         replace q129 := eq_true q129
         have hcz45_0 : wr.cell? ⟨gb101, 0, none⟩ = some (.int .i64 a1_0) := CZ BK101.out 0
         have hcz45_1 : wr.cell? ⟨gb101, 1, none⟩ = some (.int .i64 a1_1) := CZ BK101.out 1
         have hcz45_2 : wr.cell? ⟨gb101, 2, none⟩ = some (.int .i64 a1_2) := CZ BK101.out 2
         have hcz45_3 : wr.cell? ⟨gb101, 3, none⟩ = some (.int .i64 a1_3) := CZ BK101.out 3
         have hcz45_4 : wr.cell? ⟨gb101, 4, none⟩ = some (.int .i64 a1_4) := CZ BK101.out 4
         have hcz45_5 : wr.cell? ⟨gb101, 5, none⟩ = some (.int .i64 a1_5) := CZ BK101.out 5
         have hcz45_6 : wr.cell? ⟨gb101, 6, none⟩ = some (.int .i64 a1_6) := CZ BK101.out 6
         have hcz45_7 : wr.cell? ⟨gb101, 7, none⟩ = some (.int .i64 a1_7) := CZ BK101.out 7
         have hcz45_8 : wr.cell? ⟨gb101, 8, none⟩ = some (.int .i64 a1_8) := CZ BK101.out 8
         have hcz45_9 : wr.cell? ⟨gb101, 9, none⟩ = some (.bool a1_9) := CZ BK101.out 9
         have hcz45_10 : wr.cell? ⟨gb101, 10, none⟩ = some (.int .i64 a1_10) := CZ BK101.out 10
         have hfz45_0 := blk_frozen BK101.out 0
         have hfz45_1 := blk_frozen BK101.out 1
         have hfz45_2 := blk_frozen BK101.out 2
         have hfz45_3 := blk_frozen BK101.out 3
         have hfz45_4 := blk_frozen BK101.out 4
         have hfz45_5 := blk_frozen BK101.out 5
         have hfz45_6 := blk_frozen BK101.out 6
         have hfz45_7 := blk_frozen BK101.out 7
         have hfz45_8 := blk_frozen BK101.out 8
         have hfz45_9 := blk_frozen BK101.out 9
         have hfz45_10 := blk_frozen BK101.out 10
         have p130 : 0 ≤ (x11_4 : Int) := of_decide_eq_true AS
         have q130 : x11_4 < (l0.length : Int) := of_decide_eq_true AS
         obtain ⟨ad130, e130, hx130_0, hx130_1⟩ := at_T71 HR0.out x11_4 p130 q130
         obtain rfl : ad129 = ad130 := (by injection e130)
         replace hx130_0 := (HB.out.cell (World.block_lt_of_cell? w _ hx130_0)).trans hx130_0
         replace hx130_1 := (HB.out.cell (World.block_lt_of_cell? w _ hx130_1)).trans hx130_1
         replace p130 := eq_true p130
         replace q130 := eq_true q130
         go_wp2_with (first | ((with_reducible refine gate_builtin (b := .append) (xs := #[.tmp 116, .tmp 121]) rfl ?_); at_builtin; refine Kd.R_append k71 (w0 := w) w.heap.size rfl (.tmp 116) (.tmp 121) 26 71 (.agg #[(.int .i64 0), (.int .i64 0)]) 16 rfl Try.underlying26 info71 rfl (by decide) (by omega) u6 x6_4 (⟨(rd_T71 l0 x11_4).f0, (rd_T71 l0 x11_4).f1⟩ : S71) [.int .i64 ((rd_T71 l0 x11_4).f0), .int .i64 ((rd_T71 l0 x11_4).f1)] (fun _ => True) (fun _ => False) rfl rfl ?aP (fun _ hk => hk.elim) ?aF ?aO ?aB ?aS ?aL ?_; (case aP => exact k71_mkM _ _ _ (⟨(rd_T71 l0 x11_4).f0, (rd_T71 l0 x11_4).f1⟩ : S71)); (case aB => exact (BL)); (case aF => exact (fun _ _ => trivial)); (case aO => exact (RQ HO_6.out)); (case aS => exact (below_size (BL))); (case aL => have := LMc44.out; omega); intro v132 w46 ho hb hg hat; rw [← Ny131.out] at ho; have n0_ := Aside0.mk (blk_grown (g := gb101) (o := .cells #[.int .i64 a1_0, .int .i64 a1_1, .int .i64 a1_2, .int .i64 a1_3, .int .i64 a1_4, .int .i64 a1_5, .int .i64 a1_6, .int .i64 a1_7, .int .i64 a1_8, .bool a1_9, .int .i64 a1_10] 30 (0, 0)) (BQ BK101.out) hg (Kd.R_ne HO_6.out BK101.out (by decide))); have n1_ := Aside0.mk (hb); have n2_ := Aside0.mk (ho); clear BK101; clear HB; clear HO_6; have BK101 := n0_; have HB := n1_; have HO133 := n2_; clear n0_ n1_ n2_; clear ho hb hg hat))
         repeat (go_quiet (first | ((with_reducible refine gate_builtin (b := .append) (xs := #[.tmp 116, .tmp 121]) rfl ?_); at_builtin; refine Kd.R_append k71 (w0 := w) w.heap.size rfl (.tmp 116) (.tmp 121) 26 71 (.agg #[(.int .i64 0), (.int .i64 0)]) 16 rfl Try.underlying26 info71 rfl (by decide) (by omega) u6 x6_4 (⟨(rd_T71 l0 x11_4).f0, (rd_T71 l0 x11_4).f1⟩ : S71) [.int .i64 ((rd_T71 l0 x11_4).f0), .int .i64 ((rd_T71 l0 x11_4).f1)] (fun _ => True) (fun _ => False) rfl rfl ?aP (fun _ hk => hk.elim) ?aF ?aO ?aB ?aS ?aL ?_; (case aP => exact k71_mkM _ _ _ (⟨(rd_T71 l0 x11_4).f0, (rd_T71 l0 x11_4).f1⟩ : S71)); (case aB => exact (BL)); (case aF => exact (fun _ _ => trivial)); (case aO => exact (RQ HO_6.out)); (case aS => exact (below_size (BL))); (case aL => have := LMc44.out; omega); intro v132 w46 ho hb hg hat; rw [← Ny131.out] at ho; have n0_ := Aside0.mk (blk_grown (g := gb101) (o := .cells #[.int .i64 a1_0, .int .i64 a1_1, .int .i64 a1_2, .int .i64 a1_3, .int .i64 a1_4, .int .i64 a1_5, .int .i64 a1_6, .int .i64 a1_7, .int .i64 a1_8, .bool a1_9, .int .i64 a1_10] 30 (0, 0)) (BQ BK101.out) hg (Kd.R_ne HO_6.out BK101.out (by decide))); have n1_ := Aside0.mk (hb); have n2_ := Aside0.mk (ho); clear BK101; clear HB; clear HO_6; have BK101 := n0_; have HB := n1_; have HO133 := n2_; clear n0_ n1_ n2_; clear ho hb hg hat)); try go_wp2_with (first | ((with_reducible refine gate_builtin (b := .append) (xs := #[.tmp 116, .tmp 121]) rfl ?_); at_builtin; refine Kd.R_append k71 (w0 := w) w.heap.size rfl (.tmp 116) (.tmp 121) 26 71 (.agg #[(.int .i64 0), (.int .i64 0)]) 16 rfl Try.underlying26 info71 rfl (by decide) (by omega) u6 x6_4 (⟨(rd_T71 l0 x11_4).f0, (rd_T71 l0 x11_4).f1⟩ : S71) [.int .i64 ((rd_T71 l0 x11_4).f0), .int .i64 ((rd_T71 l0 x11_4).f1)] (fun _ => True) (fun _ => False) rfl rfl ?aP (fun _ hk => hk.elim) ?aF ?aO ?aB ?aS ?aL ?_; (case aP => exact k71_mkM _ _ _ (⟨(rd_T71 l0 x11_4).f0, (rd_T71 l0 x11_4).f1⟩ : S71)); (case aB => exact (BL)); (case aF => exact (fun _ _ => trivial)); (case aO => exact (RQ HO_6.out)); (case aS => exact (below_size (BL))); (case aL => have := LMc44.out; omega); intro v132 w46 ho hb hg hat; rw [← Ny131.out] at ho; have n0_ := Aside0.mk (blk_grown (g := gb101) (o := .cells #[.int .i64 a1_0, .int .i64 a1_1, .int .i64 a1_2, .int .i64 a1_3, .int .i64 a1_4, .int .i64 a1_5, .int .i64 a1_6, .int .i64 a1_7, .int .i64 a1_8, .bool a1_9, .int .i64 a1_10] 30 (0, 0)) (BQ BK101.out) hg (Kd.R_ne HO_6.out BK101.out (by decide))); have n1_ := Aside0.mk (hb); have n2_ := Aside0.mk (ho); clear BK101; clear HB; clear HO_6; have BK101 := n0_; have HB := n1_; have HO133 := n2_; clear n0_ n1_ n2_; clear ho hb hg hat)))
         go_roundg k4
         case measure => have := HK1.out; have := HK2.out; have := HK3.out; have := HK4.out; omega
         case rel => exact ⟨(y131), (wrap64 (x11_4 + 1)), SD, H', ⟨by have := HK1.out; have := HK2.out; have := HK3.out; have := HK4.out; omega⟩, ⟨RQ HO133.out⟩, ⟨BQ BK101.out⟩, ⟨BL⟩⟩

end Go.Proofs.Ytfkhncoiifojnaa.Qds
