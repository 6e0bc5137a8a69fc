-- Laid by myprint.py, a program of this session's own, over the kit's print. Not trusted: Lean checks it.
import Derived.Test.YtjmggbhgmenmcaaQstx0
import Derived.Test.YtjmggbhgmenmcaaQstx2
import Derived.Test.YtjmggbhgmenmcaaQstx3
import Derived.Test.YtjmggbhgmenmcaaQstx4
namespace Go.Proofs.Ytjmggbhgmenmcaa.Qst
open Go.RowKit Go.Proofs.YtjmggbhgmenmcaaW.PrintWords Go.Proofs.YtjmggbhgmenmcaaW.PrintLast Go.Proofs.YtjmggbhgmenmcaaW.PrintMore
attribute [local go_sem] Go.Proofs.Ytjmggbhgmenmcaa.StrCmp.gtr_less Go.Proofs.Ytjmggbhgmenmcaa.StrCmp.geq_less Go.Proofs.Ytjmggbhgmenmcaa.StrCmp.leq_less max2_int min2_int max_two min_two max_three min_three max_four min_four   -- for this text's walks alone
set_option linter.unusedVariables false
set_option linter.unusedSimpArgs false

/-! ### impl_CellsOk: function 27 -/
def impl_CellsOk.l0 : Nat → List Int → List Int → Int → Int → Option (Bool)
 | 0, _, _, _, _ => none
 | k + 1, x0, x5, x6, x7 => if x7 < x6 then (if 0 ≤ x7 then (if x7 < (x5.length : Int) then ((impl_isNumber.f (rd x5 x7)).bind fun t275 => (if t275 = true then (impl_CellsOk.l0 k x0 x5 x6 (wrap64 (x7 + 1))) else (some false))) else (none)) else (none)) else ((impl_within.f (x0.length : Int) 1 80).bind fun t276 => (some t276))
def impl_CellsOk.f (k : Nat) (l0 : List Int) : Option (Bool) := impl_CellsOk.l0 k l0 l0 (l0.length : Int) 0
theorem impl_CellsOk.mono_l : ∀ k, (∀ y0 y1 y2 y3, LeO (impl_CellsOk.l0 k y0 y1 y2 y3) (impl_CellsOk.l0 (k + 1) y0 y1 y2 y3))
 | 0 => fun _ _ _ _ r h => by simp [impl_CellsOk.l0] at h
 | k + 1 => by
  have ih0 := impl_CellsOk.mono_l k
  ·
   intro y0 y1 y2 y3
   unfold impl_CellsOk.l0
   repeat' first
   | (with_reducible exact ih0 _ _ _ _)
   | (with_reducible exact LeO.refl _)
   | (with_reducible exact LeO.none _)
   | (with_reducible refine LeO.ite ?_ ?_)
   | (with_reducible refine LeO.bind ?_ (fun _ => ?_))
   | exact ih0 _ _ _ _
   | exact LeO.none _
   | refine LeO.ite ?_ ?_
   | refine LeO.bind ?_ (fun _ => ?_)
theorem impl_CellsOk.mono : ∀ a0 k, LeO (impl_CellsOk.f k a0) (impl_CellsOk.f (k + 1) a0) := by
 intro a0 k
 have ih0 := impl_CellsOk.mono_l k
 unfold impl_CellsOk.f
 repeat' first
   | (with_reducible exact ih0 _ _ _ _)
   | (with_reducible exact LeO.refl _)
   | (with_reducible exact LeO.none _)
   | (with_reducible refine LeO.ite ?_ ?_)
   | (with_reducible refine LeO.bind ?_ (fun _ => ?_))
   | exact ih0 _ _ _ _
   | exact LeO.none _
   | refine LeO.ite ?_ ?_
   | refine LeO.bind ?_ (fun _ => ?_)
set_option maxHeartbeats 8000000 in
set_option maxRecDepth 100000 in
theorem impl_CellsOk.calls (k : Nat) (A0 : Option Addr) (c0 : Nat) (l0 : List Int) (r : Bool) (w : World) (hr0 : Kd.C (Kd.int .i64) w A0 l0.length l0) (hc0 : l0.length ≤ c0) (h : impl_CellsOk.f k l0 = some r) :
  Calls Try.prog 27 #[.slice A0 l0.length c0] w fun e w' => e = .returned (.bool r) ∧ Drawn0 w w' := by
 have HR0 := Aside0.mk hr0
 have HC0 := Aside0.mk hc0
 clear hr0 hc0
 have H : (impl_CellsOk.l0 k l0 l0 (l0.length : Int) 0) = some r := h
 clear h
 have H' := Aside0.mk H
 clear H
 go_enter Try.func27, Try.ntmps27
 go_wp2
 go_loopg [7] k (fun kq v7 w' => ∃ (x7_1 : Int), v7 = .int .i64 x7_1 ∧ Aside0 (impl_CellsOk.l0 kq l0 l0 (l0.length : Int) x7_1 = some r) ∧ Aside0 (kq ≤ k) ∧ Drawn0 w w')
 case atStart => exact ⟨(0), SD, H', ⟨Nat.le_refl _⟩, by repeat (first | exact Drawn0.refl _ | apply Drawn0.step)⟩
 case round =>
  clear H'; obtain ⟨x7_1, rfl, HA, HK1, ⟨m1, rfl⟩⟩ := hrel; cases gk with
  | zero => exact absurd HA.out (by simp [impl_CellsOk.l0])
  | succ k1 =>
   have H := HA.out; clear HA; simp only [impl_CellsOk.l0] at H
   by_cases c2 : x7_1 < (l0.length : Int); rotate_left
   ·
    rw [if_neg c2] at H; have c2b0 : decide (x7_1 < (l0.length : Int)) = false := decide_eq_false c2; clear c2; replace H := Option.bind_eq_some_iff.mp H; obtain ⟨t276, A70, H⟩ := H; have A7 := Aside0.mk A70; clear A70; obtain rfl := Option.some.inj H
    go_wp2_with (first | ((with_reducible refine gate_callee (f := 60) rfl ?_); refine goesL_ (some 17) rfl rfl Try.func60 (by kernel_rfl) rfl #[.int .i64 (l0.length : Int), .int .i64 1, .int .i64 80] rfl (MA) ?_; (with_reducible refine (impl_within.calls (l0.length : Int) 1 80 t276 _ A7.out).mono ?_); rintro e w' ⟨rfl, ⟨nd, rfl⟩⟩; refine ⟨_, rfl, ?_⟩))
    go_ret
    exact ⟨by first | rfl | (simp; done) | (simp [*]; done), by repeat (first | exact Drawn0.refl _ | apply Drawn0.step)⟩
   rw [if_pos c2] at H; have c2b0 : decide (x7_1 < (l0.length : Int)) = true := decide_eq_true c2; clear c2
   by_cases c3 : 0 ≤ x7_1; rotate_left
   ·
    rw [if_neg c3] at H; exact absurd H (by simp)
   rw [if_pos c3] at H; have c3b0 : decide (0 ≤ x7_1) = true := decide_eq_true c3; clear c3
   by_cases c4 : x7_1 < (l0.length : Int); rotate_left
   ·
    rw [if_neg c4] at H; exact absurd H (by simp)
   rw [if_pos c4] at H; have c4b0 : decide (x7_1 < (l0.length : Int)) = true := decide_eq_true c4; clear c4; replace H := Option.bind_eq_some_iff.mp H; obtain ⟨t275, A50, H⟩ := H; have A5 := Aside0.mk A50; clear A50
   by_cases c6 : t275 = true; rotate_left
   ·
    replace c6 := Bool.eq_false_iff.mpr c6; subst c6
    have H1 : (some false) = some r := by rw [if_neg (show ¬ (false = true) by decide)] at H; exact H
    clear H; have H := H1; clear H1; obtain rfl := Option.some.inj H; have p274 : 0 ≤ (x7_1 : Int) := of_decide_eq_true AS; have q274 : x7_1 < (l0.length : Int) := of_decide_eq_true AS; obtain ⟨ad274, e274, hx274_0⟩ := Kd.at_int HR0.out x7_1 p274 q274; cases e274; replace p274 := eq_true p274; replace q274 := eq_true q274
    go_wp2_with (first | ((with_reducible refine gate_callee (f := 53) rfl ?_); refine goesL_ (some 12) rfl rfl Try.func53 (by kernel_rfl) rfl #[.int .i64 (rd l0 x7_1)] rfl (MA) ?_; (with_reducible refine (impl_isNumber.calls (rd l0 x7_1) false _ A5.out).mono ?_); rintro e w' ⟨rfl, ⟨nd, rfl⟩⟩; refine ⟨_, rfl, ?_⟩))
    go_ret
    exact ⟨by first | rfl | (simp; done) | (simp [*]; done), by repeat (first | exact Drawn0.refl _ | apply Drawn0.step)⟩
   subst c6
   have H1 : (impl_CellsOk.l0 k1 l0 l0 (l0.length : Int) (wrap64 (x7_1 + 1))) = some r := by rw [if_pos rfl] at H; exact H
   clear H; have H := H1; clear H1; have H' := Aside0.mk H; clear H; have p274 : 0 ≤ (x7_1 : Int) := of_decide_eq_true AS; have q274 : x7_1 < (l0.length : Int) := of_decide_eq_true AS; obtain ⟨ad274, e274, hx274_0⟩ := Kd.at_int HR0.out x7_1 p274 q274; cases e274; replace p274 := eq_true p274; replace q274 := eq_true q274
   go_wp2_with (first | ((with_reducible refine gate_callee (f := 53) rfl ?_); refine goesL_ (some 12) rfl rfl Try.func53 (by kernel_rfl) rfl #[.int .i64 (rd l0 x7_1)] rfl (MA) ?_; (with_reducible refine (impl_isNumber.calls (rd l0 x7_1) true _ A5.out).mono ?_); rintro e w' ⟨rfl, ⟨nd, rfl⟩⟩; refine ⟨_, rfl, ?_⟩))
   go_roundg k1
   case measure => have := HK1.out; omega
   case rel => exact ⟨(wrap64 (x7_1 + 1)), SD, H', ⟨by have := HK1.out; omega⟩, by repeat (first | exact Drawn0.refl _ | apply Drawn0.step)⟩

/-! ### impl_TaskOk: function 44 -/
def impl_TaskOk.j0 : Nat → Bool → Int → Int → Int → Int → Int → Int → Int → Int → Int → Bool → Int → Option (Bool)
 | 0, _, _, _, _, _, _, _, _, _, _, _, _ => none
 | k + 1, x3, x278000, x278001, x278002, x278003, x278004, x278005, x278006, x278007, x278008, x278009, x278010 => (impl_within.f x278005 0 20).bind fun t282 => (if t282 = true then ((impl_within.f x278006 0 20).bind fun t283 => (if t283 = true then ((impl_within.f x278007 0 20).bind fun t284 => (if x3 = true then ((impl_within.f x278004 0 6).bind fun t285 => (if t285 = true then (if t284 = true then ((impl_within.f x278008 0 1).bind fun t286 => (some t286)) else (some false)) else (some false))) else (some false))) else (if x3 = true then ((impl_within.f x278004 0 6).bind fun t287 => (if t287 = true then (some false) else (some false))) else (some false)))) else (if x3 = true then ((impl_within.f x278004 0 6).bind fun t288 => (if t288 = true then (some false) else (some false))) else (some false)))
def impl_TaskOk.f (k : Nat) (a0_0 : Int) (a0_1 : Int) (a0_2 : Int) (a0_3 : Int) (a0_4 : Int) (a0_5 : Int) (a0_6 : Int) (a0_7 : Int) (a0_8 : Int) (a0_9 : Bool) (a0_10 : Int) : Option (Bool) := (impl_within.f a0_0 1 3).bind fun t278 => (if t278 = true then ((impl_within.f a0_1 1 99).bind fun t279 => (if t279 = true then ((impl_within.f a0_2 0 99).bind fun t280 => (if t280 = true then ((impl_within.f a0_3 1 20).bind fun t281 => (impl_TaskOk.j0 k t281 a0_0 a0_1 a0_2 a0_3 a0_4 a0_5 a0_6 a0_7 a0_8 a0_9 a0_10)) else (impl_TaskOk.j0 k false a0_0 a0_1 a0_2 a0_3 a0_4 a0_5 a0_6 a0_7 a0_8 a0_9 a0_10))) else (impl_TaskOk.j0 k false a0_0 a0_1 a0_2 a0_3 a0_4 a0_5 a0_6 a0_7 a0_8 a0_9 a0_10))) else (impl_TaskOk.j0 k false a0_0 a0_1 a0_2 a0_3 a0_4 a0_5 a0_6 a0_7 a0_8 a0_9 a0_10))
theorem impl_TaskOk.mono_l : ∀ k, (∀ y0 y1 y2 y3 y4 y5 y6 y7 y8 y9 y10 y11, LeO (impl_TaskOk.j0 k y0 y1 y2 y3 y4 y5 y6 y7 y8 y9 y10 y11) (impl_TaskOk.j0 (k + 1) y0 y1 y2 y3 y4 y5 y6 y7 y8 y9 y10 y11))
 | 0 => fun _ _ _ _ _ _ _ _ _ _ _ _ r h => by simp [impl_TaskOk.j0] at h
 | k + 1 => by
  have ih0 := impl_TaskOk.mono_l k
  ·
   intro y0 y1 y2 y3 y4 y5 y6 y7 y8 y9 y10 y11
   unfold impl_TaskOk.j0
   repeat' first
   | (with_reducible exact ih0 _ _ _ _ _ _ _ _ _ _ _ _)
   | (with_reducible exact LeO.refl _)
   | (with_reducible exact LeO.none _)
   | (with_reducible refine LeO.ite ?_ ?_)
   | (with_reducible refine LeO.bind ?_ (fun _ => ?_))
   | exact ih0 _ _ _ _ _ _ _ _ _ _ _ _
   | exact LeO.none _
   | refine LeO.ite ?_ ?_
   | refine LeO.bind ?_ (fun _ => ?_)
theorem impl_TaskOk.mono : ∀ a0 a1 a2 a3 a4 a5 a6 a7 a8 a9 a10 k, LeO (impl_TaskOk.f k a0 a1 a2 a3 a4 a5 a6 a7 a8 a9 a10) (impl_TaskOk.f (k + 1) a0 a1 a2 a3 a4 a5 a6 a7 a8 a9 a10) := by
 intro a0 a1 a2 a3 a4 a5 a6 a7 a8 a9 a10 k
 have ih0 := impl_TaskOk.mono_l k
 unfold impl_TaskOk.f
 repeat' first
   | (with_reducible exact ih0 _ _ _ _ _ _ _ _ _ _ _ _)
   | (with_reducible exact LeO.refl _)
   | (with_reducible exact LeO.none _)
   | (with_reducible refine LeO.ite ?_ ?_)
   | (with_reducible refine LeO.bind ?_ (fun _ => ?_))
   | exact ih0 _ _ _ _ _ _ _ _ _ _ _ _
   | exact LeO.none _
   | refine LeO.ite ?_ ?_
   | refine LeO.bind ?_ (fun _ => ?_)
set_option maxHeartbeats 8000000 in
set_option maxRecDepth 100000 in
theorem impl_TaskOk.calls (k : Nat) (a0_0 : Int) (a0_1 : Int) (a0_2 : Int) (a0_3 : Int) (a0_4 : Int) (a0_5 : Int) (a0_6 : Int) (a0_7 : Int) (a0_8 : Int) (a0_9 : Bool) (a0_10 : Int) (r : Bool) (w : World) (h : impl_TaskOk.f k a0_0 a0_1 a0_2 a0_3 a0_4 a0_5 a0_6 a0_7 a0_8 a0_9 a0_10 = some r) :
  Calls Try.prog 44 #[.agg #[.int .i64 a0_0, .int .i64 a0_1, .int .i64 a0_2, .int .i64 a0_3, .int .i64 a0_4, .int .i64 a0_5, .int .i64 a0_6, .int .i64 a0_7, .int .i64 a0_8, .bool a0_9, .int .i64 a0_10]] w fun e w' => e = .returned (.bool r) ∧ Below w.heap.size w w' := by
 have hu46 := Try.underlying46
 have HB := Aside0.mk (Below.refl w.heap.size w)
 have H : ((impl_within.f a0_0 1 3).bind fun t278 => (if t278 = true then ((impl_within.f a0_1 1 99).bind fun t279 => (if t279 = true then ((impl_within.f a0_2 0 99).bind fun t280 => (if t280 = true then ((impl_within.f a0_3 1 20).bind fun t281 => (impl_TaskOk.j0 k t281 a0_0 a0_1 a0_2 a0_3 a0_4 a0_5 a0_6 a0_7 a0_8 a0_9 a0_10)) else (impl_TaskOk.j0 k false a0_0 a0_1 a0_2 a0_3 a0_4 a0_5 a0_6 a0_7 a0_8 a0_9 a0_10))) else (impl_TaskOk.j0 k false a0_0 a0_1 a0_2 a0_3 a0_4 a0_5 a0_6 a0_7 a0_8 a0_9 a0_10))) else (impl_TaskOk.j0 k false a0_0 a0_1 a0_2 a0_3 a0_4 a0_5 a0_6 a0_7 a0_8 a0_9 a0_10))) = some r := h
 clear h
 have HC2 := Aside0.mk H
 clear H
 go_enter Try.func44, Try.ntmps44
 go_upto_region 1 with (first | ((with_reducible refine gate_dst (N := 1) rfl ?_); refine bE 1 #[.int .i64 a0_0, .int .i64 a0_1, .int .i64 a0_2, .int .i64 a0_3, .int .i64 a0_4, .int .i64 a0_5, .int .i64 a0_6, .int .i64 a0_7, .int .i64 a0_8, .bool a0_9, .int .i64 a0_10] 46 ?_; intro gb277 hg w3 hbox hb; have BK277 := Aside0.mk (hbox); have GW277 : Aside0 (w.heap.size ≤ gb277) := GS; have GE277 := GW277; replace HB := Aside0.mk (below_step (BL) hb); clear hb hbox hg))
 (try simp only [Act.put, zA, zB, zC])
 go_cut [3] (fun v3 wc => ∃ (kq : Nat) (x3_1 : Bool), v3 = .bool x3_1 ∧ Aside0 (impl_TaskOk.j0 kq x3_1 a0_0 a0_1 a0_2 a0_3 a0_4 a0_5 a0_6 a0_7 a0_8 a0_9 a0_10 = some r) ∧ Aside0 (kq ≤ k) ∧ Aside0 (wc.heap[gb277]? = some (.cells #[.int .i64 a0_0, .int .i64 a0_1, .int .i64 a0_2, .int .i64 a0_3, .int .i64 a0_4, .int .i64 a0_5, .int .i64 a0_6, .int .i64 a0_7, .int .i64 a0_8, .bool a0_9, .int .i64 a0_10] 46 (0, 0))) ∧ Aside0 (Below w.heap.size w wc))
 case first =>
  have H := HC2.out; clear HC2; replace H := Option.bind_eq_some_iff.mp H; obtain ⟨t278, A40, H⟩ := H; have A4 := Aside0.mk A40; clear A40
  by_cases c5 : t278 = true; rotate_left
  ·
   replace c5 := Bool.eq_false_iff.mpr c5; subst c5
   have H1 : (impl_TaskOk.j0 k false a0_0 a0_1 a0_2 a0_3 a0_4 a0_5 a0_6 a0_7 a0_8 a0_9 a0_10) = some r := by rw [if_neg (show ¬ (false = true) by decide)] at H; exact H
   clear H; have H := H1; clear H1; have H' := Aside0.mk H; clear H; obtain ⟨hcz14_0, hcz14_1, hcz14_2, hcz14_3, hcz14_4, hcz14_5, hcz14_6, hcz14_7, hcz14_8, hcz14_9, hcz14_10, hfz14_0, hfz14_1, hfz14_2, hfz14_3, hfz14_4, hfz14_5, hfz14_6, hfz14_7, hfz14_8, hfz14_9, hfz14_10⟩ := KC11 BK277.out
   go_wp2_with (first | ((with_reducible refine gate_callee (f := 60) rfl ?_); refine goesL_ (some 7) rfl rfl Try.func60 (by kernel_rfl) rfl #[.int .i64 a0_0, .int .i64 1, .int .i64 3] rfl (MA) ?_; (with_reducible refine (impl_within.calls a0_0 1 3 false _ A4.out).mono ?_); rintro e w' ⟨rfl, ⟨nd, rfl⟩⟩; refine ⟨_, rfl, ?_⟩))
   go_meet
   case rel => exact ⟨_, (false), SD, H', ⟨by first | omega | exact Nat.le_refl _⟩, ⟨BQ BK277.out⟩, ⟨BL⟩⟩
  subst c5
  have H1 : ((impl_within.f a0_1 1 99).bind fun t279 => (if t279 = true then ((impl_within.f a0_2 0 99).bind fun t280 => (if t280 = true then ((impl_within.f a0_3 1 20).bind fun t281 => (impl_TaskOk.j0 k t281 a0_0 a0_1 a0_2 a0_3 a0_4 a0_5 a0_6 a0_7 a0_8 a0_9 a0_10)) else (impl_TaskOk.j0 k false a0_0 a0_1 a0_2 a0_3 a0_4 a0_5 a0_6 a0_7 a0_8 a0_9 a0_10))) else (impl_TaskOk.j0 k false a0_0 a0_1 a0_2 a0_3 a0_4 a0_5 a0_6 a0_7 a0_8 a0_9 a0_10))) = some r := by rw [if_pos rfl] at H; exact H
  clear H; have H := H1; clear H1; replace H := Option.bind_eq_some_iff.mp H; obtain ⟨t279, A60, H⟩ := H; have A6 := Aside0.mk A60; clear A60
  by_cases c7 : t279 = true; rotate_left
  ·
   replace c7 := Bool.eq_false_iff.mpr c7; subst c7
   have H1 : (impl_TaskOk.j0 k false a0_0 a0_1 a0_2 a0_3 a0_4 a0_5 a0_6 a0_7 a0_8 a0_9 a0_10) = some r := by rw [if_neg (show ¬ (false = true) by decide)] at H; exact H
   clear H; have H := H1; clear H1; have H' := Aside0.mk H; clear H; obtain ⟨hcz13_0, hcz13_1, hcz13_2, hcz13_3, hcz13_4, hcz13_5, hcz13_6, hcz13_7, hcz13_8, hcz13_9, hcz13_10, hfz13_0, hfz13_1, hfz13_2, hfz13_3, hfz13_4, hfz13_5, hfz13_6, hfz13_7, hfz13_8, hfz13_9, hfz13_10⟩ := KC11 BK277.out
   go_wp2_with (first | ((with_reducible refine gate_callee (f := 60) rfl ?_); refine goesL_ (some 7) rfl rfl Try.func60 (by kernel_rfl) rfl #[.int .i64 a0_0, .int .i64 1, .int .i64 3] rfl (MA) ?_; (with_reducible refine (impl_within.calls a0_0 1 3 true _ A4.out).mono ?_); rintro e w' ⟨rfl, ⟨nd, rfl⟩⟩; refine ⟨_, rfl, ?_⟩) | (go_at_call 60; (with_reducible refine (impl_within.calls a0_1 1 99 false _ A6.out).mono ?_); rintro e w' ⟨rfl, ⟨nd, rfl⟩⟩))
   go_meet
   case rel => exact ⟨_, (false), SD, H', ⟨by first | omega | exact Nat.le_refl _⟩, ⟨BQ BK277.out⟩, ⟨BL⟩⟩
  subst c7
  have H1 : ((impl_within.f a0_2 0 99).bind fun t280 => (if t280 = true then ((impl_within.f a0_3 1 20).bind fun t281 => (impl_TaskOk.j0 k t281 a0_0 a0_1 a0_2 a0_3 a0_4 a0_5 a0_6 a0_7 a0_8 a0_9 a0_10)) else (impl_TaskOk.j0 k false a0_0 a0_1 a0_2 a0_3 a0_4 a0_5 a0_6 a0_7 a0_8 a0_9 a0_10))) = some r := by rw [if_pos rfl] at H; exact H
  clear H; have H := H1; clear H1; replace H := Option.bind_eq_some_iff.mp H; obtain ⟨t280, A80, H⟩ := H; have A8 := Aside0.mk A80; clear A80
  by_cases c9 : t280 = true; rotate_left
  ·
   replace c9 := Bool.eq_false_iff.mpr c9; subst c9
   have H1 : (impl_TaskOk.j0 k false a0_0 a0_1 a0_2 a0_3 a0_4 a0_5 a0_6 a0_7 a0_8 a0_9 a0_10) = some r := by rw [if_neg (show ¬ (false = true) by decide)] at H; exact H
   clear H; have H := H1; clear H1; have H' := Aside0.mk H; clear H; obtain ⟨hcz12_0, hcz12_1, hcz12_2, hcz12_3, hcz12_4, hcz12_5, hcz12_6, hcz12_7, hcz12_8, hcz12_9, hcz12_10, hfz12_0, hfz12_1, hfz12_2, hfz12_3, hfz12_4, hfz12_5, hfz12_6, hfz12_7, hfz12_8, hfz12_9, hfz12_10⟩ := KC11 BK277.out
   go_wp2_with (first | ((with_reducible refine gate_callee (f := 60) rfl ?_); refine goesL_ (some 7) rfl rfl Try.func60 (by kernel_rfl) rfl #[.int .i64 a0_0, .int .i64 1, .int .i64 3] rfl (MA) ?_; (with_reducible refine (impl_within.calls a0_0 1 3 true _ A4.out).mono ?_); rintro e w' ⟨rfl, ⟨nd, rfl⟩⟩; refine ⟨_, rfl, ?_⟩) | (go_at_call 60; (with_reducible refine (impl_within.calls a0_1 1 99 true _ A6.out).mono ?_); rintro e w' ⟨rfl, ⟨nd, rfl⟩⟩) | (go_at_call 60; (with_reducible refine (impl_within.calls a0_2 0 99 false _ A8.out).mono ?_); rintro e w' ⟨rfl, ⟨nd, rfl⟩⟩))
   go_meet
   case rel => exact ⟨_, (false), SD, H', ⟨by first | omega | exact Nat.le_refl _⟩, ⟨BQ BK277.out⟩, ⟨BL⟩⟩
  subst c9
  have H1 : ((impl_within.f a0_3 1 20).bind fun t281 => (impl_TaskOk.j0 k t281 a0_0 a0_1 a0_2 a0_3 a0_4 a0_5 a0_6 a0_7 a0_8 a0_9 a0_10)) = some r := by rw [if_pos rfl] at H; exact H
  clear H; have H := H1; clear H1; replace H := Option.bind_eq_some_iff.mp H; obtain ⟨t281, A100, H⟩ := H; have A10 := Aside0.mk A100; clear A100; have H' := Aside0.mk H; clear H; obtain ⟨hcz11_0, hcz11_1, hcz11_2, hcz11_3, hcz11_4, hcz11_5, hcz11_6, hcz11_7, hcz11_8, hcz11_9, hcz11_10, hfz11_0, hfz11_1, hfz11_2, hfz11_3, hfz11_4, hfz11_5, hfz11_6, hfz11_7, hfz11_8, hfz11_9, hfz11_10⟩ := KC11 BK277.out
  go_wp2_with (first | ((with_reducible refine gate_callee (f := 60) rfl ?_); refine goesL_ (some 7) rfl rfl Try.func60 (by kernel_rfl) rfl #[.int .i64 a0_0, .int .i64 1, .int .i64 3] rfl (MA) ?_; (with_reducible refine (impl_within.calls a0_0 1 3 true _ A4.out).mono ?_); rintro e w' ⟨rfl, ⟨nd, rfl⟩⟩; refine ⟨_, rfl, ?_⟩) | (go_at_call 60; (with_reducible refine (impl_within.calls a0_1 1 99 true _ A6.out).mono ?_); rintro e w' ⟨rfl, ⟨nd, rfl⟩⟩) | (go_at_call 60; (with_reducible refine (impl_within.calls a0_2 0 99 true _ A8.out).mono ?_); rintro e w' ⟨rfl, ⟨nd, rfl⟩⟩) | (go_at_call 60; (with_reducible refine (impl_within.calls a0_3 1 20 t281 _ A10.out).mono ?_); rintro e w' ⟨rfl, ⟨nd, rfl⟩⟩))
  go_meet
  case rel => exact ⟨_, (t281), SD, H', ⟨by first | omega | exact Nat.le_refl _⟩, ⟨BQ BK277.out⟩, ⟨BL⟩⟩
 case rest =>
  clear HC2
  try clear p2 c4 c5 c6 c7 c9 hcz11_0 hcz11_1 hcz11_10 hcz11_2 hcz11_3 hcz11_4 hcz11_5 hcz11_6 hcz11_7 hcz11_8 hcz11_9 hcz12_0 hcz12_1 hcz12_10 hcz12_2 hcz12_3 hcz12_4 hcz12_5 hcz12_6 hcz12_7 hcz12_8 hcz12_9 hcz13_0 hcz13_1 hcz13_10 hcz13_2 hcz13_3 hcz13_4 hcz13_5 hcz13_6 hcz13_7 hcz13_8 hcz13_9 hcz14_0 hcz14_1 hcz14_10 hcz14_2 hcz14_3 hcz14_4 hcz14_5 hcz14_6 hcz14_7 hcz14_8 hcz14_9 hfz11_0 hfz11_1 hfz11_10 hfz11_2 hfz11_3 hfz11_4 hfz11_5 hfz11_6 hfz11_7 hfz11_8 hfz11_9 hfz12_0 hfz12_1 hfz12_10 hfz12_2 hfz12_3 hfz12_4 hfz12_5 hfz12_6 hfz12_7 hfz12_8 hfz12_9 hfz13_0 hfz13_1 hfz13_10 hfz13_2 hfz13_3 hfz13_4 hfz13_5 hfz13_6 hfz13_7 hfz13_8 hfz13_9 hfz14_0 hfz14_1 hfz14_10 hfz14_2 hfz14_3 hfz14_4 hfz14_5 hfz14_6 hfz14_7 hfz14_8 hfz14_9
  obtain ⟨kq, x3_1, rfl, HA, HJ1, BK277, HB⟩ := hcut; cases kq with
  | zero => exact absurd HA.out (by simp [impl_TaskOk.j0])
  | succ kj1 =>
   have H := HA.out; clear HA; simp only [impl_TaskOk.j0] at H; replace H := Option.bind_eq_some_iff.mp H; obtain ⟨t282, A150, H⟩ := H; have A15 := Aside0.mk A150; clear A150
   by_cases c16 : t282 = true; rotate_left
   ·
    replace c16 := Bool.eq_false_iff.mpr c16; subst c16
    have H1 : (if x3_1 = true then ((impl_within.f a0_4 0 6).bind fun t288 => (if t288 = true then (some false) else (some false))) else (some false)) = some r := by rw [if_neg (show ¬ (false = true) by decide)] at H; exact H
    clear H; have H := H1; clear H1
    by_cases c35 : x3_1 = true; rotate_left
    ·
     replace c35 := Bool.eq_false_iff.mpr c35; subst c35
     have H1 : (some false) = some r := by rw [if_neg (show ¬ (false = true) by decide)] at H; exact H
     clear H; have H := H1; clear H1; obtain rfl := Option.some.inj H; obtain ⟨hcz40_0, hcz40_1, hcz40_2, hcz40_3, hcz40_4, hcz40_5, hcz40_6, hcz40_7, hcz40_8, hcz40_9, hcz40_10, hfz40_0, hfz40_1, hfz40_2, hfz40_3, hfz40_4, hfz40_5, hfz40_6, hfz40_7, hfz40_8, hfz40_9, hfz40_10⟩ := KC11 BK277.out
     go_wp2_with (first | ((with_reducible refine gate_callee (f := 60) rfl ?_); refine goesL_ (some 25) rfl rfl Try.func60 (by kernel_rfl) rfl #[.int .i64 a0_5, .int .i64 0, .int .i64 20] rfl (MA) ?_; (with_reducible refine (impl_within.calls a0_5 0 20 false _ A15.out).mono ?_); rintro e w' ⟨rfl, ⟨nd, rfl⟩⟩; refine ⟨_, rfl, ?_⟩))
     go_ret
     exact ⟨EE, BL⟩
    subst c35
    have H1 : ((impl_within.f a0_4 0 6).bind fun t288 => (if t288 = true then (some false) else (some false))) = some r := by rw [if_pos rfl] at H; exact H
    clear H; have H := H1; clear H1; replace H := Option.bind_eq_some_iff.mp H; obtain ⟨t288, A360, H⟩ := H; have A36 := Aside0.mk A360; clear A360
    by_cases c37 : t288 = true
    ·
     subst c37
     have H1 : (some false) = some r := by rw [if_pos rfl] at H; exact H
     clear H; have H := H1; clear H1; obtain rfl := Option.some.inj H; obtain ⟨hcz38_0, hcz38_1, hcz38_2, hcz38_3, hcz38_4, hcz38_5, hcz38_6, hcz38_7, hcz38_8, hcz38_9, hcz38_10, hfz38_0, hfz38_1, hfz38_2, hfz38_3, hfz38_4, hfz38_5, hfz38_6, hfz38_7, hfz38_8, hfz38_9, hfz38_10⟩ := KC11 BK277.out
     go_wp2_with (first | ((with_reducible refine gate_callee (f := 60) rfl ?_); refine goesL_ (some 25) rfl rfl Try.func60 (by kernel_rfl) rfl #[.int .i64 a0_5, .int .i64 0, .int .i64 20] rfl (MA) ?_; (with_reducible refine (impl_within.calls a0_5 0 20 false _ A15.out).mono ?_); rintro e w' ⟨rfl, ⟨nd, rfl⟩⟩; refine ⟨_, rfl, ?_⟩) | (go_at_call 60; (with_reducible refine (impl_within.calls a0_4 0 6 true _ A36.out).mono ?_); rintro e w' ⟨rfl, ⟨nd, rfl⟩⟩))
     go_ret
     exact ⟨EE, BL⟩
    replace c37 := Bool.eq_false_iff.mpr c37; subst c37
    have H1 : (some false) = some r := by rw [if_neg (show ¬ (false = true) by decide)] at H; exact H
    clear H; have H := H1; clear H1; obtain rfl := Option.some.inj H; obtain ⟨hcz39_0, hcz39_1, hcz39_2, hcz39_3, hcz39_4, hcz39_5, hcz39_6, hcz39_7, hcz39_8, hcz39_9, hcz39_10, hfz39_0, hfz39_1, hfz39_2, hfz39_3, hfz39_4, hfz39_5, hfz39_6, hfz39_7, hfz39_8, hfz39_9, hfz39_10⟩ := KC11 BK277.out
    go_wp2_with (first | ((with_reducible refine gate_callee (f := 60) rfl ?_); refine goesL_ (some 25) rfl rfl Try.func60 (by kernel_rfl) rfl #[.int .i64 a0_5, .int .i64 0, .int .i64 20] rfl (MA) ?_; (with_reducible refine (impl_within.calls a0_5 0 20 false _ A15.out).mono ?_); rintro e w' ⟨rfl, ⟨nd, rfl⟩⟩; refine ⟨_, rfl, ?_⟩) | (go_at_call 60; (with_reducible refine (impl_within.calls a0_4 0 6 false _ A36.out).mono ?_); rintro e w' ⟨rfl, ⟨nd, rfl⟩⟩))
    go_ret
    exact ⟨EE, BL⟩
   subst c16
   have H1 : ((impl_within.f a0_6 0 20).bind fun t283 => (if t283 = true then ((impl_within.f a0_7 0 20).bind fun t284 => (if x3_1 = true then ((impl_within.f a0_4 0 6).bind fun t285 => (if t285 = true then (if t284 = true then ((impl_within.f a0_8 0 1).bind fun t286 => (some t286)) else (some false)) else (some false))) else (some false))) else (if x3_1 = true then ((impl_within.f a0_4 0 6).bind fun t287 => (if t287 = true then (some false) else (some false))) else (some false)))) = some r := by rw [if_pos rfl] at H; exact H
   clear H; have H := H1; clear H1; replace H := Option.bind_eq_some_iff.mp H; obtain ⟨t283, A170, H⟩ := H; have A17 := Aside0.mk A170; clear A170
   by_cases c18 : t283 = true; rotate_left
   ·
    replace c18 := Bool.eq_false_iff.mpr c18; subst c18
    have H1 : (if x3_1 = true then ((impl_within.f a0_4 0 6).bind fun t287 => (if t287 = true then (some false) else (some false))) else (some false)) = some r := by rw [if_neg (show ¬ (false = true) by decide)] at H; exact H
    clear H; have H := H1; clear H1
    by_cases c29 : x3_1 = true; rotate_left
    ·
     replace c29 := Bool.eq_false_iff.mpr c29; subst c29
     have H1 : (some false) = some r := by rw [if_neg (show ¬ (false = true) by decide)] at H; exact H
     clear H; have H := H1; clear H1; obtain rfl := Option.some.inj H; obtain ⟨hcz34_0, hcz34_1, hcz34_2, hcz34_3, hcz34_4, hcz34_5, hcz34_6, hcz34_7, hcz34_8, hcz34_9, hcz34_10, hfz34_0, hfz34_1, hfz34_2, hfz34_3, hfz34_4, hfz34_5, hfz34_6, hfz34_7, hfz34_8, hfz34_9, hfz34_10⟩ := KC11 BK277.out
     go_wp2_with (first | ((with_reducible refine gate_callee (f := 60) rfl ?_); refine goesL_ (some 25) rfl rfl Try.func60 (by kernel_rfl) rfl #[.int .i64 a0_5, .int .i64 0, .int .i64 20] rfl (MA) ?_; (with_reducible refine (impl_within.calls a0_5 0 20 true _ A15.out).mono ?_); rintro e w' ⟨rfl, ⟨nd, rfl⟩⟩; refine ⟨_, rfl, ?_⟩) | (go_at_call 60; (with_reducible refine (impl_within.calls a0_6 0 20 false _ A17.out).mono ?_); rintro e w' ⟨rfl, ⟨nd, rfl⟩⟩))
     go_ret
     exact ⟨EE, BL⟩
    subst c29
    have H1 : ((impl_within.f a0_4 0 6).bind fun t287 => (if t287 = true then (some false) else (some false))) = some r := by rw [if_pos rfl] at H; exact H
    clear H; have H := H1; clear H1; replace H := Option.bind_eq_some_iff.mp H; obtain ⟨t287, A300, H⟩ := H; have A30 := Aside0.mk A300; clear A300
    by_cases c31 : t287 = true
    ·
     subst c31
     have H1 : (some false) = some r := by rw [if_pos rfl] at H; exact H
     clear H; have H := H1; clear H1; obtain rfl := Option.some.inj H; obtain ⟨hcz32_0, hcz32_1, hcz32_2, hcz32_3, hcz32_4, hcz32_5, hcz32_6, hcz32_7, hcz32_8, hcz32_9, hcz32_10, hfz32_0, hfz32_1, hfz32_2, hfz32_3, hfz32_4, hfz32_5, hfz32_6, hfz32_7, hfz32_8, hfz32_9, hfz32_10⟩ := KC11 BK277.out
     go_wp2_with (first | ((with_reducible refine gate_callee (f := 60) rfl ?_); refine goesL_ (some 25) rfl rfl Try.func60 (by kernel_rfl) rfl #[.int .i64 a0_5, .int .i64 0, .int .i64 20] rfl (MA) ?_; (with_reducible refine (impl_within.calls a0_5 0 20 true _ A15.out).mono ?_); rintro e w' ⟨rfl, ⟨nd, rfl⟩⟩; refine ⟨_, rfl, ?_⟩) | (go_at_call 60; (with_reducible refine (impl_within.calls a0_6 0 20 false _ A17.out).mono ?_); rintro e w' ⟨rfl, ⟨nd, rfl⟩⟩) | (go_at_call 60; (with_reducible refine (impl_within.calls a0_4 0 6 true _ A30.out).mono ?_); rintro e w' ⟨rfl, ⟨nd, rfl⟩⟩))
     go_ret
     exact ⟨EE, BL⟩
    replace c31 := Bool.eq_false_iff.mpr c31; subst c31
    have H1 : (some false) = some r := by rw [if_neg (show ¬ (false = true) by decide)] at H; exact H
    clear H; have H := H1; clear H1; obtain rfl := Option.some.inj H; obtain ⟨hcz33_0, hcz33_1, hcz33_2, hcz33_3, hcz33_4, hcz33_5, hcz33_6, hcz33_7, hcz33_8, hcz33_9, hcz33_10, hfz33_0, hfz33_1, hfz33_2, hfz33_3, hfz33_4, hfz33_5, hfz33_6, hfz33_7, hfz33_8, hfz33_9, hfz33_10⟩ := KC11 BK277.out
    go_wp2_with (first | ((with_reducible refine gate_callee (f := 60) rfl ?_); refine goesL_ (some 25) rfl rfl Try.func60 (by kernel_rfl) rfl #[.int .i64 a0_5, .int .i64 0, .int .i64 20] rfl (MA) ?_; (with_reducible refine (impl_within.calls a0_5 0 20 true _ A15.out).mono ?_); rintro e w' ⟨rfl, ⟨nd, rfl⟩⟩; refine ⟨_, rfl, ?_⟩) | (go_at_call 60; (with_reducible refine (impl_within.calls a0_6 0 20 false _ A17.out).mono ?_); rintro e w' ⟨rfl, ⟨nd, rfl⟩⟩) | (go_at_call 60; (with_reducible refine (impl_within.calls a0_4 0 6 false _ A30.out).mono ?_); rintro e w' ⟨rfl, ⟨nd, rfl⟩⟩))
    go_ret
    exact ⟨EE, BL⟩
   subst c18
   have H1 : ((impl_within.f a0_7 0 20).bind fun t284 => (if x3_1 = true then ((impl_within.f a0_4 0 6).bind fun t285 => (if t285 = true then (if t284 = true then ((impl_within.f a0_8 0 1).bind fun t286 => (some t286)) else (some false)) else (some false))) else (some false))) = some r := by rw [if_pos rfl] at H; exact H
   clear H; have H := H1; clear H1; replace H := Option.bind_eq_some_iff.mp H; obtain ⟨t284, A190, H⟩ := H; have A19 := Aside0.mk A190; clear A190
   by_cases c20 : x3_1 = true; rotate_left
   ·
    replace c20 := Bool.eq_false_iff.mpr c20; subst c20
    have H1 : (some false) = some r := by rw [if_neg (show ¬ (false = true) by decide)] at H; exact H
    clear H; have H := H1; clear H1; obtain rfl := Option.some.inj H; obtain ⟨hcz28_0, hcz28_1, hcz28_2, hcz28_3, hcz28_4, hcz28_5, hcz28_6, hcz28_7, hcz28_8, hcz28_9, hcz28_10, hfz28_0, hfz28_1, hfz28_2, hfz28_3, hfz28_4, hfz28_5, hfz28_6, hfz28_7, hfz28_8, hfz28_9, hfz28_10⟩ := KC11 BK277.out
    go_wp2_with (first | ((with_reducible refine gate_callee (f := 60) rfl ?_); refine goesL_ (some 25) rfl rfl Try.func60 (by kernel_rfl) rfl #[.int .i64 a0_5, .int .i64 0, .int .i64 20] rfl (MA) ?_; (with_reducible refine (impl_within.calls a0_5 0 20 true _ A15.out).mono ?_); rintro e w' ⟨rfl, ⟨nd, rfl⟩⟩; refine ⟨_, rfl, ?_⟩) | (go_at_call 60; (with_reducible refine (impl_within.calls a0_6 0 20 true _ A17.out).mono ?_); rintro e w' ⟨rfl, ⟨nd, rfl⟩⟩) | (go_at_call 60; (with_reducible refine (impl_within.calls a0_7 0 20 t284 _ A19.out).mono ?_); rintro e w' ⟨rfl, ⟨nd, rfl⟩⟩))
    go_ret
    exact ⟨EE, BL⟩
   subst c20
   have H1 : ((impl_within.f a0_4 0 6).bind fun t285 => (if t285 = true then (if t284 = true then ((impl_within.f a0_8 0 1).bind fun t286 => (some t286)) else (some false)) else (some false))) = some r := by rw [if_pos rfl] at H; exact H
   clear H; have H := H1; clear H1; replace H := Option.bind_eq_some_iff.mp H; obtain ⟨t285, A210, H⟩ := H; have A21 := Aside0.mk A210; clear A210
   by_cases c22 : t285 = true; rotate_left
   ·
    replace c22 := Bool.eq_false_iff.mpr c22; subst c22
    have H1 : (some false) = some r := by rw [if_neg (show ¬ (false = true) by decide)] at H; exact H
    clear H; have H := H1; clear H1; obtain rfl := Option.some.inj H; obtain ⟨hcz27_0, hcz27_1, hcz27_2, hcz27_3, hcz27_4, hcz27_5, hcz27_6, hcz27_7, hcz27_8, hcz27_9, hcz27_10, hfz27_0, hfz27_1, hfz27_2, hfz27_3, hfz27_4, hfz27_5, hfz27_6, hfz27_7, hfz27_8, hfz27_9, hfz27_10⟩ := KC11 BK277.out
    go_wp2_with (first | ((with_reducible refine gate_callee (f := 60) rfl ?_); refine goesL_ (some 25) rfl rfl Try.func60 (by kernel_rfl) rfl #[.int .i64 a0_5, .int .i64 0, .int .i64 20] rfl (MA) ?_; (with_reducible refine (impl_within.calls a0_5 0 20 true _ A15.out).mono ?_); rintro e w' ⟨rfl, ⟨nd, rfl⟩⟩; refine ⟨_, rfl, ?_⟩) | (go_at_call 60; (with_reducible refine (impl_within.calls a0_6 0 20 true _ A17.out).mono ?_); rintro e w' ⟨rfl, ⟨nd, rfl⟩⟩) | (go_at_call 60; (with_reducible refine (impl_within.calls a0_7 0 20 t284 _ A19.out).mono ?_); rintro e w' ⟨rfl, ⟨nd, rfl⟩⟩) | (go_at_call 60; (with_reducible refine (impl_within.calls a0_4 0 6 false _ A21.out).mono ?_); rintro e w' ⟨rfl, ⟨nd, rfl⟩⟩))
    go_ret
    exact ⟨EE, BL⟩
   subst c22
   have H1 : (if t284 = true then ((impl_within.f a0_8 0 1).bind fun t286 => (some t286)) else (some false)) = some r := by rw [if_pos rfl] at H; exact H
   clear H; have H := H1; clear H1
   by_cases c23 : t284 = true; rotate_left
   ·
    replace c23 := Bool.eq_false_iff.mpr c23; subst c23
    have H1 : (some false) = some r := by rw [if_neg (show ¬ (false = true) by decide)] at H; exact H
    clear H; have H := H1; clear H1; obtain rfl := Option.some.inj H; obtain ⟨hcz26_0, hcz26_1, hcz26_2, hcz26_3, hcz26_4, hcz26_5, hcz26_6, hcz26_7, hcz26_8, hcz26_9, hcz26_10, hfz26_0, hfz26_1, hfz26_2, hfz26_3, hfz26_4, hfz26_5, hfz26_6, hfz26_7, hfz26_8, hfz26_9, hfz26_10⟩ := KC11 BK277.out
    go_wp2_with (first | ((with_reducible refine gate_callee (f := 60) rfl ?_); refine goesL_ (some 25) rfl rfl Try.func60 (by kernel_rfl) rfl #[.int .i64 a0_5, .int .i64 0, .int .i64 20] rfl (MA) ?_; (with_reducible refine (impl_within.calls a0_5 0 20 true _ A15.out).mono ?_); rintro e w' ⟨rfl, ⟨nd, rfl⟩⟩; refine ⟨_, rfl, ?_⟩) | (go_at_call 60; (with_reducible refine (impl_within.calls a0_6 0 20 true _ A17.out).mono ?_); rintro e w' ⟨rfl, ⟨nd, rfl⟩⟩) | (go_at_call 60; (with_reducible refine (impl_within.calls a0_7 0 20 false _ A19.out).mono ?_); rintro e w' ⟨rfl, ⟨nd, rfl⟩⟩) | (go_at_call 60; (with_reducible refine (impl_within.calls a0_4 0 6 true _ A21.out).mono ?_); rintro e w' ⟨rfl, ⟨nd, rfl⟩⟩))
    go_ret
    exact ⟨EE, BL⟩
   subst c23
   have H1 : ((impl_within.f a0_8 0 1).bind fun t286 => (some t286)) = some r := by rw [if_pos rfl] at H; exact H
   clear H; have H := H1; clear H1; replace H := Option.bind_eq_some_iff.mp H; obtain ⟨t286, A240, H⟩ := H; have A24 := Aside0.mk A240; clear A240; obtain rfl := Option.some.inj H; obtain ⟨hcz25_0, hcz25_1, hcz25_2, hcz25_3, hcz25_4, hcz25_5, hcz25_6, hcz25_7, hcz25_8, hcz25_9, hcz25_10, hfz25_0, hfz25_1, hfz25_2, hfz25_3, hfz25_4, hfz25_5, hfz25_6, hfz25_7, hfz25_8, hfz25_9, hfz25_10⟩ := KC11 BK277.out
   go_wp2_with (first | ((with_reducible refine gate_callee (f := 60) rfl ?_); refine goesL_ (some 25) rfl rfl Try.func60 (by kernel_rfl) rfl #[.int .i64 a0_5, .int .i64 0, .int .i64 20] rfl (MA) ?_; (with_reducible refine (impl_within.calls a0_5 0 20 true _ A15.out).mono ?_); rintro e w' ⟨rfl, ⟨nd, rfl⟩⟩; refine ⟨_, rfl, ?_⟩) | (go_at_call 60; (with_reducible refine (impl_within.calls a0_6 0 20 true _ A17.out).mono ?_); rintro e w' ⟨rfl, ⟨nd, rfl⟩⟩) | (go_at_call 60; (with_reducible refine (impl_within.calls a0_7 0 20 true _ A19.out).mono ?_); rintro e w' ⟨rfl, ⟨nd, rfl⟩⟩) | (go_at_call 60; (with_reducible refine (impl_within.calls a0_4 0 6 true _ A21.out).mono ?_); rintro e w' ⟨rfl, ⟨nd, rfl⟩⟩) | (go_at_call 60; (with_reducible refine (impl_within.calls a0_8 0 1 t286 _ A24.out).mono ?_); rintro e w' ⟨rfl, ⟨nd, rfl⟩⟩))
   go_ret
   exact ⟨EE, BL⟩

/-! ### impl_copyInts: function 51 -/
def impl_copyInts.f (l0 : List Int) : Option (List Int) := (some (([] : List Int) : List Int)).bind fun y289 => (if y289.length + l0.length < 17592186044416 then (some (y289 ++ l0)) else (none))
set_option maxHeartbeats 8000000 in
set_option maxRecDepth 100000 in
theorem impl_copyInts.calls (A0 : Option Addr) (c0 : Nat) (l0 : List Int) (r : List Int) (w : World) (hr0 : Kd.C (Kd.int .i64) w A0 l0.length l0) (hc0 : l0.length ≤ c0) (h : impl_copyInts.f l0 = some r) :
  Calls Try.prog 51 #[.slice A0 l0.length c0] w fun e w' => ∃ v0_ : Value, e = .returned (v0_) ∧ Kd.R (Kd.int .i64) 3 w' w.heap.size (fun _ => True) v0_ r ∧ Below w.heap.size w w' := by
 have HR0 := Aside0.mk hr0
 have HC0 := Aside0.mk hc0
 clear hr0 hc0
 have HB := Aside0.mk (Below.refl w.heap.size w)
 have H : ((some (([] : List Int) : List Int)).bind fun y289 => (if y289.length + l0.length < 17592186044416 then (some (y289 ++ l0)) else (none))) = some r := h
 clear h
 obtain ⟨y289, hy289⟩ : ∃ y_ : List Int, y_ = (([] : List Int)) := ⟨_, rfl⟩
 replace H : (if y289.length + l0.length < 17592186044416 then (some (y289 ++ l0)) else (none)) = some r := by first | (rw [hy289]; with_reducible exact H) | (have H2_ := (Option.bind_some _ _).symm.trans H; rw [hy289]; with_reducible exact H2_) | (have H2_ := (Option.bind_some _ _).symm.trans H; with_reducible exact H2_) | with_reducible exact H | (rw [hy289]; exact H) | exact H
 have Ny289 := Aside0.mk hy289
 clear hy289
 by_cases c2 : y289.length + l0.length < 17592186044416; rotate_left
 ·
  rw [if_neg c2] at H; exact absurd H (by simp)
 rw [if_pos c2] at H
 have LMc2 := Aside0.mk c2
 clear c2
 obtain ⟨y292, hy292⟩ : ∃ y_ : List Int, y_ = (y289 ++ l0) := ⟨_, rfl⟩
 replace H : (some y292) = some r := by first | (rw [hy292]; with_reducible exact H) | (have H2_ := (Option.bind_some _ _).symm.trans H; rw [hy292]; with_reducible exact H2_) | (have H2_ := (Option.bind_some _ _).symm.trans H; with_reducible exact H2_) | with_reducible exact H | (rw [hy292]; exact H) | exact H
 have Ny292 := Aside0.mk hy292
 clear hy292
 obtain rfl := Option.some.inj H
 go_enter Try.func51, Try.ntmps51
 go_wp2_with (first | ((with_reducible refine gate_dst (N := 3) rfl ?_); refine Kd.R_lit (Kd.int .i64) _ 3 ?hg (N := 3) ?hd (xs := ([] : List Int)) (inner := []) (ok := fun _ => True) (okp := fun _ => True) ?hr ?hp (fun _ hk => hk) trivial (Below.refl _ _) (Nat.le_refl _) (by simp) ?_; (case hd => rfl); (case hg => rfl); (case hr => first | (go_simp; done) | (go_simp; rfl)); (case hp => exact (Reps.none _ _)); intro v290 w3 ho4 hb hg_ hnew_; clear hg_ hnew_; (first | rw [← Ny289.out] at ho4 | (simp only [Int.reduceToNat] at ho4; rw [← Ny289.out] at ho4)); have HO291 := Aside0.mk (Kd.R_lower ho4 (below_size (BL))); replace HB := Aside0.mk (below_step (BL) hb); clear hb ho4) | ((with_reducible refine gate_builtin (b := .append) (xs := #[.tmp 3, .tmp 4]) rfl ?_); at_builtin; refine Kd.R_append_rows (Kd.int .i64) (w0 := w) w.heap.size rfl (.tmp 3) (.tmp 4) 22 3 (.int .i64 0) 8 rfl Try.underlying22 info3 rfl (by decide) (by omega) v290 y289 l0 _ _ _ (fun _ => True) (fun _ => False) rfl rfl ?aO ?aR (fun _ _ h => h) (fun _ h => h.elim) ?aF ?aB ?aS ?aL ?_; (case aR => exact CB HR0.out); (case aB => exact (BL)); (case aF => exact (fun _ _ => trivial)); (case aO => exact RQ HO291.out); (case aS => exact (below_size (BL))); (case aL => have := LMc2.out; omega); intro v293 w5 ho hb hg hat; rw [← Ny292.out] at ho; have n0_ := Aside0.mk (hb); have n1_ := Aside0.mk (ho); clear HB; clear HO291; have HB := n0_; have HO294 := n1_; clear n0_ n1_; clear ho hb hg hat))
 go_ret
 exact ⟨_, EE, RQ HO294.out, BL⟩

/-! ### impl_Task_done: function 83 -/
def impl_Task_done.f (s0_0 : Int) (s0_1 : Int) (s0_2 : Int) (s0_3 : Int) (s0_4 : Int) (s0_5 : Int) (s0_6 : Int) (s0_7 : Int) (s0_8 : Int) (s0_9 : Bool) (s0_10 : Int) (a1 : Int) : Option (Int × Int × Int × Int × Int × Int × Int × Int × Int × Bool × Int) := some (s0_0, s0_1, s0_2, s0_3, s0_4, s0_5, s0_6, s0_7, s0_8, true, a1)
set_option maxHeartbeats 8000000 in
set_option maxRecDepth 100000 in
theorem impl_Task_done.calls (g : Nat) (s0_0 : Int) (s0_1 : Int) (s0_2 : Int) (s0_3 : Int) (s0_4 : Int) (s0_5 : Int) (s0_6 : Int) (s0_7 : Int) (s0_8 : Int) (s0_9 : Bool) (s0_10 : Int) (a1 : Int) (r1 : Int) (r2 : Int) (r3 : Int) (r4 : Int) (r5 : Int) (r6 : Int) (r7 : Int) (r8 : Int) (r9 : Int) (r10 : Bool) (r11 : Int) (w0 w : World) (hI : IsS46 w0 w g s0_0 s0_1 s0_2 s0_3 s0_4 s0_5 s0_6 s0_7 s0_8 s0_9 s0_10) (hB : Below w0.heap.size w0 w) (h : impl_Task_done.f s0_0 s0_1 s0_2 s0_3 s0_4 s0_5 s0_6 s0_7 s0_8 s0_9 s0_10 a1 = some (r1, r2, r3, r4, r5, r6, r7, r8, r9, r10, r11)) :
  Calls Try.prog 83 #[.pointer (some ⟨g, 0, none⟩), .int .i64 a1] w fun e w' => e = .returned (.tuple #[]) ∧ IsS46 w0 w' g r1 r2 r3 r4 r5 r6 r7 r8 r9 r10 r11 ∧ Below w0.heap.size w0 w' ∧ KeepBut w w' g none := by
 have HI0 := Aside0.mk hI
 have HK := Aside0.mk (KeepBut.refl w g none)
 have HL := Aside0.mk hB.size
 clear hI
 have HW0 := Aside0.mk hB.size
 have HB := Aside0.mk hB
 clear hB
 have H : (some (s0_0, s0_1, s0_2, s0_3, s0_4, s0_5, s0_6, s0_7, s0_8, true, a1)) = some (r1, r2, r3, r4, r5, r6, r7, r8, r9, r10, r11) := h
 clear h
 simp only [Option.some.injEq, Prod.mk.injEq] at H
 obtain ⟨rfl, rfl, rfl, rfl, rfl, rfl, rfl, rfl, rfl, rfl, rfl⟩ := H
 obtain ⟨HGz3, hgz3⟩ := HI0.out
 have hcz3_0 := cellS46_0 HGz3
 have hcz3_1 := cellS46_1 HGz3
 have hcz3_2 := cellS46_2 HGz3
 have hcz3_3 := cellS46_3 HGz3
 have hcz3_4 := cellS46_4 HGz3
 have hcz3_5 := cellS46_5 HGz3
 have hcz3_6 := cellS46_6 HGz3
 have hcz3_7 := cellS46_7 HGz3
 have hcz3_8 := cellS46_8 HGz3
 have hcz3_9 := cellS46_9 HGz3
 have hcz3_10 := cellS46_10 HGz3
 have hfz3_0 := blk_frozen HGz3 0
 have hfz3_1 := blk_frozen HGz3 1
 have hfz3_2 := blk_frozen HGz3 2
 have hfz3_3 := blk_frozen HGz3 3
 have hfz3_4 := blk_frozen HGz3 4
 have hfz3_5 := blk_frozen HGz3 5
 have hfz3_6 := blk_frozen HGz3 6
 have hfz3_7 := blk_frozen HGz3 7
 have hfz3_8 := blk_frozen HGz3 8
 have hfz3_9 := blk_frozen HGz3 9
 have hfz3_10 := blk_frozen HGz3 10
 clear HGz3 hgz3
 go_enter Try.func83, Try.ntmps83
 go_wp2
 first | go_end0 | ((try simp only [Exit.inBlock, Exit.then]); refine bodyPost_ret (results_none rfl _ _ _) rfl ?_)
 exact ⟨EE, by repeat (first | (with_reducible first | exact HI0.out | apply IsS46.alloc | apply IsS46.drewN | apply IsS46.drew | apply IsS46.set_0 | apply IsS46.set_1 | apply IsS46.set_2 | apply IsS46.set_3 | apply IsS46.set_4 | apply IsS46.set_5 | apply IsS46.set_6 | apply IsS46.set_7 | apply IsS46.set_8 | apply IsS46.set_9 | apply IsS46.set_10) | exact HI0.out), by repeat (first | (with_reducible first | exact HB.out | apply below_alloc | apply pw_below_drewN | apply below_drew1 | refine below_set ?_ (IsS46.ge HI0.out)) | exact HB.out), by repeat (first | (with_reducible first | exact HK.out | apply KeepBut.set_ | apply keep_drewN | apply keep_drew | apply keep_alloc) | exact HK.out)⟩

/-! ### impl_Task_nobody: function 87 -/
def impl_Task_nobody.f (s0_0 : Int) (s0_1 : Int) (s0_2 : Int) (s0_3 : Int) (s0_4 : Int) (s0_5 : Int) (s0_6 : Int) (s0_7 : Int) (s0_8 : Int) (s0_9 : Bool) (s0_10 : Int) (l1 : List Int) : Option (Int × Int × Int × Int × Int × Int × Int × Int × Int × Bool × Int × List Int) := if s0_0 = 2 then ((impl_keyCell.f s0_3).bind fun t295 => ((impl_valCell.f s0_3).bind fun t296 => ((impl_wordCell.f s0_3).bind fun t297 => (if 0 ≤ t295 then (if t295 < (l1.length : Int) then (if 0 ≤ t296 then (if t296 < (l1.length : Int) then (if 0 ≤ t297 then (if t297 < (l1.length : Int) then (some (s0_0, s0_1, s0_2, s0_3, 4, s0_5, s0_6, s0_7, s0_8, s0_9, s0_10, (((l1.set (t295 : Int).toNat s0_1).set (t296 : Int).toNat s0_2).set (t297 : Int).toNat (wrap64 (2 * s0_6))))) else (none)) else (none)) else (none)) else (none)) else (none)) else (none))))) else ((impl_Task_done.f s0_0 s0_1 s0_2 s0_3 s0_4 s0_5 s0_6 s0_7 s0_8 s0_9 s0_10 0).bind fun bt301 => (some (bt301.1, bt301.2.1, bt301.2.2.1, bt301.2.2.2.1, bt301.2.2.2.2.1, bt301.2.2.2.2.2.1, bt301.2.2.2.2.2.2.1, bt301.2.2.2.2.2.2.2.1, bt301.2.2.2.2.2.2.2.2.1, bt301.2.2.2.2.2.2.2.2.2.1, bt301.2.2.2.2.2.2.2.2.2.2, l1)))
def impl_Task_nobody.T2 : Bool × List (List Nat × List Nat) := (true, [([], []), ([], []), ([1], [1]), ([2], [2]), ([3], [3]), ([4], [4]), ([], []), ([], []), ([7], [7]), ([8], [8]), ([9], [9]), ([10, 5], [10]), ([], []), ([], []), ([13], [13]), ([14], [14]), ([15], [15]), ([16, 11], [16]), ([], []), ([18], [18]), ([19], [19]), ([20], [20]), ([], []), ([22], [22]), ([23], [23]), ([24], [24]), ([], []), ([26], [26]), ([27], [27]), ([28], [28]), ([29], [29]), ([0, 5, 0, 1, 2, 3, 4, 5, 10, 11, 16, 17, 18, 19, 20, 21, 25, 29], [0, 5]), ([31, 21, 17, 0, 1, 2, 3, 4, 5, 10, 11, 16, 17, 18, 19, 20, 21, 25, 29], [21, 31]), ([6, 11, 0, 1, 2, 3, 4, 5, 6, 7, 8, 9, 10, 11, 16, 17, 18, 19, 20, 21, 22, 23, 24, 25, 29, 31, 32], [6, 11]), ([33, 25, 32, 0, 1, 2, 3, 4, 5, 6, 7, 8, 9, 10, 11, 16, 17, 18, 19, 20, 21, 22, 23, 24, 25, 29, 31, 32], [25, 33]), ([12, 17, 0, 1, 2, 3, 4, 5, 6, 7, 8, 9, 10, 11, 12, 13, 14, 15, 16, 17, 18, 19, 20, 21, 22, 23, 24, 25, 26, 27, 28, 29, 30, 31, 32, 33, 34], [12, 17]), ([35, 30, 34, 0, 1, 2, 3, 4, 5, 6, 7, 8, 9, 10, 11, 12, 13, 14, 15, 16, 17, 18, 19, 20, 21, 22, 23, 24, 25, 26, 27, 28, 29, 30, 31, 32, 33, 34], [30, 35])])
def impl_Task_nobody.B2 : List Nat := [0, 0, 2, 6, 14, 30, 0, 0, 128, 384, 896, 1982, 0, 0, 8192, 24576, 57344, 126910, 0, 262144, 786432, 1835008, 0, 4194304, 12582912, 29360128, 0, 67108864, 201326592, 469762048, 1006632960, 1073737663, 3221221311, 7516188671, 16106123263, 34359738367, 68719476735]
theorem impl_Task_nobody.tab2 : rtab .any (opsOf Try.f87 2) = impl_Task_nobody.T2 := by kernel_rfl
theorem impl_Task_nobody.bits2 : waitsOk impl_Task_nobody.T2.2 impl_Task_nobody.B2 = true := by kernel_rfl
theorem impl_Task_nobody.k0 {p q : Prop} (h : q) (k : q → p := by intro h_; repeat (first | (with_reducible first | exact h_ | apply IsS46.alloc | apply IsS46.drewN | apply IsS46.drew | apply IsS46.set_0 | apply IsS46.set_1 | apply IsS46.set_2 | apply IsS46.set_3 | apply IsS46.set_4 | apply IsS46.set_5 | apply IsS46.set_6 | apply IsS46.set_7 | apply IsS46.set_8 | apply IsS46.set_9 | apply IsS46.set_10) | exact h_)) : p := k h
theorem impl_Task_nobody.k1 {p q : Prop} (h : q) (k : q → p := by intro h_; repeat (first | (with_reducible first | exact h_ | apply below_alloc | apply pw_below_drewN | apply below_drew1 | refine below_set ?_ (IsS46.ge HI0.out)) | exact h_)) : p := k h
theorem impl_Task_nobody.k2 {p q : Prop} (h : q) (k : q → p := by intro h_; repeat (first | (with_reducible first | exact h_ | apply Kept.alloc | apply Kept.drewN | apply Kept.drew | refine Kept.setCell ?_ (.inl (.inr rfl)) _) | exact h_)) : p := k h
set_option maxHeartbeats 8000000 in
set_option maxRecDepth 100000 in
theorem impl_Task_nobody.calls (g : Nat) (s0_0 : Int) (s0_1 : Int) (s0_2 : Int) (s0_3 : Int) (s0_4 : Int) (s0_5 : Int) (s0_6 : Int) (s0_7 : Int) (s0_8 : Int) (s0_9 : Bool) (s0_10 : Int) (P1_ : Nat → Prop) (u9000_ : Value) (l1 : List Int) (r1 : Int) (r2 : Int) (r3 : Int) (r4 : Int) (r5 : Int) (r6 : Int) (r7 : Int) (r8 : Int) (r9 : Int) (r10 : Bool) (r11 : Int) (r12 : List Int) (w0 w : World) (hI : IsS46 w0 w g s0_0 s0_1 s0_2 s0_3 s0_4 s0_5 s0_6 s0_7 s0_8 s0_9 s0_10) (hB : Below w0.heap.size w0 w) (ho1 : Kd.R (Kd.int .i64) 3 w w0.heap.size P1_ u9000_ l1) (h : impl_Task_nobody.f s0_0 s0_1 s0_2 s0_3 s0_4 s0_5 s0_6 s0_7 s0_8 s0_9 s0_10 l1 = some (r1, r2, r3, r4, r5, r6, r7, r8, r9, r10, r11, r12)) :
  Calls Try.prog 87 #[.pointer (some ⟨g, 0, none⟩), u9000_] w fun e w' => e = .returned (.tuple #[]) ∧ IsS46 w0 w' g r1 r2 r3 r4 r5 r6 r7 r8 r9 r10 r11 ∧ Kd.R (Kd.int .i64) 3 w' w0.heap.size (fun k_ => (P1_ k_ ∨ w.heap.size ≤ k_)) u9000_ r12 ∧ Below w0.heap.size w0 w' ∧ Kept w w' (fun k_ => (P1_ k_) ∨ k_ = g) := by
 have HO1 := Aside0.mk (show Kd.R (Kd.int .i64) 3 w w0.heap.size (fun k_ => (P1_ k_ ∨ w.heap.size ≤ k_)) u9000_ l1 from Kd.R_mono ho1 (fun k_ hk => (.inl hk)))
 have HI0 := Aside0.mk hI
 have HL := Aside0.mk hB.size
 clear hI
 have HK := Aside0.mk (Kept.refl w (fun k_ => (P1_ k_) ∨ k_ = g))
 have HW0 := Aside0.mk hB.size
 have HB := Aside0.mk hB
 clear hB
 have H : (if s0_0 = 2 then ((impl_keyCell.f s0_3).bind fun t295 => ((impl_valCell.f s0_3).bind fun t296 => ((impl_wordCell.f s0_3).bind fun t297 => (if 0 ≤ t295 then (if t295 < (l1.length : Int) then (if 0 ≤ t296 then (if t296 < (l1.length : Int) then (if 0 ≤ t297 then (if t297 < (l1.length : Int) then (some (s0_0, s0_1, s0_2, s0_3, 4, s0_5, s0_6, s0_7, s0_8, s0_9, s0_10, (((l1.set (t295 : Int).toNat s0_1).set (t296 : Int).toNat s0_2).set (t297 : Int).toNat (wrap64 (2 * s0_6))))) else (none)) else (none)) else (none)) else (none)) else (none)) else (none))))) else ((impl_Task_done.f s0_0 s0_1 s0_2 s0_3 s0_4 s0_5 s0_6 s0_7 s0_8 s0_9 s0_10 0).bind fun bt301 => (some (bt301.1, bt301.2.1, bt301.2.2.1, bt301.2.2.2.1, bt301.2.2.2.2.1, bt301.2.2.2.2.2.1, bt301.2.2.2.2.2.2.1, bt301.2.2.2.2.2.2.2.1, bt301.2.2.2.2.2.2.2.2.1, bt301.2.2.2.2.2.2.2.2.2.1, bt301.2.2.2.2.2.2.2.2.2.2, l1)))) = some (r1, r2, r3, r4, r5, r6, r7, r8, r9, r10, r11, r12) := h
 clear h
 by_cases c3 : s0_0 = 2; rotate_left
 ·
  rw [if_neg c3] at H; have c3b0 : (s0_0 == 2) = false := beq_eq_false_iff_ne.mpr c3; have c3b1 : (s0_0 != 2) = true := bne_iff_ne.mpr c3; replace H := Option.bind_eq_some_iff.mp H; obtain ⟨⟨t301, t302, t303, t304, t305, t306, t307, t308, t309, t310, t311⟩, A230, H⟩ := H; replace H : (some (t301, t302, t303, t304, t305, t306, t307, t308, t309, t310, t311, l1)) = some (r1, r2, r3, r4, r5, r6, r7, r8, r9, r10, r11, r12) := H; have A23 := Aside0.mk A230; clear A230; simp only [Option.some.injEq, Prod.mk.injEq] at H; obtain ⟨rfl, rfl, rfl, rfl, rfl, rfl, rfl, rfl, rfl, rfl, rfl, rfl⟩ := H; obtain ⟨HGz24, hgz24⟩ := HI0.out; have hcz24_0 := cellS46_0 HGz24; have hcz24_1 := cellS46_1 HGz24; have hcz24_2 := cellS46_2 HGz24; have hcz24_3 := cellS46_3 HGz24; have hcz24_4 := cellS46_4 HGz24; have hcz24_5 := cellS46_5 HGz24; have hcz24_6 := cellS46_6 HGz24; have hcz24_7 := cellS46_7 HGz24; have hcz24_8 := cellS46_8 HGz24; have hcz24_9 := cellS46_9 HGz24; have hcz24_10 := cellS46_10 HGz24; have hfz24_0 := blk_frozen HGz24 0; have hfz24_1 := blk_frozen HGz24 1; have hfz24_2 := blk_frozen HGz24 2; have hfz24_3 := blk_frozen HGz24 3; have hfz24_4 := blk_frozen HGz24 4; have hfz24_5 := blk_frozen HGz24 5; have hfz24_6 := blk_frozen HGz24 6; have hfz24_7 := blk_frozen HGz24 7; have hfz24_8 := blk_frozen HGz24 8; have hfz24_9 := blk_frozen HGz24 9; have hfz24_10 := blk_frozen HGz24 10; clear HGz24 hgz24
  go_enter Try.func87, Try.ntmps87
  go_wp2_with (first | ((with_reducible refine gate_callee (f := 83) rfl ?_); refine goesL_ (some 10) rfl rfl Try.func83 (by kernel_rfl) rfl #[.pointer (some ⟨g, 0, none⟩), .int .i64 0] rfl (MA) ?_; (with_reducible refine (impl_Task_done.calls g s0_0 s0_1 s0_2 s0_3 s0_4 s0_5 s0_6 s0_7 s0_8 s0_9 s0_10 0 t301 t302 t303 t304 t305 t306 t307 t308 t309 t310 t311 w0 _ ?side1 ?side2 A23.out).mono ?_); (case side1 => exact impl_Task_nobody.k0 HI0.out); (case side2 => exact impl_Task_nobody.k1 HB.out); rintro e w25 ⟨rfl, hi, hb, hk⟩; refine ⟨_, rfl, ?_⟩; replace HO1 := Aside0.mk (Kd.R_mono (Kd.R_keep (IsS46.apart (show IsS46 w0 _ g s0_0 s0_1 s0_2 s0_3 s0_4 s0_5 s0_6 s0_7 s0_8 s0_9 s0_10 from impl_Task_nobody.k0 HI0.out) (RQ HO1.out) (by decide)) hk (fun _ h => h.2)) (fun _ h => h.1)); replace HK := Aside0.mk (Kept.of_keep (S := (fun k_ => (P1_ k_) ∨ k_ = g)) (impl_Task_nobody.k2 HK.out) hk (.inl (.inr rfl))); replace HB := Aside0.mk (hb); replace HI0 := Aside0.mk (hi); (try clear hb); (try clear hb2); (try clear hk); (try clear hi)))
  first | go_end0 | ((try simp only [Exit.inBlock, Exit.then]); refine bodyPost_ret (results_none rfl _ _ _) rfl ?_)
  exact ⟨EE, impl_Task_nobody.k0 HI0.out, RQ HO1.out, impl_Task_nobody.k1 HB.out, impl_Task_nobody.k2 HK.out⟩
 rw [if_pos c3] at H
 have c3b0 : (s0_0 == 2) = true := beq_iff_eq.mpr c3
 have c3b1 : (s0_0 != 2) = false := bne_eq_false_iff_eq.mpr c3
 clear c3
 replace H := Option.bind_eq_some_iff.mp H
 obtain ⟨t295, A40, H⟩ := H
 have A4 := Aside0.mk A40
 clear A40
 replace H := Option.bind_eq_some_iff.mp H
 obtain ⟨t296, A50, H⟩ := H
 have A5 := Aside0.mk A50
 clear A50
 replace H := Option.bind_eq_some_iff.mp H
 obtain ⟨t297, A60, H⟩ := H
 have A6 := Aside0.mk A60
 clear A60
 by_cases c7 : 0 ≤ t295; rotate_left
 ·
  rw [if_neg c7] at H; exact absurd H (by simp)
 rw [if_pos c7] at H
 have c7b0 : decide (0 ≤ t295) = true := decide_eq_true c7
 clear c7
 by_cases c8 : t295 < (l1.length : Int); rotate_left
 ·
  rw [if_neg c8] at H; exact absurd H (by simp)
 rw [if_pos c8] at H
 have c8b0 : decide (t295 < (l1.length : Int)) = true := decide_eq_true c8
 clear c8
 obtain ⟨y298, hy298⟩ : ∃ y_ : List Int, y_ = (l1.set (t295 : Int).toNat s0_1) := ⟨_, rfl⟩
 replace H : (if 0 ≤ t296 then (if t296 < (l1.length : Int) then (if 0 ≤ t297 then (if t297 < (l1.length : Int) then (some (s0_0, s0_1, s0_2, s0_3, 4, s0_5, s0_6, s0_7, s0_8, s0_9, s0_10, ((y298.set (t296 : Int).toNat s0_2).set (t297 : Int).toNat (wrap64 (2 * s0_6))))) else (none)) else (none)) else (none)) else (none)) = some (r1, r2, r3, r4, r5, r6, r7, r8, r9, r10, r11, r12) := by first | (rw [hy298]; with_reducible exact H) | (have H2_ := (Option.bind_some _ _).symm.trans H; rw [hy298]; with_reducible exact H2_) | (have H2_ := (Option.bind_some _ _).symm.trans H; with_reducible exact H2_) | with_reducible exact H | (rw [hy298]; exact H) | exact H
 have Ny298 := Aside0.mk hy298
 clear hy298
 by_cases c10 : 0 ≤ t296; rotate_left
 ·
  rw [if_neg c10] at H; exact absurd H (by simp)
 rw [if_pos c10] at H
 have c10b0 : decide (0 ≤ t296) = true := decide_eq_true c10
 clear c10
 by_cases c11 : t296 < (l1.length : Int); rotate_left
 ·
  rw [if_neg c11] at H; exact absurd H (by simp)
 rw [if_pos c11] at H
 have c11b0 : decide (t296 < (l1.length : Int)) = true := decide_eq_true c11
 clear c11
 obtain ⟨y299, hy299⟩ : ∃ y_ : List Int, y_ = (y298.set (t296 : Int).toNat s0_2) := ⟨_, rfl⟩
 replace H : (if 0 ≤ t297 then (if t297 < (l1.length : Int) then (some (s0_0, s0_1, s0_2, s0_3, 4, s0_5, s0_6, s0_7, s0_8, s0_9, s0_10, (y299.set (t297 : Int).toNat (wrap64 (2 * s0_6))))) else (none)) else (none)) = some (r1, r2, r3, r4, r5, r6, r7, r8, r9, r10, r11, r12) := by first | (rw [hy299]; with_reducible exact H) | (have H2_ := (Option.bind_some _ _).symm.trans H; rw [hy299]; with_reducible exact H2_) | (have H2_ := (Option.bind_some _ _).symm.trans H; with_reducible exact H2_) | with_reducible exact H | (rw [hy299]; exact H) | exact H
 have Ny299 := Aside0.mk hy299
 clear hy299
 by_cases c13 : 0 ≤ t297; rotate_left
 ·
  rw [if_neg c13] at H; exact absurd H (by simp)
 rw [if_pos c13] at H
 have c13b0 : decide (0 ≤ t297) = true := decide_eq_true c13
 clear c13
 by_cases c14 : t297 < (l1.length : Int); rotate_left
 ·
  rw [if_neg c14] at H; exact absurd H (by simp)
 rw [if_pos c14] at H
 have c14b0 : decide (t297 < (l1.length : Int)) = true := decide_eq_true c14
 clear c14
 obtain ⟨y300, hy300⟩ : ∃ y_ : List Int, y_ = (y299.set (t297 : Int).toNat (wrap64 (2 * s0_6))) := ⟨_, rfl⟩
 replace H : (some (s0_0, s0_1, s0_2, s0_3, 4, s0_5, s0_6, s0_7, s0_8, s0_9, s0_10, y300)) = some (r1, r2, r3, r4, r5, r6, r7, r8, r9, r10, r11, r12) := by first | (rw [hy300]; with_reducible exact H) | (have H2_ := (Option.bind_some _ _).symm.trans H; rw [hy300]; with_reducible exact H2_) | (have H2_ := (Option.bind_some _ _).symm.trans H; with_reducible exact H2_) | with_reducible exact H | (rw [hy300]; exact H) | exact H
 have Ny300 := Aside0.mk hy300
 clear hy300
 simp only [Option.some.injEq, Prod.mk.injEq] at H
 obtain ⟨rfl, rfl, rfl, rfl, rfl, rfl, rfl, rfl, rfl, rfl, rfl, rfl⟩ := H
 obtain ⟨HGz16, hgz16⟩ := HI0.out
 have hcz16_0 := cellS46_0 HGz16
 have hcz16_1 := cellS46_1 HGz16
 have hcz16_2 := cellS46_2 HGz16
 have hcz16_3 := cellS46_3 HGz16
 have hcz16_4 := cellS46_4 HGz16
 have hcz16_5 := cellS46_5 HGz16
 have hcz16_6 := cellS46_6 HGz16
 have hcz16_7 := cellS46_7 HGz16
 have hcz16_8 := cellS46_8 HGz16
 have hcz16_9 := cellS46_9 HGz16
 have hcz16_10 := cellS46_10 HGz16
 have hfz16_0 := blk_frozen HGz16 0
 have hfz16_1 := blk_frozen HGz16 1
 have hfz16_2 := blk_frozen HGz16 2
 have hfz16_3 := blk_frozen HGz16 3
 have hfz16_4 := blk_frozen HGz16 4
 have hfz16_5 := blk_frozen HGz16 5
 have hfz16_6 := blk_frozen HGz16 6
 have hfz16_7 := blk_frozen HGz16 7
 have hfz16_8 := blk_frozen HGz16 8
 have hfz16_9 := blk_frozen HGz16 9
 have hfz16_10 := blk_frozen HGz16 10
 clear HGz16 hgz16
 go_enter Try.func87, Try.ntmps87
 try go_wp2
 have n0_ := Aside0.mk (Kd.R_drew HO1.out)
 have n1_ := Aside0.mk (IsS46.drew HI0.out)
 have n2_ := Aside0.mk (Kept.drew HK.out)
 have n3_ := Aside0.mk (below_drew1 HB.out)
 clear HO1
 clear HI0
 clear HK
 clear HB
 have HO1 := n0_
 have HI0 := n1_
 have HK := n2_
 have HB := n3_
 clear n0_ n1_ n2_ n3_
 refine start_ (n := 37) (S := fun w' => w'.cell? ⟨g, 0, none⟩ = some (.int .i64 s0_0) ∧ w'.cell? ⟨g, 1, none⟩ = some (.int .i64 s0_1) ∧ w'.cell? ⟨g, 2, none⟩ = some (.int .i64 s0_2) ∧ w'.cell? ⟨g, 3, none⟩ = some (.int .i64 s0_3) ∧ w'.cell? ⟨g, 4, none⟩ = some (.int .i64 s0_4) ∧ w'.cell? ⟨g, 5, none⟩ = some (.int .i64 s0_5) ∧ w'.cell? ⟨g, 6, none⟩ = some (.int .i64 s0_6) ∧ w'.cell? ⟨g, 7, none⟩ = some (.int .i64 s0_7) ∧ w'.cell? ⟨g, 8, none⟩ = some (.int .i64 s0_8) ∧ w'.cell? ⟨g, 9, none⟩ = some (.bool s0_9) ∧ w'.cell? ⟨g, 10, none⟩ = some (.int .i64 s0_10)) (ds := [32, 34, 36]) #[false, false, false, false, false, false, false, false, false, false, false, false, false, false, false, false, false, false, false, false, false, false, false, false, false, false, false, false, false, false, false, false, false, false, false, false, false] (by kernel_rfl) rfl rfl ⟨(blk_cell (Aside0.mk (HI0.out).1).out 0).trans rfl, (blk_cell (Aside0.mk (HI0.out).1).out 1).trans rfl, (blk_cell (Aside0.mk (HI0.out).1).out 2).trans rfl, (blk_cell (Aside0.mk (HI0.out).1).out 3).trans rfl, (blk_cell (Aside0.mk (HI0.out).1).out 4).trans rfl, (blk_cell (Aside0.mk (HI0.out).1).out 5).trans rfl, (blk_cell (Aside0.mk (HI0.out).1).out 6).trans rfl, (blk_cell (Aside0.mk (HI0.out).1).out 7).trans rfl, (blk_cell (Aside0.mk (HI0.out).1).out 8).trans rfl, (blk_cell (Aside0.mk (HI0.out).1).out 9).trans rfl, (blk_cell (Aside0.mk (HI0.out).1).out 10).trans rfl⟩ (fun hHeld => ?_); refine with_tabW impl_Task_nobody.tab2 impl_Task_nobody.bits2 (fun HT_ HW_ => ?_)
 generalize w.drew = w17 at HO1 HI0 HK HB hHeld ⊢
 refine pV 0 11 (OB 37 1) ?_
 refine pV 1 12 (OB 37 3) ?_
 refine pV 2 13 (OB 37 7) ?_
 refine pV 3 14 (OB 37 15) ?_
 refine pV 6 17 (OB 37 79) ?_
 refine pV 7 18 (OB 37 207) ?_
 refine pV 8 19 (OB 37 463) ?_
 refine pV 9 20 (OB 37 975) ?_
 refine pV 12 23 (OB 37 5071) ?_
 refine pV 13 24 (OB 37 13263) ?_
 refine pV 14 25 (OB 37 29647) ?_
 refine pV 15 26 (OB 37 62415) ?_
 refine pV 18 29 (OB 37 324559) ?_
 refine pV 19 30 (OB 37 848847) ?_
 refine pV 20 31 (OB 37 1897423) ?_
 refine pV 22 33 (OB 37 6091727) ?_
 refine pV 23 34 (OB 37 14480335) ?_
 refine pV 24 35 (OB 37 31257551) ?_
 refine pV 26 37 (OB 37 98366415) ?_
 refine pV 27 38 (OB 37 232584143) ?_
 refine pV 28 39 (OB 37 501019599) ?_
 refine pT 4 15 (OB 37 501019615) ?_
 refine pT 10 21 (OB 37 501020639) ?_
 refine pT 16 27 (OB 37 501086175) ?_
 refine pT 21 32 (OB 37 503183327) ?_
 refine pT 25 36 (OB 37 536737759) ?_
 refine pT 29 40 (OB 37 1073608671) ?_
 refine pV 30 41 (OB 37 2147350495) ?_
 refine one_ (i := 5) (N := some 16) (OB 37 2147350527) rfl rfl (one_of HT_.out (by kernel_rfl)) (by decide) (fun K hK => ?_)
 refine goes_ Try.func66 (by kernel_rfl) rfl #[.int .i64 s0_3] (by rfl) rfl rfl (MA) ?_
 with_reducible refine (impl_keyCell.calls s0_3 t295 _ A4.out).mono ?_
 rintro e w17 ⟨rfl, ⟨nd, hq_⟩⟩
 replace hq_ := hq_.symm
 replace HO1 := Aside0.mk (Kd.R_at hq_ HO1.out)
 replace HI0 := Aside0.mk (IsS46.at_ hq_ HI0.out)
 replace HK := Aside0.mk (kept_at hq_ HK.out)
 replace HB := Aside0.mk (below_at hq_ HB.out)
 clear hq_
 refine ⟨_, rfl, ?_⟩
 refine hK.out _ _ ⟨(blk_cell (Aside0.mk (HI0.out).1).out 0).trans rfl, (blk_cell (Aside0.mk (HI0.out).1).out 1).trans rfl, (blk_cell (Aside0.mk (HI0.out).1).out 2).trans rfl, (blk_cell (Aside0.mk (HI0.out).1).out 3).trans rfl, (blk_cell (Aside0.mk (HI0.out).1).out 4).trans rfl, (blk_cell (Aside0.mk (HI0.out).1).out 5).trans rfl, (blk_cell (Aside0.mk (HI0.out).1).out 6).trans rfl, (blk_cell (Aside0.mk (HI0.out).1).out 7).trans rfl, (blk_cell (Aside0.mk (HI0.out).1).out 8).trans rfl, (blk_cell (Aside0.mk (HI0.out).1).out 9).trans rfl, (blk_cell (Aside0.mk (HI0.out).1).out 10).trans rfl⟩ (fun hHeld => ?_)
 clear hK K
 refine norm_ (a' := ?_) ?_ ?_
 rotate_left
 ·
  show Act.put _ (some 16) _ = _; simp only [Act.put, zA, zB, zC, i64_w, i32_w]; rfl
 refine one_ (i := 11) (N := some 22) (OB 37 2147352575) rfl rfl (one_of HT_.out (by kernel_rfl)) (by decide) (fun K hK => ?_)
 refine goes_ Try.func67 (by kernel_rfl) rfl #[.int .i64 s0_3] (by rfl) rfl rfl (MA) ?_
 with_reducible refine (impl_valCell.calls s0_3 t296 _ A5.out).mono ?_
 rintro e w17 ⟨rfl, ⟨nd, hq_⟩⟩
 replace hq_ := hq_.symm
 replace HO1 := Aside0.mk (Kd.R_at hq_ HO1.out)
 replace HI0 := Aside0.mk (IsS46.at_ hq_ HI0.out)
 replace HK := Aside0.mk (kept_at hq_ HK.out)
 replace HB := Aside0.mk (below_at hq_ HB.out)
 clear hq_
 refine ⟨_, rfl, ?_⟩
 refine hK.out _ _ ⟨(blk_cell (Aside0.mk (HI0.out).1).out 0).trans rfl, (blk_cell (Aside0.mk (HI0.out).1).out 1).trans rfl, (blk_cell (Aside0.mk (HI0.out).1).out 2).trans rfl, (blk_cell (Aside0.mk (HI0.out).1).out 3).trans rfl, (blk_cell (Aside0.mk (HI0.out).1).out 4).trans rfl, (blk_cell (Aside0.mk (HI0.out).1).out 5).trans rfl, (blk_cell (Aside0.mk (HI0.out).1).out 6).trans rfl, (blk_cell (Aside0.mk (HI0.out).1).out 7).trans rfl, (blk_cell (Aside0.mk (HI0.out).1).out 8).trans rfl, (blk_cell (Aside0.mk (HI0.out).1).out 9).trans rfl, (blk_cell (Aside0.mk (HI0.out).1).out 10).trans rfl⟩ (fun hHeld => ?_)
 clear hK K
 refine norm_ (a' := ?_) ?_ ?_
 rotate_left
 ·
  show Act.put _ (some 22) _ = _; simp only [Act.put, zA, zB, zC, i64_w, i32_w]; rfl
 refine one_ (i := 17) (N := some 28) (OB 37 2147483647) rfl rfl (one_of HT_.out (by kernel_rfl)) (by decide) (fun K hK => ?_)
 refine goes_ Try.func76 (by kernel_rfl) rfl #[.int .i64 s0_3] (by rfl) rfl rfl (MA) ?_
 with_reducible refine (impl_wordCell.calls s0_3 t297 _ A6.out).mono ?_
 rintro e w17 ⟨rfl, ⟨nd, hq_⟩⟩
 replace hq_ := hq_.symm
 replace HO1 := Aside0.mk (Kd.R_at hq_ HO1.out)
 replace HI0 := Aside0.mk (IsS46.at_ hq_ HI0.out)
 replace HK := Aside0.mk (kept_at hq_ HK.out)
 replace HB := Aside0.mk (below_at hq_ HB.out)
 clear hq_
 refine ⟨_, rfl, ?_⟩
 have p9 : 0 ≤ (t295 : Int) := of_decide_eq_true AS
 have q9 : (t295 : Int) < ((l1.length : Int) : Int) := of_decide_eq_true AS
 obtain ⟨go9, co9, eo9, gb9, gl9, cl9, HG9⟩ := Kd.R_form HO1.out (by omega)
 (first | cases eo9 | (injection eo9 with ea_ en_ ec_; (first | subst ea_ | (injection ea_ with ea_; subst ea_)); subst ec_; clear en_))
 have GB9 := Aside0.mk gb9
 have GG9 := Aside0.mk HG9
 clear gb9 gl9 HG9
 have HMgo9 := Aside0.mk (show (P1_ go9 ∨ w.heap.size ≤ go9) from (HO1.out.1 _ rfl))
 obtain ⟨hx9_0, hf9_0⟩ := Kd.R_celln 0 HO1.out (t295 : Int) p9 q9
 replace p9 := eq_true p9
 replace q9 := eq_true q9
 have HN0_go9 := Aside0.mk (show g ≠ go9 from by have h_ := IsS46.own_ne HI0.out HO1.out (by decide); intro e_; exact h_ (by rw [e_]; rfl))
 have HP18 := Kd.R_putn HO1.out (t295 : Int) s0_1
 rw [← Ny298.out] at HP18
 have HQ18 := Aside0.mk HP18
 clear HP18
 have p12 : 0 ≤ (t296 : Int) := of_decide_eq_true AS
 have q12 : (t296 : Int) < ((l1.length : Int) : Int) := of_decide_eq_true AS
 obtain ⟨hx12_0, hf12_0⟩ := Kd.R_celln 0 HQ18.out (t296 : Int) p12 q12
 replace p12 := eq_true p12
 replace q12 := eq_true q12
 have HN0_go9 := Aside0.mk (show g ≠ go9 from by have h_ := IsS46.own_ne HI0.out HO1.out (by decide); intro e_; exact h_ (by rw [e_]; rfl))
 have HP19 := Kd.R_putn HQ18.out (t296 : Int) s0_2
 rw [← Ny299.out] at HP19
 have HQ19 := Aside0.mk HP19
 clear HP19
 have p15 : 0 ≤ (t297 : Int) := of_decide_eq_true AS
 have q15 : (t297 : Int) < ((l1.length : Int) : Int) := of_decide_eq_true AS
 obtain ⟨hx15_0, hf15_0⟩ := Kd.R_celln 0 HQ19.out (t297 : Int) p15 q15
 replace p15 := eq_true p15
 replace q15 := eq_true q15
 have HN0_go9 := Aside0.mk (show g ≠ go9 from by have h_ := IsS46.own_ne HI0.out HO1.out (by decide); intro e_; exact h_ (by rw [e_]; rfl))
 have HP20 := Kd.R_putn HQ19.out (t297 : Int) (wrap64 (2 * s0_6))
 rw [← Ny300.out] at HP20
 have HQ20 := Aside0.mk HP20
 clear HP20
 refine hK.out _ _ ⟨(blk_cell (Aside0.mk (HI0.out).1).out 0).trans rfl, (blk_cell (Aside0.mk (HI0.out).1).out 1).trans rfl, (blk_cell (Aside0.mk (HI0.out).1).out 2).trans rfl, (blk_cell (Aside0.mk (HI0.out).1).out 3).trans rfl, (blk_cell (Aside0.mk (HI0.out).1).out 4).trans rfl, (blk_cell (Aside0.mk (HI0.out).1).out 5).trans rfl, (blk_cell (Aside0.mk (HI0.out).1).out 6).trans rfl, (blk_cell (Aside0.mk (HI0.out).1).out 7).trans rfl, (blk_cell (Aside0.mk (HI0.out).1).out 8).trans rfl, (blk_cell (Aside0.mk (HI0.out).1).out 9).trans rfl, (blk_cell (Aside0.mk (HI0.out).1).out 10).trans rfl⟩ (fun hHeld => ?_)
 clear hK K
 refine norm_ (a' := ?_) ?_ ?_
 rotate_left
 ·
  show Act.put _ (some 28) _ = _; simp only [Act.put, zA, zB, zC, i64_w, i32_w]; rfl
 refine pV 31 42 (OB 37 4294967295) ?_
 refine last_ (i := 32) (N := none) #[true, true, true, true, true, true, true, true, true, true, true, true, true, true, true, true, true, true, true, true, true, true, true, true, true, true, true, true, true, true, true, true, true, false, false, false, false] rfl rfl (one_of HT_.out (by kernel_rfl)) (by decide) (fun K hK => ?_)
 refine skip_ (w1 := ?_) (by rfl) rfl ?_ ?_
 rotate_left
 ·
  go_simp
  rfl
 refine hK.out _ _ ?_
 clear hK K
 refine pV 33 43 (OB 37 17179869183) ?_
 refine last_ (i := 34) (N := none) #[true, true, true, true, true, true, true, true, true, true, true, true, true, true, true, true, true, true, true, true, true, true, true, true, true, true, true, true, true, true, true, true, true, true, true, false, false] rfl rfl (one_of HT_.out (by kernel_rfl)) (by decide) (fun K hK => ?_)
 refine skip_ (w1 := ?_) (by rfl) rfl ?_ ?_
 rotate_left
 ·
  go_simp
  rfl
 refine hK.out _ _ ?_
 clear hK K
 refine pV 35 44 (OB 37 68719476735) ?_
 refine last_ (i := 36) (N := none) #[true, true, true, true, true, true, true, true, true, true, true, true, true, true, true, true, true, true, true, true, true, true, true, true, true, true, true, true, true, true, true, true, true, true, true, true, true] rfl rfl (one_of HT_.out (by kernel_rfl)) (by decide) (fun K hK => ?_)
 refine skip_ (w1 := ?_) (by rfl) rfl ?_ ?_
 rotate_left
 ·
  go_simp
  rfl
 refine hK.out _ _ ?_
 clear hK K
 refine done_ (done_of HT_.out (by kernel_rfl)) ?_
 have n0_ : Aside0 (Kd.R (Kd.int .i64) 3 (((w17.setCell ⟨go9, (t295 : Int).toNat, none⟩ (.int .i64 s0_1)).setCell ⟨go9, (t296 : Int).toNat, none⟩ (.int .i64 s0_2)).setCell ⟨go9, (t297 : Int).toNat, none⟩ (.int .i64 (wrap64 (2 * s0_6)))) w0.heap.size (fun k_ => (P1_ k_ ∨ w.heap.size ≤ k_)) (.slice (some ⟨go9, 0, none⟩) l1.length co9) y300) := ⟨RQ HQ20.out⟩
 have n1_ : Aside0 (IsS46 w0 (((w17.setCell ⟨go9, (t295 : Int).toNat, none⟩ (.int .i64 s0_1)).setCell ⟨go9, (t296 : Int).toNat, none⟩ (.int .i64 s0_2)).setCell ⟨go9, (t297 : Int).toNat, none⟩ (.int .i64 (wrap64 (2 * s0_6)))) g s0_0 s0_1 s0_2 s0_3 s0_4 s0_5 s0_6 s0_7 s0_8 s0_9 s0_10) := ⟨by repeat (first | (with_reducible first | exact HI0.out | apply IsS46.alloc | apply IsS46.drewN | apply IsS46.drew | apply IsS46.set_0 | apply IsS46.set_1 | apply IsS46.set_2 | apply IsS46.set_3 | apply IsS46.set_4 | apply IsS46.set_5 | apply IsS46.set_6 | apply IsS46.set_7 | apply IsS46.set_8 | apply IsS46.set_9 | apply IsS46.set_10 | refine IsS46.far ?_ HN0_go9.out _ | refine IsS46.far ?_ HN0_go9.out _ | refine IsS46.far ?_ HN0_go9.out _) | exact HI0.out)⟩
 have n2_ : Aside0 (Kept w (((w17.setCell ⟨go9, (t295 : Int).toNat, none⟩ (.int .i64 s0_1)).setCell ⟨go9, (t296 : Int).toNat, none⟩ (.int .i64 s0_2)).setCell ⟨go9, (t297 : Int).toNat, none⟩ (.int .i64 (wrap64 (2 * s0_6)))) (fun k_ => (P1_ k_) ∨ k_ = g)) := ⟨by repeat (first | (with_reducible first | exact HK.out | apply Kept.alloc | apply Kept.drewN | apply Kept.drew | refine Kept.setCell ?_ (Or.imp_left Or.inl HMgo9.out) _ | refine Kept.setCell ?_ (Or.imp_left Or.inl HMgo9.out) _ | refine Kept.setCell ?_ (Or.imp_left Or.inl HMgo9.out) _ | refine Kept.setCell ?_ (.inl (.inr rfl)) _) | exact HK.out)⟩
 have n3_ : Aside0 (Below w0.heap.size w0 (((w17.setCell ⟨go9, (t295 : Int).toNat, none⟩ (.int .i64 s0_1)).setCell ⟨go9, (t296 : Int).toNat, none⟩ (.int .i64 s0_2)).setCell ⟨go9, (t297 : Int).toNat, none⟩ (.int .i64 (wrap64 (2 * s0_6))))) := ⟨by repeat (first | (with_reducible first | exact HB.out | apply below_alloc | apply pw_below_drewN | apply below_drew1 | refine below_set ?_ GB9.out | refine below_set ?_ GB9.out | refine below_set ?_ GB9.out | refine below_set ?_ (IsS46.ge HI0.out)) | exact HB.out)⟩
 (try clear HO1)
 (try clear HI0)
 (try clear HK)
 (try clear HB)
 generalize (((w17.setCell ⟨go9, (t295 : Int).toNat, none⟩ (.int .i64 s0_1)).setCell ⟨go9, (t296 : Int).toNat, none⟩ (.int .i64 s0_2)).setCell ⟨go9, (t297 : Int).toNat, none⟩ (.int .i64 (wrap64 (2 * s0_6)))) = w21 at n0_ n1_ n2_ n3_ ⊢
 have HO1 := n0_
 have HI0 := n1_
 have HK := n2_
 have HB := n3_
 clear n0_ n1_ n2_ n3_
 obtain ⟨HGz22, hgz22⟩ := HI0.out
 have hcz22_0 := cellS46_0 HGz22
 have hcz22_1 := cellS46_1 HGz22
 have hcz22_2 := cellS46_2 HGz22
 have hcz22_3 := cellS46_3 HGz22
 have hcz22_4 := cellS46_4 HGz22
 have hcz22_5 := cellS46_5 HGz22
 have hcz22_6 := cellS46_6 HGz22
 have hcz22_7 := cellS46_7 HGz22
 have hcz22_8 := cellS46_8 HGz22
 have hcz22_9 := cellS46_9 HGz22
 have hcz22_10 := cellS46_10 HGz22
 have hfz22_0 := blk_frozen HGz22 0
 have hfz22_1 := blk_frozen HGz22 1
 have hfz22_2 := blk_frozen HGz22 2
 have hfz22_3 := blk_frozen HGz22 3
 have hfz22_4 := blk_frozen HGz22 4
 have hfz22_5 := blk_frozen HGz22 5
 have hfz22_6 := blk_frozen HGz22 6
 have hfz22_7 := blk_frozen HGz22 7
 have hfz22_8 := blk_frozen HGz22 8
 have hfz22_9 := blk_frozen HGz22 9
 have hfz22_10 := blk_frozen HGz22 10
 clear HGz22 hgz22
 try go_wp2
 first | go_end0 | ((try simp only [Exit.inBlock, Exit.then]); refine bodyPost_ret (results_none rfl _ _ _) rfl ?_)
 exact ⟨EE, impl_Task_nobody.k0 HI0.out, by (with_reducible repeat (first | apply r1 | apply r2 | apply r3)); exact Kd.R_mono (Kd.R_far (p := ⟨g, 4, none⟩) (IsS46.apart HI0.out HO1.out (by decide)) (fun _ hk => hk.2) (.int .i64 4)) (fun _ hk => hk.1), impl_Task_nobody.k1 HB.out, impl_Task_nobody.k2 HK.out⟩

/-! ### impl_Task_found: function 81 -/
def impl_Task_found.f (s0_0 : Int) (s0_1 : Int) (s0_2 : Int) (s0_3 : Int) (s0_4 : Int) (s0_5 : Int) (s0_6 : Int) (s0_7 : Int) (s0_8 : Int) (s0_9 : Bool) (s0_10 : Int) (l1 : List Int) : Option (Int × Int × Int × Int × Int × Int × Int × Int × Int × Bool × Int × List Int) := (impl_keyCell.f s0_6).bind fun t312 => (if 0 ≤ t312 then (if t312 < (l1.length : Int) then (if (rd l1 t312) = s0_1 then (if s0_0 = 1 then ((impl_valCell.f s0_6).bind fun t314 => (if 0 ≤ t314 then (if t314 < (l1.length : Int) then ((impl_Task_done.f s0_0 s0_1 s0_2 s0_3 s0_4 s0_5 s0_6 s0_7 s0_8 s0_9 s0_10 (wrap64 ((rd l1 t314) + 1))).bind fun bt316 => (some (bt316.1, bt316.2.1, bt316.2.2.1, bt316.2.2.2.1, bt316.2.2.2.2.1, bt316.2.2.2.2.2.1, bt316.2.2.2.2.2.2.1, bt316.2.2.2.2.2.2.2.1, bt316.2.2.2.2.2.2.2.2.1, bt316.2.2.2.2.2.2.2.2.2.1, bt316.2.2.2.2.2.2.2.2.2.2, l1))) else (none)) else (none))) else (if s0_0 = 2 then ((impl_Task_done.f s0_0 s0_1 s0_2 s0_3 s0_4 s0_5 s0_6 s0_7 s0_8 s0_9 s0_10 0).bind fun bt327 => (some (bt327.1, bt327.2.1, bt327.2.2.1, bt327.2.2.2.1, bt327.2.2.2.2.1, bt327.2.2.2.2.2.1, bt327.2.2.2.2.2.2.1, bt327.2.2.2.2.2.2.2.1, bt327.2.2.2.2.2.2.2.2.1, bt327.2.2.2.2.2.2.2.2.2.1, bt327.2.2.2.2.2.2.2.2.2.2, l1))) else (some (s0_0, s0_1, s0_2, s0_3, 5, s0_5, s0_6, s0_7, s0_8, s0_9, s0_10, l1)))) else ((impl_Task_nobody.f s0_0 s0_1 s0_2 s0_3 s0_4 s0_5 s0_6 s0_7 s0_8 s0_9 s0_10 l1).bind fun bt338 => (some (bt338.1, bt338.2.1, bt338.2.2.1, bt338.2.2.2.1, bt338.2.2.2.2.1, bt338.2.2.2.2.2.1, bt338.2.2.2.2.2.2.1, bt338.2.2.2.2.2.2.2.1, bt338.2.2.2.2.2.2.2.2.1, bt338.2.2.2.2.2.2.2.2.2.1, bt338.2.2.2.2.2.2.2.2.2.2.1, bt338.2.2.2.2.2.2.2.2.2.2.2)))) else (none)) else (none))
theorem impl_Task_found.k0 {p q : Prop} (h : q) (k : q → p := by intro h_; repeat (first | (with_reducible first | exact h_ | apply IsS46.alloc | apply IsS46.drewN | apply IsS46.drew | apply IsS46.set_0 | apply IsS46.set_1 | apply IsS46.set_2 | apply IsS46.set_3 | apply IsS46.set_4 | apply IsS46.set_5 | apply IsS46.set_6 | apply IsS46.set_7 | apply IsS46.set_8 | apply IsS46.set_9 | apply IsS46.set_10) | exact h_)) : p := k h
theorem impl_Task_found.k1 {p q : Prop} (h : q) (k : q → p := by intro h_; repeat (first | (with_reducible first | exact h_ | apply below_alloc | apply pw_below_drewN | apply below_drew1 | refine below_set ?_ (IsS46.ge HI0.out)) | exact h_)) : p := k h
theorem impl_Task_found.k2 {p q : Prop} (h : q) (k : q → p := by intro h_; repeat (first | (with_reducible first | exact h_ | apply Kept.alloc | apply Kept.drewN | apply Kept.drew | refine Kept.setCell ?_ (.inl (.inr rfl)) _) | exact h_)) : p := k h
set_option maxHeartbeats 8000000 in
set_option maxRecDepth 100000 in
theorem impl_Task_found.calls (g : Nat) (s0_0 : Int) (s0_1 : Int) (s0_2 : Int) (s0_3 : Int) (s0_4 : Int) (s0_5 : Int) (s0_6 : Int) (s0_7 : Int) (s0_8 : Int) (s0_9 : Bool) (s0_10 : Int) (P1_ : Nat → Prop) (u9000_ : Value) (l1 : List Int) (r1 : Int) (r2 : Int) (r3 : Int) (r4 : Int) (r5 : Int) (r6 : Int) (r7 : Int) (r8 : Int) (r9 : Int) (r10 : Bool) (r11 : Int) (r12 : List Int) (w0 w : World) (hI : IsS46 w0 w g s0_0 s0_1 s0_2 s0_3 s0_4 s0_5 s0_6 s0_7 s0_8 s0_9 s0_10) (hB : Below w0.heap.size w0 w) (ho1 : Kd.R (Kd.int .i64) 3 w w0.heap.size P1_ u9000_ l1) (h : impl_Task_found.f s0_0 s0_1 s0_2 s0_3 s0_4 s0_5 s0_6 s0_7 s0_8 s0_9 s0_10 l1 = some (r1, r2, r3, r4, r5, r6, r7, r8, r9, r10, r11, r12)) :
  Calls Try.prog 81 #[.pointer (some ⟨g, 0, none⟩), u9000_] w fun e w' => e = .returned (.tuple #[]) ∧ IsS46 w0 w' g r1 r2 r3 r4 r5 r6 r7 r8 r9 r10 r11 ∧ Kd.R (Kd.int .i64) 3 w' w0.heap.size (fun k_ => (P1_ k_ ∨ w.heap.size ≤ k_)) u9000_ r12 ∧ Below w0.heap.size w0 w' ∧ Kept w w' (fun k_ => (P1_ k_) ∨ k_ = g) := by
 have HO1 := Aside0.mk (show Kd.R (Kd.int .i64) 3 w w0.heap.size (fun k_ => (P1_ k_ ∨ w.heap.size ≤ k_)) u9000_ l1 from Kd.R_mono ho1 (fun k_ hk => (.inl hk)))
 have HI0 := Aside0.mk hI
 have HL := Aside0.mk hB.size
 clear hI
 have HK := Aside0.mk (Kept.refl w (fun k_ => (P1_ k_) ∨ k_ = g))
 have HW0 := Aside0.mk hB.size
 have HB := Aside0.mk hB
 clear hB
 have H : ((impl_keyCell.f s0_6).bind fun t312 => (if 0 ≤ t312 then (if t312 < (l1.length : Int) then (if (rd l1 t312) = s0_1 then (if s0_0 = 1 then ((impl_valCell.f s0_6).bind fun t314 => (if 0 ≤ t314 then (if t314 < (l1.length : Int) then ((impl_Task_done.f s0_0 s0_1 s0_2 s0_3 s0_4 s0_5 s0_6 s0_7 s0_8 s0_9 s0_10 (wrap64 ((rd l1 t314) + 1))).bind fun bt316 => (some (bt316.1, bt316.2.1, bt316.2.2.1, bt316.2.2.2.1, bt316.2.2.2.2.1, bt316.2.2.2.2.2.1, bt316.2.2.2.2.2.2.1, bt316.2.2.2.2.2.2.2.1, bt316.2.2.2.2.2.2.2.2.1, bt316.2.2.2.2.2.2.2.2.2.1, bt316.2.2.2.2.2.2.2.2.2.2, l1))) else (none)) else (none))) else (if s0_0 = 2 then ((impl_Task_done.f s0_0 s0_1 s0_2 s0_3 s0_4 s0_5 s0_6 s0_7 s0_8 s0_9 s0_10 0).bind fun bt327 => (some (bt327.1, bt327.2.1, bt327.2.2.1, bt327.2.2.2.1, bt327.2.2.2.2.1, bt327.2.2.2.2.2.1, bt327.2.2.2.2.2.2.1, bt327.2.2.2.2.2.2.2.1, bt327.2.2.2.2.2.2.2.2.1, bt327.2.2.2.2.2.2.2.2.2.1, bt327.2.2.2.2.2.2.2.2.2.2, l1))) else (some (s0_0, s0_1, s0_2, s0_3, 5, s0_5, s0_6, s0_7, s0_8, s0_9, s0_10, l1)))) else ((impl_Task_nobody.f s0_0 s0_1 s0_2 s0_3 s0_4 s0_5 s0_6 s0_7 s0_8 s0_9 s0_10 l1).bind fun bt338 => (some (bt338.1, bt338.2.1, bt338.2.2.1, bt338.2.2.2.1, bt338.2.2.2.2.1, bt338.2.2.2.2.2.1, bt338.2.2.2.2.2.2.1, bt338.2.2.2.2.2.2.2.1, bt338.2.2.2.2.2.2.2.2.1, bt338.2.2.2.2.2.2.2.2.2.1, bt338.2.2.2.2.2.2.2.2.2.2.1, bt338.2.2.2.2.2.2.2.2.2.2.2)))) else (none)) else (none))) = some (r1, r2, r3, r4, r5, r6, r7, r8, r9, r10, r11, r12) := h
 clear h
 replace H := Option.bind_eq_some_iff.mp H
 obtain ⟨t312, A30, H⟩ := H
 have A3 := Aside0.mk A30
 clear A30
 by_cases c4 : 0 ≤ t312; rotate_left
 ·
  rw [if_neg c4] at H; exact absurd H (by simp)
 rw [if_pos c4] at H
 have c4b0 : decide (0 ≤ t312) = true := decide_eq_true c4
 clear c4
 by_cases c5 : t312 < (l1.length : Int); rotate_left
 ·
  rw [if_neg c5] at H; exact absurd H (by simp)
 rw [if_pos c5] at H
 have c5b0 : decide (t312 < (l1.length : Int)) = true := decide_eq_true c5
 clear c5
 by_cases c6 : (rd l1 t312) = s0_1; rotate_left
 ·
  rw [if_neg c6] at H; have c6b0 : ((rd l1 t312) == s0_1) = false := beq_eq_false_iff_ne.mpr c6; have c6b1 : ((rd l1 t312) != s0_1) = true := bne_iff_ne.mpr c6; replace H := Option.bind_eq_some_iff.mp H; obtain ⟨⟨t338, t339, t340, t341, t342, t343, t344, t345, t346, t347, t348, t349⟩, A220, H⟩ := H; replace H : (some (t338, t339, t340, t341, t342, t343, t344, t345, t346, t347, t348, t349)) = some (r1, r2, r3, r4, r5, r6, r7, r8, r9, r10, r11, r12) := H; have A22 := Aside0.mk A220; clear A220; simp only [Option.some.injEq, Prod.mk.injEq] at H; obtain ⟨rfl, rfl, rfl, rfl, rfl, rfl, rfl, rfl, rfl, rfl, rfl, rfl⟩ := H; obtain ⟨HGz23, hgz23⟩ := HI0.out; have hcz23_0 := cellS46_0 HGz23; have hcz23_1 := cellS46_1 HGz23; have hcz23_2 := cellS46_2 HGz23; have hcz23_3 := cellS46_3 HGz23; have hcz23_4 := cellS46_4 HGz23; have hcz23_5 := cellS46_5 HGz23; have hcz23_6 := cellS46_6 HGz23; have hcz23_7 := cellS46_7 HGz23; have hcz23_8 := cellS46_8 HGz23; have hcz23_9 := cellS46_9 HGz23; have hcz23_10 := cellS46_10 HGz23; have hfz23_0 := blk_frozen HGz23 0; have hfz23_1 := blk_frozen HGz23 1; have hfz23_2 := blk_frozen HGz23 2; have hfz23_3 := blk_frozen HGz23 3; have hfz23_4 := blk_frozen HGz23 4; have hfz23_5 := blk_frozen HGz23 5; have hfz23_6 := blk_frozen HGz23 6; have hfz23_7 := blk_frozen HGz23 7; have hfz23_8 := blk_frozen HGz23 8; have hfz23_9 := blk_frozen HGz23 9; have hfz23_10 := blk_frozen HGz23 10; clear HGz23 hgz23
  go_enter Try.func81, Try.ntmps81
  go_wp2_with (first | (go_at_call 66; (with_reducible refine (impl_keyCell.calls s0_6 t312 _ A3.out).mono ?_); rintro e w' ⟨rfl, ⟨nd, rfl⟩⟩; (try first | exact ⟨rfl, _, World.drewN_drewN _ _ _⟩ | exact ⟨rfl, _, Eq.trans (World.drewN_drewN _ _ _) (congrArg (World.drewN _) (Nat.add_assoc _ _ _))⟩); obtain ⟨Ao24, co24, eo24⟩ := Kd.R_slice HO1.out; subst eo24; have p313 : 0 ≤ (t312 : Int) := of_decide_eq_true AS; have q313 : t312 < (l1.length : Int) := of_decide_eq_true AS; obtain ⟨ad313, e313, hx313_0⟩ := Kd.at_int (Kd.R_reads' HO1.out).2.2 t312 p313 q313; cases e313; replace p313 := eq_true p313; replace q313 := eq_true q313) | (go_at_call 87; (with_reducible refine (impl_Task_nobody.calls g s0_0 s0_1 s0_2 s0_3 s0_4 s0_5 s0_6 s0_7 s0_8 s0_9 s0_10 (fun k_ => some k_ = (.slice (some ad313) l1.length co24 : Value).ownBlock) (.slice (some ad313) l1.length co24) l1 t338 t339 t340 t341 t342 t343 t344 t345 t346 t347 t348 t349 w0 _ ?side1 ?side2 ?side3 A22.out).mono ?_); (case side1 => exact impl_Task_found.k0 HI0.out); (case side2 => exact impl_Task_found.k1 HB.out); (case side3 => exact Kd.R_tight rfl HO1.out); rintro e w25 ⟨rfl, hi, hy0, hb, hkp⟩; replace HI0 := Aside0.mk (hi); replace HK := Aside0.mk (Kept.then_ (S := (fun k_ => (P1_ k_) ∨ k_ = g)) (impl_Task_found.k2 HK.out) hkp (fun k_ hs_ => Or.elim hs_ (fun hs_ => (fun e_ => Or.imp_left Or.inl ((HO1.out.1 k_ e_.symm))) hs_) (fun e_ => .inl (.inr e_)))); replace HO1 := Aside0.mk (Kd.R_reok rfl hy0 (fun k_ e_ => HO1.out.1 k_ e_)); replace HB := Aside0.mk (hb); (try clear hb); (try clear hkp); (try clear hy0)))
  repeat (go_quiet (first | (go_at_call 66; (with_reducible refine (impl_keyCell.calls s0_6 t312 _ A3.out).mono ?_); rintro e w' ⟨rfl, ⟨nd, rfl⟩⟩; (try first | exact ⟨rfl, _, World.drewN_drewN _ _ _⟩ | exact ⟨rfl, _, Eq.trans (World.drewN_drewN _ _ _) (congrArg (World.drewN _) (Nat.add_assoc _ _ _))⟩); obtain ⟨Ao24, co24, eo24⟩ := Kd.R_slice HO1.out; subst eo24; have p313 : 0 ≤ (t312 : Int) := of_decide_eq_true AS; have q313 : t312 < (l1.length : Int) := of_decide_eq_true AS; obtain ⟨ad313, e313, hx313_0⟩ := Kd.at_int (Kd.R_reads' HO1.out).2.2 t312 p313 q313; cases e313; replace p313 := eq_true p313; replace q313 := eq_true q313) | (go_at_call 87; (with_reducible refine (impl_Task_nobody.calls g s0_0 s0_1 s0_2 s0_3 s0_4 s0_5 s0_6 s0_7 s0_8 s0_9 s0_10 (fun k_ => some k_ = (.slice (some ad313) l1.length co24 : Value).ownBlock) (.slice (some ad313) l1.length co24) l1 t338 t339 t340 t341 t342 t343 t344 t345 t346 t347 t348 t349 w0 _ ?side1 ?side2 ?side3 A22.out).mono ?_); (case side1 => exact impl_Task_found.k0 HI0.out); (case side2 => exact impl_Task_found.k1 HB.out); (case side3 => exact Kd.R_tight rfl HO1.out); rintro e w25 ⟨rfl, hi, hy0, hb, hkp⟩; replace HI0 := Aside0.mk (hi); replace HK := Aside0.mk (Kept.then_ (S := (fun k_ => (P1_ k_) ∨ k_ = g)) (impl_Task_found.k2 HK.out) hkp (fun k_ hs_ => Or.elim hs_ (fun hs_ => (fun e_ => Or.imp_left Or.inl ((HO1.out.1 k_ e_.symm))) hs_) (fun e_ => .inl (.inr e_)))); replace HO1 := Aside0.mk (Kd.R_reok rfl hy0 (fun k_ e_ => HO1.out.1 k_ e_)); replace HB := Aside0.mk (hb); (try clear hb); (try clear hkp); (try clear hy0))); try go_wp2_with (first | (go_at_call 66; (with_reducible refine (impl_keyCell.calls s0_6 t312 _ A3.out).mono ?_); rintro e w' ⟨rfl, ⟨nd, rfl⟩⟩; (try first | exact ⟨rfl, _, World.drewN_drewN _ _ _⟩ | exact ⟨rfl, _, Eq.trans (World.drewN_drewN _ _ _) (congrArg (World.drewN _) (Nat.add_assoc _ _ _))⟩); obtain ⟨Ao24, co24, eo24⟩ := Kd.R_slice HO1.out; subst eo24; have p313 : 0 ≤ (t312 : Int) := of_decide_eq_true AS; have q313 : t312 < (l1.length : Int) := of_decide_eq_true AS; obtain ⟨ad313, e313, hx313_0⟩ := Kd.at_int (Kd.R_reads' HO1.out).2.2 t312 p313 q313; cases e313; replace p313 := eq_true p313; replace q313 := eq_true q313) | (go_at_call 87; (with_reducible refine (impl_Task_nobody.calls g s0_0 s0_1 s0_2 s0_3 s0_4 s0_5 s0_6 s0_7 s0_8 s0_9 s0_10 (fun k_ => some k_ = (.slice (some ad313) l1.length co24 : Value).ownBlock) (.slice (some ad313) l1.length co24) l1 t338 t339 t340 t341 t342 t343 t344 t345 t346 t347 t348 t349 w0 _ ?side1 ?side2 ?side3 A22.out).mono ?_); (case side1 => exact impl_Task_found.k0 HI0.out); (case side2 => exact impl_Task_found.k1 HB.out); (case side3 => exact Kd.R_tight rfl HO1.out); rintro e w25 ⟨rfl, hi, hy0, hb, hkp⟩; replace HI0 := Aside0.mk (hi); replace HK := Aside0.mk (Kept.then_ (S := (fun k_ => (P1_ k_) ∨ k_ = g)) (impl_Task_found.k2 HK.out) hkp (fun k_ hs_ => Or.elim hs_ (fun hs_ => (fun e_ => Or.imp_left Or.inl ((HO1.out.1 k_ e_.symm))) hs_) (fun e_ => .inl (.inr e_)))); replace HO1 := Aside0.mk (Kd.R_reok rfl hy0 (fun k_ e_ => HO1.out.1 k_ e_)); replace HB := Aside0.mk (hb); (try clear hb); (try clear hkp); (try clear hy0))))
  first | go_end0 | ((try simp only [Exit.inBlock, Exit.then]); refine bodyPost_ret (results_none rfl _ _ _) rfl ?_)
  exact ⟨EE, impl_Task_found.k0 HI0.out, RQ HO1.out, impl_Task_found.k1 HB.out, impl_Task_found.k2 HK.out⟩
 rw [if_pos c6] at H
 have c6b0 : ((rd l1 t312) == s0_1) = true := beq_iff_eq.mpr c6
 have c6b1 : ((rd l1 t312) != s0_1) = false := bne_eq_false_iff_eq.mpr c6
 clear c6
 by_cases c7 : s0_0 = 1
 ·
  rw [if_pos c7] at H; have c7b0 : (s0_0 == 1) = true := beq_iff_eq.mpr c7; have c7b1 : (s0_0 != 1) = false := bne_eq_false_iff_eq.mpr c7; clear c7; replace H := Option.bind_eq_some_iff.mp H; obtain ⟨t314, A80, H⟩ := H; have A8 := Aside0.mk A80; clear A80
  by_cases c9 : 0 ≤ t314; rotate_left
  ·
   rw [if_neg c9] at H; exact absurd H (by simp)
  rw [if_pos c9] at H; have c9b0 : decide (0 ≤ t314) = true := decide_eq_true c9; clear c9
  by_cases c10 : t314 < (l1.length : Int); rotate_left
  ·
   rw [if_neg c10] at H; exact absurd H (by simp)
  rw [if_pos c10] at H; have c10b0 : decide (t314 < (l1.length : Int)) = true := decide_eq_true c10; clear c10; replace H := Option.bind_eq_some_iff.mp H; obtain ⟨⟨t316, t317, t318, t319, t320, t321, t322, t323, t324, t325, t326⟩, A110, H⟩ := H; replace H : (some (t316, t317, t318, t319, t320, t321, t322, t323, t324, t325, t326, l1)) = some (r1, r2, r3, r4, r5, r6, r7, r8, r9, r10, r11, r12) := H; have A11 := Aside0.mk A110; clear A110; simp only [Option.some.injEq, Prod.mk.injEq] at H; obtain ⟨rfl, rfl, rfl, rfl, rfl, rfl, rfl, rfl, rfl, rfl, rfl, rfl⟩ := H; obtain ⟨HGz12, hgz12⟩ := HI0.out; have hcz12_0 := cellS46_0 HGz12; have hcz12_1 := cellS46_1 HGz12; have hcz12_2 := cellS46_2 HGz12; have hcz12_3 := cellS46_3 HGz12; have hcz12_4 := cellS46_4 HGz12; have hcz12_5 := cellS46_5 HGz12; have hcz12_6 := cellS46_6 HGz12; have hcz12_7 := cellS46_7 HGz12; have hcz12_8 := cellS46_8 HGz12; have hcz12_9 := cellS46_9 HGz12; have hcz12_10 := cellS46_10 HGz12; have hfz12_0 := blk_frozen HGz12 0; have hfz12_1 := blk_frozen HGz12 1; have hfz12_2 := blk_frozen HGz12 2; have hfz12_3 := blk_frozen HGz12 3; have hfz12_4 := blk_frozen HGz12 4; have hfz12_5 := blk_frozen HGz12 5; have hfz12_6 := blk_frozen HGz12 6; have hfz12_7 := blk_frozen HGz12 7; have hfz12_8 := blk_frozen HGz12 8; have hfz12_9 := blk_frozen HGz12 9; have hfz12_10 := blk_frozen HGz12 10; clear HGz12 hgz12
  go_enter Try.func81, Try.ntmps81
  go_wp2_with (first | (go_at_call 66; (with_reducible refine (impl_keyCell.calls s0_6 t312 _ A3.out).mono ?_); rintro e w' ⟨rfl, ⟨nd, rfl⟩⟩; (try first | exact ⟨rfl, _, World.drewN_drewN _ _ _⟩ | exact ⟨rfl, _, Eq.trans (World.drewN_drewN _ _ _) (congrArg (World.drewN _) (Nat.add_assoc _ _ _))⟩); obtain ⟨Ao13, co13, eo13⟩ := Kd.R_slice HO1.out; subst eo13; have p313 : 0 ≤ (t312 : Int) := of_decide_eq_true AS; have q313 : t312 < (l1.length : Int) := of_decide_eq_true AS; obtain ⟨ad313, e313, hx313_0⟩ := Kd.at_int (Kd.R_reads' HO1.out).2.2 t312 p313 q313; cases e313; replace p313 := eq_true p313; replace q313 := eq_true q313) | (go_at_call 67; (with_reducible refine (impl_valCell.calls s0_6 t314 _ A8.out).mono ?_); rintro e w' ⟨rfl, ⟨nd, rfl⟩⟩; (try first | exact ⟨rfl, _, World.drewN_drewN _ _ _⟩ | exact ⟨rfl, _, Eq.trans (World.drewN_drewN _ _ _) (congrArg (World.drewN _) (Nat.add_assoc _ _ _))⟩); have p315 : 0 ≤ (t314 : Int) := of_decide_eq_true AS; have q315 : t314 < (l1.length : Int) := of_decide_eq_true AS; obtain ⟨ad315, e315, hx315_0⟩ := Kd.at_int (Kd.R_reads' HO1.out).2.2 t314 p315 q315; obtain rfl : ad313 = ad315 := (by injection e315); replace p315 := eq_true p315; replace q315 := eq_true q315) | (go_at_call 83; (with_reducible refine (impl_Task_done.calls g s0_0 s0_1 s0_2 s0_3 s0_4 s0_5 s0_6 s0_7 s0_8 s0_9 s0_10 (wrap64 ((rd l1 t314) + 1)) t316 t317 t318 t319 t320 t321 t322 t323 t324 t325 t326 w0 _ ?side1 ?side2 A11.out).mono ?_); (case side1 => exact impl_Task_found.k0 HI0.out); (case side2 => exact impl_Task_found.k1 HB.out); rintro e w14 ⟨rfl, hi, hb, hk⟩; replace HO1 := Aside0.mk (Kd.R_mono (Kd.R_keep (IsS46.apart (show IsS46 w0 _ g s0_0 s0_1 s0_2 s0_3 s0_4 s0_5 s0_6 s0_7 s0_8 s0_9 s0_10 from impl_Task_found.k0 HI0.out) (RQ HO1.out) (by decide)) hk (fun _ h => h.2)) (fun _ h => h.1)); replace HK := Aside0.mk (Kept.of_keep (S := (fun k_ => (P1_ k_) ∨ k_ = g)) (impl_Task_found.k2 HK.out) hk (.inl (.inr rfl))); replace HB := Aside0.mk (hb); replace HI0 := Aside0.mk (hi); (try clear hb); (try clear hb2); (try clear hk); (try clear hi)))
  repeat (go_quiet (first | (go_at_call 66; (with_reducible refine (impl_keyCell.calls s0_6 t312 _ A3.out).mono ?_); rintro e w' ⟨rfl, ⟨nd, rfl⟩⟩; (try first | exact ⟨rfl, _, World.drewN_drewN _ _ _⟩ | exact ⟨rfl, _, Eq.trans (World.drewN_drewN _ _ _) (congrArg (World.drewN _) (Nat.add_assoc _ _ _))⟩); obtain ⟨Ao13, co13, eo13⟩ := Kd.R_slice HO1.out; subst eo13; have p313 : 0 ≤ (t312 : Int) := of_decide_eq_true AS; have q313 : t312 < (l1.length : Int) := of_decide_eq_true AS; obtain ⟨ad313, e313, hx313_0⟩ := Kd.at_int (Kd.R_reads' HO1.out).2.2 t312 p313 q313; cases e313; replace p313 := eq_true p313; replace q313 := eq_true q313) | (go_at_call 67; (with_reducible refine (impl_valCell.calls s0_6 t314 _ A8.out).mono ?_); rintro e w' ⟨rfl, ⟨nd, rfl⟩⟩; (try first | exact ⟨rfl, _, World.drewN_drewN _ _ _⟩ | exact ⟨rfl, _, Eq.trans (World.drewN_drewN _ _ _) (congrArg (World.drewN _) (Nat.add_assoc _ _ _))⟩); have p315 : 0 ≤ (t314 : Int) := of_decide_eq_true AS; have q315 : t314 < (l1.length : Int) := of_decide_eq_true AS; obtain ⟨ad315, e315, hx315_0⟩ := Kd.at_int (Kd.R_reads' HO1.out).2.2 t314 p315 q315; obtain rfl : ad313 = ad315 := (by injection e315); replace p315 := eq_true p315; replace q315 := eq_true q315) | (go_at_call 83; (with_reducible refine (impl_Task_done.calls g s0_0 s0_1 s0_2 s0_3 s0_4 s0_5 s0_6 s0_7 s0_8 s0_9 s0_10 (wrap64 ((rd l1 t314) + 1)) t316 t317 t318 t319 t320 t321 t322 t323 t324 t325 t326 w0 _ ?side1 ?side2 A11.out).mono ?_); (case side1 => exact impl_Task_found.k0 HI0.out); (case side2 => exact impl_Task_found.k1 HB.out); rintro e w14 ⟨rfl, hi, hb, hk⟩; replace HO1 := Aside0.mk (Kd.R_mono (Kd.R_keep (IsS46.apart (show IsS46 w0 _ g s0_0 s0_1 s0_2 s0_3 s0_4 s0_5 s0_6 s0_7 s0_8 s0_9 s0_10 from impl_Task_found.k0 HI0.out) (RQ HO1.out) (by decide)) hk (fun _ h => h.2)) (fun _ h => h.1)); replace HK := Aside0.mk (Kept.of_keep (S := (fun k_ => (P1_ k_) ∨ k_ = g)) (impl_Task_found.k2 HK.out) hk (.inl (.inr rfl))); replace HB := Aside0.mk (hb); replace HI0 := Aside0.mk (hi); (try clear hb); (try clear hb2); (try clear hk); (try clear hi))); try go_wp2_with (first | (go_at_call 66; (with_reducible refine (impl_keyCell.calls s0_6 t312 _ A3.out).mono ?_); rintro e w' ⟨rfl, ⟨nd, rfl⟩⟩; (try first | exact ⟨rfl, _, World.drewN_drewN _ _ _⟩ | exact ⟨rfl, _, Eq.trans (World.drewN_drewN _ _ _) (congrArg (World.drewN _) (Nat.add_assoc _ _ _))⟩); obtain ⟨Ao13, co13, eo13⟩ := Kd.R_slice HO1.out; subst eo13; have p313 : 0 ≤ (t312 : Int) := of_decide_eq_true AS; have q313 : t312 < (l1.length : Int) := of_decide_eq_true AS; obtain ⟨ad313, e313, hx313_0⟩ := Kd.at_int (Kd.R_reads' HO1.out).2.2 t312 p313 q313; cases e313; replace p313 := eq_true p313; replace q313 := eq_true q313) | (go_at_call 67; (with_reducible refine (impl_valCell.calls s0_6 t314 _ A8.out).mono ?_); rintro e w' ⟨rfl, ⟨nd, rfl⟩⟩; (try first | exact ⟨rfl, _, World.drewN_drewN _ _ _⟩ | exact ⟨rfl, _, Eq.trans (World.drewN_drewN _ _ _) (congrArg (World.drewN _) (Nat.add_assoc _ _ _))⟩); have p315 : 0 ≤ (t314 : Int) := of_decide_eq_true AS; have q315 : t314 < (l1.length : Int) := of_decide_eq_true AS; obtain ⟨ad315, e315, hx315_0⟩ := Kd.at_int (Kd.R_reads' HO1.out).2.2 t314 p315 q315; obtain rfl : ad313 = ad315 := (by injection e315); replace p315 := eq_true p315; replace q315 := eq_true q315) | (go_at_call 83; (with_reducible refine (impl_Task_done.calls g s0_0 s0_1 s0_2 s0_3 s0_4 s0_5 s0_6 s0_7 s0_8 s0_9 s0_10 (wrap64 ((rd l1 t314) + 1)) t316 t317 t318 t319 t320 t321 t322 t323 t324 t325 t326 w0 _ ?side1 ?side2 A11.out).mono ?_); (case side1 => exact impl_Task_found.k0 HI0.out); (case side2 => exact impl_Task_found.k1 HB.out); rintro e w14 ⟨rfl, hi, hb, hk⟩; replace HO1 := Aside0.mk (Kd.R_mono (Kd.R_keep (IsS46.apart (show IsS46 w0 _ g s0_0 s0_1 s0_2 s0_3 s0_4 s0_5 s0_6 s0_7 s0_8 s0_9 s0_10 from impl_Task_found.k0 HI0.out) (RQ HO1.out) (by decide)) hk (fun _ h => h.2)) (fun _ h => h.1)); replace HK := Aside0.mk (Kept.of_keep (S := (fun k_ => (P1_ k_) ∨ k_ = g)) (impl_Task_found.k2 HK.out) hk (.inl (.inr rfl))); replace HB := Aside0.mk (hb); replace HI0 := Aside0.mk (hi); (try clear hb); (try clear hb2); (try clear hk); (try clear hi))))
  first | go_end0 | ((try simp only [Exit.inBlock, Exit.then]); refine bodyPost_ret (results_none rfl _ _ _) rfl ?_)
  exact ⟨EE, impl_Task_found.k0 HI0.out, RQ HO1.out, impl_Task_found.k1 HB.out, impl_Task_found.k2 HK.out⟩
 rw [if_neg c7] at H
 have c7b0 : (s0_0 == 1) = false := beq_eq_false_iff_ne.mpr c7
 have c7b1 : (s0_0 != 1) = true := bne_iff_ne.mpr c7
 by_cases c15 : s0_0 = 2; rotate_left
 ·
  rw [if_neg c15] at H; have c15b0 : (s0_0 == 2) = false := beq_eq_false_iff_ne.mpr c15; have c15b1 : (s0_0 != 2) = true := bne_iff_ne.mpr c15; simp only [Option.some.injEq, Prod.mk.injEq] at H; obtain ⟨rfl, rfl, rfl, rfl, rfl, rfl, rfl, rfl, rfl, rfl, rfl, rfl⟩ := H; obtain ⟨HGz20, hgz20⟩ := HI0.out; have hcz20_0 := cellS46_0 HGz20; have hcz20_1 := cellS46_1 HGz20; have hcz20_2 := cellS46_2 HGz20; have hcz20_3 := cellS46_3 HGz20; have hcz20_4 := cellS46_4 HGz20; have hcz20_5 := cellS46_5 HGz20; have hcz20_6 := cellS46_6 HGz20; have hcz20_7 := cellS46_7 HGz20; have hcz20_8 := cellS46_8 HGz20; have hcz20_9 := cellS46_9 HGz20; have hcz20_10 := cellS46_10 HGz20; have hfz20_0 := blk_frozen HGz20 0; have hfz20_1 := blk_frozen HGz20 1; have hfz20_2 := blk_frozen HGz20 2; have hfz20_3 := blk_frozen HGz20 3; have hfz20_4 := blk_frozen HGz20 4; have hfz20_5 := blk_frozen HGz20 5; have hfz20_6 := blk_frozen HGz20 6; have hfz20_7 := blk_frozen HGz20 7; have hfz20_8 := blk_frozen HGz20 8; have hfz20_9 := blk_frozen HGz20 9; have hfz20_10 := blk_frozen HGz20 10; clear HGz20 hgz20
  go_enter Try.func81, Try.ntmps81
  go_wp2_with (first | (go_at_call 66; (with_reducible refine (impl_keyCell.calls s0_6 t312 _ A3.out).mono ?_); rintro e w' ⟨rfl, ⟨nd, rfl⟩⟩; (try first | exact ⟨rfl, _, World.drewN_drewN _ _ _⟩ | exact ⟨rfl, _, Eq.trans (World.drewN_drewN _ _ _) (congrArg (World.drewN _) (Nat.add_assoc _ _ _))⟩); obtain ⟨Ao21, co21, eo21⟩ := Kd.R_slice HO1.out; subst eo21; have p313 : 0 ≤ (t312 : Int) := of_decide_eq_true AS; have q313 : t312 < (l1.length : Int) := of_decide_eq_true AS; obtain ⟨ad313, e313, hx313_0⟩ := Kd.at_int (Kd.R_reads' HO1.out).2.2 t312 p313 q313; cases e313; replace p313 := eq_true p313; replace q313 := eq_true q313))
  repeat (go_quiet (first | (go_at_call 66; (with_reducible refine (impl_keyCell.calls s0_6 t312 _ A3.out).mono ?_); rintro e w' ⟨rfl, ⟨nd, rfl⟩⟩; (try first | exact ⟨rfl, _, World.drewN_drewN _ _ _⟩ | exact ⟨rfl, _, Eq.trans (World.drewN_drewN _ _ _) (congrArg (World.drewN _) (Nat.add_assoc _ _ _))⟩); obtain ⟨Ao21, co21, eo21⟩ := Kd.R_slice HO1.out; subst eo21; have p313 : 0 ≤ (t312 : Int) := of_decide_eq_true AS; have q313 : t312 < (l1.length : Int) := of_decide_eq_true AS; obtain ⟨ad313, e313, hx313_0⟩ := Kd.at_int (Kd.R_reads' HO1.out).2.2 t312 p313 q313; cases e313; replace p313 := eq_true p313; replace q313 := eq_true q313)); try go_wp2_with (first | (go_at_call 66; (with_reducible refine (impl_keyCell.calls s0_6 t312 _ A3.out).mono ?_); rintro e w' ⟨rfl, ⟨nd, rfl⟩⟩; (try first | exact ⟨rfl, _, World.drewN_drewN _ _ _⟩ | exact ⟨rfl, _, Eq.trans (World.drewN_drewN _ _ _) (congrArg (World.drewN _) (Nat.add_assoc _ _ _))⟩); obtain ⟨Ao21, co21, eo21⟩ := Kd.R_slice HO1.out; subst eo21; have p313 : 0 ≤ (t312 : Int) := of_decide_eq_true AS; have q313 : t312 < (l1.length : Int) := of_decide_eq_true AS; obtain ⟨ad313, e313, hx313_0⟩ := Kd.at_int (Kd.R_reads' HO1.out).2.2 t312 p313 q313; cases e313; replace p313 := eq_true p313; replace q313 := eq_true q313)))
  first | go_end0 | ((try simp only [Exit.inBlock, Exit.then]); refine bodyPost_ret (results_none rfl _ _ _) rfl ?_)
  exact ⟨EE, impl_Task_found.k0 HI0.out, by (with_reducible repeat (first | apply r1 | apply r2 | apply r3)); exact Kd.R_mono (Kd.R_far (p := ⟨g, 4, none⟩) (IsS46.apart HI0.out HO1.out (by decide)) (fun _ hk => hk.2) (.int .i64 5)) (fun _ hk => hk.1), impl_Task_found.k1 HB.out, impl_Task_found.k2 HK.out⟩
 rw [if_pos c15] at H
 have c15b0 : (s0_0 == 2) = true := beq_iff_eq.mpr c15
 have c15b1 : (s0_0 != 2) = false := bne_eq_false_iff_eq.mpr c15
 clear c15
 replace H := Option.bind_eq_some_iff.mp H
 obtain ⟨⟨t327, t328, t329, t330, t331, t332, t333, t334, t335, t336, t337⟩, A160, H⟩ := H
 replace H : (some (t327, t328, t329, t330, t331, t332, t333, t334, t335, t336, t337, l1)) = some (r1, r2, r3, r4, r5, r6, r7, r8, r9, r10, r11, r12) := H
 have A16 := Aside0.mk A160
 clear A160
 simp only [Option.some.injEq, Prod.mk.injEq] at H
 obtain ⟨rfl, rfl, rfl, rfl, rfl, rfl, rfl, rfl, rfl, rfl, rfl, rfl⟩ := H
 obtain ⟨HGz17, hgz17⟩ := HI0.out
 have hcz17_0 := cellS46_0 HGz17
 have hcz17_1 := cellS46_1 HGz17
 have hcz17_2 := cellS46_2 HGz17
 have hcz17_3 := cellS46_3 HGz17
 have hcz17_4 := cellS46_4 HGz17
 have hcz17_5 := cellS46_5 HGz17
 have hcz17_6 := cellS46_6 HGz17
 have hcz17_7 := cellS46_7 HGz17
 have hcz17_8 := cellS46_8 HGz17
 have hcz17_9 := cellS46_9 HGz17
 have hcz17_10 := cellS46_10 HGz17
 have hfz17_0 := blk_frozen HGz17 0
 have hfz17_1 := blk_frozen HGz17 1
 have hfz17_2 := blk_frozen HGz17 2
 have hfz17_3 := blk_frozen HGz17 3
 have hfz17_4 := blk_frozen HGz17 4
 have hfz17_5 := blk_frozen HGz17 5
 have hfz17_6 := blk_frozen HGz17 6
 have hfz17_7 := blk_frozen HGz17 7
 have hfz17_8 := blk_frozen HGz17 8
 have hfz17_9 := blk_frozen HGz17 9
 have hfz17_10 := blk_frozen HGz17 10
 clear HGz17 hgz17
 go_enter Try.func81, Try.ntmps81
 go_wp2_with (first | (go_at_call 66; (with_reducible refine (impl_keyCell.calls s0_6 t312 _ A3.out).mono ?_); rintro e w' ⟨rfl, ⟨nd, rfl⟩⟩; (try first | exact ⟨rfl, _, World.drewN_drewN _ _ _⟩ | exact ⟨rfl, _, Eq.trans (World.drewN_drewN _ _ _) (congrArg (World.drewN _) (Nat.add_assoc _ _ _))⟩); obtain ⟨Ao18, co18, eo18⟩ := Kd.R_slice HO1.out; subst eo18; have p313 : 0 ≤ (t312 : Int) := of_decide_eq_true AS; have q313 : t312 < (l1.length : Int) := of_decide_eq_true AS; obtain ⟨ad313, e313, hx313_0⟩ := Kd.at_int (Kd.R_reads' HO1.out).2.2 t312 p313 q313; cases e313; replace p313 := eq_true p313; replace q313 := eq_true q313) | (go_at_call 83; (with_reducible refine (impl_Task_done.calls g s0_0 s0_1 s0_2 s0_3 s0_4 s0_5 s0_6 s0_7 s0_8 s0_9 s0_10 0 t327 t328 t329 t330 t331 t332 t333 t334 t335 t336 t337 w0 _ ?side1 ?side2 A16.out).mono ?_); (case side1 => exact impl_Task_found.k0 HI0.out); (case side2 => exact impl_Task_found.k1 HB.out); rintro e w19 ⟨rfl, hi, hb, hk⟩; replace HO1 := Aside0.mk (Kd.R_mono (Kd.R_keep (IsS46.apart (show IsS46 w0 _ g s0_0 s0_1 s0_2 s0_3 s0_4 s0_5 s0_6 s0_7 s0_8 s0_9 s0_10 from impl_Task_found.k0 HI0.out) (RQ HO1.out) (by decide)) hk (fun _ h => h.2)) (fun _ h => h.1)); replace HK := Aside0.mk (Kept.of_keep (S := (fun k_ => (P1_ k_) ∨ k_ = g)) (impl_Task_found.k2 HK.out) hk (.inl (.inr rfl))); replace HB := Aside0.mk (hb); replace HI0 := Aside0.mk (hi); (try clear hb); (try clear hb2); (try clear hk); (try clear hi)))
 repeat (go_quiet (first | (go_at_call 66; (with_reducible refine (impl_keyCell.calls s0_6 t312 _ A3.out).mono ?_); rintro e w' ⟨rfl, ⟨nd, rfl⟩⟩; (try first | exact ⟨rfl, _, World.drewN_drewN _ _ _⟩ | exact ⟨rfl, _, Eq.trans (World.drewN_drewN _ _ _) (congrArg (World.drewN _) (Nat.add_assoc _ _ _))⟩); obtain ⟨Ao18, co18, eo18⟩ := Kd.R_slice HO1.out; subst eo18; have p313 : 0 ≤ (t312 : Int) := of_decide_eq_true AS; have q313 : t312 < (l1.length : Int) := of_decide_eq_true AS; obtain ⟨ad313, e313, hx313_0⟩ := Kd.at_int (Kd.R_reads' HO1.out).2.2 t312 p313 q313; cases e313; replace p313 := eq_true p313; replace q313 := eq_true q313) | (go_at_call 83; (with_reducible refine (impl_Task_done.calls g s0_0 s0_1 s0_2 s0_3 s0_4 s0_5 s0_6 s0_7 s0_8 s0_9 s0_10 0 t327 t328 t329 t330 t331 t332 t333 t334 t335 t336 t337 w0 _ ?side1 ?side2 A16.out).mono ?_); (case side1 => exact impl_Task_found.k0 HI0.out); (case side2 => exact impl_Task_found.k1 HB.out); rintro e w19 ⟨rfl, hi, hb, hk⟩; replace HO1 := Aside0.mk (Kd.R_mono (Kd.R_keep (IsS46.apart (show IsS46 w0 _ g s0_0 s0_1 s0_2 s0_3 s0_4 s0_5 s0_6 s0_7 s0_8 s0_9 s0_10 from impl_Task_found.k0 HI0.out) (RQ HO1.out) (by decide)) hk (fun _ h => h.2)) (fun _ h => h.1)); replace HK := Aside0.mk (Kept.of_keep (S := (fun k_ => (P1_ k_) ∨ k_ = g)) (impl_Task_found.k2 HK.out) hk (.inl (.inr rfl))); replace HB := Aside0.mk (hb); replace HI0 := Aside0.mk (hi); (try clear hb); (try clear hb2); (try clear hk); (try clear hi))); try go_wp2_with (first | (go_at_call 66; (with_reducible refine (impl_keyCell.calls s0_6 t312 _ A3.out).mono ?_); rintro e w' ⟨rfl, ⟨nd, rfl⟩⟩; (try first | exact ⟨rfl, _, World.drewN_drewN _ _ _⟩ | exact ⟨rfl, _, Eq.trans (World.drewN_drewN _ _ _) (congrArg (World.drewN _) (Nat.add_assoc _ _ _))⟩); obtain ⟨Ao18, co18, eo18⟩ := Kd.R_slice HO1.out; subst eo18; have p313 : 0 ≤ (t312 : Int) := of_decide_eq_true AS; have q313 : t312 < (l1.length : Int) := of_decide_eq_true AS; obtain ⟨ad313, e313, hx313_0⟩ := Kd.at_int (Kd.R_reads' HO1.out).2.2 t312 p313 q313; cases e313; replace p313 := eq_true p313; replace q313 := eq_true q313) | (go_at_call 83; (with_reducible refine (impl_Task_done.calls g s0_0 s0_1 s0_2 s0_3 s0_4 s0_5 s0_6 s0_7 s0_8 s0_9 s0_10 0 t327 t328 t329 t330 t331 t332 t333 t334 t335 t336 t337 w0 _ ?side1 ?side2 A16.out).mono ?_); (case side1 => exact impl_Task_found.k0 HI0.out); (case side2 => exact impl_Task_found.k1 HB.out); rintro e w19 ⟨rfl, hi, hb, hk⟩; replace HO1 := Aside0.mk (Kd.R_mono (Kd.R_keep (IsS46.apart (show IsS46 w0 _ g s0_0 s0_1 s0_2 s0_3 s0_4 s0_5 s0_6 s0_7 s0_8 s0_9 s0_10 from impl_Task_found.k0 HI0.out) (RQ HO1.out) (by decide)) hk (fun _ h => h.2)) (fun _ h => h.1)); replace HK := Aside0.mk (Kept.of_keep (S := (fun k_ => (P1_ k_) ∨ k_ = g)) (impl_Task_found.k2 HK.out) hk (.inl (.inr rfl))); replace HB := Aside0.mk (hb); replace HI0 := Aside0.mk (hi); (try clear hb); (try clear hb2); (try clear hk); (try clear hi))))
 first | go_end0 | ((try simp only [Exit.inBlock, Exit.then]); refine bodyPost_ret (results_none rfl _ _ _) rfl ?_)
 exact ⟨EE, impl_Task_found.k0 HI0.out, RQ HO1.out, impl_Task_found.k1 HB.out, impl_Task_found.k2 HK.out⟩

/-! ### impl_swapWord: function 82 -/
def impl_swapWord.f (l0 : List Int) (a1 : Int) (a2 : Int) (a3 : Int) : Option (Bool × List Int) := (impl_wordCell.f a1).bind fun t350 => (if 0 ≤ t350 then (if t350 < (l0.length : Int) then (if (rd l0 t350) = a2 then (some (true, (l0.set (t350 : Int).toNat a3))) else (some (false, l0))) else (none)) else (none))
set_option maxHeartbeats 8000000 in
set_option maxRecDepth 100000 in
theorem impl_swapWord.calls (P0_ : Nat → Prop) (u9000_ : Value) (l0 : List Int) (a1 : Int) (a2 : Int) (a3 : Int) (r1 : Bool) (r2 : List Int) (w0 w : World) (hB : Below w0.heap.size w0 w) (ho0 : Kd.R (Kd.int .i64) 3 w w0.heap.size P0_ u9000_ l0) (h : impl_swapWord.f l0 a1 a2 a3 = some (r1, r2)) :
  Calls Try.prog 82 #[u9000_, .int .i64 a1, .int .i64 a2, .int .i64 a3] w fun e w' => e = .returned (.bool r1) ∧ Kd.R (Kd.int .i64) 3 w' w0.heap.size (fun k_ => (P0_ k_ ∨ w.heap.size ≤ k_)) u9000_ r2 ∧ Below w0.heap.size w0 w' ∧ Kept w w' (fun k_ => P0_ k_) := by
 have HO0 := Aside0.mk (show Kd.R (Kd.int .i64) 3 w w0.heap.size (fun k_ => (P0_ k_ ∨ w.heap.size ≤ k_)) u9000_ l0 from Kd.R_mono ho0 (fun k_ hk => (.inl hk)))
 have HK := Aside0.mk (Kept.refl w (fun k_ => P0_ k_))
 have HW0 := Aside0.mk hB.size
 have HB := Aside0.mk hB
 clear hB
 obtain ⟨wv, hwv⟩ : ∃ wv : World, wv = w := ⟨w, rfl⟩
 replace HO0 : Aside0 (Kd.R (Kd.int .i64) 3 w w0.heap.size (fun k_ => (P0_ k_ ∨ wv.heap.size ≤ k_)) u9000_ l0) := by rw [hwv]; exact HO0
 replace HK : Aside0 (Kept wv w (fun k_ => P0_ k_)) := by rw [hwv]; exact HK
 suffices hs_ : Calls Try.prog 82 #[u9000_, .int .i64 a1, .int .i64 a2, .int .i64 a3] w fun e w' => e = .returned (.bool r1) ∧ Kd.R (Kd.int .i64) 3 w' w0.heap.size (fun k_ => (P0_ k_ ∨ wv.heap.size ≤ k_)) u9000_ r2 ∧ Below w0.heap.size w0 w' ∧ Kept wv w' (fun k_ => P0_ k_) by rw [hwv] at hs_; exact hs_
 clear hwv
 have H : ((impl_wordCell.f a1).bind fun t350 => (if 0 ≤ t350 then (if t350 < (l0.length : Int) then (if (rd l0 t350) = a2 then (some (true, (l0.set (t350 : Int).toNat a3))) else (some (false, l0))) else (none)) else (none))) = some (r1, r2) := h
 clear h
 replace H := Option.bind_eq_some_iff.mp H
 obtain ⟨t350, A50, H⟩ := H
 have A5 := Aside0.mk A50
 clear A50
 by_cases c6 : 0 ≤ t350; rotate_left
 ·
  rw [if_neg c6] at H; exact absurd H (by simp)
 rw [if_pos c6] at H
 have c6b0 : decide (0 ≤ t350) = true := decide_eq_true c6
 clear c6
 by_cases c7 : t350 < (l0.length : Int); rotate_left
 ·
  rw [if_neg c7] at H; exact absurd H (by simp)
 rw [if_pos c7] at H
 have c7b0 : decide (t350 < (l0.length : Int)) = true := decide_eq_true c7
 clear c7
 by_cases c8 : (rd l0 t350) = a2; rotate_left
 ·
  rw [if_neg c8] at H; have c8b0 : ((rd l0 t350) == a2) = false := beq_eq_false_iff_ne.mpr c8; have c8b1 : ((rd l0 t350) != a2) = true := bne_iff_ne.mpr c8; simp only [Option.some.injEq, Prod.mk.injEq] at H; obtain ⟨rfl, rfl⟩ := H
  go_enter Try.func82, Try.ntmps82
  go_wp2_with (first | ((with_reducible refine gate_callee (f := 76) rfl ?_); refine goesL_ (some 11) rfl rfl Try.func76 (by kernel_rfl) rfl #[.int .i64 a1] rfl (MA) ?_; (with_reducible refine (impl_wordCell.calls a1 t350 _ A5.out).mono ?_); rintro e w' ⟨rfl, ⟨nd, rfl⟩⟩; refine ⟨_, rfl, ?_⟩; obtain ⟨Ao13, co13, eo13⟩ := Kd.R_slice HO0.out; subst eo13; have p351 : 0 ≤ (t350 : Int) := of_decide_eq_true AS; have q351 : t350 < (l0.length : Int) := of_decide_eq_true AS; obtain ⟨ad351, e351, hx351_0⟩ := Kd.at_int (Kd.R_reads' HO0.out).2.2 t350 p351 q351; cases e351; replace p351 := eq_true p351; replace q351 := eq_true q351))
  go_ret
  exact ⟨EE, RQ HO0.out, BL, KL⟩
 rw [if_pos c8] at H
 have c8b0 : ((rd l0 t350) == a2) = true := beq_iff_eq.mpr c8
 have c8b1 : ((rd l0 t350) != a2) = false := bne_eq_false_iff_eq.mpr c8
 clear c8
 obtain ⟨y352, hy352⟩ : ∃ y_ : List Int, y_ = (l0.set (t350 : Int).toNat a3) := ⟨_, rfl⟩
 replace H : (some (true, y352)) = some (r1, r2) := by first | (rw [hy352]; with_reducible exact H) | (have H2_ := (Option.bind_some _ _).symm.trans H; rw [hy352]; with_reducible exact H2_) | (have H2_ := (Option.bind_some _ _).symm.trans H; with_reducible exact H2_) | with_reducible exact H | (rw [hy352]; exact H) | exact H
 have Ny352 := Aside0.mk hy352
 clear hy352
 simp only [Option.some.injEq, Prod.mk.injEq] at H
 obtain ⟨rfl, rfl⟩ := H
 go_enter Try.func82, Try.ntmps82
 go_wp2_with (first | ((with_reducible refine gate_callee (f := 76) rfl ?_); refine goesL_ (some 11) rfl rfl Try.func76 (by kernel_rfl) rfl #[.int .i64 a1] rfl (MA) ?_; (with_reducible refine (impl_wordCell.calls a1 t350 _ A5.out).mono ?_); rintro e w' ⟨rfl, ⟨nd, rfl⟩⟩; refine ⟨_, rfl, ?_⟩; (try (rw [drewN_self w]; generalize hq_ : World.drewN w _ = w; have n0_ : Aside0 (Kd.R (Kd.int .i64) 3 w w0.heap.size (fun k_ => (P0_ k_ ∨ wv.heap.size ≤ k_)) u9000_ l0) := ⟨by rw [← hq_]; exact (RQ HO0.out)⟩; have n1_ : Aside0 (Kept wv w (fun k_ => P0_ k_)) := ⟨by rw [← hq_]; exact (KL)⟩; have n2_ : Aside0 (Below w0.heap.size w0 w) := ⟨by rw [← hq_]; exact (BL)⟩; clear HO0 HK HB hq_; have HO0 := n0_; have HK := n1_; have HB := n2_; clear n0_ n1_ n2_)); obtain ⟨Ao10, co10, eo10⟩ := Kd.R_slice HO0.out; subst eo10; have p351 : 0 ≤ (t350 : Int) := of_decide_eq_true AS; have q351 : t350 < (l0.length : Int) := of_decide_eq_true AS; obtain ⟨ad351, e351, hx351_0⟩ := Kd.at_int (Kd.R_reads' HO0.out).2.2 t350 p351 q351; cases e351; replace p351 := eq_true p351; replace q351 := eq_true q351; have p9 : 0 ≤ (t350 : Int) := of_decide_eq_true AS; have q9 : (t350 : Int) < ((l0.length : Int) : Int) := of_decide_eq_true AS; obtain ⟨go9, co9, eo9, gb9, gl9, cl9, HG9⟩ := Kd.R_form HO0.out (by omega); (first | cases eo9 | (injection eo9 with ea_ en_ ec_; (first | subst ea_ | (injection ea_ with ea_; subst ea_)); subst ec_; clear en_)); have GB9 := Aside0.mk gb9; have GG9 := Aside0.mk HG9; clear gb9 gl9 HG9; have HMgo9 := Aside0.mk (show (P0_ go9 ∨ wv.heap.size ≤ go9) from (HO0.out.1 _ rfl)); (first | simp only [add_plain] at hx351_0 | skip); obtain ⟨hx9_0, hf9_0⟩ := Kd.R_celln 0 HO0.out (t350 : Int) p9 q9; replace p9 := eq_true p9; replace q9 := eq_true q9; obtain ⟨hy11_, hz11_⟩ := Kd.R_celln 0 HO0.out (t350 : Int) (of_decide_eq_true AS) (of_decide_eq_true AS); have HP11 := Kd.R_putg HO0.out (t350 : Int) a3) | ((with_reducible refine gate_store (t := 3) (p := 21) rfl ?_); refine store_event (t := 3) (p := 21) (v := ?vo_w12) (w1 := (w.setCell ⟨go9, (t350 : Int).toNat, none⟩ (.int .i64 a3))) ?hg ?ho ?hn ?hr ?_; (case ho => rfl); (case hg => rfl); (case hn => rfl); (case hr => first | (go_simp; done) | (go_simp; rfl)); intro w12 hw; have hg : w.grownBy w12 (some go9) := (by rw [hw]; exact HP11.2); have hp_ : Kd.R (Kd.int .i64) 3 w12 w0.heap.size (fun k_ => (P0_ k_ ∨ wv.heap.size ≤ k_)) (.slice (some ⟨go9, 0, none⟩) l0.length co10) y352 := (by rw [hw, Ny352.out]; exact HP11.1); clear HP11; replace HK := Aside0.mk (Kept.of_grown (S := (fun k_ => P0_ k_)) hg (KL) (fun k_ e_ => (HO0.out.1 k_ e_))); replace HO0 := Aside0.mk (hp_); replace HB := Aside0.mk ((by rw [hw]; exact below_set (HB.out) GB9.out : Below w0.heap.size w0 w12)); clear hg hw hp_))
 go_ret
 exact ⟨EE, RQ HO0.out, BL, KL⟩

end Go.Proofs.Ytjmggbhgmenmcaa.Qst
