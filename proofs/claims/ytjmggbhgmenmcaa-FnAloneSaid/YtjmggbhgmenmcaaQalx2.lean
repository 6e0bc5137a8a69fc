-- Laid by myprint.py, a program of this session's own, over the kit's print. Not trusted: Lean checks it.
import Derived.Test.YtjmggbhgmenmcaaQalx0
import Derived.Test.YtjmggbhgmenmcaaQalx1
namespace Go.Proofs.Ytjmggbhgmenmcaa.Qal
open Go.RowKit Go.Proofs.YtjmggbhgmenmcaaW.PrintWords Go.Proofs.YtjmggbhgmenmcaaW.PrintLast Go.Proofs.YtjmggbhgmenmcaaW.PrintMore
attribute [local go_sem] Go.Proofs.Ytjmggbhgmenmcaa.StrCmp.gtr_less Go.Proofs.Ytjmggbhgmenmcaa.StrCmp.geq_less Go.Proofs.Ytjmggbhgmenmcaa.StrCmp.leq_less max2_int min2_int max_two min_two max_three min_three max_four min_four   -- for this text's walks alone
set_option linter.unusedVariables false
set_option linter.unusedSimpArgs false

/-! ### impl_isNumber: function 53 -/
def impl_isNumber.f (a0 : Int) : Option (Bool) := (impl_within.f a0 0 1000000000).bind fun t169 => (some t169)
set_option maxHeartbeats 8000000 in
set_option maxRecDepth 100000 in
theorem impl_isNumber.calls (a0 : Int) (r : Bool) (w : World) (h : impl_isNumber.f a0 = some r) :
  Calls Try.prog 53 #[.int .i64 a0] w fun e w' => e = .returned (.bool r) ∧ Drawn0 w w' := by
 have H : ((impl_within.f a0 0 1000000000).bind fun t169 => (some t169)) = some r := h
 clear h
 replace H := Option.bind_eq_some_iff.mp H
 obtain ⟨t169, A20, H⟩ := H
 have A2 := Aside0.mk A20
 clear A20
 obtain rfl := Option.some.inj H
 go_enter Try.func53, Try.ntmps53
 go_wp2_with (first | ((with_reducible refine gate_callee (f := 60) rfl ?_); refine goesL_ (some 4) rfl rfl Try.func60 (by kernel_rfl) rfl #[.int .i64 a0, .int .i64 0, .int .i64 1000000000] rfl (MA) ?_; (with_reducible refine (impl_within.calls a0 0 1000000000 t169 _ A2.out).mono ?_); rintro e w' ⟨rfl, ⟨nd, rfl⟩⟩; refine ⟨_, rfl, ?_⟩))
 go_ret
 exact ⟨by first | rfl | (simp; done) | (simp [*]; done), by repeat (first | exact Drawn0.refl _ | apply Drawn0.step)⟩

/-! ### impl_CellsOk: function 27 -/
def impl_CellsOk.l0 : Nat → List Int → List Int → Int → Int → Option (Bool)
 | 0, _, _, _, _ => none
 | k + 1, x0, x5, x6, x7 => if x7 < x6 then (if 0 ≤ x7 then (if x7 < (x5.length : Int) then ((impl_isNumber.f (rd x5 x7)).bind fun t171 => (if t171 = true then (impl_CellsOk.l0 k x0 x5 x6 (wrap64 (x7 + 1))) else (some false))) else (none)) else (none)) else ((impl_within.f (x0.length : Int) 1 80).bind fun t172 => (some t172))
def impl_CellsOk.f (k : Nat) (l0 : List Int) : Option (Bool) := impl_CellsOk.l0 k l0 l0 (l0.length : Int) 0
theorem impl_CellsOk.mono_l : ∀ k, (∀ y0 y1 y2 y3, LeO (impl_CellsOk.l0 k y0 y1 y2 y3) (impl_CellsOk.l0 (k + 1) y0 y1 y2 y3))
 | 0 => fun _ _ _ _ r h => by simp [impl_CellsOk.l0] at h
 | k + 1 => by
  have ih0 := impl_CellsOk.mono_l k
  ·
   intro y0 y1 y2 y3
   unfold impl_CellsOk.l0
   repeat' first
   | (with_reducible exact ih0 _ _ _ _)
   | (with_reducible exact LeO.refl _)
   | (with_reducible exact LeO.none _)
   | (with_reducible refine LeO.ite ?_ ?_)
   | (with_reducible refine LeO.bind ?_ (fun _ => ?_))
   | exact ih0 _ _ _ _
   | exact LeO.none _
   | refine LeO.ite ?_ ?_
   | refine LeO.bind ?_ (fun _ => ?_)
theorem impl_CellsOk.mono : ∀ a0 k, LeO (impl_CellsOk.f k a0) (impl_CellsOk.f (k + 1) a0) := by
 intro a0 k
 have ih0 := impl_CellsOk.mono_l k
 unfold impl_CellsOk.f
 repeat' first
   | (with_reducible exact ih0 _ _ _ _)
   | (with_reducible exact LeO.refl _)
   | (with_reducible exact LeO.none _)
   | (with_reducible refine LeO.ite ?_ ?_)
   | (with_reducible refine LeO.bind ?_ (fun _ => ?_))
   | exact ih0 _ _ _ _
   | exact LeO.none _
   | refine LeO.ite ?_ ?_
   | refine LeO.bind ?_ (fun _ => ?_)
set_option maxHeartbeats 8000000 in
set_option maxRecDepth 100000 in
theorem impl_CellsOk.calls (k : Nat) (A0 : Option Addr) (c0 : Nat) (l0 : List Int) (r : Bool) (w : World) (hr0 : Kd.C (Kd.int .i64) w A0 l0.length l0) (hc0 : l0.length ≤ c0) (h : impl_CellsOk.f k l0 = some r) :
  Calls Try.prog 27 #[.slice A0 l0.length c0] w fun e w' => e = .returned (.bool r) ∧ Drawn0 w w' := by
 have HR0 := Aside0.mk hr0
 have HC0 := Aside0.mk hc0
 clear hr0 hc0
 have H : (impl_CellsOk.l0 k l0 l0 (l0.length : Int) 0) = some r := h
 clear h
 have H' := Aside0.mk H
 clear H
 go_enter Try.func27, Try.ntmps27
 go_wp2
 go_loopg [7] k (fun kq v7 w' => ∃ (x7_1 : Int), v7 = .int .i64 x7_1 ∧ Aside0 (impl_CellsOk.l0 kq l0 l0 (l0.length : Int) x7_1 = some r) ∧ Aside0 (kq ≤ k) ∧ Drawn0 w w')
 case atStart => exact ⟨(0), SD, H', ⟨Nat.le_refl _⟩, by repeat (first | exact Drawn0.refl _ | apply Drawn0.step)⟩
 case round =>
  clear H'; obtain ⟨x7_1, rfl, HA, HK1, ⟨m1, rfl⟩⟩ := hrel; cases gk with
  | zero => exact absurd HA.out (by simp [impl_CellsOk.l0])
  | succ k1 =>
   have H := HA.out; clear HA; simp only [impl_CellsOk.l0] at H
   by_cases c2 : x7_1 < (l0.length : Int); rotate_left
   ·
    rw [if_neg c2] at H; have c2b0 : decide (x7_1 < (l0.length : Int)) = false := decide_eq_false c2; clear c2; replace H := Option.bind_eq_some_iff.mp H; obtain ⟨t172, A70, H⟩ := H; have A7 := Aside0.mk A70; clear A70; obtain rfl := Option.some.inj H
    go_wp2_with (first | ((with_reducible refine gate_callee (f := 60) rfl ?_); refine goesL_ (some 17) rfl rfl Try.func60 (by kernel_rfl) rfl #[.int .i64 (l0.length : Int), .int .i64 1, .int .i64 80] rfl (MA) ?_; (with_reducible refine (impl_within.calls (l0.length : Int) 1 80 t172 _ A7.out).mono ?_); rintro e w' ⟨rfl, ⟨nd, rfl⟩⟩; refine ⟨_, rfl, ?_⟩))
    go_ret
    exact ⟨by first | rfl | (simp; done) | (simp [*]; done), by repeat (first | exact Drawn0.refl _ | apply Drawn0.step)⟩
   rw [if_pos c2] at H; have c2b0 : decide (x7_1 < (l0.length : Int)) = true := decide_eq_true c2; clear c2
   by_cases c3 : 0 ≤ x7_1; rotate_left
   ·
    rw [if_neg c3] at H; exact absurd H (by simp)
   rw [if_pos c3] at H; have c3b0 : decide (0 ≤ x7_1) = true := decide_eq_true c3; clear c3
   by_cases c4 : x7_1 < (l0.length : Int); rotate_left
   ·
    rw [if_neg c4] at H; exact absurd H (by simp)
   rw [if_pos c4] at H; have c4b0 : decide (x7_1 < (l0.length : Int)) = true := decide_eq_true c4; clear c4; replace H := Option.bind_eq_some_iff.mp H; obtain ⟨t171, A50, H⟩ := H; have A5 := Aside0.mk A50; clear A50
   by_cases c6 : t171 = true; rotate_left
   ·
    replace c6 := Bool.eq_false_iff.mpr c6; subst c6
    have H1 : (some false) = some r := by rw [if_neg (show ¬ (false = true) by decide)] at H; exact H
    clear H; have H := H1; clear H1; obtain rfl := Option.some.inj H; have p170 : 0 ≤ (x7_1 : Int) := of_decide_eq_true AS; have q170 : x7_1 < (l0.length : Int) := of_decide_eq_true AS; obtain ⟨ad170, e170, hx170_0⟩ := Kd.at_int HR0.out x7_1 p170 q170; cases e170; replace p170 := eq_true p170; replace q170 := eq_true q170
    go_wp2_with (first | ((with_reducible refine gate_callee (f := 53) rfl ?_); refine goesL_ (some 12) rfl rfl Try.func53 (by kernel_rfl) rfl #[.int .i64 (rd l0 x7_1)] rfl (MA) ?_; (with_reducible refine (impl_isNumber.calls (rd l0 x7_1) false _ A5.out).mono ?_); rintro e w' ⟨rfl, ⟨nd, rfl⟩⟩; refine ⟨_, rfl, ?_⟩))
    go_ret
    exact ⟨by first | rfl | (simp; done) | (simp [*]; done), by repeat (first | exact Drawn0.refl _ | apply Drawn0.step)⟩
   subst c6
   have H1 : (impl_CellsOk.l0 k1 l0 l0 (l0.length : Int) (wrap64 (x7_1 + 1))) = some r := by rw [if_pos rfl] at H; exact H
   clear H; have H := H1; clear H1; have H' := Aside0.mk H; clear H; have p170 : 0 ≤ (x7_1 : Int) := of_decide_eq_true AS; have q170 : x7_1 < (l0.length : Int) := of_decide_eq_true AS; obtain ⟨ad170, e170, hx170_0⟩ := Kd.at_int HR0.out x7_1 p170 q170; cases e170; replace p170 := eq_true p170; replace q170 := eq_true q170
   go_wp2_with (first | ((with_reducible refine gate_callee (f := 53) rfl ?_); refine goesL_ (some 12) rfl rfl Try.func53 (by kernel_rfl) rfl #[.int .i64 (rd l0 x7_1)] rfl (MA) ?_; (with_reducible refine (impl_isNumber.calls (rd l0 x7_1) true _ A5.out).mono ?_); rintro e w' ⟨rfl, ⟨nd, rfl⟩⟩; refine ⟨_, rfl, ?_⟩))
   go_roundg k1
   case measure => have := HK1.out; omega
   case rel => exact ⟨(wrap64 (x7_1 + 1)), SD, H', ⟨by have := HK1.out; omega⟩, by repeat (first | exact Drawn0.refl _ | apply Drawn0.step)⟩

/-! ### impl_TaskOk: function 44 -/
def impl_TaskOk.j0 : Nat → Bool → Int → Int → Int → Int → Int → Int → Int → Int → Int → Bool → Int → Option (Bool)
 | 0, _, _, _, _, _, _, _, _, _, _, _, _ => none
 | k + 1, x3, x174000, x174001, x174002, x174003, x174004, x174005, x174006, x174007, x174008, x174009, x174010 => (impl_within.f x174005 0 20).bind fun t178 => (if t178 = true then ((impl_within.f x174006 0 20).bind fun t179 => (if t179 = true then ((impl_within.f x174007 0 20).bind fun t180 => (if x3 = true then ((impl_within.f x174004 0 6).bind fun t181 => (if t181 = true then (if t180 = true then ((impl_within.f x174008 0 1).bind fun t182 => (some t182)) else (some false)) else (some false))) else (some false))) else (if x3 = true then ((impl_within.f x174004 0 6).bind fun t183 => (if t183 = true then (some false) else (some false))) else (some false)))) else (if x3 = true then ((impl_within.f x174004 0 6).bind fun t184 => (if t184 = true then (some false) else (some false))) else (some false)))
def impl_TaskOk.f (k : Nat) (a0_0 : Int) (a0_1 : Int) (a0_2 : Int) (a0_3 : Int) (a0_4 : Int) (a0_5 : Int) (a0_6 : Int) (a0_7 : Int) (a0_8 : Int) (a0_9 : Bool) (a0_10 : Int) : Option (Bool) := (impl_within.f a0_0 1 3).bind fun t174 => (if t174 = true then ((impl_within.f a0_1 1 99).bind fun t175 => (if t175 = true then ((impl_within.f a0_2 0 99).bind fun t176 => (if t176 = true then ((impl_within.f a0_3 1 20).bind fun t177 => (impl_TaskOk.j0 k t177 a0_0 a0_1 a0_2 a0_3 a0_4 a0_5 a0_6 a0_7 a0_8 a0_9 a0_10)) else (impl_TaskOk.j0 k false a0_0 a0_1 a0_2 a0_3 a0_4 a0_5 a0_6 a0_7 a0_8 a0_9 a0_10))) else (impl_TaskOk.j0 k false a0_0 a0_1 a0_2 a0_3 a0_4 a0_5 a0_6 a0_7 a0_8 a0_9 a0_10))) else (impl_TaskOk.j0 k false a0_0 a0_1 a0_2 a0_3 a0_4 a0_5 a0_6 a0_7 a0_8 a0_9 a0_10))
theorem impl_TaskOk.mono_l : ∀ k, (∀ y0 y1 y2 y3 y4 y5 y6 y7 y8 y9 y10 y11, LeO (impl_TaskOk.j0 k y0 y1 y2 y3 y4 y5 y6 y7 y8 y9 y10 y11) (impl_TaskOk.j0 (k + 1) y0 y1 y2 y3 y4 y5 y6 y7 y8 y9 y10 y11))
 | 0 => fun _ _ _ _ _ _ _ _ _ _ _ _ r h => by simp [impl_TaskOk.j0] at h
 | k + 1 => by
  have ih0 := impl_TaskOk.mono_l k
  ·
   intro y0 y1 y2 y3 y4 y5 y6 y7 y8 y9 y10 y11
   unfold impl_TaskOk.j0
   repeat' first
   | (with_reducible exact ih0 _ _ _ _ _ _ _ _ _ _ _ _)
   | (with_reducible exact LeO.refl _)
   | (with_reducible exact LeO.none _)
   | (with_reducible refine LeO.ite ?_ ?_)
   | (with_reducible refine LeO.bind ?_ (fun _ => ?_))
   | exact ih0 _ _ _ _ _ _ _ _ _ _ _ _
   | exact LeO.none _
   | refine LeO.ite ?_ ?_
   | refine LeO.bind ?_ (fun _ => ?_)
theorem impl_TaskOk.mono : ∀ a0 a1 a2 a3 a4 a5 a6 a7 a8 a9 a10 k, LeO (impl_TaskOk.f k a0 a1 a2 a3 a4 a5 a6 a7 a8 a9 a10) (impl_TaskOk.f (k + 1) a0 a1 a2 a3 a4 a5 a6 a7 a8 a9 a10) := by
 intro a0 a1 a2 a3 a4 a5 a6 a7 a8 a9 a10 k
 have ih0 := impl_TaskOk.mono_l k
 unfold impl_TaskOk.f
 repeat' first
   | (with_reducible exact ih0 _ _ _ _ _ _ _ _ _ _ _ _)
   | (with_reducible exact LeO.refl _)
   | (with_reducible exact LeO.none _)
   | (with_reducible refine LeO.ite ?_ ?_)
   | (with_reducible refine LeO.bind ?_ (fun _ => ?_))
   | exact ih0 _ _ _ _ _ _ _ _ _ _ _ _
   | exact LeO.none _
   | refine LeO.ite ?_ ?_
   | refine LeO.bind ?_ (fun _ => ?_)
set_option maxHeartbeats 8000000 in
set_option maxRecDepth 100000 in
theorem impl_TaskOk.calls (k : Nat) (a0_0 : Int) (a0_1 : Int) (a0_2 : Int) (a0_3 : Int) (a0_4 : Int) (a0_5 : Int) (a0_6 : Int) (a0_7 : Int) (a0_8 : Int) (a0_9 : Bool) (a0_10 : Int) (r : Bool) (w : World) (h : impl_TaskOk.f k a0_0 a0_1 a0_2 a0_3 a0_4 a0_5 a0_6 a0_7 a0_8 a0_9 a0_10 = some r) :
  Calls Try.prog 44 #[.agg #[.int .i64 a0_0, .int .i64 a0_1, .int .i64 a0_2, .int .i64 a0_3, .int .i64 a0_4, .int .i64 a0_5, .int .i64 a0_6, .int .i64 a0_7, .int .i64 a0_8, .bool a0_9, .int .i64 a0_10]] w fun e w' => e = .returned (.bool r) ∧ Below w.heap.size w w' := by
 have hu46 := Try.underlying46
 have HB := Aside0.mk (Below.refl w.heap.size w)
 have H : ((impl_within.f a0_0 1 3).bind fun t174 => (if t174 = true then ((impl_within.f a0_1 1 99).bind fun t175 => (if t175 = true then ((impl_within.f a0_2 0 99).bind fun t176 => (if t176 = true then ((impl_within.f a0_3 1 20).bind fun t177 => (impl_TaskOk.j0 k t177 a0_0 a0_1 a0_2 a0_3 a0_4 a0_5 a0_6 a0_7 a0_8 a0_9 a0_10)) else (impl_TaskOk.j0 k false a0_0 a0_1 a0_2 a0_3 a0_4 a0_5 a0_6 a0_7 a0_8 a0_9 a0_10))) else (impl_TaskOk.j0 k false a0_0 a0_1 a0_2 a0_3 a0_4 a0_5 a0_6 a0_7 a0_8 a0_9 a0_10))) else (impl_TaskOk.j0 k false a0_0 a0_1 a0_2 a0_3 a0_4 a0_5 a0_6 a0_7 a0_8 a0_9 a0_10))) = some r := h
 clear h
 have HC2 := Aside0.mk H
 clear H
 go_enter Try.func44, Try.ntmps44
 go_upto_region 1 with (first | ((with_reducible refine gate_dst (N := 1) rfl ?_); refine bE 1 #[.int .i64 a0_0, .int .i64 a0_1, .int .i64 a0_2, .int .i64 a0_3, .int .i64 a0_4, .int .i64 a0_5, .int .i64 a0_6, .int .i64 a0_7, .int .i64 a0_8, .bool a0_9, .int .i64 a0_10] 46 ?_; intro gb173 hg w3 hbox hb; have BK173 := Aside0.mk (hbox); have GW173 : Aside0 (w.heap.size ≤ gb173) := GS; have GE173 := GW173; replace HB := Aside0.mk (below_step (BL) hb); clear hb hbox hg))
 (try simp only [Act.put, zA, zB, zC])
 go_cut [3] (fun v3 wc => ∃ (kq : Nat) (x3_1 : Bool), v3 = .bool x3_1 ∧ Aside0 (impl_TaskOk.j0 kq x3_1 a0_0 a0_1 a0_2 a0_3 a0_4 a0_5 a0_6 a0_7 a0_8 a0_9 a0_10 = some r) ∧ Aside0 (kq ≤ k) ∧ Aside0 (wc.heap[gb173]? = some (.cells #[.int .i64 a0_0, .int .i64 a0_1, .int .i64 a0_2, .int .i64 a0_3, .int .i64 a0_4, .int .i64 a0_5, .int .i64 a0_6, .int .i64 a0_7, .int .i64 a0_8, .bool a0_9, .int .i64 a0_10] 46 (0, 0))) ∧ Aside0 (Below w.heap.size w wc))
 case first =>
  have H := HC2.out; clear HC2; replace H := Option.bind_eq_some_iff.mp H; obtain ⟨t174, A40, H⟩ := H; have A4 := Aside0.mk A40; clear A40
  by_cases c5 : t174 = true; rotate_left
  ·
   replace c5 := Bool.eq_false_iff.mpr c5; subst c5
   have H1 : (impl_TaskOk.j0 k false a0_0 a0_1 a0_2 a0_3 a0_4 a0_5 a0_6 a0_7 a0_8 a0_9 a0_10) = some r := by rw [if_neg (show ¬ (false = true) by decide)] at H; exact H
   clear H; have H := H1; clear H1; have H' := Aside0.mk H; clear H; have hcz14_0 : w3.cell? ⟨gb173, 0, none⟩ = some (.int .i64 a0_0) := CZ BK173.out 0; have hcz14_1 : w3.cell? ⟨gb173, 1, none⟩ = some (.int .i64 a0_1) := CZ BK173.out 1; have hcz14_2 : w3.cell? ⟨gb173, 2, none⟩ = some (.int .i64 a0_2) := CZ BK173.out 2; have hcz14_3 : w3.cell? ⟨gb173, 3, none⟩ = some (.int .i64 a0_3) := CZ BK173.out 3; have hcz14_4 : w3.cell? ⟨gb173, 4, none⟩ = some (.int .i64 a0_4) := CZ BK173.out 4; have hcz14_5 : w3.cell? ⟨gb173, 5, none⟩ = some (.int .i64 a0_5) := CZ BK173.out 5; have hcz14_6 : w3.cell? ⟨gb173, 6, none⟩ = some (.int .i64 a0_6) := CZ BK173.out 6; have hcz14_7 : w3.cell? ⟨gb173, 7, none⟩ = some (.int .i64 a0_7) := CZ BK173.out 7; have hcz14_8 : w3.cell? ⟨gb173, 8, none⟩ = some (.int .i64 a0_8) := CZ BK173.out 8; have hcz14_9 : w3.cell? ⟨gb173, 9, none⟩ = some (.bool a0_9) := CZ BK173.out 9; have hcz14_10 : w3.cell? ⟨gb173, 10, none⟩ = some (.int .i64 a0_10) := CZ BK173.out 10; have hfz14_0 := blk_frozen BK173.out 0; have hfz14_1 := blk_frozen BK173.out 1; have hfz14_2 := blk_frozen BK173.out 2; have hfz14_3 := blk_frozen BK173.out 3; have hfz14_4 := blk_frozen BK173.out 4; have hfz14_5 := blk_frozen BK173.out 5; have hfz14_6 := blk_frozen BK173.out 6; have hfz14_7 := blk_frozen BK173.out 7; have hfz14_8 := blk_frozen BK173.out 8; have hfz14_9 := blk_frozen BK173.out 9; have hfz14_10 := blk_frozen BK173.out 10
   go_wp2_with (first | ((with_reducible refine gate_callee (f := 60) rfl ?_); refine goesL_ (some 7) rfl rfl Try.func60 (by kernel_rfl) rfl #[.int .i64 a0_0, .int .i64 1, .int .i64 3] rfl (MA) ?_; (with_reducible refine (impl_within.calls a0_0 1 3 false _ A4.out).mono ?_); rintro e w' ⟨rfl, ⟨nd, rfl⟩⟩; refine ⟨_, rfl, ?_⟩))
   go_meet
   case rel => exact ⟨_, (false), SD, H', ⟨by first | omega | exact Nat.le_refl _⟩, ⟨BQ BK173.out⟩, ⟨BL⟩⟩
  subst c5
  have H1 : ((impl_within.f a0_1 1 99).bind fun t175 => (if t175 = true then ((impl_within.f a0_2 0 99).bind fun t176 => (if t176 = true then ((impl_within.f a0_3 1 20).bind fun t177 => (impl_TaskOk.j0 k t177 a0_0 a0_1 a0_2 a0_3 a0_4 a0_5 a0_6 a0_7 a0_8 a0_9 a0_10)) else (impl_TaskOk.j0 k false a0_0 a0_1 a0_2 a0_3 a0_4 a0_5 a0_6 a0_7 a0_8 a0_9 a0_10))) else (impl_TaskOk.j0 k false a0_0 a0_1 a0_2 a0_3 a0_4 a0_5 a0_6 a0_7 a0_8 a0_9 a0_10))) = some r := by rw [if_pos rfl] at H; exact H
  clear H; have H := H1; clear H1; replace H := Option.bind_eq_some_iff.mp H; obtain ⟨t175, A60, H⟩ := H; have A6 := Aside0.mk A60; clear A60
  by_cases c7 : t175 = true; rotate_left
  ·
   replace c7 := Bool.eq_false_iff.mpr c7; subst c7
   have H1 : (impl_TaskOk.j0 k false a0_0 a0_1 a0_2 a0_3 a0_4 a0_5 a0_6 a0_7 a0_8 a0_9 a0_10) = some r := by rw [if_neg (show ¬ (false = true) by decide)] at H; exact H
   clear H; have H := H1; clear H1; have H' := Aside0.mk H; clear H; have hcz13_0 : w3.cell? ⟨gb173, 0, none⟩ = some (.int .i64 a0_0) := CZ BK173.out 0; have hcz13_1 : w3.cell? ⟨gb173, 1, none⟩ = some (.int .i64 a0_1) := CZ BK173.out 1; have hcz13_2 : w3.cell? ⟨gb173, 2, none⟩ = some (.int .i64 a0_2) := CZ BK173.out 2; have hcz13_3 : w3.cell? ⟨gb173, 3, none⟩ = some (.int .i64 a0_3) := CZ BK173.out 3; have hcz13_4 : w3.cell? ⟨gb173, 4, none⟩ = some (.int .i64 a0_4) := CZ BK173.out 4; have hcz13_5 : w3.cell? ⟨gb173, 5, none⟩ = some (.int .i64 a0_5) := CZ BK173.out 5; have hcz13_6 : w3.cell? ⟨gb173, 6, none⟩ = some (.int .i64 a0_6) := CZ BK173.out 6; have hcz13_7 : w3.cell? ⟨gb173, 7, none⟩ = some (.int .i64 a0_7) := CZ BK173.out 7; have hcz13_8 : w3.cell? ⟨gb173, 8, none⟩ = some (.int .i64 a0_8) := CZ BK173.out 8; have hcz13_9 : w3.cell? ⟨gb173, 9, none⟩ = some (.bool a0_9) := CZ BK173.out 9; have hcz13_10 : w3.cell? ⟨gb173, 10, none⟩ = some (.int .i64 a0_10) := CZ BK173.out 10; have hfz13_0 := blk_frozen BK173.out 0; have hfz13_1 := blk_frozen BK173.out 1; have hfz13_2 := blk_frozen BK173.out 2; have hfz13_3 := blk_frozen BK173.out 3; have hfz13_4 := blk_frozen BK173.out 4; have hfz13_5 := blk_frozen BK173.out 5; have hfz13_6 := blk_frozen BK173.out 6; have hfz13_7 := blk_frozen BK173.out 7; have hfz13_8 := blk_frozen BK173.out 8; have hfz13_9 := blk_frozen BK173.out 9; have hfz13_10 := blk_frozen BK173.out 10
   go_wp2_with (first | ((with_reducible refine gate_callee (f := 60) rfl ?_); refine goesL_ (some 7) rfl rfl Try.func60 (by kernel_rfl) rfl #[.int .i64 a0_0, .int .i64 1, .int .i64 3] rfl (MA) ?_; (with_reducible refine (impl_within.calls a0_0 1 3 true _ A4.out).mono ?_); rintro e w' ⟨rfl, ⟨nd, rfl⟩⟩; refine ⟨_, rfl, ?_⟩) | (go_at_call 60; (with_reducible refine (impl_within.calls a0_1 1 99 false _ A6.out).mono ?_); rintro e w' ⟨rfl, ⟨nd, rfl⟩⟩))
   go_meet
   case rel => exact ⟨_, (false), SD, H', ⟨by first | omega | exact Nat.le_refl _⟩, ⟨BQ BK173.out⟩, ⟨BL⟩⟩
  subst c7
  have H1 : ((impl_within.f a0_2 0 99).bind fun t176 => (if t176 = true then ((impl_within.f a0_3 1 20).bind fun t177 => (impl_TaskOk.j0 k t177 a0_0 a0_1 a0_2 a0_3 a0_4 a0_5 a0_6 a0_7 a0_8 a0_9 a0_10)) else (impl_TaskOk.j0 k false a0_0 a0_1 a0_2 a0_3 a0_4 a0_5 a0_6 a0_7 a0_8 a0_9 a0_10))) = some r := by rw [if_pos rfl] at H; exact H
  clear H; have H := H1; clear H1; replace H := Option.bind_eq_some_iff.mp H; obtain ⟨t176, A80, H⟩ := H; have A8 := Aside0.mk A80; clear A80
  by_cases c9 : t176 = true; rotate_left
  ·
   replace c9 := Bool.eq_false_iff.mpr c9; subst c9
   have H1 : (impl_TaskOk.j0 k false a0_0 a0_1 a0_2 a0_3 a0_4 a0_5 a0_6 a0_7 a0_8 a0_9 a0_10) = some r := by rw [if_neg (show ¬ (false = true) by decide)] at H; exact H
   clear H; have H := H1; clear H1; have H' := Aside0.mk H; clear H; have hcz12_0 : w3.cell? ⟨gb173, 0, none⟩ = some (.int .i64 a0_0) := CZ BK173.out 0; have hcz12_1 : w3.cell? ⟨gb173, 1, none⟩ = some (.int .i64 a0_1) := CZ BK173.out 1; have hcz12_2 : w3.cell? ⟨gb173, 2, none⟩ = some (.int .i64 a0_2) := CZ BK173.out 2; have hcz12_3 : w3.cell? ⟨gb173, 3, none⟩ = some (.int .i64 a0_3) := CZ BK173.out 3; have hcz12_4 : w3.cell? ⟨gb173, 4, none⟩ = some (.int .i64 a0_4) := CZ BK173.out 4; have hcz12_5 : w3.cell? ⟨gb173, 5, none⟩ = some (.int .i64 a0_5) := CZ BK173.out 5; have hcz12_6 : w3.cell? ⟨gb173, 6, none⟩ = some (.int .i64 a0_6) := CZ BK173.out 6; have hcz12_7 : w3.cell? ⟨gb173, 7, none⟩ = some (.int .i64 a0_7) := CZ BK173.out 7; have hcz12_8 : w3.cell? ⟨gb173, 8, none⟩ = some (.int .i64 a0_8) := CZ BK173.out 8; have hcz12_9 : w3.cell? ⟨gb173, 9, none⟩ = some (.bool a0_9) := CZ BK173.out 9; have hcz12_10 : w3.cell? ⟨gb173, 10, none⟩ = some (.int .i64 a0_10) := CZ BK173.out 10; have hfz12_0 := blk_frozen BK173.out 0; have hfz12_1 := blk_frozen BK173.out 1; have hfz12_2 := blk_frozen BK173.out 2; have hfz12_3 := blk_frozen BK173.out 3; have hfz12_4 := blk_frozen BK173.out 4; have hfz12_5 := blk_frozen BK173.out 5; have hfz12_6 := blk_frozen BK173.out 6; have hfz12_7 := blk_frozen BK173.out 7; have hfz12_8 := blk_frozen BK173.out 8; have hfz12_9 := blk_frozen BK173.out 9; have hfz12_10 := blk_frozen BK173.out 10
   go_wp2_with (first | ((with_reducible refine gate_callee (f := 60) rfl ?_); refine goesL_ (some 7) rfl rfl Try.func60 (by kernel_rfl) rfl #[.int .i64 a0_0, .int .i64 1, .int .i64 3] rfl (MA) ?_; (with_reducible refine (impl_within.calls a0_0 1 3 true _ A4.out).mono ?_); rintro e w' ⟨rfl, ⟨nd, rfl⟩⟩; refine ⟨_, rfl, ?_⟩) | (go_at_call 60; (with_reducible refine (impl_within.calls a0_1 1 99 true _ A6.out).mono ?_); rintro e w' ⟨rfl, ⟨nd, rfl⟩⟩) | (go_at_call 60; (with_reducible refine (impl_within.calls a0_2 0 99 false _ A8.out).mono ?_); rintro e w' ⟨rfl, ⟨nd, rfl⟩⟩))
   go_meet
   case rel => exact ⟨_, (false), SD, H', ⟨by first | omega | exact Nat.le_refl _⟩, ⟨BQ BK173.out⟩, ⟨BL⟩⟩
  subst c9
  have H1 : ((impl_within.f a0_3 1 20).bind fun t177 => (impl_TaskOk.j0 k t177 a0_0 a0_1 a0_2 a0_3 a0_4 a0_5 a0_6 a0_7 a0_8 a0_9 a0_10)) = some r := by rw [if_pos rfl] at H; exact H
  clear H; have H := H1; clear H1; replace H := Option.bind_eq_some_iff.mp H; obtain ⟨t177, A100, H⟩ := H; have A10 := Aside0.mk A100; clear A100; have H' := Aside0.mk H; clear H; have hcz11_0 : w3.cell? ⟨gb173, 0, none⟩ = some (.int .i64 a0_0) := CZ BK173.out 0; have hcz11_1 : w3.cell? ⟨gb173, 1, none⟩ = some (.int .i64 a0_1) := CZ BK173.out 1; have hcz11_2 : w3.cell? ⟨gb173, 2, none⟩ = some (.int .i64 a0_2) := CZ BK173.out 2; have hcz11_3 : w3.cell? ⟨gb173, 3, none⟩ = some (.int .i64 a0_3) := CZ BK173.out 3; have hcz11_4 : w3.cell? ⟨gb173, 4, none⟩ = some (.int .i64 a0_4) := CZ BK173.out 4; have hcz11_5 : w3.cell? ⟨gb173, 5, none⟩ = some (.int .i64 a0_5) := CZ BK173.out 5; have hcz11_6 : w3.cell? ⟨gb173, 6, none⟩ = some (.int .i64 a0_6) := CZ BK173.out 6; have hcz11_7 : w3.cell? ⟨gb173, 7, none⟩ = some (.int .i64 a0_7) := CZ BK173.out 7; have hcz11_8 : w3.cell? ⟨gb173, 8, none⟩ = some (.int .i64 a0_8) := CZ BK173.out 8; have hcz11_9 : w3.cell? ⟨gb173, 9, none⟩ = some (.bool a0_9) := CZ BK173.out 9; have hcz11_10 : w3.cell? ⟨gb173, 10, none⟩ = some (.int .i64 a0_10) := CZ BK173.out 10; have hfz11_0 := blk_frozen BK173.out 0; have hfz11_1 := blk_frozen BK173.out 1; have hfz11_2 := blk_frozen BK173.out 2; have hfz11_3 := blk_frozen BK173.out 3; have hfz11_4 := blk_frozen BK173.out 4; have hfz11_5 := blk_frozen BK173.out 5; have hfz11_6 := blk_frozen BK173.out 6; have hfz11_7 := blk_frozen BK173.out 7; have hfz11_8 := blk_frozen BK173.out 8; have hfz11_9 := blk_frozen BK173.out 9; have hfz11_10 := blk_frozen BK173.out 10
  go_wp2_with (first | ((with_reducible refine gate_callee (f := 60) rfl ?_); refine goesL_ (some 7) rfl rfl Try.func60 (by kernel_rfl) rfl #[.int .i64 a0_0, .int .i64 1, .int .i64 3] rfl (MA) ?_; (with_reducible refine (impl_within.calls a0_0 1 3 true _ A4.out).mono ?_); rintro e w' ⟨rfl, ⟨nd, rfl⟩⟩; refine ⟨_, rfl, ?_⟩) | (go_at_call 60; (with_reducible refine (impl_within.calls a0_1 1 99 true _ A6.out).mono ?_); rintro e w' ⟨rfl, ⟨nd, rfl⟩⟩) | (go_at_call 60; (with_reducible refine (impl_within.calls a0_2 0 99 true _ A8.out).mono ?_); rintro e w' ⟨rfl, ⟨nd, rfl⟩⟩) | (go_at_call 60; (with_reducible refine (impl_within.calls a0_3 1 20 t177 _ A10.out).mono ?_); rintro e w' ⟨rfl, ⟨nd, rfl⟩⟩))
  go_meet
  case rel => exact ⟨_, (t177), SD, H', ⟨by first | omega | exact Nat.le_refl _⟩, ⟨BQ BK173.out⟩, ⟨BL⟩⟩
 case rest =>
  clear HC2
  try clear p2 c4 c5 c6 c7 c9 hcz11_0 hcz11_1 hcz11_10 hcz11_2 hcz11_3 hcz11_4 hcz11_5 hcz11_6 hcz11_7 hcz11_8 hcz11_9 hcz12_0 hcz12_1 hcz12_10 hcz12_2 hcz12_3 hcz12_4 hcz12_5 hcz12_6 hcz12_7 hcz12_8 hcz12_9 hcz13_0 hcz13_1 hcz13_10 hcz13_2 hcz13_3 hcz13_4 hcz13_5 hcz13_6 hcz13_7 hcz13_8 hcz13_9 hcz14_0 hcz14_1 hcz14_10 hcz14_2 hcz14_3 hcz14_4 hcz14_5 hcz14_6 hcz14_7 hcz14_8 hcz14_9 hfz11_0 hfz11_1 hfz11_10 hfz11_2 hfz11_3 hfz11_4 hfz11_5 hfz11_6 hfz11_7 hfz11_8 hfz11_9 hfz12_0 hfz12_1 hfz12_10 hfz12_2 hfz12_3 hfz12_4 hfz12_5 hfz12_6 hfz12_7 hfz12_8 hfz12_9 hfz13_0 hfz13_1 hfz13_10 hfz13_2 hfz13_3 hfz13_4 hfz13_5 hfz13_6 hfz13_7 hfz13_8 hfz13_9 hfz14_0 hfz14_1 hfz14_10 hfz14_2 hfz14_3 hfz14_4 hfz14_5 hfz14_6 hfz14_7 hfz14_8 hfz14_9
  obtain ⟨kq, x3_1, rfl, HA, HJ1, BK173, HB⟩ := hcut; cases kq with
  | zero => exact absurd HA.out (by simp [impl_TaskOk.j0])
  | succ kj1 =>
   have H := HA.out; clear HA; simp only [impl_TaskOk.j0] at H; replace H := Option.bind_eq_some_iff.mp H; obtain ⟨t178, A150, H⟩ := H; have A15 := Aside0.mk A150; clear A150
   by_cases c16 : t178 = true; rotate_left
   ·
    replace c16 := Bool.eq_false_iff.mpr c16; subst c16
    have H1 : (if x3_1 = true then ((impl_within.f a0_4 0 6).bind fun t184 => (if t184 = true then (some false) else (some false))) else (some false)) = some r := by rw [if_neg (show ¬ (false = true) by decide)] at H; exact H
    clear H; have H := H1; clear H1
    by_cases c35 : x3_1 = true; rotate_left
    ·
     replace c35 := Bool.eq_false_iff.mpr c35; subst c35
     have H1 : (some false) = some r := by rw [if_neg (show ¬ (false = true) by decide)] at H; exact H
     clear H; have H := H1; clear H1; obtain rfl := Option.some.inj H; have hcz40_0 : wc.cell? ⟨gb173, 0, none⟩ = some (.int .i64 a0_0) := CZ BK173.out 0; have hcz40_1 : wc.cell? ⟨gb173, 1, none⟩ = some (.int .i64 a0_1) := CZ BK173.out 1; have hcz40_2 : wc.cell? ⟨gb173, 2, none⟩ = some (.int .i64 a0_2) := CZ BK173.out 2; have hcz40_3 : wc.cell? ⟨gb173, 3, none⟩ = some (.int .i64 a0_3) := CZ BK173.out 3; have hcz40_4 : wc.cell? ⟨gb173, 4, none⟩ = some (.int .i64 a0_4) := CZ BK173.out 4; have hcz40_5 : wc.cell? ⟨gb173, 5, none⟩ = some (.int .i64 a0_5) := CZ BK173.out 5; have hcz40_6 : wc.cell? ⟨gb173, 6, none⟩ = some (.int .i64 a0_6) := CZ BK173.out 6; have hcz40_7 : wc.cell? ⟨gb173, 7, none⟩ = some (.int .i64 a0_7) := CZ BK173.out 7; have hcz40_8 : wc.cell? ⟨gb173, 8, none⟩ = some (.int .i64 a0_8) := CZ BK173.out 8; have hcz40_9 : wc.cell? ⟨gb173, 9, none⟩ = some (.bool a0_9) := CZ BK173.out 9; have hcz40_10 : wc.cell? ⟨gb173, 10, none⟩ = some (.int .i64 a0_10) := CZ BK173.out 10; have hfz40_0 := blk_frozen BK173.out 0; have hfz40_1 := blk_frozen BK173.out 1; have hfz40_2 := blk_frozen BK173.out 2; have hfz40_3 := blk_frozen BK173.out 3; have hfz40_4 := blk_frozen BK173.out 4; have hfz40_5 := blk_frozen BK173.out 5; have hfz40_6 := blk_frozen BK173.out 6; have hfz40_7 := blk_frozen BK173.out 7; have hfz40_8 := blk_frozen BK173.out 8; have hfz40_9 := blk_frozen BK173.out 9; have hfz40_10 := blk_frozen BK173.out 10
     go_wp2_with (first | ((with_reducible refine gate_callee (f := 60) rfl ?_); refine goesL_ (some 25) rfl rfl Try.func60 (by kernel_rfl) rfl #[.int .i64 a0_5, .int .i64 0, .int .i64 20] rfl (MA) ?_; (with_reducible refine (impl_within.calls a0_5 0 20 false _ A15.out).mono ?_); rintro e w' ⟨rfl, ⟨nd, rfl⟩⟩; refine ⟨_, rfl, ?_⟩))
     go_ret
     exact ⟨EE, BL⟩
    subst c35
    have H1 : ((impl_within.f a0_4 0 6).bind fun t184 => (if t184 = true then (some false) else (some false))) = some r := by rw [if_pos rfl] at H; exact H
    clear H; have H := H1; clear H1; replace H := Option.bind_eq_some_iff.mp H; obtain ⟨t184, A360, H⟩ := H; have A36 := Aside0.mk A360; clear A360
    by_cases c37 : t184 = true
    ·
     subst c37
     have H1 : (some false) = some r := by rw [if_pos rfl] at H; exact H
     clear H; have H := H1; clear H1; obtain rfl := Option.some.inj H; have hcz38_0 : wc.cell? ⟨gb173, 0, none⟩ = some (.int .i64 a0_0) := CZ BK173.out 0; have hcz38_1 : wc.cell? ⟨gb173, 1, none⟩ = some (.int .i64 a0_1) := CZ BK173.out 1; have hcz38_2 : wc.cell? ⟨gb173, 2, none⟩ = some (.int .i64 a0_2) := CZ BK173.out 2; have hcz38_3 : wc.cell? ⟨gb173, 3, none⟩ = some (.int .i64 a0_3) := CZ BK173.out 3; have hcz38_4 : wc.cell? ⟨gb173, 4, none⟩ = some (.int .i64 a0_4) := CZ BK173.out 4; have hcz38_5 : wc.cell? ⟨gb173, 5, none⟩ = some (.int .i64 a0_5) := CZ BK173.out 5; have hcz38_6 : wc.cell? ⟨gb173, 6, none⟩ = some (.int .i64 a0_6) := CZ BK173.out 6; have hcz38_7 : wc.cell? ⟨gb173, 7, none⟩ = some (.int .i64 a0_7) := CZ BK173.out 7; have hcz38_8 : wc.cell? ⟨gb173, 8, none⟩ = some (.int .i64 a0_8) := CZ BK173.out 8; have hcz38_9 : wc.cell? ⟨gb173, 9, none⟩ = some (.bool a0_9) := CZ BK173.out 9; have hcz38_10 : wc.cell? ⟨gb173, 10, none⟩ = some (.int .i64 a0_10) := CZ BK173.out 10; have hfz38_0 := blk_frozen BK173.out 0; have hfz38_1 := blk_frozen BK173.out 1; have hfz38_2 := blk_frozen BK173.out 2; have hfz38_3 := blk_frozen BK173.out 3; have hfz38_4 := blk_frozen BK173.out 4; have hfz38_5 := blk_frozen BK173.out 5; have hfz38_6 := blk_frozen BK173.out 6; have hfz38_7 := blk_frozen BK173.out 7; have hfz38_8 := blk_frozen BK173.out 8; have hfz38_9 := blk_frozen BK173.out 9; have hfz38_10 := blk_frozen BK173.out 10
     go_wp2_with (first | ((with_reducible refine gate_callee (f := 60) rfl ?_); refine goesL_ (some 25) rfl rfl Try.func60 (by kernel_rfl) rfl #[.int .i64 a0_5, .int .i64 0, .int .i64 20] rfl (MA) ?_; (with_reducible refine (impl_within.calls a0_5 0 20 false _ A15.out).mono ?_); rintro e w' ⟨rfl, ⟨nd, rfl⟩⟩; refine ⟨_, rfl, ?_⟩) | (go_at_call 60; (with_reducible refine (impl_within.calls a0_4 0 6 true _ A36.out).mono ?_); rintro e w' ⟨rfl, ⟨nd, rfl⟩⟩))
     go_ret
     exact ⟨EE, BL⟩
    replace c37 := Bool.eq_false_iff.mpr c37; subst c37
    have H1 : (some false) = some r := by rw [if_neg (show ¬ (false = true) by decide)] at H; exact H
    clear H; have H := H1; clear H1; obtain rfl := Option.some.inj H; have hcz39_0 : wc.cell? ⟨gb173, 0, none⟩ = some (.int .i64 a0_0) := CZ BK173.out 0; have hcz39_1 : wc.cell? ⟨gb173, 1, none⟩ = some (.int .i64 a0_1) := CZ BK173.out 1; have hcz39_2 : wc.cell? ⟨gb173, 2, none⟩ = some (.int .i64 a0_2) := CZ BK173.out 2; have hcz39_3 : wc.cell? ⟨gb173, 3, none⟩ = some (.int .i64 a0_3) := CZ BK173.out 3; have hcz39_4 : wc.cell? ⟨gb173, 4, none⟩ = some (.int .i64 a0_4) := CZ BK173.out 4; have hcz39_5 : wc.cell? ⟨gb173, 5, none⟩ = some (.int .i64 a0_5) := CZ BK173.out 5; have hcz39_6 : wc.cell? ⟨gb173, 6, none⟩ = some (.int .i64 a0_6) := CZ BK173.out 6; have hcz39_7 : wc.cell? ⟨gb173, 7, none⟩ = some (.int .i64 a0_7) := CZ BK173.out 7; have hcz39_8 : wc.cell? ⟨gb173, 8, none⟩ = some (.int .i64 a0_8) := CZ BK173.out 8; have hcz39_9 : wc.cell? ⟨gb173, 9, none⟩ = some (.bool a0_9) := CZ BK173.out 9; have hcz39_10 : wc.cell? ⟨gb173, 10, none⟩ = some (.int .i64 a0_10) := CZ BK173.out 10; have hfz39_0 := blk_frozen BK173.out 0; have hfz39_1 := blk_frozen BK173.out 1; have hfz39_2 := blk_frozen BK173.out 2; have hfz39_3 := blk_frozen BK173.out 3; have hfz39_4 := blk_frozen BK173.out 4; have hfz39_5 := blk_frozen BK173.out 5; have hfz39_6 := blk_frozen BK173.out 6; have hfz39_7 := blk_frozen BK173.out 7; have hfz39_8 := blk_frozen BK173.out 8; have hfz39_9 := blk_frozen BK173.out 9; have hfz39_10 := blk_frozen BK173.out 10
    go_wp2_with (first | ((with_reducible refine gate_callee (f := 60) rfl ?_); refine goesL_ (some 25) rfl rfl Try.func60 (by kernel_rfl) rfl #[.int .i64 a0_5, .int .i64 0, .int .i64 20] rfl (MA) ?_; (with_reducible refine (impl_within.calls a0_5 0 20 false _ A15.out).mono ?_); rintro e w' ⟨rfl, ⟨nd, rfl⟩⟩; refine ⟨_, rfl, ?_⟩) | (go_at_call 60; (with_reducible refine (impl_within.calls a0_4 0 6 false _ A36.out).mono ?_); rintro e w' ⟨rfl, ⟨nd, rfl⟩⟩))
    go_ret
    exact ⟨EE, BL⟩
   subst c16
   have H1 : ((impl_within.f a0_6 0 20).bind fun t179 => (if t179 = true then ((impl_within.f a0_7 0 20).bind fun t180 => (if x3_1 = true then ((impl_within.f a0_4 0 6).bind fun t181 => (if t181 = true then (if t180 = true then ((impl_within.f a0_8 0 1).bind fun t182 => (some t182)) else (some false)) else (some false))) else (some false))) else (if x3_1 = true then ((impl_within.f a0_4 0 6).bind fun t183 => (if t183 = true then (some false) else (some false))) else (some false)))) = some r := by rw [if_pos rfl] at H; exact H
   clear H; have H := H1; clear H1; replace H := Option.bind_eq_some_iff.mp H; obtain ⟨t179, A170, H⟩ := H; have A17 := Aside0.mk A170; clear A170
   by_cases c18 : t179 = true; rotate_left
   ·
    replace c18 := Bool.eq_false_iff.mpr c18; subst c18
    have H1 : (if x3_1 = true then ((impl_within.f a0_4 0 6).bind fun t183 => (if t183 = true then (some false) else (some false))) else (some false)) = some r := by rw [if_neg (show ¬ (false = true) by decide)] at H; exact H
    clear H; have H := H1; clear H1
    by_cases c29 : x3_1 = true; rotate_left
    ·
     replace c29 := Bool.eq_false_iff.mpr c29; subst c29
     have H1 : (some false) = some r := by rw [if_neg (show ¬ (false = true) by decide)] at H; exact H
     clear H; have H := H1; clear H1; obtain rfl := Option.some.inj H; have hcz34_0 : wc.cell? ⟨gb173, 0, none⟩ = some (.int .i64 a0_0) := CZ BK173.out 0; have hcz34_1 : wc.cell? ⟨gb173, 1, none⟩ = some (.int .i64 a0_1) := CZ BK173.out 1; have hcz34_2 : wc.cell? ⟨gb173, 2, none⟩ = some (.int .i64 a0_2) := CZ BK173.out 2; have hcz34_3 : wc.cell? ⟨gb173, 3, none⟩ = some (.int .i64 a0_3) := CZ BK173.out 3; have hcz34_4 : wc.cell? ⟨gb173, 4, none⟩ = some (.int .i64 a0_4) := CZ BK173.out 4; have hcz34_5 : wc.cell? ⟨gb173, 5, none⟩ = some (.int .i64 a0_5) := CZ BK173.out 5; have hcz34_6 : wc.cell? ⟨gb173, 6, none⟩ = some (.int .i64 a0_6) := CZ BK173.out 6; have hcz34_7 : wc.cell? ⟨gb173, 7, none⟩ = some (.int .i64 a0_7) := CZ BK173.out 7; have hcz34_8 : wc.cell? ⟨gb173, 8, none⟩ = some (.int .i64 a0_8) := CZ BK173.out 8; have hcz34_9 : wc.cell? ⟨gb173, 9, none⟩ = some (.bool a0_9) := CZ BK173.out 9; have hcz34_10 : wc.cell? ⟨gb173, 10, none⟩ = some (.int .i64 a0_10) := CZ BK173.out 10; have hfz34_0 := blk_frozen BK173.out 0; have hfz34_1 := blk_frozen BK173.out 1; have hfz34_2 := blk_frozen BK173.out 2; have hfz34_3 := blk_frozen BK173.out 3; have hfz34_4 := blk_frozen BK173.out 4; have hfz34_5 := blk_frozen BK173.out 5; have hfz34_6 := blk_frozen BK173.out 6; have hfz34_7 := blk_frozen BK173.out 7; have hfz34_8 := blk_frozen BK173.out 8; have hfz34_9 := blk_frozen BK173.out 9; have hfz34_10 := blk_frozen BK173.out 10
     go_wp2_with (first | ((with_reducible refine gate_callee (f := 60) rfl ?_); refine goesL_ (some 25) rfl rfl Try.func60 (by kernel_rfl) rfl #[.int .i64 a0_5, .int .i64 0, .int .i64 20] rfl (MA) ?_; (with_reducible refine (impl_within.calls a0_5 0 20 true _ A15.out).mono ?_); rintro e w' ⟨rfl, ⟨nd, rfl⟩⟩; refine ⟨_, rfl, ?_⟩) | (go_at_call 60; (with_reducible refine (impl_within.calls a0_6 0 20 false _ A17.out).mono ?_); rintro e w' ⟨rfl, ⟨nd, rfl⟩⟩))
     go_ret
     exact ⟨EE, BL⟩
    subst c29
    have H1 : ((impl_within.f a0_4 0 6).bind fun t183 => (if t183 = true then (some false) else (some false))) = some r := by rw [if_pos rfl] at H; exact H
    clear H; have H := H1; clear H1; replace H := Option.bind_eq_some_iff.mp H; obtain ⟨t183, A300, H⟩ := H; have A30 := Aside0.mk A300; clear A300
    by_cases c31 : t183 = true
    ·
     subst c31
     have H1 : (some false) = some r := by rw [if_pos rfl] at H; exact H
     clear H; have H := H1; clear H1; obtain rfl := Option.some.inj H; have hcz32_0 : wc.cell? ⟨gb173, 0, none⟩ = some (.int .i64 a0_0) := CZ BK173.out 0; have hcz32_1 : wc.cell? ⟨gb173, 1, none⟩ = some (.int .i64 a0_1) := CZ BK173.out 1; have hcz32_2 : wc.cell? ⟨gb173, 2, none⟩ = some (.int .i64 a0_2) := CZ BK173.out 2; have hcz32_3 : wc.cell? ⟨gb173, 3, none⟩ = some (.int .i64 a0_3) := CZ BK173.out 3; have hcz32_4 : wc.cell? ⟨gb173, 4, none⟩ = some (.int .i64 a0_4) := CZ BK173.out 4; have hcz32_5 : wc.cell? ⟨gb173, 5, none⟩ = some (.int .i64 a0_5) := CZ BK173.out 5; have hcz32_6 : wc.cell? ⟨gb173, 6, none⟩ = some (.int .i64 a0_6) := CZ BK173.out 6; have hcz32_7 : wc.cell? ⟨gb173, 7, none⟩ = some (.int .i64 a0_7) := CZ BK173.out 7; have hcz32_8 : wc.cell? ⟨gb173, 8, none⟩ = some (.int .i64 a0_8) := CZ BK173.out 8; have hcz32_9 : wc.cell? ⟨gb173, 9, none⟩ = some (.bool a0_9) := CZ BK173.out 9; have hcz32_10 : wc.cell? ⟨gb173, 10, none⟩ = some (.int .i64 a0_10) := CZ BK173.out 10; have hfz32_0 := blk_frozen BK173.out 0; have hfz32_1 := blk_frozen BK173.out 1; have hfz32_2 := blk_frozen BK173.out 2; have hfz32_3 := blk_frozen BK173.out 3; have hfz32_4 := blk_frozen BK173.out 4; have hfz32_5 := blk_frozen BK173.out 5; have hfz32_6 := blk_frozen BK173.out 6; have hfz32_7 := blk_frozen BK173.out 7; have hfz32_8 := blk_frozen BK173.out 8; have hfz32_9 := blk_frozen BK173.out 9; have hfz32_10 := blk_frozen BK173.out 10
     go_wp2_with (first | ((with_reducible refine gate_callee (f := 60) rfl ?_); refine goesL_ (some 25) rfl rfl Try.func60 (by kernel_rfl) rfl #[.int .i64 a0_5, .int .i64 0, .int .i64 20] rfl (MA) ?_; (with_reducible refine (impl_within.calls a0_5 0 20 true _ A15.out).mono ?_); rintro e w' ⟨rfl, ⟨nd, rfl⟩⟩; refine ⟨_, rfl, ?_⟩) | (go_at_call 60; (with_reducible refine (impl_within.calls a0_6 0 20 false _ A17.out).mono ?_); rintro e w' ⟨rfl, ⟨nd, rfl⟩⟩) | (go_at_call 60; (with_reducible refine (impl_within.calls a0_4 0 6 true _ A30.out).mono ?_); rintro e w' ⟨rfl, ⟨nd, rfl⟩⟩))
     go_ret
     exact ⟨EE, BL⟩
    replace c31 := Bool.eq_false_iff.mpr c31; subst c31
    have H1 : (some false) = some r := by rw [if_neg (show ¬ (false = true) by decide)] at H; exact H
    clear H; have H := H1; clear H1; obtain rfl := Option.some.inj H; have hcz33_0 : wc.cell? ⟨gb173, 0, none⟩ = some (.int .i64 a0_0) := CZ BK173.out 0; have hcz33_1 : wc.cell? ⟨gb173, 1, none⟩ = some (.int .i64 a0_1) := CZ BK173.out 1; have hcz33_2 : wc.cell? ⟨gb173, 2, none⟩ = some (.int .i64 a0_2) := CZ BK173.out 2; have hcz33_3 : wc.cell? ⟨gb173, 3, none⟩ = some (.int .i64 a0_3) := CZ BK173.out 3; have hcz33_4 : wc.cell? ⟨gb173, 4, none⟩ = some (.int .i64 a0_4) := CZ BK173.out 4; have hcz33_5 : wc.cell? ⟨gb173, 5, none⟩ = some (.int .i64 a0_5) := CZ BK173.out 5; have hcz33_6 : wc.cell? ⟨gb173, 6, none⟩ = some (.int .i64 a0_6) := CZ BK173.out 6; have hcz33_7 : wc.cell? ⟨gb173, 7, none⟩ = some (.int .i64 a0_7) := CZ BK173.out 7; have hcz33_8 : wc.cell? ⟨gb173, 8, none⟩ = some (.int .i64 a0_8) := CZ BK173.out 8; have hcz33_9 : wc.cell? ⟨gb173, 9, none⟩ = some (.bool a0_9) := CZ BK173.out 9; have hcz33_10 : wc.cell? ⟨gb173, 10, none⟩ = some (.int .i64 a0_10) := CZ BK173.out 10; have hfz33_0 := blk_frozen BK173.out 0; have hfz33_1 := blk_frozen BK173.out 1; have hfz33_2 := blk_frozen BK173.out 2; have hfz33_3 := blk_frozen BK173.out 3; have hfz33_4 := blk_frozen BK173.out 4; have hfz33_5 := blk_frozen BK173.out 5; have hfz33_6 := blk_frozen BK173.out 6; have hfz33_7 := blk_frozen BK173.out 7; have hfz33_8 := blk_frozen BK173.out 8; have hfz33_9 := blk_frozen BK173.out 9; have hfz33_10 := blk_frozen BK173.out 10
    go_wp2_with (first | ((with_reducible refine gate_callee (f := 60) rfl ?_); refine goesL_ (some 25) rfl rfl Try.func60 (by kernel_rfl) rfl #[.int .i64 a0_5, .int .i64 0, .int .i64 20] rfl (MA) ?_; (with_reducible refine (impl_within.calls a0_5 0 20 true _ A15.out).mono ?_); rintro e w' ⟨rfl, ⟨nd, rfl⟩⟩; refine ⟨_, rfl, ?_⟩) | (go_at_call 60; (with_reducible refine (impl_within.calls a0_6 0 20 false _ A17.out).mono ?_); rintro e w' ⟨rfl, ⟨nd, rfl⟩⟩) | (go_at_call 60; (with_reducible refine (impl_within.calls a0_4 0 6 false _ A30.out).mono ?_); rintro e w' ⟨rfl, ⟨nd, rfl⟩⟩))
    go_ret
    exact ⟨EE, BL⟩
   subst c18
   have H1 : ((impl_within.f a0_7 0 20).bind fun t180 => (if x3_1 = true then ((impl_within.f a0_4 0 6).bind fun t181 => (if t181 = true then (if t180 = true then ((impl_within.f a0_8 0 1).bind fun t182 => (some t182)) else (some false)) else (some false))) else (some false))) = some r := by rw [if_pos rfl] at H; exact H
   clear H; have H := H1; clear H1; replace H := Option.bind_eq_some_iff.mp H; obtain ⟨t180, A190, H⟩ := H; have A19 := Aside0.mk A190; clear A190
   by_cases c20 : x3_1 = true; rotate_left
   ·
    replace c20 := Bool.eq_false_iff.mpr c20; subst c20
    have H1 : (some false) = some r := by rw [if_neg (show ¬ (false = true) by decide)] at H; exact H
    clear H; have H := H1; clear H1; obtain rfl := Option.some.inj H; have hcz28_0 : wc.cell? ⟨gb173, 0, none⟩ = some (.int .i64 a0_0) := CZ BK173.out 0; have hcz28_1 : wc.cell? ⟨gb173, 1, none⟩ = some (.int .i64 a0_1) := CZ BK173.out 1; have hcz28_2 : wc.cell? ⟨gb173, 2, none⟩ = some (.int .i64 a0_2) := CZ BK173.out 2; have hcz28_3 : wc.cell? ⟨gb173, 3, none⟩ = some (.int .i64 a0_3) := CZ BK173.out 3; have hcz28_4 : wc.cell? ⟨gb173, 4, none⟩ = some (.int .i64 a0_4) := CZ BK173.out 4; have hcz28_5 : wc.cell? ⟨gb173, 5, none⟩ = some (.int .i64 a0_5) := CZ BK173.out 5; have hcz28_6 : wc.cell? ⟨gb173, 6, none⟩ = some (.int .i64 a0_6) := CZ BK173.out 6; have hcz28_7 : wc.cell? ⟨gb173, 7, none⟩ = some (.int .i64 a0_7) := CZ BK173.out 7; have hcz28_8 : wc.cell? ⟨gb173, 8, none⟩ = some (.int .i64 a0_8) := CZ BK173.out 8; have hcz28_9 : wc.cell? ⟨gb173, 9, none⟩ = some (.bool a0_9) := CZ BK173.out 9; have hcz28_10 : wc.cell? ⟨gb173, 10, none⟩ = some (.int .i64 a0_10) := CZ BK173.out 10; have hfz28_0 := blk_frozen BK173.out 0; have hfz28_1 := blk_frozen BK173.out 1; have hfz28_2 := blk_frozen BK173.out 2; have hfz28_3 := blk_frozen BK173.out 3; have hfz28_4 := blk_frozen BK173.out 4; have hfz28_5 := blk_frozen BK173.out 5; have hfz28_6 := blk_frozen BK173.out 6; have hfz28_7 := blk_frozen BK173.out 7; have hfz28_8 := blk_frozen BK173.out 8; have hfz28_9 := blk_frozen BK173.out 9; have hfz28_10 := blk_frozen BK173.out 10
    go_wp2_with (first | ((with_reducible refine gate_callee (f := 60) rfl ?_); refine goesL_ (some 25) rfl rfl Try.func60 (by kernel_rfl) rfl #[.int .i64 a0_5, .int .i64 0, .int .i64 20] rfl (MA) ?_; (with_reducible refine (impl_within.calls a0_5 0 20 true _ A15.out).mono ?_); rintro e w' ⟨rfl, ⟨nd, rfl⟩⟩; refine ⟨_, rfl, ?_⟩) | (go_at_call 60; (with_reducible refine (impl_within.calls a0_6 0 20 true _ A17.out).mono ?_); rintro e w' ⟨rfl, ⟨nd, rfl⟩⟩) | (go_at_call 60; (with_reducible refine (impl_within.calls a0_7 0 20 t180 _ A19.out).mono ?_); rintro e w' ⟨rfl, ⟨nd, rfl⟩⟩))
    go_ret
    exact ⟨EE, BL⟩
   subst c20
   have H1 : ((impl_within.f a0_4 0 6).bind fun t181 => (if t181 = true then (if t180 = true then ((impl_within.f a0_8 0 1).bind fun t182 => (some t182)) else (some false)) else (some false))) = some r := by rw [if_pos rfl] at H; exact H
   clear H; have H := H1; clear H1; replace H := Option.bind_eq_some_iff.mp H; obtain ⟨t181, A210, H⟩ := H; have A21 := Aside0.mk A210; clear A210
   by_cases c22 : t181 = true; rotate_left
   ·
    replace c22 := Bool.eq_false_iff.mpr c22; subst c22
    have H1 : (some false) = some r := by rw [if_neg (show ¬ (false = true) by decide)] at H; exact H
    clear H; have H := H1; clear H1; obtain rfl := Option.some.inj H; have hcz27_0 : wc.cell? ⟨gb173, 0, none⟩ = some (.int .i64 a0_0) := CZ BK173.out 0; have hcz27_1 : wc.cell? ⟨gb173, 1, none⟩ = some (.int .i64 a0_1) := CZ BK173.out 1; have hcz27_2 : wc.cell? ⟨gb173, 2, none⟩ = some (.int .i64 a0_2) := CZ BK173.out 2; have hcz27_3 : wc.cell? ⟨gb173, 3, none⟩ = some (.int .i64 a0_3) := CZ BK173.out 3; have hcz27_4 : wc.cell? ⟨gb173, 4, none⟩ = some (.int .i64 a0_4) := CZ BK173.out 4; have hcz27_5 : wc.cell? ⟨gb173, 5, none⟩ = some (.int .i64 a0_5) := CZ BK173.out 5; have hcz27_6 : wc.cell? ⟨gb173, 6, none⟩ = some (.int .i64 a0_6) := CZ BK173.out 6; have hcz27_7 : wc.cell? ⟨gb173, 7, none⟩ = some (.int .i64 a0_7) := CZ BK173.out 7; have hcz27_8 : wc.cell? ⟨gb173, 8, none⟩ = some (.int .i64 a0_8) := CZ BK173.out 8; have hcz27_9 : wc.cell? ⟨gb173, 9, none⟩ = some (.bool a0_9) := CZ BK173.out 9; have hcz27_10 : wc.cell? ⟨gb173, 10, none⟩ = some (.int .i64 a0_10) := CZ BK173.out 10; have hfz27_0 := blk_frozen BK173.out 0; have hfz27_1 := blk_frozen BK173.out 1; have hfz27_2 := blk_frozen BK173.out 2; have hfz27_3 := blk_frozen BK173.out 3; have hfz27_4 := blk_frozen BK173.out 4; have hfz27_5 := blk_frozen BK173.out 5; have hfz27_6 := blk_frozen BK173.out 6; have hfz27_7 := blk_frozen BK173.out 7; have hfz27_8 := blk_frozen BK173.out 8; have hfz27_9 := blk_frozen BK173.out 9; have hfz27_10 := blk_frozen BK173.out 10
    go_wp2_with (first | ((with_reducible refine gate_callee (f := 60) rfl ?_); refine goesL_ (some 25) rfl rfl Try.func60 (by kernel_rfl) rfl #[.int .i64 a0_5, .int .i64 0, .int .i64 20] rfl (MA) ?_; (with_reducible refine (impl_within.calls a0_5 0 20 true _ A15.out).mono ?_); rintro e w' ⟨rfl, ⟨nd, rfl⟩⟩; refine ⟨_, rfl, ?_⟩) | (go_at_call 60; (with_reducible refine (impl_within.calls a0_6 0 20 true _ A17.out).mono ?_); rintro e w' ⟨rfl, ⟨nd, rfl⟩⟩) | (go_at_call 60; (with_reducible refine (impl_within.calls a0_7 0 20 t180 _ A19.out).mono ?_); rintro e w' ⟨rfl, ⟨nd, rfl⟩⟩) | (go_at_call 60; (with_reducible refine (impl_within.calls a0_4 0 6 false _ A21.out).mono ?_); rintro e w' ⟨rfl, ⟨nd, rfl⟩⟩))
    go_ret
    exact ⟨EE, BL⟩
   subst c22
   have H1 : (if t180 = true then ((impl_within.f a0_8 0 1).bind fun t182 => (some t182)) else (some false)) = some r := by rw [if_pos rfl] at H; exact H
   clear H; have H := H1; clear H1
   by_cases c23 : t180 = true; rotate_left
   ·
    replace c23 := Bool.eq_false_iff.mpr c23; subst c23
    have H1 : (some false) = some r := by rw [if_neg (show ¬ (false = true) by decide)] at H; exact H
    clear H; have H := H1; clear H1; obtain rfl := Option.some.inj H; have hcz26_0 : wc.cell? ⟨gb173, 0, none⟩ = some (.int .i64 a0_0) := CZ BK173.out 0; have hcz26_1 : wc.cell? ⟨gb173, 1, none⟩ = some (.int .i64 a0_1) := CZ BK173.out 1; have hcz26_2 : wc.cell? ⟨gb173, 2, none⟩ = some (.int .i64 a0_2) := CZ BK173.out 2; have hcz26_3 : wc.cell? ⟨gb173, 3, none⟩ = some (.int .i64 a0_3) := CZ BK173.out 3; have hcz26_4 : wc.cell? ⟨gb173, 4, none⟩ = some (.int .i64 a0_4) := CZ BK173.out 4; have hcz26_5 : wc.cell? ⟨gb173, 5, none⟩ = some (.int .i64 a0_5) := CZ BK173.out 5; have hcz26_6 : wc.cell? ⟨gb173, 6, none⟩ = some (.int .i64 a0_6) := CZ BK173.out 6; have hcz26_7 : wc.cell? ⟨gb173, 7, none⟩ = some (.int .i64 a0_7) := CZ BK173.out 7; have hcz26_8 : wc.cell? ⟨gb173, 8, none⟩ = some (.int .i64 a0_8) := CZ BK173.out 8; have hcz26_9 : wc.cell? ⟨gb173, 9, none⟩ = some (.bool a0_9) := CZ BK173.out 9; have hcz26_10 : wc.cell? ⟨gb173, 10, none⟩ = some (.int .i64 a0_10) := CZ BK173.out 10; have hfz26_0 := blk_frozen BK173.out 0; have hfz26_1 := blk_frozen BK173.out 1; have hfz26_2 := blk_frozen BK173.out 2; have hfz26_3 := blk_frozen BK173.out 3; have hfz26_4 := blk_frozen BK173.out 4; have hfz26_5 := blk_frozen BK173.out 5; have hfz26_6 := blk_frozen BK173.out 6; have hfz26_7 := blk_frozen BK173.out 7; have hfz26_8 := blk_frozen BK173.out 8; have hfz26_9 := blk_frozen BK173.out 9; have hfz26_10 := blk_frozen BK173.out 10
    go_wp2_with (first | ((with_reducible refine gate_callee (f := 60) rfl ?_); refine goesL_ (some 25) rfl rfl Try.func60 (by kernel_rfl) rfl #[.int .i64 a0_5, .int .i64 0, .int .i64 20] rfl (MA) ?_; (with_reducible refine (impl_within.calls a0_5 0 20 true _ A15.out).mono ?_); rintro e w' ⟨rfl, ⟨nd, rfl⟩⟩; refine ⟨_, rfl, ?_⟩) | (go_at_call 60; (with_reducible refine (impl_within.calls a0_6 0 20 true _ A17.out).mono ?_); rintro e w' ⟨rfl, ⟨nd, rfl⟩⟩) | (go_at_call 60; (with_reducible refine (impl_within.calls a0_7 0 20 false _ A19.out).mono ?_); rintro e w' ⟨rfl, ⟨nd, rfl⟩⟩) | (go_at_call 60; (with_reducible refine (impl_within.calls a0_4 0 6 true _ A21.out).mono ?_); rintro e w' ⟨rfl, ⟨nd, rfl⟩⟩))
    go_ret
    exact ⟨EE, BL⟩
   subst c23
   have H1 : ((impl_within.f a0_8 0 1).bind fun t182 => (some t182)) = some r := by rw [if_pos rfl] at H; exact H
   clear H; have H := H1; clear H1; replace H := Option.bind_eq_some_iff.mp H; obtain ⟨t182, A240, H⟩ := H; have A24 := Aside0.mk A240; clear A240; obtain rfl := Option.some.inj H; have hcz25_0 : wc.cell? ⟨gb173, 0, none⟩ = some (.int .i64 a0_0) := CZ BK173.out 0; have hcz25_1 : wc.cell? ⟨gb173, 1, none⟩ = some (.int .i64 a0_1) := CZ BK173.out 1; have hcz25_2 : wc.cell? ⟨gb173, 2, none⟩ = some (.int .i64 a0_2) := CZ BK173.out 2; have hcz25_3 : wc.cell? ⟨gb173, 3, none⟩ = some (.int .i64 a0_3) := CZ BK173.out 3; have hcz25_4 : wc.cell? ⟨gb173, 4, none⟩ = some (.int .i64 a0_4) := CZ BK173.out 4; have hcz25_5 : wc.cell? ⟨gb173, 5, none⟩ = some (.int .i64 a0_5) := CZ BK173.out 5; have hcz25_6 : wc.cell? ⟨gb173, 6, none⟩ = some (.int .i64 a0_6) := CZ BK173.out 6; have hcz25_7 : wc.cell? ⟨gb173, 7, none⟩ = some (.int .i64 a0_7) := CZ BK173.out 7; have hcz25_8 : wc.cell? ⟨gb173, 8, none⟩ = some (.int .i64 a0_8) := CZ BK173.out 8; have hcz25_9 : wc.cell? ⟨gb173, 9, none⟩ = some (.bool a0_9) := CZ BK173.out 9; have hcz25_10 : wc.cell? ⟨gb173, 10, none⟩ = some (.int .i64 a0_10) := CZ BK173.out 10; have hfz25_0 := blk_frozen BK173.out 0; have hfz25_1 := blk_frozen BK173.out 1; have hfz25_2 := blk_frozen BK173.out 2; have hfz25_3 := blk_frozen BK173.out 3; have hfz25_4 := blk_frozen BK173.out 4; have hfz25_5 := blk_frozen BK173.out 5; have hfz25_6 := blk_frozen BK173.out 6; have hfz25_7 := blk_frozen BK173.out 7; have hfz25_8 := blk_frozen BK173.out 8; have hfz25_9 := blk_frozen BK173.out 9; have hfz25_10 := blk_frozen BK173.out 10
   go_wp2_with (first | ((with_reducible refine gate_callee (f := 60) rfl ?_); refine goesL_ (some 25) rfl rfl Try.func60 (by kernel_rfl) rfl #[.int .i64 a0_5, .int .i64 0, .int .i64 20] rfl (MA) ?_; (with_reducible refine (impl_within.calls a0_5 0 20 true _ A15.out).mono ?_); rintro e w' ⟨rfl, ⟨nd, rfl⟩⟩; refine ⟨_, rfl, ?_⟩) | (go_at_call 60; (with_reducible refine (impl_within.calls a0_6 0 20 true _ A17.out).mono ?_); rintro e w' ⟨rfl, ⟨nd, rfl⟩⟩) | (go_at_call 60; (with_reducible refine (impl_within.calls a0_7 0 20 true _ A19.out).mono ?_); rintro e w' ⟨rfl, ⟨nd, rfl⟩⟩) | (go_at_call 60; (with_reducible refine (impl_within.calls a0_4 0 6 true _ A21.out).mono ?_); rintro e w' ⟨rfl, ⟨nd, rfl⟩⟩) | (go_at_call 60; (with_reducible refine (impl_within.calls a0_8 0 1 t182 _ A24.out).mono ?_); rintro e w' ⟨rfl, ⟨nd, rfl⟩⟩))
   go_ret
   exact ⟨EE, BL⟩

/-! ### impl_copyInts: function 51 -/
def impl_copyInts.f (l0 : List Int) : Option (List Int) := (some (([] : List Int) : List Int)).bind fun y185 => (if y185.length + l0.length < 17592186044416 then (some (y185 ++ l0)) else (none))
set_option maxHeartbeats 8000000 in
set_option maxRecDepth 100000 in
theorem impl_copyInts.calls (A0 : Option Addr) (c0 : Nat) (l0 : List Int) (r : List Int) (w : World) (hr0 : Kd.C (Kd.int .i64) w A0 l0.length l0) (hc0 : l0.length ≤ c0) (h : impl_copyInts.f l0 = some r) :
  Calls Try.prog 51 #[.slice A0 l0.length c0] w fun e w' => ∃ v0_ : Value, e = .returned (v0_) ∧ Kd.R (Kd.int .i64) 3 w' w.heap.size (fun _ => True) v0_ r ∧ Below w.heap.size w w' := by
 have HR0 := Aside0.mk hr0
 have HC0 := Aside0.mk hc0
 clear hr0 hc0
 have HB := Aside0.mk (Below.refl w.heap.size w)
 have H : ((some (([] : List Int) : List Int)).bind fun y185 => (if y185.length + l0.length < 17592186044416 then (some (y185 ++ l0)) else (none))) = some r := h
 clear h
 obtain ⟨y185, hy185⟩ : ∃ y_ : List Int, y_ = (([] : List Int)) := ⟨_, rfl⟩
 replace H : (if y185.length + l0.length < 17592186044416 then (some (y185 ++ l0)) else (none)) = some r := by first | (rw [hy185]; with_reducible exact H) | (have H2_ := (Option.bind_some _ _).symm.trans H; rw [hy185]; with_reducible exact H2_) | (have H2_ := (Option.bind_some _ _).symm.trans H; with_reducible exact H2_) | with_reducible exact H | (rw [hy185]; exact H) | exact H
 have Ny185 := Aside0.mk hy185
 clear hy185
 by_cases c2 : y185.length + l0.length < 17592186044416; rotate_left
 ·
  rw [if_neg c2] at H; exact absurd H (by simp)
 rw [if_pos c2] at H
 have LMc2 := Aside0.mk c2
 clear c2
 obtain ⟨y188, hy188⟩ : ∃ y_ : List Int, y_ = (y185 ++ l0) := ⟨_, rfl⟩
 replace H : (some y188) = some r := by first | (rw [hy188]; with_reducible exact H) | (have H2_ := (Option.bind_some _ _).symm.trans H; rw [hy188]; with_reducible exact H2_) | (have H2_ := (Option.bind_some _ _).symm.trans H; with_reducible exact H2_) | with_reducible exact H | (rw [hy188]; exact H) | exact H
 have Ny188 := Aside0.mk hy188
 clear hy188
 obtain rfl := Option.some.inj H
 go_enter Try.func51, Try.ntmps51
 go_wp2_with (first | ((with_reducible refine gate_dst (N := 3) rfl ?_); refine Kd.R_lit (Kd.int .i64) _ 3 ?hg (N := 3) ?hd (xs := ([] : List Int)) (inner := []) (ok := fun _ => True) (okp := fun _ => True) ?hr ?hp (fun _ hk => hk) trivial (Below.refl _ _) (Nat.le_refl _) (by simp) ?_; (case hd => rfl); (case hg => rfl); (case hr => first | (go_simp; done) | (go_simp; rfl)); (case hp => exact (Reps.none _ _)); intro v186 w3 ho4 hb hg_ hnew_; clear hg_ hnew_; (first | rw [← Ny185.out] at ho4 | (simp only [Int.reduceToNat] at ho4; rw [← Ny185.out] at ho4)); have HO187 := Aside0.mk (Kd.R_lower ho4 (below_size (BL))); replace HB := Aside0.mk (below_step (BL) hb); clear hb ho4) | ((with_reducible refine gate_builtin (b := .append) (xs := #[.tmp 3, .tmp 4]) rfl ?_); at_builtin; refine Kd.R_append_rows (Kd.int .i64) (w0 := w) w.heap.size rfl (.tmp 3) (.tmp 4) 22 3 (.int .i64 0) 8 rfl Try.underlying22 info3 rfl (by decide) (by omega) v186 y185 l0 _ _ _ (fun _ => True) (fun _ => False) rfl rfl ?aO ?aR (fun _ _ h => h) (fun _ h => h.elim) ?aF ?aB ?aS ?aL ?_; (case aR => exact CB HR0.out); (case aB => exact (BL)); (case aF => exact (fun _ _ => trivial)); (case aO => exact (RQ HO187.out)); (case aS => exact (below_size (BL))); (case aL => have := LMc2.out; omega); intro v189 w5 ho hb hg hat; rw [← Ny188.out] at ho; have n0_ := Aside0.mk (hb); have n1_ := Aside0.mk (ho); clear HB; clear HO187; have HB := n0_; have HO190 := n1_; clear n0_ n1_; clear ho hb hg hat))
 go_ret
 exact ⟨_, EE, RQ HO190.out, BL⟩

/-- A state of type 46 at block g of W; what its slices lead to came in by w0. -/
def IsS46 (w0 W : World) (g : Nat) (f0 : Int) (f1 : Int) (f2 : Int) (f3 : Int) (f4 : Int) (f5 : Int) (f6 : Int) (f7 : Int) (f8 : Int) (f9 : Bool) (f10 : Int) : Prop := W.heap[g]? = some (.cells #[.int .i64 f0, .int .i64 f1, .int .i64 f2, .int .i64 f3, .int .i64 f4, .int .i64 f5, .int .i64 f6, .int .i64 f7, .int .i64 f8, .bool f9, .int .i64 f10] 46 (0, 0)) ∧ w0.heap.size ≤ g
theorem IsS46.grown {w0 W : World} {g : Nat} {f0 : Int} {f1 : Int} {f2 : Int} {f3 : Int} {f4 : Int} {f5 : Int} {f6 : Int} {f7 : Int} {f8 : Int} {f9 : Bool} {f10 : Int} {W1 : World} {row : Option Nat} (h : IsS46 w0 W g f0 f1 f2 f3 f4 f5 f6 f7 f8 f9 f10) (hw : W.grownBy W1 row) (hne : some g ≠ row) : IsS46 w0 W1 g f0 f1 f2 f3 f4 f5 f6 f7 f8 f9 f10 := by
 obtain ⟨hb, hg⟩ := h
 exact ⟨blk_grown hb hw hne, hg⟩
theorem IsS46.own_neN {w0 W : World} {g : Nat} {f0 : Int} {f1 : Int} {f2 : Int} {f3 : Int} {f4 : Int} {f5 : Int} {f6 : Int} {f7 : Int} {f8 : Int} {f9 : Bool} {f10 : Int} {α : Type} {d : Kd α} {e : Nat} {base : Nat} {ok : Nat → Prop} {v : Value} {xs : List α} (h : IsS46 w0 W g f0 f1 f2 f3 f4 f5 f6 f7 f8 f9 f10) (ho : Kd.N d e W base ok v xs) (ht : e ≠ 46) : some g ≠ v.ownBlock := by
 obtain ⟨hb, hg⟩ := h
 exact Kd.N_ne ho hb ht
theorem IsS46.fresh {w0 W : World} {g : Nat} {f0 : Int} {f1 : Int} {f2 : Int} {f3 : Int} {f4 : Int} {f5 : Int} {f6 : Int} {f7 : Int} {f8 : Int} {f9 : Bool} {f10 : Int} (h : IsS46 w0 W g f0 f1 f2 f3 f4 f5 f6 f7 f8 f9 f10) : ∀ k, W.heap.size ≤ k → k ≠ g := by
 obtain ⟨hb, hg⟩ := h
 exact Kd.freshB hb
theorem IsS46.kept {w0 W : World} {g : Nat} {f0 : Int} {f1 : Int} {f2 : Int} {f3 : Int} {f4 : Int} {f5 : Int} {f6 : Int} {f7 : Int} {f8 : Int} {f9 : Bool} {f10 : Int} {W1 : World} {S : Nat → Prop} (h : IsS46 w0 W g f0 f1 f2 f3 f4 f5 f6 f7 f8 f9 f10) (hk : Kept W W1 S) (hne : ¬ S g) : IsS46 w0 W1 g f0 f1 f2 f3 f4 f5 f6 f7 f8 f9 f10 := by
 obtain ⟨hb, hg⟩ := h
 exact ⟨blk_kept hb hk hne, hg⟩
theorem IsS46.below {w0 W : World} {g : Nat} {f0 : Int} {f1 : Int} {f2 : Int} {f3 : Int} {f4 : Int} {f5 : Int} {f6 : Int} {f7 : Int} {f8 : Int} {f9 : Bool} {f10 : Int} {W1 : World} (h : IsS46 w0 W g f0 f1 f2 f3 f4 f5 f6 f7 f8 f9 f10) (hw : Below W.heap.size W W1) : IsS46 w0 W1 g f0 f1 f2 f3 f4 f5 f6 f7 f8 f9 f10 := h.grown (grown_of_below hw none) (by simp)
theorem IsS46.alloc {w0 W : World} {g : Nat} {f0 : Int} {f1 : Int} {f2 : Int} {f3 : Int} {f4 : Int} {f5 : Int} {f6 : Int} {f7 : Int} {f8 : Int} {f9 : Bool} {f10 : Int} (h : IsS46 w0 W g f0 f1 f2 f3 f4 f5 f6 f7 f8 f9 f10) (o : Obj) : IsS46 w0 (W.alloc o) g f0 f1 f2 f3 f4 f5 f6 f7 f8 f9 f10 := h.below (below_alloc (Below.refl _ _) o)
theorem IsS46.drewN {w0 W : World} {g : Nat} {f0 : Int} {f1 : Int} {f2 : Int} {f3 : Int} {f4 : Int} {f5 : Int} {f6 : Int} {f7 : Int} {f8 : Int} {f9 : Bool} {f10 : Int} (h : IsS46 w0 W g f0 f1 f2 f3 f4 f5 f6 f7 f8 f9 f10) (m : Nat) : IsS46 w0 (W.drewN m) g f0 f1 f2 f3 f4 f5 f6 f7 f8 f9 f10 := h
theorem IsS46.drew {w0 W : World} {g : Nat} {f0 : Int} {f1 : Int} {f2 : Int} {f3 : Int} {f4 : Int} {f5 : Int} {f6 : Int} {f7 : Int} {f8 : Int} {f9 : Bool} {f10 : Int} (h : IsS46 w0 W g f0 f1 f2 f3 f4 f5 f6 f7 f8 f9 f10) : IsS46 w0 W.drew g f0 f1 f2 f3 f4 f5 f6 f7 f8 f9 f10 := h
theorem IsS46.at_ {w0 W : World} {g : Nat} {f0 : Int} {f1 : Int} {f2 : Int} {f3 : Int} {f4 : Int} {f5 : Int} {f6 : Int} {f7 : Int} {f8 : Int} {f9 : Bool} {f10 : Int} {w' : World} {m : Nat} (hq : W.drewN m = w') (h : IsS46 w0 W g f0 f1 f2 f3 f4 f5 f6 f7 f8 f9 f10) : IsS46 w0 w' g f0 f1 f2 f3 f4 f5 f6 f7 f8 f9 f10 := by subst hq; exact IsS46.drewN h m
theorem IsS46.apart {w0 W : World} {g : Nat} {f0 : Int} {f1 : Int} {f2 : Int} {f3 : Int} {f4 : Int} {f5 : Int} {f6 : Int} {f7 : Int} {f8 : Int} {f9 : Bool} {f10 : Int} {α : Type} {d : Kd α} {e : Nat} {base : Nat} {ok : Nat → Prop} {v : Value} {xs : List α} (h : IsS46 w0 W g f0 f1 f2 f3 f4 f5 f6 f7 f8 f9 f10) (ho : d.R e W base ok v xs) (ht : ∀ q, q ∈ e :: d.E → q ≠ 46) : d.R e W base (fun k => ok k ∧ k ≠ g) v xs := by
 obtain ⟨hb, hg⟩ := h
 exact Kd.R_types ho hb ht
theorem IsS46.own_ne {w0 W : World} {g : Nat} {f0 : Int} {f1 : Int} {f2 : Int} {f3 : Int} {f4 : Int} {f5 : Int} {f6 : Int} {f7 : Int} {f8 : Int} {f9 : Bool} {f10 : Int} {α : Type} {d : Kd α} {e : Nat} {base : Nat} {ok : Nat → Prop} {v : Value} {xs : List α} (h : IsS46 w0 W g f0 f1 f2 f3 f4 f5 f6 f7 f8 f9 f10) (ho : d.R e W base ok v xs) (ht : e ≠ 46) : some g ≠ v.ownBlock := by
 obtain ⟨hb, hg⟩ := h
 exact Kd.R_ne ho hb ht
theorem IsS46.apartQ {w0 W : World} {g : Nat} {f0 : Int} {f1 : Int} {f2 : Int} {f3 : Int} {f4 : Int} {f5 : Int} {f6 : Int} {f7 : Int} {f8 : Int} {f9 : Bool} {f10 : Int} {α : Type} {d : Kd α} {e : Nat} {base : Nat} {ok : Nat → Prop} {v : Value} {xs : List α} (h : IsS46 w0 W g f0 f1 f2 f3 f4 f5 f6 f7 f8 f9 f10) (ho : d.Q e W base ok v xs) (ht : ∀ q, q ∈ e :: d.E → q ≠ 46) : d.Q e W base (fun k => ok k ∧ k ≠ g) v xs := by
 obtain ⟨hb, hg⟩ := h
 exact Kd.Q_types ho hb ht
theorem IsS46.own_neQ {w0 W : World} {g : Nat} {f0 : Int} {f1 : Int} {f2 : Int} {f3 : Int} {f4 : Int} {f5 : Int} {f6 : Int} {f7 : Int} {f8 : Int} {f9 : Bool} {f10 : Int} {α : Type} {d : Kd α} {e : Nat} {base : Nat} {ok : Nat → Prop} {v : Value} {xs : List α} (h : IsS46 w0 W g f0 f1 f2 f3 f4 f5 f6 f7 f8 f9 f10) (ho : d.Q e W base ok v xs) (ht : e ≠ 46) : some g ≠ v.ownBlock := by
 obtain ⟨hb, hg⟩ := h
 exact Kd.Q_ne ho hb ht
theorem IsS46.apartS {w0 W : World} {g : Nat} {f0 : Int} {f1 : Int} {f2 : Int} {f3 : Int} {f4 : Int} {f5 : Int} {f6 : Int} {f7 : Int} {f8 : Int} {f9 : Bool} {f10 : Int} {α : Type} {d : Kd α} {e : Nat} {base : Nat} {ok : Nat → Prop} {v : Value} {xs : List α} (h : IsS46 w0 W g f0 f1 f2 f3 f4 f5 f6 f7 f8 f9 f10) (ho : d.S e W base ok v xs) (ht : ∀ q, q ∈ e :: d.E → q ≠ 46) : d.S e W base (fun k => ok k ∧ k ≠ g) v xs := by
 obtain ⟨hb, hg⟩ := h
 exact Kd.S_types ho hb ht
theorem IsS46.own_neS {w0 W : World} {g : Nat} {f0 : Int} {f1 : Int} {f2 : Int} {f3 : Int} {f4 : Int} {f5 : Int} {f6 : Int} {f7 : Int} {f8 : Int} {f9 : Bool} {f10 : Int} {α : Type} {d : Kd α} {e : Nat} {base : Nat} {ok : Nat → Prop} {v : Value} {xs : List α} (h : IsS46 w0 W g f0 f1 f2 f3 f4 f5 f6 f7 f8 f9 f10) (ho : d.S e W base ok v xs) (ht : e ≠ 46) : some g ≠ v.ownBlock := by
 obtain ⟨hb, hg⟩ := h
 exact Kd.S_ne ho hb ht
theorem IsS46.lt {w0 W : World} {g : Nat} {f0 : Int} {f1 : Int} {f2 : Int} {f3 : Int} {f4 : Int} {f5 : Int} {f6 : Int} {f7 : Int} {f8 : Int} {f9 : Bool} {f10 : Int} (h : IsS46 w0 W g f0 f1 f2 f3 f4 f5 f6 f7 f8 f9 f10) : g < W.heap.size := by
 obtain ⟨hb, hg⟩ := h
 exact blk_lt hb
theorem IsS46.ge {w0 W : World} {g : Nat} {f0 : Int} {f1 : Int} {f2 : Int} {f3 : Int} {f4 : Int} {f5 : Int} {f6 : Int} {f7 : Int} {f8 : Int} {f9 : Bool} {f10 : Int} (h : IsS46 w0 W g f0 f1 f2 f3 f4 f5 f6 f7 f8 f9 f10) : w0.heap.size ≤ g := by
 obtain ⟨hb, hg⟩ := h
 exact hg
theorem IsS46.ne_blk {w0 W : World} {g : Nat} {f0 : Int} {f1 : Int} {f2 : Int} {f3 : Int} {f4 : Int} {f5 : Int} {f6 : Int} {f7 : Int} {f8 : Int} {f9 : Bool} {f10 : Int} {a : Nat} {cs : Array Value} {t : TypeId} {fr : Nat × Nat} (h : IsS46 w0 W g f0 f1 f2 f3 f4 f5 f6 f7 f8 f9 f10) (hb2 : W.heap[a]? = some (.cells cs t fr)) (ht : t ≠ 46) : g ≠ a := by
 obtain ⟨hb, hg⟩ := h
 rintro rfl
 rw [hb] at hb2
 injection hb2 with hb2
 injection hb2 with _ ht2
 exact ht ht2.symm
theorem IsS46.far {w0 W : World} {g : Nat} {f0 : Int} {f1 : Int} {f2 : Int} {f3 : Int} {f4 : Int} {f5 : Int} {f6 : Int} {f7 : Int} {f8 : Int} {f9 : Bool} {f10 : Int} {p : Addr} (h : IsS46 w0 W g f0 f1 f2 f3 f4 f5 f6 f7 f8 f9 f10) (hne : g ≠ p.block) (u : Value) : IsS46 w0 (W.setCell p u) g f0 f1 f2 f3 f4 f5 f6 f7 f8 f9 f10 := by
 obtain ⟨hb, hg⟩ := h
 exact ⟨blk_far hb hne u, hg⟩
theorem cellS46_0 {W : World} {g : Nat} {f0 : Int} {f1 : Int} {f2 : Int} {f3 : Int} {f4 : Int} {f5 : Int} {f6 : Int} {f7 : Int} {f8 : Int} {f9 : Bool} {f10 : Int} (h : W.heap[g]? = some (.cells #[.int .i64 f0, .int .i64 f1, .int .i64 f2, .int .i64 f3, .int .i64 f4, .int .i64 f5, .int .i64 f6, .int .i64 f7, .int .i64 f8, .bool f9, .int .i64 f10] 46 (0, 0))) : W.cell? ⟨g, 0, none⟩ = some (.int .i64 f0) := (blk_cell h 0).trans rfl
theorem IsS46.set_0 {w0 W : World} {g : Nat} {f0 : Int} {f1 : Int} {f2 : Int} {f3 : Int} {f4 : Int} {f5 : Int} {f6 : Int} {f7 : Int} {f8 : Int} {f9 : Bool} {f10 : Int} (h : IsS46 w0 W g f0 f1 f2 f3 f4 f5 f6 f7 f8 f9 f10) (x : Int) : IsS46 w0 (W.setCell ⟨g, 0, none⟩ (.int .i64 x)) g x f1 f2 f3 f4 f5 f6 f7 f8 f9 f10 := by
 obtain ⟨hb, hg⟩ := h
 exact ⟨by simpa using blk_set hb 0 (.int .i64 x), hg⟩
theorem cellS46_1 {W : World} {g : Nat} {f0 : Int} {f1 : Int} {f2 : Int} {f3 : Int} {f4 : Int} {f5 : Int} {f6 : Int} {f7 : Int} {f8 : Int} {f9 : Bool} {f10 : Int} (h : W.heap[g]? = some (.cells #[.int .i64 f0, .int .i64 f1, .int .i64 f2, .int .i64 f3, .int .i64 f4, .int .i64 f5, .int .i64 f6, .int .i64 f7, .int .i64 f8, .bool f9, .int .i64 f10] 46 (0, 0))) : W.cell? ⟨g, 1, none⟩ = some (.int .i64 f1) := (blk_cell h 1).trans rfl
theorem IsS46.set_1 {w0 W : World} {g : Nat} {f0 : Int} {f1 : Int} {f2 : Int} {f3 : Int} {f4 : Int} {f5 : Int} {f6 : Int} {f7 : Int} {f8 : Int} {f9 : Bool} {f10 : Int} (h : IsS46 w0 W g f0 f1 f2 f3 f4 f5 f6 f7 f8 f9 f10) (x : Int) : IsS46 w0 (W.setCell ⟨g, 1, none⟩ (.int .i64 x)) g f0 x f2 f3 f4 f5 f6 f7 f8 f9 f10 := by
 obtain ⟨hb, hg⟩ := h
 exact ⟨by simpa using blk_set hb 1 (.int .i64 x), hg⟩
theorem cellS46_2 {W : World} {g : Nat} {f0 : Int} {f1 : Int} {f2 : Int} {f3 : Int} {f4 : Int} {f5 : Int} {f6 : Int} {f7 : Int} {f8 : Int} {f9 : Bool} {f10 : Int} (h : W.heap[g]? = some (.cells #[.int .i64 f0, .int .i64 f1, .int .i64 f2, .int .i64 f3, .int .i64 f4, .int .i64 f5, .int .i64 f6, .int .i64 f7, .int .i64 f8, .bool f9, .int .i64 f10] 46 (0, 0))) : W.cell? ⟨g, 2, none⟩ = some (.int .i64 f2) := (blk_cell h 2).trans rfl
theorem IsS46.set_2 {w0 W : World} {g : Nat} {f0 : Int} {f1 : Int} {f2 : Int} {f3 : Int} {f4 : Int} {f5 : Int} {f6 : Int} {f7 : Int} {f8 : Int} {f9 : Bool} {f10 : Int} (h : IsS46 w0 W g f0 f1 f2 f3 f4 f5 f6 f7 f8 f9 f10) (x : Int) : IsS46 w0 (W.setCell ⟨g, 2, none⟩ (.int .i64 x)) g f0 f1 x f3 f4 f5 f6 f7 f8 f9 f10 := by
 obtain ⟨hb, hg⟩ := h
 exact ⟨by simpa using blk_set hb 2 (.int .i64 x), hg⟩
theorem cellS46_3 {W : World} {g : Nat} {f0 : Int} {f1 : Int} {f2 : Int} {f3 : Int} {f4 : Int} {f5 : Int} {f6 : Int} {f7 : Int} {f8 : Int} {f9 : Bool} {f10 : Int} (h : W.heap[g]? = some (.cells #[.int .i64 f0, .int .i64 f1, .int .i64 f2, .int .i64 f3, .int .i64 f4, .int .i64 f5, .int .i64 f6, .int .i64 f7, .int .i64 f8, .bool f9, .int .i64 f10] 46 (0, 0))) : W.cell? ⟨g, 3, none⟩ = some (.int .i64 f3) := (blk_cell h 3).trans rfl
theorem IsS46.set_3 {w0 W : World} {g : Nat} {f0 : Int} {f1 : Int} {f2 : Int} {f3 : Int} {f4 : Int} {f5 : Int} {f6 : Int} {f7 : Int} {f8 : Int} {f9 : Bool} {f10 : Int} (h : IsS46 w0 W g f0 f1 f2 f3 f4 f5 f6 f7 f8 f9 f10) (x : Int) : IsS46 w0 (W.setCell ⟨g, 3, none⟩ (.int .i64 x)) g f0 f1 f2 x f4 f5 f6 f7 f8 f9 f10 := by
 obtain ⟨hb, hg⟩ := h
 exact ⟨by simpa using blk_set hb 3 (.int .i64 x), hg⟩
theorem cellS46_4 {W : World} {g : Nat} {f0 : Int} {f1 : Int} {f2 : Int} {f3 : Int} {f4 : Int} {f5 : Int} {f6 : Int} {f7 : Int} {f8 : Int} {f9 : Bool} {f10 : Int} (h : W.heap[g]? = some (.cells #[.int .i64 f0, .int .i64 f1, .int .i64 f2, .int .i64 f3, .int .i64 f4, .int .i64 f5, .int .i64 f6, .int .i64 f7, .int .i64 f8, .bool f9, .int .i64 f10] 46 (0, 0))) : W.cell? ⟨g, 4, none⟩ = some (.int .i64 f4) := (blk_cell h 4).trans rfl
theorem IsS46.set_4 {w0 W : World} {g : Nat} {f0 : Int} {f1 : Int} {f2 : Int} {f3 : Int} {f4 : Int} {f5 : Int} {f6 : Int} {f7 : Int} {f8 : Int} {f9 : Bool} {f10 : Int} (h : IsS46 w0 W g f0 f1 f2 f3 f4 f5 f6 f7 f8 f9 f10) (x : Int) : IsS46 w0 (W.setCell ⟨g, 4, none⟩ (.int .i64 x)) g f0 f1 f2 f3 x f5 f6 f7 f8 f9 f10 := by
 obtain ⟨hb, hg⟩ := h
 exact ⟨by simpa using blk_set hb 4 (.int .i64 x), hg⟩
theorem cellS46_5 {W : World} {g : Nat} {f0 : Int} {f1 : Int} {f2 : Int} {f3 : Int} {f4 : Int} {f5 : Int} {f6 : Int} {f7 : Int} {f8 : Int} {f9 : Bool} {f10 : Int} (h : W.heap[g]? = some (.cells #[.int .i64 f0, .int .i64 f1, .int .i64 f2, .int .i64 f3, .int .i64 f4, .int .i64 f5, .int .i64 f6, .int .i64 f7, .int .i64 f8, .bool f9, .int .i64 f10] 46 (0, 0))) : W.cell? ⟨g, 5, none⟩ = some (.int .i64 f5) := (blk_cell h 5).trans rfl
theorem IsS46.set_5 {w0 W : World} {g : Nat} {f0 : Int} {f1 : Int} {f2 : Int} {f3 : Int} {f4 : Int} {f5 : Int} {f6 : Int} {f7 : Int} {f8 : Int} {f9 : Bool} {f10 : Int} (h : IsS46 w0 W g f0 f1 f2 f3 f4 f5 f6 f7 f8 f9 f10) (x : Int) : IsS46 w0 (W.setCell ⟨g, 5, none⟩ (.int .i64 x)) g f0 f1 f2 f3 f4 x f6 f7 f8 f9 f10 := by
 obtain ⟨hb, hg⟩ := h
 exact ⟨by simpa using blk_set hb 5 (.int .i64 x), hg⟩
theorem cellS46_6 {W : World} {g : Nat} {f0 : Int} {f1 : Int} {f2 : Int} {f3 : Int} {f4 : Int} {f5 : Int} {f6 : Int} {f7 : Int} {f8 : Int} {f9 : Bool} {f10 : Int} (h : W.heap[g]? = some (.cells #[.int .i64 f0, .int .i64 f1, .int .i64 f2, .int .i64 f3, .int .i64 f4, .int .i64 f5, .int .i64 f6, .int .i64 f7, .int .i64 f8, .bool f9, .int .i64 f10] 46 (0, 0))) : W.cell? ⟨g, 6, none⟩ = some (.int .i64 f6) := (blk_cell h 6).trans rfl
theorem IsS46.set_6 {w0 W : World} {g : Nat} {f0 : Int} {f1 : Int} {f2 : Int} {f3 : Int} {f4 : Int} {f5 : Int} {f6 : Int} {f7 : Int} {f8 : Int} {f9 : Bool} {f10 : Int} (h : IsS46 w0 W g f0 f1 f2 f3 f4 f5 f6 f7 f8 f9 f10) (x : Int) : IsS46 w0 (W.setCell ⟨g, 6, none⟩ (.int .i64 x)) g f0 f1 f2 f3 f4 f5 x f7 f8 f9 f10 := by
 obtain ⟨hb, hg⟩ := h
 exact ⟨by simpa using blk_set hb 6 (.int .i64 x), hg⟩
theorem cellS46_7 {W : World} {g : Nat} {f0 : Int} {f1 : Int} {f2 : Int} {f3 : Int} {f4 : Int} {f5 : Int} {f6 : Int} {f7 : Int} {f8 : Int} {f9 : Bool} {f10 : Int} (h : W.heap[g]? = some (.cells #[.int .i64 f0, .int .i64 f1, .int .i64 f2, .int .i64 f3, .int .i64 f4, .int .i64 f5, .int .i64 f6, .int .i64 f7, .int .i64 f8, .bool f9, .int .i64 f10] 46 (0, 0))) : W.cell? ⟨g, 7, none⟩ = some (.int .i64 f7) := (blk_cell h 7).trans rfl
theorem IsS46.set_7 {w0 W : World} {g : Nat} {f0 : Int} {f1 : Int} {f2 : Int} {f3 : Int} {f4 : Int} {f5 : Int} {f6 : Int} {f7 : Int} {f8 : Int} {f9 : Bool} {f10 : Int} (h : IsS46 w0 W g f0 f1 f2 f3 f4 f5 f6 f7 f8 f9 f10) (x : Int) : IsS46 w0 (W.setCell ⟨g, 7, none⟩ (.int .i64 x)) g f0 f1 f2 f3 f4 f5 f6 x f8 f9 f10 := by
 obtain ⟨hb, hg⟩ := h
 exact ⟨by simpa using blk_set hb 7 (.int .i64 x), hg⟩
theorem cellS46_8 {W : World} {g : Nat} {f0 : Int} {f1 : Int} {f2 : Int} {f3 : Int} {f4 : Int} {f5 : Int} {f6 : Int} {f7 : Int} {f8 : Int} {f9 : Bool} {f10 : Int} (h : W.heap[g]? = some (.cells #[.int .i64 f0, .int .i64 f1, .int .i64 f2, .int .i64 f3, .int .i64 f4, .int .i64 f5, .int .i64 f6, .int .i64 f7, .int .i64 f8, .bool f9, .int .i64 f10] 46 (0, 0))) : W.cell? ⟨g, 8, none⟩ = some (.int .i64 f8) := (blk_cell h 8).trans rfl
theorem IsS46.set_8 {w0 W : World} {g : Nat} {f0 : Int} {f1 : Int} {f2 : Int} {f3 : Int} {f4 : Int} {f5 : Int} {f6 : Int} {f7 : Int} {f8 : Int} {f9 : Bool} {f10 : Int} (h : IsS46 w0 W g f0 f1 f2 f3 f4 f5 f6 f7 f8 f9 f10) (x : Int) : IsS46 w0 (W.setCell ⟨g, 8, none⟩ (.int .i64 x)) g f0 f1 f2 f3 f4 f5 f6 f7 x f9 f10 := by
 obtain ⟨hb, hg⟩ := h
 exact ⟨by simpa using blk_set hb 8 (.int .i64 x), hg⟩
theorem cellS46_9 {W : World} {g : Nat} {f0 : Int} {f1 : Int} {f2 : Int} {f3 : Int} {f4 : Int} {f5 : Int} {f6 : Int} {f7 : Int} {f8 : Int} {f9 : Bool} {f10 : Int} (h : W.heap[g]? = some (.cells #[.int .i64 f0, .int .i64 f1, .int .i64 f2, .int .i64 f3, .int .i64 f4, .int .i64 f5, .int .i64 f6, .int .i64 f7, .int .i64 f8, .bool f9, .int .i64 f10] 46 (0, 0))) : W.cell? ⟨g, 9, none⟩ = some (.bool f9) := (blk_cell h 9).trans rfl
theorem IsS46.set_9 {w0 W : World} {g : Nat} {f0 : Int} {f1 : Int} {f2 : Int} {f3 : Int} {f4 : Int} {f5 : Int} {f6 : Int} {f7 : Int} {f8 : Int} {f9 : Bool} {f10 : Int} (h : IsS46 w0 W g f0 f1 f2 f3 f4 f5 f6 f7 f8 f9 f10) (x : Bool) : IsS46 w0 (W.setCell ⟨g, 9, none⟩ (.bool x)) g f0 f1 f2 f3 f4 f5 f6 f7 f8 x f10 := by
 obtain ⟨hb, hg⟩ := h
 exact ⟨by simpa using blk_set hb 9 (.bool x), hg⟩
theorem cellS46_10 {W : World} {g : Nat} {f0 : Int} {f1 : Int} {f2 : Int} {f3 : Int} {f4 : Int} {f5 : Int} {f6 : Int} {f7 : Int} {f8 : Int} {f9 : Bool} {f10 : Int} (h : W.heap[g]? = some (.cells #[.int .i64 f0, .int .i64 f1, .int .i64 f2, .int .i64 f3, .int .i64 f4, .int .i64 f5, .int .i64 f6, .int .i64 f7, .int .i64 f8, .bool f9, .int .i64 f10] 46 (0, 0))) : W.cell? ⟨g, 10, none⟩ = some (.int .i64 f10) := (blk_cell h 10).trans rfl
theorem IsS46.set_10 {w0 W : World} {g : Nat} {f0 : Int} {f1 : Int} {f2 : Int} {f3 : Int} {f4 : Int} {f5 : Int} {f6 : Int} {f7 : Int} {f8 : Int} {f9 : Bool} {f10 : Int} (h : IsS46 w0 W g f0 f1 f2 f3 f4 f5 f6 f7 f8 f9 f10) (x : Int) : IsS46 w0 (W.setCell ⟨g, 10, none⟩ (.int .i64 x)) g f0 f1 f2 f3 f4 f5 f6 f7 f8 f9 x := by
 obtain ⟨hb, hg⟩ := h
 exact ⟨by simpa using blk_set hb 10 (.int .i64 x), hg⟩
theorem IsS46.new (w0 W : World) (f0 : Int) (f1 : Int) (f2 : Int) (f3 : Int) (f4 : Int) (f5 : Int) (f6 : Int) (f7 : Int) (f8 : Int) (f9 : Bool) (f10 : Int) (hB : Below w0.heap.size w0 W) : IsS46 w0 (W.alloc (.cells #[.int .i64 f0, .int .i64 f1, .int .i64 f2, .int .i64 f3, .int .i64 f4, .int .i64 f5, .int .i64 f6, .int .i64 f7, .int .i64 f8, .bool f9, .int .i64 f10] 46)) W.heap.size f0 f1 f2 f3 f4 f5 f6 f7 f8 f9 f10 := ⟨by simpa using heap_alloc_new W _, hB.size⟩

/-! ### impl_Task_done: function 83 -/
def impl_Task_done.f (s0_0 : Int) (s0_1 : Int) (s0_2 : Int) (s0_3 : Int) (s0_4 : Int) (s0_5 : Int) (s0_6 : Int) (s0_7 : Int) (s0_8 : Int) (s0_9 : Bool) (s0_10 : Int) (a1 : Int) : Option (Int × Int × Int × Int × Int × Int × Int × Int × Int × Bool × Int) := some (s0_0, s0_1, s0_2, s0_3, s0_4, s0_5, s0_6, s0_7, s0_8, true, a1)
set_option maxHeartbeats 8000000 in
set_option maxRecDepth 100000 in
theorem impl_Task_done.calls (g : Nat) (s0_0 : Int) (s0_1 : Int) (s0_2 : Int) (s0_3 : Int) (s0_4 : Int) (s0_5 : Int) (s0_6 : Int) (s0_7 : Int) (s0_8 : Int) (s0_9 : Bool) (s0_10 : Int) (a1 : Int) (r1 : Int) (r2 : Int) (r3 : Int) (r4 : Int) (r5 : Int) (r6 : Int) (r7 : Int) (r8 : Int) (r9 : Int) (r10 : Bool) (r11 : Int) (w0 w : World) (hI : IsS46 w0 w g s0_0 s0_1 s0_2 s0_3 s0_4 s0_5 s0_6 s0_7 s0_8 s0_9 s0_10) (hB : Below w0.heap.size w0 w) (h : impl_Task_done.f s0_0 s0_1 s0_2 s0_3 s0_4 s0_5 s0_6 s0_7 s0_8 s0_9 s0_10 a1 = some (r1, r2, r3, r4, r5, r6, r7, r8, r9, r10, r11)) :
  Calls Try.prog 83 #[.pointer (some ⟨g, 0, none⟩), .int .i64 a1] w fun e w' => e = .returned (.tuple #[]) ∧ IsS46 w0 w' g r1 r2 r3 r4 r5 r6 r7 r8 r9 r10 r11 ∧ Below w0.heap.size w0 w' ∧ KeepBut w w' g none := by
 have HI0 := Aside0.mk hI
 have HK := Aside0.mk (KeepBut.refl w g none)
 have HL := Aside0.mk hB.size
 clear hI
 have HW0 := Aside0.mk hB.size
 have HB := Aside0.mk hB
 clear hB
 have H : (some (s0_0, s0_1, s0_2, s0_3, s0_4, s0_5, s0_6, s0_7, s0_8, true, a1)) = some (r1, r2, r3, r4, r5, r6, r7, r8, r9, r10, r11) := h
 clear h
 simp only [Option.some.injEq, Prod.mk.injEq] at H
 obtain ⟨rfl, rfl, rfl, rfl, rfl, rfl, rfl, rfl, rfl, rfl, rfl⟩ := H
 obtain ⟨HGz3, hgz3⟩ := HI0.out
 have hcz3_0 := cellS46_0 HGz3
 have hcz3_1 := cellS46_1 HGz3
 have hcz3_2 := cellS46_2 HGz3
 have hcz3_3 := cellS46_3 HGz3
 have hcz3_4 := cellS46_4 HGz3
 have hcz3_5 := cellS46_5 HGz3
 have hcz3_6 := cellS46_6 HGz3
 have hcz3_7 := cellS46_7 HGz3
 have hcz3_8 := cellS46_8 HGz3
 have hcz3_9 := cellS46_9 HGz3
 have hcz3_10 := cellS46_10 HGz3
 have hfz3_0 := blk_frozen HGz3 0
 have hfz3_1 := blk_frozen HGz3 1
 have hfz3_2 := blk_frozen HGz3 2
 have hfz3_3 := blk_frozen HGz3 3
 have hfz3_4 := blk_frozen HGz3 4
 have hfz3_5 := blk_frozen HGz3 5
 have hfz3_6 := blk_frozen HGz3 6
 have hfz3_7 := blk_frozen HGz3 7
 have hfz3_8 := blk_frozen HGz3 8
 have hfz3_9 := blk_frozen HGz3 9
 have hfz3_10 := blk_frozen HGz3 10
 clear HGz3 hgz3
 go_enter Try.func83, Try.ntmps83
 go_wp2
 first | go_end0 | ((try simp only [Exit.inBlock, Exit.then]); refine bodyPost_ret (results_none rfl _ _ _) rfl ?_)
 exact ⟨EE, by repeat (first | (with_reducible first | exact HI0.out | apply IsS46.alloc | apply IsS46.drewN | apply IsS46.drew | apply IsS46.set_0 | apply IsS46.set_1 | apply IsS46.set_2 | apply IsS46.set_3 | apply IsS46.set_4 | apply IsS46.set_5 | apply IsS46.set_6 | apply IsS46.set_7 | apply IsS46.set_8 | apply IsS46.set_9 | apply IsS46.set_10) | exact HI0.out), by repeat (first | (with_reducible first | exact HB.out | apply below_alloc | apply pw_below_drewN | apply below_drew1 | refine below_set ?_ (IsS46.ge HI0.out)) | exact HB.out), by repeat (first | (with_reducible first | exact HK.out | apply KeepBut.set_ | apply keep_drewN | apply keep_drew | apply keep_alloc) | exact HK.out)⟩

/-! ### impl_Task_nobody: function 87 -/
def impl_Task_nobody.f (s0_0 : Int) (s0_1 : Int) (s0_2 : Int) (s0_3 : Int) (s0_4 : Int) (s0_5 : Int) (s0_6 : Int) (s0_7 : Int) (s0_8 : Int) (s0_9 : Bool) (s0_10 : Int) (l1 : List Int) : Option (Int × Int × Int × Int × Int × Int × Int × Int × Int × Bool × Int × List Int) := if s0_0 = 2 then ((impl_keyCell.f s0_3).bind fun t191 => ((impl_valCell.f s0_3).bind fun t192 => ((impl_wordCell.f s0_3).bind fun t193 => (if 0 ≤ t191 then (if t191 < (l1.length : Int) then (if 0 ≤ t192 then (if t192 < (l1.length : Int) then (if 0 ≤ t193 then (if t193 < (l1.length : Int) then (some (s0_0, s0_1, s0_2, s0_3, 4, s0_5, s0_6, s0_7, s0_8, s0_9, s0_10, (((l1.set (t191 : Int).toNat s0_1).set (t192 : Int).toNat s0_2).set (t193 : Int).toNat (wrap64 (2 * s0_6))))) else (none)) else (none)) else (none)) else (none)) else (none)) else (none))))) else ((impl_Task_done.f s0_0 s0_1 s0_2 s0_3 s0_4 s0_5 s0_6 s0_7 s0_8 s0_9 s0_10 0).bind fun bt197 => (some (bt197.1, bt197.2.1, bt197.2.2.1, bt197.2.2.2.1, bt197.2.2.2.2.1, bt197.2.2.2.2.2.1, bt197.2.2.2.2.2.2.1, bt197.2.2.2.2.2.2.2.1, bt197.2.2.2.2.2.2.2.2.1, bt197.2.2.2.2.2.2.2.2.2.1, bt197.2.2.2.2.2.2.2.2.2.2, l1)))
def impl_Task_nobody.T2 : Bool × List (List Nat × List Nat) := (true, [([], []), ([], []), ([1], [1]), ([2], [2]), ([3], [3]), ([4], [4]), ([], []), ([], []), ([7], [7]), ([8], [8]), ([9], [9]), ([10, 5], [10]), ([], []), ([], []), ([13], [13]), ([14], [14]), ([15], [15]), ([16, 11], [16]), ([], []), ([18], [18]), ([19], [19]), ([20], [20]), ([], []), ([22], [22]), ([23], [23]), ([24], [24]), ([], []), ([26], [26]), ([27], [27]), ([28], [28]), ([29], [29]), ([0, 5, 0, 1, 2, 3, 4, 5, 10, 11, 16, 17, 18, 19, 20, 21, 25, 29], [0, 5]), ([31, 21, 17, 0, 1, 2, 3, 4, 5, 10, 11, 16, 17, 18, 19, 20, 21, 25, 29], [21, 31]), ([6, 11, 0, 1, 2, 3, 4, 5, 6, 7, 8, 9, 10, 11, 16, 17, 18, 19, 20, 21, 22, 23, 24, 25, 29, 31, 32], [6, 11]), ([33, 25, 32, 0, 1, 2, 3, 4, 5, 6, 7, 8, 9, 10, 11, 16, 17, 18, 19, 20, 21, 22, 23, 24, 25, 29, 31, 32], [25, 33]), ([12, 17, 0, 1, 2, 3, 4, 5, 6, 7, 8, 9, 10, 11, 12, 13, 14, 15, 16, 17, 18, 19, 20, 21, 22, 23, 24, 25, 26, 27, 28, 29, 30, 31, 32, 33, 34], [12, 17]), ([35, 30, 34, 0, 1, 2, 3, 4, 5, 6, 7, 8, 9, 10, 11, 12, 13, 14, 15, 16, 17, 18, 19, 20, 21, 22, 23, 24, 25, 26, 27, 28, 29, 30, 31, 32, 33, 34], [30, 35])])
def impl_Task_nobody.B2 : List Nat := [0, 0, 2, 6, 14, 30, 0, 0, 128, 384, 896, 1982, 0, 0, 8192, 24576, 57344, 126910, 0, 262144, 786432, 1835008, 0, 4194304, 12582912, 29360128, 0, 67108864, 201326592, 469762048, 1006632960, 1073737663, 3221221311, 7516188671, 16106123263, 34359738367, 68719476735]
theorem impl_Task_nobody.tab2 : rtab .any (opsOf Try.f87 2) = impl_Task_nobody.T2 := by kernel_rfl
theorem impl_Task_nobody.bits2 : waitsOk impl_Task_nobody.T2.2 impl_Task_nobody.B2 = true := by kernel_rfl
theorem impl_Task_nobody.k0 {p q : Prop} (h : q) (k : q → p := by intro h_; repeat (first | (with_reducible first | exact h_ | apply IsS46.alloc | apply IsS46.drewN | apply IsS46.drew | apply IsS46.set_0 | apply IsS46.set_1 | apply IsS46.set_2 | apply IsS46.set_3 | apply IsS46.set_4 | apply IsS46.set_5 | apply IsS46.set_6 | apply IsS46.set_7 | apply IsS46.set_8 | apply IsS46.set_9 | apply IsS46.set_10) | exact h_)) : p := k h
theorem impl_Task_nobody.k1 {p q : Prop} (h : q) (k : q → p := by intro h_; repeat (first | (with_reducible first | exact h_ | apply Kept.alloc | apply Kept.drewN | apply Kept.drew | refine Kept.setCell ?_ (.inl (.inr rfl)) _) | exact h_)) : p := k h
theorem impl_Task_nobody.k2 {p q : Prop} (h : q) (k : q → p := by intro h_; repeat (first | (with_reducible first | exact h_ | apply below_alloc | apply pw_below_drewN | apply below_drew1 | refine below_set ?_ (IsS46.ge HI0.out)) | exact h_)) : p := k h
set_option maxHeartbeats 8000000 in
set_option maxRecDepth 100000 in
theorem impl_Task_nobody.calls (g : Nat) (s0_0 : Int) (s0_1 : Int) (s0_2 : Int) (s0_3 : Int) (s0_4 : Int) (s0_5 : Int) (s0_6 : Int) (s0_7 : Int) (s0_8 : Int) (s0_9 : Bool) (s0_10 : Int) (P1_ : Nat → Prop) (u9000_ : Value) (l1 : List Int) (r1 : Int) (r2 : Int) (r3 : Int) (r4 : Int) (r5 : Int) (r6 : Int) (r7 : Int) (r8 : Int) (r9 : Int) (r10 : Bool) (r11 : Int) (r12 : List Int) (w0 w : World) (hI : IsS46 w0 w g s0_0 s0_1 s0_2 s0_3 s0_4 s0_5 s0_6 s0_7 s0_8 s0_9 s0_10) (hB : Below w0.heap.size w0 w) (ho1 : Kd.R (Kd.int .i64) 3 w w0.heap.size P1_ u9000_ l1) (h : impl_Task_nobody.f s0_0 s0_1 s0_2 s0_3 s0_4 s0_5 s0_6 s0_7 s0_8 s0_9 s0_10 l1 = some (r1, r2, r3, r4, r5, r6, r7, r8, r9, r10, r11, r12)) :
  Calls Try.prog 87 #[.pointer (some ⟨g, 0, none⟩), u9000_] w fun e w' => e = .returned (.tuple #[]) ∧ IsS46 w0 w' g r1 r2 r3 r4 r5 r6 r7 r8 r9 r10 r11 ∧ Kd.R (Kd.int .i64) 3 w' w0.heap.size (fun k_ => (P1_ k_ ∨ w.heap.size ≤ k_)) u9000_ r12 ∧ Below w0.heap.size w0 w' ∧ Kept w w' (fun k_ => (P1_ k_) ∨ k_ = g) := by
 have HO1 := Aside0.mk (show Kd.R (Kd.int .i64) 3 w w0.heap.size (fun k_ => (P1_ k_ ∨ w.heap.size ≤ k_)) u9000_ l1 from Kd.R_mono ho1 (fun k_ hk => (.inl hk)))
 have HI0 := Aside0.mk hI
 have HL := Aside0.mk hB.size
 clear hI
 have HK := Aside0.mk (Kept.refl w (fun k_ => (P1_ k_) ∨ k_ = g))
 have HW0 := Aside0.mk hB.size
 have HB := Aside0.mk hB
 clear hB
 have H : (if s0_0 = 2 then ((impl_keyCell.f s0_3).bind fun t191 => ((impl_valCell.f s0_3).bind fun t192 => ((impl_wordCell.f s0_3).bind fun t193 => (if 0 ≤ t191 then (if t191 < (l1.length : Int) then (if 0 ≤ t192 then (if t192 < (l1.length : Int) then (if 0 ≤ t193 then (if t193 < (l1.length : Int) then (some (s0_0, s0_1, s0_2, s0_3, 4, s0_5, s0_6, s0_7, s0_8, s0_9, s0_10, (((l1.set (t191 : Int).toNat s0_1).set (t192 : Int).toNat s0_2).set (t193 : Int).toNat (wrap64 (2 * s0_6))))) else (none)) else (none)) else (none)) else (none)) else (none)) else (none))))) else ((impl_Task_done.f s0_0 s0_1 s0_2 s0_3 s0_4 s0_5 s0_6 s0_7 s0_8 s0_9 s0_10 0).bind fun bt197 => (some (bt197.1, bt197.2.1, bt197.2.2.1, bt197.2.2.2.1, bt197.2.2.2.2.1, bt197.2.2.2.2.2.1, bt197.2.2.2.2.2.2.1, bt197.2.2.2.2.2.2.2.1, bt197.2.2.2.2.2.2.2.2.1, bt197.2.2.2.2.2.2.2.2.2.1, bt197.2.2.2.2.2.2.2.2.2.2, l1)))) = some (r1, r2, r3, r4, r5, r6, r7, r8, r9, r10, r11, r12) := h
 clear h
 by_cases c3 : s0_0 = 2; rotate_left
 ·
  rw [if_neg c3] at H; have c3b0 : (s0_0 == 2) = false := beq_eq_false_iff_ne.mpr c3; have c3b1 : (s0_0 != 2) = true := bne_iff_ne.mpr c3; replace H := Option.bind_eq_some_iff.mp H; obtain ⟨⟨t197, t198, t199, t200, t201, t202, t203, t204, t205, t206, t207⟩, A230, H⟩ := H; replace H : (some (t197, t198, t199, t200, t201, t202, t203, t204, t205, t206, t207, l1)) = some (r1, r2, r3, r4, r5, r6, r7, r8, r9, r10, r11, r12) := H; have A23 := Aside0.mk A230; clear A230; simp only [Option.some.injEq, Prod.mk.injEq] at H; obtain ⟨rfl, rfl, rfl, rfl, rfl, rfl, rfl, rfl, rfl, rfl, rfl, rfl⟩ := H; obtain ⟨HGz24, hgz24⟩ := HI0.out; have hcz24_0 := cellS46_0 HGz24; have hcz24_1 := cellS46_1 HGz24; have hcz24_2 := cellS46_2 HGz24; have hcz24_3 := cellS46_3 HGz24; have hcz24_4 := cellS46_4 HGz24; have hcz24_5 := cellS46_5 HGz24; have hcz24_6 := cellS46_6 HGz24; have hcz24_7 := cellS46_7 HGz24; have hcz24_8 := cellS46_8 HGz24; have hcz24_9 := cellS46_9 HGz24; have hcz24_10 := cellS46_10 HGz24; have hfz24_0 := blk_frozen HGz24 0; have hfz24_1 := blk_frozen HGz24 1; have hfz24_2 := blk_frozen HGz24 2; have hfz24_3 := blk_frozen HGz24 3; have hfz24_4 := blk_frozen HGz24 4; have hfz24_5 := blk_frozen HGz24 5; have hfz24_6 := blk_frozen HGz24 6; have hfz24_7 := blk_frozen HGz24 7; have hfz24_8 := blk_frozen HGz24 8; have hfz24_9 := blk_frozen HGz24 9; have hfz24_10 := blk_frozen HGz24 10; clear HGz24 hgz24
  go_enter Try.func87, Try.ntmps87
  go_wp2_with (first | ((with_reducible refine gate_callee (f := 83) rfl ?_); refine goesL_ (some 10) rfl rfl Try.func83 (by kernel_rfl) rfl #[.pointer (some ⟨g, 0, none⟩), .int .i64 0] rfl (MA) ?_; (with_reducible refine (impl_Task_done.calls g s0_0 s0_1 s0_2 s0_3 s0_4 s0_5 s0_6 s0_7 s0_8 s0_9 s0_10 0 t197 t198 t199 t200 t201 t202 t203 t204 t205 t206 t207 w0 _ ?side1 ?side2 A23.out).mono ?_); (case side1 => repeat (first | (with_reducible first | exact HI0.out | apply IsS46.alloc | apply IsS46.drewN | apply IsS46.drew | apply IsS46.set_0 | apply IsS46.set_1 | apply IsS46.set_2 | apply IsS46.set_3 | apply IsS46.set_4 | apply IsS46.set_5 | apply IsS46.set_6 | apply IsS46.set_7 | apply IsS46.set_8 | apply IsS46.set_9 | apply IsS46.set_10) | exact HI0.out)); (case side2 => repeat (first | (with_reducible first | exact HB.out | apply below_alloc | apply pw_below_drewN | apply below_drew1 | refine below_set ?_ (IsS46.ge HI0.out)) | exact HB.out)); rintro e w25 ⟨rfl, hi, hb, hk⟩; refine ⟨_, rfl, ?_⟩; replace HO1 := Aside0.mk (Kd.R_mono (Kd.R_keep (IsS46.apart (show IsS46 w0 _ g s0_0 s0_1 s0_2 s0_3 s0_4 s0_5 s0_6 s0_7 s0_8 s0_9 s0_10 from impl_Task_nobody.k0 HI0.out) (RQ HO1.out) (by decide)) hk (fun _ h => h.2)) (fun _ h => h.1)); replace HK := Aside0.mk (Kept.of_keep (S := (fun k_ => (P1_ k_) ∨ k_ = g)) (impl_Task_nobody.k1 HK.out) hk (.inl (.inr rfl))); replace HB := Aside0.mk (hb); replace HI0 := Aside0.mk (hi); (try clear hb); (try clear hb2); (try clear hk); (try clear hi)))
  first | go_end0 | ((try simp only [Exit.inBlock, Exit.then]); refine bodyPost_ret (results_none rfl _ _ _) rfl ?_)
  exact ⟨EE, impl_Task_nobody.k0 HI0.out, RQ HO1.out, impl_Task_nobody.k2 HB.out, impl_Task_nobody.k1 HK.out⟩
 rw [if_pos c3] at H
 have c3b0 : (s0_0 == 2) = true := beq_iff_eq.mpr c3
 have c3b1 : (s0_0 != 2) = false := bne_eq_false_iff_eq.mpr c3
 clear c3
 replace H := Option.bind_eq_some_iff.mp H
 obtain ⟨t191, A40, H⟩ := H
 have A4 := Aside0.mk A40
 clear A40
 replace H := Option.bind_eq_some_iff.mp H
 obtain ⟨t192, A50, H⟩ := H
 have A5 := Aside0.mk A50
 clear A50
 replace H := Option.bind_eq_some_iff.mp H
 obtain ⟨t193, A60, H⟩ := H
 have A6 := Aside0.mk A60
 clear A60
 by_cases c7 : 0 ≤ t191; rotate_left
 ·
  rw [if_neg c7] at H; exact absurd H (by simp)
 rw [if_pos c7] at H
 have c7b0 : decide (0 ≤ t191) = true := decide_eq_true c7
 clear c7
 by_cases c8 : t191 < (l1.length : Int); rotate_left
 ·
  rw [if_neg c8] at H; exact absurd H (by simp)
 rw [if_pos c8] at H
 have c8b0 : decide (t191 < (l1.length : Int)) = true := decide_eq_true c8
 clear c8
 obtain ⟨y194, hy194⟩ : ∃ y_ : List Int, y_ = (l1.set (t191 : Int).toNat s0_1) := ⟨_, rfl⟩
 replace H : (if 0 ≤ t192 then (if t192 < (l1.length : Int) then (if 0 ≤ t193 then (if t193 < (l1.length : Int) then (some (s0_0, s0_1, s0_2, s0_3, 4, s0_5, s0_6, s0_7, s0_8, s0_9, s0_10, ((y194.set (t192 : Int).toNat s0_2).set (t193 : Int).toNat (wrap64 (2 * s0_6))))) else (none)) else (none)) else (none)) else (none)) = some (r1, r2, r3, r4, r5, r6, r7, r8, r9, r10, r11, r12) := by first | (rw [hy194]; with_reducible exact H) | (have H2_ := (Option.bind_some _ _).symm.trans H; rw [hy194]; with_reducible exact H2_) | (have H2_ := (Option.bind_some _ _).symm.trans H; with_reducible exact H2_) | with_reducible exact H | (rw [hy194]; exact H) | exact H
 have Ny194 := Aside0.mk hy194
 clear hy194
 by_cases c10 : 0 ≤ t192; rotate_left
 ·
  rw [if_neg c10] at H; exact absurd H (by simp)
 rw [if_pos c10] at H
 have c10b0 : decide (0 ≤ t192) = true := decide_eq_true c10
 clear c10
 by_cases c11 : t192 < (l1.length : Int); rotate_left
 ·
  rw [if_neg c11] at H; exact absurd H (by simp)
 rw [if_pos c11] at H
 have c11b0 : decide (t192 < (l1.length : Int)) = true := decide_eq_true c11
 clear c11
 obtain ⟨y195, hy195⟩ : ∃ y_ : List Int, y_ = (y194.set (t192 : Int).toNat s0_2) := ⟨_, rfl⟩
 replace H : (if 0 ≤ t193 then (if t193 < (l1.length : Int) then (some (s0_0, s0_1, s0_2, s0_3, 4, s0_5, s0_6, s0_7, s0_8, s0_9, s0_10, (y195.set (t193 : Int).toNat (wrap64 (2 * s0_6))))) else (none)) else (none)) = some (r1, r2, r3, r4, r5, r6, r7, r8, r9, r10, r11, r12) := by first | (rw [hy195]; with_reducible exact H) | (have H2_ := (Option.bind_some _ _).symm.trans H; rw [hy195]; with_reducible exact H2_) | (have H2_ := (Option.bind_some _ _).symm.trans H; with_reducible exact H2_) | with_reducible exact H | (rw [hy195]; exact H) | exact H
 have Ny195 := Aside0.mk hy195
 clear hy195
 by_cases c13 : 0 ≤ t193; rotate_left
 ·
  rw [if_neg c13] at H; exact absurd H (by simp)
 rw [if_pos c13] at H
 have c13b0 : decide (0 ≤ t193) = true := decide_eq_true c13
 clear c13
 by_cases c14 : t193 < (l1.length : Int); rotate_left
 ·
  rw [if_neg c14] at H; exact absurd H (by simp)
 rw [if_pos c14] at H
 have c14b0 : decide (t193 < (l1.length : Int)) = true := decide_eq_true c14
 clear c14
 obtain ⟨y196, hy196⟩ : ∃ y_ : List Int, y_ = (y195.set (t193 : Int).toNat (wrap64 (2 * s0_6))) := ⟨_, rfl⟩
 replace H : (some (s0_0, s0_1, s0_2, s0_3, 4, s0_5, s0_6, s0_7, s0_8, s0_9, s0_10, y196)) = some (r1, r2, r3, r4, r5, r6, r7, r8, r9, r10, r11, r12) := by first | (rw [hy196]; with_reducible exact H) | (have H2_ := (Option.bind_some _ _).symm.trans H; rw [hy196]; with_reducible exact H2_) | (have H2_ := (Option.bind_some _ _).symm.trans H; with_reducible exact H2_) | with_reducible exact H | (rw [hy196]; exact H) | exact H
 have Ny196 := Aside0.mk hy196
 clear hy196
 simp only [Option.some.injEq, Prod.mk.injEq] at H
 obtain ⟨rfl, rfl, rfl, rfl, rfl, rfl, rfl, rfl, rfl, rfl, rfl, rfl⟩ := H
 obtain ⟨HGz16, hgz16⟩ := HI0.out
 have hcz16_0 := cellS46_0 HGz16
 have hcz16_1 := cellS46_1 HGz16
 have hcz16_2 := cellS46_2 HGz16
 have hcz16_3 := cellS46_3 HGz16
 have hcz16_4 := cellS46_4 HGz16
 have hcz16_5 := cellS46_5 HGz16
 have hcz16_6 := cellS46_6 HGz16
 have hcz16_7 := cellS46_7 HGz16
 have hcz16_8 := cellS46_8 HGz16
 have hcz16_9 := cellS46_9 HGz16
 have hcz16_10 := cellS46_10 HGz16
 have hfz16_0 := blk_frozen HGz16 0
 have hfz16_1 := blk_frozen HGz16 1
 have hfz16_2 := blk_frozen HGz16 2
 have hfz16_3 := blk_frozen HGz16 3
 have hfz16_4 := blk_frozen HGz16 4
 have hfz16_5 := blk_frozen HGz16 5
 have hfz16_6 := blk_frozen HGz16 6
 have hfz16_7 := blk_frozen HGz16 7
 have hfz16_8 := blk_frozen HGz16 8
 have hfz16_9 := blk_frozen HGz16 9
 have hfz16_10 := blk_frozen HGz16 10
 clear HGz16 hgz16
 go_enter Try.func87, Try.ntmps87
 try go_wp2
 have n0_ := Aside0.mk (Kd.R_drew HO1.out)
 have n1_ := Aside0.mk (IsS46.drew HI0.out)
 have n2_ := Aside0.mk (Kept.drew HK.out)
 have n3_ := Aside0.mk (below_drew1 HB.out)
 clear HO1
 clear HI0
 clear HK
 clear HB
 have HO1 := n0_
 have HI0 := n1_
 have HK := n2_
 have HB := n3_
 clear n0_ n1_ n2_ n3_
 refine start_ (n := 37) (S := fun w' => w'.cell? ⟨g, 0, none⟩ = some (.int .i64 s0_0) ∧ w'.cell? ⟨g, 1, none⟩ = some (.int .i64 s0_1) ∧ w'.cell? ⟨g, 2, none⟩ = some (.int .i64 s0_2) ∧ w'.cell? ⟨g, 3, none⟩ = some (.int .i64 s0_3) ∧ w'.cell? ⟨g, 4, none⟩ = some (.int .i64 s0_4) ∧ w'.cell? ⟨g, 5, none⟩ = some (.int .i64 s0_5) ∧ w'.cell? ⟨g, 6, none⟩ = some (.int .i64 s0_6) ∧ w'.cell? ⟨g, 7, none⟩ = some (.int .i64 s0_7) ∧ w'.cell? ⟨g, 8, none⟩ = some (.int .i64 s0_8) ∧ w'.cell? ⟨g, 9, none⟩ = some (.bool s0_9) ∧ w'.cell? ⟨g, 10, none⟩ = some (.int .i64 s0_10)) (ds := [32, 34, 36]) #[false, false, false, false, false, false, false, false, false, false, false, false, false, false, false, false, false, false, false, false, false, false, false, false, false, false, false, false, false, false, false, false, false, false, false, false, false] (by kernel_rfl) rfl rfl ⟨(blk_cell (Aside0.mk (HI0.out).1).out 0).trans rfl, (blk_cell (Aside0.mk (HI0.out).1).out 1).trans rfl, (blk_cell (Aside0.mk (HI0.out).1).out 2).trans rfl, (blk_cell (Aside0.mk (HI0.out).1).out 3).trans rfl, (blk_cell (Aside0.mk (HI0.out).1).out 4).trans rfl, (blk_cell (Aside0.mk (HI0.out).1).out 5).trans rfl, (blk_cell (Aside0.mk (HI0.out).1).out 6).trans rfl, (blk_cell (Aside0.mk (HI0.out).1).out 7).trans rfl, (blk_cell (Aside0.mk (HI0.out).1).out 8).trans rfl, (blk_cell (Aside0.mk (HI0.out).1).out 9).trans rfl, (blk_cell (Aside0.mk (HI0.out).1).out 10).trans rfl⟩ (fun hHeld => ?_); refine with_tabW impl_Task_nobody.tab2 impl_Task_nobody.bits2 (fun HT_ HW_ => ?_)
 generalize w.drew = w17 at HO1 HI0 HK HB hHeld ⊢
 refine pV 0 11 (OB 37 1) ?_
 refine pV 1 12 (OB 37 3) ?_
 refine pV 2 13 (OB 37 7) ?_
 refine pV 3 14 (OB 37 15) ?_
 refine pV 6 17 (OB 37 79) ?_
 refine pV 7 18 (OB 37 207) ?_
 refine pV 8 19 (OB 37 463) ?_
 refine pV 9 20 (OB 37 975) ?_
 refine pV 12 23 (OB 37 5071) ?_
 refine pV 13 24 (OB 37 13263) ?_
 refine pV 14 25 (OB 37 29647) ?_
 refine pV 15 26 (OB 37 62415) ?_
 refine pV 18 29 (OB 37 324559) ?_
 refine pV 19 30 (OB 37 848847) ?_
 refine pV 20 31 (OB 37 1897423) ?_
 refine pV 22 33 (OB 37 6091727) ?_
 refine pV 23 34 (OB 37 14480335) ?_
 refine pV 24 35 (OB 37 31257551) ?_
 refine pV 26 37 (OB 37 98366415) ?_
 refine pV 27 38 (OB 37 232584143) ?_
 refine pV 28 39 (OB 37 501019599) ?_
 refine take_ (i := 4) (N := some 15) (v := ?_) (a' := ?_) (OB 37 501019615) rfl rfl (take_ofW HT_.out HW_.out (by kernel_rfl)) (fun _ _ _ h => h) (Or.inl ⟨by rfl, ?_⟩) hHeld ?_ ?_
 rotate_left
 ·
  rintro w' ⟨s0, s1, s2, s3, s4, s5, s6, s7, s8, s9, s10⟩
  go_simp
  with_reducible rfl
 rotate_left
 ·
  simp only [Act.put, zA, zB, zC, i64_w, i32_w]; rfl
 refine take_ (i := 10) (N := some 21) (v := ?_) (a' := ?_) (OB 37 501020639) rfl rfl (take_ofW HT_.out HW_.out (by kernel_rfl)) (fun _ _ _ h => h) (Or.inl ⟨by rfl, ?_⟩) hHeld ?_ ?_
 rotate_left
 ·
  rintro w' ⟨s0, s1, s2, s3, s4, s5, s6, s7, s8, s9, s10⟩
  go_simp
  with_reducible rfl
 rotate_left
 ·
  simp only [Act.put, zA, zB, zC, i64_w, i32_w]; rfl
 refine take_ (i := 16) (N := some 27) (v := ?_) (a' := ?_) (OB 37 501086175) rfl rfl (take_ofW HT_.out HW_.out (by kernel_rfl)) (fun _ _ _ h => h) (Or.inl ⟨by rfl, ?_⟩) hHeld ?_ ?_
 rotate_left
 ·
  rintro w' ⟨s0, s1, s2, s3, s4, s5, s6, s7, s8, s9, s10⟩
  go_simp
  with_reducible rfl
 rotate_left
 ·
  simp only [Act.put, zA, zB, zC, i64_w, i32_w]; rfl
 refine take_ (i := 21) (N := some 32) (v := ?_) (a' := ?_) (OB 37 503183327) rfl rfl (take_ofW HT_.out HW_.out (by kernel_rfl)) (fun _ _ _ h => h) (Or.inl ⟨by rfl, ?_⟩) hHeld ?_ ?_
 rotate_left
 ·
  rintro w' ⟨s0, s1, s2, s3, s4, s5, s6, s7, s8, s9, s10⟩
  go_simp
  with_reducible rfl
 rotate_left
 ·
  simp only [Act.put, zA, zB, zC, i64_w, i32_w]; rfl
 refine take_ (i := 25) (N := some 36) (v := ?_) (a' := ?_) (OB 37 536737759) rfl rfl (take_ofW HT_.out HW_.out (by kernel_rfl)) (fun _ _ _ h => h) (Or.inl ⟨by rfl, ?_⟩) hHeld ?_ ?_
 rotate_left
 ·
  rintro w' ⟨s0, s1, s2, s3, s4, s5, s6, s7, s8, s9, s10⟩
  go_simp
  with_reducible rfl
 rotate_left
 ·
  simp only [Act.put, zA, zB, zC, i64_w, i32_w]; rfl
 refine take_ (i := 29) (N := some 40) (v := ?_) (a' := ?_) (OB 37 1073608671) rfl rfl (take_ofW HT_.out HW_.out (by kernel_rfl)) (fun _ _ _ h => h) (Or.inl ⟨by rfl, ?_⟩) hHeld ?_ ?_
 rotate_left
 ·
  rintro w' ⟨s0, s1, s2, s3, s4, s5, s6, s7, s8, s9, s10⟩
  go_simp
  with_reducible rfl
 rotate_left
 ·
  simp only [Act.put, zA, zB, zC, i64_w, i32_w]; rfl
 refine pV 30 41 (OB 37 2147350495) ?_
 refine one_ (i := 5) (N := some 16) (OB 37 2147350527) rfl rfl (one_of HT_.out (by kernel_rfl)) (by decide) (fun K hK => ?_)
 refine goes_ Try.func66 (by kernel_rfl) rfl #[.int .i64 s0_3] (by rfl) rfl rfl (MA) ?_
 with_reducible refine (impl_keyCell.calls s0_3 t191 _ A4.out).mono ?_
 rintro e w17 ⟨rfl, ⟨nd, hq_⟩⟩
 replace hq_ := hq_.symm
 replace HO1 := Aside0.mk (Kd.R_at hq_ HO1.out)
 replace HI0 := Aside0.mk (IsS46.at_ hq_ HI0.out)
 replace HK := Aside0.mk (kept_at hq_ HK.out)
 replace HB := Aside0.mk (below_at hq_ HB.out)
 clear hq_
 refine ⟨_, rfl, ?_⟩
 refine hK.out _ _ ⟨(blk_cell (Aside0.mk (HI0.out).1).out 0).trans rfl, (blk_cell (Aside0.mk (HI0.out).1).out 1).trans rfl, (blk_cell (Aside0.mk (HI0.out).1).out 2).trans rfl, (blk_cell (Aside0.mk (HI0.out).1).out 3).trans rfl, (blk_cell (Aside0.mk (HI0.out).1).out 4).trans rfl, (blk_cell (Aside0.mk (HI0.out).1).out 5).trans rfl, (blk_cell (Aside0.mk (HI0.out).1).out 6).trans rfl, (blk_cell (Aside0.mk (HI0.out).1).out 7).trans rfl, (blk_cell (Aside0.mk (HI0.out).1).out 8).trans rfl, (blk_cell (Aside0.mk (HI0.out).1).out 9).trans rfl, (blk_cell (Aside0.mk (HI0.out).1).out 10).trans rfl⟩ (fun hHeld => ?_)
 clear hK K
 refine norm_ (a' := ?_) ?_ ?_
 rotate_left
 ·
  show Act.put _ (some 16) _ = _; simp only [Act.put, zA, zB, zC, i64_w, i32_w]; rfl
 refine one_ (i := 11) (N := some 22) (OB 37 2147352575) rfl rfl (one_of HT_.out (by kernel_rfl)) (by decide) (fun K hK => ?_)
 refine goes_ Try.func67 (by kernel_rfl) rfl #[.int .i64 s0_3] (by rfl) rfl rfl (MA) ?_
 with_reducible refine (impl_valCell.calls s0_3 t192 _ A5.out).mono ?_
 rintro e w17 ⟨rfl, ⟨nd, hq_⟩⟩
 replace hq_ := hq_.symm
 replace HO1 := Aside0.mk (Kd.R_at hq_ HO1.out)
 replace HI0 := Aside0.mk (IsS46.at_ hq_ HI0.out)
 replace HK := Aside0.mk (kept_at hq_ HK.out)
 replace HB := Aside0.mk (below_at hq_ HB.out)
 clear hq_
 refine ⟨_, rfl, ?_⟩
 refine hK.out _ _ ⟨(blk_cell (Aside0.mk (HI0.out).1).out 0).trans rfl, (blk_cell (Aside0.mk (HI0.out).1).out 1).trans rfl, (blk_cell (Aside0.mk (HI0.out).1).out 2).trans rfl, (blk_cell (Aside0.mk (HI0.out).1).out 3).trans rfl, (blk_cell (Aside0.mk (HI0.out).1).out 4).trans rfl, (blk_cell (Aside0.mk (HI0.out).1).out 5).trans rfl, (blk_cell (Aside0.mk (HI0.out).1).out 6).trans rfl, (blk_cell (Aside0.mk (HI0.out).1).out 7).trans rfl, (blk_cell (Aside0.mk (HI0.out).1).out 8).trans rfl, (blk_cell (Aside0.mk (HI0.out).1).out 9).trans rfl, (blk_cell (Aside0.mk (HI0.out).1).out 10).trans rfl⟩ (fun hHeld => ?_)
 clear hK K
 refine norm_ (a' := ?_) ?_ ?_
 rotate_left
 ·
  show Act.put _ (some 22) _ = _; simp only [Act.put, zA, zB, zC, i64_w, i32_w]; rfl
 refine one_ (i := 17) (N := some 28) (OB 37 2147483647) rfl rfl (one_of HT_.out (by kernel_rfl)) (by decide) (fun K hK => ?_)
 refine goes_ Try.func76 (by kernel_rfl) rfl #[.int .i64 s0_3] (by rfl) rfl rfl (MA) ?_
 with_reducible refine (impl_wordCell.calls s0_3 t193 _ A6.out).mono ?_
 rintro e w17 ⟨rfl, ⟨nd, hq_⟩⟩
 replace hq_ := hq_.symm
 replace HO1 := Aside0.mk (Kd.R_at hq_ HO1.out)
 replace HI0 := Aside0.mk (IsS46.at_ hq_ HI0.out)
 replace HK := Aside0.mk (kept_at hq_ HK.out)
 replace HB := Aside0.mk (below_at hq_ HB.out)
 clear hq_
 refine ⟨_, rfl, ?_⟩
 have p9 : 0 ≤ (t191 : Int) := of_decide_eq_true AS
 have q9 : (t191 : Int) < ((l1.length : Int) : Int) := of_decide_eq_true AS
 obtain ⟨go9, co9, eo9, gb9, gl9, cl9, HG9⟩ := Kd.R_form HO1.out (by omega)
 (first | cases eo9 | (injection eo9 with ea_ en_ ec_; (first | subst ea_ | (injection ea_ with ea_; subst ea_)); subst ec_; clear en_))
 have GB9 := Aside0.mk gb9
 have GG9 := Aside0.mk HG9
 clear gb9 gl9 HG9
 have HMgo9 := Aside0.mk (show (P1_ go9 ∨ w.heap.size ≤ go9) from (HO1.out.1 _ rfl))
 obtain ⟨hx9_0, hf9_0⟩ := Kd.R_celln 0 HO1.out (t191 : Int) p9 q9
 replace p9 := eq_true p9
 replace q9 := eq_true q9
 have HN0_go9 := Aside0.mk (show g ≠ go9 from by have h_ := IsS46.own_ne HI0.out HO1.out (by decide); intro e_; exact h_ (by rw [e_]; rfl))
 have HP18 := Kd.R_putn HO1.out (t191 : Int) s0_1
 rw [← Ny194.out] at HP18
 have HQ18 := Aside0.mk HP18
 clear HP18
 have p12 : 0 ≤ (t192 : Int) := of_decide_eq_true AS
 have q12 : (t192 : Int) < ((l1.length : Int) : Int) := of_decide_eq_true AS
 obtain ⟨hx12_0, hf12_0⟩ := Kd.R_celln 0 HQ18.out (t192 : Int) p12 q12
 replace p12 := eq_true p12
 replace q12 := eq_true q12
 have HN0_go9 := Aside0.mk (show g ≠ go9 from by have h_ := IsS46.own_ne HI0.out HO1.out (by decide); intro e_; exact h_ (by rw [e_]; rfl))
 have HP19 := Kd.R_putn HQ18.out (t192 : Int) s0_2
 rw [← Ny195.out] at HP19
 have HQ19 := Aside0.mk HP19
 clear HP19
 have p15 : 0 ≤ (t193 : Int) := of_decide_eq_true AS
 have q15 : (t193 : Int) < ((l1.length : Int) : Int) := of_decide_eq_true AS
 obtain ⟨hx15_0, hf15_0⟩ := Kd.R_celln 0 HQ19.out (t193 : Int) p15 q15
 replace p15 := eq_true p15
 replace q15 := eq_true q15
 have HN0_go9 := Aside0.mk (show g ≠ go9 from by have h_ := IsS46.own_ne HI0.out HO1.out (by decide); intro e_; exact h_ (by rw [e_]; rfl))
 have HP20 := Kd.R_putn HQ19.out (t193 : Int) (wrap64 (2 * s0_6))
 rw [← Ny196.out] at HP20
 have HQ20 := Aside0.mk HP20
 clear HP20
 refine hK.out _ _ ⟨(blk_cell (Aside0.mk (HI0.out).1).out 0).trans rfl, (blk_cell (Aside0.mk (HI0.out).1).out 1).trans rfl, (blk_cell (Aside0.mk (HI0.out).1).out 2).trans rfl, (blk_cell (Aside0.mk (HI0.out).1).out 3).trans rfl, (blk_cell (Aside0.mk (HI0.out).1).out 4).trans rfl, (blk_cell (Aside0.mk (HI0.out).1).out 5).trans rfl, (blk_cell (Aside0.mk (HI0.out).1).out 6).trans rfl, (blk_cell (Aside0.mk (HI0.out).1).out 7).trans rfl, (blk_cell (Aside0.mk (HI0.out).1).out 8).trans rfl, (blk_cell (Aside0.mk (HI0.out).1).out 9).trans rfl, (blk_cell (Aside0.mk (HI0.out).1).out 10).trans rfl⟩ (fun hHeld => ?_)
 clear hK K
 refine norm_ (a' := ?_) ?_ ?_
 rotate_left
 ·
  show Act.put _ (some 28) _ = _; simp only [Act.put, zA, zB, zC, i64_w, i32_w]; rfl
 refine pV 31 42 (OB 37 4294967295) ?_
 refine last_ (i := 32) (N := none) #[true, true, true, true, true, true, true, true, true, true, true, true, true, true, true, true, true, true, true, true, true, true, true, true, true, true, true, true, true, true, true, true, true, false, false, false, false] rfl rfl (one_of HT_.out (by kernel_rfl)) (by decide) (fun K hK => ?_)
 refine skip_ (w1 := ?_) (by rfl) rfl ?_ ?_
 rotate_left
 ·
  go_simp
  rfl
 refine hK.out _ _ ?_
 clear hK K
 refine pV 33 43 (OB 37 17179869183) ?_
 refine last_ (i := 34) (N := none) #[true, true, true, true, true, true, true, true, true, true, true, true, true, true, true, true, true, true, true, true, true, true, true, true, true, true, true, true, true, true, true, true, true, true, true, false, false] rfl rfl (one_of HT_.out (by kernel_rfl)) (by decide) (fun K hK => ?_)
 refine skip_ (w1 := ?_) (by rfl) rfl ?_ ?_
 rotate_left
 ·
  go_simp
  rfl
 refine hK.out _ _ ?_
 clear hK K
 refine pV 35 44 (OB 37 68719476735) ?_
 refine last_ (i := 36) (N := none) #[true, true, true, true, true, true, true, true, true, true, true, true, true, true, true, true, true, true, true, true, true, true, true, true, true, true, true, true, true, true, true, true, true, true, true, true, true] rfl rfl (one_of HT_.out (by kernel_rfl)) (by decide) (fun K hK => ?_)
 refine skip_ (w1 := ?_) (by rfl) rfl ?_ ?_
 rotate_left
 ·
  go_simp
  rfl
 refine hK.out _ _ ?_
 clear hK K
 refine done_ (done_of HT_.out (by kernel_rfl)) ?_
 have n0_ : Aside0 (Kd.R (Kd.int .i64) 3 (((w17.setCell ⟨go9, (t191 : Int).toNat, none⟩ (.int .i64 s0_1)).setCell ⟨go9, (t192 : Int).toNat, none⟩ (.int .i64 s0_2)).setCell ⟨go9, (t193 : Int).toNat, none⟩ (.int .i64 (wrap64 (2 * s0_6)))) w0.heap.size (fun k_ => (P1_ k_ ∨ w.heap.size ≤ k_)) (.slice (some ⟨go9, 0, none⟩) l1.length co9) y196) := ⟨RQ HQ20.out⟩
 have n1_ : Aside0 (IsS46 w0 (((w17.setCell ⟨go9, (t191 : Int).toNat, none⟩ (.int .i64 s0_1)).setCell ⟨go9, (t192 : Int).toNat, none⟩ (.int .i64 s0_2)).setCell ⟨go9, (t193 : Int).toNat, none⟩ (.int .i64 (wrap64 (2 * s0_6)))) g s0_0 s0_1 s0_2 s0_3 s0_4 s0_5 s0_6 s0_7 s0_8 s0_9 s0_10) := ⟨by repeat (first | (with_reducible first | exact HI0.out | apply IsS46.alloc | apply IsS46.drewN | apply IsS46.drew | apply IsS46.set_0 | apply IsS46.set_1 | apply IsS46.set_2 | apply IsS46.set_3 | apply IsS46.set_4 | apply IsS46.set_5 | apply IsS46.set_6 | apply IsS46.set_7 | apply IsS46.set_8 | apply IsS46.set_9 | apply IsS46.set_10 | refine IsS46.far ?_ HN0_go9.out _ | refine IsS46.far ?_ HN0_go9.out _ | refine IsS46.far ?_ HN0_go9.out _) | exact HI0.out)⟩
 have n2_ : Aside0 (Kept w (((w17.setCell ⟨go9, (t191 : Int).toNat, none⟩ (.int .i64 s0_1)).setCell ⟨go9, (t192 : Int).toNat, none⟩ (.int .i64 s0_2)).setCell ⟨go9, (t193 : Int).toNat, none⟩ (.int .i64 (wrap64 (2 * s0_6)))) (fun k_ => (P1_ k_) ∨ k_ = g)) := ⟨by repeat (first | (with_reducible first | exact HK.out | apply Kept.alloc | apply Kept.drewN | apply Kept.drew | refine Kept.setCell ?_ (Or.imp_left Or.inl HMgo9.out) _ | refine Kept.setCell ?_ (Or.imp_left Or.inl HMgo9.out) _ | refine Kept.setCell ?_ (Or.imp_left Or.inl HMgo9.out) _ | refine Kept.setCell ?_ (.inl (.inr rfl)) _) | exact HK.out)⟩
 have n3_ : Aside0 (Below w0.heap.size w0 (((w17.setCell ⟨go9, (t191 : Int).toNat, none⟩ (.int .i64 s0_1)).setCell ⟨go9, (t192 : Int).toNat, none⟩ (.int .i64 s0_2)).setCell ⟨go9, (t193 : Int).toNat, none⟩ (.int .i64 (wrap64 (2 * s0_6))))) := ⟨by repeat (first | (with_reducible first | exact HB.out | apply below_alloc | apply pw_below_drewN | apply below_drew1 | refine below_set ?_ GB9.out | refine below_set ?_ GB9.out | refine below_set ?_ GB9.out | refine below_set ?_ (IsS46.ge HI0.out)) | exact HB.out)⟩
 (try clear HO1)
 (try clear HI0)
 (try clear HK)
 (try clear HB)
 generalize (((w17.setCell ⟨go9, (t191 : Int).toNat, none⟩ (.int .i64 s0_1)).setCell ⟨go9, (t192 : Int).toNat, none⟩ (.int .i64 s0_2)).setCell ⟨go9, (t193 : Int).toNat, none⟩ (.int .i64 (wrap64 (2 * s0_6)))) = w21 at n0_ n1_ n2_ n3_ ⊢
 have HO1 := n0_
 have HI0 := n1_
 have HK := n2_
 have HB := n3_
 clear n0_ n1_ n2_ n3_
 obtain ⟨HGz22, hgz22⟩ := HI0.out
 have hcz22_0 := cellS46_0 HGz22
 have hcz22_1 := cellS46_1 HGz22
 have hcz22_2 := cellS46_2 HGz22
 have hcz22_3 := cellS46_3 HGz22
 have hcz22_4 := cellS46_4 HGz22
 have hcz22_5 := cellS46_5 HGz22
 have hcz22_6 := cellS46_6 HGz22
 have hcz22_7 := cellS46_7 HGz22
 have hcz22_8 := cellS46_8 HGz22
 have hcz22_9 := cellS46_9 HGz22
 have hcz22_10 := cellS46_10 HGz22
 have hfz22_0 := blk_frozen HGz22 0
 have hfz22_1 := blk_frozen HGz22 1
 have hfz22_2 := blk_frozen HGz22 2
 have hfz22_3 := blk_frozen HGz22 3
 have hfz22_4 := blk_frozen HGz22 4
 have hfz22_5 := blk_frozen HGz22 5
 have hfz22_6 := blk_frozen HGz22 6
 have hfz22_7 := blk_frozen HGz22 7
 have hfz22_8 := blk_frozen HGz22 8
 have hfz22_9 := blk_frozen HGz22 9
 have hfz22_10 := blk_frozen HGz22 10
 clear HGz22 hgz22
 try go_wp2
 first | go_end0 | ((try simp only [Exit.inBlock, Exit.then]); refine bodyPost_ret (results_none rfl _ _ _) rfl ?_)
 exact ⟨EE, impl_Task_nobody.k0 HI0.out, by (with_reducible repeat (first | apply r1 | apply r2 | apply r3)); exact Kd.R_mono (Kd.R_far (p := ⟨g, 4, none⟩) (IsS46.apart HI0.out HO1.out (by decide)) (fun _ hk => hk.2) (.int .i64 4)) (fun _ hk => hk.1), impl_Task_nobody.k2 HB.out, impl_Task_nobody.k1 HK.out⟩

end Go.Proofs.Ytjmggbhgmenmcaa.Qal
