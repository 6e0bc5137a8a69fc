-- Laid by myprint.py, a program of this session's own, over the kit's print. Not trusted: Lean checks it.
import Derived.Test.YtjmggbhgmenmcaaQstx0
import Derived.Test.YtjmggbhgmenmcaaQstx4
import Derived.Test.YtjmggbhgmenmcaaQstx6
namespace Go.Proofs.Ytjmggbhgmenmcaa.Qst
open Go.RowKit Go.Proofs.YtjmggbhgmenmcaaW.PrintWords Go.Proofs.YtjmggbhgmenmcaaW.PrintLast Go.Proofs.YtjmggbhgmenmcaaW.PrintMore
attribute [local go_sem] Go.Proofs.Ytjmggbhgmenmcaa.StrCmp.gtr_less Go.Proofs.Ytjmggbhgmenmcaa.StrCmp.geq_less Go.Proofs.Ytjmggbhgmenmcaa.StrCmp.leq_less max2_int min2_int max_two min_two max_three min_three max_four min_four   -- for this text's walks alone
set_option linter.unusedVariables false
set_option linter.unusedSimpArgs false

/-! ### spec_l01Below: function 59 -/
def spec_l01Below.f (s0_0 : List Int) (s0_1 : Int) (s0_2 : Int) (a1 : Int) : Option (Int × Int × Int) := if a1 ≤ 0 then (some (0, s0_1, s0_2)) else (if a1 ≤ 256 then ((spec_l01Byte.f s0_0 s0_1 s0_2).bind fun bt449 => (if a1 = 0 then (none) else (some (Int.tmod bt449.1 a1, bt449.2.1, bt449.2.2)))) else ((spec_l01Byte.f s0_0 s0_1 s0_2).bind fun bt452 => ((spec_l01Byte.f s0_0 bt452.2.1 bt452.2.2).bind fun bt455 => ((spec_l01Byte.f s0_0 bt455.2.1 bt455.2.2).bind fun bt458 => ((spec_l01Byte.f s0_0 bt458.2.1 bt458.2.2).bind fun bt461 => (if a1 = 0 then (none) else (some (Int.tmod (wrap64 ((wrap64 ((wrap64 ((wrap64 (bt452.1 * 16777216)) + (wrap64 (bt455.1 * 65536)))) + (wrap64 (bt458.1 * 256)))) + bt461.1)) a1, bt461.2.1, bt461.2.2))))))))
theorem spec_l01Below.k0 {p q : Prop} (h : q) (k : q → p := by intro h_; repeat (first | (with_reducible first | exact h_ | apply IsS80.alloc | apply IsS80.drewN | apply IsS80.drew | apply IsS80.set_1 | apply IsS80.set_2) | exact h_)) : p := k h
theorem spec_l01Below.k1 {p q : Prop} (h : q) (k : q → p := by intro h_; repeat (first | (with_reducible first | exact h_ | apply below_alloc | apply pw_below_drewN | apply below_drew1 | refine below_set ?_ (IsS80.ge HI0.out)) | exact h_)) : p := k h
theorem spec_l01Below.k2 {p q : Prop} (h : q) (k : q → p := by intro h_; repeat (first | (with_reducible first | exact h_ | apply KeepBut.set_ | apply keep_drewN | apply keep_drew | apply keep_alloc) | exact h_)) : p := k h
set_option maxHeartbeats 8000000 in
set_option maxRecDepth 100000 in
theorem spec_l01Below.calls (g : Nat) (s0_0 : List Int) (s0_1 : Int) (s0_2 : Int) (a1 : Int) (r1 : Int) (r2 : Int) (r3 : Int) (w0 w : World) (hI : IsS80 w0 w g s0_0 s0_1 s0_2) (hB : Below w0.heap.size w0 w) (h : spec_l01Below.f s0_0 s0_1 s0_2 a1 = some (r1, r2, r3)) :
  Calls Try.prog 59 #[.pointer (some ⟨g, 0, none⟩), .int .i64 a1] w fun e w' => e = .returned (.int .i64 r1) ∧ IsS80 w0 w' g s0_0 r2 r3 ∧ Below w0.heap.size w0 w' ∧ KeepBut w w' g none := by
 have HI0 := Aside0.mk hI
 have HK := Aside0.mk (KeepBut.refl w g none)
 have HL := Aside0.mk hB.size
 clear hI
 have HW0 := Aside0.mk hB.size
 have HB := Aside0.mk hB
 clear hB
 have H : (if a1 ≤ 0 then (some (0, s0_1, s0_2)) else (if a1 ≤ 256 then ((spec_l01Byte.f s0_0 s0_1 s0_2).bind fun bt449 => (if a1 = 0 then (none) else (some (Int.tmod bt449.1 a1, bt449.2.1, bt449.2.2)))) else ((spec_l01Byte.f s0_0 s0_1 s0_2).bind fun bt452 => ((spec_l01Byte.f s0_0 bt452.2.1 bt452.2.2).bind fun bt455 => ((spec_l01Byte.f s0_0 bt455.2.1 bt455.2.2).bind fun bt458 => ((spec_l01Byte.f s0_0 bt458.2.1 bt458.2.2).bind fun bt461 => (if a1 = 0 then (none) else (some (Int.tmod (wrap64 ((wrap64 ((wrap64 ((wrap64 (bt452.1 * 16777216)) + (wrap64 (bt455.1 * 65536)))) + (wrap64 (bt458.1 * 256)))) + bt461.1)) a1, bt461.2.1, bt461.2.2))))))))) = some (r1, r2, r3) := h
 clear h
 by_cases c3 : a1 ≤ 0
 ·
  rw [if_pos c3] at H; have c3b0 : decide (a1 ≤ 0) = true := decide_eq_true c3; clear c3; simp only [Option.some.injEq, Prod.mk.injEq] at H; obtain ⟨rfl, rfl, rfl⟩ := H
  go_enter Try.func59, Try.ntmps59
  go_wp2
  go_ret
  exact ⟨EE, spec_l01Below.k0 HI0.out, spec_l01Below.k1 HB.out, spec_l01Below.k2 HK.out⟩
 rw [if_neg c3] at H
 have c3b0 : decide (a1 ≤ 0) = false := decide_eq_false c3
 clear c3
 by_cases c4 : a1 ≤ 256
 ·
  rw [if_pos c4] at H; have c4b0 : decide (a1 ≤ 256) = true := decide_eq_true c4; clear c4; replace H := Option.bind_eq_some_iff.mp H; obtain ⟨⟨t449, t450, t451⟩, A50, H⟩ := H; replace H : (if a1 = 0 then (none) else (some (Int.tmod t449 a1, t450, t451))) = some (r1, r2, r3) := H; have A5 := Aside0.mk A50; clear A50
  by_cases c6 : a1 = 0
  ·
   rw [if_pos c6] at H; exact absurd H (by simp)
  rw [if_neg c6] at H; have c6b0 : (a1 == 0) = false := beq_eq_false_iff_ne.mpr c6; have c6b1 : (a1 != 0) = true := bne_iff_ne.mpr c6; simp only [Option.some.injEq, Prod.mk.injEq] at H; obtain ⟨rfl, rfl, rfl⟩ := H
  go_enter Try.func59, Try.ntmps59
  go_wp2_with (first | ((with_reducible refine gate_callee (f := 58) rfl ?_); refine goesL_ (some 14) rfl rfl Try.func58 (by kernel_rfl) rfl #[.pointer (some ⟨g, 0, none⟩)] rfl (MA) ?_; (with_reducible refine (spec_l01Byte.calls g s0_0 s0_1 s0_2 t449 t450 t451 w0 _ ?side1 ?side2 A5.out).mono ?_); (case side1 => exact spec_l01Below.k0 HI0.out); (case side2 => exact spec_l01Below.k1 HB.out); rintro e w7 ⟨rfl, hi, hb, hk⟩; refine ⟨_, rfl, ?_⟩; replace HK := Aside0.mk (KeepBut.trans (spec_l01Below.k2 HK.out) hk (.inl rfl)); replace HB := Aside0.mk (hb); replace HI0 := Aside0.mk (hi); (try clear hb); (try clear hb2); (try clear hk); (try clear hi)))
  go_ret
  exact ⟨EE, spec_l01Below.k0 HI0.out, spec_l01Below.k1 HB.out, spec_l01Below.k2 HK.out⟩
 rw [if_neg c4] at H
 have c4b0 : decide (a1 ≤ 256) = false := decide_eq_false c4
 clear c4
 replace H := Option.bind_eq_some_iff.mp H
 obtain ⟨⟨t452, t453, t454⟩, A80, H⟩ := H
 replace H : ((spec_l01Byte.f s0_0 t453 t454).bind fun bt455 => ((spec_l01Byte.f s0_0 bt455.2.1 bt455.2.2).bind fun bt458 => ((spec_l01Byte.f s0_0 bt458.2.1 bt458.2.2).bind fun bt461 => (if a1 = 0 then (none) else (some (Int.tmod (wrap64 ((wrap64 ((wrap64 ((wrap64 (t452 * 16777216)) + (wrap64 (bt455.1 * 65536)))) + (wrap64 (bt458.1 * 256)))) + bt461.1)) a1, bt461.2.1, bt461.2.2)))))) = some (r1, r2, r3) := H
 have A8 := Aside0.mk A80
 clear A80
 replace H := Option.bind_eq_some_iff.mp H
 obtain ⟨⟨t455, t456, t457⟩, A90, H⟩ := H
 replace H : ((spec_l01Byte.f s0_0 t456 t457).bind fun bt458 => ((spec_l01Byte.f s0_0 bt458.2.1 bt458.2.2).bind fun bt461 => (if a1 = 0 then (none) else (some (Int.tmod (wrap64 ((wrap64 ((wrap64 ((wrap64 (t452 * 16777216)) + (wrap64 (t455 * 65536)))) + (wrap64 (bt458.1 * 256)))) + bt461.1)) a1, bt461.2.1, bt461.2.2))))) = some (r1, r2, r3) := H
 have A9 := Aside0.mk A90
 clear A90
 replace H := Option.bind_eq_some_iff.mp H
 obtain ⟨⟨t458, t459, t460⟩, A100, H⟩ := H
 replace H : ((spec_l01Byte.f s0_0 t459 t460).bind fun bt461 => (if a1 = 0 then (none) else (some (Int.tmod (wrap64 ((wrap64 ((wrap64 ((wrap64 (t452 * 16777216)) + (wrap64 (t455 * 65536)))) + (wrap64 (t458 * 256)))) + bt461.1)) a1, bt461.2.1, bt461.2.2)))) = some (r1, r2, r3) := H
 have A10 := Aside0.mk A100
 clear A100
 replace H := Option.bind_eq_some_iff.mp H
 obtain ⟨⟨t461, t462, t463⟩, A110, H⟩ := H
 replace H : (if a1 = 0 then (none) else (some (Int.tmod (wrap64 ((wrap64 ((wrap64 ((wrap64 (t452 * 16777216)) + (wrap64 (t455 * 65536)))) + (wrap64 (t458 * 256)))) + t461)) a1, t462, t463))) = some (r1, r2, r3) := H
 have A11 := Aside0.mk A110
 clear A110
 by_cases c12 : a1 = 0
 ·
  rw [if_pos c12] at H; exact absurd H (by simp)
 rw [if_neg c12] at H
 have c12b0 : (a1 == 0) = false := beq_eq_false_iff_ne.mpr c12
 have c12b1 : (a1 != 0) = true := bne_iff_ne.mpr c12
 simp only [Option.some.injEq, Prod.mk.injEq] at H
 obtain ⟨rfl, rfl, rfl⟩ := H
 go_enter Try.func59, Try.ntmps59
 go_wp2_with (first | ((with_reducible refine gate_callee (f := 58) rfl ?_); refine goesL_ (some 18) rfl rfl Try.func58 (by kernel_rfl) rfl #[.pointer (some ⟨g, 0, none⟩)] rfl (MA) ?_; (with_reducible refine (spec_l01Byte.calls g s0_0 s0_1 s0_2 t452 t453 t454 w0 _ ?side1 ?side2 A8.out).mono ?_); (case side1 => exact spec_l01Below.k0 HI0.out); (case side2 => exact spec_l01Below.k1 HB.out); rintro e w13 ⟨rfl, hi, hb, hk⟩; refine ⟨_, rfl, ?_⟩; replace HK := Aside0.mk (KeepBut.trans (spec_l01Below.k2 HK.out) hk (.inl rfl)); replace HB := Aside0.mk (hb); replace HI0 := Aside0.mk (hi); (try clear hb); (try clear hb2); (try clear hk); (try clear hi)) | ((with_reducible refine gate_callee (f := 58) rfl ?_); refine goesL_ (some 20) rfl rfl Try.func58 (by kernel_rfl) rfl #[.pointer (some ⟨g, 0, none⟩)] rfl (MA) ?_; (with_reducible refine (spec_l01Byte.calls g s0_0 t453 t454 t455 t456 t457 w0 _ ?side1 ?side2 A9.out).mono ?_); (case side1 => exact spec_l01Below.k0 HI0.out); (case side2 => exact spec_l01Below.k1 HB.out); rintro e w14 ⟨rfl, hi, hb, hk⟩; refine ⟨_, rfl, ?_⟩; replace HK := Aside0.mk (KeepBut.trans (spec_l01Below.k2 HK.out) hk (.inl rfl)); replace HB := Aside0.mk (hb); replace HI0 := Aside0.mk (hi); (try clear hb); (try clear hb2); (try clear hk); (try clear hi)) | ((with_reducible refine gate_callee (f := 58) rfl ?_); refine goesL_ (some 22) rfl rfl Try.func58 (by kernel_rfl) rfl #[.pointer (some ⟨g, 0, none⟩)] rfl (MA) ?_; (with_reducible refine (spec_l01Byte.calls g s0_0 t456 t457 t458 t459 t460 w0 _ ?side1 ?side2 A10.out).mono ?_); (case side1 => exact spec_l01Below.k0 HI0.out); (case side2 => exact spec_l01Below.k1 HB.out); rintro e w15 ⟨rfl, hi, hb, hk⟩; refine ⟨_, rfl, ?_⟩; replace HK := Aside0.mk (KeepBut.trans (spec_l01Below.k2 HK.out) hk (.inl rfl)); replace HB := Aside0.mk (hb); replace HI0 := Aside0.mk (hi); (try clear hb); (try clear hb2); (try clear hk); (try clear hi)) | ((with_reducible refine gate_callee (f := 58) rfl ?_); refine goesL_ (some 24) rfl rfl Try.func58 (by kernel_rfl) rfl #[.pointer (some ⟨g, 0, none⟩)] rfl (MA) ?_; (with_reducible refine (spec_l01Byte.calls g s0_0 t459 t460 t461 t462 t463 w0 _ ?side1 ?side2 A11.out).mono ?_); (case side1 => exact spec_l01Below.k0 HI0.out); (case side2 => exact spec_l01Below.k1 HB.out); rintro e w16 ⟨rfl, hi, hb, hk⟩; refine ⟨_, rfl, ?_⟩; replace HK := Aside0.mk (KeepBut.trans (spec_l01Below.k2 HK.out) hk (.inl rfl)); replace HB := Aside0.mk (hb); replace HI0 := Aside0.mk (hi); (try clear hb); (try clear hb2); (try clear hk); (try clear hi)))
 go_ret
 exact ⟨EE, spec_l01Below.k0 HI0.out, spec_l01Below.k1 HB.out, spec_l01Below.k2 HK.out⟩

/-! ### spec_ListNew: function 88 -/
def spec_ListNew.f  : Option (List Int) := if 63 ≤ 35184372088832 then (some (List.replicate 63 0)) else (none)
set_option maxHeartbeats 8000000 in
set_option maxRecDepth 100000 in
theorem spec_ListNew.calls  (r : List Int) (w : World) (h : spec_ListNew.f  = some r) :
  Calls Try.prog 88 #[] w fun e w' => ∃ v0_ : Value, e = .returned (v0_) ∧ Kd.R (Kd.int .i64) 3 w' w.heap.size (fun _ => True) v0_ r ∧ Below w.heap.size w w' := by
 have HB := Aside0.mk (Below.refl w.heap.size w)
 have H : (if 63 ≤ 35184372088832 then (some (List.replicate 63 0)) else (none)) = some r := h
 clear h
 by_cases c1 : 63 ≤ 35184372088832; rotate_left
 ·
  rw [if_neg c1] at H; exact absurd H (by simp)
 rw [if_pos c1] at H
 have c1b0 := eq_true c1
 have c1b1 : decide (63 ≤ 35184372088832) = true := decide_eq_true c1
 clear c1
 obtain ⟨y464, hy464⟩ : ∃ y_ : List Int, y_ = (List.replicate 63 0) := ⟨_, rfl⟩
 replace H : (some y464) = some r := by first | (rw [hy464]; with_reducible exact H) | (have H2_ := (Option.bind_some _ _).symm.trans H; rw [hy464]; with_reducible exact H2_) | (have H2_ := (Option.bind_some _ _).symm.trans H; with_reducible exact H2_) | with_reducible exact H | (rw [hy464]; exact H) | exact H
 have Ny464 := Aside0.mk hy464
 clear hy464
 obtain rfl := Option.some.inj H
 go_enter Try.func88, Try.ntmps88
 go_wp2_with (first | ((with_reducible refine gate_dst (N := 1) rfl ?_); refine Kd.R_make (Kd.int .i64) _ 3 rfl (N := 1) rfl 22 _ _ rfl 63 rfl rfl Try.underlying22 (.int .i64 0) 8 info3 rfl (by decide) (by omega) 0 (ok := fun _ => True) (okp := fun _ => True) rfl (fun _ hk => hk) trivial (by omega) (by omega) (Below.refl _ _) (Nat.le_refl _) ?_; intro v465 w2 ho3 hb hg_ hnew_; clear hg_ hnew_; (first | rw [← Ny464.out] at ho3 | (simp only [Int.reduceToNat] at ho3; rw [← Ny464.out] at ho3)); have HO466 := Aside0.mk (Kd.R_lower ho3 (below_size (BL))); replace HB := Aside0.mk (below_step (BL) hb); clear hb ho3))
 go_ret
 exact ⟨_, EE, RQ HO466.out, BL⟩

/-! ### spec_l01PickInt: function 62 -/
def spec_l01PickInt.f (s0_0 : List Int) (s0_1 : Int) (s0_2 : Int) (l1 : List Int) : Option (Int × Int × Int) := (spec_l01Below.f s0_0 s0_1 s0_2 (l1.length : Int)).bind fun bt467 => (if 0 ≤ bt467.1 then (if bt467.1 < (l1.length : Int) then (some (rd l1 bt467.1, bt467.2.1, bt467.2.2)) else (none)) else (none))
theorem spec_l01PickInt.k0 {p q : Prop} (h : q) (k : q → p := by intro h_; repeat (first | (with_reducible first | exact h_ | apply IsS80.alloc | apply IsS80.drewN | apply IsS80.drew | apply IsS80.set_1 | apply IsS80.set_2) | exact h_)) : p := k h
theorem spec_l01PickInt.k1 {p q : Prop} (h : q) (k : q → p := by intro h_; repeat (first | (with_reducible first | exact h_ | apply below_alloc | apply pw_below_drewN | apply below_drew1 | refine below_set ?_ (IsS80.ge HI0.out)) | exact h_)) : p := k h
theorem spec_l01PickInt.k2 {p q : Prop} (h : q) (k : q → p := by intro h_; repeat (first | (with_reducible first | exact h_ | apply KeepBut.set_ | apply keep_drewN | apply keep_drew | apply keep_alloc) | exact h_)) : p := k h
set_option maxHeartbeats 8000000 in
set_option maxRecDepth 100000 in
theorem spec_l01PickInt.calls (g : Nat) (s0_0 : List Int) (s0_1 : Int) (s0_2 : Int) (A1 : Option Addr) (c1 : Nat) (l1 : List Int) (r1 : Int) (r2 : Int) (r3 : Int) (w0 w : World) (hI : IsS80 w0 w g s0_0 s0_1 s0_2) (hB : Below w0.heap.size w0 w) (hr1 : Kd.C (Kd.int .i64) w A1 l1.length l1) (hc1 : l1.length ≤ c1) (hf1 : ∀ ad, A1 = some ad → 0 < l1.length → ad.block ≠ g) (h : spec_l01PickInt.f s0_0 s0_1 s0_2 l1 = some (r1, r2, r3)) :
  Calls Try.prog 62 #[.pointer (some ⟨g, 0, none⟩), .slice A1 l1.length c1] w fun e w' => e = .returned (.int .i64 r1) ∧ IsS80 w0 w' g s0_0 r2 r3 ∧ Below w0.heap.size w0 w' ∧ KeepBut w w' g none := by
 have HR1 := Aside0.mk hr1
 have HC1 := Aside0.mk hc1
 clear hr1 hc1
 have HI0 := Aside0.mk hI
 have HK := Aside0.mk (KeepBut.refl w g none)
 have HL := Aside0.mk hB.size
 clear hI
 have HW0 := Aside0.mk hB.size
 have HB := Aside0.mk hB
 clear hB
 have H : ((spec_l01Below.f s0_0 s0_1 s0_2 (l1.length : Int)).bind fun bt467 => (if 0 ≤ bt467.1 then (if bt467.1 < (l1.length : Int) then (some (rd l1 bt467.1, bt467.2.1, bt467.2.2)) else (none)) else (none))) = some (r1, r2, r3) := h
 clear h
 replace H := Option.bind_eq_some_iff.mp H
 obtain ⟨⟨t467, t468, t469⟩, A30, H⟩ := H
 replace H : (if 0 ≤ t467 then (if t467 < (l1.length : Int) then (some (rd l1 t467, t468, t469)) else (none)) else (none)) = some (r1, r2, r3) := H
 have A3 := Aside0.mk A30
 clear A30
 by_cases c4 : 0 ≤ t467; rotate_left
 ·
  rw [if_neg c4] at H; exact absurd H (by simp)
 rw [if_pos c4] at H
 have c4b0 : decide (0 ≤ t467) = true := decide_eq_true c4
 clear c4
 by_cases c5 : t467 < (l1.length : Int); rotate_left
 ·
  rw [if_neg c5] at H; exact absurd H (by simp)
 rw [if_pos c5] at H
 have c5b0 : decide (t467 < (l1.length : Int)) = true := decide_eq_true c5
 clear c5
 simp only [Option.some.injEq, Prod.mk.injEq] at H
 obtain ⟨rfl, rfl, rfl⟩ := H
 go_enter Try.func62, Try.ntmps62
 go_wp2_with (first | ((with_reducible refine gate_callee (f := 59) rfl ?_); refine goesL_ (some 9) rfl rfl Try.func59 (by kernel_rfl) rfl #[.pointer (some ⟨g, 0, none⟩), .int .i64 (l1.length : Int)] rfl (MA) ?_; (with_reducible refine (spec_l01Below.calls g s0_0 s0_1 s0_2 (l1.length : Int) t467 t468 t469 w0 _ ?side1 ?side2 A3.out).mono ?_); (case side1 => exact spec_l01PickInt.k0 HI0.out); (case side2 => exact spec_l01PickInt.k1 HB.out); rintro e w6 ⟨rfl, hi, hb, hk⟩; refine ⟨_, rfl, ?_⟩; replace HK := Aside0.mk (KeepBut.trans (spec_l01PickInt.k2 HK.out) hk (.inl rfl)); replace HB := Aside0.mk (hb); replace HI0 := Aside0.mk (hi); (try clear hb); (try clear hb2); (try clear hk); (try clear hi); have p470 : 0 ≤ (t467 : Int) := of_decide_eq_true AS; have q470 : t467 < (l1.length : Int) := of_decide_eq_true AS; obtain ⟨ad470, e470, hx470_0⟩ := Kd.at_int HR1.out t467 p470 q470; cases e470; replace hx470_0 := keep_cell HK.out hx470_0 (by first | (rw [add_block]; exact hf1 _ rfl (by omega)) | exact hf1 _ rfl (by omega) | exact hf1 ad470 rfl (by omega)); replace p470 := eq_true p470; replace q470 := eq_true q470))
 go_ret
 exact ⟨EE, spec_l01PickInt.k0 HI0.out, spec_l01PickInt.k1 HB.out, spec_l01PickInt.k2 HK.out⟩

/-! ### spec_TaskNew: function 86 -/
def spec_TaskNew.f (a0 : Int) (a1 : Int) (a2 : Int) (a3 : Int) : Option (Int × Int × Int × Int × Int × Int × Int × Int × Int × Bool × Int) := some (a0, a1, a2, a3, 0, 0, 0, 0, 0, false, 0)
set_option maxHeartbeats 8000000 in
set_option maxRecDepth 100000 in
theorem spec_TaskNew.calls (a0 : Int) (a1 : Int) (a2 : Int) (a3 : Int) (r1 : Int) (r2 : Int) (r3 : Int) (r4 : Int) (r5 : Int) (r6 : Int) (r7 : Int) (r8 : Int) (r9 : Int) (r10 : Bool) (r11 : Int) (w : World) (h : spec_TaskNew.f a0 a1 a2 a3 = some (r1, r2, r3, r4, r5, r6, r7, r8, r9, r10, r11)) :
  Calls Try.prog 86 #[.int .i64 a0, .int .i64 a1, .int .i64 a2, .int .i64 a3] w fun e w' => e = .returned (.agg #[.int .i64 r1, .int .i64 r2, .int .i64 r3, .int .i64 r4, .int .i64 r5, .int .i64 r6, .int .i64 r7, .int .i64 r8, .int .i64 r9, .bool r10, .int .i64 r11]) ∧ Below w.heap.size w w' := by
 have hu46 := Try.underlying46
 have HB := Aside0.mk (Below.refl w.heap.size w)
 have H : (some (a0, a1, a2, a3, 0, 0, 0, 0, 0, false, 0)) = some (r1, r2, r3, r4, r5, r6, r7, r8, r9, r10, r11) := h
 clear h
 simp only [Option.some.injEq, Prod.mk.injEq] at H
 obtain ⟨rfl, rfl, rfl, rfl, rfl, rfl, rfl, rfl, rfl, rfl, rfl⟩ := H
 go_enter Try.func86, Try.ntmps86
 go_wp2_with (first | ((with_reducible refine gate_dst (N := 8) rfl ?_); refine bE 8 #[.int .i64 0, .int .i64 0, .int .i64 0, .int .i64 0, .int .i64 0, .int .i64 0, .int .i64 0, .int .i64 0, .int .i64 0, .bool false, .int .i64 0] 46 ?_; intro gb471 hg w5 hbox hb; have BK471 := Aside0.mk (hbox); have GW471 : Aside0 (w.heap.size ≤ gb471) := GS; have GE471 := GW471; replace HB := Aside0.mk (below_step (BL) hb); clear hb hbox hg; obtain ⟨hcz6_0, hcz6_1, hcz6_2, hcz6_3, hcz6_4, hcz6_5, hcz6_6, hcz6_7, hcz6_8, hcz6_9, hcz6_10, hfz6_0, hfz6_1, hfz6_2, hfz6_3, hfz6_4, hfz6_5, hfz6_6, hfz6_7, hfz6_8, hfz6_9, hfz6_10⟩ := KC11 BK471.out))
 refine bodyPost_ret (results_cell_row rfl _ _ gb471 46 #[.int .i64 a0, .int .i64 a1, .int .i64 a2, .int .i64 a3, .int .i64 0, .int .i64 0, .int .i64 0, .int .i64 0, .int .i64 0, .bool false, .int .i64 0] (0, 0) _ rfl (BU BK471.out) Try.underlying46 rfl (by kernel_rfl)) rfl ?_
 exact ⟨EE, BL⟩

/-! ### spec_l06Task: function 89 -/
def spec_l06Task.f (s0_0 : List Int) (s0_1 : Int) (s0_2 : Int) (a1 : Int) : Option (Int × Int × Int × Int × Int × Int × Int × Int × Int × Bool × Int × Int × Int) := (spec_l01PickInt.f s0_0 s0_1 s0_2 (([1, 2, 2, 2, 3] : List Int))).bind fun bt476 => ((spec_l01Below.f s0_0 bt476.2.1 bt476.2.2 6).bind fun bt479 => ((spec_l01Below.f s0_0 bt479.2.1 bt479.2.2 9).bind fun bt482 => ((spec_TaskNew.f bt476.1 (wrap64 (1 + bt479.1)) bt482.1 a1).bind fun bt485 => (some (bt485.1, bt485.2.1, bt485.2.2.1, bt485.2.2.2.1, bt485.2.2.2.2.1, bt485.2.2.2.2.2.1, bt485.2.2.2.2.2.2.1, bt485.2.2.2.2.2.2.2.1, bt485.2.2.2.2.2.2.2.2.1, bt485.2.2.2.2.2.2.2.2.2.1, bt485.2.2.2.2.2.2.2.2.2.2, bt482.2.1, bt482.2.2)))))
theorem spec_l06Task.k0 {p q : Prop} (h : q) (k : q → p := by intro h_; repeat (first | (with_reducible first | exact h_ | apply KeepBut.set_ | apply keep_drewN | apply keep_drew | apply keep_alloc) | exact h_)) : p := k h
theorem spec_l06Task.k1 {p q : Prop} (h : q) (k : q → p := by intro h_; repeat (first | (with_reducible first | exact h_ | apply IsS80.alloc | apply IsS80.drewN | apply IsS80.drew | apply IsS80.set_1 | apply IsS80.set_2) | exact h_)) : p := k h
theorem spec_l06Task.k2 {p q : Prop} (h : q) (k : q → p := by intro h_; repeat (first | (with_reducible first | exact h_ | apply KeepBut.set_ | apply keep_drewN | apply keep_drew | apply keep_alloc | refine keep_far ?_ (Aside0.out (by assumption)) _) | exact h_)) : p := k h
theorem spec_l06Task.k3 {p q : Prop} (h : q) (k : q → p := by intro h_; repeat (first | (with_reducible first | exact h_ | apply below_alloc | apply pw_below_drewN | apply below_drew1 | refine below_set ?_ (IsS80.ge HI0.out) | refine below_set ?_ (Aside0.out (by assumption))) | exact h_)) : p := k h
theorem spec_l06Task.k4 {p q : Prop} (h : q) (k : q → p := by intro h_; repeat (first | (with_reducible first | exact h_ | apply IsS80.alloc | apply IsS80.drewN | apply IsS80.drew | apply IsS80.set_1 | apply IsS80.set_2 | refine IsS80.far ?_ (Aside0.out (by assumption)) _) | exact h_)) : p := k h
set_option maxHeartbeats 8000000 in
set_option maxRecDepth 100000 in
theorem spec_l06Task.calls (g : Nat) (s0_0 : List Int) (s0_1 : Int) (s0_2 : Int) (a1 : Int) (r1 : Int) (r2 : Int) (r3 : Int) (r4 : Int) (r5 : Int) (r6 : Int) (r7 : Int) (r8 : Int) (r9 : Int) (r10 : Bool) (r11 : Int) (r12 : Int) (r13 : Int) (w0 w : World) (hI : IsS80 w0 w g s0_0 s0_1 s0_2) (hB : Below w0.heap.size w0 w) (h : spec_l06Task.f s0_0 s0_1 s0_2 a1 = some (r1, r2, r3, r4, r5, r6, r7, r8, r9, r10, r11, r12, r13)) :
  Calls Try.prog 89 #[.pointer (some ⟨g, 0, none⟩), .int .i64 a1] w fun e w' => e = .returned (.agg #[.int .i64 r1, .int .i64 r2, .int .i64 r3, .int .i64 r4, .int .i64 r5, .int .i64 r6, .int .i64 r7, .int .i64 r8, .int .i64 r9, .bool r10, .int .i64 r11]) ∧ IsS80 w0 w' g s0_0 r12 r13 ∧ Below w0.heap.size w0 w' ∧ KeepBut w w' g none := by
 have hu46 := Try.underlying46
 have HI0 := Aside0.mk hI
 have HK := Aside0.mk (KeepBut.refl w g none)
 have HL := Aside0.mk hB.size
 clear hI
 have HW0 := Aside0.mk hB.size
 have HB := Aside0.mk hB
 clear hB
 have H : ((spec_l01PickInt.f s0_0 s0_1 s0_2 (([1, 2, 2, 2, 3] : List Int))).bind fun bt476 => ((spec_l01Below.f s0_0 bt476.2.1 bt476.2.2 6).bind fun bt479 => ((spec_l01Below.f s0_0 bt479.2.1 bt479.2.2 9).bind fun bt482 => ((spec_TaskNew.f bt476.1 (wrap64 (1 + bt479.1)) bt482.1 a1).bind fun bt485 => (some (bt485.1, bt485.2.1, bt485.2.2.1, bt485.2.2.2.1, bt485.2.2.2.2.1, bt485.2.2.2.2.2.1, bt485.2.2.2.2.2.2.1, bt485.2.2.2.2.2.2.2.1, bt485.2.2.2.2.2.2.2.2.1, bt485.2.2.2.2.2.2.2.2.2.1, bt485.2.2.2.2.2.2.2.2.2.2, bt482.2.1, bt482.2.2)))))) = some (r1, r2, r3, r4, r5, r6, r7, r8, r9, r10, r11, r12, r13) := h
 clear h
 obtain ⟨y473, hy473⟩ : ∃ y_ : List Int, y_ = (([1, 2, 2, 2, 3] : List Int)) := ⟨_, rfl⟩
 replace H : ((spec_l01PickInt.f s0_0 s0_1 s0_2 y473).bind fun bt476 => ((spec_l01Below.f s0_0 bt476.2.1 bt476.2.2 6).bind fun bt479 => ((spec_l01Below.f s0_0 bt479.2.1 bt479.2.2 9).bind fun bt482 => ((spec_TaskNew.f bt476.1 (wrap64 (1 + bt479.1)) bt482.1 a1).bind fun bt485 => (some (bt485.1, bt485.2.1, bt485.2.2.1, bt485.2.2.2.1, bt485.2.2.2.2.1, bt485.2.2.2.2.2.1, bt485.2.2.2.2.2.2.1, bt485.2.2.2.2.2.2.2.1, bt485.2.2.2.2.2.2.2.2.1, bt485.2.2.2.2.2.2.2.2.2.1, bt485.2.2.2.2.2.2.2.2.2.2, bt482.2.1, bt482.2.2)))))) = some (r1, r2, r3, r4, r5, r6, r7, r8, r9, r10, r11, r12, r13) := by first | (rw [hy473]; with_reducible exact H) | (have H2_ := (Option.bind_some _ _).symm.trans H; rw [hy473]; with_reducible exact H2_) | (have H2_ := (Option.bind_some _ _).symm.trans H; with_reducible exact H2_) | with_reducible exact H | (rw [hy473]; exact H) | exact H
 have Ny473 := Aside0.mk hy473
 clear hy473
 replace H := Option.bind_eq_some_iff.mp H
 obtain ⟨⟨t476, t477, t478⟩, A30, H⟩ := H
 replace H : ((spec_l01Below.f s0_0 t477 t478 6).bind fun bt479 => ((spec_l01Below.f s0_0 bt479.2.1 bt479.2.2 9).bind fun bt482 => ((spec_TaskNew.f t476 (wrap64 (1 + bt479.1)) bt482.1 a1).bind fun bt485 => (some (bt485.1, bt485.2.1, bt485.2.2.1, bt485.2.2.2.1, bt485.2.2.2.2.1, bt485.2.2.2.2.2.1, bt485.2.2.2.2.2.2.1, bt485.2.2.2.2.2.2.2.1, bt485.2.2.2.2.2.2.2.2.1, bt485.2.2.2.2.2.2.2.2.2.1, bt485.2.2.2.2.2.2.2.2.2.2, bt482.2.1, bt482.2.2))))) = some (r1, r2, r3, r4, r5, r6, r7, r8, r9, r10, r11, r12, r13) := H
 have A3 := Aside0.mk A30
 clear A30
 replace H := Option.bind_eq_some_iff.mp H
 obtain ⟨⟨t479, t480, t481⟩, A40, H⟩ := H
 replace H : ((spec_l01Below.f s0_0 t480 t481 9).bind fun bt482 => ((spec_TaskNew.f t476 (wrap64 (1 + t479)) bt482.1 a1).bind fun bt485 => (some (bt485.1, bt485.2.1, bt485.2.2.1, bt485.2.2.2.1, bt485.2.2.2.2.1, bt485.2.2.2.2.2.1, bt485.2.2.2.2.2.2.1, bt485.2.2.2.2.2.2.2.1, bt485.2.2.2.2.2.2.2.2.1, bt485.2.2.2.2.2.2.2.2.2.1, bt485.2.2.2.2.2.2.2.2.2.2, bt482.2.1, bt482.2.2)))) = some (r1, r2, r3, r4, r5, r6, r7, r8, r9, r10, r11, r12, r13) := H
 have A4 := Aside0.mk A40
 clear A40
 replace H := Option.bind_eq_some_iff.mp H
 obtain ⟨⟨t482, t483, t484⟩, A50, H⟩ := H
 replace H : ((spec_TaskNew.f t476 (wrap64 (1 + t479)) t482 a1).bind fun bt485 => (some (bt485.1, bt485.2.1, bt485.2.2.1, bt485.2.2.2.1, bt485.2.2.2.2.1, bt485.2.2.2.2.2.1, bt485.2.2.2.2.2.2.1, bt485.2.2.2.2.2.2.2.1, bt485.2.2.2.2.2.2.2.2.1, bt485.2.2.2.2.2.2.2.2.2.1, bt485.2.2.2.2.2.2.2.2.2.2, t483, t484))) = some (r1, r2, r3, r4, r5, r6, r7, r8, r9, r10, r11, r12, r13) := H
 have A5 := Aside0.mk A50
 clear A50
 replace H := Option.bind_eq_some_iff.mp H
 obtain ⟨⟨t485, t486, t487, t488, t489, t490, t491, t492, t493, t494, t495⟩, A60, H⟩ := H
 replace H : (some (t485, t486, t487, t488, t489, t490, t491, t492, t493, t494, t495, t483, t484)) = some (r1, r2, r3, r4, r5, r6, r7, r8, r9, r10, r11, r12, r13) := H
 have A6 := Aside0.mk A60
 clear A60
 simp only [Option.some.injEq, Prod.mk.injEq] at H
 obtain ⟨rfl, rfl, rfl, rfl, rfl, rfl, rfl, rfl, rfl, rfl, rfl, rfl, rfl⟩ := H
 go_enter Try.func89, Try.ntmps89
 go_wp2_with (first | ((with_reducible refine gate_dst (N := 4) rfl ?_); refine bE 4 #[.int .i64 0, .int .i64 0, .int .i64 0, .int .i64 0, .int .i64 0, .int .i64 0, .int .i64 0, .int .i64 0, .int .i64 0, .bool false, .int .i64 0] 46 ?_; intro gb472 hg w7 hbox hb; have BK472 := Aside0.mk (hbox); have GW472 := Aside0.mk ((by rw [hg]; exact (keep_size (w := w) (g := g) (row := none) (spec_l06Task.k0 HK.out)) : w.heap.size ≤ gb472)); have GE472 := Aside0.mk ((Nat.le_trans HW0.out (by rw [hg]; exact (keep_size (w := w) (g := g) (row := none) (spec_l06Task.k0 HK.out)) : w.heap.size ≤ gb472) : w0.heap.size ≤ gb472)); have NB0_472 := Aside0.mk ((by rw [hg]; exact Nat.ne_of_lt (IsS80.lt (show IsS80 w0 _ g s0_0 s0_1 s0_2 from spec_l06Task.k1 HI0.out)) : g ≠ gb472)); have NB472_0 := Aside0.mk ((by rw [hg]; exact Nat.ne_of_gt (IsS80.lt (show IsS80 w0 _ g s0_0 s0_1 s0_2 from spec_l06Task.k1 HI0.out)) : gb472 ≠ g)); replace HK := Aside0.mk (KeepBut.trans (spec_l06Task.k0 HK.out) (KeepBut.of_below hb g none) (.inl rfl)); replace HB := Aside0.mk (below_step (by repeat (first | (with_reducible first | exact HB.out | apply below_alloc | apply pw_below_drewN | apply below_drew1 | refine below_set ?_ (IsS80.ge HI0.out)) | exact HB.out)) hb); replace HI0 := Aside0.mk (IsS80.below (spec_l06Task.k1 HI0.out) hb); clear hb hbox hg) | ((with_reducible refine gate_dst (N := 6) rfl ?_); refine Kd.R_lit (Kd.int .i64) _ 3 ?hg (N := 6) ?hd (xs := ([1, 2, 2, 2, 3] : List Int)) (inner := [.int .i64 1, .int .i64 2, .int .i64 2, .int .i64 2, .int .i64 3]) (ok := fun _ => True) (okp := fun _ => True) ?hr ?hp (fun _ hk => hk) trivial (Below.refl _ _) (Nat.le_refl _) (by simp) ?_; (case hd => rfl); (case hg => rfl); (case hr => first | (go_simp; done) | (go_simp; rfl)); (case hp => exact (Reps.one (show Kd.M (Kd.int .i64) _ _ _ 1 [.int .i64 1] from rfl) (Reps.one (show Kd.M (Kd.int .i64) _ _ _ 2 [.int .i64 2] from rfl) (Reps.one (show Kd.M (Kd.int .i64) _ _ _ 2 [.int .i64 2] from rfl) (Reps.one (show Kd.M (Kd.int .i64) _ _ _ 2 [.int .i64 2] from rfl) (Reps.one (show Kd.M (Kd.int .i64) _ _ _ 3 [.int .i64 3] from rfl) (Reps.none _ _))))))); intro v474 w8 ho9 hb hg_ hnew_; clear hg_ hnew_; (first | rw [← Ny473.out] at ho9 | (simp only [Int.reduceToNat] at ho9; rw [← Ny473.out] at ho9)); have HO475 := Aside0.mk (Kd.R_lower ho9 (keep_size (w := w) (g := g) (row := none) (spec_l06Task.k2 HK.out))); replace BK472 := BB BK472.out hb; replace HK := Aside0.mk (KeepBut.trans (spec_l06Task.k2 HK.out) (KeepBut.of_below hb g none) (.inl rfl)); replace HB := Aside0.mk (below_step (spec_l06Task.k3 HB.out) hb); replace HI0 := Aside0.mk (IsS80.below (spec_l06Task.k4 HI0.out) hb); clear hb ho9; obtain ⟨Ao10, co10, eo10⟩ := Kd.R_slice HO475.out; subst eo10) | ((with_reducible refine gate_callee (f := 62) rfl ?_); refine goesL_ (some 7) rfl rfl Try.func62 (by kernel_rfl) rfl #[.pointer (some ⟨g, 0, none⟩), .slice Ao10 y473.length co10] rfl (MA) ?_; (with_reducible refine (spec_l01PickInt.calls g s0_0 s0_1 s0_2 _ _ y473 t476 t477 t478 w0 _ ?side1 ?side2 ?side3 ?side4 ?side5 A3.out).mono ?_); (case side1 => exact spec_l06Task.k4 HI0.out); (case side2 => exact spec_l06Task.k3 HB.out); (case side3 => repeat (first | exact (Kd.R_reads' HO475.out).2.2 | (with_reducible refine Kd.C_alloc ?_ _) | (with_reducible refine Kd.C_drewN ?_ _) | (with_reducible refine Kd.C_drew ?_))); (case side4 => exact (Kd.R_reads' HO475.out).2.1); (case side5 => exact far_slice (IsS80.own_ne HI0.out HO475.out (by decide))); rintro e w11 ⟨rfl, hi, hb, hk⟩; refine ⟨_, rfl, ?_⟩; replace BK472 := Aside0.mk (KeepBut.blk hk (g' := gb472) (o := .cells #[.int .i64 0, .int .i64 0, .int .i64 0, .int .i64 0, .int .i64 0, .int .i64 0, .int .i64 0, .int .i64 0, .int .i64 0, .bool false, .int .i64 0] 46 (0, 0)) (BQ BK472.out) NB472_0.out (by simp)); replace HO475 := Aside0.mk (Kd.R_mono (Kd.R_keep (IsS80.apart (show IsS80 w0 _ g s0_0 s0_1 s0_2 from spec_l06Task.k4 HI0.out) (RQ HO475.out) (by decide)) hk (fun _ h => h.2)) (fun _ h => h.1)); replace HK := Aside0.mk (KeepBut.trans (spec_l06Task.k2 HK.out) hk (.inl rfl)); replace HB := Aside0.mk (hb); replace HI0 := Aside0.mk (hi); (try clear hb); (try clear hb2); (try clear hk); (try clear hi)) | ((with_reducible refine gate_callee (f := 59) rfl ?_); refine goesL_ (some 9) rfl rfl Try.func59 (by kernel_rfl) rfl #[.pointer (some ⟨g, 0, none⟩), .int .i64 6] rfl (MA) ?_; (with_reducible refine (spec_l01Below.calls g s0_0 t477 t478 6 t479 t480 t481 w0 _ ?side1 ?side2 A4.out).mono ?_); (case side1 => exact spec_l06Task.k4 HI0.out); (case side2 => exact spec_l06Task.k3 HB.out); rintro e w12 ⟨rfl, hi, hb, hk⟩; refine ⟨_, rfl, ?_⟩; replace BK472 := Aside0.mk (KeepBut.blk hk (g' := gb472) (o := .cells #[.int .i64 0, .int .i64 0, .int .i64 0, .int .i64 0, .int .i64 0, .int .i64 0, .int .i64 0, .int .i64 0, .int .i64 0, .bool false, .int .i64 0] 46 (0, 0)) (BQ BK472.out) NB472_0.out (by simp)); replace HO475 := Aside0.mk (Kd.R_mono (Kd.R_keep (IsS80.apart (show IsS80 w0 _ g s0_0 t477 t478 from spec_l06Task.k4 HI0.out) (RQ HO475.out) (by decide)) hk (fun _ h => h.2)) (fun _ h => h.1)); replace HK := Aside0.mk (KeepBut.trans (spec_l06Task.k2 HK.out) hk (.inl rfl)); replace HB := Aside0.mk (hb); replace HI0 := Aside0.mk (hi); (try clear hb); (try clear hb2); (try clear hk); (try clear hi)) | ((with_reducible refine gate_callee (f := 59) rfl ?_); refine goesL_ (some 12) rfl rfl Try.func59 (by kernel_rfl) rfl #[.pointer (some ⟨g, 0, none⟩), .int .i64 9] rfl (MA) ?_; (with_reducible refine (spec_l01Below.calls g s0_0 t480 t481 9 t482 t483 t484 w0 _ ?side1 ?side2 A5.out).mono ?_); (case side1 => exact spec_l06Task.k4 HI0.out); (case side2 => exact spec_l06Task.k3 HB.out); rintro e w13 ⟨rfl, hi, hb, hk⟩; refine ⟨_, rfl, ?_⟩; replace BK472 := Aside0.mk (KeepBut.blk hk (g' := gb472) (o := .cells #[.int .i64 0, .int .i64 0, .int .i64 0, .int .i64 0, .int .i64 0, .int .i64 0, .int .i64 0, .int .i64 0, .int .i64 0, .bool false, .int .i64 0] 46 (0, 0)) (BQ BK472.out) NB472_0.out (by simp)); replace HO475 := Aside0.mk (Kd.R_mono (Kd.R_keep (IsS80.apart (show IsS80 w0 _ g s0_0 t480 t481 from spec_l06Task.k4 HI0.out) (RQ HO475.out) (by decide)) hk (fun _ h => h.2)) (fun _ h => h.1)); replace HK := Aside0.mk (KeepBut.trans (spec_l06Task.k2 HK.out) hk (.inl rfl)); replace HB := Aside0.mk (hb); replace HI0 := Aside0.mk (hi); (try clear hb); (try clear hb2); (try clear hk); (try clear hi)) | ((with_reducible refine gate_callee (f := 86) rfl ?_); refine goesL_ (some 14) rfl rfl Try.func86 (by kernel_rfl) rfl #[.int .i64 t476, .int .i64 (wrap64 (1 + t479)), .int .i64 t482, .int .i64 a1] rfl (MA) ?_; (with_reducible refine (spec_TaskNew.calls t476 (wrap64 (1 + t479)) t482 a1 t485 t486 t487 t488 t489 t490 t491 t492 t493 t494 t495 _ A6.out).mono ?_); rintro e w14 ⟨rfl, hb⟩; refine ⟨_, rfl, ?_⟩; replace HO475 := Aside0.mk (Kd.R_below (RQ HO475.out) hb); replace BK472 := BB BK472.out hb; replace HK := Aside0.mk (KeepBut.trans (spec_l06Task.k2 HK.out) (KeepBut.of_below hb g none) (.inl rfl)); replace HB := Aside0.mk (below_step (spec_l06Task.k3 HB.out) hb); replace HI0 := Aside0.mk (IsS80.below (spec_l06Task.k4 HI0.out) hb); (try clear hb); (try clear hb2); (try clear hk); (try clear hi); have hnb15 := NB472_0.out; have hnc15 := NB0_472.out; obtain ⟨hcz16_0, hcz16_1, hcz16_2, hcz16_3, hcz16_4, hcz16_5, hcz16_6, hcz16_7, hcz16_8, hcz16_9, hcz16_10, hfz16_0, hfz16_1, hfz16_2, hfz16_3, hfz16_4, hfz16_5, hfz16_6, hfz16_7, hfz16_8, hfz16_9, hfz16_10⟩ := KC11 BK472.out))
 refine bodyPost_ret (results_cell_row rfl _ _ gb472 46 #[.int .i64 t485, .int .i64 t486, .int .i64 t487, .int .i64 t488, .int .i64 t489, .int .i64 t490, .int .i64 t491, .int .i64 t492, .int .i64 t493, .bool t494, .int .i64 t495] (0, 0) _ rfl (BU BK472.out) Try.underlying46 rfl (by kernel_rfl)) rfl ?_
 exact ⟨EE, spec_l06Task.k4 HI0.out, spec_l06Task.k3 HB.out, spec_l06Task.k2 HK.out⟩

/-! ### spec_l06Some: function 85 -/
mutual
def spec_l06Some.l0 : Nat → List Int → List (S46) → Int → List Int → Int → Int → Option (List Int × Int × Int × Int × Int × Int × Int × Int × Int × Int × Bool × Int × Int × Int)
 | 0, _, _, _, _, _, _ => none
 | k + 1, x4, x5, x6, x1000, x1001, x1002 => if x6 < 4 then ((spec_l06Task.f x1000 x1001 x1002 (wrap64 (x6 + 1))).bind fun bt503 => (if x5.length < 1599289640401 then (spec_l06Some.l0 k x4 (x5 ++ [(⟨bt503.1, bt503.2.1, bt503.2.2.1, bt503.2.2.2.1, bt503.2.2.2.2.1, bt503.2.2.2.2.2.1, bt503.2.2.2.2.2.2.1, bt503.2.2.2.2.2.2.2.1, bt503.2.2.2.2.2.2.2.2.1, bt503.2.2.2.2.2.2.2.2.2.1, bt503.2.2.2.2.2.2.2.2.2.2.1⟩ : S46)]) (wrap64 (x6 + 1)) x1000 bt503.2.2.2.2.2.2.2.2.2.2.2.1 bt503.2.2.2.2.2.2.2.2.2.2.2.2) else (none))) else (spec_l06Some.l1 k x4 x5 0 x1000 x1001 x1002)
def spec_l06Some.l1 : Nat → List Int → List (S46) → Int → List Int → Int → Int → Option (List Int × Int × Int × Int × Int × Int × Int × Int × Int × Int × Bool × Int × Int × Int)
 | 0, _, _, _, _, _, _ => none
 | k + 1, x4, x5, x7, x1000, x1001, x1002 => (spec_l01Below.f x1000 x1001 x1002 40).bind fun bt519 => (if x7 < bt519.1 then ((spec_l01Below.f x1000 bt519.2.1 bt519.2.2 4).bind fun bt522 => (if 0 ≤ bt522.1 then (if bt522.1 < (x5.length : Int) then ((spec_StepTask.f k x4 ((rd_T46 x5 bt522.1).f0) ((rd_T46 x5 bt522.1).f1) ((rd_T46 x5 bt522.1).f2) ((rd_T46 x5 bt522.1).f3) ((rd_T46 x5 bt522.1).f4) ((rd_T46 x5 bt522.1).f5) ((rd_T46 x5 bt522.1).f6) ((rd_T46 x5 bt522.1).f7) ((rd_T46 x5 bt522.1).f8) ((rd_T46 x5 bt522.1).f9) ((rd_T46 x5 bt522.1).f10)).bind fun bt526 => (spec_l06Some.l1 k bt526.1 (x5.set (bt522.1 : Int).toNat (⟨bt526.2.1, bt526.2.2.1, bt526.2.2.2.1, bt526.2.2.2.2.1, bt526.2.2.2.2.2.1, bt526.2.2.2.2.2.2.1, bt526.2.2.2.2.2.2.2.1, bt526.2.2.2.2.2.2.2.2.1, bt526.2.2.2.2.2.2.2.2.2.1, bt526.2.2.2.2.2.2.2.2.2.2.1, bt526.2.2.2.2.2.2.2.2.2.2.2⟩ : S46)) (wrap64 (x7 + 1)) x1000 bt522.2.1 bt522.2.2)) else (none)) else (none))) else ((spec_l01Below.f x1000 bt519.2.1 bt519.2.2 4).bind fun bt541 => (spec_l06Some.l2 k x4 x5 bt541.1 0 x1000 bt541.2.1 bt541.2.2)))
def spec_l06Some.l2 : Nat → List Int → List (S46) → Int → Int → List Int → Int → Int → Option (List Int × Int × Int × Int × Int × Int × Int × Int × Int × Int × Bool × Int × Int × Int)
 | 0, _, _, _, _, _, _, _ => none
 | k + 1, x4, x5, x9, x10, x1000, x1001, x1002 => if x10 < 4 then (if 0 ≤ (Int.tmod (wrap64 (x9 + x10)) 4) then (if (Int.tmod (wrap64 (x9 + x10)) 4) < (x5.length : Int) then (if ((rd_T46 x5 (Int.tmod (wrap64 (x9 + x10)) 4)).f9 = true) then (spec_l06Some.l2 k x4 x5 x9 (wrap64 (x10 + 1)) x1000 x1001 x1002) else (some (x4, (rd_T46 x5 (Int.tmod (wrap64 (x9 + x10)) 4)).f0, (rd_T46 x5 (Int.tmod (wrap64 (x9 + x10)) 4)).f1, (rd_T46 x5 (Int.tmod (wrap64 (x9 + x10)) 4)).f2, (rd_T46 x5 (Int.tmod (wrap64 (x9 + x10)) 4)).f3, (rd_T46 x5 (Int.tmod (wrap64 (x9 + x10)) 4)).f4, (rd_T46 x5 (Int.tmod (wrap64 (x9 + x10)) 4)).f5, (rd_T46 x5 (Int.tmod (wrap64 (x9 + x10)) 4)).f6, (rd_T46 x5 (Int.tmod (wrap64 (x9 + x10)) 4)).f7, (rd_T46 x5 (Int.tmod (wrap64 (x9 + x10)) 4)).f8, (rd_T46 x5 (Int.tmod (wrap64 (x9 + x10)) 4)).f9, (rd_T46 x5 (Int.tmod (wrap64 (x9 + x10)) 4)).f10, x1001, x1002))) else (none)) else (none)) else (if 0 ≤ x9 then (if x9 < (x5.length : Int) then (some (x4, (rd_T46 x5 x9).f0, (rd_T46 x5 x9).f1, (rd_T46 x5 x9).f2, (rd_T46 x5 x9).f3, (rd_T46 x5 x9).f4, (rd_T46 x5 x9).f5, (rd_T46 x5 x9).f6, (rd_T46 x5 x9).f7, (rd_T46 x5 x9).f8, (rd_T46 x5 x9).f9, (rd_T46 x5 x9).f10, x1001, x1002)) else (none)) else (none))
end
def spec_l06Some.f (k : Nat) (s0_0 : List Int) (s0_1 : Int) (s0_2 : Int) : Option (List Int × Int × Int × Int × Int × Int × Int × Int × Int × Int × Bool × Int × Int × Int) := (spec_ListNew.f).bind fun t497 => (spec_l06Some.l0 k t497 (([] : List (S46))) 0 s0_0 s0_1 s0_2)
theorem spec_l06Some.mono_l : ∀ k, (∀ y0 y1 y2 y3 y4 y5, LeO (spec_l06Some.l0 k y0 y1 y2 y3 y4 y5) (spec_l06Some.l0 (k + 1) y0 y1 y2 y3 y4 y5)) ∧ (∀ y0 y1 y2 y3 y4 y5, LeO (spec_l06Some.l1 k y0 y1 y2 y3 y4 y5) (spec_l06Some.l1 (k + 1) y0 y1 y2 y3 y4 y5)) ∧ (∀ y0 y1 y2 y3 y4 y5 y6, LeO (spec_l06Some.l2 k y0 y1 y2 y3 y4 y5 y6) (spec_l06Some.l2 (k + 1) y0 y1 y2 y3 y4 y5 y6))
 | 0 => ⟨fun _ _ _ _ _ _ r h => by simp [spec_l06Some.l0] at h, fun _ _ _ _ _ _ r h => by simp [spec_l06Some.l1] at h, fun _ _ _ _ _ _ _ r h => by simp [spec_l06Some.l2] at h⟩
 | k + 1 => by
  obtain ⟨ih0, ih1, ih2⟩ := spec_l06Some.mono_l k; refine ⟨?_, ?_, ?_⟩
  ·
   intro y0 y1 y2 y3 y4 y5
   unfold spec_l06Some.l0
   repeat' first
   | (with_reducible exact ih0 _ _ _ _ _ _)
   | (with_reducible exact ih1 _ _ _ _ _ _)
   | (with_reducible exact ih2 _ _ _ _ _ _ _)
   | (with_reducible exact spec_StepTask.mono _ _ _ _ _ _ _ _ _ _ _ _ _)
   | (with_reducible exact LeO.refl _)
   | (with_reducible exact LeO.none _)
   | (with_reducible refine LeO.ite ?_ ?_)
   | (with_reducible refine LeO.bind ?_ (fun _ => ?_))
   | exact ih0 _ _ _ _ _ _
   | exact ih1 _ _ _ _ _ _
   | exact ih2 _ _ _ _ _ _ _
   | exact spec_StepTask.mono _ _ _ _ _ _ _ _ _ _ _ _ _
   | exact LeO.none _
   | refine LeO.ite ?_ ?_
   | refine LeO.bind ?_ (fun _ => ?_)
  ·
   intro y0 y1 y2 y3 y4 y5
   unfold spec_l06Some.l1
   repeat' first
   | (with_reducible exact ih0 _ _ _ _ _ _)
   | (with_reducible exact ih1 _ _ _ _ _ _)
   | (with_reducible exact ih2 _ _ _ _ _ _ _)
   | (with_reducible exact spec_StepTask.mono _ _ _ _ _ _ _ _ _ _ _ _ _)
   | (with_reducible exact LeO.refl _)
   | (with_reducible exact LeO.none _)
   | (with_reducible refine LeO.ite ?_ ?_)
   | (with_reducible refine LeO.bind ?_ (fun _ => ?_))
   | exact ih0 _ _ _ _ _ _
   | exact ih1 _ _ _ _ _ _
   | exact ih2 _ _ _ _ _ _ _
   | exact spec_StepTask.mono _ _ _ _ _ _ _ _ _ _ _ _ _
   | exact LeO.none _
   | refine LeO.ite ?_ ?_
   | refine LeO.bind ?_ (fun _ => ?_)
  ·
   intro y0 y1 y2 y3 y4 y5 y6
   unfold spec_l06Some.l2
   repeat' first
   | (with_reducible exact ih0 _ _ _ _ _ _)
   | (with_reducible exact ih1 _ _ _ _ _ _)
   | (with_reducible exact ih2 _ _ _ _ _ _ _)
   | (with_reducible exact spec_StepTask.mono _ _ _ _ _ _ _ _ _ _ _ _ _)
   | (with_reducible exact LeO.refl _)
   | (with_reducible exact LeO.none _)
   | (with_reducible refine LeO.ite ?_ ?_)
   | (with_reducible refine LeO.bind ?_ (fun _ => ?_))
   | exact ih0 _ _ _ _ _ _
   | exact ih1 _ _ _ _ _ _
   | exact ih2 _ _ _ _ _ _ _
   | exact spec_StepTask.mono _ _ _ _ _ _ _ _ _ _ _ _ _
   | exact LeO.none _
   | refine LeO.ite ?_ ?_
   | refine LeO.bind ?_ (fun _ => ?_)
theorem spec_l06Some.mono : ∀ a0 a1 a2 k, LeO (spec_l06Some.f k a0 a1 a2) (spec_l06Some.f (k + 1) a0 a1 a2) := by
 intro a0 a1 a2 k
 obtain ⟨ih0, ih1, ih2⟩ := spec_l06Some.mono_l k
 unfold spec_l06Some.f
 repeat' first
   | (with_reducible exact ih0 _ _ _ _ _ _)
   | (with_reducible exact ih1 _ _ _ _ _ _)
   | (with_reducible exact ih2 _ _ _ _ _ _ _)
   | (with_reducible exact spec_StepTask.mono _ _ _ _ _ _ _ _ _ _ _ _ _)
   | (with_reducible exact LeO.refl _)
   | (with_reducible exact LeO.none _)
   | (with_reducible refine LeO.ite ?_ ?_)
   | (with_reducible refine LeO.bind ?_ (fun _ => ?_))
   | exact ih0 _ _ _ _ _ _
   | exact ih1 _ _ _ _ _ _
   | exact ih2 _ _ _ _ _ _ _
   | exact spec_StepTask.mono _ _ _ _ _ _ _ _ _ _ _ _ _
   | exact LeO.none _
   | refine LeO.ite ?_ ?_
   | refine LeO.bind ?_ (fun _ => ?_)
def spec_l06Some.T17 : Bool × List (List Nat × List Nat) := (true, [([], []), ([], []), ([], []), ([], []), ([2, 3], [2, 3]), ([4], [4]), ([1, 5], [1, 5]), ([6], [6]), ([0, 0], [0]), ([7, 8, 0, 1, 2, 3, 4, 5, 6, 7, 8], [7])])
def spec_l06Some.B17 : List Nat := [0, 0, 0, 0, 12, 28, 62, 126, 1, 511]
theorem spec_l06Some.tab17 : rtab .any (opsOf Try.f85 17) = spec_l06Some.T17 := by kernel_rfl
theorem spec_l06Some.bits17 : waitsOk spec_l06Some.T17.2 spec_l06Some.B17 = true := by kernel_rfl
theorem spec_l06Some.k0 {p q : Prop} (h : q) (k : q → p := by intro h_; repeat (first | (with_reducible first | exact h_ | apply KeepBut.set_ | apply keep_drewN | apply keep_drew | apply keep_alloc) | exact h_)) : p := k h
theorem spec_l06Some.k1 {p q : Prop} (h : q) (k : q → p := by intro h_; repeat (first | (with_reducible first | exact h_ | apply IsS80.alloc | apply IsS80.drewN | apply IsS80.drew | apply IsS80.set_1 | apply IsS80.set_2) | exact h_)) : p := k h
theorem spec_l06Some.k2 {p q : Prop} (h : q) (k : q → p := by intro h_; repeat (first | (with_reducible first | exact h_ | apply KeepBut.set_ | apply keep_drewN | apply keep_drew | apply keep_alloc | refine keep_far ?_ (Aside0.out (by assumption)) _) | exact h_)) : p := k h
theorem spec_l06Some.k3 {p q : Prop} (h : q) (k : q → p := by intro h_; repeat (first | (with_reducible first | exact h_ | apply below_alloc | apply pw_below_drewN | apply below_drew1 | refine below_set ?_ (IsS80.ge HI0.out) | refine below_set ?_ (Aside0.out (by assumption))) | exact h_)) : p := k h
theorem spec_l06Some.k4 {p q : Prop} (h : q) (k : q → p := by intro h_; repeat (first | (with_reducible first | exact h_ | apply IsS80.alloc | apply IsS80.drewN | apply IsS80.drew | apply IsS80.set_1 | apply IsS80.set_2 | refine IsS80.far ?_ (Aside0.out (by assumption)) _) | exact h_)) : p := k h
set_option maxHeartbeats 8000000 in
set_option maxRecDepth 100000 in
theorem spec_l06Some.calls (k : Nat) (g : Nat) (s0_0 : List Int) (s0_1 : Int) (s0_2 : Int) (r1 : List Int) (r2 : Int) (r3 : Int) (r4 : Int) (r5 : Int) (r6 : Int) (r7 : Int) (r8 : Int) (r9 : Int) (r10 : Int) (r11 : Bool) (r12 : Int) (r13 : Int) (r14 : Int) (w0 w : World) (hI : IsS80 w0 w g s0_0 s0_1 s0_2) (hB : Below w0.heap.size w0 w) (h : spec_l06Some.f k s0_0 s0_1 s0_2 = some (r1, r2, r3, r4, r5, r6, r7, r8, r9, r10, r11, r12, r13, r14)) :
  Calls Try.prog 85 #[.pointer (some ⟨g, 0, none⟩)] w fun e w' => ∃ v0_ : Value, e = .returned (.tuple #[v0_, .agg #[.int .i64 r2, .int .i64 r3, .int .i64 r4, .int .i64 r5, .int .i64 r6, .int .i64 r7, .int .i64 r8, .int .i64 r9, .int .i64 r10, .bool r11, .int .i64 r12]]) ∧ Kd.R (Kd.int .i64) 3 w' w.heap.size (fun _ => True) v0_ r1 ∧ IsS80 w0 w' g s0_0 r13 r14 ∧ Below w0.heap.size w0 w' ∧ KeepBut w w' g none := by
 have hu46 := Try.underlying46
 have HI0 := Aside0.mk hI
 have HK := Aside0.mk (KeepBut.refl w g none)
 have HL := Aside0.mk hB.size
 clear hI
 have HW0 := Aside0.mk hB.size
 have HB := Aside0.mk hB
 clear hB
 have H : ((spec_ListNew.f).bind fun t497 => (spec_l06Some.l0 k t497 (([] : List (S46))) 0 s0_0 s0_1 s0_2)) = some (r1, r2, r3, r4, r5, r6, r7, r8, r9, r10, r11, r12, r13, r14) := h
 clear h
 replace H := Option.bind_eq_some_iff.mp H
 obtain ⟨t497, A20, H⟩ := H
 have A2 := Aside0.mk A20
 clear A20
 obtain ⟨y500, hy500⟩ : ∃ y_ : List (S46), y_ = (([] : List (S46))) := ⟨_, rfl⟩
 replace H : (spec_l06Some.l0 k t497 y500 0 s0_0 s0_1 s0_2) = some (r1, r2, r3, r4, r5, r6, r7, r8, r9, r10, r11, r12, r13, r14) := by first | (rw [hy500]; with_reducible exact H) | (have H2_ := (Option.bind_some _ _).symm.trans H; rw [hy500]; with_reducible exact H2_) | (have H2_ := (Option.bind_some _ _).symm.trans H; with_reducible exact H2_) | with_reducible exact H | (rw [hy500]; exact H) | exact H
 have Ny500 := Aside0.mk hy500
 clear hy500
 have H' := Aside0.mk H
 clear H
 go_enter Try.func85, Try.ntmps85
 go_wp2_with (first | ((with_reducible refine gate_dst (N := 3) rfl ?_); refine bE 3 #[.int .i64 0, .int .i64 0, .int .i64 0, .int .i64 0, .int .i64 0, .int .i64 0, .int .i64 0, .int .i64 0, .int .i64 0, .bool false, .int .i64 0] 46 ?_; intro gb496 hg w3 hbox hb; have BK496 := Aside0.mk (hbox); have GW496 := Aside0.mk ((by rw [hg]; exact (keep_size (w := w) (g := g) (row := none) (spec_l06Some.k0 HK.out)) : w.heap.size ≤ gb496)); have GE496 := Aside0.mk ((Nat.le_trans HW0.out (by rw [hg]; exact (keep_size (w := w) (g := g) (row := none) (spec_l06Some.k0 HK.out)) : w.heap.size ≤ gb496) : w0.heap.size ≤ gb496)); have NB0_496 := Aside0.mk ((by rw [hg]; exact Nat.ne_of_lt (IsS80.lt (show IsS80 w0 _ g s0_0 s0_1 s0_2 from spec_l06Some.k1 HI0.out)) : g ≠ gb496)); have NB496_0 := Aside0.mk ((by rw [hg]; exact Nat.ne_of_gt (IsS80.lt (show IsS80 w0 _ g s0_0 s0_1 s0_2 from spec_l06Some.k1 HI0.out)) : gb496 ≠ g)); replace HK := Aside0.mk (KeepBut.trans (spec_l06Some.k0 HK.out) (KeepBut.of_below hb g none) (.inl rfl)); replace HB := Aside0.mk (below_step (by repeat (first | (with_reducible first | exact HB.out | apply below_alloc | apply pw_below_drewN | apply below_drew1 | refine below_set ?_ (IsS80.ge HI0.out)) | exact HB.out)) hb); replace HI0 := Aside0.mk (IsS80.below (spec_l06Some.k1 HI0.out) hb); clear hb hbox hg) | ((with_reducible refine gate_callee (f := 88) rfl ?_); refine goesL_ (some 11) rfl rfl Try.func88 (by kernel_rfl) rfl #[] rfl (MA) ?_; (with_reducible refine (spec_ListNew.calls  t497 _ A2.out).mono ?_); rintro e w4 ⟨v498, rfl, ho0, hb⟩; refine ⟨_, rfl, ?_⟩; have HO499 := Aside0.mk (Kd.R_lower ho0 (keep_size (w := w) (g := g) (row := none) (spec_l06Some.k2 HK.out))); replace BK496 := BB BK496.out hb; replace HK := Aside0.mk (KeepBut.trans (spec_l06Some.k2 HK.out) (KeepBut.of_below hb g none) (.inl rfl)); replace HB := Aside0.mk (below_step (spec_l06Some.k3 HB.out) hb); replace HI0 := Aside0.mk (IsS80.below (spec_l06Some.k4 HI0.out) hb); (try clear hb); (try clear hb2); (try clear hk); (try clear hi); (try clear ho0)) | ((with_reducible refine gate_dst (N := 12) rfl ?_); refine Kd.R_lit k46 _ 46 ?hg (N := 12) ?hd (xs := ([] : List (S46))) (inner := []) (ok := fun _ => True) (okp := fun _ => True) ?hr ?hp (fun _ hk => hk) trivial (Below.refl _ _) (Nat.le_refl _) (by simp) ?_; (case hd => rfl); (case hg => rfl); (case hr => first | (go_simp; done) | (go_simp; rfl)); (case hp => exact (Reps.none _ _)); intro v501 w5 ho6 hb hg_ hnew_; clear hg_ hnew_; (first | rw [← Ny500.out] at ho6 | (simp only [Int.reduceToNat] at ho6; rw [← Ny500.out] at ho6)); have HO502 := Aside0.mk (Kd.R_lower (Kd.R_newB ho6 (g := gb496) (o := .cells #[.int .i64 0, .int .i64 0, .int .i64 0, .int .i64 0, .int .i64 0, .int .i64 0, .int .i64 0, .int .i64 0, .int .i64 0, .bool false, .int .i64 0] 46 (0, 0)) (BQ BK496.out)) (keep_size (w := w) (g := g) (row := none) (spec_l06Some.k2 HK.out))); replace HO499 := Aside0.mk (Kd.R_below (RQ HO499.out) hb); replace BK496 := BB BK496.out hb; replace HK := Aside0.mk (KeepBut.trans (spec_l06Some.k2 HK.out) (KeepBut.of_below hb g none) (.inl rfl)); replace HB := Aside0.mk (below_step (spec_l06Some.k3 HB.out) hb); replace HI0 := Aside0.mk (IsS80.below (spec_l06Some.k4 HI0.out) hb); clear hb ho6))
 go_loopg [5, 6] k (fun kq v5 v6 w' => ∃ (x5_1 : List (S46)) (x6_1 : Int) (x1001_1 : Int) (x1002_1 : Int), v6 = .int .i64 x6_1 ∧ Aside0 (spec_l06Some.l0 kq t497 x5_1 x6_1 s0_0 x1001_1 x1002_1 = some (r1, r2, r3, r4, r5, r6, r7, r8, r9, r10, r11, r12, r13, r14)) ∧ Aside0 (kq ≤ k) ∧ Aside0 (Kd.R (Kd.int .i64) 3 w' w.heap.size (fun _ => True) v498 t497) ∧ Aside0 (Kd.R k46 46 w' w.heap.size (fun k_ => k_ ≠ gb496) v5 x5_1) ∧ Aside0 (w'.heap[gb496]? = some (.cells #[.int .i64 0, .int .i64 0, .int .i64 0, .int .i64 0, .int .i64 0, .int .i64 0, .int .i64 0, .int .i64 0, .int .i64 0, .bool false, .int .i64 0] 46 (0, 0))) ∧ Aside0 (IsS80 w0 w' g s0_0 x1001_1 x1002_1) ∧ Aside0 (KeepBut w w' g none) ∧ Aside0 (Below w0.heap.size w0 w'))
 case atStart => exact ⟨(y500), (0), (s0_1), (s0_2), SD, H', ⟨Nat.le_refl _⟩, ⟨RQ HO499.out⟩, ⟨by (with_reducible repeat (first | apply r1 | apply r2 | apply r3)); exact Kd.R_mono HO502.out (fun _ hk => hk.2)⟩, ⟨BQ BK496.out⟩, ⟨spec_l06Some.k4 HI0.out⟩, ⟨spec_l06Some.k2 HK.out⟩, ⟨spec_l06Some.k3 HB.out⟩⟩
 case round =>
  clear H'
  try clear p2
  obtain ⟨x5_1, x6_1, x1001_1, x1002_1, rfl, HA, HK1, HO_4, HO_5, BK496, HI0, HK, HB⟩ := hrel; cases gk with
  | zero => exact absurd HA.out (by simp [spec_l06Some.l0])
  | succ k1 =>
   have H := HA.out; clear HA; simp only [spec_l06Some.l0] at H
   by_cases c7 : x6_1 < 4
   ·
    rw [if_pos c7] at H; have c7b0 : decide (x6_1 < 4) = true := decide_eq_true c7; clear c7; replace H := Option.bind_eq_some_iff.mp H; obtain ⟨⟨t503, t504, t505, t506, t507, t508, t509, t510, t511, t512, t513, t514, t515⟩, A80, H⟩ := H; replace H : (if x5_1.length < 1599289640401 then (spec_l06Some.l0 k1 t497 (x5_1 ++ [(⟨t503, t504, t505, t506, t507, t508, t509, t510, t511, t512, t513⟩ : S46)]) (wrap64 (x6_1 + 1)) s0_0 t514 t515) else (none)) = some (r1, r2, r3, r4, r5, r6, r7, r8, r9, r10, r11, r12, r13, r14) := H; have A8 := Aside0.mk A80; clear A80
    by_cases c9 : x5_1.length < 1599289640401; rotate_left
    ·
     rw [if_neg c9] at H; exact absurd H (by simp)
    rw [if_pos c9] at H; have LMc9 := Aside0.mk c9; clear c9; obtain ⟨y516, hy516⟩ : ∃ y_ : List (S46), y_ = (x5_1 ++ [(⟨t503, t504, t505, t506, t507, t508, t509, t510, t511, t512, t513⟩ : S46)]) := ⟨_, rfl⟩
    replace H : (spec_l06Some.l0 k1 t497 y516 (wrap64 (x6_1 + 1)) s0_0 t514 t515) = some (r1, r2, r3, r4, r5, r6, r7, r8, r9, r10, r11, r12, r13, r14) := by first | (rw [hy516]; with_reducible exact H) | (have H2_ := (Option.bind_some _ _).symm.trans H; rw [hy516]; with_reducible exact H2_) | (have H2_ := (Option.bind_some _ _).symm.trans H; with_reducible exact H2_) | with_reducible exact H | (rw [hy516]; exact H) | exact H
    have Ny516 := Aside0.mk hy516; clear hy516; have H' := Aside0.mk H; clear H
    go_wp2_with (first | ((with_reducible refine gate_callee (f := 89) rfl ?_); refine goesL_ (some 21) rfl rfl Try.func89 (by kernel_rfl) rfl #[.pointer (some ⟨g, 0, none⟩), .int .i64 (wrap64 (x6_1 + 1))] rfl (MA) ?_; (with_reducible refine (spec_l06Task.calls g s0_0 x1001_1 x1002_1 (wrap64 (x6_1 + 1)) t503 t504 t505 t506 t507 t508 t509 t510 t511 t512 t513 t514 t515 w0 _ ?side1 ?side2 A8.out).mono ?_); (case side1 => exact spec_l06Some.k4 HI0.out); (case side2 => exact spec_l06Some.k3 HB.out); rintro e w10 ⟨rfl, hi, hb, hk⟩; refine ⟨_, rfl, ?_⟩; replace HO_4 := Aside0.mk (Kd.R_mono (Kd.R_keep (IsS80.apart (show IsS80 w0 _ g s0_0 x1001_1 x1002_1 from spec_l06Some.k4 HI0.out) (RQ HO_4.out) (by decide)) hk (fun _ h => h.2)) (fun _ h => h.1)); replace HO_5 := Aside0.mk (Kd.R_mono (Kd.R_keep (IsS80.apart (show IsS80 w0 _ g s0_0 x1001_1 x1002_1 from spec_l06Some.k4 HI0.out) (RQ HO_5.out) (by decide)) hk (fun _ h => h.2)) (fun _ h => h.1)); replace BK496 := Aside0.mk (KeepBut.blk hk (g' := gb496) (o := .cells #[.int .i64 0, .int .i64 0, .int .i64 0, .int .i64 0, .int .i64 0, .int .i64 0, .int .i64 0, .int .i64 0, .int .i64 0, .bool false, .int .i64 0] 46 (0, 0)) (BQ BK496.out) NB496_0.out (by simp)); replace HK := Aside0.mk (KeepBut.trans (spec_l06Some.k2 HK.out) hk (.inl rfl)); replace HB := Aside0.mk (hb); replace HI0 := Aside0.mk (hi); (try clear hb); (try clear hb2); (try clear hk); (try clear hi)) | ((with_reducible refine gate_builtin (b := .append) (xs := #[.tmp 17, .tmp 22]) rfl ?_); at_builtin; refine Kd.R_append k46 w.heap.size rfl (.tmp 17) (.tmp 22) 84 46 (.agg #[(.int .i64 0), (.int .i64 0), (.int .i64 0), (.int .i64 0), (.int .i64 0), (.int .i64 0), (.int .i64 0), (.int .i64 0), (.int .i64 0), (.bool false), (.int .i64 0)]) 88 rfl Try.underlying84 info46 rfl (by decide) (by omega) u5 x5_1 (⟨t503, t504, t505, t506, t507, t508, t509, t510, t511, t512, t513⟩ : S46) [.int .i64 t503, .int .i64 t504, .int .i64 t505, .int .i64 t506, .int .i64 t507, .int .i64 t508, .int .i64 t509, .int .i64 t510, .int .i64 t511, .bool t512, .int .i64 t513] (fun k_ => k_ ≠ gb496) (fun _ => False) rfl rfl ?aP (fun _ hk => hk.elim) ?aF ?aO (Below.refl _ _) ?aS ?aL ?_; (case aP => exact k46_mkM _ _ _ (⟨t503, t504, t505, t506, t507, t508, t509, t510, t511, t512, t513⟩ : S46)); (case aF => exact (fun k_ hk => Kd.freshB (g := gb496) (o := .cells #[.int .i64 0, .int .i64 0, .int .i64 0, .int .i64 0, .int .i64 0, .int .i64 0, .int .i64 0, .int .i64 0, .int .i64 0, .bool false, .int .i64 0] 46 (0, 0)) (BQ BK496.out) k_ hk)); (case aO => exact RQ HO_5.out); (case aS => exact (keep_size (w := w) (g := g) (row := none) (spec_l06Some.k2 HK.out))); (case aL => have := LMc9.out; omega); intro v517 w11 ho hb hg hat; rw [← Ny516.out] at ho; have n0_ := Aside0.mk (Kd.R_over' (RQ HO_4.out) (Kd.R_typed (RQ HO_5.out)) (by decide) hg); have n1_ := Aside0.mk (blk_grown (g := gb496) (o := .cells #[.int .i64 0, .int .i64 0, .int .i64 0, .int .i64 0, .int .i64 0, .int .i64 0, .int .i64 0, .int .i64 0, .int .i64 0, .bool false, .int .i64 0] 46 (0, 0)) (BQ BK496.out) hg (Kd.R_away HO_5.out (fun _ hk => hk))); have n2_ := Aside0.mk (IsS80.grown (spec_l06Some.k4 HI0.out) hg (IsS80.own_ne HI0.out HO_5.out (by decide))); have n3_ := Aside0.mk (below_weaken (spec_l06Some.k3 HB.out) HL.out hb); have n4_ := Aside0.mk (KeepBut.trans (spec_l06Some.k2 HK.out) (KeepBut.of_grown hg g) (Kd.R_base2 HO_5.out)); have n5_ := Aside0.mk (ho); clear HO_4; clear BK496; clear HI0; clear HB; clear HK; clear HO_5; have HO_4 := n0_; have BK496 := n1_; have HI0 := n2_; have HB := n3_; have HK := n4_; have HO518 := n5_; clear n0_ n1_ n2_ n3_ n4_ n5_; clear ho hb hg hat))
    go_roundg k1
    case measure => have := HK1.out; omega
    case rel => exact ⟨(y516), (wrap64 (x6_1 + 1)), (t514), (t515), SD, H', ⟨by have := HK1.out; omega⟩, ⟨RQ HO_4.out⟩, ⟨RQ HO518.out⟩, ⟨BQ BK496.out⟩, ⟨spec_l06Some.k4 HI0.out⟩, ⟨spec_l06Some.k2 HK.out⟩, ⟨spec_l06Some.k3 HB.out⟩⟩
   rw [if_neg c7] at H; have c7b0 : decide (x6_1 < 4) = false := decide_eq_false c7; clear c7; have H' := Aside0.mk H; clear H
   go_wp2
   go_loopg [4, 7] k1 (fun kq v4 v7 w' => ∃ (x4_2 : List Int) (x5_2 : List (S46)) (x7_2 : Int) (x1001_2 : Int) (x1002_2 : Int) (x497000_2 : Int) (x497001_2 : Int) (x497002_2 : Int) (x497003_2 : Int) (x497004_2 : Int) (x497005_2 : Int) (x497006_2 : Int) (x497007_2 : Int) (x497008_2 : Int) (x497009_2 : Bool) (x497010_2 : Int), v7 = .int .i64 x7_2 ∧ Aside0 (spec_l06Some.l1 kq x4_2 x5_2 x7_2 s0_0 x1001_2 x1002_2 = some (r1, r2, r3, r4, r5, r6, r7, r8, r9, r10, r11, r12, r13, r14)) ∧ Aside0 (kq ≤ k1) ∧ Aside0 (Kd.R (Kd.int .i64) 3 w' w.heap.size (fun _ => True) v4 x4_2) ∧ Aside0 (Kd.R k46 46 w' w.heap.size (fun k_ => k_ ≠ gb496) u5 x5_2) ∧ Aside0 (w'.heap[gb496]? = some (.cells #[.int .i64 x497000_2, .int .i64 x497001_2, .int .i64 x497002_2, .int .i64 x497003_2, .int .i64 x497004_2, .int .i64 x497005_2, .int .i64 x497006_2, .int .i64 x497007_2, .int .i64 x497008_2, .bool x497009_2, .int .i64 x497010_2] 46 (0, 0))) ∧ Aside0 (IsS80 w0 w' g s0_0 x1001_2 x1002_2) ∧ Aside0 (KeepBut w w' g none) ∧ Aside0 (Below w0.heap.size w0 w'))
   case atStart => exact ⟨(t497), (x5_1), (0), (x1001_1), (x1002_1), (0), (0), (0), (0), (0), (0), (0), (0), (0), (false), (0), SD, H', ⟨Nat.le_refl _⟩, ⟨RQ HO_4.out⟩, ⟨RQ HO_5.out⟩, ⟨BQ BK496.out⟩, ⟨spec_l06Some.k4 HI0.out⟩, ⟨spec_l06Some.k2 HK.out⟩, ⟨spec_l06Some.k3 HB.out⟩⟩
   case round =>
    clear H'
    try clear p2 p6 c7 c7b0 c8 c9 p2
    obtain ⟨x4_2, x5_2, x7_2, x1001_2, x1002_2, x497000_2, x497001_2, x497002_2, x497003_2, x497004_2, x497005_2, x497006_2, x497007_2, x497008_2, x497009_2, x497010_2, rfl, HA, HK2, HO_4, HO_5, BK496, HI0, HK, HB⟩ := hrel; cases gk with
    | zero => exact absurd HA.out (by simp [spec_l06Some.l1])
    | succ k2 =>
     have H := HA.out; clear HA; simp only [spec_l06Some.l1] at H; replace H := Option.bind_eq_some_iff.mp H; obtain ⟨⟨t519, t520, t521⟩, A120, H⟩ := H; replace H : (if x7_2 < t519 then ((spec_l01Below.f s0_0 t520 t521 4).bind fun bt522 => (if 0 ≤ bt522.1 then (if bt522.1 < (x5_2.length : Int) then ((spec_StepTask.f k2 x4_2 ((rd_T46 x5_2 bt522.1).f0) ((rd_T46 x5_2 bt522.1).f1) ((rd_T46 x5_2 bt522.1).f2) ((rd_T46 x5_2 bt522.1).f3) ((rd_T46 x5_2 bt522.1).f4) ((rd_T46 x5_2 bt522.1).f5) ((rd_T46 x5_2 bt522.1).f6) ((rd_T46 x5_2 bt522.1).f7) ((rd_T46 x5_2 bt522.1).f8) ((rd_T46 x5_2 bt522.1).f9) ((rd_T46 x5_2 bt522.1).f10)).bind fun bt526 => (spec_l06Some.l1 k2 bt526.1 (x5_2.set (bt522.1 : Int).toNat (⟨bt526.2.1, bt526.2.2.1, bt526.2.2.2.1, bt526.2.2.2.2.1, bt526.2.2.2.2.2.1, bt526.2.2.2.2.2.2.1, bt526.2.2.2.2.2.2.2.1, bt526.2.2.2.2.2.2.2.2.1, bt526.2.2.2.2.2.2.2.2.2.1, bt526.2.2.2.2.2.2.2.2.2.2.1, bt526.2.2.2.2.2.2.2.2.2.2.2⟩ : S46)) (wrap64 (x7_2 + 1)) s0_0 bt522.2.1 bt522.2.2)) else (none)) else (none))) else ((spec_l01Below.f s0_0 t520 t521 4).bind fun bt541 => (spec_l06Some.l2 k2 x4_2 x5_2 bt541.1 0 s0_0 bt541.2.1 bt541.2.2))) = some (r1, r2, r3, r4, r5, r6, r7, r8, r9, r10, r11, r12, r13, r14) := H; have A12 := Aside0.mk A120; clear A120
     by_cases c13 : x7_2 < t519
     ·
      rw [if_pos c13] at H; have c13b0 : decide (x7_2 < t519) = true := decide_eq_true c13; clear c13; replace H := Option.bind_eq_some_iff.mp H; obtain ⟨⟨t522, t523, t524⟩, A140, H⟩ := H; replace H : (if 0 ≤ t522 then (if t522 < (x5_2.length : Int) then ((spec_StepTask.f k2 x4_2 ((rd_T46 x5_2 t522).f0) ((rd_T46 x5_2 t522).f1) ((rd_T46 x5_2 t522).f2) ((rd_T46 x5_2 t522).f3) ((rd_T46 x5_2 t522).f4) ((rd_T46 x5_2 t522).f5) ((rd_T46 x5_2 t522).f6) ((rd_T46 x5_2 t522).f7) ((rd_T46 x5_2 t522).f8) ((rd_T46 x5_2 t522).f9) ((rd_T46 x5_2 t522).f10)).bind fun bt526 => (spec_l06Some.l1 k2 bt526.1 (x5_2.set (t522 : Int).toNat (⟨bt526.2.1, bt526.2.2.1, bt526.2.2.2.1, bt526.2.2.2.2.1, bt526.2.2.2.2.2.1, bt526.2.2.2.2.2.2.1, bt526.2.2.2.2.2.2.2.1, bt526.2.2.2.2.2.2.2.2.1, bt526.2.2.2.2.2.2.2.2.2.1, bt526.2.2.2.2.2.2.2.2.2.2.1, bt526.2.2.2.2.2.2.2.2.2.2.2⟩ : S46)) (wrap64 (x7_2 + 1)) s0_0 t523 t524)) else (none)) else (none)) = some (r1, r2, r3, r4, r5, r6, r7, r8, r9, r10, r11, r12, r13, r14) := H; have A14 := Aside0.mk A140; clear A140
      by_cases c15 : 0 ≤ t522; rotate_left
      ·
       rw [if_neg c15] at H; exact absurd H (by simp)
      rw [if_pos c15] at H; have c15b0 : decide (0 ≤ t522) = true := decide_eq_true c15; clear c15
      by_cases c16 : t522 < (x5_2.length : Int); rotate_left
      ·
       rw [if_neg c16] at H; exact absurd H (by simp)
      rw [if_pos c16] at H; have c16b0 : decide (t522 < (x5_2.length : Int)) = true := decide_eq_true c16; clear c16; replace H := Option.bind_eq_some_iff.mp H; obtain ⟨⟨t526, t529, t530, t531, t532, t533, t534, t535, t536, t537, t538, t539⟩, A170, H⟩ := H; replace H : (spec_l06Some.l1 k2 t526 (x5_2.set (t522 : Int).toNat (⟨t529, t530, t531, t532, t533, t534, t535, t536, t537, t538, t539⟩ : S46)) (wrap64 (x7_2 + 1)) s0_0 t523 t524) = some (r1, r2, r3, r4, r5, r6, r7, r8, r9, r10, r11, r12, r13, r14) := H; have A17 := Aside0.mk A170; clear A170; obtain ⟨y540, hy540⟩ : ∃ y_ : List (S46), y_ = (x5_2.set (t522 : Int).toNat (⟨t529, t530, t531, t532, t533, t534, t535, t536, t537, t538, t539⟩ : S46)) := ⟨_, rfl⟩
      replace H : (spec_l06Some.l1 k2 t526 y540 (wrap64 (x7_2 + 1)) s0_0 t523 t524) = some (r1, r2, r3, r4, r5, r6, r7, r8, r9, r10, r11, r12, r13, r14) := by first | (rw [hy540]; with_reducible exact H) | (have H2_ := (Option.bind_some _ _).symm.trans H; rw [hy540]; with_reducible exact H2_) | (have H2_ := (Option.bind_some _ _).symm.trans H; with_reducible exact H2_) | with_reducible exact H | (rw [hy540]; exact H) | exact H
      have Ny540 := Aside0.mk hy540; clear hy540; have H' := Aside0.mk H; clear H
      go_wp2_with (first | ((with_reducible refine gate_callee (f := 59) rfl ?_); refine goesL_ (some 26) rfl rfl Try.func59 (by kernel_rfl) rfl #[.pointer (some ⟨g, 0, none⟩), .int .i64 40] rfl (MA) ?_; (with_reducible refine (spec_l01Below.calls g s0_0 x1001_2 x1002_2 40 t519 t520 t521 w0 _ ?side1 ?side2 A12.out).mono ?_); (case side1 => exact spec_l06Some.k4 HI0.out); (case side2 => exact spec_l06Some.k3 HB.out); rintro e w19 ⟨rfl, hi, hb, hk⟩; refine ⟨_, rfl, ?_⟩; replace HO_4 := Aside0.mk (Kd.R_mono (Kd.R_keep (IsS80.apart (show IsS80 w0 _ g s0_0 x1001_2 x1002_2 from spec_l06Some.k4 HI0.out) (RQ HO_4.out) (by decide)) hk (fun _ h => h.2)) (fun _ h => h.1)); replace HO_5 := Aside0.mk (Kd.R_mono (Kd.R_keep (IsS80.apart (show IsS80 w0 _ g s0_0 x1001_2 x1002_2 from spec_l06Some.k4 HI0.out) (RQ HO_5.out) (by decide)) hk (fun _ h => h.2)) (fun _ h => h.1)); replace BK496 := Aside0.mk (KeepBut.blk hk (g' := gb496) (o := .cells #[.int .i64 x497000_2, .int .i64 x497001_2, .int .i64 x497002_2, .int .i64 x497003_2, .int .i64 x497004_2, .int .i64 x497005_2, .int .i64 x497006_2, .int .i64 x497007_2, .int .i64 x497008_2, .bool x497009_2, .int .i64 x497010_2] 46 (0, 0)) (BQ BK496.out) NB496_0.out (by simp)); replace HK := Aside0.mk (KeepBut.trans (spec_l06Some.k2 HK.out) hk (.inl rfl)); replace HB := Aside0.mk (hb); replace HI0 := Aside0.mk (hi); (try clear hb); (try clear hb2); (try clear hk); (try clear hi)) | ((with_reducible refine gate_callee (f := 59) rfl ?_); refine goesL_ (some 31) rfl rfl Try.func59 (by kernel_rfl) rfl #[.pointer (some ⟨g, 0, none⟩), .int .i64 4] rfl (MA) ?_; (with_reducible refine (spec_l01Below.calls g s0_0 t520 t521 4 t522 t523 t524 w0 _ ?side1 ?side2 A14.out).mono ?_); (case side1 => exact spec_l06Some.k4 HI0.out); (case side2 => exact spec_l06Some.k3 HB.out); rintro e w20 ⟨rfl, hi, hb, hk⟩; refine ⟨_, rfl, ?_⟩; replace HO_4 := Aside0.mk (Kd.R_mono (Kd.R_keep (IsS80.apart (show IsS80 w0 _ g s0_0 t520 t521 from spec_l06Some.k4 HI0.out) (RQ HO_4.out) (by decide)) hk (fun _ h => h.2)) (fun _ h => h.1)); replace HO_5 := Aside0.mk (Kd.R_mono (Kd.R_keep (IsS80.apart (show IsS80 w0 _ g s0_0 t520 t521 from spec_l06Some.k4 HI0.out) (RQ HO_5.out) (by decide)) hk (fun _ h => h.2)) (fun _ h => h.1)); replace BK496 := Aside0.mk (KeepBut.blk hk (g' := gb496) (o := .cells #[.int .i64 x497000_2, .int .i64 x497001_2, .int .i64 x497002_2, .int .i64 x497003_2, .int .i64 x497004_2, .int .i64 x497005_2, .int .i64 x497006_2, .int .i64 x497007_2, .int .i64 x497008_2, .bool x497009_2, .int .i64 x497010_2] 46 (0, 0)) (BQ BK496.out) NB496_0.out (by simp)); replace HK := Aside0.mk (KeepBut.trans (spec_l06Some.k2 HK.out) hk (.inl rfl)); replace HB := Aside0.mk (hb); replace HI0 := Aside0.mk (hi); (try clear hb); (try clear hb2); (try clear hk); (try clear hi); obtain ⟨Ao21, co21, eo21⟩ := Kd.R_slice HO_5.out; subst eo21; have p525 : 0 ≤ (t522 : Int) := of_decide_eq_true AS; have q525 : t522 < (x5_2.length : Int) := of_decide_eq_true AS; obtain ⟨ad525, e525, hx525_0, hx525_1, hx525_2, hx525_3, hx525_4, hx525_5, hx525_6, hx525_7, hx525_8, hx525_9, hx525_10⟩ := at_T46 (Kd.R_reads' HO_5.out).2.2 t522 p525 q525; cases e525; replace p525 := eq_true p525; replace q525 := eq_true q525; obtain ⟨Ao22, co22, eo22⟩ := Kd.R_slice HO_4.out; subst eo22) | ((with_reducible refine gate_callee (f := 37) rfl ?_); refine goesL_ (some 40) rfl rfl Try.func37 (by kernel_rfl) rfl #[.slice Ao22 x4_2.length co22, .agg #[.int .i64 ((rd_T46 x5_2 t522).f0), .int .i64 ((rd_T46 x5_2 t522).f1), .int .i64 ((rd_T46 x5_2 t522).f2), .int .i64 ((rd_T46 x5_2 t522).f3), .int .i64 ((rd_T46 x5_2 t522).f4), .int .i64 ((rd_T46 x5_2 t522).f5), .int .i64 ((rd_T46 x5_2 t522).f6), .int .i64 ((rd_T46 x5_2 t522).f7), .int .i64 ((rd_T46 x5_2 t522).f8), .bool ((rd_T46 x5_2 t522).f9), .int .i64 ((rd_T46 x5_2 t522).f10)]] rfl (MA) ?_; (with_reducible refine (spec_StepTask.calls k2 _ _ x4_2 ((rd_T46 x5_2 t522).f0) ((rd_T46 x5_2 t522).f1) ((rd_T46 x5_2 t522).f2) ((rd_T46 x5_2 t522).f3) ((rd_T46 x5_2 t522).f4) ((rd_T46 x5_2 t522).f5) ((rd_T46 x5_2 t522).f6) ((rd_T46 x5_2 t522).f7) ((rd_T46 x5_2 t522).f8) ((rd_T46 x5_2 t522).f9) ((rd_T46 x5_2 t522).f10) t526 t529 t530 t531 t532 t533 t534 t535 t536 t537 t538 t539 _ ?side1 ?side2 A17.out).mono ?_); (case side1 => repeat (first | exact (Kd.R_reads' HO_4.out).2.2 | (with_reducible refine Kd.C_alloc ?_ _) | (with_reducible refine Kd.C_drewN ?_ _) | (with_reducible refine Kd.C_drew ?_))); (case side2 => exact (Kd.R_reads' HO_4.out).2.1); rintro e w23 ⟨v527, rfl, ho0, hb⟩; refine ⟨_, rfl, ?_⟩; have HO528 := Aside0.mk (Kd.R_lower (Kd.R_new' ho0 (Kd.R_lt (RQ HO_4.out))) (keep_size (w := w) (g := g) (row := none) (spec_l06Some.k2 HK.out))); replace HO_4 := Aside0.mk (Kd.R_elder' (RQ HO_4.out) (Kd.R_base ho0) hb); replace HO_5 := Aside0.mk (Kd.R_below (RQ HO_5.out) hb); replace BK496 := BB BK496.out hb; replace HK := Aside0.mk (KeepBut.trans (spec_l06Some.k2 HK.out) (KeepBut.of_below hb g none) (.inl rfl)); replace HB := Aside0.mk (below_step (spec_l06Some.k3 HB.out) hb); replace HI0 := Aside0.mk (IsS80.below (spec_l06Some.k4 HI0.out) hb); (try clear hb); (try clear hb2); (try clear hk); (try clear hi); (try clear ho0); have p18 : 0 ≤ (t522 : Int) := of_decide_eq_true AS; have q18 : (t522 : Int) < ((x5_2.length : Int) : Int) := of_decide_eq_true AS; obtain ⟨go18, co18, eo18, gb18, gl18, cl18, HG18⟩ := Kd.R_form HO_5.out (by omega); (first | cases eo18 | (injection eo18 with ea_ en_ ec_; (first | subst ea_ | (injection ea_ with ea_; subst ea_)); subst ec_; clear en_)); have GB18 := Aside0.mk gb18; have GG18 := Aside0.mk HG18; clear gb18 gl18 HG18; (first | simp only [add_plain] at hx525_0 | skip); (first | simp only [add_plain] at hx525_1 | skip); (first | simp only [add_plain] at hx525_2 | skip); (first | simp only [add_plain] at hx525_3 | skip); (first | simp only [add_plain] at hx525_4 | skip); (first | simp only [add_plain] at hx525_5 | skip); (first | simp only [add_plain] at hx525_6 | skip); (first | simp only [add_plain] at hx525_7 | skip); (first | simp only [add_plain] at hx525_8 | skip); (first | simp only [add_plain] at hx525_9 | skip); (first | simp only [add_plain] at hx525_10 | skip); obtain ⟨ce18, hcl18, hM18, hcc18, hfr18⟩ := Kd.R_elem HO_5.out z46 (t522 : Int) p18 q18; obtain rfl := k46_openM hM18; have hx18_0 : w23.cell? ⟨go18, (t522 : Int).toNat * 11, none⟩ = some (.int .i64 ((rd_T46 x5_2 t522).f0)) := hcc18 0 _ rfl; have hx18_1 : w23.cell? ⟨go18, (t522 : Int).toNat * 11 + 1, none⟩ = some (.int .i64 ((rd_T46 x5_2 t522).f1)) := hcc18 1 _ rfl; have hx18_2 : w23.cell? ⟨go18, (t522 : Int).toNat * 11 + 2, none⟩ = some (.int .i64 ((rd_T46 x5_2 t522).f2)) := hcc18 2 _ rfl; have hx18_3 : w23.cell? ⟨go18, (t522 : Int).toNat * 11 + 3, none⟩ = some (.int .i64 ((rd_T46 x5_2 t522).f3)) := hcc18 3 _ rfl; have hx18_4 : w23.cell? ⟨go18, (t522 : Int).toNat * 11 + 4, none⟩ = some (.int .i64 ((rd_T46 x5_2 t522).f4)) := hcc18 4 _ rfl; have hx18_5 : w23.cell? ⟨go18, (t522 : Int).toNat * 11 + 5, none⟩ = some (.int .i64 ((rd_T46 x5_2 t522).f5)) := hcc18 5 _ rfl; have hx18_6 : w23.cell? ⟨go18, (t522 : Int).toNat * 11 + 6, none⟩ = some (.int .i64 ((rd_T46 x5_2 t522).f6)) := hcc18 6 _ rfl; have hx18_7 : w23.cell? ⟨go18, (t522 : Int).toNat * 11 + 7, none⟩ = some (.int .i64 ((rd_T46 x5_2 t522).f7)) := hcc18 7 _ rfl; have hx18_8 : w23.cell? ⟨go18, (t522 : Int).toNat * 11 + 8, none⟩ = some (.int .i64 ((rd_T46 x5_2 t522).f8)) := hcc18 8 _ rfl; have hx18_9 : w23.cell? ⟨go18, (t522 : Int).toNat * 11 + 9, none⟩ = some (.bool ((rd_T46 x5_2 t522).f9)) := hcc18 9 _ rfl; have hx18_10 : w23.cell? ⟨go18, (t522 : Int).toNat * 11 + 10, none⟩ = some (.int .i64 ((rd_T46 x5_2 t522).f10)) := hcc18 10 _ rfl; have hf18_0 : w23.frozen? ⟨go18, (t522 : Int).toNat * 11, none⟩ = false := hfr18 0; have hf18_1 : w23.frozen? ⟨go18, (t522 : Int).toNat * 11 + 1, none⟩ = false := hfr18 1; have hf18_2 : w23.frozen? ⟨go18, (t522 : Int).toNat * 11 + 2, none⟩ = false := hfr18 2; have hf18_3 : w23.frozen? ⟨go18, (t522 : Int).toNat * 11 + 3, none⟩ = false := hfr18 3; have hf18_4 : w23.frozen? ⟨go18, (t522 : Int).toNat * 11 + 4, none⟩ = false := hfr18 4; have hf18_5 : w23.frozen? ⟨go18, (t522 : Int).toNat * 11 + 5, none⟩ = false := hfr18 5; have hf18_6 : w23.frozen? ⟨go18, (t522 : Int).toNat * 11 + 6, none⟩ = false := hfr18 6; have hf18_7 : w23.frozen? ⟨go18, (t522 : Int).toNat * 11 + 7, none⟩ = false := hfr18 7; have hf18_8 : w23.frozen? ⟨go18, (t522 : Int).toNat * 11 + 8, none⟩ = false := hfr18 8; have hf18_9 : w23.frozen? ⟨go18, (t522 : Int).toNat * 11 + 9, none⟩ = false := hfr18 9; have hf18_10 : w23.frozen? ⟨go18, (t522 : Int).toNat * 11 + 10, none⟩ = false := hfr18 10; clear hcl18 hcc18 hfr18 hM18; replace p18 := eq_true p18; replace q18 := eq_true q18; have HX24 := Aside0.mk (show Kd.R k46 46 w23 w.heap.size (fun k_ => k_ ≠ gb496) (.slice (some ⟨go18, 0, none⟩) x5_2.length co21) x5_2 from (RQ HO_5.out)); obtain ⟨ce24, hcl24, hM24, hcc24, hfr24⟩ := Kd.R_elem HX24.out z46 (t522 : Int) (of_decide_eq_true AS) (by have h_ : (t522 : Int) < ((x5_2.length : Int) : Int) := of_decide_eq_true AS; first | exact h_ | (have e_ := (Kd.R_reads' HO_5.out).1; omega) | simpa using h_); obtain rfl := k46_openM hM24; have HP24 := Kd.R_seg HX24.out (t522 : Int) (of_decide_eq_true AS) (by have h_ : (t522 : Int) < ((x5_2.length : Int) : Int) := of_decide_eq_true AS; first | exact h_ | (have e_ := (Kd.R_reads' HO_5.out).1; omega) | simpa using h_) (seg := [.int .i64 t529, .int .i64 t530, .int .i64 t531, .int .i64 t532, .int .i64 t533, .int .i64 t534, .int .i64 t535, .int .i64 t536, .int .i64 t537, .bool t538, .int .i64 t539]) (j := 0) hcl24 hcc24 (show 11 ≤ 11 from by decide) (x' := (⟨t529, t530, t531, t532, t533, t534, t535, t536, t537, t538, t539⟩ : S46)) (k46_mkM _ _ _ (⟨t529, t530, t531, t532, t533, t534, t535, t536, t537, t538, t539⟩ : S46) ) (fun _ hk => hk); have hx24_0 := hcc24 0 _ rfl; (try simp only [show (k46).sz = 11 from rfl, Nat.mul_one, Nat.add_zero] at hx24_0); have hf24_0 := hfr24 0; (try simp only [show (k46).sz = 11 from rfl, Nat.mul_one, Nat.add_zero] at hf24_0); have hx24_1 := hcc24 1 _ rfl; (try simp only [show (k46).sz = 11 from rfl, Nat.mul_one, Nat.add_zero] at hx24_1); have hf24_1 := hfr24 1; (try simp only [show (k46).sz = 11 from rfl, Nat.mul_one, Nat.add_zero] at hf24_1); have hx24_2 := hcc24 2 _ rfl; (try simp only [show (k46).sz = 11 from rfl, Nat.mul_one, Nat.add_zero] at hx24_2); have hf24_2 := hfr24 2; (try simp only [show (k46).sz = 11 from rfl, Nat.mul_one, Nat.add_zero] at hf24_2); have hx24_3 := hcc24 3 _ rfl; (try simp only [show (k46).sz = 11 from rfl, Nat.mul_one, Nat.add_zero] at hx24_3); have hf24_3 := hfr24 3; (try simp only [show (k46).sz = 11 from rfl, Nat.mul_one, Nat.add_zero] at hf24_3); have hx24_4 := hcc24 4 _ rfl; (try simp only [show (k46).sz = 11 from rfl, Nat.mul_one, Nat.add_zero] at hx24_4); have hf24_4 := hfr24 4; (try simp only [show (k46).sz = 11 from rfl, Nat.mul_one, Nat.add_zero] at hf24_4); have hx24_5 := hcc24 5 _ rfl; (try simp only [show (k46).sz = 11 from rfl, Nat.mul_one, Nat.add_zero] at hx24_5); have hf24_5 := hfr24 5; (try simp only [show (k46).sz = 11 from rfl, Nat.mul_one, Nat.add_zero] at hf24_5); have hx24_6 := hcc24 6 _ rfl; (try simp only [show (k46).sz = 11 from rfl, Nat.mul_one, Nat.add_zero] at hx24_6); have hf24_6 := hfr24 6; (try simp only [show (k46).sz = 11 from rfl, Nat.mul_one, Nat.add_zero] at hf24_6); have hx24_7 := hcc24 7 _ rfl; (try simp only [show (k46).sz = 11 from rfl, Nat.mul_one, Nat.add_zero] at hx24_7); have hf24_7 := hfr24 7; (try simp only [show (k46).sz = 11 from rfl, Nat.mul_one, Nat.add_zero] at hf24_7); have hx24_8 := hcc24 8 _ rfl; (try simp only [show (k46).sz = 11 from rfl, Nat.mul_one, Nat.add_zero] at hx24_8); have hf24_8 := hfr24 8; (try simp only [show (k46).sz = 11 from rfl, Nat.mul_one, Nat.add_zero] at hf24_8); have hx24_9 := hcc24 9 _ rfl; (try simp only [show (k46).sz = 11 from rfl, Nat.mul_one, Nat.add_zero] at hx24_9); have hf24_9 := hfr24 9; (try simp only [show (k46).sz = 11 from rfl, Nat.mul_one, Nat.add_zero] at hf24_9); have hx24_10 := hcc24 10 _ rfl; (try simp only [show (k46).sz = 11 from rfl, Nat.mul_one, Nat.add_zero] at hx24_10); have hf24_10 := hfr24 10; (try simp only [show (k46).sz = 11 from rfl, Nat.mul_one, Nat.add_zero] at hf24_10); clear hcl24 hcc24 hfr24 hM24) | ((with_reducible refine gate_store (t := 46) (p := 43) rfl ?_); refine store_event (t := 46) (p := 43) (v := ?vo_w25) (w1 := (((((((((((w23.setCell ⟨go18, (t522 : Int).toNat * 11, none⟩ (.int .i64 t529)).setCell ⟨go18, (t522 : Int).toNat * 11 + 1, none⟩ (.int .i64 t530)).setCell ⟨go18, (t522 : Int).toNat * 11 + 2, none⟩ (.int .i64 t531)).setCell ⟨go18, (t522 : Int).toNat * 11 + 3, none⟩ (.int .i64 t532)).setCell ⟨go18, (t522 : Int).toNat * 11 + 4, none⟩ (.int .i64 t533)).setCell ⟨go18, (t522 : Int).toNat * 11 + 5, none⟩ (.int .i64 t534)).setCell ⟨go18, (t522 : Int).toNat * 11 + 6, none⟩ (.int .i64 t535)).setCell ⟨go18, (t522 : Int).toNat * 11 + 7, none⟩ (.int .i64 t536)).setCell ⟨go18, (t522 : Int).toNat * 11 + 8, none⟩ (.int .i64 t537)).setCell ⟨go18, (t522 : Int).toNat * 11 + 9, none⟩ (.bool t538)).setCell ⟨go18, (t522 : Int).toNat * 11 + 10, none⟩ (.int .i64 t539))) ?hg ?ho ?hn ?hr ?_; (case ho => rfl); (case hg => rfl); (case hn => rfl); (case hr => first | (go_simp; done) | (go_simp; rfl)); intro w25 hw; have hg : w23.grownBy w25 (some go18) := (by rw [hw]; exact HP24.2); have hp_ : Kd.R k46 46 w25 w.heap.size (fun k_ => k_ ≠ gb496) (.slice (some ⟨go18, 0, none⟩) x5_2.length co21) y540 := (by rw [hw, Ny540.out]; exact HP24.1); clear HP24; replace HO_4 := Aside0.mk (Kd.R_over' (v := (.slice (some ⟨go18, 0, none⟩) x5_2.length co21)) (RQ HO_4.out) (Kd.R_typed HO_5.out) (by decide) hg); replace BK496 := Aside0.mk (blk_grown (g := gb496) (o := .cells #[.int .i64 x497000_2, .int .i64 x497001_2, .int .i64 x497002_2, .int .i64 x497003_2, .int .i64 x497004_2, .int .i64 x497005_2, .int .i64 x497006_2, .int .i64 x497007_2, .int .i64 x497008_2, .bool x497009_2, .int .i64 x497010_2] 46 (0, 0)) (BQ BK496.out) hg (Kd.R_away HO_5.out (fun _ hk => hk))); replace HI0 := Aside0.mk (IsS80.grown (spec_l06Some.k4 HI0.out) hg (IsS80.own_ne HI0.out HO_5.out (by decide))); replace HO528 := Aside0.mk (Kd.R_over' (v := (.slice (some ⟨go18, 0, none⟩) x5_2.length co21)) (RQ HO528.out) (Kd.R_typed HO_5.out) (by decide) hg); replace HB := Aside0.mk ((by rw [hw]; exact below_set (below_set (below_set (below_set (below_set (below_set (below_set (below_set (below_set (below_set (below_set (HB.out) (Nat.le_trans HL.out GB18.out)) (Nat.le_trans HL.out GB18.out)) (Nat.le_trans HL.out GB18.out)) (Nat.le_trans HL.out GB18.out)) (Nat.le_trans HL.out GB18.out)) (Nat.le_trans HL.out GB18.out)) (Nat.le_trans HL.out GB18.out)) (Nat.le_trans HL.out GB18.out)) (Nat.le_trans HL.out GB18.out)) (Nat.le_trans HL.out GB18.out)) (Nat.le_trans HL.out GB18.out) : Below w0.heap.size w0 w25)); replace HK := Aside0.mk (KeepBut.trans (spec_l06Some.k2 HK.out) (KeepBut.of_grown hg g) (Kd.R_base2 HO_5.out)); replace HO_5 := Aside0.mk (hp_); clear hg hw hp_))
      go_roundg k2
      case measure => have := HK1.out; have := HK2.out; omega
      case rel => exact ⟨(t526), (y540), (wrap64 (x7_2 + 1)), (t523), (t524), (x497000_2), (x497001_2), (x497002_2), (x497003_2), (x497004_2), (x497005_2), (x497006_2), (x497007_2), (x497008_2), (x497009_2), (x497010_2), SD, H', ⟨by have := HK1.out; have := HK2.out; omega⟩, ⟨by (with_reducible repeat (first | apply r1 | apply r2 | apply r3)); exact Kd.R_mono HO528.out (fun _ hk => trivial)⟩, ⟨RQ HO_5.out⟩, ⟨BQ BK496.out⟩, ⟨spec_l06Some.k4 HI0.out⟩, ⟨spec_l06Some.k2 HK.out⟩, ⟨spec_l06Some.k3 HB.out⟩⟩
     rw [if_neg c13] at H; have c13b0 : decide (x7_2 < t519) = false := decide_eq_false c13; clear c13; replace H := Option.bind_eq_some_iff.mp H; obtain ⟨⟨t541, t542, t543⟩, A260, H⟩ := H; replace H : (spec_l06Some.l2 k2 x4_2 x5_2 t541 0 s0_0 t542 t543) = some (r1, r2, r3, r4, r5, r6, r7, r8, r9, r10, r11, r12, r13, r14) := H; have A26 := Aside0.mk A260; clear A260; have H' := Aside0.mk H; clear H
     go_wp2_with (first | ((with_reducible refine gate_callee (f := 59) rfl ?_); refine goesL_ (some 26) rfl rfl Try.func59 (by kernel_rfl) rfl #[.pointer (some ⟨g, 0, none⟩), .int .i64 40] rfl (MA) ?_; (with_reducible refine (spec_l01Below.calls g s0_0 x1001_2 x1002_2 40 t519 t520 t521 w0 _ ?side1 ?side2 A12.out).mono ?_); (case side1 => exact spec_l06Some.k4 HI0.out); (case side2 => exact spec_l06Some.k3 HB.out); rintro e w27 ⟨rfl, hi, hb, hk⟩; refine ⟨_, rfl, ?_⟩; replace HO_4 := Aside0.mk (Kd.R_mono (Kd.R_keep (IsS80.apart (show IsS80 w0 _ g s0_0 x1001_2 x1002_2 from spec_l06Some.k4 HI0.out) (RQ HO_4.out) (by decide)) hk (fun _ h => h.2)) (fun _ h => h.1)); replace HO_5 := Aside0.mk (Kd.R_mono (Kd.R_keep (IsS80.apart (show IsS80 w0 _ g s0_0 x1001_2 x1002_2 from spec_l06Some.k4 HI0.out) (RQ HO_5.out) (by decide)) hk (fun _ h => h.2)) (fun _ h => h.1)); replace BK496 := Aside0.mk (KeepBut.blk hk (g' := gb496) (o := .cells #[.int .i64 x497000_2, .int .i64 x497001_2, .int .i64 x497002_2, .int .i64 x497003_2, .int .i64 x497004_2, .int .i64 x497005_2, .int .i64 x497006_2, .int .i64 x497007_2, .int .i64 x497008_2, .bool x497009_2, .int .i64 x497010_2] 46 (0, 0)) (BQ BK496.out) NB496_0.out (by simp)); replace HK := Aside0.mk (KeepBut.trans (spec_l06Some.k2 HK.out) hk (.inl rfl)); replace HB := Aside0.mk (hb); replace HI0 := Aside0.mk (hi); (try clear hb); (try clear hb2); (try clear hk); (try clear hi)) | ((with_reducible refine gate_callee (f := 59) rfl ?_); refine goesL_ (some 45) rfl rfl Try.func59 (by kernel_rfl) rfl #[.pointer (some ⟨g, 0, none⟩), .int .i64 4] rfl (MA) ?_; (with_reducible refine (spec_l01Below.calls g s0_0 t520 t521 4 t541 t542 t543 w0 _ ?side1 ?side2 A26.out).mono ?_); (case side1 => exact spec_l06Some.k4 HI0.out); (case side2 => exact spec_l06Some.k3 HB.out); rintro e w28 ⟨rfl, hi, hb, hk⟩; refine ⟨_, rfl, ?_⟩; replace HO_4 := Aside0.mk (Kd.R_mono (Kd.R_keep (IsS80.apart (show IsS80 w0 _ g s0_0 t520 t521 from spec_l06Some.k4 HI0.out) (RQ HO_4.out) (by decide)) hk (fun _ h => h.2)) (fun _ h => h.1)); replace HO_5 := Aside0.mk (Kd.R_mono (Kd.R_keep (IsS80.apart (show IsS80 w0 _ g s0_0 t520 t521 from spec_l06Some.k4 HI0.out) (RQ HO_5.out) (by decide)) hk (fun _ h => h.2)) (fun _ h => h.1)); replace BK496 := Aside0.mk (KeepBut.blk hk (g' := gb496) (o := .cells #[.int .i64 x497000_2, .int .i64 x497001_2, .int .i64 x497002_2, .int .i64 x497003_2, .int .i64 x497004_2, .int .i64 x497005_2, .int .i64 x497006_2, .int .i64 x497007_2, .int .i64 x497008_2, .bool x497009_2, .int .i64 x497010_2] 46 (0, 0)) (BQ BK496.out) NB496_0.out (by simp)); replace HK := Aside0.mk (KeepBut.trans (spec_l06Some.k2 HK.out) hk (.inl rfl)); replace HB := Aside0.mk (hb); replace HI0 := Aside0.mk (hi); (try clear hb); (try clear hb2); (try clear hk); (try clear hi)))
     go_loopg [10] k2 (fun kq v10 w' => ∃ (x10_3 : Int) (x497000_3 : Int) (x497001_3 : Int) (x497002_3 : Int) (x497003_3 : Int) (x497004_3 : Int) (x497005_3 : Int) (x497006_3 : Int) (x497007_3 : Int) (x497008_3 : Int) (x497009_3 : Bool) (x497010_3 : Int), v10 = .int .i64 x10_3 ∧ Aside0 (spec_l06Some.l2 kq x4_2 x5_2 t541 x10_3 s0_0 t542 t543 = some (r1, r2, r3, r4, r5, r6, r7, r8, r9, r10, r11, r12, r13, r14)) ∧ Aside0 (kq ≤ k2) ∧ Aside0 (Kd.R (Kd.int .i64) 3 w' w.heap.size (fun _ => True) u4 x4_2) ∧ Aside0 (Kd.R k46 46 w' w.heap.size (fun k_ => k_ ≠ gb496) u5 x5_2) ∧ Aside0 (w'.heap[gb496]? = some (.cells #[.int .i64 x497000_3, .int .i64 x497001_3, .int .i64 x497002_3, .int .i64 x497003_3, .int .i64 x497004_3, .int .i64 x497005_3, .int .i64 x497006_3, .int .i64 x497007_3, .int .i64 x497008_3, .bool x497009_3, .int .i64 x497010_3] 46 (0, 0))) ∧ Aside0 (IsS80 w0 w' g s0_0 t542 t543) ∧ Aside0 (KeepBut w w' g none) ∧ Aside0 (Below w0.heap.size w0 w'))
     case atStart => exact ⟨(0), (x497000_2), (x497001_2), (x497002_2), (x497003_2), (x497004_2), (x497005_2), (x497006_2), (x497007_2), (x497008_2), (x497009_2), (x497010_2), SD, H', ⟨Nat.le_refl _⟩, ⟨RQ HO_4.out⟩, ⟨RQ HO_5.out⟩, ⟨BQ BK496.out⟩, ⟨spec_l06Some.k4 HI0.out⟩, ⟨spec_l06Some.k2 HK.out⟩, ⟨spec_l06Some.k3 HB.out⟩⟩
     case round =>
      clear H'
      try clear c1 p1 q1 hx1 hf1 c2 p2 hx2 hf2 c3 c5 p5 q5 hx5 p6 c7 c7b0 c8 c9 c13 c13b0 c15 c15b0 c16 c16b0 c18 p18 q18 hx18 hf18 c24 hx24 hf24 hx18_0 hx18_1 hx18_10 hx18_2 hx18_3 hx18_4 hx18_5 hx18_6 hx18_7 hx18_8 hx18_9 hx24_0 hx24_1 hx24_10 hx24_2 hx24_3 hx24_4 hx24_5 hx24_6 hx24_7 hx24_8 hx24_9 hx525_0 hx525_1 hx525_10 hx525_2 hx525_3 hx525_4 hx525_5 hx525_6 hx525_7 hx525_8 hx525_9 p18 p2 p525 p6 q18 q525
      obtain ⟨x10_3, x497000_3, x497001_3, x497002_3, x497003_3, x497004_3, x497005_3, x497006_3, x497007_3, x497008_3, x497009_3, x497010_3, rfl, HA, HK3, HO_4, HO_5, BK496, HI0, HK, HB⟩ := hrel; cases gk with
      | zero => exact absurd HA.out (by simp [spec_l06Some.l2])
      | succ k3 =>
       have H := HA.out; clear HA; simp only [spec_l06Some.l2] at H
       by_cases c29 : x10_3 < 4; rotate_left
       ·
        rw [if_neg c29] at H; have c29b0 : decide (x10_3 < 4) = false := decide_eq_false c29; clear c29
        by_cases c49 : 0 ≤ t541; rotate_left
        ·
         rw [if_neg c49] at H; exact absurd H (by simp)
        rw [if_pos c49] at H; have c49b0 : decide (0 ≤ t541) = true := decide_eq_true c49; clear c49
        by_cases c50 : t541 < (x5_2.length : Int); rotate_left
        ·
         rw [if_neg c50] at H; exact absurd H (by simp)
        rw [if_pos c50] at H; have c50b0 : decide (t541 < (x5_2.length : Int)) = true := decide_eq_true c50; clear c50; simp only [Option.some.injEq, Prod.mk.injEq] at H; obtain ⟨rfl, rfl, rfl, rfl, rfl, rfl, rfl, rfl, rfl, rfl, rfl, rfl, rfl, rfl⟩ := H
        try go_wp2
        have n0_ := Aside0.mk (Kd.R_drew HO_4.out); have n1_ := Aside0.mk (Kd.R_drew HO_5.out); have n2_ := Aside0.mk (blk_drew BK496.out); have n3_ := Aside0.mk (IsS80.drew HI0.out); have n4_ := Aside0.mk (keep_drew HK.out); have n5_ := Aside0.mk (below_drew1 HB.out); clear HO_4; clear HO_5; clear BK496; clear HI0; clear HK; clear HB; have HO_4 := n0_; have HO_5 := n1_; have BK496 := n2_; have HI0 := n3_; have HK := n4_; have HB := n5_; clear n0_ n1_ n2_ n3_ n4_ n5_; obtain ⟨Ao52, co52, eo52⟩ := Kd.R_slice HO_5.out
        (first | subst eo52 | (injection eo52 with f1_ f2_ f3_; have f4_ := f1_.symm; have f5_ := f3_.symm; clear f1_ f2_ f3_; subst f4_; subst f5_))
        have p546 : 0 ≤ (t541 : Int) := of_decide_eq_true AS; have q546 : t541 < (x5_2.length : Int) := of_decide_eq_true AS; obtain ⟨ad546, e546, hx546_0, hx546_1, hx546_2, hx546_3, hx546_4, hx546_5, hx546_6, hx546_7, hx546_8, hx546_9, hx546_10⟩ := at_T46 (Kd.R_reads' HO_5.out).2.2 t541 p546 q546; cases e546; replace p546 := eq_true p546; replace q546 := eq_true q546; refine start_ (n := 7) (S := fun w' => w'.cell? (ad546.add ((t541).toNat * 11)) = some (.int .i64 ((rd_T46 x5_2 t541).f0)) ∧ w'.cell? ⟨(ad546.add ((t541).toNat * 11)).block, (ad546.add ((t541).toNat * 11)).off + 1, none⟩ = some (.int .i64 ((rd_T46 x5_2 t541).f1)) ∧ w'.cell? ⟨(ad546.add ((t541).toNat * 11)).block, (ad546.add ((t541).toNat * 11)).off + 2, none⟩ = some (.int .i64 ((rd_T46 x5_2 t541).f2)) ∧ w'.cell? ⟨(ad546.add ((t541).toNat * 11)).block, (ad546.add ((t541).toNat * 11)).off + 3, none⟩ = some (.int .i64 ((rd_T46 x5_2 t541).f3)) ∧ w'.cell? ⟨(ad546.add ((t541).toNat * 11)).block, (ad546.add ((t541).toNat * 11)).off + 4, none⟩ = some (.int .i64 ((rd_T46 x5_2 t541).f4)) ∧ w'.cell? ⟨(ad546.add ((t541).toNat * 11)).block, (ad546.add ((t541).toNat * 11)).off + 5, none⟩ = some (.int .i64 ((rd_T46 x5_2 t541).f5)) ∧ w'.cell? ⟨(ad546.add ((t541).toNat * 11)).block, (ad546.add ((t541).toNat * 11)).off + 6, none⟩ = some (.int .i64 ((rd_T46 x5_2 t541).f6)) ∧ w'.cell? ⟨(ad546.add ((t541).toNat * 11)).block, (ad546.add ((t541).toNat * 11)).off + 7, none⟩ = some (.int .i64 ((rd_T46 x5_2 t541).f7)) ∧ w'.cell? ⟨(ad546.add ((t541).toNat * 11)).block, (ad546.add ((t541).toNat * 11)).off + 8, none⟩ = some (.int .i64 ((rd_T46 x5_2 t541).f8)) ∧ w'.cell? ⟨(ad546.add ((t541).toNat * 11)).block, (ad546.add ((t541).toNat * 11)).off + 9, none⟩ = some (.bool ((rd_T46 x5_2 t541).f9)) ∧ w'.cell? ⟨(ad546.add ((t541).toNat * 11)).block, (ad546.add ((t541).toNat * 11)).off + 10, none⟩ = some (.int .i64 ((rd_T46 x5_2 t541).f10))) (ds := []) #[false, false, false, false, false, false, false] (by kernel_rfl) rfl rfl ⟨hx546_0, hx546_1, hx546_2, hx546_3, hx546_4, hx546_5, hx546_6, hx546_7, hx546_8, hx546_9, hx546_10⟩ (fun hHeld => ?_); generalize wr.drew = w51 at HO_4 HO_5 BK496 HI0 HK HB hx546_0 hx546_1 hx546_10 hx546_2 hx546_3 hx546_4 hx546_5 hx546_6 hx546_7 hx546_8 hx546_9 hHeld ⊢; refine pure_ (i := 0) (N := some 67) (v := ?_) (a' := ?_) (OB 7 1) rfl rfl (by kernel_rfl) (fun _ _ _ h => h) (Or.inl ⟨by rfl, ?_⟩) ?_ ?_; rotate_left
        ·
         intro w'
         go_simp
         with_reducible rfl
        rotate_left
        ·
         simp only [Act.put, zA, zB, zC, i64_w, i32_w]; rfl
        refine pure_ (i := 1) (N := some 68) (v := ?_) (a' := ?_) (OB 7 3) rfl rfl (by kernel_rfl) (fun _ _ _ h => h) (Or.inl ⟨by rfl, ?_⟩) ?_ ?_; rotate_left
        ·
         intro w'
         go_simp
         with_reducible rfl
        rotate_left
        ·
         simp only [Act.put, zA, zB, zC, i64_w, i32_w]; rfl
        refine pure_ (i := 2) (N := some 69) (v := ?_) (a' := ?_) (OB 7 7) rfl rfl (by kernel_rfl) (fun _ _ _ h => h) (Or.inl ⟨by rfl, ?_⟩) ?_ ?_; rotate_left
        ·
         intro w'
         go_simp
         with_reducible rfl
        rotate_left
        ·
         simp only [Act.put, zA, zB, zC, i64_w, i32_w]; rfl
        refine pure_ (i := 3) (N := some 70) (v := ?_) (a' := ?_) (OB 7 15) rfl rfl (by kernel_rfl) (fun _ _ _ h => h) (Or.inl ⟨by rfl, ?_⟩) ?_ ?_; rotate_left
        ·
         intro w'
         go_simp
         with_reducible rfl
        rotate_left
        ·
         simp only [Act.put, zA, zB, zC, i64_w, i32_w]; rfl
        refine pure_ (i := 5) (N := some 2) (v := ?_) (a' := ?_) (OB 7 47) rfl rfl (by kernel_rfl) (fun _ _ _ h => h) (Or.inl ⟨by rfl, ?_⟩) ?_ ?_; rotate_left
        ·
         intro w'
         go_simp
         with_reducible rfl
        rotate_left
        ·
         simp only [Act.put, zA, zB, zC, i64_w, i32_w]; rfl
        refine pT 4 71 (OB 7 63) ?_; refine one_ (i := 6) (N := none) (OB 7 127) rfl rfl (by kernel_rfl) (by decide) (fun K hK => ?_); have hs53 : w51.cell? ⟨gb496, 0, none⟩ = some (.int .i64 x497000_3) := CZ BK496.out 0; have hfs53 := blk_frozen BK496.out 0; have hs54 : w51.cell? ⟨gb496, 1, none⟩ = some (.int .i64 x497001_3) := CZ BK496.out 1; have hfs54 := blk_frozen BK496.out 1; have hs55 : w51.cell? ⟨gb496, 2, none⟩ = some (.int .i64 x497002_3) := CZ BK496.out 2; have hfs55 := blk_frozen BK496.out 2; have hs56 : w51.cell? ⟨gb496, 3, none⟩ = some (.int .i64 x497003_3) := CZ BK496.out 3; have hfs56 := blk_frozen BK496.out 3; have hs57 : w51.cell? ⟨gb496, 4, none⟩ = some (.int .i64 x497004_3) := CZ BK496.out 4; have hfs57 := blk_frozen BK496.out 4; have hs58 : w51.cell? ⟨gb496, 5, none⟩ = some (.int .i64 x497005_3) := CZ BK496.out 5; have hfs58 := blk_frozen BK496.out 5; have hs59 : w51.cell? ⟨gb496, 6, none⟩ = some (.int .i64 x497006_3) := CZ BK496.out 6; have hfs59 := blk_frozen BK496.out 6; have hs60 : w51.cell? ⟨gb496, 7, none⟩ = some (.int .i64 x497007_3) := CZ BK496.out 7; have hfs60 := blk_frozen BK496.out 7; have hs61 : w51.cell? ⟨gb496, 8, none⟩ = some (.int .i64 x497008_3) := CZ BK496.out 8; have hfs61 := blk_frozen BK496.out 8; have hs62 : w51.cell? ⟨gb496, 9, none⟩ = some (.bool x497009_3) := CZ BK496.out 9; have hfs62 := blk_frozen BK496.out 9; have hs63 : w51.cell? ⟨gb496, 10, none⟩ = some (.int .i64 x497010_3) := CZ BK496.out 10; have hfs63 := blk_frozen BK496.out 10; refine skip_ (w1 := ?_) (by rfl) rfl ?_ ?_; rotate_left
        ·
         go_simp
         rfl
        refine hK.out _ _ ?hh_ (fun hHeld => ?_)
        (case hh_ => have h_ := hHeld; (repeat (obtain ⟨h0_, h_⟩ := h_)); (repeat' refine And.intro ?_ ?_) <;> ((repeat (with_reducible apply cg)) <;> first | (with_reducible assumption) | exact ((by first | exact Kd.own_blk (Kd.R_away HO_5.out (fun _ hk => hk)) | (rw [add_block]; exact Kd.own_blk (Kd.R_away HO_5.out (fun _ hk => hk))) | (show (Addr.add _ _).block ≠ _; rw [add_block]; exact Kd.own_blk (Kd.R_away HO_5.out (fun _ hk => hk))) | (dsimp only; exact Kd.own_blk (Kd.R_away HO_5.out (fun _ hk => hk)))))))
        clear hK K; refine done_ (by kernel_rfl) ?_
        try go_wp2
        refine bodyPost_ret (results_tc rfl _ _ gb496 46 #[.int .i64 ((rd_T46 x5_2 t541).f0), .int .i64 ((rd_T46 x5_2 t541).f1), .int .i64 ((rd_T46 x5_2 t541).f2), .int .i64 ((rd_T46 x5_2 t541).f3), .int .i64 ((rd_T46 x5_2 t541).f4), .int .i64 ((rd_T46 x5_2 t541).f5), .int .i64 ((rd_T46 x5_2 t541).f6), .int .i64 ((rd_T46 x5_2 t541).f7), .int .i64 ((rd_T46 x5_2 t541).f8), .bool ((rd_T46 x5_2 t541).f9), .int .i64 ((rd_T46 x5_2 t541).f10)] (0, 0) _ rfl (BU BK496.out) Try.underlying46 rfl (by kernel_rfl)) rfl ?_; exact ⟨_, EE, by (with_reducible repeat (first | apply r1 | apply r2 | apply r3)); exact Kd.R_mono (Kd.R_far (p := ⟨gb496, 10, none⟩) (Kd.R_far (p := ⟨gb496, 9, none⟩) (Kd.R_far (p := ⟨gb496, 8, none⟩) (Kd.R_far (p := ⟨gb496, 7, none⟩) (Kd.R_far (p := ⟨gb496, 6, none⟩) (Kd.R_far (p := ⟨gb496, 5, none⟩) (Kd.R_far (p := ⟨gb496, 4, none⟩) (Kd.R_far (p := ⟨gb496, 3, none⟩) (Kd.R_far (p := ⟨gb496, 2, none⟩) (Kd.R_far (p := ⟨gb496, 1, none⟩) (Kd.R_far (p := ⟨gb496, 0, none⟩) (Kd.R_types HO_4.out BK496.out (by decide)) (fun _ hk => hk.2) (.int .i64 ((rd_T46 x5_2 t541).f0))) (fun _ hk => hk.2) (.int .i64 ((rd_T46 x5_2 t541).f1))) (fun _ hk => hk.2) (.int .i64 ((rd_T46 x5_2 t541).f2))) (fun _ hk => hk.2) (.int .i64 ((rd_T46 x5_2 t541).f3))) (fun _ hk => hk.2) (.int .i64 ((rd_T46 x5_2 t541).f4))) (fun _ hk => hk.2) (.int .i64 ((rd_T46 x5_2 t541).f5))) (fun _ hk => hk.2) (.int .i64 ((rd_T46 x5_2 t541).f6))) (fun _ hk => hk.2) (.int .i64 ((rd_T46 x5_2 t541).f7))) (fun _ hk => hk.2) (.int .i64 ((rd_T46 x5_2 t541).f8))) (fun _ hk => hk.2) (.bool ((rd_T46 x5_2 t541).f9))) (fun _ hk => hk.2) (.int .i64 ((rd_T46 x5_2 t541).f10))) (fun _ hk => trivial), spec_l06Some.k4 HI0.out, spec_l06Some.k3 HB.out, spec_l06Some.k2 HK.out⟩
       rw [if_pos c29] at H; have c29b0 : decide (x10_3 < 4) = true := decide_eq_true c29; clear c29; obtain ⟨ji30, hji30⟩ : ∃ j_ : Int, (Int.tmod (wrap64 (t541 + x10_3)) 4) = j_ := ⟨_, rfl⟩
       replace H : (if 0 ≤ (ji30) then (if (ji30) < (x5_2.length : Int) then (if ((rd_T46 x5_2 (ji30)).f9 = true) then (spec_l06Some.l2 k3 x4_2 x5_2 t541 (wrap64 (x10_3 + 1)) s0_0 t542 t543) else (some (x4_2, (rd_T46 x5_2 (ji30)).f0, (rd_T46 x5_2 (ji30)).f1, (rd_T46 x5_2 (ji30)).f2, (rd_T46 x5_2 (ji30)).f3, (rd_T46 x5_2 (ji30)).f4, (rd_T46 x5_2 (ji30)).f5, (rd_T46 x5_2 (ji30)).f6, (rd_T46 x5_2 (ji30)).f7, (rd_T46 x5_2 (ji30)).f8, (rd_T46 x5_2 (ji30)).f9, (rd_T46 x5_2 (ji30)).f10, t542, t543))) else (none)) else (none)) = some (r1, r2, r3, r4, r5, r6, r7, r8, r9, r10, r11, r12, r13, r14) := by first | (rw [hji30] at H; exact H) | (simp only [hji30] at H ⊢; exact H)
       by_cases c31 : 0 ≤ (ji30); rotate_left
       ·
        rw [if_neg c31] at H; exact absurd H (by simp)
       rw [if_pos c31] at H; have c31b0 : decide (0 ≤ (ji30)) = true := decide_eq_true c31; clear c31
       by_cases c32 : (ji30) < (x5_2.length : Int); rotate_left
       ·
        rw [if_neg c32] at H; exact absurd H (by simp)
       rw [if_pos c32] at H; have c32b0 : decide ((ji30) < (x5_2.length : Int)) = true := decide_eq_true c32; clear c32; obtain ⟨bq33, hbq33⟩ : ∃ b_ : Bool, b_ = ((rd_T46 x5_2 (ji30)).f9) := ⟨_, rfl⟩
       replace H : (if (bq33 = true) then (spec_l06Some.l2 k3 x4_2 x5_2 t541 (wrap64 (x10_3 + 1)) s0_0 t542 t543) else (some (x4_2, (rd_T46 x5_2 (ji30)).f0, (rd_T46 x5_2 (ji30)).f1, (rd_T46 x5_2 (ji30)).f2, (rd_T46 x5_2 (ji30)).f3, (rd_T46 x5_2 (ji30)).f4, (rd_T46 x5_2 (ji30)).f5, (rd_T46 x5_2 (ji30)).f6, (rd_T46 x5_2 (ji30)).f7, (rd_T46 x5_2 (ji30)).f8, bq33, (rd_T46 x5_2 (ji30)).f10, t542, t543))) = some (r1, r2, r3, r4, r5, r6, r7, r8, r9, r10, r11, r12, r13, r14) := by rw [← hbq33] at H; exact H
       have Nbq33 := Aside0.mk hbq33; clear hbq33
       by_cases c34 : (bq33 = true)
       ·
        subst c34
        have H1 : (spec_l06Some.l2 k3 x4_2 x5_2 t541 (wrap64 (x10_3 + 1)) s0_0 t542 t543) = some (r1, r2, r3, r4, r5, r6, r7, r8, r9, r10, r11, r12, r13, r14) := by rw [if_pos rfl] at H; exact H
        clear H; have H := H1; clear H1; have H' := Aside0.mk H; clear H; obtain ⟨Ao35, co35, eo35⟩ := Kd.R_slice HO_5.out; subst eo35; have p544 : 0 ≤ ((ji30) : Int) := of_decide_eq_true AS; have q544 : (ji30) < (x5_2.length : Int) := of_decide_eq_true AS; obtain ⟨ad544, e544, hx544_0, hx544_1, hx544_2, hx544_3, hx544_4, hx544_5, hx544_6, hx544_7, hx544_8, hx544_9, hx544_10⟩ := at_T46 (Kd.R_reads' HO_5.out).2.2 (ji30) p544 q544
        (try rw [← Nbq33.out] at hx544_9)
        cases e544; replace p544 := eq_true p544; replace q544 := eq_true q544
        go_wp2
        go_roundg k3
        case measure => have := HK1.out; have := HK2.out; have := HK3.out; omega
        case rel => exact ⟨(wrap64 (x10_3 + 1)), (x497000_3), (x497001_3), (x497002_3), (x497003_3), (x497004_3), (x497005_3), (x497006_3), (x497007_3), (x497008_3), (x497009_3), (x497010_3), SD, H', ⟨by have := HK1.out; have := HK2.out; have := HK3.out; omega⟩, ⟨RQ HO_4.out⟩, ⟨RQ HO_5.out⟩, ⟨BQ BK496.out⟩, ⟨spec_l06Some.k4 HI0.out⟩, ⟨spec_l06Some.k2 HK.out⟩, ⟨spec_l06Some.k3 HB.out⟩⟩
       replace c34 := Bool.eq_false_iff.mpr c34; subst c34
       have H1 : (some (x4_2, (rd_T46 x5_2 (ji30)).f0, (rd_T46 x5_2 (ji30)).f1, (rd_T46 x5_2 (ji30)).f2, (rd_T46 x5_2 (ji30)).f3, (rd_T46 x5_2 (ji30)).f4, (rd_T46 x5_2 (ji30)).f5, (rd_T46 x5_2 (ji30)).f6, (rd_T46 x5_2 (ji30)).f7, (rd_T46 x5_2 (ji30)).f8, false, (rd_T46 x5_2 (ji30)).f10, t542, t543)) = some (r1, r2, r3, r4, r5, r6, r7, r8, r9, r10, r11, r12, r13, r14) := by rw [if_neg (show ¬ (false = true) by decide)] at H; exact H
       clear H; have H := H1; clear H1; simp only [Option.some.injEq, Prod.mk.injEq] at H; obtain ⟨rfl, rfl, rfl, rfl, rfl, rfl, rfl, rfl, rfl, rfl, rfl, rfl, rfl, rfl⟩ := H; obtain ⟨Ao36, co36, eo36⟩ := Kd.R_slice HO_5.out; subst eo36; have p544 : 0 ≤ ((ji30) : Int) := of_decide_eq_true AS; have q544 : (ji30) < (x5_2.length : Int) := of_decide_eq_true AS; obtain ⟨ad544, e544, hx544_0, hx544_1, hx544_2, hx544_3, hx544_4, hx544_5, hx544_6, hx544_7, hx544_8, hx544_9, hx544_10⟩ := at_T46 (Kd.R_reads' HO_5.out).2.2 (ji30) p544 q544
       (try rw [← Nbq33.out] at hx544_9)
       cases e544; replace p544 := eq_true p544; replace q544 := eq_true q544
       try go_wp2
       have n0_ := Aside0.mk (Kd.R_drew HO_4.out); have n1_ := Aside0.mk (Kd.R_drew HO_5.out); have n2_ := Aside0.mk (blk_drew BK496.out); have n3_ := Aside0.mk (IsS80.drew HI0.out); have n4_ := Aside0.mk (keep_drew HK.out); have n5_ := Aside0.mk (below_drew1 HB.out); clear HO_4; clear HO_5; clear BK496; clear HI0; clear HK; clear HB; have HO_4 := n0_; have HO_5 := n1_; have BK496 := n2_; have HI0 := n3_; have HK := n4_; have HB := n5_; clear n0_ n1_ n2_ n3_ n4_ n5_; have p545 : 0 ≤ ((ji30) : Int) := of_decide_eq_true AS; have q545 : (ji30) < (x5_2.length : Int) := of_decide_eq_true AS; obtain ⟨ad545, e545, hx545_0, hx545_1, hx545_2, hx545_3, hx545_4, hx545_5, hx545_6, hx545_7, hx545_8, hx545_9, hx545_10⟩ := at_T46 (Kd.R_reads' HO_5.out).2.2 (ji30) p545 q545
       (try rw [← Nbq33.out] at hx545_9)
       obtain rfl : ad544 = ad545 := (by injection e545); replace p545 := eq_true p545; replace q545 := eq_true q545; refine start_ (n := 10) (S := fun w' => w'.cell? (ad544.add (((ji30)).toNat * 11)) = some (.int .i64 ((rd_T46 x5_2 (ji30)).f0)) ∧ w'.cell? ⟨(ad544.add (((ji30)).toNat * 11)).block, (ad544.add (((ji30)).toNat * 11)).off + 1, none⟩ = some (.int .i64 ((rd_T46 x5_2 (ji30)).f1)) ∧ w'.cell? ⟨(ad544.add (((ji30)).toNat * 11)).block, (ad544.add (((ji30)).toNat * 11)).off + 2, none⟩ = some (.int .i64 ((rd_T46 x5_2 (ji30)).f2)) ∧ w'.cell? ⟨(ad544.add (((ji30)).toNat * 11)).block, (ad544.add (((ji30)).toNat * 11)).off + 3, none⟩ = some (.int .i64 ((rd_T46 x5_2 (ji30)).f3)) ∧ w'.cell? ⟨(ad544.add (((ji30)).toNat * 11)).block, (ad544.add (((ji30)).toNat * 11)).off + 4, none⟩ = some (.int .i64 ((rd_T46 x5_2 (ji30)).f4)) ∧ w'.cell? ⟨(ad544.add (((ji30)).toNat * 11)).block, (ad544.add (((ji30)).toNat * 11)).off + 5, none⟩ = some (.int .i64 ((rd_T46 x5_2 (ji30)).f5)) ∧ w'.cell? ⟨(ad544.add (((ji30)).toNat * 11)).block, (ad544.add (((ji30)).toNat * 11)).off + 6, none⟩ = some (.int .i64 ((rd_T46 x5_2 (ji30)).f6)) ∧ w'.cell? ⟨(ad544.add (((ji30)).toNat * 11)).block, (ad544.add (((ji30)).toNat * 11)).off + 7, none⟩ = some (.int .i64 ((rd_T46 x5_2 (ji30)).f7)) ∧ w'.cell? ⟨(ad544.add (((ji30)).toNat * 11)).block, (ad544.add (((ji30)).toNat * 11)).off + 8, none⟩ = some (.int .i64 ((rd_T46 x5_2 (ji30)).f8)) ∧ w'.cell? ⟨(ad544.add (((ji30)).toNat * 11)).block, (ad544.add (((ji30)).toNat * 11)).off + 9, none⟩ = some (.bool (false)) ∧ w'.cell? ⟨(ad544.add (((ji30)).toNat * 11)).block, (ad544.add (((ji30)).toNat * 11)).off + 10, none⟩ = some (.int .i64 ((rd_T46 x5_2 (ji30)).f10))) (ds := []) #[false, false, false, false, false, false, false, false, false, false] (by kernel_rfl) rfl rfl ⟨hx545_0, hx545_1, hx545_2, hx545_3, hx545_4, hx545_5, hx545_6, hx545_7, hx545_8, hx545_9, hx545_10⟩ (fun hHeld => ?_); refine with_tabW spec_l06Some.tab17 spec_l06Some.bits17 (fun HT_ HW_ => ?_); generalize wr.drew = w37 at HO_4 HO_5 BK496 HI0 HK HB hx545_0 hx545_1 hx545_10 hx545_2 hx545_3 hx545_4 hx545_5 hx545_6 hx545_7 hx545_8 hx545_9 hHeld ⊢; refine pV 0 59 (OB 10 1) ?_; refine pV 1 60 (OB 10 3) ?_; refine pV 2 61 (OB 10 7) ?_; refine pV 3 62 (OB 10 15) ?_; refine pV 4 63 (OB 10 31) ?_; refine pV 5 64 (OB 10 63) ?_; refine pV 6 65 (OB 10 127) ?_; refine pV 8 2 (OB 10 383) ?_; refine pT 7 66 (OB 10 511) ?_; refine one_ (i := 9) (N := none) (OB 10 1023) rfl rfl (one_of HT_.out (by kernel_rfl)) (by decide) (fun K hK => ?_); have hs38 : w37.cell? ⟨gb496, 0, none⟩ = some (.int .i64 x497000_3) := CZ BK496.out 0; have hfs38 := blk_frozen BK496.out 0; have hs39 : w37.cell? ⟨gb496, 1, none⟩ = some (.int .i64 x497001_3) := CZ BK496.out 1; have hfs39 := blk_frozen BK496.out 1; have hs40 : w37.cell? ⟨gb496, 2, none⟩ = some (.int .i64 x497002_3) := CZ BK496.out 2; have hfs40 := blk_frozen BK496.out 2; have hs41 : w37.cell? ⟨gb496, 3, none⟩ = some (.int .i64 x497003_3) := CZ BK496.out 3; have hfs41 := blk_frozen BK496.out 3; have hs42 : w37.cell? ⟨gb496, 4, none⟩ = some (.int .i64 x497004_3) := CZ BK496.out 4; have hfs42 := blk_frozen BK496.out 4; have hs43 : w37.cell? ⟨gb496, 5, none⟩ = some (.int .i64 x497005_3) := CZ BK496.out 5; have hfs43 := blk_frozen BK496.out 5; have hs44 : w37.cell? ⟨gb496, 6, none⟩ = some (.int .i64 x497006_3) := CZ BK496.out 6; have hfs44 := blk_frozen BK496.out 6; have hs45 : w37.cell? ⟨gb496, 7, none⟩ = some (.int .i64 x497007_3) := CZ BK496.out 7; have hfs45 := blk_frozen BK496.out 7; have hs46 : w37.cell? ⟨gb496, 8, none⟩ = some (.int .i64 x497008_3) := CZ BK496.out 8; have hfs46 := blk_frozen BK496.out 8; have hs47 : w37.cell? ⟨gb496, 9, none⟩ = some (.bool x497009_3) := CZ BK496.out 9; have hfs47 := blk_frozen BK496.out 9; have hs48 : w37.cell? ⟨gb496, 10, none⟩ = some (.int .i64 x497010_3) := CZ BK496.out 10; have hfs48 := blk_frozen BK496.out 10; refine skip_ (w1 := ?_) (by rfl) rfl ?_ ?_; rotate_left
       ·
        go_simp
        rfl
       refine hK.out _ _ ?hh_ (fun hHeld => ?_)
       (case hh_ => have h_ := hHeld; (repeat (obtain ⟨h0_, h_⟩ := h_)); (repeat' refine And.intro ?_ ?_) <;> ((repeat (with_reducible apply cg)) <;> first | (with_reducible assumption) | exact ((by first | exact Kd.own_blk (Kd.R_away HO_5.out (fun _ hk => hk)) | (rw [add_block]; exact Kd.own_blk (Kd.R_away HO_5.out (fun _ hk => hk))) | (show (Addr.add _ _).block ≠ _; rw [add_block]; exact Kd.own_blk (Kd.R_away HO_5.out (fun _ hk => hk))) | (dsimp only; exact Kd.own_blk (Kd.R_away HO_5.out (fun _ hk => hk)))))))
       clear hK K; refine done_ (done_of HT_.out (by kernel_rfl)) ?_
       try go_wp2
       refine bodyPost_ret (results_tc rfl _ _ gb496 46 #[.int .i64 ((rd_T46 x5_2 (ji30)).f0), .int .i64 ((rd_T46 x5_2 (ji30)).f1), .int .i64 ((rd_T46 x5_2 (ji30)).f2), .int .i64 ((rd_T46 x5_2 (ji30)).f3), .int .i64 ((rd_T46 x5_2 (ji30)).f4), .int .i64 ((rd_T46 x5_2 (ji30)).f5), .int .i64 ((rd_T46 x5_2 (ji30)).f6), .int .i64 ((rd_T46 x5_2 (ji30)).f7), .int .i64 ((rd_T46 x5_2 (ji30)).f8), .bool false, .int .i64 ((rd_T46 x5_2 (ji30)).f10)] (0, 0) _ rfl (BU BK496.out) Try.underlying46 rfl (by kernel_rfl)) rfl ?_; exact ⟨_, by first | rfl | (simp [errW_none, errW_some] <;> rfl) | (simp only [← hji30]; first | rfl | (simp [errW_none, errW_some] <;> rfl)) | (simp [*, errW_none, errW_some] <;> rfl), by (with_reducible repeat (first | apply r1 | apply r2 | apply r3)); exact Kd.R_mono (Kd.R_far (p := ⟨gb496, 10, none⟩) (Kd.R_far (p := ⟨gb496, 9, none⟩) (Kd.R_far (p := ⟨gb496, 8, none⟩) (Kd.R_far (p := ⟨gb496, 7, none⟩) (Kd.R_far (p := ⟨gb496, 6, none⟩) (Kd.R_far (p := ⟨gb496, 5, none⟩) (Kd.R_far (p := ⟨gb496, 4, none⟩) (Kd.R_far (p := ⟨gb496, 3, none⟩) (Kd.R_far (p := ⟨gb496, 2, none⟩) (Kd.R_far (p := ⟨gb496, 1, none⟩) (Kd.R_far (p := ⟨gb496, 0, none⟩) (Kd.R_types HO_4.out BK496.out (by decide)) (fun _ hk => hk.2) (.int .i64 ((rd_T46 x5_2 (ji30)).f0))) (fun _ hk => hk.2) (.int .i64 ((rd_T46 x5_2 (ji30)).f1))) (fun _ hk => hk.2) (.int .i64 ((rd_T46 x5_2 (ji30)).f2))) (fun _ hk => hk.2) (.int .i64 ((rd_T46 x5_2 (ji30)).f3))) (fun _ hk => hk.2) (.int .i64 ((rd_T46 x5_2 (ji30)).f4))) (fun _ hk => hk.2) (.int .i64 ((rd_T46 x5_2 (ji30)).f5))) (fun _ hk => hk.2) (.int .i64 ((rd_T46 x5_2 (ji30)).f6))) (fun _ hk => hk.2) (.int .i64 ((rd_T46 x5_2 (ji30)).f7))) (fun _ hk => hk.2) (.int .i64 ((rd_T46 x5_2 (ji30)).f8))) (fun _ hk => hk.2) (.bool false)) (fun _ hk => hk.2) (.int .i64 ((rd_T46 x5_2 (ji30)).f10))) (fun _ hk => trivial), spec_l06Some.k4 HI0.out, spec_l06Some.k3 HB.out, spec_l06Some.k2 HK.out⟩

end Go.Proofs.Ytjmggbhgmenmcaa.Qst
