-- Laid by myprint.py, a program of this session's own, over the kit's print. Not trusted: Lean checks it.
import Derived.Test.YtfkhncoiifojnaaQrtx0
import Derived.Test.YtfkhncoiifojnaaQrtx3
import Derived.Test.YtfkhncoiifojnaaQrtx6
namespace Go.Proofs.Ytfkhncoiifojnaa.Qrt
open Go.RowKit Go.Proofs.YtfkhncoiifojnaaW.PrintWords Go.Proofs.YtfkhncoiifojnaaW.PrintLast Go.Proofs.YtfkhncoiifojnaaW.PrintMore
attribute [local go_sem] Go.Proofs.Ytfkhncoiifojnaa.StrCmp.gtr_less Go.Proofs.Ytfkhncoiifojnaa.StrCmp.geq_less Go.Proofs.Ytfkhncoiifojnaa.StrCmp.leq_less max2_int min2_int max_two min_two max_three min_three max_four min_four   -- for this text's walks alone
set_option linter.unusedVariables false
set_option linter.unusedSimpArgs false

/-! ### impl_valCell: function 111 -/
def impl_valCell.f (a0 : Int) : Option (Int) := some (wrap64 ((wrap64 (3 * a0)) + 1))
set_option maxHeartbeats 8000000 in
set_option maxRecDepth 100000 in
theorem impl_valCell.calls (a0 : Int) (r : Int) (w : World) (h : impl_valCell.f a0 = some r) :
  Calls Try.prog 111 #[.int .i64 a0] w fun e w' => e = .returned (.int .i64 r) ∧ Drawn0 w w' := by
 have H : (some (wrap64 ((wrap64 (3 * a0)) + 1))) = some r := h
 clear h
 obtain rfl := Option.some.inj H
 go_enter Try.func111, Try.ntmps111
 go_wp2
 go_ret
 exact ⟨by first | rfl | (simp; done) | (simp [*]; done), by repeat (first | exact Drawn0.refl _ | apply Drawn0.step)⟩

/-! ### impl_Task_nobody: function 110 -/
def impl_Task_nobody.f (s0_0 : Int) (s0_1 : Int) (s0_2 : Int) (s0_3 : Int) (s0_4 : Int) (s0_5 : Int) (s0_6 : Int) (s0_7 : Int) (s0_8 : Int) (s0_9 : Bool) (s0_10 : Int) (l1 : List Int) : Option (Int × Int × Int × Int × Int × Int × Int × Int × Int × Bool × Int × List Int) := if s0_0 = 2 then ((impl_keyCell.f s0_3).bind fun t356 => ((impl_valCell.f s0_3).bind fun t357 => ((impl_wordCell.f s0_3).bind fun t358 => (if 0 ≤ t356 then (if t356 < (l1.length : Int) then (if 0 ≤ t357 then (if t357 < (l1.length : Int) then (if 0 ≤ t358 then (if t358 < (l1.length : Int) then (some (s0_0, s0_1, s0_2, s0_3, 4, s0_5, s0_6, s0_7, s0_8, s0_9, s0_10, (((l1.set (t356 : Int).toNat s0_1).set (t357 : Int).toNat s0_2).set (t358 : Int).toNat (wrap64 (2 * s0_6))))) else (none)) else (none)) else (none)) else (none)) else (none)) else (none))))) else ((impl_Task_done.f s0_0 s0_1 s0_2 s0_3 s0_4 s0_5 s0_6 s0_7 s0_8 s0_9 s0_10 0).bind fun bt362 => (some (bt362.1, bt362.2.1, bt362.2.2.1, bt362.2.2.2.1, bt362.2.2.2.2.1, bt362.2.2.2.2.2.1, bt362.2.2.2.2.2.2.1, bt362.2.2.2.2.2.2.2.1, bt362.2.2.2.2.2.2.2.2.1, bt362.2.2.2.2.2.2.2.2.2.1, bt362.2.2.2.2.2.2.2.2.2.2, l1)))
def impl_Task_nobody.T2 : Bool × List (List Nat × List Nat) := (true, [([], []), ([], []), ([1], [1]), ([2], [2]), ([3], [3]), ([4], [4]), ([], []), ([], []), ([7], [7]), ([8], [8]), ([9], [9]), ([10, 5], [10]), ([], []), ([], []), ([13], [13]), ([14], [14]), ([15], [15]), ([16, 11], [16]), ([], []), ([18], [18]), ([19], [19]), ([20], [20]), ([], []), ([22], [22]), ([23], [23]), ([24], [24]), ([], []), ([26], [26]), ([27], [27]), ([28], [28]), ([29], [29]), ([0, 5, 0, 1, 2, 3, 4, 5, 10, 11, 16, 17, 18, 19, 20, 21, 25, 29], [0, 5]), ([31, 21, 17, 0, 1, 2, 3, 4, 5, 10, 11, 16, 17, 18, 19, 20, 21, 25, 29], [21, 31]), ([6, 11, 0, 1, 2, 3, 4, 5, 6, 7, 8, 9, 10, 11, 16, 17, 18, 19, 20, 21, 22, 23, 24, 25, 29, 31, 32], [6, 11]), ([33, 25, 32, 0, 1, 2, 3, 4, 5, 6, 7, 8, 9, 10, 11, 16, 17, 18, 19, 20, 21, 22, 23, 24, 25, 29, 31, 32], [25, 33]), ([12, 17, 0, 1, 2, 3, 4, 5, 6, 7, 8, 9, 10, 11, 12, 13, 14, 15, 16, 17, 18, 19, 20, 21, 22, 23, 24, 25, 26, 27, 28, 29, 30, 31, 32, 33, 34], [12, 17]), ([35, 30, 34, 0, 1, 2, 3, 4, 5, 6, 7, 8, 9, 10, 11, 12, 13, 14, 15, 16, 17, 18, 19, 20, 21, 22, 23, 24, 25, 26, 27, 28, 29, 30, 31, 32, 33, 34], [30, 35])])
def impl_Task_nobody.B2 : List Nat := [0, 0, 2, 6, 14, 30, 0, 0, 128, 384, 896, 1982, 0, 0, 8192, 24576, 57344, 126910, 0, 262144, 786432, 1835008, 0, 4194304, 12582912, 29360128, 0, 67108864, 201326592, 469762048, 1006632960, 1073737663, 3221221311, 7516188671, 16106123263, 34359738367, 68719476735]
theorem impl_Task_nobody.tab2 : rtab .any (opsOf Try.f110 2) = impl_Task_nobody.T2 := by kernel_rfl
theorem impl_Task_nobody.bits2 : waitsOk impl_Task_nobody.T2.2 impl_Task_nobody.B2 = true := by kernel_rfl
theorem impl_Task_nobody.k0 {p q : Prop} (h : q) (k : q → p := by intro h_; repeat (first | (with_reducible first | exact h_ | apply IsS30.alloc | apply IsS30.drewN | apply IsS30.drew | apply IsS30.set_0 | apply IsS30.set_1 | apply IsS30.set_2 | apply IsS30.set_3 | apply IsS30.set_4 | apply IsS30.set_5 | apply IsS30.set_6 | apply IsS30.set_7 | apply IsS30.set_8 | apply IsS30.set_9 | apply IsS30.set_10) | exact h_)) : p := k h
theorem impl_Task_nobody.k1 {p q : Prop} (h : q) (k : q → p := by intro h_; repeat (first | (with_reducible first | exact h_ | apply below_alloc | apply pw_below_drewN | apply below_drew1 | refine below_set ?_ (IsS30.ge HI0.out)) | exact h_)) : p := k h
theorem impl_Task_nobody.k2 {p q : Prop} (h : q) (k : q → p := by intro h_; repeat (first | (with_reducible first | exact h_ | apply Kept.alloc | apply Kept.drewN | apply Kept.drew | refine Kept.setCell ?_ (.inl (.inr rfl)) _) | exact h_)) : p := k h
set_option maxHeartbeats 8000000 in
set_option maxRecDepth 100000 in
theorem impl_Task_nobody.calls (g : Nat) (s0_0 : Int) (s0_1 : Int) (s0_2 : Int) (s0_3 : Int) (s0_4 : Int) (s0_5 : Int) (s0_6 : Int) (s0_7 : Int) (s0_8 : Int) (s0_9 : Bool) (s0_10 : Int) (P1_ : Nat → Prop) (u9000_ : Value) (l1 : List Int) (r1 : Int) (r2 : Int) (r3 : Int) (r4 : Int) (r5 : Int) (r6 : Int) (r7 : Int) (r8 : Int) (r9 : Int) (r10 : Bool) (r11 : Int) (r12 : List Int) (w0 w : World) (hI : IsS30 w0 w g s0_0 s0_1 s0_2 s0_3 s0_4 s0_5 s0_6 s0_7 s0_8 s0_9 s0_10) (hB : Below w0.heap.size w0 w) (ho1 : Kd.R (Kd.int .i64) 3 w w0.heap.size P1_ u9000_ l1) (h : impl_Task_nobody.f s0_0 s0_1 s0_2 s0_3 s0_4 s0_5 s0_6 s0_7 s0_8 s0_9 s0_10 l1 = some (r1, r2, r3, r4, r5, r6, r7, r8, r9, r10, r11, r12)) :
  Calls Try.prog 110 #[.pointer (some ⟨g, 0, none⟩), u9000_] w fun e w' => e = .returned (.tuple #[]) ∧ IsS30 w0 w' g r1 r2 r3 r4 r5 r6 r7 r8 r9 r10 r11 ∧ Kd.R (Kd.int .i64) 3 w' w0.heap.size (fun k_ => (P1_ k_ ∨ w.heap.size ≤ k_)) u9000_ r12 ∧ Below w0.heap.size w0 w' ∧ Kept w w' (fun k_ => (P1_ k_) ∨ k_ = g) := by
 have HO1 := Aside0.mk (show Kd.R (Kd.int .i64) 3 w w0.heap.size (fun k_ => (P1_ k_ ∨ w.heap.size ≤ k_)) u9000_ l1 from Kd.R_mono ho1 (fun k_ hk => (.inl hk)))
 have HI0 := Aside0.mk hI
 have HL := Aside0.mk hB.size
 clear hI
 have HK := Aside0.mk (Kept.refl w (fun k_ => (P1_ k_) ∨ k_ = g))
 have HW0 := Aside0.mk hB.size
 have HB := Aside0.mk hB
 clear hB
 have H : (if s0_0 = 2 then ((impl_keyCell.f s0_3).bind fun t356 => ((impl_valCell.f s0_3).bind fun t357 => ((impl_wordCell.f s0_3).bind fun t358 => (if 0 ≤ t356 then (if t356 < (l1.length : Int) then (if 0 ≤ t357 then (if t357 < (l1.length : Int) then (if 0 ≤ t358 then (if t358 < (l1.length : Int) then (some (s0_0, s0_1, s0_2, s0_3, 4, s0_5, s0_6, s0_7, s0_8, s0_9, s0_10, (((l1.set (t356 : Int).toNat s0_1).set (t357 : Int).toNat s0_2).set (t358 : Int).toNat (wrap64 (2 * s0_6))))) else (none)) else (none)) else (none)) else (none)) else (none)) else (none))))) else ((impl_Task_done.f s0_0 s0_1 s0_2 s0_3 s0_4 s0_5 s0_6 s0_7 s0_8 s0_9 s0_10 0).bind fun bt362 => (some (bt362.1, bt362.2.1, bt362.2.2.1, bt362.2.2.2.1, bt362.2.2.2.2.1, bt362.2.2.2.2.2.1, bt362.2.2.2.2.2.2.1, bt362.2.2.2.2.2.2.2.1, bt362.2.2.2.2.2.2.2.2.1, bt362.2.2.2.2.2.2.2.2.2.1, bt362.2.2.2.2.2.2.2.2.2.2, l1)))) = some (r1, r2, r3, r4, r5, r6, r7, r8, r9, r10, r11, r12) := h
 clear h
 by_cases c3 : s0_0 = 2; rotate_left
 ·
  rw [if_neg c3] at H; have c3b0 : (s0_0 == 2) = false := beq_eq_false_iff_ne.mpr c3; have c3b1 : (s0_0 != 2) = true := bne_iff_ne.mpr c3; replace H := Option.bind_eq_some_iff.mp H; obtain ⟨⟨t362, t363, t364, t365, t366, t367, t368, t369, t370, t371, t372⟩, A230, H⟩ := H; replace H : (some (t362, t363, t364, t365, t366, t367, t368, t369, t370, t371, t372, l1)) = some (r1, r2, r3, r4, r5, r6, r7, r8, r9, r10, r11, r12) := H; have A23 := Aside0.mk A230; clear A230; simp only [Option.some.injEq, Prod.mk.injEq] at H; obtain ⟨rfl, rfl, rfl, rfl, rfl, rfl, rfl, rfl, rfl, rfl, rfl, rfl⟩ := H; obtain ⟨HGz24, hgz24⟩ := HI0.out; have hcz24_0 := cellS30_0 HGz24; have hcz24_1 := cellS30_1 HGz24; have hcz24_2 := cellS30_2 HGz24; have hcz24_3 := cellS30_3 HGz24; have hcz24_4 := cellS30_4 HGz24; have hcz24_5 := cellS30_5 HGz24; have hcz24_6 := cellS30_6 HGz24; have hcz24_7 := cellS30_7 HGz24; have hcz24_8 := cellS30_8 HGz24; have hcz24_9 := cellS30_9 HGz24; have hcz24_10 := cellS30_10 HGz24; have hfz24_0 := blk_frozen HGz24 0; have hfz24_1 := blk_frozen HGz24 1; have hfz24_2 := blk_frozen HGz24 2; have hfz24_3 := blk_frozen HGz24 3; have hfz24_4 := blk_frozen HGz24 4; have hfz24_5 := blk_frozen HGz24 5; have hfz24_6 := blk_frozen HGz24 6; have hfz24_7 := blk_frozen HGz24 7; have hfz24_8 := blk_frozen HGz24 8; have hfz24_9 := blk_frozen HGz24 9; have hfz24_10 := blk_frozen HGz24 10; clear HGz24 hgz24
  go_enter Try.func110, Try.ntmps110
  go_wp2_with (first | ((with_reducible refine gate_callee (f := 108) rfl ?_); refine goesL_ (some 10) rfl rfl Try.func108 (by kernel_rfl) rfl #[.pointer (some ⟨g, 0, none⟩), .int .i64 0] rfl (MA) ?_; (with_reducible refine (impl_Task_done.calls g s0_0 s0_1 s0_2 s0_3 s0_4 s0_5 s0_6 s0_7 s0_8 s0_9 s0_10 0 t362 t363 t364 t365 t366 t367 t368 t369 t370 t371 t372 w0 _ ?side1 ?side2 A23.out).mono ?_); (case side1 => exact impl_Task_nobody.k0 HI0.out); (case side2 => exact impl_Task_nobody.k1 HB.out); rintro e w25 ⟨rfl, hi, hb, hk⟩; refine ⟨_, rfl, ?_⟩; replace HO1 := Aside0.mk (Kd.R_mono (Kd.R_keep (IsS30.apart (show IsS30 w0 _ g s0_0 s0_1 s0_2 s0_3 s0_4 s0_5 s0_6 s0_7 s0_8 s0_9 s0_10 from impl_Task_nobody.k0 HI0.out) (RQ HO1.out) (by decide)) hk (fun _ h => h.2)) (fun _ h => h.1)); replace HK := Aside0.mk (Kept.of_keep (S := (fun k_ => (P1_ k_) ∨ k_ = g)) (impl_Task_nobody.k2 HK.out) hk (.inl (.inr rfl))); replace HB := Aside0.mk (hb); replace HI0 := Aside0.mk (hi); (try clear hb); (try clear hb2); (try clear hk); (try clear hi)))
  first | go_end0 | ((try simp only [Exit.inBlock, Exit.then]); refine bodyPost_ret (results_none rfl _ _ _) rfl ?_)
  exact ⟨EE, impl_Task_nobody.k0 HI0.out, RQ HO1.out, impl_Task_nobody.k1 HB.out, impl_Task_nobody.k2 HK.out⟩
 rw [if_pos c3] at H
 have c3b0 : (s0_0 == 2) = true := beq_iff_eq.mpr c3
 have c3b1 : (s0_0 != 2) = false := bne_eq_false_iff_eq.mpr c3
 clear c3
 replace H := Option.bind_eq_some_iff.mp H
 obtain ⟨t356, A40, H⟩ := H
 have A4 := Aside0.mk A40
 clear A40
 replace H := Option.bind_eq_some_iff.mp H
 obtain ⟨t357, A50, H⟩ := H
 have A5 := Aside0.mk A50
 clear A50
 replace H := Option.bind_eq_some_iff.mp H
 obtain ⟨t358, A60, H⟩ := H
 have A6 := Aside0.mk A60
 clear A60
 by_cases c7 : 0 ≤ t356; rotate_left
 ·
  rw [if_neg c7] at H; exact absurd H (by simp)
 rw [if_pos c7] at H
 have c7b0 : decide (0 ≤ t356) = true := decide_eq_true c7
 clear c7
 by_cases c8 : t356 < (l1.length : Int); rotate_left
 ·
  rw [if_neg c8] at H; exact absurd H (by simp)
 rw [if_pos c8] at H
 have c8b0 : decide (t356 < (l1.length : Int)) = true := decide_eq_true c8
 clear c8
 obtain ⟨y359, hy359⟩ : ∃ y_ : List Int, y_ = (l1.set (t356 : Int).toNat s0_1) := ⟨_, rfl⟩
 replace H : (if 0 ≤ t357 then (if t357 < (l1.length : Int) then (if 0 ≤ t358 then (if t358 < (l1.length : Int) then (some (s0_0, s0_1, s0_2, s0_3, 4, s0_5, s0_6, s0_7, s0_8, s0_9, s0_10, ((y359.set (t357 : Int).toNat s0_2).set (t358 : Int).toNat (wrap64 (2 * s0_6))))) else (none)) else (none)) else (none)) else (none)) = some (r1, r2, r3, r4, r5, r6, r7, r8, r9, r10, r11, r12) := by first | (rw [hy359]; with_reducible exact H) | (have H2_ := (Option.bind_some _ _).symm.trans H; rw [hy359]; with_reducible exact H2_) | (have H2_ := (Option.bind_some _ _).symm.trans H; with_reducible exact H2_) | with_reducible exact H | (rw [hy359]; exact H) | exact H
 have Ny359 := Aside0.mk hy359
 clear hy359
 by_cases c10 : 0 ≤ t357; rotate_left
 ·
  rw [if_neg c10] at H; exact absurd H (by simp)
 rw [if_pos c10] at H
 have c10b0 : decide (0 ≤ t357) = true := decide_eq_true c10
 clear c10
 by_cases c11 : t357 < (l1.length : Int); rotate_left
 ·
  rw [if_neg c11] at H; exact absurd H (by simp)
 rw [if_pos c11] at H
 have c11b0 : decide (t357 < (l1.length : Int)) = true := decide_eq_true c11
 clear c11
 obtain ⟨y360, hy360⟩ : ∃ y_ : List Int, y_ = (y359.set (t357 : Int).toNat s0_2) := ⟨_, rfl⟩
 replace H : (if 0 ≤ t358 then (if t358 < (l1.length : Int) then (some (s0_0, s0_1, s0_2, s0_3, 4, s0_5, s0_6, s0_7, s0_8, s0_9, s0_10, (y360.set (t358 : Int).toNat (wrap64 (2 * s0_6))))) else (none)) else (none)) = some (r1, r2, r3, r4, r5, r6, r7, r8, r9, r10, r11, r12) := by first | (rw [hy360]; with_reducible exact H) | (have H2_ := (Option.bind_some _ _).symm.trans H; rw [hy360]; with_reducible exact H2_) | (have H2_ := (Option.bind_some _ _).symm.trans H; with_reducible exact H2_) | with_reducible exact H | (rw [hy360]; exact H) | exact H
 have Ny360 := Aside0.mk hy360
 clear hy360
 by_cases c13 : 0 ≤ t358; rotate_left
 ·
  rw [if_neg c13] at H; exact absurd H (by simp)
 rw [if_pos c13] at H
 have c13b0 : decide (0 ≤ t358) = true := decide_eq_true c13
 clear c13
 by_cases c14 : t358 < (l1.length : Int); rotate_left
 ·
  rw [if_neg c14] at H; exact absurd H (by simp)
 rw [if_pos c14] at H
 have c14b0 : decide (t358 < (l1.length : Int)) = true := decide_eq_true c14
 clear c14
 obtain ⟨y361, hy361⟩ : ∃ y_ : List Int, y_ = (y360.set (t358 : Int).toNat (wrap64 (2 * s0_6))) := ⟨_, rfl⟩
 replace H : (some (s0_0, s0_1, s0_2, s0_3, 4, s0_5, s0_6, s0_7, s0_8, s0_9, s0_10, y361)) = some (r1, r2, r3, r4, r5, r6, r7, r8, r9, r10, r11, r12) := by first | (rw [hy361]; with_reducible exact H) | (have H2_ := (Option.bind_some _ _).symm.trans H; rw [hy361]; with_reducible exact H2_) | (have H2_ := (Option.bind_some _ _).symm.trans H; with_reducible exact H2_) | with_reducible exact H | (rw [hy361]; exact H) | exact H
 have Ny361 := Aside0.mk hy361
 clear hy361
 simp only [Option.some.injEq, Prod.mk.injEq] at H
 obtain ⟨rfl, rfl, rfl, rfl, rfl, rfl, rfl, rfl, rfl, rfl, rfl, rfl⟩ := H
 obtain ⟨HGz16, hgz16⟩ := HI0.out
 have hcz16_0 := cellS30_0 HGz16
 have hcz16_1 := cellS30_1 HGz16
 have hcz16_2 := cellS30_2 HGz16
 have hcz16_3 := cellS30_3 HGz16
 have hcz16_4 := cellS30_4 HGz16
 have hcz16_5 := cellS30_5 HGz16
 have hcz16_6 := cellS30_6 HGz16
 have hcz16_7 := cellS30_7 HGz16
 have hcz16_8 := cellS30_8 HGz16
 have hcz16_9 := cellS30_9 HGz16
 have hcz16_10 := cellS30_10 HGz16
 have hfz16_0 := blk_frozen HGz16 0
 have hfz16_1 := blk_frozen HGz16 1
 have hfz16_2 := blk_frozen HGz16 2
 have hfz16_3 := blk_frozen HGz16 3
 have hfz16_4 := blk_frozen HGz16 4
 have hfz16_5 := blk_frozen HGz16 5
 have hfz16_6 := blk_frozen HGz16 6
 have hfz16_7 := blk_frozen HGz16 7
 have hfz16_8 := blk_frozen HGz16 8
 have hfz16_9 := blk_frozen HGz16 9
 have hfz16_10 := blk_frozen HGz16 10
 clear HGz16 hgz16
 go_enter Try.func110, Try.ntmps110
 try go_wp2
 have n0_ := Aside0.mk (Kd.R_drew HO1.out)
 have n1_ := Aside0.mk (IsS30.drew HI0.out)
 have n2_ := Aside0.mk (Kept.drew HK.out)
 have n3_ := Aside0.mk (below_drew1 HB.out)
 clear HO1
 clear HI0
 clear HK
 clear HB
 have HO1 := n0_
 have HI0 := n1_
 have HK := n2_
 have HB := n3_
 clear n0_ n1_ n2_ n3_
 refine start_ (n := 37) (S := fun w' => w'.cell? ⟨g, 0, none⟩ = some (.int .i64 s0_0) ∧ w'.cell? ⟨g, 1, none⟩ = some (.int .i64 s0_1) ∧ w'.cell? ⟨g, 2, none⟩ = some (.int .i64 s0_2) ∧ w'.cell? ⟨g, 3, none⟩ = some (.int .i64 s0_3) ∧ w'.cell? ⟨g, 4, none⟩ = some (.int .i64 s0_4) ∧ w'.cell? ⟨g, 5, none⟩ = some (.int .i64 s0_5) ∧ w'.cell? ⟨g, 6, none⟩ = some (.int .i64 s0_6) ∧ w'.cell? ⟨g, 7, none⟩ = some (.int .i64 s0_7) ∧ w'.cell? ⟨g, 8, none⟩ = some (.int .i64 s0_8) ∧ w'.cell? ⟨g, 9, none⟩ = some (.bool s0_9) ∧ w'.cell? ⟨g, 10, none⟩ = some (.int .i64 s0_10)) (ds := [32, 34, 36]) #[false, false, false, false, false, false, false, false, false, false, false, false, false, false, false, false, false, false, false, false, false, false, false, false, false, false, false, false, false, false, false, false, false, false, false, false, false] (by kernel_rfl) rfl rfl ⟨(blk_cell (Aside0.mk (HI0.out).1).out 0).trans rfl, (blk_cell (Aside0.mk (HI0.out).1).out 1).trans rfl, (blk_cell (Aside0.mk (HI0.out).1).out 2).trans rfl, (blk_cell (Aside0.mk (HI0.out).1).out 3).trans rfl, (blk_cell (Aside0.mk (HI0.out).1).out 4).trans rfl, (blk_cell (Aside0.mk (HI0.out).1).out 5).trans rfl, (blk_cell (Aside0.mk (HI0.out).1).out 6).trans rfl, (blk_cell (Aside0.mk (HI0.out).1).out 7).trans rfl, (blk_cell (Aside0.mk (HI0.out).1).out 8).trans rfl, (blk_cell (Aside0.mk (HI0.out).1).out 9).trans rfl, (blk_cell (Aside0.mk (HI0.out).1).out 10).trans rfl⟩ (fun hHeld => ?_); refine with_tabW impl_Task_nobody.tab2 impl_Task_nobody.bits2 (fun HT_ HW_ => ?_)
 generalize w.drew = w17 at HO1 HI0 HK HB hHeld ⊢
 refine pV 0 11 (OB 37 1) ?_
 refine pV 1 12 (OB 37 3) ?_
 refine pV 2 13 (OB 37 7) ?_
 refine pV 3 14 (OB 37 15) ?_
 refine pV 6 17 (OB 37 79) ?_
 refine pV 7 18 (OB 37 207) ?_
 refine pV 8 19 (OB 37 463) ?_
 refine pV 9 20 (OB 37 975) ?_
 refine pV 12 23 (OB 37 5071) ?_
 refine pV 13 24 (OB 37 13263) ?_
 refine pV 14 25 (OB 37 29647) ?_
 refine pV 15 26 (OB 37 62415) ?_
 refine pV 18 29 (OB 37 324559) ?_
 refine pV 19 30 (OB 37 848847) ?_
 refine pV 20 31 (OB 37 1897423) ?_
 refine pV 22 33 (OB 37 6091727) ?_
 refine pV 23 34 (OB 37 14480335) ?_
 refine pV 24 35 (OB 37 31257551) ?_
 refine pV 26 37 (OB 37 98366415) ?_
 refine pV 27 38 (OB 37 232584143) ?_
 refine pV 28 39 (OB 37 501019599) ?_
 refine pT 4 15 (OB 37 501019615) ?_
 refine pT 10 21 (OB 37 501020639) ?_
 refine pT 16 27 (OB 37 501086175) ?_
 refine pT 21 32 (OB 37 503183327) ?_
 refine pT 25 36 (OB 37 536737759) ?_
 refine pT 29 40 (OB 37 1073608671) ?_
 refine pV 30 41 (OB 37 2147350495) ?_
 refine one_ (i := 5) (N := some 16) (OB 37 2147350527) rfl rfl (one_of HT_.out (by kernel_rfl)) (by decide) (fun K hK => ?_)
 refine goes_ Try.func77 (by kernel_rfl) rfl #[.int .i64 s0_3] (by rfl) rfl rfl (MA) ?_
 with_reducible refine (impl_keyCell.calls s0_3 t356 _ A4.out).mono ?_
 rintro e w17 ⟨rfl, ⟨nd, hq_⟩⟩
 replace hq_ := hq_.symm
 replace HO1 := Aside0.mk (Kd.R_at hq_ HO1.out)
 replace HI0 := Aside0.mk (IsS30.at_ hq_ HI0.out)
 replace HK := Aside0.mk (kept_at hq_ HK.out)
 replace HB := Aside0.mk (below_at hq_ HB.out)
 clear hq_
 refine ⟨_, rfl, ?_⟩
 refine hK.out _ _ ⟨(blk_cell (Aside0.mk (HI0.out).1).out 0).trans rfl, (blk_cell (Aside0.mk (HI0.out).1).out 1).trans rfl, (blk_cell (Aside0.mk (HI0.out).1).out 2).trans rfl, (blk_cell (Aside0.mk (HI0.out).1).out 3).trans rfl, (blk_cell (Aside0.mk (HI0.out).1).out 4).trans rfl, (blk_cell (Aside0.mk (HI0.out).1).out 5).trans rfl, (blk_cell (Aside0.mk (HI0.out).1).out 6).trans rfl, (blk_cell (Aside0.mk (HI0.out).1).out 7).trans rfl, (blk_cell (Aside0.mk (HI0.out).1).out 8).trans rfl, (blk_cell (Aside0.mk (HI0.out).1).out 9).trans rfl, (blk_cell (Aside0.mk (HI0.out).1).out 10).trans rfl⟩ (fun hHeld => ?_)
 clear hK K
 refine norm_ (a' := ?_) ?_ ?_
 rotate_left
 ·
  show Act.put _ (some 16) _ = _; simp only [Act.put, zA, zB, zC, i64_w, i32_w]; rfl
 refine one_ (i := 11) (N := some 22) (OB 37 2147352575) rfl rfl (one_of HT_.out (by kernel_rfl)) (by decide) (fun K hK => ?_)
 refine goes_ Try.func111 (by kernel_rfl) rfl #[.int .i64 s0_3] (by rfl) rfl rfl (MA) ?_
 with_reducible refine (impl_valCell.calls s0_3 t357 _ A5.out).mono ?_
 rintro e w17 ⟨rfl, ⟨nd, hq_⟩⟩
 replace hq_ := hq_.symm
 replace HO1 := Aside0.mk (Kd.R_at hq_ HO1.out)
 replace HI0 := Aside0.mk (IsS30.at_ hq_ HI0.out)
 replace HK := Aside0.mk (kept_at hq_ HK.out)
 replace HB := Aside0.mk (below_at hq_ HB.out)
 clear hq_
 refine ⟨_, rfl, ?_⟩
 refine hK.out _ _ ⟨(blk_cell (Aside0.mk (HI0.out).1).out 0).trans rfl, (blk_cell (Aside0.mk (HI0.out).1).out 1).trans rfl, (blk_cell (Aside0.mk (HI0.out).1).out 2).trans rfl, (blk_cell (Aside0.mk (HI0.out).1).out 3).trans rfl, (blk_cell (Aside0.mk (HI0.out).1).out 4).trans rfl, (blk_cell (Aside0.mk (HI0.out).1).out 5).trans rfl, (blk_cell (Aside0.mk (HI0.out).1).out 6).trans rfl, (blk_cell (Aside0.mk (HI0.out).1).out 7).trans rfl, (blk_cell (Aside0.mk (HI0.out).1).out 8).trans rfl, (blk_cell (Aside0.mk (HI0.out).1).out 9).trans rfl, (blk_cell (Aside0.mk (HI0.out).1).out 10).trans rfl⟩ (fun hHeld => ?_)
 clear hK K
 refine norm_ (a' := ?_) ?_ ?_
 rotate_left
 ·
  show Act.put _ (some 22) _ = _; simp only [Act.put, zA, zB, zC, i64_w, i32_w]; rfl
 refine one_ (i := 17) (N := some 28) (OB 37 2147483647) rfl rfl (one_of HT_.out (by kernel_rfl)) (by decide) (fun K hK => ?_)
 refine goes_ Try.func94 (by kernel_rfl) rfl #[.int .i64 s0_3] (by rfl) rfl rfl (MA) ?_
 with_reducible refine (impl_wordCell.calls s0_3 t358 _ A6.out).mono ?_
 rintro e w17 ⟨rfl, ⟨nd, hq_⟩⟩
 replace hq_ := hq_.symm
 replace HO1 := Aside0.mk (Kd.R_at hq_ HO1.out)
 replace HI0 := Aside0.mk (IsS30.at_ hq_ HI0.out)
 replace HK := Aside0.mk (kept_at hq_ HK.out)
 replace HB := Aside0.mk (below_at hq_ HB.out)
 clear hq_
 refine ⟨_, rfl, ?_⟩
 have p9 : 0 ≤ (t356 : Int) := of_decide_eq_true AS
 have q9 : (t356 : Int) < ((l1.length : Int) : Int) := of_decide_eq_true AS
 obtain ⟨go9, co9, eo9, gb9, gl9, cl9, HG9⟩ := Kd.R_form HO1.out (by omega)
 (first | cases eo9 | (injection eo9 with ea_ en_ ec_; (first | subst ea_ | (injection ea_ with ea_; subst ea_)); subst ec_; clear en_))
 have GB9 := Aside0.mk gb9
 have GG9 := Aside0.mk HG9
 clear gb9 gl9 HG9
 have HMgo9 := Aside0.mk (show (P1_ go9 ∨ w.heap.size ≤ go9) from (HO1.out.1 _ rfl))
 obtain ⟨hx9_0, hf9_0⟩ := Kd.R_celln 0 HO1.out (t356 : Int) p9 q9
 replace p9 := eq_true p9
 replace q9 := eq_true q9
 have HN0_go9 := Aside0.mk (show g ≠ go9 from by have h_ := IsS30.own_ne HI0.out HO1.out (by decide); intro e_; exact h_ (by rw [e_]; rfl))
 have HP18 := Kd.R_putn HO1.out (t356 : Int) s0_1
 rw [← Ny359.out] at HP18
 have HQ18 := Aside0.mk HP18
 clear HP18
 have p12 : 0 ≤ (t357 : Int) := of_decide_eq_true AS
 have q12 : (t357 : Int) < ((l1.length : Int) : Int) := of_decide_eq_true AS
 obtain ⟨hx12_0, hf12_0⟩ := Kd.R_celln 0 HQ18.out (t357 : Int) p12 q12
 replace p12 := eq_true p12
 replace q12 := eq_true q12
 have HN0_go9 := Aside0.mk (show g ≠ go9 from by have h_ := IsS30.own_ne HI0.out HO1.out (by decide); intro e_; exact h_ (by rw [e_]; rfl))
 have HP19 := Kd.R_putn HQ18.out (t357 : Int) s0_2
 rw [← Ny360.out] at HP19
 have HQ19 := Aside0.mk HP19
 clear HP19
 have p15 : 0 ≤ (t358 : Int) := of_decide_eq_true AS
 have q15 : (t358 : Int) < ((l1.length : Int) : Int) := of_decide_eq_true AS
 obtain ⟨hx15_0, hf15_0⟩ := Kd.R_celln 0 HQ19.out (t358 : Int) p15 q15
 replace p15 := eq_true p15
 replace q15 := eq_true q15
 have HN0_go9 := Aside0.mk (show g ≠ go9 from by have h_ := IsS30.own_ne HI0.out HO1.out (by decide); intro e_; exact h_ (by rw [e_]; rfl))
 have HP20 := Kd.R_putn HQ19.out (t358 : Int) (wrap64 (2 * s0_6))
 rw [← Ny361.out] at HP20
 have HQ20 := Aside0.mk HP20
 clear HP20
 refine hK.out _ _ ⟨(blk_cell (Aside0.mk (HI0.out).1).out 0).trans rfl, (blk_cell (Aside0.mk (HI0.out).1).out 1).trans rfl, (blk_cell (Aside0.mk (HI0.out).1).out 2).trans rfl, (blk_cell (Aside0.mk (HI0.out).1).out 3).trans rfl, (blk_cell (Aside0.mk (HI0.out).1).out 4).trans rfl, (blk_cell (Aside0.mk (HI0.out).1).out 5).trans rfl, (blk_cell (Aside0.mk (HI0.out).1).out 6).trans rfl, (blk_cell (Aside0.mk (HI0.out).1).out 7).trans rfl, (blk_cell (Aside0.mk (HI0.out).1).out 8).trans rfl, (blk_cell (Aside0.mk (HI0.out).1).out 9).trans rfl, (blk_cell (Aside0.mk (HI0.out).1).out 10).trans rfl⟩ (fun hHeld => ?_)
 clear hK K
 refine norm_ (a' := ?_) ?_ ?_
 rotate_left
 ·
  show Act.put _ (some 28) _ = _; simp only [Act.put, zA, zB, zC, i64_w, i32_w]; rfl
 refine pV 31 42 (OB 37 4294967295) ?_
 refine last_ (i := 32) (N := none) #[true, true, true, true, true, true, true, true, true, true, true, true, true, true, true, true, true, true, true, true, true, true, true, true, true, true, true, true, true, true, true, true, true, false, false, false, false] rfl rfl (one_of HT_.out (by kernel_rfl)) (by decide) (fun K hK => ?_)
 refine skip_ (w1 := ?_) (by rfl) rfl ?_ ?_
 rotate_left
 ·
  go_simp
  rfl
 refine hK.out _ _ ?_
 clear hK K
 refine pV 33 43 (OB 37 17179869183) ?_
 refine last_ (i := 34) (N := none) #[true, true, true, true, true, true, true, true, true, true, true, true, true, true, true, true, true, true, true, true, true, true, true, true, true, true, true, true, true, true, true, true, true, true, true, false, false] rfl rfl (one_of HT_.out (by kernel_rfl)) (by decide) (fun K hK => ?_)
 refine skip_ (w1 := ?_) (by rfl) rfl ?_ ?_
 rotate_left
 ·
  go_simp
  rfl
 refine hK.out _ _ ?_
 clear hK K
 refine pV 35 44 (OB 37 68719476735) ?_
 refine last_ (i := 36) (N := none) #[true, true, true, true, true, true, true, true, true, true, true, true, true, true, true, true, true, true, true, true, true, true, true, true, true, true, true, true, true, true, true, true, true, true, true, true, true] rfl rfl (one_of HT_.out (by kernel_rfl)) (by decide) (fun K hK => ?_)
 refine skip_ (w1 := ?_) (by rfl) rfl ?_ ?_
 rotate_left
 ·
  go_simp
  rfl
 refine hK.out _ _ ?_
 clear hK K
 refine done_ (done_of HT_.out (by kernel_rfl)) ?_
 have n0_ : Aside0 (Kd.R (Kd.int .i64) 3 (((w17.setCell ⟨go9, (t356 : Int).toNat, none⟩ (.int .i64 s0_1)).setCell ⟨go9, (t357 : Int).toNat, none⟩ (.int .i64 s0_2)).setCell ⟨go9, (t358 : Int).toNat, none⟩ (.int .i64 (wrap64 (2 * s0_6)))) w0.heap.size (fun k_ => (P1_ k_ ∨ w.heap.size ≤ k_)) (.slice (some ⟨go9, 0, none⟩) l1.length co9) y361) := ⟨RQ HQ20.out⟩
 have n1_ : Aside0 (IsS30 w0 (((w17.setCell ⟨go9, (t356 : Int).toNat, none⟩ (.int .i64 s0_1)).setCell ⟨go9, (t357 : Int).toNat, none⟩ (.int .i64 s0_2)).setCell ⟨go9, (t358 : Int).toNat, none⟩ (.int .i64 (wrap64 (2 * s0_6)))) g s0_0 s0_1 s0_2 s0_3 s0_4 s0_5 s0_6 s0_7 s0_8 s0_9 s0_10) := ⟨by repeat (first | (with_reducible first | exact HI0.out | apply IsS30.alloc | apply IsS30.drewN | apply IsS30.drew | apply IsS30.set_0 | apply IsS30.set_1 | apply IsS30.set_2 | apply IsS30.set_3 | apply IsS30.set_4 | apply IsS30.set_5 | apply IsS30.set_6 | apply IsS30.set_7 | apply IsS30.set_8 | apply IsS30.set_9 | apply IsS30.set_10 | refine IsS30.far ?_ HN0_go9.out _ | refine IsS30.far ?_ HN0_go9.out _ | refine IsS30.far ?_ HN0_go9.out _) | exact HI0.out)⟩
 have n2_ : Aside0 (Kept w (((w17.setCell ⟨go9, (t356 : Int).toNat, none⟩ (.int .i64 s0_1)).setCell ⟨go9, (t357 : Int).toNat, none⟩ (.int .i64 s0_2)).setCell ⟨go9, (t358 : Int).toNat, none⟩ (.int .i64 (wrap64 (2 * s0_6)))) (fun k_ => (P1_ k_) ∨ k_ = g)) := ⟨by repeat (first | (with_reducible first | exact HK.out | apply Kept.alloc | apply Kept.drewN | apply Kept.drew | refine Kept.setCell ?_ (Or.imp_left Or.inl HMgo9.out) _ | refine Kept.setCell ?_ (Or.imp_left Or.inl HMgo9.out) _ | refine Kept.setCell ?_ (Or.imp_left Or.inl HMgo9.out) _ | refine Kept.setCell ?_ (.inl (.inr rfl)) _) | exact HK.out)⟩
 have n3_ : Aside0 (Below w0.heap.size w0 (((w17.setCell ⟨go9, (t356 : Int).toNat, none⟩ (.int .i64 s0_1)).setCell ⟨go9, (t357 : Int).toNat, none⟩ (.int .i64 s0_2)).setCell ⟨go9, (t358 : Int).toNat, none⟩ (.int .i64 (wrap64 (2 * s0_6))))) := ⟨by repeat (first | (with_reducible first | exact HB.out | apply below_alloc | apply pw_below_drewN | apply below_drew1 | refine below_set ?_ GB9.out | refine below_set ?_ GB9.out | refine below_set ?_ GB9.out | refine below_set ?_ (IsS30.ge HI0.out)) | exact HB.out)⟩
 (try clear HO1)
 (try clear HI0)
 (try clear HK)
 (try clear HB)
 generalize (((w17.setCell ⟨go9, (t356 : Int).toNat, none⟩ (.int .i64 s0_1)).setCell ⟨go9, (t357 : Int).toNat, none⟩ (.int .i64 s0_2)).setCell ⟨go9, (t358 : Int).toNat, none⟩ (.int .i64 (wrap64 (2 * s0_6)))) = w21 at n0_ n1_ n2_ n3_ ⊢
 have HO1 := n0_
 have HI0 := n1_
 have HK := n2_
 have HB := n3_
 clear n0_ n1_ n2_ n3_
 obtain ⟨HGz22, hgz22⟩ := HI0.out
 have hcz22_0 := cellS30_0 HGz22
 have hcz22_1 := cellS30_1 HGz22
 have hcz22_2 := cellS30_2 HGz22
 have hcz22_3 := cellS30_3 HGz22
 have hcz22_4 := cellS30_4 HGz22
 have hcz22_5 := cellS30_5 HGz22
 have hcz22_6 := cellS30_6 HGz22
 have hcz22_7 := cellS30_7 HGz22
 have hcz22_8 := cellS30_8 HGz22
 have hcz22_9 := cellS30_9 HGz22
 have hcz22_10 := cellS30_10 HGz22
 have hfz22_0 := blk_frozen HGz22 0
 have hfz22_1 := blk_frozen HGz22 1
 have hfz22_2 := blk_frozen HGz22 2
 have hfz22_3 := blk_frozen HGz22 3
 have hfz22_4 := blk_frozen HGz22 4
 have hfz22_5 := blk_frozen HGz22 5
 have hfz22_6 := blk_frozen HGz22 6
 have hfz22_7 := blk_frozen HGz22 7
 have hfz22_8 := blk_frozen HGz22 8
 have hfz22_9 := blk_frozen HGz22 9
 have hfz22_10 := blk_frozen HGz22 10
 clear HGz22 hgz22
 try go_wp2
 first | go_end0 | ((try simp only [Exit.inBlock, Exit.then]); refine bodyPost_ret (results_none rfl _ _ _) rfl ?_)
 exact ⟨EE, impl_Task_nobody.k0 HI0.out, by (with_reducible repeat (first | apply r1 | apply r2 | apply r3)); exact Kd.R_mono (Kd.R_far (p := ⟨g, 4, none⟩) (IsS30.apart HI0.out HO1.out (by decide)) (fun _ hk => hk.2) (.int .i64 4)) (fun _ hk => hk.1), impl_Task_nobody.k1 HB.out, impl_Task_nobody.k2 HK.out⟩

/-! ### impl_Task_found: function 106 -/
def impl_Task_found.f (s0_0 : Int) (s0_1 : Int) (s0_2 : Int) (s0_3 : Int) (s0_4 : Int) (s0_5 : Int) (s0_6 : Int) (s0_7 : Int) (s0_8 : Int) (s0_9 : Bool) (s0_10 : Int) (l1 : List Int) : Option (Int × Int × Int × Int × Int × Int × Int × Int × Int × Bool × Int × List Int) := (impl_keyCell.f s0_6).bind fun t373 => (if 0 ≤ t373 then (if t373 < (l1.length : Int) then (if (rd l1 t373) = s0_1 then (if s0_0 = 1 then ((impl_valCell.f s0_6).bind fun t375 => (if 0 ≤ t375 then (if t375 < (l1.length : Int) then ((impl_Task_done.f s0_0 s0_1 s0_2 s0_3 s0_4 s0_5 s0_6 s0_7 s0_8 s0_9 s0_10 (wrap64 ((rd l1 t375) + 1))).bind fun bt377 => (some (bt377.1, bt377.2.1, bt377.2.2.1, bt377.2.2.2.1, bt377.2.2.2.2.1, bt377.2.2.2.2.2.1, bt377.2.2.2.2.2.2.1, bt377.2.2.2.2.2.2.2.1, bt377.2.2.2.2.2.2.2.2.1, bt377.2.2.2.2.2.2.2.2.2.1, bt377.2.2.2.2.2.2.2.2.2.2, l1))) else (none)) else (none))) else (if s0_0 = 2 then ((impl_Task_done.f s0_0 s0_1 s0_2 s0_3 s0_4 s0_5 s0_6 s0_7 s0_8 s0_9 s0_10 0).bind fun bt388 => (some (bt388.1, bt388.2.1, bt388.2.2.1, bt388.2.2.2.1, bt388.2.2.2.2.1, bt388.2.2.2.2.2.1, bt388.2.2.2.2.2.2.1, bt388.2.2.2.2.2.2.2.1, bt388.2.2.2.2.2.2.2.2.1, bt388.2.2.2.2.2.2.2.2.2.1, bt388.2.2.2.2.2.2.2.2.2.2, l1))) else (some (s0_0, s0_1, s0_2, s0_3, 5, s0_5, s0_6, s0_7, s0_8, s0_9, s0_10, l1)))) else ((impl_Task_nobody.f s0_0 s0_1 s0_2 s0_3 s0_4 s0_5 s0_6 s0_7 s0_8 s0_9 s0_10 l1).bind fun bt399 => (some (bt399.1, bt399.2.1, bt399.2.2.1, bt399.2.2.2.1, bt399.2.2.2.2.1, bt399.2.2.2.2.2.1, bt399.2.2.2.2.2.2.1, bt399.2.2.2.2.2.2.2.1, bt399.2.2.2.2.2.2.2.2.1, bt399.2.2.2.2.2.2.2.2.2.1, bt399.2.2.2.2.2.2.2.2.2.2.1, bt399.2.2.2.2.2.2.2.2.2.2.2)))) else (none)) else (none))
theorem impl_Task_found.k0 {p q : Prop} (h : q) (k : q → p := by intro h_; repeat (first | (with_reducible first | exact h_ | apply IsS30.alloc | apply IsS30.drewN | apply IsS30.drew | apply IsS30.set_0 | apply IsS30.set_1 | apply IsS30.set_2 | apply IsS30.set_3 | apply IsS30.set_4 | apply IsS30.set_5 | apply IsS30.set_6 | apply IsS30.set_7 | apply IsS30.set_8 | apply IsS30.set_9 | apply IsS30.set_10) | exact h_)) : p := k h
theorem impl_Task_found.k1 {p q : Prop} (h : q) (k : q → p := by intro h_; repeat (first | (with_reducible first | exact h_ | apply below_alloc | apply pw_below_drewN | apply below_drew1 | refine below_set ?_ (IsS30.ge HI0.out)) | exact h_)) : p := k h
theorem impl_Task_found.k2 {p q : Prop} (h : q) (k : q → p := by intro h_; repeat (first | (with_reducible first | exact h_ | apply Kept.alloc | apply Kept.drewN | apply Kept.drew | refine Kept.setCell ?_ (.inl (.inr rfl)) _) | exact h_)) : p := k h
set_option maxHeartbeats 8000000 in
set_option maxRecDepth 100000 in
theorem impl_Task_found.calls (g : Nat) (s0_0 : Int) (s0_1 : Int) (s0_2 : Int) (s0_3 : Int) (s0_4 : Int) (s0_5 : Int) (s0_6 : Int) (s0_7 : Int) (s0_8 : Int) (s0_9 : Bool) (s0_10 : Int) (P1_ : Nat → Prop) (u9000_ : Value) (l1 : List Int) (r1 : Int) (r2 : Int) (r3 : Int) (r4 : Int) (r5 : Int) (r6 : Int) (r7 : Int) (r8 : Int) (r9 : Int) (r10 : Bool) (r11 : Int) (r12 : List Int) (w0 w : World) (hI : IsS30 w0 w g s0_0 s0_1 s0_2 s0_3 s0_4 s0_5 s0_6 s0_7 s0_8 s0_9 s0_10) (hB : Below w0.heap.size w0 w) (ho1 : Kd.R (Kd.int .i64) 3 w w0.heap.size P1_ u9000_ l1) (h : impl_Task_found.f s0_0 s0_1 s0_2 s0_3 s0_4 s0_5 s0_6 s0_7 s0_8 s0_9 s0_10 l1 = some (r1, r2, r3, r4, r5, r6, r7, r8, r9, r10, r11, r12)) :
  Calls Try.prog 106 #[.pointer (some ⟨g, 0, none⟩), u9000_] w fun e w' => e = .returned (.tuple #[]) ∧ IsS30 w0 w' g r1 r2 r3 r4 r5 r6 r7 r8 r9 r10 r11 ∧ Kd.R (Kd.int .i64) 3 w' w0.heap.size (fun k_ => (P1_ k_ ∨ w.heap.size ≤ k_)) u9000_ r12 ∧ Below w0.heap.size w0 w' ∧ Kept w w' (fun k_ => (P1_ k_) ∨ k_ = g) := by
 have HO1 := Aside0.mk (show Kd.R (Kd.int .i64) 3 w w0.heap.size (fun k_ => (P1_ k_ ∨ w.heap.size ≤ k_)) u9000_ l1 from Kd.R_mono ho1 (fun k_ hk => (.inl hk)))
 have HI0 := Aside0.mk hI
 have HL := Aside0.mk hB.size
 clear hI
 have HK := Aside0.mk (Kept.refl w (fun k_ => (P1_ k_) ∨ k_ = g))
 have HW0 := Aside0.mk hB.size
 have HB := Aside0.mk hB
 clear hB
 have H : ((impl_keyCell.f s0_6).bind fun t373 => (if 0 ≤ t373 then (if t373 < (l1.length : Int) then (if (rd l1 t373) = s0_1 then (if s0_0 = 1 then ((impl_valCell.f s0_6).bind fun t375 => (if 0 ≤ t375 then (if t375 < (l1.length : Int) then ((impl_Task_done.f s0_0 s0_1 s0_2 s0_3 s0_4 s0_5 s0_6 s0_7 s0_8 s0_9 s0_10 (wrap64 ((rd l1 t375) + 1))).bind fun bt377 => (some (bt377.1, bt377.2.1, bt377.2.2.1, bt377.2.2.2.1, bt377.2.2.2.2.1, bt377.2.2.2.2.2.1, bt377.2.2.2.2.2.2.1, bt377.2.2.2.2.2.2.2.1, bt377.2.2.2.2.2.2.2.2.1, bt377.2.2.2.2.2.2.2.2.2.1, bt377.2.2.2.2.2.2.2.2.2.2, l1))) else (none)) else (none))) else (if s0_0 = 2 then ((impl_Task_done.f s0_0 s0_1 s0_2 s0_3 s0_4 s0_5 s0_6 s0_7 s0_8 s0_9 s0_10 0).bind fun bt388 => (some (bt388.1, bt388.2.1, bt388.2.2.1, bt388.2.2.2.1, bt388.2.2.2.2.1, bt388.2.2.2.2.2.1, bt388.2.2.2.2.2.2.1, bt388.2.2.2.2.2.2.2.1, bt388.2.2.2.2.2.2.2.2.1, bt388.2.2.2.2.2.2.2.2.2.1, bt388.2.2.2.2.2.2.2.2.2.2, l1))) else (some (s0_0, s0_1, s0_2, s0_3, 5, s0_5, s0_6, s0_7, s0_8, s0_9, s0_10, l1)))) else ((impl_Task_nobody.f s0_0 s0_1 s0_2 s0_3 s0_4 s0_5 s0_6 s0_7 s0_8 s0_9 s0_10 l1).bind fun bt399 => (some (bt399.1, bt399.2.1, bt399.2.2.1, bt399.2.2.2.1, bt399.2.2.2.2.1, bt399.2.2.2.2.2.1, bt399.2.2.2.2.2.2.1, bt399.2.2.2.2.2.2.2.1, bt399.2.2.2.2.2.2.2.2.1, bt399.2.2.2.2.2.2.2.2.2.1, bt399.2.2.2.2.2.2.2.2.2.2.1, bt399.2.2.2.2.2.2.2.2.2.2.2)))) else (none)) else (none))) = some (r1, r2, r3, r4, r5, r6, r7, r8, r9, r10, r11, r12) := h
 clear h
 replace H := Option.bind_eq_some_iff.mp H
 obtain ⟨t373, A30, H⟩ := H
 have A3 := Aside0.mk A30
 clear A30
 by_cases c4 : 0 ≤ t373; rotate_left
 ·
  rw [if_neg c4] at H; exact absurd H (by simp)
 rw [if_pos c4] at H
 have c4b0 : decide (0 ≤ t373) = true := decide_eq_true c4
 clear c4
 by_cases c5 : t373 < (l1.length : Int); rotate_left
 ·
  rw [if_neg c5] at H; exact absurd H (by simp)
 rw [if_pos c5] at H
 have c5b0 : decide (t373 < (l1.length : Int)) = true := decide_eq_true c5
 clear c5
 by_cases c6 : (rd l1 t373) = s0_1; rotate_left
 ·
  rw [if_neg c6] at H; have c6b0 : ((rd l1 t373) == s0_1) = false := beq_eq_false_iff_ne.mpr c6; have c6b1 : ((rd l1 t373) != s0_1) = true := bne_iff_ne.mpr c6; replace H := Option.bind_eq_some_iff.mp H; obtain ⟨⟨t399, t400, t401, t402, t403, t404, t405, t406, t407, t408, t409, t410⟩, A220, H⟩ := H; replace H : (some (t399, t400, t401, t402, t403, t404, t405, t406, t407, t408, t409, t410)) = some (r1, r2, r3, r4, r5, r6, r7, r8, r9, r10, r11, r12) := H; have A22 := Aside0.mk A220; clear A220; simp only [Option.some.injEq, Prod.mk.injEq] at H; obtain ⟨rfl, rfl, rfl, rfl, rfl, rfl, rfl, rfl, rfl, rfl, rfl, rfl⟩ := H; obtain ⟨HGz23, hgz23⟩ := HI0.out; have hcz23_0 := cellS30_0 HGz23; have hcz23_1 := cellS30_1 HGz23; have hcz23_2 := cellS30_2 HGz23; have hcz23_3 := cellS30_3 HGz23; have hcz23_4 := cellS30_4 HGz23; have hcz23_5 := cellS30_5 HGz23; have hcz23_6 := cellS30_6 HGz23; have hcz23_7 := cellS30_7 HGz23; have hcz23_8 := cellS30_8 HGz23; have hcz23_9 := cellS30_9 HGz23; have hcz23_10 := cellS30_10 HGz23; have hfz23_0 := blk_frozen HGz23 0; have hfz23_1 := blk_frozen HGz23 1; have hfz23_2 := blk_frozen HGz23 2; have hfz23_3 := blk_frozen HGz23 3; have hfz23_4 := blk_frozen HGz23 4; have hfz23_5 := blk_frozen HGz23 5; have hfz23_6 := blk_frozen HGz23 6; have hfz23_7 := blk_frozen HGz23 7; have hfz23_8 := blk_frozen HGz23 8; have hfz23_9 := blk_frozen HGz23 9; have hfz23_10 := blk_frozen HGz23 10; clear HGz23 hgz23
  go_enter Try.func106, Try.ntmps106
  go_wp2_with (first | (go_at_call 77; (with_reducible refine (impl_keyCell.calls s0_6 t373 _ A3.out).mono ?_); rintro e w' ⟨rfl, ⟨nd, rfl⟩⟩; (try first | exact ⟨rfl, _, World.drewN_drewN _ _ _⟩ | exact ⟨rfl, _, Eq.trans (World.drewN_drewN _ _ _) (congrArg (World.drewN _) (Nat.add_assoc _ _ _))⟩); obtain ⟨Ao24, co24, eo24⟩ := Kd.R_slice HO1.out; subst eo24; have p374 : 0 ≤ (t373 : Int) := of_decide_eq_true AS; have q374 : t373 < (l1.length : Int) := of_decide_eq_true AS; obtain ⟨ad374, e374, hx374_0⟩ := Kd.at_int (Kd.R_reads' HO1.out).2.2 t373 p374 q374; cases e374; replace p374 := eq_true p374; replace q374 := eq_true q374) | (go_at_call 110; (with_reducible refine (impl_Task_nobody.calls g s0_0 s0_1 s0_2 s0_3 s0_4 s0_5 s0_6 s0_7 s0_8 s0_9 s0_10 (fun k_ => some k_ = (.slice (some ad374) l1.length co24 : Value).ownBlock) (.slice (some ad374) l1.length co24) l1 t399 t400 t401 t402 t403 t404 t405 t406 t407 t408 t409 t410 w0 _ ?side1 ?side2 ?side3 A22.out).mono ?_); (case side1 => exact impl_Task_found.k0 HI0.out); (case side2 => exact impl_Task_found.k1 HB.out); (case side3 => exact Kd.R_tight rfl HO1.out); rintro e w25 ⟨rfl, hi, hy0, hb, hkp⟩; replace HI0 := Aside0.mk (hi); replace HK := Aside0.mk (Kept.then_ (S := (fun k_ => (P1_ k_) ∨ k_ = g)) (impl_Task_found.k2 HK.out) hkp (fun k_ hs_ => Or.elim hs_ (fun hs_ => (fun e_ => Or.imp_left Or.inl ((HO1.out.1 k_ e_.symm))) hs_) (fun e_ => .inl (.inr e_)))); replace HO1 := Aside0.mk (Kd.R_reok rfl hy0 (fun k_ e_ => HO1.out.1 k_ e_)); replace HB := Aside0.mk (hb); (try clear hb); (try clear hkp); (try clear hy0)))
  repeat (go_quiet (first | (go_at_call 77; (with_reducible refine (impl_keyCell.calls s0_6 t373 _ A3.out).mono ?_); rintro e w' ⟨rfl, ⟨nd, rfl⟩⟩; (try first | exact ⟨rfl, _, World.drewN_drewN _ _ _⟩ | exact ⟨rfl, _, Eq.trans (World.drewN_drewN _ _ _) (congrArg (World.drewN _) (Nat.add_assoc _ _ _))⟩); obtain ⟨Ao24, co24, eo24⟩ := Kd.R_slice HO1.out; subst eo24; have p374 : 0 ≤ (t373 : Int) := of_decide_eq_true AS; have q374 : t373 < (l1.length : Int) := of_decide_eq_true AS; obtain ⟨ad374, e374, hx374_0⟩ := Kd.at_int (Kd.R_reads' HO1.out).2.2 t373 p374 q374; cases e374; replace p374 := eq_true p374; replace q374 := eq_true q374) | (go_at_call 110; (with_reducible refine (impl_Task_nobody.calls g s0_0 s0_1 s0_2 s0_3 s0_4 s0_5 s0_6 s0_7 s0_8 s0_9 s0_10 (fun k_ => some k_ = (.slice (some ad374) l1.length co24 : Value).ownBlock) (.slice (some ad374) l1.length co24) l1 t399 t400 t401 t402 t403 t404 t405 t406 t407 t408 t409 t410 w0 _ ?side1 ?side2 ?side3 A22.out).mono ?_); (case side1 => exact impl_Task_found.k0 HI0.out); (case side2 => exact impl_Task_found.k1 HB.out); (case side3 => exact Kd.R_tight rfl HO1.out); rintro e w25 ⟨rfl, hi, hy0, hb, hkp⟩; replace HI0 := Aside0.mk (hi); replace HK := Aside0.mk (Kept.then_ (S := (fun k_ => (P1_ k_) ∨ k_ = g)) (impl_Task_found.k2 HK.out) hkp (fun k_ hs_ => Or.elim hs_ (fun hs_ => (fun e_ => Or.imp_left Or.inl ((HO1.out.1 k_ e_.symm))) hs_) (fun e_ => .inl (.inr e_)))); replace HO1 := Aside0.mk (Kd.R_reok rfl hy0 (fun k_ e_ => HO1.out.1 k_ e_)); replace HB := Aside0.mk (hb); (try clear hb); (try clear hkp); (try clear hy0))); try go_wp2_with (first | (go_at_call 77; (with_reducible refine (impl_keyCell.calls s0_6 t373 _ A3.out).mono ?_); rintro e w' ⟨rfl, ⟨nd, rfl⟩⟩; (try first | exact ⟨rfl, _, World.drewN_drewN _ _ _⟩ | exact ⟨rfl, _, Eq.trans (World.drewN_drewN _ _ _) (congrArg (World.drewN _) (Nat.add_assoc _ _ _))⟩); obtain ⟨Ao24, co24, eo24⟩ := Kd.R_slice HO1.out; subst eo24; have p374 : 0 ≤ (t373 : Int) := of_decide_eq_true AS; have q374 : t373 < (l1.length : Int) := of_decide_eq_true AS; obtain ⟨ad374, e374, hx374_0⟩ := Kd.at_int (Kd.R_reads' HO1.out).2.2 t373 p374 q374; cases e374; replace p374 := eq_true p374; replace q374 := eq_true q374) | (go_at_call 110; (with_reducible refine (impl_Task_nobody.calls g s0_0 s0_1 s0_2 s0_3 s0_4 s0_5 s0_6 s0_7 s0_8 s0_9 s0_10 (fun k_ => some k_ = (.slice (some ad374) l1.length co24 : Value).ownBlock) (.slice (some ad374) l1.length co24) l1 t399 t400 t401 t402 t403 t404 t405 t406 t407 t408 t409 t410 w0 _ ?side1 ?side2 ?side3 A22.out).mono ?_); (case side1 => exact impl_Task_found.k0 HI0.out); (case side2 => exact impl_Task_found.k1 HB.out); (case side3 => exact Kd.R_tight rfl HO1.out); rintro e w25 ⟨rfl, hi, hy0, hb, hkp⟩; replace HI0 := Aside0.mk (hi); replace HK := Aside0.mk (Kept.then_ (S := (fun k_ => (P1_ k_) ∨ k_ = g)) (impl_Task_found.k2 HK.out) hkp (fun k_ hs_ => Or.elim hs_ (fun hs_ => (fun e_ => Or.imp_left Or.inl ((HO1.out.1 k_ e_.symm))) hs_) (fun e_ => .inl (.inr e_)))); replace HO1 := Aside0.mk (Kd.R_reok rfl hy0 (fun k_ e_ => HO1.out.1 k_ e_)); replace HB := Aside0.mk (hb); (try clear hb); (try clear hkp); (try clear hy0))))
  first | go_end0 | ((try simp only [Exit.inBlock, Exit.then]); refine bodyPost_ret (results_none rfl _ _ _) rfl ?_)
  exact ⟨EE, impl_Task_found.k0 HI0.out, RQ HO1.out, impl_Task_found.k1 HB.out, impl_Task_found.k2 HK.out⟩
 rw [if_pos c6] at H
 have c6b0 : ((rd l1 t373) == s0_1) = true := beq_iff_eq.mpr c6
 have c6b1 : ((rd l1 t373) != s0_1) = false := bne_eq_false_iff_eq.mpr c6
 clear c6
 by_cases c7 : s0_0 = 1
 ·
  rw [if_pos c7] at H; have c7b0 : (s0_0 == 1) = true := beq_iff_eq.mpr c7; have c7b1 : (s0_0 != 1) = false := bne_eq_false_iff_eq.mpr c7; clear c7; replace H := Option.bind_eq_some_iff.mp H; obtain ⟨t375, A80, H⟩ := H; have A8 := Aside0.mk A80; clear A80
  by_cases c9 : 0 ≤ t375; rotate_left
  ·
   rw [if_neg c9] at H; exact absurd H (by simp)
  rw [if_pos c9] at H; have c9b0 : decide (0 ≤ t375) = true := decide_eq_true c9; clear c9
  by_cases c10 : t375 < (l1.length : Int); rotate_left
  ·
   rw [if_neg c10] at H; exact absurd H (by simp)
  rw [if_pos c10] at H; have c10b0 : decide (t375 < (l1.length : Int)) = true := decide_eq_true c10; clear c10; replace H := Option.bind_eq_some_iff.mp H; obtain ⟨⟨t377, t378, t379, t380, t381, t382, t383, t384, t385, t386, t387⟩, A110, H⟩ := H; replace H : (some (t377, t378, t379, t380, t381, t382, t383, t384, t385, t386, t387, l1)) = some (r1, r2, r3, r4, r5, r6, r7, r8, r9, r10, r11, r12) := H; have A11 := Aside0.mk A110; clear A110; simp only [Option.some.injEq, Prod.mk.injEq] at H; obtain ⟨rfl, rfl, rfl, rfl, rfl, rfl, rfl, rfl, rfl, rfl, rfl, rfl⟩ := H; obtain ⟨HGz12, hgz12⟩ := HI0.out; have hcz12_0 := cellS30_0 HGz12; have hcz12_1 := cellS30_1 HGz12; have hcz12_2 := cellS30_2 HGz12; have hcz12_3 := cellS30_3 HGz12; have hcz12_4 := cellS30_4 HGz12; have hcz12_5 := cellS30_5 HGz12; have hcz12_6 := cellS30_6 HGz12; have hcz12_7 := cellS30_7 HGz12; have hcz12_8 := cellS30_8 HGz12; have hcz12_9 := cellS30_9 HGz12; have hcz12_10 := cellS30_10 HGz12; have hfz12_0 := blk_frozen HGz12 0; have hfz12_1 := blk_frozen HGz12 1; have hfz12_2 := blk_frozen HGz12 2; have hfz12_3 := blk_frozen HGz12 3; have hfz12_4 := blk_frozen HGz12 4; have hfz12_5 := blk_frozen HGz12 5; have hfz12_6 := blk_frozen HGz12 6; have hfz12_7 := blk_frozen HGz12 7; have hfz12_8 := blk_frozen HGz12 8; have hfz12_9 := blk_frozen HGz12 9; have hfz12_10 := blk_frozen HGz12 10; clear HGz12 hgz12
  go_enter Try.func106, Try.ntmps106
  go_wp2_with (first | (go_at_call 77; (with_reducible refine (impl_keyCell.calls s0_6 t373 _ A3.out).mono ?_); rintro e w' ⟨rfl, ⟨nd, rfl⟩⟩; (try first | exact ⟨rfl, _, World.drewN_drewN _ _ _⟩ | exact ⟨rfl, _, Eq.trans (World.drewN_drewN _ _ _) (congrArg (World.drewN _) (Nat.add_assoc _ _ _))⟩); obtain ⟨Ao13, co13, eo13⟩ := Kd.R_slice HO1.out; subst eo13; have p374 : 0 ≤ (t373 : Int) := of_decide_eq_true AS; have q374 : t373 < (l1.length : Int) := of_decide_eq_true AS; obtain ⟨ad374, e374, hx374_0⟩ := Kd.at_int (Kd.R_reads' HO1.out).2.2 t373 p374 q374; cases e374; replace p374 := eq_true p374; replace q374 := eq_true q374) | (go_at_call 111; (with_reducible refine (impl_valCell.calls s0_6 t375 _ A8.out).mono ?_); rintro e w' ⟨rfl, ⟨nd, rfl⟩⟩; (try first | exact ⟨rfl, _, World.drewN_drewN _ _ _⟩ | exact ⟨rfl, _, Eq.trans (World.drewN_drewN _ _ _) (congrArg (World.drewN _) (Nat.add_assoc _ _ _))⟩); have p376 : 0 ≤ (t375 : Int) := of_decide_eq_true AS; have q376 : t375 < (l1.length : Int) := of_decide_eq_true AS; obtain ⟨ad376, e376, hx376_0⟩ := Kd.at_int (Kd.R_reads' HO1.out).2.2 t375 p376 q376; obtain rfl : ad374 = ad376 := (by injection e376); replace p376 := eq_true p376; replace q376 := eq_true q376) | (go_at_call 108; (with_reducible refine (impl_Task_done.calls g s0_0 s0_1 s0_2 s0_3 s0_4 s0_5 s0_6 s0_7 s0_8 s0_9 s0_10 (wrap64 ((rd l1 t375) + 1)) t377 t378 t379 t380 t381 t382 t383 t384 t385 t386 t387 w0 _ ?side1 ?side2 A11.out).mono ?_); (case side1 => exact impl_Task_found.k0 HI0.out); (case side2 => exact impl_Task_found.k1 HB.out); rintro e w14 ⟨rfl, hi, hb, hk⟩; replace HO1 := Aside0.mk (Kd.R_mono (Kd.R_keep (IsS30.apart (show IsS30 w0 _ g s0_0 s0_1 s0_2 s0_3 s0_4 s0_5 s0_6 s0_7 s0_8 s0_9 s0_10 from impl_Task_found.k0 HI0.out) (RQ HO1.out) (by decide)) hk (fun _ h => h.2)) (fun _ h => h.1)); replace HK := Aside0.mk (Kept.of_keep (S := (fun k_ => (P1_ k_) ∨ k_ = g)) (impl_Task_found.k2 HK.out) hk (.inl (.inr rfl))); replace HB := Aside0.mk (hb); replace HI0 := Aside0.mk (hi); (try clear hb); (try clear hb2); (try clear hk); (try clear hi)))
  repeat (go_quiet (first | (go_at_call 77; (with_reducible refine (impl_keyCell.calls s0_6 t373 _ A3.out).mono ?_); rintro e w' ⟨rfl, ⟨nd, rfl⟩⟩; (try first | exact ⟨rfl, _, World.drewN_drewN _ _ _⟩ | exact ⟨rfl, _, Eq.trans (World.drewN_drewN _ _ _) (congrArg (World.drewN _) (Nat.add_assoc _ _ _))⟩); obtain ⟨Ao13, co13, eo13⟩ := Kd.R_slice HO1.out; subst eo13; have p374 : 0 ≤ (t373 : Int) := of_decide_eq_true AS; have q374 : t373 < (l1.length : Int) := of_decide_eq_true AS; obtain ⟨ad374, e374, hx374_0⟩ := Kd.at_int (Kd.R_reads' HO1.out).2.2 t373 p374 q374; cases e374; replace p374 := eq_true p374; replace q374 := eq_true q374) | (go_at_call 111; (with_reducible refine (impl_valCell.calls s0_6 t375 _ A8.out).mono ?_); rintro e w' ⟨rfl, ⟨nd, rfl⟩⟩; (try first | exact ⟨rfl, _, World.drewN_drewN _ _ _⟩ | exact ⟨rfl, _, Eq.trans (World.drewN_drewN _ _ _) (congrArg (World.drewN _) (Nat.add_assoc _ _ _))⟩); have p376 : 0 ≤ (t375 : Int) := of_decide_eq_true AS; have q376 : t375 < (l1.length : Int) := of_decide_eq_true AS; obtain ⟨ad376, e376, hx376_0⟩ := Kd.at_int (Kd.R_reads' HO1.out).2.2 t375 p376 q376; obtain rfl : ad374 = ad376 := (by injection e376); replace p376 := eq_true p376; replace q376 := eq_true q376) | (go_at_call 108; (with_reducible refine (impl_Task_done.calls g s0_0 s0_1 s0_2 s0_3 s0_4 s0_5 s0_6 s0_7 s0_8 s0_9 s0_10 (wrap64 ((rd l1 t375) + 1)) t377 t378 t379 t380 t381 t382 t383 t384 t385 t386 t387 w0 _ ?side1 ?side2 A11.out).mono ?_); (case side1 => exact impl_Task_found.k0 HI0.out); (case side2 => exact impl_Task_found.k1 HB.out); rintro e w14 ⟨rfl, hi, hb, hk⟩; replace HO1 := Aside0.mk (Kd.R_mono (Kd.R_keep (IsS30.apart (show IsS30 w0 _ g s0_0 s0_1 s0_2 s0_3 s0_4 s0_5 s0_6 s0_7 s0_8 s0_9 s0_10 from impl_Task_found.k0 HI0.out) (RQ HO1.out) (by decide)) hk (fun _ h => h.2)) (fun _ h => h.1)); replace HK := Aside0.mk (Kept.of_keep (S := (fun k_ => (P1_ k_) ∨ k_ = g)) (impl_Task_found.k2 HK.out) hk (.inl (.inr rfl))); replace HB := Aside0.mk (hb); replace HI0 := Aside0.mk (hi); (try clear hb); (try clear hb2); (try clear hk); (try clear hi))); try go_wp2_with (first | (go_at_call 77; (with_reducible refine (impl_keyCell.calls s0_6 t373 _ A3.out).mono ?_); rintro e w' ⟨rfl, ⟨nd, rfl⟩⟩; (try first | exact ⟨rfl, _, World.drewN_drewN _ _ _⟩ | exact ⟨rfl, _, Eq.trans (World.drewN_drewN _ _ _) (congrArg (World.drewN _) (Nat.add_assoc _ _ _))⟩); obtain ⟨Ao13, co13, eo13⟩ := Kd.R_slice HO1.out; subst eo13; have p374 : 0 ≤ (t373 : Int) := of_decide_eq_true AS; have q374 : t373 < (l1.length : Int) := of_decide_eq_true AS; obtain ⟨ad374, e374, hx374_0⟩ := Kd.at_int (Kd.R_reads' HO1.out).2.2 t373 p374 q374; cases e374; replace p374 := eq_true p374; replace q374 := eq_true q374) | (go_at_call 111; (with_reducible refine (impl_valCell.calls s0_6 t375 _ A8.out).mono ?_); rintro e w' ⟨rfl, ⟨nd, rfl⟩⟩; (try first | exact ⟨rfl, _, World.drewN_drewN _ _ _⟩ | exact ⟨rfl, _, Eq.trans (World.drewN_drewN _ _ _) (congrArg (World.drewN _) (Nat.add_assoc _ _ _))⟩); have p376 : 0 ≤ (t375 : Int) := of_decide_eq_true AS; have q376 : t375 < (l1.length : Int) := of_decide_eq_true AS; obtain ⟨ad376, e376, hx376_0⟩ := Kd.at_int (Kd.R_reads' HO1.out).2.2 t375 p376 q376; obtain rfl : ad374 = ad376 := (by injection e376); replace p376 := eq_true p376; replace q376 := eq_true q376) | (go_at_call 108; (with_reducible refine (impl_Task_done.calls g s0_0 s0_1 s0_2 s0_3 s0_4 s0_5 s0_6 s0_7 s0_8 s0_9 s0_10 (wrap64 ((rd l1 t375) + 1)) t377 t378 t379 t380 t381 t382 t383 t384 t385 t386 t387 w0 _ ?side1 ?side2 A11.out).mono ?_); (case side1 => exact impl_Task_found.k0 HI0.out); (case side2 => exact impl_Task_found.k1 HB.out); rintro e w14 ⟨rfl, hi, hb, hk⟩; replace HO1 := Aside0.mk (Kd.R_mono (Kd.R_keep (IsS30.apart (show IsS30 w0 _ g s0_0 s0_1 s0_2 s0_3 s0_4 s0_5 s0_6 s0_7 s0_8 s0_9 s0_10 from impl_Task_found.k0 HI0.out) (RQ HO1.out) (by decide)) hk (fun _ h => h.2)) (fun _ h => h.1)); replace HK := Aside0.mk (Kept.of_keep (S := (fun k_ => (P1_ k_) ∨ k_ = g)) (impl_Task_found.k2 HK.out) hk (.inl (.inr rfl))); replace HB := Aside0.mk (hb); replace HI0 := Aside0.mk (hi); (try clear hb); (try clear hb2); (try clear hk); (try clear hi))))
  first | go_end0 | ((try simp only [Exit.inBlock, Exit.then]); refine bodyPost_ret (results_none rfl _ _ _) rfl ?_)
  exact ⟨EE, impl_Task_found.k0 HI0.out, RQ HO1.out, impl_Task_found.k1 HB.out, impl_Task_found.k2 HK.out⟩
 rw [if_neg c7] at H
 have c7b0 : (s0_0 == 1) = false := beq_eq_false_iff_ne.mpr c7
 have c7b1 : (s0_0 != 1) = true := bne_iff_ne.mpr c7
 by_cases c15 : s0_0 = 2; rotate_left
 ·
  rw [if_neg c15] at H; have c15b0 : (s0_0 == 2) = false := beq_eq_false_iff_ne.mpr c15; have c15b1 : (s0_0 != 2) = true := bne_iff_ne.mpr c15; simp only [Option.some.injEq, Prod.mk.injEq] at H; obtain ⟨rfl, rfl, rfl, rfl, rfl, rfl, rfl, rfl, rfl, rfl, rfl, rfl⟩ := H; obtain ⟨HGz20, hgz20⟩ := HI0.out; have hcz20_0 := cellS30_0 HGz20; have hcz20_1 := cellS30_1 HGz20; have hcz20_2 := cellS30_2 HGz20; have hcz20_3 := cellS30_3 HGz20; have hcz20_4 := cellS30_4 HGz20; have hcz20_5 := cellS30_5 HGz20; have hcz20_6 := cellS30_6 HGz20; have hcz20_7 := cellS30_7 HGz20; have hcz20_8 := cellS30_8 HGz20; have hcz20_9 := cellS30_9 HGz20; have hcz20_10 := cellS30_10 HGz20; have hfz20_0 := blk_frozen HGz20 0; have hfz20_1 := blk_frozen HGz20 1; have hfz20_2 := blk_frozen HGz20 2; have hfz20_3 := blk_frozen HGz20 3; have hfz20_4 := blk_frozen HGz20 4; have hfz20_5 := blk_frozen HGz20 5; have hfz20_6 := blk_frozen HGz20 6; have hfz20_7 := blk_frozen HGz20 7; have hfz20_8 := blk_frozen HGz20 8; have hfz20_9 := blk_frozen HGz20 9; have hfz20_10 := blk_frozen HGz20 10; clear HGz20 hgz20
  go_enter Try.func106, Try.ntmps106
  go_wp2_with (first | (go_at_call 77; (with_reducible refine (impl_keyCell.calls s0_6 t373 _ A3.out).mono ?_); rintro e w' ⟨rfl, ⟨nd, rfl⟩⟩; (try first | exact ⟨rfl, _, World.drewN_drewN _ _ _⟩ | exact ⟨rfl, _, Eq.trans (World.drewN_drewN _ _ _) (congrArg (World.drewN _) (Nat.add_assoc _ _ _))⟩); obtain ⟨Ao21, co21, eo21⟩ := Kd.R_slice HO1.out; subst eo21; have p374 : 0 ≤ (t373 : Int) := of_decide_eq_true AS; have q374 : t373 < (l1.length : Int) := of_decide_eq_true AS; obtain ⟨ad374, e374, hx374_0⟩ := Kd.at_int (Kd.R_reads' HO1.out).2.2 t373 p374 q374; cases e374; replace p374 := eq_true p374; replace q374 := eq_true q374))
  repeat (go_quiet (first | (go_at_call 77; (with_reducible refine (impl_keyCell.calls s0_6 t373 _ A3.out).mono ?_); rintro e w' ⟨rfl, ⟨nd, rfl⟩⟩; (try first | exact ⟨rfl, _, World.drewN_drewN _ _ _⟩ | exact ⟨rfl, _, Eq.trans (World.drewN_drewN _ _ _) (congrArg (World.drewN _) (Nat.add_assoc _ _ _))⟩); obtain ⟨Ao21, co21, eo21⟩ := Kd.R_slice HO1.out; subst eo21; have p374 : 0 ≤ (t373 : Int) := of_decide_eq_true AS; have q374 : t373 < (l1.length : Int) := of_decide_eq_true AS; obtain ⟨ad374, e374, hx374_0⟩ := Kd.at_int (Kd.R_reads' HO1.out).2.2 t373 p374 q374; cases e374; replace p374 := eq_true p374; replace q374 := eq_true q374)); try go_wp2_with (first | (go_at_call 77; (with_reducible refine (impl_keyCell.calls s0_6 t373 _ A3.out).mono ?_); rintro e w' ⟨rfl, ⟨nd, rfl⟩⟩; (try first | exact ⟨rfl, _, World.drewN_drewN _ _ _⟩ | exact ⟨rfl, _, Eq.trans (World.drewN_drewN _ _ _) (congrArg (World.drewN _) (Nat.add_assoc _ _ _))⟩); obtain ⟨Ao21, co21, eo21⟩ := Kd.R_slice HO1.out; subst eo21; have p374 : 0 ≤ (t373 : Int) := of_decide_eq_true AS; have q374 : t373 < (l1.length : Int) := of_decide_eq_true AS; obtain ⟨ad374, e374, hx374_0⟩ := Kd.at_int (Kd.R_reads' HO1.out).2.2 t373 p374 q374; cases e374; replace p374 := eq_true p374; replace q374 := eq_true q374)))
  first | go_end0 | ((try simp only [Exit.inBlock, Exit.then]); refine bodyPost_ret (results_none rfl _ _ _) rfl ?_)
  exact ⟨EE, impl_Task_found.k0 HI0.out, by (with_reducible repeat (first | apply r1 | apply r2 | apply r3)); exact Kd.R_mono (Kd.R_far (p := ⟨g, 4, none⟩) (IsS30.apart HI0.out HO1.out (by decide)) (fun _ hk => hk.2) (.int .i64 5)) (fun _ hk => hk.1), impl_Task_found.k1 HB.out, impl_Task_found.k2 HK.out⟩
 rw [if_pos c15] at H
 have c15b0 : (s0_0 == 2) = true := beq_iff_eq.mpr c15
 have c15b1 : (s0_0 != 2) = false := bne_eq_false_iff_eq.mpr c15
 clear c15
 replace H := Option.bind_eq_some_iff.mp H
 obtain ⟨⟨t388, t389, t390, t391, t392, t393, t394, t395, t396, t397, t398⟩, A160, H⟩ := H
 replace H : (some (t388, t389, t390, t391, t392, t393, t394, t395, t396, t397, t398, l1)) = some (r1, r2, r3, r4, r5, r6, r7, r8, r9, r10, r11, r12) := H
 have A16 := Aside0.mk A160
 clear A160
 simp only [Option.some.injEq, Prod.mk.injEq] at H
 obtain ⟨rfl, rfl, rfl, rfl, rfl, rfl, rfl, rfl, rfl, rfl, rfl, rfl⟩ := H
 obtain ⟨HGz17, hgz17⟩ := HI0.out
 have hcz17_0 := cellS30_0 HGz17
 have hcz17_1 := cellS30_1 HGz17
 have hcz17_2 := cellS30_2 HGz17
 have hcz17_3 := cellS30_3 HGz17
 have hcz17_4 := cellS30_4 HGz17
 have hcz17_5 := cellS30_5 HGz17
 have hcz17_6 := cellS30_6 HGz17
 have hcz17_7 := cellS30_7 HGz17
 have hcz17_8 := cellS30_8 HGz17
 have hcz17_9 := cellS30_9 HGz17
 have hcz17_10 := cellS30_10 HGz17
 have hfz17_0 := blk_frozen HGz17 0
 have hfz17_1 := blk_frozen HGz17 1
 have hfz17_2 := blk_frozen HGz17 2
 have hfz17_3 := blk_frozen HGz17 3
 have hfz17_4 := blk_frozen HGz17 4
 have hfz17_5 := blk_frozen HGz17 5
 have hfz17_6 := blk_frozen HGz17 6
 have hfz17_7 := blk_frozen HGz17 7
 have hfz17_8 := blk_frozen HGz17 8
 have hfz17_9 := blk_frozen HGz17 9
 have hfz17_10 := blk_frozen HGz17 10
 clear HGz17 hgz17
 go_enter Try.func106, Try.ntmps106
 go_wp2_with (first | (go_at_call 77; (with_reducible refine (impl_keyCell.calls s0_6 t373 _ A3.out).mono ?_); rintro e w' ⟨rfl, ⟨nd, rfl⟩⟩; (try first | exact ⟨rfl, _, World.drewN_drewN _ _ _⟩ | exact ⟨rfl, _, Eq.trans (World.drewN_drewN _ _ _) (congrArg (World.drewN _) (Nat.add_assoc _ _ _))⟩); obtain ⟨Ao18, co18, eo18⟩ := Kd.R_slice HO1.out; subst eo18; have p374 : 0 ≤ (t373 : Int) := of_decide_eq_true AS; have q374 : t373 < (l1.length : Int) := of_decide_eq_true AS; obtain ⟨ad374, e374, hx374_0⟩ := Kd.at_int (Kd.R_reads' HO1.out).2.2 t373 p374 q374; cases e374; replace p374 := eq_true p374; replace q374 := eq_true q374) | (go_at_call 108; (with_reducible refine (impl_Task_done.calls g s0_0 s0_1 s0_2 s0_3 s0_4 s0_5 s0_6 s0_7 s0_8 s0_9 s0_10 0 t388 t389 t390 t391 t392 t393 t394 t395 t396 t397 t398 w0 _ ?side1 ?side2 A16.out).mono ?_); (case side1 => exact impl_Task_found.k0 HI0.out); (case side2 => exact impl_Task_found.k1 HB.out); rintro e w19 ⟨rfl, hi, hb, hk⟩; replace HO1 := Aside0.mk (Kd.R_mono (Kd.R_keep (IsS30.apart (show IsS30 w0 _ g s0_0 s0_1 s0_2 s0_3 s0_4 s0_5 s0_6 s0_7 s0_8 s0_9 s0_10 from impl_Task_found.k0 HI0.out) (RQ HO1.out) (by decide)) hk (fun _ h => h.2)) (fun _ h => h.1)); replace HK := Aside0.mk (Kept.of_keep (S := (fun k_ => (P1_ k_) ∨ k_ = g)) (impl_Task_found.k2 HK.out) hk (.inl (.inr rfl))); replace HB := Aside0.mk (hb); replace HI0 := Aside0.mk (hi); (try clear hb); (try clear hb2); (try clear hk); (try clear hi)))
 repeat (go_quiet (first | (go_at_call 77; (with_reducible refine (impl_keyCell.calls s0_6 t373 _ A3.out).mono ?_); rintro e w' ⟨rfl, ⟨nd, rfl⟩⟩; (try first | exact ⟨rfl, _, World.drewN_drewN _ _ _⟩ | exact ⟨rfl, _, Eq.trans (World.drewN_drewN _ _ _) (congrArg (World.drewN _) (Nat.add_assoc _ _ _))⟩); obtain ⟨Ao18, co18, eo18⟩ := Kd.R_slice HO1.out; subst eo18; have p374 : 0 ≤ (t373 : Int) := of_decide_eq_true AS; have q374 : t373 < (l1.length : Int) := of_decide_eq_true AS; obtain ⟨ad374, e374, hx374_0⟩ := Kd.at_int (Kd.R_reads' HO1.out).2.2 t373 p374 q374; cases e374; replace p374 := eq_true p374; replace q374 := eq_true q374) | (go_at_call 108; (with_reducible refine (impl_Task_done.calls g s0_0 s0_1 s0_2 s0_3 s0_4 s0_5 s0_6 s0_7 s0_8 s0_9 s0_10 0 t388 t389 t390 t391 t392 t393 t394 t395 t396 t397 t398 w0 _ ?side1 ?side2 A16.out).mono ?_); (case side1 => exact impl_Task_found.k0 HI0.out); (case side2 => exact impl_Task_found.k1 HB.out); rintro e w19 ⟨rfl, hi, hb, hk⟩; replace HO1 := Aside0.mk (Kd.R_mono (Kd.R_keep (IsS30.apart (show IsS30 w0 _ g s0_0 s0_1 s0_2 s0_3 s0_4 s0_5 s0_6 s0_7 s0_8 s0_9 s0_10 from impl_Task_found.k0 HI0.out) (RQ HO1.out) (by decide)) hk (fun _ h => h.2)) (fun _ h => h.1)); replace HK := Aside0.mk (Kept.of_keep (S := (fun k_ => (P1_ k_) ∨ k_ = g)) (impl_Task_found.k2 HK.out) hk (.inl (.inr rfl))); replace HB := Aside0.mk (hb); replace HI0 := Aside0.mk (hi); (try clear hb); (try clear hb2); (try clear hk); (try clear hi))); try go_wp2_with (first | (go_at_call 77; (with_reducible refine (impl_keyCell.calls s0_6 t373 _ A3.out).mono ?_); rintro e w' ⟨rfl, ⟨nd, rfl⟩⟩; (try first | exact ⟨rfl, _, World.drewN_drewN _ _ _⟩ | exact ⟨rfl, _, Eq.trans (World.drewN_drewN _ _ _) (congrArg (World.drewN _) (Nat.add_assoc _ _ _))⟩); obtain ⟨Ao18, co18, eo18⟩ := Kd.R_slice HO1.out; subst eo18; have p374 : 0 ≤ (t373 : Int) := of_decide_eq_true AS; have q374 : t373 < (l1.length : Int) := of_decide_eq_true AS; obtain ⟨ad374, e374, hx374_0⟩ := Kd.at_int (Kd.R_reads' HO1.out).2.2 t373 p374 q374; cases e374; replace p374 := eq_true p374; replace q374 := eq_true q374) | (go_at_call 108; (with_reducible refine (impl_Task_done.calls g s0_0 s0_1 s0_2 s0_3 s0_4 s0_5 s0_6 s0_7 s0_8 s0_9 s0_10 0 t388 t389 t390 t391 t392 t393 t394 t395 t396 t397 t398 w0 _ ?side1 ?side2 A16.out).mono ?_); (case side1 => exact impl_Task_found.k0 HI0.out); (case side2 => exact impl_Task_found.k1 HB.out); rintro e w19 ⟨rfl, hi, hb, hk⟩; replace HO1 := Aside0.mk (Kd.R_mono (Kd.R_keep (IsS30.apart (show IsS30 w0 _ g s0_0 s0_1 s0_2 s0_3 s0_4 s0_5 s0_6 s0_7 s0_8 s0_9 s0_10 from impl_Task_found.k0 HI0.out) (RQ HO1.out) (by decide)) hk (fun _ h => h.2)) (fun _ h => h.1)); replace HK := Aside0.mk (Kept.of_keep (S := (fun k_ => (P1_ k_) ∨ k_ = g)) (impl_Task_found.k2 HK.out) hk (.inl (.inr rfl))); replace HB := Aside0.mk (hb); replace HI0 := Aside0.mk (hi); (try clear hb); (try clear hb2); (try clear hk); (try clear hi))))
 first | go_end0 | ((try simp only [Exit.inBlock, Exit.then]); refine bodyPost_ret (results_none rfl _ _ _) rfl ?_)
 exact ⟨EE, impl_Task_found.k0 HI0.out, RQ HO1.out, impl_Task_found.k1 HB.out, impl_Task_found.k2 HK.out⟩

/-! ### impl_swapWord: function 107 -/
def impl_swapWord.f (l0 : List Int) (a1 : Int) (a2 : Int) (a3 : Int) : Option (Bool × List Int) := (impl_wordCell.f a1).bind fun t411 => (if 0 ≤ t411 then (if t411 < (l0.length : Int) then (if (rd l0 t411) = a2 then (some (true, (l0.set (t411 : Int).toNat a3))) else (some (false, l0))) else (none)) else (none))
set_option maxHeartbeats 8000000 in
set_option maxRecDepth 100000 in
theorem impl_swapWord.calls (P0_ : Nat → Prop) (u9000_ : Value) (l0 : List Int) (a1 : Int) (a2 : Int) (a3 : Int) (r1 : Bool) (r2 : List Int) (w0 w : World) (hB : Below w0.heap.size w0 w) (ho0 : Kd.R (Kd.int .i64) 3 w w0.heap.size P0_ u9000_ l0) (h : impl_swapWord.f l0 a1 a2 a3 = some (r1, r2)) :
  Calls Try.prog 107 #[u9000_, .int .i64 a1, .int .i64 a2, .int .i64 a3] w fun e w' => e = .returned (.bool r1) ∧ Kd.R (Kd.int .i64) 3 w' w0.heap.size (fun k_ => (P0_ k_ ∨ w.heap.size ≤ k_)) u9000_ r2 ∧ Below w0.heap.size w0 w' ∧ Kept w w' (fun k_ => P0_ k_) := by
 have HO0 := Aside0.mk (show Kd.R (Kd.int .i64) 3 w w0.heap.size (fun k_ => (P0_ k_ ∨ w.heap.size ≤ k_)) u9000_ l0 from Kd.R_mono ho0 (fun k_ hk => (.inl hk)))
 have HK := Aside0.mk (Kept.refl w (fun k_ => P0_ k_))
 have HW0 := Aside0.mk hB.size
 have HB := Aside0.mk hB
 clear hB
 obtain ⟨wv, hwv⟩ : ∃ wv : World, wv = w := ⟨w, rfl⟩
 replace HO0 : Aside0 (Kd.R (Kd.int .i64) 3 w w0.heap.size (fun k_ => (P0_ k_ ∨ wv.heap.size ≤ k_)) u9000_ l0) := by rw [hwv]; exact HO0
 replace HK : Aside0 (Kept wv w (fun k_ => P0_ k_)) := by rw [hwv]; exact HK
 suffices hs_ : Calls Try.prog 107 #[u9000_, .int .i64 a1, .int .i64 a2, .int .i64 a3] w fun e w' => e = .returned (.bool r1) ∧ Kd.R (Kd.int .i64) 3 w' w0.heap.size (fun k_ => (P0_ k_ ∨ wv.heap.size ≤ k_)) u9000_ r2 ∧ Below w0.heap.size w0 w' ∧ Kept wv w' (fun k_ => P0_ k_) by rw [hwv] at hs_; exact hs_
 clear hwv
 have H : ((impl_wordCell.f a1).bind fun t411 => (if 0 ≤ t411 then (if t411 < (l0.length : Int) then (if (rd l0 t411) = a2 then (some (true, (l0.set (t411 : Int).toNat a3))) else (some (false, l0))) else (none)) else (none))) = some (r1, r2) := h
 clear h
 replace H := Option.bind_eq_some_iff.mp H
 obtain ⟨t411, A50, H⟩ := H
 have A5 := Aside0.mk A50
 clear A50
 by_cases c6 : 0 ≤ t411; rotate_left
 ·
  rw [if_neg c6] at H; exact absurd H (by simp)
 rw [if_pos c6] at H
 have c6b0 : decide (0 ≤ t411) = true := decide_eq_true c6
 clear c6
 by_cases c7 : t411 < (l0.length : Int); rotate_left
 ·
  rw [if_neg c7] at H; exact absurd H (by simp)
 rw [if_pos c7] at H
 have c7b0 : decide (t411 < (l0.length : Int)) = true := decide_eq_true c7
 clear c7
 by_cases c8 : (rd l0 t411) = a2; rotate_left
 ·
  rw [if_neg c8] at H; have c8b0 : ((rd l0 t411) == a2) = false := beq_eq_false_iff_ne.mpr c8; have c8b1 : ((rd l0 t411) != a2) = true := bne_iff_ne.mpr c8; simp only [Option.some.injEq, Prod.mk.injEq] at H; obtain ⟨rfl, rfl⟩ := H
  go_enter Try.func107, Try.ntmps107
  go_wp2_with (first | ((with_reducible refine gate_callee (f := 94) rfl ?_); refine goesL_ (some 11) rfl rfl Try.func94 (by kernel_rfl) rfl #[.int .i64 a1] rfl (MA) ?_; (with_reducible refine (impl_wordCell.calls a1 t411 _ A5.out).mono ?_); rintro e w' ⟨rfl, ⟨nd, rfl⟩⟩; refine ⟨_, rfl, ?_⟩; obtain ⟨Ao13, co13, eo13⟩ := Kd.R_slice HO0.out; subst eo13; have p412 : 0 ≤ (t411 : Int) := of_decide_eq_true AS; have q412 : t411 < (l0.length : Int) := of_decide_eq_true AS; obtain ⟨ad412, e412, hx412_0⟩ := Kd.at_int (Kd.R_reads' HO0.out).2.2 t411 p412 q412; cases e412; replace p412 := eq_true p412; replace q412 := eq_true q412))
  go_ret
  exact ⟨EE, RQ HO0.out, BL, KL⟩
 rw [if_pos c8] at H
 have c8b0 : ((rd l0 t411) == a2) = true := beq_iff_eq.mpr c8
 have c8b1 : ((rd l0 t411) != a2) = false := bne_eq_false_iff_eq.mpr c8
 clear c8
 obtain ⟨y413, hy413⟩ : ∃ y_ : List Int, y_ = (l0.set (t411 : Int).toNat a3) := ⟨_, rfl⟩
 replace H : (some (true, y413)) = some (r1, r2) := by first | (rw [hy413]; with_reducible exact H) | (have H2_ := (Option.bind_some _ _).symm.trans H; rw [hy413]; with_reducible exact H2_) | (have H2_ := (Option.bind_some _ _).symm.trans H; with_reducible exact H2_) | with_reducible exact H | (rw [hy413]; exact H) | exact H
 have Ny413 := Aside0.mk hy413
 clear hy413
 simp only [Option.some.injEq, Prod.mk.injEq] at H
 obtain ⟨rfl, rfl⟩ := H
 go_enter Try.func107, Try.ntmps107
 go_wp2_with (first | ((with_reducible refine gate_callee (f := 94) rfl ?_); refine goesL_ (some 11) rfl rfl Try.func94 (by kernel_rfl) rfl #[.int .i64 a1] rfl (MA) ?_; (with_reducible refine (impl_wordCell.calls a1 t411 _ A5.out).mono ?_); rintro e w' ⟨rfl, ⟨nd, rfl⟩⟩; refine ⟨_, rfl, ?_⟩; (try (rw [drewN_self w]; generalize hq_ : World.drewN w _ = w; have n0_ : Aside0 (Kd.R (Kd.int .i64) 3 w w0.heap.size (fun k_ => (P0_ k_ ∨ wv.heap.size ≤ k_)) u9000_ l0) := ⟨by rw [← hq_]; exact (RQ HO0.out)⟩; have n1_ : Aside0 (Kept wv w (fun k_ => P0_ k_)) := ⟨by rw [← hq_]; exact (KL)⟩; have n2_ : Aside0 (Below w0.heap.size w0 w) := ⟨by rw [← hq_]; exact (BL)⟩; clear HO0 HK HB hq_; have HO0 := n0_; have HK := n1_; have HB := n2_; clear n0_ n1_ n2_)); obtain ⟨Ao10, co10, eo10⟩ := Kd.R_slice HO0.out; subst eo10; have p412 : 0 ≤ (t411 : Int) := of_decide_eq_true AS; have q412 : t411 < (l0.length : Int) := of_decide_eq_true AS; obtain ⟨ad412, e412, hx412_0⟩ := Kd.at_int (Kd.R_reads' HO0.out).2.2 t411 p412 q412; cases e412; replace p412 := eq_true p412; replace q412 := eq_true q412; have p9 : 0 ≤ (t411 : Int) := of_decide_eq_true AS; have q9 : (t411 : Int) < ((l0.length : Int) : Int) := of_decide_eq_true AS; obtain ⟨go9, co9, eo9, gb9, gl9, cl9, HG9⟩ := Kd.R_form HO0.out (by omega); (first | cases eo9 | (injection eo9 with ea_ en_ ec_; (first | subst ea_ | (injection ea_ with ea_; subst ea_)); subst ec_; clear en_)); have GB9 := Aside0.mk gb9; have GG9 := Aside0.mk HG9; clear gb9 gl9 HG9; have HMgo9 := Aside0.mk (show (P0_ go9 ∨ wv.heap.size ≤ go9) from (HO0.out.1 _ rfl)); (first | simp only [add_plain] at hx412_0 | skip); obtain ⟨hx9_0, hf9_0⟩ := Kd.R_celln 0 HO0.out (t411 : Int) p9 q9; replace p9 := eq_true p9; replace q9 := eq_true q9; obtain ⟨hy11_, hz11_⟩ := Kd.R_celln 0 HO0.out (t411 : Int) (of_decide_eq_true AS) (of_decide_eq_true AS); have HP11 := Kd.R_putg HO0.out (t411 : Int) a3) | ((with_reducible refine gate_store (t := 3) (p := 21) rfl ?_); refine store_event (t := 3) (p := 21) (v := ?vo_w12) (w1 := (w.setCell ⟨go9, (t411 : Int).toNat, none⟩ (.int .i64 a3))) ?hg ?ho ?hn ?hr ?_; (case ho => rfl); (case hg => rfl); (case hn => rfl); (case hr => first | (go_simp; done) | (go_simp; rfl)); intro w12 hw; have hg : w.grownBy w12 (some go9) := (by rw [hw]; exact HP11.2); have hp_ : Kd.R (Kd.int .i64) 3 w12 w0.heap.size (fun k_ => (P0_ k_ ∨ wv.heap.size ≤ k_)) (.slice (some ⟨go9, 0, none⟩) l0.length co10) y413 := (by rw [hw, Ny413.out]; exact HP11.1); clear HP11; replace HK := Aside0.mk (Kept.of_grown (S := (fun k_ => P0_ k_)) hg (KL) (fun k_ e_ => (HO0.out.1 k_ e_))); replace HO0 := Aside0.mk (hp_); replace HB := Aside0.mk ((by rw [hw]; exact below_set (HB.out) GB9.out : Below w0.heap.size w0 w12)); clear hg hw hp_))
 go_ret
 exact ⟨EE, RQ HO0.out, BL, KL⟩

/-! ### impl_nodeOf: function 93 -/
def impl_nodeOf.f (a0 : Int) : Option (Int) := (impl_within.f (a0 / 2) 1 20).bind fun t414 => (if t414 = true then (some (a0 / 2)) else (some 0))
set_option maxHeartbeats 8000000 in
set_option maxRecDepth 100000 in
theorem impl_nodeOf.calls (a0 : Int) (r : Int) (w : World) (h : impl_nodeOf.f a0 = some r) :
  Calls Try.prog 93 #[.int .i64 a0] w fun e w' => e = .returned (.int .i64 r) ∧ Drawn0 w w' := by
 have H : ((impl_within.f (a0 / 2) 1 20).bind fun t414 => (if t414 = true then (some (a0 / 2)) else (some 0))) = some r := h
 clear h
 replace H := Option.bind_eq_some_iff.mp H
 obtain ⟨t414, A20, H⟩ := H
 have A2 := Aside0.mk A20
 clear A20
 by_cases c3 : t414 = true
 ·
  subst c3
  have H1 : (some (a0 / 2)) = some r := by rw [if_pos rfl] at H; exact H
  clear H; have H := H1; clear H1; obtain rfl := Option.some.inj H
  go_enter Try.func93, Try.ntmps93
  go_wp2_with (first | ((with_reducible refine gate_callee (f := 89) rfl ?_); refine goesL_ (some 7) rfl rfl Try.func89 (by kernel_rfl) rfl #[.int .i64 (a0 / 2), .int .i64 1, .int .i64 20] rfl (MA) ?_; (with_reducible refine (impl_within.calls (a0 / 2) 1 20 true _ A2.out).mono ?_); rintro e w' ⟨rfl, ⟨nd, rfl⟩⟩; refine ⟨_, rfl, ?_⟩))
  go_ret
  exact ⟨by first | rfl | (simp; done) | (simp [*]; done), by repeat (first | exact Drawn0.refl _ | apply Drawn0.step)⟩
 replace c3 := Bool.eq_false_iff.mpr c3
 subst c3
 have H1 : (some 0) = some r := by rw [if_neg (show ¬ (false = true) by decide)] at H; exact H
 clear H
 have H := H1
 clear H1
 obtain rfl := Option.some.inj H
 go_enter Try.func93, Try.ntmps93
 go_wp2_with (first | ((with_reducible refine gate_callee (f := 89) rfl ?_); refine goesL_ (some 7) rfl rfl Try.func89 (by kernel_rfl) rfl #[.int .i64 (a0 / 2), .int .i64 1, .int .i64 20] rfl (MA) ?_; (with_reducible refine (impl_within.calls (a0 / 2) 1 20 false _ A2.out).mono ?_); rintro e w' ⟨rfl, ⟨nd, rfl⟩⟩; refine ⟨_, rfl, ?_⟩))
 go_ret
 exact ⟨by first | rfl | (simp; done) | (simp [*]; done), by repeat (first | exact Drawn0.refl _ | apply Drawn0.step)⟩

/-! ### impl_Task_walk: function 109 -/
def impl_Task_walk.j0 : Nat → List Int → Bool → Int → Int → Int → Int → Int → Int → Int → Int → Int → Bool → Int → Option (Int × Int × Int × Int × Int × Int × Int × Int × Int × Bool × Int × List Int)
 | 0, _, _, _, _, _, _, _, _, _, _, _, _, _ => none
 | k + 1, x1, x27, x1000, x1001, x1002, x1003, x1004, x1005, x1006, x1007, x1008, x1009, x1010 => if x27 = true then ((impl_Task_nobody.f x1000 x1001 x1002 x1003 x1004 x1005 x1006 x1007 x1008 x1009 x1010 x1).bind fun bt417 => (some (bt417.1, bt417.2.1, bt417.2.2.1, bt417.2.2.2.1, bt417.2.2.2.2.1, bt417.2.2.2.2.2.1, bt417.2.2.2.2.2.2.1, bt417.2.2.2.2.2.2.2.1, bt417.2.2.2.2.2.2.2.2.1, bt417.2.2.2.2.2.2.2.2.2.1, bt417.2.2.2.2.2.2.2.2.2.2.1, bt417.2.2.2.2.2.2.2.2.2.2.2))) else (if x1004 = 1 then ((impl_wordCell.f x1006).bind fun t429 => (if 0 ≤ t429 then (if t429 < (x1.length : Int) then ((impl_nodeOf.f (rd x1 t429)).bind fun t431 => (some (x1000, x1001, x1002, x1003, 2, x1005, x1006, t431, Go.bits .and .i64 (rd x1 t429) 1, x1009, x1010, x1))) else (none)) else (none))) else (if x1008 = 1 then ((impl_swapWord.f x1 x1005 (wrap64 (2 * x1006)) (wrap64 (2 * x1007))).bind fun bt432 => (if bt432.1 = true then (some (x1000, x1001, x1002, x1003, 1, x1005, x1007, x1007, x1008, x1009, x1010, bt432.2)) else (some (x1000, x1001, x1002, x1003, 0, x1005, x1006, x1007, x1008, x1009, x1010, bt432.2)))) else ((impl_keyCell.f x1006).bind fun t434 => (if 0 ≤ t434 then (if t434 < (x1.length : Int) then (if (rd x1 t434) < x1001 then (some (x1000, x1001, x1002, x1003, 1, x1006, x1007, x1007, x1008, x1009, x1010, x1)) else (some (x1000, x1001, x1002, x1003, 3, x1005, x1006, x1007, x1008, x1009, x1010, x1))) else (none)) else (none)))))
def impl_Task_walk.f (k : Nat) (s0_0 : Int) (s0_1 : Int) (s0_2 : Int) (s0_3 : Int) (s0_4 : Int) (s0_5 : Int) (s0_6 : Int) (s0_7 : Int) (s0_8 : Int) (s0_9 : Bool) (s0_10 : Int) (l1 : List Int) : Option (Int × Int × Int × Int × Int × Int × Int × Int × Int × Bool × Int × List Int) := if s0_4 = 0 then (if 0 < (l1.length : Int) then ((impl_nodeOf.f (rd l1 0)).bind fun t416 => (some (s0_0, s0_1, s0_2, s0_3, 1, 0, t416, s0_7, s0_8, s0_9, s0_10, l1))) else (none)) else (if s0_4 = 1 then (impl_Task_walk.j0 k l1 (s0_6 == 0) s0_0 s0_1 s0_2 s0_3 s0_4 s0_5 s0_6 s0_7 s0_8 s0_9 s0_10) else (impl_Task_walk.j0 k l1 false s0_0 s0_1 s0_2 s0_3 s0_4 s0_5 s0_6 s0_7 s0_8 s0_9 s0_10))
def impl_Task_walk.T9 : Bool × List (List Nat × List Nat) := (true, [([], []), ([], []), ([1], [1]), ([2], [2]), ([3], [3]), ([], []), ([5], [5]), ([6], [6]), ([7], [7]), ([8], [8]), ([], []), ([10], [10]), ([11], [11]), ([12], [12]), ([13], [13]), ([0, 4, 9, 14], [0, 4, 9, 14])])
def impl_Task_walk.B9 : List Nat := [0, 0, 2, 6, 14, 0, 32, 96, 224, 480, 0, 1024, 3072, 7168, 15360, 32767]
theorem impl_Task_walk.tab9 : rtab .any (opsOf Try.f109 9) = impl_Task_walk.T9 := by kernel_rfl
theorem impl_Task_walk.bits9 : waitsOk impl_Task_walk.T9.2 impl_Task_walk.B9 = true := by kernel_rfl
def impl_Task_walk.T12 : Bool × List (List Nat × List Nat) := (true, [([], []), ([], []), ([1], [1]), ([2], [2]), ([3], [3]), ([4], [4]), ([0, 5], [0, 5]), ([6], [6]), ([], []), ([8], [8]), ([9], [9]), ([10], [10]), ([7, 11], [7, 11]), ([12, 5], [12])])
def impl_Task_walk.B12 : List Nat := [0, 0, 2, 6, 14, 30, 63, 127, 0, 256, 768, 1792, 4095, 8191]
theorem impl_Task_walk.tab12 : rtab .any (opsOf Try.f109 12) = impl_Task_walk.T12 := by kernel_rfl
theorem impl_Task_walk.bits12 : waitsOk impl_Task_walk.T12.2 impl_Task_walk.B12 = true := by kernel_rfl
def impl_Task_walk.T13 : Bool × List (List Nat × List Nat) := (true, [([], []), ([], []), ([], []), ([], []), ([3], [3]), ([4], [4]), ([5], [5]), ([], []), ([7], [7]), ([8], [8]), ([9], [9]), ([0, 0, 3, 4, 5, 6, 10], [0]), ([11, 0, 3, 4, 5, 6, 10], [11]), ([12, 6, 0, 3, 4, 5, 6, 10], [6, 12]), ([1, 0, 1, 3, 4, 5, 6, 7, 8, 9, 10, 11, 12, 13], [1]), ([14, 0, 1, 3, 4, 5, 6, 7, 8, 9, 10, 11, 12, 13], [14]), ([15, 10, 13, 0, 1, 3, 4, 5, 6, 7, 8, 9, 10, 11, 12, 13], [10, 15]), ([2, 0, 1, 2, 3, 4, 5, 6, 7, 8, 9, 10, 11, 12, 13, 14, 15, 16], [2]), ([17, 0, 1, 2, 3, 4, 5, 6, 7, 8, 9, 10, 11, 12, 13, 14, 15, 16], [17]), ([18, 16, 0, 1, 2, 3, 4, 5, 6, 7, 8, 9, 10, 11, 12, 13, 14, 15, 16], [18])])
def impl_Task_walk.B13 : List Nat := [0, 0, 0, 0, 8, 24, 56, 0, 128, 384, 896, 2041, 4089, 8185, 16379, 32763, 65531, 131071, 262143, 524287]
theorem impl_Task_walk.tab13 : rtab .any (opsOf Try.f109 13) = impl_Task_walk.T13 := by kernel_rfl
theorem impl_Task_walk.bits13 : waitsOk impl_Task_walk.T13.2 impl_Task_walk.B13 = true := by kernel_rfl
theorem impl_Task_walk.k0 {p q : Prop} (h : q) (k : q → p := by intro h_; repeat (first | (with_reducible first | exact h_ | apply IsS30.alloc | apply IsS30.drewN | apply IsS30.drew | apply IsS30.set_0 | apply IsS30.set_1 | apply IsS30.set_2 | apply IsS30.set_3 | apply IsS30.set_4 | apply IsS30.set_5 | apply IsS30.set_6 | apply IsS30.set_7 | apply IsS30.set_8 | apply IsS30.set_9 | apply IsS30.set_10) | exact h_)) : p := k h
theorem impl_Task_walk.k1 {p q : Prop} (h : q) (k : q → p := by intro h_; repeat (first | (with_reducible first | exact h_ | apply Kept.alloc | apply Kept.drewN | apply Kept.drew | refine Kept.setCell ?_ (.inl (.inr rfl)) _) | exact h_)) : p := k h
theorem impl_Task_walk.k2 {p q : Prop} (h : q) (k : q → p := by intro h_; repeat (first | (with_reducible first | exact h_ | apply below_alloc | apply pw_below_drewN | apply below_drew1 | refine below_set ?_ (IsS30.ge HI0.out)) | exact h_)) : p := k h
set_option maxHeartbeats 8000000 in
set_option maxRecDepth 100000 in
theorem impl_Task_walk.calls (k : Nat) (g : Nat) (s0_0 : Int) (s0_1 : Int) (s0_2 : Int) (s0_3 : Int) (s0_4 : Int) (s0_5 : Int) (s0_6 : Int) (s0_7 : Int) (s0_8 : Int) (s0_9 : Bool) (s0_10 : Int) (P1_ : Nat → Prop) (u9000_ : Value) (l1 : List Int) (r1 : Int) (r2 : Int) (r3 : Int) (r4 : Int) (r5 : Int) (r6 : Int) (r7 : Int) (r8 : Int) (r9 : Int) (r10 : Bool) (r11 : Int) (r12 : List Int) (w0 w : World) (hI : IsS30 w0 w g s0_0 s0_1 s0_2 s0_3 s0_4 s0_5 s0_6 s0_7 s0_8 s0_9 s0_10) (hB : Below w0.heap.size w0 w) (ho1 : Kd.R (Kd.int .i64) 3 w w0.heap.size P1_ u9000_ l1) (h : impl_Task_walk.f k s0_0 s0_1 s0_2 s0_3 s0_4 s0_5 s0_6 s0_7 s0_8 s0_9 s0_10 l1 = some (r1, r2, r3, r4, r5, r6, r7, r8, r9, r10, r11, r12)) :
  Calls Try.prog 109 #[.pointer (some ⟨g, 0, none⟩), u9000_] w fun e w' => e = .returned (.tuple #[]) ∧ IsS30 w0 w' g r1 r2 r3 r4 r5 r6 r7 r8 r9 r10 r11 ∧ Kd.R (Kd.int .i64) 3 w' w0.heap.size (fun k_ => (P1_ k_ ∨ w.heap.size ≤ k_)) u9000_ r12 ∧ Below w0.heap.size w0 w' ∧ Kept w w' (fun k_ => (P1_ k_) ∨ k_ = g) := by
 have HO1 := Aside0.mk (show Kd.R (Kd.int .i64) 3 w w0.heap.size (fun k_ => (P1_ k_ ∨ w.heap.size ≤ k_)) u9000_ l1 from Kd.R_mono ho1 (fun k_ hk => (.inl hk)))
 have HI0 := Aside0.mk hI
 have HL := Aside0.mk hB.size
 clear hI
 have HK := Aside0.mk (Kept.refl w (fun k_ => (P1_ k_) ∨ k_ = g))
 have HW0 := Aside0.mk hB.size
 have HB := Aside0.mk hB
 clear hB
 obtain ⟨wv, hwv⟩ : ∃ wv : World, wv = w := ⟨w, rfl⟩
 replace HO1 : Aside0 (Kd.R (Kd.int .i64) 3 w w0.heap.size (fun k_ => (P1_ k_ ∨ wv.heap.size ≤ k_)) u9000_ l1) := by rw [hwv]; exact HO1
 replace HK : Aside0 (Kept wv w (fun k_ => (P1_ k_) ∨ k_ = g)) := by rw [hwv]; exact HK
 suffices hs_ : Calls Try.prog 109 #[.pointer (some ⟨g, 0, none⟩), u9000_] w fun e w' => e = .returned (.tuple #[]) ∧ IsS30 w0 w' g r1 r2 r3 r4 r5 r6 r7 r8 r9 r10 r11 ∧ Kd.R (Kd.int .i64) 3 w' w0.heap.size (fun k_ => (P1_ k_ ∨ wv.heap.size ≤ k_)) u9000_ r12 ∧ Below w0.heap.size w0 w' ∧ Kept wv w' (fun k_ => (P1_ k_) ∨ k_ = g) by rw [hwv] at hs_; exact hs_
 clear hwv
 have H : (if s0_4 = 0 then (if 0 < (l1.length : Int) then ((impl_nodeOf.f (rd l1 0)).bind fun t416 => (some (s0_0, s0_1, s0_2, s0_3, 1, 0, t416, s0_7, s0_8, s0_9, s0_10, l1))) else (none)) else (if s0_4 = 1 then (impl_Task_walk.j0 k l1 (s0_6 == 0) s0_0 s0_1 s0_2 s0_3 s0_4 s0_5 s0_6 s0_7 s0_8 s0_9 s0_10) else (impl_Task_walk.j0 k l1 false s0_0 s0_1 s0_2 s0_3 s0_4 s0_5 s0_6 s0_7 s0_8 s0_9 s0_10))) = some (r1, r2, r3, r4, r5, r6, r7, r8, r9, r10, r11, r12) := h
 clear h
 by_cases c3 : s0_4 = 0
 ·
  rw [if_pos c3] at H; have c3b0 : (s0_4 == 0) = true := beq_iff_eq.mpr c3; have c3b1 : (s0_4 != 0) = false := bne_eq_false_iff_eq.mpr c3; clear c3
  by_cases c4 : 0 < (l1.length : Int); rotate_left
  ·
   rw [if_neg c4] at H; exact absurd H (by simp)
  rw [if_pos c4] at H; have c4b0 : decide (0 < (l1.length : Int)) = true := decide_eq_true c4; have c4b1 : decide (0 < l1.length) = true := decide_eq_true (by omega); clear c4; replace H := Option.bind_eq_some_iff.mp H; obtain ⟨t416, A50, H⟩ := H; have A5 := Aside0.mk A50; clear A50; simp only [Option.some.injEq, Prod.mk.injEq] at H; obtain ⟨rfl, rfl, rfl, rfl, rfl, rfl, rfl, rfl, rfl, rfl, rfl, rfl⟩ := H; obtain ⟨HGz6, hgz6⟩ := HI0.out; have hcz6_0 := cellS30_0 HGz6; have hcz6_1 := cellS30_1 HGz6; have hcz6_2 := cellS30_2 HGz6; have hcz6_3 := cellS30_3 HGz6; have hcz6_4 := cellS30_4 HGz6; have hcz6_5 := cellS30_5 HGz6; have hcz6_6 := cellS30_6 HGz6; have hcz6_7 := cellS30_7 HGz6; have hcz6_8 := cellS30_8 HGz6; have hcz6_9 := cellS30_9 HGz6; have hcz6_10 := cellS30_10 HGz6; have hfz6_0 := blk_frozen HGz6 0; have hfz6_1 := blk_frozen HGz6 1; have hfz6_2 := blk_frozen HGz6 2; have hfz6_3 := blk_frozen HGz6 3; have hfz6_4 := blk_frozen HGz6 4; have hfz6_5 := blk_frozen HGz6 5; have hfz6_6 := blk_frozen HGz6 6; have hfz6_7 := blk_frozen HGz6 7; have hfz6_8 := blk_frozen HGz6 8; have hfz6_9 := blk_frozen HGz6 9; have hfz6_10 := blk_frozen HGz6 10; clear HGz6 hgz6; obtain ⟨Ao7, co7, eo7⟩ := Kd.R_slice HO1.out; subst eo7; have p415 : 0 ≤ (0 : Int) := (by omega); have q415 : 0 < (l1.length : Int) := of_decide_eq_true AS; obtain ⟨ad415, e415, hx415_0⟩ := Kd.at_int (Kd.R_reads' HO1.out).2.2 0 p415 q415; cases e415; have qi415 : (0 < l1.length) = True := eq_true (by omega)
  (try rw [show ((0 : Int)).toNat = 0 from rfl] at hx415_0)
  (try rw [Addr.add_zero'] at hx415_0)
  replace p415 := eq_true p415; replace q415 := eq_true q415
  go_enter Try.func109, Try.ntmps109
  go_wp2_with (first | ((with_reducible refine gate_callee (f := 93) rfl ?_); refine goesL_ (some 20) rfl rfl Try.func93 (by kernel_rfl) rfl #[.int .i64 (rd l1 0)] rfl (MA) ?_; (with_reducible refine (impl_nodeOf.calls (rd l1 0) t416 _ A5.out).mono ?_); rintro e w' ⟨rfl, ⟨nd, rfl⟩⟩; refine ⟨_, rfl, ?_⟩; (try (rw [drewN_self w]; generalize hq_ : World.drewN w _ = w; have n0_ : Aside0 (Kd.R (Kd.int .i64) 3 w w0.heap.size (fun k_ => (P1_ k_ ∨ wv.heap.size ≤ k_)) (.slice (some ad415) l1.length co7) l1) := ⟨by rw [← hq_]; exact (RQ HO1.out)⟩; have n1_ : Aside0 (IsS30 w0 w g s0_0 s0_1 s0_2 s0_3 s0_4 s0_5 s0_6 s0_7 s0_8 s0_9 s0_10) := ⟨by rw [← hq_]; exact (impl_Task_walk.k0 HI0.out)⟩; have n2_ : Aside0 (Kept wv w (fun k_ => (P1_ k_) ∨ k_ = g)) := ⟨by rw [← hq_]; exact (impl_Task_walk.k1 HK.out)⟩; have n3_ : Aside0 (Below w0.heap.size w0 w) := ⟨by rw [← hq_]; exact (impl_Task_walk.k2 HB.out)⟩; clear HO1 HI0 HK HB hq_; have HO1 := n0_; have HI0 := n1_; have HK := n2_; have HB := n3_; clear n0_ n1_ n2_ n3_; have HGz_ := (HI0.out).1; have hcq0_ := cellS30_0 HGz_; have hfq0_ := blk_frozen HGz_ 0; have hcq1_ := cellS30_1 HGz_; have hfq1_ := blk_frozen HGz_ 1; have hcq2_ := cellS30_2 HGz_; have hfq2_ := blk_frozen HGz_ 2; have hcq3_ := cellS30_3 HGz_; have hfq3_ := blk_frozen HGz_ 3; have hcq4_ := cellS30_4 HGz_; have hfq4_ := blk_frozen HGz_ 4; have hcq5_ := cellS30_5 HGz_; have hfq5_ := blk_frozen HGz_ 5; have hcq6_ := cellS30_6 HGz_; have hfq6_ := blk_frozen HGz_ 6; have hcq7_ := cellS30_7 HGz_; have hfq7_ := blk_frozen HGz_ 7; have hcq8_ := cellS30_8 HGz_; have hfq8_ := blk_frozen HGz_ 8; have hcq9_ := cellS30_9 HGz_; have hfq9_ := blk_frozen HGz_ 9; have hcq10_ := cellS30_10 HGz_; have hfq10_ := blk_frozen HGz_ 10; clear HGz_))))
  first | go_end0 | ((try simp only [Exit.inBlock, Exit.then]); refine bodyPost_ret (results_none rfl _ _ _) rfl ?_)
  exact ⟨EE, impl_Task_walk.k0 HI0.out, by (with_reducible repeat (first | apply r1 | apply r2 | apply r3)); exact Kd.R_mono (Kd.R_far (p := ⟨g, 4, none⟩) (Kd.R_far (p := ⟨g, 6, none⟩) (Kd.R_far (p := ⟨g, 5, none⟩) (IsS30.apart HI0.out HO1.out (by decide)) (fun _ hk => hk.2) (.int .i64 0)) (fun _ hk => hk.2) (.int .i64 t416)) (fun _ hk => hk.2) (.int .i64 1)) (fun _ hk => hk.1), impl_Task_walk.k2 HB.out, impl_Task_walk.k1 HK.out⟩
 rw [if_neg c3] at H
 have c3b0 : (s0_4 == 0) = false := beq_eq_false_iff_ne.mpr c3
 have c3b1 : (s0_4 != 0) = true := bne_iff_ne.mpr c3
 have HC8 := Aside0.mk H
 clear H
 obtain ⟨HGz9, hgz9⟩ := HI0.out
 have hcz9_0 := cellS30_0 HGz9
 have hcz9_1 := cellS30_1 HGz9
 have hcz9_2 := cellS30_2 HGz9
 have hcz9_3 := cellS30_3 HGz9
 have hcz9_4 := cellS30_4 HGz9
 have hcz9_5 := cellS30_5 HGz9
 have hcz9_6 := cellS30_6 HGz9
 have hcz9_7 := cellS30_7 HGz9
 have hcz9_8 := cellS30_8 HGz9
 have hcz9_9 := cellS30_9 HGz9
 have hcz9_10 := cellS30_10 HGz9
 have hfz9_0 := blk_frozen HGz9 0
 have hfz9_1 := blk_frozen HGz9 1
 have hfz9_2 := blk_frozen HGz9 2
 have hfz9_3 := blk_frozen HGz9 3
 have hfz9_4 := blk_frozen HGz9 4
 have hfz9_5 := blk_frozen HGz9 5
 have hfz9_6 := blk_frozen HGz9 6
 have hfz9_7 := blk_frozen HGz9 7
 have hfz9_8 := blk_frozen HGz9 8
 have hfz9_9 := blk_frozen HGz9 9
 have hfz9_10 := blk_frozen HGz9 10
 clear HGz9 hgz9
 go_enter Try.func109, Try.ntmps109
 go_upto_region 3 with (fail)
 go_cut [27] (fun v27 wc => ∃ (kq : Nat) (x27_7 : Bool), v27 = .bool x27_7 ∧ Aside0 (impl_Task_walk.j0 kq l1 x27_7 s0_0 s0_1 s0_2 s0_3 s0_4 s0_5 s0_6 s0_7 s0_8 s0_9 s0_10 = some (r1, r2, r3, r4, r5, r6, r7, r8, r9, r10, r11, r12)) ∧ Aside0 (kq ≤ k) ∧ Aside0 (Kd.R (Kd.int .i64) 3 wc w0.heap.size (fun k_ => (P1_ k_ ∨ wv.heap.size ≤ k_)) u9000_ l1) ∧ Aside0 (IsS30 w0 wc g s0_0 s0_1 s0_2 s0_3 s0_4 s0_5 s0_6 s0_7 s0_8 s0_9 s0_10) ∧ Aside0 (Kept wv wc (fun k_ => (P1_ k_) ∨ k_ = g)) ∧ Aside0 (Below w0.heap.size w0 wc))
 case first =>
  have H := HC8.out; clear HC8
  by_cases c10 : s0_4 = 1; rotate_left
  ·
   rw [if_neg c10] at H; have c10b0 : (s0_4 == 1) = false := beq_eq_false_iff_ne.mpr c10; have c10b1 : (s0_4 != 1) = true := bne_iff_ne.mpr c10
   (first | rw [c10b0] | (simp only [i64_w, i32_w]; rw [c10b0]) | skip)
   have H' := Aside0.mk H; clear H; obtain ⟨HGz12, hgz12⟩ := HI0.out; have hcz12_0 := cellS30_0 HGz12; have hcz12_1 := cellS30_1 HGz12; have hcz12_2 := cellS30_2 HGz12; have hcz12_3 := cellS30_3 HGz12; have hcz12_4 := cellS30_4 HGz12; have hcz12_5 := cellS30_5 HGz12; have hcz12_6 := cellS30_6 HGz12; have hcz12_7 := cellS30_7 HGz12; have hcz12_8 := cellS30_8 HGz12; have hcz12_9 := cellS30_9 HGz12; have hcz12_10 := cellS30_10 HGz12; have hfz12_0 := blk_frozen HGz12 0; have hfz12_1 := blk_frozen HGz12 1; have hfz12_2 := blk_frozen HGz12 2; have hfz12_3 := blk_frozen HGz12 3; have hfz12_4 := blk_frozen HGz12 4; have hfz12_5 := blk_frozen HGz12 5; have hfz12_6 := blk_frozen HGz12 6; have hfz12_7 := blk_frozen HGz12 7; have hfz12_8 := blk_frozen HGz12 8; have hfz12_9 := blk_frozen HGz12 9; have hfz12_10 := blk_frozen HGz12 10; clear HGz12 hgz12
   go_wp2
   go_meet
   case rel => exact ⟨_, (false), SD, H', ⟨by first | omega | exact Nat.le_refl _⟩, ⟨RQ HO1.out⟩, ⟨impl_Task_walk.k0 HI0.out⟩, ⟨impl_Task_walk.k1 HK.out⟩, ⟨impl_Task_walk.k2 HB.out⟩⟩
  rw [if_pos c10] at H; have c10b0 : (s0_4 == 1) = true := beq_iff_eq.mpr c10; have c10b1 : (s0_4 != 1) = false := bne_eq_false_iff_eq.mpr c10; clear c10
  (first | rw [c10b0] | (simp only [i64_w, i32_w]; rw [c10b0]) | skip)
  have H' := Aside0.mk H; clear H; obtain ⟨HGz11, hgz11⟩ := HI0.out; have hcz11_0 := cellS30_0 HGz11; have hcz11_1 := cellS30_1 HGz11; have hcz11_2 := cellS30_2 HGz11; have hcz11_3 := cellS30_3 HGz11; have hcz11_4 := cellS30_4 HGz11; have hcz11_5 := cellS30_5 HGz11; have hcz11_6 := cellS30_6 HGz11; have hcz11_7 := cellS30_7 HGz11; have hcz11_8 := cellS30_8 HGz11; have hcz11_9 := cellS30_9 HGz11; have hcz11_10 := cellS30_10 HGz11; have hfz11_0 := blk_frozen HGz11 0; have hfz11_1 := blk_frozen HGz11 1; have hfz11_2 := blk_frozen HGz11 2; have hfz11_3 := blk_frozen HGz11 3; have hfz11_4 := blk_frozen HGz11 4; have hfz11_5 := blk_frozen HGz11 5; have hfz11_6 := blk_frozen HGz11 6; have hfz11_7 := blk_frozen HGz11 7; have hfz11_8 := blk_frozen HGz11 8; have hfz11_9 := blk_frozen HGz11 9; have hfz11_10 := blk_frozen HGz11 10; clear HGz11 hgz11
  go_wp2
  go_meet
  case rel => exact ⟨_, ((s0_6 == 0)), SD, H', ⟨by first | omega | exact Nat.le_refl _⟩, ⟨RQ HO1.out⟩, ⟨impl_Task_walk.k0 HI0.out⟩, ⟨impl_Task_walk.k1 HK.out⟩, ⟨impl_Task_walk.k2 HB.out⟩⟩
 case rest =>
  clear HC8
  try clear c1 p2 c3 c3b0 c3b1 c4 c4b0 c4b1 p4 q4 hx4 qi4 c9 c10 c10b0 c10b1 hcz11_0 hcz11_1 hcz11_10 hcz11_2 hcz11_3 hcz11_4 hcz11_5 hcz11_6 hcz11_7 hcz11_8 hcz11_9 hcz12_0 hcz12_1 hcz12_10 hcz12_2 hcz12_3 hcz12_4 hcz12_5 hcz12_6 hcz12_7 hcz12_8 hcz12_9 hcz6_0 hcz6_1 hcz6_10 hcz6_2 hcz6_3 hcz6_4 hcz6_5 hcz6_6 hcz6_7 hcz6_8 hcz6_9 hcz9_0 hcz9_1 hcz9_10 hcz9_2 hcz9_3 hcz9_4 hcz9_5 hcz9_6 hcz9_7 hcz9_8 hcz9_9 hfz11_0 hfz11_1 hfz11_10 hfz11_2 hfz11_3 hfz11_4 hfz11_5 hfz11_6 hfz11_7 hfz11_8 hfz11_9 hfz12_0 hfz12_1 hfz12_10 hfz12_2 hfz12_3 hfz12_4 hfz12_5 hfz12_6 hfz12_7 hfz12_8 hfz12_9 hfz6_0 hfz6_1 hfz6_10 hfz6_2 hfz6_3 hfz6_4 hfz6_5 hfz6_6 hfz6_7 hfz6_8 hfz6_9 hfz9_0 hfz9_1 hfz9_10 hfz9_2 hfz9_3 hfz9_4 hfz9_5 hfz9_6 hfz9_7 hfz9_8 hfz9_9 hx415_0 p415 q415
  obtain ⟨kq, x27_7, rfl, HA, HJ7, HO_1, HI0, HK, HB⟩ := hcut; cases kq with
  | zero => exact absurd HA.out (by simp [impl_Task_walk.j0])
  | succ kj7 =>
   have H := HA.out; clear HA; simp only [impl_Task_walk.j0] at H
   by_cases c13 : x27_7 = true
   ·
    subst c13
    have H1 : ((impl_Task_nobody.f s0_0 s0_1 s0_2 s0_3 s0_4 s0_5 s0_6 s0_7 s0_8 s0_9 s0_10 l1).bind fun bt417 => (some (bt417.1, bt417.2.1, bt417.2.2.1, bt417.2.2.2.1, bt417.2.2.2.2.1, bt417.2.2.2.2.2.1, bt417.2.2.2.2.2.2.1, bt417.2.2.2.2.2.2.2.1, bt417.2.2.2.2.2.2.2.2.1, bt417.2.2.2.2.2.2.2.2.2.1, bt417.2.2.2.2.2.2.2.2.2.2.1, bt417.2.2.2.2.2.2.2.2.2.2.2))) = some (r1, r2, r3, r4, r5, r6, r7, r8, r9, r10, r11, r12) := by rw [if_pos rfl] at H; exact H
    clear H; have H := H1; clear H1; replace H := Option.bind_eq_some_iff.mp H; obtain ⟨⟨t417, t418, t419, t420, t421, t422, t423, t424, t425, t426, t427, t428⟩, A140, H⟩ := H; replace H : (some (t417, t418, t419, t420, t421, t422, t423, t424, t425, t426, t427, t428)) = some (r1, r2, r3, r4, r5, r6, r7, r8, r9, r10, r11, r12) := H; have A14 := Aside0.mk A140; clear A140; simp only [Option.some.injEq, Prod.mk.injEq] at H; obtain ⟨rfl, rfl, rfl, rfl, rfl, rfl, rfl, rfl, rfl, rfl, rfl, rfl⟩ := H; obtain ⟨Ao15, co15, eo15⟩ := Kd.R_slice HO_1.out; subst eo15
    go_wp2_with (first | ((with_reducible refine gate_callee (f := 110) rfl ?_); refine goesL_ (some 42) rfl rfl Try.func110 (by kernel_rfl) rfl #[.pointer (some ⟨g, 0, none⟩), .slice Ao15 l1.length co15] rfl (MA) ?_; (with_reducible refine (impl_Task_nobody.calls g s0_0 s0_1 s0_2 s0_3 s0_4 s0_5 s0_6 s0_7 s0_8 s0_9 s0_10 (fun k_ => some k_ = (.slice Ao15 l1.length co15 : Value).ownBlock) (.slice Ao15 l1.length co15) l1 t417 t418 t419 t420 t421 t422 t423 t424 t425 t426 t427 t428 w0 _ ?side1 ?side2 ?side3 A14.out).mono ?_); (case side1 => exact impl_Task_walk.k0 HI0.out); (case side2 => exact impl_Task_walk.k2 HB.out); (case side3 => exact Kd.R_tight rfl HO_1.out); rintro e w16 ⟨rfl, hi, hy0, hb, hkp⟩; refine ⟨_, rfl, ?_⟩; replace HI0 := Aside0.mk (hi); replace HK := Aside0.mk (Kept.then_ (S := (fun k_ => (P1_ k_) ∨ k_ = g)) (impl_Task_walk.k1 HK.out) hkp (fun k_ hs_ => Or.elim hs_ (fun hs_ => (fun e_ => Or.imp_left Or.inl ((HO_1.out.1 k_ e_.symm))) hs_) (fun e_ => .inl (.inr e_)))); replace HO_1 := Aside0.mk (Kd.R_reok rfl hy0 (fun k_ e_ => HO_1.out.1 k_ e_)); replace HB := Aside0.mk (hb); (try clear hb); (try clear hkp); (try clear hy0)))
    first | go_end0 | ((try simp only [Exit.inBlock, Exit.then]); refine bodyPost_ret (results_none rfl _ _ _) rfl ?_)
    exact ⟨EE, impl_Task_walk.k0 HI0.out, RQ HO_1.out, impl_Task_walk.k2 HB.out, impl_Task_walk.k1 HK.out⟩
   replace c13 := Bool.eq_false_iff.mpr c13; subst c13
   have H1 : (if s0_4 = 1 then ((impl_wordCell.f s0_6).bind fun t429 => (if 0 ≤ t429 then (if t429 < (l1.length : Int) then ((impl_nodeOf.f (rd l1 t429)).bind fun t431 => (some (s0_0, s0_1, s0_2, s0_3, 2, s0_5, s0_6, t431, Go.bits .and .i64 (rd l1 t429) 1, s0_9, s0_10, l1))) else (none)) else (none))) else (if s0_8 = 1 then ((impl_swapWord.f l1 s0_5 (wrap64 (2 * s0_6)) (wrap64 (2 * s0_7))).bind fun bt432 => (if bt432.1 = true then (some (s0_0, s0_1, s0_2, s0_3, 1, s0_5, s0_7, s0_7, s0_8, s0_9, s0_10, bt432.2)) else (some (s0_0, s0_1, s0_2, s0_3, 0, s0_5, s0_6, s0_7, s0_8, s0_9, s0_10, bt432.2)))) else ((impl_keyCell.f s0_6).bind fun t434 => (if 0 ≤ t434 then (if t434 < (l1.length : Int) then (if (rd l1 t434) < s0_1 then (some (s0_0, s0_1, s0_2, s0_3, 1, s0_6, s0_7, s0_7, s0_8, s0_9, s0_10, l1)) else (some (s0_0, s0_1, s0_2, s0_3, 3, s0_5, s0_6, s0_7, s0_8, s0_9, s0_10, l1))) else (none)) else (none))))) = some (r1, r2, r3, r4, r5, r6, r7, r8, r9, r10, r11, r12) := by rw [if_neg (show ¬ (false = true) by decide)] at H; exact H
   clear H; have H := H1; clear H1
   by_cases c17 : s0_4 = 1
   ·
    rw [if_pos c17] at H; have c17b0 : (s0_4 == 1) = true := beq_iff_eq.mpr c17; have c17b1 : (s0_4 != 1) = false := bne_eq_false_iff_eq.mpr c17; clear c17; replace H := Option.bind_eq_some_iff.mp H; obtain ⟨t429, A180, H⟩ := H; have A18 := Aside0.mk A180; clear A180
    by_cases c19 : 0 ≤ t429; rotate_left
    ·
     rw [if_neg c19] at H; exact absurd H (by simp)
    rw [if_pos c19] at H; have c19b0 : decide (0 ≤ t429) = true := decide_eq_true c19; clear c19
    by_cases c20 : t429 < (l1.length : Int); rotate_left
    ·
     rw [if_neg c20] at H; exact absurd H (by simp)
    rw [if_pos c20] at H; have c20b0 : decide (t429 < (l1.length : Int)) = true := decide_eq_true c20; clear c20; replace H := Option.bind_eq_some_iff.mp H; obtain ⟨t431, A210, H⟩ := H; have A21 := Aside0.mk A210; clear A210; simp only [Option.some.injEq, Prod.mk.injEq] at H; obtain ⟨rfl, rfl, rfl, rfl, rfl, rfl, rfl, rfl, rfl, rfl, rfl, rfl⟩ := H; obtain ⟨HGz22, hgz22⟩ := HI0.out; have hcz22_0 := cellS30_0 HGz22; have hcz22_1 := cellS30_1 HGz22; have hcz22_2 := cellS30_2 HGz22; have hcz22_3 := cellS30_3 HGz22; have hcz22_4 := cellS30_4 HGz22; have hcz22_5 := cellS30_5 HGz22; have hcz22_6 := cellS30_6 HGz22; have hcz22_7 := cellS30_7 HGz22; have hcz22_8 := cellS30_8 HGz22; have hcz22_9 := cellS30_9 HGz22; have hcz22_10 := cellS30_10 HGz22; have hfz22_0 := blk_frozen HGz22 0; have hfz22_1 := blk_frozen HGz22 1; have hfz22_2 := blk_frozen HGz22 2; have hfz22_3 := blk_frozen HGz22 3; have hfz22_4 := blk_frozen HGz22 4; have hfz22_5 := blk_frozen HGz22 5; have hfz22_6 := blk_frozen HGz22 6; have hfz22_7 := blk_frozen HGz22 7; have hfz22_8 := blk_frozen HGz22 8; have hfz22_9 := blk_frozen HGz22 9; have hfz22_10 := blk_frozen HGz22 10; clear HGz22 hgz22
    go_wp2_with (first | ((with_reducible refine gate_callee (f := 94) rfl ?_); refine goesL_ (some 54) rfl rfl Try.func94 (by kernel_rfl) rfl #[.int .i64 s0_6] rfl (MA) ?_; (with_reducible refine (impl_wordCell.calls s0_6 t429 _ A18.out).mono ?_); rintro e w' ⟨rfl, ⟨nd, rfl⟩⟩; refine ⟨_, rfl, ?_⟩; (try (rw [drewN_self wc]; generalize hq_ : World.drewN wc _ = wc; have n0_ : Aside0 (Kd.R (Kd.int .i64) 3 wc w0.heap.size (fun k_ => (P1_ k_ ∨ wv.heap.size ≤ k_)) u9000_ l1) := ⟨by rw [← hq_]; exact (RQ HO_1.out)⟩; have n1_ : Aside0 (IsS30 w0 wc g s0_0 s0_1 s0_2 s0_3 s0_4 s0_5 s0_6 s0_7 s0_8 s0_9 s0_10) := ⟨by rw [← hq_]; exact (impl_Task_walk.k0 HI0.out)⟩; have n2_ : Aside0 (Kept wv wc (fun k_ => (P1_ k_) ∨ k_ = g)) := ⟨by rw [← hq_]; exact (impl_Task_walk.k1 HK.out)⟩; have n3_ : Aside0 (Below w0.heap.size w0 wc) := ⟨by rw [← hq_]; exact (impl_Task_walk.k2 HB.out)⟩; clear HO_1 HI0 HK HB hq_; have HO_1 := n0_; have HI0 := n1_; have HK := n2_; have HB := n3_; clear n0_ n1_ n2_ n3_)); have hczY_0 := cellS30_0 (HI0.out).1; have hczY_1 := cellS30_1 (HI0.out).1; have hczY_2 := cellS30_2 (HI0.out).1; have hczY_3 := cellS30_3 (HI0.out).1; have hczY_4 := cellS30_4 (HI0.out).1; have hczY_5 := cellS30_5 (HI0.out).1; have hczY_6 := cellS30_6 (HI0.out).1; have hczY_7 := cellS30_7 (HI0.out).1; have hczY_8 := cellS30_8 (HI0.out).1; have hczY_9 := cellS30_9 (HI0.out).1; have hczY_10 := cellS30_10 (HI0.out).1; have hfzY_0 := blk_frozen (HI0.out).1 0; have hfzY_1 := blk_frozen (HI0.out).1 1; have hfzY_2 := blk_frozen (HI0.out).1 2; have hfzY_3 := blk_frozen (HI0.out).1 3; have hfzY_4 := blk_frozen (HI0.out).1 4; have hfzY_5 := blk_frozen (HI0.out).1 5; have hfzY_6 := blk_frozen (HI0.out).1 6; have hfzY_7 := blk_frozen (HI0.out).1 7; have hfzY_8 := blk_frozen (HI0.out).1 8; have hfzY_9 := blk_frozen (HI0.out).1 9; have hfzY_10 := blk_frozen (HI0.out).1 10; obtain ⟨Ao23, co23, eo23⟩ := Kd.R_slice HO_1.out; subst eo23; have p430 : 0 ≤ (t429 : Int) := of_decide_eq_true AS; have q430 : t429 < (l1.length : Int) := of_decide_eq_true AS; obtain ⟨ad430, e430, hx430_0⟩ := Kd.at_int (Kd.R_reads' HO_1.out).2.2 t429 p430 q430; cases e430; replace p430 := eq_true p430; replace q430 := eq_true q430) | ((with_reducible refine gate_callee (f := 93) rfl ?_); refine goesL_ (some 61) rfl rfl Try.func93 (by kernel_rfl) rfl #[.int .i64 (rd l1 t429)] rfl (MA) ?_; (with_reducible refine (impl_nodeOf.calls (rd l1 t429) t431 _ A21.out).mono ?_); rintro e w' ⟨rfl, ⟨nd, rfl⟩⟩; refine ⟨_, rfl, ?_⟩; (try (rw [drewN_self wc]; generalize hq_ : World.drewN wc _ = wc; have n0_ : Aside0 (Kd.R (Kd.int .i64) 3 wc w0.heap.size (fun k_ => (P1_ k_ ∨ wv.heap.size ≤ k_)) (.slice (some ad430) l1.length co23) l1) := ⟨by rw [← hq_]; exact (RQ HO_1.out)⟩; have n1_ : Aside0 (IsS30 w0 wc g s0_0 s0_1 s0_2 s0_3 s0_4 s0_5 s0_6 s0_7 s0_8 s0_9 s0_10) := ⟨by rw [← hq_]; exact (impl_Task_walk.k0 HI0.out)⟩; have n2_ : Aside0 (Kept wv wc (fun k_ => (P1_ k_) ∨ k_ = g)) := ⟨by rw [← hq_]; exact (impl_Task_walk.k1 HK.out)⟩; have n3_ : Aside0 (Below w0.heap.size w0 wc) := ⟨by rw [← hq_]; exact (impl_Task_walk.k2 HB.out)⟩; clear HO_1 HI0 HK HB hq_; have HO_1 := n0_; have HI0 := n1_; have HK := n2_; have HB := n3_; clear n0_ n1_ n2_ n3_)); have hczY_0 := cellS30_0 (HI0.out).1; have hczY_1 := cellS30_1 (HI0.out).1; have hczY_2 := cellS30_2 (HI0.out).1; have hczY_3 := cellS30_3 (HI0.out).1; have hczY_4 := cellS30_4 (HI0.out).1; have hczY_5 := cellS30_5 (HI0.out).1; have hczY_6 := cellS30_6 (HI0.out).1; have hczY_7 := cellS30_7 (HI0.out).1; have hczY_8 := cellS30_8 (HI0.out).1; have hczY_9 := cellS30_9 (HI0.out).1; have hczY_10 := cellS30_10 (HI0.out).1; have hfzY_0 := blk_frozen (HI0.out).1 0; have hfzY_1 := blk_frozen (HI0.out).1 1; have hfzY_2 := blk_frozen (HI0.out).1 2; have hfzY_3 := blk_frozen (HI0.out).1 3; have hfzY_4 := blk_frozen (HI0.out).1 4; have hfzY_5 := blk_frozen (HI0.out).1 5; have hfzY_6 := blk_frozen (HI0.out).1 6; have hfzY_7 := blk_frozen (HI0.out).1 7; have hfzY_8 := blk_frozen (HI0.out).1 8; have hfzY_9 := blk_frozen (HI0.out).1 9; have hfzY_10 := blk_frozen (HI0.out).1 10))
    first | go_end0 | ((try simp only [Exit.inBlock, Exit.then]); refine bodyPost_ret (results_none rfl _ _ _) rfl ?_)
    exact ⟨EE, impl_Task_walk.k0 HI0.out, by (with_reducible repeat (first | apply r1 | apply r2 | apply r3)); exact Kd.R_mono (Kd.R_far (p := ⟨g, 4, none⟩) (Kd.R_far (p := ⟨g, 8, none⟩) (Kd.R_far (p := ⟨g, 7, none⟩) (IsS30.apart HI0.out HO_1.out (by decide)) (fun _ hk => hk.2) (.int .i64 t431)) (fun _ hk => hk.2) (.int .i64 (Go.bits .and .i64 (rd l1 t429) 1))) (fun _ hk => hk.2) (.int .i64 2)) (fun _ hk => hk.1), impl_Task_walk.k2 HB.out, impl_Task_walk.k1 HK.out⟩
   rw [if_neg c17] at H; have c17b0 : (s0_4 == 1) = false := beq_eq_false_iff_ne.mpr c17; have c17b1 : (s0_4 != 1) = true := bne_iff_ne.mpr c17
   by_cases c24 : s0_8 = 1
   ·
    rw [if_pos c24] at H; have c24b0 : (s0_8 == 1) = true := beq_iff_eq.mpr c24; have c24b1 : (s0_8 != 1) = false := bne_eq_false_iff_eq.mpr c24; clear c24; replace H := Option.bind_eq_some_iff.mp H; obtain ⟨⟨t432, t433⟩, A250, H⟩ := H; replace H : (if t432 = true then (some (s0_0, s0_1, s0_2, s0_3, 1, s0_5, s0_7, s0_7, s0_8, s0_9, s0_10, t433)) else (some (s0_0, s0_1, s0_2, s0_3, 0, s0_5, s0_6, s0_7, s0_8, s0_9, s0_10, t433))) = some (r1, r2, r3, r4, r5, r6, r7, r8, r9, r10, r11, r12) := H; have A25 := Aside0.mk A250; clear A250
    by_cases c26 : t432 = true
    ·
     subst c26
     have H1 : (some (s0_0, s0_1, s0_2, s0_3, 1, s0_5, s0_7, s0_7, s0_8, s0_9, s0_10, t433)) = some (r1, r2, r3, r4, r5, r6, r7, r8, r9, r10, r11, r12) := by rw [if_pos rfl] at H; exact H
     clear H; have H := H1; clear H1; simp only [Option.some.injEq, Prod.mk.injEq] at H; obtain ⟨rfl, rfl, rfl, rfl, rfl, rfl, rfl, rfl, rfl, rfl, rfl, rfl⟩ := H; obtain ⟨HGz27, hgz27⟩ := HI0.out; have hcz27_0 := cellS30_0 HGz27; have hcz27_1 := cellS30_1 HGz27; have hcz27_2 := cellS30_2 HGz27; have hcz27_3 := cellS30_3 HGz27; have hcz27_4 := cellS30_4 HGz27; have hcz27_5 := cellS30_5 HGz27; have hcz27_6 := cellS30_6 HGz27; have hcz27_7 := cellS30_7 HGz27; have hcz27_8 := cellS30_8 HGz27; have hcz27_9 := cellS30_9 HGz27; have hcz27_10 := cellS30_10 HGz27; have hfz27_0 := blk_frozen HGz27 0; have hfz27_1 := blk_frozen HGz27 1; have hfz27_2 := blk_frozen HGz27 2; have hfz27_3 := blk_frozen HGz27 3; have hfz27_4 := blk_frozen HGz27 4; have hfz27_5 := blk_frozen HGz27 5; have hfz27_6 := blk_frozen HGz27 6; have hfz27_7 := blk_frozen HGz27 7; have hfz27_8 := blk_frozen HGz27 8; have hfz27_9 := blk_frozen HGz27 9; have hfz27_10 := blk_frozen HGz27 10; clear HGz27 hgz27
     try go_wp2
     have n0_ := Aside0.mk (Kd.R_drew HO_1.out); have n1_ := Aside0.mk (IsS30.drew HI0.out); have n2_ := Aside0.mk (Kept.drew HK.out); have n3_ := Aside0.mk (below_drew1 HB.out); clear HO_1; clear HI0; clear HK; clear HB; have HO_1 := n0_; have HI0 := n1_; have HK := n2_; have HB := n3_; clear n0_ n1_ n2_ n3_; obtain ⟨Ao29, co29, eo29⟩ := Kd.R_slice HO_1.out
     (first | subst eo29 | (injection eo29 with f1_ f2_ f3_; have f4_ := f1_.symm; have f5_ := f3_.symm; clear f1_ f2_ f3_; subst f4_; subst f5_))
     refine start_ (n := 16) (S := fun w' => w'.cell? ⟨g, 0, none⟩ = some (.int .i64 s0_0) ∧ w'.cell? ⟨g, 1, none⟩ = some (.int .i64 s0_1) ∧ w'.cell? ⟨g, 2, none⟩ = some (.int .i64 s0_2) ∧ w'.cell? ⟨g, 3, none⟩ = some (.int .i64 s0_3) ∧ w'.cell? ⟨g, 4, none⟩ = some (.int .i64 s0_4) ∧ w'.cell? ⟨g, 5, none⟩ = some (.int .i64 s0_5) ∧ w'.cell? ⟨g, 6, none⟩ = some (.int .i64 s0_6) ∧ w'.cell? ⟨g, 7, none⟩ = some (.int .i64 s0_7) ∧ w'.cell? ⟨g, 8, none⟩ = some (.int .i64 s0_8) ∧ w'.cell? ⟨g, 9, none⟩ = some (.bool s0_9) ∧ w'.cell? ⟨g, 10, none⟩ = some (.int .i64 s0_10)) (ds := []) #[false, false, false, false, false, false, false, false, false, false, false, false, false, false, false, false] (by kernel_rfl) rfl rfl ⟨(blk_cell (Aside0.mk (HI0.out).1).out 0).trans rfl, (blk_cell (Aside0.mk (HI0.out).1).out 1).trans rfl, (blk_cell (Aside0.mk (HI0.out).1).out 2).trans rfl, (blk_cell (Aside0.mk (HI0.out).1).out 3).trans rfl, (blk_cell (Aside0.mk (HI0.out).1).out 4).trans rfl, (blk_cell (Aside0.mk (HI0.out).1).out 5).trans rfl, (blk_cell (Aside0.mk (HI0.out).1).out 6).trans rfl, (blk_cell (Aside0.mk (HI0.out).1).out 7).trans rfl, (blk_cell (Aside0.mk (HI0.out).1).out 8).trans rfl, (blk_cell (Aside0.mk (HI0.out).1).out 9).trans rfl, (blk_cell (Aside0.mk (HI0.out).1).out 10).trans rfl⟩ (fun hHeld => ?_); refine with_tabW impl_Task_walk.tab9 impl_Task_walk.bits9 (fun HT_ HW_ => ?_); generalize wc.drew = w28 at HO_1 HI0 HK HB hHeld ⊢; refine pV 0 76 (OB 16 1) ?_; refine pV 1 77 (OB 16 3) ?_; refine pV 2 78 (OB 16 7) ?_; refine pV 3 79 (OB 16 15) ?_; refine pV 5 81 (OB 16 47) ?_; refine pV 6 82 (OB 16 111) ?_; refine pV 7 83 (OB 16 239) ?_; refine pV 10 86 (OB 16 1263) ?_; refine pV 11 87 (OB 16 3311) ?_; refine pV 12 88 (OB 16 7407) ?_; refine pT 4 80 (OB 16 7423) ?_; refine pT 8 84 (OB 16 7679) ?_; refine pV 9 85 (OB 16 8191) ?_; refine pT 13 89 (OB 16 16383) ?_; refine pV 14 90 (OB 16 32767) ?_; refine one_ (i := 15) (N := some 91) (OB 16 65535) rfl rfl (one_of HT_.out (by kernel_rfl)) (by decide) (fun K hK => ?_); refine goes_ Try.func107 (by kernel_rfl) rfl #[.slice Ao29 l1.length co29, .int .i64 s0_5, .int .i64 (wrap64 (2 * s0_6)), .int .i64 (wrap64 (2 * s0_7))] (by rfl) rfl rfl (MA) ?_
     with_reducible refine (impl_swapWord.calls (fun k_ => some k_ = (.slice Ao29 l1.length co29 : Value).ownBlock) (.slice Ao29 l1.length co29) l1 s0_5 (wrap64 (2 * s0_6)) (wrap64 (2 * s0_7)) true t433 w0 _ ?side1 ?side2 A25.out).mono ?_
     (case side1 => exact impl_Task_walk.k2 HB.out)
     (case side2 => exact Kd.R_tight rfl HO_1.out)
     rintro e w30 ⟨rfl, hy0, hb, hkp⟩; refine ⟨_, rfl, ?_⟩; have n0_ := Aside0.mk (Kd.R_reok rfl hy0 (fun k_ e_ => HO_1.out.1 k_ e_)); have n1_ := Aside0.mk (IsS30.kept (impl_Task_walk.k0 HI0.out) hkp (fun hs_ => (fun e_ => (IsS30.own_ne HI0.out HO_1.out (by decide)) e_) hs_)); have n2_ := Aside0.mk (Kept.then_ (S := (fun k_ => (P1_ k_) ∨ k_ = g)) (impl_Task_walk.k1 HK.out) hkp (fun k_ hs_ => (fun e_ => Or.imp_left Or.inl ((HO_1.out.1 k_ e_.symm))) hs_)); have n3_ := Aside0.mk (hb); clear HO_1; clear HI0; clear HK; clear HB; have HO_1 := n0_; have HI0 := n1_; have HK := n2_; have HB := n3_; clear n0_ n1_ n2_ n3_
     (try clear hb)
     (try clear hkp)
     (try clear hy0)
     refine hK.out _ _ ⟨(blk_cell (Aside0.mk (HI0.out).1).out 0).trans rfl, (blk_cell (Aside0.mk (HI0.out).1).out 1).trans rfl, (blk_cell (Aside0.mk (HI0.out).1).out 2).trans rfl, (blk_cell (Aside0.mk (HI0.out).1).out 3).trans rfl, (blk_cell (Aside0.mk (HI0.out).1).out 4).trans rfl, (blk_cell (Aside0.mk (HI0.out).1).out 5).trans rfl, (blk_cell (Aside0.mk (HI0.out).1).out 6).trans rfl, (blk_cell (Aside0.mk (HI0.out).1).out 7).trans rfl, (blk_cell (Aside0.mk (HI0.out).1).out 8).trans rfl, (blk_cell (Aside0.mk (HI0.out).1).out 9).trans rfl, (blk_cell (Aside0.mk (HI0.out).1).out 10).trans rfl⟩ (fun hHeld => ?_); clear hK K; refine norm_ (a' := ?_) ?_ ?_; rotate_left
     ·
      show Act.put _ (some 91) _ = _; simp only [Act.put, zA, zB, zC, i64_w, i32_w]; rfl
     refine done_ (done_of HT_.out (by kernel_rfl)) ?_; obtain ⟨HGz31, hgz31⟩ := HI0.out; have hcz31_0 := cellS30_0 HGz31; have hcz31_1 := cellS30_1 HGz31; have hcz31_2 := cellS30_2 HGz31; have hcz31_3 := cellS30_3 HGz31; have hcz31_4 := cellS30_4 HGz31; have hcz31_5 := cellS30_5 HGz31; have hcz31_6 := cellS30_6 HGz31; have hcz31_7 := cellS30_7 HGz31; have hcz31_8 := cellS30_8 HGz31; have hcz31_9 := cellS30_9 HGz31; have hcz31_10 := cellS30_10 HGz31; have hfz31_0 := blk_frozen HGz31 0; have hfz31_1 := blk_frozen HGz31 1; have hfz31_2 := blk_frozen HGz31 2; have hfz31_3 := blk_frozen HGz31 3; have hfz31_4 := blk_frozen HGz31 4; have hfz31_5 := blk_frozen HGz31 5; have hfz31_6 := blk_frozen HGz31 6; have hfz31_7 := blk_frozen HGz31 7; have hfz31_8 := blk_frozen HGz31 8; have hfz31_9 := blk_frozen HGz31 9; have hfz31_10 := blk_frozen HGz31 10; clear HGz31 hgz31
     try go_wp2
     first | go_end0 | ((try simp only [Exit.inBlock, Exit.then]); refine bodyPost_ret (results_none rfl _ _ _) rfl ?_)
     exact ⟨EE, impl_Task_walk.k0 HI0.out, by (with_reducible repeat (first | apply r1 | apply r2 | apply r3)); exact Kd.R_mono (Kd.R_far (p := ⟨g, 4, none⟩) (Kd.R_far (p := ⟨g, 6, none⟩) (IsS30.apart HI0.out HO_1.out (by decide)) (fun _ hk => hk.2) (.int .i64 s0_7)) (fun _ hk => hk.2) (.int .i64 1)) (fun _ hk => hk.1), impl_Task_walk.k2 HB.out, impl_Task_walk.k1 HK.out⟩
    replace c26 := Bool.eq_false_iff.mpr c26; subst c26
    have H1 : (some (s0_0, s0_1, s0_2, s0_3, 0, s0_5, s0_6, s0_7, s0_8, s0_9, s0_10, t433)) = some (r1, r2, r3, r4, r5, r6, r7, r8, r9, r10, r11, r12) := by rw [if_neg (show ¬ (false = true) by decide)] at H; exact H
    clear H; have H := H1; clear H1; simp only [Option.some.injEq, Prod.mk.injEq] at H; obtain ⟨rfl, rfl, rfl, rfl, rfl, rfl, rfl, rfl, rfl, rfl, rfl, rfl⟩ := H; obtain ⟨HGz32, hgz32⟩ := HI0.out; have hcz32_0 := cellS30_0 HGz32; have hcz32_1 := cellS30_1 HGz32; have hcz32_2 := cellS30_2 HGz32; have hcz32_3 := cellS30_3 HGz32; have hcz32_4 := cellS30_4 HGz32; have hcz32_5 := cellS30_5 HGz32; have hcz32_6 := cellS30_6 HGz32; have hcz32_7 := cellS30_7 HGz32; have hcz32_8 := cellS30_8 HGz32; have hcz32_9 := cellS30_9 HGz32; have hcz32_10 := cellS30_10 HGz32; have hfz32_0 := blk_frozen HGz32 0; have hfz32_1 := blk_frozen HGz32 1; have hfz32_2 := blk_frozen HGz32 2; have hfz32_3 := blk_frozen HGz32 3; have hfz32_4 := blk_frozen HGz32 4; have hfz32_5 := blk_frozen HGz32 5; have hfz32_6 := blk_frozen HGz32 6; have hfz32_7 := blk_frozen HGz32 7; have hfz32_8 := blk_frozen HGz32 8; have hfz32_9 := blk_frozen HGz32 9; have hfz32_10 := blk_frozen HGz32 10; clear HGz32 hgz32
    try go_wp2
    have n0_ := Aside0.mk (Kd.R_drew HO_1.out); have n1_ := Aside0.mk (IsS30.drew HI0.out); have n2_ := Aside0.mk (Kept.drew HK.out); have n3_ := Aside0.mk (below_drew1 HB.out); clear HO_1; clear HI0; clear HK; clear HB; have HO_1 := n0_; have HI0 := n1_; have HK := n2_; have HB := n3_; clear n0_ n1_ n2_ n3_; obtain ⟨Ao34, co34, eo34⟩ := Kd.R_slice HO_1.out
    (first | subst eo34 | (injection eo34 with f1_ f2_ f3_; have f4_ := f1_.symm; have f5_ := f3_.symm; clear f1_ f2_ f3_; subst f4_; subst f5_))
    refine start_ (n := 16) (S := fun w' => w'.cell? ⟨g, 0, none⟩ = some (.int .i64 s0_0) ∧ w'.cell? ⟨g, 1, none⟩ = some (.int .i64 s0_1) ∧ w'.cell? ⟨g, 2, none⟩ = some (.int .i64 s0_2) ∧ w'.cell? ⟨g, 3, none⟩ = some (.int .i64 s0_3) ∧ w'.cell? ⟨g, 4, none⟩ = some (.int .i64 s0_4) ∧ w'.cell? ⟨g, 5, none⟩ = some (.int .i64 s0_5) ∧ w'.cell? ⟨g, 6, none⟩ = some (.int .i64 s0_6) ∧ w'.cell? ⟨g, 7, none⟩ = some (.int .i64 s0_7) ∧ w'.cell? ⟨g, 8, none⟩ = some (.int .i64 s0_8) ∧ w'.cell? ⟨g, 9, none⟩ = some (.bool s0_9) ∧ w'.cell? ⟨g, 10, none⟩ = some (.int .i64 s0_10)) (ds := []) #[false, false, false, false, false, false, false, false, false, false, false, false, false, false, false, false] (by kernel_rfl) rfl rfl ⟨(blk_cell (Aside0.mk (HI0.out).1).out 0).trans rfl, (blk_cell (Aside0.mk (HI0.out).1).out 1).trans rfl, (blk_cell (Aside0.mk (HI0.out).1).out 2).trans rfl, (blk_cell (Aside0.mk (HI0.out).1).out 3).trans rfl, (blk_cell (Aside0.mk (HI0.out).1).out 4).trans rfl, (blk_cell (Aside0.mk (HI0.out).1).out 5).trans rfl, (blk_cell (Aside0.mk (HI0.out).1).out 6).trans rfl, (blk_cell (Aside0.mk (HI0.out).1).out 7).trans rfl, (blk_cell (Aside0.mk (HI0.out).1).out 8).trans rfl, (blk_cell (Aside0.mk (HI0.out).1).out 9).trans rfl, (blk_cell (Aside0.mk (HI0.out).1).out 10).trans rfl⟩ (fun hHeld => ?_); refine with_tabW impl_Task_walk.tab9 impl_Task_walk.bits9 (fun HT_ HW_ => ?_); generalize wc.drew = w33 at HO_1 HI0 HK HB hHeld ⊢; refine pV 0 76 (OB 16 1) ?_; refine pV 1 77 (OB 16 3) ?_; refine pV 2 78 (OB 16 7) ?_; refine pV 3 79 (OB 16 15) ?_; refine pV 5 81 (OB 16 47) ?_; refine pV 6 82 (OB 16 111) ?_; refine pV 7 83 (OB 16 239) ?_; refine pV 10 86 (OB 16 1263) ?_; refine pV 11 87 (OB 16 3311) ?_; refine pV 12 88 (OB 16 7407) ?_; refine pT 4 80 (OB 16 7423) ?_; refine pT 8 84 (OB 16 7679) ?_; refine pV 9 85 (OB 16 8191) ?_; refine pT 13 89 (OB 16 16383) ?_; refine pV 14 90 (OB 16 32767) ?_; refine one_ (i := 15) (N := some 91) (OB 16 65535) rfl rfl (one_of HT_.out (by kernel_rfl)) (by decide) (fun K hK => ?_); refine goes_ Try.func107 (by kernel_rfl) rfl #[.slice Ao34 l1.length co34, .int .i64 s0_5, .int .i64 (wrap64 (2 * s0_6)), .int .i64 (wrap64 (2 * s0_7))] (by rfl) rfl rfl (MA) ?_
    with_reducible refine (impl_swapWord.calls (fun k_ => some k_ = (.slice Ao34 l1.length co34 : Value).ownBlock) (.slice Ao34 l1.length co34) l1 s0_5 (wrap64 (2 * s0_6)) (wrap64 (2 * s0_7)) false t433 w0 _ ?side1 ?side2 A25.out).mono ?_
    (case side1 => exact impl_Task_walk.k2 HB.out)
    (case side2 => exact Kd.R_tight rfl HO_1.out)
    rintro e w35 ⟨rfl, hy0, hb, hkp⟩; refine ⟨_, rfl, ?_⟩; have n0_ := Aside0.mk (Kd.R_reok rfl hy0 (fun k_ e_ => HO_1.out.1 k_ e_)); have n1_ := Aside0.mk (IsS30.kept (impl_Task_walk.k0 HI0.out) hkp (fun hs_ => (fun e_ => (IsS30.own_ne HI0.out HO_1.out (by decide)) e_) hs_)); have n2_ := Aside0.mk (Kept.then_ (S := (fun k_ => (P1_ k_) ∨ k_ = g)) (impl_Task_walk.k1 HK.out) hkp (fun k_ hs_ => (fun e_ => Or.imp_left Or.inl ((HO_1.out.1 k_ e_.symm))) hs_)); have n3_ := Aside0.mk (hb); clear HO_1; clear HI0; clear HK; clear HB; have HO_1 := n0_; have HI0 := n1_; have HK := n2_; have HB := n3_; clear n0_ n1_ n2_ n3_
    (try clear hb)
    (try clear hkp)
    (try clear hy0)
    refine hK.out _ _ ⟨(blk_cell (Aside0.mk (HI0.out).1).out 0).trans rfl, (blk_cell (Aside0.mk (HI0.out).1).out 1).trans rfl, (blk_cell (Aside0.mk (HI0.out).1).out 2).trans rfl, (blk_cell (Aside0.mk (HI0.out).1).out 3).trans rfl, (blk_cell (Aside0.mk (HI0.out).1).out 4).trans rfl, (blk_cell (Aside0.mk (HI0.out).1).out 5).trans rfl, (blk_cell (Aside0.mk (HI0.out).1).out 6).trans rfl, (blk_cell (Aside0.mk (HI0.out).1).out 7).trans rfl, (blk_cell (Aside0.mk (HI0.out).1).out 8).trans rfl, (blk_cell (Aside0.mk (HI0.out).1).out 9).trans rfl, (blk_cell (Aside0.mk (HI0.out).1).out 10).trans rfl⟩ (fun hHeld => ?_); clear hK K; refine norm_ (a' := ?_) ?_ ?_; rotate_left
    ·
     show Act.put _ (some 91) _ = _; simp only [Act.put, zA, zB, zC, i64_w, i32_w]; rfl
    refine done_ (done_of HT_.out (by kernel_rfl)) ?_; obtain ⟨HGz36, hgz36⟩ := HI0.out; have hcz36_0 := cellS30_0 HGz36; have hcz36_1 := cellS30_1 HGz36; have hcz36_2 := cellS30_2 HGz36; have hcz36_3 := cellS30_3 HGz36; have hcz36_4 := cellS30_4 HGz36; have hcz36_5 := cellS30_5 HGz36; have hcz36_6 := cellS30_6 HGz36; have hcz36_7 := cellS30_7 HGz36; have hcz36_8 := cellS30_8 HGz36; have hcz36_9 := cellS30_9 HGz36; have hcz36_10 := cellS30_10 HGz36; have hfz36_0 := blk_frozen HGz36 0; have hfz36_1 := blk_frozen HGz36 1; have hfz36_2 := blk_frozen HGz36 2; have hfz36_3 := blk_frozen HGz36 3; have hfz36_4 := blk_frozen HGz36 4; have hfz36_5 := blk_frozen HGz36 5; have hfz36_6 := blk_frozen HGz36 6; have hfz36_7 := blk_frozen HGz36 7; have hfz36_8 := blk_frozen HGz36 8; have hfz36_9 := blk_frozen HGz36 9; have hfz36_10 := blk_frozen HGz36 10; clear HGz36 hgz36
    try go_wp2
    first | go_end0 | ((try simp only [Exit.inBlock, Exit.then]); refine bodyPost_ret (results_none rfl _ _ _) rfl ?_)
    exact ⟨EE, impl_Task_walk.k0 HI0.out, by (with_reducible repeat (first | apply r1 | apply r2 | apply r3)); exact Kd.R_mono (Kd.R_far (p := ⟨g, 4, none⟩) (IsS30.apart HI0.out HO_1.out (by decide)) (fun _ hk => hk.2) (.int .i64 0)) (fun _ hk => hk.1), impl_Task_walk.k2 HB.out, impl_Task_walk.k1 HK.out⟩
   rw [if_neg c24] at H; have c24b0 : (s0_8 == 1) = false := beq_eq_false_iff_ne.mpr c24; have c24b1 : (s0_8 != 1) = true := bne_iff_ne.mpr c24; replace H := Option.bind_eq_some_iff.mp H; obtain ⟨t434, A370, H⟩ := H; have A37 := Aside0.mk A370; clear A370
   by_cases c38 : 0 ≤ t434; rotate_left
   ·
    rw [if_neg c38] at H; exact absurd H (by simp)
   rw [if_pos c38] at H; have c38b0 : decide (0 ≤ t434) = true := decide_eq_true c38; clear c38
   by_cases c39 : t434 < (l1.length : Int); rotate_left
   ·
    rw [if_neg c39] at H; exact absurd H (by simp)
   rw [if_pos c39] at H; have c39b0 : decide (t434 < (l1.length : Int)) = true := decide_eq_true c39; clear c39
   by_cases c40 : (rd l1 t434) < s0_1; rotate_left
   ·
    rw [if_neg c40] at H; have c40b0 : decide ((rd l1 t434) < s0_1) = false := decide_eq_false c40; clear c40; simp only [Option.some.injEq, Prod.mk.injEq] at H; obtain ⟨rfl, rfl, rfl, rfl, rfl, rfl, rfl, rfl, rfl, rfl, rfl, rfl⟩ := H; obtain ⟨HGz45, hgz45⟩ := HI0.out; have hcz45_0 := cellS30_0 HGz45; have hcz45_1 := cellS30_1 HGz45; have hcz45_2 := cellS30_2 HGz45; have hcz45_3 := cellS30_3 HGz45; have hcz45_4 := cellS30_4 HGz45; have hcz45_5 := cellS30_5 HGz45; have hcz45_6 := cellS30_6 HGz45; have hcz45_7 := cellS30_7 HGz45; have hcz45_8 := cellS30_8 HGz45; have hcz45_9 := cellS30_9 HGz45; have hcz45_10 := cellS30_10 HGz45; have hfz45_0 := blk_frozen HGz45 0; have hfz45_1 := blk_frozen HGz45 1; have hfz45_2 := blk_frozen HGz45 2; have hfz45_3 := blk_frozen HGz45 3; have hfz45_4 := blk_frozen HGz45 4; have hfz45_5 := blk_frozen HGz45 5; have hfz45_6 := blk_frozen HGz45 6; have hfz45_7 := blk_frozen HGz45 7; have hfz45_8 := blk_frozen HGz45 8; have hfz45_9 := blk_frozen HGz45 9; have hfz45_10 := blk_frozen HGz45 10; clear HGz45 hgz45
    try go_wp2
    have n0_ := Aside0.mk (Kd.R_drew HO_1.out); have n1_ := Aside0.mk (IsS30.drew HI0.out); have n2_ := Aside0.mk (Kept.drew HK.out); have n3_ := Aside0.mk (below_drew1 HB.out); clear HO_1; clear HI0; clear HK; clear HB; have HO_1 := n0_; have HI0 := n1_; have HK := n2_; have HB := n3_; clear n0_ n1_ n2_ n3_; have p435 : 0 ≤ (t434 : Int) := of_decide_eq_true AS; have q435 : t434 < (l1.length : Int) := of_decide_eq_true AS
    (try (obtain ⟨Ao_, co_, eo_⟩ := Kd.R_slice HO_1.out; subst eo_))
    obtain ⟨ad435, e435, hx435_0⟩ := Kd.at_int (Kd.R_reads' HO_1.out).2.2 t434 p435 q435; cases e435; replace p435 := eq_true p435; replace q435 := eq_true q435; refine start_ (n := 14) (S := fun w' => w'.cell? ⟨g, 0, none⟩ = some (.int .i64 s0_0) ∧ w'.cell? ⟨g, 1, none⟩ = some (.int .i64 s0_1) ∧ w'.cell? ⟨g, 2, none⟩ = some (.int .i64 s0_2) ∧ w'.cell? ⟨g, 3, none⟩ = some (.int .i64 s0_3) ∧ w'.cell? ⟨g, 4, none⟩ = some (.int .i64 s0_4) ∧ w'.cell? ⟨g, 5, none⟩ = some (.int .i64 s0_5) ∧ w'.cell? ⟨g, 6, none⟩ = some (.int .i64 s0_6) ∧ w'.cell? ⟨g, 7, none⟩ = some (.int .i64 s0_7) ∧ w'.cell? ⟨g, 8, none⟩ = some (.int .i64 s0_8) ∧ w'.cell? ⟨g, 9, none⟩ = some (.bool s0_9) ∧ w'.cell? ⟨g, 10, none⟩ = some (.int .i64 s0_10) ∧ w'.cell? (ad435.add (t434).toNat) = some (.int .i64 (rd l1 t434))) (ds := []) #[false, false, false, false, false, false, false, false, false, false, false, false, false, false] (by kernel_rfl) rfl rfl ⟨(blk_cell (Aside0.mk (HI0.out).1).out 0).trans rfl, (blk_cell (Aside0.mk (HI0.out).1).out 1).trans rfl, (blk_cell (Aside0.mk (HI0.out).1).out 2).trans rfl, (blk_cell (Aside0.mk (HI0.out).1).out 3).trans rfl, (blk_cell (Aside0.mk (HI0.out).1).out 4).trans rfl, (blk_cell (Aside0.mk (HI0.out).1).out 5).trans rfl, (blk_cell (Aside0.mk (HI0.out).1).out 6).trans rfl, (blk_cell (Aside0.mk (HI0.out).1).out 7).trans rfl, (blk_cell (Aside0.mk (HI0.out).1).out 8).trans rfl, (blk_cell (Aside0.mk (HI0.out).1).out 9).trans rfl, (blk_cell (Aside0.mk (HI0.out).1).out 10).trans rfl, hx435_0⟩ (fun hHeld => ?_); refine with_tabW impl_Task_walk.tab12 impl_Task_walk.bits12 (fun HT_ HW_ => ?_); generalize wc.drew = w46 at HO_1 HI0 HK HB hx435_0 hHeld ⊢; refine pV 0 106 (OB 14 1) ?_; refine pV 1 107 (OB 14 3) ?_; refine pV 2 108 (OB 14 7) ?_; refine pV 3 109 (OB 14 15) ?_; refine pV 8 114 (OB 14 271) ?_; refine pV 9 115 (OB 14 783) ?_; refine pV 10 116 (OB 14 1807) ?_; refine pT 4 110 (OB 14 1823) ?_; refine pT 11 117 (OB 14 3871) ?_; refine one_ (i := 5) (N := some 111) (OB 14 3903) rfl rfl (one_of HT_.out (by kernel_rfl)) (by decide) (fun K hK => ?_); refine goes_ Try.func77 (by kernel_rfl) rfl #[.int .i64 s0_6] (by rfl) rfl rfl (MA) ?_
    with_reducible refine (impl_keyCell.calls s0_6 t434 _ A37.out).mono ?_
    rintro e w' ⟨rfl, ⟨nd, rfl⟩⟩; refine ⟨_, rfl, ?_⟩; obtain ⟨Ao47, co47, eo47⟩ := Kd.R_slice HO_1.out
    (first | subst eo47 | (injection eo47 with f1_ f2_ f3_; have f4_ := f1_.symm; have f5_ := f3_.symm; clear f1_ f2_ f3_; subst f4_; subst f5_))
    refine hK.out _ _ ⟨(blk_cell (Aside0.mk (HI0.out).1).out 0).trans rfl, (blk_cell (Aside0.mk (HI0.out).1).out 1).trans rfl, (blk_cell (Aside0.mk (HI0.out).1).out 2).trans rfl, (blk_cell (Aside0.mk (HI0.out).1).out 3).trans rfl, (blk_cell (Aside0.mk (HI0.out).1).out 4).trans rfl, (blk_cell (Aside0.mk (HI0.out).1).out 5).trans rfl, (blk_cell (Aside0.mk (HI0.out).1).out 6).trans rfl, (blk_cell (Aside0.mk (HI0.out).1).out 7).trans rfl, (blk_cell (Aside0.mk (HI0.out).1).out 8).trans rfl, (blk_cell (Aside0.mk (HI0.out).1).out 9).trans rfl, (blk_cell (Aside0.mk (HI0.out).1).out 10).trans rfl, hHeld.2.2.2.2.2.2.2.2.2.2.2⟩ (fun hHeld => ?_); clear hK K; refine norm_ (a' := ?_) ?_ ?_; rotate_left
    ·
     show Act.put _ (some 111) _ = _; simp only [Act.put, zA, zB, zC, i64_w, i32_w]; rfl
    refine pV 6 112 (OB 14 3967) ?_; refine pT 7 113 (OB 14 4095) ?_; refine pV 12 118 (OB 14 8191) ?_; refine pV 13 105 (OB 14 16383) ?_; refine done_ (done_of HT_.out (by kernel_rfl)) ?_; obtain ⟨HGz48, hgz48⟩ := HI0.out; have hcz48_0 := cellS30_0 HGz48; have hcz48_1 := cellS30_1 HGz48; have hcz48_2 := cellS30_2 HGz48; have hcz48_3 := cellS30_3 HGz48; have hcz48_4 := cellS30_4 HGz48; have hcz48_5 := cellS30_5 HGz48; have hcz48_6 := cellS30_6 HGz48; have hcz48_7 := cellS30_7 HGz48; have hcz48_8 := cellS30_8 HGz48; have hcz48_9 := cellS30_9 HGz48; have hcz48_10 := cellS30_10 HGz48; have hfz48_0 := blk_frozen HGz48 0; have hfz48_1 := blk_frozen HGz48 1; have hfz48_2 := blk_frozen HGz48 2; have hfz48_3 := blk_frozen HGz48 3; have hfz48_4 := blk_frozen HGz48 4; have hfz48_5 := blk_frozen HGz48 5; have hfz48_6 := blk_frozen HGz48 6; have hfz48_7 := blk_frozen HGz48 7; have hfz48_8 := blk_frozen HGz48 8; have hfz48_9 := blk_frozen HGz48 9; have hfz48_10 := blk_frozen HGz48 10; clear HGz48 hgz48
    try go_wp2
    first | go_end0 | ((try simp only [Exit.inBlock, Exit.then]); refine bodyPost_ret (results_none rfl _ _ _) rfl ?_)
    exact ⟨EE, impl_Task_walk.k0 HI0.out, by (with_reducible repeat (first | apply r1 | apply r2 | apply r3)); exact Kd.R_mono (Kd.R_far (p := ⟨g, 4, none⟩) (IsS30.apart HI0.out HO_1.out (by decide)) (fun _ hk => hk.2) (.int .i64 3)) (fun _ hk => hk.1), impl_Task_walk.k2 HB.out, impl_Task_walk.k1 HK.out⟩
   rw [if_pos c40] at H; have c40b0 : decide ((rd l1 t434) < s0_1) = true := decide_eq_true c40; clear c40; simp only [Option.some.injEq, Prod.mk.injEq] at H; obtain ⟨rfl, rfl, rfl, rfl, rfl, rfl, rfl, rfl, rfl, rfl, rfl, rfl⟩ := H; obtain ⟨HGz41, hgz41⟩ := HI0.out; have hcz41_0 := cellS30_0 HGz41; have hcz41_1 := cellS30_1 HGz41; have hcz41_2 := cellS30_2 HGz41; have hcz41_3 := cellS30_3 HGz41; have hcz41_4 := cellS30_4 HGz41; have hcz41_5 := cellS30_5 HGz41; have hcz41_6 := cellS30_6 HGz41; have hcz41_7 := cellS30_7 HGz41; have hcz41_8 := cellS30_8 HGz41; have hcz41_9 := cellS30_9 HGz41; have hcz41_10 := cellS30_10 HGz41; have hfz41_0 := blk_frozen HGz41 0; have hfz41_1 := blk_frozen HGz41 1; have hfz41_2 := blk_frozen HGz41 2; have hfz41_3 := blk_frozen HGz41 3; have hfz41_4 := blk_frozen HGz41 4; have hfz41_5 := blk_frozen HGz41 5; have hfz41_6 := blk_frozen HGz41 6; have hfz41_7 := blk_frozen HGz41 7; have hfz41_8 := blk_frozen HGz41 8; have hfz41_9 := blk_frozen HGz41 9; have hfz41_10 := blk_frozen HGz41 10; clear HGz41 hgz41
   try go_wp2
   have n0_ := Aside0.mk (Kd.R_drew HO_1.out); have n1_ := Aside0.mk (IsS30.drew HI0.out); have n2_ := Aside0.mk (Kept.drew HK.out); have n3_ := Aside0.mk (below_drew1 HB.out); clear HO_1; clear HI0; clear HK; clear HB; have HO_1 := n0_; have HI0 := n1_; have HK := n2_; have HB := n3_; clear n0_ n1_ n2_ n3_; have p435 : 0 ≤ (t434 : Int) := of_decide_eq_true AS; have q435 : t434 < (l1.length : Int) := of_decide_eq_true AS
   (try (obtain ⟨Ao_, co_, eo_⟩ := Kd.R_slice HO_1.out; subst eo_))
   obtain ⟨ad435, e435, hx435_0⟩ := Kd.at_int (Kd.R_reads' HO_1.out).2.2 t434 p435 q435; cases e435; replace p435 := eq_true p435; replace q435 := eq_true q435; refine start_ (n := 14) (S := fun w' => w'.cell? ⟨g, 0, none⟩ = some (.int .i64 s0_0) ∧ w'.cell? ⟨g, 1, none⟩ = some (.int .i64 s0_1) ∧ w'.cell? ⟨g, 2, none⟩ = some (.int .i64 s0_2) ∧ w'.cell? ⟨g, 3, none⟩ = some (.int .i64 s0_3) ∧ w'.cell? ⟨g, 4, none⟩ = some (.int .i64 s0_4) ∧ w'.cell? ⟨g, 5, none⟩ = some (.int .i64 s0_5) ∧ w'.cell? ⟨g, 6, none⟩ = some (.int .i64 s0_6) ∧ w'.cell? ⟨g, 7, none⟩ = some (.int .i64 s0_7) ∧ w'.cell? ⟨g, 8, none⟩ = some (.int .i64 s0_8) ∧ w'.cell? ⟨g, 9, none⟩ = some (.bool s0_9) ∧ w'.cell? ⟨g, 10, none⟩ = some (.int .i64 s0_10) ∧ w'.cell? (ad435.add (t434).toNat) = some (.int .i64 (rd l1 t434))) (ds := []) #[false, false, false, false, false, false, false, false, false, false, false, false, false, false] (by kernel_rfl) rfl rfl ⟨(blk_cell (Aside0.mk (HI0.out).1).out 0).trans rfl, (blk_cell (Aside0.mk (HI0.out).1).out 1).trans rfl, (blk_cell (Aside0.mk (HI0.out).1).out 2).trans rfl, (blk_cell (Aside0.mk (HI0.out).1).out 3).trans rfl, (blk_cell (Aside0.mk (HI0.out).1).out 4).trans rfl, (blk_cell (Aside0.mk (HI0.out).1).out 5).trans rfl, (blk_cell (Aside0.mk (HI0.out).1).out 6).trans rfl, (blk_cell (Aside0.mk (HI0.out).1).out 7).trans rfl, (blk_cell (Aside0.mk (HI0.out).1).out 8).trans rfl, (blk_cell (Aside0.mk (HI0.out).1).out 9).trans rfl, (blk_cell (Aside0.mk (HI0.out).1).out 10).trans rfl, hx435_0⟩ (fun hHeld => ?_); refine with_tabW impl_Task_walk.tab12 impl_Task_walk.bits12 (fun HT_ HW_ => ?_); generalize wc.drew = w42 at HO_1 HI0 HK HB hx435_0 hHeld ⊢; refine pV 0 106 (OB 14 1) ?_; refine pV 1 107 (OB 14 3) ?_; refine pV 2 108 (OB 14 7) ?_; refine pV 3 109 (OB 14 15) ?_; refine pV 8 114 (OB 14 271) ?_; refine pV 9 115 (OB 14 783) ?_; refine pV 10 116 (OB 14 1807) ?_; refine pT 4 110 (OB 14 1823) ?_; refine pT 11 117 (OB 14 3871) ?_; refine one_ (i := 5) (N := some 111) (OB 14 3903) rfl rfl (one_of HT_.out (by kernel_rfl)) (by decide) (fun K hK => ?_); refine goes_ Try.func77 (by kernel_rfl) rfl #[.int .i64 s0_6] (by rfl) rfl rfl (MA) ?_
   with_reducible refine (impl_keyCell.calls s0_6 t434 _ A37.out).mono ?_
   rintro e w' ⟨rfl, ⟨nd, rfl⟩⟩; refine ⟨_, rfl, ?_⟩; obtain ⟨Ao43, co43, eo43⟩ := Kd.R_slice HO_1.out
   (first | subst eo43 | (injection eo43 with f1_ f2_ f3_; have f4_ := f1_.symm; have f5_ := f3_.symm; clear f1_ f2_ f3_; subst f4_; subst f5_))
   refine hK.out _ _ ⟨(blk_cell (Aside0.mk (HI0.out).1).out 0).trans rfl, (blk_cell (Aside0.mk (HI0.out).1).out 1).trans rfl, (blk_cell (Aside0.mk (HI0.out).1).out 2).trans rfl, (blk_cell (Aside0.mk (HI0.out).1).out 3).trans rfl, (blk_cell (Aside0.mk (HI0.out).1).out 4).trans rfl, (blk_cell (Aside0.mk (HI0.out).1).out 5).trans rfl, (blk_cell (Aside0.mk (HI0.out).1).out 6).trans rfl, (blk_cell (Aside0.mk (HI0.out).1).out 7).trans rfl, (blk_cell (Aside0.mk (HI0.out).1).out 8).trans rfl, (blk_cell (Aside0.mk (HI0.out).1).out 9).trans rfl, (blk_cell (Aside0.mk (HI0.out).1).out 10).trans rfl, hHeld.2.2.2.2.2.2.2.2.2.2.2⟩ (fun hHeld => ?_); clear hK K; refine norm_ (a' := ?_) ?_ ?_; rotate_left
   ·
    show Act.put _ (some 111) _ = _; simp only [Act.put, zA, zB, zC, i64_w, i32_w]; rfl
   refine pV 6 112 (OB 14 3967) ?_; refine pT 7 113 (OB 14 4095) ?_; refine pV 12 118 (OB 14 8191) ?_; refine pV 13 105 (OB 14 16383) ?_; refine done_ (done_of HT_.out (by kernel_rfl)) ?_
   try go_wp2
   (try (rw [drewN_self w42]; generalize hq_ : World.drewN w42 _ = w42; have n0_ : Aside0 (Kd.R (Kd.int .i64) 3 w42 w0.heap.size (fun k_ => (P1_ k_ ∨ wv.heap.size ≤ k_)) (.slice (some ad435) l1.length co43) l1) := ⟨by rw [← hq_]; exact (RQ HO_1.out)⟩; have n1_ : Aside0 (IsS30 w0 w42 g s0_0 s0_1 s0_2 s0_3 s0_4 s0_5 s0_6 s0_7 s0_8 s0_9 s0_10) := ⟨by rw [← hq_]; exact (impl_Task_walk.k0 HI0.out)⟩; have n2_ : Aside0 (Kept wv w42 (fun k_ => (P1_ k_) ∨ k_ = g)) := ⟨by rw [← hq_]; exact (impl_Task_walk.k1 HK.out)⟩; have n3_ : Aside0 (Below w0.heap.size w0 w42) := ⟨by rw [← hq_]; exact (impl_Task_walk.k2 HB.out)⟩; clear HO_1 HI0 HK HB hq_; have HO_1 := n0_; have HI0 := n1_; have HK := n2_; have HB := n3_; clear n0_ n1_ n2_ n3_)); have hczY_0 := cellS30_0 (HI0.out).1; have hczY_1 := cellS30_1 (HI0.out).1; have hczY_2 := cellS30_2 (HI0.out).1; have hczY_3 := cellS30_3 (HI0.out).1; have hczY_4 := cellS30_4 (HI0.out).1; have hczY_5 := cellS30_5 (HI0.out).1; have hczY_6 := cellS30_6 (HI0.out).1; have hczY_7 := cellS30_7 (HI0.out).1; have hczY_8 := cellS30_8 (HI0.out).1; have hczY_9 := cellS30_9 (HI0.out).1; have hczY_10 := cellS30_10 (HI0.out).1; have hfzY_0 := blk_frozen (HI0.out).1 0; have hfzY_1 := blk_frozen (HI0.out).1 1; have hfzY_2 := blk_frozen (HI0.out).1 2; have hfzY_3 := blk_frozen (HI0.out).1 3; have hfzY_4 := blk_frozen (HI0.out).1 4; have hfzY_5 := blk_frozen (HI0.out).1 5; have hfzY_6 := blk_frozen (HI0.out).1 6; have hfzY_7 := blk_frozen (HI0.out).1 7; have hfzY_8 := blk_frozen (HI0.out).1 8; have hfzY_9 := blk_frozen (HI0.out).1 9; have hfzY_10 := blk_frozen (HI0.out).1 10
   have n0_ := Aside0.mk (Kd.R_drew HO_1.out); have n1_ := Aside0.mk (IsS30.drew HI0.out); have n2_ := Aside0.mk (Kept.drew HK.out); have n3_ := Aside0.mk (below_drew1 HB.out); clear HO_1; clear HI0; clear HK; clear HB; have HO_1 := n0_; have HI0 := n1_; have HK := n2_; have HB := n3_; clear n0_ n1_ n2_ n3_; refine start_ (n := 20) (S := fun w' => w'.cell? ⟨g, 0, none⟩ = some (.int .i64 s0_0) ∧ w'.cell? ⟨g, 1, none⟩ = some (.int .i64 s0_1) ∧ w'.cell? ⟨g, 2, none⟩ = some (.int .i64 s0_2) ∧ w'.cell? ⟨g, 3, none⟩ = some (.int .i64 s0_3) ∧ w'.cell? ⟨g, 4, none⟩ = some (.int .i64 s0_4) ∧ w'.cell? ⟨g, 5, none⟩ = some (.int .i64 s0_5) ∧ w'.cell? ⟨g, 6, none⟩ = some (.int .i64 s0_6) ∧ w'.cell? ⟨g, 7, none⟩ = some (.int .i64 s0_7) ∧ w'.cell? ⟨g, 8, none⟩ = some (.int .i64 s0_8) ∧ w'.cell? ⟨g, 9, none⟩ = some (.bool s0_9) ∧ w'.cell? ⟨g, 10, none⟩ = some (.int .i64 s0_10)) (ds := [13, 16, 19]) #[false, false, false, false, false, false, false, false, false, false, false, false, false, false, false, false, false, false, false, false] (by kernel_rfl) rfl rfl ⟨(blk_cell (Aside0.mk (HI0.out).1).out 0).trans rfl, (blk_cell (Aside0.mk (HI0.out).1).out 1).trans rfl, (blk_cell (Aside0.mk (HI0.out).1).out 2).trans rfl, (blk_cell (Aside0.mk (HI0.out).1).out 3).trans rfl, (blk_cell (Aside0.mk (HI0.out).1).out 4).trans rfl, (blk_cell (Aside0.mk (HI0.out).1).out 5).trans rfl, (blk_cell (Aside0.mk (HI0.out).1).out 6).trans rfl, (blk_cell (Aside0.mk (HI0.out).1).out 7).trans rfl, (blk_cell (Aside0.mk (HI0.out).1).out 8).trans rfl, (blk_cell (Aside0.mk (HI0.out).1).out 9).trans rfl, (blk_cell (Aside0.mk (HI0.out).1).out 10).trans rfl⟩ (fun hHeld => ?_); refine with_tabW impl_Task_walk.tab13 impl_Task_walk.bits13 (fun HT_ HW_ => ?_); generalize w42.drew = w44 at HO_1 HI0 HK HB hHeld ⊢; have hczY_0 := cellS30_0 (HI0.out).1; have hczY_1 := cellS30_1 (HI0.out).1; have hczY_2 := cellS30_2 (HI0.out).1; have hczY_3 := cellS30_3 (HI0.out).1; have hczY_4 := cellS30_4 (HI0.out).1; have hczY_5 := cellS30_5 (HI0.out).1; have hczY_6 := cellS30_6 (HI0.out).1; have hczY_7 := cellS30_7 (HI0.out).1; have hczY_8 := cellS30_8 (HI0.out).1; have hczY_9 := cellS30_9 (HI0.out).1; have hczY_10 := cellS30_10 (HI0.out).1; have hfzY_0 := blk_frozen (HI0.out).1 0; have hfzY_1 := blk_frozen (HI0.out).1 1; have hfzY_2 := blk_frozen (HI0.out).1 2; have hfzY_3 := blk_frozen (HI0.out).1 3; have hfzY_4 := blk_frozen (HI0.out).1 4; have hfzY_5 := blk_frozen (HI0.out).1 5; have hfzY_6 := blk_frozen (HI0.out).1 6; have hfzY_7 := blk_frozen (HI0.out).1 7; have hfzY_8 := blk_frozen (HI0.out).1 8; have hfzY_9 := blk_frozen (HI0.out).1 9; have hfzY_10 := blk_frozen (HI0.out).1 10; refine pV 0 119 (OB 20 1) ?_; refine pV 1 120 (OB 20 3) ?_; refine pV 2 121 (OB 20 7) ?_; refine pV 3 122 (OB 20 15) ?_; refine pV 4 123 (OB 20 31) ?_; refine pV 5 124 (OB 20 63) ?_; refine pV 7 126 (OB 20 191) ?_; refine pV 8 127 (OB 20 447) ?_; refine pV 9 128 (OB 20 959) ?_; refine pT 6 125 (OB 20 1023) ?_; refine pT 10 129 (OB 20 2047) ?_; refine pV 11 130 (OB 20 4095) ?_; refine pV 12 131 (OB 20 8191) ?_; refine last_ (i := 13) (N := none) #[true, true, true, true, true, true, true, true, true, true, true, true, true, true, false, false, false, false, false, false] rfl rfl (one_of HT_.out (by kernel_rfl)) (by decide) (fun K hK => ?_); refine skip_ (w1 := ?_) (by rfl) rfl ?_ ?_; rotate_left
   ·
    go_simp
    rfl
   refine hK.out _ _ ?_; clear hK K; refine pV 14 132 (OB 20 32767) ?_; refine pV 15 133 (OB 20 65535) ?_; refine last_ (i := 16) (N := none) #[true, true, true, true, true, true, true, true, true, true, true, true, true, true, true, true, true, false, false, false] rfl rfl (one_of HT_.out (by kernel_rfl)) (by decide) (fun K hK => ?_); refine skip_ (w1 := ?_) (by rfl) rfl ?_ ?_; rotate_left
   ·
    go_simp
    rfl
   refine hK.out _ _ ?_; clear hK K; refine pV 17 134 (OB 20 262143) ?_; refine pV 18 135 (OB 20 524287) ?_; refine last_ (i := 19) (N := none) #[true, true, true, true, true, true, true, true, true, true, true, true, true, true, true, true, true, true, true, true] rfl rfl (one_of HT_.out (by kernel_rfl)) (by decide) (fun K hK => ?_); refine skip_ (w1 := ?_) (by rfl) rfl ?_ ?_; rotate_left
   ·
    go_simp
    rfl
   refine hK.out _ _ ?_; clear hK K; refine done_ (done_of HT_.out (by kernel_rfl)) ?_
   try go_wp2
   first | go_end0 | ((try simp only [Exit.inBlock, Exit.then]); refine bodyPost_ret (results_none rfl _ _ _) rfl ?_)
   exact ⟨EE, impl_Task_walk.k0 HI0.out, by (with_reducible repeat (first | apply r1 | apply r2 | apply r3)); exact Kd.R_mono (Kd.R_far (p := ⟨g, 4, none⟩) (Kd.R_far (p := ⟨g, 6, none⟩) (Kd.R_far (p := ⟨g, 5, none⟩) (IsS30.apart HI0.out HO_1.out (by decide)) (fun _ hk => hk.2) (.int .i64 s0_6)) (fun _ hk => hk.2) (.int .i64 s0_7)) (fun _ hk => hk.2) (.int .i64 1)) (fun _ hk => hk.1), impl_Task_walk.k2 HB.out, impl_Task_walk.k1 HK.out⟩

end Go.Proofs.Ytfkhncoiifojnaa.Qrt
