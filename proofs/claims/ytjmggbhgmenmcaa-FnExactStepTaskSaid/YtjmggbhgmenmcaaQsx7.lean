-- Laid by myprint.py, a program of this session's own, over the kit's print. Not trusted: Lean checks it.
import Derived.Test.YtjmggbhgmenmcaaQsx0
import Derived.Test.YtjmggbhgmenmcaaQsx2
import Derived.Test.YtjmggbhgmenmcaaQsx5
import Derived.Test.YtjmggbhgmenmcaaQsx6
namespace Go.Proofs.Ytjmggbhgmenmcaa.Qs
open Go.RowKit Go.Proofs.YtjmggbhgmenmcaaW.PrintWords Go.Proofs.YtjmggbhgmenmcaaW.PrintLast Go.Proofs.YtjmggbhgmenmcaaW.PrintMore
attribute [local go_sem] Go.Proofs.Ytjmggbhgmenmcaa.StrCmp.gtr_less Go.Proofs.Ytjmggbhgmenmcaa.StrCmp.geq_less Go.Proofs.Ytjmggbhgmenmcaa.StrCmp.leq_less max2_int min2_int max_two min_two max_three min_three max_four min_four   -- for this text's walks alone
set_option linter.unusedVariables false
set_option linter.unusedSimpArgs false

/-! ### impl_Task_nobody: function 87 -/
def impl_Task_nobody.f (s0_0 : Int) (s0_1 : Int) (s0_2 : Int) (s0_3 : Int) (s0_4 : Int) (s0_5 : Int) (s0_6 : Int) (s0_7 : Int) (s0_8 : Int) (s0_9 : Bool) (s0_10 : Int) (l1 : List Int) : Option (Int × Int × Int × Int × Int × Int × Int × Int × Int × Bool × Int × List Int) := if s0_0 = 2 then ((impl_keyCell.f s0_3).bind fun t242 => ((impl_valCell.f s0_3).bind fun t243 => ((impl_wordCell.f s0_3).bind fun t244 => (if 0 ≤ t242 then (if t242 < (l1.length : Int) then (if 0 ≤ t243 then (if t243 < (l1.length : Int) then (if 0 ≤ t244 then (if t244 < (l1.length : Int) then (some (s0_0, s0_1, s0_2, s0_3, 4, s0_5, s0_6, s0_7, s0_8, s0_9, s0_10, (((l1.set (t242 : Int).toNat s0_1).set (t243 : Int).toNat s0_2).set (t244 : Int).toNat (wrap64 (2 * s0_6))))) else (none)) else (none)) else (none)) else (none)) else (none)) else (none))))) else ((impl_Task_done.f s0_0 s0_1 s0_2 s0_3 s0_4 s0_5 s0_6 s0_7 s0_8 s0_9 s0_10 0).bind fun bt248 => (some (bt248.1, bt248.2.1, bt248.2.2.1, bt248.2.2.2.1, bt248.2.2.2.2.1, bt248.2.2.2.2.2.1, bt248.2.2.2.2.2.2.1, bt248.2.2.2.2.2.2.2.1, bt248.2.2.2.2.2.2.2.2.1, bt248.2.2.2.2.2.2.2.2.2.1, bt248.2.2.2.2.2.2.2.2.2.2, l1)))
def impl_Task_nobody.T2 : Bool × List (List Nat × List Nat) := (true, [([], []), ([], []), ([1], [1]), ([2], [2]), ([3], [3]), ([4], [4]), ([], []), ([], []), ([7], [7]), ([8], [8]), ([9], [9]), ([10, 5], [10]), ([], []), ([], []), ([13], [13]), ([14], [14]), ([15], [15]), ([16, 11], [16]), ([], []), ([18], [18]), ([19], [19]), ([20], [20]), ([], []), ([22], [22]), ([23], [23]), ([24], [24]), ([], []), ([26], [26]), ([27], [27]), ([28], [28]), ([29], [29]), ([0, 5, 0, 1, 2, 3, 4, 5, 10, 11, 16, 17, 18, 19, 20, 21, 25, 29], [0, 5]), ([31, 21, 17, 0, 1, 2, 3, 4, 5, 10, 11, 16, 17, 18, 19, 20, 21, 25, 29], [21, 31]), ([6, 11, 0, 1, 2, 3, 4, 5, 6, 7, 8, 9, 10, 11, 16, 17, 18, 19, 20, 21, 22, 23, 24, 25, 29, 31, 32], [6, 11]), ([33, 25, 32, 0, 1, 2, 3, 4, 5, 6, 7, 8, 9, 10, 11, 16, 17, 18, 19, 20, 21, 22, 23, 24, 25, 29, 31, 32], [25, 33]), ([12, 17, 0, 1, 2, 3, 4, 5, 6, 7, 8, 9, 10, 11, 12, 13, 14, 15, 16, 17, 18, 19, 20, 21, 22, 23, 24, 25, 26, 27, 28, 29, 30, 31, 32, 33, 34], [12, 17]), ([35, 30, 34, 0, 1, 2, 3, 4, 5, 6, 7, 8, 9, 10, 11, 12, 13, 14, 15, 16, 17, 18, 19, 20, 21, 22, 23, 24, 25, 26, 27, 28, 29, 30, 31, 32, 33, 34], [30, 35])])
def impl_Task_nobody.B2 : List Nat := [0, 0, 2, 6, 14, 30, 0, 0, 128, 384, 896, 1982, 0, 0, 8192, 24576, 57344, 126910, 0, 262144, 786432, 1835008, 0, 4194304, 12582912, 29360128, 0, 67108864, 201326592, 469762048, 1006632960, 1073737663, 3221221311, 7516188671, 16106123263, 34359738367, 68719476735]
theorem impl_Task_nobody.tab2 : rtab .any (opsOf Try.f87 2) = impl_Task_nobody.T2 := by kernel_rfl
theorem impl_Task_nobody.bits2 : waitsOk impl_Task_nobody.T2.2 impl_Task_nobody.B2 = true := by kernel_rfl
set_option maxHeartbeats 8000000 in
set_option maxRecDepth 100000 in
theorem impl_Task_nobody.calls (g : Nat) (s0_0 : Int) (s0_1 : Int) (s0_2 : Int) (s0_3 : Int) (s0_4 : Int) (s0_5 : Int) (s0_6 : Int) (s0_7 : Int) (s0_8 : Int) (s0_9 : Bool) (s0_10 : Int) (P1_ : Nat → Prop) (u9000_ : Value) (l1 : List Int) (r1 : Int) (r2 : Int) (r3 : Int) (r4 : Int) (r5 : Int) (r6 : Int) (r7 : Int) (r8 : Int) (r9 : Int) (r10 : Bool) (r11 : Int) (r12 : List Int) (w0 w : World) (hI : IsS46 w0 w g s0_0 s0_1 s0_2 s0_3 s0_4 s0_5 s0_6 s0_7 s0_8 s0_9 s0_10) (hB : Below w0.heap.size w0 w) (ho1 : Kd.R (Kd.int .i64) 3 w w0.heap.size P1_ u9000_ l1) (h : impl_Task_nobody.f s0_0 s0_1 s0_2 s0_3 s0_4 s0_5 s0_6 s0_7 s0_8 s0_9 s0_10 l1 = some (r1, r2, r3, r4, r5, r6, r7, r8, r9, r10, r11, r12)) :
  Calls Try.prog 87 #[.pointer (some ⟨g, 0, none⟩), u9000_] w fun e w' => e = .returned (.tuple #[]) ∧ IsS46 w0 w' g r1 r2 r3 r4 r5 r6 r7 r8 r9 r10 r11 ∧ Kd.R (Kd.int .i64) 3 w' w0.heap.size (fun k_ => (P1_ k_ ∨ w.heap.size ≤ k_)) u9000_ r12 ∧ Below w0.heap.size w0 w' ∧ Kept w w' (fun k_ => (P1_ k_) ∨ k_ = g) := by
 have HO1 := Aside0.mk (show Kd.R (Kd.int .i64) 3 w w0.heap.size (fun k_ => (P1_ k_ ∨ w.heap.size ≤ k_)) u9000_ l1 from Kd.R_mono ho1 (fun k_ hk => (.inl hk)))
 have HI0 := Aside0.mk hI
 have HL := Aside0.mk hB.size
 clear hI
 have HK := Aside0.mk (Kept.refl w (fun k_ => (P1_ k_) ∨ k_ = g))
 have HW0 := Aside0.mk hB.size
 have HB := Aside0.mk hB
 clear hB
 have H : (if s0_0 = 2 then ((impl_keyCell.f s0_3).bind fun t242 => ((impl_valCell.f s0_3).bind fun t243 => ((impl_wordCell.f s0_3).bind fun t244 => (if 0 ≤ t242 then (if t242 < (l1.length : Int) then (if 0 ≤ t243 then (if t243 < (l1.length : Int) then (if 0 ≤ t244 then (if t244 < (l1.length : Int) then (some (s0_0, s0_1, s0_2, s0_3, 4, s0_5, s0_6, s0_7, s0_8, s0_9, s0_10, (((l1.set (t242 : Int).toNat s0_1).set (t243 : Int).toNat s0_2).set (t244 : Int).toNat (wrap64 (2 * s0_6))))) else (none)) else (none)) else (none)) else (none)) else (none)) else (none))))) else ((impl_Task_done.f s0_0 s0_1 s0_2 s0_3 s0_4 s0_5 s0_6 s0_7 s0_8 s0_9 s0_10 0).bind fun bt248 => (some (bt248.1, bt248.2.1, bt248.2.2.1, bt248.2.2.2.1, bt248.2.2.2.2.1, bt248.2.2.2.2.2.1, bt248.2.2.2.2.2.2.1, bt248.2.2.2.2.2.2.2.1, bt248.2.2.2.2.2.2.2.2.1, bt248.2.2.2.2.2.2.2.2.2.1, bt248.2.2.2.2.2.2.2.2.2.2, l1)))) = some (r1, r2, r3, r4, r5, r6, r7, r8, r9, r10, r11, r12) := h
 clear h
 by_cases c3 : s0_0 = 2; rotate_left
 ·
  rw [if_neg c3] at H
  have c3b0 : (s0_0 == 2) = false := beq_eq_false_iff_ne.mpr c3
  have c3b1 : (s0_0 != 2) = true := bne_iff_ne.mpr c3
  replace H := Option.bind_eq_some_iff.mp H
  obtain ⟨⟨t248, t249, t250, t251, t252, t253, t254, t255, t256, t257, t258⟩, A230, H⟩ := H
  replace H : (some (t248, t249, t250, t251, t252, t253, t254, t255, t256, t257, t258, l1)) = some (r1, r2, r3, r4, r5, r6, r7, r8, r9, r10, r11, r12) := H
  have A23 := Aside0.mk A230
  clear A230
  simp only [Option.some.injEq, Prod.mk.injEq] at H
  obtain ⟨rfl, rfl, rfl, rfl, rfl, rfl, rfl, rfl, rfl, rfl, rfl, rfl⟩ := H
  obtain ⟨HGz24, hgz24⟩ := HI0.out
  have hcz24_0 := cellS46_0 HGz24
  have hcz24_1 := cellS46_1 HGz24
  have hcz24_2 := cellS46_2 HGz24
  have hcz24_3 := cellS46_3 HGz24
  have hcz24_4 := cellS46_4 HGz24
  have hcz24_5 := cellS46_5 HGz24
  have hcz24_6 := cellS46_6 HGz24
  have hcz24_7 := cellS46_7 HGz24
  have hcz24_8 := cellS46_8 HGz24
  have hcz24_9 := cellS46_9 HGz24
  have hcz24_10 := cellS46_10 HGz24
  have hfz24_0 := blk_frozen HGz24 0
  have hfz24_1 := blk_frozen HGz24 1
  have hfz24_2 := blk_frozen HGz24 2
  have hfz24_3 := blk_frozen HGz24 3
  have hfz24_4 := blk_frozen HGz24 4
  have hfz24_5 := blk_frozen HGz24 5
  have hfz24_6 := blk_frozen HGz24 6
  have hfz24_7 := blk_frozen HGz24 7
  have hfz24_8 := blk_frozen HGz24 8
  have hfz24_9 := blk_frozen HGz24 9
  have hfz24_10 := blk_frozen HGz24 10
  clear HGz24 hgz24
  go_enter Try.func87, Try.ntmps87
  go_wp2_with (first | ((with_reducible refine gate_callee (f := 83) rfl ?_); refine goesL_ (some 10) rfl rfl Try.func83 (by kernel_rfl) rfl #[.pointer (some ⟨g, 0, none⟩), .int .i64 0] rfl (MA) ?_; (with_reducible refine (impl_Task_done.calls g s0_0 s0_1 s0_2 s0_3 s0_4 s0_5 s0_6 s0_7 s0_8 s0_9 s0_10 0 t248 t249 t250 t251 t252 t253 t254 t255 t256 t257 t258 w0 _ ?side1 ?side2 A23.out).mono ?_); (case side1 => repeat (first | (with_reducible first | exact HI0.out | apply IsS46.alloc | apply IsS46.drewN | apply IsS46.drew | apply IsS46.set_0 | apply IsS46.set_1 | apply IsS46.set_2 | apply IsS46.set_3 | apply IsS46.set_4 | apply IsS46.set_5 | apply IsS46.set_6 | apply IsS46.set_7 | apply IsS46.set_8 | apply IsS46.set_9 | apply IsS46.set_10) | exact HI0.out)); (case side2 => repeat (first | (with_reducible first | exact HB.out | apply below_alloc | apply pw_below_drewN | apply below_drew1 | refine below_set ?_ (IsS46.ge HI0.out)) | exact HB.out)); rintro e w25 ⟨rfl, hi, hb, hk⟩; refine ⟨_, rfl, ?_⟩; replace HO1 := Aside0.mk (Kd.R_mono (Kd.R_keep (IsS46.apart (show IsS46 w0 _ g s0_0 s0_1 s0_2 s0_3 s0_4 s0_5 s0_6 s0_7 s0_8 s0_9 s0_10 from by repeat (first | (with_reducible first | exact HI0.out | apply IsS46.alloc | apply IsS46.drewN | apply IsS46.drew | apply IsS46.set_0 | apply IsS46.set_1 | apply IsS46.set_2 | apply IsS46.set_3 | apply IsS46.set_4 | apply IsS46.set_5 | apply IsS46.set_6 | apply IsS46.set_7 | apply IsS46.set_8 | apply IsS46.set_9 | apply IsS46.set_10) | exact HI0.out)) (RQ HO1.out) (by decide)) hk (fun _ h => h.2)) (fun _ h => h.1)); replace HK := Aside0.mk (Kept.of_keep (S := (fun k_ => (P1_ k_) ∨ k_ = g)) (by repeat (first | (with_reducible first | exact HK.out | apply Kept.alloc | apply Kept.drewN | apply Kept.drew | refine Kept.setCell ?_ (.inl (.inr rfl)) _) | exact HK.out)) hk (.inl (.inr rfl))); replace HB := Aside0.mk (hb); replace HI0 := Aside0.mk (hi); (try clear hb); (try clear hb2); (try clear hk); (try clear hi)))
  first | go_end0 | ((try simp only [Exit.inBlock, Exit.then]); refine bodyPost_ret (results_none rfl _ _ _) rfl ?_)
  exact ⟨EE, by repeat (first | (with_reducible first | exact HI0.out | apply IsS46.alloc | apply IsS46.drewN | apply IsS46.drew | apply IsS46.set_0 | apply IsS46.set_1 | apply IsS46.set_2 | apply IsS46.set_3 | apply IsS46.set_4 | apply IsS46.set_5 | apply IsS46.set_6 | apply IsS46.set_7 | apply IsS46.set_8 | apply IsS46.set_9 | apply IsS46.set_10) | exact HI0.out), RQ HO1.out, by repeat (first | (with_reducible first | exact HB.out | apply below_alloc | apply pw_below_drewN | apply below_drew1 | refine below_set ?_ (IsS46.ge HI0.out)) | exact HB.out), by repeat (first | (with_reducible first | exact HK.out | apply Kept.alloc | apply Kept.drewN | apply Kept.drew | refine Kept.setCell ?_ (.inl (.inr rfl)) _) | exact HK.out)⟩
 rw [if_pos c3] at H
 have c3b0 : (s0_0 == 2) = true := beq_iff_eq.mpr c3
 have c3b1 : (s0_0 != 2) = false := bne_eq_false_iff_eq.mpr c3
 clear c3
 replace H := Option.bind_eq_some_iff.mp H
 obtain ⟨t242, A40, H⟩ := H
 replace H : ((impl_valCell.f s0_3).bind fun t243 => ((impl_wordCell.f s0_3).bind fun t244 => (if 0 ≤ t242 then (if t242 < (l1.length : Int) then (if 0 ≤ t243 then (if t243 < (l1.length : Int) then (if 0 ≤ t244 then (if t244 < (l1.length : Int) then (some (s0_0, s0_1, s0_2, s0_3, 4, s0_5, s0_6, s0_7, s0_8, s0_9, s0_10, (((l1.set (t242 : Int).toNat s0_1).set (t243 : Int).toNat s0_2).set (t244 : Int).toNat (wrap64 (2 * s0_6))))) else (none)) else (none)) else (none)) else (none)) else (none)) else (none)))) = some (r1, r2, r3, r4, r5, r6, r7, r8, r9, r10, r11, r12) := H
 have A4 := Aside0.mk A40
 clear A40
 replace H := Option.bind_eq_some_iff.mp H
 obtain ⟨t243, A50, H⟩ := H
 replace H : ((impl_wordCell.f s0_3).bind fun t244 => (if 0 ≤ t242 then (if t242 < (l1.length : Int) then (if 0 ≤ t243 then (if t243 < (l1.length : Int) then (if 0 ≤ t244 then (if t244 < (l1.length : Int) then (some (s0_0, s0_1, s0_2, s0_3, 4, s0_5, s0_6, s0_7, s0_8, s0_9, s0_10, (((l1.set (t242 : Int).toNat s0_1).set (t243 : Int).toNat s0_2).set (t244 : Int).toNat (wrap64 (2 * s0_6))))) else (none)) else (none)) else (none)) else (none)) else (none)) else (none))) = some (r1, r2, r3, r4, r5, r6, r7, r8, r9, r10, r11, r12) := H
 have A5 := Aside0.mk A50
 clear A50
 replace H := Option.bind_eq_some_iff.mp H
 obtain ⟨t244, A60, H⟩ := H
 replace H : (if 0 ≤ t242 then (if t242 < (l1.length : Int) then (if 0 ≤ t243 then (if t243 < (l1.length : Int) then (if 0 ≤ t244 then (if t244 < (l1.length : Int) then (some (s0_0, s0_1, s0_2, s0_3, 4, s0_5, s0_6, s0_7, s0_8, s0_9, s0_10, (((l1.set (t242 : Int).toNat s0_1).set (t243 : Int).toNat s0_2).set (t244 : Int).toNat (wrap64 (2 * s0_6))))) else (none)) else (none)) else (none)) else (none)) else (none)) else (none)) = some (r1, r2, r3, r4, r5, r6, r7, r8, r9, r10, r11, r12) := H
 have A6 := Aside0.mk A60
 clear A60
 by_cases c7 : 0 ≤ t242; rotate_left
 ·
  rw [if_neg c7] at H
  exact absurd H (by simp)
 rw [if_pos c7] at H
 have c7b0 : decide (0 ≤ t242) = true := decide_eq_true c7
 clear c7
 by_cases c8 : t242 < (l1.length : Int); rotate_left
 ·
  rw [if_neg c8] at H
  exact absurd H (by simp)
 rw [if_pos c8] at H
 have c8b0 : decide (t242 < (l1.length : Int)) = true := decide_eq_true c8
 clear c8
 obtain ⟨y245, hy245⟩ : ∃ y_ : List Int, y_ = (l1.set (t242 : Int).toNat s0_1) := ⟨_, rfl⟩
 replace H : (if 0 ≤ t243 then (if t243 < (l1.length : Int) then (if 0 ≤ t244 then (if t244 < (l1.length : Int) then (some (s0_0, s0_1, s0_2, s0_3, 4, s0_5, s0_6, s0_7, s0_8, s0_9, s0_10, ((y245.set (t243 : Int).toNat s0_2).set (t244 : Int).toNat (wrap64 (2 * s0_6))))) else (none)) else (none)) else (none)) else (none)) = some (r1, r2, r3, r4, r5, r6, r7, r8, r9, r10, r11, r12) := by first | (rw [hy245]; with_reducible exact H) | (have H2_ := (Option.bind_some _ _).symm.trans H; rw [hy245]; with_reducible exact H2_) | (have H2_ := (Option.bind_some _ _).symm.trans H; with_reducible exact H2_) | with_reducible exact H | (rw [hy245]; exact H) | exact H
 have Ny245 := Aside0.mk hy245
 clear hy245
 by_cases c10 : 0 ≤ t243; rotate_left
 ·
  rw [if_neg c10] at H
  exact absurd H (by simp)
 rw [if_pos c10] at H
 have c10b0 : decide (0 ≤ t243) = true := decide_eq_true c10
 clear c10
 by_cases c11 : t243 < (l1.length : Int); rotate_left
 ·
  rw [if_neg c11] at H
  exact absurd H (by simp)
 rw [if_pos c11] at H
 have c11b0 : decide (t243 < (l1.length : Int)) = true := decide_eq_true c11
 clear c11
 obtain ⟨y246, hy246⟩ : ∃ y_ : List Int, y_ = (y245.set (t243 : Int).toNat s0_2) := ⟨_, rfl⟩
 replace H : (if 0 ≤ t244 then (if t244 < (l1.length : Int) then (some (s0_0, s0_1, s0_2, s0_3, 4, s0_5, s0_6, s0_7, s0_8, s0_9, s0_10, (y246.set (t244 : Int).toNat (wrap64 (2 * s0_6))))) else (none)) else (none)) = some (r1, r2, r3, r4, r5, r6, r7, r8, r9, r10, r11, r12) := by first | (rw [hy246]; with_reducible exact H) | (have H2_ := (Option.bind_some _ _).symm.trans H; rw [hy246]; with_reducible exact H2_) | (have H2_ := (Option.bind_some _ _).symm.trans H; with_reducible exact H2_) | with_reducible exact H | (rw [hy246]; exact H) | exact H
 have Ny246 := Aside0.mk hy246
 clear hy246
 by_cases c13 : 0 ≤ t244; rotate_left
 ·
  rw [if_neg c13] at H
  exact absurd H (by simp)
 rw [if_pos c13] at H
 have c13b0 : decide (0 ≤ t244) = true := decide_eq_true c13
 clear c13
 by_cases c14 : t244 < (l1.length : Int); rotate_left
 ·
  rw [if_neg c14] at H
  exact absurd H (by simp)
 rw [if_pos c14] at H
 have c14b0 : decide (t244 < (l1.length : Int)) = true := decide_eq_true c14
 clear c14
 obtain ⟨y247, hy247⟩ : ∃ y_ : List Int, y_ = (y246.set (t244 : Int).toNat (wrap64 (2 * s0_6))) := ⟨_, rfl⟩
 replace H : (some (s0_0, s0_1, s0_2, s0_3, 4, s0_5, s0_6, s0_7, s0_8, s0_9, s0_10, y247)) = some (r1, r2, r3, r4, r5, r6, r7, r8, r9, r10, r11, r12) := by first | (rw [hy247]; with_reducible exact H) | (have H2_ := (Option.bind_some _ _).symm.trans H; rw [hy247]; with_reducible exact H2_) | (have H2_ := (Option.bind_some _ _).symm.trans H; with_reducible exact H2_) | with_reducible exact H | (rw [hy247]; exact H) | exact H
 have Ny247 := Aside0.mk hy247
 clear hy247
 simp only [Option.some.injEq, Prod.mk.injEq] at H
 obtain ⟨rfl, rfl, rfl, rfl, rfl, rfl, rfl, rfl, rfl, rfl, rfl, rfl⟩ := H
 obtain ⟨HGz16, hgz16⟩ := HI0.out
 have hcz16_0 := cellS46_0 HGz16
 have hcz16_1 := cellS46_1 HGz16
 have hcz16_2 := cellS46_2 HGz16
 have hcz16_3 := cellS46_3 HGz16
 have hcz16_4 := cellS46_4 HGz16
 have hcz16_5 := cellS46_5 HGz16
 have hcz16_6 := cellS46_6 HGz16
 have hcz16_7 := cellS46_7 HGz16
 have hcz16_8 := cellS46_8 HGz16
 have hcz16_9 := cellS46_9 HGz16
 have hcz16_10 := cellS46_10 HGz16
 have hfz16_0 := blk_frozen HGz16 0
 have hfz16_1 := blk_frozen HGz16 1
 have hfz16_2 := blk_frozen HGz16 2
 have hfz16_3 := blk_frozen HGz16 3
 have hfz16_4 := blk_frozen HGz16 4
 have hfz16_5 := blk_frozen HGz16 5
 have hfz16_6 := blk_frozen HGz16 6
 have hfz16_7 := blk_frozen HGz16 7
 have hfz16_8 := blk_frozen HGz16 8
 have hfz16_9 := blk_frozen HGz16 9
 have hfz16_10 := blk_frozen HGz16 10
 clear HGz16 hgz16
 go_enter Try.func87, Try.ntmps87
 try go_wp2
 have n0_ := Aside0.mk (Kd.R_drew HO1.out)
 have n1_ := Aside0.mk (IsS46.drew HI0.out)
 have n2_ := Aside0.mk (Kept.drew HK.out)
 have n3_ := Aside0.mk (below_drew1 HB.out)
 clear HO1
 clear HI0
 clear HK
 clear HB
 have HO1 := n0_
 have HI0 := n1_
 have HK := n2_
 have HB := n3_
 clear n0_ n1_ n2_ n3_
 refine start_ (n := 37) (S := fun w' => w'.cell? ⟨g, 0, none⟩ = some (.int .i64 s0_0) ∧ w'.cell? ⟨g, 1, none⟩ = some (.int .i64 s0_1) ∧ w'.cell? ⟨g, 2, none⟩ = some (.int .i64 s0_2) ∧ w'.cell? ⟨g, 3, none⟩ = some (.int .i64 s0_3) ∧ w'.cell? ⟨g, 4, none⟩ = some (.int .i64 s0_4) ∧ w'.cell? ⟨g, 5, none⟩ = some (.int .i64 s0_5) ∧ w'.cell? ⟨g, 6, none⟩ = some (.int .i64 s0_6) ∧ w'.cell? ⟨g, 7, none⟩ = some (.int .i64 s0_7) ∧ w'.cell? ⟨g, 8, none⟩ = some (.int .i64 s0_8) ∧ w'.cell? ⟨g, 9, none⟩ = some (.bool s0_9) ∧ w'.cell? ⟨g, 10, none⟩ = some (.int .i64 s0_10)) (ds := [32, 34, 36]) #[false, false, false, false, false, false, false, false, false, false, false, false, false, false, false, false, false, false, false, false, false, false, false, false, false, false, false, false, false, false, false, false, false, false, false, false, false] (by kernel_rfl) rfl rfl ⟨(blk_cell (Aside0.mk (HI0.out).1).out 0).trans rfl, (blk_cell (Aside0.mk (HI0.out).1).out 1).trans rfl, (blk_cell (Aside0.mk (HI0.out).1).out 2).trans rfl, (blk_cell (Aside0.mk (HI0.out).1).out 3).trans rfl, (blk_cell (Aside0.mk (HI0.out).1).out 4).trans rfl, (blk_cell (Aside0.mk (HI0.out).1).out 5).trans rfl, (blk_cell (Aside0.mk (HI0.out).1).out 6).trans rfl, (blk_cell (Aside0.mk (HI0.out).1).out 7).trans rfl, (blk_cell (Aside0.mk (HI0.out).1).out 8).trans rfl, (blk_cell (Aside0.mk (HI0.out).1).out 9).trans rfl, (blk_cell (Aside0.mk (HI0.out).1).out 10).trans rfl⟩ (fun hHeld => ?_); refine with_tabW impl_Task_nobody.tab2 impl_Task_nobody.bits2 (fun HT_ HW_ => ?_)
 generalize w.drew = w17 at HO1 HI0 HK HB hHeld ⊢
 refine pV 0 11 (OB 37 1) ?_
 refine pV 1 12 (OB 37 3) ?_
 refine pV 2 13 (OB 37 7) ?_
 refine pV 3 14 (OB 37 15) ?_
 refine pV 6 17 (OB 37 79) ?_
 refine pV 7 18 (OB 37 207) ?_
 refine pV 8 19 (OB 37 463) ?_
 refine pV 9 20 (OB 37 975) ?_
 refine pV 12 23 (OB 37 5071) ?_
 refine pV 13 24 (OB 37 13263) ?_
 refine pV 14 25 (OB 37 29647) ?_
 refine pV 15 26 (OB 37 62415) ?_
 refine pV 18 29 (OB 37 324559) ?_
 refine pV 19 30 (OB 37 848847) ?_
 refine pV 20 31 (OB 37 1897423) ?_
 refine pV 22 33 (OB 37 6091727) ?_
 refine pV 23 34 (OB 37 14480335) ?_
 refine pV 24 35 (OB 37 31257551) ?_
 refine pV 26 37 (OB 37 98366415) ?_
 refine pV 27 38 (OB 37 232584143) ?_
 refine pV 28 39 (OB 37 501019599) ?_
 refine take_ (i := 4) (N := some 15) (v := ?_) (a' := ?_) (OB 37 501019615) rfl rfl (take_ofW HT_.out HW_.out (by kernel_rfl)) (fun _ _ _ h => h) (Or.inl ⟨by rfl, ?_⟩) hHeld ?_ ?_
 rotate_left
 ·
  rintro w' ⟨s0, s1, s2, s3, s4, s5, s6, s7, s8, s9, s10⟩
  go_simp
  with_reducible rfl
 rotate_left
 ·
  simp only [Act.put, zA, zB, zC, i64_w, i32_w]
  rfl
 refine take_ (i := 10) (N := some 21) (v := ?_) (a' := ?_) (OB 37 501020639) rfl rfl (take_ofW HT_.out HW_.out (by kernel_rfl)) (fun _ _ _ h => h) (Or.inl ⟨by rfl, ?_⟩) hHeld ?_ ?_
 rotate_left
 ·
  rintro w' ⟨s0, s1, s2, s3, s4, s5, s6, s7, s8, s9, s10⟩
  go_simp
  with_reducible rfl
 rotate_left
 ·
  simp only [Act.put, zA, zB, zC, i64_w, i32_w]
  rfl
 refine take_ (i := 16) (N := some 27) (v := ?_) (a' := ?_) (OB 37 501086175) rfl rfl (take_ofW HT_.out HW_.out (by kernel_rfl)) (fun _ _ _ h => h) (Or.inl ⟨by rfl, ?_⟩) hHeld ?_ ?_
 rotate_left
 ·
  rintro w' ⟨s0, s1, s2, s3, s4, s5, s6, s7, s8, s9, s10⟩
  go_simp
  with_reducible rfl
 rotate_left
 ·
  simp only [Act.put, zA, zB, zC, i64_w, i32_w]
  rfl
 refine take_ (i := 21) (N := some 32) (v := ?_) (a' := ?_) (OB 37 503183327) rfl rfl (take_ofW HT_.out HW_.out (by kernel_rfl)) (fun _ _ _ h => h) (Or.inl ⟨by rfl, ?_⟩) hHeld ?_ ?_
 rotate_left
 ·
  rintro w' ⟨s0, s1, s2, s3, s4, s5, s6, s7, s8, s9, s10⟩
  go_simp
  with_reducible rfl
 rotate_left
 ·
  simp only [Act.put, zA, zB, zC, i64_w, i32_w]
  rfl
 refine take_ (i := 25) (N := some 36) (v := ?_) (a' := ?_) (OB 37 536737759) rfl rfl (take_ofW HT_.out HW_.out (by kernel_rfl)) (fun _ _ _ h => h) (Or.inl ⟨by rfl, ?_⟩) hHeld ?_ ?_
 rotate_left
 ·
  rintro w' ⟨s0, s1, s2, s3, s4, s5, s6, s7, s8, s9, s10⟩
  go_simp
  with_reducible rfl
 rotate_left
 ·
  simp only [Act.put, zA, zB, zC, i64_w, i32_w]
  rfl
 refine take_ (i := 29) (N := some 40) (v := ?_) (a' := ?_) (OB 37 1073608671) rfl rfl (take_ofW HT_.out HW_.out (by kernel_rfl)) (fun _ _ _ h => h) (Or.inl ⟨by rfl, ?_⟩) hHeld ?_ ?_
 rotate_left
 ·
  rintro w' ⟨s0, s1, s2, s3, s4, s5, s6, s7, s8, s9, s10⟩
  go_simp
  with_reducible rfl
 rotate_left
 ·
  simp only [Act.put, zA, zB, zC, i64_w, i32_w]
  rfl
 refine pV 30 41 (OB 37 2147350495) ?_
 refine one_ (i := 5) (N := some 16) (OB 37 2147350527) rfl rfl (one_of HT_.out (by kernel_rfl)) (by decide) (fun K hK => ?_)
 refine goes_ Try.func66 (by kernel_rfl) rfl #[.int .i64 s0_3] (by rfl) rfl rfl (MA) ?_
 with_reducible refine (impl_keyCell.calls s0_3 t242 _ A4.out).mono ?_
 rintro e w17 ⟨rfl, ⟨nd, hq_⟩⟩
 replace hq_ := hq_.symm
 replace HO1 := Aside0.mk (Kd.R_at hq_ HO1.out)
 replace HI0 := Aside0.mk (IsS46.at_ hq_ HI0.out)
 replace HK := Aside0.mk (kept_at hq_ HK.out)
 replace HB := Aside0.mk (below_at hq_ HB.out)
 clear hq_
 refine ⟨_, rfl, ?_⟩
 refine hK.out _ _ ⟨(blk_cell (Aside0.mk (HI0.out).1).out 0).trans rfl, (blk_cell (Aside0.mk (HI0.out).1).out 1).trans rfl, (blk_cell (Aside0.mk (HI0.out).1).out 2).trans rfl, (blk_cell (Aside0.mk (HI0.out).1).out 3).trans rfl, (blk_cell (Aside0.mk (HI0.out).1).out 4).trans rfl, (blk_cell (Aside0.mk (HI0.out).1).out 5).trans rfl, (blk_cell (Aside0.mk (HI0.out).1).out 6).trans rfl, (blk_cell (Aside0.mk (HI0.out).1).out 7).trans rfl, (blk_cell (Aside0.mk (HI0.out).1).out 8).trans rfl, (blk_cell (Aside0.mk (HI0.out).1).out 9).trans rfl, (blk_cell (Aside0.mk (HI0.out).1).out 10).trans rfl⟩ (fun hHeld => ?_)
 clear hK K
 refine norm_ (a' := ?_) ?_ ?_
 rotate_left
 ·
  show Act.put _ (some 16) _ = _
  simp only [Act.put, zA, zB, zC, i64_w, i32_w]
  rfl
 refine one_ (i := 11) (N := some 22) (OB 37 2147352575) rfl rfl (one_of HT_.out (by kernel_rfl)) (by decide) (fun K hK => ?_)
 refine goes_ Try.func67 (by kernel_rfl) rfl #[.int .i64 s0_3] (by rfl) rfl rfl (MA) ?_
 with_reducible refine (impl_valCell.calls s0_3 t243 _ A5.out).mono ?_
 rintro e w17 ⟨rfl, ⟨nd, hq_⟩⟩
 replace hq_ := hq_.symm
 replace HO1 := Aside0.mk (Kd.R_at hq_ HO1.out)
 replace HI0 := Aside0.mk (IsS46.at_ hq_ HI0.out)
 replace HK := Aside0.mk (kept_at hq_ HK.out)
 replace HB := Aside0.mk (below_at hq_ HB.out)
 clear hq_
 refine ⟨_, rfl, ?_⟩
 refine hK.out _ _ ⟨(blk_cell (Aside0.mk (HI0.out).1).out 0).trans rfl, (blk_cell (Aside0.mk (HI0.out).1).out 1).trans rfl, (blk_cell (Aside0.mk (HI0.out).1).out 2).trans rfl, (blk_cell (Aside0.mk (HI0.out).1).out 3).trans rfl, (blk_cell (Aside0.mk (HI0.out).1).out 4).trans rfl, (blk_cell (Aside0.mk (HI0.out).1).out 5).trans rfl, (blk_cell (Aside0.mk (HI0.out).1).out 6).trans rfl, (blk_cell (Aside0.mk (HI0.out).1).out 7).trans rfl, (blk_cell (Aside0.mk (HI0.out).1).out 8).trans rfl, (blk_cell (Aside0.mk (HI0.out).1).out 9).trans rfl, (blk_cell (Aside0.mk (HI0.out).1).out 10).trans rfl⟩ (fun hHeld => ?_)
 clear hK K
 refine norm_ (a' := ?_) ?_ ?_
 rotate_left
 ·
  show Act.put _ (some 22) _ = _
  simp only [Act.put, zA, zB, zC, i64_w, i32_w]
  rfl
 refine one_ (i := 17) (N := some 28) (OB 37 2147483647) rfl rfl (one_of HT_.out (by kernel_rfl)) (by decide) (fun K hK => ?_)
 refine goes_ Try.func76 (by kernel_rfl) rfl #[.int .i64 s0_3] (by rfl) rfl rfl (MA) ?_
 with_reducible refine (impl_wordCell.calls s0_3 t244 _ A6.out).mono ?_
 rintro e w17 ⟨rfl, ⟨nd, hq_⟩⟩
 replace hq_ := hq_.symm
 replace HO1 := Aside0.mk (Kd.R_at hq_ HO1.out)
 replace HI0 := Aside0.mk (IsS46.at_ hq_ HI0.out)
 replace HK := Aside0.mk (kept_at hq_ HK.out)
 replace HB := Aside0.mk (below_at hq_ HB.out)
 clear hq_
 refine ⟨_, rfl, ?_⟩
 have p9 : 0 ≤ (t242 : Int) := of_decide_eq_true AS
 have q9 : (t242 : Int) < ((l1.length : Int) : Int) := of_decide_eq_true AS
 obtain ⟨go9, co9, eo9, gb9, gl9, cl9, HG9⟩ := Kd.R_form HO1.out (by omega)
 (first | cases eo9 | (injection eo9 with ea_ en_ ec_; (first | subst ea_ | (injection ea_ with ea_; subst ea_)); subst ec_; clear en_))
 have GB9 := Aside0.mk gb9
 have GG9 := Aside0.mk HG9
 clear gb9 gl9 HG9
 have HMgo9 := Aside0.mk (show (P1_ go9 ∨ w.heap.size ≤ go9) from (HO1.out.1 _ rfl))
 obtain ⟨hx9_0, hf9_0⟩ := Kd.R_celln 0 HO1.out (t242 : Int) p9 q9
 replace p9 := eq_true p9
 replace q9 := eq_true q9
 have HN0_go9 := Aside0.mk (show g ≠ go9 from by have h_ := IsS46.own_ne HI0.out HO1.out (by decide); intro e_; exact h_ (by rw [e_]; rfl))
 have HP18 := Kd.R_putn HO1.out (t242 : Int) s0_1
 rw [← Ny245.out] at HP18
 have HQ18 := Aside0.mk HP18
 clear HP18
 have p12 : 0 ≤ (t243 : Int) := of_decide_eq_true AS
 have q12 : (t243 : Int) < ((l1.length : Int) : Int) := of_decide_eq_true AS
 obtain ⟨hx12_0, hf12_0⟩ := Kd.R_celln 0 HQ18.out (t243 : Int) p12 q12
 replace p12 := eq_true p12
 replace q12 := eq_true q12
 have HN0_go9 := Aside0.mk (show g ≠ go9 from by have h_ := IsS46.own_ne HI0.out HO1.out (by decide); intro e_; exact h_ (by rw [e_]; rfl))
 have HP19 := Kd.R_putn HQ18.out (t243 : Int) s0_2
 rw [← Ny246.out] at HP19
 have HQ19 := Aside0.mk HP19
 clear HP19
 have p15 : 0 ≤ (t244 : Int) := of_decide_eq_true AS
 have q15 : (t244 : Int) < ((l1.length : Int) : Int) := of_decide_eq_true AS
 obtain ⟨hx15_0, hf15_0⟩ := Kd.R_celln 0 HQ19.out (t244 : Int) p15 q15
 replace p15 := eq_true p15
 replace q15 := eq_true q15
 have HN0_go9 := Aside0.mk (show g ≠ go9 from by have h_ := IsS46.own_ne HI0.out HO1.out (by decide); intro e_; exact h_ (by rw [e_]; rfl))
 have HP20 := Kd.R_putn HQ19.out (t244 : Int) (wrap64 (2 * s0_6))
 rw [← Ny247.out] at HP20
 have HQ20 := Aside0.mk HP20
 clear HP20
 refine hK.out _ _ ⟨(blk_cell (Aside0.mk (HI0.out).1).out 0).trans rfl, (blk_cell (Aside0.mk (HI0.out).1).out 1).trans rfl, (blk_cell (Aside0.mk (HI0.out).1).out 2).trans rfl, (blk_cell (Aside0.mk (HI0.out).1).out 3).trans rfl, (blk_cell (Aside0.mk (HI0.out).1).out 4).trans rfl, (blk_cell (Aside0.mk (HI0.out).1).out 5).trans rfl, (blk_cell (Aside0.mk (HI0.out).1).out 6).trans rfl, (blk_cell (Aside0.mk (HI0.out).1).out 7).trans rfl, (blk_cell (Aside0.mk (HI0.out).1).out 8).trans rfl, (blk_cell (Aside0.mk (HI0.out).1).out 9).trans rfl, (blk_cell (Aside0.mk (HI0.out).1).out 10).trans rfl⟩ (fun hHeld => ?_)
 clear hK K
 refine norm_ (a' := ?_) ?_ ?_
 rotate_left
 ·
  show Act.put _ (some 28) _ = _
  simp only [Act.put, zA, zB, zC, i64_w, i32_w]
  rfl
 refine pV 31 42 (OB 37 4294967295) ?_
 refine last_ (i := 32) (N := none) #[true, true, true, true, true, true, true, true, true, true, true, true, true, true, true, true, true, true, true, true, true, true, true, true, true, true, true, true, true, true, true, true, true, false, false, false, false] rfl rfl (one_of HT_.out (by kernel_rfl)) (by decide) (fun K hK => ?_)
 refine skip_ (w1 := ?_) (by rfl) rfl ?_ ?_
 rotate_left
 ·
  go_simp
  rfl
 refine hK.out _ _ ?_
 clear hK K
 refine pV 33 43 (OB 37 17179869183) ?_
 refine last_ (i := 34) (N := none) #[true, true, true, true, true, true, true, true, true, true, true, true, true, true, true, true, true, true, true, true, true, true, true, true, true, true, true, true, true, true, true, true, true, true, true, false, false] rfl rfl (one_of HT_.out (by kernel_rfl)) (by decide) (fun K hK => ?_)
 refine skip_ (w1 := ?_) (by rfl) rfl ?_ ?_
 rotate_left
 ·
  go_simp
  rfl
 refine hK.out _ _ ?_
 clear hK K
 refine pV 35 44 (OB 37 68719476735) ?_
 refine last_ (i := 36) (N := none) #[true, true, true, true, true, true, true, true, true, true, true, true, true, true, true, true, true, true, true, true, true, true, true, true, true, true, true, true, true, true, true, true, true, true, true, true, true] rfl rfl (one_of HT_.out (by kernel_rfl)) (by decide) (fun K hK => ?_)
 refine skip_ (w1 := ?_) (by rfl) rfl ?_ ?_
 rotate_left
 ·
  go_simp
  rfl
 refine hK.out _ _ ?_
 clear hK K
 refine done_ (done_of HT_.out (by kernel_rfl)) ?_
 have n0_ : Aside0 (Kd.R (Kd.int .i64) 3 (((w17.setCell ⟨go9, (t242 : Int).toNat, none⟩ (.int .i64 s0_1)).setCell ⟨go9, (t243 : Int).toNat, none⟩ (.int .i64 s0_2)).setCell ⟨go9, (t244 : Int).toNat, none⟩ (.int .i64 (wrap64 (2 * s0_6)))) w0.heap.size (fun k_ => (P1_ k_ ∨ w.heap.size ≤ k_)) (.slice (some ⟨go9, 0, none⟩) l1.length co9) y247) := ⟨RQ HQ20.out⟩
 have n1_ : Aside0 (IsS46 w0 (((w17.setCell ⟨go9, (t242 : Int).toNat, none⟩ (.int .i64 s0_1)).setCell ⟨go9, (t243 : Int).toNat, none⟩ (.int .i64 s0_2)).setCell ⟨go9, (t244 : Int).toNat, none⟩ (.int .i64 (wrap64 (2 * s0_6)))) g s0_0 s0_1 s0_2 s0_3 s0_4 s0_5 s0_6 s0_7 s0_8 s0_9 s0_10) := ⟨by repeat (first | (with_reducible first | exact HI0.out | apply IsS46.alloc | apply IsS46.drewN | apply IsS46.drew | apply IsS46.set_0 | apply IsS46.set_1 | apply IsS46.set_2 | apply IsS46.set_3 | apply IsS46.set_4 | apply IsS46.set_5 | apply IsS46.set_6 | apply IsS46.set_7 | apply IsS46.set_8 | apply IsS46.set_9 | apply IsS46.set_10 | refine IsS46.far ?_ HN0_go9.out _ | refine IsS46.far ?_ HN0_go9.out _ | refine IsS46.far ?_ HN0_go9.out _) | exact HI0.out)⟩
 have n2_ : Aside0 (Kept w (((w17.setCell ⟨go9, (t242 : Int).toNat, none⟩ (.int .i64 s0_1)).setCell ⟨go9, (t243 : Int).toNat, none⟩ (.int .i64 s0_2)).setCell ⟨go9, (t244 : Int).toNat, none⟩ (.int .i64 (wrap64 (2 * s0_6)))) (fun k_ => (P1_ k_) ∨ k_ = g)) := ⟨by repeat (first | (with_reducible first | exact HK.out | apply Kept.alloc | apply Kept.drewN | apply Kept.drew | refine Kept.setCell ?_ (Or.imp_left Or.inl HMgo9.out) _ | refine Kept.setCell ?_ (Or.imp_left Or.inl HMgo9.out) _ | refine Kept.setCell ?_ (Or.imp_left Or.inl HMgo9.out) _ | refine Kept.setCell ?_ (.inl (.inr rfl)) _) | exact HK.out)⟩
 have n3_ : Aside0 (Below w0.heap.size w0 (((w17.setCell ⟨go9, (t242 : Int).toNat, none⟩ (.int .i64 s0_1)).setCell ⟨go9, (t243 : Int).toNat, none⟩ (.int .i64 s0_2)).setCell ⟨go9, (t244 : Int).toNat, none⟩ (.int .i64 (wrap64 (2 * s0_6))))) := ⟨by repeat (first | (with_reducible first | exact HB.out | apply below_alloc | apply pw_below_drewN | apply below_drew1 | refine below_set ?_ GB9.out | refine below_set ?_ GB9.out | refine below_set ?_ GB9.out | refine below_set ?_ (IsS46.ge HI0.out)) | exact HB.out)⟩
 (try clear HO1)
 (try clear HI0)
 (try clear HK)
 (try clear HB)
 generalize (((w17.setCell ⟨go9, (t242 : Int).toNat, none⟩ (.int .i64 s0_1)).setCell ⟨go9, (t243 : Int).toNat, none⟩ (.int .i64 s0_2)).setCell ⟨go9, (t244 : Int).toNat, none⟩ (.int .i64 (wrap64 (2 * s0_6)))) = w21 at n0_ n1_ n2_ n3_ ⊢
 have HO1 := n0_
 have HI0 := n1_
 have HK := n2_
 have HB := n3_
 clear n0_ n1_ n2_ n3_
 obtain ⟨HGz22, hgz22⟩ := HI0.out
 have hcz22_0 := cellS46_0 HGz22
 have hcz22_1 := cellS46_1 HGz22
 have hcz22_2 := cellS46_2 HGz22
 have hcz22_3 := cellS46_3 HGz22
 have hcz22_4 := cellS46_4 HGz22
 have hcz22_5 := cellS46_5 HGz22
 have hcz22_6 := cellS46_6 HGz22
 have hcz22_7 := cellS46_7 HGz22
 have hcz22_8 := cellS46_8 HGz22
 have hcz22_9 := cellS46_9 HGz22
 have hcz22_10 := cellS46_10 HGz22
 have hfz22_0 := blk_frozen HGz22 0
 have hfz22_1 := blk_frozen HGz22 1
 have hfz22_2 := blk_frozen HGz22 2
 have hfz22_3 := blk_frozen HGz22 3
 have hfz22_4 := blk_frozen HGz22 4
 have hfz22_5 := blk_frozen HGz22 5
 have hfz22_6 := blk_frozen HGz22 6
 have hfz22_7 := blk_frozen HGz22 7
 have hfz22_8 := blk_frozen HGz22 8
 have hfz22_9 := blk_frozen HGz22 9
 have hfz22_10 := blk_frozen HGz22 10
 clear HGz22 hgz22
 try go_wp2
 first | go_end0 | ((try simp only [Exit.inBlock, Exit.then]); refine bodyPost_ret (results_none rfl _ _ _) rfl ?_)
 exact ⟨EE, by repeat (first | (with_reducible first | exact HI0.out | apply IsS46.alloc | apply IsS46.drewN | apply IsS46.drew | apply IsS46.set_0 | apply IsS46.set_1 | apply IsS46.set_2 | apply IsS46.set_3 | apply IsS46.set_4 | apply IsS46.set_5 | apply IsS46.set_6 | apply IsS46.set_7 | apply IsS46.set_8 | apply IsS46.set_9 | apply IsS46.set_10) | exact HI0.out), by (with_reducible repeat (first | apply r1 | apply r2 | apply r3)); exact Kd.R_mono (Kd.R_far (p := ⟨g, 4, none⟩) (IsS46.apart HI0.out HO1.out (by decide)) (fun _ hk => hk.2) (.int .i64 4)) (fun _ hk => hk.1), by repeat (first | (with_reducible first | exact HB.out | apply below_alloc | apply pw_below_drewN | apply below_drew1 | refine below_set ?_ (IsS46.ge HI0.out)) | exact HB.out), by repeat (first | (with_reducible first | exact HK.out | apply Kept.alloc | apply Kept.drewN | apply Kept.drew | refine Kept.setCell ?_ (.inl (.inr rfl)) _) | exact HK.out)⟩

/-! ### impl_Task_found: function 81 -/
def impl_Task_found.f (s0_0 : Int) (s0_1 : Int) (s0_2 : Int) (s0_3 : Int) (s0_4 : Int) (s0_5 : Int) (s0_6 : Int) (s0_7 : Int) (s0_8 : Int) (s0_9 : Bool) (s0_10 : Int) (l1 : List Int) : Option (Int × Int × Int × Int × Int × Int × Int × Int × Int × Bool × Int × List Int) := (impl_keyCell.f s0_6).bind fun t259 => (if 0 ≤ t259 then (if t259 < (l1.length : Int) then (if (rd l1 t259) = s0_1 then (if s0_0 = 1 then ((impl_valCell.f s0_6).bind fun t261 => (if 0 ≤ t261 then (if t261 < (l1.length : Int) then ((impl_Task_done.f s0_0 s0_1 s0_2 s0_3 s0_4 s0_5 s0_6 s0_7 s0_8 s0_9 s0_10 (wrap64 ((rd l1 t261) + 1))).bind fun bt263 => (some (bt263.1, bt263.2.1, bt263.2.2.1, bt263.2.2.2.1, bt263.2.2.2.2.1, bt263.2.2.2.2.2.1, bt263.2.2.2.2.2.2.1, bt263.2.2.2.2.2.2.2.1, bt263.2.2.2.2.2.2.2.2.1, bt263.2.2.2.2.2.2.2.2.2.1, bt263.2.2.2.2.2.2.2.2.2.2, l1))) else (none)) else (none))) else (if s0_0 = 2 then ((impl_Task_done.f s0_0 s0_1 s0_2 s0_3 s0_4 s0_5 s0_6 s0_7 s0_8 s0_9 s0_10 0).bind fun bt274 => (some (bt274.1, bt274.2.1, bt274.2.2.1, bt274.2.2.2.1, bt274.2.2.2.2.1, bt274.2.2.2.2.2.1, bt274.2.2.2.2.2.2.1, bt274.2.2.2.2.2.2.2.1, bt274.2.2.2.2.2.2.2.2.1, bt274.2.2.2.2.2.2.2.2.2.1, bt274.2.2.2.2.2.2.2.2.2.2, l1))) else (some (s0_0, s0_1, s0_2, s0_3, 5, s0_5, s0_6, s0_7, s0_8, s0_9, s0_10, l1)))) else ((impl_Task_nobody.f s0_0 s0_1 s0_2 s0_3 s0_4 s0_5 s0_6 s0_7 s0_8 s0_9 s0_10 l1).bind fun bt285 => (some (bt285.1, bt285.2.1, bt285.2.2.1, bt285.2.2.2.1, bt285.2.2.2.2.1, bt285.2.2.2.2.2.1, bt285.2.2.2.2.2.2.1, bt285.2.2.2.2.2.2.2.1, bt285.2.2.2.2.2.2.2.2.1, bt285.2.2.2.2.2.2.2.2.2.1, bt285.2.2.2.2.2.2.2.2.2.2.1, bt285.2.2.2.2.2.2.2.2.2.2.2)))) else (none)) else (none))
set_option maxHeartbeats 8000000 in
set_option maxRecDepth 100000 in
theorem impl_Task_found.calls (g : Nat) (s0_0 : Int) (s0_1 : Int) (s0_2 : Int) (s0_3 : Int) (s0_4 : Int) (s0_5 : Int) (s0_6 : Int) (s0_7 : Int) (s0_8 : Int) (s0_9 : Bool) (s0_10 : Int) (P1_ : Nat → Prop) (u9000_ : Value) (l1 : List Int) (r1 : Int) (r2 : Int) (r3 : Int) (r4 : Int) (r5 : Int) (r6 : Int) (r7 : Int) (r8 : Int) (r9 : Int) (r10 : Bool) (r11 : Int) (r12 : List Int) (w0 w : World) (hI : IsS46 w0 w g s0_0 s0_1 s0_2 s0_3 s0_4 s0_5 s0_6 s0_7 s0_8 s0_9 s0_10) (hB : Below w0.heap.size w0 w) (ho1 : Kd.R (Kd.int .i64) 3 w w0.heap.size P1_ u9000_ l1) (h : impl_Task_found.f s0_0 s0_1 s0_2 s0_3 s0_4 s0_5 s0_6 s0_7 s0_8 s0_9 s0_10 l1 = some (r1, r2, r3, r4, r5, r6, r7, r8, r9, r10, r11, r12)) :
  Calls Try.prog 81 #[.pointer (some ⟨g, 0, none⟩), u9000_] w fun e w' => e = .returned (.tuple #[]) ∧ IsS46 w0 w' g r1 r2 r3 r4 r5 r6 r7 r8 r9 r10 r11 ∧ Kd.R (Kd.int .i64) 3 w' w0.heap.size (fun k_ => (P1_ k_ ∨ w.heap.size ≤ k_)) u9000_ r12 ∧ Below w0.heap.size w0 w' ∧ Kept w w' (fun k_ => (P1_ k_) ∨ k_ = g) := by
 have HO1 := Aside0.mk (show Kd.R (Kd.int .i64) 3 w w0.heap.size (fun k_ => (P1_ k_ ∨ w.heap.size ≤ k_)) u9000_ l1 from Kd.R_mono ho1 (fun k_ hk => (.inl hk)))
 have HI0 := Aside0.mk hI
 have HL := Aside0.mk hB.size
 clear hI
 have HK := Aside0.mk (Kept.refl w (fun k_ => (P1_ k_) ∨ k_ = g))
 have HW0 := Aside0.mk hB.size
 have HB := Aside0.mk hB
 clear hB
 have H : ((impl_keyCell.f s0_6).bind fun t259 => (if 0 ≤ t259 then (if t259 < (l1.length : Int) then (if (rd l1 t259) = s0_1 then (if s0_0 = 1 then ((impl_valCell.f s0_6).bind fun t261 => (if 0 ≤ t261 then (if t261 < (l1.length : Int) then ((impl_Task_done.f s0_0 s0_1 s0_2 s0_3 s0_4 s0_5 s0_6 s0_7 s0_8 s0_9 s0_10 (wrap64 ((rd l1 t261) + 1))).bind fun bt263 => (some (bt263.1, bt263.2.1, bt263.2.2.1, bt263.2.2.2.1, bt263.2.2.2.2.1, bt263.2.2.2.2.2.1, bt263.2.2.2.2.2.2.1, bt263.2.2.2.2.2.2.2.1, bt263.2.2.2.2.2.2.2.2.1, bt263.2.2.2.2.2.2.2.2.2.1, bt263.2.2.2.2.2.2.2.2.2.2, l1))) else (none)) else (none))) else (if s0_0 = 2 then ((impl_Task_done.f s0_0 s0_1 s0_2 s0_3 s0_4 s0_5 s0_6 s0_7 s0_8 s0_9 s0_10 0).bind fun bt274 => (some (bt274.1, bt274.2.1, bt274.2.2.1, bt274.2.2.2.1, bt274.2.2.2.2.1, bt274.2.2.2.2.2.1, bt274.2.2.2.2.2.2.1, bt274.2.2.2.2.2.2.2.1, bt274.2.2.2.2.2.2.2.2.1, bt274.2.2.2.2.2.2.2.2.2.1, bt274.2.2.2.2.2.2.2.2.2.2, l1))) else (some (s0_0, s0_1, s0_2, s0_3, 5, s0_5, s0_6, s0_7, s0_8, s0_9, s0_10, l1)))) else ((impl_Task_nobody.f s0_0 s0_1 s0_2 s0_3 s0_4 s0_5 s0_6 s0_7 s0_8 s0_9 s0_10 l1).bind fun bt285 => (some (bt285.1, bt285.2.1, bt285.2.2.1, bt285.2.2.2.1, bt285.2.2.2.2.1, bt285.2.2.2.2.2.1, bt285.2.2.2.2.2.2.1, bt285.2.2.2.2.2.2.2.1, bt285.2.2.2.2.2.2.2.2.1, bt285.2.2.2.2.2.2.2.2.2.1, bt285.2.2.2.2.2.2.2.2.2.2.1, bt285.2.2.2.2.2.2.2.2.2.2.2)))) else (none)) else (none))) = some (r1, r2, r3, r4, r5, r6, r7, r8, r9, r10, r11, r12) := h
 clear h
 replace H := Option.bind_eq_some_iff.mp H
 obtain ⟨t259, A30, H⟩ := H
 replace H : (if 0 ≤ t259 then (if t259 < (l1.length : Int) then (if (rd l1 t259) = s0_1 then (if s0_0 = 1 then ((impl_valCell.f s0_6).bind fun t261 => (if 0 ≤ t261 then (if t261 < (l1.length : Int) then ((impl_Task_done.f s0_0 s0_1 s0_2 s0_3 s0_4 s0_5 s0_6 s0_7 s0_8 s0_9 s0_10 (wrap64 ((rd l1 t261) + 1))).bind fun bt263 => (some (bt263.1, bt263.2.1, bt263.2.2.1, bt263.2.2.2.1, bt263.2.2.2.2.1, bt263.2.2.2.2.2.1, bt263.2.2.2.2.2.2.1, bt263.2.2.2.2.2.2.2.1, bt263.2.2.2.2.2.2.2.2.1, bt263.2.2.2.2.2.2.2.2.2.1, bt263.2.2.2.2.2.2.2.2.2.2, l1))) else (none)) else (none))) else (if s0_0 = 2 then ((impl_Task_done.f s0_0 s0_1 s0_2 s0_3 s0_4 s0_5 s0_6 s0_7 s0_8 s0_9 s0_10 0).bind fun bt274 => (some (bt274.1, bt274.2.1, bt274.2.2.1, bt274.2.2.2.1, bt274.2.2.2.2.1, bt274.2.2.2.2.2.1, bt274.2.2.2.2.2.2.1, bt274.2.2.2.2.2.2.2.1, bt274.2.2.2.2.2.2.2.2.1, bt274.2.2.2.2.2.2.2.2.2.1, bt274.2.2.2.2.2.2.2.2.2.2, l1))) else (some (s0_0, s0_1, s0_2, s0_3, 5, s0_5, s0_6, s0_7, s0_8, s0_9, s0_10, l1)))) else ((impl_Task_nobody.f s0_0 s0_1 s0_2 s0_3 s0_4 s0_5 s0_6 s0_7 s0_8 s0_9 s0_10 l1).bind fun bt285 => (some (bt285.1, bt285.2.1, bt285.2.2.1, bt285.2.2.2.1, bt285.2.2.2.2.1, bt285.2.2.2.2.2.1, bt285.2.2.2.2.2.2.1, bt285.2.2.2.2.2.2.2.1, bt285.2.2.2.2.2.2.2.2.1, bt285.2.2.2.2.2.2.2.2.2.1, bt285.2.2.2.2.2.2.2.2.2.2.1, bt285.2.2.2.2.2.2.2.2.2.2.2)))) else (none)) else (none)) = some (r1, r2, r3, r4, r5, r6, r7, r8, r9, r10, r11, r12) := H
 have A3 := Aside0.mk A30
 clear A30
 by_cases c4 : 0 ≤ t259; rotate_left
 ·
  rw [if_neg c4] at H
  exact absurd H (by simp)
 rw [if_pos c4] at H
 have c4b0 : decide (0 ≤ t259) = true := decide_eq_true c4
 clear c4
 by_cases c5 : t259 < (l1.length : Int); rotate_left
 ·
  rw [if_neg c5] at H
  exact absurd H (by simp)
 rw [if_pos c5] at H
 have c5b0 : decide (t259 < (l1.length : Int)) = true := decide_eq_true c5
 clear c5
 by_cases c6 : (rd l1 t259) = s0_1; rotate_left
 ·
  rw [if_neg c6] at H
  have c6b0 : ((rd l1 t259) == s0_1) = false := beq_eq_false_iff_ne.mpr c6
  have c6b1 : ((rd l1 t259) != s0_1) = true := bne_iff_ne.mpr c6
  replace H := Option.bind_eq_some_iff.mp H
  obtain ⟨⟨t285, t286, t287, t288, t289, t290, t291, t292, t293, t294, t295, t296⟩, A220, H⟩ := H
  replace H : (some (t285, t286, t287, t288, t289, t290, t291, t292, t293, t294, t295, t296)) = some (r1, r2, r3, r4, r5, r6, r7, r8, r9, r10, r11, r12) := H
  have A22 := Aside0.mk A220
  clear A220
  simp only [Option.some.injEq, Prod.mk.injEq] at H
  obtain ⟨rfl, rfl, rfl, rfl, rfl, rfl, rfl, rfl, rfl, rfl, rfl, rfl⟩ := H
  obtain ⟨HGz23, hgz23⟩ := HI0.out
  have hcz23_0 := cellS46_0 HGz23
  have hcz23_1 := cellS46_1 HGz23
  have hcz23_2 := cellS46_2 HGz23
  have hcz23_3 := cellS46_3 HGz23
  have hcz23_4 := cellS46_4 HGz23
  have hcz23_5 := cellS46_5 HGz23
  have hcz23_6 := cellS46_6 HGz23
  have hcz23_7 := cellS46_7 HGz23
  have hcz23_8 := cellS46_8 HGz23
  have hcz23_9 := cellS46_9 HGz23
  have hcz23_10 := cellS46_10 HGz23
  have hfz23_0 := blk_frozen HGz23 0
  have hfz23_1 := blk_frozen HGz23 1
  have hfz23_2 := blk_frozen HGz23 2
  have hfz23_3 := blk_frozen HGz23 3
  have hfz23_4 := blk_frozen HGz23 4
  have hfz23_5 := blk_frozen HGz23 5
  have hfz23_6 := blk_frozen HGz23 6
  have hfz23_7 := blk_frozen HGz23 7
  have hfz23_8 := blk_frozen HGz23 8
  have hfz23_9 := blk_frozen HGz23 9
  have hfz23_10 := blk_frozen HGz23 10
  clear HGz23 hgz23
  go_enter Try.func81, Try.ntmps81
  go_wp2_with (first | (go_at_call 66; (with_reducible refine (impl_keyCell.calls s0_6 t259 _ A3.out).mono ?_); rintro e w' ⟨rfl, ⟨nd, rfl⟩⟩; (try first | exact ⟨rfl, _, World.drewN_drewN _ _ _⟩ | exact ⟨rfl, _, Eq.trans (World.drewN_drewN _ _ _) (congrArg (World.drewN _) (Nat.add_assoc _ _ _))⟩); obtain ⟨Ao24, co24, eo24⟩ := Kd.R_slice HO1.out; subst eo24; have p260 : 0 ≤ (t259 : Int) := of_decide_eq_true AS; have q260 : t259 < (l1.length : Int) := of_decide_eq_true AS; obtain ⟨ad260, e260, hx260_0⟩ := Kd.at_int (Kd.R_reads' HO1.out).2.2 t259 p260 q260; cases e260; replace p260 := eq_true p260; replace q260 := eq_true q260) | (go_at_call 87; (with_reducible refine (impl_Task_nobody.calls g s0_0 s0_1 s0_2 s0_3 s0_4 s0_5 s0_6 s0_7 s0_8 s0_9 s0_10 (fun k_ => some k_ = (.slice (some ad260) l1.length co24 : Value).ownBlock) (.slice (some ad260) l1.length co24) l1 t285 t286 t287 t288 t289 t290 t291 t292 t293 t294 t295 t296 w0 _ ?side1 ?side2 ?side3 A22.out).mono ?_); (case side1 => repeat (first | (with_reducible first | exact HI0.out | apply IsS46.alloc | apply IsS46.drewN | apply IsS46.drew | apply IsS46.set_0 | apply IsS46.set_1 | apply IsS46.set_2 | apply IsS46.set_3 | apply IsS46.set_4 | apply IsS46.set_5 | apply IsS46.set_6 | apply IsS46.set_7 | apply IsS46.set_8 | apply IsS46.set_9 | apply IsS46.set_10) | exact HI0.out)); (case side2 => repeat (first | (with_reducible first | exact HB.out | apply below_alloc | apply pw_below_drewN | apply below_drew1 | refine below_set ?_ (IsS46.ge HI0.out)) | exact HB.out)); (case side3 => exact Kd.R_tight rfl HO1.out); rintro e w25 ⟨rfl, hi, hy0, hb, hkp⟩; replace HI0 := Aside0.mk (hi); replace HK := Aside0.mk (Kept.then_ (S := (fun k_ => (P1_ k_) ∨ k_ = g)) (by repeat (first | (with_reducible first | exact HK.out | apply Kept.alloc | apply Kept.drewN | apply Kept.drew | refine Kept.setCell ?_ (.inl (.inr rfl)) _) | exact HK.out)) hkp (fun k_ hs_ => Or.elim hs_ (fun hs_ => (fun e_ => Or.imp_left Or.inl ((HO1.out.1 k_ e_.symm))) hs_) (fun e_ => .inl (.inr e_)))); replace HO1 := Aside0.mk (Kd.R_reok rfl hy0 (fun k_ e_ => HO1.out.1 k_ e_)); replace HB := Aside0.mk (hb); (try clear hb); (try clear hkp); (try clear hy0)))
  repeat (go_quiet (first | (go_at_call 66; (with_reducible refine (impl_keyCell.calls s0_6 t259 _ A3.out).mono ?_); rintro e w' ⟨rfl, ⟨nd, rfl⟩⟩; (try first | exact ⟨rfl, _, World.drewN_drewN _ _ _⟩ | exact ⟨rfl, _, Eq.trans (World.drewN_drewN _ _ _) (congrArg (World.drewN _) (Nat.add_assoc _ _ _))⟩); obtain ⟨Ao24, co24, eo24⟩ := Kd.R_slice HO1.out; subst eo24; have p260 : 0 ≤ (t259 : Int) := of_decide_eq_true AS; have q260 : t259 < (l1.length : Int) := of_decide_eq_true AS; obtain ⟨ad260, e260, hx260_0⟩ := Kd.at_int (Kd.R_reads' HO1.out).2.2 t259 p260 q260; cases e260; replace p260 := eq_true p260; replace q260 := eq_true q260) | (go_at_call 87; (with_reducible refine (impl_Task_nobody.calls g s0_0 s0_1 s0_2 s0_3 s0_4 s0_5 s0_6 s0_7 s0_8 s0_9 s0_10 (fun k_ => some k_ = (.slice (some ad260) l1.length co24 : Value).ownBlock) (.slice (some ad260) l1.length co24) l1 t285 t286 t287 t288 t289 t290 t291 t292 t293 t294 t295 t296 w0 _ ?side1 ?side2 ?side3 A22.out).mono ?_); (case side1 => repeat (first | (with_reducible first | exact HI0.out | apply IsS46.alloc | apply IsS46.drewN | apply IsS46.drew | apply IsS46.set_0 | apply IsS46.set_1 | apply IsS46.set_2 | apply IsS46.set_3 | apply IsS46.set_4 | apply IsS46.set_5 | apply IsS46.set_6 | apply IsS46.set_7 | apply IsS46.set_8 | apply IsS46.set_9 | apply IsS46.set_10) | exact HI0.out)); (case side2 => repeat (first | (with_reducible first | exact HB.out | apply below_alloc | apply pw_below_drewN | apply below_drew1 | refine below_set ?_ (IsS46.ge HI0.out)) | exact HB.out)); (case side3 => exact Kd.R_tight rfl HO1.out); rintro e w25 ⟨rfl, hi, hy0, hb, hkp⟩; replace HI0 := Aside0.mk (hi); replace HK := Aside0.mk (Kept.then_ (S := (fun k_ => (P1_ k_) ∨ k_ = g)) (by repeat (first | (with_reducible first | exact HK.out | apply Kept.alloc | apply Kept.drewN | apply Kept.drew | refine Kept.setCell ?_ (.inl (.inr rfl)) _) | exact HK.out)) hkp (fun k_ hs_ => Or.elim hs_ (fun hs_ => (fun e_ => Or.imp_left Or.inl ((HO1.out.1 k_ e_.symm))) hs_) (fun e_ => .inl (.inr e_)))); replace HO1 := Aside0.mk (Kd.R_reok rfl hy0 (fun k_ e_ => HO1.out.1 k_ e_)); replace HB := Aside0.mk (hb); (try clear hb); (try clear hkp); (try clear hy0))); try go_wp2_with (first | (go_at_call 66; (with_reducible refine (impl_keyCell.calls s0_6 t259 _ A3.out).mono ?_); rintro e w' ⟨rfl, ⟨nd, rfl⟩⟩; (try first | exact ⟨rfl, _, World.drewN_drewN _ _ _⟩ | exact ⟨rfl, _, Eq.trans (World.drewN_drewN _ _ _) (congrArg (World.drewN _) (Nat.add_assoc _ _ _))⟩); obtain ⟨Ao24, co24, eo24⟩ := Kd.R_slice HO1.out; subst eo24; have p260 : 0 ≤ (t259 : Int) := of_decide_eq_true AS; have q260 : t259 < (l1.length : Int) := of_decide_eq_true AS; obtain ⟨ad260, e260, hx260_0⟩ := Kd.at_int (Kd.R_reads' HO1.out).2.2 t259 p260 q260; cases e260; replace p260 := eq_true p260; replace q260 := eq_true q260) | (go_at_call 87; (with_reducible refine (impl_Task_nobody.calls g s0_0 s0_1 s0_2 s0_3 s0_4 s0_5 s0_6 s0_7 s0_8 s0_9 s0_10 (fun k_ => some k_ = (.slice (some ad260) l1.length co24 : Value).ownBlock) (.slice (some ad260) l1.length co24) l1 t285 t286 t287 t288 t289 t290 t291 t292 t293 t294 t295 t296 w0 _ ?side1 ?side2 ?side3 A22.out).mono ?_); (case side1 => repeat (first | (with_reducible first | exact HI0.out | apply IsS46.alloc | apply IsS46.drewN | apply IsS46.drew | apply IsS46.set_0 | apply IsS46.set_1 | apply IsS46.set_2 | apply IsS46.set_3 | apply IsS46.set_4 | apply IsS46.set_5 | apply IsS46.set_6 | apply IsS46.set_7 | apply IsS46.set_8 | apply IsS46.set_9 | apply IsS46.set_10) | exact HI0.out)); (case side2 => repeat (first | (with_reducible first | exact HB.out | apply below_alloc | apply pw_below_drewN | apply below_drew1 | refine below_set ?_ (IsS46.ge HI0.out)) | exact HB.out)); (case side3 => exact Kd.R_tight rfl HO1.out); rintro e w25 ⟨rfl, hi, hy0, hb, hkp⟩; replace HI0 := Aside0.mk (hi); replace HK := Aside0.mk (Kept.then_ (S := (fun k_ => (P1_ k_) ∨ k_ = g)) (by repeat (first | (with_reducible first | exact HK.out | apply Kept.alloc | apply Kept.drewN | apply Kept.drew | refine Kept.setCell ?_ (.inl (.inr rfl)) _) | exact HK.out)) hkp (fun k_ hs_ => Or.elim hs_ (fun hs_ => (fun e_ => Or.imp_left Or.inl ((HO1.out.1 k_ e_.symm))) hs_) (fun e_ => .inl (.inr e_)))); replace HO1 := Aside0.mk (Kd.R_reok rfl hy0 (fun k_ e_ => HO1.out.1 k_ e_)); replace HB := Aside0.mk (hb); (try clear hb); (try clear hkp); (try clear hy0))))
  first | go_end0 | ((try simp only [Exit.inBlock, Exit.then]); refine bodyPost_ret (results_none rfl _ _ _) rfl ?_)
  exact ⟨EE, by repeat (first | (with_reducible first | exact HI0.out | apply IsS46.alloc | apply IsS46.drewN | apply IsS46.drew | apply IsS46.set_0 | apply IsS46.set_1 | apply IsS46.set_2 | apply IsS46.set_3 | apply IsS46.set_4 | apply IsS46.set_5 | apply IsS46.set_6 | apply IsS46.set_7 | apply IsS46.set_8 | apply IsS46.set_9 | apply IsS46.set_10) | exact HI0.out), RQ HO1.out, by repeat (first | (with_reducible first | exact HB.out | apply below_alloc | apply pw_below_drewN | apply below_drew1 | refine below_set ?_ (IsS46.ge HI0.out)) | exact HB.out), by repeat (first | (with_reducible first | exact HK.out | apply Kept.alloc | apply Kept.drewN | apply Kept.drew | refine Kept.setCell ?_ (.inl (.inr rfl)) _) | exact HK.out)⟩
 rw [if_pos c6] at H
 have c6b0 : ((rd l1 t259) == s0_1) = true := beq_iff_eq.mpr c6
 have c6b1 : ((rd l1 t259) != s0_1) = false := bne_eq_false_iff_eq.mpr c6
 clear c6
 by_cases c7 : s0_0 = 1
 ·
  rw [if_pos c7] at H
  have c7b0 : (s0_0 == 1) = true := beq_iff_eq.mpr c7
  have c7b1 : (s0_0 != 1) = false := bne_eq_false_iff_eq.mpr c7
  clear c7
  replace H := Option.bind_eq_some_iff.mp H
  obtain ⟨t261, A80, H⟩ := H
  replace H : (if 0 ≤ t261 then (if t261 < (l1.length : Int) then ((impl_Task_done.f s0_0 s0_1 s0_2 s0_3 s0_4 s0_5 s0_6 s0_7 s0_8 s0_9 s0_10 (wrap64 ((rd l1 t261) + 1))).bind fun bt263 => (some (bt263.1, bt263.2.1, bt263.2.2.1, bt263.2.2.2.1, bt263.2.2.2.2.1, bt263.2.2.2.2.2.1, bt263.2.2.2.2.2.2.1, bt263.2.2.2.2.2.2.2.1, bt263.2.2.2.2.2.2.2.2.1, bt263.2.2.2.2.2.2.2.2.2.1, bt263.2.2.2.2.2.2.2.2.2.2, l1))) else (none)) else (none)) = some (r1, r2, r3, r4, r5, r6, r7, r8, r9, r10, r11, r12) := H
  have A8 := Aside0.mk A80
  clear A80
  by_cases c9 : 0 ≤ t261; rotate_left
  ·
   rw [if_neg c9] at H
   exact absurd H (by simp)
  rw [if_pos c9] at H
  have c9b0 : decide (0 ≤ t261) = true := decide_eq_true c9
  clear c9
  by_cases c10 : t261 < (l1.length : Int); rotate_left
  ·
   rw [if_neg c10] at H
   exact absurd H (by simp)
  rw [if_pos c10] at H
  have c10b0 : decide (t261 < (l1.length : Int)) = true := decide_eq_true c10
  clear c10
  replace H := Option.bind_eq_some_iff.mp H
  obtain ⟨⟨t263, t264, t265, t266, t267, t268, t269, t270, t271, t272, t273⟩, A110, H⟩ := H
  replace H : (some (t263, t264, t265, t266, t267, t268, t269, t270, t271, t272, t273, l1)) = some (r1, r2, r3, r4, r5, r6, r7, r8, r9, r10, r11, r12) := H
  have A11 := Aside0.mk A110
  clear A110
  simp only [Option.some.injEq, Prod.mk.injEq] at H
  obtain ⟨rfl, rfl, rfl, rfl, rfl, rfl, rfl, rfl, rfl, rfl, rfl, rfl⟩ := H
  obtain ⟨HGz12, hgz12⟩ := HI0.out
  have hcz12_0 := cellS46_0 HGz12
  have hcz12_1 := cellS46_1 HGz12
  have hcz12_2 := cellS46_2 HGz12
  have hcz12_3 := cellS46_3 HGz12
  have hcz12_4 := cellS46_4 HGz12
  have hcz12_5 := cellS46_5 HGz12
  have hcz12_6 := cellS46_6 HGz12
  have hcz12_7 := cellS46_7 HGz12
  have hcz12_8 := cellS46_8 HGz12
  have hcz12_9 := cellS46_9 HGz12
  have hcz12_10 := cellS46_10 HGz12
  have hfz12_0 := blk_frozen HGz12 0
  have hfz12_1 := blk_frozen HGz12 1
  have hfz12_2 := blk_frozen HGz12 2
  have hfz12_3 := blk_frozen HGz12 3
  have hfz12_4 := blk_frozen HGz12 4
  have hfz12_5 := blk_frozen HGz12 5
  have hfz12_6 := blk_frozen HGz12 6
  have hfz12_7 := blk_frozen HGz12 7
  have hfz12_8 := blk_frozen HGz12 8
  have hfz12_9 := blk_frozen HGz12 9
  have hfz12_10 := blk_frozen HGz12 10
  clear HGz12 hgz12
  go_enter Try.func81, Try.ntmps81
  go_wp2_with (first | (go_at_call 66; (with_reducible refine (impl_keyCell.calls s0_6 t259 _ A3.out).mono ?_); rintro e w' ⟨rfl, ⟨nd, rfl⟩⟩; (try first | exact ⟨rfl, _, World.drewN_drewN _ _ _⟩ | exact ⟨rfl, _, Eq.trans (World.drewN_drewN _ _ _) (congrArg (World.drewN _) (Nat.add_assoc _ _ _))⟩); obtain ⟨Ao13, co13, eo13⟩ := Kd.R_slice HO1.out; subst eo13; have p260 : 0 ≤ (t259 : Int) := of_decide_eq_true AS; have q260 : t259 < (l1.length : Int) := of_decide_eq_true AS; obtain ⟨ad260, e260, hx260_0⟩ := Kd.at_int (Kd.R_reads' HO1.out).2.2 t259 p260 q260; cases e260; replace p260 := eq_true p260; replace q260 := eq_true q260) | (go_at_call 67; (with_reducible refine (impl_valCell.calls s0_6 t261 _ A8.out).mono ?_); rintro e w' ⟨rfl, ⟨nd, rfl⟩⟩; (try first | exact ⟨rfl, _, World.drewN_drewN _ _ _⟩ | exact ⟨rfl, _, Eq.trans (World.drewN_drewN _ _ _) (congrArg (World.drewN _) (Nat.add_assoc _ _ _))⟩); have p262 : 0 ≤ (t261 : Int) := of_decide_eq_true AS; have q262 : t261 < (l1.length : Int) := of_decide_eq_true AS; obtain ⟨ad262, e262, hx262_0⟩ := Kd.at_int (Kd.R_reads' HO1.out).2.2 t261 p262 q262; obtain rfl : ad260 = ad262 := (by injection e262); replace p262 := eq_true p262; replace q262 := eq_true q262) | (go_at_call 83; (with_reducible refine (impl_Task_done.calls g s0_0 s0_1 s0_2 s0_3 s0_4 s0_5 s0_6 s0_7 s0_8 s0_9 s0_10 (wrap64 ((rd l1 t261) + 1)) t263 t264 t265 t266 t267 t268 t269 t270 t271 t272 t273 w0 _ ?side1 ?side2 A11.out).mono ?_); (case side1 => repeat (first | (with_reducible first | exact HI0.out | apply IsS46.alloc | apply IsS46.drewN | apply IsS46.drew | apply IsS46.set_0 | apply IsS46.set_1 | apply IsS46.set_2 | apply IsS46.set_3 | apply IsS46.set_4 | apply IsS46.set_5 | apply IsS46.set_6 | apply IsS46.set_7 | apply IsS46.set_8 | apply IsS46.set_9 | apply IsS46.set_10) | exact HI0.out)); (case side2 => repeat (first | (with_reducible first | exact HB.out | apply below_alloc | apply pw_below_drewN | apply below_drew1 | refine below_set ?_ (IsS46.ge HI0.out)) | exact HB.out)); rintro e w14 ⟨rfl, hi, hb, hk⟩; replace HO1 := Aside0.mk (Kd.R_mono (Kd.R_keep (IsS46.apart (show IsS46 w0 _ g s0_0 s0_1 s0_2 s0_3 s0_4 s0_5 s0_6 s0_7 s0_8 s0_9 s0_10 from by repeat (first | (with_reducible first | exact HI0.out | apply IsS46.alloc | apply IsS46.drewN | apply IsS46.drew | apply IsS46.set_0 | apply IsS46.set_1 | apply IsS46.set_2 | apply IsS46.set_3 | apply IsS46.set_4 | apply IsS46.set_5 | apply IsS46.set_6 | apply IsS46.set_7 | apply IsS46.set_8 | apply IsS46.set_9 | apply IsS46.set_10) | exact HI0.out)) (RQ HO1.out) (by decide)) hk (fun _ h => h.2)) (fun _ h => h.1)); replace HK := Aside0.mk (Kept.of_keep (S := (fun k_ => (P1_ k_) ∨ k_ = g)) (by repeat (first | (with_reducible first | exact HK.out | apply Kept.alloc | apply Kept.drewN | apply Kept.drew | refine Kept.setCell ?_ (.inl (.inr rfl)) _) | exact HK.out)) hk (.inl (.inr rfl))); replace HB := Aside0.mk (hb); replace HI0 := Aside0.mk (hi); (try clear hb); (try clear hb2); (try clear hk); (try clear hi)))
  repeat (go_quiet (first | (go_at_call 66; (with_reducible refine (impl_keyCell.calls s0_6 t259 _ A3.out).mono ?_); rintro e w' ⟨rfl, ⟨nd, rfl⟩⟩; (try first | exact ⟨rfl, _, World.drewN_drewN _ _ _⟩ | exact ⟨rfl, _, Eq.trans (World.drewN_drewN _ _ _) (congrArg (World.drewN _) (Nat.add_assoc _ _ _))⟩); obtain ⟨Ao13, co13, eo13⟩ := Kd.R_slice HO1.out; subst eo13; have p260 : 0 ≤ (t259 : Int) := of_decide_eq_true AS; have q260 : t259 < (l1.length : Int) := of_decide_eq_true AS; obtain ⟨ad260, e260, hx260_0⟩ := Kd.at_int (Kd.R_reads' HO1.out).2.2 t259 p260 q260; cases e260; replace p260 := eq_true p260; replace q260 := eq_true q260) | (go_at_call 67; (with_reducible refine (impl_valCell.calls s0_6 t261 _ A8.out).mono ?_); rintro e w' ⟨rfl, ⟨nd, rfl⟩⟩; (try first | exact ⟨rfl, _, World.drewN_drewN _ _ _⟩ | exact ⟨rfl, _, Eq.trans (World.drewN_drewN _ _ _) (congrArg (World.drewN _) (Nat.add_assoc _ _ _))⟩); have p262 : 0 ≤ (t261 : Int) := of_decide_eq_true AS; have q262 : t261 < (l1.length : Int) := of_decide_eq_true AS; obtain ⟨ad262, e262, hx262_0⟩ := Kd.at_int (Kd.R_reads' HO1.out).2.2 t261 p262 q262; obtain rfl : ad260 = ad262 := (by injection e262); replace p262 := eq_true p262; replace q262 := eq_true q262) | (go_at_call 83; (with_reducible refine (impl_Task_done.calls g s0_0 s0_1 s0_2 s0_3 s0_4 s0_5 s0_6 s0_7 s0_8 s0_9 s0_10 (wrap64 ((rd l1 t261) + 1)) t263 t264 t265 t266 t267 t268 t269 t270 t271 t272 t273 w0 _ ?side1 ?side2 A11.out).mono ?_); (case side1 => repeat (first | (with_reducible first | exact HI0.out | apply IsS46.alloc | apply IsS46.drewN | apply IsS46.drew | apply IsS46.set_0 | apply IsS46.set_1 | apply IsS46.set_2 | apply IsS46.set_3 | apply IsS46.set_4 | apply IsS46.set_5 | apply IsS46.set_6 | apply IsS46.set_7 | apply IsS46.set_8 | apply IsS46.set_9 | apply IsS46.set_10) | exact HI0.out)); (case side2 => repeat (first | (with_reducible first | exact HB.out | apply below_alloc | apply pw_below_drewN | apply below_drew1 | refine below_set ?_ (IsS46.ge HI0.out)) | exact HB.out)); rintro e w14 ⟨rfl, hi, hb, hk⟩; replace HO1 := Aside0.mk (Kd.R_mono (Kd.R_keep (IsS46.apart (show IsS46 w0 _ g s0_0 s0_1 s0_2 s0_3 s0_4 s0_5 s0_6 s0_7 s0_8 s0_9 s0_10 from by repeat (first | (with_reducible first | exact HI0.out | apply IsS46.alloc | apply IsS46.drewN | apply IsS46.drew | apply IsS46.set_0 | apply IsS46.set_1 | apply IsS46.set_2 | apply IsS46.set_3 | apply IsS46.set_4 | apply IsS46.set_5 | apply IsS46.set_6 | apply IsS46.set_7 | apply IsS46.set_8 | apply IsS46.set_9 | apply IsS46.set_10) | exact HI0.out)) (RQ HO1.out) (by decide)) hk (fun _ h => h.2)) (fun _ h => h.1)); replace HK := Aside0.mk (Kept.of_keep (S := (fun k_ => (P1_ k_) ∨ k_ = g)) (by repeat (first | (with_reducible first | exact HK.out | apply Kept.alloc | apply Kept.drewN | apply Kept.drew | refine Kept.setCell ?_ (.inl (.inr rfl)) _) | exact HK.out)) hk (.inl (.inr rfl))); replace HB := Aside0.mk (hb); replace HI0 := Aside0.mk (hi); (try clear hb); (try clear hb2); (try clear hk); (try clear hi))); try go_wp2_with (first | (go_at_call 66; (with_reducible refine (impl_keyCell.calls s0_6 t259 _ A3.out).mono ?_); rintro e w' ⟨rfl, ⟨nd, rfl⟩⟩; (try first | exact ⟨rfl, _, World.drewN_drewN _ _ _⟩ | exact ⟨rfl, _, Eq.trans (World.drewN_drewN _ _ _) (congrArg (World.drewN _) (Nat.add_assoc _ _ _))⟩); obtain ⟨Ao13, co13, eo13⟩ := Kd.R_slice HO1.out; subst eo13; have p260 : 0 ≤ (t259 : Int) := of_decide_eq_true AS; have q260 : t259 < (l1.length : Int) := of_decide_eq_true AS; obtain ⟨ad260, e260, hx260_0⟩ := Kd.at_int (Kd.R_reads' HO1.out).2.2 t259 p260 q260; cases e260; replace p260 := eq_true p260; replace q260 := eq_true q260) | (go_at_call 67; (with_reducible refine (impl_valCell.calls s0_6 t261 _ A8.out).mono ?_); rintro e w' ⟨rfl, ⟨nd, rfl⟩⟩; (try first | exact ⟨rfl, _, World.drewN_drewN _ _ _⟩ | exact ⟨rfl, _, Eq.trans (World.drewN_drewN _ _ _) (congrArg (World.drewN _) (Nat.add_assoc _ _ _))⟩); have p262 : 0 ≤ (t261 : Int) := of_decide_eq_true AS; have q262 : t261 < (l1.length : Int) := of_decide_eq_true AS; obtain ⟨ad262, e262, hx262_0⟩ := Kd.at_int (Kd.R_reads' HO1.out).2.2 t261 p262 q262; obtain rfl : ad260 = ad262 := (by injection e262); replace p262 := eq_true p262; replace q262 := eq_true q262) | (go_at_call 83; (with_reducible refine (impl_Task_done.calls g s0_0 s0_1 s0_2 s0_3 s0_4 s0_5 s0_6 s0_7 s0_8 s0_9 s0_10 (wrap64 ((rd l1 t261) + 1)) t263 t264 t265 t266 t267 t268 t269 t270 t271 t272 t273 w0 _ ?side1 ?side2 A11.out).mono ?_); (case side1 => repeat (first | (with_reducible first | exact HI0.out | apply IsS46.alloc | apply IsS46.drewN | apply IsS46.drew | apply IsS46.set_0 | apply IsS46.set_1 | apply IsS46.set_2 | apply IsS46.set_3 | apply IsS46.set_4 | apply IsS46.set_5 | apply IsS46.set_6 | apply IsS46.set_7 | apply IsS46.set_8 | apply IsS46.set_9 | apply IsS46.set_10) | exact HI0.out)); (case side2 => repeat (first | (with_reducible first | exact HB.out | apply below_alloc | apply pw_below_drewN | apply below_drew1 | refine below_set ?_ (IsS46.ge HI0.out)) | exact HB.out)); rintro e w14 ⟨rfl, hi, hb, hk⟩; replace HO1 := Aside0.mk (Kd.R_mono (Kd.R_keep (IsS46.apart (show IsS46 w0 _ g s0_0 s0_1 s0_2 s0_3 s0_4 s0_5 s0_6 s0_7 s0_8 s0_9 s0_10 from by repeat (first | (with_reducible first | exact HI0.out | apply IsS46.alloc | apply IsS46.drewN | apply IsS46.drew | apply IsS46.set_0 | apply IsS46.set_1 | apply IsS46.set_2 | apply IsS46.set_3 | apply IsS46.set_4 | apply IsS46.set_5 | apply IsS46.set_6 | apply IsS46.set_7 | apply IsS46.set_8 | apply IsS46.set_9 | apply IsS46.set_10) | exact HI0.out)) (RQ HO1.out) (by decide)) hk (fun _ h => h.2)) (fun _ h => h.1)); replace HK := Aside0.mk (Kept.of_keep (S := (fun k_ => (P1_ k_) ∨ k_ = g)) (by repeat (first | (with_reducible first | exact HK.out | apply Kept.alloc | apply Kept.drewN | apply Kept.drew | refine Kept.setCell ?_ (.inl (.inr rfl)) _) | exact HK.out)) hk (.inl (.inr rfl))); replace HB := Aside0.mk (hb); replace HI0 := Aside0.mk (hi); (try clear hb); (try clear hb2); (try clear hk); (try clear hi))))
  first | go_end0 | ((try simp only [Exit.inBlock, Exit.then]); refine bodyPost_ret (results_none rfl _ _ _) rfl ?_)
  exact ⟨EE, by repeat (first | (with_reducible first | exact HI0.out | apply IsS46.alloc | apply IsS46.drewN | apply IsS46.drew | apply IsS46.set_0 | apply IsS46.set_1 | apply IsS46.set_2 | apply IsS46.set_3 | apply IsS46.set_4 | apply IsS46.set_5 | apply IsS46.set_6 | apply IsS46.set_7 | apply IsS46.set_8 | apply IsS46.set_9 | apply IsS46.set_10) | exact HI0.out), RQ HO1.out, by repeat (first | (with_reducible first | exact HB.out | apply below_alloc | apply pw_below_drewN | apply below_drew1 | refine below_set ?_ (IsS46.ge HI0.out)) | exact HB.out), by repeat (first | (with_reducible first | exact HK.out | apply Kept.alloc | apply Kept.drewN | apply Kept.drew | refine Kept.setCell ?_ (.inl (.inr rfl)) _) | exact HK.out)⟩
 rw [if_neg c7] at H
 have c7b0 : (s0_0 == 1) = false := beq_eq_false_iff_ne.mpr c7
 have c7b1 : (s0_0 != 1) = true := bne_iff_ne.mpr c7
 by_cases c15 : s0_0 = 2; rotate_left
 ·
  rw [if_neg c15] at H
  have c15b0 : (s0_0 == 2) = false := beq_eq_false_iff_ne.mpr c15
  have c15b1 : (s0_0 != 2) = true := bne_iff_ne.mpr c15
  simp only [Option.some.injEq, Prod.mk.injEq] at H
  obtain ⟨rfl, rfl, rfl, rfl, rfl, rfl, rfl, rfl, rfl, rfl, rfl, rfl⟩ := H
  obtain ⟨HGz20, hgz20⟩ := HI0.out
  have hcz20_0 := cellS46_0 HGz20
  have hcz20_1 := cellS46_1 HGz20
  have hcz20_2 := cellS46_2 HGz20
  have hcz20_3 := cellS46_3 HGz20
  have hcz20_4 := cellS46_4 HGz20
  have hcz20_5 := cellS46_5 HGz20
  have hcz20_6 := cellS46_6 HGz20
  have hcz20_7 := cellS46_7 HGz20
  have hcz20_8 := cellS46_8 HGz20
  have hcz20_9 := cellS46_9 HGz20
  have hcz20_10 := cellS46_10 HGz20
  have hfz20_0 := blk_frozen HGz20 0
  have hfz20_1 := blk_frozen HGz20 1
  have hfz20_2 := blk_frozen HGz20 2
  have hfz20_3 := blk_frozen HGz20 3
  have hfz20_4 := blk_frozen HGz20 4
  have hfz20_5 := blk_frozen HGz20 5
  have hfz20_6 := blk_frozen HGz20 6
  have hfz20_7 := blk_frozen HGz20 7
  have hfz20_8 := blk_frozen HGz20 8
  have hfz20_9 := blk_frozen HGz20 9
  have hfz20_10 := blk_frozen HGz20 10
  clear HGz20 hgz20
  go_enter Try.func81, Try.ntmps81
  go_wp2_with (first | (go_at_call 66; (with_reducible refine (impl_keyCell.calls s0_6 t259 _ A3.out).mono ?_); rintro e w' ⟨rfl, ⟨nd, rfl⟩⟩; (try first | exact ⟨rfl, _, World.drewN_drewN _ _ _⟩ | exact ⟨rfl, _, Eq.trans (World.drewN_drewN _ _ _) (congrArg (World.drewN _) (Nat.add_assoc _ _ _))⟩); obtain ⟨Ao21, co21, eo21⟩ := Kd.R_slice HO1.out; subst eo21; have p260 : 0 ≤ (t259 : Int) := of_decide_eq_true AS; have q260 : t259 < (l1.length : Int) := of_decide_eq_true AS; obtain ⟨ad260, e260, hx260_0⟩ := Kd.at_int (Kd.R_reads' HO1.out).2.2 t259 p260 q260; cases e260; replace p260 := eq_true p260; replace q260 := eq_true q260))
  repeat (go_quiet (first | (go_at_call 66; (with_reducible refine (impl_keyCell.calls s0_6 t259 _ A3.out).mono ?_); rintro e w' ⟨rfl, ⟨nd, rfl⟩⟩; (try first | exact ⟨rfl, _, World.drewN_drewN _ _ _⟩ | exact ⟨rfl, _, Eq.trans (World.drewN_drewN _ _ _) (congrArg (World.drewN _) (Nat.add_assoc _ _ _))⟩); obtain ⟨Ao21, co21, eo21⟩ := Kd.R_slice HO1.out; subst eo21; have p260 : 0 ≤ (t259 : Int) := of_decide_eq_true AS; have q260 : t259 < (l1.length : Int) := of_decide_eq_true AS; obtain ⟨ad260, e260, hx260_0⟩ := Kd.at_int (Kd.R_reads' HO1.out).2.2 t259 p260 q260; cases e260; replace p260 := eq_true p260; replace q260 := eq_true q260)); try go_wp2_with (first | (go_at_call 66; (with_reducible refine (impl_keyCell.calls s0_6 t259 _ A3.out).mono ?_); rintro e w' ⟨rfl, ⟨nd, rfl⟩⟩; (try first | exact ⟨rfl, _, World.drewN_drewN _ _ _⟩ | exact ⟨rfl, _, Eq.trans (World.drewN_drewN _ _ _) (congrArg (World.drewN _) (Nat.add_assoc _ _ _))⟩); obtain ⟨Ao21, co21, eo21⟩ := Kd.R_slice HO1.out; subst eo21; have p260 : 0 ≤ (t259 : Int) := of_decide_eq_true AS; have q260 : t259 < (l1.length : Int) := of_decide_eq_true AS; obtain ⟨ad260, e260, hx260_0⟩ := Kd.at_int (Kd.R_reads' HO1.out).2.2 t259 p260 q260; cases e260; replace p260 := eq_true p260; replace q260 := eq_true q260)))
  first | go_end0 | ((try simp only [Exit.inBlock, Exit.then]); refine bodyPost_ret (results_none rfl _ _ _) rfl ?_)
  exact ⟨EE, by repeat (first | (with_reducible first | exact HI0.out | apply IsS46.alloc | apply IsS46.drewN | apply IsS46.drew | apply IsS46.set_0 | apply IsS46.set_1 | apply IsS46.set_2 | apply IsS46.set_3 | apply IsS46.set_4 | apply IsS46.set_5 | apply IsS46.set_6 | apply IsS46.set_7 | apply IsS46.set_8 | apply IsS46.set_9 | apply IsS46.set_10) | exact HI0.out), by (with_reducible repeat (first | apply r1 | apply r2 | apply r3)); exact Kd.R_mono (Kd.R_far (p := ⟨g, 4, none⟩) (IsS46.apart HI0.out HO1.out (by decide)) (fun _ hk => hk.2) (.int .i64 5)) (fun _ hk => hk.1), by repeat (first | (with_reducible first | exact HB.out | apply below_alloc | apply pw_below_drewN | apply below_drew1 | refine below_set ?_ (IsS46.ge HI0.out)) | exact HB.out), by repeat (first | (with_reducible first | exact HK.out | apply Kept.alloc | apply Kept.drewN | apply Kept.drew | refine Kept.setCell ?_ (.inl (.inr rfl)) _) | exact HK.out)⟩
 rw [if_pos c15] at H
 have c15b0 : (s0_0 == 2) = true := beq_iff_eq.mpr c15
 have c15b1 : (s0_0 != 2) = false := bne_eq_false_iff_eq.mpr c15
 clear c15
 replace H := Option.bind_eq_some_iff.mp H
 obtain ⟨⟨t274, t275, t276, t277, t278, t279, t280, t281, t282, t283, t284⟩, A160, H⟩ := H
 replace H : (some (t274, t275, t276, t277, t278, t279, t280, t281, t282, t283, t284, l1)) = some (r1, r2, r3, r4, r5, r6, r7, r8, r9, r10, r11, r12) := H
 have A16 := Aside0.mk A160
 clear A160
 simp only [Option.some.injEq, Prod.mk.injEq] at H
 obtain ⟨rfl, rfl, rfl, rfl, rfl, rfl, rfl, rfl, rfl, rfl, rfl, rfl⟩ := H
 obtain ⟨HGz17, hgz17⟩ := HI0.out
 have hcz17_0 := cellS46_0 HGz17
 have hcz17_1 := cellS46_1 HGz17
 have hcz17_2 := cellS46_2 HGz17
 have hcz17_3 := cellS46_3 HGz17
 have hcz17_4 := cellS46_4 HGz17
 have hcz17_5 := cellS46_5 HGz17
 have hcz17_6 := cellS46_6 HGz17
 have hcz17_7 := cellS46_7 HGz17
 have hcz17_8 := cellS46_8 HGz17
 have hcz17_9 := cellS46_9 HGz17
 have hcz17_10 := cellS46_10 HGz17
 have hfz17_0 := blk_frozen HGz17 0
 have hfz17_1 := blk_frozen HGz17 1
 have hfz17_2 := blk_frozen HGz17 2
 have hfz17_3 := blk_frozen HGz17 3
 have hfz17_4 := blk_frozen HGz17 4
 have hfz17_5 := blk_frozen HGz17 5
 have hfz17_6 := blk_frozen HGz17 6
 have hfz17_7 := blk_frozen HGz17 7
 have hfz17_8 := blk_frozen HGz17 8
 have hfz17_9 := blk_frozen HGz17 9
 have hfz17_10 := blk_frozen HGz17 10
 clear HGz17 hgz17
 go_enter Try.func81, Try.ntmps81
 go_wp2_with (first | (go_at_call 66; (with_reducible refine (impl_keyCell.calls s0_6 t259 _ A3.out).mono ?_); rintro e w' ⟨rfl, ⟨nd, rfl⟩⟩; (try first | exact ⟨rfl, _, World.drewN_drewN _ _ _⟩ | exact ⟨rfl, _, Eq.trans (World.drewN_drewN _ _ _) (congrArg (World.drewN _) (Nat.add_assoc _ _ _))⟩); obtain ⟨Ao18, co18, eo18⟩ := Kd.R_slice HO1.out; subst eo18; have p260 : 0 ≤ (t259 : Int) := of_decide_eq_true AS; have q260 : t259 < (l1.length : Int) := of_decide_eq_true AS; obtain ⟨ad260, e260, hx260_0⟩ := Kd.at_int (Kd.R_reads' HO1.out).2.2 t259 p260 q260; cases e260; replace p260 := eq_true p260; replace q260 := eq_true q260) | (go_at_call 83; (with_reducible refine (impl_Task_done.calls g s0_0 s0_1 s0_2 s0_3 s0_4 s0_5 s0_6 s0_7 s0_8 s0_9 s0_10 0 t274 t275 t276 t277 t278 t279 t280 t281 t282 t283 t284 w0 _ ?side1 ?side2 A16.out).mono ?_); (case side1 => repeat (first | (with_reducible first | exact HI0.out | apply IsS46.alloc | apply IsS46.drewN | apply IsS46.drew | apply IsS46.set_0 | apply IsS46.set_1 | apply IsS46.set_2 | apply IsS46.set_3 | apply IsS46.set_4 | apply IsS46.set_5 | apply IsS46.set_6 | apply IsS46.set_7 | apply IsS46.set_8 | apply IsS46.set_9 | apply IsS46.set_10) | exact HI0.out)); (case side2 => repeat (first | (with_reducible first | exact HB.out | apply below_alloc | apply pw_below_drewN | apply below_drew1 | refine below_set ?_ (IsS46.ge HI0.out)) | exact HB.out)); rintro e w19 ⟨rfl, hi, hb, hk⟩; replace HO1 := Aside0.mk (Kd.R_mono (Kd.R_keep (IsS46.apart (show IsS46 w0 _ g s0_0 s0_1 s0_2 s0_3 s0_4 s0_5 s0_6 s0_7 s0_8 s0_9 s0_10 from by repeat (first | (with_reducible first | exact HI0.out | apply IsS46.alloc | apply IsS46.drewN | apply IsS46.drew | apply IsS46.set_0 | apply IsS46.set_1 | apply IsS46.set_2 | apply IsS46.set_3 | apply IsS46.set_4 | apply IsS46.set_5 | apply IsS46.set_6 | apply IsS46.set_7 | apply IsS46.set_8 | apply IsS46.set_9 | apply IsS46.set_10) | exact HI0.out)) (RQ HO1.out) (by decide)) hk (fun _ h => h.2)) (fun _ h => h.1)); replace HK := Aside0.mk (Kept.of_keep (S := (fun k_ => (P1_ k_) ∨ k_ = g)) (by repeat (first | (with_reducible first | exact HK.out | apply Kept.alloc | apply Kept.drewN | apply Kept.drew | refine Kept.setCell ?_ (.inl (.inr rfl)) _) | exact HK.out)) hk (.inl (.inr rfl))); replace HB := Aside0.mk (hb); replace HI0 := Aside0.mk (hi); (try clear hb); (try clear hb2); (try clear hk); (try clear hi)))
 repeat (go_quiet (first | (go_at_call 66; (with_reducible refine (impl_keyCell.calls s0_6 t259 _ A3.out).mono ?_); rintro e w' ⟨rfl, ⟨nd, rfl⟩⟩; (try first | exact ⟨rfl, _, World.drewN_drewN _ _ _⟩ | exact ⟨rfl, _, Eq.trans (World.drewN_drewN _ _ _) (congrArg (World.drewN _) (Nat.add_assoc _ _ _))⟩); obtain ⟨Ao18, co18, eo18⟩ := Kd.R_slice HO1.out; subst eo18; have p260 : 0 ≤ (t259 : Int) := of_decide_eq_true AS; have q260 : t259 < (l1.length : Int) := of_decide_eq_true AS; obtain ⟨ad260, e260, hx260_0⟩ := Kd.at_int (Kd.R_reads' HO1.out).2.2 t259 p260 q260; cases e260; replace p260 := eq_true p260; replace q260 := eq_true q260) | (go_at_call 83; (with_reducible refine (impl_Task_done.calls g s0_0 s0_1 s0_2 s0_3 s0_4 s0_5 s0_6 s0_7 s0_8 s0_9 s0_10 0 t274 t275 t276 t277 t278 t279 t280 t281 t282 t283 t284 w0 _ ?side1 ?side2 A16.out).mono ?_); (case side1 => repeat (first | (with_reducible first | exact HI0.out | apply IsS46.alloc | apply IsS46.drewN | apply IsS46.drew | apply IsS46.set_0 | apply IsS46.set_1 | apply IsS46.set_2 | apply IsS46.set_3 | apply IsS46.set_4 | apply IsS46.set_5 | apply IsS46.set_6 | apply IsS46.set_7 | apply IsS46.set_8 | apply IsS46.set_9 | apply IsS46.set_10) | exact HI0.out)); (case side2 => repeat (first | (with_reducible first | exact HB.out | apply below_alloc | apply pw_below_drewN | apply below_drew1 | refine below_set ?_ (IsS46.ge HI0.out)) | exact HB.out)); rintro e w19 ⟨rfl, hi, hb, hk⟩; replace HO1 := Aside0.mk (Kd.R_mono (Kd.R_keep (IsS46.apart (show IsS46 w0 _ g s0_0 s0_1 s0_2 s0_3 s0_4 s0_5 s0_6 s0_7 s0_8 s0_9 s0_10 from by repeat (first | (with_reducible first | exact HI0.out | apply IsS46.alloc | apply IsS46.drewN | apply IsS46.drew | apply IsS46.set_0 | apply IsS46.set_1 | apply IsS46.set_2 | apply IsS46.set_3 | apply IsS46.set_4 | apply IsS46.set_5 | apply IsS46.set_6 | apply IsS46.set_7 | apply IsS46.set_8 | apply IsS46.set_9 | apply IsS46.set_10) | exact HI0.out)) (RQ HO1.out) (by decide)) hk (fun _ h => h.2)) (fun _ h => h.1)); replace HK := Aside0.mk (Kept.of_keep (S := (fun k_ => (P1_ k_) ∨ k_ = g)) (by repeat (first | (with_reducible first | exact HK.out | apply Kept.alloc | apply Kept.drewN | apply Kept.drew | refine Kept.setCell ?_ (.inl (.inr rfl)) _) | exact HK.out)) hk (.inl (.inr rfl))); replace HB := Aside0.mk (hb); replace HI0 := Aside0.mk (hi); (try clear hb); (try clear hb2); (try clear hk); (try clear hi))); try go_wp2_with (first | (go_at_call 66; (with_reducible refine (impl_keyCell.calls s0_6 t259 _ A3.out).mono ?_); rintro e w' ⟨rfl, ⟨nd, rfl⟩⟩; (try first | exact ⟨rfl, _, World.drewN_drewN _ _ _⟩ | exact ⟨rfl, _, Eq.trans (World.drewN_drewN _ _ _) (congrArg (World.drewN _) (Nat.add_assoc _ _ _))⟩); obtain ⟨Ao18, co18, eo18⟩ := Kd.R_slice HO1.out; subst eo18; have p260 : 0 ≤ (t259 : Int) := of_decide_eq_true AS; have q260 : t259 < (l1.length : Int) := of_decide_eq_true AS; obtain ⟨ad260, e260, hx260_0⟩ := Kd.at_int (Kd.R_reads' HO1.out).2.2 t259 p260 q260; cases e260; replace p260 := eq_true p260; replace q260 := eq_true q260) | (go_at_call 83; (with_reducible refine (impl_Task_done.calls g s0_0 s0_1 s0_2 s0_3 s0_4 s0_5 s0_6 s0_7 s0_8 s0_9 s0_10 0 t274 t275 t276 t277 t278 t279 t280 t281 t282 t283 t284 w0 _ ?side1 ?side2 A16.out).mono ?_); (case side1 => repeat (first | (with_reducible first | exact HI0.out | apply IsS46.alloc | apply IsS46.drewN | apply IsS46.drew | apply IsS46.set_0 | apply IsS46.set_1 | apply IsS46.set_2 | apply IsS46.set_3 | apply IsS46.set_4 | apply IsS46.set_5 | apply IsS46.set_6 | apply IsS46.set_7 | apply IsS46.set_8 | apply IsS46.set_9 | apply IsS46.set_10) | exact HI0.out)); (case side2 => repeat (first | (with_reducible first | exact HB.out | apply below_alloc | apply pw_below_drewN | apply below_drew1 | refine below_set ?_ (IsS46.ge HI0.out)) | exact HB.out)); rintro e w19 ⟨rfl, hi, hb, hk⟩; replace HO1 := Aside0.mk (Kd.R_mono (Kd.R_keep (IsS46.apart (show IsS46 w0 _ g s0_0 s0_1 s0_2 s0_3 s0_4 s0_5 s0_6 s0_7 s0_8 s0_9 s0_10 from by repeat (first | (with_reducible first | exact HI0.out | apply IsS46.alloc | apply IsS46.drewN | apply IsS46.drew | apply IsS46.set_0 | apply IsS46.set_1 | apply IsS46.set_2 | apply IsS46.set_3 | apply IsS46.set_4 | apply IsS46.set_5 | apply IsS46.set_6 | apply IsS46.set_7 | apply IsS46.set_8 | apply IsS46.set_9 | apply IsS46.set_10) | exact HI0.out)) (RQ HO1.out) (by decide)) hk (fun _ h => h.2)) (fun _ h => h.1)); replace HK := Aside0.mk (Kept.of_keep (S := (fun k_ => (P1_ k_) ∨ k_ = g)) (by repeat (first | (with_reducible first | exact HK.out | apply Kept.alloc | apply Kept.drewN | apply Kept.drew | refine Kept.setCell ?_ (.inl (.inr rfl)) _) | exact HK.out)) hk (.inl (.inr rfl))); replace HB := Aside0.mk (hb); replace HI0 := Aside0.mk (hi); (try clear hb); (try clear hb2); (try clear hk); (try clear hi))))
 first | go_end0 | ((try simp only [Exit.inBlock, Exit.then]); refine bodyPost_ret (results_none rfl _ _ _) rfl ?_)
 exact ⟨EE, by repeat (first | (with_reducible first | exact HI0.out | apply IsS46.alloc | apply IsS46.drewN | apply IsS46.drew | apply IsS46.set_0 | apply IsS46.set_1 | apply IsS46.set_2 | apply IsS46.set_3 | apply IsS46.set_4 | apply IsS46.set_5 | apply IsS46.set_6 | apply IsS46.set_7 | apply IsS46.set_8 | apply IsS46.set_9 | apply IsS46.set_10) | exact HI0.out), RQ HO1.out, by repeat (first | (with_reducible first | exact HB.out | apply below_alloc | apply pw_below_drewN | apply below_drew1 | refine below_set ?_ (IsS46.ge HI0.out)) | exact HB.out), by repeat (first | (with_reducible first | exact HK.out | apply Kept.alloc | apply Kept.drewN | apply Kept.drew | refine Kept.setCell ?_ (.inl (.inr rfl)) _) | exact HK.out)⟩

/-! ### impl_swapWord: function 82 -/
def impl_swapWord.f (l0 : List Int) (a1 : Int) (a2 : Int) (a3 : Int) : Option (Bool × List Int) := (impl_wordCell.f a1).bind fun t297 => (if 0 ≤ t297 then (if t297 < (l0.length : Int) then (if (rd l0 t297) = a2 then (some (true, (l0.set (t297 : Int).toNat a3))) else (some (false, l0))) else (none)) else (none))
set_option maxHeartbeats 8000000 in
set_option maxRecDepth 100000 in
theorem impl_swapWord.calls (P0_ : Nat → Prop) (u9000_ : Value) (l0 : List Int) (a1 : Int) (a2 : Int) (a3 : Int) (r1 : Bool) (r2 : List Int) (w0 w : World) (hB : Below w0.heap.size w0 w) (ho0 : Kd.R (Kd.int .i64) 3 w w0.heap.size P0_ u9000_ l0) (h : impl_swapWord.f l0 a1 a2 a3 = some (r1, r2)) :
  Calls Try.prog 82 #[u9000_, .int .i64 a1, .int .i64 a2, .int .i64 a3] w fun e w' => e = .returned (.bool r1) ∧ Kd.R (Kd.int .i64) 3 w' w0.heap.size (fun k_ => (P0_ k_ ∨ w.heap.size ≤ k_)) u9000_ r2 ∧ Below w0.heap.size w0 w' ∧ Kept w w' (fun k_ => P0_ k_) := by
 have HO0 := Aside0.mk (show Kd.R (Kd.int .i64) 3 w w0.heap.size (fun k_ => (P0_ k_ ∨ w.heap.size ≤ k_)) u9000_ l0 from Kd.R_mono ho0 (fun k_ hk => (.inl hk)))
 have HK := Aside0.mk (Kept.refl w (fun k_ => P0_ k_))
 have HW0 := Aside0.mk hB.size
 have HB := Aside0.mk hB
 clear hB
 obtain ⟨wv, hwv⟩ : ∃ wv : World, wv = w := ⟨w, rfl⟩
 replace HO0 : Aside0 (Kd.R (Kd.int .i64) 3 w w0.heap.size (fun k_ => (P0_ k_ ∨ wv.heap.size ≤ k_)) u9000_ l0) := by rw [hwv]; exact HO0
 replace HK : Aside0 (Kept wv w (fun k_ => P0_ k_)) := by rw [hwv]; exact HK
 suffices hs_ : Calls Try.prog 82 #[u9000_, .int .i64 a1, .int .i64 a2, .int .i64 a3] w fun e w' => e = .returned (.bool r1) ∧ Kd.R (Kd.int .i64) 3 w' w0.heap.size (fun k_ => (P0_ k_ ∨ wv.heap.size ≤ k_)) u9000_ r2 ∧ Below w0.heap.size w0 w' ∧ Kept wv w' (fun k_ => P0_ k_) by rw [hwv] at hs_; exact hs_
 clear hwv
 have H : ((impl_wordCell.f a1).bind fun t297 => (if 0 ≤ t297 then (if t297 < (l0.length : Int) then (if (rd l0 t297) = a2 then (some (true, (l0.set (t297 : Int).toNat a3))) else (some (false, l0))) else (none)) else (none))) = some (r1, r2) := h
 clear h
 replace H := Option.bind_eq_some_iff.mp H
 obtain ⟨t297, A50, H⟩ := H
 replace H : (if 0 ≤ t297 then (if t297 < (l0.length : Int) then (if (rd l0 t297) = a2 then (some (true, (l0.set (t297 : Int).toNat a3))) else (some (false, l0))) else (none)) else (none)) = some (r1, r2) := H
 have A5 := Aside0.mk A50
 clear A50
 by_cases c6 : 0 ≤ t297; rotate_left
 ·
  rw [if_neg c6] at H
  exact absurd H (by simp)
 rw [if_pos c6] at H
 have c6b0 : decide (0 ≤ t297) = true := decide_eq_true c6
 clear c6
 by_cases c7 : t297 < (l0.length : Int); rotate_left
 ·
  rw [if_neg c7] at H
  exact absurd H (by simp)
 rw [if_pos c7] at H
 have c7b0 : decide (t297 < (l0.length : Int)) = true := decide_eq_true c7
 clear c7
 by_cases c8 : (rd l0 t297) = a2; rotate_left
 ·
  rw [if_neg c8] at H
  have c8b0 : ((rd l0 t297) == a2) = false := beq_eq_false_iff_ne.mpr c8
  have c8b1 : ((rd l0 t297) != a2) = true := bne_iff_ne.mpr c8
  simp only [Option.some.injEq, Prod.mk.injEq] at H
  obtain ⟨rfl, rfl⟩ := H
  go_enter Try.func82, Try.ntmps82
  go_wp2_with (first | ((with_reducible refine gate_callee (f := 76) rfl ?_); refine goesL_ (some 11) rfl rfl Try.func76 (by kernel_rfl) rfl #[.int .i64 a1] rfl (MA) ?_; (with_reducible refine (impl_wordCell.calls a1 t297 _ A5.out).mono ?_); rintro e w' ⟨rfl, ⟨nd, rfl⟩⟩; refine ⟨_, rfl, ?_⟩; obtain ⟨Ao13, co13, eo13⟩ := Kd.R_slice HO0.out; subst eo13; have p298 : 0 ≤ (t297 : Int) := of_decide_eq_true AS; have q298 : t297 < (l0.length : Int) := of_decide_eq_true AS; obtain ⟨ad298, e298, hx298_0⟩ := Kd.at_int (Kd.R_reads' HO0.out).2.2 t297 p298 q298; cases e298; replace p298 := eq_true p298; replace q298 := eq_true q298))
  go_ret
  exact ⟨EE, RQ HO0.out, BL, KL⟩
 rw [if_pos c8] at H
 have c8b0 : ((rd l0 t297) == a2) = true := beq_iff_eq.mpr c8
 have c8b1 : ((rd l0 t297) != a2) = false := bne_eq_false_iff_eq.mpr c8
 clear c8
 obtain ⟨y299, hy299⟩ : ∃ y_ : List Int, y_ = (l0.set (t297 : Int).toNat a3) := ⟨_, rfl⟩
 replace H : (some (true, y299)) = some (r1, r2) := by first | (rw [hy299]; with_reducible exact H) | (have H2_ := (Option.bind_some _ _).symm.trans H; rw [hy299]; with_reducible exact H2_) | (have H2_ := (Option.bind_some _ _).symm.trans H; with_reducible exact H2_) | with_reducible exact H | (rw [hy299]; exact H) | exact H
 have Ny299 := Aside0.mk hy299
 clear hy299
 simp only [Option.some.injEq, Prod.mk.injEq] at H
 obtain ⟨rfl, rfl⟩ := H
 go_enter Try.func82, Try.ntmps82
 go_wp2_with (first | ((with_reducible refine gate_callee (f := 76) rfl ?_); refine goesL_ (some 11) rfl rfl Try.func76 (by kernel_rfl) rfl #[.int .i64 a1] rfl (MA) ?_; (with_reducible refine (impl_wordCell.calls a1 t297 _ A5.out).mono ?_); rintro e w' ⟨rfl, ⟨nd, rfl⟩⟩; refine ⟨_, rfl, ?_⟩; (try (rw [drewN_self w]; generalize hq_ : World.drewN w _ = w; have n0_ : Aside0 (Kd.R (Kd.int .i64) 3 w w0.heap.size (fun k_ => (P0_ k_ ∨ wv.heap.size ≤ k_)) u9000_ l0) := ⟨by rw [← hq_]; exact (RQ HO0.out)⟩; have n1_ : Aside0 (Kept wv w (fun k_ => P0_ k_)) := ⟨by rw [← hq_]; exact (KL)⟩; have n2_ : Aside0 (Below w0.heap.size w0 w) := ⟨by rw [← hq_]; exact (BL)⟩; clear HO0 HK HB hq_; have HO0 := n0_; have HK := n1_; have HB := n2_; clear n0_ n1_ n2_)); obtain ⟨Ao10, co10, eo10⟩ := Kd.R_slice HO0.out; subst eo10; have p298 : 0 ≤ (t297 : Int) := of_decide_eq_true AS; have q298 : t297 < (l0.length : Int) := of_decide_eq_true AS; obtain ⟨ad298, e298, hx298_0⟩ := Kd.at_int (Kd.R_reads' HO0.out).2.2 t297 p298 q298; cases e298; replace p298 := eq_true p298; replace q298 := eq_true q298; have p9 : 0 ≤ (t297 : Int) := of_decide_eq_true AS; have q9 : (t297 : Int) < ((l0.length : Int) : Int) := of_decide_eq_true AS; obtain ⟨go9, co9, eo9, gb9, gl9, cl9, HG9⟩ := Kd.R_form HO0.out (by omega); (first | cases eo9 | (injection eo9 with ea_ en_ ec_; (first | subst ea_ | (injection ea_ with ea_; subst ea_)); subst ec_; clear en_)); have GB9 := Aside0.mk gb9; have GG9 := Aside0.mk HG9; clear gb9 gl9 HG9; have HMgo9 := Aside0.mk (show (P0_ go9 ∨ wv.heap.size ≤ go9) from (HO0.out.1 _ rfl)); (first | simp only [add_plain] at hx298_0 | skip); obtain ⟨hx9_0, hf9_0⟩ := Kd.R_celln 0 HO0.out (t297 : Int) p9 q9; replace p9 := eq_true p9; replace q9 := eq_true q9; obtain ⟨hy11_, hz11_⟩ := Kd.R_celln 0 HO0.out (t297 : Int) (of_decide_eq_true AS) (of_decide_eq_true AS); have HP11 := Kd.R_putg HO0.out (t297 : Int) a3) | ((with_reducible refine gate_store (t := 3) (p := 21) rfl ?_); refine store_event (t := 3) (p := 21) (v := ?vo_w12) (w1 := (w.setCell ⟨go9, (t297 : Int).toNat, none⟩ (.int .i64 a3))) ?hg ?ho ?hn ?hr ?_; (case ho => rfl); (case hg => rfl); (case hn => rfl); (case hr => first | (go_simp; done) | (go_simp; rfl)); intro w12 hw; have hg : w.grownBy w12 (some go9) := (by rw [hw]; exact HP11.2); have hp_ : Kd.R (Kd.int .i64) 3 w12 w0.heap.size (fun k_ => (P0_ k_ ∨ wv.heap.size ≤ k_)) (.slice (some ⟨go9, 0, none⟩) l0.length co10) y299 := (by rw [hw, Ny299.out]; exact HP11.1); clear HP11; replace HK := Aside0.mk (Kept.of_grown (S := (fun k_ => P0_ k_)) hg (KL) (fun k_ e_ => (HO0.out.1 k_ e_))); replace HO0 := Aside0.mk (hp_); replace HB := Aside0.mk ((by rw [hw]; exact below_set (HB.out) GB9.out : Below w0.heap.size w0 w12)); clear hg hw hp_))
 go_ret
 exact ⟨EE, RQ HO0.out, BL, KL⟩

/-! ### impl_nodeOf: function 75 -/
def impl_nodeOf.f (a0 : Int) : Option (Int) := (impl_within.f (a0 / 2) 1 20).bind fun t300 => (if t300 = true then (some (a0 / 2)) else (some 0))
set_option maxHeartbeats 8000000 in
set_option maxRecDepth 100000 in
theorem impl_nodeOf.calls (a0 : Int) (r : Int) (w : World) (h : impl_nodeOf.f a0 = some r) :
  Calls Try.prog 75 #[.int .i64 a0] w fun e w' => e = .returned (.int .i64 r) ∧ Drawn0 w w' := by
 have H : ((impl_within.f (a0 / 2) 1 20).bind fun t300 => (if t300 = true then (some (a0 / 2)) else (some 0))) = some r := h
 clear h
 replace H := Option.bind_eq_some_iff.mp H
 obtain ⟨t300, A20, H⟩ := H
 replace H : (if t300 = true then (some (a0 / 2)) else (some 0)) = some r := H
 have A2 := Aside0.mk A20
 clear A20
 by_cases c3 : t300 = true
 ·
  subst c3
  have H1 : (some (a0 / 2)) = some r := by rw [if_pos rfl] at H; exact H
  clear H
  have H := H1
  clear H1
  obtain rfl := Option.some.inj H
  go_enter Try.func75, Try.ntmps75
  go_wp2_with (first | ((with_reducible refine gate_callee (f := 60) rfl ?_); refine goesL_ (some 7) rfl rfl Try.func60 (by kernel_rfl) rfl #[.int .i64 (a0 / 2), .int .i64 1, .int .i64 20] rfl (MA) ?_; (with_reducible refine (impl_within.calls (a0 / 2) 1 20 true _ A2.out).mono ?_); rintro e w' ⟨rfl, ⟨nd, rfl⟩⟩; refine ⟨_, rfl, ?_⟩))
  go_ret
  exact ⟨by first | rfl | (simp; done) | (simp [*]; done), by repeat (first | exact Drawn0.refl _ | apply Drawn0.step)⟩
 replace c3 := Bool.eq_false_iff.mpr c3
 subst c3
 have H1 : (some 0) = some r := by rw [if_neg (show ¬ (false = true) by decide)] at H; exact H
 clear H
 have H := H1
 clear H1
 obtain rfl := Option.some.inj H
 go_enter Try.func75, Try.ntmps75
 go_wp2_with (first | ((with_reducible refine gate_callee (f := 60) rfl ?_); refine goesL_ (some 7) rfl rfl Try.func60 (by kernel_rfl) rfl #[.int .i64 (a0 / 2), .int .i64 1, .int .i64 20] rfl (MA) ?_; (with_reducible refine (impl_within.calls (a0 / 2) 1 20 false _ A2.out).mono ?_); rintro e w' ⟨rfl, ⟨nd, rfl⟩⟩; refine ⟨_, rfl, ?_⟩))
 go_ret
 exact ⟨by first | rfl | (simp; done) | (simp [*]; done), by repeat (first | exact Drawn0.refl _ | apply Drawn0.step)⟩

end Go.Proofs.Ytjmggbhgmenmcaa.Qs
