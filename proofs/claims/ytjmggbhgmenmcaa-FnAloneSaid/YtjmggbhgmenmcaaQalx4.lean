-- Laid by myprint.py, a program of this session's own, over the kit's print. Not trusted: Lean checks it.
import Derived.Test.YtjmggbhgmenmcaaQalx0
import Derived.Test.YtjmggbhgmenmcaaQalx1
import Derived.Test.YtjmggbhgmenmcaaQalx3
namespace Go.Proofs.Ytjmggbhgmenmcaa.Qal
open Go.RowKit Go.Proofs.YtjmggbhgmenmcaaW.PrintWords Go.Proofs.YtjmggbhgmenmcaaW.PrintLast Go.Proofs.YtjmggbhgmenmcaaW.PrintMore
attribute [local go_sem] Go.Proofs.Ytjmggbhgmenmcaa.StrCmp.gtr_less Go.Proofs.Ytjmggbhgmenmcaa.StrCmp.geq_less Go.Proofs.Ytjmggbhgmenmcaa.StrCmp.leq_less max2_int min2_int max_two min_two max_three min_three max_four min_four   -- for this text's walks alone
set_option linter.unusedVariables false
set_option linter.unusedSimpArgs false

/-! ### impl_Task_nobody: function 87 -/
def impl_Task_nobody.f (s0_0 : Int) (s0_1 : Int) (s0_2 : Int) (s0_3 : Int) (s0_4 : Int) (s0_5 : Int) (s0_6 : Int) (s0_7 : Int) (s0_8 : Int) (s0_9 : Bool) (s0_10 : Int) (l1 : List Int) : Option (Int × Int × Int × Int × Int × Int × Int × Int × Int × Bool × Int × List Int) := if s0_0 = 2 then ((impl_keyCell.f s0_3).bind fun t191 => ((impl_valCell.f s0_3).bind fun t192 => ((impl_wordCell.f s0_3).bind fun t193 => (if 0 ≤ t191 then (if t191 < (l1.length : Int) then (if 0 ≤ t192 then (if t192 < (l1.length : Int) then (if 0 ≤ t193 then (if t193 < (l1.length : Int) then (some (s0_0, s0_1, s0_2, s0_3, 4, s0_5, s0_6, s0_7, s0_8, s0_9, s0_10, (((l1.set (t191 : Int).toNat s0_1).set (t192 : Int).toNat s0_2).set (t193 : Int).toNat (wrap64 (2 * s0_6))))) else (none)) else (none)) else (none)) else (none)) else (none)) else (none))))) else ((impl_Task_done.f s0_0 s0_1 s0_2 s0_3 s0_4 s0_5 s0_6 s0_7 s0_8 s0_9 s0_10 0).bind fun bt197 => (some (bt197.1, bt197.2.1, bt197.2.2.1, bt197.2.2.2.1, bt197.2.2.2.2.1, bt197.2.2.2.2.2.1, bt197.2.2.2.2.2.2.1, bt197.2.2.2.2.2.2.2.1, bt197.2.2.2.2.2.2.2.2.1, bt197.2.2.2.2.2.2.2.2.2.1, bt197.2.2.2.2.2.2.2.2.2.2, l1)))
def impl_Task_nobody.T2 : Bool × List (List Nat × List Nat) := (true, [([], []), ([], []), ([1], [1]), ([2], [2]), ([3], [3]), ([4], [4]), ([], []), ([], []), ([7], [7]), ([8], [8]), ([9], [9]), ([10, 5], [10]), ([], []), ([], []), ([13], [13]), ([14], [14]), ([15], [15]), ([16, 11], [16]), ([], []), ([18], [18]), ([19], [19]), ([20], [20]), ([], []), ([22], [22]), ([23], [23]), ([24], [24]), ([], []), ([26], [26]), ([27], [27]), ([28], [28]), ([29], [29]), ([0, 5, 0, 1, 2, 3, 4, 5, 10, 11, 16, 17, 18, 19, 20, 21, 25, 29], [0, 5]), ([31, 21, 17, 0, 1, 2, 3, 4, 5, 10, 11, 16, 17, 18, 19, 20, 21, 25, 29], [21, 31]), ([6, 11, 0, 1, 2, 3, 4, 5, 6, 7, 8, 9, 10, 11, 16, 17, 18, 19, 20, 21, 22, 23, 24, 25, 29, 31, 32], [6, 11]), ([33, 25, 32, 0, 1, 2, 3, 4, 5, 6, 7, 8, 9, 10, 11, 16, 17, 18, 19, 20, 21, 22, 23, 24, 25, 29, 31, 32], [25, 33]), ([12, 17, 0, 1, 2, 3, 4, 5, 6, 7, 8, 9, 10, 11, 12, 13, 14, 15, 16, 17, 18, 19, 20, 21, 22, 23, 24, 25, 26, 27, 28, 29, 30, 31, 32, 33, 34], [12, 17]), ([35, 30, 34, 0, 1, 2, 3, 4, 5, 6, 7, 8, 9, 10, 11, 12, 13, 14, 15, 16, 17, 18, 19, 20, 21, 22, 23, 24, 25, 26, 27, 28, 29, 30, 31, 32, 33, 34], [30, 35])])
def impl_Task_nobody.B2 : List Nat := [0, 0, 2, 6, 14, 30, 0, 0, 128, 384, 896, 1982, 0, 0, 8192, 24576, 57344, 126910, 0, 262144, 786432, 1835008, 0, 4194304, 12582912, 29360128, 0, 67108864, 201326592, 469762048, 1006632960, 1073737663, 3221221311, 7516188671, 16106123263, 34359738367, 68719476735]
theorem impl_Task_nobody.tab2 : rtab .any (opsOf Try.f87 2) = impl_Task_nobody.T2 := by kernel_rfl
theorem impl_Task_nobody.bits2 : waitsOk impl_Task_nobody.T2.2 impl_Task_nobody.B2 = true := by kernel_rfl
set_option maxHeartbeats 8000000 in
set_option maxRecDepth 100000 in
theorem impl_Task_nobody.calls (g : Nat) (s0_0 : Int) (s0_1 : Int) (s0_2 : Int) (s0_3 : Int) (s0_4 : Int) (s0_5 : Int) (s0_6 : Int) (s0_7 : Int) (s0_8 : Int) (s0_9 : Bool) (s0_10 : Int) (P1_ : Nat → Prop) (u9000_ : Value) (l1 : List Int) (r1 : Int) (r2 : Int) (r3 : Int) (r4 : Int) (r5 : Int) (r6 : Int) (r7 : Int) (r8 : Int) (r9 : Int) (r10 : Bool) (r11 : Int) (r12 : List Int) (w0 w : World) (hI : IsS46 w0 w g s0_0 s0_1 s0_2 s0_3 s0_4 s0_5 s0_6 s0_7 s0_8 s0_9 s0_10) (hB : Below w0.heap.size w0 w) (ho1 : Kd.R (Kd.int .i64) 3 w w0.heap.size P1_ u9000_ l1) (h : impl_Task_nobody.f s0_0 s0_1 s0_2 s0_3 s0_4 s0_5 s0_6 s0_7 s0_8 s0_9 s0_10 l1 = some (r1, r2, r3, r4, r5, r6, r7, r8, r9, r10, r11, r12)) :
  Calls Try.prog 87 #[.pointer (some ⟨g, 0, none⟩), u9000_] w fun e w' => e = .returned (.tuple #[]) ∧ IsS46 w0 w' g r1 r2 r3 r4 r5 r6 r7 r8 r9 r10 r11 ∧ Kd.R (Kd.int .i64) 3 w' w0.heap.size (fun k_ => (P1_ k_ ∨ w.heap.size ≤ k_)) u9000_ r12 ∧ Below w0.heap.size w0 w' ∧ Kept w w' (fun k_ => (P1_ k_) ∨ k_ = g) := by
 have HO1 := Aside0.mk (show Kd.R (Kd.int .i64) 3 w w0.heap.size (fun k_ => (P1_ k_ ∨ w.heap.size ≤ k_)) u9000_ l1 from Kd.R_mono ho1 (fun k_ hk => (.inl hk)))
 have HI0 := Aside0.mk hI
 have HL := Aside0.mk hB.size
 clear hI
 have HK := Aside0.mk (Kept.refl w (fun k_ => (P1_ k_) ∨ k_ = g))
 have HW0 := Aside0.mk hB.size
 have HB := Aside0.mk hB
 clear hB
 have H : (if s0_0 = 2 then ((impl_keyCell.f s0_3).bind fun t191 => ((impl_valCell.f s0_3).bind fun t192 => ((impl_wordCell.f s0_3).bind fun t193 => (if 0 ≤ t191 then (if t191 < (l1.length : Int) then (if 0 ≤ t192 then (if t192 < (l1.length : Int) then (if 0 ≤ t193 then (if t193 < (l1.length : Int) then (some (s0_0, s0_1, s0_2, s0_3, 4, s0_5, s0_6, s0_7, s0_8, s0_9, s0_10, (((l1.set (t191 : Int).toNat s0_1).set (t192 : Int).toNat s0_2).set (t193 : Int).toNat (wrap64 (2 * s0_6))))) else (none)) else (none)) else (none)) else (none)) else (none)) else (none))))) else ((impl_Task_done.f s0_0 s0_1 s0_2 s0_3 s0_4 s0_5 s0_6 s0_7 s0_8 s0_9 s0_10 0).bind fun bt197 => (some (bt197.1, bt197.2.1, bt197.2.2.1, bt197.2.2.2.1, bt197.2.2.2.2.1, bt197.2.2.2.2.2.1, bt197.2.2.2.2.2.2.1, bt197.2.2.2.2.2.2.2.1, bt197.2.2.2.2.2.2.2.2.1, bt197.2.2.2.2.2.2.2.2.2.1, bt197.2.2.2.2.2.2.2.2.2.2, l1)))) = some (r1, r2, r3, r4, r5, r6, r7, r8, r9, r10, r11, r12) := h
 clear h
 by_cases c3 : s0_0 = 2; rotate_left
 ·
  rw [if_neg c3] at H
  have c3b0 : (s0_0 == 2) = false := beq_eq_false_iff_ne.mpr c3
  have c3b1 : (s0_0 != 2) = true := bne_iff_ne.mpr c3
  replace H := Option.bind_eq_some_iff.mp H
  obtain ⟨⟨t197, t198, t199, t200, t201, t202, t203, t204, t205, t206, t207⟩, A230, H⟩ := H
  replace H : (some (t197, t198, t199, t200, t201, t202, t203, t204, t205, t206, t207, l1)) = some (r1, r2, r3, r4, r5, r6, r7, r8, r9, r10, r11, r12) := H
  have A23 := Aside0.mk A230
  clear A230
  simp only [Option.some.injEq, Prod.mk.injEq] at H
  obtain ⟨rfl, rfl, rfl, rfl, rfl, rfl, rfl, rfl, rfl, rfl, rfl, rfl⟩ := H
  obtain ⟨HGz24, hgz24⟩ := HI0.out
  have hcz24_0 := cellS46_0 HGz24
  have hcz24_1 := cellS46_1 HGz24
  have hcz24_2 := cellS46_2 HGz24
  have hcz24_3 := cellS46_3 HGz24
  have hcz24_4 := cellS46_4 HGz24
  have hcz24_5 := cellS46_5 HGz24
  have hcz24_6 := cellS46_6 HGz24
  have hcz24_7 := cellS46_7 HGz24
  have hcz24_8 := cellS46_8 HGz24
  have hcz24_9 := cellS46_9 HGz24
  have hcz24_10 := cellS46_10 HGz24
  have hfz24_0 := blk_frozen HGz24 0
  have hfz24_1 := blk_frozen HGz24 1
  have hfz24_2 := blk_frozen HGz24 2
  have hfz24_3 := blk_frozen HGz24 3
  have hfz24_4 := blk_frozen HGz24 4
  have hfz24_5 := blk_frozen HGz24 5
  have hfz24_6 := blk_frozen HGz24 6
  have hfz24_7 := blk_frozen HGz24 7
  have hfz24_8 := blk_frozen HGz24 8
  have hfz24_9 := blk_frozen HGz24 9
  have hfz24_10 := blk_frozen HGz24 10
  clear HGz24 hgz24
  go_enter Try.func87, Try.ntmps87
  go_wp2_with (first | ((with_reducible refine gate_callee (f := 83) rfl ?_); refine goesL_ (some 10) rfl rfl Try.func83 (by kernel_rfl) rfl #[.pointer (some ⟨g, 0, none⟩), .int .i64 0] rfl (MA) ?_; (with_reducible refine (impl_Task_done.calls g s0_0 s0_1 s0_2 s0_3 s0_4 s0_5 s0_6 s0_7 s0_8 s0_9 s0_10 0 t197 t198 t199 t200 t201 t202 t203 t204 t205 t206 t207 w0 _ ?side1 ?side2 A23.out).mono ?_); (case side1 => repeat (first | (with_reducible first | exact HI0.out | apply IsS46.alloc | apply IsS46.drewN | apply IsS46.drew | apply IsS46.set_0 | apply IsS46.set_1 | apply IsS46.set_2 | apply IsS46.set_3 | apply IsS46.set_4 | apply IsS46.set_5 | apply IsS46.set_6 | apply IsS46.set_7 | apply IsS46.set_8 | apply IsS46.set_9 | apply IsS46.set_10) | exact HI0.out)); (case side2 => repeat (first | (with_reducible first | exact HB.out | apply below_alloc | apply pw_below_drewN | apply below_drew1 | refine below_set ?_ (IsS46.ge HI0.out)) | exact HB.out)); rintro e w25 ⟨rfl, hi, hb, hk⟩; refine ⟨_, rfl, ?_⟩; replace HO1 := Aside0.mk (Kd.R_mono (Kd.R_keep (IsS46.apart (show IsS46 w0 _ g s0_0 s0_1 s0_2 s0_3 s0_4 s0_5 s0_6 s0_7 s0_8 s0_9 s0_10 from by repeat (first | (with_reducible first | exact HI0.out | apply IsS46.alloc | apply IsS46.drewN | apply IsS46.drew | apply IsS46.set_0 | apply IsS46.set_1 | apply IsS46.set_2 | apply IsS46.set_3 | apply IsS46.set_4 | apply IsS46.set_5 | apply IsS46.set_6 | apply IsS46.set_7 | apply IsS46.set_8 | apply IsS46.set_9 | apply IsS46.set_10) | exact HI0.out)) (RQ HO1.out) (by decide)) hk (fun _ h => h.2)) (fun _ h => h.1)); replace HK := Aside0.mk (Kept.of_keep (S := (fun k_ => (P1_ k_) ∨ k_ = g)) (by repeat (first | (with_reducible first | exact HK.out | apply Kept.alloc | apply Kept.drewN | apply Kept.drew | refine Kept.setCell ?_ (.inl (.inr rfl)) _) | exact HK.out)) hk (.inl (.inr rfl))); replace HB := Aside0.mk (hb); replace HI0 := Aside0.mk (hi); (try clear hb); (try clear hb2); (try clear hk); (try clear hi)))
  first | go_end0 | ((try simp only [Exit.inBlock, Exit.then]); refine bodyPost_ret (results_none rfl _ _ _) rfl ?_)
  exact ⟨EE, by repeat (first | (with_reducible first | exact HI0.out | apply IsS46.alloc | apply IsS46.drewN | apply IsS46.drew | apply IsS46.set_0 | apply IsS46.set_1 | apply IsS46.set_2 | apply IsS46.set_3 | apply IsS46.set_4 | apply IsS46.set_5 | apply IsS46.set_6 | apply IsS46.set_7 | apply IsS46.set_8 | apply IsS46.set_9 | apply IsS46.set_10) | exact HI0.out), RQ HO1.out, by repeat (first | (with_reducible first | exact HB.out | apply below_alloc | apply pw_below_drewN | apply below_drew1 | refine below_set ?_ (IsS46.ge HI0.out)) | exact HB.out), by repeat (first | (with_reducible first | exact HK.out | apply Kept.alloc | apply Kept.drewN | apply Kept.drew | refine Kept.setCell ?_ (.inl (.inr rfl)) _) | exact HK.out)⟩
 rw [if_pos c3] at H
 have c3b0 : (s0_0 == 2) = true := beq_iff_eq.mpr c3
 have c3b1 : (s0_0 != 2) = false := bne_eq_false_iff_eq.mpr c3
 clear c3
 replace H := Option.bind_eq_some_iff.mp H
 obtain ⟨t191, A40, H⟩ := H
 have A4 := Aside0.mk A40
 clear A40
 replace H := Option.bind_eq_some_iff.mp H
 obtain ⟨t192, A50, H⟩ := H
 have A5 := Aside0.mk A50
 clear A50
 replace H := Option.bind_eq_some_iff.mp H
 obtain ⟨t193, A60, H⟩ := H
 have A6 := Aside0.mk A60
 clear A60
 by_cases c7 : 0 ≤ t191; rotate_left
 ·
  rw [if_neg c7] at H
  exact absurd H (by simp)
 rw [if_pos c7] at H
 have c7b0 : decide (0 ≤ t191) = true := decide_eq_true c7
 clear c7
 by_cases c8 : t191 < (l1.length : Int); rotate_left
 ·
  rw [if_neg c8] at H
  exact absurd H (by simp)
 rw [if_pos c8] at H
 have c8b0 : decide (t191 < (l1.length : Int)) = true := decide_eq_true c8
 clear c8
 obtain ⟨y194, hy194⟩ : ∃ y_ : List Int, y_ = (l1.set (t191 : Int).toNat s0_1) := ⟨_, rfl⟩
 replace H : (if 0 ≤ t192 then (if t192 < (l1.length : Int) then (if 0 ≤ t193 then (if t193 < (l1.length : Int) then (some (s0_0, s0_1, s0_2, s0_3, 4, s0_5, s0_6, s0_7, s0_8, s0_9, s0_10, ((y194.set (t192 : Int).toNat s0_2).set (t193 : Int).toNat (wrap64 (2 * s0_6))))) else (none)) else (none)) else (none)) else (none)) = some (r1, r2, r3, r4, r5, r6, r7, r8, r9, r10, r11, r12) := by first | (rw [hy194]; with_reducible exact H) | (have H2_ := (Option.bind_some _ _).symm.trans H; rw [hy194]; with_reducible exact H2_) | (have H2_ := (Option.bind_some _ _).symm.trans H; with_reducible exact H2_) | with_reducible exact H | (rw [hy194]; exact H) | exact H
 have Ny194 := Aside0.mk hy194
 clear hy194
 by_cases c10 : 0 ≤ t192; rotate_left
 ·
  rw [if_neg c10] at H
  exact absurd H (by simp)
 rw [if_pos c10] at H
 have c10b0 : decide (0 ≤ t192) = true := decide_eq_true c10
 clear c10
 by_cases c11 : t192 < (l1.length : Int); rotate_left
 ·
  rw [if_neg c11] at H
  exact absurd H (by simp)
 rw [if_pos c11] at H
 have c11b0 : decide (t192 < (l1.length : Int)) = true := decide_eq_true c11
 clear c11
 obtain ⟨y195, hy195⟩ : ∃ y_ : List Int, y_ = (y194.set (t192 : Int).toNat s0_2) := ⟨_, rfl⟩
 replace H : (if 0 ≤ t193 then (if t193 < (l1.length : Int) then (some (s0_0, s0_1, s0_2, s0_3, 4, s0_5, s0_6, s0_7, s0_8, s0_9, s0_10, (y195.set (t193 : Int).toNat (wrap64 (2 * s0_6))))) else (none)) else (none)) = some (r1, r2, r3, r4, r5, r6, r7, r8, r9, r10, r11, r12) := by first | (rw [hy195]; with_reducible exact H) | (have H2_ := (Option.bind_some _ _).symm.trans H; rw [hy195]; with_reducible exact H2_) | (have H2_ := (Option.bind_some _ _).symm.trans H; with_reducible exact H2_) | with_reducible exact H | (rw [hy195]; exact H) | exact H
 have Ny195 := Aside0.mk hy195
 clear hy195
 by_cases c13 : 0 ≤ t193; rotate_left
 ·
  rw [if_neg c13] at H
  exact absurd H (by simp)
 rw [if_pos c13] at H
 have c13b0 : decide (0 ≤ t193) = true := decide_eq_true c13
 clear c13
 by_cases c14 : t193 < (l1.length : Int); rotate_left
 ·
  rw [if_neg c14] at H
  exact absurd H (by simp)
 rw [if_pos c14] at H
 have c14b0 : decide (t193 < (l1.length : Int)) = true := decide_eq_true c14
 clear c14
 obtain ⟨y196, hy196⟩ : ∃ y_ : List Int, y_ = (y195.set (t193 : Int).toNat (wrap64 (2 * s0_6))) := ⟨_, rfl⟩
 replace H : (some (s0_0, s0_1, s0_2, s0_3, 4, s0_5, s0_6, s0_7, s0_8, s0_9, s0_10, y196)) = some (r1, r2, r3, r4, r5, r6, r7, r8, r9, r10, r11, r12) := by first | (rw [hy196]; with_reducible exact H) | (have H2_ := (Option.bind_some _ _).symm.trans H; rw [hy196]; with_reducible exact H2_) | (have H2_ := (Option.bind_some _ _).symm.trans H; with_reducible exact H2_) | with_reducible exact H | (rw [hy196]; exact H) | exact H
 have Ny196 := Aside0.mk hy196
 clear hy196
 simp only [Option.some.injEq, Prod.mk.injEq] at H
 obtain ⟨rfl, rfl, rfl, rfl, rfl, rfl, rfl, rfl, rfl, rfl, rfl, rfl⟩ := H
 obtain ⟨HGz16, hgz16⟩ := HI0.out
 have hcz16_0 := cellS46_0 HGz16
 have hcz16_1 := cellS46_1 HGz16
 have hcz16_2 := cellS46_2 HGz16
 have hcz16_3 := cellS46_3 HGz16
 have hcz16_4 := cellS46_4 HGz16
 have hcz16_5 := cellS46_5 HGz16
 have hcz16_6 := cellS46_6 HGz16
 have hcz16_7 := cellS46_7 HGz16
 have hcz16_8 := cellS46_8 HGz16
 have hcz16_9 := cellS46_9 HGz16
 have hcz16_10 := cellS46_10 HGz16
 have hfz16_0 := blk_frozen HGz16 0
 have hfz16_1 := blk_frozen HGz16 1
 have hfz16_2 := blk_frozen HGz16 2
 have hfz16_3 := blk_frozen HGz16 3
 have hfz16_4 := blk_frozen HGz16 4
 have hfz16_5 := blk_frozen HGz16 5
 have hfz16_6 := blk_frozen HGz16 6
 have hfz16_7 := blk_frozen HGz16 7
 have hfz16_8 := blk_frozen HGz16 8
 have hfz16_9 := blk_frozen HGz16 9
 have hfz16_10 := blk_frozen HGz16 10
 clear HGz16 hgz16
 go_enter Try.func87, Try.ntmps87
 try go_wp2
 have n0_ := Aside0.mk (Kd.R_drew HO1.out)
 have n1_ := Aside0.mk (IsS46.drew HI0.out)
 have n2_ := Aside0.mk (Kept.drew HK.out)
 have n3_ := Aside0.mk (below_drew1 HB.out)
 clear HO1
 clear HI0
 clear HK
 clear HB
 have HO1 := n0_
 have HI0 := n1_
 have HK := n2_
 have HB := n3_
 clear n0_ n1_ n2_ n3_
 refine start_ (n := 37) (S := fun w' => w'.cell? ⟨g, 0, none⟩ = some (.int .i64 s0_0) ∧ w'.cell? ⟨g, 1, none⟩ = some (.int .i64 s0_1) ∧ w'.cell? ⟨g, 2, none⟩ = some (.int .i64 s0_2) ∧ w'.cell? ⟨g, 3, none⟩ = some (.int .i64 s0_3) ∧ w'.cell? ⟨g, 4, none⟩ = some (.int .i64 s0_4) ∧ w'.cell? ⟨g, 5, none⟩ = some (.int .i64 s0_5) ∧ w'.cell? ⟨g, 6, none⟩ = some (.int .i64 s0_6) ∧ w'.cell? ⟨g, 7, none⟩ = some (.int .i64 s0_7) ∧ w'.cell? ⟨g, 8, none⟩ = some (.int .i64 s0_8) ∧ w'.cell? ⟨g, 9, none⟩ = some (.bool s0_9) ∧ w'.cell? ⟨g, 10, none⟩ = some (.int .i64 s0_10)) (ds := [32, 34, 36]) #[false, false, false, false, false, false, false, false, false, false, false, false, false, false, false, false, false, false, false, false, false, false, false, false, false, false, false, false, false, false, false, false, false, false, false, false, false] (by kernel_rfl) rfl rfl ⟨(blk_cell (Aside0.mk (HI0.out).1).out 0).trans rfl, (blk_cell (Aside0.mk (HI0.out).1).out 1).trans rfl, (blk_cell (Aside0.mk (HI0.out).1).out 2).trans rfl, (blk_cell (Aside0.mk (HI0.out).1).out 3).trans rfl, (blk_cell (Aside0.mk (HI0.out).1).out 4).trans rfl, (blk_cell (Aside0.mk (HI0.out).1).out 5).trans rfl, (blk_cell (Aside0.mk (HI0.out).1).out 6).trans rfl, (blk_cell (Aside0.mk (HI0.out).1).out 7).trans rfl, (blk_cell (Aside0.mk (HI0.out).1).out 8).trans rfl, (blk_cell (Aside0.mk (HI0.out).1).out 9).trans rfl, (blk_cell (Aside0.mk (HI0.out).1).out 10).trans rfl⟩ (fun hHeld => ?_); refine with_tabW impl_Task_nobody.tab2 impl_Task_nobody.bits2 (fun HT_ HW_ => ?_)
 generalize w.drew = w17 at HO1 HI0 HK HB hHeld ⊢
 refine pV 0 11 (OB 37 1) ?_
 refine pV 1 12 (OB 37 3) ?_
 refine pV 2 13 (OB 37 7) ?_
 refine pV 3 14 (OB 37 15) ?_
 refine pV 6 17 (OB 37 79) ?_
 refine pV 7 18 (OB 37 207) ?_
 refine pV 8 19 (OB 37 463) ?_
 refine pV 9 20 (OB 37 975) ?_
 refine pV 12 23 (OB 37 5071) ?_
 refine pV 13 24 (OB 37 13263) ?_
 refine pV 14 25 (OB 37 29647) ?_
 refine pV 15 26 (OB 37 62415) ?_
 refine pV 18 29 (OB 37 324559) ?_
 refine pV 19 30 (OB 37 848847) ?_
 refine pV 20 31 (OB 37 1897423) ?_
 refine pV 22 33 (OB 37 6091727) ?_
 refine pV 23 34 (OB 37 14480335) ?_
 refine pV 24 35 (OB 37 31257551) ?_
 refine pV 26 37 (OB 37 98366415) ?_
 refine pV 27 38 (OB 37 232584143) ?_
 refine pV 28 39 (OB 37 501019599) ?_
 refine take_ (i := 4) (N := some 15) (v := ?_) (a' := ?_) (OB 37 501019615) rfl rfl (take_ofW HT_.out HW_.out (by kernel_rfl)) (fun _ _ _ h => h) (Or.inl ⟨by rfl, ?_⟩) hHeld ?_ ?_
 rotate_left
 ·
  rintro w' ⟨s0, s1, s2, s3, s4, s5, s6, s7, s8, s9, s10⟩
  go_simp
  with_reducible rfl
 rotate_left
 ·
  simp only [Act.put, zA, zB, zC, i64_w, i32_w]
  rfl
 refine take_ (i := 10) (N := some 21) (v := ?_) (a' := ?_) (OB 37 501020639) rfl rfl (take_ofW HT_.out HW_.out (by kernel_rfl)) (fun _ _ _ h => h) (Or.inl ⟨by rfl, ?_⟩) hHeld ?_ ?_
 rotate_left
 ·
  rintro w' ⟨s0, s1, s2, s3, s4, s5, s6, s7, s8, s9, s10⟩
  go_simp
  with_reducible rfl
 rotate_left
 ·
  simp only [Act.put, zA, zB, zC, i64_w, i32_w]
  rfl
 refine take_ (i := 16) (N := some 27) (v := ?_) (a' := ?_) (OB 37 501086175) rfl rfl (take_ofW HT_.out HW_.out (by kernel_rfl)) (fun _ _ _ h => h) (Or.inl ⟨by rfl, ?_⟩) hHeld ?_ ?_
 rotate_left
 ·
  rintro w' ⟨s0, s1, s2, s3, s4, s5, s6, s7, s8, s9, s10⟩
  go_simp
  with_reducible rfl
 rotate_left
 ·
  simp only [Act.put, zA, zB, zC, i64_w, i32_w]
  rfl
 refine take_ (i := 21) (N := some 32) (v := ?_) (a' := ?_) (OB 37 503183327) rfl rfl (take_ofW HT_.out HW_.out (by kernel_rfl)) (fun _ _ _ h => h) (Or.inl ⟨by rfl, ?_⟩) hHeld ?_ ?_
 rotate_left
 ·
  rintro w' ⟨s0, s1, s2, s3, s4, s5, s6, s7, s8, s9, s10⟩
  go_simp
  with_reducible rfl
 rotate_left
 ·
  simp only [Act.put, zA, zB, zC, i64_w, i32_w]
  rfl
 refine take_ (i := 25) (N := some 36) (v := ?_) (a' := ?_) (OB 37 536737759) rfl rfl (take_ofW HT_.out HW_.out (by kernel_rfl)) (fun _ _ _ h => h) (Or.inl ⟨by rfl, ?_⟩) hHeld ?_ ?_
 rotate_left
 ·
  rintro w' ⟨s0, s1, s2, s3, s4, s5, s6, s7, s8, s9, s10⟩
  go_simp
  with_reducible rfl
 rotate_left
 ·
  simp only [Act.put, zA, zB, zC, i64_w, i32_w]
  rfl
 refine take_ (i := 29) (N := some 40) (v := ?_) (a' := ?_) (OB 37 1073608671) rfl rfl (take_ofW HT_.out HW_.out (by kernel_rfl)) (fun _ _ _ h => h) (Or.inl ⟨by rfl, ?_⟩) hHeld ?_ ?_
 rotate_left
 ·
  rintro w' ⟨s0, s1, s2, s3, s4, s5, s6, s7, s8, s9, s10⟩
  go_simp
  with_reducible rfl
 rotate_left
 ·
  simp only [Act.put, zA, zB, zC, i64_w, i32_w]
  rfl
 refine pV 30 41 (OB 37 2147350495) ?_
 refine one_ (i := 5) (N := some 16) (OB 37 2147350527) rfl rfl (one_of HT_.out (by kernel_rfl)) (by decide) (fun K hK => ?_)
 refine goes_ Try.func66 (by kernel_rfl) rfl #[.int .i64 s0_3] (by rfl) rfl rfl (MA) ?_
 with_reducible refine (impl_keyCell.calls s0_3 t191 _ A4.out).mono ?_
 rintro e w17 ⟨rfl, ⟨nd, hq_⟩⟩
 replace hq_ := hq_.symm
 replace HO1 := Aside0.mk (Kd.R_at hq_ HO1.out)
 replace HI0 := Aside0.mk (IsS46.at_ hq_ HI0.out)
 replace HK := Aside0.mk (kept_at hq_ HK.out)
 replace HB := Aside0.mk (below_at hq_ HB.out)
 clear hq_
 refine ⟨_, rfl, ?_⟩
 refine hK.out _ _ ⟨(blk_cell (Aside0.mk (HI0.out).1).out 0).trans rfl, (blk_cell (Aside0.mk (HI0.out).1).out 1).trans rfl, (blk_cell (Aside0.mk (HI0.out).1).out 2).trans rfl, (blk_cell (Aside0.mk (HI0.out).1).out 3).trans rfl, (blk_cell (Aside0.mk (HI0.out).1).out 4).trans rfl, (blk_cell (Aside0.mk (HI0.out).1).out 5).trans rfl, (blk_cell (Aside0.mk (HI0.out).1).out 6).trans rfl, (blk_cell (Aside0.mk (HI0.out).1).out 7).trans rfl, (blk_cell (Aside0.mk (HI0.out).1).out 8).trans rfl, (blk_cell (Aside0.mk (HI0.out).1).out 9).trans rfl, (blk_cell (Aside0.mk (HI0.out).1).out 10).trans rfl⟩ (fun hHeld => ?_)
 clear hK K
 refine norm_ (a' := ?_) ?_ ?_
 rotate_left
 ·
  show Act.put _ (some 16) _ = _
  simp only [Act.put, zA, zB, zC, i64_w, i32_w]
  rfl
 refine one_ (i := 11) (N := some 22) (OB 37 2147352575) rfl rfl (one_of HT_.out (by kernel_rfl)) (by decide) (fun K hK => ?_)
 refine goes_ Try.func67 (by kernel_rfl) rfl #[.int .i64 s0_3] (by rfl) rfl rfl (MA) ?_
 with_reducible refine (impl_valCell.calls s0_3 t192 _ A5.out).mono ?_
 rintro e w17 ⟨rfl, ⟨nd, hq_⟩⟩
 replace hq_ := hq_.symm
 replace HO1 := Aside0.mk (Kd.R_at hq_ HO1.out)
 replace HI0 := Aside0.mk (IsS46.at_ hq_ HI0.out)
 replace HK := Aside0.mk (kept_at hq_ HK.out)
 replace HB := Aside0.mk (below_at hq_ HB.out)
 clear hq_
 refine ⟨_, rfl, ?_⟩
 refine hK.out _ _ ⟨(blk_cell (Aside0.mk (HI0.out).1).out 0).trans rfl, (blk_cell (Aside0.mk (HI0.out).1).out 1).trans rfl, (blk_cell (Aside0.mk (HI0.out).1).out 2).trans rfl, (blk_cell (Aside0.mk (HI0.out).1).out 3).trans rfl, (blk_cell (Aside0.mk (HI0.out).1).out 4).trans rfl, (blk_cell (Aside0.mk (HI0.out).1).out 5).trans rfl, (blk_cell (Aside0.mk (HI0.out).1).out 6).trans rfl, (blk_cell (Aside0.mk (HI0.out).1).out 7).trans rfl, (blk_cell (Aside0.mk (HI0.out).1).out 8).trans rfl, (blk_cell (Aside0.mk (HI0.out).1).out 9).trans rfl, (blk_cell (Aside0.mk (HI0.out).1).out 10).trans rfl⟩ (fun hHeld => ?_)
 clear hK K
 refine norm_ (a' := ?_) ?_ ?_
 rotate_left
 ·
  show Act.put _ (some 22) _ = _
  simp only [Act.put, zA, zB, zC, i64_w, i32_w]
  rfl
 refine one_ (i := 17) (N := some 28) (OB 37 2147483647) rfl rfl (one_of HT_.out (by kernel_rfl)) (by decide) (fun K hK => ?_)
 refine goes_ Try.func76 (by kernel_rfl) rfl #[.int .i64 s0_3] (by rfl) rfl rfl (MA) ?_
 with_reducible refine (impl_wordCell.calls s0_3 t193 _ A6.out).mono ?_
 rintro e w17 ⟨rfl, ⟨nd, hq_⟩⟩
 replace hq_ := hq_.symm
 replace HO1 := Aside0.mk (Kd.R_at hq_ HO1.out)
 replace HI0 := Aside0.mk (IsS46.at_ hq_ HI0.out)
 replace HK := Aside0.mk (kept_at hq_ HK.out)
 replace HB := Aside0.mk (below_at hq_ HB.out)
 clear hq_
 refine ⟨_, rfl, ?_⟩
 have p9 : 0 ≤ (t191 : Int) := of_decide_eq_true AS
 have q9 : (t191 : Int) < ((l1.length : Int) : Int) := of_decide_eq_true AS
 obtain ⟨go9, co9, eo9, gb9, gl9, cl9, HG9⟩ := Kd.R_form HO1.out (by omega)
 (first | cases eo9 | (injection eo9 with ea_ en_ ec_; (first | subst ea_ | (injection ea_ with ea_; subst ea_)); subst ec_; clear en_))
 have GB9 := Aside0.mk gb9
 have GG9 := Aside0.mk HG9
 clear gb9 gl9 HG9
 have HMgo9 := Aside0.mk (show (P1_ go9 ∨ w.heap.size ≤ go9) from (HO1.out.1 _ rfl))
 obtain ⟨hx9_0, hf9_0⟩ := Kd.R_celln 0 HO1.out (t191 : Int) p9 q9
 replace p9 := eq_true p9
 replace q9 := eq_true q9
 have HN0_go9 := Aside0.mk (show g ≠ go9 from by have h_ := IsS46.own_ne HI0.out HO1.out (by decide); intro e_; exact h_ (by rw [e_]; rfl))
 have HP18 := Kd.R_putn HO1.out (t191 : Int) s0_1
 rw [← Ny194.out] at HP18
 have HQ18 := Aside0.mk HP18
 clear HP18
 have p12 : 0 ≤ (t192 : Int) := of_decide_eq_true AS
 have q12 : (t192 : Int) < ((l1.length : Int) : Int) := of_decide_eq_true AS
 obtain ⟨hx12_0, hf12_0⟩ := Kd.R_celln 0 HQ18.out (t192 : Int) p12 q12
 replace p12 := eq_true p12
 replace q12 := eq_true q12
 have HN0_go9 := Aside0.mk (show g ≠ go9 from by have h_ := IsS46.own_ne HI0.out HO1.out (by decide); intro e_; exact h_ (by rw [e_]; rfl))
 have HP19 := Kd.R_putn HQ18.out (t192 : Int) s0_2
 rw [← Ny195.out] at HP19
 have HQ19 := Aside0.mk HP19
 clear HP19
 have p15 : 0 ≤ (t193 : Int) := of_decide_eq_true AS
 have q15 : (t193 : Int) < ((l1.length : Int) : Int) := of_decide_eq_true AS
 obtain ⟨hx15_0, hf15_0⟩ := Kd.R_celln 0 HQ19.out (t193 : Int) p15 q15
 replace p15 := eq_true p15
 replace q15 := eq_true q15
 have HN0_go9 := Aside0.mk (show g ≠ go9 from by have h_ := IsS46.own_ne HI0.out HO1.out (by decide); intro e_; exact h_ (by rw [e_]; rfl))
 have HP20 := Kd.R_putn HQ19.out (t193 : Int) (wrap64 (2 * s0_6))
 rw [← Ny196.out] at HP20
 have HQ20 := Aside0.mk HP20
 clear HP20
 refine hK.out _ _ ⟨(blk_cell (Aside0.mk (HI0.out).1).out 0).trans rfl, (blk_cell (Aside0.mk (HI0.out).1).out 1).trans rfl, (blk_cell (Aside0.mk (HI0.out).1).out 2).trans rfl, (blk_cell (Aside0.mk (HI0.out).1).out 3).trans rfl, (blk_cell (Aside0.mk (HI0.out).1).out 4).trans rfl, (blk_cell (Aside0.mk (HI0.out).1).out 5).trans rfl, (blk_cell (Aside0.mk (HI0.out).1).out 6).trans rfl, (blk_cell (Aside0.mk (HI0.out).1).out 7).trans rfl, (blk_cell (Aside0.mk (HI0.out).1).out 8).trans rfl, (blk_cell (Aside0.mk (HI0.out).1).out 9).trans rfl, (blk_cell (Aside0.mk (HI0.out).1).out 10).trans rfl⟩ (fun hHeld => ?_)
 clear hK K
 refine norm_ (a' := ?_) ?_ ?_
 rotate_left
 ·
  show Act.put _ (some 28) _ = _
  simp only [Act.put, zA, zB, zC, i64_w, i32_w]
  rfl
 refine pV 31 42 (OB 37 4294967295) ?_
 refine last_ (i := 32) (N := none) #[true, true, true, true, true, true, true, true, true, true, true, true, true, true, true, true, true, true, true, true, true, true, true, true, true, true, true, true, true, true, true, true, true, false, false, false, false] rfl rfl (one_of HT_.out (by kernel_rfl)) (by decide) (fun K hK => ?_)
 refine skip_ (w1 := ?_) (by rfl) rfl ?_ ?_
 rotate_left
 ·
  go_simp
  rfl
 refine hK.out _ _ ?_
 clear hK K
 refine pV 33 43 (OB 37 17179869183) ?_
 refine last_ (i := 34) (N := none) #[true, true, true, true, true, true, true, true, true, true, true, true, true, true, true, true, true, true, true, true, true, true, true, true, true, true, true, true, true, true, true, true, true, true, true, false, false] rfl rfl (one_of HT_.out (by kernel_rfl)) (by decide) (fun K hK => ?_)
 refine skip_ (w1 := ?_) (by rfl) rfl ?_ ?_
 rotate_left
 ·
  go_simp
  rfl
 refine hK.out _ _ ?_
 clear hK K
 refine pV 35 44 (OB 37 68719476735) ?_
 refine last_ (i := 36) (N := none) #[true, true, true, true, true, true, true, true, true, true, true, true, true, true, true, true, true, true, true, true, true, true, true, true, true, true, true, true, true, true, true, true, true, true, true, true, true] rfl rfl (one_of HT_.out (by kernel_rfl)) (by decide) (fun K hK => ?_)
 refine skip_ (w1 := ?_) (by rfl) rfl ?_ ?_
 rotate_left
 ·
  go_simp
  rfl
 refine hK.out _ _ ?_
 clear hK K
 refine done_ (done_of HT_.out (by kernel_rfl)) ?_
 have n0_ : Aside0 (Kd.R (Kd.int .i64) 3 (((w17.setCell ⟨go9, (t191 : Int).toNat, none⟩ (.int .i64 s0_1)).setCell ⟨go9, (t192 : Int).toNat, none⟩ (.int .i64 s0_2)).setCell ⟨go9, (t193 : Int).toNat, none⟩ (.int .i64 (wrap64 (2 * s0_6)))) w0.heap.size (fun k_ => (P1_ k_ ∨ w.heap.size ≤ k_)) (.slice (some ⟨go9, 0, none⟩) l1.length co9) y196) := ⟨RQ HQ20.out⟩
 have n1_ : Aside0 (IsS46 w0 (((w17.setCell ⟨go9, (t191 : Int).toNat, none⟩ (.int .i64 s0_1)).setCell ⟨go9, (t192 : Int).toNat, none⟩ (.int .i64 s0_2)).setCell ⟨go9, (t193 : Int).toNat, none⟩ (.int .i64 (wrap64 (2 * s0_6)))) g s0_0 s0_1 s0_2 s0_3 s0_4 s0_5 s0_6 s0_7 s0_8 s0_9 s0_10) := ⟨by repeat (first | (with_reducible first | exact HI0.out | apply IsS46.alloc | apply IsS46.drewN | apply IsS46.drew | apply IsS46.set_0 | apply IsS46.set_1 | apply IsS46.set_2 | apply IsS46.set_3 | apply IsS46.set_4 | apply IsS46.set_5 | apply IsS46.set_6 | apply IsS46.set_7 | apply IsS46.set_8 | apply IsS46.set_9 | apply IsS46.set_10 | refine IsS46.far ?_ HN0_go9.out _ | refine IsS46.far ?_ HN0_go9.out _ | refine IsS46.far ?_ HN0_go9.out _) | exact HI0.out)⟩
 have n2_ : Aside0 (Kept w (((w17.setCell ⟨go9, (t191 : Int).toNat, none⟩ (.int .i64 s0_1)).setCell ⟨go9, (t192 : Int).toNat, none⟩ (.int .i64 s0_2)).setCell ⟨go9, (t193 : Int).toNat, none⟩ (.int .i64 (wrap64 (2 * s0_6)))) (fun k_ => (P1_ k_) ∨ k_ = g)) := ⟨by repeat (first | (with_reducible first | exact HK.out | apply Kept.alloc | apply Kept.drewN | apply Kept.drew | refine Kept.setCell ?_ (Or.imp_left Or.inl HMgo9.out) _ | refine Kept.setCell ?_ (Or.imp_left Or.inl HMgo9.out) _ | refine Kept.setCell ?_ (Or.imp_left Or.inl HMgo9.out) _ | refine Kept.setCell ?_ (.inl (.inr rfl)) _) | exact HK.out)⟩
 have n3_ : Aside0 (Below w0.heap.size w0 (((w17.setCell ⟨go9, (t191 : Int).toNat, none⟩ (.int .i64 s0_1)).setCell ⟨go9, (t192 : Int).toNat, none⟩ (.int .i64 s0_2)).setCell ⟨go9, (t193 : Int).toNat, none⟩ (.int .i64 (wrap64 (2 * s0_6))))) := ⟨by repeat (first | (with_reducible first | exact HB.out | apply below_alloc | apply pw_below_drewN | apply below_drew1 | refine below_set ?_ GB9.out | refine below_set ?_ GB9.out | refine below_set ?_ GB9.out | refine below_set ?_ (IsS46.ge HI0.out)) | exact HB.out)⟩
 (try clear HO1)
 (try clear HI0)
 (try clear HK)
 (try clear HB)
 generalize (((w17.setCell ⟨go9, (t191 : Int).toNat, none⟩ (.int .i64 s0_1)).setCell ⟨go9, (t192 : Int).toNat, none⟩ (.int .i64 s0_2)).setCell ⟨go9, (t193 : Int).toNat, none⟩ (.int .i64 (wrap64 (2 * s0_6)))) = w21 at n0_ n1_ n2_ n3_ ⊢
 have HO1 := n0_
 have HI0 := n1_
 have HK := n2_
 have HB := n3_
 clear n0_ n1_ n2_ n3_
 obtain ⟨HGz22, hgz22⟩ := HI0.out
 have hcz22_0 := cellS46_0 HGz22
 have hcz22_1 := cellS46_1 HGz22
 have hcz22_2 := cellS46_2 HGz22
 have hcz22_3 := cellS46_3 HGz22
 have hcz22_4 := cellS46_4 HGz22
 have hcz22_5 := cellS46_5 HGz22
 have hcz22_6 := cellS46_6 HGz22
 have hcz22_7 := cellS46_7 HGz22
 have hcz22_8 := cellS46_8 HGz22
 have hcz22_9 := cellS46_9 HGz22
 have hcz22_10 := cellS46_10 HGz22
 have hfz22_0 := blk_frozen HGz22 0
 have hfz22_1 := blk_frozen HGz22 1
 have hfz22_2 := blk_frozen HGz22 2
 have hfz22_3 := blk_frozen HGz22 3
 have hfz22_4 := blk_frozen HGz22 4
 have hfz22_5 := blk_frozen HGz22 5
 have hfz22_6 := blk_frozen HGz22 6
 have hfz22_7 := blk_frozen HGz22 7
 have hfz22_8 := blk_frozen HGz22 8
 have hfz22_9 := blk_frozen HGz22 9
 have hfz22_10 := blk_frozen HGz22 10
 clear HGz22 hgz22
 try go_wp2
 first | go_end0 | ((try simp only [Exit.inBlock, Exit.then]); refine bodyPost_ret (results_none rfl _ _ _) rfl ?_)
 exact ⟨EE, by repeat (first | (with_reducible first | exact HI0.out | apply IsS46.alloc | apply IsS46.drewN | apply IsS46.drew | apply IsS46.set_0 | apply IsS46.set_1 | apply IsS46.set_2 | apply IsS46.set_3 | apply IsS46.set_4 | apply IsS46.set_5 | apply IsS46.set_6 | apply IsS46.set_7 | apply IsS46.set_8 | apply IsS46.set_9 | apply IsS46.set_10) | exact HI0.out), by (with_reducible repeat (first | apply r1 | apply r2 | apply r3)); exact Kd.R_mono (Kd.R_far (p := ⟨g, 4, none⟩) (IsS46.apart HI0.out HO1.out (by decide)) (fun _ hk => hk.2) (.int .i64 4)) (fun _ hk => hk.1), by repeat (first | (with_reducible first | exact HB.out | apply below_alloc | apply pw_below_drewN | apply below_drew1 | refine below_set ?_ (IsS46.ge HI0.out)) | exact HB.out), by repeat (first | (with_reducible first | exact HK.out | apply Kept.alloc | apply Kept.drewN | apply Kept.drew | refine Kept.setCell ?_ (.inl (.inr rfl)) _) | exact HK.out)⟩

/-! ### impl_Task_found: function 81 -/
def impl_Task_found.f (s0_0 : Int) (s0_1 : Int) (s0_2 : Int) (s0_3 : Int) (s0_4 : Int) (s0_5 : Int) (s0_6 : Int) (s0_7 : Int) (s0_8 : Int) (s0_9 : Bool) (s0_10 : Int) (l1 : List Int) : Option (Int × Int × Int × Int × Int × Int × Int × Int × Int × Bool × Int × List Int) := (impl_keyCell.f s0_6).bind fun t208 => (if 0 ≤ t208 then (if t208 < (l1.length : Int) then (if (rd l1 t208) = s0_1 then (if s0_0 = 1 then ((impl_valCell.f s0_6).bind fun t210 => (if 0 ≤ t210 then (if t210 < (l1.length : Int) then ((impl_Task_done.f s0_0 s0_1 s0_2 s0_3 s0_4 s0_5 s0_6 s0_7 s0_8 s0_9 s0_10 (wrap64 ((rd l1 t210) + 1))).bind fun bt212 => (some (bt212.1, bt212.2.1, bt212.2.2.1, bt212.2.2.2.1, bt212.2.2.2.2.1, bt212.2.2.2.2.2.1, bt212.2.2.2.2.2.2.1, bt212.2.2.2.2.2.2.2.1, bt212.2.2.2.2.2.2.2.2.1, bt212.2.2.2.2.2.2.2.2.2.1, bt212.2.2.2.2.2.2.2.2.2.2, l1))) else (none)) else (none))) else (if s0_0 = 2 then ((impl_Task_done.f s0_0 s0_1 s0_2 s0_3 s0_4 s0_5 s0_6 s0_7 s0_8 s0_9 s0_10 0).bind fun bt223 => (some (bt223.1, bt223.2.1, bt223.2.2.1, bt223.2.2.2.1, bt223.2.2.2.2.1, bt223.2.2.2.2.2.1, bt223.2.2.2.2.2.2.1, bt223.2.2.2.2.2.2.2.1, bt223.2.2.2.2.2.2.2.2.1, bt223.2.2.2.2.2.2.2.2.2.1, bt223.2.2.2.2.2.2.2.2.2.2, l1))) else (some (s0_0, s0_1, s0_2, s0_3, 5, s0_5, s0_6, s0_7, s0_8, s0_9, s0_10, l1)))) else ((impl_Task_nobody.f s0_0 s0_1 s0_2 s0_3 s0_4 s0_5 s0_6 s0_7 s0_8 s0_9 s0_10 l1).bind fun bt234 => (some (bt234.1, bt234.2.1, bt234.2.2.1, bt234.2.2.2.1, bt234.2.2.2.2.1, bt234.2.2.2.2.2.1, bt234.2.2.2.2.2.2.1, bt234.2.2.2.2.2.2.2.1, bt234.2.2.2.2.2.2.2.2.1, bt234.2.2.2.2.2.2.2.2.2.1, bt234.2.2.2.2.2.2.2.2.2.2.1, bt234.2.2.2.2.2.2.2.2.2.2.2)))) else (none)) else (none))
set_option maxHeartbeats 8000000 in
set_option maxRecDepth 100000 in
theorem impl_Task_found.calls (g : Nat) (s0_0 : Int) (s0_1 : Int) (s0_2 : Int) (s0_3 : Int) (s0_4 : Int) (s0_5 : Int) (s0_6 : Int) (s0_7 : Int) (s0_8 : Int) (s0_9 : Bool) (s0_10 : Int) (P1_ : Nat → Prop) (u9000_ : Value) (l1 : List Int) (r1 : Int) (r2 : Int) (r3 : Int) (r4 : Int) (r5 : Int) (r6 : Int) (r7 : Int) (r8 : Int) (r9 : Int) (r10 : Bool) (r11 : Int) (r12 : List Int) (w0 w : World) (hI : IsS46 w0 w g s0_0 s0_1 s0_2 s0_3 s0_4 s0_5 s0_6 s0_7 s0_8 s0_9 s0_10) (hB : Below w0.heap.size w0 w) (ho1 : Kd.R (Kd.int .i64) 3 w w0.heap.size P1_ u9000_ l1) (h : impl_Task_found.f s0_0 s0_1 s0_2 s0_3 s0_4 s0_5 s0_6 s0_7 s0_8 s0_9 s0_10 l1 = some (r1, r2, r3, r4, r5, r6, r7, r8, r9, r10, r11, r12)) :
  Calls Try.prog 81 #[.pointer (some ⟨g, 0, none⟩), u9000_] w fun e w' => e = .returned (.tuple #[]) ∧ IsS46 w0 w' g r1 r2 r3 r4 r5 r6 r7 r8 r9 r10 r11 ∧ Kd.R (Kd.int .i64) 3 w' w0.heap.size (fun k_ => (P1_ k_ ∨ w.heap.size ≤ k_)) u9000_ r12 ∧ Below w0.heap.size w0 w' ∧ Kept w w' (fun k_ => (P1_ k_) ∨ k_ = g) := by
 have HO1 := Aside0.mk (show Kd.R (Kd.int .i64) 3 w w0.heap.size (fun k_ => (P1_ k_ ∨ w.heap.size ≤ k_)) u9000_ l1 from Kd.R_mono ho1 (fun k_ hk => (.inl hk)))
 have HI0 := Aside0.mk hI
 have HL := Aside0.mk hB.size
 clear hI
 have HK := Aside0.mk (Kept.refl w (fun k_ => (P1_ k_) ∨ k_ = g))
 have HW0 := Aside0.mk hB.size
 have HB := Aside0.mk hB
 clear hB
 have H : ((impl_keyCell.f s0_6).bind fun t208 => (if 0 ≤ t208 then (if t208 < (l1.length : Int) then (if (rd l1 t208) = s0_1 then (if s0_0 = 1 then ((impl_valCell.f s0_6).bind fun t210 => (if 0 ≤ t210 then (if t210 < (l1.length : Int) then ((impl_Task_done.f s0_0 s0_1 s0_2 s0_3 s0_4 s0_5 s0_6 s0_7 s0_8 s0_9 s0_10 (wrap64 ((rd l1 t210) + 1))).bind fun bt212 => (some (bt212.1, bt212.2.1, bt212.2.2.1, bt212.2.2.2.1, bt212.2.2.2.2.1, bt212.2.2.2.2.2.1, bt212.2.2.2.2.2.2.1, bt212.2.2.2.2.2.2.2.1, bt212.2.2.2.2.2.2.2.2.1, bt212.2.2.2.2.2.2.2.2.2.1, bt212.2.2.2.2.2.2.2.2.2.2, l1))) else (none)) else (none))) else (if s0_0 = 2 then ((impl_Task_done.f s0_0 s0_1 s0_2 s0_3 s0_4 s0_5 s0_6 s0_7 s0_8 s0_9 s0_10 0).bind fun bt223 => (some (bt223.1, bt223.2.1, bt223.2.2.1, bt223.2.2.2.1, bt223.2.2.2.2.1, bt223.2.2.2.2.2.1, bt223.2.2.2.2.2.2.1, bt223.2.2.2.2.2.2.2.1, bt223.2.2.2.2.2.2.2.2.1, bt223.2.2.2.2.2.2.2.2.2.1, bt223.2.2.2.2.2.2.2.2.2.2, l1))) else (some (s0_0, s0_1, s0_2, s0_3, 5, s0_5, s0_6, s0_7, s0_8, s0_9, s0_10, l1)))) else ((impl_Task_nobody.f s0_0 s0_1 s0_2 s0_3 s0_4 s0_5 s0_6 s0_7 s0_8 s0_9 s0_10 l1).bind fun bt234 => (some (bt234.1, bt234.2.1, bt234.2.2.1, bt234.2.2.2.1, bt234.2.2.2.2.1, bt234.2.2.2.2.2.1, bt234.2.2.2.2.2.2.1, bt234.2.2.2.2.2.2.2.1, bt234.2.2.2.2.2.2.2.2.1, bt234.2.2.2.2.2.2.2.2.2.1, bt234.2.2.2.2.2.2.2.2.2.2.1, bt234.2.2.2.2.2.2.2.2.2.2.2)))) else (none)) else (none))) = some (r1, r2, r3, r4, r5, r6, r7, r8, r9, r10, r11, r12) := h
 clear h
 replace H := Option.bind_eq_some_iff.mp H
 obtain ⟨t208, A30, H⟩ := H
 have A3 := Aside0.mk A30
 clear A30
 by_cases c4 : 0 ≤ t208; rotate_left
 ·
  rw [if_neg c4] at H
  exact absurd H (by simp)
 rw [if_pos c4] at H
 have c4b0 : decide (0 ≤ t208) = true := decide_eq_true c4
 clear c4
 by_cases c5 : t208 < (l1.length : Int); rotate_left
 ·
  rw [if_neg c5] at H
  exact absurd H (by simp)
 rw [if_pos c5] at H
 have c5b0 : decide (t208 < (l1.length : Int)) = true := decide_eq_true c5
 clear c5
 by_cases c6 : (rd l1 t208) = s0_1; rotate_left
 ·
  rw [if_neg c6] at H
  have c6b0 : ((rd l1 t208) == s0_1) = false := beq_eq_false_iff_ne.mpr c6
  have c6b1 : ((rd l1 t208) != s0_1) = true := bne_iff_ne.mpr c6
  replace H := Option.bind_eq_some_iff.mp H
  obtain ⟨⟨t234, t235, t236, t237, t238, t239, t240, t241, t242, t243, t244, t245⟩, A220, H⟩ := H
  replace H : (some (t234, t235, t236, t237, t238, t239, t240, t241, t242, t243, t244, t245)) = some (r1, r2, r3, r4, r5, r6, r7, r8, r9, r10, r11, r12) := H
  have A22 := Aside0.mk A220
  clear A220
  simp only [Option.some.injEq, Prod.mk.injEq] at H
  obtain ⟨rfl, rfl, rfl, rfl, rfl, rfl, rfl, rfl, rfl, rfl, rfl, rfl⟩ := H
  obtain ⟨HGz23, hgz23⟩ := HI0.out
  have hcz23_0 := cellS46_0 HGz23
  have hcz23_1 := cellS46_1 HGz23
  have hcz23_2 := cellS46_2 HGz23
  have hcz23_3 := cellS46_3 HGz23
  have hcz23_4 := cellS46_4 HGz23
  have hcz23_5 := cellS46_5 HGz23
  have hcz23_6 := cellS46_6 HGz23
  have hcz23_7 := cellS46_7 HGz23
  have hcz23_8 := cellS46_8 HGz23
  have hcz23_9 := cellS46_9 HGz23
  have hcz23_10 := cellS46_10 HGz23
  have hfz23_0 := blk_frozen HGz23 0
  have hfz23_1 := blk_frozen HGz23 1
  have hfz23_2 := blk_frozen HGz23 2
  have hfz23_3 := blk_frozen HGz23 3
  have hfz23_4 := blk_frozen HGz23 4
  have hfz23_5 := blk_frozen HGz23 5
  have hfz23_6 := blk_frozen HGz23 6
  have hfz23_7 := blk_frozen HGz23 7
  have hfz23_8 := blk_frozen HGz23 8
  have hfz23_9 := blk_frozen HGz23 9
  have hfz23_10 := blk_frozen HGz23 10
  clear HGz23 hgz23
  go_enter Try.func81, Try.ntmps81
  go_wp2_with (first | (go_at_call 66; (with_reducible refine (impl_keyCell.calls s0_6 t208 _ A3.out).mono ?_); rintro e w' ⟨rfl, ⟨nd, rfl⟩⟩; (try first | exact ⟨rfl, _, World.drewN_drewN _ _ _⟩ | exact ⟨rfl, _, Eq.trans (World.drewN_drewN _ _ _) (congrArg (World.drewN _) (Nat.add_assoc _ _ _))⟩); obtain ⟨Ao24, co24, eo24⟩ := Kd.R_slice HO1.out; subst eo24; have p209 : 0 ≤ (t208 : Int) := of_decide_eq_true AS; have q209 : t208 < (l1.length : Int) := of_decide_eq_true AS; obtain ⟨ad209, e209, hx209_0⟩ := Kd.at_int (Kd.R_reads' HO1.out).2.2 t208 p209 q209; cases e209; replace p209 := eq_true p209; replace q209 := eq_true q209) | (go_at_call 87; (with_reducible refine (impl_Task_nobody.calls g s0_0 s0_1 s0_2 s0_3 s0_4 s0_5 s0_6 s0_7 s0_8 s0_9 s0_10 (fun k_ => some k_ = (.slice (some ad209) l1.length co24 : Value).ownBlock) (.slice (some ad209) l1.length co24) l1 t234 t235 t236 t237 t238 t239 t240 t241 t242 t243 t244 t245 w0 _ ?side1 ?side2 ?side3 A22.out).mono ?_); (case side1 => repeat (first | (with_reducible first | exact HI0.out | apply IsS46.alloc | apply IsS46.drewN | apply IsS46.drew | apply IsS46.set_0 | apply IsS46.set_1 | apply IsS46.set_2 | apply IsS46.set_3 | apply IsS46.set_4 | apply IsS46.set_5 | apply IsS46.set_6 | apply IsS46.set_7 | apply IsS46.set_8 | apply IsS46.set_9 | apply IsS46.set_10) | exact HI0.out)); (case side2 => repeat (first | (with_reducible first | exact HB.out | apply below_alloc | apply pw_below_drewN | apply below_drew1 | refine below_set ?_ (IsS46.ge HI0.out)) | exact HB.out)); (case side3 => exact Kd.R_tight rfl HO1.out); rintro e w25 ⟨rfl, hi, hy0, hb, hkp⟩; replace HI0 := Aside0.mk (hi); replace HK := Aside0.mk (Kept.then_ (S := (fun k_ => (P1_ k_) ∨ k_ = g)) (by repeat (first | (with_reducible first | exact HK.out | apply Kept.alloc | apply Kept.drewN | apply Kept.drew | refine Kept.setCell ?_ (.inl (.inr rfl)) _) | exact HK.out)) hkp (fun k_ hs_ => Or.elim hs_ (fun hs_ => (fun e_ => Or.imp_left Or.inl ((HO1.out.1 k_ e_.symm))) hs_) (fun e_ => .inl (.inr e_)))); replace HO1 := Aside0.mk (Kd.R_reok rfl hy0 (fun k_ e_ => HO1.out.1 k_ e_)); replace HB := Aside0.mk (hb); (try clear hb); (try clear hkp); (try clear hy0)))
  repeat (go_quiet (first | (go_at_call 66; (with_reducible refine (impl_keyCell.calls s0_6 t208 _ A3.out).mono ?_); rintro e w' ⟨rfl, ⟨nd, rfl⟩⟩; (try first | exact ⟨rfl, _, World.drewN_drewN _ _ _⟩ | exact ⟨rfl, _, Eq.trans (World.drewN_drewN _ _ _) (congrArg (World.drewN _) (Nat.add_assoc _ _ _))⟩); obtain ⟨Ao24, co24, eo24⟩ := Kd.R_slice HO1.out; subst eo24; have p209 : 0 ≤ (t208 : Int) := of_decide_eq_true AS; have q209 : t208 < (l1.length : Int) := of_decide_eq_true AS; obtain ⟨ad209, e209, hx209_0⟩ := Kd.at_int (Kd.R_reads' HO1.out).2.2 t208 p209 q209; cases e209; replace p209 := eq_true p209; replace q209 := eq_true q209) | (go_at_call 87; (with_reducible refine (impl_Task_nobody.calls g s0_0 s0_1 s0_2 s0_3 s0_4 s0_5 s0_6 s0_7 s0_8 s0_9 s0_10 (fun k_ => some k_ = (.slice (some ad209) l1.length co24 : Value).ownBlock) (.slice (some ad209) l1.length co24) l1 t234 t235 t236 t237 t238 t239 t240 t241 t242 t243 t244 t245 w0 _ ?side1 ?side2 ?side3 A22.out).mono ?_); (case side1 => repeat (first | (with_reducible first | exact HI0.out | apply IsS46.alloc | apply IsS46.drewN | apply IsS46.drew | apply IsS46.set_0 | apply IsS46.set_1 | apply IsS46.set_2 | apply IsS46.set_3 | apply IsS46.set_4 | apply IsS46.set_5 | apply IsS46.set_6 | apply IsS46.set_7 | apply IsS46.set_8 | apply IsS46.set_9 | apply IsS46.set_10) | exact HI0.out)); (case side2 => repeat (first | (with_reducible first | exact HB.out | apply below_alloc | apply pw_below_drewN | apply below_drew1 | refine below_set ?_ (IsS46.ge HI0.out)) | exact HB.out)); (case side3 => exact Kd.R_tight rfl HO1.out); rintro e w25 ⟨rfl, hi, hy0, hb, hkp⟩; replace HI0 := Aside0.mk (hi); replace HK := Aside0.mk (Kept.then_ (S := (fun k_ => (P1_ k_) ∨ k_ = g)) (by repeat (first | (with_reducible first | exact HK.out | apply Kept.alloc | apply Kept.drewN | apply Kept.drew | refine Kept.setCell ?_ (.inl (.inr rfl)) _) | exact HK.out)) hkp (fun k_ hs_ => Or.elim hs_ (fun hs_ => (fun e_ => Or.imp_left Or.inl ((HO1.out.1 k_ e_.symm))) hs_) (fun e_ => .inl (.inr e_)))); replace HO1 := Aside0.mk (Kd.R_reok rfl hy0 (fun k_ e_ => HO1.out.1 k_ e_)); replace HB := Aside0.mk (hb); (try clear hb); (try clear hkp); (try clear hy0))); try go_wp2_with (first | (go_at_call 66; (with_reducible refine (impl_keyCell.calls s0_6 t208 _ A3.out).mono ?_); rintro e w' ⟨rfl, ⟨nd, rfl⟩⟩; (try first | exact ⟨rfl, _, World.drewN_drewN _ _ _⟩ | exact ⟨rfl, _, Eq.trans (World.drewN_drewN _ _ _) (congrArg (World.drewN _) (Nat.add_assoc _ _ _))⟩); obtain ⟨Ao24, co24, eo24⟩ := Kd.R_slice HO1.out; subst eo24; have p209 : 0 ≤ (t208 : Int) := of_decide_eq_true AS; have q209 : t208 < (l1.length : Int) := of_decide_eq_true AS; obtain ⟨ad209, e209, hx209_0⟩ := Kd.at_int (Kd.R_reads' HO1.out).2.2 t208 p209 q209; cases e209; replace p209 := eq_true p209; replace q209 := eq_true q209) | (go_at_call 87; (with_reducible refine (impl_Task_nobody.calls g s0_0 s0_1 s0_2 s0_3 s0_4 s0_5 s0_6 s0_7 s0_8 s0_9 s0_10 (fun k_ => some k_ = (.slice (some ad209) l1.length co24 : Value).ownBlock) (.slice (some ad209) l1.length co24) l1 t234 t235 t236 t237 t238 t239 t240 t241 t242 t243 t244 t245 w0 _ ?side1 ?side2 ?side3 A22.out).mono ?_); (case side1 => repeat (first | (with_reducible first | exact HI0.out | apply IsS46.alloc | apply IsS46.drewN | apply IsS46.drew | apply IsS46.set_0 | apply IsS46.set_1 | apply IsS46.set_2 | apply IsS46.set_3 | apply IsS46.set_4 | apply IsS46.set_5 | apply IsS46.set_6 | apply IsS46.set_7 | apply IsS46.set_8 | apply IsS46.set_9 | apply IsS46.set_10) | exact HI0.out)); (case side2 => repeat (first | (with_reducible first | exact HB.out | apply below_alloc | apply pw_below_drewN | apply below_drew1 | refine below_set ?_ (IsS46.ge HI0.out)) | exact HB.out)); (case side3 => exact Kd.R_tight rfl HO1.out); rintro e w25 ⟨rfl, hi, hy0, hb, hkp⟩; replace HI0 := Aside0.mk (hi); replace HK := Aside0.mk (Kept.then_ (S := (fun k_ => (P1_ k_) ∨ k_ = g)) (by repeat (first | (with_reducible first | exact HK.out | apply Kept.alloc | apply Kept.drewN | apply Kept.drew | refine Kept.setCell ?_ (.inl (.inr rfl)) _) | exact HK.out)) hkp (fun k_ hs_ => Or.elim hs_ (fun hs_ => (fun e_ => Or.imp_left Or.inl ((HO1.out.1 k_ e_.symm))) hs_) (fun e_ => .inl (.inr e_)))); replace HO1 := Aside0.mk (Kd.R_reok rfl hy0 (fun k_ e_ => HO1.out.1 k_ e_)); replace HB := Aside0.mk (hb); (try clear hb); (try clear hkp); (try clear hy0))))
  first | go_end0 | ((try simp only [Exit.inBlock, Exit.then]); refine bodyPost_ret (results_none rfl _ _ _) rfl ?_)
  exact ⟨EE, by repeat (first | (with_reducible first | exact HI0.out | apply IsS46.alloc | apply IsS46.drewN | apply IsS46.drew | apply IsS46.set_0 | apply IsS46.set_1 | apply IsS46.set_2 | apply IsS46.set_3 | apply IsS46.set_4 | apply IsS46.set_5 | apply IsS46.set_6 | apply IsS46.set_7 | apply IsS46.set_8 | apply IsS46.set_9 | apply IsS46.set_10) | exact HI0.out), RQ HO1.out, by repeat (first | (with_reducible first | exact HB.out | apply below_alloc | apply pw_below_drewN | apply below_drew1 | refine below_set ?_ (IsS46.ge HI0.out)) | exact HB.out), by repeat (first | (with_reducible first | exact HK.out | apply Kept.alloc | apply Kept.drewN | apply Kept.drew | refine Kept.setCell ?_ (.inl (.inr rfl)) _) | exact HK.out)⟩
 rw [if_pos c6] at H
 have c6b0 : ((rd l1 t208) == s0_1) = true := beq_iff_eq.mpr c6
 have c6b1 : ((rd l1 t208) != s0_1) = false := bne_eq_false_iff_eq.mpr c6
 clear c6
 by_cases c7 : s0_0 = 1
 ·
  rw [if_pos c7] at H
  have c7b0 : (s0_0 == 1) = true := beq_iff_eq.mpr c7
  have c7b1 : (s0_0 != 1) = false := bne_eq_false_iff_eq.mpr c7
  clear c7
  replace H := Option.bind_eq_some_iff.mp H
  obtain ⟨t210, A80, H⟩ := H
  have A8 := Aside0.mk A80
  clear A80
  by_cases c9 : 0 ≤ t210; rotate_left
  ·
   rw [if_neg c9] at H
   exact absurd H (by simp)
  rw [if_pos c9] at H
  have c9b0 : decide (0 ≤ t210) = true := decide_eq_true c9
  clear c9
  by_cases c10 : t210 < (l1.length : Int); rotate_left
  ·
   rw [if_neg c10] at H
   exact absurd H (by simp)
  rw [if_pos c10] at H
  have c10b0 : decide (t210 < (l1.length : Int)) = true := decide_eq_true c10
  clear c10
  replace H := Option.bind_eq_some_iff.mp H
  obtain ⟨⟨t212, t213, t214, t215, t216, t217, t218, t219, t220, t221, t222⟩, A110, H⟩ := H
  replace H : (some (t212, t213, t214, t215, t216, t217, t218, t219, t220, t221, t222, l1)) = some (r1, r2, r3, r4, r5, r6, r7, r8, r9, r10, r11, r12) := H
  have A11 := Aside0.mk A110
  clear A110
  simp only [Option.some.injEq, Prod.mk.injEq] at H
  obtain ⟨rfl, rfl, rfl, rfl, rfl, rfl, rfl, rfl, rfl, rfl, rfl, rfl⟩ := H
  obtain ⟨HGz12, hgz12⟩ := HI0.out
  have hcz12_0 := cellS46_0 HGz12
  have hcz12_1 := cellS46_1 HGz12
  have hcz12_2 := cellS46_2 HGz12
  have hcz12_3 := cellS46_3 HGz12
  have hcz12_4 := cellS46_4 HGz12
  have hcz12_5 := cellS46_5 HGz12
  have hcz12_6 := cellS46_6 HGz12
  have hcz12_7 := cellS46_7 HGz12
  have hcz12_8 := cellS46_8 HGz12
  have hcz12_9 := cellS46_9 HGz12
  have hcz12_10 := cellS46_10 HGz12
  have hfz12_0 := blk_frozen HGz12 0
  have hfz12_1 := blk_frozen HGz12 1
  have hfz12_2 := blk_frozen HGz12 2
  have hfz12_3 := blk_frozen HGz12 3
  have hfz12_4 := blk_frozen HGz12 4
  have hfz12_5 := blk_frozen HGz12 5
  have hfz12_6 := blk_frozen HGz12 6
  have hfz12_7 := blk_frozen HGz12 7
  have hfz12_8 := blk_frozen HGz12 8
  have hfz12_9 := blk_frozen HGz12 9
  have hfz12_10 := blk_frozen HGz12 10
  clear HGz12 hgz12
  go_enter Try.func81, Try.ntmps81
  go_wp2_with (first | (go_at_call 66; (with_reducible refine (impl_keyCell.calls s0_6 t208 _ A3.out).mono ?_); rintro e w' ⟨rfl, ⟨nd, rfl⟩⟩; (try first | exact ⟨rfl, _, World.drewN_drewN _ _ _⟩ | exact ⟨rfl, _, Eq.trans (World.drewN_drewN _ _ _) (congrArg (World.drewN _) (Nat.add_assoc _ _ _))⟩); obtain ⟨Ao13, co13, eo13⟩ := Kd.R_slice HO1.out; subst eo13; have p209 : 0 ≤ (t208 : Int) := of_decide_eq_true AS; have q209 : t208 < (l1.length : Int) := of_decide_eq_true AS; obtain ⟨ad209, e209, hx209_0⟩ := Kd.at_int (Kd.R_reads' HO1.out).2.2 t208 p209 q209; cases e209; replace p209 := eq_true p209; replace q209 := eq_true q209) | (go_at_call 67; (with_reducible refine (impl_valCell.calls s0_6 t210 _ A8.out).mono ?_); rintro e w' ⟨rfl, ⟨nd, rfl⟩⟩; (try first | exact ⟨rfl, _, World.drewN_drewN _ _ _⟩ | exact ⟨rfl, _, Eq.trans (World.drewN_drewN _ _ _) (congrArg (World.drewN _) (Nat.add_assoc _ _ _))⟩); have p211 : 0 ≤ (t210 : Int) := of_decide_eq_true AS; have q211 : t210 < (l1.length : Int) := of_decide_eq_true AS; obtain ⟨ad211, e211, hx211_0⟩ := Kd.at_int (Kd.R_reads' HO1.out).2.2 t210 p211 q211; obtain rfl : ad209 = ad211 := (by injection e211); replace p211 := eq_true p211; replace q211 := eq_true q211) | (go_at_call 83; (with_reducible refine (impl_Task_done.calls g s0_0 s0_1 s0_2 s0_3 s0_4 s0_5 s0_6 s0_7 s0_8 s0_9 s0_10 (wrap64 ((rd l1 t210) + 1)) t212 t213 t214 t215 t216 t217 t218 t219 t220 t221 t222 w0 _ ?side1 ?side2 A11.out).mono ?_); (case side1 => repeat (first | (with_reducible first | exact HI0.out | apply IsS46.alloc | apply IsS46.drewN | apply IsS46.drew | apply IsS46.set_0 | apply IsS46.set_1 | apply IsS46.set_2 | apply IsS46.set_3 | apply IsS46.set_4 | apply IsS46.set_5 | apply IsS46.set_6 | apply IsS46.set_7 | apply IsS46.set_8 | apply IsS46.set_9 | apply IsS46.set_10) | exact HI0.out)); (case side2 => repeat (first | (with_reducible first | exact HB.out | apply below_alloc | apply pw_below_drewN | apply below_drew1 | refine below_set ?_ (IsS46.ge HI0.out)) | exact HB.out)); rintro e w14 ⟨rfl, hi, hb, hk⟩; replace HO1 := Aside0.mk (Kd.R_mono (Kd.R_keep (IsS46.apart (show IsS46 w0 _ g s0_0 s0_1 s0_2 s0_3 s0_4 s0_5 s0_6 s0_7 s0_8 s0_9 s0_10 from by repeat (first | (with_reducible first | exact HI0.out | apply IsS46.alloc | apply IsS46.drewN | apply IsS46.drew | apply IsS46.set_0 | apply IsS46.set_1 | apply IsS46.set_2 | apply IsS46.set_3 | apply IsS46.set_4 | apply IsS46.set_5 | apply IsS46.set_6 | apply IsS46.set_7 | apply IsS46.set_8 | apply IsS46.set_9 | apply IsS46.set_10) | exact HI0.out)) (RQ HO1.out) (by decide)) hk (fun _ h => h.2)) (fun _ h => h.1)); replace HK := Aside0.mk (Kept.of_keep (S := (fun k_ => (P1_ k_) ∨ k_ = g)) (by repeat (first | (with_reducible first | exact HK.out | apply Kept.alloc | apply Kept.drewN | apply Kept.drew | refine Kept.setCell ?_ (.inl (.inr rfl)) _) | exact HK.out)) hk (.inl (.inr rfl))); replace HB := Aside0.mk (hb); replace HI0 := Aside0.mk (hi); (try clear hb); (try clear hb2); (try clear hk); (try clear hi)))
  repeat (go_quiet (first | (go_at_call 66; (with_reducible refine (impl_keyCell.calls s0_6 t208 _ A3.out).mono ?_); rintro e w' ⟨rfl, ⟨nd, rfl⟩⟩; (try first | exact ⟨rfl, _, World.drewN_drewN _ _ _⟩ | exact ⟨rfl, _, Eq.trans (World.drewN_drewN _ _ _) (congrArg (World.drewN _) (Nat.add_assoc _ _ _))⟩); obtain ⟨Ao13, co13, eo13⟩ := Kd.R_slice HO1.out; subst eo13; have p209 : 0 ≤ (t208 : Int) := of_decide_eq_true AS; have q209 : t208 < (l1.length : Int) := of_decide_eq_true AS; obtain ⟨ad209, e209, hx209_0⟩ := Kd.at_int (Kd.R_reads' HO1.out).2.2 t208 p209 q209; cases e209; replace p209 := eq_true p209; replace q209 := eq_true q209) | (go_at_call 67; (with_reducible refine (impl_valCell.calls s0_6 t210 _ A8.out).mono ?_); rintro e w' ⟨rfl, ⟨nd, rfl⟩⟩; (try first | exact ⟨rfl, _, World.drewN_drewN _ _ _⟩ | exact ⟨rfl, _, Eq.trans (World.drewN_drewN _ _ _) (congrArg (World.drewN _) (Nat.add_assoc _ _ _))⟩); have p211 : 0 ≤ (t210 : Int) := of_decide_eq_true AS; have q211 : t210 < (l1.length : Int) := of_decide_eq_true AS; obtain ⟨ad211, e211, hx211_0⟩ := Kd.at_int (Kd.R_reads' HO1.out).2.2 t210 p211 q211; obtain rfl : ad209 = ad211 := (by injection e211); replace p211 := eq_true p211; replace q211 := eq_true q211) | (go_at_call 83; (with_reducible refine (impl_Task_done.calls g s0_0 s0_1 s0_2 s0_3 s0_4 s0_5 s0_6 s0_7 s0_8 s0_9 s0_10 (wrap64 ((rd l1 t210) + 1)) t212 t213 t214 t215 t216 t217 t218 t219 t220 t221 t222 w0 _ ?side1 ?side2 A11.out).mono ?_); (case side1 => repeat (first | (with_reducible first | exact HI0.out | apply IsS46.alloc | apply IsS46.drewN | apply IsS46.drew | apply IsS46.set_0 | apply IsS46.set_1 | apply IsS46.set_2 | apply IsS46.set_3 | apply IsS46.set_4 | apply IsS46.set_5 | apply IsS46.set_6 | apply IsS46.set_7 | apply IsS46.set_8 | apply IsS46.set_9 | apply IsS46.set_10) | exact HI0.out)); (case side2 => repeat (first | (with_reducible first | exact HB.out | apply below_alloc | apply pw_below_drewN | apply below_drew1 | refine below_set ?_ (IsS46.ge HI0.out)) | exact HB.out)); rintro e w14 ⟨rfl, hi, hb, hk⟩; replace HO1 := Aside0.mk (Kd.R_mono (Kd.R_keep (IsS46.apart (show IsS46 w0 _ g s0_0 s0_1 s0_2 s0_3 s0_4 s0_5 s0_6 s0_7 s0_8 s0_9 s0_10 from by repeat (first | (with_reducible first | exact HI0.out | apply IsS46.alloc | apply IsS46.drewN | apply IsS46.drew | apply IsS46.set_0 | apply IsS46.set_1 | apply IsS46.set_2 | apply IsS46.set_3 | apply IsS46.set_4 | apply IsS46.set_5 | apply IsS46.set_6 | apply IsS46.set_7 | apply IsS46.set_8 | apply IsS46.set_9 | apply IsS46.set_10) | exact HI0.out)) (RQ HO1.out) (by decide)) hk (fun _ h => h.2)) (fun _ h => h.1)); replace HK := Aside0.mk (Kept.of_keep (S := (fun k_ => (P1_ k_) ∨ k_ = g)) (by repeat (first | (with_reducible first | exact HK.out | apply Kept.alloc | apply Kept.drewN | apply Kept.drew | refine Kept.setCell ?_ (.inl (.inr rfl)) _) | exact HK.out)) hk (.inl (.inr rfl))); replace HB := Aside0.mk (hb); replace HI0 := Aside0.mk (hi); (try clear hb); (try clear hb2); (try clear hk); (try clear hi))); try go_wp2_with (first | (go_at_call 66; (with_reducible refine (impl_keyCell.calls s0_6 t208 _ A3.out).mono ?_); rintro e w' ⟨rfl, ⟨nd, rfl⟩⟩; (try first | exact ⟨rfl, _, World.drewN_drewN _ _ _⟩ | exact ⟨rfl, _, Eq.trans (World.drewN_drewN _ _ _) (congrArg (World.drewN _) (Nat.add_assoc _ _ _))⟩); obtain ⟨Ao13, co13, eo13⟩ := Kd.R_slice HO1.out; subst eo13; have p209 : 0 ≤ (t208 : Int) := of_decide_eq_true AS; have q209 : t208 < (l1.length : Int) := of_decide_eq_true AS; obtain ⟨ad209, e209, hx209_0⟩ := Kd.at_int (Kd.R_reads' HO1.out).2.2 t208 p209 q209; cases e209; replace p209 := eq_true p209; replace q209 := eq_true q209) | (go_at_call 67; (with_reducible refine (impl_valCell.calls s0_6 t210 _ A8.out).mono ?_); rintro e w' ⟨rfl, ⟨nd, rfl⟩⟩; (try first | exact ⟨rfl, _, World.drewN_drewN _ _ _⟩ | exact ⟨rfl, _, Eq.trans (World.drewN_drewN _ _ _) (congrArg (World.drewN _) (Nat.add_assoc _ _ _))⟩); have p211 : 0 ≤ (t210 : Int) := of_decide_eq_true AS; have q211 : t210 < (l1.length : Int) := of_decide_eq_true AS; obtain ⟨ad211, e211, hx211_0⟩ := Kd.at_int (Kd.R_reads' HO1.out).2.2 t210 p211 q211; obtain rfl : ad209 = ad211 := (by injection e211); replace p211 := eq_true p211; replace q211 := eq_true q211) | (go_at_call 83; (with_reducible refine (impl_Task_done.calls g s0_0 s0_1 s0_2 s0_3 s0_4 s0_5 s0_6 s0_7 s0_8 s0_9 s0_10 (wrap64 ((rd l1 t210) + 1)) t212 t213 t214 t215 t216 t217 t218 t219 t220 t221 t222 w0 _ ?side1 ?side2 A11.out).mono ?_); (case side1 => repeat (first | (with_reducible first | exact HI0.out | apply IsS46.alloc | apply IsS46.drewN | apply IsS46.drew | apply IsS46.set_0 | apply IsS46.set_1 | apply IsS46.set_2 | apply IsS46.set_3 | apply IsS46.set_4 | apply IsS46.set_5 | apply IsS46.set_6 | apply IsS46.set_7 | apply IsS46.set_8 | apply IsS46.set_9 | apply IsS46.set_10) | exact HI0.out)); (case side2 => repeat (first | (with_reducible first | exact HB.out | apply below_alloc | apply pw_below_drewN | apply below_drew1 | refine below_set ?_ (IsS46.ge HI0.out)) | exact HB.out)); rintro e w14 ⟨rfl, hi, hb, hk⟩; replace HO1 := Aside0.mk (Kd.R_mono (Kd.R_keep (IsS46.apart (show IsS46 w0 _ g s0_0 s0_1 s0_2 s0_3 s0_4 s0_5 s0_6 s0_7 s0_8 s0_9 s0_10 from by repeat (first | (with_reducible first | exact HI0.out | apply IsS46.alloc | apply IsS46.drewN | apply IsS46.drew | apply IsS46.set_0 | apply IsS46.set_1 | apply IsS46.set_2 | apply IsS46.set_3 | apply IsS46.set_4 | apply IsS46.set_5 | apply IsS46.set_6 | apply IsS46.set_7 | apply IsS46.set_8 | apply IsS46.set_9 | apply IsS46.set_10) | exact HI0.out)) (RQ HO1.out) (by decide)) hk (fun _ h => h.2)) (fun _ h => h.1)); replace HK := Aside0.mk (Kept.of_keep (S := (fun k_ => (P1_ k_) ∨ k_ = g)) (by repeat (first | (with_reducible first | exact HK.out | apply Kept.alloc | apply Kept.drewN | apply Kept.drew | refine Kept.setCell ?_ (.inl (.inr rfl)) _) | exact HK.out)) hk (.inl (.inr rfl))); replace HB := Aside0.mk (hb); replace HI0 := Aside0.mk (hi); (try clear hb); (try clear hb2); (try clear hk); (try clear hi))))
  first | go_end0 | ((try simp only [Exit.inBlock, Exit.then]); refine bodyPost_ret (results_none rfl _ _ _) rfl ?_)
  exact ⟨EE, by repeat (first | (with_reducible first | exact HI0.out | apply IsS46.alloc | apply IsS46.drewN | apply IsS46.drew | apply IsS46.set_0 | apply IsS46.set_1 | apply IsS46.set_2 | apply IsS46.set_3 | apply IsS46.set_4 | apply IsS46.set_5 | apply IsS46.set_6 | apply IsS46.set_7 | apply IsS46.set_8 | apply IsS46.set_9 | apply IsS46.set_10) | exact HI0.out), RQ HO1.out, by repeat (first | (with_reducible first | exact HB.out | apply below_alloc | apply pw_below_drewN | apply below_drew1 | refine below_set ?_ (IsS46.ge HI0.out)) | exact HB.out), by repeat (first | (with_reducible first | exact HK.out | apply Kept.alloc | apply Kept.drewN | apply Kept.drew | refine Kept.setCell ?_ (.inl (.inr rfl)) _) | exact HK.out)⟩
 rw [if_neg c7] at H
 have c7b0 : (s0_0 == 1) = false := beq_eq_false_iff_ne.mpr c7
 have c7b1 : (s0_0 != 1) = true := bne_iff_ne.mpr c7
 by_cases c15 : s0_0 = 2; rotate_left
 ·
  rw [if_neg c15] at H
  have c15b0 : (s0_0 == 2) = false := beq_eq_false_iff_ne.mpr c15
  have c15b1 : (s0_0 != 2) = true := bne_iff_ne.mpr c15
  simp only [Option.some.injEq, Prod.mk.injEq] at H
  obtain ⟨rfl, rfl, rfl, rfl, rfl, rfl, rfl, rfl, rfl, rfl, rfl, rfl⟩ := H
  obtain ⟨HGz20, hgz20⟩ := HI0.out
  have hcz20_0 := cellS46_0 HGz20
  have hcz20_1 := cellS46_1 HGz20
  have hcz20_2 := cellS46_2 HGz20
  have hcz20_3 := cellS46_3 HGz20
  have hcz20_4 := cellS46_4 HGz20
  have hcz20_5 := cellS46_5 HGz20
  have hcz20_6 := cellS46_6 HGz20
  have hcz20_7 := cellS46_7 HGz20
  have hcz20_8 := cellS46_8 HGz20
  have hcz20_9 := cellS46_9 HGz20
  have hcz20_10 := cellS46_10 HGz20
  have hfz20_0 := blk_frozen HGz20 0
  have hfz20_1 := blk_frozen HGz20 1
  have hfz20_2 := blk_frozen HGz20 2
  have hfz20_3 := blk_frozen HGz20 3
  have hfz20_4 := blk_frozen HGz20 4
  have hfz20_5 := blk_frozen HGz20 5
  have hfz20_6 := blk_frozen HGz20 6
  have hfz20_7 := blk_frozen HGz20 7
  have hfz20_8 := blk_frozen HGz20 8
  have hfz20_9 := blk_frozen HGz20 9
  have hfz20_10 := blk_frozen HGz20 10
  clear HGz20 hgz20
  go_enter Try.func81, Try.ntmps81
  go_wp2_with (first | (go_at_call 66; (with_reducible refine (impl_keyCell.calls s0_6 t208 _ A3.out).mono ?_); rintro e w' ⟨rfl, ⟨nd, rfl⟩⟩; (try first | exact ⟨rfl, _, World.drewN_drewN _ _ _⟩ | exact ⟨rfl, _, Eq.trans (World.drewN_drewN _ _ _) (congrArg (World.drewN _) (Nat.add_assoc _ _ _))⟩); obtain ⟨Ao21, co21, eo21⟩ := Kd.R_slice HO1.out; subst eo21; have p209 : 0 ≤ (t208 : Int) := of_decide_eq_true AS; have q209 : t208 < (l1.length : Int) := of_decide_eq_true AS; obtain ⟨ad209, e209, hx209_0⟩ := Kd.at_int (Kd.R_reads' HO1.out).2.2 t208 p209 q209; cases e209; replace p209 := eq_true p209; replace q209 := eq_true q209))
  repeat (go_quiet (first | (go_at_call 66; (with_reducible refine (impl_keyCell.calls s0_6 t208 _ A3.out).mono ?_); rintro e w' ⟨rfl, ⟨nd, rfl⟩⟩; (try first | exact ⟨rfl, _, World.drewN_drewN _ _ _⟩ | exact ⟨rfl, _, Eq.trans (World.drewN_drewN _ _ _) (congrArg (World.drewN _) (Nat.add_assoc _ _ _))⟩); obtain ⟨Ao21, co21, eo21⟩ := Kd.R_slice HO1.out; subst eo21; have p209 : 0 ≤ (t208 : Int) := of_decide_eq_true AS; have q209 : t208 < (l1.length : Int) := of_decide_eq_true AS; obtain ⟨ad209, e209, hx209_0⟩ := Kd.at_int (Kd.R_reads' HO1.out).2.2 t208 p209 q209; cases e209; replace p209 := eq_true p209; replace q209 := eq_true q209)); try go_wp2_with (first | (go_at_call 66; (with_reducible refine (impl_keyCell.calls s0_6 t208 _ A3.out).mono ?_); rintro e w' ⟨rfl, ⟨nd, rfl⟩⟩; (try first | exact ⟨rfl, _, World.drewN_drewN _ _ _⟩ | exact ⟨rfl, _, Eq.trans (World.drewN_drewN _ _ _) (congrArg (World.drewN _) (Nat.add_assoc _ _ _))⟩); obtain ⟨Ao21, co21, eo21⟩ := Kd.R_slice HO1.out; subst eo21; have p209 : 0 ≤ (t208 : Int) := of_decide_eq_true AS; have q209 : t208 < (l1.length : Int) := of_decide_eq_true AS; obtain ⟨ad209, e209, hx209_0⟩ := Kd.at_int (Kd.R_reads' HO1.out).2.2 t208 p209 q209; cases e209; replace p209 := eq_true p209; replace q209 := eq_true q209)))
  first | go_end0 | ((try simp only [Exit.inBlock, Exit.then]); refine bodyPost_ret (results_none rfl _ _ _) rfl ?_)
  exact ⟨EE, by repeat (first | (with_reducible first | exact HI0.out | apply IsS46.alloc | apply IsS46.drewN | apply IsS46.drew | apply IsS46.set_0 | apply IsS46.set_1 | apply IsS46.set_2 | apply IsS46.set_3 | apply IsS46.set_4 | apply IsS46.set_5 | apply IsS46.set_6 | apply IsS46.set_7 | apply IsS46.set_8 | apply IsS46.set_9 | apply IsS46.set_10) | exact HI0.out), by (with_reducible repeat (first | apply r1 | apply r2 | apply r3)); exact Kd.R_mono (Kd.R_far (p := ⟨g, 4, none⟩) (IsS46.apart HI0.out HO1.out (by decide)) (fun _ hk => hk.2) (.int .i64 5)) (fun _ hk => hk.1), by repeat (first | (with_reducible first | exact HB.out | apply below_alloc | apply pw_below_drewN | apply below_drew1 | refine below_set ?_ (IsS46.ge HI0.out)) | exact HB.out), by repeat (first | (with_reducible first | exact HK.out | apply Kept.alloc | apply Kept.drewN | apply Kept.drew | refine Kept.setCell ?_ (.inl (.inr rfl)) _) | exact HK.out)⟩
 rw [if_pos c15] at H
 have c15b0 : (s0_0 == 2) = true := beq_iff_eq.mpr c15
 have c15b1 : (s0_0 != 2) = false := bne_eq_false_iff_eq.mpr c15
 clear c15
 replace H := Option.bind_eq_some_iff.mp H
 obtain ⟨⟨t223, t224, t225, t226, t227, t228, t229, t230, t231, t232, t233⟩, A160, H⟩ := H
 replace H : (some (t223, t224, t225, t226, t227, t228, t229, t230, t231, t232, t233, l1)) = some (r1, r2, r3, r4, r5, r6, r7, r8, r9, r10, r11, r12) := H
 have A16 := Aside0.mk A160
 clear A160
 simp only [Option.some.injEq, Prod.mk.injEq] at H
 obtain ⟨rfl, rfl, rfl, rfl, rfl, rfl, rfl, rfl, rfl, rfl, rfl, rfl⟩ := H
 obtain ⟨HGz17, hgz17⟩ := HI0.out
 have hcz17_0 := cellS46_0 HGz17
 have hcz17_1 := cellS46_1 HGz17
 have hcz17_2 := cellS46_2 HGz17
 have hcz17_3 := cellS46_3 HGz17
 have hcz17_4 := cellS46_4 HGz17
 have hcz17_5 := cellS46_5 HGz17
 have hcz17_6 := cellS46_6 HGz17
 have hcz17_7 := cellS46_7 HGz17
 have hcz17_8 := cellS46_8 HGz17
 have hcz17_9 := cellS46_9 HGz17
 have hcz17_10 := cellS46_10 HGz17
 have hfz17_0 := blk_frozen HGz17 0
 have hfz17_1 := blk_frozen HGz17 1
 have hfz17_2 := blk_frozen HGz17 2
 have hfz17_3 := blk_frozen HGz17 3
 have hfz17_4 := blk_frozen HGz17 4
 have hfz17_5 := blk_frozen HGz17 5
 have hfz17_6 := blk_frozen HGz17 6
 have hfz17_7 := blk_frozen HGz17 7
 have hfz17_8 := blk_frozen HGz17 8
 have hfz17_9 := blk_frozen HGz17 9
 have hfz17_10 := blk_frozen HGz17 10
 clear HGz17 hgz17
 go_enter Try.func81, Try.ntmps81
 go_wp2_with (first | (go_at_call 66; (with_reducible refine (impl_keyCell.calls s0_6 t208 _ A3.out).mono ?_); rintro e w' ⟨rfl, ⟨nd, rfl⟩⟩; (try first | exact ⟨rfl, _, World.drewN_drewN _ _ _⟩ | exact ⟨rfl, _, Eq.trans (World.drewN_drewN _ _ _) (congrArg (World.drewN _) (Nat.add_assoc _ _ _))⟩); obtain ⟨Ao18, co18, eo18⟩ := Kd.R_slice HO1.out; subst eo18; have p209 : 0 ≤ (t208 : Int) := of_decide_eq_true AS; have q209 : t208 < (l1.length : Int) := of_decide_eq_true AS; obtain ⟨ad209, e209, hx209_0⟩ := Kd.at_int (Kd.R_reads' HO1.out).2.2 t208 p209 q209; cases e209; replace p209 := eq_true p209; replace q209 := eq_true q209) | (go_at_call 83; (with_reducible refine (impl_Task_done.calls g s0_0 s0_1 s0_2 s0_3 s0_4 s0_5 s0_6 s0_7 s0_8 s0_9 s0_10 0 t223 t224 t225 t226 t227 t228 t229 t230 t231 t232 t233 w0 _ ?side1 ?side2 A16.out).mono ?_); (case side1 => repeat (first | (with_reducible first | exact HI0.out | apply IsS46.alloc | apply IsS46.drewN | apply IsS46.drew | apply IsS46.set_0 | apply IsS46.set_1 | apply IsS46.set_2 | apply IsS46.set_3 | apply IsS46.set_4 | apply IsS46.set_5 | apply IsS46.set_6 | apply IsS46.set_7 | apply IsS46.set_8 | apply IsS46.set_9 | apply IsS46.set_10) | exact HI0.out)); (case side2 => repeat (first | (with_reducible first | exact HB.out | apply below_alloc | apply pw_below_drewN | apply below_drew1 | refine below_set ?_ (IsS46.ge HI0.out)) | exact HB.out)); rintro e w19 ⟨rfl, hi, hb, hk⟩; replace HO1 := Aside0.mk (Kd.R_mono (Kd.R_keep (IsS46.apart (show IsS46 w0 _ g s0_0 s0_1 s0_2 s0_3 s0_4 s0_5 s0_6 s0_7 s0_8 s0_9 s0_10 from by repeat (first | (with_reducible first | exact HI0.out | apply IsS46.alloc | apply IsS46.drewN | apply IsS46.drew | apply IsS46.set_0 | apply IsS46.set_1 | apply IsS46.set_2 | apply IsS46.set_3 | apply IsS46.set_4 | apply IsS46.set_5 | apply IsS46.set_6 | apply IsS46.set_7 | apply IsS46.set_8 | apply IsS46.set_9 | apply IsS46.set_10) | exact HI0.out)) (RQ HO1.out) (by decide)) hk (fun _ h => h.2)) (fun _ h => h.1)); replace HK := Aside0.mk (Kept.of_keep (S := (fun k_ => (P1_ k_) ∨ k_ = g)) (by repeat (first | (with_reducible first | exact HK.out | apply Kept.alloc | apply Kept.drewN | apply Kept.drew | refine Kept.setCell ?_ (.inl (.inr rfl)) _) | exact HK.out)) hk (.inl (.inr rfl))); replace HB := Aside0.mk (hb); replace HI0 := Aside0.mk (hi); (try clear hb); (try clear hb2); (try clear hk); (try clear hi)))
 repeat (go_quiet (first | (go_at_call 66; (with_reducible refine (impl_keyCell.calls s0_6 t208 _ A3.out).mono ?_); rintro e w' ⟨rfl, ⟨nd, rfl⟩⟩; (try first | exact ⟨rfl, _, World.drewN_drewN _ _ _⟩ | exact ⟨rfl, _, Eq.trans (World.drewN_drewN _ _ _) (congrArg (World.drewN _) (Nat.add_assoc _ _ _))⟩); obtain ⟨Ao18, co18, eo18⟩ := Kd.R_slice HO1.out; subst eo18; have p209 : 0 ≤ (t208 : Int) := of_decide_eq_true AS; have q209 : t208 < (l1.length : Int) := of_decide_eq_true AS; obtain ⟨ad209, e209, hx209_0⟩ := Kd.at_int (Kd.R_reads' HO1.out).2.2 t208 p209 q209; cases e209; replace p209 := eq_true p209; replace q209 := eq_true q209) | (go_at_call 83; (with_reducible refine (impl_Task_done.calls g s0_0 s0_1 s0_2 s0_3 s0_4 s0_5 s0_6 s0_7 s0_8 s0_9 s0_10 0 t223 t224 t225 t226 t227 t228 t229 t230 t231 t232 t233 w0 _ ?side1 ?side2 A16.out).mono ?_); (case side1 => repeat (first | (with_reducible first | exact HI0.out | apply IsS46.alloc | apply IsS46.drewN | apply IsS46.drew | apply IsS46.set_0 | apply IsS46.set_1 | apply IsS46.set_2 | apply IsS46.set_3 | apply IsS46.set_4 | apply IsS46.set_5 | apply IsS46.set_6 | apply IsS46.set_7 | apply IsS46.set_8 | apply IsS46.set_9 | apply IsS46.set_10) | exact HI0.out)); (case side2 => repeat (first | (with_reducible first | exact HB.out | apply below_alloc | apply pw_below_drewN | apply below_drew1 | refine below_set ?_ (IsS46.ge HI0.out)) | exact HB.out)); rintro e w19 ⟨rfl, hi, hb, hk⟩; replace HO1 := Aside0.mk (Kd.R_mono (Kd.R_keep (IsS46.apart (show IsS46 w0 _ g s0_0 s0_1 s0_2 s0_3 s0_4 s0_5 s0_6 s0_7 s0_8 s0_9 s0_10 from by repeat (first | (with_reducible first | exact HI0.out | apply IsS46.alloc | apply IsS46.drewN | apply IsS46.drew | apply IsS46.set_0 | apply IsS46.set_1 | apply IsS46.set_2 | apply IsS46.set_3 | apply IsS46.set_4 | apply IsS46.set_5 | apply IsS46.set_6 | apply IsS46.set_7 | apply IsS46.set_8 | apply IsS46.set_9 | apply IsS46.set_10) | exact HI0.out)) (RQ HO1.out) (by decide)) hk (fun _ h => h.2)) (fun _ h => h.1)); replace HK := Aside0.mk (Kept.of_keep (S := (fun k_ => (P1_ k_) ∨ k_ = g)) (by repeat (first | (with_reducible first | exact HK.out | apply Kept.alloc | apply Kept.drewN | apply Kept.drew | refine Kept.setCell ?_ (.inl (.inr rfl)) _) | exact HK.out)) hk (.inl (.inr rfl))); replace HB := Aside0.mk (hb); replace HI0 := Aside0.mk (hi); (try clear hb); (try clear hb2); (try clear hk); (try clear hi))); try go_wp2_with (first | (go_at_call 66; (with_reducible refine (impl_keyCell.calls s0_6 t208 _ A3.out).mono ?_); rintro e w' ⟨rfl, ⟨nd, rfl⟩⟩; (try first | exact ⟨rfl, _, World.drewN_drewN _ _ _⟩ | exact ⟨rfl, _, Eq.trans (World.drewN_drewN _ _ _) (congrArg (World.drewN _) (Nat.add_assoc _ _ _))⟩); obtain ⟨Ao18, co18, eo18⟩ := Kd.R_slice HO1.out; subst eo18; have p209 : 0 ≤ (t208 : Int) := of_decide_eq_true AS; have q209 : t208 < (l1.length : Int) := of_decide_eq_true AS; obtain ⟨ad209, e209, hx209_0⟩ := Kd.at_int (Kd.R_reads' HO1.out).2.2 t208 p209 q209; cases e209; replace p209 := eq_true p209; replace q209 := eq_true q209) | (go_at_call 83; (with_reducible refine (impl_Task_done.calls g s0_0 s0_1 s0_2 s0_3 s0_4 s0_5 s0_6 s0_7 s0_8 s0_9 s0_10 0 t223 t224 t225 t226 t227 t228 t229 t230 t231 t232 t233 w0 _ ?side1 ?side2 A16.out).mono ?_); (case side1 => repeat (first | (with_reducible first | exact HI0.out | apply IsS46.alloc | apply IsS46.drewN | apply IsS46.drew | apply IsS46.set_0 | apply IsS46.set_1 | apply IsS46.set_2 | apply IsS46.set_3 | apply IsS46.set_4 | apply IsS46.set_5 | apply IsS46.set_6 | apply IsS46.set_7 | apply IsS46.set_8 | apply IsS46.set_9 | apply IsS46.set_10) | exact HI0.out)); (case side2 => repeat (first | (with_reducible first | exact HB.out | apply below_alloc | apply pw_below_drewN | apply below_drew1 | refine below_set ?_ (IsS46.ge HI0.out)) | exact HB.out)); rintro e w19 ⟨rfl, hi, hb, hk⟩; replace HO1 := Aside0.mk (Kd.R_mono (Kd.R_keep (IsS46.apart (show IsS46 w0 _ g s0_0 s0_1 s0_2 s0_3 s0_4 s0_5 s0_6 s0_7 s0_8 s0_9 s0_10 from by repeat (first | (with_reducible first | exact HI0.out | apply IsS46.alloc | apply IsS46.drewN | apply IsS46.drew | apply IsS46.set_0 | apply IsS46.set_1 | apply IsS46.set_2 | apply IsS46.set_3 | apply IsS46.set_4 | apply IsS46.set_5 | apply IsS46.set_6 | apply IsS46.set_7 | apply IsS46.set_8 | apply IsS46.set_9 | apply IsS46.set_10) | exact HI0.out)) (RQ HO1.out) (by decide)) hk (fun _ h => h.2)) (fun _ h => h.1)); replace HK := Aside0.mk (Kept.of_keep (S := (fun k_ => (P1_ k_) ∨ k_ = g)) (by repeat (first | (with_reducible first | exact HK.out | apply Kept.alloc | apply Kept.drewN | apply Kept.drew | refine Kept.setCell ?_ (.inl (.inr rfl)) _) | exact HK.out)) hk (.inl (.inr rfl))); replace HB := Aside0.mk (hb); replace HI0 := Aside0.mk (hi); (try clear hb); (try clear hb2); (try clear hk); (try clear hi))))
 first | go_end0 | ((try simp only [Exit.inBlock, Exit.then]); refine bodyPost_ret (results_none rfl _ _ _) rfl ?_)
 exact ⟨EE, by repeat (first | (with_reducible first | exact HI0.out | apply IsS46.alloc | apply IsS46.drewN | apply IsS46.drew | apply IsS46.set_0 | apply IsS46.set_1 | apply IsS46.set_2 | apply IsS46.set_3 | apply IsS46.set_4 | apply IsS46.set_5 | apply IsS46.set_6 | apply IsS46.set_7 | apply IsS46.set_8 | apply IsS46.set_9 | apply IsS46.set_10) | exact HI0.out), RQ HO1.out, by repeat (first | (with_reducible first | exact HB.out | apply below_alloc | apply pw_below_drewN | apply below_drew1 | refine below_set ?_ (IsS46.ge HI0.out)) | exact HB.out), by repeat (first | (with_reducible first | exact HK.out | apply Kept.alloc | apply Kept.drewN | apply Kept.drew | refine Kept.setCell ?_ (.inl (.inr rfl)) _) | exact HK.out)⟩

/-! ### impl_swapWord: function 82 -/
def impl_swapWord.f (l0 : List Int) (a1 : Int) (a2 : Int) (a3 : Int) : Option (Bool × List Int) := (impl_wordCell.f a1).bind fun t246 => (if 0 ≤ t246 then (if t246 < (l0.length : Int) then (if (rd l0 t246) = a2 then (some (true, (l0.set (t246 : Int).toNat a3))) else (some (false, l0))) else (none)) else (none))
set_option maxHeartbeats 8000000 in
set_option maxRecDepth 100000 in
theorem impl_swapWord.calls (P0_ : Nat → Prop) (u9000_ : Value) (l0 : List Int) (a1 : Int) (a2 : Int) (a3 : Int) (r1 : Bool) (r2 : List Int) (w0 w : World) (hB : Below w0.heap.size w0 w) (ho0 : Kd.R (Kd.int .i64) 3 w w0.heap.size P0_ u9000_ l0) (h : impl_swapWord.f l0 a1 a2 a3 = some (r1, r2)) :
  Calls Try.prog 82 #[u9000_, .int .i64 a1, .int .i64 a2, .int .i64 a3] w fun e w' => e = .returned (.bool r1) ∧ Kd.R (Kd.int .i64) 3 w' w0.heap.size (fun k_ => (P0_ k_ ∨ w.heap.size ≤ k_)) u9000_ r2 ∧ Below w0.heap.size w0 w' ∧ Kept w w' (fun k_ => P0_ k_) := by
 have HO0 := Aside0.mk (show Kd.R (Kd.int .i64) 3 w w0.heap.size (fun k_ => (P0_ k_ ∨ w.heap.size ≤ k_)) u9000_ l0 from Kd.R_mono ho0 (fun k_ hk => (.inl hk)))
 have HK := Aside0.mk (Kept.refl w (fun k_ => P0_ k_))
 have HW0 := Aside0.mk hB.size
 have HB := Aside0.mk hB
 clear hB
 obtain ⟨wv, hwv⟩ : ∃ wv : World, wv = w := ⟨w, rfl⟩
 replace HO0 : Aside0 (Kd.R (Kd.int .i64) 3 w w0.heap.size (fun k_ => (P0_ k_ ∨ wv.heap.size ≤ k_)) u9000_ l0) := by rw [hwv]; exact HO0
 replace HK : Aside0 (Kept wv w (fun k_ => P0_ k_)) := by rw [hwv]; exact HK
 suffices hs_ : Calls Try.prog 82 #[u9000_, .int .i64 a1, .int .i64 a2, .int .i64 a3] w fun e w' => e = .returned (.bool r1) ∧ Kd.R (Kd.int .i64) 3 w' w0.heap.size (fun k_ => (P0_ k_ ∨ wv.heap.size ≤ k_)) u9000_ r2 ∧ Below w0.heap.size w0 w' ∧ Kept wv w' (fun k_ => P0_ k_) by rw [hwv] at hs_; exact hs_
 clear hwv
 have H : ((impl_wordCell.f a1).bind fun t246 => (if 0 ≤ t246 then (if t246 < (l0.length : Int) then (if (rd l0 t246) = a2 then (some (true, (l0.set (t246 : Int).toNat a3))) else (some (false, l0))) else (none)) else (none))) = some (r1, r2) := h
 clear h
 replace H := Option.bind_eq_some_iff.mp H
 obtain ⟨t246, A50, H⟩ := H
 have A5 := Aside0.mk A50
 clear A50
 by_cases c6 : 0 ≤ t246; rotate_left
 ·
  rw [if_neg c6] at H
  exact absurd H (by simp)
 rw [if_pos c6] at H
 have c6b0 : decide (0 ≤ t246) = true := decide_eq_true c6
 clear c6
 by_cases c7 : t246 < (l0.length : Int); rotate_left
 ·
  rw [if_neg c7] at H
  exact absurd H (by simp)
 rw [if_pos c7] at H
 have c7b0 : decide (t246 < (l0.length : Int)) = true := decide_eq_true c7
 clear c7
 by_cases c8 : (rd l0 t246) = a2; rotate_left
 ·
  rw [if_neg c8] at H
  have c8b0 : ((rd l0 t246) == a2) = false := beq_eq_false_iff_ne.mpr c8
  have c8b1 : ((rd l0 t246) != a2) = true := bne_iff_ne.mpr c8
  simp only [Option.some.injEq, Prod.mk.injEq] at H
  obtain ⟨rfl, rfl⟩ := H
  go_enter Try.func82, Try.ntmps82
  go_wp2_with (first | ((with_reducible refine gate_callee (f := 76) rfl ?_); refine goesL_ (some 11) rfl rfl Try.func76 (by kernel_rfl) rfl #[.int .i64 a1] rfl (MA) ?_; (with_reducible refine (impl_wordCell.calls a1 t246 _ A5.out).mono ?_); rintro e w' ⟨rfl, ⟨nd, rfl⟩⟩; refine ⟨_, rfl, ?_⟩; obtain ⟨Ao13, co13, eo13⟩ := Kd.R_slice HO0.out; subst eo13; have p247 : 0 ≤ (t246 : Int) := of_decide_eq_true AS; have q247 : t246 < (l0.length : Int) := of_decide_eq_true AS; obtain ⟨ad247, e247, hx247_0⟩ := Kd.at_int (Kd.R_reads' HO0.out).2.2 t246 p247 q247; cases e247; replace p247 := eq_true p247; replace q247 := eq_true q247))
  go_ret
  exact ⟨EE, RQ HO0.out, BL, KL⟩
 rw [if_pos c8] at H
 have c8b0 : ((rd l0 t246) == a2) = true := beq_iff_eq.mpr c8
 have c8b1 : ((rd l0 t246) != a2) = false := bne_eq_false_iff_eq.mpr c8
 clear c8
 obtain ⟨y248, hy248⟩ : ∃ y_ : List Int, y_ = (l0.set (t246 : Int).toNat a3) := ⟨_, rfl⟩
 replace H : (some (true, y248)) = some (r1, r2) := by first | (rw [hy248]; with_reducible exact H) | (have H2_ := (Option.bind_some _ _).symm.trans H; rw [hy248]; with_reducible exact H2_) | (have H2_ := (Option.bind_some _ _).symm.trans H; with_reducible exact H2_) | with_reducible exact H | (rw [hy248]; exact H) | exact H
 have Ny248 := Aside0.mk hy248
 clear hy248
 simp only [Option.some.injEq, Prod.mk.injEq] at H
 obtain ⟨rfl, rfl⟩ := H
 go_enter Try.func82, Try.ntmps82
 go_wp2_with (first | ((with_reducible refine gate_callee (f := 76) rfl ?_); refine goesL_ (some 11) rfl rfl Try.func76 (by kernel_rfl) rfl #[.int .i64 a1] rfl (MA) ?_; (with_reducible refine (impl_wordCell.calls a1 t246 _ A5.out).mono ?_); rintro e w' ⟨rfl, ⟨nd, rfl⟩⟩; refine ⟨_, rfl, ?_⟩; (try (rw [drewN_self w]; generalize hq_ : World.drewN w _ = w; have n0_ : Aside0 (Kd.R (Kd.int .i64) 3 w w0.heap.size (fun k_ => (P0_ k_ ∨ wv.heap.size ≤ k_)) u9000_ l0) := ⟨by rw [← hq_]; exact (RQ HO0.out)⟩; have n1_ : Aside0 (Kept wv w (fun k_ => P0_ k_)) := ⟨by rw [← hq_]; exact (KL)⟩; have n2_ : Aside0 (Below w0.heap.size w0 w) := ⟨by rw [← hq_]; exact (BL)⟩; clear HO0 HK HB hq_; have HO0 := n0_; have HK := n1_; have HB := n2_; clear n0_ n1_ n2_)); obtain ⟨Ao10, co10, eo10⟩ := Kd.R_slice HO0.out; subst eo10; have p247 : 0 ≤ (t246 : Int) := of_decide_eq_true AS; have q247 : t246 < (l0.length : Int) := of_decide_eq_true AS; obtain ⟨ad247, e247, hx247_0⟩ := Kd.at_int (Kd.R_reads' HO0.out).2.2 t246 p247 q247; cases e247; replace p247 := eq_true p247; replace q247 := eq_true q247; have p9 : 0 ≤ (t246 : Int) := of_decide_eq_true AS; have q9 : (t246 : Int) < ((l0.length : Int) : Int) := of_decide_eq_true AS; obtain ⟨go9, co9, eo9, gb9, gl9, cl9, HG9⟩ := Kd.R_form HO0.out (by omega); (first | cases eo9 | (injection eo9 with ea_ en_ ec_; (first | subst ea_ | (injection ea_ with ea_; subst ea_)); subst ec_; clear en_)); have GB9 := Aside0.mk gb9; have GG9 := Aside0.mk HG9; clear gb9 gl9 HG9; have HMgo9 := Aside0.mk (show (P0_ go9 ∨ wv.heap.size ≤ go9) from (HO0.out.1 _ rfl)); (first | simp only [add_plain] at hx247_0 | skip); obtain ⟨hx9_0, hf9_0⟩ := Kd.R_celln 0 HO0.out (t246 : Int) p9 q9; replace p9 := eq_true p9; replace q9 := eq_true q9; obtain ⟨hy11_, hz11_⟩ := Kd.R_celln 0 HO0.out (t246 : Int) (of_decide_eq_true AS) (of_decide_eq_true AS); have HP11 := Kd.R_putg HO0.out (t246 : Int) a3) | ((with_reducible refine gate_store (t := 3) (p := 21) rfl ?_); refine store_event (t := 3) (p := 21) (v := ?vo_w12) (w1 := (w.setCell ⟨go9, (t246 : Int).toNat, none⟩ (.int .i64 a3))) ?hg ?ho ?hn ?hr ?_; (case ho => rfl); (case hg => rfl); (case hn => rfl); (case hr => first | (go_simp; done) | (go_simp; rfl)); intro w12 hw; have hg : w.grownBy w12 (some go9) := (by rw [hw]; exact HP11.2); have hp_ : Kd.R (Kd.int .i64) 3 w12 w0.heap.size (fun k_ => (P0_ k_ ∨ wv.heap.size ≤ k_)) (.slice (some ⟨go9, 0, none⟩) l0.length co10) y248 := (by rw [hw, Ny248.out]; exact HP11.1); clear HP11; replace HK := Aside0.mk (Kept.of_grown (S := (fun k_ => P0_ k_)) hg (KL) (fun k_ e_ => (HO0.out.1 k_ e_))); replace HO0 := Aside0.mk (hp_); replace HB := Aside0.mk ((by rw [hw]; exact below_set (HB.out) GB9.out : Below w0.heap.size w0 w12)); clear hg hw hp_))
 go_ret
 exact ⟨EE, RQ HO0.out, BL, KL⟩

end Go.Proofs.Ytjmggbhgmenmcaa.Qal
