-- Laid by myprint.py, a program of this session's own, over the kit's print. Not trusted: Lean checks it.
import Derived.Test.YtjmggbhgmenmcaaQsx0
import Derived.Test.YtjmggbhgmenmcaaQsx2
namespace Go.Proofs.Ytjmggbhgmenmcaa.Qs
open Go.RowKit Go.Proofs.YtjmggbhgmenmcaaW.PrintWords Go.Proofs.YtjmggbhgmenmcaaW.PrintLast Go.Proofs.YtjmggbhgmenmcaaW.PrintMore
attribute [local go_sem] Go.Proofs.Ytjmggbhgmenmcaa.StrCmp.gtr_less Go.Proofs.Ytjmggbhgmenmcaa.StrCmp.geq_less Go.Proofs.Ytjmggbhgmenmcaa.StrCmp.leq_less max2_int min2_int max_two min_two max_three min_three max_four min_four   -- for this text's walks alone
set_option linter.unusedVariables false
set_option linter.unusedSimpArgs false

/-! ### spec_l06Look: function 78 -/
def spec_l06Look.f (l0 : List Int) (s1_0 : Int) (s1_1 : Int) (s1_2 : Int) (s1_3 : Int) (s1_4 : Int) (s1_5 : Int) (s1_6 : Int) (s1_7 : Int) (s1_8 : Int) (s1_9 : Bool) (s1_10 : Int) : Option (Int × Int × Int × Int × Int × Int × Int × Int × Int × Bool × Int × List Int) := if s1_8 = 1 then ((spec_l06Swap.f l0 s1_5 (wrap64 (2 * s1_6)) (wrap64 (2 * s1_7))).bind fun bt131 => (if bt131.1 = true then (some (s1_0, s1_1, s1_2, s1_3, 1, s1_5, s1_7, s1_7, s1_8, s1_9, s1_10, bt131.2)) else (some (s1_0, s1_1, s1_2, s1_3, 0, s1_5, s1_6, s1_7, s1_8, s1_9, s1_10, bt131.2)))) else (if 0 ≤ (wrap64 (3 * s1_6)) then (if (wrap64 (3 * s1_6)) < (l0.length : Int) then (if (rd l0 (wrap64 (3 * s1_6))) < s1_1 then (some (s1_0, s1_1, s1_2, s1_3, 1, s1_6, s1_7, s1_7, s1_8, s1_9, s1_10, l0)) else (some (s1_0, s1_1, s1_2, s1_3, 3, s1_5, s1_6, s1_7, s1_8, s1_9, s1_10, l0))) else (none)) else (none))
def spec_l06Look.T2 : Bool × List (List Nat × List Nat) := (true, [([], []), ([], []), ([1], [1]), ([2], [2]), ([3], [3]), ([], []), ([5], [5]), ([6], [6]), ([7], [7]), ([8], [8]), ([], []), ([10], [10]), ([11], [11]), ([12], [12]), ([13], [13]), ([0, 4, 9, 14], [0, 4, 9, 14])])
def spec_l06Look.B2 : List Nat := [0, 0, 2, 6, 14, 0, 32, 96, 224, 480, 0, 1024, 3072, 7168, 15360, 32767]
theorem spec_l06Look.tab2 : rtab .any (opsOf Try.f78 2) = spec_l06Look.T2 := by kernel_rfl
theorem spec_l06Look.bits2 : waitsOk spec_l06Look.T2.2 spec_l06Look.B2 = true := by kernel_rfl
def spec_l06Look.T5 : Bool × List (List Nat × List Nat) := (true, [([], []), ([], []), ([1], [1]), ([2], [2]), ([3], [3]), ([4], [4]), ([0, 5], [0, 5]), ([6], [6]), ([], []), ([8], [8]), ([9], [9]), ([10], [10]), ([7, 11], [7, 11])])
def spec_l06Look.B5 : List Nat := [0, 0, 2, 6, 14, 30, 63, 127, 0, 256, 768, 1792, 4095]
theorem spec_l06Look.tab5 : rtab .any (opsOf Try.f78 5) = spec_l06Look.T5 := by kernel_rfl
theorem spec_l06Look.bits5 : waitsOk spec_l06Look.T5.2 spec_l06Look.B5 = true := by kernel_rfl
set_option maxHeartbeats 8000000 in
set_option maxRecDepth 100000 in
theorem spec_l06Look.calls (P0_ : Nat → Prop) (u9000_ : Value) (l0 : List Int) (g : Nat) (s1_0 : Int) (s1_1 : Int) (s1_2 : Int) (s1_3 : Int) (s1_4 : Int) (s1_5 : Int) (s1_6 : Int) (s1_7 : Int) (s1_8 : Int) (s1_9 : Bool) (s1_10 : Int) (r1 : Int) (r2 : Int) (r3 : Int) (r4 : Int) (r5 : Int) (r6 : Int) (r7 : Int) (r8 : Int) (r9 : Int) (r10 : Bool) (r11 : Int) (r12 : List Int) (w0 w : World) (hI : IsS46 w0 w g s1_0 s1_1 s1_2 s1_3 s1_4 s1_5 s1_6 s1_7 s1_8 s1_9 s1_10) (hB : Below w0.heap.size w0 w) (ho0 : Kd.R (Kd.int .i64) 3 w w0.heap.size P0_ u9000_ l0) (h : spec_l06Look.f l0 s1_0 s1_1 s1_2 s1_3 s1_4 s1_5 s1_6 s1_7 s1_8 s1_9 s1_10 = some (r1, r2, r3, r4, r5, r6, r7, r8, r9, r10, r11, r12)) :
  Calls Try.prog 78 #[u9000_, .pointer (some ⟨g, 0, none⟩)] w fun e w' => e = .returned (.tuple #[]) ∧ IsS46 w0 w' g r1 r2 r3 r4 r5 r6 r7 r8 r9 r10 r11 ∧ Kd.R (Kd.int .i64) 3 w' w0.heap.size (fun k_ => (P0_ k_ ∨ w.heap.size ≤ k_)) u9000_ r12 ∧ Below w0.heap.size w0 w' ∧ Kept w w' (fun k_ => (P0_ k_) ∨ k_ = g) := by
 have HO0 := Aside0.mk (show Kd.R (Kd.int .i64) 3 w w0.heap.size (fun k_ => (P0_ k_ ∨ w.heap.size ≤ k_)) u9000_ l0 from Kd.R_mono ho0 (fun k_ hk => (.inl hk)))
 have HI1 := Aside0.mk hI
 have HL := Aside0.mk hB.size
 clear hI
 have HK := Aside0.mk (Kept.refl w (fun k_ => (P0_ k_) ∨ k_ = g))
 have HW0 := Aside0.mk hB.size
 have HB := Aside0.mk hB
 clear hB
 have H : (if s1_8 = 1 then ((spec_l06Swap.f l0 s1_5 (wrap64 (2 * s1_6)) (wrap64 (2 * s1_7))).bind fun bt131 => (if bt131.1 = true then (some (s1_0, s1_1, s1_2, s1_3, 1, s1_5, s1_7, s1_7, s1_8, s1_9, s1_10, bt131.2)) else (some (s1_0, s1_1, s1_2, s1_3, 0, s1_5, s1_6, s1_7, s1_8, s1_9, s1_10, bt131.2)))) else (if 0 ≤ (wrap64 (3 * s1_6)) then (if (wrap64 (3 * s1_6)) < (l0.length : Int) then (if (rd l0 (wrap64 (3 * s1_6))) < s1_1 then (some (s1_0, s1_1, s1_2, s1_3, 1, s1_6, s1_7, s1_7, s1_8, s1_9, s1_10, l0)) else (some (s1_0, s1_1, s1_2, s1_3, 3, s1_5, s1_6, s1_7, s1_8, s1_9, s1_10, l0))) else (none)) else (none))) = some (r1, r2, r3, r4, r5, r6, r7, r8, r9, r10, r11, r12) := h
 clear h
 by_cases c3 : s1_8 = 1; rotate_left
 ·
  rw [if_neg c3] at H
  have c3b0 : (s1_8 == 1) = false := beq_eq_false_iff_ne.mpr c3
  have c3b1 : (s1_8 != 1) = true := bne_iff_ne.mpr c3
  obtain ⟨ji17, hji17⟩ : ∃ j_ : Int, (wrap64 (3 * s1_6)) = j_ := ⟨_, rfl⟩
  replace H : (if 0 ≤ (ji17) then (if (ji17) < (l0.length : Int) then (if (rd l0 (ji17)) < s1_1 then (some (s1_0, s1_1, s1_2, s1_3, 1, s1_6, s1_7, s1_7, s1_8, s1_9, s1_10, l0)) else (some (s1_0, s1_1, s1_2, s1_3, 3, s1_5, s1_6, s1_7, s1_8, s1_9, s1_10, l0))) else (none)) else (none)) = some (r1, r2, r3, r4, r5, r6, r7, r8, r9, r10, r11, r12) := by first | (rw [hji17] at H; exact H) | (simp only [hji17] at H ⊢; exact H)
  have hji17w : (IntKind.i64.wrap (3 * s1_6)) = ji17 := (i64_w _).trans hji17
  by_cases c18 : 0 ≤ (ji17); rotate_left
  ·
   rw [if_neg c18] at H
   exact absurd H (by simp)
  rw [if_pos c18] at H
  have c18b0 : decide (0 ≤ (ji17)) = true := decide_eq_true c18
  clear c18
  by_cases c19 : (ji17) < (l0.length : Int); rotate_left
  ·
   rw [if_neg c19] at H
   exact absurd H (by simp)
  rw [if_pos c19] at H
  have c19b0 : decide ((ji17) < (l0.length : Int)) = true := decide_eq_true c19
  clear c19
  by_cases c20 : (rd l0 (ji17)) < s1_1
  ·
   rw [if_pos c20] at H
   have c20b0 : decide ((rd l0 (ji17)) < s1_1) = true := decide_eq_true c20
   clear c20
   simp only [Option.some.injEq, Prod.mk.injEq] at H
   obtain ⟨rfl, rfl, rfl, rfl, rfl, rfl, rfl, rfl, rfl, rfl, rfl, rfl⟩ := H
   obtain ⟨HGz21, hgz21⟩ := HI1.out
   have hcz21_0 := cellS46_0 HGz21
   have hcz21_1 := cellS46_1 HGz21
   have hcz21_2 := cellS46_2 HGz21
   have hcz21_3 := cellS46_3 HGz21
   have hcz21_4 := cellS46_4 HGz21
   have hcz21_5 := cellS46_5 HGz21
   have hcz21_6 := cellS46_6 HGz21
   have hcz21_7 := cellS46_7 HGz21
   have hcz21_8 := cellS46_8 HGz21
   have hcz21_9 := cellS46_9 HGz21
   have hcz21_10 := cellS46_10 HGz21
   have hfz21_0 := blk_frozen HGz21 0
   have hfz21_1 := blk_frozen HGz21 1
   have hfz21_2 := blk_frozen HGz21 2
   have hfz21_3 := blk_frozen HGz21 3
   have hfz21_4 := blk_frozen HGz21 4
   have hfz21_5 := blk_frozen HGz21 5
   have hfz21_6 := blk_frozen HGz21 6
   have hfz21_7 := blk_frozen HGz21 7
   have hfz21_8 := blk_frozen HGz21 8
   have hfz21_9 := blk_frozen HGz21 9
   have hfz21_10 := blk_frozen HGz21 10
   clear HGz21 hgz21
   go_enter Try.func78, Try.ntmps78
   try go_wp2
   have n0_ := Aside0.mk (Kd.R_drew HO0.out)
   have n1_ := Aside0.mk (IsS46.drew HI1.out)
   have n2_ := Aside0.mk (Kept.drew HK.out)
   have n3_ := Aside0.mk (below_drew1 HB.out)
   clear HO0
   clear HI1
   clear HK
   clear HB
   have HO0 := n0_
   have HI1 := n1_
   have HK := n2_
   have HB := n3_
   clear n0_ n1_ n2_ n3_
   obtain ⟨Ao23, co23, eo23⟩ := Kd.R_slice HO0.out
   (first | subst eo23 | (injection eo23 with f1_ f2_ f3_; have f4_ := f1_.symm; have f5_ := f3_.symm; clear f1_ f2_ f3_; subst f4_; subst f5_))
   have p133 : 0 ≤ ((ji17) : Int) := of_decide_eq_true AS
   have q133 : (ji17) < (l0.length : Int) := of_decide_eq_true AS
   obtain ⟨ad133, e133, hx133_0⟩ := Kd.at_int (Kd.R_reads' HO0.out).2.2 (ji17) p133 q133
   cases e133
   replace p133 := eq_true p133
   replace q133 := eq_true q133
   refine start_ (n := 13) (S := fun w' => w'.cell? ⟨g, 0, none⟩ = some (.int .i64 s1_0) ∧ w'.cell? ⟨g, 1, none⟩ = some (.int .i64 s1_1) ∧ w'.cell? ⟨g, 2, none⟩ = some (.int .i64 s1_2) ∧ w'.cell? ⟨g, 3, none⟩ = some (.int .i64 s1_3) ∧ w'.cell? ⟨g, 4, none⟩ = some (.int .i64 s1_4) ∧ w'.cell? ⟨g, 5, none⟩ = some (.int .i64 s1_5) ∧ w'.cell? ⟨g, 6, none⟩ = some (.int .i64 s1_6) ∧ w'.cell? ⟨g, 7, none⟩ = some (.int .i64 s1_7) ∧ w'.cell? ⟨g, 8, none⟩ = some (.int .i64 s1_8) ∧ w'.cell? ⟨g, 9, none⟩ = some (.bool s1_9) ∧ w'.cell? ⟨g, 10, none⟩ = some (.int .i64 s1_10) ∧ w'.cell? (ad133.add ((ji17)).toNat) = some (.int .i64 (rd l0 (ji17)))) (ds := []) #[false, false, false, false, false, false, false, false, false, false, false, false, false] (by kernel_rfl) rfl rfl ⟨(blk_cell (Aside0.mk (HI1.out).1).out 0).trans rfl, (blk_cell (Aside0.mk (HI1.out).1).out 1).trans rfl, (blk_cell (Aside0.mk (HI1.out).1).out 2).trans rfl, (blk_cell (Aside0.mk (HI1.out).1).out 3).trans rfl, (blk_cell (Aside0.mk (HI1.out).1).out 4).trans rfl, (blk_cell (Aside0.mk (HI1.out).1).out 5).trans rfl, (blk_cell (Aside0.mk (HI1.out).1).out 6).trans rfl, (blk_cell (Aside0.mk (HI1.out).1).out 7).trans rfl, (blk_cell (Aside0.mk (HI1.out).1).out 8).trans rfl, (blk_cell (Aside0.mk (HI1.out).1).out 9).trans rfl, (blk_cell (Aside0.mk (HI1.out).1).out 10).trans rfl, hx133_0⟩ (fun hHeld => ?_); refine with_tabW spec_l06Look.tab5 spec_l06Look.bits5 (fun HT_ HW_ => ?_)
   generalize w.drew = w22 at HO0 HI1 HK HB hx133_0 hHeld ⊢
   refine pV 0 38 (OB 13 1) ?_
   refine pV 1 39 (OB 13 3) ?_
   refine pV 2 40 (OB 13 7) ?_
   refine pV 3 41 (OB 13 15) ?_
   refine pV 8 46 (OB 13 271) ?_
   refine pV 9 47 (OB 13 783) ?_
   refine pV 10 48 (OB 13 1807) ?_
   refine take_ (i := 4) (N := some 42) (v := ?_) (a' := ?_) (OB 13 1823) rfl rfl (take_ofW HT_.out HW_.out (by kernel_rfl)) (fun _ _ _ h => h) (Or.inl ⟨by rfl, ?_⟩) hHeld ?_ ?_
   rotate_left
   ·
    rintro w' ⟨s0, s1, s2, s3, s4, s5, s6, s7, s8, s9, s10, s11⟩
    go_simp
    with_reducible rfl
   rotate_left
   ·
    simp only [Act.put, zA, zB, zC, i64_w, i32_w]
    rfl
   refine pV 5 43 (OB 13 1855) ?_
   refine pV 6 44 (OB 13 1919) ?_
   refine take_ (i := 7) (N := some 45) (v := ?_) (a' := ?_) (OB 13 2047) rfl rfl (take_ofW HT_.out HW_.out (by kernel_rfl)) (fun _ _ _ h => h) (Or.inl ⟨by rfl, ?_⟩) hHeld ?_ ?_
   rotate_left
   ·
    rintro w' ⟨s0, s1, s2, s3, s4, s5, s6, s7, s8, s9, s10, s11⟩
    go_simp
    with_reducible rfl
   rotate_left
   ·
    simp only [Act.put, zA, zB, zC, i64_w, i32_w]
    rfl
   refine take_ (i := 11) (N := some 49) (v := ?_) (a' := ?_) (OB 13 4095) rfl rfl (take_ofW HT_.out HW_.out (by kernel_rfl)) (fun _ _ _ h => h) (Or.inl ⟨by rfl, ?_⟩) hHeld ?_ ?_
   rotate_left
   ·
    rintro w' ⟨s0, s1, s2, s3, s4, s5, s6, s7, s8, s9, s10, s11⟩
    go_simp
    with_reducible rfl
   rotate_left
   ·
    simp only [Act.put, zA, zB, zC, i64_w, i32_w]
    rfl
   refine pV 12 50 (OB 13 8191) ?_
   refine done_ (done_of HT_.out (by kernel_rfl)) ?_
   obtain ⟨HGz24, hgz24⟩ := HI1.out
   have hcz24_0 := cellS46_0 HGz24
   have hcz24_1 := cellS46_1 HGz24
   have hcz24_2 := cellS46_2 HGz24
   have hcz24_3 := cellS46_3 HGz24
   have hcz24_4 := cellS46_4 HGz24
   have hcz24_5 := cellS46_5 HGz24
   have hcz24_6 := cellS46_6 HGz24
   have hcz24_7 := cellS46_7 HGz24
   have hcz24_8 := cellS46_8 HGz24
   have hcz24_9 := cellS46_9 HGz24
   have hcz24_10 := cellS46_10 HGz24
   have hfz24_0 := blk_frozen HGz24 0
   have hfz24_1 := blk_frozen HGz24 1
   have hfz24_2 := blk_frozen HGz24 2
   have hfz24_3 := blk_frozen HGz24 3
   have hfz24_4 := blk_frozen HGz24 4
   have hfz24_5 := blk_frozen HGz24 5
   have hfz24_6 := blk_frozen HGz24 6
   have hfz24_7 := blk_frozen HGz24 7
   have hfz24_8 := blk_frozen HGz24 8
   have hfz24_9 := blk_frozen HGz24 9
   have hfz24_10 := blk_frozen HGz24 10
   clear HGz24 hgz24
   try go_wp2
   first | go_end0 | ((try simp only [Exit.inBlock, Exit.then]); refine bodyPost_ret (results_none rfl _ _ _) rfl ?_)
   exact ⟨by first | rfl | (simp [errW_none, errW_some] <;> rfl) | (simp only [← hji17]; first | rfl | (simp [errW_none, errW_some] <;> rfl)) | (simp [*, errW_none, errW_some] <;> rfl), by repeat (first | (with_reducible first | exact HI1.out | apply IsS46.alloc | apply IsS46.drewN | apply IsS46.drew | apply IsS46.set_0 | apply IsS46.set_1 | apply IsS46.set_2 | apply IsS46.set_3 | apply IsS46.set_4 | apply IsS46.set_5 | apply IsS46.set_6 | apply IsS46.set_7 | apply IsS46.set_8 | apply IsS46.set_9 | apply IsS46.set_10) | exact HI1.out), by (with_reducible repeat (first | apply r1 | apply r2 | apply r3)); exact Kd.R_mono (Kd.R_far (p := ⟨g, 4, none⟩) (Kd.R_far (p := ⟨g, 6, none⟩) (Kd.R_far (p := ⟨g, 5, none⟩) (IsS46.apart HI1.out HO0.out (by decide)) (fun _ hk => hk.2) (.int .i64 s1_6)) (fun _ hk => hk.2) (.int .i64 s1_7)) (fun _ hk => hk.2) (.int .i64 1)) (fun _ hk => hk.1), by repeat (first | (with_reducible first | exact HB.out | apply below_alloc | apply pw_below_drewN | apply below_drew1 | refine below_set ?_ (IsS46.ge HI1.out)) | exact HB.out), by repeat (first | (with_reducible first | exact HK.out | apply Kept.alloc | apply Kept.drewN | apply Kept.drew | refine Kept.setCell ?_ (.inl (.inr rfl)) _) | exact HK.out)⟩
  rw [if_neg c20] at H
  have c20b0 : decide ((rd l0 (ji17)) < s1_1) = false := decide_eq_false c20
  clear c20
  simp only [Option.some.injEq, Prod.mk.injEq] at H
  obtain ⟨rfl, rfl, rfl, rfl, rfl, rfl, rfl, rfl, rfl, rfl, rfl, rfl⟩ := H
  obtain ⟨HGz25, hgz25⟩ := HI1.out
  have hcz25_0 := cellS46_0 HGz25
  have hcz25_1 := cellS46_1 HGz25
  have hcz25_2 := cellS46_2 HGz25
  have hcz25_3 := cellS46_3 HGz25
  have hcz25_4 := cellS46_4 HGz25
  have hcz25_5 := cellS46_5 HGz25
  have hcz25_6 := cellS46_6 HGz25
  have hcz25_7 := cellS46_7 HGz25
  have hcz25_8 := cellS46_8 HGz25
  have hcz25_9 := cellS46_9 HGz25
  have hcz25_10 := cellS46_10 HGz25
  have hfz25_0 := blk_frozen HGz25 0
  have hfz25_1 := blk_frozen HGz25 1
  have hfz25_2 := blk_frozen HGz25 2
  have hfz25_3 := blk_frozen HGz25 3
  have hfz25_4 := blk_frozen HGz25 4
  have hfz25_5 := blk_frozen HGz25 5
  have hfz25_6 := blk_frozen HGz25 6
  have hfz25_7 := blk_frozen HGz25 7
  have hfz25_8 := blk_frozen HGz25 8
  have hfz25_9 := blk_frozen HGz25 9
  have hfz25_10 := blk_frozen HGz25 10
  clear HGz25 hgz25
  go_enter Try.func78, Try.ntmps78
  try go_wp2
  have n0_ := Aside0.mk (Kd.R_drew HO0.out)
  have n1_ := Aside0.mk (IsS46.drew HI1.out)
  have n2_ := Aside0.mk (Kept.drew HK.out)
  have n3_ := Aside0.mk (below_drew1 HB.out)
  clear HO0
  clear HI1
  clear HK
  clear HB
  have HO0 := n0_
  have HI1 := n1_
  have HK := n2_
  have HB := n3_
  clear n0_ n1_ n2_ n3_
  obtain ⟨Ao27, co27, eo27⟩ := Kd.R_slice HO0.out
  (first | subst eo27 | (injection eo27 with f1_ f2_ f3_; have f4_ := f1_.symm; have f5_ := f3_.symm; clear f1_ f2_ f3_; subst f4_; subst f5_))
  have p133 : 0 ≤ ((ji17) : Int) := of_decide_eq_true AS
  have q133 : (ji17) < (l0.length : Int) := of_decide_eq_true AS
  obtain ⟨ad133, e133, hx133_0⟩ := Kd.at_int (Kd.R_reads' HO0.out).2.2 (ji17) p133 q133
  cases e133
  replace p133 := eq_true p133
  replace q133 := eq_true q133
  refine start_ (n := 13) (S := fun w' => w'.cell? ⟨g, 0, none⟩ = some (.int .i64 s1_0) ∧ w'.cell? ⟨g, 1, none⟩ = some (.int .i64 s1_1) ∧ w'.cell? ⟨g, 2, none⟩ = some (.int .i64 s1_2) ∧ w'.cell? ⟨g, 3, none⟩ = some (.int .i64 s1_3) ∧ w'.cell? ⟨g, 4, none⟩ = some (.int .i64 s1_4) ∧ w'.cell? ⟨g, 5, none⟩ = some (.int .i64 s1_5) ∧ w'.cell? ⟨g, 6, none⟩ = some (.int .i64 s1_6) ∧ w'.cell? ⟨g, 7, none⟩ = some (.int .i64 s1_7) ∧ w'.cell? ⟨g, 8, none⟩ = some (.int .i64 s1_8) ∧ w'.cell? ⟨g, 9, none⟩ = some (.bool s1_9) ∧ w'.cell? ⟨g, 10, none⟩ = some (.int .i64 s1_10) ∧ w'.cell? (ad133.add ((ji17)).toNat) = some (.int .i64 (rd l0 (ji17)))) (ds := []) #[false, false, false, false, false, false, false, false, false, false, false, false, false] (by kernel_rfl) rfl rfl ⟨(blk_cell (Aside0.mk (HI1.out).1).out 0).trans rfl, (blk_cell (Aside0.mk (HI1.out).1).out 1).trans rfl, (blk_cell (Aside0.mk (HI1.out).1).out 2).trans rfl, (blk_cell (Aside0.mk (HI1.out).1).out 3).trans rfl, (blk_cell (Aside0.mk (HI1.out).1).out 4).trans rfl, (blk_cell (Aside0.mk (HI1.out).1).out 5).trans rfl, (blk_cell (Aside0.mk (HI1.out).1).out 6).trans rfl, (blk_cell (Aside0.mk (HI1.out).1).out 7).trans rfl, (blk_cell (Aside0.mk (HI1.out).1).out 8).trans rfl, (blk_cell (Aside0.mk (HI1.out).1).out 9).trans rfl, (blk_cell (Aside0.mk (HI1.out).1).out 10).trans rfl, hx133_0⟩ (fun hHeld => ?_); refine with_tabW spec_l06Look.tab5 spec_l06Look.bits5 (fun HT_ HW_ => ?_)
  generalize w.drew = w26 at HO0 HI1 HK HB hx133_0 hHeld ⊢
  refine pV 0 38 (OB 13 1) ?_
  refine pV 1 39 (OB 13 3) ?_
  refine pV 2 40 (OB 13 7) ?_
  refine pV 3 41 (OB 13 15) ?_
  refine pV 8 46 (OB 13 271) ?_
  refine pV 9 47 (OB 13 783) ?_
  refine pV 10 48 (OB 13 1807) ?_
  refine take_ (i := 4) (N := some 42) (v := ?_) (a' := ?_) (OB 13 1823) rfl rfl (take_ofW HT_.out HW_.out (by kernel_rfl)) (fun _ _ _ h => h) (Or.inl ⟨by rfl, ?_⟩) hHeld ?_ ?_
  rotate_left
  ·
   rintro w' ⟨s0, s1, s2, s3, s4, s5, s6, s7, s8, s9, s10, s11⟩
   go_simp
   with_reducible rfl
  rotate_left
  ·
   simp only [Act.put, zA, zB, zC, i64_w, i32_w]
   rfl
  refine pV 5 43 (OB 13 1855) ?_
  refine pV 6 44 (OB 13 1919) ?_
  refine take_ (i := 7) (N := some 45) (v := ?_) (a' := ?_) (OB 13 2047) rfl rfl (take_ofW HT_.out HW_.out (by kernel_rfl)) (fun _ _ _ h => h) (Or.inl ⟨by rfl, ?_⟩) hHeld ?_ ?_
  rotate_left
  ·
   rintro w' ⟨s0, s1, s2, s3, s4, s5, s6, s7, s8, s9, s10, s11⟩
   go_simp
   with_reducible rfl
  rotate_left
  ·
   simp only [Act.put, zA, zB, zC, i64_w, i32_w]
   rfl
  refine take_ (i := 11) (N := some 49) (v := ?_) (a' := ?_) (OB 13 4095) rfl rfl (take_ofW HT_.out HW_.out (by kernel_rfl)) (fun _ _ _ h => h) (Or.inl ⟨by rfl, ?_⟩) hHeld ?_ ?_
  rotate_left
  ·
   rintro w' ⟨s0, s1, s2, s3, s4, s5, s6, s7, s8, s9, s10, s11⟩
   go_simp
   with_reducible rfl
  rotate_left
  ·
   simp only [Act.put, zA, zB, zC, i64_w, i32_w]
   rfl
  refine pV 12 50 (OB 13 8191) ?_
  refine done_ (done_of HT_.out (by kernel_rfl)) ?_
  obtain ⟨HGz28, hgz28⟩ := HI1.out
  have hcz28_0 := cellS46_0 HGz28
  have hcz28_1 := cellS46_1 HGz28
  have hcz28_2 := cellS46_2 HGz28
  have hcz28_3 := cellS46_3 HGz28
  have hcz28_4 := cellS46_4 HGz28
  have hcz28_5 := cellS46_5 HGz28
  have hcz28_6 := cellS46_6 HGz28
  have hcz28_7 := cellS46_7 HGz28
  have hcz28_8 := cellS46_8 HGz28
  have hcz28_9 := cellS46_9 HGz28
  have hcz28_10 := cellS46_10 HGz28
  have hfz28_0 := blk_frozen HGz28 0
  have hfz28_1 := blk_frozen HGz28 1
  have hfz28_2 := blk_frozen HGz28 2
  have hfz28_3 := blk_frozen HGz28 3
  have hfz28_4 := blk_frozen HGz28 4
  have hfz28_5 := blk_frozen HGz28 5
  have hfz28_6 := blk_frozen HGz28 6
  have hfz28_7 := blk_frozen HGz28 7
  have hfz28_8 := blk_frozen HGz28 8
  have hfz28_9 := blk_frozen HGz28 9
  have hfz28_10 := blk_frozen HGz28 10
  clear HGz28 hgz28
  try go_wp2
  first | go_end0 | ((try simp only [Exit.inBlock, Exit.then]); refine bodyPost_ret (results_none rfl _ _ _) rfl ?_)
  exact ⟨by first | rfl | (simp [errW_none, errW_some] <;> rfl) | (simp only [← hji17]; first | rfl | (simp [errW_none, errW_some] <;> rfl)) | (simp [*, errW_none, errW_some] <;> rfl), by repeat (first | (with_reducible first | exact HI1.out | apply IsS46.alloc | apply IsS46.drewN | apply IsS46.drew | apply IsS46.set_0 | apply IsS46.set_1 | apply IsS46.set_2 | apply IsS46.set_3 | apply IsS46.set_4 | apply IsS46.set_5 | apply IsS46.set_6 | apply IsS46.set_7 | apply IsS46.set_8 | apply IsS46.set_9 | apply IsS46.set_10) | exact HI1.out), by (with_reducible repeat (first | apply r1 | apply r2 | apply r3)); exact Kd.R_mono (Kd.R_far (p := ⟨g, 4, none⟩) (IsS46.apart HI1.out HO0.out (by decide)) (fun _ hk => hk.2) (.int .i64 3)) (fun _ hk => hk.1), by repeat (first | (with_reducible first | exact HB.out | apply below_alloc | apply pw_below_drewN | apply below_drew1 | refine below_set ?_ (IsS46.ge HI1.out)) | exact HB.out), by repeat (first | (with_reducible first | exact HK.out | apply Kept.alloc | apply Kept.drewN | apply Kept.drew | refine Kept.setCell ?_ (.inl (.inr rfl)) _) | exact HK.out)⟩
 rw [if_pos c3] at H
 have c3b0 : (s1_8 == 1) = true := beq_iff_eq.mpr c3
 have c3b1 : (s1_8 != 1) = false := bne_eq_false_iff_eq.mpr c3
 clear c3
 replace H := Option.bind_eq_some_iff.mp H
 obtain ⟨⟨t131, t132⟩, A40, H⟩ := H
 replace H : (if t131 = true then (some (s1_0, s1_1, s1_2, s1_3, 1, s1_5, s1_7, s1_7, s1_8, s1_9, s1_10, t132)) else (some (s1_0, s1_1, s1_2, s1_3, 0, s1_5, s1_6, s1_7, s1_8, s1_9, s1_10, t132))) = some (r1, r2, r3, r4, r5, r6, r7, r8, r9, r10, r11, r12) := H
 have A4 := Aside0.mk A40
 clear A40
 by_cases c5 : t131 = true; rotate_left
 ·
  replace c5 := Bool.eq_false_iff.mpr c5
  subst c5
  have H1 : (some (s1_0, s1_1, s1_2, s1_3, 0, s1_5, s1_6, s1_7, s1_8, s1_9, s1_10, t132)) = some (r1, r2, r3, r4, r5, r6, r7, r8, r9, r10, r11, r12) := by rw [if_neg (show ¬ (false = true) by decide)] at H; exact H
  clear H
  have H := H1
  clear H1
  simp only [Option.some.injEq, Prod.mk.injEq] at H
  obtain ⟨rfl, rfl, rfl, rfl, rfl, rfl, rfl, rfl, rfl, rfl, rfl, rfl⟩ := H
  obtain ⟨HGz12, hgz12⟩ := HI1.out
  have hcz12_0 := cellS46_0 HGz12
  have hcz12_1 := cellS46_1 HGz12
  have hcz12_2 := cellS46_2 HGz12
  have hcz12_3 := cellS46_3 HGz12
  have hcz12_4 := cellS46_4 HGz12
  have hcz12_5 := cellS46_5 HGz12
  have hcz12_6 := cellS46_6 HGz12
  have hcz12_7 := cellS46_7 HGz12
  have hcz12_8 := cellS46_8 HGz12
  have hcz12_9 := cellS46_9 HGz12
  have hcz12_10 := cellS46_10 HGz12
  have hfz12_0 := blk_frozen HGz12 0
  have hfz12_1 := blk_frozen HGz12 1
  have hfz12_2 := blk_frozen HGz12 2
  have hfz12_3 := blk_frozen HGz12 3
  have hfz12_4 := blk_frozen HGz12 4
  have hfz12_5 := blk_frozen HGz12 5
  have hfz12_6 := blk_frozen HGz12 6
  have hfz12_7 := blk_frozen HGz12 7
  have hfz12_8 := blk_frozen HGz12 8
  have hfz12_9 := blk_frozen HGz12 9
  have hfz12_10 := blk_frozen HGz12 10
  clear HGz12 hgz12
  go_enter Try.func78, Try.ntmps78
  try go_wp2
  have n0_ : Aside0 (Kd.R (Kd.int .i64) 3 (w.setCell ⟨g, 4, none⟩ (.int .i64 0)) w0.heap.size (fun k_ => (P0_ k_ ∨ w.heap.size ≤ k_)) u9000_ l0) := ⟨by (with_reducible repeat (first | apply r1 | apply r2 | apply r3)); exact Kd.R_mono (Kd.R_far (p := ⟨g, 4, none⟩) (IsS46.apart HI1.out HO0.out (by decide)) (fun _ hk => hk.2) (.int .i64 0)) (fun _ hk => hk.1)⟩
  have n1_ : Aside0 (IsS46 w0 (w.setCell ⟨g, 4, none⟩ (.int .i64 0)) g s1_0 s1_1 s1_2 s1_3 0 s1_5 s1_6 s1_7 s1_8 s1_9 s1_10) := ⟨by repeat (first | (with_reducible first | exact HI1.out | apply IsS46.alloc | apply IsS46.drewN | apply IsS46.drew | apply IsS46.set_0 | apply IsS46.set_1 | apply IsS46.set_2 | apply IsS46.set_3 | apply IsS46.set_4 | apply IsS46.set_5 | apply IsS46.set_6 | apply IsS46.set_7 | apply IsS46.set_8 | apply IsS46.set_9 | apply IsS46.set_10) | exact HI1.out)⟩
  have n2_ : Aside0 (Kept w (w.setCell ⟨g, 4, none⟩ (.int .i64 0)) (fun k_ => (P0_ k_) ∨ k_ = g)) := ⟨by repeat (first | (with_reducible first | exact HK.out | apply Kept.alloc | apply Kept.drewN | apply Kept.drew | refine Kept.setCell ?_ (.inl (.inr rfl)) _) | exact HK.out)⟩
  have n3_ : Aside0 (Below w0.heap.size w0 (w.setCell ⟨g, 4, none⟩ (.int .i64 0))) := ⟨by repeat (first | (with_reducible first | exact HB.out | apply below_alloc | apply pw_below_drewN | apply below_drew1 | refine below_set ?_ (IsS46.ge HI1.out)) | exact HB.out)⟩
  (try clear HO0)
  (try clear HI1)
  (try clear HK)
  (try clear HB)
  generalize (w.setCell ⟨g, 4, none⟩ (.int .i64 0)) = w13 at n0_ n1_ n2_ n3_ ⊢
  have HO0 := n0_
  have HI1 := n1_
  have HK := n2_
  have HB := n3_
  clear n0_ n1_ n2_ n3_
  have n0_ := Aside0.mk (Kd.R_drew HO0.out)
  have n1_ := Aside0.mk (IsS46.drew HI1.out)
  have n2_ := Aside0.mk (Kept.drew HK.out)
  have n3_ := Aside0.mk (below_drew1 HB.out)
  clear HO0
  clear HI1
  clear HK
  clear HB
  have HO0 := n0_
  have HI1 := n1_
  have HK := n2_
  have HB := n3_
  clear n0_ n1_ n2_ n3_
  obtain ⟨Ao15, co15, eo15⟩ := Kd.R_slice HO0.out
  (first | subst eo15 | (injection eo15 with f1_ f2_ f3_; have f4_ := f1_.symm; have f5_ := f3_.symm; clear f1_ f2_ f3_; subst f4_; subst f5_))
  refine start_ (n := 16) (S := fun w' => w'.cell? ⟨g, 0, none⟩ = some (.int .i64 s1_0) ∧ w'.cell? ⟨g, 1, none⟩ = some (.int .i64 s1_1) ∧ w'.cell? ⟨g, 2, none⟩ = some (.int .i64 s1_2) ∧ w'.cell? ⟨g, 3, none⟩ = some (.int .i64 s1_3) ∧ w'.cell? ⟨g, 4, none⟩ = some (.int .i64 0) ∧ w'.cell? ⟨g, 5, none⟩ = some (.int .i64 s1_5) ∧ w'.cell? ⟨g, 6, none⟩ = some (.int .i64 s1_6) ∧ w'.cell? ⟨g, 7, none⟩ = some (.int .i64 s1_7) ∧ w'.cell? ⟨g, 8, none⟩ = some (.int .i64 s1_8) ∧ w'.cell? ⟨g, 9, none⟩ = some (.bool s1_9) ∧ w'.cell? ⟨g, 10, none⟩ = some (.int .i64 s1_10)) (ds := []) #[false, false, false, false, false, false, false, false, false, false, false, false, false, false, false, false] (by kernel_rfl) rfl rfl ⟨(blk_cell (Aside0.mk (HI1.out).1).out 0).trans rfl, (blk_cell (Aside0.mk (HI1.out).1).out 1).trans rfl, (blk_cell (Aside0.mk (HI1.out).1).out 2).trans rfl, (blk_cell (Aside0.mk (HI1.out).1).out 3).trans rfl, (blk_cell (Aside0.mk (HI1.out).1).out 4).trans rfl, (blk_cell (Aside0.mk (HI1.out).1).out 5).trans rfl, (blk_cell (Aside0.mk (HI1.out).1).out 6).trans rfl, (blk_cell (Aside0.mk (HI1.out).1).out 7).trans rfl, (blk_cell (Aside0.mk (HI1.out).1).out 8).trans rfl, (blk_cell (Aside0.mk (HI1.out).1).out 9).trans rfl, (blk_cell (Aside0.mk (HI1.out).1).out 10).trans rfl⟩ (fun hHeld => ?_); refine with_tabW spec_l06Look.tab2 spec_l06Look.bits2 (fun HT_ HW_ => ?_)
  generalize w13.drew = w14 at HO0 HI1 HK HB hHeld ⊢
  refine pV 0 12 (OB 16 1) ?_
  refine pV 1 13 (OB 16 3) ?_
  refine pV 2 14 (OB 16 7) ?_
  refine pV 3 15 (OB 16 15) ?_
  refine pV 5 17 (OB 16 47) ?_
  refine pV 6 18 (OB 16 111) ?_
  refine pV 7 19 (OB 16 239) ?_
  refine pV 10 22 (OB 16 1263) ?_
  refine pV 11 23 (OB 16 3311) ?_
  refine pV 12 24 (OB 16 7407) ?_
  refine take_ (i := 4) (N := some 16) (v := ?_) (a' := ?_) (OB 16 7423) rfl rfl (take_ofW HT_.out HW_.out (by kernel_rfl)) (fun _ _ _ h => h) (Or.inl ⟨by rfl, ?_⟩) hHeld ?_ ?_
  rotate_left
  ·
   rintro w' ⟨s0, s1, s2, s3, s4, s5, s6, s7, s8, s9, s10⟩
   go_simp
   with_reducible rfl
  rotate_left
  ·
   simp only [Act.put, zA, zB, zC, i64_w, i32_w]
   rfl
  refine take_ (i := 8) (N := some 20) (v := ?_) (a' := ?_) (OB 16 7679) rfl rfl (take_ofW HT_.out HW_.out (by kernel_rfl)) (fun _ _ _ h => h) (Or.inl ⟨by rfl, ?_⟩) hHeld ?_ ?_
  rotate_left
  ·
   rintro w' ⟨s0, s1, s2, s3, s4, s5, s6, s7, s8, s9, s10⟩
   go_simp
   with_reducible rfl
  rotate_left
  ·
   simp only [Act.put, zA, zB, zC, i64_w, i32_w]
   rfl
  refine pV 9 21 (OB 16 8191) ?_
  refine take_ (i := 13) (N := some 25) (v := ?_) (a' := ?_) (OB 16 16383) rfl rfl (take_ofW HT_.out HW_.out (by kernel_rfl)) (fun _ _ _ h => h) (Or.inl ⟨by rfl, ?_⟩) hHeld ?_ ?_
  rotate_left
  ·
   rintro w' ⟨s0, s1, s2, s3, s4, s5, s6, s7, s8, s9, s10⟩
   go_simp
   with_reducible rfl
  rotate_left
  ·
   simp only [Act.put, zA, zB, zC, i64_w, i32_w]
   rfl
  refine pV 14 26 (OB 16 32767) ?_
  refine one_ (i := 15) (N := some 27) (OB 16 65535) rfl rfl (one_of HT_.out (by kernel_rfl)) (by decide) (fun K hK => ?_)
  refine goes_ Try.func80 (by kernel_rfl) rfl #[.slice Ao15 l0.length co15, .int .i64 s1_5, .int .i64 (wrap64 (2 * s1_6)), .int .i64 (wrap64 (2 * s1_7))] (by rfl) rfl rfl (MA) ?_
  with_reducible refine (spec_l06Swap.calls (fun k_ => some k_ = (.slice Ao15 l0.length co15 : Value).ownBlock) (.slice Ao15 l0.length co15) l0 s1_5 (wrap64 (2 * s1_6)) (wrap64 (2 * s1_7)) false t132 w0 _ ?side1 ?side2 A4.out).mono ?_
  (case side1 => repeat (first | (with_reducible first | exact HB.out | apply below_alloc | apply pw_below_drewN | apply below_drew1 | refine below_set ?_ (IsS46.ge HI1.out)) | exact HB.out))
  (case side2 => exact Kd.R_tight rfl HO0.out)
  rintro e w16 ⟨rfl, hy0, hb, hkp⟩
  refine ⟨_, rfl, ?_⟩
  have n0_ := Aside0.mk (IsS46.kept (by repeat (first | (with_reducible first | exact HI1.out | apply IsS46.alloc | apply IsS46.drewN | apply IsS46.drew | apply IsS46.set_0 | apply IsS46.set_1 | apply IsS46.set_2 | apply IsS46.set_3 | apply IsS46.set_4 | apply IsS46.set_5 | apply IsS46.set_6 | apply IsS46.set_7 | apply IsS46.set_8 | apply IsS46.set_9 | apply IsS46.set_10) | exact HI1.out)) hkp (fun hs_ => (fun e_ => (IsS46.own_ne HI1.out HO0.out (by decide)) e_) hs_))
  have n1_ := Aside0.mk (Kd.R_reok rfl hy0 (fun k_ e_ => HO0.out.1 k_ e_))
  have n2_ := Aside0.mk (Kept.then_ (S := (fun k_ => (P0_ k_) ∨ k_ = g)) (by repeat (first | (with_reducible first | exact HK.out | apply Kept.alloc | apply Kept.drewN | apply Kept.drew | refine Kept.setCell ?_ (.inl (.inr rfl)) _) | exact HK.out)) hkp (fun k_ hs_ => (fun e_ => Or.imp_left Or.inl ((HO0.out.1 k_ e_.symm))) hs_))
  have n3_ := Aside0.mk (hb)
  clear HI1
  clear HO0
  clear HK
  clear HB
  have HI1 := n0_
  have HO0 := n1_
  have HK := n2_
  have HB := n3_
  clear n0_ n1_ n2_ n3_
  (try clear hb)
  (try clear hkp)
  (try clear hy0)
  refine hK.out _ _ ⟨(blk_cell (Aside0.mk (HI1.out).1).out 0).trans rfl, (blk_cell (Aside0.mk (HI1.out).1).out 1).trans rfl, (blk_cell (Aside0.mk (HI1.out).1).out 2).trans rfl, (blk_cell (Aside0.mk (HI1.out).1).out 3).trans rfl, (blk_cell (Aside0.mk (HI1.out).1).out 4).trans rfl, (blk_cell (Aside0.mk (HI1.out).1).out 5).trans rfl, (blk_cell (Aside0.mk (HI1.out).1).out 6).trans rfl, (blk_cell (Aside0.mk (HI1.out).1).out 7).trans rfl, (blk_cell (Aside0.mk (HI1.out).1).out 8).trans rfl, (blk_cell (Aside0.mk (HI1.out).1).out 9).trans rfl, (blk_cell (Aside0.mk (HI1.out).1).out 10).trans rfl⟩ (fun hHeld => ?_)
  clear hK K
  refine norm_ (a' := ?_) ?_ ?_
  rotate_left
  ·
   show Act.put _ (some 27) _ = _
   simp only [Act.put, zA, zB, zC, i64_w, i32_w]
   rfl
  refine done_ (done_of HT_.out (by kernel_rfl)) ?_
  try go_wp2
  first | go_end0 | ((try simp only [Exit.inBlock, Exit.then]); refine bodyPost_ret (results_none rfl _ _ _) rfl ?_)
  exact ⟨EE, by repeat (first | (with_reducible first | exact HI1.out | apply IsS46.alloc | apply IsS46.drewN | apply IsS46.drew | apply IsS46.set_0 | apply IsS46.set_1 | apply IsS46.set_2 | apply IsS46.set_3 | apply IsS46.set_4 | apply IsS46.set_5 | apply IsS46.set_6 | apply IsS46.set_7 | apply IsS46.set_8 | apply IsS46.set_9 | apply IsS46.set_10) | exact HI1.out), RQ HO0.out, by repeat (first | (with_reducible first | exact HB.out | apply below_alloc | apply pw_below_drewN | apply below_drew1 | refine below_set ?_ (IsS46.ge HI1.out)) | exact HB.out), by repeat (first | (with_reducible first | exact HK.out | apply Kept.alloc | apply Kept.drewN | apply Kept.drew | refine Kept.setCell ?_ (.inl (.inr rfl)) _) | exact HK.out)⟩
 subst c5
 have H1 : (some (s1_0, s1_1, s1_2, s1_3, 1, s1_5, s1_7, s1_7, s1_8, s1_9, s1_10, t132)) = some (r1, r2, r3, r4, r5, r6, r7, r8, r9, r10, r11, r12) := by rw [if_pos rfl] at H; exact H
 clear H
 have H := H1
 clear H1
 simp only [Option.some.injEq, Prod.mk.injEq] at H
 obtain ⟨rfl, rfl, rfl, rfl, rfl, rfl, rfl, rfl, rfl, rfl, rfl, rfl⟩ := H
 obtain ⟨HGz6, hgz6⟩ := HI1.out
 have hcz6_0 := cellS46_0 HGz6
 have hcz6_1 := cellS46_1 HGz6
 have hcz6_2 := cellS46_2 HGz6
 have hcz6_3 := cellS46_3 HGz6
 have hcz6_4 := cellS46_4 HGz6
 have hcz6_5 := cellS46_5 HGz6
 have hcz6_6 := cellS46_6 HGz6
 have hcz6_7 := cellS46_7 HGz6
 have hcz6_8 := cellS46_8 HGz6
 have hcz6_9 := cellS46_9 HGz6
 have hcz6_10 := cellS46_10 HGz6
 have hfz6_0 := blk_frozen HGz6 0
 have hfz6_1 := blk_frozen HGz6 1
 have hfz6_2 := blk_frozen HGz6 2
 have hfz6_3 := blk_frozen HGz6 3
 have hfz6_4 := blk_frozen HGz6 4
 have hfz6_5 := blk_frozen HGz6 5
 have hfz6_6 := blk_frozen HGz6 6
 have hfz6_7 := blk_frozen HGz6 7
 have hfz6_8 := blk_frozen HGz6 8
 have hfz6_9 := blk_frozen HGz6 9
 have hfz6_10 := blk_frozen HGz6 10
 clear HGz6 hgz6
 go_enter Try.func78, Try.ntmps78
 try go_wp2
 have n0_ : Aside0 (Kd.R (Kd.int .i64) 3 (w.setCell ⟨g, 4, none⟩ (.int .i64 0)) w0.heap.size (fun k_ => (P0_ k_ ∨ w.heap.size ≤ k_)) u9000_ l0) := ⟨by (with_reducible repeat (first | apply r1 | apply r2 | apply r3)); exact Kd.R_mono (Kd.R_far (p := ⟨g, 4, none⟩) (IsS46.apart HI1.out HO0.out (by decide)) (fun _ hk => hk.2) (.int .i64 0)) (fun _ hk => hk.1)⟩
 have n1_ : Aside0 (IsS46 w0 (w.setCell ⟨g, 4, none⟩ (.int .i64 0)) g s1_0 s1_1 s1_2 s1_3 0 s1_5 s1_6 s1_7 s1_8 s1_9 s1_10) := ⟨by repeat (first | (with_reducible first | exact HI1.out | apply IsS46.alloc | apply IsS46.drewN | apply IsS46.drew | apply IsS46.set_0 | apply IsS46.set_1 | apply IsS46.set_2 | apply IsS46.set_3 | apply IsS46.set_4 | apply IsS46.set_5 | apply IsS46.set_6 | apply IsS46.set_7 | apply IsS46.set_8 | apply IsS46.set_9 | apply IsS46.set_10) | exact HI1.out)⟩
 have n2_ : Aside0 (Kept w (w.setCell ⟨g, 4, none⟩ (.int .i64 0)) (fun k_ => (P0_ k_) ∨ k_ = g)) := ⟨by repeat (first | (with_reducible first | exact HK.out | apply Kept.alloc | apply Kept.drewN | apply Kept.drew | refine Kept.setCell ?_ (.inl (.inr rfl)) _) | exact HK.out)⟩
 have n3_ : Aside0 (Below w0.heap.size w0 (w.setCell ⟨g, 4, none⟩ (.int .i64 0))) := ⟨by repeat (first | (with_reducible first | exact HB.out | apply below_alloc | apply pw_below_drewN | apply below_drew1 | refine below_set ?_ (IsS46.ge HI1.out)) | exact HB.out)⟩
 (try clear HO0)
 (try clear HI1)
 (try clear HK)
 (try clear HB)
 generalize (w.setCell ⟨g, 4, none⟩ (.int .i64 0)) = w7 at n0_ n1_ n2_ n3_ ⊢
 have HO0 := n0_
 have HI1 := n1_
 have HK := n2_
 have HB := n3_
 clear n0_ n1_ n2_ n3_
 have n0_ := Aside0.mk (Kd.R_drew HO0.out)
 have n1_ := Aside0.mk (IsS46.drew HI1.out)
 have n2_ := Aside0.mk (Kept.drew HK.out)
 have n3_ := Aside0.mk (below_drew1 HB.out)
 clear HO0
 clear HI1
 clear HK
 clear HB
 have HO0 := n0_
 have HI1 := n1_
 have HK := n2_
 have HB := n3_
 clear n0_ n1_ n2_ n3_
 obtain ⟨Ao9, co9, eo9⟩ := Kd.R_slice HO0.out
 (first | subst eo9 | (injection eo9 with f1_ f2_ f3_; have f4_ := f1_.symm; have f5_ := f3_.symm; clear f1_ f2_ f3_; subst f4_; subst f5_))
 refine start_ (n := 16) (S := fun w' => w'.cell? ⟨g, 0, none⟩ = some (.int .i64 s1_0) ∧ w'.cell? ⟨g, 1, none⟩ = some (.int .i64 s1_1) ∧ w'.cell? ⟨g, 2, none⟩ = some (.int .i64 s1_2) ∧ w'.cell? ⟨g, 3, none⟩ = some (.int .i64 s1_3) ∧ w'.cell? ⟨g, 4, none⟩ = some (.int .i64 0) ∧ w'.cell? ⟨g, 5, none⟩ = some (.int .i64 s1_5) ∧ w'.cell? ⟨g, 6, none⟩ = some (.int .i64 s1_6) ∧ w'.cell? ⟨g, 7, none⟩ = some (.int .i64 s1_7) ∧ w'.cell? ⟨g, 8, none⟩ = some (.int .i64 s1_8) ∧ w'.cell? ⟨g, 9, none⟩ = some (.bool s1_9) ∧ w'.cell? ⟨g, 10, none⟩ = some (.int .i64 s1_10)) (ds := []) #[false, false, false, false, false, false, false, false, false, false, false, false, false, false, false, false] (by kernel_rfl) rfl rfl ⟨(blk_cell (Aside0.mk (HI1.out).1).out 0).trans rfl, (blk_cell (Aside0.mk (HI1.out).1).out 1).trans rfl, (blk_cell (Aside0.mk (HI1.out).1).out 2).trans rfl, (blk_cell (Aside0.mk (HI1.out).1).out 3).trans rfl, (blk_cell (Aside0.mk (HI1.out).1).out 4).trans rfl, (blk_cell (Aside0.mk (HI1.out).1).out 5).trans rfl, (blk_cell (Aside0.mk (HI1.out).1).out 6).trans rfl, (blk_cell (Aside0.mk (HI1.out).1).out 7).trans rfl, (blk_cell (Aside0.mk (HI1.out).1).out 8).trans rfl, (blk_cell (Aside0.mk (HI1.out).1).out 9).trans rfl, (blk_cell (Aside0.mk (HI1.out).1).out 10).trans rfl⟩ (fun hHeld => ?_); refine with_tabW spec_l06Look.tab2 spec_l06Look.bits2 (fun HT_ HW_ => ?_)
 generalize w7.drew = w8 at HO0 HI1 HK HB hHeld ⊢
 refine pV 0 12 (OB 16 1) ?_
 refine pV 1 13 (OB 16 3) ?_
 refine pV 2 14 (OB 16 7) ?_
 refine pV 3 15 (OB 16 15) ?_
 refine pV 5 17 (OB 16 47) ?_
 refine pV 6 18 (OB 16 111) ?_
 refine pV 7 19 (OB 16 239) ?_
 refine pV 10 22 (OB 16 1263) ?_
 refine pV 11 23 (OB 16 3311) ?_
 refine pV 12 24 (OB 16 7407) ?_
 refine take_ (i := 4) (N := some 16) (v := ?_) (a' := ?_) (OB 16 7423) rfl rfl (take_ofW HT_.out HW_.out (by kernel_rfl)) (fun _ _ _ h => h) (Or.inl ⟨by rfl, ?_⟩) hHeld ?_ ?_
 rotate_left
 ·
  rintro w' ⟨s0, s1, s2, s3, s4, s5, s6, s7, s8, s9, s10⟩
  go_simp
  with_reducible rfl
 rotate_left
 ·
  simp only [Act.put, zA, zB, zC, i64_w, i32_w]
  rfl
 refine take_ (i := 8) (N := some 20) (v := ?_) (a' := ?_) (OB 16 7679) rfl rfl (take_ofW HT_.out HW_.out (by kernel_rfl)) (fun _ _ _ h => h) (Or.inl ⟨by rfl, ?_⟩) hHeld ?_ ?_
 rotate_left
 ·
  rintro w' ⟨s0, s1, s2, s3, s4, s5, s6, s7, s8, s9, s10⟩
  go_simp
  with_reducible rfl
 rotate_left
 ·
  simp only [Act.put, zA, zB, zC, i64_w, i32_w]
  rfl
 refine pV 9 21 (OB 16 8191) ?_
 refine take_ (i := 13) (N := some 25) (v := ?_) (a' := ?_) (OB 16 16383) rfl rfl (take_ofW HT_.out HW_.out (by kernel_rfl)) (fun _ _ _ h => h) (Or.inl ⟨by rfl, ?_⟩) hHeld ?_ ?_
 rotate_left
 ·
  rintro w' ⟨s0, s1, s2, s3, s4, s5, s6, s7, s8, s9, s10⟩
  go_simp
  with_reducible rfl
 rotate_left
 ·
  simp only [Act.put, zA, zB, zC, i64_w, i32_w]
  rfl
 refine pV 14 26 (OB 16 32767) ?_
 refine one_ (i := 15) (N := some 27) (OB 16 65535) rfl rfl (one_of HT_.out (by kernel_rfl)) (by decide) (fun K hK => ?_)
 refine goes_ Try.func80 (by kernel_rfl) rfl #[.slice Ao9 l0.length co9, .int .i64 s1_5, .int .i64 (wrap64 (2 * s1_6)), .int .i64 (wrap64 (2 * s1_7))] (by rfl) rfl rfl (MA) ?_
 with_reducible refine (spec_l06Swap.calls (fun k_ => some k_ = (.slice Ao9 l0.length co9 : Value).ownBlock) (.slice Ao9 l0.length co9) l0 s1_5 (wrap64 (2 * s1_6)) (wrap64 (2 * s1_7)) true t132 w0 _ ?side1 ?side2 A4.out).mono ?_
 (case side1 => repeat (first | (with_reducible first | exact HB.out | apply below_alloc | apply pw_below_drewN | apply below_drew1 | refine below_set ?_ (IsS46.ge HI1.out)) | exact HB.out))
 (case side2 => exact Kd.R_tight rfl HO0.out)
 rintro e w10 ⟨rfl, hy0, hb, hkp⟩
 refine ⟨_, rfl, ?_⟩
 have n0_ := Aside0.mk (IsS46.kept (by repeat (first | (with_reducible first | exact HI1.out | apply IsS46.alloc | apply IsS46.drewN | apply IsS46.drew | apply IsS46.set_0 | apply IsS46.set_1 | apply IsS46.set_2 | apply IsS46.set_3 | apply IsS46.set_4 | apply IsS46.set_5 | apply IsS46.set_6 | apply IsS46.set_7 | apply IsS46.set_8 | apply IsS46.set_9 | apply IsS46.set_10) | exact HI1.out)) hkp (fun hs_ => (fun e_ => (IsS46.own_ne HI1.out HO0.out (by decide)) e_) hs_))
 have n1_ := Aside0.mk (Kd.R_reok rfl hy0 (fun k_ e_ => HO0.out.1 k_ e_))
 have n2_ := Aside0.mk (Kept.then_ (S := (fun k_ => (P0_ k_) ∨ k_ = g)) (by repeat (first | (with_reducible first | exact HK.out | apply Kept.alloc | apply Kept.drewN | apply Kept.drew | refine Kept.setCell ?_ (.inl (.inr rfl)) _) | exact HK.out)) hkp (fun k_ hs_ => (fun e_ => Or.imp_left Or.inl ((HO0.out.1 k_ e_.symm))) hs_))
 have n3_ := Aside0.mk (hb)
 clear HI1
 clear HO0
 clear HK
 clear HB
 have HI1 := n0_
 have HO0 := n1_
 have HK := n2_
 have HB := n3_
 clear n0_ n1_ n2_ n3_
 (try clear hb)
 (try clear hkp)
 (try clear hy0)
 refine hK.out _ _ ⟨(blk_cell (Aside0.mk (HI1.out).1).out 0).trans rfl, (blk_cell (Aside0.mk (HI1.out).1).out 1).trans rfl, (blk_cell (Aside0.mk (HI1.out).1).out 2).trans rfl, (blk_cell (Aside0.mk (HI1.out).1).out 3).trans rfl, (blk_cell (Aside0.mk (HI1.out).1).out 4).trans rfl, (blk_cell (Aside0.mk (HI1.out).1).out 5).trans rfl, (blk_cell (Aside0.mk (HI1.out).1).out 6).trans rfl, (blk_cell (Aside0.mk (HI1.out).1).out 7).trans rfl, (blk_cell (Aside0.mk (HI1.out).1).out 8).trans rfl, (blk_cell (Aside0.mk (HI1.out).1).out 9).trans rfl, (blk_cell (Aside0.mk (HI1.out).1).out 10).trans rfl⟩ (fun hHeld => ?_)
 clear hK K
 refine norm_ (a' := ?_) ?_ ?_
 rotate_left
 ·
  show Act.put _ (some 27) _ = _
  simp only [Act.put, zA, zB, zC, i64_w, i32_w]
  rfl
 refine done_ (done_of HT_.out (by kernel_rfl)) ?_
 obtain ⟨HGz11, hgz11⟩ := HI1.out
 have hcz11_0 := cellS46_0 HGz11
 have hcz11_1 := cellS46_1 HGz11
 have hcz11_2 := cellS46_2 HGz11
 have hcz11_3 := cellS46_3 HGz11
 have hcz11_4 := cellS46_4 HGz11
 have hcz11_5 := cellS46_5 HGz11
 have hcz11_6 := cellS46_6 HGz11
 have hcz11_7 := cellS46_7 HGz11
 have hcz11_8 := cellS46_8 HGz11
 have hcz11_9 := cellS46_9 HGz11
 have hcz11_10 := cellS46_10 HGz11
 have hfz11_0 := blk_frozen HGz11 0
 have hfz11_1 := blk_frozen HGz11 1
 have hfz11_2 := blk_frozen HGz11 2
 have hfz11_3 := blk_frozen HGz11 3
 have hfz11_4 := blk_frozen HGz11 4
 have hfz11_5 := blk_frozen HGz11 5
 have hfz11_6 := blk_frozen HGz11 6
 have hfz11_7 := blk_frozen HGz11 7
 have hfz11_8 := blk_frozen HGz11 8
 have hfz11_9 := blk_frozen HGz11 9
 have hfz11_10 := blk_frozen HGz11 10
 clear HGz11 hgz11
 try go_wp2
 first | go_end0 | ((try simp only [Exit.inBlock, Exit.then]); refine bodyPost_ret (results_none rfl _ _ _) rfl ?_)
 exact ⟨EE, by repeat (first | (with_reducible first | exact HI1.out | apply IsS46.alloc | apply IsS46.drewN | apply IsS46.drew | apply IsS46.set_0 | apply IsS46.set_1 | apply IsS46.set_2 | apply IsS46.set_3 | apply IsS46.set_4 | apply IsS46.set_5 | apply IsS46.set_6 | apply IsS46.set_7 | apply IsS46.set_8 | apply IsS46.set_9 | apply IsS46.set_10) | exact HI1.out), by (with_reducible repeat (first | apply r1 | apply r2 | apply r3)); exact Kd.R_mono (Kd.R_far (p := ⟨g, 4, none⟩) (Kd.R_far (p := ⟨g, 6, none⟩) (IsS46.apart HI1.out HO0.out (by decide)) (fun _ hk => hk.2) (.int .i64 s1_7)) (fun _ hk => hk.2) (.int .i64 1)) (fun _ hk => hk.1), by repeat (first | (with_reducible first | exact HB.out | apply below_alloc | apply pw_below_drewN | apply below_drew1 | refine below_set ?_ (IsS46.ge HI1.out)) | exact HB.out), by repeat (first | (with_reducible first | exact HK.out | apply Kept.alloc | apply Kept.drewN | apply Kept.drew | refine Kept.setCell ?_ (.inl (.inr rfl)) _) | exact HK.out)⟩

/-! ### spec_l06Found: function 79 -/
def spec_l06Found.f (l0 : List Int) (s1_0 : Int) (s1_1 : Int) (s1_2 : Int) (s1_3 : Int) (s1_4 : Int) (s1_5 : Int) (s1_6 : Int) (s1_7 : Int) (s1_8 : Int) (s1_9 : Bool) (s1_10 : Int) : Option (Int × Int × Int × Int × Int × Int × Int × Int × Int × Bool × Int × List Int) := if 0 ≤ (wrap64 (3 * s1_6)) then (if (wrap64 (3 * s1_6)) < (l0.length : Int) then (if (rd l0 (wrap64 (3 * s1_6))) = s1_1 then (if s1_0 = 1 then (if 0 ≤ (wrap64 ((wrap64 (3 * s1_6)) + 1)) then (if (wrap64 ((wrap64 (3 * s1_6)) + 1)) < (l0.length : Int) then (some (s1_0, s1_1, s1_2, s1_3, s1_4, s1_5, s1_6, s1_7, s1_8, true, wrap64 ((rd l0 (wrap64 ((wrap64 (3 * s1_6)) + 1))) + 1), l0)) else (none)) else (none)) else (if s1_0 = 2 then (some (s1_0, s1_1, s1_2, s1_3, s1_4, s1_5, s1_6, s1_7, s1_8, true, 0, l0)) else (some (s1_0, s1_1, s1_2, s1_3, 5, s1_5, s1_6, s1_7, s1_8, s1_9, s1_10, l0)))) else ((spec_l06Nobody.f l0 s1_0 s1_1 s1_2 s1_3 s1_4 s1_5 s1_6 s1_7 s1_8 s1_9 s1_10).bind fun bt135 => (some (bt135.1, bt135.2.1, bt135.2.2.1, bt135.2.2.2.1, bt135.2.2.2.2.1, bt135.2.2.2.2.2.1, bt135.2.2.2.2.2.2.1, bt135.2.2.2.2.2.2.2.1, bt135.2.2.2.2.2.2.2.2.1, bt135.2.2.2.2.2.2.2.2.2.1, bt135.2.2.2.2.2.2.2.2.2.2.1, bt135.2.2.2.2.2.2.2.2.2.2.2)))) else (none)) else (none)
set_option maxHeartbeats 8000000 in
set_option maxRecDepth 100000 in
theorem spec_l06Found.calls (P0_ : Nat → Prop) (u9000_ : Value) (l0 : List Int) (g : Nat) (s1_0 : Int) (s1_1 : Int) (s1_2 : Int) (s1_3 : Int) (s1_4 : Int) (s1_5 : Int) (s1_6 : Int) (s1_7 : Int) (s1_8 : Int) (s1_9 : Bool) (s1_10 : Int) (r1 : Int) (r2 : Int) (r3 : Int) (r4 : Int) (r5 : Int) (r6 : Int) (r7 : Int) (r8 : Int) (r9 : Int) (r10 : Bool) (r11 : Int) (r12 : List Int) (w0 w : World) (hI : IsS46 w0 w g s1_0 s1_1 s1_2 s1_3 s1_4 s1_5 s1_6 s1_7 s1_8 s1_9 s1_10) (hB : Below w0.heap.size w0 w) (ho0 : Kd.R (Kd.int .i64) 3 w w0.heap.size P0_ u9000_ l0) (h : spec_l06Found.f l0 s1_0 s1_1 s1_2 s1_3 s1_4 s1_5 s1_6 s1_7 s1_8 s1_9 s1_10 = some (r1, r2, r3, r4, r5, r6, r7, r8, r9, r10, r11, r12)) :
  Calls Try.prog 79 #[u9000_, .pointer (some ⟨g, 0, none⟩)] w fun e w' => e = .returned (.tuple #[]) ∧ IsS46 w0 w' g r1 r2 r3 r4 r5 r6 r7 r8 r9 r10 r11 ∧ Kd.R (Kd.int .i64) 3 w' w0.heap.size (fun k_ => (P0_ k_ ∨ w.heap.size ≤ k_)) u9000_ r12 ∧ Below w0.heap.size w0 w' ∧ Kept w w' (fun k_ => (P0_ k_) ∨ k_ = g) := by
 have HO0 := Aside0.mk (show Kd.R (Kd.int .i64) 3 w w0.heap.size (fun k_ => (P0_ k_ ∨ w.heap.size ≤ k_)) u9000_ l0 from Kd.R_mono ho0 (fun k_ hk => (.inl hk)))
 have HI1 := Aside0.mk hI
 have HL := Aside0.mk hB.size
 clear hI
 have HK := Aside0.mk (Kept.refl w (fun k_ => (P0_ k_) ∨ k_ = g))
 have HW0 := Aside0.mk hB.size
 have HB := Aside0.mk hB
 clear hB
 have H : (if 0 ≤ (wrap64 (3 * s1_6)) then (if (wrap64 (3 * s1_6)) < (l0.length : Int) then (if (rd l0 (wrap64 (3 * s1_6))) = s1_1 then (if s1_0 = 1 then (if 0 ≤ (wrap64 ((wrap64 (3 * s1_6)) + 1)) then (if (wrap64 ((wrap64 (3 * s1_6)) + 1)) < (l0.length : Int) then (some (s1_0, s1_1, s1_2, s1_3, s1_4, s1_5, s1_6, s1_7, s1_8, true, wrap64 ((rd l0 (wrap64 ((wrap64 (3 * s1_6)) + 1))) + 1), l0)) else (none)) else (none)) else (if s1_0 = 2 then (some (s1_0, s1_1, s1_2, s1_3, s1_4, s1_5, s1_6, s1_7, s1_8, true, 0, l0)) else (some (s1_0, s1_1, s1_2, s1_3, 5, s1_5, s1_6, s1_7, s1_8, s1_9, s1_10, l0)))) else ((spec_l06Nobody.f l0 s1_0 s1_1 s1_2 s1_3 s1_4 s1_5 s1_6 s1_7 s1_8 s1_9 s1_10).bind fun bt135 => (some (bt135.1, bt135.2.1, bt135.2.2.1, bt135.2.2.2.1, bt135.2.2.2.2.1, bt135.2.2.2.2.2.1, bt135.2.2.2.2.2.2.1, bt135.2.2.2.2.2.2.2.1, bt135.2.2.2.2.2.2.2.2.1, bt135.2.2.2.2.2.2.2.2.2.1, bt135.2.2.2.2.2.2.2.2.2.2.1, bt135.2.2.2.2.2.2.2.2.2.2.2)))) else (none)) else (none)) = some (r1, r2, r3, r4, r5, r6, r7, r8, r9, r10, r11, r12) := h
 clear h
 obtain ⟨ji3, hji3⟩ : ∃ j_ : Int, (wrap64 (3 * s1_6)) = j_ := ⟨_, rfl⟩
 replace H : (if 0 ≤ (ji3) then (if (ji3) < (l0.length : Int) then (if (rd l0 (ji3)) = s1_1 then (if s1_0 = 1 then (if 0 ≤ (wrap64 ((ji3) + 1)) then (if (wrap64 ((ji3) + 1)) < (l0.length : Int) then (some (s1_0, s1_1, s1_2, s1_3, s1_4, s1_5, s1_6, s1_7, s1_8, true, wrap64 ((rd l0 (wrap64 ((ji3) + 1))) + 1), l0)) else (none)) else (none)) else (if s1_0 = 2 then (some (s1_0, s1_1, s1_2, s1_3, s1_4, s1_5, s1_6, s1_7, s1_8, true, 0, l0)) else (some (s1_0, s1_1, s1_2, s1_3, 5, s1_5, s1_6, s1_7, s1_8, s1_9, s1_10, l0)))) else ((spec_l06Nobody.f l0 s1_0 s1_1 s1_2 s1_3 s1_4 s1_5 s1_6 s1_7 s1_8 s1_9 s1_10).bind fun bt135 => (some (bt135.1, bt135.2.1, bt135.2.2.1, bt135.2.2.2.1, bt135.2.2.2.2.1, bt135.2.2.2.2.2.1, bt135.2.2.2.2.2.2.1, bt135.2.2.2.2.2.2.2.1, bt135.2.2.2.2.2.2.2.2.1, bt135.2.2.2.2.2.2.2.2.2.1, bt135.2.2.2.2.2.2.2.2.2.2.1, bt135.2.2.2.2.2.2.2.2.2.2.2)))) else (none)) else (none)) = some (r1, r2, r3, r4, r5, r6, r7, r8, r9, r10, r11, r12) := by first | (rw [hji3] at H; exact H) | (simp only [hji3] at H ⊢; exact H)
 have hji3w : (IntKind.i64.wrap (3 * s1_6)) = ji3 := (i64_w _).trans hji3
 by_cases c4 : 0 ≤ (ji3); rotate_left
 ·
  rw [if_neg c4] at H
  exact absurd H (by simp)
 rw [if_pos c4] at H
 have c4b0 : decide (0 ≤ (ji3)) = true := decide_eq_true c4
 clear c4
 by_cases c5 : (ji3) < (l0.length : Int); rotate_left
 ·
  rw [if_neg c5] at H
  exact absurd H (by simp)
 rw [if_pos c5] at H
 have c5b0 : decide ((ji3) < (l0.length : Int)) = true := decide_eq_true c5
 clear c5
 by_cases c6 : (rd l0 (ji3)) = s1_1; rotate_left
 ·
  rw [if_neg c6] at H
  have c6b0 : ((rd l0 (ji3)) == s1_1) = false := beq_eq_false_iff_ne.mpr c6
  have c6b1 : ((rd l0 (ji3)) != s1_1) = true := bne_iff_ne.mpr c6
  replace H := Option.bind_eq_some_iff.mp H
  obtain ⟨⟨t135, t136, t137, t138, t139, t140, t141, t142, t143, t144, t145, t146⟩, A180, H⟩ := H
  replace H : (some (t135, t136, t137, t138, t139, t140, t141, t142, t143, t144, t145, t146)) = some (r1, r2, r3, r4, r5, r6, r7, r8, r9, r10, r11, r12) := H
  have A18 := Aside0.mk A180
  clear A180
  simp only [Option.some.injEq, Prod.mk.injEq] at H
  obtain ⟨rfl, rfl, rfl, rfl, rfl, rfl, rfl, rfl, rfl, rfl, rfl, rfl⟩ := H
  obtain ⟨HGz19, hgz19⟩ := HI1.out
  have hcz19_0 := cellS46_0 HGz19
  have hcz19_1 := cellS46_1 HGz19
  have hcz19_2 := cellS46_2 HGz19
  have hcz19_3 := cellS46_3 HGz19
  have hcz19_4 := cellS46_4 HGz19
  have hcz19_5 := cellS46_5 HGz19
  have hcz19_6 := cellS46_6 HGz19
  have hcz19_7 := cellS46_7 HGz19
  have hcz19_8 := cellS46_8 HGz19
  have hcz19_9 := cellS46_9 HGz19
  have hcz19_10 := cellS46_10 HGz19
  have hfz19_0 := blk_frozen HGz19 0
  have hfz19_1 := blk_frozen HGz19 1
  have hfz19_2 := blk_frozen HGz19 2
  have hfz19_3 := blk_frozen HGz19 3
  have hfz19_4 := blk_frozen HGz19 4
  have hfz19_5 := blk_frozen HGz19 5
  have hfz19_6 := blk_frozen HGz19 6
  have hfz19_7 := blk_frozen HGz19 7
  have hfz19_8 := blk_frozen HGz19 8
  have hfz19_9 := blk_frozen HGz19 9
  have hfz19_10 := blk_frozen HGz19 10
  clear HGz19 hgz19
  obtain ⟨Ao20, co20, eo20⟩ := Kd.R_slice HO0.out
  subst eo20
  have p134 : 0 ≤ ((ji3) : Int) := of_decide_eq_true AS
  have q134 : (ji3) < (l0.length : Int) := of_decide_eq_true AS
  obtain ⟨ad134, e134, hx134_0⟩ := Kd.at_int (Kd.R_reads' HO0.out).2.2 (ji3) p134 q134
  cases e134
  replace p134 := eq_true p134
  replace q134 := eq_true q134
  go_enter Try.func79, Try.ntmps79
  go_wp2_with (first | (go_at_call 77; (with_reducible refine (spec_l06Nobody.calls (fun k_ => some k_ = (.slice (some ad134) l0.length co20 : Value).ownBlock) (.slice (some ad134) l0.length co20) l0 g s1_0 s1_1 s1_2 s1_3 s1_4 s1_5 s1_6 s1_7 s1_8 s1_9 s1_10 t135 t136 t137 t138 t139 t140 t141 t142 t143 t144 t145 t146 w0 _ ?side1 ?side2 ?side3 A18.out).mono ?_); (case side1 => repeat (first | (with_reducible first | exact HI1.out | apply IsS46.alloc | apply IsS46.drewN | apply IsS46.drew | apply IsS46.set_0 | apply IsS46.set_1 | apply IsS46.set_2 | apply IsS46.set_3 | apply IsS46.set_4 | apply IsS46.set_5 | apply IsS46.set_6 | apply IsS46.set_7 | apply IsS46.set_8 | apply IsS46.set_9 | apply IsS46.set_10) | exact HI1.out)); (case side2 => repeat (first | (with_reducible first | exact HB.out | apply below_alloc | apply pw_below_drewN | apply below_drew1 | refine below_set ?_ (IsS46.ge HI1.out)) | exact HB.out)); (case side3 => exact Kd.R_tight rfl HO0.out); rintro e w21 ⟨rfl, hi, hy0, hb, hkp⟩; replace HI1 := Aside0.mk (hi); replace HK := Aside0.mk (Kept.then_ (S := (fun k_ => (P0_ k_) ∨ k_ = g)) (by repeat (first | (with_reducible first | exact HK.out | apply Kept.alloc | apply Kept.drewN | apply Kept.drew | refine Kept.setCell ?_ (.inl (.inr rfl)) _) | exact HK.out)) hkp (fun k_ hs_ => Or.elim hs_ (fun hs_ => (fun e_ => Or.imp_left Or.inl ((HO0.out.1 k_ e_.symm))) hs_) (fun e_ => .inl (.inr e_)))); replace HO0 := Aside0.mk (Kd.R_reok rfl hy0 (fun k_ e_ => HO0.out.1 k_ e_)); replace HB := Aside0.mk (hb); (try clear hb); (try clear hkp); (try clear hy0)))
  repeat (go_quiet (first | (go_at_call 77; (with_reducible refine (spec_l06Nobody.calls (fun k_ => some k_ = (.slice (some ad134) l0.length co20 : Value).ownBlock) (.slice (some ad134) l0.length co20) l0 g s1_0 s1_1 s1_2 s1_3 s1_4 s1_5 s1_6 s1_7 s1_8 s1_9 s1_10 t135 t136 t137 t138 t139 t140 t141 t142 t143 t144 t145 t146 w0 _ ?side1 ?side2 ?side3 A18.out).mono ?_); (case side1 => repeat (first | (with_reducible first | exact HI1.out | apply IsS46.alloc | apply IsS46.drewN | apply IsS46.drew | apply IsS46.set_0 | apply IsS46.set_1 | apply IsS46.set_2 | apply IsS46.set_3 | apply IsS46.set_4 | apply IsS46.set_5 | apply IsS46.set_6 | apply IsS46.set_7 | apply IsS46.set_8 | apply IsS46.set_9 | apply IsS46.set_10) | exact HI1.out)); (case side2 => repeat (first | (with_reducible first | exact HB.out | apply below_alloc | apply pw_below_drewN | apply below_drew1 | refine below_set ?_ (IsS46.ge HI1.out)) | exact HB.out)); (case side3 => exact Kd.R_tight rfl HO0.out); rintro e w21 ⟨rfl, hi, hy0, hb, hkp⟩; replace HI1 := Aside0.mk (hi); replace HK := Aside0.mk (Kept.then_ (S := (fun k_ => (P0_ k_) ∨ k_ = g)) (by repeat (first | (with_reducible first | exact HK.out | apply Kept.alloc | apply Kept.drewN | apply Kept.drew | refine Kept.setCell ?_ (.inl (.inr rfl)) _) | exact HK.out)) hkp (fun k_ hs_ => Or.elim hs_ (fun hs_ => (fun e_ => Or.imp_left Or.inl ((HO0.out.1 k_ e_.symm))) hs_) (fun e_ => .inl (.inr e_)))); replace HO0 := Aside0.mk (Kd.R_reok rfl hy0 (fun k_ e_ => HO0.out.1 k_ e_)); replace HB := Aside0.mk (hb); (try clear hb); (try clear hkp); (try clear hy0))); try go_wp2_with (first | (go_at_call 77; (with_reducible refine (spec_l06Nobody.calls (fun k_ => some k_ = (.slice (some ad134) l0.length co20 : Value).ownBlock) (.slice (some ad134) l0.length co20) l0 g s1_0 s1_1 s1_2 s1_3 s1_4 s1_5 s1_6 s1_7 s1_8 s1_9 s1_10 t135 t136 t137 t138 t139 t140 t141 t142 t143 t144 t145 t146 w0 _ ?side1 ?side2 ?side3 A18.out).mono ?_); (case side1 => repeat (first | (with_reducible first | exact HI1.out | apply IsS46.alloc | apply IsS46.drewN | apply IsS46.drew | apply IsS46.set_0 | apply IsS46.set_1 | apply IsS46.set_2 | apply IsS46.set_3 | apply IsS46.set_4 | apply IsS46.set_5 | apply IsS46.set_6 | apply IsS46.set_7 | apply IsS46.set_8 | apply IsS46.set_9 | apply IsS46.set_10) | exact HI1.out)); (case side2 => repeat (first | (with_reducible first | exact HB.out | apply below_alloc | apply pw_below_drewN | apply below_drew1 | refine below_set ?_ (IsS46.ge HI1.out)) | exact HB.out)); (case side3 => exact Kd.R_tight rfl HO0.out); rintro e w21 ⟨rfl, hi, hy0, hb, hkp⟩; replace HI1 := Aside0.mk (hi); replace HK := Aside0.mk (Kept.then_ (S := (fun k_ => (P0_ k_) ∨ k_ = g)) (by repeat (first | (with_reducible first | exact HK.out | apply Kept.alloc | apply Kept.drewN | apply Kept.drew | refine Kept.setCell ?_ (.inl (.inr rfl)) _) | exact HK.out)) hkp (fun k_ hs_ => Or.elim hs_ (fun hs_ => (fun e_ => Or.imp_left Or.inl ((HO0.out.1 k_ e_.symm))) hs_) (fun e_ => .inl (.inr e_)))); replace HO0 := Aside0.mk (Kd.R_reok rfl hy0 (fun k_ e_ => HO0.out.1 k_ e_)); replace HB := Aside0.mk (hb); (try clear hb); (try clear hkp); (try clear hy0))))
  first | go_end0 | ((try simp only [Exit.inBlock, Exit.then]); refine bodyPost_ret (results_none rfl _ _ _) rfl ?_)
  exact ⟨by first | rfl | (simp [errW_none, errW_some] <;> rfl) | (simp only [← hji3]; first | rfl | (simp [errW_none, errW_some] <;> rfl)) | (simp [*, errW_none, errW_some] <;> rfl), by repeat (first | (with_reducible first | exact HI1.out | apply IsS46.alloc | apply IsS46.drewN | apply IsS46.drew | apply IsS46.set_0 | apply IsS46.set_1 | apply IsS46.set_2 | apply IsS46.set_3 | apply IsS46.set_4 | apply IsS46.set_5 | apply IsS46.set_6 | apply IsS46.set_7 | apply IsS46.set_8 | apply IsS46.set_9 | apply IsS46.set_10) | exact HI1.out), RQ HO0.out, by repeat (first | (with_reducible first | exact HB.out | apply below_alloc | apply pw_below_drewN | apply below_drew1 | refine below_set ?_ (IsS46.ge HI1.out)) | exact HB.out), by repeat (first | (with_reducible first | exact HK.out | apply Kept.alloc | apply Kept.drewN | apply Kept.drew | refine Kept.setCell ?_ (.inl (.inr rfl)) _) | exact HK.out)⟩
 rw [if_pos c6] at H
 have c6b0 : ((rd l0 (ji3)) == s1_1) = true := beq_iff_eq.mpr c6
 have c6b1 : ((rd l0 (ji3)) != s1_1) = false := bne_eq_false_iff_eq.mpr c6
 clear c6
 by_cases c7 : s1_0 = 1
 ·
  rw [if_pos c7] at H
  have c7b0 : (s1_0 == 1) = true := beq_iff_eq.mpr c7
  have c7b1 : (s1_0 != 1) = false := bne_eq_false_iff_eq.mpr c7
  clear c7
  obtain ⟨ji8, hji8⟩ : ∃ j_ : Int, (wrap64 ((ji3) + 1)) = j_ := ⟨_, rfl⟩
  replace H : (if 0 ≤ (ji8) then (if (ji8) < (l0.length : Int) then (some (s1_0, s1_1, s1_2, s1_3, s1_4, s1_5, s1_6, s1_7, s1_8, true, wrap64 ((rd l0 (ji8)) + 1), l0)) else (none)) else (none)) = some (r1, r2, r3, r4, r5, r6, r7, r8, r9, r10, r11, r12) := by first | (rw [hji8] at H; exact H) | (simp only [hji8] at H ⊢; exact H)
  have hji8w : (IntKind.i64.wrap ((ji3) + 1)) = ji8 := (i64_w _).trans hji8
  by_cases c9 : 0 ≤ (ji8); rotate_left
  ·
   rw [if_neg c9] at H
   exact absurd H (by simp)
  rw [if_pos c9] at H
  have c9b0 : decide (0 ≤ (ji8)) = true := decide_eq_true c9
  clear c9
  by_cases c10 : (ji8) < (l0.length : Int); rotate_left
  ·
   rw [if_neg c10] at H
   exact absurd H (by simp)
  rw [if_pos c10] at H
  have c10b0 : decide ((ji8) < (l0.length : Int)) = true := decide_eq_true c10
  clear c10
  simp only [Option.some.injEq, Prod.mk.injEq] at H
  obtain ⟨rfl, rfl, rfl, rfl, rfl, rfl, rfl, rfl, rfl, rfl, rfl, rfl⟩ := H
  obtain ⟨HGz11, hgz11⟩ := HI1.out
  have hcz11_0 := cellS46_0 HGz11
  have hcz11_1 := cellS46_1 HGz11
  have hcz11_2 := cellS46_2 HGz11
  have hcz11_3 := cellS46_3 HGz11
  have hcz11_4 := cellS46_4 HGz11
  have hcz11_5 := cellS46_5 HGz11
  have hcz11_6 := cellS46_6 HGz11
  have hcz11_7 := cellS46_7 HGz11
  have hcz11_8 := cellS46_8 HGz11
  have hcz11_9 := cellS46_9 HGz11
  have hcz11_10 := cellS46_10 HGz11
  have hfz11_0 := blk_frozen HGz11 0
  have hfz11_1 := blk_frozen HGz11 1
  have hfz11_2 := blk_frozen HGz11 2
  have hfz11_3 := blk_frozen HGz11 3
  have hfz11_4 := blk_frozen HGz11 4
  have hfz11_5 := blk_frozen HGz11 5
  have hfz11_6 := blk_frozen HGz11 6
  have hfz11_7 := blk_frozen HGz11 7
  have hfz11_8 := blk_frozen HGz11 8
  have hfz11_9 := blk_frozen HGz11 9
  have hfz11_10 := blk_frozen HGz11 10
  clear HGz11 hgz11
  obtain ⟨Ao12, co12, eo12⟩ := Kd.R_slice HO0.out
  subst eo12
  have p134 : 0 ≤ ((ji3) : Int) := of_decide_eq_true AS
  have q134 : (ji3) < (l0.length : Int) := of_decide_eq_true AS
  obtain ⟨ad134, e134, hx134_0⟩ := Kd.at_int (Kd.R_reads' HO0.out).2.2 (ji3) p134 q134
  cases e134
  replace p134 := eq_true p134
  replace q134 := eq_true q134
  have p147 : 0 ≤ ((ji8) : Int) := of_decide_eq_true AS
  have q147 : (ji8) < (l0.length : Int) := of_decide_eq_true AS
  obtain ⟨ad147, e147, hx147_0⟩ := Kd.at_int (Kd.R_reads' HO0.out).2.2 (ji8) p147 q147
  obtain rfl : ad134 = ad147 := (by injection e147)
  have hn147_0 : ad134.block ≠ g := Kd.own_blk (IsS46.own_ne HI1.out HO0.out (by decide))
  replace hx147_0 := (cell_far (p := ⟨g, 9, none⟩) (by first | (rw [add_block]; exact hn147_0) | (show (Addr.add _ _).block ≠ _; rw [add_block]; exact hn147_0) | exact hn147_0) (.bool true)).trans hx147_0
  (try have hy147_0 := fun (n_ : Nat) => (show (((w.drewN n_).setCell ⟨g, 9, none⟩ (.bool true))).cell? _ = some _ from hx147_0))
  clear hn147_0
  replace p147 := eq_true p147
  replace q147 := eq_true q147
  go_enter Try.func79, Try.ntmps79
  go_wp2
  repeat (go_quiet (fail); try go_wp2)
  first | go_end0 | ((try simp only [Exit.inBlock, Exit.then]); refine bodyPost_ret (results_none rfl _ _ _) rfl ?_)
  exact ⟨by first | rfl | (simp [errW_none, errW_some] <;> rfl) | (simp only [← hji3, ← hji8]; first | rfl | (simp [errW_none, errW_some] <;> rfl)) | (simp [*, errW_none, errW_some] <;> rfl), by repeat (first | (with_reducible first | exact HI1.out | apply IsS46.alloc | apply IsS46.drewN | apply IsS46.drew | apply IsS46.set_0 | apply IsS46.set_1 | apply IsS46.set_2 | apply IsS46.set_3 | apply IsS46.set_4 | apply IsS46.set_5 | apply IsS46.set_6 | apply IsS46.set_7 | apply IsS46.set_8 | apply IsS46.set_9 | apply IsS46.set_10) | exact HI1.out), by (with_reducible repeat (first | apply r1 | apply r2 | apply r3)); exact Kd.R_mono (Kd.R_far (p := ⟨g, 10, none⟩) (Kd.R_far (p := ⟨g, 9, none⟩) (IsS46.apart HI1.out HO0.out (by decide)) (fun _ hk => hk.2) (.bool true)) (fun _ hk => hk.2) (.int .i64 (wrap64 ((rd l0 (ji8)) + 1)))) (fun _ hk => hk.1), by repeat (first | (with_reducible first | exact HB.out | apply below_alloc | apply pw_below_drewN | apply below_drew1 | refine below_set ?_ (IsS46.ge HI1.out)) | exact HB.out), by repeat (first | (with_reducible first | exact HK.out | apply Kept.alloc | apply Kept.drewN | apply Kept.drew | refine Kept.setCell ?_ (.inl (.inr rfl)) _) | exact HK.out)⟩
 rw [if_neg c7] at H
 have c7b0 : (s1_0 == 1) = false := beq_eq_false_iff_ne.mpr c7
 have c7b1 : (s1_0 != 1) = true := bne_iff_ne.mpr c7
 by_cases c13 : s1_0 = 2; rotate_left
 ·
  rw [if_neg c13] at H
  have c13b0 : (s1_0 == 2) = false := beq_eq_false_iff_ne.mpr c13
  have c13b1 : (s1_0 != 2) = true := bne_iff_ne.mpr c13
  simp only [Option.some.injEq, Prod.mk.injEq] at H
  obtain ⟨rfl, rfl, rfl, rfl, rfl, rfl, rfl, rfl, rfl, rfl, rfl, rfl⟩ := H
  obtain ⟨HGz16, hgz16⟩ := HI1.out
  have hcz16_0 := cellS46_0 HGz16
  have hcz16_1 := cellS46_1 HGz16
  have hcz16_2 := cellS46_2 HGz16
  have hcz16_3 := cellS46_3 HGz16
  have hcz16_4 := cellS46_4 HGz16
  have hcz16_5 := cellS46_5 HGz16
  have hcz16_6 := cellS46_6 HGz16
  have hcz16_7 := cellS46_7 HGz16
  have hcz16_8 := cellS46_8 HGz16
  have hcz16_9 := cellS46_9 HGz16
  have hcz16_10 := cellS46_10 HGz16
  have hfz16_0 := blk_frozen HGz16 0
  have hfz16_1 := blk_frozen HGz16 1
  have hfz16_2 := blk_frozen HGz16 2
  have hfz16_3 := blk_frozen HGz16 3
  have hfz16_4 := blk_frozen HGz16 4
  have hfz16_5 := blk_frozen HGz16 5
  have hfz16_6 := blk_frozen HGz16 6
  have hfz16_7 := blk_frozen HGz16 7
  have hfz16_8 := blk_frozen HGz16 8
  have hfz16_9 := blk_frozen HGz16 9
  have hfz16_10 := blk_frozen HGz16 10
  clear HGz16 hgz16
  obtain ⟨Ao17, co17, eo17⟩ := Kd.R_slice HO0.out
  subst eo17
  have p134 : 0 ≤ ((ji3) : Int) := of_decide_eq_true AS
  have q134 : (ji3) < (l0.length : Int) := of_decide_eq_true AS
  obtain ⟨ad134, e134, hx134_0⟩ := Kd.at_int (Kd.R_reads' HO0.out).2.2 (ji3) p134 q134
  cases e134
  replace p134 := eq_true p134
  replace q134 := eq_true q134
  go_enter Try.func79, Try.ntmps79
  go_wp2
  repeat (go_quiet (fail); try go_wp2)
  first | go_end0 | ((try simp only [Exit.inBlock, Exit.then]); refine bodyPost_ret (results_none rfl _ _ _) rfl ?_)
  exact ⟨by first | rfl | (simp [errW_none, errW_some] <;> rfl) | (simp only [← hji3]; first | rfl | (simp [errW_none, errW_some] <;> rfl)) | (simp [*, errW_none, errW_some] <;> rfl), by repeat (first | (with_reducible first | exact HI1.out | apply IsS46.alloc | apply IsS46.drewN | apply IsS46.drew | apply IsS46.set_0 | apply IsS46.set_1 | apply IsS46.set_2 | apply IsS46.set_3 | apply IsS46.set_4 | apply IsS46.set_5 | apply IsS46.set_6 | apply IsS46.set_7 | apply IsS46.set_8 | apply IsS46.set_9 | apply IsS46.set_10) | exact HI1.out), by (with_reducible repeat (first | apply r1 | apply r2 | apply r3)); exact Kd.R_mono (Kd.R_far (p := ⟨g, 4, none⟩) (IsS46.apart HI1.out HO0.out (by decide)) (fun _ hk => hk.2) (.int .i64 5)) (fun _ hk => hk.1), by repeat (first | (with_reducible first | exact HB.out | apply below_alloc | apply pw_below_drewN | apply below_drew1 | refine below_set ?_ (IsS46.ge HI1.out)) | exact HB.out), by repeat (first | (with_reducible first | exact HK.out | apply Kept.alloc | apply Kept.drewN | apply Kept.drew | refine Kept.setCell ?_ (.inl (.inr rfl)) _) | exact HK.out)⟩
 rw [if_pos c13] at H
 have c13b0 : (s1_0 == 2) = true := beq_iff_eq.mpr c13
 have c13b1 : (s1_0 != 2) = false := bne_eq_false_iff_eq.mpr c13
 clear c13
 simp only [Option.some.injEq, Prod.mk.injEq] at H
 obtain ⟨rfl, rfl, rfl, rfl, rfl, rfl, rfl, rfl, rfl, rfl, rfl, rfl⟩ := H
 obtain ⟨HGz14, hgz14⟩ := HI1.out
 have hcz14_0 := cellS46_0 HGz14
 have hcz14_1 := cellS46_1 HGz14
 have hcz14_2 := cellS46_2 HGz14
 have hcz14_3 := cellS46_3 HGz14
 have hcz14_4 := cellS46_4 HGz14
 have hcz14_5 := cellS46_5 HGz14
 have hcz14_6 := cellS46_6 HGz14
 have hcz14_7 := cellS46_7 HGz14
 have hcz14_8 := cellS46_8 HGz14
 have hcz14_9 := cellS46_9 HGz14
 have hcz14_10 := cellS46_10 HGz14
 have hfz14_0 := blk_frozen HGz14 0
 have hfz14_1 := blk_frozen HGz14 1
 have hfz14_2 := blk_frozen HGz14 2
 have hfz14_3 := blk_frozen HGz14 3
 have hfz14_4 := blk_frozen HGz14 4
 have hfz14_5 := blk_frozen HGz14 5
 have hfz14_6 := blk_frozen HGz14 6
 have hfz14_7 := blk_frozen HGz14 7
 have hfz14_8 := blk_frozen HGz14 8
 have hfz14_9 := blk_frozen HGz14 9
 have hfz14_10 := blk_frozen HGz14 10
 clear HGz14 hgz14
 obtain ⟨Ao15, co15, eo15⟩ := Kd.R_slice HO0.out
 subst eo15
 have p134 : 0 ≤ ((ji3) : Int) := of_decide_eq_true AS
 have q134 : (ji3) < (l0.length : Int) := of_decide_eq_true AS
 obtain ⟨ad134, e134, hx134_0⟩ := Kd.at_int (Kd.R_reads' HO0.out).2.2 (ji3) p134 q134
 cases e134
 replace p134 := eq_true p134
 replace q134 := eq_true q134
 go_enter Try.func79, Try.ntmps79
 go_wp2
 repeat (go_quiet (fail); try go_wp2)
 first | go_end0 | ((try simp only [Exit.inBlock, Exit.then]); refine bodyPost_ret (results_none rfl _ _ _) rfl ?_)
 exact ⟨by first | rfl | (simp [errW_none, errW_some] <;> rfl) | (simp only [← hji3]; first | rfl | (simp [errW_none, errW_some] <;> rfl)) | (simp [*, errW_none, errW_some] <;> rfl), by repeat (first | (with_reducible first | exact HI1.out | apply IsS46.alloc | apply IsS46.drewN | apply IsS46.drew | apply IsS46.set_0 | apply IsS46.set_1 | apply IsS46.set_2 | apply IsS46.set_3 | apply IsS46.set_4 | apply IsS46.set_5 | apply IsS46.set_6 | apply IsS46.set_7 | apply IsS46.set_8 | apply IsS46.set_9 | apply IsS46.set_10) | exact HI1.out), by (with_reducible repeat (first | apply r1 | apply r2 | apply r3)); exact Kd.R_mono (Kd.R_far (p := ⟨g, 10, none⟩) (Kd.R_far (p := ⟨g, 9, none⟩) (IsS46.apart HI1.out HO0.out (by decide)) (fun _ hk => hk.2) (.bool true)) (fun _ hk => hk.2) (.int .i64 0)) (fun _ hk => hk.1), by repeat (first | (with_reducible first | exact HB.out | apply below_alloc | apply pw_below_drewN | apply below_drew1 | refine below_set ?_ (IsS46.ge HI1.out)) | exact HB.out), by repeat (first | (with_reducible first | exact HK.out | apply Kept.alloc | apply Kept.drewN | apply Kept.drew | refine Kept.setCell ?_ (.inl (.inr rfl)) _) | exact HK.out)⟩

end Go.Proofs.Ytjmggbhgmenmcaa.Qs
