-- Laid by myprint.py, a program of this session's own, over the kit's print. Not trusted: Lean checks it.
import Derived.Test.YtjmggbhgmenmcaaQstx0
import Derived.Test.YtjmggbhgmenmcaaQstx2
import Derived.Test.YtjmggbhgmenmcaaQstx3
import Derived.Test.YtjmggbhgmenmcaaQstx5
namespace Go.Proofs.Ytjmggbhgmenmcaa.Qst
open Go.RowKit Go.Proofs.YtjmggbhgmenmcaaW.PrintWords Go.Proofs.YtjmggbhgmenmcaaW.PrintLast Go.Proofs.YtjmggbhgmenmcaaW.PrintMore
attribute [local go_sem] Go.Proofs.Ytjmggbhgmenmcaa.StrCmp.gtr_less Go.Proofs.Ytjmggbhgmenmcaa.StrCmp.geq_less Go.Proofs.Ytjmggbhgmenmcaa.StrCmp.leq_less max2_int min2_int max_two min_two max_three min_three max_four min_four   -- for this text's walks alone
set_option linter.unusedVariables false
set_option linter.unusedSimpArgs false

/-! ### impl_Task_walk: function 84 -/
def impl_Task_walk.j0 : Nat → List Int → Bool → Int → Int → Int → Int → Int → Int → Int → Int → Int → Bool → Int → Option (Int × Int × Int × Int × Int × Int × Int × Int × Int × Bool × Int × List Int)
 | 0, _, _, _, _, _, _, _, _, _, _, _, _, _ => none
 | k + 1, x1, x27, x1000, x1001, x1002, x1003, x1004, x1005, x1006, x1007, x1008, x1009, x1010 => if x27 = true then ((impl_Task_nobody.f x1000 x1001 x1002 x1003 x1004 x1005 x1006 x1007 x1008 x1009 x1010 x1).bind fun bt355 => (some (bt355.1, bt355.2.1, bt355.2.2.1, bt355.2.2.2.1, bt355.2.2.2.2.1, bt355.2.2.2.2.2.1, bt355.2.2.2.2.2.2.1, bt355.2.2.2.2.2.2.2.1, bt355.2.2.2.2.2.2.2.2.1, bt355.2.2.2.2.2.2.2.2.2.1, bt355.2.2.2.2.2.2.2.2.2.2.1, bt355.2.2.2.2.2.2.2.2.2.2.2))) else (if x1004 = 1 then ((impl_wordCell.f x1006).bind fun t367 => (if 0 ≤ t367 then (if t367 < (x1.length : Int) then ((impl_nodeOf.f (rd x1 t367)).bind fun t369 => (some (x1000, x1001, x1002, x1003, 2, x1005, x1006, t369, Go.bits .and .i64 (rd x1 t367) 1, x1009, x1010, x1))) else (none)) else (none))) else (if x1008 = 1 then ((impl_swapWord.f x1 x1005 (wrap64 (2 * x1006)) (wrap64 (2 * x1007))).bind fun bt370 => (if bt370.1 = true then (some (x1000, x1001, x1002, x1003, 1, x1005, x1007, x1007, x1008, x1009, x1010, bt370.2)) else (some (x1000, x1001, x1002, x1003, 0, x1005, x1006, x1007, x1008, x1009, x1010, bt370.2)))) else ((impl_keyCell.f x1006).bind fun t372 => (if 0 ≤ t372 then (if t372 < (x1.length : Int) then (if (rd x1 t372) < x1001 then (some (x1000, x1001, x1002, x1003, 1, x1006, x1007, x1007, x1008, x1009, x1010, x1)) else (some (x1000, x1001, x1002, x1003, 3, x1005, x1006, x1007, x1008, x1009, x1010, x1))) else (none)) else (none)))))
def impl_Task_walk.f (k : Nat) (s0_0 : Int) (s0_1 : Int) (s0_2 : Int) (s0_3 : Int) (s0_4 : Int) (s0_5 : Int) (s0_6 : Int) (s0_7 : Int) (s0_8 : Int) (s0_9 : Bool) (s0_10 : Int) (l1 : List Int) : Option (Int × Int × Int × Int × Int × Int × Int × Int × Int × Bool × Int × List Int) := if s0_4 = 0 then (if 0 < (l1.length : Int) then ((impl_nodeOf.f (rd l1 0)).bind fun t354 => (some (s0_0, s0_1, s0_2, s0_3, 1, 0, t354, s0_7, s0_8, s0_9, s0_10, l1))) else (none)) else (if s0_4 = 1 then (impl_Task_walk.j0 k l1 (s0_6 == 0) s0_0 s0_1 s0_2 s0_3 s0_4 s0_5 s0_6 s0_7 s0_8 s0_9 s0_10) else (impl_Task_walk.j0 k l1 false s0_0 s0_1 s0_2 s0_3 s0_4 s0_5 s0_6 s0_7 s0_8 s0_9 s0_10))
theorem impl_Task_walk.mono_l : ∀ k, (∀ y0 y1 y2 y3 y4 y5 y6 y7 y8 y9 y10 y11 y12, LeO (impl_Task_walk.j0 k y0 y1 y2 y3 y4 y5 y6 y7 y8 y9 y10 y11 y12) (impl_Task_walk.j0 (k + 1) y0 y1 y2 y3 y4 y5 y6 y7 y8 y9 y10 y11 y12))
 | 0 => fun _ _ _ _ _ _ _ _ _ _ _ _ _ r h => by simp [impl_Task_walk.j0] at h
 | k + 1 => by
  have ih0 := impl_Task_walk.mono_l k
  ·
   intro y0 y1 y2 y3 y4 y5 y6 y7 y8 y9 y10 y11 y12
   unfold impl_Task_walk.j0
   repeat' first
   | (with_reducible exact ih0 _ _ _ _ _ _ _ _ _ _ _ _ _)
   | (with_reducible exact LeO.refl _)
   | (with_reducible exact LeO.none _)
   | (with_reducible refine LeO.ite ?_ ?_)
   | (with_reducible refine LeO.bind ?_ (fun _ => ?_))
   | exact ih0 _ _ _ _ _ _ _ _ _ _ _ _ _
   | exact LeO.none _
   | refine LeO.ite ?_ ?_
   | refine LeO.bind ?_ (fun _ => ?_)
theorem impl_Task_walk.mono : ∀ a0 a1 a2 a3 a4 a5 a6 a7 a8 a9 a10 a11 k, LeO (impl_Task_walk.f k a0 a1 a2 a3 a4 a5 a6 a7 a8 a9 a10 a11) (impl_Task_walk.f (k + 1) a0 a1 a2 a3 a4 a5 a6 a7 a8 a9 a10 a11) := by
 intro a0 a1 a2 a3 a4 a5 a6 a7 a8 a9 a10 a11 k
 have ih0 := impl_Task_walk.mono_l k
 unfold impl_Task_walk.f
 repeat' first
   | (with_reducible exact ih0 _ _ _ _ _ _ _ _ _ _ _ _ _)
   | (with_reducible exact LeO.refl _)
   | (with_reducible exact LeO.none _)
   | (with_reducible refine LeO.ite ?_ ?_)
   | (with_reducible refine LeO.bind ?_ (fun _ => ?_))
   | exact ih0 _ _ _ _ _ _ _ _ _ _ _ _ _
   | exact LeO.none _
   | refine LeO.ite ?_ ?_
   | refine LeO.bind ?_ (fun _ => ?_)
def impl_Task_walk.T9 : Bool × List (List Nat × List Nat) := (true, [([], []), ([], []), ([1], [1]), ([2], [2]), ([3], [3]), ([], []), ([5], [5]), ([6], [6]), ([7], [7]), ([8], [8]), ([], []), ([10], [10]), ([11], [11]), ([12], [12]), ([13], [13]), ([0, 4, 9, 14], [0, 4, 9, 14])])
def impl_Task_walk.B9 : List Nat := [0, 0, 2, 6, 14, 0, 32, 96, 224, 480, 0, 1024, 3072, 7168, 15360, 32767]
theorem impl_Task_walk.tab9 : rtab .any (opsOf Try.f84 9) = impl_Task_walk.T9 := by kernel_rfl
theorem impl_Task_walk.bits9 : waitsOk impl_Task_walk.T9.2 impl_Task_walk.B9 = true := by kernel_rfl
def impl_Task_walk.T12 : Bool × List (List Nat × List Nat) := (true, [([], []), ([], []), ([1], [1]), ([2], [2]), ([3], [3]), ([4], [4]), ([0, 5], [0, 5]), ([6], [6]), ([], []), ([8], [8]), ([9], [9]), ([10], [10]), ([7, 11], [7, 11]), ([12, 5], [12])])
def impl_Task_walk.B12 : List Nat := [0, 0, 2, 6, 14, 30, 63, 127, 0, 256, 768, 1792, 4095, 8191]
theorem impl_Task_walk.tab12 : rtab .any (opsOf Try.f84 12) = impl_Task_walk.T12 := by kernel_rfl
theorem impl_Task_walk.bits12 : waitsOk impl_Task_walk.T12.2 impl_Task_walk.B12 = true := by kernel_rfl
def impl_Task_walk.T13 : Bool × List (List Nat × List Nat) := (true, [([], []), ([], []), ([], []), ([], []), ([3], [3]), ([4], [4]), ([5], [5]), ([], []), ([7], [7]), ([8], [8]), ([9], [9]), ([0, 0, 3, 4, 5, 6, 10], [0]), ([11, 0, 3, 4, 5, 6, 10], [11]), ([12, 6, 0, 3, 4, 5, 6, 10], [6, 12]), ([1, 0, 1, 3, 4, 5, 6, 7, 8, 9, 10, 11, 12, 13], [1]), ([14, 0, 1, 3, 4, 5, 6, 7, 8, 9, 10, 11, 12, 13], [14]), ([15, 10, 13, 0, 1, 3, 4, 5, 6, 7, 8, 9, 10, 11, 12, 13], [10, 15]), ([2, 0, 1, 2, 3, 4, 5, 6, 7, 8, 9, 10, 11, 12, 13, 14, 15, 16], [2]), ([17, 0, 1, 2, 3, 4, 5, 6, 7, 8, 9, 10, 11, 12, 13, 14, 15, 16], [17]), ([18, 16, 0, 1, 2, 3, 4, 5, 6, 7, 8, 9, 10, 11, 12, 13, 14, 15, 16], [18])])
def impl_Task_walk.B13 : List Nat := [0, 0, 0, 0, 8, 24, 56, 0, 128, 384, 896, 2041, 4089, 8185, 16379, 32763, 65531, 131071, 262143, 524287]
theorem impl_Task_walk.tab13 : rtab .any (opsOf Try.f84 13) = impl_Task_walk.T13 := by kernel_rfl
theorem impl_Task_walk.bits13 : waitsOk impl_Task_walk.T13.2 impl_Task_walk.B13 = true := by kernel_rfl
theorem impl_Task_walk.k0 {p q : Prop} (h : q) (k : q → p := by intro h_; repeat (first | (with_reducible first | exact h_ | apply IsS46.alloc | apply IsS46.drewN | apply IsS46.drew | apply IsS46.set_0 | apply IsS46.set_1 | apply IsS46.set_2 | apply IsS46.set_3 | apply IsS46.set_4 | apply IsS46.set_5 | apply IsS46.set_6 | apply IsS46.set_7 | apply IsS46.set_8 | apply IsS46.set_9 | apply IsS46.set_10) | exact h_)) : p := k h
theorem impl_Task_walk.k1 {p q : Prop} (h : q) (k : q → p := by intro h_; repeat (first | (with_reducible first | exact h_ | apply Kept.alloc | apply Kept.drewN | apply Kept.drew | refine Kept.setCell ?_ (.inl (.inr rfl)) _) | exact h_)) : p := k h
theorem impl_Task_walk.k2 {p q : Prop} (h : q) (k : q → p := by intro h_; repeat (first | (with_reducible first | exact h_ | apply below_alloc | apply pw_below_drewN | apply below_drew1 | refine below_set ?_ (IsS46.ge HI0.out)) | exact h_)) : p := k h
set_option maxHeartbeats 8000000 in
set_option maxRecDepth 100000 in
theorem impl_Task_walk.calls (k : Nat) (g : Nat) (s0_0 : Int) (s0_1 : Int) (s0_2 : Int) (s0_3 : Int) (s0_4 : Int) (s0_5 : Int) (s0_6 : Int) (s0_7 : Int) (s0_8 : Int) (s0_9 : Bool) (s0_10 : Int) (P1_ : Nat → Prop) (u9000_ : Value) (l1 : List Int) (r1 : Int) (r2 : Int) (r3 : Int) (r4 : Int) (r5 : Int) (r6 : Int) (r7 : Int) (r8 : Int) (r9 : Int) (r10 : Bool) (r11 : Int) (r12 : List Int) (w0 w : World) (hI : IsS46 w0 w g s0_0 s0_1 s0_2 s0_3 s0_4 s0_5 s0_6 s0_7 s0_8 s0_9 s0_10) (hB : Below w0.heap.size w0 w) (ho1 : Kd.R (Kd.int .i64) 3 w w0.heap.size P1_ u9000_ l1) (h : impl_Task_walk.f k s0_0 s0_1 s0_2 s0_3 s0_4 s0_5 s0_6 s0_7 s0_8 s0_9 s0_10 l1 = some (r1, r2, r3, r4, r5, r6, r7, r8, r9, r10, r11, r12)) :
  Calls Try.prog 84 #[.pointer (some ⟨g, 0, none⟩), u9000_] w fun e w' => e = .returned (.tuple #[]) ∧ IsS46 w0 w' g r1 r2 r3 r4 r5 r6 r7 r8 r9 r10 r11 ∧ Kd.R (Kd.int .i64) 3 w' w0.heap.size (fun k_ => (P1_ k_ ∨ w.heap.size ≤ k_)) u9000_ r12 ∧ Below w0.heap.size w0 w' ∧ Kept w w' (fun k_ => (P1_ k_) ∨ k_ = g) := by
 have HO1 := Aside0.mk (show Kd.R (Kd.int .i64) 3 w w0.heap.size (fun k_ => (P1_ k_ ∨ w.heap.size ≤ k_)) u9000_ l1 from Kd.R_mono ho1 (fun k_ hk => (.inl hk)))
 have HI0 := Aside0.mk hI
 have HL := Aside0.mk hB.size
 clear hI
 have HK := Aside0.mk (Kept.refl w (fun k_ => (P1_ k_) ∨ k_ = g))
 have HW0 := Aside0.mk hB.size
 have HB := Aside0.mk hB
 clear hB
 obtain ⟨wv, hwv⟩ : ∃ wv : World, wv = w := ⟨w, rfl⟩
 replace HO1 : Aside0 (Kd.R (Kd.int .i64) 3 w w0.heap.size (fun k_ => (P1_ k_ ∨ wv.heap.size ≤ k_)) u9000_ l1) := by rw [hwv]; exact HO1
 replace HK : Aside0 (Kept wv w (fun k_ => (P1_ k_) ∨ k_ = g)) := by rw [hwv]; exact HK
 suffices hs_ : Calls Try.prog 84 #[.pointer (some ⟨g, 0, none⟩), u9000_] w fun e w' => e = .returned (.tuple #[]) ∧ IsS46 w0 w' g r1 r2 r3 r4 r5 r6 r7 r8 r9 r10 r11 ∧ Kd.R (Kd.int .i64) 3 w' w0.heap.size (fun k_ => (P1_ k_ ∨ wv.heap.size ≤ k_)) u9000_ r12 ∧ Below w0.heap.size w0 w' ∧ Kept wv w' (fun k_ => (P1_ k_) ∨ k_ = g) by rw [hwv] at hs_; exact hs_
 clear hwv
 have H : (if s0_4 = 0 then (if 0 < (l1.length : Int) then ((impl_nodeOf.f (rd l1 0)).bind fun t354 => (some (s0_0, s0_1, s0_2, s0_3, 1, 0, t354, s0_7, s0_8, s0_9, s0_10, l1))) else (none)) else (if s0_4 = 1 then (impl_Task_walk.j0 k l1 (s0_6 == 0) s0_0 s0_1 s0_2 s0_3 s0_4 s0_5 s0_6 s0_7 s0_8 s0_9 s0_10) else (impl_Task_walk.j0 k l1 false s0_0 s0_1 s0_2 s0_3 s0_4 s0_5 s0_6 s0_7 s0_8 s0_9 s0_10))) = some (r1, r2, r3, r4, r5, r6, r7, r8, r9, r10, r11, r12) := h
 clear h
 by_cases c3 : s0_4 = 0
 ·
  rw [if_pos c3] at H; have c3b0 : (s0_4 == 0) = true := beq_iff_eq.mpr c3; have c3b1 : (s0_4 != 0) = false := bne_eq_false_iff_eq.mpr c3; clear c3
  by_cases c4 : 0 < (l1.length : Int); rotate_left
  ·
   rw [if_neg c4] at H; exact absurd H (by simp)
  rw [if_pos c4] at H; have c4b0 : decide (0 < (l1.length : Int)) = true := decide_eq_true c4; have c4b1 : decide (0 < l1.length) = true := decide_eq_true (by omega); clear c4; replace H := Option.bind_eq_some_iff.mp H; obtain ⟨t354, A50, H⟩ := H; have A5 := Aside0.mk A50; clear A50; simp only [Option.some.injEq, Prod.mk.injEq] at H; obtain ⟨rfl, rfl, rfl, rfl, rfl, rfl, rfl, rfl, rfl, rfl, rfl, rfl⟩ := H; obtain ⟨HGz6, hgz6⟩ := HI0.out; have hcz6_0 := cellS46_0 HGz6; have hcz6_1 := cellS46_1 HGz6; have hcz6_2 := cellS46_2 HGz6; have hcz6_3 := cellS46_3 HGz6; have hcz6_4 := cellS46_4 HGz6; have hcz6_5 := cellS46_5 HGz6; have hcz6_6 := cellS46_6 HGz6; have hcz6_7 := cellS46_7 HGz6; have hcz6_8 := cellS46_8 HGz6; have hcz6_9 := cellS46_9 HGz6; have hcz6_10 := cellS46_10 HGz6; have hfz6_0 := blk_frozen HGz6 0; have hfz6_1 := blk_frozen HGz6 1; have hfz6_2 := blk_frozen HGz6 2; have hfz6_3 := blk_frozen HGz6 3; have hfz6_4 := blk_frozen HGz6 4; have hfz6_5 := blk_frozen HGz6 5; have hfz6_6 := blk_frozen HGz6 6; have hfz6_7 := blk_frozen HGz6 7; have hfz6_8 := blk_frozen HGz6 8; have hfz6_9 := blk_frozen HGz6 9; have hfz6_10 := blk_frozen HGz6 10; clear HGz6 hgz6; obtain ⟨Ao7, co7, eo7⟩ := Kd.R_slice HO1.out; subst eo7; have p353 : 0 ≤ (0 : Int) := (by omega); have q353 : 0 < (l1.length : Int) := of_decide_eq_true AS; obtain ⟨ad353, e353, hx353_0⟩ := Kd.at_int (Kd.R_reads' HO1.out).2.2 0 p353 q353; cases e353; have qi353 : (0 < l1.length) = True := eq_true (by omega)
  (try rw [show ((0 : Int)).toNat = 0 from rfl] at hx353_0)
  (try rw [Addr.add_zero'] at hx353_0)
  replace p353 := eq_true p353; replace q353 := eq_true q353
  go_enter Try.func84, Try.ntmps84
  go_wp2_with (first | ((with_reducible refine gate_callee (f := 75) rfl ?_); refine goesL_ (some 20) rfl rfl Try.func75 (by kernel_rfl) rfl #[.int .i64 (rd l1 0)] rfl (MA) ?_; (with_reducible refine (impl_nodeOf.calls (rd l1 0) t354 _ A5.out).mono ?_); rintro e w' ⟨rfl, ⟨nd, rfl⟩⟩; refine ⟨_, rfl, ?_⟩; (try (rw [drewN_self w]; generalize hq_ : World.drewN w _ = w; have n0_ : Aside0 (Kd.R (Kd.int .i64) 3 w w0.heap.size (fun k_ => (P1_ k_ ∨ wv.heap.size ≤ k_)) (.slice (some ad353) l1.length co7) l1) := ⟨by rw [← hq_]; exact (RQ HO1.out)⟩; have n1_ : Aside0 (IsS46 w0 w g s0_0 s0_1 s0_2 s0_3 s0_4 s0_5 s0_6 s0_7 s0_8 s0_9 s0_10) := ⟨by rw [← hq_]; exact (impl_Task_walk.k0 HI0.out)⟩; have n2_ : Aside0 (Kept wv w (fun k_ => (P1_ k_) ∨ k_ = g)) := ⟨by rw [← hq_]; exact (impl_Task_walk.k1 HK.out)⟩; have n3_ : Aside0 (Below w0.heap.size w0 w) := ⟨by rw [← hq_]; exact (impl_Task_walk.k2 HB.out)⟩; clear HO1 HI0 HK HB hq_; have HO1 := n0_; have HI0 := n1_; have HK := n2_; have HB := n3_; clear n0_ n1_ n2_ n3_; have HGz_ := (HI0.out).1; have hcq0_ := cellS46_0 HGz_; have hfq0_ := blk_frozen HGz_ 0; have hcq1_ := cellS46_1 HGz_; have hfq1_ := blk_frozen HGz_ 1; have hcq2_ := cellS46_2 HGz_; have hfq2_ := blk_frozen HGz_ 2; have hcq3_ := cellS46_3 HGz_; have hfq3_ := blk_frozen HGz_ 3; have hcq4_ := cellS46_4 HGz_; have hfq4_ := blk_frozen HGz_ 4; have hcq5_ := cellS46_5 HGz_; have hfq5_ := blk_frozen HGz_ 5; have hcq6_ := cellS46_6 HGz_; have hfq6_ := blk_frozen HGz_ 6; have hcq7_ := cellS46_7 HGz_; have hfq7_ := blk_frozen HGz_ 7; have hcq8_ := cellS46_8 HGz_; have hfq8_ := blk_frozen HGz_ 8; have hcq9_ := cellS46_9 HGz_; have hfq9_ := blk_frozen HGz_ 9; have hcq10_ := cellS46_10 HGz_; have hfq10_ := blk_frozen HGz_ 10; clear HGz_))))
  first | go_end0 | ((try simp only [Exit.inBlock, Exit.then]); refine bodyPost_ret (results_none rfl _ _ _) rfl ?_)
  exact ⟨EE, impl_Task_walk.k0 HI0.out, by (with_reducible repeat (first | apply r1 | apply r2 | apply r3)); exact Kd.R_mono (Kd.R_far (p := ⟨g, 4, none⟩) (Kd.R_far (p := ⟨g, 6, none⟩) (Kd.R_far (p := ⟨g, 5, none⟩) (IsS46.apart HI0.out HO1.out (by decide)) (fun _ hk => hk.2) (.int .i64 0)) (fun _ hk => hk.2) (.int .i64 t354)) (fun _ hk => hk.2) (.int .i64 1)) (fun _ hk => hk.1), impl_Task_walk.k2 HB.out, impl_Task_walk.k1 HK.out⟩
 rw [if_neg c3] at H
 have c3b0 : (s0_4 == 0) = false := beq_eq_false_iff_ne.mpr c3
 have c3b1 : (s0_4 != 0) = true := bne_iff_ne.mpr c3
 have HC8 := Aside0.mk H
 clear H
 obtain ⟨HGz9, hgz9⟩ := HI0.out
 have hcz9_0 := cellS46_0 HGz9
 have hcz9_1 := cellS46_1 HGz9
 have hcz9_2 := cellS46_2 HGz9
 have hcz9_3 := cellS46_3 HGz9
 have hcz9_4 := cellS46_4 HGz9
 have hcz9_5 := cellS46_5 HGz9
 have hcz9_6 := cellS46_6 HGz9
 have hcz9_7 := cellS46_7 HGz9
 have hcz9_8 := cellS46_8 HGz9
 have hcz9_9 := cellS46_9 HGz9
 have hcz9_10 := cellS46_10 HGz9
 have hfz9_0 := blk_frozen HGz9 0
 have hfz9_1 := blk_frozen HGz9 1
 have hfz9_2 := blk_frozen HGz9 2
 have hfz9_3 := blk_frozen HGz9 3
 have hfz9_4 := blk_frozen HGz9 4
 have hfz9_5 := blk_frozen HGz9 5
 have hfz9_6 := blk_frozen HGz9 6
 have hfz9_7 := blk_frozen HGz9 7
 have hfz9_8 := blk_frozen HGz9 8
 have hfz9_9 := blk_frozen HGz9 9
 have hfz9_10 := blk_frozen HGz9 10
 clear HGz9 hgz9
 go_enter Try.func84, Try.ntmps84
 go_upto_region 3 with (fail)
 go_cut [27] (fun v27 wc => ∃ (kq : Nat) (x27_7 : Bool), v27 = .bool x27_7 ∧ Aside0 (impl_Task_walk.j0 kq l1 x27_7 s0_0 s0_1 s0_2 s0_3 s0_4 s0_5 s0_6 s0_7 s0_8 s0_9 s0_10 = some (r1, r2, r3, r4, r5, r6, r7, r8, r9, r10, r11, r12)) ∧ Aside0 (kq ≤ k) ∧ Aside0 (Kd.R (Kd.int .i64) 3 wc w0.heap.size (fun k_ => (P1_ k_ ∨ wv.heap.size ≤ k_)) u9000_ l1) ∧ Aside0 (IsS46 w0 wc g s0_0 s0_1 s0_2 s0_3 s0_4 s0_5 s0_6 s0_7 s0_8 s0_9 s0_10) ∧ Aside0 (Kept wv wc (fun k_ => (P1_ k_) ∨ k_ = g)) ∧ Aside0 (Below w0.heap.size w0 wc))
 case first =>
  have H := HC8.out; clear HC8
  by_cases c10 : s0_4 = 1; rotate_left
  ·
   rw [if_neg c10] at H; have c10b0 : (s0_4 == 1) = false := beq_eq_false_iff_ne.mpr c10; have c10b1 : (s0_4 != 1) = true := bne_iff_ne.mpr c10
   (first | rw [c10b0] | (simp only [i64_w, i32_w]; rw [c10b0]) | skip)
   have H' := Aside0.mk H; clear H; obtain ⟨HGz12, hgz12⟩ := HI0.out; have hcz12_0 := cellS46_0 HGz12; have hcz12_1 := cellS46_1 HGz12; have hcz12_2 := cellS46_2 HGz12; have hcz12_3 := cellS46_3 HGz12; have hcz12_4 := cellS46_4 HGz12; have hcz12_5 := cellS46_5 HGz12; have hcz12_6 := cellS46_6 HGz12; have hcz12_7 := cellS46_7 HGz12; have hcz12_8 := cellS46_8 HGz12; have hcz12_9 := cellS46_9 HGz12; have hcz12_10 := cellS46_10 HGz12; have hfz12_0 := blk_frozen HGz12 0; have hfz12_1 := blk_frozen HGz12 1; have hfz12_2 := blk_frozen HGz12 2; have hfz12_3 := blk_frozen HGz12 3; have hfz12_4 := blk_frozen HGz12 4; have hfz12_5 := blk_frozen HGz12 5; have hfz12_6 := blk_frozen HGz12 6; have hfz12_7 := blk_frozen HGz12 7; have hfz12_8 := blk_frozen HGz12 8; have hfz12_9 := blk_frozen HGz12 9; have hfz12_10 := blk_frozen HGz12 10; clear HGz12 hgz12
   go_wp2
   go_meet
   case rel => exact ⟨_, (false), SD, H', ⟨by first | omega | exact Nat.le_refl _⟩, ⟨RQ HO1.out⟩, ⟨impl_Task_walk.k0 HI0.out⟩, ⟨impl_Task_walk.k1 HK.out⟩, ⟨impl_Task_walk.k2 HB.out⟩⟩
  rw [if_pos c10] at H; have c10b0 : (s0_4 == 1) = true := beq_iff_eq.mpr c10; have c10b1 : (s0_4 != 1) = false := bne_eq_false_iff_eq.mpr c10; clear c10
  (first | rw [c10b0] | (simp only [i64_w, i32_w]; rw [c10b0]) | skip)
  have H' := Aside0.mk H; clear H; obtain ⟨HGz11, hgz11⟩ := HI0.out; have hcz11_0 := cellS46_0 HGz11; have hcz11_1 := cellS46_1 HGz11; have hcz11_2 := cellS46_2 HGz11; have hcz11_3 := cellS46_3 HGz11; have hcz11_4 := cellS46_4 HGz11; have hcz11_5 := cellS46_5 HGz11; have hcz11_6 := cellS46_6 HGz11; have hcz11_7 := cellS46_7 HGz11; have hcz11_8 := cellS46_8 HGz11; have hcz11_9 := cellS46_9 HGz11; have hcz11_10 := cellS46_10 HGz11; have hfz11_0 := blk_frozen HGz11 0; have hfz11_1 := blk_frozen HGz11 1; have hfz11_2 := blk_frozen HGz11 2; have hfz11_3 := blk_frozen HGz11 3; have hfz11_4 := blk_frozen HGz11 4; have hfz11_5 := blk_frozen HGz11 5; have hfz11_6 := blk_frozen HGz11 6; have hfz11_7 := blk_frozen HGz11 7; have hfz11_8 := blk_frozen HGz11 8; have hfz11_9 := blk_frozen HGz11 9; have hfz11_10 := blk_frozen HGz11 10; clear HGz11 hgz11
  go_wp2
  go_meet
  case rel => exact ⟨_, ((s0_6 == 0)), SD, H', ⟨by first | omega | exact Nat.le_refl _⟩, ⟨RQ HO1.out⟩, ⟨impl_Task_walk.k0 HI0.out⟩, ⟨impl_Task_walk.k1 HK.out⟩, ⟨impl_Task_walk.k2 HB.out⟩⟩
 case rest =>
  clear HC8
  try clear c1 p2 c3 c3b0 c3b1 p3 q3 hx3 qi3 c4 c4b0 c4b1 c7 c8 c10 c10b0 c10b1 hcz11_0 hcz11_1 hcz11_10 hcz11_2 hcz11_3 hcz11_4 hcz11_5 hcz11_6 hcz11_7 hcz11_8 hcz11_9 hcz12_0 hcz12_1 hcz12_10 hcz12_2 hcz12_3 hcz12_4 hcz12_5 hcz12_6 hcz12_7 hcz12_8 hcz12_9 hcz6_0 hcz6_1 hcz6_10 hcz6_2 hcz6_3 hcz6_4 hcz6_5 hcz6_6 hcz6_7 hcz6_8 hcz6_9 hcz9_0 hcz9_1 hcz9_10 hcz9_2 hcz9_3 hcz9_4 hcz9_5 hcz9_6 hcz9_7 hcz9_8 hcz9_9 hfz11_0 hfz11_1 hfz11_10 hfz11_2 hfz11_3 hfz11_4 hfz11_5 hfz11_6 hfz11_7 hfz11_8 hfz11_9 hfz12_0 hfz12_1 hfz12_10 hfz12_2 hfz12_3 hfz12_4 hfz12_5 hfz12_6 hfz12_7 hfz12_8 hfz12_9 hfz6_0 hfz6_1 hfz6_10 hfz6_2 hfz6_3 hfz6_4 hfz6_5 hfz6_6 hfz6_7 hfz6_8 hfz6_9 hfz9_0 hfz9_1 hfz9_10 hfz9_2 hfz9_3 hfz9_4 hfz9_5 hfz9_6 hfz9_7 hfz9_8 hfz9_9 hx353_0 p353 q353
  obtain ⟨kq, x27_7, rfl, HA, HJ7, HO_1, HI0, HK, HB⟩ := hcut; cases kq with
  | zero => exact absurd HA.out (by simp [impl_Task_walk.j0])
  | succ kj7 =>
   have H := HA.out; clear HA; simp only [impl_Task_walk.j0] at H
   by_cases c13 : x27_7 = true
   ·
    subst c13
    have H1 : ((impl_Task_nobody.f s0_0 s0_1 s0_2 s0_3 s0_4 s0_5 s0_6 s0_7 s0_8 s0_9 s0_10 l1).bind fun bt355 => (some (bt355.1, bt355.2.1, bt355.2.2.1, bt355.2.2.2.1, bt355.2.2.2.2.1, bt355.2.2.2.2.2.1, bt355.2.2.2.2.2.2.1, bt355.2.2.2.2.2.2.2.1, bt355.2.2.2.2.2.2.2.2.1, bt355.2.2.2.2.2.2.2.2.2.1, bt355.2.2.2.2.2.2.2.2.2.2.1, bt355.2.2.2.2.2.2.2.2.2.2.2))) = some (r1, r2, r3, r4, r5, r6, r7, r8, r9, r10, r11, r12) := by rw [if_pos rfl] at H; exact H
    clear H; have H := H1; clear H1; replace H := Option.bind_eq_some_iff.mp H; obtain ⟨⟨t355, t356, t357, t358, t359, t360, t361, t362, t363, t364, t365, t366⟩, A140, H⟩ := H; replace H : (some (t355, t356, t357, t358, t359, t360, t361, t362, t363, t364, t365, t366)) = some (r1, r2, r3, r4, r5, r6, r7, r8, r9, r10, r11, r12) := H; have A14 := Aside0.mk A140; clear A140; simp only [Option.some.injEq, Prod.mk.injEq] at H; obtain ⟨rfl, rfl, rfl, rfl, rfl, rfl, rfl, rfl, rfl, rfl, rfl, rfl⟩ := H; obtain ⟨Ao15, co15, eo15⟩ := Kd.R_slice HO_1.out; subst eo15
    go_wp2_with (first | ((with_reducible refine gate_callee (f := 87) rfl ?_); refine goesL_ (some 42) rfl rfl Try.func87 (by kernel_rfl) rfl #[.pointer (some ⟨g, 0, none⟩), .slice Ao15 l1.length co15] rfl (MA) ?_; (with_reducible refine (impl_Task_nobody.calls g s0_0 s0_1 s0_2 s0_3 s0_4 s0_5 s0_6 s0_7 s0_8 s0_9 s0_10 (fun k_ => some k_ = (.slice Ao15 l1.length co15 : Value).ownBlock) (.slice Ao15 l1.length co15) l1 t355 t356 t357 t358 t359 t360 t361 t362 t363 t364 t365 t366 w0 _ ?side1 ?side2 ?side3 A14.out).mono ?_); (case side1 => exact impl_Task_walk.k0 HI0.out); (case side2 => exact impl_Task_walk.k2 HB.out); (case side3 => exact Kd.R_tight rfl HO_1.out); rintro e w16 ⟨rfl, hi, hy0, hb, hkp⟩; refine ⟨_, rfl, ?_⟩; replace HI0 := Aside0.mk (hi); replace HK := Aside0.mk (Kept.then_ (S := (fun k_ => (P1_ k_) ∨ k_ = g)) (impl_Task_walk.k1 HK.out) hkp (fun k_ hs_ => Or.elim hs_ (fun hs_ => (fun e_ => Or.imp_left Or.inl ((HO_1.out.1 k_ e_.symm))) hs_) (fun e_ => .inl (.inr e_)))); replace HO_1 := Aside0.mk (Kd.R_reok rfl hy0 (fun k_ e_ => HO_1.out.1 k_ e_)); replace HB := Aside0.mk (hb); (try clear hb); (try clear hkp); (try clear hy0)))
    first | go_end0 | ((try simp only [Exit.inBlock, Exit.then]); refine bodyPost_ret (results_none rfl _ _ _) rfl ?_)
    exact ⟨EE, impl_Task_walk.k0 HI0.out, RQ HO_1.out, impl_Task_walk.k2 HB.out, impl_Task_walk.k1 HK.out⟩
   replace c13 := Bool.eq_false_iff.mpr c13; subst c13
   have H1 : (if s0_4 = 1 then ((impl_wordCell.f s0_6).bind fun t367 => (if 0 ≤ t367 then (if t367 < (l1.length : Int) then ((impl_nodeOf.f (rd l1 t367)).bind fun t369 => (some (s0_0, s0_1, s0_2, s0_3, 2, s0_5, s0_6, t369, Go.bits .and .i64 (rd l1 t367) 1, s0_9, s0_10, l1))) else (none)) else (none))) else (if s0_8 = 1 then ((impl_swapWord.f l1 s0_5 (wrap64 (2 * s0_6)) (wrap64 (2 * s0_7))).bind fun bt370 => (if bt370.1 = true then (some (s0_0, s0_1, s0_2, s0_3, 1, s0_5, s0_7, s0_7, s0_8, s0_9, s0_10, bt370.2)) else (some (s0_0, s0_1, s0_2, s0_3, 0, s0_5, s0_6, s0_7, s0_8, s0_9, s0_10, bt370.2)))) else ((impl_keyCell.f s0_6).bind fun t372 => (if 0 ≤ t372 then (if t372 < (l1.length : Int) then (if (rd l1 t372) < s0_1 then (some (s0_0, s0_1, s0_2, s0_3, 1, s0_6, s0_7, s0_7, s0_8, s0_9, s0_10, l1)) else (some (s0_0, s0_1, s0_2, s0_3, 3, s0_5, s0_6, s0_7, s0_8, s0_9, s0_10, l1))) else (none)) else (none))))) = some (r1, r2, r3, r4, r5, r6, r7, r8, r9, r10, r11, r12) := by rw [if_neg (show ¬ (false = true) by decide)] at H; exact H
   clear H; have H := H1; clear H1
   by_cases c17 : s0_4 = 1
   ·
    rw [if_pos c17] at H; have c17b0 : (s0_4 == 1) = true := beq_iff_eq.mpr c17; have c17b1 : (s0_4 != 1) = false := bne_eq_false_iff_eq.mpr c17; clear c17; replace H := Option.bind_eq_some_iff.mp H; obtain ⟨t367, A180, H⟩ := H; have A18 := Aside0.mk A180; clear A180
    by_cases c19 : 0 ≤ t367; rotate_left
    ·
     rw [if_neg c19] at H; exact absurd H (by simp)
    rw [if_pos c19] at H; have c19b0 : decide (0 ≤ t367) = true := decide_eq_true c19; clear c19
    by_cases c20 : t367 < (l1.length : Int); rotate_left
    ·
     rw [if_neg c20] at H; exact absurd H (by simp)
    rw [if_pos c20] at H; have c20b0 : decide (t367 < (l1.length : Int)) = true := decide_eq_true c20; clear c20; replace H := Option.bind_eq_some_iff.mp H; obtain ⟨t369, A210, H⟩ := H; have A21 := Aside0.mk A210; clear A210; simp only [Option.some.injEq, Prod.mk.injEq] at H; obtain ⟨rfl, rfl, rfl, rfl, rfl, rfl, rfl, rfl, rfl, rfl, rfl, rfl⟩ := H; obtain ⟨HGz22, hgz22⟩ := HI0.out; have hcz22_0 := cellS46_0 HGz22; have hcz22_1 := cellS46_1 HGz22; have hcz22_2 := cellS46_2 HGz22; have hcz22_3 := cellS46_3 HGz22; have hcz22_4 := cellS46_4 HGz22; have hcz22_5 := cellS46_5 HGz22; have hcz22_6 := cellS46_6 HGz22; have hcz22_7 := cellS46_7 HGz22; have hcz22_8 := cellS46_8 HGz22; have hcz22_9 := cellS46_9 HGz22; have hcz22_10 := cellS46_10 HGz22; have hfz22_0 := blk_frozen HGz22 0; have hfz22_1 := blk_frozen HGz22 1; have hfz22_2 := blk_frozen HGz22 2; have hfz22_3 := blk_frozen HGz22 3; have hfz22_4 := blk_frozen HGz22 4; have hfz22_5 := blk_frozen HGz22 5; have hfz22_6 := blk_frozen HGz22 6; have hfz22_7 := blk_frozen HGz22 7; have hfz22_8 := blk_frozen HGz22 8; have hfz22_9 := blk_frozen HGz22 9; have hfz22_10 := blk_frozen HGz22 10; clear HGz22 hgz22
    go_wp2_with (first | ((with_reducible refine gate_callee (f := 76) rfl ?_); refine goesL_ (some 54) rfl rfl Try.func76 (by kernel_rfl) rfl #[.int .i64 s0_6] rfl (MA) ?_; (with_reducible refine (impl_wordCell.calls s0_6 t367 _ A18.out).mono ?_); rintro e w' ⟨rfl, ⟨nd, rfl⟩⟩; refine ⟨_, rfl, ?_⟩; (try (rw [drewN_self wc]; generalize hq_ : World.drewN wc _ = wc; have n0_ : Aside0 (Kd.R (Kd.int .i64) 3 wc w0.heap.size (fun k_ => (P1_ k_ ∨ wv.heap.size ≤ k_)) u9000_ l1) := ⟨by rw [← hq_]; exact (RQ HO_1.out)⟩; have n1_ : Aside0 (IsS46 w0 wc g s0_0 s0_1 s0_2 s0_3 s0_4 s0_5 s0_6 s0_7 s0_8 s0_9 s0_10) := ⟨by rw [← hq_]; exact (impl_Task_walk.k0 HI0.out)⟩; have n2_ : Aside0 (Kept wv wc (fun k_ => (P1_ k_) ∨ k_ = g)) := ⟨by rw [← hq_]; exact (impl_Task_walk.k1 HK.out)⟩; have n3_ : Aside0 (Below w0.heap.size w0 wc) := ⟨by rw [← hq_]; exact (impl_Task_walk.k2 HB.out)⟩; clear HO_1 HI0 HK HB hq_; have HO_1 := n0_; have HI0 := n1_; have HK := n2_; have HB := n3_; clear n0_ n1_ n2_ n3_)); have hczY_0 := cellS46_0 (HI0.out).1; have hczY_1 := cellS46_1 (HI0.out).1; have hczY_2 := cellS46_2 (HI0.out).1; have hczY_3 := cellS46_3 (HI0.out).1; have hczY_4 := cellS46_4 (HI0.out).1; have hczY_5 := cellS46_5 (HI0.out).1; have hczY_6 := cellS46_6 (HI0.out).1; have hczY_7 := cellS46_7 (HI0.out).1; have hczY_8 := cellS46_8 (HI0.out).1; have hczY_9 := cellS46_9 (HI0.out).1; have hczY_10 := cellS46_10 (HI0.out).1; have hfzY_0 := blk_frozen (HI0.out).1 0; have hfzY_1 := blk_frozen (HI0.out).1 1; have hfzY_2 := blk_frozen (HI0.out).1 2; have hfzY_3 := blk_frozen (HI0.out).1 3; have hfzY_4 := blk_frozen (HI0.out).1 4; have hfzY_5 := blk_frozen (HI0.out).1 5; have hfzY_6 := blk_frozen (HI0.out).1 6; have hfzY_7 := blk_frozen (HI0.out).1 7; have hfzY_8 := blk_frozen (HI0.out).1 8; have hfzY_9 := blk_frozen (HI0.out).1 9; have hfzY_10 := blk_frozen (HI0.out).1 10; obtain ⟨Ao23, co23, eo23⟩ := Kd.R_slice HO_1.out; subst eo23; have p368 : 0 ≤ (t367 : Int) := of_decide_eq_true AS; have q368 : t367 < (l1.length : Int) := of_decide_eq_true AS; obtain ⟨ad368, e368, hx368_0⟩ := Kd.at_int (Kd.R_reads' HO_1.out).2.2 t367 p368 q368; cases e368; replace p368 := eq_true p368; replace q368 := eq_true q368) | ((with_reducible refine gate_callee (f := 75) rfl ?_); refine goesL_ (some 61) rfl rfl Try.func75 (by kernel_rfl) rfl #[.int .i64 (rd l1 t367)] rfl (MA) ?_; (with_reducible refine (impl_nodeOf.calls (rd l1 t367) t369 _ A21.out).mono ?_); rintro e w' ⟨rfl, ⟨nd, rfl⟩⟩; refine ⟨_, rfl, ?_⟩; (try (rw [drewN_self wc]; generalize hq_ : World.drewN wc _ = wc; have n0_ : Aside0 (Kd.R (Kd.int .i64) 3 wc w0.heap.size (fun k_ => (P1_ k_ ∨ wv.heap.size ≤ k_)) (.slice (some ad368) l1.length co23) l1) := ⟨by rw [← hq_]; exact (RQ HO_1.out)⟩; have n1_ : Aside0 (IsS46 w0 wc g s0_0 s0_1 s0_2 s0_3 s0_4 s0_5 s0_6 s0_7 s0_8 s0_9 s0_10) := ⟨by rw [← hq_]; exact (impl_Task_walk.k0 HI0.out)⟩; have n2_ : Aside0 (Kept wv wc (fun k_ => (P1_ k_) ∨ k_ = g)) := ⟨by rw [← hq_]; exact (impl_Task_walk.k1 HK.out)⟩; have n3_ : Aside0 (Below w0.heap.size w0 wc) := ⟨by rw [← hq_]; exact (impl_Task_walk.k2 HB.out)⟩; clear HO_1 HI0 HK HB hq_; have HO_1 := n0_; have HI0 := n1_; have HK := n2_; have HB := n3_; clear n0_ n1_ n2_ n3_)); have hczY_0 := cellS46_0 (HI0.out).1; have hczY_1 := cellS46_1 (HI0.out).1; have hczY_2 := cellS46_2 (HI0.out).1; have hczY_3 := cellS46_3 (HI0.out).1; have hczY_4 := cellS46_4 (HI0.out).1; have hczY_5 := cellS46_5 (HI0.out).1; have hczY_6 := cellS46_6 (HI0.out).1; have hczY_7 := cellS46_7 (HI0.out).1; have hczY_8 := cellS46_8 (HI0.out).1; have hczY_9 := cellS46_9 (HI0.out).1; have hczY_10 := cellS46_10 (HI0.out).1; have hfzY_0 := blk_frozen (HI0.out).1 0; have hfzY_1 := blk_frozen (HI0.out).1 1; have hfzY_2 := blk_frozen (HI0.out).1 2; have hfzY_3 := blk_frozen (HI0.out).1 3; have hfzY_4 := blk_frozen (HI0.out).1 4; have hfzY_5 := blk_frozen (HI0.out).1 5; have hfzY_6 := blk_frozen (HI0.out).1 6; have hfzY_7 := blk_frozen (HI0.out).1 7; have hfzY_8 := blk_frozen (HI0.out).1 8; have hfzY_9 := blk_frozen (HI0.out).1 9; have hfzY_10 := blk_frozen (HI0.out).1 10))
    first | go_end0 | ((try simp only [Exit.inBlock, Exit.then]); refine bodyPost_ret (results_none rfl _ _ _) rfl ?_)
    exact ⟨EE, impl_Task_walk.k0 HI0.out, by (with_reducible repeat (first | apply r1 | apply r2 | apply r3)); exact Kd.R_mono (Kd.R_far (p := ⟨g, 4, none⟩) (Kd.R_far (p := ⟨g, 8, none⟩) (Kd.R_far (p := ⟨g, 7, none⟩) (IsS46.apart HI0.out HO_1.out (by decide)) (fun _ hk => hk.2) (.int .i64 t369)) (fun _ hk => hk.2) (.int .i64 (Go.bits .and .i64 (rd l1 t367) 1))) (fun _ hk => hk.2) (.int .i64 2)) (fun _ hk => hk.1), impl_Task_walk.k2 HB.out, impl_Task_walk.k1 HK.out⟩
   rw [if_neg c17] at H; have c17b0 : (s0_4 == 1) = false := beq_eq_false_iff_ne.mpr c17; have c17b1 : (s0_4 != 1) = true := bne_iff_ne.mpr c17
   by_cases c24 : s0_8 = 1
   ·
    rw [if_pos c24] at H; have c24b0 : (s0_8 == 1) = true := beq_iff_eq.mpr c24; have c24b1 : (s0_8 != 1) = false := bne_eq_false_iff_eq.mpr c24; clear c24; replace H := Option.bind_eq_some_iff.mp H; obtain ⟨⟨t370, t371⟩, A250, H⟩ := H; replace H : (if t370 = true then (some (s0_0, s0_1, s0_2, s0_3, 1, s0_5, s0_7, s0_7, s0_8, s0_9, s0_10, t371)) else (some (s0_0, s0_1, s0_2, s0_3, 0, s0_5, s0_6, s0_7, s0_8, s0_9, s0_10, t371))) = some (r1, r2, r3, r4, r5, r6, r7, r8, r9, r10, r11, r12) := H; have A25 := Aside0.mk A250; clear A250
    by_cases c26 : t370 = true
    ·
     subst c26
     have H1 : (some (s0_0, s0_1, s0_2, s0_3, 1, s0_5, s0_7, s0_7, s0_8, s0_9, s0_10, t371)) = some (r1, r2, r3, r4, r5, r6, r7, r8, r9, r10, r11, r12) := by rw [if_pos rfl] at H; exact H
     clear H; have H := H1; clear H1; simp only [Option.some.injEq, Prod.mk.injEq] at H; obtain ⟨rfl, rfl, rfl, rfl, rfl, rfl, rfl, rfl, rfl, rfl, rfl, rfl⟩ := H; obtain ⟨HGz27, hgz27⟩ := HI0.out; have hcz27_0 := cellS46_0 HGz27; have hcz27_1 := cellS46_1 HGz27; have hcz27_2 := cellS46_2 HGz27; have hcz27_3 := cellS46_3 HGz27; have hcz27_4 := cellS46_4 HGz27; have hcz27_5 := cellS46_5 HGz27; have hcz27_6 := cellS46_6 HGz27; have hcz27_7 := cellS46_7 HGz27; have hcz27_8 := cellS46_8 HGz27; have hcz27_9 := cellS46_9 HGz27; have hcz27_10 := cellS46_10 HGz27; have hfz27_0 := blk_frozen HGz27 0; have hfz27_1 := blk_frozen HGz27 1; have hfz27_2 := blk_frozen HGz27 2; have hfz27_3 := blk_frozen HGz27 3; have hfz27_4 := blk_frozen HGz27 4; have hfz27_5 := blk_frozen HGz27 5; have hfz27_6 := blk_frozen HGz27 6; have hfz27_7 := blk_frozen HGz27 7; have hfz27_8 := blk_frozen HGz27 8; have hfz27_9 := blk_frozen HGz27 9; have hfz27_10 := blk_frozen HGz27 10; clear HGz27 hgz27
     try go_wp2
     have n0_ := Aside0.mk (Kd.R_drew HO_1.out); have n1_ := Aside0.mk (IsS46.drew HI0.out); have n2_ := Aside0.mk (Kept.drew HK.out); have n3_ := Aside0.mk (below_drew1 HB.out); clear HO_1; clear HI0; clear HK; clear HB; have HO_1 := n0_; have HI0 := n1_; have HK := n2_; have HB := n3_; clear n0_ n1_ n2_ n3_; obtain ⟨Ao29, co29, eo29⟩ := Kd.R_slice HO_1.out
     (first | subst eo29 | (injection eo29 with f1_ f2_ f3_; have f4_ := f1_.symm; have f5_ := f3_.symm; clear f1_ f2_ f3_; subst f4_; subst f5_))
     refine start_ (n := 16) (S := fun w' => w'.cell? ⟨g, 0, none⟩ = some (.int .i64 s0_0) ∧ w'.cell? ⟨g, 1, none⟩ = some (.int .i64 s0_1) ∧ w'.cell? ⟨g, 2, none⟩ = some (.int .i64 s0_2) ∧ w'.cell? ⟨g, 3, none⟩ = some (.int .i64 s0_3) ∧ w'.cell? ⟨g, 4, none⟩ = some (.int .i64 s0_4) ∧ w'.cell? ⟨g, 5, none⟩ = some (.int .i64 s0_5) ∧ w'.cell? ⟨g, 6, none⟩ = some (.int .i64 s0_6) ∧ w'.cell? ⟨g, 7, none⟩ = some (.int .i64 s0_7) ∧ w'.cell? ⟨g, 8, none⟩ = some (.int .i64 s0_8) ∧ w'.cell? ⟨g, 9, none⟩ = some (.bool s0_9) ∧ w'.cell? ⟨g, 10, none⟩ = some (.int .i64 s0_10)) (ds := []) #[false, false, false, false, false, false, false, false, false, false, false, false, false, false, false, false] (by kernel_rfl) rfl rfl ⟨(blk_cell (Aside0.mk (HI0.out).1).out 0).trans rfl, (blk_cell (Aside0.mk (HI0.out).1).out 1).trans rfl, (blk_cell (Aside0.mk (HI0.out).1).out 2).trans rfl, (blk_cell (Aside0.mk (HI0.out).1).out 3).trans rfl, (blk_cell (Aside0.mk (HI0.out).1).out 4).trans rfl, (blk_cell (Aside0.mk (HI0.out).1).out 5).trans rfl, (blk_cell (Aside0.mk (HI0.out).1).out 6).trans rfl, (blk_cell (Aside0.mk (HI0.out).1).out 7).trans rfl, (blk_cell (Aside0.mk (HI0.out).1).out 8).trans rfl, (blk_cell (Aside0.mk (HI0.out).1).out 9).trans rfl, (blk_cell (Aside0.mk (HI0.out).1).out 10).trans rfl⟩ (fun hHeld => ?_); refine with_tabW impl_Task_walk.tab9 impl_Task_walk.bits9 (fun HT_ HW_ => ?_); generalize wc.drew = w28 at HO_1 HI0 HK HB hHeld ⊢; refine pV 0 76 (OB 16 1) ?_; refine pV 1 77 (OB 16 3) ?_; refine pV 2 78 (OB 16 7) ?_; refine pV 3 79 (OB 16 15) ?_; refine pV 5 81 (OB 16 47) ?_; refine pV 6 82 (OB 16 111) ?_; refine pV 7 83 (OB 16 239) ?_; refine pV 10 86 (OB 16 1263) ?_; refine pV 11 87 (OB 16 3311) ?_; refine pV 12 88 (OB 16 7407) ?_; refine pT 4 80 (OB 16 7423) ?_; refine pT 8 84 (OB 16 7679) ?_; refine pV 9 85 (OB 16 8191) ?_; refine pT 13 89 (OB 16 16383) ?_; refine pV 14 90 (OB 16 32767) ?_; refine one_ (i := 15) (N := some 91) (OB 16 65535) rfl rfl (one_of HT_.out (by kernel_rfl)) (by decide) (fun K hK => ?_); refine goes_ Try.func82 (by kernel_rfl) rfl #[.slice Ao29 l1.length co29, .int .i64 s0_5, .int .i64 (wrap64 (2 * s0_6)), .int .i64 (wrap64 (2 * s0_7))] (by rfl) rfl rfl (MA) ?_
     with_reducible refine (impl_swapWord.calls (fun k_ => some k_ = (.slice Ao29 l1.length co29 : Value).ownBlock) (.slice Ao29 l1.length co29) l1 s0_5 (wrap64 (2 * s0_6)) (wrap64 (2 * s0_7)) true t371 w0 _ ?side1 ?side2 A25.out).mono ?_
     (case side1 => exact impl_Task_walk.k2 HB.out)
     (case side2 => exact Kd.R_tight rfl HO_1.out)
     rintro e w30 ⟨rfl, hy0, hb, hkp⟩; refine ⟨_, rfl, ?_⟩; have n0_ := Aside0.mk (Kd.R_reok rfl hy0 (fun k_ e_ => HO_1.out.1 k_ e_)); have n1_ := Aside0.mk (IsS46.kept (impl_Task_walk.k0 HI0.out) hkp (fun hs_ => (fun e_ => (IsS46.own_ne HI0.out HO_1.out (by decide)) e_) hs_)); have n2_ := Aside0.mk (Kept.then_ (S := (fun k_ => (P1_ k_) ∨ k_ = g)) (impl_Task_walk.k1 HK.out) hkp (fun k_ hs_ => (fun e_ => Or.imp_left Or.inl ((HO_1.out.1 k_ e_.symm))) hs_)); have n3_ := Aside0.mk (hb); clear HO_1; clear HI0; clear HK; clear HB; have HO_1 := n0_; have HI0 := n1_; have HK := n2_; have HB := n3_; clear n0_ n1_ n2_ n3_
     (try clear hb)
     (try clear hkp)
     (try clear hy0)
     refine hK.out _ _ ⟨(blk_cell (Aside0.mk (HI0.out).1).out 0).trans rfl, (blk_cell (Aside0.mk (HI0.out).1).out 1).trans rfl, (blk_cell (Aside0.mk (HI0.out).1).out 2).trans rfl, (blk_cell (Aside0.mk (HI0.out).1).out 3).trans rfl, (blk_cell (Aside0.mk (HI0.out).1).out 4).trans rfl, (blk_cell (Aside0.mk (HI0.out).1).out 5).trans rfl, (blk_cell (Aside0.mk (HI0.out).1).out 6).trans rfl, (blk_cell (Aside0.mk (HI0.out).1).out 7).trans rfl, (blk_cell (Aside0.mk (HI0.out).1).out 8).trans rfl, (blk_cell (Aside0.mk (HI0.out).1).out 9).trans rfl, (blk_cell (Aside0.mk (HI0.out).1).out 10).trans rfl⟩ (fun hHeld => ?_); clear hK K; refine norm_ (a' := ?_) ?_ ?_; rotate_left
     ·
      show Act.put _ (some 91) _ = _; simp only [Act.put, zA, zB, zC, i64_w, i32_w]; rfl
     refine done_ (done_of HT_.out (by kernel_rfl)) ?_; obtain ⟨HGz31, hgz31⟩ := HI0.out; have hcz31_0 := cellS46_0 HGz31; have hcz31_1 := cellS46_1 HGz31; have hcz31_2 := cellS46_2 HGz31; have hcz31_3 := cellS46_3 HGz31; have hcz31_4 := cellS46_4 HGz31; have hcz31_5 := cellS46_5 HGz31; have hcz31_6 := cellS46_6 HGz31; have hcz31_7 := cellS46_7 HGz31; have hcz31_8 := cellS46_8 HGz31; have hcz31_9 := cellS46_9 HGz31; have hcz31_10 := cellS46_10 HGz31; have hfz31_0 := blk_frozen HGz31 0; have hfz31_1 := blk_frozen HGz31 1; have hfz31_2 := blk_frozen HGz31 2; have hfz31_3 := blk_frozen HGz31 3; have hfz31_4 := blk_frozen HGz31 4; have hfz31_5 := blk_frozen HGz31 5; have hfz31_6 := blk_frozen HGz31 6; have hfz31_7 := blk_frozen HGz31 7; have hfz31_8 := blk_frozen HGz31 8; have hfz31_9 := blk_frozen HGz31 9; have hfz31_10 := blk_frozen HGz31 10; clear HGz31 hgz31
     try go_wp2
     first | go_end0 | ((try simp only [Exit.inBlock, Exit.then]); refine bodyPost_ret (results_none rfl _ _ _) rfl ?_)
     exact ⟨EE, impl_Task_walk.k0 HI0.out, by (with_reducible repeat (first | apply r1 | apply r2 | apply r3)); exact Kd.R_mono (Kd.R_far (p := ⟨g, 4, none⟩) (Kd.R_far (p := ⟨g, 6, none⟩) (IsS46.apart HI0.out HO_1.out (by decide)) (fun _ hk => hk.2) (.int .i64 s0_7)) (fun _ hk => hk.2) (.int .i64 1)) (fun _ hk => hk.1), impl_Task_walk.k2 HB.out, impl_Task_walk.k1 HK.out⟩
    replace c26 := Bool.eq_false_iff.mpr c26; subst c26
    have H1 : (some (s0_0, s0_1, s0_2, s0_3, 0, s0_5, s0_6, s0_7, s0_8, s0_9, s0_10, t371)) = some (r1, r2, r3, r4, r5, r6, r7, r8, r9, r10, r11, r12) := by rw [if_neg (show ¬ (false = true) by decide)] at H; exact H
    clear H; have H := H1; clear H1; simp only [Option.some.injEq, Prod.mk.injEq] at H; obtain ⟨rfl, rfl, rfl, rfl, rfl, rfl, rfl, rfl, rfl, rfl, rfl, rfl⟩ := H; obtain ⟨HGz32, hgz32⟩ := HI0.out; have hcz32_0 := cellS46_0 HGz32; have hcz32_1 := cellS46_1 HGz32; have hcz32_2 := cellS46_2 HGz32; have hcz32_3 := cellS46_3 HGz32; have hcz32_4 := cellS46_4 HGz32; have hcz32_5 := cellS46_5 HGz32; have hcz32_6 := cellS46_6 HGz32; have hcz32_7 := cellS46_7 HGz32; have hcz32_8 := cellS46_8 HGz32; have hcz32_9 := cellS46_9 HGz32; have hcz32_10 := cellS46_10 HGz32; have hfz32_0 := blk_frozen HGz32 0; have hfz32_1 := blk_frozen HGz32 1; have hfz32_2 := blk_frozen HGz32 2; have hfz32_3 := blk_frozen HGz32 3; have hfz32_4 := blk_frozen HGz32 4; have hfz32_5 := blk_frozen HGz32 5; have hfz32_6 := blk_frozen HGz32 6; have hfz32_7 := blk_frozen HGz32 7; have hfz32_8 := blk_frozen HGz32 8; have hfz32_9 := blk_frozen HGz32 9; have hfz32_10 := blk_frozen HGz32 10; clear HGz32 hgz32
    try go_wp2
    have n0_ := Aside0.mk (Kd.R_drew HO_1.out); have n1_ := Aside0.mk (IsS46.drew HI0.out); have n2_ := Aside0.mk (Kept.drew HK.out); have n3_ := Aside0.mk (below_drew1 HB.out); clear HO_1; clear HI0; clear HK; clear HB; have HO_1 := n0_; have HI0 := n1_; have HK := n2_; have HB := n3_; clear n0_ n1_ n2_ n3_; obtain ⟨Ao34, co34, eo34⟩ := Kd.R_slice HO_1.out
    (first | subst eo34 | (injection eo34 with f1_ f2_ f3_; have f4_ := f1_.symm; have f5_ := f3_.symm; clear f1_ f2_ f3_; subst f4_; subst f5_))
    refine start_ (n := 16) (S := fun w' => w'.cell? ⟨g, 0, none⟩ = some (.int .i64 s0_0) ∧ w'.cell? ⟨g, 1, none⟩ = some (.int .i64 s0_1) ∧ w'.cell? ⟨g, 2, none⟩ = some (.int .i64 s0_2) ∧ w'.cell? ⟨g, 3, none⟩ = some (.int .i64 s0_3) ∧ w'.cell? ⟨g, 4, none⟩ = some (.int .i64 s0_4) ∧ w'.cell? ⟨g, 5, none⟩ = some (.int .i64 s0_5) ∧ w'.cell? ⟨g, 6, none⟩ = some (.int .i64 s0_6) ∧ w'.cell? ⟨g, 7, none⟩ = some (.int .i64 s0_7) ∧ w'.cell? ⟨g, 8, none⟩ = some (.int .i64 s0_8) ∧ w'.cell? ⟨g, 9, none⟩ = some (.bool s0_9) ∧ w'.cell? ⟨g, 10, none⟩ = some (.int .i64 s0_10)) (ds := []) #[false, false, false, false, false, false, false, false, false, false, false, false, false, false, false, false] (by kernel_rfl) rfl rfl ⟨(blk_cell (Aside0.mk (HI0.out).1).out 0).trans rfl, (blk_cell (Aside0.mk (HI0.out).1).out 1).trans rfl, (blk_cell (Aside0.mk (HI0.out).1).out 2).trans rfl, (blk_cell (Aside0.mk (HI0.out).1).out 3).trans rfl, (blk_cell (Aside0.mk (HI0.out).1).out 4).trans rfl, (blk_cell (Aside0.mk (HI0.out).1).out 5).trans rfl, (blk_cell (Aside0.mk (HI0.out).1).out 6).trans rfl, (blk_cell (Aside0.mk (HI0.out).1).out 7).trans rfl, (blk_cell (Aside0.mk (HI0.out).1).out 8).trans rfl, (blk_cell (Aside0.mk (HI0.out).1).out 9).trans rfl, (blk_cell (Aside0.mk (HI0.out).1).out 10).trans rfl⟩ (fun hHeld => ?_); refine with_tabW impl_Task_walk.tab9 impl_Task_walk.bits9 (fun HT_ HW_ => ?_); generalize wc.drew = w33 at HO_1 HI0 HK HB hHeld ⊢; refine pV 0 76 (OB 16 1) ?_; refine pV 1 77 (OB 16 3) ?_; refine pV 2 78 (OB 16 7) ?_; refine pV 3 79 (OB 16 15) ?_; refine pV 5 81 (OB 16 47) ?_; refine pV 6 82 (OB 16 111) ?_; refine pV 7 83 (OB 16 239) ?_; refine pV 10 86 (OB 16 1263) ?_; refine pV 11 87 (OB 16 3311) ?_; refine pV 12 88 (OB 16 7407) ?_; refine pT 4 80 (OB 16 7423) ?_; refine pT 8 84 (OB 16 7679) ?_; refine pV 9 85 (OB 16 8191) ?_; refine pT 13 89 (OB 16 16383) ?_; refine pV 14 90 (OB 16 32767) ?_; refine one_ (i := 15) (N := some 91) (OB 16 65535) rfl rfl (one_of HT_.out (by kernel_rfl)) (by decide) (fun K hK => ?_); refine goes_ Try.func82 (by kernel_rfl) rfl #[.slice Ao34 l1.length co34, .int .i64 s0_5, .int .i64 (wrap64 (2 * s0_6)), .int .i64 (wrap64 (2 * s0_7))] (by rfl) rfl rfl (MA) ?_
    with_reducible refine (impl_swapWord.calls (fun k_ => some k_ = (.slice Ao34 l1.length co34 : Value).ownBlock) (.slice Ao34 l1.length co34) l1 s0_5 (wrap64 (2 * s0_6)) (wrap64 (2 * s0_7)) false t371 w0 _ ?side1 ?side2 A25.out).mono ?_
    (case side1 => exact impl_Task_walk.k2 HB.out)
    (case side2 => exact Kd.R_tight rfl HO_1.out)
    rintro e w35 ⟨rfl, hy0, hb, hkp⟩; refine ⟨_, rfl, ?_⟩; have n0_ := Aside0.mk (Kd.R_reok rfl hy0 (fun k_ e_ => HO_1.out.1 k_ e_)); have n1_ := Aside0.mk (IsS46.kept (impl_Task_walk.k0 HI0.out) hkp (fun hs_ => (fun e_ => (IsS46.own_ne HI0.out HO_1.out (by decide)) e_) hs_)); have n2_ := Aside0.mk (Kept.then_ (S := (fun k_ => (P1_ k_) ∨ k_ = g)) (impl_Task_walk.k1 HK.out) hkp (fun k_ hs_ => (fun e_ => Or.imp_left Or.inl ((HO_1.out.1 k_ e_.symm))) hs_)); have n3_ := Aside0.mk (hb); clear HO_1; clear HI0; clear HK; clear HB; have HO_1 := n0_; have HI0 := n1_; have HK := n2_; have HB := n3_; clear n0_ n1_ n2_ n3_
    (try clear hb)
    (try clear hkp)
    (try clear hy0)
    refine hK.out _ _ ⟨(blk_cell (Aside0.mk (HI0.out).1).out 0).trans rfl, (blk_cell (Aside0.mk (HI0.out).1).out 1).trans rfl, (blk_cell (Aside0.mk (HI0.out).1).out 2).trans rfl, (blk_cell (Aside0.mk (HI0.out).1).out 3).trans rfl, (blk_cell (Aside0.mk (HI0.out).1).out 4).trans rfl, (blk_cell (Aside0.mk (HI0.out).1).out 5).trans rfl, (blk_cell (Aside0.mk (HI0.out).1).out 6).trans rfl, (blk_cell (Aside0.mk (HI0.out).1).out 7).trans rfl, (blk_cell (Aside0.mk (HI0.out).1).out 8).trans rfl, (blk_cell (Aside0.mk (HI0.out).1).out 9).trans rfl, (blk_cell (Aside0.mk (HI0.out).1).out 10).trans rfl⟩ (fun hHeld => ?_); clear hK K; refine norm_ (a' := ?_) ?_ ?_; rotate_left
    ·
     show Act.put _ (some 91) _ = _; simp only [Act.put, zA, zB, zC, i64_w, i32_w]; rfl
    refine done_ (done_of HT_.out (by kernel_rfl)) ?_; obtain ⟨HGz36, hgz36⟩ := HI0.out; have hcz36_0 := cellS46_0 HGz36; have hcz36_1 := cellS46_1 HGz36; have hcz36_2 := cellS46_2 HGz36; have hcz36_3 := cellS46_3 HGz36; have hcz36_4 := cellS46_4 HGz36; have hcz36_5 := cellS46_5 HGz36; have hcz36_6 := cellS46_6 HGz36; have hcz36_7 := cellS46_7 HGz36; have hcz36_8 := cellS46_8 HGz36; have hcz36_9 := cellS46_9 HGz36; have hcz36_10 := cellS46_10 HGz36; have hfz36_0 := blk_frozen HGz36 0; have hfz36_1 := blk_frozen HGz36 1; have hfz36_2 := blk_frozen HGz36 2; have hfz36_3 := blk_frozen HGz36 3; have hfz36_4 := blk_frozen HGz36 4; have hfz36_5 := blk_frozen HGz36 5; have hfz36_6 := blk_frozen HGz36 6; have hfz36_7 := blk_frozen HGz36 7; have hfz36_8 := blk_frozen HGz36 8; have hfz36_9 := blk_frozen HGz36 9; have hfz36_10 := blk_frozen HGz36 10; clear HGz36 hgz36
    try go_wp2
    first | go_end0 | ((try simp only [Exit.inBlock, Exit.then]); refine bodyPost_ret (results_none rfl _ _ _) rfl ?_)
    exact ⟨EE, impl_Task_walk.k0 HI0.out, by (with_reducible repeat (first | apply r1 | apply r2 | apply r3)); exact Kd.R_mono (Kd.R_far (p := ⟨g, 4, none⟩) (IsS46.apart HI0.out HO_1.out (by decide)) (fun _ hk => hk.2) (.int .i64 0)) (fun _ hk => hk.1), impl_Task_walk.k2 HB.out, impl_Task_walk.k1 HK.out⟩
   rw [if_neg c24] at H; have c24b0 : (s0_8 == 1) = false := beq_eq_false_iff_ne.mpr c24; have c24b1 : (s0_8 != 1) = true := bne_iff_ne.mpr c24; replace H := Option.bind_eq_some_iff.mp H; obtain ⟨t372, A370, H⟩ := H; have A37 := Aside0.mk A370; clear A370
   by_cases c38 : 0 ≤ t372; rotate_left
   ·
    rw [if_neg c38] at H; exact absurd H (by simp)
   rw [if_pos c38] at H; have c38b0 : decide (0 ≤ t372) = true := decide_eq_true c38; clear c38
   by_cases c39 : t372 < (l1.length : Int); rotate_left
   ·
    rw [if_neg c39] at H; exact absurd H (by simp)
   rw [if_pos c39] at H; have c39b0 : decide (t372 < (l1.length : Int)) = true := decide_eq_true c39; clear c39
   by_cases c40 : (rd l1 t372) < s0_1; rotate_left
   ·
    rw [if_neg c40] at H; have c40b0 : decide ((rd l1 t372) < s0_1) = false := decide_eq_false c40; clear c40; simp only [Option.some.injEq, Prod.mk.injEq] at H; obtain ⟨rfl, rfl, rfl, rfl, rfl, rfl, rfl, rfl, rfl, rfl, rfl, rfl⟩ := H; obtain ⟨HGz45, hgz45⟩ := HI0.out; have hcz45_0 := cellS46_0 HGz45; have hcz45_1 := cellS46_1 HGz45; have hcz45_2 := cellS46_2 HGz45; have hcz45_3 := cellS46_3 HGz45; have hcz45_4 := cellS46_4 HGz45; have hcz45_5 := cellS46_5 HGz45; have hcz45_6 := cellS46_6 HGz45; have hcz45_7 := cellS46_7 HGz45; have hcz45_8 := cellS46_8 HGz45; have hcz45_9 := cellS46_9 HGz45; have hcz45_10 := cellS46_10 HGz45; have hfz45_0 := blk_frozen HGz45 0; have hfz45_1 := blk_frozen HGz45 1; have hfz45_2 := blk_frozen HGz45 2; have hfz45_3 := blk_frozen HGz45 3; have hfz45_4 := blk_frozen HGz45 4; have hfz45_5 := blk_frozen HGz45 5; have hfz45_6 := blk_frozen HGz45 6; have hfz45_7 := blk_frozen HGz45 7; have hfz45_8 := blk_frozen HGz45 8; have hfz45_9 := blk_frozen HGz45 9; have hfz45_10 := blk_frozen HGz45 10; clear HGz45 hgz45
    try go_wp2
    have n0_ := Aside0.mk (Kd.R_drew HO_1.out); have n1_ := Aside0.mk (IsS46.drew HI0.out); have n2_ := Aside0.mk (Kept.drew HK.out); have n3_ := Aside0.mk (below_drew1 HB.out); clear HO_1; clear HI0; clear HK; clear HB; have HO_1 := n0_; have HI0 := n1_; have HK := n2_; have HB := n3_; clear n0_ n1_ n2_ n3_; have p373 : 0 ≤ (t372 : Int) := of_decide_eq_true AS; have q373 : t372 < (l1.length : Int) := of_decide_eq_true AS
    (try (obtain ⟨Ao_, co_, eo_⟩ := Kd.R_slice HO_1.out; subst eo_))
    obtain ⟨ad373, e373, hx373_0⟩ := Kd.at_int (Kd.R_reads' HO_1.out).2.2 t372 p373 q373; cases e373; replace p373 := eq_true p373; replace q373 := eq_true q373; refine start_ (n := 14) (S := fun w' => w'.cell? ⟨g, 0, none⟩ = some (.int .i64 s0_0) ∧ w'.cell? ⟨g, 1, none⟩ = some (.int .i64 s0_1) ∧ w'.cell? ⟨g, 2, none⟩ = some (.int .i64 s0_2) ∧ w'.cell? ⟨g, 3, none⟩ = some (.int .i64 s0_3) ∧ w'.cell? ⟨g, 4, none⟩ = some (.int .i64 s0_4) ∧ w'.cell? ⟨g, 5, none⟩ = some (.int .i64 s0_5) ∧ w'.cell? ⟨g, 6, none⟩ = some (.int .i64 s0_6) ∧ w'.cell? ⟨g, 7, none⟩ = some (.int .i64 s0_7) ∧ w'.cell? ⟨g, 8, none⟩ = some (.int .i64 s0_8) ∧ w'.cell? ⟨g, 9, none⟩ = some (.bool s0_9) ∧ w'.cell? ⟨g, 10, none⟩ = some (.int .i64 s0_10) ∧ w'.cell? (ad373.add (t372).toNat) = some (.int .i64 (rd l1 t372))) (ds := []) #[false, false, false, false, false, false, false, false, false, false, false, false, false, false] (by kernel_rfl) rfl rfl ⟨(blk_cell (Aside0.mk (HI0.out).1).out 0).trans rfl, (blk_cell (Aside0.mk (HI0.out).1).out 1).trans rfl, (blk_cell (Aside0.mk (HI0.out).1).out 2).trans rfl, (blk_cell (Aside0.mk (HI0.out).1).out 3).trans rfl, (blk_cell (Aside0.mk (HI0.out).1).out 4).trans rfl, (blk_cell (Aside0.mk (HI0.out).1).out 5).trans rfl, (blk_cell (Aside0.mk (HI0.out).1).out 6).trans rfl, (blk_cell (Aside0.mk (HI0.out).1).out 7).trans rfl, (blk_cell (Aside0.mk (HI0.out).1).out 8).trans rfl, (blk_cell (Aside0.mk (HI0.out).1).out 9).trans rfl, (blk_cell (Aside0.mk (HI0.out).1).out 10).trans rfl, hx373_0⟩ (fun hHeld => ?_); refine with_tabW impl_Task_walk.tab12 impl_Task_walk.bits12 (fun HT_ HW_ => ?_); generalize wc.drew = w46 at HO_1 HI0 HK HB hx373_0 hHeld ⊢; refine pV 0 106 (OB 14 1) ?_; refine pV 1 107 (OB 14 3) ?_; refine pV 2 108 (OB 14 7) ?_; refine pV 3 109 (OB 14 15) ?_; refine pV 8 114 (OB 14 271) ?_; refine pV 9 115 (OB 14 783) ?_; refine pV 10 116 (OB 14 1807) ?_; refine pT 4 110 (OB 14 1823) ?_; refine pT 11 117 (OB 14 3871) ?_; refine one_ (i := 5) (N := some 111) (OB 14 3903) rfl rfl (one_of HT_.out (by kernel_rfl)) (by decide) (fun K hK => ?_); refine goes_ Try.func66 (by kernel_rfl) rfl #[.int .i64 s0_6] (by rfl) rfl rfl (MA) ?_
    with_reducible refine (impl_keyCell.calls s0_6 t372 _ A37.out).mono ?_
    rintro e w' ⟨rfl, ⟨nd, rfl⟩⟩; refine ⟨_, rfl, ?_⟩; obtain ⟨Ao47, co47, eo47⟩ := Kd.R_slice HO_1.out
    (first | subst eo47 | (injection eo47 with f1_ f2_ f3_; have f4_ := f1_.symm; have f5_ := f3_.symm; clear f1_ f2_ f3_; subst f4_; subst f5_))
    refine hK.out _ _ ⟨(blk_cell (Aside0.mk (HI0.out).1).out 0).trans rfl, (blk_cell (Aside0.mk (HI0.out).1).out 1).trans rfl, (blk_cell (Aside0.mk (HI0.out).1).out 2).trans rfl, (blk_cell (Aside0.mk (HI0.out).1).out 3).trans rfl, (blk_cell (Aside0.mk (HI0.out).1).out 4).trans rfl, (blk_cell (Aside0.mk (HI0.out).1).out 5).trans rfl, (blk_cell (Aside0.mk (HI0.out).1).out 6).trans rfl, (blk_cell (Aside0.mk (HI0.out).1).out 7).trans rfl, (blk_cell (Aside0.mk (HI0.out).1).out 8).trans rfl, (blk_cell (Aside0.mk (HI0.out).1).out 9).trans rfl, (blk_cell (Aside0.mk (HI0.out).1).out 10).trans rfl, hHeld.2.2.2.2.2.2.2.2.2.2.2⟩ (fun hHeld => ?_); clear hK K; refine norm_ (a' := ?_) ?_ ?_; rotate_left
    ·
     show Act.put _ (some 111) _ = _; simp only [Act.put, zA, zB, zC, i64_w, i32_w]; rfl
    refine pV 6 112 (OB 14 3967) ?_; refine pT 7 113 (OB 14 4095) ?_; refine pV 12 118 (OB 14 8191) ?_; refine pV 13 105 (OB 14 16383) ?_; refine done_ (done_of HT_.out (by kernel_rfl)) ?_; obtain ⟨HGz48, hgz48⟩ := HI0.out; have hcz48_0 := cellS46_0 HGz48; have hcz48_1 := cellS46_1 HGz48; have hcz48_2 := cellS46_2 HGz48; have hcz48_3 := cellS46_3 HGz48; have hcz48_4 := cellS46_4 HGz48; have hcz48_5 := cellS46_5 HGz48; have hcz48_6 := cellS46_6 HGz48; have hcz48_7 := cellS46_7 HGz48; have hcz48_8 := cellS46_8 HGz48; have hcz48_9 := cellS46_9 HGz48; have hcz48_10 := cellS46_10 HGz48; have hfz48_0 := blk_frozen HGz48 0; have hfz48_1 := blk_frozen HGz48 1; have hfz48_2 := blk_frozen HGz48 2; have hfz48_3 := blk_frozen HGz48 3; have hfz48_4 := blk_frozen HGz48 4; have hfz48_5 := blk_frozen HGz48 5; have hfz48_6 := blk_frozen HGz48 6; have hfz48_7 := blk_frozen HGz48 7; have hfz48_8 := blk_frozen HGz48 8; have hfz48_9 := blk_frozen HGz48 9; have hfz48_10 := blk_frozen HGz48 10; clear HGz48 hgz48
    try go_wp2
    first | go_end0 | ((try simp only [Exit.inBlock, Exit.then]); refine bodyPost_ret (results_none rfl _ _ _) rfl ?_)
    exact ⟨EE, impl_Task_walk.k0 HI0.out, by (with_reducible repeat (first | apply r1 | apply r2 | apply r3)); exact Kd.R_mono (Kd.R_far (p := ⟨g, 4, none⟩) (IsS46.apart HI0.out HO_1.out (by decide)) (fun _ hk => hk.2) (.int .i64 3)) (fun _ hk => hk.1), impl_Task_walk.k2 HB.out, impl_Task_walk.k1 HK.out⟩
   rw [if_pos c40] at H; have c40b0 : decide ((rd l1 t372) < s0_1) = true := decide_eq_true c40; clear c40; simp only [Option.some.injEq, Prod.mk.injEq] at H; obtain ⟨rfl, rfl, rfl, rfl, rfl, rfl, rfl, rfl, rfl, rfl, rfl, rfl⟩ := H; obtain ⟨HGz41, hgz41⟩ := HI0.out; have hcz41_0 := cellS46_0 HGz41; have hcz41_1 := cellS46_1 HGz41; have hcz41_2 := cellS46_2 HGz41; have hcz41_3 := cellS46_3 HGz41; have hcz41_4 := cellS46_4 HGz41; have hcz41_5 := cellS46_5 HGz41; have hcz41_6 := cellS46_6 HGz41; have hcz41_7 := cellS46_7 HGz41; have hcz41_8 := cellS46_8 HGz41; have hcz41_9 := cellS46_9 HGz41; have hcz41_10 := cellS46_10 HGz41; have hfz41_0 := blk_frozen HGz41 0; have hfz41_1 := blk_frozen HGz41 1; have hfz41_2 := blk_frozen HGz41 2; have hfz41_3 := blk_frozen HGz41 3; have hfz41_4 := blk_frozen HGz41 4; have hfz41_5 := blk_frozen HGz41 5; have hfz41_6 := blk_frozen HGz41 6; have hfz41_7 := blk_frozen HGz41 7; have hfz41_8 := blk_frozen HGz41 8; have hfz41_9 := blk_frozen HGz41 9; have hfz41_10 := blk_frozen HGz41 10; clear HGz41 hgz41
   try go_wp2
   have n0_ := Aside0.mk (Kd.R_drew HO_1.out); have n1_ := Aside0.mk (IsS46.drew HI0.out); have n2_ := Aside0.mk (Kept.drew HK.out); have n3_ := Aside0.mk (below_drew1 HB.out); clear HO_1; clear HI0; clear HK; clear HB; have HO_1 := n0_; have HI0 := n1_; have HK := n2_; have HB := n3_; clear n0_ n1_ n2_ n3_; have p373 : 0 ≤ (t372 : Int) := of_decide_eq_true AS; have q373 : t372 < (l1.length : Int) := of_decide_eq_true AS
   (try (obtain ⟨Ao_, co_, eo_⟩ := Kd.R_slice HO_1.out; subst eo_))
   obtain ⟨ad373, e373, hx373_0⟩ := Kd.at_int (Kd.R_reads' HO_1.out).2.2 t372 p373 q373; cases e373; replace p373 := eq_true p373; replace q373 := eq_true q373; refine start_ (n := 14) (S := fun w' => w'.cell? ⟨g, 0, none⟩ = some (.int .i64 s0_0) ∧ w'.cell? ⟨g, 1, none⟩ = some (.int .i64 s0_1) ∧ w'.cell? ⟨g, 2, none⟩ = some (.int .i64 s0_2) ∧ w'.cell? ⟨g, 3, none⟩ = some (.int .i64 s0_3) ∧ w'.cell? ⟨g, 4, none⟩ = some (.int .i64 s0_4) ∧ w'.cell? ⟨g, 5, none⟩ = some (.int .i64 s0_5) ∧ w'.cell? ⟨g, 6, none⟩ = some (.int .i64 s0_6) ∧ w'.cell? ⟨g, 7, none⟩ = some (.int .i64 s0_7) ∧ w'.cell? ⟨g, 8, none⟩ = some (.int .i64 s0_8) ∧ w'.cell? ⟨g, 9, none⟩ = some (.bool s0_9) ∧ w'.cell? ⟨g, 10, none⟩ = some (.int .i64 s0_10) ∧ w'.cell? (ad373.add (t372).toNat) = some (.int .i64 (rd l1 t372))) (ds := []) #[false, false, false, false, false, false, false, false, false, false, false, false, false, false] (by kernel_rfl) rfl rfl ⟨(blk_cell (Aside0.mk (HI0.out).1).out 0).trans rfl, (blk_cell (Aside0.mk (HI0.out).1).out 1).trans rfl, (blk_cell (Aside0.mk (HI0.out).1).out 2).trans rfl, (blk_cell (Aside0.mk (HI0.out).1).out 3).trans rfl, (blk_cell (Aside0.mk (HI0.out).1).out 4).trans rfl, (blk_cell (Aside0.mk (HI0.out).1).out 5).trans rfl, (blk_cell (Aside0.mk (HI0.out).1).out 6).trans rfl, (blk_cell (Aside0.mk (HI0.out).1).out 7).trans rfl, (blk_cell (Aside0.mk (HI0.out).1).out 8).trans rfl, (blk_cell (Aside0.mk (HI0.out).1).out 9).trans rfl, (blk_cell (Aside0.mk (HI0.out).1).out 10).trans rfl, hx373_0⟩ (fun hHeld => ?_); refine with_tabW impl_Task_walk.tab12 impl_Task_walk.bits12 (fun HT_ HW_ => ?_); generalize wc.drew = w42 at HO_1 HI0 HK HB hx373_0 hHeld ⊢; refine pV 0 106 (OB 14 1) ?_; refine pV 1 107 (OB 14 3) ?_; refine pV 2 108 (OB 14 7) ?_; refine pV 3 109 (OB 14 15) ?_; refine pV 8 114 (OB 14 271) ?_; refine pV 9 115 (OB 14 783) ?_; refine pV 10 116 (OB 14 1807) ?_; refine pT 4 110 (OB 14 1823) ?_; refine pT 11 117 (OB 14 3871) ?_; refine one_ (i := 5) (N := some 111) (OB 14 3903) rfl rfl (one_of HT_.out (by kernel_rfl)) (by decide) (fun K hK => ?_); refine goes_ Try.func66 (by kernel_rfl) rfl #[.int .i64 s0_6] (by rfl) rfl rfl (MA) ?_
   with_reducible refine (impl_keyCell.calls s0_6 t372 _ A37.out).mono ?_
   rintro e w' ⟨rfl, ⟨nd, rfl⟩⟩; refine ⟨_, rfl, ?_⟩; obtain ⟨Ao43, co43, eo43⟩ := Kd.R_slice HO_1.out
   (first | subst eo43 | (injection eo43 with f1_ f2_ f3_; have f4_ := f1_.symm; have f5_ := f3_.symm; clear f1_ f2_ f3_; subst f4_; subst f5_))
   refine hK.out _ _ ⟨(blk_cell (Aside0.mk (HI0.out).1).out 0).trans rfl, (blk_cell (Aside0.mk (HI0.out).1).out 1).trans rfl, (blk_cell (Aside0.mk (HI0.out).1).out 2).trans rfl, (blk_cell (Aside0.mk (HI0.out).1).out 3).trans rfl, (blk_cell (Aside0.mk (HI0.out).1).out 4).trans rfl, (blk_cell (Aside0.mk (HI0.out).1).out 5).trans rfl, (blk_cell (Aside0.mk (HI0.out).1).out 6).trans rfl, (blk_cell (Aside0.mk (HI0.out).1).out 7).trans rfl, (blk_cell (Aside0.mk (HI0.out).1).out 8).trans rfl, (blk_cell (Aside0.mk (HI0.out).1).out 9).trans rfl, (blk_cell (Aside0.mk (HI0.out).1).out 10).trans rfl, hHeld.2.2.2.2.2.2.2.2.2.2.2⟩ (fun hHeld => ?_); clear hK K; refine norm_ (a' := ?_) ?_ ?_; rotate_left
   ·
    show Act.put _ (some 111) _ = _; simp only [Act.put, zA, zB, zC, i64_w, i32_w]; rfl
   refine pV 6 112 (OB 14 3967) ?_; refine pT 7 113 (OB 14 4095) ?_; refine pV 12 118 (OB 14 8191) ?_; refine pV 13 105 (OB 14 16383) ?_; refine done_ (done_of HT_.out (by kernel_rfl)) ?_
   try go_wp2
   (try (rw [drewN_self w42]; generalize hq_ : World.drewN w42 _ = w42; have n0_ : Aside0 (Kd.R (Kd.int .i64) 3 w42 w0.heap.size (fun k_ => (P1_ k_ ∨ wv.heap.size ≤ k_)) (.slice (some ad373) l1.length co43) l1) := ⟨by rw [← hq_]; exact (RQ HO_1.out)⟩; have n1_ : Aside0 (IsS46 w0 w42 g s0_0 s0_1 s0_2 s0_3 s0_4 s0_5 s0_6 s0_7 s0_8 s0_9 s0_10) := ⟨by rw [← hq_]; exact (impl_Task_walk.k0 HI0.out)⟩; have n2_ : Aside0 (Kept wv w42 (fun k_ => (P1_ k_) ∨ k_ = g)) := ⟨by rw [← hq_]; exact (impl_Task_walk.k1 HK.out)⟩; have n3_ : Aside0 (Below w0.heap.size w0 w42) := ⟨by rw [← hq_]; exact (impl_Task_walk.k2 HB.out)⟩; clear HO_1 HI0 HK HB hq_; have HO_1 := n0_; have HI0 := n1_; have HK := n2_; have HB := n3_; clear n0_ n1_ n2_ n3_)); have hczY_0 := cellS46_0 (HI0.out).1; have hczY_1 := cellS46_1 (HI0.out).1; have hczY_2 := cellS46_2 (HI0.out).1; have hczY_3 := cellS46_3 (HI0.out).1; have hczY_4 := cellS46_4 (HI0.out).1; have hczY_5 := cellS46_5 (HI0.out).1; have hczY_6 := cellS46_6 (HI0.out).1; have hczY_7 := cellS46_7 (HI0.out).1; have hczY_8 := cellS46_8 (HI0.out).1; have hczY_9 := cellS46_9 (HI0.out).1; have hczY_10 := cellS46_10 (HI0.out).1; have hfzY_0 := blk_frozen (HI0.out).1 0; have hfzY_1 := blk_frozen (HI0.out).1 1; have hfzY_2 := blk_frozen (HI0.out).1 2; have hfzY_3 := blk_frozen (HI0.out).1 3; have hfzY_4 := blk_frozen (HI0.out).1 4; have hfzY_5 := blk_frozen (HI0.out).1 5; have hfzY_6 := blk_frozen (HI0.out).1 6; have hfzY_7 := blk_frozen (HI0.out).1 7; have hfzY_8 := blk_frozen (HI0.out).1 8; have hfzY_9 := blk_frozen (HI0.out).1 9; have hfzY_10 := blk_frozen (HI0.out).1 10
   have n0_ := Aside0.mk (Kd.R_drew HO_1.out); have n1_ := Aside0.mk (IsS46.drew HI0.out); have n2_ := Aside0.mk (Kept.drew HK.out); have n3_ := Aside0.mk (below_drew1 HB.out); clear HO_1; clear HI0; clear HK; clear HB; have HO_1 := n0_; have HI0 := n1_; have HK := n2_; have HB := n3_; clear n0_ n1_ n2_ n3_; refine start_ (n := 20) (S := fun w' => w'.cell? ⟨g, 0, none⟩ = some (.int .i64 s0_0) ∧ w'.cell? ⟨g, 1, none⟩ = some (.int .i64 s0_1) ∧ w'.cell? ⟨g, 2, none⟩ = some (.int .i64 s0_2) ∧ w'.cell? ⟨g, 3, none⟩ = some (.int .i64 s0_3) ∧ w'.cell? ⟨g, 4, none⟩ = some (.int .i64 s0_4) ∧ w'.cell? ⟨g, 5, none⟩ = some (.int .i64 s0_5) ∧ w'.cell? ⟨g, 6, none⟩ = some (.int .i64 s0_6) ∧ w'.cell? ⟨g, 7, none⟩ = some (.int .i64 s0_7) ∧ w'.cell? ⟨g, 8, none⟩ = some (.int .i64 s0_8) ∧ w'.cell? ⟨g, 9, none⟩ = some (.bool s0_9) ∧ w'.cell? ⟨g, 10, none⟩ = some (.int .i64 s0_10)) (ds := [13, 16, 19]) #[false, false, false, false, false, false, false, false, false, false, false, false, false, false, false, false, false, false, false, false] (by kernel_rfl) rfl rfl ⟨(blk_cell (Aside0.mk (HI0.out).1).out 0).trans rfl, (blk_cell (Aside0.mk (HI0.out).1).out 1).trans rfl, (blk_cell (Aside0.mk (HI0.out).1).out 2).trans rfl, (blk_cell (Aside0.mk (HI0.out).1).out 3).trans rfl, (blk_cell (Aside0.mk (HI0.out).1).out 4).trans rfl, (blk_cell (Aside0.mk (HI0.out).1).out 5).trans rfl, (blk_cell (Aside0.mk (HI0.out).1).out 6).trans rfl, (blk_cell (Aside0.mk (HI0.out).1).out 7).trans rfl, (blk_cell (Aside0.mk (HI0.out).1).out 8).trans rfl, (blk_cell (Aside0.mk (HI0.out).1).out 9).trans rfl, (blk_cell (Aside0.mk (HI0.out).1).out 10).trans rfl⟩ (fun hHeld => ?_); refine with_tabW impl_Task_walk.tab13 impl_Task_walk.bits13 (fun HT_ HW_ => ?_); generalize w42.drew = w44 at HO_1 HI0 HK HB hHeld ⊢; have hczY_0 := cellS46_0 (HI0.out).1; have hczY_1 := cellS46_1 (HI0.out).1; have hczY_2 := cellS46_2 (HI0.out).1; have hczY_3 := cellS46_3 (HI0.out).1; have hczY_4 := cellS46_4 (HI0.out).1; have hczY_5 := cellS46_5 (HI0.out).1; have hczY_6 := cellS46_6 (HI0.out).1; have hczY_7 := cellS46_7 (HI0.out).1; have hczY_8 := cellS46_8 (HI0.out).1; have hczY_9 := cellS46_9 (HI0.out).1; have hczY_10 := cellS46_10 (HI0.out).1; have hfzY_0 := blk_frozen (HI0.out).1 0; have hfzY_1 := blk_frozen (HI0.out).1 1; have hfzY_2 := blk_frozen (HI0.out).1 2; have hfzY_3 := blk_frozen (HI0.out).1 3; have hfzY_4 := blk_frozen (HI0.out).1 4; have hfzY_5 := blk_frozen (HI0.out).1 5; have hfzY_6 := blk_frozen (HI0.out).1 6; have hfzY_7 := blk_frozen (HI0.out).1 7; have hfzY_8 := blk_frozen (HI0.out).1 8; have hfzY_9 := blk_frozen (HI0.out).1 9; have hfzY_10 := blk_frozen (HI0.out).1 10; refine pV 0 119 (OB 20 1) ?_; refine pV 1 120 (OB 20 3) ?_; refine pV 2 121 (OB 20 7) ?_; refine pV 3 122 (OB 20 15) ?_; refine pV 4 123 (OB 20 31) ?_; refine pV 5 124 (OB 20 63) ?_; refine pV 7 126 (OB 20 191) ?_; refine pV 8 127 (OB 20 447) ?_; refine pV 9 128 (OB 20 959) ?_; refine pT 6 125 (OB 20 1023) ?_; refine pT 10 129 (OB 20 2047) ?_; refine pV 11 130 (OB 20 4095) ?_; refine pV 12 131 (OB 20 8191) ?_; refine last_ (i := 13) (N := none) #[true, true, true, true, true, true, true, true, true, true, true, true, true, true, false, false, false, false, false, false] rfl rfl (one_of HT_.out (by kernel_rfl)) (by decide) (fun K hK => ?_); refine skip_ (w1 := ?_) (by rfl) rfl ?_ ?_; rotate_left
   ·
    go_simp
    rfl
   refine hK.out _ _ ?_; clear hK K; refine pV 14 132 (OB 20 32767) ?_; refine pV 15 133 (OB 20 65535) ?_; refine last_ (i := 16) (N := none) #[true, true, true, true, true, true, true, true, true, true, true, true, true, true, true, true, true, false, false, false] rfl rfl (one_of HT_.out (by kernel_rfl)) (by decide) (fun K hK => ?_); refine skip_ (w1 := ?_) (by rfl) rfl ?_ ?_; rotate_left
   ·
    go_simp
    rfl
   refine hK.out _ _ ?_; clear hK K; refine pV 17 134 (OB 20 262143) ?_; refine pV 18 135 (OB 20 524287) ?_; refine last_ (i := 19) (N := none) #[true, true, true, true, true, true, true, true, true, true, true, true, true, true, true, true, true, true, true, true] rfl rfl (one_of HT_.out (by kernel_rfl)) (by decide) (fun K hK => ?_); refine skip_ (w1 := ?_) (by rfl) rfl ?_ ?_; rotate_left
   ·
    go_simp
    rfl
   refine hK.out _ _ ?_; clear hK K; refine done_ (done_of HT_.out (by kernel_rfl)) ?_
   try go_wp2
   first | go_end0 | ((try simp only [Exit.inBlock, Exit.then]); refine bodyPost_ret (results_none rfl _ _ _) rfl ?_)
   exact ⟨EE, impl_Task_walk.k0 HI0.out, by (with_reducible repeat (first | apply r1 | apply r2 | apply r3)); exact Kd.R_mono (Kd.R_far (p := ⟨g, 4, none⟩) (Kd.R_far (p := ⟨g, 6, none⟩) (Kd.R_far (p := ⟨g, 5, none⟩) (IsS46.apart HI0.out HO_1.out (by decide)) (fun _ hk => hk.2) (.int .i64 s0_6)) (fun _ hk => hk.2) (.int .i64 s0_7)) (fun _ hk => hk.2) (.int .i64 1)) (fun _ hk => hk.1), impl_Task_walk.k2 HB.out, impl_Task_walk.k1 HK.out⟩

/-! ### impl_Task_step: function 69 -/
def impl_Task_step.f (k : Nat) (s0_0 : Int) (s0_1 : Int) (s0_2 : Int) (s0_3 : Int) (s0_4 : Int) (s0_5 : Int) (s0_6 : Int) (s0_7 : Int) (s0_8 : Int) (s0_9 : Bool) (s0_10 : Int) (l1 : List Int) : Option (Int × Int × Int × Int × Int × Int × Int × Int × Int × Bool × Int × List Int) := if s0_4 = 3 then ((impl_Task_found.f s0_0 s0_1 s0_2 s0_3 s0_4 s0_5 s0_6 s0_7 s0_8 s0_9 s0_10 l1).bind fun bt374 => (some (bt374.1, bt374.2.1, bt374.2.2.1, bt374.2.2.2.1, bt374.2.2.2.2.1, bt374.2.2.2.2.2.1, bt374.2.2.2.2.2.2.1, bt374.2.2.2.2.2.2.2.1, bt374.2.2.2.2.2.2.2.2.1, bt374.2.2.2.2.2.2.2.2.2.1, bt374.2.2.2.2.2.2.2.2.2.2.1, bt374.2.2.2.2.2.2.2.2.2.2.2))) else (if s0_4 = 4 then ((impl_swapWord.f l1 s0_5 (wrap64 (2 * s0_6)) (wrap64 (2 * s0_3))).bind fun bt386 => (if bt386.1 = true then ((impl_Task_done.f s0_0 s0_1 s0_2 s0_3 s0_4 s0_5 s0_6 s0_7 s0_8 s0_9 s0_10 1).bind fun bt388 => (some (bt388.1, bt388.2.1, bt388.2.2.1, bt388.2.2.2.1, bt388.2.2.2.2.1, bt388.2.2.2.2.2.1, bt388.2.2.2.2.2.2.1, bt388.2.2.2.2.2.2.2.1, bt388.2.2.2.2.2.2.2.2.1, bt388.2.2.2.2.2.2.2.2.2.1, bt388.2.2.2.2.2.2.2.2.2.2, bt386.2))) else (some (s0_0, s0_1, s0_2, s0_3, 0, s0_5, s0_6, s0_7, s0_8, s0_9, s0_10, bt386.2)))) else (if s0_4 = 5 then ((impl_swapWord.f l1 s0_6 (wrap64 (2 * s0_7)) (wrap64 ((wrap64 (2 * s0_7)) + 1))).bind fun bt399 => (if bt399.1 = true then (some (s0_0, s0_1, s0_2, s0_3, 6, s0_5, s0_6, s0_7, s0_8, s0_9, s0_10, bt399.2)) else (some (s0_0, s0_1, s0_2, s0_3, 0, s0_5, s0_6, s0_7, s0_8, s0_9, s0_10, bt399.2)))) else (if s0_4 = 6 then ((impl_swapWord.f l1 s0_5 (wrap64 (2 * s0_6)) (wrap64 (2 * s0_7))).bind fun bt401 => ((impl_Task_done.f s0_0 s0_1 s0_2 s0_3 s0_4 s0_5 s0_6 s0_7 s0_8 s0_9 s0_10 1).bind fun bt403 => (some (bt403.1, bt403.2.1, bt403.2.2.1, bt403.2.2.2.1, bt403.2.2.2.2.1, bt403.2.2.2.2.2.1, bt403.2.2.2.2.2.2.1, bt403.2.2.2.2.2.2.2.1, bt403.2.2.2.2.2.2.2.2.1, bt403.2.2.2.2.2.2.2.2.2.1, bt403.2.2.2.2.2.2.2.2.2.2, bt401.2)))) else ((impl_Task_walk.f k s0_0 s0_1 s0_2 s0_3 s0_4 s0_5 s0_6 s0_7 s0_8 s0_9 s0_10 l1).bind fun bt414 => (some (bt414.1, bt414.2.1, bt414.2.2.1, bt414.2.2.2.1, bt414.2.2.2.2.1, bt414.2.2.2.2.2.1, bt414.2.2.2.2.2.2.1, bt414.2.2.2.2.2.2.2.1, bt414.2.2.2.2.2.2.2.2.1, bt414.2.2.2.2.2.2.2.2.2.1, bt414.2.2.2.2.2.2.2.2.2.2.1, bt414.2.2.2.2.2.2.2.2.2.2.2))))))
theorem impl_Task_step.mono : ∀ a0 a1 a2 a3 a4 a5 a6 a7 a8 a9 a10 a11 k, LeO (impl_Task_step.f k a0 a1 a2 a3 a4 a5 a6 a7 a8 a9 a10 a11) (impl_Task_step.f (k + 1) a0 a1 a2 a3 a4 a5 a6 a7 a8 a9 a10 a11) := by
 intro a0 a1 a2 a3 a4 a5 a6 a7 a8 a9 a10 a11 k
 unfold impl_Task_step.f
 repeat' first
   | (with_reducible exact impl_Task_walk.mono _ _ _ _ _ _ _ _ _ _ _ _ _)
   | (with_reducible exact LeO.refl _)
   | (with_reducible exact LeO.none _)
   | (with_reducible refine LeO.ite ?_ ?_)
   | (with_reducible refine LeO.bind ?_ (fun _ => ?_))
   | exact impl_Task_walk.mono _ _ _ _ _ _ _ _ _ _ _ _ _
   | exact LeO.none _
   | refine LeO.ite ?_ ?_
   | refine LeO.bind ?_ (fun _ => ?_)
def impl_Task_step.T5 : Bool × List (List Nat × List Nat) := (true, [([], []), ([], []), ([1], [1]), ([2], [2]), ([3], [3]), ([], []), ([5], [5]), ([6], [6]), ([7], [7]), ([8], [8]), ([], []), ([10], [10]), ([11], [11]), ([12], [12]), ([13], [13]), ([0, 4, 9, 14], [0, 4, 9, 14])])
def impl_Task_step.B5 : List Nat := [0, 0, 2, 6, 14, 0, 32, 96, 224, 480, 0, 1024, 3072, 7168, 15360, 32767]
theorem impl_Task_step.tab5 : rtab .any (opsOf Try.f69 5) = impl_Task_step.T5 := by kernel_rfl
theorem impl_Task_step.bits5 : waitsOk impl_Task_step.T5.2 impl_Task_step.B5 = true := by kernel_rfl
def impl_Task_step.T9 : Bool × List (List Nat × List Nat) := (true, [([], []), ([], []), ([1], [1]), ([2], [2]), ([3], [3]), ([], []), ([5], [5]), ([6], [6]), ([7], [7]), ([8], [8]), ([], []), ([10], [10]), ([11], [11]), ([12], [12]), ([13], [13]), ([14], [14]), ([0, 4, 9, 15], [0, 4, 9, 15])])
def impl_Task_step.B9 : List Nat := [0, 0, 2, 6, 14, 0, 32, 96, 224, 480, 0, 1024, 3072, 7168, 15360, 31744, 65535]
theorem impl_Task_step.tab9 : rtab .any (opsOf Try.f69 9) = impl_Task_step.T9 := by kernel_rfl
theorem impl_Task_step.bits9 : waitsOk impl_Task_step.T9.2 impl_Task_step.B9 = true := by kernel_rfl
def impl_Task_step.T13 : Bool × List (List Nat × List Nat) := (true, [([], []), ([], []), ([1], [1]), ([2], [2]), ([3], [3]), ([], []), ([5], [5]), ([6], [6]), ([7], [7]), ([8], [8]), ([], []), ([10], [10]), ([11], [11]), ([12], [12]), ([13], [13]), ([0, 4, 9, 14], [0, 4, 9, 14])])
def impl_Task_step.B13 : List Nat := [0, 0, 2, 6, 14, 0, 32, 96, 224, 480, 0, 1024, 3072, 7168, 15360, 32767]
theorem impl_Task_step.tab13 : rtab .any (opsOf Try.f69 13) = impl_Task_step.T13 := by kernel_rfl
theorem impl_Task_step.bits13 : waitsOk impl_Task_step.T13.2 impl_Task_step.B13 = true := by kernel_rfl
theorem impl_Task_step.k0 {p q : Prop} (h : q) (k : q → p := by intro h_; repeat (first | (with_reducible first | exact h_ | apply IsS46.alloc | apply IsS46.drewN | apply IsS46.drew | apply IsS46.set_0 | apply IsS46.set_1 | apply IsS46.set_2 | apply IsS46.set_3 | apply IsS46.set_4 | apply IsS46.set_5 | apply IsS46.set_6 | apply IsS46.set_7 | apply IsS46.set_8 | apply IsS46.set_9 | apply IsS46.set_10) | exact h_)) : p := k h
theorem impl_Task_step.k1 {p q : Prop} (h : q) (k : q → p := by intro h_; repeat (first | (with_reducible first | exact h_ | apply below_alloc | apply pw_below_drewN | apply below_drew1 | refine below_set ?_ (IsS46.ge HI0.out)) | exact h_)) : p := k h
theorem impl_Task_step.k2 {p q : Prop} (h : q) (k : q → p := by intro h_; repeat (first | (with_reducible first | exact h_ | apply Kept.alloc | apply Kept.drewN | apply Kept.drew | refine Kept.setCell ?_ (.inl (.inr rfl)) _) | exact h_)) : p := k h
set_option maxHeartbeats 8000000 in
set_option maxRecDepth 100000 in
theorem impl_Task_step.calls (k : Nat) (g : Nat) (s0_0 : Int) (s0_1 : Int) (s0_2 : Int) (s0_3 : Int) (s0_4 : Int) (s0_5 : Int) (s0_6 : Int) (s0_7 : Int) (s0_8 : Int) (s0_9 : Bool) (s0_10 : Int) (P1_ : Nat → Prop) (u9000_ : Value) (l1 : List Int) (r1 : Int) (r2 : Int) (r3 : Int) (r4 : Int) (r5 : Int) (r6 : Int) (r7 : Int) (r8 : Int) (r9 : Int) (r10 : Bool) (r11 : Int) (r12 : List Int) (w0 w : World) (hI : IsS46 w0 w g s0_0 s0_1 s0_2 s0_3 s0_4 s0_5 s0_6 s0_7 s0_8 s0_9 s0_10) (hB : Below w0.heap.size w0 w) (ho1 : Kd.R (Kd.int .i64) 3 w w0.heap.size P1_ u9000_ l1) (h : impl_Task_step.f k s0_0 s0_1 s0_2 s0_3 s0_4 s0_5 s0_6 s0_7 s0_8 s0_9 s0_10 l1 = some (r1, r2, r3, r4, r5, r6, r7, r8, r9, r10, r11, r12)) :
  Calls Try.prog 69 #[.pointer (some ⟨g, 0, none⟩), u9000_] w fun e w' => e = .returned (.tuple #[]) ∧ IsS46 w0 w' g r1 r2 r3 r4 r5 r6 r7 r8 r9 r10 r11 ∧ Kd.R (Kd.int .i64) 3 w' w0.heap.size (fun k_ => (P1_ k_ ∨ w.heap.size ≤ k_)) u9000_ r12 ∧ Below w0.heap.size w0 w' ∧ Kept w w' (fun k_ => (P1_ k_) ∨ k_ = g) := by
 have HO1 := Aside0.mk (show Kd.R (Kd.int .i64) 3 w w0.heap.size (fun k_ => (P1_ k_ ∨ w.heap.size ≤ k_)) u9000_ l1 from Kd.R_mono ho1 (fun k_ hk => (.inl hk)))
 have HI0 := Aside0.mk hI
 have HL := Aside0.mk hB.size
 clear hI
 have HK := Aside0.mk (Kept.refl w (fun k_ => (P1_ k_) ∨ k_ = g))
 have HW0 := Aside0.mk hB.size
 have HB := Aside0.mk hB
 clear hB
 have H : (if s0_4 = 3 then ((impl_Task_found.f s0_0 s0_1 s0_2 s0_3 s0_4 s0_5 s0_6 s0_7 s0_8 s0_9 s0_10 l1).bind fun bt374 => (some (bt374.1, bt374.2.1, bt374.2.2.1, bt374.2.2.2.1, bt374.2.2.2.2.1, bt374.2.2.2.2.2.1, bt374.2.2.2.2.2.2.1, bt374.2.2.2.2.2.2.2.1, bt374.2.2.2.2.2.2.2.2.1, bt374.2.2.2.2.2.2.2.2.2.1, bt374.2.2.2.2.2.2.2.2.2.2.1, bt374.2.2.2.2.2.2.2.2.2.2.2))) else (if s0_4 = 4 then ((impl_swapWord.f l1 s0_5 (wrap64 (2 * s0_6)) (wrap64 (2 * s0_3))).bind fun bt386 => (if bt386.1 = true then ((impl_Task_done.f s0_0 s0_1 s0_2 s0_3 s0_4 s0_5 s0_6 s0_7 s0_8 s0_9 s0_10 1).bind fun bt388 => (some (bt388.1, bt388.2.1, bt388.2.2.1, bt388.2.2.2.1, bt388.2.2.2.2.1, bt388.2.2.2.2.2.1, bt388.2.2.2.2.2.2.1, bt388.2.2.2.2.2.2.2.1, bt388.2.2.2.2.2.2.2.2.1, bt388.2.2.2.2.2.2.2.2.2.1, bt388.2.2.2.2.2.2.2.2.2.2, bt386.2))) else (some (s0_0, s0_1, s0_2, s0_3, 0, s0_5, s0_6, s0_7, s0_8, s0_9, s0_10, bt386.2)))) else (if s0_4 = 5 then ((impl_swapWord.f l1 s0_6 (wrap64 (2 * s0_7)) (wrap64 ((wrap64 (2 * s0_7)) + 1))).bind fun bt399 => (if bt399.1 = true then (some (s0_0, s0_1, s0_2, s0_3, 6, s0_5, s0_6, s0_7, s0_8, s0_9, s0_10, bt399.2)) else (some (s0_0, s0_1, s0_2, s0_3, 0, s0_5, s0_6, s0_7, s0_8, s0_9, s0_10, bt399.2)))) else (if s0_4 = 6 then ((impl_swapWord.f l1 s0_5 (wrap64 (2 * s0_6)) (wrap64 (2 * s0_7))).bind fun bt401 => ((impl_Task_done.f s0_0 s0_1 s0_2 s0_3 s0_4 s0_5 s0_6 s0_7 s0_8 s0_9 s0_10 1).bind fun bt403 => (some (bt403.1, bt403.2.1, bt403.2.2.1, bt403.2.2.2.1, bt403.2.2.2.2.1, bt403.2.2.2.2.2.1, bt403.2.2.2.2.2.2.1, bt403.2.2.2.2.2.2.2.1, bt403.2.2.2.2.2.2.2.2.1, bt403.2.2.2.2.2.2.2.2.2.1, bt403.2.2.2.2.2.2.2.2.2.2, bt401.2)))) else ((impl_Task_walk.f k s0_0 s0_1 s0_2 s0_3 s0_4 s0_5 s0_6 s0_7 s0_8 s0_9 s0_10 l1).bind fun bt414 => (some (bt414.1, bt414.2.1, bt414.2.2.1, bt414.2.2.2.1, bt414.2.2.2.2.1, bt414.2.2.2.2.2.1, bt414.2.2.2.2.2.2.1, bt414.2.2.2.2.2.2.2.1, bt414.2.2.2.2.2.2.2.2.1, bt414.2.2.2.2.2.2.2.2.2.1, bt414.2.2.2.2.2.2.2.2.2.2.1, bt414.2.2.2.2.2.2.2.2.2.2.2))))))) = some (r1, r2, r3, r4, r5, r6, r7, r8, r9, r10, r11, r12) := h
 clear h
 by_cases c3 : s0_4 = 3
 ·
  rw [if_pos c3] at H; have c3b0 : (s0_4 == 3) = true := beq_iff_eq.mpr c3; have c3b1 : (s0_4 != 3) = false := bne_eq_false_iff_eq.mpr c3; clear c3; replace H := Option.bind_eq_some_iff.mp H; obtain ⟨⟨t374, t375, t376, t377, t378, t379, t380, t381, t382, t383, t384, t385⟩, A40, H⟩ := H; replace H : (some (t374, t375, t376, t377, t378, t379, t380, t381, t382, t383, t384, t385)) = some (r1, r2, r3, r4, r5, r6, r7, r8, r9, r10, r11, r12) := H; have A4 := Aside0.mk A40; clear A40; simp only [Option.some.injEq, Prod.mk.injEq] at H; obtain ⟨rfl, rfl, rfl, rfl, rfl, rfl, rfl, rfl, rfl, rfl, rfl, rfl⟩ := H; obtain ⟨HGz5, hgz5⟩ := HI0.out; have hcz5_0 := cellS46_0 HGz5; have hcz5_1 := cellS46_1 HGz5; have hcz5_2 := cellS46_2 HGz5; have hcz5_3 := cellS46_3 HGz5; have hcz5_4 := cellS46_4 HGz5; have hcz5_5 := cellS46_5 HGz5; have hcz5_6 := cellS46_6 HGz5; have hcz5_7 := cellS46_7 HGz5; have hcz5_8 := cellS46_8 HGz5; have hcz5_9 := cellS46_9 HGz5; have hcz5_10 := cellS46_10 HGz5; have hfz5_0 := blk_frozen HGz5 0; have hfz5_1 := blk_frozen HGz5 1; have hfz5_2 := blk_frozen HGz5 2; have hfz5_3 := blk_frozen HGz5 3; have hfz5_4 := blk_frozen HGz5 4; have hfz5_5 := blk_frozen HGz5 5; have hfz5_6 := blk_frozen HGz5 6; have hfz5_7 := blk_frozen HGz5 7; have hfz5_8 := blk_frozen HGz5 8; have hfz5_9 := blk_frozen HGz5 9; have hfz5_10 := blk_frozen HGz5 10; clear HGz5 hgz5; obtain ⟨Ao6, co6, eo6⟩ := Kd.R_slice HO1.out; subst eo6
  go_enter Try.func69, Try.ntmps69
  go_wp2_with (first | ((with_reducible refine gate_callee (f := 81) rfl ?_); refine goesL_ (some 15) rfl rfl Try.func81 (by kernel_rfl) rfl #[.pointer (some ⟨g, 0, none⟩), .slice Ao6 l1.length co6] rfl (MA) ?_; (with_reducible refine (impl_Task_found.calls g s0_0 s0_1 s0_2 s0_3 s0_4 s0_5 s0_6 s0_7 s0_8 s0_9 s0_10 (fun k_ => some k_ = (.slice Ao6 l1.length co6 : Value).ownBlock) (.slice Ao6 l1.length co6) l1 t374 t375 t376 t377 t378 t379 t380 t381 t382 t383 t384 t385 w0 _ ?side1 ?side2 ?side3 A4.out).mono ?_); (case side1 => exact impl_Task_step.k0 HI0.out); (case side2 => exact impl_Task_step.k1 HB.out); (case side3 => exact Kd.R_tight rfl HO1.out); rintro e w7 ⟨rfl, hi, hy0, hb, hkp⟩; refine ⟨_, rfl, ?_⟩; replace HI0 := Aside0.mk (hi); replace HK := Aside0.mk (Kept.then_ (S := (fun k_ => (P1_ k_) ∨ k_ = g)) (impl_Task_step.k2 HK.out) hkp (fun k_ hs_ => Or.elim hs_ (fun hs_ => (fun e_ => Or.imp_left Or.inl ((HO1.out.1 k_ e_.symm))) hs_) (fun e_ => .inl (.inr e_)))); replace HO1 := Aside0.mk (Kd.R_reok rfl hy0 (fun k_ e_ => HO1.out.1 k_ e_)); replace HB := Aside0.mk (hb); (try clear hb); (try clear hkp); (try clear hy0)))
  first | go_end0 | ((try simp only [Exit.inBlock, Exit.then]); refine bodyPost_ret (results_none rfl _ _ _) rfl ?_)
  exact ⟨EE, impl_Task_step.k0 HI0.out, RQ HO1.out, impl_Task_step.k1 HB.out, impl_Task_step.k2 HK.out⟩
 rw [if_neg c3] at H
 have c3b0 : (s0_4 == 3) = false := beq_eq_false_iff_ne.mpr c3
 have c3b1 : (s0_4 != 3) = true := bne_iff_ne.mpr c3
 by_cases c8 : s0_4 = 4
 ·
  rw [if_pos c8] at H; have c8b0 : (s0_4 == 4) = true := beq_iff_eq.mpr c8; have c8b1 : (s0_4 != 4) = false := bne_eq_false_iff_eq.mpr c8; clear c8; replace H := Option.bind_eq_some_iff.mp H; obtain ⟨⟨t386, t387⟩, A90, H⟩ := H; replace H : (if t386 = true then ((impl_Task_done.f s0_0 s0_1 s0_2 s0_3 s0_4 s0_5 s0_6 s0_7 s0_8 s0_9 s0_10 1).bind fun bt388 => (some (bt388.1, bt388.2.1, bt388.2.2.1, bt388.2.2.2.1, bt388.2.2.2.2.1, bt388.2.2.2.2.2.1, bt388.2.2.2.2.2.2.1, bt388.2.2.2.2.2.2.2.1, bt388.2.2.2.2.2.2.2.2.1, bt388.2.2.2.2.2.2.2.2.2.1, bt388.2.2.2.2.2.2.2.2.2.2, t387))) else (some (s0_0, s0_1, s0_2, s0_3, 0, s0_5, s0_6, s0_7, s0_8, s0_9, s0_10, t387))) = some (r1, r2, r3, r4, r5, r6, r7, r8, r9, r10, r11, r12) := H; have A9 := Aside0.mk A90; clear A90
  by_cases c10 : t386 = true
  ·
   subst c10
   have H1 : ((impl_Task_done.f s0_0 s0_1 s0_2 s0_3 s0_4 s0_5 s0_6 s0_7 s0_8 s0_9 s0_10 1).bind fun bt388 => (some (bt388.1, bt388.2.1, bt388.2.2.1, bt388.2.2.2.1, bt388.2.2.2.2.1, bt388.2.2.2.2.2.1, bt388.2.2.2.2.2.2.1, bt388.2.2.2.2.2.2.2.1, bt388.2.2.2.2.2.2.2.2.1, bt388.2.2.2.2.2.2.2.2.2.1, bt388.2.2.2.2.2.2.2.2.2.2, t387))) = some (r1, r2, r3, r4, r5, r6, r7, r8, r9, r10, r11, r12) := by rw [if_pos rfl] at H; exact H
   clear H; have H := H1; clear H1; replace H := Option.bind_eq_some_iff.mp H; obtain ⟨⟨t388, t389, t390, t391, t392, t393, t394, t395, t396, t397, t398⟩, A110, H⟩ := H; replace H : (some (t388, t389, t390, t391, t392, t393, t394, t395, t396, t397, t398, t387)) = some (r1, r2, r3, r4, r5, r6, r7, r8, r9, r10, r11, r12) := H; have A11 := Aside0.mk A110; clear A110; simp only [Option.some.injEq, Prod.mk.injEq] at H; obtain ⟨rfl, rfl, rfl, rfl, rfl, rfl, rfl, rfl, rfl, rfl, rfl, rfl⟩ := H; obtain ⟨HGz12, hgz12⟩ := HI0.out; have hcz12_0 := cellS46_0 HGz12; have hcz12_1 := cellS46_1 HGz12; have hcz12_2 := cellS46_2 HGz12; have hcz12_3 := cellS46_3 HGz12; have hcz12_4 := cellS46_4 HGz12; have hcz12_5 := cellS46_5 HGz12; have hcz12_6 := cellS46_6 HGz12; have hcz12_7 := cellS46_7 HGz12; have hcz12_8 := cellS46_8 HGz12; have hcz12_9 := cellS46_9 HGz12; have hcz12_10 := cellS46_10 HGz12; have hfz12_0 := blk_frozen HGz12 0; have hfz12_1 := blk_frozen HGz12 1; have hfz12_2 := blk_frozen HGz12 2; have hfz12_3 := blk_frozen HGz12 3; have hfz12_4 := blk_frozen HGz12 4; have hfz12_5 := blk_frozen HGz12 5; have hfz12_6 := blk_frozen HGz12 6; have hfz12_7 := blk_frozen HGz12 7; have hfz12_8 := blk_frozen HGz12 8; have hfz12_9 := blk_frozen HGz12 9; have hfz12_10 := blk_frozen HGz12 10; clear HGz12 hgz12
   go_enter Try.func69, Try.ntmps69
   try go_wp2
   have n0_ := Aside0.mk (Kd.R_drew HO1.out); have n1_ := Aside0.mk (IsS46.drew HI0.out); have n2_ := Aside0.mk (Kept.drew HK.out); have n3_ := Aside0.mk (below_drew1 HB.out); clear HO1; clear HI0; clear HK; clear HB; have HO1 := n0_; have HI0 := n1_; have HK := n2_; have HB := n3_; clear n0_ n1_ n2_ n3_; obtain ⟨Ao14, co14, eo14⟩ := Kd.R_slice HO1.out
   (first | subst eo14 | (injection eo14 with f1_ f2_ f3_; have f4_ := f1_.symm; have f5_ := f3_.symm; clear f1_ f2_ f3_; subst f4_; subst f5_))
   refine start_ (n := 16) (S := fun w' => w'.cell? ⟨g, 0, none⟩ = some (.int .i64 s0_0) ∧ w'.cell? ⟨g, 1, none⟩ = some (.int .i64 s0_1) ∧ w'.cell? ⟨g, 2, none⟩ = some (.int .i64 s0_2) ∧ w'.cell? ⟨g, 3, none⟩ = some (.int .i64 s0_3) ∧ w'.cell? ⟨g, 4, none⟩ = some (.int .i64 s0_4) ∧ w'.cell? ⟨g, 5, none⟩ = some (.int .i64 s0_5) ∧ w'.cell? ⟨g, 6, none⟩ = some (.int .i64 s0_6) ∧ w'.cell? ⟨g, 7, none⟩ = some (.int .i64 s0_7) ∧ w'.cell? ⟨g, 8, none⟩ = some (.int .i64 s0_8) ∧ w'.cell? ⟨g, 9, none⟩ = some (.bool s0_9) ∧ w'.cell? ⟨g, 10, none⟩ = some (.int .i64 s0_10)) (ds := []) #[false, false, false, false, false, false, false, false, false, false, false, false, false, false, false, false] (by kernel_rfl) rfl rfl ⟨(blk_cell (Aside0.mk (HI0.out).1).out 0).trans rfl, (blk_cell (Aside0.mk (HI0.out).1).out 1).trans rfl, (blk_cell (Aside0.mk (HI0.out).1).out 2).trans rfl, (blk_cell (Aside0.mk (HI0.out).1).out 3).trans rfl, (blk_cell (Aside0.mk (HI0.out).1).out 4).trans rfl, (blk_cell (Aside0.mk (HI0.out).1).out 5).trans rfl, (blk_cell (Aside0.mk (HI0.out).1).out 6).trans rfl, (blk_cell (Aside0.mk (HI0.out).1).out 7).trans rfl, (blk_cell (Aside0.mk (HI0.out).1).out 8).trans rfl, (blk_cell (Aside0.mk (HI0.out).1).out 9).trans rfl, (blk_cell (Aside0.mk (HI0.out).1).out 10).trans rfl⟩ (fun hHeld => ?_); refine with_tabW impl_Task_step.tab5 impl_Task_step.bits5 (fun HT_ HW_ => ?_); generalize w.drew = w13 at HO1 HI0 HK HB hHeld ⊢; refine pV 0 18 (OB 16 1) ?_; refine pV 1 19 (OB 16 3) ?_; refine pV 2 20 (OB 16 7) ?_; refine pV 3 21 (OB 16 15) ?_; refine pV 5 23 (OB 16 47) ?_; refine pV 6 24 (OB 16 111) ?_; refine pV 7 25 (OB 16 239) ?_; refine pV 10 28 (OB 16 1263) ?_; refine pV 11 29 (OB 16 3311) ?_; refine pV 12 30 (OB 16 7407) ?_; refine pT 4 22 (OB 16 7423) ?_; refine pT 8 26 (OB 16 7679) ?_; refine pV 9 27 (OB 16 8191) ?_; refine pT 13 31 (OB 16 16383) ?_; refine pV 14 32 (OB 16 32767) ?_; refine one_ (i := 15) (N := some 33) (OB 16 65535) rfl rfl (one_of HT_.out (by kernel_rfl)) (by decide) (fun K hK => ?_); refine goes_ Try.func82 (by kernel_rfl) rfl #[.slice Ao14 l1.length co14, .int .i64 s0_5, .int .i64 (wrap64 (2 * s0_6)), .int .i64 (wrap64 (2 * s0_3))] (by rfl) rfl rfl (MA) ?_
   with_reducible refine (impl_swapWord.calls (fun k_ => some k_ = (.slice Ao14 l1.length co14 : Value).ownBlock) (.slice Ao14 l1.length co14) l1 s0_5 (wrap64 (2 * s0_6)) (wrap64 (2 * s0_3)) true t387 w0 _ ?side1 ?side2 A9.out).mono ?_
   (case side1 => exact impl_Task_step.k1 HB.out)
   (case side2 => exact Kd.R_tight rfl HO1.out)
   rintro e w15 ⟨rfl, hy0, hb, hkp⟩; refine ⟨_, rfl, ?_⟩; have n0_ := Aside0.mk (IsS46.kept (impl_Task_step.k0 HI0.out) hkp (fun hs_ => (fun e_ => (IsS46.own_ne HI0.out HO1.out (by decide)) e_) hs_)); have n1_ := Aside0.mk (Kd.R_reok rfl hy0 (fun k_ e_ => HO1.out.1 k_ e_)); have n2_ := Aside0.mk (Kept.then_ (S := (fun k_ => (P1_ k_) ∨ k_ = g)) (impl_Task_step.k2 HK.out) hkp (fun k_ hs_ => (fun e_ => Or.imp_left Or.inl ((HO1.out.1 k_ e_.symm))) hs_)); have n3_ := Aside0.mk (hb); clear HI0; clear HO1; clear HK; clear HB; have HI0 := n0_; have HO1 := n1_; have HK := n2_; have HB := n3_; clear n0_ n1_ n2_ n3_
   (try clear hb)
   (try clear hkp)
   (try clear hy0)
   refine hK.out _ _ ⟨(blk_cell (Aside0.mk (HI0.out).1).out 0).trans rfl, (blk_cell (Aside0.mk (HI0.out).1).out 1).trans rfl, (blk_cell (Aside0.mk (HI0.out).1).out 2).trans rfl, (blk_cell (Aside0.mk (HI0.out).1).out 3).trans rfl, (blk_cell (Aside0.mk (HI0.out).1).out 4).trans rfl, (blk_cell (Aside0.mk (HI0.out).1).out 5).trans rfl, (blk_cell (Aside0.mk (HI0.out).1).out 6).trans rfl, (blk_cell (Aside0.mk (HI0.out).1).out 7).trans rfl, (blk_cell (Aside0.mk (HI0.out).1).out 8).trans rfl, (blk_cell (Aside0.mk (HI0.out).1).out 9).trans rfl, (blk_cell (Aside0.mk (HI0.out).1).out 10).trans rfl⟩ (fun hHeld => ?_); clear hK K; refine norm_ (a' := ?_) ?_ ?_; rotate_left
   ·
    show Act.put _ (some 33) _ = _; simp only [Act.put, zA, zB, zC, i64_w, i32_w]; rfl
   refine done_ (done_of HT_.out (by kernel_rfl)) ?_
   try go_wp2_with (first | ((with_reducible refine gate_callee (f := 83) rfl ?_); refine goesL_ (some 35) rfl rfl Try.func83 (by kernel_rfl) rfl #[.pointer (some ⟨g, 0, none⟩), .int .i64 1] rfl (MA) ?_; (with_reducible refine (impl_Task_done.calls g s0_0 s0_1 s0_2 s0_3 s0_4 s0_5 s0_6 s0_7 s0_8 s0_9 s0_10 1 t388 t389 t390 t391 t392 t393 t394 t395 t396 t397 t398 w0 _ ?side1 ?side2 A11.out).mono ?_); (case side1 => exact impl_Task_step.k0 HI0.out); (case side2 => exact impl_Task_step.k1 HB.out); rintro e w16 ⟨rfl, hi, hb, hk⟩; refine ⟨_, rfl, ?_⟩; replace HO1 := Aside0.mk (Kd.R_mono (Kd.R_keep (IsS46.apart (show IsS46 w0 _ g s0_0 s0_1 s0_2 s0_3 s0_4 s0_5 s0_6 s0_7 s0_8 s0_9 s0_10 from impl_Task_step.k0 HI0.out) (RQ HO1.out) (by decide)) hk (fun _ h => h.2)) (fun _ h => h.1)); replace HK := Aside0.mk (Kept.of_keep (S := (fun k_ => (P1_ k_) ∨ k_ = g)) (impl_Task_step.k2 HK.out) hk (.inl (.inr rfl))); replace HB := Aside0.mk (hb); replace HI0 := Aside0.mk (hi); (try clear hb); (try clear hb2); (try clear hk); (try clear hi)))
   first | go_end0 | ((try simp only [Exit.inBlock, Exit.then]); refine bodyPost_ret (results_none rfl _ _ _) rfl ?_)
   exact ⟨EE, impl_Task_step.k0 HI0.out, RQ HO1.out, impl_Task_step.k1 HB.out, impl_Task_step.k2 HK.out⟩
  replace c10 := Bool.eq_false_iff.mpr c10; subst c10
  have H1 : (some (s0_0, s0_1, s0_2, s0_3, 0, s0_5, s0_6, s0_7, s0_8, s0_9, s0_10, t387)) = some (r1, r2, r3, r4, r5, r6, r7, r8, r9, r10, r11, r12) := by rw [if_neg (show ¬ (false = true) by decide)] at H; exact H
  clear H; have H := H1; clear H1; simp only [Option.some.injEq, Prod.mk.injEq] at H; obtain ⟨rfl, rfl, rfl, rfl, rfl, rfl, rfl, rfl, rfl, rfl, rfl, rfl⟩ := H; obtain ⟨HGz17, hgz17⟩ := HI0.out; have hcz17_0 := cellS46_0 HGz17; have hcz17_1 := cellS46_1 HGz17; have hcz17_2 := cellS46_2 HGz17; have hcz17_3 := cellS46_3 HGz17; have hcz17_4 := cellS46_4 HGz17; have hcz17_5 := cellS46_5 HGz17; have hcz17_6 := cellS46_6 HGz17; have hcz17_7 := cellS46_7 HGz17; have hcz17_8 := cellS46_8 HGz17; have hcz17_9 := cellS46_9 HGz17; have hcz17_10 := cellS46_10 HGz17; have hfz17_0 := blk_frozen HGz17 0; have hfz17_1 := blk_frozen HGz17 1; have hfz17_2 := blk_frozen HGz17 2; have hfz17_3 := blk_frozen HGz17 3; have hfz17_4 := blk_frozen HGz17 4; have hfz17_5 := blk_frozen HGz17 5; have hfz17_6 := blk_frozen HGz17 6; have hfz17_7 := blk_frozen HGz17 7; have hfz17_8 := blk_frozen HGz17 8; have hfz17_9 := blk_frozen HGz17 9; have hfz17_10 := blk_frozen HGz17 10; clear HGz17 hgz17
  go_enter Try.func69, Try.ntmps69
  try go_wp2
  have n0_ := Aside0.mk (Kd.R_drew HO1.out); have n1_ := Aside0.mk (IsS46.drew HI0.out); have n2_ := Aside0.mk (Kept.drew HK.out); have n3_ := Aside0.mk (below_drew1 HB.out); clear HO1; clear HI0; clear HK; clear HB; have HO1 := n0_; have HI0 := n1_; have HK := n2_; have HB := n3_; clear n0_ n1_ n2_ n3_; obtain ⟨Ao19, co19, eo19⟩ := Kd.R_slice HO1.out
  (first | subst eo19 | (injection eo19 with f1_ f2_ f3_; have f4_ := f1_.symm; have f5_ := f3_.symm; clear f1_ f2_ f3_; subst f4_; subst f5_))
  refine start_ (n := 16) (S := fun w' => w'.cell? ⟨g, 0, none⟩ = some (.int .i64 s0_0) ∧ w'.cell? ⟨g, 1, none⟩ = some (.int .i64 s0_1) ∧ w'.cell? ⟨g, 2, none⟩ = some (.int .i64 s0_2) ∧ w'.cell? ⟨g, 3, none⟩ = some (.int .i64 s0_3) ∧ w'.cell? ⟨g, 4, none⟩ = some (.int .i64 s0_4) ∧ w'.cell? ⟨g, 5, none⟩ = some (.int .i64 s0_5) ∧ w'.cell? ⟨g, 6, none⟩ = some (.int .i64 s0_6) ∧ w'.cell? ⟨g, 7, none⟩ = some (.int .i64 s0_7) ∧ w'.cell? ⟨g, 8, none⟩ = some (.int .i64 s0_8) ∧ w'.cell? ⟨g, 9, none⟩ = some (.bool s0_9) ∧ w'.cell? ⟨g, 10, none⟩ = some (.int .i64 s0_10)) (ds := []) #[false, false, false, false, false, false, false, false, false, false, false, false, false, false, false, false] (by kernel_rfl) rfl rfl ⟨(blk_cell (Aside0.mk (HI0.out).1).out 0).trans rfl, (blk_cell (Aside0.mk (HI0.out).1).out 1).trans rfl, (blk_cell (Aside0.mk (HI0.out).1).out 2).trans rfl, (blk_cell (Aside0.mk (HI0.out).1).out 3).trans rfl, (blk_cell (Aside0.mk (HI0.out).1).out 4).trans rfl, (blk_cell (Aside0.mk (HI0.out).1).out 5).trans rfl, (blk_cell (Aside0.mk (HI0.out).1).out 6).trans rfl, (blk_cell (Aside0.mk (HI0.out).1).out 7).trans rfl, (blk_cell (Aside0.mk (HI0.out).1).out 8).trans rfl, (blk_cell (Aside0.mk (HI0.out).1).out 9).trans rfl, (blk_cell (Aside0.mk (HI0.out).1).out 10).trans rfl⟩ (fun hHeld => ?_); refine with_tabW impl_Task_step.tab5 impl_Task_step.bits5 (fun HT_ HW_ => ?_); generalize w.drew = w18 at HO1 HI0 HK HB hHeld ⊢; refine pV 0 18 (OB 16 1) ?_; refine pV 1 19 (OB 16 3) ?_; refine pV 2 20 (OB 16 7) ?_; refine pV 3 21 (OB 16 15) ?_; refine pV 5 23 (OB 16 47) ?_; refine pV 6 24 (OB 16 111) ?_; refine pV 7 25 (OB 16 239) ?_; refine pV 10 28 (OB 16 1263) ?_; refine pV 11 29 (OB 16 3311) ?_; refine pV 12 30 (OB 16 7407) ?_; refine pT 4 22 (OB 16 7423) ?_; refine pT 8 26 (OB 16 7679) ?_; refine pV 9 27 (OB 16 8191) ?_; refine pT 13 31 (OB 16 16383) ?_; refine pV 14 32 (OB 16 32767) ?_; refine one_ (i := 15) (N := some 33) (OB 16 65535) rfl rfl (one_of HT_.out (by kernel_rfl)) (by decide) (fun K hK => ?_); refine goes_ Try.func82 (by kernel_rfl) rfl #[.slice Ao19 l1.length co19, .int .i64 s0_5, .int .i64 (wrap64 (2 * s0_6)), .int .i64 (wrap64 (2 * s0_3))] (by rfl) rfl rfl (MA) ?_
  with_reducible refine (impl_swapWord.calls (fun k_ => some k_ = (.slice Ao19 l1.length co19 : Value).ownBlock) (.slice Ao19 l1.length co19) l1 s0_5 (wrap64 (2 * s0_6)) (wrap64 (2 * s0_3)) false t387 w0 _ ?side1 ?side2 A9.out).mono ?_
  (case side1 => exact impl_Task_step.k1 HB.out)
  (case side2 => exact Kd.R_tight rfl HO1.out)
  rintro e w20 ⟨rfl, hy0, hb, hkp⟩; refine ⟨_, rfl, ?_⟩; have n0_ := Aside0.mk (IsS46.kept (impl_Task_step.k0 HI0.out) hkp (fun hs_ => (fun e_ => (IsS46.own_ne HI0.out HO1.out (by decide)) e_) hs_)); have n1_ := Aside0.mk (Kd.R_reok rfl hy0 (fun k_ e_ => HO1.out.1 k_ e_)); have n2_ := Aside0.mk (Kept.then_ (S := (fun k_ => (P1_ k_) ∨ k_ = g)) (impl_Task_step.k2 HK.out) hkp (fun k_ hs_ => (fun e_ => Or.imp_left Or.inl ((HO1.out.1 k_ e_.symm))) hs_)); have n3_ := Aside0.mk (hb); clear HI0; clear HO1; clear HK; clear HB; have HI0 := n0_; have HO1 := n1_; have HK := n2_; have HB := n3_; clear n0_ n1_ n2_ n3_
  (try clear hb)
  (try clear hkp)
  (try clear hy0)
  refine hK.out _ _ ⟨(blk_cell (Aside0.mk (HI0.out).1).out 0).trans rfl, (blk_cell (Aside0.mk (HI0.out).1).out 1).trans rfl, (blk_cell (Aside0.mk (HI0.out).1).out 2).trans rfl, (blk_cell (Aside0.mk (HI0.out).1).out 3).trans rfl, (blk_cell (Aside0.mk (HI0.out).1).out 4).trans rfl, (blk_cell (Aside0.mk (HI0.out).1).out 5).trans rfl, (blk_cell (Aside0.mk (HI0.out).1).out 6).trans rfl, (blk_cell (Aside0.mk (HI0.out).1).out 7).trans rfl, (blk_cell (Aside0.mk (HI0.out).1).out 8).trans rfl, (blk_cell (Aside0.mk (HI0.out).1).out 9).trans rfl, (blk_cell (Aside0.mk (HI0.out).1).out 10).trans rfl⟩ (fun hHeld => ?_); clear hK K; refine norm_ (a' := ?_) ?_ ?_; rotate_left
  ·
   show Act.put _ (some 33) _ = _; simp only [Act.put, zA, zB, zC, i64_w, i32_w]; rfl
  refine done_ (done_of HT_.out (by kernel_rfl)) ?_; obtain ⟨HGz21, hgz21⟩ := HI0.out; have hcz21_0 := cellS46_0 HGz21; have hcz21_1 := cellS46_1 HGz21; have hcz21_2 := cellS46_2 HGz21; have hcz21_3 := cellS46_3 HGz21; have hcz21_4 := cellS46_4 HGz21; have hcz21_5 := cellS46_5 HGz21; have hcz21_6 := cellS46_6 HGz21; have hcz21_7 := cellS46_7 HGz21; have hcz21_8 := cellS46_8 HGz21; have hcz21_9 := cellS46_9 HGz21; have hcz21_10 := cellS46_10 HGz21; have hfz21_0 := blk_frozen HGz21 0; have hfz21_1 := blk_frozen HGz21 1; have hfz21_2 := blk_frozen HGz21 2; have hfz21_3 := blk_frozen HGz21 3; have hfz21_4 := blk_frozen HGz21 4; have hfz21_5 := blk_frozen HGz21 5; have hfz21_6 := blk_frozen HGz21 6; have hfz21_7 := blk_frozen HGz21 7; have hfz21_8 := blk_frozen HGz21 8; have hfz21_9 := blk_frozen HGz21 9; have hfz21_10 := blk_frozen HGz21 10; clear HGz21 hgz21
  try go_wp2
  first | go_end0 | ((try simp only [Exit.inBlock, Exit.then]); refine bodyPost_ret (results_none rfl _ _ _) rfl ?_)
  exact ⟨EE, impl_Task_step.k0 HI0.out, by (with_reducible repeat (first | apply r1 | apply r2 | apply r3)); exact Kd.R_mono (Kd.R_far (p := ⟨g, 4, none⟩) (IsS46.apart HI0.out HO1.out (by decide)) (fun _ hk => hk.2) (.int .i64 0)) (fun _ hk => hk.1), impl_Task_step.k1 HB.out, impl_Task_step.k2 HK.out⟩
 rw [if_neg c8] at H
 have c8b0 : (s0_4 == 4) = false := beq_eq_false_iff_ne.mpr c8
 have c8b1 : (s0_4 != 4) = true := bne_iff_ne.mpr c8
 by_cases c22 : s0_4 = 5; rotate_left
 ·
  rw [if_neg c22] at H; have c22b0 : (s0_4 == 5) = false := beq_eq_false_iff_ne.mpr c22; have c22b1 : (s0_4 != 5) = true := bne_iff_ne.mpr c22
  by_cases c35 : s0_4 = 6; rotate_left
  ·
   rw [if_neg c35] at H; have c35b0 : (s0_4 == 6) = false := beq_eq_false_iff_ne.mpr c35; have c35b1 : (s0_4 != 6) = true := bne_iff_ne.mpr c35; replace H := Option.bind_eq_some_iff.mp H; obtain ⟨⟨t414, t415, t416, t417, t418, t419, t420, t421, t422, t423, t424, t425⟩, A430, H⟩ := H; replace H : (some (t414, t415, t416, t417, t418, t419, t420, t421, t422, t423, t424, t425)) = some (r1, r2, r3, r4, r5, r6, r7, r8, r9, r10, r11, r12) := H; have A43 := Aside0.mk A430; clear A430; simp only [Option.some.injEq, Prod.mk.injEq] at H; obtain ⟨rfl, rfl, rfl, rfl, rfl, rfl, rfl, rfl, rfl, rfl, rfl, rfl⟩ := H; obtain ⟨HGz44, hgz44⟩ := HI0.out; have hcz44_0 := cellS46_0 HGz44; have hcz44_1 := cellS46_1 HGz44; have hcz44_2 := cellS46_2 HGz44; have hcz44_3 := cellS46_3 HGz44; have hcz44_4 := cellS46_4 HGz44; have hcz44_5 := cellS46_5 HGz44; have hcz44_6 := cellS46_6 HGz44; have hcz44_7 := cellS46_7 HGz44; have hcz44_8 := cellS46_8 HGz44; have hcz44_9 := cellS46_9 HGz44; have hcz44_10 := cellS46_10 HGz44; have hfz44_0 := blk_frozen HGz44 0; have hfz44_1 := blk_frozen HGz44 1; have hfz44_2 := blk_frozen HGz44 2; have hfz44_3 := blk_frozen HGz44 3; have hfz44_4 := blk_frozen HGz44 4; have hfz44_5 := blk_frozen HGz44 5; have hfz44_6 := blk_frozen HGz44 6; have hfz44_7 := blk_frozen HGz44 7; have hfz44_8 := blk_frozen HGz44 8; have hfz44_9 := blk_frozen HGz44 9; have hfz44_10 := blk_frozen HGz44 10; clear HGz44 hgz44; obtain ⟨Ao45, co45, eo45⟩ := Kd.R_slice HO1.out; subst eo45
   go_enter Try.func69, Try.ntmps69
   go_wp2_with (first | ((with_reducible refine gate_callee (f := 84) rfl ?_); refine goesL_ (some 10) rfl rfl Try.func84 (by kernel_rfl) rfl #[.pointer (some ⟨g, 0, none⟩), .slice Ao45 l1.length co45] rfl (MA) ?_; (with_reducible refine (impl_Task_walk.calls k g s0_0 s0_1 s0_2 s0_3 s0_4 s0_5 s0_6 s0_7 s0_8 s0_9 s0_10 (fun k_ => some k_ = (.slice Ao45 l1.length co45 : Value).ownBlock) (.slice Ao45 l1.length co45) l1 t414 t415 t416 t417 t418 t419 t420 t421 t422 t423 t424 t425 w0 _ ?side1 ?side2 ?side3 A43.out).mono ?_); (case side1 => exact impl_Task_step.k0 HI0.out); (case side2 => exact impl_Task_step.k1 HB.out); (case side3 => exact Kd.R_tight rfl HO1.out); rintro e w46 ⟨rfl, hi, hy0, hb, hkp⟩; refine ⟨_, rfl, ?_⟩; replace HI0 := Aside0.mk (hi); replace HK := Aside0.mk (Kept.then_ (S := (fun k_ => (P1_ k_) ∨ k_ = g)) (impl_Task_step.k2 HK.out) hkp (fun k_ hs_ => Or.elim hs_ (fun hs_ => (fun e_ => Or.imp_left Or.inl ((HO1.out.1 k_ e_.symm))) hs_) (fun e_ => .inl (.inr e_)))); replace HO1 := Aside0.mk (Kd.R_reok rfl hy0 (fun k_ e_ => HO1.out.1 k_ e_)); replace HB := Aside0.mk (hb); (try clear hb); (try clear hkp); (try clear hy0)))
   first | go_end0 | ((try simp only [Exit.inBlock, Exit.then]); refine bodyPost_ret (results_none rfl _ _ _) rfl ?_)
   exact ⟨EE, impl_Task_step.k0 HI0.out, RQ HO1.out, impl_Task_step.k1 HB.out, impl_Task_step.k2 HK.out⟩
  rw [if_pos c35] at H; have c35b0 : (s0_4 == 6) = true := beq_iff_eq.mpr c35; have c35b1 : (s0_4 != 6) = false := bne_eq_false_iff_eq.mpr c35; clear c35; replace H := Option.bind_eq_some_iff.mp H; obtain ⟨⟨t401, t402⟩, A360, H⟩ := H; replace H : ((impl_Task_done.f s0_0 s0_1 s0_2 s0_3 s0_4 s0_5 s0_6 s0_7 s0_8 s0_9 s0_10 1).bind fun bt403 => (some (bt403.1, bt403.2.1, bt403.2.2.1, bt403.2.2.2.1, bt403.2.2.2.2.1, bt403.2.2.2.2.2.1, bt403.2.2.2.2.2.2.1, bt403.2.2.2.2.2.2.2.1, bt403.2.2.2.2.2.2.2.2.1, bt403.2.2.2.2.2.2.2.2.2.1, bt403.2.2.2.2.2.2.2.2.2.2, t402))) = some (r1, r2, r3, r4, r5, r6, r7, r8, r9, r10, r11, r12) := H; have A36 := Aside0.mk A360; clear A360; replace H := Option.bind_eq_some_iff.mp H; obtain ⟨⟨t403, t404, t405, t406, t407, t408, t409, t410, t411, t412, t413⟩, A370, H⟩ := H; replace H : (some (t403, t404, t405, t406, t407, t408, t409, t410, t411, t412, t413, t402)) = some (r1, r2, r3, r4, r5, r6, r7, r8, r9, r10, r11, r12) := H; have A37 := Aside0.mk A370; clear A370; simp only [Option.some.injEq, Prod.mk.injEq] at H; obtain ⟨rfl, rfl, rfl, rfl, rfl, rfl, rfl, rfl, rfl, rfl, rfl, rfl⟩ := H; obtain ⟨HGz38, hgz38⟩ := HI0.out; have hcz38_0 := cellS46_0 HGz38; have hcz38_1 := cellS46_1 HGz38; have hcz38_2 := cellS46_2 HGz38; have hcz38_3 := cellS46_3 HGz38; have hcz38_4 := cellS46_4 HGz38; have hcz38_5 := cellS46_5 HGz38; have hcz38_6 := cellS46_6 HGz38; have hcz38_7 := cellS46_7 HGz38; have hcz38_8 := cellS46_8 HGz38; have hcz38_9 := cellS46_9 HGz38; have hcz38_10 := cellS46_10 HGz38; have hfz38_0 := blk_frozen HGz38 0; have hfz38_1 := blk_frozen HGz38 1; have hfz38_2 := blk_frozen HGz38 2; have hfz38_3 := blk_frozen HGz38 3; have hfz38_4 := blk_frozen HGz38 4; have hfz38_5 := blk_frozen HGz38 5; have hfz38_6 := blk_frozen HGz38 6; have hfz38_7 := blk_frozen HGz38 7; have hfz38_8 := blk_frozen HGz38 8; have hfz38_9 := blk_frozen HGz38 9; have hfz38_10 := blk_frozen HGz38 10; clear HGz38 hgz38
  go_enter Try.func69, Try.ntmps69
  try go_wp2
  have n0_ := Aside0.mk (Kd.R_drew HO1.out); have n1_ := Aside0.mk (IsS46.drew HI0.out); have n2_ := Aside0.mk (Kept.drew HK.out); have n3_ := Aside0.mk (below_drew1 HB.out); clear HO1; clear HI0; clear HK; clear HB; have HO1 := n0_; have HI0 := n1_; have HK := n2_; have HB := n3_; clear n0_ n1_ n2_ n3_; obtain ⟨Ao40, co40, eo40⟩ := Kd.R_slice HO1.out
  (first | subst eo40 | (injection eo40 with f1_ f2_ f3_; have f4_ := f1_.symm; have f5_ := f3_.symm; clear f1_ f2_ f3_; subst f4_; subst f5_))
  refine start_ (n := 16) (S := fun w' => w'.cell? ⟨g, 0, none⟩ = some (.int .i64 s0_0) ∧ w'.cell? ⟨g, 1, none⟩ = some (.int .i64 s0_1) ∧ w'.cell? ⟨g, 2, none⟩ = some (.int .i64 s0_2) ∧ w'.cell? ⟨g, 3, none⟩ = some (.int .i64 s0_3) ∧ w'.cell? ⟨g, 4, none⟩ = some (.int .i64 s0_4) ∧ w'.cell? ⟨g, 5, none⟩ = some (.int .i64 s0_5) ∧ w'.cell? ⟨g, 6, none⟩ = some (.int .i64 s0_6) ∧ w'.cell? ⟨g, 7, none⟩ = some (.int .i64 s0_7) ∧ w'.cell? ⟨g, 8, none⟩ = some (.int .i64 s0_8) ∧ w'.cell? ⟨g, 9, none⟩ = some (.bool s0_9) ∧ w'.cell? ⟨g, 10, none⟩ = some (.int .i64 s0_10)) (ds := []) #[false, false, false, false, false, false, false, false, false, false, false, false, false, false, false, false] (by kernel_rfl) rfl rfl ⟨(blk_cell (Aside0.mk (HI0.out).1).out 0).trans rfl, (blk_cell (Aside0.mk (HI0.out).1).out 1).trans rfl, (blk_cell (Aside0.mk (HI0.out).1).out 2).trans rfl, (blk_cell (Aside0.mk (HI0.out).1).out 3).trans rfl, (blk_cell (Aside0.mk (HI0.out).1).out 4).trans rfl, (blk_cell (Aside0.mk (HI0.out).1).out 5).trans rfl, (blk_cell (Aside0.mk (HI0.out).1).out 6).trans rfl, (blk_cell (Aside0.mk (HI0.out).1).out 7).trans rfl, (blk_cell (Aside0.mk (HI0.out).1).out 8).trans rfl, (blk_cell (Aside0.mk (HI0.out).1).out 9).trans rfl, (blk_cell (Aside0.mk (HI0.out).1).out 10).trans rfl⟩ (fun hHeld => ?_); refine with_tabW impl_Task_step.tab13 impl_Task_step.bits13 (fun HT_ HW_ => ?_); generalize w.drew = w39 at HO1 HI0 HK HB hHeld ⊢; refine pV 0 66 (OB 16 1) ?_; refine pV 1 67 (OB 16 3) ?_; refine pV 2 68 (OB 16 7) ?_; refine pV 3 69 (OB 16 15) ?_; refine pV 5 71 (OB 16 47) ?_; refine pV 6 72 (OB 16 111) ?_; refine pV 7 73 (OB 16 239) ?_; refine pV 10 76 (OB 16 1263) ?_; refine pV 11 77 (OB 16 3311) ?_; refine pV 12 78 (OB 16 7407) ?_; refine pT 4 70 (OB 16 7423) ?_; refine pT 8 74 (OB 16 7679) ?_; refine pV 9 75 (OB 16 8191) ?_; refine pT 13 79 (OB 16 16383) ?_; refine pV 14 80 (OB 16 32767) ?_; refine one_ (i := 15) (N := some 81) (OB 16 65535) rfl rfl (one_of HT_.out (by kernel_rfl)) (by decide) (fun K hK => ?_); refine goes_ Try.func82 (by kernel_rfl) rfl #[.slice Ao40 l1.length co40, .int .i64 s0_5, .int .i64 (wrap64 (2 * s0_6)), .int .i64 (wrap64 (2 * s0_7))] (by rfl) rfl rfl (MA) ?_
  with_reducible refine (impl_swapWord.calls (fun k_ => some k_ = (.slice Ao40 l1.length co40 : Value).ownBlock) (.slice Ao40 l1.length co40) l1 s0_5 (wrap64 (2 * s0_6)) (wrap64 (2 * s0_7)) t401 t402 w0 _ ?side1 ?side2 A36.out).mono ?_
  (case side1 => exact impl_Task_step.k1 HB.out)
  (case side2 => exact Kd.R_tight rfl HO1.out)
  rintro e w41 ⟨rfl, hy0, hb, hkp⟩; refine ⟨_, rfl, ?_⟩; have n0_ := Aside0.mk (IsS46.kept (impl_Task_step.k0 HI0.out) hkp (fun hs_ => (fun e_ => (IsS46.own_ne HI0.out HO1.out (by decide)) e_) hs_)); have n1_ := Aside0.mk (Kd.R_reok rfl hy0 (fun k_ e_ => HO1.out.1 k_ e_)); have n2_ := Aside0.mk (Kept.then_ (S := (fun k_ => (P1_ k_) ∨ k_ = g)) (impl_Task_step.k2 HK.out) hkp (fun k_ hs_ => (fun e_ => Or.imp_left Or.inl ((HO1.out.1 k_ e_.symm))) hs_)); have n3_ := Aside0.mk (hb); clear HI0; clear HO1; clear HK; clear HB; have HI0 := n0_; have HO1 := n1_; have HK := n2_; have HB := n3_; clear n0_ n1_ n2_ n3_
  (try clear hb)
  (try clear hkp)
  (try clear hy0)
  refine hK.out _ _ ⟨(blk_cell (Aside0.mk (HI0.out).1).out 0).trans rfl, (blk_cell (Aside0.mk (HI0.out).1).out 1).trans rfl, (blk_cell (Aside0.mk (HI0.out).1).out 2).trans rfl, (blk_cell (Aside0.mk (HI0.out).1).out 3).trans rfl, (blk_cell (Aside0.mk (HI0.out).1).out 4).trans rfl, (blk_cell (Aside0.mk (HI0.out).1).out 5).trans rfl, (blk_cell (Aside0.mk (HI0.out).1).out 6).trans rfl, (blk_cell (Aside0.mk (HI0.out).1).out 7).trans rfl, (blk_cell (Aside0.mk (HI0.out).1).out 8).trans rfl, (blk_cell (Aside0.mk (HI0.out).1).out 9).trans rfl, (blk_cell (Aside0.mk (HI0.out).1).out 10).trans rfl⟩ (fun hHeld => ?_); clear hK K; refine norm_ (a' := ?_) ?_ ?_; rotate_left
  ·
   show Act.put _ (some 81) _ = _; simp only [Act.put, zA, zB, zC, i64_w, i32_w]; rfl
  refine done_ (done_of HT_.out (by kernel_rfl)) ?_
  try go_wp2_with (first | ((with_reducible refine gate_callee (f := 83) rfl ?_); refine goesL_ (some 83) rfl rfl Try.func83 (by kernel_rfl) rfl #[.pointer (some ⟨g, 0, none⟩), .int .i64 1] rfl (MA) ?_; (with_reducible refine (impl_Task_done.calls g s0_0 s0_1 s0_2 s0_3 s0_4 s0_5 s0_6 s0_7 s0_8 s0_9 s0_10 1 t403 t404 t405 t406 t407 t408 t409 t410 t411 t412 t413 w0 _ ?side1 ?side2 A37.out).mono ?_); (case side1 => exact impl_Task_step.k0 HI0.out); (case side2 => exact impl_Task_step.k1 HB.out); rintro e w42 ⟨rfl, hi, hb, hk⟩; refine ⟨_, rfl, ?_⟩; replace HO1 := Aside0.mk (Kd.R_mono (Kd.R_keep (IsS46.apart (show IsS46 w0 _ g s0_0 s0_1 s0_2 s0_3 s0_4 s0_5 s0_6 s0_7 s0_8 s0_9 s0_10 from impl_Task_step.k0 HI0.out) (RQ HO1.out) (by decide)) hk (fun _ h => h.2)) (fun _ h => h.1)); replace HK := Aside0.mk (Kept.of_keep (S := (fun k_ => (P1_ k_) ∨ k_ = g)) (impl_Task_step.k2 HK.out) hk (.inl (.inr rfl))); replace HB := Aside0.mk (hb); replace HI0 := Aside0.mk (hi); (try clear hb); (try clear hb2); (try clear hk); (try clear hi)))
  first | go_end0 | ((try simp only [Exit.inBlock, Exit.then]); refine bodyPost_ret (results_none rfl _ _ _) rfl ?_)
  exact ⟨EE, impl_Task_step.k0 HI0.out, RQ HO1.out, impl_Task_step.k1 HB.out, impl_Task_step.k2 HK.out⟩
 rw [if_pos c22] at H
 have c22b0 : (s0_4 == 5) = true := beq_iff_eq.mpr c22
 have c22b1 : (s0_4 != 5) = false := bne_eq_false_iff_eq.mpr c22
 clear c22
 replace H := Option.bind_eq_some_iff.mp H
 obtain ⟨⟨t399, t400⟩, A230, H⟩ := H
 replace H : (if t399 = true then (some (s0_0, s0_1, s0_2, s0_3, 6, s0_5, s0_6, s0_7, s0_8, s0_9, s0_10, t400)) else (some (s0_0, s0_1, s0_2, s0_3, 0, s0_5, s0_6, s0_7, s0_8, s0_9, s0_10, t400))) = some (r1, r2, r3, r4, r5, r6, r7, r8, r9, r10, r11, r12) := H
 have A23 := Aside0.mk A230
 clear A230
 by_cases c24 : t399 = true
 ·
  subst c24
  have H1 : (some (s0_0, s0_1, s0_2, s0_3, 6, s0_5, s0_6, s0_7, s0_8, s0_9, s0_10, t400)) = some (r1, r2, r3, r4, r5, r6, r7, r8, r9, r10, r11, r12) := by rw [if_pos rfl] at H; exact H
  clear H; have H := H1; clear H1; simp only [Option.some.injEq, Prod.mk.injEq] at H; obtain ⟨rfl, rfl, rfl, rfl, rfl, rfl, rfl, rfl, rfl, rfl, rfl, rfl⟩ := H; obtain ⟨HGz25, hgz25⟩ := HI0.out; have hcz25_0 := cellS46_0 HGz25; have hcz25_1 := cellS46_1 HGz25; have hcz25_2 := cellS46_2 HGz25; have hcz25_3 := cellS46_3 HGz25; have hcz25_4 := cellS46_4 HGz25; have hcz25_5 := cellS46_5 HGz25; have hcz25_6 := cellS46_6 HGz25; have hcz25_7 := cellS46_7 HGz25; have hcz25_8 := cellS46_8 HGz25; have hcz25_9 := cellS46_9 HGz25; have hcz25_10 := cellS46_10 HGz25; have hfz25_0 := blk_frozen HGz25 0; have hfz25_1 := blk_frozen HGz25 1; have hfz25_2 := blk_frozen HGz25 2; have hfz25_3 := blk_frozen HGz25 3; have hfz25_4 := blk_frozen HGz25 4; have hfz25_5 := blk_frozen HGz25 5; have hfz25_6 := blk_frozen HGz25 6; have hfz25_7 := blk_frozen HGz25 7; have hfz25_8 := blk_frozen HGz25 8; have hfz25_9 := blk_frozen HGz25 9; have hfz25_10 := blk_frozen HGz25 10; clear HGz25 hgz25
  go_enter Try.func69, Try.ntmps69
  try go_wp2
  have n0_ := Aside0.mk (Kd.R_drew HO1.out); have n1_ := Aside0.mk (IsS46.drew HI0.out); have n2_ := Aside0.mk (Kept.drew HK.out); have n3_ := Aside0.mk (below_drew1 HB.out); clear HO1; clear HI0; clear HK; clear HB; have HO1 := n0_; have HI0 := n1_; have HK := n2_; have HB := n3_; clear n0_ n1_ n2_ n3_; obtain ⟨Ao27, co27, eo27⟩ := Kd.R_slice HO1.out
  (first | subst eo27 | (injection eo27 with f1_ f2_ f3_; have f4_ := f1_.symm; have f5_ := f3_.symm; clear f1_ f2_ f3_; subst f4_; subst f5_))
  refine start_ (n := 17) (S := fun w' => w'.cell? ⟨g, 0, none⟩ = some (.int .i64 s0_0) ∧ w'.cell? ⟨g, 1, none⟩ = some (.int .i64 s0_1) ∧ w'.cell? ⟨g, 2, none⟩ = some (.int .i64 s0_2) ∧ w'.cell? ⟨g, 3, none⟩ = some (.int .i64 s0_3) ∧ w'.cell? ⟨g, 4, none⟩ = some (.int .i64 s0_4) ∧ w'.cell? ⟨g, 5, none⟩ = some (.int .i64 s0_5) ∧ w'.cell? ⟨g, 6, none⟩ = some (.int .i64 s0_6) ∧ w'.cell? ⟨g, 7, none⟩ = some (.int .i64 s0_7) ∧ w'.cell? ⟨g, 8, none⟩ = some (.int .i64 s0_8) ∧ w'.cell? ⟨g, 9, none⟩ = some (.bool s0_9) ∧ w'.cell? ⟨g, 10, none⟩ = some (.int .i64 s0_10)) (ds := []) #[false, false, false, false, false, false, false, false, false, false, false, false, false, false, false, false, false] (by kernel_rfl) rfl rfl ⟨(blk_cell (Aside0.mk (HI0.out).1).out 0).trans rfl, (blk_cell (Aside0.mk (HI0.out).1).out 1).trans rfl, (blk_cell (Aside0.mk (HI0.out).1).out 2).trans rfl, (blk_cell (Aside0.mk (HI0.out).1).out 3).trans rfl, (blk_cell (Aside0.mk (HI0.out).1).out 4).trans rfl, (blk_cell (Aside0.mk (HI0.out).1).out 5).trans rfl, (blk_cell (Aside0.mk (HI0.out).1).out 6).trans rfl, (blk_cell (Aside0.mk (HI0.out).1).out 7).trans rfl, (blk_cell (Aside0.mk (HI0.out).1).out 8).trans rfl, (blk_cell (Aside0.mk (HI0.out).1).out 9).trans rfl, (blk_cell (Aside0.mk (HI0.out).1).out 10).trans rfl⟩ (fun hHeld => ?_); refine with_tabW impl_Task_step.tab9 impl_Task_step.bits9 (fun HT_ HW_ => ?_); generalize w.drew = w26 at HO1 HI0 HK HB hHeld ⊢; refine pV 0 41 (OB 17 1) ?_; refine pV 1 42 (OB 17 3) ?_; refine pV 2 43 (OB 17 7) ?_; refine pV 3 44 (OB 17 15) ?_; refine pV 5 46 (OB 17 47) ?_; refine pV 6 47 (OB 17 111) ?_; refine pV 7 48 (OB 17 239) ?_; refine pV 10 51 (OB 17 1263) ?_; refine pV 11 52 (OB 17 3311) ?_; refine pV 12 53 (OB 17 7407) ?_; refine pT 4 45 (OB 17 7423) ?_; refine pT 8 49 (OB 17 7679) ?_; refine pV 9 50 (OB 17 8191) ?_; refine pT 13 54 (OB 17 16383) ?_; refine pV 14 55 (OB 17 32767) ?_; refine pV 15 56 (OB 17 65535) ?_; refine one_ (i := 16) (N := some 57) (OB 17 131071) rfl rfl (one_of HT_.out (by kernel_rfl)) (by decide) (fun K hK => ?_); refine goes_ Try.func82 (by kernel_rfl) rfl #[.slice Ao27 l1.length co27, .int .i64 s0_6, .int .i64 (wrap64 (2 * s0_7)), .int .i64 (wrap64 ((wrap64 (2 * s0_7)) + 1))] (by rfl) rfl rfl (MA) ?_
  with_reducible refine (impl_swapWord.calls (fun k_ => some k_ = (.slice Ao27 l1.length co27 : Value).ownBlock) (.slice Ao27 l1.length co27) l1 s0_6 (wrap64 (2 * s0_7)) (wrap64 ((wrap64 (2 * s0_7)) + 1)) true t400 w0 _ ?side1 ?side2 A23.out).mono ?_
  (case side1 => exact impl_Task_step.k1 HB.out)
  (case side2 => exact Kd.R_tight rfl HO1.out)
  rintro e w28 ⟨rfl, hy0, hb, hkp⟩; refine ⟨_, rfl, ?_⟩; have n0_ := Aside0.mk (IsS46.kept (impl_Task_step.k0 HI0.out) hkp (fun hs_ => (fun e_ => (IsS46.own_ne HI0.out HO1.out (by decide)) e_) hs_)); have n1_ := Aside0.mk (Kd.R_reok rfl hy0 (fun k_ e_ => HO1.out.1 k_ e_)); have n2_ := Aside0.mk (Kept.then_ (S := (fun k_ => (P1_ k_) ∨ k_ = g)) (impl_Task_step.k2 HK.out) hkp (fun k_ hs_ => (fun e_ => Or.imp_left Or.inl ((HO1.out.1 k_ e_.symm))) hs_)); have n3_ := Aside0.mk (hb); clear HI0; clear HO1; clear HK; clear HB; have HI0 := n0_; have HO1 := n1_; have HK := n2_; have HB := n3_; clear n0_ n1_ n2_ n3_
  (try clear hb)
  (try clear hkp)
  (try clear hy0)
  refine hK.out _ _ ⟨(blk_cell (Aside0.mk (HI0.out).1).out 0).trans rfl, (blk_cell (Aside0.mk (HI0.out).1).out 1).trans rfl, (blk_cell (Aside0.mk (HI0.out).1).out 2).trans rfl, (blk_cell (Aside0.mk (HI0.out).1).out 3).trans rfl, (blk_cell (Aside0.mk (HI0.out).1).out 4).trans rfl, (blk_cell (Aside0.mk (HI0.out).1).out 5).trans rfl, (blk_cell (Aside0.mk (HI0.out).1).out 6).trans rfl, (blk_cell (Aside0.mk (HI0.out).1).out 7).trans rfl, (blk_cell (Aside0.mk (HI0.out).1).out 8).trans rfl, (blk_cell (Aside0.mk (HI0.out).1).out 9).trans rfl, (blk_cell (Aside0.mk (HI0.out).1).out 10).trans rfl⟩ (fun hHeld => ?_); clear hK K; refine norm_ (a' := ?_) ?_ ?_; rotate_left
  ·
   show Act.put _ (some 57) _ = _; simp only [Act.put, zA, zB, zC, i64_w, i32_w]; rfl
  refine done_ (done_of HT_.out (by kernel_rfl)) ?_; obtain ⟨HGz29, hgz29⟩ := HI0.out; have hcz29_0 := cellS46_0 HGz29; have hcz29_1 := cellS46_1 HGz29; have hcz29_2 := cellS46_2 HGz29; have hcz29_3 := cellS46_3 HGz29; have hcz29_4 := cellS46_4 HGz29; have hcz29_5 := cellS46_5 HGz29; have hcz29_6 := cellS46_6 HGz29; have hcz29_7 := cellS46_7 HGz29; have hcz29_8 := cellS46_8 HGz29; have hcz29_9 := cellS46_9 HGz29; have hcz29_10 := cellS46_10 HGz29; have hfz29_0 := blk_frozen HGz29 0; have hfz29_1 := blk_frozen HGz29 1; have hfz29_2 := blk_frozen HGz29 2; have hfz29_3 := blk_frozen HGz29 3; have hfz29_4 := blk_frozen HGz29 4; have hfz29_5 := blk_frozen HGz29 5; have hfz29_6 := blk_frozen HGz29 6; have hfz29_7 := blk_frozen HGz29 7; have hfz29_8 := blk_frozen HGz29 8; have hfz29_9 := blk_frozen HGz29 9; have hfz29_10 := blk_frozen HGz29 10; clear HGz29 hgz29
  try go_wp2
  first | go_end0 | ((try simp only [Exit.inBlock, Exit.then]); refine bodyPost_ret (results_none rfl _ _ _) rfl ?_)
  exact ⟨EE, impl_Task_step.k0 HI0.out, by (with_reducible repeat (first | apply r1 | apply r2 | apply r3)); exact Kd.R_mono (Kd.R_far (p := ⟨g, 4, none⟩) (IsS46.apart HI0.out HO1.out (by decide)) (fun _ hk => hk.2) (.int .i64 6)) (fun _ hk => hk.1), impl_Task_step.k1 HB.out, impl_Task_step.k2 HK.out⟩
 replace c24 := Bool.eq_false_iff.mpr c24
 subst c24
 have H1 : (some (s0_0, s0_1, s0_2, s0_3, 0, s0_5, s0_6, s0_7, s0_8, s0_9, s0_10, t400)) = some (r1, r2, r3, r4, r5, r6, r7, r8, r9, r10, r11, r12) := by rw [if_neg (show ¬ (false = true) by decide)] at H; exact H
 clear H
 have H := H1
 clear H1
 simp only [Option.some.injEq, Prod.mk.injEq] at H
 obtain ⟨rfl, rfl, rfl, rfl, rfl, rfl, rfl, rfl, rfl, rfl, rfl, rfl⟩ := H
 obtain ⟨HGz30, hgz30⟩ := HI0.out
 have hcz30_0 := cellS46_0 HGz30
 have hcz30_1 := cellS46_1 HGz30
 have hcz30_2 := cellS46_2 HGz30
 have hcz30_3 := cellS46_3 HGz30
 have hcz30_4 := cellS46_4 HGz30
 have hcz30_5 := cellS46_5 HGz30
 have hcz30_6 := cellS46_6 HGz30
 have hcz30_7 := cellS46_7 HGz30
 have hcz30_8 := cellS46_8 HGz30
 have hcz30_9 := cellS46_9 HGz30
 have hcz30_10 := cellS46_10 HGz30
 have hfz30_0 := blk_frozen HGz30 0
 have hfz30_1 := blk_frozen HGz30 1
 have hfz30_2 := blk_frozen HGz30 2
 have hfz30_3 := blk_frozen HGz30 3
 have hfz30_4 := blk_frozen HGz30 4
 have hfz30_5 := blk_frozen HGz30 5
 have hfz30_6 := blk_frozen HGz30 6
 have hfz30_7 := blk_frozen HGz30 7
 have hfz30_8 := blk_frozen HGz30 8
 have hfz30_9 := blk_frozen HGz30 9
 have hfz30_10 := blk_frozen HGz30 10
 clear HGz30 hgz30
 go_enter Try.func69, Try.ntmps69
 try go_wp2
 have n0_ := Aside0.mk (Kd.R_drew HO1.out)
 have n1_ := Aside0.mk (IsS46.drew HI0.out)
 have n2_ := Aside0.mk (Kept.drew HK.out)
 have n3_ := Aside0.mk (below_drew1 HB.out)
 clear HO1
 clear HI0
 clear HK
 clear HB
 have HO1 := n0_
 have HI0 := n1_
 have HK := n2_
 have HB := n3_
 clear n0_ n1_ n2_ n3_
 obtain ⟨Ao32, co32, eo32⟩ := Kd.R_slice HO1.out
 (first | subst eo32 | (injection eo32 with f1_ f2_ f3_; have f4_ := f1_.symm; have f5_ := f3_.symm; clear f1_ f2_ f3_; subst f4_; subst f5_))
 refine start_ (n := 17) (S := fun w' => w'.cell? ⟨g, 0, none⟩ = some (.int .i64 s0_0) ∧ w'.cell? ⟨g, 1, none⟩ = some (.int .i64 s0_1) ∧ w'.cell? ⟨g, 2, none⟩ = some (.int .i64 s0_2) ∧ w'.cell? ⟨g, 3, none⟩ = some (.int .i64 s0_3) ∧ w'.cell? ⟨g, 4, none⟩ = some (.int .i64 s0_4) ∧ w'.cell? ⟨g, 5, none⟩ = some (.int .i64 s0_5) ∧ w'.cell? ⟨g, 6, none⟩ = some (.int .i64 s0_6) ∧ w'.cell? ⟨g, 7, none⟩ = some (.int .i64 s0_7) ∧ w'.cell? ⟨g, 8, none⟩ = some (.int .i64 s0_8) ∧ w'.cell? ⟨g, 9, none⟩ = some (.bool s0_9) ∧ w'.cell? ⟨g, 10, none⟩ = some (.int .i64 s0_10)) (ds := []) #[false, false, false, false, false, false, false, false, false, false, false, false, false, false, false, false, false] (by kernel_rfl) rfl rfl ⟨(blk_cell (Aside0.mk (HI0.out).1).out 0).trans rfl, (blk_cell (Aside0.mk (HI0.out).1).out 1).trans rfl, (blk_cell (Aside0.mk (HI0.out).1).out 2).trans rfl, (blk_cell (Aside0.mk (HI0.out).1).out 3).trans rfl, (blk_cell (Aside0.mk (HI0.out).1).out 4).trans rfl, (blk_cell (Aside0.mk (HI0.out).1).out 5).trans rfl, (blk_cell (Aside0.mk (HI0.out).1).out 6).trans rfl, (blk_cell (Aside0.mk (HI0.out).1).out 7).trans rfl, (blk_cell (Aside0.mk (HI0.out).1).out 8).trans rfl, (blk_cell (Aside0.mk (HI0.out).1).out 9).trans rfl, (blk_cell (Aside0.mk (HI0.out).1).out 10).trans rfl⟩ (fun hHeld => ?_); refine with_tabW impl_Task_step.tab9 impl_Task_step.bits9 (fun HT_ HW_ => ?_)
 generalize w.drew = w31 at HO1 HI0 HK HB hHeld ⊢
 refine pV 0 41 (OB 17 1) ?_
 refine pV 1 42 (OB 17 3) ?_
 refine pV 2 43 (OB 17 7) ?_
 refine pV 3 44 (OB 17 15) ?_
 refine pV 5 46 (OB 17 47) ?_
 refine pV 6 47 (OB 17 111) ?_
 refine pV 7 48 (OB 17 239) ?_
 refine pV 10 51 (OB 17 1263) ?_
 refine pV 11 52 (OB 17 3311) ?_
 refine pV 12 53 (OB 17 7407) ?_
 refine pT 4 45 (OB 17 7423) ?_
 refine pT 8 49 (OB 17 7679) ?_
 refine pV 9 50 (OB 17 8191) ?_
 refine pT 13 54 (OB 17 16383) ?_
 refine pV 14 55 (OB 17 32767) ?_
 refine pV 15 56 (OB 17 65535) ?_
 refine one_ (i := 16) (N := some 57) (OB 17 131071) rfl rfl (one_of HT_.out (by kernel_rfl)) (by decide) (fun K hK => ?_)
 refine goes_ Try.func82 (by kernel_rfl) rfl #[.slice Ao32 l1.length co32, .int .i64 s0_6, .int .i64 (wrap64 (2 * s0_7)), .int .i64 (wrap64 ((wrap64 (2 * s0_7)) + 1))] (by rfl) rfl rfl (MA) ?_
 with_reducible refine (impl_swapWord.calls (fun k_ => some k_ = (.slice Ao32 l1.length co32 : Value).ownBlock) (.slice Ao32 l1.length co32) l1 s0_6 (wrap64 (2 * s0_7)) (wrap64 ((wrap64 (2 * s0_7)) + 1)) false t400 w0 _ ?side1 ?side2 A23.out).mono ?_
 (case side1 => exact impl_Task_step.k1 HB.out)
 (case side2 => exact Kd.R_tight rfl HO1.out)
 rintro e w33 ⟨rfl, hy0, hb, hkp⟩
 refine ⟨_, rfl, ?_⟩
 have n0_ := Aside0.mk (IsS46.kept (impl_Task_step.k0 HI0.out) hkp (fun hs_ => (fun e_ => (IsS46.own_ne HI0.out HO1.out (by decide)) e_) hs_))
 have n1_ := Aside0.mk (Kd.R_reok rfl hy0 (fun k_ e_ => HO1.out.1 k_ e_))
 have n2_ := Aside0.mk (Kept.then_ (S := (fun k_ => (P1_ k_) ∨ k_ = g)) (impl_Task_step.k2 HK.out) hkp (fun k_ hs_ => (fun e_ => Or.imp_left Or.inl ((HO1.out.1 k_ e_.symm))) hs_))
 have n3_ := Aside0.mk (hb)
 clear HI0
 clear HO1
 clear HK
 clear HB
 have HI0 := n0_
 have HO1 := n1_
 have HK := n2_
 have HB := n3_
 clear n0_ n1_ n2_ n3_
 (try clear hb)
 (try clear hkp)
 (try clear hy0)
 refine hK.out _ _ ⟨(blk_cell (Aside0.mk (HI0.out).1).out 0).trans rfl, (blk_cell (Aside0.mk (HI0.out).1).out 1).trans rfl, (blk_cell (Aside0.mk (HI0.out).1).out 2).trans rfl, (blk_cell (Aside0.mk (HI0.out).1).out 3).trans rfl, (blk_cell (Aside0.mk (HI0.out).1).out 4).trans rfl, (blk_cell (Aside0.mk (HI0.out).1).out 5).trans rfl, (blk_cell (Aside0.mk (HI0.out).1).out 6).trans rfl, (blk_cell (Aside0.mk (HI0.out).1).out 7).trans rfl, (blk_cell (Aside0.mk (HI0.out).1).out 8).trans rfl, (blk_cell (Aside0.mk (HI0.out).1).out 9).trans rfl, (blk_cell (Aside0.mk (HI0.out).1).out 10).trans rfl⟩ (fun hHeld => ?_)
 clear hK K
 refine norm_ (a' := ?_) ?_ ?_
 rotate_left
 ·
  show Act.put _ (some 57) _ = _; simp only [Act.put, zA, zB, zC, i64_w, i32_w]; rfl
 refine done_ (done_of HT_.out (by kernel_rfl)) ?_
 obtain ⟨HGz34, hgz34⟩ := HI0.out
 have hcz34_0 := cellS46_0 HGz34
 have hcz34_1 := cellS46_1 HGz34
 have hcz34_2 := cellS46_2 HGz34
 have hcz34_3 := cellS46_3 HGz34
 have hcz34_4 := cellS46_4 HGz34
 have hcz34_5 := cellS46_5 HGz34
 have hcz34_6 := cellS46_6 HGz34
 have hcz34_7 := cellS46_7 HGz34
 have hcz34_8 := cellS46_8 HGz34
 have hcz34_9 := cellS46_9 HGz34
 have hcz34_10 := cellS46_10 HGz34
 have hfz34_0 := blk_frozen HGz34 0
 have hfz34_1 := blk_frozen HGz34 1
 have hfz34_2 := blk_frozen HGz34 2
 have hfz34_3 := blk_frozen HGz34 3
 have hfz34_4 := blk_frozen HGz34 4
 have hfz34_5 := blk_frozen HGz34 5
 have hfz34_6 := blk_frozen HGz34 6
 have hfz34_7 := blk_frozen HGz34 7
 have hfz34_8 := blk_frozen HGz34 8
 have hfz34_9 := blk_frozen HGz34 9
 have hfz34_10 := blk_frozen HGz34 10
 clear HGz34 hgz34
 try go_wp2
 first | go_end0 | ((try simp only [Exit.inBlock, Exit.then]); refine bodyPost_ret (results_none rfl _ _ _) rfl ?_)
 exact ⟨EE, impl_Task_step.k0 HI0.out, by (with_reducible repeat (first | apply r1 | apply r2 | apply r3)); exact Kd.R_mono (Kd.R_far (p := ⟨g, 4, none⟩) (IsS46.apart HI0.out HO1.out (by decide)) (fun _ hk => hk.2) (.int .i64 0)) (fun _ hk => hk.1), impl_Task_step.k1 HB.out, impl_Task_step.k2 HK.out⟩

/-! ### impl_StepTask: function 39 -/
def impl_StepTask.f (k : Nat) (l0 : List Int) (a1_0 : Int) (a1_1 : Int) (a1_2 : Int) (a1_3 : Int) (a1_4 : Int) (a1_5 : Int) (a1_6 : Int) (a1_7 : Int) (a1_8 : Int) (a1_9 : Bool) (a1_10 : Int) : Option (List Int × Int × Int × Int × Int × Int × Int × Int × Int × Int × Bool × Int) := (impl_copyInts.f l0).bind fun t428 => (if a1_9 = true then (some (t428, a1_0, a1_1, a1_2, a1_3, a1_4, a1_5, a1_6, a1_7, a1_8, a1_9, a1_10)) else ((impl_TaskOk.f k a1_0 a1_1 a1_2 a1_3 a1_4 a1_5 a1_6 a1_7 a1_8 a1_9 a1_10).bind fun t431 => (if t431 = true then (if (l0.length : Int) = 63 then ((impl_CellsOk.f k l0).bind fun t432 => (if t432 = true then ((impl_Task_step.f k a1_0 a1_1 a1_2 a1_3 a1_4 a1_5 a1_6 a1_7 a1_8 a1_9 a1_10 t428).bind fun bt433 => (some (bt433.2.2.2.2.2.2.2.2.2.2.2, bt433.1, bt433.2.1, bt433.2.2.1, bt433.2.2.2.1, bt433.2.2.2.2.1, bt433.2.2.2.2.2.1, bt433.2.2.2.2.2.2.1, bt433.2.2.2.2.2.2.2.1, bt433.2.2.2.2.2.2.2.2.1, bt433.2.2.2.2.2.2.2.2.2.1, bt433.2.2.2.2.2.2.2.2.2.2.1))) else (some (t428, a1_0, a1_1, a1_2, a1_3, a1_4, a1_5, a1_6, a1_7, a1_8, a1_9, a1_10)))) else (some (t428, a1_0, a1_1, a1_2, a1_3, a1_4, a1_5, a1_6, a1_7, a1_8, a1_9, a1_10))) else (some (t428, a1_0, a1_1, a1_2, a1_3, a1_4, a1_5, a1_6, a1_7, a1_8, a1_9, a1_10)))))
theorem impl_StepTask.mono : ∀ a0 a1 a2 a3 a4 a5 a6 a7 a8 a9 a10 a11 k, LeO (impl_StepTask.f k a0 a1 a2 a3 a4 a5 a6 a7 a8 a9 a10 a11) (impl_StepTask.f (k + 1) a0 a1 a2 a3 a4 a5 a6 a7 a8 a9 a10 a11) := by
 intro a0 a1 a2 a3 a4 a5 a6 a7 a8 a9 a10 a11 k
 unfold impl_StepTask.f
 repeat' first
   | (with_reducible exact impl_CellsOk.mono _ _)
   | (with_reducible exact impl_TaskOk.mono _ _ _ _ _ _ _ _ _ _ _ _)
   | (with_reducible exact impl_Task_step.mono _ _ _ _ _ _ _ _ _ _ _ _ _)
   | (with_reducible exact LeO.refl _)
   | (with_reducible exact LeO.none _)
   | (with_reducible refine LeO.ite ?_ ?_)
   | (with_reducible refine LeO.bind ?_ (fun _ => ?_))
   | exact impl_CellsOk.mono _ _
   | exact impl_TaskOk.mono _ _ _ _ _ _ _ _ _ _ _ _
   | exact impl_Task_step.mono _ _ _ _ _ _ _ _ _ _ _ _ _
   | exact LeO.none _
   | refine LeO.ite ?_ ?_
   | refine LeO.bind ?_ (fun _ => ?_)
theorem impl_StepTask.fin {w0 w : World} {gz : Nat} {ok : Nat → Prop} {v : Value} {xs : List Int} (a0 a1 a2 a3 a4 a5 a6 a7 a8 : Int) (a9 : Bool) (a10 : Int) (b : w.heap[gz]? = some (.cells #[.int .i64 0, .int .i64 0, .int .i64 0, .int .i64 0, .int .i64 0, .int .i64 0, .int .i64 0, .int .i64 0, .int .i64 0, .bool false, .int .i64 0] 46 (0, 0))) (hb : Below w0.heap.size w0 w) (hg : w0.heap.size ≤ gz) (hr : Kd.R (Kd.int .i64) 3 w w0.heap.size ok v xs) :
 ((((((((((((w.setCell ⟨gz, 0, none⟩ (.int .i64 a0)).setCell ⟨gz, 1, none⟩ (.int .i64 a1)).setCell ⟨gz, 2, none⟩ (.int .i64 a2)).setCell ⟨gz, 3, none⟩ (.int .i64 a3)).setCell ⟨gz, 4, none⟩ (.int .i64 a4)).setCell ⟨gz, 5, none⟩ (.int .i64 a5)).setCell ⟨gz, 6, none⟩ (.int .i64 a6)).setCell ⟨gz, 7, none⟩ (.int .i64 a7)).setCell ⟨gz, 8, none⟩ (.int .i64 a8)).setCell ⟨gz, 9, none⟩ (.bool a9)).setCell ⟨gz, 10, none⟩ (.int .i64 a10)).drew).heap[gz]? = some (.cells #[.int .i64 a0, .int .i64 a1, .int .i64 a2, .int .i64 a3, .int .i64 a4, .int .i64 a5, .int .i64 a6, .int .i64 a7, .int .i64 a8, .bool a9, .int .i64 a10] 46 (0, 0)) ∧ Kd.R (Kd.int .i64) 3 ((((((((((((w.setCell ⟨gz, 0, none⟩ (.int .i64 a0)).setCell ⟨gz, 1, none⟩ (.int .i64 a1)).setCell ⟨gz, 2, none⟩ (.int .i64 a2)).setCell ⟨gz, 3, none⟩ (.int .i64 a3)).setCell ⟨gz, 4, none⟩ (.int .i64 a4)).setCell ⟨gz, 5, none⟩ (.int .i64 a5)).setCell ⟨gz, 6, none⟩ (.int .i64 a6)).setCell ⟨gz, 7, none⟩ (.int .i64 a7)).setCell ⟨gz, 8, none⟩ (.int .i64 a8)).setCell ⟨gz, 9, none⟩ (.bool a9)).setCell ⟨gz, 10, none⟩ (.int .i64 a10)).drew) w0.heap.size (fun _ => True) v xs ∧ Below w0.heap.size w0 ((((((((((((w.setCell ⟨gz, 0, none⟩ (.int .i64 a0)).setCell ⟨gz, 1, none⟩ (.int .i64 a1)).setCell ⟨gz, 2, none⟩ (.int .i64 a2)).setCell ⟨gz, 3, none⟩ (.int .i64 a3)).setCell ⟨gz, 4, none⟩ (.int .i64 a4)).setCell ⟨gz, 5, none⟩ (.int .i64 a5)).setCell ⟨gz, 6, none⟩ (.int .i64 a6)).setCell ⟨gz, 7, none⟩ (.int .i64 a7)).setCell ⟨gz, 8, none⟩ (.int .i64 a8)).setCell ⟨gz, 9, none⟩ (.bool a9)).setCell ⟨gz, 10, none⟩ (.int .i64 a10)).drew) :=
 ⟨blk_drew (blk_put (cs' := #[.int .i64 a0, .int .i64 a1, .int .i64 a2, .int .i64 a3, .int .i64 a4, .int .i64 a5, .int .i64 a6, .int .i64 a7, .int .i64 a8, .bool a9, .int .i64 a10]) (blk_put (cs' := #[.int .i64 a0, .int .i64 a1, .int .i64 a2, .int .i64 a3, .int .i64 a4, .int .i64 a5, .int .i64 a6, .int .i64 a7, .int .i64 a8, .bool a9, .int .i64 0]) (blk_put (cs' := #[.int .i64 a0, .int .i64 a1, .int .i64 a2, .int .i64 a3, .int .i64 a4, .int .i64 a5, .int .i64 a6, .int .i64 a7, .int .i64 a8, .bool false, .int .i64 0]) (blk_put (cs' := #[.int .i64 a0, .int .i64 a1, .int .i64 a2, .int .i64 a3, .int .i64 a4, .int .i64 a5, .int .i64 a6, .int .i64 a7, .int .i64 0, .bool false, .int .i64 0]) (blk_put (cs' := #[.int .i64 a0, .int .i64 a1, .int .i64 a2, .int .i64 a3, .int .i64 a4, .int .i64 a5, .int .i64 a6, .int .i64 0, .int .i64 0, .bool false, .int .i64 0]) (blk_put (cs' := #[.int .i64 a0, .int .i64 a1, .int .i64 a2, .int .i64 a3, .int .i64 a4, .int .i64 a5, .int .i64 0, .int .i64 0, .int .i64 0, .bool false, .int .i64 0]) (blk_put (cs' := #[.int .i64 a0, .int .i64 a1, .int .i64 a2, .int .i64 a3, .int .i64 a4, .int .i64 0, .int .i64 0, .int .i64 0, .int .i64 0, .bool false, .int .i64 0]) (blk_put (cs' := #[.int .i64 a0, .int .i64 a1, .int .i64 a2, .int .i64 a3, .int .i64 0, .int .i64 0, .int .i64 0, .int .i64 0, .int .i64 0, .bool false, .int .i64 0]) (blk_put (cs' := #[.int .i64 a0, .int .i64 a1, .int .i64 a2, .int .i64 0, .int .i64 0, .int .i64 0, .int .i64 0, .int .i64 0, .int .i64 0, .bool false, .int .i64 0]) (blk_put (cs' := #[.int .i64 a0, .int .i64 a1, .int .i64 0, .int .i64 0, .int .i64 0, .int .i64 0, .int .i64 0, .int .i64 0, .int .i64 0, .bool false, .int .i64 0]) (blk_put (cs' := #[.int .i64 a0, .int .i64 0, .int .i64 0, .int .i64 0, .int .i64 0, .int .i64 0, .int .i64 0, .int .i64 0, .int .i64 0, .bool false, .int .i64 0]) b 0 _ rfl) 1 _ rfl) 2 _ rfl) 3 _ rfl) 4 _ rfl) 5 _ rfl) 6 _ rfl) 7 _ rfl) 8 _ rfl) 9 _ rfl) 10 _ rfl), Kd.R_drew (Kd.R_mono (Kd.R_far (p := ⟨gz, 10, none⟩) (Kd.R_far (p := ⟨gz, 9, none⟩) (Kd.R_far (p := ⟨gz, 8, none⟩) (Kd.R_far (p := ⟨gz, 7, none⟩) (Kd.R_far (p := ⟨gz, 6, none⟩) (Kd.R_far (p := ⟨gz, 5, none⟩) (Kd.R_far (p := ⟨gz, 4, none⟩) (Kd.R_far (p := ⟨gz, 3, none⟩) (Kd.R_far (p := ⟨gz, 2, none⟩) (Kd.R_far (p := ⟨gz, 1, none⟩) (Kd.R_far (p := ⟨gz, 0, none⟩) (Kd.R_types hr b (by decide)) (fun _ hk => hk.2) _) (fun _ hk => hk.2) _) (fun _ hk => hk.2) _) (fun _ hk => hk.2) _) (fun _ hk => hk.2) _) (fun _ hk => hk.2) _) (fun _ hk => hk.2) _) (fun _ hk => hk.2) _) (fun _ hk => hk.2) _) (fun _ hk => hk.2) _) (fun _ hk => hk.2) _) (fun _ _ => trivial)), below_drew1 (below_set (below_set (below_set (below_set (below_set (below_set (below_set (below_set (below_set (below_set (below_set hb hg) hg) hg) hg) hg) hg) hg) hg) hg) hg) hg)⟩
set_option maxHeartbeats 8000000 in
set_option maxRecDepth 100000 in
theorem impl_StepTask.calls (k : Nat) (A0 : Option Addr) (c0 : Nat) (l0 : List Int) (a1_0 : Int) (a1_1 : Int) (a1_2 : Int) (a1_3 : Int) (a1_4 : Int) (a1_5 : Int) (a1_6 : Int) (a1_7 : Int) (a1_8 : Int) (a1_9 : Bool) (a1_10 : Int) (r1 : List Int) (r2 : Int) (r3 : Int) (r4 : Int) (r5 : Int) (r6 : Int) (r7 : Int) (r8 : Int) (r9 : Int) (r10 : Int) (r11 : Bool) (r12 : Int) (w : World) (hr0 : Kd.C (Kd.int .i64) w A0 l0.length l0) (hc0 : l0.length ≤ c0) (h : impl_StepTask.f k l0 a1_0 a1_1 a1_2 a1_3 a1_4 a1_5 a1_6 a1_7 a1_8 a1_9 a1_10 = some (r1, r2, r3, r4, r5, r6, r7, r8, r9, r10, r11, r12)) :
  Calls Try.prog 39 #[.slice A0 l0.length c0, .agg #[.int .i64 a1_0, .int .i64 a1_1, .int .i64 a1_2, .int .i64 a1_3, .int .i64 a1_4, .int .i64 a1_5, .int .i64 a1_6, .int .i64 a1_7, .int .i64 a1_8, .bool a1_9, .int .i64 a1_10]] w fun e w' => ∃ v0_ : Value, e = .returned (.tuple #[v0_, .agg #[.int .i64 r2, .int .i64 r3, .int .i64 r4, .int .i64 r5, .int .i64 r6, .int .i64 r7, .int .i64 r8, .int .i64 r9, .int .i64 r10, .bool r11, .int .i64 r12]]) ∧ Kd.R (Kd.int .i64) 3 w' w.heap.size (fun _ => True) v0_ r1 ∧ Below w.heap.size w w' := by
 have hu46 := Try.underlying46
 have HR0 := Aside0.mk hr0
 have HC0 := Aside0.mk hc0
 clear hr0 hc0
 have HB := Aside0.mk (Below.refl w.heap.size w)
 have H : ((impl_copyInts.f l0).bind fun t428 => (if a1_9 = true then (some (t428, a1_0, a1_1, a1_2, a1_3, a1_4, a1_5, a1_6, a1_7, a1_8, a1_9, a1_10)) else ((impl_TaskOk.f k a1_0 a1_1 a1_2 a1_3 a1_4 a1_5 a1_6 a1_7 a1_8 a1_9 a1_10).bind fun t431 => (if t431 = true then (if (l0.length : Int) = 63 then ((impl_CellsOk.f k l0).bind fun t432 => (if t432 = true then ((impl_Task_step.f k a1_0 a1_1 a1_2 a1_3 a1_4 a1_5 a1_6 a1_7 a1_8 a1_9 a1_10 t428).bind fun bt433 => (some (bt433.2.2.2.2.2.2.2.2.2.2.2, bt433.1, bt433.2.1, bt433.2.2.1, bt433.2.2.2.1, bt433.2.2.2.2.1, bt433.2.2.2.2.2.1, bt433.2.2.2.2.2.2.1, bt433.2.2.2.2.2.2.2.1, bt433.2.2.2.2.2.2.2.2.1, bt433.2.2.2.2.2.2.2.2.2.1, bt433.2.2.2.2.2.2.2.2.2.2.1))) else (some (t428, a1_0, a1_1, a1_2, a1_3, a1_4, a1_5, a1_6, a1_7, a1_8, a1_9, a1_10)))) else (some (t428, a1_0, a1_1, a1_2, a1_3, a1_4, a1_5, a1_6, a1_7, a1_8, a1_9, a1_10))) else (some (t428, a1_0, a1_1, a1_2, a1_3, a1_4, a1_5, a1_6, a1_7, a1_8, a1_9, a1_10)))))) = some (r1, r2, r3, r4, r5, r6, r7, r8, r9, r10, r11, r12) := h
 clear h
 obtain ⟨y, A1, H⟩ := Option.bind_eq_some_iff.1 H
 replace A1 := Aside0.mk A1
 cases a1_9 with
 | true =>
  rw [if_pos rfl] at H; have H' := Aside0.mk (Option.some.inj H); clear H
  go_enter Try.func39, Try.ntmps39
  go_wp2_with (first | ((with_reducible refine gate_dst (N := 3) rfl ?_); refine bE 3 #[.int .i64 a1_0, .int .i64 a1_1, .int .i64 a1_2, .int .i64 a1_3, .int .i64 a1_4, .int .i64 a1_5, .int .i64 a1_6, .int .i64 a1_7, .int .i64 a1_8, .bool true, .int .i64 a1_10] 46 ?_; intro gb hg w1 hbox hb; have BK1 := Aside0.mk hbox; have HB1 := Aside0.mk hb; have GB : Aside0 (w.heap.size ≤ gb) := ⟨Nat.le_of_eq hg.symm⟩; clear hbox hb hg) | ((with_reducible refine gate_dst (N := 5) rfl ?_); refine bE 5 #[.int .i64 0, .int .i64 0, .int .i64 0, .int .i64 0, .int .i64 0, .int .i64 0, .int .i64 0, .int .i64 0, .int .i64 0, .bool false, .int .i64 0] 46 ?_; intro gz hg w2 hbox hb; have BZ2 := Aside0.mk hbox; have NE := NL BK1.out hg; have BK2 := BB BK1.out hb; have HB2 := Aside0.mk (below_then HB1.out HB1.out.size hb); have GZ : Aside0 (w.heap.size ≤ gz) := ⟨by have := HB1.out.size; omega⟩; clear hbox hb hg) | (go_at_call 51; refine (impl_copyInts.calls A0 c0 l0 y w2 (Kd.C_below HR0.out HB2.out) HC0.out A1.out).mono ?_; rintro e w3 ⟨v0, rfl, hr, hb⟩; have HO3 := Aside0.mk (Kd.R_lower hr (show w.heap.size ≤ w2.heap.size from HB2.out.size)); have BK3 := BB BK2.out hb; have BZ3 := BB BZ2.out hb; have HB3 := Aside0.mk (below_then HB2.out HB2.out.size hb); have x0 : w3.cell? ⟨gb, 0, none⟩ = some (.int .i64 a1_0) := CZ BK3.out 0; have x1 : w3.cell? ⟨gb, 1, none⟩ = some (.int .i64 a1_1) := CZ BK3.out 1; have x2 : w3.cell? ⟨gb, 2, none⟩ = some (.int .i64 a1_2) := CZ BK3.out 2; have x3 : w3.cell? ⟨gb, 3, none⟩ = some (.int .i64 a1_3) := CZ BK3.out 3; have x4 : w3.cell? ⟨gb, 4, none⟩ = some (.int .i64 a1_4) := CZ BK3.out 4; have x5 : w3.cell? ⟨gb, 5, none⟩ = some (.int .i64 a1_5) := CZ BK3.out 5; have x6 : w3.cell? ⟨gb, 6, none⟩ = some (.int .i64 a1_6) := CZ BK3.out 6; have x7 : w3.cell? ⟨gb, 7, none⟩ = some (.int .i64 a1_7) := CZ BK3.out 7; have x8 : w3.cell? ⟨gb, 8, none⟩ = some (.int .i64 a1_8) := CZ BK3.out 8; have x9 : w3.cell? ⟨gb, 9, none⟩ = some (.bool true) := CZ BK3.out 9; have x10 : w3.cell? ⟨gb, 10, none⟩ = some (.int .i64 a1_10) := CZ BK3.out 10; clear hr hb))
  have z0 : w3.cell? ⟨gz, 0, none⟩ = some (.int .i64 0) := CZ BZ3.out 0; have z1 : w3.cell? ⟨gz, 1, none⟩ = some (.int .i64 0) := CZ BZ3.out 1; have z2 : w3.cell? ⟨gz, 2, none⟩ = some (.int .i64 0) := CZ BZ3.out 2; have z3 : w3.cell? ⟨gz, 3, none⟩ = some (.int .i64 0) := CZ BZ3.out 3; have z4 : w3.cell? ⟨gz, 4, none⟩ = some (.int .i64 0) := CZ BZ3.out 4; have z5 : w3.cell? ⟨gz, 5, none⟩ = some (.int .i64 0) := CZ BZ3.out 5; have z6 : w3.cell? ⟨gz, 6, none⟩ = some (.int .i64 0) := CZ BZ3.out 6; have z7 : w3.cell? ⟨gz, 7, none⟩ = some (.int .i64 0) := CZ BZ3.out 7; have z8 : w3.cell? ⟨gz, 8, none⟩ = some (.int .i64 0) := CZ BZ3.out 8; have z9 : w3.cell? ⟨gz, 9, none⟩ = some (.bool false) := CZ BZ3.out 9; have z10 : w3.cell? ⟨gz, 10, none⟩ = some (.int .i64 0) := CZ BZ3.out 10
  have hne2 : gz ≠ gb := fun e => NE.out e.symm
  have fz0 := blk_frozen BZ3.out 0; have fz1 := blk_frozen BZ3.out 1; have fz2 := blk_frozen BZ3.out 2; have fz3 := blk_frozen BZ3.out 3; have fz4 := blk_frozen BZ3.out 4; have fz5 := blk_frozen BZ3.out 5; have fz6 := blk_frozen BZ3.out 6; have fz7 := blk_frozen BZ3.out 7; have fz8 := blk_frozen BZ3.out 8; have fz9 := blk_frozen BZ3.out 9; have fz10 := blk_frozen BZ3.out 10; have FI := Aside0.mk (impl_StepTask.fin (a1_0) (a1_1) (a1_2) (a1_3) (a1_4) (a1_5) (a1_6) (a1_7) (a1_8) (true) (a1_10) BZ3.out HB3.out GZ.out HO3.out)
  go_region
  go_wp2
  refine bodyPost_ret (results_tc rfl _ _ gz 46 #[.int .i64 a1_0, .int .i64 a1_1, .int .i64 a1_2, .int .i64 a1_3, .int .i64 a1_4, .int .i64 a1_5, .int .i64 a1_6, .int .i64 a1_7, .int .i64 a1_8, .bool true, .int .i64 a1_10] (0, 0) _ rfl FI.out.1 Try.underlying46 rfl (by kernel_rfl)) rfl ?_; obtain ⟨_, f2, f3⟩ := FI.out; have H2 := H'.out; cases H2; exact ⟨_, rfl, f2, f3⟩
 | false =>
  rw [if_neg (by decide)] at H; obtain ⟨b, A2, H⟩ := Option.bind_eq_some_iff.1 H; replace A2 := Aside0.mk A2; cases b with
  | false =>
   rw [if_neg (by decide)] at H; have H' := Aside0.mk (Option.some.inj H); clear H
   go_enter Try.func39, Try.ntmps39
   go_wp2_with (first | ((with_reducible refine gate_dst (N := 3) rfl ?_); refine bE 3 #[.int .i64 a1_0, .int .i64 a1_1, .int .i64 a1_2, .int .i64 a1_3, .int .i64 a1_4, .int .i64 a1_5, .int .i64 a1_6, .int .i64 a1_7, .int .i64 a1_8, .bool false, .int .i64 a1_10] 46 ?_; intro gb hg w1 hbox hb; have BK1 := Aside0.mk hbox; have HB1 := Aside0.mk hb; have GB : Aside0 (w.heap.size ≤ gb) := ⟨Nat.le_of_eq hg.symm⟩; clear hbox hb hg) | ((with_reducible refine gate_dst (N := 5) rfl ?_); refine bE 5 #[.int .i64 0, .int .i64 0, .int .i64 0, .int .i64 0, .int .i64 0, .int .i64 0, .int .i64 0, .int .i64 0, .int .i64 0, .bool false, .int .i64 0] 46 ?_; intro gz hg w2 hbox hb; have BZ2 := Aside0.mk hbox; have NE := NL BK1.out hg; have BK2 := BB BK1.out hb; have HB2 := Aside0.mk (below_then HB1.out HB1.out.size hb); have GZ : Aside0 (w.heap.size ≤ gz) := ⟨by have := HB1.out.size; omega⟩; clear hbox hb hg) | (go_at_call 51; refine (impl_copyInts.calls A0 c0 l0 y w2 (Kd.C_below HR0.out HB2.out) HC0.out A1.out).mono ?_; rintro e w3 ⟨v0, rfl, hr, hb⟩; have HO3 := Aside0.mk (Kd.R_lower hr (show w.heap.size ≤ w2.heap.size from HB2.out.size)); have BK3 := BB BK2.out hb; have BZ3 := BB BZ2.out hb; have HB3 := Aside0.mk (below_then HB2.out HB2.out.size hb); have x0 : w3.cell? ⟨gb, 0, none⟩ = some (.int .i64 a1_0) := CZ BK3.out 0; have x1 : w3.cell? ⟨gb, 1, none⟩ = some (.int .i64 a1_1) := CZ BK3.out 1; have x2 : w3.cell? ⟨gb, 2, none⟩ = some (.int .i64 a1_2) := CZ BK3.out 2; have x3 : w3.cell? ⟨gb, 3, none⟩ = some (.int .i64 a1_3) := CZ BK3.out 3; have x4 : w3.cell? ⟨gb, 4, none⟩ = some (.int .i64 a1_4) := CZ BK3.out 4; have x5 : w3.cell? ⟨gb, 5, none⟩ = some (.int .i64 a1_5) := CZ BK3.out 5; have x6 : w3.cell? ⟨gb, 6, none⟩ = some (.int .i64 a1_6) := CZ BK3.out 6; have x7 : w3.cell? ⟨gb, 7, none⟩ = some (.int .i64 a1_7) := CZ BK3.out 7; have x8 : w3.cell? ⟨gb, 8, none⟩ = some (.int .i64 a1_8) := CZ BK3.out 8; have x9 : w3.cell? ⟨gb, 9, none⟩ = some (.bool false) := CZ BK3.out 9; have x10 : w3.cell? ⟨gb, 10, none⟩ = some (.int .i64 a1_10) := CZ BK3.out 10; clear hr hb) | (go_at_call 44; refine (impl_TaskOk.calls k a1_0 a1_1 a1_2 a1_3 a1_4 a1_5 a1_6 a1_7 a1_8 false a1_10 false w3 A2.out).mono ?_; rintro e w4 ⟨rfl, hb⟩; have HO4 := Aside0.mk (Kd.R_below HO3.out hb); have BK4 := BB BK3.out hb; have BZ4 := BB BZ3.out hb; have HB4 := Aside0.mk (below_then HB3.out HB3.out.size hb); have d0 : w4.cell? ⟨gb, 0, none⟩ = some (.int .i64 a1_0) := CZ BK4.out 0; have d1 : w4.cell? ⟨gb, 1, none⟩ = some (.int .i64 a1_1) := CZ BK4.out 1; have d2 : w4.cell? ⟨gb, 2, none⟩ = some (.int .i64 a1_2) := CZ BK4.out 2; have d3 : w4.cell? ⟨gb, 3, none⟩ = some (.int .i64 a1_3) := CZ BK4.out 3; have d4 : w4.cell? ⟨gb, 4, none⟩ = some (.int .i64 a1_4) := CZ BK4.out 4; have d5 : w4.cell? ⟨gb, 5, none⟩ = some (.int .i64 a1_5) := CZ BK4.out 5; have d6 : w4.cell? ⟨gb, 6, none⟩ = some (.int .i64 a1_6) := CZ BK4.out 6; have d7 : w4.cell? ⟨gb, 7, none⟩ = some (.int .i64 a1_7) := CZ BK4.out 7; have d8 : w4.cell? ⟨gb, 8, none⟩ = some (.int .i64 a1_8) := CZ BK4.out 8; have d9 : w4.cell? ⟨gb, 9, none⟩ = some (.bool false) := CZ BK4.out 9; have d10 : w4.cell? ⟨gb, 10, none⟩ = some (.int .i64 a1_10) := CZ BK4.out 10; clear hb))
   have z0 : w4.cell? ⟨gz, 0, none⟩ = some (.int .i64 0) := CZ BZ4.out 0; have z1 : w4.cell? ⟨gz, 1, none⟩ = some (.int .i64 0) := CZ BZ4.out 1; have z2 : w4.cell? ⟨gz, 2, none⟩ = some (.int .i64 0) := CZ BZ4.out 2; have z3 : w4.cell? ⟨gz, 3, none⟩ = some (.int .i64 0) := CZ BZ4.out 3; have z4 : w4.cell? ⟨gz, 4, none⟩ = some (.int .i64 0) := CZ BZ4.out 4; have z5 : w4.cell? ⟨gz, 5, none⟩ = some (.int .i64 0) := CZ BZ4.out 5; have z6 : w4.cell? ⟨gz, 6, none⟩ = some (.int .i64 0) := CZ BZ4.out 6; have z7 : w4.cell? ⟨gz, 7, none⟩ = some (.int .i64 0) := CZ BZ4.out 7; have z8 : w4.cell? ⟨gz, 8, none⟩ = some (.int .i64 0) := CZ BZ4.out 8; have z9 : w4.cell? ⟨gz, 9, none⟩ = some (.bool false) := CZ BZ4.out 9; have z10 : w4.cell? ⟨gz, 10, none⟩ = some (.int .i64 0) := CZ BZ4.out 10
   have hne2 : gz ≠ gb := fun e => NE.out e.symm
   have fz0 := blk_frozen BZ4.out 0; have fz1 := blk_frozen BZ4.out 1; have fz2 := blk_frozen BZ4.out 2; have fz3 := blk_frozen BZ4.out 3; have fz4 := blk_frozen BZ4.out 4; have fz5 := blk_frozen BZ4.out 5; have fz6 := blk_frozen BZ4.out 6; have fz7 := blk_frozen BZ4.out 7; have fz8 := blk_frozen BZ4.out 8; have fz9 := blk_frozen BZ4.out 9; have fz10 := blk_frozen BZ4.out 10; have FI := Aside0.mk (impl_StepTask.fin (a1_0) (a1_1) (a1_2) (a1_3) (a1_4) (a1_5) (a1_6) (a1_7) (a1_8) (false) (a1_10) BZ4.out HB4.out GZ.out HO4.out)
   go_region
   go_wp2
   refine bodyPost_ret (results_tc rfl _ _ gz 46 #[.int .i64 a1_0, .int .i64 a1_1, .int .i64 a1_2, .int .i64 a1_3, .int .i64 a1_4, .int .i64 a1_5, .int .i64 a1_6, .int .i64 a1_7, .int .i64 a1_8, .bool false, .int .i64 a1_10] (0, 0) _ rfl FI.out.1 Try.underlying46 rfl (by kernel_rfl)) rfl ?_; obtain ⟨_, f2, f3⟩ := FI.out; have H2 := H'.out; cases H2; exact ⟨_, rfl, f2, f3⟩
  | true =>
   rw [if_pos rfl] at H
   by_cases hn : (l0.length : Int) = 63
   rotate_left
   ·
    rw [if_neg hn] at H; have hn0 : ((l0.length : Int) == 63) = false := beq_eq_false_iff_ne.mpr hn; have hn1 : ((l0.length : Int) != 63) = true := bne_iff_ne.mpr hn; have H' := Aside0.mk (Option.some.inj H); clear H
    go_enter Try.func39, Try.ntmps39
    go_wp2_with (first | ((with_reducible refine gate_dst (N := 3) rfl ?_); refine bE 3 #[.int .i64 a1_0, .int .i64 a1_1, .int .i64 a1_2, .int .i64 a1_3, .int .i64 a1_4, .int .i64 a1_5, .int .i64 a1_6, .int .i64 a1_7, .int .i64 a1_8, .bool false, .int .i64 a1_10] 46 ?_; intro gb hg w1 hbox hb; have BK1 := Aside0.mk hbox; have HB1 := Aside0.mk hb; have GB : Aside0 (w.heap.size ≤ gb) := ⟨Nat.le_of_eq hg.symm⟩; clear hbox hb hg) | ((with_reducible refine gate_dst (N := 5) rfl ?_); refine bE 5 #[.int .i64 0, .int .i64 0, .int .i64 0, .int .i64 0, .int .i64 0, .int .i64 0, .int .i64 0, .int .i64 0, .int .i64 0, .bool false, .int .i64 0] 46 ?_; intro gz hg w2 hbox hb; have BZ2 := Aside0.mk hbox; have NE := NL BK1.out hg; have BK2 := BB BK1.out hb; have HB2 := Aside0.mk (below_then HB1.out HB1.out.size hb); have GZ : Aside0 (w.heap.size ≤ gz) := ⟨by have := HB1.out.size; omega⟩; clear hbox hb hg) | (go_at_call 51; refine (impl_copyInts.calls A0 c0 l0 y w2 (Kd.C_below HR0.out HB2.out) HC0.out A1.out).mono ?_; rintro e w3 ⟨v0, rfl, hr, hb⟩; have HO3 := Aside0.mk (Kd.R_lower hr (show w.heap.size ≤ w2.heap.size from HB2.out.size)); have BK3 := BB BK2.out hb; have BZ3 := BB BZ2.out hb; have HB3 := Aside0.mk (below_then HB2.out HB2.out.size hb); have x0 : w3.cell? ⟨gb, 0, none⟩ = some (.int .i64 a1_0) := CZ BK3.out 0; have x1 : w3.cell? ⟨gb, 1, none⟩ = some (.int .i64 a1_1) := CZ BK3.out 1; have x2 : w3.cell? ⟨gb, 2, none⟩ = some (.int .i64 a1_2) := CZ BK3.out 2; have x3 : w3.cell? ⟨gb, 3, none⟩ = some (.int .i64 a1_3) := CZ BK3.out 3; have x4 : w3.cell? ⟨gb, 4, none⟩ = some (.int .i64 a1_4) := CZ BK3.out 4; have x5 : w3.cell? ⟨gb, 5, none⟩ = some (.int .i64 a1_5) := CZ BK3.out 5; have x6 : w3.cell? ⟨gb, 6, none⟩ = some (.int .i64 a1_6) := CZ BK3.out 6; have x7 : w3.cell? ⟨gb, 7, none⟩ = some (.int .i64 a1_7) := CZ BK3.out 7; have x8 : w3.cell? ⟨gb, 8, none⟩ = some (.int .i64 a1_8) := CZ BK3.out 8; have x9 : w3.cell? ⟨gb, 9, none⟩ = some (.bool false) := CZ BK3.out 9; have x10 : w3.cell? ⟨gb, 10, none⟩ = some (.int .i64 a1_10) := CZ BK3.out 10; clear hr hb) | (go_at_call 44; refine (impl_TaskOk.calls k a1_0 a1_1 a1_2 a1_3 a1_4 a1_5 a1_6 a1_7 a1_8 false a1_10 true w3 A2.out).mono ?_; rintro e w4 ⟨rfl, hb⟩; have HO4 := Aside0.mk (Kd.R_below HO3.out hb); have BK4 := BB BK3.out hb; have BZ4 := BB BZ3.out hb; have HB4 := Aside0.mk (below_then HB3.out HB3.out.size hb); have d0 : w4.cell? ⟨gb, 0, none⟩ = some (.int .i64 a1_0) := CZ BK4.out 0; have d1 : w4.cell? ⟨gb, 1, none⟩ = some (.int .i64 a1_1) := CZ BK4.out 1; have d2 : w4.cell? ⟨gb, 2, none⟩ = some (.int .i64 a1_2) := CZ BK4.out 2; have d3 : w4.cell? ⟨gb, 3, none⟩ = some (.int .i64 a1_3) := CZ BK4.out 3; have d4 : w4.cell? ⟨gb, 4, none⟩ = some (.int .i64 a1_4) := CZ BK4.out 4; have d5 : w4.cell? ⟨gb, 5, none⟩ = some (.int .i64 a1_5) := CZ BK4.out 5; have d6 : w4.cell? ⟨gb, 6, none⟩ = some (.int .i64 a1_6) := CZ BK4.out 6; have d7 : w4.cell? ⟨gb, 7, none⟩ = some (.int .i64 a1_7) := CZ BK4.out 7; have d8 : w4.cell? ⟨gb, 8, none⟩ = some (.int .i64 a1_8) := CZ BK4.out 8; have d9 : w4.cell? ⟨gb, 9, none⟩ = some (.bool false) := CZ BK4.out 9; have d10 : w4.cell? ⟨gb, 10, none⟩ = some (.int .i64 a1_10) := CZ BK4.out 10; clear hb))
    have z0 : w4.cell? ⟨gz, 0, none⟩ = some (.int .i64 0) := CZ BZ4.out 0; have z1 : w4.cell? ⟨gz, 1, none⟩ = some (.int .i64 0) := CZ BZ4.out 1; have z2 : w4.cell? ⟨gz, 2, none⟩ = some (.int .i64 0) := CZ BZ4.out 2; have z3 : w4.cell? ⟨gz, 3, none⟩ = some (.int .i64 0) := CZ BZ4.out 3; have z4 : w4.cell? ⟨gz, 4, none⟩ = some (.int .i64 0) := CZ BZ4.out 4; have z5 : w4.cell? ⟨gz, 5, none⟩ = some (.int .i64 0) := CZ BZ4.out 5; have z6 : w4.cell? ⟨gz, 6, none⟩ = some (.int .i64 0) := CZ BZ4.out 6; have z7 : w4.cell? ⟨gz, 7, none⟩ = some (.int .i64 0) := CZ BZ4.out 7; have z8 : w4.cell? ⟨gz, 8, none⟩ = some (.int .i64 0) := CZ BZ4.out 8; have z9 : w4.cell? ⟨gz, 9, none⟩ = some (.bool false) := CZ BZ4.out 9; have z10 : w4.cell? ⟨gz, 10, none⟩ = some (.int .i64 0) := CZ BZ4.out 10
    have hne2 : gz ≠ gb := fun e => NE.out e.symm
    have fz0 := blk_frozen BZ4.out 0; have fz1 := blk_frozen BZ4.out 1; have fz2 := blk_frozen BZ4.out 2; have fz3 := blk_frozen BZ4.out 3; have fz4 := blk_frozen BZ4.out 4; have fz5 := blk_frozen BZ4.out 5; have fz6 := blk_frozen BZ4.out 6; have fz7 := blk_frozen BZ4.out 7; have fz8 := blk_frozen BZ4.out 8; have fz9 := blk_frozen BZ4.out 9; have fz10 := blk_frozen BZ4.out 10; have FI := Aside0.mk (impl_StepTask.fin (a1_0) (a1_1) (a1_2) (a1_3) (a1_4) (a1_5) (a1_6) (a1_7) (a1_8) (false) (a1_10) BZ4.out HB4.out GZ.out HO4.out)
    go_region
    go_wp2
    refine bodyPost_ret (results_tc rfl _ _ gz 46 #[.int .i64 a1_0, .int .i64 a1_1, .int .i64 a1_2, .int .i64 a1_3, .int .i64 a1_4, .int .i64 a1_5, .int .i64 a1_6, .int .i64 a1_7, .int .i64 a1_8, .bool false, .int .i64 a1_10] (0, 0) _ rfl FI.out.1 Try.underlying46 rfl (by kernel_rfl)) rfl ?_; obtain ⟨_, f2, f3⟩ := FI.out; have H2 := H'.out; cases H2; exact ⟨_, rfl, f2, f3⟩
   rw [if_pos hn] at H; have hn0 : ((l0.length : Int) == 63) = true := beq_iff_eq.mpr hn; have hn1 : ((l0.length : Int) != 63) = false := bne_eq_false_iff_eq.mpr hn; obtain ⟨b, A3, H⟩ := Option.bind_eq_some_iff.1 H; replace A3 := Aside0.mk A3; cases b with
   | false =>
    rw [if_neg (by decide)] at H; have H' := Aside0.mk (Option.some.inj H); clear H
    go_enter Try.func39, Try.ntmps39
    go_wp2_with (first | ((with_reducible refine gate_dst (N := 3) rfl ?_); refine bE 3 #[.int .i64 a1_0, .int .i64 a1_1, .int .i64 a1_2, .int .i64 a1_3, .int .i64 a1_4, .int .i64 a1_5, .int .i64 a1_6, .int .i64 a1_7, .int .i64 a1_8, .bool false, .int .i64 a1_10] 46 ?_; intro gb hg w1 hbox hb; have BK1 := Aside0.mk hbox; have HB1 := Aside0.mk hb; have GB : Aside0 (w.heap.size ≤ gb) := ⟨Nat.le_of_eq hg.symm⟩; clear hbox hb hg) | ((with_reducible refine gate_dst (N := 5) rfl ?_); refine bE 5 #[.int .i64 0, .int .i64 0, .int .i64 0, .int .i64 0, .int .i64 0, .int .i64 0, .int .i64 0, .int .i64 0, .int .i64 0, .bool false, .int .i64 0] 46 ?_; intro gz hg w2 hbox hb; have BZ2 := Aside0.mk hbox; have NE := NL BK1.out hg; have BK2 := BB BK1.out hb; have HB2 := Aside0.mk (below_then HB1.out HB1.out.size hb); have GZ : Aside0 (w.heap.size ≤ gz) := ⟨by have := HB1.out.size; omega⟩; clear hbox hb hg) | (go_at_call 51; refine (impl_copyInts.calls A0 c0 l0 y w2 (Kd.C_below HR0.out HB2.out) HC0.out A1.out).mono ?_; rintro e w3 ⟨v0, rfl, hr, hb⟩; have HO3 := Aside0.mk (Kd.R_lower hr (show w.heap.size ≤ w2.heap.size from HB2.out.size)); have BK3 := BB BK2.out hb; have BZ3 := BB BZ2.out hb; have HB3 := Aside0.mk (below_then HB2.out HB2.out.size hb); have x0 : w3.cell? ⟨gb, 0, none⟩ = some (.int .i64 a1_0) := CZ BK3.out 0; have x1 : w3.cell? ⟨gb, 1, none⟩ = some (.int .i64 a1_1) := CZ BK3.out 1; have x2 : w3.cell? ⟨gb, 2, none⟩ = some (.int .i64 a1_2) := CZ BK3.out 2; have x3 : w3.cell? ⟨gb, 3, none⟩ = some (.int .i64 a1_3) := CZ BK3.out 3; have x4 : w3.cell? ⟨gb, 4, none⟩ = some (.int .i64 a1_4) := CZ BK3.out 4; have x5 : w3.cell? ⟨gb, 5, none⟩ = some (.int .i64 a1_5) := CZ BK3.out 5; have x6 : w3.cell? ⟨gb, 6, none⟩ = some (.int .i64 a1_6) := CZ BK3.out 6; have x7 : w3.cell? ⟨gb, 7, none⟩ = some (.int .i64 a1_7) := CZ BK3.out 7; have x8 : w3.cell? ⟨gb, 8, none⟩ = some (.int .i64 a1_8) := CZ BK3.out 8; have x9 : w3.cell? ⟨gb, 9, none⟩ = some (.bool false) := CZ BK3.out 9; have x10 : w3.cell? ⟨gb, 10, none⟩ = some (.int .i64 a1_10) := CZ BK3.out 10; clear hr hb) | (go_at_call 44; refine (impl_TaskOk.calls k a1_0 a1_1 a1_2 a1_3 a1_4 a1_5 a1_6 a1_7 a1_8 false a1_10 true w3 A2.out).mono ?_; rintro e w4 ⟨rfl, hb⟩; have HO4 := Aside0.mk (Kd.R_below HO3.out hb); have BK4 := BB BK3.out hb; have BZ4 := BB BZ3.out hb; have HB4 := Aside0.mk (below_then HB3.out HB3.out.size hb); have d0 : w4.cell? ⟨gb, 0, none⟩ = some (.int .i64 a1_0) := CZ BK4.out 0; have d1 : w4.cell? ⟨gb, 1, none⟩ = some (.int .i64 a1_1) := CZ BK4.out 1; have d2 : w4.cell? ⟨gb, 2, none⟩ = some (.int .i64 a1_2) := CZ BK4.out 2; have d3 : w4.cell? ⟨gb, 3, none⟩ = some (.int .i64 a1_3) := CZ BK4.out 3; have d4 : w4.cell? ⟨gb, 4, none⟩ = some (.int .i64 a1_4) := CZ BK4.out 4; have d5 : w4.cell? ⟨gb, 5, none⟩ = some (.int .i64 a1_5) := CZ BK4.out 5; have d6 : w4.cell? ⟨gb, 6, none⟩ = some (.int .i64 a1_6) := CZ BK4.out 6; have d7 : w4.cell? ⟨gb, 7, none⟩ = some (.int .i64 a1_7) := CZ BK4.out 7; have d8 : w4.cell? ⟨gb, 8, none⟩ = some (.int .i64 a1_8) := CZ BK4.out 8; have d9 : w4.cell? ⟨gb, 9, none⟩ = some (.bool false) := CZ BK4.out 9; have d10 : w4.cell? ⟨gb, 10, none⟩ = some (.int .i64 a1_10) := CZ BK4.out 10; clear hb) | (go_at_call 27; refine (impl_CellsOk.calls k A0 c0 l0 false w4 (Kd.C_below HR0.out HB4.out) HC0.out A3.out).mono ?_; rintro e w5 ⟨rfl, ⟨nd, hb0⟩⟩; have hb : Below w4.heap.size w4 w5 := (by rw [hb0]; exact pw_below_drewN (Below.refl _ _) _); clear hb0; have HO5 := Aside0.mk (Kd.R_below HO4.out hb); have BK5 := BB BK4.out hb; have BZ5 := BB BZ4.out hb; have HB5 := Aside0.mk (below_then HB4.out HB4.out.size hb); have e0 : w5.cell? ⟨gb, 0, none⟩ = some (.int .i64 a1_0) := CZ BK5.out 0; have e1 : w5.cell? ⟨gb, 1, none⟩ = some (.int .i64 a1_1) := CZ BK5.out 1; have e2 : w5.cell? ⟨gb, 2, none⟩ = some (.int .i64 a1_2) := CZ BK5.out 2; have e3 : w5.cell? ⟨gb, 3, none⟩ = some (.int .i64 a1_3) := CZ BK5.out 3; have e4 : w5.cell? ⟨gb, 4, none⟩ = some (.int .i64 a1_4) := CZ BK5.out 4; have e5 : w5.cell? ⟨gb, 5, none⟩ = some (.int .i64 a1_5) := CZ BK5.out 5; have e6 : w5.cell? ⟨gb, 6, none⟩ = some (.int .i64 a1_6) := CZ BK5.out 6; have e7 : w5.cell? ⟨gb, 7, none⟩ = some (.int .i64 a1_7) := CZ BK5.out 7; have e8 : w5.cell? ⟨gb, 8, none⟩ = some (.int .i64 a1_8) := CZ BK5.out 8; have e9 : w5.cell? ⟨gb, 9, none⟩ = some (.bool false) := CZ BK5.out 9; have e10 : w5.cell? ⟨gb, 10, none⟩ = some (.int .i64 a1_10) := CZ BK5.out 10; clear hb))
    have z0 : w5.cell? ⟨gz, 0, none⟩ = some (.int .i64 0) := CZ BZ5.out 0; have z1 : w5.cell? ⟨gz, 1, none⟩ = some (.int .i64 0) := CZ BZ5.out 1; have z2 : w5.cell? ⟨gz, 2, none⟩ = some (.int .i64 0) := CZ BZ5.out 2; have z3 : w5.cell? ⟨gz, 3, none⟩ = some (.int .i64 0) := CZ BZ5.out 3; have z4 : w5.cell? ⟨gz, 4, none⟩ = some (.int .i64 0) := CZ BZ5.out 4; have z5 : w5.cell? ⟨gz, 5, none⟩ = some (.int .i64 0) := CZ BZ5.out 5; have z6 : w5.cell? ⟨gz, 6, none⟩ = some (.int .i64 0) := CZ BZ5.out 6; have z7 : w5.cell? ⟨gz, 7, none⟩ = some (.int .i64 0) := CZ BZ5.out 7; have z8 : w5.cell? ⟨gz, 8, none⟩ = some (.int .i64 0) := CZ BZ5.out 8; have z9 : w5.cell? ⟨gz, 9, none⟩ = some (.bool false) := CZ BZ5.out 9; have z10 : w5.cell? ⟨gz, 10, none⟩ = some (.int .i64 0) := CZ BZ5.out 10
    have hne2 : gz ≠ gb := fun e => NE.out e.symm
    have fz0 := blk_frozen BZ5.out 0; have fz1 := blk_frozen BZ5.out 1; have fz2 := blk_frozen BZ5.out 2; have fz3 := blk_frozen BZ5.out 3; have fz4 := blk_frozen BZ5.out 4; have fz5 := blk_frozen BZ5.out 5; have fz6 := blk_frozen BZ5.out 6; have fz7 := blk_frozen BZ5.out 7; have fz8 := blk_frozen BZ5.out 8; have fz9 := blk_frozen BZ5.out 9; have fz10 := blk_frozen BZ5.out 10; have FI := Aside0.mk (impl_StepTask.fin (a1_0) (a1_1) (a1_2) (a1_3) (a1_4) (a1_5) (a1_6) (a1_7) (a1_8) (false) (a1_10) BZ5.out HB5.out GZ.out HO5.out)
    go_region
    go_wp2
    refine bodyPost_ret (results_tc rfl _ _ gz 46 #[.int .i64 a1_0, .int .i64 a1_1, .int .i64 a1_2, .int .i64 a1_3, .int .i64 a1_4, .int .i64 a1_5, .int .i64 a1_6, .int .i64 a1_7, .int .i64 a1_8, .bool false, .int .i64 a1_10] (0, 0) _ rfl FI.out.1 Try.underlying46 rfl (by kernel_rfl)) rfl ?_; obtain ⟨_, f2, f3⟩ := FI.out; have H2 := H'.out; cases H2; exact ⟨_, rfl, f2, f3⟩
   | true =>
    rw [if_pos rfl] at H; obtain ⟨bt, A4, H⟩ := Option.bind_eq_some_iff.1 H; replace A4 := Aside0.mk A4; have H' := Aside0.mk (Option.some.inj H); clear H
    go_enter Try.func39, Try.ntmps39
    go_wp2_with (first | ((with_reducible refine gate_dst (N := 3) rfl ?_); refine bE 3 #[.int .i64 a1_0, .int .i64 a1_1, .int .i64 a1_2, .int .i64 a1_3, .int .i64 a1_4, .int .i64 a1_5, .int .i64 a1_6, .int .i64 a1_7, .int .i64 a1_8, .bool false, .int .i64 a1_10] 46 ?_; intro gb hg w1 hbox hb; have BK1 := Aside0.mk hbox; have HB1 := Aside0.mk hb; have GB : Aside0 (w.heap.size ≤ gb) := ⟨Nat.le_of_eq hg.symm⟩; clear hbox hb hg) | ((with_reducible refine gate_dst (N := 5) rfl ?_); refine bE 5 #[.int .i64 0, .int .i64 0, .int .i64 0, .int .i64 0, .int .i64 0, .int .i64 0, .int .i64 0, .int .i64 0, .int .i64 0, .bool false, .int .i64 0] 46 ?_; intro gz hg w2 hbox hb; have BZ2 := Aside0.mk hbox; have NE := NL BK1.out hg; have BK2 := BB BK1.out hb; have HB2 := Aside0.mk (below_then HB1.out HB1.out.size hb); have GZ : Aside0 (w.heap.size ≤ gz) := ⟨by have := HB1.out.size; omega⟩; clear hbox hb hg) | (go_at_call 51; refine (impl_copyInts.calls A0 c0 l0 y w2 (Kd.C_below HR0.out HB2.out) HC0.out A1.out).mono ?_; rintro e w3 ⟨v0, rfl, hr, hb⟩; have HO3 := Aside0.mk (Kd.R_lower hr (show w.heap.size ≤ w2.heap.size from HB2.out.size)); have BK3 := BB BK2.out hb; have BZ3 := BB BZ2.out hb; have HB3 := Aside0.mk (below_then HB2.out HB2.out.size hb); have x0 : w3.cell? ⟨gb, 0, none⟩ = some (.int .i64 a1_0) := CZ BK3.out 0; have x1 : w3.cell? ⟨gb, 1, none⟩ = some (.int .i64 a1_1) := CZ BK3.out 1; have x2 : w3.cell? ⟨gb, 2, none⟩ = some (.int .i64 a1_2) := CZ BK3.out 2; have x3 : w3.cell? ⟨gb, 3, none⟩ = some (.int .i64 a1_3) := CZ BK3.out 3; have x4 : w3.cell? ⟨gb, 4, none⟩ = some (.int .i64 a1_4) := CZ BK3.out 4; have x5 : w3.cell? ⟨gb, 5, none⟩ = some (.int .i64 a1_5) := CZ BK3.out 5; have x6 : w3.cell? ⟨gb, 6, none⟩ = some (.int .i64 a1_6) := CZ BK3.out 6; have x7 : w3.cell? ⟨gb, 7, none⟩ = some (.int .i64 a1_7) := CZ BK3.out 7; have x8 : w3.cell? ⟨gb, 8, none⟩ = some (.int .i64 a1_8) := CZ BK3.out 8; have x9 : w3.cell? ⟨gb, 9, none⟩ = some (.bool false) := CZ BK3.out 9; have x10 : w3.cell? ⟨gb, 10, none⟩ = some (.int .i64 a1_10) := CZ BK3.out 10; clear hr hb) | (go_at_call 44; refine (impl_TaskOk.calls k a1_0 a1_1 a1_2 a1_3 a1_4 a1_5 a1_6 a1_7 a1_8 false a1_10 true w3 A2.out).mono ?_; rintro e w4 ⟨rfl, hb⟩; have HO4 := Aside0.mk (Kd.R_below HO3.out hb); have BK4 := BB BK3.out hb; have BZ4 := BB BZ3.out hb; have HB4 := Aside0.mk (below_then HB3.out HB3.out.size hb); have d0 : w4.cell? ⟨gb, 0, none⟩ = some (.int .i64 a1_0) := CZ BK4.out 0; have d1 : w4.cell? ⟨gb, 1, none⟩ = some (.int .i64 a1_1) := CZ BK4.out 1; have d2 : w4.cell? ⟨gb, 2, none⟩ = some (.int .i64 a1_2) := CZ BK4.out 2; have d3 : w4.cell? ⟨gb, 3, none⟩ = some (.int .i64 a1_3) := CZ BK4.out 3; have d4 : w4.cell? ⟨gb, 4, none⟩ = some (.int .i64 a1_4) := CZ BK4.out 4; have d5 : w4.cell? ⟨gb, 5, none⟩ = some (.int .i64 a1_5) := CZ BK4.out 5; have d6 : w4.cell? ⟨gb, 6, none⟩ = some (.int .i64 a1_6) := CZ BK4.out 6; have d7 : w4.cell? ⟨gb, 7, none⟩ = some (.int .i64 a1_7) := CZ BK4.out 7; have d8 : w4.cell? ⟨gb, 8, none⟩ = some (.int .i64 a1_8) := CZ BK4.out 8; have d9 : w4.cell? ⟨gb, 9, none⟩ = some (.bool false) := CZ BK4.out 9; have d10 : w4.cell? ⟨gb, 10, none⟩ = some (.int .i64 a1_10) := CZ BK4.out 10; clear hb) | (go_at_call 27; refine (impl_CellsOk.calls k A0 c0 l0 true w4 (Kd.C_below HR0.out HB4.out) HC0.out A3.out).mono ?_; rintro e w5 ⟨rfl, ⟨nd, hb0⟩⟩; have hb : Below w4.heap.size w4 w5 := (by rw [hb0]; exact pw_below_drewN (Below.refl _ _) _); clear hb0; have HO5 := Aside0.mk (Kd.R_below HO4.out hb); have BK5 := BB BK4.out hb; have BZ5 := BB BZ4.out hb; have HB5 := Aside0.mk (below_then HB4.out HB4.out.size hb); have e0 : w5.cell? ⟨gb, 0, none⟩ = some (.int .i64 a1_0) := CZ BK5.out 0; have e1 : w5.cell? ⟨gb, 1, none⟩ = some (.int .i64 a1_1) := CZ BK5.out 1; have e2 : w5.cell? ⟨gb, 2, none⟩ = some (.int .i64 a1_2) := CZ BK5.out 2; have e3 : w5.cell? ⟨gb, 3, none⟩ = some (.int .i64 a1_3) := CZ BK5.out 3; have e4 : w5.cell? ⟨gb, 4, none⟩ = some (.int .i64 a1_4) := CZ BK5.out 4; have e5 : w5.cell? ⟨gb, 5, none⟩ = some (.int .i64 a1_5) := CZ BK5.out 5; have e6 : w5.cell? ⟨gb, 6, none⟩ = some (.int .i64 a1_6) := CZ BK5.out 6; have e7 : w5.cell? ⟨gb, 7, none⟩ = some (.int .i64 a1_7) := CZ BK5.out 7; have e8 : w5.cell? ⟨gb, 8, none⟩ = some (.int .i64 a1_8) := CZ BK5.out 8; have e9 : w5.cell? ⟨gb, 9, none⟩ = some (.bool false) := CZ BK5.out 9; have e10 : w5.cell? ⟨gb, 10, none⟩ = some (.int .i64 a1_10) := CZ BK5.out 10; clear hb) | (go_at_call 69; refine (impl_Task_step.calls k gb a1_0 a1_1 a1_2 a1_3 a1_4 a1_5 a1_6 a1_7 a1_8 false a1_10 (fun k_ => True ∧ k_ ≠ gz) v0 y bt.1 bt.2.1 bt.2.2.1 bt.2.2.2.1 bt.2.2.2.2.1 bt.2.2.2.2.2.1 bt.2.2.2.2.2.2.1 bt.2.2.2.2.2.2.2.1 bt.2.2.2.2.2.2.2.2.1 bt.2.2.2.2.2.2.2.2.2.1 bt.2.2.2.2.2.2.2.2.2.2.1 bt.2.2.2.2.2.2.2.2.2.2.2 w w5 ⟨BK5.out, GB.out⟩ HB5.out (Kd.R_types HO5.out BZ5.out (by decide)) A4.out).mono ?_; rintro e w6 ⟨rfl, hi, hr, hb, hk⟩; have HO6 := Aside0.mk hr; have BK6 := Aside0.mk hi.1; have BZ6 := Aside0.mk (blk_kept BZ5.out hk (by rintro (h_ | h_); exact h_.2 rfl; exact NE.out h_.symm)); have HB6 := Aside0.mk hb; have f0 : w6.cell? ⟨gb, 0, none⟩ = some (.int .i64 bt.1) := CZ BK6.out 0; have f1 : w6.cell? ⟨gb, 1, none⟩ = some (.int .i64 bt.2.1) := CZ BK6.out 1; have f2 : w6.cell? ⟨gb, 2, none⟩ = some (.int .i64 bt.2.2.1) := CZ BK6.out 2; have f3 : w6.cell? ⟨gb, 3, none⟩ = some (.int .i64 bt.2.2.2.1) := CZ BK6.out 3; have f4 : w6.cell? ⟨gb, 4, none⟩ = some (.int .i64 bt.2.2.2.2.1) := CZ BK6.out 4; have f5 : w6.cell? ⟨gb, 5, none⟩ = some (.int .i64 bt.2.2.2.2.2.1) := CZ BK6.out 5; have f6 : w6.cell? ⟨gb, 6, none⟩ = some (.int .i64 bt.2.2.2.2.2.2.1) := CZ BK6.out 6; have f7 : w6.cell? ⟨gb, 7, none⟩ = some (.int .i64 bt.2.2.2.2.2.2.2.1) := CZ BK6.out 7; have f8 : w6.cell? ⟨gb, 8, none⟩ = some (.int .i64 bt.2.2.2.2.2.2.2.2.1) := CZ BK6.out 8; have f9 : w6.cell? ⟨gb, 9, none⟩ = some (.bool bt.2.2.2.2.2.2.2.2.2.1) := CZ BK6.out 9; have f10 : w6.cell? ⟨gb, 10, none⟩ = some (.int .i64 bt.2.2.2.2.2.2.2.2.2.2.1) := CZ BK6.out 10; clear hi hr hb hk))
    have z0 : w6.cell? ⟨gz, 0, none⟩ = some (.int .i64 0) := CZ BZ6.out 0; have z1 : w6.cell? ⟨gz, 1, none⟩ = some (.int .i64 0) := CZ BZ6.out 1; have z2 : w6.cell? ⟨gz, 2, none⟩ = some (.int .i64 0) := CZ BZ6.out 2; have z3 : w6.cell? ⟨gz, 3, none⟩ = some (.int .i64 0) := CZ BZ6.out 3; have z4 : w6.cell? ⟨gz, 4, none⟩ = some (.int .i64 0) := CZ BZ6.out 4; have z5 : w6.cell? ⟨gz, 5, none⟩ = some (.int .i64 0) := CZ BZ6.out 5; have z6 : w6.cell? ⟨gz, 6, none⟩ = some (.int .i64 0) := CZ BZ6.out 6; have z7 : w6.cell? ⟨gz, 7, none⟩ = some (.int .i64 0) := CZ BZ6.out 7; have z8 : w6.cell? ⟨gz, 8, none⟩ = some (.int .i64 0) := CZ BZ6.out 8; have z9 : w6.cell? ⟨gz, 9, none⟩ = some (.bool false) := CZ BZ6.out 9; have z10 : w6.cell? ⟨gz, 10, none⟩ = some (.int .i64 0) := CZ BZ6.out 10
    have hne2 : gz ≠ gb := fun e => NE.out e.symm
    have fz0 := blk_frozen BZ6.out 0; have fz1 := blk_frozen BZ6.out 1; have fz2 := blk_frozen BZ6.out 2; have fz3 := blk_frozen BZ6.out 3; have fz4 := blk_frozen BZ6.out 4; have fz5 := blk_frozen BZ6.out 5; have fz6 := blk_frozen BZ6.out 6; have fz7 := blk_frozen BZ6.out 7; have fz8 := blk_frozen BZ6.out 8; have fz9 := blk_frozen BZ6.out 9; have fz10 := blk_frozen BZ6.out 10; have FI := Aside0.mk (impl_StepTask.fin (bt.1) (bt.2.1) (bt.2.2.1) (bt.2.2.2.1) (bt.2.2.2.2.1) (bt.2.2.2.2.2.1) (bt.2.2.2.2.2.2.1) (bt.2.2.2.2.2.2.2.1) (bt.2.2.2.2.2.2.2.2.1) (bt.2.2.2.2.2.2.2.2.2.1) (bt.2.2.2.2.2.2.2.2.2.2.1) BZ6.out HB6.out GZ.out HO6.out)
    go_region
    go_wp2
    refine bodyPost_ret (results_tc rfl _ _ gz 46 #[.int .i64 bt.1, .int .i64 bt.2.1, .int .i64 bt.2.2.1, .int .i64 bt.2.2.2.1, .int .i64 bt.2.2.2.2.1, .int .i64 bt.2.2.2.2.2.1, .int .i64 bt.2.2.2.2.2.2.1, .int .i64 bt.2.2.2.2.2.2.2.1, .int .i64 bt.2.2.2.2.2.2.2.2.1, .bool bt.2.2.2.2.2.2.2.2.2.1, .int .i64 bt.2.2.2.2.2.2.2.2.2.2.1] (0, 0) _ rfl FI.out.1 Try.underlying46 rfl (by kernel_rfl)) rfl ?_; obtain ⟨_, f2, f3⟩ := FI.out; have H2 := H'.out; cases H2; exact ⟨_, rfl, f2, f3⟩

/-- A state of type 80 at block g of W; what its slices lead to came in by w0. -/
def IsS80 (w0 W : World) (g : Nat) (f0 : List Int) (f1 : Int) (f2 : Int) : Prop := ∃ A0 c0, W.heap[g]? = some (.cells #[.slice A0 f0.length c0, .int .i64 f1, .int .i64 f2] 80 (0, 0)) ∧ w0.heap.size ≤ g ∧ Kd.C (Kd.int .u8) w0 A0 f0.length f0
theorem IsS80.grown {w0 W : World} {g : Nat} {f0 : List Int} {f1 : Int} {f2 : Int} {W1 : World} {row : Option Nat} (h : IsS80 w0 W g f0 f1 f2) (hw : W.grownBy W1 row) (hne : some g ≠ row) : IsS80 w0 W1 g f0 f1 f2 := by
 obtain ⟨A0, c0, hb, hg, hr0⟩ := h
 exact ⟨A0, c0, blk_grown hb hw hne, hg, hr0⟩
theorem IsS80.own_neN {w0 W : World} {g : Nat} {f0 : List Int} {f1 : Int} {f2 : Int} {α : Type} {d : Kd α} {e : Nat} {base : Nat} {ok : Nat → Prop} {v : Value} {xs : List α} (h : IsS80 w0 W g f0 f1 f2) (ho : Kd.N d e W base ok v xs) (ht : e ≠ 80) : some g ≠ v.ownBlock := by
 obtain ⟨A0, c0, hb, hg, hr0⟩ := h
 exact Kd.N_ne ho hb ht
theorem IsS80.fresh {w0 W : World} {g : Nat} {f0 : List Int} {f1 : Int} {f2 : Int} (h : IsS80 w0 W g f0 f1 f2) : ∀ k, W.heap.size ≤ k → k ≠ g := by
 obtain ⟨A0, c0, hb, hg, hr0⟩ := h
 exact Kd.freshB hb
theorem IsS80.kept {w0 W : World} {g : Nat} {f0 : List Int} {f1 : Int} {f2 : Int} {W1 : World} {S : Nat → Prop} (h : IsS80 w0 W g f0 f1 f2) (hk : Kept W W1 S) (hne : ¬ S g) : IsS80 w0 W1 g f0 f1 f2 := by
 obtain ⟨A0, c0, hb, hg, hr0⟩ := h
 exact ⟨A0, c0, blk_kept hb hk hne, hg, hr0⟩
theorem IsS80.below {w0 W : World} {g : Nat} {f0 : List Int} {f1 : Int} {f2 : Int} {W1 : World} (h : IsS80 w0 W g f0 f1 f2) (hw : Below W.heap.size W W1) : IsS80 w0 W1 g f0 f1 f2 := h.grown (grown_of_below hw none) (by simp)
theorem IsS80.alloc {w0 W : World} {g : Nat} {f0 : List Int} {f1 : Int} {f2 : Int} (h : IsS80 w0 W g f0 f1 f2) (o : Obj) : IsS80 w0 (W.alloc o) g f0 f1 f2 := h.below (below_alloc (Below.refl _ _) o)
theorem IsS80.drewN {w0 W : World} {g : Nat} {f0 : List Int} {f1 : Int} {f2 : Int} (h : IsS80 w0 W g f0 f1 f2) (m : Nat) : IsS80 w0 (W.drewN m) g f0 f1 f2 := h
theorem IsS80.drew {w0 W : World} {g : Nat} {f0 : List Int} {f1 : Int} {f2 : Int} (h : IsS80 w0 W g f0 f1 f2) : IsS80 w0 W.drew g f0 f1 f2 := h
theorem IsS80.at_ {w0 W : World} {g : Nat} {f0 : List Int} {f1 : Int} {f2 : Int} {w' : World} {m : Nat} (hq : W.drewN m = w') (h : IsS80 w0 W g f0 f1 f2) : IsS80 w0 w' g f0 f1 f2 := by subst hq; exact IsS80.drewN h m
theorem IsS80.apart {w0 W : World} {g : Nat} {f0 : List Int} {f1 : Int} {f2 : Int} {α : Type} {d : Kd α} {e : Nat} {base : Nat} {ok : Nat → Prop} {v : Value} {xs : List α} (h : IsS80 w0 W g f0 f1 f2) (ho : d.R e W base ok v xs) (ht : ∀ q, q ∈ e :: d.E → q ≠ 80) : d.R e W base (fun k => ok k ∧ k ≠ g) v xs := by
 obtain ⟨A0, c0, hb, hg, hr0⟩ := h
 exact Kd.R_types ho hb ht
theorem IsS80.own_ne {w0 W : World} {g : Nat} {f0 : List Int} {f1 : Int} {f2 : Int} {α : Type} {d : Kd α} {e : Nat} {base : Nat} {ok : Nat → Prop} {v : Value} {xs : List α} (h : IsS80 w0 W g f0 f1 f2) (ho : d.R e W base ok v xs) (ht : e ≠ 80) : some g ≠ v.ownBlock := by
 obtain ⟨A0, c0, hb, hg, hr0⟩ := h
 exact Kd.R_ne ho hb ht
theorem IsS80.apartQ {w0 W : World} {g : Nat} {f0 : List Int} {f1 : Int} {f2 : Int} {α : Type} {d : Kd α} {e : Nat} {base : Nat} {ok : Nat → Prop} {v : Value} {xs : List α} (h : IsS80 w0 W g f0 f1 f2) (ho : d.Q e W base ok v xs) (ht : ∀ q, q ∈ e :: d.E → q ≠ 80) : d.Q e W base (fun k => ok k ∧ k ≠ g) v xs := by
 obtain ⟨A0, c0, hb, hg, hr0⟩ := h
 exact Kd.Q_types ho hb ht
theorem IsS80.own_neQ {w0 W : World} {g : Nat} {f0 : List Int} {f1 : Int} {f2 : Int} {α : Type} {d : Kd α} {e : Nat} {base : Nat} {ok : Nat → Prop} {v : Value} {xs : List α} (h : IsS80 w0 W g f0 f1 f2) (ho : d.Q e W base ok v xs) (ht : e ≠ 80) : some g ≠ v.ownBlock := by
 obtain ⟨A0, c0, hb, hg, hr0⟩ := h
 exact Kd.Q_ne ho hb ht
theorem IsS80.apartS {w0 W : World} {g : Nat} {f0 : List Int} {f1 : Int} {f2 : Int} {α : Type} {d : Kd α} {e : Nat} {base : Nat} {ok : Nat → Prop} {v : Value} {xs : List α} (h : IsS80 w0 W g f0 f1 f2) (ho : d.S e W base ok v xs) (ht : ∀ q, q ∈ e :: d.E → q ≠ 80) : d.S e W base (fun k => ok k ∧ k ≠ g) v xs := by
 obtain ⟨A0, c0, hb, hg, hr0⟩ := h
 exact Kd.S_types ho hb ht
theorem IsS80.own_neS {w0 W : World} {g : Nat} {f0 : List Int} {f1 : Int} {f2 : Int} {α : Type} {d : Kd α} {e : Nat} {base : Nat} {ok : Nat → Prop} {v : Value} {xs : List α} (h : IsS80 w0 W g f0 f1 f2) (ho : d.S e W base ok v xs) (ht : e ≠ 80) : some g ≠ v.ownBlock := by
 obtain ⟨A0, c0, hb, hg, hr0⟩ := h
 exact Kd.S_ne ho hb ht
theorem IsS80.lt {w0 W : World} {g : Nat} {f0 : List Int} {f1 : Int} {f2 : Int} (h : IsS80 w0 W g f0 f1 f2) : g < W.heap.size := by
 obtain ⟨A0, c0, hb, hg, hr0⟩ := h
 exact blk_lt hb
theorem IsS80.ge {w0 W : World} {g : Nat} {f0 : List Int} {f1 : Int} {f2 : Int} (h : IsS80 w0 W g f0 f1 f2) : w0.heap.size ≤ g := by
 obtain ⟨A0, c0, hb, hg, hr0⟩ := h
 exact hg
theorem IsS80.ne_blk {w0 W : World} {g : Nat} {f0 : List Int} {f1 : Int} {f2 : Int} {a : Nat} {cs : Array Value} {t : TypeId} {fr : Nat × Nat} (h : IsS80 w0 W g f0 f1 f2) (hb2 : W.heap[a]? = some (.cells cs t fr)) (ht : t ≠ 80) : g ≠ a := by
 obtain ⟨A0, c0, hb, hg, hr0⟩ := h
 rintro rfl
 rw [hb] at hb2
 injection hb2 with hb2
 injection hb2 with _ ht2
 exact ht ht2.symm
theorem IsS80.far {w0 W : World} {g : Nat} {f0 : List Int} {f1 : Int} {f2 : Int} {p : Addr} (h : IsS80 w0 W g f0 f1 f2) (hne : g ≠ p.block) (u : Value) : IsS80 w0 (W.setCell p u) g f0 f1 f2 := by
 obtain ⟨A0, c0, hb, hg, hr0⟩ := h
 exact ⟨A0, c0, blk_far hb hne u, hg, hr0⟩
theorem cellS80_0 {W : World} {g : Nat} {A0 : Option Addr} {c0 : Nat} {f0 : List Int} {f1 : Int} {f2 : Int} (h : W.heap[g]? = some (.cells #[.slice A0 f0.length c0, .int .i64 f1, .int .i64 f2] 80 (0, 0))) : W.cell? ⟨g, 0, none⟩ = some (.slice A0 f0.length c0) := (blk_cell h 0).trans rfl
theorem cellS80_1 {W : World} {g : Nat} {A0 : Option Addr} {c0 : Nat} {f0 : List Int} {f1 : Int} {f2 : Int} (h : W.heap[g]? = some (.cells #[.slice A0 f0.length c0, .int .i64 f1, .int .i64 f2] 80 (0, 0))) : W.cell? ⟨g, 1, none⟩ = some (.int .i64 f1) := (blk_cell h 1).trans rfl
theorem IsS80.set_1 {w0 W : World} {g : Nat} {f0 : List Int} {f1 : Int} {f2 : Int} (h : IsS80 w0 W g f0 f1 f2) (x : Int) : IsS80 w0 (W.setCell ⟨g, 1, none⟩ (.int .i64 x)) g f0 x f2 := by
 obtain ⟨A0, c0, hb, hg, hr0⟩ := h
 exact ⟨A0, c0, by simpa using blk_set hb 1 (.int .i64 x), hg, hr0⟩
theorem cellS80_2 {W : World} {g : Nat} {A0 : Option Addr} {c0 : Nat} {f0 : List Int} {f1 : Int} {f2 : Int} (h : W.heap[g]? = some (.cells #[.slice A0 f0.length c0, .int .i64 f1, .int .i64 f2] 80 (0, 0))) : W.cell? ⟨g, 2, none⟩ = some (.int .i64 f2) := (blk_cell h 2).trans rfl
theorem IsS80.set_2 {w0 W : World} {g : Nat} {f0 : List Int} {f1 : Int} {f2 : Int} (h : IsS80 w0 W g f0 f1 f2) (x : Int) : IsS80 w0 (W.setCell ⟨g, 2, none⟩ (.int .i64 x)) g f0 f1 x := by
 obtain ⟨A0, c0, hb, hg, hr0⟩ := h
 exact ⟨A0, c0, by simpa using blk_set hb 2 (.int .i64 x), hg, hr0⟩
theorem IsS80.new (w0 W : World) (A0 : Option Addr) (c0 : Nat) (f0 : List Int) (f1 : Int) (f2 : Int) (hB : Below w0.heap.size w0 W) (hr0 : Kd.C (Kd.int .u8) w0 A0 f0.length f0) : IsS80 w0 (W.alloc (.cells #[.slice A0 f0.length c0, .int .i64 f1, .int .i64 f2] 80)) W.heap.size f0 f1 f2 := ⟨A0, c0, by simpa using heap_alloc_new W _, hB.size, hr0⟩

/-! ### spec_l01New: function 57 -/
def spec_l01New.l0 : Nat → List Int → Int → Int → Option (List Int × Int × Int)
 | 0, _, _, _ => none
 | k + 1, x0, x3, x4 => if x4 < (x0.length : Int) then (if x4 < 4000 then (if 0 ≤ x4 then (spec_l01New.l0 k x0 (Go.bits .and .i64 (wrap64 ((wrap64 ((wrap64 (x3 * 131)) + (wrap64 (rd x0 x4)))) + 7)) 1073741823) (wrap64 (x4 + 1))) else (none)) else (some (x0, 0, x3))) else (some (x0, 0, x3))
def spec_l01New.f (k : Nat) (l0 : List Int) : Option (List Int × Int × Int) := spec_l01New.l0 k l0 (wrap64 (34901 + (l0.length : Int))) 0
theorem spec_l01New.mono_l : ∀ k, (∀ y0 y1 y2, LeO (spec_l01New.l0 k y0 y1 y2) (spec_l01New.l0 (k + 1) y0 y1 y2))
 | 0 => fun _ _ _ r h => by simp [spec_l01New.l0] at h
 | k + 1 => by
  have ih0 := spec_l01New.mono_l k
  ·
   intro y0 y1 y2
   unfold spec_l01New.l0
   repeat' first
   | (with_reducible exact ih0 _ _ _)
   | (with_reducible exact LeO.refl _)
   | (with_reducible exact LeO.none _)
   | (with_reducible refine LeO.ite ?_ ?_)
   | (with_reducible refine LeO.bind ?_ (fun _ => ?_))
   | exact ih0 _ _ _
   | exact LeO.none _
   | refine LeO.ite ?_ ?_
   | refine LeO.bind ?_ (fun _ => ?_)
theorem spec_l01New.mono : ∀ a0 k, LeO (spec_l01New.f k a0) (spec_l01New.f (k + 1) a0) := by
 intro a0 k
 have ih0 := spec_l01New.mono_l k
 unfold spec_l01New.f
 repeat' first
   | (with_reducible exact ih0 _ _ _)
   | (with_reducible exact LeO.refl _)
   | (with_reducible exact LeO.none _)
   | (with_reducible refine LeO.ite ?_ ?_)
   | (with_reducible refine LeO.bind ?_ (fun _ => ?_))
   | exact ih0 _ _ _
   | exact LeO.none _
   | refine LeO.ite ?_ ?_
   | refine LeO.bind ?_ (fun _ => ?_)
theorem spec_l01New.k0 {p q : Prop} (h : q) (k : q → p := by intro h_; repeat (first | (with_reducible first | exact h_ | apply below_alloc | apply pw_below_drewN | apply below_drew1) | exact h_)) : p := k h
theorem spec_l01New.k1 {p q : Prop} (h : q) (k : q → p := by intro h_; repeat (first | (with_reducible first | exact h_ | apply below_alloc | apply pw_below_drewN | apply below_drew1 | refine below_set ?_ (Aside0.out (by assumption))) | exact h_)) : p := k h
set_option maxHeartbeats 8000000 in
set_option maxRecDepth 100000 in
theorem spec_l01New.calls (k : Nat) (A0 : Option Addr) (c0 : Nat) (l0 : List Int) (r1 : List Int) (r2 : Int) (r3 : Int) (w0 w : World) (hB : Below w0.heap.size w0 w) (hr0 : Kd.C (Kd.int .u8) w0 A0 l0.length l0) (hc0 : l0.length ≤ c0) (h : spec_l01New.f k l0 = some (r1, r2, r3)) :
  Calls Try.prog 57 #[.slice A0 l0.length c0] w fun e w' => ∃ g_ : Nat, e = .returned (.pointer (some ⟨g_, 0, none⟩)) ∧ IsS80 w0 w' g_ r1 r2 r3 ∧ Below w0.heap.size w0 w' ∧ Below w.heap.size w w' := by
 have hu80 := Try.underlying80
 have HR0 := Aside0.mk hr0
 have HC0 := Aside0.mk hc0
 clear hr0 hc0
 have HBW := Aside0.mk (Below.refl w.heap.size w)
 have HW0 := Aside0.mk hB.size
 have HB := Aside0.mk hB
 clear hB
 have H : (spec_l01New.l0 k l0 (wrap64 (34901 + (l0.length : Int))) 0) = some (r1, r2, r3) := h
 clear h
 have H' := Aside0.mk H
 clear H
 go_enter Try.func57, Try.ntmps57
 go_wp2
 go_loopg [3, 4] k (fun kq v3 v4 w' => ∃ (x3_1 : Int) (x4_1 : Int), v3 = .int .i64 x3_1 ∧ v4 = .int .i64 x4_1 ∧ Aside0 (spec_l01New.l0 kq l0 x3_1 x4_1 = some (r1, r2, r3)) ∧ Aside0 (Below w.heap.size w w') ∧ Aside0 (kq ≤ k) ∧ Aside0 (Below w0.heap.size w0 w'))
 case atStart => exact ⟨(wrap64 (34901 + (l0.length : Int))), (0), SD, SD, H', HBW, ⟨Nat.le_refl _⟩, ⟨BL⟩⟩
 case round =>
  clear H'; obtain ⟨x3_1, x4_1, rfl, rfl, HA, HBW, HK1, HB⟩ := hrel; cases gk with
  | zero => exact absurd HA.out (by simp [spec_l01New.l0])
  | succ k1 =>
   have H := HA.out; clear HA; simp only [spec_l01New.l0] at H
   by_cases c2 : x4_1 < (l0.length : Int); rotate_left
   ·
    rw [if_neg c2] at H; have c2b0 : decide (x4_1 < (l0.length : Int)) = false := decide_eq_false c2; clear c2; simp only [Option.some.injEq, Prod.mk.injEq] at H; obtain ⟨rfl, rfl, rfl⟩ := H
    go_wp2_with (first | ((with_reducible refine gate_dst (N := 31) rfl ?_); refine bE 31 #[.slice A0 l0.length c0, .int .i64 0, .int .i64 x3_1] 80 ?_; intro gb447 hg w6 hbox hb; have BK447 := Aside0.mk (hbox); have GW447 := Aside0.mk ((by rw [hg]; exact (below_size (spec_l01New.k0 HBW.out)) : w.heap.size ≤ gb447)); have GE447 := Aside0.mk ((Nat.le_trans HW0.out (by rw [hg]; exact (below_size (spec_l01New.k0 HBW.out)) : w.heap.size ≤ gb447) : w0.heap.size ≤ gb447)); replace HBW := Aside0.mk (below_step HBW.out hb); replace HB := Aside0.mk (below_step (BL) hb); clear hb hbox hg))
    go_ret
    exact ⟨_, rfl, (show IsS80 w0 _ gb447 l0 0 x3_1 from ⟨_, _, BQ BK447.out, GE447.out, HR0.out⟩), BL, spec_l01New.k1 HBW.out⟩
   rw [if_pos c2] at H; have c2b0 : decide (x4_1 < (l0.length : Int)) = true := decide_eq_true c2; clear c2
   by_cases c3 : x4_1 < 4000; rotate_left
   ·
    rw [if_neg c3] at H; have c3b0 : decide (x4_1 < 4000) = false := decide_eq_false c3; clear c3; simp only [Option.some.injEq, Prod.mk.injEq] at H; obtain ⟨rfl, rfl, rfl⟩ := H
    go_wp2_with (first | ((with_reducible refine gate_dst (N := 31) rfl ?_); refine bE 31 #[.slice A0 l0.length c0, .int .i64 0, .int .i64 x3_1] 80 ?_; intro gb446 hg w5 hbox hb; have BK446 := Aside0.mk (hbox); have GW446 := Aside0.mk ((by rw [hg]; exact (below_size (spec_l01New.k0 HBW.out)) : w.heap.size ≤ gb446)); have GE446 := Aside0.mk ((Nat.le_trans HW0.out (by rw [hg]; exact (below_size (spec_l01New.k0 HBW.out)) : w.heap.size ≤ gb446) : w0.heap.size ≤ gb446)); replace HBW := Aside0.mk (below_step HBW.out hb); replace HB := Aside0.mk (below_step (BL) hb); clear hb hbox hg))
    go_ret
    exact ⟨_, rfl, (show IsS80 w0 _ gb446 l0 0 x3_1 from ⟨_, _, BQ BK446.out, GE446.out, HR0.out⟩), BL, spec_l01New.k1 HBW.out⟩
   rw [if_pos c3] at H; have c3b0 : decide (x4_1 < 4000) = true := decide_eq_true c3; clear c3
   by_cases c4 : 0 ≤ x4_1; rotate_left
   ·
    rw [if_neg c4] at H; exact absurd H (by simp)
   rw [if_pos c4] at H; have c4b0 : decide (0 ≤ x4_1) = true := decide_eq_true c4; clear c4; have H' := Aside0.mk H; clear H; have p445 : 0 ≤ (x4_1 : Int) := of_decide_eq_true AS; have q445 : x4_1 < (l0.length : Int) := of_decide_eq_true AS; obtain ⟨ad445, e445, hx445_0⟩ := Kd.at_int HR0.out x4_1 p445 q445; cases e445; replace hx445_0 := pw_cell_below HB.out hx445_0; replace p445 := eq_true p445; replace q445 := eq_true q445
   go_wp2
   go_roundg k1
   case measure => have := HK1.out; omega
   case rel => exact ⟨(Go.bits .and .i64 (wrap64 ((wrap64 ((wrap64 (x3_1 * 131)) + (wrap64 (rd l0 x4_1)))) + 7)) 1073741823), (wrap64 (x4_1 + 1)), SD, SD, H', HBW, ⟨by have := HK1.out; omega⟩, ⟨BL⟩⟩

/-! ### spec_l01Byte: function 58 -/
def spec_l01Byte.f (s0_0 : List Int) (s0_1 : Int) (s0_2 : Int) : Option (Int × Int × Int) := if s0_1 < (s0_0.length : Int) then (if 0 ≤ s0_1 then (some (Go.bits .and .i64 (wrap64 ((Go.bits .and .i64 (Go.bits .xor .i64 ((wrap64 ((wrap64 (s0_2 * 6364136223846793005)) + 1442695040888963407)) / 8589934592) ((wrap64 ((wrap64 (s0_2 * 6364136223846793005)) + 1442695040888963407)) / 35184372088832)) 255) + (wrap64 (rd s0_0 s0_1)))) 255, wrap64 (s0_1 + 1), wrap64 ((wrap64 (s0_2 * 6364136223846793005)) + 1442695040888963407))) else (none)) else (some (Go.bits .and .i64 (Go.bits .xor .i64 ((wrap64 ((wrap64 (s0_2 * 6364136223846793005)) + 1442695040888963407)) / 8589934592) ((wrap64 ((wrap64 (s0_2 * 6364136223846793005)) + 1442695040888963407)) / 35184372088832)) 255, s0_1, wrap64 ((wrap64 (s0_2 * 6364136223846793005)) + 1442695040888963407)))
theorem spec_l01Byte.k0 {p q : Prop} (h : q) (k : q → p := by intro h_; repeat (first | (with_reducible first | exact h_ | apply IsS80.alloc | apply IsS80.drewN | apply IsS80.drew | apply IsS80.set_1 | apply IsS80.set_2) | exact h_)) : p := k h
theorem spec_l01Byte.k1 {p q : Prop} (h : q) (k : q → p := by intro h_; repeat (first | (with_reducible first | exact h_ | apply below_alloc | apply pw_below_drewN | apply below_drew1 | refine below_set ?_ (IsS80.ge HI0.out)) | exact h_)) : p := k h
theorem spec_l01Byte.k2 {p q : Prop} (h : q) (k : q → p := by intro h_; repeat (first | (with_reducible first | exact h_ | apply KeepBut.set_ | apply keep_drewN | apply keep_drew | apply keep_alloc) | exact h_)) : p := k h
set_option maxHeartbeats 8000000 in
set_option maxRecDepth 100000 in
theorem spec_l01Byte.calls (g : Nat) (s0_0 : List Int) (s0_1 : Int) (s0_2 : Int) (r1 : Int) (r2 : Int) (r3 : Int) (w0 w : World) (hI : IsS80 w0 w g s0_0 s0_1 s0_2) (hB : Below w0.heap.size w0 w) (h : spec_l01Byte.f s0_0 s0_1 s0_2 = some (r1, r2, r3)) :
  Calls Try.prog 58 #[.pointer (some ⟨g, 0, none⟩)] w fun e w' => e = .returned (.int .i64 r1) ∧ IsS80 w0 w' g s0_0 r2 r3 ∧ Below w0.heap.size w0 w' ∧ KeepBut w w' g none := by
 have HI0 := Aside0.mk hI
 have HK := Aside0.mk (KeepBut.refl w g none)
 have HL := Aside0.mk hB.size
 clear hI
 have HW0 := Aside0.mk hB.size
 have HB := Aside0.mk hB
 clear hB
 have H : (if s0_1 < (s0_0.length : Int) then (if 0 ≤ s0_1 then (some (Go.bits .and .i64 (wrap64 ((Go.bits .and .i64 (Go.bits .xor .i64 ((wrap64 ((wrap64 (s0_2 * 6364136223846793005)) + 1442695040888963407)) / 8589934592) ((wrap64 ((wrap64 (s0_2 * 6364136223846793005)) + 1442695040888963407)) / 35184372088832)) 255) + (wrap64 (rd s0_0 s0_1)))) 255, wrap64 (s0_1 + 1), wrap64 ((wrap64 (s0_2 * 6364136223846793005)) + 1442695040888963407))) else (none)) else (some (Go.bits .and .i64 (Go.bits .xor .i64 ((wrap64 ((wrap64 (s0_2 * 6364136223846793005)) + 1442695040888963407)) / 8589934592) ((wrap64 ((wrap64 (s0_2 * 6364136223846793005)) + 1442695040888963407)) / 35184372088832)) 255, s0_1, wrap64 ((wrap64 (s0_2 * 6364136223846793005)) + 1442695040888963407)))) = some (r1, r2, r3) := h
 clear h
 by_cases c2 : s0_1 < (s0_0.length : Int); rotate_left
 ·
  rw [if_neg c2] at H; have c2b0 : decide (s0_1 < (s0_0.length : Int)) = false := decide_eq_false c2; clear c2; simp only [Option.some.injEq, Prod.mk.injEq] at H; obtain ⟨rfl, rfl, rfl⟩ := H; obtain ⟨ASz5_0, cSz5_0, HGz5, hgz5, HSz5_0⟩ := HI0.out; have hcz5_0 := cellS80_0 HGz5; have hcz5_1 := cellS80_1 HGz5; have hcz5_2 := cellS80_2 HGz5; have hfz5_1 := blk_frozen HGz5 1; have hfz5_2 := blk_frozen HGz5 2; clear HGz5 hgz5
  go_enter Try.func58, Try.ntmps58
  go_wp2
  repeat (go_quiet (fail); try go_wp2)
  go_ret
  exact ⟨EE, spec_l01Byte.k0 HI0.out, spec_l01Byte.k1 HB.out, spec_l01Byte.k2 HK.out⟩
 rw [if_pos c2] at H
 have c2b0 : decide (s0_1 < (s0_0.length : Int)) = true := decide_eq_true c2
 clear c2
 by_cases c3 : 0 ≤ s0_1; rotate_left
 ·
  rw [if_neg c3] at H; exact absurd H (by simp)
 rw [if_pos c3] at H
 have c3b0 : decide (0 ≤ s0_1) = true := decide_eq_true c3
 clear c3
 simp only [Option.some.injEq, Prod.mk.injEq] at H
 obtain ⟨rfl, rfl, rfl⟩ := H
 obtain ⟨ASz4_0, cSz4_0, HGz4, hgz4, HSz4_0⟩ := HI0.out
 have hcz4_0 := cellS80_0 HGz4
 have hcz4_1 := cellS80_1 HGz4
 have hcz4_2 := cellS80_2 HGz4
 have hfz4_1 := blk_frozen HGz4 1
 have hfz4_2 := blk_frozen HGz4 2
 clear HGz4 hgz4
 have p448 : 0 ≤ (s0_1 : Int) := of_decide_eq_true AS
 have q448 : s0_1 < (s0_0.length : Int) := of_decide_eq_true AS
 obtain ⟨ad448, e448, hx448_0⟩ := Kd.at_int HSz4_0 s0_1 p448 q448
 cases e448
 have hn448_0 : ad448.block ≠ g := Nat.ne_of_lt (Nat.lt_of_lt_of_le (by have := World.block_lt_of_cell? _ _ hx448_0; first | rwa [add_block] at this | exact this) (IsS80.ge HI0.out))
 replace hx448_0 := pw_cell_below HB.out hx448_0
 replace hx448_0 := (cell_far (p := ⟨g, 2, none⟩) (by first | (rw [add_block]; exact hn448_0) | (show (Addr.add _ _).block ≠ _; rw [add_block]; exact hn448_0) | exact hn448_0) (.int .i64 (wrap64 ((wrap64 (s0_2 * 6364136223846793005)) + 1442695040888963407)))).trans hx448_0
 (try have hy448_0 := fun (n_ : Nat) => (show (((w.drewN n_).setCell ⟨g, 2, none⟩ (.int .i64 (wrap64 ((wrap64 (s0_2 * 6364136223846793005)) + 1442695040888963407))))).cell? _ = some _ from hx448_0))
 clear hn448_0
 replace p448 := eq_true p448
 replace q448 := eq_true q448
 go_enter Try.func58, Try.ntmps58
 go_wp2
 repeat (go_quiet (fail); try go_wp2)
 go_ret
 exact ⟨EE, spec_l01Byte.k0 HI0.out, spec_l01Byte.k1 HB.out, spec_l01Byte.k2 HK.out⟩

end Go.Proofs.Ytjmggbhgmenmcaa.Qst
