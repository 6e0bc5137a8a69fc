-- Laid by myprint.py, a program of this session's own, over the kit's print. Not trusted: Lean checks it.
import Derived.Test.YtjmggbhgmenmcaaQalx0
import Derived.Test.YtjmggbhgmenmcaaQalx2
import Derived.Test.YtjmggbhgmenmcaaQalx3
namespace Go.Proofs.Ytjmggbhgmenmcaa.Qal
open Go.RowKit Go.Proofs.YtjmggbhgmenmcaaW.PrintWords Go.Proofs.YtjmggbhgmenmcaaW.PrintLast Go.Proofs.YtjmggbhgmenmcaaW.PrintMore
attribute [local go_sem] Go.Proofs.Ytjmggbhgmenmcaa.StrCmp.gtr_less Go.Proofs.Ytjmggbhgmenmcaa.StrCmp.geq_less Go.Proofs.Ytjmggbhgmenmcaa.StrCmp.leq_less max2_int min2_int max_two min_two max_three min_three max_four min_four   -- for this text's walks alone
set_option linter.unusedVariables false
set_option linter.unusedSimpArgs false

/-! ### impl_Task_step: function 69 -/
def impl_Task_step.f (k : Nat) (s0_0 : Int) (s0_1 : Int) (s0_2 : Int) (s0_3 : Int) (s0_4 : Int) (s0_5 : Int) (s0_6 : Int) (s0_7 : Int) (s0_8 : Int) (s0_9 : Bool) (s0_10 : Int) (l1 : List Int) : Option (Int × Int × Int × Int × Int × Int × Int × Int × Int × Bool × Int × List Int) := if s0_4 = 3 then ((impl_Task_found.f s0_0 s0_1 s0_2 s0_3 s0_4 s0_5 s0_6 s0_7 s0_8 s0_9 s0_10 l1).bind fun bt270 => (some (bt270.1, bt270.2.1, bt270.2.2.1, bt270.2.2.2.1, bt270.2.2.2.2.1, bt270.2.2.2.2.2.1, bt270.2.2.2.2.2.2.1, bt270.2.2.2.2.2.2.2.1, bt270.2.2.2.2.2.2.2.2.1, bt270.2.2.2.2.2.2.2.2.2.1, bt270.2.2.2.2.2.2.2.2.2.2.1, bt270.2.2.2.2.2.2.2.2.2.2.2))) else (if s0_4 = 4 then ((impl_swapWord.f l1 s0_5 (wrap64 (2 * s0_6)) (wrap64 (2 * s0_3))).bind fun bt282 => (if bt282.1 = true then ((impl_Task_done.f s0_0 s0_1 s0_2 s0_3 s0_4 s0_5 s0_6 s0_7 s0_8 s0_9 s0_10 1).bind fun bt284 => (some (bt284.1, bt284.2.1, bt284.2.2.1, bt284.2.2.2.1, bt284.2.2.2.2.1, bt284.2.2.2.2.2.1, bt284.2.2.2.2.2.2.1, bt284.2.2.2.2.2.2.2.1, bt284.2.2.2.2.2.2.2.2.1, bt284.2.2.2.2.2.2.2.2.2.1, bt284.2.2.2.2.2.2.2.2.2.2, bt282.2))) else (some (s0_0, s0_1, s0_2, s0_3, 0, s0_5, s0_6, s0_7, s0_8, s0_9, s0_10, bt282.2)))) else (if s0_4 = 5 then ((impl_swapWord.f l1 s0_6 (wrap64 (2 * s0_7)) (wrap64 ((wrap64 (2 * s0_7)) + 1))).bind fun bt295 => (if bt295.1 = true then (some (s0_0, s0_1, s0_2, s0_3, 6, s0_5, s0_6, s0_7, s0_8, s0_9, s0_10, bt295.2)) else (some (s0_0, s0_1, s0_2, s0_3, 0, s0_5, s0_6, s0_7, s0_8, s0_9, s0_10, bt295.2)))) else (if s0_4 = 6 then ((impl_swapWord.f l1 s0_5 (wrap64 (2 * s0_6)) (wrap64 (2 * s0_7))).bind fun bt297 => ((impl_Task_done.f s0_0 s0_1 s0_2 s0_3 s0_4 s0_5 s0_6 s0_7 s0_8 s0_9 s0_10 1).bind fun bt299 => (some (bt299.1, bt299.2.1, bt299.2.2.1, bt299.2.2.2.1, bt299.2.2.2.2.1, bt299.2.2.2.2.2.1, bt299.2.2.2.2.2.2.1, bt299.2.2.2.2.2.2.2.1, bt299.2.2.2.2.2.2.2.2.1, bt299.2.2.2.2.2.2.2.2.2.1, bt299.2.2.2.2.2.2.2.2.2.2, bt297.2)))) else ((impl_Task_walk.f k s0_0 s0_1 s0_2 s0_3 s0_4 s0_5 s0_6 s0_7 s0_8 s0_9 s0_10 l1).bind fun bt310 => (some (bt310.1, bt310.2.1, bt310.2.2.1, bt310.2.2.2.1, bt310.2.2.2.2.1, bt310.2.2.2.2.2.1, bt310.2.2.2.2.2.2.1, bt310.2.2.2.2.2.2.2.1, bt310.2.2.2.2.2.2.2.2.1, bt310.2.2.2.2.2.2.2.2.2.1, bt310.2.2.2.2.2.2.2.2.2.2.1, bt310.2.2.2.2.2.2.2.2.2.2.2))))))
theorem impl_Task_step.mono : ∀ a0 a1 a2 a3 a4 a5 a6 a7 a8 a9 a10 a11 k, LeO (impl_Task_step.f k a0 a1 a2 a3 a4 a5 a6 a7 a8 a9 a10 a11) (impl_Task_step.f (k + 1) a0 a1 a2 a3 a4 a5 a6 a7 a8 a9 a10 a11) := by
 intro a0 a1 a2 a3 a4 a5 a6 a7 a8 a9 a10 a11 k
 unfold impl_Task_step.f
 repeat' first
   | (with_reducible exact impl_Task_walk.mono _ _ _ _ _ _ _ _ _ _ _ _ _)
   | (with_reducible exact LeO.refl _)
   | (with_reducible exact LeO.none _)
   | (with_reducible refine LeO.ite ?_ ?_)
   | (with_reducible refine LeO.bind ?_ (fun _ => ?_))
   | exact impl_Task_walk.mono _ _ _ _ _ _ _ _ _ _ _ _ _
   | exact LeO.none _
   | refine LeO.ite ?_ ?_
   | refine LeO.bind ?_ (fun _ => ?_)
def impl_Task_step.T5 : Bool × List (List Nat × List Nat) := (true, [([], []), ([], []), ([1], [1]), ([2], [2]), ([3], [3]), ([], []), ([5], [5]), ([6], [6]), ([7], [7]), ([8], [8]), ([], []), ([10], [10]), ([11], [11]), ([12], [12]), ([13], [13]), ([0, 4, 9, 14], [0, 4, 9, 14])])
def impl_Task_step.B5 : List Nat := [0, 0, 2, 6, 14, 0, 32, 96, 224, 480, 0, 1024, 3072, 7168, 15360, 32767]
theorem impl_Task_step.tab5 : rtab .any (opsOf Try.f69 5) = impl_Task_step.T5 := by kernel_rfl
theorem impl_Task_step.bits5 : waitsOk impl_Task_step.T5.2 impl_Task_step.B5 = true := by kernel_rfl
def impl_Task_step.T9 : Bool × List (List Nat × List Nat) := (true, [([], []), ([], []), ([1], [1]), ([2], [2]), ([3], [3]), ([], []), ([5], [5]), ([6], [6]), ([7], [7]), ([8], [8]), ([], []), ([10], [10]), ([11], [11]), ([12], [12]), ([13], [13]), ([14], [14]), ([0, 4, 9, 15], [0, 4, 9, 15])])
def impl_Task_step.B9 : List Nat := [0, 0, 2, 6, 14, 0, 32, 96, 224, 480, 0, 1024, 3072, 7168, 15360, 31744, 65535]
theorem impl_Task_step.tab9 : rtab .any (opsOf Try.f69 9) = impl_Task_step.T9 := by kernel_rfl
theorem impl_Task_step.bits9 : waitsOk impl_Task_step.T9.2 impl_Task_step.B9 = true := by kernel_rfl
def impl_Task_step.T13 : Bool × List (List Nat × List Nat) := (true, [([], []), ([], []), ([1], [1]), ([2], [2]), ([3], [3]), ([], []), ([5], [5]), ([6], [6]), ([7], [7]), ([8], [8]), ([], []), ([10], [10]), ([11], [11]), ([12], [12]), ([13], [13]), ([0, 4, 9, 14], [0, 4, 9, 14])])
def impl_Task_step.B13 : List Nat := [0, 0, 2, 6, 14, 0, 32, 96, 224, 480, 0, 1024, 3072, 7168, 15360, 32767]
theorem impl_Task_step.tab13 : rtab .any (opsOf Try.f69 13) = impl_Task_step.T13 := by kernel_rfl
theorem impl_Task_step.bits13 : waitsOk impl_Task_step.T13.2 impl_Task_step.B13 = true := by kernel_rfl
theorem impl_Task_step.k0 {p q : Prop} (h : q) (k : q → p := by intro h_; repeat (first | (with_reducible first | exact h_ | apply Kept.alloc | apply Kept.drewN | apply Kept.drew | refine Kept.setCell ?_ (.inl (.inr rfl)) _) | exact h_)) : p := k h
theorem impl_Task_step.k1 {p q : Prop} (h : q) (k : q → p := by intro h_; repeat (first | (with_reducible first | exact h_ | apply IsS46.alloc | apply IsS46.drewN | apply IsS46.drew | apply IsS46.set_0 | apply IsS46.set_1 | apply IsS46.set_2 | apply IsS46.set_3 | apply IsS46.set_4 | apply IsS46.set_5 | apply IsS46.set_6 | apply IsS46.set_7 | apply IsS46.set_8 | apply IsS46.set_9 | apply IsS46.set_10) | exact h_)) : p := k h
theorem impl_Task_step.k2 {p q : Prop} (h : q) (k : q → p := by intro h_; repeat (first | (with_reducible first | exact h_ | apply below_alloc | apply pw_below_drewN | apply below_drew1 | refine below_set ?_ (IsS46.ge HI0.out)) | exact h_)) : p := k h
set_option maxHeartbeats 8000000 in
set_option maxRecDepth 100000 in
theorem impl_Task_step.calls (k : Nat) (g : Nat) (s0_0 : Int) (s0_1 : Int) (s0_2 : Int) (s0_3 : Int) (s0_4 : Int) (s0_5 : Int) (s0_6 : Int) (s0_7 : Int) (s0_8 : Int) (s0_9 : Bool) (s0_10 : Int) (P1_ : Nat → Prop) (u9000_ : Value) (l1 : List Int) (r1 : Int) (r2 : Int) (r3 : Int) (r4 : Int) (r5 : Int) (r6 : Int) (r7 : Int) (r8 : Int) (r9 : Int) (r10 : Bool) (r11 : Int) (r12 : List Int) (w0 w : World) (hI : IsS46 w0 w g s0_0 s0_1 s0_2 s0_3 s0_4 s0_5 s0_6 s0_7 s0_8 s0_9 s0_10) (hB : Below w0.heap.size w0 w) (ho1 : Kd.R (Kd.int .i64) 3 w w0.heap.size P1_ u9000_ l1) (h : impl_Task_step.f k s0_0 s0_1 s0_2 s0_3 s0_4 s0_5 s0_6 s0_7 s0_8 s0_9 s0_10 l1 = some (r1, r2, r3, r4, r5, r6, r7, r8, r9, r10, r11, r12)) :
  Calls Try.prog 69 #[.pointer (some ⟨g, 0, none⟩), u9000_] w fun e w' => e = .returned (.tuple #[]) ∧ IsS46 w0 w' g r1 r2 r3 r4 r5 r6 r7 r8 r9 r10 r11 ∧ Kd.R (Kd.int .i64) 3 w' w0.heap.size (fun k_ => (P1_ k_ ∨ w.heap.size ≤ k_)) u9000_ r12 ∧ Below w0.heap.size w0 w' ∧ Kept w w' (fun k_ => (P1_ k_) ∨ k_ = g) := by
 have HO1 := Aside0.mk (show Kd.R (Kd.int .i64) 3 w w0.heap.size (fun k_ => (P1_ k_ ∨ w.heap.size ≤ k_)) u9000_ l1 from Kd.R_mono ho1 (fun k_ hk => (.inl hk)))
 have HI0 := Aside0.mk hI
 have HL := Aside0.mk hB.size
 clear hI
 have HK := Aside0.mk (Kept.refl w (fun k_ => (P1_ k_) ∨ k_ = g))
 have HW0 := Aside0.mk hB.size
 have HB := Aside0.mk hB
 clear hB
 have H : (if s0_4 = 3 then ((impl_Task_found.f s0_0 s0_1 s0_2 s0_3 s0_4 s0_5 s0_6 s0_7 s0_8 s0_9 s0_10 l1).bind fun bt270 => (some (bt270.1, bt270.2.1, bt270.2.2.1, bt270.2.2.2.1, bt270.2.2.2.2.1, bt270.2.2.2.2.2.1, bt270.2.2.2.2.2.2.1, bt270.2.2.2.2.2.2.2.1, bt270.2.2.2.2.2.2.2.2.1, bt270.2.2.2.2.2.2.2.2.2.1, bt270.2.2.2.2.2.2.2.2.2.2.1, bt270.2.2.2.2.2.2.2.2.2.2.2))) else (if s0_4 = 4 then ((impl_swapWord.f l1 s0_5 (wrap64 (2 * s0_6)) (wrap64 (2 * s0_3))).bind fun bt282 => (if bt282.1 = true then ((impl_Task_done.f s0_0 s0_1 s0_2 s0_3 s0_4 s0_5 s0_6 s0_7 s0_8 s0_9 s0_10 1).bind fun bt284 => (some (bt284.1, bt284.2.1, bt284.2.2.1, bt284.2.2.2.1, bt284.2.2.2.2.1, bt284.2.2.2.2.2.1, bt284.2.2.2.2.2.2.1, bt284.2.2.2.2.2.2.2.1, bt284.2.2.2.2.2.2.2.2.1, bt284.2.2.2.2.2.2.2.2.2.1, bt284.2.2.2.2.2.2.2.2.2.2, bt282.2))) else (some (s0_0, s0_1, s0_2, s0_3, 0, s0_5, s0_6, s0_7, s0_8, s0_9, s0_10, bt282.2)))) else (if s0_4 = 5 then ((impl_swapWord.f l1 s0_6 (wrap64 (2 * s0_7)) (wrap64 ((wrap64 (2 * s0_7)) + 1))).bind fun bt295 => (if bt295.1 = true then (some (s0_0, s0_1, s0_2, s0_3, 6, s0_5, s0_6, s0_7, s0_8, s0_9, s0_10, bt295.2)) else (some (s0_0, s0_1, s0_2, s0_3, 0, s0_5, s0_6, s0_7, s0_8, s0_9, s0_10, bt295.2)))) else (if s0_4 = 6 then ((impl_swapWord.f l1 s0_5 (wrap64 (2 * s0_6)) (wrap64 (2 * s0_7))).bind fun bt297 => ((impl_Task_done.f s0_0 s0_1 s0_2 s0_3 s0_4 s0_5 s0_6 s0_7 s0_8 s0_9 s0_10 1).bind fun bt299 => (some (bt299.1, bt299.2.1, bt299.2.2.1, bt299.2.2.2.1, bt299.2.2.2.2.1, bt299.2.2.2.2.2.1, bt299.2.2.2.2.2.2.1, bt299.2.2.2.2.2.2.2.1, bt299.2.2.2.2.2.2.2.2.1, bt299.2.2.2.2.2.2.2.2.2.1, bt299.2.2.2.2.2.2.2.2.2.2, bt297.2)))) else ((impl_Task_walk.f k s0_0 s0_1 s0_2 s0_3 s0_4 s0_5 s0_6 s0_7 s0_8 s0_9 s0_10 l1).bind fun bt310 => (some (bt310.1, bt310.2.1, bt310.2.2.1, bt310.2.2.2.1, bt310.2.2.2.2.1, bt310.2.2.2.2.2.1, bt310.2.2.2.2.2.2.1, bt310.2.2.2.2.2.2.2.1, bt310.2.2.2.2.2.2.2.2.1, bt310.2.2.2.2.2.2.2.2.2.1, bt310.2.2.2.2.2.2.2.2.2.2.1, bt310.2.2.2.2.2.2.2.2.2.2.2))))))) = some (r1, r2, r3, r4, r5, r6, r7, r8, r9, r10, r11, r12) := h
 clear h
 by_cases c3 : s0_4 = 3
 ·
  rw [if_pos c3] at H; have c3b0 : (s0_4 == 3) = true := beq_iff_eq.mpr c3; have c3b1 : (s0_4 != 3) = false := bne_eq_false_iff_eq.mpr c3; clear c3; replace H := Option.bind_eq_some_iff.mp H; obtain ⟨⟨t270, t271, t272, t273, t274, t275, t276, t277, t278, t279, t280, t281⟩, A40, H⟩ := H; replace H : (some (t270, t271, t272, t273, t274, t275, t276, t277, t278, t279, t280, t281)) = some (r1, r2, r3, r4, r5, r6, r7, r8, r9, r10, r11, r12) := H; have A4 := Aside0.mk A40; clear A40; simp only [Option.some.injEq, Prod.mk.injEq] at H; obtain ⟨rfl, rfl, rfl, rfl, rfl, rfl, rfl, rfl, rfl, rfl, rfl, rfl⟩ := H; obtain ⟨HGz5, hgz5⟩ := HI0.out; have hcz5_0 := cellS46_0 HGz5; have hcz5_1 := cellS46_1 HGz5; have hcz5_2 := cellS46_2 HGz5; have hcz5_3 := cellS46_3 HGz5; have hcz5_4 := cellS46_4 HGz5; have hcz5_5 := cellS46_5 HGz5; have hcz5_6 := cellS46_6 HGz5; have hcz5_7 := cellS46_7 HGz5; have hcz5_8 := cellS46_8 HGz5; have hcz5_9 := cellS46_9 HGz5; have hcz5_10 := cellS46_10 HGz5; have hfz5_0 := blk_frozen HGz5 0; have hfz5_1 := blk_frozen HGz5 1; have hfz5_2 := blk_frozen HGz5 2; have hfz5_3 := blk_frozen HGz5 3; have hfz5_4 := blk_frozen HGz5 4; have hfz5_5 := blk_frozen HGz5 5; have hfz5_6 := blk_frozen HGz5 6; have hfz5_7 := blk_frozen HGz5 7; have hfz5_8 := blk_frozen HGz5 8; have hfz5_9 := blk_frozen HGz5 9; have hfz5_10 := blk_frozen HGz5 10; clear HGz5 hgz5; obtain ⟨Ao6, co6, eo6⟩ := Kd.R_slice HO1.out; subst eo6
  go_enter Try.func69, Try.ntmps69
  go_wp2_with (first | ((with_reducible refine gate_callee (f := 81) rfl ?_); refine goesL_ (some 15) rfl rfl Try.func81 (by kernel_rfl) rfl #[.pointer (some ⟨g, 0, none⟩), .slice Ao6 l1.length co6] rfl (MA) ?_; (with_reducible refine (impl_Task_found.calls g s0_0 s0_1 s0_2 s0_3 s0_4 s0_5 s0_6 s0_7 s0_8 s0_9 s0_10 (fun k_ => some k_ = (.slice Ao6 l1.length co6 : Value).ownBlock) (.slice Ao6 l1.length co6) l1 t270 t271 t272 t273 t274 t275 t276 t277 t278 t279 t280 t281 w0 _ ?side1 ?side2 ?side3 A4.out).mono ?_); (case side1 => repeat (first | (with_reducible first | exact HI0.out | apply IsS46.alloc | apply IsS46.drewN | apply IsS46.drew | apply IsS46.set_0 | apply IsS46.set_1 | apply IsS46.set_2 | apply IsS46.set_3 | apply IsS46.set_4 | apply IsS46.set_5 | apply IsS46.set_6 | apply IsS46.set_7 | apply IsS46.set_8 | apply IsS46.set_9 | apply IsS46.set_10) | exact HI0.out)); (case side2 => repeat (first | (with_reducible first | exact HB.out | apply below_alloc | apply pw_below_drewN | apply below_drew1 | refine below_set ?_ (IsS46.ge HI0.out)) | exact HB.out)); (case side3 => exact Kd.R_tight rfl HO1.out); rintro e w7 ⟨rfl, hi, hy0, hb, hkp⟩; refine ⟨_, rfl, ?_⟩; replace HI0 := Aside0.mk (hi); replace HK := Aside0.mk (Kept.then_ (S := (fun k_ => (P1_ k_) ∨ k_ = g)) (impl_Task_step.k0 HK.out) hkp (fun k_ hs_ => Or.elim hs_ (fun hs_ => (fun e_ => Or.imp_left Or.inl ((HO1.out.1 k_ e_.symm))) hs_) (fun e_ => .inl (.inr e_)))); replace HO1 := Aside0.mk (Kd.R_reok rfl hy0 (fun k_ e_ => HO1.out.1 k_ e_)); replace HB := Aside0.mk (hb); (try clear hb); (try clear hkp); (try clear hy0)))
  first | go_end0 | ((try simp only [Exit.inBlock, Exit.then]); refine bodyPost_ret (results_none rfl _ _ _) rfl ?_)
  exact ⟨EE, impl_Task_step.k1 HI0.out, RQ HO1.out, impl_Task_step.k2 HB.out, impl_Task_step.k0 HK.out⟩
 rw [if_neg c3] at H
 have c3b0 : (s0_4 == 3) = false := beq_eq_false_iff_ne.mpr c3
 have c3b1 : (s0_4 != 3) = true := bne_iff_ne.mpr c3
 by_cases c8 : s0_4 = 4
 ·
  rw [if_pos c8] at H; have c8b0 : (s0_4 == 4) = true := beq_iff_eq.mpr c8; have c8b1 : (s0_4 != 4) = false := bne_eq_false_iff_eq.mpr c8; clear c8; replace H := Option.bind_eq_some_iff.mp H; obtain ⟨⟨t282, t283⟩, A90, H⟩ := H; replace H : (if t282 = true then ((impl_Task_done.f s0_0 s0_1 s0_2 s0_3 s0_4 s0_5 s0_6 s0_7 s0_8 s0_9 s0_10 1).bind fun bt284 => (some (bt284.1, bt284.2.1, bt284.2.2.1, bt284.2.2.2.1, bt284.2.2.2.2.1, bt284.2.2.2.2.2.1, bt284.2.2.2.2.2.2.1, bt284.2.2.2.2.2.2.2.1, bt284.2.2.2.2.2.2.2.2.1, bt284.2.2.2.2.2.2.2.2.2.1, bt284.2.2.2.2.2.2.2.2.2.2, t283))) else (some (s0_0, s0_1, s0_2, s0_3, 0, s0_5, s0_6, s0_7, s0_8, s0_9, s0_10, t283))) = some (r1, r2, r3, r4, r5, r6, r7, r8, r9, r10, r11, r12) := H; have A9 := Aside0.mk A90; clear A90
  by_cases c10 : t282 = true
  ·
   subst c10
   have H1 : ((impl_Task_done.f s0_0 s0_1 s0_2 s0_3 s0_4 s0_5 s0_6 s0_7 s0_8 s0_9 s0_10 1).bind fun bt284 => (some (bt284.1, bt284.2.1, bt284.2.2.1, bt284.2.2.2.1, bt284.2.2.2.2.1, bt284.2.2.2.2.2.1, bt284.2.2.2.2.2.2.1, bt284.2.2.2.2.2.2.2.1, bt284.2.2.2.2.2.2.2.2.1, bt284.2.2.2.2.2.2.2.2.2.1, bt284.2.2.2.2.2.2.2.2.2.2, t283))) = some (r1, r2, r3, r4, r5, r6, r7, r8, r9, r10, r11, r12) := by rw [if_pos rfl] at H; exact H
   clear H; have H := H1; clear H1; replace H := Option.bind_eq_some_iff.mp H; obtain ⟨⟨t284, t285, t286, t287, t288, t289, t290, t291, t292, t293, t294⟩, A110, H⟩ := H; replace H : (some (t284, t285, t286, t287, t288, t289, t290, t291, t292, t293, t294, t283)) = some (r1, r2, r3, r4, r5, r6, r7, r8, r9, r10, r11, r12) := H; have A11 := Aside0.mk A110; clear A110; simp only [Option.some.injEq, Prod.mk.injEq] at H; obtain ⟨rfl, rfl, rfl, rfl, rfl, rfl, rfl, rfl, rfl, rfl, rfl, rfl⟩ := H; obtain ⟨HGz12, hgz12⟩ := HI0.out; have hcz12_0 := cellS46_0 HGz12; have hcz12_1 := cellS46_1 HGz12; have hcz12_2 := cellS46_2 HGz12; have hcz12_3 := cellS46_3 HGz12; have hcz12_4 := cellS46_4 HGz12; have hcz12_5 := cellS46_5 HGz12; have hcz12_6 := cellS46_6 HGz12; have hcz12_7 := cellS46_7 HGz12; have hcz12_8 := cellS46_8 HGz12; have hcz12_9 := cellS46_9 HGz12; have hcz12_10 := cellS46_10 HGz12; have hfz12_0 := blk_frozen HGz12 0; have hfz12_1 := blk_frozen HGz12 1; have hfz12_2 := blk_frozen HGz12 2; have hfz12_3 := blk_frozen HGz12 3; have hfz12_4 := blk_frozen HGz12 4; have hfz12_5 := blk_frozen HGz12 5; have hfz12_6 := blk_frozen HGz12 6; have hfz12_7 := blk_frozen HGz12 7; have hfz12_8 := blk_frozen HGz12 8; have hfz12_9 := blk_frozen HGz12 9; have hfz12_10 := blk_frozen HGz12 10; clear HGz12 hgz12
   go_enter Try.func69, Try.ntmps69
   try go_wp2
   have n0_ := Aside0.mk (Kd.R_drew HO1.out); have n1_ := Aside0.mk (IsS46.drew HI0.out); have n2_ := Aside0.mk (Kept.drew HK.out); have n3_ := Aside0.mk (below_drew1 HB.out); clear HO1; clear HI0; clear HK; clear HB; have HO1 := n0_; have HI0 := n1_; have HK := n2_; have HB := n3_; clear n0_ n1_ n2_ n3_; obtain ⟨Ao14, co14, eo14⟩ := Kd.R_slice HO1.out
   (first | subst eo14 | (injection eo14 with f1_ f2_ f3_; have f4_ := f1_.symm; have f5_ := f3_.symm; clear f1_ f2_ f3_; subst f4_; subst f5_))
   refine start_ (n := 16) (S := fun w' => w'.cell? ⟨g, 0, none⟩ = some (.int .i64 s0_0) ∧ w'.cell? ⟨g, 1, none⟩ = some (.int .i64 s0_1) ∧ w'.cell? ⟨g, 2, none⟩ = some (.int .i64 s0_2) ∧ w'.cell? ⟨g, 3, none⟩ = some (.int .i64 s0_3) ∧ w'.cell? ⟨g, 4, none⟩ = some (.int .i64 s0_4) ∧ w'.cell? ⟨g, 5, none⟩ = some (.int .i64 s0_5) ∧ w'.cell? ⟨g, 6, none⟩ = some (.int .i64 s0_6) ∧ w'.cell? ⟨g, 7, none⟩ = some (.int .i64 s0_7) ∧ w'.cell? ⟨g, 8, none⟩ = some (.int .i64 s0_8) ∧ w'.cell? ⟨g, 9, none⟩ = some (.bool s0_9) ∧ w'.cell? ⟨g, 10, none⟩ = some (.int .i64 s0_10)) (ds := []) #[false, false, false, false, false, false, false, false, false, false, false, false, false, false, false, false] (by kernel_rfl) rfl rfl ⟨(blk_cell (Aside0.mk (HI0.out).1).out 0).trans rfl, (blk_cell (Aside0.mk (HI0.out).1).out 1).trans rfl, (blk_cell (Aside0.mk (HI0.out).1).out 2).trans rfl, (blk_cell (Aside0.mk (HI0.out).1).out 3).trans rfl, (blk_cell (Aside0.mk (HI0.out).1).out 4).trans rfl, (blk_cell (Aside0.mk (HI0.out).1).out 5).trans rfl, (blk_cell (Aside0.mk (HI0.out).1).out 6).trans rfl, (blk_cell (Aside0.mk (HI0.out).1).out 7).trans rfl, (blk_cell (Aside0.mk (HI0.out).1).out 8).trans rfl, (blk_cell (Aside0.mk (HI0.out).1).out 9).trans rfl, (blk_cell (Aside0.mk (HI0.out).1).out 10).trans rfl⟩ (fun hHeld => ?_); refine with_tabW impl_Task_step.tab5 impl_Task_step.bits5 (fun HT_ HW_ => ?_); generalize w.drew = w13 at HO1 HI0 HK HB hHeld ⊢; refine pV 0 18 (OB 16 1) ?_; refine pV 1 19 (OB 16 3) ?_; refine pV 2 20 (OB 16 7) ?_; refine pV 3 21 (OB 16 15) ?_; refine pV 5 23 (OB 16 47) ?_; refine pV 6 24 (OB 16 111) ?_; refine pV 7 25 (OB 16 239) ?_; refine pV 10 28 (OB 16 1263) ?_; refine pV 11 29 (OB 16 3311) ?_; refine pV 12 30 (OB 16 7407) ?_; refine take_ (i := 4) (N := some 22) (v := ?_) (a' := ?_) (OB 16 7423) rfl rfl (take_ofW HT_.out HW_.out (by kernel_rfl)) (fun _ _ _ h => h) (Or.inl ⟨by rfl, ?_⟩) hHeld ?_ ?_; rotate_left
   ·
    rintro w' ⟨s0, s1, s2, s3, s4, s5, s6, s7, s8, s9, s10⟩
    go_simp
    with_reducible rfl
   rotate_left
   ·
    simp only [Act.put, zA, zB, zC, i64_w, i32_w]; rfl
   refine take_ (i := 8) (N := some 26) (v := ?_) (a' := ?_) (OB 16 7679) rfl rfl (take_ofW HT_.out HW_.out (by kernel_rfl)) (fun _ _ _ h => h) (Or.inl ⟨by rfl, ?_⟩) hHeld ?_ ?_; rotate_left
   ·
    rintro w' ⟨s0, s1, s2, s3, s4, s5, s6, s7, s8, s9, s10⟩
    go_simp
    with_reducible rfl
   rotate_left
   ·
    simp only [Act.put, zA, zB, zC, i64_w, i32_w]; rfl
   refine pV 9 27 (OB 16 8191) ?_; refine take_ (i := 13) (N := some 31) (v := ?_) (a' := ?_) (OB 16 16383) rfl rfl (take_ofW HT_.out HW_.out (by kernel_rfl)) (fun _ _ _ h => h) (Or.inl ⟨by rfl, ?_⟩) hHeld ?_ ?_; rotate_left
   ·
    rintro w' ⟨s0, s1, s2, s3, s4, s5, s6, s7, s8, s9, s10⟩
    go_simp
    with_reducible rfl
   rotate_left
   ·
    simp only [Act.put, zA, zB, zC, i64_w, i32_w]; rfl
   refine pV 14 32 (OB 16 32767) ?_; refine one_ (i := 15) (N := some 33) (OB 16 65535) rfl rfl (one_of HT_.out (by kernel_rfl)) (by decide) (fun K hK => ?_); refine goes_ Try.func82 (by kernel_rfl) rfl #[.slice Ao14 l1.length co14, .int .i64 s0_5, .int .i64 (wrap64 (2 * s0_6)), .int .i64 (wrap64 (2 * s0_3))] (by rfl) rfl rfl (MA) ?_
   with_reducible refine (impl_swapWord.calls (fun k_ => some k_ = (.slice Ao14 l1.length co14 : Value).ownBlock) (.slice Ao14 l1.length co14) l1 s0_5 (wrap64 (2 * s0_6)) (wrap64 (2 * s0_3)) true t283 w0 _ ?side1 ?side2 A9.out).mono ?_
   (case side1 => repeat (first | (with_reducible first | exact HB.out | apply below_alloc | apply pw_below_drewN | apply below_drew1 | refine below_set ?_ (IsS46.ge HI0.out)) | exact HB.out))
   (case side2 => exact Kd.R_tight rfl HO1.out)
   rintro e w15 ⟨rfl, hy0, hb, hkp⟩; refine ⟨_, rfl, ?_⟩; have n0_ := Aside0.mk (IsS46.kept (impl_Task_step.k1 HI0.out) hkp (fun hs_ => (fun e_ => (IsS46.own_ne HI0.out HO1.out (by decide)) e_) hs_)); have n1_ := Aside0.mk (Kd.R_reok rfl hy0 (fun k_ e_ => HO1.out.1 k_ e_)); have n2_ := Aside0.mk (Kept.then_ (S := (fun k_ => (P1_ k_) ∨ k_ = g)) (impl_Task_step.k0 HK.out) hkp (fun k_ hs_ => (fun e_ => Or.imp_left Or.inl ((HO1.out.1 k_ e_.symm))) hs_)); have n3_ := Aside0.mk (hb); clear HI0; clear HO1; clear HK; clear HB; have HI0 := n0_; have HO1 := n1_; have HK := n2_; have HB := n3_; clear n0_ n1_ n2_ n3_
   (try clear hb)
   (try clear hkp)
   (try clear hy0)
   refine hK.out _ _ ⟨(blk_cell (Aside0.mk (HI0.out).1).out 0).trans rfl, (blk_cell (Aside0.mk (HI0.out).1).out 1).trans rfl, (blk_cell (Aside0.mk (HI0.out).1).out 2).trans rfl, (blk_cell (Aside0.mk (HI0.out).1).out 3).trans rfl, (blk_cell (Aside0.mk (HI0.out).1).out 4).trans rfl, (blk_cell (Aside0.mk (HI0.out).1).out 5).trans rfl, (blk_cell (Aside0.mk (HI0.out).1).out 6).trans rfl, (blk_cell (Aside0.mk (HI0.out).1).out 7).trans rfl, (blk_cell (Aside0.mk (HI0.out).1).out 8).trans rfl, (blk_cell (Aside0.mk (HI0.out).1).out 9).trans rfl, (blk_cell (Aside0.mk (HI0.out).1).out 10).trans rfl⟩ (fun hHeld => ?_); clear hK K; refine norm_ (a' := ?_) ?_ ?_; rotate_left
   ·
    show Act.put _ (some 33) _ = _; simp only [Act.put, zA, zB, zC, i64_w, i32_w]; rfl
   refine done_ (done_of HT_.out (by kernel_rfl)) ?_
   try go_wp2_with (first | ((with_reducible refine gate_callee (f := 83) rfl ?_); refine goesL_ (some 35) rfl rfl Try.func83 (by kernel_rfl) rfl #[.pointer (some ⟨g, 0, none⟩), .int .i64 1] rfl (MA) ?_; (with_reducible refine (impl_Task_done.calls g s0_0 s0_1 s0_2 s0_3 s0_4 s0_5 s0_6 s0_7 s0_8 s0_9 s0_10 1 t284 t285 t286 t287 t288 t289 t290 t291 t292 t293 t294 w0 _ ?side1 ?side2 A11.out).mono ?_); (case side1 => repeat (first | (with_reducible first | exact HI0.out | apply IsS46.alloc | apply IsS46.drewN | apply IsS46.drew | apply IsS46.set_0 | apply IsS46.set_1 | apply IsS46.set_2 | apply IsS46.set_3 | apply IsS46.set_4 | apply IsS46.set_5 | apply IsS46.set_6 | apply IsS46.set_7 | apply IsS46.set_8 | apply IsS46.set_9 | apply IsS46.set_10) | exact HI0.out)); (case side2 => repeat (first | (with_reducible first | exact HB.out | apply below_alloc | apply pw_below_drewN | apply below_drew1 | refine below_set ?_ (IsS46.ge HI0.out)) | exact HB.out)); rintro e w16 ⟨rfl, hi, hb, hk⟩; refine ⟨_, rfl, ?_⟩; replace HO1 := Aside0.mk (Kd.R_mono (Kd.R_keep (IsS46.apart (show IsS46 w0 _ g s0_0 s0_1 s0_2 s0_3 s0_4 s0_5 s0_6 s0_7 s0_8 s0_9 s0_10 from impl_Task_step.k1 HI0.out) (RQ HO1.out) (by decide)) hk (fun _ h => h.2)) (fun _ h => h.1)); replace HK := Aside0.mk (Kept.of_keep (S := (fun k_ => (P1_ k_) ∨ k_ = g)) (impl_Task_step.k0 HK.out) hk (.inl (.inr rfl))); replace HB := Aside0.mk (hb); replace HI0 := Aside0.mk (hi); (try clear hb); (try clear hb2); (try clear hk); (try clear hi)))
   first | go_end0 | ((try simp only [Exit.inBlock, Exit.then]); refine bodyPost_ret (results_none rfl _ _ _) rfl ?_)
   exact ⟨EE, impl_Task_step.k1 HI0.out, RQ HO1.out, impl_Task_step.k2 HB.out, impl_Task_step.k0 HK.out⟩
  replace c10 := Bool.eq_false_iff.mpr c10; subst c10
  have H1 : (some (s0_0, s0_1, s0_2, s0_3, 0, s0_5, s0_6, s0_7, s0_8, s0_9, s0_10, t283)) = some (r1, r2, r3, r4, r5, r6, r7, r8, r9, r10, r11, r12) := by rw [if_neg (show ¬ (false = true) by decide)] at H; exact H
  clear H; have H := H1; clear H1; simp only [Option.some.injEq, Prod.mk.injEq] at H; obtain ⟨rfl, rfl, rfl, rfl, rfl, rfl, rfl, rfl, rfl, rfl, rfl, rfl⟩ := H; obtain ⟨HGz17, hgz17⟩ := HI0.out; have hcz17_0 := cellS46_0 HGz17; have hcz17_1 := cellS46_1 HGz17; have hcz17_2 := cellS46_2 HGz17; have hcz17_3 := cellS46_3 HGz17; have hcz17_4 := cellS46_4 HGz17; have hcz17_5 := cellS46_5 HGz17; have hcz17_6 := cellS46_6 HGz17; have hcz17_7 := cellS46_7 HGz17; have hcz17_8 := cellS46_8 HGz17; have hcz17_9 := cellS46_9 HGz17; have hcz17_10 := cellS46_10 HGz17; have hfz17_0 := blk_frozen HGz17 0; have hfz17_1 := blk_frozen HGz17 1; have hfz17_2 := blk_frozen HGz17 2; have hfz17_3 := blk_frozen HGz17 3; have hfz17_4 := blk_frozen HGz17 4; have hfz17_5 := blk_frozen HGz17 5; have hfz17_6 := blk_frozen HGz17 6; have hfz17_7 := blk_frozen HGz17 7; have hfz17_8 := blk_frozen HGz17 8; have hfz17_9 := blk_frozen HGz17 9; have hfz17_10 := blk_frozen HGz17 10; clear HGz17 hgz17
  go_enter Try.func69, Try.ntmps69
  try go_wp2
  have n0_ := Aside0.mk (Kd.R_drew HO1.out); have n1_ := Aside0.mk (IsS46.drew HI0.out); have n2_ := Aside0.mk (Kept.drew HK.out); have n3_ := Aside0.mk (below_drew1 HB.out); clear HO1; clear HI0; clear HK; clear HB; have HO1 := n0_; have HI0 := n1_; have HK := n2_; have HB := n3_; clear n0_ n1_ n2_ n3_; obtain ⟨Ao19, co19, eo19⟩ := Kd.R_slice HO1.out
  (first | subst eo19 | (injection eo19 with f1_ f2_ f3_; have f4_ := f1_.symm; have f5_ := f3_.symm; clear f1_ f2_ f3_; subst f4_; subst f5_))
  refine start_ (n := 16) (S := fun w' => w'.cell? ⟨g, 0, none⟩ = some (.int .i64 s0_0) ∧ w'.cell? ⟨g, 1, none⟩ = some (.int .i64 s0_1) ∧ w'.cell? ⟨g, 2, none⟩ = some (.int .i64 s0_2) ∧ w'.cell? ⟨g, 3, none⟩ = some (.int .i64 s0_3) ∧ w'.cell? ⟨g, 4, none⟩ = some (.int .i64 s0_4) ∧ w'.cell? ⟨g, 5, none⟩ = some (.int .i64 s0_5) ∧ w'.cell? ⟨g, 6, none⟩ = some (.int .i64 s0_6) ∧ w'.cell? ⟨g, 7, none⟩ = some (.int .i64 s0_7) ∧ w'.cell? ⟨g, 8, none⟩ = some (.int .i64 s0_8) ∧ w'.cell? ⟨g, 9, none⟩ = some (.bool s0_9) ∧ w'.cell? ⟨g, 10, none⟩ = some (.int .i64 s0_10)) (ds := []) #[false, false, false, false, false, false, false, false, false, false, false, false, false, false, false, false] (by kernel_rfl) rfl rfl ⟨(blk_cell (Aside0.mk (HI0.out).1).out 0).trans rfl, (blk_cell (Aside0.mk (HI0.out).1).out 1).trans rfl, (blk_cell (Aside0.mk (HI0.out).1).out 2).trans rfl, (blk_cell (Aside0.mk (HI0.out).1).out 3).trans rfl, (blk_cell (Aside0.mk (HI0.out).1).out 4).trans rfl, (blk_cell (Aside0.mk (HI0.out).1).out 5).trans rfl, (blk_cell (Aside0.mk (HI0.out).1).out 6).trans rfl, (blk_cell (Aside0.mk (HI0.out).1).out 7).trans rfl, (blk_cell (Aside0.mk (HI0.out).1).out 8).trans rfl, (blk_cell (Aside0.mk (HI0.out).1).out 9).trans rfl, (blk_cell (Aside0.mk (HI0.out).1).out 10).trans rfl⟩ (fun hHeld => ?_); refine with_tabW impl_Task_step.tab5 impl_Task_step.bits5 (fun HT_ HW_ => ?_); generalize w.drew = w18 at HO1 HI0 HK HB hHeld ⊢; refine pV 0 18 (OB 16 1) ?_; refine pV 1 19 (OB 16 3) ?_; refine pV 2 20 (OB 16 7) ?_; refine pV 3 21 (OB 16 15) ?_; refine pV 5 23 (OB 16 47) ?_; refine pV 6 24 (OB 16 111) ?_; refine pV 7 25 (OB 16 239) ?_; refine pV 10 28 (OB 16 1263) ?_; refine pV 11 29 (OB 16 3311) ?_; refine pV 12 30 (OB 16 7407) ?_; refine take_ (i := 4) (N := some 22) (v := ?_) (a' := ?_) (OB 16 7423) rfl rfl (take_ofW HT_.out HW_.out (by kernel_rfl)) (fun _ _ _ h => h) (Or.inl ⟨by rfl, ?_⟩) hHeld ?_ ?_; rotate_left
  ·
   rintro w' ⟨s0, s1, s2, s3, s4, s5, s6, s7, s8, s9, s10⟩
   go_simp
   with_reducible rfl
  rotate_left
  ·
   simp only [Act.put, zA, zB, zC, i64_w, i32_w]; rfl
  refine take_ (i := 8) (N := some 26) (v := ?_) (a' := ?_) (OB 16 7679) rfl rfl (take_ofW HT_.out HW_.out (by kernel_rfl)) (fun _ _ _ h => h) (Or.inl ⟨by rfl, ?_⟩) hHeld ?_ ?_; rotate_left
  ·
   rintro w' ⟨s0, s1, s2, s3, s4, s5, s6, s7, s8, s9, s10⟩
   go_simp
   with_reducible rfl
  rotate_left
  ·
   simp only [Act.put, zA, zB, zC, i64_w, i32_w]; rfl
  refine pV 9 27 (OB 16 8191) ?_; refine take_ (i := 13) (N := some 31) (v := ?_) (a' := ?_) (OB 16 16383) rfl rfl (take_ofW HT_.out HW_.out (by kernel_rfl)) (fun _ _ _ h => h) (Or.inl ⟨by rfl, ?_⟩) hHeld ?_ ?_; rotate_left
  ·
   rintro w' ⟨s0, s1, s2, s3, s4, s5, s6, s7, s8, s9, s10⟩
   go_simp
   with_reducible rfl
  rotate_left
  ·
   simp only [Act.put, zA, zB, zC, i64_w, i32_w]; rfl
  refine pV 14 32 (OB 16 32767) ?_; refine one_ (i := 15) (N := some 33) (OB 16 65535) rfl rfl (one_of HT_.out (by kernel_rfl)) (by decide) (fun K hK => ?_); refine goes_ Try.func82 (by kernel_rfl) rfl #[.slice Ao19 l1.length co19, .int .i64 s0_5, .int .i64 (wrap64 (2 * s0_6)), .int .i64 (wrap64 (2 * s0_3))] (by rfl) rfl rfl (MA) ?_
  with_reducible refine (impl_swapWord.calls (fun k_ => some k_ = (.slice Ao19 l1.length co19 : Value).ownBlock) (.slice Ao19 l1.length co19) l1 s0_5 (wrap64 (2 * s0_6)) (wrap64 (2 * s0_3)) false t283 w0 _ ?side1 ?side2 A9.out).mono ?_
  (case side1 => repeat (first | (with_reducible first | exact HB.out | apply below_alloc | apply pw_below_drewN | apply below_drew1 | refine below_set ?_ (IsS46.ge HI0.out)) | exact HB.out))
  (case side2 => exact Kd.R_tight rfl HO1.out)
  rintro e w20 ⟨rfl, hy0, hb, hkp⟩; refine ⟨_, rfl, ?_⟩; have n0_ := Aside0.mk (IsS46.kept (impl_Task_step.k1 HI0.out) hkp (fun hs_ => (fun e_ => (IsS46.own_ne HI0.out HO1.out (by decide)) e_) hs_)); have n1_ := Aside0.mk (Kd.R_reok rfl hy0 (fun k_ e_ => HO1.out.1 k_ e_)); have n2_ := Aside0.mk (Kept.then_ (S := (fun k_ => (P1_ k_) ∨ k_ = g)) (impl_Task_step.k0 HK.out) hkp (fun k_ hs_ => (fun e_ => Or.imp_left Or.inl ((HO1.out.1 k_ e_.symm))) hs_)); have n3_ := Aside0.mk (hb); clear HI0; clear HO1; clear HK; clear HB; have HI0 := n0_; have HO1 := n1_; have HK := n2_; have HB := n3_; clear n0_ n1_ n2_ n3_
  (try clear hb)
  (try clear hkp)
  (try clear hy0)
  refine hK.out _ _ ⟨(blk_cell (Aside0.mk (HI0.out).1).out 0).trans rfl, (blk_cell (Aside0.mk (HI0.out).1).out 1).trans rfl, (blk_cell (Aside0.mk (HI0.out).1).out 2).trans rfl, (blk_cell (Aside0.mk (HI0.out).1).out 3).trans rfl, (blk_cell (Aside0.mk (HI0.out).1).out 4).trans rfl, (blk_cell (Aside0.mk (HI0.out).1).out 5).trans rfl, (blk_cell (Aside0.mk (HI0.out).1).out 6).trans rfl, (blk_cell (Aside0.mk (HI0.out).1).out 7).trans rfl, (blk_cell (Aside0.mk (HI0.out).1).out 8).trans rfl, (blk_cell (Aside0.mk (HI0.out).1).out 9).trans rfl, (blk_cell (Aside0.mk (HI0.out).1).out 10).trans rfl⟩ (fun hHeld => ?_); clear hK K; refine norm_ (a' := ?_) ?_ ?_; rotate_left
  ·
   show Act.put _ (some 33) _ = _; simp only [Act.put, zA, zB, zC, i64_w, i32_w]; rfl
  refine done_ (done_of HT_.out (by kernel_rfl)) ?_; obtain ⟨HGz21, hgz21⟩ := HI0.out; have hcz21_0 := cellS46_0 HGz21; have hcz21_1 := cellS46_1 HGz21; have hcz21_2 := cellS46_2 HGz21; have hcz21_3 := cellS46_3 HGz21; have hcz21_4 := cellS46_4 HGz21; have hcz21_5 := cellS46_5 HGz21; have hcz21_6 := cellS46_6 HGz21; have hcz21_7 := cellS46_7 HGz21; have hcz21_8 := cellS46_8 HGz21; have hcz21_9 := cellS46_9 HGz21; have hcz21_10 := cellS46_10 HGz21; have hfz21_0 := blk_frozen HGz21 0; have hfz21_1 := blk_frozen HGz21 1; have hfz21_2 := blk_frozen HGz21 2; have hfz21_3 := blk_frozen HGz21 3; have hfz21_4 := blk_frozen HGz21 4; have hfz21_5 := blk_frozen HGz21 5; have hfz21_6 := blk_frozen HGz21 6; have hfz21_7 := blk_frozen HGz21 7; have hfz21_8 := blk_frozen HGz21 8; have hfz21_9 := blk_frozen HGz21 9; have hfz21_10 := blk_frozen HGz21 10; clear HGz21 hgz21
  try go_wp2
  first | go_end0 | ((try simp only [Exit.inBlock, Exit.then]); refine bodyPost_ret (results_none rfl _ _ _) rfl ?_)
  exact ⟨EE, impl_Task_step.k1 HI0.out, by (with_reducible repeat (first | apply r1 | apply r2 | apply r3)); exact Kd.R_mono (Kd.R_far (p := ⟨g, 4, none⟩) (IsS46.apart HI0.out HO1.out (by decide)) (fun _ hk => hk.2) (.int .i64 0)) (fun _ hk => hk.1), impl_Task_step.k2 HB.out, impl_Task_step.k0 HK.out⟩
 rw [if_neg c8] at H
 have c8b0 : (s0_4 == 4) = false := beq_eq_false_iff_ne.mpr c8
 have c8b1 : (s0_4 != 4) = true := bne_iff_ne.mpr c8
 by_cases c22 : s0_4 = 5; rotate_left
 ·
  rw [if_neg c22] at H; have c22b0 : (s0_4 == 5) = false := beq_eq_false_iff_ne.mpr c22; have c22b1 : (s0_4 != 5) = true := bne_iff_ne.mpr c22
  by_cases c35 : s0_4 = 6; rotate_left
  ·
   rw [if_neg c35] at H; have c35b0 : (s0_4 == 6) = false := beq_eq_false_iff_ne.mpr c35; have c35b1 : (s0_4 != 6) = true := bne_iff_ne.mpr c35; replace H := Option.bind_eq_some_iff.mp H; obtain ⟨⟨t310, t311, t312, t313, t314, t315, t316, t317, t318, t319, t320, t321⟩, A430, H⟩ := H; replace H : (some (t310, t311, t312, t313, t314, t315, t316, t317, t318, t319, t320, t321)) = some (r1, r2, r3, r4, r5, r6, r7, r8, r9, r10, r11, r12) := H; have A43 := Aside0.mk A430; clear A430; simp only [Option.some.injEq, Prod.mk.injEq] at H; obtain ⟨rfl, rfl, rfl, rfl, rfl, rfl, rfl, rfl, rfl, rfl, rfl, rfl⟩ := H; obtain ⟨HGz44, hgz44⟩ := HI0.out; have hcz44_0 := cellS46_0 HGz44; have hcz44_1 := cellS46_1 HGz44; have hcz44_2 := cellS46_2 HGz44; have hcz44_3 := cellS46_3 HGz44; have hcz44_4 := cellS46_4 HGz44; have hcz44_5 := cellS46_5 HGz44; have hcz44_6 := cellS46_6 HGz44; have hcz44_7 := cellS46_7 HGz44; have hcz44_8 := cellS46_8 HGz44; have hcz44_9 := cellS46_9 HGz44; have hcz44_10 := cellS46_10 HGz44; have hfz44_0 := blk_frozen HGz44 0; have hfz44_1 := blk_frozen HGz44 1; have hfz44_2 := blk_frozen HGz44 2; have hfz44_3 := blk_frozen HGz44 3; have hfz44_4 := blk_frozen HGz44 4; have hfz44_5 := blk_frozen HGz44 5; have hfz44_6 := blk_frozen HGz44 6; have hfz44_7 := blk_frozen HGz44 7; have hfz44_8 := blk_frozen HGz44 8; have hfz44_9 := blk_frozen HGz44 9; have hfz44_10 := blk_frozen HGz44 10; clear HGz44 hgz44; obtain ⟨Ao45, co45, eo45⟩ := Kd.R_slice HO1.out; subst eo45
   go_enter Try.func69, Try.ntmps69
   go_wp2_with (first | ((with_reducible refine gate_callee (f := 84) rfl ?_); refine goesL_ (some 10) rfl rfl Try.func84 (by kernel_rfl) rfl #[.pointer (some ⟨g, 0, none⟩), .slice Ao45 l1.length co45] rfl (MA) ?_; (with_reducible refine (impl_Task_walk.calls k g s0_0 s0_1 s0_2 s0_3 s0_4 s0_5 s0_6 s0_7 s0_8 s0_9 s0_10 (fun k_ => some k_ = (.slice Ao45 l1.length co45 : Value).ownBlock) (.slice Ao45 l1.length co45) l1 t310 t311 t312 t313 t314 t315 t316 t317 t318 t319 t320 t321 w0 _ ?side1 ?side2 ?side3 A43.out).mono ?_); (case side1 => repeat (first | (with_reducible first | exact HI0.out | apply IsS46.alloc | apply IsS46.drewN | apply IsS46.drew | apply IsS46.set_0 | apply IsS46.set_1 | apply IsS46.set_2 | apply IsS46.set_3 | apply IsS46.set_4 | apply IsS46.set_5 | apply IsS46.set_6 | apply IsS46.set_7 | apply IsS46.set_8 | apply IsS46.set_9 | apply IsS46.set_10) | exact HI0.out)); (case side2 => repeat (first | (with_reducible first | exact HB.out | apply below_alloc | apply pw_below_drewN | apply below_drew1 | refine below_set ?_ (IsS46.ge HI0.out)) | exact HB.out)); (case side3 => exact Kd.R_tight rfl HO1.out); rintro e w46 ⟨rfl, hi, hy0, hb, hkp⟩; refine ⟨_, rfl, ?_⟩; replace HI0 := Aside0.mk (hi); replace HK := Aside0.mk (Kept.then_ (S := (fun k_ => (P1_ k_) ∨ k_ = g)) (impl_Task_step.k0 HK.out) hkp (fun k_ hs_ => Or.elim hs_ (fun hs_ => (fun e_ => Or.imp_left Or.inl ((HO1.out.1 k_ e_.symm))) hs_) (fun e_ => .inl (.inr e_)))); replace HO1 := Aside0.mk (Kd.R_reok rfl hy0 (fun k_ e_ => HO1.out.1 k_ e_)); replace HB := Aside0.mk (hb); (try clear hb); (try clear hkp); (try clear hy0)))
   first | go_end0 | ((try simp only [Exit.inBlock, Exit.then]); refine bodyPost_ret (results_none rfl _ _ _) rfl ?_)
   exact ⟨EE, impl_Task_step.k1 HI0.out, RQ HO1.out, impl_Task_step.k2 HB.out, impl_Task_step.k0 HK.out⟩
  rw [if_pos c35] at H; have c35b0 : (s0_4 == 6) = true := beq_iff_eq.mpr c35; have c35b1 : (s0_4 != 6) = false := bne_eq_false_iff_eq.mpr c35; clear c35; replace H := Option.bind_eq_some_iff.mp H; obtain ⟨⟨t297, t298⟩, A360, H⟩ := H; replace H : ((impl_Task_done.f s0_0 s0_1 s0_2 s0_3 s0_4 s0_5 s0_6 s0_7 s0_8 s0_9 s0_10 1).bind fun bt299 => (some (bt299.1, bt299.2.1, bt299.2.2.1, bt299.2.2.2.1, bt299.2.2.2.2.1, bt299.2.2.2.2.2.1, bt299.2.2.2.2.2.2.1, bt299.2.2.2.2.2.2.2.1, bt299.2.2.2.2.2.2.2.2.1, bt299.2.2.2.2.2.2.2.2.2.1, bt299.2.2.2.2.2.2.2.2.2.2, t298))) = some (r1, r2, r3, r4, r5, r6, r7, r8, r9, r10, r11, r12) := H; have A36 := Aside0.mk A360; clear A360; replace H := Option.bind_eq_some_iff.mp H; obtain ⟨⟨t299, t300, t301, t302, t303, t304, t305, t306, t307, t308, t309⟩, A370, H⟩ := H; replace H : (some (t299, t300, t301, t302, t303, t304, t305, t306, t307, t308, t309, t298)) = some (r1, r2, r3, r4, r5, r6, r7, r8, r9, r10, r11, r12) := H; have A37 := Aside0.mk A370; clear A370; simp only [Option.some.injEq, Prod.mk.injEq] at H; obtain ⟨rfl, rfl, rfl, rfl, rfl, rfl, rfl, rfl, rfl, rfl, rfl, rfl⟩ := H; obtain ⟨HGz38, hgz38⟩ := HI0.out; have hcz38_0 := cellS46_0 HGz38; have hcz38_1 := cellS46_1 HGz38; have hcz38_2 := cellS46_2 HGz38; have hcz38_3 := cellS46_3 HGz38; have hcz38_4 := cellS46_4 HGz38; have hcz38_5 := cellS46_5 HGz38; have hcz38_6 := cellS46_6 HGz38; have hcz38_7 := cellS46_7 HGz38; have hcz38_8 := cellS46_8 HGz38; have hcz38_9 := cellS46_9 HGz38; have hcz38_10 := cellS46_10 HGz38; have hfz38_0 := blk_frozen HGz38 0; have hfz38_1 := blk_frozen HGz38 1; have hfz38_2 := blk_frozen HGz38 2; have hfz38_3 := blk_frozen HGz38 3; have hfz38_4 := blk_frozen HGz38 4; have hfz38_5 := blk_frozen HGz38 5; have hfz38_6 := blk_frozen HGz38 6; have hfz38_7 := blk_frozen HGz38 7; have hfz38_8 := blk_frozen HGz38 8; have hfz38_9 := blk_frozen HGz38 9; have hfz38_10 := blk_frozen HGz38 10; clear HGz38 hgz38
  go_enter Try.func69, Try.ntmps69
  try go_wp2
  have n0_ := Aside0.mk (Kd.R_drew HO1.out); have n1_ := Aside0.mk (IsS46.drew HI0.out); have n2_ := Aside0.mk (Kept.drew HK.out); have n3_ := Aside0.mk (below_drew1 HB.out); clear HO1; clear HI0; clear HK; clear HB; have HO1 := n0_; have HI0 := n1_; have HK := n2_; have HB := n3_; clear n0_ n1_ n2_ n3_; obtain ⟨Ao40, co40, eo40⟩ := Kd.R_slice HO1.out
  (first | subst eo40 | (injection eo40 with f1_ f2_ f3_; have f4_ := f1_.symm; have f5_ := f3_.symm; clear f1_ f2_ f3_; subst f4_; subst f5_))
  refine start_ (n := 16) (S := fun w' => w'.cell? ⟨g, 0, none⟩ = some (.int .i64 s0_0) ∧ w'.cell? ⟨g, 1, none⟩ = some (.int .i64 s0_1) ∧ w'.cell? ⟨g, 2, none⟩ = some (.int .i64 s0_2) ∧ w'.cell? ⟨g, 3, none⟩ = some (.int .i64 s0_3) ∧ w'.cell? ⟨g, 4, none⟩ = some (.int .i64 s0_4) ∧ w'.cell? ⟨g, 5, none⟩ = some (.int .i64 s0_5) ∧ w'.cell? ⟨g, 6, none⟩ = some (.int .i64 s0_6) ∧ w'.cell? ⟨g, 7, none⟩ = some (.int .i64 s0_7) ∧ w'.cell? ⟨g, 8, none⟩ = some (.int .i64 s0_8) ∧ w'.cell? ⟨g, 9, none⟩ = some (.bool s0_9) ∧ w'.cell? ⟨g, 10, none⟩ = some (.int .i64 s0_10)) (ds := []) #[false, false, false, false, false, false, false, false, false, false, false, false, false, false, false, false] (by kernel_rfl) rfl rfl ⟨(blk_cell (Aside0.mk (HI0.out).1).out 0).trans rfl, (blk_cell (Aside0.mk (HI0.out).1).out 1).trans rfl, (blk_cell (Aside0.mk (HI0.out).1).out 2).trans rfl, (blk_cell (Aside0.mk (HI0.out).1).out 3).trans rfl, (blk_cell (Aside0.mk (HI0.out).1).out 4).trans rfl, (blk_cell (Aside0.mk (HI0.out).1).out 5).trans rfl, (blk_cell (Aside0.mk (HI0.out).1).out 6).trans rfl, (blk_cell (Aside0.mk (HI0.out).1).out 7).trans rfl, (blk_cell (Aside0.mk (HI0.out).1).out 8).trans rfl, (blk_cell (Aside0.mk (HI0.out).1).out 9).trans rfl, (blk_cell (Aside0.mk (HI0.out).1).out 10).trans rfl⟩ (fun hHeld => ?_); refine with_tabW impl_Task_step.tab13 impl_Task_step.bits13 (fun HT_ HW_ => ?_); generalize w.drew = w39 at HO1 HI0 HK HB hHeld ⊢; refine pV 0 66 (OB 16 1) ?_; refine pV 1 67 (OB 16 3) ?_; refine pV 2 68 (OB 16 7) ?_; refine pV 3 69 (OB 16 15) ?_; refine pV 5 71 (OB 16 47) ?_; refine pV 6 72 (OB 16 111) ?_; refine pV 7 73 (OB 16 239) ?_; refine pV 10 76 (OB 16 1263) ?_; refine pV 11 77 (OB 16 3311) ?_; refine pV 12 78 (OB 16 7407) ?_; refine take_ (i := 4) (N := some 70) (v := ?_) (a' := ?_) (OB 16 7423) rfl rfl (take_ofW HT_.out HW_.out (by kernel_rfl)) (fun _ _ _ h => h) (Or.inl ⟨by rfl, ?_⟩) hHeld ?_ ?_; rotate_left
  ·
   rintro w' ⟨s0, s1, s2, s3, s4, s5, s6, s7, s8, s9, s10⟩
   go_simp
   with_reducible rfl
  rotate_left
  ·
   simp only [Act.put, zA, zB, zC, i64_w, i32_w]; rfl
  refine take_ (i := 8) (N := some 74) (v := ?_) (a' := ?_) (OB 16 7679) rfl rfl (take_ofW HT_.out HW_.out (by kernel_rfl)) (fun _ _ _ h => h) (Or.inl ⟨by rfl, ?_⟩) hHeld ?_ ?_; rotate_left
  ·
   rintro w' ⟨s0, s1, s2, s3, s4, s5, s6, s7, s8, s9, s10⟩
   go_simp
   with_reducible rfl
  rotate_left
  ·
   simp only [Act.put, zA, zB, zC, i64_w, i32_w]; rfl
  refine pV 9 75 (OB 16 8191) ?_; refine take_ (i := 13) (N := some 79) (v := ?_) (a' := ?_) (OB 16 16383) rfl rfl (take_ofW HT_.out HW_.out (by kernel_rfl)) (fun _ _ _ h => h) (Or.inl ⟨by rfl, ?_⟩) hHeld ?_ ?_; rotate_left
  ·
   rintro w' ⟨s0, s1, s2, s3, s4, s5, s6, s7, s8, s9, s10⟩
   go_simp
   with_reducible rfl
  rotate_left
  ·
   simp only [Act.put, zA, zB, zC, i64_w, i32_w]; rfl
  refine pV 14 80 (OB 16 32767) ?_; refine one_ (i := 15) (N := some 81) (OB 16 65535) rfl rfl (one_of HT_.out (by kernel_rfl)) (by decide) (fun K hK => ?_); refine goes_ Try.func82 (by kernel_rfl) rfl #[.slice Ao40 l1.length co40, .int .i64 s0_5, .int .i64 (wrap64 (2 * s0_6)), .int .i64 (wrap64 (2 * s0_7))] (by rfl) rfl rfl (MA) ?_
  with_reducible refine (impl_swapWord.calls (fun k_ => some k_ = (.slice Ao40 l1.length co40 : Value).ownBlock) (.slice Ao40 l1.length co40) l1 s0_5 (wrap64 (2 * s0_6)) (wrap64 (2 * s0_7)) t297 t298 w0 _ ?side1 ?side2 A36.out).mono ?_
  (case side1 => repeat (first | (with_reducible first | exact HB.out | apply below_alloc | apply pw_below_drewN | apply below_drew1 | refine below_set ?_ (IsS46.ge HI0.out)) | exact HB.out))
  (case side2 => exact Kd.R_tight rfl HO1.out)
  rintro e w41 ⟨rfl, hy0, hb, hkp⟩; refine ⟨_, rfl, ?_⟩; have n0_ := Aside0.mk (IsS46.kept (impl_Task_step.k1 HI0.out) hkp (fun hs_ => (fun e_ => (IsS46.own_ne HI0.out HO1.out (by decide)) e_) hs_)); have n1_ := Aside0.mk (Kd.R_reok rfl hy0 (fun k_ e_ => HO1.out.1 k_ e_)); have n2_ := Aside0.mk (Kept.then_ (S := (fun k_ => (P1_ k_) ∨ k_ = g)) (impl_Task_step.k0 HK.out) hkp (fun k_ hs_ => (fun e_ => Or.imp_left Or.inl ((HO1.out.1 k_ e_.symm))) hs_)); have n3_ := Aside0.mk (hb); clear HI0; clear HO1; clear HK; clear HB; have HI0 := n0_; have HO1 := n1_; have HK := n2_; have HB := n3_; clear n0_ n1_ n2_ n3_
  (try clear hb)
  (try clear hkp)
  (try clear hy0)
  refine hK.out _ _ ⟨(blk_cell (Aside0.mk (HI0.out).1).out 0).trans rfl, (blk_cell (Aside0.mk (HI0.out).1).out 1).trans rfl, (blk_cell (Aside0.mk (HI0.out).1).out 2).trans rfl, (blk_cell (Aside0.mk (HI0.out).1).out 3).trans rfl, (blk_cell (Aside0.mk (HI0.out).1).out 4).trans rfl, (blk_cell (Aside0.mk (HI0.out).1).out 5).trans rfl, (blk_cell (Aside0.mk (HI0.out).1).out 6).trans rfl, (blk_cell (Aside0.mk (HI0.out).1).out 7).trans rfl, (blk_cell (Aside0.mk (HI0.out).1).out 8).trans rfl, (blk_cell (Aside0.mk (HI0.out).1).out 9).trans rfl, (blk_cell (Aside0.mk (HI0.out).1).out 10).trans rfl⟩ (fun hHeld => ?_); clear hK K; refine norm_ (a' := ?_) ?_ ?_; rotate_left
  ·
   show Act.put _ (some 81) _ = _; simp only [Act.put, zA, zB, zC, i64_w, i32_w]; rfl
  refine done_ (done_of HT_.out (by kernel_rfl)) ?_
  try go_wp2_with (first | ((with_reducible refine gate_callee (f := 83) rfl ?_); refine goesL_ (some 83) rfl rfl Try.func83 (by kernel_rfl) rfl #[.pointer (some ⟨g, 0, none⟩), .int .i64 1] rfl (MA) ?_; (with_reducible refine (impl_Task_done.calls g s0_0 s0_1 s0_2 s0_3 s0_4 s0_5 s0_6 s0_7 s0_8 s0_9 s0_10 1 t299 t300 t301 t302 t303 t304 t305 t306 t307 t308 t309 w0 _ ?side1 ?side2 A37.out).mono ?_); (case side1 => repeat (first | (with_reducible first | exact HI0.out | apply IsS46.alloc | apply IsS46.drewN | apply IsS46.drew | apply IsS46.set_0 | apply IsS46.set_1 | apply IsS46.set_2 | apply IsS46.set_3 | apply IsS46.set_4 | apply IsS46.set_5 | apply IsS46.set_6 | apply IsS46.set_7 | apply IsS46.set_8 | apply IsS46.set_9 | apply IsS46.set_10) | exact HI0.out)); (case side2 => repeat (first | (with_reducible first | exact HB.out | apply below_alloc | apply pw_below_drewN | apply below_drew1 | refine below_set ?_ (IsS46.ge HI0.out)) | exact HB.out)); rintro e w42 ⟨rfl, hi, hb, hk⟩; refine ⟨_, rfl, ?_⟩; replace HO1 := Aside0.mk (Kd.R_mono (Kd.R_keep (IsS46.apart (show IsS46 w0 _ g s0_0 s0_1 s0_2 s0_3 s0_4 s0_5 s0_6 s0_7 s0_8 s0_9 s0_10 from impl_Task_step.k1 HI0.out) (RQ HO1.out) (by decide)) hk (fun _ h => h.2)) (fun _ h => h.1)); replace HK := Aside0.mk (Kept.of_keep (S := (fun k_ => (P1_ k_) ∨ k_ = g)) (impl_Task_step.k0 HK.out) hk (.inl (.inr rfl))); replace HB := Aside0.mk (hb); replace HI0 := Aside0.mk (hi); (try clear hb); (try clear hb2); (try clear hk); (try clear hi)))
  first | go_end0 | ((try simp only [Exit.inBlock, Exit.then]); refine bodyPost_ret (results_none rfl _ _ _) rfl ?_)
  exact ⟨EE, impl_Task_step.k1 HI0.out, RQ HO1.out, impl_Task_step.k2 HB.out, impl_Task_step.k0 HK.out⟩
 rw [if_pos c22] at H
 have c22b0 : (s0_4 == 5) = true := beq_iff_eq.mpr c22
 have c22b1 : (s0_4 != 5) = false := bne_eq_false_iff_eq.mpr c22
 clear c22
 replace H := Option.bind_eq_some_iff.mp H
 obtain ⟨⟨t295, t296⟩, A230, H⟩ := H
 replace H : (if t295 = true then (some (s0_0, s0_1, s0_2, s0_3, 6, s0_5, s0_6, s0_7, s0_8, s0_9, s0_10, t296)) else (some (s0_0, s0_1, s0_2, s0_3, 0, s0_5, s0_6, s0_7, s0_8, s0_9, s0_10, t296))) = some (r1, r2, r3, r4, r5, r6, r7, r8, r9, r10, r11, r12) := H
 have A23 := Aside0.mk A230
 clear A230
 by_cases c24 : t295 = true
 ·
  subst c24
  have H1 : (some (s0_0, s0_1, s0_2, s0_3, 6, s0_5, s0_6, s0_7, s0_8, s0_9, s0_10, t296)) = some (r1, r2, r3, r4, r5, r6, r7, r8, r9, r10, r11, r12) := by rw [if_pos rfl] at H; exact H
  clear H; have H := H1; clear H1; simp only [Option.some.injEq, Prod.mk.injEq] at H; obtain ⟨rfl, rfl, rfl, rfl, rfl, rfl, rfl, rfl, rfl, rfl, rfl, rfl⟩ := H; obtain ⟨HGz25, hgz25⟩ := HI0.out; have hcz25_0 := cellS46_0 HGz25; have hcz25_1 := cellS46_1 HGz25; have hcz25_2 := cellS46_2 HGz25; have hcz25_3 := cellS46_3 HGz25; have hcz25_4 := cellS46_4 HGz25; have hcz25_5 := cellS46_5 HGz25; have hcz25_6 := cellS46_6 HGz25; have hcz25_7 := cellS46_7 HGz25; have hcz25_8 := cellS46_8 HGz25; have hcz25_9 := cellS46_9 HGz25; have hcz25_10 := cellS46_10 HGz25; have hfz25_0 := blk_frozen HGz25 0; have hfz25_1 := blk_frozen HGz25 1; have hfz25_2 := blk_frozen HGz25 2; have hfz25_3 := blk_frozen HGz25 3; have hfz25_4 := blk_frozen HGz25 4; have hfz25_5 := blk_frozen HGz25 5; have hfz25_6 := blk_frozen HGz25 6; have hfz25_7 := blk_frozen HGz25 7; have hfz25_8 := blk_frozen HGz25 8; have hfz25_9 := blk_frozen HGz25 9; have hfz25_10 := blk_frozen HGz25 10; clear HGz25 hgz25
  go_enter Try.func69, Try.ntmps69
  try go_wp2
  have n0_ := Aside0.mk (Kd.R_drew HO1.out); have n1_ := Aside0.mk (IsS46.drew HI0.out); have n2_ := Aside0.mk (Kept.drew HK.out); have n3_ := Aside0.mk (below_drew1 HB.out); clear HO1; clear HI0; clear HK; clear HB; have HO1 := n0_; have HI0 := n1_; have HK := n2_; have HB := n3_; clear n0_ n1_ n2_ n3_; obtain ⟨Ao27, co27, eo27⟩ := Kd.R_slice HO1.out
  (first | subst eo27 | (injection eo27 with f1_ f2_ f3_; have f4_ := f1_.symm; have f5_ := f3_.symm; clear f1_ f2_ f3_; subst f4_; subst f5_))
  refine start_ (n := 17) (S := fun w' => w'.cell? ⟨g, 0, none⟩ = some (.int .i64 s0_0) ∧ w'.cell? ⟨g, 1, none⟩ = some (.int .i64 s0_1) ∧ w'.cell? ⟨g, 2, none⟩ = some (.int .i64 s0_2) ∧ w'.cell? ⟨g, 3, none⟩ = some (.int .i64 s0_3) ∧ w'.cell? ⟨g, 4, none⟩ = some (.int .i64 s0_4) ∧ w'.cell? ⟨g, 5, none⟩ = some (.int .i64 s0_5) ∧ w'.cell? ⟨g, 6, none⟩ = some (.int .i64 s0_6) ∧ w'.cell? ⟨g, 7, none⟩ = some (.int .i64 s0_7) ∧ w'.cell? ⟨g, 8, none⟩ = some (.int .i64 s0_8) ∧ w'.cell? ⟨g, 9, none⟩ = some (.bool s0_9) ∧ w'.cell? ⟨g, 10, none⟩ = some (.int .i64 s0_10)) (ds := []) #[false, false, false, false, false, false, false, false, false, false, false, false, false, false, false, false, false] (by kernel_rfl) rfl rfl ⟨(blk_cell (Aside0.mk (HI0.out).1).out 0).trans rfl, (blk_cell (Aside0.mk (HI0.out).1).out 1).trans rfl, (blk_cell (Aside0.mk (HI0.out).1).out 2).trans rfl, (blk_cell (Aside0.mk (HI0.out).1).out 3).trans rfl, (blk_cell (Aside0.mk (HI0.out).1).out 4).trans rfl, (blk_cell (Aside0.mk (HI0.out).1).out 5).trans rfl, (blk_cell (Aside0.mk (HI0.out).1).out 6).trans rfl, (blk_cell (Aside0.mk (HI0.out).1).out 7).trans rfl, (blk_cell (Aside0.mk (HI0.out).1).out 8).trans rfl, (blk_cell (Aside0.mk (HI0.out).1).out 9).trans rfl, (blk_cell (Aside0.mk (HI0.out).1).out 10).trans rfl⟩ (fun hHeld => ?_); refine with_tabW impl_Task_step.tab9 impl_Task_step.bits9 (fun HT_ HW_ => ?_); generalize w.drew = w26 at HO1 HI0 HK HB hHeld ⊢; refine pV 0 41 (OB 17 1) ?_; refine pV 1 42 (OB 17 3) ?_; refine pV 2 43 (OB 17 7) ?_; refine pV 3 44 (OB 17 15) ?_; refine pV 5 46 (OB 17 47) ?_; refine pV 6 47 (OB 17 111) ?_; refine pV 7 48 (OB 17 239) ?_; refine pV 10 51 (OB 17 1263) ?_; refine pV 11 52 (OB 17 3311) ?_; refine pV 12 53 (OB 17 7407) ?_; refine take_ (i := 4) (N := some 45) (v := ?_) (a' := ?_) (OB 17 7423) rfl rfl (take_ofW HT_.out HW_.out (by kernel_rfl)) (fun _ _ _ h => h) (Or.inl ⟨by rfl, ?_⟩) hHeld ?_ ?_; rotate_left
  ·
   rintro w' ⟨s0, s1, s2, s3, s4, s5, s6, s7, s8, s9, s10⟩
   go_simp
   with_reducible rfl
  rotate_left
  ·
   simp only [Act.put, zA, zB, zC, i64_w, i32_w]; rfl
  refine take_ (i := 8) (N := some 49) (v := ?_) (a' := ?_) (OB 17 7679) rfl rfl (take_ofW HT_.out HW_.out (by kernel_rfl)) (fun _ _ _ h => h) (Or.inl ⟨by rfl, ?_⟩) hHeld ?_ ?_; rotate_left
  ·
   rintro w' ⟨s0, s1, s2, s3, s4, s5, s6, s7, s8, s9, s10⟩
   go_simp
   with_reducible rfl
  rotate_left
  ·
   simp only [Act.put, zA, zB, zC, i64_w, i32_w]; rfl
  refine pV 9 50 (OB 17 8191) ?_; refine take_ (i := 13) (N := some 54) (v := ?_) (a' := ?_) (OB 17 16383) rfl rfl (take_ofW HT_.out HW_.out (by kernel_rfl)) (fun _ _ _ h => h) (Or.inl ⟨by rfl, ?_⟩) hHeld ?_ ?_; rotate_left
  ·
   rintro w' ⟨s0, s1, s2, s3, s4, s5, s6, s7, s8, s9, s10⟩
   go_simp
   with_reducible rfl
  rotate_left
  ·
   simp only [Act.put, zA, zB, zC, i64_w, i32_w]; rfl
  refine pV 14 55 (OB 17 32767) ?_; refine pV 15 56 (OB 17 65535) ?_; refine one_ (i := 16) (N := some 57) (OB 17 131071) rfl rfl (one_of HT_.out (by kernel_rfl)) (by decide) (fun K hK => ?_); refine goes_ Try.func82 (by kernel_rfl) rfl #[.slice Ao27 l1.length co27, .int .i64 s0_6, .int .i64 (wrap64 (2 * s0_7)), .int .i64 (wrap64 ((wrap64 (2 * s0_7)) + 1))] (by rfl) rfl rfl (MA) ?_
  with_reducible refine (impl_swapWord.calls (fun k_ => some k_ = (.slice Ao27 l1.length co27 : Value).ownBlock) (.slice Ao27 l1.length co27) l1 s0_6 (wrap64 (2 * s0_7)) (wrap64 ((wrap64 (2 * s0_7)) + 1)) true t296 w0 _ ?side1 ?side2 A23.out).mono ?_
  (case side1 => repeat (first | (with_reducible first | exact HB.out | apply below_alloc | apply pw_below_drewN | apply below_drew1 | refine below_set ?_ (IsS46.ge HI0.out)) | exact HB.out))
  (case side2 => exact Kd.R_tight rfl HO1.out)
  rintro e w28 ⟨rfl, hy0, hb, hkp⟩; refine ⟨_, rfl, ?_⟩; have n0_ := Aside0.mk (IsS46.kept (impl_Task_step.k1 HI0.out) hkp (fun hs_ => (fun e_ => (IsS46.own_ne HI0.out HO1.out (by decide)) e_) hs_)); have n1_ := Aside0.mk (Kd.R_reok rfl hy0 (fun k_ e_ => HO1.out.1 k_ e_)); have n2_ := Aside0.mk (Kept.then_ (S := (fun k_ => (P1_ k_) ∨ k_ = g)) (impl_Task_step.k0 HK.out) hkp (fun k_ hs_ => (fun e_ => Or.imp_left Or.inl ((HO1.out.1 k_ e_.symm))) hs_)); have n3_ := Aside0.mk (hb); clear HI0; clear HO1; clear HK; clear HB; have HI0 := n0_; have HO1 := n1_; have HK := n2_; have HB := n3_; clear n0_ n1_ n2_ n3_
  (try clear hb)
  (try clear hkp)
  (try clear hy0)
  refine hK.out _ _ ⟨(blk_cell (Aside0.mk (HI0.out).1).out 0).trans rfl, (blk_cell (Aside0.mk (HI0.out).1).out 1).trans rfl, (blk_cell (Aside0.mk (HI0.out).1).out 2).trans rfl, (blk_cell (Aside0.mk (HI0.out).1).out 3).trans rfl, (blk_cell (Aside0.mk (HI0.out).1).out 4).trans rfl, (blk_cell (Aside0.mk (HI0.out).1).out 5).trans rfl, (blk_cell (Aside0.mk (HI0.out).1).out 6).trans rfl, (blk_cell (Aside0.mk (HI0.out).1).out 7).trans rfl, (blk_cell (Aside0.mk (HI0.out).1).out 8).trans rfl, (blk_cell (Aside0.mk (HI0.out).1).out 9).trans rfl, (blk_cell (Aside0.mk (HI0.out).1).out 10).trans rfl⟩ (fun hHeld => ?_); clear hK K; refine norm_ (a' := ?_) ?_ ?_; rotate_left
  ·
   show Act.put _ (some 57) _ = _; simp only [Act.put, zA, zB, zC, i64_w, i32_w]; rfl
  refine done_ (done_of HT_.out (by kernel_rfl)) ?_; obtain ⟨HGz29, hgz29⟩ := HI0.out; have hcz29_0 := cellS46_0 HGz29; have hcz29_1 := cellS46_1 HGz29; have hcz29_2 := cellS46_2 HGz29; have hcz29_3 := cellS46_3 HGz29; have hcz29_4 := cellS46_4 HGz29; have hcz29_5 := cellS46_5 HGz29; have hcz29_6 := cellS46_6 HGz29; have hcz29_7 := cellS46_7 HGz29; have hcz29_8 := cellS46_8 HGz29; have hcz29_9 := cellS46_9 HGz29; have hcz29_10 := cellS46_10 HGz29; have hfz29_0 := blk_frozen HGz29 0; have hfz29_1 := blk_frozen HGz29 1; have hfz29_2 := blk_frozen HGz29 2; have hfz29_3 := blk_frozen HGz29 3; have hfz29_4 := blk_frozen HGz29 4; have hfz29_5 := blk_frozen HGz29 5; have hfz29_6 := blk_frozen HGz29 6; have hfz29_7 := blk_frozen HGz29 7; have hfz29_8 := blk_frozen HGz29 8; have hfz29_9 := blk_frozen HGz29 9; have hfz29_10 := blk_frozen HGz29 10; clear HGz29 hgz29
  try go_wp2
  first | go_end0 | ((try simp only [Exit.inBlock, Exit.then]); refine bodyPost_ret (results_none rfl _ _ _) rfl ?_)
  exact ⟨EE, impl_Task_step.k1 HI0.out, by (with_reducible repeat (first | apply r1 | apply r2 | apply r3)); exact Kd.R_mono (Kd.R_far (p := ⟨g, 4, none⟩) (IsS46.apart HI0.out HO1.out (by decide)) (fun _ hk => hk.2) (.int .i64 6)) (fun _ hk => hk.1), impl_Task_step.k2 HB.out, impl_Task_step.k0 HK.out⟩
 replace c24 := Bool.eq_false_iff.mpr c24
 subst c24
 have H1 : (some (s0_0, s0_1, s0_2, s0_3, 0, s0_5, s0_6, s0_7, s0_8, s0_9, s0_10, t296)) = some (r1, r2, r3, r4, r5, r6, r7, r8, r9, r10, r11, r12) := by rw [if_neg (show ¬ (false = true) by decide)] at H; exact H
 clear H
 have H := H1
 clear H1
 simp only [Option.some.injEq, Prod.mk.injEq] at H
 obtain ⟨rfl, rfl, rfl, rfl, rfl, rfl, rfl, rfl, rfl, rfl, rfl, rfl⟩ := H
 obtain ⟨HGz30, hgz30⟩ := HI0.out
 have hcz30_0 := cellS46_0 HGz30
 have hcz30_1 := cellS46_1 HGz30
 have hcz30_2 := cellS46_2 HGz30
 have hcz30_3 := cellS46_3 HGz30
 have hcz30_4 := cellS46_4 HGz30
 have hcz30_5 := cellS46_5 HGz30
 have hcz30_6 := cellS46_6 HGz30
 have hcz30_7 := cellS46_7 HGz30
 have hcz30_8 := cellS46_8 HGz30
 have hcz30_9 := cellS46_9 HGz30
 have hcz30_10 := cellS46_10 HGz30
 have hfz30_0 := blk_frozen HGz30 0
 have hfz30_1 := blk_frozen HGz30 1
 have hfz30_2 := blk_frozen HGz30 2
 have hfz30_3 := blk_frozen HGz30 3
 have hfz30_4 := blk_frozen HGz30 4
 have hfz30_5 := blk_frozen HGz30 5
 have hfz30_6 := blk_frozen HGz30 6
 have hfz30_7 := blk_frozen HGz30 7
 have hfz30_8 := blk_frozen HGz30 8
 have hfz30_9 := blk_frozen HGz30 9
 have hfz30_10 := blk_frozen HGz30 10
 clear HGz30 hgz30
 go_enter Try.func69, Try.ntmps69
 try go_wp2
 have n0_ := Aside0.mk (Kd.R_drew HO1.out)
 have n1_ := Aside0.mk (IsS46.drew HI0.out)
 have n2_ := Aside0.mk (Kept.drew HK.out)
 have n3_ := Aside0.mk (below_drew1 HB.out)
 clear HO1
 clear HI0
 clear HK
 clear HB
 have HO1 := n0_
 have HI0 := n1_
 have HK := n2_
 have HB := n3_
 clear n0_ n1_ n2_ n3_
 obtain ⟨Ao32, co32, eo32⟩ := Kd.R_slice HO1.out
 (first | subst eo32 | (injection eo32 with f1_ f2_ f3_; have f4_ := f1_.symm; have f5_ := f3_.symm; clear f1_ f2_ f3_; subst f4_; subst f5_))
 refine start_ (n := 17) (S := fun w' => w'.cell? ⟨g, 0, none⟩ = some (.int .i64 s0_0) ∧ w'.cell? ⟨g, 1, none⟩ = some (.int .i64 s0_1) ∧ w'.cell? ⟨g, 2, none⟩ = some (.int .i64 s0_2) ∧ w'.cell? ⟨g, 3, none⟩ = some (.int .i64 s0_3) ∧ w'.cell? ⟨g, 4, none⟩ = some (.int .i64 s0_4) ∧ w'.cell? ⟨g, 5, none⟩ = some (.int .i64 s0_5) ∧ w'.cell? ⟨g, 6, none⟩ = some (.int .i64 s0_6) ∧ w'.cell? ⟨g, 7, none⟩ = some (.int .i64 s0_7) ∧ w'.cell? ⟨g, 8, none⟩ = some (.int .i64 s0_8) ∧ w'.cell? ⟨g, 9, none⟩ = some (.bool s0_9) ∧ w'.cell? ⟨g, 10, none⟩ = some (.int .i64 s0_10)) (ds := []) #[false, false, false, false, false, false, false, false, false, false, false, false, false, false, false, false, false] (by kernel_rfl) rfl rfl ⟨(blk_cell (Aside0.mk (HI0.out).1).out 0).trans rfl, (blk_cell (Aside0.mk (HI0.out).1).out 1).trans rfl, (blk_cell (Aside0.mk (HI0.out).1).out 2).trans rfl, (blk_cell (Aside0.mk (HI0.out).1).out 3).trans rfl, (blk_cell (Aside0.mk (HI0.out).1).out 4).trans rfl, (blk_cell (Aside0.mk (HI0.out).1).out 5).trans rfl, (blk_cell (Aside0.mk (HI0.out).1).out 6).trans rfl, (blk_cell (Aside0.mk (HI0.out).1).out 7).trans rfl, (blk_cell (Aside0.mk (HI0.out).1).out 8).trans rfl, (blk_cell (Aside0.mk (HI0.out).1).out 9).trans rfl, (blk_cell (Aside0.mk (HI0.out).1).out 10).trans rfl⟩ (fun hHeld => ?_); refine with_tabW impl_Task_step.tab9 impl_Task_step.bits9 (fun HT_ HW_ => ?_)
 generalize w.drew = w31 at HO1 HI0 HK HB hHeld ⊢
 refine pV 0 41 (OB 17 1) ?_
 refine pV 1 42 (OB 17 3) ?_
 refine pV 2 43 (OB 17 7) ?_
 refine pV 3 44 (OB 17 15) ?_
 refine pV 5 46 (OB 17 47) ?_
 refine pV 6 47 (OB 17 111) ?_
 refine pV 7 48 (OB 17 239) ?_
 refine pV 10 51 (OB 17 1263) ?_
 refine pV 11 52 (OB 17 3311) ?_
 refine pV 12 53 (OB 17 7407) ?_
 refine take_ (i := 4) (N := some 45) (v := ?_) (a' := ?_) (OB 17 7423) rfl rfl (take_ofW HT_.out HW_.out (by kernel_rfl)) (fun _ _ _ h => h) (Or.inl ⟨by rfl, ?_⟩) hHeld ?_ ?_
 rotate_left
 ·
  rintro w' ⟨s0, s1, s2, s3, s4, s5, s6, s7, s8, s9, s10⟩
  go_simp
  with_reducible rfl
 rotate_left
 ·
  simp only [Act.put, zA, zB, zC, i64_w, i32_w]; rfl
 refine take_ (i := 8) (N := some 49) (v := ?_) (a' := ?_) (OB 17 7679) rfl rfl (take_ofW HT_.out HW_.out (by kernel_rfl)) (fun _ _ _ h => h) (Or.inl ⟨by rfl, ?_⟩) hHeld ?_ ?_
 rotate_left
 ·
  rintro w' ⟨s0, s1, s2, s3, s4, s5, s6, s7, s8, s9, s10⟩
  go_simp
  with_reducible rfl
 rotate_left
 ·
  simp only [Act.put, zA, zB, zC, i64_w, i32_w]; rfl
 refine pV 9 50 (OB 17 8191) ?_
 refine take_ (i := 13) (N := some 54) (v := ?_) (a' := ?_) (OB 17 16383) rfl rfl (take_ofW HT_.out HW_.out (by kernel_rfl)) (fun _ _ _ h => h) (Or.inl ⟨by rfl, ?_⟩) hHeld ?_ ?_
 rotate_left
 ·
  rintro w' ⟨s0, s1, s2, s3, s4, s5, s6, s7, s8, s9, s10⟩
  go_simp
  with_reducible rfl
 rotate_left
 ·
  simp only [Act.put, zA, zB, zC, i64_w, i32_w]; rfl
 refine pV 14 55 (OB 17 32767) ?_
 refine pV 15 56 (OB 17 65535) ?_
 refine one_ (i := 16) (N := some 57) (OB 17 131071) rfl rfl (one_of HT_.out (by kernel_rfl)) (by decide) (fun K hK => ?_)
 refine goes_ Try.func82 (by kernel_rfl) rfl #[.slice Ao32 l1.length co32, .int .i64 s0_6, .int .i64 (wrap64 (2 * s0_7)), .int .i64 (wrap64 ((wrap64 (2 * s0_7)) + 1))] (by rfl) rfl rfl (MA) ?_
 with_reducible refine (impl_swapWord.calls (fun k_ => some k_ = (.slice Ao32 l1.length co32 : Value).ownBlock) (.slice Ao32 l1.length co32) l1 s0_6 (wrap64 (2 * s0_7)) (wrap64 ((wrap64 (2 * s0_7)) + 1)) false t296 w0 _ ?side1 ?side2 A23.out).mono ?_
 (case side1 => repeat (first | (with_reducible first | exact HB.out | apply below_alloc | apply pw_below_drewN | apply below_drew1 | refine below_set ?_ (IsS46.ge HI0.out)) | exact HB.out))
 (case side2 => exact Kd.R_tight rfl HO1.out)
 rintro e w33 ⟨rfl, hy0, hb, hkp⟩
 refine ⟨_, rfl, ?_⟩
 have n0_ := Aside0.mk (IsS46.kept (impl_Task_step.k1 HI0.out) hkp (fun hs_ => (fun e_ => (IsS46.own_ne HI0.out HO1.out (by decide)) e_) hs_))
 have n1_ := Aside0.mk (Kd.R_reok rfl hy0 (fun k_ e_ => HO1.out.1 k_ e_))
 have n2_ := Aside0.mk (Kept.then_ (S := (fun k_ => (P1_ k_) ∨ k_ = g)) (impl_Task_step.k0 HK.out) hkp (fun k_ hs_ => (fun e_ => Or.imp_left Or.inl ((HO1.out.1 k_ e_.symm))) hs_))
 have n3_ := Aside0.mk (hb)
 clear HI0
 clear HO1
 clear HK
 clear HB
 have HI0 := n0_
 have HO1 := n1_
 have HK := n2_
 have HB := n3_
 clear n0_ n1_ n2_ n3_
 (try clear hb)
 (try clear hkp)
 (try clear hy0)
 refine hK.out _ _ ⟨(blk_cell (Aside0.mk (HI0.out).1).out 0).trans rfl, (blk_cell (Aside0.mk (HI0.out).1).out 1).trans rfl, (blk_cell (Aside0.mk (HI0.out).1).out 2).trans rfl, (blk_cell (Aside0.mk (HI0.out).1).out 3).trans rfl, (blk_cell (Aside0.mk (HI0.out).1).out 4).trans rfl, (blk_cell (Aside0.mk (HI0.out).1).out 5).trans rfl, (blk_cell (Aside0.mk (HI0.out).1).out 6).trans rfl, (blk_cell (Aside0.mk (HI0.out).1).out 7).trans rfl, (blk_cell (Aside0.mk (HI0.out).1).out 8).trans rfl, (blk_cell (Aside0.mk (HI0.out).1).out 9).trans rfl, (blk_cell (Aside0.mk (HI0.out).1).out 10).trans rfl⟩ (fun hHeld => ?_)
 clear hK K
 refine norm_ (a' := ?_) ?_ ?_
 rotate_left
 ·
  show Act.put _ (some 57) _ = _; simp only [Act.put, zA, zB, zC, i64_w, i32_w]; rfl
 refine done_ (done_of HT_.out (by kernel_rfl)) ?_
 obtain ⟨HGz34, hgz34⟩ := HI0.out
 have hcz34_0 := cellS46_0 HGz34
 have hcz34_1 := cellS46_1 HGz34
 have hcz34_2 := cellS46_2 HGz34
 have hcz34_3 := cellS46_3 HGz34
 have hcz34_4 := cellS46_4 HGz34
 have hcz34_5 := cellS46_5 HGz34
 have hcz34_6 := cellS46_6 HGz34
 have hcz34_7 := cellS46_7 HGz34
 have hcz34_8 := cellS46_8 HGz34
 have hcz34_9 := cellS46_9 HGz34
 have hcz34_10 := cellS46_10 HGz34
 have hfz34_0 := blk_frozen HGz34 0
 have hfz34_1 := blk_frozen HGz34 1
 have hfz34_2 := blk_frozen HGz34 2
 have hfz34_3 := blk_frozen HGz34 3
 have hfz34_4 := blk_frozen HGz34 4
 have hfz34_5 := blk_frozen HGz34 5
 have hfz34_6 := blk_frozen HGz34 6
 have hfz34_7 := blk_frozen HGz34 7
 have hfz34_8 := blk_frozen HGz34 8
 have hfz34_9 := blk_frozen HGz34 9
 have hfz34_10 := blk_frozen HGz34 10
 clear HGz34 hgz34
 try go_wp2
 first | go_end0 | ((try simp only [Exit.inBlock, Exit.then]); refine bodyPost_ret (results_none rfl _ _ _) rfl ?_)
 exact ⟨EE, impl_Task_step.k1 HI0.out, by (with_reducible repeat (first | apply r1 | apply r2 | apply r3)); exact Kd.R_mono (Kd.R_far (p := ⟨g, 4, none⟩) (IsS46.apart HI0.out HO1.out (by decide)) (fun _ hk => hk.2) (.int .i64 0)) (fun _ hk => hk.1), impl_Task_step.k2 HB.out, impl_Task_step.k0 HK.out⟩

/-! ### impl_StepTask: function 39 -/
def impl_StepTask.f (k : Nat) (l0 : List Int) (a1_0 : Int) (a1_1 : Int) (a1_2 : Int) (a1_3 : Int) (a1_4 : Int) (a1_5 : Int) (a1_6 : Int) (a1_7 : Int) (a1_8 : Int) (a1_9 : Bool) (a1_10 : Int) : Option (List Int × Int × Int × Int × Int × Int × Int × Int × Int × Int × Bool × Int) := (impl_copyInts.f l0).bind fun t324 => (if a1_9 = true then (some (t324, a1_0, a1_1, a1_2, a1_3, a1_4, a1_5, a1_6, a1_7, a1_8, a1_9, a1_10)) else ((impl_TaskOk.f k a1_0 a1_1 a1_2 a1_3 a1_4 a1_5 a1_6 a1_7 a1_8 a1_9 a1_10).bind fun t327 => (if t327 = true then (if (l0.length : Int) = 63 then ((impl_CellsOk.f k l0).bind fun t328 => (if t328 = true then ((impl_Task_step.f k a1_0 a1_1 a1_2 a1_3 a1_4 a1_5 a1_6 a1_7 a1_8 a1_9 a1_10 t324).bind fun bt329 => (some (bt329.2.2.2.2.2.2.2.2.2.2.2, bt329.1, bt329.2.1, bt329.2.2.1, bt329.2.2.2.1, bt329.2.2.2.2.1, bt329.2.2.2.2.2.1, bt329.2.2.2.2.2.2.1, bt329.2.2.2.2.2.2.2.1, bt329.2.2.2.2.2.2.2.2.1, bt329.2.2.2.2.2.2.2.2.2.1, bt329.2.2.2.2.2.2.2.2.2.2.1))) else (some (t324, a1_0, a1_1, a1_2, a1_3, a1_4, a1_5, a1_6, a1_7, a1_8, a1_9, a1_10)))) else (some (t324, a1_0, a1_1, a1_2, a1_3, a1_4, a1_5, a1_6, a1_7, a1_8, a1_9, a1_10))) else (some (t324, a1_0, a1_1, a1_2, a1_3, a1_4, a1_5, a1_6, a1_7, a1_8, a1_9, a1_10)))))
theorem impl_StepTask.mono : ∀ a0 a1 a2 a3 a4 a5 a6 a7 a8 a9 a10 a11 k, LeO (impl_StepTask.f k a0 a1 a2 a3 a4 a5 a6 a7 a8 a9 a10 a11) (impl_StepTask.f (k + 1) a0 a1 a2 a3 a4 a5 a6 a7 a8 a9 a10 a11) := by
 intro a0 a1 a2 a3 a4 a5 a6 a7 a8 a9 a10 a11 k
 unfold impl_StepTask.f
 repeat' first
   | (with_reducible exact impl_CellsOk.mono _ _)
   | (with_reducible exact impl_TaskOk.mono _ _ _ _ _ _ _ _ _ _ _ _)
   | (with_reducible exact impl_Task_step.mono _ _ _ _ _ _ _ _ _ _ _ _ _)
   | (with_reducible exact LeO.refl _)
   | (with_reducible exact LeO.none _)
   | (with_reducible refine LeO.ite ?_ ?_)
   | (with_reducible refine LeO.bind ?_ (fun _ => ?_))
   | exact impl_CellsOk.mono _ _
   | exact impl_TaskOk.mono _ _ _ _ _ _ _ _ _ _ _ _
   | exact impl_Task_step.mono _ _ _ _ _ _ _ _ _ _ _ _ _
   | exact LeO.none _
   | refine LeO.ite ?_ ?_
   | refine LeO.bind ?_ (fun _ => ?_)
theorem impl_StepTask.fin {w0 w : World} {gz : Nat} {ok : Nat → Prop} {v : Value} {xs : List Int} (a0 a1 a2 a3 a4 a5 a6 a7 a8 : Int) (a9 : Bool) (a10 : Int) (b : w.heap[gz]? = some (.cells #[.int .i64 0, .int .i64 0, .int .i64 0, .int .i64 0, .int .i64 0, .int .i64 0, .int .i64 0, .int .i64 0, .int .i64 0, .bool false, .int .i64 0] 46 (0, 0))) (hb : Below w0.heap.size w0 w) (hg : w0.heap.size ≤ gz) (hr : Kd.R (Kd.int .i64) 3 w w0.heap.size ok v xs) :
 ((((((((((((w.setCell ⟨gz, 0, none⟩ (.int .i64 a0)).setCell ⟨gz, 1, none⟩ (.int .i64 a1)).setCell ⟨gz, 2, none⟩ (.int .i64 a2)).setCell ⟨gz, 3, none⟩ (.int .i64 a3)).setCell ⟨gz, 4, none⟩ (.int .i64 a4)).setCell ⟨gz, 5, none⟩ (.int .i64 a5)).setCell ⟨gz, 6, none⟩ (.int .i64 a6)).setCell ⟨gz, 7, none⟩ (.int .i64 a7)).setCell ⟨gz, 8, none⟩ (.int .i64 a8)).setCell ⟨gz, 9, none⟩ (.bool a9)).setCell ⟨gz, 10, none⟩ (.int .i64 a10)).drew).heap[gz]? = some (.cells #[.int .i64 a0, .int .i64 a1, .int .i64 a2, .int .i64 a3, .int .i64 a4, .int .i64 a5, .int .i64 a6, .int .i64 a7, .int .i64 a8, .bool a9, .int .i64 a10] 46 (0, 0)) ∧ Kd.R (Kd.int .i64) 3 ((((((((((((w.setCell ⟨gz, 0, none⟩ (.int .i64 a0)).setCell ⟨gz, 1, none⟩ (.int .i64 a1)).setCell ⟨gz, 2, none⟩ (.int .i64 a2)).setCell ⟨gz, 3, none⟩ (.int .i64 a3)).setCell ⟨gz, 4, none⟩ (.int .i64 a4)).setCell ⟨gz, 5, none⟩ (.int .i64 a5)).setCell ⟨gz, 6, none⟩ (.int .i64 a6)).setCell ⟨gz, 7, none⟩ (.int .i64 a7)).setCell ⟨gz, 8, none⟩ (.int .i64 a8)).setCell ⟨gz, 9, none⟩ (.bool a9)).setCell ⟨gz, 10, none⟩ (.int .i64 a10)).drew) w0.heap.size (fun _ => True) v xs ∧ Below w0.heap.size w0 ((((((((((((w.setCell ⟨gz, 0, none⟩ (.int .i64 a0)).setCell ⟨gz, 1, none⟩ (.int .i64 a1)).setCell ⟨gz, 2, none⟩ (.int .i64 a2)).setCell ⟨gz, 3, none⟩ (.int .i64 a3)).setCell ⟨gz, 4, none⟩ (.int .i64 a4)).setCell ⟨gz, 5, none⟩ (.int .i64 a5)).setCell ⟨gz, 6, none⟩ (.int .i64 a6)).setCell ⟨gz, 7, none⟩ (.int .i64 a7)).setCell ⟨gz, 8, none⟩ (.int .i64 a8)).setCell ⟨gz, 9, none⟩ (.bool a9)).setCell ⟨gz, 10, none⟩ (.int .i64 a10)).drew) :=
 ⟨blk_drew (blk_put (cs' := #[.int .i64 a0, .int .i64 a1, .int .i64 a2, .int .i64 a3, .int .i64 a4, .int .i64 a5, .int .i64 a6, .int .i64 a7, .int .i64 a8, .bool a9, .int .i64 a10]) (blk_put (cs' := #[.int .i64 a0, .int .i64 a1, .int .i64 a2, .int .i64 a3, .int .i64 a4, .int .i64 a5, .int .i64 a6, .int .i64 a7, .int .i64 a8, .bool a9, .int .i64 0]) (blk_put (cs' := #[.int .i64 a0, .int .i64 a1, .int .i64 a2, .int .i64 a3, .int .i64 a4, .int .i64 a5, .int .i64 a6, .int .i64 a7, .int .i64 a8, .bool false, .int .i64 0]) (blk_put (cs' := #[.int .i64 a0, .int .i64 a1, .int .i64 a2, .int .i64 a3, .int .i64 a4, .int .i64 a5, .int .i64 a6, .int .i64 a7, .int .i64 0, .bool false, .int .i64 0]) (blk_put (cs' := #[.int .i64 a0, .int .i64 a1, .int .i64 a2, .int .i64 a3, .int .i64 a4, .int .i64 a5, .int .i64 a6, .int .i64 0, .int .i64 0, .bool false, .int .i64 0]) (blk_put (cs' := #[.int .i64 a0, .int .i64 a1, .int .i64 a2, .int .i64 a3, .int .i64 a4, .int .i64 a5, .int .i64 0, .int .i64 0, .int .i64 0, .bool false, .int .i64 0]) (blk_put (cs' := #[.int .i64 a0, .int .i64 a1, .int .i64 a2, .int .i64 a3, .int .i64 a4, .int .i64 0, .int .i64 0, .int .i64 0, .int .i64 0, .bool false, .int .i64 0]) (blk_put (cs' := #[.int .i64 a0, .int .i64 a1, .int .i64 a2, .int .i64 a3, .int .i64 0, .int .i64 0, .int .i64 0, .int .i64 0, .int .i64 0, .bool false, .int .i64 0]) (blk_put (cs' := #[.int .i64 a0, .int .i64 a1, .int .i64 a2, .int .i64 0, .int .i64 0, .int .i64 0, .int .i64 0, .int .i64 0, .int .i64 0, .bool false, .int .i64 0]) (blk_put (cs' := #[.int .i64 a0, .int .i64 a1, .int .i64 0, .int .i64 0, .int .i64 0, .int .i64 0, .int .i64 0, .int .i64 0, .int .i64 0, .bool false, .int .i64 0]) (blk_put (cs' := #[.int .i64 a0, .int .i64 0, .int .i64 0, .int .i64 0, .int .i64 0, .int .i64 0, .int .i64 0, .int .i64 0, .int .i64 0, .bool false, .int .i64 0]) b 0 _ rfl) 1 _ rfl) 2 _ rfl) 3 _ rfl) 4 _ rfl) 5 _ rfl) 6 _ rfl) 7 _ rfl) 8 _ rfl) 9 _ rfl) 10 _ rfl), Kd.R_drew (Kd.R_mono (Kd.R_far (p := ⟨gz, 10, none⟩) (Kd.R_far (p := ⟨gz, 9, none⟩) (Kd.R_far (p := ⟨gz, 8, none⟩) (Kd.R_far (p := ⟨gz, 7, none⟩) (Kd.R_far (p := ⟨gz, 6, none⟩) (Kd.R_far (p := ⟨gz, 5, none⟩) (Kd.R_far (p := ⟨gz, 4, none⟩) (Kd.R_far (p := ⟨gz, 3, none⟩) (Kd.R_far (p := ⟨gz, 2, none⟩) (Kd.R_far (p := ⟨gz, 1, none⟩) (Kd.R_far (p := ⟨gz, 0, none⟩) (Kd.R_types hr b (by decide)) (fun _ hk => hk.2) _) (fun _ hk => hk.2) _) (fun _ hk => hk.2) _) (fun _ hk => hk.2) _) (fun _ hk => hk.2) _) (fun _ hk => hk.2) _) (fun _ hk => hk.2) _) (fun _ hk => hk.2) _) (fun _ hk => hk.2) _) (fun _ hk => hk.2) _) (fun _ hk => hk.2) _) (fun _ _ => trivial)), below_drew1 (below_set (below_set (below_set (below_set (below_set (below_set (below_set (below_set (below_set (below_set (below_set hb hg) hg) hg) hg) hg) hg) hg) hg) hg) hg) hg)⟩
set_option maxHeartbeats 8000000 in
set_option maxRecDepth 100000 in
theorem impl_StepTask.calls (k : Nat) (A0 : Option Addr) (c0 : Nat) (l0 : List Int) (a1_0 : Int) (a1_1 : Int) (a1_2 : Int) (a1_3 : Int) (a1_4 : Int) (a1_5 : Int) (a1_6 : Int) (a1_7 : Int) (a1_8 : Int) (a1_9 : Bool) (a1_10 : Int) (r1 : List Int) (r2 : Int) (r3 : Int) (r4 : Int) (r5 : Int) (r6 : Int) (r7 : Int) (r8 : Int) (r9 : Int) (r10 : Int) (r11 : Bool) (r12 : Int) (w : World) (hr0 : Kd.C (Kd.int .i64) w A0 l0.length l0) (hc0 : l0.length ≤ c0) (h : impl_StepTask.f k l0 a1_0 a1_1 a1_2 a1_3 a1_4 a1_5 a1_6 a1_7 a1_8 a1_9 a1_10 = some (r1, r2, r3, r4, r5, r6, r7, r8, r9, r10, r11, r12)) :
  Calls Try.prog 39 #[.slice A0 l0.length c0, .agg #[.int .i64 a1_0, .int .i64 a1_1, .int .i64 a1_2, .int .i64 a1_3, .int .i64 a1_4, .int .i64 a1_5, .int .i64 a1_6, .int .i64 a1_7, .int .i64 a1_8, .bool a1_9, .int .i64 a1_10]] w fun e w' => ∃ v0_ : Value, e = .returned (.tuple #[v0_, .agg #[.int .i64 r2, .int .i64 r3, .int .i64 r4, .int .i64 r5, .int .i64 r6, .int .i64 r7, .int .i64 r8, .int .i64 r9, .int .i64 r10, .bool r11, .int .i64 r12]]) ∧ Kd.R (Kd.int .i64) 3 w' w.heap.size (fun _ => True) v0_ r1 ∧ Below w.heap.size w w' := by
 have hu46 := Try.underlying46
 have HR0 := Aside0.mk hr0
 have HC0 := Aside0.mk hc0
 clear hr0 hc0
 have HB := Aside0.mk (Below.refl w.heap.size w)
 have H : ((impl_copyInts.f l0).bind fun t324 => (if a1_9 = true then (some (t324, a1_0, a1_1, a1_2, a1_3, a1_4, a1_5, a1_6, a1_7, a1_8, a1_9, a1_10)) else ((impl_TaskOk.f k a1_0 a1_1 a1_2 a1_3 a1_4 a1_5 a1_6 a1_7 a1_8 a1_9 a1_10).bind fun t327 => (if t327 = true then (if (l0.length : Int) = 63 then ((impl_CellsOk.f k l0).bind fun t328 => (if t328 = true then ((impl_Task_step.f k a1_0 a1_1 a1_2 a1_3 a1_4 a1_5 a1_6 a1_7 a1_8 a1_9 a1_10 t324).bind fun bt329 => (some (bt329.2.2.2.2.2.2.2.2.2.2.2, bt329.1, bt329.2.1, bt329.2.2.1, bt329.2.2.2.1, bt329.2.2.2.2.1, bt329.2.2.2.2.2.1, bt329.2.2.2.2.2.2.1, bt329.2.2.2.2.2.2.2.1, bt329.2.2.2.2.2.2.2.2.1, bt329.2.2.2.2.2.2.2.2.2.1, bt329.2.2.2.2.2.2.2.2.2.2.1))) else (some (t324, a1_0, a1_1, a1_2, a1_3, a1_4, a1_5, a1_6, a1_7, a1_8, a1_9, a1_10)))) else (some (t324, a1_0, a1_1, a1_2, a1_3, a1_4, a1_5, a1_6, a1_7, a1_8, a1_9, a1_10))) else (some (t324, a1_0, a1_1, a1_2, a1_3, a1_4, a1_5, a1_6, a1_7, a1_8, a1_9, a1_10)))))) = some (r1, r2, r3, r4, r5, r6, r7, r8, r9, r10, r11, r12) := h
 clear h
 obtain ⟨y, A1, H⟩ := Option.bind_eq_some_iff.1 H
 replace A1 := Aside0.mk A1
 cases a1_9 with
 | true =>
  rw [if_pos rfl] at H; have H' := Aside0.mk (Option.some.inj H); clear H
  go_enter Try.func39, Try.ntmps39
  go_wp2_with (first | ((with_reducible refine gate_dst (N := 3) rfl ?_); refine bE 3 #[.int .i64 a1_0, .int .i64 a1_1, .int .i64 a1_2, .int .i64 a1_3, .int .i64 a1_4, .int .i64 a1_5, .int .i64 a1_6, .int .i64 a1_7, .int .i64 a1_8, .bool true, .int .i64 a1_10] 46 ?_; intro gb hg w1 hbox hb; have BK1 := Aside0.mk hbox; have HB1 := Aside0.mk hb; have GB : Aside0 (w.heap.size ≤ gb) := ⟨Nat.le_of_eq hg.symm⟩; clear hbox hb hg) | ((with_reducible refine gate_dst (N := 5) rfl ?_); refine bE 5 #[.int .i64 0, .int .i64 0, .int .i64 0, .int .i64 0, .int .i64 0, .int .i64 0, .int .i64 0, .int .i64 0, .int .i64 0, .bool false, .int .i64 0] 46 ?_; intro gz hg w2 hbox hb; have BZ2 := Aside0.mk hbox; have NE := NL BK1.out hg; have BK2 := BB BK1.out hb; have HB2 := Aside0.mk (below_then HB1.out HB1.out.size hb); have GZ : Aside0 (w.heap.size ≤ gz) := ⟨by have := HB1.out.size; omega⟩; clear hbox hb hg) | (go_at_call 51; refine (impl_copyInts.calls A0 c0 l0 y w2 (Kd.C_below HR0.out HB2.out) HC0.out A1.out).mono ?_; rintro e w3 ⟨v0, rfl, hr, hb⟩; have HO3 := Aside0.mk (Kd.R_lower hr (show w.heap.size ≤ w2.heap.size from HB2.out.size)); have BK3 := BB BK2.out hb; have BZ3 := BB BZ2.out hb; have HB3 := Aside0.mk (below_then HB2.out HB2.out.size hb); have x0 : w3.cell? ⟨gb, 0, none⟩ = some (.int .i64 a1_0) := CZ BK3.out 0; have x1 : w3.cell? ⟨gb, 1, none⟩ = some (.int .i64 a1_1) := CZ BK3.out 1; have x2 : w3.cell? ⟨gb, 2, none⟩ = some (.int .i64 a1_2) := CZ BK3.out 2; have x3 : w3.cell? ⟨gb, 3, none⟩ = some (.int .i64 a1_3) := CZ BK3.out 3; have x4 : w3.cell? ⟨gb, 4, none⟩ = some (.int .i64 a1_4) := CZ BK3.out 4; have x5 : w3.cell? ⟨gb, 5, none⟩ = some (.int .i64 a1_5) := CZ BK3.out 5; have x6 : w3.cell? ⟨gb, 6, none⟩ = some (.int .i64 a1_6) := CZ BK3.out 6; have x7 : w3.cell? ⟨gb, 7, none⟩ = some (.int .i64 a1_7) := CZ BK3.out 7; have x8 : w3.cell? ⟨gb, 8, none⟩ = some (.int .i64 a1_8) := CZ BK3.out 8; have x9 : w3.cell? ⟨gb, 9, none⟩ = some (.bool true) := CZ BK3.out 9; have x10 : w3.cell? ⟨gb, 10, none⟩ = some (.int .i64 a1_10) := CZ BK3.out 10; clear hr hb))
  have z0 : w3.cell? ⟨gz, 0, none⟩ = some (.int .i64 0) := CZ BZ3.out 0; have z1 : w3.cell? ⟨gz, 1, none⟩ = some (.int .i64 0) := CZ BZ3.out 1; have z2 : w3.cell? ⟨gz, 2, none⟩ = some (.int .i64 0) := CZ BZ3.out 2; have z3 : w3.cell? ⟨gz, 3, none⟩ = some (.int .i64 0) := CZ BZ3.out 3; have z4 : w3.cell? ⟨gz, 4, none⟩ = some (.int .i64 0) := CZ BZ3.out 4; have z5 : w3.cell? ⟨gz, 5, none⟩ = some (.int .i64 0) := CZ BZ3.out 5; have z6 : w3.cell? ⟨gz, 6, none⟩ = some (.int .i64 0) := CZ BZ3.out 6; have z7 : w3.cell? ⟨gz, 7, none⟩ = some (.int .i64 0) := CZ BZ3.out 7; have z8 : w3.cell? ⟨gz, 8, none⟩ = some (.int .i64 0) := CZ BZ3.out 8; have z9 : w3.cell? ⟨gz, 9, none⟩ = some (.bool false) := CZ BZ3.out 9; have z10 : w3.cell? ⟨gz, 10, none⟩ = some (.int .i64 0) := CZ BZ3.out 10
  have hne2 : gz ≠ gb := fun e => NE.out e.symm
  have fz0 := blk_frozen BZ3.out 0; have fz1 := blk_frozen BZ3.out 1; have fz2 := blk_frozen BZ3.out 2; have fz3 := blk_frozen BZ3.out 3; have fz4 := blk_frozen BZ3.out 4; have fz5 := blk_frozen BZ3.out 5; have fz6 := blk_frozen BZ3.out 6; have fz7 := blk_frozen BZ3.out 7; have fz8 := blk_frozen BZ3.out 8; have fz9 := blk_frozen BZ3.out 9; have fz10 := blk_frozen BZ3.out 10; have FI := Aside0.mk (impl_StepTask.fin (a1_0) (a1_1) (a1_2) (a1_3) (a1_4) (a1_5) (a1_6) (a1_7) (a1_8) (true) (a1_10) BZ3.out HB3.out GZ.out HO3.out)
  go_region
  go_wp2
  refine bodyPost_ret (results_tc rfl _ _ gz 46 #[.int .i64 a1_0, .int .i64 a1_1, .int .i64 a1_2, .int .i64 a1_3, .int .i64 a1_4, .int .i64 a1_5, .int .i64 a1_6, .int .i64 a1_7, .int .i64 a1_8, .bool true, .int .i64 a1_10] (0, 0) _ rfl FI.out.1 Try.underlying46 rfl (by kernel_rfl)) rfl ?_; obtain ⟨_, f2, f3⟩ := FI.out; have H2 := H'.out; cases H2; exact ⟨_, rfl, f2, f3⟩
 | false =>
  rw [if_neg (by decide)] at H; obtain ⟨b, A2, H⟩ := Option.bind_eq_some_iff.1 H; replace A2 := Aside0.mk A2; cases b with
  | false =>
   rw [if_neg (by decide)] at H; have H' := Aside0.mk (Option.some.inj H); clear H
   go_enter Try.func39, Try.ntmps39
   go_wp2_with (first | ((with_reducible refine gate_dst (N := 3) rfl ?_); refine bE 3 #[.int .i64 a1_0, .int .i64 a1_1, .int .i64 a1_2, .int .i64 a1_3, .int .i64 a1_4, .int .i64 a1_5, .int .i64 a1_6, .int .i64 a1_7, .int .i64 a1_8, .bool false, .int .i64 a1_10] 46 ?_; intro gb hg w1 hbox hb; have BK1 := Aside0.mk hbox; have HB1 := Aside0.mk hb; have GB : Aside0 (w.heap.size ≤ gb) := ⟨Nat.le_of_eq hg.symm⟩; clear hbox hb hg) | ((with_reducible refine gate_dst (N := 5) rfl ?_); refine bE 5 #[.int .i64 0, .int .i64 0, .int .i64 0, .int .i64 0, .int .i64 0, .int .i64 0, .int .i64 0, .int .i64 0, .int .i64 0, .bool false, .int .i64 0] 46 ?_; intro gz hg w2 hbox hb; have BZ2 := Aside0.mk hbox; have NE := NL BK1.out hg; have BK2 := BB BK1.out hb; have HB2 := Aside0.mk (below_then HB1.out HB1.out.size hb); have GZ : Aside0 (w.heap.size ≤ gz) := ⟨by have := HB1.out.size; omega⟩; clear hbox hb hg) | (go_at_call 51; refine (impl_copyInts.calls A0 c0 l0 y w2 (Kd.C_below HR0.out HB2.out) HC0.out A1.out).mono ?_; rintro e w3 ⟨v0, rfl, hr, hb⟩; have HO3 := Aside0.mk (Kd.R_lower hr (show w.heap.size ≤ w2.heap.size from HB2.out.size)); have BK3 := BB BK2.out hb; have BZ3 := BB BZ2.out hb; have HB3 := Aside0.mk (below_then HB2.out HB2.out.size hb); have x0 : w3.cell? ⟨gb, 0, none⟩ = some (.int .i64 a1_0) := CZ BK3.out 0; have x1 : w3.cell? ⟨gb, 1, none⟩ = some (.int .i64 a1_1) := CZ BK3.out 1; have x2 : w3.cell? ⟨gb, 2, none⟩ = some (.int .i64 a1_2) := CZ BK3.out 2; have x3 : w3.cell? ⟨gb, 3, none⟩ = some (.int .i64 a1_3) := CZ BK3.out 3; have x4 : w3.cell? ⟨gb, 4, none⟩ = some (.int .i64 a1_4) := CZ BK3.out 4; have x5 : w3.cell? ⟨gb, 5, none⟩ = some (.int .i64 a1_5) := CZ BK3.out 5; have x6 : w3.cell? ⟨gb, 6, none⟩ = some (.int .i64 a1_6) := CZ BK3.out 6; have x7 : w3.cell? ⟨gb, 7, none⟩ = some (.int .i64 a1_7) := CZ BK3.out 7; have x8 : w3.cell? ⟨gb, 8, none⟩ = some (.int .i64 a1_8) := CZ BK3.out 8; have x9 : w3.cell? ⟨gb, 9, none⟩ = some (.bool false) := CZ BK3.out 9; have x10 : w3.cell? ⟨gb, 10, none⟩ = some (.int .i64 a1_10) := CZ BK3.out 10; clear hr hb) | (go_at_call 44; refine (impl_TaskOk.calls k a1_0 a1_1 a1_2 a1_3 a1_4 a1_5 a1_6 a1_7 a1_8 false a1_10 false w3 A2.out).mono ?_; rintro e w4 ⟨rfl, hb⟩; have HO4 := Aside0.mk (Kd.R_below HO3.out hb); have BK4 := BB BK3.out hb; have BZ4 := BB BZ3.out hb; have HB4 := Aside0.mk (below_then HB3.out HB3.out.size hb); have d0 : w4.cell? ⟨gb, 0, none⟩ = some (.int .i64 a1_0) := CZ BK4.out 0; have d1 : w4.cell? ⟨gb, 1, none⟩ = some (.int .i64 a1_1) := CZ BK4.out 1; have d2 : w4.cell? ⟨gb, 2, none⟩ = some (.int .i64 a1_2) := CZ BK4.out 2; have d3 : w4.cell? ⟨gb, 3, none⟩ = some (.int .i64 a1_3) := CZ BK4.out 3; have d4 : w4.cell? ⟨gb, 4, none⟩ = some (.int .i64 a1_4) := CZ BK4.out 4; have d5 : w4.cell? ⟨gb, 5, none⟩ = some (.int .i64 a1_5) := CZ BK4.out 5; have d6 : w4.cell? ⟨gb, 6, none⟩ = some (.int .i64 a1_6) := CZ BK4.out 6; have d7 : w4.cell? ⟨gb, 7, none⟩ = some (.int .i64 a1_7) := CZ BK4.out 7; have d8 : w4.cell? ⟨gb, 8, none⟩ = some (.int .i64 a1_8) := CZ BK4.out 8; have d9 : w4.cell? ⟨gb, 9, none⟩ = some (.bool false) := CZ BK4.out 9; have d10 : w4.cell? ⟨gb, 10, none⟩ = some (.int .i64 a1_10) := CZ BK4.out 10; clear hb))
   have z0 : w4.cell? ⟨gz, 0, none⟩ = some (.int .i64 0) := CZ BZ4.out 0; have z1 : w4.cell? ⟨gz, 1, none⟩ = some (.int .i64 0) := CZ BZ4.out 1; have z2 : w4.cell? ⟨gz, 2, none⟩ = some (.int .i64 0) := CZ BZ4.out 2; have z3 : w4.cell? ⟨gz, 3, none⟩ = some (.int .i64 0) := CZ BZ4.out 3; have z4 : w4.cell? ⟨gz, 4, none⟩ = some (.int .i64 0) := CZ BZ4.out 4; have z5 : w4.cell? ⟨gz, 5, none⟩ = some (.int .i64 0) := CZ BZ4.out 5; have z6 : w4.cell? ⟨gz, 6, none⟩ = some (.int .i64 0) := CZ BZ4.out 6; have z7 : w4.cell? ⟨gz, 7, none⟩ = some (.int .i64 0) := CZ BZ4.out 7; have z8 : w4.cell? ⟨gz, 8, none⟩ = some (.int .i64 0) := CZ BZ4.out 8; have z9 : w4.cell? ⟨gz, 9, none⟩ = some (.bool false) := CZ BZ4.out 9; have z10 : w4.cell? ⟨gz, 10, none⟩ = some (.int .i64 0) := CZ BZ4.out 10
   have hne2 : gz ≠ gb := fun e => NE.out e.symm
   have fz0 := blk_frozen BZ4.out 0; have fz1 := blk_frozen BZ4.out 1; have fz2 := blk_frozen BZ4.out 2; have fz3 := blk_frozen BZ4.out 3; have fz4 := blk_frozen BZ4.out 4; have fz5 := blk_frozen BZ4.out 5; have fz6 := blk_frozen BZ4.out 6; have fz7 := blk_frozen BZ4.out 7; have fz8 := blk_frozen BZ4.out 8; have fz9 := blk_frozen BZ4.out 9; have fz10 := blk_frozen BZ4.out 10; have FI := Aside0.mk (impl_StepTask.fin (a1_0) (a1_1) (a1_2) (a1_3) (a1_4) (a1_5) (a1_6) (a1_7) (a1_8) (false) (a1_10) BZ4.out HB4.out GZ.out HO4.out)
   go_region
   go_wp2
   refine bodyPost_ret (results_tc rfl _ _ gz 46 #[.int .i64 a1_0, .int .i64 a1_1, .int .i64 a1_2, .int .i64 a1_3, .int .i64 a1_4, .int .i64 a1_5, .int .i64 a1_6, .int .i64 a1_7, .int .i64 a1_8, .bool false, .int .i64 a1_10] (0, 0) _ rfl FI.out.1 Try.underlying46 rfl (by kernel_rfl)) rfl ?_; obtain ⟨_, f2, f3⟩ := FI.out; have H2 := H'.out; cases H2; exact ⟨_, rfl, f2, f3⟩
  | true =>
   rw [if_pos rfl] at H
   by_cases hn : (l0.length : Int) = 63
   rotate_left
   ·
    rw [if_neg hn] at H; have hn0 : ((l0.length : Int) == 63) = false := beq_eq_false_iff_ne.mpr hn; have hn1 : ((l0.length : Int) != 63) = true := bne_iff_ne.mpr hn; have H' := Aside0.mk (Option.some.inj H); clear H
    go_enter Try.func39, Try.ntmps39
    go_wp2_with (first | ((with_reducible refine gate_dst (N := 3) rfl ?_); refine bE 3 #[.int .i64 a1_0, .int .i64 a1_1, .int .i64 a1_2, .int .i64 a1_3, .int .i64 a1_4, .int .i64 a1_5, .int .i64 a1_6, .int .i64 a1_7, .int .i64 a1_8, .bool false, .int .i64 a1_10] 46 ?_; intro gb hg w1 hbox hb; have BK1 := Aside0.mk hbox; have HB1 := Aside0.mk hb; have GB : Aside0 (w.heap.size ≤ gb) := ⟨Nat.le_of_eq hg.symm⟩; clear hbox hb hg) | ((with_reducible refine gate_dst (N := 5) rfl ?_); refine bE 5 #[.int .i64 0, .int .i64 0, .int .i64 0, .int .i64 0, .int .i64 0, .int .i64 0, .int .i64 0, .int .i64 0, .int .i64 0, .bool false, .int .i64 0] 46 ?_; intro gz hg w2 hbox hb; have BZ2 := Aside0.mk hbox; have NE := NL BK1.out hg; have BK2 := BB BK1.out hb; have HB2 := Aside0.mk (below_then HB1.out HB1.out.size hb); have GZ : Aside0 (w.heap.size ≤ gz) := ⟨by have := HB1.out.size; omega⟩; clear hbox hb hg) | (go_at_call 51; refine (impl_copyInts.calls A0 c0 l0 y w2 (Kd.C_below HR0.out HB2.out) HC0.out A1.out).mono ?_; rintro e w3 ⟨v0, rfl, hr, hb⟩; have HO3 := Aside0.mk (Kd.R_lower hr (show w.heap.size ≤ w2.heap.size from HB2.out.size)); have BK3 := BB BK2.out hb; have BZ3 := BB BZ2.out hb; have HB3 := Aside0.mk (below_then HB2.out HB2.out.size hb); have x0 : w3.cell? ⟨gb, 0, none⟩ = some (.int .i64 a1_0) := CZ BK3.out 0; have x1 : w3.cell? ⟨gb, 1, none⟩ = some (.int .i64 a1_1) := CZ BK3.out 1; have x2 : w3.cell? ⟨gb, 2, none⟩ = some (.int .i64 a1_2) := CZ BK3.out 2; have x3 : w3.cell? ⟨gb, 3, none⟩ = some (.int .i64 a1_3) := CZ BK3.out 3; have x4 : w3.cell? ⟨gb, 4, none⟩ = some (.int .i64 a1_4) := CZ BK3.out 4; have x5 : w3.cell? ⟨gb, 5, none⟩ = some (.int .i64 a1_5) := CZ BK3.out 5; have x6 : w3.cell? ⟨gb, 6, none⟩ = some (.int .i64 a1_6) := CZ BK3.out 6; have x7 : w3.cell? ⟨gb, 7, none⟩ = some (.int .i64 a1_7) := CZ BK3.out 7; have x8 : w3.cell? ⟨gb, 8, none⟩ = some (.int .i64 a1_8) := CZ BK3.out 8; have x9 : w3.cell? ⟨gb, 9, none⟩ = some (.bool false) := CZ BK3.out 9; have x10 : w3.cell? ⟨gb, 10, none⟩ = some (.int .i64 a1_10) := CZ BK3.out 10; clear hr hb) | (go_at_call 44; refine (impl_TaskOk.calls k a1_0 a1_1 a1_2 a1_3 a1_4 a1_5 a1_6 a1_7 a1_8 false a1_10 true w3 A2.out).mono ?_; rintro e w4 ⟨rfl, hb⟩; have HO4 := Aside0.mk (Kd.R_below HO3.out hb); have BK4 := BB BK3.out hb; have BZ4 := BB BZ3.out hb; have HB4 := Aside0.mk (below_then HB3.out HB3.out.size hb); have d0 : w4.cell? ⟨gb, 0, none⟩ = some (.int .i64 a1_0) := CZ BK4.out 0; have d1 : w4.cell? ⟨gb, 1, none⟩ = some (.int .i64 a1_1) := CZ BK4.out 1; have d2 : w4.cell? ⟨gb, 2, none⟩ = some (.int .i64 a1_2) := CZ BK4.out 2; have d3 : w4.cell? ⟨gb, 3, none⟩ = some (.int .i64 a1_3) := CZ BK4.out 3; have d4 : w4.cell? ⟨gb, 4, none⟩ = some (.int .i64 a1_4) := CZ BK4.out 4; have d5 : w4.cell? ⟨gb, 5, none⟩ = some (.int .i64 a1_5) := CZ BK4.out 5; have d6 : w4.cell? ⟨gb, 6, none⟩ = some (.int .i64 a1_6) := CZ BK4.out 6; have d7 : w4.cell? ⟨gb, 7, none⟩ = some (.int .i64 a1_7) := CZ BK4.out 7; have d8 : w4.cell? ⟨gb, 8, none⟩ = some (.int .i64 a1_8) := CZ BK4.out 8; have d9 : w4.cell? ⟨gb, 9, none⟩ = some (.bool false) := CZ BK4.out 9; have d10 : w4.cell? ⟨gb, 10, none⟩ = some (.int .i64 a1_10) := CZ BK4.out 10; clear hb))
    have z0 : w4.cell? ⟨gz, 0, none⟩ = some (.int .i64 0) := CZ BZ4.out 0; have z1 : w4.cell? ⟨gz, 1, none⟩ = some (.int .i64 0) := CZ BZ4.out 1; have z2 : w4.cell? ⟨gz, 2, none⟩ = some (.int .i64 0) := CZ BZ4.out 2; have z3 : w4.cell? ⟨gz, 3, none⟩ = some (.int .i64 0) := CZ BZ4.out 3; have z4 : w4.cell? ⟨gz, 4, none⟩ = some (.int .i64 0) := CZ BZ4.out 4; have z5 : w4.cell? ⟨gz, 5, none⟩ = some (.int .i64 0) := CZ BZ4.out 5; have z6 : w4.cell? ⟨gz, 6, none⟩ = some (.int .i64 0) := CZ BZ4.out 6; have z7 : w4.cell? ⟨gz, 7, none⟩ = some (.int .i64 0) := CZ BZ4.out 7; have z8 : w4.cell? ⟨gz, 8, none⟩ = some (.int .i64 0) := CZ BZ4.out 8; have z9 : w4.cell? ⟨gz, 9, none⟩ = some (.bool false) := CZ BZ4.out 9; have z10 : w4.cell? ⟨gz, 10, none⟩ = some (.int .i64 0) := CZ BZ4.out 10
    have hne2 : gz ≠ gb := fun e => NE.out e.symm
    have fz0 := blk_frozen BZ4.out 0; have fz1 := blk_frozen BZ4.out 1; have fz2 := blk_frozen BZ4.out 2; have fz3 := blk_frozen BZ4.out 3; have fz4 := blk_frozen BZ4.out 4; have fz5 := blk_frozen BZ4.out 5; have fz6 := blk_frozen BZ4.out 6; have fz7 := blk_frozen BZ4.out 7; have fz8 := blk_frozen BZ4.out 8; have fz9 := blk_frozen BZ4.out 9; have fz10 := blk_frozen BZ4.out 10; have FI := Aside0.mk (impl_StepTask.fin (a1_0) (a1_1) (a1_2) (a1_3) (a1_4) (a1_5) (a1_6) (a1_7) (a1_8) (false) (a1_10) BZ4.out HB4.out GZ.out HO4.out)
    go_region
    go_wp2
    refine bodyPost_ret (results_tc rfl _ _ gz 46 #[.int .i64 a1_0, .int .i64 a1_1, .int .i64 a1_2, .int .i64 a1_3, .int .i64 a1_4, .int .i64 a1_5, .int .i64 a1_6, .int .i64 a1_7, .int .i64 a1_8, .bool false, .int .i64 a1_10] (0, 0) _ rfl FI.out.1 Try.underlying46 rfl (by kernel_rfl)) rfl ?_; obtain ⟨_, f2, f3⟩ := FI.out; have H2 := H'.out; cases H2; exact ⟨_, rfl, f2, f3⟩
   rw [if_pos hn] at H; have hn0 : ((l0.length : Int) == 63) = true := beq_iff_eq.mpr hn; have hn1 : ((l0.length : Int) != 63) = false := bne_eq_false_iff_eq.mpr hn; obtain ⟨b, A3, H⟩ := Option.bind_eq_some_iff.1 H; replace A3 := Aside0.mk A3; cases b with
   | false =>
    rw [if_neg (by decide)] at H; have H' := Aside0.mk (Option.some.inj H); clear H
    go_enter Try.func39, Try.ntmps39
    go_wp2_with (first | ((with_reducible refine gate_dst (N := 3) rfl ?_); refine bE 3 #[.int .i64 a1_0, .int .i64 a1_1, .int .i64 a1_2, .int .i64 a1_3, .int .i64 a1_4, .int .i64 a1_5, .int .i64 a1_6, .int .i64 a1_7, .int .i64 a1_8, .bool false, .int .i64 a1_10] 46 ?_; intro gb hg w1 hbox hb; have BK1 := Aside0.mk hbox; have HB1 := Aside0.mk hb; have GB : Aside0 (w.heap.size ≤ gb) := ⟨Nat.le_of_eq hg.symm⟩; clear hbox hb hg) | ((with_reducible refine gate_dst (N := 5) rfl ?_); refine bE 5 #[.int .i64 0, .int .i64 0, .int .i64 0, .int .i64 0, .int .i64 0, .int .i64 0, .int .i64 0, .int .i64 0, .int .i64 0, .bool false, .int .i64 0] 46 ?_; intro gz hg w2 hbox hb; have BZ2 := Aside0.mk hbox; have NE := NL BK1.out hg; have BK2 := BB BK1.out hb; have HB2 := Aside0.mk (below_then HB1.out HB1.out.size hb); have GZ : Aside0 (w.heap.size ≤ gz) := ⟨by have := HB1.out.size; omega⟩; clear hbox hb hg) | (go_at_call 51; refine (impl_copyInts.calls A0 c0 l0 y w2 (Kd.C_below HR0.out HB2.out) HC0.out A1.out).mono ?_; rintro e w3 ⟨v0, rfl, hr, hb⟩; have HO3 := Aside0.mk (Kd.R_lower hr (show w.heap.size ≤ w2.heap.size from HB2.out.size)); have BK3 := BB BK2.out hb; have BZ3 := BB BZ2.out hb; have HB3 := Aside0.mk (below_then HB2.out HB2.out.size hb); have x0 : w3.cell? ⟨gb, 0, none⟩ = some (.int .i64 a1_0) := CZ BK3.out 0; have x1 : w3.cell? ⟨gb, 1, none⟩ = some (.int .i64 a1_1) := CZ BK3.out 1; have x2 : w3.cell? ⟨gb, 2, none⟩ = some (.int .i64 a1_2) := CZ BK3.out 2; have x3 : w3.cell? ⟨gb, 3, none⟩ = some (.int .i64 a1_3) := CZ BK3.out 3; have x4 : w3.cell? ⟨gb, 4, none⟩ = some (.int .i64 a1_4) := CZ BK3.out 4; have x5 : w3.cell? ⟨gb, 5, none⟩ = some (.int .i64 a1_5) := CZ BK3.out 5; have x6 : w3.cell? ⟨gb, 6, none⟩ = some (.int .i64 a1_6) := CZ BK3.out 6; have x7 : w3.cell? ⟨gb, 7, none⟩ = some (.int .i64 a1_7) := CZ BK3.out 7; have x8 : w3.cell? ⟨gb, 8, none⟩ = some (.int .i64 a1_8) := CZ BK3.out 8; have x9 : w3.cell? ⟨gb, 9, none⟩ = some (.bool false) := CZ BK3.out 9; have x10 : w3.cell? ⟨gb, 10, none⟩ = some (.int .i64 a1_10) := CZ BK3.out 10; clear hr hb) | (go_at_call 44; refine (impl_TaskOk.calls k a1_0 a1_1 a1_2 a1_3 a1_4 a1_5 a1_6 a1_7 a1_8 false a1_10 true w3 A2.out).mono ?_; rintro e w4 ⟨rfl, hb⟩; have HO4 := Aside0.mk (Kd.R_below HO3.out hb); have BK4 := BB BK3.out hb; have BZ4 := BB BZ3.out hb; have HB4 := Aside0.mk (below_then HB3.out HB3.out.size hb); have d0 : w4.cell? ⟨gb, 0, none⟩ = some (.int .i64 a1_0) := CZ BK4.out 0; have d1 : w4.cell? ⟨gb, 1, none⟩ = some (.int .i64 a1_1) := CZ BK4.out 1; have d2 : w4.cell? ⟨gb, 2, none⟩ = some (.int .i64 a1_2) := CZ BK4.out 2; have d3 : w4.cell? ⟨gb, 3, none⟩ = some (.int .i64 a1_3) := CZ BK4.out 3; have d4 : w4.cell? ⟨gb, 4, none⟩ = some (.int .i64 a1_4) := CZ BK4.out 4; have d5 : w4.cell? ⟨gb, 5, none⟩ = some (.int .i64 a1_5) := CZ BK4.out 5; have d6 : w4.cell? ⟨gb, 6, none⟩ = some (.int .i64 a1_6) := CZ BK4.out 6; have d7 : w4.cell? ⟨gb, 7, none⟩ = some (.int .i64 a1_7) := CZ BK4.out 7; have d8 : w4.cell? ⟨gb, 8, none⟩ = some (.int .i64 a1_8) := CZ BK4.out 8; have d9 : w4.cell? ⟨gb, 9, none⟩ = some (.bool false) := CZ BK4.out 9; have d10 : w4.cell? ⟨gb, 10, none⟩ = some (.int .i64 a1_10) := CZ BK4.out 10; clear hb) | (go_at_call 27; refine (impl_CellsOk.calls k A0 c0 l0 false w4 (Kd.C_below HR0.out HB4.out) HC0.out A3.out).mono ?_; rintro e w5 ⟨rfl, ⟨nd, hb0⟩⟩; have hb : Below w4.heap.size w4 w5 := (by rw [hb0]; exact pw_below_drewN (Below.refl _ _) _); clear hb0; have HO5 := Aside0.mk (Kd.R_below HO4.out hb); have BK5 := BB BK4.out hb; have BZ5 := BB BZ4.out hb; have HB5 := Aside0.mk (below_then HB4.out HB4.out.size hb); have e0 : w5.cell? ⟨gb, 0, none⟩ = some (.int .i64 a1_0) := CZ BK5.out 0; have e1 : w5.cell? ⟨gb, 1, none⟩ = some (.int .i64 a1_1) := CZ BK5.out 1; have e2 : w5.cell? ⟨gb, 2, none⟩ = some (.int .i64 a1_2) := CZ BK5.out 2; have e3 : w5.cell? ⟨gb, 3, none⟩ = some (.int .i64 a1_3) := CZ BK5.out 3; have e4 : w5.cell? ⟨gb, 4, none⟩ = some (.int .i64 a1_4) := CZ BK5.out 4; have e5 : w5.cell? ⟨gb, 5, none⟩ = some (.int .i64 a1_5) := CZ BK5.out 5; have e6 : w5.cell? ⟨gb, 6, none⟩ = some (.int .i64 a1_6) := CZ BK5.out 6; have e7 : w5.cell? ⟨gb, 7, none⟩ = some (.int .i64 a1_7) := CZ BK5.out 7; have e8 : w5.cell? ⟨gb, 8, none⟩ = some (.int .i64 a1_8) := CZ BK5.out 8; have e9 : w5.cell? ⟨gb, 9, none⟩ = some (.bool false) := CZ BK5.out 9; have e10 : w5.cell? ⟨gb, 10, none⟩ = some (.int .i64 a1_10) := CZ BK5.out 10; clear hb))
    have z0 : w5.cell? ⟨gz, 0, none⟩ = some (.int .i64 0) := CZ BZ5.out 0; have z1 : w5.cell? ⟨gz, 1, none⟩ = some (.int .i64 0) := CZ BZ5.out 1; have z2 : w5.cell? ⟨gz, 2, none⟩ = some (.int .i64 0) := CZ BZ5.out 2; have z3 : w5.cell? ⟨gz, 3, none⟩ = some (.int .i64 0) := CZ BZ5.out 3; have z4 : w5.cell? ⟨gz, 4, none⟩ = some (.int .i64 0) := CZ BZ5.out 4; have z5 : w5.cell? ⟨gz, 5, none⟩ = some (.int .i64 0) := CZ BZ5.out 5; have z6 : w5.cell? ⟨gz, 6, none⟩ = some (.int .i64 0) := CZ BZ5.out 6; have z7 : w5.cell? ⟨gz, 7, none⟩ = some (.int .i64 0) := CZ BZ5.out 7; have z8 : w5.cell? ⟨gz, 8, none⟩ = some (.int .i64 0) := CZ BZ5.out 8; have z9 : w5.cell? ⟨gz, 9, none⟩ = some (.bool false) := CZ BZ5.out 9; have z10 : w5.cell? ⟨gz, 10, none⟩ = some (.int .i64 0) := CZ BZ5.out 10
    have hne2 : gz ≠ gb := fun e => NE.out e.symm
    have fz0 := blk_frozen BZ5.out 0; have fz1 := blk_frozen BZ5.out 1; have fz2 := blk_frozen BZ5.out 2; have fz3 := blk_frozen BZ5.out 3; have fz4 := blk_frozen BZ5.out 4; have fz5 := blk_frozen BZ5.out 5; have fz6 := blk_frozen BZ5.out 6; have fz7 := blk_frozen BZ5.out 7; have fz8 := blk_frozen BZ5.out 8; have fz9 := blk_frozen BZ5.out 9; have fz10 := blk_frozen BZ5.out 10; have FI := Aside0.mk (impl_StepTask.fin (a1_0) (a1_1) (a1_2) (a1_3) (a1_4) (a1_5) (a1_6) (a1_7) (a1_8) (false) (a1_10) BZ5.out HB5.out GZ.out HO5.out)
    go_region
    go_wp2
    refine bodyPost_ret (results_tc rfl _ _ gz 46 #[.int .i64 a1_0, .int .i64 a1_1, .int .i64 a1_2, .int .i64 a1_3, .int .i64 a1_4, .int .i64 a1_5, .int .i64 a1_6, .int .i64 a1_7, .int .i64 a1_8, .bool false, .int .i64 a1_10] (0, 0) _ rfl FI.out.1 Try.underlying46 rfl (by kernel_rfl)) rfl ?_; obtain ⟨_, f2, f3⟩ := FI.out; have H2 := H'.out; cases H2; exact ⟨_, rfl, f2, f3⟩
   | true =>
    rw [if_pos rfl] at H; obtain ⟨bt, A4, H⟩ := Option.bind_eq_some_iff.1 H; replace A4 := Aside0.mk A4; have H' := Aside0.mk (Option.some.inj H); clear H
    go_enter Try.func39, Try.ntmps39
    go_wp2_with (first | ((with_reducible refine gate_dst (N := 3) rfl ?_); refine bE 3 #[.int .i64 a1_0, .int .i64 a1_1, .int .i64 a1_2, .int .i64 a1_3, .int .i64 a1_4, .int .i64 a1_5, .int .i64 a1_6, .int .i64 a1_7, .int .i64 a1_8, .bool false, .int .i64 a1_10] 46 ?_; intro gb hg w1 hbox hb; have BK1 := Aside0.mk hbox; have HB1 := Aside0.mk hb; have GB : Aside0 (w.heap.size ≤ gb) := ⟨Nat.le_of_eq hg.symm⟩; clear hbox hb hg) | ((with_reducible refine gate_dst (N := 5) rfl ?_); refine bE 5 #[.int .i64 0, .int .i64 0, .int .i64 0, .int .i64 0, .int .i64 0, .int .i64 0, .int .i64 0, .int .i64 0, .int .i64 0, .bool false, .int .i64 0] 46 ?_; intro gz hg w2 hbox hb; have BZ2 := Aside0.mk hbox; have NE := NL BK1.out hg; have BK2 := BB BK1.out hb; have HB2 := Aside0.mk (below_then HB1.out HB1.out.size hb); have GZ : Aside0 (w.heap.size ≤ gz) := ⟨by have := HB1.out.size; omega⟩; clear hbox hb hg) | (go_at_call 51; refine (impl_copyInts.calls A0 c0 l0 y w2 (Kd.C_below HR0.out HB2.out) HC0.out A1.out).mono ?_; rintro e w3 ⟨v0, rfl, hr, hb⟩; have HO3 := Aside0.mk (Kd.R_lower hr (show w.heap.size ≤ w2.heap.size from HB2.out.size)); have BK3 := BB BK2.out hb; have BZ3 := BB BZ2.out hb; have HB3 := Aside0.mk (below_then HB2.out HB2.out.size hb); have x0 : w3.cell? ⟨gb, 0, none⟩ = some (.int .i64 a1_0) := CZ BK3.out 0; have x1 : w3.cell? ⟨gb, 1, none⟩ = some (.int .i64 a1_1) := CZ BK3.out 1; have x2 : w3.cell? ⟨gb, 2, none⟩ = some (.int .i64 a1_2) := CZ BK3.out 2; have x3 : w3.cell? ⟨gb, 3, none⟩ = some (.int .i64 a1_3) := CZ BK3.out 3; have x4 : w3.cell? ⟨gb, 4, none⟩ = some (.int .i64 a1_4) := CZ BK3.out 4; have x5 : w3.cell? ⟨gb, 5, none⟩ = some (.int .i64 a1_5) := CZ BK3.out 5; have x6 : w3.cell? ⟨gb, 6, none⟩ = some (.int .i64 a1_6) := CZ BK3.out 6; have x7 : w3.cell? ⟨gb, 7, none⟩ = some (.int .i64 a1_7) := CZ BK3.out 7; have x8 : w3.cell? ⟨gb, 8, none⟩ = some (.int .i64 a1_8) := CZ BK3.out 8; have x9 : w3.cell? ⟨gb, 9, none⟩ = some (.bool false) := CZ BK3.out 9; have x10 : w3.cell? ⟨gb, 10, none⟩ = some (.int .i64 a1_10) := CZ BK3.out 10; clear hr hb) | (go_at_call 44; refine (impl_TaskOk.calls k a1_0 a1_1 a1_2 a1_3 a1_4 a1_5 a1_6 a1_7 a1_8 false a1_10 true w3 A2.out).mono ?_; rintro e w4 ⟨rfl, hb⟩; have HO4 := Aside0.mk (Kd.R_below HO3.out hb); have BK4 := BB BK3.out hb; have BZ4 := BB BZ3.out hb; have HB4 := Aside0.mk (below_then HB3.out HB3.out.size hb); have d0 : w4.cell? ⟨gb, 0, none⟩ = some (.int .i64 a1_0) := CZ BK4.out 0; have d1 : w4.cell? ⟨gb, 1, none⟩ = some (.int .i64 a1_1) := CZ BK4.out 1; have d2 : w4.cell? ⟨gb, 2, none⟩ = some (.int .i64 a1_2) := CZ BK4.out 2; have d3 : w4.cell? ⟨gb, 3, none⟩ = some (.int .i64 a1_3) := CZ BK4.out 3; have d4 : w4.cell? ⟨gb, 4, none⟩ = some (.int .i64 a1_4) := CZ BK4.out 4; have d5 : w4.cell? ⟨gb, 5, none⟩ = some (.int .i64 a1_5) := CZ BK4.out 5; have d6 : w4.cell? ⟨gb, 6, none⟩ = some (.int .i64 a1_6) := CZ BK4.out 6; have d7 : w4.cell? ⟨gb, 7, none⟩ = some (.int .i64 a1_7) := CZ BK4.out 7; have d8 : w4.cell? ⟨gb, 8, none⟩ = some (.int .i64 a1_8) := CZ BK4.out 8; have d9 : w4.cell? ⟨gb, 9, none⟩ = some (.bool false) := CZ BK4.out 9; have d10 : w4.cell? ⟨gb, 10, none⟩ = some (.int .i64 a1_10) := CZ BK4.out 10; clear hb) | (go_at_call 27; refine (impl_CellsOk.calls k A0 c0 l0 true w4 (Kd.C_below HR0.out HB4.out) HC0.out A3.out).mono ?_; rintro e w5 ⟨rfl, ⟨nd, hb0⟩⟩; have hb : Below w4.heap.size w4 w5 := (by rw [hb0]; exact pw_below_drewN (Below.refl _ _) _); clear hb0; have HO5 := Aside0.mk (Kd.R_below HO4.out hb); have BK5 := BB BK4.out hb; have BZ5 := BB BZ4.out hb; have HB5 := Aside0.mk (below_then HB4.out HB4.out.size hb); have e0 : w5.cell? ⟨gb, 0, none⟩ = some (.int .i64 a1_0) := CZ BK5.out 0; have e1 : w5.cell? ⟨gb, 1, none⟩ = some (.int .i64 a1_1) := CZ BK5.out 1; have e2 : w5.cell? ⟨gb, 2, none⟩ = some (.int .i64 a1_2) := CZ BK5.out 2; have e3 : w5.cell? ⟨gb, 3, none⟩ = some (.int .i64 a1_3) := CZ BK5.out 3; have e4 : w5.cell? ⟨gb, 4, none⟩ = some (.int .i64 a1_4) := CZ BK5.out 4; have e5 : w5.cell? ⟨gb, 5, none⟩ = some (.int .i64 a1_5) := CZ BK5.out 5; have e6 : w5.cell? ⟨gb, 6, none⟩ = some (.int .i64 a1_6) := CZ BK5.out 6; have e7 : w5.cell? ⟨gb, 7, none⟩ = some (.int .i64 a1_7) := CZ BK5.out 7; have e8 : w5.cell? ⟨gb, 8, none⟩ = some (.int .i64 a1_8) := CZ BK5.out 8; have e9 : w5.cell? ⟨gb, 9, none⟩ = some (.bool false) := CZ BK5.out 9; have e10 : w5.cell? ⟨gb, 10, none⟩ = some (.int .i64 a1_10) := CZ BK5.out 10; clear hb) | (go_at_call 69; refine (impl_Task_step.calls k gb a1_0 a1_1 a1_2 a1_3 a1_4 a1_5 a1_6 a1_7 a1_8 false a1_10 (fun k_ => True ∧ k_ ≠ gz) v0 y bt.1 bt.2.1 bt.2.2.1 bt.2.2.2.1 bt.2.2.2.2.1 bt.2.2.2.2.2.1 bt.2.2.2.2.2.2.1 bt.2.2.2.2.2.2.2.1 bt.2.2.2.2.2.2.2.2.1 bt.2.2.2.2.2.2.2.2.2.1 bt.2.2.2.2.2.2.2.2.2.2.1 bt.2.2.2.2.2.2.2.2.2.2.2 w w5 ⟨BK5.out, GB.out⟩ HB5.out (Kd.R_types HO5.out BZ5.out (by decide)) A4.out).mono ?_; rintro e w6 ⟨rfl, hi, hr, hb, hk⟩; have HO6 := Aside0.mk hr; have BK6 := Aside0.mk hi.1; have BZ6 := Aside0.mk (blk_kept BZ5.out hk (by rintro (h_ | h_); exact h_.2 rfl; exact NE.out h_.symm)); have HB6 := Aside0.mk hb; have f0 : w6.cell? ⟨gb, 0, none⟩ = some (.int .i64 bt.1) := CZ BK6.out 0; have f1 : w6.cell? ⟨gb, 1, none⟩ = some (.int .i64 bt.2.1) := CZ BK6.out 1; have f2 : w6.cell? ⟨gb, 2, none⟩ = some (.int .i64 bt.2.2.1) := CZ BK6.out 2; have f3 : w6.cell? ⟨gb, 3, none⟩ = some (.int .i64 bt.2.2.2.1) := CZ BK6.out 3; have f4 : w6.cell? ⟨gb, 4, none⟩ = some (.int .i64 bt.2.2.2.2.1) := CZ BK6.out 4; have f5 : w6.cell? ⟨gb, 5, none⟩ = some (.int .i64 bt.2.2.2.2.2.1) := CZ BK6.out 5; have f6 : w6.cell? ⟨gb, 6, none⟩ = some (.int .i64 bt.2.2.2.2.2.2.1) := CZ BK6.out 6; have f7 : w6.cell? ⟨gb, 7, none⟩ = some (.int .i64 bt.2.2.2.2.2.2.2.1) := CZ BK6.out 7; have f8 : w6.cell? ⟨gb, 8, none⟩ = some (.int .i64 bt.2.2.2.2.2.2.2.2.1) := CZ BK6.out 8; have f9 : w6.cell? ⟨gb, 9, none⟩ = some (.bool bt.2.2.2.2.2.2.2.2.2.1) := CZ BK6.out 9; have f10 : w6.cell? ⟨gb, 10, none⟩ = some (.int .i64 bt.2.2.2.2.2.2.2.2.2.2.1) := CZ BK6.out 10; clear hi hr hb hk))
    have z0 : w6.cell? ⟨gz, 0, none⟩ = some (.int .i64 0) := CZ BZ6.out 0; have z1 : w6.cell? ⟨gz, 1, none⟩ = some (.int .i64 0) := CZ BZ6.out 1; have z2 : w6.cell? ⟨gz, 2, none⟩ = some (.int .i64 0) := CZ BZ6.out 2; have z3 : w6.cell? ⟨gz, 3, none⟩ = some (.int .i64 0) := CZ BZ6.out 3; have z4 : w6.cell? ⟨gz, 4, none⟩ = some (.int .i64 0) := CZ BZ6.out 4; have z5 : w6.cell? ⟨gz, 5, none⟩ = some (.int .i64 0) := CZ BZ6.out 5; have z6 : w6.cell? ⟨gz, 6, none⟩ = some (.int .i64 0) := CZ BZ6.out 6; have z7 : w6.cell? ⟨gz, 7, none⟩ = some (.int .i64 0) := CZ BZ6.out 7; have z8 : w6.cell? ⟨gz, 8, none⟩ = some (.int .i64 0) := CZ BZ6.out 8; have z9 : w6.cell? ⟨gz, 9, none⟩ = some (.bool false) := CZ BZ6.out 9; have z10 : w6.cell? ⟨gz, 10, none⟩ = some (.int .i64 0) := CZ BZ6.out 10
    have hne2 : gz ≠ gb := fun e => NE.out e.symm
    have fz0 := blk_frozen BZ6.out 0; have fz1 := blk_frozen BZ6.out 1; have fz2 := blk_frozen BZ6.out 2; have fz3 := blk_frozen BZ6.out 3; have fz4 := blk_frozen BZ6.out 4; have fz5 := blk_frozen BZ6.out 5; have fz6 := blk_frozen BZ6.out 6; have fz7 := blk_frozen BZ6.out 7; have fz8 := blk_frozen BZ6.out 8; have fz9 := blk_frozen BZ6.out 9; have fz10 := blk_frozen BZ6.out 10; have FI := Aside0.mk (impl_StepTask.fin (bt.1) (bt.2.1) (bt.2.2.1) (bt.2.2.2.1) (bt.2.2.2.2.1) (bt.2.2.2.2.2.1) (bt.2.2.2.2.2.2.1) (bt.2.2.2.2.2.2.2.1) (bt.2.2.2.2.2.2.2.2.1) (bt.2.2.2.2.2.2.2.2.2.1) (bt.2.2.2.2.2.2.2.2.2.2.1) BZ6.out HB6.out GZ.out HO6.out)
    go_region
    go_wp2
    refine bodyPost_ret (results_tc rfl _ _ gz 46 #[.int .i64 bt.1, .int .i64 bt.2.1, .int .i64 bt.2.2.1, .int .i64 bt.2.2.2.1, .int .i64 bt.2.2.2.2.1, .int .i64 bt.2.2.2.2.2.1, .int .i64 bt.2.2.2.2.2.2.1, .int .i64 bt.2.2.2.2.2.2.2.1, .int .i64 bt.2.2.2.2.2.2.2.2.1, .bool bt.2.2.2.2.2.2.2.2.2.1, .int .i64 bt.2.2.2.2.2.2.2.2.2.2.1] (0, 0) _ rfl FI.out.1 Try.underlying46 rfl (by kernel_rfl)) rfl ?_; obtain ⟨_, f2, f3⟩ := FI.out; have H2 := H'.out; cases H2; exact ⟨_, rfl, f2, f3⟩

/-! ### impl_ListNew: function 46 -/
def impl_ListNew.f  : Option (List Int) := if 63 ≤ 35184372088832 then (some (List.replicate 63 0)) else (none)
set_option maxHeartbeats 8000000 in
set_option maxRecDepth 100000 in
theorem impl_ListNew.calls  (r : List Int) (w : World) (h : impl_ListNew.f  = some r) :
  Calls Try.prog 46 #[] w fun e w' => ∃ v0_ : Value, e = .returned (v0_) ∧ Kd.R (Kd.int .i64) 3 w' w.heap.size (fun _ => True) v0_ r ∧ Below w.heap.size w w' := by
 have HB := Aside0.mk (Below.refl w.heap.size w)
 have H : (if 63 ≤ 35184372088832 then (some (List.replicate 63 0)) else (none)) = some r := h
 clear h
 by_cases c1 : 63 ≤ 35184372088832; rotate_left
 ·
  rw [if_neg c1] at H; exact absurd H (by simp)
 rw [if_pos c1] at H
 have c1b0 := eq_true c1
 have c1b1 : decide (63 ≤ 35184372088832) = true := decide_eq_true c1
 clear c1
 obtain ⟨y341, hy341⟩ : ∃ y_ : List Int, y_ = (List.replicate 63 0) := ⟨_, rfl⟩
 replace H : (some y341) = some r := by first | (rw [hy341]; with_reducible exact H) | (have H2_ := (Option.bind_some _ _).symm.trans H; rw [hy341]; with_reducible exact H2_) | (have H2_ := (Option.bind_some _ _).symm.trans H; with_reducible exact H2_) | with_reducible exact H | (rw [hy341]; exact H) | exact H
 have Ny341 := Aside0.mk hy341
 clear hy341
 obtain rfl := Option.some.inj H
 go_enter Try.func46, Try.ntmps46
 go_wp2_with (first | ((with_reducible refine gate_dst (N := 1) rfl ?_); refine Kd.R_make (Kd.int .i64) _ 3 rfl (N := 1) rfl 22 _ _ rfl 63 rfl rfl Try.underlying22 (.int .i64 0) 8 info3 rfl (by decide) (by omega) 0 (ok := fun _ => True) (okp := fun _ => True) rfl (fun _ hk => hk) trivial (by omega) (by omega) (Below.refl _ _) (Nat.le_refl _) ?_; intro v342 w2 ho3 hb hg_ hnew_; clear hg_ hnew_; (first | rw [← Ny341.out] at ho3 | (simp only [Int.reduceToNat] at ho3; rw [← Ny341.out] at ho3)); have HO343 := Aside0.mk (Kd.R_lower ho3 (below_size (BL))); replace HB := Aside0.mk (below_step (BL) hb); clear hb ho3))
 go_ret
 exact ⟨_, EE, RQ HO343.out, BL⟩

/-! ### impl_TaskNew: function 47 -/
def impl_TaskNew.f (a0 : Int) (a1 : Int) (a2 : Int) (a3 : Int) : Option (Int × Int × Int × Int × Int × Int × Int × Int × Int × Bool × Int) := some (a0, a1, a2, a3, 0, 0, 0, 0, 0, false, 0)
set_option maxHeartbeats 8000000 in
set_option maxRecDepth 100000 in
theorem impl_TaskNew.calls (a0 : Int) (a1 : Int) (a2 : Int) (a3 : Int) (r1 : Int) (r2 : Int) (r3 : Int) (r4 : Int) (r5 : Int) (r6 : Int) (r7 : Int) (r8 : Int) (r9 : Int) (r10 : Bool) (r11 : Int) (w : World) (h : impl_TaskNew.f a0 a1 a2 a3 = some (r1, r2, r3, r4, r5, r6, r7, r8, r9, r10, r11)) :
  Calls Try.prog 47 #[.int .i64 a0, .int .i64 a1, .int .i64 a2, .int .i64 a3] w fun e w' => e = .returned (.agg #[.int .i64 r1, .int .i64 r2, .int .i64 r3, .int .i64 r4, .int .i64 r5, .int .i64 r6, .int .i64 r7, .int .i64 r8, .int .i64 r9, .bool r10, .int .i64 r11]) ∧ Below w.heap.size w w' := by
 have hu46 := Try.underlying46
 have HB := Aside0.mk (Below.refl w.heap.size w)
 have H : (some (a0, a1, a2, a3, 0, 0, 0, 0, 0, false, 0)) = some (r1, r2, r3, r4, r5, r6, r7, r8, r9, r10, r11) := h
 clear h
 simp only [Option.some.injEq, Prod.mk.injEq] at H
 obtain ⟨rfl, rfl, rfl, rfl, rfl, rfl, rfl, rfl, rfl, rfl, rfl⟩ := H
 go_enter Try.func47, Try.ntmps47
 go_wp2_with (first | ((with_reducible refine gate_dst (N := 8) rfl ?_); refine bE 8 #[.int .i64 0, .int .i64 0, .int .i64 0, .int .i64 0, .int .i64 0, .int .i64 0, .int .i64 0, .int .i64 0, .int .i64 0, .bool false, .int .i64 0] 46 ?_; intro gb344 hg w5 hbox hb; have BK344 := Aside0.mk (hbox); have GW344 : Aside0 (w.heap.size ≤ gb344) := GS; have GE344 := GW344; replace HB := Aside0.mk (below_step (BL) hb); clear hb hbox hg; have hcz6_0 : w5.cell? ⟨gb344, 0, none⟩ = some (.int .i64 0) := CZ BK344.out 0; have hcz6_1 : w5.cell? ⟨gb344, 1, none⟩ = some (.int .i64 0) := CZ BK344.out 1; have hcz6_2 : w5.cell? ⟨gb344, 2, none⟩ = some (.int .i64 0) := CZ BK344.out 2; have hcz6_3 : w5.cell? ⟨gb344, 3, none⟩ = some (.int .i64 0) := CZ BK344.out 3; have hcz6_4 : w5.cell? ⟨gb344, 4, none⟩ = some (.int .i64 0) := CZ BK344.out 4; have hcz6_5 : w5.cell? ⟨gb344, 5, none⟩ = some (.int .i64 0) := CZ BK344.out 5; have hcz6_6 : w5.cell? ⟨gb344, 6, none⟩ = some (.int .i64 0) := CZ BK344.out 6; have hcz6_7 : w5.cell? ⟨gb344, 7, none⟩ = some (.int .i64 0) := CZ BK344.out 7; have hcz6_8 : w5.cell? ⟨gb344, 8, none⟩ = some (.int .i64 0) := CZ BK344.out 8; have hcz6_9 : w5.cell? ⟨gb344, 9, none⟩ = some (.bool false) := CZ BK344.out 9; have hcz6_10 : w5.cell? ⟨gb344, 10, none⟩ = some (.int .i64 0) := CZ BK344.out 10; have hfz6_0 := blk_frozen BK344.out 0; have hfz6_1 := blk_frozen BK344.out 1; have hfz6_2 := blk_frozen BK344.out 2; have hfz6_3 := blk_frozen BK344.out 3; have hfz6_4 := blk_frozen BK344.out 4; have hfz6_5 := blk_frozen BK344.out 5; have hfz6_6 := blk_frozen BK344.out 6; have hfz6_7 := blk_frozen BK344.out 7; have hfz6_8 := blk_frozen BK344.out 8; have hfz6_9 := blk_frozen BK344.out 9; have hfz6_10 := blk_frozen BK344.out 10))
 refine bodyPost_ret (results_cell_row rfl _ _ gb344 46 #[.int .i64 a0, .int .i64 a1, .int .i64 a2, .int .i64 a3, .int .i64 0, .int .i64 0, .int .i64 0, .int .i64 0, .int .i64 0, .bool false, .int .i64 0] (0, 0) _ rfl (BU BK344.out) Try.underlying46 rfl (by kernel_rfl)) rfl ?_
 exact ⟨EE, BL⟩

/-! ### spec_l01In: function 50 -/
def spec_l01In.f (a0 : Int) (a1 : Int) (a2 : Int) : Option (Bool) := if a0 ≥ a1 then (some (decide (a0 ≤ a2))) else (some false)
set_option maxHeartbeats 8000000 in
set_option maxRecDepth 100000 in
theorem spec_l01In.calls (a0 : Int) (a1 : Int) (a2 : Int) (r : Bool) (w : World) (h : spec_l01In.f a0 a1 a2 = some r) :
  Calls Try.prog 50 #[.int .i64 a0, .int .i64 a1, .int .i64 a2] w fun e w' => e = .returned (.bool r) ∧ Drawn0 w w' := by
 have H : (if a0 ≥ a1 then (some (decide (a0 ≤ a2))) else (some false)) = some r := h
 clear h
 by_cases c4 : a0 ≥ a1
 ·
  rw [if_pos c4] at H; have c4b0 : decide (a1 ≤ a0) = true := decide_eq_true c4; clear c4; obtain rfl := Option.some.inj H
  go_enter Try.func50, Try.ntmps50
  go_wp2
  go_ret
  exact ⟨by first | rfl | (simp; done) | (simp [*]; done), by repeat (first | exact Drawn0.refl _ | apply Drawn0.step)⟩
 rw [if_neg c4] at H
 have c4b0 : decide (a1 ≤ a0) = false := decide_eq_false c4
 clear c4
 obtain rfl := Option.some.inj H
 go_enter Try.func50, Try.ntmps50
 go_wp2
 go_ret
 exact ⟨by first | rfl | (simp; done) | (simp [*]; done), by repeat (first | exact Drawn0.refl _ | apply Drawn0.step)⟩

end Go.Proofs.Ytjmggbhgmenmcaa.Qal
