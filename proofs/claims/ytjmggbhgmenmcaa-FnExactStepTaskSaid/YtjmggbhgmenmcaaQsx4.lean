-- Laid by myprint.py, a program of this session's own, over the kit's print. Not trusted: Lean checks it.
import Derived.Test.YtjmggbhgmenmcaaQsx0
import Derived.Test.YtjmggbhgmenmcaaQsx2
import Derived.Test.YtjmggbhgmenmcaaQsx3
namespace Go.Proofs.Ytjmggbhgmenmcaa.Qs
open Go.RowKit Go.Proofs.YtjmggbhgmenmcaaW.PrintWords Go.Proofs.YtjmggbhgmenmcaaW.PrintLast Go.Proofs.YtjmggbhgmenmcaaW.PrintMore
attribute [local go_sem] Go.Proofs.Ytjmggbhgmenmcaa.StrCmp.gtr_less Go.Proofs.Ytjmggbhgmenmcaa.StrCmp.geq_less Go.Proofs.Ytjmggbhgmenmcaa.StrCmp.leq_less max2_int min2_int max_two min_two max_three min_three max_four min_four   -- for this text's walks alone
set_option linter.unusedVariables false
set_option linter.unusedSimpArgs false

/-! ### spec_l06Step: function 68 -/
def spec_l06Step.f (l0 : List Int) (s1_0 : Int) (s1_1 : Int) (s1_2 : Int) (s1_3 : Int) (s1_4 : Int) (s1_5 : Int) (s1_6 : Int) (s1_7 : Int) (s1_8 : Int) (s1_9 : Bool) (s1_10 : Int) : Option (Int × Int × Int × Int × Int × Int × Int × Int × Int × Bool × Int × List Int) := if s1_4 = 0 then (if 0 < (l0.length : Int) then ((spec_l06Node.f (rd l0 0)).bind fun t149 => (some (s1_0, s1_1, s1_2, s1_3, 1, 0, t149, s1_7, s1_8, s1_9, s1_10, l0))) else (none)) else (if s1_4 = 1 then (if s1_6 = 0 then ((spec_l06Nobody.f l0 s1_0 s1_1 s1_2 s1_3 s1_4 s1_5 s1_6 s1_7 s1_8 s1_9 s1_10).bind fun bt150 => (some (bt150.1, bt150.2.1, bt150.2.2.1, bt150.2.2.2.1, bt150.2.2.2.2.1, bt150.2.2.2.2.2.1, bt150.2.2.2.2.2.2.1, bt150.2.2.2.2.2.2.2.1, bt150.2.2.2.2.2.2.2.2.1, bt150.2.2.2.2.2.2.2.2.2.1, bt150.2.2.2.2.2.2.2.2.2.2.1, bt150.2.2.2.2.2.2.2.2.2.2.2))) else ((spec_l06Word.f s1_6).bind fun t162 => (if 0 ≤ t162 then (if t162 < (l0.length : Int) then ((spec_l06Node.f (rd l0 t162)).bind fun t164 => (some (s1_0, s1_1, s1_2, s1_3, 2, s1_5, s1_6, t164, Int.tmod (rd l0 t162) 2, s1_9, s1_10, l0))) else (none)) else (none)))) else (if s1_4 = 2 then ((spec_l06Look.f l0 s1_0 s1_1 s1_2 s1_3 s1_4 s1_5 s1_6 s1_7 s1_8 s1_9 s1_10).bind fun bt165 => (some (bt165.1, bt165.2.1, bt165.2.2.1, bt165.2.2.2.1, bt165.2.2.2.2.1, bt165.2.2.2.2.2.1, bt165.2.2.2.2.2.2.1, bt165.2.2.2.2.2.2.2.1, bt165.2.2.2.2.2.2.2.2.1, bt165.2.2.2.2.2.2.2.2.2.1, bt165.2.2.2.2.2.2.2.2.2.2.1, bt165.2.2.2.2.2.2.2.2.2.2.2))) else (if s1_4 = 3 then ((spec_l06Found.f l0 s1_0 s1_1 s1_2 s1_3 s1_4 s1_5 s1_6 s1_7 s1_8 s1_9 s1_10).bind fun bt177 => (some (bt177.1, bt177.2.1, bt177.2.2.1, bt177.2.2.2.1, bt177.2.2.2.2.1, bt177.2.2.2.2.2.1, bt177.2.2.2.2.2.2.1, bt177.2.2.2.2.2.2.2.1, bt177.2.2.2.2.2.2.2.2.1, bt177.2.2.2.2.2.2.2.2.2.1, bt177.2.2.2.2.2.2.2.2.2.2.1, bt177.2.2.2.2.2.2.2.2.2.2.2))) else (if s1_4 = 4 then ((spec_l06Swap.f l0 s1_5 (wrap64 (2 * s1_6)) (wrap64 (2 * s1_3))).bind fun bt189 => (if bt189.1 = true then (some (s1_0, s1_1, s1_2, s1_3, s1_4, s1_5, s1_6, s1_7, s1_8, true, 1, bt189.2)) else (some (s1_0, s1_1, s1_2, s1_3, 0, s1_5, s1_6, s1_7, s1_8, s1_9, s1_10, bt189.2)))) else (if s1_4 = 5 then ((spec_l06Swap.f l0 s1_6 (wrap64 (2 * s1_7)) (wrap64 ((wrap64 (2 * s1_7)) + 1))).bind fun bt191 => (if bt191.1 = true then (some (s1_0, s1_1, s1_2, s1_3, 6, s1_5, s1_6, s1_7, s1_8, s1_9, s1_10, bt191.2)) else (some (s1_0, s1_1, s1_2, s1_3, 0, s1_5, s1_6, s1_7, s1_8, s1_9, s1_10, bt191.2)))) else ((spec_l06Swap.f l0 s1_5 (wrap64 (2 * s1_6)) (wrap64 (2 * s1_7))).bind fun bt193 => (some (s1_0, s1_1, s1_2, s1_3, s1_4, s1_5, s1_6, s1_7, s1_8, true, 1, bt193.2))))))))
def spec_l06Step.T1 : Bool × List (List Nat × List Nat) := (true, [([], []), ([], []), ([1], [1]), ([2], [2]), ([3], [3]), ([], []), ([5], [5]), ([6], [6]), ([7], [7]), ([8], [8]), ([], []), ([10], [10]), ([11], [11]), ([12], [12]), ([13], [13]), ([0, 4, 9, 14], [0, 4, 9, 14])])
def spec_l06Step.B1 : List Nat := [0, 0, 2, 6, 14, 0, 32, 96, 224, 480, 0, 1024, 3072, 7168, 15360, 32767]
theorem spec_l06Step.tab1 : rtab .any (opsOf Try.f68 1) = spec_l06Step.T1 := by kernel_rfl
theorem spec_l06Step.bits1 : waitsOk spec_l06Step.T1.2 spec_l06Step.B1 = true := by kernel_rfl
def spec_l06Step.T20 : Bool × List (List Nat × List Nat) := (true, [([], []), ([], []), ([1], [1]), ([2], [2]), ([3], [3]), ([], []), ([5], [5]), ([6], [6]), ([7], [7]), ([8], [8]), ([], []), ([10], [10]), ([11], [11]), ([12], [12]), ([13], [13]), ([0, 4, 9, 14], [0, 4, 9, 14])])
def spec_l06Step.B20 : List Nat := [0, 0, 2, 6, 14, 0, 32, 96, 224, 480, 0, 1024, 3072, 7168, 15360, 32767]
theorem spec_l06Step.tab20 : rtab .any (opsOf Try.f68 20) = spec_l06Step.T20 := by kernel_rfl
theorem spec_l06Step.bits20 : waitsOk spec_l06Step.T20.2 spec_l06Step.B20 = true := by kernel_rfl
def spec_l06Step.T26 : Bool × List (List Nat × List Nat) := (true, [([], []), ([], []), ([1], [1]), ([2], [2]), ([3], [3]), ([], []), ([5], [5]), ([6], [6]), ([7], [7]), ([8], [8]), ([], []), ([10], [10]), ([11], [11]), ([12], [12]), ([13], [13]), ([14], [14]), ([0, 4, 9, 15], [0, 4, 9, 15])])
def spec_l06Step.B26 : List Nat := [0, 0, 2, 6, 14, 0, 32, 96, 224, 480, 0, 1024, 3072, 7168, 15360, 31744, 65535]
theorem spec_l06Step.tab26 : rtab .any (opsOf Try.f68 26) = spec_l06Step.T26 := by kernel_rfl
theorem spec_l06Step.bits26 : waitsOk spec_l06Step.T26.2 spec_l06Step.B26 = true := by kernel_rfl
set_option maxHeartbeats 8000000 in
set_option maxRecDepth 100000 in
theorem spec_l06Step.calls (P0_ : Nat → Prop) (u9000_ : Value) (l0 : List Int) (g : Nat) (s1_0 : Int) (s1_1 : Int) (s1_2 : Int) (s1_3 : Int) (s1_4 : Int) (s1_5 : Int) (s1_6 : Int) (s1_7 : Int) (s1_8 : Int) (s1_9 : Bool) (s1_10 : Int) (r1 : Int) (r2 : Int) (r3 : Int) (r4 : Int) (r5 : Int) (r6 : Int) (r7 : Int) (r8 : Int) (r9 : Int) (r10 : Bool) (r11 : Int) (r12 : List Int) (w0 w : World) (hI : IsS46 w0 w g s1_0 s1_1 s1_2 s1_3 s1_4 s1_5 s1_6 s1_7 s1_8 s1_9 s1_10) (hB : Below w0.heap.size w0 w) (ho0 : Kd.R (Kd.int .i64) 3 w w0.heap.size P0_ u9000_ l0) (h : spec_l06Step.f l0 s1_0 s1_1 s1_2 s1_3 s1_4 s1_5 s1_6 s1_7 s1_8 s1_9 s1_10 = some (r1, r2, r3, r4, r5, r6, r7, r8, r9, r10, r11, r12)) :
  Calls Try.prog 68 #[u9000_, .pointer (some ⟨g, 0, none⟩)] w fun e w' => e = .returned (.tuple #[]) ∧ IsS46 w0 w' g r1 r2 r3 r4 r5 r6 r7 r8 r9 r10 r11 ∧ Kd.R (Kd.int .i64) 3 w' w0.heap.size (fun k_ => (P0_ k_ ∨ w.heap.size ≤ k_)) u9000_ r12 ∧ Below w0.heap.size w0 w' ∧ Kept w w' (fun k_ => (P0_ k_) ∨ k_ = g) := by
 have HO0 := Aside0.mk (show Kd.R (Kd.int .i64) 3 w w0.heap.size (fun k_ => (P0_ k_ ∨ w.heap.size ≤ k_)) u9000_ l0 from Kd.R_mono ho0 (fun k_ hk => (.inl hk)))
 have HI1 := Aside0.mk hI
 have HL := Aside0.mk hB.size
 clear hI
 have HK := Aside0.mk (Kept.refl w (fun k_ => (P0_ k_) ∨ k_ = g))
 have HW0 := Aside0.mk hB.size
 have HB := Aside0.mk hB
 clear hB
 obtain ⟨wv, hwv⟩ : ∃ wv : World, wv = w := ⟨w, rfl⟩
 replace HO0 : Aside0 (Kd.R (Kd.int .i64) 3 w w0.heap.size (fun k_ => (P0_ k_ ∨ wv.heap.size ≤ k_)) u9000_ l0) := by rw [hwv]; exact HO0
 replace HK : Aside0 (Kept wv w (fun k_ => (P0_ k_) ∨ k_ = g)) := by rw [hwv]; exact HK
 suffices hs_ : Calls Try.prog 68 #[u9000_, .pointer (some ⟨g, 0, none⟩)] w fun e w' => e = .returned (.tuple #[]) ∧ IsS46 w0 w' g r1 r2 r3 r4 r5 r6 r7 r8 r9 r10 r11 ∧ Kd.R (Kd.int .i64) 3 w' w0.heap.size (fun k_ => (P0_ k_ ∨ wv.heap.size ≤ k_)) u9000_ r12 ∧ Below w0.heap.size w0 w' ∧ Kept wv w' (fun k_ => (P0_ k_) ∨ k_ = g) by rw [hwv] at hs_; exact hs_
 clear hwv
 have H : (if s1_4 = 0 then (if 0 < (l0.length : Int) then ((spec_l06Node.f (rd l0 0)).bind fun t149 => (some (s1_0, s1_1, s1_2, s1_3, 1, 0, t149, s1_7, s1_8, s1_9, s1_10, l0))) else (none)) else (if s1_4 = 1 then (if s1_6 = 0 then ((spec_l06Nobody.f l0 s1_0 s1_1 s1_2 s1_3 s1_4 s1_5 s1_6 s1_7 s1_8 s1_9 s1_10).bind fun bt150 => (some (bt150.1, bt150.2.1, bt150.2.2.1, bt150.2.2.2.1, bt150.2.2.2.2.1, bt150.2.2.2.2.2.1, bt150.2.2.2.2.2.2.1, bt150.2.2.2.2.2.2.2.1, bt150.2.2.2.2.2.2.2.2.1, bt150.2.2.2.2.2.2.2.2.2.1, bt150.2.2.2.2.2.2.2.2.2.2.1, bt150.2.2.2.2.2.2.2.2.2.2.2))) else ((spec_l06Word.f s1_6).bind fun t162 => (if 0 ≤ t162 then (if t162 < (l0.length : Int) then ((spec_l06Node.f (rd l0 t162)).bind fun t164 => (some (s1_0, s1_1, s1_2, s1_3, 2, s1_5, s1_6, t164, Int.tmod (rd l0 t162) 2, s1_9, s1_10, l0))) else (none)) else (none)))) else (if s1_4 = 2 then ((spec_l06Look.f l0 s1_0 s1_1 s1_2 s1_3 s1_4 s1_5 s1_6 s1_7 s1_8 s1_9 s1_10).bind fun bt165 => (some (bt165.1, bt165.2.1, bt165.2.2.1, bt165.2.2.2.1, bt165.2.2.2.2.1, bt165.2.2.2.2.2.1, bt165.2.2.2.2.2.2.1, bt165.2.2.2.2.2.2.2.1, bt165.2.2.2.2.2.2.2.2.1, bt165.2.2.2.2.2.2.2.2.2.1, bt165.2.2.2.2.2.2.2.2.2.2.1, bt165.2.2.2.2.2.2.2.2.2.2.2))) else (if s1_4 = 3 then ((spec_l06Found.f l0 s1_0 s1_1 s1_2 s1_3 s1_4 s1_5 s1_6 s1_7 s1_8 s1_9 s1_10).bind fun bt177 => (some (bt177.1, bt177.2.1, bt177.2.2.1, bt177.2.2.2.1, bt177.2.2.2.2.1, bt177.2.2.2.2.2.1, bt177.2.2.2.2.2.2.1, bt177.2.2.2.2.2.2.2.1, bt177.2.2.2.2.2.2.2.2.1, bt177.2.2.2.2.2.2.2.2.2.1, bt177.2.2.2.2.2.2.2.2.2.2.1, bt177.2.2.2.2.2.2.2.2.2.2.2))) else (if s1_4 = 4 then ((spec_l06Swap.f l0 s1_5 (wrap64 (2 * s1_6)) (wrap64 (2 * s1_3))).bind fun bt189 => (if bt189.1 = true then (some (s1_0, s1_1, s1_2, s1_3, s1_4, s1_5, s1_6, s1_7, s1_8, true, 1, bt189.2)) else (some (s1_0, s1_1, s1_2, s1_3, 0, s1_5, s1_6, s1_7, s1_8, s1_9, s1_10, bt189.2)))) else (if s1_4 = 5 then ((spec_l06Swap.f l0 s1_6 (wrap64 (2 * s1_7)) (wrap64 ((wrap64 (2 * s1_7)) + 1))).bind fun bt191 => (if bt191.1 = true then (some (s1_0, s1_1, s1_2, s1_3, 6, s1_5, s1_6, s1_7, s1_8, s1_9, s1_10, bt191.2)) else (some (s1_0, s1_1, s1_2, s1_3, 0, s1_5, s1_6, s1_7, s1_8, s1_9, s1_10, bt191.2)))) else ((spec_l06Swap.f l0 s1_5 (wrap64 (2 * s1_6)) (wrap64 (2 * s1_7))).bind fun bt193 => (some (s1_0, s1_1, s1_2, s1_3, s1_4, s1_5, s1_6, s1_7, s1_8, true, 1, bt193.2))))))))) = some (r1, r2, r3, r4, r5, r6, r7, r8, r9, r10, r11, r12) := h
 clear h
 by_cases c3 : s1_4 = 0
 ·
  rw [if_pos c3] at H
  have c3b0 : (s1_4 == 0) = true := beq_iff_eq.mpr c3
  have c3b1 : (s1_4 != 0) = false := bne_eq_false_iff_eq.mpr c3
  clear c3
  by_cases c4 : 0 < (l0.length : Int); rotate_left
  ·
   rw [if_neg c4] at H
   exact absurd H (by simp)
  rw [if_pos c4] at H
  have c4b0 : decide (0 < (l0.length : Int)) = true := decide_eq_true c4
  have c4b1 : decide (0 < l0.length) = true := decide_eq_true (by omega)
  clear c4
  replace H := Option.bind_eq_some_iff.mp H
  obtain ⟨t149, A50, H⟩ := H
  replace H : (some (s1_0, s1_1, s1_2, s1_3, 1, 0, t149, s1_7, s1_8, s1_9, s1_10, l0)) = some (r1, r2, r3, r4, r5, r6, r7, r8, r9, r10, r11, r12) := H
  have A5 := Aside0.mk A50
  clear A50
  simp only [Option.some.injEq, Prod.mk.injEq] at H
  obtain ⟨rfl, rfl, rfl, rfl, rfl, rfl, rfl, rfl, rfl, rfl, rfl, rfl⟩ := H
  obtain ⟨HGz6, hgz6⟩ := HI1.out
  have hcz6_0 := cellS46_0 HGz6
  have hcz6_1 := cellS46_1 HGz6
  have hcz6_2 := cellS46_2 HGz6
  have hcz6_3 := cellS46_3 HGz6
  have hcz6_4 := cellS46_4 HGz6
  have hcz6_5 := cellS46_5 HGz6
  have hcz6_6 := cellS46_6 HGz6
  have hcz6_7 := cellS46_7 HGz6
  have hcz6_8 := cellS46_8 HGz6
  have hcz6_9 := cellS46_9 HGz6
  have hcz6_10 := cellS46_10 HGz6
  have hfz6_0 := blk_frozen HGz6 0
  have hfz6_1 := blk_frozen HGz6 1
  have hfz6_2 := blk_frozen HGz6 2
  have hfz6_3 := blk_frozen HGz6 3
  have hfz6_4 := blk_frozen HGz6 4
  have hfz6_5 := blk_frozen HGz6 5
  have hfz6_6 := blk_frozen HGz6 6
  have hfz6_7 := blk_frozen HGz6 7
  have hfz6_8 := blk_frozen HGz6 8
  have hfz6_9 := blk_frozen HGz6 9
  have hfz6_10 := blk_frozen HGz6 10
  clear HGz6 hgz6
  obtain ⟨Ao7, co7, eo7⟩ := Kd.R_slice HO0.out
  subst eo7
  have p148 : 0 ≤ (0 : Int) := (by omega)
  have q148 : 0 < (l0.length : Int) := of_decide_eq_true AS
  obtain ⟨ad148, e148, hx148_0⟩ := Kd.at_int (Kd.R_reads' HO0.out).2.2 0 p148 q148
  cases e148
  have qi148 : (0 < l0.length) = True := eq_true (by omega)
  (try rw [show ((0 : Int)).toNat = 0 from rfl] at hx148_0)
  (try rw [Addr.add_zero'] at hx148_0)
  have hn148_0 : ad148.block ≠ g := Kd.own_blk (IsS46.own_ne HI1.out HO0.out (by decide))
  replace hx148_0 := (cell_far (p := ⟨g, 5, none⟩) (by first | (rw [add_block]; exact hn148_0) | (show (Addr.add _ _).block ≠ _; rw [add_block]; exact hn148_0) | exact hn148_0) (.int .i64 0)).trans hx148_0
  clear hn148_0
  replace p148 := eq_true p148
  replace q148 := eq_true q148
  go_enter Try.func68, Try.ntmps68
  go_wp2_with (first | ((with_reducible refine gate_callee (f := 73) rfl ?_); refine goesL_ (some 40) rfl rfl Try.func73 (by kernel_rfl) rfl #[.int .i64 (rd l0 0)] rfl (MA) ?_; (with_reducible refine (spec_l06Node.calls (rd l0 0) t149 _ A5.out).mono ?_); rintro e w' ⟨rfl, ⟨nd, rfl⟩⟩; refine ⟨_, rfl, ?_⟩))
  first | go_end0 | ((try simp only [Exit.inBlock, Exit.then]); refine bodyPost_ret (results_none rfl _ _ _) rfl ?_)
  exact ⟨EE, by repeat (first | (with_reducible first | exact HI1.out | apply IsS46.alloc | apply IsS46.drewN | apply IsS46.drew | apply IsS46.set_0 | apply IsS46.set_1 | apply IsS46.set_2 | apply IsS46.set_3 | apply IsS46.set_4 | apply IsS46.set_5 | apply IsS46.set_6 | apply IsS46.set_7 | apply IsS46.set_8 | apply IsS46.set_9 | apply IsS46.set_10) | exact HI1.out), by (with_reducible repeat (first | apply r1 | apply r2 | apply r3)); exact Kd.R_mono (Kd.R_far (p := ⟨g, 4, none⟩) (Kd.R_far (p := ⟨g, 6, none⟩) (Kd.R_far (p := ⟨g, 5, none⟩) (IsS46.apart HI1.out HO0.out (by decide)) (fun _ hk => hk.2) (.int .i64 0)) (fun _ hk => hk.2) (.int .i64 t149)) (fun _ hk => hk.2) (.int .i64 1)) (fun _ hk => hk.1), by repeat (first | (with_reducible first | exact HB.out | apply below_alloc | apply pw_below_drewN | apply below_drew1 | refine below_set ?_ (IsS46.ge HI1.out)) | exact HB.out), by repeat (first | (with_reducible first | exact HK.out | apply Kept.alloc | apply Kept.drewN | apply Kept.drew | refine Kept.setCell ?_ (.inl (.inr rfl)) _) | exact HK.out)⟩
 rw [if_neg c3] at H
 have c3b0 : (s1_4 == 0) = false := beq_eq_false_iff_ne.mpr c3
 have c3b1 : (s1_4 != 0) = true := bne_iff_ne.mpr c3
 by_cases c8 : s1_4 = 1
 ·
  rw [if_pos c8] at H
  have c8b0 : (s1_4 == 1) = true := beq_iff_eq.mpr c8
  have c8b1 : (s1_4 != 1) = false := bne_eq_false_iff_eq.mpr c8
  clear c8
  by_cases c9 : s1_6 = 0
  ·
   rw [if_pos c9] at H
   have c9b0 : (s1_6 == 0) = true := beq_iff_eq.mpr c9
   have c9b1 : (s1_6 != 0) = false := bne_eq_false_iff_eq.mpr c9
   clear c9
   replace H := Option.bind_eq_some_iff.mp H
   obtain ⟨⟨t150, t151, t152, t153, t154, t155, t156, t157, t158, t159, t160, t161⟩, A100, H⟩ := H
   replace H : (some (t150, t151, t152, t153, t154, t155, t156, t157, t158, t159, t160, t161)) = some (r1, r2, r3, r4, r5, r6, r7, r8, r9, r10, r11, r12) := H
   have A10 := Aside0.mk A100
   clear A100
   simp only [Option.some.injEq, Prod.mk.injEq] at H
   obtain ⟨rfl, rfl, rfl, rfl, rfl, rfl, rfl, rfl, rfl, rfl, rfl, rfl⟩ := H
   obtain ⟨HGz11, hgz11⟩ := HI1.out
   have hcz11_0 := cellS46_0 HGz11
   have hcz11_1 := cellS46_1 HGz11
   have hcz11_2 := cellS46_2 HGz11
   have hcz11_3 := cellS46_3 HGz11
   have hcz11_4 := cellS46_4 HGz11
   have hcz11_5 := cellS46_5 HGz11
   have hcz11_6 := cellS46_6 HGz11
   have hcz11_7 := cellS46_7 HGz11
   have hcz11_8 := cellS46_8 HGz11
   have hcz11_9 := cellS46_9 HGz11
   have hcz11_10 := cellS46_10 HGz11
   have hfz11_0 := blk_frozen HGz11 0
   have hfz11_1 := blk_frozen HGz11 1
   have hfz11_2 := blk_frozen HGz11 2
   have hfz11_3 := blk_frozen HGz11 3
   have hfz11_4 := blk_frozen HGz11 4
   have hfz11_5 := blk_frozen HGz11 5
   have hfz11_6 := blk_frozen HGz11 6
   have hfz11_7 := blk_frozen HGz11 7
   have hfz11_8 := blk_frozen HGz11 8
   have hfz11_9 := blk_frozen HGz11 9
   have hfz11_10 := blk_frozen HGz11 10
   clear HGz11 hgz11
   obtain ⟨Ao12, co12, eo12⟩ := Kd.R_slice HO0.out
   subst eo12
   go_enter Try.func68, Try.ntmps68
   go_wp2_with (first | ((with_reducible refine gate_callee (f := 77) rfl ?_); refine goesL_ (some 55) rfl rfl Try.func77 (by kernel_rfl) rfl #[.slice Ao12 l0.length co12, .pointer (some ⟨g, 0, none⟩)] rfl (MA) ?_; (with_reducible refine (spec_l06Nobody.calls (fun k_ => some k_ = (.slice Ao12 l0.length co12 : Value).ownBlock) (.slice Ao12 l0.length co12) l0 g s1_0 s1_1 s1_2 s1_3 s1_4 s1_5 s1_6 s1_7 s1_8 s1_9 s1_10 t150 t151 t152 t153 t154 t155 t156 t157 t158 t159 t160 t161 w0 _ ?side1 ?side2 ?side3 A10.out).mono ?_); (case side1 => repeat (first | (with_reducible first | exact HI1.out | apply IsS46.alloc | apply IsS46.drewN | apply IsS46.drew | apply IsS46.set_0 | apply IsS46.set_1 | apply IsS46.set_2 | apply IsS46.set_3 | apply IsS46.set_4 | apply IsS46.set_5 | apply IsS46.set_6 | apply IsS46.set_7 | apply IsS46.set_8 | apply IsS46.set_9 | apply IsS46.set_10) | exact HI1.out)); (case side2 => repeat (first | (with_reducible first | exact HB.out | apply below_alloc | apply pw_below_drewN | apply below_drew1 | refine below_set ?_ (IsS46.ge HI1.out)) | exact HB.out)); (case side3 => exact Kd.R_tight rfl HO0.out); rintro e w13 ⟨rfl, hi, hy0, hb, hkp⟩; refine ⟨_, rfl, ?_⟩; replace HI1 := Aside0.mk (hi); replace HK := Aside0.mk (Kept.then_ (S := (fun k_ => (P0_ k_) ∨ k_ = g)) (by repeat (first | (with_reducible first | exact HK.out | apply Kept.alloc | apply Kept.drewN | apply Kept.drew | refine Kept.setCell ?_ (.inl (.inr rfl)) _) | exact HK.out)) hkp (fun k_ hs_ => Or.elim hs_ (fun hs_ => (fun e_ => Or.imp_left Or.inl ((HO0.out.1 k_ e_.symm))) hs_) (fun e_ => .inl (.inr e_)))); replace HO0 := Aside0.mk (Kd.R_reok rfl hy0 (fun k_ e_ => HO0.out.1 k_ e_)); replace HB := Aside0.mk (hb); (try clear hb); (try clear hkp); (try clear hy0)))
   first | go_end0 | ((try simp only [Exit.inBlock, Exit.then]); refine bodyPost_ret (results_none rfl _ _ _) rfl ?_)
   exact ⟨EE, by repeat (first | (with_reducible first | exact HI1.out | apply IsS46.alloc | apply IsS46.drewN | apply IsS46.drew | apply IsS46.set_0 | apply IsS46.set_1 | apply IsS46.set_2 | apply IsS46.set_3 | apply IsS46.set_4 | apply IsS46.set_5 | apply IsS46.set_6 | apply IsS46.set_7 | apply IsS46.set_8 | apply IsS46.set_9 | apply IsS46.set_10) | exact HI1.out), RQ HO0.out, by repeat (first | (with_reducible first | exact HB.out | apply below_alloc | apply pw_below_drewN | apply below_drew1 | refine below_set ?_ (IsS46.ge HI1.out)) | exact HB.out), by repeat (first | (with_reducible first | exact HK.out | apply Kept.alloc | apply Kept.drewN | apply Kept.drew | refine Kept.setCell ?_ (.inl (.inr rfl)) _) | exact HK.out)⟩
  rw [if_neg c9] at H
  have c9b0 : (s1_6 == 0) = false := beq_eq_false_iff_ne.mpr c9
  have c9b1 : (s1_6 != 0) = true := bne_iff_ne.mpr c9
  replace H := Option.bind_eq_some_iff.mp H
  obtain ⟨t162, A140, H⟩ := H
  replace H : (if 0 ≤ t162 then (if t162 < (l0.length : Int) then ((spec_l06Node.f (rd l0 t162)).bind fun t164 => (some (s1_0, s1_1, s1_2, s1_3, 2, s1_5, s1_6, t164, Int.tmod (rd l0 t162) 2, s1_9, s1_10, l0))) else (none)) else (none)) = some (r1, r2, r3, r4, r5, r6, r7, r8, r9, r10, r11, r12) := H
  have A14 := Aside0.mk A140
  clear A140
  by_cases c15 : 0 ≤ t162; rotate_left
  ·
   rw [if_neg c15] at H
   exact absurd H (by simp)
  rw [if_pos c15] at H
  have c15b0 : decide (0 ≤ t162) = true := decide_eq_true c15
  clear c15
  by_cases c16 : t162 < (l0.length : Int); rotate_left
  ·
   rw [if_neg c16] at H
   exact absurd H (by simp)
  rw [if_pos c16] at H
  have c16b0 : decide (t162 < (l0.length : Int)) = true := decide_eq_true c16
  clear c16
  replace H := Option.bind_eq_some_iff.mp H
  obtain ⟨t164, A170, H⟩ := H
  replace H : (some (s1_0, s1_1, s1_2, s1_3, 2, s1_5, s1_6, t164, Int.tmod (rd l0 t162) 2, s1_9, s1_10, l0)) = some (r1, r2, r3, r4, r5, r6, r7, r8, r9, r10, r11, r12) := H
  have A17 := Aside0.mk A170
  clear A170
  simp only [Option.some.injEq, Prod.mk.injEq] at H
  obtain ⟨rfl, rfl, rfl, rfl, rfl, rfl, rfl, rfl, rfl, rfl, rfl, rfl⟩ := H
  obtain ⟨HGz18, hgz18⟩ := HI1.out
  have hcz18_0 := cellS46_0 HGz18
  have hcz18_1 := cellS46_1 HGz18
  have hcz18_2 := cellS46_2 HGz18
  have hcz18_3 := cellS46_3 HGz18
  have hcz18_4 := cellS46_4 HGz18
  have hcz18_5 := cellS46_5 HGz18
  have hcz18_6 := cellS46_6 HGz18
  have hcz18_7 := cellS46_7 HGz18
  have hcz18_8 := cellS46_8 HGz18
  have hcz18_9 := cellS46_9 HGz18
  have hcz18_10 := cellS46_10 HGz18
  have hfz18_0 := blk_frozen HGz18 0
  have hfz18_1 := blk_frozen HGz18 1
  have hfz18_2 := blk_frozen HGz18 2
  have hfz18_3 := blk_frozen HGz18 3
  have hfz18_4 := blk_frozen HGz18 4
  have hfz18_5 := blk_frozen HGz18 5
  have hfz18_6 := blk_frozen HGz18 6
  have hfz18_7 := blk_frozen HGz18 7
  have hfz18_8 := blk_frozen HGz18 8
  have hfz18_9 := blk_frozen HGz18 9
  have hfz18_10 := blk_frozen HGz18 10
  clear HGz18 hgz18
  go_enter Try.func68, Try.ntmps68
  go_wp2_with (first | ((with_reducible refine gate_callee (f := 74) rfl ?_); refine goesL_ (some 61) rfl rfl Try.func74 (by kernel_rfl) rfl #[.int .i64 s1_6] rfl (MA) ?_; (with_reducible refine (spec_l06Word.calls s1_6 t162 _ A14.out).mono ?_); rintro e w' ⟨rfl, ⟨nd, rfl⟩⟩; refine ⟨_, rfl, ?_⟩; (try (rw [drewN_self w]; generalize hq_ : World.drewN w _ = w; have n0_ : Aside0 (Kd.R (Kd.int .i64) 3 w w0.heap.size (fun k_ => (P0_ k_ ∨ wv.heap.size ≤ k_)) u9000_ l0) := ⟨by rw [← hq_]; exact (RQ HO0.out)⟩; have n1_ : Aside0 (IsS46 w0 w g s1_0 s1_1 s1_2 s1_3 s1_4 s1_5 s1_6 s1_7 s1_8 s1_9 s1_10) := ⟨by rw [← hq_]; exact (by repeat (first | (with_reducible first | exact HI1.out | apply IsS46.alloc | apply IsS46.drewN | apply IsS46.drew | apply IsS46.set_0 | apply IsS46.set_1 | apply IsS46.set_2 | apply IsS46.set_3 | apply IsS46.set_4 | apply IsS46.set_5 | apply IsS46.set_6 | apply IsS46.set_7 | apply IsS46.set_8 | apply IsS46.set_9 | apply IsS46.set_10) | exact HI1.out))⟩; have n2_ : Aside0 (Kept wv w (fun k_ => (P0_ k_) ∨ k_ = g)) := ⟨by rw [← hq_]; exact (by repeat (first | (with_reducible first | exact HK.out | apply Kept.alloc | apply Kept.drewN | apply Kept.drew | refine Kept.setCell ?_ (.inl (.inr rfl)) _) | exact HK.out))⟩; have n3_ : Aside0 (Below w0.heap.size w0 w) := ⟨by rw [← hq_]; exact (by repeat (first | (with_reducible first | exact HB.out | apply below_alloc | apply pw_below_drewN | apply below_drew1 | refine below_set ?_ (IsS46.ge HI1.out)) | exact HB.out))⟩; clear HO0 HI1 HK HB hq_; have HO0 := n0_; have HI1 := n1_; have HK := n2_; have HB := n3_; clear n0_ n1_ n2_ n3_; have HGz_ := (HI1.out).1; have hcq0_ := cellS46_0 HGz_; have hfq0_ := blk_frozen HGz_ 0; have hcq1_ := cellS46_1 HGz_; have hfq1_ := blk_frozen HGz_ 1; have hcq2_ := cellS46_2 HGz_; have hfq2_ := blk_frozen HGz_ 2; have hcq3_ := cellS46_3 HGz_; have hfq3_ := blk_frozen HGz_ 3; have hcq4_ := cellS46_4 HGz_; have hfq4_ := blk_frozen HGz_ 4; have hcq5_ := cellS46_5 HGz_; have hfq5_ := blk_frozen HGz_ 5; have hcq6_ := cellS46_6 HGz_; have hfq6_ := blk_frozen HGz_ 6; have hcq7_ := cellS46_7 HGz_; have hfq7_ := blk_frozen HGz_ 7; have hcq8_ := cellS46_8 HGz_; have hfq8_ := blk_frozen HGz_ 8; have hcq9_ := cellS46_9 HGz_; have hfq9_ := blk_frozen HGz_ 9; have hcq10_ := cellS46_10 HGz_; have hfq10_ := blk_frozen HGz_ 10; clear HGz_)); obtain ⟨Ao19, co19, eo19⟩ := Kd.R_slice HO0.out; subst eo19; have p163 : 0 ≤ (t162 : Int) := of_decide_eq_true AS; have q163 : t162 < (l0.length : Int) := of_decide_eq_true AS; obtain ⟨ad163, e163, hx163_0⟩ := Kd.at_int (Kd.R_reads' HO0.out).2.2 t162 p163 q163; cases e163; replace p163 := eq_true p163; replace q163 := eq_true q163) | ((with_reducible refine gate_callee (f := 73) rfl ?_); refine goesL_ (some 66) rfl rfl Try.func73 (by kernel_rfl) rfl #[.int .i64 (rd l0 t162)] rfl (MA) ?_; (with_reducible refine (spec_l06Node.calls (rd l0 t162) t164 _ A17.out).mono ?_); rintro e w' ⟨rfl, ⟨nd, rfl⟩⟩; refine ⟨_, rfl, ?_⟩; (try (rw [drewN_self w]; generalize hq_ : World.drewN w _ = w; have n0_ : Aside0 (Kd.R (Kd.int .i64) 3 w w0.heap.size (fun k_ => (P0_ k_ ∨ wv.heap.size ≤ k_)) (.slice (some ad163) l0.length co19) l0) := ⟨by rw [← hq_]; exact (RQ HO0.out)⟩; have n1_ : Aside0 (IsS46 w0 w g s1_0 s1_1 s1_2 s1_3 s1_4 s1_5 s1_6 s1_7 s1_8 s1_9 s1_10) := ⟨by rw [← hq_]; exact (by repeat (first | (with_reducible first | exact HI1.out | apply IsS46.alloc | apply IsS46.drewN | apply IsS46.drew | apply IsS46.set_0 | apply IsS46.set_1 | apply IsS46.set_2 | apply IsS46.set_3 | apply IsS46.set_4 | apply IsS46.set_5 | apply IsS46.set_6 | apply IsS46.set_7 | apply IsS46.set_8 | apply IsS46.set_9 | apply IsS46.set_10) | exact HI1.out))⟩; have n2_ : Aside0 (Kept wv w (fun k_ => (P0_ k_) ∨ k_ = g)) := ⟨by rw [← hq_]; exact (by repeat (first | (with_reducible first | exact HK.out | apply Kept.alloc | apply Kept.drewN | apply Kept.drew | refine Kept.setCell ?_ (.inl (.inr rfl)) _) | exact HK.out))⟩; have n3_ : Aside0 (Below w0.heap.size w0 w) := ⟨by rw [← hq_]; exact (by repeat (first | (with_reducible first | exact HB.out | apply below_alloc | apply pw_below_drewN | apply below_drew1 | refine below_set ?_ (IsS46.ge HI1.out)) | exact HB.out))⟩; clear HO0 HI1 HK HB hq_; have HO0 := n0_; have HI1 := n1_; have HK := n2_; have HB := n3_; clear n0_ n1_ n2_ n3_; have HGz_ := (HI1.out).1; have hcq0_ := cellS46_0 HGz_; have hfq0_ := blk_frozen HGz_ 0; have hcq1_ := cellS46_1 HGz_; have hfq1_ := blk_frozen HGz_ 1; have hcq2_ := cellS46_2 HGz_; have hfq2_ := blk_frozen HGz_ 2; have hcq3_ := cellS46_3 HGz_; have hfq3_ := blk_frozen HGz_ 3; have hcq4_ := cellS46_4 HGz_; have hfq4_ := blk_frozen HGz_ 4; have hcq5_ := cellS46_5 HGz_; have hfq5_ := blk_frozen HGz_ 5; have hcq6_ := cellS46_6 HGz_; have hfq6_ := blk_frozen HGz_ 6; have hcq7_ := cellS46_7 HGz_; have hfq7_ := blk_frozen HGz_ 7; have hcq8_ := cellS46_8 HGz_; have hfq8_ := blk_frozen HGz_ 8; have hcq9_ := cellS46_9 HGz_; have hfq9_ := blk_frozen HGz_ 9; have hcq10_ := cellS46_10 HGz_; have hfq10_ := blk_frozen HGz_ 10; clear HGz_))))
  first | go_end0 | ((try simp only [Exit.inBlock, Exit.then]); refine bodyPost_ret (results_none rfl _ _ _) rfl ?_)
  exact ⟨EE, by repeat (first | (with_reducible first | exact HI1.out | apply IsS46.alloc | apply IsS46.drewN | apply IsS46.drew | apply IsS46.set_0 | apply IsS46.set_1 | apply IsS46.set_2 | apply IsS46.set_3 | apply IsS46.set_4 | apply IsS46.set_5 | apply IsS46.set_6 | apply IsS46.set_7 | apply IsS46.set_8 | apply IsS46.set_9 | apply IsS46.set_10) | exact HI1.out), by (with_reducible repeat (first | apply r1 | apply r2 | apply r3)); exact Kd.R_mono (Kd.R_far (p := ⟨g, 4, none⟩) (Kd.R_far (p := ⟨g, 8, none⟩) (Kd.R_far (p := ⟨g, 7, none⟩) (IsS46.apart HI1.out HO0.out (by decide)) (fun _ hk => hk.2) (.int .i64 t164)) (fun _ hk => hk.2) (.int .i64 (Int.tmod (rd l0 t162) 2))) (fun _ hk => hk.2) (.int .i64 2)) (fun _ hk => hk.1), by repeat (first | (with_reducible first | exact HB.out | apply below_alloc | apply pw_below_drewN | apply below_drew1 | refine below_set ?_ (IsS46.ge HI1.out)) | exact HB.out), by repeat (first | (with_reducible first | exact HK.out | apply Kept.alloc | apply Kept.drewN | apply Kept.drew | refine Kept.setCell ?_ (.inl (.inr rfl)) _) | exact HK.out)⟩
 rw [if_neg c8] at H
 have c8b0 : (s1_4 == 1) = false := beq_eq_false_iff_ne.mpr c8
 have c8b1 : (s1_4 != 1) = true := bne_iff_ne.mpr c8
 by_cases c20 : s1_4 = 2
 ·
  rw [if_pos c20] at H
  have c20b0 : (s1_4 == 2) = true := beq_iff_eq.mpr c20
  have c20b1 : (s1_4 != 2) = false := bne_eq_false_iff_eq.mpr c20
  clear c20
  replace H := Option.bind_eq_some_iff.mp H
  obtain ⟨⟨t165, t166, t167, t168, t169, t170, t171, t172, t173, t174, t175, t176⟩, A210, H⟩ := H
  replace H : (some (t165, t166, t167, t168, t169, t170, t171, t172, t173, t174, t175, t176)) = some (r1, r2, r3, r4, r5, r6, r7, r8, r9, r10, r11, r12) := H
  have A21 := Aside0.mk A210
  clear A210
  simp only [Option.some.injEq, Prod.mk.injEq] at H
  obtain ⟨rfl, rfl, rfl, rfl, rfl, rfl, rfl, rfl, rfl, rfl, rfl, rfl⟩ := H
  obtain ⟨HGz22, hgz22⟩ := HI1.out
  have hcz22_0 := cellS46_0 HGz22
  have hcz22_1 := cellS46_1 HGz22
  have hcz22_2 := cellS46_2 HGz22
  have hcz22_3 := cellS46_3 HGz22
  have hcz22_4 := cellS46_4 HGz22
  have hcz22_5 := cellS46_5 HGz22
  have hcz22_6 := cellS46_6 HGz22
  have hcz22_7 := cellS46_7 HGz22
  have hcz22_8 := cellS46_8 HGz22
  have hcz22_9 := cellS46_9 HGz22
  have hcz22_10 := cellS46_10 HGz22
  have hfz22_0 := blk_frozen HGz22 0
  have hfz22_1 := blk_frozen HGz22 1
  have hfz22_2 := blk_frozen HGz22 2
  have hfz22_3 := blk_frozen HGz22 3
  have hfz22_4 := blk_frozen HGz22 4
  have hfz22_5 := blk_frozen HGz22 5
  have hfz22_6 := blk_frozen HGz22 6
  have hfz22_7 := blk_frozen HGz22 7
  have hfz22_8 := blk_frozen HGz22 8
  have hfz22_9 := blk_frozen HGz22 9
  have hfz22_10 := blk_frozen HGz22 10
  clear HGz22 hgz22
  obtain ⟨Ao23, co23, eo23⟩ := Kd.R_slice HO0.out
  subst eo23
  go_enter Try.func68, Try.ntmps68
  go_wp2_with (first | ((with_reducible refine gate_callee (f := 78) rfl ?_); refine goesL_ (some 81) rfl rfl Try.func78 (by kernel_rfl) rfl #[.slice Ao23 l0.length co23, .pointer (some ⟨g, 0, none⟩)] rfl (MA) ?_; (with_reducible refine (spec_l06Look.calls (fun k_ => some k_ = (.slice Ao23 l0.length co23 : Value).ownBlock) (.slice Ao23 l0.length co23) l0 g s1_0 s1_1 s1_2 s1_3 s1_4 s1_5 s1_6 s1_7 s1_8 s1_9 s1_10 t165 t166 t167 t168 t169 t170 t171 t172 t173 t174 t175 t176 w0 _ ?side1 ?side2 ?side3 A21.out).mono ?_); (case side1 => repeat (first | (with_reducible first | exact HI1.out | apply IsS46.alloc | apply IsS46.drewN | apply IsS46.drew | apply IsS46.set_0 | apply IsS46.set_1 | apply IsS46.set_2 | apply IsS46.set_3 | apply IsS46.set_4 | apply IsS46.set_5 | apply IsS46.set_6 | apply IsS46.set_7 | apply IsS46.set_8 | apply IsS46.set_9 | apply IsS46.set_10) | exact HI1.out)); (case side2 => repeat (first | (with_reducible first | exact HB.out | apply below_alloc | apply pw_below_drewN | apply below_drew1 | refine below_set ?_ (IsS46.ge HI1.out)) | exact HB.out)); (case side3 => exact Kd.R_tight rfl HO0.out); rintro e w24 ⟨rfl, hi, hy0, hb, hkp⟩; refine ⟨_, rfl, ?_⟩; replace HI1 := Aside0.mk (hi); replace HK := Aside0.mk (Kept.then_ (S := (fun k_ => (P0_ k_) ∨ k_ = g)) (by repeat (first | (with_reducible first | exact HK.out | apply Kept.alloc | apply Kept.drewN | apply Kept.drew | refine Kept.setCell ?_ (.inl (.inr rfl)) _) | exact HK.out)) hkp (fun k_ hs_ => Or.elim hs_ (fun hs_ => (fun e_ => Or.imp_left Or.inl ((HO0.out.1 k_ e_.symm))) hs_) (fun e_ => .inl (.inr e_)))); replace HO0 := Aside0.mk (Kd.R_reok rfl hy0 (fun k_ e_ => HO0.out.1 k_ e_)); replace HB := Aside0.mk (hb); (try clear hb); (try clear hkp); (try clear hy0)))
  first | go_end0 | ((try simp only [Exit.inBlock, Exit.then]); refine bodyPost_ret (results_none rfl _ _ _) rfl ?_)
  exact ⟨EE, by repeat (first | (with_reducible first | exact HI1.out | apply IsS46.alloc | apply IsS46.drewN | apply IsS46.drew | apply IsS46.set_0 | apply IsS46.set_1 | apply IsS46.set_2 | apply IsS46.set_3 | apply IsS46.set_4 | apply IsS46.set_5 | apply IsS46.set_6 | apply IsS46.set_7 | apply IsS46.set_8 | apply IsS46.set_9 | apply IsS46.set_10) | exact HI1.out), RQ HO0.out, by repeat (first | (with_reducible first | exact HB.out | apply below_alloc | apply pw_below_drewN | apply below_drew1 | refine below_set ?_ (IsS46.ge HI1.out)) | exact HB.out), by repeat (first | (with_reducible first | exact HK.out | apply Kept.alloc | apply Kept.drewN | apply Kept.drew | refine Kept.setCell ?_ (.inl (.inr rfl)) _) | exact HK.out)⟩
 rw [if_neg c20] at H
 have c20b0 : (s1_4 == 2) = false := beq_eq_false_iff_ne.mpr c20
 have c20b1 : (s1_4 != 2) = true := bne_iff_ne.mpr c20
 by_cases c25 : s1_4 = 3
 ·
  rw [if_pos c25] at H
  have c25b0 : (s1_4 == 3) = true := beq_iff_eq.mpr c25
  have c25b1 : (s1_4 != 3) = false := bne_eq_false_iff_eq.mpr c25
  clear c25
  replace H := Option.bind_eq_some_iff.mp H
  obtain ⟨⟨t177, t178, t179, t180, t181, t182, t183, t184, t185, t186, t187, t188⟩, A260, H⟩ := H
  replace H : (some (t177, t178, t179, t180, t181, t182, t183, t184, t185, t186, t187, t188)) = some (r1, r2, r3, r4, r5, r6, r7, r8, r9, r10, r11, r12) := H
  have A26 := Aside0.mk A260
  clear A260
  simp only [Option.some.injEq, Prod.mk.injEq] at H
  obtain ⟨rfl, rfl, rfl, rfl, rfl, rfl, rfl, rfl, rfl, rfl, rfl, rfl⟩ := H
  obtain ⟨HGz27, hgz27⟩ := HI1.out
  have hcz27_0 := cellS46_0 HGz27
  have hcz27_1 := cellS46_1 HGz27
  have hcz27_2 := cellS46_2 HGz27
  have hcz27_3 := cellS46_3 HGz27
  have hcz27_4 := cellS46_4 HGz27
  have hcz27_5 := cellS46_5 HGz27
  have hcz27_6 := cellS46_6 HGz27
  have hcz27_7 := cellS46_7 HGz27
  have hcz27_8 := cellS46_8 HGz27
  have hcz27_9 := cellS46_9 HGz27
  have hcz27_10 := cellS46_10 HGz27
  have hfz27_0 := blk_frozen HGz27 0
  have hfz27_1 := blk_frozen HGz27 1
  have hfz27_2 := blk_frozen HGz27 2
  have hfz27_3 := blk_frozen HGz27 3
  have hfz27_4 := blk_frozen HGz27 4
  have hfz27_5 := blk_frozen HGz27 5
  have hfz27_6 := blk_frozen HGz27 6
  have hfz27_7 := blk_frozen HGz27 7
  have hfz27_8 := blk_frozen HGz27 8
  have hfz27_9 := blk_frozen HGz27 9
  have hfz27_10 := blk_frozen HGz27 10
  clear HGz27 hgz27
  obtain ⟨Ao28, co28, eo28⟩ := Kd.R_slice HO0.out
  subst eo28
  go_enter Try.func68, Try.ntmps68
  go_wp2_with (first | ((with_reducible refine gate_callee (f := 79) rfl ?_); refine goesL_ (some 86) rfl rfl Try.func79 (by kernel_rfl) rfl #[.slice Ao28 l0.length co28, .pointer (some ⟨g, 0, none⟩)] rfl (MA) ?_; (with_reducible refine (spec_l06Found.calls (fun k_ => some k_ = (.slice Ao28 l0.length co28 : Value).ownBlock) (.slice Ao28 l0.length co28) l0 g s1_0 s1_1 s1_2 s1_3 s1_4 s1_5 s1_6 s1_7 s1_8 s1_9 s1_10 t177 t178 t179 t180 t181 t182 t183 t184 t185 t186 t187 t188 w0 _ ?side1 ?side2 ?side3 A26.out).mono ?_); (case side1 => repeat (first | (with_reducible first | exact HI1.out | apply IsS46.alloc | apply IsS46.drewN | apply IsS46.drew | apply IsS46.set_0 | apply IsS46.set_1 | apply IsS46.set_2 | apply IsS46.set_3 | apply IsS46.set_4 | apply IsS46.set_5 | apply IsS46.set_6 | apply IsS46.set_7 | apply IsS46.set_8 | apply IsS46.set_9 | apply IsS46.set_10) | exact HI1.out)); (case side2 => repeat (first | (with_reducible first | exact HB.out | apply below_alloc | apply pw_below_drewN | apply below_drew1 | refine below_set ?_ (IsS46.ge HI1.out)) | exact HB.out)); (case side3 => exact Kd.R_tight rfl HO0.out); rintro e w29 ⟨rfl, hi, hy0, hb, hkp⟩; refine ⟨_, rfl, ?_⟩; replace HI1 := Aside0.mk (hi); replace HK := Aside0.mk (Kept.then_ (S := (fun k_ => (P0_ k_) ∨ k_ = g)) (by repeat (first | (with_reducible first | exact HK.out | apply Kept.alloc | apply Kept.drewN | apply Kept.drew | refine Kept.setCell ?_ (.inl (.inr rfl)) _) | exact HK.out)) hkp (fun k_ hs_ => Or.elim hs_ (fun hs_ => (fun e_ => Or.imp_left Or.inl ((HO0.out.1 k_ e_.symm))) hs_) (fun e_ => .inl (.inr e_)))); replace HO0 := Aside0.mk (Kd.R_reok rfl hy0 (fun k_ e_ => HO0.out.1 k_ e_)); replace HB := Aside0.mk (hb); (try clear hb); (try clear hkp); (try clear hy0)))
  first | go_end0 | ((try simp only [Exit.inBlock, Exit.then]); refine bodyPost_ret (results_none rfl _ _ _) rfl ?_)
  exact ⟨EE, by repeat (first | (with_reducible first | exact HI1.out | apply IsS46.alloc | apply IsS46.drewN | apply IsS46.drew | apply IsS46.set_0 | apply IsS46.set_1 | apply IsS46.set_2 | apply IsS46.set_3 | apply IsS46.set_4 | apply IsS46.set_5 | apply IsS46.set_6 | apply IsS46.set_7 | apply IsS46.set_8 | apply IsS46.set_9 | apply IsS46.set_10) | exact HI1.out), RQ HO0.out, by repeat (first | (with_reducible first | exact HB.out | apply below_alloc | apply pw_below_drewN | apply below_drew1 | refine below_set ?_ (IsS46.ge HI1.out)) | exact HB.out), by repeat (first | (with_reducible first | exact HK.out | apply Kept.alloc | apply Kept.drewN | apply Kept.drew | refine Kept.setCell ?_ (.inl (.inr rfl)) _) | exact HK.out)⟩
 rw [if_neg c25] at H
 have c25b0 : (s1_4 == 3) = false := beq_eq_false_iff_ne.mpr c25
 have c25b1 : (s1_4 != 3) = true := bne_iff_ne.mpr c25
 by_cases c30 : s1_4 = 4
 ·
  rw [if_pos c30] at H
  have c30b0 : (s1_4 == 4) = true := beq_iff_eq.mpr c30
  have c30b1 : (s1_4 != 4) = false := bne_eq_false_iff_eq.mpr c30
  clear c30
  replace H := Option.bind_eq_some_iff.mp H
  obtain ⟨⟨t189, t190⟩, A310, H⟩ := H
  replace H : (if t189 = true then (some (s1_0, s1_1, s1_2, s1_3, s1_4, s1_5, s1_6, s1_7, s1_8, true, 1, t190)) else (some (s1_0, s1_1, s1_2, s1_3, 0, s1_5, s1_6, s1_7, s1_8, s1_9, s1_10, t190))) = some (r1, r2, r3, r4, r5, r6, r7, r8, r9, r10, r11, r12) := H
  have A31 := Aside0.mk A310
  clear A310
  by_cases c32 : t189 = true
  ·
   subst c32
   have H1 : (some (s1_0, s1_1, s1_2, s1_3, s1_4, s1_5, s1_6, s1_7, s1_8, true, 1, t190)) = some (r1, r2, r3, r4, r5, r6, r7, r8, r9, r10, r11, r12) := by rw [if_pos rfl] at H; exact H
   clear H
   have H := H1
   clear H1
   simp only [Option.some.injEq, Prod.mk.injEq] at H
   obtain ⟨rfl, rfl, rfl, rfl, rfl, rfl, rfl, rfl, rfl, rfl, rfl, rfl⟩ := H
   obtain ⟨HGz33, hgz33⟩ := HI1.out
   have hcz33_0 := cellS46_0 HGz33
   have hcz33_1 := cellS46_1 HGz33
   have hcz33_2 := cellS46_2 HGz33
   have hcz33_3 := cellS46_3 HGz33
   have hcz33_4 := cellS46_4 HGz33
   have hcz33_5 := cellS46_5 HGz33
   have hcz33_6 := cellS46_6 HGz33
   have hcz33_7 := cellS46_7 HGz33
   have hcz33_8 := cellS46_8 HGz33
   have hcz33_9 := cellS46_9 HGz33
   have hcz33_10 := cellS46_10 HGz33
   have hfz33_0 := blk_frozen HGz33 0
   have hfz33_1 := blk_frozen HGz33 1
   have hfz33_2 := blk_frozen HGz33 2
   have hfz33_3 := blk_frozen HGz33 3
   have hfz33_4 := blk_frozen HGz33 4
   have hfz33_5 := blk_frozen HGz33 5
   have hfz33_6 := blk_frozen HGz33 6
   have hfz33_7 := blk_frozen HGz33 7
   have hfz33_8 := blk_frozen HGz33 8
   have hfz33_9 := blk_frozen HGz33 9
   have hfz33_10 := blk_frozen HGz33 10
   clear HGz33 hgz33
   go_enter Try.func68, Try.ntmps68
   try go_wp2
   have n0_ := Aside0.mk (Kd.R_drew HO0.out)
   have n1_ := Aside0.mk (IsS46.drew HI1.out)
   have n2_ := Aside0.mk (Kept.drew HK.out)
   have n3_ := Aside0.mk (below_drew1 HB.out)
   clear HO0
   clear HI1
   clear HK
   clear HB
   have HO0 := n0_
   have HI1 := n1_
   have HK := n2_
   have HB := n3_
   clear n0_ n1_ n2_ n3_
   obtain ⟨Ao35, co35, eo35⟩ := Kd.R_slice HO0.out
   (first | subst eo35 | (injection eo35 with f1_ f2_ f3_; have f4_ := f1_.symm; have f5_ := f3_.symm; clear f1_ f2_ f3_; subst f4_; subst f5_))
   refine start_ (n := 16) (S := fun w' => w'.cell? ⟨g, 0, none⟩ = some (.int .i64 s1_0) ∧ w'.cell? ⟨g, 1, none⟩ = some (.int .i64 s1_1) ∧ w'.cell? ⟨g, 2, none⟩ = some (.int .i64 s1_2) ∧ w'.cell? ⟨g, 3, none⟩ = some (.int .i64 s1_3) ∧ w'.cell? ⟨g, 4, none⟩ = some (.int .i64 s1_4) ∧ w'.cell? ⟨g, 5, none⟩ = some (.int .i64 s1_5) ∧ w'.cell? ⟨g, 6, none⟩ = some (.int .i64 s1_6) ∧ w'.cell? ⟨g, 7, none⟩ = some (.int .i64 s1_7) ∧ w'.cell? ⟨g, 8, none⟩ = some (.int .i64 s1_8) ∧ w'.cell? ⟨g, 9, none⟩ = some (.bool s1_9) ∧ w'.cell? ⟨g, 10, none⟩ = some (.int .i64 s1_10)) (ds := []) #[false, false, false, false, false, false, false, false, false, false, false, false, false, false, false, false] (by kernel_rfl) rfl rfl ⟨(blk_cell (Aside0.mk (HI1.out).1).out 0).trans rfl, (blk_cell (Aside0.mk (HI1.out).1).out 1).trans rfl, (blk_cell (Aside0.mk (HI1.out).1).out 2).trans rfl, (blk_cell (Aside0.mk (HI1.out).1).out 3).trans rfl, (blk_cell (Aside0.mk (HI1.out).1).out 4).trans rfl, (blk_cell (Aside0.mk (HI1.out).1).out 5).trans rfl, (blk_cell (Aside0.mk (HI1.out).1).out 6).trans rfl, (blk_cell (Aside0.mk (HI1.out).1).out 7).trans rfl, (blk_cell (Aside0.mk (HI1.out).1).out 8).trans rfl, (blk_cell (Aside0.mk (HI1.out).1).out 9).trans rfl, (blk_cell (Aside0.mk (HI1.out).1).out 10).trans rfl⟩ (fun hHeld => ?_); refine with_tabW spec_l06Step.tab20 spec_l06Step.bits20 (fun HT_ HW_ => ?_)
   generalize w.drew = w34 at HO0 HI1 HK HB hHeld ⊢
   refine pV 0 89 (OB 16 1) ?_
   refine pV 1 90 (OB 16 3) ?_
   refine pV 2 91 (OB 16 7) ?_
   refine pV 3 92 (OB 16 15) ?_
   refine pV 5 94 (OB 16 47) ?_
   refine pV 6 95 (OB 16 111) ?_
   refine pV 7 96 (OB 16 239) ?_
   refine pV 10 99 (OB 16 1263) ?_
   refine pV 11 100 (OB 16 3311) ?_
   refine pV 12 101 (OB 16 7407) ?_
   refine take_ (i := 4) (N := some 93) (v := ?_) (a' := ?_) (OB 16 7423) rfl rfl (take_ofW HT_.out HW_.out (by kernel_rfl)) (fun _ _ _ h => h) (Or.inl ⟨by rfl, ?_⟩) hHeld ?_ ?_
   rotate_left
   ·
    rintro w' ⟨s0, s1, s2, s3, s4, s5, s6, s7, s8, s9, s10⟩
    go_simp
    with_reducible rfl
   rotate_left
   ·
    simp only [Act.put, zA, zB, zC, i64_w, i32_w]
    rfl
   refine take_ (i := 8) (N := some 97) (v := ?_) (a' := ?_) (OB 16 7679) rfl rfl (take_ofW HT_.out HW_.out (by kernel_rfl)) (fun _ _ _ h => h) (Or.inl ⟨by rfl, ?_⟩) hHeld ?_ ?_
   rotate_left
   ·
    rintro w' ⟨s0, s1, s2, s3, s4, s5, s6, s7, s8, s9, s10⟩
    go_simp
    with_reducible rfl
   rotate_left
   ·
    simp only [Act.put, zA, zB, zC, i64_w, i32_w]
    rfl
   refine pV 9 98 (OB 16 8191) ?_
   refine take_ (i := 13) (N := some 102) (v := ?_) (a' := ?_) (OB 16 16383) rfl rfl (take_ofW HT_.out HW_.out (by kernel_rfl)) (fun _ _ _ h => h) (Or.inl ⟨by rfl, ?_⟩) hHeld ?_ ?_
   rotate_left
   ·
    rintro w' ⟨s0, s1, s2, s3, s4, s5, s6, s7, s8, s9, s10⟩
    go_simp
    with_reducible rfl
   rotate_left
   ·
    simp only [Act.put, zA, zB, zC, i64_w, i32_w]
    rfl
   refine pV 14 103 (OB 16 32767) ?_
   refine one_ (i := 15) (N := some 104) (OB 16 65535) rfl rfl (one_of HT_.out (by kernel_rfl)) (by decide) (fun K hK => ?_)
   refine goes_ Try.func80 (by kernel_rfl) rfl #[.slice Ao35 l0.length co35, .int .i64 s1_5, .int .i64 (wrap64 (2 * s1_6)), .int .i64 (wrap64 (2 * s1_3))] (by rfl) rfl rfl (MA) ?_
   with_reducible refine (spec_l06Swap.calls (fun k_ => some k_ = (.slice Ao35 l0.length co35 : Value).ownBlock) (.slice Ao35 l0.length co35) l0 s1_5 (wrap64 (2 * s1_6)) (wrap64 (2 * s1_3)) true t190 w0 _ ?side1 ?side2 A31.out).mono ?_
   (case side1 => repeat (first | (with_reducible first | exact HB.out | apply below_alloc | apply pw_below_drewN | apply below_drew1 | refine below_set ?_ (IsS46.ge HI1.out)) | exact HB.out))
   (case side2 => exact Kd.R_tight rfl HO0.out)
   rintro e w36 ⟨rfl, hy0, hb, hkp⟩
   refine ⟨_, rfl, ?_⟩
   have n0_ := Aside0.mk (IsS46.kept (by repeat (first | (with_reducible first | exact HI1.out | apply IsS46.alloc | apply IsS46.drewN | apply IsS46.drew | apply IsS46.set_0 | apply IsS46.set_1 | apply IsS46.set_2 | apply IsS46.set_3 | apply IsS46.set_4 | apply IsS46.set_5 | apply IsS46.set_6 | apply IsS46.set_7 | apply IsS46.set_8 | apply IsS46.set_9 | apply IsS46.set_10) | exact HI1.out)) hkp (fun hs_ => (fun e_ => (IsS46.own_ne HI1.out HO0.out (by decide)) e_) hs_))
   have n1_ := Aside0.mk (Kd.R_reok rfl hy0 (fun k_ e_ => HO0.out.1 k_ e_))
   have n2_ := Aside0.mk (Kept.then_ (S := (fun k_ => (P0_ k_) ∨ k_ = g)) (by repeat (first | (with_reducible first | exact HK.out | apply Kept.alloc | apply Kept.drewN | apply Kept.drew | refine Kept.setCell ?_ (.inl (.inr rfl)) _) | exact HK.out)) hkp (fun k_ hs_ => (fun e_ => Or.imp_left Or.inl ((HO0.out.1 k_ e_.symm))) hs_))
   have n3_ := Aside0.mk (hb)
   clear HI1
   clear HO0
   clear HK
   clear HB
   have HI1 := n0_
   have HO0 := n1_
   have HK := n2_
   have HB := n3_
   clear n0_ n1_ n2_ n3_
   (try clear hb)
   (try clear hkp)
   (try clear hy0)
   refine hK.out _ _ ⟨(blk_cell (Aside0.mk (HI1.out).1).out 0).trans rfl, (blk_cell (Aside0.mk (HI1.out).1).out 1).trans rfl, (blk_cell (Aside0.mk (HI1.out).1).out 2).trans rfl, (blk_cell (Aside0.mk (HI1.out).1).out 3).trans rfl, (blk_cell (Aside0.mk (HI1.out).1).out 4).trans rfl, (blk_cell (Aside0.mk (HI1.out).1).out 5).trans rfl, (blk_cell (Aside0.mk (HI1.out).1).out 6).trans rfl, (blk_cell (Aside0.mk (HI1.out).1).out 7).trans rfl, (blk_cell (Aside0.mk (HI1.out).1).out 8).trans rfl, (blk_cell (Aside0.mk (HI1.out).1).out 9).trans rfl, (blk_cell (Aside0.mk (HI1.out).1).out 10).trans rfl⟩ (fun hHeld => ?_)
   clear hK K
   refine norm_ (a' := ?_) ?_ ?_
   rotate_left
   ·
    show Act.put _ (some 104) _ = _
    simp only [Act.put, zA, zB, zC, i64_w, i32_w]
    rfl
   refine done_ (done_of HT_.out (by kernel_rfl)) ?_
   obtain ⟨HGz37, hgz37⟩ := HI1.out
   have hcz37_0 := cellS46_0 HGz37
   have hcz37_1 := cellS46_1 HGz37
   have hcz37_2 := cellS46_2 HGz37
   have hcz37_3 := cellS46_3 HGz37
   have hcz37_4 := cellS46_4 HGz37
   have hcz37_5 := cellS46_5 HGz37
   have hcz37_6 := cellS46_6 HGz37
   have hcz37_7 := cellS46_7 HGz37
   have hcz37_8 := cellS46_8 HGz37
   have hcz37_9 := cellS46_9 HGz37
   have hcz37_10 := cellS46_10 HGz37
   have hfz37_0 := blk_frozen HGz37 0
   have hfz37_1 := blk_frozen HGz37 1
   have hfz37_2 := blk_frozen HGz37 2
   have hfz37_3 := blk_frozen HGz37 3
   have hfz37_4 := blk_frozen HGz37 4
   have hfz37_5 := blk_frozen HGz37 5
   have hfz37_6 := blk_frozen HGz37 6
   have hfz37_7 := blk_frozen HGz37 7
   have hfz37_8 := blk_frozen HGz37 8
   have hfz37_9 := blk_frozen HGz37 9
   have hfz37_10 := blk_frozen HGz37 10
   clear HGz37 hgz37
   try go_wp2
   first | go_end0 | ((try simp only [Exit.inBlock, Exit.then]); refine bodyPost_ret (results_none rfl _ _ _) rfl ?_)
   exact ⟨EE, by repeat (first | (with_reducible first | exact HI1.out | apply IsS46.alloc | apply IsS46.drewN | apply IsS46.drew | apply IsS46.set_0 | apply IsS46.set_1 | apply IsS46.set_2 | apply IsS46.set_3 | apply IsS46.set_4 | apply IsS46.set_5 | apply IsS46.set_6 | apply IsS46.set_7 | apply IsS46.set_8 | apply IsS46.set_9 | apply IsS46.set_10) | exact HI1.out), by (with_reducible repeat (first | apply r1 | apply r2 | apply r3)); exact Kd.R_mono (Kd.R_far (p := ⟨g, 10, none⟩) (Kd.R_far (p := ⟨g, 9, none⟩) (IsS46.apart HI1.out HO0.out (by decide)) (fun _ hk => hk.2) (.bool true)) (fun _ hk => hk.2) (.int .i64 1)) (fun _ hk => hk.1), by repeat (first | (with_reducible first | exact HB.out | apply below_alloc | apply pw_below_drewN | apply below_drew1 | refine below_set ?_ (IsS46.ge HI1.out)) | exact HB.out), by repeat (first | (with_reducible first | exact HK.out | apply Kept.alloc | apply Kept.drewN | apply Kept.drew | refine Kept.setCell ?_ (.inl (.inr rfl)) _) | exact HK.out)⟩
  replace c32 := Bool.eq_false_iff.mpr c32
  subst c32
  have H1 : (some (s1_0, s1_1, s1_2, s1_3, 0, s1_5, s1_6, s1_7, s1_8, s1_9, s1_10, t190)) = some (r1, r2, r3, r4, r5, r6, r7, r8, r9, r10, r11, r12) := by rw [if_neg (show ¬ (false = true) by decide)] at H; exact H
  clear H
  have H := H1
  clear H1
  simp only [Option.some.injEq, Prod.mk.injEq] at H
  obtain ⟨rfl, rfl, rfl, rfl, rfl, rfl, rfl, rfl, rfl, rfl, rfl, rfl⟩ := H
  obtain ⟨HGz38, hgz38⟩ := HI1.out
  have hcz38_0 := cellS46_0 HGz38
  have hcz38_1 := cellS46_1 HGz38
  have hcz38_2 := cellS46_2 HGz38
  have hcz38_3 := cellS46_3 HGz38
  have hcz38_4 := cellS46_4 HGz38
  have hcz38_5 := cellS46_5 HGz38
  have hcz38_6 := cellS46_6 HGz38
  have hcz38_7 := cellS46_7 HGz38
  have hcz38_8 := cellS46_8 HGz38
  have hcz38_9 := cellS46_9 HGz38
  have hcz38_10 := cellS46_10 HGz38
  have hfz38_0 := blk_frozen HGz38 0
  have hfz38_1 := blk_frozen HGz38 1
  have hfz38_2 := blk_frozen HGz38 2
  have hfz38_3 := blk_frozen HGz38 3
  have hfz38_4 := blk_frozen HGz38 4
  have hfz38_5 := blk_frozen HGz38 5
  have hfz38_6 := blk_frozen HGz38 6
  have hfz38_7 := blk_frozen HGz38 7
  have hfz38_8 := blk_frozen HGz38 8
  have hfz38_9 := blk_frozen HGz38 9
  have hfz38_10 := blk_frozen HGz38 10
  clear HGz38 hgz38
  go_enter Try.func68, Try.ntmps68
  try go_wp2
  have n0_ := Aside0.mk (Kd.R_drew HO0.out)
  have n1_ := Aside0.mk (IsS46.drew HI1.out)
  have n2_ := Aside0.mk (Kept.drew HK.out)
  have n3_ := Aside0.mk (below_drew1 HB.out)
  clear HO0
  clear HI1
  clear HK
  clear HB
  have HO0 := n0_
  have HI1 := n1_
  have HK := n2_
  have HB := n3_
  clear n0_ n1_ n2_ n3_
  obtain ⟨Ao40, co40, eo40⟩ := Kd.R_slice HO0.out
  (first | subst eo40 | (injection eo40 with f1_ f2_ f3_; have f4_ := f1_.symm; have f5_ := f3_.symm; clear f1_ f2_ f3_; subst f4_; subst f5_))
  refine start_ (n := 16) (S := fun w' => w'.cell? ⟨g, 0, none⟩ = some (.int .i64 s1_0) ∧ w'.cell? ⟨g, 1, none⟩ = some (.int .i64 s1_1) ∧ w'.cell? ⟨g, 2, none⟩ = some (.int .i64 s1_2) ∧ w'.cell? ⟨g, 3, none⟩ = some (.int .i64 s1_3) ∧ w'.cell? ⟨g, 4, none⟩ = some (.int .i64 s1_4) ∧ w'.cell? ⟨g, 5, none⟩ = some (.int .i64 s1_5) ∧ w'.cell? ⟨g, 6, none⟩ = some (.int .i64 s1_6) ∧ w'.cell? ⟨g, 7, none⟩ = some (.int .i64 s1_7) ∧ w'.cell? ⟨g, 8, none⟩ = some (.int .i64 s1_8) ∧ w'.cell? ⟨g, 9, none⟩ = some (.bool s1_9) ∧ w'.cell? ⟨g, 10, none⟩ = some (.int .i64 s1_10)) (ds := []) #[false, false, false, false, false, false, false, false, false, false, false, false, false, false, false, false] (by kernel_rfl) rfl rfl ⟨(blk_cell (Aside0.mk (HI1.out).1).out 0).trans rfl, (blk_cell (Aside0.mk (HI1.out).1).out 1).trans rfl, (blk_cell (Aside0.mk (HI1.out).1).out 2).trans rfl, (blk_cell (Aside0.mk (HI1.out).1).out 3).trans rfl, (blk_cell (Aside0.mk (HI1.out).1).out 4).trans rfl, (blk_cell (Aside0.mk (HI1.out).1).out 5).trans rfl, (blk_cell (Aside0.mk (HI1.out).1).out 6).trans rfl, (blk_cell (Aside0.mk (HI1.out).1).out 7).trans rfl, (blk_cell (Aside0.mk (HI1.out).1).out 8).trans rfl, (blk_cell (Aside0.mk (HI1.out).1).out 9).trans rfl, (blk_cell (Aside0.mk (HI1.out).1).out 10).trans rfl⟩ (fun hHeld => ?_); refine with_tabW spec_l06Step.tab20 spec_l06Step.bits20 (fun HT_ HW_ => ?_)
  generalize w.drew = w39 at HO0 HI1 HK HB hHeld ⊢
  refine pV 0 89 (OB 16 1) ?_
  refine pV 1 90 (OB 16 3) ?_
  refine pV 2 91 (OB 16 7) ?_
  refine pV 3 92 (OB 16 15) ?_
  refine pV 5 94 (OB 16 47) ?_
  refine pV 6 95 (OB 16 111) ?_
  refine pV 7 96 (OB 16 239) ?_
  refine pV 10 99 (OB 16 1263) ?_
  refine pV 11 100 (OB 16 3311) ?_
  refine pV 12 101 (OB 16 7407) ?_
  refine take_ (i := 4) (N := some 93) (v := ?_) (a' := ?_) (OB 16 7423) rfl rfl (take_ofW HT_.out HW_.out (by kernel_rfl)) (fun _ _ _ h => h) (Or.inl ⟨by rfl, ?_⟩) hHeld ?_ ?_
  rotate_left
  ·
   rintro w' ⟨s0, s1, s2, s3, s4, s5, s6, s7, s8, s9, s10⟩
   go_simp
   with_reducible rfl
  rotate_left
  ·
   simp only [Act.put, zA, zB, zC, i64_w, i32_w]
   rfl
  refine take_ (i := 8) (N := some 97) (v := ?_) (a' := ?_) (OB 16 7679) rfl rfl (take_ofW HT_.out HW_.out (by kernel_rfl)) (fun _ _ _ h => h) (Or.inl ⟨by rfl, ?_⟩) hHeld ?_ ?_
  rotate_left
  ·
   rintro w' ⟨s0, s1, s2, s3, s4, s5, s6, s7, s8, s9, s10⟩
   go_simp
   with_reducible rfl
  rotate_left
  ·
   simp only [Act.put, zA, zB, zC, i64_w, i32_w]
   rfl
  refine pV 9 98 (OB 16 8191) ?_
  refine take_ (i := 13) (N := some 102) (v := ?_) (a' := ?_) (OB 16 16383) rfl rfl (take_ofW HT_.out HW_.out (by kernel_rfl)) (fun _ _ _ h => h) (Or.inl ⟨by rfl, ?_⟩) hHeld ?_ ?_
  rotate_left
  ·
   rintro w' ⟨s0, s1, s2, s3, s4, s5, s6, s7, s8, s9, s10⟩
   go_simp
   with_reducible rfl
  rotate_left
  ·
   simp only [Act.put, zA, zB, zC, i64_w, i32_w]
   rfl
  refine pV 14 103 (OB 16 32767) ?_
  refine one_ (i := 15) (N := some 104) (OB 16 65535) rfl rfl (one_of HT_.out (by kernel_rfl)) (by decide) (fun K hK => ?_)
  refine goes_ Try.func80 (by kernel_rfl) rfl #[.slice Ao40 l0.length co40, .int .i64 s1_5, .int .i64 (wrap64 (2 * s1_6)), .int .i64 (wrap64 (2 * s1_3))] (by rfl) rfl rfl (MA) ?_
  with_reducible refine (spec_l06Swap.calls (fun k_ => some k_ = (.slice Ao40 l0.length co40 : Value).ownBlock) (.slice Ao40 l0.length co40) l0 s1_5 (wrap64 (2 * s1_6)) (wrap64 (2 * s1_3)) false t190 w0 _ ?side1 ?side2 A31.out).mono ?_
  (case side1 => repeat (first | (with_reducible first | exact HB.out | apply below_alloc | apply pw_below_drewN | apply below_drew1 | refine below_set ?_ (IsS46.ge HI1.out)) | exact HB.out))
  (case side2 => exact Kd.R_tight rfl HO0.out)
  rintro e w41 ⟨rfl, hy0, hb, hkp⟩
  refine ⟨_, rfl, ?_⟩
  have n0_ := Aside0.mk (IsS46.kept (by repeat (first | (with_reducible first | exact HI1.out | apply IsS46.alloc | apply IsS46.drewN | apply IsS46.drew | apply IsS46.set_0 | apply IsS46.set_1 | apply IsS46.set_2 | apply IsS46.set_3 | apply IsS46.set_4 | apply IsS46.set_5 | apply IsS46.set_6 | apply IsS46.set_7 | apply IsS46.set_8 | apply IsS46.set_9 | apply IsS46.set_10) | exact HI1.out)) hkp (fun hs_ => (fun e_ => (IsS46.own_ne HI1.out HO0.out (by decide)) e_) hs_))
  have n1_ := Aside0.mk (Kd.R_reok rfl hy0 (fun k_ e_ => HO0.out.1 k_ e_))
  have n2_ := Aside0.mk (Kept.then_ (S := (fun k_ => (P0_ k_) ∨ k_ = g)) (by repeat (first | (with_reducible first | exact HK.out | apply Kept.alloc | apply Kept.drewN | apply Kept.drew | refine Kept.setCell ?_ (.inl (.inr rfl)) _) | exact HK.out)) hkp (fun k_ hs_ => (fun e_ => Or.imp_left Or.inl ((HO0.out.1 k_ e_.symm))) hs_))
  have n3_ := Aside0.mk (hb)
  clear HI1
  clear HO0
  clear HK
  clear HB
  have HI1 := n0_
  have HO0 := n1_
  have HK := n2_
  have HB := n3_
  clear n0_ n1_ n2_ n3_
  (try clear hb)
  (try clear hkp)
  (try clear hy0)
  refine hK.out _ _ ⟨(blk_cell (Aside0.mk (HI1.out).1).out 0).trans rfl, (blk_cell (Aside0.mk (HI1.out).1).out 1).trans rfl, (blk_cell (Aside0.mk (HI1.out).1).out 2).trans rfl, (blk_cell (Aside0.mk (HI1.out).1).out 3).trans rfl, (blk_cell (Aside0.mk (HI1.out).1).out 4).trans rfl, (blk_cell (Aside0.mk (HI1.out).1).out 5).trans rfl, (blk_cell (Aside0.mk (HI1.out).1).out 6).trans rfl, (blk_cell (Aside0.mk (HI1.out).1).out 7).trans rfl, (blk_cell (Aside0.mk (HI1.out).1).out 8).trans rfl, (blk_cell (Aside0.mk (HI1.out).1).out 9).trans rfl, (blk_cell (Aside0.mk (HI1.out).1).out 10).trans rfl⟩ (fun hHeld => ?_)
  clear hK K
  refine norm_ (a' := ?_) ?_ ?_
  rotate_left
  ·
   show Act.put _ (some 104) _ = _
   simp only [Act.put, zA, zB, zC, i64_w, i32_w]
   rfl
  refine done_ (done_of HT_.out (by kernel_rfl)) ?_
  obtain ⟨HGz42, hgz42⟩ := HI1.out
  have hcz42_0 := cellS46_0 HGz42
  have hcz42_1 := cellS46_1 HGz42
  have hcz42_2 := cellS46_2 HGz42
  have hcz42_3 := cellS46_3 HGz42
  have hcz42_4 := cellS46_4 HGz42
  have hcz42_5 := cellS46_5 HGz42
  have hcz42_6 := cellS46_6 HGz42
  have hcz42_7 := cellS46_7 HGz42
  have hcz42_8 := cellS46_8 HGz42
  have hcz42_9 := cellS46_9 HGz42
  have hcz42_10 := cellS46_10 HGz42
  have hfz42_0 := blk_frozen HGz42 0
  have hfz42_1 := blk_frozen HGz42 1
  have hfz42_2 := blk_frozen HGz42 2
  have hfz42_3 := blk_frozen HGz42 3
  have hfz42_4 := blk_frozen HGz42 4
  have hfz42_5 := blk_frozen HGz42 5
  have hfz42_6 := blk_frozen HGz42 6
  have hfz42_7 := blk_frozen HGz42 7
  have hfz42_8 := blk_frozen HGz42 8
  have hfz42_9 := blk_frozen HGz42 9
  have hfz42_10 := blk_frozen HGz42 10
  clear HGz42 hgz42
  try go_wp2
  first | go_end0 | ((try simp only [Exit.inBlock, Exit.then]); refine bodyPost_ret (results_none rfl _ _ _) rfl ?_)
  exact ⟨EE, by repeat (first | (with_reducible first | exact HI1.out | apply IsS46.alloc | apply IsS46.drewN | apply IsS46.drew | apply IsS46.set_0 | apply IsS46.set_1 | apply IsS46.set_2 | apply IsS46.set_3 | apply IsS46.set_4 | apply IsS46.set_5 | apply IsS46.set_6 | apply IsS46.set_7 | apply IsS46.set_8 | apply IsS46.set_9 | apply IsS46.set_10) | exact HI1.out), by (with_reducible repeat (first | apply r1 | apply r2 | apply r3)); exact Kd.R_mono (Kd.R_far (p := ⟨g, 4, none⟩) (IsS46.apart HI1.out HO0.out (by decide)) (fun _ hk => hk.2) (.int .i64 0)) (fun _ hk => hk.1), by repeat (first | (with_reducible first | exact HB.out | apply below_alloc | apply pw_below_drewN | apply below_drew1 | refine below_set ?_ (IsS46.ge HI1.out)) | exact HB.out), by repeat (first | (with_reducible first | exact HK.out | apply Kept.alloc | apply Kept.drewN | apply Kept.drew | refine Kept.setCell ?_ (.inl (.inr rfl)) _) | exact HK.out)⟩
 rw [if_neg c30] at H
 have c30b0 : (s1_4 == 4) = false := beq_eq_false_iff_ne.mpr c30
 have c30b1 : (s1_4 != 4) = true := bne_iff_ne.mpr c30
 by_cases c43 : s1_4 = 5; rotate_left
 ·
  rw [if_neg c43] at H
  have c43b0 : (s1_4 == 5) = false := beq_eq_false_iff_ne.mpr c43
  have c43b1 : (s1_4 != 5) = true := bne_iff_ne.mpr c43
  replace H := Option.bind_eq_some_iff.mp H
  obtain ⟨⟨t193, t194⟩, A570, H⟩ := H
  replace H : (some (s1_0, s1_1, s1_2, s1_3, s1_4, s1_5, s1_6, s1_7, s1_8, true, 1, t194)) = some (r1, r2, r3, r4, r5, r6, r7, r8, r9, r10, r11, r12) := H
  have A57 := Aside0.mk A570
  clear A570
  simp only [Option.some.injEq, Prod.mk.injEq] at H
  obtain ⟨rfl, rfl, rfl, rfl, rfl, rfl, rfl, rfl, rfl, rfl, rfl, rfl⟩ := H
  obtain ⟨HGz58, hgz58⟩ := HI1.out
  have hcz58_0 := cellS46_0 HGz58
  have hcz58_1 := cellS46_1 HGz58
  have hcz58_2 := cellS46_2 HGz58
  have hcz58_3 := cellS46_3 HGz58
  have hcz58_4 := cellS46_4 HGz58
  have hcz58_5 := cellS46_5 HGz58
  have hcz58_6 := cellS46_6 HGz58
  have hcz58_7 := cellS46_7 HGz58
  have hcz58_8 := cellS46_8 HGz58
  have hcz58_9 := cellS46_9 HGz58
  have hcz58_10 := cellS46_10 HGz58
  have hfz58_0 := blk_frozen HGz58 0
  have hfz58_1 := blk_frozen HGz58 1
  have hfz58_2 := blk_frozen HGz58 2
  have hfz58_3 := blk_frozen HGz58 3
  have hfz58_4 := blk_frozen HGz58 4
  have hfz58_5 := blk_frozen HGz58 5
  have hfz58_6 := blk_frozen HGz58 6
  have hfz58_7 := blk_frozen HGz58 7
  have hfz58_8 := blk_frozen HGz58 8
  have hfz58_9 := blk_frozen HGz58 9
  have hfz58_10 := blk_frozen HGz58 10
  clear HGz58 hgz58
  go_enter Try.func68, Try.ntmps68
  try go_wp2
  have n0_ := Aside0.mk (Kd.R_drew HO0.out)
  have n1_ := Aside0.mk (IsS46.drew HI1.out)
  have n2_ := Aside0.mk (Kept.drew HK.out)
  have n3_ := Aside0.mk (below_drew1 HB.out)
  clear HO0
  clear HI1
  clear HK
  clear HB
  have HO0 := n0_
  have HI1 := n1_
  have HK := n2_
  have HB := n3_
  clear n0_ n1_ n2_ n3_
  obtain ⟨Ao60, co60, eo60⟩ := Kd.R_slice HO0.out
  (first | subst eo60 | (injection eo60 with f1_ f2_ f3_; have f4_ := f1_.symm; have f5_ := f3_.symm; clear f1_ f2_ f3_; subst f4_; subst f5_))
  refine start_ (n := 16) (S := fun w' => w'.cell? ⟨g, 0, none⟩ = some (.int .i64 s1_0) ∧ w'.cell? ⟨g, 1, none⟩ = some (.int .i64 s1_1) ∧ w'.cell? ⟨g, 2, none⟩ = some (.int .i64 s1_2) ∧ w'.cell? ⟨g, 3, none⟩ = some (.int .i64 s1_3) ∧ w'.cell? ⟨g, 4, none⟩ = some (.int .i64 s1_4) ∧ w'.cell? ⟨g, 5, none⟩ = some (.int .i64 s1_5) ∧ w'.cell? ⟨g, 6, none⟩ = some (.int .i64 s1_6) ∧ w'.cell? ⟨g, 7, none⟩ = some (.int .i64 s1_7) ∧ w'.cell? ⟨g, 8, none⟩ = some (.int .i64 s1_8) ∧ w'.cell? ⟨g, 9, none⟩ = some (.bool s1_9) ∧ w'.cell? ⟨g, 10, none⟩ = some (.int .i64 s1_10)) (ds := []) #[false, false, false, false, false, false, false, false, false, false, false, false, false, false, false, false] (by kernel_rfl) rfl rfl ⟨(blk_cell (Aside0.mk (HI1.out).1).out 0).trans rfl, (blk_cell (Aside0.mk (HI1.out).1).out 1).trans rfl, (blk_cell (Aside0.mk (HI1.out).1).out 2).trans rfl, (blk_cell (Aside0.mk (HI1.out).1).out 3).trans rfl, (blk_cell (Aside0.mk (HI1.out).1).out 4).trans rfl, (blk_cell (Aside0.mk (HI1.out).1).out 5).trans rfl, (blk_cell (Aside0.mk (HI1.out).1).out 6).trans rfl, (blk_cell (Aside0.mk (HI1.out).1).out 7).trans rfl, (blk_cell (Aside0.mk (HI1.out).1).out 8).trans rfl, (blk_cell (Aside0.mk (HI1.out).1).out 9).trans rfl, (blk_cell (Aside0.mk (HI1.out).1).out 10).trans rfl⟩ (fun hHeld => ?_); refine with_tabW spec_l06Step.tab1 spec_l06Step.bits1 (fun HT_ HW_ => ?_)
  generalize w.drew = w59 at HO0 HI1 HK HB hHeld ⊢
  refine pV 0 9 (OB 16 1) ?_
  refine pV 1 10 (OB 16 3) ?_
  refine pV 2 11 (OB 16 7) ?_
  refine pV 3 12 (OB 16 15) ?_
  refine pV 5 14 (OB 16 47) ?_
  refine pV 6 15 (OB 16 111) ?_
  refine pV 7 16 (OB 16 239) ?_
  refine pV 10 19 (OB 16 1263) ?_
  refine pV 11 20 (OB 16 3311) ?_
  refine pV 12 21 (OB 16 7407) ?_
  refine take_ (i := 4) (N := some 13) (v := ?_) (a' := ?_) (OB 16 7423) rfl rfl (take_ofW HT_.out HW_.out (by kernel_rfl)) (fun _ _ _ h => h) (Or.inl ⟨by rfl, ?_⟩) hHeld ?_ ?_
  rotate_left
  ·
   rintro w' ⟨s0, s1, s2, s3, s4, s5, s6, s7, s8, s9, s10⟩
   go_simp
   with_reducible rfl
  rotate_left
  ·
   simp only [Act.put, zA, zB, zC, i64_w, i32_w]
   rfl
  refine take_ (i := 8) (N := some 17) (v := ?_) (a' := ?_) (OB 16 7679) rfl rfl (take_ofW HT_.out HW_.out (by kernel_rfl)) (fun _ _ _ h => h) (Or.inl ⟨by rfl, ?_⟩) hHeld ?_ ?_
  rotate_left
  ·
   rintro w' ⟨s0, s1, s2, s3, s4, s5, s6, s7, s8, s9, s10⟩
   go_simp
   with_reducible rfl
  rotate_left
  ·
   simp only [Act.put, zA, zB, zC, i64_w, i32_w]
   rfl
  refine pV 9 18 (OB 16 8191) ?_
  refine take_ (i := 13) (N := some 22) (v := ?_) (a' := ?_) (OB 16 16383) rfl rfl (take_ofW HT_.out HW_.out (by kernel_rfl)) (fun _ _ _ h => h) (Or.inl ⟨by rfl, ?_⟩) hHeld ?_ ?_
  rotate_left
  ·
   rintro w' ⟨s0, s1, s2, s3, s4, s5, s6, s7, s8, s9, s10⟩
   go_simp
   with_reducible rfl
  rotate_left
  ·
   simp only [Act.put, zA, zB, zC, i64_w, i32_w]
   rfl
  refine pV 14 23 (OB 16 32767) ?_
  refine one_ (i := 15) (N := some 24) (OB 16 65535) rfl rfl (one_of HT_.out (by kernel_rfl)) (by decide) (fun K hK => ?_)
  refine goes_ Try.func80 (by kernel_rfl) rfl #[.slice Ao60 l0.length co60, .int .i64 s1_5, .int .i64 (wrap64 (2 * s1_6)), .int .i64 (wrap64 (2 * s1_7))] (by rfl) rfl rfl (MA) ?_
  with_reducible refine (spec_l06Swap.calls (fun k_ => some k_ = (.slice Ao60 l0.length co60 : Value).ownBlock) (.slice Ao60 l0.length co60) l0 s1_5 (wrap64 (2 * s1_6)) (wrap64 (2 * s1_7)) t193 t194 w0 _ ?side1 ?side2 A57.out).mono ?_
  (case side1 => repeat (first | (with_reducible first | exact HB.out | apply below_alloc | apply pw_below_drewN | apply below_drew1 | refine below_set ?_ (IsS46.ge HI1.out)) | exact HB.out))
  (case side2 => exact Kd.R_tight rfl HO0.out)
  rintro e w61 ⟨rfl, hy0, hb, hkp⟩
  refine ⟨_, rfl, ?_⟩
  have n0_ := Aside0.mk (IsS46.kept (by repeat (first | (with_reducible first | exact HI1.out | apply IsS46.alloc | apply IsS46.drewN | apply IsS46.drew | apply IsS46.set_0 | apply IsS46.set_1 | apply IsS46.set_2 | apply IsS46.set_3 | apply IsS46.set_4 | apply IsS46.set_5 | apply IsS46.set_6 | apply IsS46.set_7 | apply IsS46.set_8 | apply IsS46.set_9 | apply IsS46.set_10) | exact HI1.out)) hkp (fun hs_ => (fun e_ => (IsS46.own_ne HI1.out HO0.out (by decide)) e_) hs_))
  have n1_ := Aside0.mk (Kd.R_reok rfl hy0 (fun k_ e_ => HO0.out.1 k_ e_))
  have n2_ := Aside0.mk (Kept.then_ (S := (fun k_ => (P0_ k_) ∨ k_ = g)) (by repeat (first | (with_reducible first | exact HK.out | apply Kept.alloc | apply Kept.drewN | apply Kept.drew | refine Kept.setCell ?_ (.inl (.inr rfl)) _) | exact HK.out)) hkp (fun k_ hs_ => (fun e_ => Or.imp_left Or.inl ((HO0.out.1 k_ e_.symm))) hs_))
  have n3_ := Aside0.mk (hb)
  clear HI1
  clear HO0
  clear HK
  clear HB
  have HI1 := n0_
  have HO0 := n1_
  have HK := n2_
  have HB := n3_
  clear n0_ n1_ n2_ n3_
  (try clear hb)
  (try clear hkp)
  (try clear hy0)
  refine hK.out _ _ ⟨(blk_cell (Aside0.mk (HI1.out).1).out 0).trans rfl, (blk_cell (Aside0.mk (HI1.out).1).out 1).trans rfl, (blk_cell (Aside0.mk (HI1.out).1).out 2).trans rfl, (blk_cell (Aside0.mk (HI1.out).1).out 3).trans rfl, (blk_cell (Aside0.mk (HI1.out).1).out 4).trans rfl, (blk_cell (Aside0.mk (HI1.out).1).out 5).trans rfl, (blk_cell (Aside0.mk (HI1.out).1).out 6).trans rfl, (blk_cell (Aside0.mk (HI1.out).1).out 7).trans rfl, (blk_cell (Aside0.mk (HI1.out).1).out 8).trans rfl, (blk_cell (Aside0.mk (HI1.out).1).out 9).trans rfl, (blk_cell (Aside0.mk (HI1.out).1).out 10).trans rfl⟩ (fun hHeld => ?_)
  clear hK K
  refine norm_ (a' := ?_) ?_ ?_
  rotate_left
  ·
   show Act.put _ (some 24) _ = _
   simp only [Act.put, zA, zB, zC, i64_w, i32_w]
   rfl
  refine done_ (done_of HT_.out (by kernel_rfl)) ?_
  obtain ⟨HGz62, hgz62⟩ := HI1.out
  have hcz62_0 := cellS46_0 HGz62
  have hcz62_1 := cellS46_1 HGz62
  have hcz62_2 := cellS46_2 HGz62
  have hcz62_3 := cellS46_3 HGz62
  have hcz62_4 := cellS46_4 HGz62
  have hcz62_5 := cellS46_5 HGz62
  have hcz62_6 := cellS46_6 HGz62
  have hcz62_7 := cellS46_7 HGz62
  have hcz62_8 := cellS46_8 HGz62
  have hcz62_9 := cellS46_9 HGz62
  have hcz62_10 := cellS46_10 HGz62
  have hfz62_0 := blk_frozen HGz62 0
  have hfz62_1 := blk_frozen HGz62 1
  have hfz62_2 := blk_frozen HGz62 2
  have hfz62_3 := blk_frozen HGz62 3
  have hfz62_4 := blk_frozen HGz62 4
  have hfz62_5 := blk_frozen HGz62 5
  have hfz62_6 := blk_frozen HGz62 6
  have hfz62_7 := blk_frozen HGz62 7
  have hfz62_8 := blk_frozen HGz62 8
  have hfz62_9 := blk_frozen HGz62 9
  have hfz62_10 := blk_frozen HGz62 10
  clear HGz62 hgz62
  try go_wp2
  first | go_end0 | ((try simp only [Exit.inBlock, Exit.then]); refine bodyPost_ret (results_none rfl _ _ _) rfl ?_)
  exact ⟨EE, by repeat (first | (with_reducible first | exact HI1.out | apply IsS46.alloc | apply IsS46.drewN | apply IsS46.drew | apply IsS46.set_0 | apply IsS46.set_1 | apply IsS46.set_2 | apply IsS46.set_3 | apply IsS46.set_4 | apply IsS46.set_5 | apply IsS46.set_6 | apply IsS46.set_7 | apply IsS46.set_8 | apply IsS46.set_9 | apply IsS46.set_10) | exact HI1.out), by (with_reducible repeat (first | apply r1 | apply r2 | apply r3)); exact Kd.R_mono (Kd.R_far (p := ⟨g, 10, none⟩) (Kd.R_far (p := ⟨g, 9, none⟩) (IsS46.apart HI1.out HO0.out (by decide)) (fun _ hk => hk.2) (.bool true)) (fun _ hk => hk.2) (.int .i64 1)) (fun _ hk => hk.1), by repeat (first | (with_reducible first | exact HB.out | apply below_alloc | apply pw_below_drewN | apply below_drew1 | refine below_set ?_ (IsS46.ge HI1.out)) | exact HB.out), by repeat (first | (with_reducible first | exact HK.out | apply Kept.alloc | apply Kept.drewN | apply Kept.drew | refine Kept.setCell ?_ (.inl (.inr rfl)) _) | exact HK.out)⟩
 rw [if_pos c43] at H
 have c43b0 : (s1_4 == 5) = true := beq_iff_eq.mpr c43
 have c43b1 : (s1_4 != 5) = false := bne_eq_false_iff_eq.mpr c43
 clear c43
 replace H := Option.bind_eq_some_iff.mp H
 obtain ⟨⟨t191, t192⟩, A440, H⟩ := H
 replace H : (if t191 = true then (some (s1_0, s1_1, s1_2, s1_3, 6, s1_5, s1_6, s1_7, s1_8, s1_9, s1_10, t192)) else (some (s1_0, s1_1, s1_2, s1_3, 0, s1_5, s1_6, s1_7, s1_8, s1_9, s1_10, t192))) = some (r1, r2, r3, r4, r5, r6, r7, r8, r9, r10, r11, r12) := H
 have A44 := Aside0.mk A440
 clear A440
 by_cases c45 : t191 = true; rotate_left
 ·
  replace c45 := Bool.eq_false_iff.mpr c45
  subst c45
  have H1 : (some (s1_0, s1_1, s1_2, s1_3, 0, s1_5, s1_6, s1_7, s1_8, s1_9, s1_10, t192)) = some (r1, r2, r3, r4, r5, r6, r7, r8, r9, r10, r11, r12) := by rw [if_neg (show ¬ (false = true) by decide)] at H; exact H
  clear H
  have H := H1
  clear H1
  simp only [Option.some.injEq, Prod.mk.injEq] at H
  obtain ⟨rfl, rfl, rfl, rfl, rfl, rfl, rfl, rfl, rfl, rfl, rfl, rfl⟩ := H
  obtain ⟨HGz52, hgz52⟩ := HI1.out
  have hcz52_0 := cellS46_0 HGz52
  have hcz52_1 := cellS46_1 HGz52
  have hcz52_2 := cellS46_2 HGz52
  have hcz52_3 := cellS46_3 HGz52
  have hcz52_4 := cellS46_4 HGz52
  have hcz52_5 := cellS46_5 HGz52
  have hcz52_6 := cellS46_6 HGz52
  have hcz52_7 := cellS46_7 HGz52
  have hcz52_8 := cellS46_8 HGz52
  have hcz52_9 := cellS46_9 HGz52
  have hcz52_10 := cellS46_10 HGz52
  have hfz52_0 := blk_frozen HGz52 0
  have hfz52_1 := blk_frozen HGz52 1
  have hfz52_2 := blk_frozen HGz52 2
  have hfz52_3 := blk_frozen HGz52 3
  have hfz52_4 := blk_frozen HGz52 4
  have hfz52_5 := blk_frozen HGz52 5
  have hfz52_6 := blk_frozen HGz52 6
  have hfz52_7 := blk_frozen HGz52 7
  have hfz52_8 := blk_frozen HGz52 8
  have hfz52_9 := blk_frozen HGz52 9
  have hfz52_10 := blk_frozen HGz52 10
  clear HGz52 hgz52
  go_enter Try.func68, Try.ntmps68
  try go_wp2
  have n0_ : Aside0 (Kd.R (Kd.int .i64) 3 (w.setCell ⟨g, 4, none⟩ (.int .i64 0)) w0.heap.size (fun k_ => (P0_ k_ ∨ wv.heap.size ≤ k_)) u9000_ l0) := ⟨by (with_reducible repeat (first | apply r1 | apply r2 | apply r3)); exact Kd.R_mono (Kd.R_far (p := ⟨g, 4, none⟩) (IsS46.apart HI1.out HO0.out (by decide)) (fun _ hk => hk.2) (.int .i64 0)) (fun _ hk => hk.1)⟩
  have n1_ : Aside0 (IsS46 w0 (w.setCell ⟨g, 4, none⟩ (.int .i64 0)) g s1_0 s1_1 s1_2 s1_3 0 s1_5 s1_6 s1_7 s1_8 s1_9 s1_10) := ⟨by repeat (first | (with_reducible first | exact HI1.out | apply IsS46.alloc | apply IsS46.drewN | apply IsS46.drew | apply IsS46.set_0 | apply IsS46.set_1 | apply IsS46.set_2 | apply IsS46.set_3 | apply IsS46.set_4 | apply IsS46.set_5 | apply IsS46.set_6 | apply IsS46.set_7 | apply IsS46.set_8 | apply IsS46.set_9 | apply IsS46.set_10) | exact HI1.out)⟩
  have n2_ : Aside0 (Kept wv (w.setCell ⟨g, 4, none⟩ (.int .i64 0)) (fun k_ => (P0_ k_) ∨ k_ = g)) := ⟨by repeat (first | (with_reducible first | exact HK.out | apply Kept.alloc | apply Kept.drewN | apply Kept.drew | refine Kept.setCell ?_ (.inl (.inr rfl)) _) | exact HK.out)⟩
  have n3_ : Aside0 (Below w0.heap.size w0 (w.setCell ⟨g, 4, none⟩ (.int .i64 0))) := ⟨by repeat (first | (with_reducible first | exact HB.out | apply below_alloc | apply pw_below_drewN | apply below_drew1 | refine below_set ?_ (IsS46.ge HI1.out)) | exact HB.out)⟩
  (try clear HO0)
  (try clear HI1)
  (try clear HK)
  (try clear HB)
  generalize (w.setCell ⟨g, 4, none⟩ (.int .i64 0)) = w53 at n0_ n1_ n2_ n3_ ⊢
  have HO0 := n0_
  have HI1 := n1_
  have HK := n2_
  have HB := n3_
  clear n0_ n1_ n2_ n3_
  have n0_ := Aside0.mk (Kd.R_drew HO0.out)
  have n1_ := Aside0.mk (IsS46.drew HI1.out)
  have n2_ := Aside0.mk (Kept.drew HK.out)
  have n3_ := Aside0.mk (below_drew1 HB.out)
  clear HO0
  clear HI1
  clear HK
  clear HB
  have HO0 := n0_
  have HI1 := n1_
  have HK := n2_
  have HB := n3_
  clear n0_ n1_ n2_ n3_
  obtain ⟨Ao55, co55, eo55⟩ := Kd.R_slice HO0.out
  (first | subst eo55 | (injection eo55 with f1_ f2_ f3_; have f4_ := f1_.symm; have f5_ := f3_.symm; clear f1_ f2_ f3_; subst f4_; subst f5_))
  refine start_ (n := 17) (S := fun w' => w'.cell? ⟨g, 0, none⟩ = some (.int .i64 s1_0) ∧ w'.cell? ⟨g, 1, none⟩ = some (.int .i64 s1_1) ∧ w'.cell? ⟨g, 2, none⟩ = some (.int .i64 s1_2) ∧ w'.cell? ⟨g, 3, none⟩ = some (.int .i64 s1_3) ∧ w'.cell? ⟨g, 4, none⟩ = some (.int .i64 0) ∧ w'.cell? ⟨g, 5, none⟩ = some (.int .i64 s1_5) ∧ w'.cell? ⟨g, 6, none⟩ = some (.int .i64 s1_6) ∧ w'.cell? ⟨g, 7, none⟩ = some (.int .i64 s1_7) ∧ w'.cell? ⟨g, 8, none⟩ = some (.int .i64 s1_8) ∧ w'.cell? ⟨g, 9, none⟩ = some (.bool s1_9) ∧ w'.cell? ⟨g, 10, none⟩ = some (.int .i64 s1_10)) (ds := []) #[false, false, false, false, false, false, false, false, false, false, false, false, false, false, false, false, false] (by kernel_rfl) rfl rfl ⟨(blk_cell (Aside0.mk (HI1.out).1).out 0).trans rfl, (blk_cell (Aside0.mk (HI1.out).1).out 1).trans rfl, (blk_cell (Aside0.mk (HI1.out).1).out 2).trans rfl, (blk_cell (Aside0.mk (HI1.out).1).out 3).trans rfl, (blk_cell (Aside0.mk (HI1.out).1).out 4).trans rfl, (blk_cell (Aside0.mk (HI1.out).1).out 5).trans rfl, (blk_cell (Aside0.mk (HI1.out).1).out 6).trans rfl, (blk_cell (Aside0.mk (HI1.out).1).out 7).trans rfl, (blk_cell (Aside0.mk (HI1.out).1).out 8).trans rfl, (blk_cell (Aside0.mk (HI1.out).1).out 9).trans rfl, (blk_cell (Aside0.mk (HI1.out).1).out 10).trans rfl⟩ (fun hHeld => ?_); refine with_tabW spec_l06Step.tab26 spec_l06Step.bits26 (fun HT_ HW_ => ?_)
  generalize w53.drew = w54 at HO0 HI1 HK HB hHeld ⊢
  refine pV 0 119 (OB 17 1) ?_
  refine pV 1 120 (OB 17 3) ?_
  refine pV 2 121 (OB 17 7) ?_
  refine pV 3 122 (OB 17 15) ?_
  refine pV 5 124 (OB 17 47) ?_
  refine pV 6 125 (OB 17 111) ?_
  refine pV 7 126 (OB 17 239) ?_
  refine pV 10 129 (OB 17 1263) ?_
  refine pV 11 130 (OB 17 3311) ?_
  refine pV 12 131 (OB 17 7407) ?_
  refine take_ (i := 4) (N := some 123) (v := ?_) (a' := ?_) (OB 17 7423) rfl rfl (take_ofW HT_.out HW_.out (by kernel_rfl)) (fun _ _ _ h => h) (Or.inl ⟨by rfl, ?_⟩) hHeld ?_ ?_
  rotate_left
  ·
   rintro w' ⟨s0, s1, s2, s3, s4, s5, s6, s7, s8, s9, s10⟩
   go_simp
   with_reducible rfl
  rotate_left
  ·
   simp only [Act.put, zA, zB, zC, i64_w, i32_w]
   rfl
  refine take_ (i := 8) (N := some 127) (v := ?_) (a' := ?_) (OB 17 7679) rfl rfl (take_ofW HT_.out HW_.out (by kernel_rfl)) (fun _ _ _ h => h) (Or.inl ⟨by rfl, ?_⟩) hHeld ?_ ?_
  rotate_left
  ·
   rintro w' ⟨s0, s1, s2, s3, s4, s5, s6, s7, s8, s9, s10⟩
   go_simp
   with_reducible rfl
  rotate_left
  ·
   simp only [Act.put, zA, zB, zC, i64_w, i32_w]
   rfl
  refine pV 9 128 (OB 17 8191) ?_
  refine take_ (i := 13) (N := some 132) (v := ?_) (a' := ?_) (OB 17 16383) rfl rfl (take_ofW HT_.out HW_.out (by kernel_rfl)) (fun _ _ _ h => h) (Or.inl ⟨by rfl, ?_⟩) hHeld ?_ ?_
  rotate_left
  ·
   rintro w' ⟨s0, s1, s2, s3, s4, s5, s6, s7, s8, s9, s10⟩
   go_simp
   with_reducible rfl
  rotate_left
  ·
   simp only [Act.put, zA, zB, zC, i64_w, i32_w]
   rfl
  refine pV 14 133 (OB 17 32767) ?_
  refine pV 15 134 (OB 17 65535) ?_
  refine one_ (i := 16) (N := some 135) (OB 17 131071) rfl rfl (one_of HT_.out (by kernel_rfl)) (by decide) (fun K hK => ?_)
  refine goes_ Try.func80 (by kernel_rfl) rfl #[.slice Ao55 l0.length co55, .int .i64 s1_6, .int .i64 (wrap64 (2 * s1_7)), .int .i64 (wrap64 ((wrap64 (2 * s1_7)) + 1))] (by rfl) rfl rfl (MA) ?_
  with_reducible refine (spec_l06Swap.calls (fun k_ => some k_ = (.slice Ao55 l0.length co55 : Value).ownBlock) (.slice Ao55 l0.length co55) l0 s1_6 (wrap64 (2 * s1_7)) (wrap64 ((wrap64 (2 * s1_7)) + 1)) false t192 w0 _ ?side1 ?side2 A44.out).mono ?_
  (case side1 => repeat (first | (with_reducible first | exact HB.out | apply below_alloc | apply pw_below_drewN | apply below_drew1 | refine below_set ?_ (IsS46.ge HI1.out)) | exact HB.out))
  (case side2 => exact Kd.R_tight rfl HO0.out)
  rintro e w56 ⟨rfl, hy0, hb, hkp⟩
  refine ⟨_, rfl, ?_⟩
  have n0_ := Aside0.mk (IsS46.kept (by repeat (first | (with_reducible first | exact HI1.out | apply IsS46.alloc | apply IsS46.drewN | apply IsS46.drew | apply IsS46.set_0 | apply IsS46.set_1 | apply IsS46.set_2 | apply IsS46.set_3 | apply IsS46.set_4 | apply IsS46.set_5 | apply IsS46.set_6 | apply IsS46.set_7 | apply IsS46.set_8 | apply IsS46.set_9 | apply IsS46.set_10) | exact HI1.out)) hkp (fun hs_ => (fun e_ => (IsS46.own_ne HI1.out HO0.out (by decide)) e_) hs_))
  have n1_ := Aside0.mk (Kd.R_reok rfl hy0 (fun k_ e_ => HO0.out.1 k_ e_))
  have n2_ := Aside0.mk (Kept.then_ (S := (fun k_ => (P0_ k_) ∨ k_ = g)) (by repeat (first | (with_reducible first | exact HK.out | apply Kept.alloc | apply Kept.drewN | apply Kept.drew | refine Kept.setCell ?_ (.inl (.inr rfl)) _) | exact HK.out)) hkp (fun k_ hs_ => (fun e_ => Or.imp_left Or.inl ((HO0.out.1 k_ e_.symm))) hs_))
  have n3_ := Aside0.mk (hb)
  clear HI1
  clear HO0
  clear HK
  clear HB
  have HI1 := n0_
  have HO0 := n1_
  have HK := n2_
  have HB := n3_
  clear n0_ n1_ n2_ n3_
  (try clear hb)
  (try clear hkp)
  (try clear hy0)
  refine hK.out _ _ ⟨(blk_cell (Aside0.mk (HI1.out).1).out 0).trans rfl, (blk_cell (Aside0.mk (HI1.out).1).out 1).trans rfl, (blk_cell (Aside0.mk (HI1.out).1).out 2).trans rfl, (blk_cell (Aside0.mk (HI1.out).1).out 3).trans rfl, (blk_cell (Aside0.mk (HI1.out).1).out 4).trans rfl, (blk_cell (Aside0.mk (HI1.out).1).out 5).trans rfl, (blk_cell (Aside0.mk (HI1.out).1).out 6).trans rfl, (blk_cell (Aside0.mk (HI1.out).1).out 7).trans rfl, (blk_cell (Aside0.mk (HI1.out).1).out 8).trans rfl, (blk_cell (Aside0.mk (HI1.out).1).out 9).trans rfl, (blk_cell (Aside0.mk (HI1.out).1).out 10).trans rfl⟩ (fun hHeld => ?_)
  clear hK K
  refine norm_ (a' := ?_) ?_ ?_
  rotate_left
  ·
   show Act.put _ (some 135) _ = _
   simp only [Act.put, zA, zB, zC, i64_w, i32_w]
   rfl
  refine done_ (done_of HT_.out (by kernel_rfl)) ?_
  try go_wp2
  first | go_end0 | ((try simp only [Exit.inBlock, Exit.then]); refine bodyPost_ret (results_none rfl _ _ _) rfl ?_)
  exact ⟨EE, by repeat (first | (with_reducible first | exact HI1.out | apply IsS46.alloc | apply IsS46.drewN | apply IsS46.drew | apply IsS46.set_0 | apply IsS46.set_1 | apply IsS46.set_2 | apply IsS46.set_3 | apply IsS46.set_4 | apply IsS46.set_5 | apply IsS46.set_6 | apply IsS46.set_7 | apply IsS46.set_8 | apply IsS46.set_9 | apply IsS46.set_10) | exact HI1.out), RQ HO0.out, by repeat (first | (with_reducible first | exact HB.out | apply below_alloc | apply pw_below_drewN | apply below_drew1 | refine below_set ?_ (IsS46.ge HI1.out)) | exact HB.out), by repeat (first | (with_reducible first | exact HK.out | apply Kept.alloc | apply Kept.drewN | apply Kept.drew | refine Kept.setCell ?_ (.inl (.inr rfl)) _) | exact HK.out)⟩
 subst c45
 have H1 : (some (s1_0, s1_1, s1_2, s1_3, 6, s1_5, s1_6, s1_7, s1_8, s1_9, s1_10, t192)) = some (r1, r2, r3, r4, r5, r6, r7, r8, r9, r10, r11, r12) := by rw [if_pos rfl] at H; exact H
 clear H
 have H := H1
 clear H1
 simp only [Option.some.injEq, Prod.mk.injEq] at H
 obtain ⟨rfl, rfl, rfl, rfl, rfl, rfl, rfl, rfl, rfl, rfl, rfl, rfl⟩ := H
 obtain ⟨HGz46, hgz46⟩ := HI1.out
 have hcz46_0 := cellS46_0 HGz46
 have hcz46_1 := cellS46_1 HGz46
 have hcz46_2 := cellS46_2 HGz46
 have hcz46_3 := cellS46_3 HGz46
 have hcz46_4 := cellS46_4 HGz46
 have hcz46_5 := cellS46_5 HGz46
 have hcz46_6 := cellS46_6 HGz46
 have hcz46_7 := cellS46_7 HGz46
 have hcz46_8 := cellS46_8 HGz46
 have hcz46_9 := cellS46_9 HGz46
 have hcz46_10 := cellS46_10 HGz46
 have hfz46_0 := blk_frozen HGz46 0
 have hfz46_1 := blk_frozen HGz46 1
 have hfz46_2 := blk_frozen HGz46 2
 have hfz46_3 := blk_frozen HGz46 3
 have hfz46_4 := blk_frozen HGz46 4
 have hfz46_5 := blk_frozen HGz46 5
 have hfz46_6 := blk_frozen HGz46 6
 have hfz46_7 := blk_frozen HGz46 7
 have hfz46_8 := blk_frozen HGz46 8
 have hfz46_9 := blk_frozen HGz46 9
 have hfz46_10 := blk_frozen HGz46 10
 clear HGz46 hgz46
 go_enter Try.func68, Try.ntmps68
 try go_wp2
 have n0_ : Aside0 (Kd.R (Kd.int .i64) 3 (w.setCell ⟨g, 4, none⟩ (.int .i64 0)) w0.heap.size (fun k_ => (P0_ k_ ∨ wv.heap.size ≤ k_)) u9000_ l0) := ⟨by (with_reducible repeat (first | apply r1 | apply r2 | apply r3)); exact Kd.R_mono (Kd.R_far (p := ⟨g, 4, none⟩) (IsS46.apart HI1.out HO0.out (by decide)) (fun _ hk => hk.2) (.int .i64 0)) (fun _ hk => hk.1)⟩
 have n1_ : Aside0 (IsS46 w0 (w.setCell ⟨g, 4, none⟩ (.int .i64 0)) g s1_0 s1_1 s1_2 s1_3 0 s1_5 s1_6 s1_7 s1_8 s1_9 s1_10) := ⟨by repeat (first | (with_reducible first | exact HI1.out | apply IsS46.alloc | apply IsS46.drewN | apply IsS46.drew | apply IsS46.set_0 | apply IsS46.set_1 | apply IsS46.set_2 | apply IsS46.set_3 | apply IsS46.set_4 | apply IsS46.set_5 | apply IsS46.set_6 | apply IsS46.set_7 | apply IsS46.set_8 | apply IsS46.set_9 | apply IsS46.set_10) | exact HI1.out)⟩
 have n2_ : Aside0 (Kept wv (w.setCell ⟨g, 4, none⟩ (.int .i64 0)) (fun k_ => (P0_ k_) ∨ k_ = g)) := ⟨by repeat (first | (with_reducible first | exact HK.out | apply Kept.alloc | apply Kept.drewN | apply Kept.drew | refine Kept.setCell ?_ (.inl (.inr rfl)) _) | exact HK.out)⟩
 have n3_ : Aside0 (Below w0.heap.size w0 (w.setCell ⟨g, 4, none⟩ (.int .i64 0))) := ⟨by repeat (first | (with_reducible first | exact HB.out | apply below_alloc | apply pw_below_drewN | apply below_drew1 | refine below_set ?_ (IsS46.ge HI1.out)) | exact HB.out)⟩
 (try clear HO0)
 (try clear HI1)
 (try clear HK)
 (try clear HB)
 generalize (w.setCell ⟨g, 4, none⟩ (.int .i64 0)) = w47 at n0_ n1_ n2_ n3_ ⊢
 have HO0 := n0_
 have HI1 := n1_
 have HK := n2_
 have HB := n3_
 clear n0_ n1_ n2_ n3_
 have n0_ := Aside0.mk (Kd.R_drew HO0.out)
 have n1_ := Aside0.mk (IsS46.drew HI1.out)
 have n2_ := Aside0.mk (Kept.drew HK.out)
 have n3_ := Aside0.mk (below_drew1 HB.out)
 clear HO0
 clear HI1
 clear HK
 clear HB
 have HO0 := n0_
 have HI1 := n1_
 have HK := n2_
 have HB := n3_
 clear n0_ n1_ n2_ n3_
 obtain ⟨Ao49, co49, eo49⟩ := Kd.R_slice HO0.out
 (first | subst eo49 | (injection eo49 with f1_ f2_ f3_; have f4_ := f1_.symm; have f5_ := f3_.symm; clear f1_ f2_ f3_; subst f4_; subst f5_))
 refine start_ (n := 17) (S := fun w' => w'.cell? ⟨g, 0, none⟩ = some (.int .i64 s1_0) ∧ w'.cell? ⟨g, 1, none⟩ = some (.int .i64 s1_1) ∧ w'.cell? ⟨g, 2, none⟩ = some (.int .i64 s1_2) ∧ w'.cell? ⟨g, 3, none⟩ = some (.int .i64 s1_3) ∧ w'.cell? ⟨g, 4, none⟩ = some (.int .i64 0) ∧ w'.cell? ⟨g, 5, none⟩ = some (.int .i64 s1_5) ∧ w'.cell? ⟨g, 6, none⟩ = some (.int .i64 s1_6) ∧ w'.cell? ⟨g, 7, none⟩ = some (.int .i64 s1_7) ∧ w'.cell? ⟨g, 8, none⟩ = some (.int .i64 s1_8) ∧ w'.cell? ⟨g, 9, none⟩ = some (.bool s1_9) ∧ w'.cell? ⟨g, 10, none⟩ = some (.int .i64 s1_10)) (ds := []) #[false, false, false, false, false, false, false, false, false, false, false, false, false, false, false, false, false] (by kernel_rfl) rfl rfl ⟨(blk_cell (Aside0.mk (HI1.out).1).out 0).trans rfl, (blk_cell (Aside0.mk (HI1.out).1).out 1).trans rfl, (blk_cell (Aside0.mk (HI1.out).1).out 2).trans rfl, (blk_cell (Aside0.mk (HI1.out).1).out 3).trans rfl, (blk_cell (Aside0.mk (HI1.out).1).out 4).trans rfl, (blk_cell (Aside0.mk (HI1.out).1).out 5).trans rfl, (blk_cell (Aside0.mk (HI1.out).1).out 6).trans rfl, (blk_cell (Aside0.mk (HI1.out).1).out 7).trans rfl, (blk_cell (Aside0.mk (HI1.out).1).out 8).trans rfl, (blk_cell (Aside0.mk (HI1.out).1).out 9).trans rfl, (blk_cell (Aside0.mk (HI1.out).1).out 10).trans rfl⟩ (fun hHeld => ?_); refine with_tabW spec_l06Step.tab26 spec_l06Step.bits26 (fun HT_ HW_ => ?_)
 generalize w47.drew = w48 at HO0 HI1 HK HB hHeld ⊢
 refine pV 0 119 (OB 17 1) ?_
 refine pV 1 120 (OB 17 3) ?_
 refine pV 2 121 (OB 17 7) ?_
 refine pV 3 122 (OB 17 15) ?_
 refine pV 5 124 (OB 17 47) ?_
 refine pV 6 125 (OB 17 111) ?_
 refine pV 7 126 (OB 17 239) ?_
 refine pV 10 129 (OB 17 1263) ?_
 refine pV 11 130 (OB 17 3311) ?_
 refine pV 12 131 (OB 17 7407) ?_
 refine take_ (i := 4) (N := some 123) (v := ?_) (a' := ?_) (OB 17 7423) rfl rfl (take_ofW HT_.out HW_.out (by kernel_rfl)) (fun _ _ _ h => h) (Or.inl ⟨by rfl, ?_⟩) hHeld ?_ ?_
 rotate_left
 ·
  rintro w' ⟨s0, s1, s2, s3, s4, s5, s6, s7, s8, s9, s10⟩
  go_simp
  with_reducible rfl
 rotate_left
 ·
  simp only [Act.put, zA, zB, zC, i64_w, i32_w]
  rfl
 refine take_ (i := 8) (N := some 127) (v := ?_) (a' := ?_) (OB 17 7679) rfl rfl (take_ofW HT_.out HW_.out (by kernel_rfl)) (fun _ _ _ h => h) (Or.inl ⟨by rfl, ?_⟩) hHeld ?_ ?_
 rotate_left
 ·
  rintro w' ⟨s0, s1, s2, s3, s4, s5, s6, s7, s8, s9, s10⟩
  go_simp
  with_reducible rfl
 rotate_left
 ·
  simp only [Act.put, zA, zB, zC, i64_w, i32_w]
  rfl
 refine pV 9 128 (OB 17 8191) ?_
 refine take_ (i := 13) (N := some 132) (v := ?_) (a' := ?_) (OB 17 16383) rfl rfl (take_ofW HT_.out HW_.out (by kernel_rfl)) (fun _ _ _ h => h) (Or.inl ⟨by rfl, ?_⟩) hHeld ?_ ?_
 rotate_left
 ·
  rintro w' ⟨s0, s1, s2, s3, s4, s5, s6, s7, s8, s9, s10⟩
  go_simp
  with_reducible rfl
 rotate_left
 ·
  simp only [Act.put, zA, zB, zC, i64_w, i32_w]
  rfl
 refine pV 14 133 (OB 17 32767) ?_
 refine pV 15 134 (OB 17 65535) ?_
 refine one_ (i := 16) (N := some 135) (OB 17 131071) rfl rfl (one_of HT_.out (by kernel_rfl)) (by decide) (fun K hK => ?_)
 refine goes_ Try.func80 (by kernel_rfl) rfl #[.slice Ao49 l0.length co49, .int .i64 s1_6, .int .i64 (wrap64 (2 * s1_7)), .int .i64 (wrap64 ((wrap64 (2 * s1_7)) + 1))] (by rfl) rfl rfl (MA) ?_
 with_reducible refine (spec_l06Swap.calls (fun k_ => some k_ = (.slice Ao49 l0.length co49 : Value).ownBlock) (.slice Ao49 l0.length co49) l0 s1_6 (wrap64 (2 * s1_7)) (wrap64 ((wrap64 (2 * s1_7)) + 1)) true t192 w0 _ ?side1 ?side2 A44.out).mono ?_
 (case side1 => repeat (first | (with_reducible first | exact HB.out | apply below_alloc | apply pw_below_drewN | apply below_drew1 | refine below_set ?_ (IsS46.ge HI1.out)) | exact HB.out))
 (case side2 => exact Kd.R_tight rfl HO0.out)
 rintro e w50 ⟨rfl, hy0, hb, hkp⟩
 refine ⟨_, rfl, ?_⟩
 have n0_ := Aside0.mk (IsS46.kept (by repeat (first | (with_reducible first | exact HI1.out | apply IsS46.alloc | apply IsS46.drewN | apply IsS46.drew | apply IsS46.set_0 | apply IsS46.set_1 | apply IsS46.set_2 | apply IsS46.set_3 | apply IsS46.set_4 | apply IsS46.set_5 | apply IsS46.set_6 | apply IsS46.set_7 | apply IsS46.set_8 | apply IsS46.set_9 | apply IsS46.set_10) | exact HI1.out)) hkp (fun hs_ => (fun e_ => (IsS46.own_ne HI1.out HO0.out (by decide)) e_) hs_))
 have n1_ := Aside0.mk (Kd.R_reok rfl hy0 (fun k_ e_ => HO0.out.1 k_ e_))
 have n2_ := Aside0.mk (Kept.then_ (S := (fun k_ => (P0_ k_) ∨ k_ = g)) (by repeat (first | (with_reducible first | exact HK.out | apply Kept.alloc | apply Kept.drewN | apply Kept.drew | refine Kept.setCell ?_ (.inl (.inr rfl)) _) | exact HK.out)) hkp (fun k_ hs_ => (fun e_ => Or.imp_left Or.inl ((HO0.out.1 k_ e_.symm))) hs_))
 have n3_ := Aside0.mk (hb)
 clear HI1
 clear HO0
 clear HK
 clear HB
 have HI1 := n0_
 have HO0 := n1_
 have HK := n2_
 have HB := n3_
 clear n0_ n1_ n2_ n3_
 (try clear hb)
 (try clear hkp)
 (try clear hy0)
 refine hK.out _ _ ⟨(blk_cell (Aside0.mk (HI1.out).1).out 0).trans rfl, (blk_cell (Aside0.mk (HI1.out).1).out 1).trans rfl, (blk_cell (Aside0.mk (HI1.out).1).out 2).trans rfl, (blk_cell (Aside0.mk (HI1.out).1).out 3).trans rfl, (blk_cell (Aside0.mk (HI1.out).1).out 4).trans rfl, (blk_cell (Aside0.mk (HI1.out).1).out 5).trans rfl, (blk_cell (Aside0.mk (HI1.out).1).out 6).trans rfl, (blk_cell (Aside0.mk (HI1.out).1).out 7).trans rfl, (blk_cell (Aside0.mk (HI1.out).1).out 8).trans rfl, (blk_cell (Aside0.mk (HI1.out).1).out 9).trans rfl, (blk_cell (Aside0.mk (HI1.out).1).out 10).trans rfl⟩ (fun hHeld => ?_)
 clear hK K
 refine norm_ (a' := ?_) ?_ ?_
 rotate_left
 ·
  show Act.put _ (some 135) _ = _
  simp only [Act.put, zA, zB, zC, i64_w, i32_w]
  rfl
 refine done_ (done_of HT_.out (by kernel_rfl)) ?_
 obtain ⟨HGz51, hgz51⟩ := HI1.out
 have hcz51_0 := cellS46_0 HGz51
 have hcz51_1 := cellS46_1 HGz51
 have hcz51_2 := cellS46_2 HGz51
 have hcz51_3 := cellS46_3 HGz51
 have hcz51_4 := cellS46_4 HGz51
 have hcz51_5 := cellS46_5 HGz51
 have hcz51_6 := cellS46_6 HGz51
 have hcz51_7 := cellS46_7 HGz51
 have hcz51_8 := cellS46_8 HGz51
 have hcz51_9 := cellS46_9 HGz51
 have hcz51_10 := cellS46_10 HGz51
 have hfz51_0 := blk_frozen HGz51 0
 have hfz51_1 := blk_frozen HGz51 1
 have hfz51_2 := blk_frozen HGz51 2
 have hfz51_3 := blk_frozen HGz51 3
 have hfz51_4 := blk_frozen HGz51 4
 have hfz51_5 := blk_frozen HGz51 5
 have hfz51_6 := blk_frozen HGz51 6
 have hfz51_7 := blk_frozen HGz51 7
 have hfz51_8 := blk_frozen HGz51 8
 have hfz51_9 := blk_frozen HGz51 9
 have hfz51_10 := blk_frozen HGz51 10
 clear HGz51 hgz51
 try go_wp2
 first | go_end0 | ((try simp only [Exit.inBlock, Exit.then]); refine bodyPost_ret (results_none rfl _ _ _) rfl ?_)
 exact ⟨EE, by repeat (first | (with_reducible first | exact HI1.out | apply IsS46.alloc | apply IsS46.drewN | apply IsS46.drew | apply IsS46.set_0 | apply IsS46.set_1 | apply IsS46.set_2 | apply IsS46.set_3 | apply IsS46.set_4 | apply IsS46.set_5 | apply IsS46.set_6 | apply IsS46.set_7 | apply IsS46.set_8 | apply IsS46.set_9 | apply IsS46.set_10) | exact HI1.out), by (with_reducible repeat (first | apply r1 | apply r2 | apply r3)); exact Kd.R_mono (Kd.R_far (p := ⟨g, 4, none⟩) (IsS46.apart HI1.out HO0.out (by decide)) (fun _ hk => hk.2) (.int .i64 6)) (fun _ hk => hk.1), by repeat (first | (with_reducible first | exact HB.out | apply below_alloc | apply pw_below_drewN | apply below_drew1 | refine below_set ?_ (IsS46.ge HI1.out)) | exact HB.out), by repeat (first | (with_reducible first | exact HK.out | apply Kept.alloc | apply Kept.drewN | apply Kept.drew | refine Kept.setCell ?_ (.inl (.inr rfl)) _) | exact HK.out)⟩

end Go.Proofs.Ytjmggbhgmenmcaa.Qs
