-- Laid by myprint.py, a program of this session's own, over the kit's print. Not trusted: Lean checks it.
import Derived.Test.YtjmggbhgmenmcaaQstx0
import Derived.Test.YtjmggbhgmenmcaaQstx2
import Derived.Test.YtjmggbhgmenmcaaQstx3
namespace Go.Proofs.Ytjmggbhgmenmcaa.Qst
open Go.RowKit Go.Proofs.YtjmggbhgmenmcaaW.PrintWords Go.Proofs.YtjmggbhgmenmcaaW.PrintLast Go.Proofs.YtjmggbhgmenmcaaW.PrintMore
attribute [local go_sem] Go.Proofs.Ytjmggbhgmenmcaa.StrCmp.gtr_less Go.Proofs.Ytjmggbhgmenmcaa.StrCmp.geq_less Go.Proofs.Ytjmggbhgmenmcaa.StrCmp.leq_less max2_int min2_int max_two min_two max_three min_three max_four min_four   -- for this text's walks alone
set_option linter.unusedVariables false
set_option linter.unusedSimpArgs false

/-! ### spec_l06Swap: function 80 -/
def spec_l06Swap.f (l0 : List Int) (a1 : Int) (a2 : Int) (a3 : Int) : Option (Bool × List Int) := (spec_l06Word.f a1).bind fun t183 => (if 0 ≤ t183 then (if t183 < (l0.length : Int) then (if (rd l0 t183) = a2 then ((spec_l06Word.f a1).bind fun t185 => (if 0 ≤ t185 then (if t185 < (l0.length : Int) then (some (true, (l0.set (t185 : Int).toNat a3))) else (none)) else (none))) else (some (false, l0))) else (none)) else (none))
set_option maxHeartbeats 8000000 in
set_option maxRecDepth 100000 in
theorem spec_l06Swap.calls (P0_ : Nat → Prop) (u9000_ : Value) (l0 : List Int) (a1 : Int) (a2 : Int) (a3 : Int) (r1 : Bool) (r2 : List Int) (w0 w : World) (hB : Below w0.heap.size w0 w) (ho0 : Kd.R (Kd.int .i64) 3 w w0.heap.size P0_ u9000_ l0) (h : spec_l06Swap.f l0 a1 a2 a3 = some (r1, r2)) :
  Calls Try.prog 80 #[u9000_, .int .i64 a1, .int .i64 a2, .int .i64 a3] w fun e w' => e = .returned (.bool r1) ∧ Kd.R (Kd.int .i64) 3 w' w0.heap.size (fun k_ => (P0_ k_ ∨ w.heap.size ≤ k_)) u9000_ r2 ∧ Below w0.heap.size w0 w' ∧ Kept w w' (fun k_ => P0_ k_) := by
 have HO0 := Aside0.mk (show Kd.R (Kd.int .i64) 3 w w0.heap.size (fun k_ => (P0_ k_ ∨ w.heap.size ≤ k_)) u9000_ l0 from Kd.R_mono ho0 (fun k_ hk => (.inl hk)))
 have HK := Aside0.mk (Kept.refl w (fun k_ => P0_ k_))
 have HW0 := Aside0.mk hB.size
 have HB := Aside0.mk hB
 clear hB
 obtain ⟨wv, hwv⟩ : ∃ wv : World, wv = w := ⟨w, rfl⟩
 replace HO0 : Aside0 (Kd.R (Kd.int .i64) 3 w w0.heap.size (fun k_ => (P0_ k_ ∨ wv.heap.size ≤ k_)) u9000_ l0) := by rw [hwv]; exact HO0
 replace HK : Aside0 (Kept wv w (fun k_ => P0_ k_)) := by rw [hwv]; exact HK
 suffices hs_ : Calls Try.prog 80 #[u9000_, .int .i64 a1, .int .i64 a2, .int .i64 a3] w fun e w' => e = .returned (.bool r1) ∧ Kd.R (Kd.int .i64) 3 w' w0.heap.size (fun k_ => (P0_ k_ ∨ wv.heap.size ≤ k_)) u9000_ r2 ∧ Below w0.heap.size w0 w' ∧ Kept wv w' (fun k_ => P0_ k_) by rw [hwv] at hs_; exact hs_
 clear hwv
 have H : ((spec_l06Word.f a1).bind fun t183 => (if 0 ≤ t183 then (if t183 < (l0.length : Int) then (if (rd l0 t183) = a2 then ((spec_l06Word.f a1).bind fun t185 => (if 0 ≤ t185 then (if t185 < (l0.length : Int) then (some (true, (l0.set (t185 : Int).toNat a3))) else (none)) else (none))) else (some (false, l0))) else (none)) else (none))) = some (r1, r2) := h
 clear h
 replace H := Option.bind_eq_some_iff.mp H
 obtain ⟨t183, A50, H⟩ := H
 have A5 := Aside0.mk A50
 clear A50
 by_cases c6 : 0 ≤ t183; rotate_left
 ·
  rw [if_neg c6] at H; exact absurd H (by simp)
 rw [if_pos c6] at H
 have c6b0 : decide (0 ≤ t183) = true := decide_eq_true c6
 clear c6
 by_cases c7 : t183 < (l0.length : Int); rotate_left
 ·
  rw [if_neg c7] at H; exact absurd H (by simp)
 rw [if_pos c7] at H
 have c7b0 : decide (t183 < (l0.length : Int)) = true := decide_eq_true c7
 clear c7
 by_cases c8 : (rd l0 t183) = a2; rotate_left
 ·
  rw [if_neg c8] at H; have c8b0 : ((rd l0 t183) == a2) = false := beq_eq_false_iff_ne.mpr c8; have c8b1 : ((rd l0 t183) != a2) = true := bne_iff_ne.mpr c8; simp only [Option.some.injEq, Prod.mk.injEq] at H; obtain ⟨rfl, rfl⟩ := H
  go_enter Try.func80, Try.ntmps80
  go_wp2_with (first | ((with_reducible refine gate_callee (f := 74) rfl ?_); refine goesL_ (some 11) rfl rfl Try.func74 (by kernel_rfl) rfl #[.int .i64 a1] rfl (MA) ?_; (with_reducible refine (spec_l06Word.calls a1 t183 _ A5.out).mono ?_); rintro e w' ⟨rfl, ⟨nd, rfl⟩⟩; refine ⟨_, rfl, ?_⟩; obtain ⟨Ao16, co16, eo16⟩ := Kd.R_slice HO0.out; subst eo16; have p184 : 0 ≤ (t183 : Int) := of_decide_eq_true AS; have q184 : t183 < (l0.length : Int) := of_decide_eq_true AS; obtain ⟨ad184, e184, hx184_0⟩ := Kd.at_int (Kd.R_reads' HO0.out).2.2 t183 p184 q184; cases e184; replace p184 := eq_true p184; replace q184 := eq_true q184))
  go_ret
  exact ⟨EE, RQ HO0.out, BL, KL⟩
 rw [if_pos c8] at H
 have c8b0 : ((rd l0 t183) == a2) = true := beq_iff_eq.mpr c8
 have c8b1 : ((rd l0 t183) != a2) = false := bne_eq_false_iff_eq.mpr c8
 clear c8
 replace H := Option.bind_eq_some_iff.mp H
 obtain ⟨t185, A90, H⟩ := H
 have A9 := Aside0.mk A90
 clear A90
 by_cases c10 : 0 ≤ t185; rotate_left
 ·
  rw [if_neg c10] at H; exact absurd H (by simp)
 rw [if_pos c10] at H
 have c10b0 : decide (0 ≤ t185) = true := decide_eq_true c10
 clear c10
 by_cases c11 : t185 < (l0.length : Int); rotate_left
 ·
  rw [if_neg c11] at H; exact absurd H (by simp)
 rw [if_pos c11] at H
 have c11b0 : decide (t185 < (l0.length : Int)) = true := decide_eq_true c11
 clear c11
 obtain ⟨y186, hy186⟩ : ∃ y_ : List Int, y_ = (l0.set (t185 : Int).toNat a3) := ⟨_, rfl⟩
 replace H : (some (true, y186)) = some (r1, r2) := by first | (rw [hy186]; with_reducible exact H) | (have H2_ := (Option.bind_some _ _).symm.trans H; rw [hy186]; with_reducible exact H2_) | (have H2_ := (Option.bind_some _ _).symm.trans H; with_reducible exact H2_) | with_reducible exact H | (rw [hy186]; exact H) | exact H
 have Ny186 := Aside0.mk hy186
 clear hy186
 simp only [Option.some.injEq, Prod.mk.injEq] at H
 obtain ⟨rfl, rfl⟩ := H
 go_enter Try.func80, Try.ntmps80
 go_wp2_with (first | ((with_reducible refine gate_callee (f := 74) rfl ?_); refine goesL_ (some 11) rfl rfl Try.func74 (by kernel_rfl) rfl #[.int .i64 a1] rfl (MA) ?_; (with_reducible refine (spec_l06Word.calls a1 t183 _ A5.out).mono ?_); rintro e w' ⟨rfl, ⟨nd, rfl⟩⟩; refine ⟨_, rfl, ?_⟩; (try (rw [drewN_self w]; generalize hq_ : World.drewN w _ = w; have n0_ : Aside0 (Kd.R (Kd.int .i64) 3 w w0.heap.size (fun k_ => (P0_ k_ ∨ wv.heap.size ≤ k_)) u9000_ l0) := ⟨by rw [← hq_]; exact (RQ HO0.out)⟩; have n1_ : Aside0 (Kept wv w (fun k_ => P0_ k_)) := ⟨by rw [← hq_]; exact (KL)⟩; have n2_ : Aside0 (Below w0.heap.size w0 w) := ⟨by rw [← hq_]; exact (BL)⟩; clear HO0 HK HB hq_; have HO0 := n0_; have HK := n1_; have HB := n2_; clear n0_ n1_ n2_)); obtain ⟨Ao13, co13, eo13⟩ := Kd.R_slice HO0.out; subst eo13; have p184 : 0 ≤ (t183 : Int) := of_decide_eq_true AS; have q184 : t183 < (l0.length : Int) := of_decide_eq_true AS; obtain ⟨ad184, e184, hx184_0⟩ := Kd.at_int (Kd.R_reads' HO0.out).2.2 t183 p184 q184; cases e184; replace p184 := eq_true p184; replace q184 := eq_true q184) | ((with_reducible refine gate_callee (f := 74) rfl ?_); refine goesL_ (some 18) rfl rfl Try.func74 (by kernel_rfl) rfl #[.int .i64 a1] rfl (MA) ?_; (with_reducible refine (spec_l06Word.calls a1 t185 _ A9.out).mono ?_); rintro e w' ⟨rfl, ⟨nd, rfl⟩⟩; refine ⟨_, rfl, ?_⟩; (try (rw [drewN_self w]; generalize hq_ : World.drewN w _ = w; have n0_ : Aside0 (Kd.R (Kd.int .i64) 3 w w0.heap.size (fun k_ => (P0_ k_ ∨ wv.heap.size ≤ k_)) (.slice (some ad184) l0.length co13) l0) := ⟨by rw [← hq_]; exact (RQ HO0.out)⟩; have n1_ : Aside0 (Kept wv w (fun k_ => P0_ k_)) := ⟨by rw [← hq_]; exact (KL)⟩; have n2_ : Aside0 (Below w0.heap.size w0 w) := ⟨by rw [← hq_]; exact (BL)⟩; clear HO0 HK HB hq_; have HO0 := n0_; have HK := n1_; have HB := n2_; clear n0_ n1_ n2_)); have p12 : 0 ≤ (t185 : Int) := of_decide_eq_true AS; have q12 : (t185 : Int) < ((l0.length : Int) : Int) := of_decide_eq_true AS; obtain ⟨go12, co12, eo12, gb12, gl12, cl12, HG12⟩ := Kd.R_form HO0.out (by omega); (first | cases eo12 | (injection eo12 with ea_ en_ ec_; (first | subst ea_ | (injection ea_ with ea_; subst ea_)); subst ec_; clear en_)); have GB12 := Aside0.mk gb12; have GG12 := Aside0.mk HG12; clear gb12 gl12 HG12; have HMgo12 := Aside0.mk (show (P0_ go12 ∨ wv.heap.size ≤ go12) from (HO0.out.1 _ rfl)); (first | simp only [add_plain] at hx184_0 | skip); obtain ⟨hx12_0, hf12_0⟩ := Kd.R_celln 0 HO0.out (t185 : Int) p12 q12; replace p12 := eq_true p12; replace q12 := eq_true q12; obtain ⟨hy14_, hz14_⟩ := Kd.R_celln 0 HO0.out (t185 : Int) (of_decide_eq_true AS) (of_decide_eq_true AS); have HP14 := Kd.R_putg HO0.out (t185 : Int) a3) | ((with_reducible refine gate_store (t := 3) (p := 20) rfl ?_); refine store_event (t := 3) (p := 20) (v := ?vo_w15) (w1 := (w.setCell ⟨go12, (t185 : Int).toNat, none⟩ (.int .i64 a3))) ?hg ?ho ?hn ?hr ?_; (case ho => rfl); (case hg => rfl); (case hn => rfl); (case hr => first | (go_simp; done) | (go_simp; rfl)); intro w15 hw; have hg : w.grownBy w15 (some go12) := (by rw [hw]; exact HP14.2); have hp_ : Kd.R (Kd.int .i64) 3 w15 w0.heap.size (fun k_ => (P0_ k_ ∨ wv.heap.size ≤ k_)) (.slice (some ⟨go12, 0, none⟩) l0.length co13) y186 := (by rw [hw, Ny186.out]; exact HP14.1); clear HP14; replace HK := Aside0.mk (Kept.of_grown (S := (fun k_ => P0_ k_)) hg (KL) (fun k_ e_ => (HO0.out.1 k_ e_))); replace HO0 := Aside0.mk (hp_); replace HB := Aside0.mk ((by rw [hw]; exact below_set (HB.out) GB12.out : Below w0.heap.size w0 w15)); clear hg hw hp_))
 go_ret
 exact ⟨EE, RQ HO0.out, BL, KL⟩

/-! ### spec_l06Look: function 78 -/
def spec_l06Look.f (l0 : List Int) (s1_0 : Int) (s1_1 : Int) (s1_2 : Int) (s1_3 : Int) (s1_4 : Int) (s1_5 : Int) (s1_6 : Int) (s1_7 : Int) (s1_8 : Int) (s1_9 : Bool) (s1_10 : Int) : Option (Int × Int × Int × Int × Int × Int × Int × Int × Int × Bool × Int × List Int) := if s1_8 = 1 then ((spec_l06Swap.f l0 s1_5 (wrap64 (2 * s1_6)) (wrap64 (2 * s1_7))).bind fun bt187 => (if bt187.1 = true then (some (s1_0, s1_1, s1_2, s1_3, 1, s1_5, s1_7, s1_7, s1_8, s1_9, s1_10, bt187.2)) else (some (s1_0, s1_1, s1_2, s1_3, 0, s1_5, s1_6, s1_7, s1_8, s1_9, s1_10, bt187.2)))) else (if 0 ≤ (wrap64 (3 * s1_6)) then (if (wrap64 (3 * s1_6)) < (l0.length : Int) then (if (rd l0 (wrap64 (3 * s1_6))) < s1_1 then (some (s1_0, s1_1, s1_2, s1_3, 1, s1_6, s1_7, s1_7, s1_8, s1_9, s1_10, l0)) else (some (s1_0, s1_1, s1_2, s1_3, 3, s1_5, s1_6, s1_7, s1_8, s1_9, s1_10, l0))) else (none)) else (none))
def spec_l06Look.T2 : Bool × List (List Nat × List Nat) := (true, [([], []), ([], []), ([1], [1]), ([2], [2]), ([3], [3]), ([], []), ([5], [5]), ([6], [6]), ([7], [7]), ([8], [8]), ([], []), ([10], [10]), ([11], [11]), ([12], [12]), ([13], [13]), ([0, 4, 9, 14], [0, 4, 9, 14])])
def spec_l06Look.B2 : List Nat := [0, 0, 2, 6, 14, 0, 32, 96, 224, 480, 0, 1024, 3072, 7168, 15360, 32767]
theorem spec_l06Look.tab2 : rtab .any (opsOf Try.f78 2) = spec_l06Look.T2 := by kernel_rfl
theorem spec_l06Look.bits2 : waitsOk spec_l06Look.T2.2 spec_l06Look.B2 = true := by kernel_rfl
def spec_l06Look.T5 : Bool × List (List Nat × List Nat) := (true, [([], []), ([], []), ([1], [1]), ([2], [2]), ([3], [3]), ([4], [4]), ([0, 5], [0, 5]), ([6], [6]), ([], []), ([8], [8]), ([9], [9]), ([10], [10]), ([7, 11], [7, 11])])
def spec_l06Look.B5 : List Nat := [0, 0, 2, 6, 14, 30, 63, 127, 0, 256, 768, 1792, 4095]
theorem spec_l06Look.tab5 : rtab .any (opsOf Try.f78 5) = spec_l06Look.T5 := by kernel_rfl
theorem spec_l06Look.bits5 : waitsOk spec_l06Look.T5.2 spec_l06Look.B5 = true := by kernel_rfl
theorem spec_l06Look.k0 {p q : Prop} (h : q) (k : q → p := by intro h_; repeat (first | (with_reducible first | exact h_ | apply IsS46.alloc | apply IsS46.drewN | apply IsS46.drew | apply IsS46.set_0 | apply IsS46.set_1 | apply IsS46.set_2 | apply IsS46.set_3 | apply IsS46.set_4 | apply IsS46.set_5 | apply IsS46.set_6 | apply IsS46.set_7 | apply IsS46.set_8 | apply IsS46.set_9 | apply IsS46.set_10) | exact h_)) : p := k h
theorem spec_l06Look.k1 {p q : Prop} (h : q) (k : q → p := by intro h_; repeat (first | (with_reducible first | exact h_ | apply below_alloc | apply pw_below_drewN | apply below_drew1 | refine below_set ?_ (IsS46.ge HI1.out)) | exact h_)) : p := k h
theorem spec_l06Look.k2 {p q : Prop} (h : q) (k : q → p := by intro h_; repeat (first | (with_reducible first | exact h_ | apply Kept.alloc | apply Kept.drewN | apply Kept.drew | refine Kept.setCell ?_ (.inl (.inr rfl)) _) | exact h_)) : p := k h
set_option maxHeartbeats 8000000 in
set_option maxRecDepth 100000 in
theorem spec_l06Look.calls (P0_ : Nat → Prop) (u9000_ : Value) (l0 : List Int) (g : Nat) (s1_0 : Int) (s1_1 : Int) (s1_2 : Int) (s1_3 : Int) (s1_4 : Int) (s1_5 : Int) (s1_6 : Int) (s1_7 : Int) (s1_8 : Int) (s1_9 : Bool) (s1_10 : Int) (r1 : Int) (r2 : Int) (r3 : Int) (r4 : Int) (r5 : Int) (r6 : Int) (r7 : Int) (r8 : Int) (r9 : Int) (r10 : Bool) (r11 : Int) (r12 : List Int) (w0 w : World) (hI : IsS46 w0 w g s1_0 s1_1 s1_2 s1_3 s1_4 s1_5 s1_6 s1_7 s1_8 s1_9 s1_10) (hB : Below w0.heap.size w0 w) (ho0 : Kd.R (Kd.int .i64) 3 w w0.heap.size P0_ u9000_ l0) (h : spec_l06Look.f l0 s1_0 s1_1 s1_2 s1_3 s1_4 s1_5 s1_6 s1_7 s1_8 s1_9 s1_10 = some (r1, r2, r3, r4, r5, r6, r7, r8, r9, r10, r11, r12)) :
  Calls Try.prog 78 #[u9000_, .pointer (some ⟨g, 0, none⟩)] w fun e w' => e = .returned (.tuple #[]) ∧ IsS46 w0 w' g r1 r2 r3 r4 r5 r6 r7 r8 r9 r10 r11 ∧ Kd.R (Kd.int .i64) 3 w' w0.heap.size (fun k_ => (P0_ k_ ∨ w.heap.size ≤ k_)) u9000_ r12 ∧ Below w0.heap.size w0 w' ∧ Kept w w' (fun k_ => (P0_ k_) ∨ k_ = g) := by
 have HO0 := Aside0.mk (show Kd.R (Kd.int .i64) 3 w w0.heap.size (fun k_ => (P0_ k_ ∨ w.heap.size ≤ k_)) u9000_ l0 from Kd.R_mono ho0 (fun k_ hk => (.inl hk)))
 have HI1 := Aside0.mk hI
 have HL := Aside0.mk hB.size
 clear hI
 have HK := Aside0.mk (Kept.refl w (fun k_ => (P0_ k_) ∨ k_ = g))
 have HW0 := Aside0.mk hB.size
 have HB := Aside0.mk hB
 clear hB
 have H : (if s1_8 = 1 then ((spec_l06Swap.f l0 s1_5 (wrap64 (2 * s1_6)) (wrap64 (2 * s1_7))).bind fun bt187 => (if bt187.1 = true then (some (s1_0, s1_1, s1_2, s1_3, 1, s1_5, s1_7, s1_7, s1_8, s1_9, s1_10, bt187.2)) else (some (s1_0, s1_1, s1_2, s1_3, 0, s1_5, s1_6, s1_7, s1_8, s1_9, s1_10, bt187.2)))) else (if 0 ≤ (wrap64 (3 * s1_6)) then (if (wrap64 (3 * s1_6)) < (l0.length : Int) then (if (rd l0 (wrap64 (3 * s1_6))) < s1_1 then (some (s1_0, s1_1, s1_2, s1_3, 1, s1_6, s1_7, s1_7, s1_8, s1_9, s1_10, l0)) else (some (s1_0, s1_1, s1_2, s1_3, 3, s1_5, s1_6, s1_7, s1_8, s1_9, s1_10, l0))) else (none)) else (none))) = some (r1, r2, r3, r4, r5, r6, r7, r8, r9, r10, r11, r12) := h
 clear h
 by_cases c3 : s1_8 = 1; rotate_left
 ·
  rw [if_neg c3] at H; have c3b0 : (s1_8 == 1) = false := beq_eq_false_iff_ne.mpr c3; have c3b1 : (s1_8 != 1) = true := bne_iff_ne.mpr c3; obtain ⟨ji17, hji17⟩ : ∃ j_ : Int, (wrap64 (3 * s1_6)) = j_ := ⟨_, rfl⟩
  replace H : (if 0 ≤ (ji17) then (if (ji17) < (l0.length : Int) then (if (rd l0 (ji17)) < s1_1 then (some (s1_0, s1_1, s1_2, s1_3, 1, s1_6, s1_7, s1_7, s1_8, s1_9, s1_10, l0)) else (some (s1_0, s1_1, s1_2, s1_3, 3, s1_5, s1_6, s1_7, s1_8, s1_9, s1_10, l0))) else (none)) else (none)) = some (r1, r2, r3, r4, r5, r6, r7, r8, r9, r10, r11, r12) := by first | (rw [hji17] at H; exact H) | (simp only [hji17] at H ⊢; exact H)
  have hji17w : (IntKind.i64.wrap (3 * s1_6)) = ji17 := (i64_w _).trans hji17
  by_cases c18 : 0 ≤ (ji17); rotate_left
  ·
   rw [if_neg c18] at H; exact absurd H (by simp)
  rw [if_pos c18] at H; have c18b0 : decide (0 ≤ (ji17)) = true := decide_eq_true c18; clear c18
  by_cases c19 : (ji17) < (l0.length : Int); rotate_left
  ·
   rw [if_neg c19] at H; exact absurd H (by simp)
  rw [if_pos c19] at H; have c19b0 : decide ((ji17) < (l0.length : Int)) = true := decide_eq_true c19; clear c19
  by_cases c20 : (rd l0 (ji17)) < s1_1
  ·
   rw [if_pos c20] at H; have c20b0 : decide ((rd l0 (ji17)) < s1_1) = true := decide_eq_true c20; clear c20; simp only [Option.some.injEq, Prod.mk.injEq] at H; obtain ⟨rfl, rfl, rfl, rfl, rfl, rfl, rfl, rfl, rfl, rfl, rfl, rfl⟩ := H; obtain ⟨HGz21, hgz21⟩ := HI1.out; have hcz21_0 := cellS46_0 HGz21; have hcz21_1 := cellS46_1 HGz21; have hcz21_2 := cellS46_2 HGz21; have hcz21_3 := cellS46_3 HGz21; have hcz21_4 := cellS46_4 HGz21; have hcz21_5 := cellS46_5 HGz21; have hcz21_6 := cellS46_6 HGz21; have hcz21_7 := cellS46_7 HGz21; have hcz21_8 := cellS46_8 HGz21; have hcz21_9 := cellS46_9 HGz21; have hcz21_10 := cellS46_10 HGz21; have hfz21_0 := blk_frozen HGz21 0; have hfz21_1 := blk_frozen HGz21 1; have hfz21_2 := blk_frozen HGz21 2; have hfz21_3 := blk_frozen HGz21 3; have hfz21_4 := blk_frozen HGz21 4; have hfz21_5 := blk_frozen HGz21 5; have hfz21_6 := blk_frozen HGz21 6; have hfz21_7 := blk_frozen HGz21 7; have hfz21_8 := blk_frozen HGz21 8; have hfz21_9 := blk_frozen HGz21 9; have hfz21_10 := blk_frozen HGz21 10; clear HGz21 hgz21
   go_enter Try.func78, Try.ntmps78
   try go_wp2
   have n0_ := Aside0.mk (Kd.R_drew HO0.out); have n1_ := Aside0.mk (IsS46.drew HI1.out); have n2_ := Aside0.mk (Kept.drew HK.out); have n3_ := Aside0.mk (below_drew1 HB.out); clear HO0; clear HI1; clear HK; clear HB; have HO0 := n0_; have HI1 := n1_; have HK := n2_; have HB := n3_; clear n0_ n1_ n2_ n3_; obtain ⟨Ao23, co23, eo23⟩ := Kd.R_slice HO0.out
   (first | subst eo23 | (injection eo23 with f1_ f2_ f3_; have f4_ := f1_.symm; have f5_ := f3_.symm; clear f1_ f2_ f3_; subst f4_; subst f5_))
   have p189 : 0 ≤ ((ji17) : Int) := of_decide_eq_true AS; have q189 : (ji17) < (l0.length : Int) := of_decide_eq_true AS; obtain ⟨ad189, e189, hx189_0⟩ := Kd.at_int (Kd.R_reads' HO0.out).2.2 (ji17) p189 q189; cases e189; replace p189 := eq_true p189; replace q189 := eq_true q189; refine start_ (n := 13) (S := fun w' => w'.cell? ⟨g, 0, none⟩ = some (.int .i64 s1_0) ∧ w'.cell? ⟨g, 1, none⟩ = some (.int .i64 s1_1) ∧ w'.cell? ⟨g, 2, none⟩ = some (.int .i64 s1_2) ∧ w'.cell? ⟨g, 3, none⟩ = some (.int .i64 s1_3) ∧ w'.cell? ⟨g, 4, none⟩ = some (.int .i64 s1_4) ∧ w'.cell? ⟨g, 5, none⟩ = some (.int .i64 s1_5) ∧ w'.cell? ⟨g, 6, none⟩ = some (.int .i64 s1_6) ∧ w'.cell? ⟨g, 7, none⟩ = some (.int .i64 s1_7) ∧ w'.cell? ⟨g, 8, none⟩ = some (.int .i64 s1_8) ∧ w'.cell? ⟨g, 9, none⟩ = some (.bool s1_9) ∧ w'.cell? ⟨g, 10, none⟩ = some (.int .i64 s1_10) ∧ w'.cell? (ad189.add ((ji17)).toNat) = some (.int .i64 (rd l0 (ji17)))) (ds := []) #[false, false, false, false, false, false, false, false, false, false, false, false, false] (by kernel_rfl) rfl rfl ⟨(blk_cell (Aside0.mk (HI1.out).1).out 0).trans rfl, (blk_cell (Aside0.mk (HI1.out).1).out 1).trans rfl, (blk_cell (Aside0.mk (HI1.out).1).out 2).trans rfl, (blk_cell (Aside0.mk (HI1.out).1).out 3).trans rfl, (blk_cell (Aside0.mk (HI1.out).1).out 4).trans rfl, (blk_cell (Aside0.mk (HI1.out).1).out 5).trans rfl, (blk_cell (Aside0.mk (HI1.out).1).out 6).trans rfl, (blk_cell (Aside0.mk (HI1.out).1).out 7).trans rfl, (blk_cell (Aside0.mk (HI1.out).1).out 8).trans rfl, (blk_cell (Aside0.mk (HI1.out).1).out 9).trans rfl, (blk_cell (Aside0.mk (HI1.out).1).out 10).trans rfl, hx189_0⟩ (fun hHeld => ?_); refine with_tabW spec_l06Look.tab5 spec_l06Look.bits5 (fun HT_ HW_ => ?_); generalize w.drew = w22 at HO0 HI1 HK HB hx189_0 hHeld ⊢; refine pV 0 38 (OB 13 1) ?_; refine pV 1 39 (OB 13 3) ?_; refine pV 2 40 (OB 13 7) ?_; refine pV 3 41 (OB 13 15) ?_; refine pV 8 46 (OB 13 271) ?_; refine pV 9 47 (OB 13 783) ?_; refine pV 10 48 (OB 13 1807) ?_; refine pT 4 42 (OB 13 1823) ?_; refine pV 5 43 (OB 13 1855) ?_; refine pV 6 44 (OB 13 1919) ?_; refine pT 7 45 (OB 13 2047) ?_; refine pT 11 49 (OB 13 4095) ?_; refine pV 12 50 (OB 13 8191) ?_; refine done_ (done_of HT_.out (by kernel_rfl)) ?_; obtain ⟨HGz24, hgz24⟩ := HI1.out; have hcz24_0 := cellS46_0 HGz24; have hcz24_1 := cellS46_1 HGz24; have hcz24_2 := cellS46_2 HGz24; have hcz24_3 := cellS46_3 HGz24; have hcz24_4 := cellS46_4 HGz24; have hcz24_5 := cellS46_5 HGz24; have hcz24_6 := cellS46_6 HGz24; have hcz24_7 := cellS46_7 HGz24; have hcz24_8 := cellS46_8 HGz24; have hcz24_9 := cellS46_9 HGz24; have hcz24_10 := cellS46_10 HGz24; have hfz24_0 := blk_frozen HGz24 0; have hfz24_1 := blk_frozen HGz24 1; have hfz24_2 := blk_frozen HGz24 2; have hfz24_3 := blk_frozen HGz24 3; have hfz24_4 := blk_frozen HGz24 4; have hfz24_5 := blk_frozen HGz24 5; have hfz24_6 := blk_frozen HGz24 6; have hfz24_7 := blk_frozen HGz24 7; have hfz24_8 := blk_frozen HGz24 8; have hfz24_9 := blk_frozen HGz24 9; have hfz24_10 := blk_frozen HGz24 10; clear HGz24 hgz24
   try go_wp2
   first | go_end0 | ((try simp only [Exit.inBlock, Exit.then]); refine bodyPost_ret (results_none rfl _ _ _) rfl ?_)
   exact ⟨by first | rfl | (simp [errW_none, errW_some] <;> rfl) | (simp only [← hji17]; first | rfl | (simp [errW_none, errW_some] <;> rfl)) | (simp [*, errW_none, errW_some] <;> rfl), spec_l06Look.k0 HI1.out, by (with_reducible repeat (first | apply r1 | apply r2 | apply r3)); exact Kd.R_mono (Kd.R_far (p := ⟨g, 4, none⟩) (Kd.R_far (p := ⟨g, 6, none⟩) (Kd.R_far (p := ⟨g, 5, none⟩) (IsS46.apart HI1.out HO0.out (by decide)) (fun _ hk => hk.2) (.int .i64 s1_6)) (fun _ hk => hk.2) (.int .i64 s1_7)) (fun _ hk => hk.2) (.int .i64 1)) (fun _ hk => hk.1), spec_l06Look.k1 HB.out, spec_l06Look.k2 HK.out⟩
  rw [if_neg c20] at H; have c20b0 : decide ((rd l0 (ji17)) < s1_1) = false := decide_eq_false c20; clear c20; simp only [Option.some.injEq, Prod.mk.injEq] at H; obtain ⟨rfl, rfl, rfl, rfl, rfl, rfl, rfl, rfl, rfl, rfl, rfl, rfl⟩ := H; obtain ⟨HGz25, hgz25⟩ := HI1.out; have hcz25_0 := cellS46_0 HGz25; have hcz25_1 := cellS46_1 HGz25; have hcz25_2 := cellS46_2 HGz25; have hcz25_3 := cellS46_3 HGz25; have hcz25_4 := cellS46_4 HGz25; have hcz25_5 := cellS46_5 HGz25; have hcz25_6 := cellS46_6 HGz25; have hcz25_7 := cellS46_7 HGz25; have hcz25_8 := cellS46_8 HGz25; have hcz25_9 := cellS46_9 HGz25; have hcz25_10 := cellS46_10 HGz25; have hfz25_0 := blk_frozen HGz25 0; have hfz25_1 := blk_frozen HGz25 1; have hfz25_2 := blk_frozen HGz25 2; have hfz25_3 := blk_frozen HGz25 3; have hfz25_4 := blk_frozen HGz25 4; have hfz25_5 := blk_frozen HGz25 5; have hfz25_6 := blk_frozen HGz25 6; have hfz25_7 := blk_frozen HGz25 7; have hfz25_8 := blk_frozen HGz25 8; have hfz25_9 := blk_frozen HGz25 9; have hfz25_10 := blk_frozen HGz25 10; clear HGz25 hgz25
  go_enter Try.func78, Try.ntmps78
  try go_wp2
  have n0_ := Aside0.mk (Kd.R_drew HO0.out); have n1_ := Aside0.mk (IsS46.drew HI1.out); have n2_ := Aside0.mk (Kept.drew HK.out); have n3_ := Aside0.mk (below_drew1 HB.out); clear HO0; clear HI1; clear HK; clear HB; have HO0 := n0_; have HI1 := n1_; have HK := n2_; have HB := n3_; clear n0_ n1_ n2_ n3_; obtain ⟨Ao27, co27, eo27⟩ := Kd.R_slice HO0.out
  (first | subst eo27 | (injection eo27 with f1_ f2_ f3_; have f4_ := f1_.symm; have f5_ := f3_.symm; clear f1_ f2_ f3_; subst f4_; subst f5_))
  have p189 : 0 ≤ ((ji17) : Int) := of_decide_eq_true AS; have q189 : (ji17) < (l0.length : Int) := of_decide_eq_true AS; obtain ⟨ad189, e189, hx189_0⟩ := Kd.at_int (Kd.R_reads' HO0.out).2.2 (ji17) p189 q189; cases e189; replace p189 := eq_true p189; replace q189 := eq_true q189; refine start_ (n := 13) (S := fun w' => w'.cell? ⟨g, 0, none⟩ = some (.int .i64 s1_0) ∧ w'.cell? ⟨g, 1, none⟩ = some (.int .i64 s1_1) ∧ w'.cell? ⟨g, 2, none⟩ = some (.int .i64 s1_2) ∧ w'.cell? ⟨g, 3, none⟩ = some (.int .i64 s1_3) ∧ w'.cell? ⟨g, 4, none⟩ = some (.int .i64 s1_4) ∧ w'.cell? ⟨g, 5, none⟩ = some (.int .i64 s1_5) ∧ w'.cell? ⟨g, 6, none⟩ = some (.int .i64 s1_6) ∧ w'.cell? ⟨g, 7, none⟩ = some (.int .i64 s1_7) ∧ w'.cell? ⟨g, 8, none⟩ = some (.int .i64 s1_8) ∧ w'.cell? ⟨g, 9, none⟩ = some (.bool s1_9) ∧ w'.cell? ⟨g, 10, none⟩ = some (.int .i64 s1_10) ∧ w'.cell? (ad189.add ((ji17)).toNat) = some (.int .i64 (rd l0 (ji17)))) (ds := []) #[false, false, false, false, false, false, false, false, false, false, false, false, false] (by kernel_rfl) rfl rfl ⟨(blk_cell (Aside0.mk (HI1.out).1).out 0).trans rfl, (blk_cell (Aside0.mk (HI1.out).1).out 1).trans rfl, (blk_cell (Aside0.mk (HI1.out).1).out 2).trans rfl, (blk_cell (Aside0.mk (HI1.out).1).out 3).trans rfl, (blk_cell (Aside0.mk (HI1.out).1).out 4).trans rfl, (blk_cell (Aside0.mk (HI1.out).1).out 5).trans rfl, (blk_cell (Aside0.mk (HI1.out).1).out 6).trans rfl, (blk_cell (Aside0.mk (HI1.out).1).out 7).trans rfl, (blk_cell (Aside0.mk (HI1.out).1).out 8).trans rfl, (blk_cell (Aside0.mk (HI1.out).1).out 9).trans rfl, (blk_cell (Aside0.mk (HI1.out).1).out 10).trans rfl, hx189_0⟩ (fun hHeld => ?_); refine with_tabW spec_l06Look.tab5 spec_l06Look.bits5 (fun HT_ HW_ => ?_); generalize w.drew = w26 at HO0 HI1 HK HB hx189_0 hHeld ⊢; refine pV 0 38 (OB 13 1) ?_; refine pV 1 39 (OB 13 3) ?_; refine pV 2 40 (OB 13 7) ?_; refine pV 3 41 (OB 13 15) ?_; refine pV 8 46 (OB 13 271) ?_; refine pV 9 47 (OB 13 783) ?_; refine pV 10 48 (OB 13 1807) ?_; refine pT 4 42 (OB 13 1823) ?_; refine pV 5 43 (OB 13 1855) ?_; refine pV 6 44 (OB 13 1919) ?_; refine pT 7 45 (OB 13 2047) ?_; refine pT 11 49 (OB 13 4095) ?_; refine pV 12 50 (OB 13 8191) ?_; refine done_ (done_of HT_.out (by kernel_rfl)) ?_; obtain ⟨HGz28, hgz28⟩ := HI1.out; have hcz28_0 := cellS46_0 HGz28; have hcz28_1 := cellS46_1 HGz28; have hcz28_2 := cellS46_2 HGz28; have hcz28_3 := cellS46_3 HGz28; have hcz28_4 := cellS46_4 HGz28; have hcz28_5 := cellS46_5 HGz28; have hcz28_6 := cellS46_6 HGz28; have hcz28_7 := cellS46_7 HGz28; have hcz28_8 := cellS46_8 HGz28; have hcz28_9 := cellS46_9 HGz28; have hcz28_10 := cellS46_10 HGz28; have hfz28_0 := blk_frozen HGz28 0; have hfz28_1 := blk_frozen HGz28 1; have hfz28_2 := blk_frozen HGz28 2; have hfz28_3 := blk_frozen HGz28 3; have hfz28_4 := blk_frozen HGz28 4; have hfz28_5 := blk_frozen HGz28 5; have hfz28_6 := blk_frozen HGz28 6; have hfz28_7 := blk_frozen HGz28 7; have hfz28_8 := blk_frozen HGz28 8; have hfz28_9 := blk_frozen HGz28 9; have hfz28_10 := blk_frozen HGz28 10; clear HGz28 hgz28
  try go_wp2
  first | go_end0 | ((try simp only [Exit.inBlock, Exit.then]); refine bodyPost_ret (results_none rfl _ _ _) rfl ?_)
  exact ⟨by first | rfl | (simp [errW_none, errW_some] <;> rfl) | (simp only [← hji17]; first | rfl | (simp [errW_none, errW_some] <;> rfl)) | (simp [*, errW_none, errW_some] <;> rfl), spec_l06Look.k0 HI1.out, by (with_reducible repeat (first | apply r1 | apply r2 | apply r3)); exact Kd.R_mono (Kd.R_far (p := ⟨g, 4, none⟩) (IsS46.apart HI1.out HO0.out (by decide)) (fun _ hk => hk.2) (.int .i64 3)) (fun _ hk => hk.1), spec_l06Look.k1 HB.out, spec_l06Look.k2 HK.out⟩
 rw [if_pos c3] at H
 have c3b0 : (s1_8 == 1) = true := beq_iff_eq.mpr c3
 have c3b1 : (s1_8 != 1) = false := bne_eq_false_iff_eq.mpr c3
 clear c3
 replace H := Option.bind_eq_some_iff.mp H
 obtain ⟨⟨t187, t188⟩, A40, H⟩ := H
 replace H : (if t187 = true then (some (s1_0, s1_1, s1_2, s1_3, 1, s1_5, s1_7, s1_7, s1_8, s1_9, s1_10, t188)) else (some (s1_0, s1_1, s1_2, s1_3, 0, s1_5, s1_6, s1_7, s1_8, s1_9, s1_10, t188))) = some (r1, r2, r3, r4, r5, r6, r7, r8, r9, r10, r11, r12) := H
 have A4 := Aside0.mk A40
 clear A40
 by_cases c5 : t187 = true; rotate_left
 ·
  replace c5 := Bool.eq_false_iff.mpr c5; subst c5
  have H1 : (some (s1_0, s1_1, s1_2, s1_3, 0, s1_5, s1_6, s1_7, s1_8, s1_9, s1_10, t188)) = some (r1, r2, r3, r4, r5, r6, r7, r8, r9, r10, r11, r12) := by rw [if_neg (show ¬ (false = true) by decide)] at H; exact H
  clear H; have H := H1; clear H1; simp only [Option.some.injEq, Prod.mk.injEq] at H; obtain ⟨rfl, rfl, rfl, rfl, rfl, rfl, rfl, rfl, rfl, rfl, rfl, rfl⟩ := H; obtain ⟨HGz12, hgz12⟩ := HI1.out; have hcz12_0 := cellS46_0 HGz12; have hcz12_1 := cellS46_1 HGz12; have hcz12_2 := cellS46_2 HGz12; have hcz12_3 := cellS46_3 HGz12; have hcz12_4 := cellS46_4 HGz12; have hcz12_5 := cellS46_5 HGz12; have hcz12_6 := cellS46_6 HGz12; have hcz12_7 := cellS46_7 HGz12; have hcz12_8 := cellS46_8 HGz12; have hcz12_9 := cellS46_9 HGz12; have hcz12_10 := cellS46_10 HGz12; have hfz12_0 := blk_frozen HGz12 0; have hfz12_1 := blk_frozen HGz12 1; have hfz12_2 := blk_frozen HGz12 2; have hfz12_3 := blk_frozen HGz12 3; have hfz12_4 := blk_frozen HGz12 4; have hfz12_5 := blk_frozen HGz12 5; have hfz12_6 := blk_frozen HGz12 6; have hfz12_7 := blk_frozen HGz12 7; have hfz12_8 := blk_frozen HGz12 8; have hfz12_9 := blk_frozen HGz12 9; have hfz12_10 := blk_frozen HGz12 10; clear HGz12 hgz12
  go_enter Try.func78, Try.ntmps78
  try go_wp2
  have n0_ : Aside0 (Kd.R (Kd.int .i64) 3 (w.setCell ⟨g, 4, none⟩ (.int .i64 0)) w0.heap.size (fun k_ => (P0_ k_ ∨ w.heap.size ≤ k_)) u9000_ l0) := ⟨by (with_reducible repeat (first | apply r1 | apply r2 | apply r3)); exact Kd.R_mono (Kd.R_far (p := ⟨g, 4, none⟩) (IsS46.apart HI1.out HO0.out (by decide)) (fun _ hk => hk.2) (.int .i64 0)) (fun _ hk => hk.1)⟩; have n1_ : Aside0 (IsS46 w0 (w.setCell ⟨g, 4, none⟩ (.int .i64 0)) g s1_0 s1_1 s1_2 s1_3 0 s1_5 s1_6 s1_7 s1_8 s1_9 s1_10) := ⟨spec_l06Look.k0 HI1.out⟩; have n2_ : Aside0 (Kept w (w.setCell ⟨g, 4, none⟩ (.int .i64 0)) (fun k_ => (P0_ k_) ∨ k_ = g)) := ⟨spec_l06Look.k2 HK.out⟩; have n3_ : Aside0 (Below w0.heap.size w0 (w.setCell ⟨g, 4, none⟩ (.int .i64 0))) := ⟨spec_l06Look.k1 HB.out⟩
  (try clear HO0)
  (try clear HI1)
  (try clear HK)
  (try clear HB)
  generalize (w.setCell ⟨g, 4, none⟩ (.int .i64 0)) = w13 at n0_ n1_ n2_ n3_ ⊢; have HO0 := n0_; have HI1 := n1_; have HK := n2_; have HB := n3_; clear n0_ n1_ n2_ n3_; have n0_ := Aside0.mk (Kd.R_drew HO0.out); have n1_ := Aside0.mk (IsS46.drew HI1.out); have n2_ := Aside0.mk (Kept.drew HK.out); have n3_ := Aside0.mk (below_drew1 HB.out); clear HO0; clear HI1; clear HK; clear HB; have HO0 := n0_; have HI1 := n1_; have HK := n2_; have HB := n3_; clear n0_ n1_ n2_ n3_; obtain ⟨Ao15, co15, eo15⟩ := Kd.R_slice HO0.out
  (first | subst eo15 | (injection eo15 with f1_ f2_ f3_; have f4_ := f1_.symm; have f5_ := f3_.symm; clear f1_ f2_ f3_; subst f4_; subst f5_))
  refine start_ (n := 16) (S := fun w' => w'.cell? ⟨g, 0, none⟩ = some (.int .i64 s1_0) ∧ w'.cell? ⟨g, 1, none⟩ = some (.int .i64 s1_1) ∧ w'.cell? ⟨g, 2, none⟩ = some (.int .i64 s1_2) ∧ w'.cell? ⟨g, 3, none⟩ = some (.int .i64 s1_3) ∧ w'.cell? ⟨g, 4, none⟩ = some (.int .i64 0) ∧ w'.cell? ⟨g, 5, none⟩ = some (.int .i64 s1_5) ∧ w'.cell? ⟨g, 6, none⟩ = some (.int .i64 s1_6) ∧ w'.cell? ⟨g, 7, none⟩ = some (.int .i64 s1_7) ∧ w'.cell? ⟨g, 8, none⟩ = some (.int .i64 s1_8) ∧ w'.cell? ⟨g, 9, none⟩ = some (.bool s1_9) ∧ w'.cell? ⟨g, 10, none⟩ = some (.int .i64 s1_10)) (ds := []) #[false, false, false, false, false, false, false, false, false, false, false, false, false, false, false, false] (by kernel_rfl) rfl rfl ⟨(blk_cell (Aside0.mk (HI1.out).1).out 0).trans rfl, (blk_cell (Aside0.mk (HI1.out).1).out 1).trans rfl, (blk_cell (Aside0.mk (HI1.out).1).out 2).trans rfl, (blk_cell (Aside0.mk (HI1.out).1).out 3).trans rfl, (blk_cell (Aside0.mk (HI1.out).1).out 4).trans rfl, (blk_cell (Aside0.mk (HI1.out).1).out 5).trans rfl, (blk_cell (Aside0.mk (HI1.out).1).out 6).trans rfl, (blk_cell (Aside0.mk (HI1.out).1).out 7).trans rfl, (blk_cell (Aside0.mk (HI1.out).1).out 8).trans rfl, (blk_cell (Aside0.mk (HI1.out).1).out 9).trans rfl, (blk_cell (Aside0.mk (HI1.out).1).out 10).trans rfl⟩ (fun hHeld => ?_); refine with_tabW spec_l06Look.tab2 spec_l06Look.bits2 (fun HT_ HW_ => ?_); generalize w13.drew = w14 at HO0 HI1 HK HB hHeld ⊢; refine pV 0 12 (OB 16 1) ?_; refine pV 1 13 (OB 16 3) ?_; refine pV 2 14 (OB 16 7) ?_; refine pV 3 15 (OB 16 15) ?_; refine pV 5 17 (OB 16 47) ?_; refine pV 6 18 (OB 16 111) ?_; refine pV 7 19 (OB 16 239) ?_; refine pV 10 22 (OB 16 1263) ?_; refine pV 11 23 (OB 16 3311) ?_; refine pV 12 24 (OB 16 7407) ?_; refine pT 4 16 (OB 16 7423) ?_; refine pT 8 20 (OB 16 7679) ?_; refine pV 9 21 (OB 16 8191) ?_; refine pT 13 25 (OB 16 16383) ?_; refine pV 14 26 (OB 16 32767) ?_; refine one_ (i := 15) (N := some 27) (OB 16 65535) rfl rfl (one_of HT_.out (by kernel_rfl)) (by decide) (fun K hK => ?_); refine goes_ Try.func80 (by kernel_rfl) rfl #[.slice Ao15 l0.length co15, .int .i64 s1_5, .int .i64 (wrap64 (2 * s1_6)), .int .i64 (wrap64 (2 * s1_7))] (by rfl) rfl rfl (MA) ?_
  with_reducible refine (spec_l06Swap.calls (fun k_ => some k_ = (.slice Ao15 l0.length co15 : Value).ownBlock) (.slice Ao15 l0.length co15) l0 s1_5 (wrap64 (2 * s1_6)) (wrap64 (2 * s1_7)) false t188 w0 _ ?side1 ?side2 A4.out).mono ?_
  (case side1 => exact spec_l06Look.k1 HB.out)
  (case side2 => exact Kd.R_tight rfl HO0.out)
  rintro e w16 ⟨rfl, hy0, hb, hkp⟩; refine ⟨_, rfl, ?_⟩; have n0_ := Aside0.mk (IsS46.kept (spec_l06Look.k0 HI1.out) hkp (fun hs_ => (fun e_ => (IsS46.own_ne HI1.out HO0.out (by decide)) e_) hs_)); have n1_ := Aside0.mk (Kd.R_reok rfl hy0 (fun k_ e_ => HO0.out.1 k_ e_)); have n2_ := Aside0.mk (Kept.then_ (S := (fun k_ => (P0_ k_) ∨ k_ = g)) (spec_l06Look.k2 HK.out) hkp (fun k_ hs_ => (fun e_ => Or.imp_left Or.inl ((HO0.out.1 k_ e_.symm))) hs_)); have n3_ := Aside0.mk (hb); clear HI1; clear HO0; clear HK; clear HB; have HI1 := n0_; have HO0 := n1_; have HK := n2_; have HB := n3_; clear n0_ n1_ n2_ n3_
  (try clear hb)
  (try clear hkp)
  (try clear hy0)
  refine hK.out _ _ ⟨(blk_cell (Aside0.mk (HI1.out).1).out 0).trans rfl, (blk_cell (Aside0.mk (HI1.out).1).out 1).trans rfl, (blk_cell (Aside0.mk (HI1.out).1).out 2).trans rfl, (blk_cell (Aside0.mk (HI1.out).1).out 3).trans rfl, (blk_cell (Aside0.mk (HI1.out).1).out 4).trans rfl, (blk_cell (Aside0.mk (HI1.out).1).out 5).trans rfl, (blk_cell (Aside0.mk (HI1.out).1).out 6).trans rfl, (blk_cell (Aside0.mk (HI1.out).1).out 7).trans rfl, (blk_cell (Aside0.mk (HI1.out).1).out 8).trans rfl, (blk_cell (Aside0.mk (HI1.out).1).out 9).trans rfl, (blk_cell (Aside0.mk (HI1.out).1).out 10).trans rfl⟩ (fun hHeld => ?_); clear hK K; refine norm_ (a' := ?_) ?_ ?_; rotate_left
  ·
   show Act.put _ (some 27) _ = _; simp only [Act.put, zA, zB, zC, i64_w, i32_w]; rfl
  refine done_ (done_of HT_.out (by kernel_rfl)) ?_
  try go_wp2
  first | go_end0 | ((try simp only [Exit.inBlock, Exit.then]); refine bodyPost_ret (results_none rfl _ _ _) rfl ?_)
  exact ⟨EE, spec_l06Look.k0 HI1.out, RQ HO0.out, spec_l06Look.k1 HB.out, spec_l06Look.k2 HK.out⟩
 subst c5
 have H1 : (some (s1_0, s1_1, s1_2, s1_3, 1, s1_5, s1_7, s1_7, s1_8, s1_9, s1_10, t188)) = some (r1, r2, r3, r4, r5, r6, r7, r8, r9, r10, r11, r12) := by rw [if_pos rfl] at H; exact H
 clear H
 have H := H1
 clear H1
 simp only [Option.some.injEq, Prod.mk.injEq] at H
 obtain ⟨rfl, rfl, rfl, rfl, rfl, rfl, rfl, rfl, rfl, rfl, rfl, rfl⟩ := H
 obtain ⟨HGz6, hgz6⟩ := HI1.out
 have hcz6_0 := cellS46_0 HGz6
 have hcz6_1 := cellS46_1 HGz6
 have hcz6_2 := cellS46_2 HGz6
 have hcz6_3 := cellS46_3 HGz6
 have hcz6_4 := cellS46_4 HGz6
 have hcz6_5 := cellS46_5 HGz6
 have hcz6_6 := cellS46_6 HGz6
 have hcz6_7 := cellS46_7 HGz6
 have hcz6_8 := cellS46_8 HGz6
 have hcz6_9 := cellS46_9 HGz6
 have hcz6_10 := cellS46_10 HGz6
 have hfz6_0 := blk_frozen HGz6 0
 have hfz6_1 := blk_frozen HGz6 1
 have hfz6_2 := blk_frozen HGz6 2
 have hfz6_3 := blk_frozen HGz6 3
 have hfz6_4 := blk_frozen HGz6 4
 have hfz6_5 := blk_frozen HGz6 5
 have hfz6_6 := blk_frozen HGz6 6
 have hfz6_7 := blk_frozen HGz6 7
 have hfz6_8 := blk_frozen HGz6 8
 have hfz6_9 := blk_frozen HGz6 9
 have hfz6_10 := blk_frozen HGz6 10
 clear HGz6 hgz6
 go_enter Try.func78, Try.ntmps78
 try go_wp2
 have n0_ : Aside0 (Kd.R (Kd.int .i64) 3 (w.setCell ⟨g, 4, none⟩ (.int .i64 0)) w0.heap.size (fun k_ => (P0_ k_ ∨ w.heap.size ≤ k_)) u9000_ l0) := ⟨by (with_reducible repeat (first | apply r1 | apply r2 | apply r3)); exact Kd.R_mono (Kd.R_far (p := ⟨g, 4, none⟩) (IsS46.apart HI1.out HO0.out (by decide)) (fun _ hk => hk.2) (.int .i64 0)) (fun _ hk => hk.1)⟩
 have n1_ : Aside0 (IsS46 w0 (w.setCell ⟨g, 4, none⟩ (.int .i64 0)) g s1_0 s1_1 s1_2 s1_3 0 s1_5 s1_6 s1_7 s1_8 s1_9 s1_10) := ⟨spec_l06Look.k0 HI1.out⟩
 have n2_ : Aside0 (Kept w (w.setCell ⟨g, 4, none⟩ (.int .i64 0)) (fun k_ => (P0_ k_) ∨ k_ = g)) := ⟨spec_l06Look.k2 HK.out⟩
 have n3_ : Aside0 (Below w0.heap.size w0 (w.setCell ⟨g, 4, none⟩ (.int .i64 0))) := ⟨spec_l06Look.k1 HB.out⟩
 (try clear HO0)
 (try clear HI1)
 (try clear HK)
 (try clear HB)
 generalize (w.setCell ⟨g, 4, none⟩ (.int .i64 0)) = w7 at n0_ n1_ n2_ n3_ ⊢
 have HO0 := n0_
 have HI1 := n1_
 have HK := n2_
 have HB := n3_
 clear n0_ n1_ n2_ n3_
 have n0_ := Aside0.mk (Kd.R_drew HO0.out)
 have n1_ := Aside0.mk (IsS46.drew HI1.out)
 have n2_ := Aside0.mk (Kept.drew HK.out)
 have n3_ := Aside0.mk (below_drew1 HB.out)
 clear HO0
 clear HI1
 clear HK
 clear HB
 have HO0 := n0_
 have HI1 := n1_
 have HK := n2_
 have HB := n3_
 clear n0_ n1_ n2_ n3_
 obtain ⟨Ao9, co9, eo9⟩ := Kd.R_slice HO0.out
 (first | subst eo9 | (injection eo9 with f1_ f2_ f3_; have f4_ := f1_.symm; have f5_ := f3_.symm; clear f1_ f2_ f3_; subst f4_; subst f5_))
 refine start_ (n := 16) (S := fun w' => w'.cell? ⟨g, 0, none⟩ = some (.int .i64 s1_0) ∧ w'.cell? ⟨g, 1, none⟩ = some (.int .i64 s1_1) ∧ w'.cell? ⟨g, 2, none⟩ = some (.int .i64 s1_2) ∧ w'.cell? ⟨g, 3, none⟩ = some (.int .i64 s1_3) ∧ w'.cell? ⟨g, 4, none⟩ = some (.int .i64 0) ∧ w'.cell? ⟨g, 5, none⟩ = some (.int .i64 s1_5) ∧ w'.cell? ⟨g, 6, none⟩ = some (.int .i64 s1_6) ∧ w'.cell? ⟨g, 7, none⟩ = some (.int .i64 s1_7) ∧ w'.cell? ⟨g, 8, none⟩ = some (.int .i64 s1_8) ∧ w'.cell? ⟨g, 9, none⟩ = some (.bool s1_9) ∧ w'.cell? ⟨g, 10, none⟩ = some (.int .i64 s1_10)) (ds := []) #[false, false, false, false, false, false, false, false, false, false, false, false, false, false, false, false] (by kernel_rfl) rfl rfl ⟨(blk_cell (Aside0.mk (HI1.out).1).out 0).trans rfl, (blk_cell (Aside0.mk (HI1.out).1).out 1).trans rfl, (blk_cell (Aside0.mk (HI1.out).1).out 2).trans rfl, (blk_cell (Aside0.mk (HI1.out).1).out 3).trans rfl, (blk_cell (Aside0.mk (HI1.out).1).out 4).trans rfl, (blk_cell (Aside0.mk (HI1.out).1).out 5).trans rfl, (blk_cell (Aside0.mk (HI1.out).1).out 6).trans rfl, (blk_cell (Aside0.mk (HI1.out).1).out 7).trans rfl, (blk_cell (Aside0.mk (HI1.out).1).out 8).trans rfl, (blk_cell (Aside0.mk (HI1.out).1).out 9).trans rfl, (blk_cell (Aside0.mk (HI1.out).1).out 10).trans rfl⟩ (fun hHeld => ?_); refine with_tabW spec_l06Look.tab2 spec_l06Look.bits2 (fun HT_ HW_ => ?_)
 generalize w7.drew = w8 at HO0 HI1 HK HB hHeld ⊢
 refine pV 0 12 (OB 16 1) ?_
 refine pV 1 13 (OB 16 3) ?_
 refine pV 2 14 (OB 16 7) ?_
 refine pV 3 15 (OB 16 15) ?_
 refine pV 5 17 (OB 16 47) ?_
 refine pV 6 18 (OB 16 111) ?_
 refine pV 7 19 (OB 16 239) ?_
 refine pV 10 22 (OB 16 1263) ?_
 refine pV 11 23 (OB 16 3311) ?_
 refine pV 12 24 (OB 16 7407) ?_
 refine pT 4 16 (OB 16 7423) ?_
 refine pT 8 20 (OB 16 7679) ?_
 refine pV 9 21 (OB 16 8191) ?_
 refine pT 13 25 (OB 16 16383) ?_
 refine pV 14 26 (OB 16 32767) ?_
 refine one_ (i := 15) (N := some 27) (OB 16 65535) rfl rfl (one_of HT_.out (by kernel_rfl)) (by decide) (fun K hK => ?_)
 refine goes_ Try.func80 (by kernel_rfl) rfl #[.slice Ao9 l0.length co9, .int .i64 s1_5, .int .i64 (wrap64 (2 * s1_6)), .int .i64 (wrap64 (2 * s1_7))] (by rfl) rfl rfl (MA) ?_
 with_reducible refine (spec_l06Swap.calls (fun k_ => some k_ = (.slice Ao9 l0.length co9 : Value).ownBlock) (.slice Ao9 l0.length co9) l0 s1_5 (wrap64 (2 * s1_6)) (wrap64 (2 * s1_7)) true t188 w0 _ ?side1 ?side2 A4.out).mono ?_
 (case side1 => exact spec_l06Look.k1 HB.out)
 (case side2 => exact Kd.R_tight rfl HO0.out)
 rintro e w10 ⟨rfl, hy0, hb, hkp⟩
 refine ⟨_, rfl, ?_⟩
 have n0_ := Aside0.mk (IsS46.kept (spec_l06Look.k0 HI1.out) hkp (fun hs_ => (fun e_ => (IsS46.own_ne HI1.out HO0.out (by decide)) e_) hs_))
 have n1_ := Aside0.mk (Kd.R_reok rfl hy0 (fun k_ e_ => HO0.out.1 k_ e_))
 have n2_ := Aside0.mk (Kept.then_ (S := (fun k_ => (P0_ k_) ∨ k_ = g)) (spec_l06Look.k2 HK.out) hkp (fun k_ hs_ => (fun e_ => Or.imp_left Or.inl ((HO0.out.1 k_ e_.symm))) hs_))
 have n3_ := Aside0.mk (hb)
 clear HI1
 clear HO0
 clear HK
 clear HB
 have HI1 := n0_
 have HO0 := n1_
 have HK := n2_
 have HB := n3_
 clear n0_ n1_ n2_ n3_
 (try clear hb)
 (try clear hkp)
 (try clear hy0)
 refine hK.out _ _ ⟨(blk_cell (Aside0.mk (HI1.out).1).out 0).trans rfl, (blk_cell (Aside0.mk (HI1.out).1).out 1).trans rfl, (blk_cell (Aside0.mk (HI1.out).1).out 2).trans rfl, (blk_cell (Aside0.mk (HI1.out).1).out 3).trans rfl, (blk_cell (Aside0.mk (HI1.out).1).out 4).trans rfl, (blk_cell (Aside0.mk (HI1.out).1).out 5).trans rfl, (blk_cell (Aside0.mk (HI1.out).1).out 6).trans rfl, (blk_cell (Aside0.mk (HI1.out).1).out 7).trans rfl, (blk_cell (Aside0.mk (HI1.out).1).out 8).trans rfl, (blk_cell (Aside0.mk (HI1.out).1).out 9).trans rfl, (blk_cell (Aside0.mk (HI1.out).1).out 10).trans rfl⟩ (fun hHeld => ?_)
 clear hK K
 refine norm_ (a' := ?_) ?_ ?_
 rotate_left
 ·
  show Act.put _ (some 27) _ = _; simp only [Act.put, zA, zB, zC, i64_w, i32_w]; rfl
 refine done_ (done_of HT_.out (by kernel_rfl)) ?_
 obtain ⟨HGz11, hgz11⟩ := HI1.out
 have hcz11_0 := cellS46_0 HGz11
 have hcz11_1 := cellS46_1 HGz11
 have hcz11_2 := cellS46_2 HGz11
 have hcz11_3 := cellS46_3 HGz11
 have hcz11_4 := cellS46_4 HGz11
 have hcz11_5 := cellS46_5 HGz11
 have hcz11_6 := cellS46_6 HGz11
 have hcz11_7 := cellS46_7 HGz11
 have hcz11_8 := cellS46_8 HGz11
 have hcz11_9 := cellS46_9 HGz11
 have hcz11_10 := cellS46_10 HGz11
 have hfz11_0 := blk_frozen HGz11 0
 have hfz11_1 := blk_frozen HGz11 1
 have hfz11_2 := blk_frozen HGz11 2
 have hfz11_3 := blk_frozen HGz11 3
 have hfz11_4 := blk_frozen HGz11 4
 have hfz11_5 := blk_frozen HGz11 5
 have hfz11_6 := blk_frozen HGz11 6
 have hfz11_7 := blk_frozen HGz11 7
 have hfz11_8 := blk_frozen HGz11 8
 have hfz11_9 := blk_frozen HGz11 9
 have hfz11_10 := blk_frozen HGz11 10
 clear HGz11 hgz11
 try go_wp2
 first | go_end0 | ((try simp only [Exit.inBlock, Exit.then]); refine bodyPost_ret (results_none rfl _ _ _) rfl ?_)
 exact ⟨EE, spec_l06Look.k0 HI1.out, by (with_reducible repeat (first | apply r1 | apply r2 | apply r3)); exact Kd.R_mono (Kd.R_far (p := ⟨g, 4, none⟩) (Kd.R_far (p := ⟨g, 6, none⟩) (IsS46.apart HI1.out HO0.out (by decide)) (fun _ hk => hk.2) (.int .i64 s1_7)) (fun _ hk => hk.2) (.int .i64 1)) (fun _ hk => hk.1), spec_l06Look.k1 HB.out, spec_l06Look.k2 HK.out⟩

/-! ### spec_l06Found: function 79 -/
def spec_l06Found.f (l0 : List Int) (s1_0 : Int) (s1_1 : Int) (s1_2 : Int) (s1_3 : Int) (s1_4 : Int) (s1_5 : Int) (s1_6 : Int) (s1_7 : Int) (s1_8 : Int) (s1_9 : Bool) (s1_10 : Int) : Option (Int × Int × Int × Int × Int × Int × Int × Int × Int × Bool × Int × List Int) := if 0 ≤ (wrap64 (3 * s1_6)) then (if (wrap64 (3 * s1_6)) < (l0.length : Int) then (if (rd l0 (wrap64 (3 * s1_6))) = s1_1 then (if s1_0 = 1 then (if 0 ≤ (wrap64 ((wrap64 (3 * s1_6)) + 1)) then (if (wrap64 ((wrap64 (3 * s1_6)) + 1)) < (l0.length : Int) then (some (s1_0, s1_1, s1_2, s1_3, s1_4, s1_5, s1_6, s1_7, s1_8, true, wrap64 ((rd l0 (wrap64 ((wrap64 (3 * s1_6)) + 1))) + 1), l0)) else (none)) else (none)) else (if s1_0 = 2 then (some (s1_0, s1_1, s1_2, s1_3, s1_4, s1_5, s1_6, s1_7, s1_8, true, 0, l0)) else (some (s1_0, s1_1, s1_2, s1_3, 5, s1_5, s1_6, s1_7, s1_8, s1_9, s1_10, l0)))) else ((spec_l06Nobody.f l0 s1_0 s1_1 s1_2 s1_3 s1_4 s1_5 s1_6 s1_7 s1_8 s1_9 s1_10).bind fun bt191 => (some (bt191.1, bt191.2.1, bt191.2.2.1, bt191.2.2.2.1, bt191.2.2.2.2.1, bt191.2.2.2.2.2.1, bt191.2.2.2.2.2.2.1, bt191.2.2.2.2.2.2.2.1, bt191.2.2.2.2.2.2.2.2.1, bt191.2.2.2.2.2.2.2.2.2.1, bt191.2.2.2.2.2.2.2.2.2.2.1, bt191.2.2.2.2.2.2.2.2.2.2.2)))) else (none)) else (none)
theorem spec_l06Found.k0 {p q : Prop} (h : q) (k : q → p := by intro h_; repeat (first | (with_reducible first | exact h_ | apply IsS46.alloc | apply IsS46.drewN | apply IsS46.drew | apply IsS46.set_0 | apply IsS46.set_1 | apply IsS46.set_2 | apply IsS46.set_3 | apply IsS46.set_4 | apply IsS46.set_5 | apply IsS46.set_6 | apply IsS46.set_7 | apply IsS46.set_8 | apply IsS46.set_9 | apply IsS46.set_10) | exact h_)) : p := k h
theorem spec_l06Found.k1 {p q : Prop} (h : q) (k : q → p := by intro h_; repeat (first | (with_reducible first | exact h_ | apply below_alloc | apply pw_below_drewN | apply below_drew1 | refine below_set ?_ (IsS46.ge HI1.out)) | exact h_)) : p := k h
theorem spec_l06Found.k2 {p q : Prop} (h : q) (k : q → p := by intro h_; repeat (first | (with_reducible first | exact h_ | apply Kept.alloc | apply Kept.drewN | apply Kept.drew | refine Kept.setCell ?_ (.inl (.inr rfl)) _) | exact h_)) : p := k h
set_option maxHeartbeats 8000000 in
set_option maxRecDepth 100000 in
theorem spec_l06Found.calls (P0_ : Nat → Prop) (u9000_ : Value) (l0 : List Int) (g : Nat) (s1_0 : Int) (s1_1 : Int) (s1_2 : Int) (s1_3 : Int) (s1_4 : Int) (s1_5 : Int) (s1_6 : Int) (s1_7 : Int) (s1_8 : Int) (s1_9 : Bool) (s1_10 : Int) (r1 : Int) (r2 : Int) (r3 : Int) (r4 : Int) (r5 : Int) (r6 : Int) (r7 : Int) (r8 : Int) (r9 : Int) (r10 : Bool) (r11 : Int) (r12 : List Int) (w0 w : World) (hI : IsS46 w0 w g s1_0 s1_1 s1_2 s1_3 s1_4 s1_5 s1_6 s1_7 s1_8 s1_9 s1_10) (hB : Below w0.heap.size w0 w) (ho0 : Kd.R (Kd.int .i64) 3 w w0.heap.size P0_ u9000_ l0) (h : spec_l06Found.f l0 s1_0 s1_1 s1_2 s1_3 s1_4 s1_5 s1_6 s1_7 s1_8 s1_9 s1_10 = some (r1, r2, r3, r4, r5, r6, r7, r8, r9, r10, r11, r12)) :
  Calls Try.prog 79 #[u9000_, .pointer (some ⟨g, 0, none⟩)] w fun e w' => e = .returned (.tuple #[]) ∧ IsS46 w0 w' g r1 r2 r3 r4 r5 r6 r7 r8 r9 r10 r11 ∧ Kd.R (Kd.int .i64) 3 w' w0.heap.size (fun k_ => (P0_ k_ ∨ w.heap.size ≤ k_)) u9000_ r12 ∧ Below w0.heap.size w0 w' ∧ Kept w w' (fun k_ => (P0_ k_) ∨ k_ = g) := by
 have HO0 := Aside0.mk (show Kd.R (Kd.int .i64) 3 w w0.heap.size (fun k_ => (P0_ k_ ∨ w.heap.size ≤ k_)) u9000_ l0 from Kd.R_mono ho0 (fun k_ hk => (.inl hk)))
 have HI1 := Aside0.mk hI
 have HL := Aside0.mk hB.size
 clear hI
 have HK := Aside0.mk (Kept.refl w (fun k_ => (P0_ k_) ∨ k_ = g))
 have HW0 := Aside0.mk hB.size
 have HB := Aside0.mk hB
 clear hB
 have H : (if 0 ≤ (wrap64 (3 * s1_6)) then (if (wrap64 (3 * s1_6)) < (l0.length : Int) then (if (rd l0 (wrap64 (3 * s1_6))) = s1_1 then (if s1_0 = 1 then (if 0 ≤ (wrap64 ((wrap64 (3 * s1_6)) + 1)) then (if (wrap64 ((wrap64 (3 * s1_6)) + 1)) < (l0.length : Int) then (some (s1_0, s1_1, s1_2, s1_3, s1_4, s1_5, s1_6, s1_7, s1_8, true, wrap64 ((rd l0 (wrap64 ((wrap64 (3 * s1_6)) + 1))) + 1), l0)) else (none)) else (none)) else (if s1_0 = 2 then (some (s1_0, s1_1, s1_2, s1_3, s1_4, s1_5, s1_6, s1_7, s1_8, true, 0, l0)) else (some (s1_0, s1_1, s1_2, s1_3, 5, s1_5, s1_6, s1_7, s1_8, s1_9, s1_10, l0)))) else ((spec_l06Nobody.f l0 s1_0 s1_1 s1_2 s1_3 s1_4 s1_5 s1_6 s1_7 s1_8 s1_9 s1_10).bind fun bt191 => (some (bt191.1, bt191.2.1, bt191.2.2.1, bt191.2.2.2.1, bt191.2.2.2.2.1, bt191.2.2.2.2.2.1, bt191.2.2.2.2.2.2.1, bt191.2.2.2.2.2.2.2.1, bt191.2.2.2.2.2.2.2.2.1, bt191.2.2.2.2.2.2.2.2.2.1, bt191.2.2.2.2.2.2.2.2.2.2.1, bt191.2.2.2.2.2.2.2.2.2.2.2)))) else (none)) else (none)) = some (r1, r2, r3, r4, r5, r6, r7, r8, r9, r10, r11, r12) := h
 clear h
 obtain ⟨ji3, hji3⟩ : ∃ j_ : Int, (wrap64 (3 * s1_6)) = j_ := ⟨_, rfl⟩
 replace H : (if 0 ≤ (ji3) then (if (ji3) < (l0.length : Int) then (if (rd l0 (ji3)) = s1_1 then (if s1_0 = 1 then (if 0 ≤ (wrap64 ((ji3) + 1)) then (if (wrap64 ((ji3) + 1)) < (l0.length : Int) then (some (s1_0, s1_1, s1_2, s1_3, s1_4, s1_5, s1_6, s1_7, s1_8, true, wrap64 ((rd l0 (wrap64 ((ji3) + 1))) + 1), l0)) else (none)) else (none)) else (if s1_0 = 2 then (some (s1_0, s1_1, s1_2, s1_3, s1_4, s1_5, s1_6, s1_7, s1_8, true, 0, l0)) else (some (s1_0, s1_1, s1_2, s1_3, 5, s1_5, s1_6, s1_7, s1_8, s1_9, s1_10, l0)))) else ((spec_l06Nobody.f l0 s1_0 s1_1 s1_2 s1_3 s1_4 s1_5 s1_6 s1_7 s1_8 s1_9 s1_10).bind fun bt191 => (some (bt191.1, bt191.2.1, bt191.2.2.1, bt191.2.2.2.1, bt191.2.2.2.2.1, bt191.2.2.2.2.2.1, bt191.2.2.2.2.2.2.1, bt191.2.2.2.2.2.2.2.1, bt191.2.2.2.2.2.2.2.2.1, bt191.2.2.2.2.2.2.2.2.2.1, bt191.2.2.2.2.2.2.2.2.2.2.1, bt191.2.2.2.2.2.2.2.2.2.2.2)))) else (none)) else (none)) = some (r1, r2, r3, r4, r5, r6, r7, r8, r9, r10, r11, r12) := by first | (rw [hji3] at H; exact H) | (simp only [hji3] at H ⊢; exact H)
 have hji3w : (IntKind.i64.wrap (3 * s1_6)) = ji3 := (i64_w _).trans hji3
 by_cases c4 : 0 ≤ (ji3); rotate_left
 ·
  rw [if_neg c4] at H; exact absurd H (by simp)
 rw [if_pos c4] at H
 have c4b0 : decide (0 ≤ (ji3)) = true := decide_eq_true c4
 clear c4
 by_cases c5 : (ji3) < (l0.length : Int); rotate_left
 ·
  rw [if_neg c5] at H; exact absurd H (by simp)
 rw [if_pos c5] at H
 have c5b0 : decide ((ji3) < (l0.length : Int)) = true := decide_eq_true c5
 clear c5
 by_cases c6 : (rd l0 (ji3)) = s1_1; rotate_left
 ·
  rw [if_neg c6] at H; have c6b0 : ((rd l0 (ji3)) == s1_1) = false := beq_eq_false_iff_ne.mpr c6; have c6b1 : ((rd l0 (ji3)) != s1_1) = true := bne_iff_ne.mpr c6; replace H := Option.bind_eq_some_iff.mp H; obtain ⟨⟨t191, t192, t193, t194, t195, t196, t197, t198, t199, t200, t201, t202⟩, A180, H⟩ := H; replace H : (some (t191, t192, t193, t194, t195, t196, t197, t198, t199, t200, t201, t202)) = some (r1, r2, r3, r4, r5, r6, r7, r8, r9, r10, r11, r12) := H; have A18 := Aside0.mk A180; clear A180; simp only [Option.some.injEq, Prod.mk.injEq] at H; obtain ⟨rfl, rfl, rfl, rfl, rfl, rfl, rfl, rfl, rfl, rfl, rfl, rfl⟩ := H; obtain ⟨HGz19, hgz19⟩ := HI1.out; have hcz19_0 := cellS46_0 HGz19; have hcz19_1 := cellS46_1 HGz19; have hcz19_2 := cellS46_2 HGz19; have hcz19_3 := cellS46_3 HGz19; have hcz19_4 := cellS46_4 HGz19; have hcz19_5 := cellS46_5 HGz19; have hcz19_6 := cellS46_6 HGz19; have hcz19_7 := cellS46_7 HGz19; have hcz19_8 := cellS46_8 HGz19; have hcz19_9 := cellS46_9 HGz19; have hcz19_10 := cellS46_10 HGz19; have hfz19_0 := blk_frozen HGz19 0; have hfz19_1 := blk_frozen HGz19 1; have hfz19_2 := blk_frozen HGz19 2; have hfz19_3 := blk_frozen HGz19 3; have hfz19_4 := blk_frozen HGz19 4; have hfz19_5 := blk_frozen HGz19 5; have hfz19_6 := blk_frozen HGz19 6; have hfz19_7 := blk_frozen HGz19 7; have hfz19_8 := blk_frozen HGz19 8; have hfz19_9 := blk_frozen HGz19 9; have hfz19_10 := blk_frozen HGz19 10; clear HGz19 hgz19; obtain ⟨Ao20, co20, eo20⟩ := Kd.R_slice HO0.out; subst eo20; have p190 : 0 ≤ ((ji3) : Int) := of_decide_eq_true AS; have q190 : (ji3) < (l0.length : Int) := of_decide_eq_true AS; obtain ⟨ad190, e190, hx190_0⟩ := Kd.at_int (Kd.R_reads' HO0.out).2.2 (ji3) p190 q190; cases e190; replace p190 := eq_true p190; replace q190 := eq_true q190
  go_enter Try.func79, Try.ntmps79
  go_wp2_with (first | (go_at_call 77; (with_reducible refine (spec_l06Nobody.calls (fun k_ => some k_ = (.slice (some ad190) l0.length co20 : Value).ownBlock) (.slice (some ad190) l0.length co20) l0 g s1_0 s1_1 s1_2 s1_3 s1_4 s1_5 s1_6 s1_7 s1_8 s1_9 s1_10 t191 t192 t193 t194 t195 t196 t197 t198 t199 t200 t201 t202 w0 _ ?side1 ?side2 ?side3 A18.out).mono ?_); (case side1 => exact spec_l06Found.k0 HI1.out); (case side2 => exact spec_l06Found.k1 HB.out); (case side3 => exact Kd.R_tight rfl HO0.out); rintro e w21 ⟨rfl, hi, hy0, hb, hkp⟩; replace HI1 := Aside0.mk (hi); replace HK := Aside0.mk (Kept.then_ (S := (fun k_ => (P0_ k_) ∨ k_ = g)) (spec_l06Found.k2 HK.out) hkp (fun k_ hs_ => Or.elim hs_ (fun hs_ => (fun e_ => Or.imp_left Or.inl ((HO0.out.1 k_ e_.symm))) hs_) (fun e_ => .inl (.inr e_)))); replace HO0 := Aside0.mk (Kd.R_reok rfl hy0 (fun k_ e_ => HO0.out.1 k_ e_)); replace HB := Aside0.mk (hb); (try clear hb); (try clear hkp); (try clear hy0)))
  repeat (go_quiet (first | (go_at_call 77; (with_reducible refine (spec_l06Nobody.calls (fun k_ => some k_ = (.slice (some ad190) l0.length co20 : Value).ownBlock) (.slice (some ad190) l0.length co20) l0 g s1_0 s1_1 s1_2 s1_3 s1_4 s1_5 s1_6 s1_7 s1_8 s1_9 s1_10 t191 t192 t193 t194 t195 t196 t197 t198 t199 t200 t201 t202 w0 _ ?side1 ?side2 ?side3 A18.out).mono ?_); (case side1 => exact spec_l06Found.k0 HI1.out); (case side2 => exact spec_l06Found.k1 HB.out); (case side3 => exact Kd.R_tight rfl HO0.out); rintro e w21 ⟨rfl, hi, hy0, hb, hkp⟩; replace HI1 := Aside0.mk (hi); replace HK := Aside0.mk (Kept.then_ (S := (fun k_ => (P0_ k_) ∨ k_ = g)) (spec_l06Found.k2 HK.out) hkp (fun k_ hs_ => Or.elim hs_ (fun hs_ => (fun e_ => Or.imp_left Or.inl ((HO0.out.1 k_ e_.symm))) hs_) (fun e_ => .inl (.inr e_)))); replace HO0 := Aside0.mk (Kd.R_reok rfl hy0 (fun k_ e_ => HO0.out.1 k_ e_)); replace HB := Aside0.mk (hb); (try clear hb); (try clear hkp); (try clear hy0))); try go_wp2_with (first | (go_at_call 77; (with_reducible refine (spec_l06Nobody.calls (fun k_ => some k_ = (.slice (some ad190) l0.length co20 : Value).ownBlock) (.slice (some ad190) l0.length co20) l0 g s1_0 s1_1 s1_2 s1_3 s1_4 s1_5 s1_6 s1_7 s1_8 s1_9 s1_10 t191 t192 t193 t194 t195 t196 t197 t198 t199 t200 t201 t202 w0 _ ?side1 ?side2 ?side3 A18.out).mono ?_); (case side1 => exact spec_l06Found.k0 HI1.out); (case side2 => exact spec_l06Found.k1 HB.out); (case side3 => exact Kd.R_tight rfl HO0.out); rintro e w21 ⟨rfl, hi, hy0, hb, hkp⟩; replace HI1 := Aside0.mk (hi); replace HK := Aside0.mk (Kept.then_ (S := (fun k_ => (P0_ k_) ∨ k_ = g)) (spec_l06Found.k2 HK.out) hkp (fun k_ hs_ => Or.elim hs_ (fun hs_ => (fun e_ => Or.imp_left Or.inl ((HO0.out.1 k_ e_.symm))) hs_) (fun e_ => .inl (.inr e_)))); replace HO0 := Aside0.mk (Kd.R_reok rfl hy0 (fun k_ e_ => HO0.out.1 k_ e_)); replace HB := Aside0.mk (hb); (try clear hb); (try clear hkp); (try clear hy0))))
  first | go_end0 | ((try simp only [Exit.inBlock, Exit.then]); refine bodyPost_ret (results_none rfl _ _ _) rfl ?_)
  exact ⟨by first | rfl | (simp [errW_none, errW_some] <;> rfl) | (simp only [← hji3]; first | rfl | (simp [errW_none, errW_some] <;> rfl)) | (simp [*, errW_none, errW_some] <;> rfl), spec_l06Found.k0 HI1.out, RQ HO0.out, spec_l06Found.k1 HB.out, spec_l06Found.k2 HK.out⟩
 rw [if_pos c6] at H
 have c6b0 : ((rd l0 (ji3)) == s1_1) = true := beq_iff_eq.mpr c6
 have c6b1 : ((rd l0 (ji3)) != s1_1) = false := bne_eq_false_iff_eq.mpr c6
 clear c6
 by_cases c7 : s1_0 = 1
 ·
  rw [if_pos c7] at H; have c7b0 : (s1_0 == 1) = true := beq_iff_eq.mpr c7; have c7b1 : (s1_0 != 1) = false := bne_eq_false_iff_eq.mpr c7; clear c7; obtain ⟨ji8, hji8⟩ : ∃ j_ : Int, (wrap64 ((ji3) + 1)) = j_ := ⟨_, rfl⟩
  replace H : (if 0 ≤ (ji8) then (if (ji8) < (l0.length : Int) then (some (s1_0, s1_1, s1_2, s1_3, s1_4, s1_5, s1_6, s1_7, s1_8, true, wrap64 ((rd l0 (ji8)) + 1), l0)) else (none)) else (none)) = some (r1, r2, r3, r4, r5, r6, r7, r8, r9, r10, r11, r12) := by first | (rw [hji8] at H; exact H) | (simp only [hji8] at H ⊢; exact H)
  have hji8w : (IntKind.i64.wrap ((ji3) + 1)) = ji8 := (i64_w _).trans hji8
  by_cases c9 : 0 ≤ (ji8); rotate_left
  ·
   rw [if_neg c9] at H; exact absurd H (by simp)
  rw [if_pos c9] at H; have c9b0 : decide (0 ≤ (ji8)) = true := decide_eq_true c9; clear c9
  by_cases c10 : (ji8) < (l0.length : Int); rotate_left
  ·
   rw [if_neg c10] at H; exact absurd H (by simp)
  rw [if_pos c10] at H; have c10b0 : decide ((ji8) < (l0.length : Int)) = true := decide_eq_true c10; clear c10; simp only [Option.some.injEq, Prod.mk.injEq] at H; obtain ⟨rfl, rfl, rfl, rfl, rfl, rfl, rfl, rfl, rfl, rfl, rfl, rfl⟩ := H; obtain ⟨HGz11, hgz11⟩ := HI1.out; have hcz11_0 := cellS46_0 HGz11; have hcz11_1 := cellS46_1 HGz11; have hcz11_2 := cellS46_2 HGz11; have hcz11_3 := cellS46_3 HGz11; have hcz11_4 := cellS46_4 HGz11; have hcz11_5 := cellS46_5 HGz11; have hcz11_6 := cellS46_6 HGz11; have hcz11_7 := cellS46_7 HGz11; have hcz11_8 := cellS46_8 HGz11; have hcz11_9 := cellS46_9 HGz11; have hcz11_10 := cellS46_10 HGz11; have hfz11_0 := blk_frozen HGz11 0; have hfz11_1 := blk_frozen HGz11 1; have hfz11_2 := blk_frozen HGz11 2; have hfz11_3 := blk_frozen HGz11 3; have hfz11_4 := blk_frozen HGz11 4; have hfz11_5 := blk_frozen HGz11 5; have hfz11_6 := blk_frozen HGz11 6; have hfz11_7 := blk_frozen HGz11 7; have hfz11_8 := blk_frozen HGz11 8; have hfz11_9 := blk_frozen HGz11 9; have hfz11_10 := blk_frozen HGz11 10; clear HGz11 hgz11; obtain ⟨Ao12, co12, eo12⟩ := Kd.R_slice HO0.out; subst eo12; have p190 : 0 ≤ ((ji3) : Int) := of_decide_eq_true AS; have q190 : (ji3) < (l0.length : Int) := of_decide_eq_true AS; obtain ⟨ad190, e190, hx190_0⟩ := Kd.at_int (Kd.R_reads' HO0.out).2.2 (ji3) p190 q190; cases e190; replace p190 := eq_true p190; replace q190 := eq_true q190; have p203 : 0 ≤ ((ji8) : Int) := of_decide_eq_true AS; have q203 : (ji8) < (l0.length : Int) := of_decide_eq_true AS; obtain ⟨ad203, e203, hx203_0⟩ := Kd.at_int (Kd.R_reads' HO0.out).2.2 (ji8) p203 q203; obtain rfl : ad190 = ad203 := (by injection e203); have hn203_0 : ad190.block ≠ g := Kd.own_blk (IsS46.own_ne HI1.out HO0.out (by decide)); replace hx203_0 := (cell_far (p := ⟨g, 9, none⟩) (by first | (rw [add_block]; exact hn203_0) | (show (Addr.add _ _).block ≠ _; rw [add_block]; exact hn203_0) | exact hn203_0) (.bool true)).trans hx203_0
  (try have hy203_0 := fun (n_ : Nat) => (show (((w.drewN n_).setCell ⟨g, 9, none⟩ (.bool true))).cell? _ = some _ from hx203_0))
  clear hn203_0; replace p203 := eq_true p203; replace q203 := eq_true q203
  go_enter Try.func79, Try.ntmps79
  go_wp2
  repeat (go_quiet (fail); try go_wp2)
  first | go_end0 | ((try simp only [Exit.inBlock, Exit.then]); refine bodyPost_ret (results_none rfl _ _ _) rfl ?_)
  exact ⟨by first | rfl | (simp [errW_none, errW_some] <;> rfl) | (simp only [← hji3, ← hji8]; first | rfl | (simp [errW_none, errW_some] <;> rfl)) | (simp [*, errW_none, errW_some] <;> rfl), spec_l06Found.k0 HI1.out, by (with_reducible repeat (first | apply r1 | apply r2 | apply r3)); exact Kd.R_mono (Kd.R_far (p := ⟨g, 10, none⟩) (Kd.R_far (p := ⟨g, 9, none⟩) (IsS46.apart HI1.out HO0.out (by decide)) (fun _ hk => hk.2) (.bool true)) (fun _ hk => hk.2) (.int .i64 (wrap64 ((rd l0 (ji8)) + 1)))) (fun _ hk => hk.1), spec_l06Found.k1 HB.out, spec_l06Found.k2 HK.out⟩
 rw [if_neg c7] at H
 have c7b0 : (s1_0 == 1) = false := beq_eq_false_iff_ne.mpr c7
 have c7b1 : (s1_0 != 1) = true := bne_iff_ne.mpr c7
 by_cases c13 : s1_0 = 2; rotate_left
 ·
  rw [if_neg c13] at H; have c13b0 : (s1_0 == 2) = false := beq_eq_false_iff_ne.mpr c13; have c13b1 : (s1_0 != 2) = true := bne_iff_ne.mpr c13; simp only [Option.some.injEq, Prod.mk.injEq] at H; obtain ⟨rfl, rfl, rfl, rfl, rfl, rfl, rfl, rfl, rfl, rfl, rfl, rfl⟩ := H; obtain ⟨HGz16, hgz16⟩ := HI1.out; have hcz16_0 := cellS46_0 HGz16; have hcz16_1 := cellS46_1 HGz16; have hcz16_2 := cellS46_2 HGz16; have hcz16_3 := cellS46_3 HGz16; have hcz16_4 := cellS46_4 HGz16; have hcz16_5 := cellS46_5 HGz16; have hcz16_6 := cellS46_6 HGz16; have hcz16_7 := cellS46_7 HGz16; have hcz16_8 := cellS46_8 HGz16; have hcz16_9 := cellS46_9 HGz16; have hcz16_10 := cellS46_10 HGz16; have hfz16_0 := blk_frozen HGz16 0; have hfz16_1 := blk_frozen HGz16 1; have hfz16_2 := blk_frozen HGz16 2; have hfz16_3 := blk_frozen HGz16 3; have hfz16_4 := blk_frozen HGz16 4; have hfz16_5 := blk_frozen HGz16 5; have hfz16_6 := blk_frozen HGz16 6; have hfz16_7 := blk_frozen HGz16 7; have hfz16_8 := blk_frozen HGz16 8; have hfz16_9 := blk_frozen HGz16 9; have hfz16_10 := blk_frozen HGz16 10; clear HGz16 hgz16; obtain ⟨Ao17, co17, eo17⟩ := Kd.R_slice HO0.out; subst eo17; have p190 : 0 ≤ ((ji3) : Int) := of_decide_eq_true AS; have q190 : (ji3) < (l0.length : Int) := of_decide_eq_true AS; obtain ⟨ad190, e190, hx190_0⟩ := Kd.at_int (Kd.R_reads' HO0.out).2.2 (ji3) p190 q190; cases e190; replace p190 := eq_true p190; replace q190 := eq_true q190
  go_enter Try.func79, Try.ntmps79
  go_wp2
  repeat (go_quiet (fail); try go_wp2)
  first | go_end0 | ((try simp only [Exit.inBlock, Exit.then]); refine bodyPost_ret (results_none rfl _ _ _) rfl ?_)
  exact ⟨by first | rfl | (simp [errW_none, errW_some] <;> rfl) | (simp only [← hji3]; first | rfl | (simp [errW_none, errW_some] <;> rfl)) | (simp [*, errW_none, errW_some] <;> rfl), spec_l06Found.k0 HI1.out, by (with_reducible repeat (first | apply r1 | apply r2 | apply r3)); exact Kd.R_mono (Kd.R_far (p := ⟨g, 4, none⟩) (IsS46.apart HI1.out HO0.out (by decide)) (fun _ hk => hk.2) (.int .i64 5)) (fun _ hk => hk.1), spec_l06Found.k1 HB.out, spec_l06Found.k2 HK.out⟩
 rw [if_pos c13] at H
 have c13b0 : (s1_0 == 2) = true := beq_iff_eq.mpr c13
 have c13b1 : (s1_0 != 2) = false := bne_eq_false_iff_eq.mpr c13
 clear c13
 simp only [Option.some.injEq, Prod.mk.injEq] at H
 obtain ⟨rfl, rfl, rfl, rfl, rfl, rfl, rfl, rfl, rfl, rfl, rfl, rfl⟩ := H
 obtain ⟨HGz14, hgz14⟩ := HI1.out
 have hcz14_0 := cellS46_0 HGz14
 have hcz14_1 := cellS46_1 HGz14
 have hcz14_2 := cellS46_2 HGz14
 have hcz14_3 := cellS46_3 HGz14
 have hcz14_4 := cellS46_4 HGz14
 have hcz14_5 := cellS46_5 HGz14
 have hcz14_6 := cellS46_6 HGz14
 have hcz14_7 := cellS46_7 HGz14
 have hcz14_8 := cellS46_8 HGz14
 have hcz14_9 := cellS46_9 HGz14
 have hcz14_10 := cellS46_10 HGz14
 have hfz14_0 := blk_frozen HGz14 0
 have hfz14_1 := blk_frozen HGz14 1
 have hfz14_2 := blk_frozen HGz14 2
 have hfz14_3 := blk_frozen HGz14 3
 have hfz14_4 := blk_frozen HGz14 4
 have hfz14_5 := blk_frozen HGz14 5
 have hfz14_6 := blk_frozen HGz14 6
 have hfz14_7 := blk_frozen HGz14 7
 have hfz14_8 := blk_frozen HGz14 8
 have hfz14_9 := blk_frozen HGz14 9
 have hfz14_10 := blk_frozen HGz14 10
 clear HGz14 hgz14
 obtain ⟨Ao15, co15, eo15⟩ := Kd.R_slice HO0.out
 subst eo15
 have p190 : 0 ≤ ((ji3) : Int) := of_decide_eq_true AS
 have q190 : (ji3) < (l0.length : Int) := of_decide_eq_true AS
 obtain ⟨ad190, e190, hx190_0⟩ := Kd.at_int (Kd.R_reads' HO0.out).2.2 (ji3) p190 q190
 cases e190
 replace p190 := eq_true p190
 replace q190 := eq_true q190
 go_enter Try.func79, Try.ntmps79
 go_wp2
 repeat (go_quiet (fail); try go_wp2)
 first | go_end0 | ((try simp only [Exit.inBlock, Exit.then]); refine bodyPost_ret (results_none rfl _ _ _) rfl ?_)
 exact ⟨by first | rfl | (simp [errW_none, errW_some] <;> rfl) | (simp only [← hji3]; first | rfl | (simp [errW_none, errW_some] <;> rfl)) | (simp [*, errW_none, errW_some] <;> rfl), spec_l06Found.k0 HI1.out, by (with_reducible repeat (first | apply r1 | apply r2 | apply r3)); exact Kd.R_mono (Kd.R_far (p := ⟨g, 10, none⟩) (Kd.R_far (p := ⟨g, 9, none⟩) (IsS46.apart HI1.out HO0.out (by decide)) (fun _ hk => hk.2) (.bool true)) (fun _ hk => hk.2) (.int .i64 0)) (fun _ hk => hk.1), spec_l06Found.k1 HB.out, spec_l06Found.k2 HK.out⟩

/-! ### spec_l06Step: function 68 -/
def spec_l06Step.f (l0 : List Int) (s1_0 : Int) (s1_1 : Int) (s1_2 : Int) (s1_3 : Int) (s1_4 : Int) (s1_5 : Int) (s1_6 : Int) (s1_7 : Int) (s1_8 : Int) (s1_9 : Bool) (s1_10 : Int) : Option (Int × Int × Int × Int × Int × Int × Int × Int × Int × Bool × Int × List Int) := if s1_4 = 0 then (if 0 < (l0.length : Int) then ((spec_l06Node.f (rd l0 0)).bind fun t205 => (some (s1_0, s1_1, s1_2, s1_3, 1, 0, t205, s1_7, s1_8, s1_9, s1_10, l0))) else (none)) else (if s1_4 = 1 then (if s1_6 = 0 then ((spec_l06Nobody.f l0 s1_0 s1_1 s1_2 s1_3 s1_4 s1_5 s1_6 s1_7 s1_8 s1_9 s1_10).bind fun bt206 => (some (bt206.1, bt206.2.1, bt206.2.2.1, bt206.2.2.2.1, bt206.2.2.2.2.1, bt206.2.2.2.2.2.1, bt206.2.2.2.2.2.2.1, bt206.2.2.2.2.2.2.2.1, bt206.2.2.2.2.2.2.2.2.1, bt206.2.2.2.2.2.2.2.2.2.1, bt206.2.2.2.2.2.2.2.2.2.2.1, bt206.2.2.2.2.2.2.2.2.2.2.2))) else ((spec_l06Word.f s1_6).bind fun t218 => (if 0 ≤ t218 then (if t218 < (l0.length : Int) then ((spec_l06Node.f (rd l0 t218)).bind fun t220 => (some (s1_0, s1_1, s1_2, s1_3, 2, s1_5, s1_6, t220, Int.tmod (rd l0 t218) 2, s1_9, s1_10, l0))) else (none)) else (none)))) else (if s1_4 = 2 then ((spec_l06Look.f l0 s1_0 s1_1 s1_2 s1_3 s1_4 s1_5 s1_6 s1_7 s1_8 s1_9 s1_10).bind fun bt221 => (some (bt221.1, bt221.2.1, bt221.2.2.1, bt221.2.2.2.1, bt221.2.2.2.2.1, bt221.2.2.2.2.2.1, bt221.2.2.2.2.2.2.1, bt221.2.2.2.2.2.2.2.1, bt221.2.2.2.2.2.2.2.2.1, bt221.2.2.2.2.2.2.2.2.2.1, bt221.2.2.2.2.2.2.2.2.2.2.1, bt221.2.2.2.2.2.2.2.2.2.2.2))) else (if s1_4 = 3 then ((spec_l06Found.f l0 s1_0 s1_1 s1_2 s1_3 s1_4 s1_5 s1_6 s1_7 s1_8 s1_9 s1_10).bind fun bt233 => (some (bt233.1, bt233.2.1, bt233.2.2.1, bt233.2.2.2.1, bt233.2.2.2.2.1, bt233.2.2.2.2.2.1, bt233.2.2.2.2.2.2.1, bt233.2.2.2.2.2.2.2.1, bt233.2.2.2.2.2.2.2.2.1, bt233.2.2.2.2.2.2.2.2.2.1, bt233.2.2.2.2.2.2.2.2.2.2.1, bt233.2.2.2.2.2.2.2.2.2.2.2))) else (if s1_4 = 4 then ((spec_l06Swap.f l0 s1_5 (wrap64 (2 * s1_6)) (wrap64 (2 * s1_3))).bind fun bt245 => (if bt245.1 = true then (some (s1_0, s1_1, s1_2, s1_3, s1_4, s1_5, s1_6, s1_7, s1_8, true, 1, bt245.2)) else (some (s1_0, s1_1, s1_2, s1_3, 0, s1_5, s1_6, s1_7, s1_8, s1_9, s1_10, bt245.2)))) else (if s1_4 = 5 then ((spec_l06Swap.f l0 s1_6 (wrap64 (2 * s1_7)) (wrap64 ((wrap64 (2 * s1_7)) + 1))).bind fun bt247 => (if bt247.1 = true then (some (s1_0, s1_1, s1_2, s1_3, 6, s1_5, s1_6, s1_7, s1_8, s1_9, s1_10, bt247.2)) else (some (s1_0, s1_1, s1_2, s1_3, 0, s1_5, s1_6, s1_7, s1_8, s1_9, s1_10, bt247.2)))) else ((spec_l06Swap.f l0 s1_5 (wrap64 (2 * s1_6)) (wrap64 (2 * s1_7))).bind fun bt249 => (some (s1_0, s1_1, s1_2, s1_3, s1_4, s1_5, s1_6, s1_7, s1_8, true, 1, bt249.2))))))))
def spec_l06Step.T1 : Bool × List (List Nat × List Nat) := (true, [([], []), ([], []), ([1], [1]), ([2], [2]), ([3], [3]), ([], []), ([5], [5]), ([6], [6]), ([7], [7]), ([8], [8]), ([], []), ([10], [10]), ([11], [11]), ([12], [12]), ([13], [13]), ([0, 4, 9, 14], [0, 4, 9, 14])])
def spec_l06Step.B1 : List Nat := [0, 0, 2, 6, 14, 0, 32, 96, 224, 480, 0, 1024, 3072, 7168, 15360, 32767]
theorem spec_l06Step.tab1 : rtab .any (opsOf Try.f68 1) = spec_l06Step.T1 := by kernel_rfl
theorem spec_l06Step.bits1 : waitsOk spec_l06Step.T1.2 spec_l06Step.B1 = true := by kernel_rfl
def spec_l06Step.T20 : Bool × List (List Nat × List Nat) := (true, [([], []), ([], []), ([1], [1]), ([2], [2]), ([3], [3]), ([], []), ([5], [5]), ([6], [6]), ([7], [7]), ([8], [8]), ([], []), ([10], [10]), ([11], [11]), ([12], [12]), ([13], [13]), ([0, 4, 9, 14], [0, 4, 9, 14])])
def spec_l06Step.B20 : List Nat := [0, 0, 2, 6, 14, 0, 32, 96, 224, 480, 0, 1024, 3072, 7168, 15360, 32767]
theorem spec_l06Step.tab20 : rtab .any (opsOf Try.f68 20) = spec_l06Step.T20 := by kernel_rfl
theorem spec_l06Step.bits20 : waitsOk spec_l06Step.T20.2 spec_l06Step.B20 = true := by kernel_rfl
def spec_l06Step.T26 : Bool × List (List Nat × List Nat) := (true, [([], []), ([], []), ([1], [1]), ([2], [2]), ([3], [3]), ([], []), ([5], [5]), ([6], [6]), ([7], [7]), ([8], [8]), ([], []), ([10], [10]), ([11], [11]), ([12], [12]), ([13], [13]), ([14], [14]), ([0, 4, 9, 15], [0, 4, 9, 15])])
def spec_l06Step.B26 : List Nat := [0, 0, 2, 6, 14, 0, 32, 96, 224, 480, 0, 1024, 3072, 7168, 15360, 31744, 65535]
theorem spec_l06Step.tab26 : rtab .any (opsOf Try.f68 26) = spec_l06Step.T26 := by kernel_rfl
theorem spec_l06Step.bits26 : waitsOk spec_l06Step.T26.2 spec_l06Step.B26 = true := by kernel_rfl
theorem spec_l06Step.k0 {p q : Prop} (h : q) (k : q → p := by intro h_; repeat (first | (with_reducible first | exact h_ | apply IsS46.alloc | apply IsS46.drewN | apply IsS46.drew | apply IsS46.set_0 | apply IsS46.set_1 | apply IsS46.set_2 | apply IsS46.set_3 | apply IsS46.set_4 | apply IsS46.set_5 | apply IsS46.set_6 | apply IsS46.set_7 | apply IsS46.set_8 | apply IsS46.set_9 | apply IsS46.set_10) | exact h_)) : p := k h
theorem spec_l06Step.k1 {p q : Prop} (h : q) (k : q → p := by intro h_; repeat (first | (with_reducible first | exact h_ | apply below_alloc | apply pw_below_drewN | apply below_drew1 | refine below_set ?_ (IsS46.ge HI1.out)) | exact h_)) : p := k h
theorem spec_l06Step.k2 {p q : Prop} (h : q) (k : q → p := by intro h_; repeat (first | (with_reducible first | exact h_ | apply Kept.alloc | apply Kept.drewN | apply Kept.drew | refine Kept.setCell ?_ (.inl (.inr rfl)) _) | exact h_)) : p := k h
set_option maxHeartbeats 8000000 in
set_option maxRecDepth 100000 in
theorem spec_l06Step.calls (P0_ : Nat → Prop) (u9000_ : Value) (l0 : List Int) (g : Nat) (s1_0 : Int) (s1_1 : Int) (s1_2 : Int) (s1_3 : Int) (s1_4 : Int) (s1_5 : Int) (s1_6 : Int) (s1_7 : Int) (s1_8 : Int) (s1_9 : Bool) (s1_10 : Int) (r1 : Int) (r2 : Int) (r3 : Int) (r4 : Int) (r5 : Int) (r6 : Int) (r7 : Int) (r8 : Int) (r9 : Int) (r10 : Bool) (r11 : Int) (r12 : List Int) (w0 w : World) (hI : IsS46 w0 w g s1_0 s1_1 s1_2 s1_3 s1_4 s1_5 s1_6 s1_7 s1_8 s1_9 s1_10) (hB : Below w0.heap.size w0 w) (ho0 : Kd.R (Kd.int .i64) 3 w w0.heap.size P0_ u9000_ l0) (h : spec_l06Step.f l0 s1_0 s1_1 s1_2 s1_3 s1_4 s1_5 s1_6 s1_7 s1_8 s1_9 s1_10 = some (r1, r2, r3, r4, r5, r6, r7, r8, r9, r10, r11, r12)) :
  Calls Try.prog 68 #[u9000_, .pointer (some ⟨g, 0, none⟩)] w fun e w' => e = .returned (.tuple #[]) ∧ IsS46 w0 w' g r1 r2 r3 r4 r5 r6 r7 r8 r9 r10 r11 ∧ Kd.R (Kd.int .i64) 3 w' w0.heap.size (fun k_ => (P0_ k_ ∨ w.heap.size ≤ k_)) u9000_ r12 ∧ Below w0.heap.size w0 w' ∧ Kept w w' (fun k_ => (P0_ k_) ∨ k_ = g) := by
 have HO0 := Aside0.mk (show Kd.R (Kd.int .i64) 3 w w0.heap.size (fun k_ => (P0_ k_ ∨ w.heap.size ≤ k_)) u9000_ l0 from Kd.R_mono ho0 (fun k_ hk => (.inl hk)))
 have HI1 := Aside0.mk hI
 have HL := Aside0.mk hB.size
 clear hI
 have HK := Aside0.mk (Kept.refl w (fun k_ => (P0_ k_) ∨ k_ = g))
 have HW0 := Aside0.mk hB.size
 have HB := Aside0.mk hB
 clear hB
 obtain ⟨wv, hwv⟩ : ∃ wv : World, wv = w := ⟨w, rfl⟩
 replace HO0 : Aside0 (Kd.R (Kd.int .i64) 3 w w0.heap.size (fun k_ => (P0_ k_ ∨ wv.heap.size ≤ k_)) u9000_ l0) := by rw [hwv]; exact HO0
 replace HK : Aside0 (Kept wv w (fun k_ => (P0_ k_) ∨ k_ = g)) := by rw [hwv]; exact HK
 suffices hs_ : Calls Try.prog 68 #[u9000_, .pointer (some ⟨g, 0, none⟩)] w fun e w' => e = .returned (.tuple #[]) ∧ IsS46 w0 w' g r1 r2 r3 r4 r5 r6 r7 r8 r9 r10 r11 ∧ Kd.R (Kd.int .i64) 3 w' w0.heap.size (fun k_ => (P0_ k_ ∨ wv.heap.size ≤ k_)) u9000_ r12 ∧ Below w0.heap.size w0 w' ∧ Kept wv w' (fun k_ => (P0_ k_) ∨ k_ = g) by rw [hwv] at hs_; exact hs_
 clear hwv
 have H : (if s1_4 = 0 then (if 0 < (l0.length : Int) then ((spec_l06Node.f (rd l0 0)).bind fun t205 => (some (s1_0, s1_1, s1_2, s1_3, 1, 0, t205, s1_7, s1_8, s1_9, s1_10, l0))) else (none)) else (if s1_4 = 1 then (if s1_6 = 0 then ((spec_l06Nobody.f l0 s1_0 s1_1 s1_2 s1_3 s1_4 s1_5 s1_6 s1_7 s1_8 s1_9 s1_10).bind fun bt206 => (some (bt206.1, bt206.2.1, bt206.2.2.1, bt206.2.2.2.1, bt206.2.2.2.2.1, bt206.2.2.2.2.2.1, bt206.2.2.2.2.2.2.1, bt206.2.2.2.2.2.2.2.1, bt206.2.2.2.2.2.2.2.2.1, bt206.2.2.2.2.2.2.2.2.2.1, bt206.2.2.2.2.2.2.2.2.2.2.1, bt206.2.2.2.2.2.2.2.2.2.2.2))) else ((spec_l06Word.f s1_6).bind fun t218 => (if 0 ≤ t218 then (if t218 < (l0.length : Int) then ((spec_l06Node.f (rd l0 t218)).bind fun t220 => (some (s1_0, s1_1, s1_2, s1_3, 2, s1_5, s1_6, t220, Int.tmod (rd l0 t218) 2, s1_9, s1_10, l0))) else (none)) else (none)))) else (if s1_4 = 2 then ((spec_l06Look.f l0 s1_0 s1_1 s1_2 s1_3 s1_4 s1_5 s1_6 s1_7 s1_8 s1_9 s1_10).bind fun bt221 => (some (bt221.1, bt221.2.1, bt221.2.2.1, bt221.2.2.2.1, bt221.2.2.2.2.1, bt221.2.2.2.2.2.1, bt221.2.2.2.2.2.2.1, bt221.2.2.2.2.2.2.2.1, bt221.2.2.2.2.2.2.2.2.1, bt221.2.2.2.2.2.2.2.2.2.1, bt221.2.2.2.2.2.2.2.2.2.2.1, bt221.2.2.2.2.2.2.2.2.2.2.2))) else (if s1_4 = 3 then ((spec_l06Found.f l0 s1_0 s1_1 s1_2 s1_3 s1_4 s1_5 s1_6 s1_7 s1_8 s1_9 s1_10).bind fun bt233 => (some (bt233.1, bt233.2.1, bt233.2.2.1, bt233.2.2.2.1, bt233.2.2.2.2.1, bt233.2.2.2.2.2.1, bt233.2.2.2.2.2.2.1, bt233.2.2.2.2.2.2.2.1, bt233.2.2.2.2.2.2.2.2.1, bt233.2.2.2.2.2.2.2.2.2.1, bt233.2.2.2.2.2.2.2.2.2.2.1, bt233.2.2.2.2.2.2.2.2.2.2.2))) else (if s1_4 = 4 then ((spec_l06Swap.f l0 s1_5 (wrap64 (2 * s1_6)) (wrap64 (2 * s1_3))).bind fun bt245 => (if bt245.1 = true then (some (s1_0, s1_1, s1_2, s1_3, s1_4, s1_5, s1_6, s1_7, s1_8, true, 1, bt245.2)) else (some (s1_0, s1_1, s1_2, s1_3, 0, s1_5, s1_6, s1_7, s1_8, s1_9, s1_10, bt245.2)))) else (if s1_4 = 5 then ((spec_l06Swap.f l0 s1_6 (wrap64 (2 * s1_7)) (wrap64 ((wrap64 (2 * s1_7)) + 1))).bind fun bt247 => (if bt247.1 = true then (some (s1_0, s1_1, s1_2, s1_3, 6, s1_5, s1_6, s1_7, s1_8, s1_9, s1_10, bt247.2)) else (some (s1_0, s1_1, s1_2, s1_3, 0, s1_5, s1_6, s1_7, s1_8, s1_9, s1_10, bt247.2)))) else ((spec_l06Swap.f l0 s1_5 (wrap64 (2 * s1_6)) (wrap64 (2 * s1_7))).bind fun bt249 => (some (s1_0, s1_1, s1_2, s1_3, s1_4, s1_5, s1_6, s1_7, s1_8, true, 1, bt249.2))))))))) = some (r1, r2, r3, r4, r5, r6, r7, r8, r9, r10, r11, r12) := h
 clear h
 by_cases c3 : s1_4 = 0
 ·
  rw [if_pos c3] at H; have c3b0 : (s1_4 == 0) = true := beq_iff_eq.mpr c3; have c3b1 : (s1_4 != 0) = false := bne_eq_false_iff_eq.mpr c3; clear c3
  by_cases c4 : 0 < (l0.length : Int); rotate_left
  ·
   rw [if_neg c4] at H; exact absurd H (by simp)
  rw [if_pos c4] at H; have c4b0 : decide (0 < (l0.length : Int)) = true := decide_eq_true c4; have c4b1 : decide (0 < l0.length) = true := decide_eq_true (by omega); clear c4; replace H := Option.bind_eq_some_iff.mp H; obtain ⟨t205, A50, H⟩ := H; have A5 := Aside0.mk A50; clear A50; simp only [Option.some.injEq, Prod.mk.injEq] at H; obtain ⟨rfl, rfl, rfl, rfl, rfl, rfl, rfl, rfl, rfl, rfl, rfl, rfl⟩ := H; obtain ⟨HGz6, hgz6⟩ := HI1.out; have hcz6_0 := cellS46_0 HGz6; have hcz6_1 := cellS46_1 HGz6; have hcz6_2 := cellS46_2 HGz6; have hcz6_3 := cellS46_3 HGz6; have hcz6_4 := cellS46_4 HGz6; have hcz6_5 := cellS46_5 HGz6; have hcz6_6 := cellS46_6 HGz6; have hcz6_7 := cellS46_7 HGz6; have hcz6_8 := cellS46_8 HGz6; have hcz6_9 := cellS46_9 HGz6; have hcz6_10 := cellS46_10 HGz6; have hfz6_0 := blk_frozen HGz6 0; have hfz6_1 := blk_frozen HGz6 1; have hfz6_2 := blk_frozen HGz6 2; have hfz6_3 := blk_frozen HGz6 3; have hfz6_4 := blk_frozen HGz6 4; have hfz6_5 := blk_frozen HGz6 5; have hfz6_6 := blk_frozen HGz6 6; have hfz6_7 := blk_frozen HGz6 7; have hfz6_8 := blk_frozen HGz6 8; have hfz6_9 := blk_frozen HGz6 9; have hfz6_10 := blk_frozen HGz6 10; clear HGz6 hgz6; obtain ⟨Ao7, co7, eo7⟩ := Kd.R_slice HO0.out; subst eo7; have p204 : 0 ≤ (0 : Int) := (by omega); have q204 : 0 < (l0.length : Int) := of_decide_eq_true AS; obtain ⟨ad204, e204, hx204_0⟩ := Kd.at_int (Kd.R_reads' HO0.out).2.2 0 p204 q204; cases e204; have qi204 : (0 < l0.length) = True := eq_true (by omega)
  (try rw [show ((0 : Int)).toNat = 0 from rfl] at hx204_0)
  (try rw [Addr.add_zero'] at hx204_0)
  have hn204_0 : ad204.block ≠ g := Kd.own_blk (IsS46.own_ne HI1.out HO0.out (by decide)); replace hx204_0 := (cell_far (p := ⟨g, 5, none⟩) (by first | (rw [add_block]; exact hn204_0) | (show (Addr.add _ _).block ≠ _; rw [add_block]; exact hn204_0) | exact hn204_0) (.int .i64 0)).trans hx204_0; clear hn204_0; replace p204 := eq_true p204; replace q204 := eq_true q204
  go_enter Try.func68, Try.ntmps68
  go_wp2_with (first | ((with_reducible refine gate_callee (f := 73) rfl ?_); refine goesL_ (some 40) rfl rfl Try.func73 (by kernel_rfl) rfl #[.int .i64 (rd l0 0)] rfl (MA) ?_; (with_reducible refine (spec_l06Node.calls (rd l0 0) t205 _ A5.out).mono ?_); rintro e w' ⟨rfl, ⟨nd, rfl⟩⟩; refine ⟨_, rfl, ?_⟩))
  first | go_end0 | ((try simp only [Exit.inBlock, Exit.then]); refine bodyPost_ret (results_none rfl _ _ _) rfl ?_)
  exact ⟨EE, spec_l06Step.k0 HI1.out, by (with_reducible repeat (first | apply r1 | apply r2 | apply r3)); exact Kd.R_mono (Kd.R_far (p := ⟨g, 4, none⟩) (Kd.R_far (p := ⟨g, 6, none⟩) (Kd.R_far (p := ⟨g, 5, none⟩) (IsS46.apart HI1.out HO0.out (by decide)) (fun _ hk => hk.2) (.int .i64 0)) (fun _ hk => hk.2) (.int .i64 t205)) (fun _ hk => hk.2) (.int .i64 1)) (fun _ hk => hk.1), spec_l06Step.k1 HB.out, spec_l06Step.k2 HK.out⟩
 rw [if_neg c3] at H
 have c3b0 : (s1_4 == 0) = false := beq_eq_false_iff_ne.mpr c3
 have c3b1 : (s1_4 != 0) = true := bne_iff_ne.mpr c3
 by_cases c8 : s1_4 = 1
 ·
  rw [if_pos c8] at H; have c8b0 : (s1_4 == 1) = true := beq_iff_eq.mpr c8; have c8b1 : (s1_4 != 1) = false := bne_eq_false_iff_eq.mpr c8; clear c8
  by_cases c9 : s1_6 = 0
  ·
   rw [if_pos c9] at H; have c9b0 : (s1_6 == 0) = true := beq_iff_eq.mpr c9; have c9b1 : (s1_6 != 0) = false := bne_eq_false_iff_eq.mpr c9; clear c9; replace H := Option.bind_eq_some_iff.mp H; obtain ⟨⟨t206, t207, t208, t209, t210, t211, t212, t213, t214, t215, t216, t217⟩, A100, H⟩ := H; replace H : (some (t206, t207, t208, t209, t210, t211, t212, t213, t214, t215, t216, t217)) = some (r1, r2, r3, r4, r5, r6, r7, r8, r9, r10, r11, r12) := H; have A10 := Aside0.mk A100; clear A100; simp only [Option.some.injEq, Prod.mk.injEq] at H; obtain ⟨rfl, rfl, rfl, rfl, rfl, rfl, rfl, rfl, rfl, rfl, rfl, rfl⟩ := H; obtain ⟨HGz11, hgz11⟩ := HI1.out; have hcz11_0 := cellS46_0 HGz11; have hcz11_1 := cellS46_1 HGz11; have hcz11_2 := cellS46_2 HGz11; have hcz11_3 := cellS46_3 HGz11; have hcz11_4 := cellS46_4 HGz11; have hcz11_5 := cellS46_5 HGz11; have hcz11_6 := cellS46_6 HGz11; have hcz11_7 := cellS46_7 HGz11; have hcz11_8 := cellS46_8 HGz11; have hcz11_9 := cellS46_9 HGz11; have hcz11_10 := cellS46_10 HGz11; have hfz11_0 := blk_frozen HGz11 0; have hfz11_1 := blk_frozen HGz11 1; have hfz11_2 := blk_frozen HGz11 2; have hfz11_3 := blk_frozen HGz11 3; have hfz11_4 := blk_frozen HGz11 4; have hfz11_5 := blk_frozen HGz11 5; have hfz11_6 := blk_frozen HGz11 6; have hfz11_7 := blk_frozen HGz11 7; have hfz11_8 := blk_frozen HGz11 8; have hfz11_9 := blk_frozen HGz11 9; have hfz11_10 := blk_frozen HGz11 10; clear HGz11 hgz11; obtain ⟨Ao12, co12, eo12⟩ := Kd.R_slice HO0.out; subst eo12
   go_enter Try.func68, Try.ntmps68
   go_wp2_with (first | ((with_reducible refine gate_callee (f := 77) rfl ?_); refine goesL_ (some 55) rfl rfl Try.func77 (by kernel_rfl) rfl #[.slice Ao12 l0.length co12, .pointer (some ⟨g, 0, none⟩)] rfl (MA) ?_; (with_reducible refine (spec_l06Nobody.calls (fun k_ => some k_ = (.slice Ao12 l0.length co12 : Value).ownBlock) (.slice Ao12 l0.length co12) l0 g s1_0 s1_1 s1_2 s1_3 s1_4 s1_5 s1_6 s1_7 s1_8 s1_9 s1_10 t206 t207 t208 t209 t210 t211 t212 t213 t214 t215 t216 t217 w0 _ ?side1 ?side2 ?side3 A10.out).mono ?_); (case side1 => exact spec_l06Step.k0 HI1.out); (case side2 => exact spec_l06Step.k1 HB.out); (case side3 => exact Kd.R_tight rfl HO0.out); rintro e w13 ⟨rfl, hi, hy0, hb, hkp⟩; refine ⟨_, rfl, ?_⟩; replace HI1 := Aside0.mk (hi); replace HK := Aside0.mk (Kept.then_ (S := (fun k_ => (P0_ k_) ∨ k_ = g)) (spec_l06Step.k2 HK.out) hkp (fun k_ hs_ => Or.elim hs_ (fun hs_ => (fun e_ => Or.imp_left Or.inl ((HO0.out.1 k_ e_.symm))) hs_) (fun e_ => .inl (.inr e_)))); replace HO0 := Aside0.mk (Kd.R_reok rfl hy0 (fun k_ e_ => HO0.out.1 k_ e_)); replace HB := Aside0.mk (hb); (try clear hb); (try clear hkp); (try clear hy0)))
   first | go_end0 | ((try simp only [Exit.inBlock, Exit.then]); refine bodyPost_ret (results_none rfl _ _ _) rfl ?_)
   exact ⟨EE, spec_l06Step.k0 HI1.out, RQ HO0.out, spec_l06Step.k1 HB.out, spec_l06Step.k2 HK.out⟩
  rw [if_neg c9] at H; have c9b0 : (s1_6 == 0) = false := beq_eq_false_iff_ne.mpr c9; have c9b1 : (s1_6 != 0) = true := bne_iff_ne.mpr c9; replace H := Option.bind_eq_some_iff.mp H; obtain ⟨t218, A140, H⟩ := H; have A14 := Aside0.mk A140; clear A140
  by_cases c15 : 0 ≤ t218; rotate_left
  ·
   rw [if_neg c15] at H; exact absurd H (by simp)
  rw [if_pos c15] at H; have c15b0 : decide (0 ≤ t218) = true := decide_eq_true c15; clear c15
  by_cases c16 : t218 < (l0.length : Int); rotate_left
  ·
   rw [if_neg c16] at H; exact absurd H (by simp)
  rw [if_pos c16] at H; have c16b0 : decide (t218 < (l0.length : Int)) = true := decide_eq_true c16; clear c16; replace H := Option.bind_eq_some_iff.mp H; obtain ⟨t220, A170, H⟩ := H; have A17 := Aside0.mk A170; clear A170; simp only [Option.some.injEq, Prod.mk.injEq] at H; obtain ⟨rfl, rfl, rfl, rfl, rfl, rfl, rfl, rfl, rfl, rfl, rfl, rfl⟩ := H; obtain ⟨HGz18, hgz18⟩ := HI1.out; have hcz18_0 := cellS46_0 HGz18; have hcz18_1 := cellS46_1 HGz18; have hcz18_2 := cellS46_2 HGz18; have hcz18_3 := cellS46_3 HGz18; have hcz18_4 := cellS46_4 HGz18; have hcz18_5 := cellS46_5 HGz18; have hcz18_6 := cellS46_6 HGz18; have hcz18_7 := cellS46_7 HGz18; have hcz18_8 := cellS46_8 HGz18; have hcz18_9 := cellS46_9 HGz18; have hcz18_10 := cellS46_10 HGz18; have hfz18_0 := blk_frozen HGz18 0; have hfz18_1 := blk_frozen HGz18 1; have hfz18_2 := blk_frozen HGz18 2; have hfz18_3 := blk_frozen HGz18 3; have hfz18_4 := blk_frozen HGz18 4; have hfz18_5 := blk_frozen HGz18 5; have hfz18_6 := blk_frozen HGz18 6; have hfz18_7 := blk_frozen HGz18 7; have hfz18_8 := blk_frozen HGz18 8; have hfz18_9 := blk_frozen HGz18 9; have hfz18_10 := blk_frozen HGz18 10; clear HGz18 hgz18
  go_enter Try.func68, Try.ntmps68
  go_wp2_with (first | ((with_reducible refine gate_callee (f := 74) rfl ?_); refine goesL_ (some 61) rfl rfl Try.func74 (by kernel_rfl) rfl #[.int .i64 s1_6] rfl (MA) ?_; (with_reducible refine (spec_l06Word.calls s1_6 t218 _ A14.out).mono ?_); rintro e w' ⟨rfl, ⟨nd, rfl⟩⟩; refine ⟨_, rfl, ?_⟩; (try (rw [drewN_self w]; generalize hq_ : World.drewN w _ = w; have n0_ : Aside0 (Kd.R (Kd.int .i64) 3 w w0.heap.size (fun k_ => (P0_ k_ ∨ wv.heap.size ≤ k_)) u9000_ l0) := ⟨by rw [← hq_]; exact (RQ HO0.out)⟩; have n1_ : Aside0 (IsS46 w0 w g s1_0 s1_1 s1_2 s1_3 s1_4 s1_5 s1_6 s1_7 s1_8 s1_9 s1_10) := ⟨by rw [← hq_]; exact (spec_l06Step.k0 HI1.out)⟩; have n2_ : Aside0 (Kept wv w (fun k_ => (P0_ k_) ∨ k_ = g)) := ⟨by rw [← hq_]; exact (spec_l06Step.k2 HK.out)⟩; have n3_ : Aside0 (Below w0.heap.size w0 w) := ⟨by rw [← hq_]; exact (spec_l06Step.k1 HB.out)⟩; clear HO0 HI1 HK HB hq_; have HO0 := n0_; have HI1 := n1_; have HK := n2_; have HB := n3_; clear n0_ n1_ n2_ n3_; have HGz_ := (HI1.out).1; have hcq0_ := cellS46_0 HGz_; have hfq0_ := blk_frozen HGz_ 0; have hcq1_ := cellS46_1 HGz_; have hfq1_ := blk_frozen HGz_ 1; have hcq2_ := cellS46_2 HGz_; have hfq2_ := blk_frozen HGz_ 2; have hcq3_ := cellS46_3 HGz_; have hfq3_ := blk_frozen HGz_ 3; have hcq4_ := cellS46_4 HGz_; have hfq4_ := blk_frozen HGz_ 4; have hcq5_ := cellS46_5 HGz_; have hfq5_ := blk_frozen HGz_ 5; have hcq6_ := cellS46_6 HGz_; have hfq6_ := blk_frozen HGz_ 6; have hcq7_ := cellS46_7 HGz_; have hfq7_ := blk_frozen HGz_ 7; have hcq8_ := cellS46_8 HGz_; have hfq8_ := blk_frozen HGz_ 8; have hcq9_ := cellS46_9 HGz_; have hfq9_ := blk_frozen HGz_ 9; have hcq10_ := cellS46_10 HGz_; have hfq10_ := blk_frozen HGz_ 10; clear HGz_)); obtain ⟨Ao19, co19, eo19⟩ := Kd.R_slice HO0.out; subst eo19; have p219 : 0 ≤ (t218 : Int) := of_decide_eq_true AS; have q219 : t218 < (l0.length : Int) := of_decide_eq_true AS; obtain ⟨ad219, e219, hx219_0⟩ := Kd.at_int (Kd.R_reads' HO0.out).2.2 t218 p219 q219; cases e219; replace p219 := eq_true p219; replace q219 := eq_true q219) | ((with_reducible refine gate_callee (f := 73) rfl ?_); refine goesL_ (some 66) rfl rfl Try.func73 (by kernel_rfl) rfl #[.int .i64 (rd l0 t218)] rfl (MA) ?_; (with_reducible refine (spec_l06Node.calls (rd l0 t218) t220 _ A17.out).mono ?_); rintro e w' ⟨rfl, ⟨nd, rfl⟩⟩; refine ⟨_, rfl, ?_⟩; (try (rw [drewN_self w]; generalize hq_ : World.drewN w _ = w; have n0_ : Aside0 (Kd.R (Kd.int .i64) 3 w w0.heap.size (fun k_ => (P0_ k_ ∨ wv.heap.size ≤ k_)) (.slice (some ad219) l0.length co19) l0) := ⟨by rw [← hq_]; exact (RQ HO0.out)⟩; have n1_ : Aside0 (IsS46 w0 w g s1_0 s1_1 s1_2 s1_3 s1_4 s1_5 s1_6 s1_7 s1_8 s1_9 s1_10) := ⟨by rw [← hq_]; exact (spec_l06Step.k0 HI1.out)⟩; have n2_ : Aside0 (Kept wv w (fun k_ => (P0_ k_) ∨ k_ = g)) := ⟨by rw [← hq_]; exact (spec_l06Step.k2 HK.out)⟩; have n3_ : Aside0 (Below w0.heap.size w0 w) := ⟨by rw [← hq_]; exact (spec_l06Step.k1 HB.out)⟩; clear HO0 HI1 HK HB hq_; have HO0 := n0_; have HI1 := n1_; have HK := n2_; have HB := n3_; clear n0_ n1_ n2_ n3_; have HGz_ := (HI1.out).1; have hcq0_ := cellS46_0 HGz_; have hfq0_ := blk_frozen HGz_ 0; have hcq1_ := cellS46_1 HGz_; have hfq1_ := blk_frozen HGz_ 1; have hcq2_ := cellS46_2 HGz_; have hfq2_ := blk_frozen HGz_ 2; have hcq3_ := cellS46_3 HGz_; have hfq3_ := blk_frozen HGz_ 3; have hcq4_ := cellS46_4 HGz_; have hfq4_ := blk_frozen HGz_ 4; have hcq5_ := cellS46_5 HGz_; have hfq5_ := blk_frozen HGz_ 5; have hcq6_ := cellS46_6 HGz_; have hfq6_ := blk_frozen HGz_ 6; have hcq7_ := cellS46_7 HGz_; have hfq7_ := blk_frozen HGz_ 7; have hcq8_ := cellS46_8 HGz_; have hfq8_ := blk_frozen HGz_ 8; have hcq9_ := cellS46_9 HGz_; have hfq9_ := blk_frozen HGz_ 9; have hcq10_ := cellS46_10 HGz_; have hfq10_ := blk_frozen HGz_ 10; clear HGz_))))
  first | go_end0 | ((try simp only [Exit.inBlock, Exit.then]); refine bodyPost_ret (results_none rfl _ _ _) rfl ?_)
  exact ⟨EE, spec_l06Step.k0 HI1.out, by (with_reducible repeat (first | apply r1 | apply r2 | apply r3)); exact Kd.R_mono (Kd.R_far (p := ⟨g, 4, none⟩) (Kd.R_far (p := ⟨g, 8, none⟩) (Kd.R_far (p := ⟨g, 7, none⟩) (IsS46.apart HI1.out HO0.out (by decide)) (fun _ hk => hk.2) (.int .i64 t220)) (fun _ hk => hk.2) (.int .i64 (Int.tmod (rd l0 t218) 2))) (fun _ hk => hk.2) (.int .i64 2)) (fun _ hk => hk.1), spec_l06Step.k1 HB.out, spec_l06Step.k2 HK.out⟩
 rw [if_neg c8] at H
 have c8b0 : (s1_4 == 1) = false := beq_eq_false_iff_ne.mpr c8
 have c8b1 : (s1_4 != 1) = true := bne_iff_ne.mpr c8
 by_cases c20 : s1_4 = 2
 ·
  rw [if_pos c20] at H; have c20b0 : (s1_4 == 2) = true := beq_iff_eq.mpr c20; have c20b1 : (s1_4 != 2) = false := bne_eq_false_iff_eq.mpr c20; clear c20; replace H := Option.bind_eq_some_iff.mp H; obtain ⟨⟨t221, t222, t223, t224, t225, t226, t227, t228, t229, t230, t231, t232⟩, A210, H⟩ := H; replace H : (some (t221, t222, t223, t224, t225, t226, t227, t228, t229, t230, t231, t232)) = some (r1, r2, r3, r4, r5, r6, r7, r8, r9, r10, r11, r12) := H; have A21 := Aside0.mk A210; clear A210; simp only [Option.some.injEq, Prod.mk.injEq] at H; obtain ⟨rfl, rfl, rfl, rfl, rfl, rfl, rfl, rfl, rfl, rfl, rfl, rfl⟩ := H; obtain ⟨HGz22, hgz22⟩ := HI1.out; have hcz22_0 := cellS46_0 HGz22; have hcz22_1 := cellS46_1 HGz22; have hcz22_2 := cellS46_2 HGz22; have hcz22_3 := cellS46_3 HGz22; have hcz22_4 := cellS46_4 HGz22; have hcz22_5 := cellS46_5 HGz22; have hcz22_6 := cellS46_6 HGz22; have hcz22_7 := cellS46_7 HGz22; have hcz22_8 := cellS46_8 HGz22; have hcz22_9 := cellS46_9 HGz22; have hcz22_10 := cellS46_10 HGz22; have hfz22_0 := blk_frozen HGz22 0; have hfz22_1 := blk_frozen HGz22 1; have hfz22_2 := blk_frozen HGz22 2; have hfz22_3 := blk_frozen HGz22 3; have hfz22_4 := blk_frozen HGz22 4; have hfz22_5 := blk_frozen HGz22 5; have hfz22_6 := blk_frozen HGz22 6; have hfz22_7 := blk_frozen HGz22 7; have hfz22_8 := blk_frozen HGz22 8; have hfz22_9 := blk_frozen HGz22 9; have hfz22_10 := blk_frozen HGz22 10; clear HGz22 hgz22; obtain ⟨Ao23, co23, eo23⟩ := Kd.R_slice HO0.out; subst eo23
  go_enter Try.func68, Try.ntmps68
  go_wp2_with (first | ((with_reducible refine gate_callee (f := 78) rfl ?_); refine goesL_ (some 81) rfl rfl Try.func78 (by kernel_rfl) rfl #[.slice Ao23 l0.length co23, .pointer (some ⟨g, 0, none⟩)] rfl (MA) ?_; (with_reducible refine (spec_l06Look.calls (fun k_ => some k_ = (.slice Ao23 l0.length co23 : Value).ownBlock) (.slice Ao23 l0.length co23) l0 g s1_0 s1_1 s1_2 s1_3 s1_4 s1_5 s1_6 s1_7 s1_8 s1_9 s1_10 t221 t222 t223 t224 t225 t226 t227 t228 t229 t230 t231 t232 w0 _ ?side1 ?side2 ?side3 A21.out).mono ?_); (case side1 => exact spec_l06Step.k0 HI1.out); (case side2 => exact spec_l06Step.k1 HB.out); (case side3 => exact Kd.R_tight rfl HO0.out); rintro e w24 ⟨rfl, hi, hy0, hb, hkp⟩; refine ⟨_, rfl, ?_⟩; replace HI1 := Aside0.mk (hi); replace HK := Aside0.mk (Kept.then_ (S := (fun k_ => (P0_ k_) ∨ k_ = g)) (spec_l06Step.k2 HK.out) hkp (fun k_ hs_ => Or.elim hs_ (fun hs_ => (fun e_ => Or.imp_left Or.inl ((HO0.out.1 k_ e_.symm))) hs_) (fun e_ => .inl (.inr e_)))); replace HO0 := Aside0.mk (Kd.R_reok rfl hy0 (fun k_ e_ => HO0.out.1 k_ e_)); replace HB := Aside0.mk (hb); (try clear hb); (try clear hkp); (try clear hy0)))
  first | go_end0 | ((try simp only [Exit.inBlock, Exit.then]); refine bodyPost_ret (results_none rfl _ _ _) rfl ?_)
  exact ⟨EE, spec_l06Step.k0 HI1.out, RQ HO0.out, spec_l06Step.k1 HB.out, spec_l06Step.k2 HK.out⟩
 rw [if_neg c20] at H
 have c20b0 : (s1_4 == 2) = false := beq_eq_false_iff_ne.mpr c20
 have c20b1 : (s1_4 != 2) = true := bne_iff_ne.mpr c20
 by_cases c25 : s1_4 = 3
 ·
  rw [if_pos c25] at H; have c25b0 : (s1_4 == 3) = true := beq_iff_eq.mpr c25; have c25b1 : (s1_4 != 3) = false := bne_eq_false_iff_eq.mpr c25; clear c25; replace H := Option.bind_eq_some_iff.mp H; obtain ⟨⟨t233, t234, t235, t236, t237, t238, t239, t240, t241, t242, t243, t244⟩, A260, H⟩ := H; replace H : (some (t233, t234, t235, t236, t237, t238, t239, t240, t241, t242, t243, t244)) = some (r1, r2, r3, r4, r5, r6, r7, r8, r9, r10, r11, r12) := H; have A26 := Aside0.mk A260; clear A260; simp only [Option.some.injEq, Prod.mk.injEq] at H; obtain ⟨rfl, rfl, rfl, rfl, rfl, rfl, rfl, rfl, rfl, rfl, rfl, rfl⟩ := H; obtain ⟨HGz27, hgz27⟩ := HI1.out; have hcz27_0 := cellS46_0 HGz27; have hcz27_1 := cellS46_1 HGz27; have hcz27_2 := cellS46_2 HGz27; have hcz27_3 := cellS46_3 HGz27; have hcz27_4 := cellS46_4 HGz27; have hcz27_5 := cellS46_5 HGz27; have hcz27_6 := cellS46_6 HGz27; have hcz27_7 := cellS46_7 HGz27; have hcz27_8 := cellS46_8 HGz27; have hcz27_9 := cellS46_9 HGz27; have hcz27_10 := cellS46_10 HGz27; have hfz27_0 := blk_frozen HGz27 0; have hfz27_1 := blk_frozen HGz27 1; have hfz27_2 := blk_frozen HGz27 2; have hfz27_3 := blk_frozen HGz27 3; have hfz27_4 := blk_frozen HGz27 4; have hfz27_5 := blk_frozen HGz27 5; have hfz27_6 := blk_frozen HGz27 6; have hfz27_7 := blk_frozen HGz27 7; have hfz27_8 := blk_frozen HGz27 8; have hfz27_9 := blk_frozen HGz27 9; have hfz27_10 := blk_frozen HGz27 10; clear HGz27 hgz27; obtain ⟨Ao28, co28, eo28⟩ := Kd.R_slice HO0.out; subst eo28
  go_enter Try.func68, Try.ntmps68
  go_wp2_with (first | ((with_reducible refine gate_callee (f := 79) rfl ?_); refine goesL_ (some 86) rfl rfl Try.func79 (by kernel_rfl) rfl #[.slice Ao28 l0.length co28, .pointer (some ⟨g, 0, none⟩)] rfl (MA) ?_; (with_reducible refine (spec_l06Found.calls (fun k_ => some k_ = (.slice Ao28 l0.length co28 : Value).ownBlock) (.slice Ao28 l0.length co28) l0 g s1_0 s1_1 s1_2 s1_3 s1_4 s1_5 s1_6 s1_7 s1_8 s1_9 s1_10 t233 t234 t235 t236 t237 t238 t239 t240 t241 t242 t243 t244 w0 _ ?side1 ?side2 ?side3 A26.out).mono ?_); (case side1 => exact spec_l06Step.k0 HI1.out); (case side2 => exact spec_l06Step.k1 HB.out); (case side3 => exact Kd.R_tight rfl HO0.out); rintro e w29 ⟨rfl, hi, hy0, hb, hkp⟩; refine ⟨_, rfl, ?_⟩; replace HI1 := Aside0.mk (hi); replace HK := Aside0.mk (Kept.then_ (S := (fun k_ => (P0_ k_) ∨ k_ = g)) (spec_l06Step.k2 HK.out) hkp (fun k_ hs_ => Or.elim hs_ (fun hs_ => (fun e_ => Or.imp_left Or.inl ((HO0.out.1 k_ e_.symm))) hs_) (fun e_ => .inl (.inr e_)))); replace HO0 := Aside0.mk (Kd.R_reok rfl hy0 (fun k_ e_ => HO0.out.1 k_ e_)); replace HB := Aside0.mk (hb); (try clear hb); (try clear hkp); (try clear hy0)))
  first | go_end0 | ((try simp only [Exit.inBlock, Exit.then]); refine bodyPost_ret (results_none rfl _ _ _) rfl ?_)
  exact ⟨EE, spec_l06Step.k0 HI1.out, RQ HO0.out, spec_l06Step.k1 HB.out, spec_l06Step.k2 HK.out⟩
 rw [if_neg c25] at H
 have c25b0 : (s1_4 == 3) = false := beq_eq_false_iff_ne.mpr c25
 have c25b1 : (s1_4 != 3) = true := bne_iff_ne.mpr c25
 by_cases c30 : s1_4 = 4
 ·
  rw [if_pos c30] at H; have c30b0 : (s1_4 == 4) = true := beq_iff_eq.mpr c30; have c30b1 : (s1_4 != 4) = false := bne_eq_false_iff_eq.mpr c30; clear c30; replace H := Option.bind_eq_some_iff.mp H; obtain ⟨⟨t245, t246⟩, A310, H⟩ := H; replace H : (if t245 = true then (some (s1_0, s1_1, s1_2, s1_3, s1_4, s1_5, s1_6, s1_7, s1_8, true, 1, t246)) else (some (s1_0, s1_1, s1_2, s1_3, 0, s1_5, s1_6, s1_7, s1_8, s1_9, s1_10, t246))) = some (r1, r2, r3, r4, r5, r6, r7, r8, r9, r10, r11, r12) := H; have A31 := Aside0.mk A310; clear A310
  by_cases c32 : t245 = true
  ·
   subst c32
   have H1 : (some (s1_0, s1_1, s1_2, s1_3, s1_4, s1_5, s1_6, s1_7, s1_8, true, 1, t246)) = some (r1, r2, r3, r4, r5, r6, r7, r8, r9, r10, r11, r12) := by rw [if_pos rfl] at H; exact H
   clear H; have H := H1; clear H1; simp only [Option.some.injEq, Prod.mk.injEq] at H; obtain ⟨rfl, rfl, rfl, rfl, rfl, rfl, rfl, rfl, rfl, rfl, rfl, rfl⟩ := H; obtain ⟨HGz33, hgz33⟩ := HI1.out; have hcz33_0 := cellS46_0 HGz33; have hcz33_1 := cellS46_1 HGz33; have hcz33_2 := cellS46_2 HGz33; have hcz33_3 := cellS46_3 HGz33; have hcz33_4 := cellS46_4 HGz33; have hcz33_5 := cellS46_5 HGz33; have hcz33_6 := cellS46_6 HGz33; have hcz33_7 := cellS46_7 HGz33; have hcz33_8 := cellS46_8 HGz33; have hcz33_9 := cellS46_9 HGz33; have hcz33_10 := cellS46_10 HGz33; have hfz33_0 := blk_frozen HGz33 0; have hfz33_1 := blk_frozen HGz33 1; have hfz33_2 := blk_frozen HGz33 2; have hfz33_3 := blk_frozen HGz33 3; have hfz33_4 := blk_frozen HGz33 4; have hfz33_5 := blk_frozen HGz33 5; have hfz33_6 := blk_frozen HGz33 6; have hfz33_7 := blk_frozen HGz33 7; have hfz33_8 := blk_frozen HGz33 8; have hfz33_9 := blk_frozen HGz33 9; have hfz33_10 := blk_frozen HGz33 10; clear HGz33 hgz33
   go_enter Try.func68, Try.ntmps68
   try go_wp2
   have n0_ := Aside0.mk (Kd.R_drew HO0.out); have n1_ := Aside0.mk (IsS46.drew HI1.out); have n2_ := Aside0.mk (Kept.drew HK.out); have n3_ := Aside0.mk (below_drew1 HB.out); clear HO0; clear HI1; clear HK; clear HB; have HO0 := n0_; have HI1 := n1_; have HK := n2_; have HB := n3_; clear n0_ n1_ n2_ n3_; obtain ⟨Ao35, co35, eo35⟩ := Kd.R_slice HO0.out
   (first | subst eo35 | (injection eo35 with f1_ f2_ f3_; have f4_ := f1_.symm; have f5_ := f3_.symm; clear f1_ f2_ f3_; subst f4_; subst f5_))
   refine start_ (n := 16) (S := fun w' => w'.cell? ⟨g, 0, none⟩ = some (.int .i64 s1_0) ∧ w'.cell? ⟨g, 1, none⟩ = some (.int .i64 s1_1) ∧ w'.cell? ⟨g, 2, none⟩ = some (.int .i64 s1_2) ∧ w'.cell? ⟨g, 3, none⟩ = some (.int .i64 s1_3) ∧ w'.cell? ⟨g, 4, none⟩ = some (.int .i64 s1_4) ∧ w'.cell? ⟨g, 5, none⟩ = some (.int .i64 s1_5) ∧ w'.cell? ⟨g, 6, none⟩ = some (.int .i64 s1_6) ∧ w'.cell? ⟨g, 7, none⟩ = some (.int .i64 s1_7) ∧ w'.cell? ⟨g, 8, none⟩ = some (.int .i64 s1_8) ∧ w'.cell? ⟨g, 9, none⟩ = some (.bool s1_9) ∧ w'.cell? ⟨g, 10, none⟩ = some (.int .i64 s1_10)) (ds := []) #[false, false, false, false, false, false, false, false, false, false, false, false, false, false, false, false] (by kernel_rfl) rfl rfl ⟨(blk_cell (Aside0.mk (HI1.out).1).out 0).trans rfl, (blk_cell (Aside0.mk (HI1.out).1).out 1).trans rfl, (blk_cell (Aside0.mk (HI1.out).1).out 2).trans rfl, (blk_cell (Aside0.mk (HI1.out).1).out 3).trans rfl, (blk_cell (Aside0.mk (HI1.out).1).out 4).trans rfl, (blk_cell (Aside0.mk (HI1.out).1).out 5).trans rfl, (blk_cell (Aside0.mk (HI1.out).1).out 6).trans rfl, (blk_cell (Aside0.mk (HI1.out).1).out 7).trans rfl, (blk_cell (Aside0.mk (HI1.out).1).out 8).trans rfl, (blk_cell (Aside0.mk (HI1.out).1).out 9).trans rfl, (blk_cell (Aside0.mk (HI1.out).1).out 10).trans rfl⟩ (fun hHeld => ?_); refine with_tabW spec_l06Step.tab20 spec_l06Step.bits20 (fun HT_ HW_ => ?_); generalize w.drew = w34 at HO0 HI1 HK HB hHeld ⊢; refine pV 0 89 (OB 16 1) ?_; refine pV 1 90 (OB 16 3) ?_; refine pV 2 91 (OB 16 7) ?_; refine pV 3 92 (OB 16 15) ?_; refine pV 5 94 (OB 16 47) ?_; refine pV 6 95 (OB 16 111) ?_; refine pV 7 96 (OB 16 239) ?_; refine pV 10 99 (OB 16 1263) ?_; refine pV 11 100 (OB 16 3311) ?_; refine pV 12 101 (OB 16 7407) ?_; refine pT 4 93 (OB 16 7423) ?_; refine pT 8 97 (OB 16 7679) ?_; refine pV 9 98 (OB 16 8191) ?_; refine pT 13 102 (OB 16 16383) ?_; refine pV 14 103 (OB 16 32767) ?_; refine one_ (i := 15) (N := some 104) (OB 16 65535) rfl rfl (one_of HT_.out (by kernel_rfl)) (by decide) (fun K hK => ?_); refine goes_ Try.func80 (by kernel_rfl) rfl #[.slice Ao35 l0.length co35, .int .i64 s1_5, .int .i64 (wrap64 (2 * s1_6)), .int .i64 (wrap64 (2 * s1_3))] (by rfl) rfl rfl (MA) ?_
   with_reducible refine (spec_l06Swap.calls (fun k_ => some k_ = (.slice Ao35 l0.length co35 : Value).ownBlock) (.slice Ao35 l0.length co35) l0 s1_5 (wrap64 (2 * s1_6)) (wrap64 (2 * s1_3)) true t246 w0 _ ?side1 ?side2 A31.out).mono ?_
   (case side1 => exact spec_l06Step.k1 HB.out)
   (case side2 => exact Kd.R_tight rfl HO0.out)
   rintro e w36 ⟨rfl, hy0, hb, hkp⟩; refine ⟨_, rfl, ?_⟩; have n0_ := Aside0.mk (IsS46.kept (spec_l06Step.k0 HI1.out) hkp (fun hs_ => (fun e_ => (IsS46.own_ne HI1.out HO0.out (by decide)) e_) hs_)); have n1_ := Aside0.mk (Kd.R_reok rfl hy0 (fun k_ e_ => HO0.out.1 k_ e_)); have n2_ := Aside0.mk (Kept.then_ (S := (fun k_ => (P0_ k_) ∨ k_ = g)) (spec_l06Step.k2 HK.out) hkp (fun k_ hs_ => (fun e_ => Or.imp_left Or.inl ((HO0.out.1 k_ e_.symm))) hs_)); have n3_ := Aside0.mk (hb); clear HI1; clear HO0; clear HK; clear HB; have HI1 := n0_; have HO0 := n1_; have HK := n2_; have HB := n3_; clear n0_ n1_ n2_ n3_
   (try clear hb)
   (try clear hkp)
   (try clear hy0)
   refine hK.out _ _ ⟨(blk_cell (Aside0.mk (HI1.out).1).out 0).trans rfl, (blk_cell (Aside0.mk (HI1.out).1).out 1).trans rfl, (blk_cell (Aside0.mk (HI1.out).1).out 2).trans rfl, (blk_cell (Aside0.mk (HI1.out).1).out 3).trans rfl, (blk_cell (Aside0.mk (HI1.out).1).out 4).trans rfl, (blk_cell (Aside0.mk (HI1.out).1).out 5).trans rfl, (blk_cell (Aside0.mk (HI1.out).1).out 6).trans rfl, (blk_cell (Aside0.mk (HI1.out).1).out 7).trans rfl, (blk_cell (Aside0.mk (HI1.out).1).out 8).trans rfl, (blk_cell (Aside0.mk (HI1.out).1).out 9).trans rfl, (blk_cell (Aside0.mk (HI1.out).1).out 10).trans rfl⟩ (fun hHeld => ?_); clear hK K; refine norm_ (a' := ?_) ?_ ?_; rotate_left
   ·
    show Act.put _ (some 104) _ = _; simp only [Act.put, zA, zB, zC, i64_w, i32_w]; rfl
   refine done_ (done_of HT_.out (by kernel_rfl)) ?_; obtain ⟨HGz37, hgz37⟩ := HI1.out; have hcz37_0 := cellS46_0 HGz37; have hcz37_1 := cellS46_1 HGz37; have hcz37_2 := cellS46_2 HGz37; have hcz37_3 := cellS46_3 HGz37; have hcz37_4 := cellS46_4 HGz37; have hcz37_5 := cellS46_5 HGz37; have hcz37_6 := cellS46_6 HGz37; have hcz37_7 := cellS46_7 HGz37; have hcz37_8 := cellS46_8 HGz37; have hcz37_9 := cellS46_9 HGz37; have hcz37_10 := cellS46_10 HGz37; have hfz37_0 := blk_frozen HGz37 0; have hfz37_1 := blk_frozen HGz37 1; have hfz37_2 := blk_frozen HGz37 2; have hfz37_3 := blk_frozen HGz37 3; have hfz37_4 := blk_frozen HGz37 4; have hfz37_5 := blk_frozen HGz37 5; have hfz37_6 := blk_frozen HGz37 6; have hfz37_7 := blk_frozen HGz37 7; have hfz37_8 := blk_frozen HGz37 8; have hfz37_9 := blk_frozen HGz37 9; have hfz37_10 := blk_frozen HGz37 10; clear HGz37 hgz37
   try go_wp2
   first | go_end0 | ((try simp only [Exit.inBlock, Exit.then]); refine bodyPost_ret (results_none rfl _ _ _) rfl ?_)
   exact ⟨EE, spec_l06Step.k0 HI1.out, by (with_reducible repeat (first | apply r1 | apply r2 | apply r3)); exact Kd.R_mono (Kd.R_far (p := ⟨g, 10, none⟩) (Kd.R_far (p := ⟨g, 9, none⟩) (IsS46.apart HI1.out HO0.out (by decide)) (fun _ hk => hk.2) (.bool true)) (fun _ hk => hk.2) (.int .i64 1)) (fun _ hk => hk.1), spec_l06Step.k1 HB.out, spec_l06Step.k2 HK.out⟩
  replace c32 := Bool.eq_false_iff.mpr c32; subst c32
  have H1 : (some (s1_0, s1_1, s1_2, s1_3, 0, s1_5, s1_6, s1_7, s1_8, s1_9, s1_10, t246)) = some (r1, r2, r3, r4, r5, r6, r7, r8, r9, r10, r11, r12) := by rw [if_neg (show ¬ (false = true) by decide)] at H; exact H
  clear H; have H := H1; clear H1; simp only [Option.some.injEq, Prod.mk.injEq] at H; obtain ⟨rfl, rfl, rfl, rfl, rfl, rfl, rfl, rfl, rfl, rfl, rfl, rfl⟩ := H; obtain ⟨HGz38, hgz38⟩ := HI1.out; have hcz38_0 := cellS46_0 HGz38; have hcz38_1 := cellS46_1 HGz38; have hcz38_2 := cellS46_2 HGz38; have hcz38_3 := cellS46_3 HGz38; have hcz38_4 := cellS46_4 HGz38; have hcz38_5 := cellS46_5 HGz38; have hcz38_6 := cellS46_6 HGz38; have hcz38_7 := cellS46_7 HGz38; have hcz38_8 := cellS46_8 HGz38; have hcz38_9 := cellS46_9 HGz38; have hcz38_10 := cellS46_10 HGz38; have hfz38_0 := blk_frozen HGz38 0; have hfz38_1 := blk_frozen HGz38 1; have hfz38_2 := blk_frozen HGz38 2; have hfz38_3 := blk_frozen HGz38 3; have hfz38_4 := blk_frozen HGz38 4; have hfz38_5 := blk_frozen HGz38 5; have hfz38_6 := blk_frozen HGz38 6; have hfz38_7 := blk_frozen HGz38 7; have hfz38_8 := blk_frozen HGz38 8; have hfz38_9 := blk_frozen HGz38 9; have hfz38_10 := blk_frozen HGz38 10; clear HGz38 hgz38
  go_enter Try.func68, Try.ntmps68
  try go_wp2
  have n0_ := Aside0.mk (Kd.R_drew HO0.out); have n1_ := Aside0.mk (IsS46.drew HI1.out); have n2_ := Aside0.mk (Kept.drew HK.out); have n3_ := Aside0.mk (below_drew1 HB.out); clear HO0; clear HI1; clear HK; clear HB; have HO0 := n0_; have HI1 := n1_; have HK := n2_; have HB := n3_; clear n0_ n1_ n2_ n3_; obtain ⟨Ao40, co40, eo40⟩ := Kd.R_slice HO0.out
  (first | subst eo40 | (injection eo40 with f1_ f2_ f3_; have f4_ := f1_.symm; have f5_ := f3_.symm; clear f1_ f2_ f3_; subst f4_; subst f5_))
  refine start_ (n := 16) (S := fun w' => w'.cell? ⟨g, 0, none⟩ = some (.int .i64 s1_0) ∧ w'.cell? ⟨g, 1, none⟩ = some (.int .i64 s1_1) ∧ w'.cell? ⟨g, 2, none⟩ = some (.int .i64 s1_2) ∧ w'.cell? ⟨g, 3, none⟩ = some (.int .i64 s1_3) ∧ w'.cell? ⟨g, 4, none⟩ = some (.int .i64 s1_4) ∧ w'.cell? ⟨g, 5, none⟩ = some (.int .i64 s1_5) ∧ w'.cell? ⟨g, 6, none⟩ = some (.int .i64 s1_6) ∧ w'.cell? ⟨g, 7, none⟩ = some (.int .i64 s1_7) ∧ w'.cell? ⟨g, 8, none⟩ = some (.int .i64 s1_8) ∧ w'.cell? ⟨g, 9, none⟩ = some (.bool s1_9) ∧ w'.cell? ⟨g, 10, none⟩ = some (.int .i64 s1_10)) (ds := []) #[false, false, false, false, false, false, false, false, false, false, false, false, false, false, false, false] (by kernel_rfl) rfl rfl ⟨(blk_cell (Aside0.mk (HI1.out).1).out 0).trans rfl, (blk_cell (Aside0.mk (HI1.out).1).out 1).trans rfl, (blk_cell (Aside0.mk (HI1.out).1).out 2).trans rfl, (blk_cell (Aside0.mk (HI1.out).1).out 3).trans rfl, (blk_cell (Aside0.mk (HI1.out).1).out 4).trans rfl, (blk_cell (Aside0.mk (HI1.out).1).out 5).trans rfl, (blk_cell (Aside0.mk (HI1.out).1).out 6).trans rfl, (blk_cell (Aside0.mk (HI1.out).1).out 7).trans rfl, (blk_cell (Aside0.mk (HI1.out).1).out 8).trans rfl, (blk_cell (Aside0.mk (HI1.out).1).out 9).trans rfl, (blk_cell (Aside0.mk (HI1.out).1).out 10).trans rfl⟩ (fun hHeld => ?_); refine with_tabW spec_l06Step.tab20 spec_l06Step.bits20 (fun HT_ HW_ => ?_); generalize w.drew = w39 at HO0 HI1 HK HB hHeld ⊢; refine pV 0 89 (OB 16 1) ?_; refine pV 1 90 (OB 16 3) ?_; refine pV 2 91 (OB 16 7) ?_; refine pV 3 92 (OB 16 15) ?_; refine pV 5 94 (OB 16 47) ?_; refine pV 6 95 (OB 16 111) ?_; refine pV 7 96 (OB 16 239) ?_; refine pV 10 99 (OB 16 1263) ?_; refine pV 11 100 (OB 16 3311) ?_; refine pV 12 101 (OB 16 7407) ?_; refine pT 4 93 (OB 16 7423) ?_; refine pT 8 97 (OB 16 7679) ?_; refine pV 9 98 (OB 16 8191) ?_; refine pT 13 102 (OB 16 16383) ?_; refine pV 14 103 (OB 16 32767) ?_; refine one_ (i := 15) (N := some 104) (OB 16 65535) rfl rfl (one_of HT_.out (by kernel_rfl)) (by decide) (fun K hK => ?_); refine goes_ Try.func80 (by kernel_rfl) rfl #[.slice Ao40 l0.length co40, .int .i64 s1_5, .int .i64 (wrap64 (2 * s1_6)), .int .i64 (wrap64 (2 * s1_3))] (by rfl) rfl rfl (MA) ?_
  with_reducible refine (spec_l06Swap.calls (fun k_ => some k_ = (.slice Ao40 l0.length co40 : Value).ownBlock) (.slice Ao40 l0.length co40) l0 s1_5 (wrap64 (2 * s1_6)) (wrap64 (2 * s1_3)) false t246 w0 _ ?side1 ?side2 A31.out).mono ?_
  (case side1 => exact spec_l06Step.k1 HB.out)
  (case side2 => exact Kd.R_tight rfl HO0.out)
  rintro e w41 ⟨rfl, hy0, hb, hkp⟩; refine ⟨_, rfl, ?_⟩; have n0_ := Aside0.mk (IsS46.kept (spec_l06Step.k0 HI1.out) hkp (fun hs_ => (fun e_ => (IsS46.own_ne HI1.out HO0.out (by decide)) e_) hs_)); have n1_ := Aside0.mk (Kd.R_reok rfl hy0 (fun k_ e_ => HO0.out.1 k_ e_)); have n2_ := Aside0.mk (Kept.then_ (S := (fun k_ => (P0_ k_) ∨ k_ = g)) (spec_l06Step.k2 HK.out) hkp (fun k_ hs_ => (fun e_ => Or.imp_left Or.inl ((HO0.out.1 k_ e_.symm))) hs_)); have n3_ := Aside0.mk (hb); clear HI1; clear HO0; clear HK; clear HB; have HI1 := n0_; have HO0 := n1_; have HK := n2_; have HB := n3_; clear n0_ n1_ n2_ n3_
  (try clear hb)
  (try clear hkp)
  (try clear hy0)
  refine hK.out _ _ ⟨(blk_cell (Aside0.mk (HI1.out).1).out 0).trans rfl, (blk_cell (Aside0.mk (HI1.out).1).out 1).trans rfl, (blk_cell (Aside0.mk (HI1.out).1).out 2).trans rfl, (blk_cell (Aside0.mk (HI1.out).1).out 3).trans rfl, (blk_cell (Aside0.mk (HI1.out).1).out 4).trans rfl, (blk_cell (Aside0.mk (HI1.out).1).out 5).trans rfl, (blk_cell (Aside0.mk (HI1.out).1).out 6).trans rfl, (blk_cell (Aside0.mk (HI1.out).1).out 7).trans rfl, (blk_cell (Aside0.mk (HI1.out).1).out 8).trans rfl, (blk_cell (Aside0.mk (HI1.out).1).out 9).trans rfl, (blk_cell (Aside0.mk (HI1.out).1).out 10).trans rfl⟩ (fun hHeld => ?_); clear hK K; refine norm_ (a' := ?_) ?_ ?_; rotate_left
  ·
   show Act.put _ (some 104) _ = _; simp only [Act.put, zA, zB, zC, i64_w, i32_w]; rfl
  refine done_ (done_of HT_.out (by kernel_rfl)) ?_; obtain ⟨HGz42, hgz42⟩ := HI1.out; have hcz42_0 := cellS46_0 HGz42; have hcz42_1 := cellS46_1 HGz42; have hcz42_2 := cellS46_2 HGz42; have hcz42_3 := cellS46_3 HGz42; have hcz42_4 := cellS46_4 HGz42; have hcz42_5 := cellS46_5 HGz42; have hcz42_6 := cellS46_6 HGz42; have hcz42_7 := cellS46_7 HGz42; have hcz42_8 := cellS46_8 HGz42; have hcz42_9 := cellS46_9 HGz42; have hcz42_10 := cellS46_10 HGz42; have hfz42_0 := blk_frozen HGz42 0; have hfz42_1 := blk_frozen HGz42 1; have hfz42_2 := blk_frozen HGz42 2; have hfz42_3 := blk_frozen HGz42 3; have hfz42_4 := blk_frozen HGz42 4; have hfz42_5 := blk_frozen HGz42 5; have hfz42_6 := blk_frozen HGz42 6; have hfz42_7 := blk_frozen HGz42 7; have hfz42_8 := blk_frozen HGz42 8; have hfz42_9 := blk_frozen HGz42 9; have hfz42_10 := blk_frozen HGz42 10; clear HGz42 hgz42
  try go_wp2
  first | go_end0 | ((try simp only [Exit.inBlock, Exit.then]); refine bodyPost_ret (results_none rfl _ _ _) rfl ?_)
  exact ⟨EE, spec_l06Step.k0 HI1.out, by (with_reducible repeat (first | apply r1 | apply r2 | apply r3)); exact Kd.R_mono (Kd.R_far (p := ⟨g, 4, none⟩) (IsS46.apart HI1.out HO0.out (by decide)) (fun _ hk => hk.2) (.int .i64 0)) (fun _ hk => hk.1), spec_l06Step.k1 HB.out, spec_l06Step.k2 HK.out⟩
 rw [if_neg c30] at H
 have c30b0 : (s1_4 == 4) = false := beq_eq_false_iff_ne.mpr c30
 have c30b1 : (s1_4 != 4) = true := bne_iff_ne.mpr c30
 by_cases c43 : s1_4 = 5; rotate_left
 ·
  rw [if_neg c43] at H; have c43b0 : (s1_4 == 5) = false := beq_eq_false_iff_ne.mpr c43; have c43b1 : (s1_4 != 5) = true := bne_iff_ne.mpr c43; replace H := Option.bind_eq_some_iff.mp H; obtain ⟨⟨t249, t250⟩, A570, H⟩ := H; replace H : (some (s1_0, s1_1, s1_2, s1_3, s1_4, s1_5, s1_6, s1_7, s1_8, true, 1, t250)) = some (r1, r2, r3, r4, r5, r6, r7, r8, r9, r10, r11, r12) := H; have A57 := Aside0.mk A570; clear A570; simp only [Option.some.injEq, Prod.mk.injEq] at H; obtain ⟨rfl, rfl, rfl, rfl, rfl, rfl, rfl, rfl, rfl, rfl, rfl, rfl⟩ := H; obtain ⟨HGz58, hgz58⟩ := HI1.out; have hcz58_0 := cellS46_0 HGz58; have hcz58_1 := cellS46_1 HGz58; have hcz58_2 := cellS46_2 HGz58; have hcz58_3 := cellS46_3 HGz58; have hcz58_4 := cellS46_4 HGz58; have hcz58_5 := cellS46_5 HGz58; have hcz58_6 := cellS46_6 HGz58; have hcz58_7 := cellS46_7 HGz58; have hcz58_8 := cellS46_8 HGz58; have hcz58_9 := cellS46_9 HGz58; have hcz58_10 := cellS46_10 HGz58; have hfz58_0 := blk_frozen HGz58 0; have hfz58_1 := blk_frozen HGz58 1; have hfz58_2 := blk_frozen HGz58 2; have hfz58_3 := blk_frozen HGz58 3; have hfz58_4 := blk_frozen HGz58 4; have hfz58_5 := blk_frozen HGz58 5; have hfz58_6 := blk_frozen HGz58 6; have hfz58_7 := blk_frozen HGz58 7; have hfz58_8 := blk_frozen HGz58 8; have hfz58_9 := blk_frozen HGz58 9; have hfz58_10 := blk_frozen HGz58 10; clear HGz58 hgz58
  go_enter Try.func68, Try.ntmps68
  try go_wp2
  have n0_ := Aside0.mk (Kd.R_drew HO0.out); have n1_ := Aside0.mk (IsS46.drew HI1.out); have n2_ := Aside0.mk (Kept.drew HK.out); have n3_ := Aside0.mk (below_drew1 HB.out); clear HO0; clear HI1; clear HK; clear HB; have HO0 := n0_; have HI1 := n1_; have HK := n2_; have HB := n3_; clear n0_ n1_ n2_ n3_; obtain ⟨Ao60, co60, eo60⟩ := Kd.R_slice HO0.out
  (first | subst eo60 | (injection eo60 with f1_ f2_ f3_; have f4_ := f1_.symm; have f5_ := f3_.symm; clear f1_ f2_ f3_; subst f4_; subst f5_))
  refine start_ (n := 16) (S := fun w' => w'.cell? ⟨g, 0, none⟩ = some (.int .i64 s1_0) ∧ w'.cell? ⟨g, 1, none⟩ = some (.int .i64 s1_1) ∧ w'.cell? ⟨g, 2, none⟩ = some (.int .i64 s1_2) ∧ w'.cell? ⟨g, 3, none⟩ = some (.int .i64 s1_3) ∧ w'.cell? ⟨g, 4, none⟩ = some (.int .i64 s1_4) ∧ w'.cell? ⟨g, 5, none⟩ = some (.int .i64 s1_5) ∧ w'.cell? ⟨g, 6, none⟩ = some (.int .i64 s1_6) ∧ w'.cell? ⟨g, 7, none⟩ = some (.int .i64 s1_7) ∧ w'.cell? ⟨g, 8, none⟩ = some (.int .i64 s1_8) ∧ w'.cell? ⟨g, 9, none⟩ = some (.bool s1_9) ∧ w'.cell? ⟨g, 10, none⟩ = some (.int .i64 s1_10)) (ds := []) #[false, false, false, false, false, false, false, false, false, false, false, false, false, false, false, false] (by kernel_rfl) rfl rfl ⟨(blk_cell (Aside0.mk (HI1.out).1).out 0).trans rfl, (blk_cell (Aside0.mk (HI1.out).1).out 1).trans rfl, (blk_cell (Aside0.mk (HI1.out).1).out 2).trans rfl, (blk_cell (Aside0.mk (HI1.out).1).out 3).trans rfl, (blk_cell (Aside0.mk (HI1.out).1).out 4).trans rfl, (blk_cell (Aside0.mk (HI1.out).1).out 5).trans rfl, (blk_cell (Aside0.mk (HI1.out).1).out 6).trans rfl, (blk_cell (Aside0.mk (HI1.out).1).out 7).trans rfl, (blk_cell (Aside0.mk (HI1.out).1).out 8).trans rfl, (blk_cell (Aside0.mk (HI1.out).1).out 9).trans rfl, (blk_cell (Aside0.mk (HI1.out).1).out 10).trans rfl⟩ (fun hHeld => ?_); refine with_tabW spec_l06Step.tab1 spec_l06Step.bits1 (fun HT_ HW_ => ?_); generalize w.drew = w59 at HO0 HI1 HK HB hHeld ⊢; refine pV 0 9 (OB 16 1) ?_; refine pV 1 10 (OB 16 3) ?_; refine pV 2 11 (OB 16 7) ?_; refine pV 3 12 (OB 16 15) ?_; refine pV 5 14 (OB 16 47) ?_; refine pV 6 15 (OB 16 111) ?_; refine pV 7 16 (OB 16 239) ?_; refine pV 10 19 (OB 16 1263) ?_; refine pV 11 20 (OB 16 3311) ?_; refine pV 12 21 (OB 16 7407) ?_; refine pT 4 13 (OB 16 7423) ?_; refine pT 8 17 (OB 16 7679) ?_; refine pV 9 18 (OB 16 8191) ?_; refine pT 13 22 (OB 16 16383) ?_; refine pV 14 23 (OB 16 32767) ?_; refine one_ (i := 15) (N := some 24) (OB 16 65535) rfl rfl (one_of HT_.out (by kernel_rfl)) (by decide) (fun K hK => ?_); refine goes_ Try.func80 (by kernel_rfl) rfl #[.slice Ao60 l0.length co60, .int .i64 s1_5, .int .i64 (wrap64 (2 * s1_6)), .int .i64 (wrap64 (2 * s1_7))] (by rfl) rfl rfl (MA) ?_
  with_reducible refine (spec_l06Swap.calls (fun k_ => some k_ = (.slice Ao60 l0.length co60 : Value).ownBlock) (.slice Ao60 l0.length co60) l0 s1_5 (wrap64 (2 * s1_6)) (wrap64 (2 * s1_7)) t249 t250 w0 _ ?side1 ?side2 A57.out).mono ?_
  (case side1 => exact spec_l06Step.k1 HB.out)
  (case side2 => exact Kd.R_tight rfl HO0.out)
  rintro e w61 ⟨rfl, hy0, hb, hkp⟩; refine ⟨_, rfl, ?_⟩; have n0_ := Aside0.mk (IsS46.kept (spec_l06Step.k0 HI1.out) hkp (fun hs_ => (fun e_ => (IsS46.own_ne HI1.out HO0.out (by decide)) e_) hs_)); have n1_ := Aside0.mk (Kd.R_reok rfl hy0 (fun k_ e_ => HO0.out.1 k_ e_)); have n2_ := Aside0.mk (Kept.then_ (S := (fun k_ => (P0_ k_) ∨ k_ = g)) (spec_l06Step.k2 HK.out) hkp (fun k_ hs_ => (fun e_ => Or.imp_left Or.inl ((HO0.out.1 k_ e_.symm))) hs_)); have n3_ := Aside0.mk (hb); clear HI1; clear HO0; clear HK; clear HB; have HI1 := n0_; have HO0 := n1_; have HK := n2_; have HB := n3_; clear n0_ n1_ n2_ n3_
  (try clear hb)
  (try clear hkp)
  (try clear hy0)
  refine hK.out _ _ ⟨(blk_cell (Aside0.mk (HI1.out).1).out 0).trans rfl, (blk_cell (Aside0.mk (HI1.out).1).out 1).trans rfl, (blk_cell (Aside0.mk (HI1.out).1).out 2).trans rfl, (blk_cell (Aside0.mk (HI1.out).1).out 3).trans rfl, (blk_cell (Aside0.mk (HI1.out).1).out 4).trans rfl, (blk_cell (Aside0.mk (HI1.out).1).out 5).trans rfl, (blk_cell (Aside0.mk (HI1.out).1).out 6).trans rfl, (blk_cell (Aside0.mk (HI1.out).1).out 7).trans rfl, (blk_cell (Aside0.mk (HI1.out).1).out 8).trans rfl, (blk_cell (Aside0.mk (HI1.out).1).out 9).trans rfl, (blk_cell (Aside0.mk (HI1.out).1).out 10).trans rfl⟩ (fun hHeld => ?_); clear hK K; refine norm_ (a' := ?_) ?_ ?_; rotate_left
  ·
   show Act.put _ (some 24) _ = _; simp only [Act.put, zA, zB, zC, i64_w, i32_w]; rfl
  refine done_ (done_of HT_.out (by kernel_rfl)) ?_; obtain ⟨HGz62, hgz62⟩ := HI1.out; have hcz62_0 := cellS46_0 HGz62; have hcz62_1 := cellS46_1 HGz62; have hcz62_2 := cellS46_2 HGz62; have hcz62_3 := cellS46_3 HGz62; have hcz62_4 := cellS46_4 HGz62; have hcz62_5 := cellS46_5 HGz62; have hcz62_6 := cellS46_6 HGz62; have hcz62_7 := cellS46_7 HGz62; have hcz62_8 := cellS46_8 HGz62; have hcz62_9 := cellS46_9 HGz62; have hcz62_10 := cellS46_10 HGz62; have hfz62_0 := blk_frozen HGz62 0; have hfz62_1 := blk_frozen HGz62 1; have hfz62_2 := blk_frozen HGz62 2; have hfz62_3 := blk_frozen HGz62 3; have hfz62_4 := blk_frozen HGz62 4; have hfz62_5 := blk_frozen HGz62 5; have hfz62_6 := blk_frozen HGz62 6; have hfz62_7 := blk_frozen HGz62 7; have hfz62_8 := blk_frozen HGz62 8; have hfz62_9 := blk_frozen HGz62 9; have hfz62_10 := blk_frozen HGz62 10; clear HGz62 hgz62
  try go_wp2
  first | go_end0 | ((try simp only [Exit.inBlock, Exit.then]); refine bodyPost_ret (results_none rfl _ _ _) rfl ?_)
  exact ⟨EE, spec_l06Step.k0 HI1.out, by (with_reducible repeat (first | apply r1 | apply r2 | apply r3)); exact Kd.R_mono (Kd.R_far (p := ⟨g, 10, none⟩) (Kd.R_far (p := ⟨g, 9, none⟩) (IsS46.apart HI1.out HO0.out (by decide)) (fun _ hk => hk.2) (.bool true)) (fun _ hk => hk.2) (.int .i64 1)) (fun _ hk => hk.1), spec_l06Step.k1 HB.out, spec_l06Step.k2 HK.out⟩
 rw [if_pos c43] at H
 have c43b0 : (s1_4 == 5) = true := beq_iff_eq.mpr c43
 have c43b1 : (s1_4 != 5) = false := bne_eq_false_iff_eq.mpr c43
 clear c43
 replace H := Option.bind_eq_some_iff.mp H
 obtain ⟨⟨t247, t248⟩, A440, H⟩ := H
 replace H : (if t247 = true then (some (s1_0, s1_1, s1_2, s1_3, 6, s1_5, s1_6, s1_7, s1_8, s1_9, s1_10, t248)) else (some (s1_0, s1_1, s1_2, s1_3, 0, s1_5, s1_6, s1_7, s1_8, s1_9, s1_10, t248))) = some (r1, r2, r3, r4, r5, r6, r7, r8, r9, r10, r11, r12) := H
 have A44 := Aside0.mk A440
 clear A440
 by_cases c45 : t247 = true; rotate_left
 ·
  replace c45 := Bool.eq_false_iff.mpr c45; subst c45
  have H1 : (some (s1_0, s1_1, s1_2, s1_3, 0, s1_5, s1_6, s1_7, s1_8, s1_9, s1_10, t248)) = some (r1, r2, r3, r4, r5, r6, r7, r8, r9, r10, r11, r12) := by rw [if_neg (show ¬ (false = true) by decide)] at H; exact H
  clear H; have H := H1; clear H1; simp only [Option.some.injEq, Prod.mk.injEq] at H; obtain ⟨rfl, rfl, rfl, rfl, rfl, rfl, rfl, rfl, rfl, rfl, rfl, rfl⟩ := H; obtain ⟨HGz52, hgz52⟩ := HI1.out; have hcz52_0 := cellS46_0 HGz52; have hcz52_1 := cellS46_1 HGz52; have hcz52_2 := cellS46_2 HGz52; have hcz52_3 := cellS46_3 HGz52; have hcz52_4 := cellS46_4 HGz52; have hcz52_5 := cellS46_5 HGz52; have hcz52_6 := cellS46_6 HGz52; have hcz52_7 := cellS46_7 HGz52; have hcz52_8 := cellS46_8 HGz52; have hcz52_9 := cellS46_9 HGz52; have hcz52_10 := cellS46_10 HGz52; have hfz52_0 := blk_frozen HGz52 0; have hfz52_1 := blk_frozen HGz52 1; have hfz52_2 := blk_frozen HGz52 2; have hfz52_3 := blk_frozen HGz52 3; have hfz52_4 := blk_frozen HGz52 4; have hfz52_5 := blk_frozen HGz52 5; have hfz52_6 := blk_frozen HGz52 6; have hfz52_7 := blk_frozen HGz52 7; have hfz52_8 := blk_frozen HGz52 8; have hfz52_9 := blk_frozen HGz52 9; have hfz52_10 := blk_frozen HGz52 10; clear HGz52 hgz52
  go_enter Try.func68, Try.ntmps68
  try go_wp2
  have n0_ : Aside0 (Kd.R (Kd.int .i64) 3 (w.setCell ⟨g, 4, none⟩ (.int .i64 0)) w0.heap.size (fun k_ => (P0_ k_ ∨ wv.heap.size ≤ k_)) u9000_ l0) := ⟨by (with_reducible repeat (first | apply r1 | apply r2 | apply r3)); exact Kd.R_mono (Kd.R_far (p := ⟨g, 4, none⟩) (IsS46.apart HI1.out HO0.out (by decide)) (fun _ hk => hk.2) (.int .i64 0)) (fun _ hk => hk.1)⟩; have n1_ : Aside0 (IsS46 w0 (w.setCell ⟨g, 4, none⟩ (.int .i64 0)) g s1_0 s1_1 s1_2 s1_3 0 s1_5 s1_6 s1_7 s1_8 s1_9 s1_10) := ⟨spec_l06Step.k0 HI1.out⟩; have n2_ : Aside0 (Kept wv (w.setCell ⟨g, 4, none⟩ (.int .i64 0)) (fun k_ => (P0_ k_) ∨ k_ = g)) := ⟨spec_l06Step.k2 HK.out⟩; have n3_ : Aside0 (Below w0.heap.size w0 (w.setCell ⟨g, 4, none⟩ (.int .i64 0))) := ⟨spec_l06Step.k1 HB.out⟩
  (try clear HO0)
  (try clear HI1)
  (try clear HK)
  (try clear HB)
  generalize (w.setCell ⟨g, 4, none⟩ (.int .i64 0)) = w53 at n0_ n1_ n2_ n3_ ⊢; have HO0 := n0_; have HI1 := n1_; have HK := n2_; have HB := n3_; clear n0_ n1_ n2_ n3_; have n0_ := Aside0.mk (Kd.R_drew HO0.out); have n1_ := Aside0.mk (IsS46.drew HI1.out); have n2_ := Aside0.mk (Kept.drew HK.out); have n3_ := Aside0.mk (below_drew1 HB.out); clear HO0; clear HI1; clear HK; clear HB; have HO0 := n0_; have HI1 := n1_; have HK := n2_; have HB := n3_; clear n0_ n1_ n2_ n3_; obtain ⟨Ao55, co55, eo55⟩ := Kd.R_slice HO0.out
  (first | subst eo55 | (injection eo55 with f1_ f2_ f3_; have f4_ := f1_.symm; have f5_ := f3_.symm; clear f1_ f2_ f3_; subst f4_; subst f5_))
  refine start_ (n := 17) (S := fun w' => w'.cell? ⟨g, 0, none⟩ = some (.int .i64 s1_0) ∧ w'.cell? ⟨g, 1, none⟩ = some (.int .i64 s1_1) ∧ w'.cell? ⟨g, 2, none⟩ = some (.int .i64 s1_2) ∧ w'.cell? ⟨g, 3, none⟩ = some (.int .i64 s1_3) ∧ w'.cell? ⟨g, 4, none⟩ = some (.int .i64 0) ∧ w'.cell? ⟨g, 5, none⟩ = some (.int .i64 s1_5) ∧ w'.cell? ⟨g, 6, none⟩ = some (.int .i64 s1_6) ∧ w'.cell? ⟨g, 7, none⟩ = some (.int .i64 s1_7) ∧ w'.cell? ⟨g, 8, none⟩ = some (.int .i64 s1_8) ∧ w'.cell? ⟨g, 9, none⟩ = some (.bool s1_9) ∧ w'.cell? ⟨g, 10, none⟩ = some (.int .i64 s1_10)) (ds := []) #[false, false, false, false, false, false, false, false, false, false, false, false, false, false, false, false, false] (by kernel_rfl) rfl rfl ⟨(blk_cell (Aside0.mk (HI1.out).1).out 0).trans rfl, (blk_cell (Aside0.mk (HI1.out).1).out 1).trans rfl, (blk_cell (Aside0.mk (HI1.out).1).out 2).trans rfl, (blk_cell (Aside0.mk (HI1.out).1).out 3).trans rfl, (blk_cell (Aside0.mk (HI1.out).1).out 4).trans rfl, (blk_cell (Aside0.mk (HI1.out).1).out 5).trans rfl, (blk_cell (Aside0.mk (HI1.out).1).out 6).trans rfl, (blk_cell (Aside0.mk (HI1.out).1).out 7).trans rfl, (blk_cell (Aside0.mk (HI1.out).1).out 8).trans rfl, (blk_cell (Aside0.mk (HI1.out).1).out 9).trans rfl, (blk_cell (Aside0.mk (HI1.out).1).out 10).trans rfl⟩ (fun hHeld => ?_); refine with_tabW spec_l06Step.tab26 spec_l06Step.bits26 (fun HT_ HW_ => ?_); generalize w53.drew = w54 at HO0 HI1 HK HB hHeld ⊢; refine pV 0 119 (OB 17 1) ?_; refine pV 1 120 (OB 17 3) ?_; refine pV 2 121 (OB 17 7) ?_; refine pV 3 122 (OB 17 15) ?_; refine pV 5 124 (OB 17 47) ?_; refine pV 6 125 (OB 17 111) ?_; refine pV 7 126 (OB 17 239) ?_; refine pV 10 129 (OB 17 1263) ?_; refine pV 11 130 (OB 17 3311) ?_; refine pV 12 131 (OB 17 7407) ?_; refine pT 4 123 (OB 17 7423) ?_; refine pT 8 127 (OB 17 7679) ?_; refine pV 9 128 (OB 17 8191) ?_; refine pT 13 132 (OB 17 16383) ?_; refine pV 14 133 (OB 17 32767) ?_; refine pV 15 134 (OB 17 65535) ?_; refine one_ (i := 16) (N := some 135) (OB 17 131071) rfl rfl (one_of HT_.out (by kernel_rfl)) (by decide) (fun K hK => ?_); refine goes_ Try.func80 (by kernel_rfl) rfl #[.slice Ao55 l0.length co55, .int .i64 s1_6, .int .i64 (wrap64 (2 * s1_7)), .int .i64 (wrap64 ((wrap64 (2 * s1_7)) + 1))] (by rfl) rfl rfl (MA) ?_
  with_reducible refine (spec_l06Swap.calls (fun k_ => some k_ = (.slice Ao55 l0.length co55 : Value).ownBlock) (.slice Ao55 l0.length co55) l0 s1_6 (wrap64 (2 * s1_7)) (wrap64 ((wrap64 (2 * s1_7)) + 1)) false t248 w0 _ ?side1 ?side2 A44.out).mono ?_
  (case side1 => exact spec_l06Step.k1 HB.out)
  (case side2 => exact Kd.R_tight rfl HO0.out)
  rintro e w56 ⟨rfl, hy0, hb, hkp⟩; refine ⟨_, rfl, ?_⟩; have n0_ := Aside0.mk (IsS46.kept (spec_l06Step.k0 HI1.out) hkp (fun hs_ => (fun e_ => (IsS46.own_ne HI1.out HO0.out (by decide)) e_) hs_)); have n1_ := Aside0.mk (Kd.R_reok rfl hy0 (fun k_ e_ => HO0.out.1 k_ e_)); have n2_ := Aside0.mk (Kept.then_ (S := (fun k_ => (P0_ k_) ∨ k_ = g)) (spec_l06Step.k2 HK.out) hkp (fun k_ hs_ => (fun e_ => Or.imp_left Or.inl ((HO0.out.1 k_ e_.symm))) hs_)); have n3_ := Aside0.mk (hb); clear HI1; clear HO0; clear HK; clear HB; have HI1 := n0_; have HO0 := n1_; have HK := n2_; have HB := n3_; clear n0_ n1_ n2_ n3_
  (try clear hb)
  (try clear hkp)
  (try clear hy0)
  refine hK.out _ _ ⟨(blk_cell (Aside0.mk (HI1.out).1).out 0).trans rfl, (blk_cell (Aside0.mk (HI1.out).1).out 1).trans rfl, (blk_cell (Aside0.mk (HI1.out).1).out 2).trans rfl, (blk_cell (Aside0.mk (HI1.out).1).out 3).trans rfl, (blk_cell (Aside0.mk (HI1.out).1).out 4).trans rfl, (blk_cell (Aside0.mk (HI1.out).1).out 5).trans rfl, (blk_cell (Aside0.mk (HI1.out).1).out 6).trans rfl, (blk_cell (Aside0.mk (HI1.out).1).out 7).trans rfl, (blk_cell (Aside0.mk (HI1.out).1).out 8).trans rfl, (blk_cell (Aside0.mk (HI1.out).1).out 9).trans rfl, (blk_cell (Aside0.mk (HI1.out).1).out 10).trans rfl⟩ (fun hHeld => ?_); clear hK K; refine norm_ (a' := ?_) ?_ ?_; rotate_left
  ·
   show Act.put _ (some 135) _ = _; simp only [Act.put, zA, zB, zC, i64_w, i32_w]; rfl
  refine done_ (done_of HT_.out (by kernel_rfl)) ?_
  try go_wp2
  first | go_end0 | ((try simp only [Exit.inBlock, Exit.then]); refine bodyPost_ret (results_none rfl _ _ _) rfl ?_)
  exact ⟨EE, spec_l06Step.k0 HI1.out, RQ HO0.out, spec_l06Step.k1 HB.out, spec_l06Step.k2 HK.out⟩
 subst c45
 have H1 : (some (s1_0, s1_1, s1_2, s1_3, 6, s1_5, s1_6, s1_7, s1_8, s1_9, s1_10, t248)) = some (r1, r2, r3, r4, r5, r6, r7, r8, r9, r10, r11, r12) := by rw [if_pos rfl] at H; exact H
 clear H
 have H := H1
 clear H1
 simp only [Option.some.injEq, Prod.mk.injEq] at H
 obtain ⟨rfl, rfl, rfl, rfl, rfl, rfl, rfl, rfl, rfl, rfl, rfl, rfl⟩ := H
 obtain ⟨HGz46, hgz46⟩ := HI1.out
 have hcz46_0 := cellS46_0 HGz46
 have hcz46_1 := cellS46_1 HGz46
 have hcz46_2 := cellS46_2 HGz46
 have hcz46_3 := cellS46_3 HGz46
 have hcz46_4 := cellS46_4 HGz46
 have hcz46_5 := cellS46_5 HGz46
 have hcz46_6 := cellS46_6 HGz46
 have hcz46_7 := cellS46_7 HGz46
 have hcz46_8 := cellS46_8 HGz46
 have hcz46_9 := cellS46_9 HGz46
 have hcz46_10 := cellS46_10 HGz46
 have hfz46_0 := blk_frozen HGz46 0
 have hfz46_1 := blk_frozen HGz46 1
 have hfz46_2 := blk_frozen HGz46 2
 have hfz46_3 := blk_frozen HGz46 3
 have hfz46_4 := blk_frozen HGz46 4
 have hfz46_5 := blk_frozen HGz46 5
 have hfz46_6 := blk_frozen HGz46 6
 have hfz46_7 := blk_frozen HGz46 7
 have hfz46_8 := blk_frozen HGz46 8
 have hfz46_9 := blk_frozen HGz46 9
 have hfz46_10 := blk_frozen HGz46 10
 clear HGz46 hgz46
 go_enter Try.func68, Try.ntmps68
 try go_wp2
 have n0_ : Aside0 (Kd.R (Kd.int .i64) 3 (w.setCell ⟨g, 4, none⟩ (.int .i64 0)) w0.heap.size (fun k_ => (P0_ k_ ∨ wv.heap.size ≤ k_)) u9000_ l0) := ⟨by (with_reducible repeat (first | apply r1 | apply r2 | apply r3)); exact Kd.R_mono (Kd.R_far (p := ⟨g, 4, none⟩) (IsS46.apart HI1.out HO0.out (by decide)) (fun _ hk => hk.2) (.int .i64 0)) (fun _ hk => hk.1)⟩
 have n1_ : Aside0 (IsS46 w0 (w.setCell ⟨g, 4, none⟩ (.int .i64 0)) g s1_0 s1_1 s1_2 s1_3 0 s1_5 s1_6 s1_7 s1_8 s1_9 s1_10) := ⟨spec_l06Step.k0 HI1.out⟩
 have n2_ : Aside0 (Kept wv (w.setCell ⟨g, 4, none⟩ (.int .i64 0)) (fun k_ => (P0_ k_) ∨ k_ = g)) := ⟨spec_l06Step.k2 HK.out⟩
 have n3_ : Aside0 (Below w0.heap.size w0 (w.setCell ⟨g, 4, none⟩ (.int .i64 0))) := ⟨spec_l06Step.k1 HB.out⟩
 (try clear HO0)
 (try clear HI1)
 (try clear HK)
 (try clear HB)
 generalize (w.setCell ⟨g, 4, none⟩ (.int .i64 0)) = w47 at n0_ n1_ n2_ n3_ ⊢
 have HO0 := n0_
 have HI1 := n1_
 have HK := n2_
 have HB := n3_
 clear n0_ n1_ n2_ n3_
 have n0_ := Aside0.mk (Kd.R_drew HO0.out)
 have n1_ := Aside0.mk (IsS46.drew HI1.out)
 have n2_ := Aside0.mk (Kept.drew HK.out)
 have n3_ := Aside0.mk (below_drew1 HB.out)
 clear HO0
 clear HI1
 clear HK
 clear HB
 have HO0 := n0_
 have HI1 := n1_
 have HK := n2_
 have HB := n3_
 clear n0_ n1_ n2_ n3_
 obtain ⟨Ao49, co49, eo49⟩ := Kd.R_slice HO0.out
 (first | subst eo49 | (injection eo49 with f1_ f2_ f3_; have f4_ := f1_.symm; have f5_ := f3_.symm; clear f1_ f2_ f3_; subst f4_; subst f5_))
 refine start_ (n := 17) (S := fun w' => w'.cell? ⟨g, 0, none⟩ = some (.int .i64 s1_0) ∧ w'.cell? ⟨g, 1, none⟩ = some (.int .i64 s1_1) ∧ w'.cell? ⟨g, 2, none⟩ = some (.int .i64 s1_2) ∧ w'.cell? ⟨g, 3, none⟩ = some (.int .i64 s1_3) ∧ w'.cell? ⟨g, 4, none⟩ = some (.int .i64 0) ∧ w'.cell? ⟨g, 5, none⟩ = some (.int .i64 s1_5) ∧ w'.cell? ⟨g, 6, none⟩ = some (.int .i64 s1_6) ∧ w'.cell? ⟨g, 7, none⟩ = some (.int .i64 s1_7) ∧ w'.cell? ⟨g, 8, none⟩ = some (.int .i64 s1_8) ∧ w'.cell? ⟨g, 9, none⟩ = some (.bool s1_9) ∧ w'.cell? ⟨g, 10, none⟩ = some (.int .i64 s1_10)) (ds := []) #[false, false, false, false, false, false, false, false, false, false, false, false, false, false, false, false, false] (by kernel_rfl) rfl rfl ⟨(blk_cell (Aside0.mk (HI1.out).1).out 0).trans rfl, (blk_cell (Aside0.mk (HI1.out).1).out 1).trans rfl, (blk_cell (Aside0.mk (HI1.out).1).out 2).trans rfl, (blk_cell (Aside0.mk (HI1.out).1).out 3).trans rfl, (blk_cell (Aside0.mk (HI1.out).1).out 4).trans rfl, (blk_cell (Aside0.mk (HI1.out).1).out 5).trans rfl, (blk_cell (Aside0.mk (HI1.out).1).out 6).trans rfl, (blk_cell (Aside0.mk (HI1.out).1).out 7).trans rfl, (blk_cell (Aside0.mk (HI1.out).1).out 8).trans rfl, (blk_cell (Aside0.mk (HI1.out).1).out 9).trans rfl, (blk_cell (Aside0.mk (HI1.out).1).out 10).trans rfl⟩ (fun hHeld => ?_); refine with_tabW spec_l06Step.tab26 spec_l06Step.bits26 (fun HT_ HW_ => ?_)
 generalize w47.drew = w48 at HO0 HI1 HK HB hHeld ⊢
 refine pV 0 119 (OB 17 1) ?_
 refine pV 1 120 (OB 17 3) ?_
 refine pV 2 121 (OB 17 7) ?_
 refine pV 3 122 (OB 17 15) ?_
 refine pV 5 124 (OB 17 47) ?_
 refine pV 6 125 (OB 17 111) ?_
 refine pV 7 126 (OB 17 239) ?_
 refine pV 10 129 (OB 17 1263) ?_
 refine pV 11 130 (OB 17 3311) ?_
 refine pV 12 131 (OB 17 7407) ?_
 refine pT 4 123 (OB 17 7423) ?_
 refine pT 8 127 (OB 17 7679) ?_
 refine pV 9 128 (OB 17 8191) ?_
 refine pT 13 132 (OB 17 16383) ?_
 refine pV 14 133 (OB 17 32767) ?_
 refine pV 15 134 (OB 17 65535) ?_
 refine one_ (i := 16) (N := some 135) (OB 17 131071) rfl rfl (one_of HT_.out (by kernel_rfl)) (by decide) (fun K hK => ?_)
 refine goes_ Try.func80 (by kernel_rfl) rfl #[.slice Ao49 l0.length co49, .int .i64 s1_6, .int .i64 (wrap64 (2 * s1_7)), .int .i64 (wrap64 ((wrap64 (2 * s1_7)) + 1))] (by rfl) rfl rfl (MA) ?_
 with_reducible refine (spec_l06Swap.calls (fun k_ => some k_ = (.slice Ao49 l0.length co49 : Value).ownBlock) (.slice Ao49 l0.length co49) l0 s1_6 (wrap64 (2 * s1_7)) (wrap64 ((wrap64 (2 * s1_7)) + 1)) true t248 w0 _ ?side1 ?side2 A44.out).mono ?_
 (case side1 => exact spec_l06Step.k1 HB.out)
 (case side2 => exact Kd.R_tight rfl HO0.out)
 rintro e w50 ⟨rfl, hy0, hb, hkp⟩
 refine ⟨_, rfl, ?_⟩
 have n0_ := Aside0.mk (IsS46.kept (spec_l06Step.k0 HI1.out) hkp (fun hs_ => (fun e_ => (IsS46.own_ne HI1.out HO0.out (by decide)) e_) hs_))
 have n1_ := Aside0.mk (Kd.R_reok rfl hy0 (fun k_ e_ => HO0.out.1 k_ e_))
 have n2_ := Aside0.mk (Kept.then_ (S := (fun k_ => (P0_ k_) ∨ k_ = g)) (spec_l06Step.k2 HK.out) hkp (fun k_ hs_ => (fun e_ => Or.imp_left Or.inl ((HO0.out.1 k_ e_.symm))) hs_))
 have n3_ := Aside0.mk (hb)
 clear HI1
 clear HO0
 clear HK
 clear HB
 have HI1 := n0_
 have HO0 := n1_
 have HK := n2_
 have HB := n3_
 clear n0_ n1_ n2_ n3_
 (try clear hb)
 (try clear hkp)
 (try clear hy0)
 refine hK.out _ _ ⟨(blk_cell (Aside0.mk (HI1.out).1).out 0).trans rfl, (blk_cell (Aside0.mk (HI1.out).1).out 1).trans rfl, (blk_cell (Aside0.mk (HI1.out).1).out 2).trans rfl, (blk_cell (Aside0.mk (HI1.out).1).out 3).trans rfl, (blk_cell (Aside0.mk (HI1.out).1).out 4).trans rfl, (blk_cell (Aside0.mk (HI1.out).1).out 5).trans rfl, (blk_cell (Aside0.mk (HI1.out).1).out 6).trans rfl, (blk_cell (Aside0.mk (HI1.out).1).out 7).trans rfl, (blk_cell (Aside0.mk (HI1.out).1).out 8).trans rfl, (blk_cell (Aside0.mk (HI1.out).1).out 9).trans rfl, (blk_cell (Aside0.mk (HI1.out).1).out 10).trans rfl⟩ (fun hHeld => ?_)
 clear hK K
 refine norm_ (a' := ?_) ?_ ?_
 rotate_left
 ·
  show Act.put _ (some 135) _ = _; simp only [Act.put, zA, zB, zC, i64_w, i32_w]; rfl
 refine done_ (done_of HT_.out (by kernel_rfl)) ?_
 obtain ⟨HGz51, hgz51⟩ := HI1.out
 have hcz51_0 := cellS46_0 HGz51
 have hcz51_1 := cellS46_1 HGz51
 have hcz51_2 := cellS46_2 HGz51
 have hcz51_3 := cellS46_3 HGz51
 have hcz51_4 := cellS46_4 HGz51
 have hcz51_5 := cellS46_5 HGz51
 have hcz51_6 := cellS46_6 HGz51
 have hcz51_7 := cellS46_7 HGz51
 have hcz51_8 := cellS46_8 HGz51
 have hcz51_9 := cellS46_9 HGz51
 have hcz51_10 := cellS46_10 HGz51
 have hfz51_0 := blk_frozen HGz51 0
 have hfz51_1 := blk_frozen HGz51 1
 have hfz51_2 := blk_frozen HGz51 2
 have hfz51_3 := blk_frozen HGz51 3
 have hfz51_4 := blk_frozen HGz51 4
 have hfz51_5 := blk_frozen HGz51 5
 have hfz51_6 := blk_frozen HGz51 6
 have hfz51_7 := blk_frozen HGz51 7
 have hfz51_8 := blk_frozen HGz51 8
 have hfz51_9 := blk_frozen HGz51 9
 have hfz51_10 := blk_frozen HGz51 10
 clear HGz51 hgz51
 try go_wp2
 first | go_end0 | ((try simp only [Exit.inBlock, Exit.then]); refine bodyPost_ret (results_none rfl _ _ _) rfl ?_)
 exact ⟨EE, spec_l06Step.k0 HI1.out, by (with_reducible repeat (first | apply r1 | apply r2 | apply r3)); exact Kd.R_mono (Kd.R_far (p := ⟨g, 4, none⟩) (IsS46.apart HI1.out HO0.out (by decide)) (fun _ hk => hk.2) (.int .i64 6)) (fun _ hk => hk.1), spec_l06Step.k1 HB.out, spec_l06Step.k2 HK.out⟩

/-! ### spec_StepTask: function 37 -/
def spec_StepTask.f (k : Nat) (l0 : List Int) (a1_0 : Int) (a1_1 : Int) (a1_2 : Int) (a1_3 : Int) (a1_4 : Int) (a1_5 : Int) (a1_6 : Int) (a1_7 : Int) (a1_8 : Int) (a1_9 : Bool) (a1_10 : Int) : Option (List Int × Int × Int × Int × Int × Int × Int × Int × Int × Int × Bool × Int) := (some (([] : List Int) : List Int)).bind fun y253 => (if y253.length + l0.length < 17592186044416 then ((some (y253 ++ l0 : List Int)).bind fun y256 => (if a1_9 = true then (some (y256, a1_0, a1_1, a1_2, a1_3, a1_4, a1_5, a1_6, a1_7, a1_8, a1_9, a1_10)) else ((spec_TaskOk.f a1_0 a1_1 a1_2 a1_3 a1_4 a1_5 a1_6 a1_7 a1_8 a1_9 a1_10).bind fun t259 => (if t259 = true then (if (l0.length : Int) = 63 then ((spec_CellsOk.f k l0).bind fun t260 => (if t260 = true then ((spec_l06Step.f y256 a1_0 a1_1 a1_2 a1_3 a1_4 a1_5 a1_6 a1_7 a1_8 a1_9 a1_10).bind fun bt261 => (some (bt261.2.2.2.2.2.2.2.2.2.2.2, bt261.1, bt261.2.1, bt261.2.2.1, bt261.2.2.2.1, bt261.2.2.2.2.1, bt261.2.2.2.2.2.1, bt261.2.2.2.2.2.2.1, bt261.2.2.2.2.2.2.2.1, bt261.2.2.2.2.2.2.2.2.1, bt261.2.2.2.2.2.2.2.2.2.1, bt261.2.2.2.2.2.2.2.2.2.2.1))) else (some (y256, a1_0, a1_1, a1_2, a1_3, a1_4, a1_5, a1_6, a1_7, a1_8, a1_9, a1_10)))) else (some (y256, a1_0, a1_1, a1_2, a1_3, a1_4, a1_5, a1_6, a1_7, a1_8, a1_9, a1_10))) else (some (y256, a1_0, a1_1, a1_2, a1_3, a1_4, a1_5, a1_6, a1_7, a1_8, a1_9, a1_10)))))) else (none))
theorem spec_StepTask.mono : ∀ a0 a1 a2 a3 a4 a5 a6 a7 a8 a9 a10 a11 k, LeO (spec_StepTask.f k a0 a1 a2 a3 a4 a5 a6 a7 a8 a9 a10 a11) (spec_StepTask.f (k + 1) a0 a1 a2 a3 a4 a5 a6 a7 a8 a9 a10 a11) := by
 intro a0 a1 a2 a3 a4 a5 a6 a7 a8 a9 a10 a11 k
 unfold spec_StepTask.f
 repeat' first
   | (with_reducible exact spec_CellsOk.mono _ _)
   | (with_reducible exact LeO.refl _)
   | (with_reducible exact LeO.none _)
   | (with_reducible refine LeO.ite ?_ ?_)
   | (with_reducible refine LeO.bind ?_ (fun _ => ?_))
   | exact spec_CellsOk.mono _ _
   | exact LeO.none _
   | refine LeO.ite ?_ ?_
   | refine LeO.bind ?_ (fun _ => ?_)
theorem spec_StepTask.fin {w0 w : World} {gz : Nat} {ok : Nat → Prop} {v : Value} {xs : List Int} (a0 a1 a2 a3 a4 a5 a6 a7 a8 : Int) (a9 : Bool) (a10 : Int) (b : w.heap[gz]? = some (.cells #[.int .i64 0, .int .i64 0, .int .i64 0, .int .i64 0, .int .i64 0, .int .i64 0, .int .i64 0, .int .i64 0, .int .i64 0, .bool false, .int .i64 0] 46 (0, 0))) (hb : Below w0.heap.size w0 w) (hg : w0.heap.size ≤ gz) (hr : Kd.R (Kd.int .i64) 3 w w0.heap.size ok v xs) :
 ((((((((((((w.setCell ⟨gz, 0, none⟩ (.int .i64 a0)).setCell ⟨gz, 1, none⟩ (.int .i64 a1)).setCell ⟨gz, 2, none⟩ (.int .i64 a2)).setCell ⟨gz, 3, none⟩ (.int .i64 a3)).setCell ⟨gz, 4, none⟩ (.int .i64 a4)).setCell ⟨gz, 5, none⟩ (.int .i64 a5)).setCell ⟨gz, 6, none⟩ (.int .i64 a6)).setCell ⟨gz, 7, none⟩ (.int .i64 a7)).setCell ⟨gz, 8, none⟩ (.int .i64 a8)).setCell ⟨gz, 9, none⟩ (.bool a9)).setCell ⟨gz, 10, none⟩ (.int .i64 a10)).drew).heap[gz]? = some (.cells #[.int .i64 a0, .int .i64 a1, .int .i64 a2, .int .i64 a3, .int .i64 a4, .int .i64 a5, .int .i64 a6, .int .i64 a7, .int .i64 a8, .bool a9, .int .i64 a10] 46 (0, 0)) ∧ Kd.R (Kd.int .i64) 3 ((((((((((((w.setCell ⟨gz, 0, none⟩ (.int .i64 a0)).setCell ⟨gz, 1, none⟩ (.int .i64 a1)).setCell ⟨gz, 2, none⟩ (.int .i64 a2)).setCell ⟨gz, 3, none⟩ (.int .i64 a3)).setCell ⟨gz, 4, none⟩ (.int .i64 a4)).setCell ⟨gz, 5, none⟩ (.int .i64 a5)).setCell ⟨gz, 6, none⟩ (.int .i64 a6)).setCell ⟨gz, 7, none⟩ (.int .i64 a7)).setCell ⟨gz, 8, none⟩ (.int .i64 a8)).setCell ⟨gz, 9, none⟩ (.bool a9)).setCell ⟨gz, 10, none⟩ (.int .i64 a10)).drew) w0.heap.size (fun _ => True) v xs ∧ Below w0.heap.size w0 ((((((((((((w.setCell ⟨gz, 0, none⟩ (.int .i64 a0)).setCell ⟨gz, 1, none⟩ (.int .i64 a1)).setCell ⟨gz, 2, none⟩ (.int .i64 a2)).setCell ⟨gz, 3, none⟩ (.int .i64 a3)).setCell ⟨gz, 4, none⟩ (.int .i64 a4)).setCell ⟨gz, 5, none⟩ (.int .i64 a5)).setCell ⟨gz, 6, none⟩ (.int .i64 a6)).setCell ⟨gz, 7, none⟩ (.int .i64 a7)).setCell ⟨gz, 8, none⟩ (.int .i64 a8)).setCell ⟨gz, 9, none⟩ (.bool a9)).setCell ⟨gz, 10, none⟩ (.int .i64 a10)).drew) :=
 ⟨blk_drew (blk_put (cs' := #[.int .i64 a0, .int .i64 a1, .int .i64 a2, .int .i64 a3, .int .i64 a4, .int .i64 a5, .int .i64 a6, .int .i64 a7, .int .i64 a8, .bool a9, .int .i64 a10]) (blk_put (cs' := #[.int .i64 a0, .int .i64 a1, .int .i64 a2, .int .i64 a3, .int .i64 a4, .int .i64 a5, .int .i64 a6, .int .i64 a7, .int .i64 a8, .bool a9, .int .i64 0]) (blk_put (cs' := #[.int .i64 a0, .int .i64 a1, .int .i64 a2, .int .i64 a3, .int .i64 a4, .int .i64 a5, .int .i64 a6, .int .i64 a7, .int .i64 a8, .bool false, .int .i64 0]) (blk_put (cs' := #[.int .i64 a0, .int .i64 a1, .int .i64 a2, .int .i64 a3, .int .i64 a4, .int .i64 a5, .int .i64 a6, .int .i64 a7, .int .i64 0, .bool false, .int .i64 0]) (blk_put (cs' := #[.int .i64 a0, .int .i64 a1, .int .i64 a2, .int .i64 a3, .int .i64 a4, .int .i64 a5, .int .i64 a6, .int .i64 0, .int .i64 0, .bool false, .int .i64 0]) (blk_put (cs' := #[.int .i64 a0, .int .i64 a1, .int .i64 a2, .int .i64 a3, .int .i64 a4, .int .i64 a5, .int .i64 0, .int .i64 0, .int .i64 0, .bool false, .int .i64 0]) (blk_put (cs' := #[.int .i64 a0, .int .i64 a1, .int .i64 a2, .int .i64 a3, .int .i64 a4, .int .i64 0, .int .i64 0, .int .i64 0, .int .i64 0, .bool false, .int .i64 0]) (blk_put (cs' := #[.int .i64 a0, .int .i64 a1, .int .i64 a2, .int .i64 a3, .int .i64 0, .int .i64 0, .int .i64 0, .int .i64 0, .int .i64 0, .bool false, .int .i64 0]) (blk_put (cs' := #[.int .i64 a0, .int .i64 a1, .int .i64 a2, .int .i64 0, .int .i64 0, .int .i64 0, .int .i64 0, .int .i64 0, .int .i64 0, .bool false, .int .i64 0]) (blk_put (cs' := #[.int .i64 a0, .int .i64 a1, .int .i64 0, .int .i64 0, .int .i64 0, .int .i64 0, .int .i64 0, .int .i64 0, .int .i64 0, .bool false, .int .i64 0]) (blk_put (cs' := #[.int .i64 a0, .int .i64 0, .int .i64 0, .int .i64 0, .int .i64 0, .int .i64 0, .int .i64 0, .int .i64 0, .int .i64 0, .bool false, .int .i64 0]) b 0 _ rfl) 1 _ rfl) 2 _ rfl) 3 _ rfl) 4 _ rfl) 5 _ rfl) 6 _ rfl) 7 _ rfl) 8 _ rfl) 9 _ rfl) 10 _ rfl), Kd.R_drew (Kd.R_mono (Kd.R_far (p := ⟨gz, 10, none⟩) (Kd.R_far (p := ⟨gz, 9, none⟩) (Kd.R_far (p := ⟨gz, 8, none⟩) (Kd.R_far (p := ⟨gz, 7, none⟩) (Kd.R_far (p := ⟨gz, 6, none⟩) (Kd.R_far (p := ⟨gz, 5, none⟩) (Kd.R_far (p := ⟨gz, 4, none⟩) (Kd.R_far (p := ⟨gz, 3, none⟩) (Kd.R_far (p := ⟨gz, 2, none⟩) (Kd.R_far (p := ⟨gz, 1, none⟩) (Kd.R_far (p := ⟨gz, 0, none⟩) (Kd.R_types hr b (by decide)) (fun _ hk => hk.2) _) (fun _ hk => hk.2) _) (fun _ hk => hk.2) _) (fun _ hk => hk.2) _) (fun _ hk => hk.2) _) (fun _ hk => hk.2) _) (fun _ hk => hk.2) _) (fun _ hk => hk.2) _) (fun _ hk => hk.2) _) (fun _ hk => hk.2) _) (fun _ hk => hk.2) _) (fun _ _ => trivial)), below_drew1 (below_set (below_set (below_set (below_set (below_set (below_set (below_set (below_set (below_set (below_set (below_set hb hg) hg) hg) hg) hg) hg) hg) hg) hg) hg) hg)⟩
set_option maxHeartbeats 8000000 in
set_option maxRecDepth 100000 in
theorem spec_StepTask.calls (k : Nat) (A0 : Option Addr) (c0 : Nat) (l0 : List Int) (a1_0 : Int) (a1_1 : Int) (a1_2 : Int) (a1_3 : Int) (a1_4 : Int) (a1_5 : Int) (a1_6 : Int) (a1_7 : Int) (a1_8 : Int) (a1_9 : Bool) (a1_10 : Int) (r1 : List Int) (r2 : Int) (r3 : Int) (r4 : Int) (r5 : Int) (r6 : Int) (r7 : Int) (r8 : Int) (r9 : Int) (r10 : Int) (r11 : Bool) (r12 : Int) (w : World) (hr0 : Kd.C (Kd.int .i64) w A0 l0.length l0) (hc0 : l0.length ≤ c0) (h : spec_StepTask.f k l0 a1_0 a1_1 a1_2 a1_3 a1_4 a1_5 a1_6 a1_7 a1_8 a1_9 a1_10 = some (r1, r2, r3, r4, r5, r6, r7, r8, r9, r10, r11, r12)) :
  Calls Try.prog 37 #[.slice A0 l0.length c0, .agg #[.int .i64 a1_0, .int .i64 a1_1, .int .i64 a1_2, .int .i64 a1_3, .int .i64 a1_4, .int .i64 a1_5, .int .i64 a1_6, .int .i64 a1_7, .int .i64 a1_8, .bool a1_9, .int .i64 a1_10]] w fun e w' => ∃ v0_ : Value, e = .returned (.tuple #[v0_, .agg #[.int .i64 r2, .int .i64 r3, .int .i64 r4, .int .i64 r5, .int .i64 r6, .int .i64 r7, .int .i64 r8, .int .i64 r9, .int .i64 r10, .bool r11, .int .i64 r12]]) ∧ Kd.R (Kd.int .i64) 3 w' w.heap.size (fun _ => True) v0_ r1 ∧ Below w.heap.size w w' := by
 have hu46 := Try.underlying46
 have HR0 := Aside0.mk hr0
 have HC0 := Aside0.mk hc0
 clear hr0 hc0
 have HB := Aside0.mk (Below.refl w.heap.size w)
 have H : ((some (([] : List Int) : List Int)).bind fun y253 => (if y253.length + l0.length < 17592186044416 then ((some (y253 ++ l0 : List Int)).bind fun y256 => (if a1_9 = true then (some (y256, a1_0, a1_1, a1_2, a1_3, a1_4, a1_5, a1_6, a1_7, a1_8, a1_9, a1_10)) else ((spec_TaskOk.f a1_0 a1_1 a1_2 a1_3 a1_4 a1_5 a1_6 a1_7 a1_8 a1_9 a1_10).bind fun t259 => (if t259 = true then (if (l0.length : Int) = 63 then ((spec_CellsOk.f k l0).bind fun t260 => (if t260 = true then ((spec_l06Step.f y256 a1_0 a1_1 a1_2 a1_3 a1_4 a1_5 a1_6 a1_7 a1_8 a1_9 a1_10).bind fun bt261 => (some (bt261.2.2.2.2.2.2.2.2.2.2.2, bt261.1, bt261.2.1, bt261.2.2.1, bt261.2.2.2.1, bt261.2.2.2.2.1, bt261.2.2.2.2.2.1, bt261.2.2.2.2.2.2.1, bt261.2.2.2.2.2.2.2.1, bt261.2.2.2.2.2.2.2.2.1, bt261.2.2.2.2.2.2.2.2.2.1, bt261.2.2.2.2.2.2.2.2.2.2.1))) else (some (y256, a1_0, a1_1, a1_2, a1_3, a1_4, a1_5, a1_6, a1_7, a1_8, a1_9, a1_10)))) else (some (y256, a1_0, a1_1, a1_2, a1_3, a1_4, a1_5, a1_6, a1_7, a1_8, a1_9, a1_10))) else (some (y256, a1_0, a1_1, a1_2, a1_3, a1_4, a1_5, a1_6, a1_7, a1_8, a1_9, a1_10)))))) else (none))) = some (r1, r2, r3, r4, r5, r6, r7, r8, r9, r10, r11, r12) := h
 clear h
 obtain ⟨y0, q0, H⟩ := Option.bind_eq_some_iff.1 H
 obtain rfl := Option.some.inj q0
 by_cases hlb : (([] : List Int).length + l0.length < 17592186044416)
 rotate_left
 ·
  rw [if_neg hlb] at H; cases H
 rw [if_pos hlb] at H
 obtain ⟨y, q1, H⟩ := Option.bind_eq_some_iff.1 H
 obtain rfl := Option.some.inj q1
 clear q0 q1
 have HLb := Aside0.mk (show l0.length < 17592186044416 from by simpa using hlb)
 clear hlb
 cases a1_9 with
 | true =>
  rw [if_pos rfl] at H; have H' := Aside0.mk (Option.some.inj H); clear H
  go_enter Try.func37, Try.ntmps37
  go_wp2_with (first | ((with_reducible refine gate_dst (N := 3) rfl ?_); refine bE 3 #[.int .i64 a1_0, .int .i64 a1_1, .int .i64 a1_2, .int .i64 a1_3, .int .i64 a1_4, .int .i64 a1_5, .int .i64 a1_6, .int .i64 a1_7, .int .i64 a1_8, .bool true, .int .i64 a1_10] 46 ?_; intro gb hg w1 hbox hb; have BK1 := Aside0.mk hbox; have HB1 := Aside0.mk hb; have GB : Aside0 (w.heap.size ≤ gb) := ⟨Nat.le_of_eq hg.symm⟩; clear hbox hb hg) | ((with_reducible refine gate_dst (N := 5) rfl ?_); refine bE 5 #[.int .i64 0, .int .i64 0, .int .i64 0, .int .i64 0, .int .i64 0, .int .i64 0, .int .i64 0, .int .i64 0, .int .i64 0, .bool false, .int .i64 0] 46 ?_; intro gz hg w2 hbox hb; have BZ2 := Aside0.mk hbox; have NE := NL BK1.out hg; have BK2 := BB BK1.out hb; have HB2 := Aside0.mk (below_then HB1.out HB1.out.size hb); have GZ : Aside0 (w.heap.size ≤ gz) := ⟨by have := HB1.out.size; omega⟩; clear hbox hb hg) | ((with_reducible refine gate_dst (N := 7) rfl ?_); refine Kd.R_lit (Kd.int .i64) _ 3 ?hg (N := 7) ?hd (xs := ([] : List Int)) (inner := []) (ok := fun _ => True) (okp := fun _ => True) ?hr ?hp (fun _ hk => hk) trivial (Below.refl _ _) (Nat.le_refl _) (by simp) ?_; (case hd => rfl); (case hg => rfl); (case hr => first | (go_simp; done) | (go_simp; rfl)); (case hp => exact (Reps.none _ _)); intro v7 w7 ho7 hb hg_ hnew_; have HO7 := Aside0.mk ho7; have BK7 := BB BK2.out hb; have BZ7 := BB BZ2.out hb; have HB7 := Aside0.mk (below_then HB2.out HB2.out.size hb); have HBx := Aside0.mk hb; clear hb hg_ hnew_ ho7) | (at_builtin; refine Kd.R_append_rows (Kd.int .i64) (w0 := w2) w2.heap.size rfl (.tmp 7) (.tmp 8) 22 3 (.int .i64 0) 8 rfl Try.underlying22 info3 rfl (by decide) (by omega) v7 [] l0 _ _ _ (fun _ => True) (fun _ => False) rfl rfl HO7.out (Kd.C_below HR0.out HB7.out) (fun _ _ h => h) (fun _ h => h.elim) (fun _ _ => trivial) HBx.out HBx.out.size (by have := HLb.out; simp only [List.length_nil]; omega) ?_; intro v0 w3 ho3 hb hgr hat; have HO3 := Aside0.mk (Kd.R_lower ho3 (show w.heap.size ≤ w2.heap.size from HB2.out.size)); have BK3 := Aside0.mk (blk_below BK2.out hb); have BZ3 := Aside0.mk (blk_below BZ2.out hb); have HB3 := Aside0.mk (below_then HB2.out HB2.out.size hb); have x0 : w3.cell? ⟨gb, 0, none⟩ = some (.int .i64 a1_0) := CZ BK3.out 0; have x1 : w3.cell? ⟨gb, 1, none⟩ = some (.int .i64 a1_1) := CZ BK3.out 1; have x2 : w3.cell? ⟨gb, 2, none⟩ = some (.int .i64 a1_2) := CZ BK3.out 2; have x3 : w3.cell? ⟨gb, 3, none⟩ = some (.int .i64 a1_3) := CZ BK3.out 3; have x4 : w3.cell? ⟨gb, 4, none⟩ = some (.int .i64 a1_4) := CZ BK3.out 4; have x5 : w3.cell? ⟨gb, 5, none⟩ = some (.int .i64 a1_5) := CZ BK3.out 5; have x6 : w3.cell? ⟨gb, 6, none⟩ = some (.int .i64 a1_6) := CZ BK3.out 6; have x7 : w3.cell? ⟨gb, 7, none⟩ = some (.int .i64 a1_7) := CZ BK3.out 7; have x8 : w3.cell? ⟨gb, 8, none⟩ = some (.int .i64 a1_8) := CZ BK3.out 8; have x9 : w3.cell? ⟨gb, 9, none⟩ = some (.bool true) := CZ BK3.out 9; have x10 : w3.cell? ⟨gb, 10, none⟩ = some (.int .i64 a1_10) := CZ BK3.out 10; clear ho3 hb hgr hat))
  have z0 : w3.cell? ⟨gz, 0, none⟩ = some (.int .i64 0) := CZ BZ3.out 0; have z1 : w3.cell? ⟨gz, 1, none⟩ = some (.int .i64 0) := CZ BZ3.out 1; have z2 : w3.cell? ⟨gz, 2, none⟩ = some (.int .i64 0) := CZ BZ3.out 2; have z3 : w3.cell? ⟨gz, 3, none⟩ = some (.int .i64 0) := CZ BZ3.out 3; have z4 : w3.cell? ⟨gz, 4, none⟩ = some (.int .i64 0) := CZ BZ3.out 4; have z5 : w3.cell? ⟨gz, 5, none⟩ = some (.int .i64 0) := CZ BZ3.out 5; have z6 : w3.cell? ⟨gz, 6, none⟩ = some (.int .i64 0) := CZ BZ3.out 6; have z7 : w3.cell? ⟨gz, 7, none⟩ = some (.int .i64 0) := CZ BZ3.out 7; have z8 : w3.cell? ⟨gz, 8, none⟩ = some (.int .i64 0) := CZ BZ3.out 8; have z9 : w3.cell? ⟨gz, 9, none⟩ = some (.bool false) := CZ BZ3.out 9; have z10 : w3.cell? ⟨gz, 10, none⟩ = some (.int .i64 0) := CZ BZ3.out 10
  have hne2 : gz ≠ gb := fun e => NE.out e.symm
  have fz0 := blk_frozen BZ3.out 0; have fz1 := blk_frozen BZ3.out 1; have fz2 := blk_frozen BZ3.out 2; have fz3 := blk_frozen BZ3.out 3; have fz4 := blk_frozen BZ3.out 4; have fz5 := blk_frozen BZ3.out 5; have fz6 := blk_frozen BZ3.out 6; have fz7 := blk_frozen BZ3.out 7; have fz8 := blk_frozen BZ3.out 8; have fz9 := blk_frozen BZ3.out 9; have fz10 := blk_frozen BZ3.out 10; have FI := Aside0.mk (spec_StepTask.fin (a1_0) (a1_1) (a1_2) (a1_3) (a1_4) (a1_5) (a1_6) (a1_7) (a1_8) (true) (a1_10) BZ3.out HB3.out GZ.out HO3.out)
  go_region
  go_wp2
  refine bodyPost_ret (results_tc rfl _ _ gz 46 #[.int .i64 a1_0, .int .i64 a1_1, .int .i64 a1_2, .int .i64 a1_3, .int .i64 a1_4, .int .i64 a1_5, .int .i64 a1_6, .int .i64 a1_7, .int .i64 a1_8, .bool true, .int .i64 a1_10] (0, 0) _ rfl FI.out.1 Try.underlying46 rfl (by kernel_rfl)) rfl ?_; obtain ⟨_, f2, f3⟩ := FI.out; have H2 := H'.out; cases H2; exact ⟨_, rfl, f2, f3⟩
 | false =>
  rw [if_neg (by decide)] at H; obtain ⟨b, A2, H⟩ := Option.bind_eq_some_iff.1 H; replace A2 := Aside0.mk A2; cases b with
  | false =>
   rw [if_neg (by decide)] at H; have H' := Aside0.mk (Option.some.inj H); clear H
   go_enter Try.func37, Try.ntmps37
   go_wp2_with (first | ((with_reducible refine gate_dst (N := 3) rfl ?_); refine bE 3 #[.int .i64 a1_0, .int .i64 a1_1, .int .i64 a1_2, .int .i64 a1_3, .int .i64 a1_4, .int .i64 a1_5, .int .i64 a1_6, .int .i64 a1_7, .int .i64 a1_8, .bool false, .int .i64 a1_10] 46 ?_; intro gb hg w1 hbox hb; have BK1 := Aside0.mk hbox; have HB1 := Aside0.mk hb; have GB : Aside0 (w.heap.size ≤ gb) := ⟨Nat.le_of_eq hg.symm⟩; clear hbox hb hg) | ((with_reducible refine gate_dst (N := 5) rfl ?_); refine bE 5 #[.int .i64 0, .int .i64 0, .int .i64 0, .int .i64 0, .int .i64 0, .int .i64 0, .int .i64 0, .int .i64 0, .int .i64 0, .bool false, .int .i64 0] 46 ?_; intro gz hg w2 hbox hb; have BZ2 := Aside0.mk hbox; have NE := NL BK1.out hg; have BK2 := BB BK1.out hb; have HB2 := Aside0.mk (below_then HB1.out HB1.out.size hb); have GZ : Aside0 (w.heap.size ≤ gz) := ⟨by have := HB1.out.size; omega⟩; clear hbox hb hg) | ((with_reducible refine gate_dst (N := 7) rfl ?_); refine Kd.R_lit (Kd.int .i64) _ 3 ?hg (N := 7) ?hd (xs := ([] : List Int)) (inner := []) (ok := fun _ => True) (okp := fun _ => True) ?hr ?hp (fun _ hk => hk) trivial (Below.refl _ _) (Nat.le_refl _) (by simp) ?_; (case hd => rfl); (case hg => rfl); (case hr => first | (go_simp; done) | (go_simp; rfl)); (case hp => exact (Reps.none _ _)); intro v7 w7 ho7 hb hg_ hnew_; have HO7 := Aside0.mk ho7; have BK7 := BB BK2.out hb; have BZ7 := BB BZ2.out hb; have HB7 := Aside0.mk (below_then HB2.out HB2.out.size hb); have HBx := Aside0.mk hb; clear hb hg_ hnew_ ho7) | (at_builtin; refine Kd.R_append_rows (Kd.int .i64) (w0 := w2) w2.heap.size rfl (.tmp 7) (.tmp 8) 22 3 (.int .i64 0) 8 rfl Try.underlying22 info3 rfl (by decide) (by omega) v7 [] l0 _ _ _ (fun _ => True) (fun _ => False) rfl rfl HO7.out (Kd.C_below HR0.out HB7.out) (fun _ _ h => h) (fun _ h => h.elim) (fun _ _ => trivial) HBx.out HBx.out.size (by have := HLb.out; simp only [List.length_nil]; omega) ?_; intro v0 w3 ho3 hb hgr hat; have HO3 := Aside0.mk (Kd.R_lower ho3 (show w.heap.size ≤ w2.heap.size from HB2.out.size)); have BK3 := Aside0.mk (blk_below BK2.out hb); have BZ3 := Aside0.mk (blk_below BZ2.out hb); have HB3 := Aside0.mk (below_then HB2.out HB2.out.size hb); have x0 : w3.cell? ⟨gb, 0, none⟩ = some (.int .i64 a1_0) := CZ BK3.out 0; have x1 : w3.cell? ⟨gb, 1, none⟩ = some (.int .i64 a1_1) := CZ BK3.out 1; have x2 : w3.cell? ⟨gb, 2, none⟩ = some (.int .i64 a1_2) := CZ BK3.out 2; have x3 : w3.cell? ⟨gb, 3, none⟩ = some (.int .i64 a1_3) := CZ BK3.out 3; have x4 : w3.cell? ⟨gb, 4, none⟩ = some (.int .i64 a1_4) := CZ BK3.out 4; have x5 : w3.cell? ⟨gb, 5, none⟩ = some (.int .i64 a1_5) := CZ BK3.out 5; have x6 : w3.cell? ⟨gb, 6, none⟩ = some (.int .i64 a1_6) := CZ BK3.out 6; have x7 : w3.cell? ⟨gb, 7, none⟩ = some (.int .i64 a1_7) := CZ BK3.out 7; have x8 : w3.cell? ⟨gb, 8, none⟩ = some (.int .i64 a1_8) := CZ BK3.out 8; have x9 : w3.cell? ⟨gb, 9, none⟩ = some (.bool false) := CZ BK3.out 9; have x10 : w3.cell? ⟨gb, 10, none⟩ = some (.int .i64 a1_10) := CZ BK3.out 10; clear ho3 hb hgr hat) | (go_at_call 45; refine (spec_TaskOk.calls a1_0 a1_1 a1_2 a1_3 a1_4 a1_5 a1_6 a1_7 a1_8 false a1_10 false w3 A2.out).mono ?_; rintro e w4 ⟨rfl, hb⟩; have HO4 := Aside0.mk (Kd.R_below HO3.out hb); have BK4 := BB BK3.out hb; have BZ4 := BB BZ3.out hb; have HB4 := Aside0.mk (below_then HB3.out HB3.out.size hb); have d0 : w4.cell? ⟨gb, 0, none⟩ = some (.int .i64 a1_0) := CZ BK4.out 0; have d1 : w4.cell? ⟨gb, 1, none⟩ = some (.int .i64 a1_1) := CZ BK4.out 1; have d2 : w4.cell? ⟨gb, 2, none⟩ = some (.int .i64 a1_2) := CZ BK4.out 2; have d3 : w4.cell? ⟨gb, 3, none⟩ = some (.int .i64 a1_3) := CZ BK4.out 3; have d4 : w4.cell? ⟨gb, 4, none⟩ = some (.int .i64 a1_4) := CZ BK4.out 4; have d5 : w4.cell? ⟨gb, 5, none⟩ = some (.int .i64 a1_5) := CZ BK4.out 5; have d6 : w4.cell? ⟨gb, 6, none⟩ = some (.int .i64 a1_6) := CZ BK4.out 6; have d7 : w4.cell? ⟨gb, 7, none⟩ = some (.int .i64 a1_7) := CZ BK4.out 7; have d8 : w4.cell? ⟨gb, 8, none⟩ = some (.int .i64 a1_8) := CZ BK4.out 8; have d9 : w4.cell? ⟨gb, 9, none⟩ = some (.bool false) := CZ BK4.out 9; have d10 : w4.cell? ⟨gb, 10, none⟩ = some (.int .i64 a1_10) := CZ BK4.out 10; clear hb))
   have z0 : w4.cell? ⟨gz, 0, none⟩ = some (.int .i64 0) := CZ BZ4.out 0; have z1 : w4.cell? ⟨gz, 1, none⟩ = some (.int .i64 0) := CZ BZ4.out 1; have z2 : w4.cell? ⟨gz, 2, none⟩ = some (.int .i64 0) := CZ BZ4.out 2; have z3 : w4.cell? ⟨gz, 3, none⟩ = some (.int .i64 0) := CZ BZ4.out 3; have z4 : w4.cell? ⟨gz, 4, none⟩ = some (.int .i64 0) := CZ BZ4.out 4; have z5 : w4.cell? ⟨gz, 5, none⟩ = some (.int .i64 0) := CZ BZ4.out 5; have z6 : w4.cell? ⟨gz, 6, none⟩ = some (.int .i64 0) := CZ BZ4.out 6; have z7 : w4.cell? ⟨gz, 7, none⟩ = some (.int .i64 0) := CZ BZ4.out 7; have z8 : w4.cell? ⟨gz, 8, none⟩ = some (.int .i64 0) := CZ BZ4.out 8; have z9 : w4.cell? ⟨gz, 9, none⟩ = some (.bool false) := CZ BZ4.out 9; have z10 : w4.cell? ⟨gz, 10, none⟩ = some (.int .i64 0) := CZ BZ4.out 10
   have hne2 : gz ≠ gb := fun e => NE.out e.symm
   have fz0 := blk_frozen BZ4.out 0; have fz1 := blk_frozen BZ4.out 1; have fz2 := blk_frozen BZ4.out 2; have fz3 := blk_frozen BZ4.out 3; have fz4 := blk_frozen BZ4.out 4; have fz5 := blk_frozen BZ4.out 5; have fz6 := blk_frozen BZ4.out 6; have fz7 := blk_frozen BZ4.out 7; have fz8 := blk_frozen BZ4.out 8; have fz9 := blk_frozen BZ4.out 9; have fz10 := blk_frozen BZ4.out 10; have FI := Aside0.mk (spec_StepTask.fin (a1_0) (a1_1) (a1_2) (a1_3) (a1_4) (a1_5) (a1_6) (a1_7) (a1_8) (false) (a1_10) BZ4.out HB4.out GZ.out HO4.out)
   go_region
   go_wp2
   refine bodyPost_ret (results_tc rfl _ _ gz 46 #[.int .i64 a1_0, .int .i64 a1_1, .int .i64 a1_2, .int .i64 a1_3, .int .i64 a1_4, .int .i64 a1_5, .int .i64 a1_6, .int .i64 a1_7, .int .i64 a1_8, .bool false, .int .i64 a1_10] (0, 0) _ rfl FI.out.1 Try.underlying46 rfl (by kernel_rfl)) rfl ?_; obtain ⟨_, f2, f3⟩ := FI.out; have H2 := H'.out; cases H2; exact ⟨_, rfl, f2, f3⟩
  | true =>
   rw [if_pos rfl] at H
   by_cases hn : (l0.length : Int) = 63
   rotate_left
   ·
    rw [if_neg hn] at H; have hn0 : ((l0.length : Int) == 63) = false := beq_eq_false_iff_ne.mpr hn; have hn1 : ((l0.length : Int) != 63) = true := bne_iff_ne.mpr hn; have H' := Aside0.mk (Option.some.inj H); clear H
    go_enter Try.func37, Try.ntmps37
    go_wp2_with (first | ((with_reducible refine gate_dst (N := 3) rfl ?_); refine bE 3 #[.int .i64 a1_0, .int .i64 a1_1, .int .i64 a1_2, .int .i64 a1_3, .int .i64 a1_4, .int .i64 a1_5, .int .i64 a1_6, .int .i64 a1_7, .int .i64 a1_8, .bool false, .int .i64 a1_10] 46 ?_; intro gb hg w1 hbox hb; have BK1 := Aside0.mk hbox; have HB1 := Aside0.mk hb; have GB : Aside0 (w.heap.size ≤ gb) := ⟨Nat.le_of_eq hg.symm⟩; clear hbox hb hg) | ((with_reducible refine gate_dst (N := 5) rfl ?_); refine bE 5 #[.int .i64 0, .int .i64 0, .int .i64 0, .int .i64 0, .int .i64 0, .int .i64 0, .int .i64 0, .int .i64 0, .int .i64 0, .bool false, .int .i64 0] 46 ?_; intro gz hg w2 hbox hb; have BZ2 := Aside0.mk hbox; have NE := NL BK1.out hg; have BK2 := BB BK1.out hb; have HB2 := Aside0.mk (below_then HB1.out HB1.out.size hb); have GZ : Aside0 (w.heap.size ≤ gz) := ⟨by have := HB1.out.size; omega⟩; clear hbox hb hg) | ((with_reducible refine gate_dst (N := 7) rfl ?_); refine Kd.R_lit (Kd.int .i64) _ 3 ?hg (N := 7) ?hd (xs := ([] : List Int)) (inner := []) (ok := fun _ => True) (okp := fun _ => True) ?hr ?hp (fun _ hk => hk) trivial (Below.refl _ _) (Nat.le_refl _) (by simp) ?_; (case hd => rfl); (case hg => rfl); (case hr => first | (go_simp; done) | (go_simp; rfl)); (case hp => exact (Reps.none _ _)); intro v7 w7 ho7 hb hg_ hnew_; have HO7 := Aside0.mk ho7; have BK7 := BB BK2.out hb; have BZ7 := BB BZ2.out hb; have HB7 := Aside0.mk (below_then HB2.out HB2.out.size hb); have HBx := Aside0.mk hb; clear hb hg_ hnew_ ho7) | (at_builtin; refine Kd.R_append_rows (Kd.int .i64) (w0 := w2) w2.heap.size rfl (.tmp 7) (.tmp 8) 22 3 (.int .i64 0) 8 rfl Try.underlying22 info3 rfl (by decide) (by omega) v7 [] l0 _ _ _ (fun _ => True) (fun _ => False) rfl rfl HO7.out (Kd.C_below HR0.out HB7.out) (fun _ _ h => h) (fun _ h => h.elim) (fun _ _ => trivial) HBx.out HBx.out.size (by have := HLb.out; simp only [List.length_nil]; omega) ?_; intro v0 w3 ho3 hb hgr hat; have HO3 := Aside0.mk (Kd.R_lower ho3 (show w.heap.size ≤ w2.heap.size from HB2.out.size)); have BK3 := Aside0.mk (blk_below BK2.out hb); have BZ3 := Aside0.mk (blk_below BZ2.out hb); have HB3 := Aside0.mk (below_then HB2.out HB2.out.size hb); have x0 : w3.cell? ⟨gb, 0, none⟩ = some (.int .i64 a1_0) := CZ BK3.out 0; have x1 : w3.cell? ⟨gb, 1, none⟩ = some (.int .i64 a1_1) := CZ BK3.out 1; have x2 : w3.cell? ⟨gb, 2, none⟩ = some (.int .i64 a1_2) := CZ BK3.out 2; have x3 : w3.cell? ⟨gb, 3, none⟩ = some (.int .i64 a1_3) := CZ BK3.out 3; have x4 : w3.cell? ⟨gb, 4, none⟩ = some (.int .i64 a1_4) := CZ BK3.out 4; have x5 : w3.cell? ⟨gb, 5, none⟩ = some (.int .i64 a1_5) := CZ BK3.out 5; have x6 : w3.cell? ⟨gb, 6, none⟩ = some (.int .i64 a1_6) := CZ BK3.out 6; have x7 : w3.cell? ⟨gb, 7, none⟩ = some (.int .i64 a1_7) := CZ BK3.out 7; have x8 : w3.cell? ⟨gb, 8, none⟩ = some (.int .i64 a1_8) := CZ BK3.out 8; have x9 : w3.cell? ⟨gb, 9, none⟩ = some (.bool false) := CZ BK3.out 9; have x10 : w3.cell? ⟨gb, 10, none⟩ = some (.int .i64 a1_10) := CZ BK3.out 10; clear ho3 hb hgr hat) | (go_at_call 45; refine (spec_TaskOk.calls a1_0 a1_1 a1_2 a1_3 a1_4 a1_5 a1_6 a1_7 a1_8 false a1_10 true w3 A2.out).mono ?_; rintro e w4 ⟨rfl, hb⟩; have HO4 := Aside0.mk (Kd.R_below HO3.out hb); have BK4 := BB BK3.out hb; have BZ4 := BB BZ3.out hb; have HB4 := Aside0.mk (below_then HB3.out HB3.out.size hb); have d0 : w4.cell? ⟨gb, 0, none⟩ = some (.int .i64 a1_0) := CZ BK4.out 0; have d1 : w4.cell? ⟨gb, 1, none⟩ = some (.int .i64 a1_1) := CZ BK4.out 1; have d2 : w4.cell? ⟨gb, 2, none⟩ = some (.int .i64 a1_2) := CZ BK4.out 2; have d3 : w4.cell? ⟨gb, 3, none⟩ = some (.int .i64 a1_3) := CZ BK4.out 3; have d4 : w4.cell? ⟨gb, 4, none⟩ = some (.int .i64 a1_4) := CZ BK4.out 4; have d5 : w4.cell? ⟨gb, 5, none⟩ = some (.int .i64 a1_5) := CZ BK4.out 5; have d6 : w4.cell? ⟨gb, 6, none⟩ = some (.int .i64 a1_6) := CZ BK4.out 6; have d7 : w4.cell? ⟨gb, 7, none⟩ = some (.int .i64 a1_7) := CZ BK4.out 7; have d8 : w4.cell? ⟨gb, 8, none⟩ = some (.int .i64 a1_8) := CZ BK4.out 8; have d9 : w4.cell? ⟨gb, 9, none⟩ = some (.bool false) := CZ BK4.out 9; have d10 : w4.cell? ⟨gb, 10, none⟩ = some (.int .i64 a1_10) := CZ BK4.out 10; clear hb))
    have z0 : w4.cell? ⟨gz, 0, none⟩ = some (.int .i64 0) := CZ BZ4.out 0; have z1 : w4.cell? ⟨gz, 1, none⟩ = some (.int .i64 0) := CZ BZ4.out 1; have z2 : w4.cell? ⟨gz, 2, none⟩ = some (.int .i64 0) := CZ BZ4.out 2; have z3 : w4.cell? ⟨gz, 3, none⟩ = some (.int .i64 0) := CZ BZ4.out 3; have z4 : w4.cell? ⟨gz, 4, none⟩ = some (.int .i64 0) := CZ BZ4.out 4; have z5 : w4.cell? ⟨gz, 5, none⟩ = some (.int .i64 0) := CZ BZ4.out 5; have z6 : w4.cell? ⟨gz, 6, none⟩ = some (.int .i64 0) := CZ BZ4.out 6; have z7 : w4.cell? ⟨gz, 7, none⟩ = some (.int .i64 0) := CZ BZ4.out 7; have z8 : w4.cell? ⟨gz, 8, none⟩ = some (.int .i64 0) := CZ BZ4.out 8; have z9 : w4.cell? ⟨gz, 9, none⟩ = some (.bool false) := CZ BZ4.out 9; have z10 : w4.cell? ⟨gz, 10, none⟩ = some (.int .i64 0) := CZ BZ4.out 10
    have hne2 : gz ≠ gb := fun e => NE.out e.symm
    have fz0 := blk_frozen BZ4.out 0; have fz1 := blk_frozen BZ4.out 1; have fz2 := blk_frozen BZ4.out 2; have fz3 := blk_frozen BZ4.out 3; have fz4 := blk_frozen BZ4.out 4; have fz5 := blk_frozen BZ4.out 5; have fz6 := blk_frozen BZ4.out 6; have fz7 := blk_frozen BZ4.out 7; have fz8 := blk_frozen BZ4.out 8; have fz9 := blk_frozen BZ4.out 9; have fz10 := blk_frozen BZ4.out 10; have FI := Aside0.mk (spec_StepTask.fin (a1_0) (a1_1) (a1_2) (a1_3) (a1_4) (a1_5) (a1_6) (a1_7) (a1_8) (false) (a1_10) BZ4.out HB4.out GZ.out HO4.out)
    go_region
    go_wp2
    refine bodyPost_ret (results_tc rfl _ _ gz 46 #[.int .i64 a1_0, .int .i64 a1_1, .int .i64 a1_2, .int .i64 a1_3, .int .i64 a1_4, .int .i64 a1_5, .int .i64 a1_6, .int .i64 a1_7, .int .i64 a1_8, .bool false, .int .i64 a1_10] (0, 0) _ rfl FI.out.1 Try.underlying46 rfl (by kernel_rfl)) rfl ?_; obtain ⟨_, f2, f3⟩ := FI.out; have H2 := H'.out; cases H2; exact ⟨_, rfl, f2, f3⟩
   rw [if_pos hn] at H; have hn0 : ((l0.length : Int) == 63) = true := beq_iff_eq.mpr hn; have hn1 : ((l0.length : Int) != 63) = false := bne_eq_false_iff_eq.mpr hn; obtain ⟨b, A3, H⟩ := Option.bind_eq_some_iff.1 H; replace A3 := Aside0.mk A3; cases b with
   | false =>
    rw [if_neg (by decide)] at H; have H' := Aside0.mk (Option.some.inj H); clear H
    go_enter Try.func37, Try.ntmps37
    go_wp2_with (first | ((with_reducible refine gate_dst (N := 3) rfl ?_); refine bE 3 #[.int .i64 a1_0, .int .i64 a1_1, .int .i64 a1_2, .int .i64 a1_3, .int .i64 a1_4, .int .i64 a1_5, .int .i64 a1_6, .int .i64 a1_7, .int .i64 a1_8, .bool false, .int .i64 a1_10] 46 ?_; intro gb hg w1 hbox hb; have BK1 := Aside0.mk hbox; have HB1 := Aside0.mk hb; have GB : Aside0 (w.heap.size ≤ gb) := ⟨Nat.le_of_eq hg.symm⟩; clear hbox hb hg) | ((with_reducible refine gate_dst (N := 5) rfl ?_); refine bE 5 #[.int .i64 0, .int .i64 0, .int .i64 0, .int .i64 0, .int .i64 0, .int .i64 0, .int .i64 0, .int .i64 0, .int .i64 0, .bool false, .int .i64 0] 46 ?_; intro gz hg w2 hbox hb; have BZ2 := Aside0.mk hbox; have NE := NL BK1.out hg; have BK2 := BB BK1.out hb; have HB2 := Aside0.mk (below_then HB1.out HB1.out.size hb); have GZ : Aside0 (w.heap.size ≤ gz) := ⟨by have := HB1.out.size; omega⟩; clear hbox hb hg) | ((with_reducible refine gate_dst (N := 7) rfl ?_); refine Kd.R_lit (Kd.int .i64) _ 3 ?hg (N := 7) ?hd (xs := ([] : List Int)) (inner := []) (ok := fun _ => True) (okp := fun _ => True) ?hr ?hp (fun _ hk => hk) trivial (Below.refl _ _) (Nat.le_refl _) (by simp) ?_; (case hd => rfl); (case hg => rfl); (case hr => first | (go_simp; done) | (go_simp; rfl)); (case hp => exact (Reps.none _ _)); intro v7 w7 ho7 hb hg_ hnew_; have HO7 := Aside0.mk ho7; have BK7 := BB BK2.out hb; have BZ7 := BB BZ2.out hb; have HB7 := Aside0.mk (below_then HB2.out HB2.out.size hb); have HBx := Aside0.mk hb; clear hb hg_ hnew_ ho7) | (at_builtin; refine Kd.R_append_rows (Kd.int .i64) (w0 := w2) w2.heap.size rfl (.tmp 7) (.tmp 8) 22 3 (.int .i64 0) 8 rfl Try.underlying22 info3 rfl (by decide) (by omega) v7 [] l0 _ _ _ (fun _ => True) (fun _ => False) rfl rfl HO7.out (Kd.C_below HR0.out HB7.out) (fun _ _ h => h) (fun _ h => h.elim) (fun _ _ => trivial) HBx.out HBx.out.size (by have := HLb.out; simp only [List.length_nil]; omega) ?_; intro v0 w3 ho3 hb hgr hat; have HO3 := Aside0.mk (Kd.R_lower ho3 (show w.heap.size ≤ w2.heap.size from HB2.out.size)); have BK3 := Aside0.mk (blk_below BK2.out hb); have BZ3 := Aside0.mk (blk_below BZ2.out hb); have HB3 := Aside0.mk (below_then HB2.out HB2.out.size hb); have x0 : w3.cell? ⟨gb, 0, none⟩ = some (.int .i64 a1_0) := CZ BK3.out 0; have x1 : w3.cell? ⟨gb, 1, none⟩ = some (.int .i64 a1_1) := CZ BK3.out 1; have x2 : w3.cell? ⟨gb, 2, none⟩ = some (.int .i64 a1_2) := CZ BK3.out 2; have x3 : w3.cell? ⟨gb, 3, none⟩ = some (.int .i64 a1_3) := CZ BK3.out 3; have x4 : w3.cell? ⟨gb, 4, none⟩ = some (.int .i64 a1_4) := CZ BK3.out 4; have x5 : w3.cell? ⟨gb, 5, none⟩ = some (.int .i64 a1_5) := CZ BK3.out 5; have x6 : w3.cell? ⟨gb, 6, none⟩ = some (.int .i64 a1_6) := CZ BK3.out 6; have x7 : w3.cell? ⟨gb, 7, none⟩ = some (.int .i64 a1_7) := CZ BK3.out 7; have x8 : w3.cell? ⟨gb, 8, none⟩ = some (.int .i64 a1_8) := CZ BK3.out 8; have x9 : w3.cell? ⟨gb, 9, none⟩ = some (.bool false) := CZ BK3.out 9; have x10 : w3.cell? ⟨gb, 10, none⟩ = some (.int .i64 a1_10) := CZ BK3.out 10; clear ho3 hb hgr hat) | (go_at_call 45; refine (spec_TaskOk.calls a1_0 a1_1 a1_2 a1_3 a1_4 a1_5 a1_6 a1_7 a1_8 false a1_10 true w3 A2.out).mono ?_; rintro e w4 ⟨rfl, hb⟩; have HO4 := Aside0.mk (Kd.R_below HO3.out hb); have BK4 := BB BK3.out hb; have BZ4 := BB BZ3.out hb; have HB4 := Aside0.mk (below_then HB3.out HB3.out.size hb); have d0 : w4.cell? ⟨gb, 0, none⟩ = some (.int .i64 a1_0) := CZ BK4.out 0; have d1 : w4.cell? ⟨gb, 1, none⟩ = some (.int .i64 a1_1) := CZ BK4.out 1; have d2 : w4.cell? ⟨gb, 2, none⟩ = some (.int .i64 a1_2) := CZ BK4.out 2; have d3 : w4.cell? ⟨gb, 3, none⟩ = some (.int .i64 a1_3) := CZ BK4.out 3; have d4 : w4.cell? ⟨gb, 4, none⟩ = some (.int .i64 a1_4) := CZ BK4.out 4; have d5 : w4.cell? ⟨gb, 5, none⟩ = some (.int .i64 a1_5) := CZ BK4.out 5; have d6 : w4.cell? ⟨gb, 6, none⟩ = some (.int .i64 a1_6) := CZ BK4.out 6; have d7 : w4.cell? ⟨gb, 7, none⟩ = some (.int .i64 a1_7) := CZ BK4.out 7; have d8 : w4.cell? ⟨gb, 8, none⟩ = some (.int .i64 a1_8) := CZ BK4.out 8; have d9 : w4.cell? ⟨gb, 9, none⟩ = some (.bool false) := CZ BK4.out 9; have d10 : w4.cell? ⟨gb, 10, none⟩ = some (.int .i64 a1_10) := CZ BK4.out 10; clear hb) | (go_at_call 32; refine (spec_CellsOk.calls k A0 c0 l0 false w4 (Kd.C_below HR0.out HB4.out) HC0.out A3.out).mono ?_; rintro e w5 ⟨rfl, ⟨nd, hb0⟩⟩; have hb : Below w4.heap.size w4 w5 := (by rw [hb0]; exact pw_below_drewN (Below.refl _ _) _); clear hb0; have HO5 := Aside0.mk (Kd.R_below HO4.out hb); have BK5 := BB BK4.out hb; have BZ5 := BB BZ4.out hb; have HB5 := Aside0.mk (below_then HB4.out HB4.out.size hb); have e0 : w5.cell? ⟨gb, 0, none⟩ = some (.int .i64 a1_0) := CZ BK5.out 0; have e1 : w5.cell? ⟨gb, 1, none⟩ = some (.int .i64 a1_1) := CZ BK5.out 1; have e2 : w5.cell? ⟨gb, 2, none⟩ = some (.int .i64 a1_2) := CZ BK5.out 2; have e3 : w5.cell? ⟨gb, 3, none⟩ = some (.int .i64 a1_3) := CZ BK5.out 3; have e4 : w5.cell? ⟨gb, 4, none⟩ = some (.int .i64 a1_4) := CZ BK5.out 4; have e5 : w5.cell? ⟨gb, 5, none⟩ = some (.int .i64 a1_5) := CZ BK5.out 5; have e6 : w5.cell? ⟨gb, 6, none⟩ = some (.int .i64 a1_6) := CZ BK5.out 6; have e7 : w5.cell? ⟨gb, 7, none⟩ = some (.int .i64 a1_7) := CZ BK5.out 7; have e8 : w5.cell? ⟨gb, 8, none⟩ = some (.int .i64 a1_8) := CZ BK5.out 8; have e9 : w5.cell? ⟨gb, 9, none⟩ = some (.bool false) := CZ BK5.out 9; have e10 : w5.cell? ⟨gb, 10, none⟩ = some (.int .i64 a1_10) := CZ BK5.out 10; clear hb))
    have z0 : w5.cell? ⟨gz, 0, none⟩ = some (.int .i64 0) := CZ BZ5.out 0; have z1 : w5.cell? ⟨gz, 1, none⟩ = some (.int .i64 0) := CZ BZ5.out 1; have z2 : w5.cell? ⟨gz, 2, none⟩ = some (.int .i64 0) := CZ BZ5.out 2; have z3 : w5.cell? ⟨gz, 3, none⟩ = some (.int .i64 0) := CZ BZ5.out 3; have z4 : w5.cell? ⟨gz, 4, none⟩ = some (.int .i64 0) := CZ BZ5.out 4; have z5 : w5.cell? ⟨gz, 5, none⟩ = some (.int .i64 0) := CZ BZ5.out 5; have z6 : w5.cell? ⟨gz, 6, none⟩ = some (.int .i64 0) := CZ BZ5.out 6; have z7 : w5.cell? ⟨gz, 7, none⟩ = some (.int .i64 0) := CZ BZ5.out 7; have z8 : w5.cell? ⟨gz, 8, none⟩ = some (.int .i64 0) := CZ BZ5.out 8; have z9 : w5.cell? ⟨gz, 9, none⟩ = some (.bool false) := CZ BZ5.out 9; have z10 : w5.cell? ⟨gz, 10, none⟩ = some (.int .i64 0) := CZ BZ5.out 10
    have hne2 : gz ≠ gb := fun e => NE.out e.symm
    have fz0 := blk_frozen BZ5.out 0; have fz1 := blk_frozen BZ5.out 1; have fz2 := blk_frozen BZ5.out 2; have fz3 := blk_frozen BZ5.out 3; have fz4 := blk_frozen BZ5.out 4; have fz5 := blk_frozen BZ5.out 5; have fz6 := blk_frozen BZ5.out 6; have fz7 := blk_frozen BZ5.out 7; have fz8 := blk_frozen BZ5.out 8; have fz9 := blk_frozen BZ5.out 9; have fz10 := blk_frozen BZ5.out 10; have FI := Aside0.mk (spec_StepTask.fin (a1_0) (a1_1) (a1_2) (a1_3) (a1_4) (a1_5) (a1_6) (a1_7) (a1_8) (false) (a1_10) BZ5.out HB5.out GZ.out HO5.out)
    go_region
    go_wp2
    refine bodyPost_ret (results_tc rfl _ _ gz 46 #[.int .i64 a1_0, .int .i64 a1_1, .int .i64 a1_2, .int .i64 a1_3, .int .i64 a1_4, .int .i64 a1_5, .int .i64 a1_6, .int .i64 a1_7, .int .i64 a1_8, .bool false, .int .i64 a1_10] (0, 0) _ rfl FI.out.1 Try.underlying46 rfl (by kernel_rfl)) rfl ?_; obtain ⟨_, f2, f3⟩ := FI.out; have H2 := H'.out; cases H2; exact ⟨_, rfl, f2, f3⟩
   | true =>
    rw [if_pos rfl] at H; obtain ⟨bt, A4, H⟩ := Option.bind_eq_some_iff.1 H; replace A4 := Aside0.mk A4; have H' := Aside0.mk (Option.some.inj H); clear H
    go_enter Try.func37, Try.ntmps37
    go_wp2_with (first | ((with_reducible refine gate_dst (N := 3) rfl ?_); refine bE 3 #[.int .i64 a1_0, .int .i64 a1_1, .int .i64 a1_2, .int .i64 a1_3, .int .i64 a1_4, .int .i64 a1_5, .int .i64 a1_6, .int .i64 a1_7, .int .i64 a1_8, .bool false, .int .i64 a1_10] 46 ?_; intro gb hg w1 hbox hb; have BK1 := Aside0.mk hbox; have HB1 := Aside0.mk hb; have GB : Aside0 (w.heap.size ≤ gb) := ⟨Nat.le_of_eq hg.symm⟩; clear hbox hb hg) | ((with_reducible refine gate_dst (N := 5) rfl ?_); refine bE 5 #[.int .i64 0, .int .i64 0, .int .i64 0, .int .i64 0, .int .i64 0, .int .i64 0, .int .i64 0, .int .i64 0, .int .i64 0, .bool false, .int .i64 0] 46 ?_; intro gz hg w2 hbox hb; have BZ2 := Aside0.mk hbox; have NE := NL BK1.out hg; have BK2 := BB BK1.out hb; have HB2 := Aside0.mk (below_then HB1.out HB1.out.size hb); have GZ : Aside0 (w.heap.size ≤ gz) := ⟨by have := HB1.out.size; omega⟩; clear hbox hb hg) | ((with_reducible refine gate_dst (N := 7) rfl ?_); refine Kd.R_lit (Kd.int .i64) _ 3 ?hg (N := 7) ?hd (xs := ([] : List Int)) (inner := []) (ok := fun _ => True) (okp := fun _ => True) ?hr ?hp (fun _ hk => hk) trivial (Below.refl _ _) (Nat.le_refl _) (by simp) ?_; (case hd => rfl); (case hg => rfl); (case hr => first | (go_simp; done) | (go_simp; rfl)); (case hp => exact (Reps.none _ _)); intro v7 w7 ho7 hb hg_ hnew_; have HO7 := Aside0.mk ho7; have BK7 := BB BK2.out hb; have BZ7 := BB BZ2.out hb; have HB7 := Aside0.mk (below_then HB2.out HB2.out.size hb); have HBx := Aside0.mk hb; clear hb hg_ hnew_ ho7) | (at_builtin; refine Kd.R_append_rows (Kd.int .i64) (w0 := w2) w2.heap.size rfl (.tmp 7) (.tmp 8) 22 3 (.int .i64 0) 8 rfl Try.underlying22 info3 rfl (by decide) (by omega) v7 [] l0 _ _ _ (fun _ => True) (fun _ => False) rfl rfl HO7.out (Kd.C_below HR0.out HB7.out) (fun _ _ h => h) (fun _ h => h.elim) (fun _ _ => trivial) HBx.out HBx.out.size (by have := HLb.out; simp only [List.length_nil]; omega) ?_; intro v0 w3 ho3 hb hgr hat; have HO3 := Aside0.mk (Kd.R_lower ho3 (show w.heap.size ≤ w2.heap.size from HB2.out.size)); have BK3 := Aside0.mk (blk_below BK2.out hb); have BZ3 := Aside0.mk (blk_below BZ2.out hb); have HB3 := Aside0.mk (below_then HB2.out HB2.out.size hb); have x0 : w3.cell? ⟨gb, 0, none⟩ = some (.int .i64 a1_0) := CZ BK3.out 0; have x1 : w3.cell? ⟨gb, 1, none⟩ = some (.int .i64 a1_1) := CZ BK3.out 1; have x2 : w3.cell? ⟨gb, 2, none⟩ = some (.int .i64 a1_2) := CZ BK3.out 2; have x3 : w3.cell? ⟨gb, 3, none⟩ = some (.int .i64 a1_3) := CZ BK3.out 3; have x4 : w3.cell? ⟨gb, 4, none⟩ = some (.int .i64 a1_4) := CZ BK3.out 4; have x5 : w3.cell? ⟨gb, 5, none⟩ = some (.int .i64 a1_5) := CZ BK3.out 5; have x6 : w3.cell? ⟨gb, 6, none⟩ = some (.int .i64 a1_6) := CZ BK3.out 6; have x7 : w3.cell? ⟨gb, 7, none⟩ = some (.int .i64 a1_7) := CZ BK3.out 7; have x8 : w3.cell? ⟨gb, 8, none⟩ = some (.int .i64 a1_8) := CZ BK3.out 8; have x9 : w3.cell? ⟨gb, 9, none⟩ = some (.bool false) := CZ BK3.out 9; have x10 : w3.cell? ⟨gb, 10, none⟩ = some (.int .i64 a1_10) := CZ BK3.out 10; clear ho3 hb hgr hat) | (go_at_call 45; refine (spec_TaskOk.calls a1_0 a1_1 a1_2 a1_3 a1_4 a1_5 a1_6 a1_7 a1_8 false a1_10 true w3 A2.out).mono ?_; rintro e w4 ⟨rfl, hb⟩; have HO4 := Aside0.mk (Kd.R_below HO3.out hb); have BK4 := BB BK3.out hb; have BZ4 := BB BZ3.out hb; have HB4 := Aside0.mk (below_then HB3.out HB3.out.size hb); have d0 : w4.cell? ⟨gb, 0, none⟩ = some (.int .i64 a1_0) := CZ BK4.out 0; have d1 : w4.cell? ⟨gb, 1, none⟩ = some (.int .i64 a1_1) := CZ BK4.out 1; have d2 : w4.cell? ⟨gb, 2, none⟩ = some (.int .i64 a1_2) := CZ BK4.out 2; have d3 : w4.cell? ⟨gb, 3, none⟩ = some (.int .i64 a1_3) := CZ BK4.out 3; have d4 : w4.cell? ⟨gb, 4, none⟩ = some (.int .i64 a1_4) := CZ BK4.out 4; have d5 : w4.cell? ⟨gb, 5, none⟩ = some (.int .i64 a1_5) := CZ BK4.out 5; have d6 : w4.cell? ⟨gb, 6, none⟩ = some (.int .i64 a1_6) := CZ BK4.out 6; have d7 : w4.cell? ⟨gb, 7, none⟩ = some (.int .i64 a1_7) := CZ BK4.out 7; have d8 : w4.cell? ⟨gb, 8, none⟩ = some (.int .i64 a1_8) := CZ BK4.out 8; have d9 : w4.cell? ⟨gb, 9, none⟩ = some (.bool false) := CZ BK4.out 9; have d10 : w4.cell? ⟨gb, 10, none⟩ = some (.int .i64 a1_10) := CZ BK4.out 10; clear hb) | (go_at_call 32; refine (spec_CellsOk.calls k A0 c0 l0 true w4 (Kd.C_below HR0.out HB4.out) HC0.out A3.out).mono ?_; rintro e w5 ⟨rfl, ⟨nd, hb0⟩⟩; have hb : Below w4.heap.size w4 w5 := (by rw [hb0]; exact pw_below_drewN (Below.refl _ _) _); clear hb0; have HO5 := Aside0.mk (Kd.R_below HO4.out hb); have BK5 := BB BK4.out hb; have BZ5 := BB BZ4.out hb; have HB5 := Aside0.mk (below_then HB4.out HB4.out.size hb); have e0 : w5.cell? ⟨gb, 0, none⟩ = some (.int .i64 a1_0) := CZ BK5.out 0; have e1 : w5.cell? ⟨gb, 1, none⟩ = some (.int .i64 a1_1) := CZ BK5.out 1; have e2 : w5.cell? ⟨gb, 2, none⟩ = some (.int .i64 a1_2) := CZ BK5.out 2; have e3 : w5.cell? ⟨gb, 3, none⟩ = some (.int .i64 a1_3) := CZ BK5.out 3; have e4 : w5.cell? ⟨gb, 4, none⟩ = some (.int .i64 a1_4) := CZ BK5.out 4; have e5 : w5.cell? ⟨gb, 5, none⟩ = some (.int .i64 a1_5) := CZ BK5.out 5; have e6 : w5.cell? ⟨gb, 6, none⟩ = some (.int .i64 a1_6) := CZ BK5.out 6; have e7 : w5.cell? ⟨gb, 7, none⟩ = some (.int .i64 a1_7) := CZ BK5.out 7; have e8 : w5.cell? ⟨gb, 8, none⟩ = some (.int .i64 a1_8) := CZ BK5.out 8; have e9 : w5.cell? ⟨gb, 9, none⟩ = some (.bool false) := CZ BK5.out 9; have e10 : w5.cell? ⟨gb, 10, none⟩ = some (.int .i64 a1_10) := CZ BK5.out 10; clear hb) | (go_at_call 68; refine (spec_l06Step.calls (fun k_ => True ∧ k_ ≠ gz) v0 ([] ++ l0) gb a1_0 a1_1 a1_2 a1_3 a1_4 a1_5 a1_6 a1_7 a1_8 false a1_10 bt.1 bt.2.1 bt.2.2.1 bt.2.2.2.1 bt.2.2.2.2.1 bt.2.2.2.2.2.1 bt.2.2.2.2.2.2.1 bt.2.2.2.2.2.2.2.1 bt.2.2.2.2.2.2.2.2.1 bt.2.2.2.2.2.2.2.2.2.1 bt.2.2.2.2.2.2.2.2.2.2.1 bt.2.2.2.2.2.2.2.2.2.2.2 w w5 ⟨BK5.out, GB.out⟩ HB5.out (Kd.R_types HO5.out BZ5.out (by decide)) A4.out).mono ?_; rintro e w6 ⟨rfl, hi, hr, hb, hk⟩; have HO6 := Aside0.mk hr; have BK6 := Aside0.mk hi.1; have BZ6 := Aside0.mk (blk_kept BZ5.out hk (by rintro (h_ | h_); exact h_.2 rfl; exact NE.out h_.symm)); have HB6 := Aside0.mk hb; have f0 : w6.cell? ⟨gb, 0, none⟩ = some (.int .i64 bt.1) := CZ BK6.out 0; have f1 : w6.cell? ⟨gb, 1, none⟩ = some (.int .i64 bt.2.1) := CZ BK6.out 1; have f2 : w6.cell? ⟨gb, 2, none⟩ = some (.int .i64 bt.2.2.1) := CZ BK6.out 2; have f3 : w6.cell? ⟨gb, 3, none⟩ = some (.int .i64 bt.2.2.2.1) := CZ BK6.out 3; have f4 : w6.cell? ⟨gb, 4, none⟩ = some (.int .i64 bt.2.2.2.2.1) := CZ BK6.out 4; have f5 : w6.cell? ⟨gb, 5, none⟩ = some (.int .i64 bt.2.2.2.2.2.1) := CZ BK6.out 5; have f6 : w6.cell? ⟨gb, 6, none⟩ = some (.int .i64 bt.2.2.2.2.2.2.1) := CZ BK6.out 6; have f7 : w6.cell? ⟨gb, 7, none⟩ = some (.int .i64 bt.2.2.2.2.2.2.2.1) := CZ BK6.out 7; have f8 : w6.cell? ⟨gb, 8, none⟩ = some (.int .i64 bt.2.2.2.2.2.2.2.2.1) := CZ BK6.out 8; have f9 : w6.cell? ⟨gb, 9, none⟩ = some (.bool bt.2.2.2.2.2.2.2.2.2.1) := CZ BK6.out 9; have f10 : w6.cell? ⟨gb, 10, none⟩ = some (.int .i64 bt.2.2.2.2.2.2.2.2.2.2.1) := CZ BK6.out 10; clear hi hr hb hk))
    have z0 : w6.cell? ⟨gz, 0, none⟩ = some (.int .i64 0) := CZ BZ6.out 0; have z1 : w6.cell? ⟨gz, 1, none⟩ = some (.int .i64 0) := CZ BZ6.out 1; have z2 : w6.cell? ⟨gz, 2, none⟩ = some (.int .i64 0) := CZ BZ6.out 2; have z3 : w6.cell? ⟨gz, 3, none⟩ = some (.int .i64 0) := CZ BZ6.out 3; have z4 : w6.cell? ⟨gz, 4, none⟩ = some (.int .i64 0) := CZ BZ6.out 4; have z5 : w6.cell? ⟨gz, 5, none⟩ = some (.int .i64 0) := CZ BZ6.out 5; have z6 : w6.cell? ⟨gz, 6, none⟩ = some (.int .i64 0) := CZ BZ6.out 6; have z7 : w6.cell? ⟨gz, 7, none⟩ = some (.int .i64 0) := CZ BZ6.out 7; have z8 : w6.cell? ⟨gz, 8, none⟩ = some (.int .i64 0) := CZ BZ6.out 8; have z9 : w6.cell? ⟨gz, 9, none⟩ = some (.bool false) := CZ BZ6.out 9; have z10 : w6.cell? ⟨gz, 10, none⟩ = some (.int .i64 0) := CZ BZ6.out 10
    have hne2 : gz ≠ gb := fun e => NE.out e.symm
    have fz0 := blk_frozen BZ6.out 0; have fz1 := blk_frozen BZ6.out 1; have fz2 := blk_frozen BZ6.out 2; have fz3 := blk_frozen BZ6.out 3; have fz4 := blk_frozen BZ6.out 4; have fz5 := blk_frozen BZ6.out 5; have fz6 := blk_frozen BZ6.out 6; have fz7 := blk_frozen BZ6.out 7; have fz8 := blk_frozen BZ6.out 8; have fz9 := blk_frozen BZ6.out 9; have fz10 := blk_frozen BZ6.out 10; have FI := Aside0.mk (spec_StepTask.fin (bt.1) (bt.2.1) (bt.2.2.1) (bt.2.2.2.1) (bt.2.2.2.2.1) (bt.2.2.2.2.2.1) (bt.2.2.2.2.2.2.1) (bt.2.2.2.2.2.2.2.1) (bt.2.2.2.2.2.2.2.2.1) (bt.2.2.2.2.2.2.2.2.2.1) (bt.2.2.2.2.2.2.2.2.2.2.1) BZ6.out HB6.out GZ.out HO6.out)
    go_region
    go_wp2
    refine bodyPost_ret (results_tc rfl _ _ gz 46 #[.int .i64 bt.1, .int .i64 bt.2.1, .int .i64 bt.2.2.1, .int .i64 bt.2.2.2.1, .int .i64 bt.2.2.2.2.1, .int .i64 bt.2.2.2.2.2.1, .int .i64 bt.2.2.2.2.2.2.1, .int .i64 bt.2.2.2.2.2.2.2.1, .int .i64 bt.2.2.2.2.2.2.2.2.1, .bool bt.2.2.2.2.2.2.2.2.2.1, .int .i64 bt.2.2.2.2.2.2.2.2.2.2.1] (0, 0) _ rfl FI.out.1 Try.underlying46 rfl (by kernel_rfl)) rfl ?_; obtain ⟨_, f2, f3⟩ := FI.out; have H2 := H'.out; cases H2; exact ⟨_, rfl, f2, f3⟩

/-! ### impl_isNumber: function 53 -/
def impl_isNumber.f (a0 : Int) : Option (Bool) := (impl_within.f a0 0 1000000000).bind fun t273 => (some t273)
set_option maxHeartbeats 8000000 in
set_option maxRecDepth 100000 in
theorem impl_isNumber.calls (a0 : Int) (r : Bool) (w : World) (h : impl_isNumber.f a0 = some r) :
  Calls Try.prog 53 #[.int .i64 a0] w fun e w' => e = .returned (.bool r) ∧ Drawn0 w w' := by
 have H : ((impl_within.f a0 0 1000000000).bind fun t273 => (some t273)) = some r := h
 clear h
 replace H := Option.bind_eq_some_iff.mp H
 obtain ⟨t273, A20, H⟩ := H
 have A2 := Aside0.mk A20
 clear A20
 obtain rfl := Option.some.inj H
 go_enter Try.func53, Try.ntmps53
 go_wp2_with (first | ((with_reducible refine gate_callee (f := 60) rfl ?_); refine goesL_ (some 4) rfl rfl Try.func60 (by kernel_rfl) rfl #[.int .i64 a0, .int .i64 0, .int .i64 1000000000] rfl (MA) ?_; (with_reducible refine (impl_within.calls a0 0 1000000000 t273 _ A2.out).mono ?_); rintro e w' ⟨rfl, ⟨nd, rfl⟩⟩; refine ⟨_, rfl, ?_⟩))
 go_ret
 exact ⟨by first | rfl | (simp; done) | (simp [*]; done), by repeat (first | exact Drawn0.refl _ | apply Drawn0.step)⟩

end Go.Proofs.Ytjmggbhgmenmcaa.Qst
