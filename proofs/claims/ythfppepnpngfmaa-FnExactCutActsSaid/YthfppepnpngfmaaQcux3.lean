-- Laid by myprint.py, a program of this session's own, over the kit's print. Not trusted: Lean checks it.
import Derived.Test.YthfppepnpngfmaaQcux0
import Derived.Test.YthfppepnpngfmaaQcux1
import Derived.Test.YthfppepnpngfmaaQcux2
namespace Go.Proofs.Ythfppepnpngfmaa.Qcu
open Go.RowKit Go.Proofs.YthfppepnpngfmaaW.PrintWords Go.Proofs.YthfppepnpngfmaaW.PrintLast Go.Proofs.YthfppepnpngfmaaW.PrintMore
attribute [local go_sem] Go.Proofs.Ythfppepnpngfmaa.StrCmp.gtr_less Go.Proofs.Ythfppepnpngfmaa.StrCmp.geq_less Go.Proofs.Ythfppepnpngfmaa.StrCmp.leq_less max2_int min2_int max_two min_two max_three min_three max_four min_four   -- for this text's walks alone
set_option linter.unusedVariables false
set_option linter.unusedSimpArgs false

/-! ### laws_eqActS: function 42 -/
def laws_eqActS.l0 : Nat → List (S55) → List (S55) → Int → Option (Bool)
 | 0, _, _, _ => none
 | k + 1, x0, x1, x5 => if x5 < (x0.length : Int) then (if 0 ≤ x5 then (if x5 < (x1.length : Int) then ((laws_eqAct.f ((rd_T55 x0 x5).f0) ((rd_T55 x0 x5).f1) ((rd_T55 x0 x5).f2) ((rd_T55 x0 x5).f3) ((rd_T55 x1 x5).f0) ((rd_T55 x1 x5).f1) ((rd_T55 x1 x5).f2) ((rd_T55 x1 x5).f3)).bind fun t176 => (if t176 = true then (laws_eqActS.l0 k x0 x1 (wrap64 (x5 + 1))) else (some false))) else (none)) else (none)) else (some true)
def laws_eqActS.f (k : Nat) (l0 : List (S55)) (l1 : List (S55)) : Option (Bool) := if (l0.length : Int) = (l1.length : Int) then (laws_eqActS.l0 k l0 l1 0) else (some false)
theorem laws_eqActS.mono_l : ∀ k, (∀ y0 y1 y2, LeO (laws_eqActS.l0 k y0 y1 y2) (laws_eqActS.l0 (k + 1) y0 y1 y2))
 | 0 => fun _ _ _ r h => by simp [laws_eqActS.l0] at h
 | k + 1 => by
  have ih0 := laws_eqActS.mono_l k
  ·
   intro y0 y1 y2
   unfold laws_eqActS.l0
   repeat' first
   | (with_reducible exact ih0 _ _ _)
   | (with_reducible exact LeO.refl _)
   | (with_reducible exact LeO.none _)
   | (with_reducible refine LeO.ite ?_ ?_)
   | (with_reducible refine LeO.bind ?_ (fun _ => ?_))
   | exact ih0 _ _ _
   | exact LeO.none _
   | refine LeO.ite ?_ ?_
   | refine LeO.bind ?_ (fun _ => ?_)
theorem laws_eqActS.mono : ∀ a0 a1 k, LeO (laws_eqActS.f k a0 a1) (laws_eqActS.f (k + 1) a0 a1) := by
 intro a0 a1 k
 have ih0 := laws_eqActS.mono_l k
 unfold laws_eqActS.f
 repeat' first
   | (with_reducible exact ih0 _ _ _)
   | (with_reducible exact LeO.refl _)
   | (with_reducible exact LeO.none _)
   | (with_reducible refine LeO.ite ?_ ?_)
   | (with_reducible refine LeO.bind ?_ (fun _ => ?_))
   | exact ih0 _ _ _
   | exact LeO.none _
   | refine LeO.ite ?_ ?_
   | refine LeO.bind ?_ (fun _ => ?_)
def laws_eqActS.T6 : Bool × List (List Nat × List Nat) := (true, [([], []), ([], []), ([0, 1], [0, 1]), ([2], [2]), ([], []), ([], []), ([4, 5], [4, 5]), ([6], [6]), ([3, 7], [3, 7]), ([8], [8])])
def laws_eqActS.B6 : List Nat := [0, 0, 3, 7, 0, 0, 48, 112, 255, 511]
theorem laws_eqActS.tab6 : rtab .any (opsOf Try.f42 6) = laws_eqActS.T6 := by kernel_rfl
theorem laws_eqActS.bits6 : waitsOk laws_eqActS.T6.2 laws_eqActS.B6 = true := by kernel_rfl
set_option maxHeartbeats 8000000 in
set_option maxRecDepth 100000 in
theorem laws_eqActS.calls (k : Nat) (A0 : Option Addr) (c0 : Nat) (l0 : List (S55)) (A1 : Option Addr) (c1 : Nat) (l1 : List (S55)) (r : Bool) (w : World) (hr0 : Kd.C k55 w A0 l0.length l0) (hc0 : l0.length ≤ c0) (hr1 : Kd.C k55 w A1 l1.length l1) (hc1 : l1.length ≤ c1) (h : laws_eqActS.f k l0 l1 = some r) :
  Calls Try.prog 42 #[.slice A0 l0.length c0, .slice A1 l1.length c1] w fun e w' => e = .returned (.bool r) ∧ Below w.heap.size w w' := by
 have hu55 := Try.underlying55
 have HR0 := Aside0.mk hr0
 have HC0 := Aside0.mk hc0
 clear hr0 hc0
 have HR1 := Aside0.mk hr1
 have HC1 := Aside0.mk hc1
 clear hr1 hc1
 have HB := Aside0.mk (Below.refl w.heap.size w)
 have H : (if (l0.length : Int) = (l1.length : Int) then (laws_eqActS.l0 k l0 l1 0) else (some false)) = some r := h
 clear h
 by_cases c3 : (l0.length : Int) = (l1.length : Int); rotate_left
 ·
  rw [if_neg c3] at H; have c3b0 : ((l0.length : Int) == (l1.length : Int)) = false := beq_eq_false_iff_ne.mpr c3; have c3b1 : ((l0.length : Int) != (l1.length : Int)) = true := bne_iff_ne.mpr c3
  have c3b2 : (l0.length == l1.length) = false := by first | simpa using c3 | (simp at c3 ⊢; omega)
  obtain rfl := Option.some.inj H
  go_enter Try.func42, Try.ntmps42
  go_wp2
  go_ret
  exact ⟨EE, BL⟩
 rw [if_pos c3] at H
 have c3b0 : ((l0.length : Int) == (l1.length : Int)) = true := beq_iff_eq.mpr c3
 have c3b1 : ((l0.length : Int) != (l1.length : Int)) = false := bne_eq_false_iff_eq.mpr c3
 have c3b2 : (l0.length == l1.length) = true := by first | simpa using c3 | (simp at c3 ⊢; omega)
 clear c3
 have H' := Aside0.mk H
 clear H
 go_enter Try.func42, Try.ntmps42
 go_wp2
 go_loopg [5] k (fun kq v5 w' => ∃ (x5_1 : Int), v5 = .int .i64 x5_1 ∧ Aside0 (laws_eqActS.l0 kq l0 l1 x5_1 = some r) ∧ Aside0 (kq ≤ k) ∧ Aside0 (Below w.heap.size w w'))
 case atStart => exact ⟨(0), SD, H', ⟨Nat.le_refl _⟩, ⟨BL⟩⟩
 case round =>
  clear H'
  try clear c1 p2 c3 c3b0 c3b1 c3b2
  obtain ⟨x5_1, rfl, HA, HK1, HB⟩ := hrel; cases gk with
  | zero => exact absurd HA.out (by simp [laws_eqActS.l0])
  | succ k1 =>
   have H := HA.out; clear HA; simp only [laws_eqActS.l0] at H
   by_cases c4 : x5_1 < (l0.length : Int); rotate_left
   ·
    rw [if_neg c4] at H; have c4b0 : decide (x5_1 < (l0.length : Int)) = false := decide_eq_false c4; clear c4; obtain rfl := Option.some.inj H
    go_wp2
    go_ret
    exact ⟨EE, BL⟩
   rw [if_pos c4] at H; have c4b0 : decide (x5_1 < (l0.length : Int)) = true := decide_eq_true c4; clear c4
   by_cases c5 : 0 ≤ x5_1; rotate_left
   ·
    rw [if_neg c5] at H; exact absurd H (by simp)
   rw [if_pos c5] at H; have c5b0 : decide (0 ≤ x5_1) = true := decide_eq_true c5; clear c5
   by_cases c6 : x5_1 < (l1.length : Int); rotate_left
   ·
    rw [if_neg c6] at H; exact absurd H (by simp)
   rw [if_pos c6] at H; have c6b0 : decide (x5_1 < (l1.length : Int)) = true := decide_eq_true c6; clear c6; replace H := Option.bind_eq_some_iff.mp H; obtain ⟨t176, A70, H⟩ := H; have A7 := Aside0.mk A70; clear A70
   by_cases c8 : t176 = true; rotate_left
   ·
    replace c8 := Bool.eq_false_iff.mpr c8; subst c8
    have H1 : (some false) = some r := by rw [if_neg (show ¬ (false = true) by decide)] at H; exact H
    clear H; have H := H1; clear H1; obtain rfl := Option.some.inj H
    try go_wp2
    have n0_ := Aside0.mk (below_drew1 HB.out); clear HB; have HB := n0_; clear n0_; have p174 : 0 ≤ (x5_1 : Int) := of_decide_eq_true AS; have q174 : x5_1 < (l0.length : Int) := of_decide_eq_true AS; obtain ⟨ad174, e174, hx174_0, hx174_1, hx174_2, hx174_3⟩ := at_T55 HR0.out x5_1 p174 q174; have hw174_3 := hx174_3; have hw174_2 := hx174_2; have hw174_1 := hx174_1; have hw174_0 := hx174_0; cases e174; replace hx174_0 := (HB.out.cell (World.block_lt_of_cell? w _ hx174_0)).trans hx174_0; replace hx174_1 := (HB.out.cell (World.block_lt_of_cell? w _ hx174_1)).trans hx174_1; replace hx174_2 := (HB.out.cell (World.block_lt_of_cell? w _ hx174_2)).trans hx174_2; replace hx174_3 := (HB.out.cell (World.block_lt_of_cell? w _ hx174_3)).trans hx174_3; replace p174 := eq_true p174; replace q174 := eq_true q174; have p175 : 0 ≤ (x5_1 : Int) := of_decide_eq_true AS; have q175 : x5_1 < (l1.length : Int) := of_decide_eq_true AS; obtain ⟨ad175, e175, hx175_0, hx175_1, hx175_2, hx175_3⟩ := at_T55 HR1.out x5_1 p175 q175; have hw175_3 := hx175_3; have hw175_2 := hx175_2; have hw175_1 := hx175_1; have hw175_0 := hx175_0; cases e175; replace hx175_0 := (HB.out.cell (World.block_lt_of_cell? w _ hx175_0)).trans hx175_0; replace hx175_1 := (HB.out.cell (World.block_lt_of_cell? w _ hx175_1)).trans hx175_1; replace hx175_2 := (HB.out.cell (World.block_lt_of_cell? w _ hx175_2)).trans hx175_2; replace hx175_3 := (HB.out.cell (World.block_lt_of_cell? w _ hx175_3)).trans hx175_3; replace p175 := eq_true p175; replace q175 := eq_true q175; refine start_ (n := 10) (S := fun w' => w'.cell? (ad174.add ((x5_1).toNat * 4)) = some (.int .i64 ((rd_T55 l0 x5_1).f0)) ∧ w'.cell? ⟨(ad174.add ((x5_1).toNat * 4)).block, (ad174.add ((x5_1).toNat * 4)).off + 1, none⟩ = some (.string ((rd_T55 l0 x5_1).f1)) ∧ w'.cell? ⟨(ad174.add ((x5_1).toNat * 4)).block, (ad174.add ((x5_1).toNat * 4)).off + 2, none⟩ = some (.string ((rd_T55 l0 x5_1).f2)) ∧ w'.cell? ⟨(ad174.add ((x5_1).toNat * 4)).block, (ad174.add ((x5_1).toNat * 4)).off + 3, none⟩ = some (.string ((rd_T55 l0 x5_1).f3)) ∧ w'.cell? (ad175.add ((x5_1).toNat * 4)) = some (.int .i64 ((rd_T55 l1 x5_1).f0)) ∧ w'.cell? ⟨(ad175.add ((x5_1).toNat * 4)).block, (ad175.add ((x5_1).toNat * 4)).off + 1, none⟩ = some (.string ((rd_T55 l1 x5_1).f1)) ∧ w'.cell? ⟨(ad175.add ((x5_1).toNat * 4)).block, (ad175.add ((x5_1).toNat * 4)).off + 2, none⟩ = some (.string ((rd_T55 l1 x5_1).f2)) ∧ w'.cell? ⟨(ad175.add ((x5_1).toNat * 4)).block, (ad175.add ((x5_1).toNat * 4)).off + 3, none⟩ = some (.string ((rd_T55 l1 x5_1).f3))) (ds := []) #[false, false, false, false, false, false, false, false, false, false] (by kernel_rfl) rfl rfl ⟨((HB.out.cell (World.block_lt_of_cell? w _ hw174_0)).trans hw174_0), ((HB.out.cell (World.block_lt_of_cell? w _ hw174_1)).trans hw174_1), ((HB.out.cell (World.block_lt_of_cell? w _ hw174_2)).trans hw174_2), ((HB.out.cell (World.block_lt_of_cell? w _ hw174_3)).trans hw174_3), ((HB.out.cell (World.block_lt_of_cell? w _ hw175_0)).trans hw175_0), ((HB.out.cell (World.block_lt_of_cell? w _ hw175_1)).trans hw175_1), ((HB.out.cell (World.block_lt_of_cell? w _ hw175_2)).trans hw175_2), ((HB.out.cell (World.block_lt_of_cell? w _ hw175_3)).trans hw175_3)⟩ (fun hHeld => ?_); refine with_tabW laws_eqActS.tab6 laws_eqActS.bits6 (fun HT_ HW_ => ?_); generalize wr.drew = w11 at HB hx174_0 hx174_1 hx174_2 hx174_3 hx175_0 hx175_1 hx175_2 hx175_3 hHeld ⊢; refine pV 0 17 (OB 10 1) ?_; refine pV 1 18 (OB 10 3) ?_; refine pV 2 19 (OB 10 7) ?_; refine pV 4 21 (OB 10 23) ?_; refine pV 5 22 (OB 10 55) ?_; refine pV 6 23 (OB 10 119) ?_; refine take_ (i := 3) (N := some 20) (v := ?_) (a' := ?_) (OB 10 127) rfl rfl (take_ofW HT_.out HW_.out (by kernel_rfl)) (fun _ _ _ h => h) (Or.inl ⟨by rfl, ?_⟩) hHeld ?_ ?_; rotate_left
    ·
     rintro w' ⟨s0, s1, s2, s3, s4, s5, s6, s7⟩
     go_simp
     with_reducible rfl
    rotate_left
    ·
     simp only [Act.put, zA, zB, zC, i64_w, i32_w]; rfl
    refine take_ (i := 7) (N := some 24) (v := ?_) (a' := ?_) (OB 10 255) rfl rfl (take_ofW HT_.out HW_.out (by kernel_rfl)) (fun _ _ _ h => h) (Or.inl ⟨by rfl, ?_⟩) hHeld ?_ ?_; rotate_left
    ·
     rintro w' ⟨s0, s1, s2, s3, s4, s5, s6, s7⟩
     go_simp
     with_reducible rfl
    rotate_left
    ·
     simp only [Act.put, zA, zB, zC, i64_w, i32_w]; rfl
    refine one_ (i := 8) (N := some 25) (OB 10 511) rfl rfl (one_of HT_.out (by kernel_rfl)) (by decide) (fun K hK => ?_); refine goes_ Try.func68 (by kernel_rfl) rfl #[.agg #[.int .i64 ((rd_T55 l0 x5_1).f0), .string ((rd_T55 l0 x5_1).f1), .string ((rd_T55 l0 x5_1).f2), .string ((rd_T55 l0 x5_1).f3)], .agg #[.int .i64 ((rd_T55 l1 x5_1).f0), .string ((rd_T55 l1 x5_1).f1), .string ((rd_T55 l1 x5_1).f2), .string ((rd_T55 l1 x5_1).f3)]] (by rfl) rfl rfl (MA) ?_
    with_reducible refine (laws_eqAct.calls ((rd_T55 l0 x5_1).f0) ((rd_T55 l0 x5_1).f1) ((rd_T55 l0 x5_1).f2) ((rd_T55 l0 x5_1).f3) ((rd_T55 l1 x5_1).f0) ((rd_T55 l1 x5_1).f1) ((rd_T55 l1 x5_1).f2) ((rd_T55 l1 x5_1).f3) false _ A7.out).mono ?_
    rintro e w12 ⟨rfl, hb⟩; refine ⟨_, rfl, ?_⟩; have n0_ := Aside0.mk (below_step (BL) hb); clear HB; have HB := n0_; clear n0_
    (try clear hb)
    (try clear hb2)
    (try clear hk)
    (try clear hi)
    refine hK.out _ _ ⟨((HB.out.cell (World.block_lt_of_cell? w _ hw174_0)).trans hw174_0), ((HB.out.cell (World.block_lt_of_cell? w _ hw174_1)).trans hw174_1), ((HB.out.cell (World.block_lt_of_cell? w _ hw174_2)).trans hw174_2), ((HB.out.cell (World.block_lt_of_cell? w _ hw174_3)).trans hw174_3), ((HB.out.cell (World.block_lt_of_cell? w _ hw175_0)).trans hw175_0), ((HB.out.cell (World.block_lt_of_cell? w _ hw175_1)).trans hw175_1), ((HB.out.cell (World.block_lt_of_cell? w _ hw175_2)).trans hw175_2), ((HB.out.cell (World.block_lt_of_cell? w _ hw175_3)).trans hw175_3)⟩ (fun hHeld => ?_); clear hK K; refine norm_ (a' := ?_) ?_ ?_; rotate_left
    ·
     show Act.put _ (some 25) _ = _; simp only [Act.put, zA, zB, zC, i64_w, i32_w]; rfl
    refine pV 9 26 (OB 10 1023) ?_; refine done_ (done_of HT_.out (by kernel_rfl)) ?_
    try go_wp2
    go_ret
    exact ⟨EE, BL⟩
   subst c8
   have H1 : (laws_eqActS.l0 k1 l0 l1 (wrap64 (x5_1 + 1))) = some r := by rw [if_pos rfl] at H; exact H
   clear H; have H := H1; clear H1; have H' := Aside0.mk H; clear H
   try go_wp2
   have n0_ := Aside0.mk (below_drew1 HB.out); clear HB; have HB := n0_; clear n0_; have p174 : 0 ≤ (x5_1 : Int) := of_decide_eq_true AS; have q174 : x5_1 < (l0.length : Int) := of_decide_eq_true AS; obtain ⟨ad174, e174, hx174_0, hx174_1, hx174_2, hx174_3⟩ := at_T55 HR0.out x5_1 p174 q174; have hw174_3 := hx174_3; have hw174_2 := hx174_2; have hw174_1 := hx174_1; have hw174_0 := hx174_0; cases e174; replace hx174_0 := (HB.out.cell (World.block_lt_of_cell? w _ hx174_0)).trans hx174_0; replace hx174_1 := (HB.out.cell (World.block_lt_of_cell? w _ hx174_1)).trans hx174_1; replace hx174_2 := (HB.out.cell (World.block_lt_of_cell? w _ hx174_2)).trans hx174_2; replace hx174_3 := (HB.out.cell (World.block_lt_of_cell? w _ hx174_3)).trans hx174_3; replace p174 := eq_true p174; replace q174 := eq_true q174; have p175 : 0 ≤ (x5_1 : Int) := of_decide_eq_true AS; have q175 : x5_1 < (l1.length : Int) := of_decide_eq_true AS; obtain ⟨ad175, e175, hx175_0, hx175_1, hx175_2, hx175_3⟩ := at_T55 HR1.out x5_1 p175 q175; have hw175_3 := hx175_3; have hw175_2 := hx175_2; have hw175_1 := hx175_1; have hw175_0 := hx175_0; cases e175; replace hx175_0 := (HB.out.cell (World.block_lt_of_cell? w _ hx175_0)).trans hx175_0; replace hx175_1 := (HB.out.cell (World.block_lt_of_cell? w _ hx175_1)).trans hx175_1; replace hx175_2 := (HB.out.cell (World.block_lt_of_cell? w _ hx175_2)).trans hx175_2; replace hx175_3 := (HB.out.cell (World.block_lt_of_cell? w _ hx175_3)).trans hx175_3; replace p175 := eq_true p175; replace q175 := eq_true q175; refine start_ (n := 10) (S := fun w' => w'.cell? (ad174.add ((x5_1).toNat * 4)) = some (.int .i64 ((rd_T55 l0 x5_1).f0)) ∧ w'.cell? ⟨(ad174.add ((x5_1).toNat * 4)).block, (ad174.add ((x5_1).toNat * 4)).off + 1, none⟩ = some (.string ((rd_T55 l0 x5_1).f1)) ∧ w'.cell? ⟨(ad174.add ((x5_1).toNat * 4)).block, (ad174.add ((x5_1).toNat * 4)).off + 2, none⟩ = some (.string ((rd_T55 l0 x5_1).f2)) ∧ w'.cell? ⟨(ad174.add ((x5_1).toNat * 4)).block, (ad174.add ((x5_1).toNat * 4)).off + 3, none⟩ = some (.string ((rd_T55 l0 x5_1).f3)) ∧ w'.cell? (ad175.add ((x5_1).toNat * 4)) = some (.int .i64 ((rd_T55 l1 x5_1).f0)) ∧ w'.cell? ⟨(ad175.add ((x5_1).toNat * 4)).block, (ad175.add ((x5_1).toNat * 4)).off + 1, none⟩ = some (.string ((rd_T55 l1 x5_1).f1)) ∧ w'.cell? ⟨(ad175.add ((x5_1).toNat * 4)).block, (ad175.add ((x5_1).toNat * 4)).off + 2, none⟩ = some (.string ((rd_T55 l1 x5_1).f2)) ∧ w'.cell? ⟨(ad175.add ((x5_1).toNat * 4)).block, (ad175.add ((x5_1).toNat * 4)).off + 3, none⟩ = some (.string ((rd_T55 l1 x5_1).f3))) (ds := []) #[false, false, false, false, false, false, false, false, false, false] (by kernel_rfl) rfl rfl ⟨((HB.out.cell (World.block_lt_of_cell? w _ hw174_0)).trans hw174_0), ((HB.out.cell (World.block_lt_of_cell? w _ hw174_1)).trans hw174_1), ((HB.out.cell (World.block_lt_of_cell? w _ hw174_2)).trans hw174_2), ((HB.out.cell (World.block_lt_of_cell? w _ hw174_3)).trans hw174_3), ((HB.out.cell (World.block_lt_of_cell? w _ hw175_0)).trans hw175_0), ((HB.out.cell (World.block_lt_of_cell? w _ hw175_1)).trans hw175_1), ((HB.out.cell (World.block_lt_of_cell? w _ hw175_2)).trans hw175_2), ((HB.out.cell (World.block_lt_of_cell? w _ hw175_3)).trans hw175_3)⟩ (fun hHeld => ?_); refine with_tabW laws_eqActS.tab6 laws_eqActS.bits6 (fun HT_ HW_ => ?_); generalize wr.drew = w9 at HB hx174_0 hx174_1 hx174_2 hx174_3 hx175_0 hx175_1 hx175_2 hx175_3 hHeld ⊢; refine pV 0 17 (OB 10 1) ?_; refine pV 1 18 (OB 10 3) ?_; refine pV 2 19 (OB 10 7) ?_; refine pV 4 21 (OB 10 23) ?_; refine pV 5 22 (OB 10 55) ?_; refine pV 6 23 (OB 10 119) ?_; refine take_ (i := 3) (N := some 20) (v := ?_) (a' := ?_) (OB 10 127) rfl rfl (take_ofW HT_.out HW_.out (by kernel_rfl)) (fun _ _ _ h => h) (Or.inl ⟨by rfl, ?_⟩) hHeld ?_ ?_; rotate_left
   ·
    rintro w' ⟨s0, s1, s2, s3, s4, s5, s6, s7⟩
    go_simp
    with_reducible rfl
   rotate_left
   ·
    simp only [Act.put, zA, zB, zC, i64_w, i32_w]; rfl
   refine take_ (i := 7) (N := some 24) (v := ?_) (a' := ?_) (OB 10 255) rfl rfl (take_ofW HT_.out HW_.out (by kernel_rfl)) (fun _ _ _ h => h) (Or.inl ⟨by rfl, ?_⟩) hHeld ?_ ?_; rotate_left
   ·
    rintro w' ⟨s0, s1, s2, s3, s4, s5, s6, s7⟩
    go_simp
    with_reducible rfl
   rotate_left
   ·
    simp only [Act.put, zA, zB, zC, i64_w, i32_w]; rfl
   refine one_ (i := 8) (N := some 25) (OB 10 511) rfl rfl (one_of HT_.out (by kernel_rfl)) (by decide) (fun K hK => ?_); refine goes_ Try.func68 (by kernel_rfl) rfl #[.agg #[.int .i64 ((rd_T55 l0 x5_1).f0), .string ((rd_T55 l0 x5_1).f1), .string ((rd_T55 l0 x5_1).f2), .string ((rd_T55 l0 x5_1).f3)], .agg #[.int .i64 ((rd_T55 l1 x5_1).f0), .string ((rd_T55 l1 x5_1).f1), .string ((rd_T55 l1 x5_1).f2), .string ((rd_T55 l1 x5_1).f3)]] (by rfl) rfl rfl (MA) ?_
   with_reducible refine (laws_eqAct.calls ((rd_T55 l0 x5_1).f0) ((rd_T55 l0 x5_1).f1) ((rd_T55 l0 x5_1).f2) ((rd_T55 l0 x5_1).f3) ((rd_T55 l1 x5_1).f0) ((rd_T55 l1 x5_1).f1) ((rd_T55 l1 x5_1).f2) ((rd_T55 l1 x5_1).f3) true _ A7.out).mono ?_
   rintro e w10 ⟨rfl, hb⟩; refine ⟨_, rfl, ?_⟩; have n0_ := Aside0.mk (below_step (BL) hb); clear HB; have HB := n0_; clear n0_
   (try clear hb)
   (try clear hb2)
   (try clear hk)
   (try clear hi)
   refine hK.out _ _ ⟨((HB.out.cell (World.block_lt_of_cell? w _ hw174_0)).trans hw174_0), ((HB.out.cell (World.block_lt_of_cell? w _ hw174_1)).trans hw174_1), ((HB.out.cell (World.block_lt_of_cell? w _ hw174_2)).trans hw174_2), ((HB.out.cell (World.block_lt_of_cell? w _ hw174_3)).trans hw174_3), ((HB.out.cell (World.block_lt_of_cell? w _ hw175_0)).trans hw175_0), ((HB.out.cell (World.block_lt_of_cell? w _ hw175_1)).trans hw175_1), ((HB.out.cell (World.block_lt_of_cell? w _ hw175_2)).trans hw175_2), ((HB.out.cell (World.block_lt_of_cell? w _ hw175_3)).trans hw175_3)⟩ (fun hHeld => ?_); clear hK K; refine norm_ (a' := ?_) ?_ ?_; rotate_left
   ·
    show Act.put _ (some 25) _ = _; simp only [Act.put, zA, zB, zC, i64_w, i32_w]; rfl
   refine pV 9 26 (OB 10 1023) ?_; refine done_ (done_of HT_.out (by kernel_rfl)) ?_
   try go_wp2
   go_roundg k1
   case measure => have := HK1.out; omega
   case rel => exact ⟨(wrap64 (x5_1 + 1)), SD, H', ⟨by have := HK1.out; omega⟩, ⟨BL⟩⟩

/-! ### laws_markActS: function 43 -/
def laws_markActS.l0 : Nat → List (S55) → Int → Int → Option (Int × (List (S55)))
 | 0, _, _, _ => none
 | k + 1, x0, x1, x5 => if x5 < (x0.length : Int) then (if 0 ≤ x5 then ((some (x0.set (x5 : Int).toNat (⟨x1, (rd_T55 x0 x5).f1, (rd_T55 x0 x5).f2, (rd_T55 x0 x5).f3⟩ : S55) : List (S55))).bind fun y177 => ((laws_markText.f k (wrap64 (x1 + 1))).bind fun t178 => ((some (y177.set (x5 : Int).toNat (⟨(rd_T55 y177 x5).f0, t178, (rd_T55 y177 x5).f2, (rd_T55 y177 x5).f3⟩ : S55) : List (S55))).bind fun y179 => ((laws_markText.f k (wrap64 ((wrap64 (x1 + 1)) + 1))).bind fun t180 => ((some (y179.set (x5 : Int).toNat (⟨(rd_T55 y179 x5).f0, (rd_T55 y179 x5).f1, t180, (rd_T55 y179 x5).f3⟩ : S55) : List (S55))).bind fun y181 => ((laws_markText.f k (wrap64 ((wrap64 ((wrap64 (x1 + 1)) + 1)) + 1))).bind fun t182 => (laws_markActS.l0 k (y181.set (x5 : Int).toNat (⟨(rd_T55 y181 x5).f0, (rd_T55 y181 x5).f1, (rd_T55 y181 x5).f2, t182⟩ : S55)) (wrap64 ((wrap64 ((wrap64 ((wrap64 (x1 + 1)) + 1)) + 1)) + 1)) (wrap64 (x5 + 1))))))))) else (none)) else (some (x1, x0))
def laws_markActS.f (k : Nat) (l0 : List (S55)) (a1 : Int) : Option (Int × (List (S55))) := laws_markActS.l0 k l0 a1 0
theorem laws_markActS.mono_l : ∀ k, (∀ y0 y1 y2, LeO (laws_markActS.l0 k y0 y1 y2) (laws_markActS.l0 (k + 1) y0 y1 y2))
 | 0 => fun _ _ _ r h => by simp [laws_markActS.l0] at h
 | k + 1 => by
  have ih0 := laws_markActS.mono_l k
  ·
   intro y0 y1 y2
   unfold laws_markActS.l0
   repeat' first
   | (with_reducible exact ih0 _ _ _)
   | (with_reducible exact laws_markText.mono _ _)
   | (with_reducible exact LeO.refl _)
   | (with_reducible exact LeO.none _)
   | (with_reducible refine LeO.ite ?_ ?_)
   | (with_reducible refine LeO.bind ?_ (fun _ => ?_))
   | exact ih0 _ _ _
   | exact laws_markText.mono _ _
   | exact LeO.none _
   | refine LeO.ite ?_ ?_
   | refine LeO.bind ?_ (fun _ => ?_)
theorem laws_markActS.mono : ∀ a0 a1 k, LeO (laws_markActS.f k a0 a1) (laws_markActS.f (k + 1) a0 a1) := by
 intro a0 a1 k
 have ih0 := laws_markActS.mono_l k
 unfold laws_markActS.f
 repeat' first
   | (with_reducible exact ih0 _ _ _)
   | (with_reducible exact laws_markText.mono _ _)
   | (with_reducible exact LeO.refl _)
   | (with_reducible exact LeO.none _)
   | (with_reducible refine LeO.ite ?_ ?_)
   | (with_reducible refine LeO.bind ?_ (fun _ => ?_))
   | exact ih0 _ _ _
   | exact laws_markText.mono _ _
   | exact LeO.none _
   | refine LeO.ite ?_ ?_
   | refine LeO.bind ?_ (fun _ => ?_)
set_option maxHeartbeats 8000000 in
set_option maxRecDepth 100000 in
theorem laws_markActS.calls (k : Nat) (P0_ : Nat → Prop) (u9000_ : Value) (l0 : List (S55)) (a1 : Int) (r1 : Int) (r2 : List (S55)) (w0 w : World) (hB : Below w0.heap.size w0 w) (ho0 : Kd.R k55 55 w w0.heap.size P0_ u9000_ l0) (h : laws_markActS.f k l0 a1 = some (r1, r2)) :
  Calls Try.prog 43 #[u9000_, .int .i64 a1] w fun e w' => e = .returned (.int .i64 r1) ∧ Kd.R k55 55 w' w0.heap.size (fun k_ => (P0_ k_ ∨ w.heap.size ≤ k_)) u9000_ r2 ∧ Below w0.heap.size w0 w' ∧ Kept w w' (fun k_ => P0_ k_) := by
 have HO0 := Aside0.mk (show Kd.R k55 55 w w0.heap.size (fun k_ => (P0_ k_ ∨ w.heap.size ≤ k_)) u9000_ l0 from Kd.R_mono ho0 (fun k_ hk => (.inl hk)))
 have HK := Aside0.mk (Kept.refl w (fun k_ => P0_ k_))
 have HW0 := Aside0.mk hB.size
 have HB := Aside0.mk hB
 clear hB
 have H : (laws_markActS.l0 k l0 a1 0) = some (r1, r2) := h
 clear h
 have H' := Aside0.mk H
 clear H
 go_enter Try.func43, Try.ntmps43
 go_wp2
 go_loopg [1, 5] k (fun kq v1 v5 w' => ∃ (x0_1 : List (S55)) (x1_1 : Int) (x5_1 : Int), v1 = .int .i64 x1_1 ∧ v5 = .int .i64 x5_1 ∧ Aside0 (laws_markActS.l0 kq x0_1 x1_1 x5_1 = some (r1, r2)) ∧ Aside0 (kq ≤ k) ∧ Aside0 (Kd.R k55 55 w' w0.heap.size (fun k_ => (P0_ k_ ∨ w.heap.size ≤ k_)) u9000_ x0_1) ∧ Aside0 (Kept w w' (fun k_ => P0_ k_)) ∧ Aside0 (Below w0.heap.size w0 w'))
 case atStart => exact ⟨(l0), (a1), (0), SD, SD, H', ⟨Nat.le_refl _⟩, ⟨RQ HO0.out⟩, ⟨KL⟩, ⟨BL⟩⟩
 case round =>
  clear H'
  try clear p2
  obtain ⟨x0_1, x1_1, x5_1, rfl, rfl, HA, HK1, HO_0, HK, HB⟩ := hrel; cases gk with
  | zero => exact absurd HA.out (by simp [laws_markActS.l0])
  | succ k1 =>
   have H := HA.out; clear HA; simp only [laws_markActS.l0] at H
   by_cases c3 : x5_1 < (x0_1.length : Int); rotate_left
   ·
    rw [if_neg c3] at H; have c3b0 : decide (x5_1 < (x0_1.length : Int)) = false := decide_eq_false c3; clear c3; simp only [Option.some.injEq, Prod.mk.injEq] at H; obtain ⟨rfl, rfl⟩ := H; obtain ⟨Ao24, co24, eo24⟩ := Kd.R_slice HO_0.out; subst eo24
    go_wp2
    go_ret
    exact ⟨EE, RQ HO_0.out, BL, KL⟩
   rw [if_pos c3] at H; have c3b0 : decide (x5_1 < (x0_1.length : Int)) = true := decide_eq_true c3; clear c3
   by_cases c4 : 0 ≤ x5_1; rotate_left
   ·
    rw [if_neg c4] at H; exact absurd H (by simp)
   rw [if_pos c4] at H; have c4b0 : decide (0 ≤ x5_1) = true := decide_eq_true c4; clear c4; obtain ⟨y177, hy177⟩ : ∃ y_ : List (S55), y_ = (x0_1.set (x5_1 : Int).toNat (⟨x1_1, (rd_T55 x0_1 x5_1).f1, (rd_T55 x0_1 x5_1).f2, (rd_T55 x0_1 x5_1).f3⟩ : S55)) := ⟨_, rfl⟩
   replace H : ((laws_markText.f k1 (wrap64 (x1_1 + 1))).bind fun t178 => ((some (y177.set (x5_1 : Int).toNat (⟨(rd_T55 y177 x5_1).f0, t178, (rd_T55 y177 x5_1).f2, (rd_T55 y177 x5_1).f3⟩ : S55) : List (S55))).bind fun y179 => ((laws_markText.f k1 (wrap64 ((wrap64 (x1_1 + 1)) + 1))).bind fun t180 => ((some (y179.set (x5_1 : Int).toNat (⟨(rd_T55 y179 x5_1).f0, (rd_T55 y179 x5_1).f1, t180, (rd_T55 y179 x5_1).f3⟩ : S55) : List (S55))).bind fun y181 => ((laws_markText.f k1 (wrap64 ((wrap64 ((wrap64 (x1_1 + 1)) + 1)) + 1))).bind fun t182 => (laws_markActS.l0 k1 (y181.set (x5_1 : Int).toNat (⟨(rd_T55 y181 x5_1).f0, (rd_T55 y181 x5_1).f1, (rd_T55 y181 x5_1).f2, t182⟩ : S55)) (wrap64 ((wrap64 ((wrap64 ((wrap64 (x1_1 + 1)) + 1)) + 1)) + 1)) (wrap64 (x5_1 + 1)))))))) = some (r1, r2) := by first | (rw [hy177]; with_reducible exact H) | (have H2_ := (Option.bind_some _ _).symm.trans H; rw [hy177]; with_reducible exact H2_) | (have H2_ := (Option.bind_some _ _).symm.trans H; with_reducible exact H2_) | with_reducible exact H | (rw [hy177]; exact H) | exact H
   have Ny177 := Aside0.mk hy177; clear hy177; replace H := Option.bind_eq_some_iff.mp H; obtain ⟨t178, A60, H⟩ := H; have A6 := Aside0.mk A60; clear A60; obtain ⟨y179, hy179⟩ : ∃ y_ : List (S55), y_ = (y177.set (x5_1 : Int).toNat (⟨(rd_T55 y177 x5_1).f0, t178, (rd_T55 y177 x5_1).f2, (rd_T55 y177 x5_1).f3⟩ : S55)) := ⟨_, rfl⟩
   replace H : ((laws_markText.f k1 (wrap64 ((wrap64 (x1_1 + 1)) + 1))).bind fun t180 => ((some (y179.set (x5_1 : Int).toNat (⟨(rd_T55 y179 x5_1).f0, (rd_T55 y179 x5_1).f1, t180, (rd_T55 y179 x5_1).f3⟩ : S55) : List (S55))).bind fun y181 => ((laws_markText.f k1 (wrap64 ((wrap64 ((wrap64 (x1_1 + 1)) + 1)) + 1))).bind fun t182 => (laws_markActS.l0 k1 (y181.set (x5_1 : Int).toNat (⟨(rd_T55 y181 x5_1).f0, (rd_T55 y181 x5_1).f1, (rd_T55 y181 x5_1).f2, t182⟩ : S55)) (wrap64 ((wrap64 ((wrap64 ((wrap64 (x1_1 + 1)) + 1)) + 1)) + 1)) (wrap64 (x5_1 + 1)))))) = some (r1, r2) := by first | (rw [hy179]; with_reducible exact H) | (have H2_ := (Option.bind_some _ _).symm.trans H; rw [hy179]; with_reducible exact H2_) | (have H2_ := (Option.bind_some _ _).symm.trans H; with_reducible exact H2_) | with_reducible exact H | (rw [hy179]; exact H) | exact H
   have Ny179 := Aside0.mk hy179; clear hy179; replace H := Option.bind_eq_some_iff.mp H; obtain ⟨t180, A80, H⟩ := H; have A8 := Aside0.mk A80; clear A80; obtain ⟨y181, hy181⟩ : ∃ y_ : List (S55), y_ = (y179.set (x5_1 : Int).toNat (⟨(rd_T55 y179 x5_1).f0, (rd_T55 y179 x5_1).f1, t180, (rd_T55 y179 x5_1).f3⟩ : S55)) := ⟨_, rfl⟩
   replace H : ((laws_markText.f k1 (wrap64 ((wrap64 ((wrap64 (x1_1 + 1)) + 1)) + 1))).bind fun t182 => (laws_markActS.l0 k1 (y181.set (x5_1 : Int).toNat (⟨(rd_T55 y181 x5_1).f0, (rd_T55 y181 x5_1).f1, (rd_T55 y181 x5_1).f2, t182⟩ : S55)) (wrap64 ((wrap64 ((wrap64 ((wrap64 (x1_1 + 1)) + 1)) + 1)) + 1)) (wrap64 (x5_1 + 1)))) = some (r1, r2) := by first | (rw [hy181]; with_reducible exact H) | (have H2_ := (Option.bind_some _ _).symm.trans H; rw [hy181]; with_reducible exact H2_) | (have H2_ := (Option.bind_some _ _).symm.trans H; with_reducible exact H2_) | with_reducible exact H | (rw [hy181]; exact H) | exact H
   have Ny181 := Aside0.mk hy181; clear hy181; replace H := Option.bind_eq_some_iff.mp H; obtain ⟨t182, A100, H⟩ := H; have A10 := Aside0.mk A100; clear A100; obtain ⟨y183, hy183⟩ : ∃ y_ : List (S55), y_ = (y181.set (x5_1 : Int).toNat (⟨(rd_T55 y181 x5_1).f0, (rd_T55 y181 x5_1).f1, (rd_T55 y181 x5_1).f2, t182⟩ : S55)) := ⟨_, rfl⟩
   replace H : (laws_markActS.l0 k1 y183 (wrap64 ((wrap64 ((wrap64 ((wrap64 (x1_1 + 1)) + 1)) + 1)) + 1)) (wrap64 (x5_1 + 1))) = some (r1, r2) := by first | (rw [hy183]; with_reducible exact H) | (have H2_ := (Option.bind_some _ _).symm.trans H; rw [hy183]; with_reducible exact H2_) | (have H2_ := (Option.bind_some _ _).symm.trans H; with_reducible exact H2_) | with_reducible exact H | (rw [hy183]; exact H) | exact H
   have Ny183 := Aside0.mk hy183; clear hy183; have H' := Aside0.mk H; clear H; obtain ⟨Ao12, co12, eo12⟩ := Kd.R_slice HO_0.out; subst eo12; have p5 : 0 ≤ (x5_1 : Int) := of_decide_eq_true AS; have q5 : (x5_1 : Int) < ((x0_1.length : Int) : Int) := of_decide_eq_true AS; obtain ⟨go5, co5, eo5, gb5, gl5, cl5, HG5⟩ := Kd.R_form HO_0.out (by omega)
   (first | cases eo5 | (injection eo5 with ea_ en_ ec_; (first | subst ea_ | (injection ea_ with ea_; subst ea_)); subst ec_; clear en_))
   have GB5 := Aside0.mk gb5; have GG5 := Aside0.mk HG5; clear gb5 gl5 HG5; have HMgo5 := Aside0.mk (show (P0_ go5 ∨ w.heap.size ≤ go5) from (HO_0.out.1 _ rfl)); obtain ⟨ce5, hcl5, hM5, hcc5, hfr5⟩ := Kd.R_elem HO_0.out z55 (x5_1 : Int) p5 q5; obtain rfl := k55_openM hM5; have hx5_0 : wr.cell? ⟨go5, (x5_1 : Int).toNat * 4, none⟩ = some (.int .i64 ((rd_T55 x0_1 x5_1).f0)) := hcc5 0 _ rfl; have hx5_1 : wr.cell? ⟨go5, (x5_1 : Int).toNat * 4 + 1, none⟩ = some (.string ((rd_T55 x0_1 x5_1).f1)) := hcc5 1 _ rfl; have hx5_2 : wr.cell? ⟨go5, (x5_1 : Int).toNat * 4 + 2, none⟩ = some (.string ((rd_T55 x0_1 x5_1).f2)) := hcc5 2 _ rfl; have hx5_3 : wr.cell? ⟨go5, (x5_1 : Int).toNat * 4 + 3, none⟩ = some (.string ((rd_T55 x0_1 x5_1).f3)) := hcc5 3 _ rfl; have hf5_0 : wr.frozen? ⟨go5, (x5_1 : Int).toNat * 4, none⟩ = false := hfr5 0; have hf5_1 : wr.frozen? ⟨go5, (x5_1 : Int).toNat * 4 + 1, none⟩ = false := hfr5 1; have hf5_2 : wr.frozen? ⟨go5, (x5_1 : Int).toNat * 4 + 2, none⟩ = false := hfr5 2; have hf5_3 : wr.frozen? ⟨go5, (x5_1 : Int).toNat * 4 + 3, none⟩ = false := hfr5 3; clear hcl5 hcc5 hfr5 hM5; replace p5 := eq_true p5; replace q5 := eq_true q5; have HX13 := Aside0.mk (show Kd.R k55 55 wr w0.heap.size (fun k_ => (P0_ k_ ∨ w.heap.size ≤ k_)) (.slice (some ⟨go5, 0, none⟩) x0_1.length co12) x0_1 from (RQ HO_0.out)); obtain ⟨ce13, hcl13, hM13, hcc13, hfr13⟩ := Kd.R_elem HX13.out z55 (x5_1 : Int) (of_decide_eq_true AS) (by have h_ : (x5_1 : Int) < ((x0_1.length : Int) : Int) := of_decide_eq_true AS; first | exact h_ | (have e_ := (Kd.R_reads' HO_0.out).1; omega) | simpa using h_); obtain rfl := k55_openM hM13; have HP13 := Kd.R_seg HX13.out (x5_1 : Int) (of_decide_eq_true AS) (by have h_ : (x5_1 : Int) < ((x0_1.length : Int) : Int) := of_decide_eq_true AS; first | exact h_ | (have e_ := (Kd.R_reads' HO_0.out).1; omega) | simpa using h_) (seg := [.int .i64 x1_1]) (j := 0) hcl13 hcc13 (show 1 ≤ 4 from by decide) (x' := (⟨x1_1, (rd_T55 x0_1 x5_1).f1, (rd_T55 x0_1 x5_1).f2, (rd_T55 x0_1 x5_1).f3⟩ : S55)) (k55_mkM _ _ _ (⟨x1_1, (rd_T55 x0_1 x5_1).f1, (rd_T55 x0_1 x5_1).f2, (rd_T55 x0_1 x5_1).f3⟩ : S55) ) (fun _ hk => hk); have hx13_0 := hcc13 0 _ rfl
   (try simp only [show (k55).sz = 4 from rfl, Nat.mul_one, Nat.add_zero] at hx13_0)
   have hf13_0 := hfr13 0
   (try simp only [show (k55).sz = 4 from rfl, Nat.mul_one, Nat.add_zero] at hf13_0)
   clear hcl13 hcc13 hfr13 hM13
   go_wp2_with (first | ((with_reducible refine gate_store (t := 3) (p := 16) rfl ?_); refine store_event (t := 3) (p := 16) (v := ?vo_w14) (w1 := (wr.setCell ⟨go5, (x5_1 : Int).toNat * 4, none⟩ (.int .i64 x1_1))) ?hg ?ho ?hn ?hr ?_; (case ho => rfl); (case hg => rfl); (case hn => rfl); (case hr => first | (go_simp; done) | (go_simp; rfl)); intro w14 hw; have hg : wr.grownBy w14 (some go5) := (by rw [hw]; exact HP13.2); have hp_ : Kd.R k55 55 w14 w0.heap.size (fun k_ => (P0_ k_ ∨ w.heap.size ≤ k_)) (.slice (some ⟨go5, 0, none⟩) x0_1.length co12) y177 := (by rw [hw, Ny177.out]; exact HP13.1); clear HP13; replace HK := Aside0.mk (Kept.of_grown (S := (fun k_ => P0_ k_)) hg (KL) (fun k_ e_ => (HO_0.out.1 k_ e_))); replace HO_0 := Aside0.mk (hp_); replace HB := Aside0.mk ((by rw [hw]; exact below_set (HB.out) GB5.out : Below w0.heap.size w0 w14)); clear hg hw hp_) | ((with_reducible refine gate_callee (f := 69) rfl ?_); refine goesL_ (some 22) rfl rfl Try.func69 (by kernel_rfl) rfl #[.int .i64 (wrap64 (x1_1 + 1))] rfl (MA) ?_; (with_reducible refine (laws_markText.calls k1 (wrap64 (x1_1 + 1)) t178 _ A6.out).mono ?_); rintro e w15 ⟨rfl, hb⟩; refine ⟨_, rfl, ?_⟩; have n0_ := Aside0.mk (Kd.R_below (RQ HO_0.out) hb); have n1_ := Aside0.mk (Kept.below (S := (fun k_ => P0_ k_)) (KL) hb); have n2_ := Aside0.mk (below_step (BL) hb); clear HO_0; clear HK; clear HB; have HO_0 := n0_; have HK := n1_; have HB := n2_; clear n0_ n1_ n2_; (try clear hb); (try clear hb2); (try clear hk); (try clear hi); have p7 : 0 ≤ (x5_1 : Int) := of_decide_eq_true AS; have q7 : (x5_1 : Int) < ((x0_1.length : Int) : Int) := of_decide_eq_true AS; obtain ⟨ce7, hcl7, hM7, hcc7, hfr7⟩ := Kd.R_elem HO_0.out z55 (x5_1 : Int) p7 q7; obtain rfl := k55_openM hM7; have hx7_0 : w15.cell? ⟨go5, (x5_1 : Int).toNat * 4, none⟩ = some (.int .i64 ((rd_T55 y177 x5_1).f0)) := hcc7 0 _ rfl; have hx7_1 : w15.cell? ⟨go5, (x5_1 : Int).toNat * 4 + 1, none⟩ = some (.string ((rd_T55 y177 x5_1).f1)) := hcc7 1 _ rfl; have hx7_2 : w15.cell? ⟨go5, (x5_1 : Int).toNat * 4 + 2, none⟩ = some (.string ((rd_T55 y177 x5_1).f2)) := hcc7 2 _ rfl; have hx7_3 : w15.cell? ⟨go5, (x5_1 : Int).toNat * 4 + 3, none⟩ = some (.string ((rd_T55 y177 x5_1).f3)) := hcc7 3 _ rfl; have hf7_0 : w15.frozen? ⟨go5, (x5_1 : Int).toNat * 4, none⟩ = false := hfr7 0; have hf7_1 : w15.frozen? ⟨go5, (x5_1 : Int).toNat * 4 + 1, none⟩ = false := hfr7 1; have hf7_2 : w15.frozen? ⟨go5, (x5_1 : Int).toNat * 4 + 2, none⟩ = false := hfr7 2; have hf7_3 : w15.frozen? ⟨go5, (x5_1 : Int).toNat * 4 + 3, none⟩ = false := hfr7 3; clear hcl7 hcc7 hfr7 hM7; replace p7 := eq_true p7; replace q7 := eq_true q7; have HX16 := Aside0.mk (show Kd.R k55 55 w15 w0.heap.size (fun k_ => (P0_ k_ ∨ w.heap.size ≤ k_)) (.slice (some ⟨go5, 0, none⟩) x0_1.length co12) y177 from (RQ HO_0.out)); obtain ⟨ce16, hcl16, hM16, hcc16, hfr16⟩ := Kd.R_elem HX16.out z55 (x5_1 : Int) (of_decide_eq_true AS) (by have h_ : (x5_1 : Int) < ((x0_1.length : Int) : Int) := of_decide_eq_true AS; first | exact h_ | (have e_ := (Kd.R_reads' HO_0.out).1; omega) | simpa using h_); obtain rfl := k55_openM hM16; have HP16 := Kd.R_seg HX16.out (x5_1 : Int) (of_decide_eq_true AS) (by have h_ : (x5_1 : Int) < ((x0_1.length : Int) : Int) := of_decide_eq_true AS; first | exact h_ | (have e_ := (Kd.R_reads' HO_0.out).1; omega) | simpa using h_) (seg := [.string t178]) (j := 1) hcl16 hcc16 (show 2 ≤ 4 from by decide) (x' := (⟨(rd_T55 y177 x5_1).f0, t178, (rd_T55 y177 x5_1).f2, (rd_T55 y177 x5_1).f3⟩ : S55)) (k55_mkM _ _ _ (⟨(rd_T55 y177 x5_1).f0, t178, (rd_T55 y177 x5_1).f2, (rd_T55 y177 x5_1).f3⟩ : S55) ) (fun _ hk => hk); have hx16_1 := hcc16 1 _ rfl; (try simp only [show (k55).sz = 4 from rfl, Nat.mul_one, Nat.add_zero] at hx16_1); have hf16_1 := hfr16 1; (try simp only [show (k55).sz = 4 from rfl, Nat.mul_one, Nat.add_zero] at hf16_1); clear hcl16 hcc16 hfr16 hM16) | ((with_reducible refine gate_store (t := 9) (p := 24) rfl ?_); refine store_event (t := 9) (p := 24) (v := ?vo_w17) (w1 := (w15.setCell ⟨go5, (x5_1 : Int).toNat * 4 + 1, none⟩ (.string t178))) ?hg ?ho ?hn ?hr ?_; (case ho => rfl); (case hg => rfl); (case hn => rfl); (case hr => first | (go_simp; done) | (go_simp; rfl)); intro w17 hw; have hg : w15.grownBy w17 (some go5) := (by rw [hw]; exact HP16.2); have hp_ : Kd.R k55 55 w17 w0.heap.size (fun k_ => (P0_ k_ ∨ w.heap.size ≤ k_)) (.slice (some ⟨go5, 0, none⟩) x0_1.length co12) y179 := (by rw [hw, Ny179.out]; exact HP16.1); clear HP16; replace HK := Aside0.mk (Kept.of_grown (S := (fun k_ => P0_ k_)) hg (KL) (fun k_ e_ => (HO_0.out.1 k_ e_))); replace HO_0 := Aside0.mk (hp_); replace HB := Aside0.mk ((by rw [hw]; exact below_set (HB.out) GB5.out : Below w0.heap.size w0 w17)); clear hg hw hp_) | ((with_reducible refine gate_callee (f := 69) rfl ?_); refine goesL_ (some 30) rfl rfl Try.func69 (by kernel_rfl) rfl #[.int .i64 (wrap64 ((wrap64 (x1_1 + 1)) + 1))] rfl (MA) ?_; (with_reducible refine (laws_markText.calls k1 (wrap64 ((wrap64 (x1_1 + 1)) + 1)) t180 _ A8.out).mono ?_); rintro e w18 ⟨rfl, hb⟩; refine ⟨_, rfl, ?_⟩; have n0_ := Aside0.mk (Kd.R_below (RQ HO_0.out) hb); have n1_ := Aside0.mk (Kept.below (S := (fun k_ => P0_ k_)) (KL) hb); have n2_ := Aside0.mk (below_step (BL) hb); clear HO_0; clear HK; clear HB; have HO_0 := n0_; have HK := n1_; have HB := n2_; clear n0_ n1_ n2_; (try clear hb); (try clear hb2); (try clear hk); (try clear hi); have p9 : 0 ≤ (x5_1 : Int) := of_decide_eq_true AS; have q9 : (x5_1 : Int) < ((x0_1.length : Int) : Int) := of_decide_eq_true AS; obtain ⟨ce9, hcl9, hM9, hcc9, hfr9⟩ := Kd.R_elem HO_0.out z55 (x5_1 : Int) p9 q9; obtain rfl := k55_openM hM9; have hx9_0 : w18.cell? ⟨go5, (x5_1 : Int).toNat * 4, none⟩ = some (.int .i64 ((rd_T55 y179 x5_1).f0)) := hcc9 0 _ rfl; have hx9_1 : w18.cell? ⟨go5, (x5_1 : Int).toNat * 4 + 1, none⟩ = some (.string ((rd_T55 y179 x5_1).f1)) := hcc9 1 _ rfl; have hx9_2 : w18.cell? ⟨go5, (x5_1 : Int).toNat * 4 + 2, none⟩ = some (.string ((rd_T55 y179 x5_1).f2)) := hcc9 2 _ rfl; have hx9_3 : w18.cell? ⟨go5, (x5_1 : Int).toNat * 4 + 3, none⟩ = some (.string ((rd_T55 y179 x5_1).f3)) := hcc9 3 _ rfl; have hf9_0 : w18.frozen? ⟨go5, (x5_1 : Int).toNat * 4, none⟩ = false := hfr9 0; have hf9_1 : w18.frozen? ⟨go5, (x5_1 : Int).toNat * 4 + 1, none⟩ = false := hfr9 1; have hf9_2 : w18.frozen? ⟨go5, (x5_1 : Int).toNat * 4 + 2, none⟩ = false := hfr9 2; have hf9_3 : w18.frozen? ⟨go5, (x5_1 : Int).toNat * 4 + 3, none⟩ = false := hfr9 3; clear hcl9 hcc9 hfr9 hM9; replace p9 := eq_true p9; replace q9 := eq_true q9; have HX19 := Aside0.mk (show Kd.R k55 55 w18 w0.heap.size (fun k_ => (P0_ k_ ∨ w.heap.size ≤ k_)) (.slice (some ⟨go5, 0, none⟩) x0_1.length co12) y179 from (RQ HO_0.out)); obtain ⟨ce19, hcl19, hM19, hcc19, hfr19⟩ := Kd.R_elem HX19.out z55 (x5_1 : Int) (of_decide_eq_true AS) (by have h_ : (x5_1 : Int) < ((x0_1.length : Int) : Int) := of_decide_eq_true AS; first | exact h_ | (have e_ := (Kd.R_reads' HO_0.out).1; omega) | simpa using h_); obtain rfl := k55_openM hM19; have HP19 := Kd.R_seg HX19.out (x5_1 : Int) (of_decide_eq_true AS) (by have h_ : (x5_1 : Int) < ((x0_1.length : Int) : Int) := of_decide_eq_true AS; first | exact h_ | (have e_ := (Kd.R_reads' HO_0.out).1; omega) | simpa using h_) (seg := [.string t180]) (j := 2) hcl19 hcc19 (show 3 ≤ 4 from by decide) (x' := (⟨(rd_T55 y179 x5_1).f0, (rd_T55 y179 x5_1).f1, t180, (rd_T55 y179 x5_1).f3⟩ : S55)) (k55_mkM _ _ _ (⟨(rd_T55 y179 x5_1).f0, (rd_T55 y179 x5_1).f1, t180, (rd_T55 y179 x5_1).f3⟩ : S55) ) (fun _ hk => hk); have hx19_2 := hcc19 2 _ rfl; (try simp only [show (k55).sz = 4 from rfl, Nat.mul_one, Nat.add_zero] at hx19_2); have hf19_2 := hfr19 2; (try simp only [show (k55).sz = 4 from rfl, Nat.mul_one, Nat.add_zero] at hf19_2); clear hcl19 hcc19 hfr19 hM19) | ((with_reducible refine gate_store (t := 9) (p := 32) rfl ?_); refine store_event (t := 9) (p := 32) (v := ?vo_w20) (w1 := (w18.setCell ⟨go5, (x5_1 : Int).toNat * 4 + 2, none⟩ (.string t180))) ?hg ?ho ?hn ?hr ?_; (case ho => rfl); (case hg => rfl); (case hn => rfl); (case hr => first | (go_simp; done) | (go_simp; rfl)); intro w20 hw; have hg : w18.grownBy w20 (some go5) := (by rw [hw]; exact HP19.2); have hp_ : Kd.R k55 55 w20 w0.heap.size (fun k_ => (P0_ k_ ∨ w.heap.size ≤ k_)) (.slice (some ⟨go5, 0, none⟩) x0_1.length co12) y181 := (by rw [hw, Ny181.out]; exact HP19.1); clear HP19; replace HK := Aside0.mk (Kept.of_grown (S := (fun k_ => P0_ k_)) hg (KL) (fun k_ e_ => (HO_0.out.1 k_ e_))); replace HO_0 := Aside0.mk (hp_); replace HB := Aside0.mk ((by rw [hw]; exact below_set (HB.out) GB5.out : Below w0.heap.size w0 w20)); clear hg hw hp_) | ((with_reducible refine gate_callee (f := 69) rfl ?_); refine goesL_ (some 38) rfl rfl Try.func69 (by kernel_rfl) rfl #[.int .i64 (wrap64 ((wrap64 ((wrap64 (x1_1 + 1)) + 1)) + 1))] rfl (MA) ?_; (with_reducible refine (laws_markText.calls k1 (wrap64 ((wrap64 ((wrap64 (x1_1 + 1)) + 1)) + 1)) t182 _ A10.out).mono ?_); rintro e w21 ⟨rfl, hb⟩; refine ⟨_, rfl, ?_⟩; have n0_ := Aside0.mk (Kd.R_below (RQ HO_0.out) hb); have n1_ := Aside0.mk (Kept.below (S := (fun k_ => P0_ k_)) (KL) hb); have n2_ := Aside0.mk (below_step (BL) hb); clear HO_0; clear HK; clear HB; have HO_0 := n0_; have HK := n1_; have HB := n2_; clear n0_ n1_ n2_; (try clear hb); (try clear hb2); (try clear hk); (try clear hi); have p11 : 0 ≤ (x5_1 : Int) := of_decide_eq_true AS; have q11 : (x5_1 : Int) < ((x0_1.length : Int) : Int) := of_decide_eq_true AS; obtain ⟨ce11, hcl11, hM11, hcc11, hfr11⟩ := Kd.R_elem HO_0.out z55 (x5_1 : Int) p11 q11; obtain rfl := k55_openM hM11; have hx11_0 : w21.cell? ⟨go5, (x5_1 : Int).toNat * 4, none⟩ = some (.int .i64 ((rd_T55 y181 x5_1).f0)) := hcc11 0 _ rfl; have hx11_1 : w21.cell? ⟨go5, (x5_1 : Int).toNat * 4 + 1, none⟩ = some (.string ((rd_T55 y181 x5_1).f1)) := hcc11 1 _ rfl; have hx11_2 : w21.cell? ⟨go5, (x5_1 : Int).toNat * 4 + 2, none⟩ = some (.string ((rd_T55 y181 x5_1).f2)) := hcc11 2 _ rfl; have hx11_3 : w21.cell? ⟨go5, (x5_1 : Int).toNat * 4 + 3, none⟩ = some (.string ((rd_T55 y181 x5_1).f3)) := hcc11 3 _ rfl; have hf11_0 : w21.frozen? ⟨go5, (x5_1 : Int).toNat * 4, none⟩ = false := hfr11 0; have hf11_1 : w21.frozen? ⟨go5, (x5_1 : Int).toNat * 4 + 1, none⟩ = false := hfr11 1; have hf11_2 : w21.frozen? ⟨go5, (x5_1 : Int).toNat * 4 + 2, none⟩ = false := hfr11 2; have hf11_3 : w21.frozen? ⟨go5, (x5_1 : Int).toNat * 4 + 3, none⟩ = false := hfr11 3; clear hcl11 hcc11 hfr11 hM11; replace p11 := eq_true p11; replace q11 := eq_true q11; have HX22 := Aside0.mk (show Kd.R k55 55 w21 w0.heap.size (fun k_ => (P0_ k_ ∨ w.heap.size ≤ k_)) (.slice (some ⟨go5, 0, none⟩) x0_1.length co12) y181 from (RQ HO_0.out)); obtain ⟨ce22, hcl22, hM22, hcc22, hfr22⟩ := Kd.R_elem HX22.out z55 (x5_1 : Int) (of_decide_eq_true AS) (by have h_ : (x5_1 : Int) < ((x0_1.length : Int) : Int) := of_decide_eq_true AS; first | exact h_ | (have e_ := (Kd.R_reads' HO_0.out).1; omega) | simpa using h_); obtain rfl := k55_openM hM22; have HP22 := Kd.R_seg HX22.out (x5_1 : Int) (of_decide_eq_true AS) (by have h_ : (x5_1 : Int) < ((x0_1.length : Int) : Int) := of_decide_eq_true AS; first | exact h_ | (have e_ := (Kd.R_reads' HO_0.out).1; omega) | simpa using h_) (seg := [.string t182]) (j := 3) hcl22 hcc22 (show 4 ≤ 4 from by decide) (x' := (⟨(rd_T55 y181 x5_1).f0, (rd_T55 y181 x5_1).f1, (rd_T55 y181 x5_1).f2, t182⟩ : S55)) (k55_mkM _ _ _ (⟨(rd_T55 y181 x5_1).f0, (rd_T55 y181 x5_1).f1, (rd_T55 y181 x5_1).f2, t182⟩ : S55) ) (fun _ hk => hk); have hx22_3 := hcc22 3 _ rfl; (try simp only [show (k55).sz = 4 from rfl, Nat.mul_one, Nat.add_zero] at hx22_3); have hf22_3 := hfr22 3; (try simp only [show (k55).sz = 4 from rfl, Nat.mul_one, Nat.add_zero] at hf22_3); clear hcl22 hcc22 hfr22 hM22) | ((with_reducible refine gate_store (t := 9) (p := 40) rfl ?_); refine store_event (t := 9) (p := 40) (v := ?vo_w23) (w1 := (w21.setCell ⟨go5, (x5_1 : Int).toNat * 4 + 3, none⟩ (.string t182))) ?hg ?ho ?hn ?hr ?_; (case ho => rfl); (case hg => rfl); (case hn => rfl); (case hr => first | (go_simp; done) | (go_simp; rfl)); intro w23 hw; have hg : w21.grownBy w23 (some go5) := (by rw [hw]; exact HP22.2); have hp_ : Kd.R k55 55 w23 w0.heap.size (fun k_ => (P0_ k_ ∨ w.heap.size ≤ k_)) (.slice (some ⟨go5, 0, none⟩) x0_1.length co12) y183 := (by rw [hw, Ny183.out]; exact HP22.1); clear HP22; replace HK := Aside0.mk (Kept.of_grown (S := (fun k_ => P0_ k_)) hg (KL) (fun k_ e_ => (HO_0.out.1 k_ e_))); replace HO_0 := Aside0.mk (hp_); replace HB := Aside0.mk ((by rw [hw]; exact below_set (HB.out) GB5.out : Below w0.heap.size w0 w23)); clear hg hw hp_))
   go_roundg k1
   case measure => have := HK1.out; omega
   case rel => exact ⟨(y183), (wrap64 ((wrap64 ((wrap64 ((wrap64 (x1_1 + 1)) + 1)) + 1)) + 1)), (wrap64 (x5_1 + 1)), SD, SD, H', ⟨by have := HK1.out; omega⟩, ⟨RQ HO_0.out⟩, ⟨KL⟩, ⟨BL⟩⟩

/-! ### impl_within: function 51 -/
def impl_within.f (a0 : Int) (a1 : Int) (a2 : Int) : Option (Bool) := if a0 ≥ a1 then (some (decide (a0 ≤ a2))) else (some false)
set_option maxHeartbeats 8000000 in
set_option maxRecDepth 100000 in
theorem impl_within.calls (a0 : Int) (a1 : Int) (a2 : Int) (r : Bool) (w : World) (h : impl_within.f a0 a1 a2 = some r) :
  Calls Try.prog 51 #[.int .i64 a0, .int .i64 a1, .int .i64 a2] w fun e w' => e = .returned (.bool r) ∧ Drawn0 w w' := by
 have H : (if a0 ≥ a1 then (some (decide (a0 ≤ a2))) else (some false)) = some r := h
 clear h
 by_cases c4 : a0 ≥ a1
 ·
  rw [if_pos c4] at H; have c4b0 : decide (a1 ≤ a0) = true := decide_eq_true c4; clear c4; obtain rfl := Option.some.inj H
  go_enter Try.func51, Try.ntmps51
  go_wp2
  go_ret
  exact ⟨by first | rfl | (simp; done) | (simp [*]; done), by repeat (first | exact Drawn0.refl _ | apply Drawn0.step)⟩
 rw [if_neg c4] at H
 have c4b0 : decide (a1 ≤ a0) = false := decide_eq_false c4
 clear c4
 obtain rfl := Option.some.inj H
 go_enter Try.func51, Try.ntmps51
 go_wp2
 go_ret
 exact ⟨by first | rfl | (simp; done) | (simp [*]; done), by repeat (first | exact Drawn0.refl _ | apply Drawn0.step)⟩

/-! ### impl_DiskOk: function 15 -/
def impl_DiskOk.l0 : Nat → List (S45) → Int → Int → List (S45) → Option (Bool)
 | 0, _, _, _, _ => none
 | k + 1, x6, x7, x8, x185000 => if x8 < x7 then (if 0 ≤ x8 then (if x8 < (x6.length : Int) then ((impl_within.f (((rd_T45 x6 x8).f0).size : Int) 1 8).bind fun t187 => (if t187 = true then (if (((rd_T45 x6 x8).f1).size : Int) > 20000 then (some false) else ((impl_within.f ((rd_T45 x6 x8).f2) 0 (((rd_T45 x6 x8).f1).size : Int)).bind fun t188 => (if t188 = true then (if x8 > 0 then (if 0 ≤ (wrap64 (x8 - 1)) then (if (wrap64 (x8 - 1)) < (x185000.length : Int) then (if ((Op.bytesLess (((rd_T45 x185000 (wrap64 (x8 - 1))).f0).toList) (((rd_T45 x6 x8).f0).toList)) = true) then (impl_DiskOk.l0 k x6 x7 (wrap64 (x8 + 1)) x185000) else (some false)) else (none)) else (none)) else (impl_DiskOk.l0 k x6 x7 (wrap64 (x8 + 1)) x185000)) else (some false)))) else (some false))) else (none)) else (none)) else (some (decide ((x185000.length : Int) ≤ 30)))
def impl_DiskOk.f (k : Nat) (l0_0 : List (S45)) : Option (Bool) := impl_DiskOk.l0 k l0_0 (l0_0.length : Int) 0 l0_0
theorem impl_DiskOk.mono_l : ∀ k, (∀ y0 y1 y2 y3, LeO (impl_DiskOk.l0 k y0 y1 y2 y3) (impl_DiskOk.l0 (k + 1) y0 y1 y2 y3))
 | 0 => fun _ _ _ _ r h => by simp [impl_DiskOk.l0] at h
 | k + 1 => by
  have ih0 := impl_DiskOk.mono_l k
  ·
   intro y0 y1 y2 y3
   unfold impl_DiskOk.l0
   repeat' first
   | (with_reducible exact ih0 _ _ _ _)
   | (with_reducible exact LeO.refl _)
   | (with_reducible exact LeO.none _)
   | (with_reducible refine LeO.ite ?_ ?_)
   | (with_reducible refine LeO.bind ?_ (fun _ => ?_))
   | exact ih0 _ _ _ _
   | exact LeO.none _
   | refine LeO.ite ?_ ?_
   | refine LeO.bind ?_ (fun _ => ?_)
theorem impl_DiskOk.mono : ∀ a0 k, LeO (impl_DiskOk.f k a0) (impl_DiskOk.f (k + 1) a0) := by
 intro a0 k
 have ih0 := impl_DiskOk.mono_l k
 unfold impl_DiskOk.f
 repeat' first
   | (with_reducible exact ih0 _ _ _ _)
   | (with_reducible exact LeO.refl _)
   | (with_reducible exact LeO.none _)
   | (with_reducible refine LeO.ite ?_ ?_)
   | (with_reducible refine LeO.bind ?_ (fun _ => ?_))
   | exact ih0 _ _ _ _
   | exact LeO.none _
   | refine LeO.ite ?_ ?_
   | refine LeO.bind ?_ (fun _ => ?_)
def impl_DiskOk.T4 : Bool × List (List Nat × List Nat) := (true, [([], []), ([0], [0]), ([1], [1]), ([2], [2]), ([3], [3]), ([4, 3], [4]), ([5], [5]), ([6, 5], [5, 6]), ([7, 5], [5, 7]), ([8, 5], [5, 8]), ([5, 9], [5, 9]), ([10, 5], [10]), ([11], [11]), ([12, 11], [11, 12]), ([11], [11]), ([14, 11], [11, 14]), ([15, 11], [11, 15]), ([13, 16, 11, 11], [11, 13, 16]), ([17, 11], [11, 17]), ([11, 18], [11, 18]), ([19, 17], [19]), ([20], [20]), ([21, 20], [20, 21]), ([22, 20, 20], [20, 22]), ([23], [23]), ([24, 23], [23, 24]), ([23], [23]), ([26, 23], [23, 26]), ([25, 27, 23], [23, 25, 27]), ([28, 23], [23, 28]), ([29, 23], [23, 29]), ([23], [23]), ([31, 23], [23, 31]), ([30, 32, 23], [23, 30, 32]), ([23, 33, 20], [20, 23, 33]), ([20, 34], [20, 34])])
def impl_DiskOk.B4 : List Nat := [0, 1, 3, 7, 15, 31, 63, 127, 255, 511, 1023, 2047, 4095, 8191, 4095, 20479, 53247, 131071, 262143, 524287, 1048575, 2097151, 4194303, 8388607, 16777215, 33554431, 16777215, 83886079, 268435455, 536870911, 1073741823, 16777215, 2164260863, 8589934591, 17179869183, 34359738367]
theorem impl_DiskOk.tab4 : rtab .any (opsOf Try.f15 4) = impl_DiskOk.T4 := by kernel_rfl
theorem impl_DiskOk.bits4 : waitsOk impl_DiskOk.T4.2 impl_DiskOk.B4 = true := by kernel_rfl
set_option maxHeartbeats 8000000 in
set_option maxRecDepth 100000 in
theorem impl_DiskOk.calls (k : Nat) (A0_0 : Option Addr) (c0_0 : Nat) (l0_0 : List (S45)) (r : Bool) (w : World) (hr0_0 : Kd.C k45 w A0_0 l0_0.length l0_0) (hc0_0 : l0_0.length ≤ c0_0) (h : impl_DiskOk.f k l0_0 = some r) :
  Calls Try.prog 15 #[.agg #[.slice A0_0 l0_0.length c0_0]] w fun e w' => e = .returned (.bool r) ∧ Below w.heap.size w w' := by
 have hu29 := Try.underlying29
 have hu45 := Try.underlying45
 have HR0_0 := Aside0.mk hr0_0
 have HC0_0 := Aside0.mk hc0_0
 clear hr0_0 hc0_0
 have HB := Aside0.mk (Below.refl w.heap.size w)
 have H : (impl_DiskOk.l0 k l0_0 (l0_0.length : Int) 0 l0_0) = some r := h
 clear h
 have H' := Aside0.mk H
 clear H
 go_enter Try.func15, Try.ntmps15
 go_wp2_with (first | ((with_reducible refine gate_dst (N := 1) rfl ?_); (try (refine gate_guard (by rfl) ?_; dsimp only)); refine bE 1 #[.slice A0_0 l0_0.length c0_0] 29 ?_; intro gb184 hg w2 hbox hb; have BK184 := Aside0.mk (hbox); have GW184 : Aside0 (w.heap.size ≤ gb184) := GS; have GE184 := GW184; replace HB := Aside0.mk (below_step (BL) hb); clear hb hbox hg; have hcz3_0 : w2.cell? ⟨gb184, 0, none⟩ = some (.slice A0_0 l0_0.length c0_0) := CZ BK184.out 0; have hfz3_0 := blk_frozen BK184.out 0))
 go_loopg [8] k (fun kq v8 w' => ∃ (x8_1 : Int), v8 = .int .i64 x8_1 ∧ Aside0 (impl_DiskOk.l0 kq l0_0 (l0_0.length : Int) x8_1 l0_0 = some r) ∧ Aside0 (kq ≤ k) ∧ Aside0 (w'.heap[gb184]? = some (.cells #[(.slice A0_0 l0_0.length c0_0)] 29 (0, 0))) ∧ Aside0 (Below w.heap.size w w'))
 case atStart => exact ⟨(0), SD, H', ⟨Nat.le_refl _⟩, ⟨BQ BK184.out⟩, ⟨BL⟩⟩
 case round =>
  clear H'
  try clear c1 p2 hcz3_0 hfz3_0
  obtain ⟨x8_1, rfl, HA, HK1, BK184, HB⟩ := hrel; cases gk with
  | zero => exact absurd HA.out (by simp [impl_DiskOk.l0])
  | succ k1 =>
   have H := HA.out; clear HA; simp only [impl_DiskOk.l0] at H
   by_cases c4 : x8_1 < (l0_0.length : Int); rotate_left
   ·
    rw [if_neg c4] at H; have c4b0 : decide (x8_1 < (l0_0.length : Int)) = false := decide_eq_false c4; clear c4; obtain rfl := Option.some.inj H; have hcz47_0 : wr.cell? ⟨gb184, 0, none⟩ = some (.slice A0_0 l0_0.length c0_0) := CZ BK184.out 0; have hfz47_0 := blk_frozen BK184.out 0
    go_wp2
    go_ret
    exact ⟨EE, BL⟩
   rw [if_pos c4] at H; have c4b0 : decide (x8_1 < (l0_0.length : Int)) = true := decide_eq_true c4; clear c4
   by_cases c5 : 0 ≤ x8_1; rotate_left
   ·
    rw [if_neg c5] at H; exact absurd H (by simp)
   rw [if_pos c5] at H; have c5b0 : decide (0 ≤ x8_1) = true := decide_eq_true c5; clear c5
   by_cases c6 : x8_1 < (l0_0.length : Int); rotate_left
   ·
    rw [if_neg c6] at H; exact absurd H (by simp)
   rw [if_pos c6] at H; have c6b0 : decide (x8_1 < (l0_0.length : Int)) = true := decide_eq_true c6; clear c6; replace H := Option.bind_eq_some_iff.mp H; obtain ⟨t187, A70, H⟩ := H; have A7 := Aside0.mk A70; clear A70
   by_cases c8 : t187 = true; rotate_left
   ·
    replace c8 := Bool.eq_false_iff.mpr c8; subst c8
    have H1 : (some false) = some r := by rw [if_neg (show ¬ (false = true) by decide)] at H; exact H
    clear H; have H := H1; clear H1; obtain rfl := Option.some.inj H; have p185 : 0 ≤ (x8_1 : Int) := of_decide_eq_true AS; have q185 : x8_1 < (l0_0.length : Int) := of_decide_eq_true AS; obtain ⟨ad185, e185, hx185_0, hx185_1, hx185_2⟩ := at_T45 HR0_0.out x8_1 p185 q185; cases e185; replace hx185_0 := (HB.out.cell (World.block_lt_of_cell? w _ hx185_0)).trans hx185_0; replace hx185_1 := (HB.out.cell (World.block_lt_of_cell? w _ hx185_1)).trans hx185_1; replace hx185_2 := (HB.out.cell (World.block_lt_of_cell? w _ hx185_2)).trans hx185_2; replace p185 := eq_true p185; replace q185 := eq_true q185
    try go_wp2_with (first | ((with_reducible refine gate_dst (N := 4) rfl ?_); (try (refine gate_guard (by rfl) ?_; dsimp only)); refine bE 4 #[.string (⟨#[]⟩ : ByteArray), .string (⟨#[]⟩ : ByteArray), .int .i64 0] 45 ?_; intro gb186 hg w42 hbox hb; have BK186 := Aside0.mk (hbox); have GW186 : Aside0 (w.heap.size ≤ gb186) := GS; have GE186 := GW186; have NB184_186 := NL BK184.out hg; have NB186_184 := NG BK184.out hg; replace BK184 := BB BK184.out hb; replace HB := Aside0.mk (below_step (BL) hb); clear hb hbox hg; have hnb43 := NB186_184.out; have hnc43 := NB184_186.out; have hcz44_0 : w42.cell? ⟨gb186, 0, none⟩ = some (.string (⟨#[]⟩ : ByteArray)) := CZ BK186.out 0; have hcz44_1 : w42.cell? ⟨gb186, 1, none⟩ = some (.string (⟨#[]⟩ : ByteArray)) := CZ BK186.out 1; have hcz44_2 : w42.cell? ⟨gb186, 2, none⟩ = some (.int .i64 0) := CZ BK186.out 2; have hfz44_0 := blk_frozen BK186.out 0; have hfz44_1 := blk_frozen BK186.out 1; have hfz44_2 := blk_frozen BK186.out 2))
    have n0_ : Aside0 ((((w42.setCell ⟨gb186, 0, none⟩ (.string ((rd_T45 l0_0 x8_1).f0))).setCell ⟨gb186, 1, none⟩ (.string ((rd_T45 l0_0 x8_1).f1))).setCell ⟨gb186, 2, none⟩ (.int .i64 ((rd_T45 l0_0 x8_1).f2))).heap[gb184]? = some (.cells #[.slice (some ad185) l0_0.length c0_0] 29 (0, 0))) := ⟨BP BK184.out⟩; have n1_ : Aside0 ((((w42.setCell ⟨gb186, 0, none⟩ (.string ((rd_T45 l0_0 x8_1).f0))).setCell ⟨gb186, 1, none⟩ (.string ((rd_T45 l0_0 x8_1).f1))).setCell ⟨gb186, 2, none⟩ (.int .i64 ((rd_T45 l0_0 x8_1).f2))).heap[gb186]? = some (.cells #[.string ((rd_T45 l0_0 x8_1).f0), .string ((rd_T45 l0_0 x8_1).f1), .int .i64 ((rd_T45 l0_0 x8_1).f2)] 45 (0, 0))) := ⟨BU BK186.out⟩; have n2_ : Aside0 (Below w.heap.size w (((w42.setCell ⟨gb186, 0, none⟩ (.string ((rd_T45 l0_0 x8_1).f0))).setCell ⟨gb186, 1, none⟩ (.string ((rd_T45 l0_0 x8_1).f1))).setCell ⟨gb186, 2, none⟩ (.int .i64 ((rd_T45 l0_0 x8_1).f2)))) := ⟨BL⟩
    (try clear BK184)
    (try clear BK186)
    (try clear HB)
    generalize (((w42.setCell ⟨gb186, 0, none⟩ (.string ((rd_T45 l0_0 x8_1).f0))).setCell ⟨gb186, 1, none⟩ (.string ((rd_T45 l0_0 x8_1).f1))).setCell ⟨gb186, 2, none⟩ (.int .i64 ((rd_T45 l0_0 x8_1).f2))) = w45 at n0_ n1_ n2_ ⊢; have BK184 := n0_; have BK186 := n1_; have HB := n2_; clear n0_ n1_ n2_; have n0_ := Aside0.mk (blk_drew BK184.out); have n1_ := Aside0.mk (blk_drew BK186.out); have n2_ := Aside0.mk (below_drew1 HB.out); clear BK184; clear BK186; clear HB; have BK184 := n0_; have BK186 := n1_; have HB := n2_; clear n0_ n1_ n2_; refine start_ (n := 36) (S := fun w' => w'.cell? ⟨gb186, 0, none⟩ = some (.string ((rd_T45 l0_0 x8_1).f0)) ∧ w'.cell? ⟨gb186, 1, none⟩ = some (.string ((rd_T45 l0_0 x8_1).f1)) ∧ w'.cell? ⟨gb186, 2, none⟩ = some (.int .i64 ((rd_T45 l0_0 x8_1).f2))) (ds := []) #[false, false, false, false, false, false, false, false, false, false, false, false, false, false, false, false, false, false, false, false, false, false, false, false, false, false, false, false, false, false, false, false, false, false, false, false] (by kernel_rfl) rfl rfl ⟨CZ BK186.out 0, CZ BK186.out 1, CZ BK186.out 2⟩ (fun hHeld => ?_); refine with_tabW impl_DiskOk.tab4 impl_DiskOk.bits4 (fun HT_ HW_ => ?_); generalize w45.drew = w46 at BK184 BK186 HB hHeld ⊢; refine pV 0 13 (OB 36 1) ?_; refine take_ (i := 1) (N := some 14) (v := ?_) (a' := ?_) (OB 36 3) rfl rfl (take_ofW HT_.out HW_.out (by kernel_rfl)) (fun _ _ _ h => h) (Or.inl ⟨by rfl, ?_⟩) hHeld ?_ ?_; rotate_left
    ·
     rintro w' ⟨s0, s1, s2⟩
     go_simp
     with_reducible rfl
    rotate_left
    ·
     simp only [Act.put, zA, zB, zC, i64_w, i32_w]; rfl
    refine pV 2 15 (OB 36 7) ?_; refine one_ (i := 3) (N := some 16) (OB 36 15) rfl rfl (one_of HT_.out (by kernel_rfl)) (by decide) (fun K hK => ?_); refine goes_ Try.func51 (by kernel_rfl) rfl #[.int .i64 (((rd_T45 l0_0 x8_1).f0).size : Int), .int .i64 1, .int .i64 8] (by rfl) rfl rfl (MA) ?_
    with_reducible refine (impl_within.calls (((rd_T45 l0_0 x8_1).f0).size : Int) 1 8 false _ A7.out).mono ?_
    rintro e w' ⟨rfl, ⟨nd, rfl⟩⟩; refine ⟨_, rfl, ?_⟩; refine hK.out _ _ ⟨CZ BK186.out 0, CZ BK186.out 1, CZ BK186.out 2⟩ (fun hHeld => ?_); clear hK K; refine norm_ (a' := ?_) ?_ ?_; rotate_left
    ·
     show Act.put _ (some 16) _ = _; simp only [Act.put, zA, zB, zC, i64_w, i32_w]; rfl
    refine pV 4 17 (OB 36 31) ?_; refine pV 5 18 (OB 36 63) ?_; refine pN 6 19 (OB 36 127) ?_; refine pN 7 20 (OB 36 255) ?_; refine pN 8 21 (OB 36 511) ?_; refine pN 9 22 (OB 36 1023) ?_; refine pV 10 23 (OB 36 2047) ?_; refine pV 11 24 (OB 36 4095) ?_; refine pN 12 25 (OB 36 8191) ?_; refine pN 13 26 (OB 36 16383) ?_; refine pN 14 27 (OB 36 32767) ?_; refine pN 15 28 (OB 36 65535) ?_; refine pN 16 29 (OB 36 131071) ?_; refine pN 17 30 (OB 36 262143) ?_; refine pN 18 31 (OB 36 524287) ?_; refine pV 19 32 (OB 36 1048575) ?_; refine pV 20 33 (OB 36 2097151) ?_; refine pN 21 34 (OB 36 4194303) ?_; refine pN 22 35 (OB 36 8388607) ?_; refine pN 23 36 (OB 36 16777215) ?_; refine pN 24 37 (OB 36 33554431) ?_; refine pN 25 38 (OB 36 67108863) ?_; refine pN 26 39 (OB 36 134217727) ?_; refine pN 27 40 (OB 36 268435455) ?_; refine pN 28 41 (OB 36 536870911) ?_; refine pN 29 42 (OB 36 1073741823) ?_; refine pN 30 43 (OB 36 2147483647) ?_; refine pN 31 44 (OB 36 4294967295) ?_; refine pN 32 45 (OB 36 8589934591) ?_; refine pN 33 46 (OB 36 17179869183) ?_; refine pN 34 47 (OB 36 34359738367) ?_; refine pV 35 48 (OB 36 68719476735) ?_; refine done_ (done_of HT_.out (by kernel_rfl)) ?_
    try go_wp2
    go_ret
    exact ⟨EE, BL⟩
   subst c8
   have H1 : (if (((rd_T45 l0_0 x8_1).f1).size : Int) > 20000 then (some false) else ((impl_within.f ((rd_T45 l0_0 x8_1).f2) 0 (((rd_T45 l0_0 x8_1).f1).size : Int)).bind fun t188 => (if t188 = true then (if x8_1 > 0 then (if 0 ≤ (wrap64 (x8_1 - 1)) then (if (wrap64 (x8_1 - 1)) < (l0_0.length : Int) then (if ((Op.bytesLess (((rd_T45 l0_0 (wrap64 (x8_1 - 1))).f0).toList) (((rd_T45 l0_0 x8_1).f0).toList)) = true) then (impl_DiskOk.l0 k1 l0_0 (l0_0.length : Int) (wrap64 (x8_1 + 1)) l0_0) else (some false)) else (none)) else (none)) else (impl_DiskOk.l0 k1 l0_0 (l0_0.length : Int) (wrap64 (x8_1 + 1)) l0_0)) else (some false)))) = some r := by rw [if_pos rfl] at H; exact H
   clear H; have H := H1; clear H1
   by_cases c9 : (((rd_T45 l0_0 x8_1).f1).size : Int) > 20000
   ·
    rw [if_pos c9] at H; have c9b0 : decide (20000 < (((rd_T45 l0_0 x8_1).f1).size : Int)) = true := decide_eq_true c9; have c9b1 : decide (20000 < ((rd_T45 l0_0 x8_1).f1).size) = true := decide_eq_true (by omega); clear c9; obtain rfl := Option.some.inj H; have p185 : 0 ≤ (x8_1 : Int) := of_decide_eq_true AS; have q185 : x8_1 < (l0_0.length : Int) := of_decide_eq_true AS; obtain ⟨ad185, e185, hx185_0, hx185_1, hx185_2⟩ := at_T45 HR0_0.out x8_1 p185 q185; cases e185; replace hx185_0 := (HB.out.cell (World.block_lt_of_cell? w _ hx185_0)).trans hx185_0; replace hx185_1 := (HB.out.cell (World.block_lt_of_cell? w _ hx185_1)).trans hx185_1; replace hx185_2 := (HB.out.cell (World.block_lt_of_cell? w _ hx185_2)).trans hx185_2; replace p185 := eq_true p185; replace q185 := eq_true q185
    try go_wp2_with (first | ((with_reducible refine gate_dst (N := 4) rfl ?_); (try (refine gate_guard (by rfl) ?_; dsimp only)); refine bE 4 #[.string (⟨#[]⟩ : ByteArray), .string (⟨#[]⟩ : ByteArray), .int .i64 0] 45 ?_; intro gb186 hg w10 hbox hb; have BK186 := Aside0.mk (hbox); have GW186 : Aside0 (w.heap.size ≤ gb186) := GS; have GE186 := GW186; have NB184_186 := NL BK184.out hg; have NB186_184 := NG BK184.out hg; replace BK184 := BB BK184.out hb; replace HB := Aside0.mk (below_step (BL) hb); clear hb hbox hg; have hnb11 := NB186_184.out; have hnc11 := NB184_186.out; have hcz12_0 : w10.cell? ⟨gb186, 0, none⟩ = some (.string (⟨#[]⟩ : ByteArray)) := CZ BK186.out 0; have hcz12_1 : w10.cell? ⟨gb186, 1, none⟩ = some (.string (⟨#[]⟩ : ByteArray)) := CZ BK186.out 1; have hcz12_2 : w10.cell? ⟨gb186, 2, none⟩ = some (.int .i64 0) := CZ BK186.out 2; have hfz12_0 := blk_frozen BK186.out 0; have hfz12_1 := blk_frozen BK186.out 1; have hfz12_2 := blk_frozen BK186.out 2))
    have n0_ : Aside0 ((((w10.setCell ⟨gb186, 0, none⟩ (.string ((rd_T45 l0_0 x8_1).f0))).setCell ⟨gb186, 1, none⟩ (.string ((rd_T45 l0_0 x8_1).f1))).setCell ⟨gb186, 2, none⟩ (.int .i64 ((rd_T45 l0_0 x8_1).f2))).heap[gb184]? = some (.cells #[.slice (some ad185) l0_0.length c0_0] 29 (0, 0))) := ⟨BP BK184.out⟩; have n1_ : Aside0 ((((w10.setCell ⟨gb186, 0, none⟩ (.string ((rd_T45 l0_0 x8_1).f0))).setCell ⟨gb186, 1, none⟩ (.string ((rd_T45 l0_0 x8_1).f1))).setCell ⟨gb186, 2, none⟩ (.int .i64 ((rd_T45 l0_0 x8_1).f2))).heap[gb186]? = some (.cells #[.string ((rd_T45 l0_0 x8_1).f0), .string ((rd_T45 l0_0 x8_1).f1), .int .i64 ((rd_T45 l0_0 x8_1).f2)] 45 (0, 0))) := ⟨BU BK186.out⟩; have n2_ : Aside0 (Below w.heap.size w (((w10.setCell ⟨gb186, 0, none⟩ (.string ((rd_T45 l0_0 x8_1).f0))).setCell ⟨gb186, 1, none⟩ (.string ((rd_T45 l0_0 x8_1).f1))).setCell ⟨gb186, 2, none⟩ (.int .i64 ((rd_T45 l0_0 x8_1).f2)))) := ⟨BL⟩
    (try clear BK184)
    (try clear BK186)
    (try clear HB)
    generalize (((w10.setCell ⟨gb186, 0, none⟩ (.string ((rd_T45 l0_0 x8_1).f0))).setCell ⟨gb186, 1, none⟩ (.string ((rd_T45 l0_0 x8_1).f1))).setCell ⟨gb186, 2, none⟩ (.int .i64 ((rd_T45 l0_0 x8_1).f2))) = w13 at n0_ n1_ n2_ ⊢; have BK184 := n0_; have BK186 := n1_; have HB := n2_; clear n0_ n1_ n2_; have n0_ := Aside0.mk (blk_drew BK184.out); have n1_ := Aside0.mk (blk_drew BK186.out); have n2_ := Aside0.mk (below_drew1 HB.out); clear BK184; clear BK186; clear HB; have BK184 := n0_; have BK186 := n1_; have HB := n2_; clear n0_ n1_ n2_; refine start_ (n := 36) (S := fun w' => w'.cell? ⟨gb186, 0, none⟩ = some (.string ((rd_T45 l0_0 x8_1).f0)) ∧ w'.cell? ⟨gb186, 1, none⟩ = some (.string ((rd_T45 l0_0 x8_1).f1)) ∧ w'.cell? ⟨gb186, 2, none⟩ = some (.int .i64 ((rd_T45 l0_0 x8_1).f2))) (ds := []) #[false, false, false, false, false, false, false, false, false, false, false, false, false, false, false, false, false, false, false, false, false, false, false, false, false, false, false, false, false, false, false, false, false, false, false, false] (by kernel_rfl) rfl rfl ⟨CZ BK186.out 0, CZ BK186.out 1, CZ BK186.out 2⟩ (fun hHeld => ?_); refine with_tabW impl_DiskOk.tab4 impl_DiskOk.bits4 (fun HT_ HW_ => ?_); generalize w13.drew = w14 at BK184 BK186 HB hHeld ⊢; refine pV 0 13 (OB 36 1) ?_; refine take_ (i := 1) (N := some 14) (v := ?_) (a' := ?_) (OB 36 3) rfl rfl (take_ofW HT_.out HW_.out (by kernel_rfl)) (fun _ _ _ h => h) (Or.inl ⟨by rfl, ?_⟩) hHeld ?_ ?_; rotate_left
    ·
     rintro w' ⟨s0, s1, s2⟩
     go_simp
     with_reducible rfl
    rotate_left
    ·
     simp only [Act.put, zA, zB, zC, i64_w, i32_w]; rfl
    refine pV 2 15 (OB 36 7) ?_; refine one_ (i := 3) (N := some 16) (OB 36 15) rfl rfl (one_of HT_.out (by kernel_rfl)) (by decide) (fun K hK => ?_); refine goes_ Try.func51 (by kernel_rfl) rfl #[.int .i64 (((rd_T45 l0_0 x8_1).f0).size : Int), .int .i64 1, .int .i64 8] (by rfl) rfl rfl (MA) ?_
    with_reducible refine (impl_within.calls (((rd_T45 l0_0 x8_1).f0).size : Int) 1 8 true _ A7.out).mono ?_
    rintro e w' ⟨rfl, ⟨nd, rfl⟩⟩; refine ⟨_, rfl, ?_⟩; refine hK.out _ _ ⟨CZ BK186.out 0, CZ BK186.out 1, CZ BK186.out 2⟩ (fun hHeld => ?_); clear hK K; refine norm_ (a' := ?_) ?_ ?_; rotate_left
    ·
     show Act.put _ (some 16) _ = _; simp only [Act.put, zA, zB, zC, i64_w, i32_w]; rfl
    refine pV 4 17 (OB 36 31) ?_; refine pV 5 18 (OB 36 63) ?_; refine pV 6 19 (OB 36 127) ?_; refine take_ (i := 7) (N := some 20) (v := ?_) (a' := ?_) (OB 36 255) rfl rfl (take_ofW HT_.out HW_.out (by kernel_rfl)) (fun _ _ _ h => h) (Or.inl ⟨by rfl, ?_⟩) hHeld ?_ ?_; rotate_left
    ·
     rintro w' ⟨s0, s1, s2⟩
     go_simp
     with_reducible rfl
    rotate_left
    ·
     simp only [Act.put, zA, zB, zC, i64_w, i32_w]; rfl
    refine pV 8 21 (OB 36 511) ?_; refine pV 9 22 (OB 36 1023) ?_; refine pV 10 23 (OB 36 2047) ?_; refine pV 11 24 (OB 36 4095) ?_; refine pN 12 25 (OB 36 8191) ?_; refine pN 13 26 (OB 36 16383) ?_; refine pN 14 27 (OB 36 32767) ?_; refine pN 15 28 (OB 36 65535) ?_; refine pN 16 29 (OB 36 131071) ?_; refine pN 17 30 (OB 36 262143) ?_; refine pN 18 31 (OB 36 524287) ?_; refine pV 19 32 (OB 36 1048575) ?_; refine pV 20 33 (OB 36 2097151) ?_; refine pN 21 34 (OB 36 4194303) ?_; refine pN 22 35 (OB 36 8388607) ?_; refine pN 23 36 (OB 36 16777215) ?_; refine pN 24 37 (OB 36 33554431) ?_; refine pN 25 38 (OB 36 67108863) ?_; refine pN 26 39 (OB 36 134217727) ?_; refine pN 27 40 (OB 36 268435455) ?_; refine pN 28 41 (OB 36 536870911) ?_; refine pN 29 42 (OB 36 1073741823) ?_; refine pN 30 43 (OB 36 2147483647) ?_; refine pN 31 44 (OB 36 4294967295) ?_; refine pN 32 45 (OB 36 8589934591) ?_; refine pN 33 46 (OB 36 17179869183) ?_; refine pN 34 47 (OB 36 34359738367) ?_; refine pV 35 48 (OB 36 68719476735) ?_; refine done_ (done_of HT_.out (by kernel_rfl)) ?_
    try go_wp2
    go_ret
    exact ⟨EE, BL⟩
   rw [if_neg c9] at H; have c9b0 : decide (20000 < (((rd_T45 l0_0 x8_1).f1).size : Int)) = false := decide_eq_false c9; have c9b1 : decide (20000 < ((rd_T45 l0_0 x8_1).f1).size) = false := decide_eq_false (by omega); clear c9; replace H := Option.bind_eq_some_iff.mp H; obtain ⟨t188, A150, H⟩ := H; have A15 := Aside0.mk A150; clear A150
   by_cases c16 : t188 = true; rotate_left
   ·
    replace c16 := Bool.eq_false_iff.mpr c16; subst c16
    have H1 : (some false) = some r := by rw [if_neg (show ¬ (false = true) by decide)] at H; exact H
    clear H; have H := H1; clear H1; obtain rfl := Option.some.inj H; have p185 : 0 ≤ (x8_1 : Int) := of_decide_eq_true AS; have q185 : x8_1 < (l0_0.length : Int) := of_decide_eq_true AS; obtain ⟨ad185, e185, hx185_0, hx185_1, hx185_2⟩ := at_T45 HR0_0.out x8_1 p185 q185; cases e185; replace hx185_0 := (HB.out.cell (World.block_lt_of_cell? w _ hx185_0)).trans hx185_0; replace hx185_1 := (HB.out.cell (World.block_lt_of_cell? w _ hx185_1)).trans hx185_1; replace hx185_2 := (HB.out.cell (World.block_lt_of_cell? w _ hx185_2)).trans hx185_2; replace p185 := eq_true p185; replace q185 := eq_true q185
    try go_wp2_with (first | ((with_reducible refine gate_dst (N := 4) rfl ?_); (try (refine gate_guard (by rfl) ?_; dsimp only)); refine bE 4 #[.string (⟨#[]⟩ : ByteArray), .string (⟨#[]⟩ : ByteArray), .int .i64 0] 45 ?_; intro gb186 hg w37 hbox hb; have BK186 := Aside0.mk (hbox); have GW186 : Aside0 (w.heap.size ≤ gb186) := GS; have GE186 := GW186; have NB184_186 := NL BK184.out hg; have NB186_184 := NG BK184.out hg; replace BK184 := BB BK184.out hb; replace HB := Aside0.mk (below_step (BL) hb); clear hb hbox hg; have hnb38 := NB186_184.out; have hnc38 := NB184_186.out; have hcz39_0 : w37.cell? ⟨gb186, 0, none⟩ = some (.string (⟨#[]⟩ : ByteArray)) := CZ BK186.out 0; have hcz39_1 : w37.cell? ⟨gb186, 1, none⟩ = some (.string (⟨#[]⟩ : ByteArray)) := CZ BK186.out 1; have hcz39_2 : w37.cell? ⟨gb186, 2, none⟩ = some (.int .i64 0) := CZ BK186.out 2; have hfz39_0 := blk_frozen BK186.out 0; have hfz39_1 := blk_frozen BK186.out 1; have hfz39_2 := blk_frozen BK186.out 2))
    have n0_ : Aside0 ((((w37.setCell ⟨gb186, 0, none⟩ (.string ((rd_T45 l0_0 x8_1).f0))).setCell ⟨gb186, 1, none⟩ (.string ((rd_T45 l0_0 x8_1).f1))).setCell ⟨gb186, 2, none⟩ (.int .i64 ((rd_T45 l0_0 x8_1).f2))).heap[gb184]? = some (.cells #[.slice (some ad185) l0_0.length c0_0] 29 (0, 0))) := ⟨BP BK184.out⟩; have n1_ : Aside0 ((((w37.setCell ⟨gb186, 0, none⟩ (.string ((rd_T45 l0_0 x8_1).f0))).setCell ⟨gb186, 1, none⟩ (.string ((rd_T45 l0_0 x8_1).f1))).setCell ⟨gb186, 2, none⟩ (.int .i64 ((rd_T45 l0_0 x8_1).f2))).heap[gb186]? = some (.cells #[.string ((rd_T45 l0_0 x8_1).f0), .string ((rd_T45 l0_0 x8_1).f1), .int .i64 ((rd_T45 l0_0 x8_1).f2)] 45 (0, 0))) := ⟨BU BK186.out⟩; have n2_ : Aside0 (Below w.heap.size w (((w37.setCell ⟨gb186, 0, none⟩ (.string ((rd_T45 l0_0 x8_1).f0))).setCell ⟨gb186, 1, none⟩ (.string ((rd_T45 l0_0 x8_1).f1))).setCell ⟨gb186, 2, none⟩ (.int .i64 ((rd_T45 l0_0 x8_1).f2)))) := ⟨BL⟩
    (try clear BK184)
    (try clear BK186)
    (try clear HB)
    generalize (((w37.setCell ⟨gb186, 0, none⟩ (.string ((rd_T45 l0_0 x8_1).f0))).setCell ⟨gb186, 1, none⟩ (.string ((rd_T45 l0_0 x8_1).f1))).setCell ⟨gb186, 2, none⟩ (.int .i64 ((rd_T45 l0_0 x8_1).f2))) = w40 at n0_ n1_ n2_ ⊢; have BK184 := n0_; have BK186 := n1_; have HB := n2_; clear n0_ n1_ n2_; have n0_ := Aside0.mk (blk_drew BK184.out); have n1_ := Aside0.mk (blk_drew BK186.out); have n2_ := Aside0.mk (below_drew1 HB.out); clear BK184; clear BK186; clear HB; have BK184 := n0_; have BK186 := n1_; have HB := n2_; clear n0_ n1_ n2_; refine start_ (n := 36) (S := fun w' => w'.cell? ⟨gb186, 0, none⟩ = some (.string ((rd_T45 l0_0 x8_1).f0)) ∧ w'.cell? ⟨gb186, 1, none⟩ = some (.string ((rd_T45 l0_0 x8_1).f1)) ∧ w'.cell? ⟨gb186, 2, none⟩ = some (.int .i64 ((rd_T45 l0_0 x8_1).f2))) (ds := []) #[false, false, false, false, false, false, false, false, false, false, false, false, false, false, false, false, false, false, false, false, false, false, false, false, false, false, false, false, false, false, false, false, false, false, false, false] (by kernel_rfl) rfl rfl ⟨CZ BK186.out 0, CZ BK186.out 1, CZ BK186.out 2⟩ (fun hHeld => ?_); refine with_tabW impl_DiskOk.tab4 impl_DiskOk.bits4 (fun HT_ HW_ => ?_); generalize w40.drew = w41 at BK184 BK186 HB hHeld ⊢; refine pV 0 13 (OB 36 1) ?_; refine take_ (i := 1) (N := some 14) (v := ?_) (a' := ?_) (OB 36 3) rfl rfl (take_ofW HT_.out HW_.out (by kernel_rfl)) (fun _ _ _ h => h) (Or.inl ⟨by rfl, ?_⟩) hHeld ?_ ?_; rotate_left
    ·
     rintro w' ⟨s0, s1, s2⟩
     go_simp
     with_reducible rfl
    rotate_left
    ·
     simp only [Act.put, zA, zB, zC, i64_w, i32_w]; rfl
    refine pV 2 15 (OB 36 7) ?_; refine one_ (i := 3) (N := some 16) (OB 36 15) rfl rfl (one_of HT_.out (by kernel_rfl)) (by decide) (fun K hK => ?_); refine goes_ Try.func51 (by kernel_rfl) rfl #[.int .i64 (((rd_T45 l0_0 x8_1).f0).size : Int), .int .i64 1, .int .i64 8] (by rfl) rfl rfl (MA) ?_
    with_reducible refine (impl_within.calls (((rd_T45 l0_0 x8_1).f0).size : Int) 1 8 true _ A7.out).mono ?_
    rintro e w' ⟨rfl, ⟨nd, rfl⟩⟩; refine ⟨_, rfl, ?_⟩; refine hK.out _ _ ⟨CZ BK186.out 0, CZ BK186.out 1, CZ BK186.out 2⟩ (fun hHeld => ?_); clear hK K; refine norm_ (a' := ?_) ?_ ?_; rotate_left
    ·
     show Act.put _ (some 16) _ = _; simp only [Act.put, zA, zB, zC, i64_w, i32_w]; rfl
    refine pV 4 17 (OB 36 31) ?_; refine pV 5 18 (OB 36 63) ?_; refine pV 6 19 (OB 36 127) ?_; refine take_ (i := 7) (N := some 20) (v := ?_) (a' := ?_) (OB 36 255) rfl rfl (take_ofW HT_.out HW_.out (by kernel_rfl)) (fun _ _ _ h => h) (Or.inl ⟨by rfl, ?_⟩) hHeld ?_ ?_; rotate_left
    ·
     rintro w' ⟨s0, s1, s2⟩
     go_simp
     with_reducible rfl
    rotate_left
    ·
     simp only [Act.put, zA, zB, zC, i64_w, i32_w]; rfl
    refine pV 8 21 (OB 36 511) ?_; refine pV 9 22 (OB 36 1023) ?_; refine pV 10 23 (OB 36 2047) ?_; refine pV 11 24 (OB 36 4095) ?_; refine pV 12 25 (OB 36 8191) ?_; refine pV 14 27 (OB 36 24575) ?_; refine take_ (i := 13) (N := some 26) (v := ?_) (a' := ?_) (OB 36 32767) rfl rfl (take_ofW HT_.out HW_.out (by kernel_rfl)) (fun _ _ _ h => h) (Or.inl ⟨by rfl, ?_⟩) hHeld ?_ ?_; rotate_left
    ·
     rintro w' ⟨s0, s1, s2⟩
     go_simp
     with_reducible rfl
    rotate_left
    ·
     simp only [Act.put, zA, zB, zC, i64_w, i32_w]; rfl
    refine take_ (i := 15) (N := some 28) (v := ?_) (a' := ?_) (OB 36 65535) rfl rfl (take_ofW HT_.out HW_.out (by kernel_rfl)) (fun _ _ _ h => h) (Or.inl ⟨by rfl, ?_⟩) hHeld ?_ ?_; rotate_left
    ·
     rintro w' ⟨s0, s1, s2⟩
     go_simp
     with_reducible rfl
    rotate_left
    ·
     simp only [Act.put, zA, zB, zC, i64_w, i32_w]; rfl
    refine pV 16 29 (OB 36 131071) ?_; refine one_ (i := 17) (N := some 30) (OB 36 262143) rfl rfl (one_of HT_.out (by kernel_rfl)) (by decide) (fun K hK => ?_); refine goes_ Try.func51 (by kernel_rfl) rfl #[.int .i64 ((rd_T45 l0_0 x8_1).f2), .int .i64 0, .int .i64 (((rd_T45 l0_0 x8_1).f1).size : Int)] (by rfl) rfl rfl (MA) ?_
    with_reducible refine (impl_within.calls ((rd_T45 l0_0 x8_1).f2) 0 (((rd_T45 l0_0 x8_1).f1).size : Int) false _ A15.out).mono ?_
    rintro e w' ⟨rfl, ⟨nd, rfl⟩⟩; refine ⟨_, rfl, ?_⟩; refine hK.out _ _ ⟨CZ BK186.out 0, CZ BK186.out 1, CZ BK186.out 2⟩ (fun hHeld => ?_); clear hK K; refine norm_ (a' := ?_) ?_ ?_; rotate_left
    ·
     show Act.put _ (some 30) _ = _; simp only [Act.put, zA, zB, zC, i64_w, i32_w]; rfl
    refine pV 18 31 (OB 36 524287) ?_; refine pV 19 32 (OB 36 1048575) ?_; refine pV 20 33 (OB 36 2097151) ?_; refine pN 21 34 (OB 36 4194303) ?_; refine pN 22 35 (OB 36 8388607) ?_; refine pN 23 36 (OB 36 16777215) ?_; refine pN 24 37 (OB 36 33554431) ?_; refine pN 25 38 (OB 36 67108863) ?_; refine pN 26 39 (OB 36 134217727) ?_; refine pN 27 40 (OB 36 268435455) ?_; refine pN 28 41 (OB 36 536870911) ?_; refine pN 29 42 (OB 36 1073741823) ?_; refine pN 30 43 (OB 36 2147483647) ?_; refine pN 31 44 (OB 36 4294967295) ?_; refine pN 32 45 (OB 36 8589934591) ?_; refine pN 33 46 (OB 36 17179869183) ?_; refine pN 34 47 (OB 36 34359738367) ?_; refine pV 35 48 (OB 36 68719476735) ?_; refine done_ (done_of HT_.out (by kernel_rfl)) ?_
    try go_wp2
    go_ret
    exact ⟨EE, BL⟩
   subst c16
   have H1 : (if x8_1 > 0 then (if 0 ≤ (wrap64 (x8_1 - 1)) then (if (wrap64 (x8_1 - 1)) < (l0_0.length : Int) then (if ((Op.bytesLess (((rd_T45 l0_0 (wrap64 (x8_1 - 1))).f0).toList) (((rd_T45 l0_0 x8_1).f0).toList)) = true) then (impl_DiskOk.l0 k1 l0_0 (l0_0.length : Int) (wrap64 (x8_1 + 1)) l0_0) else (some false)) else (none)) else (none)) else (impl_DiskOk.l0 k1 l0_0 (l0_0.length : Int) (wrap64 (x8_1 + 1)) l0_0)) = some r := by rw [if_pos rfl] at H; exact H
   clear H; have H := H1; clear H1
   by_cases c17 : x8_1 > 0; rotate_left
   ·
    rw [if_neg c17] at H; have c17b0 : decide (0 < x8_1) = false := decide_eq_false c17; clear c17; have H' := Aside0.mk H; clear H; have p185 : 0 ≤ (x8_1 : Int) := of_decide_eq_true AS; have q185 : x8_1 < (l0_0.length : Int) := of_decide_eq_true AS; obtain ⟨ad185, e185, hx185_0, hx185_1, hx185_2⟩ := at_T45 HR0_0.out x8_1 p185 q185; cases e185; replace hx185_0 := (HB.out.cell (World.block_lt_of_cell? w _ hx185_0)).trans hx185_0; replace hx185_1 := (HB.out.cell (World.block_lt_of_cell? w _ hx185_1)).trans hx185_1; replace hx185_2 := (HB.out.cell (World.block_lt_of_cell? w _ hx185_2)).trans hx185_2; replace p185 := eq_true p185; replace q185 := eq_true q185
    try go_wp2_with (first | ((with_reducible refine gate_dst (N := 4) rfl ?_); (try (refine gate_guard (by rfl) ?_; dsimp only)); refine bE 4 #[.string (⟨#[]⟩ : ByteArray), .string (⟨#[]⟩ : ByteArray), .int .i64 0] 45 ?_; intro gb186 hg w32 hbox hb; have BK186 := Aside0.mk (hbox); have GW186 : Aside0 (w.heap.size ≤ gb186) := GS; have GE186 := GW186; have NB184_186 := NL BK184.out hg; have NB186_184 := NG BK184.out hg; replace BK184 := BB BK184.out hb; replace HB := Aside0.mk (below_step (BL) hb); clear hb hbox hg; have hnb33 := NB186_184.out; have hnc33 := NB184_186.out; have hcz34_0 : w32.cell? ⟨gb186, 0, none⟩ = some (.string (⟨#[]⟩ : ByteArray)) := CZ BK186.out 0; have hcz34_1 : w32.cell? ⟨gb186, 1, none⟩ = some (.string (⟨#[]⟩ : ByteArray)) := CZ BK186.out 1; have hcz34_2 : w32.cell? ⟨gb186, 2, none⟩ = some (.int .i64 0) := CZ BK186.out 2; have hfz34_0 := blk_frozen BK186.out 0; have hfz34_1 := blk_frozen BK186.out 1; have hfz34_2 := blk_frozen BK186.out 2))
    have n0_ : Aside0 ((((w32.setCell ⟨gb186, 0, none⟩ (.string ((rd_T45 l0_0 x8_1).f0))).setCell ⟨gb186, 1, none⟩ (.string ((rd_T45 l0_0 x8_1).f1))).setCell ⟨gb186, 2, none⟩ (.int .i64 ((rd_T45 l0_0 x8_1).f2))).heap[gb184]? = some (.cells #[.slice (some ad185) l0_0.length c0_0] 29 (0, 0))) := ⟨BP BK184.out⟩; have n1_ : Aside0 ((((w32.setCell ⟨gb186, 0, none⟩ (.string ((rd_T45 l0_0 x8_1).f0))).setCell ⟨gb186, 1, none⟩ (.string ((rd_T45 l0_0 x8_1).f1))).setCell ⟨gb186, 2, none⟩ (.int .i64 ((rd_T45 l0_0 x8_1).f2))).heap[gb186]? = some (.cells #[.string ((rd_T45 l0_0 x8_1).f0), .string ((rd_T45 l0_0 x8_1).f1), .int .i64 ((rd_T45 l0_0 x8_1).f2)] 45 (0, 0))) := ⟨BU BK186.out⟩; have n2_ : Aside0 (Below w.heap.size w (((w32.setCell ⟨gb186, 0, none⟩ (.string ((rd_T45 l0_0 x8_1).f0))).setCell ⟨gb186, 1, none⟩ (.string ((rd_T45 l0_0 x8_1).f1))).setCell ⟨gb186, 2, none⟩ (.int .i64 ((rd_T45 l0_0 x8_1).f2)))) := ⟨BL⟩
    (try clear BK184)
    (try clear BK186)
    (try clear HB)
    generalize (((w32.setCell ⟨gb186, 0, none⟩ (.string ((rd_T45 l0_0 x8_1).f0))).setCell ⟨gb186, 1, none⟩ (.string ((rd_T45 l0_0 x8_1).f1))).setCell ⟨gb186, 2, none⟩ (.int .i64 ((rd_T45 l0_0 x8_1).f2))) = w35 at n0_ n1_ n2_ ⊢; have BK184 := n0_; have BK186 := n1_; have HB := n2_; clear n0_ n1_ n2_; have n0_ := Aside0.mk (blk_drew BK184.out); have n1_ := Aside0.mk (blk_drew BK186.out); have n2_ := Aside0.mk (below_drew1 HB.out); clear BK184; clear BK186; clear HB; have BK184 := n0_; have BK186 := n1_; have HB := n2_; clear n0_ n1_ n2_; refine start_ (n := 36) (S := fun w' => w'.cell? ⟨gb186, 0, none⟩ = some (.string ((rd_T45 l0_0 x8_1).f0)) ∧ w'.cell? ⟨gb186, 1, none⟩ = some (.string ((rd_T45 l0_0 x8_1).f1)) ∧ w'.cell? ⟨gb186, 2, none⟩ = some (.int .i64 ((rd_T45 l0_0 x8_1).f2))) (ds := []) #[false, false, false, false, false, false, false, false, false, false, false, false, false, false, false, false, false, false, false, false, false, false, false, false, false, false, false, false, false, false, false, false, false, false, false, false] (by kernel_rfl) rfl rfl ⟨CZ BK186.out 0, CZ BK186.out 1, CZ BK186.out 2⟩ (fun hHeld => ?_); refine with_tabW impl_DiskOk.tab4 impl_DiskOk.bits4 (fun HT_ HW_ => ?_); generalize w35.drew = w36 at BK184 BK186 HB hHeld ⊢; refine pV 0 13 (OB 36 1) ?_; refine take_ (i := 1) (N := some 14) (v := ?_) (a' := ?_) (OB 36 3) rfl rfl (take_ofW HT_.out HW_.out (by kernel_rfl)) (fun _ _ _ h => h) (Or.inl ⟨by rfl, ?_⟩) hHeld ?_ ?_; rotate_left
    ·
     rintro w' ⟨s0, s1, s2⟩
     go_simp
     with_reducible rfl
    rotate_left
    ·
     simp only [Act.put, zA, zB, zC, i64_w, i32_w]; rfl
    refine pV 2 15 (OB 36 7) ?_; refine one_ (i := 3) (N := some 16) (OB 36 15) rfl rfl (one_of HT_.out (by kernel_rfl)) (by decide) (fun K hK => ?_); refine goes_ Try.func51 (by kernel_rfl) rfl #[.int .i64 (((rd_T45 l0_0 x8_1).f0).size : Int), .int .i64 1, .int .i64 8] (by rfl) rfl rfl (MA) ?_
    with_reducible refine (impl_within.calls (((rd_T45 l0_0 x8_1).f0).size : Int) 1 8 true _ A7.out).mono ?_
    rintro e w' ⟨rfl, ⟨nd, rfl⟩⟩; refine ⟨_, rfl, ?_⟩; refine hK.out _ _ ⟨CZ BK186.out 0, CZ BK186.out 1, CZ BK186.out 2⟩ (fun hHeld => ?_); clear hK K; refine norm_ (a' := ?_) ?_ ?_; rotate_left
    ·
     show Act.put _ (some 16) _ = _; simp only [Act.put, zA, zB, zC, i64_w, i32_w]; rfl
    refine pV 4 17 (OB 36 31) ?_; refine pV 5 18 (OB 36 63) ?_; refine pV 6 19 (OB 36 127) ?_; refine take_ (i := 7) (N := some 20) (v := ?_) (a' := ?_) (OB 36 255) rfl rfl (take_ofW HT_.out HW_.out (by kernel_rfl)) (fun _ _ _ h => h) (Or.inl ⟨by rfl, ?_⟩) hHeld ?_ ?_; rotate_left
    ·
     rintro w' ⟨s0, s1, s2⟩
     go_simp
     with_reducible rfl
    rotate_left
    ·
     simp only [Act.put, zA, zB, zC, i64_w, i32_w]; rfl
    refine pV 8 21 (OB 36 511) ?_; refine pV 9 22 (OB 36 1023) ?_; refine pV 10 23 (OB 36 2047) ?_; refine pV 11 24 (OB 36 4095) ?_; refine pV 12 25 (OB 36 8191) ?_; refine pV 14 27 (OB 36 24575) ?_; refine take_ (i := 13) (N := some 26) (v := ?_) (a' := ?_) (OB 36 32767) rfl rfl (take_ofW HT_.out HW_.out (by kernel_rfl)) (fun _ _ _ h => h) (Or.inl ⟨by rfl, ?_⟩) hHeld ?_ ?_; rotate_left
    ·
     rintro w' ⟨s0, s1, s2⟩
     go_simp
     with_reducible rfl
    rotate_left
    ·
     simp only [Act.put, zA, zB, zC, i64_w, i32_w]; rfl
    refine take_ (i := 15) (N := some 28) (v := ?_) (a' := ?_) (OB 36 65535) rfl rfl (take_ofW HT_.out HW_.out (by kernel_rfl)) (fun _ _ _ h => h) (Or.inl ⟨by rfl, ?_⟩) hHeld ?_ ?_; rotate_left
    ·
     rintro w' ⟨s0, s1, s2⟩
     go_simp
     with_reducible rfl
    rotate_left
    ·
     simp only [Act.put, zA, zB, zC, i64_w, i32_w]; rfl
    refine pV 16 29 (OB 36 131071) ?_; refine one_ (i := 17) (N := some 30) (OB 36 262143) rfl rfl (one_of HT_.out (by kernel_rfl)) (by decide) (fun K hK => ?_); refine goes_ Try.func51 (by kernel_rfl) rfl #[.int .i64 ((rd_T45 l0_0 x8_1).f2), .int .i64 0, .int .i64 (((rd_T45 l0_0 x8_1).f1).size : Int)] (by rfl) rfl rfl (MA) ?_
    with_reducible refine (impl_within.calls ((rd_T45 l0_0 x8_1).f2) 0 (((rd_T45 l0_0 x8_1).f1).size : Int) true _ A15.out).mono ?_
    rintro e w' ⟨rfl, ⟨nd, rfl⟩⟩; refine ⟨_, rfl, ?_⟩; refine hK.out _ _ ⟨CZ BK186.out 0, CZ BK186.out 1, CZ BK186.out 2⟩ (fun hHeld => ?_); clear hK K; refine norm_ (a' := ?_) ?_ ?_; rotate_left
    ·
     show Act.put _ (some 30) _ = _; simp only [Act.put, zA, zB, zC, i64_w, i32_w]; rfl
    refine pV 18 31 (OB 36 524287) ?_; refine pV 19 32 (OB 36 1048575) ?_; refine pV 20 33 (OB 36 2097151) ?_; refine pV 21 34 (OB 36 4194303) ?_; refine pV 22 35 (OB 36 8388607) ?_; refine pV 23 36 (OB 36 16777215) ?_; refine pN 24 37 (OB 36 33554431) ?_; refine pN 25 38 (OB 36 67108863) ?_; refine pN 26 39 (OB 36 134217727) ?_; refine pN 27 40 (OB 36 268435455) ?_; refine pN 28 41 (OB 36 536870911) ?_; refine pN 29 42 (OB 36 1073741823) ?_; refine pN 30 43 (OB 36 2147483647) ?_; refine pN 31 44 (OB 36 4294967295) ?_; refine pN 32 45 (OB 36 8589934591) ?_; refine pN 33 46 (OB 36 17179869183) ?_; refine pV 34 47 (OB 36 34359738367) ?_; refine pV 35 48 (OB 36 68719476735) ?_; refine done_ (done_of HT_.out (by kernel_rfl)) ?_
    try go_wp2
    go_roundg k1
    case measure => have := HK1.out; omega
    case rel => exact ⟨(wrap64 (x8_1 + 1)), SD, H', ⟨by have := HK1.out; omega⟩, ⟨BQ BK184.out⟩, ⟨BL⟩⟩
   rw [if_pos c17] at H; have c17b0 : decide (0 < x8_1) = true := decide_eq_true c17; clear c17; obtain ⟨ji18, hji18⟩ : ∃ j_ : Int, (wrap64 (x8_1 - 1)) = j_ := ⟨_, rfl⟩
   replace H : (if 0 ≤ (ji18) then (if (ji18) < (l0_0.length : Int) then (if ((Op.bytesLess (((rd_T45 l0_0 (ji18)).f0).toList) (((rd_T45 l0_0 x8_1).f0).toList)) = true) then (impl_DiskOk.l0 k1 l0_0 (l0_0.length : Int) (wrap64 (x8_1 + 1)) l0_0) else (some false)) else (none)) else (none)) = some r := by first | (rw [hji18] at H; exact H) | (simp only [hji18] at H ⊢; exact H)
   (try rw [hji18] at A7)
   (try rw [hji18] at A15)
   have hji18w : (IntKind.i64.wrap (x8_1 - 1)) = ji18 := (i64_w _).trans hji18
   by_cases c19 : 0 ≤ (ji18); rotate_left
   ·
    rw [if_neg c19] at H; exact absurd H (by simp)
   rw [if_pos c19] at H; have c19b0 : decide (0 ≤ (ji18)) = true := decide_eq_true c19; clear c19
   by_cases c20 : (ji18) < (l0_0.length : Int); rotate_left
   ·
    rw [if_neg c20] at H; exact absurd H (by simp)
   rw [if_pos c20] at H; have c20b0 : decide ((ji18) < (l0_0.length : Int)) = true := decide_eq_true c20; clear c20
   by_cases c21 : ((Op.bytesLess (((rd_T45 l0_0 (ji18)).f0).toList) (((rd_T45 l0_0 x8_1).f0).toList)) = true); rotate_left
   ·
    rw [if_neg c21] at H
    have c21b0 : (Op.bytesLess (((rd_T45 l0_0 (ji18)).f0).toList) (((rd_T45 l0_0 x8_1).f0).toList)) = false := by simpa using c21
    clear c21; obtain rfl := Option.some.inj H; have p185 : 0 ≤ (x8_1 : Int) := of_decide_eq_true AS; have q185 : x8_1 < (l0_0.length : Int) := of_decide_eq_true AS; obtain ⟨ad185, e185, hx185_0, hx185_1, hx185_2⟩ := at_T45 HR0_0.out x8_1 p185 q185; cases e185; replace hx185_0 := (HB.out.cell (World.block_lt_of_cell? w _ hx185_0)).trans hx185_0; replace hx185_1 := (HB.out.cell (World.block_lt_of_cell? w _ hx185_1)).trans hx185_1; replace hx185_2 := (HB.out.cell (World.block_lt_of_cell? w _ hx185_2)).trans hx185_2; replace p185 := eq_true p185; replace q185 := eq_true q185
    try go_wp2_with (first | ((with_reducible refine gate_dst (N := 4) rfl ?_); (try (refine gate_guard (by rfl) ?_; dsimp only)); refine bE 4 #[.string (⟨#[]⟩ : ByteArray), .string (⟨#[]⟩ : ByteArray), .int .i64 0] 45 ?_; intro gb186 hg w27 hbox hb; have BK186 := Aside0.mk (hbox); have GW186 : Aside0 (w.heap.size ≤ gb186) := GS; have GE186 := GW186; have NB184_186 := NL BK184.out hg; have NB186_184 := NG BK184.out hg; replace BK184 := BB BK184.out hb; replace HB := Aside0.mk (below_step (BL) hb); clear hb hbox hg; have hnb28 := NB186_184.out; have hnc28 := NB184_186.out; have hcz29_0 : w27.cell? ⟨gb186, 0, none⟩ = some (.string (⟨#[]⟩ : ByteArray)) := CZ BK186.out 0; have hcz29_1 : w27.cell? ⟨gb186, 1, none⟩ = some (.string (⟨#[]⟩ : ByteArray)) := CZ BK186.out 1; have hcz29_2 : w27.cell? ⟨gb186, 2, none⟩ = some (.int .i64 0) := CZ BK186.out 2; have hfz29_0 := blk_frozen BK186.out 0; have hfz29_1 := blk_frozen BK186.out 1; have hfz29_2 := blk_frozen BK186.out 2))
    have n0_ : Aside0 ((((w27.setCell ⟨gb186, 0, none⟩ (.string ((rd_T45 l0_0 x8_1).f0))).setCell ⟨gb186, 1, none⟩ (.string ((rd_T45 l0_0 x8_1).f1))).setCell ⟨gb186, 2, none⟩ (.int .i64 ((rd_T45 l0_0 x8_1).f2))).heap[gb184]? = some (.cells #[.slice (some ad185) l0_0.length c0_0] 29 (0, 0))) := ⟨BP BK184.out⟩; have n1_ : Aside0 ((((w27.setCell ⟨gb186, 0, none⟩ (.string ((rd_T45 l0_0 x8_1).f0))).setCell ⟨gb186, 1, none⟩ (.string ((rd_T45 l0_0 x8_1).f1))).setCell ⟨gb186, 2, none⟩ (.int .i64 ((rd_T45 l0_0 x8_1).f2))).heap[gb186]? = some (.cells #[.string ((rd_T45 l0_0 x8_1).f0), .string ((rd_T45 l0_0 x8_1).f1), .int .i64 ((rd_T45 l0_0 x8_1).f2)] 45 (0, 0))) := ⟨BU BK186.out⟩; have n2_ : Aside0 (Below w.heap.size w (((w27.setCell ⟨gb186, 0, none⟩ (.string ((rd_T45 l0_0 x8_1).f0))).setCell ⟨gb186, 1, none⟩ (.string ((rd_T45 l0_0 x8_1).f1))).setCell ⟨gb186, 2, none⟩ (.int .i64 ((rd_T45 l0_0 x8_1).f2)))) := ⟨BL⟩
    (try clear BK184)
    (try clear BK186)
    (try clear HB)
    generalize (((w27.setCell ⟨gb186, 0, none⟩ (.string ((rd_T45 l0_0 x8_1).f0))).setCell ⟨gb186, 1, none⟩ (.string ((rd_T45 l0_0 x8_1).f1))).setCell ⟨gb186, 2, none⟩ (.int .i64 ((rd_T45 l0_0 x8_1).f2))) = w30 at n0_ n1_ n2_ ⊢; have BK184 := n0_; have BK186 := n1_; have HB := n2_; clear n0_ n1_ n2_; have n0_ := Aside0.mk (blk_drew BK184.out); have n1_ := Aside0.mk (blk_drew BK186.out); have n2_ := Aside0.mk (below_drew1 HB.out); clear BK184; clear BK186; clear HB; have BK184 := n0_; have BK186 := n1_; have HB := n2_; clear n0_ n1_ n2_; have p189 : 0 ≤ ((ji18) : Int) := of_decide_eq_true AS; have q189 : (ji18) < (l0_0.length : Int) := of_decide_eq_true AS; obtain ⟨ad189, e189, hx189_0, hx189_1, hx189_2⟩ := at_T45 HR0_0.out (ji18) p189 q189; have hw189_2 := hx189_2; have hw189_1 := hx189_1; have hw189_0 := hx189_0; obtain rfl : ad185 = ad189 := (by injection e189); replace hx189_0 := (HB.out.cell (World.block_lt_of_cell? w _ hx189_0)).trans hx189_0; replace hx189_1 := (HB.out.cell (World.block_lt_of_cell? w _ hx189_1)).trans hx189_1; replace hx189_2 := (HB.out.cell (World.block_lt_of_cell? w _ hx189_2)).trans hx189_2; replace p189 := eq_true p189; replace q189 := eq_true q189; refine start_ (n := 36) (S := fun w' => w'.cell? ⟨gb186, 0, none⟩ = some (.string ((rd_T45 l0_0 x8_1).f0)) ∧ w'.cell? ⟨gb186, 1, none⟩ = some (.string ((rd_T45 l0_0 x8_1).f1)) ∧ w'.cell? ⟨gb186, 2, none⟩ = some (.int .i64 ((rd_T45 l0_0 x8_1).f2)) ∧ w'.cell? ⟨gb184, 0, none⟩ = some (.slice (some ad185) l0_0.length c0_0) ∧ w'.cell? (ad185.add (((ji18)).toNat * 3)) = some (.string ((rd_T45 l0_0 (ji18)).f0)) ∧ w'.cell? ⟨(ad185.add (((ji18)).toNat * 3)).block, (ad185.add (((ji18)).toNat * 3)).off + 1, none⟩ = some (.string ((rd_T45 l0_0 (ji18)).f1)) ∧ w'.cell? ⟨(ad185.add (((ji18)).toNat * 3)).block, (ad185.add (((ji18)).toNat * 3)).off + 2, none⟩ = some (.int .i64 ((rd_T45 l0_0 (ji18)).f2))) (ds := []) #[false, false, false, false, false, false, false, false, false, false, false, false, false, false, false, false, false, false, false, false, false, false, false, false, false, false, false, false, false, false, false, false, false, false, false, false] (by kernel_rfl) rfl rfl ⟨CZ BK186.out 0, CZ BK186.out 1, CZ BK186.out 2, CZ BK184.out 0, ((HB.out.cell (World.block_lt_of_cell? w _ hw189_0)).trans hw189_0), ((HB.out.cell (World.block_lt_of_cell? w _ hw189_1)).trans hw189_1), ((HB.out.cell (World.block_lt_of_cell? w _ hw189_2)).trans hw189_2)⟩ (fun hHeld => ?_); refine with_tabW impl_DiskOk.tab4 impl_DiskOk.bits4 (fun HT_ HW_ => ?_); generalize w30.drew = w31 at BK184 BK186 HB hx189_0 hx189_1 hx189_2 hHeld ⊢; refine pV 0 13 (OB 36 1) ?_; refine take_ (i := 1) (N := some 14) (v := ?_) (a' := ?_) (OB 36 3) rfl rfl (take_ofW HT_.out HW_.out (by kernel_rfl)) (fun _ _ _ h => h) (Or.inl ⟨by rfl, ?_⟩) hHeld ?_ ?_; rotate_left
    ·
     rintro w' ⟨s0, s1, s2, s3, s4, s5, s6⟩
     go_simp
     with_reducible rfl
    rotate_left
    ·
     simp only [Act.put, zA, zB, zC, i64_w, i32_w]; rfl
    refine pV 2 15 (OB 36 7) ?_; refine one_ (i := 3) (N := some 16) (OB 36 15) rfl rfl (one_of HT_.out (by kernel_rfl)) (by decide) (fun K hK => ?_); refine goes_ Try.func51 (by kernel_rfl) rfl #[.int .i64 (((rd_T45 l0_0 x8_1).f0).size : Int), .int .i64 1, .int .i64 8] (by rfl) rfl rfl (MA) ?_
    with_reducible refine (impl_within.calls (((rd_T45 l0_0 x8_1).f0).size : Int) 1 8 true _ A7.out).mono ?_
    rintro e w' ⟨rfl, ⟨nd, rfl⟩⟩; refine ⟨_, rfl, ?_⟩; refine hK.out _ _ ⟨CZ BK186.out 0, CZ BK186.out 1, CZ BK186.out 2, CZ BK184.out 0, ((HB.out.cell (World.block_lt_of_cell? w _ hw189_0)).trans hw189_0), ((HB.out.cell (World.block_lt_of_cell? w _ hw189_1)).trans hw189_1), ((HB.out.cell (World.block_lt_of_cell? w _ hw189_2)).trans hw189_2)⟩ (fun hHeld => ?_); clear hK K; refine norm_ (a' := ?_) ?_ ?_; rotate_left
    ·
     show Act.put _ (some 16) _ = _; simp only [Act.put, zA, zB, zC, i64_w, i32_w]; rfl
    refine pV 4 17 (OB 36 31) ?_; refine pV 5 18 (OB 36 63) ?_; refine pV 6 19 (OB 36 127) ?_; refine take_ (i := 7) (N := some 20) (v := ?_) (a' := ?_) (OB 36 255) rfl rfl (take_ofW HT_.out HW_.out (by kernel_rfl)) (fun _ _ _ h => h) (Or.inl ⟨by rfl, ?_⟩) hHeld ?_ ?_; rotate_left
    ·
     rintro w' ⟨s0, s1, s2, s3, s4, s5, s6⟩
     go_simp
     with_reducible rfl
    rotate_left
    ·
     simp only [Act.put, zA, zB, zC, i64_w, i32_w]; rfl
    refine pV 8 21 (OB 36 511) ?_; refine pV 9 22 (OB 36 1023) ?_; refine pV 10 23 (OB 36 2047) ?_; refine pV 11 24 (OB 36 4095) ?_; refine pV 12 25 (OB 36 8191) ?_; refine pV 14 27 (OB 36 24575) ?_; refine take_ (i := 13) (N := some 26) (v := ?_) (a' := ?_) (OB 36 32767) rfl rfl (take_ofW HT_.out HW_.out (by kernel_rfl)) (fun _ _ _ h => h) (Or.inl ⟨by rfl, ?_⟩) hHeld ?_ ?_; rotate_left
    ·
     rintro w' ⟨s0, s1, s2, s3, s4, s5, s6⟩
     go_simp
     with_reducible rfl
    rotate_left
    ·
     simp only [Act.put, zA, zB, zC, i64_w, i32_w]; rfl
    refine take_ (i := 15) (N := some 28) (v := ?_) (a' := ?_) (OB 36 65535) rfl rfl (take_ofW HT_.out HW_.out (by kernel_rfl)) (fun _ _ _ h => h) (Or.inl ⟨by rfl, ?_⟩) hHeld ?_ ?_; rotate_left
    ·
     rintro w' ⟨s0, s1, s2, s3, s4, s5, s6⟩
     go_simp
     with_reducible rfl
    rotate_left
    ·
     simp only [Act.put, zA, zB, zC, i64_w, i32_w]; rfl
    refine pV 16 29 (OB 36 131071) ?_; refine one_ (i := 17) (N := some 30) (OB 36 262143) rfl rfl (one_of HT_.out (by kernel_rfl)) (by decide) (fun K hK => ?_); refine goes_ Try.func51 (by kernel_rfl) rfl #[.int .i64 ((rd_T45 l0_0 x8_1).f2), .int .i64 0, .int .i64 (((rd_T45 l0_0 x8_1).f1).size : Int)] (by rfl) rfl rfl (MA) ?_
    with_reducible refine (impl_within.calls ((rd_T45 l0_0 x8_1).f2) 0 (((rd_T45 l0_0 x8_1).f1).size : Int) true _ A15.out).mono ?_
    rintro e w' ⟨rfl, ⟨nd, rfl⟩⟩; refine ⟨_, rfl, ?_⟩; refine hK.out _ _ ⟨CZ BK186.out 0, CZ BK186.out 1, CZ BK186.out 2, CZ BK184.out 0, ((HB.out.cell (World.block_lt_of_cell? w _ hw189_0)).trans hw189_0), ((HB.out.cell (World.block_lt_of_cell? w _ hw189_1)).trans hw189_1), ((HB.out.cell (World.block_lt_of_cell? w _ hw189_2)).trans hw189_2)⟩ (fun hHeld => ?_); clear hK K; refine norm_ (a' := ?_) ?_ ?_; rotate_left
    ·
     show Act.put _ (some 30) _ = _; simp only [Act.put, zA, zB, zC, i64_w, i32_w]; rfl
    refine pV 18 31 (OB 36 524287) ?_; refine pV 19 32 (OB 36 1048575) ?_; refine pV 20 33 (OB 36 2097151) ?_; refine pV 21 34 (OB 36 4194303) ?_; refine pV 22 35 (OB 36 8388607) ?_; refine pV 23 36 (OB 36 16777215) ?_; refine pV 24 37 (OB 36 33554431) ?_; refine pV 26 39 (OB 36 100663295) ?_; refine pV 27 40 (OB 36 234881023) ?_; refine pV 31 44 (OB 36 2382364671) ?_; refine take_ (i := 25) (N := some 38) (v := ?_) (a' := ?_) (OB 36 2415919103) rfl rfl (take_ofW HT_.out HW_.out (by kernel_rfl)) (fun _ _ _ h => h) (Or.inl ⟨by rfl, ?_⟩) hHeld ?_ ?_; rotate_left
    ·
     rintro w' ⟨s0, s1, s2, s3, s4, s5, s6⟩
     go_simp
     with_reducible rfl
    rotate_left
    ·
     simp only [Act.put, zA, zB, zC, i64_w, i32_w]; rfl
    refine pV 28 41 (OB 36 2684354559) ?_; refine pV 29 42 (OB 36 3221225471) ?_; refine take_ (i := 30) (N := some 43) (v := ?_) (a' := ?_) (OB 36 4294967295) rfl rfl (take_ofW HT_.out HW_.out (by kernel_rfl)) (fun _ _ _ h => h) (Or.inl ⟨by rfl, ?_⟩) hHeld ?_ ?_; rotate_left
    ·
     rintro w' ⟨s0, s1, s2, s3, s4, s5, s6⟩
     go_simp
     with_reducible rfl
    rotate_left
    ·
     simp only [Act.put, zA, zB, zC, i64_w, i32_w]; rfl
    refine take_ (i := 32) (N := some 45) (v := ?_) (a' := ?_) (OB 36 8589934591) rfl rfl (take_ofW HT_.out HW_.out (by kernel_rfl)) (fun _ _ _ h => h) (Or.inl ⟨by rfl, ?_⟩) hHeld ?_ ?_; rotate_left
    ·
     rintro w' ⟨s0, s1, s2, s3, s4, s5, s6⟩
     go_simp
     with_reducible rfl
    rotate_left
    ·
     simp only [Act.put, zA, zB, zC, i64_w, i32_w]; rfl
    refine pV 33 46 (OB 36 17179869183) ?_; refine pV 34 47 (OB 36 34359738367) ?_; refine pV 35 48 (OB 36 68719476735) ?_; refine done_ (done_of HT_.out (by kernel_rfl)) ?_
    try go_wp2
    go_ret
    exact ⟨by first | rfl | (simp [errW_none, errW_some] <;> rfl) | (simp only [← hji18]; first | rfl | (simp [errW_none, errW_some] <;> rfl)) | (simp [*, errW_none, errW_some] <;> rfl), BL⟩
   rw [if_pos c21] at H; have c21b0 : (Op.bytesLess (((rd_T45 l0_0 (ji18)).f0).toList) (((rd_T45 l0_0 x8_1).f0).toList)) = true := c21; clear c21; have H' := Aside0.mk H; clear H; have p185 : 0 ≤ (x8_1 : Int) := of_decide_eq_true AS; have q185 : x8_1 < (l0_0.length : Int) := of_decide_eq_true AS; obtain ⟨ad185, e185, hx185_0, hx185_1, hx185_2⟩ := at_T45 HR0_0.out x8_1 p185 q185; cases e185; replace hx185_0 := (HB.out.cell (World.block_lt_of_cell? w _ hx185_0)).trans hx185_0; replace hx185_1 := (HB.out.cell (World.block_lt_of_cell? w _ hx185_1)).trans hx185_1; replace hx185_2 := (HB.out.cell (World.block_lt_of_cell? w _ hx185_2)).trans hx185_2; replace p185 := eq_true p185; replace q185 := eq_true q185
   try go_wp2_with (first | ((with_reducible refine gate_dst (N := 4) rfl ?_); (try (refine gate_guard (by rfl) ?_; dsimp only)); refine bE 4 #[.string (⟨#[]⟩ : ByteArray), .string (⟨#[]⟩ : ByteArray), .int .i64 0] 45 ?_; intro gb186 hg w22 hbox hb; have BK186 := Aside0.mk (hbox); have GW186 : Aside0 (w.heap.size ≤ gb186) := GS; have GE186 := GW186; have NB184_186 := NL BK184.out hg; have NB186_184 := NG BK184.out hg; replace BK184 := BB BK184.out hb; replace HB := Aside0.mk (below_step (BL) hb); clear hb hbox hg; have hnb23 := NB186_184.out; have hnc23 := NB184_186.out; have hcz24_0 : w22.cell? ⟨gb186, 0, none⟩ = some (.string (⟨#[]⟩ : ByteArray)) := CZ BK186.out 0; have hcz24_1 : w22.cell? ⟨gb186, 1, none⟩ = some (.string (⟨#[]⟩ : ByteArray)) := CZ BK186.out 1; have hcz24_2 : w22.cell? ⟨gb186, 2, none⟩ = some (.int .i64 0) := CZ BK186.out 2; have hfz24_0 := blk_frozen BK186.out 0; have hfz24_1 := blk_frozen BK186.out 1; have hfz24_2 := blk_frozen BK186.out 2))
   have n0_ : Aside0 ((((w22.setCell ⟨gb186, 0, none⟩ (.string ((rd_T45 l0_0 x8_1).f0))).setCell ⟨gb186, 1, none⟩ (.string ((rd_T45 l0_0 x8_1).f1))).setCell ⟨gb186, 2, none⟩ (.int .i64 ((rd_T45 l0_0 x8_1).f2))).heap[gb184]? = some (.cells #[.slice (some ad185) l0_0.length c0_0] 29 (0, 0))) := ⟨BP BK184.out⟩; have n1_ : Aside0 ((((w22.setCell ⟨gb186, 0, none⟩ (.string ((rd_T45 l0_0 x8_1).f0))).setCell ⟨gb186, 1, none⟩ (.string ((rd_T45 l0_0 x8_1).f1))).setCell ⟨gb186, 2, none⟩ (.int .i64 ((rd_T45 l0_0 x8_1).f2))).heap[gb186]? = some (.cells #[.string ((rd_T45 l0_0 x8_1).f0), .string ((rd_T45 l0_0 x8_1).f1), .int .i64 ((rd_T45 l0_0 x8_1).f2)] 45 (0, 0))) := ⟨BU BK186.out⟩; have n2_ : Aside0 (Below w.heap.size w (((w22.setCell ⟨gb186, 0, none⟩ (.string ((rd_T45 l0_0 x8_1).f0))).setCell ⟨gb186, 1, none⟩ (.string ((rd_T45 l0_0 x8_1).f1))).setCell ⟨gb186, 2, none⟩ (.int .i64 ((rd_T45 l0_0 x8_1).f2)))) := ⟨BL⟩
   (try clear BK184)
   (try clear BK186)
   (try clear HB)
   generalize (((w22.setCell ⟨gb186, 0, none⟩ (.string ((rd_T45 l0_0 x8_1).f0))).setCell ⟨gb186, 1, none⟩ (.string ((rd_T45 l0_0 x8_1).f1))).setCell ⟨gb186, 2, none⟩ (.int .i64 ((rd_T45 l0_0 x8_1).f2))) = w25 at n0_ n1_ n2_ ⊢; have BK184 := n0_; have BK186 := n1_; have HB := n2_; clear n0_ n1_ n2_; have n0_ := Aside0.mk (blk_drew BK184.out); have n1_ := Aside0.mk (blk_drew BK186.out); have n2_ := Aside0.mk (below_drew1 HB.out); clear BK184; clear BK186; clear HB; have BK184 := n0_; have BK186 := n1_; have HB := n2_; clear n0_ n1_ n2_; have p189 : 0 ≤ ((ji18) : Int) := of_decide_eq_true AS; have q189 : (ji18) < (l0_0.length : Int) := of_decide_eq_true AS; obtain ⟨ad189, e189, hx189_0, hx189_1, hx189_2⟩ := at_T45 HR0_0.out (ji18) p189 q189; have hw189_2 := hx189_2; have hw189_1 := hx189_1; have hw189_0 := hx189_0; obtain rfl : ad185 = ad189 := (by injection e189); replace hx189_0 := (HB.out.cell (World.block_lt_of_cell? w _ hx189_0)).trans hx189_0; replace hx189_1 := (HB.out.cell (World.block_lt_of_cell? w _ hx189_1)).trans hx189_1; replace hx189_2 := (HB.out.cell (World.block_lt_of_cell? w _ hx189_2)).trans hx189_2; replace p189 := eq_true p189; replace q189 := eq_true q189; refine start_ (n := 36) (S := fun w' => w'.cell? ⟨gb186, 0, none⟩ = some (.string ((rd_T45 l0_0 x8_1).f0)) ∧ w'.cell? ⟨gb186, 1, none⟩ = some (.string ((rd_T45 l0_0 x8_1).f1)) ∧ w'.cell? ⟨gb186, 2, none⟩ = some (.int .i64 ((rd_T45 l0_0 x8_1).f2)) ∧ w'.cell? ⟨gb184, 0, none⟩ = some (.slice (some ad185) l0_0.length c0_0) ∧ w'.cell? (ad185.add (((ji18)).toNat * 3)) = some (.string ((rd_T45 l0_0 (ji18)).f0)) ∧ w'.cell? ⟨(ad185.add (((ji18)).toNat * 3)).block, (ad185.add (((ji18)).toNat * 3)).off + 1, none⟩ = some (.string ((rd_T45 l0_0 (ji18)).f1)) ∧ w'.cell? ⟨(ad185.add (((ji18)).toNat * 3)).block, (ad185.add (((ji18)).toNat * 3)).off + 2, none⟩ = some (.int .i64 ((rd_T45 l0_0 (ji18)).f2))) (ds := []) #[false, false, false, false, false, false, false, false, false, false, false, false, false, false, false, false, false, false, false, false, false, false, false, false, false, false, false, false, false, false, false, false, false, false, false, false] (by kernel_rfl) rfl rfl ⟨CZ BK186.out 0, CZ BK186.out 1, CZ BK186.out 2, CZ BK184.out 0, ((HB.out.cell (World.block_lt_of_cell? w _ hw189_0)).trans hw189_0), ((HB.out.cell (World.block_lt_of_cell? w _ hw189_1)).trans hw189_1), ((HB.out.cell (World.block_lt_of_cell? w _ hw189_2)).trans hw189_2)⟩ (fun hHeld => ?_); refine with_tabW impl_DiskOk.tab4 impl_DiskOk.bits4 (fun HT_ HW_ => ?_); generalize w25.drew = w26 at BK184 BK186 HB hx189_0 hx189_1 hx189_2 hHeld ⊢; refine pV 0 13 (OB 36 1) ?_; refine take_ (i := 1) (N := some 14) (v := ?_) (a' := ?_) (OB 36 3) rfl rfl (take_ofW HT_.out HW_.out (by kernel_rfl)) (fun _ _ _ h => h) (Or.inl ⟨by rfl, ?_⟩) hHeld ?_ ?_; rotate_left
   ·
    rintro w' ⟨s0, s1, s2, s3, s4, s5, s6⟩
    go_simp
    with_reducible rfl
   rotate_left
   ·
    simp only [Act.put, zA, zB, zC, i64_w, i32_w]; rfl
   refine pV 2 15 (OB 36 7) ?_; refine one_ (i := 3) (N := some 16) (OB 36 15) rfl rfl (one_of HT_.out (by kernel_rfl)) (by decide) (fun K hK => ?_); refine goes_ Try.func51 (by kernel_rfl) rfl #[.int .i64 (((rd_T45 l0_0 x8_1).f0).size : Int), .int .i64 1, .int .i64 8] (by rfl) rfl rfl (MA) ?_
   with_reducible refine (impl_within.calls (((rd_T45 l0_0 x8_1).f0).size : Int) 1 8 true _ A7.out).mono ?_
   rintro e w' ⟨rfl, ⟨nd, rfl⟩⟩; refine ⟨_, rfl, ?_⟩; refine hK.out _ _ ⟨CZ BK186.out 0, CZ BK186.out 1, CZ BK186.out 2, CZ BK184.out 0, ((HB.out.cell (World.block_lt_of_cell? w _ hw189_0)).trans hw189_0), ((HB.out.cell (World.block_lt_of_cell? w _ hw189_1)).trans hw189_1), ((HB.out.cell (World.block_lt_of_cell? w _ hw189_2)).trans hw189_2)⟩ (fun hHeld => ?_); clear hK K; refine norm_ (a' := ?_) ?_ ?_; rotate_left
   ·
    show Act.put _ (some 16) _ = _; simp only [Act.put, zA, zB, zC, i64_w, i32_w]; rfl
   refine pV 4 17 (OB 36 31) ?_; refine pV 5 18 (OB 36 63) ?_; refine pV 6 19 (OB 36 127) ?_; refine take_ (i := 7) (N := some 20) (v := ?_) (a' := ?_) (OB 36 255) rfl rfl (take_ofW HT_.out HW_.out (by kernel_rfl)) (fun _ _ _ h => h) (Or.inl ⟨by rfl, ?_⟩) hHeld ?_ ?_; rotate_left
   ·
    rintro w' ⟨s0, s1, s2, s3, s4, s5, s6⟩
    go_simp
    with_reducible rfl
   rotate_left
   ·
    simp only [Act.put, zA, zB, zC, i64_w, i32_w]; rfl
   refine pV 8 21 (OB 36 511) ?_; refine pV 9 22 (OB 36 1023) ?_; refine pV 10 23 (OB 36 2047) ?_; refine pV 11 24 (OB 36 4095) ?_; refine pV 12 25 (OB 36 8191) ?_; refine pV 14 27 (OB 36 24575) ?_; refine take_ (i := 13) (N := some 26) (v := ?_) (a' := ?_) (OB 36 32767) rfl rfl (take_ofW HT_.out HW_.out (by kernel_rfl)) (fun _ _ _ h => h) (Or.inl ⟨by rfl, ?_⟩) hHeld ?_ ?_; rotate_left
   ·
    rintro w' ⟨s0, s1, s2, s3, s4, s5, s6⟩
    go_simp
    with_reducible rfl
   rotate_left
   ·
    simp only [Act.put, zA, zB, zC, i64_w, i32_w]; rfl
   refine take_ (i := 15) (N := some 28) (v := ?_) (a' := ?_) (OB 36 65535) rfl rfl (take_ofW HT_.out HW_.out (by kernel_rfl)) (fun _ _ _ h => h) (Or.inl ⟨by rfl, ?_⟩) hHeld ?_ ?_; rotate_left
   ·
    rintro w' ⟨s0, s1, s2, s3, s4, s5, s6⟩
    go_simp
    with_reducible rfl
   rotate_left
   ·
    simp only [Act.put, zA, zB, zC, i64_w, i32_w]; rfl
   refine pV 16 29 (OB 36 131071) ?_; refine one_ (i := 17) (N := some 30) (OB 36 262143) rfl rfl (one_of HT_.out (by kernel_rfl)) (by decide) (fun K hK => ?_); refine goes_ Try.func51 (by kernel_rfl) rfl #[.int .i64 ((rd_T45 l0_0 x8_1).f2), .int .i64 0, .int .i64 (((rd_T45 l0_0 x8_1).f1).size : Int)] (by rfl) rfl rfl (MA) ?_
   with_reducible refine (impl_within.calls ((rd_T45 l0_0 x8_1).f2) 0 (((rd_T45 l0_0 x8_1).f1).size : Int) true _ A15.out).mono ?_
   rintro e w' ⟨rfl, ⟨nd, rfl⟩⟩; refine ⟨_, rfl, ?_⟩; refine hK.out _ _ ⟨CZ BK186.out 0, CZ BK186.out 1, CZ BK186.out 2, CZ BK184.out 0, ((HB.out.cell (World.block_lt_of_cell? w _ hw189_0)).trans hw189_0), ((HB.out.cell (World.block_lt_of_cell? w _ hw189_1)).trans hw189_1), ((HB.out.cell (World.block_lt_of_cell? w _ hw189_2)).trans hw189_2)⟩ (fun hHeld => ?_); clear hK K; refine norm_ (a' := ?_) ?_ ?_; rotate_left
   ·
    show Act.put _ (some 30) _ = _; simp only [Act.put, zA, zB, zC, i64_w, i32_w]; rfl
   refine pV 18 31 (OB 36 524287) ?_; refine pV 19 32 (OB 36 1048575) ?_; refine pV 20 33 (OB 36 2097151) ?_; refine pV 21 34 (OB 36 4194303) ?_; refine pV 22 35 (OB 36 8388607) ?_; refine pV 23 36 (OB 36 16777215) ?_; refine pV 24 37 (OB 36 33554431) ?_; refine pV 26 39 (OB 36 100663295) ?_; refine pV 27 40 (OB 36 234881023) ?_; refine pV 31 44 (OB 36 2382364671) ?_; refine take_ (i := 25) (N := some 38) (v := ?_) (a' := ?_) (OB 36 2415919103) rfl rfl (take_ofW HT_.out HW_.out (by kernel_rfl)) (fun _ _ _ h => h) (Or.inl ⟨by rfl, ?_⟩) hHeld ?_ ?_; rotate_left
   ·
    rintro w' ⟨s0, s1, s2, s3, s4, s5, s6⟩
    go_simp
    with_reducible rfl
   rotate_left
   ·
    simp only [Act.put, zA, zB, zC, i64_w, i32_w]; rfl
   refine pV 28 41 (OB 36 2684354559) ?_; refine pV 29 42 (OB 36 3221225471) ?_; refine take_ (i := 30) (N := some 43) (v := ?_) (a' := ?_) (OB 36 4294967295) rfl rfl (take_ofW HT_.out HW_.out (by kernel_rfl)) (fun _ _ _ h => h) (Or.inl ⟨by rfl, ?_⟩) hHeld ?_ ?_; rotate_left
   ·
    rintro w' ⟨s0, s1, s2, s3, s4, s5, s6⟩
    go_simp
    with_reducible rfl
   rotate_left
   ·
    simp only [Act.put, zA, zB, zC, i64_w, i32_w]; rfl
   refine take_ (i := 32) (N := some 45) (v := ?_) (a' := ?_) (OB 36 8589934591) rfl rfl (take_ofW HT_.out HW_.out (by kernel_rfl)) (fun _ _ _ h => h) (Or.inl ⟨by rfl, ?_⟩) hHeld ?_ ?_; rotate_left
   ·
    rintro w' ⟨s0, s1, s2, s3, s4, s5, s6⟩
    go_simp
    with_reducible rfl
   rotate_left
   ·
    simp only [Act.put, zA, zB, zC, i64_w, i32_w]; rfl
   refine pV 33 46 (OB 36 17179869183) ?_; refine pV 34 47 (OB 36 34359738367) ?_; refine pV 35 48 (OB 36 68719476735) ?_; refine done_ (done_of HT_.out (by kernel_rfl)) ?_
   try go_wp2
   go_roundg k1
   case measure => have := HK1.out; omega
   case rel => exact ⟨(wrap64 (x8_1 + 1)), SD, H', ⟨by have := HK1.out; omega⟩, ⟨BQ BK184.out⟩, ⟨BL⟩⟩

/-! ### impl_copyDisk: function 61 -/
def impl_copyDisk.f (l0_0 : List (S45)) : Option ((List (S45))) := (some (([] : List (S45)) : List (S45))).bind fun y192 => (if y192.length + l0_0.length < 3518437208883 then (some (y192 ++ l0_0)) else (none))
set_option maxHeartbeats 8000000 in
set_option maxRecDepth 100000 in
theorem impl_copyDisk.calls (A0_0 : Option Addr) (c0_0 : Nat) (l0_0 : List (S45)) (r : List (S45)) (w : World) (hr0_0 : Kd.C k45 w A0_0 l0_0.length l0_0) (hc0_0 : l0_0.length ≤ c0_0) (h : impl_copyDisk.f l0_0 = some r) :
  Calls Try.prog 61 #[.agg #[.slice A0_0 l0_0.length c0_0]] w fun e w' => ∃ v0_ : Value, e = .returned (.agg #[v0_]) ∧ Kd.R k45 45 w' w.heap.size (fun _ => True) v0_ r ∧ Below w.heap.size w w' := by
 have hu29 := Try.underlying29
 have HR0_0 := Aside0.mk hr0_0
 have HC0_0 := Aside0.mk hc0_0
 clear hr0_0 hc0_0
 have HB := Aside0.mk (Below.refl w.heap.size w)
 have H : ((some (([] : List (S45)) : List (S45))).bind fun y192 => (if y192.length + l0_0.length < 3518437208883 then (some (y192 ++ l0_0)) else (none))) = some r := h
 clear h
 obtain ⟨y192, hy192⟩ : ∃ y_ : List (S45), y_ = (([] : List (S45))) := ⟨_, rfl⟩
 replace H : (if y192.length + l0_0.length < 3518437208883 then (some (y192 ++ l0_0)) else (none)) = some r := by first | (rw [hy192]; with_reducible exact H) | (have H2_ := (Option.bind_some _ _).symm.trans H; rw [hy192]; with_reducible exact H2_) | (have H2_ := (Option.bind_some _ _).symm.trans H; with_reducible exact H2_) | with_reducible exact H | (rw [hy192]; exact H) | exact H
 have Ny192 := Aside0.mk hy192
 clear hy192
 by_cases c2 : y192.length + l0_0.length < 3518437208883; rotate_left
 ·
  rw [if_neg c2] at H; exact absurd H (by simp)
 rw [if_pos c2] at H
 have LMc2 := Aside0.mk c2
 clear c2
 obtain ⟨y195, hy195⟩ : ∃ y_ : List (S45), y_ = (y192 ++ l0_0) := ⟨_, rfl⟩
 replace H : (some y195) = some r := by first | (rw [hy195]; with_reducible exact H) | (have H2_ := (Option.bind_some _ _).symm.trans H; rw [hy195]; with_reducible exact H2_) | (have H2_ := (Option.bind_some _ _).symm.trans H; with_reducible exact H2_) | with_reducible exact H | (rw [hy195]; exact H) | exact H
 have Ny195 := Aside0.mk hy195
 clear hy195
 obtain rfl := Option.some.inj H
 go_enter Try.func61, Try.ntmps61
 go_wp2_with (first | ((with_reducible refine gate_dst (N := 1) rfl ?_); refine bE 1 #[.slice A0_0 l0_0.length c0_0] 29 ?_; intro gb190 hg w3 hbox hb; have BK190 := Aside0.mk (hbox); have GW190 : Aside0 (w.heap.size ≤ gb190) := GS; have GE190 := GW190; replace HB := Aside0.mk (below_step (BL) hb); clear hb hbox hg) | ((with_reducible refine gate_dst (N := 2) rfl ?_); refine bE 2 #[.slice none 0 0] 29 ?_; intro gb191 hg w4 hbox hb; have BK191 := Aside0.mk (hbox); have GW191 : Aside0 (w.heap.size ≤ gb191) := GS; have GE191 := GW191; have NB190_191 := NL BK190.out hg; have NB191_190 := NG BK190.out hg; replace BK190 := BB BK190.out hb; replace HB := Aside0.mk (below_step (BL) hb); clear hb hbox hg) | ((with_reducible refine gate_dst (N := 3) rfl ?_); refine Kd.R_lit k45 _ 45 ?hg (N := 3) ?hd (xs := ([] : List (S45))) (inner := []) (ok := fun _ => True) (okp := fun _ => True) ?hr ?hp (fun _ hk => hk) trivial (Below.refl _ _) (Nat.le_refl _) (by simp) ?_; (case hd => rfl); (case hg => rfl); (case hr => first | (go_simp; done) | (go_simp; rfl)); (case hp => exact (Reps.none _ _)); intro v193 w5 ho6 hb hg_ hnew_; clear hg_ hnew_; (first | rw [← Ny192.out] at ho6 | (simp only [Int.reduceToNat] at ho6; rw [← Ny192.out] at ho6)); have HO194 := Aside0.mk (Kd.R_lower ho6 (below_size (BL))); replace BK190 := BB BK190.out hb; replace BK191 := BB BK191.out hb; replace HB := Aside0.mk (below_step (BL) hb); clear hb ho6; have hnb7 := NB190_191.out; have hnc7 := NB191_190.out; have hcz8_0 : w5.cell? ⟨gb190, 0, none⟩ = some (.slice A0_0 l0_0.length c0_0) := CZ BK190.out 0; have hfz8_0 := blk_frozen BK190.out 0) | ((with_reducible refine gate_builtin (b := .append) (xs := #[.tmp 3, .tmp 5]) rfl ?_); at_builtin; refine Kd.R_append_rows k45 (w0 := w) w.heap.size rfl (.tmp 3) (.tmp 5) 27 45 (.agg #[(.string ⟨#[]⟩), (.string ⟨#[]⟩), (.int .i64 0)]) 40 rfl Try.underlying27 info45 rfl (by decide) (by omega) v193 y192 l0_0 _ _ _ (fun _ => True) (fun _ => False) rfl rfl ?aO ?aR (fun _ _ h => h) (fun _ h => h.elim) ?aF ?aB ?aS ?aL ?_; (case aR => exact CB HR0_0.out); (case aB => exact (BL)); (case aF => exact (fun _ _ => trivial)); (case aO => exact (RQ HO194.out)); (case aS => exact (below_size (BL))); (case aL => have := LMc2.out; omega); intro v196 w9 ho hb hg hat; rw [← Ny195.out] at ho; have n0_ := Aside0.mk (blk_grown (g := gb190) (o := .cells #[.slice A0_0 l0_0.length c0_0] 29 (0, 0)) (BQ BK190.out) hg (Kd.R_ne HO194.out BK190.out (by decide))); have n1_ := Aside0.mk (blk_grown (g := gb191) (o := .cells #[.slice none 0 0] 29 (0, 0)) (BQ BK191.out) hg (Kd.R_ne HO194.out BK191.out (by decide))); have n2_ := Aside0.mk (hb); have n3_ := Aside0.mk (ho); clear BK190; clear BK191; clear HB; clear HO194; have BK190 := n0_; have BK191 := n1_; have HB := n2_; have HO197 := n3_; clear n0_ n1_ n2_ n3_; clear ho hb hg hat; obtain ⟨Ao10, co10, eo10⟩ := Kd.R_slice HO197.out; subst eo10; have hcz11_0 : w9.cell? ⟨gb191, 0, none⟩ = some (.slice none 0 0) := CZ BK191.out 0; have hfz11_0 := blk_frozen BK191.out 0))
 refine bodyPost_ret (results_cell_row rfl _ _ gb191 29 #[.slice Ao10 y195.length co10] (0, 0) _ rfl (BU BK191.out) Try.underlying29 rfl (by kernel_rfl)) rfl ?_
 exact ⟨_, EE, by (with_reducible repeat (first | apply r1 | apply r2 | apply r3)); exact Kd.R_mono (Kd.R_far (p := ⟨gb191, 0, none⟩) (Kd.R_types HO197.out BK191.out (by decide)) (fun _ hk => hk.2) (.slice Ao10 y195.length co10)) (fun _ hk => trivial), BL⟩

end Go.Proofs.Ythfppepnpngfmaa.Qcu
