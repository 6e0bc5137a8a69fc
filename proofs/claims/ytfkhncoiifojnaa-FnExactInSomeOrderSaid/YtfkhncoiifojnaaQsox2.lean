-- Laid by myprint.py, a program of this session's own, over the kit's print. Not trusted: Lean checks it.
import Derived.Test.YtfkhncoiifojnaaQsox0
import Derived.Test.YtfkhncoiifojnaaQsox1
namespace Go.Proofs.Ytfkhncoiifojnaa.Qso
open Go.RowKit Go.Proofs.YtfkhncoiifojnaaW.PrintWords Go.Proofs.YtfkhncoiifojnaaW.PrintLast Go.Proofs.YtfkhncoiifojnaaW.PrintMore
attribute [local go_sem] Go.Proofs.Ytfkhncoiifojnaa.StrCmp.gtr_less Go.Proofs.Ytfkhncoiifojnaa.StrCmp.geq_less Go.Proofs.Ytfkhncoiifojnaa.StrCmp.leq_less max2_int min2_int max_two min_two max_three min_three max_four min_four   -- for this text's walks alone
set_option linter.unusedVariables false
set_option linter.unusedSimpArgs false

/-! ### laws_toCallS: function 26 -/
def laws_toCallS.l0 : Nat → List (S91) → List (S67) → Int → Option ((List (S67)))
 | 0, _, _, _ => none
 | k + 1, x0, x3, x4 => if x4 < (x0.length : Int) then (if 0 ≤ x4 then ((laws_toCall.f ((rd_T91 x0 x4).f0.f0) ((rd_T91 x0 x4).f0.f1) ((rd_T91 x0 x4).f0.f2) ((rd_T91 x0 x4).f0.f3) ((rd_T91 x0 x4).f0.f4) ((rd_T91 x0 x4).f0.f5) ((rd_T91 x0 x4).f0.f6) ((rd_T91 x0 x4).f0.f7) ((rd_T91 x0 x4).f0.f8) ((rd_T91 x0 x4).f0.f9) ((rd_T91 x0 x4).f0.f10) ((rd_T91 x0 x4).f1) ((rd_T91 x0 x4).f2)).bind fun bt182 => (if x4 < (x3.length : Int) then (laws_toCallS.l0 k x0 (x3.set (x4 : Int).toNat (⟨(⟨bt182.1, bt182.2.1, bt182.2.2.1, bt182.2.2.2.1, bt182.2.2.2.2.1, bt182.2.2.2.2.2.1, bt182.2.2.2.2.2.2.1, bt182.2.2.2.2.2.2.2.1, bt182.2.2.2.2.2.2.2.2.1, bt182.2.2.2.2.2.2.2.2.2.1, bt182.2.2.2.2.2.2.2.2.2.2.1⟩ : S30), bt182.2.2.2.2.2.2.2.2.2.2.2.1, bt182.2.2.2.2.2.2.2.2.2.2.2.2⟩ : S67)) (wrap64 (x4 + 1))) else (none))) else (none)) else (some x3)
def laws_toCallS.f (k : Nat) (l0 : List (S91)) : Option ((List (S67))) := if 0 ≤ (l0.length : Int) then (if ((l0.length : Int) : Int).toNat ≤ 2706490160679 then (laws_toCallS.l0 k l0 (List.replicate ((l0.length : Int) : Int).toNat z67) 0) else (none)) else (none)
theorem laws_toCallS.mono_l : ∀ k, (∀ y0 y1 y2, LeO (laws_toCallS.l0 k y0 y1 y2) (laws_toCallS.l0 (k + 1) y0 y1 y2))
 | 0 => fun _ _ _ r h => by simp [laws_toCallS.l0] at h
 | k + 1 => by
  have ih0 := laws_toCallS.mono_l k
  ·
   intro y0 y1 y2
   unfold laws_toCallS.l0
   repeat' first
   | (with_reducible exact ih0 _ _ _)
   | (with_reducible exact LeO.refl _)
   | (with_reducible exact LeO.none _)
   | (with_reducible refine LeO.ite ?_ ?_)
   | (with_reducible refine LeO.bind ?_ (fun _ => ?_))
   | exact ih0 _ _ _
   | exact LeO.none _
   | refine LeO.ite ?_ ?_
   | refine LeO.bind ?_ (fun _ => ?_)
theorem laws_toCallS.mono : ∀ a0 k, LeO (laws_toCallS.f k a0) (laws_toCallS.f (k + 1) a0) := by
 intro a0 k
 have ih0 := laws_toCallS.mono_l k
 unfold laws_toCallS.f
 repeat' first
   | (with_reducible exact ih0 _ _ _)
   | (with_reducible exact LeO.refl _)
   | (with_reducible exact LeO.none _)
   | (with_reducible refine LeO.ite ?_ ?_)
   | (with_reducible refine LeO.bind ?_ (fun _ => ?_))
   | exact ih0 _ _ _
   | exact LeO.none _
   | refine LeO.ite ?_ ?_
   | refine LeO.bind ?_ (fun _ => ?_)
set_option maxHeartbeats 8000000 in
set_option maxRecDepth 100000 in
theorem laws_toCallS.calls (k : Nat) (A0 : Option Addr) (c0 : Nat) (l0 : List (S91)) (r : List (S67)) (w : World) (hr0 : Kd.C k91 w A0 l0.length l0) (hc0 : l0.length ≤ c0) (h : laws_toCallS.f k l0 = some r) :
  Calls Try.prog 26 #[.slice A0 l0.length c0] w fun e w' => ∃ v0_ : Value, e = .returned (v0_) ∧ Kd.R k67 67 w' w.heap.size (fun _ => True) v0_ r ∧ Below w.heap.size w w' := by
 have hu91 := Try.underlying91
 have hu67 := Try.underlying67
 have HR0 := Aside0.mk hr0
 have HC0 := Aside0.mk hc0
 clear hr0 hc0
 have HB := Aside0.mk (Below.refl w.heap.size w)
 have H : (if 0 ≤ (l0.length : Int) then (if ((l0.length : Int) : Int).toNat ≤ 2706490160679 then (laws_toCallS.l0 k l0 (List.replicate ((l0.length : Int) : Int).toNat z67) 0) else (none)) else (none)) = some r := h
 clear h
 by_cases c2 : 0 ≤ (l0.length : Int); rotate_left
 ·
  rw [if_neg c2] at H; exact absurd H (by simp)
 rw [if_pos c2] at H
 have c2b0 := eq_true c2
 have c2b1 : decide (0 ≤ (l0.length : Int)) = true := decide_eq_true c2
 clear c2
 by_cases c3 : ((l0.length : Int) : Int).toNat ≤ 2706490160679; rotate_left
 ·
  rw [if_neg c3] at H; exact absurd H (by simp)
 rw [if_pos c3] at H
 have c3b0 := eq_true c3
 have c3b1 : decide (((l0.length : Int) : Int).toNat ≤ 2706490160679) = true := decide_eq_true c3
 clear c3
 obtain ⟨y178, hy178⟩ : ∃ y_ : List (S67), y_ = (List.replicate ((l0.length : Int) : Int).toNat z67) := ⟨_, rfl⟩
 replace H : (laws_toCallS.l0 k l0 y178 0) = some r := by first | (rw [hy178]; with_reducible exact H) | (have H2_ := (Option.bind_some _ _).symm.trans H; rw [hy178]; with_reducible exact H2_) | (have H2_ := (Option.bind_some _ _).symm.trans H; with_reducible exact H2_) | with_reducible exact H | (rw [hy178]; exact H) | exact H
 have Ny178 := Aside0.mk hy178
 clear hy178
 have H' := Aside0.mk H
 clear H
 go_enter Try.func26, Try.ntmps26
 go_wp2_with (first | ((with_reducible refine gate_dst (N := 7) rfl ?_); refine Kd.R_make k67 _ 67 rfl (N := 7) rfl 46 _ _ rfl (l0.length : Int) rfl rfl Try.underlying46 (.agg #[(.int .i64 0), (.int .i64 0), (.int .i64 0), (.int .i64 0), (.int .i64 0), (.int .i64 0), (.int .i64 0), (.int .i64 0), (.int .i64 0), (.bool false), (.int .i64 0), (.int .i64 0), (.int .i64 0)]) 104 info67 rfl (by decide) (by omega) z67 (ok := fun _ => True) (okp := fun _ => True) (k67_mkM _ _ _ z67 ) (fun _ hk => hk) trivial (of_decide_eq_true AS) (Nat.le_trans (Nat.mul_le_mul_right _ (of_decide_eq_true AS : (l0.length : Int).toNat ≤ 2706490160679)) (by omega)) (Below.refl _ _) (Nat.le_refl _) ?_; intro v179 w4 ho5 hb hg_ hnew_; clear hg_ hnew_; (first | rw [← Ny178.out] at ho5 | (simp only [Int.reduceToNat] at ho5; rw [← Ny178.out] at ho5)); have HO180 := Aside0.mk (Kd.R_lower ho5 (below_size (BL))); replace HB := Aside0.mk (below_step (BL) hb); clear hb ho5))
 go_loopg [4] k (fun kq v4 w' => ∃ (x3_1 : List (S67)) (x4_1 : Int), v4 = .int .i64 x4_1 ∧ Aside0 (laws_toCallS.l0 kq l0 x3_1 x4_1 = some r) ∧ Aside0 (kq ≤ k) ∧ Aside0 (Kd.R k67 67 w' w.heap.size (fun _ => True) v179 x3_1) ∧ Aside0 (Below w.heap.size w w'))
 case atStart => exact ⟨(y178), (0), SD, H', ⟨Nat.le_refl _⟩, ⟨RQ HO180.out⟩, ⟨BL⟩⟩
 case round =>
  clear H'
  try clear c2 c2b0 c2b1 p2 c3 c3b0 c3b1
  obtain ⟨x3_1, x4_1, rfl, HA, HK1, HO_3, HB⟩ := hrel; cases gk with
  | zero => exact absurd HA.out (by simp [laws_toCallS.l0])
  | succ k1 =>
   have H := HA.out; clear HA; simp only [laws_toCallS.l0] at H
   by_cases c6 : x4_1 < (l0.length : Int); rotate_left
   ·
    rw [if_neg c6] at H; have c6b0 : decide (x4_1 < (l0.length : Int)) = false := decide_eq_false c6; clear c6; obtain rfl := Option.some.inj H
    go_wp2
    go_ret
    exact ⟨_, EE, RQ HO_3.out, BL⟩
   rw [if_pos c6] at H; have c6b0 : decide (x4_1 < (l0.length : Int)) = true := decide_eq_true c6; clear c6
   by_cases c7 : 0 ≤ x4_1; rotate_left
   ·
    rw [if_neg c7] at H; exact absurd H (by simp)
   rw [if_pos c7] at H; have c7b0 : decide (0 ≤ x4_1) = true := decide_eq_true c7; clear c7; replace H := Option.bind_eq_some_iff.mp H; obtain ⟨⟨t182, t183, t184, t185, t186, t187, t188, t189, t190, t191, t192, t193, t194⟩, A80, H⟩ := H; replace H : (if x4_1 < (x3_1.length : Int) then (laws_toCallS.l0 k1 l0 (x3_1.set (x4_1 : Int).toNat (⟨(⟨t182, t183, t184, t185, t186, t187, t188, t189, t190, t191, t192⟩ : S30), t193, t194⟩ : S67)) (wrap64 (x4_1 + 1))) else (none)) = some r := H; have A8 := Aside0.mk A80; clear A80
   by_cases c9 : x4_1 < (x3_1.length : Int); rotate_left
   ·
    rw [if_neg c9] at H; exact absurd H (by simp)
   rw [if_pos c9] at H; have c9b0 : decide (x4_1 < (x3_1.length : Int)) = true := decide_eq_true c9; clear c9; obtain ⟨y195, hy195⟩ : ∃ y_ : List (S67), y_ = (x3_1.set (x4_1 : Int).toNat (⟨(⟨t182, t183, t184, t185, t186, t187, t188, t189, t190, t191, t192⟩ : S30), t193, t194⟩ : S67)) := ⟨_, rfl⟩
   replace H : (laws_toCallS.l0 k1 l0 y195 (wrap64 (x4_1 + 1))) = some r := by first | (rw [hy195]; with_reducible exact H) | (have H2_ := (Option.bind_some _ _).symm.trans H; rw [hy195]; with_reducible exact H2_) | (have H2_ := (Option.bind_some _ _).symm.trans H; with_reducible exact H2_) | with_reducible exact H | (rw [hy195]; exact H) | exact H
   have Ny195 := Aside0.mk hy195; clear hy195; have H' := Aside0.mk H; clear H; have p181 : 0 ≤ (x4_1 : Int) := of_decide_eq_true AS; have q181 : x4_1 < (l0.length : Int) := of_decide_eq_true AS; obtain ⟨ad181, e181, hx181_0, hx181_1, hx181_2, hx181_3, hx181_4, hx181_5, hx181_6, hx181_7, hx181_8, hx181_9, hx181_10, hx181_11, hx181_12⟩ := at_T91 HR0.out x4_1 p181 q181; cases e181; replace hx181_0 := (HB.out.cell (World.block_lt_of_cell? w _ hx181_0)).trans hx181_0; replace hx181_1 := (HB.out.cell (World.block_lt_of_cell? w _ hx181_1)).trans hx181_1; replace hx181_2 := (HB.out.cell (World.block_lt_of_cell? w _ hx181_2)).trans hx181_2; replace hx181_3 := (HB.out.cell (World.block_lt_of_cell? w _ hx181_3)).trans hx181_3; replace hx181_4 := (HB.out.cell (World.block_lt_of_cell? w _ hx181_4)).trans hx181_4; replace hx181_5 := (HB.out.cell (World.block_lt_of_cell? w _ hx181_5)).trans hx181_5; replace hx181_6 := (HB.out.cell (World.block_lt_of_cell? w _ hx181_6)).trans hx181_6; replace hx181_7 := (HB.out.cell (World.block_lt_of_cell? w _ hx181_7)).trans hx181_7; replace hx181_8 := (HB.out.cell (World.block_lt_of_cell? w _ hx181_8)).trans hx181_8; replace hx181_9 := (HB.out.cell (World.block_lt_of_cell? w _ hx181_9)).trans hx181_9; replace hx181_10 := (HB.out.cell (World.block_lt_of_cell? w _ hx181_10)).trans hx181_10; replace hx181_11 := (HB.out.cell (World.block_lt_of_cell? w _ hx181_11)).trans hx181_11; replace hx181_12 := (HB.out.cell (World.block_lt_of_cell? w _ hx181_12)).trans hx181_12; replace p181 := eq_true p181; replace q181 := eq_true q181
   go_wp2_with (first | ((with_reducible refine gate_callee (f := 62) rfl ?_); refine goesL_ (some 20) rfl rfl Try.func62 (by kernel_rfl) rfl #[.agg #[.int .i64 ((rd_T91 l0 x4_1).f0.f0), .int .i64 ((rd_T91 l0 x4_1).f0.f1), .int .i64 ((rd_T91 l0 x4_1).f0.f2), .int .i64 ((rd_T91 l0 x4_1).f0.f3), .int .i64 ((rd_T91 l0 x4_1).f0.f4), .int .i64 ((rd_T91 l0 x4_1).f0.f5), .int .i64 ((rd_T91 l0 x4_1).f0.f6), .int .i64 ((rd_T91 l0 x4_1).f0.f7), .int .i64 ((rd_T91 l0 x4_1).f0.f8), .bool ((rd_T91 l0 x4_1).f0.f9), .int .i64 ((rd_T91 l0 x4_1).f0.f10), .int .i64 ((rd_T91 l0 x4_1).f1), .int .i64 ((rd_T91 l0 x4_1).f2)]] rfl (MA) ?_; (with_reducible refine (laws_toCall.calls ((rd_T91 l0 x4_1).f0.f0) ((rd_T91 l0 x4_1).f0.f1) ((rd_T91 l0 x4_1).f0.f2) ((rd_T91 l0 x4_1).f0.f3) ((rd_T91 l0 x4_1).f0.f4) ((rd_T91 l0 x4_1).f0.f5) ((rd_T91 l0 x4_1).f0.f6) ((rd_T91 l0 x4_1).f0.f7) ((rd_T91 l0 x4_1).f0.f8) ((rd_T91 l0 x4_1).f0.f9) ((rd_T91 l0 x4_1).f0.f10) ((rd_T91 l0 x4_1).f1) ((rd_T91 l0 x4_1).f2) t182 t183 t184 t185 t186 t187 t188 t189 t190 t191 t192 t193 t194 _ A8.out).mono ?_); rintro e w11 ⟨rfl, hb⟩; refine ⟨_, rfl, ?_⟩; replace HO_3 := Aside0.mk (Kd.R_below (RQ HO_3.out) hb); replace HB := Aside0.mk (below_step (BL) hb); (try clear hb); (try clear hb2); (try clear hk); (try clear hi); have p10 : 0 ≤ (x4_1 : Int) := of_decide_eq_true AS; have q10 : (x4_1 : Int) < ((x3_1.length : Int) : Int) := of_decide_eq_true AS; obtain ⟨go10, co10, eo10, gb10, gl10, cl10, HG10⟩ := Kd.R_form HO_3.out (by omega); (first | cases eo10 | (injection eo10 with ea_ en_ ec_; (first | subst ea_ | (injection ea_ with ea_; subst ea_)); subst ec_; clear en_)); have GB10 := Aside0.mk gb10; have GG10 := Aside0.mk HG10; clear gb10 gl10 HG10; obtain ⟨ce10, hcl10, hM10, hcc10, hfr10⟩ := Kd.R_elem HO_3.out z67 (x4_1 : Int) p10 q10; obtain rfl := k67_openM hM10; have hx10_0 : w11.cell? ⟨go10, (x4_1 : Int).toNat * 13, none⟩ = some (.int .i64 ((rd_T67 x3_1 x4_1).f0.f0)) := hcc10 0 _ rfl; have hx10_1 : w11.cell? ⟨go10, (x4_1 : Int).toNat * 13 + 1, none⟩ = some (.int .i64 ((rd_T67 x3_1 x4_1).f0.f1)) := hcc10 1 _ rfl; have hx10_2 : w11.cell? ⟨go10, (x4_1 : Int).toNat * 13 + 2, none⟩ = some (.int .i64 ((rd_T67 x3_1 x4_1).f0.f2)) := hcc10 2 _ rfl; have hx10_3 : w11.cell? ⟨go10, (x4_1 : Int).toNat * 13 + 3, none⟩ = some (.int .i64 ((rd_T67 x3_1 x4_1).f0.f3)) := hcc10 3 _ rfl; have hx10_4 : w11.cell? ⟨go10, (x4_1 : Int).toNat * 13 + 4, none⟩ = some (.int .i64 ((rd_T67 x3_1 x4_1).f0.f4)) := hcc10 4 _ rfl; have hx10_5 : w11.cell? ⟨go10, (x4_1 : Int).toNat * 13 + 5, none⟩ = some (.int .i64 ((rd_T67 x3_1 x4_1).f0.f5)) := hcc10 5 _ rfl; have hx10_6 : w11.cell? ⟨go10, (x4_1 : Int).toNat * 13 + 6, none⟩ = some (.int .i64 ((rd_T67 x3_1 x4_1).f0.f6)) := hcc10 6 _ rfl; have hx10_7 : w11.cell? ⟨go10, (x4_1 : Int).toNat * 13 + 7, none⟩ = some (.int .i64 ((rd_T67 x3_1 x4_1).f0.f7)) := hcc10 7 _ rfl; have hx10_8 : w11.cell? ⟨go10, (x4_1 : Int).toNat * 13 + 8, none⟩ = some (.int .i64 ((rd_T67 x3_1 x4_1).f0.f8)) := hcc10 8 _ rfl; have hx10_9 : w11.cell? ⟨go10, (x4_1 : Int).toNat * 13 + 9, none⟩ = some (.bool ((rd_T67 x3_1 x4_1).f0.f9)) := hcc10 9 _ rfl; have hx10_10 : w11.cell? ⟨go10, (x4_1 : Int).toNat * 13 + 10, none⟩ = some (.int .i64 ((rd_T67 x3_1 x4_1).f0.f10)) := hcc10 10 _ rfl; have hx10_11 : w11.cell? ⟨go10, (x4_1 : Int).toNat * 13 + 11, none⟩ = some (.int .i64 ((rd_T67 x3_1 x4_1).f1)) := hcc10 11 _ rfl; have hx10_12 : w11.cell? ⟨go10, (x4_1 : Int).toNat * 13 + 12, none⟩ = some (.int .i64 ((rd_T67 x3_1 x4_1).f2)) := hcc10 12 _ rfl; have hf10_0 : w11.frozen? ⟨go10, (x4_1 : Int).toNat * 13, none⟩ = false := hfr10 0; have hf10_1 : w11.frozen? ⟨go10, (x4_1 : Int).toNat * 13 + 1, none⟩ = false := hfr10 1; have hf10_2 : w11.frozen? ⟨go10, (x4_1 : Int).toNat * 13 + 2, none⟩ = false := hfr10 2; have hf10_3 : w11.frozen? ⟨go10, (x4_1 : Int).toNat * 13 + 3, none⟩ = false := hfr10 3; have hf10_4 : w11.frozen? ⟨go10, (x4_1 : Int).toNat * 13 + 4, none⟩ = false := hfr10 4; have hf10_5 : w11.frozen? ⟨go10, (x4_1 : Int).toNat * 13 + 5, none⟩ = false := hfr10 5; have hf10_6 : w11.frozen? ⟨go10, (x4_1 : Int).toNat * 13 + 6, none⟩ = false := hfr10 6; have hf10_7 : w11.frozen? ⟨go10, (x4_1 : Int).toNat * 13 + 7, none⟩ = false := hfr10 7; have hf10_8 : w11.frozen? ⟨go10, (x4_1 : Int).toNat * 13 + 8, none⟩ = false := hfr10 8; have hf10_9 : w11.frozen? ⟨go10, (x4_1 : Int).toNat * 13 + 9, none⟩ = false := hfr10 9; have hf10_10 : w11.frozen? ⟨go10, (x4_1 : Int).toNat * 13 + 10, none⟩ = false := hfr10 10; have hf10_11 : w11.frozen? ⟨go10, (x4_1 : Int).toNat * 13 + 11, none⟩ = false := hfr10 11; have hf10_12 : w11.frozen? ⟨go10, (x4_1 : Int).toNat * 13 + 12, none⟩ = false := hfr10 12; clear hcl10 hcc10 hfr10 hM10; replace p10 := eq_true p10; replace q10 := eq_true q10; have HX12 := Aside0.mk (show Kd.R k67 67 w11 w.heap.size (fun _ => True) (.slice (some ⟨go10, 0, none⟩) x3_1.length co10) x3_1 from (RQ HO_3.out)); obtain ⟨ce12, hcl12, hM12, hcc12, hfr12⟩ := Kd.R_elem HX12.out z67 (x4_1 : Int) (of_decide_eq_true AS) (by have h_ : (x4_1 : Int) < ((x3_1.length : Int) : Int) := of_decide_eq_true AS; first | exact h_ | (have e_ := (Kd.R_reads' HO_3.out).1; omega) | simpa using h_); obtain rfl := k67_openM hM12; have HP12 := Kd.R_seg HX12.out (x4_1 : Int) (of_decide_eq_true AS) (by have h_ : (x4_1 : Int) < ((x3_1.length : Int) : Int) := of_decide_eq_true AS; first | exact h_ | (have e_ := (Kd.R_reads' HO_3.out).1; omega) | simpa using h_) (seg := [.int .i64 t182, .int .i64 t183, .int .i64 t184, .int .i64 t185, .int .i64 t186, .int .i64 t187, .int .i64 t188, .int .i64 t189, .int .i64 t190, .bool t191, .int .i64 t192, .int .i64 t193, .int .i64 t194]) (j := 0) hcl12 hcc12 (show 13 ≤ 13 from by decide) (x' := (⟨(⟨t182, t183, t184, t185, t186, t187, t188, t189, t190, t191, t192⟩ : S30), t193, t194⟩ : S67)) (k67_mkM _ _ _ (⟨(⟨t182, t183, t184, t185, t186, t187, t188, t189, t190, t191, t192⟩ : S30), t193, t194⟩ : S67) ) (fun _ hk => hk); have hx12_0 := hcc12 0 _ rfl; (try simp only [show (k67).sz = 13 from rfl, Nat.mul_one, Nat.add_zero] at hx12_0); have hf12_0 := hfr12 0; (try simp only [show (k67).sz = 13 from rfl, Nat.mul_one, Nat.add_zero] at hf12_0); have hx12_1 := hcc12 1 _ rfl; (try simp only [show (k67).sz = 13 from rfl, Nat.mul_one, Nat.add_zero] at hx12_1); have hf12_1 := hfr12 1; (try simp only [show (k67).sz = 13 from rfl, Nat.mul_one, Nat.add_zero] at hf12_1); have hx12_2 := hcc12 2 _ rfl; (try simp only [show (k67).sz = 13 from rfl, Nat.mul_one, Nat.add_zero] at hx12_2); have hf12_2 := hfr12 2; (try simp only [show (k67).sz = 13 from rfl, Nat.mul_one, Nat.add_zero] at hf12_2); have hx12_3 := hcc12 3 _ rfl; (try simp only [show (k67).sz = 13 from rfl, Nat.mul_one, Nat.add_zero] at hx12_3); have hf12_3 := hfr12 3; (try simp only [show (k67).sz = 13 from rfl, Nat.mul_one, Nat.add_zero] at hf12_3); have hx12_4 := hcc12 4 _ rfl; (try simp only [show (k67).sz = 13 from rfl, Nat.mul_one, Nat.add_zero] at hx12_4); have hf12_4 := hfr12 4; (try simp only [show (k67).sz = 13 from rfl, Nat.mul_one, Nat.add_zero] at hf12_4); have hx12_5 := hcc12 5 _ rfl; (try simp only [show (k67).sz = 13 from rfl, Nat.mul_one, Nat.add_zero] at hx12_5); have hf12_5 := hfr12 5; (try simp only [show (k67).sz = 13 from rfl, Nat.mul_one, Nat.add_zero] at hf12_5); have hx12_6 := hcc12 6 _ rfl; (try simp only [show (k67).sz = 13 from rfl, Nat.mul_one, Nat.add_zero] at hx12_6); have hf12_6 := hfr12 6; (try simp only [show (k67).sz = 13 from rfl, Nat.mul_one, Nat.add_zero] at hf12_6); have hx12_7 := hcc12 7 _ rfl; (try simp only [show (k67).sz = 13 from rfl, Nat.mul_one, Nat.add_zero] at hx12_7); have hf12_7 := hfr12 7; (try simp only [show (k67).sz = 13 from rfl, Nat.mul_one, Nat.add_zero] at hf12_7); have hx12_8 := hcc12 8 _ rfl; (try simp only [show (k67).sz = 13 from rfl, Nat.mul_one, Nat.add_zero] at hx12_8); have hf12_8 := hfr12 8; (try simp only [show (k67).sz = 13 from rfl, Nat.mul_one, Nat.add_zero] at hf12_8); have hx12_9 := hcc12 9 _ rfl; (try simp only [show (k67).sz = 13 from rfl, Nat.mul_one, Nat.add_zero] at hx12_9); have hf12_9 := hfr12 9; (try simp only [show (k67).sz = 13 from rfl, Nat.mul_one, Nat.add_zero] at hf12_9); have hx12_10 := hcc12 10 _ rfl; (try simp only [show (k67).sz = 13 from rfl, Nat.mul_one, Nat.add_zero] at hx12_10); have hf12_10 := hfr12 10; (try simp only [show (k67).sz = 13 from rfl, Nat.mul_one, Nat.add_zero] at hf12_10); have hx12_11 := hcc12 11 _ rfl; (try simp only [show (k67).sz = 13 from rfl, Nat.mul_one, Nat.add_zero] at hx12_11); have hf12_11 := hfr12 11; (try simp only [show (k67).sz = 13 from rfl, Nat.mul_one, Nat.add_zero] at hf12_11); have hx12_12 := hcc12 12 _ rfl; (try simp only [show (k67).sz = 13 from rfl, Nat.mul_one, Nat.add_zero] at hx12_12); have hf12_12 := hfr12 12; (try simp only [show (k67).sz = 13 from rfl, Nat.mul_one, Nat.add_zero] at hf12_12); clear hcl12 hcc12 hfr12 hM12) | ((with_reducible refine gate_store (t := 67) (p := 21) rfl ?_); refine store_event (t := 67) (p := 21) (v := ?vo_w13) (w1 := (((((((((((((w11.setCell ⟨go10, (x4_1 : Int).toNat * 13, none⟩ (.int .i64 t182)).setCell ⟨go10, (x4_1 : Int).toNat * 13 + 1, none⟩ (.int .i64 t183)).setCell ⟨go10, (x4_1 : Int).toNat * 13 + 2, none⟩ (.int .i64 t184)).setCell ⟨go10, (x4_1 : Int).toNat * 13 + 3, none⟩ (.int .i64 t185)).setCell ⟨go10, (x4_1 : Int).toNat * 13 + 4, none⟩ (.int .i64 t186)).setCell ⟨go10, (x4_1 : Int).toNat * 13 + 5, none⟩ (.int .i64 t187)).setCell ⟨go10, (x4_1 : Int).toNat * 13 + 6, none⟩ (.int .i64 t188)).setCell ⟨go10, (x4_1 : Int).toNat * 13 + 7, none⟩ (.int .i64 t189)).setCell ⟨go10, (x4_1 : Int).toNat * 13 + 8, none⟩ (.int .i64 t190)).setCell ⟨go10, (x4_1 : Int).toNat * 13 + 9, none⟩ (.bool t191)).setCell ⟨go10, (x4_1 : Int).toNat * 13 + 10, none⟩ (.int .i64 t192)).setCell ⟨go10, (x4_1 : Int).toNat * 13 + 11, none⟩ (.int .i64 t193)).setCell ⟨go10, (x4_1 : Int).toNat * 13 + 12, none⟩ (.int .i64 t194))) ?hg ?ho ?hn ?hr ?_; (case ho => rfl); (case hg => rfl); (case hn => rfl); (case hr => first | (go_simp; done) | (go_simp; rfl)); intro w13 hw; have hg : w11.grownBy w13 (some go10) := (by rw [hw]; exact HP12.2); have hp_ : Kd.R k67 67 w13 w.heap.size (fun _ => True) (.slice (some ⟨go10, 0, none⟩) x3_1.length co10) y195 := (by rw [hw, Ny195.out]; exact HP12.1); clear HP12; replace HO_3 := Aside0.mk (hp_); replace HB := Aside0.mk ((by rw [hw]; exact below_set (below_set (below_set (below_set (below_set (below_set (below_set (below_set (below_set (below_set (below_set (below_set (below_set (HB.out) GB10.out) GB10.out) GB10.out) GB10.out) GB10.out) GB10.out) GB10.out) GB10.out) GB10.out) GB10.out) GB10.out) GB10.out) GB10.out : Below w.heap.size w w13)); clear hg hw hp_))
   go_roundg k1
   case measure => have := HK1.out; omega
   case rel => exact ⟨(y195), (wrap64 (x4_1 + 1)), SD, H', ⟨by have := HK1.out; omega⟩, ⟨RQ HO_3.out⟩, ⟨BL⟩⟩

/-! ### impl_parted: function 50 -/
def impl_parted.l0 : Nat → Int → List (S71) → List (S71) → List (S71) → List (S71) → Int → Int → Option ((List (S71)) × (List (S71)) × (List (S71)))
 | 0, _, _, _, _, _, _, _ => none
 | k + 1, x1, x7, x8, x9, x15, x16, x17 => if x17 < x16 then (if 0 ≤ x17 then (if x17 < (x15.length : Int) then (if ((rd_T71 x15 x17).f0) < x1 then (if x7.length < 8796093022208 then (impl_parted.l0 k x1 (x7 ++ [(⟨(rd_T71 x15 x17).f0, (rd_T71 x15 x17).f1⟩ : S71)]) x8 x9 x15 x16 (wrap64 (x17 + 1))) else (none)) else (if ((rd_T71 x15 x17).f0) > x1 then (if x9.length < 8796093022208 then (impl_parted.l0 k x1 x7 x8 (x9 ++ [(⟨(rd_T71 x15 x17).f0, (rd_T71 x15 x17).f1⟩ : S71)]) x15 x16 (wrap64 (x17 + 1))) else (none)) else (if x8.length < 8796093022208 then (impl_parted.l0 k x1 x7 (x8 ++ [(⟨(rd_T71 x15 x17).f0, (rd_T71 x15 x17).f1⟩ : S71)]) x9 x15 x16 (wrap64 (x17 + 1))) else (none)))) else (none)) else (none)) else (some (x7, x8, x9))
def impl_parted.f (k : Nat) (l0 : List (S71)) (a1 : Int) : Option ((List (S71)) × (List (S71)) × (List (S71))) := impl_parted.l0 k a1 (([] : List (S71))) (([] : List (S71))) (([] : List (S71))) l0 (l0.length : Int) 0
theorem impl_parted.mono_l : ∀ k, (∀ y0 y1 y2 y3 y4 y5 y6, LeO (impl_parted.l0 k y0 y1 y2 y3 y4 y5 y6) (impl_parted.l0 (k + 1) y0 y1 y2 y3 y4 y5 y6))
 | 0 => fun _ _ _ _ _ _ _ r h => by simp [impl_parted.l0] at h
 | k + 1 => by
  have ih0 := impl_parted.mono_l k
  ·
   intro y0 y1 y2 y3 y4 y5 y6
   unfold impl_parted.l0
   repeat' first
   | (with_reducible exact ih0 _ _ _ _ _ _ _)
   | (with_reducible exact LeO.refl _)
   | (with_reducible exact LeO.none _)
   | (with_reducible refine LeO.ite ?_ ?_)
   | (with_reducible refine LeO.bind ?_ (fun _ => ?_))
   | exact ih0 _ _ _ _ _ _ _
   | exact LeO.none _
   | refine LeO.ite ?_ ?_
   | refine LeO.bind ?_ (fun _ => ?_)
theorem impl_parted.mono : ∀ a0 a1 k, LeO (impl_parted.f k a0 a1) (impl_parted.f (k + 1) a0 a1) := by
 intro a0 a1 k
 have ih0 := impl_parted.mono_l k
 unfold impl_parted.f
 repeat' first
   | (with_reducible exact ih0 _ _ _ _ _ _ _)
   | (with_reducible exact LeO.refl _)
   | (with_reducible exact LeO.none _)
   | (with_reducible refine LeO.ite ?_ ?_)
   | (with_reducible refine LeO.bind ?_ (fun _ => ?_))
   | exact ih0 _ _ _ _ _ _ _
   | exact LeO.none _
   | refine LeO.ite ?_ ?_
   | refine LeO.bind ?_ (fun _ => ?_)
set_option maxHeartbeats 8000000 in
set_option maxRecDepth 100000 in
theorem impl_parted.calls (k : Nat) (A0 : Option Addr) (c0 : Nat) (l0 : List (S71)) (a1 : Int) (r1 : List (S71)) (r2 : List (S71)) (r3 : List (S71)) (w : World) (hr0 : Kd.C k71 w A0 l0.length l0) (hc0 : l0.length ≤ c0) (h : impl_parted.f k l0 a1 = some (r1, r2, r3)) :
  Calls Try.prog 50 #[.slice A0 l0.length c0, .int .i64 a1] w fun e w' => ∃ v0_ v1_ v2_ : Value, e = .returned (.tuple #[v0_, v1_, v2_]) ∧ Kd.R k71 71 w' w.heap.size (fun k_ => some k_ ≠ (v1_ : Value).ownBlock ∧ some k_ ≠ (v2_ : Value).ownBlock) v0_ r1 ∧ Kd.R k71 71 w' w.heap.size (fun k_ => some k_ ≠ (v0_ : Value).ownBlock ∧ some k_ ≠ (v2_ : Value).ownBlock) v1_ r2 ∧ Kd.R k71 71 w' w.heap.size (fun k_ => some k_ ≠ (v0_ : Value).ownBlock ∧ some k_ ≠ (v1_ : Value).ownBlock) v2_ r3 ∧ Below w.heap.size w w' := by
 have hu71 := Try.underlying71
 have HR0 := Aside0.mk hr0
 have HC0 := Aside0.mk hc0
 clear hr0 hc0
 have HB := Aside0.mk (Below.refl w.heap.size w)
 have H : (impl_parted.l0 k a1 (([] : List (S71))) (([] : List (S71))) (([] : List (S71))) l0 (l0.length : Int) 0) = some (r1, r2, r3) := h
 clear h
 obtain ⟨y196, hy196⟩ : ∃ y_ : List (S71), y_ = (([] : List (S71))) := ⟨_, rfl⟩
 replace H : (impl_parted.l0 k a1 y196 (([] : List (S71))) (([] : List (S71))) l0 (l0.length : Int) 0) = some (r1, r2, r3) := by first | (rw [hy196]; with_reducible exact H) | (have H2_ := (Option.bind_some _ _).symm.trans H; rw [hy196]; with_reducible exact H2_) | (have H2_ := (Option.bind_some _ _).symm.trans H; with_reducible exact H2_) | with_reducible exact H | (rw [hy196]; exact H) | exact H
 have Ny196 := Aside0.mk hy196
 clear hy196
 obtain ⟨y199, hy199⟩ : ∃ y_ : List (S71), y_ = (([] : List (S71))) := ⟨_, rfl⟩
 replace H : (impl_parted.l0 k a1 y196 y199 (([] : List (S71))) l0 (l0.length : Int) 0) = some (r1, r2, r3) := by first | (rw [hy199]; with_reducible exact H) | (have H2_ := (Option.bind_some _ _).symm.trans H; rw [hy199]; with_reducible exact H2_) | (have H2_ := (Option.bind_some _ _).symm.trans H; with_reducible exact H2_) | with_reducible exact H | (rw [hy199]; exact H) | exact H
 have Ny199 := Aside0.mk hy199
 clear hy199
 obtain ⟨y202, hy202⟩ : ∃ y_ : List (S71), y_ = (([] : List (S71))) := ⟨_, rfl⟩
 replace H : (impl_parted.l0 k a1 y196 y199 y202 l0 (l0.length : Int) 0) = some (r1, r2, r3) := by first | (rw [hy202]; with_reducible exact H) | (have H2_ := (Option.bind_some _ _).symm.trans H; rw [hy202]; with_reducible exact H2_) | (have H2_ := (Option.bind_some _ _).symm.trans H; with_reducible exact H2_) | with_reducible exact H | (rw [hy202]; exact H) | exact H
 have Ny202 := Aside0.mk hy202
 clear hy202
 have H' := Aside0.mk H
 clear H
 go_enter Try.func50, Try.ntmps50
 go_wp2_with (first | ((with_reducible refine gate_dst (N := 12) rfl ?_); refine Kd.R_lit k71 _ 71 ?hg (N := 12) ?hd (xs := ([] : List (S71))) (inner := []) (ok := fun _ => True) (okp := fun _ => True) ?hr ?hp (fun _ hk => hk) trivial (Below.refl _ _) (Nat.le_refl _) (by simp) ?_; (case hd => rfl); (case hg => rfl); (case hr => first | (go_simp; done) | (go_simp; rfl)); (case hp => exact (Reps.none _ _)); intro v197 w3 ho4 hb hg_ hnew_; clear hg_ hnew_; (first | rw [← Ny196.out] at ho4 | (simp only [Int.reduceToNat] at ho4; rw [← Ny196.out] at ho4)); have HO198 := Aside0.mk (Kd.R_lower ho4 (below_size (BL))); replace HB := Aside0.mk (below_step (BL) hb); clear hb ho4) | ((with_reducible refine gate_dst (N := 13) rfl ?_); refine Kd.R_lit k71 _ 71 ?hg (N := 13) ?hd (xs := ([] : List (S71))) (inner := []) (ok := fun _ => True) (okp := fun _ => True) ?hr ?hp (fun _ hk => hk) trivial (Below.refl _ _) (Nat.le_refl _) (by simp) ?_; (case hd => rfl); (case hg => rfl); (case hr => first | (go_simp; done) | (go_simp; rfl)); (case hp => exact (Reps.none _ _)); intro v200 w5 ho6 hb hg_ hnew_; clear hg_ hnew_; (first | rw [← Ny199.out] at ho6 | (simp only [Int.reduceToNat] at ho6; rw [← Ny199.out] at ho6)); have HO201 := Aside0.mk (Kd.R_lower (Kd.R_new' ho6 (Kd.R_lt (RQ HO198.out))) (below_size (BL))); replace HO198 := Aside0.mk (Kd.R_elder' (RQ HO198.out) (Kd.R_base ho6) hb); replace HB := Aside0.mk (below_step (BL) hb); clear hb ho6) | ((with_reducible refine gate_dst (N := 14) rfl ?_); refine Kd.R_lit k71 _ 71 ?hg (N := 14) ?hd (xs := ([] : List (S71))) (inner := []) (ok := fun _ => True) (okp := fun _ => True) ?hr ?hp (fun _ hk => hk) trivial (Below.refl _ _) (Nat.le_refl _) (by simp) ?_; (case hd => rfl); (case hg => rfl); (case hr => first | (go_simp; done) | (go_simp; rfl)); (case hp => exact (Reps.none _ _)); intro v203 w7 ho8 hb hg_ hnew_; clear hg_ hnew_; (first | rw [← Ny202.out] at ho8 | (simp only [Int.reduceToNat] at ho8; rw [← Ny202.out] at ho8)); have HO204 := Aside0.mk (Kd.R_lower (Kd.R_new' (Kd.R_new' ho8 (Kd.R_lt (RQ HO198.out))) (Kd.R_lt (RQ HO201.out))) (below_size (BL))); replace HO198 := Aside0.mk (Kd.R_elder' (RQ HO198.out) (Kd.R_base ho8) hb); replace HO201 := Aside0.mk (Kd.R_elder' (RQ HO201.out) (Kd.R_base ho8) hb); replace HB := Aside0.mk (below_step (BL) hb); clear hb ho8))
 go_loopg [7, 8, 9, 17] k (fun kq v7 v8 v9 v17 w' => ∃ (x7_1 : List (S71)) (x8_1 : List (S71)) (x9_1 : List (S71)) (x17_1 : Int), v17 = .int .i64 x17_1 ∧ Aside0 (impl_parted.l0 kq a1 x7_1 x8_1 x9_1 l0 (l0.length : Int) x17_1 = some (r1, r2, r3)) ∧ Aside0 (kq ≤ k) ∧ Aside0 (Kd.R k71 71 w' w.heap.size (fun k_ => some k_ ≠ (v8 : Value).ownBlock ∧ some k_ ≠ (v9 : Value).ownBlock) v7 x7_1) ∧ Aside0 (Kd.R k71 71 w' w.heap.size (fun k_ => some k_ ≠ (v7 : Value).ownBlock ∧ some k_ ≠ (v9 : Value).ownBlock) v8 x8_1) ∧ Aside0 (Kd.R k71 71 w' w.heap.size (fun k_ => some k_ ≠ (v7 : Value).ownBlock ∧ some k_ ≠ (v8 : Value).ownBlock) v9 x9_1) ∧ Aside0 (Below w.heap.size w w'))
 case atStart => exact ⟨(y196), (y199), (y202), (0), SD, H', ⟨Nat.le_refl _⟩, ⟨by (with_reducible repeat (first | apply r1 | apply r2 | apply r3)); exact Kd.R_mono HO198.out (fun _ hk => ⟨hk.1.2, hk.2⟩)⟩, ⟨by (with_reducible repeat (first | apply r1 | apply r2 | apply r3)); exact Kd.R_mono HO201.out (fun _ hk => ⟨hk.1.2, hk.2⟩)⟩, ⟨by (with_reducible repeat (first | apply r1 | apply r2 | apply r3)); exact Kd.R_mono HO204.out (fun _ hk => ⟨hk.1.2, hk.2⟩)⟩, ⟨BL⟩⟩
 case round =>
  clear H'
  try clear p2 c5
  obtain ⟨x7_1, x8_1, x9_1, x17_1, rfl, HA, HK1, HO_7, HO_8, HO_9, HB⟩ := hrel; cases gk with
  | zero => exact absurd HA.out (by simp [impl_parted.l0])
  | succ k1 =>
   have H := HA.out; clear HA; simp only [impl_parted.l0] at H
   by_cases c9 : x17_1 < (l0.length : Int); rotate_left
   ·
    rw [if_neg c9] at H; have c9b0 : decide (x17_1 < (l0.length : Int)) = false := decide_eq_false c9; clear c9; simp only [Option.some.injEq, Prod.mk.injEq] at H; obtain ⟨rfl, rfl, rfl⟩ := H
    go_wp2
    go_ret3
    exact ⟨_, _, _, EE, RQ HO_7.out, RQ HO_8.out, RQ HO_9.out, BL⟩
   rw [if_pos c9] at H; have c9b0 : decide (x17_1 < (l0.length : Int)) = true := decide_eq_true c9; clear c9
   by_cases c10 : 0 ≤ x17_1; rotate_left
   ·
    rw [if_neg c10] at H; exact absurd H (by simp)
   rw [if_pos c10] at H; have c10b0 : decide (0 ≤ x17_1) = true := decide_eq_true c10; clear c10
   by_cases c11 : x17_1 < (l0.length : Int); rotate_left
   ·
    rw [if_neg c11] at H; exact absurd H (by simp)
   rw [if_pos c11] at H; have c11b0 : decide (x17_1 < (l0.length : Int)) = true := decide_eq_true c11; clear c11
   by_cases c12 : ((rd_T71 l0 x17_1).f0) < a1
   ·
    rw [if_pos c12] at H; have c12b0 : decide (((rd_T71 l0 x17_1).f0) < a1) = true := decide_eq_true c12; clear c12
    by_cases c13 : x7_1.length < 8796093022208; rotate_left
    ·
     rw [if_neg c13] at H; exact absurd H (by simp)
    rw [if_pos c13] at H; have LMc13 := Aside0.mk c13; clear c13; obtain ⟨y207, hy207⟩ : ∃ y_ : List (S71), y_ = (x7_1 ++ [(⟨(rd_T71 l0 x17_1).f0, (rd_T71 l0 x17_1).f1⟩ : S71)]) := ⟨_, rfl⟩
    replace H : (impl_parted.l0 k1 a1 y207 x8_1 x9_1 l0 (l0.length : Int) (wrap64 (x17_1 + 1))) = some (r1, r2, r3) := by first | (rw [hy207]; with_reducible exact H) | (have H2_ := (Option.bind_some _ _).symm.trans H; rw [hy207]; with_reducible exact H2_) | (have H2_ := (Option.bind_some _ _).symm.trans H; with_reducible exact H2_) | with_reducible exact H | (rw [hy207]; exact H) | exact H
    have Ny207 := Aside0.mk hy207; clear hy207; have H' := Aside0.mk H; clear H; have p205 : 0 ≤ (x17_1 : Int) := of_decide_eq_true AS; have q205 : x17_1 < (l0.length : Int) := of_decide_eq_true AS; obtain ⟨ad205, e205, hx205_0, hx205_1⟩ := at_T71 HR0.out x17_1 p205 q205; cases e205; replace hx205_0 := (HB.out.cell (World.block_lt_of_cell? w _ hx205_0)).trans hx205_0; replace hx205_1 := (HB.out.cell (World.block_lt_of_cell? w _ hx205_1)).trans hx205_1; replace p205 := eq_true p205; replace q205 := eq_true q205
    go_wp2_with (first | ((with_reducible refine gate_dst (N := 11) rfl ?_); refine bE 11 #[.int .i64 0, .int .i64 0] 71 ?_; intro gb206 hg w14 hbox hb; have BK206 := Aside0.mk (hbox); have GW206 : Aside0 (w.heap.size ≤ gb206) := GS; have GE206 := GW206; replace HO_7 := Aside0.mk (Kd.R_below (Kd.R_elderB (RQ HO_7.out) gb206 (Nat.le_of_eq hg.symm)) hb); replace HO_8 := Aside0.mk (Kd.R_below (Kd.R_elderB (RQ HO_8.out) gb206 (Nat.le_of_eq hg.symm)) hb); replace HO_9 := Aside0.mk (Kd.R_below (Kd.R_elderB (RQ HO_9.out) gb206 (Nat.le_of_eq hg.symm)) hb); replace HB := Aside0.mk (below_step (BL) hb); clear hb hbox hg; obtain ⟨hcz15_0, hcz15_1, hfz15_0, hfz15_1⟩ := KC2 BK206.out) | ((with_reducible refine gate_builtin (b := .append) (xs := #[.tmp 30, .tmp 32]) rfl ?_); at_builtin; refine Kd.R_append k71 (w0 := w) w.heap.size rfl (.tmp 30) (.tmp 32) 26 71 (.agg #[(.int .i64 0), (.int .i64 0)]) 16 rfl Try.underlying26 info71 rfl (by decide) (by omega) u7 x7_1 (⟨(rd_T71 l0 x17_1).f0, (rd_T71 l0 x17_1).f1⟩ : S71) [.int .i64 ((rd_T71 l0 x17_1).f0), .int .i64 ((rd_T71 l0 x17_1).f1)] (fun k_ => some k_ ≠ (u8 : Value).ownBlock ∧ some k_ ≠ (u9 : Value).ownBlock ∧ k_ ≠ gb206) (fun _ => False) rfl (by first | (go_simp; done) | (go_simp; rfl)) ?aP (fun _ hk => hk.elim) ?aF ?aO ?aB ?aS ?aL ?_; (case aP => exact k71_mkM _ _ _ (⟨(rd_T71 l0 x17_1).f0, (rd_T71 l0 x17_1).f1⟩ : S71)); (case aB => exact (BL)); (case aF => exact (fun k_ hk => ⟨Kd.fresh' (Kd.R_lt (by (with_reducible repeat (first | apply r1 | apply r2 | apply r3)); exact (Kd.R_mono (Kd.R_far (p := ⟨gb206, 1, none⟩) (Kd.R_far (p := ⟨gb206, 0, none⟩) (Kd.R_mono HO_8.out (fun k_ hk => (⟨hk, hk.2⟩ : _ ∧ k_ ≠ gb206))) (fun _ hk => hk.2) (.int .i64 ((rd_T71 l0 x17_1).f0))) (fun _ hk => hk.2) (.int .i64 ((rd_T71 l0 x17_1).f1))) (fun _ h_ => h_.1)))) k_ hk, Kd.fresh' (Kd.R_lt (by (with_reducible repeat (first | apply r1 | apply r2 | apply r3)); exact (Kd.R_mono (Kd.R_far (p := ⟨gb206, 1, none⟩) (Kd.R_far (p := ⟨gb206, 0, none⟩) (Kd.R_mono HO_9.out (fun k_ hk => (⟨hk, hk.2⟩ : _ ∧ k_ ≠ gb206))) (fun _ hk => hk.2) (.int .i64 ((rd_T71 l0 x17_1).f0))) (fun _ hk => hk.2) (.int .i64 ((rd_T71 l0 x17_1).f1))) (fun _ h_ => h_.1)))) k_ hk, Kd.freshB (g := gb206) (o := .cells #[.int .i64 ((rd_T71 l0 x17_1).f0), .int .i64 ((rd_T71 l0 x17_1).f1)] 71 (0, 0)) (BU BK206.out) k_ hk⟩)); (case aO => exact (by (with_reducible repeat (first | apply r1 | apply r2 | apply r3)); exact Kd.R_mono (Kd.R_far (p := ⟨gb206, 1, none⟩) (Kd.R_far (p := ⟨gb206, 0, none⟩) (Kd.R_mono HO_7.out (fun k_ hk => (⟨hk, hk.2⟩ : _ ∧ k_ ≠ gb206))) (fun _ hk => hk.2) (.int .i64 ((rd_T71 l0 x17_1).f0))) (fun _ hk => hk.2) (.int .i64 ((rd_T71 l0 x17_1).f1))) (fun _ hk => ⟨hk.1.1.1, ⟨hk.1.1.2, hk.1.2⟩⟩))); (case aS => exact (below_size (BL))); (case aL => have := LMc13.out; omega); intro v208 w16 ho hb hg hat; rw [← Ny207.out] at ho; have n0_ := Aside0.mk (Kd.R_after (ok := (fun k_ => some k_ ≠ (u9 : Value).ownBlock ∧ k_ ≠ gb206)) (by (with_reducible repeat (first | apply r1 | apply r2 | apply r3)); exact Kd.R_mono (Kd.R_far (p := ⟨gb206, 1, none⟩) (Kd.R_far (p := ⟨gb206, 0, none⟩) (Kd.R_mono HO_8.out (fun k_ hk => (⟨hk, hk.2⟩ : _ ∧ k_ ≠ gb206))) (fun _ hk => hk.2) (.int .i64 ((rd_T71 l0 x17_1).f0))) (fun _ hk => hk.2) (.int .i64 ((rd_T71 l0 x17_1).f1))) (fun _ hk => ⟨⟨hk.1.1.2, hk.1.2⟩, hk.1.1.1⟩)) hg hat); have n1_ := Aside0.mk (Kd.R_after (ok := (fun k_ => some k_ ≠ (u8 : Value).ownBlock ∧ k_ ≠ gb206)) (by (with_reducible repeat (first | apply r1 | apply r2 | apply r3)); exact Kd.R_mono (Kd.R_far (p := ⟨gb206, 1, none⟩) (Kd.R_far (p := ⟨gb206, 0, none⟩) (Kd.R_mono HO_9.out (fun k_ hk => (⟨hk, hk.2⟩ : _ ∧ k_ ≠ gb206))) (fun _ hk => hk.2) (.int .i64 ((rd_T71 l0 x17_1).f0))) (fun _ hk => hk.2) (.int .i64 ((rd_T71 l0 x17_1).f1))) (fun _ hk => ⟨⟨hk.1.1.2, hk.1.2⟩, hk.1.1.1⟩)) hg hat); have n2_ := Aside0.mk (blk_grown (g := gb206) (o := .cells #[.int .i64 ((rd_T71 l0 x17_1).f0), .int .i64 ((rd_T71 l0 x17_1).f1)] 71 (0, 0)) (BU BK206.out) hg (Kd.R_away HO_7.out (fun _ hk => hk.2))); have n3_ := Aside0.mk (hb); have n4_ := Aside0.mk (ho); clear HO_8; clear HO_9; clear BK206; clear HB; clear HO_7; have HO_8 := n0_; have HO_9 := n1_; have BK206 := n2_; have HB := n3_; have HO209 := n4_; clear n0_ n1_ n2_ n3_ n4_; clear ho hb hg hat))
    go_roundg k1
    case measure => have := HK1.out; omega
    case rel => exact ⟨(y207), (x8_1), (x9_1), (wrap64 (x17_1 + 1)), SD, H', ⟨by have := HK1.out; omega⟩, ⟨by (with_reducible repeat (first | apply r1 | apply r2 | apply r3)); exact Kd.R_mono HO209.out (fun _ hk => ⟨hk.1, hk.2.1⟩)⟩, ⟨by (with_reducible repeat (first | apply r1 | apply r2 | apply r3)); exact Kd.R_mono HO_8.out (fun _ hk => ⟨hk.2, hk.1.1⟩)⟩, ⟨by (with_reducible repeat (first | apply r1 | apply r2 | apply r3)); exact Kd.R_mono HO_9.out (fun _ hk => ⟨hk.2, hk.1.1⟩)⟩, ⟨BL⟩⟩
   rw [if_neg c12] at H; have c12b0 : decide (((rd_T71 l0 x17_1).f0) < a1) = false := decide_eq_false c12; clear c12
   by_cases c17 : ((rd_T71 l0 x17_1).f0) > a1
   ·
    rw [if_pos c17] at H; have c17b0 : decide (a1 < ((rd_T71 l0 x17_1).f0)) = true := decide_eq_true c17; clear c17
    by_cases c18 : x9_1.length < 8796093022208; rotate_left
    ·
     rw [if_neg c18] at H; exact absurd H (by simp)
    rw [if_pos c18] at H; have LMc18 := Aside0.mk c18; clear c18; obtain ⟨y210, hy210⟩ : ∃ y_ : List (S71), y_ = (x9_1 ++ [(⟨(rd_T71 l0 x17_1).f0, (rd_T71 l0 x17_1).f1⟩ : S71)]) := ⟨_, rfl⟩
    replace H : (impl_parted.l0 k1 a1 x7_1 x8_1 y210 l0 (l0.length : Int) (wrap64 (x17_1 + 1))) = some (r1, r2, r3) := by first | (rw [hy210]; with_reducible exact H) | (have H2_ := (Option.bind_some _ _).symm.trans H; rw [hy210]; with_reducible exact H2_) | (have H2_ := (Option.bind_some _ _).symm.trans H; with_reducible exact H2_) | with_reducible exact H | (rw [hy210]; exact H) | exact H
    have Ny210 := Aside0.mk hy210; clear hy210; have H' := Aside0.mk H; clear H; have p205 : 0 ≤ (x17_1 : Int) := of_decide_eq_true AS; have q205 : x17_1 < (l0.length : Int) := of_decide_eq_true AS; obtain ⟨ad205, e205, hx205_0, hx205_1⟩ := at_T71 HR0.out x17_1 p205 q205; cases e205; replace hx205_0 := (HB.out.cell (World.block_lt_of_cell? w _ hx205_0)).trans hx205_0; replace hx205_1 := (HB.out.cell (World.block_lt_of_cell? w _ hx205_1)).trans hx205_1; replace p205 := eq_true p205; replace q205 := eq_true q205
    go_wp2_with (first | ((with_reducible refine gate_dst (N := 11) rfl ?_); refine bE 11 #[.int .i64 0, .int .i64 0] 71 ?_; intro gb206 hg w19 hbox hb; have BK206 := Aside0.mk (hbox); have GW206 : Aside0 (w.heap.size ≤ gb206) := GS; have GE206 := GW206; replace HO_7 := Aside0.mk (Kd.R_below (Kd.R_elderB (RQ HO_7.out) gb206 (Nat.le_of_eq hg.symm)) hb); replace HO_8 := Aside0.mk (Kd.R_below (Kd.R_elderB (RQ HO_8.out) gb206 (Nat.le_of_eq hg.symm)) hb); replace HO_9 := Aside0.mk (Kd.R_below (Kd.R_elderB (RQ HO_9.out) gb206 (Nat.le_of_eq hg.symm)) hb); replace HB := Aside0.mk (below_step (BL) hb); clear hb hbox hg; obtain ⟨hcz20_0, hcz20_1, hfz20_0, hfz20_1⟩ := KC2 BK206.out) | ((with_reducible refine gate_builtin (b := .append) (xs := #[.tmp 39, .tmp 41]) rfl ?_); at_builtin; refine Kd.R_append k71 (w0 := w) w.heap.size rfl (.tmp 39) (.tmp 41) 26 71 (.agg #[(.int .i64 0), (.int .i64 0)]) 16 rfl Try.underlying26 info71 rfl (by decide) (by omega) u9 x9_1 (⟨(rd_T71 l0 x17_1).f0, (rd_T71 l0 x17_1).f1⟩ : S71) [.int .i64 ((rd_T71 l0 x17_1).f0), .int .i64 ((rd_T71 l0 x17_1).f1)] (fun k_ => some k_ ≠ (u7 : Value).ownBlock ∧ some k_ ≠ (u8 : Value).ownBlock ∧ k_ ≠ gb206) (fun _ => False) rfl (by first | (go_simp; done) | (go_simp; rfl)) ?aP (fun _ hk => hk.elim) ?aF ?aO ?aB ?aS ?aL ?_; (case aP => exact k71_mkM _ _ _ (⟨(rd_T71 l0 x17_1).f0, (rd_T71 l0 x17_1).f1⟩ : S71)); (case aB => exact (BL)); (case aF => exact (fun k_ hk => ⟨Kd.fresh' (Kd.R_lt (by (with_reducible repeat (first | apply r1 | apply r2 | apply r3)); exact (Kd.R_mono (Kd.R_far (p := ⟨gb206, 1, none⟩) (Kd.R_far (p := ⟨gb206, 0, none⟩) (Kd.R_mono HO_7.out (fun k_ hk => (⟨hk, hk.2⟩ : _ ∧ k_ ≠ gb206))) (fun _ hk => hk.2) (.int .i64 ((rd_T71 l0 x17_1).f0))) (fun _ hk => hk.2) (.int .i64 ((rd_T71 l0 x17_1).f1))) (fun _ h_ => h_.1)))) k_ hk, Kd.fresh' (Kd.R_lt (by (with_reducible repeat (first | apply r1 | apply r2 | apply r3)); exact (Kd.R_mono (Kd.R_far (p := ⟨gb206, 1, none⟩) (Kd.R_far (p := ⟨gb206, 0, none⟩) (Kd.R_mono HO_8.out (fun k_ hk => (⟨hk, hk.2⟩ : _ ∧ k_ ≠ gb206))) (fun _ hk => hk.2) (.int .i64 ((rd_T71 l0 x17_1).f0))) (fun _ hk => hk.2) (.int .i64 ((rd_T71 l0 x17_1).f1))) (fun _ h_ => h_.1)))) k_ hk, Kd.freshB (g := gb206) (o := .cells #[.int .i64 ((rd_T71 l0 x17_1).f0), .int .i64 ((rd_T71 l0 x17_1).f1)] 71 (0, 0)) (BU BK206.out) k_ hk⟩)); (case aO => exact (by (with_reducible repeat (first | apply r1 | apply r2 | apply r3)); exact Kd.R_mono (Kd.R_far (p := ⟨gb206, 1, none⟩) (Kd.R_far (p := ⟨gb206, 0, none⟩) (Kd.R_mono HO_9.out (fun k_ hk => (⟨hk, hk.2⟩ : _ ∧ k_ ≠ gb206))) (fun _ hk => hk.2) (.int .i64 ((rd_T71 l0 x17_1).f0))) (fun _ hk => hk.2) (.int .i64 ((rd_T71 l0 x17_1).f1))) (fun _ hk => ⟨hk.1.1.1, ⟨hk.1.1.2, hk.1.2⟩⟩))); (case aS => exact (below_size (BL))); (case aL => have := LMc18.out; omega); intro v211 w21 ho hb hg hat; rw [← Ny210.out] at ho; have n0_ := Aside0.mk (Kd.R_after (ok := (fun k_ => some k_ ≠ (u8 : Value).ownBlock ∧ k_ ≠ gb206)) (by (with_reducible repeat (first | apply r1 | apply r2 | apply r3)); exact Kd.R_mono (Kd.R_far (p := ⟨gb206, 1, none⟩) (Kd.R_far (p := ⟨gb206, 0, none⟩) (Kd.R_mono HO_7.out (fun k_ hk => (⟨hk, hk.2⟩ : _ ∧ k_ ≠ gb206))) (fun _ hk => hk.2) (.int .i64 ((rd_T71 l0 x17_1).f0))) (fun _ hk => hk.2) (.int .i64 ((rd_T71 l0 x17_1).f1))) (fun _ hk => ⟨⟨hk.1.1.1, hk.1.2⟩, hk.1.1.2⟩)) hg hat); have n1_ := Aside0.mk (Kd.R_after (ok := (fun k_ => some k_ ≠ (u7 : Value).ownBlock ∧ k_ ≠ gb206)) (by (with_reducible repeat (first | apply r1 | apply r2 | apply r3)); exact Kd.R_mono (Kd.R_far (p := ⟨gb206, 1, none⟩) (Kd.R_far (p := ⟨gb206, 0, none⟩) (Kd.R_mono HO_8.out (fun k_ hk => (⟨hk, hk.2⟩ : _ ∧ k_ ≠ gb206))) (fun _ hk => hk.2) (.int .i64 ((rd_T71 l0 x17_1).f0))) (fun _ hk => hk.2) (.int .i64 ((rd_T71 l0 x17_1).f1))) (fun _ hk => ⟨⟨hk.1.1.1, hk.1.2⟩, hk.1.1.2⟩)) hg hat); have n2_ := Aside0.mk (blk_grown (g := gb206) (o := .cells #[.int .i64 ((rd_T71 l0 x17_1).f0), .int .i64 ((rd_T71 l0 x17_1).f1)] 71 (0, 0)) (BU BK206.out) hg (Kd.R_away HO_9.out (fun _ hk => hk.2))); have n3_ := Aside0.mk (hb); have n4_ := Aside0.mk (ho); clear HO_7; clear HO_8; clear BK206; clear HB; clear HO_9; have HO_7 := n0_; have HO_8 := n1_; have BK206 := n2_; have HB := n3_; have HO212 := n4_; clear n0_ n1_ n2_ n3_ n4_; clear ho hb hg hat))
    go_roundg k1
    case measure => have := HK1.out; omega
    case rel => exact ⟨(x7_1), (x8_1), (y210), (wrap64 (x17_1 + 1)), SD, H', ⟨by have := HK1.out; omega⟩, ⟨by (with_reducible repeat (first | apply r1 | apply r2 | apply r3)); exact Kd.R_mono HO_7.out (fun _ hk => ⟨hk.1.1, hk.2⟩)⟩, ⟨by (with_reducible repeat (first | apply r1 | apply r2 | apply r3)); exact Kd.R_mono HO_8.out (fun _ hk => ⟨hk.1.1, hk.2⟩)⟩, ⟨by (with_reducible repeat (first | apply r1 | apply r2 | apply r3)); exact Kd.R_mono HO212.out (fun _ hk => ⟨hk.1, hk.2.1⟩)⟩, ⟨BL⟩⟩
   rw [if_neg c17] at H; have c17b0 : decide (a1 < ((rd_T71 l0 x17_1).f0)) = false := decide_eq_false c17; clear c17
   by_cases c22 : x8_1.length < 8796093022208; rotate_left
   ·
    rw [if_neg c22] at H; exact absurd H (by simp)
   rw [if_pos c22] at H; have LMc22 := Aside0.mk c22; clear c22; obtain ⟨y213, hy213⟩ : ∃ y_ : List (S71), y_ = (x8_1 ++ [(⟨(rd_T71 l0 x17_1).f0, (rd_T71 l0 x17_1).f1⟩ : S71)]) := ⟨_, rfl⟩
   replace H : (impl_parted.l0 k1 a1 x7_1 y213 x9_1 l0 (l0.length : Int) (wrap64 (x17_1 + 1))) = some (r1, r2, r3) := by first | (rw [hy213]; with_reducible exact H) | (have H2_ := (Option.bind_some _ _).symm.trans H; rw [hy213]; with_reducible exact H2_) | (have H2_ := (Option.bind_some _ _).symm.trans H; with_reducible exact H2_) | with_reducible exact H | (rw [hy213]; exact H) | exact H
   have Ny213 := Aside0.mk hy213; clear hy213; have H' := Aside0.mk H; clear H; have p205 : 0 ≤ (x17_1 : Int) := of_decide_eq_true AS; have q205 : x17_1 < (l0.length : Int) := of_decide_eq_true AS; obtain ⟨ad205, e205, hx205_0, hx205_1⟩ := at_T71 HR0.out x17_1 p205 q205; cases e205; replace hx205_0 := (HB.out.cell (World.block_lt_of_cell? w _ hx205_0)).trans hx205_0; replace hx205_1 := (HB.out.cell (World.block_lt_of_cell? w _ hx205_1)).trans hx205_1; replace p205 := eq_true p205; replace q205 := eq_true q205
   go_wp2_with (first | ((with_reducible refine gate_dst (N := 11) rfl ?_); refine bE 11 #[.int .i64 0, .int .i64 0] 71 ?_; intro gb206 hg w23 hbox hb; have BK206 := Aside0.mk (hbox); have GW206 : Aside0 (w.heap.size ≤ gb206) := GS; have GE206 := GW206; replace HO_7 := Aside0.mk (Kd.R_below (Kd.R_elderB (RQ HO_7.out) gb206 (Nat.le_of_eq hg.symm)) hb); replace HO_8 := Aside0.mk (Kd.R_below (Kd.R_elderB (RQ HO_8.out) gb206 (Nat.le_of_eq hg.symm)) hb); replace HO_9 := Aside0.mk (Kd.R_below (Kd.R_elderB (RQ HO_9.out) gb206 (Nat.le_of_eq hg.symm)) hb); replace HB := Aside0.mk (below_step (BL) hb); clear hb hbox hg; obtain ⟨hcz24_0, hcz24_1, hfz24_0, hfz24_1⟩ := KC2 BK206.out) | ((with_reducible refine gate_builtin (b := .append) (xs := #[.tmp 21, .tmp 23]) rfl ?_); at_builtin; refine Kd.R_append k71 (w0 := w) w.heap.size rfl (.tmp 21) (.tmp 23) 26 71 (.agg #[(.int .i64 0), (.int .i64 0)]) 16 rfl Try.underlying26 info71 rfl (by decide) (by omega) u8 x8_1 (⟨(rd_T71 l0 x17_1).f0, (rd_T71 l0 x17_1).f1⟩ : S71) [.int .i64 ((rd_T71 l0 x17_1).f0), .int .i64 ((rd_T71 l0 x17_1).f1)] (fun k_ => some k_ ≠ (u7 : Value).ownBlock ∧ some k_ ≠ (u9 : Value).ownBlock ∧ k_ ≠ gb206) (fun _ => False) rfl (by first | (go_simp; done) | (go_simp; rfl)) ?aP (fun _ hk => hk.elim) ?aF ?aO ?aB ?aS ?aL ?_; (case aP => exact k71_mkM _ _ _ (⟨(rd_T71 l0 x17_1).f0, (rd_T71 l0 x17_1).f1⟩ : S71)); (case aB => exact (BL)); (case aF => exact (fun k_ hk => ⟨Kd.fresh' (Kd.R_lt (by (with_reducible repeat (first | apply r1 | apply r2 | apply r3)); exact (Kd.R_mono (Kd.R_far (p := ⟨gb206, 1, none⟩) (Kd.R_far (p := ⟨gb206, 0, none⟩) (Kd.R_mono HO_7.out (fun k_ hk => (⟨hk, hk.2⟩ : _ ∧ k_ ≠ gb206))) (fun _ hk => hk.2) (.int .i64 ((rd_T71 l0 x17_1).f0))) (fun _ hk => hk.2) (.int .i64 ((rd_T71 l0 x17_1).f1))) (fun _ h_ => h_.1)))) k_ hk, Kd.fresh' (Kd.R_lt (by (with_reducible repeat (first | apply r1 | apply r2 | apply r3)); exact (Kd.R_mono (Kd.R_far (p := ⟨gb206, 1, none⟩) (Kd.R_far (p := ⟨gb206, 0, none⟩) (Kd.R_mono HO_9.out (fun k_ hk => (⟨hk, hk.2⟩ : _ ∧ k_ ≠ gb206))) (fun _ hk => hk.2) (.int .i64 ((rd_T71 l0 x17_1).f0))) (fun _ hk => hk.2) (.int .i64 ((rd_T71 l0 x17_1).f1))) (fun _ h_ => h_.1)))) k_ hk, Kd.freshB (g := gb206) (o := .cells #[.int .i64 ((rd_T71 l0 x17_1).f0), .int .i64 ((rd_T71 l0 x17_1).f1)] 71 (0, 0)) (BU BK206.out) k_ hk⟩)); (case aO => exact (by (with_reducible repeat (first | apply r1 | apply r2 | apply r3)); exact Kd.R_mono (Kd.R_far (p := ⟨gb206, 1, none⟩) (Kd.R_far (p := ⟨gb206, 0, none⟩) (Kd.R_mono HO_8.out (fun k_ hk => (⟨hk, hk.2⟩ : _ ∧ k_ ≠ gb206))) (fun _ hk => hk.2) (.int .i64 ((rd_T71 l0 x17_1).f0))) (fun _ hk => hk.2) (.int .i64 ((rd_T71 l0 x17_1).f1))) (fun _ hk => ⟨hk.1.1.1, ⟨hk.1.1.2, hk.1.2⟩⟩))); (case aS => exact (below_size (BL))); (case aL => have := LMc22.out; omega); intro v214 w25 ho hb hg hat; rw [← Ny213.out] at ho; have n0_ := Aside0.mk (Kd.R_after (ok := (fun k_ => some k_ ≠ (u9 : Value).ownBlock ∧ k_ ≠ gb206)) (by (with_reducible repeat (first | apply r1 | apply r2 | apply r3)); exact Kd.R_mono (Kd.R_far (p := ⟨gb206, 1, none⟩) (Kd.R_far (p := ⟨gb206, 0, none⟩) (Kd.R_mono HO_7.out (fun k_ hk => (⟨hk, hk.2⟩ : _ ∧ k_ ≠ gb206))) (fun _ hk => hk.2) (.int .i64 ((rd_T71 l0 x17_1).f0))) (fun _ hk => hk.2) (.int .i64 ((rd_T71 l0 x17_1).f1))) (fun _ hk => ⟨⟨hk.1.1.2, hk.1.2⟩, hk.1.1.1⟩)) hg hat); have n1_ := Aside0.mk (Kd.R_after (ok := (fun k_ => some k_ ≠ (u7 : Value).ownBlock ∧ k_ ≠ gb206)) (by (with_reducible repeat (first | apply r1 | apply r2 | apply r3)); exact Kd.R_mono (Kd.R_far (p := ⟨gb206, 1, none⟩) (Kd.R_far (p := ⟨gb206, 0, none⟩) (Kd.R_mono HO_9.out (fun k_ hk => (⟨hk, hk.2⟩ : _ ∧ k_ ≠ gb206))) (fun _ hk => hk.2) (.int .i64 ((rd_T71 l0 x17_1).f0))) (fun _ hk => hk.2) (.int .i64 ((rd_T71 l0 x17_1).f1))) (fun _ hk => ⟨⟨hk.1.1.1, hk.1.2⟩, hk.1.1.2⟩)) hg hat); have n2_ := Aside0.mk (blk_grown (g := gb206) (o := .cells #[.int .i64 ((rd_T71 l0 x17_1).f0), .int .i64 ((rd_T71 l0 x17_1).f1)] 71 (0, 0)) (BU BK206.out) hg (Kd.R_away HO_8.out (fun _ hk => hk.2))); have n3_ := Aside0.mk (hb); have n4_ := Aside0.mk (ho); clear HO_7; clear HO_9; clear BK206; clear HB; clear HO_8; have HO_7 := n0_; have HO_9 := n1_; have BK206 := n2_; have HB := n3_; have HO215 := n4_; clear n0_ n1_ n2_ n3_ n4_; clear ho hb hg hat))
   go_roundg k1
   case measure => have := HK1.out; omega
   case rel => exact ⟨(x7_1), (y213), (x9_1), (wrap64 (x17_1 + 1)), SD, H', ⟨by have := HK1.out; omega⟩, ⟨by (with_reducible repeat (first | apply r1 | apply r2 | apply r3)); exact Kd.R_mono HO_7.out (fun _ hk => ⟨hk.2, hk.1.1⟩)⟩, ⟨by (with_reducible repeat (first | apply r1 | apply r2 | apply r3)); exact Kd.R_mono HO215.out (fun _ hk => ⟨hk.1, hk.2.1⟩)⟩, ⟨by (with_reducible repeat (first | apply r1 | apply r2 | apply r3)); exact Kd.R_mono HO_9.out (fun _ hk => ⟨hk.1.1, hk.2⟩)⟩, ⟨BL⟩⟩

-- NOT PRINTED: function 78 (impl_Pair_78)

-- NOT PRINTED: function 51 (impl_Pair_51)

-- NOT PRINTED: function 79 (impl_Pair_79)

-- NOT PRINTED: function 53 (impl_Pair_53)

/-! ### impl_DoTask: function 14 -/
section
open Go.Proofs.Ytfkhncoiifojnaa.Row
set_option maxHeartbeats 1000000 in
theorem impl_DoTask.test (a b : Int) (s : Int) (B : Nat) (w : World) (hB : B < w.heap.size) (hc : w.cell? ⟨B, 1, none⟩ = some (.int .i64 s)) :
    Calls Try.prog 52 #[.agg #[.int .i64 a, .int .i64 b], .pointer (some ⟨B, 0, none⟩)] w fun e w' => e = .returned (.bool (a == s)) ∧ Below w.heap.size w w' := by
  have hu71 := Try.underlying71
  have hu30 := Try.underlying30
  go_enter Try.func52, Try.ntmps52
  go_wp2
  go_ret
  exact ⟨rfl, below_alloc (Below.refl _ _) _⟩
def impl_DoTask.ix (s : Int) : List S71 → Int → Int
  | [], _ => -1
  | x :: r, i => if x.f0 == s then i else impl_DoTask.ix s r (i + 1)
theorem impl_DoTask.drop_rd (l : List S71) (i : Nat) (h : i < l.length) : l.drop i = rd_T71 l (i : Int) :: l.drop (i + 1) := by
  rw [List.drop_eq_getElem_cons h]; congr 1
  unfold rd_T71
  rw [Int.toNat_natCast, List.getD_eq_getElem?_getD, List.getElem?_eq_getElem h]; rfl
set_option maxHeartbeats 2000000 in
theorem impl_DoTask.index (l : List S71) (A : Option Addr) (c : Nat) (s : Int) (B : Nat) (w : World) (hl : Kd.C k71 w A l.length l) (hB : B < w.heap.size) (hc : w.cell? ⟨B, 1, none⟩ = some (.int .i64 s)) :
    Calls Try.prog 78 #[.slice A l.length c, .func (.func 52) #[] #[.pointer (some ⟨B, 0, none⟩)]] w fun e w' => e = .returned (.int .i64 (impl_DoTask.ix s l 0)) ∧ Below w.heap.size w w' := by
  have hu71 := Try.underlying71
  have hmax := Kd.C_max hl
  have HL := Aside0.mk hl
  have HC := Aside0.mk hc
  clear hl hc
  go_enter Try.func78, Try.ntmps78
  go_wp2
  go_loopg [5, 8] l.length (fun gg _ s8 wr => ∃ kk : Nat, kk ≤ l.length ∧ l.length - kk ≤ gg ∧ s8 = .int .i64 kk ∧ Aside0 (Below w.heap.size w wr) ∧ Aside0 (impl_DoTask.ix s (l.drop kk) kk = impl_DoTask.ix s l 0))
  case atStart => exact ⟨0, Nat.zero_le _, by omega, rfl, ⟨Below.refl _ w⟩, ⟨rfl⟩⟩
  case round =>
    obtain ⟨kk, hkk, hg, rfl, BW, IX⟩ := hrel
    by_cases hlt : kk < l.length
    · have hltz : (kk : Int) < (l.length : Int) := by omega
      have hcB := (BW.out.cell (p := ⟨B, 1, none⟩) hB).trans HC.out
      obtain ⟨ad, e1, x0, x1⟩ := at_T71 HL.out (kk : Int) (by omega) hltz
      cases e1
      simp only [Int.toNat_natCast] at x0 x1
      replace x0 := (BW.out.cell (World.block_lt_of_cell? w _ x0)).trans x0
      replace x1 := (BW.out.cell (World.block_lt_of_cell? w _ x1)).trans x1
      have hcall := impl_DoTask.test (rd_T71 l kk).f0 (rd_T71 l kk).f1 s B wr (Nat.lt_of_lt_of_le hB BW.out.size) hcB
      have IY := IX.out
      rw [impl_DoTask.drop_rd l kk hlt, impl_DoTask.ix] at IY
      clear hcB
      cases hq : (rd_T71 l (kk : Int)).f0 == s with
      | true =>
        rw [hq, if_pos rfl] at IY
        rw [hq] at hcall
        have HIY := Aside0.mk IY
        clear IY hq IX
        go_wp2_with (go_at_call 52; refine hcall.mono ?_; rintro e w' ⟨rfl, hb'⟩)
        go_ret
        exact ⟨by rw [HIY.out]; rfl, below_then BW.out BW.out.size hb'⟩
      | false =>
        rw [hq, if_neg (by simp)] at IY
        rw [hq] at hcall
        have HIY := Aside0.mk IY
        clear IY hq IX
        go_wp2_with (go_at_call 52; refine hcall.mono ?_; rintro e w' ⟨rfl, hb'⟩)
        go_roundg (l.length - (kk + 1))
        case measure => omega
        case rel => exact ⟨kk + 1, by omega, by omega, by go_num, ⟨below_then BW.out BW.out.size hb'⟩, HIY⟩
    · have hltz : ¬ (kk : Int) < (l.length : Int) := by omega
      have : kk = l.length := by omega
      subst this
      have IY := IX.out
      rw [List.drop_length, impl_DoTask.ix] at IY
      have HIY := Aside0.mk IY
      clear IY IX
      go_wp2
      go_ret
      exact ⟨by rw [← HIY.out]; rfl, BW.out⟩
theorem grown_cell1 {w w1 : World} {g B : Nat} {v : Value} (h : w.grownBy w1 (some g)) (hne : B ≠ g) (hc : w.cell? ⟨B, 1, none⟩ = some v) : w1.cell? ⟨B, 1, none⟩ = some v :=
  (World.cell?_of_block (h.block B (World.block_lt_of_cell? w _ hc) (fun e => hne (Option.some.inj e)))).trans hc
def en71 (x : S71) : List Value := [.int .i64 x.f0, .int .i64 x.f1]
theorem en71_len (x : S71) : (en71 x).length = 2 := rfl
theorem en71_M {w : World} {b : Nat} {o : Nat → Prop} {x : S71} {cs : List Value} (h : k71.M w b o x cs) : cs = en71 x := k71_openM h
theorem en71_mk (w : World) (b : Nat) (o : Nat → Prop) (x : S71) : k71.M w b o x (en71 x) := k71_mkM w b o x
theorem en71_one (x : S71) : ∀ v ∈ en71 x, v.oneCell' = true := by
  intro v hv
  simp only [en71, List.mem_cons, List.not_mem_nil, or_false] at hv
  rcases hv with rfl | rfl <;> rfl
def keepF (s : Int) (x : S71) : Bool := !(x.f0 == s)
theorem clear_run (w : World) (g o n c : Nat) (L : List Value) (h : RowIs w g 71 L) (hl : o + n * 2 ≤ L.length) :
    ∃ zs : List Value, zs.length = n * 2 ∧ ∀ ty, (Builtin.clear_ #[26] ty #[.slice (some ⟨g, o, none⟩) n c]).run Try.prog w = .ok (.tuple #[]) (w.setCells g o zs) := by
  cases n with
  | zero => exact ⟨[], by simp, fun ty => by simp [Builtin.clear_, run_underlying Try.underlying26, World.setCells]⟩
  | succ m =>
    refine ⟨(Builtin.zeroCells #[.int .i64 0, .int .i64 0] (m + 1)).toList, by simp [Builtin.zeroCells], fun ty => ?_⟩
    have hv : ∀ W, (zeroValue 71).run Try.prog W = .ok (.agg #[.int .i64 0, .int .i64 0]) W := fun W => by kernel_rfl
    have hst := run_storeCells_cells (P := Try.prog) g o (Builtin.zeroCells #[.int .i64 0, .int .i64 0] (m + 1)).toList 0 w (fun j hj => h.isSome (by simp [Builtin.zeroCells] at hj; omega)) (fun j _ => h.free _) (by
      intro v hv'
      simp only [Builtin.zeroCells, Array.toList_map, List.mem_map] at hv'
      obtain ⟨i, _, rfl⟩ := hv'
      have h3 : i % 2 < 2 := Nat.mod_lt _ (by omega)
      show (#[Value.int .i64 0, .int .i64 0][i % 2]!).oneCell' = true
      rcases (by omega : i % 2 = 0 ∨ i % 2 = 1) with e | e <;> rw [e] <;> rfl)
    simp only [Nat.add_zero] at hst
    simp only [Builtin.clear_, run_underlying Try.underlying26, hv, Value.cells, hst]
    simp [run_underlying Try.underlying26, hv, hst, Value.cells]
theorem keep_ix (s : Int) (l : List S71) : ∀ i : Int, (impl_DoTask.ix s l i = -1 ∧ l.filter (keepF s) = l) ∨ ∃ j : Nat, j < l.length ∧ impl_DoTask.ix s l i = i + (j : Int) ∧ (l.take j).filter (keepF s) = l.take j ∧ (l.take (j + 1)).filter (keepF s) = l.take j := by
  induction l with
  | nil => intro i; exact .inl ⟨rfl, rfl⟩
  | cons x r ih =>
    intro i
    by_cases h : (x.f0 == s) = true
    · refine .inr ⟨0, by simp, ?_, rfl, ?_⟩
      · rw [impl_DoTask.ix, if_pos h]; simp
      · have hk : keepF s x = false := by unfold keepF; rw [h]; rfl
        simp [List.filter_cons, hk]
    · have hk : keepF s x = true := by unfold keepF; rw [Bool.eq_false_iff.2 h]; rfl
      have e : impl_DoTask.ix s (x :: r) i = impl_DoTask.ix s r (i + 1) := by rw [impl_DoTask.ix, if_neg h]
      rcases ih (i + 1) with ⟨h1, h2⟩ | ⟨j, hj, h1, h2, h3⟩
      · exact .inl ⟨by rw [e, h1], by rw [List.filter_cons, if_pos hk, h2]⟩
      · exact .inr ⟨j + 1, by simpa using hj, by rw [e, h1]; omega, by rw [List.take_succ_cons, List.filter_cons, if_pos hk, h2], by rw [List.take_succ_cons, List.filter_cons, if_pos hk, h3]; rfl⟩
/-- The row while it is rewritten: what is kept so far, cells that are free, what is to come, the rest. -/
theorem row_store {g : Nat} {K X T : List Value} {x : S71} {W : World} (h : RowIs W g 71 (K ++ X ++ (en71 x ++ T))) (h3 : 2 ≤ X.length) (o : Nat) (ho : K.length = o) :
    RowIs (W.setCells g o (en71 x)) g 71 ((K ++ en71 x) ++ (X ++ en71 x).drop 2 ++ T) := by
  subst ho
  have hs := h.set K.length (en71 x) (by simp [en71]; omega)
  have e1 : (K ++ X ++ (en71 x ++ T)).take K.length = K := by rw [List.append_assoc]; exact List.take_left' rfl
  have e2 : (K ++ X ++ (en71 x ++ T)).drop (K.length + (en71 x).length) = (X ++ en71 x).drop 2 ++ T := by
    rw [← List.drop_drop, List.append_assoc, List.drop_left' rfl, ← List.append_assoc, en71_len, List.drop_append_of_le_length (by simp [en71])]
  rw [e1, e2] at hs
  simpa [List.append_assoc] using hs
theorem row_clear {g : Nat} {K X T : List Value} {W : World} (h : RowIs W g 71 (K ++ X ++ T)) (zs : List Value) (hz : zs.length = X.length) (o : Nat) (ho : K.length = o) : RowIs (W.setCells g o zs) g 71 (K ++ zs ++ T) := by
  subst ho
  have hs := h.set K.length zs (by simp; omega)
  rw [List.append_assoc K X T, List.take_left' rfl, ← List.drop_drop, List.drop_left' rfl, hz, List.drop_left' rfl] at hs
  exact hs
theorem take_rd (l : List S71) (j : Nat) (h : j < l.length) : l.take (j + 1) = l.take j ++ [rd_T71 l (j : Int)] := by
  have e := List.take_append_drop j (l.take (j + 1))
  rw [List.take_take, Nat.min_eq_left (by omega), List.drop_take, impl_DoTask.drop_rd l j h, show j + 1 - j = 1 by omega] at e
  rw [← e]; rfl
theorem row_at {K X T : List Value} {x : S71} {m : Nat} (hm : K.length + X.length = m) (i : Nat) (v : Value) (hv : (en71 x)[i]? = some v) : (K ++ X ++ (en71 x ++ T))[m + i]? = some v := by
  subst hm
  have hi := (List.getElem?_eq_some_iff.1 hv).1
  rw [List.getElem?_append_right (by simp), List.length_append, Nat.add_sub_cancel_left, List.getElem?_append_left hi]
  exact hv
set_option maxHeartbeats 4000000 in
set_option maxRecDepth 100000 in
theorem impl_DoTask.delete (l : List S71) (v : Value) (s : Int) (B base : Nat) (ok : Nat → Prop) (w : World) (hR : Kd.R k71 71 w base ok v l) (hB : B < w.heap.size) (hc : w.cell? ⟨B, 1, none⟩ = some (.int .i64 s)) (hne : ∀ k, v.ownBlock = some k → B ≠ k) :
    Calls Try.prog 51 #[v, .func (.func 52) #[] #[.pointer (some ⟨B, 0, none⟩)]] w fun e w' => ∃ v', e = .returned v' ∧ Kd.R k71 71 w' base ok v' (l.filter (keepF s)) ∧ w.grownBy w' v.ownBlock := by
  have hu71 := Try.underlying71
  have hu26 := Try.underlying26
  obtain ⟨A, c, rfl, hlc, hC⟩ := Kd.R_reads hR
  have hIF := impl_DoTask.index l A c s B w hC hB hc
  rcases keep_ix s l 0 with ⟨e1, e2⟩ | ⟨k0, hk0, e1, e2, e3⟩
  · rw [e1] at hIF
    rw [e2]
    have HR := Aside0.mk hR
    clear hR hC e1 e2 hc
    go_enter Try.func51, Try.ntmps51
    go_wp2_with (go_at_call 78; refine hIF.mono ?_; rintro e w' ⟨rfl, hb'⟩)
    go_ret
    exact ⟨_, rfl, Kd.R_below HR.out hb', grown_of_below hb' _⟩
  · rcases R_rows (enc := en71) en71_len en71_M hR with ⟨_, rfl⟩ | ⟨g, cap, rest, ev, hbg, hokg, hcap, hmx, hrow, hrl⟩
    · simp at hk0
    cases ev
    have hBg : B ≠ g := hne g rfl
    rw [e1] at hIF
    have hne1 : ((0 : Int) + (k0 : Int) == -1) = false := beq_eq_false_iff_ne.2 (by omega)
    unfold maxLen at hmx
    have HRow := Aside0.mk hrow
    have HC := Aside0.mk hc
    have E2 := Aside0.mk e2
    have E3 := Aside0.mk e3
    clear hR hC hrow hc e1 e2 e3 hne
    simp only [Int.zero_add] at hIF hne1
    go_enter Try.func51, Try.ntmps51
    go_wp2_with (go_at_call 78; refine hIF.mono ?_; rintro e w1 ⟨rfl, hb1⟩)
    go_loopg [5, 6, 7] l.length (fun gg s5 s6 _ wr => ∃ (i j : Nat) (X : List Value), s5 = .int .i64 i ∧ s6 = .int .i64 j ∧ j ≤ l.length ∧ l.length - j ≤ gg ∧ Aside0 (i < j ∧ ((l.take j).filter (keepF s)).length = i ∧ X.length = (j - i) * 2) ∧ Aside0 (RowIs wr g 71 (flat en71 ((l.take j).filter (keepF s)) ++ X ++ (flat en71 (l.drop j) ++ rest))) ∧ Aside0 (w.grownBy wr (some g)))
    case atStart =>
      refine ⟨k0, k0 + 1, en71 (rd_T71 l (k0 : Int)), rfl, by go_num, by omega, by omega, ⟨by omega, ?_, ?_⟩, ⟨?_⟩, ⟨grown_of_below hb1 _⟩⟩
      · rw [E3.out, List.length_take]; omega
      · rw [en71_len, show k0 + 1 - k0 = 1 by omega]
      · have := HRow.out.below hb1
        rw [E3.out]
        have e : flat en71 l = flat en71 (l.take k0) ++ en71 (rd_T71 l (k0 : Int)) ++ flat en71 (l.drop (k0 + 1)) := by
          conv => lhs; rw [← List.take_append_drop k0 l, impl_DoTask.drop_rd l k0 hk0, flat_append, flat_cons]
          simp
        rw [e, List.append_assoc] at this
        exact this
    case round =>
      obtain ⟨i, j, X, rfl, rfl, hjl, hgg, IX, ROW, GW⟩ := hrel
      have hij := IX.out.1
      by_cases hlt : j < l.length
      · have hltz : (j : Int) < (l.length : Int) := by omega
        have hkl : (flat en71 ((l.take j).filter (keepF s))).length = i * 2 := by rw [flat_length en71_len, IX.out.2.1]
        have hXl : X.length = (j - i) * 2 := IX.out.2.2
        have R0 := ROW.out
        rw [impl_DoTask.drop_rd l j hlt, flat_cons, List.append_assoc (en71 _)] at R0
        have hm : (flat en71 ((l.take j).filter (keepF s))).length + X.length = j * 2 := by omega
        have x0 : wr.cell? ⟨g, j * 2, none⟩ = some (.int .i64 (rd_T71 l (j : Int)).f0) := R0.cell (row_at hm 0 _ rfl)
        have hBlt : B < wr.heap.size := World.block_lt_of_cell? wr ⟨B, 1, none⟩ (grown_cell1 GW.out hBg HC.out)
        have x1 := R0.cell (row_at hm 1 (.int .i64 (rd_T71 l (j : Int)).f1) rfl)
        have hcB := grown_cell1 GW.out hBg HC.out
        have hcall := impl_DoTask.test (rd_T71 l j).f0 (rd_T71 l j).f1 s B (wr.alloc (.cells #[.int .i64 (rd_T71 l j).f0, .int .i64 (rd_T71 l j).f1] 71)) (by simp; omega) (pw_cell_below (below_alloc (Below.refl _ _) _) hcB)
        have RA := Aside0.mk (R0.below (below_alloc (Below.refl _ _) (.cells #[.int .i64 (rd_T71 l j).f0, .int .i64 (rd_T71 l j).f1] 71)))
        have GA := Aside0.mk (grown_below GW.out (below_alloc (Below.refl _ _) (.cells #[.int .i64 (rd_T71 l j).f0, .int .i64 (rd_T71 l j).f1] 71)))
        have HLn := Aside0.mk (show i * 2 + 2 ≤ (flat en71 ((l.take j).filter (keepF s)) ++ X ++ (en71 (rd_T71 l (j : Int)) ++ (flat en71 (l.drop (j + 1)) ++ rest))).length by simp only [List.length_append, hkl, hXl]; omega)
        have hil : (i : Int) < (l.length : Int) := by omega
        clear R0 hkl hXl hm ROW GW hcB
        cases hq : (rd_T71 l (j : Int)).f0 == s with
        | true =>
          rw [hq] at hcall
          have HQ := Aside0.mk hq
          clear hq
          go_wp2_with (go_at_call 52; refine hcall.mono ?_; rintro e w2 ⟨rfl, hb2⟩)
          go_roundg (l.length - (j + 1))
          case measure => omega
          case rel =>
            have hk : keepF s (rd_T71 l (j : Int)) = false := by unfold keepF; rw [HQ.out]; rfl
            have e1 : (l.take (j + 1)).filter (keepF s) = (l.take j).filter (keepF s) := by rw [take_rd l j hlt, List.filter_append]; simp [List.filter_cons, hk]
            refine ⟨i, j + 1, X ++ en71 (rd_T71 l (j : Int)), rfl, by go_num, by omega, Nat.le_refl _, ⟨by omega, by rw [e1]; exact IX.out.2.1, by rw [List.length_append, IX.out.2.2, en71_len]; omega⟩, ⟨?_⟩, ⟨grown_below GA.out hb2⟩⟩
            have := RA.out.below hb2
            rw [e1]
            simpa [List.append_assoc] using this
        | false =>
          rw [hq] at hcall
          have HQ := Aside0.mk hq
          clear hq
          go_wp2_with (go_at_call 52; refine hcall.mono ?_; rintro e w2 ⟨rfl, hb2⟩; have RB := Aside0.mk (RA.out.below hb2); have GB := Aside0.mk (grown_below GA.out hb2); have n0 : w2.cell? ⟨wr.heap.size, 0, none⟩ = some (.int .i64 (rd_T71 l (j : Int)).f0) := pw_cell_below hb2 (by go_simp); have n1 : w2.cell? ⟨wr.heap.size, 1, none⟩ = some (.int .i64 (rd_T71 l (j : Int)).f1) := pw_cell_below hb2 (by go_simp); obtain ⟨o0, p0⟩ := Option.isSome_iff_exists.1 (RB.out.isSome (j := i * 2) (by have := HLn.out; omega)); obtain ⟨o1, p1⟩ := Option.isSome_iff_exists.1 (RB.out.isSome (j := i * 2 + 1) (by have := HLn.out; omega)); have q0 := RB.out.free (i * 2); have q1 := RB.out.free (i * 2 + 1))
          go_roundg (l.length - (j + 1))
          case measure => omega
          case rel =>
            have hk : keepF s (rd_T71 l (j : Int)) = true := by unfold keepF; rw [HQ.out]; rfl
            have e1 : (l.take (j + 1)).filter (keepF s) = (l.take j).filter (keepF s) ++ [rd_T71 l (j : Int)] := by rw [take_rd l j hlt, List.filter_append]; simp [List.filter_cons, hk]
            have hx := IX.out.2.2
            refine ⟨i + 1, j + 1, (X ++ en71 (rd_T71 l (j : Int))).drop 2, by go_num, by go_num, by omega, Nat.le_refl _, ⟨by omega, by rw [e1, List.length_append, IX.out.2.1]; rfl, by rw [List.length_drop, List.length_append, hx, en71_len]; omega⟩, ⟨?_⟩, ⟨?_⟩⟩
            · have := row_store RB.out (by omega) (i * 2) (by rw [flat_length en71_len, IX.out.2.1])
              rw [e1, flat_append]
              exact this
            · exact grown_trans GB.out (grown_set w2 g (i * 2) (en71 (rd_T71 l (j : Int))))
      · obtain rfl : j = l.length := by omega
        have hltz : ¬ (l.length : Int) < (l.length : Int) := by omega
        have hkl : (flat en71 ((l.take l.length).filter (keepF s))).length = i * 2 := by rw [flat_length en71_len, IX.out.2.1]
        have hXl : X.length = (l.length - i) * 2 := IX.out.2.2
        obtain ⟨zs, hz, hcl⟩ := clear_run wr g (i * 2) (l.length - i) (c - i) _ ROW.out (by simp only [List.length_append, hkl, hXl]; omega)
        have hs := row_clear ROW.out zs (by rw [hz, hXl]) (i * 2) hkl
        rw [List.drop_length] at hs
        have HS := Aside0.mk hs
        have HZ := Aside0.mk hz
        have hil : (i : Int) ≤ (l.length : Int) := by omega
        have hic : (i : Int) ≤ (c : Int) := by omega
        have hci : ¬ (c = i) := by omega
        clear hkl hXl hs hz ROW
        go_wp2
        go_ret
        have e1 : (l.take l.length).filter (keepF s) = l.filter (keepF s) := by rw [List.take_length]
        have hi := IX.out.2.1
        rw [e1] at hi
        refine ⟨.slice (some ⟨g, 0, none⟩) (l.filter (keepF s)).length c, by rw [hi]; rfl, ?_, grown_trans GW.out (grown_set wr g (i * 2) zs)⟩
        have hfl := List.length_filter_le (keepF s) l
        refine R_of_rows (rest := zs ++ rest) en71_len en71_mk hbg hokg (by omega) (by unfold maxLen; omega) ?_ ?_
        · have := HS.out
          rw [e1] at this
          simpa [flat_nil, List.append_assoc] using this
        · have e3 : k71.sz = 2 := rfl
          rw [List.length_append, HZ.out, hrl, e3, hi]
          omega
set_option maxHeartbeats 2000000 in
theorem impl_DoTask.grow (n : Nat) (hn : n < 3000000) (w : World) : Calls Try.prog 79 #[.slice none 0 0, .int .i64 n] w fun e w' => ∃ v, e = .returned v ∧ Kd.R k71 71 w' w.heap.size (fun _ => True) v [] ∧ Below w.heap.size w w' := by
  rcases Nat.eq_zero_or_pos n with rfl | hp
  · go_enter Try.func79, Try.ntmps79
    go_wp2
    go_ret
    exact ⟨_, rfl, Kd.R_nil _ _ _ _ _, Below.refl _ _⟩
  · have hn0 : ¬ (n : Int) < 0 := by omega
    have hn1 : (0 : Int) < (n : Int) := by omega
    go_enter Try.func79, Try.ntmps79
    go_wp2_with (at_builtin; refine Kd.R_append_zeros k71 (w0 := w) w.heap.size rfl (.tmp 20) (.tmp 21) 26 3 71 (.agg #[.int .i64 0, .int .i64 0]) 16 rfl Try.underlying26 Try.underlying3 info71 rfl (by decide) (by omega) (.slice none 0 0) [] z71 (kx := .i64) (n : Int) (fun _ => True) rfl rfl (k71_mkM _ _ _ z71) (fun _ _ => trivial) (Kd.R_nil _ _ _ _ _) (by omega) (Below.refl _ _) (Nat.le_refl _) (by simp; omega) ?_; intro v1 w1 hR1 hb1 hg1 hat1; obtain ⟨A1, c1, rfl, hc1, _⟩ := Kd.R_reads hR1)
    go_ret
    refine ⟨_, rfl, ?_, hb1⟩
    have := Kd.R_take hR1 (m := 0) (Nat.zero_le _)
    simpa using this
def impl_DoTask.up (la lb lc : List S71) (k : Nat) : List S71 := (if 1 ≤ k then la else []) ++ (if 2 ≤ k then lb else []) ++ (if 3 ≤ k then lc else [])
set_option maxHeartbeats 4000000 in
set_option maxRecDepth 100000 in
theorem impl_DoTask.concat (la lb lc : List S71) (A0 A1 A2 : Option Addr) (c0 c1 c2 vb : Nat) (w : World) (h0 : Kd.C k71 w A0 la.length la) (h1 : Kd.C k71 w A1 lb.length lb) (h2 : Kd.C k71 w A2 lc.length lc) (hn : la.length + lb.length + lc.length < 3000000)
    (hv : w.heap[vb]? = some (.cells #[.slice A0 la.length c0, .slice A1 lb.length c1, .slice A2 lc.length c2] 26 (0, 0))) :
    Calls Try.prog 53 #[.slice (some ⟨vb, 0, none⟩) 3 3] w fun e w' => ∃ v, e = .returned v ∧ Kd.R k71 71 w' w.heap.size (fun _ => True) v (la ++ lb ++ lc) ∧ Below w.heap.size w w' := by
  have HV := Aside0.mk hv
  have H0 := Aside0.mk h0
  have H1 := Aside0.mk h1
  have H2 := Aside0.mk h2
  have hgrow := impl_DoTask.grow (la.length + lb.length + lc.length) hn w
  have e1 : ((la.length + lb.length + lc.length : Nat) : Int) = (la.length : Int) + (lb.length : Int) + (lc.length : Int) := by omega
  rw [e1] at hgrow
  clear h0 h1 h2 e1
  go_enter Try.func53, Try.ntmps53
  go_wp2
  go_loopg [3, 11, 5] 3 (fun gg s3 s11 _ wr => ∃ k : Nat, k ≤ 3 ∧ 3 - k ≤ gg ∧ s11 = .int .i64 k ∧ s3 = .int .i64 ((impl_DoTask.up la lb lc k).length : Int) ∧ Aside0 (wr = w))
  case atStart => exact ⟨0, by omega, by omega, rfl, rfl, ⟨rfl⟩⟩
  case round =>
    obtain ⟨k, hk, hg, rfl, rfl, HW⟩ := hrel
    obtain rfl := HW.out
    have x0 := (blk_cell hv 0).trans (show (#[Value.slice A0 la.length c0, .slice A1 lb.length c1, .slice A2 lc.length c2] : Array Value)[0]? = some (.slice A0 la.length c0) from rfl)
    have x1 := (blk_cell hv 1).trans (show (#[Value.slice A0 la.length c0, .slice A1 lb.length c1, .slice A2 lc.length c2] : Array Value)[1]? = some (.slice A1 lb.length c1) from rfl)
    have x2 := (blk_cell hv 2).trans (show (#[Value.slice A0 la.length c0, .slice A1 lb.length c1, .slice A2 lc.length c2] : Array Value)[2]? = some (.slice A2 lc.length c2) from rfl)
    rcases (by omega : k = 0 ∨ k = 1 ∨ k = 2 ∨ k = 3) with rfl | rfl | rfl | rfl
    · have hs : ¬ (la.length : Int) < 0 := by omega
      simp only [impl_DoTask.up, show ¬ (1 ≤ 0) by omega, show ¬ (2 ≤ 0) by omega, show ¬ (3 ≤ 0) by omega, if_false, List.append_nil, List.length_nil]
      clear hv
      go_wp2
      go_roundg 2
      case measure => omega
      case rel => exact ⟨1, by omega, by omega, rfl, by simp [impl_DoTask.up], ⟨rfl⟩⟩
    · have hs : ¬ (la.length : Int) + (lb.length : Int) < 0 := by omega
      simp only [impl_DoTask.up, show (1 ≤ 1) by omega, show ¬ (2 ≤ 1) by omega, show ¬ (3 ≤ 1) by omega, if_false, if_true, List.append_nil]
      clear hv
      go_wp2
      go_roundg 1
      case measure => omega
      case rel => exact ⟨2, by omega, by omega, rfl, by simp [impl_DoTask.up], ⟨rfl⟩⟩
    · have hs : ¬ (la.length : Int) + (lb.length : Int) + (lc.length : Int) < 0 := by omega
      simp only [impl_DoTask.up, show (1 ≤ 2) by omega, show (2 ≤ 2) by omega, show ¬ (3 ≤ 2) by omega, if_false, if_true, List.append_nil, List.length_append, Int.natCast_add]
      clear hv
      go_wp2
      go_roundg 0
      case measure => omega
      case rel => exact ⟨3, by omega, by omega, rfl, by simp [impl_DoTask.up, Int.add_assoc], ⟨rfl⟩⟩
    · simp only [impl_DoTask.up, show (1 ≤ 3) by omega, show (2 ≤ 3) by omega, show (3 ≤ 3) by omega, if_true, List.length_append, Int.natCast_add]
      clear hv
      go_wp2_with (go_at_call 79; refine hgrow.mono ?_; rintro e w1 ⟨v0, rfl, hR0, hb0⟩; have HR0 := Aside0.mk hR0; have HB0 := Aside0.mk hb0; clear hR0 hb0)
      go_loopg [6, 27, 8] 3 (fun gg s6 s27 _ wr2 => ∃ (v : Value) (k : Nat), v = s6 ∧ k ≤ 3 ∧ 3 - k ≤ gg ∧ s27 = .int .i64 k ∧ Aside0 (Kd.R k71 71 wr2 _ (fun _ => True) v (impl_DoTask.up la lb lc k)) ∧ Aside0 (Below _ _ wr2))
      case atStart => exact ⟨_, 0, rfl, by omega, by omega, rfl, ⟨by have := HR0.out; simpa [impl_DoTask.up] using this⟩, HB0⟩
      case round =>
        obtain ⟨v, k, rfl, hk2, hg2, rfl, HO, BW⟩ := hrel
        rcases (by omega : k = 0 ∨ k = 1 ∨ k = 2 ∨ k = 3) with rfl | rfl | rfl | rfl
        · have HR := Aside0.mk (show Kd.R k71 71 wr _ _ v ([]) from by have := HO.out; simpa [impl_DoTask.up] using this)
          have y := pw_cell_below BW.out x0
          have HC := Aside0.mk (Kd.C_below H0.out BW.out)
          go_wp2_with (at_builtin; refine Kd.R_append_rows k71 (w0 := _) _ rfl (.tmp 31) (.tmp 32) 26 71 (.agg #[.int .i64 0, .int .i64 0]) 16 rfl Try.underlying26 info71 rfl (by decide) (by omega) v _ la _ _ _ (fun _ => True) (fun _ => False) rfl rfl HR.out HC.out (fun _ _ h => h) (fun _ h => h.elim) (fun _ _ => trivial) BW.out BW.out.size (by (try simp only [List.length_append, List.length_nil]); omega) ?_; intro v1 w1' hR1 hb1 hg1 hat1)
          go_roundg 2
          case measure => omega
          case rel => exact ⟨_, 1, rfl, by omega, by omega, rfl, ⟨by have := hR1; simpa [impl_DoTask.up] using this⟩, ⟨hb1⟩⟩
        · have HR := Aside0.mk (show Kd.R k71 71 wr _ _ v (la) from by have := HO.out; simpa [impl_DoTask.up] using this)
          have y := pw_cell_below BW.out x1
          have HC := Aside0.mk (Kd.C_below H1.out BW.out)
          go_wp2_with (at_builtin; refine Kd.R_append_rows k71 (w0 := _) _ rfl (.tmp 31) (.tmp 32) 26 71 (.agg #[.int .i64 0, .int .i64 0]) 16 rfl Try.underlying26 info71 rfl (by decide) (by omega) v _ lb _ _ _ (fun _ => True) (fun _ => False) rfl rfl HR.out HC.out (fun _ _ h => h) (fun _ h => h.elim) (fun _ _ => trivial) BW.out BW.out.size (by (try simp only [List.length_append, List.length_nil]); omega) ?_; intro v1 w1' hR1 hb1 hg1 hat1)
          go_roundg 1
          case measure => omega
          case rel => exact ⟨_, 2, rfl, by omega, by omega, rfl, ⟨by have := hR1; simpa [impl_DoTask.up] using this⟩, ⟨hb1⟩⟩
        · have HR := Aside0.mk (show Kd.R k71 71 wr _ _ v (la ++ lb) from by have := HO.out; simpa [impl_DoTask.up] using this)
          have y := pw_cell_below BW.out x2
          have HC := Aside0.mk (Kd.C_below H2.out BW.out)
          go_wp2_with (at_builtin; refine Kd.R_append_rows k71 (w0 := _) _ rfl (.tmp 31) (.tmp 32) 26 71 (.agg #[.int .i64 0, .int .i64 0]) 16 rfl Try.underlying26 info71 rfl (by decide) (by omega) v _ lc _ _ _ (fun _ => True) (fun _ => False) rfl rfl HR.out HC.out (fun _ _ h => h) (fun _ h => h.elim) (fun _ _ => trivial) BW.out BW.out.size (by (try simp only [List.length_append, List.length_nil]); omega) ?_; intro v1 w1' hR1 hb1 hg1 hat1)
          go_roundg 0
          case measure => omega
          case rel => exact ⟨_, 3, rfl, by omega, by omega, rfl, ⟨by have := hR1; simpa [impl_DoTask.up] using this⟩, ⟨hb1⟩⟩
        · have HR := Aside0.mk (show Kd.R k71 71 wr _ _ v (la ++ lb ++ lc) from by have := HO.out; simpa [impl_DoTask.up] using this)
          go_wp2
          go_ret
          exact ⟨_, rfl, HR.out, BW.out⟩
theorem impl_DoTask.one_C {W : World} {vb : Nat} {x : S71} (hv : RowIs W vb 71 (en71 x)) : Kd.C k71 W (some ⟨vb, 0, none⟩) 1 [x] := ⟨rfl, by omega, fun _ => ⟨⟨vb, 0, none⟩, rfl, fun j p hj => by
    have hj0 : j = 0 := by have := (List.getElem?_eq_some_iff.1 hj).1; simp at this; omega
    subst hj0
    obtain rfl : x = p := by simpa using hj
    refine ⟨en71 x, rfl, k71_mk _ _, fun i u hi => ?_⟩
    rw [add_at]
    exact hv.cell (by simpa using hi)⟩⟩
theorem impl_DoTask.heap2 (w : World) (a b : Obj) : ((w.alloc a).alloc b).heap[w.heap.size + 1]? = some b := by
  have e : (w.alloc a).heap.size = w.heap.size + 1 := by simp
  rw [← e]
  exact heap_alloc_new _ _
def impl_DoTask.fnd : List S71 → Int
  | [] => 0
  | p :: r => if wrap64 (p.f1 + 1) = 0 then impl_DoTask.fnd r else wrap64 (p.f1 + 1)
def impl_DoTask.f (k : Nat) (l0 : List S71) (a1_0 : Int) (a1_1 : Int) (a1_2 : Int) (a1_3 : Int) (a1_4 : Int) (a1_5 : Int) (a1_6 : Int) (a1_7 : Int) (a1_8 : Int) (a1_9 : Bool) (a1_10 : Int) : Option (List S71 × Int) :=
  (impl_parted.f k l0 a1_1).bind fun q => if l0.length < 2000000 ∧ q.1.length + q.2.2.length < 2000000 then
    (if a1_0 = 1 then some (l0, impl_DoTask.fnd q.2.1) else if a1_0 = 3 ∧ 0 < q.2.1.length then some (l0.filter (keepF a1_1), 1) else if a1_0 = 2 ∧ q.2.1.length = 0 then some (q.1 ++ [⟨a1_1, a1_2⟩] ++ q.2.2, 1) else some (l0, 0)) else none
set_option maxHeartbeats 8000000 in
set_option maxRecDepth 100000 in
theorem impl_DoTask.other (kq : Nat) (A : Option Addr) (c : Nat) (l lb ls la : List S71) (a0 a1 a2 a3 a4 a5 a6 a7 a8 : Int) (a9 : Bool) (a10 : Int) (w : World) (hl : Kd.C k71 w A l.length l) (hlc : l.length ≤ c) (hp : impl_parted.f kq l a1 = some (lb, ls, la)) (hn : l.length < 2000000) (h1 : ¬ a0 = 1) (h3 : ¬ (a0 = 3 ∧ 0 < ls.length)) (h2 : ¬ (a0 = 2 ∧ ls.length = 0)) :
    Calls Try.prog 14 #[.slice A l.length c, .agg #[.int .i64 a0, .int .i64 a1, .int .i64 a2, .int .i64 a3, .int .i64 a4, .int .i64 a5, .int .i64 a6, .int .i64 a7, .int .i64 a8, .bool a9, .int .i64 a10]] w fun e w' => ∃ v, e = .returned (.tuple #[v, .int .i64 0]) ∧ Kd.R k71 71 w' w.heap.size (fun _ => True) v (l) ∧ Below w.heap.size w w' := by
  have hu30 := Try.underlying30
  have hu71 := Try.underlying71
  have HL := Aside0.mk hl
  have HP := Aside0.mk hp
  have d1 : (a0 == 1) = false := by simpa using h1
  clear hl hp
  go_enter Try.func14, Try.ntmps14
  go_wp2_with (first
    | ((with_reducible refine gate_dst (N := 3) rfl ?_); refine bE 3 #[.int .i64 a0, .int .i64 a1, .int .i64 a2, .int .i64 a3, .int .i64 a4, .int .i64 a5, .int .i64 a6, .int .i64 a7, .int .i64 a8, .bool a9, .int .i64 a10] 30 ?_; intro gb hg w1 hbox hb; have BK := Aside0.mk hbox; have HB1 := Aside0.mk hb; have hgs : Aside0 (gb = w.heap.size) := ⟨hg⟩; clear hb hbox hg)
    | ((with_reducible refine gate_dst (N := 12) rfl ?_); refine Kd.R_lit k71 _ 71 ?hg (N := 12) ?hd (xs := ([] : List (S71))) (inner := []) (ok := fun _ => True) (okp := fun _ => True) ?hr ?hp (fun _ hk => hk) trivial (Below.refl _ _) (Nat.le_refl _) (by simp) ?_; (case hd => rfl); (case hg => rfl); (case hr => first | (go_simp; done) | (go_simp; rfl)); (case hp => exact (Reps.none _ _)); intro v2 w2 ho2 hb hg_ hnew_; have BK2 := Aside0.mk (blk_below BK.out hb); have HB2 := Aside0.mk (below_then HB1.out HB1.out.size hb); have HO2 := Aside0.mk ho2; have hs2 : Aside0 (w.heap.size + 1 ≤ w1.heap.size) := ⟨by have := blk_lt BK.out; have := hgs.out; omega⟩; have HBw := Aside0.mk hb; clear hb ho2 hg_ hnew_)
    | (at_builtin; refine Kd.R_append_rows k71 (w0 := w1) w1.heap.size rfl (.tmp 12) (.tmp 13) 26 71 (.agg #[(.int .i64 0), (.int .i64 0)]) 16 rfl Try.underlying26 info71 rfl (by decide) (by omega) v2 [] l _ _ _ (fun _ => True) (fun _ => False) rfl rfl HO2.out (Kd.C_below HL.out HB2.out) (fun _ _ h => h) (fun _ h => h.elim) (fun _ _ => trivial) HBw.out HBw.out.size (by simp only [List.length_nil]; omega) ?_; intro v3 w3 ho3 hb hg hat; have HO3 := Aside0.mk (show Kd.R k71 71 w3 w1.heap.size (fun _ => True) v3 l from by simpa using ho3); have HBv := Aside0.mk hb; have HB3 := Aside0.mk (below_then HB1.out HB1.out.size hb); have BK3 := Aside0.mk (blk_below BK.out hb); have cb0 : w3.cell? ⟨gb, 0, none⟩ = some (.int .i64 a0) := CZ BK3.out 0; have cb1 : w3.cell? ⟨gb, 1, none⟩ = some (.int .i64 a1) := CZ BK3.out 1; have cb2 : w3.cell? ⟨gb, 2, none⟩ = some (.int .i64 a2) := CZ BK3.out 2; clear ho3 hb hg hat)
    | (go_at_call 50; refine (impl_parted.calls kq A c l a1 lb ls la w3 (Kd.C_below HL.out HB3.out) hlc HP.out).mono ?_; rintro e w4 ⟨q0, q1, q2, rfl, hr0, hr1, hr2, hb⟩; obtain ⟨Q0, n0, rfl, hn0, _⟩ := Kd.R_reads hr0; obtain ⟨Q1, n1, rfl, hn1, _⟩ := Kd.R_reads hr1; obtain ⟨Q2, n2, rfl, hn2, _⟩ := Kd.R_reads hr2; have HR0 := Aside0.mk hr0; have HR1 := Aside0.mk hr1; have HR2 := Aside0.mk hr2; have HB4 := Aside0.mk (below_then HB3.out HB3.out.size hb); have HBv4 := Aside0.mk (below_then HBv.out HBv.out.size hb); have BK4 := Aside0.mk (blk_below BK3.out hb); have HO4 := Aside0.mk (Kd.R_below HO3.out hb); have db0 : w4.cell? ⟨gb, 0, none⟩ = some (.int .i64 a0) := CZ BK4.out 0; have db1 : w4.cell? ⟨gb, 1, none⟩ = some (.int .i64 a1) := CZ BK4.out 1; have db2 : w4.cell? ⟨gb, 2, none⟩ = some (.int .i64 a2) := CZ BK4.out 2; clear hr0 hr1 hr2 hb cb0 cb1 cb2)
    )
  all_goals go_ret2
  all_goals exact ⟨_, rfl, Kd.R_lower HO4.out HB1.out.size, HB4.out⟩
set_option maxHeartbeats 8000000 in
set_option maxRecDepth 100000 in
theorem impl_DoTask.take (kq : Nat) (A : Option Addr) (c : Nat) (l lb ls la : List S71) (a0 a1 a2 a3 a4 a5 a6 a7 a8 : Int) (a9 : Bool) (a10 : Int) (w : World) (hl : Kd.C k71 w A l.length l) (hlc : l.length ≤ c) (hp : impl_parted.f kq l a1 = some (lb, ls, la)) (hn : l.length < 2000000) (h1 : a0 = 3) (hs : 0 < ls.length) :
    Calls Try.prog 14 #[.slice A l.length c, .agg #[.int .i64 a0, .int .i64 a1, .int .i64 a2, .int .i64 a3, .int .i64 a4, .int .i64 a5, .int .i64 a6, .int .i64 a7, .int .i64 a8, .bool a9, .int .i64 a10]] w fun e w' => ∃ v, e = .returned (.tuple #[v, .int .i64 1]) ∧ Kd.R k71 71 w' w.heap.size (fun _ => True) v (l.filter (keepF a1)) ∧ Below w.heap.size w w' := by
  have hu30 := Try.underlying30
  have hu71 := Try.underlying71
  have HL := Aside0.mk hl
  have HP := Aside0.mk hp
  have e1 : (a0 == 1) = false := by simp [h1]
  have e3 : (a0 == 3) = true := by simp [h1]
  have d2 : (0 : Int) < (ls.length : Int) := by omega
  clear h1
  clear hl hp
  go_enter Try.func14, Try.ntmps14
  go_wp2_with (first
    | ((with_reducible refine gate_dst (N := 3) rfl ?_); refine bE 3 #[.int .i64 a0, .int .i64 a1, .int .i64 a2, .int .i64 a3, .int .i64 a4, .int .i64 a5, .int .i64 a6, .int .i64 a7, .int .i64 a8, .bool a9, .int .i64 a10] 30 ?_; intro gb hg w1 hbox hb; have BK := Aside0.mk hbox; have HB1 := Aside0.mk hb; have hgs : Aside0 (gb = w.heap.size) := ⟨hg⟩; clear hb hbox hg)
    | ((with_reducible refine gate_dst (N := 12) rfl ?_); refine Kd.R_lit k71 _ 71 ?hg (N := 12) ?hd (xs := ([] : List (S71))) (inner := []) (ok := fun _ => True) (okp := fun _ => True) ?hr ?hp (fun _ hk => hk) trivial (Below.refl _ _) (Nat.le_refl _) (by simp) ?_; (case hd => rfl); (case hg => rfl); (case hr => first | (go_simp; done) | (go_simp; rfl)); (case hp => exact (Reps.none _ _)); intro v2 w2 ho2 hb hg_ hnew_; have BK2 := Aside0.mk (blk_below BK.out hb); have HB2 := Aside0.mk (below_then HB1.out HB1.out.size hb); have HO2 := Aside0.mk ho2; have hs2 : Aside0 (w.heap.size + 1 ≤ w1.heap.size) := ⟨by have := blk_lt BK.out; have := hgs.out; omega⟩; have HBw := Aside0.mk hb; clear hb ho2 hg_ hnew_)
    | (at_builtin; refine Kd.R_append_rows k71 (w0 := w1) w1.heap.size rfl (.tmp 12) (.tmp 13) 26 71 (.agg #[(.int .i64 0), (.int .i64 0)]) 16 rfl Try.underlying26 info71 rfl (by decide) (by omega) v2 [] l _ _ _ (fun _ => True) (fun _ => False) rfl rfl HO2.out (Kd.C_below HL.out HB2.out) (fun _ _ h => h) (fun _ h => h.elim) (fun _ _ => trivial) HBw.out HBw.out.size (by simp only [List.length_nil]; omega) ?_; intro v3 w3 ho3 hb hg hat; have HO3 := Aside0.mk (show Kd.R k71 71 w3 w1.heap.size (fun _ => True) v3 l from by simpa using ho3); have HBv := Aside0.mk hb; have HB3 := Aside0.mk (below_then HB1.out HB1.out.size hb); have BK3 := Aside0.mk (blk_below BK.out hb); have cb0 : w3.cell? ⟨gb, 0, none⟩ = some (.int .i64 a0) := CZ BK3.out 0; have cb1 : w3.cell? ⟨gb, 1, none⟩ = some (.int .i64 a1) := CZ BK3.out 1; have cb2 : w3.cell? ⟨gb, 2, none⟩ = some (.int .i64 a2) := CZ BK3.out 2; clear ho3 hb hg hat)
    | (go_at_call 50; refine (impl_parted.calls kq A c l a1 lb ls la w3 (Kd.C_below HL.out HB3.out) hlc HP.out).mono ?_; rintro e w4 ⟨q0, q1, q2, rfl, hr0, hr1, hr2, hb⟩; obtain ⟨Q0, n0, rfl, hn0, _⟩ := Kd.R_reads hr0; obtain ⟨Q1, n1, rfl, hn1, _⟩ := Kd.R_reads hr1; obtain ⟨Q2, n2, rfl, hn2, _⟩ := Kd.R_reads hr2; have HR0 := Aside0.mk hr0; have HR1 := Aside0.mk hr1; have HR2 := Aside0.mk hr2; have HB4 := Aside0.mk (below_then HB3.out HB3.out.size hb); have HBv4 := Aside0.mk (below_then HBv.out HBv.out.size hb); have BK4 := Aside0.mk (blk_below BK3.out hb); have HO4 := Aside0.mk (Kd.R_below HO3.out hb); have db0 : w4.cell? ⟨gb, 0, none⟩ = some (.int .i64 a0) := CZ BK4.out 0; have db1 : w4.cell? ⟨gb, 1, none⟩ = some (.int .i64 a1) := CZ BK4.out 1; have db2 : w4.cell? ⟨gb, 2, none⟩ = some (.int .i64 a2) := CZ BK4.out 2; clear hr0 hr1 hr2 hb cb0 cb1 cb2)
    | (go_at_call 51; refine (impl_DoTask.delete l _ a1 gb _ _ w4 HO4.out (blk_lt BK4.out) db1 (fun k hk => by have := Kd.R_base HO4.out k hk; have := hgs.out; have := blk_lt BK.out; omega)).mono ?_; rintro e w5 ⟨v5, rfl, hr5, hg5⟩; have HR5 := Aside0.mk hr5; have HG5 := Aside0.mk hg5; clear hr5 hg5))
  all_goals go_ret2
  all_goals exact ⟨_, rfl, Kd.R_lower HR5.out HB1.out.size, pw_below_grown HB4.out _ HB4.out.size HG5.out (fun k hk => by have := Kd.R_base HO4.out k hk; have := HB1.out.size; omega)⟩
set_option maxHeartbeats 8000000 in
set_option maxRecDepth 100000 in
theorem impl_DoTask.put (kq : Nat) (A : Option Addr) (c : Nat) (l lb ls la : List S71) (a0 a1 a2 a3 a4 a5 a6 a7 a8 : Int) (a9 : Bool) (a10 : Int) (w : World) (hl : Kd.C k71 w A l.length l) (hlc : l.length ≤ c) (hp : impl_parted.f kq l a1 = some (lb, ls, la)) (hn : l.length < 2000000) (h1 : a0 = 2) (hs : ls.length = 0) (hm : lb.length + la.length < 2000000) :
    Calls Try.prog 14 #[.slice A l.length c, .agg #[.int .i64 a0, .int .i64 a1, .int .i64 a2, .int .i64 a3, .int .i64 a4, .int .i64 a5, .int .i64 a6, .int .i64 a7, .int .i64 a8, .bool a9, .int .i64 a10]] w fun e w' => ∃ v, e = .returned (.tuple #[v, .int .i64 1]) ∧ Kd.R k71 71 w' w.heap.size (fun _ => True) v (lb ++ [⟨a1, a2⟩] ++ la) ∧ Below w.heap.size w w' := by
  have hu30 := Try.underlying30
  have hu71 := Try.underlying71
  have HL := Aside0.mk hl
  have HP := Aside0.mk hp
  have e1 : (a0 == 1) = false := by simp [h1]
  have e3 : (a0 == 3) = false := by simp [h1]
  have e2 : (a0 == 2) = true := by simp [h1]
  have d2 : ((ls.length : Int) == 0) = true := by simp [hs]
  have d3 : ¬ ((0 : Int) < (ls.length : Int)) := by omega
  clear h1
  clear hl hp
  go_enter Try.func14, Try.ntmps14
  go_wp2_with (first
    | ((with_reducible refine gate_dst (N := 3) rfl ?_); refine bE 3 #[.int .i64 a0, .int .i64 a1, .int .i64 a2, .int .i64 a3, .int .i64 a4, .int .i64 a5, .int .i64 a6, .int .i64 a7, .int .i64 a8, .bool a9, .int .i64 a10] 30 ?_; intro gb hg w1 hbox hb; have BK := Aside0.mk hbox; have HB1 := Aside0.mk hb; have hgs : Aside0 (gb = w.heap.size) := ⟨hg⟩; clear hb hbox hg)
    | ((with_reducible refine gate_dst (N := 12) rfl ?_); refine Kd.R_lit k71 _ 71 ?hg (N := 12) ?hd (xs := ([] : List (S71))) (inner := []) (ok := fun _ => True) (okp := fun _ => True) ?hr ?hp (fun _ hk => hk) trivial (Below.refl _ _) (Nat.le_refl _) (by simp) ?_; (case hd => rfl); (case hg => rfl); (case hr => first | (go_simp; done) | (go_simp; rfl)); (case hp => exact (Reps.none _ _)); intro v2 w2 ho2 hb hg_ hnew_; have BK2 := Aside0.mk (blk_below BK.out hb); have HB2 := Aside0.mk (below_then HB1.out HB1.out.size hb); have HO2 := Aside0.mk ho2; have hs2 : Aside0 (w.heap.size + 1 ≤ w1.heap.size) := ⟨by have := blk_lt BK.out; have := hgs.out; omega⟩; have HBw := Aside0.mk hb; clear hb ho2 hg_ hnew_)
    | (at_builtin; refine Kd.R_append_rows k71 (w0 := w1) w1.heap.size rfl (.tmp 12) (.tmp 13) 26 71 (.agg #[(.int .i64 0), (.int .i64 0)]) 16 rfl Try.underlying26 info71 rfl (by decide) (by omega) v2 [] l _ _ _ (fun _ => True) (fun _ => False) rfl rfl HO2.out (Kd.C_below HL.out HB2.out) (fun _ _ h => h) (fun _ h => h.elim) (fun _ _ => trivial) HBw.out HBw.out.size (by simp only [List.length_nil]; omega) ?_; intro v3 w3 ho3 hb hg hat; have HO3 := Aside0.mk (show Kd.R k71 71 w3 w1.heap.size (fun _ => True) v3 l from by simpa using ho3); have HBv := Aside0.mk hb; have HB3 := Aside0.mk (below_then HB1.out HB1.out.size hb); have BK3 := Aside0.mk (blk_below BK.out hb); have cb0 : w3.cell? ⟨gb, 0, none⟩ = some (.int .i64 a0) := CZ BK3.out 0; have cb1 : w3.cell? ⟨gb, 1, none⟩ = some (.int .i64 a1) := CZ BK3.out 1; have cb2 : w3.cell? ⟨gb, 2, none⟩ = some (.int .i64 a2) := CZ BK3.out 2; clear ho3 hb hg hat)
    | (go_at_call 50; refine (impl_parted.calls kq A c l a1 lb ls la w3 (Kd.C_below HL.out HB3.out) hlc HP.out).mono ?_; rintro e w4 ⟨q0, q1, q2, rfl, hr0, hr1, hr2, hb⟩; obtain ⟨Q0, n0, rfl, hn0, _⟩ := Kd.R_reads hr0; obtain ⟨Q1, n1, rfl, hn1, _⟩ := Kd.R_reads hr1; obtain ⟨Q2, n2, rfl, hn2, _⟩ := Kd.R_reads hr2; have HR0 := Aside0.mk hr0; have HR1 := Aside0.mk hr1; have HR2 := Aside0.mk hr2; have HB4 := Aside0.mk (below_then HB3.out HB3.out.size hb); have HBv4 := Aside0.mk (below_then HBv.out HBv.out.size hb); have BK4 := Aside0.mk (blk_below BK3.out hb); have HO4 := Aside0.mk (Kd.R_below HO3.out hb); have db0 : w4.cell? ⟨gb, 0, none⟩ = some (.int .i64 a0) := CZ BK4.out 0; have db1 : w4.cell? ⟨gb, 1, none⟩ = some (.int .i64 a1) := CZ BK4.out 1; have db2 : w4.cell? ⟨gb, 2, none⟩ = some (.int .i64 a2) := CZ BK4.out 2; clear hr0 hr1 hr2 hb cb0 cb1 cb2)
    | (go_at_call 53; refine (impl_DoTask.concat lb [⟨a1, a2⟩] la Q0 (some ⟨w4.heap.size, 0, none⟩) Q2 n0 1 n2 (w4.heap.size + 1) ((w4.alloc (.cells #[.int .i64 a1, .int .i64 a2] 71)).alloc (.cells #[.slice Q0 lb.length n0, .slice (some ⟨w4.heap.size, 0, none⟩) 1 1, .slice Q2 la.length n2] 26)) (Kd.C_alloc (Kd.C_alloc (Kd.R_reads' HR0.out).2.2 _) _) (impl_DoTask.one_C ((RowIs.new w4 71 _).below (below_alloc (Below.refl _ _) _))) (Kd.C_alloc (Kd.C_alloc (Kd.R_reads' HR2.out).2.2 _) _) (by simp only [List.length_singleton]; omega) (impl_DoTask.heap2 w4 _ _)).mono ?_; rintro e w5 ⟨v5, rfl, hr5, hb5⟩; have HR5 := Aside0.mk hr5; have HB5 := Aside0.mk (below_then HB4.out HB4.out.size (below_then (below_alloc (below_alloc (Below.refl _ _) _) _) (by simp; omega) hb5)); clear hr5 hb5))
  all_goals go_ret2
  all_goals exact ⟨_, rfl, Kd.R_lower HR5.out (by have := HB4.out.size; simp; omega), HB5.out⟩
set_option maxHeartbeats 8000000 in
set_option maxRecDepth 100000 in
theorem impl_DoTask.find (kq : Nat) (A : Option Addr) (c : Nat) (l lb ls la : List S71) (a0 a1 a2 a3 a4 a5 a6 a7 a8 : Int) (a9 : Bool) (a10 : Int) (w : World) (hl : Kd.C k71 w A l.length l) (hlc : l.length ≤ c) (hp : impl_parted.f kq l a1 = some (lb, ls, la)) (hn : l.length < 2000000) (h1 : a0 = 1) :
    Calls Try.prog 14 #[.slice A l.length c, .agg #[.int .i64 a0, .int .i64 a1, .int .i64 a2, .int .i64 a3, .int .i64 a4, .int .i64 a5, .int .i64 a6, .int .i64 a7, .int .i64 a8, .bool a9, .int .i64 a10]] w fun e w' => ∃ v, e = .returned (.tuple #[v, .int .i64 (impl_DoTask.fnd ls)]) ∧ Kd.R k71 71 w' w.heap.size (fun _ => True) v (l) ∧ Below w.heap.size w w' := by
  have hu30 := Try.underlying30
  have hu71 := Try.underlying71
  have HL := Aside0.mk hl
  have HP := Aside0.mk hp
  have e1 : (a0 == 1) = true := by simp [h1]
  have e2 : (a0 == 2) = false := by simp [h1]
  have e3 : (a0 == 3) = false := by simp [h1]
  clear h1
  clear hl hp
  go_enter Try.func14, Try.ntmps14
  go_wp2_with (first
    | ((with_reducible refine gate_dst (N := 3) rfl ?_); refine bE 3 #[.int .i64 a0, .int .i64 a1, .int .i64 a2, .int .i64 a3, .int .i64 a4, .int .i64 a5, .int .i64 a6, .int .i64 a7, .int .i64 a8, .bool a9, .int .i64 a10] 30 ?_; intro gb hg w1 hbox hb; have BK := Aside0.mk hbox; have HB1 := Aside0.mk hb; have hgs : Aside0 (gb = w.heap.size) := ⟨hg⟩; clear hb hbox hg)
    | ((with_reducible refine gate_dst (N := 12) rfl ?_); refine Kd.R_lit k71 _ 71 ?hg (N := 12) ?hd (xs := ([] : List (S71))) (inner := []) (ok := fun _ => True) (okp := fun _ => True) ?hr ?hp (fun _ hk => hk) trivial (Below.refl _ _) (Nat.le_refl _) (by simp) ?_; (case hd => rfl); (case hg => rfl); (case hr => first | (go_simp; done) | (go_simp; rfl)); (case hp => exact (Reps.none _ _)); intro v2 w2 ho2 hb hg_ hnew_; have BK2 := Aside0.mk (blk_below BK.out hb); have HB2 := Aside0.mk (below_then HB1.out HB1.out.size hb); have HO2 := Aside0.mk ho2; have hs2 : Aside0 (w.heap.size + 1 ≤ w1.heap.size) := ⟨by have := blk_lt BK.out; have := hgs.out; omega⟩; have HBw := Aside0.mk hb; clear hb ho2 hg_ hnew_)
    | (at_builtin; refine Kd.R_append_rows k71 (w0 := w1) w1.heap.size rfl (.tmp 12) (.tmp 13) 26 71 (.agg #[(.int .i64 0), (.int .i64 0)]) 16 rfl Try.underlying26 info71 rfl (by decide) (by omega) v2 [] l _ _ _ (fun _ => True) (fun _ => False) rfl rfl HO2.out (Kd.C_below HL.out HB2.out) (fun _ _ h => h) (fun _ h => h.elim) (fun _ _ => trivial) HBw.out HBw.out.size (by simp only [List.length_nil]; omega) ?_; intro v3 w3 ho3 hb hg hat; have HO3 := Aside0.mk (show Kd.R k71 71 w3 w1.heap.size (fun _ => True) v3 l from by simpa using ho3); have HBv := Aside0.mk hb; have HB3 := Aside0.mk (below_then HB1.out HB1.out.size hb); have BK3 := Aside0.mk (blk_below BK.out hb); have cb0 : w3.cell? ⟨gb, 0, none⟩ = some (.int .i64 a0) := CZ BK3.out 0; have cb1 : w3.cell? ⟨gb, 1, none⟩ = some (.int .i64 a1) := CZ BK3.out 1; have cb2 : w3.cell? ⟨gb, 2, none⟩ = some (.int .i64 a2) := CZ BK3.out 2; clear ho3 hb hg hat)
    | (go_at_call 50; refine (impl_parted.calls kq A c l a1 lb ls la w3 (Kd.C_below HL.out HB3.out) hlc HP.out).mono ?_; rintro e w4 ⟨q0, q1, q2, rfl, hr0, hr1, hr2, hb⟩; obtain ⟨Q0, n0, rfl, hn0, _⟩ := Kd.R_reads hr0; obtain ⟨Q1, n1, rfl, hn1, _⟩ := Kd.R_reads hr1; obtain ⟨Q2, n2, rfl, hn2, _⟩ := Kd.R_reads hr2; have HR0 := Aside0.mk hr0; have HR1 := Aside0.mk hr1; have HR2 := Aside0.mk hr2; have HB4 := Aside0.mk (below_then HB3.out HB3.out.size hb); have HBv4 := Aside0.mk (below_then HBv.out HBv.out.size hb); have BK4 := Aside0.mk (blk_below BK3.out hb); have HO4 := Aside0.mk (Kd.R_below HO3.out hb); have db0 : w4.cell? ⟨gb, 0, none⟩ = some (.int .i64 a0) := CZ BK4.out 0; have db1 : w4.cell? ⟨gb, 1, none⟩ = some (.int .i64 a1) := CZ BK4.out 1; have db2 : w4.cell? ⟨gb, 2, none⟩ = some (.int .i64 a2) := CZ BK4.out 2; clear hr0 hr1 hr2 hb cb0 cb1 cb2)
    )
  go_loopg [29, 11] ls.length (fun gg s29 _ wr => ∃ j : Nat, j ≤ ls.length ∧ ls.length - j ≤ gg ∧ s29 = .int .i64 j ∧ Aside0 (Below w4.heap.size w4 wr) ∧ Aside0 (impl_DoTask.fnd (ls.drop j) = impl_DoTask.fnd ls))
  case atStart => exact ⟨0, Nat.zero_le _, by omega, rfl, ⟨Below.refl _ _⟩, ⟨rfl⟩⟩
  case round =>
    obtain ⟨j, hj, hg, rfl, BW, FN⟩ := hrel
    have hmx := Kd.C_max (Kd.R_reads' HR1.out).2.2
    by_cases hlt : j < ls.length
    · have hltz : (j : Int) < (ls.length : Int) := by omega
      obtain ⟨ad, q1, x0, x1⟩ := at_T71 (Kd.C_below (Kd.R_reads' HR1.out).2.2 BW.out) (j : Int) (by omega) hltz
      cases q1
      simp only [Int.toNat_natCast] at x0 x1
      have FN' := FN.out
      rw [impl_DoTask.drop_rd ls j hlt, impl_DoTask.fnd] at FN'
      by_cases hq : wrap64 ((rd_T71 ls (j : Int)).f1 + 1) = 0
      · rw [if_pos hq] at FN'
        have HF := Aside0.mk FN'
        have q2 : (wrap64 ((rd_T71 ls (j : Int)).f1 + 1) == 0) = true := by rw [hq]; rfl
        have q3 : (wrap64 ((rd_T71 ls (j : Int)).f1 + 1) != 0) = false := by rw [hq]; rfl
        clear FN' hq FN
        go_wp2
        go_roundg (ls.length - (j + 1))
        case measure => omega
        case rel => exact ⟨j + 1, by omega, by omega, by go_num, ⟨below_then BW.out BW.out.size (below_alloc (Below.refl _ _) _)⟩, HF⟩
      · rw [if_neg hq] at FN'
        have HF := Aside0.mk FN'
        have q2 : (wrap64 ((rd_T71 ls (j : Int)).f1 + 1) == 0) = false := by simpa using hq
        have q3 : (wrap64 ((rd_T71 ls (j : Int)).f1 + 1) != 0) = true := by simpa using hq
        clear FN' hq FN
        go_wp2
        go_quiet (fail)
        go_wp2
        go_ret2
        exact ⟨_, by rw [← HF.out]; rfl, Kd.R_lower (Kd.R_drewN (Kd.R_alloc (Kd.R_below HO4.out BW.out) _) _) HB1.out.size, pw_below_drewN (below_then HB4.out HB4.out.size (below_then BW.out BW.out.size (below_alloc (Below.refl _ _) _))) _⟩
    · have hltz : ¬ (j : Int) < (ls.length : Int) := by omega
      have FN' := FN.out
      rw [List.drop_eq_nil_of_le (by omega), impl_DoTask.fnd] at FN'
      have HF := Aside0.mk FN'
      clear FN' FN
      have eb0 := pw_cell_below BW.out db0
      have eb1 := pw_cell_below BW.out db1
      go_wp2
      go_ret2
      exact ⟨_, by rw [← HF.out]; rfl, Kd.R_lower (Kd.R_below HO4.out BW.out) HB1.out.size, below_then HB4.out HB4.out.size BW.out⟩
theorem impl_DoTask.mono : ∀ l0 a1_0 a1_1 a1_2 a1_3 a1_4 a1_5 a1_6 a1_7 a1_8 a1_9 a1_10 k, LeO (impl_DoTask.f k l0 a1_0 a1_1 a1_2 a1_3 a1_4 a1_5 a1_6 a1_7 a1_8 a1_9 a1_10) (impl_DoTask.f (k + 1) l0 a1_0 a1_1 a1_2 a1_3 a1_4 a1_5 a1_6 a1_7 a1_8 a1_9 a1_10) := by
  intro l0 a1_0 a1_1 a1_2 a1_3 a1_4 a1_5 a1_6 a1_7 a1_8 a1_9 a1_10 k
  unfold impl_DoTask.f
  exact LeO.bind (impl_parted.mono _ _ _) (fun _ => LeO.refl _)
theorem impl_DoTask.calls (k : Nat) (A0 : Option Addr) (c0 : Nat) (l0 : List S71) (a1_0 : Int) (a1_1 : Int) (a1_2 : Int) (a1_3 : Int) (a1_4 : Int) (a1_5 : Int) (a1_6 : Int) (a1_7 : Int) (a1_8 : Int) (a1_9 : Bool) (a1_10 : Int) (r1 : List S71) (r2 : Int) (w : World) (hr0 : Kd.C k71 w A0 l0.length l0) (hc0 : l0.length ≤ c0) (h : impl_DoTask.f k l0 a1_0 a1_1 a1_2 a1_3 a1_4 a1_5 a1_6 a1_7 a1_8 a1_9 a1_10 = some (r1, r2)) :
    Calls Try.prog 14 #[.slice A0 l0.length c0, .agg #[.int .i64 a1_0, .int .i64 a1_1, .int .i64 a1_2, .int .i64 a1_3, .int .i64 a1_4, .int .i64 a1_5, .int .i64 a1_6, .int .i64 a1_7, .int .i64 a1_8, .bool a1_9, .int .i64 a1_10]] w fun e w' => ∃ v0_ : Value, e = .returned (.tuple #[v0_, .int .i64 r2]) ∧ Kd.R k71 71 w' w.heap.size (fun _ => True) v0_ r1 ∧ Below w.heap.size w w' := by
  obtain ⟨⟨lb, ls, la⟩, hp, h2⟩ := Option.bind_eq_some_iff.1 h
  simp only at h2
  by_cases hn : l0.length < 2000000 ∧ lb.length + la.length < 2000000
  · rw [if_pos hn] at h2
    by_cases h1 : a1_0 = 1
    · rw [if_pos h1] at h2
      obtain ⟨rfl, rfl⟩ := Prod.mk.inj (Option.some.inj h2)
      exact impl_DoTask.find k A0 c0 l0 lb ls la a1_0 a1_1 a1_2 a1_3 a1_4 a1_5 a1_6 a1_7 a1_8 a1_9 a1_10 w hr0 hc0 hp hn.1 h1
    · rw [if_neg h1] at h2
      by_cases h3 : a1_0 = 3 ∧ 0 < ls.length
      · rw [if_pos h3] at h2
        obtain ⟨rfl, rfl⟩ := Prod.mk.inj (Option.some.inj h2)
        exact impl_DoTask.take k A0 c0 l0 lb ls la a1_0 a1_1 a1_2 a1_3 a1_4 a1_5 a1_6 a1_7 a1_8 a1_9 a1_10 w hr0 hc0 hp hn.1 h3.1 h3.2
      · rw [if_neg h3] at h2
        by_cases h4 : a1_0 = 2 ∧ ls.length = 0
        · rw [if_pos h4] at h2
          obtain ⟨rfl, rfl⟩ := Prod.mk.inj (Option.some.inj h2)
          exact impl_DoTask.put k A0 c0 l0 lb ls la a1_0 a1_1 a1_2 a1_3 a1_4 a1_5 a1_6 a1_7 a1_8 a1_9 a1_10 w hr0 hc0 hp hn.1 h4.1 h4.2 hn.2
        · rw [if_neg h4] at h2
          obtain ⟨rfl, rfl⟩ := Prod.mk.inj (Option.some.inj h2)
          exact impl_DoTask.other k A0 c0 l0 lb ls la a1_0 a1_1 a1_2 a1_3 a1_4 a1_5 a1_6 a1_7 a1_8 a1_9 a1_10 w hr0 hc0 hp hn.1 h1 h3 h4
  · rw [if_neg hn] at h2
    cases h2
end

/-! ### impl_mayBeNext: function 81 -/
def impl_mayBeNext.l0 : Nat → List (S67) → Int → List Int → Int → Int → Option (Bool)
 | 0, _, _, _, _, _ => none
 | k + 1, x0, x2, x9, x10, x11 => if x11 < x10 then (if 0 ≤ x11 then (if x11 < (x9.length : Int) then (if (rd x9 x11) = x2 then (impl_mayBeNext.l0 k x0 x2 x9 x10 (wrap64 (x11 + 1))) else (if 0 ≤ (rd x9 x11) then (if (rd x9 x11) < (x0.length : Int) then (if 0 ≤ x2 then (if x2 < (x0.length : Int) then (if ((rd_T67 x0 (rd x9 x11)).f2) < ((rd_T67 x0 x2).f1) then (some false) else (impl_mayBeNext.l0 k x0 x2 x9 x10 (wrap64 (x11 + 1)))) else (none)) else (none)) else (none)) else (none))) else (none)) else (none)) else (some true)
def impl_mayBeNext.f (k : Nat) (l0 : List (S67)) (l1 : List Int) (a2 : Int) : Option (Bool) := impl_mayBeNext.l0 k l0 a2 l1 (l1.length : Int) 0
theorem impl_mayBeNext.mono_l : ∀ k, (∀ y0 y1 y2 y3 y4, LeO (impl_mayBeNext.l0 k y0 y1 y2 y3 y4) (impl_mayBeNext.l0 (k + 1) y0 y1 y2 y3 y4))
 | 0 => fun _ _ _ _ _ r h => by simp [impl_mayBeNext.l0] at h
 | k + 1 => by
  have ih0 := impl_mayBeNext.mono_l k
  ·
   intro y0 y1 y2 y3 y4
   unfold impl_mayBeNext.l0
   repeat' first
   | (with_reducible exact ih0 _ _ _ _ _)
   | (with_reducible exact LeO.refl _)
   | (with_reducible exact LeO.none _)
   | (with_reducible refine LeO.ite ?_ ?_)
   | (with_reducible refine LeO.bind ?_ (fun _ => ?_))
   | exact ih0 _ _ _ _ _
   | exact LeO.none _
   | refine LeO.ite ?_ ?_
   | refine LeO.bind ?_ (fun _ => ?_)
theorem impl_mayBeNext.mono : ∀ a0 a1 a2 k, LeO (impl_mayBeNext.f k a0 a1 a2) (impl_mayBeNext.f (k + 1) a0 a1 a2) := by
 intro a0 a1 a2 k
 have ih0 := impl_mayBeNext.mono_l k
 unfold impl_mayBeNext.f
 repeat' first
   | (with_reducible exact ih0 _ _ _ _ _)
   | (with_reducible exact LeO.refl _)
   | (with_reducible exact LeO.none _)
   | (with_reducible refine LeO.ite ?_ ?_)
   | (with_reducible refine LeO.bind ?_ (fun _ => ?_))
   | exact ih0 _ _ _ _ _
   | exact LeO.none _
   | refine LeO.ite ?_ ?_
   | refine LeO.bind ?_ (fun _ => ?_)
set_option maxHeartbeats 8000000 in
set_option maxRecDepth 100000 in
theorem impl_mayBeNext.calls (k : Nat) (A0 : Option Addr) (c0 : Nat) (l0 : List (S67)) (A1 : Option Addr) (c1 : Nat) (l1 : List Int) (a2 : Int) (r : Bool) (w : World) (hr0 : Kd.C k67 w A0 l0.length l0) (hc0 : l0.length ≤ c0) (hr1 : Kd.C (Kd.int .i64) w A1 l1.length l1) (hc1 : l1.length ≤ c1) (h : impl_mayBeNext.f k l0 l1 a2 = some r) :
  Calls Try.prog 81 #[.slice A0 l0.length c0, .slice A1 l1.length c1, .int .i64 a2] w fun e w' => e = .returned (.bool r) ∧ Drawn0 w w' := by
 have HR0 := Aside0.mk hr0
 have HC0 := Aside0.mk hc0
 clear hr0 hc0
 have HR1 := Aside0.mk hr1
 have HC1 := Aside0.mk hc1
 clear hr1 hc1
 have H : (impl_mayBeNext.l0 k l0 a2 l1 (l1.length : Int) 0) = some r := h
 clear h
 have H' := Aside0.mk H
 clear H
 go_enter Try.func81, Try.ntmps81
 go_wp2
 repeat (go_quiet (fail); try go_wp2)
 go_loopg [11] k (fun kq v11 w' => ∃ (x11_1 : Int), v11 = .int .i64 x11_1 ∧ Aside0 (impl_mayBeNext.l0 kq l0 a2 l1 (l1.length : Int) x11_1 = some r) ∧ Aside0 (kq ≤ k) ∧ Drawn0 w w')
 case atStart => exact ⟨(0), SD, H', ⟨Nat.le_refl _⟩, by repeat (first | exact Drawn0.refl _ | apply Drawn0.step)⟩
 case round =>
  clear H'
  try clear c1 p2
  obtain ⟨x11_1, rfl, HA, HK1, ⟨m1, rfl⟩⟩ := hrel; cases gk with
  | zero => exact absurd HA.out (by simp [impl_mayBeNext.l0])
  | succ k1 =>
   have H := HA.out; clear HA; simp only [impl_mayBeNext.l0] at H
   by_cases c4 : x11_1 < (l1.length : Int); rotate_left
   ·
    rw [if_neg c4] at H; have c4b0 : decide (x11_1 < (l1.length : Int)) = false := decide_eq_false c4; clear c4; obtain rfl := Option.some.inj H
    go_wp2
    repeat (go_quiet (fail); try go_wp2)
    go_ret
    exact ⟨by first | rfl | (simp; done) | (simp [*]; done), by repeat (first | exact Drawn0.refl _ | apply Drawn0.step)⟩
   rw [if_pos c4] at H; have c4b0 : decide (x11_1 < (l1.length : Int)) = true := decide_eq_true c4; clear c4
   by_cases c5 : 0 ≤ x11_1; rotate_left
   ·
    rw [if_neg c5] at H; exact absurd H (by simp)
   rw [if_pos c5] at H; have c5b0 : decide (0 ≤ x11_1) = true := decide_eq_true c5; clear c5
   by_cases c6 : x11_1 < (l1.length : Int); rotate_left
   ·
    rw [if_neg c6] at H; exact absurd H (by simp)
   rw [if_pos c6] at H; have c6b0 : decide (x11_1 < (l1.length : Int)) = true := decide_eq_true c6; clear c6
   by_cases c7 : (rd l1 x11_1) = a2
   ·
    rw [if_pos c7] at H; have c7b0 : ((rd l1 x11_1) == a2) = true := beq_iff_eq.mpr c7; have c7b1 : ((rd l1 x11_1) != a2) = false := bne_eq_false_iff_eq.mpr c7; clear c7; have H' := Aside0.mk H; clear H; have p216 : 0 ≤ (x11_1 : Int) := of_decide_eq_true AS; have q216 : x11_1 < (l1.length : Int) := of_decide_eq_true AS; obtain ⟨ad216, e216, hx216_0⟩ := Kd.at_int HR1.out x11_1 p216 q216; cases e216; replace p216 := eq_true p216; replace q216 := eq_true q216
    go_wp2
    repeat (go_quiet (fail); try go_wp2)
    go_roundg k1
    case measure => have := HK1.out; omega
    case rel => exact ⟨(wrap64 (x11_1 + 1)), SD, H', ⟨by have := HK1.out; omega⟩, by repeat (first | exact Drawn0.refl _ | apply Drawn0.step)⟩
   rw [if_neg c7] at H; have c7b0 : ((rd l1 x11_1) == a2) = false := beq_eq_false_iff_ne.mpr c7; have c7b1 : ((rd l1 x11_1) != a2) = true := bne_iff_ne.mpr c7
   by_cases c8 : 0 ≤ (rd l1 x11_1); rotate_left
   ·
    rw [if_neg c8] at H; exact absurd H (by simp)
   rw [if_pos c8] at H; have c8b0 : decide (0 ≤ (rd l1 x11_1)) = true := decide_eq_true c8; clear c8
   by_cases c9 : (rd l1 x11_1) < (l0.length : Int); rotate_left
   ·
    rw [if_neg c9] at H; exact absurd H (by simp)
   rw [if_pos c9] at H; have c9b0 : decide ((rd l1 x11_1) < (l0.length : Int)) = true := decide_eq_true c9; clear c9
   by_cases c10 : 0 ≤ a2; rotate_left
   ·
    rw [if_neg c10] at H; exact absurd H (by simp)
   rw [if_pos c10] at H; have c10b0 : decide (0 ≤ a2) = true := decide_eq_true c10; clear c10
   by_cases c11 : a2 < (l0.length : Int); rotate_left
   ·
    rw [if_neg c11] at H; exact absurd H (by simp)
   rw [if_pos c11] at H; have c11b0 : decide (a2 < (l0.length : Int)) = true := decide_eq_true c11; clear c11
   by_cases c12 : ((rd_T67 l0 (rd l1 x11_1)).f2) < ((rd_T67 l0 a2).f1)
   ·
    rw [if_pos c12] at H; have c12b0 : decide (((rd_T67 l0 (rd l1 x11_1)).f2) < ((rd_T67 l0 a2).f1)) = true := decide_eq_true c12; clear c12; obtain rfl := Option.some.inj H; have p216 : 0 ≤ (x11_1 : Int) := of_decide_eq_true AS; have q216 : x11_1 < (l1.length : Int) := of_decide_eq_true AS; obtain ⟨ad216, e216, hx216_0⟩ := Kd.at_int HR1.out x11_1 p216 q216; cases e216; replace p216 := eq_true p216; replace q216 := eq_true q216; have p217 : 0 ≤ ((rd l1 x11_1) : Int) := of_decide_eq_true AS; have q217 : (rd l1 x11_1) < (l0.length : Int) := of_decide_eq_true AS; obtain ⟨ad217, e217, hx217_0, hx217_1, hx217_2, hx217_3, hx217_4, hx217_5, hx217_6, hx217_7, hx217_8, hx217_9, hx217_10, hx217_11, hx217_12⟩ := at_T67 HR0.out (rd l1 x11_1) p217 q217; cases e217; replace p217 := eq_true p217; replace q217 := eq_true q217; have p218 : 0 ≤ (a2 : Int) := of_decide_eq_true AS; have q218 : a2 < (l0.length : Int) := of_decide_eq_true AS; obtain ⟨ad218, e218, hx218_0, hx218_1, hx218_2, hx218_3, hx218_4, hx218_5, hx218_6, hx218_7, hx218_8, hx218_9, hx218_10, hx218_11, hx218_12⟩ := at_T67 HR0.out a2 p218 q218; obtain rfl : ad217 = ad218 := (by injection e218); replace p218 := eq_true p218; replace q218 := eq_true q218
    go_wp2
    repeat (go_quiet (fail); try go_wp2)
    go_ret
    exact ⟨by first | rfl | (simp; done) | (simp [*]; done), by repeat (first | exact Drawn0.refl _ | apply Drawn0.step)⟩
   rw [if_neg c12] at H; have c12b0 : decide (((rd_T67 l0 (rd l1 x11_1)).f2) < ((rd_T67 l0 a2).f1)) = false := decide_eq_false c12; clear c12; have H' := Aside0.mk H; clear H; have p216 : 0 ≤ (x11_1 : Int) := of_decide_eq_true AS; have q216 : x11_1 < (l1.length : Int) := of_decide_eq_true AS; obtain ⟨ad216, e216, hx216_0⟩ := Kd.at_int HR1.out x11_1 p216 q216; cases e216; replace p216 := eq_true p216; replace q216 := eq_true q216; have p217 : 0 ≤ ((rd l1 x11_1) : Int) := of_decide_eq_true AS; have q217 : (rd l1 x11_1) < (l0.length : Int) := of_decide_eq_true AS; obtain ⟨ad217, e217, hx217_0, hx217_1, hx217_2, hx217_3, hx217_4, hx217_5, hx217_6, hx217_7, hx217_8, hx217_9, hx217_10, hx217_11, hx217_12⟩ := at_T67 HR0.out (rd l1 x11_1) p217 q217; cases e217; replace p217 := eq_true p217; replace q217 := eq_true q217; have p218 : 0 ≤ (a2 : Int) := of_decide_eq_true AS; have q218 : a2 < (l0.length : Int) := of_decide_eq_true AS; obtain ⟨ad218, e218, hx218_0, hx218_1, hx218_2, hx218_3, hx218_4, hx218_5, hx218_6, hx218_7, hx218_8, hx218_9, hx218_10, hx218_11, hx218_12⟩ := at_T67 HR0.out a2 p218 q218; obtain rfl : ad217 = ad218 := (by injection e218); replace p218 := eq_true p218; replace q218 := eq_true q218
   go_wp2
   repeat (go_quiet (fail); try go_wp2)
   go_roundg k1
   case measure => have := HK1.out; omega
   case rel => exact ⟨(wrap64 (x11_1 + 1)), SD, H', ⟨by have := HK1.out; omega⟩, by repeat (first | exact Drawn0.refl _ | apply Drawn0.step)⟩

end Go.Proofs.Ytfkhncoiifojnaa.Qso
