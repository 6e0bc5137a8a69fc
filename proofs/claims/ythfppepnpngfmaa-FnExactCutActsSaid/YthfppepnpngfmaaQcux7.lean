-- Laid by myprint.py, a program of this session's own, over the kit's print. Not trusted: Lean checks it.
import Derived.Test.YthfppepnpngfmaaQcux0
import Derived.Test.YthfppepnpngfmaaQcux6
namespace Go.Proofs.Ythfppepnpngfmaa.Qcu
open Go.RowKit Go.Proofs.YthfppepnpngfmaaW.PrintWords Go.Proofs.YthfppepnpngfmaaW.PrintLast Go.Proofs.YthfppepnpngfmaaW.PrintMore
attribute [local go_sem] Go.Proofs.Ythfppepnpngfmaa.StrCmp.gtr_less Go.Proofs.Ythfppepnpngfmaa.StrCmp.geq_less Go.Proofs.Ythfppepnpngfmaa.StrCmp.leq_less max2_int min2_int max_two min_two max_three min_three max_four min_four   -- for this text's walks alone
set_option linter.unusedVariables false
set_option linter.unusedSimpArgs false

/-! ### spec_LoseDisk: function 28 -/
mutual
def spec_LoseDisk.l0 : Nat → List Int → Int → List (S45) → List (S45) → Option ((List (S45)) × Bool)
 | 0, _, _, _, _ => none
 | k + 1, x1, x7, x281000, x284000 => if x7 < (x281000.length : Int) then (if 0 ≤ x7 then (if x7 < (x1.length : Int) then (spec_LoseDisk.j1 k x1 x7 (rd x1 x7) x281000 x284000 ((rd_T45 x281000 x7).f0) ((rd_T45 x281000 x7).f1) ((rd_T45 x281000 x7).f2)) else (spec_LoseDisk.j1 k x1 x7 0 x281000 x284000 ((rd_T45 x281000 x7).f0) ((rd_T45 x281000 x7).f1) ((rd_T45 x281000 x7).f2))) else (none)) else (some (x284000, true))
def spec_LoseDisk.j1 : Nat → List Int → Int → Int → List (S45) → List (S45) → ByteArray → ByteArray → Int → Option ((List (S45)) × Bool)
 | 0, _, _, _, _, _, _, _, _ => none
 | k + 1, x1, x7, x9, x281000, x284000, x286000, x286001, x286002 => if x9 > (x286001.size : Int) then (if (x286001.size : Int) < x286002 then (if 0 ≤ x286002 then (if x286002 ≤ (x286001.size : Int) then (if x284000.length < 3518437208883 then (spec_LoseDisk.l0 k x1 (wrap64 (x7 + 1)) x281000 (x284000 ++ [(⟨x286000, x286001.extract 0 (x286002 : Int).toNat, x286002⟩ : S45)])) else (none)) else (none)) else (none)) else (if 0 ≤ (x286001.size : Int) then (if (x286001.size : Int) ≤ (x286001.size : Int) then (if x284000.length < 3518437208883 then (spec_LoseDisk.l0 k x1 (wrap64 (x7 + 1)) x281000 (x284000 ++ [(⟨x286000, x286001.extract 0 ((x286001.size : Int) : Int).toNat, (x286001.size : Int)⟩ : S45)])) else (none)) else (none)) else (none))) else (if x9 < x286002 then (if 0 ≤ x286002 then (if x286002 ≤ (x286001.size : Int) then (if x284000.length < 3518437208883 then (spec_LoseDisk.l0 k x1 (wrap64 (x7 + 1)) x281000 (x284000 ++ [(⟨x286000, x286001.extract 0 (x286002 : Int).toNat, x286002⟩ : S45)])) else (none)) else (none)) else (none)) else (if 0 ≤ x9 then (if x9 ≤ (x286001.size : Int) then (if x284000.length < 3518437208883 then (spec_LoseDisk.l0 k x1 (wrap64 (x7 + 1)) x281000 (x284000 ++ [(⟨x286000, x286001.extract 0 (x9 : Int).toNat, x9⟩ : S45)])) else (none)) else (none)) else (none)))
end
def spec_LoseDisk.f (k : Nat) (l0_0 : List (S45)) (l1 : List Int) : Option ((List (S45)) × Bool) := (spec_DiskOk.f k l0_0).bind fun t282 => (if t282 = true then (spec_LoseDisk.l0 k l1 0 l0_0 ([] : List (S45))) else (some (([] : List (S45)), false)))
theorem spec_LoseDisk.mono_l : ∀ k, (∀ y0 y1 y2 y3, LeO (spec_LoseDisk.l0 k y0 y1 y2 y3) (spec_LoseDisk.l0 (k + 1) y0 y1 y2 y3)) ∧ (∀ y0 y1 y2 y3 y4 y5 y6 y7, LeO (spec_LoseDisk.j1 k y0 y1 y2 y3 y4 y5 y6 y7) (spec_LoseDisk.j1 (k + 1) y0 y1 y2 y3 y4 y5 y6 y7))
 | 0 => ⟨fun _ _ _ _ r h => by simp [spec_LoseDisk.l0] at h, fun _ _ _ _ _ _ _ _ r h => by simp [spec_LoseDisk.j1] at h⟩
 | k + 1 => by
  obtain ⟨ih0, ih1⟩ := spec_LoseDisk.mono_l k; refine ⟨?_, ?_⟩
  ·
   intro y0 y1 y2 y3
   unfold spec_LoseDisk.l0
   repeat' first
   | (with_reducible exact ih0 _ _ _ _)
   | (with_reducible exact ih1 _ _ _ _ _ _ _ _)
   | (with_reducible exact spec_DiskOk.mono _ _)
   | (with_reducible exact LeO.refl _)
   | (with_reducible exact LeO.none _)
   | (with_reducible refine LeO.ite ?_ ?_)
   | (with_reducible refine LeO.bind ?_ (fun _ => ?_))
   | exact ih0 _ _ _ _
   | exact ih1 _ _ _ _ _ _ _ _
   | exact spec_DiskOk.mono _ _
   | exact LeO.none _
   | refine LeO.ite ?_ ?_
   | refine LeO.bind ?_ (fun _ => ?_)
  ·
   intro y0 y1 y2 y3 y4 y5 y6 y7
   unfold spec_LoseDisk.j1
   repeat' first
   | (with_reducible exact ih0 _ _ _ _)
   | (with_reducible exact ih1 _ _ _ _ _ _ _ _)
   | (with_reducible exact spec_DiskOk.mono _ _)
   | (with_reducible exact LeO.refl _)
   | (with_reducible exact LeO.none _)
   | (with_reducible refine LeO.ite ?_ ?_)
   | (with_reducible refine LeO.bind ?_ (fun _ => ?_))
   | exact ih0 _ _ _ _
   | exact ih1 _ _ _ _ _ _ _ _
   | exact spec_DiskOk.mono _ _
   | exact LeO.none _
   | refine LeO.ite ?_ ?_
   | refine LeO.bind ?_ (fun _ => ?_)
theorem spec_LoseDisk.mono : ∀ a0 a1 k, LeO (spec_LoseDisk.f k a0 a1) (spec_LoseDisk.f (k + 1) a0 a1) := by
 intro a0 a1 k
 obtain ⟨ih0, ih1⟩ := spec_LoseDisk.mono_l k
 unfold spec_LoseDisk.f
 repeat' first
   | (with_reducible exact ih0 _ _ _ _)
   | (with_reducible exact ih1 _ _ _ _ _ _ _ _)
   | (with_reducible exact spec_DiskOk.mono _ _)
   | (with_reducible exact LeO.refl _)
   | (with_reducible exact LeO.none _)
   | (with_reducible refine LeO.ite ?_ ?_)
   | (with_reducible refine LeO.bind ?_ (fun _ => ?_))
   | exact ih0 _ _ _ _
   | exact ih1 _ _ _ _ _ _ _ _
   | exact spec_DiskOk.mono _ _
   | exact LeO.none _
   | refine LeO.ite ?_ ?_
   | refine LeO.bind ?_ (fun _ => ?_)
def spec_LoseDisk.T15 : Bool × List (List Nat × List Nat) := (true, [([], []), ([0], [0]), ([], []), ([2], [2]), ([], []), ([4], [4]), ([], []), ([5, 6], [5, 6]), ([], []), ([3, 7, 8], [3, 7, 8]), ([9], [9]), ([1, 10], [1, 10]), ([0, 1, 2, 3, 4, 5, 6, 7, 8, 9, 10, 11], []), ([12, 11, 11, 0, 1, 2, 3, 4, 5, 6, 7, 8, 9, 10, 11], [11, 12])])
def spec_LoseDisk.B15 : List Nat := [0, 1, 0, 4, 0, 16, 0, 112, 0, 508, 1020, 2047, 4095, 8191]
theorem spec_LoseDisk.tab15 : rtab .any (opsOf Try.f28 15) = spec_LoseDisk.T15 := by kernel_rfl
theorem spec_LoseDisk.bits15 : waitsOk spec_LoseDisk.T15.2 spec_LoseDisk.B15 = true := by kernel_rfl
set_option maxHeartbeats 8000000 in
set_option maxRecDepth 100000 in
theorem spec_LoseDisk.calls (k : Nat) (A0_0 : Option Addr) (c0_0 : Nat) (l0_0 : List (S45)) (A1 : Option Addr) (c1 : Nat) (l1 : List Int) (r1 : List (S45)) (r2 : Bool) (w : World) (hr0_0 : Kd.C k45 w A0_0 l0_0.length l0_0) (hc0_0 : l0_0.length ≤ c0_0) (hr1 : Kd.C (Kd.int .i64) w A1 l1.length l1) (hc1 : l1.length ≤ c1) (h : spec_LoseDisk.f k l0_0 l1 = some (r1, r2)) :
  Calls Try.prog 28 #[.agg #[.slice A0_0 l0_0.length c0_0], .slice A1 l1.length c1] w fun e w' => ∃ v0_ : Value, e = .returned (.tuple #[.agg #[v0_], .bool r2]) ∧ Kd.R k45 45 w' w.heap.size (fun _ => True) v0_ r1 ∧ Below w.heap.size w w' := by
 have hu29 := Try.underlying29
 have hu45 := Try.underlying45
 have HR0_0 := Aside0.mk hr0_0
 have HC0_0 := Aside0.mk hc0_0
 clear hr0_0 hc0_0
 have HR1 := Aside0.mk hr1
 have HC1 := Aside0.mk hc1
 clear hr1 hc1
 have HB := Aside0.mk (Below.refl w.heap.size w)
 have H : ((spec_DiskOk.f k l0_0).bind fun t282 => (if t282 = true then (spec_LoseDisk.l0 k l1 0 l0_0 ([] : List (S45))) else (some (([] : List (S45)), false)))) = some (r1, r2) := h
 clear h
 replace H := Option.bind_eq_some_iff.mp H
 obtain ⟨t282, A30, H⟩ := H
 have A3 := Aside0.mk A30
 clear A30
 by_cases c4 : t282 = true; rotate_left
 ·
  replace c4 := Bool.eq_false_iff.mpr c4; subst c4
  have H1 : (some (([] : List (S45)), false)) = some (r1, r2) := by rw [if_neg (show ¬ (false = true) by decide)] at H; exact H
  clear H; have H := H1; clear H1; simp only [Option.some.injEq, Prod.mk.injEq] at H; obtain ⟨rfl, rfl⟩ := H
  go_enter Try.func28, Try.ntmps28
  go_wp2_with (first | ((with_reducible refine gate_dst (N := 2) rfl ?_); refine bE 2 #[.slice A0_0 l0_0.length c0_0] 29 ?_; intro gb280 hg w80 hbox hb; have BK280 := Aside0.mk (hbox); have GW280 : Aside0 (w.heap.size ≤ gb280) := GS; have GE280 := GW280; replace HB := Aside0.mk (below_step (BL) hb); clear hb hbox hg) | ((with_reducible refine gate_dst (N := 4) rfl ?_); refine bE 4 #[.slice none 0 0] 29 ?_; intro gb281 hg w81 hbox hb; have BK281 := Aside0.mk (hbox); have GW281 : Aside0 (w.heap.size ≤ gb281) := GS; have GE281 := GW281; have NB280_281 := NL BK280.out hg; have NB281_280 := NG BK280.out hg; replace BK280 := BB BK280.out hb; replace HB := Aside0.mk (below_step (BL) hb); clear hb hbox hg; have hnb82 := NB280_281.out; have hnc82 := NB281_280.out; have hcz83_0 : w81.cell? ⟨gb280, 0, none⟩ = some (.slice A0_0 l0_0.length c0_0) := CZ BK280.out 0; have hfz83_0 := blk_frozen BK280.out 0) | ((with_reducible refine gate_callee (f := 13) rfl ?_); refine goesL_ (some 11) rfl rfl Try.func13 (by kernel_rfl) rfl #[.agg #[.slice A0_0 l0_0.length c0_0]] rfl (MA) ?_; (with_reducible refine (spec_DiskOk.calls k _ _ l0_0 false _ ?side1 ?side2 A3.out).mono ?_); (case side1 => exact CB HR0_0.out); (case side2 => exact HC0_0.out); rintro e w84 ⟨rfl, hb⟩; refine ⟨_, rfl, ?_⟩; replace BK280 := BB BK280.out hb; replace BK281 := BB BK281.out hb; replace HB := Aside0.mk (below_step (BL) hb); (try clear hb); (try clear hb2); (try clear hk); (try clear hi); have hcz85_0 : w84.cell? ⟨gb281, 0, none⟩ = some (.slice none 0 0) := CZ BK281.out 0; have hfz85_0 := blk_frozen BK281.out 0))
  refine bodyPost_ret (results_ct rfl _ _ gb281 29 #[.slice none 0 0] (0, 0) _ rfl (BU BK281.out) Try.underlying29 rfl (by kernel_rfl)) rfl ?_; exact ⟨_, EE, by first | exact Kd.R_nil _ _ _ _ _ | exact Kd.N_nil _ _ _ _ _ | exact Kd.V_nil _ _ _ _ _ | exact Kd.Q_nil _ _ _ _ _ | exact Kd.S_nil _ _ _ _ _, BL⟩
 subst c4
 have H1 : (spec_LoseDisk.l0 k l1 0 l0_0 ([] : List (S45))) = some (r1, r2) := by rw [if_pos rfl] at H; exact H
 clear H
 have H := H1
 clear H1
 have H' := Aside0.mk H
 clear H
 go_enter Try.func28, Try.ntmps28
 go_wp2_with (first | ((with_reducible refine gate_dst (N := 2) rfl ?_); refine bE 2 #[.slice A0_0 l0_0.length c0_0] 29 ?_; intro gb280 hg w5 hbox hb; have BK280 := Aside0.mk (hbox); have GW280 : Aside0 (w.heap.size ≤ gb280) := GS; have GE280 := GW280; replace HB := Aside0.mk (below_step (BL) hb); clear hb hbox hg) | ((with_reducible refine gate_dst (N := 4) rfl ?_); refine bE 4 #[.slice none 0 0] 29 ?_; intro gb281 hg w6 hbox hb; have BK281 := Aside0.mk (hbox); have GW281 : Aside0 (w.heap.size ≤ gb281) := GS; have GE281 := GW281; have NB280_281 := NL BK280.out hg; have NB281_280 := NG BK280.out hg; replace BK280 := BB BK280.out hb; replace HB := Aside0.mk (below_step (BL) hb); clear hb hbox hg; have hnb7 := NB280_281.out; have hnc7 := NB281_280.out; have hcz8_0 : w6.cell? ⟨gb280, 0, none⟩ = some (.slice A0_0 l0_0.length c0_0) := CZ BK280.out 0; have hfz8_0 := blk_frozen BK280.out 0) | ((with_reducible refine gate_callee (f := 13) rfl ?_); refine goesL_ (some 11) rfl rfl Try.func13 (by kernel_rfl) rfl #[.agg #[.slice A0_0 l0_0.length c0_0]] rfl (MA) ?_; (with_reducible refine (spec_DiskOk.calls k _ _ l0_0 true _ ?side1 ?side2 A3.out).mono ?_); (case side1 => exact CB HR0_0.out); (case side2 => exact HC0_0.out); rintro e w9 ⟨rfl, hb⟩; refine ⟨_, rfl, ?_⟩; replace BK280 := BB BK280.out hb; replace BK281 := BB BK281.out hb; replace HB := Aside0.mk (below_step (BL) hb); (try clear hb); (try clear hb2); (try clear hk); (try clear hi)) | ((with_reducible refine gate_dst (N := 6) rfl ?_); refine bE 6 #[.slice none 0 0] 29 ?_; intro gb283 hg w10 hbox hb; have BK283 := Aside0.mk (hbox); have GW283 : Aside0 (w.heap.size ≤ gb283) := GS; have GE283 := GW283; have NB280_283 := NL BK280.out hg; have NB283_280 := NG BK280.out hg; have NB281_283 := NL BK281.out hg; have NB283_281 := NG BK281.out hg; replace BK280 := BB BK280.out hb; replace BK281 := BB BK281.out hb; replace HB := Aside0.mk (below_step (BL) hb); clear hb hbox hg; have hnb11 := NB283_280.out; have hnc11 := NB280_283.out; have hnb12 := NB283_281.out; have hnc12 := NB281_283.out; have hcz13_0 : w10.cell? ⟨gb283, 0, none⟩ = some (.slice none 0 0) := CZ BK283.out 0; have hfz13_0 := blk_frozen BK283.out 0))
 go_loopg [7] k (fun kq v7 w' => ∃ (x7_1 : Int) (x284000_1 : List (S45)) (u284000 : Value), v7 = .int .i64 x7_1 ∧ Aside0 (spec_LoseDisk.l0 kq l1 x7_1 l0_0 x284000_1 = some (r1, r2)) ∧ Aside0 (kq ≤ k) ∧ Aside0 (Kd.R k45 45 w' w.heap.size (fun _ => True) u284000 x284000_1) ∧ Aside0 (w'.heap[gb280]? = some (.cells #[(.slice A0_0 l0_0.length c0_0)] 29 (0, 0))) ∧ Aside0 (w'.heap[gb281]? = some (.cells #[(.slice none 0 0)] 29 (0, 0))) ∧ Aside0 (w'.heap[gb283]? = some (.cells #[u284000] 29 (0, 0))) ∧ Aside0 (Below w.heap.size w w'))
 case atStart => exact ⟨(0), (([] : List (S45))), (.slice none 0 0), SD, H', ⟨Nat.le_refl _⟩, ⟨by first | exact Kd.R_nil _ _ _ _ _ | exact Kd.N_nil _ _ _ _ _ | exact Kd.V_nil _ _ _ _ _ | exact Kd.Q_nil _ _ _ _ _ | exact Kd.S_nil _ _ _ _ _⟩, ⟨BP BK280.out⟩, ⟨BP BK281.out⟩, ⟨BU BK283.out⟩, ⟨BL⟩⟩
 case round =>
  clear H'
  try clear c1 c2 p2 c4 c7 c11 c12 c13 hcz13_0 hcz8_0 hfz13_0 hfz8_0
  obtain ⟨x7_1, x284000_1, u284000, rfl, HA, HK1, HO_284000, BK280, BK281, BK283, HB⟩ := hrel; cases gk with
  | zero => exact absurd HA.out (by simp [spec_LoseDisk.l0])
  | succ k1 =>
   have H := HA.out; clear HA; simp only [spec_LoseDisk.l0] at H
   by_cases c14 : x7_1 < (l0_0.length : Int); rotate_left
   ·
    rw [if_neg c14] at H; have c14b0 : decide (x7_1 < (l0_0.length : Int)) = false := decide_eq_false c14; clear c14; simp only [Option.some.injEq, Prod.mk.injEq] at H; obtain ⟨rfl, rfl⟩ := H; have hnb73 := NB280_281.out; have hnc73 := NB281_280.out; have hnb74 := NB280_283.out; have hnc74 := NB283_280.out; have hcz75_0 : wr.cell? ⟨gb280, 0, none⟩ = some (.slice A0_0 l0_0.length c0_0) := CZ BK280.out 0; have hfz75_0 := blk_frozen BK280.out 0; have hnb76 := NB283_281.out; have hnc76 := NB281_283.out; have hcz77_0 : wr.cell? ⟨gb283, 0, none⟩ = some (u284000) := CZ BK283.out 0; have hfz77_0 := blk_frozen BK283.out 0; obtain ⟨Ao78, co78, eo78⟩ := Kd.R_slice HO_284000.out; subst eo78; have hcz79_0 : wr.cell? ⟨gb281, 0, none⟩ = some (.slice none 0 0) := CZ BK281.out 0; have hfz79_0 := blk_frozen BK281.out 0
    go_wp2
    refine bodyPost_ret (results_ct rfl _ _ gb281 29 #[.slice Ao78 x284000_1.length co78] (0, 0) _ rfl (BU BK281.out) Try.underlying29 rfl (by kernel_rfl)) rfl ?_; exact ⟨_, EE, by (with_reducible repeat (first | apply r1 | apply r2 | apply r3)); exact Kd.R_mono (Kd.R_far (p := ⟨gb281, 0, none⟩) (Kd.R_types HO_284000.out BK281.out (by decide)) (fun _ hk => hk.2) (.slice Ao78 x284000_1.length co78)) (fun _ hk => trivial), BL⟩
   rw [if_pos c14] at H; have c14b0 : decide (x7_1 < (l0_0.length : Int)) = true := decide_eq_true c14; clear c14
   by_cases c15 : 0 ≤ x7_1; rotate_left
   ·
    rw [if_neg c15] at H; exact absurd H (by simp)
   rw [if_pos c15] at H; have c15b0 : decide (0 ≤ x7_1) = true := decide_eq_true c15; clear c15; have HC16 := Aside0.mk H; clear H; have hnb17 := NB280_281.out; have hnc17 := NB281_280.out; have hnb18 := NB280_283.out; have hnc18 := NB283_280.out; have hcz19_0 : wr.cell? ⟨gb280, 0, none⟩ = some (.slice A0_0 l0_0.length c0_0) := CZ BK280.out 0; have hfz19_0 := blk_frozen BK280.out 0; have p284 : 0 ≤ (x7_1 : Int) := of_decide_eq_true AS; have q284 : x7_1 < (l0_0.length : Int) := of_decide_eq_true AS; obtain ⟨ad284, e284, hx284_0, hx284_1, hx284_2⟩ := at_T45 HR0_0.out x7_1 p284 q284; cases e284; replace hx284_0 := (HB.out.cell (World.block_lt_of_cell? w _ hx284_0)).trans hx284_0; replace hx284_1 := (HB.out.cell (World.block_lt_of_cell? w _ hx284_1)).trans hx284_1; replace hx284_2 := (HB.out.cell (World.block_lt_of_cell? w _ hx284_2)).trans hx284_2; replace p284 := eq_true p284; replace q284 := eq_true q284
   go_upto_if 30 with (first | ((with_reducible refine gate_dst (N := 8) rfl ?_); refine bE 8 #[.string (⟨#[]⟩ : ByteArray), .string (⟨#[]⟩ : ByteArray), .int .i64 0] 45 ?_; intro gb285 hg w20 hbox hb; have BK285 := Aside0.mk (hbox); have GW285 : Aside0 (w.heap.size ≤ gb285) := GS; have GE285 := GW285; have NB280_285 := NL BK280.out hg; have NB285_280 := NG BK280.out hg; have NB281_285 := NL BK281.out hg; have NB285_281 := NG BK281.out hg; have NB283_285 := NL BK283.out hg; have NB285_283 := NG BK283.out hg; replace HO_284000 := Aside0.mk (Kd.R_below (Kd.R_elderB (RQ HO_284000.out) gb285 (Nat.le_of_eq hg.symm)) hb); replace BK280 := BB BK280.out hb; replace BK281 := BB BK281.out hb; replace BK283 := BB BK283.out hb; replace HB := Aside0.mk (below_step (BL) hb); clear hb hbox hg; have hnb21 := NB285_280.out; have hnc21 := NB280_285.out; have hnb22 := NB285_281.out; have hnc22 := NB281_285.out; have hnb23 := NB285_283.out; have hnc23 := NB283_285.out; have hcz24_0 : w20.cell? ⟨gb285, 0, none⟩ = some (.string (⟨#[]⟩ : ByteArray)) := CZ BK285.out 0; have hcz24_1 : w20.cell? ⟨gb285, 1, none⟩ = some (.string (⟨#[]⟩ : ByteArray)) := CZ BK285.out 1; have hcz24_2 : w20.cell? ⟨gb285, 2, none⟩ = some (.int .i64 0) := CZ BK285.out 2; have hfz24_0 := blk_frozen BK285.out 0; have hfz24_1 := blk_frozen BK285.out 1; have hfz24_2 := blk_frozen BK285.out 2))
   (try simp only [Act.put, zA, zB, zC])
   go_cut [9] (fun v9 wc => ∃ (kq : Nat) (x9_15 : Int), v9 = .int .i64 x9_15 ∧ Aside0 (spec_LoseDisk.j1 kq l1 x7_1 x9_15 l0_0 x284000_1 ((rd_T45 l0_0 x7_1).f0) ((rd_T45 l0_0 x7_1).f1) ((rd_T45 l0_0 x7_1).f2) = some (r1, r2)) ∧ Aside0 (kq ≤ k1) ∧ Aside0 (Kd.R k45 45 wc w.heap.size (fun k_ => k_ ≠ gb285) u284000 x284000_1) ∧ Aside0 (wc.heap[gb280]? = some (.cells #[(.slice (some ad284) l0_0.length c0_0)] 29 (0, 0))) ∧ Aside0 (wc.heap[gb281]? = some (.cells #[(.slice none 0 0)] 29 (0, 0))) ∧ Aside0 (wc.heap[gb283]? = some (.cells #[u284000] 29 (0, 0))) ∧ Aside0 (wc.heap[gb285]? = some (.cells #[.string ((rd_T45 l0_0 x7_1).f0), .string ((rd_T45 l0_0 x7_1).f1), .int .i64 ((rd_T45 l0_0 x7_1).f2)] 45 (0, 0))) ∧ Aside0 (Below w.heap.size w wc))
   case first =>
    have H := HC16.out; clear HC16
    by_cases c25 : x7_1 < (l1.length : Int); rotate_left
    ·
     rw [if_neg c25] at H; have c25b0 : decide (x7_1 < (l1.length : Int)) = false := decide_eq_false c25; clear c25
     (first | rw [c25b0] | (simp only [i64_w, i32_w]; rw [c25b0]) | skip)
     have H' := Aside0.mk H; clear H
     go_wp2
     go_meet
     case rel => exact ⟨_, (0), SD, H', ⟨by have := HK1.out; first | omega | exact Nat.le_refl _⟩, ⟨by (with_reducible repeat (first | apply r1 | apply r2 | apply r3)); exact Kd.R_mono (Kd.R_far (p := ⟨gb285, 2, none⟩) (Kd.R_far (p := ⟨gb285, 1, none⟩) (Kd.R_far (p := ⟨gb285, 0, none⟩) (Kd.R_mono HO_284000.out (fun k_ hk => (⟨hk, hk.2⟩ : _ ∧ k_ ≠ gb285))) (fun _ hk => hk.2) (.string ((rd_T45 l0_0 x7_1).f0))) (fun _ hk => hk.2) (.string ((rd_T45 l0_0 x7_1).f1))) (fun _ hk => hk.2) (.int .i64 ((rd_T45 l0_0 x7_1).f2))) (fun _ hk => hk.1.2)⟩, ⟨BP BK280.out⟩, ⟨BP BK281.out⟩, ⟨BP BK283.out⟩, ⟨BU BK285.out⟩, ⟨BL⟩⟩
    rw [if_pos c25] at H; have c25b0 : decide (x7_1 < (l1.length : Int)) = true := decide_eq_true c25; clear c25
    (first | rw [c25b0] | (simp only [i64_w, i32_w]; rw [c25b0]) | skip)
    have H' := Aside0.mk H; clear H; have p286 : 0 ≤ (x7_1 : Int) := of_decide_eq_true AS; have q286 : x7_1 < (l1.length : Int) := of_decide_eq_true AS; obtain ⟨ad286, e286, hx286_0⟩ := Kd.at_int HR1.out x7_1 p286 q286; cases e286; have hn286_0 : ad286.block ≠ gb285 := Nat.ne_of_lt (Nat.lt_of_lt_of_le (by have := World.block_lt_of_cell? _ _ hx286_0; first | rwa [add_block] at this | exact this) GW285.out); have hn286_1 : ad286.block ≠ gb285 := Nat.ne_of_lt (Nat.lt_of_lt_of_le (by have := World.block_lt_of_cell? _ _ hx286_0; first | rwa [add_block] at this | exact this) GW285.out); have hn286_2 : ad286.block ≠ gb285 := Nat.ne_of_lt (Nat.lt_of_lt_of_le (by have := World.block_lt_of_cell? _ _ hx286_0; first | rwa [add_block] at this | exact this) GW285.out); replace hx286_0 := (HB.out.cell (World.block_lt_of_cell? w _ hx286_0)).trans hx286_0; replace hx286_0 := (cell_far (p := ⟨gb285, 0, none⟩) (by first | (rw [add_block]; exact hn286_0) | (show (Addr.add _ _).block ≠ _; rw [add_block]; exact hn286_0) | exact hn286_0) (.string ((rd_T45 l0_0 x7_1).f0))).trans hx286_0; replace hx286_0 := (cell_far (p := ⟨gb285, 1, none⟩) (by first | (rw [add_block]; exact hn286_1) | (show (Addr.add _ _).block ≠ _; rw [add_block]; exact hn286_1) | exact hn286_1) (.string ((rd_T45 l0_0 x7_1).f1))).trans hx286_0; replace hx286_0 := (cell_far (p := ⟨gb285, 2, none⟩) (by first | (rw [add_block]; exact hn286_2) | (show (Addr.add _ _).block ≠ _; rw [add_block]; exact hn286_2) | exact hn286_2) (.int .i64 ((rd_T45 l0_0 x7_1).f2))).trans hx286_0; clear hn286_0; clear hn286_1; clear hn286_2; replace p286 := eq_true p286; replace q286 := eq_true q286
    go_wp2
    go_meet
    case rel => exact ⟨_, (rd l1 x7_1), SD, H', ⟨by have := HK1.out; first | omega | exact Nat.le_refl _⟩, ⟨by (with_reducible repeat (first | apply r1 | apply r2 | apply r3)); exact Kd.R_mono (Kd.R_far (p := ⟨gb285, 2, none⟩) (Kd.R_far (p := ⟨gb285, 1, none⟩) (Kd.R_far (p := ⟨gb285, 0, none⟩) (Kd.R_mono HO_284000.out (fun k_ hk => (⟨hk, hk.2⟩ : _ ∧ k_ ≠ gb285))) (fun _ hk => hk.2) (.string ((rd_T45 l0_0 x7_1).f0))) (fun _ hk => hk.2) (.string ((rd_T45 l0_0 x7_1).f1))) (fun _ hk => hk.2) (.int .i64 ((rd_T45 l0_0 x7_1).f2))) (fun _ hk => hk.1.2)⟩, ⟨BP BK280.out⟩, ⟨BP BK281.out⟩, ⟨BP BK283.out⟩, ⟨BU BK285.out⟩, ⟨BL⟩⟩
   case rest =>
    clear HC16
    try clear c1 c2 p2 q2 hx2 c4 c7 c11 c12 c13 c14 c14b0 c15 c15b0 c17 c18 c21 c22 c23 c25 c25b0 hcz13_0 hcz19_0 hcz24_0 hcz24_1 hcz24_2 hcz8_0 hfz13_0 hfz19_0 hfz24_0 hfz24_1 hfz24_2 hfz8_0 hx284_0 hx284_1 hx284_2 hx286_0 p2 p284 p286 q284 q286
    obtain ⟨kq, x9_15, rfl, HA, HJ15, HO_284000, BK280, BK281, BK283, BK285, HB⟩ := hcut; cases kq with
    | zero => exact absurd HA.out (by simp [spec_LoseDisk.j1])
    | succ kj15 =>
     have H := HA.out; clear HA; simp only [spec_LoseDisk.j1] at H
     by_cases c26 : x9_15 > (((rd_T45 l0_0 x7_1).f1).size : Int); rotate_left
     ·
      rw [if_neg c26] at H; have c26b0 : decide ((((rd_T45 l0_0 x7_1).f1).size : Int) < x9_15) = false := decide_eq_false c26; clear c26
      by_cases c50 : x9_15 < ((rd_T45 l0_0 x7_1).f2)
      ·
       rw [if_pos c50] at H; have c50b0 : decide (x9_15 < ((rd_T45 l0_0 x7_1).f2)) = true := decide_eq_true c50; clear c50
       by_cases c51 : 0 ≤ ((rd_T45 l0_0 x7_1).f2); rotate_left
       ·
        rw [if_neg c51] at H; exact absurd H (by simp)
       rw [if_pos c51] at H; have c51b0 := eq_true c51; have c51b1 : decide (0 ≤ ((rd_T45 l0_0 x7_1).f2)) = true := decide_eq_true c51; clear c51
       by_cases c52 : ((rd_T45 l0_0 x7_1).f2) ≤ (((rd_T45 l0_0 x7_1).f1).size : Int); rotate_left
       ·
        rw [if_neg c52] at H; exact absurd H (by simp)
       rw [if_pos c52] at H; have c52b0 := eq_true c52; have c52b1 : decide (((rd_T45 l0_0 x7_1).f2) ≤ (((rd_T45 l0_0 x7_1).f1).size : Int)) = true := decide_eq_true c52; clear c52
       by_cases c53 : x284000_1.length < 3518437208883; rotate_left
       ·
        rw [if_neg c53] at H; exact absurd H (by simp)
       rw [if_pos c53] at H; have LMc53 := Aside0.mk c53; clear c53; obtain ⟨y293, hy293⟩ : ∃ y_ : List (S45), y_ = (x284000_1 ++ [(⟨((rd_T45 l0_0 x7_1).f0), ((rd_T45 l0_0 x7_1).f1).extract 0 (((rd_T45 l0_0 x7_1).f2) : Int).toNat, ((rd_T45 l0_0 x7_1).f2)⟩ : S45)]) := ⟨_, rfl⟩
       replace H : (spec_LoseDisk.l0 kj15 l1 (wrap64 (x7_1 + 1)) l0_0 y293) = some (r1, r2) := by first | (rw [hy293]; with_reducible exact H) | (have H2_ := (Option.bind_some _ _).symm.trans H; rw [hy293]; with_reducible exact H2_) | (have H2_ := (Option.bind_some _ _).symm.trans H; with_reducible exact H2_) | with_reducible exact H | (rw [hy293]; exact H) | exact H
       have Ny293 := Aside0.mk hy293; clear hy293; have H' := Aside0.mk H; clear H; have hnb54 := NB285_280.out; have hnc54 := NB280_285.out; have hnb55 := NB285_281.out; have hnc55 := NB281_285.out; have hnb56 := NB285_283.out; have hnc56 := NB283_285.out; have hcz57_0 : wc.cell? ⟨gb285, 0, none⟩ = some (.string ((rd_T45 l0_0 x7_1).f0)) := CZ BK285.out 0; have hcz57_1 : wc.cell? ⟨gb285, 1, none⟩ = some (.string ((rd_T45 l0_0 x7_1).f1)) := CZ BK285.out 1; have hcz57_2 : wc.cell? ⟨gb285, 2, none⟩ = some (.int .i64 ((rd_T45 l0_0 x7_1).f2)) := CZ BK285.out 2; have hfz57_0 := blk_frozen BK285.out 0; have hfz57_1 := blk_frozen BK285.out 1; have hfz57_2 := blk_frozen BK285.out 2
       try go_wp2
       have n0_ := Aside0.mk (Kd.R_drew HO_284000.out); have n1_ := Aside0.mk (blk_drew BK280.out); have n2_ := Aside0.mk (blk_drew BK281.out); have n3_ := Aside0.mk (blk_drew BK283.out); have n4_ := Aside0.mk (blk_drew BK285.out); have n5_ := Aside0.mk (below_drew1 HB.out); clear HO_284000; clear BK280; clear BK281; clear BK283; clear BK285; clear HB; have HO_284000 := n0_; have BK280 := n1_; have BK281 := n2_; have BK283 := n3_; have BK285 := n4_; have HB := n5_; clear n0_ n1_ n2_ n3_ n4_ n5_; refine start_ (n := 14) (S := fun w' => w'.cell? ⟨gb283, 0, none⟩ = some (u284000) ∧ w'.cell? ⟨gb285, 0, none⟩ = some (.string ((rd_T45 l0_0 x7_1).f0)) ∧ w'.cell? ⟨gb285, 1, none⟩ = some (.string ((rd_T45 l0_0 x7_1).f1)) ∧ w'.cell? ⟨gb285, 2, none⟩ = some (.int .i64 ((rd_T45 l0_0 x7_1).f2))) (ds := [13]) #[false, false, false, false, false, false, false, false, false, false, false, false, false, false] (by kernel_rfl) rfl rfl ⟨CZ BK283.out 0, CZ BK285.out 0, CZ BK285.out 1, CZ BK285.out 2⟩ (fun hHeld => ?_); refine with_tabW spec_LoseDisk.tab15 spec_LoseDisk.bits15 (fun HT_ HW_ => ?_); generalize wc.drew = w58 at HO_284000 BK280 BK281 BK283 BK285 HB hHeld ⊢; refine pV 0 49 (OB 14 1) ?_; refine pV 2 51 (OB 14 5) ?_; refine pV 4 53 (OB 14 21) ?_; refine pV 6 55 (OB 14 85) ?_; refine pV 8 57 (OB 14 341) ?_; refine take_ (i := 1) (N := some 50) (v := ?_) (a' := ?_) (OB 14 343) rfl rfl (take_ofW HT_.out HW_.out (by kernel_rfl)) (fun _ _ _ h => h) (Or.inl ⟨by rfl, ?_⟩) hHeld ?_ ?_; rotate_left
       ·
        rintro w' ⟨s0, s1, s2, s3⟩
        go_simp
        with_reducible rfl
       rotate_left
       ·
        simp only [Act.put, zA, zB, zC, i64_w, i32_w]; rfl
       refine take_ (i := 3) (N := some 52) (v := ?_) (a' := ?_) (OB 14 351) rfl rfl (take_ofW HT_.out HW_.out (by kernel_rfl)) (fun _ _ _ h => h) (Or.inl ⟨by rfl, ?_⟩) hHeld ?_ ?_; rotate_left
       ·
        rintro w' ⟨s0, s1, s2, s3⟩
        go_simp
        with_reducible rfl
       rotate_left
       ·
        simp only [Act.put, zA, zB, zC, i64_w, i32_w]; rfl
       refine take_ (i := 5) (N := some 54) (v := ?_) (a' := ?_) (OB 14 383) rfl rfl (take_ofW HT_.out HW_.out (by kernel_rfl)) (fun _ _ _ h => h) (Or.inl ⟨by rfl, ?_⟩) hHeld ?_ ?_; rotate_left
       ·
        rintro w' ⟨s0, s1, s2, s3⟩
        go_simp
        with_reducible rfl
       rotate_left
       ·
        simp only [Act.put, zA, zB, zC, i64_w, i32_w]; rfl
       refine pV 7 56 (OB 14 511) ?_; refine pV 9 58 (OB 14 1023) ?_; refine one_ (i := 10) (N := some 59) (OB 14 2047) rfl rfl (one_of HT_.out (by kernel_rfl)) (by decide) (fun K hK => ?_); refine value_ (w1 := ?_) (v := ?_) (by rfl) rfl ?_ ?_; rotate_left 2
       ·
        go_simp
        constructor
        ·
         rfl
        ·
         rfl
       refine hK.out _ _ ⟨(blk_cell (blk_alloc BK283.out _) 0).trans rfl, (blk_cell (blk_alloc BK285.out _) 0).trans rfl, (blk_cell (blk_alloc BK285.out _) 1).trans rfl, (blk_cell (blk_alloc BK285.out _) 2).trans rfl⟩ (fun hHeld => ?_); clear hK K; refine norm_ (a' := ?_) ?_ ?_; rotate_left
       ·
        show Act.put _ (some 59) _ = _; simp only [Act.put, zA, zB, zC, i64_w, i32_w]; rfl
       refine one_ (i := 11) (N := some 60) (OB 14 4095) rfl rfl (one_of HT_.out (by kernel_rfl)) (by decide) (fun K hK => ?_); refine Kd.R_append_step k45 (w0 := w) w.heap.size (by rfl) (.tmp 50) (.tmp 59) 27 45 (.agg #[(.string ⟨#[]⟩), (.string ⟨#[]⟩), (.int .i64 0)]) 40 rfl Try.underlying27 info45 rfl (by decide) (by omega) u284000 x284000_1 (⟨((rd_T45 l0_0 x7_1).f0), ((rd_T45 l0_0 x7_1).f1).extract 0 (((rd_T45 l0_0 x7_1).f2) : Int).toNat, ((rd_T45 l0_0 x7_1).f2)⟩ : S45) [.string ((rd_T45 l0_0 x7_1).f0), .string (((rd_T45 l0_0 x7_1).f1).extract 0 (((rd_T45 l0_0 x7_1).f2) : Int).toNat), .int .i64 ((rd_T45 l0_0 x7_1).f2)] (fun k_ => k_ ≠ gb285) (fun _ => False) rfl rfl ?aP (fun _ hk => hk.elim) ?aF ?aO ?aB ?aS ?aL ?_
       (case aP => exact k45_mkM _ _ _ (⟨((rd_T45 l0_0 x7_1).f0), ((rd_T45 l0_0 x7_1).f1).extract 0 (((rd_T45 l0_0 x7_1).f2) : Int).toNat, ((rd_T45 l0_0 x7_1).f2)⟩ : S45))
       (case aB => exact (BL))
       (case aF => exact (fun k_ hk => Kd.freshB (g := gb285) (o := .cells #[.string ((rd_T45 l0_0 x7_1).f0), .string ((rd_T45 l0_0 x7_1).f1), .int .i64 ((rd_T45 l0_0 x7_1).f2)] 45 (0, 0)) (BQ BK285.out) k_ hk))
       (case aO => exact (RQ HO_284000.out))
       (case aS => exact (below_size (BL)))
       (case aL => have := LMc53.out; omega)
       intro v294 w59 ho hb hg hat; rw [← Ny293.out] at ho; have n0_ := Aside0.mk (blk_grown (g := gb280) (o := .cells #[.slice (some ad284) l0_0.length c0_0] 29 (0, 0)) (BQ BK280.out) hg (Kd.R_ne HO_284000.out BK280.out (by decide))); have n1_ := Aside0.mk (blk_grown (g := gb281) (o := .cells #[.slice none 0 0] 29 (0, 0)) (BQ BK281.out) hg (Kd.R_ne HO_284000.out BK281.out (by decide))); have n2_ := Aside0.mk (blk_grown (g := gb283) (o := .cells #[u284000] 29 (0, 0)) (BQ BK283.out) hg (Kd.R_ne HO_284000.out BK283.out (by decide))); have n3_ := Aside0.mk (blk_grown (g := gb285) (o := .cells #[.string ((rd_T45 l0_0 x7_1).f0), .string ((rd_T45 l0_0 x7_1).f1), .int .i64 ((rd_T45 l0_0 x7_1).f2)] 45 (0, 0)) (BQ BK285.out) hg (Kd.R_away HO_284000.out (fun _ hk => hk))); have n4_ := Aside0.mk (hb); have n5_ := Aside0.mk (ho); clear BK280; clear BK281; clear BK283; clear BK285; clear HB; clear HO_284000; have BK280 := n0_; have BK281 := n1_; have BK283 := n2_; have BK285 := n3_; have HB := n4_; have HO295 := n5_; clear n0_ n1_ n2_ n3_ n4_ n5_; clear ho hb hg hat; obtain ⟨Ao60, co60, eo60⟩ := Kd.R_slice HO295.out
       (first | subst eo60 | (injection eo60 with f1_ f2_ f3_; have f4_ := f1_.symm; have f5_ := f3_.symm; clear f1_ f2_ f3_; subst f4_; subst f5_))
       refine hK.out _ _ ⟨CZ BK283.out 0, CZ BK285.out 0, CZ BK285.out 1, CZ BK285.out 2⟩ (fun hHeld => ?_); clear hK K; refine norm_ (a' := ?_) ?_ ?_; rotate_left
       ·
        show Act.put _ (some 60) _ = _; simp only [Act.put, zA, zB, zC, i64_w, i32_w]; rfl
       refine pV 12 61 (OB 14 8191) ?_; refine last_ (i := 13) (N := none) #[true, true, true, true, true, true, true, true, true, true, true, true, true, true] rfl rfl (one_of HT_.out (by kernel_rfl)) (by decide) (fun K hK => ?_); have hs61 : w59.cell? ⟨gb283, 0, none⟩ = some (u284000) := CZ BK283.out 0; have hfs61 := blk_frozen BK283.out 0; have hns61_0 := NB280_283.out; have hns61_1 := NB281_283.out; have hns61_3 := NB285_283.out; have hms61_0 := NB283_280.out; have hms61_1 := NB283_281.out; have hms61_3 := NB283_285.out; refine skip_ (w1 := ?_) (by rfl) rfl ?_ ?_; rotate_left
       ·
        go_simp
        rfl
       refine hK.out _ _ ?_; clear hK K; refine done_ (done_of HT_.out (by kernel_rfl)) ?_
       try go_wp2
       go_roundg kj15
       case measure => have := HK1.out; have := HJ15.out; omega
       case rel => exact ⟨(wrap64 (x7_1 + 1)), (y293), (.slice Ao60 y293.length co60), SD, H', ⟨by have := HK1.out; have := HJ15.out; omega⟩, ⟨RF HO295.out BK283.out⟩, ⟨BP BK280.out⟩, ⟨BP BK281.out⟩, ⟨BU BK283.out⟩, ⟨BL⟩⟩
      rw [if_neg c50] at H; have c50b0 : decide (x9_15 < ((rd_T45 l0_0 x7_1).f2)) = false := decide_eq_false c50; clear c50
      by_cases c62 : 0 ≤ x9_15; rotate_left
      ·
       rw [if_neg c62] at H; exact absurd H (by simp)
      rw [if_pos c62] at H; have c62b0 := eq_true c62; have c62b1 : decide (0 ≤ x9_15) = true := decide_eq_true c62; clear c62
      by_cases c63 : x9_15 ≤ (((rd_T45 l0_0 x7_1).f1).size : Int); rotate_left
      ·
       rw [if_neg c63] at H; exact absurd H (by simp)
      rw [if_pos c63] at H; have c63b0 := eq_true c63; have c63b1 : decide (x9_15 ≤ (((rd_T45 l0_0 x7_1).f1).size : Int)) = true := decide_eq_true c63; clear c63
      by_cases c64 : x284000_1.length < 3518437208883; rotate_left
      ·
       rw [if_neg c64] at H; exact absurd H (by simp)
      rw [if_pos c64] at H; have LMc64 := Aside0.mk c64; clear c64; obtain ⟨y296, hy296⟩ : ∃ y_ : List (S45), y_ = (x284000_1 ++ [(⟨((rd_T45 l0_0 x7_1).f0), ((rd_T45 l0_0 x7_1).f1).extract 0 (x9_15 : Int).toNat, x9_15⟩ : S45)]) := ⟨_, rfl⟩
      replace H : (spec_LoseDisk.l0 kj15 l1 (wrap64 (x7_1 + 1)) l0_0 y296) = some (r1, r2) := by first | (rw [hy296]; with_reducible exact H) | (have H2_ := (Option.bind_some _ _).symm.trans H; rw [hy296]; with_reducible exact H2_) | (have H2_ := (Option.bind_some _ _).symm.trans H; with_reducible exact H2_) | with_reducible exact H | (rw [hy296]; exact H) | exact H
      have Ny296 := Aside0.mk hy296; clear hy296; have H' := Aside0.mk H; clear H; have hnb65 := NB285_280.out; have hnc65 := NB280_285.out; have hnb66 := NB285_281.out; have hnc66 := NB281_285.out; have hnb67 := NB285_283.out; have hnc67 := NB283_285.out; have hcz68_0 : wc.cell? ⟨gb285, 0, none⟩ = some (.string ((rd_T45 l0_0 x7_1).f0)) := CZ BK285.out 0; have hcz68_1 : wc.cell? ⟨gb285, 1, none⟩ = some (.string ((rd_T45 l0_0 x7_1).f1)) := CZ BK285.out 1; have hcz68_2 : wc.cell? ⟨gb285, 2, none⟩ = some (.int .i64 ((rd_T45 l0_0 x7_1).f2)) := CZ BK285.out 2; have hfz68_0 := blk_frozen BK285.out 0; have hfz68_1 := blk_frozen BK285.out 1; have hfz68_2 := blk_frozen BK285.out 2
      try go_wp2
      have n0_ := Aside0.mk (Kd.R_drew HO_284000.out); have n1_ := Aside0.mk (blk_drew BK280.out); have n2_ := Aside0.mk (blk_drew BK281.out); have n3_ := Aside0.mk (blk_drew BK283.out); have n4_ := Aside0.mk (blk_drew BK285.out); have n5_ := Aside0.mk (below_drew1 HB.out); clear HO_284000; clear BK280; clear BK281; clear BK283; clear BK285; clear HB; have HO_284000 := n0_; have BK280 := n1_; have BK281 := n2_; have BK283 := n3_; have BK285 := n4_; have HB := n5_; clear n0_ n1_ n2_ n3_ n4_ n5_; refine start_ (n := 14) (S := fun w' => w'.cell? ⟨gb283, 0, none⟩ = some (u284000) ∧ w'.cell? ⟨gb285, 0, none⟩ = some (.string ((rd_T45 l0_0 x7_1).f0)) ∧ w'.cell? ⟨gb285, 1, none⟩ = some (.string ((rd_T45 l0_0 x7_1).f1)) ∧ w'.cell? ⟨gb285, 2, none⟩ = some (.int .i64 ((rd_T45 l0_0 x7_1).f2))) (ds := [13]) #[false, false, false, false, false, false, false, false, false, false, false, false, false, false] (by kernel_rfl) rfl rfl ⟨CZ BK283.out 0, CZ BK285.out 0, CZ BK285.out 1, CZ BK285.out 2⟩ (fun hHeld => ?_); refine with_tabW spec_LoseDisk.tab15 spec_LoseDisk.bits15 (fun HT_ HW_ => ?_); generalize wc.drew = w69 at HO_284000 BK280 BK281 BK283 BK285 HB hHeld ⊢; refine pV 0 49 (OB 14 1) ?_; refine pV 2 51 (OB 14 5) ?_; refine pV 4 53 (OB 14 21) ?_; refine pV 6 55 (OB 14 85) ?_; refine pV 8 57 (OB 14 341) ?_; refine take_ (i := 1) (N := some 50) (v := ?_) (a' := ?_) (OB 14 343) rfl rfl (take_ofW HT_.out HW_.out (by kernel_rfl)) (fun _ _ _ h => h) (Or.inl ⟨by rfl, ?_⟩) hHeld ?_ ?_; rotate_left
      ·
       rintro w' ⟨s0, s1, s2, s3⟩
       go_simp
       with_reducible rfl
      rotate_left
      ·
       simp only [Act.put, zA, zB, zC, i64_w, i32_w]; rfl
      refine take_ (i := 3) (N := some 52) (v := ?_) (a' := ?_) (OB 14 351) rfl rfl (take_ofW HT_.out HW_.out (by kernel_rfl)) (fun _ _ _ h => h) (Or.inl ⟨by rfl, ?_⟩) hHeld ?_ ?_; rotate_left
      ·
       rintro w' ⟨s0, s1, s2, s3⟩
       go_simp
       with_reducible rfl
      rotate_left
      ·
       simp only [Act.put, zA, zB, zC, i64_w, i32_w]; rfl
      refine take_ (i := 5) (N := some 54) (v := ?_) (a' := ?_) (OB 14 383) rfl rfl (take_ofW HT_.out HW_.out (by kernel_rfl)) (fun _ _ _ h => h) (Or.inl ⟨by rfl, ?_⟩) hHeld ?_ ?_; rotate_left
      ·
       rintro w' ⟨s0, s1, s2, s3⟩
       go_simp
       with_reducible rfl
      rotate_left
      ·
       simp only [Act.put, zA, zB, zC, i64_w, i32_w]; rfl
      refine pV 7 56 (OB 14 511) ?_; refine pV 9 58 (OB 14 1023) ?_; refine one_ (i := 10) (N := some 59) (OB 14 2047) rfl rfl (one_of HT_.out (by kernel_rfl)) (by decide) (fun K hK => ?_); refine value_ (w1 := ?_) (v := ?_) (by rfl) rfl ?_ ?_; rotate_left 2
      ·
       go_simp
       constructor
       ·
        rfl
       ·
        rfl
      refine hK.out _ _ ⟨(blk_cell (blk_alloc BK283.out _) 0).trans rfl, (blk_cell (blk_alloc BK285.out _) 0).trans rfl, (blk_cell (blk_alloc BK285.out _) 1).trans rfl, (blk_cell (blk_alloc BK285.out _) 2).trans rfl⟩ (fun hHeld => ?_); clear hK K; refine norm_ (a' := ?_) ?_ ?_; rotate_left
      ·
       show Act.put _ (some 59) _ = _; simp only [Act.put, zA, zB, zC, i64_w, i32_w]; rfl
      refine one_ (i := 11) (N := some 60) (OB 14 4095) rfl rfl (one_of HT_.out (by kernel_rfl)) (by decide) (fun K hK => ?_); refine Kd.R_append_step k45 (w0 := w) w.heap.size (by rfl) (.tmp 50) (.tmp 59) 27 45 (.agg #[(.string ⟨#[]⟩), (.string ⟨#[]⟩), (.int .i64 0)]) 40 rfl Try.underlying27 info45 rfl (by decide) (by omega) u284000 x284000_1 (⟨((rd_T45 l0_0 x7_1).f0), ((rd_T45 l0_0 x7_1).f1).extract 0 (x9_15 : Int).toNat, x9_15⟩ : S45) [.string ((rd_T45 l0_0 x7_1).f0), .string (((rd_T45 l0_0 x7_1).f1).extract 0 (x9_15 : Int).toNat), .int .i64 x9_15] (fun k_ => k_ ≠ gb285) (fun _ => False) rfl rfl ?aP (fun _ hk => hk.elim) ?aF ?aO ?aB ?aS ?aL ?_
      (case aP => exact k45_mkM _ _ _ (⟨((rd_T45 l0_0 x7_1).f0), ((rd_T45 l0_0 x7_1).f1).extract 0 (x9_15 : Int).toNat, x9_15⟩ : S45))
      (case aB => exact (BL))
      (case aF => exact (fun k_ hk => Kd.freshB (g := gb285) (o := .cells #[.string ((rd_T45 l0_0 x7_1).f0), .string ((rd_T45 l0_0 x7_1).f1), .int .i64 ((rd_T45 l0_0 x7_1).f2)] 45 (0, 0)) (BQ BK285.out) k_ hk))
      (case aO => exact (RQ HO_284000.out))
      (case aS => exact (below_size (BL)))
      (case aL => have := LMc64.out; omega)
      intro v297 w70 ho hb hg hat; rw [← Ny296.out] at ho; have n0_ := Aside0.mk (blk_grown (g := gb280) (o := .cells #[.slice (some ad284) l0_0.length c0_0] 29 (0, 0)) (BQ BK280.out) hg (Kd.R_ne HO_284000.out BK280.out (by decide))); have n1_ := Aside0.mk (blk_grown (g := gb281) (o := .cells #[.slice none 0 0] 29 (0, 0)) (BQ BK281.out) hg (Kd.R_ne HO_284000.out BK281.out (by decide))); have n2_ := Aside0.mk (blk_grown (g := gb283) (o := .cells #[u284000] 29 (0, 0)) (BQ BK283.out) hg (Kd.R_ne HO_284000.out BK283.out (by decide))); have n3_ := Aside0.mk (blk_grown (g := gb285) (o := .cells #[.string ((rd_T45 l0_0 x7_1).f0), .string ((rd_T45 l0_0 x7_1).f1), .int .i64 ((rd_T45 l0_0 x7_1).f2)] 45 (0, 0)) (BQ BK285.out) hg (Kd.R_away HO_284000.out (fun _ hk => hk))); have n4_ := Aside0.mk (hb); have n5_ := Aside0.mk (ho); clear BK280; clear BK281; clear BK283; clear BK285; clear HB; clear HO_284000; have BK280 := n0_; have BK281 := n1_; have BK283 := n2_; have BK285 := n3_; have HB := n4_; have HO298 := n5_; clear n0_ n1_ n2_ n3_ n4_ n5_; clear ho hb hg hat; obtain ⟨Ao71, co71, eo71⟩ := Kd.R_slice HO298.out
      (first | subst eo71 | (injection eo71 with f1_ f2_ f3_; have f4_ := f1_.symm; have f5_ := f3_.symm; clear f1_ f2_ f3_; subst f4_; subst f5_))
      refine hK.out _ _ ⟨CZ BK283.out 0, CZ BK285.out 0, CZ BK285.out 1, CZ BK285.out 2⟩ (fun hHeld => ?_); clear hK K; refine norm_ (a' := ?_) ?_ ?_; rotate_left
      ·
       show Act.put _ (some 60) _ = _; simp only [Act.put, zA, zB, zC, i64_w, i32_w]; rfl
      refine pV 12 61 (OB 14 8191) ?_; refine last_ (i := 13) (N := none) #[true, true, true, true, true, true, true, true, true, true, true, true, true, true] rfl rfl (one_of HT_.out (by kernel_rfl)) (by decide) (fun K hK => ?_); have hs72 : w70.cell? ⟨gb283, 0, none⟩ = some (u284000) := CZ BK283.out 0; have hfs72 := blk_frozen BK283.out 0; have hns72_0 := NB280_283.out; have hns72_1 := NB281_283.out; have hns72_3 := NB285_283.out; have hms72_0 := NB283_280.out; have hms72_1 := NB283_281.out; have hms72_3 := NB283_285.out; refine skip_ (w1 := ?_) (by rfl) rfl ?_ ?_; rotate_left
      ·
       go_simp
       rfl
      refine hK.out _ _ ?_; clear hK K; refine done_ (done_of HT_.out (by kernel_rfl)) ?_
      try go_wp2
      go_roundg kj15
      case measure => have := HK1.out; have := HJ15.out; omega
      case rel => exact ⟨(wrap64 (x7_1 + 1)), (y296), (.slice Ao71 y296.length co71), SD, H', ⟨by have := HK1.out; have := HJ15.out; omega⟩, ⟨RF HO298.out BK283.out⟩, ⟨BP BK280.out⟩, ⟨BP BK281.out⟩, ⟨BU BK283.out⟩, ⟨BL⟩⟩
     rw [if_pos c26] at H; have c26b0 : decide ((((rd_T45 l0_0 x7_1).f1).size : Int) < x9_15) = true := decide_eq_true c26; clear c26
     by_cases c27 : (((rd_T45 l0_0 x7_1).f1).size : Int) < ((rd_T45 l0_0 x7_1).f2)
     ·
      rw [if_pos c27] at H; have c27b0 : decide ((((rd_T45 l0_0 x7_1).f1).size : Int) < ((rd_T45 l0_0 x7_1).f2)) = true := decide_eq_true c27; clear c27
      by_cases c28 : 0 ≤ ((rd_T45 l0_0 x7_1).f2); rotate_left
      ·
       rw [if_neg c28] at H; exact absurd H (by simp)
      rw [if_pos c28] at H; have c28b0 := eq_true c28; have c28b1 : decide (0 ≤ ((rd_T45 l0_0 x7_1).f2)) = true := decide_eq_true c28; clear c28
      by_cases c29 : ((rd_T45 l0_0 x7_1).f2) ≤ (((rd_T45 l0_0 x7_1).f1).size : Int); rotate_left
      ·
       rw [if_neg c29] at H; exact absurd H (by simp)
      rw [if_pos c29] at H; have c29b0 := eq_true c29; have c29b1 : decide (((rd_T45 l0_0 x7_1).f2) ≤ (((rd_T45 l0_0 x7_1).f1).size : Int)) = true := decide_eq_true c29; clear c29
      by_cases c30 : x284000_1.length < 3518437208883; rotate_left
      ·
       rw [if_neg c30] at H; exact absurd H (by simp)
      rw [if_pos c30] at H; have LMc30 := Aside0.mk c30; clear c30; obtain ⟨y287, hy287⟩ : ∃ y_ : List (S45), y_ = (x284000_1 ++ [(⟨((rd_T45 l0_0 x7_1).f0), ((rd_T45 l0_0 x7_1).f1).extract 0 (((rd_T45 l0_0 x7_1).f2) : Int).toNat, ((rd_T45 l0_0 x7_1).f2)⟩ : S45)]) := ⟨_, rfl⟩
      replace H : (spec_LoseDisk.l0 kj15 l1 (wrap64 (x7_1 + 1)) l0_0 y287) = some (r1, r2) := by first | (rw [hy287]; with_reducible exact H) | (have H2_ := (Option.bind_some _ _).symm.trans H; rw [hy287]; with_reducible exact H2_) | (have H2_ := (Option.bind_some _ _).symm.trans H; with_reducible exact H2_) | with_reducible exact H | (rw [hy287]; exact H) | exact H
      have Ny287 := Aside0.mk hy287; clear hy287; have H' := Aside0.mk H; clear H; have hnb31 := NB285_280.out; have hnc31 := NB280_285.out; have hnb32 := NB285_281.out; have hnc32 := NB281_285.out; have hnb33 := NB285_283.out; have hnc33 := NB283_285.out; have hcz34_0 : wc.cell? ⟨gb285, 0, none⟩ = some (.string ((rd_T45 l0_0 x7_1).f0)) := CZ BK285.out 0; have hcz34_1 : wc.cell? ⟨gb285, 1, none⟩ = some (.string ((rd_T45 l0_0 x7_1).f1)) := CZ BK285.out 1; have hcz34_2 : wc.cell? ⟨gb285, 2, none⟩ = some (.int .i64 ((rd_T45 l0_0 x7_1).f2)) := CZ BK285.out 2; have hfz34_0 := blk_frozen BK285.out 0; have hfz34_1 := blk_frozen BK285.out 1; have hfz34_2 := blk_frozen BK285.out 2
      try go_wp2
      have n0_ := Aside0.mk (Kd.R_drew HO_284000.out); have n1_ := Aside0.mk (blk_drew BK280.out); have n2_ := Aside0.mk (blk_drew BK281.out); have n3_ := Aside0.mk (blk_drew BK283.out); have n4_ := Aside0.mk (blk_drew BK285.out); have n5_ := Aside0.mk (below_drew1 HB.out); clear HO_284000; clear BK280; clear BK281; clear BK283; clear BK285; clear HB; have HO_284000 := n0_; have BK280 := n1_; have BK281 := n2_; have BK283 := n3_; have BK285 := n4_; have HB := n5_; clear n0_ n1_ n2_ n3_ n4_ n5_; refine start_ (n := 14) (S := fun w' => w'.cell? ⟨gb283, 0, none⟩ = some (u284000) ∧ w'.cell? ⟨gb285, 0, none⟩ = some (.string ((rd_T45 l0_0 x7_1).f0)) ∧ w'.cell? ⟨gb285, 1, none⟩ = some (.string ((rd_T45 l0_0 x7_1).f1)) ∧ w'.cell? ⟨gb285, 2, none⟩ = some (.int .i64 ((rd_T45 l0_0 x7_1).f2))) (ds := [13]) #[false, false, false, false, false, false, false, false, false, false, false, false, false, false] (by kernel_rfl) rfl rfl ⟨CZ BK283.out 0, CZ BK285.out 0, CZ BK285.out 1, CZ BK285.out 2⟩ (fun hHeld => ?_); refine with_tabW spec_LoseDisk.tab15 spec_LoseDisk.bits15 (fun HT_ HW_ => ?_); generalize wc.drew = w35 at HO_284000 BK280 BK281 BK283 BK285 HB hHeld ⊢; refine pV 0 49 (OB 14 1) ?_; refine pV 2 51 (OB 14 5) ?_; refine pV 4 53 (OB 14 21) ?_; refine pV 6 55 (OB 14 85) ?_; refine pV 8 57 (OB 14 341) ?_; refine take_ (i := 1) (N := some 50) (v := ?_) (a' := ?_) (OB 14 343) rfl rfl (take_ofW HT_.out HW_.out (by kernel_rfl)) (fun _ _ _ h => h) (Or.inl ⟨by rfl, ?_⟩) hHeld ?_ ?_; rotate_left
      ·
       rintro w' ⟨s0, s1, s2, s3⟩
       go_simp
       with_reducible rfl
      rotate_left
      ·
       simp only [Act.put, zA, zB, zC, i64_w, i32_w]; rfl
      refine take_ (i := 3) (N := some 52) (v := ?_) (a' := ?_) (OB 14 351) rfl rfl (take_ofW HT_.out HW_.out (by kernel_rfl)) (fun _ _ _ h => h) (Or.inl ⟨by rfl, ?_⟩) hHeld ?_ ?_; rotate_left
      ·
       rintro w' ⟨s0, s1, s2, s3⟩
       go_simp
       with_reducible rfl
      rotate_left
      ·
       simp only [Act.put, zA, zB, zC, i64_w, i32_w]; rfl
      refine take_ (i := 5) (N := some 54) (v := ?_) (a' := ?_) (OB 14 383) rfl rfl (take_ofW HT_.out HW_.out (by kernel_rfl)) (fun _ _ _ h => h) (Or.inl ⟨by rfl, ?_⟩) hHeld ?_ ?_; rotate_left
      ·
       rintro w' ⟨s0, s1, s2, s3⟩
       go_simp
       with_reducible rfl
      rotate_left
      ·
       simp only [Act.put, zA, zB, zC, i64_w, i32_w]; rfl
      refine pV 7 56 (OB 14 511) ?_; refine pV 9 58 (OB 14 1023) ?_; refine one_ (i := 10) (N := some 59) (OB 14 2047) rfl rfl (one_of HT_.out (by kernel_rfl)) (by decide) (fun K hK => ?_); refine value_ (w1 := ?_) (v := ?_) (by rfl) rfl ?_ ?_; rotate_left 2
      ·
       go_simp
       constructor
       ·
        rfl
       ·
        rfl
      refine hK.out _ _ ⟨(blk_cell (blk_alloc BK283.out _) 0).trans rfl, (blk_cell (blk_alloc BK285.out _) 0).trans rfl, (blk_cell (blk_alloc BK285.out _) 1).trans rfl, (blk_cell (blk_alloc BK285.out _) 2).trans rfl⟩ (fun hHeld => ?_); clear hK K; refine norm_ (a' := ?_) ?_ ?_; rotate_left
      ·
       show Act.put _ (some 59) _ = _; simp only [Act.put, zA, zB, zC, i64_w, i32_w]; rfl
      refine one_ (i := 11) (N := some 60) (OB 14 4095) rfl rfl (one_of HT_.out (by kernel_rfl)) (by decide) (fun K hK => ?_); refine Kd.R_append_step k45 (w0 := w) w.heap.size (by rfl) (.tmp 50) (.tmp 59) 27 45 (.agg #[(.string ⟨#[]⟩), (.string ⟨#[]⟩), (.int .i64 0)]) 40 rfl Try.underlying27 info45 rfl (by decide) (by omega) u284000 x284000_1 (⟨((rd_T45 l0_0 x7_1).f0), ((rd_T45 l0_0 x7_1).f1).extract 0 (((rd_T45 l0_0 x7_1).f2) : Int).toNat, ((rd_T45 l0_0 x7_1).f2)⟩ : S45) [.string ((rd_T45 l0_0 x7_1).f0), .string (((rd_T45 l0_0 x7_1).f1).extract 0 (((rd_T45 l0_0 x7_1).f2) : Int).toNat), .int .i64 ((rd_T45 l0_0 x7_1).f2)] (fun k_ => k_ ≠ gb285) (fun _ => False) rfl rfl ?aP (fun _ hk => hk.elim) ?aF ?aO ?aB ?aS ?aL ?_
      (case aP => exact k45_mkM _ _ _ (⟨((rd_T45 l0_0 x7_1).f0), ((rd_T45 l0_0 x7_1).f1).extract 0 (((rd_T45 l0_0 x7_1).f2) : Int).toNat, ((rd_T45 l0_0 x7_1).f2)⟩ : S45))
      (case aB => exact (BL))
      (case aF => exact (fun k_ hk => Kd.freshB (g := gb285) (o := .cells #[.string ((rd_T45 l0_0 x7_1).f0), .string ((rd_T45 l0_0 x7_1).f1), .int .i64 ((rd_T45 l0_0 x7_1).f2)] 45 (0, 0)) (BQ BK285.out) k_ hk))
      (case aO => exact (RQ HO_284000.out))
      (case aS => exact (below_size (BL)))
      (case aL => have := LMc30.out; omega)
      intro v288 w36 ho hb hg hat; rw [← Ny287.out] at ho; have n0_ := Aside0.mk (blk_grown (g := gb280) (o := .cells #[.slice (some ad284) l0_0.length c0_0] 29 (0, 0)) (BQ BK280.out) hg (Kd.R_ne HO_284000.out BK280.out (by decide))); have n1_ := Aside0.mk (blk_grown (g := gb281) (o := .cells #[.slice none 0 0] 29 (0, 0)) (BQ BK281.out) hg (Kd.R_ne HO_284000.out BK281.out (by decide))); have n2_ := Aside0.mk (blk_grown (g := gb283) (o := .cells #[u284000] 29 (0, 0)) (BQ BK283.out) hg (Kd.R_ne HO_284000.out BK283.out (by decide))); have n3_ := Aside0.mk (blk_grown (g := gb285) (o := .cells #[.string ((rd_T45 l0_0 x7_1).f0), .string ((rd_T45 l0_0 x7_1).f1), .int .i64 ((rd_T45 l0_0 x7_1).f2)] 45 (0, 0)) (BQ BK285.out) hg (Kd.R_away HO_284000.out (fun _ hk => hk))); have n4_ := Aside0.mk (hb); have n5_ := Aside0.mk (ho); clear BK280; clear BK281; clear BK283; clear BK285; clear HB; clear HO_284000; have BK280 := n0_; have BK281 := n1_; have BK283 := n2_; have BK285 := n3_; have HB := n4_; have HO289 := n5_; clear n0_ n1_ n2_ n3_ n4_ n5_; clear ho hb hg hat; obtain ⟨Ao37, co37, eo37⟩ := Kd.R_slice HO289.out
      (first | subst eo37 | (injection eo37 with f1_ f2_ f3_; have f4_ := f1_.symm; have f5_ := f3_.symm; clear f1_ f2_ f3_; subst f4_; subst f5_))
      refine hK.out _ _ ⟨CZ BK283.out 0, CZ BK285.out 0, CZ BK285.out 1, CZ BK285.out 2⟩ (fun hHeld => ?_); clear hK K; refine norm_ (a' := ?_) ?_ ?_; rotate_left
      ·
       show Act.put _ (some 60) _ = _; simp only [Act.put, zA, zB, zC, i64_w, i32_w]; rfl
      refine pV 12 61 (OB 14 8191) ?_; refine last_ (i := 13) (N := none) #[true, true, true, true, true, true, true, true, true, true, true, true, true, true] rfl rfl (one_of HT_.out (by kernel_rfl)) (by decide) (fun K hK => ?_); have hs38 : w36.cell? ⟨gb283, 0, none⟩ = some (u284000) := CZ BK283.out 0; have hfs38 := blk_frozen BK283.out 0; have hns38_0 := NB280_283.out; have hns38_1 := NB281_283.out; have hns38_3 := NB285_283.out; have hms38_0 := NB283_280.out; have hms38_1 := NB283_281.out; have hms38_3 := NB283_285.out; refine skip_ (w1 := ?_) (by rfl) rfl ?_ ?_; rotate_left
      ·
       go_simp
       rfl
      refine hK.out _ _ ?_; clear hK K; refine done_ (done_of HT_.out (by kernel_rfl)) ?_
      try go_wp2
      go_roundg kj15
      case measure => have := HK1.out; have := HJ15.out; omega
      case rel => exact ⟨(wrap64 (x7_1 + 1)), (y287), (.slice Ao37 y287.length co37), SD, H', ⟨by have := HK1.out; have := HJ15.out; omega⟩, ⟨RF HO289.out BK283.out⟩, ⟨BP BK280.out⟩, ⟨BP BK281.out⟩, ⟨BU BK283.out⟩, ⟨BL⟩⟩
     rw [if_neg c27] at H; have c27b0 : decide ((((rd_T45 l0_0 x7_1).f1).size : Int) < ((rd_T45 l0_0 x7_1).f2)) = false := decide_eq_false c27; clear c27
     by_cases c39 : 0 ≤ (((rd_T45 l0_0 x7_1).f1).size : Int); rotate_left
     ·
      rw [if_neg c39] at H; exact absurd H (by simp)
     rw [if_pos c39] at H; have c39b0 := eq_true c39; have c39b1 : decide (0 ≤ (((rd_T45 l0_0 x7_1).f1).size : Int)) = true := decide_eq_true c39; clear c39
     by_cases c40 : (((rd_T45 l0_0 x7_1).f1).size : Int) ≤ (((rd_T45 l0_0 x7_1).f1).size : Int); rotate_left
     ·
      rw [if_neg c40] at H; exact absurd H (by simp)
     rw [if_pos c40] at H; have c40b0 := eq_true c40; have c40b1 : decide ((((rd_T45 l0_0 x7_1).f1).size : Int) ≤ (((rd_T45 l0_0 x7_1).f1).size : Int)) = true := decide_eq_true c40; clear c40
     by_cases c41 : x284000_1.length < 3518437208883; rotate_left
     ·
      rw [if_neg c41] at H; exact absurd H (by simp)
     rw [if_pos c41] at H; have LMc41 := Aside0.mk c41; clear c41; obtain ⟨y290, hy290⟩ : ∃ y_ : List (S45), y_ = (x284000_1 ++ [(⟨((rd_T45 l0_0 x7_1).f0), ((rd_T45 l0_0 x7_1).f1).extract 0 ((((rd_T45 l0_0 x7_1).f1).size : Int) : Int).toNat, (((rd_T45 l0_0 x7_1).f1).size : Int)⟩ : S45)]) := ⟨_, rfl⟩
     replace H : (spec_LoseDisk.l0 kj15 l1 (wrap64 (x7_1 + 1)) l0_0 y290) = some (r1, r2) := by first | (rw [hy290]; with_reducible exact H) | (have H2_ := (Option.bind_some _ _).symm.trans H; rw [hy290]; with_reducible exact H2_) | (have H2_ := (Option.bind_some _ _).symm.trans H; with_reducible exact H2_) | with_reducible exact H | (rw [hy290]; exact H) | exact H
     have Ny290 := Aside0.mk hy290; clear hy290; have H' := Aside0.mk H; clear H; have hnb42 := NB285_280.out; have hnc42 := NB280_285.out; have hnb43 := NB285_281.out; have hnc43 := NB281_285.out; have hnb44 := NB285_283.out; have hnc44 := NB283_285.out; have hcz45_0 : wc.cell? ⟨gb285, 0, none⟩ = some (.string ((rd_T45 l0_0 x7_1).f0)) := CZ BK285.out 0; have hcz45_1 : wc.cell? ⟨gb285, 1, none⟩ = some (.string ((rd_T45 l0_0 x7_1).f1)) := CZ BK285.out 1; have hcz45_2 : wc.cell? ⟨gb285, 2, none⟩ = some (.int .i64 ((rd_T45 l0_0 x7_1).f2)) := CZ BK285.out 2; have hfz45_0 := blk_frozen BK285.out 0; have hfz45_1 := blk_frozen BK285.out 1; have hfz45_2 := blk_frozen BK285.out 2
     try go_wp2
     have n0_ := Aside0.mk (Kd.R_drew HO_284000.out); have n1_ := Aside0.mk (blk_drew BK280.out); have n2_ := Aside0.mk (blk_drew BK281.out); have n3_ := Aside0.mk (blk_drew BK283.out); have n4_ := Aside0.mk (blk_drew BK285.out); have n5_ := Aside0.mk (below_drew1 HB.out); clear HO_284000; clear BK280; clear BK281; clear BK283; clear BK285; clear HB; have HO_284000 := n0_; have BK280 := n1_; have BK281 := n2_; have BK283 := n3_; have BK285 := n4_; have HB := n5_; clear n0_ n1_ n2_ n3_ n4_ n5_; refine start_ (n := 14) (S := fun w' => w'.cell? ⟨gb283, 0, none⟩ = some (u284000) ∧ w'.cell? ⟨gb285, 0, none⟩ = some (.string ((rd_T45 l0_0 x7_1).f0)) ∧ w'.cell? ⟨gb285, 1, none⟩ = some (.string ((rd_T45 l0_0 x7_1).f1)) ∧ w'.cell? ⟨gb285, 2, none⟩ = some (.int .i64 ((rd_T45 l0_0 x7_1).f2))) (ds := [13]) #[false, false, false, false, false, false, false, false, false, false, false, false, false, false] (by kernel_rfl) rfl rfl ⟨CZ BK283.out 0, CZ BK285.out 0, CZ BK285.out 1, CZ BK285.out 2⟩ (fun hHeld => ?_); refine with_tabW spec_LoseDisk.tab15 spec_LoseDisk.bits15 (fun HT_ HW_ => ?_); generalize wc.drew = w46 at HO_284000 BK280 BK281 BK283 BK285 HB hHeld ⊢; refine pV 0 49 (OB 14 1) ?_; refine pV 2 51 (OB 14 5) ?_; refine pV 4 53 (OB 14 21) ?_; refine pV 6 55 (OB 14 85) ?_; refine pV 8 57 (OB 14 341) ?_; refine take_ (i := 1) (N := some 50) (v := ?_) (a' := ?_) (OB 14 343) rfl rfl (take_ofW HT_.out HW_.out (by kernel_rfl)) (fun _ _ _ h => h) (Or.inl ⟨by rfl, ?_⟩) hHeld ?_ ?_; rotate_left
     ·
      rintro w' ⟨s0, s1, s2, s3⟩
      go_simp
      with_reducible rfl
     rotate_left
     ·
      simp only [Act.put, zA, zB, zC, i64_w, i32_w]; rfl
     refine take_ (i := 3) (N := some 52) (v := ?_) (a' := ?_) (OB 14 351) rfl rfl (take_ofW HT_.out HW_.out (by kernel_rfl)) (fun _ _ _ h => h) (Or.inl ⟨by rfl, ?_⟩) hHeld ?_ ?_; rotate_left
     ·
      rintro w' ⟨s0, s1, s2, s3⟩
      go_simp
      with_reducible rfl
     rotate_left
     ·
      simp only [Act.put, zA, zB, zC, i64_w, i32_w]; rfl
     refine take_ (i := 5) (N := some 54) (v := ?_) (a' := ?_) (OB 14 383) rfl rfl (take_ofW HT_.out HW_.out (by kernel_rfl)) (fun _ _ _ h => h) (Or.inl ⟨by rfl, ?_⟩) hHeld ?_ ?_; rotate_left
     ·
      rintro w' ⟨s0, s1, s2, s3⟩
      go_simp
      with_reducible rfl
     rotate_left
     ·
      simp only [Act.put, zA, zB, zC, i64_w, i32_w]; rfl
     refine pV 7 56 (OB 14 511) ?_; refine pV 9 58 (OB 14 1023) ?_; refine one_ (i := 10) (N := some 59) (OB 14 2047) rfl rfl (one_of HT_.out (by kernel_rfl)) (by decide) (fun K hK => ?_); refine value_ (w1 := ?_) (v := ?_) (by rfl) rfl ?_ ?_; rotate_left 2
     ·
      go_simp
      constructor
      ·
       rfl
      ·
       rfl
     refine hK.out _ _ ⟨(blk_cell (blk_alloc BK283.out _) 0).trans rfl, (blk_cell (blk_alloc BK285.out _) 0).trans rfl, (blk_cell (blk_alloc BK285.out _) 1).trans rfl, (blk_cell (blk_alloc BK285.out _) 2).trans rfl⟩ (fun hHeld => ?_); clear hK K; refine norm_ (a' := ?_) ?_ ?_; rotate_left
     ·
      show Act.put _ (some 59) _ = _; simp only [Act.put, zA, zB, zC, i64_w, i32_w]; rfl
     refine one_ (i := 11) (N := some 60) (OB 14 4095) rfl rfl (one_of HT_.out (by kernel_rfl)) (by decide) (fun K hK => ?_); refine Kd.R_append_step k45 (w0 := w) w.heap.size (by rfl) (.tmp 50) (.tmp 59) 27 45 (.agg #[(.string ⟨#[]⟩), (.string ⟨#[]⟩), (.int .i64 0)]) 40 rfl Try.underlying27 info45 rfl (by decide) (by omega) u284000 x284000_1 (⟨((rd_T45 l0_0 x7_1).f0), ((rd_T45 l0_0 x7_1).f1), (((rd_T45 l0_0 x7_1).f1).size : Int)⟩ : S45) [.string ((rd_T45 l0_0 x7_1).f0), .string (((rd_T45 l0_0 x7_1).f1)), .int .i64 (((rd_T45 l0_0 x7_1).f1).size : Int)] (fun k_ => k_ ≠ gb285) (fun _ => False) rfl rfl ?aP (fun _ hk => hk.elim) ?aF ?aO ?aB ?aS ?aL ?_
     (case aP => exact k45_mkM _ _ _ (⟨((rd_T45 l0_0 x7_1).f0), ((rd_T45 l0_0 x7_1).f1), (((rd_T45 l0_0 x7_1).f1).size : Int)⟩ : S45))
     (case aB => exact (BL))
     (case aF => exact (fun k_ hk => Kd.freshB (g := gb285) (o := .cells #[.string ((rd_T45 l0_0 x7_1).f0), .string ((rd_T45 l0_0 x7_1).f1), .int .i64 ((rd_T45 l0_0 x7_1).f2)] 45 (0, 0)) (BQ BK285.out) k_ hk))
     (case aO => exact (RQ HO_284000.out))
     (case aS => exact (below_size (BL)))
     (case aL => have := LMc41.out; omega)
     intro v291 w47 ho hb hg hat; replace Ny290 := Aside0.mk (Ny290.out.trans (by rw [show ((rd_T45 l0_0 x7_1).f1).extract 0 ((((rd_T45 l0_0 x7_1).f1).size : Int) : Int).toNat = (rd_T45 l0_0 x7_1).f1 from by simp]) : _ = x284000_1 ++ [(⟨((rd_T45 l0_0 x7_1).f0), ((rd_T45 l0_0 x7_1).f1), (((rd_T45 l0_0 x7_1).f1).size : Int)⟩ : S45)]); rw [← Ny290.out] at ho; have n0_ := Aside0.mk (blk_grown (g := gb280) (o := .cells #[.slice (some ad284) l0_0.length c0_0] 29 (0, 0)) (BQ BK280.out) hg (Kd.R_ne HO_284000.out BK280.out (by decide))); have n1_ := Aside0.mk (blk_grown (g := gb281) (o := .cells #[.slice none 0 0] 29 (0, 0)) (BQ BK281.out) hg (Kd.R_ne HO_284000.out BK281.out (by decide))); have n2_ := Aside0.mk (blk_grown (g := gb283) (o := .cells #[u284000] 29 (0, 0)) (BQ BK283.out) hg (Kd.R_ne HO_284000.out BK283.out (by decide))); have n3_ := Aside0.mk (blk_grown (g := gb285) (o := .cells #[.string ((rd_T45 l0_0 x7_1).f0), .string ((rd_T45 l0_0 x7_1).f1), .int .i64 ((rd_T45 l0_0 x7_1).f2)] 45 (0, 0)) (BQ BK285.out) hg (Kd.R_away HO_284000.out (fun _ hk => hk))); have n4_ := Aside0.mk (hb); have n5_ := Aside0.mk (ho); clear BK280; clear BK281; clear BK283; clear BK285; clear HB; clear HO_284000; have BK280 := n0_; have BK281 := n1_; have BK283 := n2_; have BK285 := n3_; have HB := n4_; have HO292 := n5_; clear n0_ n1_ n2_ n3_ n4_ n5_; clear ho hb hg hat; obtain ⟨Ao48, co48, eo48⟩ := Kd.R_slice HO292.out
     (first | subst eo48 | (injection eo48 with f1_ f2_ f3_; have f4_ := f1_.symm; have f5_ := f3_.symm; clear f1_ f2_ f3_; subst f4_; subst f5_))
     refine hK.out _ _ ⟨CZ BK283.out 0, CZ BK285.out 0, CZ BK285.out 1, CZ BK285.out 2⟩ (fun hHeld => ?_); clear hK K; refine norm_ (a' := ?_) ?_ ?_; rotate_left
     ·
      show Act.put _ (some 60) _ = _; simp only [Act.put, zA, zB, zC, i64_w, i32_w]; rfl
     refine pV 12 61 (OB 14 8191) ?_; refine last_ (i := 13) (N := none) #[true, true, true, true, true, true, true, true, true, true, true, true, true, true] rfl rfl (one_of HT_.out (by kernel_rfl)) (by decide) (fun K hK => ?_); have hs49 : w47.cell? ⟨gb283, 0, none⟩ = some (u284000) := CZ BK283.out 0; have hfs49 := blk_frozen BK283.out 0; have hns49_0 := NB280_283.out; have hns49_1 := NB281_283.out; have hns49_3 := NB285_283.out; have hms49_0 := NB283_280.out; have hms49_1 := NB283_281.out; have hms49_3 := NB283_285.out; refine skip_ (w1 := ?_) (by rfl) rfl ?_ ?_; rotate_left
     ·
      go_simp
      rfl
     refine hK.out _ _ ?_; clear hK K; refine done_ (done_of HT_.out (by kernel_rfl)) ?_
     try go_wp2
     go_roundg kj15
     case measure => have := HK1.out; have := HJ15.out; omega
     case rel => exact ⟨(wrap64 (x7_1 + 1)), (y290), (.slice Ao48 y290.length co48), SD, H', ⟨by have := HK1.out; have := HJ15.out; omega⟩, ⟨RF HO292.out BK283.out⟩, ⟨BP BK280.out⟩, ⟨BP BK281.out⟩, ⟨BU BK283.out⟩, ⟨BL⟩⟩

/-! ### spec_l03At: function 53 -/
def spec_l03At.l0 : Nat → ByteArray → Int → List (S45) → Option (Int)
 | 0, _, _, _ => none
 | k + 1, x1, x5, x300000 => if x5 < (x300000.length : Int) then (if 0 ≤ x5 then (if ((rd_T45 x300000 x5).f0).toList = x1.toList then (some x5) else (spec_l03At.l0 k x1 (wrap64 (x5 + 1)) x300000)) else (none)) else (some (-1))
def spec_l03At.f (k : Nat) (l0_0 : List (S45)) (a1 : ByteArray) : Option (Int) := spec_l03At.l0 k a1 0 l0_0
theorem spec_l03At.mono_l : ∀ k, (∀ y0 y1 y2, LeO (spec_l03At.l0 k y0 y1 y2) (spec_l03At.l0 (k + 1) y0 y1 y2))
 | 0 => fun _ _ _ r h => by simp [spec_l03At.l0] at h
 | k + 1 => by
  have ih0 := spec_l03At.mono_l k
  ·
   intro y0 y1 y2
   unfold spec_l03At.l0
   repeat' first
   | (with_reducible exact ih0 _ _ _)
   | (with_reducible exact LeO.refl _)
   | (with_reducible exact LeO.none _)
   | (with_reducible refine LeO.ite ?_ ?_)
   | (with_reducible refine LeO.bind ?_ (fun _ => ?_))
   | exact ih0 _ _ _
   | exact LeO.none _
   | refine LeO.ite ?_ ?_
   | refine LeO.bind ?_ (fun _ => ?_)
theorem spec_l03At.mono : ∀ a0 a1 k, LeO (spec_l03At.f k a0 a1) (spec_l03At.f (k + 1) a0 a1) := by
 intro a0 a1 k
 have ih0 := spec_l03At.mono_l k
 unfold spec_l03At.f
 repeat' first
   | (with_reducible exact ih0 _ _ _)
   | (with_reducible exact LeO.refl _)
   | (with_reducible exact LeO.none _)
   | (with_reducible refine LeO.ite ?_ ?_)
   | (with_reducible refine LeO.bind ?_ (fun _ => ?_))
   | exact ih0 _ _ _
   | exact LeO.none _
   | refine LeO.ite ?_ ?_
   | refine LeO.bind ?_ (fun _ => ?_)
set_option maxHeartbeats 8000000 in
set_option maxRecDepth 100000 in
theorem spec_l03At.calls (k : Nat) (A0_0 : Option Addr) (c0_0 : Nat) (l0_0 : List (S45)) (a1 : ByteArray) (r : Int) (w : World) (hr0_0 : Kd.C k45 w A0_0 l0_0.length l0_0) (hc0_0 : l0_0.length ≤ c0_0) (h : spec_l03At.f k l0_0 a1 = some r) :
  Calls Try.prog 53 #[.agg #[.slice A0_0 l0_0.length c0_0], .string a1] w fun e w' => e = .returned (.int .i64 r) ∧ Below w.heap.size w w' := by
 have hu29 := Try.underlying29
 have HR0_0 := Aside0.mk hr0_0
 have HC0_0 := Aside0.mk hc0_0
 clear hr0_0 hc0_0
 have HB := Aside0.mk (Below.refl w.heap.size w)
 have H : (spec_l03At.l0 k a1 0 l0_0) = some r := h
 clear h
 have H' := Aside0.mk H
 clear H
 go_enter Try.func53, Try.ntmps53
 go_wp2_with (first | ((with_reducible refine gate_dst (N := 2) rfl ?_); refine bE 2 #[.slice A0_0 l0_0.length c0_0] 29 ?_; intro gb299 hg w3 hbox hb; have BK299 := Aside0.mk (hbox); have GW299 : Aside0 (w.heap.size ≤ gb299) := GS; have GE299 := GW299; replace HB := Aside0.mk (below_step (BL) hb); clear hb hbox hg))
 go_loopg [5] k (fun kq v5 w' => ∃ (x5_1 : Int), v5 = .int .i64 x5_1 ∧ Aside0 (spec_l03At.l0 kq a1 x5_1 l0_0 = some r) ∧ Aside0 (kq ≤ k) ∧ Aside0 (w'.heap[gb299]? = some (.cells #[(.slice A0_0 l0_0.length c0_0)] 29 (0, 0))) ∧ Aside0 (Below w.heap.size w w'))
 case atStart => exact ⟨(0), SD, H', ⟨Nat.le_refl _⟩, ⟨BQ BK299.out⟩, ⟨BL⟩⟩
 case round =>
  clear H'
  try clear p2
  obtain ⟨x5_1, rfl, HA, HK1, BK299, HB⟩ := hrel; cases gk with
  | zero => exact absurd HA.out (by simp [spec_l03At.l0])
  | succ k1 =>
   have H := HA.out; clear HA; simp only [spec_l03At.l0] at H
   by_cases c4 : x5_1 < (l0_0.length : Int); rotate_left
   ·
    rw [if_neg c4] at H; have c4b0 : decide (x5_1 < (l0_0.length : Int)) = false := decide_eq_false c4; clear c4; obtain rfl := Option.some.inj H; have hcz9_0 : wr.cell? ⟨gb299, 0, none⟩ = some (.slice A0_0 l0_0.length c0_0) := CZ BK299.out 0; have hfz9_0 := blk_frozen BK299.out 0
    go_wp2
    go_ret
    exact ⟨EE, BL⟩
   rw [if_pos c4] at H; have c4b0 : decide (x5_1 < (l0_0.length : Int)) = true := decide_eq_true c4; clear c4
   by_cases c5 : 0 ≤ x5_1; rotate_left
   ·
    rw [if_neg c5] at H; exact absurd H (by simp)
   rw [if_pos c5] at H; have c5b0 : decide (0 ≤ x5_1) = true := decide_eq_true c5; clear c5
   by_cases c6 : ((rd_T45 l0_0 x5_1).f0).toList = a1.toList
   ·
    rw [if_pos c6] at H; have c6b0 : (((rd_T45 l0_0 x5_1).f0).toList == a1.toList) = true := beq_iff_eq.mpr c6; have c6b1 : (((rd_T45 l0_0 x5_1).f0).toList != a1.toList) = false := bne_eq_false_iff_eq.mpr c6; clear c6; obtain rfl := Option.some.inj H; have hcz7_0 : wr.cell? ⟨gb299, 0, none⟩ = some (.slice A0_0 l0_0.length c0_0) := CZ BK299.out 0; have hfz7_0 := blk_frozen BK299.out 0; have p300 : 0 ≤ (x5_1 : Int) := of_decide_eq_true AS; have q300 : x5_1 < (l0_0.length : Int) := of_decide_eq_true AS; obtain ⟨ad300, e300, hx300_0, hx300_1, hx300_2⟩ := at_T45 HR0_0.out x5_1 p300 q300; cases e300; replace hx300_0 := (HB.out.cell (World.block_lt_of_cell? w _ hx300_0)).trans hx300_0; replace hx300_1 := (HB.out.cell (World.block_lt_of_cell? w _ hx300_1)).trans hx300_1; replace hx300_2 := (HB.out.cell (World.block_lt_of_cell? w _ hx300_2)).trans hx300_2; replace p300 := eq_true p300; replace q300 := eq_true q300
    go_wp2
    go_ret
    exact ⟨EE, BL⟩
   rw [if_neg c6] at H; have c6b0 : (((rd_T45 l0_0 x5_1).f0).toList == a1.toList) = false := beq_eq_false_iff_ne.mpr c6; have c6b1 : (((rd_T45 l0_0 x5_1).f0).toList != a1.toList) = true := bne_iff_ne.mpr c6; have H' := Aside0.mk H; clear H; have hcz8_0 : wr.cell? ⟨gb299, 0, none⟩ = some (.slice A0_0 l0_0.length c0_0) := CZ BK299.out 0; have hfz8_0 := blk_frozen BK299.out 0; have p300 : 0 ≤ (x5_1 : Int) := of_decide_eq_true AS; have q300 : x5_1 < (l0_0.length : Int) := of_decide_eq_true AS; obtain ⟨ad300, e300, hx300_0, hx300_1, hx300_2⟩ := at_T45 HR0_0.out x5_1 p300 q300; cases e300; replace hx300_0 := (HB.out.cell (World.block_lt_of_cell? w _ hx300_0)).trans hx300_0; replace hx300_1 := (HB.out.cell (World.block_lt_of_cell? w _ hx300_1)).trans hx300_1; replace hx300_2 := (HB.out.cell (World.block_lt_of_cell? w _ hx300_2)).trans hx300_2; replace p300 := eq_true p300; replace q300 := eq_true q300
   go_wp2
   go_roundg k1
   case measure => have := HK1.out; omega
   case rel => exact ⟨(wrap64 (x5_1 + 1)), SD, H', ⟨by have := HK1.out; omega⟩, ⟨BQ BK299.out⟩, ⟨BL⟩⟩

end Go.Proofs.Ythfppepnpngfmaa.Qcu
