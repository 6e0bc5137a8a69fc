-- Laid by myprint.py, a program of this session's own, over the kit's print. Not trusted: Lean checks it.
import Derived.Test.YthfppepnpngfmaaQdox0
import Derived.Test.YthfppepnpngfmaaQdox2
import Derived.Test.YthfppepnpngfmaaQdox12
import Derived.Test.YthfppepnpngfmaaQdox13
namespace Go.Proofs.Ythfppepnpngfmaa.Qdo
open Go.RowKit Go.Proofs.YthfppepnpngfmaaW.PrintWords Go.Proofs.YthfppepnpngfmaaW.PrintLast Go.Proofs.YthfppepnpngfmaaW.PrintMore
attribute [local go_sem] Go.Proofs.Ythfppepnpngfmaa.StrCmp.gtr_less Go.Proofs.Ythfppepnpngfmaa.StrCmp.geq_less Go.Proofs.Ythfppepnpngfmaa.StrCmp.leq_less max2_int min2_int max_two min_two max_three min_three max_four min_four   -- for this text's walks alone
set_option linter.unusedVariables false
set_option linter.unusedSimpArgs false

/-! ### impl_DoActs: function 41 -/
def impl_DoActs.l0 : Nat → List (S55) → List (S55) → Int → Int → List (S45) → Option ((List (S45)) × Int)
 | 0, _, _, _, _, _ => none
 | k + 1, x1, x13, x14, x15, x296000 => if x15 < x14 then (if 0 ≤ x15 then (if x15 < (x13.length : Int) then ((impl_DoAct.f k x296000 ((rd_T55 x13 x15).f0) ((rd_T55 x13 x15).f1) ((rd_T55 x13 x15).f2) ((rd_T55 x13 x15).f3)).bind fun bt298 => (if bt298.2 = true then (impl_DoActs.l0 k x1 x13 x14 (wrap64 (x15 + 1)) bt298.1) else (some (x296000, x15)))) else (none)) else (none)) else (some (x296000, (x1.length : Int)))
def impl_DoActs.f (k : Nat) (l0_0 : List (S45)) (l1 : List (S55)) : Option ((List (S45)) × Int) := (impl_copyDisk.f l0_0).bind fun t292 => (impl_DoActs.l0 k l1 l1 (l1.length : Int) 0 t292)
theorem impl_DoActs.mono_l : ∀ k, (∀ y0 y1 y2 y3 y4, LeO (impl_DoActs.l0 k y0 y1 y2 y3 y4) (impl_DoActs.l0 (k + 1) y0 y1 y2 y3 y4))
 | 0 => fun _ _ _ _ _ r h => by simp [impl_DoActs.l0] at h
 | k + 1 => by
  have ih0 := impl_DoActs.mono_l k
  ·
   intro y0 y1 y2 y3 y4
   unfold impl_DoActs.l0
   repeat' first
   | (with_reducible exact ih0 _ _ _ _ _)
   | (with_reducible exact impl_DoAct.mono _ _ _ _ _ _)
   | (with_reducible exact LeO.refl _)
   | (with_reducible exact LeO.none _)
   | (with_reducible refine LeO.ite ?_ ?_)
   | (with_reducible refine LeO.bind ?_ (fun _ => ?_))
   | exact ih0 _ _ _ _ _
   | exact impl_DoAct.mono _ _ _ _ _ _
   | exact LeO.none _
   | refine LeO.ite ?_ ?_
   | refine LeO.bind ?_ (fun _ => ?_)
theorem impl_DoActs.mono : ∀ a0 a1 k, LeO (impl_DoActs.f k a0 a1) (impl_DoActs.f (k + 1) a0 a1) := by
 intro a0 a1 k
 have ih0 := impl_DoActs.mono_l k
 unfold impl_DoActs.f
 repeat' first
   | (with_reducible exact ih0 _ _ _ _ _)
   | (with_reducible exact impl_DoAct.mono _ _ _ _ _ _)
   | (with_reducible exact LeO.refl _)
   | (with_reducible exact LeO.none _)
   | (with_reducible refine LeO.ite ?_ ?_)
   | (with_reducible refine LeO.bind ?_ (fun _ => ?_))
   | exact ih0 _ _ _ _ _
   | exact impl_DoAct.mono _ _ _ _ _ _
   | exact LeO.none _
   | refine LeO.ite ?_ ?_
   | refine LeO.bind ?_ (fun _ => ?_)
set_option maxHeartbeats 8000000 in
set_option maxRecDepth 100000 in
theorem impl_DoActs.calls (k : Nat) (A0_0 : Option Addr) (c0_0 : Nat) (l0_0 : List (S45)) (A1 : Option Addr) (c1 : Nat) (l1 : List (S55)) (r1 : List (S45)) (r2 : Int) (w : World) (hr0_0 : Kd.C k45 w A0_0 l0_0.length l0_0) (hc0_0 : l0_0.length ≤ c0_0) (hr1 : Kd.C k55 w A1 l1.length l1) (hc1 : l1.length ≤ c1) (h : impl_DoActs.f k l0_0 l1 = some (r1, r2)) :
  Calls Try.prog 41 #[.agg #[.slice A0_0 l0_0.length c0_0], .slice A1 l1.length c1] w fun e w' => ∃ v0_ : Value, e = .returned (.tuple #[.agg #[v0_], .int .i64 r2]) ∧ Kd.R k45 45 w' w.heap.size (fun _ => True) v0_ r1 ∧ Below w.heap.size w w' := by
 have hu29 := Try.underlying29
 have hu55 := Try.underlying55
 have HR0_0 := Aside0.mk hr0_0
 have HC0_0 := Aside0.mk hc0_0
 clear hr0_0 hc0_0
 have HR1 := Aside0.mk hr1
 have HC1 := Aside0.mk hc1
 clear hr1 hc1
 have HB := Aside0.mk (Below.refl w.heap.size w)
 have H : ((impl_copyDisk.f l0_0).bind fun t292 => (impl_DoActs.l0 k l1 l1 (l1.length : Int) 0 t292)) = some (r1, r2) := h
 clear h
 replace H := Option.bind_eq_some_iff.mp H
 obtain ⟨t292, A30, H⟩ := H
 replace H : (impl_DoActs.l0 k l1 l1 (l1.length : Int) 0 t292) = some (r1, r2) := H
 have A3 := Aside0.mk A30
 clear A30
 have H' := Aside0.mk H
 clear H
 go_enter Try.func41, Try.ntmps41
 go_wp2_with (first | ((with_reducible refine gate_dst (N := 2) rfl ?_); refine bE 2 #[.slice A0_0 l0_0.length c0_0] 29 ?_; intro gb290 hg w4 hbox hb; have BK290 := Aside0.mk (hbox); have GW290 : Aside0 (w.heap.size ≤ gb290) := GS; have GE290 : Aside0 (w.heap.size ≤ gb290) := GS; replace HB := Aside0.mk (below_step (BL) hb); clear hb hbox hg) | ((with_reducible refine gate_dst (N := 4) rfl ?_); refine bE 4 #[.slice none 0 0] 29 ?_; intro gb291 hg w5 hbox hb; have BK291 := Aside0.mk (hbox); have GW291 : Aside0 (w.heap.size ≤ gb291) := GS; have GE291 : Aside0 (w.heap.size ≤ gb291) := GS; have NB290_291 := NL BK290.out hg; have NB291_290 := NG BK290.out hg; replace BK290 := BB BK290.out hb; replace HB := Aside0.mk (below_step (BL) hb); clear hb hbox hg; have hnb6 := NB290_291.out; have hnc6 := NB291_290.out; have hcz7_0 : w5.cell? ⟨gb290, 0, none⟩ = some (.slice A0_0 l0_0.length c0_0) := CZ BK290.out 0; have hfz7_0 := blk_frozen BK290.out 0) | ((with_reducible refine gate_callee (f := 61) rfl ?_); refine goesL_ (some 12) rfl rfl Try.func61 (by kernel_rfl) rfl #[.agg #[.slice A0_0 l0_0.length c0_0]] rfl (MA) ?_; (with_reducible refine (impl_copyDisk.calls _ _ l0_0 t292 _ ?side1 ?side2 A3.out).mono ?_); (case side1 => repeat (first | exact (Kd.C_below HR0_0.out HB.out) | (with_reducible refine Kd.C_alloc ?_ _) | (with_reducible refine Kd.C_drewN ?_ _) | (with_reducible refine Kd.C_drew ?_))); (case side2 => exact HC0_0.out); rintro e w8 ⟨v293, rfl, ho0, hb⟩; refine ⟨_, rfl, ?_⟩; have HO294 := Aside0.mk (Kd.R_lower ho0 (below_size (BL))); replace BK290 := BB BK290.out hb; replace BK291 := BB BK291.out hb; replace HB := Aside0.mk (below_step (BL) hb); (try clear hb); (try clear hb2); (try clear hk); (try clear hi); (try clear ho0)) | ((with_reducible refine gate_dst (N := 6) rfl ?_); refine bE 6 #[.slice none 0 0] 29 ?_; intro gb295 hg w9 hbox hb; have BK295 := Aside0.mk (hbox); have GW295 : Aside0 (w.heap.size ≤ gb295) := GS; have GE295 : Aside0 (w.heap.size ≤ gb295) := GS; have NB290_295 := NL BK290.out hg; have NB295_290 := NG BK290.out hg; have NB291_295 := NL BK291.out hg; have NB295_291 := NG BK291.out hg; replace HO294 := Aside0.mk (Kd.R_below (RQ HO294.out) hb); replace BK290 := BB BK290.out hb; replace BK291 := BB BK291.out hb; replace HB := Aside0.mk (below_step (BL) hb); clear hb hbox hg; obtain ⟨Ao10, co10, eo10⟩ := Kd.R_slice HO294.out; subst eo10; have hnb11 := NB295_290.out; have hnc11 := NB290_295.out; have hnb12 := NB295_291.out; have hnc12 := NB291_295.out; have hcz13_0 : w9.cell? ⟨gb295, 0, none⟩ = some (.slice none 0 0) := CZ BK295.out 0; have hfz13_0 := blk_frozen BK295.out 0))
 go_loopg [15] k (fun kq v15 w' => ∃ (x15_1 : Int) (x296000_1 : List (S45)) (u296000 : Value), v15 = .int .i64 x15_1 ∧ Aside0 (impl_DoActs.l0 kq l1 l1 (l1.length : Int) x15_1 x296000_1 = some (r1, r2)) ∧ Aside0 (kq ≤ k) ∧ Aside0 (Kd.R k45 45 w' w.heap.size (fun _ => True) u296000 x296000_1) ∧ Aside0 (w'.heap[gb290]? = some (.cells #[(.slice A0_0 l0_0.length c0_0)] 29 (0, 0))) ∧ Aside0 (w'.heap[gb291]? = some (.cells #[(.slice none 0 0)] 29 (0, 0))) ∧ Aside0 (w'.heap[gb295]? = some (.cells #[u296000] 29 (0, 0))) ∧ Aside0 (Below w.heap.size w w'))
 case atStart => exact ⟨(0), (t292), (.slice Ao10 t292.length co10), SD, H', ⟨Nat.le_refl _⟩, ⟨by (with_reducible repeat (first | apply r1 | apply r2 | apply r3)); exact Kd.R_mono (Kd.R_far (p := ⟨gb295, 0, none⟩) (Kd.R_types HO294.out BK295.out (by decide)) (fun _ hk => hk.2) (.slice Ao10 t292.length co10)) (fun _ hk => trivial)⟩, ⟨by (with_reducible repeat (first | apply b1 | apply b2 | apply b3)); refine blk_far ?_ NB290_295.out _; (with_reducible repeat (first | apply b1 | apply b2 | apply b3)); exact BK290.out⟩, ⟨by (with_reducible repeat (first | apply b1 | apply b2 | apply b3)); refine blk_far ?_ NB291_295.out _; (with_reducible repeat (first | apply b1 | apply b2 | apply b3)); exact BK291.out⟩, ⟨by (with_reducible repeat (first | apply b1 | apply b2 | apply b3)); refine blk_put (cs := #[.slice none 0 0]) ?_ 0 _ rfl; (with_reducible repeat (first | apply b1 | apply b2 | apply b3)); exact BK295.out⟩, ⟨BL⟩⟩
 case round =>
  clear H'
  try clear c1
  try clear p2
  try clear c4
  try clear c6
  try clear c11
  try clear c12
  try clear hcz13_0
  try clear hcz7_0
  try clear hfz13_0
  try clear hfz7_0
  obtain ⟨x15_1, x296000_1, u296000, rfl, HA, HK1, HO_296000, BK290, BK291, BK295, HB⟩ := hrel
  cases gk with
  | zero => exact absurd HA.out (by simp [impl_DoActs.l0])
  | succ k1 =>
   have H := HA.out
   clear HA
   simp only [impl_DoActs.l0] at H
   by_cases c14 : x15_1 < (l1.length : Int); rotate_left
   ·
    rw [if_neg c14] at H
    have c14b0 : decide (x15_1 < (l1.length : Int)) = false := decide_eq_false c14
    clear c14
    simp only [Option.some.injEq, Prod.mk.injEq] at H
    obtain ⟨rfl, rfl⟩ := H
    have hnb57 := NB295_290.out
    have hnc57 := NB290_295.out
    have hnb58 := NB295_291.out
    have hnc58 := NB291_295.out
    have hcz59_0 : wr.cell? ⟨gb295, 0, none⟩ = some (u296000) := CZ BK295.out 0
    have hfz59_0 := blk_frozen BK295.out 0
    obtain ⟨Ao60, co60, eo60⟩ := Kd.R_slice HO_296000.out
    subst eo60
    have hnb61 := NB291_290.out
    have hnc61 := NB290_291.out
    have hcz62_0 : wr.cell? ⟨gb291, 0, none⟩ = some (.slice none 0 0) := CZ BK291.out 0
    have hfz62_0 := blk_frozen BK291.out 0
    go_wp2
    refine bodyPost_ret (results_ct rfl _ _ gb291 29 #[.slice Ao60 x296000_1.length co60] (0, 0) _ rfl (by (with_reducible repeat (first | apply b1 | apply b2 | apply b3)); refine blk_put (cs := #[.slice none 0 0]) ?_ 0 _ rfl; (with_reducible repeat (first | apply b1 | apply b2 | apply b3)); exact BK291.out) Try.underlying29 rfl (by kernel_rfl)) rfl ?_
    exact ⟨_, EE, by (with_reducible repeat (first | apply r1 | apply r2 | apply r3)); exact Kd.R_mono (Kd.R_far (p := ⟨gb291, 0, none⟩) (Kd.R_types HO_296000.out BK291.out (by decide)) (fun _ hk => hk.2) (.slice Ao60 x296000_1.length co60)) (fun _ hk => trivial), BL⟩
   rw [if_pos c14] at H
   have c14b0 : decide (x15_1 < (l1.length : Int)) = true := decide_eq_true c14
   clear c14
   by_cases c15 : 0 ≤ x15_1; rotate_left
   ·
    rw [if_neg c15] at H
    exact absurd H (by simp)
   rw [if_pos c15] at H
   have c15b0 : decide (0 ≤ x15_1) = true := decide_eq_true c15
   clear c15
   by_cases c16 : x15_1 < (l1.length : Int); rotate_left
   ·
    rw [if_neg c16] at H
    exact absurd H (by simp)
   rw [if_pos c16] at H
   have c16b0 : decide (x15_1 < (l1.length : Int)) = true := decide_eq_true c16
   clear c16
   replace H := Option.bind_eq_some_iff.mp H
   obtain ⟨⟨t298, t301⟩, A170, H⟩ := H
   replace H : (if t301 = true then (impl_DoActs.l0 k1 l1 l1 (l1.length : Int) (wrap64 (x15_1 + 1)) t298) else (some (x296000_1, x15_1))) = some (r1, r2) := H
   have A17 := Aside0.mk A170
   clear A170
   by_cases c18 : t301 = true
   ·
    subst c18
    have H1 : (impl_DoActs.l0 k1 l1 l1 (l1.length : Int) (wrap64 (x15_1 + 1)) t298) = some (r1, r2) := by rw [if_pos rfl] at H; exact H
    clear H
    have H := H1
    clear H1
    have H' := Aside0.mk H
    clear H
    have p296 : 0 ≤ (x15_1 : Int) := of_decide_eq_true AS
    have q296 : x15_1 < (l1.length : Int) := of_decide_eq_true AS
    obtain ⟨ad296, e296, hx296_0, hx296_1, hx296_2, hx296_3⟩ := at_T55 HR1.out x15_1 p296 q296
    cases e296
    replace hx296_0 := (HB.out.cell (World.block_lt_of_cell? w _ hx296_0)).trans hx296_0
    replace hx296_1 := (HB.out.cell (World.block_lt_of_cell? w _ hx296_1)).trans hx296_1
    replace hx296_2 := (HB.out.cell (World.block_lt_of_cell? w _ hx296_2)).trans hx296_2
    replace hx296_3 := (HB.out.cell (World.block_lt_of_cell? w _ hx296_3)).trans hx296_3
    replace p296 := eq_true p296
    replace q296 := eq_true q296
    go_wp2_with (first | ((with_reducible refine gate_dst (N := 8) rfl ?_); refine bE 8 #[.int .i64 0, .string (⟨#[]⟩ : ByteArray), .string (⟨#[]⟩ : ByteArray), .string (⟨#[]⟩ : ByteArray)] 55 ?_; intro gb297 hg w19 hbox hb; have BK297 := Aside0.mk (hbox); have GW297 : Aside0 (w.heap.size ≤ gb297) := GS; have GE297 : Aside0 (w.heap.size ≤ gb297) := GS; have NB290_297 := NL BK290.out hg; have NB297_290 := NG BK290.out hg; have NB291_297 := NL BK291.out hg; have NB297_291 := NG BK291.out hg; have NB295_297 := NL BK295.out hg; have NB297_295 := NG BK295.out hg; replace HO_296000 := Aside0.mk (Kd.R_below (RQ HO_296000.out) hb); replace BK290 := BB BK290.out hb; replace BK291 := BB BK291.out hb; replace BK295 := BB BK295.out hb; replace HB := Aside0.mk (below_step (BL) hb); clear hb hbox hg; have hnb20 := NB297_290.out; have hnc20 := NB290_297.out; have hnb21 := NB297_291.out; have hnc21 := NB291_297.out; have hnb22 := NB297_295.out; have hnc22 := NB295_297.out; have hcz23_0 : w19.cell? ⟨gb297, 0, none⟩ = some (.int .i64 0) := CZ BK297.out 0; have hcz23_1 : w19.cell? ⟨gb297, 1, none⟩ = some (.string (⟨#[]⟩ : ByteArray)) := CZ BK297.out 1; have hcz23_2 : w19.cell? ⟨gb297, 2, none⟩ = some (.string (⟨#[]⟩ : ByteArray)) := CZ BK297.out 2; have hcz23_3 : w19.cell? ⟨gb297, 3, none⟩ = some (.string (⟨#[]⟩ : ByteArray)) := CZ BK297.out 3; have hfz23_0 := blk_frozen BK297.out 0; have hfz23_1 := blk_frozen BK297.out 1; have hfz23_2 := blk_frozen BK297.out 2; have hfz23_3 := blk_frozen BK297.out 3; have hnb24 := NB295_290.out; have hnc24 := NB290_295.out; have hnb25 := NB295_291.out; have hnc25 := NB291_295.out; have hcz26_0 : w19.cell? ⟨gb295, 0, none⟩ = some (u296000) := CZ BK295.out 0; have hfz26_0 := blk_frozen BK295.out 0; obtain ⟨Ao27, co27, eo27⟩ := Kd.R_slice HO_296000.out; subst eo27) | ((with_reducible refine gate_callee (f := 37) rfl ?_); refine goesL_ (some 23) rfl rfl Try.func37 (by kernel_rfl) rfl #[.agg #[.slice Ao27 x296000_1.length co27], .agg #[.int .i64 ((rd_T55 l1 x15_1).f0), .string ((rd_T55 l1 x15_1).f1), .string ((rd_T55 l1 x15_1).f2), .string ((rd_T55 l1 x15_1).f3)]] rfl (MA) ?_; (with_reducible refine (impl_DoAct.calls k1 _ _ x296000_1 ((rd_T55 l1 x15_1).f0) ((rd_T55 l1 x15_1).f1) ((rd_T55 l1 x15_1).f2) ((rd_T55 l1 x15_1).f3) t298 true _ ?side1 ?side2 A17.out).mono ?_); (case side1 => refine (Kd.R_reads' (e := 45) (base := w.heap.size) (ok := fun k_ => True) (n := x296000_1.length) (c := co27) ?_).2.2; exact (by (with_reducible repeat (first | apply r1 | apply r2 | apply r3)); exact (Kd.R_mono (Kd.R_far (p := ⟨gb297, 3, none⟩) (Kd.R_far (p := ⟨gb297, 2, none⟩) (Kd.R_far (p := ⟨gb297, 1, none⟩) (Kd.R_far (p := ⟨gb297, 0, none⟩) (Kd.R_types HO_296000.out BK297.out (by decide)) (fun _ hk => hk.2) (.int .i64 ((rd_T55 l1 x15_1).f0))) (fun _ hk => hk.2) (.string ((rd_T55 l1 x15_1).f1))) (fun _ hk => hk.2) (.string ((rd_T55 l1 x15_1).f2))) (fun _ hk => hk.2) (.string ((rd_T55 l1 x15_1).f3))) (fun _ h_ => h_.1)))); (case side2 => exact (Kd.R_reads' HO_296000.out).2.1); rintro e w28 ⟨v299, rfl, ho0, hb⟩; refine ⟨_, rfl, ?_⟩; have HO300 := Aside0.mk (Kd.R_lower (Kd.R_new' ho0 (Kd.R_lt (by (with_reducible repeat (first | apply r1 | apply r2 | apply r3)); exact (Kd.R_mono (Kd.R_far (p := ⟨gb297, 3, none⟩) (Kd.R_far (p := ⟨gb297, 2, none⟩) (Kd.R_far (p := ⟨gb297, 1, none⟩) (Kd.R_far (p := ⟨gb297, 0, none⟩) (Kd.R_types HO_296000.out BK297.out (by decide)) (fun _ hk => hk.2) (.int .i64 ((rd_T55 l1 x15_1).f0))) (fun _ hk => hk.2) (.string ((rd_T55 l1 x15_1).f1))) (fun _ hk => hk.2) (.string ((rd_T55 l1 x15_1).f2))) (fun _ hk => hk.2) (.string ((rd_T55 l1 x15_1).f3))) (fun _ h_ => h_.1))))) (below_size (BL))); replace HO_296000 := Aside0.mk (Kd.R_elder' (by (with_reducible repeat (first | apply r1 | apply r2 | apply r3)); exact (Kd.R_mono (Kd.R_far (p := ⟨gb297, 3, none⟩) (Kd.R_far (p := ⟨gb297, 2, none⟩) (Kd.R_far (p := ⟨gb297, 1, none⟩) (Kd.R_far (p := ⟨gb297, 0, none⟩) (Kd.R_types HO_296000.out BK297.out (by decide)) (fun _ hk => hk.2) (.int .i64 ((rd_T55 l1 x15_1).f0))) (fun _ hk => hk.2) (.string ((rd_T55 l1 x15_1).f1))) (fun _ hk => hk.2) (.string ((rd_T55 l1 x15_1).f2))) (fun _ hk => hk.2) (.string ((rd_T55 l1 x15_1).f3))) (fun _ h_ => h_.1))) (Kd.R_base ho0) hb); replace BK290 := Aside0.mk (blk_below (g := gb290) (o := .cells #[.slice A0_0 l0_0.length c0_0] 29 (0, 0)) (by (with_reducible repeat (first | apply b1 | apply b2 | apply b3)); refine blk_far ?_ NB290_297.out _; (with_reducible repeat (first | apply b1 | apply b2 | apply b3)); refine blk_far ?_ NB290_297.out _; (with_reducible repeat (first | apply b1 | apply b2 | apply b3)); refine blk_far ?_ NB290_297.out _; (with_reducible repeat (first | apply b1 | apply b2 | apply b3)); refine blk_far ?_ NB290_297.out _; (with_reducible repeat (first | apply b1 | apply b2 | apply b3)); exact BK290.out) hb); replace BK291 := Aside0.mk (blk_below (g := gb291) (o := .cells #[.slice none 0 0] 29 (0, 0)) (by (with_reducible repeat (first | apply b1 | apply b2 | apply b3)); refine blk_far ?_ NB291_297.out _; (with_reducible repeat (first | apply b1 | apply b2 | apply b3)); refine blk_far ?_ NB291_297.out _; (with_reducible repeat (first | apply b1 | apply b2 | apply b3)); refine blk_far ?_ NB291_297.out _; (with_reducible repeat (first | apply b1 | apply b2 | apply b3)); refine blk_far ?_ NB291_297.out _; (with_reducible repeat (first | apply b1 | apply b2 | apply b3)); exact BK291.out) hb); replace BK295 := Aside0.mk (blk_below (g := gb295) (o := .cells #[.slice Ao27 x296000_1.length co27] 29 (0, 0)) (by (with_reducible repeat (first | apply b1 | apply b2 | apply b3)); refine blk_far ?_ NB295_297.out _; (with_reducible repeat (first | apply b1 | apply b2 | apply b3)); refine blk_far ?_ NB295_297.out _; (with_reducible repeat (first | apply b1 | apply b2 | apply b3)); refine blk_far ?_ NB295_297.out _; (with_reducible repeat (first | apply b1 | apply b2 | apply b3)); refine blk_far ?_ NB295_297.out _; (with_reducible repeat (first | apply b1 | apply b2 | apply b3)); exact BK295.out) hb); replace BK297 := Aside0.mk (blk_below (g := gb297) (o := .cells #[.int .i64 ((rd_T55 l1 x15_1).f0), .string ((rd_T55 l1 x15_1).f1), .string ((rd_T55 l1 x15_1).f2), .string ((rd_T55 l1 x15_1).f3)] 55 (0, 0)) (by (with_reducible repeat (first | apply b1 | apply b2 | apply b3)); refine blk_put (cs := #[.int .i64 ((rd_T55 l1 x15_1).f0), .string ((rd_T55 l1 x15_1).f1), .string ((rd_T55 l1 x15_1).f2), .string (⟨#[]⟩ : ByteArray)]) ?_ 3 _ rfl; (with_reducible repeat (first | apply b1 | apply b2 | apply b3)); refine blk_put (cs := #[.int .i64 ((rd_T55 l1 x15_1).f0), .string ((rd_T55 l1 x15_1).f1), .string (⟨#[]⟩ : ByteArray), .string (⟨#[]⟩ : ByteArray)]) ?_ 2 _ rfl; (with_reducible repeat (first | apply b1 | apply b2 | apply b3)); refine blk_put (cs := #[.int .i64 ((rd_T55 l1 x15_1).f0), .string (⟨#[]⟩ : ByteArray), .string (⟨#[]⟩ : ByteArray), .string (⟨#[]⟩ : ByteArray)]) ?_ 1 _ rfl; (with_reducible repeat (first | apply b1 | apply b2 | apply b3)); refine blk_put (cs := #[.int .i64 0, .string (⟨#[]⟩ : ByteArray), .string (⟨#[]⟩ : ByteArray), .string (⟨#[]⟩ : ByteArray)]) ?_ 0 _ rfl; (with_reducible repeat (first | apply b1 | apply b2 | apply b3)); exact BK297.out) hb); replace HB := Aside0.mk (below_step (BL) hb); (try clear hb); (try clear hb2); (try clear hk); (try clear hi); (try clear ho0)) | ((with_reducible refine gate_dst (N := 9) rfl ?_); refine bE 9 #[.slice none 0 0] 29 ?_; intro gb302 hg w29 hbox hb; have BK302 := Aside0.mk (hbox); have GW302 : Aside0 (w.heap.size ≤ gb302) := GS; have GE302 : Aside0 (w.heap.size ≤ gb302) := GS; have NB290_302 := NL BK290.out hg; have NB302_290 := NG BK290.out hg; have NB291_302 := NL BK291.out hg; have NB302_291 := NG BK291.out hg; have NB295_302 := NL BK295.out hg; have NB302_295 := NG BK295.out hg; have NB297_302 := NL BK297.out hg; have NB302_297 := NG BK297.out hg; replace HO_296000 := Aside0.mk (Kd.R_below (RQ HO_296000.out) hb); replace HO300 := Aside0.mk (Kd.R_below (RQ HO300.out) hb); replace BK290 := BB BK290.out hb; replace BK291 := BB BK291.out hb; replace BK295 := BB BK295.out hb; replace BK297 := BB BK297.out hb; replace HB := Aside0.mk (below_step (BL) hb); clear hb hbox hg; obtain ⟨Ao30, co30, eo30⟩ := Kd.R_slice HO300.out; subst eo30; have hnb31 := NB302_290.out; have hnc31 := NB290_302.out; have hnb32 := NB302_291.out; have hnc32 := NB291_302.out; have hnb33 := NB302_295.out; have hnc33 := NB295_302.out; have hnb34 := NB302_297.out; have hnc34 := NB297_302.out; have hcz35_0 : w29.cell? ⟨gb302, 0, none⟩ = some (.slice none 0 0) := CZ BK302.out 0; have hfz35_0 := blk_frozen BK302.out 0; have hcz36_0 : w29.cell? ⟨gb295, 0, none⟩ = some (.slice Ao27 x296000_1.length co27) := CZ BK295.out 0; have hfz36_0 := blk_frozen BK295.out 0))
    go_roundg k1
    case measure => have := HK1.out; omega
    case rel => exact ⟨(wrap64 (x15_1 + 1)), (t298), (.slice Ao30 t298.length co30), SD, H', ⟨by have := HK1.out; omega⟩, ⟨by (with_reducible repeat (first | apply r1 | apply r2 | apply r3)); exact Kd.R_mono (Kd.R_far (p := ⟨gb295, 0, none⟩) (Kd.R_far (p := ⟨gb302, 0, none⟩) (Kd.R_types (Kd.R_types HO300.out BK302.out (by decide)) BK295.out (by decide)) (fun _ hk => hk.1.2) (.slice Ao30 t298.length co30)) (fun _ hk => hk.2) (.slice Ao30 t298.length co30)) (fun _ hk => trivial)⟩, ⟨by (with_reducible repeat (first | apply b1 | apply b2 | apply b3)); refine blk_far ?_ NB290_295.out _; (with_reducible repeat (first | apply b1 | apply b2 | apply b3)); refine blk_far ?_ NB290_302.out _; (with_reducible repeat (first | apply b1 | apply b2 | apply b3)); exact BK290.out⟩, ⟨by (with_reducible repeat (first | apply b1 | apply b2 | apply b3)); refine blk_far ?_ NB291_295.out _; (with_reducible repeat (first | apply b1 | apply b2 | apply b3)); refine blk_far ?_ NB291_302.out _; (with_reducible repeat (first | apply b1 | apply b2 | apply b3)); exact BK291.out⟩, ⟨by (with_reducible repeat (first | apply b1 | apply b2 | apply b3)); refine blk_put (cs := #[.slice Ao27 x296000_1.length co27]) ?_ 0 _ rfl; (with_reducible repeat (first | apply b1 | apply b2 | apply b3)); refine blk_far ?_ NB295_302.out _; (with_reducible repeat (first | apply b1 | apply b2 | apply b3)); exact BK295.out⟩, ⟨BL⟩⟩
   replace c18 := Bool.eq_false_iff.mpr c18
   subst c18
   have H1 : (some (x296000_1, x15_1)) = some (r1, r2) := by rw [if_neg (show ¬ (false = true) by decide)] at H; exact H
   clear H
   have H := H1
   clear H1
   simp only [Option.some.injEq, Prod.mk.injEq] at H
   obtain ⟨rfl, rfl⟩ := H
   have p296 : 0 ≤ (x15_1 : Int) := of_decide_eq_true AS
   have q296 : x15_1 < (l1.length : Int) := of_decide_eq_true AS
   obtain ⟨ad296, e296, hx296_0, hx296_1, hx296_2, hx296_3⟩ := at_T55 HR1.out x15_1 p296 q296
   cases e296
   replace hx296_0 := (HB.out.cell (World.block_lt_of_cell? w _ hx296_0)).trans hx296_0
   replace hx296_1 := (HB.out.cell (World.block_lt_of_cell? w _ hx296_1)).trans hx296_1
   replace hx296_2 := (HB.out.cell (World.block_lt_of_cell? w _ hx296_2)).trans hx296_2
   replace hx296_3 := (HB.out.cell (World.block_lt_of_cell? w _ hx296_3)).trans hx296_3
   replace p296 := eq_true p296
   replace q296 := eq_true q296
   go_wp2_with (first | ((with_reducible refine gate_dst (N := 8) rfl ?_); refine bE 8 #[.int .i64 0, .string (⟨#[]⟩ : ByteArray), .string (⟨#[]⟩ : ByteArray), .string (⟨#[]⟩ : ByteArray)] 55 ?_; intro gb297 hg w37 hbox hb; have BK297 := Aside0.mk (hbox); have GW297 : Aside0 (w.heap.size ≤ gb297) := GS; have GE297 : Aside0 (w.heap.size ≤ gb297) := GS; have NB290_297 := NL BK290.out hg; have NB297_290 := NG BK290.out hg; have NB291_297 := NL BK291.out hg; have NB297_291 := NG BK291.out hg; have NB295_297 := NL BK295.out hg; have NB297_295 := NG BK295.out hg; replace HO_296000 := Aside0.mk (Kd.R_below (RQ HO_296000.out) hb); replace BK290 := BB BK290.out hb; replace BK291 := BB BK291.out hb; replace BK295 := BB BK295.out hb; replace HB := Aside0.mk (below_step (BL) hb); clear hb hbox hg; have hnb38 := NB297_290.out; have hnc38 := NB290_297.out; have hnb39 := NB297_291.out; have hnc39 := NB291_297.out; have hnb40 := NB297_295.out; have hnc40 := NB295_297.out; have hcz41_0 : w37.cell? ⟨gb297, 0, none⟩ = some (.int .i64 0) := CZ BK297.out 0; have hcz41_1 : w37.cell? ⟨gb297, 1, none⟩ = some (.string (⟨#[]⟩ : ByteArray)) := CZ BK297.out 1; have hcz41_2 : w37.cell? ⟨gb297, 2, none⟩ = some (.string (⟨#[]⟩ : ByteArray)) := CZ BK297.out 2; have hcz41_3 : w37.cell? ⟨gb297, 3, none⟩ = some (.string (⟨#[]⟩ : ByteArray)) := CZ BK297.out 3; have hfz41_0 := blk_frozen BK297.out 0; have hfz41_1 := blk_frozen BK297.out 1; have hfz41_2 := blk_frozen BK297.out 2; have hfz41_3 := blk_frozen BK297.out 3; have hnb42 := NB295_290.out; have hnc42 := NB290_295.out; have hnb43 := NB295_291.out; have hnc43 := NB291_295.out; have hcz44_0 : w37.cell? ⟨gb295, 0, none⟩ = some (u296000) := CZ BK295.out 0; have hfz44_0 := blk_frozen BK295.out 0; obtain ⟨Ao45, co45, eo45⟩ := Kd.R_slice HO_296000.out; subst eo45) | ((with_reducible refine gate_callee (f := 37) rfl ?_); refine goesL_ (some 23) rfl rfl Try.func37 (by kernel_rfl) rfl #[.agg #[.slice Ao45 x296000_1.length co45], .agg #[.int .i64 ((rd_T55 l1 x15_1).f0), .string ((rd_T55 l1 x15_1).f1), .string ((rd_T55 l1 x15_1).f2), .string ((rd_T55 l1 x15_1).f3)]] rfl (MA) ?_; (with_reducible refine (impl_DoAct.calls k1 _ _ x296000_1 ((rd_T55 l1 x15_1).f0) ((rd_T55 l1 x15_1).f1) ((rd_T55 l1 x15_1).f2) ((rd_T55 l1 x15_1).f3) t298 false _ ?side1 ?side2 A17.out).mono ?_); (case side1 => refine (Kd.R_reads' (e := 45) (base := w.heap.size) (ok := fun k_ => True) (n := x296000_1.length) (c := co45) ?_).2.2; exact (by (with_reducible repeat (first | apply r1 | apply r2 | apply r3)); exact (Kd.R_mono (Kd.R_far (p := ⟨gb297, 3, none⟩) (Kd.R_far (p := ⟨gb297, 2, none⟩) (Kd.R_far (p := ⟨gb297, 1, none⟩) (Kd.R_far (p := ⟨gb297, 0, none⟩) (Kd.R_types HO_296000.out BK297.out (by decide)) (fun _ hk => hk.2) (.int .i64 ((rd_T55 l1 x15_1).f0))) (fun _ hk => hk.2) (.string ((rd_T55 l1 x15_1).f1))) (fun _ hk => hk.2) (.string ((rd_T55 l1 x15_1).f2))) (fun _ hk => hk.2) (.string ((rd_T55 l1 x15_1).f3))) (fun _ h_ => h_.1)))); (case side2 => exact (Kd.R_reads' HO_296000.out).2.1); rintro e w46 ⟨v299, rfl, ho0, hb⟩; refine ⟨_, rfl, ?_⟩; have HO300 := Aside0.mk (Kd.R_lower (Kd.R_new' ho0 (Kd.R_lt (by (with_reducible repeat (first | apply r1 | apply r2 | apply r3)); exact (Kd.R_mono (Kd.R_far (p := ⟨gb297, 3, none⟩) (Kd.R_far (p := ⟨gb297, 2, none⟩) (Kd.R_far (p := ⟨gb297, 1, none⟩) (Kd.R_far (p := ⟨gb297, 0, none⟩) (Kd.R_types HO_296000.out BK297.out (by decide)) (fun _ hk => hk.2) (.int .i64 ((rd_T55 l1 x15_1).f0))) (fun _ hk => hk.2) (.string ((rd_T55 l1 x15_1).f1))) (fun _ hk => hk.2) (.string ((rd_T55 l1 x15_1).f2))) (fun _ hk => hk.2) (.string ((rd_T55 l1 x15_1).f3))) (fun _ h_ => h_.1))))) (below_size (BL))); replace HO_296000 := Aside0.mk (Kd.R_elder' (by (with_reducible repeat (first | apply r1 | apply r2 | apply r3)); exact (Kd.R_mono (Kd.R_far (p := ⟨gb297, 3, none⟩) (Kd.R_far (p := ⟨gb297, 2, none⟩) (Kd.R_far (p := ⟨gb297, 1, none⟩) (Kd.R_far (p := ⟨gb297, 0, none⟩) (Kd.R_types HO_296000.out BK297.out (by decide)) (fun _ hk => hk.2) (.int .i64 ((rd_T55 l1 x15_1).f0))) (fun _ hk => hk.2) (.string ((rd_T55 l1 x15_1).f1))) (fun _ hk => hk.2) (.string ((rd_T55 l1 x15_1).f2))) (fun _ hk => hk.2) (.string ((rd_T55 l1 x15_1).f3))) (fun _ h_ => h_.1))) (Kd.R_base ho0) hb); replace BK290 := Aside0.mk (blk_below (g := gb290) (o := .cells #[.slice A0_0 l0_0.length c0_0] 29 (0, 0)) (by (with_reducible repeat (first | apply b1 | apply b2 | apply b3)); refine blk_far ?_ NB290_297.out _; (with_reducible repeat (first | apply b1 | apply b2 | apply b3)); refine blk_far ?_ NB290_297.out _; (with_reducible repeat (first | apply b1 | apply b2 | apply b3)); refine blk_far ?_ NB290_297.out _; (with_reducible repeat (first | apply b1 | apply b2 | apply b3)); refine blk_far ?_ NB290_297.out _; (with_reducible repeat (first | apply b1 | apply b2 | apply b3)); exact BK290.out) hb); replace BK291 := Aside0.mk (blk_below (g := gb291) (o := .cells #[.slice none 0 0] 29 (0, 0)) (by (with_reducible repeat (first | apply b1 | apply b2 | apply b3)); refine blk_far ?_ NB291_297.out _; (with_reducible repeat (first | apply b1 | apply b2 | apply b3)); refine blk_far ?_ NB291_297.out _; (with_reducible repeat (first | apply b1 | apply b2 | apply b3)); refine blk_far ?_ NB291_297.out _; (with_reducible repeat (first | apply b1 | apply b2 | apply b3)); refine blk_far ?_ NB291_297.out _; (with_reducible repeat (first | apply b1 | apply b2 | apply b3)); exact BK291.out) hb); replace BK295 := Aside0.mk (blk_below (g := gb295) (o := .cells #[.slice Ao45 x296000_1.length co45] 29 (0, 0)) (by (with_reducible repeat (first | apply b1 | apply b2 | apply b3)); refine blk_far ?_ NB295_297.out _; (with_reducible repeat (first | apply b1 | apply b2 | apply b3)); refine blk_far ?_ NB295_297.out _; (with_reducible repeat (first | apply b1 | apply b2 | apply b3)); refine blk_far ?_ NB295_297.out _; (with_reducible repeat (first | apply b1 | apply b2 | apply b3)); refine blk_far ?_ NB295_297.out _; (with_reducible repeat (first | apply b1 | apply b2 | apply b3)); exact BK295.out) hb); replace BK297 := Aside0.mk (blk_below (g := gb297) (o := .cells #[.int .i64 ((rd_T55 l1 x15_1).f0), .string ((rd_T55 l1 x15_1).f1), .string ((rd_T55 l1 x15_1).f2), .string ((rd_T55 l1 x15_1).f3)] 55 (0, 0)) (by (with_reducible repeat (first | apply b1 | apply b2 | apply b3)); refine blk_put (cs := #[.int .i64 ((rd_T55 l1 x15_1).f0), .string ((rd_T55 l1 x15_1).f1), .string ((rd_T55 l1 x15_1).f2), .string (⟨#[]⟩ : ByteArray)]) ?_ 3 _ rfl; (with_reducible repeat (first | apply b1 | apply b2 | apply b3)); refine blk_put (cs := #[.int .i64 ((rd_T55 l1 x15_1).f0), .string ((rd_T55 l1 x15_1).f1), .string (⟨#[]⟩ : ByteArray), .string (⟨#[]⟩ : ByteArray)]) ?_ 2 _ rfl; (with_reducible repeat (first | apply b1 | apply b2 | apply b3)); refine blk_put (cs := #[.int .i64 ((rd_T55 l1 x15_1).f0), .string (⟨#[]⟩ : ByteArray), .string (⟨#[]⟩ : ByteArray), .string (⟨#[]⟩ : ByteArray)]) ?_ 1 _ rfl; (with_reducible repeat (first | apply b1 | apply b2 | apply b3)); refine blk_put (cs := #[.int .i64 0, .string (⟨#[]⟩ : ByteArray), .string (⟨#[]⟩ : ByteArray), .string (⟨#[]⟩ : ByteArray)]) ?_ 0 _ rfl; (with_reducible repeat (first | apply b1 | apply b2 | apply b3)); exact BK297.out) hb); replace HB := Aside0.mk (below_step (BL) hb); (try clear hb); (try clear hb2); (try clear hk); (try clear hi); (try clear ho0)) | ((with_reducible refine gate_dst (N := 9) rfl ?_); refine bE 9 #[.slice none 0 0] 29 ?_; intro gb302 hg w47 hbox hb; have BK302 := Aside0.mk (hbox); have GW302 : Aside0 (w.heap.size ≤ gb302) := GS; have GE302 : Aside0 (w.heap.size ≤ gb302) := GS; have NB290_302 := NL BK290.out hg; have NB302_290 := NG BK290.out hg; have NB291_302 := NL BK291.out hg; have NB302_291 := NG BK291.out hg; have NB295_302 := NL BK295.out hg; have NB302_295 := NG BK295.out hg; have NB297_302 := NL BK297.out hg; have NB302_297 := NG BK297.out hg; replace HO_296000 := Aside0.mk (Kd.R_below (RQ HO_296000.out) hb); replace HO300 := Aside0.mk (Kd.R_below (RQ HO300.out) hb); replace BK290 := BB BK290.out hb; replace BK291 := BB BK291.out hb; replace BK295 := BB BK295.out hb; replace BK297 := BB BK297.out hb; replace HB := Aside0.mk (below_step (BL) hb); clear hb hbox hg; obtain ⟨Ao48, co48, eo48⟩ := Kd.R_slice HO300.out; subst eo48; have hnb49 := NB302_290.out; have hnc49 := NB290_302.out; have hnb50 := NB302_291.out; have hnc50 := NB291_302.out; have hnb51 := NB302_295.out; have hnc51 := NB295_302.out; have hnb52 := NB302_297.out; have hnc52 := NB297_302.out; have hcz53_0 : w47.cell? ⟨gb302, 0, none⟩ = some (.slice none 0 0) := CZ BK302.out 0; have hfz53_0 := blk_frozen BK302.out 0; have hcz54_0 : w47.cell? ⟨gb295, 0, none⟩ = some (.slice Ao45 x296000_1.length co45) := CZ BK295.out 0; have hfz54_0 := blk_frozen BK295.out 0; have hnb55 := NB291_290.out; have hnc55 := NB290_291.out; have hcz56_0 : w47.cell? ⟨gb291, 0, none⟩ = some (.slice none 0 0) := CZ BK291.out 0; have hfz56_0 := blk_frozen BK291.out 0))
   refine bodyPost_ret (results_ct rfl _ _ gb291 29 #[.slice Ao45 x296000_1.length co45] (0, 0) _ rfl (by (with_reducible repeat (first | apply b1 | apply b2 | apply b3)); refine blk_put (cs := #[.slice none 0 0]) ?_ 0 _ rfl; (with_reducible repeat (first | apply b1 | apply b2 | apply b3)); refine blk_far ?_ NB291_302.out _; (with_reducible repeat (first | apply b1 | apply b2 | apply b3)); exact BK291.out) Try.underlying29 rfl (by kernel_rfl)) rfl ?_
   exact ⟨_, EE, by (with_reducible repeat (first | apply r1 | apply r2 | apply r3)); exact Kd.R_mono (Kd.R_far (p := ⟨gb291, 0, none⟩) (Kd.R_far (p := ⟨gb302, 0, none⟩) (Kd.R_types (Kd.R_types HO_296000.out BK302.out (by decide)) BK291.out (by decide)) (fun _ hk => hk.1.2) (.slice Ao48 t298.length co48)) (fun _ hk => hk.2) (.slice Ao45 x296000_1.length co45)) (fun _ hk => trivial), BL⟩

/-! ### laws_eqAct: function 68 -/
def laws_eqAct.f (a0_0 : Int) (a0_1 : ByteArray) (a0_2 : ByteArray) (a0_3 : ByteArray) (a1_0 : Int) (a1_1 : ByteArray) (a1_2 : ByteArray) (a1_3 : ByteArray) : Option (Bool) := if a0_0 = a1_0 then (if a0_1.toList = a1_1.toList then (if a0_2.toList = a1_2.toList then (if a0_3.toList = a1_3.toList then (some true) else (some false)) else (some false)) else (some false)) else (some false)
set_option maxHeartbeats 8000000 in
set_option maxRecDepth 100000 in
theorem laws_eqAct.calls (a0_0 : Int) (a0_1 : ByteArray) (a0_2 : ByteArray) (a0_3 : ByteArray) (a1_0 : Int) (a1_1 : ByteArray) (a1_2 : ByteArray) (a1_3 : ByteArray) (r : Bool) (w : World) (h : laws_eqAct.f a0_0 a0_1 a0_2 a0_3 a1_0 a1_1 a1_2 a1_3 = some r) :
  Calls Try.prog 68 #[.agg #[.int .i64 a0_0, .string a0_1, .string a0_2, .string a0_3], .agg #[.int .i64 a1_0, .string a1_1, .string a1_2, .string a1_3]] w fun e w' => e = .returned (.bool r) ∧ Below w.heap.size w w' := by
 have hu55 := Try.underlying55
 have HB := Aside0.mk (Below.refl w.heap.size w)
 have H : (if a0_0 = a1_0 then (if a0_1.toList = a1_1.toList then (if a0_2.toList = a1_2.toList then (if a0_3.toList = a1_3.toList then (some true) else (some false)) else (some false)) else (some false)) else (some false)) = some r := h
 clear h
 by_cases c3 : a0_0 = a1_0; rotate_left
 ·
  rw [if_neg c3] at H
  have c3b0 : (a0_0 == a1_0) = false := beq_eq_false_iff_ne.mpr c3
  have c3b1 : (a0_0 != a1_0) = true := bne_iff_ne.mpr c3
  obtain rfl := Option.some.inj H
  go_enter Try.func68, Try.ntmps68
  go_wp2_with (first | ((with_reducible refine gate_dst (N := 2) rfl ?_); refine bE 2 #[.int .i64 a0_0, .string a0_1, .string a0_2, .string a0_3] 55 ?_; intro gb303 hg w27 hbox hb; have BK303 := Aside0.mk (hbox); have GW303 : Aside0 (w.heap.size ≤ gb303) := GS; have GE303 : Aside0 (w.heap.size ≤ gb303) := GS; replace HB := Aside0.mk (below_step (BL) hb); clear hb hbox hg) | ((with_reducible refine gate_dst (N := 3) rfl ?_); refine bE 3 #[.int .i64 a1_0, .string a1_1, .string a1_2, .string a1_3] 55 ?_; intro gb304 hg w28 hbox hb; have BK304 := Aside0.mk (hbox); have GW304 : Aside0 (w.heap.size ≤ gb304) := GS; have GE304 : Aside0 (w.heap.size ≤ gb304) := GS; have NB303_304 := NL BK303.out hg; have NB304_303 := NG BK303.out hg; replace BK303 := BB BK303.out hb; replace HB := Aside0.mk (below_step (BL) hb); clear hb hbox hg; have hnb29 := NB303_304.out; have hnc29 := NB304_303.out; have hcz30_0 : w28.cell? ⟨gb303, 0, none⟩ = some (.int .i64 a0_0) := CZ BK303.out 0; have hcz30_1 : w28.cell? ⟨gb303, 1, none⟩ = some (.string a0_1) := CZ BK303.out 1; have hcz30_2 : w28.cell? ⟨gb303, 2, none⟩ = some (.string a0_2) := CZ BK303.out 2; have hcz30_3 : w28.cell? ⟨gb303, 3, none⟩ = some (.string a0_3) := CZ BK303.out 3; have hfz30_0 := blk_frozen BK303.out 0; have hfz30_1 := blk_frozen BK303.out 1; have hfz30_2 := blk_frozen BK303.out 2; have hfz30_3 := blk_frozen BK303.out 3; have hcz31_0 : w28.cell? ⟨gb304, 0, none⟩ = some (.int .i64 a1_0) := CZ BK304.out 0; have hcz31_1 : w28.cell? ⟨gb304, 1, none⟩ = some (.string a1_1) := CZ BK304.out 1; have hcz31_2 : w28.cell? ⟨gb304, 2, none⟩ = some (.string a1_2) := CZ BK304.out 2; have hcz31_3 : w28.cell? ⟨gb304, 3, none⟩ = some (.string a1_3) := CZ BK304.out 3; have hfz31_0 := blk_frozen BK304.out 0; have hfz31_1 := blk_frozen BK304.out 1; have hfz31_2 := blk_frozen BK304.out 2; have hfz31_3 := blk_frozen BK304.out 3))
  go_ret
  exact ⟨EE, BL⟩
 rw [if_pos c3] at H
 have c3b0 : (a0_0 == a1_0) = true := beq_iff_eq.mpr c3
 have c3b1 : (a0_0 != a1_0) = false := bne_eq_false_iff_eq.mpr c3
 clear c3
 by_cases c4 : a0_1.toList = a1_1.toList; rotate_left
 ·
  rw [if_neg c4] at H
  have c4b0 : (a0_1.toList == a1_1.toList) = false := beq_eq_false_iff_ne.mpr c4
  have c4b1 : (a0_1.toList != a1_1.toList) = true := bne_iff_ne.mpr c4
  obtain rfl := Option.some.inj H
  go_enter Try.func68, Try.ntmps68
  go_wp2_with (first | ((with_reducible refine gate_dst (N := 2) rfl ?_); refine bE 2 #[.int .i64 a0_0, .string a0_1, .string a0_2, .string a0_3] 55 ?_; intro gb303 hg w22 hbox hb; have BK303 := Aside0.mk (hbox); have GW303 : Aside0 (w.heap.size ≤ gb303) := GS; have GE303 : Aside0 (w.heap.size ≤ gb303) := GS; replace HB := Aside0.mk (below_step (BL) hb); clear hb hbox hg) | ((with_reducible refine gate_dst (N := 3) rfl ?_); refine bE 3 #[.int .i64 a1_0, .string a1_1, .string a1_2, .string a1_3] 55 ?_; intro gb304 hg w23 hbox hb; have BK304 := Aside0.mk (hbox); have GW304 : Aside0 (w.heap.size ≤ gb304) := GS; have GE304 : Aside0 (w.heap.size ≤ gb304) := GS; have NB303_304 := NL BK303.out hg; have NB304_303 := NG BK303.out hg; replace BK303 := BB BK303.out hb; replace HB := Aside0.mk (below_step (BL) hb); clear hb hbox hg; have hnb24 := NB303_304.out; have hnc24 := NB304_303.out; have hcz25_0 : w23.cell? ⟨gb303, 0, none⟩ = some (.int .i64 a0_0) := CZ BK303.out 0; have hcz25_1 : w23.cell? ⟨gb303, 1, none⟩ = some (.string a0_1) := CZ BK303.out 1; have hcz25_2 : w23.cell? ⟨gb303, 2, none⟩ = some (.string a0_2) := CZ BK303.out 2; have hcz25_3 : w23.cell? ⟨gb303, 3, none⟩ = some (.string a0_3) := CZ BK303.out 3; have hfz25_0 := blk_frozen BK303.out 0; have hfz25_1 := blk_frozen BK303.out 1; have hfz25_2 := blk_frozen BK303.out 2; have hfz25_3 := blk_frozen BK303.out 3; have hcz26_0 : w23.cell? ⟨gb304, 0, none⟩ = some (.int .i64 a1_0) := CZ BK304.out 0; have hcz26_1 : w23.cell? ⟨gb304, 1, none⟩ = some (.string a1_1) := CZ BK304.out 1; have hcz26_2 : w23.cell? ⟨gb304, 2, none⟩ = some (.string a1_2) := CZ BK304.out 2; have hcz26_3 : w23.cell? ⟨gb304, 3, none⟩ = some (.string a1_3) := CZ BK304.out 3; have hfz26_0 := blk_frozen BK304.out 0; have hfz26_1 := blk_frozen BK304.out 1; have hfz26_2 := blk_frozen BK304.out 2; have hfz26_3 := blk_frozen BK304.out 3))
  go_ret
  exact ⟨EE, BL⟩
 rw [if_pos c4] at H
 have c4b0 : (a0_1.toList == a1_1.toList) = true := beq_iff_eq.mpr c4
 have c4b1 : (a0_1.toList != a1_1.toList) = false := bne_eq_false_iff_eq.mpr c4
 clear c4
 by_cases c5 : a0_2.toList = a1_2.toList; rotate_left
 ·
  rw [if_neg c5] at H
  have c5b0 : (a0_2.toList == a1_2.toList) = false := beq_eq_false_iff_ne.mpr c5
  have c5b1 : (a0_2.toList != a1_2.toList) = true := bne_iff_ne.mpr c5
  obtain rfl := Option.some.inj H
  go_enter Try.func68, Try.ntmps68
  go_wp2_with (first | ((with_reducible refine gate_dst (N := 2) rfl ?_); refine bE 2 #[.int .i64 a0_0, .string a0_1, .string a0_2, .string a0_3] 55 ?_; intro gb303 hg w17 hbox hb; have BK303 := Aside0.mk (hbox); have GW303 : Aside0 (w.heap.size ≤ gb303) := GS; have GE303 : Aside0 (w.heap.size ≤ gb303) := GS; replace HB := Aside0.mk (below_step (BL) hb); clear hb hbox hg) | ((with_reducible refine gate_dst (N := 3) rfl ?_); refine bE 3 #[.int .i64 a1_0, .string a1_1, .string a1_2, .string a1_3] 55 ?_; intro gb304 hg w18 hbox hb; have BK304 := Aside0.mk (hbox); have GW304 : Aside0 (w.heap.size ≤ gb304) := GS; have GE304 : Aside0 (w.heap.size ≤ gb304) := GS; have NB303_304 := NL BK303.out hg; have NB304_303 := NG BK303.out hg; replace BK303 := BB BK303.out hb; replace HB := Aside0.mk (below_step (BL) hb); clear hb hbox hg; have hnb19 := NB303_304.out; have hnc19 := NB304_303.out; have hcz20_0 : w18.cell? ⟨gb303, 0, none⟩ = some (.int .i64 a0_0) := CZ BK303.out 0; have hcz20_1 : w18.cell? ⟨gb303, 1, none⟩ = some (.string a0_1) := CZ BK303.out 1; have hcz20_2 : w18.cell? ⟨gb303, 2, none⟩ = some (.string a0_2) := CZ BK303.out 2; have hcz20_3 : w18.cell? ⟨gb303, 3, none⟩ = some (.string a0_3) := CZ BK303.out 3; have hfz20_0 := blk_frozen BK303.out 0; have hfz20_1 := blk_frozen BK303.out 1; have hfz20_2 := blk_frozen BK303.out 2; have hfz20_3 := blk_frozen BK303.out 3; have hcz21_0 : w18.cell? ⟨gb304, 0, none⟩ = some (.int .i64 a1_0) := CZ BK304.out 0; have hcz21_1 : w18.cell? ⟨gb304, 1, none⟩ = some (.string a1_1) := CZ BK304.out 1; have hcz21_2 : w18.cell? ⟨gb304, 2, none⟩ = some (.string a1_2) := CZ BK304.out 2; have hcz21_3 : w18.cell? ⟨gb304, 3, none⟩ = some (.string a1_3) := CZ BK304.out 3; have hfz21_0 := blk_frozen BK304.out 0; have hfz21_1 := blk_frozen BK304.out 1; have hfz21_2 := blk_frozen BK304.out 2; have hfz21_3 := blk_frozen BK304.out 3))
  go_ret
  exact ⟨EE, BL⟩
 rw [if_pos c5] at H
 have c5b0 : (a0_2.toList == a1_2.toList) = true := beq_iff_eq.mpr c5
 have c5b1 : (a0_2.toList != a1_2.toList) = false := bne_eq_false_iff_eq.mpr c5
 clear c5
 by_cases c6 : a0_3.toList = a1_3.toList; rotate_left
 ·
  rw [if_neg c6] at H
  have c6b0 : (a0_3.toList == a1_3.toList) = false := beq_eq_false_iff_ne.mpr c6
  have c6b1 : (a0_3.toList != a1_3.toList) = true := bne_iff_ne.mpr c6
  obtain rfl := Option.some.inj H
  go_enter Try.func68, Try.ntmps68
  go_wp2_with (first | ((with_reducible refine gate_dst (N := 2) rfl ?_); refine bE 2 #[.int .i64 a0_0, .string a0_1, .string a0_2, .string a0_3] 55 ?_; intro gb303 hg w12 hbox hb; have BK303 := Aside0.mk (hbox); have GW303 : Aside0 (w.heap.size ≤ gb303) := GS; have GE303 : Aside0 (w.heap.size ≤ gb303) := GS; replace HB := Aside0.mk (below_step (BL) hb); clear hb hbox hg) | ((with_reducible refine gate_dst (N := 3) rfl ?_); refine bE 3 #[.int .i64 a1_0, .string a1_1, .string a1_2, .string a1_3] 55 ?_; intro gb304 hg w13 hbox hb; have BK304 := Aside0.mk (hbox); have GW304 : Aside0 (w.heap.size ≤ gb304) := GS; have GE304 : Aside0 (w.heap.size ≤ gb304) := GS; have NB303_304 := NL BK303.out hg; have NB304_303 := NG BK303.out hg; replace BK303 := BB BK303.out hb; replace HB := Aside0.mk (below_step (BL) hb); clear hb hbox hg; have hnb14 := NB303_304.out; have hnc14 := NB304_303.out; have hcz15_0 : w13.cell? ⟨gb303, 0, none⟩ = some (.int .i64 a0_0) := CZ BK303.out 0; have hcz15_1 : w13.cell? ⟨gb303, 1, none⟩ = some (.string a0_1) := CZ BK303.out 1; have hcz15_2 : w13.cell? ⟨gb303, 2, none⟩ = some (.string a0_2) := CZ BK303.out 2; have hcz15_3 : w13.cell? ⟨gb303, 3, none⟩ = some (.string a0_3) := CZ BK303.out 3; have hfz15_0 := blk_frozen BK303.out 0; have hfz15_1 := blk_frozen BK303.out 1; have hfz15_2 := blk_frozen BK303.out 2; have hfz15_3 := blk_frozen BK303.out 3; have hcz16_0 : w13.cell? ⟨gb304, 0, none⟩ = some (.int .i64 a1_0) := CZ BK304.out 0; have hcz16_1 : w13.cell? ⟨gb304, 1, none⟩ = some (.string a1_1) := CZ BK304.out 1; have hcz16_2 : w13.cell? ⟨gb304, 2, none⟩ = some (.string a1_2) := CZ BK304.out 2; have hcz16_3 : w13.cell? ⟨gb304, 3, none⟩ = some (.string a1_3) := CZ BK304.out 3; have hfz16_0 := blk_frozen BK304.out 0; have hfz16_1 := blk_frozen BK304.out 1; have hfz16_2 := blk_frozen BK304.out 2; have hfz16_3 := blk_frozen BK304.out 3))
  go_ret
  exact ⟨EE, BL⟩
 rw [if_pos c6] at H
 have c6b0 : (a0_3.toList == a1_3.toList) = true := beq_iff_eq.mpr c6
 have c6b1 : (a0_3.toList != a1_3.toList) = false := bne_eq_false_iff_eq.mpr c6
 clear c6
 obtain rfl := Option.some.inj H
 go_enter Try.func68, Try.ntmps68
 go_wp2_with (first | ((with_reducible refine gate_dst (N := 2) rfl ?_); refine bE 2 #[.int .i64 a0_0, .string a0_1, .string a0_2, .string a0_3] 55 ?_; intro gb303 hg w7 hbox hb; have BK303 := Aside0.mk (hbox); have GW303 : Aside0 (w.heap.size ≤ gb303) := GS; have GE303 : Aside0 (w.heap.size ≤ gb303) := GS; replace HB := Aside0.mk (below_step (BL) hb); clear hb hbox hg) | ((with_reducible refine gate_dst (N := 3) rfl ?_); refine bE 3 #[.int .i64 a1_0, .string a1_1, .string a1_2, .string a1_3] 55 ?_; intro gb304 hg w8 hbox hb; have BK304 := Aside0.mk (hbox); have GW304 : Aside0 (w.heap.size ≤ gb304) := GS; have GE304 : Aside0 (w.heap.size ≤ gb304) := GS; have NB303_304 := NL BK303.out hg; have NB304_303 := NG BK303.out hg; replace BK303 := BB BK303.out hb; replace HB := Aside0.mk (below_step (BL) hb); clear hb hbox hg; have hnb9 := NB303_304.out; have hnc9 := NB304_303.out; have hcz10_0 : w8.cell? ⟨gb303, 0, none⟩ = some (.int .i64 a0_0) := CZ BK303.out 0; have hcz10_1 : w8.cell? ⟨gb303, 1, none⟩ = some (.string a0_1) := CZ BK303.out 1; have hcz10_2 : w8.cell? ⟨gb303, 2, none⟩ = some (.string a0_2) := CZ BK303.out 2; have hcz10_3 : w8.cell? ⟨gb303, 3, none⟩ = some (.string a0_3) := CZ BK303.out 3; have hfz10_0 := blk_frozen BK303.out 0; have hfz10_1 := blk_frozen BK303.out 1; have hfz10_2 := blk_frozen BK303.out 2; have hfz10_3 := blk_frozen BK303.out 3; have hcz11_0 : w8.cell? ⟨gb304, 0, none⟩ = some (.int .i64 a1_0) := CZ BK304.out 0; have hcz11_1 : w8.cell? ⟨gb304, 1, none⟩ = some (.string a1_1) := CZ BK304.out 1; have hcz11_2 : w8.cell? ⟨gb304, 2, none⟩ = some (.string a1_2) := CZ BK304.out 2; have hcz11_3 : w8.cell? ⟨gb304, 3, none⟩ = some (.string a1_3) := CZ BK304.out 3; have hfz11_0 := blk_frozen BK304.out 0; have hfz11_1 := blk_frozen BK304.out 1; have hfz11_2 := blk_frozen BK304.out 2; have hfz11_3 := blk_frozen BK304.out 3))
 go_ret
 exact ⟨EE, BL⟩

/-! ### laws_eqActS: function 42 -/
def laws_eqActS.l0 : Nat → List (S55) → List (S55) → Int → Option (Bool)
 | 0, _, _, _ => none
 | k + 1, x0, x1, x5 => if x5 < (x0.length : Int) then (if 0 ≤ x5 then (if x5 < (x1.length : Int) then ((laws_eqAct.f ((rd_T55 x0 x5).f0) ((rd_T55 x0 x5).f1) ((rd_T55 x0 x5).f2) ((rd_T55 x0 x5).f3) ((rd_T55 x1 x5).f0) ((rd_T55 x1 x5).f1) ((rd_T55 x1 x5).f2) ((rd_T55 x1 x5).f3)).bind fun t307 => (if t307 = true then (laws_eqActS.l0 k x0 x1 (wrap64 (x5 + 1))) else (some false))) else (none)) else (none)) else (some true)
def laws_eqActS.f (k : Nat) (l0 : List (S55)) (l1 : List (S55)) : Option (Bool) := if (l0.length : Int) = (l1.length : Int) then (laws_eqActS.l0 k l0 l1 0) else (some false)
theorem laws_eqActS.mono_l : ∀ k, (∀ y0 y1 y2, LeO (laws_eqActS.l0 k y0 y1 y2) (laws_eqActS.l0 (k + 1) y0 y1 y2))
 | 0 => fun _ _ _ r h => by simp [laws_eqActS.l0] at h
 | k + 1 => by
  have ih0 := laws_eqActS.mono_l k
  ·
   intro y0 y1 y2
   unfold laws_eqActS.l0
   repeat' first
   | (with_reducible exact ih0 _ _ _)
   | (with_reducible exact LeO.refl _)
   | (with_reducible exact LeO.none _)
   | (with_reducible refine LeO.ite ?_ ?_)
   | (with_reducible refine LeO.bind ?_ (fun _ => ?_))
   | exact ih0 _ _ _
   | exact LeO.none _
   | refine LeO.ite ?_ ?_
   | refine LeO.bind ?_ (fun _ => ?_)
theorem laws_eqActS.mono : ∀ a0 a1 k, LeO (laws_eqActS.f k a0 a1) (laws_eqActS.f (k + 1) a0 a1) := by
 intro a0 a1 k
 have ih0 := laws_eqActS.mono_l k
 unfold laws_eqActS.f
 repeat' first
   | (with_reducible exact ih0 _ _ _)
   | (with_reducible exact LeO.refl _)
   | (with_reducible exact LeO.none _)
   | (with_reducible refine LeO.ite ?_ ?_)
   | (with_reducible refine LeO.bind ?_ (fun _ => ?_))
   | exact ih0 _ _ _
   | exact LeO.none _
   | refine LeO.ite ?_ ?_
   | refine LeO.bind ?_ (fun _ => ?_)
def laws_eqActS.T6 : Bool × List (List Nat × List Nat) := (true, [([], []), ([], []), ([0, 1], [0, 1]), ([2], [2]), ([], []), ([], []), ([4, 5], [4, 5]), ([6], [6]), ([3, 7], [3, 7]), ([8], [8])])
def laws_eqActS.B6 : List Nat := [0, 0, 3, 7, 0, 0, 48, 112, 255, 511]
theorem laws_eqActS.tab6 : rtab .any (opsOf Try.f42 6) = laws_eqActS.T6 := by kernel_rfl
theorem laws_eqActS.bits6 : waitsOk laws_eqActS.T6.2 laws_eqActS.B6 = true := by kernel_rfl
set_option maxHeartbeats 8000000 in
set_option maxRecDepth 100000 in
theorem laws_eqActS.calls (k : Nat) (A0 : Option Addr) (c0 : Nat) (l0 : List (S55)) (A1 : Option Addr) (c1 : Nat) (l1 : List (S55)) (r : Bool) (w : World) (hr0 : Kd.C k55 w A0 l0.length l0) (hc0 : l0.length ≤ c0) (hr1 : Kd.C k55 w A1 l1.length l1) (hc1 : l1.length ≤ c1) (h : laws_eqActS.f k l0 l1 = some r) :
  Calls Try.prog 42 #[.slice A0 l0.length c0, .slice A1 l1.length c1] w fun e w' => e = .returned (.bool r) ∧ Below w.heap.size w w' := by
 have hu55 := Try.underlying55
 have HR0 := Aside0.mk hr0
 have HC0 := Aside0.mk hc0
 clear hr0 hc0
 have HR1 := Aside0.mk hr1
 have HC1 := Aside0.mk hc1
 clear hr1 hc1
 have HB := Aside0.mk (Below.refl w.heap.size w)
 have H : (if (l0.length : Int) = (l1.length : Int) then (laws_eqActS.l0 k l0 l1 0) else (some false)) = some r := h
 clear h
 by_cases c3 : (l0.length : Int) = (l1.length : Int); rotate_left
 ·
  rw [if_neg c3] at H
  have c3b0 : ((l0.length : Int) == (l1.length : Int)) = false := beq_eq_false_iff_ne.mpr c3
  have c3b1 : ((l0.length : Int) != (l1.length : Int)) = true := bne_iff_ne.mpr c3
  have c3b2 : (l0.length == l1.length) = false := by first | simpa using c3 | (simp at c3 ⊢; omega)
  obtain rfl := Option.some.inj H
  go_enter Try.func42, Try.ntmps42
  go_wp2
  go_ret
  exact ⟨EE, BL⟩
 rw [if_pos c3] at H
 have c3b0 : ((l0.length : Int) == (l1.length : Int)) = true := beq_iff_eq.mpr c3
 have c3b1 : ((l0.length : Int) != (l1.length : Int)) = false := bne_eq_false_iff_eq.mpr c3
 have c3b2 : (l0.length == l1.length) = true := by first | simpa using c3 | (simp at c3 ⊢; omega)
 clear c3
 have H' := Aside0.mk H
 clear H
 go_enter Try.func42, Try.ntmps42
 go_wp2
 go_loopg [5] k (fun kq v5 w' => ∃ (x5_1 : Int), v5 = .int .i64 x5_1 ∧ Aside0 (laws_eqActS.l0 kq l0 l1 x5_1 = some r) ∧ Aside0 (kq ≤ k) ∧ Aside0 (Below w.heap.size w w'))
 case atStart => exact ⟨(0), SD, H', ⟨Nat.le_refl _⟩, ⟨BL⟩⟩
 case round =>
  clear H'
  try clear c1
  try clear p2
  try clear c3
  try clear c3b0
  try clear c3b1
  try clear c3b2
  obtain ⟨x5_1, rfl, HA, HK1, HB⟩ := hrel
  cases gk with
  | zero => exact absurd HA.out (by simp [laws_eqActS.l0])
  | succ k1 =>
   have H := HA.out
   clear HA
   simp only [laws_eqActS.l0] at H
   by_cases c4 : x5_1 < (l0.length : Int); rotate_left
   ·
    rw [if_neg c4] at H
    have c4b0 : decide (x5_1 < (l0.length : Int)) = false := decide_eq_false c4
    clear c4
    obtain rfl := Option.some.inj H
    go_wp2
    go_ret
    exact ⟨EE, BL⟩
   rw [if_pos c4] at H
   have c4b0 : decide (x5_1 < (l0.length : Int)) = true := decide_eq_true c4
   clear c4
   by_cases c5 : 0 ≤ x5_1; rotate_left
   ·
    rw [if_neg c5] at H
    exact absurd H (by simp)
   rw [if_pos c5] at H
   have c5b0 : decide (0 ≤ x5_1) = true := decide_eq_true c5
   clear c5
   by_cases c6 : x5_1 < (l1.length : Int); rotate_left
   ·
    rw [if_neg c6] at H
    exact absurd H (by simp)
   rw [if_pos c6] at H
   have c6b0 : decide (x5_1 < (l1.length : Int)) = true := decide_eq_true c6
   clear c6
   replace H := Option.bind_eq_some_iff.mp H
   obtain ⟨t307, A70, H⟩ := H
   replace H : (if t307 = true then (laws_eqActS.l0 k1 l0 l1 (wrap64 (x5_1 + 1))) else (some false)) = some r := H
   have A7 := Aside0.mk A70
   clear A70
   by_cases c8 : t307 = true; rotate_left
   ·
    replace c8 := Bool.eq_false_iff.mpr c8
    subst c8
    have H1 : (some false) = some r := by rw [if_neg (show ¬ (false = true) by decide)] at H; exact H
    clear H
    have H := H1
    clear H1
    obtain rfl := Option.some.inj H
    try go_wp2
    have n0_ := Aside0.mk (below_drew1 HB.out)
    clear HB
    have HB := n0_
    clear n0_
    have p305 : 0 ≤ (x5_1 : Int) := of_decide_eq_true AS
    have q305 : x5_1 < (l0.length : Int) := of_decide_eq_true AS
    obtain ⟨ad305, e305, hx305_0, hx305_1, hx305_2, hx305_3⟩ := at_T55 HR0.out x5_1 p305 q305
    have hw305_3 := hx305_3
    have hw305_2 := hx305_2
    have hw305_1 := hx305_1
    have hw305_0 := hx305_0
    cases e305
    replace hx305_0 := (HB.out.cell (World.block_lt_of_cell? w _ hx305_0)).trans hx305_0
    replace hx305_1 := (HB.out.cell (World.block_lt_of_cell? w _ hx305_1)).trans hx305_1
    replace hx305_2 := (HB.out.cell (World.block_lt_of_cell? w _ hx305_2)).trans hx305_2
    replace hx305_3 := (HB.out.cell (World.block_lt_of_cell? w _ hx305_3)).trans hx305_3
    replace p305 := eq_true p305
    replace q305 := eq_true q305
    have p306 : 0 ≤ (x5_1 : Int) := of_decide_eq_true AS
    have q306 : x5_1 < (l1.length : Int) := of_decide_eq_true AS
    obtain ⟨ad306, e306, hx306_0, hx306_1, hx306_2, hx306_3⟩ := at_T55 HR1.out x5_1 p306 q306
    have hw306_3 := hx306_3
    have hw306_2 := hx306_2
    have hw306_1 := hx306_1
    have hw306_0 := hx306_0
    cases e306
    replace hx306_0 := (HB.out.cell (World.block_lt_of_cell? w _ hx306_0)).trans hx306_0
    replace hx306_1 := (HB.out.cell (World.block_lt_of_cell? w _ hx306_1)).trans hx306_1
    replace hx306_2 := (HB.out.cell (World.block_lt_of_cell? w _ hx306_2)).trans hx306_2
    replace hx306_3 := (HB.out.cell (World.block_lt_of_cell? w _ hx306_3)).trans hx306_3
    replace p306 := eq_true p306
    replace q306 := eq_true q306
    refine start_ (n := 10) (S := fun w' => w'.cell? (ad305.add ((x5_1).toNat * 4)) = some (.int .i64 ((rd_T55 l0 x5_1).f0)) ∧ w'.cell? ⟨(ad305.add ((x5_1).toNat * 4)).block, (ad305.add ((x5_1).toNat * 4)).off + 1, none⟩ = some (.string ((rd_T55 l0 x5_1).f1)) ∧ w'.cell? ⟨(ad305.add ((x5_1).toNat * 4)).block, (ad305.add ((x5_1).toNat * 4)).off + 2, none⟩ = some (.string ((rd_T55 l0 x5_1).f2)) ∧ w'.cell? ⟨(ad305.add ((x5_1).toNat * 4)).block, (ad305.add ((x5_1).toNat * 4)).off + 3, none⟩ = some (.string ((rd_T55 l0 x5_1).f3)) ∧ w'.cell? (ad306.add ((x5_1).toNat * 4)) = some (.int .i64 ((rd_T55 l1 x5_1).f0)) ∧ w'.cell? ⟨(ad306.add ((x5_1).toNat * 4)).block, (ad306.add ((x5_1).toNat * 4)).off + 1, none⟩ = some (.string ((rd_T55 l1 x5_1).f1)) ∧ w'.cell? ⟨(ad306.add ((x5_1).toNat * 4)).block, (ad306.add ((x5_1).toNat * 4)).off + 2, none⟩ = some (.string ((rd_T55 l1 x5_1).f2)) ∧ w'.cell? ⟨(ad306.add ((x5_1).toNat * 4)).block, (ad306.add ((x5_1).toNat * 4)).off + 3, none⟩ = some (.string ((rd_T55 l1 x5_1).f3))) (ds := []) #[false, false, false, false, false, false, false, false, false, false] (by kernel_rfl) rfl rfl ⟨((HB.out.cell (World.block_lt_of_cell? w _ hw305_0)).trans hw305_0), ((HB.out.cell (World.block_lt_of_cell? w _ hw305_1)).trans hw305_1), ((HB.out.cell (World.block_lt_of_cell? w _ hw305_2)).trans hw305_2), ((HB.out.cell (World.block_lt_of_cell? w _ hw305_3)).trans hw305_3), ((HB.out.cell (World.block_lt_of_cell? w _ hw306_0)).trans hw306_0), ((HB.out.cell (World.block_lt_of_cell? w _ hw306_1)).trans hw306_1), ((HB.out.cell (World.block_lt_of_cell? w _ hw306_2)).trans hw306_2), ((HB.out.cell (World.block_lt_of_cell? w _ hw306_3)).trans hw306_3)⟩ (fun hHeld => ?_); refine with_tabW laws_eqActS.tab6 laws_eqActS.bits6 (fun HT_ HW_ => ?_)
    generalize wr.drew = w11 at HB hx305_0 hx305_1 hx305_2 hx305_3 hx306_0 hx306_1 hx306_2 hx306_3 hHeld ⊢
    refine pV 0 17 (OB 10 1) ?_
    refine pV 1 18 (OB 10 3) ?_
    refine pV 2 19 (OB 10 7) ?_
    refine pV 4 21 (OB 10 23) ?_
    refine pV 5 22 (OB 10 55) ?_
    refine pV 6 23 (OB 10 119) ?_
    refine take_ (i := 3) (N := some 20) (v := ?_) (a' := ?_) (OB 10 127) rfl rfl (take_ofW HT_.out HW_.out (by kernel_rfl)) (fun _ _ _ h => h) (Or.inl ⟨by rfl, ?_⟩) hHeld ?_ ?_
    rotate_left
    ·
     rintro w' ⟨s0, s1, s2, s3, s4, s5, s6, s7⟩
     go_simp
     with_reducible rfl
    rotate_left
    ·
     simp only [Act.put, zA, zB, zC, i64_w, i32_w]
     rfl
    refine take_ (i := 7) (N := some 24) (v := ?_) (a' := ?_) (OB 10 255) rfl rfl (take_ofW HT_.out HW_.out (by kernel_rfl)) (fun _ _ _ h => h) (Or.inl ⟨by rfl, ?_⟩) hHeld ?_ ?_
    rotate_left
    ·
     rintro w' ⟨s0, s1, s2, s3, s4, s5, s6, s7⟩
     go_simp
     with_reducible rfl
    rotate_left
    ·
     simp only [Act.put, zA, zB, zC, i64_w, i32_w]
     rfl
    refine one_ (i := 8) (N := some 25) (OB 10 511) rfl rfl (one_of HT_.out (by kernel_rfl)) (by decide) (fun K hK => ?_)
    refine goes_ Try.func68 (by kernel_rfl) rfl #[.agg #[.int .i64 ((rd_T55 l0 x5_1).f0), .string ((rd_T55 l0 x5_1).f1), .string ((rd_T55 l0 x5_1).f2), .string ((rd_T55 l0 x5_1).f3)], .agg #[.int .i64 ((rd_T55 l1 x5_1).f0), .string ((rd_T55 l1 x5_1).f1), .string ((rd_T55 l1 x5_1).f2), .string ((rd_T55 l1 x5_1).f3)]] (by rfl) rfl rfl (MA) ?_
    with_reducible refine (laws_eqAct.calls ((rd_T55 l0 x5_1).f0) ((rd_T55 l0 x5_1).f1) ((rd_T55 l0 x5_1).f2) ((rd_T55 l0 x5_1).f3) ((rd_T55 l1 x5_1).f0) ((rd_T55 l1 x5_1).f1) ((rd_T55 l1 x5_1).f2) ((rd_T55 l1 x5_1).f3) false _ A7.out).mono ?_
    rintro e w12 ⟨rfl, hb⟩
    refine ⟨_, rfl, ?_⟩
    have n0_ := Aside0.mk (below_step (BL) hb)
    clear HB
    have HB := n0_
    clear n0_
    (try clear hb)
    (try clear hb2)
    (try clear hk)
    (try clear hi)
    refine hK.out _ _ ⟨((HB.out.cell (World.block_lt_of_cell? w _ hw305_0)).trans hw305_0), ((HB.out.cell (World.block_lt_of_cell? w _ hw305_1)).trans hw305_1), ((HB.out.cell (World.block_lt_of_cell? w _ hw305_2)).trans hw305_2), ((HB.out.cell (World.block_lt_of_cell? w _ hw305_3)).trans hw305_3), ((HB.out.cell (World.block_lt_of_cell? w _ hw306_0)).trans hw306_0), ((HB.out.cell (World.block_lt_of_cell? w _ hw306_1)).trans hw306_1), ((HB.out.cell (World.block_lt_of_cell? w _ hw306_2)).trans hw306_2), ((HB.out.cell (World.block_lt_of_cell? w _ hw306_3)).trans hw306_3)⟩ (fun hHeld => ?_)
    clear hK K
    refine norm_ (a' := ?_) ?_ ?_
    rotate_left
    ·
     show Act.put _ (some 25) _ = _
     simp only [Act.put, zA, zB, zC, i64_w, i32_w]
     rfl
    refine pV 9 26 (OB 10 1023) ?_
    refine done_ (done_of HT_.out (by kernel_rfl)) ?_
    try go_wp2
    go_ret
    exact ⟨EE, BL⟩
   subst c8
   have H1 : (laws_eqActS.l0 k1 l0 l1 (wrap64 (x5_1 + 1))) = some r := by rw [if_pos rfl] at H; exact H
   clear H
   have H := H1
   clear H1
   have H' := Aside0.mk H
   clear H
   try go_wp2
   have n0_ := Aside0.mk (below_drew1 HB.out)
   clear HB
   have HB := n0_
   clear n0_
   have p305 : 0 ≤ (x5_1 : Int) := of_decide_eq_true AS
   have q305 : x5_1 < (l0.length : Int) := of_decide_eq_true AS
   obtain ⟨ad305, e305, hx305_0, hx305_1, hx305_2, hx305_3⟩ := at_T55 HR0.out x5_1 p305 q305
   have hw305_3 := hx305_3
   have hw305_2 := hx305_2
   have hw305_1 := hx305_1
   have hw305_0 := hx305_0
   cases e305
   replace hx305_0 := (HB.out.cell (World.block_lt_of_cell? w _ hx305_0)).trans hx305_0
   replace hx305_1 := (HB.out.cell (World.block_lt_of_cell? w _ hx305_1)).trans hx305_1
   replace hx305_2 := (HB.out.cell (World.block_lt_of_cell? w _ hx305_2)).trans hx305_2
   replace hx305_3 := (HB.out.cell (World.block_lt_of_cell? w _ hx305_3)).trans hx305_3
   replace p305 := eq_true p305
   replace q305 := eq_true q305
   have p306 : 0 ≤ (x5_1 : Int) := of_decide_eq_true AS
   have q306 : x5_1 < (l1.length : Int) := of_decide_eq_true AS
   obtain ⟨ad306, e306, hx306_0, hx306_1, hx306_2, hx306_3⟩ := at_T55 HR1.out x5_1 p306 q306
   have hw306_3 := hx306_3
   have hw306_2 := hx306_2
   have hw306_1 := hx306_1
   have hw306_0 := hx306_0
   cases e306
   replace hx306_0 := (HB.out.cell (World.block_lt_of_cell? w _ hx306_0)).trans hx306_0
   replace hx306_1 := (HB.out.cell (World.block_lt_of_cell? w _ hx306_1)).trans hx306_1
   replace hx306_2 := (HB.out.cell (World.block_lt_of_cell? w _ hx306_2)).trans hx306_2
   replace hx306_3 := (HB.out.cell (World.block_lt_of_cell? w _ hx306_3)).trans hx306_3
   replace p306 := eq_true p306
   replace q306 := eq_true q306
   refine start_ (n := 10) (S := fun w' => w'.cell? (ad305.add ((x5_1).toNat * 4)) = some (.int .i64 ((rd_T55 l0 x5_1).f0)) ∧ w'.cell? ⟨(ad305.add ((x5_1).toNat * 4)).block, (ad305.add ((x5_1).toNat * 4)).off + 1, none⟩ = some (.string ((rd_T55 l0 x5_1).f1)) ∧ w'.cell? ⟨(ad305.add ((x5_1).toNat * 4)).block, (ad305.add ((x5_1).toNat * 4)).off + 2, none⟩ = some (.string ((rd_T55 l0 x5_1).f2)) ∧ w'.cell? ⟨(ad305.add ((x5_1).toNat * 4)).block, (ad305.add ((x5_1).toNat * 4)).off + 3, none⟩ = some (.string ((rd_T55 l0 x5_1).f3)) ∧ w'.cell? (ad306.add ((x5_1).toNat * 4)) = some (.int .i64 ((rd_T55 l1 x5_1).f0)) ∧ w'.cell? ⟨(ad306.add ((x5_1).toNat * 4)).block, (ad306.add ((x5_1).toNat * 4)).off + 1, none⟩ = some (.string ((rd_T55 l1 x5_1).f1)) ∧ w'.cell? ⟨(ad306.add ((x5_1).toNat * 4)).block, (ad306.add ((x5_1).toNat * 4)).off + 2, none⟩ = some (.string ((rd_T55 l1 x5_1).f2)) ∧ w'.cell? ⟨(ad306.add ((x5_1).toNat * 4)).block, (ad306.add ((x5_1).toNat * 4)).off + 3, none⟩ = some (.string ((rd_T55 l1 x5_1).f3))) (ds := []) #[false, false, false, false, false, false, false, false, false, false] (by kernel_rfl) rfl rfl ⟨((HB.out.cell (World.block_lt_of_cell? w _ hw305_0)).trans hw305_0), ((HB.out.cell (World.block_lt_of_cell? w _ hw305_1)).trans hw305_1), ((HB.out.cell (World.block_lt_of_cell? w _ hw305_2)).trans hw305_2), ((HB.out.cell (World.block_lt_of_cell? w _ hw305_3)).trans hw305_3), ((HB.out.cell (World.block_lt_of_cell? w _ hw306_0)).trans hw306_0), ((HB.out.cell (World.block_lt_of_cell? w _ hw306_1)).trans hw306_1), ((HB.out.cell (World.block_lt_of_cell? w _ hw306_2)).trans hw306_2), ((HB.out.cell (World.block_lt_of_cell? w _ hw306_3)).trans hw306_3)⟩ (fun hHeld => ?_); refine with_tabW laws_eqActS.tab6 laws_eqActS.bits6 (fun HT_ HW_ => ?_)
   generalize wr.drew = w9 at HB hx305_0 hx305_1 hx305_2 hx305_3 hx306_0 hx306_1 hx306_2 hx306_3 hHeld ⊢
   refine pV 0 17 (OB 10 1) ?_
   refine pV 1 18 (OB 10 3) ?_
   refine pV 2 19 (OB 10 7) ?_
   refine pV 4 21 (OB 10 23) ?_
   refine pV 5 22 (OB 10 55) ?_
   refine pV 6 23 (OB 10 119) ?_
   refine take_ (i := 3) (N := some 20) (v := ?_) (a' := ?_) (OB 10 127) rfl rfl (take_ofW HT_.out HW_.out (by kernel_rfl)) (fun _ _ _ h => h) (Or.inl ⟨by rfl, ?_⟩) hHeld ?_ ?_
   rotate_left
   ·
    rintro w' ⟨s0, s1, s2, s3, s4, s5, s6, s7⟩
    go_simp
    with_reducible rfl
   rotate_left
   ·
    simp only [Act.put, zA, zB, zC, i64_w, i32_w]
    rfl
   refine take_ (i := 7) (N := some 24) (v := ?_) (a' := ?_) (OB 10 255) rfl rfl (take_ofW HT_.out HW_.out (by kernel_rfl)) (fun _ _ _ h => h) (Or.inl ⟨by rfl, ?_⟩) hHeld ?_ ?_
   rotate_left
   ·
    rintro w' ⟨s0, s1, s2, s3, s4, s5, s6, s7⟩
    go_simp
    with_reducible rfl
   rotate_left
   ·
    simp only [Act.put, zA, zB, zC, i64_w, i32_w]
    rfl
   refine one_ (i := 8) (N := some 25) (OB 10 511) rfl rfl (one_of HT_.out (by kernel_rfl)) (by decide) (fun K hK => ?_)
   refine goes_ Try.func68 (by kernel_rfl) rfl #[.agg #[.int .i64 ((rd_T55 l0 x5_1).f0), .string ((rd_T55 l0 x5_1).f1), .string ((rd_T55 l0 x5_1).f2), .string ((rd_T55 l0 x5_1).f3)], .agg #[.int .i64 ((rd_T55 l1 x5_1).f0), .string ((rd_T55 l1 x5_1).f1), .string ((rd_T55 l1 x5_1).f2), .string ((rd_T55 l1 x5_1).f3)]] (by rfl) rfl rfl (MA) ?_
   with_reducible refine (laws_eqAct.calls ((rd_T55 l0 x5_1).f0) ((rd_T55 l0 x5_1).f1) ((rd_T55 l0 x5_1).f2) ((rd_T55 l0 x5_1).f3) ((rd_T55 l1 x5_1).f0) ((rd_T55 l1 x5_1).f1) ((rd_T55 l1 x5_1).f2) ((rd_T55 l1 x5_1).f3) true _ A7.out).mono ?_
   rintro e w10 ⟨rfl, hb⟩
   refine ⟨_, rfl, ?_⟩
   have n0_ := Aside0.mk (below_step (BL) hb)
   clear HB
   have HB := n0_
   clear n0_
   (try clear hb)
   (try clear hb2)
   (try clear hk)
   (try clear hi)
   refine hK.out _ _ ⟨((HB.out.cell (World.block_lt_of_cell? w _ hw305_0)).trans hw305_0), ((HB.out.cell (World.block_lt_of_cell? w _ hw305_1)).trans hw305_1), ((HB.out.cell (World.block_lt_of_cell? w _ hw305_2)).trans hw305_2), ((HB.out.cell (World.block_lt_of_cell? w _ hw305_3)).trans hw305_3), ((HB.out.cell (World.block_lt_of_cell? w _ hw306_0)).trans hw306_0), ((HB.out.cell (World.block_lt_of_cell? w _ hw306_1)).trans hw306_1), ((HB.out.cell (World.block_lt_of_cell? w _ hw306_2)).trans hw306_2), ((HB.out.cell (World.block_lt_of_cell? w _ hw306_3)).trans hw306_3)⟩ (fun hHeld => ?_)
   clear hK K
   refine norm_ (a' := ?_) ?_ ?_
   rotate_left
   ·
    show Act.put _ (some 25) _ = _
    simp only [Act.put, zA, zB, zC, i64_w, i32_w]
    rfl
   refine pV 9 26 (OB 10 1023) ?_
   refine done_ (done_of HT_.out (by kernel_rfl)) ?_
   try go_wp2
   go_roundg k1
   case measure => have := HK1.out; omega
   case rel => exact ⟨(wrap64 (x5_1 + 1)), SD, H', ⟨by have := HK1.out; omega⟩, ⟨BL⟩⟩

/-! ### laws_markActS: function 43 -/
def laws_markActS.l0 : Nat → List (S55) → Int → Int → Option (Int × (List (S55)))
 | 0, _, _, _ => none
 | k + 1, x0, x1, x5 => if x5 < (x0.length : Int) then (if 0 ≤ x5 then ((some (x0.set (x5 : Int).toNat (⟨x1, (rd_T55 x0 x5).f1, (rd_T55 x0 x5).f2, (rd_T55 x0 x5).f3⟩ : S55) : List (S55))).bind fun y308 => ((laws_markText.f k (wrap64 (x1 + 1))).bind fun t309 => ((some (y308.set (x5 : Int).toNat (⟨(rd_T55 y308 x5).f0, t309, (rd_T55 y308 x5).f2, (rd_T55 y308 x5).f3⟩ : S55) : List (S55))).bind fun y310 => ((laws_markText.f k (wrap64 ((wrap64 (x1 + 1)) + 1))).bind fun t311 => ((some (y310.set (x5 : Int).toNat (⟨(rd_T55 y310 x5).f0, (rd_T55 y310 x5).f1, t311, (rd_T55 y310 x5).f3⟩ : S55) : List (S55))).bind fun y312 => ((laws_markText.f k (wrap64 ((wrap64 ((wrap64 (x1 + 1)) + 1)) + 1))).bind fun t313 => (laws_markActS.l0 k (y312.set (x5 : Int).toNat (⟨(rd_T55 y312 x5).f0, (rd_T55 y312 x5).f1, (rd_T55 y312 x5).f2, t313⟩ : S55)) (wrap64 ((wrap64 ((wrap64 ((wrap64 (x1 + 1)) + 1)) + 1)) + 1)) (wrap64 (x5 + 1))))))))) else (none)) else (some (x1, x0))
def laws_markActS.f (k : Nat) (l0 : List (S55)) (a1 : Int) : Option (Int × (List (S55))) := laws_markActS.l0 k l0 a1 0
theorem laws_markActS.mono_l : ∀ k, (∀ y0 y1 y2, LeO (laws_markActS.l0 k y0 y1 y2) (laws_markActS.l0 (k + 1) y0 y1 y2))
 | 0 => fun _ _ _ r h => by simp [laws_markActS.l0] at h
 | k + 1 => by
  have ih0 := laws_markActS.mono_l k
  ·
   intro y0 y1 y2
   unfold laws_markActS.l0
   repeat' first
   | (with_reducible exact ih0 _ _ _)
   | (with_reducible exact laws_markText.mono _ _)
   | (with_reducible exact LeO.refl _)
   | (with_reducible exact LeO.none _)
   | (with_reducible refine LeO.ite ?_ ?_)
   | (with_reducible refine LeO.bind ?_ (fun _ => ?_))
   | exact ih0 _ _ _
   | exact laws_markText.mono _ _
   | exact LeO.none _
   | refine LeO.ite ?_ ?_
   | refine LeO.bind ?_ (fun _ => ?_)
theorem laws_markActS.mono : ∀ a0 a1 k, LeO (laws_markActS.f k a0 a1) (laws_markActS.f (k + 1) a0 a1) := by
 intro a0 a1 k
 have ih0 := laws_markActS.mono_l k
 unfold laws_markActS.f
 repeat' first
   | (with_reducible exact ih0 _ _ _)
   | (with_reducible exact laws_markText.mono _ _)
   | (with_reducible exact LeO.refl _)
   | (with_reducible exact LeO.none _)
   | (with_reducible refine LeO.ite ?_ ?_)
   | (with_reducible refine LeO.bind ?_ (fun _ => ?_))
   | exact ih0 _ _ _
   | exact laws_markText.mono _ _
   | exact LeO.none _
   | refine LeO.ite ?_ ?_
   | refine LeO.bind ?_ (fun _ => ?_)
set_option maxHeartbeats 8000000 in
set_option maxRecDepth 100000 in
theorem laws_markActS.calls (k : Nat) (P0_ : Nat → Prop) (u9000_ : Value) (l0 : List (S55)) (a1 : Int) (r1 : Int) (r2 : List (S55)) (w0 w : World) (hB : Below w0.heap.size w0 w) (ho0 : Kd.R k55 55 w w0.heap.size P0_ u9000_ l0) (h : laws_markActS.f k l0 a1 = some (r1, r2)) :
  Calls Try.prog 43 #[u9000_, .int .i64 a1] w fun e w' => e = .returned (.int .i64 r1) ∧ Kd.R k55 55 w' w0.heap.size (fun k_ => (P0_ k_ ∨ w.heap.size ≤ k_)) u9000_ r2 ∧ Below w0.heap.size w0 w' ∧ Kept w w' (fun k_ => P0_ k_) := by
 have HO0 := Aside0.mk (show Kd.R k55 55 w w0.heap.size (fun k_ => (P0_ k_ ∨ w.heap.size ≤ k_)) u9000_ l0 from Kd.R_mono ho0 (fun k_ hk => (.inl hk)))
 have HK := Aside0.mk (Kept.refl w (fun k_ => P0_ k_))
 have HW0 := Aside0.mk hB.size
 have HB := Aside0.mk hB
 clear hB
 have H : (laws_markActS.l0 k l0 a1 0) = some (r1, r2) := h
 clear h
 have H' := Aside0.mk H
 clear H
 go_enter Try.func43, Try.ntmps43
 go_wp2
 go_loopg [1, 5] k (fun kq v1 v5 w' => ∃ (x0_1 : List (S55)) (x1_1 : Int) (x5_1 : Int), v1 = .int .i64 x1_1 ∧ v5 = .int .i64 x5_1 ∧ Aside0 (laws_markActS.l0 kq x0_1 x1_1 x5_1 = some (r1, r2)) ∧ Aside0 (kq ≤ k) ∧ Aside0 (Kd.R k55 55 w' w0.heap.size (fun k_ => (P0_ k_ ∨ w.heap.size ≤ k_)) u9000_ x0_1) ∧ Aside0 (Kept w w' (fun k_ => P0_ k_)) ∧ Aside0 (Below w0.heap.size w0 w'))
 case atStart => exact ⟨(l0), (a1), (0), SD, SD, H', ⟨Nat.le_refl _⟩, ⟨RQ HO0.out⟩, ⟨KL⟩, ⟨BL⟩⟩
 case round =>
  clear H'
  try clear p2
  obtain ⟨x0_1, x1_1, x5_1, rfl, rfl, HA, HK1, HO_0, HK, HB⟩ := hrel
  cases gk with
  | zero => exact absurd HA.out (by simp [laws_markActS.l0])
  | succ k1 =>
   have H := HA.out
   clear HA
   simp only [laws_markActS.l0] at H
   by_cases c3 : x5_1 < (x0_1.length : Int); rotate_left
   ·
    rw [if_neg c3] at H
    have c3b0 : decide (x5_1 < (x0_1.length : Int)) = false := decide_eq_false c3
    clear c3
    simp only [Option.some.injEq, Prod.mk.injEq] at H
    obtain ⟨rfl, rfl⟩ := H
    obtain ⟨Ao24, co24, eo24⟩ := Kd.R_slice HO_0.out
    subst eo24
    go_wp2
    go_ret
    exact ⟨EE, RQ HO_0.out, BL, KL⟩
   rw [if_pos c3] at H
   have c3b0 : decide (x5_1 < (x0_1.length : Int)) = true := decide_eq_true c3
   clear c3
   by_cases c4 : 0 ≤ x5_1; rotate_left
   ·
    rw [if_neg c4] at H
    exact absurd H (by simp)
   rw [if_pos c4] at H
   have c4b0 : decide (0 ≤ x5_1) = true := decide_eq_true c4
   clear c4
   obtain ⟨y308, hy308⟩ : ∃ y_ : List (S55), y_ = (x0_1.set (x5_1 : Int).toNat (⟨x1_1, (rd_T55 x0_1 x5_1).f1, (rd_T55 x0_1 x5_1).f2, (rd_T55 x0_1 x5_1).f3⟩ : S55)) := ⟨_, rfl⟩
   replace H : ((laws_markText.f k1 (wrap64 (x1_1 + 1))).bind fun t309 => ((some (y308.set (x5_1 : Int).toNat (⟨(rd_T55 y308 x5_1).f0, t309, (rd_T55 y308 x5_1).f2, (rd_T55 y308 x5_1).f3⟩ : S55) : List (S55))).bind fun y310 => ((laws_markText.f k1 (wrap64 ((wrap64 (x1_1 + 1)) + 1))).bind fun t311 => ((some (y310.set (x5_1 : Int).toNat (⟨(rd_T55 y310 x5_1).f0, (rd_T55 y310 x5_1).f1, t311, (rd_T55 y310 x5_1).f3⟩ : S55) : List (S55))).bind fun y312 => ((laws_markText.f k1 (wrap64 ((wrap64 ((wrap64 (x1_1 + 1)) + 1)) + 1))).bind fun t313 => (laws_markActS.l0 k1 (y312.set (x5_1 : Int).toNat (⟨(rd_T55 y312 x5_1).f0, (rd_T55 y312 x5_1).f1, (rd_T55 y312 x5_1).f2, t313⟩ : S55)) (wrap64 ((wrap64 ((wrap64 ((wrap64 (x1_1 + 1)) + 1)) + 1)) + 1)) (wrap64 (x5_1 + 1)))))))) = some (r1, r2) := by first | (rw [hy308]; with_reducible exact H) | (have H2_ := (Option.bind_some _ _).symm.trans H; rw [hy308]; with_reducible exact H2_) | (have H2_ := (Option.bind_some _ _).symm.trans H; with_reducible exact H2_) | with_reducible exact H | (rw [hy308]; exact H) | exact H
   have Ny308 := Aside0.mk hy308
   clear hy308
   replace H := Option.bind_eq_some_iff.mp H
   obtain ⟨t309, A60, H⟩ := H
   replace H : ((some (y308.set (x5_1 : Int).toNat (⟨(rd_T55 y308 x5_1).f0, t309, (rd_T55 y308 x5_1).f2, (rd_T55 y308 x5_1).f3⟩ : S55) : List (S55))).bind fun y310 => ((laws_markText.f k1 (wrap64 ((wrap64 (x1_1 + 1)) + 1))).bind fun t311 => ((some (y310.set (x5_1 : Int).toNat (⟨(rd_T55 y310 x5_1).f0, (rd_T55 y310 x5_1).f1, t311, (rd_T55 y310 x5_1).f3⟩ : S55) : List (S55))).bind fun y312 => ((laws_markText.f k1 (wrap64 ((wrap64 ((wrap64 (x1_1 + 1)) + 1)) + 1))).bind fun t313 => (laws_markActS.l0 k1 (y312.set (x5_1 : Int).toNat (⟨(rd_T55 y312 x5_1).f0, (rd_T55 y312 x5_1).f1, (rd_T55 y312 x5_1).f2, t313⟩ : S55)) (wrap64 ((wrap64 ((wrap64 ((wrap64 (x1_1 + 1)) + 1)) + 1)) + 1)) (wrap64 (x5_1 + 1))))))) = some (r1, r2) := H
   have A6 := Aside0.mk A60
   clear A60
   obtain ⟨y310, hy310⟩ : ∃ y_ : List (S55), y_ = (y308.set (x5_1 : Int).toNat (⟨(rd_T55 y308 x5_1).f0, t309, (rd_T55 y308 x5_1).f2, (rd_T55 y308 x5_1).f3⟩ : S55)) := ⟨_, rfl⟩
   replace H : ((laws_markText.f k1 (wrap64 ((wrap64 (x1_1 + 1)) + 1))).bind fun t311 => ((some (y310.set (x5_1 : Int).toNat (⟨(rd_T55 y310 x5_1).f0, (rd_T55 y310 x5_1).f1, t311, (rd_T55 y310 x5_1).f3⟩ : S55) : List (S55))).bind fun y312 => ((laws_markText.f k1 (wrap64 ((wrap64 ((wrap64 (x1_1 + 1)) + 1)) + 1))).bind fun t313 => (laws_markActS.l0 k1 (y312.set (x5_1 : Int).toNat (⟨(rd_T55 y312 x5_1).f0, (rd_T55 y312 x5_1).f1, (rd_T55 y312 x5_1).f2, t313⟩ : S55)) (wrap64 ((wrap64 ((wrap64 ((wrap64 (x1_1 + 1)) + 1)) + 1)) + 1)) (wrap64 (x5_1 + 1)))))) = some (r1, r2) := by first | (rw [hy310]; with_reducible exact H) | (have H2_ := (Option.bind_some _ _).symm.trans H; rw [hy310]; with_reducible exact H2_) | (have H2_ := (Option.bind_some _ _).symm.trans H; with_reducible exact H2_) | with_reducible exact H | (rw [hy310]; exact H) | exact H
   have Ny310 := Aside0.mk hy310
   clear hy310
   replace H := Option.bind_eq_some_iff.mp H
   obtain ⟨t311, A80, H⟩ := H
   replace H : ((some (y310.set (x5_1 : Int).toNat (⟨(rd_T55 y310 x5_1).f0, (rd_T55 y310 x5_1).f1, t311, (rd_T55 y310 x5_1).f3⟩ : S55) : List (S55))).bind fun y312 => ((laws_markText.f k1 (wrap64 ((wrap64 ((wrap64 (x1_1 + 1)) + 1)) + 1))).bind fun t313 => (laws_markActS.l0 k1 (y312.set (x5_1 : Int).toNat (⟨(rd_T55 y312 x5_1).f0, (rd_T55 y312 x5_1).f1, (rd_T55 y312 x5_1).f2, t313⟩ : S55)) (wrap64 ((wrap64 ((wrap64 ((wrap64 (x1_1 + 1)) + 1)) + 1)) + 1)) (wrap64 (x5_1 + 1))))) = some (r1, r2) := H
   have A8 := Aside0.mk A80
   clear A80
   obtain ⟨y312, hy312⟩ : ∃ y_ : List (S55), y_ = (y310.set (x5_1 : Int).toNat (⟨(rd_T55 y310 x5_1).f0, (rd_T55 y310 x5_1).f1, t311, (rd_T55 y310 x5_1).f3⟩ : S55)) := ⟨_, rfl⟩
   replace H : ((laws_markText.f k1 (wrap64 ((wrap64 ((wrap64 (x1_1 + 1)) + 1)) + 1))).bind fun t313 => (laws_markActS.l0 k1 (y312.set (x5_1 : Int).toNat (⟨(rd_T55 y312 x5_1).f0, (rd_T55 y312 x5_1).f1, (rd_T55 y312 x5_1).f2, t313⟩ : S55)) (wrap64 ((wrap64 ((wrap64 ((wrap64 (x1_1 + 1)) + 1)) + 1)) + 1)) (wrap64 (x5_1 + 1)))) = some (r1, r2) := by first | (rw [hy312]; with_reducible exact H) | (have H2_ := (Option.bind_some _ _).symm.trans H; rw [hy312]; with_reducible exact H2_) | (have H2_ := (Option.bind_some _ _).symm.trans H; with_reducible exact H2_) | with_reducible exact H | (rw [hy312]; exact H) | exact H
   have Ny312 := Aside0.mk hy312
   clear hy312
   replace H := Option.bind_eq_some_iff.mp H
   obtain ⟨t313, A100, H⟩ := H
   replace H : (laws_markActS.l0 k1 (y312.set (x5_1 : Int).toNat (⟨(rd_T55 y312 x5_1).f0, (rd_T55 y312 x5_1).f1, (rd_T55 y312 x5_1).f2, t313⟩ : S55)) (wrap64 ((wrap64 ((wrap64 ((wrap64 (x1_1 + 1)) + 1)) + 1)) + 1)) (wrap64 (x5_1 + 1))) = some (r1, r2) := H
   have A10 := Aside0.mk A100
   clear A100
   obtain ⟨y314, hy314⟩ : ∃ y_ : List (S55), y_ = (y312.set (x5_1 : Int).toNat (⟨(rd_T55 y312 x5_1).f0, (rd_T55 y312 x5_1).f1, (rd_T55 y312 x5_1).f2, t313⟩ : S55)) := ⟨_, rfl⟩
   replace H : (laws_markActS.l0 k1 y314 (wrap64 ((wrap64 ((wrap64 ((wrap64 (x1_1 + 1)) + 1)) + 1)) + 1)) (wrap64 (x5_1 + 1))) = some (r1, r2) := by first | (rw [hy314]; with_reducible exact H) | (have H2_ := (Option.bind_some _ _).symm.trans H; rw [hy314]; with_reducible exact H2_) | (have H2_ := (Option.bind_some _ _).symm.trans H; with_reducible exact H2_) | with_reducible exact H | (rw [hy314]; exact H) | exact H
   have Ny314 := Aside0.mk hy314
   clear hy314
   have H' := Aside0.mk H
   clear H
   obtain ⟨Ao12, co12, eo12⟩ := Kd.R_slice HO_0.out
   subst eo12
   have p5 : 0 ≤ (x5_1 : Int) := of_decide_eq_true AS
   have q5 : (x5_1 : Int) < ((x0_1.length : Int) : Int) := of_decide_eq_true AS
   obtain ⟨go5, co5, eo5, gb5, gl5, cl5, HG5⟩ := Kd.R_form HO_0.out (by omega)
   (first | cases eo5 | (injection eo5 with ea_ en_ ec_; (first | subst ea_ | (injection ea_ with ea_; subst ea_)); subst ec_; clear en_))
   have GB5 := Aside0.mk gb5
   have GG5 := Aside0.mk HG5
   clear gb5 gl5 HG5
   have HMgo5 := Aside0.mk (show (P0_ go5 ∨ w.heap.size ≤ go5) from (HO_0.out.1 _ rfl))
   obtain ⟨ce5, hcl5, hM5, hcc5, hfr5⟩ := Kd.R_elem HO_0.out z55 (x5_1 : Int) p5 q5
   obtain rfl := k55_openM hM5
   have hx5_0 : wr.cell? ⟨go5, (x5_1 : Int).toNat * 4, none⟩ = some (.int .i64 ((rd_T55 x0_1 x5_1).f0)) := hcc5 0 _ rfl
   have hx5_1 : wr.cell? ⟨go5, (x5_1 : Int).toNat * 4 + 1, none⟩ = some (.string ((rd_T55 x0_1 x5_1).f1)) := hcc5 1 _ rfl
   have hx5_2 : wr.cell? ⟨go5, (x5_1 : Int).toNat * 4 + 2, none⟩ = some (.string ((rd_T55 x0_1 x5_1).f2)) := hcc5 2 _ rfl
   have hx5_3 : wr.cell? ⟨go5, (x5_1 : Int).toNat * 4 + 3, none⟩ = some (.string ((rd_T55 x0_1 x5_1).f3)) := hcc5 3 _ rfl
   have hf5_0 : wr.frozen? ⟨go5, (x5_1 : Int).toNat * 4, none⟩ = false := hfr5 0
   have hf5_1 : wr.frozen? ⟨go5, (x5_1 : Int).toNat * 4 + 1, none⟩ = false := hfr5 1
   have hf5_2 : wr.frozen? ⟨go5, (x5_1 : Int).toNat * 4 + 2, none⟩ = false := hfr5 2
   have hf5_3 : wr.frozen? ⟨go5, (x5_1 : Int).toNat * 4 + 3, none⟩ = false := hfr5 3
   clear hcl5 hcc5 hfr5 hM5
   replace p5 := eq_true p5
   replace q5 := eq_true q5
   have HX13 := Aside0.mk (show Kd.R k55 55 wr w0.heap.size (fun k_ => (P0_ k_ ∨ w.heap.size ≤ k_)) (.slice (some ⟨go5, 0, none⟩) x0_1.length co12) x0_1 from (RQ HO_0.out))
   obtain ⟨ce13, hcl13, hM13, hcc13, hfr13⟩ := Kd.R_elem HX13.out z55 (x5_1 : Int) (of_decide_eq_true AS) (by have h_ : (x5_1 : Int) < ((x0_1.length : Int) : Int) := of_decide_eq_true AS; first | exact h_ | (have e_ := (Kd.R_reads' HO_0.out).1; omega) | simpa using h_)
   obtain rfl := k55_openM hM13
   have HP13 := Kd.R_seg HX13.out (x5_1 : Int) (of_decide_eq_true AS) (by have h_ : (x5_1 : Int) < ((x0_1.length : Int) : Int) := of_decide_eq_true AS; first | exact h_ | (have e_ := (Kd.R_reads' HO_0.out).1; omega) | simpa using h_) (seg := [.int .i64 x1_1]) (j := 0) hcl13 hcc13 (show 1 ≤ 4 from by decide) (x' := (⟨x1_1, (rd_T55 x0_1 x5_1).f1, (rd_T55 x0_1 x5_1).f2, (rd_T55 x0_1 x5_1).f3⟩ : S55)) (k55_mkM _ _ _ (⟨x1_1, (rd_T55 x0_1 x5_1).f1, (rd_T55 x0_1 x5_1).f2, (rd_T55 x0_1 x5_1).f3⟩ : S55) ) (fun _ hk => hk)
   have hx13_0 := hcc13 0 _ rfl
   (try simp only [show (k55).sz = 4 from rfl, Nat.mul_one, Nat.add_zero] at hx13_0)
   have hf13_0 := hfr13 0
   (try simp only [show (k55).sz = 4 from rfl, Nat.mul_one, Nat.add_zero] at hf13_0)
   clear hcl13 hcc13 hfr13 hM13
   go_wp2_with (first | ((with_reducible refine gate_store (t := 3) (p := 16) rfl ?_); refine store_event (t := 3) (p := 16) (v := ?vo_w14) (w1 := (wr.setCell ⟨go5, (x5_1 : Int).toNat * 4, none⟩ (.int .i64 x1_1))) ?hg ?ho ?hn ?hr ?_; (case ho => rfl); (case hg => rfl); (case hn => rfl); (case hr => first | (go_simp; done) | (go_simp; rfl)); intro w14 hw; have hg : wr.grownBy w14 (some go5) := (by rw [hw]; exact HP13.2); have hp_ : Kd.R k55 55 w14 w0.heap.size (fun k_ => (P0_ k_ ∨ w.heap.size ≤ k_)) (.slice (some ⟨go5, 0, none⟩) x0_1.length co12) y308 := (by rw [hw, Ny308.out]; exact HP13.1); clear HP13; replace HK := Aside0.mk (Kept.of_grown (S := (fun k_ => P0_ k_)) hg (KL) (fun k_ e_ => (HO_0.out.1 k_ e_))); replace HO_0 := Aside0.mk (hp_); replace HB := Aside0.mk ((by rw [hw]; exact below_set (HB.out) GB5.out : Below w0.heap.size w0 w14)); clear hg hw hp_) | ((with_reducible refine gate_callee (f := 69) rfl ?_); refine goesL_ (some 22) rfl rfl Try.func69 (by kernel_rfl) rfl #[.int .i64 (wrap64 (x1_1 + 1))] rfl (MA) ?_; (with_reducible refine (laws_markText.calls k1 (wrap64 (x1_1 + 1)) t309 _ A6.out).mono ?_); rintro e w15 ⟨rfl, hb⟩; refine ⟨_, rfl, ?_⟩; have n0_ := Aside0.mk (Kd.R_below (RQ HO_0.out) hb); have n1_ := Aside0.mk (Kept.below (S := (fun k_ => P0_ k_)) (KL) hb); have n2_ := Aside0.mk (below_step (BL) hb); clear HO_0; clear HK; clear HB; have HO_0 := n0_; have HK := n1_; have HB := n2_; clear n0_ n1_ n2_; (try clear hb); (try clear hb2); (try clear hk); (try clear hi); have p7 : 0 ≤ (x5_1 : Int) := of_decide_eq_true AS; have q7 : (x5_1 : Int) < ((x0_1.length : Int) : Int) := of_decide_eq_true AS; obtain ⟨ce7, hcl7, hM7, hcc7, hfr7⟩ := Kd.R_elem HO_0.out z55 (x5_1 : Int) p7 q7; obtain rfl := k55_openM hM7; have hx7_0 : w15.cell? ⟨go5, (x5_1 : Int).toNat * 4, none⟩ = some (.int .i64 ((rd_T55 y308 x5_1).f0)) := hcc7 0 _ rfl; have hx7_1 : w15.cell? ⟨go5, (x5_1 : Int).toNat * 4 + 1, none⟩ = some (.string ((rd_T55 y308 x5_1).f1)) := hcc7 1 _ rfl; have hx7_2 : w15.cell? ⟨go5, (x5_1 : Int).toNat * 4 + 2, none⟩ = some (.string ((rd_T55 y308 x5_1).f2)) := hcc7 2 _ rfl; have hx7_3 : w15.cell? ⟨go5, (x5_1 : Int).toNat * 4 + 3, none⟩ = some (.string ((rd_T55 y308 x5_1).f3)) := hcc7 3 _ rfl; have hf7_0 : w15.frozen? ⟨go5, (x5_1 : Int).toNat * 4, none⟩ = false := hfr7 0; have hf7_1 : w15.frozen? ⟨go5, (x5_1 : Int).toNat * 4 + 1, none⟩ = false := hfr7 1; have hf7_2 : w15.frozen? ⟨go5, (x5_1 : Int).toNat * 4 + 2, none⟩ = false := hfr7 2; have hf7_3 : w15.frozen? ⟨go5, (x5_1 : Int).toNat * 4 + 3, none⟩ = false := hfr7 3; clear hcl7 hcc7 hfr7 hM7; replace p7 := eq_true p7; replace q7 := eq_true q7; have HX16 := Aside0.mk (show Kd.R k55 55 w15 w0.heap.size (fun k_ => (P0_ k_ ∨ w.heap.size ≤ k_)) (.slice (some ⟨go5, 0, none⟩) x0_1.length co12) y308 from (RQ HO_0.out)); obtain ⟨ce16, hcl16, hM16, hcc16, hfr16⟩ := Kd.R_elem HX16.out z55 (x5_1 : Int) (of_decide_eq_true AS) (by have h_ : (x5_1 : Int) < ((x0_1.length : Int) : Int) := of_decide_eq_true AS; first | exact h_ | (have e_ := (Kd.R_reads' HO_0.out).1; omega) | simpa using h_); obtain rfl := k55_openM hM16; have HP16 := Kd.R_seg HX16.out (x5_1 : Int) (of_decide_eq_true AS) (by have h_ : (x5_1 : Int) < ((x0_1.length : Int) : Int) := of_decide_eq_true AS; first | exact h_ | (have e_ := (Kd.R_reads' HO_0.out).1; omega) | simpa using h_) (seg := [.string t309]) (j := 1) hcl16 hcc16 (show 2 ≤ 4 from by decide) (x' := (⟨(rd_T55 y308 x5_1).f0, t309, (rd_T55 y308 x5_1).f2, (rd_T55 y308 x5_1).f3⟩ : S55)) (k55_mkM _ _ _ (⟨(rd_T55 y308 x5_1).f0, t309, (rd_T55 y308 x5_1).f2, (rd_T55 y308 x5_1).f3⟩ : S55) ) (fun _ hk => hk); have hx16_1 := hcc16 1 _ rfl; (try simp only [show (k55).sz = 4 from rfl, Nat.mul_one, Nat.add_zero] at hx16_1); have hf16_1 := hfr16 1; (try simp only [show (k55).sz = 4 from rfl, Nat.mul_one, Nat.add_zero] at hf16_1); clear hcl16 hcc16 hfr16 hM16) | ((with_reducible refine gate_store (t := 9) (p := 24) rfl ?_); refine store_event (t := 9) (p := 24) (v := ?vo_w17) (w1 := (w15.setCell ⟨go5, (x5_1 : Int).toNat * 4 + 1, none⟩ (.string t309))) ?hg ?ho ?hn ?hr ?_; (case ho => rfl); (case hg => rfl); (case hn => rfl); (case hr => first | (go_simp; done) | (go_simp; rfl)); intro w17 hw; have hg : w15.grownBy w17 (some go5) := (by rw [hw]; exact HP16.2); have hp_ : Kd.R k55 55 w17 w0.heap.size (fun k_ => (P0_ k_ ∨ w.heap.size ≤ k_)) (.slice (some ⟨go5, 0, none⟩) x0_1.length co12) y310 := (by rw [hw, Ny310.out]; exact HP16.1); clear HP16; replace HK := Aside0.mk (Kept.of_grown (S := (fun k_ => P0_ k_)) hg (KL) (fun k_ e_ => (HO_0.out.1 k_ e_))); replace HO_0 := Aside0.mk (hp_); replace HB := Aside0.mk ((by rw [hw]; exact below_set (HB.out) GB5.out : Below w0.heap.size w0 w17)); clear hg hw hp_) | ((with_reducible refine gate_callee (f := 69) rfl ?_); refine goesL_ (some 30) rfl rfl Try.func69 (by kernel_rfl) rfl #[.int .i64 (wrap64 ((wrap64 (x1_1 + 1)) + 1))] rfl (MA) ?_; (with_reducible refine (laws_markText.calls k1 (wrap64 ((wrap64 (x1_1 + 1)) + 1)) t311 _ A8.out).mono ?_); rintro e w18 ⟨rfl, hb⟩; refine ⟨_, rfl, ?_⟩; have n0_ := Aside0.mk (Kd.R_below (RQ HO_0.out) hb); have n1_ := Aside0.mk (Kept.below (S := (fun k_ => P0_ k_)) (KL) hb); have n2_ := Aside0.mk (below_step (BL) hb); clear HO_0; clear HK; clear HB; have HO_0 := n0_; have HK := n1_; have HB := n2_; clear n0_ n1_ n2_; (try clear hb); (try clear hb2); (try clear hk); (try clear hi); have p9 : 0 ≤ (x5_1 : Int) := of_decide_eq_true AS; have q9 : (x5_1 : Int) < ((x0_1.length : Int) : Int) := of_decide_eq_true AS; obtain ⟨ce9, hcl9, hM9, hcc9, hfr9⟩ := Kd.R_elem HO_0.out z55 (x5_1 : Int) p9 q9; obtain rfl := k55_openM hM9; have hx9_0 : w18.cell? ⟨go5, (x5_1 : Int).toNat * 4, none⟩ = some (.int .i64 ((rd_T55 y310 x5_1).f0)) := hcc9 0 _ rfl; have hx9_1 : w18.cell? ⟨go5, (x5_1 : Int).toNat * 4 + 1, none⟩ = some (.string ((rd_T55 y310 x5_1).f1)) := hcc9 1 _ rfl; have hx9_2 : w18.cell? ⟨go5, (x5_1 : Int).toNat * 4 + 2, none⟩ = some (.string ((rd_T55 y310 x5_1).f2)) := hcc9 2 _ rfl; have hx9_3 : w18.cell? ⟨go5, (x5_1 : Int).toNat * 4 + 3, none⟩ = some (.string ((rd_T55 y310 x5_1).f3)) := hcc9 3 _ rfl; have hf9_0 : w18.frozen? ⟨go5, (x5_1 : Int).toNat * 4, none⟩ = false := hfr9 0; have hf9_1 : w18.frozen? ⟨go5, (x5_1 : Int).toNat * 4 + 1, none⟩ = false := hfr9 1; have hf9_2 : w18.frozen? ⟨go5, (x5_1 : Int).toNat * 4 + 2, none⟩ = false := hfr9 2; have hf9_3 : w18.frozen? ⟨go5, (x5_1 : Int).toNat * 4 + 3, none⟩ = false := hfr9 3; clear hcl9 hcc9 hfr9 hM9; replace p9 := eq_true p9; replace q9 := eq_true q9; have HX19 := Aside0.mk (show Kd.R k55 55 w18 w0.heap.size (fun k_ => (P0_ k_ ∨ w.heap.size ≤ k_)) (.slice (some ⟨go5, 0, none⟩) x0_1.length co12) y310 from (RQ HO_0.out)); obtain ⟨ce19, hcl19, hM19, hcc19, hfr19⟩ := Kd.R_elem HX19.out z55 (x5_1 : Int) (of_decide_eq_true AS) (by have h_ : (x5_1 : Int) < ((x0_1.length : Int) : Int) := of_decide_eq_true AS; first | exact h_ | (have e_ := (Kd.R_reads' HO_0.out).1; omega) | simpa using h_); obtain rfl := k55_openM hM19; have HP19 := Kd.R_seg HX19.out (x5_1 : Int) (of_decide_eq_true AS) (by have h_ : (x5_1 : Int) < ((x0_1.length : Int) : Int) := of_decide_eq_true AS; first | exact h_ | (have e_ := (Kd.R_reads' HO_0.out).1; omega) | simpa using h_) (seg := [.string t311]) (j := 2) hcl19 hcc19 (show 3 ≤ 4 from by decide) (x' := (⟨(rd_T55 y310 x5_1).f0, (rd_T55 y310 x5_1).f1, t311, (rd_T55 y310 x5_1).f3⟩ : S55)) (k55_mkM _ _ _ (⟨(rd_T55 y310 x5_1).f0, (rd_T55 y310 x5_1).f1, t311, (rd_T55 y310 x5_1).f3⟩ : S55) ) (fun _ hk => hk); have hx19_2 := hcc19 2 _ rfl; (try simp only [show (k55).sz = 4 from rfl, Nat.mul_one, Nat.add_zero] at hx19_2); have hf19_2 := hfr19 2; (try simp only [show (k55).sz = 4 from rfl, Nat.mul_one, Nat.add_zero] at hf19_2); clear hcl19 hcc19 hfr19 hM19) | ((with_reducible refine gate_store (t := 9) (p := 32) rfl ?_); refine store_event (t := 9) (p := 32) (v := ?vo_w20) (w1 := (w18.setCell ⟨go5, (x5_1 : Int).toNat * 4 + 2, none⟩ (.string t311))) ?hg ?ho ?hn ?hr ?_; (case ho => rfl); (case hg => rfl); (case hn => rfl); (case hr => first | (go_simp; done) | (go_simp; rfl)); intro w20 hw; have hg : w18.grownBy w20 (some go5) := (by rw [hw]; exact HP19.2); have hp_ : Kd.R k55 55 w20 w0.heap.size (fun k_ => (P0_ k_ ∨ w.heap.size ≤ k_)) (.slice (some ⟨go5, 0, none⟩) x0_1.length co12) y312 := (by rw [hw, Ny312.out]; exact HP19.1); clear HP19; replace HK := Aside0.mk (Kept.of_grown (S := (fun k_ => P0_ k_)) hg (KL) (fun k_ e_ => (HO_0.out.1 k_ e_))); replace HO_0 := Aside0.mk (hp_); replace HB := Aside0.mk ((by rw [hw]; exact below_set (HB.out) GB5.out : Below w0.heap.size w0 w20)); clear hg hw hp_) | ((with_reducible refine gate_callee (f := 69) rfl ?_); refine goesL_ (some 38) rfl rfl Try.func69 (by kernel_rfl) rfl #[.int .i64 (wrap64 ((wrap64 ((wrap64 (x1_1 + 1)) + 1)) + 1))] rfl (MA) ?_; (with_reducible refine (laws_markText.calls k1 (wrap64 ((wrap64 ((wrap64 (x1_1 + 1)) + 1)) + 1)) t313 _ A10.out).mono ?_); rintro e w21 ⟨rfl, hb⟩; refine ⟨_, rfl, ?_⟩; have n0_ := Aside0.mk (Kd.R_below (RQ HO_0.out) hb); have n1_ := Aside0.mk (Kept.below (S := (fun k_ => P0_ k_)) (KL) hb); have n2_ := Aside0.mk (below_step (BL) hb); clear HO_0; clear HK; clear HB; have HO_0 := n0_; have HK := n1_; have HB := n2_; clear n0_ n1_ n2_; (try clear hb); (try clear hb2); (try clear hk); (try clear hi); have p11 : 0 ≤ (x5_1 : Int) := of_decide_eq_true AS; have q11 : (x5_1 : Int) < ((x0_1.length : Int) : Int) := of_decide_eq_true AS; obtain ⟨ce11, hcl11, hM11, hcc11, hfr11⟩ := Kd.R_elem HO_0.out z55 (x5_1 : Int) p11 q11; obtain rfl := k55_openM hM11; have hx11_0 : w21.cell? ⟨go5, (x5_1 : Int).toNat * 4, none⟩ = some (.int .i64 ((rd_T55 y312 x5_1).f0)) := hcc11 0 _ rfl; have hx11_1 : w21.cell? ⟨go5, (x5_1 : Int).toNat * 4 + 1, none⟩ = some (.string ((rd_T55 y312 x5_1).f1)) := hcc11 1 _ rfl; have hx11_2 : w21.cell? ⟨go5, (x5_1 : Int).toNat * 4 + 2, none⟩ = some (.string ((rd_T55 y312 x5_1).f2)) := hcc11 2 _ rfl; have hx11_3 : w21.cell? ⟨go5, (x5_1 : Int).toNat * 4 + 3, none⟩ = some (.string ((rd_T55 y312 x5_1).f3)) := hcc11 3 _ rfl; have hf11_0 : w21.frozen? ⟨go5, (x5_1 : Int).toNat * 4, none⟩ = false := hfr11 0; have hf11_1 : w21.frozen? ⟨go5, (x5_1 : Int).toNat * 4 + 1, none⟩ = false := hfr11 1; have hf11_2 : w21.frozen? ⟨go5, (x5_1 : Int).toNat * 4 + 2, none⟩ = false := hfr11 2; have hf11_3 : w21.frozen? ⟨go5, (x5_1 : Int).toNat * 4 + 3, none⟩ = false := hfr11 3; clear hcl11 hcc11 hfr11 hM11; replace p11 := eq_true p11; replace q11 := eq_true q11; have HX22 := Aside0.mk (show Kd.R k55 55 w21 w0.heap.size (fun k_ => (P0_ k_ ∨ w.heap.size ≤ k_)) (.slice (some ⟨go5, 0, none⟩) x0_1.length co12) y312 from (RQ HO_0.out)); obtain ⟨ce22, hcl22, hM22, hcc22, hfr22⟩ := Kd.R_elem HX22.out z55 (x5_1 : Int) (of_decide_eq_true AS) (by have h_ : (x5_1 : Int) < ((x0_1.length : Int) : Int) := of_decide_eq_true AS; first | exact h_ | (have e_ := (Kd.R_reads' HO_0.out).1; omega) | simpa using h_); obtain rfl := k55_openM hM22; have HP22 := Kd.R_seg HX22.out (x5_1 : Int) (of_decide_eq_true AS) (by have h_ : (x5_1 : Int) < ((x0_1.length : Int) : Int) := of_decide_eq_true AS; first | exact h_ | (have e_ := (Kd.R_reads' HO_0.out).1; omega) | simpa using h_) (seg := [.string t313]) (j := 3) hcl22 hcc22 (show 4 ≤ 4 from by decide) (x' := (⟨(rd_T55 y312 x5_1).f0, (rd_T55 y312 x5_1).f1, (rd_T55 y312 x5_1).f2, t313⟩ : S55)) (k55_mkM _ _ _ (⟨(rd_T55 y312 x5_1).f0, (rd_T55 y312 x5_1).f1, (rd_T55 y312 x5_1).f2, t313⟩ : S55) ) (fun _ hk => hk); have hx22_3 := hcc22 3 _ rfl; (try simp only [show (k55).sz = 4 from rfl, Nat.mul_one, Nat.add_zero] at hx22_3); have hf22_3 := hfr22 3; (try simp only [show (k55).sz = 4 from rfl, Nat.mul_one, Nat.add_zero] at hf22_3); clear hcl22 hcc22 hfr22 hM22) | ((with_reducible refine gate_store (t := 9) (p := 40) rfl ?_); refine store_event (t := 9) (p := 40) (v := ?vo_w23) (w1 := (w21.setCell ⟨go5, (x5_1 : Int).toNat * 4 + 3, none⟩ (.string t313))) ?hg ?ho ?hn ?hr ?_; (case ho => rfl); (case hg => rfl); (case hn => rfl); (case hr => first | (go_simp; done) | (go_simp; rfl)); intro w23 hw; have hg : w21.grownBy w23 (some go5) := (by rw [hw]; exact HP22.2); have hp_ : Kd.R k55 55 w23 w0.heap.size (fun k_ => (P0_ k_ ∨ w.heap.size ≤ k_)) (.slice (some ⟨go5, 0, none⟩) x0_1.length co12) y314 := (by rw [hw, Ny314.out]; exact HP22.1); clear HP22; replace HK := Aside0.mk (Kept.of_grown (S := (fun k_ => P0_ k_)) hg (KL) (fun k_ e_ => (HO_0.out.1 k_ e_))); replace HO_0 := Aside0.mk (hp_); replace HB := Aside0.mk ((by rw [hw]; exact below_set (HB.out) GB5.out : Below w0.heap.size w0 w23)); clear hg hw hp_))
   go_roundg k1
   case measure => have := HK1.out; omega
   case rel => exact ⟨(y314), (wrap64 ((wrap64 ((wrap64 ((wrap64 (x1_1 + 1)) + 1)) + 1)) + 1)), (wrap64 (x5_1 + 1)), SD, SD, H', ⟨by have := HK1.out; omega⟩, ⟨RQ HO_0.out⟩, ⟨KL⟩, ⟨BL⟩⟩

end Go.Proofs.Ythfppepnpngfmaa.Qdo
