-- Laid by myprint.py, a program of this session's own, over the kit's print. Not trusted: Lean checks it.
import Derived.Test.YthfppepnpngfmaaQacx0
import Derived.Test.YthfppepnpngfmaaQacx3
import Derived.Test.YthfppepnpngfmaaQacx4
import Derived.Test.YthfppepnpngfmaaQacx5
namespace Go.Proofs.Ythfppepnpngfmaa.Qac
open Go.RowKit Go.Proofs.YthfppepnpngfmaaW.PrintWords Go.Proofs.YthfppepnpngfmaaW.PrintLast Go.Proofs.YthfppepnpngfmaaW.PrintMore
attribute [local go_sem] Go.Proofs.Ythfppepnpngfmaa.StrCmp.gtr_less Go.Proofs.Ythfppepnpngfmaa.StrCmp.geq_less Go.Proofs.Ythfppepnpngfmaa.StrCmp.leq_less max2_int min2_int max_two min_two max_three min_three max_four min_four   -- for this text's walks alone
set_option linter.unusedVariables false
set_option linter.unusedSimpArgs false

/-! ### spec_LoseDisk: function 28 -/
mutual
def spec_LoseDisk.l0 : Nat → List Int → Int → List (S45) → List (S45) → Option ((List (S45)) × Bool)
 | 0, _, _, _, _ => none
 | k + 1, x1, x7, x504000, x507000 => if x7 < (x504000.length : Int) then (if 0 ≤ x7 then (if x7 < (x1.length : Int) then (spec_LoseDisk.j1 k x1 x7 (rd x1 x7) x504000 x507000 ((rd_T45 x504000 x7).f0) ((rd_T45 x504000 x7).f1) ((rd_T45 x504000 x7).f2)) else (spec_LoseDisk.j1 k x1 x7 0 x504000 x507000 ((rd_T45 x504000 x7).f0) ((rd_T45 x504000 x7).f1) ((rd_T45 x504000 x7).f2))) else (none)) else (some (x507000, true))
def spec_LoseDisk.j1 : Nat → List Int → Int → Int → List (S45) → List (S45) → ByteArray → ByteArray → Int → Option ((List (S45)) × Bool)
 | 0, _, _, _, _, _, _, _, _ => none
 | k + 1, x1, x7, x9, x504000, x507000, x509000, x509001, x509002 => if x9 > (x509001.size : Int) then (if (x509001.size : Int) < x509002 then (if 0 ≤ x509002 then (if x509002 ≤ (x509001.size : Int) then (if x507000.length < 3518437208883 then (spec_LoseDisk.l0 k x1 (wrap64 (x7 + 1)) x504000 (x507000 ++ [(⟨x509000, x509001.extract 0 (x509002 : Int).toNat, x509002⟩ : S45)])) else (none)) else (none)) else (none)) else (if 0 ≤ (x509001.size : Int) then (if (x509001.size : Int) ≤ (x509001.size : Int) then (if x507000.length < 3518437208883 then (spec_LoseDisk.l0 k x1 (wrap64 (x7 + 1)) x504000 (x507000 ++ [(⟨x509000, x509001.extract 0 ((x509001.size : Int) : Int).toNat, (x509001.size : Int)⟩ : S45)])) else (none)) else (none)) else (none))) else (if x9 < x509002 then (if 0 ≤ x509002 then (if x509002 ≤ (x509001.size : Int) then (if x507000.length < 3518437208883 then (spec_LoseDisk.l0 k x1 (wrap64 (x7 + 1)) x504000 (x507000 ++ [(⟨x509000, x509001.extract 0 (x509002 : Int).toNat, x509002⟩ : S45)])) else (none)) else (none)) else (none)) else (if 0 ≤ x9 then (if x9 ≤ (x509001.size : Int) then (if x507000.length < 3518437208883 then (spec_LoseDisk.l0 k x1 (wrap64 (x7 + 1)) x504000 (x507000 ++ [(⟨x509000, x509001.extract 0 (x9 : Int).toNat, x9⟩ : S45)])) else (none)) else (none)) else (none)))
end
def spec_LoseDisk.f (k : Nat) (l0_0 : List (S45)) (l1 : List Int) : Option ((List (S45)) × Bool) := (spec_DiskOk.f k l0_0).bind fun t505 => (if t505 = true then (spec_LoseDisk.l0 k l1 0 l0_0 ([] : List (S45))) else (some (([] : List (S45)), false)))
def spec_LoseDisk.T15 : Bool × List (List Nat × List Nat) := (true, [([], []), ([0], [0]), ([], []), ([2], [2]), ([], []), ([4], [4]), ([], []), ([5, 6], [5, 6]), ([], []), ([3, 7, 8], [3, 7, 8]), ([9], [9]), ([1, 10], [1, 10]), ([0, 1, 2, 3, 4, 5, 6, 7, 8, 9, 10, 11], []), ([12, 11, 11, 0, 1, 2, 3, 4, 5, 6, 7, 8, 9, 10, 11], [11, 12])])
def spec_LoseDisk.B15 : List Nat := [0, 1, 0, 4, 0, 16, 0, 112, 0, 508, 1020, 2047, 4095, 8191]
theorem spec_LoseDisk.tab15 : rtab .any (opsOf Try.f28 15) = spec_LoseDisk.T15 := by kernel_rfl
theorem spec_LoseDisk.bits15 : waitsOk spec_LoseDisk.T15.2 spec_LoseDisk.B15 = true := by kernel_rfl
set_option maxHeartbeats 8000000 in
set_option maxRecDepth 100000 in
theorem spec_LoseDisk.calls (k : Nat) (A0_0 : Option Addr) (c0_0 : Nat) (l0_0 : List (S45)) (A1 : Option Addr) (c1 : Nat) (l1 : List Int) (r1 : List (S45)) (r2 : Bool) (w : World) (hr0_0 : Kd.C k45 w A0_0 l0_0.length l0_0) (hc0_0 : l0_0.length ≤ c0_0) (hr1 : Kd.C (Kd.int .i64) w A1 l1.length l1) (hc1 : l1.length ≤ c1) (h : spec_LoseDisk.f k l0_0 l1 = some (r1, r2)) :
  Calls Try.prog 28 #[.agg #[.slice A0_0 l0_0.length c0_0], .slice A1 l1.length c1] w fun e w' => ∃ v0_ : Value, e = .returned (.tuple #[.agg #[v0_], .bool r2]) ∧ Kd.R k45 45 w' w.heap.size (fun _ => True) v0_ r1 ∧ Below w.heap.size w w' := by
 have hu29 := Try.underlying29
 have hu45 := Try.underlying45
 have HR0_0 := Aside0.mk hr0_0
 have HC0_0 := Aside0.mk hc0_0
 clear hr0_0 hc0_0
 have HR1 := Aside0.mk hr1
 have HC1 := Aside0.mk hc1
 clear hr1 hc1
 have HB := Aside0.mk (Below.refl w.heap.size w)
 have H : ((spec_DiskOk.f k l0_0).bind fun t505 => (if t505 = true then (spec_LoseDisk.l0 k l1 0 l0_0 ([] : List (S45))) else (some (([] : List (S45)), false)))) = some (r1, r2) := h
 clear h
 replace H := Option.bind_eq_some_iff.mp H
 obtain ⟨t505, A30, H⟩ := H
 have A3 := Aside0.mk A30
 clear A30
 by_cases c4 : t505 = true; rotate_left
 ·
  replace c4 := Bool.eq_false_iff.mpr c4; subst c4
  rw [if_neg (show ¬ (false = true) by decide)] at H; simp only [Option.some.injEq, Prod.mk.injEq] at H; obtain ⟨rfl, rfl⟩ := H
  go_enter Try.func28, Try.ntmps28
  go_wp2_with (first | ((with_reducible refine gate_dst (N := 2) rfl ?_); refine bE 2 #[.slice A0_0 l0_0.length c0_0] 29 ?_; intro gb503 hg w80 hbox hb; have BK503 := Aside0.mk (hbox); have GW503 : Aside0 (w.heap.size ≤ gb503) := GS; have GE503 := GW503; replace HB := BS hb; clear hb hbox hg) | ((with_reducible refine gate_dst (N := 4) rfl ?_); refine bE 4 #[.slice none 0 0] 29 ?_; intro gb504 hg w81 hbox hb; have BK504 := Aside0.mk (hbox); have GW504 : Aside0 (w.heap.size ≤ gb504) := GS; have GE504 := GW504; have NB503_504 := NL BK503.out hg; have NB504_503 := NG BK503.out hg; replace BK503 := BB BK503.out hb; replace HB := BS hb; clear hb hbox hg; obtain ⟨hnb82, hnc82⟩ := NN NB503_504.out; obtain ⟨hcz83_0, hfz83_0⟩ := KC1 BK503.out) | ((with_reducible refine gate_callee (f := 13) rfl ?_); refine goesL_ (some 11) rfl rfl Try.func13 (by kernel_rfl) rfl #[.agg #[.slice A0_0 l0_0.length c0_0]] rfl (MA) ?_; (with_reducible refine (spec_DiskOk.calls k _ _ l0_0 false _ ?side1 ?side2 A3.out).mono ?_); (case side1 => exact CB HR0_0.out); (case side2 => exact HC0_0.out); rintro e w84 ⟨rfl, hb⟩; refine ⟨_, rfl, ?_⟩; replace BK503 := BB BK503.out hb; replace BK504 := BB BK504.out hb; replace HB := BS hb; (try clear hb); obtain ⟨hcz85_0, hfz85_0⟩ := KC1 BK504.out))
  refine bodyPost_ret (results_ct rfl _ _ gb504 29 #[.slice none 0 0] (0, 0) _ rfl (BU BK504.out) Try.underlying29 rfl (by kernel_rfl)) rfl ?_; exact ⟨_, EE, by first | exact Kd.R_nil _ _ _ _ _ | exact Kd.N_nil _ _ _ _ _ | exact Kd.V_nil _ _ _ _ _ | exact Kd.Q_nil _ _ _ _ _ | exact Kd.S_nil _ _ _ _ _, BL⟩
 subst c4
 have H1 : (spec_LoseDisk.l0 k l1 0 l0_0 ([] : List (S45))) = some (r1, r2) := by rw [if_pos rfl] at H; exact H
 clear H
 have H := H1
 clear H1
 have H' := Aside0.mk H
 clear H
 go_enter Try.func28, Try.ntmps28
 go_wp2_with (first | ((with_reducible refine gate_dst (N := 2) rfl ?_); refine bE 2 #[.slice A0_0 l0_0.length c0_0] 29 ?_; intro gb503 hg w5 hbox hb; have BK503 := Aside0.mk (hbox); have GW503 : Aside0 (w.heap.size ≤ gb503) := GS; have GE503 := GW503; replace HB := BS hb; clear hb hbox hg) | ((with_reducible refine gate_dst (N := 4) rfl ?_); refine bE 4 #[.slice none 0 0] 29 ?_; intro gb504 hg w6 hbox hb; have BK504 := Aside0.mk (hbox); have GW504 : Aside0 (w.heap.size ≤ gb504) := GS; have GE504 := GW504; have NB503_504 := NL BK503.out hg; have NB504_503 := NG BK503.out hg; replace BK503 := BB BK503.out hb; replace HB := BS hb; clear hb hbox hg; obtain ⟨hnb7, hnc7⟩ := NN NB503_504.out; obtain ⟨hcz8_0, hfz8_0⟩ := KC1 BK503.out) | ((with_reducible refine gate_callee (f := 13) rfl ?_); refine goesL_ (some 11) rfl rfl Try.func13 (by kernel_rfl) rfl #[.agg #[.slice A0_0 l0_0.length c0_0]] rfl (MA) ?_; (with_reducible refine (spec_DiskOk.calls k _ _ l0_0 true _ ?side1 ?side2 A3.out).mono ?_); (case side1 => exact CB HR0_0.out); (case side2 => exact HC0_0.out); rintro e w9 ⟨rfl, hb⟩; refine ⟨_, rfl, ?_⟩; replace BK503 := BB BK503.out hb; replace BK504 := BB BK504.out hb; replace HB := BS hb; (try clear hb)) | ((with_reducible refine gate_dst (N := 6) rfl ?_); refine bE 6 #[.slice none 0 0] 29 ?_; intro gb506 hg w10 hbox hb; have BK506 := Aside0.mk (hbox); have GW506 : Aside0 (w.heap.size ≤ gb506) := GS; have GE506 := GW506; have NB503_506 := NL BK503.out hg; have NB506_503 := NG BK503.out hg; have NB504_506 := NL BK504.out hg; have NB506_504 := NG BK504.out hg; replace BK503 := BB BK503.out hb; replace BK504 := BB BK504.out hb; replace HB := BS hb; clear hb hbox hg; obtain ⟨hnb11, hnc11⟩ := NN NB506_503.out; obtain ⟨hnb12, hnc12⟩ := NN NB506_504.out; obtain ⟨hcz13_0, hfz13_0⟩ := KC1 BK506.out))
 go_loopg [7] k (fun kq v7 w' => ∃ (x7_1 : Int) (x507000_1 : List (S45)) (u507000 : Value), v7 = .int .i64 x7_1 ∧ Aside0 (spec_LoseDisk.l0 kq l1 x7_1 l0_0 x507000_1 = some (r1, r2)) ∧ Aside0 (kq ≤ k) ∧ Aside0 (Kd.R k45 45 w' w.heap.size (fun _ => True) u507000 x507000_1) ∧ Aside0 (w'.heap[gb503]? = some (.cells #[(.slice A0_0 l0_0.length c0_0)] 29 (0, 0))) ∧ Aside0 (w'.heap[gb504]? = some (.cells #[(.slice none 0 0)] 29 (0, 0))) ∧ Aside0 (w'.heap[gb506]? = some (.cells #[u507000] 29 (0, 0))) ∧ Aside0 (Below w.heap.size w w'))
 case atStart => exact ⟨(0), (([] : List (S45))), (.slice none 0 0), SD, H', ⟨Nat.le_refl _⟩, ⟨by first | exact Kd.R_nil _ _ _ _ _ | exact Kd.N_nil _ _ _ _ _ | exact Kd.V_nil _ _ _ _ _ | exact Kd.Q_nil _ _ _ _ _ | exact Kd.S_nil _ _ _ _ _⟩, ⟨BP BK503.out⟩, ⟨BP BK504.out⟩, ⟨BU BK506.out⟩, ⟨BL⟩⟩
 case round =>
  clear H'
  try clear c1 c2 p2 c4 c7 c11 c12 c13 hcz13_0 hcz8_0 hfz13_0 hfz8_0
  obtain ⟨x7_1, x507000_1, u507000, rfl, HA, HK1, HO_507000, BK503, BK504, BK506, HB⟩ := hrel; cases gk with
  | zero => exact absurd HA.out (by simp [spec_LoseDisk.l0])
  | succ k1 =>
   have H := HA.out; clear HA; simp only [spec_LoseDisk.l0] at H
   by_cases c14 : x7_1 < (l0_0.length : Int); rotate_left
   ·
    rw [if_neg c14] at H; have c14b0 : decide (x7_1 < (l0_0.length : Int)) = false := decide_eq_false c14; clear c14; simp only [Option.some.injEq, Prod.mk.injEq] at H; obtain ⟨rfl, rfl⟩ := H; obtain ⟨hnb73, hnc73⟩ := NN NB503_504.out; obtain ⟨hnb74, hnc74⟩ := NN NB503_506.out; obtain ⟨hcz75_0, hfz75_0⟩ := KC1 BK503.out; obtain ⟨hnb76, hnc76⟩ := NN NB506_504.out; obtain ⟨hcz77_0, hfz77_0⟩ := KC1 BK506.out; obtain ⟨Ao78, co78, eo78⟩ := Kd.R_slice HO_507000.out; subst eo78; obtain ⟨hcz79_0, hfz79_0⟩ := KC1 BK504.out
    go_wp2
    refine bodyPost_ret (results_ct rfl _ _ gb504 29 #[.slice Ao78 x507000_1.length co78] (0, 0) _ rfl (BU BK504.out) Try.underlying29 rfl (by kernel_rfl)) rfl ?_; exact ⟨_, EE, by (with_reducible repeat (first | apply r1 | apply r2 | apply r3)); exact Kd.R_mono (Kd.R_far (p := ⟨gb504, 0, none⟩) (Kd.R_types HO_507000.out BK504.out (by decide)) (fun _ hk => hk.2) (.slice Ao78 x507000_1.length co78)) (fun _ hk => trivial), BL⟩
   rw [if_pos c14] at H; have c14b0 : decide (x7_1 < (l0_0.length : Int)) = true := decide_eq_true c14; clear c14
   by_cases c15 : 0 ≤ x7_1; rotate_left
   ·
    rw [if_neg c15] at H; exact absurd H (by simp)
   rw [if_pos c15] at H; have c15b0 : decide (0 ≤ x7_1) = true := decide_eq_true c15; clear c15; have HC16 := Aside0.mk H; clear H; obtain ⟨hnb17, hnc17⟩ := NN NB503_504.out; obtain ⟨hnb18, hnc18⟩ := NN NB503_506.out; obtain ⟨hcz19_0, hfz19_0⟩ := KC1 BK503.out; have p507 : 0 ≤ (x7_1 : Int) := of_decide_eq_true AS; have q507 : x7_1 < (l0_0.length : Int) := of_decide_eq_true AS; obtain ⟨ad507, e507, hx507_0, hx507_1, hx507_2⟩ := at_T45 HR0_0.out x7_1 p507 q507; cases e507; replace hx507_0 := HX hx507_0; replace hx507_1 := HX hx507_1; replace hx507_2 := HX hx507_2; replace p507 := eq_true p507; replace q507 := eq_true q507
   go_upto_if 30 with (first | ((with_reducible refine gate_dst (N := 8) rfl ?_); refine bE 8 #[.string (⟨#[]⟩ : ByteArray), .string (⟨#[]⟩ : ByteArray), .int .i64 0] 45 ?_; intro gb508 hg w20 hbox hb; have BK508 := Aside0.mk (hbox); have GW508 : Aside0 (w.heap.size ≤ gb508) := GS; have GE508 := GW508; have NB503_508 := NL BK503.out hg; have NB508_503 := NG BK503.out hg; have NB504_508 := NL BK504.out hg; have NB508_504 := NG BK504.out hg; have NB506_508 := NL BK506.out hg; have NB508_506 := NG BK506.out hg; replace HO_507000 := Aside0.mk (Kd.R_below (Kd.R_elderB (RQ HO_507000.out) gb508 (Nat.le_of_eq hg.symm)) hb); replace BK503 := BB BK503.out hb; replace BK504 := BB BK504.out hb; replace BK506 := BB BK506.out hb; replace HB := BS hb; clear hb hbox hg; obtain ⟨hnb21, hnc21⟩ := NN NB508_503.out; obtain ⟨hnb22, hnc22⟩ := NN NB508_504.out; obtain ⟨hnb23, hnc23⟩ := NN NB508_506.out; obtain ⟨hcz24_0, hcz24_1, hcz24_2, hfz24_0, hfz24_1, hfz24_2⟩ := KC3 BK508.out))
   (try simp only [Act.put, zA, zB, zC])
   go_cut [9] (fun v9 wc => ∃ (kq : Nat) (x9_15 : Int), v9 = .int .i64 x9_15 ∧ Aside0 (spec_LoseDisk.j1 kq l1 x7_1 x9_15 l0_0 x507000_1 ((rd_T45 l0_0 x7_1).f0) ((rd_T45 l0_0 x7_1).f1) ((rd_T45 l0_0 x7_1).f2) = some (r1, r2)) ∧ Aside0 (kq ≤ k1) ∧ Aside0 (Kd.R k45 45 wc w.heap.size (fun k_ => k_ ≠ gb508) u507000 x507000_1) ∧ Aside0 (wc.heap[gb503]? = some (.cells #[(.slice (some ad507) l0_0.length c0_0)] 29 (0, 0))) ∧ Aside0 (wc.heap[gb504]? = some (.cells #[(.slice none 0 0)] 29 (0, 0))) ∧ Aside0 (wc.heap[gb506]? = some (.cells #[u507000] 29 (0, 0))) ∧ Aside0 (wc.heap[gb508]? = some (.cells #[.string ((rd_T45 l0_0 x7_1).f0), .string ((rd_T45 l0_0 x7_1).f1), .int .i64 ((rd_T45 l0_0 x7_1).f2)] 45 (0, 0))) ∧ Aside0 (Below w.heap.size w wc))
   case first =>
    have H := HC16.out; clear HC16
    by_cases c25 : x7_1 < (l1.length : Int); rotate_left
    ·
     rw [if_neg c25] at H; have c25b0 : decide (x7_1 < (l1.length : Int)) = false := decide_eq_false c25; clear c25
     (first | rw [c25b0] | (simp only [i64_w, i32_w]; rw [c25b0]) | skip)
     have H' := Aside0.mk H; clear H
     go_wp2
     go_meet
     case rel => exact ⟨_, (0), SD, H', ⟨by have := HK1.out; first | omega | exact Nat.le_refl _⟩, ⟨by (with_reducible repeat (first | apply r1 | apply r2 | apply r3)); exact Kd.R_mono (Kd.R_far (p := ⟨gb508, 2, none⟩) (Kd.R_far (p := ⟨gb508, 1, none⟩) (Kd.R_far (p := ⟨gb508, 0, none⟩) (Kd.R_mono HO_507000.out (fun k_ hk => (⟨hk, hk.2⟩ : _ ∧ k_ ≠ gb508))) (fun _ hk => hk.2) (.string ((rd_T45 l0_0 x7_1).f0))) (fun _ hk => hk.2) (.string ((rd_T45 l0_0 x7_1).f1))) (fun _ hk => hk.2) (.int .i64 ((rd_T45 l0_0 x7_1).f2))) (fun _ hk => hk.1.2)⟩, ⟨BP BK503.out⟩, ⟨BP BK504.out⟩, ⟨BP BK506.out⟩, ⟨BU BK508.out⟩, ⟨BL⟩⟩
    rw [if_pos c25] at H; have c25b0 : decide (x7_1 < (l1.length : Int)) = true := decide_eq_true c25; clear c25
    (first | rw [c25b0] | (simp only [i64_w, i32_w]; rw [c25b0]) | skip)
    have H' := Aside0.mk H; clear H; have p509 : 0 ≤ (x7_1 : Int) := of_decide_eq_true AS; have q509 : x7_1 < (l1.length : Int) := of_decide_eq_true AS; obtain ⟨ad509, e509, hx509_0⟩ := Kd.at_int HR1.out x7_1 p509 q509; cases e509; have hn509_0 : ad509.block ≠ gb508 := Nat.ne_of_lt (Nat.lt_of_lt_of_le (by have := World.block_lt_of_cell? _ _ hx509_0; first | rwa [add_block] at this | exact this) GW508.out); have hn509_1 : ad509.block ≠ gb508 := Nat.ne_of_lt (Nat.lt_of_lt_of_le (by have := World.block_lt_of_cell? _ _ hx509_0; first | rwa [add_block] at this | exact this) GW508.out); have hn509_2 : ad509.block ≠ gb508 := Nat.ne_of_lt (Nat.lt_of_lt_of_le (by have := World.block_lt_of_cell? _ _ hx509_0; first | rwa [add_block] at this | exact this) GW508.out); replace hx509_0 := HX hx509_0; replace hx509_0 := (cell_far (p := ⟨gb508, 0, none⟩) (by first | (rw [add_block]; exact hn509_0) | (show (Addr.add _ _).block ≠ _; rw [add_block]; exact hn509_0) | exact hn509_0) (.string ((rd_T45 l0_0 x7_1).f0))).trans hx509_0; replace hx509_0 := (cell_far (p := ⟨gb508, 1, none⟩) (by first | (rw [add_block]; exact hn509_1) | (show (Addr.add _ _).block ≠ _; rw [add_block]; exact hn509_1) | exact hn509_1) (.string ((rd_T45 l0_0 x7_1).f1))).trans hx509_0; replace hx509_0 := (cell_far (p := ⟨gb508, 2, none⟩) (by first | (rw [add_block]; exact hn509_2) | (show (Addr.add _ _).block ≠ _; rw [add_block]; exact hn509_2) | exact hn509_2) (.int .i64 ((rd_T45 l0_0 x7_1).f2))).trans hx509_0; clear hn509_0 hn509_1 hn509_2; replace p509 := eq_true p509; replace q509 := eq_true q509
    go_wp2
    go_meet
    case rel => exact ⟨_, (rd l1 x7_1), SD, H', ⟨by have := HK1.out; first | omega | exact Nat.le_refl _⟩, ⟨by (with_reducible repeat (first | apply r1 | apply r2 | apply r3)); exact Kd.R_mono (Kd.R_far (p := ⟨gb508, 2, none⟩) (Kd.R_far (p := ⟨gb508, 1, none⟩) (Kd.R_far (p := ⟨gb508, 0, none⟩) (Kd.R_mono HO_507000.out (fun k_ hk => (⟨hk, hk.2⟩ : _ ∧ k_ ≠ gb508))) (fun _ hk => hk.2) (.string ((rd_T45 l0_0 x7_1).f0))) (fun _ hk => hk.2) (.string ((rd_T45 l0_0 x7_1).f1))) (fun _ hk => hk.2) (.int .i64 ((rd_T45 l0_0 x7_1).f2))) (fun _ hk => hk.1.2)⟩, ⟨BP BK503.out⟩, ⟨BP BK504.out⟩, ⟨BP BK506.out⟩, ⟨BU BK508.out⟩, ⟨BL⟩⟩
   case rest =>
    clear HC16
    try clear c1 c2 p2 c4 p5 q5 hx5 c7 c11 c12 c13 c14 c14b0 c15 c15b0 c17 c18 c21 c22 c23 c25 c25b0 hcz13_0 hcz19_0 hcz24_0 hcz24_1 hcz24_2 hcz8_0 hfz13_0 hfz19_0 hfz24_0 hfz24_1 hfz24_2 hfz8_0 hx507_0 hx507_1 hx507_2 hx509_0 p2 p507 p509 q507 q509
    obtain ⟨kq, x9_15, rfl, HA, HJ15, HO_507000, BK503, BK504, BK506, BK508, HB⟩ := hcut; cases kq with
    | zero => exact absurd HA.out (by simp [spec_LoseDisk.j1])
    | succ kj15 =>
     have H := HA.out; clear HA; simp only [spec_LoseDisk.j1] at H
     by_cases c26 : x9_15 > (((rd_T45 l0_0 x7_1).f1).size : Int); rotate_left
     ·
      rw [if_neg c26] at H; have c26b0 : decide ((((rd_T45 l0_0 x7_1).f1).size : Int) < x9_15) = false := decide_eq_false c26; clear c26
      by_cases c50 : x9_15 < ((rd_T45 l0_0 x7_1).f2)
      ·
       rw [if_pos c50] at H; have c50b0 : decide (x9_15 < ((rd_T45 l0_0 x7_1).f2)) = true := decide_eq_true c50; clear c50
       by_cases c51 : 0 ≤ ((rd_T45 l0_0 x7_1).f2); rotate_left
       ·
        rw [if_neg c51] at H; exact absurd H (by simp)
       rw [if_pos c51] at H; have c51b0 := eq_true c51; have c51b1 : decide (0 ≤ ((rd_T45 l0_0 x7_1).f2)) = true := decide_eq_true c51; clear c51
       by_cases c52 : ((rd_T45 l0_0 x7_1).f2) ≤ (((rd_T45 l0_0 x7_1).f1).size : Int); rotate_left
       ·
        rw [if_neg c52] at H; exact absurd H (by simp)
       rw [if_pos c52] at H; have c52b0 := eq_true c52; have c52b1 : decide (((rd_T45 l0_0 x7_1).f2) ≤ (((rd_T45 l0_0 x7_1).f1).size : Int)) = true := decide_eq_true c52; clear c52
       by_cases c53 : x507000_1.length < 3518437208883; rotate_left
       ·
        rw [if_neg c53] at H; exact absurd H (by simp)
       rw [if_pos c53] at H; have LMc53 := Aside0.mk c53; clear c53; obtain ⟨y516, hy516⟩ : ∃ y_ : List (S45), y_ = (x507000_1 ++ [(⟨((rd_T45 l0_0 x7_1).f0), ((rd_T45 l0_0 x7_1).f1).extract 0 (((rd_T45 l0_0 x7_1).f2) : Int).toNat, ((rd_T45 l0_0 x7_1).f2)⟩ : S45)]) := ⟨_, rfl⟩
       replace H : (spec_LoseDisk.l0 kj15 l1 (wrap64 (x7_1 + 1)) l0_0 y516) = some (r1, r2) := by first | (rw [hy516]; with_reducible exact H) | (have H2_ := (Option.bind_some _ _).symm.trans H; rw [hy516]; with_reducible exact H2_) | (have H2_ := (Option.bind_some _ _).symm.trans H; with_reducible exact H2_) | with_reducible exact H | (rw [hy516]; exact H) | exact H
       have Ny516 := Aside0.mk hy516; clear hy516; have H' := Aside0.mk H; clear H; obtain ⟨hnb54, hnc54⟩ := NN NB508_503.out; obtain ⟨hnb55, hnc55⟩ := NN NB508_504.out; obtain ⟨hnb56, hnc56⟩ := NN NB508_506.out; obtain ⟨hcz57_0, hcz57_1, hcz57_2, hfz57_0, hfz57_1, hfz57_2⟩ := KC3 BK508.out
       try go_wp2
       replace HO_507000 := DR HO_507000; replace BK503 := BD BK503; replace BK504 := BD BK504; replace BK506 := BD BK506; replace BK508 := BD BK508; replace HB := Aside0.mk (below_drew1 HB.out); refine start_ (n := 14) (S := fun w' => w'.cell? ⟨gb506, 0, none⟩ = some (u507000) ∧ w'.cell? ⟨gb508, 0, none⟩ = some (.string ((rd_T45 l0_0 x7_1).f0)) ∧ w'.cell? ⟨gb508, 1, none⟩ = some (.string ((rd_T45 l0_0 x7_1).f1)) ∧ w'.cell? ⟨gb508, 2, none⟩ = some (.int .i64 ((rd_T45 l0_0 x7_1).f2))) (ds := [13]) #[false, false, false, false, false, false, false, false, false, false, false, false, false, false] (by kernel_rfl) rfl rfl ⟨CZ BK506.out 0, CZ BK508.out 0, CZ BK508.out 1, CZ BK508.out 2⟩ (fun hHeld => ?_); refine with_tabW spec_LoseDisk.tab15 spec_LoseDisk.bits15 (fun HT_ HW_ => ?_); generalize wc.drew = w58 at HO_507000 BK503 BK504 BK506 BK508 HB hHeld ⊢; refine pV 0 49 (OB 14 1) ?_; refine pV 2 51 (OB 14 5) ?_; refine pV 4 53 (OB 14 21) ?_; refine pV 6 55 (OB 14 85) ?_; refine pV 8 57 (OB 14 341) ?_; refine pT 1 50 (OB 14 343) ?_; refine pT 3 52 (OB 14 351) ?_; refine pT 5 54 (OB 14 383) ?_; refine pV 7 56 (OB 14 511) ?_; refine pV 9 58 (OB 14 1023) ?_; refine one_ (i := 10) (N := some 59) (OB 14 2047) rfl rfl (one_of HT_.out (by kernel_rfl)) (by decide) (fun K hK => ?_); refine value_ (w1 := ?_) (v := ?_) (by rfl) rfl ?_ ?_; rotate_left 2
       ·
        go_simp
        constructor
        ·
         rfl
        ·
         rfl
       refine hK.out _ _ ⟨(blk_cell (blk_alloc BK506.out _) 0).trans rfl, (blk_cell (blk_alloc BK508.out _) 0).trans rfl, (blk_cell (blk_alloc BK508.out _) 1).trans rfl, (blk_cell (blk_alloc BK508.out _) 2).trans rfl⟩ (fun hHeld => ?_); clear hK K; refine norm_ (a' := ?_) ?_ ?_; rotate_left
       ·
        show Act.put _ (some 59) _ = _; simp only [Act.put, zA, zB, zC, i64_w, i32_w]; rfl
       refine one_ (i := 11) (N := some 60) (OB 14 4095) rfl rfl (one_of HT_.out (by kernel_rfl)) (by decide) (fun K hK => ?_); refine Kd.R_append_step k45 (w0 := w) w.heap.size (by rfl) (.tmp 50) (.tmp 59) 27 45 (.agg #[(.string ⟨#[]⟩), (.string ⟨#[]⟩), (.int .i64 0)]) 40 rfl Try.underlying27 info45 rfl (by decide) (by omega) u507000 x507000_1 (⟨((rd_T45 l0_0 x7_1).f0), ((rd_T45 l0_0 x7_1).f1).extract 0 (((rd_T45 l0_0 x7_1).f2) : Int).toNat, ((rd_T45 l0_0 x7_1).f2)⟩ : S45) [.string ((rd_T45 l0_0 x7_1).f0), .string (((rd_T45 l0_0 x7_1).f1).extract 0 (((rd_T45 l0_0 x7_1).f2) : Int).toNat), .int .i64 ((rd_T45 l0_0 x7_1).f2)] (fun k_ => k_ ≠ gb508) (fun _ => False) rfl rfl ?aP (fun _ hk => hk.elim) ?aF ?aO ?aB ?aS ?aL ?_
       (case aP => exact k45_mkM _ _ _ (⟨((rd_T45 l0_0 x7_1).f0), ((rd_T45 l0_0 x7_1).f1).extract 0 (((rd_T45 l0_0 x7_1).f2) : Int).toNat, ((rd_T45 l0_0 x7_1).f2)⟩ : S45))
       (case aB => exact (BL))
       (case aF => exact (fun k_ hk => Kd.freshB (g := gb508) (o := .cells #[.string ((rd_T45 l0_0 x7_1).f0), .string ((rd_T45 l0_0 x7_1).f1), .int .i64 ((rd_T45 l0_0 x7_1).f2)] 45 (0, 0)) (BQ BK508.out) k_ hk))
       (case aO => exact RQ HO_507000.out)
       (case aS => exact (below_size (BL)))
       (case aL => have := LMc53.out; omega)
       intro v517 w59 ho hb hg hat; rw [← Ny516.out] at ho; replace BK503 := Aside0.mk (blk_grown (g := gb503) (o := .cells #[.slice (some ad507) l0_0.length c0_0] 29 (0, 0)) (BQ BK503.out) hg (Kd.R_ne HO_507000.out BK503.out (by decide))); replace BK504 := Aside0.mk (blk_grown (g := gb504) (o := .cells #[.slice none 0 0] 29 (0, 0)) (BQ BK504.out) hg (Kd.R_ne HO_507000.out BK504.out (by decide))); replace BK506 := Aside0.mk (blk_grown (g := gb506) (o := .cells #[u507000] 29 (0, 0)) (BQ BK506.out) hg (Kd.R_ne HO_507000.out BK506.out (by decide))); replace BK508 := Aside0.mk (blk_grown (g := gb508) (o := .cells #[.string ((rd_T45 l0_0 x7_1).f0), .string ((rd_T45 l0_0 x7_1).f1), .int .i64 ((rd_T45 l0_0 x7_1).f2)] 45 (0, 0)) (BQ BK508.out) hg (Kd.R_away HO_507000.out (fun _ hk => hk))); have n4_ := Aside0.mk (hb); have HO518 := Aside0.mk (ho); clear HB HO_507000; have HB := n4_; clear n4_ ho hb hg hat; obtain ⟨Ao60, co60, eo60⟩ := Kd.R_slice HO518.out
       (first | subst eo60 | (injection eo60 with f1_ f2_ f3_; have f4_ := f1_.symm; have f5_ := f3_.symm; clear f1_ f2_ f3_; subst f4_; subst f5_))
       refine hK.out _ _ ⟨CZ BK506.out 0, CZ BK508.out 0, CZ BK508.out 1, CZ BK508.out 2⟩ (fun hHeld => ?_); clear hK K; refine norm_ (a' := ?_) ?_ ?_; rotate_left
       ·
        show Act.put _ (some 60) _ = _; simp only [Act.put, zA, zB, zC, i64_w, i32_w]; rfl
       refine pV 12 61 (OB 14 8191) ?_; refine last_ (i := 13) (N := none) #[true, true, true, true, true, true, true, true, true, true, true, true, true, true] rfl rfl (one_of HT_.out (by kernel_rfl)) (by decide) (fun K hK => ?_); have hs61 : w59.cell? ⟨gb506, 0, none⟩ = some (u507000) := CZ BK506.out 0; have hfs61 := blk_frozen BK506.out 0; have hns61_0 := NB503_506.out; have hns61_1 := NB504_506.out; have hns61_3 := NB508_506.out; have hms61_0 := NB506_503.out; have hms61_1 := NB506_504.out; have hms61_3 := NB506_508.out; refine skip_ (w1 := ?_) (by rfl) rfl ?_ ?_; rotate_left
       ·
        go_simp
        rfl
       refine hK.out _ _ ?_; clear hK K; refine done_ (done_of HT_.out (by kernel_rfl)) ?_
       try go_wp2
       go_roundg kj15
       case measure => have := HK1.out; have := HJ15.out; omega
       case rel => exact ⟨(wrap64 (x7_1 + 1)), (y516), (.slice Ao60 y516.length co60), SD, H', ⟨by have := HK1.out; have := HJ15.out; omega⟩, ⟨RF HO518.out BK506.out⟩, ⟨BP BK503.out⟩, ⟨BP BK504.out⟩, ⟨BU BK506.out⟩, ⟨BL⟩⟩
      rw [if_neg c50] at H; have c50b0 : decide (x9_15 < ((rd_T45 l0_0 x7_1).f2)) = false := decide_eq_false c50; clear c50
      by_cases c62 : 0 ≤ x9_15; rotate_left
      ·
       rw [if_neg c62] at H; exact absurd H (by simp)
      rw [if_pos c62] at H; have c62b0 := eq_true c62; have c62b1 : decide (0 ≤ x9_15) = true := decide_eq_true c62; clear c62
      by_cases c63 : x9_15 ≤ (((rd_T45 l0_0 x7_1).f1).size : Int); rotate_left
      ·
       rw [if_neg c63] at H; exact absurd H (by simp)
      rw [if_pos c63] at H; have c63b0 := eq_true c63; have c63b1 : decide (x9_15 ≤ (((rd_T45 l0_0 x7_1).f1).size : Int)) = true := decide_eq_true c63; clear c63
      by_cases c64 : x507000_1.length < 3518437208883; rotate_left
      ·
       rw [if_neg c64] at H; exact absurd H (by simp)
      rw [if_pos c64] at H; have LMc64 := Aside0.mk c64; clear c64; obtain ⟨y519, hy519⟩ : ∃ y_ : List (S45), y_ = (x507000_1 ++ [(⟨((rd_T45 l0_0 x7_1).f0), ((rd_T45 l0_0 x7_1).f1).extract 0 (x9_15 : Int).toNat, x9_15⟩ : S45)]) := ⟨_, rfl⟩
      replace H : (spec_LoseDisk.l0 kj15 l1 (wrap64 (x7_1 + 1)) l0_0 y519) = some (r1, r2) := by first | (rw [hy519]; with_reducible exact H) | (have H2_ := (Option.bind_some _ _).symm.trans H; rw [hy519]; with_reducible exact H2_) | (have H2_ := (Option.bind_some _ _).symm.trans H; with_reducible exact H2_) | with_reducible exact H | (rw [hy519]; exact H) | exact H
      have Ny519 := Aside0.mk hy519; clear hy519; have H' := Aside0.mk H; clear H; obtain ⟨hnb65, hnc65⟩ := NN NB508_503.out; obtain ⟨hnb66, hnc66⟩ := NN NB508_504.out; obtain ⟨hnb67, hnc67⟩ := NN NB508_506.out; obtain ⟨hcz68_0, hcz68_1, hcz68_2, hfz68_0, hfz68_1, hfz68_2⟩ := KC3 BK508.out
      try go_wp2
      replace HO_507000 := DR HO_507000; replace BK503 := BD BK503; replace BK504 := BD BK504; replace BK506 := BD BK506; replace BK508 := BD BK508; replace HB := Aside0.mk (below_drew1 HB.out); refine start_ (n := 14) (S := fun w' => w'.cell? ⟨gb506, 0, none⟩ = some (u507000) ∧ w'.cell? ⟨gb508, 0, none⟩ = some (.string ((rd_T45 l0_0 x7_1).f0)) ∧ w'.cell? ⟨gb508, 1, none⟩ = some (.string ((rd_T45 l0_0 x7_1).f1)) ∧ w'.cell? ⟨gb508, 2, none⟩ = some (.int .i64 ((rd_T45 l0_0 x7_1).f2))) (ds := [13]) #[false, false, false, false, false, false, false, false, false, false, false, false, false, false] (by kernel_rfl) rfl rfl ⟨CZ BK506.out 0, CZ BK508.out 0, CZ BK508.out 1, CZ BK508.out 2⟩ (fun hHeld => ?_); refine with_tabW spec_LoseDisk.tab15 spec_LoseDisk.bits15 (fun HT_ HW_ => ?_); generalize wc.drew = w69 at HO_507000 BK503 BK504 BK506 BK508 HB hHeld ⊢; refine pV 0 49 (OB 14 1) ?_; refine pV 2 51 (OB 14 5) ?_; refine pV 4 53 (OB 14 21) ?_; refine pV 6 55 (OB 14 85) ?_; refine pV 8 57 (OB 14 341) ?_; refine pT 1 50 (OB 14 343) ?_; refine pT 3 52 (OB 14 351) ?_; refine pT 5 54 (OB 14 383) ?_; refine pV 7 56 (OB 14 511) ?_; refine pV 9 58 (OB 14 1023) ?_; refine one_ (i := 10) (N := some 59) (OB 14 2047) rfl rfl (one_of HT_.out (by kernel_rfl)) (by decide) (fun K hK => ?_); refine value_ (w1 := ?_) (v := ?_) (by rfl) rfl ?_ ?_; rotate_left 2
      ·
       go_simp
       constructor
       ·
        rfl
       ·
        rfl
      refine hK.out _ _ ⟨(blk_cell (blk_alloc BK506.out _) 0).trans rfl, (blk_cell (blk_alloc BK508.out _) 0).trans rfl, (blk_cell (blk_alloc BK508.out _) 1).trans rfl, (blk_cell (blk_alloc BK508.out _) 2).trans rfl⟩ (fun hHeld => ?_); clear hK K; refine norm_ (a' := ?_) ?_ ?_; rotate_left
      ·
       show Act.put _ (some 59) _ = _; simp only [Act.put, zA, zB, zC, i64_w, i32_w]; rfl
      refine one_ (i := 11) (N := some 60) (OB 14 4095) rfl rfl (one_of HT_.out (by kernel_rfl)) (by decide) (fun K hK => ?_); refine Kd.R_append_step k45 (w0 := w) w.heap.size (by rfl) (.tmp 50) (.tmp 59) 27 45 (.agg #[(.string ⟨#[]⟩), (.string ⟨#[]⟩), (.int .i64 0)]) 40 rfl Try.underlying27 info45 rfl (by decide) (by omega) u507000 x507000_1 (⟨((rd_T45 l0_0 x7_1).f0), ((rd_T45 l0_0 x7_1).f1).extract 0 (x9_15 : Int).toNat, x9_15⟩ : S45) [.string ((rd_T45 l0_0 x7_1).f0), .string (((rd_T45 l0_0 x7_1).f1).extract 0 (x9_15 : Int).toNat), .int .i64 x9_15] (fun k_ => k_ ≠ gb508) (fun _ => False) rfl rfl ?aP (fun _ hk => hk.elim) ?aF ?aO ?aB ?aS ?aL ?_
      (case aP => exact k45_mkM _ _ _ (⟨((rd_T45 l0_0 x7_1).f0), ((rd_T45 l0_0 x7_1).f1).extract 0 (x9_15 : Int).toNat, x9_15⟩ : S45))
      (case aB => exact (BL))
      (case aF => exact (fun k_ hk => Kd.freshB (g := gb508) (o := .cells #[.string ((rd_T45 l0_0 x7_1).f0), .string ((rd_T45 l0_0 x7_1).f1), .int .i64 ((rd_T45 l0_0 x7_1).f2)] 45 (0, 0)) (BQ BK508.out) k_ hk))
      (case aO => exact RQ HO_507000.out)
      (case aS => exact (below_size (BL)))
      (case aL => have := LMc64.out; omega)
      intro v520 w70 ho hb hg hat; rw [← Ny519.out] at ho; replace BK503 := Aside0.mk (blk_grown (g := gb503) (o := .cells #[.slice (some ad507) l0_0.length c0_0] 29 (0, 0)) (BQ BK503.out) hg (Kd.R_ne HO_507000.out BK503.out (by decide))); replace BK504 := Aside0.mk (blk_grown (g := gb504) (o := .cells #[.slice none 0 0] 29 (0, 0)) (BQ BK504.out) hg (Kd.R_ne HO_507000.out BK504.out (by decide))); replace BK506 := Aside0.mk (blk_grown (g := gb506) (o := .cells #[u507000] 29 (0, 0)) (BQ BK506.out) hg (Kd.R_ne HO_507000.out BK506.out (by decide))); replace BK508 := Aside0.mk (blk_grown (g := gb508) (o := .cells #[.string ((rd_T45 l0_0 x7_1).f0), .string ((rd_T45 l0_0 x7_1).f1), .int .i64 ((rd_T45 l0_0 x7_1).f2)] 45 (0, 0)) (BQ BK508.out) hg (Kd.R_away HO_507000.out (fun _ hk => hk))); have n4_ := Aside0.mk (hb); have HO521 := Aside0.mk (ho); clear HB HO_507000; have HB := n4_; clear n4_ ho hb hg hat; obtain ⟨Ao71, co71, eo71⟩ := Kd.R_slice HO521.out
      (first | subst eo71 | (injection eo71 with f1_ f2_ f3_; have f4_ := f1_.symm; have f5_ := f3_.symm; clear f1_ f2_ f3_; subst f4_; subst f5_))
      refine hK.out _ _ ⟨CZ BK506.out 0, CZ BK508.out 0, CZ BK508.out 1, CZ BK508.out 2⟩ (fun hHeld => ?_); clear hK K; refine norm_ (a' := ?_) ?_ ?_; rotate_left
      ·
       show Act.put _ (some 60) _ = _; simp only [Act.put, zA, zB, zC, i64_w, i32_w]; rfl
      refine pV 12 61 (OB 14 8191) ?_; refine last_ (i := 13) (N := none) #[true, true, true, true, true, true, true, true, true, true, true, true, true, true] rfl rfl (one_of HT_.out (by kernel_rfl)) (by decide) (fun K hK => ?_); have hs72 : w70.cell? ⟨gb506, 0, none⟩ = some (u507000) := CZ BK506.out 0; have hfs72 := blk_frozen BK506.out 0; have hns72_0 := NB503_506.out; have hns72_1 := NB504_506.out; have hns72_3 := NB508_506.out; have hms72_0 := NB506_503.out; have hms72_1 := NB506_504.out; have hms72_3 := NB506_508.out; refine skip_ (w1 := ?_) (by rfl) rfl ?_ ?_; rotate_left
      ·
       go_simp
       rfl
      refine hK.out _ _ ?_; clear hK K; refine done_ (done_of HT_.out (by kernel_rfl)) ?_
      try go_wp2
      go_roundg kj15
      case measure => have := HK1.out; have := HJ15.out; omega
      case rel => exact ⟨(wrap64 (x7_1 + 1)), (y519), (.slice Ao71 y519.length co71), SD, H', ⟨by have := HK1.out; have := HJ15.out; omega⟩, ⟨RF HO521.out BK506.out⟩, ⟨BP BK503.out⟩, ⟨BP BK504.out⟩, ⟨BU BK506.out⟩, ⟨BL⟩⟩
     rw [if_pos c26] at H; have c26b0 : decide ((((rd_T45 l0_0 x7_1).f1).size : Int) < x9_15) = true := decide_eq_true c26; clear c26
     by_cases c27 : (((rd_T45 l0_0 x7_1).f1).size : Int) < ((rd_T45 l0_0 x7_1).f2)
     ·
      rw [if_pos c27] at H; have c27b0 : decide ((((rd_T45 l0_0 x7_1).f1).size : Int) < ((rd_T45 l0_0 x7_1).f2)) = true := decide_eq_true c27; clear c27
      by_cases c28 : 0 ≤ ((rd_T45 l0_0 x7_1).f2); rotate_left
      ·
       rw [if_neg c28] at H; exact absurd H (by simp)
      rw [if_pos c28] at H; have c28b0 := eq_true c28; have c28b1 : decide (0 ≤ ((rd_T45 l0_0 x7_1).f2)) = true := decide_eq_true c28; clear c28
      by_cases c29 : ((rd_T45 l0_0 x7_1).f2) ≤ (((rd_T45 l0_0 x7_1).f1).size : Int); rotate_left
      ·
       rw [if_neg c29] at H; exact absurd H (by simp)
      rw [if_pos c29] at H; have c29b0 := eq_true c29; have c29b1 : decide (((rd_T45 l0_0 x7_1).f2) ≤ (((rd_T45 l0_0 x7_1).f1).size : Int)) = true := decide_eq_true c29; clear c29
      by_cases c30 : x507000_1.length < 3518437208883; rotate_left
      ·
       rw [if_neg c30] at H; exact absurd H (by simp)
      rw [if_pos c30] at H; have LMc30 := Aside0.mk c30; clear c30; obtain ⟨y510, hy510⟩ : ∃ y_ : List (S45), y_ = (x507000_1 ++ [(⟨((rd_T45 l0_0 x7_1).f0), ((rd_T45 l0_0 x7_1).f1).extract 0 (((rd_T45 l0_0 x7_1).f2) : Int).toNat, ((rd_T45 l0_0 x7_1).f2)⟩ : S45)]) := ⟨_, rfl⟩
      replace H : (spec_LoseDisk.l0 kj15 l1 (wrap64 (x7_1 + 1)) l0_0 y510) = some (r1, r2) := by first | (rw [hy510]; with_reducible exact H) | (have H2_ := (Option.bind_some _ _).symm.trans H; rw [hy510]; with_reducible exact H2_) | (have H2_ := (Option.bind_some _ _).symm.trans H; with_reducible exact H2_) | with_reducible exact H | (rw [hy510]; exact H) | exact H
      have Ny510 := Aside0.mk hy510; clear hy510; have H' := Aside0.mk H; clear H; obtain ⟨hnb31, hnc31⟩ := NN NB508_503.out; obtain ⟨hnb32, hnc32⟩ := NN NB508_504.out; obtain ⟨hnb33, hnc33⟩ := NN NB508_506.out; obtain ⟨hcz34_0, hcz34_1, hcz34_2, hfz34_0, hfz34_1, hfz34_2⟩ := KC3 BK508.out
      try go_wp2
      replace HO_507000 := DR HO_507000; replace BK503 := BD BK503; replace BK504 := BD BK504; replace BK506 := BD BK506; replace BK508 := BD BK508; replace HB := Aside0.mk (below_drew1 HB.out); refine start_ (n := 14) (S := fun w' => w'.cell? ⟨gb506, 0, none⟩ = some (u507000) ∧ w'.cell? ⟨gb508, 0, none⟩ = some (.string ((rd_T45 l0_0 x7_1).f0)) ∧ w'.cell? ⟨gb508, 1, none⟩ = some (.string ((rd_T45 l0_0 x7_1).f1)) ∧ w'.cell? ⟨gb508, 2, none⟩ = some (.int .i64 ((rd_T45 l0_0 x7_1).f2))) (ds := [13]) #[false, false, false, false, false, false, false, false, false, false, false, false, false, false] (by kernel_rfl) rfl rfl ⟨CZ BK506.out 0, CZ BK508.out 0, CZ BK508.out 1, CZ BK508.out 2⟩ (fun hHeld => ?_); refine with_tabW spec_LoseDisk.tab15 spec_LoseDisk.bits15 (fun HT_ HW_ => ?_); generalize wc.drew = w35 at HO_507000 BK503 BK504 BK506 BK508 HB hHeld ⊢; refine pV 0 49 (OB 14 1) ?_; refine pV 2 51 (OB 14 5) ?_; refine pV 4 53 (OB 14 21) ?_; refine pV 6 55 (OB 14 85) ?_; refine pV 8 57 (OB 14 341) ?_; refine pT 1 50 (OB 14 343) ?_; refine pT 3 52 (OB 14 351) ?_; refine pT 5 54 (OB 14 383) ?_; refine pV 7 56 (OB 14 511) ?_; refine pV 9 58 (OB 14 1023) ?_; refine one_ (i := 10) (N := some 59) (OB 14 2047) rfl rfl (one_of HT_.out (by kernel_rfl)) (by decide) (fun K hK => ?_); refine value_ (w1 := ?_) (v := ?_) (by rfl) rfl ?_ ?_; rotate_left 2
      ·
       go_simp
       constructor
       ·
        rfl
       ·
        rfl
      refine hK.out _ _ ⟨(blk_cell (blk_alloc BK506.out _) 0).trans rfl, (blk_cell (blk_alloc BK508.out _) 0).trans rfl, (blk_cell (blk_alloc BK508.out _) 1).trans rfl, (blk_cell (blk_alloc BK508.out _) 2).trans rfl⟩ (fun hHeld => ?_); clear hK K; refine norm_ (a' := ?_) ?_ ?_; rotate_left
      ·
       show Act.put _ (some 59) _ = _; simp only [Act.put, zA, zB, zC, i64_w, i32_w]; rfl
      refine one_ (i := 11) (N := some 60) (OB 14 4095) rfl rfl (one_of HT_.out (by kernel_rfl)) (by decide) (fun K hK => ?_); refine Kd.R_append_step k45 (w0 := w) w.heap.size (by rfl) (.tmp 50) (.tmp 59) 27 45 (.agg #[(.string ⟨#[]⟩), (.string ⟨#[]⟩), (.int .i64 0)]) 40 rfl Try.underlying27 info45 rfl (by decide) (by omega) u507000 x507000_1 (⟨((rd_T45 l0_0 x7_1).f0), ((rd_T45 l0_0 x7_1).f1).extract 0 (((rd_T45 l0_0 x7_1).f2) : Int).toNat, ((rd_T45 l0_0 x7_1).f2)⟩ : S45) [.string ((rd_T45 l0_0 x7_1).f0), .string (((rd_T45 l0_0 x7_1).f1).extract 0 (((rd_T45 l0_0 x7_1).f2) : Int).toNat), .int .i64 ((rd_T45 l0_0 x7_1).f2)] (fun k_ => k_ ≠ gb508) (fun _ => False) rfl rfl ?aP (fun _ hk => hk.elim) ?aF ?aO ?aB ?aS ?aL ?_
      (case aP => exact k45_mkM _ _ _ (⟨((rd_T45 l0_0 x7_1).f0), ((rd_T45 l0_0 x7_1).f1).extract 0 (((rd_T45 l0_0 x7_1).f2) : Int).toNat, ((rd_T45 l0_0 x7_1).f2)⟩ : S45))
      (case aB => exact (BL))
      (case aF => exact (fun k_ hk => Kd.freshB (g := gb508) (o := .cells #[.string ((rd_T45 l0_0 x7_1).f0), .string ((rd_T45 l0_0 x7_1).f1), .int .i64 ((rd_T45 l0_0 x7_1).f2)] 45 (0, 0)) (BQ BK508.out) k_ hk))
      (case aO => exact RQ HO_507000.out)
      (case aS => exact (below_size (BL)))
      (case aL => have := LMc30.out; omega)
      intro v511 w36 ho hb hg hat; rw [← Ny510.out] at ho; replace BK503 := Aside0.mk (blk_grown (g := gb503) (o := .cells #[.slice (some ad507) l0_0.length c0_0] 29 (0, 0)) (BQ BK503.out) hg (Kd.R_ne HO_507000.out BK503.out (by decide))); replace BK504 := Aside0.mk (blk_grown (g := gb504) (o := .cells #[.slice none 0 0] 29 (0, 0)) (BQ BK504.out) hg (Kd.R_ne HO_507000.out BK504.out (by decide))); replace BK506 := Aside0.mk (blk_grown (g := gb506) (o := .cells #[u507000] 29 (0, 0)) (BQ BK506.out) hg (Kd.R_ne HO_507000.out BK506.out (by decide))); replace BK508 := Aside0.mk (blk_grown (g := gb508) (o := .cells #[.string ((rd_T45 l0_0 x7_1).f0), .string ((rd_T45 l0_0 x7_1).f1), .int .i64 ((rd_T45 l0_0 x7_1).f2)] 45 (0, 0)) (BQ BK508.out) hg (Kd.R_away HO_507000.out (fun _ hk => hk))); have n4_ := Aside0.mk (hb); have HO512 := Aside0.mk (ho); clear HB HO_507000; have HB := n4_; clear n4_ ho hb hg hat; obtain ⟨Ao37, co37, eo37⟩ := Kd.R_slice HO512.out
      (first | subst eo37 | (injection eo37 with f1_ f2_ f3_; have f4_ := f1_.symm; have f5_ := f3_.symm; clear f1_ f2_ f3_; subst f4_; subst f5_))
      refine hK.out _ _ ⟨CZ BK506.out 0, CZ BK508.out 0, CZ BK508.out 1, CZ BK508.out 2⟩ (fun hHeld => ?_); clear hK K; refine norm_ (a' := ?_) ?_ ?_; rotate_left
      ·
       show Act.put _ (some 60) _ = _; simp only [Act.put, zA, zB, zC, i64_w, i32_w]; rfl
      refine pV 12 61 (OB 14 8191) ?_; refine last_ (i := 13) (N := none) #[true, true, true, true, true, true, true, true, true, true, true, true, true, true] rfl rfl (one_of HT_.out (by kernel_rfl)) (by decide) (fun K hK => ?_); have hs38 : w36.cell? ⟨gb506, 0, none⟩ = some (u507000) := CZ BK506.out 0; have hfs38 := blk_frozen BK506.out 0; have hns38_0 := NB503_506.out; have hns38_1 := NB504_506.out; have hns38_3 := NB508_506.out; have hms38_0 := NB506_503.out; have hms38_1 := NB506_504.out; have hms38_3 := NB506_508.out; refine skip_ (w1 := ?_) (by rfl) rfl ?_ ?_; rotate_left
      ·
       go_simp
       rfl
      refine hK.out _ _ ?_; clear hK K; refine done_ (done_of HT_.out (by kernel_rfl)) ?_
      try go_wp2
      go_roundg kj15
      case measure => have := HK1.out; have := HJ15.out; omega
      case rel => exact ⟨(wrap64 (x7_1 + 1)), (y510), (.slice Ao37 y510.length co37), SD, H', ⟨by have := HK1.out; have := HJ15.out; omega⟩, ⟨RF HO512.out BK506.out⟩, ⟨BP BK503.out⟩, ⟨BP BK504.out⟩, ⟨BU BK506.out⟩, ⟨BL⟩⟩
     rw [if_neg c27] at H; have c27b0 : decide ((((rd_T45 l0_0 x7_1).f1).size : Int) < ((rd_T45 l0_0 x7_1).f2)) = false := decide_eq_false c27; clear c27
     by_cases c39 : 0 ≤ (((rd_T45 l0_0 x7_1).f1).size : Int); rotate_left
     ·
      rw [if_neg c39] at H; exact absurd H (by simp)
     rw [if_pos c39] at H; have c39b0 := eq_true c39; have c39b1 : decide (0 ≤ (((rd_T45 l0_0 x7_1).f1).size : Int)) = true := decide_eq_true c39; clear c39
     by_cases c40 : (((rd_T45 l0_0 x7_1).f1).size : Int) ≤ (((rd_T45 l0_0 x7_1).f1).size : Int); rotate_left
     ·
      rw [if_neg c40] at H; exact absurd H (by simp)
     rw [if_pos c40] at H; have c40b0 := eq_true c40; have c40b1 : decide ((((rd_T45 l0_0 x7_1).f1).size : Int) ≤ (((rd_T45 l0_0 x7_1).f1).size : Int)) = true := decide_eq_true c40; clear c40
     by_cases c41 : x507000_1.length < 3518437208883; rotate_left
     ·
      rw [if_neg c41] at H; exact absurd H (by simp)
     rw [if_pos c41] at H; have LMc41 := Aside0.mk c41; clear c41; obtain ⟨y513, hy513⟩ : ∃ y_ : List (S45), y_ = (x507000_1 ++ [(⟨((rd_T45 l0_0 x7_1).f0), ((rd_T45 l0_0 x7_1).f1).extract 0 ((((rd_T45 l0_0 x7_1).f1).size : Int) : Int).toNat, (((rd_T45 l0_0 x7_1).f1).size : Int)⟩ : S45)]) := ⟨_, rfl⟩
     replace H : (spec_LoseDisk.l0 kj15 l1 (wrap64 (x7_1 + 1)) l0_0 y513) = some (r1, r2) := by first | (rw [hy513]; with_reducible exact H) | (have H2_ := (Option.bind_some _ _).symm.trans H; rw [hy513]; with_reducible exact H2_) | (have H2_ := (Option.bind_some _ _).symm.trans H; with_reducible exact H2_) | with_reducible exact H | (rw [hy513]; exact H) | exact H
     have Ny513 := Aside0.mk hy513; clear hy513; have H' := Aside0.mk H; clear H; obtain ⟨hnb42, hnc42⟩ := NN NB508_503.out; obtain ⟨hnb43, hnc43⟩ := NN NB508_504.out; obtain ⟨hnb44, hnc44⟩ := NN NB508_506.out; obtain ⟨hcz45_0, hcz45_1, hcz45_2, hfz45_0, hfz45_1, hfz45_2⟩ := KC3 BK508.out
     try go_wp2
     replace HO_507000 := DR HO_507000; replace BK503 := BD BK503; replace BK504 := BD BK504; replace BK506 := BD BK506; replace BK508 := BD BK508; replace HB := Aside0.mk (below_drew1 HB.out); refine start_ (n := 14) (S := fun w' => w'.cell? ⟨gb506, 0, none⟩ = some (u507000) ∧ w'.cell? ⟨gb508, 0, none⟩ = some (.string ((rd_T45 l0_0 x7_1).f0)) ∧ w'.cell? ⟨gb508, 1, none⟩ = some (.string ((rd_T45 l0_0 x7_1).f1)) ∧ w'.cell? ⟨gb508, 2, none⟩ = some (.int .i64 ((rd_T45 l0_0 x7_1).f2))) (ds := [13]) #[false, false, false, false, false, false, false, false, false, false, false, false, false, false] (by kernel_rfl) rfl rfl ⟨CZ BK506.out 0, CZ BK508.out 0, CZ BK508.out 1, CZ BK508.out 2⟩ (fun hHeld => ?_); refine with_tabW spec_LoseDisk.tab15 spec_LoseDisk.bits15 (fun HT_ HW_ => ?_); generalize wc.drew = w46 at HO_507000 BK503 BK504 BK506 BK508 HB hHeld ⊢; refine pV 0 49 (OB 14 1) ?_; refine pV 2 51 (OB 14 5) ?_; refine pV 4 53 (OB 14 21) ?_; refine pV 6 55 (OB 14 85) ?_; refine pV 8 57 (OB 14 341) ?_; refine pT 1 50 (OB 14 343) ?_; refine pT 3 52 (OB 14 351) ?_; refine pT 5 54 (OB 14 383) ?_; refine pV 7 56 (OB 14 511) ?_; refine pV 9 58 (OB 14 1023) ?_; refine one_ (i := 10) (N := some 59) (OB 14 2047) rfl rfl (one_of HT_.out (by kernel_rfl)) (by decide) (fun K hK => ?_); refine value_ (w1 := ?_) (v := ?_) (by rfl) rfl ?_ ?_; rotate_left 2
     ·
      go_simp
      constructor
      ·
       rfl
      ·
       rfl
     refine hK.out _ _ ⟨(blk_cell (blk_alloc BK506.out _) 0).trans rfl, (blk_cell (blk_alloc BK508.out _) 0).trans rfl, (blk_cell (blk_alloc BK508.out _) 1).trans rfl, (blk_cell (blk_alloc BK508.out _) 2).trans rfl⟩ (fun hHeld => ?_); clear hK K; refine norm_ (a' := ?_) ?_ ?_; rotate_left
     ·
      show Act.put _ (some 59) _ = _; simp only [Act.put, zA, zB, zC, i64_w, i32_w]; rfl
     refine one_ (i := 11) (N := some 60) (OB 14 4095) rfl rfl (one_of HT_.out (by kernel_rfl)) (by decide) (fun K hK => ?_); refine Kd.R_append_step k45 (w0 := w) w.heap.size (by rfl) (.tmp 50) (.tmp 59) 27 45 (.agg #[(.string ⟨#[]⟩), (.string ⟨#[]⟩), (.int .i64 0)]) 40 rfl Try.underlying27 info45 rfl (by decide) (by omega) u507000 x507000_1 (⟨((rd_T45 l0_0 x7_1).f0), ((rd_T45 l0_0 x7_1).f1), (((rd_T45 l0_0 x7_1).f1).size : Int)⟩ : S45) [.string ((rd_T45 l0_0 x7_1).f0), .string (((rd_T45 l0_0 x7_1).f1)), .int .i64 (((rd_T45 l0_0 x7_1).f1).size : Int)] (fun k_ => k_ ≠ gb508) (fun _ => False) rfl rfl ?aP (fun _ hk => hk.elim) ?aF ?aO ?aB ?aS ?aL ?_
     (case aP => exact k45_mkM _ _ _ (⟨((rd_T45 l0_0 x7_1).f0), ((rd_T45 l0_0 x7_1).f1), (((rd_T45 l0_0 x7_1).f1).size : Int)⟩ : S45))
     (case aB => exact (BL))
     (case aF => exact (fun k_ hk => Kd.freshB (g := gb508) (o := .cells #[.string ((rd_T45 l0_0 x7_1).f0), .string ((rd_T45 l0_0 x7_1).f1), .int .i64 ((rd_T45 l0_0 x7_1).f2)] 45 (0, 0)) (BQ BK508.out) k_ hk))
     (case aO => exact RQ HO_507000.out)
     (case aS => exact (below_size (BL)))
     (case aL => have := LMc41.out; omega)
     intro v514 w47 ho hb hg hat; replace Ny513 := Aside0.mk (Ny513.out.trans (by rw [show ((rd_T45 l0_0 x7_1).f1).extract 0 ((((rd_T45 l0_0 x7_1).f1).size : Int) : Int).toNat = (rd_T45 l0_0 x7_1).f1 from by simp]) : _ = x507000_1 ++ [(⟨((rd_T45 l0_0 x7_1).f0), ((rd_T45 l0_0 x7_1).f1), (((rd_T45 l0_0 x7_1).f1).size : Int)⟩ : S45)]); rw [← Ny513.out] at ho; replace BK503 := Aside0.mk (blk_grown (g := gb503) (o := .cells #[.slice (some ad507) l0_0.length c0_0] 29 (0, 0)) (BQ BK503.out) hg (Kd.R_ne HO_507000.out BK503.out (by decide))); replace BK504 := Aside0.mk (blk_grown (g := gb504) (o := .cells #[.slice none 0 0] 29 (0, 0)) (BQ BK504.out) hg (Kd.R_ne HO_507000.out BK504.out (by decide))); replace BK506 := Aside0.mk (blk_grown (g := gb506) (o := .cells #[u507000] 29 (0, 0)) (BQ BK506.out) hg (Kd.R_ne HO_507000.out BK506.out (by decide))); replace BK508 := Aside0.mk (blk_grown (g := gb508) (o := .cells #[.string ((rd_T45 l0_0 x7_1).f0), .string ((rd_T45 l0_0 x7_1).f1), .int .i64 ((rd_T45 l0_0 x7_1).f2)] 45 (0, 0)) (BQ BK508.out) hg (Kd.R_away HO_507000.out (fun _ hk => hk))); have n4_ := Aside0.mk (hb); have HO515 := Aside0.mk (ho); clear HB HO_507000; have HB := n4_; clear n4_ ho hb hg hat; obtain ⟨Ao48, co48, eo48⟩ := Kd.R_slice HO515.out
     (first | subst eo48 | (injection eo48 with f1_ f2_ f3_; have f4_ := f1_.symm; have f5_ := f3_.symm; clear f1_ f2_ f3_; subst f4_; subst f5_))
     refine hK.out _ _ ⟨CZ BK506.out 0, CZ BK508.out 0, CZ BK508.out 1, CZ BK508.out 2⟩ (fun hHeld => ?_); clear hK K; refine norm_ (a' := ?_) ?_ ?_; rotate_left
     ·
      show Act.put _ (some 60) _ = _; simp only [Act.put, zA, zB, zC, i64_w, i32_w]; rfl
     refine pV 12 61 (OB 14 8191) ?_; refine last_ (i := 13) (N := none) #[true, true, true, true, true, true, true, true, true, true, true, true, true, true] rfl rfl (one_of HT_.out (by kernel_rfl)) (by decide) (fun K hK => ?_); have hs49 : w47.cell? ⟨gb506, 0, none⟩ = some (u507000) := CZ BK506.out 0; have hfs49 := blk_frozen BK506.out 0; have hns49_0 := NB503_506.out; have hns49_1 := NB504_506.out; have hns49_3 := NB508_506.out; have hms49_0 := NB506_503.out; have hms49_1 := NB506_504.out; have hms49_3 := NB506_508.out; refine skip_ (w1 := ?_) (by rfl) rfl ?_ ?_; rotate_left
     ·
      go_simp
      rfl
     refine hK.out _ _ ?_; clear hK K; refine done_ (done_of HT_.out (by kernel_rfl)) ?_
     try go_wp2
     go_roundg kj15
     case measure => have := HK1.out; have := HJ15.out; omega
     case rel => exact ⟨(wrap64 (x7_1 + 1)), (y513), (.slice Ao48 y513.length co48), SD, H', ⟨by have := HK1.out; have := HJ15.out; omega⟩, ⟨RF HO515.out BK506.out⟩, ⟨BP BK503.out⟩, ⟨BP BK504.out⟩, ⟨BU BK506.out⟩, ⟨BL⟩⟩

/-! ### spec_CutActs: function 46 -/
def spec_CutActs.f (k : Nat) (l0_0 : List (S45)) (l1 : List (S55)) (a2 : Int) (l3 : List Int) : Option ((List (S45)) × Bool) := (spec_l01In.f a2 0 (l1.length : Int)).bind fun t524 => (if t524 = true then (if 0 ≤ a2 then (if a2 ≤ (l1.length : Int) then ((spec_DoActs.f k l0_0 (l1.take (a2 : Int).toNat)).bind fun bt529 => (if bt529.2 < a2 then (some (([] : List (S45)), false)) else ((spec_LoseDisk.f k bt529.1 l3).bind fun bt534 => (some (bt534.1, bt534.2))))) else (none)) else (none)) else (some (([] : List (S45)), false)))
def spec_CutActs.T3 : Bool × List (List Nat × List Nat) := (true, [([], []), ([], []), ([], []), ([1, 2], [1, 2]), ([0, 3], [0, 3]), ([4], [4]), ([5], [5]), ([5], [5]), ([], []), ([8, 6, 4, 0, 1, 2, 3, 4, 5, 6, 8], [6, 8]), ([7, 9, 0, 1, 2, 3, 4, 5, 6, 7, 8, 9], [7])])
def spec_CutActs.B3 : List Nat := [0, 0, 0, 6, 15, 31, 63, 63, 0, 383, 1023]
theorem spec_CutActs.tab3 : rtab .any (opsOf Try.f46 3) = spec_CutActs.T3 := by kernel_rfl
theorem spec_CutActs.bits3 : waitsOk spec_CutActs.T3.2 spec_CutActs.B3 = true := by kernel_rfl
set_option maxHeartbeats 8000000 in
set_option maxRecDepth 100000 in
theorem spec_CutActs.calls (k : Nat) (A0_0 : Option Addr) (c0_0 : Nat) (l0_0 : List (S45)) (A1 : Option Addr) (c1 : Nat) (l1 : List (S55)) (a2 : Int) (A3 : Option Addr) (c3 : Nat) (l3 : List Int) (r1 : List (S45)) (r2 : Bool) (w : World) (hr0_0 : Kd.C k45 w A0_0 l0_0.length l0_0) (hc0_0 : l0_0.length ≤ c0_0) (hr1 : Kd.C k55 w A1 l1.length l1) (hc1 : l1.length ≤ c1) (hr3 : Kd.C (Kd.int .i64) w A3 l3.length l3) (hc3 : l3.length ≤ c3) (h : spec_CutActs.f k l0_0 l1 a2 l3 = some (r1, r2)) :
  Calls Try.prog 46 #[.agg #[.slice A0_0 l0_0.length c0_0], .slice A1 l1.length c1, .int .i64 a2, .slice A3 l3.length c3] w fun e w' => ∃ v0_ : Value, e = .returned (.tuple #[.agg #[v0_], .bool r2]) ∧ Kd.R k45 45 w' w.heap.size (fun _ => True) v0_ r1 ∧ Below w.heap.size w w' := by
 have hu29 := Try.underlying29
 have HR0_0 := Aside0.mk hr0_0
 have HC0_0 := Aside0.mk hc0_0
 clear hr0_0 hc0_0
 have HR1 := Aside0.mk hr1
 have HC1 := Aside0.mk hc1
 clear hr1 hc1
 have HR3 := Aside0.mk hr3
 have HC3 := Aside0.mk hc3
 clear hr3 hc3
 have HB := Aside0.mk (Below.refl w.heap.size w)
 have H : ((spec_l01In.f a2 0 (l1.length : Int)).bind fun t524 => (if t524 = true then (if 0 ≤ a2 then (if a2 ≤ (l1.length : Int) then ((spec_DoActs.f k l0_0 (l1.take (a2 : Int).toNat)).bind fun bt529 => (if bt529.2 < a2 then (some (([] : List (S45)), false)) else ((spec_LoseDisk.f k bt529.1 l3).bind fun bt534 => (some (bt534.1, bt534.2))))) else (none)) else (none)) else (some (([] : List (S45)), false)))) = some (r1, r2) := h
 clear h
 replace H := Option.bind_eq_some_iff.mp H
 obtain ⟨t524, A50, H⟩ := H
 have A5 := Aside0.mk A50
 clear A50
 by_cases c6 : t524 = true; rotate_left
 ·
  replace c6 := Bool.eq_false_iff.mpr c6; subst c6
  rw [if_neg (show ¬ (false = true) by decide)] at H; simp only [Option.some.injEq, Prod.mk.injEq] at H; obtain ⟨rfl, rfl⟩ := H
  go_enter Try.func46, Try.ntmps46
  go_wp2_with (first | ((with_reducible refine gate_dst (N := 4) rfl ?_); refine bE 4 #[.slice A0_0 l0_0.length c0_0] 29 ?_; intro gb522 hg w40 hbox hb; have BK522 := Aside0.mk (hbox); have GW522 : Aside0 (w.heap.size ≤ gb522) := GS; have GE522 := GW522; replace HB := BS hb; clear hb hbox hg) | ((with_reducible refine gate_dst (N := 8) rfl ?_); refine bE 8 #[.slice none 0 0] 29 ?_; intro gb523 hg w41 hbox hb; have BK523 := Aside0.mk (hbox); have GW523 : Aside0 (w.heap.size ≤ gb523) := GS; have GE523 := GW523; have NB522_523 := NL BK522.out hg; have NB523_522 := NG BK522.out hg; replace BK522 := BB BK522.out hb; replace HB := BS hb; clear hb hbox hg) | ((with_reducible refine gate_callee (f := 49) rfl ?_); refine goesL_ (some 15) rfl rfl Try.func49 (by kernel_rfl) rfl #[.int .i64 a2, .int .i64 0, .int .i64 (l1.length : Int)] rfl (MA) ?_; (with_reducible refine (spec_l01In.calls a2 0 (l1.length : Int) false _ A5.out).mono ?_); rintro e w' ⟨rfl, ⟨nd, rfl⟩⟩; refine ⟨_, rfl, ?_⟩; (try (rw [drewN_self w41]; generalize hq_ : World.drewN w41 _ = w41; have n0_ : Aside0 (w41.heap[gb522]? = some (.cells #[.slice A0_0 l0_0.length c0_0] 29 (0, 0))) := ⟨by rw [← hq_]; exact (BQ BK522.out)⟩; have n1_ : Aside0 (w41.heap[gb523]? = some (.cells #[.slice none 0 0] 29 (0, 0))) := ⟨by rw [← hq_]; exact (BQ BK523.out)⟩; have n2_ : Aside0 (Below w.heap.size w w41) := ⟨by rw [← hq_]; exact (BL)⟩; clear BK522 BK523 HB hq_; have BK522 := n0_; have BK523 := n1_; have HB := n2_; clear n0_ n1_ n2_)); obtain ⟨hnb42, hnc42⟩ := NN NB523_522.out; obtain ⟨hcz43_0, hfz43_0⟩ := KC1 BK523.out))
  refine bodyPost_ret (results_ct rfl _ _ gb523 29 #[.slice none 0 0] (0, 0) _ rfl (BU BK523.out) Try.underlying29 rfl (by kernel_rfl)) rfl ?_; exact ⟨_, EE, by first | exact Kd.R_nil _ _ _ _ _ | exact Kd.N_nil _ _ _ _ _ | exact Kd.V_nil _ _ _ _ _ | exact Kd.Q_nil _ _ _ _ _ | exact Kd.S_nil _ _ _ _ _, BL⟩
 subst c6
 have H1 : (if 0 ≤ a2 then (if a2 ≤ (l1.length : Int) then ((spec_DoActs.f k l0_0 (l1.take (a2 : Int).toNat)).bind fun bt529 => (if bt529.2 < a2 then (some (([] : List (S45)), false)) else ((spec_LoseDisk.f k bt529.1 l3).bind fun bt534 => (some (bt534.1, bt534.2))))) else (none)) else (none)) = some (r1, r2) := by rw [if_pos rfl] at H; exact H
 clear H
 have H := H1
 clear H1
 by_cases c7 : 0 ≤ a2; rotate_left
 ·
  rw [if_neg c7] at H; exact absurd H (by simp)
 rw [if_pos c7] at H
 have c7b0 := eq_true c7
 have c7b1 : decide (0 ≤ a2) = true := decide_eq_true c7
 clear c7
 by_cases c8 : a2 ≤ (l1.length : Int); rotate_left
 ·
  rw [if_neg c8] at H; exact absurd H (by simp)
 rw [if_pos c8] at H
 have c8b0 := eq_true c8
 have c8b1 : decide (a2 ≤ (l1.length : Int)) = true := decide_eq_true c8
 clear c8
 obtain ⟨y525, hy525⟩ : ∃ y_ : List (S55), y_ = (l1.take (a2 : Int).toNat) := ⟨_, rfl⟩
 replace H : ((spec_DoActs.f k l0_0 y525).bind fun bt529 => (if bt529.2 < a2 then (some (([] : List (S45)), false)) else ((spec_LoseDisk.f k bt529.1 l3).bind fun bt534 => (some (bt534.1, bt534.2))))) = some (r1, r2) := by first | (rw [hy525]; with_reducible exact H) | (have H2_ := (Option.bind_some _ _).symm.trans H; rw [hy525]; with_reducible exact H2_) | (have H2_ := (Option.bind_some _ _).symm.trans H; with_reducible exact H2_) | with_reducible exact H | (rw [hy525]; exact H) | exact H
 have Ny525 := Aside0.mk hy525
 clear hy525
 replace H := Option.bind_eq_some_iff.mp H
 obtain ⟨⟨t529, t532⟩, A90, H⟩ := H
 replace H : (if t532 < a2 then (some (([] : List (S45)), false)) else ((spec_LoseDisk.f k t529 l3).bind fun bt534 => (some (bt534.1, bt534.2)))) = some (r1, r2) := H
 have A9 := Aside0.mk A90
 clear A90
 by_cases c10 : t532 < a2
 ·
  rw [if_pos c10] at H; have c10b0 : decide (t532 < a2) = true := decide_eq_true c10; clear c10; simp only [Option.some.injEq, Prod.mk.injEq] at H; obtain ⟨rfl, rfl⟩ := H
  go_enter Try.func46, Try.ntmps46
  try go_wp2_with (first | ((with_reducible refine gate_dst (N := 4) rfl ?_); refine bE 4 #[.slice A0_0 l0_0.length c0_0] 29 ?_; intro gb522 hg w11 hbox hb; have BK522 := Aside0.mk (hbox); have GW522 : Aside0 (w.heap.size ≤ gb522) := GS; have GE522 := GW522; replace HB := BS hb; clear hb hbox hg) | ((with_reducible refine gate_dst (N := 8) rfl ?_); refine bE 8 #[.slice none 0 0] 29 ?_; intro gb523 hg w12 hbox hb; have BK523 := Aside0.mk (hbox); have GW523 : Aside0 (w.heap.size ≤ gb523) := GS; have GE523 := GW523; have NB522_523 := NL BK522.out hg; have NB523_522 := NG BK522.out hg; replace BK522 := BB BK522.out hb; replace HB := BS hb; clear hb hbox hg) | ((with_reducible refine gate_callee (f := 49) rfl ?_); refine goesL_ (some 15) rfl rfl Try.func49 (by kernel_rfl) rfl #[.int .i64 a2, .int .i64 0, .int .i64 (l1.length : Int)] rfl (MA) ?_; (with_reducible refine (spec_l01In.calls a2 0 (l1.length : Int) true _ A5.out).mono ?_); rintro e w' ⟨rfl, ⟨nd, rfl⟩⟩; refine ⟨_, rfl, ?_⟩; (try (rw [drewN_self w12]; generalize hq_ : World.drewN w12 _ = w12; have n0_ : Aside0 (w12.heap[gb522]? = some (.cells #[.slice A0_0 l0_0.length c0_0] 29 (0, 0))) := ⟨by rw [← hq_]; exact (BQ BK522.out)⟩; have n1_ : Aside0 (w12.heap[gb523]? = some (.cells #[.slice none 0 0] 29 (0, 0))) := ⟨by rw [← hq_]; exact (BQ BK523.out)⟩; have n2_ : Aside0 (Below w.heap.size w w12) := ⟨by rw [← hq_]; exact (BL)⟩; clear BK522 BK523 HB hq_; have BK522 := n0_; have BK523 := n1_; have HB := n2_; clear n0_ n1_ n2_))))
  replace BK522 := BD BK522; replace BK523 := BD BK523; replace HB := Aside0.mk (below_drew1 HB.out); have q14 : (a2 : Int) ≤ ((l1.length : Int) : Int) := of_decide_eq_true AS; obtain ⟨i014, hi014, _, hsz14, _⟩ := info_parts info55; have hroom14 : l1.length ≤ c1 := HC1.out; have hC14 : Kd.C k55 _ A1 l1.length l1 := HR1.out; have hcut14 := cut_to (P := Try.prog) 62 55 .i64 Try.underlying62 hi014 A1 l1.length c1 a2 (of_decide_eq_true AS) q14 hroom14; have hr14 := Kd.C_take (m := (a2 : Int).toNat) hC14 (by omega); have hy14 : y525.length = (a2 : Int).toNat := (by rw [Ny525.out, List.length_take]; omega); rw [← Ny525.out] at hr14; rw [← hy14] at hcut14; have HR528 := Aside0.mk hr14; have HC528 := Aside0.mk (show y525.length ≤ c1 from by omega); clear hr14 hC14 hroom14 hi014 hsz14; have KY14 := Aside0.mk hy14; clear hy14; replace q14 := eq_true q14; refine start_ (n := 11) (S := fun w' => w'.cell? ⟨gb522, 0, none⟩ = some (.slice A0_0 l0_0.length c0_0)) (ds := []) #[false, false, false, false, false, false, false, false, false, false, false] (by kernel_rfl) rfl rfl (CZ BK522.out 0) (fun hHeld => ?_); refine with_tabW spec_CutActs.tab3 spec_CutActs.bits3 (fun HT_ HW_ => ?_); generalize w12.drew = w13 at BK522 BK523 HB HR528 hHeld ⊢; refine pV 1 20 (OB 11 2) ?_; refine pV 2 21 (OB 11 6) ?_; refine pV 3 22 (OB 11 14) ?_; refine take_ (i := 0) (N := some 19) (v := ?_) (a' := ?_) (OB 11 15) rfl rfl (take_ofW HT_.out HW_.out (by kernel_rfl)) (fun _ _ _ h => h) (Or.inl ⟨by rfl, ?_⟩) hHeld ?_ ?_; rotate_left
  ·
   intro w' s0
   go_simp
   with_reducible rfl
  rotate_left
  ·
   simp only [Act.put, zA, zB, zC, i64_w, i32_w]; rfl
  refine join_ (σ := Value × Nat) 2 #[true, true, true, true, true, true, true, true, true, false, false] (fun s_ => [(23, .tuple #[.agg #[s_.1], .int .i64 t532]), (10, .pointer (some ⟨s_.2, 0, none⟩)), (18, .tuple #[.agg #[s_.1], .int .i64 t532]), (24, .agg #[s_.1]), (25, .int .i64 t532)]) (fun s_ w' => (w'.cell? ⟨gb522, 0, none⟩ = some (.slice A0_0 l0_0.length c0_0)) ∧ (Kd.R k45 45 w' w.heap.size (fun _ => True) s_.1 t529) ∧ (w'.heap[gb522]? = some (.cells #[.slice A0_0 l0_0.length c0_0] 29 (0, 0))) ∧ (w'.heap[gb523]? = some (.cells #[.slice none 0 0] 29 (0, 0))) ∧ (w'.heap[s_.2]? = some (.cells #[.slice none 0 0] 29 (0, 0))) ∧ (w.heap.size ≤ s_.2) ∧ (w.heap.size ≤ s_.2) ∧ (gb522 ≠ s_.2) ∧ (s_.2 ≠ gb522) ∧ (gb523 ≠ s_.2) ∧ (s_.2 ≠ gb523) ∧ (Below w.heap.size w w')) ?_ ?_; rotate_left
  ·
   intro hCont; refine two_ (i := 4) (j := 8) (Ni := some 23) (Nj := some 10) #[true, true, true, true, true, false, false, false, false, false, false] #[true, true, true, true, false, false, false, false, true, false, false] rfl rfl rfl rfl (two_of HT_.out (by kernel_rfl)) (by decide) (by decide) (fun K hK => ?_) (fun K hK => ?_)
   ·
    skip
    refine goes_ Try.func39 (by kernel_rfl) rfl #[.agg #[.slice A0_0 l0_0.length c0_0], .slice A1 y525.length c1] (by rfl) rfl rfl (MA) ?_
    with_reducible refine (spec_DoActs.calls k _ _ l0_0 _ _ y525 t529 t532 _ ?side1 ?side2 ?side3 ?side4 A9.out).mono ?_
    (case side1 => exact CB HR0_0.out)
    (case side2 => exact HC0_0.out)
    (case side3 => exact CB HR528.out)
    (case side4 => exact HC528.out)
    rintro e w15 ⟨v530, rfl, ho0, hb⟩; refine ⟨_, rfl, ?_⟩; have n0_ := Aside0.mk (Kd.R_lower ho0 (below_size (BL))); have n1_ := BB BK522.out hb; have n2_ := BB BK523.out hb; have n3_ := Aside0.mk (below_step (BL) hb); clear BK522 BK523 HB; have HO531 := n0_; have BK522 := n1_; have BK523 := n2_; have HB := n3_; clear n0_ n1_ n2_ n3_
    (try clear hb)
    (try clear hb2)
    (try clear hk)
    (try clear hi)
    (try clear ho0)
    refine hK.out _ _ (CZ BK522.out 0) (fun hHeld => ?_); clear hK K; refine norm_ (a' := ?_) ?_ ?_; rotate_left
    ·
     show Act.put _ (some 23) _ = _; simp only [Act.put, zA, zB, zC, i64_w, i32_w]; rfl
    refine pV 5 18 (OB 11 63) ?_; refine pV 6 24 (OB 11 127) ?_; refine pV 7 25 (OB 11 255) ?_; refine one_ (i := 8) (N := some 10) (OB 11 511) rfl rfl (one_of HT_.out (by kernel_rfl)) (by decide) (fun K hK => ?_); refine box_step ?hg (N := 10) ?hd (cs := #[.slice none 0 0]) (t := 29) ?hr ?_; (case hd => rfl); (case hg => rfl); (case hr => first | (go_simp; done) | (go_simp; rfl)); intro gb533 hg w16 hbox hb; replace HO531 := RB HO531 hb; have n1_ := BB BK522.out hb; have n2_ := BB BK523.out hb; have n3_ := Aside0.mk (below_step (BL) hb); have BK533 := Aside0.mk (hbox); have GW533 : Aside0 (w.heap.size ≤ gb533) := GS; have GE533 : Aside0 (w.heap.size ≤ gb533) := GS; have NB522_533 := NL BK522.out hg; have NB533_522 := NG BK522.out hg; have NB523_533 := NL BK523.out hg; have NB533_523 := NG BK523.out hg; clear BK522 BK523 HB; have BK522 := n1_; have BK523 := n2_; have HB := n3_; clear n1_ n2_ n3_ hb hbox hg; refine hK.out _ _ (CZ BK522.out 0) (fun hHeld => ?_); clear hK K; refine norm_ (a' := ?_) ?_ ?_; rotate_left
    ·
     show Act.put _ (some 10) _ = _; simp only [Act.put, zA, zB, zC, i64_w, i32_w]; rfl
    exact norm_ (by simp only [putAll, Act.put, zA, zB, zC]) (hCont (v530, gb533) _ ⟨hHeld, (RQ HO531.out), (BQ BK522.out), (BQ BK523.out), (BQ BK533.out), GW533.out, GE533.out, NB522_533.out, NB533_522.out, NB523_533.out, NB533_523.out, (BL)⟩)
   ·
    skip
    refine box_step ?hg (N := 10) ?hd (cs := #[.slice none 0 0]) (t := 29) ?hr ?_; (case hd => rfl); (case hg => rfl); (case hr => first | (go_simp; done) | (go_simp; rfl)); intro gb533 hg w15 hbox hb; have n0_ := BB BK522.out hb; have n1_ := BB BK523.out hb; have n2_ := Aside0.mk (below_step (BL) hb); have BK533 := Aside0.mk (hbox); have GW533 : Aside0 (w.heap.size ≤ gb533) := GS; have GE533 : Aside0 (w.heap.size ≤ gb533) := GS; have NB522_533 := NL BK522.out hg; have NB533_522 := NG BK522.out hg; have NB523_533 := NL BK523.out hg; have NB533_523 := NG BK523.out hg; clear BK522 BK523 HB; have BK522 := n0_; have BK523 := n1_; have HB := n2_; clear n0_ n1_ n2_ hb hbox hg; refine hK.out _ _ (CZ BK522.out 0) (fun hHeld => ?_); clear hK K; refine norm_ (a' := ?_) ?_ ?_; rotate_left
    ·
     show Act.put _ (some 10) _ = _; simp only [Act.put, zA, zB, zC, i64_w, i32_w]; rfl
    refine one_ (i := 4) (N := some 23) (OB 11 287) rfl rfl (one_of HT_.out (by kernel_rfl)) (by decide) (fun K hK => ?_); refine goes_ Try.func39 (by kernel_rfl) rfl #[.agg #[.slice A0_0 l0_0.length c0_0], .slice A1 y525.length c1] (by rfl) rfl rfl (MA) ?_
    with_reducible refine (spec_DoActs.calls k _ _ l0_0 _ _ y525 t529 t532 _ ?side1 ?side2 ?side3 ?side4 A9.out).mono ?_
    (case side1 => exact CB HR0_0.out)
    (case side2 => exact HC0_0.out)
    (case side3 => exact CB HR528.out)
    (case side4 => exact HC528.out)
    rintro e w16 ⟨v530, rfl, ho0, hb⟩; refine ⟨_, rfl, ?_⟩; have n0_ := Aside0.mk (Kd.R_lower ho0 (below_size (BL))); have n1_ := BB BK522.out hb; have n2_ := BB BK523.out hb; have n3_ := BB BK533.out hb; have n4_ := Aside0.mk (below_step (BL) hb); clear BK522 BK523 BK533 HB; have HO531 := n0_; have BK522 := n1_; have BK523 := n2_; have BK533 := n3_; have HB := n4_; clear n0_ n1_ n2_ n3_ n4_
    (try clear hb)
    (try clear hb2)
    (try clear hk)
    (try clear hi)
    (try clear ho0)
    refine hK.out _ _ (CZ BK522.out 0) (fun hHeld => ?_); clear hK K; refine norm_ (a' := ?_) ?_ ?_; rotate_left
    ·
     show Act.put _ (some 23) _ = _; simp only [Act.put, zA, zB, zC, i64_w, i32_w]; rfl
    refine pV 5 18 (OB 11 319) ?_; refine pV 6 24 (OB 11 383) ?_; refine pV 7 25 (OB 11 511) ?_; exact norm_ (by simp only [putAll, Act.put, zA, zB, zC]) (hCont (v530, gb533) _ ⟨hHeld, (RQ HO531.out), (BQ BK522.out), (BQ BK523.out), (BQ BK533.out), GW533.out, GE533.out, NB522_533.out, NB533_522.out, NB523_533.out, NB533_523.out, (BL)⟩)
  rintro ⟨v530, gb533⟩ w17 ⟨hS_, h0_, h1_, h2_, h3_, h4_, h5_, h6_, h7_, h8_, h9_, h10_⟩; have HO531 : Aside0 (Kd.R k45 45 w17 w.heap.size (fun _ => True) v530 t529) := ⟨h0_⟩; replace BK522 : Aside0 (w17.heap[gb522]? = some (.cells #[.slice A0_0 l0_0.length c0_0] 29 (0, 0))) := ⟨h1_⟩; replace BK523 : Aside0 (w17.heap[gb523]? = some (.cells #[.slice none 0 0] 29 (0, 0))) := ⟨h2_⟩; have BK533 : Aside0 (w17.heap[gb533]? = some (.cells #[.slice none 0 0] 29 (0, 0))) := ⟨h3_⟩; have GW533 : Aside0 (w.heap.size ≤ gb533) := ⟨h4_⟩; have GE533 : Aside0 (w.heap.size ≤ gb533) := ⟨h5_⟩; have NB522_533 : Aside0 (gb522 ≠ gb533) := ⟨h6_⟩; have NB533_522 : Aside0 (gb533 ≠ gb522) := ⟨h7_⟩; have NB523_533 : Aside0 (gb523 ≠ gb533) := ⟨h8_⟩; have NB533_523 : Aside0 (gb533 ≠ gb523) := ⟨h9_⟩; replace HB : Aside0 (Below w.heap.size w w17) := ⟨h10_⟩; clear h0_ h1_ h2_ h3_ h4_ h5_ h6_ h7_ h8_ h9_ h10_; have hHeld : w17.cell? ⟨gb522, 0, none⟩ = some (.slice A0_0 l0_0.length c0_0) := hS_; obtain ⟨Ao18, co18, eo18⟩ := Kd.R_slice HO531.out
  (first | subst eo18 | (injection eo18 with f1_ f2_ f3_; have f4_ := f1_.symm; have f5_ := f3_.symm; clear f1_ f2_ f3_; subst f4_; subst f5_))
  refine norm_ (a' := ?_) ?_ ?_; rotate_left
  ·
   simp only [putAll, Act.put, zA, zB, zC]; rfl
  refine one_ (i := 9) (N := none) (OB 11 1023) rfl rfl (one_of HT_.out (by kernel_rfl)) (by decide) (fun K hK => ?_); have hs19 : w17.cell? ⟨gb533, 0, none⟩ = some (.slice none 0 0) := CZ BK533.out 0; have hfs19 := blk_frozen BK533.out 0; have hns19_0 := NB522_533.out; have hns19_1 := NB523_533.out; have hms19_0 := NB533_522.out; have hms19_1 := NB533_523.out; refine skip_ (w1 := ?_) (by rfl) rfl ?_ ?_; rotate_left
  ·
   go_simp
   rfl
  refine hK.out _ _ (((cell_far (p := ⟨gb533, _, none⟩) NB522_533.out _).trans (hHeld))) (fun hHeld => ?_); clear hK K; refine pV 10 11 (OB 11 2047) ?_; refine done_ (done_of HT_.out (by kernel_rfl)) ?_; obtain ⟨hnb20, hnc20⟩ := NN NB523_522.out; obtain ⟨hnb21, hnc21⟩ := NN NB523_533.out; obtain ⟨hcz22_0, hfz22_0⟩ := KC1 BK523.out
  try go_wp2
  refine bodyPost_ret (results_ct rfl _ _ gb523 29 #[.slice none 0 0] (0, 0) _ rfl (BU BK523.out) Try.underlying29 rfl (by kernel_rfl)) rfl ?_; exact ⟨_, EE, by first | exact Kd.R_nil _ _ _ _ _ | exact Kd.N_nil _ _ _ _ _ | exact Kd.V_nil _ _ _ _ _ | exact Kd.Q_nil _ _ _ _ _ | exact Kd.S_nil _ _ _ _ _, BL⟩
 rw [if_neg c10] at H
 have c10b0 : decide (t532 < a2) = false := decide_eq_false c10
 clear c10
 replace H := Option.bind_eq_some_iff.mp H
 obtain ⟨⟨t534, t537⟩, A230, H⟩ := H
 replace H : (some (t534, t537)) = some (r1, r2) := H
 have A23 := Aside0.mk A230
 clear A230
 simp only [Option.some.injEq, Prod.mk.injEq] at H
 obtain ⟨rfl, rfl⟩ := H
 go_enter Try.func46, Try.ntmps46
 try go_wp2_with (first | ((with_reducible refine gate_dst (N := 4) rfl ?_); refine bE 4 #[.slice A0_0 l0_0.length c0_0] 29 ?_; intro gb522 hg w24 hbox hb; have BK522 := Aside0.mk (hbox); have GW522 : Aside0 (w.heap.size ≤ gb522) := GS; have GE522 := GW522; replace HB := BS hb; clear hb hbox hg) | ((with_reducible refine gate_dst (N := 8) rfl ?_); refine bE 8 #[.slice none 0 0] 29 ?_; intro gb523 hg w25 hbox hb; have BK523 := Aside0.mk (hbox); have GW523 : Aside0 (w.heap.size ≤ gb523) := GS; have GE523 := GW523; have NB522_523 := NL BK522.out hg; have NB523_522 := NG BK522.out hg; replace BK522 := BB BK522.out hb; replace HB := BS hb; clear hb hbox hg) | ((with_reducible refine gate_callee (f := 49) rfl ?_); refine goesL_ (some 15) rfl rfl Try.func49 (by kernel_rfl) rfl #[.int .i64 a2, .int .i64 0, .int .i64 (l1.length : Int)] rfl (MA) ?_; (with_reducible refine (spec_l01In.calls a2 0 (l1.length : Int) true _ A5.out).mono ?_); rintro e w' ⟨rfl, ⟨nd, rfl⟩⟩; refine ⟨_, rfl, ?_⟩; (try (rw [drewN_self w25]; generalize hq_ : World.drewN w25 _ = w25; have n0_ : Aside0 (w25.heap[gb522]? = some (.cells #[.slice A0_0 l0_0.length c0_0] 29 (0, 0))) := ⟨by rw [← hq_]; exact (BQ BK522.out)⟩; have n1_ : Aside0 (w25.heap[gb523]? = some (.cells #[.slice none 0 0] 29 (0, 0))) := ⟨by rw [← hq_]; exact (BQ BK523.out)⟩; have n2_ : Aside0 (Below w.heap.size w w25) := ⟨by rw [← hq_]; exact (BL)⟩; clear BK522 BK523 HB hq_; have BK522 := n0_; have BK523 := n1_; have HB := n2_; clear n0_ n1_ n2_))))
 replace BK522 := BD BK522
 replace BK523 := BD BK523
 replace HB := Aside0.mk (below_drew1 HB.out)
 have q27 : (a2 : Int) ≤ ((l1.length : Int) : Int) := of_decide_eq_true AS
 obtain ⟨i027, hi027, _, hsz27, _⟩ := info_parts info55
 have hroom27 : l1.length ≤ c1 := HC1.out
 have hC27 : Kd.C k55 _ A1 l1.length l1 := HR1.out
 have hcut27 := cut_to (P := Try.prog) 62 55 .i64 Try.underlying62 hi027 A1 l1.length c1 a2 (of_decide_eq_true AS) q27 hroom27
 have hr27 := Kd.C_take (m := (a2 : Int).toNat) hC27 (by omega)
 have hy27 : y525.length = (a2 : Int).toNat := (by rw [Ny525.out, List.length_take]; omega)
 rw [← Ny525.out] at hr27
 rw [← hy27] at hcut27
 have HR528 := Aside0.mk hr27
 have HC528 := Aside0.mk (show y525.length ≤ c1 from by omega)
 clear hr27 hC27 hroom27 hi027 hsz27
 have KY27 := Aside0.mk hy27
 clear hy27
 replace q27 := eq_true q27
 refine start_ (n := 11) (S := fun w' => w'.cell? ⟨gb522, 0, none⟩ = some (.slice A0_0 l0_0.length c0_0)) (ds := []) #[false, false, false, false, false, false, false, false, false, false, false] (by kernel_rfl) rfl rfl (CZ BK522.out 0) (fun hHeld => ?_); refine with_tabW spec_CutActs.tab3 spec_CutActs.bits3 (fun HT_ HW_ => ?_)
 generalize w25.drew = w26 at BK522 BK523 HB HR528 hHeld ⊢
 refine pV 1 20 (OB 11 2) ?_
 refine pV 2 21 (OB 11 6) ?_
 refine pV 3 22 (OB 11 14) ?_
 refine take_ (i := 0) (N := some 19) (v := ?_) (a' := ?_) (OB 11 15) rfl rfl (take_ofW HT_.out HW_.out (by kernel_rfl)) (fun _ _ _ h => h) (Or.inl ⟨by rfl, ?_⟩) hHeld ?_ ?_
 rotate_left
 ·
  intro w' s0
  go_simp
  with_reducible rfl
 rotate_left
 ·
  simp only [Act.put, zA, zB, zC, i64_w, i32_w]; rfl
 refine join_ (σ := Value × Nat) 2 #[true, true, true, true, true, true, true, true, true, false, false] (fun s_ => [(23, .tuple #[.agg #[s_.1], .int .i64 t532]), (10, .pointer (some ⟨s_.2, 0, none⟩)), (18, .tuple #[.agg #[s_.1], .int .i64 t532]), (24, .agg #[s_.1]), (25, .int .i64 t532)]) (fun s_ w' => (w'.cell? ⟨gb522, 0, none⟩ = some (.slice A0_0 l0_0.length c0_0)) ∧ (Kd.R k45 45 w' w.heap.size (fun _ => True) s_.1 t529) ∧ (w'.heap[gb522]? = some (.cells #[.slice A0_0 l0_0.length c0_0] 29 (0, 0))) ∧ (w'.heap[gb523]? = some (.cells #[.slice none 0 0] 29 (0, 0))) ∧ (w'.heap[s_.2]? = some (.cells #[.slice none 0 0] 29 (0, 0))) ∧ (w.heap.size ≤ s_.2) ∧ (w.heap.size ≤ s_.2) ∧ (gb522 ≠ s_.2) ∧ (s_.2 ≠ gb522) ∧ (gb523 ≠ s_.2) ∧ (s_.2 ≠ gb523) ∧ (Below w.heap.size w w')) ?_ ?_
 rotate_left
 ·
  intro hCont; refine two_ (i := 4) (j := 8) (Ni := some 23) (Nj := some 10) #[true, true, true, true, true, false, false, false, false, false, false] #[true, true, true, true, false, false, false, false, true, false, false] rfl rfl rfl rfl (two_of HT_.out (by kernel_rfl)) (by decide) (by decide) (fun K hK => ?_) (fun K hK => ?_)
  ·
   skip
   refine goes_ Try.func39 (by kernel_rfl) rfl #[.agg #[.slice A0_0 l0_0.length c0_0], .slice A1 y525.length c1] (by rfl) rfl rfl (MA) ?_
   with_reducible refine (spec_DoActs.calls k _ _ l0_0 _ _ y525 t529 t532 _ ?side1 ?side2 ?side3 ?side4 A9.out).mono ?_
   (case side1 => exact CB HR0_0.out)
   (case side2 => exact HC0_0.out)
   (case side3 => exact CB HR528.out)
   (case side4 => exact HC528.out)
   rintro e w28 ⟨v530, rfl, ho0, hb⟩; refine ⟨_, rfl, ?_⟩; have n0_ := Aside0.mk (Kd.R_lower ho0 (below_size (BL))); have n1_ := BB BK522.out hb; have n2_ := BB BK523.out hb; have n3_ := Aside0.mk (below_step (BL) hb); clear BK522 BK523 HB; have HO531 := n0_; have BK522 := n1_; have BK523 := n2_; have HB := n3_; clear n0_ n1_ n2_ n3_
   (try clear hb)
   (try clear hb2)
   (try clear hk)
   (try clear hi)
   (try clear ho0)
   refine hK.out _ _ (CZ BK522.out 0) (fun hHeld => ?_); clear hK K; refine norm_ (a' := ?_) ?_ ?_; rotate_left
   ·
    show Act.put _ (some 23) _ = _; simp only [Act.put, zA, zB, zC, i64_w, i32_w]; rfl
   refine pV 5 18 (OB 11 63) ?_; refine pV 6 24 (OB 11 127) ?_; refine pV 7 25 (OB 11 255) ?_; refine one_ (i := 8) (N := some 10) (OB 11 511) rfl rfl (one_of HT_.out (by kernel_rfl)) (by decide) (fun K hK => ?_); refine box_step ?hg (N := 10) ?hd (cs := #[.slice none 0 0]) (t := 29) ?hr ?_; (case hd => rfl); (case hg => rfl); (case hr => first | (go_simp; done) | (go_simp; rfl)); intro gb533 hg w29 hbox hb; replace HO531 := RB HO531 hb; have n1_ := BB BK522.out hb; have n2_ := BB BK523.out hb; have n3_ := Aside0.mk (below_step (BL) hb); have BK533 := Aside0.mk (hbox); have GW533 : Aside0 (w.heap.size ≤ gb533) := GS; have GE533 : Aside0 (w.heap.size ≤ gb533) := GS; have NB522_533 := NL BK522.out hg; have NB533_522 := NG BK522.out hg; have NB523_533 := NL BK523.out hg; have NB533_523 := NG BK523.out hg; clear BK522 BK523 HB; have BK522 := n1_; have BK523 := n2_; have HB := n3_; clear n1_ n2_ n3_ hb hbox hg; refine hK.out _ _ (CZ BK522.out 0) (fun hHeld => ?_); clear hK K; refine norm_ (a' := ?_) ?_ ?_; rotate_left
   ·
    show Act.put _ (some 10) _ = _; simp only [Act.put, zA, zB, zC, i64_w, i32_w]; rfl
   exact norm_ (by simp only [putAll, Act.put, zA, zB, zC]) (hCont (v530, gb533) _ ⟨hHeld, (RQ HO531.out), (BQ BK522.out), (BQ BK523.out), (BQ BK533.out), GW533.out, GE533.out, NB522_533.out, NB533_522.out, NB523_533.out, NB533_523.out, (BL)⟩)
  ·
   skip
   refine box_step ?hg (N := 10) ?hd (cs := #[.slice none 0 0]) (t := 29) ?hr ?_; (case hd => rfl); (case hg => rfl); (case hr => first | (go_simp; done) | (go_simp; rfl)); intro gb533 hg w28 hbox hb; have n0_ := BB BK522.out hb; have n1_ := BB BK523.out hb; have n2_ := Aside0.mk (below_step (BL) hb); have BK533 := Aside0.mk (hbox); have GW533 : Aside0 (w.heap.size ≤ gb533) := GS; have GE533 : Aside0 (w.heap.size ≤ gb533) := GS; have NB522_533 := NL BK522.out hg; have NB533_522 := NG BK522.out hg; have NB523_533 := NL BK523.out hg; have NB533_523 := NG BK523.out hg; clear BK522 BK523 HB; have BK522 := n0_; have BK523 := n1_; have HB := n2_; clear n0_ n1_ n2_ hb hbox hg; refine hK.out _ _ (CZ BK522.out 0) (fun hHeld => ?_); clear hK K; refine norm_ (a' := ?_) ?_ ?_; rotate_left
   ·
    show Act.put _ (some 10) _ = _; simp only [Act.put, zA, zB, zC, i64_w, i32_w]; rfl
   refine one_ (i := 4) (N := some 23) (OB 11 287) rfl rfl (one_of HT_.out (by kernel_rfl)) (by decide) (fun K hK => ?_); refine goes_ Try.func39 (by kernel_rfl) rfl #[.agg #[.slice A0_0 l0_0.length c0_0], .slice A1 y525.length c1] (by rfl) rfl rfl (MA) ?_
   with_reducible refine (spec_DoActs.calls k _ _ l0_0 _ _ y525 t529 t532 _ ?side1 ?side2 ?side3 ?side4 A9.out).mono ?_
   (case side1 => exact CB HR0_0.out)
   (case side2 => exact HC0_0.out)
   (case side3 => exact CB HR528.out)
   (case side4 => exact HC528.out)
   rintro e w29 ⟨v530, rfl, ho0, hb⟩; refine ⟨_, rfl, ?_⟩; have n0_ := Aside0.mk (Kd.R_lower ho0 (below_size (BL))); have n1_ := BB BK522.out hb; have n2_ := BB BK523.out hb; have n3_ := BB BK533.out hb; have n4_ := Aside0.mk (below_step (BL) hb); clear BK522 BK523 BK533 HB; have HO531 := n0_; have BK522 := n1_; have BK523 := n2_; have BK533 := n3_; have HB := n4_; clear n0_ n1_ n2_ n3_ n4_
   (try clear hb)
   (try clear hb2)
   (try clear hk)
   (try clear hi)
   (try clear ho0)
   refine hK.out _ _ (CZ BK522.out 0) (fun hHeld => ?_); clear hK K; refine norm_ (a' := ?_) ?_ ?_; rotate_left
   ·
    show Act.put _ (some 23) _ = _; simp only [Act.put, zA, zB, zC, i64_w, i32_w]; rfl
   refine pV 5 18 (OB 11 319) ?_; refine pV 6 24 (OB 11 383) ?_; refine pV 7 25 (OB 11 511) ?_; exact norm_ (by simp only [putAll, Act.put, zA, zB, zC]) (hCont (v530, gb533) _ ⟨hHeld, (RQ HO531.out), (BQ BK522.out), (BQ BK523.out), (BQ BK533.out), GW533.out, GE533.out, NB522_533.out, NB533_522.out, NB523_533.out, NB533_523.out, (BL)⟩)
 rintro ⟨v530, gb533⟩ w30 ⟨hS_, h0_, h1_, h2_, h3_, h4_, h5_, h6_, h7_, h8_, h9_, h10_⟩
 have n0_ : Aside0 (Kd.R k45 45 w30 w.heap.size (fun _ => True) v530 t529) := ⟨h0_⟩
 have n1_ : Aside0 (w30.heap[gb522]? = some (.cells #[.slice A0_0 l0_0.length c0_0] 29 (0, 0))) := ⟨h1_⟩
 have n2_ : Aside0 (w30.heap[gb523]? = some (.cells #[.slice none 0 0] 29 (0, 0))) := ⟨h2_⟩
 have n3_ : Aside0 (w30.heap[gb533]? = some (.cells #[.slice none 0 0] 29 (0, 0))) := ⟨h3_⟩
 have n4_ : Aside0 (w.heap.size ≤ gb533) := ⟨h4_⟩
 have n5_ : Aside0 (w.heap.size ≤ gb533) := ⟨h5_⟩
 have n6_ : Aside0 (gb522 ≠ gb533) := ⟨h6_⟩
 have n7_ : Aside0 (gb533 ≠ gb522) := ⟨h7_⟩
 have n8_ : Aside0 (gb523 ≠ gb533) := ⟨h8_⟩
 have n9_ : Aside0 (gb533 ≠ gb523) := ⟨h9_⟩
 have n10_ : Aside0 (Below w.heap.size w w30) := ⟨h10_⟩
 clear BK522 BK523 HB h0_ h1_ h2_ h3_ h4_ h5_ h6_ h7_ h8_ h9_ h10_
 have HO531 := n0_
 have BK522 := n1_
 have BK523 := n2_
 have BK533 := n3_
 have GW533 := n4_
 have GE533 := n5_
 have NB522_533 := n6_
 have NB533_522 := n7_
 have NB523_533 := n8_
 have NB533_523 := n9_
 have HB := n10_
 clear n0_ n1_ n2_ n3_ n4_ n5_ n6_ n7_ n8_ n9_ n10_
 have hHeld : w30.cell? ⟨gb522, 0, none⟩ = some (.slice A0_0 l0_0.length c0_0) := hS_
 obtain ⟨Ao31, co31, eo31⟩ := Kd.R_slice HO531.out
 (first | subst eo31 | (injection eo31 with f1_ f2_ f3_; have f4_ := f1_.symm; have f5_ := f3_.symm; clear f1_ f2_ f3_; subst f4_; subst f5_))
 refine norm_ (a' := ?_) ?_ ?_
 rotate_left
 ·
  simp only [putAll, Act.put, zA, zB, zC]; rfl
 refine one_ (i := 9) (N := none) (OB 11 1023) rfl rfl (one_of HT_.out (by kernel_rfl)) (by decide) (fun K hK => ?_)
 have hs32 : w30.cell? ⟨gb533, 0, none⟩ = some (.slice none 0 0) := CZ BK533.out 0
 have hfs32 := blk_frozen BK533.out 0
 have hns32_0 := NB522_533.out
 have hns32_1 := NB523_533.out
 have hms32_0 := NB533_522.out
 have hms32_1 := NB533_523.out
 refine skip_ (w1 := ?_) (by rfl) rfl ?_ ?_
 rotate_left
 ·
  go_simp
  rfl
 refine hK.out _ _ (((cell_far (p := ⟨gb533, _, none⟩) NB522_533.out _).trans (hHeld))) (fun hHeld => ?_)
 clear hK K
 refine pV 10 11 (OB 11 2047) ?_
 refine done_ (done_of HT_.out (by kernel_rfl)) ?_
 obtain ⟨hnb33, hnc33⟩ := NN NB533_522.out
 obtain ⟨hnb34, hnc34⟩ := NN NB533_523.out
 obtain ⟨hcz35_0, hfz35_0⟩ := KC1 BK533.out
 try go_wp2_with (first | ((with_reducible refine gate_callee (f := 28) rfl ?_); refine goesL_ (some 32) rfl rfl Try.func28 (by kernel_rfl) rfl #[.agg #[.slice Ao31 t529.length co31], .slice A3 l3.length c3] rfl (MA) ?_; (with_reducible refine (spec_LoseDisk.calls k _ _ t529 _ _ l3 t534 t537 _ ?side1 ?side2 ?side3 ?side4 A23.out).mono ?_); (case side1 => refine (Kd.R_reads' (e := 45) (base := w.heap.size) (ok := fun k_ => True) (n := t529.length) (c := co31) ?_).2.2; exact (RF HO531.out BK533.out)); (case side2 => exact (Kd.R_reads' HO531.out).2.1); (case side3 => exact Kd.C_below HR3.out (BL)); (case side4 => exact HC3.out); rintro e w36 ⟨v535, rfl, ho0, hb⟩; refine ⟨_, rfl, ?_⟩; have HO536 := Aside0.mk (Kd.R_lower (Kd.R_new' ho0 (Kd.R_lt (RF HO531.out BK533.out))) (below_size (BL))); replace HO531 := Aside0.mk (Kd.R_elder' (RF HO531.out BK533.out) (Kd.R_base ho0) hb); replace BK522 := BX BK522.out hb; replace BK523 := BX BK523.out hb; replace BK533 := Aside0.mk (blk_below (g := gb533) (o := .cells #[.slice Ao31 t529.length co31] 29 (0, 0)) (BU BK533.out) hb); replace HB := BS hb; (try clear hb); (try clear ho0); obtain ⟨Ao37, co37, eo37⟩ := Kd.R_slice HO536.out; subst eo37; obtain ⟨hnb38, hnc38⟩ := NN NB523_522.out; obtain ⟨hcz39_0, hfz39_0⟩ := KC1 BK523.out))
 refine bodyPost_ret (results_ct rfl _ _ gb523 29 #[.slice Ao37 t534.length co37] (0, 0) _ rfl (BU BK523.out) Try.underlying29 rfl (by kernel_rfl)) rfl ?_
 exact ⟨_, EE, by (with_reducible repeat (first | apply r1 | apply r2 | apply r3)); exact Kd.R_mono (Kd.R_far (p := ⟨gb523, 0, none⟩) (Kd.R_types HO536.out BK523.out (by decide)) (fun _ hk => hk.2) (.slice Ao37 t534.length co37)) (fun _ hk => trivial), BL⟩

end Go.Proofs.Ythfppepnpngfmaa.Qac
