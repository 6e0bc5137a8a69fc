-- Laid by myprint.py, a program of this session's own, over the kit's print. Not trusted: Lean checks it.
import Derived.Test.YthfppepnpngfmaaQacx0
import Derived.Test.YthfppepnpngfmaaQacx3
namespace Go.Proofs.Ythfppepnpngfmaa.Qac
open Go.RowKit Go.Proofs.YthfppepnpngfmaaW.PrintWords Go.Proofs.YthfppepnpngfmaaW.PrintLast Go.Proofs.YthfppepnpngfmaaW.PrintMore
attribute [local go_sem] Go.Proofs.Ythfppepnpngfmaa.StrCmp.gtr_less Go.Proofs.Ythfppepnpngfmaa.StrCmp.geq_less Go.Proofs.Ythfppepnpngfmaa.StrCmp.leq_less max2_int min2_int max_two min_two max_three min_three max_four min_four   -- for this text's walks alone
set_option linter.unusedVariables false
set_option linter.unusedSimpArgs false

/-! ### spec_DiskOk: function 13 -/
def spec_DiskOk.l0 : Nat → Int → List (S45) → Option (Bool)
 | 0, _, _ => none
 | k + 1, x3, x158000 => if x3 < (x158000.length : Int) then (if 0 ≤ x3 then ((spec_l03Name.f ((rd_T45 x158000 x3).f0)).bind fun t160 => (if t160 = true then (if (((rd_T45 x158000 x3).f1).size : Int) > 20000 then (some false) else ((spec_l01In.f ((rd_T45 x158000 x3).f2) 0 (((rd_T45 x158000 x3).f1).size : Int)).bind fun t161 => (if t161 = true then (if x3 > 0 then (if 0 ≤ (wrap64 (x3 - 1)) then (if (wrap64 (x3 - 1)) < (x158000.length : Int) then (if ((Op.bytesLess (((rd_T45 x158000 (wrap64 (x3 - 1))).f0).toList) (((rd_T45 x158000 x3).f0).toList)) = true) then (spec_DiskOk.l0 k (wrap64 (x3 + 1)) x158000) else (some false)) else (none)) else (none)) else (spec_DiskOk.l0 k (wrap64 (x3 + 1)) x158000)) else (some false)))) else (some false))) else (none)) else (some true)
def spec_DiskOk.f (k : Nat) (l0_0 : List (S45)) : Option (Bool) := if (l0_0.length : Int) > 30 then (some false) else (spec_DiskOk.l0 k 0 l0_0)
def spec_DiskOk.T7 : Bool × List (List Nat × List Nat) := (true, [([], []), ([0], [0]), ([1], [1]), ([2], [2]), ([3, 2], [3]), ([4], [4]), ([5, 4], [4, 5]), ([6, 4], [4, 6]), ([7, 4], [4, 7]), ([4, 8], [4, 8]), ([9, 4], [9]), ([10], [10]), ([11, 10], [10, 11]), ([10], [10]), ([13, 10], [10, 13]), ([14, 10], [10, 14]), ([12, 15, 10, 10], [10, 12, 15]), ([16, 10], [10, 16]), ([10, 17], [10, 17]), ([18, 16], [18]), ([19], [19]), ([20, 19], [19, 20]), ([21, 19, 19], [19, 21]), ([22], [22]), ([23, 22], [22, 23]), ([22], [22]), ([25, 22], [22, 25]), ([24, 26, 22], [22, 24, 26]), ([27, 22], [22, 27]), ([28, 22], [22, 28]), ([22], [22]), ([30, 22], [22, 30]), ([29, 31, 22], [22, 29, 31]), ([22, 32, 19], [19, 22, 32]), ([19, 33], [19, 33])])
def spec_DiskOk.B7 : List Nat := [0, 1, 3, 7, 15, 31, 63, 127, 255, 511, 1023, 2047, 4095, 2047, 10239, 26623, 65535, 131071, 262143, 524287, 1048575, 2097151, 4194303, 8388607, 16777215, 8388607, 41943039, 134217727, 268435455, 536870911, 8388607, 1082130431, 4294967295, 8589934591, 17179869183]
theorem spec_DiskOk.tab7 : rtab .any (opsOf Try.f13 7) = spec_DiskOk.T7 := by kernel_rfl
theorem spec_DiskOk.bits7 : waitsOk spec_DiskOk.T7.2 spec_DiskOk.B7 = true := by kernel_rfl
set_option maxHeartbeats 8000000 in
set_option maxRecDepth 100000 in
theorem spec_DiskOk.calls (k : Nat) (A0_0 : Option Addr) (c0_0 : Nat) (l0_0 : List (S45)) (r : Bool) (w : World) (hr0_0 : Kd.C k45 w A0_0 l0_0.length l0_0) (hc0_0 : l0_0.length ≤ c0_0) (h : spec_DiskOk.f k l0_0 = some r) :
  Calls Try.prog 13 #[.agg #[.slice A0_0 l0_0.length c0_0]] w fun e w' => e = .returned (.bool r) ∧ Below w.heap.size w w' := by
 have hu29 := Try.underlying29
 have hu45 := Try.underlying45
 have HR0_0 := Aside0.mk hr0_0
 have HC0_0 := Aside0.mk hc0_0
 clear hr0_0 hc0_0
 have HB := Aside0.mk (Below.refl w.heap.size w)
 have H : (if (l0_0.length : Int) > 30 then (some false) else (spec_DiskOk.l0 k 0 l0_0)) = some r := h
 clear h
 by_cases c2 : (l0_0.length : Int) > 30
 ·
  rw [if_pos c2] at H; have c2b0 : decide (30 < (l0_0.length : Int)) = true := decide_eq_true c2; have c2b1 : decide (30 < l0_0.length) = true := decide_eq_true (by omega); clear c2; obtain rfl := Option.some.inj H
  go_enter Try.func13, Try.ntmps13
  go_wp2_with (first | ((with_reducible refine gate_dst (N := 1) rfl ?_); (try (refine gate_guard (by rfl) ?_; dsimp only)); refine bE 1 #[.slice A0_0 l0_0.length c0_0] 29 ?_; intro gb157 hg w3 hbox hb; have BK157 := Aside0.mk (hbox); have GW157 : Aside0 (w.heap.size ≤ gb157) := GS; have GE157 := GW157; replace HB := BS hb; clear hb hbox hg; obtain ⟨hcz4_0, hfz4_0⟩ := KC1 BK157.out))
  go_ret
  exact ⟨EE, BL⟩
 rw [if_neg c2] at H
 have c2b0 : decide (30 < (l0_0.length : Int)) = false := decide_eq_false c2
 have c2b1 : decide (30 < l0_0.length) = false := decide_eq_false (by omega)
 clear c2
 have H' := Aside0.mk H
 clear H
 go_enter Try.func13, Try.ntmps13
 go_wp2_with (first | ((with_reducible refine gate_dst (N := 1) rfl ?_); (try (refine gate_guard (by rfl) ?_; dsimp only)); refine bE 1 #[.slice A0_0 l0_0.length c0_0] 29 ?_; intro gb157 hg w5 hbox hb; have BK157 := Aside0.mk (hbox); have GW157 : Aside0 (w.heap.size ≤ gb157) := GS; have GE157 := GW157; replace HB := BS hb; clear hb hbox hg; obtain ⟨hcz6_0, hfz6_0⟩ := KC1 BK157.out))
 go_loopg [3] k (fun kq v3 w' => ∃ (x3_1 : Int), v3 = .int .i64 x3_1 ∧ Aside0 (spec_DiskOk.l0 kq x3_1 l0_0 = some r) ∧ Aside0 (kq ≤ k) ∧ Aside0 (w'.heap[gb157]? = some (.cells #[(.slice A0_0 l0_0.length c0_0)] 29 (0, 0))) ∧ Aside0 (Below w.heap.size w w'))
 case atStart => exact ⟨(0), SD, H', ⟨Nat.le_refl _⟩, ⟨BQ BK157.out⟩, ⟨BL⟩⟩
 case round =>
  clear H'
  try clear c1 c2 c2b0 c2b1 p2 hcz4_0 hcz6_0 hfz4_0 hfz6_0
  obtain ⟨x3_1, rfl, HA, HK1, BK157, HB⟩ := hrel; cases gk with
  | zero => exact absurd HA.out (by simp [spec_DiskOk.l0])
  | succ k1 =>
   have H := HA.out; clear HA; simp only [spec_DiskOk.l0] at H
   by_cases c7 : x3_1 < (l0_0.length : Int); rotate_left
   ·
    rw [if_neg c7] at H; have c7b0 : decide (x3_1 < (l0_0.length : Int)) = false := decide_eq_false c7; clear c7; obtain rfl := Option.some.inj H; obtain ⟨hcz55_0, hfz55_0⟩ := KC1 BK157.out
    go_wp2
    go_ret
    exact ⟨EE, BL⟩
   rw [if_pos c7] at H; have c7b0 : decide (x3_1 < (l0_0.length : Int)) = true := decide_eq_true c7; clear c7
   by_cases c8 : 0 ≤ x3_1; rotate_left
   ·
    rw [if_neg c8] at H; exact absurd H (by simp)
   rw [if_pos c8] at H; have c8b0 : decide (0 ≤ x3_1) = true := decide_eq_true c8; clear c8; replace H := Option.bind_eq_some_iff.mp H; obtain ⟨t160, A90, H⟩ := H; have A9 := Aside0.mk A90; clear A90
   by_cases c10 : t160 = true; rotate_left
   ·
    replace c10 := Bool.eq_false_iff.mpr c10; subst c10
    rw [if_neg (show ¬ (false = true) by decide)] at H; obtain rfl := Option.some.inj H; obtain ⟨hcz49_0, hfz49_0⟩ := KC1 BK157.out; have p158 : 0 ≤ (x3_1 : Int) := of_decide_eq_true AS; have q158 : x3_1 < (l0_0.length : Int) := of_decide_eq_true AS; obtain ⟨ad158, e158, hx158_0, hx158_1, hx158_2⟩ := at_T45 HR0_0.out x3_1 p158 q158; cases e158; replace hx158_0 := HX hx158_0; replace hx158_1 := HX hx158_1; replace hx158_2 := HX hx158_2; replace p158 := eq_true p158; replace q158 := eq_true q158
    try go_wp2_with (first | ((with_reducible refine gate_dst (N := 4) rfl ?_); (try (refine gate_guard (by rfl) ?_; dsimp only)); refine bE 4 #[.string (⟨#[]⟩ : ByteArray), .string (⟨#[]⟩ : ByteArray), .int .i64 0] 45 ?_; intro gb159 hg w50 hbox hb; have BK159 := Aside0.mk (hbox); have GW159 : Aside0 (w.heap.size ≤ gb159) := GS; have GE159 := GW159; have NB157_159 := NL BK157.out hg; have NB159_157 := NG BK157.out hg; replace BK157 := BB BK157.out hb; replace HB := BS hb; clear hb hbox hg; obtain ⟨hnb51, hnc51⟩ := NN NB159_157.out; obtain ⟨hcz52_0, hcz52_1, hcz52_2, hfz52_0, hfz52_1, hfz52_2⟩ := KC3 BK159.out))
    have n0_ : Aside0 ((((w50.setCell ⟨gb159, 0, none⟩ (.string ((rd_T45 l0_0 x3_1).f0))).setCell ⟨gb159, 1, none⟩ (.string ((rd_T45 l0_0 x3_1).f1))).setCell ⟨gb159, 2, none⟩ (.int .i64 ((rd_T45 l0_0 x3_1).f2))).heap[gb157]? = some (.cells #[.slice (some ad158) l0_0.length c0_0] 29 (0, 0))) := ⟨BP BK157.out⟩; have n1_ : Aside0 ((((w50.setCell ⟨gb159, 0, none⟩ (.string ((rd_T45 l0_0 x3_1).f0))).setCell ⟨gb159, 1, none⟩ (.string ((rd_T45 l0_0 x3_1).f1))).setCell ⟨gb159, 2, none⟩ (.int .i64 ((rd_T45 l0_0 x3_1).f2))).heap[gb159]? = some (.cells #[.string ((rd_T45 l0_0 x3_1).f0), .string ((rd_T45 l0_0 x3_1).f1), .int .i64 ((rd_T45 l0_0 x3_1).f2)] 45 (0, 0))) := ⟨BU BK159.out⟩; have n2_ : Aside0 (Below w.heap.size w (((w50.setCell ⟨gb159, 0, none⟩ (.string ((rd_T45 l0_0 x3_1).f0))).setCell ⟨gb159, 1, none⟩ (.string ((rd_T45 l0_0 x3_1).f1))).setCell ⟨gb159, 2, none⟩ (.int .i64 ((rd_T45 l0_0 x3_1).f2)))) := ⟨BL⟩
    (try clear BK157)
    (try clear BK159)
    (try clear HB)
    generalize (((w50.setCell ⟨gb159, 0, none⟩ (.string ((rd_T45 l0_0 x3_1).f0))).setCell ⟨gb159, 1, none⟩ (.string ((rd_T45 l0_0 x3_1).f1))).setCell ⟨gb159, 2, none⟩ (.int .i64 ((rd_T45 l0_0 x3_1).f2))) = w53 at n0_ n1_ n2_ ⊢; have BK157 := n0_; have BK159 := n1_; have HB := n2_; clear n0_ n1_ n2_; replace BK157 := BD BK157; replace BK159 := BD BK159; replace HB := Aside0.mk (below_drew1 HB.out); refine start_ (n := 35) (S := fun w' => w'.cell? ⟨gb159, 0, none⟩ = some (.string ((rd_T45 l0_0 x3_1).f0)) ∧ w'.cell? ⟨gb159, 1, none⟩ = some (.string ((rd_T45 l0_0 x3_1).f1)) ∧ w'.cell? ⟨gb159, 2, none⟩ = some (.int .i64 ((rd_T45 l0_0 x3_1).f2))) (ds := []) #[false, false, false, false, false, false, false, false, false, false, false, false, false, false, false, false, false, false, false, false, false, false, false, false, false, false, false, false, false, false, false, false, false, false, false] (by kernel_rfl) rfl rfl ⟨CZ BK159.out 0, CZ BK159.out 1, CZ BK159.out 2⟩ (fun hHeld => ?_); refine with_tabW spec_DiskOk.tab7 spec_DiskOk.bits7 (fun HT_ HW_ => ?_); generalize w53.drew = w54 at BK157 BK159 HB hHeld ⊢; refine pV 0 21 (OB 35 1) ?_; refine pT 1 22 (OB 35 3) ?_; refine one_ (i := 2) (N := some 23) (OB 35 7) rfl rfl (one_of HT_.out (by kernel_rfl)) (by decide) (fun K hK => ?_); refine goes_ Try.func48 (by kernel_rfl) rfl #[.string ((rd_T45 l0_0 x3_1).f0)] (by rfl) rfl rfl (MA) ?_
    with_reducible refine (spec_l03Name.calls ((rd_T45 l0_0 x3_1).f0) false _ A9.out).mono ?_
    rintro e w' ⟨rfl, ⟨nd, rfl⟩⟩; refine ⟨_, rfl, ?_⟩; refine hK.out _ _ ⟨CZ BK159.out 0, CZ BK159.out 1, CZ BK159.out 2⟩ (fun hHeld => ?_); clear hK K; refine norm_ (a' := ?_) ?_ ?_; rotate_left
    ·
     show Act.put _ (some 23) _ = _; simp only [Act.put, zA, zB, zC, i64_w, i32_w]; rfl
    refine pV 3 24 (OB 35 15) ?_; refine pV 4 25 (OB 35 31) ?_; refine pN 5 26 (OB 35 63) ?_; refine pN 6 27 (OB 35 127) ?_; refine pN 7 28 (OB 35 255) ?_; refine pN 8 29 (OB 35 511) ?_; refine pV 9 30 (OB 35 1023) ?_; refine pV 10 31 (OB 35 2047) ?_; refine pN 11 32 (OB 35 4095) ?_; refine pN 12 33 (OB 35 8191) ?_; refine pN 13 34 (OB 35 16383) ?_; refine pN 14 35 (OB 35 32767) ?_; refine pN 15 36 (OB 35 65535) ?_; refine pN 16 37 (OB 35 131071) ?_; refine pN 17 38 (OB 35 262143) ?_; refine pV 18 39 (OB 35 524287) ?_; refine pV 19 40 (OB 35 1048575) ?_; refine pN 20 41 (OB 35 2097151) ?_; refine pN 21 42 (OB 35 4194303) ?_; refine pN 22 43 (OB 35 8388607) ?_; refine pN 23 44 (OB 35 16777215) ?_; refine pN 24 45 (OB 35 33554431) ?_; refine pN 25 46 (OB 35 67108863) ?_; refine pN 26 47 (OB 35 134217727) ?_; refine pN 27 48 (OB 35 268435455) ?_; refine pN 28 49 (OB 35 536870911) ?_; refine pN 29 50 (OB 35 1073741823) ?_; refine pN 30 51 (OB 35 2147483647) ?_; refine pN 31 52 (OB 35 4294967295) ?_; refine pN 32 53 (OB 35 8589934591) ?_; refine pN 33 54 (OB 35 17179869183) ?_; refine pV 34 55 (OB 35 34359738367) ?_; refine done_ (done_of HT_.out (by kernel_rfl)) ?_
    try go_wp2
    go_ret
    exact ⟨EE, BL⟩
   subst c10
   rw [if_pos rfl] at H
   by_cases c11 : (((rd_T45 l0_0 x3_1).f1).size : Int) > 20000
   ·
    rw [if_pos c11] at H; have c11b0 : decide (20000 < (((rd_T45 l0_0 x3_1).f1).size : Int)) = true := decide_eq_true c11; have c11b1 : decide (20000 < ((rd_T45 l0_0 x3_1).f1).size) = true := decide_eq_true (by omega); clear c11; obtain rfl := Option.some.inj H; obtain ⟨hcz12_0, hfz12_0⟩ := KC1 BK157.out; have p158 : 0 ≤ (x3_1 : Int) := of_decide_eq_true AS; have q158 : x3_1 < (l0_0.length : Int) := of_decide_eq_true AS; obtain ⟨ad158, e158, hx158_0, hx158_1, hx158_2⟩ := at_T45 HR0_0.out x3_1 p158 q158; cases e158; replace hx158_0 := HX hx158_0; replace hx158_1 := HX hx158_1; replace hx158_2 := HX hx158_2; replace p158 := eq_true p158; replace q158 := eq_true q158
    try go_wp2_with (first | ((with_reducible refine gate_dst (N := 4) rfl ?_); (try (refine gate_guard (by rfl) ?_; dsimp only)); refine bE 4 #[.string (⟨#[]⟩ : ByteArray), .string (⟨#[]⟩ : ByteArray), .int .i64 0] 45 ?_; intro gb159 hg w13 hbox hb; have BK159 := Aside0.mk (hbox); have GW159 : Aside0 (w.heap.size ≤ gb159) := GS; have GE159 := GW159; have NB157_159 := NL BK157.out hg; have NB159_157 := NG BK157.out hg; replace BK157 := BB BK157.out hb; replace HB := BS hb; clear hb hbox hg; obtain ⟨hnb14, hnc14⟩ := NN NB159_157.out; obtain ⟨hcz15_0, hcz15_1, hcz15_2, hfz15_0, hfz15_1, hfz15_2⟩ := KC3 BK159.out))
    have n0_ : Aside0 ((((w13.setCell ⟨gb159, 0, none⟩ (.string ((rd_T45 l0_0 x3_1).f0))).setCell ⟨gb159, 1, none⟩ (.string ((rd_T45 l0_0 x3_1).f1))).setCell ⟨gb159, 2, none⟩ (.int .i64 ((rd_T45 l0_0 x3_1).f2))).heap[gb157]? = some (.cells #[.slice (some ad158) l0_0.length c0_0] 29 (0, 0))) := ⟨BP BK157.out⟩; have n1_ : Aside0 ((((w13.setCell ⟨gb159, 0, none⟩ (.string ((rd_T45 l0_0 x3_1).f0))).setCell ⟨gb159, 1, none⟩ (.string ((rd_T45 l0_0 x3_1).f1))).setCell ⟨gb159, 2, none⟩ (.int .i64 ((rd_T45 l0_0 x3_1).f2))).heap[gb159]? = some (.cells #[.string ((rd_T45 l0_0 x3_1).f0), .string ((rd_T45 l0_0 x3_1).f1), .int .i64 ((rd_T45 l0_0 x3_1).f2)] 45 (0, 0))) := ⟨BU BK159.out⟩; have n2_ : Aside0 (Below w.heap.size w (((w13.setCell ⟨gb159, 0, none⟩ (.string ((rd_T45 l0_0 x3_1).f0))).setCell ⟨gb159, 1, none⟩ (.string ((rd_T45 l0_0 x3_1).f1))).setCell ⟨gb159, 2, none⟩ (.int .i64 ((rd_T45 l0_0 x3_1).f2)))) := ⟨BL⟩
    (try clear BK157)
    (try clear BK159)
    (try clear HB)
    generalize (((w13.setCell ⟨gb159, 0, none⟩ (.string ((rd_T45 l0_0 x3_1).f0))).setCell ⟨gb159, 1, none⟩ (.string ((rd_T45 l0_0 x3_1).f1))).setCell ⟨gb159, 2, none⟩ (.int .i64 ((rd_T45 l0_0 x3_1).f2))) = w16 at n0_ n1_ n2_ ⊢; have BK157 := n0_; have BK159 := n1_; have HB := n2_; clear n0_ n1_ n2_; replace BK157 := BD BK157; replace BK159 := BD BK159; replace HB := Aside0.mk (below_drew1 HB.out); refine start_ (n := 35) (S := fun w' => w'.cell? ⟨gb159, 0, none⟩ = some (.string ((rd_T45 l0_0 x3_1).f0)) ∧ w'.cell? ⟨gb159, 1, none⟩ = some (.string ((rd_T45 l0_0 x3_1).f1)) ∧ w'.cell? ⟨gb159, 2, none⟩ = some (.int .i64 ((rd_T45 l0_0 x3_1).f2))) (ds := []) #[false, false, false, false, false, false, false, false, false, false, false, false, false, false, false, false, false, false, false, false, false, false, false, false, false, false, false, false, false, false, false, false, false, false, false] (by kernel_rfl) rfl rfl ⟨CZ BK159.out 0, CZ BK159.out 1, CZ BK159.out 2⟩ (fun hHeld => ?_); refine with_tabW spec_DiskOk.tab7 spec_DiskOk.bits7 (fun HT_ HW_ => ?_); generalize w16.drew = w17 at BK157 BK159 HB hHeld ⊢; refine pV 0 21 (OB 35 1) ?_; refine pT 1 22 (OB 35 3) ?_; refine one_ (i := 2) (N := some 23) (OB 35 7) rfl rfl (one_of HT_.out (by kernel_rfl)) (by decide) (fun K hK => ?_); refine goes_ Try.func48 (by kernel_rfl) rfl #[.string ((rd_T45 l0_0 x3_1).f0)] (by rfl) rfl rfl (MA) ?_
    with_reducible refine (spec_l03Name.calls ((rd_T45 l0_0 x3_1).f0) true _ A9.out).mono ?_
    rintro e w' ⟨rfl, ⟨nd, rfl⟩⟩; refine ⟨_, rfl, ?_⟩; refine hK.out _ _ ⟨CZ BK159.out 0, CZ BK159.out 1, CZ BK159.out 2⟩ (fun hHeld => ?_); clear hK K; refine norm_ (a' := ?_) ?_ ?_; rotate_left
    ·
     show Act.put _ (some 23) _ = _; simp only [Act.put, zA, zB, zC, i64_w, i32_w]; rfl
    refine pV 3 24 (OB 35 15) ?_; refine pV 4 25 (OB 35 31) ?_; refine pV 5 26 (OB 35 63) ?_; refine pT 6 27 (OB 35 127) ?_; refine pV 7 28 (OB 35 255) ?_; refine pV 8 29 (OB 35 511) ?_; refine pV 9 30 (OB 35 1023) ?_; refine pV 10 31 (OB 35 2047) ?_; refine pN 11 32 (OB 35 4095) ?_; refine pN 12 33 (OB 35 8191) ?_; refine pN 13 34 (OB 35 16383) ?_; refine pN 14 35 (OB 35 32767) ?_; refine pN 15 36 (OB 35 65535) ?_; refine pN 16 37 (OB 35 131071) ?_; refine pN 17 38 (OB 35 262143) ?_; refine pV 18 39 (OB 35 524287) ?_; refine pV 19 40 (OB 35 1048575) ?_; refine pN 20 41 (OB 35 2097151) ?_; refine pN 21 42 (OB 35 4194303) ?_; refine pN 22 43 (OB 35 8388607) ?_; refine pN 23 44 (OB 35 16777215) ?_; refine pN 24 45 (OB 35 33554431) ?_; refine pN 25 46 (OB 35 67108863) ?_; refine pN 26 47 (OB 35 134217727) ?_; refine pN 27 48 (OB 35 268435455) ?_; refine pN 28 49 (OB 35 536870911) ?_; refine pN 29 50 (OB 35 1073741823) ?_; refine pN 30 51 (OB 35 2147483647) ?_; refine pN 31 52 (OB 35 4294967295) ?_; refine pN 32 53 (OB 35 8589934591) ?_; refine pN 33 54 (OB 35 17179869183) ?_; refine pV 34 55 (OB 35 34359738367) ?_; refine done_ (done_of HT_.out (by kernel_rfl)) ?_
    try go_wp2
    go_ret
    exact ⟨EE, BL⟩
   rw [if_neg c11] at H; have c11b0 : decide (20000 < (((rd_T45 l0_0 x3_1).f1).size : Int)) = false := decide_eq_false c11; have c11b1 : decide (20000 < ((rd_T45 l0_0 x3_1).f1).size) = false := decide_eq_false (by omega); clear c11; replace H := Option.bind_eq_some_iff.mp H; obtain ⟨t161, A180, H⟩ := H; have A18 := Aside0.mk A180; clear A180
   by_cases c19 : t161 = true; rotate_left
   ·
    replace c19 := Bool.eq_false_iff.mpr c19; subst c19
    rw [if_neg (show ¬ (false = true) by decide)] at H; obtain rfl := Option.some.inj H; obtain ⟨hcz43_0, hfz43_0⟩ := KC1 BK157.out; have p158 : 0 ≤ (x3_1 : Int) := of_decide_eq_true AS; have q158 : x3_1 < (l0_0.length : Int) := of_decide_eq_true AS; obtain ⟨ad158, e158, hx158_0, hx158_1, hx158_2⟩ := at_T45 HR0_0.out x3_1 p158 q158; cases e158; replace hx158_0 := HX hx158_0; replace hx158_1 := HX hx158_1; replace hx158_2 := HX hx158_2; replace p158 := eq_true p158; replace q158 := eq_true q158
    try go_wp2_with (first | ((with_reducible refine gate_dst (N := 4) rfl ?_); (try (refine gate_guard (by rfl) ?_; dsimp only)); refine bE 4 #[.string (⟨#[]⟩ : ByteArray), .string (⟨#[]⟩ : ByteArray), .int .i64 0] 45 ?_; intro gb159 hg w44 hbox hb; have BK159 := Aside0.mk (hbox); have GW159 : Aside0 (w.heap.size ≤ gb159) := GS; have GE159 := GW159; have NB157_159 := NL BK157.out hg; have NB159_157 := NG BK157.out hg; replace BK157 := BB BK157.out hb; replace HB := BS hb; clear hb hbox hg; obtain ⟨hnb45, hnc45⟩ := NN NB159_157.out; obtain ⟨hcz46_0, hcz46_1, hcz46_2, hfz46_0, hfz46_1, hfz46_2⟩ := KC3 BK159.out))
    have n0_ : Aside0 ((((w44.setCell ⟨gb159, 0, none⟩ (.string ((rd_T45 l0_0 x3_1).f0))).setCell ⟨gb159, 1, none⟩ (.string ((rd_T45 l0_0 x3_1).f1))).setCell ⟨gb159, 2, none⟩ (.int .i64 ((rd_T45 l0_0 x3_1).f2))).heap[gb157]? = some (.cells #[.slice (some ad158) l0_0.length c0_0] 29 (0, 0))) := ⟨BP BK157.out⟩; have n1_ : Aside0 ((((w44.setCell ⟨gb159, 0, none⟩ (.string ((rd_T45 l0_0 x3_1).f0))).setCell ⟨gb159, 1, none⟩ (.string ((rd_T45 l0_0 x3_1).f1))).setCell ⟨gb159, 2, none⟩ (.int .i64 ((rd_T45 l0_0 x3_1).f2))).heap[gb159]? = some (.cells #[.string ((rd_T45 l0_0 x3_1).f0), .string ((rd_T45 l0_0 x3_1).f1), .int .i64 ((rd_T45 l0_0 x3_1).f2)] 45 (0, 0))) := ⟨BU BK159.out⟩; have n2_ : Aside0 (Below w.heap.size w (((w44.setCell ⟨gb159, 0, none⟩ (.string ((rd_T45 l0_0 x3_1).f0))).setCell ⟨gb159, 1, none⟩ (.string ((rd_T45 l0_0 x3_1).f1))).setCell ⟨gb159, 2, none⟩ (.int .i64 ((rd_T45 l0_0 x3_1).f2)))) := ⟨BL⟩
    (try clear BK157)
    (try clear BK159)
    (try clear HB)
    generalize (((w44.setCell ⟨gb159, 0, none⟩ (.string ((rd_T45 l0_0 x3_1).f0))).setCell ⟨gb159, 1, none⟩ (.string ((rd_T45 l0_0 x3_1).f1))).setCell ⟨gb159, 2, none⟩ (.int .i64 ((rd_T45 l0_0 x3_1).f2))) = w47 at n0_ n1_ n2_ ⊢; have BK157 := n0_; have BK159 := n1_; have HB := n2_; clear n0_ n1_ n2_; replace BK157 := BD BK157; replace BK159 := BD BK159; replace HB := Aside0.mk (below_drew1 HB.out); refine start_ (n := 35) (S := fun w' => w'.cell? ⟨gb159, 0, none⟩ = some (.string ((rd_T45 l0_0 x3_1).f0)) ∧ w'.cell? ⟨gb159, 1, none⟩ = some (.string ((rd_T45 l0_0 x3_1).f1)) ∧ w'.cell? ⟨gb159, 2, none⟩ = some (.int .i64 ((rd_T45 l0_0 x3_1).f2))) (ds := []) #[false, false, false, false, false, false, false, false, false, false, false, false, false, false, false, false, false, false, false, false, false, false, false, false, false, false, false, false, false, false, false, false, false, false, false] (by kernel_rfl) rfl rfl ⟨CZ BK159.out 0, CZ BK159.out 1, CZ BK159.out 2⟩ (fun hHeld => ?_); refine with_tabW spec_DiskOk.tab7 spec_DiskOk.bits7 (fun HT_ HW_ => ?_); generalize w47.drew = w48 at BK157 BK159 HB hHeld ⊢; refine pV 0 21 (OB 35 1) ?_; refine pT 1 22 (OB 35 3) ?_; refine one_ (i := 2) (N := some 23) (OB 35 7) rfl rfl (one_of HT_.out (by kernel_rfl)) (by decide) (fun K hK => ?_); refine goes_ Try.func48 (by kernel_rfl) rfl #[.string ((rd_T45 l0_0 x3_1).f0)] (by rfl) rfl rfl (MA) ?_
    with_reducible refine (spec_l03Name.calls ((rd_T45 l0_0 x3_1).f0) true _ A9.out).mono ?_
    rintro e w' ⟨rfl, ⟨nd, rfl⟩⟩; refine ⟨_, rfl, ?_⟩; refine hK.out _ _ ⟨CZ BK159.out 0, CZ BK159.out 1, CZ BK159.out 2⟩ (fun hHeld => ?_); clear hK K; refine norm_ (a' := ?_) ?_ ?_; rotate_left
    ·
     show Act.put _ (some 23) _ = _; simp only [Act.put, zA, zB, zC, i64_w, i32_w]; rfl
    refine pV 3 24 (OB 35 15) ?_; refine pV 4 25 (OB 35 31) ?_; refine pV 5 26 (OB 35 63) ?_; refine pT 6 27 (OB 35 127) ?_; refine pV 7 28 (OB 35 255) ?_; refine pV 8 29 (OB 35 511) ?_; refine pV 9 30 (OB 35 1023) ?_; refine pV 10 31 (OB 35 2047) ?_; refine pV 11 32 (OB 35 4095) ?_; refine pV 13 34 (OB 35 12287) ?_; refine pT 12 33 (OB 35 16383) ?_; refine pT 14 35 (OB 35 32767) ?_; refine pV 15 36 (OB 35 65535) ?_; refine one_ (i := 16) (N := some 37) (OB 35 131071) rfl rfl (one_of HT_.out (by kernel_rfl)) (by decide) (fun K hK => ?_); refine goes_ Try.func49 (by kernel_rfl) rfl #[.int .i64 ((rd_T45 l0_0 x3_1).f2), .int .i64 0, .int .i64 (((rd_T45 l0_0 x3_1).f1).size : Int)] (by rfl) rfl rfl (MA) ?_
    with_reducible refine (spec_l01In.calls ((rd_T45 l0_0 x3_1).f2) 0 (((rd_T45 l0_0 x3_1).f1).size : Int) false _ A18.out).mono ?_
    rintro e w' ⟨rfl, ⟨nd, rfl⟩⟩; refine ⟨_, rfl, ?_⟩; refine hK.out _ _ ⟨CZ BK159.out 0, CZ BK159.out 1, CZ BK159.out 2⟩ (fun hHeld => ?_); clear hK K; refine norm_ (a' := ?_) ?_ ?_; rotate_left
    ·
     show Act.put _ (some 37) _ = _; simp only [Act.put, zA, zB, zC, i64_w, i32_w]; rfl
    refine pV 17 38 (OB 35 262143) ?_; refine pV 18 39 (OB 35 524287) ?_; refine pV 19 40 (OB 35 1048575) ?_; refine pN 20 41 (OB 35 2097151) ?_; refine pN 21 42 (OB 35 4194303) ?_; refine pN 22 43 (OB 35 8388607) ?_; refine pN 23 44 (OB 35 16777215) ?_; refine pN 24 45 (OB 35 33554431) ?_; refine pN 25 46 (OB 35 67108863) ?_; refine pN 26 47 (OB 35 134217727) ?_; refine pN 27 48 (OB 35 268435455) ?_; refine pN 28 49 (OB 35 536870911) ?_; refine pN 29 50 (OB 35 1073741823) ?_; refine pN 30 51 (OB 35 2147483647) ?_; refine pN 31 52 (OB 35 4294967295) ?_; refine pN 32 53 (OB 35 8589934591) ?_; refine pN 33 54 (OB 35 17179869183) ?_; refine pV 34 55 (OB 35 34359738367) ?_; refine done_ (done_of HT_.out (by kernel_rfl)) ?_
    try go_wp2
    go_ret
    exact ⟨EE, BL⟩
   subst c19
   rw [if_pos rfl] at H
   by_cases c20 : x3_1 > 0; rotate_left
   ·
    rw [if_neg c20] at H; have c20b0 : decide (0 < x3_1) = false := decide_eq_false c20; clear c20; have H' := Aside0.mk H; clear H; obtain ⟨hcz37_0, hfz37_0⟩ := KC1 BK157.out; have p158 : 0 ≤ (x3_1 : Int) := of_decide_eq_true AS; have q158 : x3_1 < (l0_0.length : Int) := of_decide_eq_true AS; obtain ⟨ad158, e158, hx158_0, hx158_1, hx158_2⟩ := at_T45 HR0_0.out x3_1 p158 q158; cases e158; replace hx158_0 := HX hx158_0; replace hx158_1 := HX hx158_1; replace hx158_2 := HX hx158_2; replace p158 := eq_true p158; replace q158 := eq_true q158
    try go_wp2_with (first | ((with_reducible refine gate_dst (N := 4) rfl ?_); (try (refine gate_guard (by rfl) ?_; dsimp only)); refine bE 4 #[.string (⟨#[]⟩ : ByteArray), .string (⟨#[]⟩ : ByteArray), .int .i64 0] 45 ?_; intro gb159 hg w38 hbox hb; have BK159 := Aside0.mk (hbox); have GW159 : Aside0 (w.heap.size ≤ gb159) := GS; have GE159 := GW159; have NB157_159 := NL BK157.out hg; have NB159_157 := NG BK157.out hg; replace BK157 := BB BK157.out hb; replace HB := BS hb; clear hb hbox hg; obtain ⟨hnb39, hnc39⟩ := NN NB159_157.out; obtain ⟨hcz40_0, hcz40_1, hcz40_2, hfz40_0, hfz40_1, hfz40_2⟩ := KC3 BK159.out))
    have n0_ : Aside0 ((((w38.setCell ⟨gb159, 0, none⟩ (.string ((rd_T45 l0_0 x3_1).f0))).setCell ⟨gb159, 1, none⟩ (.string ((rd_T45 l0_0 x3_1).f1))).setCell ⟨gb159, 2, none⟩ (.int .i64 ((rd_T45 l0_0 x3_1).f2))).heap[gb157]? = some (.cells #[.slice (some ad158) l0_0.length c0_0] 29 (0, 0))) := ⟨BP BK157.out⟩; have n1_ : Aside0 ((((w38.setCell ⟨gb159, 0, none⟩ (.string ((rd_T45 l0_0 x3_1).f0))).setCell ⟨gb159, 1, none⟩ (.string ((rd_T45 l0_0 x3_1).f1))).setCell ⟨gb159, 2, none⟩ (.int .i64 ((rd_T45 l0_0 x3_1).f2))).heap[gb159]? = some (.cells #[.string ((rd_T45 l0_0 x3_1).f0), .string ((rd_T45 l0_0 x3_1).f1), .int .i64 ((rd_T45 l0_0 x3_1).f2)] 45 (0, 0))) := ⟨BU BK159.out⟩; have n2_ : Aside0 (Below w.heap.size w (((w38.setCell ⟨gb159, 0, none⟩ (.string ((rd_T45 l0_0 x3_1).f0))).setCell ⟨gb159, 1, none⟩ (.string ((rd_T45 l0_0 x3_1).f1))).setCell ⟨gb159, 2, none⟩ (.int .i64 ((rd_T45 l0_0 x3_1).f2)))) := ⟨BL⟩
    (try clear BK157)
    (try clear BK159)
    (try clear HB)
    generalize (((w38.setCell ⟨gb159, 0, none⟩ (.string ((rd_T45 l0_0 x3_1).f0))).setCell ⟨gb159, 1, none⟩ (.string ((rd_T45 l0_0 x3_1).f1))).setCell ⟨gb159, 2, none⟩ (.int .i64 ((rd_T45 l0_0 x3_1).f2))) = w41 at n0_ n1_ n2_ ⊢; have BK157 := n0_; have BK159 := n1_; have HB := n2_; clear n0_ n1_ n2_; replace BK157 := BD BK157; replace BK159 := BD BK159; replace HB := Aside0.mk (below_drew1 HB.out); refine start_ (n := 35) (S := fun w' => w'.cell? ⟨gb159, 0, none⟩ = some (.string ((rd_T45 l0_0 x3_1).f0)) ∧ w'.cell? ⟨gb159, 1, none⟩ = some (.string ((rd_T45 l0_0 x3_1).f1)) ∧ w'.cell? ⟨gb159, 2, none⟩ = some (.int .i64 ((rd_T45 l0_0 x3_1).f2))) (ds := []) #[false, false, false, false, false, false, false, false, false, false, false, false, false, false, false, false, false, false, false, false, false, false, false, false, false, false, false, false, false, false, false, false, false, false, false] (by kernel_rfl) rfl rfl ⟨CZ BK159.out 0, CZ BK159.out 1, CZ BK159.out 2⟩ (fun hHeld => ?_); refine with_tabW spec_DiskOk.tab7 spec_DiskOk.bits7 (fun HT_ HW_ => ?_); generalize w41.drew = w42 at BK157 BK159 HB hHeld ⊢; refine pV 0 21 (OB 35 1) ?_; refine pT 1 22 (OB 35 3) ?_; refine one_ (i := 2) (N := some 23) (OB 35 7) rfl rfl (one_of HT_.out (by kernel_rfl)) (by decide) (fun K hK => ?_); refine goes_ Try.func48 (by kernel_rfl) rfl #[.string ((rd_T45 l0_0 x3_1).f0)] (by rfl) rfl rfl (MA) ?_
    with_reducible refine (spec_l03Name.calls ((rd_T45 l0_0 x3_1).f0) true _ A9.out).mono ?_
    rintro e w' ⟨rfl, ⟨nd, rfl⟩⟩; refine ⟨_, rfl, ?_⟩; refine hK.out _ _ ⟨CZ BK159.out 0, CZ BK159.out 1, CZ BK159.out 2⟩ (fun hHeld => ?_); clear hK K; refine norm_ (a' := ?_) ?_ ?_; rotate_left
    ·
     show Act.put _ (some 23) _ = _; simp only [Act.put, zA, zB, zC, i64_w, i32_w]; rfl
    refine pV 3 24 (OB 35 15) ?_; refine pV 4 25 (OB 35 31) ?_; refine pV 5 26 (OB 35 63) ?_; refine pT 6 27 (OB 35 127) ?_; refine pV 7 28 (OB 35 255) ?_; refine pV 8 29 (OB 35 511) ?_; refine pV 9 30 (OB 35 1023) ?_; refine pV 10 31 (OB 35 2047) ?_; refine pV 11 32 (OB 35 4095) ?_; refine pV 13 34 (OB 35 12287) ?_; refine pT 12 33 (OB 35 16383) ?_; refine pT 14 35 (OB 35 32767) ?_; refine pV 15 36 (OB 35 65535) ?_; refine one_ (i := 16) (N := some 37) (OB 35 131071) rfl rfl (one_of HT_.out (by kernel_rfl)) (by decide) (fun K hK => ?_); refine goes_ Try.func49 (by kernel_rfl) rfl #[.int .i64 ((rd_T45 l0_0 x3_1).f2), .int .i64 0, .int .i64 (((rd_T45 l0_0 x3_1).f1).size : Int)] (by rfl) rfl rfl (MA) ?_
    with_reducible refine (spec_l01In.calls ((rd_T45 l0_0 x3_1).f2) 0 (((rd_T45 l0_0 x3_1).f1).size : Int) true _ A18.out).mono ?_
    rintro e w' ⟨rfl, ⟨nd, rfl⟩⟩; refine ⟨_, rfl, ?_⟩; refine hK.out _ _ ⟨CZ BK159.out 0, CZ BK159.out 1, CZ BK159.out 2⟩ (fun hHeld => ?_); clear hK K; refine norm_ (a' := ?_) ?_ ?_; rotate_left
    ·
     show Act.put _ (some 37) _ = _; simp only [Act.put, zA, zB, zC, i64_w, i32_w]; rfl
    refine pV 17 38 (OB 35 262143) ?_; refine pV 18 39 (OB 35 524287) ?_; refine pV 19 40 (OB 35 1048575) ?_; refine pV 20 41 (OB 35 2097151) ?_; refine pV 21 42 (OB 35 4194303) ?_; refine pV 22 43 (OB 35 8388607) ?_; refine pN 23 44 (OB 35 16777215) ?_; refine pN 24 45 (OB 35 33554431) ?_; refine pN 25 46 (OB 35 67108863) ?_; refine pN 26 47 (OB 35 134217727) ?_; refine pN 27 48 (OB 35 268435455) ?_; refine pN 28 49 (OB 35 536870911) ?_; refine pN 29 50 (OB 35 1073741823) ?_; refine pN 30 51 (OB 35 2147483647) ?_; refine pN 31 52 (OB 35 4294967295) ?_; refine pN 32 53 (OB 35 8589934591) ?_; refine pV 33 54 (OB 35 17179869183) ?_; refine pV 34 55 (OB 35 34359738367) ?_; refine done_ (done_of HT_.out (by kernel_rfl)) ?_
    try go_wp2
    go_roundg k1
    case measure => have := HK1.out; omega
    case rel => exact ⟨(wrap64 (x3_1 + 1)), SD, H', ⟨by have := HK1.out; omega⟩, ⟨BQ BK157.out⟩, ⟨BL⟩⟩
   rw [if_pos c20] at H; have c20b0 : decide (0 < x3_1) = true := decide_eq_true c20; clear c20; obtain ⟨ji21, hji21⟩ : ∃ j_ : Int, (wrap64 (x3_1 - 1)) = j_ := ⟨_, rfl⟩
   replace H : (if 0 ≤ (ji21) then (if (ji21) < (l0_0.length : Int) then (if ((Op.bytesLess (((rd_T45 l0_0 (ji21)).f0).toList) (((rd_T45 l0_0 x3_1).f0).toList)) = true) then (spec_DiskOk.l0 k1 (wrap64 (x3_1 + 1)) l0_0) else (some false)) else (none)) else (none)) = some r := by first | (rw [hji21] at H; exact H) | (simp only [hji21] at H ⊢; exact H)
   (try rw [hji21] at A9)
   (try rw [hji21] at A18)
   have hji21w : (IntKind.i64.wrap (x3_1 - 1)) = ji21 := (i64_w _).trans hji21
   by_cases c22 : 0 ≤ (ji21); rotate_left
   ·
    rw [if_neg c22] at H; exact absurd H (by simp)
   rw [if_pos c22] at H; have c22b0 : decide (0 ≤ (ji21)) = true := decide_eq_true c22; clear c22
   by_cases c23 : (ji21) < (l0_0.length : Int); rotate_left
   ·
    rw [if_neg c23] at H; exact absurd H (by simp)
   rw [if_pos c23] at H; have c23b0 : decide ((ji21) < (l0_0.length : Int)) = true := decide_eq_true c23; clear c23
   by_cases c24 : ((Op.bytesLess (((rd_T45 l0_0 (ji21)).f0).toList) (((rd_T45 l0_0 x3_1).f0).toList)) = true); rotate_left
   ·
    rw [if_neg c24] at H
    have c24b0 : (Op.bytesLess (((rd_T45 l0_0 (ji21)).f0).toList) (((rd_T45 l0_0 x3_1).f0).toList)) = false := by simpa using c24
    clear c24; obtain rfl := Option.some.inj H; obtain ⟨hcz31_0, hfz31_0⟩ := KC1 BK157.out; have p158 : 0 ≤ (x3_1 : Int) := of_decide_eq_true AS; have q158 : x3_1 < (l0_0.length : Int) := of_decide_eq_true AS; obtain ⟨ad158, e158, hx158_0, hx158_1, hx158_2⟩ := at_T45 HR0_0.out x3_1 p158 q158; cases e158; replace hx158_0 := HX hx158_0; replace hx158_1 := HX hx158_1; replace hx158_2 := HX hx158_2; replace p158 := eq_true p158; replace q158 := eq_true q158
    try go_wp2_with (first | ((with_reducible refine gate_dst (N := 4) rfl ?_); (try (refine gate_guard (by rfl) ?_; dsimp only)); refine bE 4 #[.string (⟨#[]⟩ : ByteArray), .string (⟨#[]⟩ : ByteArray), .int .i64 0] 45 ?_; intro gb159 hg w32 hbox hb; have BK159 := Aside0.mk (hbox); have GW159 : Aside0 (w.heap.size ≤ gb159) := GS; have GE159 := GW159; have NB157_159 := NL BK157.out hg; have NB159_157 := NG BK157.out hg; replace BK157 := BB BK157.out hb; replace HB := BS hb; clear hb hbox hg; obtain ⟨hnb33, hnc33⟩ := NN NB159_157.out; obtain ⟨hcz34_0, hcz34_1, hcz34_2, hfz34_0, hfz34_1, hfz34_2⟩ := KC3 BK159.out))
    have n0_ : Aside0 ((((w32.setCell ⟨gb159, 0, none⟩ (.string ((rd_T45 l0_0 x3_1).f0))).setCell ⟨gb159, 1, none⟩ (.string ((rd_T45 l0_0 x3_1).f1))).setCell ⟨gb159, 2, none⟩ (.int .i64 ((rd_T45 l0_0 x3_1).f2))).heap[gb157]? = some (.cells #[.slice (some ad158) l0_0.length c0_0] 29 (0, 0))) := ⟨BP BK157.out⟩; have n1_ : Aside0 ((((w32.setCell ⟨gb159, 0, none⟩ (.string ((rd_T45 l0_0 x3_1).f0))).setCell ⟨gb159, 1, none⟩ (.string ((rd_T45 l0_0 x3_1).f1))).setCell ⟨gb159, 2, none⟩ (.int .i64 ((rd_T45 l0_0 x3_1).f2))).heap[gb159]? = some (.cells #[.string ((rd_T45 l0_0 x3_1).f0), .string ((rd_T45 l0_0 x3_1).f1), .int .i64 ((rd_T45 l0_0 x3_1).f2)] 45 (0, 0))) := ⟨BU BK159.out⟩; have n2_ : Aside0 (Below w.heap.size w (((w32.setCell ⟨gb159, 0, none⟩ (.string ((rd_T45 l0_0 x3_1).f0))).setCell ⟨gb159, 1, none⟩ (.string ((rd_T45 l0_0 x3_1).f1))).setCell ⟨gb159, 2, none⟩ (.int .i64 ((rd_T45 l0_0 x3_1).f2)))) := ⟨BL⟩
    (try clear BK157)
    (try clear BK159)
    (try clear HB)
    generalize (((w32.setCell ⟨gb159, 0, none⟩ (.string ((rd_T45 l0_0 x3_1).f0))).setCell ⟨gb159, 1, none⟩ (.string ((rd_T45 l0_0 x3_1).f1))).setCell ⟨gb159, 2, none⟩ (.int .i64 ((rd_T45 l0_0 x3_1).f2))) = w35 at n0_ n1_ n2_ ⊢; have BK157 := n0_; have BK159 := n1_; have HB := n2_; clear n0_ n1_ n2_; replace BK157 := BD BK157; replace BK159 := BD BK159; replace HB := Aside0.mk (below_drew1 HB.out); have p162 : 0 ≤ ((ji21) : Int) := of_decide_eq_true AS; have q162 : (ji21) < (l0_0.length : Int) := of_decide_eq_true AS; obtain ⟨ad162, e162, hx162_0, hx162_1, hx162_2⟩ := at_T45 HR0_0.out (ji21) p162 q162; have hw162_2 := hx162_2; have hw162_1 := hx162_1; have hw162_0 := hx162_0; obtain rfl : ad158 = ad162 := (by injection e162); replace hx162_0 := HX hx162_0; replace hx162_1 := HX hx162_1; replace hx162_2 := HX hx162_2; replace p162 := eq_true p162; replace q162 := eq_true q162; refine start_ (n := 35) (S := fun w' => w'.cell? ⟨gb159, 0, none⟩ = some (.string ((rd_T45 l0_0 x3_1).f0)) ∧ w'.cell? ⟨gb159, 1, none⟩ = some (.string ((rd_T45 l0_0 x3_1).f1)) ∧ w'.cell? ⟨gb159, 2, none⟩ = some (.int .i64 ((rd_T45 l0_0 x3_1).f2)) ∧ w'.cell? ⟨gb157, 0, none⟩ = some (.slice (some ad158) l0_0.length c0_0) ∧ w'.cell? (ad158.add (((ji21)).toNat * 3)) = some (.string ((rd_T45 l0_0 (ji21)).f0)) ∧ w'.cell? ⟨(ad158.add (((ji21)).toNat * 3)).block, (ad158.add (((ji21)).toNat * 3)).off + 1, none⟩ = some (.string ((rd_T45 l0_0 (ji21)).f1)) ∧ w'.cell? ⟨(ad158.add (((ji21)).toNat * 3)).block, (ad158.add (((ji21)).toNat * 3)).off + 2, none⟩ = some (.int .i64 ((rd_T45 l0_0 (ji21)).f2))) (ds := []) #[false, false, false, false, false, false, false, false, false, false, false, false, false, false, false, false, false, false, false, false, false, false, false, false, false, false, false, false, false, false, false, false, false, false, false] (by kernel_rfl) rfl rfl ⟨CZ BK159.out 0, CZ BK159.out 1, CZ BK159.out 2, CZ BK157.out 0, ((HB.out.cell (World.block_lt_of_cell? w _ hw162_0)).trans hw162_0), ((HB.out.cell (World.block_lt_of_cell? w _ hw162_1)).trans hw162_1), ((HB.out.cell (World.block_lt_of_cell? w _ hw162_2)).trans hw162_2)⟩ (fun hHeld => ?_); refine with_tabW spec_DiskOk.tab7 spec_DiskOk.bits7 (fun HT_ HW_ => ?_); generalize w35.drew = w36 at BK157 BK159 HB hx162_0 hx162_1 hx162_2 hHeld ⊢; refine pV 0 21 (OB 35 1) ?_; refine pT 1 22 (OB 35 3) ?_; refine one_ (i := 2) (N := some 23) (OB 35 7) rfl rfl (one_of HT_.out (by kernel_rfl)) (by decide) (fun K hK => ?_); refine goes_ Try.func48 (by kernel_rfl) rfl #[.string ((rd_T45 l0_0 x3_1).f0)] (by rfl) rfl rfl (MA) ?_
    with_reducible refine (spec_l03Name.calls ((rd_T45 l0_0 x3_1).f0) true _ A9.out).mono ?_
    rintro e w' ⟨rfl, ⟨nd, rfl⟩⟩; refine ⟨_, rfl, ?_⟩; refine hK.out _ _ ⟨CZ BK159.out 0, CZ BK159.out 1, CZ BK159.out 2, CZ BK157.out 0, ((HB.out.cell (World.block_lt_of_cell? w _ hw162_0)).trans hw162_0), ((HB.out.cell (World.block_lt_of_cell? w _ hw162_1)).trans hw162_1), ((HB.out.cell (World.block_lt_of_cell? w _ hw162_2)).trans hw162_2)⟩ (fun hHeld => ?_); clear hK K; refine norm_ (a' := ?_) ?_ ?_; rotate_left
    ·
     show Act.put _ (some 23) _ = _; simp only [Act.put, zA, zB, zC, i64_w, i32_w]; rfl
    refine pV 3 24 (OB 35 15) ?_; refine pV 4 25 (OB 35 31) ?_; refine pV 5 26 (OB 35 63) ?_; refine pT 6 27 (OB 35 127) ?_; refine pV 7 28 (OB 35 255) ?_; refine pV 8 29 (OB 35 511) ?_; refine pV 9 30 (OB 35 1023) ?_; refine pV 10 31 (OB 35 2047) ?_; refine pV 11 32 (OB 35 4095) ?_; refine pV 13 34 (OB 35 12287) ?_; refine pT 12 33 (OB 35 16383) ?_; refine pT 14 35 (OB 35 32767) ?_; refine pV 15 36 (OB 35 65535) ?_; refine one_ (i := 16) (N := some 37) (OB 35 131071) rfl rfl (one_of HT_.out (by kernel_rfl)) (by decide) (fun K hK => ?_); refine goes_ Try.func49 (by kernel_rfl) rfl #[.int .i64 ((rd_T45 l0_0 x3_1).f2), .int .i64 0, .int .i64 (((rd_T45 l0_0 x3_1).f1).size : Int)] (by rfl) rfl rfl (MA) ?_
    with_reducible refine (spec_l01In.calls ((rd_T45 l0_0 x3_1).f2) 0 (((rd_T45 l0_0 x3_1).f1).size : Int) true _ A18.out).mono ?_
    rintro e w' ⟨rfl, ⟨nd, rfl⟩⟩; refine ⟨_, rfl, ?_⟩; refine hK.out _ _ ⟨CZ BK159.out 0, CZ BK159.out 1, CZ BK159.out 2, CZ BK157.out 0, ((HB.out.cell (World.block_lt_of_cell? w _ hw162_0)).trans hw162_0), ((HB.out.cell (World.block_lt_of_cell? w _ hw162_1)).trans hw162_1), ((HB.out.cell (World.block_lt_of_cell? w _ hw162_2)).trans hw162_2)⟩ (fun hHeld => ?_); clear hK K; refine norm_ (a' := ?_) ?_ ?_; rotate_left
    ·
     show Act.put _ (some 37) _ = _; simp only [Act.put, zA, zB, zC, i64_w, i32_w]; rfl
    refine pV 17 38 (OB 35 262143) ?_; refine pV 18 39 (OB 35 524287) ?_; refine pV 19 40 (OB 35 1048575) ?_; refine pV 20 41 (OB 35 2097151) ?_; refine pV 21 42 (OB 35 4194303) ?_; refine pV 22 43 (OB 35 8388607) ?_; refine pV 23 44 (OB 35 16777215) ?_; refine pV 25 46 (OB 35 50331647) ?_; refine pV 26 47 (OB 35 117440511) ?_; refine pV 30 51 (OB 35 1191182335) ?_; refine pT 24 45 (OB 35 1207959551) ?_; refine pV 27 48 (OB 35 1342177279) ?_; refine pV 28 49 (OB 35 1610612735) ?_; refine pT 29 50 (OB 35 2147483647) ?_; refine pT 31 52 (OB 35 4294967295) ?_; refine pV 32 53 (OB 35 8589934591) ?_; refine pV 33 54 (OB 35 17179869183) ?_; refine pV 34 55 (OB 35 34359738367) ?_; refine done_ (done_of HT_.out (by kernel_rfl)) ?_
    try go_wp2
    go_ret
    exact ⟨by first | rfl | (simp [errW_none, errW_some] <;> rfl) | (simp only [← hji21]; first | rfl | (simp [errW_none, errW_some] <;> rfl)) | (simp [*, errW_none, errW_some] <;> rfl), BL⟩
   rw [if_pos c24] at H; have c24b0 : (Op.bytesLess (((rd_T45 l0_0 (ji21)).f0).toList) (((rd_T45 l0_0 x3_1).f0).toList)) = true := c24; clear c24; have H' := Aside0.mk H; clear H; obtain ⟨hcz25_0, hfz25_0⟩ := KC1 BK157.out; have p158 : 0 ≤ (x3_1 : Int) := of_decide_eq_true AS; have q158 : x3_1 < (l0_0.length : Int) := of_decide_eq_true AS; obtain ⟨ad158, e158, hx158_0, hx158_1, hx158_2⟩ := at_T45 HR0_0.out x3_1 p158 q158; cases e158; replace hx158_0 := HX hx158_0; replace hx158_1 := HX hx158_1; replace hx158_2 := HX hx158_2; replace p158 := eq_true p158; replace q158 := eq_true q158
   try go_wp2_with (first | ((with_reducible refine gate_dst (N := 4) rfl ?_); (try (refine gate_guard (by rfl) ?_; dsimp only)); refine bE 4 #[.string (⟨#[]⟩ : ByteArray), .string (⟨#[]⟩ : ByteArray), .int .i64 0] 45 ?_; intro gb159 hg w26 hbox hb; have BK159 := Aside0.mk (hbox); have GW159 : Aside0 (w.heap.size ≤ gb159) := GS; have GE159 := GW159; have NB157_159 := NL BK157.out hg; have NB159_157 := NG BK157.out hg; replace BK157 := BB BK157.out hb; replace HB := BS hb; clear hb hbox hg; obtain ⟨hnb27, hnc27⟩ := NN NB159_157.out; obtain ⟨hcz28_0, hcz28_1, hcz28_2, hfz28_0, hfz28_1, hfz28_2⟩ := KC3 BK159.out))
   have n0_ : Aside0 ((((w26.setCell ⟨gb159, 0, none⟩ (.string ((rd_T45 l0_0 x3_1).f0))).setCell ⟨gb159, 1, none⟩ (.string ((rd_T45 l0_0 x3_1).f1))).setCell ⟨gb159, 2, none⟩ (.int .i64 ((rd_T45 l0_0 x3_1).f2))).heap[gb157]? = some (.cells #[.slice (some ad158) l0_0.length c0_0] 29 (0, 0))) := ⟨BP BK157.out⟩; have n1_ : Aside0 ((((w26.setCell ⟨gb159, 0, none⟩ (.string ((rd_T45 l0_0 x3_1).f0))).setCell ⟨gb159, 1, none⟩ (.string ((rd_T45 l0_0 x3_1).f1))).setCell ⟨gb159, 2, none⟩ (.int .i64 ((rd_T45 l0_0 x3_1).f2))).heap[gb159]? = some (.cells #[.string ((rd_T45 l0_0 x3_1).f0), .string ((rd_T45 l0_0 x3_1).f1), .int .i64 ((rd_T45 l0_0 x3_1).f2)] 45 (0, 0))) := ⟨BU BK159.out⟩; have n2_ : Aside0 (Below w.heap.size w (((w26.setCell ⟨gb159, 0, none⟩ (.string ((rd_T45 l0_0 x3_1).f0))).setCell ⟨gb159, 1, none⟩ (.string ((rd_T45 l0_0 x3_1).f1))).setCell ⟨gb159, 2, none⟩ (.int .i64 ((rd_T45 l0_0 x3_1).f2)))) := ⟨BL⟩
   (try clear BK157)
   (try clear BK159)
   (try clear HB)
   generalize (((w26.setCell ⟨gb159, 0, none⟩ (.string ((rd_T45 l0_0 x3_1).f0))).setCell ⟨gb159, 1, none⟩ (.string ((rd_T45 l0_0 x3_1).f1))).setCell ⟨gb159, 2, none⟩ (.int .i64 ((rd_T45 l0_0 x3_1).f2))) = w29 at n0_ n1_ n2_ ⊢; have BK157 := n0_; have BK159 := n1_; have HB := n2_; clear n0_ n1_ n2_; replace BK157 := BD BK157; replace BK159 := BD BK159; replace HB := Aside0.mk (below_drew1 HB.out); have p162 : 0 ≤ ((ji21) : Int) := of_decide_eq_true AS; have q162 : (ji21) < (l0_0.length : Int) := of_decide_eq_true AS; obtain ⟨ad162, e162, hx162_0, hx162_1, hx162_2⟩ := at_T45 HR0_0.out (ji21) p162 q162; have hw162_2 := hx162_2; have hw162_1 := hx162_1; have hw162_0 := hx162_0; obtain rfl : ad158 = ad162 := (by injection e162); replace hx162_0 := HX hx162_0; replace hx162_1 := HX hx162_1; replace hx162_2 := HX hx162_2; replace p162 := eq_true p162; replace q162 := eq_true q162; refine start_ (n := 35) (S := fun w' => w'.cell? ⟨gb159, 0, none⟩ = some (.string ((rd_T45 l0_0 x3_1).f0)) ∧ w'.cell? ⟨gb159, 1, none⟩ = some (.string ((rd_T45 l0_0 x3_1).f1)) ∧ w'.cell? ⟨gb159, 2, none⟩ = some (.int .i64 ((rd_T45 l0_0 x3_1).f2)) ∧ w'.cell? ⟨gb157, 0, none⟩ = some (.slice (some ad158) l0_0.length c0_0) ∧ w'.cell? (ad158.add (((ji21)).toNat * 3)) = some (.string ((rd_T45 l0_0 (ji21)).f0)) ∧ w'.cell? ⟨(ad158.add (((ji21)).toNat * 3)).block, (ad158.add (((ji21)).toNat * 3)).off + 1, none⟩ = some (.string ((rd_T45 l0_0 (ji21)).f1)) ∧ w'.cell? ⟨(ad158.add (((ji21)).toNat * 3)).block, (ad158.add (((ji21)).toNat * 3)).off + 2, none⟩ = some (.int .i64 ((rd_T45 l0_0 (ji21)).f2))) (ds := []) #[false, false, false, false, false, false, false, false, false, false, false, false, false, false, false, false, false, false, false, false, false, false, false, false, false, false, false, false, false, false, false, false, false, false, false] (by kernel_rfl) rfl rfl ⟨CZ BK159.out 0, CZ BK159.out 1, CZ BK159.out 2, CZ BK157.out 0, ((HB.out.cell (World.block_lt_of_cell? w _ hw162_0)).trans hw162_0), ((HB.out.cell (World.block_lt_of_cell? w _ hw162_1)).trans hw162_1), ((HB.out.cell (World.block_lt_of_cell? w _ hw162_2)).trans hw162_2)⟩ (fun hHeld => ?_); refine with_tabW spec_DiskOk.tab7 spec_DiskOk.bits7 (fun HT_ HW_ => ?_); generalize w29.drew = w30 at BK157 BK159 HB hx162_0 hx162_1 hx162_2 hHeld ⊢; refine pV 0 21 (OB 35 1) ?_; refine pT 1 22 (OB 35 3) ?_; refine one_ (i := 2) (N := some 23) (OB 35 7) rfl rfl (one_of HT_.out (by kernel_rfl)) (by decide) (fun K hK => ?_); refine goes_ Try.func48 (by kernel_rfl) rfl #[.string ((rd_T45 l0_0 x3_1).f0)] (by rfl) rfl rfl (MA) ?_
   with_reducible refine (spec_l03Name.calls ((rd_T45 l0_0 x3_1).f0) true _ A9.out).mono ?_
   rintro e w' ⟨rfl, ⟨nd, rfl⟩⟩; refine ⟨_, rfl, ?_⟩; refine hK.out _ _ ⟨CZ BK159.out 0, CZ BK159.out 1, CZ BK159.out 2, CZ BK157.out 0, ((HB.out.cell (World.block_lt_of_cell? w _ hw162_0)).trans hw162_0), ((HB.out.cell (World.block_lt_of_cell? w _ hw162_1)).trans hw162_1), ((HB.out.cell (World.block_lt_of_cell? w _ hw162_2)).trans hw162_2)⟩ (fun hHeld => ?_); clear hK K; refine norm_ (a' := ?_) ?_ ?_; rotate_left
   ·
    show Act.put _ (some 23) _ = _; simp only [Act.put, zA, zB, zC, i64_w, i32_w]; rfl
   refine pV 3 24 (OB 35 15) ?_; refine pV 4 25 (OB 35 31) ?_; refine pV 5 26 (OB 35 63) ?_; refine pT 6 27 (OB 35 127) ?_; refine pV 7 28 (OB 35 255) ?_; refine pV 8 29 (OB 35 511) ?_; refine pV 9 30 (OB 35 1023) ?_; refine pV 10 31 (OB 35 2047) ?_; refine pV 11 32 (OB 35 4095) ?_; refine pV 13 34 (OB 35 12287) ?_; refine pT 12 33 (OB 35 16383) ?_; refine pT 14 35 (OB 35 32767) ?_; refine pV 15 36 (OB 35 65535) ?_; refine one_ (i := 16) (N := some 37) (OB 35 131071) rfl rfl (one_of HT_.out (by kernel_rfl)) (by decide) (fun K hK => ?_); refine goes_ Try.func49 (by kernel_rfl) rfl #[.int .i64 ((rd_T45 l0_0 x3_1).f2), .int .i64 0, .int .i64 (((rd_T45 l0_0 x3_1).f1).size : Int)] (by rfl) rfl rfl (MA) ?_
   with_reducible refine (spec_l01In.calls ((rd_T45 l0_0 x3_1).f2) 0 (((rd_T45 l0_0 x3_1).f1).size : Int) true _ A18.out).mono ?_
   rintro e w' ⟨rfl, ⟨nd, rfl⟩⟩; refine ⟨_, rfl, ?_⟩; refine hK.out _ _ ⟨CZ BK159.out 0, CZ BK159.out 1, CZ BK159.out 2, CZ BK157.out 0, ((HB.out.cell (World.block_lt_of_cell? w _ hw162_0)).trans hw162_0), ((HB.out.cell (World.block_lt_of_cell? w _ hw162_1)).trans hw162_1), ((HB.out.cell (World.block_lt_of_cell? w _ hw162_2)).trans hw162_2)⟩ (fun hHeld => ?_); clear hK K; refine norm_ (a' := ?_) ?_ ?_; rotate_left
   ·
    show Act.put _ (some 37) _ = _; simp only [Act.put, zA, zB, zC, i64_w, i32_w]; rfl
   refine pV 17 38 (OB 35 262143) ?_; refine pV 18 39 (OB 35 524287) ?_; refine pV 19 40 (OB 35 1048575) ?_; refine pV 20 41 (OB 35 2097151) ?_; refine pV 21 42 (OB 35 4194303) ?_; refine pV 22 43 (OB 35 8388607) ?_; refine pV 23 44 (OB 35 16777215) ?_; refine pV 25 46 (OB 35 50331647) ?_; refine pV 26 47 (OB 35 117440511) ?_; refine pV 30 51 (OB 35 1191182335) ?_; refine pT 24 45 (OB 35 1207959551) ?_; refine pV 27 48 (OB 35 1342177279) ?_; refine pV 28 49 (OB 35 1610612735) ?_; refine pT 29 50 (OB 35 2147483647) ?_; refine pT 31 52 (OB 35 4294967295) ?_; refine pV 32 53 (OB 35 8589934591) ?_; refine pV 33 54 (OB 35 17179869183) ?_; refine pV 34 55 (OB 35 34359738367) ?_; refine done_ (done_of HT_.out (by kernel_rfl)) ?_
   try go_wp2
   go_roundg k1
   case measure => have := HK1.out; omega
   case rel => exact ⟨(wrap64 (x3_1 + 1)), SD, H', ⟨by have := HK1.out; omega⟩, ⟨BQ BK157.out⟩, ⟨BL⟩⟩

/-! ### spec_l03At: function 53 -/
def spec_l03At.l0 : Nat → ByteArray → Int → List (S45) → Option (Int)
 | 0, _, _, _ => none
 | k + 1, x1, x5, x164000 => if x5 < (x164000.length : Int) then (if 0 ≤ x5 then (if ((rd_T45 x164000 x5).f0).toList = x1.toList then (some x5) else (spec_l03At.l0 k x1 (wrap64 (x5 + 1)) x164000)) else (none)) else (some (-1))
def spec_l03At.f (k : Nat) (l0_0 : List (S45)) (a1 : ByteArray) : Option (Int) := spec_l03At.l0 k a1 0 l0_0
set_option maxHeartbeats 8000000 in
set_option maxRecDepth 100000 in
theorem spec_l03At.calls (k : Nat) (A0_0 : Option Addr) (c0_0 : Nat) (l0_0 : List (S45)) (a1 : ByteArray) (r : Int) (w : World) (hr0_0 : Kd.C k45 w A0_0 l0_0.length l0_0) (hc0_0 : l0_0.length ≤ c0_0) (h : spec_l03At.f k l0_0 a1 = some r) :
  Calls Try.prog 53 #[.agg #[.slice A0_0 l0_0.length c0_0], .string a1] w fun e w' => e = .returned (.int .i64 r) ∧ Below w.heap.size w w' := by
 have hu29 := Try.underlying29
 have HR0_0 := Aside0.mk hr0_0
 have HC0_0 := Aside0.mk hc0_0
 clear hr0_0 hc0_0
 have HB := Aside0.mk (Below.refl w.heap.size w)
 have H : (spec_l03At.l0 k a1 0 l0_0) = some r := h
 clear h
 have H' := Aside0.mk H
 clear H
 go_enter Try.func53, Try.ntmps53
 go_wp2_with (first | ((with_reducible refine gate_dst (N := 2) rfl ?_); refine bE 2 #[.slice A0_0 l0_0.length c0_0] 29 ?_; intro gb163 hg w3 hbox hb; have BK163 := Aside0.mk (hbox); have GW163 : Aside0 (w.heap.size ≤ gb163) := GS; have GE163 := GW163; replace HB := BS hb; clear hb hbox hg))
 go_loopg [5] k (fun kq v5 w' => ∃ (x5_1 : Int), v5 = .int .i64 x5_1 ∧ Aside0 (spec_l03At.l0 kq a1 x5_1 l0_0 = some r) ∧ Aside0 (kq ≤ k) ∧ Aside0 (w'.heap[gb163]? = some (.cells #[(.slice A0_0 l0_0.length c0_0)] 29 (0, 0))) ∧ Aside0 (Below w.heap.size w w'))
 case atStart => exact ⟨(0), SD, H', ⟨Nat.le_refl _⟩, ⟨BQ BK163.out⟩, ⟨BL⟩⟩
 case round =>
  clear H'
  try clear p2
  obtain ⟨x5_1, rfl, HA, HK1, BK163, HB⟩ := hrel; cases gk with
  | zero => exact absurd HA.out (by simp [spec_l03At.l0])
  | succ k1 =>
   have H := HA.out; clear HA; simp only [spec_l03At.l0] at H
   by_cases c4 : x5_1 < (l0_0.length : Int); rotate_left
   ·
    rw [if_neg c4] at H; have c4b0 : decide (x5_1 < (l0_0.length : Int)) = false := decide_eq_false c4; clear c4; obtain rfl := Option.some.inj H; obtain ⟨hcz9_0, hfz9_0⟩ := KC1 BK163.out
    go_wp2
    go_ret
    exact ⟨EE, BL⟩
   rw [if_pos c4] at H; have c4b0 : decide (x5_1 < (l0_0.length : Int)) = true := decide_eq_true c4; clear c4
   by_cases c5 : 0 ≤ x5_1; rotate_left
   ·
    rw [if_neg c5] at H; exact absurd H (by simp)
   rw [if_pos c5] at H; have c5b0 : decide (0 ≤ x5_1) = true := decide_eq_true c5; clear c5
   by_cases c6 : ((rd_T45 l0_0 x5_1).f0).toList = a1.toList
   ·
    rw [if_pos c6] at H; have c6b0 : (((rd_T45 l0_0 x5_1).f0).toList == a1.toList) = true := beq_iff_eq.mpr c6; have c6b1 : (((rd_T45 l0_0 x5_1).f0).toList != a1.toList) = false := bne_eq_false_iff_eq.mpr c6; clear c6; obtain rfl := Option.some.inj H; obtain ⟨hcz7_0, hfz7_0⟩ := KC1 BK163.out; have p164 : 0 ≤ (x5_1 : Int) := of_decide_eq_true AS; have q164 : x5_1 < (l0_0.length : Int) := of_decide_eq_true AS; obtain ⟨ad164, e164, hx164_0, hx164_1, hx164_2⟩ := at_T45 HR0_0.out x5_1 p164 q164; cases e164; replace hx164_0 := HX hx164_0; replace hx164_1 := HX hx164_1; replace hx164_2 := HX hx164_2; replace p164 := eq_true p164; replace q164 := eq_true q164
    go_wp2
    go_ret
    exact ⟨EE, BL⟩
   rw [if_neg c6] at H; have c6b0 : (((rd_T45 l0_0 x5_1).f0).toList == a1.toList) = false := beq_eq_false_iff_ne.mpr c6; have c6b1 : (((rd_T45 l0_0 x5_1).f0).toList != a1.toList) = true := bne_iff_ne.mpr c6; have H' := Aside0.mk H; clear H; obtain ⟨hcz8_0, hfz8_0⟩ := KC1 BK163.out; have p164 : 0 ≤ (x5_1 : Int) := of_decide_eq_true AS; have q164 : x5_1 < (l0_0.length : Int) := of_decide_eq_true AS; obtain ⟨ad164, e164, hx164_0, hx164_1, hx164_2⟩ := at_T45 HR0_0.out x5_1 p164 q164; cases e164; replace hx164_0 := HX hx164_0; replace hx164_1 := HX hx164_1; replace hx164_2 := HX hx164_2; replace p164 := eq_true p164; replace q164 := eq_true q164
   go_wp2
   go_roundg k1
   case measure => have := HK1.out; omega
   case rel => exact ⟨(wrap64 (x5_1 + 1)), SD, H', ⟨by have := HK1.out; omega⟩, ⟨BQ BK163.out⟩, ⟨BL⟩⟩

/-! ### spec_l03Put: function 58 -/
mutual
def spec_l03Put.l0 : Nat → Int → List (S45) → ByteArray → ByteArray → Int → List (S45) → Option ((List (S45)))
 | 0, _, _, _, _, _, _ => none
 | k + 1, x6, x166000, x167000, x167001, x167002, x169000 => if x6 < (x166000.length : Int) then (if 0 ≤ x6 then (if (Op.bytesLess (((rd_T45 x166000 x6).f0).toList) x167000.toList) = true then (if x169000.length < 3518437208883 then (spec_l03Put.l0 k (wrap64 (x6 + 1)) x166000 x167000 x167001 x167002 (x169000 ++ [(⟨(rd_T45 x166000 x6).f0, (rd_T45 x166000 x6).f1, (rd_T45 x166000 x6).f2⟩ : S45)])) else (none)) else (spec_l03Put.l0 k (wrap64 (x6 + 1)) x166000 x167000 x167001 x167002 x169000)) else (none)) else (if x169000.length < 3518437208883 then (spec_l03Put.l1 k 0 x166000 x167000 x167001 x167002 (x169000 ++ [(⟨x167000, x167001, x167002⟩ : S45)])) else (none))
def spec_l03Put.l1 : Nat → Int → List (S45) → ByteArray → ByteArray → Int → List (S45) → Option ((List (S45)))
 | 0, _, _, _, _, _, _ => none
 | k + 1, x7, x166000, x167000, x167001, x167002, x169000 => if x7 < (x166000.length : Int) then (if 0 ≤ x7 then (if (Op.bytesLess x167000.toList (((rd_T45 x166000 x7).f0).toList)) = true then (if x169000.length < 3518437208883 then (spec_l03Put.l1 k (wrap64 (x7 + 1)) x166000 x167000 x167001 x167002 (x169000 ++ [(⟨(rd_T45 x166000 x7).f0, (rd_T45 x166000 x7).f1, (rd_T45 x166000 x7).f2⟩ : S45)])) else (none)) else (spec_l03Put.l1 k (wrap64 (x7 + 1)) x166000 x167000 x167001 x167002 x169000)) else (none)) else (some x169000)
end
def spec_l03Put.f (k : Nat) (l0_0 : List (S45)) (a1_0 : ByteArray) (a1_1 : ByteArray) (a1_2 : Int) : Option ((List (S45))) := spec_l03Put.l0 k 0 l0_0 a1_0 a1_1 a1_2 ([] : List (S45))
def spec_l03Put.T5 : Bool × List (List Nat × List Nat) := (true, [([], []), ([0], [0]), ([], []), ([1, 2], [1, 2]), ([3], [3]), ([4], [4]), ([], []), ([6], [6]), ([5, 7], [5, 7])])
def spec_l03Put.B5 : List Nat := [0, 1, 0, 7, 15, 31, 0, 64, 255]
theorem spec_l03Put.tab5 : rtab .any (opsOf Try.f58 5) = spec_l03Put.T5 := by kernel_rfl
theorem spec_l03Put.bits5 : waitsOk spec_l03Put.T5.2 spec_l03Put.B5 = true := by kernel_rfl
def spec_l03Put.T6 : Bool × List (List Nat × List Nat) := (true, [([], []), ([0], [0]), ([], []), ([2], [2]), ([], []), ([3, 4], [3, 4]), ([5], [5]), ([6], [6]), ([1, 7], [1, 7]), ([0, 1, 2, 3, 4, 5, 6, 7, 8], []), ([9, 8, 8, 0, 1, 2, 3, 4, 5, 6, 7, 8], [8, 9])])
def spec_l03Put.B6 : List Nat := [0, 1, 0, 4, 0, 28, 60, 124, 255, 511, 1023]
theorem spec_l03Put.tab6 : rtab .any (opsOf Try.f58 6) = spec_l03Put.T6 := by kernel_rfl
theorem spec_l03Put.bits6 : waitsOk spec_l03Put.T6.2 spec_l03Put.B6 = true := by kernel_rfl
def spec_l03Put.T11 : Bool × List (List Nat × List Nat) := (true, [([], []), ([0], [0]), ([], []), ([1, 2], [1, 2]), ([3], [3]), ([4], [4]), ([], []), ([6], [6]), ([5, 7], [5, 7])])
def spec_l03Put.B11 : List Nat := [0, 1, 0, 7, 15, 31, 0, 64, 255]
theorem spec_l03Put.tab11 : rtab .any (opsOf Try.f58 11) = spec_l03Put.T11 := by kernel_rfl
theorem spec_l03Put.bits11 : waitsOk spec_l03Put.T11.2 spec_l03Put.B11 = true := by kernel_rfl
def spec_l03Put.T12 : Bool × List (List Nat × List Nat) := (true, [([], []), ([0], [0]), ([], []), ([2], [2]), ([], []), ([3, 4], [3, 4]), ([5], [5]), ([6], [6]), ([1, 7], [1, 7]), ([0, 1, 2, 3, 4, 5, 6, 7, 8], []), ([9, 8, 8, 0, 1, 2, 3, 4, 5, 6, 7, 8], [8, 9])])
def spec_l03Put.B12 : List Nat := [0, 1, 0, 4, 0, 28, 60, 124, 255, 511, 1023]
theorem spec_l03Put.tab12 : rtab .any (opsOf Try.f58 12) = spec_l03Put.T12 := by kernel_rfl
theorem spec_l03Put.bits12 : waitsOk spec_l03Put.T12.2 spec_l03Put.B12 = true := by kernel_rfl
set_option maxHeartbeats 8000000 in
set_option maxRecDepth 100000 in
theorem spec_l03Put.calls (k : Nat) (A0_0 : Option Addr) (c0_0 : Nat) (l0_0 : List (S45)) (a1_0 : ByteArray) (a1_1 : ByteArray) (a1_2 : Int) (r : List (S45)) (w : World) (hr0_0 : Kd.C k45 w A0_0 l0_0.length l0_0) (hc0_0 : l0_0.length ≤ c0_0) (h : spec_l03Put.f k l0_0 a1_0 a1_1 a1_2 = some r) :
  Calls Try.prog 58 #[.agg #[.slice A0_0 l0_0.length c0_0], .agg #[.string a1_0, .string a1_1, .int .i64 a1_2]] w fun e w' => ∃ v0_ : Value, e = .returned (.agg #[v0_]) ∧ Kd.R k45 45 w' w.heap.size (fun _ => True) v0_ r ∧ Below w.heap.size w w' := by
 have hu29 := Try.underlying29
 have hu45 := Try.underlying45
 have HR0_0 := Aside0.mk hr0_0
 have HC0_0 := Aside0.mk hc0_0
 clear hr0_0 hc0_0
 have HB := Aside0.mk (Below.refl w.heap.size w)
 have H : (spec_l03Put.l0 k 0 l0_0 a1_0 a1_1 a1_2 ([] : List (S45))) = some r := h
 clear h
 have H' := Aside0.mk H
 clear H
 go_enter Try.func58, Try.ntmps58
 go_wp2_with (first | ((with_reducible refine gate_dst (N := 2) rfl ?_); refine bE 2 #[.slice A0_0 l0_0.length c0_0] 29 ?_; intro gb165 hg w3 hbox hb; have BK165 := Aside0.mk (hbox); have GW165 : Aside0 (w.heap.size ≤ gb165) := GS; have GE165 := GW165; replace HB := BS hb; clear hb hbox hg) | ((with_reducible refine gate_dst (N := 3) rfl ?_); refine bE 3 #[.string a1_0, .string a1_1, .int .i64 a1_2] 45 ?_; intro gb166 hg w4 hbox hb; have BK166 := Aside0.mk (hbox); have GW166 : Aside0 (w.heap.size ≤ gb166) := GS; have GE166 := GW166; have NB165_166 := NL BK165.out hg; have NB166_165 := NG BK165.out hg; replace BK165 := BB BK165.out hb; replace HB := BS hb; clear hb hbox hg) | ((with_reducible refine gate_dst (N := 4) rfl ?_); refine bE 4 #[.slice none 0 0] 29 ?_; intro gb167 hg w5 hbox hb; have BK167 := Aside0.mk (hbox); have GW167 : Aside0 (w.heap.size ≤ gb167) := GS; have GE167 := GW167; have NB165_167 := NL BK165.out hg; have NB167_165 := NG BK165.out hg; have NB166_167 := NL BK166.out hg; have NB167_166 := NG BK166.out hg; replace BK165 := BB BK165.out hb; replace BK166 := BB BK166.out hb; replace HB := BS hb; clear hb hbox hg) | ((with_reducible refine gate_dst (N := 5) rfl ?_); refine bE 5 #[.slice none 0 0] 29 ?_; intro gb168 hg w6 hbox hb; have BK168 := Aside0.mk (hbox); have GW168 : Aside0 (w.heap.size ≤ gb168) := GS; have GE168 := GW168; have NB165_168 := NL BK165.out hg; have NB168_165 := NG BK165.out hg; have NB166_168 := NL BK166.out hg; have NB168_166 := NG BK166.out hg; have NB167_168 := NL BK167.out hg; have NB168_167 := NG BK167.out hg; replace BK165 := BB BK165.out hb; replace BK166 := BB BK166.out hb; replace BK167 := BB BK167.out hb; replace HB := BS hb; clear hb hbox hg; obtain ⟨hnb7, hnc7⟩ := NN NB168_165.out; obtain ⟨hnb8, hnc8⟩ := NN NB168_166.out; obtain ⟨hnb9, hnc9⟩ := NN NB168_167.out; obtain ⟨hcz10_0, hfz10_0⟩ := KC1 BK168.out))
 go_loopg [6] k (fun kq v6 w' => ∃ (x6_1 : Int) (x169000_1 : List (S45)) (u169000 : Value), v6 = .int .i64 x6_1 ∧ Aside0 (spec_l03Put.l0 kq x6_1 l0_0 a1_0 a1_1 a1_2 x169000_1 = some r) ∧ Aside0 (kq ≤ k) ∧ Aside0 (Kd.R k45 45 w' w.heap.size (fun k_ => k_ ≠ gb166) u169000 x169000_1) ∧ Aside0 (w'.heap[gb165]? = some (.cells #[(.slice A0_0 l0_0.length c0_0)] 29 (0, 0))) ∧ Aside0 (w'.heap[gb166]? = some (.cells #[.string a1_0, .string a1_1, .int .i64 a1_2] 45 (0, 0))) ∧ Aside0 (w'.heap[gb167]? = some (.cells #[(.slice none 0 0)] 29 (0, 0))) ∧ Aside0 (w'.heap[gb168]? = some (.cells #[u169000] 29 (0, 0))) ∧ Aside0 (Below w.heap.size w w'))
 case atStart => exact ⟨(0), (([] : List (S45))), (.slice none 0 0), SD, H', ⟨Nat.le_refl _⟩, ⟨by first | exact Kd.R_nil _ _ _ _ _ | exact Kd.N_nil _ _ _ _ _ | exact Kd.V_nil _ _ _ _ _ | exact Kd.Q_nil _ _ _ _ _ | exact Kd.S_nil _ _ _ _ _⟩, ⟨BP BK165.out⟩, ⟨BP BK166.out⟩, ⟨BP BK167.out⟩, ⟨BU BK168.out⟩, ⟨BL⟩⟩
 case round =>
  clear H'
  try clear p2 c5 c7 c8 c9 hcz10_0 hfz10_0
  obtain ⟨x6_1, x169000_1, u169000, rfl, HA, HK1, HO_169000, BK165, BK166, BK167, BK168, HB⟩ := hrel; cases gk with
  | zero => exact absurd HA.out (by simp [spec_l03Put.l0])
  | succ k1 =>
   have H := HA.out; clear HA; simp only [spec_l03Put.l0] at H
   by_cases c11 : x6_1 < (l0_0.length : Int)
   ·
    rw [if_pos c11] at H; have c11b0 : decide (x6_1 < (l0_0.length : Int)) = true := decide_eq_true c11; clear c11
    by_cases c12 : 0 ≤ x6_1; rotate_left
    ·
     rw [if_neg c12] at H; exact absurd H (by simp)
    rw [if_pos c12] at H; have c12b0 : decide (0 ≤ x6_1) = true := decide_eq_true c12; clear c12
    by_cases c13 : (Op.bytesLess (((rd_T45 l0_0 x6_1).f0).toList) a1_0.toList) = true; rotate_left
    ·
     rw [if_neg c13] at H
     have c13b0 : (Op.bytesLess (((rd_T45 l0_0 x6_1).f0).toList) a1_0.toList) = false := by simpa using c13
     clear c13; have H' := Aside0.mk H; clear H; obtain ⟨hnb24, hnc24⟩ := NN NB165_166.out; obtain ⟨hnb25, hnc25⟩ := NN NB165_167.out; obtain ⟨hnb26, hnc26⟩ := NN NB165_168.out; obtain ⟨hcz27_0, hfz27_0⟩ := KC1 BK165.out
     try go_wp2
     replace HO_169000 := DR HO_169000; replace BK165 := BD BK165; replace BK166 := BD BK166; replace BK167 := BD BK167; replace BK168 := BD BK168; replace HB := Aside0.mk (below_drew1 HB.out); have p169 : 0 ≤ (x6_1 : Int) := of_decide_eq_true AS; have q169 : x6_1 < (l0_0.length : Int) := of_decide_eq_true AS; obtain ⟨ad169, e169, hx169_0, hx169_1, hx169_2⟩ := at_T45 HR0_0.out x6_1 p169 q169; have hw169_2 := hx169_2; have hw169_1 := hx169_1; have hw169_0 := hx169_0; cases e169; replace hx169_0 := HX hx169_0; replace hx169_1 := HX hx169_1; replace hx169_2 := HX hx169_2; replace p169 := eq_true p169; replace q169 := eq_true q169; refine start_ (n := 9) (S := fun w' => w'.cell? ⟨gb165, 0, none⟩ = some (.slice (some ad169) l0_0.length c0_0) ∧ w'.cell? ⟨gb166, 0, none⟩ = some (.string a1_0) ∧ w'.cell? ⟨gb166, 1, none⟩ = some (.string a1_1) ∧ w'.cell? ⟨gb166, 2, none⟩ = some (.int .i64 a1_2) ∧ w'.cell? (ad169.add ((x6_1).toNat * 3)) = some (.string ((rd_T45 l0_0 x6_1).f0)) ∧ w'.cell? ⟨(ad169.add ((x6_1).toNat * 3)).block, (ad169.add ((x6_1).toNat * 3)).off + 1, none⟩ = some (.string ((rd_T45 l0_0 x6_1).f1)) ∧ w'.cell? ⟨(ad169.add ((x6_1).toNat * 3)).block, (ad169.add ((x6_1).toNat * 3)).off + 2, none⟩ = some (.int .i64 ((rd_T45 l0_0 x6_1).f2))) (ds := []) #[false, false, false, false, false, false, false, false, false] (by kernel_rfl) rfl rfl ⟨CZ BK165.out 0, CZ BK166.out 0, CZ BK166.out 1, CZ BK166.out 2, ((HB.out.cell (World.block_lt_of_cell? w _ hw169_0)).trans hw169_0), ((HB.out.cell (World.block_lt_of_cell? w _ hw169_1)).trans hw169_1), ((HB.out.cell (World.block_lt_of_cell? w _ hw169_2)).trans hw169_2)⟩ (fun hHeld => ?_); refine with_tabW spec_l03Put.tab5 spec_l03Put.bits5 (fun HT_ HW_ => ?_); generalize wr.drew = w28 at HO_169000 BK165 BK166 BK167 BK168 HB hx169_0 hx169_1 hx169_2 hHeld ⊢; refine pV 0 16 (OB 9 1) ?_; refine pV 2 18 (OB 9 5) ?_; refine pV 6 22 (OB 9 69) ?_; refine pT 1 17 (OB 9 71) ?_; refine pV 3 19 (OB 9 79) ?_; refine pV 4 20 (OB 9 95) ?_; refine pT 5 21 (OB 9 127) ?_; refine pT 7 23 (OB 9 255) ?_; refine pV 8 24 (OB 9 511) ?_; refine done_ (done_of HT_.out (by kernel_rfl)) ?_
     try go_wp2
     go_roundg k1
     case measure => have := HK1.out; omega
     case rel => exact ⟨(wrap64 (x6_1 + 1)), (x169000_1), (u169000), SD, H', ⟨by have := HK1.out; omega⟩, ⟨RQ HO_169000.out⟩, ⟨BQ BK165.out⟩, ⟨BQ BK166.out⟩, ⟨BQ BK167.out⟩, ⟨BQ BK168.out⟩, ⟨BL⟩⟩
    rw [if_pos c13] at H; have c13b0 : (Op.bytesLess (((rd_T45 l0_0 x6_1).f0).toList) a1_0.toList) = true := c13; clear c13
    by_cases c14 : x169000_1.length < 3518437208883; rotate_left
    ·
     rw [if_neg c14] at H; exact absurd H (by simp)
    rw [if_pos c14] at H; have LMc14 := Aside0.mk c14; clear c14; obtain ⟨y171, hy171⟩ : ∃ y_ : List (S45), y_ = (x169000_1 ++ [(⟨(rd_T45 l0_0 x6_1).f0, (rd_T45 l0_0 x6_1).f1, (rd_T45 l0_0 x6_1).f2⟩ : S45)]) := ⟨_, rfl⟩
    replace H : (spec_l03Put.l0 k1 (wrap64 (x6_1 + 1)) l0_0 a1_0 a1_1 a1_2 y171) = some r := by first | (rw [hy171]; with_reducible exact H) | (have H2_ := (Option.bind_some _ _).symm.trans H; rw [hy171]; with_reducible exact H2_) | (have H2_ := (Option.bind_some _ _).symm.trans H; with_reducible exact H2_) | with_reducible exact H | (rw [hy171]; exact H) | exact H
    have Ny171 := Aside0.mk hy171; clear hy171; have H' := Aside0.mk H; clear H; obtain ⟨hnb15, hnc15⟩ := NN NB165_166.out; obtain ⟨hnb16, hnc16⟩ := NN NB165_167.out; obtain ⟨hnb17, hnc17⟩ := NN NB165_168.out; obtain ⟨hcz18_0, hfz18_0⟩ := KC1 BK165.out
    try go_wp2
    replace HO_169000 := DR HO_169000; replace BK165 := BD BK165; replace BK166 := BD BK166; replace BK167 := BD BK167; replace BK168 := BD BK168; replace HB := Aside0.mk (below_drew1 HB.out); have p169 : 0 ≤ (x6_1 : Int) := of_decide_eq_true AS; have q169 : x6_1 < (l0_0.length : Int) := of_decide_eq_true AS; obtain ⟨ad169, e169, hx169_0, hx169_1, hx169_2⟩ := at_T45 HR0_0.out x6_1 p169 q169; have hw169_2 := hx169_2; have hw169_1 := hx169_1; have hw169_0 := hx169_0; cases e169; replace hx169_0 := HX hx169_0; replace hx169_1 := HX hx169_1; replace hx169_2 := HX hx169_2; replace p169 := eq_true p169; replace q169 := eq_true q169; refine start_ (n := 9) (S := fun w' => w'.cell? ⟨gb165, 0, none⟩ = some (.slice (some ad169) l0_0.length c0_0) ∧ w'.cell? ⟨gb166, 0, none⟩ = some (.string a1_0) ∧ w'.cell? ⟨gb166, 1, none⟩ = some (.string a1_1) ∧ w'.cell? ⟨gb166, 2, none⟩ = some (.int .i64 a1_2) ∧ w'.cell? (ad169.add ((x6_1).toNat * 3)) = some (.string ((rd_T45 l0_0 x6_1).f0)) ∧ w'.cell? ⟨(ad169.add ((x6_1).toNat * 3)).block, (ad169.add ((x6_1).toNat * 3)).off + 1, none⟩ = some (.string ((rd_T45 l0_0 x6_1).f1)) ∧ w'.cell? ⟨(ad169.add ((x6_1).toNat * 3)).block, (ad169.add ((x6_1).toNat * 3)).off + 2, none⟩ = some (.int .i64 ((rd_T45 l0_0 x6_1).f2))) (ds := []) #[false, false, false, false, false, false, false, false, false] (by kernel_rfl) rfl rfl ⟨CZ BK165.out 0, CZ BK166.out 0, CZ BK166.out 1, CZ BK166.out 2, ((HB.out.cell (World.block_lt_of_cell? w _ hw169_0)).trans hw169_0), ((HB.out.cell (World.block_lt_of_cell? w _ hw169_1)).trans hw169_1), ((HB.out.cell (World.block_lt_of_cell? w _ hw169_2)).trans hw169_2)⟩ (fun hHeld => ?_); refine with_tabW spec_l03Put.tab5 spec_l03Put.bits5 (fun HT_ HW_ => ?_); generalize wr.drew = w19 at HO_169000 BK165 BK166 BK167 BK168 HB hx169_0 hx169_1 hx169_2 hHeld ⊢; refine pV 0 16 (OB 9 1) ?_; refine pV 2 18 (OB 9 5) ?_; refine pV 6 22 (OB 9 69) ?_; refine pT 1 17 (OB 9 71) ?_; refine pV 3 19 (OB 9 79) ?_; refine pV 4 20 (OB 9 95) ?_; refine pT 5 21 (OB 9 127) ?_; refine pT 7 23 (OB 9 255) ?_; refine pV 8 24 (OB 9 511) ?_; refine done_ (done_of HT_.out (by kernel_rfl)) ?_
    try go_wp2
    replace HO_169000 := DR HO_169000; replace BK165 := BD BK165; replace BK166 := BD BK166; replace BK167 := BD BK167; replace BK168 := BD BK168; replace HB := Aside0.mk (below_drew1 HB.out); have p170 : 0 ≤ (x6_1 : Int) := of_decide_eq_true AS; have q170 : x6_1 < (l0_0.length : Int) := of_decide_eq_true AS; obtain ⟨ad170, e170, hx170_0, hx170_1, hx170_2⟩ := at_T45 HR0_0.out x6_1 p170 q170; have hw170_2 := hx170_2; have hw170_1 := hx170_1; have hw170_0 := hx170_0; obtain rfl : ad169 = ad170 := (by injection e170); replace hx170_0 := HX hx170_0; replace hx170_1 := HX hx170_1; replace hx170_2 := HX hx170_2; replace p170 := eq_true p170; replace q170 := eq_true q170; refine start_ (n := 11) (S := fun w' => w'.cell? ⟨gb168, 0, none⟩ = some (u169000) ∧ w'.cell? ⟨gb165, 0, none⟩ = some (.slice (some ad169) l0_0.length c0_0) ∧ w'.cell? (ad169.add ((x6_1).toNat * 3)) = some (.string ((rd_T45 l0_0 x6_1).f0)) ∧ w'.cell? ⟨(ad169.add ((x6_1).toNat * 3)).block, (ad169.add ((x6_1).toNat * 3)).off + 1, none⟩ = some (.string ((rd_T45 l0_0 x6_1).f1)) ∧ w'.cell? ⟨(ad169.add ((x6_1).toNat * 3)).block, (ad169.add ((x6_1).toNat * 3)).off + 2, none⟩ = some (.int .i64 ((rd_T45 l0_0 x6_1).f2))) (ds := [10]) #[false, false, false, false, false, false, false, false, false, false, false] (by kernel_rfl) rfl rfl ⟨CZ BK168.out 0, CZ BK165.out 0, ((HB.out.cell (World.block_lt_of_cell? w _ hw170_0)).trans hw170_0), ((HB.out.cell (World.block_lt_of_cell? w _ hw170_1)).trans hw170_1), ((HB.out.cell (World.block_lt_of_cell? w _ hw170_2)).trans hw170_2)⟩ (fun hHeld => ?_); refine with_tabW spec_l03Put.tab6 spec_l03Put.bits6 (fun HT_ HW_ => ?_); generalize w19.drew = w20 at HO_169000 BK165 BK166 BK167 BK168 HB hx170_0 hx170_1 hx170_2 hHeld ⊢; refine pV 0 25 (OB 11 1) ?_; refine pV 2 27 (OB 11 5) ?_; refine pV 4 29 (OB 11 21) ?_; refine pT 1 26 (OB 11 23) ?_; refine pT 3 28 (OB 11 31) ?_; refine pV 5 30 (OB 11 63) ?_; refine pT 6 31 (OB 11 127) ?_; refine one_ (i := 7) (N := some 32) (OB 11 255) rfl rfl (one_of HT_.out (by kernel_rfl)) (by decide) (fun K hK => ?_); refine value_ (w1 := ?_) (v := ?_) (by rfl) rfl ?_ ?_; rotate_left 2
    ·
     go_simp
     constructor
     ·
      rfl
     ·
      rfl
    refine hK.out _ _ ⟨(blk_cell (blk_alloc BK168.out _) 0).trans rfl, (blk_cell (blk_alloc BK165.out _) 0).trans rfl, (World.cell?_alloc_lt _ _ _ (World.block_lt_of_cell? _ _ (((HB.out.cell (World.block_lt_of_cell? w _ hw170_0)).trans hw170_0)))).trans (((HB.out.cell (World.block_lt_of_cell? w _ hw170_0)).trans hw170_0)), (World.cell?_alloc_lt _ _ _ (World.block_lt_of_cell? _ _ (((HB.out.cell (World.block_lt_of_cell? w _ hw170_1)).trans hw170_1)))).trans (((HB.out.cell (World.block_lt_of_cell? w _ hw170_1)).trans hw170_1)), (World.cell?_alloc_lt _ _ _ (World.block_lt_of_cell? _ _ (((HB.out.cell (World.block_lt_of_cell? w _ hw170_2)).trans hw170_2)))).trans (((HB.out.cell (World.block_lt_of_cell? w _ hw170_2)).trans hw170_2))⟩ (fun hHeld => ?_); clear hK K; refine norm_ (a' := ?_) ?_ ?_; rotate_left
    ·
     show Act.put _ (some 32) _ = _; simp only [Act.put, zA, zB, zC, i64_w, i32_w]; rfl
    refine one_ (i := 8) (N := some 33) (OB 11 511) rfl rfl (one_of HT_.out (by kernel_rfl)) (by decide) (fun K hK => ?_); refine Kd.R_append_step k45 (w0 := w) w.heap.size (by rfl) (.tmp 26) (.tmp 32) 27 45 (.agg #[(.string ⟨#[]⟩), (.string ⟨#[]⟩), (.int .i64 0)]) 40 rfl Try.underlying27 info45 rfl (by decide) (by omega) u169000 x169000_1 (⟨(rd_T45 l0_0 x6_1).f0, (rd_T45 l0_0 x6_1).f1, (rd_T45 l0_0 x6_1).f2⟩ : S45) [.string ((rd_T45 l0_0 x6_1).f0), .string ((rd_T45 l0_0 x6_1).f1), .int .i64 ((rd_T45 l0_0 x6_1).f2)] (fun k_ => k_ ≠ gb166) (fun _ => False) rfl rfl ?aP (fun _ hk => hk.elim) ?aF ?aO ?aB ?aS ?aL ?_
    (case aP => exact k45_mkM _ _ _ (⟨(rd_T45 l0_0 x6_1).f0, (rd_T45 l0_0 x6_1).f1, (rd_T45 l0_0 x6_1).f2⟩ : S45))
    (case aB => exact (BL))
    (case aF => exact (fun k_ hk => Kd.freshB (g := gb166) (o := .cells #[.string a1_0, .string a1_1, .int .i64 a1_2] 45 (0, 0)) (BQ BK166.out) k_ hk))
    (case aO => exact RQ HO_169000.out)
    (case aS => exact (below_size (BL)))
    (case aL => have := LMc14.out; omega)
    intro v172 w21 ho hb hg hat; rw [← Ny171.out] at ho; replace BK165 := Aside0.mk (blk_grown (g := gb165) (o := .cells #[.slice (some ad169) l0_0.length c0_0] 29 (0, 0)) (BQ BK165.out) hg (Kd.R_ne HO_169000.out BK165.out (by decide))); replace BK166 := Aside0.mk (blk_grown (g := gb166) (o := .cells #[.string a1_0, .string a1_1, .int .i64 a1_2] 45 (0, 0)) (BQ BK166.out) hg (Kd.R_away HO_169000.out (fun _ hk => hk))); replace BK167 := Aside0.mk (blk_grown (g := gb167) (o := .cells #[.slice none 0 0] 29 (0, 0)) (BQ BK167.out) hg (Kd.R_ne HO_169000.out BK167.out (by decide))); replace BK168 := Aside0.mk (blk_grown (g := gb168) (o := .cells #[u169000] 29 (0, 0)) (BQ BK168.out) hg (Kd.R_ne HO_169000.out BK168.out (by decide))); have n4_ := Aside0.mk (hb); have HO173 := Aside0.mk (ho); clear HB HO_169000; have HB := n4_; clear n4_ ho hb hg hat; obtain ⟨Ao22, co22, eo22⟩ := Kd.R_slice HO173.out
    (first | subst eo22 | (injection eo22 with f1_ f2_ f3_; have f4_ := f1_.symm; have f5_ := f3_.symm; clear f1_ f2_ f3_; subst f4_; subst f5_))
    refine hK.out _ _ ⟨CZ BK168.out 0, CZ BK165.out 0, ((HB.out.cell (World.block_lt_of_cell? w _ hw170_0)).trans hw170_0), ((HB.out.cell (World.block_lt_of_cell? w _ hw170_1)).trans hw170_1), ((HB.out.cell (World.block_lt_of_cell? w _ hw170_2)).trans hw170_2)⟩ (fun hHeld => ?_); clear hK K; refine norm_ (a' := ?_) ?_ ?_; rotate_left
    ·
     show Act.put _ (some 33) _ = _; simp only [Act.put, zA, zB, zC, i64_w, i32_w]; rfl
    refine pV 9 34 (OB 11 1023) ?_; refine last_ (i := 10) (N := none) #[true, true, true, true, true, true, true, true, true, true, true] rfl rfl (one_of HT_.out (by kernel_rfl)) (by decide) (fun K hK => ?_); have hs23 : w21.cell? ⟨gb168, 0, none⟩ = some (u169000) := CZ BK168.out 0; have hfs23 := blk_frozen BK168.out 0; have hns23_0 := NB165_168.out; have hns23_1 := NB166_168.out; have hns23_2 := NB167_168.out; have hms23_0 := NB168_165.out; have hms23_1 := NB168_166.out; have hms23_2 := NB168_167.out; refine skip_ (w1 := ?_) (by rfl) rfl ?_ ?_; rotate_left
    ·
     go_simp
     rfl
    refine hK.out _ _ ?_; clear hK K; refine done_ (done_of HT_.out (by kernel_rfl)) ?_
    try go_wp2
    go_roundg k1
    case measure => have := HK1.out; omega
    case rel => exact ⟨(wrap64 (x6_1 + 1)), (y171), (.slice Ao22 y171.length co22), SD, H', ⟨by have := HK1.out; omega⟩, ⟨RF HO173.out BK168.out⟩, ⟨BP BK165.out⟩, ⟨BP BK166.out⟩, ⟨BP BK167.out⟩, ⟨BU BK168.out⟩, ⟨BL⟩⟩
   rw [if_neg c11] at H; have c11b0 : decide (x6_1 < (l0_0.length : Int)) = false := decide_eq_false c11; clear c11
   by_cases c29 : x169000_1.length < 3518437208883; rotate_left
   ·
    rw [if_neg c29] at H; exact absurd H (by simp)
   rw [if_pos c29] at H; have LMc29 := Aside0.mk c29; clear c29; obtain ⟨y174, hy174⟩ : ∃ y_ : List (S45), y_ = (x169000_1 ++ [(⟨a1_0, a1_1, a1_2⟩ : S45)]) := ⟨_, rfl⟩
   replace H : (spec_l03Put.l1 k1 0 l0_0 a1_0 a1_1 a1_2 y174) = some r := by first | (rw [hy174]; with_reducible exact H) | (have H2_ := (Option.bind_some _ _).symm.trans H; rw [hy174]; with_reducible exact H2_) | (have H2_ := (Option.bind_some _ _).symm.trans H; with_reducible exact H2_) | with_reducible exact H | (rw [hy174]; exact H) | exact H
   have Ny174 := Aside0.mk hy174; clear hy174; have H' := Aside0.mk H; clear H; obtain ⟨hnb30, hnc30⟩ := NN NB165_166.out; obtain ⟨hnb31, hnc31⟩ := NN NB165_167.out; obtain ⟨hnb32, hnc32⟩ := NN NB165_168.out; obtain ⟨hcz33_0, hfz33_0⟩ := KC1 BK165.out; obtain ⟨hnb34, hnc34⟩ := NN NB168_166.out; obtain ⟨hnb35, hnc35⟩ := NN NB168_167.out; obtain ⟨hcz36_0, hfz36_0⟩ := KC1 BK168.out; obtain ⟨hnb37, hnc37⟩ := NN NB166_167.out; obtain ⟨hcz38_0, hcz38_1, hcz38_2, hfz38_0, hfz38_1, hfz38_2⟩ := KC3 BK166.out
   go_wp2_with (first | ((with_reducible refine gate_builtin (b := .append) (xs := #[.tmp 36, .tmp 38]) rfl ?_); at_builtin; refine Kd.R_append k45 (w0 := w) w.heap.size rfl (.tmp 36) (.tmp 38) 27 45 (.agg #[(.string ⟨#[]⟩), (.string ⟨#[]⟩), (.int .i64 0)]) 40 rfl Try.underlying27 info45 rfl (by decide) (by omega) u169000 x169000_1 (⟨a1_0, a1_1, a1_2⟩ : S45) [.string a1_0, .string a1_1, .int .i64 a1_2] (fun k_ => k_ ≠ gb166) (fun _ => False) rfl rfl ?aP (fun _ hk => hk.elim) ?aF ?aO ?aB ?aS ?aL ?_; (case aP => exact k45_mkM _ _ _ (⟨a1_0, a1_1, a1_2⟩ : S45)); (case aB => exact (BL)); (case aF => exact (fun k_ hk => Kd.freshB (g := gb166) (o := .cells #[.string a1_0, .string a1_1, .int .i64 a1_2] 45 (0, 0)) (BQ BK166.out) k_ hk)); (case aO => exact RQ HO_169000.out); (case aS => exact (below_size (BL))); (case aL => have := LMc29.out; omega); intro v175 w39 ho hb hg hat; rw [← Ny174.out] at ho; replace BK165 := Aside0.mk (blk_grown (g := gb165) (o := .cells #[.slice A0_0 l0_0.length c0_0] 29 (0, 0)) (BQ BK165.out) hg (Kd.R_ne HO_169000.out BK165.out (by decide))); replace BK166 := Aside0.mk (blk_grown (g := gb166) (o := .cells #[.string a1_0, .string a1_1, .int .i64 a1_2] 45 (0, 0)) (BQ BK166.out) hg (Kd.R_away HO_169000.out (fun _ hk => hk))); replace BK167 := Aside0.mk (blk_grown (g := gb167) (o := .cells #[.slice none 0 0] 29 (0, 0)) (BQ BK167.out) hg (Kd.R_ne HO_169000.out BK167.out (by decide))); replace BK168 := Aside0.mk (blk_grown (g := gb168) (o := .cells #[u169000] 29 (0, 0)) (BQ BK168.out) hg (Kd.R_ne HO_169000.out BK168.out (by decide))); have n4_ := Aside0.mk (hb); have HO176 := Aside0.mk (ho); clear HB HO_169000; have HB := n4_; clear n4_ ho hb hg hat; obtain ⟨Ao40, co40, eo40⟩ := Kd.R_slice HO176.out; subst eo40; obtain ⟨hcz41_0, hfz41_0⟩ := KC1 BK168.out))
   go_loopg [7] k1 (fun kq v7 w' => ∃ (x7_2 : Int) (x169000_2 : List (S45)) (u169000 : Value), v7 = .int .i64 x7_2 ∧ Aside0 (spec_l03Put.l1 kq x7_2 l0_0 a1_0 a1_1 a1_2 x169000_2 = some r) ∧ Aside0 (kq ≤ k1) ∧ Aside0 (Kd.R k45 45 w' w.heap.size (fun k_ => k_ ≠ gb166) u169000 x169000_2) ∧ Aside0 (w'.heap[gb165]? = some (.cells #[(.slice A0_0 l0_0.length c0_0)] 29 (0, 0))) ∧ Aside0 (w'.heap[gb166]? = some (.cells #[.string a1_0, .string a1_1, .int .i64 a1_2] 45 (0, 0))) ∧ Aside0 (w'.heap[gb167]? = some (.cells #[(.slice none 0 0)] 29 (0, 0))) ∧ Aside0 (w'.heap[gb168]? = some (.cells #[u169000] 29 (0, 0))) ∧ Aside0 (Below w.heap.size w w'))
   case atStart => exact ⟨(0), (y174), (.slice Ao40 y174.length co40), SD, H', ⟨Nat.le_refl _⟩, ⟨RF HO176.out BK168.out⟩, ⟨BP BK165.out⟩, ⟨BP BK166.out⟩, ⟨BP BK167.out⟩, ⟨BU BK168.out⟩, ⟨BL⟩⟩
   case round =>
    clear H'
    try clear c1 p1 q1 hx1 c2 p2 c3 c5 p6 c7 c8 c9 c11 c11b0 c12 c12b0 c13 c13b0 c14 c15 c16 p16 q16 hx16 c17 p17 q17 hx17 c24 c25 c26 c29 c30 c31 c32 c34 c35 c37 hcz10_0 hcz18_0 hcz27_0 hcz33_0 hcz36_0 hcz38_0 hcz38_1 hcz38_2 hcz41_0 hfz10_0 hfz18_0 hfz27_0 hfz33_0 hfz36_0 hfz38_0 hfz38_1 hfz38_2 hfz41_0 hx169_0 hx169_1 hx169_2 hx170_0 hx170_1 hx170_2 p169 p170 p2 q169 q170
    obtain ⟨x7_2, x169000_2, u169000, rfl, HA, HK2, HO_169000, BK165, BK166, BK167, BK168, HB⟩ := hrel; cases gk with
    | zero => exact absurd HA.out (by simp [spec_l03Put.l1])
    | succ k2 =>
     have H := HA.out; clear HA; simp only [spec_l03Put.l1] at H
     by_cases c42 : x7_2 < (l0_0.length : Int); rotate_left
     ·
      rw [if_neg c42] at H; have c42b0 : decide (x7_2 < (l0_0.length : Int)) = false := decide_eq_false c42; clear c42; obtain rfl := Option.some.inj H; obtain ⟨hnb60, hnc60⟩ := NN NB165_166.out; obtain ⟨hnb61, hnc61⟩ := NN NB165_167.out; obtain ⟨hnb62, hnc62⟩ := NN NB165_168.out; obtain ⟨hcz63_0, hfz63_0⟩ := KC1 BK165.out; obtain ⟨hnb64, hnc64⟩ := NN NB168_166.out; obtain ⟨hnb65, hnc65⟩ := NN NB168_167.out; obtain ⟨hcz66_0, hfz66_0⟩ := KC1 BK168.out; obtain ⟨Ao67, co67, eo67⟩ := Kd.R_slice HO_169000.out; subst eo67; obtain ⟨hnb68, hnc68⟩ := NN NB167_166.out; obtain ⟨hcz69_0, hfz69_0⟩ := KC1 BK167.out
      go_wp2
      refine bodyPost_ret (results_cell_row rfl _ _ gb167 29 #[.slice Ao67 x169000_2.length co67] (0, 0) _ rfl (BU BK167.out) Try.underlying29 rfl (by kernel_rfl)) rfl ?_; exact ⟨_, EE, by (with_reducible repeat (first | apply r1 | apply r2 | apply r3)); exact Kd.R_mono (Kd.R_far (p := ⟨gb167, 0, none⟩) (Kd.R_types HO_169000.out BK167.out (by decide)) (fun _ hk => hk.2) (.slice Ao67 x169000_2.length co67)) (fun _ hk => trivial), BL⟩
     rw [if_pos c42] at H; have c42b0 : decide (x7_2 < (l0_0.length : Int)) = true := decide_eq_true c42; clear c42
     by_cases c43 : 0 ≤ x7_2; rotate_left
     ·
      rw [if_neg c43] at H; exact absurd H (by simp)
     rw [if_pos c43] at H; have c43b0 : decide (0 ≤ x7_2) = true := decide_eq_true c43; clear c43
     by_cases c44 : (Op.bytesLess a1_0.toList (((rd_T45 l0_0 x7_2).f0).toList)) = true; rotate_left
     ·
      rw [if_neg c44] at H
      have c44b0 : (Op.bytesLess a1_0.toList (((rd_T45 l0_0 x7_2).f0).toList)) = false := by simpa using c44
      clear c44; have H' := Aside0.mk H; clear H; obtain ⟨hnb55, hnc55⟩ := NN NB165_166.out; obtain ⟨hnb56, hnc56⟩ := NN NB165_167.out; obtain ⟨hnb57, hnc57⟩ := NN NB165_168.out; obtain ⟨hcz58_0, hfz58_0⟩ := KC1 BK165.out
      try go_wp2
      replace HO_169000 := DR HO_169000; replace BK165 := BD BK165; replace BK166 := BD BK166; replace BK167 := BD BK167; replace BK168 := BD BK168; replace HB := Aside0.mk (below_drew1 HB.out); have p177 : 0 ≤ (x7_2 : Int) := of_decide_eq_true AS; have q177 : x7_2 < (l0_0.length : Int) := of_decide_eq_true AS; obtain ⟨ad177, e177, hx177_0, hx177_1, hx177_2⟩ := at_T45 HR0_0.out x7_2 p177 q177; have hw177_2 := hx177_2; have hw177_1 := hx177_1; have hw177_0 := hx177_0; cases e177; replace hx177_0 := HX hx177_0; replace hx177_1 := HX hx177_1; replace hx177_2 := HX hx177_2; replace p177 := eq_true p177; replace q177 := eq_true q177; refine start_ (n := 9) (S := fun w' => w'.cell? ⟨gb165, 0, none⟩ = some (.slice (some ad177) l0_0.length c0_0) ∧ w'.cell? ⟨gb166, 0, none⟩ = some (.string a1_0) ∧ w'.cell? ⟨gb166, 1, none⟩ = some (.string a1_1) ∧ w'.cell? ⟨gb166, 2, none⟩ = some (.int .i64 a1_2) ∧ w'.cell? (ad177.add ((x7_2).toNat * 3)) = some (.string ((rd_T45 l0_0 x7_2).f0)) ∧ w'.cell? ⟨(ad177.add ((x7_2).toNat * 3)).block, (ad177.add ((x7_2).toNat * 3)).off + 1, none⟩ = some (.string ((rd_T45 l0_0 x7_2).f1)) ∧ w'.cell? ⟨(ad177.add ((x7_2).toNat * 3)).block, (ad177.add ((x7_2).toNat * 3)).off + 2, none⟩ = some (.int .i64 ((rd_T45 l0_0 x7_2).f2))) (ds := []) #[false, false, false, false, false, false, false, false, false] (by kernel_rfl) rfl rfl ⟨CZ BK165.out 0, CZ BK166.out 0, CZ BK166.out 1, CZ BK166.out 2, ((HB.out.cell (World.block_lt_of_cell? w _ hw177_0)).trans hw177_0), ((HB.out.cell (World.block_lt_of_cell? w _ hw177_1)).trans hw177_1), ((HB.out.cell (World.block_lt_of_cell? w _ hw177_2)).trans hw177_2)⟩ (fun hHeld => ?_); refine with_tabW spec_l03Put.tab11 spec_l03Put.bits11 (fun HT_ HW_ => ?_); generalize wr.drew = w59 at HO_169000 BK165 BK166 BK167 BK168 HB hx177_0 hx177_1 hx177_2 hHeld ⊢; refine pV 0 48 (OB 9 1) ?_; refine pV 2 50 (OB 9 5) ?_; refine pV 6 54 (OB 9 69) ?_; refine pT 1 49 (OB 9 71) ?_; refine pV 3 51 (OB 9 79) ?_; refine pV 4 52 (OB 9 95) ?_; refine pT 5 53 (OB 9 127) ?_; refine pT 7 55 (OB 9 255) ?_; refine pV 8 56 (OB 9 511) ?_; refine done_ (done_of HT_.out (by kernel_rfl)) ?_
      try go_wp2
      go_roundg k2
      case measure => have := HK1.out; have := HK2.out; omega
      case rel => exact ⟨(wrap64 (x7_2 + 1)), (x169000_2), (u169000), SD, H', ⟨by have := HK1.out; have := HK2.out; omega⟩, ⟨RQ HO_169000.out⟩, ⟨BQ BK165.out⟩, ⟨BQ BK166.out⟩, ⟨BQ BK167.out⟩, ⟨BQ BK168.out⟩, ⟨BL⟩⟩
     rw [if_pos c44] at H; have c44b0 : (Op.bytesLess a1_0.toList (((rd_T45 l0_0 x7_2).f0).toList)) = true := c44; clear c44
     by_cases c45 : x169000_2.length < 3518437208883; rotate_left
     ·
      rw [if_neg c45] at H; exact absurd H (by simp)
     rw [if_pos c45] at H; have LMc45 := Aside0.mk c45; clear c45; obtain ⟨y179, hy179⟩ : ∃ y_ : List (S45), y_ = (x169000_2 ++ [(⟨(rd_T45 l0_0 x7_2).f0, (rd_T45 l0_0 x7_2).f1, (rd_T45 l0_0 x7_2).f2⟩ : S45)]) := ⟨_, rfl⟩
     replace H : (spec_l03Put.l1 k2 (wrap64 (x7_2 + 1)) l0_0 a1_0 a1_1 a1_2 y179) = some r := by first | (rw [hy179]; with_reducible exact H) | (have H2_ := (Option.bind_some _ _).symm.trans H; rw [hy179]; with_reducible exact H2_) | (have H2_ := (Option.bind_some _ _).symm.trans H; with_reducible exact H2_) | with_reducible exact H | (rw [hy179]; exact H) | exact H
     have Ny179 := Aside0.mk hy179; clear hy179; have H' := Aside0.mk H; clear H; obtain ⟨hnb46, hnc46⟩ := NN NB165_166.out; obtain ⟨hnb47, hnc47⟩ := NN NB165_167.out; obtain ⟨hnb48, hnc48⟩ := NN NB165_168.out; obtain ⟨hcz49_0, hfz49_0⟩ := KC1 BK165.out
     try go_wp2
     replace HO_169000 := DR HO_169000; replace BK165 := BD BK165; replace BK166 := BD BK166; replace BK167 := BD BK167; replace BK168 := BD BK168; replace HB := Aside0.mk (below_drew1 HB.out); have p177 : 0 ≤ (x7_2 : Int) := of_decide_eq_true AS; have q177 : x7_2 < (l0_0.length : Int) := of_decide_eq_true AS; obtain ⟨ad177, e177, hx177_0, hx177_1, hx177_2⟩ := at_T45 HR0_0.out x7_2 p177 q177; have hw177_2 := hx177_2; have hw177_1 := hx177_1; have hw177_0 := hx177_0; cases e177; replace hx177_0 := HX hx177_0; replace hx177_1 := HX hx177_1; replace hx177_2 := HX hx177_2; replace p177 := eq_true p177; replace q177 := eq_true q177; refine start_ (n := 9) (S := fun w' => w'.cell? ⟨gb165, 0, none⟩ = some (.slice (some ad177) l0_0.length c0_0) ∧ w'.cell? ⟨gb166, 0, none⟩ = some (.string a1_0) ∧ w'.cell? ⟨gb166, 1, none⟩ = some (.string a1_1) ∧ w'.cell? ⟨gb166, 2, none⟩ = some (.int .i64 a1_2) ∧ w'.cell? (ad177.add ((x7_2).toNat * 3)) = some (.string ((rd_T45 l0_0 x7_2).f0)) ∧ w'.cell? ⟨(ad177.add ((x7_2).toNat * 3)).block, (ad177.add ((x7_2).toNat * 3)).off + 1, none⟩ = some (.string ((rd_T45 l0_0 x7_2).f1)) ∧ w'.cell? ⟨(ad177.add ((x7_2).toNat * 3)).block, (ad177.add ((x7_2).toNat * 3)).off + 2, none⟩ = some (.int .i64 ((rd_T45 l0_0 x7_2).f2))) (ds := []) #[false, false, false, false, false, false, false, false, false] (by kernel_rfl) rfl rfl ⟨CZ BK165.out 0, CZ BK166.out 0, CZ BK166.out 1, CZ BK166.out 2, ((HB.out.cell (World.block_lt_of_cell? w _ hw177_0)).trans hw177_0), ((HB.out.cell (World.block_lt_of_cell? w _ hw177_1)).trans hw177_1), ((HB.out.cell (World.block_lt_of_cell? w _ hw177_2)).trans hw177_2)⟩ (fun hHeld => ?_); refine with_tabW spec_l03Put.tab11 spec_l03Put.bits11 (fun HT_ HW_ => ?_); generalize wr.drew = w50 at HO_169000 BK165 BK166 BK167 BK168 HB hx177_0 hx177_1 hx177_2 hHeld ⊢; refine pV 0 48 (OB 9 1) ?_; refine pV 2 50 (OB 9 5) ?_; refine pV 6 54 (OB 9 69) ?_; refine pT 1 49 (OB 9 71) ?_; refine pV 3 51 (OB 9 79) ?_; refine pV 4 52 (OB 9 95) ?_; refine pT 5 53 (OB 9 127) ?_; refine pT 7 55 (OB 9 255) ?_; refine pV 8 56 (OB 9 511) ?_; refine done_ (done_of HT_.out (by kernel_rfl)) ?_
     try go_wp2
     replace HO_169000 := DR HO_169000; replace BK165 := BD BK165; replace BK166 := BD BK166; replace BK167 := BD BK167; replace BK168 := BD BK168; replace HB := Aside0.mk (below_drew1 HB.out); have p178 : 0 ≤ (x7_2 : Int) := of_decide_eq_true AS; have q178 : x7_2 < (l0_0.length : Int) := of_decide_eq_true AS; obtain ⟨ad178, e178, hx178_0, hx178_1, hx178_2⟩ := at_T45 HR0_0.out x7_2 p178 q178; have hw178_2 := hx178_2; have hw178_1 := hx178_1; have hw178_0 := hx178_0; obtain rfl : ad177 = ad178 := (by injection e178); replace hx178_0 := HX hx178_0; replace hx178_1 := HX hx178_1; replace hx178_2 := HX hx178_2; replace p178 := eq_true p178; replace q178 := eq_true q178; refine start_ (n := 11) (S := fun w' => w'.cell? ⟨gb168, 0, none⟩ = some (u169000) ∧ w'.cell? ⟨gb165, 0, none⟩ = some (.slice (some ad177) l0_0.length c0_0) ∧ w'.cell? (ad177.add ((x7_2).toNat * 3)) = some (.string ((rd_T45 l0_0 x7_2).f0)) ∧ w'.cell? ⟨(ad177.add ((x7_2).toNat * 3)).block, (ad177.add ((x7_2).toNat * 3)).off + 1, none⟩ = some (.string ((rd_T45 l0_0 x7_2).f1)) ∧ w'.cell? ⟨(ad177.add ((x7_2).toNat * 3)).block, (ad177.add ((x7_2).toNat * 3)).off + 2, none⟩ = some (.int .i64 ((rd_T45 l0_0 x7_2).f2))) (ds := [10]) #[false, false, false, false, false, false, false, false, false, false, false] (by kernel_rfl) rfl rfl ⟨CZ BK168.out 0, CZ BK165.out 0, ((HB.out.cell (World.block_lt_of_cell? w _ hw178_0)).trans hw178_0), ((HB.out.cell (World.block_lt_of_cell? w _ hw178_1)).trans hw178_1), ((HB.out.cell (World.block_lt_of_cell? w _ hw178_2)).trans hw178_2)⟩ (fun hHeld => ?_); refine with_tabW spec_l03Put.tab12 spec_l03Put.bits12 (fun HT_ HW_ => ?_); generalize w50.drew = w51 at HO_169000 BK165 BK166 BK167 BK168 HB hx178_0 hx178_1 hx178_2 hHeld ⊢; refine pV 0 57 (OB 11 1) ?_; refine pV 2 59 (OB 11 5) ?_; refine pV 4 61 (OB 11 21) ?_; refine pT 1 58 (OB 11 23) ?_; refine pT 3 60 (OB 11 31) ?_; refine pV 5 62 (OB 11 63) ?_; refine pT 6 63 (OB 11 127) ?_; refine one_ (i := 7) (N := some 64) (OB 11 255) rfl rfl (one_of HT_.out (by kernel_rfl)) (by decide) (fun K hK => ?_); refine value_ (w1 := ?_) (v := ?_) (by rfl) rfl ?_ ?_; rotate_left 2
     ·
      go_simp
      constructor
      ·
       rfl
      ·
       rfl
     refine hK.out _ _ ⟨(blk_cell (blk_alloc BK168.out _) 0).trans rfl, (blk_cell (blk_alloc BK165.out _) 0).trans rfl, (World.cell?_alloc_lt _ _ _ (World.block_lt_of_cell? _ _ (((HB.out.cell (World.block_lt_of_cell? w _ hw178_0)).trans hw178_0)))).trans (((HB.out.cell (World.block_lt_of_cell? w _ hw178_0)).trans hw178_0)), (World.cell?_alloc_lt _ _ _ (World.block_lt_of_cell? _ _ (((HB.out.cell (World.block_lt_of_cell? w _ hw178_1)).trans hw178_1)))).trans (((HB.out.cell (World.block_lt_of_cell? w _ hw178_1)).trans hw178_1)), (World.cell?_alloc_lt _ _ _ (World.block_lt_of_cell? _ _ (((HB.out.cell (World.block_lt_of_cell? w _ hw178_2)).trans hw178_2)))).trans (((HB.out.cell (World.block_lt_of_cell? w _ hw178_2)).trans hw178_2))⟩ (fun hHeld => ?_); clear hK K; refine norm_ (a' := ?_) ?_ ?_; rotate_left
     ·
      show Act.put _ (some 64) _ = _; simp only [Act.put, zA, zB, zC, i64_w, i32_w]; rfl
     refine one_ (i := 8) (N := some 65) (OB 11 511) rfl rfl (one_of HT_.out (by kernel_rfl)) (by decide) (fun K hK => ?_); refine Kd.R_append_step k45 (w0 := w) w.heap.size (by rfl) (.tmp 58) (.tmp 64) 27 45 (.agg #[(.string ⟨#[]⟩), (.string ⟨#[]⟩), (.int .i64 0)]) 40 rfl Try.underlying27 info45 rfl (by decide) (by omega) u169000 x169000_2 (⟨(rd_T45 l0_0 x7_2).f0, (rd_T45 l0_0 x7_2).f1, (rd_T45 l0_0 x7_2).f2⟩ : S45) [.string ((rd_T45 l0_0 x7_2).f0), .string ((rd_T45 l0_0 x7_2).f1), .int .i64 ((rd_T45 l0_0 x7_2).f2)] (fun k_ => k_ ≠ gb166) (fun _ => False) rfl rfl ?aP (fun _ hk => hk.elim) ?aF ?aO ?aB ?aS ?aL ?_
     (case aP => exact k45_mkM _ _ _ (⟨(rd_T45 l0_0 x7_2).f0, (rd_T45 l0_0 x7_2).f1, (rd_T45 l0_0 x7_2).f2⟩ : S45))
     (case aB => exact (BL))
     (case aF => exact (fun k_ hk => Kd.freshB (g := gb166) (o := .cells #[.string a1_0, .string a1_1, .int .i64 a1_2] 45 (0, 0)) (BQ BK166.out) k_ hk))
     (case aO => exact RQ HO_169000.out)
     (case aS => exact (below_size (BL)))
     (case aL => have := LMc45.out; omega)
     intro v180 w52 ho hb hg hat; rw [← Ny179.out] at ho; replace BK165 := Aside0.mk (blk_grown (g := gb165) (o := .cells #[.slice (some ad177) l0_0.length c0_0] 29 (0, 0)) (BQ BK165.out) hg (Kd.R_ne HO_169000.out BK165.out (by decide))); replace BK166 := Aside0.mk (blk_grown (g := gb166) (o := .cells #[.string a1_0, .string a1_1, .int .i64 a1_2] 45 (0, 0)) (BQ BK166.out) hg (Kd.R_away HO_169000.out (fun _ hk => hk))); replace BK167 := Aside0.mk (blk_grown (g := gb167) (o := .cells #[.slice none 0 0] 29 (0, 0)) (BQ BK167.out) hg (Kd.R_ne HO_169000.out BK167.out (by decide))); replace BK168 := Aside0.mk (blk_grown (g := gb168) (o := .cells #[u169000] 29 (0, 0)) (BQ BK168.out) hg (Kd.R_ne HO_169000.out BK168.out (by decide))); have n4_ := Aside0.mk (hb); have HO181 := Aside0.mk (ho); clear HB HO_169000; have HB := n4_; clear n4_ ho hb hg hat; obtain ⟨Ao53, co53, eo53⟩ := Kd.R_slice HO181.out
     (first | subst eo53 | (injection eo53 with f1_ f2_ f3_; have f4_ := f1_.symm; have f5_ := f3_.symm; clear f1_ f2_ f3_; subst f4_; subst f5_))
     refine hK.out _ _ ⟨CZ BK168.out 0, CZ BK165.out 0, ((HB.out.cell (World.block_lt_of_cell? w _ hw178_0)).trans hw178_0), ((HB.out.cell (World.block_lt_of_cell? w _ hw178_1)).trans hw178_1), ((HB.out.cell (World.block_lt_of_cell? w _ hw178_2)).trans hw178_2)⟩ (fun hHeld => ?_); clear hK K; refine norm_ (a' := ?_) ?_ ?_; rotate_left
     ·
      show Act.put _ (some 65) _ = _; simp only [Act.put, zA, zB, zC, i64_w, i32_w]; rfl
     refine pV 9 66 (OB 11 1023) ?_; refine last_ (i := 10) (N := none) #[true, true, true, true, true, true, true, true, true, true, true] rfl rfl (one_of HT_.out (by kernel_rfl)) (by decide) (fun K hK => ?_); have hs54 : w52.cell? ⟨gb168, 0, none⟩ = some (u169000) := CZ BK168.out 0; have hfs54 := blk_frozen BK168.out 0; have hns54_0 := NB165_168.out; have hns54_1 := NB166_168.out; have hns54_2 := NB167_168.out; have hms54_0 := NB168_165.out; have hms54_1 := NB168_166.out; have hms54_2 := NB168_167.out; refine skip_ (w1 := ?_) (by rfl) rfl ?_ ?_; rotate_left
     ·
      go_simp
      rfl
     refine hK.out _ _ ?_; clear hK K; refine done_ (done_of HT_.out (by kernel_rfl)) ?_
     try go_wp2
     go_roundg k2
     case measure => have := HK1.out; have := HK2.out; omega
     case rel => exact ⟨(wrap64 (x7_2 + 1)), (y179), (.slice Ao53 y179.length co53), SD, H', ⟨by have := HK1.out; have := HK2.out; omega⟩, ⟨RF HO181.out BK168.out⟩, ⟨BP BK165.out⟩, ⟨BP BK166.out⟩, ⟨BP BK167.out⟩, ⟨BU BK168.out⟩, ⟨BL⟩⟩

/-! ### spec_l03Without: function 64 -/
def spec_l03Without.l0 : Nat → ByteArray → Int → List (S45) → List (S45) → Option ((List (S45)))
 | 0, _, _, _, _ => none
 | k + 1, x1, x6, x183000, x185000 => if x6 < (x183000.length : Int) then (if 0 ≤ x6 then (if ((rd_T45 x183000 x6).f0).toList = x1.toList then (spec_l03Without.l0 k x1 (wrap64 (x6 + 1)) x183000 x185000) else (if x185000.length < 3518437208883 then (spec_l03Without.l0 k x1 (wrap64 (x6 + 1)) x183000 (x185000 ++ [(⟨(rd_T45 x183000 x6).f0, (rd_T45 x183000 x6).f1, (rd_T45 x183000 x6).f2⟩ : S45)])) else (none))) else (none)) else (some x185000)
def spec_l03Without.f (k : Nat) (l0_0 : List (S45)) (a1 : ByteArray) : Option ((List (S45))) := spec_l03Without.l0 k a1 0 l0_0 ([] : List (S45))
def spec_l03Without.T6 : Bool × List (List Nat × List Nat) := (true, [([], []), ([0], [0]), ([], []), ([2], [2]), ([], []), ([3, 4], [3, 4]), ([5], [5]), ([6], [6]), ([1, 7], [1, 7]), ([0, 1, 2, 3, 4, 5, 6, 7, 8], []), ([9, 8, 8, 0, 1, 2, 3, 4, 5, 6, 7, 8], [8, 9])])
def spec_l03Without.B6 : List Nat := [0, 1, 0, 4, 0, 28, 60, 124, 255, 511, 1023]
theorem spec_l03Without.tab6 : rtab .any (opsOf Try.f64 6) = spec_l03Without.T6 := by kernel_rfl
theorem spec_l03Without.bits6 : waitsOk spec_l03Without.T6.2 spec_l03Without.B6 = true := by kernel_rfl
set_option maxHeartbeats 8000000 in
set_option maxRecDepth 100000 in
theorem spec_l03Without.calls (k : Nat) (A0_0 : Option Addr) (c0_0 : Nat) (l0_0 : List (S45)) (a1 : ByteArray) (r : List (S45)) (w : World) (hr0_0 : Kd.C k45 w A0_0 l0_0.length l0_0) (hc0_0 : l0_0.length ≤ c0_0) (h : spec_l03Without.f k l0_0 a1 = some r) :
  Calls Try.prog 64 #[.agg #[.slice A0_0 l0_0.length c0_0], .string a1] w fun e w' => ∃ v0_ : Value, e = .returned (.agg #[v0_]) ∧ Kd.R k45 45 w' w.heap.size (fun _ => True) v0_ r ∧ Below w.heap.size w w' := by
 have hu29 := Try.underlying29
 have hu45 := Try.underlying45
 have HR0_0 := Aside0.mk hr0_0
 have HC0_0 := Aside0.mk hc0_0
 clear hr0_0 hc0_0
 have HB := Aside0.mk (Below.refl w.heap.size w)
 have H : (spec_l03Without.l0 k a1 0 l0_0 ([] : List (S45))) = some r := h
 clear h
 have H' := Aside0.mk H
 clear H
 go_enter Try.func64, Try.ntmps64
 go_wp2_with (first | ((with_reducible refine gate_dst (N := 2) rfl ?_); refine bE 2 #[.slice A0_0 l0_0.length c0_0] 29 ?_; intro gb182 hg w3 hbox hb; have BK182 := Aside0.mk (hbox); have GW182 : Aside0 (w.heap.size ≤ gb182) := GS; have GE182 := GW182; replace HB := BS hb; clear hb hbox hg) | ((with_reducible refine gate_dst (N := 4) rfl ?_); refine bE 4 #[.slice none 0 0] 29 ?_; intro gb183 hg w4 hbox hb; have BK183 := Aside0.mk (hbox); have GW183 : Aside0 (w.heap.size ≤ gb183) := GS; have GE183 := GW183; have NB182_183 := NL BK182.out hg; have NB183_182 := NG BK182.out hg; replace BK182 := BB BK182.out hb; replace HB := BS hb; clear hb hbox hg) | ((with_reducible refine gate_dst (N := 5) rfl ?_); refine bE 5 #[.slice none 0 0] 29 ?_; intro gb184 hg w5 hbox hb; have BK184 := Aside0.mk (hbox); have GW184 : Aside0 (w.heap.size ≤ gb184) := GS; have GE184 := GW184; have NB182_184 := NL BK182.out hg; have NB184_182 := NG BK182.out hg; have NB183_184 := NL BK183.out hg; have NB184_183 := NG BK183.out hg; replace BK182 := BB BK182.out hb; replace BK183 := BB BK183.out hb; replace HB := BS hb; clear hb hbox hg; obtain ⟨hnb6, hnc6⟩ := NN NB184_182.out; obtain ⟨hnb7, hnc7⟩ := NN NB184_183.out; obtain ⟨hcz8_0, hfz8_0⟩ := KC1 BK184.out))
 go_loopg [6] k (fun kq v6 w' => ∃ (x6_1 : Int) (x185000_1 : List (S45)) (u185000 : Value), v6 = .int .i64 x6_1 ∧ Aside0 (spec_l03Without.l0 kq a1 x6_1 l0_0 x185000_1 = some r) ∧ Aside0 (kq ≤ k) ∧ Aside0 (Kd.R k45 45 w' w.heap.size (fun _ => True) u185000 x185000_1) ∧ Aside0 (w'.heap[gb182]? = some (.cells #[(.slice A0_0 l0_0.length c0_0)] 29 (0, 0))) ∧ Aside0 (w'.heap[gb183]? = some (.cells #[(.slice none 0 0)] 29 (0, 0))) ∧ Aside0 (w'.heap[gb184]? = some (.cells #[u185000] 29 (0, 0))) ∧ Aside0 (Below w.heap.size w w'))
 case atStart => exact ⟨(0), (([] : List (S45))), (.slice none 0 0), SD, H', ⟨Nat.le_refl _⟩, ⟨by first | exact Kd.R_nil _ _ _ _ _ | exact Kd.N_nil _ _ _ _ _ | exact Kd.V_nil _ _ _ _ _ | exact Kd.Q_nil _ _ _ _ _ | exact Kd.S_nil _ _ _ _ _⟩, ⟨BP BK182.out⟩, ⟨BP BK183.out⟩, ⟨BU BK184.out⟩, ⟨BL⟩⟩
 case round =>
  clear H'
  try clear p2 c6 c7 hcz8_0 hfz8_0
  obtain ⟨x6_1, x185000_1, u185000, rfl, HA, HK1, HO_185000, BK182, BK183, BK184, HB⟩ := hrel; cases gk with
  | zero => exact absurd HA.out (by simp [spec_l03Without.l0])
  | succ k1 =>
   have H := HA.out; clear HA; simp only [spec_l03Without.l0] at H
   by_cases c9 : x6_1 < (l0_0.length : Int); rotate_left
   ·
    rw [if_neg c9] at H; have c9b0 : decide (x6_1 < (l0_0.length : Int)) = false := decide_eq_false c9; clear c9; obtain rfl := Option.some.inj H; obtain ⟨hnb23, hnc23⟩ := NN NB182_183.out; obtain ⟨hnb24, hnc24⟩ := NN NB182_184.out; obtain ⟨hcz25_0, hfz25_0⟩ := KC1 BK182.out; obtain ⟨hnb26, hnc26⟩ := NN NB184_183.out; obtain ⟨hcz27_0, hfz27_0⟩ := KC1 BK184.out; obtain ⟨Ao28, co28, eo28⟩ := Kd.R_slice HO_185000.out; subst eo28; obtain ⟨hcz29_0, hfz29_0⟩ := KC1 BK183.out
    go_wp2
    refine bodyPost_ret (results_cell_row rfl _ _ gb183 29 #[.slice Ao28 x185000_1.length co28] (0, 0) _ rfl (BU BK183.out) Try.underlying29 rfl (by kernel_rfl)) rfl ?_; exact ⟨_, EE, by (with_reducible repeat (first | apply r1 | apply r2 | apply r3)); exact Kd.R_mono (Kd.R_far (p := ⟨gb183, 0, none⟩) (Kd.R_types HO_185000.out BK183.out (by decide)) (fun _ hk => hk.2) (.slice Ao28 x185000_1.length co28)) (fun _ hk => trivial), BL⟩
   rw [if_pos c9] at H; have c9b0 : decide (x6_1 < (l0_0.length : Int)) = true := decide_eq_true c9; clear c9
   by_cases c10 : 0 ≤ x6_1; rotate_left
   ·
    rw [if_neg c10] at H; exact absurd H (by simp)
   rw [if_pos c10] at H; have c10b0 : decide (0 ≤ x6_1) = true := decide_eq_true c10; clear c10
   by_cases c11 : ((rd_T45 l0_0 x6_1).f0).toList = a1.toList
   ·
    rw [if_pos c11] at H; have c11b0 : (((rd_T45 l0_0 x6_1).f0).toList == a1.toList) = true := beq_iff_eq.mpr c11; have c11b1 : (((rd_T45 l0_0 x6_1).f0).toList != a1.toList) = false := bne_eq_false_iff_eq.mpr c11; clear c11; have H' := Aside0.mk H; clear H; obtain ⟨hnb12, hnc12⟩ := NN NB182_183.out; obtain ⟨hnb13, hnc13⟩ := NN NB182_184.out; obtain ⟨hcz14_0, hfz14_0⟩ := KC1 BK182.out; have p185 : 0 ≤ (x6_1 : Int) := of_decide_eq_true AS; have q185 : x6_1 < (l0_0.length : Int) := of_decide_eq_true AS; obtain ⟨ad185, e185, hx185_0, hx185_1, hx185_2⟩ := at_T45 HR0_0.out x6_1 p185 q185; cases e185; replace hx185_0 := HX hx185_0; replace hx185_1 := HX hx185_1; replace hx185_2 := HX hx185_2; replace p185 := eq_true p185; replace q185 := eq_true q185
    go_wp2
    go_roundg k1
    case measure => have := HK1.out; omega
    case rel => exact ⟨(wrap64 (x6_1 + 1)), (x185000_1), (u185000), SD, H', ⟨by have := HK1.out; omega⟩, ⟨RQ HO_185000.out⟩, ⟨BQ BK182.out⟩, ⟨BQ BK183.out⟩, ⟨BQ BK184.out⟩, ⟨BL⟩⟩
   rw [if_neg c11] at H; have c11b0 : (((rd_T45 l0_0 x6_1).f0).toList == a1.toList) = false := beq_eq_false_iff_ne.mpr c11; have c11b1 : (((rd_T45 l0_0 x6_1).f0).toList != a1.toList) = true := bne_iff_ne.mpr c11
   by_cases c15 : x185000_1.length < 3518437208883; rotate_left
   ·
    rw [if_neg c15] at H; exact absurd H (by simp)
   rw [if_pos c15] at H; have LMc15 := Aside0.mk c15; clear c15; obtain ⟨y187, hy187⟩ : ∃ y_ : List (S45), y_ = (x185000_1 ++ [(⟨(rd_T45 l0_0 x6_1).f0, (rd_T45 l0_0 x6_1).f1, (rd_T45 l0_0 x6_1).f2⟩ : S45)]) := ⟨_, rfl⟩
   replace H : (spec_l03Without.l0 k1 a1 (wrap64 (x6_1 + 1)) l0_0 y187) = some r := by first | (rw [hy187]; with_reducible exact H) | (have H2_ := (Option.bind_some _ _).symm.trans H; rw [hy187]; with_reducible exact H2_) | (have H2_ := (Option.bind_some _ _).symm.trans H; with_reducible exact H2_) | with_reducible exact H | (rw [hy187]; exact H) | exact H
   have Ny187 := Aside0.mk hy187; clear hy187; have H' := Aside0.mk H; clear H; obtain ⟨hnb16, hnc16⟩ := NN NB182_183.out; obtain ⟨hnb17, hnc17⟩ := NN NB182_184.out; obtain ⟨hcz18_0, hfz18_0⟩ := KC1 BK182.out; have p185 : 0 ≤ (x6_1 : Int) := of_decide_eq_true AS; have q185 : x6_1 < (l0_0.length : Int) := of_decide_eq_true AS; obtain ⟨ad185, e185, hx185_0, hx185_1, hx185_2⟩ := at_T45 HR0_0.out x6_1 p185 q185; cases e185; replace hx185_0 := HX hx185_0; replace hx185_1 := HX hx185_1; replace hx185_2 := HX hx185_2; replace p185 := eq_true p185; replace q185 := eq_true q185
   try go_wp2
   replace HO_185000 := DR HO_185000; replace BK182 := BD BK182; replace BK183 := BD BK183; replace BK184 := BD BK184; replace HB := Aside0.mk (below_drew1 HB.out); have p186 : 0 ≤ (x6_1 : Int) := of_decide_eq_true AS; have q186 : x6_1 < (l0_0.length : Int) := of_decide_eq_true AS; obtain ⟨ad186, e186, hx186_0, hx186_1, hx186_2⟩ := at_T45 HR0_0.out x6_1 p186 q186; have hw186_2 := hx186_2; have hw186_1 := hx186_1; have hw186_0 := hx186_0; obtain rfl : ad185 = ad186 := (by injection e186); replace hx186_0 := HX hx186_0; replace hx186_1 := HX hx186_1; replace hx186_2 := HX hx186_2; replace p186 := eq_true p186; replace q186 := eq_true q186; refine start_ (n := 11) (S := fun w' => w'.cell? ⟨gb184, 0, none⟩ = some (u185000) ∧ w'.cell? ⟨gb182, 0, none⟩ = some (.slice (some ad185) l0_0.length c0_0) ∧ w'.cell? (ad185.add ((x6_1).toNat * 3)) = some (.string ((rd_T45 l0_0 x6_1).f0)) ∧ w'.cell? ⟨(ad185.add ((x6_1).toNat * 3)).block, (ad185.add ((x6_1).toNat * 3)).off + 1, none⟩ = some (.string ((rd_T45 l0_0 x6_1).f1)) ∧ w'.cell? ⟨(ad185.add ((x6_1).toNat * 3)).block, (ad185.add ((x6_1).toNat * 3)).off + 2, none⟩ = some (.int .i64 ((rd_T45 l0_0 x6_1).f2))) (ds := [10]) #[false, false, false, false, false, false, false, false, false, false, false] (by kernel_rfl) rfl rfl ⟨CZ BK184.out 0, CZ BK182.out 0, ((HB.out.cell (World.block_lt_of_cell? w _ hw186_0)).trans hw186_0), ((HB.out.cell (World.block_lt_of_cell? w _ hw186_1)).trans hw186_1), ((HB.out.cell (World.block_lt_of_cell? w _ hw186_2)).trans hw186_2)⟩ (fun hHeld => ?_); refine with_tabW spec_l03Without.tab6 spec_l03Without.bits6 (fun HT_ HW_ => ?_); generalize wr.drew = w19 at HO_185000 BK182 BK183 BK184 HB hx186_0 hx186_1 hx186_2 hHeld ⊢; refine pV 0 23 (OB 11 1) ?_; refine pV 2 25 (OB 11 5) ?_; refine pV 4 27 (OB 11 21) ?_; refine pT 1 24 (OB 11 23) ?_; refine pT 3 26 (OB 11 31) ?_; refine pV 5 28 (OB 11 63) ?_; refine pT 6 29 (OB 11 127) ?_; refine one_ (i := 7) (N := some 30) (OB 11 255) rfl rfl (one_of HT_.out (by kernel_rfl)) (by decide) (fun K hK => ?_); refine value_ (w1 := ?_) (v := ?_) (by rfl) rfl ?_ ?_; rotate_left 2
   ·
    go_simp
    constructor
    ·
     rfl
    ·
     rfl
   refine hK.out _ _ ⟨(blk_cell (blk_alloc BK184.out _) 0).trans rfl, (blk_cell (blk_alloc BK182.out _) 0).trans rfl, (World.cell?_alloc_lt _ _ _ (World.block_lt_of_cell? _ _ (((HB.out.cell (World.block_lt_of_cell? w _ hw186_0)).trans hw186_0)))).trans (((HB.out.cell (World.block_lt_of_cell? w _ hw186_0)).trans hw186_0)), (World.cell?_alloc_lt _ _ _ (World.block_lt_of_cell? _ _ (((HB.out.cell (World.block_lt_of_cell? w _ hw186_1)).trans hw186_1)))).trans (((HB.out.cell (World.block_lt_of_cell? w _ hw186_1)).trans hw186_1)), (World.cell?_alloc_lt _ _ _ (World.block_lt_of_cell? _ _ (((HB.out.cell (World.block_lt_of_cell? w _ hw186_2)).trans hw186_2)))).trans (((HB.out.cell (World.block_lt_of_cell? w _ hw186_2)).trans hw186_2))⟩ (fun hHeld => ?_); clear hK K; refine norm_ (a' := ?_) ?_ ?_; rotate_left
   ·
    show Act.put _ (some 30) _ = _; simp only [Act.put, zA, zB, zC, i64_w, i32_w]; rfl
   refine one_ (i := 8) (N := some 31) (OB 11 511) rfl rfl (one_of HT_.out (by kernel_rfl)) (by decide) (fun K hK => ?_); refine Kd.R_append_step k45 (w0 := w) w.heap.size (by rfl) (.tmp 24) (.tmp 30) 27 45 (.agg #[(.string ⟨#[]⟩), (.string ⟨#[]⟩), (.int .i64 0)]) 40 rfl Try.underlying27 info45 rfl (by decide) (by omega) u185000 x185000_1 (⟨(rd_T45 l0_0 x6_1).f0, (rd_T45 l0_0 x6_1).f1, (rd_T45 l0_0 x6_1).f2⟩ : S45) [.string ((rd_T45 l0_0 x6_1).f0), .string ((rd_T45 l0_0 x6_1).f1), .int .i64 ((rd_T45 l0_0 x6_1).f2)] (fun _ => True) (fun _ => False) rfl rfl ?aP (fun _ hk => hk.elim) ?aF ?aO ?aB ?aS ?aL ?_
   (case aP => exact k45_mkM _ _ _ (⟨(rd_T45 l0_0 x6_1).f0, (rd_T45 l0_0 x6_1).f1, (rd_T45 l0_0 x6_1).f2⟩ : S45))
   (case aB => exact (BL))
   (case aF => exact (fun _ _ => trivial))
   (case aO => exact RQ HO_185000.out)
   (case aS => exact (below_size (BL)))
   (case aL => have := LMc15.out; omega)
   intro v188 w20 ho hb hg hat; rw [← Ny187.out] at ho; replace BK182 := Aside0.mk (blk_grown (g := gb182) (o := .cells #[.slice (some ad185) l0_0.length c0_0] 29 (0, 0)) (BQ BK182.out) hg (Kd.R_ne HO_185000.out BK182.out (by decide))); replace BK183 := Aside0.mk (blk_grown (g := gb183) (o := .cells #[.slice none 0 0] 29 (0, 0)) (BQ BK183.out) hg (Kd.R_ne HO_185000.out BK183.out (by decide))); replace BK184 := Aside0.mk (blk_grown (g := gb184) (o := .cells #[u185000] 29 (0, 0)) (BQ BK184.out) hg (Kd.R_ne HO_185000.out BK184.out (by decide))); have n3_ := Aside0.mk (hb); have HO189 := Aside0.mk (ho); clear HB HO_185000; have HB := n3_; clear n3_ ho hb hg hat; obtain ⟨Ao21, co21, eo21⟩ := Kd.R_slice HO189.out
   (first | subst eo21 | (injection eo21 with f1_ f2_ f3_; have f4_ := f1_.symm; have f5_ := f3_.symm; clear f1_ f2_ f3_; subst f4_; subst f5_))
   refine hK.out _ _ ⟨CZ BK184.out 0, CZ BK182.out 0, ((HB.out.cell (World.block_lt_of_cell? w _ hw186_0)).trans hw186_0), ((HB.out.cell (World.block_lt_of_cell? w _ hw186_1)).trans hw186_1), ((HB.out.cell (World.block_lt_of_cell? w _ hw186_2)).trans hw186_2)⟩ (fun hHeld => ?_); clear hK K; refine norm_ (a' := ?_) ?_ ?_; rotate_left
   ·
    show Act.put _ (some 31) _ = _; simp only [Act.put, zA, zB, zC, i64_w, i32_w]; rfl
   refine pV 9 32 (OB 11 1023) ?_; refine last_ (i := 10) (N := none) #[true, true, true, true, true, true, true, true, true, true, true] rfl rfl (one_of HT_.out (by kernel_rfl)) (by decide) (fun K hK => ?_); have hs22 : w20.cell? ⟨gb184, 0, none⟩ = some (u185000) := CZ BK184.out 0; have hfs22 := blk_frozen BK184.out 0; have hns22_0 := NB182_184.out; have hns22_1 := NB183_184.out; have hms22_0 := NB184_182.out; have hms22_1 := NB184_183.out; refine skip_ (w1 := ?_) (by rfl) rfl ?_ ?_; rotate_left
   ·
    go_simp
    rfl
   refine hK.out _ _ ?_; clear hK K; refine done_ (done_of HT_.out (by kernel_rfl)) ?_
   try go_wp2
   go_roundg k1
   case measure => have := HK1.out; omega
   case rel => exact ⟨(wrap64 (x6_1 + 1)), (y187), (.slice Ao21 y187.length co21), SD, H', ⟨by have := HK1.out; omega⟩, ⟨RF HO189.out BK184.out⟩, ⟨BP BK182.out⟩, ⟨BP BK183.out⟩, ⟨BU BK184.out⟩, ⟨BL⟩⟩

end Go.Proofs.Ythfppepnpngfmaa.Qac
