-- Laid by myprint.py, a program of this session's own, over the kit's print. Not trusted: Lean checks it.
import Derived.Test.YthfppepnpngfmaaQcux0
import Derived.Test.YthfppepnpngfmaaQcux1
import Derived.Test.YthfppepnpngfmaaQcux2
import Derived.Test.YthfppepnpngfmaaQcux3
import Derived.Test.YthfppepnpngfmaaQcux6
import Derived.Test.YthfppepnpngfmaaQcux7
import Derived.Test.YthfppepnpngfmaaQcux9
namespace Go.Proofs.Ythfppepnpngfmaa.Qcu
open Go.RowKit Go.Proofs.YthfppepnpngfmaaW.PrintWords Go.Proofs.YthfppepnpngfmaaW.PrintLast Go.Proofs.YthfppepnpngfmaaW.PrintMore
attribute [local go_sem] Go.Proofs.Ythfppepnpngfmaa.StrCmp.gtr_less Go.Proofs.Ythfppepnpngfmaa.StrCmp.geq_less Go.Proofs.Ythfppepnpngfmaa.StrCmp.leq_less max2_int min2_int max_two min_two max_three min_three max_four min_four   -- for this text's walks alone
set_option linter.unusedVariables false
set_option linter.unusedSimpArgs false

/-! ### spec_CutActs: function 46 -/
def spec_CutActs.f (k : Nat) (l0_0 : List (S45)) (l1 : List (S55)) (a2 : Int) (l3 : List Int) : Option ((List (S45)) × Bool) := (spec_l01In.f a2 0 (l1.length : Int)).bind fun t372 => (if t372 = true then (if 0 ≤ a2 then (if a2 ≤ (l1.length : Int) then ((spec_DoActs.f k l0_0 (l1.take (a2 : Int).toNat)).bind fun bt377 => (if bt377.2 < a2 then (some (([] : List (S45)), false)) else ((spec_LoseDisk.f k bt377.1 l3).bind fun bt382 => (some (bt382.1, bt382.2))))) else (none)) else (none)) else (some (([] : List (S45)), false)))
theorem spec_CutActs.mono : ∀ a0 a1 a2 a3 k, LeO (spec_CutActs.f k a0 a1 a2 a3) (spec_CutActs.f (k + 1) a0 a1 a2 a3) := by
 intro a0 a1 a2 a3 k
 unfold spec_CutActs.f
 repeat' first
   | (with_reducible exact spec_DoActs.mono _ _ _)
   | (with_reducible exact spec_LoseDisk.mono _ _ _)
   | (with_reducible exact LeO.refl _)
   | (with_reducible exact LeO.none _)
   | (with_reducible refine LeO.ite ?_ ?_)
   | (with_reducible refine LeO.bind ?_ (fun _ => ?_))
   | exact spec_DoActs.mono _ _ _
   | exact spec_LoseDisk.mono _ _ _
   | exact LeO.none _
   | refine LeO.ite ?_ ?_
   | refine LeO.bind ?_ (fun _ => ?_)
def spec_CutActs.T3 : Bool × List (List Nat × List Nat) := (true, [([], []), ([], []), ([], []), ([1, 2], [1, 2]), ([0, 3], [0, 3]), ([4], [4]), ([5], [5]), ([5], [5]), ([], []), ([8, 6, 4, 0, 1, 2, 3, 4, 5, 6, 8], [6, 8]), ([7, 9, 0, 1, 2, 3, 4, 5, 6, 7, 8, 9], [7])])
def spec_CutActs.B3 : List Nat := [0, 0, 0, 6, 15, 31, 63, 63, 0, 383, 1023]
theorem spec_CutActs.tab3 : rtab .any (opsOf Try.f46 3) = spec_CutActs.T3 := by kernel_rfl
theorem spec_CutActs.bits3 : waitsOk spec_CutActs.T3.2 spec_CutActs.B3 = true := by kernel_rfl
set_option maxHeartbeats 8000000 in
set_option maxRecDepth 100000 in
theorem spec_CutActs.calls (k : Nat) (A0_0 : Option Addr) (c0_0 : Nat) (l0_0 : List (S45)) (A1 : Option Addr) (c1 : Nat) (l1 : List (S55)) (a2 : Int) (A3 : Option Addr) (c3 : Nat) (l3 : List Int) (r1 : List (S45)) (r2 : Bool) (w : World) (hr0_0 : Kd.C k45 w A0_0 l0_0.length l0_0) (hc0_0 : l0_0.length ≤ c0_0) (hr1 : Kd.C k55 w A1 l1.length l1) (hc1 : l1.length ≤ c1) (hr3 : Kd.C (Kd.int .i64) w A3 l3.length l3) (hc3 : l3.length ≤ c3) (h : spec_CutActs.f k l0_0 l1 a2 l3 = some (r1, r2)) :
  Calls Try.prog 46 #[.agg #[.slice A0_0 l0_0.length c0_0], .slice A1 l1.length c1, .int .i64 a2, .slice A3 l3.length c3] w fun e w' => ∃ v0_ : Value, e = .returned (.tuple #[.agg #[v0_], .bool r2]) ∧ Kd.R k45 45 w' w.heap.size (fun _ => True) v0_ r1 ∧ Below w.heap.size w w' := by
 have hu29 := Try.underlying29
 have HR0_0 := Aside0.mk hr0_0
 have HC0_0 := Aside0.mk hc0_0
 clear hr0_0 hc0_0
 have HR1 := Aside0.mk hr1
 have HC1 := Aside0.mk hc1
 clear hr1 hc1
 have HR3 := Aside0.mk hr3
 have HC3 := Aside0.mk hc3
 clear hr3 hc3
 have HB := Aside0.mk (Below.refl w.heap.size w)
 have H : ((spec_l01In.f a2 0 (l1.length : Int)).bind fun t372 => (if t372 = true then (if 0 ≤ a2 then (if a2 ≤ (l1.length : Int) then ((spec_DoActs.f k l0_0 (l1.take (a2 : Int).toNat)).bind fun bt377 => (if bt377.2 < a2 then (some (([] : List (S45)), false)) else ((spec_LoseDisk.f k bt377.1 l3).bind fun bt382 => (some (bt382.1, bt382.2))))) else (none)) else (none)) else (some (([] : List (S45)), false)))) = some (r1, r2) := h
 clear h
 replace H := Option.bind_eq_some_iff.mp H
 obtain ⟨t372, A50, H⟩ := H
 have A5 := Aside0.mk A50
 clear A50
 by_cases c6 : t372 = true; rotate_left
 ·
  replace c6 := Bool.eq_false_iff.mpr c6; subst c6
  have H1 : (some (([] : List (S45)), false)) = some (r1, r2) := by rw [if_neg (show ¬ (false = true) by decide)] at H; exact H
  clear H; have H := H1; clear H1; simp only [Option.some.injEq, Prod.mk.injEq] at H; obtain ⟨rfl, rfl⟩ := H
  go_enter Try.func46, Try.ntmps46
  go_wp2_with (first | ((with_reducible refine gate_dst (N := 4) rfl ?_); refine bE 4 #[.slice A0_0 l0_0.length c0_0] 29 ?_; intro gb370 hg w40 hbox hb; have BK370 := Aside0.mk (hbox); have GW370 : Aside0 (w.heap.size ≤ gb370) := GS; have GE370 := GW370; replace HB := Aside0.mk (below_step (BL) hb); clear hb hbox hg) | ((with_reducible refine gate_dst (N := 8) rfl ?_); refine bE 8 #[.slice none 0 0] 29 ?_; intro gb371 hg w41 hbox hb; have BK371 := Aside0.mk (hbox); have GW371 : Aside0 (w.heap.size ≤ gb371) := GS; have GE371 := GW371; have NB370_371 := NL BK370.out hg; have NB371_370 := NG BK370.out hg; replace BK370 := BB BK370.out hb; replace HB := Aside0.mk (below_step (BL) hb); clear hb hbox hg) | ((with_reducible refine gate_callee (f := 49) rfl ?_); refine goesL_ (some 15) rfl rfl Try.func49 (by kernel_rfl) rfl #[.int .i64 a2, .int .i64 0, .int .i64 (l1.length : Int)] rfl (MA) ?_; (with_reducible refine (spec_l01In.calls a2 0 (l1.length : Int) false _ A5.out).mono ?_); rintro e w' ⟨rfl, ⟨nd, rfl⟩⟩; refine ⟨_, rfl, ?_⟩; (try (rw [drewN_self w41]; generalize hq_ : World.drewN w41 _ = w41; have n0_ : Aside0 (w41.heap[gb370]? = some (.cells #[.slice A0_0 l0_0.length c0_0] 29 (0, 0))) := ⟨by rw [← hq_]; exact (BQ BK370.out)⟩; have n1_ : Aside0 (w41.heap[gb371]? = some (.cells #[.slice none 0 0] 29 (0, 0))) := ⟨by rw [← hq_]; exact (BQ BK371.out)⟩; have n2_ : Aside0 (Below w.heap.size w w41) := ⟨by rw [← hq_]; exact (BL)⟩; clear BK370 BK371 HB hq_; have BK370 := n0_; have BK371 := n1_; have HB := n2_; clear n0_ n1_ n2_)); have hnb42 := NB371_370.out; have hnc42 := NB370_371.out; have hcz43_0 : w41.cell? ⟨gb371, 0, none⟩ = some (.slice none 0 0) := CZ BK371.out 0; have hfz43_0 := blk_frozen BK371.out 0))
  refine bodyPost_ret (results_ct rfl _ _ gb371 29 #[.slice none 0 0] (0, 0) _ rfl (BU BK371.out) Try.underlying29 rfl (by kernel_rfl)) rfl ?_; exact ⟨_, EE, by first | exact Kd.R_nil _ _ _ _ _ | exact Kd.N_nil _ _ _ _ _ | exact Kd.V_nil _ _ _ _ _ | exact Kd.Q_nil _ _ _ _ _ | exact Kd.S_nil _ _ _ _ _, BL⟩
 subst c6
 have H1 : (if 0 ≤ a2 then (if a2 ≤ (l1.length : Int) then ((spec_DoActs.f k l0_0 (l1.take (a2 : Int).toNat)).bind fun bt377 => (if bt377.2 < a2 then (some (([] : List (S45)), false)) else ((spec_LoseDisk.f k bt377.1 l3).bind fun bt382 => (some (bt382.1, bt382.2))))) else (none)) else (none)) = some (r1, r2) := by rw [if_pos rfl] at H; exact H
 clear H
 have H := H1
 clear H1
 by_cases c7 : 0 ≤ a2; rotate_left
 ·
  rw [if_neg c7] at H; exact absurd H (by simp)
 rw [if_pos c7] at H
 have c7b0 := eq_true c7
 have c7b1 : decide (0 ≤ a2) = true := decide_eq_true c7
 clear c7
 by_cases c8 : a2 ≤ (l1.length : Int); rotate_left
 ·
  rw [if_neg c8] at H; exact absurd H (by simp)
 rw [if_pos c8] at H
 have c8b0 := eq_true c8
 have c8b1 : decide (a2 ≤ (l1.length : Int)) = true := decide_eq_true c8
 clear c8
 obtain ⟨y373, hy373⟩ : ∃ y_ : List (S55), y_ = (l1.take (a2 : Int).toNat) := ⟨_, rfl⟩
 replace H : ((spec_DoActs.f k l0_0 y373).bind fun bt377 => (if bt377.2 < a2 then (some (([] : List (S45)), false)) else ((spec_LoseDisk.f k bt377.1 l3).bind fun bt382 => (some (bt382.1, bt382.2))))) = some (r1, r2) := by first | (rw [hy373]; with_reducible exact H) | (have H2_ := (Option.bind_some _ _).symm.trans H; rw [hy373]; with_reducible exact H2_) | (have H2_ := (Option.bind_some _ _).symm.trans H; with_reducible exact H2_) | with_reducible exact H | (rw [hy373]; exact H) | exact H
 have Ny373 := Aside0.mk hy373
 clear hy373
 replace H := Option.bind_eq_some_iff.mp H
 obtain ⟨⟨t377, t380⟩, A90, H⟩ := H
 replace H : (if t380 < a2 then (some (([] : List (S45)), false)) else ((spec_LoseDisk.f k t377 l3).bind fun bt382 => (some (bt382.1, bt382.2)))) = some (r1, r2) := H
 have A9 := Aside0.mk A90
 clear A90
 by_cases c10 : t380 < a2
 ·
  rw [if_pos c10] at H; have c10b0 : decide (t380 < a2) = true := decide_eq_true c10; clear c10; simp only [Option.some.injEq, Prod.mk.injEq] at H; obtain ⟨rfl, rfl⟩ := H
  go_enter Try.func46, Try.ntmps46
  try go_wp2_with (first | ((with_reducible refine gate_dst (N := 4) rfl ?_); refine bE 4 #[.slice A0_0 l0_0.length c0_0] 29 ?_; intro gb370 hg w11 hbox hb; have BK370 := Aside0.mk (hbox); have GW370 : Aside0 (w.heap.size ≤ gb370) := GS; have GE370 := GW370; replace HB := Aside0.mk (below_step (BL) hb); clear hb hbox hg) | ((with_reducible refine gate_dst (N := 8) rfl ?_); refine bE 8 #[.slice none 0 0] 29 ?_; intro gb371 hg w12 hbox hb; have BK371 := Aside0.mk (hbox); have GW371 : Aside0 (w.heap.size ≤ gb371) := GS; have GE371 := GW371; have NB370_371 := NL BK370.out hg; have NB371_370 := NG BK370.out hg; replace BK370 := BB BK370.out hb; replace HB := Aside0.mk (below_step (BL) hb); clear hb hbox hg) | ((with_reducible refine gate_callee (f := 49) rfl ?_); refine goesL_ (some 15) rfl rfl Try.func49 (by kernel_rfl) rfl #[.int .i64 a2, .int .i64 0, .int .i64 (l1.length : Int)] rfl (MA) ?_; (with_reducible refine (spec_l01In.calls a2 0 (l1.length : Int) true _ A5.out).mono ?_); rintro e w' ⟨rfl, ⟨nd, rfl⟩⟩; refine ⟨_, rfl, ?_⟩; (try (rw [drewN_self w12]; generalize hq_ : World.drewN w12 _ = w12; have n0_ : Aside0 (w12.heap[gb370]? = some (.cells #[.slice A0_0 l0_0.length c0_0] 29 (0, 0))) := ⟨by rw [← hq_]; exact (BQ BK370.out)⟩; have n1_ : Aside0 (w12.heap[gb371]? = some (.cells #[.slice none 0 0] 29 (0, 0))) := ⟨by rw [← hq_]; exact (BQ BK371.out)⟩; have n2_ : Aside0 (Below w.heap.size w w12) := ⟨by rw [← hq_]; exact (BL)⟩; clear BK370 BK371 HB hq_; have BK370 := n0_; have BK371 := n1_; have HB := n2_; clear n0_ n1_ n2_))))
  have n0_ := Aside0.mk (blk_drew BK370.out); have n1_ := Aside0.mk (blk_drew BK371.out); have n2_ := Aside0.mk (below_drew1 HB.out); clear BK370; clear BK371; clear HB; have BK370 := n0_; have BK371 := n1_; have HB := n2_; clear n0_ n1_ n2_; have q14 : (a2 : Int) ≤ ((l1.length : Int) : Int) := of_decide_eq_true AS; obtain ⟨i014, hi014, _, hsz14, _⟩ := info_parts info55; have hroom14 : l1.length ≤ c1 := HC1.out; have hC14 : Kd.C k55 _ A1 l1.length l1 := HR1.out; have hcut14 := cut_to (P := Try.prog) 62 55 .i64 Try.underlying62 hi014 A1 l1.length c1 a2 (of_decide_eq_true AS) q14 hroom14; have hr14 := Kd.C_take (m := (a2 : Int).toNat) hC14 (by omega); have hy14 : y373.length = (a2 : Int).toNat := (by rw [Ny373.out, List.length_take]; omega); rw [← Ny373.out] at hr14; rw [← hy14] at hcut14; have HR376 := Aside0.mk hr14; have HC376 := Aside0.mk (show y373.length ≤ c1 from by omega); clear hr14 hC14 hroom14 hi014 hsz14; have KY14 := Aside0.mk hy14; clear hy14; replace q14 := eq_true q14; refine start_ (n := 11) (S := fun w' => w'.cell? ⟨gb370, 0, none⟩ = some (.slice A0_0 l0_0.length c0_0)) (ds := []) #[false, false, false, false, false, false, false, false, false, false, false] (by kernel_rfl) rfl rfl (CZ BK370.out 0) (fun hHeld => ?_); refine with_tabW spec_CutActs.tab3 spec_CutActs.bits3 (fun HT_ HW_ => ?_); generalize w12.drew = w13 at BK370 BK371 HB HR376 hHeld ⊢; refine pV 1 20 (OB 11 2) ?_; refine pV 2 21 (OB 11 6) ?_; refine pV 3 22 (OB 11 14) ?_; refine take_ (i := 0) (N := some 19) (v := ?_) (a' := ?_) (OB 11 15) rfl rfl (take_ofW HT_.out HW_.out (by kernel_rfl)) (fun _ _ _ h => h) (Or.inl ⟨by rfl, ?_⟩) hHeld ?_ ?_; rotate_left
  ·
   intro w' s0
   go_simp
   with_reducible rfl
  rotate_left
  ·
   simp only [Act.put, zA, zB, zC, i64_w, i32_w]; rfl
  refine join_ (σ := Value × Nat) 2 #[true, true, true, true, true, true, true, true, true, false, false] (fun s_ => [(23, .tuple #[.agg #[s_.1], .int .i64 t380]), (10, .pointer (some ⟨s_.2, 0, none⟩)), (18, .tuple #[.agg #[s_.1], .int .i64 t380]), (24, .agg #[s_.1]), (25, .int .i64 t380)]) (fun s_ w' => (w'.cell? ⟨gb370, 0, none⟩ = some (.slice A0_0 l0_0.length c0_0)) ∧ (Kd.R k45 45 w' w.heap.size (fun _ => True) s_.1 t377) ∧ (w'.heap[gb370]? = some (.cells #[.slice A0_0 l0_0.length c0_0] 29 (0, 0))) ∧ (w'.heap[gb371]? = some (.cells #[.slice none 0 0] 29 (0, 0))) ∧ (w'.heap[s_.2]? = some (.cells #[.slice none 0 0] 29 (0, 0))) ∧ (w.heap.size ≤ s_.2) ∧ (w.heap.size ≤ s_.2) ∧ (gb370 ≠ s_.2) ∧ (s_.2 ≠ gb370) ∧ (gb371 ≠ s_.2) ∧ (s_.2 ≠ gb371) ∧ (Below w.heap.size w w')) ?_ ?_; rotate_left
  ·
   intro hCont; refine two_ (i := 4) (j := 8) (Ni := some 23) (Nj := some 10) #[true, true, true, true, true, false, false, false, false, false, false] #[true, true, true, true, false, false, false, false, true, false, false] rfl rfl rfl rfl (two_of HT_.out (by kernel_rfl)) (by decide) (by decide) (fun K hK => ?_) (fun K hK => ?_)
   ·
    skip
    refine goes_ Try.func39 (by kernel_rfl) rfl #[.agg #[.slice A0_0 l0_0.length c0_0], .slice A1 y373.length c1] (by rfl) rfl rfl (MA) ?_
    with_reducible refine (spec_DoActs.calls k _ _ l0_0 _ _ y373 t377 t380 _ ?side1 ?side2 ?side3 ?side4 A9.out).mono ?_
    (case side1 => exact CB HR0_0.out)
    (case side2 => exact HC0_0.out)
    (case side3 => exact CB HR376.out)
    (case side4 => exact HC376.out)
    rintro e w15 ⟨v378, rfl, ho0, hb⟩; refine ⟨_, rfl, ?_⟩; have n0_ := Aside0.mk (Kd.R_lower ho0 (below_size (BL))); have n1_ := BB BK370.out hb; have n2_ := BB BK371.out hb; have n3_ := Aside0.mk (below_step (BL) hb); clear BK370; clear BK371; clear HB; have HO379 := n0_; have BK370 := n1_; have BK371 := n2_; have HB := n3_; clear n0_ n1_ n2_ n3_
    (try clear hb)
    (try clear hb2)
    (try clear hk)
    (try clear hi)
    (try clear ho0)
    refine hK.out _ _ (CZ BK370.out 0) (fun hHeld => ?_); clear hK K; refine norm_ (a' := ?_) ?_ ?_; rotate_left
    ·
     show Act.put _ (some 23) _ = _; simp only [Act.put, zA, zB, zC, i64_w, i32_w]; rfl
    refine pV 5 18 (OB 11 63) ?_; refine pV 6 24 (OB 11 127) ?_; refine pV 7 25 (OB 11 255) ?_; refine one_ (i := 8) (N := some 10) (OB 11 511) rfl rfl (one_of HT_.out (by kernel_rfl)) (by decide) (fun K hK => ?_); refine box_step ?hg (N := 10) ?hd (cs := #[.slice none 0 0]) (t := 29) ?hr ?_; (case hd => rfl); (case hg => rfl); (case hr => first | (go_simp; done) | (go_simp; rfl)); intro gb381 hg w16 hbox hb; have n0_ := Aside0.mk (Kd.R_below (RQ HO379.out) hb); have n1_ := BB BK370.out hb; have n2_ := BB BK371.out hb; have n3_ := Aside0.mk (below_step (BL) hb); have n4_ := Aside0.mk (hbox); have n5_ : Aside0 (w.heap.size ≤ gb381) := GS; have n6_ : Aside0 (w.heap.size ≤ gb381) := GS; have n7_ := NL BK370.out hg; have n8_ := NG BK370.out hg; have n9_ := NL BK371.out hg; have n10_ := NG BK371.out hg; clear HO379; clear BK370; clear BK371; clear HB; have HO379 := n0_; have BK370 := n1_; have BK371 := n2_; have HB := n3_; have BK381 := n4_; have GW381 := n5_; have GE381 := n6_; have NB370_381 := n7_; have NB381_370 := n8_; have NB371_381 := n9_; have NB381_371 := n10_; clear n0_ n1_ n2_ n3_ n4_ n5_ n6_ n7_ n8_ n9_ n10_; clear hb hbox hg; refine hK.out _ _ (CZ BK370.out 0) (fun hHeld => ?_); clear hK K; refine norm_ (a' := ?_) ?_ ?_; rotate_left
    ·
     show Act.put _ (some 10) _ = _; simp only [Act.put, zA, zB, zC, i64_w, i32_w]; rfl
    exact norm_ (by simp only [putAll, Act.put, zA, zB, zC]) (hCont (v378, gb381) _ ⟨hHeld, (RQ HO379.out), (BQ BK370.out), (BQ BK371.out), (BQ BK381.out), GW381.out, GE381.out, NB370_381.out, NB381_370.out, NB371_381.out, NB381_371.out, (BL)⟩)
   ·
    skip
    refine box_step ?hg (N := 10) ?hd (cs := #[.slice none 0 0]) (t := 29) ?hr ?_; (case hd => rfl); (case hg => rfl); (case hr => first | (go_simp; done) | (go_simp; rfl)); intro gb381 hg w15 hbox hb; have n0_ := BB BK370.out hb; have n1_ := BB BK371.out hb; have n2_ := Aside0.mk (below_step (BL) hb); have n3_ := Aside0.mk (hbox); have n4_ : Aside0 (w.heap.size ≤ gb381) := GS; have n5_ : Aside0 (w.heap.size ≤ gb381) := GS; have n6_ := NL BK370.out hg; have n7_ := NG BK370.out hg; have n8_ := NL BK371.out hg; have n9_ := NG BK371.out hg; clear BK370; clear BK371; clear HB; have BK370 := n0_; have BK371 := n1_; have HB := n2_; have BK381 := n3_; have GW381 := n4_; have GE381 := n5_; have NB370_381 := n6_; have NB381_370 := n7_; have NB371_381 := n8_; have NB381_371 := n9_; clear n0_ n1_ n2_ n3_ n4_ n5_ n6_ n7_ n8_ n9_; clear hb hbox hg; refine hK.out _ _ (CZ BK370.out 0) (fun hHeld => ?_); clear hK K; refine norm_ (a' := ?_) ?_ ?_; rotate_left
    ·
     show Act.put _ (some 10) _ = _; simp only [Act.put, zA, zB, zC, i64_w, i32_w]; rfl
    refine one_ (i := 4) (N := some 23) (OB 11 287) rfl rfl (one_of HT_.out (by kernel_rfl)) (by decide) (fun K hK => ?_); refine goes_ Try.func39 (by kernel_rfl) rfl #[.agg #[.slice A0_0 l0_0.length c0_0], .slice A1 y373.length c1] (by rfl) rfl rfl (MA) ?_
    with_reducible refine (spec_DoActs.calls k _ _ l0_0 _ _ y373 t377 t380 _ ?side1 ?side2 ?side3 ?side4 A9.out).mono ?_
    (case side1 => exact CB HR0_0.out)
    (case side2 => exact HC0_0.out)
    (case side3 => exact CB HR376.out)
    (case side4 => exact HC376.out)
    rintro e w16 ⟨v378, rfl, ho0, hb⟩; refine ⟨_, rfl, ?_⟩; have n0_ := Aside0.mk (Kd.R_lower ho0 (below_size (BL))); have n1_ := BB BK370.out hb; have n2_ := BB BK371.out hb; have n3_ := BB BK381.out hb; have n4_ := Aside0.mk (below_step (BL) hb); clear BK370; clear BK371; clear BK381; clear HB; have HO379 := n0_; have BK370 := n1_; have BK371 := n2_; have BK381 := n3_; have HB := n4_; clear n0_ n1_ n2_ n3_ n4_
    (try clear hb)
    (try clear hb2)
    (try clear hk)
    (try clear hi)
    (try clear ho0)
    refine hK.out _ _ (CZ BK370.out 0) (fun hHeld => ?_); clear hK K; refine norm_ (a' := ?_) ?_ ?_; rotate_left
    ·
     show Act.put _ (some 23) _ = _; simp only [Act.put, zA, zB, zC, i64_w, i32_w]; rfl
    refine pV 5 18 (OB 11 319) ?_; refine pV 6 24 (OB 11 383) ?_; refine pV 7 25 (OB 11 511) ?_; exact norm_ (by simp only [putAll, Act.put, zA, zB, zC]) (hCont (v378, gb381) _ ⟨hHeld, (RQ HO379.out), (BQ BK370.out), (BQ BK371.out), (BQ BK381.out), GW381.out, GE381.out, NB370_381.out, NB381_370.out, NB371_381.out, NB381_371.out, (BL)⟩)
  rintro ⟨v378, gb381⟩ w17 ⟨hS_, h0_, h1_, h2_, h3_, h4_, h5_, h6_, h7_, h8_, h9_, h10_⟩; have n0_ : Aside0 (Kd.R k45 45 w17 w.heap.size (fun _ => True) v378 t377) := ⟨h0_⟩; have n1_ : Aside0 (w17.heap[gb370]? = some (.cells #[.slice A0_0 l0_0.length c0_0] 29 (0, 0))) := ⟨h1_⟩; have n2_ : Aside0 (w17.heap[gb371]? = some (.cells #[.slice none 0 0] 29 (0, 0))) := ⟨h2_⟩; have n3_ : Aside0 (w17.heap[gb381]? = some (.cells #[.slice none 0 0] 29 (0, 0))) := ⟨h3_⟩; have n4_ : Aside0 (w.heap.size ≤ gb381) := ⟨h4_⟩; have n5_ : Aside0 (w.heap.size ≤ gb381) := ⟨h5_⟩; have n6_ : Aside0 (gb370 ≠ gb381) := ⟨h6_⟩; have n7_ : Aside0 (gb381 ≠ gb370) := ⟨h7_⟩; have n8_ : Aside0 (gb371 ≠ gb381) := ⟨h8_⟩; have n9_ : Aside0 (gb381 ≠ gb371) := ⟨h9_⟩; have n10_ : Aside0 (Below w.heap.size w w17) := ⟨h10_⟩; clear BK370; clear BK371; clear HB; clear h0_ h1_ h2_ h3_ h4_ h5_ h6_ h7_ h8_ h9_ h10_; have HO379 := n0_; have BK370 := n1_; have BK371 := n2_; have BK381 := n3_; have GW381 := n4_; have GE381 := n5_; have NB370_381 := n6_; have NB381_370 := n7_; have NB371_381 := n8_; have NB381_371 := n9_; have HB := n10_; clear n0_ n1_ n2_ n3_ n4_ n5_ n6_ n7_ n8_ n9_ n10_; have hHeld : w17.cell? ⟨gb370, 0, none⟩ = some (.slice A0_0 l0_0.length c0_0) := hS_; obtain ⟨Ao18, co18, eo18⟩ := Kd.R_slice HO379.out
  (first | subst eo18 | (injection eo18 with f1_ f2_ f3_; have f4_ := f1_.symm; have f5_ := f3_.symm; clear f1_ f2_ f3_; subst f4_; subst f5_))
  refine norm_ (a' := ?_) ?_ ?_; rotate_left
  ·
   simp only [putAll, Act.put, zA, zB, zC]; rfl
  refine one_ (i := 9) (N := none) (OB 11 1023) rfl rfl (one_of HT_.out (by kernel_rfl)) (by decide) (fun K hK => ?_); have hs19 : w17.cell? ⟨gb381, 0, none⟩ = some (.slice none 0 0) := CZ BK381.out 0; have hfs19 := blk_frozen BK381.out 0; have hns19_0 := NB370_381.out; have hns19_1 := NB371_381.out; have hms19_0 := NB381_370.out; have hms19_1 := NB381_371.out; refine skip_ (w1 := ?_) (by rfl) rfl ?_ ?_; rotate_left
  ·
   go_simp
   rfl
  refine hK.out _ _ (((cell_far (p := ⟨gb381, _, none⟩) NB370_381.out _).trans (hHeld))) (fun hHeld => ?_); clear hK K; refine pV 10 11 (OB 11 2047) ?_; refine done_ (done_of HT_.out (by kernel_rfl)) ?_; have hnb20 := NB371_370.out; have hnc20 := NB370_371.out; have hnb21 := NB371_381.out; have hnc21 := NB381_371.out; have hcz22_0 : w17.cell? ⟨gb371, 0, none⟩ = some (.slice none 0 0) := CZ BK371.out 0; have hfz22_0 := blk_frozen BK371.out 0
  try go_wp2
  refine bodyPost_ret (results_ct rfl _ _ gb371 29 #[.slice none 0 0] (0, 0) _ rfl (BU BK371.out) Try.underlying29 rfl (by kernel_rfl)) rfl ?_; exact ⟨_, EE, by first | exact Kd.R_nil _ _ _ _ _ | exact Kd.N_nil _ _ _ _ _ | exact Kd.V_nil _ _ _ _ _ | exact Kd.Q_nil _ _ _ _ _ | exact Kd.S_nil _ _ _ _ _, BL⟩
 rw [if_neg c10] at H
 have c10b0 : decide (t380 < a2) = false := decide_eq_false c10
 clear c10
 replace H := Option.bind_eq_some_iff.mp H
 obtain ⟨⟨t382, t385⟩, A230, H⟩ := H
 replace H : (some (t382, t385)) = some (r1, r2) := H
 have A23 := Aside0.mk A230
 clear A230
 simp only [Option.some.injEq, Prod.mk.injEq] at H
 obtain ⟨rfl, rfl⟩ := H
 go_enter Try.func46, Try.ntmps46
 try go_wp2_with (first | ((with_reducible refine gate_dst (N := 4) rfl ?_); refine bE 4 #[.slice A0_0 l0_0.length c0_0] 29 ?_; intro gb370 hg w24 hbox hb; have BK370 := Aside0.mk (hbox); have GW370 : Aside0 (w.heap.size ≤ gb370) := GS; have GE370 := GW370; replace HB := Aside0.mk (below_step (BL) hb); clear hb hbox hg) | ((with_reducible refine gate_dst (N := 8) rfl ?_); refine bE 8 #[.slice none 0 0] 29 ?_; intro gb371 hg w25 hbox hb; have BK371 := Aside0.mk (hbox); have GW371 : Aside0 (w.heap.size ≤ gb371) := GS; have GE371 := GW371; have NB370_371 := NL BK370.out hg; have NB371_370 := NG BK370.out hg; replace BK370 := BB BK370.out hb; replace HB := Aside0.mk (below_step (BL) hb); clear hb hbox hg) | ((with_reducible refine gate_callee (f := 49) rfl ?_); refine goesL_ (some 15) rfl rfl Try.func49 (by kernel_rfl) rfl #[.int .i64 a2, .int .i64 0, .int .i64 (l1.length : Int)] rfl (MA) ?_; (with_reducible refine (spec_l01In.calls a2 0 (l1.length : Int) true _ A5.out).mono ?_); rintro e w' ⟨rfl, ⟨nd, rfl⟩⟩; refine ⟨_, rfl, ?_⟩; (try (rw [drewN_self w25]; generalize hq_ : World.drewN w25 _ = w25; have n0_ : Aside0 (w25.heap[gb370]? = some (.cells #[.slice A0_0 l0_0.length c0_0] 29 (0, 0))) := ⟨by rw [← hq_]; exact (BQ BK370.out)⟩; have n1_ : Aside0 (w25.heap[gb371]? = some (.cells #[.slice none 0 0] 29 (0, 0))) := ⟨by rw [← hq_]; exact (BQ BK371.out)⟩; have n2_ : Aside0 (Below w.heap.size w w25) := ⟨by rw [← hq_]; exact (BL)⟩; clear BK370 BK371 HB hq_; have BK370 := n0_; have BK371 := n1_; have HB := n2_; clear n0_ n1_ n2_))))
 have n0_ := Aside0.mk (blk_drew BK370.out)
 have n1_ := Aside0.mk (blk_drew BK371.out)
 have n2_ := Aside0.mk (below_drew1 HB.out)
 clear BK370
 clear BK371
 clear HB
 have BK370 := n0_
 have BK371 := n1_
 have HB := n2_
 clear n0_ n1_ n2_
 have q27 : (a2 : Int) ≤ ((l1.length : Int) : Int) := of_decide_eq_true AS
 obtain ⟨i027, hi027, _, hsz27, _⟩ := info_parts info55
 have hroom27 : l1.length ≤ c1 := HC1.out
 have hC27 : Kd.C k55 _ A1 l1.length l1 := HR1.out
 have hcut27 := cut_to (P := Try.prog) 62 55 .i64 Try.underlying62 hi027 A1 l1.length c1 a2 (of_decide_eq_true AS) q27 hroom27
 have hr27 := Kd.C_take (m := (a2 : Int).toNat) hC27 (by omega)
 have hy27 : y373.length = (a2 : Int).toNat := (by rw [Ny373.out, List.length_take]; omega)
 rw [← Ny373.out] at hr27
 rw [← hy27] at hcut27
 have HR376 := Aside0.mk hr27
 have HC376 := Aside0.mk (show y373.length ≤ c1 from by omega)
 clear hr27 hC27 hroom27 hi027 hsz27
 have KY27 := Aside0.mk hy27
 clear hy27
 replace q27 := eq_true q27
 refine start_ (n := 11) (S := fun w' => w'.cell? ⟨gb370, 0, none⟩ = some (.slice A0_0 l0_0.length c0_0)) (ds := []) #[false, false, false, false, false, false, false, false, false, false, false] (by kernel_rfl) rfl rfl (CZ BK370.out 0) (fun hHeld => ?_); refine with_tabW spec_CutActs.tab3 spec_CutActs.bits3 (fun HT_ HW_ => ?_)
 generalize w25.drew = w26 at BK370 BK371 HB HR376 hHeld ⊢
 refine pV 1 20 (OB 11 2) ?_
 refine pV 2 21 (OB 11 6) ?_
 refine pV 3 22 (OB 11 14) ?_
 refine take_ (i := 0) (N := some 19) (v := ?_) (a' := ?_) (OB 11 15) rfl rfl (take_ofW HT_.out HW_.out (by kernel_rfl)) (fun _ _ _ h => h) (Or.inl ⟨by rfl, ?_⟩) hHeld ?_ ?_
 rotate_left
 ·
  intro w' s0
  go_simp
  with_reducible rfl
 rotate_left
 ·
  simp only [Act.put, zA, zB, zC, i64_w, i32_w]; rfl
 refine join_ (σ := Value × Nat) 2 #[true, true, true, true, true, true, true, true, true, false, false] (fun s_ => [(23, .tuple #[.agg #[s_.1], .int .i64 t380]), (10, .pointer (some ⟨s_.2, 0, none⟩)), (18, .tuple #[.agg #[s_.1], .int .i64 t380]), (24, .agg #[s_.1]), (25, .int .i64 t380)]) (fun s_ w' => (w'.cell? ⟨gb370, 0, none⟩ = some (.slice A0_0 l0_0.length c0_0)) ∧ (Kd.R k45 45 w' w.heap.size (fun _ => True) s_.1 t377) ∧ (w'.heap[gb370]? = some (.cells #[.slice A0_0 l0_0.length c0_0] 29 (0, 0))) ∧ (w'.heap[gb371]? = some (.cells #[.slice none 0 0] 29 (0, 0))) ∧ (w'.heap[s_.2]? = some (.cells #[.slice none 0 0] 29 (0, 0))) ∧ (w.heap.size ≤ s_.2) ∧ (w.heap.size ≤ s_.2) ∧ (gb370 ≠ s_.2) ∧ (s_.2 ≠ gb370) ∧ (gb371 ≠ s_.2) ∧ (s_.2 ≠ gb371) ∧ (Below w.heap.size w w')) ?_ ?_
 rotate_left
 ·
  intro hCont; refine two_ (i := 4) (j := 8) (Ni := some 23) (Nj := some 10) #[true, true, true, true, true, false, false, false, false, false, false] #[true, true, true, true, false, false, false, false, true, false, false] rfl rfl rfl rfl (two_of HT_.out (by kernel_rfl)) (by decide) (by decide) (fun K hK => ?_) (fun K hK => ?_)
  ·
   skip
   refine goes_ Try.func39 (by kernel_rfl) rfl #[.agg #[.slice A0_0 l0_0.length c0_0], .slice A1 y373.length c1] (by rfl) rfl rfl (MA) ?_
   with_reducible refine (spec_DoActs.calls k _ _ l0_0 _ _ y373 t377 t380 _ ?side1 ?side2 ?side3 ?side4 A9.out).mono ?_
   (case side1 => exact CB HR0_0.out)
   (case side2 => exact HC0_0.out)
   (case side3 => exact CB HR376.out)
   (case side4 => exact HC376.out)
   rintro e w28 ⟨v378, rfl, ho0, hb⟩; refine ⟨_, rfl, ?_⟩; have n0_ := Aside0.mk (Kd.R_lower ho0 (below_size (BL))); have n1_ := BB BK370.out hb; have n2_ := BB BK371.out hb; have n3_ := Aside0.mk (below_step (BL) hb); clear BK370; clear BK371; clear HB; have HO379 := n0_; have BK370 := n1_; have BK371 := n2_; have HB := n3_; clear n0_ n1_ n2_ n3_
   (try clear hb)
   (try clear hb2)
   (try clear hk)
   (try clear hi)
   (try clear ho0)
   refine hK.out _ _ (CZ BK370.out 0) (fun hHeld => ?_); clear hK K; refine norm_ (a' := ?_) ?_ ?_; rotate_left
   ·
    show Act.put _ (some 23) _ = _; simp only [Act.put, zA, zB, zC, i64_w, i32_w]; rfl
   refine pV 5 18 (OB 11 63) ?_; refine pV 6 24 (OB 11 127) ?_; refine pV 7 25 (OB 11 255) ?_; refine one_ (i := 8) (N := some 10) (OB 11 511) rfl rfl (one_of HT_.out (by kernel_rfl)) (by decide) (fun K hK => ?_); refine box_step ?hg (N := 10) ?hd (cs := #[.slice none 0 0]) (t := 29) ?hr ?_; (case hd => rfl); (case hg => rfl); (case hr => first | (go_simp; done) | (go_simp; rfl)); intro gb381 hg w29 hbox hb; have n0_ := Aside0.mk (Kd.R_below (RQ HO379.out) hb); have n1_ := BB BK370.out hb; have n2_ := BB BK371.out hb; have n3_ := Aside0.mk (below_step (BL) hb); have n4_ := Aside0.mk (hbox); have n5_ : Aside0 (w.heap.size ≤ gb381) := GS; have n6_ : Aside0 (w.heap.size ≤ gb381) := GS; have n7_ := NL BK370.out hg; have n8_ := NG BK370.out hg; have n9_ := NL BK371.out hg; have n10_ := NG BK371.out hg; clear HO379; clear BK370; clear BK371; clear HB; have HO379 := n0_; have BK370 := n1_; have BK371 := n2_; have HB := n3_; have BK381 := n4_; have GW381 := n5_; have GE381 := n6_; have NB370_381 := n7_; have NB381_370 := n8_; have NB371_381 := n9_; have NB381_371 := n10_; clear n0_ n1_ n2_ n3_ n4_ n5_ n6_ n7_ n8_ n9_ n10_; clear hb hbox hg; refine hK.out _ _ (CZ BK370.out 0) (fun hHeld => ?_); clear hK K; refine norm_ (a' := ?_) ?_ ?_; rotate_left
   ·
    show Act.put _ (some 10) _ = _; simp only [Act.put, zA, zB, zC, i64_w, i32_w]; rfl
   exact norm_ (by simp only [putAll, Act.put, zA, zB, zC]) (hCont (v378, gb381) _ ⟨hHeld, (RQ HO379.out), (BQ BK370.out), (BQ BK371.out), (BQ BK381.out), GW381.out, GE381.out, NB370_381.out, NB381_370.out, NB371_381.out, NB381_371.out, (BL)⟩)
  ·
   skip
   refine box_step ?hg (N := 10) ?hd (cs := #[.slice none 0 0]) (t := 29) ?hr ?_; (case hd => rfl); (case hg => rfl); (case hr => first | (go_simp; done) | (go_simp; rfl)); intro gb381 hg w28 hbox hb; have n0_ := BB BK370.out hb; have n1_ := BB BK371.out hb; have n2_ := Aside0.mk (below_step (BL) hb); have n3_ := Aside0.mk (hbox); have n4_ : Aside0 (w.heap.size ≤ gb381) := GS; have n5_ : Aside0 (w.heap.size ≤ gb381) := GS; have n6_ := NL BK370.out hg; have n7_ := NG BK370.out hg; have n8_ := NL BK371.out hg; have n9_ := NG BK371.out hg; clear BK370; clear BK371; clear HB; have BK370 := n0_; have BK371 := n1_; have HB := n2_; have BK381 := n3_; have GW381 := n4_; have GE381 := n5_; have NB370_381 := n6_; have NB381_370 := n7_; have NB371_381 := n8_; have NB381_371 := n9_; clear n0_ n1_ n2_ n3_ n4_ n5_ n6_ n7_ n8_ n9_; clear hb hbox hg; refine hK.out _ _ (CZ BK370.out 0) (fun hHeld => ?_); clear hK K; refine norm_ (a' := ?_) ?_ ?_; rotate_left
   ·
    show Act.put _ (some 10) _ = _; simp only [Act.put, zA, zB, zC, i64_w, i32_w]; rfl
   refine one_ (i := 4) (N := some 23) (OB 11 287) rfl rfl (one_of HT_.out (by kernel_rfl)) (by decide) (fun K hK => ?_); refine goes_ Try.func39 (by kernel_rfl) rfl #[.agg #[.slice A0_0 l0_0.length c0_0], .slice A1 y373.length c1] (by rfl) rfl rfl (MA) ?_
   with_reducible refine (spec_DoActs.calls k _ _ l0_0 _ _ y373 t377 t380 _ ?side1 ?side2 ?side3 ?side4 A9.out).mono ?_
   (case side1 => exact CB HR0_0.out)
   (case side2 => exact HC0_0.out)
   (case side3 => exact CB HR376.out)
   (case side4 => exact HC376.out)
   rintro e w29 ⟨v378, rfl, ho0, hb⟩; refine ⟨_, rfl, ?_⟩; have n0_ := Aside0.mk (Kd.R_lower ho0 (below_size (BL))); have n1_ := BB BK370.out hb; have n2_ := BB BK371.out hb; have n3_ := BB BK381.out hb; have n4_ := Aside0.mk (below_step (BL) hb); clear BK370; clear BK371; clear BK381; clear HB; have HO379 := n0_; have BK370 := n1_; have BK371 := n2_; have BK381 := n3_; have HB := n4_; clear n0_ n1_ n2_ n3_ n4_
   (try clear hb)
   (try clear hb2)
   (try clear hk)
   (try clear hi)
   (try clear ho0)
   refine hK.out _ _ (CZ BK370.out 0) (fun hHeld => ?_); clear hK K; refine norm_ (a' := ?_) ?_ ?_; rotate_left
   ·
    show Act.put _ (some 23) _ = _; simp only [Act.put, zA, zB, zC, i64_w, i32_w]; rfl
   refine pV 5 18 (OB 11 319) ?_; refine pV 6 24 (OB 11 383) ?_; refine pV 7 25 (OB 11 511) ?_; exact norm_ (by simp only [putAll, Act.put, zA, zB, zC]) (hCont (v378, gb381) _ ⟨hHeld, (RQ HO379.out), (BQ BK370.out), (BQ BK371.out), (BQ BK381.out), GW381.out, GE381.out, NB370_381.out, NB381_370.out, NB371_381.out, NB381_371.out, (BL)⟩)
 rintro ⟨v378, gb381⟩ w30 ⟨hS_, h0_, h1_, h2_, h3_, h4_, h5_, h6_, h7_, h8_, h9_, h10_⟩
 have n0_ : Aside0 (Kd.R k45 45 w30 w.heap.size (fun _ => True) v378 t377) := ⟨h0_⟩
 have n1_ : Aside0 (w30.heap[gb370]? = some (.cells #[.slice A0_0 l0_0.length c0_0] 29 (0, 0))) := ⟨h1_⟩
 have n2_ : Aside0 (w30.heap[gb371]? = some (.cells #[.slice none 0 0] 29 (0, 0))) := ⟨h2_⟩
 have n3_ : Aside0 (w30.heap[gb381]? = some (.cells #[.slice none 0 0] 29 (0, 0))) := ⟨h3_⟩
 have n4_ : Aside0 (w.heap.size ≤ gb381) := ⟨h4_⟩
 have n5_ : Aside0 (w.heap.size ≤ gb381) := ⟨h5_⟩
 have n6_ : Aside0 (gb370 ≠ gb381) := ⟨h6_⟩
 have n7_ : Aside0 (gb381 ≠ gb370) := ⟨h7_⟩
 have n8_ : Aside0 (gb371 ≠ gb381) := ⟨h8_⟩
 have n9_ : Aside0 (gb381 ≠ gb371) := ⟨h9_⟩
 have n10_ : Aside0 (Below w.heap.size w w30) := ⟨h10_⟩
 clear BK370
 clear BK371
 clear HB
 clear h0_ h1_ h2_ h3_ h4_ h5_ h6_ h7_ h8_ h9_ h10_
 have HO379 := n0_
 have BK370 := n1_
 have BK371 := n2_
 have BK381 := n3_
 have GW381 := n4_
 have GE381 := n5_
 have NB370_381 := n6_
 have NB381_370 := n7_
 have NB371_381 := n8_
 have NB381_371 := n9_
 have HB := n10_
 clear n0_ n1_ n2_ n3_ n4_ n5_ n6_ n7_ n8_ n9_ n10_
 have hHeld : w30.cell? ⟨gb370, 0, none⟩ = some (.slice A0_0 l0_0.length c0_0) := hS_
 obtain ⟨Ao31, co31, eo31⟩ := Kd.R_slice HO379.out
 (first | subst eo31 | (injection eo31 with f1_ f2_ f3_; have f4_ := f1_.symm; have f5_ := f3_.symm; clear f1_ f2_ f3_; subst f4_; subst f5_))
 refine norm_ (a' := ?_) ?_ ?_
 rotate_left
 ·
  simp only [putAll, Act.put, zA, zB, zC]; rfl
 refine one_ (i := 9) (N := none) (OB 11 1023) rfl rfl (one_of HT_.out (by kernel_rfl)) (by decide) (fun K hK => ?_)
 have hs32 : w30.cell? ⟨gb381, 0, none⟩ = some (.slice none 0 0) := CZ BK381.out 0
 have hfs32 := blk_frozen BK381.out 0
 have hns32_0 := NB370_381.out
 have hns32_1 := NB371_381.out
 have hms32_0 := NB381_370.out
 have hms32_1 := NB381_371.out
 refine skip_ (w1 := ?_) (by rfl) rfl ?_ ?_
 rotate_left
 ·
  go_simp
  rfl
 refine hK.out _ _ (((cell_far (p := ⟨gb381, _, none⟩) NB370_381.out _).trans (hHeld))) (fun hHeld => ?_)
 clear hK K
 refine pV 10 11 (OB 11 2047) ?_
 refine done_ (done_of HT_.out (by kernel_rfl)) ?_
 have hnb33 := NB381_370.out
 have hnc33 := NB370_381.out
 have hnb34 := NB381_371.out
 have hnc34 := NB371_381.out
 have hcz35_0 : w30.cell? ⟨gb381, 0, none⟩ = some (.slice none 0 0) := CZ BK381.out 0
 have hfz35_0 := blk_frozen BK381.out 0
 try go_wp2_with (first | ((with_reducible refine gate_callee (f := 28) rfl ?_); refine goesL_ (some 32) rfl rfl Try.func28 (by kernel_rfl) rfl #[.agg #[.slice Ao31 t377.length co31], .slice A3 l3.length c3] rfl (MA) ?_; (with_reducible refine (spec_LoseDisk.calls k _ _ t377 _ _ l3 t382 t385 _ ?side1 ?side2 ?side3 ?side4 A23.out).mono ?_); (case side1 => refine (Kd.R_reads' (e := 45) (base := w.heap.size) (ok := fun k_ => True) (n := t377.length) (c := co31) ?_).2.2; exact (RF HO379.out BK381.out)); (case side2 => exact (Kd.R_reads' HO379.out).2.1); (case side3 => exact Kd.C_below HR3.out (BL)); (case side4 => exact HC3.out); rintro e w36 ⟨v383, rfl, ho0, hb⟩; refine ⟨_, rfl, ?_⟩; have HO384 := Aside0.mk (Kd.R_lower (Kd.R_new' ho0 (Kd.R_lt (RF HO379.out BK381.out))) (below_size (BL))); replace HO379 := Aside0.mk (Kd.R_elder' (RF HO379.out BK381.out) (Kd.R_base ho0) hb); replace BK370 := BX BK370.out hb; replace BK371 := BX BK371.out hb; replace BK381 := Aside0.mk (blk_below (g := gb381) (o := .cells #[.slice Ao31 t377.length co31] 29 (0, 0)) (BU BK381.out) hb); replace HB := Aside0.mk (below_step (BL) hb); (try clear hb); (try clear hb2); (try clear hk); (try clear hi); (try clear ho0); obtain ⟨Ao37, co37, eo37⟩ := Kd.R_slice HO384.out; subst eo37; have hnb38 := NB371_370.out; have hnc38 := NB370_371.out; have hcz39_0 : w36.cell? ⟨gb371, 0, none⟩ = some (.slice none 0 0) := CZ BK371.out 0; have hfz39_0 := blk_frozen BK371.out 0))
 refine bodyPost_ret (results_ct rfl _ _ gb371 29 #[.slice Ao37 t382.length co37] (0, 0) _ rfl (BU BK371.out) Try.underlying29 rfl (by kernel_rfl)) rfl ?_
 exact ⟨_, EE, by (with_reducible repeat (first | apply r1 | apply r2 | apply r3)); exact Kd.R_mono (Kd.R_far (p := ⟨gb371, 0, none⟩) (Kd.R_types HO384.out BK371.out (by decide)) (fun _ hk => hk.2) (.slice Ao37 t382.length co37)) (fun _ hk => trivial), BL⟩

/-! ### laws_FnExactCutActs: function 11 -/
mutual
def laws_FnExactCutActs.j0 : Nat → List (S52) → Int → List Int → Bool → List (S55) → List Int → Bool → Bool → List (S94) → List (S45) → List (S45) → List (S45) → Option (Bool)
 | 0, _, _, _, _, _, _, _, _, _, _, _, _ => none
 | k + 1, x1, x2, x3, x11, x13, x14, x16, x68, x387000, x403000, x407000, x418000 => if x68 = true then (none) else ((laws_toDisk.f k x387000).bind fun t419 => ((laws_eqDisk.f k x407000 t419).bind fun t422 => (if t422 = true then ((laws_toActS.f k x1).bind fun t423 => ((laws_eqActS.f k x13 t423).bind fun t426 => (if t426 = true then ((laws_toIntS.f k x3).bind fun t427 => ((laws_eqIntS.f k x14 t427).bind fun t430 => (if t430 = true then ((laws_markDisk.f k x407000 1).bind fun bt431 => ((laws_markActS.f k x13 bt431.1).bind fun bt433 => ((laws_markIntS.f k x14 bt433.1).bind fun bt435 => (if bt435.1 < 0 then (laws_FnExactCutActs.j1 k x1 x2 x3 x11 true x387000 x403000 x418000) else ((laws_eqDisk.f k x418000 x403000).bind fun t437 => (if t437 = true then (laws_FnExactCutActs.j1 k x1 x2 x3 x11 (x16 != x11) x387000 x403000 x418000) else (laws_FnExactCutActs.j1 k x1 x2 x3 x11 true x387000 x403000 x418000))))))) else (none)))) else (none)))) else (none))))
def laws_FnExactCutActs.j1 : Nat → List (S52) → Int → List Int → Bool → Bool → List (S94) → List (S45) → List (S45) → Option (Bool)
 | 0, _, _, _, _, _, _, _, _ => none
 | k + 1, x1, x2, x3, x11, x105, x387000, x403000, x418000 => if x105 = true then (none) else ((laws_markDisk.f k x418000 1).bind fun bt438 => ((laws_heldDisk.f k bt438.2 1).bind fun t440 => (if t440 < 0 then (none) else (if t440 = bt438.1 then ((laws_toDisk.f k x387000).bind fun t441 => ((laws_toActS.f k x1).bind fun t444 => ((laws_toIntS.f k x3).bind fun t447 => ((impl_CutActs.f k t441 t444 x2 t447).bind fun bt450 => ((laws_eqDisk.f k bt450.1 x403000).bind fun t455 => (if t455 = true then (laws_FnExactCutActs.j2 k bt438.1 (bt450.2 != x11) bt438.2) else (laws_FnExactCutActs.j2 k bt438.1 true bt438.2))))))) else (none)))))
def laws_FnExactCutActs.j2 : Nat → Int → Bool → List (S45) → Option (Bool)
 | 0, _, _, _ => none
 | k + 1, x18, x136, x418000 => if x136 = true then (none) else ((laws_heldDisk.f k x418000 1).bind fun t456 => (if t456 < 0 then (none) else (if t456 = x18 then (some true) else (none))))
end
def laws_FnExactCutActs.f (k : Nat) (l0_0 : List (S94)) (l1 : List (S52)) (a2 : Int) (l3 : List Int) : Option (Bool) := if (l3.length : Int) > 1048576 then (some true) else ((laws_szDisk.f k l0_0 1048576).bind fun t387 => (if t387 < 0 then (some true) else ((laws_szActS.f k l1 t387).bind fun t388 => (if t388 < 0 then (some true) else ((laws_toDisk.f k l0_0).bind fun t389 => ((laws_toActS.f k l1).bind fun t392 => ((laws_toIntS.f k l3).bind fun t395 => ((spec_CutActs.f k t389 t392 a2 t395).bind fun bt398 => ((laws_toDisk.f k l0_0).bind fun t403 => ((laws_toActS.f k l1).bind fun t407 => ((laws_toIntS.f k l3).bind fun t410 => ((impl_CutActs.f k t403 t407 a2 t410).bind fun bt413 => ((laws_eqDisk.f k bt413.1 bt398.1).bind fun t418 => (if t418 = true then (laws_FnExactCutActs.j0 k l1 a2 l3 bt398.2 t407 t410 bt413.2 (bt413.2 != bt398.2) l0_0 bt398.1 t403 bt413.1) else (laws_FnExactCutActs.j0 k l1 a2 l3 bt398.2 t407 t410 bt413.2 true l0_0 bt398.1 t403 bt413.1)))))))))))))))
theorem laws_FnExactCutActs.mono_l : ∀ k, (∀ y0 y1 y2 y3 y4 y5 y6 y7 y8 y9 y10 y11, LeO (laws_FnExactCutActs.j0 k y0 y1 y2 y3 y4 y5 y6 y7 y8 y9 y10 y11) (laws_FnExactCutActs.j0 (k + 1) y0 y1 y2 y3 y4 y5 y6 y7 y8 y9 y10 y11)) ∧ (∀ y0 y1 y2 y3 y4 y5 y6 y7, LeO (laws_FnExactCutActs.j1 k y0 y1 y2 y3 y4 y5 y6 y7) (laws_FnExactCutActs.j1 (k + 1) y0 y1 y2 y3 y4 y5 y6 y7)) ∧ (∀ y0 y1 y2, LeO (laws_FnExactCutActs.j2 k y0 y1 y2) (laws_FnExactCutActs.j2 (k + 1) y0 y1 y2))
 | 0 => ⟨fun _ _ _ _ _ _ _ _ _ _ _ _ r h => by simp [laws_FnExactCutActs.j0] at h, fun _ _ _ _ _ _ _ _ r h => by simp [laws_FnExactCutActs.j1] at h, fun _ _ _ r h => by simp [laws_FnExactCutActs.j2] at h⟩
 | k + 1 => by
  obtain ⟨ih0, ih1, ih2⟩ := laws_FnExactCutActs.mono_l k; refine ⟨?_, ?_, ?_⟩
  ·
   intro y0 y1 y2 y3 y4 y5 y6 y7 y8 y9 y10 y11
   unfold laws_FnExactCutActs.j0
   repeat' first
   | (with_reducible exact ih0 _ _ _ _ _ _ _ _ _ _ _ _)
   | (with_reducible exact ih1 _ _ _ _ _ _ _ _)
   | (with_reducible exact ih2 _ _ _)
   | (with_reducible exact impl_CutActs.mono _ _ _ _ _)
   | (with_reducible exact laws_eqActS.mono _ _ _)
   | (with_reducible exact laws_eqDisk.mono _ _ _)
   | (with_reducible exact laws_eqIntS.mono _ _ _)
   | (with_reducible exact laws_heldDisk.mono _ _ _)
   | (with_reducible exact laws_markActS.mono _ _ _)
   | (with_reducible exact laws_markDisk.mono _ _ _)
   | (with_reducible exact laws_markIntS.mono _ _ _)
   | (with_reducible exact laws_szActS.mono _ _ _)
   | (with_reducible exact laws_szDisk.mono _ _ _)
   | (with_reducible exact laws_toActS.mono _ _)
   | (with_reducible exact laws_toDisk.mono _ _)
   | (with_reducible exact laws_toIntS.mono _ _)
   | (with_reducible exact spec_CutActs.mono _ _ _ _ _)
   | (with_reducible exact LeO.refl _)
   | (with_reducible exact LeO.none _)
   | (with_reducible refine LeO.ite ?_ ?_)
   | (with_reducible refine LeO.bind ?_ (fun _ => ?_))
   | exact ih0 _ _ _ _ _ _ _ _ _ _ _ _
   | exact ih1 _ _ _ _ _ _ _ _
   | exact ih2 _ _ _
   | exact impl_CutActs.mono _ _ _ _ _
   | exact laws_eqActS.mono _ _ _
   | exact laws_eqDisk.mono _ _ _
   | exact laws_eqIntS.mono _ _ _
   | exact laws_heldDisk.mono _ _ _
   | exact laws_markActS.mono _ _ _
   | exact laws_markDisk.mono _ _ _
   | exact laws_markIntS.mono _ _ _
   | exact laws_szActS.mono _ _ _
   | exact laws_szDisk.mono _ _ _
   | exact laws_toActS.mono _ _
   | exact laws_toDisk.mono _ _
   | exact laws_toIntS.mono _ _
   | exact spec_CutActs.mono _ _ _ _ _
   | exact LeO.none _
   | refine LeO.ite ?_ ?_
   | refine LeO.bind ?_ (fun _ => ?_)
  ·
   intro y0 y1 y2 y3 y4 y5 y6 y7
   unfold laws_FnExactCutActs.j1
   repeat' first
   | (with_reducible exact ih0 _ _ _ _ _ _ _ _ _ _ _ _)
   | (with_reducible exact ih1 _ _ _ _ _ _ _ _)
   | (with_reducible exact ih2 _ _ _)
   | (with_reducible exact impl_CutActs.mono _ _ _ _ _)
   | (with_reducible exact laws_eqActS.mono _ _ _)
   | (with_reducible exact laws_eqDisk.mono _ _ _)
   | (with_reducible exact laws_eqIntS.mono _ _ _)
   | (with_reducible exact laws_heldDisk.mono _ _ _)
   | (with_reducible exact laws_markActS.mono _ _ _)
   | (with_reducible exact laws_markDisk.mono _ _ _)
   | (with_reducible exact laws_markIntS.mono _ _ _)
   | (with_reducible exact laws_szActS.mono _ _ _)
   | (with_reducible exact laws_szDisk.mono _ _ _)
   | (with_reducible exact laws_toActS.mono _ _)
   | (with_reducible exact laws_toDisk.mono _ _)
   | (with_reducible exact laws_toIntS.mono _ _)
   | (with_reducible exact spec_CutActs.mono _ _ _ _ _)
   | (with_reducible exact LeO.refl _)
   | (with_reducible exact LeO.none _)
   | (with_reducible refine LeO.ite ?_ ?_)
   | (with_reducible refine LeO.bind ?_ (fun _ => ?_))
   | exact ih0 _ _ _ _ _ _ _ _ _ _ _ _
   | exact ih1 _ _ _ _ _ _ _ _
   | exact ih2 _ _ _
   | exact impl_CutActs.mono _ _ _ _ _
   | exact laws_eqActS.mono _ _ _
   | exact laws_eqDisk.mono _ _ _
   | exact laws_eqIntS.mono _ _ _
   | exact laws_heldDisk.mono _ _ _
   | exact laws_markActS.mono _ _ _
   | exact laws_markDisk.mono _ _ _
   | exact laws_markIntS.mono _ _ _
   | exact laws_szActS.mono _ _ _
   | exact laws_szDisk.mono _ _ _
   | exact laws_toActS.mono _ _
   | exact laws_toDisk.mono _ _
   | exact laws_toIntS.mono _ _
   | exact spec_CutActs.mono _ _ _ _ _
   | exact LeO.none _
   | refine LeO.ite ?_ ?_
   | refine LeO.bind ?_ (fun _ => ?_)
  ·
   intro y0 y1 y2
   unfold laws_FnExactCutActs.j2
   repeat' first
   | (with_reducible exact ih0 _ _ _ _ _ _ _ _ _ _ _ _)
   | (with_reducible exact ih1 _ _ _ _ _ _ _ _)
   | (with_reducible exact ih2 _ _ _)
   | (with_reducible exact impl_CutActs.mono _ _ _ _ _)
   | (with_reducible exact laws_eqActS.mono _ _ _)
   | (with_reducible exact laws_eqDisk.mono _ _ _)
   | (with_reducible exact laws_eqIntS.mono _ _ _)
   | (with_reducible exact laws_heldDisk.mono _ _ _)
   | (with_reducible exact laws_markActS.mono _ _ _)
   | (with_reducible exact laws_markDisk.mono _ _ _)
   | (with_reducible exact laws_markIntS.mono _ _ _)
   | (with_reducible exact laws_szActS.mono _ _ _)
   | (with_reducible exact laws_szDisk.mono _ _ _)
   | (with_reducible exact laws_toActS.mono _ _)
   | (with_reducible exact laws_toDisk.mono _ _)
   | (with_reducible exact laws_toIntS.mono _ _)
   | (with_reducible exact spec_CutActs.mono _ _ _ _ _)
   | (with_reducible exact LeO.refl _)
   | (with_reducible exact LeO.none _)
   | (with_reducible refine LeO.ite ?_ ?_)
   | (with_reducible refine LeO.bind ?_ (fun _ => ?_))
   | exact ih0 _ _ _ _ _ _ _ _ _ _ _ _
   | exact ih1 _ _ _ _ _ _ _ _
   | exact ih2 _ _ _
   | exact impl_CutActs.mono _ _ _ _ _
   | exact laws_eqActS.mono _ _ _
   | exact laws_eqDisk.mono _ _ _
   | exact laws_eqIntS.mono _ _ _
   | exact laws_heldDisk.mono _ _ _
   | exact laws_markActS.mono _ _ _
   | exact laws_markDisk.mono _ _ _
   | exact laws_markIntS.mono _ _ _
   | exact laws_szActS.mono _ _ _
   | exact laws_szDisk.mono _ _ _
   | exact laws_toActS.mono _ _
   | exact laws_toDisk.mono _ _
   | exact laws_toIntS.mono _ _
   | exact spec_CutActs.mono _ _ _ _ _
   | exact LeO.none _
   | refine LeO.ite ?_ ?_
   | refine LeO.bind ?_ (fun _ => ?_)
theorem laws_FnExactCutActs.mono : ∀ a0 a1 a2 a3 k, LeO (laws_FnExactCutActs.f k a0 a1 a2 a3) (laws_FnExactCutActs.f (k + 1) a0 a1 a2 a3) := by
 intro a0 a1 a2 a3 k
 obtain ⟨ih0, ih1, ih2⟩ := laws_FnExactCutActs.mono_l k
 unfold laws_FnExactCutActs.f
 repeat' first
   | (with_reducible exact ih0 _ _ _ _ _ _ _ _ _ _ _ _)
   | (with_reducible exact ih1 _ _ _ _ _ _ _ _)
   | (with_reducible exact ih2 _ _ _)
   | (with_reducible exact impl_CutActs.mono _ _ _ _ _)
   | (with_reducible exact laws_eqActS.mono _ _ _)
   | (with_reducible exact laws_eqDisk.mono _ _ _)
   | (with_reducible exact laws_eqIntS.mono _ _ _)
   | (with_reducible exact laws_heldDisk.mono _ _ _)
   | (with_reducible exact laws_markActS.mono _ _ _)
   | (with_reducible exact laws_markDisk.mono _ _ _)
   | (with_reducible exact laws_markIntS.mono _ _ _)
   | (with_reducible exact laws_szActS.mono _ _ _)
   | (with_reducible exact laws_szDisk.mono _ _ _)
   | (with_reducible exact laws_toActS.mono _ _)
   | (with_reducible exact laws_toDisk.mono _ _)
   | (with_reducible exact laws_toIntS.mono _ _)
   | (with_reducible exact spec_CutActs.mono _ _ _ _ _)
   | (with_reducible exact LeO.refl _)
   | (with_reducible exact LeO.none _)
   | (with_reducible refine LeO.ite ?_ ?_)
   | (with_reducible refine LeO.bind ?_ (fun _ => ?_))
   | exact ih0 _ _ _ _ _ _ _ _ _ _ _ _
   | exact ih1 _ _ _ _ _ _ _ _
   | exact ih2 _ _ _
   | exact impl_CutActs.mono _ _ _ _ _
   | exact laws_eqActS.mono _ _ _
   | exact laws_eqDisk.mono _ _ _
   | exact laws_eqIntS.mono _ _ _
   | exact laws_heldDisk.mono _ _ _
   | exact laws_markActS.mono _ _ _
   | exact laws_markDisk.mono _ _ _
   | exact laws_markIntS.mono _ _ _
   | exact laws_szActS.mono _ _ _
   | exact laws_szDisk.mono _ _ _
   | exact laws_toActS.mono _ _
   | exact laws_toDisk.mono _ _
   | exact laws_toIntS.mono _ _
   | exact spec_CutActs.mono _ _ _ _ _
   | exact LeO.none _
   | refine LeO.ite ?_ ?_
   | refine LeO.bind ?_ (fun _ => ?_)
set_option maxHeartbeats 8000000 in
set_option maxRecDepth 100000 in
theorem laws_FnExactCutActs.calls (k : Nat) (A0_0 : Option Addr) (c0_0 : Nat) (l0_0 : List (S94)) (A1 : Option Addr) (c1 : Nat) (l1 : List (S52)) (a2 : Int) (A3 : Option Addr) (c3 : Nat) (l3 : List Int) (r : Bool) (w : World) (hr0_0 : Kd.C k94 w A0_0 l0_0.length l0_0) (hc0_0 : l0_0.length ≤ c0_0) (hr1 : Kd.C k52 w A1 l1.length l1) (hc1 : l1.length ≤ c1) (hr3 : Kd.C (Kd.int .i64) w A3 l3.length l3) (hc3 : l3.length ≤ c3) (h : laws_FnExactCutActs.f k l0_0 l1 a2 l3 = some r) :
  Calls Try.prog 11 #[.agg #[.slice A0_0 l0_0.length c0_0], .slice A1 l1.length c1, .int .i64 a2, .slice A3 l3.length c3] w fun e w' => e = .returned (.bool r) ∧ Below w.heap.size w w' := by
 have hu24 := Try.underlying24
 have hu29 := Try.underlying29
 have HR0_0 := Aside0.mk hr0_0
 have HC0_0 := Aside0.mk hc0_0
 clear hr0_0 hc0_0
 have HR1 := Aside0.mk hr1
 have HC1 := Aside0.mk hc1
 clear hr1 hc1
 have HR3 := Aside0.mk hr3
 have HC3 := Aside0.mk hc3
 clear hr3 hc3
 have HB := Aside0.mk (Below.refl w.heap.size w)
 have H : (if (l3.length : Int) > 1048576 then (some true) else ((laws_szDisk.f k l0_0 1048576).bind fun t387 => (if t387 < 0 then (some true) else ((laws_szActS.f k l1 t387).bind fun t388 => (if t388 < 0 then (some true) else ((laws_toDisk.f k l0_0).bind fun t389 => ((laws_toActS.f k l1).bind fun t392 => ((laws_toIntS.f k l3).bind fun t395 => ((spec_CutActs.f k t389 t392 a2 t395).bind fun bt398 => ((laws_toDisk.f k l0_0).bind fun t403 => ((laws_toActS.f k l1).bind fun t407 => ((laws_toIntS.f k l3).bind fun t410 => ((impl_CutActs.f k t403 t407 a2 t410).bind fun bt413 => ((laws_eqDisk.f k bt413.1 bt398.1).bind fun t418 => (if t418 = true then (laws_FnExactCutActs.j0 k l1 a2 l3 bt398.2 t407 t410 bt413.2 (bt413.2 != bt398.2) l0_0 bt398.1 t403 bt413.1) else (laws_FnExactCutActs.j0 k l1 a2 l3 bt398.2 t407 t410 bt413.2 true l0_0 bt398.1 t403 bt413.1)))))))))))))))) = some r := h
 clear h
 by_cases c5 : (l3.length : Int) > 1048576
 ·
  rw [if_pos c5] at H; have c5b0 : decide (1048576 < (l3.length : Int)) = true := decide_eq_true c5; have c5b1 : decide (1048576 < l3.length) = true := decide_eq_true (by omega); clear c5; obtain rfl := Option.some.inj H
  go_enter Try.func11, Try.ntmps11
  go_wp2_with (first | ((with_reducible refine gate_dst (N := 4) rfl ?_); refine bE 4 #[.slice A0_0 l0_0.length c0_0] 24 ?_; intro gb386 hg w6 hbox hb; have BK386 := Aside0.mk (hbox); have GW386 : Aside0 (w.heap.size ≤ gb386) := GS; have GE386 := GW386; replace HB := Aside0.mk (below_step (BL) hb); clear hb hbox hg))
  go_ret
  exact ⟨EE, BL⟩
 rw [if_neg c5] at H
 have c5b0 : decide (1048576 < (l3.length : Int)) = false := decide_eq_false c5
 have c5b1 : decide (1048576 < l3.length) = false := decide_eq_false (by omega)
 clear c5
 replace H := Option.bind_eq_some_iff.mp H
 obtain ⟨t387, A70, H⟩ := H
 have A7 := Aside0.mk A70
 clear A70
 by_cases c8 : t387 < 0
 ·
  rw [if_pos c8] at H; have c8b0 : decide (t387 < 0) = true := decide_eq_true c8; clear c8; obtain rfl := Option.some.inj H
  go_enter Try.func11, Try.ntmps11
  go_wp2_with (first | ((with_reducible refine gate_dst (N := 4) rfl ?_); refine bE 4 #[.slice A0_0 l0_0.length c0_0] 24 ?_; intro gb386 hg w9 hbox hb; have BK386 := Aside0.mk (hbox); have GW386 : Aside0 (w.heap.size ≤ gb386) := GS; have GE386 := GW386; replace HB := Aside0.mk (below_step (BL) hb); clear hb hbox hg; have hcz10_0 : w9.cell? ⟨gb386, 0, none⟩ = some (.slice A0_0 l0_0.length c0_0) := CZ BK386.out 0; have hfz10_0 := blk_frozen BK386.out 0) | ((with_reducible refine gate_callee (f := 12) rfl ?_); refine goesL_ (some 27) rfl rfl Try.func12 (by kernel_rfl) rfl #[.agg #[.slice A0_0 l0_0.length c0_0], .int .i64 1048576] rfl (MA) ?_; (with_reducible refine (laws_szDisk.calls k _ _ l0_0 1048576 t387 _ ?side1 ?side2 A7.out).mono ?_); (case side1 => exact CB HR0_0.out); (case side2 => exact HC0_0.out); rintro e w11 ⟨rfl, hb⟩; refine ⟨_, rfl, ?_⟩; replace BK386 := BB BK386.out hb; replace HB := Aside0.mk (below_step (BL) hb); (try clear hb); (try clear hb2); (try clear hk); (try clear hi)))
  go_ret
  exact ⟨EE, BL⟩
 rw [if_neg c8] at H
 have c8b0 : decide (t387 < 0) = false := decide_eq_false c8
 clear c8
 replace H := Option.bind_eq_some_iff.mp H
 obtain ⟨t388, A120, H⟩ := H
 have A12 := Aside0.mk A120
 clear A120
 by_cases c13 : t388 < 0
 ·
  rw [if_pos c13] at H; have c13b0 : decide (t388 < 0) = true := decide_eq_true c13; clear c13; obtain rfl := Option.some.inj H
  go_enter Try.func11, Try.ntmps11
  go_wp2_with (first | ((with_reducible refine gate_dst (N := 4) rfl ?_); refine bE 4 #[.slice A0_0 l0_0.length c0_0] 24 ?_; intro gb386 hg w14 hbox hb; have BK386 := Aside0.mk (hbox); have GW386 : Aside0 (w.heap.size ≤ gb386) := GS; have GE386 := GW386; replace HB := Aside0.mk (below_step (BL) hb); clear hb hbox hg; have hcz15_0 : w14.cell? ⟨gb386, 0, none⟩ = some (.slice A0_0 l0_0.length c0_0) := CZ BK386.out 0; have hfz15_0 := blk_frozen BK386.out 0) | ((with_reducible refine gate_callee (f := 12) rfl ?_); refine goesL_ (some 27) rfl rfl Try.func12 (by kernel_rfl) rfl #[.agg #[.slice A0_0 l0_0.length c0_0], .int .i64 1048576] rfl (MA) ?_; (with_reducible refine (laws_szDisk.calls k _ _ l0_0 1048576 t387 _ ?side1 ?side2 A7.out).mono ?_); (case side1 => exact CB HR0_0.out); (case side2 => exact HC0_0.out); rintro e w16 ⟨rfl, hb⟩; refine ⟨_, rfl, ?_⟩; replace BK386 := BB BK386.out hb; replace HB := Aside0.mk (below_step (BL) hb); (try clear hb); (try clear hb2); (try clear hk); (try clear hi)) | ((with_reducible refine gate_callee (f := 38) rfl ?_); refine goesL_ (some 32) rfl rfl Try.func38 (by kernel_rfl) rfl #[.slice A1 l1.length c1, .int .i64 t387] rfl (MA) ?_; (with_reducible refine (laws_szActS.calls k _ _ l1 t387 t388 _ ?side1 ?side2 A12.out).mono ?_); (case side1 => exact CB HR1.out); (case side2 => exact HC1.out); rintro e w17 ⟨rfl, hb⟩; refine ⟨_, rfl, ?_⟩; replace BK386 := BB BK386.out hb; replace HB := Aside0.mk (below_step (BL) hb); (try clear hb); (try clear hb2); (try clear hk); (try clear hi)))
  go_ret
  exact ⟨EE, BL⟩
 rw [if_neg c13] at H
 have c13b0 : decide (t388 < 0) = false := decide_eq_false c13
 clear c13
 replace H := Option.bind_eq_some_iff.mp H
 obtain ⟨t389, A180, H⟩ := H
 have A18 := Aside0.mk A180
 clear A180
 replace H := Option.bind_eq_some_iff.mp H
 obtain ⟨t392, A190, H⟩ := H
 have A19 := Aside0.mk A190
 clear A190
 replace H := Option.bind_eq_some_iff.mp H
 obtain ⟨t395, A200, H⟩ := H
 have A20 := Aside0.mk A200
 clear A200
 replace H := Option.bind_eq_some_iff.mp H
 obtain ⟨⟨t398, t401⟩, A210, H⟩ := H
 replace H : ((laws_toDisk.f k l0_0).bind fun t403 => ((laws_toActS.f k l1).bind fun t407 => ((laws_toIntS.f k l3).bind fun t410 => ((impl_CutActs.f k t403 t407 a2 t410).bind fun bt413 => ((laws_eqDisk.f k bt413.1 t398).bind fun t418 => (if t418 = true then (laws_FnExactCutActs.j0 k l1 a2 l3 t401 t407 t410 bt413.2 (bt413.2 != t401) l0_0 t398 t403 bt413.1) else (laws_FnExactCutActs.j0 k l1 a2 l3 t401 t407 t410 bt413.2 true l0_0 t398 t403 bt413.1))))))) = some r := H
 have A21 := Aside0.mk A210
 clear A210
 replace H := Option.bind_eq_some_iff.mp H
 obtain ⟨t403, A220, H⟩ := H
 have A22 := Aside0.mk A220
 clear A220
 replace H := Option.bind_eq_some_iff.mp H
 obtain ⟨t407, A230, H⟩ := H
 have A23 := Aside0.mk A230
 clear A230
 replace H := Option.bind_eq_some_iff.mp H
 obtain ⟨t410, A240, H⟩ := H
 have A24 := Aside0.mk A240
 clear A240
 replace H := Option.bind_eq_some_iff.mp H
 obtain ⟨⟨t413, t416⟩, A250, H⟩ := H
 replace H : ((laws_eqDisk.f k t413 t398).bind fun t418 => (if t418 = true then (laws_FnExactCutActs.j0 k l1 a2 l3 t401 t407 t410 t416 (t416 != t401) l0_0 t398 t403 t413) else (laws_FnExactCutActs.j0 k l1 a2 l3 t401 t407 t410 t416 true l0_0 t398 t403 t413))) = some r := H
 have A25 := Aside0.mk A250
 clear A250
 have HC26 := Aside0.mk H
 clear H
 go_enter Try.func11, Try.ntmps11
 go_upto_region 15 with (first | ((with_reducible refine gate_dst (N := 4) rfl ?_); refine bE 4 #[.slice A0_0 l0_0.length c0_0] 24 ?_; intro gb386 hg w27 hbox hb; have BK386 := Aside0.mk (hbox); have GW386 : Aside0 (w.heap.size ≤ gb386) := GS; have GE386 := GW386; replace HB := Aside0.mk (below_step (BL) hb); clear hb hbox hg; have hcz28_0 : w27.cell? ⟨gb386, 0, none⟩ = some (.slice A0_0 l0_0.length c0_0) := CZ BK386.out 0; have hfz28_0 := blk_frozen BK386.out 0) | ((with_reducible refine gate_callee (f := 12) rfl ?_); refine goesL_ (some 27) rfl rfl Try.func12 (by kernel_rfl) rfl #[.agg #[.slice A0_0 l0_0.length c0_0], .int .i64 1048576] rfl (MA) ?_; (with_reducible refine (laws_szDisk.calls k _ _ l0_0 1048576 t387 _ ?side1 ?side2 A7.out).mono ?_); (case side1 => exact CB HR0_0.out); (case side2 => exact HC0_0.out); rintro e w29 ⟨rfl, hb⟩; refine ⟨_, rfl, ?_⟩; replace BK386 := BB BK386.out hb; replace HB := Aside0.mk (below_step (BL) hb); (try clear hb); (try clear hb2); (try clear hk); (try clear hi)) | ((with_reducible refine gate_callee (f := 38) rfl ?_); refine goesL_ (some 32) rfl rfl Try.func38 (by kernel_rfl) rfl #[.slice A1 l1.length c1, .int .i64 t387] rfl (MA) ?_; (with_reducible refine (laws_szActS.calls k _ _ l1 t387 t388 _ ?side1 ?side2 A12.out).mono ?_); (case side1 => exact CB HR1.out); (case side2 => exact HC1.out); rintro e w30 ⟨rfl, hb⟩; refine ⟨_, rfl, ?_⟩; replace BK386 := BB BK386.out hb; replace HB := Aside0.mk (below_step (BL) hb); (try clear hb); (try clear hb2); (try clear hk); (try clear hi); have hcz31_0 : w30.cell? ⟨gb386, 0, none⟩ = some (.slice A0_0 l0_0.length c0_0) := CZ BK386.out 0; have hfz31_0 := blk_frozen BK386.out 0) | ((with_reducible refine gate_callee (f := 14) rfl ?_); refine goesL_ (some 37) rfl rfl Try.func14 (by kernel_rfl) rfl #[.agg #[.slice A0_0 l0_0.length c0_0]] rfl (MA) ?_; (with_reducible refine (laws_toDisk.calls k _ _ l0_0 t389 _ ?side1 ?side2 A18.out).mono ?_); (case side1 => exact CB HR0_0.out); (case side2 => exact HC0_0.out); rintro e w32 ⟨v390, rfl, ho0, hb⟩; refine ⟨_, rfl, ?_⟩; have HO391 := Aside0.mk (Kd.R_lower ho0 (below_size (BL))); replace BK386 := BB BK386.out hb; replace HB := Aside0.mk (below_step (BL) hb); (try clear hb); (try clear hb2); (try clear hk); (try clear hi); (try clear ho0)) | ((with_reducible refine gate_callee (f := 40) rfl ?_); refine goesL_ (some 39) rfl rfl Try.func40 (by kernel_rfl) rfl #[.slice A1 l1.length c1] rfl (MA) ?_; (with_reducible refine (laws_toActS.calls k _ _ l1 t392 _ ?side1 ?side2 A19.out).mono ?_); (case side1 => exact CB HR1.out); (case side2 => exact HC1.out); rintro e w33 ⟨v393, rfl, ho0, hb⟩; refine ⟨_, rfl, ?_⟩; have HO394 := Aside0.mk (Kd.R_lower ho0 (below_size (BL))); replace HO391 := Aside0.mk (Kd.R_below (RQ HO391.out) hb); replace BK386 := BB BK386.out hb; replace HB := Aside0.mk (below_step (BL) hb); (try clear hb); (try clear hb2); (try clear hk); (try clear hi); (try clear ho0)) | ((with_reducible refine gate_callee (f := 29) rfl ?_); refine goesL_ (some 42) rfl rfl Try.func29 (by kernel_rfl) rfl #[.slice A3 l3.length c3] rfl (MA) ?_; (with_reducible refine (laws_toIntS.calls k _ _ l3 t395 _ ?side1 ?side2 A20.out).mono ?_); (case side1 => exact CB HR3.out); (case side2 => exact HC3.out); rintro e w34 ⟨v396, rfl, ho0, hb⟩; refine ⟨_, rfl, ?_⟩; have HO397 := Aside0.mk (Kd.R_lower ho0 (below_size (BL))); replace HO391 := Aside0.mk (Kd.R_below (RQ HO391.out) hb); replace HO394 := Aside0.mk (Kd.R_below (RQ HO394.out) hb); replace BK386 := BB BK386.out hb; replace HB := Aside0.mk (below_step (BL) hb); (try clear hb); (try clear hb2); (try clear hk); (try clear hi); (try clear ho0); obtain ⟨Ao35, co35, eo35⟩ := Kd.R_slice HO391.out; subst eo35; obtain ⟨Ao36, co36, eo36⟩ := Kd.R_slice HO394.out; subst eo36; obtain ⟨Ao37, co37, eo37⟩ := Kd.R_slice HO397.out; subst eo37) | ((with_reducible refine gate_callee (f := 46) rfl ?_); refine goesL_ (some 43) rfl rfl Try.func46 (by kernel_rfl) rfl #[.agg #[.slice Ao35 t389.length co35], .slice Ao36 t392.length co36, .int .i64 a2, .slice Ao37 t395.length co37] rfl (MA) ?_; (with_reducible refine (spec_CutActs.calls k _ _ t389 _ _ t392 a2 _ _ t395 t398 t401 _ ?side1 ?side2 ?side3 ?side4 ?side5 ?side6 A21.out).mono ?_); (case side1 => repeat (first | exact (Kd.R_reads' HO391.out).2.2 | (with_reducible refine Kd.C_alloc ?_ _) | (with_reducible refine Kd.C_drewN ?_ _) | (with_reducible refine Kd.C_drew ?_))); (case side2 => exact (Kd.R_reads' HO391.out).2.1); (case side3 => repeat (first | exact (Kd.R_reads' HO394.out).2.2 | (with_reducible refine Kd.C_alloc ?_ _) | (with_reducible refine Kd.C_drewN ?_ _) | (with_reducible refine Kd.C_drew ?_))); (case side4 => exact (Kd.R_reads' HO394.out).2.1); (case side5 => repeat (first | exact (Kd.R_reads' HO397.out).2.2 | (with_reducible refine Kd.C_alloc ?_ _) | (with_reducible refine Kd.C_drewN ?_ _) | (with_reducible refine Kd.C_drew ?_))); (case side6 => exact (Kd.R_reads' HO397.out).2.1); rintro e w38 ⟨v399, rfl, ho0, hb⟩; refine ⟨_, rfl, ?_⟩; have HO400 := Aside0.mk (Kd.R_lower (Kd.R_new' ho0 (Kd.R_lt (RQ HO391.out))) (below_size (BL))); replace HO391 := Aside0.mk (Kd.R_elder' (RQ HO391.out) (Kd.R_base ho0) hb); replace HO394 := Aside0.mk (Kd.R_below (RQ HO394.out) hb); replace HO397 := Aside0.mk (Kd.R_below (RQ HO397.out) hb); replace BK386 := BB BK386.out hb; replace HB := Aside0.mk (below_step (BL) hb); (try clear hb); (try clear hb2); (try clear hk); (try clear hi); (try clear ho0)) | ((with_reducible refine gate_dst (N := 10) rfl ?_); refine bE 10 #[.slice none 0 0] 29 ?_; intro gb402 hg w39 hbox hb; have BK402 := Aside0.mk (hbox); have GW402 : Aside0 (w.heap.size ≤ gb402) := GS; have GE402 := GW402; have NB386_402 := NL BK386.out hg; have NB402_386 := NG BK386.out hg; replace HO391 := Aside0.mk (Kd.R_below (RQ HO391.out) hb); replace HO394 := Aside0.mk (Kd.R_below (RQ HO394.out) hb); replace HO397 := Aside0.mk (Kd.R_below (RQ HO397.out) hb); replace HO400 := Aside0.mk (Kd.R_below (RQ HO400.out) hb); replace BK386 := BB BK386.out hb; replace HB := Aside0.mk (below_step (BL) hb); clear hb hbox hg; obtain ⟨Ao40, co40, eo40⟩ := Kd.R_slice HO400.out; subst eo40; have hnb41 := NB402_386.out; have hnc41 := NB386_402.out; have hcz42_0 : w39.cell? ⟨gb402, 0, none⟩ = some (.slice none 0 0) := CZ BK402.out 0; have hfz42_0 := blk_frozen BK402.out 0; have hcz43_0 : w39.cell? ⟨gb386, 0, none⟩ = some (.slice A0_0 l0_0.length c0_0) := CZ BK386.out 0; have hfz43_0 := blk_frozen BK386.out 0) | ((with_reducible refine gate_callee (f := 14) rfl ?_); refine goesL_ (some 47) rfl rfl Try.func14 (by kernel_rfl) rfl #[.agg #[.slice A0_0 l0_0.length c0_0]] rfl (MA) ?_; (with_reducible refine (laws_toDisk.calls k _ _ l0_0 t403 _ ?side1 ?side2 A22.out).mono ?_); (case side1 => exact Kd.C_below HR0_0.out (BL)); (case side2 => exact HC0_0.out); rintro e w44 ⟨v404, rfl, ho0, hb⟩; refine ⟨_, rfl, ?_⟩; have HO405 := Aside0.mk (Kd.R_lower (Kd.R_new' (Kd.R_new' ho0 (Kd.R_lt (RF HO391.out BK402.out))) (Kd.R_lt (RF HO400.out BK402.out))) (below_size (BL))); replace HO391 := Aside0.mk (Kd.R_elder' (RF HO391.out BK402.out) (Kd.R_base ho0) hb); replace HO394 := Aside0.mk (Kd.R_below (RF HO394.out BK402.out) hb); replace HO397 := Aside0.mk (Kd.R_below (RF HO397.out BK402.out) hb); replace HO400 := Aside0.mk (Kd.R_elder' (RF HO400.out BK402.out) (Kd.R_base ho0) hb); replace BK386 := BX BK386.out hb; replace BK402 := Aside0.mk (blk_below (g := gb402) (o := .cells #[.slice Ao40 t398.length co40] 29 (0, 0)) (BU BK402.out) hb); replace HB := Aside0.mk (below_step (BL) hb); (try clear hb); (try clear hb2); (try clear hk); (try clear hi); (try clear ho0)) | ((with_reducible refine gate_dst (N := 12) rfl ?_); refine bE 12 #[.slice none 0 0] 29 ?_; intro gb406 hg w45 hbox hb; have BK406 := Aside0.mk (hbox); have GW406 : Aside0 (w.heap.size ≤ gb406) := GS; have GE406 := GW406; have NB386_406 := NL BK386.out hg; have NB406_386 := NG BK386.out hg; have NB402_406 := NL BK402.out hg; have NB406_402 := NG BK402.out hg; replace HO391 := Aside0.mk (Kd.R_below (RQ HO391.out) hb); replace HO394 := Aside0.mk (Kd.R_below (RQ HO394.out) hb); replace HO397 := Aside0.mk (Kd.R_below (RQ HO397.out) hb); replace HO400 := Aside0.mk (Kd.R_below (RQ HO400.out) hb); replace HO405 := Aside0.mk (Kd.R_below (RQ HO405.out) hb); replace BK386 := BB BK386.out hb; replace BK402 := BB BK402.out hb; replace HB := Aside0.mk (below_step (BL) hb); clear hb hbox hg; obtain ⟨Ao46, co46, eo46⟩ := Kd.R_slice HO405.out; subst eo46; have hnb47 := NB406_386.out; have hnc47 := NB386_406.out; have hnb48 := NB406_402.out; have hnc48 := NB402_406.out; have hcz49_0 : w45.cell? ⟨gb406, 0, none⟩ = some (.slice none 0 0) := CZ BK406.out 0; have hfz49_0 := blk_frozen BK406.out 0) | ((with_reducible refine gate_callee (f := 40) rfl ?_); refine goesL_ (some 49) rfl rfl Try.func40 (by kernel_rfl) rfl #[.slice A1 l1.length c1] rfl (MA) ?_; (with_reducible refine (laws_toActS.calls k _ _ l1 t407 _ ?side1 ?side2 A23.out).mono ?_); (case side1 => exact Kd.C_below HR1.out (BL)); (case side2 => exact HC1.out); rintro e w50 ⟨v408, rfl, ho0, hb⟩; refine ⟨_, rfl, ?_⟩; have HO409 := Aside0.mk (Kd.R_lower (Kd.R_new' ho0 (Kd.R_lt (RF HO394.out BK406.out))) (below_size (BL))); replace HO391 := Aside0.mk (Kd.R_below (RF HO391.out BK406.out) hb); replace HO394 := Aside0.mk (Kd.R_elder' (RF HO394.out BK406.out) (Kd.R_base ho0) hb); replace HO397 := Aside0.mk (Kd.R_below (RF HO397.out BK406.out) hb); replace HO400 := Aside0.mk (Kd.R_below (RF HO400.out BK406.out) hb); replace HO405 := Aside0.mk (Kd.R_below (RF HO405.out BK406.out) hb); replace BK386 := BX BK386.out hb; replace BK402 := BX BK402.out hb; replace BK406 := Aside0.mk (blk_below (g := gb406) (o := .cells #[.slice Ao46 t403.length co46] 29 (0, 0)) (BU BK406.out) hb); replace HB := Aside0.mk (below_step (BL) hb); (try clear hb); (try clear hb2); (try clear hk); (try clear hi); (try clear ho0)) | ((with_reducible refine gate_callee (f := 29) rfl ?_); refine goesL_ (some 51) rfl rfl Try.func29 (by kernel_rfl) rfl #[.slice A3 l3.length c3] rfl (MA) ?_; (with_reducible refine (laws_toIntS.calls k _ _ l3 t410 _ ?side1 ?side2 A24.out).mono ?_); (case side1 => exact CB HR3.out); (case side2 => exact HC3.out); rintro e w51 ⟨v411, rfl, ho0, hb⟩; refine ⟨_, rfl, ?_⟩; have HO412 := Aside0.mk (Kd.R_lower (Kd.R_new' ho0 (Kd.R_lt (RQ HO397.out))) (below_size (BL))); replace HO391 := Aside0.mk (Kd.R_below (RQ HO391.out) hb); replace HO394 := Aside0.mk (Kd.R_below (RQ HO394.out) hb); replace HO397 := Aside0.mk (Kd.R_elder' (RQ HO397.out) (Kd.R_base ho0) hb); replace HO400 := Aside0.mk (Kd.R_below (RQ HO400.out) hb); replace HO405 := Aside0.mk (Kd.R_below (RQ HO405.out) hb); replace HO409 := Aside0.mk (Kd.R_below (RQ HO409.out) hb); replace BK386 := BB BK386.out hb; replace BK402 := BB BK402.out hb; replace BK406 := BB BK406.out hb; replace HB := Aside0.mk (below_step (BL) hb); (try clear hb); (try clear hb2); (try clear hk); (try clear hi); (try clear ho0); have hcz52_0 : w51.cell? ⟨gb406, 0, none⟩ = some (.slice Ao46 t403.length co46) := CZ BK406.out 0; have hfz52_0 := blk_frozen BK406.out 0; obtain ⟨Ao53, co53, eo53⟩ := Kd.R_slice HO409.out; subst eo53; obtain ⟨Ao54, co54, eo54⟩ := Kd.R_slice HO412.out; subst eo54) | ((with_reducible refine gate_callee (f := 45) rfl ?_); refine goesL_ (some 57) rfl rfl Try.func45 (by kernel_rfl) rfl #[.agg #[.slice Ao46 t403.length co46], .slice Ao53 t407.length co53, .int .i64 a2, .slice Ao54 t410.length co54] rfl (MA) ?_; (with_reducible refine (impl_CutActs.calls k _ _ t403 _ _ t407 a2 _ _ t410 t413 t416 _ ?side1 ?side2 ?side3 ?side4 ?side5 ?side6 A25.out).mono ?_); (case side1 => repeat (first | exact (Kd.R_reads' HO405.out).2.2 | (with_reducible refine Kd.C_alloc ?_ _) | (with_reducible refine Kd.C_drewN ?_ _) | (with_reducible refine Kd.C_drew ?_))); (case side2 => exact (Kd.R_reads' HO405.out).2.1); (case side3 => repeat (first | exact (Kd.R_reads' HO409.out).2.2 | (with_reducible refine Kd.C_alloc ?_ _) | (with_reducible refine Kd.C_drewN ?_ _) | (with_reducible refine Kd.C_drew ?_))); (case side4 => exact (Kd.R_reads' HO409.out).2.1); (case side5 => repeat (first | exact (Kd.R_reads' HO412.out).2.2 | (with_reducible refine Kd.C_alloc ?_ _) | (with_reducible refine Kd.C_drewN ?_ _) | (with_reducible refine Kd.C_drew ?_))); (case side6 => exact (Kd.R_reads' HO412.out).2.1); rintro e w55 ⟨v414, rfl, ho0, hb⟩; refine ⟨_, rfl, ?_⟩; have HO415 := Aside0.mk (Kd.R_lower (Kd.R_new' (Kd.R_new' (Kd.R_new' ho0 (Kd.R_lt (RQ HO391.out))) (Kd.R_lt (RQ HO400.out))) (Kd.R_lt (RQ HO405.out))) (below_size (BL))); replace HO391 := Aside0.mk (Kd.R_elder' (RQ HO391.out) (Kd.R_base ho0) hb); replace HO394 := Aside0.mk (Kd.R_below (RQ HO394.out) hb); replace HO397 := Aside0.mk (Kd.R_below (RQ HO397.out) hb); replace HO400 := Aside0.mk (Kd.R_elder' (RQ HO400.out) (Kd.R_base ho0) hb); replace HO405 := Aside0.mk (Kd.R_elder' (RQ HO405.out) (Kd.R_base ho0) hb); replace HO409 := Aside0.mk (Kd.R_below (RQ HO409.out) hb); replace HO412 := Aside0.mk (Kd.R_below (RQ HO412.out) hb); replace BK386 := BB BK386.out hb; replace BK402 := BB BK402.out hb; replace BK406 := BB BK406.out hb; replace HB := Aside0.mk (below_step (BL) hb); (try clear hb); (try clear hb2); (try clear hk); (try clear hi); (try clear ho0)) | ((with_reducible refine gate_dst (N := 15) rfl ?_); refine bE 15 #[.slice none 0 0] 29 ?_; intro gb417 hg w56 hbox hb; have BK417 := Aside0.mk (hbox); have GW417 : Aside0 (w.heap.size ≤ gb417) := GS; have GE417 := GW417; have NB386_417 := NL BK386.out hg; have NB417_386 := NG BK386.out hg; have NB402_417 := NL BK402.out hg; have NB417_402 := NG BK402.out hg; have NB406_417 := NL BK406.out hg; have NB417_406 := NG BK406.out hg; replace HO391 := Aside0.mk (Kd.R_below (RQ HO391.out) hb); replace HO394 := Aside0.mk (Kd.R_below (RQ HO394.out) hb); replace HO397 := Aside0.mk (Kd.R_below (RQ HO397.out) hb); replace HO400 := Aside0.mk (Kd.R_below (RQ HO400.out) hb); replace HO405 := Aside0.mk (Kd.R_below (RQ HO405.out) hb); replace HO409 := Aside0.mk (Kd.R_below (RQ HO409.out) hb); replace HO412 := Aside0.mk (Kd.R_below (RQ HO412.out) hb); replace HO415 := Aside0.mk (Kd.R_below (RQ HO415.out) hb); replace BK386 := BB BK386.out hb; replace BK402 := BB BK402.out hb; replace BK406 := BB BK406.out hb; replace HB := Aside0.mk (below_step (BL) hb); clear hb hbox hg; obtain ⟨Ao57, co57, eo57⟩ := Kd.R_slice HO415.out; subst eo57; have hnb58 := NB417_386.out; have hnc58 := NB386_417.out; have hnb59 := NB417_402.out; have hnc59 := NB402_417.out; have hnb60 := NB417_406.out; have hnc60 := NB406_417.out; have hcz61_0 : w56.cell? ⟨gb417, 0, none⟩ = some (.slice none 0 0) := CZ BK417.out 0; have hfz61_0 := blk_frozen BK417.out 0))
 (try simp only [Act.put, zA, zB, zC])
 go_cut [68] (fun v68 wc => ∃ (kq : Nat) (x68_25 : Bool), v68 = .bool x68_25 ∧ Aside0 (laws_FnExactCutActs.j0 kq l1 a2 l3 t401 t407 t410 t416 x68_25 l0_0 t398 t403 t413 = some r) ∧ Aside0 (kq ≤ k) ∧ Aside0 (Kd.R k55 55 wc w.heap.size (fun _ => True) (.slice Ao53 t407.length co53) t407) ∧ Aside0 (Kd.R (Kd.int .i64) 3 wc w.heap.size (fun _ => True) (.slice Ao54 t410.length co54) t410) ∧ Aside0 (Kd.R k45 45 wc w.heap.size (fun k_ => some k_ ≠ ((.slice Ao46 t403.length co46) : Value).ownBlock ∧ some k_ ≠ ((.slice Ao57 t413.length co57) : Value).ownBlock) (.slice Ao40 t398.length co40) t398) ∧ Aside0 (Kd.R k45 45 wc w.heap.size (fun k_ => some k_ ≠ ((.slice Ao40 t398.length co40) : Value).ownBlock ∧ some k_ ≠ ((.slice Ao57 t413.length co57) : Value).ownBlock) (.slice Ao46 t403.length co46) t403) ∧ Aside0 (Kd.R k45 45 wc w.heap.size (fun k_ => some k_ ≠ ((.slice Ao40 t398.length co40) : Value).ownBlock ∧ some k_ ≠ ((.slice Ao46 t403.length co46) : Value).ownBlock) (.slice Ao57 t413.length co57) t413) ∧ Aside0 (wc.heap[gb386]? = some (.cells #[(.slice A0_0 l0_0.length c0_0)] 24 (0, 0))) ∧ Aside0 (wc.heap[gb402]? = some (.cells #[(.slice Ao40 t398.length co40)] 29 (0, 0))) ∧ Aside0 (wc.heap[gb406]? = some (.cells #[(.slice Ao46 t403.length co46)] 29 (0, 0))) ∧ Aside0 (wc.heap[gb417]? = some (.cells #[(.slice Ao57 t413.length co57)] 29 (0, 0))) ∧ Aside0 (Below w.heap.size w wc))
 case first =>
  have H := HC26.out; clear HC26; replace H := Option.bind_eq_some_iff.mp H; obtain ⟨t418, A620, H⟩ := H; have A62 := Aside0.mk A620; clear A620
  by_cases c63 : t418 = true
  ·
   subst c63
   have H1 : (laws_FnExactCutActs.j0 k l1 a2 l3 t401 t407 t410 t416 (t416 != t401) l0_0 t398 t403 t413) = some r := by rw [if_pos rfl] at H; exact H
   clear H; have H := H1; clear H1; have H' := Aside0.mk H; clear H; have hnb64 := NB417_386.out; have hnc64 := NB386_417.out; have hnb65 := NB417_402.out; have hnc65 := NB402_417.out; have hnb66 := NB417_406.out; have hnc66 := NB406_417.out; have hcz67_0 : w56.cell? ⟨gb417, 0, none⟩ = some (.slice none 0 0) := CZ BK417.out 0; have hfz67_0 := blk_frozen BK417.out 0; have hnb68 := NB402_386.out; have hnc68 := NB386_402.out; have hnb69 := NB402_406.out; have hnc69 := NB406_402.out; have hcz70_0 : w56.cell? ⟨gb402, 0, none⟩ = some (.slice Ao40 t398.length co40) := CZ BK402.out 0; have hfz70_0 := blk_frozen BK402.out 0
   go_wp2_with (first | ((with_reducible refine gate_callee (f := 16) rfl ?_); refine goesL_ (some 62) rfl rfl Try.func16 (by kernel_rfl) rfl #[.agg #[.slice Ao57 t413.length co57], .agg #[.slice Ao40 t398.length co40]] rfl (MA) ?_; (with_reducible refine (laws_eqDisk.calls k _ _ t413 _ _ t398 true _ ?side1 ?side2 ?side3 ?side4 A62.out).mono ?_); (case side1 => refine (Kd.R_reads' (e := 45) (base := w.heap.size) (ok := fun k_ => (((True ∧ some k_ ≠ (.slice Ao35 t389.length co35 : Value).ownBlock) ∧ some k_ ≠ (.slice Ao40 t398.length co40 : Value).ownBlock) ∧ some k_ ≠ (.slice Ao46 t403.length co46 : Value).ownBlock)) (n := t413.length) (c := co57) ?_).2.2; exact (RF HO415.out BK417.out)); (case side2 => exact (Kd.R_reads' HO415.out).2.1); (case side3 => refine (Kd.R_reads' (e := 45) (base := w.heap.size) (ok := fun k_ => (((True ∧ some k_ ≠ (.slice Ao35 t389.length co35 : Value).ownBlock) ∧ some k_ ≠ (.slice Ao46 t403.length co46 : Value).ownBlock) ∧ some k_ ≠ (.slice Ao57 t413.length co57 : Value).ownBlock)) (n := t398.length) (c := co40) ?_).2.2; exact (RF HO400.out BK417.out)); (case side4 => exact (Kd.R_reads' HO400.out).2.1); rintro e w71 ⟨rfl, hb⟩; refine ⟨_, rfl, ?_⟩; replace HO391 := Aside0.mk (Kd.R_below (RF HO391.out BK417.out) hb); replace HO394 := Aside0.mk (Kd.R_below (RF HO394.out BK417.out) hb); replace HO397 := Aside0.mk (Kd.R_below (RF HO397.out BK417.out) hb); replace HO400 := Aside0.mk (Kd.R_below (RF HO400.out BK417.out) hb); replace HO405 := Aside0.mk (Kd.R_below (RF HO405.out BK417.out) hb); replace HO409 := Aside0.mk (Kd.R_below (RF HO409.out BK417.out) hb); replace HO412 := Aside0.mk (Kd.R_below (RF HO412.out BK417.out) hb); replace HO415 := Aside0.mk (Kd.R_below (RF HO415.out BK417.out) hb); replace BK386 := BX BK386.out hb; replace BK402 := BX BK402.out hb; replace BK406 := BX BK406.out hb; replace BK417 := Aside0.mk (blk_below (g := gb417) (o := .cells #[.slice Ao57 t413.length co57] 29 (0, 0)) (BU BK417.out) hb); replace HB := Aside0.mk (below_step (BL) hb); (try clear hb); (try clear hb2); (try clear hk); (try clear hi)))
   go_meet
   case rel => exact ⟨_, ((t416 != t401)), SD, H', ⟨by first | omega | exact Nat.le_refl _⟩, ⟨by (with_reducible repeat (first | apply r1 | apply r2 | apply r3)); exact Kd.R_mono HO409.out (fun _ hk => trivial)⟩, ⟨by (with_reducible repeat (first | apply r1 | apply r2 | apply r3)); exact Kd.R_mono HO412.out (fun _ hk => trivial)⟩, ⟨by (with_reducible repeat (first | apply r1 | apply r2 | apply r3)); exact Kd.R_mono HO400.out (fun _ hk => ⟨hk.1.2, hk.2⟩)⟩, ⟨by (with_reducible repeat (first | apply r1 | apply r2 | apply r3)); exact Kd.R_mono HO405.out (fun _ hk => ⟨hk.1.2, hk.2⟩)⟩, ⟨by (with_reducible repeat (first | apply r1 | apply r2 | apply r3)); exact Kd.R_mono HO415.out (fun _ hk => ⟨hk.1.2, hk.2⟩)⟩, ⟨BQ BK386.out⟩, ⟨BQ BK402.out⟩, ⟨BQ BK406.out⟩, ⟨BQ BK417.out⟩, ⟨BL⟩⟩
  replace c63 := Bool.eq_false_iff.mpr c63; subst c63
  have H1 : (laws_FnExactCutActs.j0 k l1 a2 l3 t401 t407 t410 t416 true l0_0 t398 t403 t413) = some r := by rw [if_neg (show ¬ (false = true) by decide)] at H; exact H
  clear H; have H := H1; clear H1; have H' := Aside0.mk H; clear H; have hnb72 := NB417_386.out; have hnc72 := NB386_417.out; have hnb73 := NB417_402.out; have hnc73 := NB402_417.out; have hnb74 := NB417_406.out; have hnc74 := NB406_417.out; have hcz75_0 : w56.cell? ⟨gb417, 0, none⟩ = some (.slice none 0 0) := CZ BK417.out 0; have hfz75_0 := blk_frozen BK417.out 0; have hnb76 := NB402_386.out; have hnc76 := NB386_402.out; have hnb77 := NB402_406.out; have hnc77 := NB406_402.out; have hcz78_0 : w56.cell? ⟨gb402, 0, none⟩ = some (.slice Ao40 t398.length co40) := CZ BK402.out 0; have hfz78_0 := blk_frozen BK402.out 0
  go_wp2_with (first | ((with_reducible refine gate_callee (f := 16) rfl ?_); refine goesL_ (some 62) rfl rfl Try.func16 (by kernel_rfl) rfl #[.agg #[.slice Ao57 t413.length co57], .agg #[.slice Ao40 t398.length co40]] rfl (MA) ?_; (with_reducible refine (laws_eqDisk.calls k _ _ t413 _ _ t398 false _ ?side1 ?side2 ?side3 ?side4 A62.out).mono ?_); (case side1 => refine (Kd.R_reads' (e := 45) (base := w.heap.size) (ok := fun k_ => (((True ∧ some k_ ≠ (.slice Ao35 t389.length co35 : Value).ownBlock) ∧ some k_ ≠ (.slice Ao40 t398.length co40 : Value).ownBlock) ∧ some k_ ≠ (.slice Ao46 t403.length co46 : Value).ownBlock)) (n := t413.length) (c := co57) ?_).2.2; exact (RF HO415.out BK417.out)); (case side2 => exact (Kd.R_reads' HO415.out).2.1); (case side3 => refine (Kd.R_reads' (e := 45) (base := w.heap.size) (ok := fun k_ => (((True ∧ some k_ ≠ (.slice Ao35 t389.length co35 : Value).ownBlock) ∧ some k_ ≠ (.slice Ao46 t403.length co46 : Value).ownBlock) ∧ some k_ ≠ (.slice Ao57 t413.length co57 : Value).ownBlock)) (n := t398.length) (c := co40) ?_).2.2; exact (RF HO400.out BK417.out)); (case side4 => exact (Kd.R_reads' HO400.out).2.1); rintro e w79 ⟨rfl, hb⟩; refine ⟨_, rfl, ?_⟩; replace HO391 := Aside0.mk (Kd.R_below (RF HO391.out BK417.out) hb); replace HO394 := Aside0.mk (Kd.R_below (RF HO394.out BK417.out) hb); replace HO397 := Aside0.mk (Kd.R_below (RF HO397.out BK417.out) hb); replace HO400 := Aside0.mk (Kd.R_below (RF HO400.out BK417.out) hb); replace HO405 := Aside0.mk (Kd.R_below (RF HO405.out BK417.out) hb); replace HO409 := Aside0.mk (Kd.R_below (RF HO409.out BK417.out) hb); replace HO412 := Aside0.mk (Kd.R_below (RF HO412.out BK417.out) hb); replace HO415 := Aside0.mk (Kd.R_below (RF HO415.out BK417.out) hb); replace BK386 := BX BK386.out hb; replace BK402 := BX BK402.out hb; replace BK406 := BX BK406.out hb; replace BK417 := Aside0.mk (blk_below (g := gb417) (o := .cells #[.slice Ao57 t413.length co57] 29 (0, 0)) (BU BK417.out) hb); replace HB := Aside0.mk (below_step (BL) hb); (try clear hb); (try clear hb2); (try clear hk); (try clear hi)))
  go_meet
  case rel => exact ⟨_, (true), SD, H', ⟨by first | omega | exact Nat.le_refl _⟩, ⟨by (with_reducible repeat (first | apply r1 | apply r2 | apply r3)); exact Kd.R_mono HO409.out (fun _ hk => trivial)⟩, ⟨by (with_reducible repeat (first | apply r1 | apply r2 | apply r3)); exact Kd.R_mono HO412.out (fun _ hk => trivial)⟩, ⟨by (with_reducible repeat (first | apply r1 | apply r2 | apply r3)); exact Kd.R_mono HO400.out (fun _ hk => ⟨hk.1.2, hk.2⟩)⟩, ⟨by (with_reducible repeat (first | apply r1 | apply r2 | apply r3)); exact Kd.R_mono HO405.out (fun _ hk => ⟨hk.1.2, hk.2⟩)⟩, ⟨by (with_reducible repeat (first | apply r1 | apply r2 | apply r3)); exact Kd.R_mono HO415.out (fun _ hk => ⟨hk.1.2, hk.2⟩)⟩, ⟨BQ BK386.out⟩, ⟨BQ BK402.out⟩, ⟨BQ BK406.out⟩, ⟨BQ BK417.out⟩, ⟨BL⟩⟩
 case rest =>
  clear HC26
  try clear c1 c2 p2 c3 c4 c5 c5b0 c5b1 c6 c7 c8 c8b0 c11 c12 c13 c13b0 c14 c16 c29 c38 c40 c41 c45 c46 c47 c48 c58 c59 c60 c63 c64 c65 c66 c68 c69 c72 c73 c74 c76 c77 hcz10_0 hcz15_0 hcz28_0 hcz31_0 hcz42_0 hcz43_0 hcz49_0 hcz52_0 hcz61_0 hcz67_0 hcz70_0 hcz75_0 hcz78_0 hfz10_0 hfz15_0 hfz28_0 hfz31_0 hfz42_0 hfz43_0 hfz49_0 hfz52_0 hfz61_0 hfz67_0 hfz70_0 hfz75_0 hfz78_0
  obtain ⟨kq, x68_25, rfl, HA, HJ25, HO_13, HO_14, HO_403000, HO_407000, HO_418000, BK386, BK402, BK406, BK417, HB⟩ := hcut; cases kq with
  | zero => exact absurd HA.out (by simp [laws_FnExactCutActs.j0])
  | succ kj25 =>
   have H := HA.out; clear HA; simp only [laws_FnExactCutActs.j0] at H
   by_cases c80 : x68_25 = true
   ·
    subst c80
    have H1 : (none) = some r := by rw [if_pos rfl] at H; exact H
    clear H; have H := H1; clear H1; exact absurd H (by simp)
   replace c80 := Bool.eq_false_iff.mpr c80; subst c80
   have H1 : ((laws_toDisk.f kj25 l0_0).bind fun t419 => ((laws_eqDisk.f kj25 t403 t419).bind fun t422 => (if t422 = true then ((laws_toActS.f kj25 l1).bind fun t423 => ((laws_eqActS.f kj25 t407 t423).bind fun t426 => (if t426 = true then ((laws_toIntS.f kj25 l3).bind fun t427 => ((laws_eqIntS.f kj25 t410 t427).bind fun t430 => (if t430 = true then ((laws_markDisk.f kj25 t403 1).bind fun bt431 => ((laws_markActS.f kj25 t407 bt431.1).bind fun bt433 => ((laws_markIntS.f kj25 t410 bt433.1).bind fun bt435 => (if bt435.1 < 0 then (laws_FnExactCutActs.j1 kj25 l1 a2 l3 t401 true l0_0 t398 t413) else ((laws_eqDisk.f kj25 t413 t398).bind fun t437 => (if t437 = true then (laws_FnExactCutActs.j1 kj25 l1 a2 l3 t401 (t416 != t401) l0_0 t398 t413) else (laws_FnExactCutActs.j1 kj25 l1 a2 l3 t401 true l0_0 t398 t413))))))) else (none)))) else (none)))) else (none)))) = some r := by rw [if_neg (show ¬ (false = true) by decide)] at H; exact H
   clear H; have H := H1; clear H1; replace H := Option.bind_eq_some_iff.mp H; obtain ⟨t419, A810, H⟩ := H; have A81 := Aside0.mk A810; clear A810; replace H := Option.bind_eq_some_iff.mp H; obtain ⟨t422, A820, H⟩ := H; have A82 := Aside0.mk A820; clear A820
   by_cases c83 : t422 = true; rotate_left
   ·
    replace c83 := Bool.eq_false_iff.mpr c83; subst c83
    have H1 : (none) = some r := by rw [if_neg (show ¬ (false = true) by decide)] at H; exact H
    clear H; have H := H1; clear H1; exact absurd H (by simp)
   subst c83
   have H1 : ((laws_toActS.f kj25 l1).bind fun t423 => ((laws_eqActS.f kj25 t407 t423).bind fun t426 => (if t426 = true then ((laws_toIntS.f kj25 l3).bind fun t427 => ((laws_eqIntS.f kj25 t410 t427).bind fun t430 => (if t430 = true then ((laws_markDisk.f kj25 t403 1).bind fun bt431 => ((laws_markActS.f kj25 t407 bt431.1).bind fun bt433 => ((laws_markIntS.f kj25 t410 bt433.1).bind fun bt435 => (if bt435.1 < 0 then (laws_FnExactCutActs.j1 kj25 l1 a2 l3 t401 true l0_0 t398 t413) else ((laws_eqDisk.f kj25 t413 t398).bind fun t437 => (if t437 = true then (laws_FnExactCutActs.j1 kj25 l1 a2 l3 t401 (t416 != t401) l0_0 t398 t413) else (laws_FnExactCutActs.j1 kj25 l1 a2 l3 t401 true l0_0 t398 t413))))))) else (none)))) else (none)))) = some r := by rw [if_pos rfl] at H; exact H
   clear H; have H := H1; clear H1; replace H := Option.bind_eq_some_iff.mp H; obtain ⟨t423, A840, H⟩ := H; have A84 := Aside0.mk A840; clear A840; replace H := Option.bind_eq_some_iff.mp H; obtain ⟨t426, A850, H⟩ := H; have A85 := Aside0.mk A850; clear A850
   by_cases c86 : t426 = true; rotate_left
   ·
    replace c86 := Bool.eq_false_iff.mpr c86; subst c86
    have H1 : (none) = some r := by rw [if_neg (show ¬ (false = true) by decide)] at H; exact H
    clear H; have H := H1; clear H1; exact absurd H (by simp)
   subst c86
   have H1 : ((laws_toIntS.f kj25 l3).bind fun t427 => ((laws_eqIntS.f kj25 t410 t427).bind fun t430 => (if t430 = true then ((laws_markDisk.f kj25 t403 1).bind fun bt431 => ((laws_markActS.f kj25 t407 bt431.1).bind fun bt433 => ((laws_markIntS.f kj25 t410 bt433.1).bind fun bt435 => (if bt435.1 < 0 then (laws_FnExactCutActs.j1 kj25 l1 a2 l3 t401 true l0_0 t398 t413) else ((laws_eqDisk.f kj25 t413 t398).bind fun t437 => (if t437 = true then (laws_FnExactCutActs.j1 kj25 l1 a2 l3 t401 (t416 != t401) l0_0 t398 t413) else (laws_FnExactCutActs.j1 kj25 l1 a2 l3 t401 true l0_0 t398 t413))))))) else (none)))) = some r := by rw [if_pos rfl] at H; exact H
   clear H; have H := H1; clear H1; replace H := Option.bind_eq_some_iff.mp H; obtain ⟨t427, A870, H⟩ := H; have A87 := Aside0.mk A870; clear A870; replace H := Option.bind_eq_some_iff.mp H; obtain ⟨t430, A880, H⟩ := H; have A88 := Aside0.mk A880; clear A880
   by_cases c89 : t430 = true; rotate_left
   ·
    replace c89 := Bool.eq_false_iff.mpr c89; subst c89
    have H1 : (none) = some r := by rw [if_neg (show ¬ (false = true) by decide)] at H; exact H
    clear H; have H := H1; clear H1; exact absurd H (by simp)
   subst c89
   have H1 : ((laws_markDisk.f kj25 t403 1).bind fun bt431 => ((laws_markActS.f kj25 t407 bt431.1).bind fun bt433 => ((laws_markIntS.f kj25 t410 bt433.1).bind fun bt435 => (if bt435.1 < 0 then (laws_FnExactCutActs.j1 kj25 l1 a2 l3 t401 true l0_0 t398 t413) else ((laws_eqDisk.f kj25 t413 t398).bind fun t437 => (if t437 = true then (laws_FnExactCutActs.j1 kj25 l1 a2 l3 t401 (t416 != t401) l0_0 t398 t413) else (laws_FnExactCutActs.j1 kj25 l1 a2 l3 t401 true l0_0 t398 t413))))))) = some r := by rw [if_pos rfl] at H; exact H
   clear H; have H := H1; clear H1; replace H := Option.bind_eq_some_iff.mp H; obtain ⟨⟨t431, t432⟩, A900, H⟩ := H; replace H : ((laws_markActS.f kj25 t407 t431).bind fun bt433 => ((laws_markIntS.f kj25 t410 bt433.1).bind fun bt435 => (if bt435.1 < 0 then (laws_FnExactCutActs.j1 kj25 l1 a2 l3 t401 true l0_0 t398 t413) else ((laws_eqDisk.f kj25 t413 t398).bind fun t437 => (if t437 = true then (laws_FnExactCutActs.j1 kj25 l1 a2 l3 t401 (t416 != t401) l0_0 t398 t413) else (laws_FnExactCutActs.j1 kj25 l1 a2 l3 t401 true l0_0 t398 t413)))))) = some r := H; have A90 := Aside0.mk A900; clear A900; replace H := Option.bind_eq_some_iff.mp H; obtain ⟨⟨t433, t434⟩, A910, H⟩ := H; replace H : ((laws_markIntS.f kj25 t410 t433).bind fun bt435 => (if bt435.1 < 0 then (laws_FnExactCutActs.j1 kj25 l1 a2 l3 t401 true l0_0 t398 t413) else ((laws_eqDisk.f kj25 t413 t398).bind fun t437 => (if t437 = true then (laws_FnExactCutActs.j1 kj25 l1 a2 l3 t401 (t416 != t401) l0_0 t398 t413) else (laws_FnExactCutActs.j1 kj25 l1 a2 l3 t401 true l0_0 t398 t413))))) = some r := H; have A91 := Aside0.mk A910; clear A910; replace H := Option.bind_eq_some_iff.mp H; obtain ⟨⟨t435, t436⟩, A920, H⟩ := H; replace H : (if t435 < 0 then (laws_FnExactCutActs.j1 kj25 l1 a2 l3 t401 true l0_0 t398 t413) else ((laws_eqDisk.f kj25 t413 t398).bind fun t437 => (if t437 = true then (laws_FnExactCutActs.j1 kj25 l1 a2 l3 t401 (t416 != t401) l0_0 t398 t413) else (laws_FnExactCutActs.j1 kj25 l1 a2 l3 t401 true l0_0 t398 t413)))) = some r := H; have A92 := Aside0.mk A920; clear A920; have HC93 := Aside0.mk H; clear H
   try go_wp2
   have n0_ := Aside0.mk (Kd.R_drew HO_13.out); have n1_ := Aside0.mk (Kd.R_drew HO_14.out); have n2_ := Aside0.mk (Kd.R_drew HO_403000.out); have n3_ := Aside0.mk (Kd.R_drew HO_407000.out); have n4_ := Aside0.mk (Kd.R_drew HO_418000.out); have n5_ := Aside0.mk (blk_drew BK386.out); have n6_ := Aside0.mk (blk_drew BK402.out); have n7_ := Aside0.mk (blk_drew BK406.out); have n8_ := Aside0.mk (blk_drew BK417.out); have n9_ := Aside0.mk (below_drew1 HB.out); clear HO_13; clear HO_14; clear HO_403000; clear HO_407000; clear HO_418000; clear BK386; clear BK402; clear BK406; clear BK417; clear HB; have HO_13 := n0_; have HO_14 := n1_; have HO_403000 := n2_; have HO_407000 := n3_; have HO_418000 := n4_; have BK386 := n5_; have BK402 := n6_; have BK406 := n7_; have BK417 := n8_; have HB := n9_; clear n0_ n1_ n2_ n3_ n4_ n5_ n6_ n7_ n8_ n9_; refine start_ (n := 5) (S := fun w' => w'.cell? ⟨gb406, 0, none⟩ = some (.slice Ao46 t403.length co46) ∧ w'.cell? ⟨gb386, 0, none⟩ = some (.slice A0_0 l0_0.length c0_0)) (ds := []) #[false, false, false, false, false] (by kernel_rfl) rfl rfl ⟨CZ BK406.out 0, CZ BK386.out 0⟩ (fun hHeld => ?_); generalize wc.drew = w94 at HO_13 HO_14 HO_403000 HO_407000 HO_418000 BK386 BK402 BK406 BK417 HB hHeld ⊢; refine take_ (i := 0) (N := some 69) (v := ?_) (a' := ?_) #[true, false, false, false, false] rfl rfl (by kernel_rfl) (fun _ _ _ h => h) (Or.inl ⟨by rfl, ?_⟩) hHeld ?_ ?_; rotate_left
   ·
    rintro w' ⟨s0, s1⟩
    go_simp
    with_reducible rfl
   rotate_left
   ·
    simp only [Act.put, zA, zB, zC, i64_w, i32_w]; rfl
   refine take_ (i := 1) (N := some 70) (v := ?_) (a' := ?_) #[true, true, false, false, false] rfl rfl (by kernel_rfl) (fun _ _ _ h => h) (Or.inl ⟨by rfl, ?_⟩) hHeld ?_ ?_; rotate_left
   ·
    rintro w' ⟨s0, s1⟩
    go_simp
    with_reducible rfl
   rotate_left
   ·
    simp only [Act.put, zA, zB, zC, i64_w, i32_w]; rfl
   refine one_ (i := 2) (N := some 71) #[true, true, true, false, false] rfl rfl (by kernel_rfl) (by decide) (fun K hK => ?_); refine goes_ Try.func14 (by kernel_rfl) rfl #[.agg #[.slice A0_0 l0_0.length c0_0]] (by rfl) rfl rfl (MA) ?_
   with_reducible refine (laws_toDisk.calls kj25 _ _ l0_0 t419 _ ?side1 ?side2 A81.out).mono ?_
   (case side1 => exact CB HR0_0.out)
   (case side2 => exact HC0_0.out)
   rintro e w95 ⟨v420, rfl, ho0, hb⟩; refine ⟨_, rfl, ?_⟩; have n0_ := Aside0.mk (Kd.R_below (RQ HO_13.out) hb); have n1_ := Aside0.mk (Kd.R_below (RQ HO_14.out) hb); have n2_ := Aside0.mk (Kd.R_elder' (RQ HO_403000.out) (Kd.R_base ho0) hb); have n3_ := Aside0.mk (Kd.R_elder' (RQ HO_407000.out) (Kd.R_base ho0) hb); have n4_ := Aside0.mk (Kd.R_elder' (RQ HO_418000.out) (Kd.R_base ho0) hb); have n5_ := Aside0.mk (Kd.R_lower (Kd.R_new' (Kd.R_new' (Kd.R_new' ho0 (Kd.R_lt (RQ HO_403000.out))) (Kd.R_lt (RQ HO_407000.out))) (Kd.R_lt (RQ HO_418000.out))) (below_size (BL))); have n6_ := BB BK386.out hb; have n7_ := BB BK402.out hb; have n8_ := BB BK406.out hb; have n9_ := BB BK417.out hb; have n10_ := Aside0.mk (below_step (BL) hb); clear HO_13; clear HO_14; clear HO_403000; clear HO_407000; clear HO_418000; clear BK386; clear BK402; clear BK406; clear BK417; clear HB; have HO_13 := n0_; have HO_14 := n1_; have HO_403000 := n2_; have HO_407000 := n3_; have HO_418000 := n4_; have HO421 := n5_; have BK386 := n6_; have BK402 := n7_; have BK406 := n8_; have BK417 := n9_; have HB := n10_; clear n0_ n1_ n2_ n3_ n4_ n5_ n6_ n7_ n8_ n9_ n10_
   (try clear hb)
   (try clear hb2)
   (try clear hk)
   (try clear hi)
   (try clear ho0)
   obtain ⟨Ao96, co96, eo96⟩ := Kd.R_slice HO421.out
   (first | subst eo96 | (injection eo96 with f1_ f2_ f3_; have f4_ := f1_.symm; have f5_ := f3_.symm; clear f1_ f2_ f3_; subst f4_; subst f5_))
   refine hK.out _ _ ⟨CZ BK406.out 0, CZ BK386.out 0⟩ (fun hHeld => ?_); clear hK K; refine norm_ (a' := ?_) ?_ ?_; rotate_left
   ·
    show Act.put _ (some 71) _ = _; simp only [Act.put, zA, zB, zC, i64_w, i32_w]; rfl
   refine one_ (i := 3) (N := some 72) #[true, true, true, true, false] rfl rfl (by kernel_rfl) (by decide) (fun K hK => ?_); refine goes_ Try.func16 (by kernel_rfl) rfl #[.agg #[.slice Ao46 t403.length co46], .agg #[.slice Ao96 t419.length co96]] (by rfl) rfl rfl (MA) ?_
   with_reducible refine (laws_eqDisk.calls kj25 _ _ t403 _ _ t419 true _ ?side1 ?side2 ?side3 ?side4 A82.out).mono ?_
   (case side1 => repeat (first | exact (Kd.R_reads' HO_407000.out).2.2 | (with_reducible refine Kd.C_alloc ?_ _) | (with_reducible refine Kd.C_drewN ?_ _) | (with_reducible refine Kd.C_drew ?_)))
   (case side2 => exact (Kd.R_reads' HO_407000.out).2.1)
   (case side3 => repeat (first | exact (Kd.R_reads' HO421.out).2.2 | (with_reducible refine Kd.C_alloc ?_ _) | (with_reducible refine Kd.C_drewN ?_ _) | (with_reducible refine Kd.C_drew ?_)))
   (case side4 => exact (Kd.R_reads' HO421.out).2.1)
   rintro e w97 ⟨rfl, hb⟩; refine ⟨_, rfl, ?_⟩; have n0_ := Aside0.mk (Kd.R_below (RQ HO_13.out) hb); have n1_ := Aside0.mk (Kd.R_below (RQ HO_14.out) hb); have n2_ := Aside0.mk (Kd.R_below (RQ HO_403000.out) hb); have n3_ := Aside0.mk (Kd.R_below (RQ HO_407000.out) hb); have n4_ := Aside0.mk (Kd.R_below (RQ HO_418000.out) hb); have n5_ := Aside0.mk (Kd.R_below (RQ HO421.out) hb); have n6_ := BB BK386.out hb; have n7_ := BB BK402.out hb; have n8_ := BB BK406.out hb; have n9_ := BB BK417.out hb; have n10_ := Aside0.mk (below_step (BL) hb); clear HO_13; clear HO_14; clear HO_403000; clear HO_407000; clear HO_418000; clear HO421; clear BK386; clear BK402; clear BK406; clear BK417; clear HB; have HO_13 := n0_; have HO_14 := n1_; have HO_403000 := n2_; have HO_407000 := n3_; have HO_418000 := n4_; have HO421 := n5_; have BK386 := n6_; have BK402 := n7_; have BK406 := n8_; have BK417 := n9_; have HB := n10_; clear n0_ n1_ n2_ n3_ n4_ n5_ n6_ n7_ n8_ n9_ n10_
   (try clear hb)
   (try clear hb2)
   (try clear hk)
   (try clear hi)
   refine hK.out _ _ ⟨CZ BK406.out 0, CZ BK386.out 0⟩ (fun hHeld => ?_); clear hK K; refine norm_ (a' := ?_) ?_ ?_; rotate_left
   ·
    show Act.put _ (some 72) _ = _; simp only [Act.put, zA, zB, zC, i64_w, i32_w]; rfl
   refine pure_ (i := 4) (N := some 73) (v := ?_) (a' := ?_) #[true, true, true, true, true] rfl rfl (by kernel_rfl) (fun _ _ _ h => h) (Or.inl ⟨by rfl, ?_⟩) ?_ ?_; rotate_left
   ·
    intro w'
    go_simp
    with_reducible rfl
   rotate_left
   ·
    simp only [Act.put, zA, zB, zC, i64_w, i32_w]; rfl
   refine done_ (by kernel_rfl) ?_
   go_upto_region 27 with (first | ((with_reducible refine gate_callee (f := 40) rfl ?_); refine goesL_ (some 76) rfl rfl Try.func40 (by kernel_rfl) rfl #[.slice A1 l1.length c1] rfl (MA) ?_; (with_reducible refine (laws_toActS.calls kj25 _ _ l1 t423 _ ?side1 ?side2 A84.out).mono ?_); (case side1 => exact CB HR1.out); (case side2 => exact HC1.out); rintro e w98 ⟨v424, rfl, ho0, hb⟩; refine ⟨_, rfl, ?_⟩; have HO425 := Aside0.mk (Kd.R_lower (Kd.R_new' ho0 (Kd.R_lt (RQ HO_13.out))) (below_size (BL))); replace HO_13 := Aside0.mk (Kd.R_elder' (RQ HO_13.out) (Kd.R_base ho0) hb); replace HO_14 := Aside0.mk (Kd.R_below (RQ HO_14.out) hb); replace HO_403000 := Aside0.mk (Kd.R_below (RQ HO_403000.out) hb); replace HO_407000 := Aside0.mk (Kd.R_below (RQ HO_407000.out) hb); replace HO_418000 := Aside0.mk (Kd.R_below (RQ HO_418000.out) hb); replace HO421 := Aside0.mk (Kd.R_below (RQ HO421.out) hb); replace BK386 := BB BK386.out hb; replace BK402 := BB BK402.out hb; replace BK406 := BB BK406.out hb; replace BK417 := BB BK417.out hb; replace HB := Aside0.mk (below_step (BL) hb); (try clear hb); (try clear hb2); (try clear hk); (try clear hi); (try clear ho0); obtain ⟨Ao99, co99, eo99⟩ := Kd.R_slice HO425.out; subst eo99) | ((with_reducible refine gate_callee (f := 42) rfl ?_); refine goesL_ (some 77) rfl rfl Try.func42 (by kernel_rfl) rfl #[.slice Ao53 t407.length co53, .slice Ao99 t423.length co99] rfl (MA) ?_; (with_reducible refine (laws_eqActS.calls kj25 _ _ t407 _ _ t423 true _ ?side1 ?side2 ?side3 ?side4 A85.out).mono ?_); (case side1 => repeat (first | exact (Kd.R_reads' HO_13.out).2.2 | (with_reducible refine Kd.C_alloc ?_ _) | (with_reducible refine Kd.C_drewN ?_ _) | (with_reducible refine Kd.C_drew ?_))); (case side2 => exact (Kd.R_reads' HO_13.out).2.1); (case side3 => repeat (first | exact (Kd.R_reads' HO425.out).2.2 | (with_reducible refine Kd.C_alloc ?_ _) | (with_reducible refine Kd.C_drewN ?_ _) | (with_reducible refine Kd.C_drew ?_))); (case side4 => exact (Kd.R_reads' HO425.out).2.1); rintro e w100 ⟨rfl, hb⟩; refine ⟨_, rfl, ?_⟩; replace HO_13 := Aside0.mk (Kd.R_below (RQ HO_13.out) hb); replace HO_14 := Aside0.mk (Kd.R_below (RQ HO_14.out) hb); replace HO_403000 := Aside0.mk (Kd.R_below (RQ HO_403000.out) hb); replace HO_407000 := Aside0.mk (Kd.R_below (RQ HO_407000.out) hb); replace HO_418000 := Aside0.mk (Kd.R_below (RQ HO_418000.out) hb); replace HO421 := Aside0.mk (Kd.R_below (RQ HO421.out) hb); replace HO425 := Aside0.mk (Kd.R_below (RQ HO425.out) hb); replace BK386 := BB BK386.out hb; replace BK402 := BB BK402.out hb; replace BK406 := BB BK406.out hb; replace BK417 := BB BK417.out hb; replace HB := Aside0.mk (below_step (BL) hb); (try clear hb); (try clear hb2); (try clear hk); (try clear hi)) | ((with_reducible refine gate_callee (f := 29) rfl ?_); refine goesL_ (some 81) rfl rfl Try.func29 (by kernel_rfl) rfl #[.slice A3 l3.length c3] rfl (MA) ?_; (with_reducible refine (laws_toIntS.calls kj25 _ _ l3 t427 _ ?side1 ?side2 A87.out).mono ?_); (case side1 => exact CB HR3.out); (case side2 => exact HC3.out); rintro e w101 ⟨v428, rfl, ho0, hb⟩; refine ⟨_, rfl, ?_⟩; have HO429 := Aside0.mk (Kd.R_lower (Kd.R_new' ho0 (Kd.R_lt (RQ HO_14.out))) (below_size (BL))); replace HO_13 := Aside0.mk (Kd.R_below (RQ HO_13.out) hb); replace HO_14 := Aside0.mk (Kd.R_elder' (RQ HO_14.out) (Kd.R_base ho0) hb); replace HO_403000 := Aside0.mk (Kd.R_below (RQ HO_403000.out) hb); replace HO_407000 := Aside0.mk (Kd.R_below (RQ HO_407000.out) hb); replace HO_418000 := Aside0.mk (Kd.R_below (RQ HO_418000.out) hb); replace HO421 := Aside0.mk (Kd.R_below (RQ HO421.out) hb); replace HO425 := Aside0.mk (Kd.R_below (RQ HO425.out) hb); replace BK386 := BB BK386.out hb; replace BK402 := BB BK402.out hb; replace BK406 := BB BK406.out hb; replace BK417 := BB BK417.out hb; replace HB := Aside0.mk (below_step (BL) hb); (try clear hb); (try clear hb2); (try clear hk); (try clear hi); (try clear ho0); obtain ⟨Ao102, co102, eo102⟩ := Kd.R_slice HO429.out; subst eo102) | ((with_reducible refine gate_callee (f := 30) rfl ?_); refine goesL_ (some 82) rfl rfl Try.func30 (by kernel_rfl) rfl #[.slice Ao54 t410.length co54, .slice Ao102 t427.length co102] rfl (MA) ?_; (with_reducible refine (laws_eqIntS.calls kj25 _ _ t410 _ _ t427 true _ ?side1 ?side2 ?side3 ?side4 A88.out).mono ?_); (case side1 => repeat (first | exact (Kd.R_reads' HO_14.out).2.2 | (with_reducible refine Kd.C_alloc ?_ _) | (with_reducible refine Kd.C_drewN ?_ _) | (with_reducible refine Kd.C_drew ?_))); (case side2 => exact (Kd.R_reads' HO_14.out).2.1); (case side3 => repeat (first | exact (Kd.R_reads' HO429.out).2.2 | (with_reducible refine Kd.C_alloc ?_ _) | (with_reducible refine Kd.C_drewN ?_ _) | (with_reducible refine Kd.C_drew ?_))); (case side4 => exact (Kd.R_reads' HO429.out).2.1); rintro e w' ⟨rfl, ⟨nd, rfl⟩⟩; refine ⟨_, rfl, ?_⟩; have hnb103 := NB406_386.out; have hnc103 := NB386_406.out; have hnb104 := NB406_402.out; have hnc104 := NB402_406.out; have hnb105 := NB406_417.out; have hnc105 := NB417_406.out; have hcz106_0 : w101.cell? ⟨gb406, 0, none⟩ = some (.slice Ao46 t403.length co46) := CZ BK406.out 0; have hfz106_0 := blk_frozen BK406.out 0) | ((with_reducible refine gate_callee (f := 31) rfl ?_); refine goesL_ (some 86) rfl rfl Try.func31 (by kernel_rfl) rfl #[.agg #[.slice Ao46 t403.length co46], .int .i64 1] rfl (MA) ?_; (with_reducible refine (laws_markDisk.calls kj25 (fun k_ => some k_ = (.slice Ao46 t403.length co46 : Value).ownBlock) (.slice Ao46 t403.length co46) t403 1 t431 t432 w _ ?side1 ?side2 A90.out).mono ?_); (case side1 => repeat (first | (with_reducible first | exact HB.out | apply below_alloc | apply pw_below_drewN | apply below_drew1 | refine below_set ?_ GE386.out | refine below_set ?_ GE402.out | refine below_set ?_ GE406.out | refine below_set ?_ GE417.out) | exact HB.out)); (case side2 => exact Kd.R_tight rfl HO_407000.out); rintro e w107 ⟨rfl, hy0, hb, hkp⟩; refine ⟨_, rfl, ?_⟩; replace HO_13 := Aside0.mk (Kd.R_mono (ok' := fun k_ => some k_ ≠ (.slice Ao99 t423.length co99 : Value).ownBlock) (Kd.R_keptB ((Kd.R_apart' HO_13.out (Kd.R_typed HO_407000.out) (by decide))) hkp (fun k_ hk_ hs_ => (hk_.2) hs_)) (fun k_ hk_ => hk_.1.1.2)); replace HO_14 := Aside0.mk (Kd.R_mono (ok' := fun k_ => some k_ ≠ (.slice Ao102 t427.length co102 : Value).ownBlock) (Kd.R_keptB ((Kd.R_apart' HO_14.out (Kd.R_typed HO_407000.out) (by decide))) hkp (fun k_ hk_ hs_ => (hk_.2) hs_)) (fun k_ hk_ => hk_.1.1.2)); replace HO_403000 := Aside0.mk (Kd.R_mono (ok' := fun k_ => some k_ ≠ (.slice Ao46 t403.length co46 : Value).ownBlock ∧ some k_ ≠ (.slice Ao57 t413.length co57 : Value).ownBlock ∧ some k_ ≠ (.slice Ao96 t419.length co96 : Value).ownBlock) (Kd.R_keptB (HO_403000.out) hkp (fun k_ hk_ hs_ => (hk_.1.1) hs_)) (fun k_ hk_ => ⟨hk_.1.1.1, hk_.1.1.2, hk_.1.2⟩)); replace HO_418000 := Aside0.mk (Kd.R_mono (ok' := fun k_ => some k_ ≠ (.slice Ao40 t398.length co40 : Value).ownBlock ∧ some k_ ≠ (.slice Ao46 t403.length co46 : Value).ownBlock ∧ some k_ ≠ (.slice Ao96 t419.length co96 : Value).ownBlock) (Kd.R_keptB (HO_418000.out) hkp (fun k_ hk_ hs_ => (hk_.1.2) hs_)) (fun k_ hk_ => ⟨hk_.1.1.1, hk_.1.1.2, hk_.1.2⟩)); replace BK386 := Aside0.mk (blk_kept (BQ BK386.out) hkp (fun hs_ => (fun e_ => (Kd.R_ne HO_407000.out BK386.out (by decide)) e_) hs_)); replace BK402 := Aside0.mk (blk_kept (BQ BK402.out) hkp (fun hs_ => (fun e_ => (Kd.R_ne HO_407000.out BK402.out (by decide)) e_) hs_)); replace BK406 := Aside0.mk (blk_kept (BQ BK406.out) hkp (fun hs_ => (fun e_ => (Kd.R_ne HO_407000.out BK406.out (by decide)) e_) hs_)); replace BK417 := Aside0.mk (blk_kept (BQ BK417.out) hkp (fun hs_ => (fun e_ => (Kd.R_ne HO_407000.out BK417.out (by decide)) e_) hs_)); replace HO421 := Aside0.mk (Kd.R_mono (ok' := fun k_ => some k_ ≠ (.slice Ao40 t398.length co40 : Value).ownBlock ∧ some k_ ≠ (.slice Ao46 t403.length co46 : Value).ownBlock ∧ some k_ ≠ (.slice Ao57 t413.length co57 : Value).ownBlock) (Kd.R_keptB (HO421.out) hkp (fun k_ hk_ hs_ => (hk_.1.2) hs_)) (fun k_ hk_ => ⟨hk_.1.1.1.2, hk_.1.1.2, hk_.1.2⟩)); replace HO425 := Aside0.mk (Kd.R_mono (ok' := fun k_ => some k_ ≠ (.slice Ao53 t407.length co53 : Value).ownBlock) (Kd.R_keptB ((Kd.R_apart' HO425.out (Kd.R_typed HO_407000.out) (by decide))) hkp (fun k_ hk_ hs_ => (hk_.2) hs_)) (fun k_ hk_ => hk_.1.1.2)); replace HO429 := Aside0.mk (Kd.R_mono (ok' := fun k_ => some k_ ≠ (.slice Ao54 t410.length co54 : Value).ownBlock) (Kd.R_keptB ((Kd.R_apart' HO429.out (Kd.R_typed HO_407000.out) (by decide))) hkp (fun k_ hk_ hs_ => (hk_.2) hs_)) (fun k_ hk_ => hk_.1.1.2)); replace HO_407000 := Aside0.mk (Kd.R_reok rfl hy0 (fun k_ e_ => HO_407000.out.1 k_ e_)); replace HB := Aside0.mk (hb); (try clear hb); (try clear hkp); (try clear hy0)) | ((with_reducible refine gate_callee (f := 43) rfl ?_); refine goesL_ (some 89) rfl rfl Try.func43 (by kernel_rfl) rfl #[.slice Ao53 t407.length co53, .int .i64 t431] rfl (MA) ?_; (with_reducible refine (laws_markActS.calls kj25 (fun k_ => some k_ = (.slice Ao53 t407.length co53 : Value).ownBlock) (.slice Ao53 t407.length co53) t407 t431 t433 t434 w _ ?side1 ?side2 A91.out).mono ?_); (case side1 => repeat (first | (with_reducible first | exact HB.out | apply below_alloc | apply pw_below_drewN | apply below_drew1 | refine below_set ?_ GE386.out | refine below_set ?_ GE402.out | refine below_set ?_ GE406.out | refine below_set ?_ GE417.out) | exact HB.out)); (case side2 => exact Kd.R_tight rfl HO_13.out); rintro e w108 ⟨rfl, hy0, hb, hkp⟩; refine ⟨_, rfl, ?_⟩; replace HO_14 := Aside0.mk (Kd.R_mono (ok' := fun k_ => some k_ ≠ (.slice Ao102 t427.length co102 : Value).ownBlock) (Kd.R_keptB ((Kd.R_apart' HO_14.out (Kd.R_typed HO_13.out) (by decide))) hkp (fun k_ hk_ hs_ => (hk_.2) hs_)) (fun k_ hk_ => hk_.1.1)); replace HO_403000 := Aside0.mk (Kd.R_mono (ok' := fun k_ => some k_ ≠ (.slice Ao46 t403.length co46 : Value).ownBlock ∧ some k_ ≠ (.slice Ao57 t413.length co57 : Value).ownBlock ∧ some k_ ≠ (.slice Ao96 t419.length co96 : Value).ownBlock) (Kd.R_keptB ((Kd.R_apart' HO_403000.out (Kd.R_typed HO_13.out) (by decide))) hkp (fun k_ hk_ hs_ => (hk_.2) hs_)) (fun k_ hk_ => ⟨hk_.1.1.1, hk_.1.1.2.1, hk_.1.1.2.2⟩)); replace HO_407000 := Aside0.mk (Kd.R_mono (ok' := fun k_ => some k_ ≠ (.slice Ao40 t398.length co40 : Value).ownBlock ∧ some k_ ≠ (.slice Ao57 t413.length co57 : Value).ownBlock ∧ some k_ ≠ (.slice Ao96 t419.length co96 : Value).ownBlock) (Kd.R_keptB ((Kd.R_apart' HO_407000.out (Kd.R_typed HO_13.out) (by decide))) hkp (fun k_ hk_ hs_ => (hk_.2) hs_)) (fun k_ hk_ => ⟨hk_.1.1.1.1, hk_.1.1.1.2, hk_.1.1.2⟩)); replace HO_418000 := Aside0.mk (Kd.R_mono (ok' := fun k_ => some k_ ≠ (.slice Ao40 t398.length co40 : Value).ownBlock ∧ some k_ ≠ (.slice Ao46 t403.length co46 : Value).ownBlock ∧ some k_ ≠ (.slice Ao96 t419.length co96 : Value).ownBlock) (Kd.R_keptB ((Kd.R_apart' HO_418000.out (Kd.R_typed HO_13.out) (by decide))) hkp (fun k_ hk_ hs_ => (hk_.2) hs_)) (fun k_ hk_ => ⟨hk_.1.1.1, hk_.1.1.2.1, hk_.1.1.2.2⟩)); replace BK386 := Aside0.mk (blk_kept (BQ BK386.out) hkp (fun hs_ => (fun e_ => (Kd.R_ne HO_13.out BK386.out (by decide)) e_) hs_)); replace BK402 := Aside0.mk (blk_kept (BQ BK402.out) hkp (fun hs_ => (fun e_ => (Kd.R_ne HO_13.out BK402.out (by decide)) e_) hs_)); replace BK406 := Aside0.mk (blk_kept (BQ BK406.out) hkp (fun hs_ => (fun e_ => (Kd.R_ne HO_13.out BK406.out (by decide)) e_) hs_)); replace BK417 := Aside0.mk (blk_kept (BQ BK417.out) hkp (fun hs_ => (fun e_ => (Kd.R_ne HO_13.out BK417.out (by decide)) e_) hs_)); replace HO421 := Aside0.mk (Kd.R_mono (ok' := fun k_ => some k_ ≠ (.slice Ao40 t398.length co40 : Value).ownBlock ∧ some k_ ≠ (.slice Ao46 t403.length co46 : Value).ownBlock ∧ some k_ ≠ (.slice Ao57 t413.length co57 : Value).ownBlock) (Kd.R_keptB ((Kd.R_apart' HO421.out (Kd.R_typed HO_13.out) (by decide))) hkp (fun k_ hk_ hs_ => (hk_.2) hs_)) (fun k_ hk_ => ⟨hk_.1.1.1, hk_.1.1.2.1, hk_.1.1.2.2⟩)); replace HO425 := Aside0.mk (Kd.R_mono (ok' := fun k_ => some k_ ≠ (.slice Ao53 t407.length co53 : Value).ownBlock) (Kd.R_keptB (HO425.out) hkp (fun k_ hk_ hs_ => (hk_) hs_)) (fun k_ hk_ => hk_.1)); replace HO429 := Aside0.mk (Kd.R_mono (ok' := fun k_ => some k_ ≠ (.slice Ao54 t410.length co54 : Value).ownBlock) (Kd.R_keptB ((Kd.R_apart' HO429.out (Kd.R_typed HO_13.out) (by decide))) hkp (fun k_ hk_ hs_ => (hk_.2) hs_)) (fun k_ hk_ => hk_.1.1)); replace HO_13 := Aside0.mk (Kd.R_reok rfl hy0 (fun k_ e_ => HO_13.out.1 k_ e_)); replace HB := Aside0.mk (hb); (try clear hb); (try clear hkp); (try clear hy0)) | ((with_reducible refine gate_callee (f := 32) rfl ?_); refine goesL_ (some 92) rfl rfl Try.func32 (by kernel_rfl) rfl #[.slice Ao54 t410.length co54, .int .i64 t433] rfl (MA) ?_; (with_reducible refine (laws_markIntS.calls kj25 (fun k_ => some k_ = (.slice Ao54 t410.length co54 : Value).ownBlock) (.slice Ao54 t410.length co54) t410 t433 t435 t436 w _ ?side1 ?side2 A92.out).mono ?_); (case side1 => repeat (first | (with_reducible first | exact HB.out | apply below_alloc | apply pw_below_drewN | apply below_drew1 | refine below_set ?_ GE386.out | refine below_set ?_ GE402.out | refine below_set ?_ GE406.out | refine below_set ?_ GE417.out) | exact HB.out)); (case side2 => exact Kd.R_tight rfl HO_14.out); rintro e w109 ⟨rfl, hy0, hb, hkp⟩; refine ⟨_, rfl, ?_⟩; replace HO_13 := Aside0.mk (Kd.R_mono (ok' := fun k_ => some k_ ≠ (.slice Ao99 t423.length co99 : Value).ownBlock) (Kd.R_keptB ((Kd.R_apart' HO_13.out (Kd.R_typed HO_14.out) (by decide))) hkp (fun k_ hk_ hs_ => (hk_.2) hs_)) (fun k_ hk_ => hk_.1.1)); replace HO_403000 := Aside0.mk (Kd.R_mono (ok' := fun k_ => some k_ ≠ (.slice Ao46 t403.length co46 : Value).ownBlock ∧ some k_ ≠ (.slice Ao57 t413.length co57 : Value).ownBlock ∧ some k_ ≠ (.slice Ao96 t419.length co96 : Value).ownBlock) (Kd.R_keptB ((Kd.R_apart' HO_403000.out (Kd.R_typed HO_14.out) (by decide))) hkp (fun k_ hk_ hs_ => (hk_.2) hs_)) (fun k_ hk_ => ⟨hk_.1.1.1, hk_.1.1.2.1, hk_.1.1.2.2⟩)); replace HO_407000 := Aside0.mk (Kd.R_mono (ok' := fun k_ => some k_ ≠ (.slice Ao40 t398.length co40 : Value).ownBlock ∧ some k_ ≠ (.slice Ao57 t413.length co57 : Value).ownBlock ∧ some k_ ≠ (.slice Ao96 t419.length co96 : Value).ownBlock) (Kd.R_keptB ((Kd.R_apart' HO_407000.out (Kd.R_typed HO_14.out) (by decide))) hkp (fun k_ hk_ hs_ => (hk_.2) hs_)) (fun k_ hk_ => ⟨hk_.1.1.1, hk_.1.1.2.1, hk_.1.1.2.2⟩)); replace HO_418000 := Aside0.mk (Kd.R_mono (ok' := fun k_ => some k_ ≠ (.slice Ao40 t398.length co40 : Value).ownBlock ∧ some k_ ≠ (.slice Ao46 t403.length co46 : Value).ownBlock ∧ some k_ ≠ (.slice Ao96 t419.length co96 : Value).ownBlock) (Kd.R_keptB ((Kd.R_apart' HO_418000.out (Kd.R_typed HO_14.out) (by decide))) hkp (fun k_ hk_ hs_ => (hk_.2) hs_)) (fun k_ hk_ => ⟨hk_.1.1.1, hk_.1.1.2.1, hk_.1.1.2.2⟩)); replace BK386 := Aside0.mk (blk_kept (BQ BK386.out) hkp (fun hs_ => (fun e_ => (Kd.R_ne HO_14.out BK386.out (by decide)) e_) hs_)); replace BK402 := Aside0.mk (blk_kept (BQ BK402.out) hkp (fun hs_ => (fun e_ => (Kd.R_ne HO_14.out BK402.out (by decide)) e_) hs_)); replace BK406 := Aside0.mk (blk_kept (BQ BK406.out) hkp (fun hs_ => (fun e_ => (Kd.R_ne HO_14.out BK406.out (by decide)) e_) hs_)); replace BK417 := Aside0.mk (blk_kept (BQ BK417.out) hkp (fun hs_ => (fun e_ => (Kd.R_ne HO_14.out BK417.out (by decide)) e_) hs_)); replace HO421 := Aside0.mk (Kd.R_mono (ok' := fun k_ => some k_ ≠ (.slice Ao40 t398.length co40 : Value).ownBlock ∧ some k_ ≠ (.slice Ao46 t403.length co46 : Value).ownBlock ∧ some k_ ≠ (.slice Ao57 t413.length co57 : Value).ownBlock) (Kd.R_keptB ((Kd.R_apart' HO421.out (Kd.R_typed HO_14.out) (by decide))) hkp (fun k_ hk_ hs_ => (hk_.2) hs_)) (fun k_ hk_ => ⟨hk_.1.1.1, hk_.1.1.2.1, hk_.1.1.2.2⟩)); replace HO425 := Aside0.mk (Kd.R_mono (ok' := fun k_ => some k_ ≠ (.slice Ao53 t407.length co53 : Value).ownBlock) (Kd.R_keptB ((Kd.R_apart' HO425.out (Kd.R_typed HO_14.out) (by decide))) hkp (fun k_ hk_ hs_ => (hk_.2) hs_)) (fun k_ hk_ => hk_.1.1)); replace HO_14 := Aside0.mk (Kd.R_reok rfl hy0 (fun k_ e_ => HO_14.out.1 k_ e_)); replace HO429 := Aside0.mk (Kd.R_mono (ok' := fun k_ => some k_ ≠ (.slice Ao54 t410.length co54 : Value).ownBlock) (Kd.R_keptB (HO429.out) hkp (fun k_ hk_ hs_ => (hk_) hs_)) (fun k_ hk_ => hk_.1)); replace HB := Aside0.mk (hb); (try clear hb); (try clear hkp); (try clear hy0)))
   (try simp only [Act.put, zA, zB, zC])
   go_cut [105] (fun v105 wc => ∃ (kq : Nat) (x105_92 : Bool), v105 = .bool x105_92 ∧ Aside0 (laws_FnExactCutActs.j1 kq l1 a2 l3 t401 x105_92 l0_0 t398 t413 = some r) ∧ Aside0 (kq ≤ kj25) ∧ Aside0 (Kd.R k45 45 wc w.heap.size (fun k_ => some k_ ≠ ((.slice Ao46 t403.length co46) : Value).ownBlock ∧ some k_ ≠ ((.slice Ao57 t413.length co57) : Value).ownBlock) (.slice Ao40 t398.length co40) t398) ∧ Aside0 (Kd.R k45 45 wc w.heap.size (fun k_ => some k_ ≠ ((.slice Ao40 t398.length co40) : Value).ownBlock ∧ some k_ ≠ ((.slice Ao57 t413.length co57) : Value).ownBlock) (.slice Ao46 t403.length co46) t432) ∧ Aside0 (Kd.R k45 45 wc w.heap.size (fun k_ => some k_ ≠ ((.slice Ao40 t398.length co40) : Value).ownBlock ∧ some k_ ≠ ((.slice Ao46 t403.length co46) : Value).ownBlock) (.slice Ao57 t413.length co57) t413) ∧ Aside0 (wc.heap[gb386]? = some (.cells #[(.slice A0_0 l0_0.length c0_0)] 24 (0, 0))) ∧ Aside0 (wc.heap[gb402]? = some (.cells #[(.slice Ao40 t398.length co40)] 29 (0, 0))) ∧ Aside0 (wc.heap[gb406]? = some (.cells #[(.slice Ao46 t403.length co46)] 29 (0, 0))) ∧ Aside0 (wc.heap[gb417]? = some (.cells #[(.slice Ao57 t413.length co57)] 29 (0, 0))) ∧ Aside0 (Below w.heap.size w wc))
   case first =>
    have H := HC93.out; clear HC93
    by_cases c110 : t435 < 0
    ·
     rw [if_pos c110] at H; have c110b0 : decide (t435 < 0) = true := decide_eq_true c110; clear c110
     (first | rw [c110b0] | (simp only [i64_w, i32_w]; rw [c110b0]) | skip)
     have H' := Aside0.mk H; clear H
     go_wp2
     go_meet
     case rel => exact ⟨_, (true), SD, H', ⟨by have := HJ25.out; first | omega | exact Nat.le_refl _⟩, ⟨by (with_reducible repeat (first | apply r1 | apply r2 | apply r3)); exact Kd.R_mono HO_403000.out (fun _ hk => ⟨hk.1, hk.2.1⟩)⟩, ⟨by (with_reducible repeat (first | apply r1 | apply r2 | apply r3)); exact Kd.R_mono HO_407000.out (fun _ hk => ⟨hk.1, hk.2.1⟩)⟩, ⟨by (with_reducible repeat (first | apply r1 | apply r2 | apply r3)); exact Kd.R_mono HO_418000.out (fun _ hk => ⟨hk.1, hk.2.1⟩)⟩, ⟨BQ BK386.out⟩, ⟨BQ BK402.out⟩, ⟨BQ BK406.out⟩, ⟨BQ BK417.out⟩, ⟨BL⟩⟩
    rw [if_neg c110] at H; have c110b0 : decide (t435 < 0) = false := decide_eq_false c110; clear c110
    (first | rw [c110b0] | (simp only [i64_w, i32_w]; rw [c110b0]) | skip)
    replace H := Option.bind_eq_some_iff.mp H; obtain ⟨t437, A1110, H⟩ := H; have A111 := Aside0.mk A1110; clear A1110
    by_cases c112 : t437 = true
    ·
     subst c112
     have H1 : (laws_FnExactCutActs.j1 kj25 l1 a2 l3 t401 (t416 != t401) l0_0 t398 t413) = some r := by rw [if_pos rfl] at H; exact H
     clear H; have H := H1; clear H1; have H' := Aside0.mk H; clear H; have hnb113 := NB417_386.out; have hnc113 := NB386_417.out; have hnb114 := NB417_402.out; have hnc114 := NB402_417.out; have hnb115 := NB417_406.out; have hnc115 := NB406_417.out; have hcz116_0 : w109.cell? ⟨gb417, 0, none⟩ = some (.slice Ao57 t413.length co57) := CZ BK417.out 0; have hfz116_0 := blk_frozen BK417.out 0; have hnb117 := NB402_386.out; have hnc117 := NB386_402.out; have hnb118 := NB402_406.out; have hnc118 := NB406_402.out; have hcz119_0 : w109.cell? ⟨gb402, 0, none⟩ = some (.slice Ao40 t398.length co40) := CZ BK402.out 0; have hfz119_0 := blk_frozen BK402.out 0
     go_wp2_with (first | (go_at_call 16; (with_reducible refine (laws_eqDisk.calls kj25 _ _ t413 _ _ t398 true _ ?side1 ?side2 ?side3 ?side4 A111.out).mono ?_); (case side1 => repeat (first | exact (Kd.R_reads' HO_418000.out).2.2 | (with_reducible refine Kd.C_alloc ?_ _) | (with_reducible refine Kd.C_drewN ?_ _) | (with_reducible refine Kd.C_drew ?_))); (case side2 => exact (Kd.R_reads' HO_418000.out).2.1); (case side3 => repeat (first | exact (Kd.R_reads' HO_403000.out).2.2 | (with_reducible refine Kd.C_alloc ?_ _) | (with_reducible refine Kd.C_drewN ?_ _) | (with_reducible refine Kd.C_drew ?_))); (case side4 => exact (Kd.R_reads' HO_403000.out).2.1); rintro e w120 ⟨rfl, hb⟩; replace HO_13 := Aside0.mk (Kd.R_below (RQ HO_13.out) hb); replace HO_14 := Aside0.mk (Kd.R_below (RQ HO_14.out) hb); replace HO_403000 := Aside0.mk (Kd.R_below (RQ HO_403000.out) hb); replace HO_407000 := Aside0.mk (Kd.R_below (RQ HO_407000.out) hb); replace HO_418000 := Aside0.mk (Kd.R_below (RQ HO_418000.out) hb); replace HO421 := Aside0.mk (Kd.R_below (RQ HO421.out) hb); replace HO425 := Aside0.mk (Kd.R_below (RQ HO425.out) hb); replace HO429 := Aside0.mk (Kd.R_below (RQ HO429.out) hb); replace BK386 := BB BK386.out hb; replace BK402 := BB BK402.out hb; replace BK406 := BB BK406.out hb; replace BK417 := BB BK417.out hb; replace HB := Aside0.mk (below_step (BL) hb); (try clear hb); (try clear hb2); (try clear hk); (try clear hi)))
     go_meet
     case rel => exact ⟨_, ((t416 != t401)), SD, H', ⟨by have := HJ25.out; first | omega | exact Nat.le_refl _⟩, ⟨by (with_reducible repeat (first | apply r1 | apply r2 | apply r3)); exact Kd.R_mono HO_403000.out (fun _ hk => ⟨hk.1, hk.2.1⟩)⟩, ⟨by (with_reducible repeat (first | apply r1 | apply r2 | apply r3)); exact Kd.R_mono HO_407000.out (fun _ hk => ⟨hk.1, hk.2.1⟩)⟩, ⟨by (with_reducible repeat (first | apply r1 | apply r2 | apply r3)); exact Kd.R_mono HO_418000.out (fun _ hk => ⟨hk.1, hk.2.1⟩)⟩, ⟨BQ BK386.out⟩, ⟨BQ BK402.out⟩, ⟨BQ BK406.out⟩, ⟨BQ BK417.out⟩, ⟨BL⟩⟩
    replace c112 := Bool.eq_false_iff.mpr c112; subst c112
    have H1 : (laws_FnExactCutActs.j1 kj25 l1 a2 l3 t401 true l0_0 t398 t413) = some r := by rw [if_neg (show ¬ (false = true) by decide)] at H; exact H
    clear H; have H := H1; clear H1; have H' := Aside0.mk H; clear H; have hnb121 := NB417_386.out; have hnc121 := NB386_417.out; have hnb122 := NB417_402.out; have hnc122 := NB402_417.out; have hnb123 := NB417_406.out; have hnc123 := NB406_417.out; have hcz124_0 : w109.cell? ⟨gb417, 0, none⟩ = some (.slice Ao57 t413.length co57) := CZ BK417.out 0; have hfz124_0 := blk_frozen BK417.out 0; have hnb125 := NB402_386.out; have hnc125 := NB386_402.out; have hnb126 := NB402_406.out; have hnc126 := NB406_402.out; have hcz127_0 : w109.cell? ⟨gb402, 0, none⟩ = some (.slice Ao40 t398.length co40) := CZ BK402.out 0; have hfz127_0 := blk_frozen BK402.out 0
    go_wp2_with (first | (go_at_call 16; (with_reducible refine (laws_eqDisk.calls kj25 _ _ t413 _ _ t398 false _ ?side1 ?side2 ?side3 ?side4 A111.out).mono ?_); (case side1 => repeat (first | exact (Kd.R_reads' HO_418000.out).2.2 | (with_reducible refine Kd.C_alloc ?_ _) | (with_reducible refine Kd.C_drewN ?_ _) | (with_reducible refine Kd.C_drew ?_))); (case side2 => exact (Kd.R_reads' HO_418000.out).2.1); (case side3 => repeat (first | exact (Kd.R_reads' HO_403000.out).2.2 | (with_reducible refine Kd.C_alloc ?_ _) | (with_reducible refine Kd.C_drewN ?_ _) | (with_reducible refine Kd.C_drew ?_))); (case side4 => exact (Kd.R_reads' HO_403000.out).2.1); rintro e w128 ⟨rfl, hb⟩; replace HO_13 := Aside0.mk (Kd.R_below (RQ HO_13.out) hb); replace HO_14 := Aside0.mk (Kd.R_below (RQ HO_14.out) hb); replace HO_403000 := Aside0.mk (Kd.R_below (RQ HO_403000.out) hb); replace HO_407000 := Aside0.mk (Kd.R_below (RQ HO_407000.out) hb); replace HO_418000 := Aside0.mk (Kd.R_below (RQ HO_418000.out) hb); replace HO421 := Aside0.mk (Kd.R_below (RQ HO421.out) hb); replace HO425 := Aside0.mk (Kd.R_below (RQ HO425.out) hb); replace HO429 := Aside0.mk (Kd.R_below (RQ HO429.out) hb); replace BK386 := BB BK386.out hb; replace BK402 := BB BK402.out hb; replace BK406 := BB BK406.out hb; replace BK417 := BB BK417.out hb; replace HB := Aside0.mk (below_step (BL) hb); (try clear hb); (try clear hb2); (try clear hk); (try clear hi)))
    go_meet
    case rel => exact ⟨_, (true), SD, H', ⟨by have := HJ25.out; first | omega | exact Nat.le_refl _⟩, ⟨by (with_reducible repeat (first | apply r1 | apply r2 | apply r3)); exact Kd.R_mono HO_403000.out (fun _ hk => ⟨hk.1, hk.2.1⟩)⟩, ⟨by (with_reducible repeat (first | apply r1 | apply r2 | apply r3)); exact Kd.R_mono HO_407000.out (fun _ hk => ⟨hk.1, hk.2.1⟩)⟩, ⟨by (with_reducible repeat (first | apply r1 | apply r2 | apply r3)); exact Kd.R_mono HO_418000.out (fun _ hk => ⟨hk.1, hk.2.1⟩)⟩, ⟨BQ BK386.out⟩, ⟨BQ BK402.out⟩, ⟨BQ BK406.out⟩, ⟨BQ BK417.out⟩, ⟨BL⟩⟩
   case rest =>
    clear HC93
    try clear c1 c2 p2 c3 c4 c5 c5b0 c5b1 c6 c7 c8 c8b0 c10 c11 c12 c13 c13b0 c14 c16 c29 c30 c31 c32 c38 c40 c41 c42 c43 c45 c46 c47 c48 c58 c59 c60 c63 c64 c65 c66 c68 c69 c72 c73 c74 c76 c77 c80 c83 c86 c89 c103 c104 c105 c110 c110b0 c112 c113 c114 c115 c117 c118 c121 c122 c123 c125 c126 hcz106_0 hcz10_0 hcz116_0 hcz119_0 hcz124_0 hcz127_0 hcz15_0 hcz28_0 hcz31_0 hcz42_0 hcz43_0 hcz49_0 hcz52_0 hcz61_0 hcz67_0 hcz70_0 hcz75_0 hcz78_0 hfz106_0 hfz10_0 hfz116_0 hfz119_0 hfz124_0 hfz127_0 hfz15_0 hfz28_0 hfz31_0 hfz42_0 hfz43_0 hfz49_0 hfz52_0 hfz61_0 hfz67_0 hfz70_0 hfz75_0 hfz78_0 p2
    obtain ⟨kq, x105_92, rfl, HA, HJ92, HO_403000, HO_407000, HO_418000, BK386, BK402, BK406, BK417, HB⟩ := hcut; have hl407000_92 := (Kd.R_reads' HO_407000.out).1; rw [hl407000_92] at HO_407000
    (try simp only [hl407000_92])
    (try simp only [hl407000_92] at BK386)
    (try simp only [hl407000_92] at BK402)
    (try simp only [hl407000_92] at BK406)
    (try simp only [hl407000_92] at BK417)
    (try simp only [hl407000_92] at HO_403000)
    (try simp only [hl407000_92] at HO_418000)
    cases kq with
    | zero => exact absurd HA.out (by simp [laws_FnExactCutActs.j1])
    | succ kj92 =>
     have H := HA.out; clear HA; simp only [laws_FnExactCutActs.j1] at H
     by_cases c129 : x105_92 = true
     ·
      subst c129
      have H1 : (none) = some r := by rw [if_pos rfl] at H; exact H
      clear H; have H := H1; clear H1; exact absurd H (by simp)
     replace c129 := Bool.eq_false_iff.mpr c129; subst c129
     have H1 : ((laws_markDisk.f kj92 t413 1).bind fun bt438 => ((laws_heldDisk.f kj92 bt438.2 1).bind fun t440 => (if t440 < 0 then (none) else (if t440 = bt438.1 then ((laws_toDisk.f kj92 l0_0).bind fun t441 => ((laws_toActS.f kj92 l1).bind fun t444 => ((laws_toIntS.f kj92 l3).bind fun t447 => ((impl_CutActs.f kj92 t441 t444 a2 t447).bind fun bt450 => ((laws_eqDisk.f kj92 bt450.1 t398).bind fun t455 => (if t455 = true then (laws_FnExactCutActs.j2 kj92 bt438.1 (bt450.2 != t401) bt438.2) else (laws_FnExactCutActs.j2 kj92 bt438.1 true bt438.2))))))) else (none))))) = some r := by rw [if_neg (show ¬ (false = true) by decide)] at H; exact H
     clear H; have H := H1; clear H1; replace H := Option.bind_eq_some_iff.mp H; obtain ⟨⟨t438, t439⟩, A1300, H⟩ := H; replace H : ((laws_heldDisk.f kj92 t439 1).bind fun t440 => (if t440 < 0 then (none) else (if t440 = t438 then ((laws_toDisk.f kj92 l0_0).bind fun t441 => ((laws_toActS.f kj92 l1).bind fun t444 => ((laws_toIntS.f kj92 l3).bind fun t447 => ((impl_CutActs.f kj92 t441 t444 a2 t447).bind fun bt450 => ((laws_eqDisk.f kj92 bt450.1 t398).bind fun t455 => (if t455 = true then (laws_FnExactCutActs.j2 kj92 t438 (bt450.2 != t401) t439) else (laws_FnExactCutActs.j2 kj92 t438 true t439))))))) else (none)))) = some r := H; have A130 := Aside0.mk A1300; clear A1300; replace H := Option.bind_eq_some_iff.mp H; obtain ⟨t440, A1310, H⟩ := H; have A131 := Aside0.mk A1310; clear A1310
     by_cases c132 : t440 < 0
     ·
      rw [if_pos c132] at H; exact absurd H (by simp)
     rw [if_neg c132] at H; have c132b0 : decide (t440 < 0) = false := decide_eq_false c132; clear c132
     by_cases c133 : t440 = t438; rotate_left
     ·
      rw [if_neg c133] at H; exact absurd H (by simp)
     rw [if_pos c133] at H; have c133b0 : (t440 == t438) = true := beq_iff_eq.mpr c133; have c133b1 : (t440 != t438) = false := bne_eq_false_iff_eq.mpr c133; clear c133; replace H := Option.bind_eq_some_iff.mp H; obtain ⟨t441, A1340, H⟩ := H; have A134 := Aside0.mk A1340; clear A1340; replace H := Option.bind_eq_some_iff.mp H; obtain ⟨t444, A1350, H⟩ := H; have A135 := Aside0.mk A1350; clear A1350; replace H := Option.bind_eq_some_iff.mp H; obtain ⟨t447, A1360, H⟩ := H; have A136 := Aside0.mk A1360; clear A1360; replace H := Option.bind_eq_some_iff.mp H; obtain ⟨⟨t450, t453⟩, A1370, H⟩ := H; replace H : ((laws_eqDisk.f kj92 t450 t398).bind fun t455 => (if t455 = true then (laws_FnExactCutActs.j2 kj92 t438 (t453 != t401) t439) else (laws_FnExactCutActs.j2 kj92 t438 true t439))) = some r := H; have A137 := Aside0.mk A1370; clear A1370; have HC138 := Aside0.mk H; clear H; have hnb139 := NB417_386.out; have hnc139 := NB386_417.out; have hnb140 := NB417_402.out; have hnc140 := NB402_417.out; have hnb141 := NB417_406.out; have hnc141 := NB406_417.out; have hcz142_0 : wc.cell? ⟨gb417, 0, none⟩ = some (.slice Ao57 t413.length co57) := CZ BK417.out 0; have hfz142_0 := blk_frozen BK417.out 0
     go_upto_region 38 with (first | ((with_reducible refine gate_callee (f := 31) rfl ?_); refine goesL_ (some 108) rfl rfl Try.func31 (by kernel_rfl) rfl #[.agg #[.slice Ao57 t413.length co57], .int .i64 1] rfl (MA) ?_; (with_reducible refine (laws_markDisk.calls kj92 (fun k_ => some k_ = (.slice Ao57 t413.length co57 : Value).ownBlock) (.slice Ao57 t413.length co57) t413 1 t438 t439 w _ ?side1 ?side2 A130.out).mono ?_); (case side1 => repeat (first | (with_reducible first | exact HB.out | apply below_alloc | apply pw_below_drewN | apply below_drew1 | refine below_set ?_ GE386.out | refine below_set ?_ GE402.out | refine below_set ?_ GE406.out | refine below_set ?_ GE417.out) | exact HB.out)); (case side2 => exact Kd.R_tight rfl HO_418000.out); rintro e w143 ⟨rfl, hy0, hb, hkp⟩; refine ⟨_, rfl, ?_⟩; replace HO_403000 := Aside0.mk (Kd.R_mono (ok' := fun k_ => some k_ ≠ (.slice Ao46 t432.length co46 : Value).ownBlock ∧ some k_ ≠ (.slice Ao57 t413.length co57 : Value).ownBlock) (Kd.R_keptB (HO_403000.out) hkp (fun k_ hk_ hs_ => (hk_.2) hs_)) (fun k_ hk_ => ⟨hk_.1.1, hk_.1.2⟩)); replace HO_407000 := Aside0.mk (Kd.R_mono (ok' := fun k_ => some k_ ≠ (.slice Ao40 t398.length co40 : Value).ownBlock ∧ some k_ ≠ (.slice Ao57 t413.length co57 : Value).ownBlock) (Kd.R_keptB (HO_407000.out) hkp (fun k_ hk_ hs_ => (hk_.2) hs_)) (fun k_ hk_ => ⟨hk_.1.1, hk_.1.2⟩)); replace BK386 := Aside0.mk (blk_kept (BQ BK386.out) hkp (fun hs_ => (fun e_ => (Kd.R_ne HO_418000.out BK386.out (by decide)) e_) hs_)); replace BK402 := Aside0.mk (blk_kept (BQ BK402.out) hkp (fun hs_ => (fun e_ => (Kd.R_ne HO_418000.out BK402.out (by decide)) e_) hs_)); replace BK406 := Aside0.mk (blk_kept (BQ BK406.out) hkp (fun hs_ => (fun e_ => (Kd.R_ne HO_418000.out BK406.out (by decide)) e_) hs_)); replace BK417 := Aside0.mk (blk_kept (BQ BK417.out) hkp (fun hs_ => (fun e_ => (Kd.R_ne HO_418000.out BK417.out (by decide)) e_) hs_)); replace HO_418000 := Aside0.mk (Kd.R_reok rfl hy0 (fun k_ e_ => HO_418000.out.1 k_ e_)); replace HB := Aside0.mk (hb); (try clear hb); (try clear hkp); (try clear hy0); have hcz144_0 : w143.cell? ⟨gb417, 0, none⟩ = some (.slice Ao57 t413.length co57) := CZ BK417.out 0; have hfz144_0 := blk_frozen BK417.out 0) | ((with_reducible refine gate_callee (f := 33) rfl ?_); refine goesL_ (some 111) rfl rfl Try.func33 (by kernel_rfl) rfl #[.agg #[.slice Ao57 t439.length co57], .int .i64 1] rfl (by (try simp only [List.map_toArray, List.map_cons, List.map_nil]); first | done | (rw [show t439.length = t413.length from (Kd.R_reads' HO_418000.out).1.symm] <;> rfl) | rfl | (simp only [List.length_drop, List.length_take]; rfl)) ?_; (with_reducible refine (laws_heldDisk.calls kj92 _ _ t439 1 t440 _ ?side1 ?side2 A131.out).mono ?_); (case side1 => repeat (first | exact (Kd.R_reads' HO_418000.out).2.2 | (with_reducible refine Kd.C_alloc ?_ _) | (with_reducible refine Kd.C_drewN ?_ _) | (with_reducible refine Kd.C_drew ?_))); (case side2 => rw [show t439.length = t413.length from (Kd.R_reads' HO_418000.out).1.symm]; exact (Kd.R_reads' HO_418000.out).2.1); rintro e w145 ⟨rfl, hb⟩; refine ⟨_, rfl, ?_⟩; replace HO_403000 := Aside0.mk (Kd.R_below (RQ HO_403000.out) hb); replace HO_407000 := Aside0.mk (Kd.R_below (RQ HO_407000.out) hb); replace HO_418000 := Aside0.mk (Kd.R_below (RQ HO_418000.out) hb); replace BK386 := BB BK386.out hb; replace BK402 := BB BK402.out hb; replace BK406 := BB BK406.out hb; replace BK417 := BB BK417.out hb; replace HB := Aside0.mk (below_step (BL) hb); (try clear hb); (try clear hb2); (try clear hk); (try clear hi); have hnb146 := NB386_402.out; have hnc146 := NB402_386.out; have hnb147 := NB386_406.out; have hnc147 := NB406_386.out; have hcz148_0 : w145.cell? ⟨gb386, 0, none⟩ = some (.slice A0_0 l0_0.length c0_0) := CZ BK386.out 0; have hfz148_0 := blk_frozen BK386.out 0) | ((with_reducible refine gate_callee (f := 14) rfl ?_); refine goesL_ (some 119) rfl rfl Try.func14 (by kernel_rfl) rfl #[.agg #[.slice A0_0 l0_0.length c0_0]] rfl (MA) ?_; (with_reducible refine (laws_toDisk.calls kj92 _ _ l0_0 t441 _ ?side1 ?side2 A134.out).mono ?_); (case side1 => exact CB HR0_0.out); (case side2 => exact HC0_0.out); rintro e w149 ⟨v442, rfl, ho0, hb⟩; refine ⟨_, rfl, ?_⟩; have HO443 := Aside0.mk (Kd.R_lower (Kd.R_new' (Kd.R_new' (Kd.R_new' ho0 (Kd.R_lt (RQ HO_403000.out))) (Kd.R_lt (RQ HO_407000.out))) (Kd.R_lt (RQ HO_418000.out))) (below_size (BL))); replace HO_403000 := Aside0.mk (Kd.R_elder' (RQ HO_403000.out) (Kd.R_base ho0) hb); replace HO_407000 := Aside0.mk (Kd.R_elder' (RQ HO_407000.out) (Kd.R_base ho0) hb); replace HO_418000 := Aside0.mk (Kd.R_elder' (RQ HO_418000.out) (Kd.R_base ho0) hb); replace BK386 := BB BK386.out hb; replace BK402 := BB BK402.out hb; replace BK406 := BB BK406.out hb; replace BK417 := BB BK417.out hb; replace HB := Aside0.mk (below_step (BL) hb); (try clear hb); (try clear hb2); (try clear hk); (try clear hi); (try clear ho0)) | ((with_reducible refine gate_callee (f := 40) rfl ?_); refine goesL_ (some 121) rfl rfl Try.func40 (by kernel_rfl) rfl #[.slice A1 l1.length c1] rfl (MA) ?_; (with_reducible refine (laws_toActS.calls kj92 _ _ l1 t444 _ ?side1 ?side2 A135.out).mono ?_); (case side1 => exact CB HR1.out); (case side2 => exact HC1.out); rintro e w150 ⟨v445, rfl, ho0, hb⟩; refine ⟨_, rfl, ?_⟩; have HO446 := Aside0.mk (Kd.R_lower ho0 (below_size (BL))); replace HO_403000 := Aside0.mk (Kd.R_below (RQ HO_403000.out) hb); replace HO_407000 := Aside0.mk (Kd.R_below (RQ HO_407000.out) hb); replace HO_418000 := Aside0.mk (Kd.R_below (RQ HO_418000.out) hb); replace HO443 := Aside0.mk (Kd.R_below (RQ HO443.out) hb); replace BK386 := BB BK386.out hb; replace BK402 := BB BK402.out hb; replace BK406 := BB BK406.out hb; replace BK417 := BB BK417.out hb; replace HB := Aside0.mk (below_step (BL) hb); (try clear hb); (try clear hb2); (try clear hk); (try clear hi); (try clear ho0)) | ((with_reducible refine gate_callee (f := 29) rfl ?_); refine goesL_ (some 124) rfl rfl Try.func29 (by kernel_rfl) rfl #[.slice A3 l3.length c3] rfl (MA) ?_; (with_reducible refine (laws_toIntS.calls kj92 _ _ l3 t447 _ ?side1 ?side2 A136.out).mono ?_); (case side1 => exact CB HR3.out); (case side2 => exact HC3.out); rintro e w151 ⟨v448, rfl, ho0, hb⟩; refine ⟨_, rfl, ?_⟩; have HO449 := Aside0.mk (Kd.R_lower ho0 (below_size (BL))); replace HO_403000 := Aside0.mk (Kd.R_below (RQ HO_403000.out) hb); replace HO_407000 := Aside0.mk (Kd.R_below (RQ HO_407000.out) hb); replace HO_418000 := Aside0.mk (Kd.R_below (RQ HO_418000.out) hb); replace HO443 := Aside0.mk (Kd.R_below (RQ HO443.out) hb); replace HO446 := Aside0.mk (Kd.R_below (RQ HO446.out) hb); replace BK386 := BB BK386.out hb; replace BK402 := BB BK402.out hb; replace BK406 := BB BK406.out hb; replace BK417 := BB BK417.out hb; replace HB := Aside0.mk (below_step (BL) hb); (try clear hb); (try clear hb2); (try clear hk); (try clear hi); (try clear ho0); obtain ⟨Ao152, co152, eo152⟩ := Kd.R_slice HO443.out; subst eo152; obtain ⟨Ao153, co153, eo153⟩ := Kd.R_slice HO446.out; subst eo153; obtain ⟨Ao154, co154, eo154⟩ := Kd.R_slice HO449.out; subst eo154) | ((with_reducible refine gate_callee (f := 45) rfl ?_); refine goesL_ (some 125) rfl rfl Try.func45 (by kernel_rfl) rfl #[.agg #[.slice Ao152 t441.length co152], .slice Ao153 t444.length co153, .int .i64 a2, .slice Ao154 t447.length co154] rfl (MA) ?_; (with_reducible refine (impl_CutActs.calls kj92 _ _ t441 _ _ t444 a2 _ _ t447 t450 t453 _ ?side1 ?side2 ?side3 ?side4 ?side5 ?side6 A137.out).mono ?_); (case side1 => repeat (first | exact (Kd.R_reads' HO443.out).2.2 | (with_reducible refine Kd.C_alloc ?_ _) | (with_reducible refine Kd.C_drewN ?_ _) | (with_reducible refine Kd.C_drew ?_))); (case side2 => exact (Kd.R_reads' HO443.out).2.1); (case side3 => repeat (first | exact (Kd.R_reads' HO446.out).2.2 | (with_reducible refine Kd.C_alloc ?_ _) | (with_reducible refine Kd.C_drewN ?_ _) | (with_reducible refine Kd.C_drew ?_))); (case side4 => exact (Kd.R_reads' HO446.out).2.1); (case side5 => repeat (first | exact (Kd.R_reads' HO449.out).2.2 | (with_reducible refine Kd.C_alloc ?_ _) | (with_reducible refine Kd.C_drewN ?_ _) | (with_reducible refine Kd.C_drew ?_))); (case side6 => exact (Kd.R_reads' HO449.out).2.1); rintro e w155 ⟨v451, rfl, ho0, hb⟩; refine ⟨_, rfl, ?_⟩; have HO452 := Aside0.mk (Kd.R_lower (Kd.R_new' (Kd.R_new' (Kd.R_new' (Kd.R_new' ho0 (Kd.R_lt (RQ HO_403000.out))) (Kd.R_lt (RQ HO_407000.out))) (Kd.R_lt (RQ HO_418000.out))) (Kd.R_lt (RQ HO443.out))) (below_size (BL))); replace HO_403000 := Aside0.mk (Kd.R_elder' (RQ HO_403000.out) (Kd.R_base ho0) hb); replace HO_407000 := Aside0.mk (Kd.R_elder' (RQ HO_407000.out) (Kd.R_base ho0) hb); replace HO_418000 := Aside0.mk (Kd.R_elder' (RQ HO_418000.out) (Kd.R_base ho0) hb); replace HO443 := Aside0.mk (Kd.R_elder' (RQ HO443.out) (Kd.R_base ho0) hb); replace HO446 := Aside0.mk (Kd.R_below (RQ HO446.out) hb); replace HO449 := Aside0.mk (Kd.R_below (RQ HO449.out) hb); replace BK386 := BB BK386.out hb; replace BK402 := BB BK402.out hb; replace BK406 := BB BK406.out hb; replace BK417 := BB BK417.out hb; replace HB := Aside0.mk (below_step (BL) hb); (try clear hb); (try clear hb2); (try clear hk); (try clear hi); (try clear ho0)) | ((with_reducible refine gate_dst (N := 20) rfl ?_); refine bE 20 #[.slice none 0 0] 29 ?_; intro gb454 hg w156 hbox hb; have BK454 := Aside0.mk (hbox); have GW454 : Aside0 (w.heap.size ≤ gb454) := GS; have GE454 := GW454; have NB386_454 := NL BK386.out hg; have NB454_386 := NG BK386.out hg; have NB402_454 := NL BK402.out hg; have NB454_402 := NG BK402.out hg; have NB406_454 := NL BK406.out hg; have NB454_406 := NG BK406.out hg; have NB417_454 := NL BK417.out hg; have NB454_417 := NG BK417.out hg; replace HO_403000 := Aside0.mk (Kd.R_below (RQ HO_403000.out) hb); replace HO_407000 := Aside0.mk (Kd.R_below (RQ HO_407000.out) hb); replace HO_418000 := Aside0.mk (Kd.R_below (RQ HO_418000.out) hb); replace HO443 := Aside0.mk (Kd.R_below (RQ HO443.out) hb); replace HO446 := Aside0.mk (Kd.R_below (RQ HO446.out) hb); replace HO449 := Aside0.mk (Kd.R_below (RQ HO449.out) hb); replace HO452 := Aside0.mk (Kd.R_below (RQ HO452.out) hb); replace BK386 := BB BK386.out hb; replace BK402 := BB BK402.out hb; replace BK406 := BB BK406.out hb; replace BK417 := BB BK417.out hb; replace HB := Aside0.mk (below_step (BL) hb); clear hb hbox hg; obtain ⟨Ao157, co157, eo157⟩ := Kd.R_slice HO452.out; subst eo157; have hnb158 := NB454_386.out; have hnc158 := NB386_454.out; have hnb159 := NB454_402.out; have hnc159 := NB402_454.out; have hnb160 := NB454_406.out; have hnc160 := NB406_454.out; have hnb161 := NB454_417.out; have hnc161 := NB417_454.out; have hcz162_0 : w156.cell? ⟨gb454, 0, none⟩ = some (.slice none 0 0) := CZ BK454.out 0; have hfz162_0 := blk_frozen BK454.out 0))
     (try simp only [Act.put, zA, zB, zC])
     go_cut [136] (fun v136 wc => ∃ (kq : Nat) (x136_137 : Bool), v136 = .bool x136_137 ∧ Aside0 (laws_FnExactCutActs.j2 kq t438 x136_137 t439 = some r) ∧ Aside0 (kq ≤ kj92) ∧ Aside0 (Kd.R k45 45 wc w.heap.size (fun k_ => some k_ ≠ ((.slice Ao46 t432.length co46) : Value).ownBlock ∧ some k_ ≠ ((.slice Ao57 t413.length co57) : Value).ownBlock ∧ some k_ ≠ ((.slice Ao157 t450.length co157) : Value).ownBlock) (.slice Ao40 t398.length co40) t398) ∧ Aside0 (Kd.R k45 45 wc w.heap.size (fun k_ => some k_ ≠ ((.slice Ao40 t398.length co40) : Value).ownBlock ∧ some k_ ≠ ((.slice Ao57 t413.length co57) : Value).ownBlock ∧ some k_ ≠ ((.slice Ao157 t450.length co157) : Value).ownBlock) (.slice Ao46 t432.length co46) t432) ∧ Aside0 (Kd.R k45 45 wc w.heap.size (fun k_ => some k_ ≠ ((.slice Ao40 t398.length co40) : Value).ownBlock ∧ some k_ ≠ ((.slice Ao46 t432.length co46) : Value).ownBlock ∧ some k_ ≠ ((.slice Ao157 t450.length co157) : Value).ownBlock) (.slice Ao57 t413.length co57) t439) ∧ Aside0 (Kd.R k45 45 wc w.heap.size (fun k_ => some k_ ≠ ((.slice Ao40 t398.length co40) : Value).ownBlock ∧ some k_ ≠ ((.slice Ao46 t432.length co46) : Value).ownBlock ∧ some k_ ≠ ((.slice Ao57 t413.length co57) : Value).ownBlock) (.slice Ao157 t450.length co157) t450) ∧ Aside0 (wc.heap[gb386]? = some (.cells #[(.slice A0_0 l0_0.length c0_0)] 24 (0, 0))) ∧ Aside0 (wc.heap[gb402]? = some (.cells #[(.slice Ao40 t398.length co40)] 29 (0, 0))) ∧ Aside0 (wc.heap[gb406]? = some (.cells #[(.slice Ao46 t432.length co46)] 29 (0, 0))) ∧ Aside0 (wc.heap[gb417]? = some (.cells #[(.slice Ao57 t413.length co57)] 29 (0, 0))) ∧ Aside0 (wc.heap[gb454]? = some (.cells #[(.slice Ao157 t450.length co157)] 29 (0, 0))) ∧ Aside0 (Below w.heap.size w wc))
     case first =>
      have H := HC138.out; clear HC138; replace H := Option.bind_eq_some_iff.mp H; obtain ⟨t455, A1630, H⟩ := H; have A163 := Aside0.mk A1630; clear A1630
      by_cases c164 : t455 = true
      ·
       subst c164
       have H1 : (laws_FnExactCutActs.j2 kj92 t438 (t453 != t401) t439) = some r := by rw [if_pos rfl] at H; exact H
       clear H; have H := H1; clear H1; have H' := Aside0.mk H; clear H; have hnb165 := NB454_386.out; have hnc165 := NB386_454.out; have hnb166 := NB454_402.out; have hnc166 := NB402_454.out; have hnb167 := NB454_406.out; have hnc167 := NB406_454.out; have hnb168 := NB454_417.out; have hnc168 := NB417_454.out; have hcz169_0 : w156.cell? ⟨gb454, 0, none⟩ = some (.slice none 0 0) := CZ BK454.out 0; have hfz169_0 := blk_frozen BK454.out 0; have hnb170 := NB402_386.out; have hnc170 := NB386_402.out; have hnb171 := NB402_406.out; have hnc171 := NB406_402.out; have hnb172 := NB402_417.out; have hnc172 := NB417_402.out; have hcz173_0 : w156.cell? ⟨gb402, 0, none⟩ = some (.slice Ao40 t398.length co40) := CZ BK402.out 0; have hfz173_0 := blk_frozen BK402.out 0
       go_wp2_with (first | ((with_reducible refine gate_callee (f := 16) rfl ?_); refine goesL_ (some 130) rfl rfl Try.func16 (by kernel_rfl) rfl #[.agg #[.slice Ao157 t450.length co157], .agg #[.slice Ao40 t398.length co40]] rfl (MA) ?_; (with_reducible refine (laws_eqDisk.calls kj92 _ _ t450 _ _ t398 true _ ?side1 ?side2 ?side3 ?side4 A163.out).mono ?_); (case side1 => refine (Kd.R_reads' (e := 45) (base := w.heap.size) (ok := fun k_ => ((((True ∧ some k_ ≠ (.slice Ao40 t398.length co40 : Value).ownBlock) ∧ some k_ ≠ (.slice Ao46 t432.length co46 : Value).ownBlock) ∧ some k_ ≠ (.slice Ao57 t413.length co57 : Value).ownBlock) ∧ some k_ ≠ (.slice Ao152 t441.length co152 : Value).ownBlock)) (n := t450.length) (c := co157) ?_).2.2; exact (RF HO452.out BK454.out)); (case side2 => exact (Kd.R_reads' HO452.out).2.1); (case side3 => refine (Kd.R_reads' (e := 45) (base := w.heap.size) (ok := fun k_ => (((some k_ ≠ (.slice Ao46 t432.length co46 : Value).ownBlock ∧ some k_ ≠ (.slice Ao57 t413.length co57 : Value).ownBlock) ∧ some k_ ≠ (.slice Ao152 t441.length co152 : Value).ownBlock) ∧ some k_ ≠ (.slice Ao157 t450.length co157 : Value).ownBlock)) (n := t398.length) (c := co40) ?_).2.2; exact (RF HO_403000.out BK454.out)); (case side4 => exact (Kd.R_reads' HO_403000.out).2.1); rintro e w174 ⟨rfl, hb⟩; refine ⟨_, rfl, ?_⟩; replace HO_403000 := Aside0.mk (Kd.R_below (RF HO_403000.out BK454.out) hb); replace HO_407000 := Aside0.mk (Kd.R_below (RF HO_407000.out BK454.out) hb); replace HO_418000 := Aside0.mk (Kd.R_below (RF HO_418000.out BK454.out) hb); replace HO443 := Aside0.mk (Kd.R_below (RF HO443.out BK454.out) hb); replace HO446 := Aside0.mk (Kd.R_below (RF HO446.out BK454.out) hb); replace HO449 := Aside0.mk (Kd.R_below (RF HO449.out BK454.out) hb); replace HO452 := Aside0.mk (Kd.R_below (RF HO452.out BK454.out) hb); replace BK386 := BX BK386.out hb; replace BK402 := BX BK402.out hb; replace BK406 := BX BK406.out hb; replace BK417 := BX BK417.out hb; replace BK454 := Aside0.mk (blk_below (g := gb454) (o := .cells #[.slice Ao157 t450.length co157] 29 (0, 0)) (BU BK454.out) hb); replace HB := Aside0.mk (below_step (BL) hb); (try clear hb); (try clear hb2); (try clear hk); (try clear hi)))
       go_meet
       case rel => exact ⟨_, ((t453 != t401)), SD, H', ⟨by have := HJ25.out; have := HJ92.out; first | omega | exact Nat.le_refl _⟩, ⟨by (try simp only [hl407000_92]); (with_reducible repeat (first | apply r1 | apply r2 | apply r3)); exact Kd.R_mono HO_403000.out (fun _ hk => ⟨hk.1.1.1, ⟨hk.1.1.2, hk.2⟩⟩)⟩, ⟨by (try simp only [hl407000_92]); (with_reducible repeat (first | apply r1 | apply r2 | apply r3)); exact Kd.R_mono HO_407000.out (fun _ hk => ⟨hk.1.1.1, ⟨hk.1.1.2, hk.2⟩⟩)⟩, ⟨by (try simp only [hl407000_92]); (with_reducible repeat (first | apply r1 | apply r2 | apply r3)); exact Kd.R_mono HO_418000.out (fun _ hk => ⟨hk.1.1.1, ⟨hk.1.1.2, hk.2⟩⟩)⟩, ⟨by (try simp only [hl407000_92]); (with_reducible repeat (first | apply r1 | apply r2 | apply r3)); exact Kd.R_mono HO452.out (fun _ hk => ⟨hk.1.1.1.2, ⟨hk.1.1.2, hk.1.2⟩⟩)⟩, ⟨by (try simp only [hl407000_92]); (with_reducible repeat (first | apply b1 | apply b2 | apply b3)); exact BK386.out⟩, ⟨by (try simp only [hl407000_92]); (with_reducible repeat (first | apply b1 | apply b2 | apply b3)); exact BK402.out⟩, ⟨by (try simp only [hl407000_92]); (with_reducible repeat (first | apply b1 | apply b2 | apply b3)); exact BK406.out⟩, ⟨by (try simp only [hl407000_92]); (with_reducible repeat (first | apply b1 | apply b2 | apply b3)); exact BK417.out⟩, ⟨by (try simp only [hl407000_92]); (with_reducible repeat (first | apply b1 | apply b2 | apply b3)); exact BK454.out⟩, ⟨BL⟩⟩
      replace c164 := Bool.eq_false_iff.mpr c164; subst c164
      have H1 : (laws_FnExactCutActs.j2 kj92 t438 true t439) = some r := by rw [if_neg (show ¬ (false = true) by decide)] at H; exact H
      clear H; have H := H1; clear H1; have H' := Aside0.mk H; clear H; have hnb175 := NB454_386.out; have hnc175 := NB386_454.out; have hnb176 := NB454_402.out; have hnc176 := NB402_454.out; have hnb177 := NB454_406.out; have hnc177 := NB406_454.out; have hnb178 := NB454_417.out; have hnc178 := NB417_454.out; have hcz179_0 : w156.cell? ⟨gb454, 0, none⟩ = some (.slice none 0 0) := CZ BK454.out 0; have hfz179_0 := blk_frozen BK454.out 0; have hnb180 := NB402_386.out; have hnc180 := NB386_402.out; have hnb181 := NB402_406.out; have hnc181 := NB406_402.out; have hnb182 := NB402_417.out; have hnc182 := NB417_402.out; have hcz183_0 : w156.cell? ⟨gb402, 0, none⟩ = some (.slice Ao40 t398.length co40) := CZ BK402.out 0; have hfz183_0 := blk_frozen BK402.out 0
      go_wp2_with (first | ((with_reducible refine gate_callee (f := 16) rfl ?_); refine goesL_ (some 130) rfl rfl Try.func16 (by kernel_rfl) rfl #[.agg #[.slice Ao157 t450.length co157], .agg #[.slice Ao40 t398.length co40]] rfl (MA) ?_; (with_reducible refine (laws_eqDisk.calls kj92 _ _ t450 _ _ t398 false _ ?side1 ?side2 ?side3 ?side4 A163.out).mono ?_); (case side1 => refine (Kd.R_reads' (e := 45) (base := w.heap.size) (ok := fun k_ => ((((True ∧ some k_ ≠ (.slice Ao40 t398.length co40 : Value).ownBlock) ∧ some k_ ≠ (.slice Ao46 t432.length co46 : Value).ownBlock) ∧ some k_ ≠ (.slice Ao57 t413.length co57 : Value).ownBlock) ∧ some k_ ≠ (.slice Ao152 t441.length co152 : Value).ownBlock)) (n := t450.length) (c := co157) ?_).2.2; exact (RF HO452.out BK454.out)); (case side2 => exact (Kd.R_reads' HO452.out).2.1); (case side3 => refine (Kd.R_reads' (e := 45) (base := w.heap.size) (ok := fun k_ => (((some k_ ≠ (.slice Ao46 t432.length co46 : Value).ownBlock ∧ some k_ ≠ (.slice Ao57 t413.length co57 : Value).ownBlock) ∧ some k_ ≠ (.slice Ao152 t441.length co152 : Value).ownBlock) ∧ some k_ ≠ (.slice Ao157 t450.length co157 : Value).ownBlock)) (n := t398.length) (c := co40) ?_).2.2; exact (RF HO_403000.out BK454.out)); (case side4 => exact (Kd.R_reads' HO_403000.out).2.1); rintro e w184 ⟨rfl, hb⟩; refine ⟨_, rfl, ?_⟩; replace HO_403000 := Aside0.mk (Kd.R_below (RF HO_403000.out BK454.out) hb); replace HO_407000 := Aside0.mk (Kd.R_below (RF HO_407000.out BK454.out) hb); replace HO_418000 := Aside0.mk (Kd.R_below (RF HO_418000.out BK454.out) hb); replace HO443 := Aside0.mk (Kd.R_below (RF HO443.out BK454.out) hb); replace HO446 := Aside0.mk (Kd.R_below (RF HO446.out BK454.out) hb); replace HO449 := Aside0.mk (Kd.R_below (RF HO449.out BK454.out) hb); replace HO452 := Aside0.mk (Kd.R_below (RF HO452.out BK454.out) hb); replace BK386 := BX BK386.out hb; replace BK402 := BX BK402.out hb; replace BK406 := BX BK406.out hb; replace BK417 := BX BK417.out hb; replace BK454 := Aside0.mk (blk_below (g := gb454) (o := .cells #[.slice Ao157 t450.length co157] 29 (0, 0)) (BU BK454.out) hb); replace HB := Aside0.mk (below_step (BL) hb); (try clear hb); (try clear hb2); (try clear hk); (try clear hi)))
      go_meet
      case rel => exact ⟨_, (true), SD, H', ⟨by have := HJ25.out; have := HJ92.out; first | omega | exact Nat.le_refl _⟩, ⟨by (try simp only [hl407000_92]); (with_reducible repeat (first | apply r1 | apply r2 | apply r3)); exact Kd.R_mono HO_403000.out (fun _ hk => ⟨hk.1.1.1, ⟨hk.1.1.2, hk.2⟩⟩)⟩, ⟨by (try simp only [hl407000_92]); (with_reducible repeat (first | apply r1 | apply r2 | apply r3)); exact Kd.R_mono HO_407000.out (fun _ hk => ⟨hk.1.1.1, ⟨hk.1.1.2, hk.2⟩⟩)⟩, ⟨by (try simp only [hl407000_92]); (with_reducible repeat (first | apply r1 | apply r2 | apply r3)); exact Kd.R_mono HO_418000.out (fun _ hk => ⟨hk.1.1.1, ⟨hk.1.1.2, hk.2⟩⟩)⟩, ⟨by (try simp only [hl407000_92]); (with_reducible repeat (first | apply r1 | apply r2 | apply r3)); exact Kd.R_mono HO452.out (fun _ hk => ⟨hk.1.1.1.2, ⟨hk.1.1.2, hk.1.2⟩⟩)⟩, ⟨by (try simp only [hl407000_92]); (with_reducible repeat (first | apply b1 | apply b2 | apply b3)); exact BK386.out⟩, ⟨by (try simp only [hl407000_92]); (with_reducible repeat (first | apply b1 | apply b2 | apply b3)); exact BK402.out⟩, ⟨by (try simp only [hl407000_92]); (with_reducible repeat (first | apply b1 | apply b2 | apply b3)); exact BK406.out⟩, ⟨by (try simp only [hl407000_92]); (with_reducible repeat (first | apply b1 | apply b2 | apply b3)); exact BK417.out⟩, ⟨by (try simp only [hl407000_92]); (with_reducible repeat (first | apply b1 | apply b2 | apply b3)); exact BK454.out⟩, ⟨BL⟩⟩
     case rest =>
      clear HC138
      try clear c1 c2 p2 c3 c4 c5 c5b0 c5b1 c6 c7 c8 c8b0 c10 c11 c12 c13 c13b0 c14 c15 c16 c17 c18 c29 c30 c31 c32 c33 c38 c40 c41 c42 c43 c45 c46 c47 c48 c58 c59 c60 c63 c64 c65 c66 c68 c69 c72 c73 c74 c76 c77 c80 c83 c86 c89 c103 c104 c105 c110 c110b0 c112 c113 c114 c115 c117 c118 c121 c122 c123 c125 c126 c129 c132 c132b0 c133 c133b0 c133b1 c139 c140 c141 c146 c147 c158 c159 c160 c161 c164 c165 c166 c167 c168 c170 c171 c172 c175 c176 c177 c178 c180 c181 c182 hcz106_0 hcz10_0 hcz116_0 hcz119_0 hcz124_0 hcz127_0 hcz142_0 hcz144_0 hcz148_0 hcz15_0 hcz162_0 hcz169_0 hcz173_0 hcz179_0 hcz183_0 hcz28_0 hcz31_0 hcz42_0 hcz43_0 hcz49_0 hcz52_0 hcz61_0 hcz67_0 hcz70_0 hcz75_0 hcz78_0 hfz106_0 hfz10_0 hfz116_0 hfz119_0 hfz124_0 hfz127_0 hfz142_0 hfz144_0 hfz148_0 hfz15_0 hfz162_0 hfz169_0 hfz173_0 hfz179_0 hfz183_0 hfz28_0 hfz31_0 hfz42_0 hfz43_0 hfz49_0 hfz52_0 hfz61_0 hfz67_0 hfz70_0 hfz75_0 hfz78_0 p2
      obtain ⟨kq, x136_137, rfl, HA, HJ137, HO_403000, HO_407000, HO_418000, HO_455000, BK386, BK402, BK406, BK417, BK454, HB⟩ := hcut; have hl418000_137 := (Kd.R_reads' HO_418000.out).1; rw [hl418000_137] at HO_418000
      (try simp only [hl418000_137])
      (try simp only [hl418000_137] at BK386)
      (try simp only [hl418000_137] at BK402)
      (try simp only [hl418000_137] at BK406)
      (try simp only [hl418000_137] at BK417)
      (try simp only [hl418000_137] at BK454)
      (try simp only [hl418000_137] at HO_403000)
      (try simp only [hl418000_137] at HO_407000)
      (try simp only [hl418000_137] at HO_455000)
      cases kq with
      | zero => exact absurd HA.out (by simp [laws_FnExactCutActs.j2])
      | succ kj137 =>
       have H := HA.out; clear HA; simp only [laws_FnExactCutActs.j2] at H
       by_cases c185 : x136_137 = true
       ·
        subst c185
        have H1 : (none) = some r := by rw [if_pos rfl] at H; exact H
        clear H; have H := H1; clear H1; exact absurd H (by simp)
       replace c185 := Bool.eq_false_iff.mpr c185; subst c185
       have H1 : ((laws_heldDisk.f kj137 t439 1).bind fun t456 => (if t456 < 0 then (none) else (if t456 = t438 then (some true) else (none)))) = some r := by rw [if_neg (show ¬ (false = true) by decide)] at H; exact H
       clear H; have H := H1; clear H1; replace H := Option.bind_eq_some_iff.mp H; obtain ⟨t456, A1860, H⟩ := H; have A186 := Aside0.mk A1860; clear A1860
       by_cases c187 : t456 < 0
       ·
        rw [if_pos c187] at H; exact absurd H (by simp)
       rw [if_neg c187] at H; have c187b0 : decide (t456 < 0) = false := decide_eq_false c187; clear c187
       by_cases c188 : t456 = t438; rotate_left
       ·
        rw [if_neg c188] at H; exact absurd H (by simp)
       rw [if_pos c188] at H; have c188b0 : (t456 == t438) = true := beq_iff_eq.mpr c188; have c188b1 : (t456 != t438) = false := bne_eq_false_iff_eq.mpr c188; clear c188; obtain rfl := Option.some.inj H; have hnb189 := NB417_386.out; have hnc189 := NB386_417.out; have hnb190 := NB417_402.out; have hnc190 := NB402_417.out; have hnb191 := NB417_406.out; have hnc191 := NB406_417.out; have hnb192 := NB417_454.out; have hnc192 := NB454_417.out; have hcz193_0 : wc.cell? ⟨gb417, 0, none⟩ = some (.slice Ao57 t439.length co57) := CZ BK417.out 0; have hfz193_0 := blk_frozen BK417.out 0
       go_wp2_with (first | ((with_reducible refine gate_callee (f := 33) rfl ?_); refine goesL_ (some 139) rfl rfl Try.func33 (by kernel_rfl) rfl #[.agg #[.slice Ao57 t439.length co57], .int .i64 1] rfl (MA) ?_; (with_reducible refine (laws_heldDisk.calls kj137 _ _ t439 1 t456 _ ?side1 ?side2 A186.out).mono ?_); (case side1 => repeat (first | exact (Kd.R_reads' HO_418000.out).2.2 | (with_reducible refine Kd.C_alloc ?_ _) | (with_reducible refine Kd.C_drewN ?_ _) | (with_reducible refine Kd.C_drew ?_))); (case side2 => exact (Kd.R_reads' HO_418000.out).2.1); rintro e w194 ⟨rfl, hb⟩; refine ⟨_, rfl, ?_⟩; replace HO_403000 := Aside0.mk (Kd.R_below (RQ HO_403000.out) hb); replace HO_407000 := Aside0.mk (Kd.R_below (RQ HO_407000.out) hb); replace HO_418000 := Aside0.mk (Kd.R_below (RQ HO_418000.out) hb); replace HO_455000 := Aside0.mk (Kd.R_below (RQ HO_455000.out) hb); replace BK386 := BB BK386.out hb; replace BK402 := BB BK402.out hb; replace BK406 := BB BK406.out hb; replace BK417 := BB BK417.out hb; replace BK454 := BB BK454.out hb; replace HB := Aside0.mk (below_step (BL) hb); (try clear hb); (try clear hb2); (try clear hk); (try clear hi)))
       go_ret
       exact ⟨EE, BL⟩

/-- THE PURE STATEMENT of laws_FnExactCutActs. -/
def laws_FnExactCutActs.Pure : Prop := ∀ (l0_0 : List (S94)) (l1 : List (S52)) (a2 : Int) (l3 : List Int), ((∀ x_ ∈ l0_0, (x_.f0.size ≤ maxLen ∧ x_.f1.size ≤ maxLen ∧ (Lit.int .i64 x_.f2).wf = true)) ∧ l0_0.length ≤ maxLen) → ((∀ x_ ∈ l1, ((Lit.int .i64 x_.f0).wf = true ∧ x_.f1.size ≤ maxLen ∧ x_.f2.size ≤ maxLen ∧ x_.f3.size ≤ maxLen)) ∧ l1.length ≤ maxLen) → (Lit.int .i64 a2).wf = true → ((∀ x_ ∈ l3, (Lit.int .i64 x_).wf = true) ∧ l3.length ≤ maxLen) → ∃ k, laws_FnExactCutActs.f k l0_0 l1 a2 l3 = some true

end Go.Proofs.Ythfppepnpngfmaa.Qcu
