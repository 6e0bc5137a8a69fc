-- Laid by myprint.py, a program of this session's own, over the kit's print. Not trusted: Lean checks it.
import Derived.Test.YthfppepnpngfmaaQcux0
import Derived.Test.YthfppepnpngfmaaQcux3
import Derived.Test.YthfppepnpngfmaaQcux4
import Derived.Test.YthfppepnpngfmaaQcux5
namespace Go.Proofs.Ythfppepnpngfmaa.Qcu
open Go.RowKit Go.Proofs.YthfppepnpngfmaaW.PrintWords Go.Proofs.YthfppepnpngfmaaW.PrintLast Go.Proofs.YthfppepnpngfmaaW.PrintMore
attribute [local go_sem] Go.Proofs.Ythfppepnpngfmaa.StrCmp.gtr_less Go.Proofs.Ythfppepnpngfmaa.StrCmp.geq_less Go.Proofs.Ythfppepnpngfmaa.StrCmp.leq_less max2_int min2_int max_two min_two max_three min_three max_four min_four   -- for this text's walks alone
set_option linter.unusedVariables false
set_option linter.unusedSimpArgs false

/-! ### impl_CutActs: function 45 -/
def impl_CutActs.f (k : Nat) (l0_0 : List (S45)) (l1 : List (S55)) (a2 : Int) (l3 : List Int) : Option ((List (S45)) × Bool) := (impl_within.f a2 0 (l1.length : Int)).bind fun t259 => (if t259 = true then (if 0 ≤ a2 then (if a2 ≤ (l1.length : Int) then ((impl_DoActs.f k l0_0 (l1.take (a2 : Int).toNat)).bind fun bt264 => (if bt264.2 < a2 then (some (([] : List (S45)), false)) else ((impl_LoseDisk.f k bt264.1 l3).bind fun bt269 => (some (bt269.1, bt269.2))))) else (none)) else (none)) else (some (([] : List (S45)), false)))
theorem impl_CutActs.mono : ∀ a0 a1 a2 a3 k, LeO (impl_CutActs.f k a0 a1 a2 a3) (impl_CutActs.f (k + 1) a0 a1 a2 a3) := by
 intro a0 a1 a2 a3 k
 unfold impl_CutActs.f
 repeat' first
   | (with_reducible exact impl_DoActs.mono _ _ _)
   | (with_reducible exact impl_LoseDisk.mono _ _ _)
   | (with_reducible exact LeO.refl _)
   | (with_reducible exact LeO.none _)
   | (with_reducible refine LeO.ite ?_ ?_)
   | (with_reducible refine LeO.bind ?_ (fun _ => ?_))
   | exact impl_DoActs.mono _ _ _
   | exact impl_LoseDisk.mono _ _ _
   | exact LeO.none _
   | refine LeO.ite ?_ ?_
   | refine LeO.bind ?_ (fun _ => ?_)
def impl_CutActs.T3 : Bool × List (List Nat × List Nat) := (true, [([], []), ([], []), ([], []), ([1, 2], [1, 2]), ([0, 3], [0, 3]), ([4], [4]), ([5], [5]), ([5], [5]), ([], []), ([8, 6, 4, 0, 1, 2, 3, 4, 5, 6, 8], [6, 8]), ([7, 9, 0, 1, 2, 3, 4, 5, 6, 7, 8, 9], [7])])
def impl_CutActs.B3 : List Nat := [0, 0, 0, 6, 15, 31, 63, 63, 0, 383, 1023]
theorem impl_CutActs.tab3 : rtab .any (opsOf Try.f45 3) = impl_CutActs.T3 := by kernel_rfl
theorem impl_CutActs.bits3 : waitsOk impl_CutActs.T3.2 impl_CutActs.B3 = true := by kernel_rfl
set_option maxHeartbeats 8000000 in
set_option maxRecDepth 100000 in
theorem impl_CutActs.calls (k : Nat) (A0_0 : Option Addr) (c0_0 : Nat) (l0_0 : List (S45)) (A1 : Option Addr) (c1 : Nat) (l1 : List (S55)) (a2 : Int) (A3 : Option Addr) (c3 : Nat) (l3 : List Int) (r1 : List (S45)) (r2 : Bool) (w : World) (hr0_0 : Kd.C k45 w A0_0 l0_0.length l0_0) (hc0_0 : l0_0.length ≤ c0_0) (hr1 : Kd.C k55 w A1 l1.length l1) (hc1 : l1.length ≤ c1) (hr3 : Kd.C (Kd.int .i64) w A3 l3.length l3) (hc3 : l3.length ≤ c3) (h : impl_CutActs.f k l0_0 l1 a2 l3 = some (r1, r2)) :
  Calls Try.prog 45 #[.agg #[.slice A0_0 l0_0.length c0_0], .slice A1 l1.length c1, .int .i64 a2, .slice A3 l3.length c3] w fun e w' => ∃ v0_ : Value, e = .returned (.tuple #[.agg #[v0_], .bool r2]) ∧ Kd.R k45 45 w' w.heap.size (fun _ => True) v0_ r1 ∧ Below w.heap.size w w' := by
 have hu29 := Try.underlying29
 have HR0_0 := Aside0.mk hr0_0
 have HC0_0 := Aside0.mk hc0_0
 clear hr0_0 hc0_0
 have HR1 := Aside0.mk hr1
 have HC1 := Aside0.mk hc1
 clear hr1 hc1
 have HR3 := Aside0.mk hr3
 have HC3 := Aside0.mk hc3
 clear hr3 hc3
 have HB := Aside0.mk (Below.refl w.heap.size w)
 have H : ((impl_within.f a2 0 (l1.length : Int)).bind fun t259 => (if t259 = true then (if 0 ≤ a2 then (if a2 ≤ (l1.length : Int) then ((impl_DoActs.f k l0_0 (l1.take (a2 : Int).toNat)).bind fun bt264 => (if bt264.2 < a2 then (some (([] : List (S45)), false)) else ((impl_LoseDisk.f k bt264.1 l3).bind fun bt269 => (some (bt269.1, bt269.2))))) else (none)) else (none)) else (some (([] : List (S45)), false)))) = some (r1, r2) := h
 clear h
 replace H := Option.bind_eq_some_iff.mp H
 obtain ⟨t259, A50, H⟩ := H
 have A5 := Aside0.mk A50
 clear A50
 by_cases c6 : t259 = true; rotate_left
 ·
  replace c6 := Bool.eq_false_iff.mpr c6; subst c6
  have H1 : (some (([] : List (S45)), false)) = some (r1, r2) := by rw [if_neg (show ¬ (false = true) by decide)] at H; exact H
  clear H; have H := H1; clear H1; simp only [Option.some.injEq, Prod.mk.injEq] at H; obtain ⟨rfl, rfl⟩ := H
  go_enter Try.func45, Try.ntmps45
  go_wp2_with (first | ((with_reducible refine gate_dst (N := 4) rfl ?_); refine bE 4 #[.slice A0_0 l0_0.length c0_0] 29 ?_; intro gb257 hg w40 hbox hb; have BK257 := Aside0.mk (hbox); have GW257 : Aside0 (w.heap.size ≤ gb257) := GS; have GE257 := GW257; replace HB := Aside0.mk (below_step (BL) hb); clear hb hbox hg) | ((with_reducible refine gate_dst (N := 8) rfl ?_); refine bE 8 #[.slice none 0 0] 29 ?_; intro gb258 hg w41 hbox hb; have BK258 := Aside0.mk (hbox); have GW258 : Aside0 (w.heap.size ≤ gb258) := GS; have GE258 := GW258; have NB257_258 := NL BK257.out hg; have NB258_257 := NG BK257.out hg; replace BK257 := BB BK257.out hb; replace HB := Aside0.mk (below_step (BL) hb); clear hb hbox hg) | ((with_reducible refine gate_callee (f := 51) rfl ?_); refine goesL_ (some 15) rfl rfl Try.func51 (by kernel_rfl) rfl #[.int .i64 a2, .int .i64 0, .int .i64 (l1.length : Int)] rfl (MA) ?_; (with_reducible refine (impl_within.calls a2 0 (l1.length : Int) false _ A5.out).mono ?_); rintro e w' ⟨rfl, ⟨nd, rfl⟩⟩; refine ⟨_, rfl, ?_⟩; (try (rw [drewN_self w41]; generalize hq_ : World.drewN w41 _ = w41; have n0_ : Aside0 (w41.heap[gb257]? = some (.cells #[.slice A0_0 l0_0.length c0_0] 29 (0, 0))) := ⟨by rw [← hq_]; exact (BQ BK257.out)⟩; have n1_ : Aside0 (w41.heap[gb258]? = some (.cells #[.slice none 0 0] 29 (0, 0))) := ⟨by rw [← hq_]; exact (BQ BK258.out)⟩; have n2_ : Aside0 (Below w.heap.size w w41) := ⟨by rw [← hq_]; exact (BL)⟩; clear BK257 BK258 HB hq_; have BK257 := n0_; have BK258 := n1_; have HB := n2_; clear n0_ n1_ n2_)); have hnb42 := NB258_257.out; have hnc42 := NB257_258.out; have hcz43_0 : w41.cell? ⟨gb258, 0, none⟩ = some (.slice none 0 0) := CZ BK258.out 0; have hfz43_0 := blk_frozen BK258.out 0))
  refine bodyPost_ret (results_ct rfl _ _ gb258 29 #[.slice none 0 0] (0, 0) _ rfl (BU BK258.out) Try.underlying29 rfl (by kernel_rfl)) rfl ?_; exact ⟨_, EE, by first | exact Kd.R_nil _ _ _ _ _ | exact Kd.N_nil _ _ _ _ _ | exact Kd.V_nil _ _ _ _ _ | exact Kd.Q_nil _ _ _ _ _ | exact Kd.S_nil _ _ _ _ _, BL⟩
 subst c6
 have H1 : (if 0 ≤ a2 then (if a2 ≤ (l1.length : Int) then ((impl_DoActs.f k l0_0 (l1.take (a2 : Int).toNat)).bind fun bt264 => (if bt264.2 < a2 then (some (([] : List (S45)), false)) else ((impl_LoseDisk.f k bt264.1 l3).bind fun bt269 => (some (bt269.1, bt269.2))))) else (none)) else (none)) = some (r1, r2) := by rw [if_pos rfl] at H; exact H
 clear H
 have H := H1
 clear H1
 by_cases c7 : 0 ≤ a2; rotate_left
 ·
  rw [if_neg c7] at H; exact absurd H (by simp)
 rw [if_pos c7] at H
 have c7b0 := eq_true c7
 have c7b1 : decide (0 ≤ a2) = true := decide_eq_true c7
 clear c7
 by_cases c8 : a2 ≤ (l1.length : Int); rotate_left
 ·
  rw [if_neg c8] at H; exact absurd H (by simp)
 rw [if_pos c8] at H
 have c8b0 := eq_true c8
 have c8b1 : decide (a2 ≤ (l1.length : Int)) = true := decide_eq_true c8
 clear c8
 obtain ⟨y260, hy260⟩ : ∃ y_ : List (S55), y_ = (l1.take (a2 : Int).toNat) := ⟨_, rfl⟩
 replace H : ((impl_DoActs.f k l0_0 y260).bind fun bt264 => (if bt264.2 < a2 then (some (([] : List (S45)), false)) else ((impl_LoseDisk.f k bt264.1 l3).bind fun bt269 => (some (bt269.1, bt269.2))))) = some (r1, r2) := by first | (rw [hy260]; with_reducible exact H) | (have H2_ := (Option.bind_some _ _).symm.trans H; rw [hy260]; with_reducible exact H2_) | (have H2_ := (Option.bind_some _ _).symm.trans H; with_reducible exact H2_) | with_reducible exact H | (rw [hy260]; exact H) | exact H
 have Ny260 := Aside0.mk hy260
 clear hy260
 replace H := Option.bind_eq_some_iff.mp H
 obtain ⟨⟨t264, t267⟩, A90, H⟩ := H
 replace H : (if t267 < a2 then (some (([] : List (S45)), false)) else ((impl_LoseDisk.f k t264 l3).bind fun bt269 => (some (bt269.1, bt269.2)))) = some (r1, r2) := H
 have A9 := Aside0.mk A90
 clear A90
 by_cases c10 : t267 < a2
 ·
  rw [if_pos c10] at H; have c10b0 : decide (t267 < a2) = true := decide_eq_true c10; clear c10; simp only [Option.some.injEq, Prod.mk.injEq] at H; obtain ⟨rfl, rfl⟩ := H
  go_enter Try.func45, Try.ntmps45
  try go_wp2_with (first | ((with_reducible refine gate_dst (N := 4) rfl ?_); refine bE 4 #[.slice A0_0 l0_0.length c0_0] 29 ?_; intro gb257 hg w11 hbox hb; have BK257 := Aside0.mk (hbox); have GW257 : Aside0 (w.heap.size ≤ gb257) := GS; have GE257 := GW257; replace HB := Aside0.mk (below_step (BL) hb); clear hb hbox hg) | ((with_reducible refine gate_dst (N := 8) rfl ?_); refine bE 8 #[.slice none 0 0] 29 ?_; intro gb258 hg w12 hbox hb; have BK258 := Aside0.mk (hbox); have GW258 : Aside0 (w.heap.size ≤ gb258) := GS; have GE258 := GW258; have NB257_258 := NL BK257.out hg; have NB258_257 := NG BK257.out hg; replace BK257 := BB BK257.out hb; replace HB := Aside0.mk (below_step (BL) hb); clear hb hbox hg) | ((with_reducible refine gate_callee (f := 51) rfl ?_); refine goesL_ (some 15) rfl rfl Try.func51 (by kernel_rfl) rfl #[.int .i64 a2, .int .i64 0, .int .i64 (l1.length : Int)] rfl (MA) ?_; (with_reducible refine (impl_within.calls a2 0 (l1.length : Int) true _ A5.out).mono ?_); rintro e w' ⟨rfl, ⟨nd, rfl⟩⟩; refine ⟨_, rfl, ?_⟩; (try (rw [drewN_self w12]; generalize hq_ : World.drewN w12 _ = w12; have n0_ : Aside0 (w12.heap[gb257]? = some (.cells #[.slice A0_0 l0_0.length c0_0] 29 (0, 0))) := ⟨by rw [← hq_]; exact (BQ BK257.out)⟩; have n1_ : Aside0 (w12.heap[gb258]? = some (.cells #[.slice none 0 0] 29 (0, 0))) := ⟨by rw [← hq_]; exact (BQ BK258.out)⟩; have n2_ : Aside0 (Below w.heap.size w w12) := ⟨by rw [← hq_]; exact (BL)⟩; clear BK257 BK258 HB hq_; have BK257 := n0_; have BK258 := n1_; have HB := n2_; clear n0_ n1_ n2_))))
  have n0_ := Aside0.mk (blk_drew BK257.out); have n1_ := Aside0.mk (blk_drew BK258.out); have n2_ := Aside0.mk (below_drew1 HB.out); clear BK257; clear BK258; clear HB; have BK257 := n0_; have BK258 := n1_; have HB := n2_; clear n0_ n1_ n2_; have q14 : (a2 : Int) ≤ ((l1.length : Int) : Int) := of_decide_eq_true AS; obtain ⟨i014, hi014, _, hsz14, _⟩ := info_parts info55; have hroom14 : l1.length ≤ c1 := HC1.out; have hC14 : Kd.C k55 _ A1 l1.length l1 := HR1.out; have hcut14 := cut_to (P := Try.prog) 62 55 .i64 Try.underlying62 hi014 A1 l1.length c1 a2 (of_decide_eq_true AS) q14 hroom14; have hr14 := Kd.C_take (m := (a2 : Int).toNat) hC14 (by omega); have hy14 : y260.length = (a2 : Int).toNat := (by rw [Ny260.out, List.length_take]; omega); rw [← Ny260.out] at hr14; rw [← hy14] at hcut14; have HR263 := Aside0.mk hr14; have HC263 := Aside0.mk (show y260.length ≤ c1 from by omega); clear hr14 hC14 hroom14 hi014 hsz14; have KY14 := Aside0.mk hy14; clear hy14; replace q14 := eq_true q14; refine start_ (n := 11) (S := fun w' => w'.cell? ⟨gb257, 0, none⟩ = some (.slice A0_0 l0_0.length c0_0)) (ds := []) #[false, false, false, false, false, false, false, false, false, false, false] (by kernel_rfl) rfl rfl (CZ BK257.out 0) (fun hHeld => ?_); refine with_tabW impl_CutActs.tab3 impl_CutActs.bits3 (fun HT_ HW_ => ?_); generalize w12.drew = w13 at BK257 BK258 HB HR263 hHeld ⊢; refine pV 1 20 (OB 11 2) ?_; refine pV 2 21 (OB 11 6) ?_; refine pV 3 22 (OB 11 14) ?_; refine take_ (i := 0) (N := some 19) (v := ?_) (a' := ?_) (OB 11 15) rfl rfl (take_ofW HT_.out HW_.out (by kernel_rfl)) (fun _ _ _ h => h) (Or.inl ⟨by rfl, ?_⟩) hHeld ?_ ?_; rotate_left
  ·
   intro w' s0
   go_simp
   with_reducible rfl
  rotate_left
  ·
   simp only [Act.put, zA, zB, zC, i64_w, i32_w]; rfl
  refine join_ (σ := Value × Nat) 2 #[true, true, true, true, true, true, true, true, true, false, false] (fun s_ => [(23, .tuple #[.agg #[s_.1], .int .i64 t267]), (10, .pointer (some ⟨s_.2, 0, none⟩)), (18, .tuple #[.agg #[s_.1], .int .i64 t267]), (24, .agg #[s_.1]), (25, .int .i64 t267)]) (fun s_ w' => (w'.cell? ⟨gb257, 0, none⟩ = some (.slice A0_0 l0_0.length c0_0)) ∧ (Kd.R k45 45 w' w.heap.size (fun _ => True) s_.1 t264) ∧ (w'.heap[gb257]? = some (.cells #[.slice A0_0 l0_0.length c0_0] 29 (0, 0))) ∧ (w'.heap[gb258]? = some (.cells #[.slice none 0 0] 29 (0, 0))) ∧ (w'.heap[s_.2]? = some (.cells #[.slice none 0 0] 29 (0, 0))) ∧ (w.heap.size ≤ s_.2) ∧ (w.heap.size ≤ s_.2) ∧ (gb257 ≠ s_.2) ∧ (s_.2 ≠ gb257) ∧ (gb258 ≠ s_.2) ∧ (s_.2 ≠ gb258) ∧ (Below w.heap.size w w')) ?_ ?_; rotate_left
  ·
   intro hCont; refine two_ (i := 4) (j := 8) (Ni := some 23) (Nj := some 10) #[true, true, true, true, true, false, false, false, false, false, false] #[true, true, true, true, false, false, false, false, true, false, false] rfl rfl rfl rfl (two_of HT_.out (by kernel_rfl)) (by decide) (by decide) (fun K hK => ?_) (fun K hK => ?_)
   ·
    skip
    refine goes_ Try.func41 (by kernel_rfl) rfl #[.agg #[.slice A0_0 l0_0.length c0_0], .slice A1 y260.length c1] (by rfl) rfl rfl (MA) ?_
    with_reducible refine (impl_DoActs.calls k _ _ l0_0 _ _ y260 t264 t267 _ ?side1 ?side2 ?side3 ?side4 A9.out).mono ?_
    (case side1 => exact CB HR0_0.out)
    (case side2 => exact HC0_0.out)
    (case side3 => exact CB HR263.out)
    (case side4 => exact HC263.out)
    rintro e w15 ⟨v265, rfl, ho0, hb⟩; refine ⟨_, rfl, ?_⟩; have n0_ := Aside0.mk (Kd.R_lower ho0 (below_size (BL))); have n1_ := BB BK257.out hb; have n2_ := BB BK258.out hb; have n3_ := Aside0.mk (below_step (BL) hb); clear BK257; clear BK258; clear HB; have HO266 := n0_; have BK257 := n1_; have BK258 := n2_; have HB := n3_; clear n0_ n1_ n2_ n3_
    (try clear hb)
    (try clear hb2)
    (try clear hk)
    (try clear hi)
    (try clear ho0)
    refine hK.out _ _ (CZ BK257.out 0) (fun hHeld => ?_); clear hK K; refine norm_ (a' := ?_) ?_ ?_; rotate_left
    ·
     show Act.put _ (some 23) _ = _; simp only [Act.put, zA, zB, zC, i64_w, i32_w]; rfl
    refine pV 5 18 (OB 11 63) ?_; refine pV 6 24 (OB 11 127) ?_; refine pV 7 25 (OB 11 255) ?_; refine one_ (i := 8) (N := some 10) (OB 11 511) rfl rfl (one_of HT_.out (by kernel_rfl)) (by decide) (fun K hK => ?_); refine box_step ?hg (N := 10) ?hd (cs := #[.slice none 0 0]) (t := 29) ?hr ?_; (case hd => rfl); (case hg => rfl); (case hr => first | (go_simp; done) | (go_simp; rfl)); intro gb268 hg w16 hbox hb; have n0_ := Aside0.mk (Kd.R_below (RQ HO266.out) hb); have n1_ := BB BK257.out hb; have n2_ := BB BK258.out hb; have n3_ := Aside0.mk (below_step (BL) hb); have n4_ := Aside0.mk (hbox); have n5_ : Aside0 (w.heap.size ≤ gb268) := GS; have n6_ : Aside0 (w.heap.size ≤ gb268) := GS; have n7_ := NL BK257.out hg; have n8_ := NG BK257.out hg; have n9_ := NL BK258.out hg; have n10_ := NG BK258.out hg; clear HO266; clear BK257; clear BK258; clear HB; have HO266 := n0_; have BK257 := n1_; have BK258 := n2_; have HB := n3_; have BK268 := n4_; have GW268 := n5_; have GE268 := n6_; have NB257_268 := n7_; have NB268_257 := n8_; have NB258_268 := n9_; have NB268_258 := n10_; clear n0_ n1_ n2_ n3_ n4_ n5_ n6_ n7_ n8_ n9_ n10_; clear hb hbox hg; refine hK.out _ _ (CZ BK257.out 0) (fun hHeld => ?_); clear hK K; refine norm_ (a' := ?_) ?_ ?_; rotate_left
    ·
     show Act.put _ (some 10) _ = _; simp only [Act.put, zA, zB, zC, i64_w, i32_w]; rfl
    exact norm_ (by simp only [putAll, Act.put, zA, zB, zC]) (hCont (v265, gb268) _ ⟨hHeld, (RQ HO266.out), (BQ BK257.out), (BQ BK258.out), (BQ BK268.out), GW268.out, GE268.out, NB257_268.out, NB268_257.out, NB258_268.out, NB268_258.out, (BL)⟩)
   ·
    skip
    refine box_step ?hg (N := 10) ?hd (cs := #[.slice none 0 0]) (t := 29) ?hr ?_; (case hd => rfl); (case hg => rfl); (case hr => first | (go_simp; done) | (go_simp; rfl)); intro gb268 hg w15 hbox hb; have n0_ := BB BK257.out hb; have n1_ := BB BK258.out hb; have n2_ := Aside0.mk (below_step (BL) hb); have n3_ := Aside0.mk (hbox); have n4_ : Aside0 (w.heap.size ≤ gb268) := GS; have n5_ : Aside0 (w.heap.size ≤ gb268) := GS; have n6_ := NL BK257.out hg; have n7_ := NG BK257.out hg; have n8_ := NL BK258.out hg; have n9_ := NG BK258.out hg; clear BK257; clear BK258; clear HB; have BK257 := n0_; have BK258 := n1_; have HB := n2_; have BK268 := n3_; have GW268 := n4_; have GE268 := n5_; have NB257_268 := n6_; have NB268_257 := n7_; have NB258_268 := n8_; have NB268_258 := n9_; clear n0_ n1_ n2_ n3_ n4_ n5_ n6_ n7_ n8_ n9_; clear hb hbox hg; refine hK.out _ _ (CZ BK257.out 0) (fun hHeld => ?_); clear hK K; refine norm_ (a' := ?_) ?_ ?_; rotate_left
    ·
     show Act.put _ (some 10) _ = _; simp only [Act.put, zA, zB, zC, i64_w, i32_w]; rfl
    refine one_ (i := 4) (N := some 23) (OB 11 287) rfl rfl (one_of HT_.out (by kernel_rfl)) (by decide) (fun K hK => ?_); refine goes_ Try.func41 (by kernel_rfl) rfl #[.agg #[.slice A0_0 l0_0.length c0_0], .slice A1 y260.length c1] (by rfl) rfl rfl (MA) ?_
    with_reducible refine (impl_DoActs.calls k _ _ l0_0 _ _ y260 t264 t267 _ ?side1 ?side2 ?side3 ?side4 A9.out).mono ?_
    (case side1 => exact CB HR0_0.out)
    (case side2 => exact HC0_0.out)
    (case side3 => exact CB HR263.out)
    (case side4 => exact HC263.out)
    rintro e w16 ⟨v265, rfl, ho0, hb⟩; refine ⟨_, rfl, ?_⟩; have n0_ := Aside0.mk (Kd.R_lower ho0 (below_size (BL))); have n1_ := BB BK257.out hb; have n2_ := BB BK258.out hb; have n3_ := BB BK268.out hb; have n4_ := Aside0.mk (below_step (BL) hb); clear BK257; clear BK258; clear BK268; clear HB; have HO266 := n0_; have BK257 := n1_; have BK258 := n2_; have BK268 := n3_; have HB := n4_; clear n0_ n1_ n2_ n3_ n4_
    (try clear hb)
    (try clear hb2)
    (try clear hk)
    (try clear hi)
    (try clear ho0)
    refine hK.out _ _ (CZ BK257.out 0) (fun hHeld => ?_); clear hK K; refine norm_ (a' := ?_) ?_ ?_; rotate_left
    ·
     show Act.put _ (some 23) _ = _; simp only [Act.put, zA, zB, zC, i64_w, i32_w]; rfl
    refine pV 5 18 (OB 11 319) ?_; refine pV 6 24 (OB 11 383) ?_; refine pV 7 25 (OB 11 511) ?_; exact norm_ (by simp only [putAll, Act.put, zA, zB, zC]) (hCont (v265, gb268) _ ⟨hHeld, (RQ HO266.out), (BQ BK257.out), (BQ BK258.out), (BQ BK268.out), GW268.out, GE268.out, NB257_268.out, NB268_257.out, NB258_268.out, NB268_258.out, (BL)⟩)
  rintro ⟨v265, gb268⟩ w17 ⟨hS_, h0_, h1_, h2_, h3_, h4_, h5_, h6_, h7_, h8_, h9_, h10_⟩; have n0_ : Aside0 (Kd.R k45 45 w17 w.heap.size (fun _ => True) v265 t264) := ⟨h0_⟩; have n1_ : Aside0 (w17.heap[gb257]? = some (.cells #[.slice A0_0 l0_0.length c0_0] 29 (0, 0))) := ⟨h1_⟩; have n2_ : Aside0 (w17.heap[gb258]? = some (.cells #[.slice none 0 0] 29 (0, 0))) := ⟨h2_⟩; have n3_ : Aside0 (w17.heap[gb268]? = some (.cells #[.slice none 0 0] 29 (0, 0))) := ⟨h3_⟩; have n4_ : Aside0 (w.heap.size ≤ gb268) := ⟨h4_⟩; have n5_ : Aside0 (w.heap.size ≤ gb268) := ⟨h5_⟩; have n6_ : Aside0 (gb257 ≠ gb268) := ⟨h6_⟩; have n7_ : Aside0 (gb268 ≠ gb257) := ⟨h7_⟩; have n8_ : Aside0 (gb258 ≠ gb268) := ⟨h8_⟩; have n9_ : Aside0 (gb268 ≠ gb258) := ⟨h9_⟩; have n10_ : Aside0 (Below w.heap.size w w17) := ⟨h10_⟩; clear BK257; clear BK258; clear HB; clear h0_ h1_ h2_ h3_ h4_ h5_ h6_ h7_ h8_ h9_ h10_; have HO266 := n0_; have BK257 := n1_; have BK258 := n2_; have BK268 := n3_; have GW268 := n4_; have GE268 := n5_; have NB257_268 := n6_; have NB268_257 := n7_; have NB258_268 := n8_; have NB268_258 := n9_; have HB := n10_; clear n0_ n1_ n2_ n3_ n4_ n5_ n6_ n7_ n8_ n9_ n10_; have hHeld : w17.cell? ⟨gb257, 0, none⟩ = some (.slice A0_0 l0_0.length c0_0) := hS_; obtain ⟨Ao18, co18, eo18⟩ := Kd.R_slice HO266.out
  (first | subst eo18 | (injection eo18 with f1_ f2_ f3_; have f4_ := f1_.symm; have f5_ := f3_.symm; clear f1_ f2_ f3_; subst f4_; subst f5_))
  refine norm_ (a' := ?_) ?_ ?_; rotate_left
  ·
   simp only [putAll, Act.put, zA, zB, zC]; rfl
  refine one_ (i := 9) (N := none) (OB 11 1023) rfl rfl (one_of HT_.out (by kernel_rfl)) (by decide) (fun K hK => ?_); have hs19 : w17.cell? ⟨gb268, 0, none⟩ = some (.slice none 0 0) := CZ BK268.out 0; have hfs19 := blk_frozen BK268.out 0; have hns19_0 := NB257_268.out; have hns19_1 := NB258_268.out; have hms19_0 := NB268_257.out; have hms19_1 := NB268_258.out; refine skip_ (w1 := ?_) (by rfl) rfl ?_ ?_; rotate_left
  ·
   go_simp
   rfl
  refine hK.out _ _ (((cell_far (p := ⟨gb268, _, none⟩) NB257_268.out _).trans (hHeld))) (fun hHeld => ?_); clear hK K; refine pV 10 11 (OB 11 2047) ?_; refine done_ (done_of HT_.out (by kernel_rfl)) ?_; have hnb20 := NB258_257.out; have hnc20 := NB257_258.out; have hnb21 := NB258_268.out; have hnc21 := NB268_258.out; have hcz22_0 : w17.cell? ⟨gb258, 0, none⟩ = some (.slice none 0 0) := CZ BK258.out 0; have hfz22_0 := blk_frozen BK258.out 0
  try go_wp2
  refine bodyPost_ret (results_ct rfl _ _ gb258 29 #[.slice none 0 0] (0, 0) _ rfl (BU BK258.out) Try.underlying29 rfl (by kernel_rfl)) rfl ?_; exact ⟨_, EE, by first | exact Kd.R_nil _ _ _ _ _ | exact Kd.N_nil _ _ _ _ _ | exact Kd.V_nil _ _ _ _ _ | exact Kd.Q_nil _ _ _ _ _ | exact Kd.S_nil _ _ _ _ _, BL⟩
 rw [if_neg c10] at H
 have c10b0 : decide (t267 < a2) = false := decide_eq_false c10
 clear c10
 replace H := Option.bind_eq_some_iff.mp H
 obtain ⟨⟨t269, t272⟩, A230, H⟩ := H
 replace H : (some (t269, t272)) = some (r1, r2) := H
 have A23 := Aside0.mk A230
 clear A230
 simp only [Option.some.injEq, Prod.mk.injEq] at H
 obtain ⟨rfl, rfl⟩ := H
 go_enter Try.func45, Try.ntmps45
 try go_wp2_with (first | ((with_reducible refine gate_dst (N := 4) rfl ?_); refine bE 4 #[.slice A0_0 l0_0.length c0_0] 29 ?_; intro gb257 hg w24 hbox hb; have BK257 := Aside0.mk (hbox); have GW257 : Aside0 (w.heap.size ≤ gb257) := GS; have GE257 := GW257; replace HB := Aside0.mk (below_step (BL) hb); clear hb hbox hg) | ((with_reducible refine gate_dst (N := 8) rfl ?_); refine bE 8 #[.slice none 0 0] 29 ?_; intro gb258 hg w25 hbox hb; have BK258 := Aside0.mk (hbox); have GW258 : Aside0 (w.heap.size ≤ gb258) := GS; have GE258 := GW258; have NB257_258 := NL BK257.out hg; have NB258_257 := NG BK257.out hg; replace BK257 := BB BK257.out hb; replace HB := Aside0.mk (below_step (BL) hb); clear hb hbox hg) | ((with_reducible refine gate_callee (f := 51) rfl ?_); refine goesL_ (some 15) rfl rfl Try.func51 (by kernel_rfl) rfl #[.int .i64 a2, .int .i64 0, .int .i64 (l1.length : Int)] rfl (MA) ?_; (with_reducible refine (impl_within.calls a2 0 (l1.length : Int) true _ A5.out).mono ?_); rintro e w' ⟨rfl, ⟨nd, rfl⟩⟩; refine ⟨_, rfl, ?_⟩; (try (rw [drewN_self w25]; generalize hq_ : World.drewN w25 _ = w25; have n0_ : Aside0 (w25.heap[gb257]? = some (.cells #[.slice A0_0 l0_0.length c0_0] 29 (0, 0))) := ⟨by rw [← hq_]; exact (BQ BK257.out)⟩; have n1_ : Aside0 (w25.heap[gb258]? = some (.cells #[.slice none 0 0] 29 (0, 0))) := ⟨by rw [← hq_]; exact (BQ BK258.out)⟩; have n2_ : Aside0 (Below w.heap.size w w25) := ⟨by rw [← hq_]; exact (BL)⟩; clear BK257 BK258 HB hq_; have BK257 := n0_; have BK258 := n1_; have HB := n2_; clear n0_ n1_ n2_))))
 have n0_ := Aside0.mk (blk_drew BK257.out)
 have n1_ := Aside0.mk (blk_drew BK258.out)
 have n2_ := Aside0.mk (below_drew1 HB.out)
 clear BK257
 clear BK258
 clear HB
 have BK257 := n0_
 have BK258 := n1_
 have HB := n2_
 clear n0_ n1_ n2_
 have q27 : (a2 : Int) ≤ ((l1.length : Int) : Int) := of_decide_eq_true AS
 obtain ⟨i027, hi027, _, hsz27, _⟩ := info_parts info55
 have hroom27 : l1.length ≤ c1 := HC1.out
 have hC27 : Kd.C k55 _ A1 l1.length l1 := HR1.out
 have hcut27 := cut_to (P := Try.prog) 62 55 .i64 Try.underlying62 hi027 A1 l1.length c1 a2 (of_decide_eq_true AS) q27 hroom27
 have hr27 := Kd.C_take (m := (a2 : Int).toNat) hC27 (by omega)
 have hy27 : y260.length = (a2 : Int).toNat := (by rw [Ny260.out, List.length_take]; omega)
 rw [← Ny260.out] at hr27
 rw [← hy27] at hcut27
 have HR263 := Aside0.mk hr27
 have HC263 := Aside0.mk (show y260.length ≤ c1 from by omega)
 clear hr27 hC27 hroom27 hi027 hsz27
 have KY27 := Aside0.mk hy27
 clear hy27
 replace q27 := eq_true q27
 refine start_ (n := 11) (S := fun w' => w'.cell? ⟨gb257, 0, none⟩ = some (.slice A0_0 l0_0.length c0_0)) (ds := []) #[false, false, false, false, false, false, false, false, false, false, false] (by kernel_rfl) rfl rfl (CZ BK257.out 0) (fun hHeld => ?_); refine with_tabW impl_CutActs.tab3 impl_CutActs.bits3 (fun HT_ HW_ => ?_)
 generalize w25.drew = w26 at BK257 BK258 HB HR263 hHeld ⊢
 refine pV 1 20 (OB 11 2) ?_
 refine pV 2 21 (OB 11 6) ?_
 refine pV 3 22 (OB 11 14) ?_
 refine take_ (i := 0) (N := some 19) (v := ?_) (a' := ?_) (OB 11 15) rfl rfl (take_ofW HT_.out HW_.out (by kernel_rfl)) (fun _ _ _ h => h) (Or.inl ⟨by rfl, ?_⟩) hHeld ?_ ?_
 rotate_left
 ·
  intro w' s0
  go_simp
  with_reducible rfl
 rotate_left
 ·
  simp only [Act.put, zA, zB, zC, i64_w, i32_w]; rfl
 refine join_ (σ := Value × Nat) 2 #[true, true, true, true, true, true, true, true, true, false, false] (fun s_ => [(23, .tuple #[.agg #[s_.1], .int .i64 t267]), (10, .pointer (some ⟨s_.2, 0, none⟩)), (18, .tuple #[.agg #[s_.1], .int .i64 t267]), (24, .agg #[s_.1]), (25, .int .i64 t267)]) (fun s_ w' => (w'.cell? ⟨gb257, 0, none⟩ = some (.slice A0_0 l0_0.length c0_0)) ∧ (Kd.R k45 45 w' w.heap.size (fun _ => True) s_.1 t264) ∧ (w'.heap[gb257]? = some (.cells #[.slice A0_0 l0_0.length c0_0] 29 (0, 0))) ∧ (w'.heap[gb258]? = some (.cells #[.slice none 0 0] 29 (0, 0))) ∧ (w'.heap[s_.2]? = some (.cells #[.slice none 0 0] 29 (0, 0))) ∧ (w.heap.size ≤ s_.2) ∧ (w.heap.size ≤ s_.2) ∧ (gb257 ≠ s_.2) ∧ (s_.2 ≠ gb257) ∧ (gb258 ≠ s_.2) ∧ (s_.2 ≠ gb258) ∧ (Below w.heap.size w w')) ?_ ?_
 rotate_left
 ·
  intro hCont; refine two_ (i := 4) (j := 8) (Ni := some 23) (Nj := some 10) #[true, true, true, true, true, false, false, false, false, false, false] #[true, true, true, true, false, false, false, false, true, false, false] rfl rfl rfl rfl (two_of HT_.out (by kernel_rfl)) (by decide) (by decide) (fun K hK => ?_) (fun K hK => ?_)
  ·
   skip
   refine goes_ Try.func41 (by kernel_rfl) rfl #[.agg #[.slice A0_0 l0_0.length c0_0], .slice A1 y260.length c1] (by rfl) rfl rfl (MA) ?_
   with_reducible refine (impl_DoActs.calls k _ _ l0_0 _ _ y260 t264 t267 _ ?side1 ?side2 ?side3 ?side4 A9.out).mono ?_
   (case side1 => exact CB HR0_0.out)
   (case side2 => exact HC0_0.out)
   (case side3 => exact CB HR263.out)
   (case side4 => exact HC263.out)
   rintro e w28 ⟨v265, rfl, ho0, hb⟩; refine ⟨_, rfl, ?_⟩; have n0_ := Aside0.mk (Kd.R_lower ho0 (below_size (BL))); have n1_ := BB BK257.out hb; have n2_ := BB BK258.out hb; have n3_ := Aside0.mk (below_step (BL) hb); clear BK257; clear BK258; clear HB; have HO266 := n0_; have BK257 := n1_; have BK258 := n2_; have HB := n3_; clear n0_ n1_ n2_ n3_
   (try clear hb)
   (try clear hb2)
   (try clear hk)
   (try clear hi)
   (try clear ho0)
   refine hK.out _ _ (CZ BK257.out 0) (fun hHeld => ?_); clear hK K; refine norm_ (a' := ?_) ?_ ?_; rotate_left
   ·
    show Act.put _ (some 23) _ = _; simp only [Act.put, zA, zB, zC, i64_w, i32_w]; rfl
   refine pV 5 18 (OB 11 63) ?_; refine pV 6 24 (OB 11 127) ?_; refine pV 7 25 (OB 11 255) ?_; refine one_ (i := 8) (N := some 10) (OB 11 511) rfl rfl (one_of HT_.out (by kernel_rfl)) (by decide) (fun K hK => ?_); refine box_step ?hg (N := 10) ?hd (cs := #[.slice none 0 0]) (t := 29) ?hr ?_; (case hd => rfl); (case hg => rfl); (case hr => first | (go_simp; done) | (go_simp; rfl)); intro gb268 hg w29 hbox hb; have n0_ := Aside0.mk (Kd.R_below (RQ HO266.out) hb); have n1_ := BB BK257.out hb; have n2_ := BB BK258.out hb; have n3_ := Aside0.mk (below_step (BL) hb); have n4_ := Aside0.mk (hbox); have n5_ : Aside0 (w.heap.size ≤ gb268) := GS; have n6_ : Aside0 (w.heap.size ≤ gb268) := GS; have n7_ := NL BK257.out hg; have n8_ := NG BK257.out hg; have n9_ := NL BK258.out hg; have n10_ := NG BK258.out hg; clear HO266; clear BK257; clear BK258; clear HB; have HO266 := n0_; have BK257 := n1_; have BK258 := n2_; have HB := n3_; have BK268 := n4_; have GW268 := n5_; have GE268 := n6_; have NB257_268 := n7_; have NB268_257 := n8_; have NB258_268 := n9_; have NB268_258 := n10_; clear n0_ n1_ n2_ n3_ n4_ n5_ n6_ n7_ n8_ n9_ n10_; clear hb hbox hg; refine hK.out _ _ (CZ BK257.out 0) (fun hHeld => ?_); clear hK K; refine norm_ (a' := ?_) ?_ ?_; rotate_left
   ·
    show Act.put _ (some 10) _ = _; simp only [Act.put, zA, zB, zC, i64_w, i32_w]; rfl
   exact norm_ (by simp only [putAll, Act.put, zA, zB, zC]) (hCont (v265, gb268) _ ⟨hHeld, (RQ HO266.out), (BQ BK257.out), (BQ BK258.out), (BQ BK268.out), GW268.out, GE268.out, NB257_268.out, NB268_257.out, NB258_268.out, NB268_258.out, (BL)⟩)
  ·
   skip
   refine box_step ?hg (N := 10) ?hd (cs := #[.slice none 0 0]) (t := 29) ?hr ?_; (case hd => rfl); (case hg => rfl); (case hr => first | (go_simp; done) | (go_simp; rfl)); intro gb268 hg w28 hbox hb; have n0_ := BB BK257.out hb; have n1_ := BB BK258.out hb; have n2_ := Aside0.mk (below_step (BL) hb); have n3_ := Aside0.mk (hbox); have n4_ : Aside0 (w.heap.size ≤ gb268) := GS; have n5_ : Aside0 (w.heap.size ≤ gb268) := GS; have n6_ := NL BK257.out hg; have n7_ := NG BK257.out hg; have n8_ := NL BK258.out hg; have n9_ := NG BK258.out hg; clear BK257; clear BK258; clear HB; have BK257 := n0_; have BK258 := n1_; have HB := n2_; have BK268 := n3_; have GW268 := n4_; have GE268 := n5_; have NB257_268 := n6_; have NB268_257 := n7_; have NB258_268 := n8_; have NB268_258 := n9_; clear n0_ n1_ n2_ n3_ n4_ n5_ n6_ n7_ n8_ n9_; clear hb hbox hg; refine hK.out _ _ (CZ BK257.out 0) (fun hHeld => ?_); clear hK K; refine norm_ (a' := ?_) ?_ ?_; rotate_left
   ·
    show Act.put _ (some 10) _ = _; simp only [Act.put, zA, zB, zC, i64_w, i32_w]; rfl
   refine one_ (i := 4) (N := some 23) (OB 11 287) rfl rfl (one_of HT_.out (by kernel_rfl)) (by decide) (fun K hK => ?_); refine goes_ Try.func41 (by kernel_rfl) rfl #[.agg #[.slice A0_0 l0_0.length c0_0], .slice A1 y260.length c1] (by rfl) rfl rfl (MA) ?_
   with_reducible refine (impl_DoActs.calls k _ _ l0_0 _ _ y260 t264 t267 _ ?side1 ?side2 ?side3 ?side4 A9.out).mono ?_
   (case side1 => exact CB HR0_0.out)
   (case side2 => exact HC0_0.out)
   (case side3 => exact CB HR263.out)
   (case side4 => exact HC263.out)
   rintro e w29 ⟨v265, rfl, ho0, hb⟩; refine ⟨_, rfl, ?_⟩; have n0_ := Aside0.mk (Kd.R_lower ho0 (below_size (BL))); have n1_ := BB BK257.out hb; have n2_ := BB BK258.out hb; have n3_ := BB BK268.out hb; have n4_ := Aside0.mk (below_step (BL) hb); clear BK257; clear BK258; clear BK268; clear HB; have HO266 := n0_; have BK257 := n1_; have BK258 := n2_; have BK268 := n3_; have HB := n4_; clear n0_ n1_ n2_ n3_ n4_
   (try clear hb)
   (try clear hb2)
   (try clear hk)
   (try clear hi)
   (try clear ho0)
   refine hK.out _ _ (CZ BK257.out 0) (fun hHeld => ?_); clear hK K; refine norm_ (a' := ?_) ?_ ?_; rotate_left
   ·
    show Act.put _ (some 23) _ = _; simp only [Act.put, zA, zB, zC, i64_w, i32_w]; rfl
   refine pV 5 18 (OB 11 319) ?_; refine pV 6 24 (OB 11 383) ?_; refine pV 7 25 (OB 11 511) ?_; exact norm_ (by simp only [putAll, Act.put, zA, zB, zC]) (hCont (v265, gb268) _ ⟨hHeld, (RQ HO266.out), (BQ BK257.out), (BQ BK258.out), (BQ BK268.out), GW268.out, GE268.out, NB257_268.out, NB268_257.out, NB258_268.out, NB268_258.out, (BL)⟩)
 rintro ⟨v265, gb268⟩ w30 ⟨hS_, h0_, h1_, h2_, h3_, h4_, h5_, h6_, h7_, h8_, h9_, h10_⟩
 have n0_ : Aside0 (Kd.R k45 45 w30 w.heap.size (fun _ => True) v265 t264) := ⟨h0_⟩
 have n1_ : Aside0 (w30.heap[gb257]? = some (.cells #[.slice A0_0 l0_0.length c0_0] 29 (0, 0))) := ⟨h1_⟩
 have n2_ : Aside0 (w30.heap[gb258]? = some (.cells #[.slice none 0 0] 29 (0, 0))) := ⟨h2_⟩
 have n3_ : Aside0 (w30.heap[gb268]? = some (.cells #[.slice none 0 0] 29 (0, 0))) := ⟨h3_⟩
 have n4_ : Aside0 (w.heap.size ≤ gb268) := ⟨h4_⟩
 have n5_ : Aside0 (w.heap.size ≤ gb268) := ⟨h5_⟩
 have n6_ : Aside0 (gb257 ≠ gb268) := ⟨h6_⟩
 have n7_ : Aside0 (gb268 ≠ gb257) := ⟨h7_⟩
 have n8_ : Aside0 (gb258 ≠ gb268) := ⟨h8_⟩
 have n9_ : Aside0 (gb268 ≠ gb258) := ⟨h9_⟩
 have n10_ : Aside0 (Below w.heap.size w w30) := ⟨h10_⟩
 clear BK257
 clear BK258
 clear HB
 clear h0_ h1_ h2_ h3_ h4_ h5_ h6_ h7_ h8_ h9_ h10_
 have HO266 := n0_
 have BK257 := n1_
 have BK258 := n2_
 have BK268 := n3_
 have GW268 := n4_
 have GE268 := n5_
 have NB257_268 := n6_
 have NB268_257 := n7_
 have NB258_268 := n8_
 have NB268_258 := n9_
 have HB := n10_
 clear n0_ n1_ n2_ n3_ n4_ n5_ n6_ n7_ n8_ n9_ n10_
 have hHeld : w30.cell? ⟨gb257, 0, none⟩ = some (.slice A0_0 l0_0.length c0_0) := hS_
 obtain ⟨Ao31, co31, eo31⟩ := Kd.R_slice HO266.out
 (first | subst eo31 | (injection eo31 with f1_ f2_ f3_; have f4_ := f1_.symm; have f5_ := f3_.symm; clear f1_ f2_ f3_; subst f4_; subst f5_))
 refine norm_ (a' := ?_) ?_ ?_
 rotate_left
 ·
  simp only [putAll, Act.put, zA, zB, zC]; rfl
 refine one_ (i := 9) (N := none) (OB 11 1023) rfl rfl (one_of HT_.out (by kernel_rfl)) (by decide) (fun K hK => ?_)
 have hs32 : w30.cell? ⟨gb268, 0, none⟩ = some (.slice none 0 0) := CZ BK268.out 0
 have hfs32 := blk_frozen BK268.out 0
 have hns32_0 := NB257_268.out
 have hns32_1 := NB258_268.out
 have hms32_0 := NB268_257.out
 have hms32_1 := NB268_258.out
 refine skip_ (w1 := ?_) (by rfl) rfl ?_ ?_
 rotate_left
 ·
  go_simp
  rfl
 refine hK.out _ _ (((cell_far (p := ⟨gb268, _, none⟩) NB257_268.out _).trans (hHeld))) (fun hHeld => ?_)
 clear hK K
 refine pV 10 11 (OB 11 2047) ?_
 refine done_ (done_of HT_.out (by kernel_rfl)) ?_
 have hnb33 := NB268_257.out
 have hnc33 := NB257_268.out
 have hnb34 := NB268_258.out
 have hnc34 := NB258_268.out
 have hcz35_0 : w30.cell? ⟨gb268, 0, none⟩ = some (.slice none 0 0) := CZ BK268.out 0
 have hfz35_0 := blk_frozen BK268.out 0
 try go_wp2_with (first | ((with_reducible refine gate_callee (f := 25) rfl ?_); refine goesL_ (some 32) rfl rfl Try.func25 (by kernel_rfl) rfl #[.agg #[.slice Ao31 t264.length co31], .slice A3 l3.length c3] rfl (MA) ?_; (with_reducible refine (impl_LoseDisk.calls k _ _ t264 _ _ l3 t269 t272 _ ?side1 ?side2 ?side3 ?side4 A23.out).mono ?_); (case side1 => refine (Kd.R_reads' (e := 45) (base := w.heap.size) (ok := fun k_ => True) (n := t264.length) (c := co31) ?_).2.2; exact (RF HO266.out BK268.out)); (case side2 => exact (Kd.R_reads' HO266.out).2.1); (case side3 => exact Kd.C_below HR3.out (BL)); (case side4 => exact HC3.out); rintro e w36 ⟨v270, rfl, ho0, hb⟩; refine ⟨_, rfl, ?_⟩; have HO271 := Aside0.mk (Kd.R_lower (Kd.R_new' ho0 (Kd.R_lt (RF HO266.out BK268.out))) (below_size (BL))); replace HO266 := Aside0.mk (Kd.R_elder' (RF HO266.out BK268.out) (Kd.R_base ho0) hb); replace BK257 := BX BK257.out hb; replace BK258 := BX BK258.out hb; replace BK268 := Aside0.mk (blk_below (g := gb268) (o := .cells #[.slice Ao31 t264.length co31] 29 (0, 0)) (BU BK268.out) hb); replace HB := Aside0.mk (below_step (BL) hb); (try clear hb); (try clear hb2); (try clear hk); (try clear hi); (try clear ho0); obtain ⟨Ao37, co37, eo37⟩ := Kd.R_slice HO271.out; subst eo37; have hnb38 := NB258_257.out; have hnc38 := NB257_258.out; have hcz39_0 : w36.cell? ⟨gb258, 0, none⟩ = some (.slice none 0 0) := CZ BK258.out 0; have hfz39_0 := blk_frozen BK258.out 0))
 refine bodyPost_ret (results_ct rfl _ _ gb258 29 #[.slice Ao37 t269.length co37] (0, 0) _ rfl (BU BK258.out) Try.underlying29 rfl (by kernel_rfl)) rfl ?_
 exact ⟨_, EE, by (with_reducible repeat (first | apply r1 | apply r2 | apply r3)); exact Kd.R_mono (Kd.R_far (p := ⟨gb258, 0, none⟩) (Kd.R_types HO271.out BK258.out (by decide)) (fun _ hk => hk.2) (.slice Ao37 t269.length co37)) (fun _ hk => trivial), BL⟩

/-! ### spec_l01In: function 49 -/
def spec_l01In.f (a0 : Int) (a1 : Int) (a2 : Int) : Option (Bool) := if a0 ≥ a1 then (some (decide (a0 ≤ a2))) else (some false)
set_option maxHeartbeats 8000000 in
set_option maxRecDepth 100000 in
theorem spec_l01In.calls (a0 : Int) (a1 : Int) (a2 : Int) (r : Bool) (w : World) (h : spec_l01In.f a0 a1 a2 = some r) :
  Calls Try.prog 49 #[.int .i64 a0, .int .i64 a1, .int .i64 a2] w fun e w' => e = .returned (.bool r) ∧ Drawn0 w w' := by
 have H : (if a0 ≥ a1 then (some (decide (a0 ≤ a2))) else (some false)) = some r := h
 clear h
 by_cases c4 : a0 ≥ a1
 ·
  rw [if_pos c4] at H; have c4b0 : decide (a1 ≤ a0) = true := decide_eq_true c4; clear c4; obtain rfl := Option.some.inj H
  go_enter Try.func49, Try.ntmps49
  go_wp2
  go_ret
  exact ⟨by first | rfl | (simp; done) | (simp [*]; done), by repeat (first | exact Drawn0.refl _ | apply Drawn0.step)⟩
 rw [if_neg c4] at H
 have c4b0 : decide (a1 ≤ a0) = false := decide_eq_false c4
 clear c4
 obtain rfl := Option.some.inj H
 go_enter Try.func49, Try.ntmps49
 go_wp2
 go_ret
 exact ⟨by first | rfl | (simp; done) | (simp [*]; done), by repeat (first | exact Drawn0.refl _ | apply Drawn0.step)⟩

/-! ### spec_l03Name: function 48 -/
def spec_l03Name.f (a0 : ByteArray) : Option (Bool) := (spec_l01In.f (a0.size : Int) 1 8).bind fun t273 => (some t273)
set_option maxHeartbeats 8000000 in
set_option maxRecDepth 100000 in
theorem spec_l03Name.calls (a0 : ByteArray) (r : Bool) (w : World) (h : spec_l03Name.f a0 = some r) :
  Calls Try.prog 48 #[.string a0] w fun e w' => e = .returned (.bool r) ∧ Drawn0 w w' := by
 have H : ((spec_l01In.f (a0.size : Int) 1 8).bind fun t273 => (some t273)) = some r := h
 clear h
 replace H := Option.bind_eq_some_iff.mp H
 obtain ⟨t273, A20, H⟩ := H
 have A2 := Aside0.mk A20
 clear A20
 obtain rfl := Option.some.inj H
 go_enter Try.func48, Try.ntmps48
 go_wp2_with (first | ((with_reducible refine gate_callee (f := 49) rfl ?_); refine goesL_ (some 5) rfl rfl Try.func49 (by kernel_rfl) rfl #[.int .i64 (a0.size : Int), .int .i64 1, .int .i64 8] rfl (MA) ?_; (with_reducible refine (spec_l01In.calls (a0.size : Int) 1 8 t273 _ A2.out).mono ?_); rintro e w' ⟨rfl, ⟨nd, rfl⟩⟩; refine ⟨_, rfl, ?_⟩))
 go_ret
 exact ⟨by first | rfl | (simp; done) | (simp [*]; done), by repeat (first | exact Drawn0.refl _ | apply Drawn0.step)⟩

/-! ### spec_DiskOk: function 13 -/
def spec_DiskOk.l0 : Nat → Int → List (S45) → Option (Bool)
 | 0, _, _ => none
 | k + 1, x3, x275000 => if x3 < (x275000.length : Int) then (if 0 ≤ x3 then ((spec_l03Name.f ((rd_T45 x275000 x3).f0)).bind fun t277 => (if t277 = true then (if (((rd_T45 x275000 x3).f1).size : Int) > 20000 then (some false) else ((spec_l01In.f ((rd_T45 x275000 x3).f2) 0 (((rd_T45 x275000 x3).f1).size : Int)).bind fun t278 => (if t278 = true then (if x3 > 0 then (if 0 ≤ (wrap64 (x3 - 1)) then (if (wrap64 (x3 - 1)) < (x275000.length : Int) then (if ((Op.bytesLess (((rd_T45 x275000 (wrap64 (x3 - 1))).f0).toList) (((rd_T45 x275000 x3).f0).toList)) = true) then (spec_DiskOk.l0 k (wrap64 (x3 + 1)) x275000) else (some false)) else (none)) else (none)) else (spec_DiskOk.l0 k (wrap64 (x3 + 1)) x275000)) else (some false)))) else (some false))) else (none)) else (some true)
def spec_DiskOk.f (k : Nat) (l0_0 : List (S45)) : Option (Bool) := if (l0_0.length : Int) > 30 then (some false) else (spec_DiskOk.l0 k 0 l0_0)
theorem spec_DiskOk.mono_l : ∀ k, (∀ y0 y1, LeO (spec_DiskOk.l0 k y0 y1) (spec_DiskOk.l0 (k + 1) y0 y1))
 | 0 => fun _ _ r h => by simp [spec_DiskOk.l0] at h
 | k + 1 => by
  have ih0 := spec_DiskOk.mono_l k
  ·
   intro y0 y1
   unfold spec_DiskOk.l0
   repeat' first
   | (with_reducible exact ih0 _ _)
   | (with_reducible exact LeO.refl _)
   | (with_reducible exact LeO.none _)
   | (with_reducible refine LeO.ite ?_ ?_)
   | (with_reducible refine LeO.bind ?_ (fun _ => ?_))
   | exact ih0 _ _
   | exact LeO.none _
   | refine LeO.ite ?_ ?_
   | refine LeO.bind ?_ (fun _ => ?_)
theorem spec_DiskOk.mono : ∀ a0 k, LeO (spec_DiskOk.f k a0) (spec_DiskOk.f (k + 1) a0) := by
 intro a0 k
 have ih0 := spec_DiskOk.mono_l k
 unfold spec_DiskOk.f
 repeat' first
   | (with_reducible exact ih0 _ _)
   | (with_reducible exact LeO.refl _)
   | (with_reducible exact LeO.none _)
   | (with_reducible refine LeO.ite ?_ ?_)
   | (with_reducible refine LeO.bind ?_ (fun _ => ?_))
   | exact ih0 _ _
   | exact LeO.none _
   | refine LeO.ite ?_ ?_
   | refine LeO.bind ?_ (fun _ => ?_)
def spec_DiskOk.T7 : Bool × List (List Nat × List Nat) := (true, [([], []), ([0], [0]), ([1], [1]), ([2], [2]), ([3, 2], [3]), ([4], [4]), ([5, 4], [4, 5]), ([6, 4], [4, 6]), ([7, 4], [4, 7]), ([4, 8], [4, 8]), ([9, 4], [9]), ([10], [10]), ([11, 10], [10, 11]), ([10], [10]), ([13, 10], [10, 13]), ([14, 10], [10, 14]), ([12, 15, 10, 10], [10, 12, 15]), ([16, 10], [10, 16]), ([10, 17], [10, 17]), ([18, 16], [18]), ([19], [19]), ([20, 19], [19, 20]), ([21, 19, 19], [19, 21]), ([22], [22]), ([23, 22], [22, 23]), ([22], [22]), ([25, 22], [22, 25]), ([24, 26, 22], [22, 24, 26]), ([27, 22], [22, 27]), ([28, 22], [22, 28]), ([22], [22]), ([30, 22], [22, 30]), ([29, 31, 22], [22, 29, 31]), ([22, 32, 19], [19, 22, 32]), ([19, 33], [19, 33])])
def spec_DiskOk.B7 : List Nat := [0, 1, 3, 7, 15, 31, 63, 127, 255, 511, 1023, 2047, 4095, 2047, 10239, 26623, 65535, 131071, 262143, 524287, 1048575, 2097151, 4194303, 8388607, 16777215, 8388607, 41943039, 134217727, 268435455, 536870911, 8388607, 1082130431, 4294967295, 8589934591, 17179869183]
theorem spec_DiskOk.tab7 : rtab .any (opsOf Try.f13 7) = spec_DiskOk.T7 := by kernel_rfl
theorem spec_DiskOk.bits7 : waitsOk spec_DiskOk.T7.2 spec_DiskOk.B7 = true := by kernel_rfl
set_option maxHeartbeats 8000000 in
set_option maxRecDepth 100000 in
theorem spec_DiskOk.calls (k : Nat) (A0_0 : Option Addr) (c0_0 : Nat) (l0_0 : List (S45)) (r : Bool) (w : World) (hr0_0 : Kd.C k45 w A0_0 l0_0.length l0_0) (hc0_0 : l0_0.length ≤ c0_0) (h : spec_DiskOk.f k l0_0 = some r) :
  Calls Try.prog 13 #[.agg #[.slice A0_0 l0_0.length c0_0]] w fun e w' => e = .returned (.bool r) ∧ Below w.heap.size w w' := by
 have hu29 := Try.underlying29
 have hu45 := Try.underlying45
 have HR0_0 := Aside0.mk hr0_0
 have HC0_0 := Aside0.mk hc0_0
 clear hr0_0 hc0_0
 have HB := Aside0.mk (Below.refl w.heap.size w)
 have H : (if (l0_0.length : Int) > 30 then (some false) else (spec_DiskOk.l0 k 0 l0_0)) = some r := h
 clear h
 by_cases c2 : (l0_0.length : Int) > 30
 ·
  rw [if_pos c2] at H; have c2b0 : decide (30 < (l0_0.length : Int)) = true := decide_eq_true c2; have c2b1 : decide (30 < l0_0.length) = true := decide_eq_true (by omega); clear c2; obtain rfl := Option.some.inj H
  go_enter Try.func13, Try.ntmps13
  go_wp2_with (first | ((with_reducible refine gate_dst (N := 1) rfl ?_); (try (refine gate_guard (by rfl) ?_; dsimp only)); refine bE 1 #[.slice A0_0 l0_0.length c0_0] 29 ?_; intro gb274 hg w3 hbox hb; have BK274 := Aside0.mk (hbox); have GW274 : Aside0 (w.heap.size ≤ gb274) := GS; have GE274 := GW274; replace HB := Aside0.mk (below_step (BL) hb); clear hb hbox hg; have hcz4_0 : w3.cell? ⟨gb274, 0, none⟩ = some (.slice A0_0 l0_0.length c0_0) := CZ BK274.out 0; have hfz4_0 := blk_frozen BK274.out 0))
  go_ret
  exact ⟨EE, BL⟩
 rw [if_neg c2] at H
 have c2b0 : decide (30 < (l0_0.length : Int)) = false := decide_eq_false c2
 have c2b1 : decide (30 < l0_0.length) = false := decide_eq_false (by omega)
 clear c2
 have H' := Aside0.mk H
 clear H
 go_enter Try.func13, Try.ntmps13
 go_wp2_with (first | ((with_reducible refine gate_dst (N := 1) rfl ?_); (try (refine gate_guard (by rfl) ?_; dsimp only)); refine bE 1 #[.slice A0_0 l0_0.length c0_0] 29 ?_; intro gb274 hg w5 hbox hb; have BK274 := Aside0.mk (hbox); have GW274 : Aside0 (w.heap.size ≤ gb274) := GS; have GE274 := GW274; replace HB := Aside0.mk (below_step (BL) hb); clear hb hbox hg; have hcz6_0 : w5.cell? ⟨gb274, 0, none⟩ = some (.slice A0_0 l0_0.length c0_0) := CZ BK274.out 0; have hfz6_0 := blk_frozen BK274.out 0))
 go_loopg [3] k (fun kq v3 w' => ∃ (x3_1 : Int), v3 = .int .i64 x3_1 ∧ Aside0 (spec_DiskOk.l0 kq x3_1 l0_0 = some r) ∧ Aside0 (kq ≤ k) ∧ Aside0 (w'.heap[gb274]? = some (.cells #[(.slice A0_0 l0_0.length c0_0)] 29 (0, 0))) ∧ Aside0 (Below w.heap.size w w'))
 case atStart => exact ⟨(0), SD, H', ⟨Nat.le_refl _⟩, ⟨BQ BK274.out⟩, ⟨BL⟩⟩
 case round =>
  clear H'
  try clear c1 c2 c2b0 c2b1 p2 hcz4_0 hcz6_0 hfz4_0 hfz6_0
  obtain ⟨x3_1, rfl, HA, HK1, BK274, HB⟩ := hrel; cases gk with
  | zero => exact absurd HA.out (by simp [spec_DiskOk.l0])
  | succ k1 =>
   have H := HA.out; clear HA; simp only [spec_DiskOk.l0] at H
   by_cases c7 : x3_1 < (l0_0.length : Int); rotate_left
   ·
    rw [if_neg c7] at H; have c7b0 : decide (x3_1 < (l0_0.length : Int)) = false := decide_eq_false c7; clear c7; obtain rfl := Option.some.inj H; have hcz55_0 : wr.cell? ⟨gb274, 0, none⟩ = some (.slice A0_0 l0_0.length c0_0) := CZ BK274.out 0; have hfz55_0 := blk_frozen BK274.out 0
    go_wp2
    go_ret
    exact ⟨EE, BL⟩
   rw [if_pos c7] at H; have c7b0 : decide (x3_1 < (l0_0.length : Int)) = true := decide_eq_true c7; clear c7
   by_cases c8 : 0 ≤ x3_1; rotate_left
   ·
    rw [if_neg c8] at H; exact absurd H (by simp)
   rw [if_pos c8] at H; have c8b0 : decide (0 ≤ x3_1) = true := decide_eq_true c8; clear c8; replace H := Option.bind_eq_some_iff.mp H; obtain ⟨t277, A90, H⟩ := H; have A9 := Aside0.mk A90; clear A90
   by_cases c10 : t277 = true; rotate_left
   ·
    replace c10 := Bool.eq_false_iff.mpr c10; subst c10
    have H1 : (some false) = some r := by rw [if_neg (show ¬ (false = true) by decide)] at H; exact H
    clear H; have H := H1; clear H1; obtain rfl := Option.some.inj H; have hcz49_0 : wr.cell? ⟨gb274, 0, none⟩ = some (.slice A0_0 l0_0.length c0_0) := CZ BK274.out 0; have hfz49_0 := blk_frozen BK274.out 0; have p275 : 0 ≤ (x3_1 : Int) := of_decide_eq_true AS; have q275 : x3_1 < (l0_0.length : Int) := of_decide_eq_true AS; obtain ⟨ad275, e275, hx275_0, hx275_1, hx275_2⟩ := at_T45 HR0_0.out x3_1 p275 q275; cases e275; replace hx275_0 := (HB.out.cell (World.block_lt_of_cell? w _ hx275_0)).trans hx275_0; replace hx275_1 := (HB.out.cell (World.block_lt_of_cell? w _ hx275_1)).trans hx275_1; replace hx275_2 := (HB.out.cell (World.block_lt_of_cell? w _ hx275_2)).trans hx275_2; replace p275 := eq_true p275; replace q275 := eq_true q275
    try go_wp2_with (first | ((with_reducible refine gate_dst (N := 4) rfl ?_); (try (refine gate_guard (by rfl) ?_; dsimp only)); refine bE 4 #[.string (⟨#[]⟩ : ByteArray), .string (⟨#[]⟩ : ByteArray), .int .i64 0] 45 ?_; intro gb276 hg w50 hbox hb; have BK276 := Aside0.mk (hbox); have GW276 : Aside0 (w.heap.size ≤ gb276) := GS; have GE276 := GW276; have NB274_276 := NL BK274.out hg; have NB276_274 := NG BK274.out hg; replace BK274 := BB BK274.out hb; replace HB := Aside0.mk (below_step (BL) hb); clear hb hbox hg; have hnb51 := NB276_274.out; have hnc51 := NB274_276.out; have hcz52_0 : w50.cell? ⟨gb276, 0, none⟩ = some (.string (⟨#[]⟩ : ByteArray)) := CZ BK276.out 0; have hcz52_1 : w50.cell? ⟨gb276, 1, none⟩ = some (.string (⟨#[]⟩ : ByteArray)) := CZ BK276.out 1; have hcz52_2 : w50.cell? ⟨gb276, 2, none⟩ = some (.int .i64 0) := CZ BK276.out 2; have hfz52_0 := blk_frozen BK276.out 0; have hfz52_1 := blk_frozen BK276.out 1; have hfz52_2 := blk_frozen BK276.out 2))
    have n0_ : Aside0 ((((w50.setCell ⟨gb276, 0, none⟩ (.string ((rd_T45 l0_0 x3_1).f0))).setCell ⟨gb276, 1, none⟩ (.string ((rd_T45 l0_0 x3_1).f1))).setCell ⟨gb276, 2, none⟩ (.int .i64 ((rd_T45 l0_0 x3_1).f2))).heap[gb274]? = some (.cells #[.slice (some ad275) l0_0.length c0_0] 29 (0, 0))) := ⟨BP BK274.out⟩; have n1_ : Aside0 ((((w50.setCell ⟨gb276, 0, none⟩ (.string ((rd_T45 l0_0 x3_1).f0))).setCell ⟨gb276, 1, none⟩ (.string ((rd_T45 l0_0 x3_1).f1))).setCell ⟨gb276, 2, none⟩ (.int .i64 ((rd_T45 l0_0 x3_1).f2))).heap[gb276]? = some (.cells #[.string ((rd_T45 l0_0 x3_1).f0), .string ((rd_T45 l0_0 x3_1).f1), .int .i64 ((rd_T45 l0_0 x3_1).f2)] 45 (0, 0))) := ⟨BU BK276.out⟩; have n2_ : Aside0 (Below w.heap.size w (((w50.setCell ⟨gb276, 0, none⟩ (.string ((rd_T45 l0_0 x3_1).f0))).setCell ⟨gb276, 1, none⟩ (.string ((rd_T45 l0_0 x3_1).f1))).setCell ⟨gb276, 2, none⟩ (.int .i64 ((rd_T45 l0_0 x3_1).f2)))) := ⟨BL⟩
    (try clear BK274)
    (try clear BK276)
    (try clear HB)
    generalize (((w50.setCell ⟨gb276, 0, none⟩ (.string ((rd_T45 l0_0 x3_1).f0))).setCell ⟨gb276, 1, none⟩ (.string ((rd_T45 l0_0 x3_1).f1))).setCell ⟨gb276, 2, none⟩ (.int .i64 ((rd_T45 l0_0 x3_1).f2))) = w53 at n0_ n1_ n2_ ⊢; have BK274 := n0_; have BK276 := n1_; have HB := n2_; clear n0_ n1_ n2_; have n0_ := Aside0.mk (blk_drew BK274.out); have n1_ := Aside0.mk (blk_drew BK276.out); have n2_ := Aside0.mk (below_drew1 HB.out); clear BK274; clear BK276; clear HB; have BK274 := n0_; have BK276 := n1_; have HB := n2_; clear n0_ n1_ n2_; refine start_ (n := 35) (S := fun w' => w'.cell? ⟨gb276, 0, none⟩ = some (.string ((rd_T45 l0_0 x3_1).f0)) ∧ w'.cell? ⟨gb276, 1, none⟩ = some (.string ((rd_T45 l0_0 x3_1).f1)) ∧ w'.cell? ⟨gb276, 2, none⟩ = some (.int .i64 ((rd_T45 l0_0 x3_1).f2))) (ds := []) #[false, false, false, false, false, false, false, false, false, false, false, false, false, false, false, false, false, false, false, false, false, false, false, false, false, false, false, false, false, false, false, false, false, false, false] (by kernel_rfl) rfl rfl ⟨CZ BK276.out 0, CZ BK276.out 1, CZ BK276.out 2⟩ (fun hHeld => ?_); refine with_tabW spec_DiskOk.tab7 spec_DiskOk.bits7 (fun HT_ HW_ => ?_); generalize w53.drew = w54 at BK274 BK276 HB hHeld ⊢; refine pV 0 21 (OB 35 1) ?_; refine take_ (i := 1) (N := some 22) (v := ?_) (a' := ?_) (OB 35 3) rfl rfl (take_ofW HT_.out HW_.out (by kernel_rfl)) (fun _ _ _ h => h) (Or.inl ⟨by rfl, ?_⟩) hHeld ?_ ?_; rotate_left
    ·
     rintro w' ⟨s0, s1, s2⟩
     go_simp
     with_reducible rfl
    rotate_left
    ·
     simp only [Act.put, zA, zB, zC, i64_w, i32_w]; rfl
    refine one_ (i := 2) (N := some 23) (OB 35 7) rfl rfl (one_of HT_.out (by kernel_rfl)) (by decide) (fun K hK => ?_); refine goes_ Try.func48 (by kernel_rfl) rfl #[.string ((rd_T45 l0_0 x3_1).f0)] (by rfl) rfl rfl (MA) ?_
    with_reducible refine (spec_l03Name.calls ((rd_T45 l0_0 x3_1).f0) false _ A9.out).mono ?_
    rintro e w' ⟨rfl, ⟨nd, rfl⟩⟩; refine ⟨_, rfl, ?_⟩; refine hK.out _ _ ⟨CZ BK276.out 0, CZ BK276.out 1, CZ BK276.out 2⟩ (fun hHeld => ?_); clear hK K; refine norm_ (a' := ?_) ?_ ?_; rotate_left
    ·
     show Act.put _ (some 23) _ = _; simp only [Act.put, zA, zB, zC, i64_w, i32_w]; rfl
    refine pV 3 24 (OB 35 15) ?_; refine pV 4 25 (OB 35 31) ?_; refine pN 5 26 (OB 35 63) ?_; refine pN 6 27 (OB 35 127) ?_; refine pN 7 28 (OB 35 255) ?_; refine pN 8 29 (OB 35 511) ?_; refine pV 9 30 (OB 35 1023) ?_; refine pV 10 31 (OB 35 2047) ?_; refine pN 11 32 (OB 35 4095) ?_; refine pN 12 33 (OB 35 8191) ?_; refine pN 13 34 (OB 35 16383) ?_; refine pN 14 35 (OB 35 32767) ?_; refine pN 15 36 (OB 35 65535) ?_; refine pN 16 37 (OB 35 131071) ?_; refine pN 17 38 (OB 35 262143) ?_; refine pV 18 39 (OB 35 524287) ?_; refine pV 19 40 (OB 35 1048575) ?_; refine pN 20 41 (OB 35 2097151) ?_; refine pN 21 42 (OB 35 4194303) ?_; refine pN 22 43 (OB 35 8388607) ?_; refine pN 23 44 (OB 35 16777215) ?_; refine pN 24 45 (OB 35 33554431) ?_; refine pN 25 46 (OB 35 67108863) ?_; refine pN 26 47 (OB 35 134217727) ?_; refine pN 27 48 (OB 35 268435455) ?_; refine pN 28 49 (OB 35 536870911) ?_; refine pN 29 50 (OB 35 1073741823) ?_; refine pN 30 51 (OB 35 2147483647) ?_; refine pN 31 52 (OB 35 4294967295) ?_; refine pN 32 53 (OB 35 8589934591) ?_; refine pN 33 54 (OB 35 17179869183) ?_; refine pV 34 55 (OB 35 34359738367) ?_; refine done_ (done_of HT_.out (by kernel_rfl)) ?_
    try go_wp2
    go_ret
    exact ⟨EE, BL⟩
   subst c10
   have H1 : (if (((rd_T45 l0_0 x3_1).f1).size : Int) > 20000 then (some false) else ((spec_l01In.f ((rd_T45 l0_0 x3_1).f2) 0 (((rd_T45 l0_0 x3_1).f1).size : Int)).bind fun t278 => (if t278 = true then (if x3_1 > 0 then (if 0 ≤ (wrap64 (x3_1 - 1)) then (if (wrap64 (x3_1 - 1)) < (l0_0.length : Int) then (if ((Op.bytesLess (((rd_T45 l0_0 (wrap64 (x3_1 - 1))).f0).toList) (((rd_T45 l0_0 x3_1).f0).toList)) = true) then (spec_DiskOk.l0 k1 (wrap64 (x3_1 + 1)) l0_0) else (some false)) else (none)) else (none)) else (spec_DiskOk.l0 k1 (wrap64 (x3_1 + 1)) l0_0)) else (some false)))) = some r := by rw [if_pos rfl] at H; exact H
   clear H; have H := H1; clear H1
   by_cases c11 : (((rd_T45 l0_0 x3_1).f1).size : Int) > 20000
   ·
    rw [if_pos c11] at H; have c11b0 : decide (20000 < (((rd_T45 l0_0 x3_1).f1).size : Int)) = true := decide_eq_true c11; have c11b1 : decide (20000 < ((rd_T45 l0_0 x3_1).f1).size) = true := decide_eq_true (by omega); clear c11; obtain rfl := Option.some.inj H; have hcz12_0 : wr.cell? ⟨gb274, 0, none⟩ = some (.slice A0_0 l0_0.length c0_0) := CZ BK274.out 0; have hfz12_0 := blk_frozen BK274.out 0; have p275 : 0 ≤ (x3_1 : Int) := of_decide_eq_true AS; have q275 : x3_1 < (l0_0.length : Int) := of_decide_eq_true AS; obtain ⟨ad275, e275, hx275_0, hx275_1, hx275_2⟩ := at_T45 HR0_0.out x3_1 p275 q275; cases e275; replace hx275_0 := (HB.out.cell (World.block_lt_of_cell? w _ hx275_0)).trans hx275_0; replace hx275_1 := (HB.out.cell (World.block_lt_of_cell? w _ hx275_1)).trans hx275_1; replace hx275_2 := (HB.out.cell (World.block_lt_of_cell? w _ hx275_2)).trans hx275_2; replace p275 := eq_true p275; replace q275 := eq_true q275
    try go_wp2_with (first | ((with_reducible refine gate_dst (N := 4) rfl ?_); (try (refine gate_guard (by rfl) ?_; dsimp only)); refine bE 4 #[.string (⟨#[]⟩ : ByteArray), .string (⟨#[]⟩ : ByteArray), .int .i64 0] 45 ?_; intro gb276 hg w13 hbox hb; have BK276 := Aside0.mk (hbox); have GW276 : Aside0 (w.heap.size ≤ gb276) := GS; have GE276 := GW276; have NB274_276 := NL BK274.out hg; have NB276_274 := NG BK274.out hg; replace BK274 := BB BK274.out hb; replace HB := Aside0.mk (below_step (BL) hb); clear hb hbox hg; have hnb14 := NB276_274.out; have hnc14 := NB274_276.out; have hcz15_0 : w13.cell? ⟨gb276, 0, none⟩ = some (.string (⟨#[]⟩ : ByteArray)) := CZ BK276.out 0; have hcz15_1 : w13.cell? ⟨gb276, 1, none⟩ = some (.string (⟨#[]⟩ : ByteArray)) := CZ BK276.out 1; have hcz15_2 : w13.cell? ⟨gb276, 2, none⟩ = some (.int .i64 0) := CZ BK276.out 2; have hfz15_0 := blk_frozen BK276.out 0; have hfz15_1 := blk_frozen BK276.out 1; have hfz15_2 := blk_frozen BK276.out 2))
    have n0_ : Aside0 ((((w13.setCell ⟨gb276, 0, none⟩ (.string ((rd_T45 l0_0 x3_1).f0))).setCell ⟨gb276, 1, none⟩ (.string ((rd_T45 l0_0 x3_1).f1))).setCell ⟨gb276, 2, none⟩ (.int .i64 ((rd_T45 l0_0 x3_1).f2))).heap[gb274]? = some (.cells #[.slice (some ad275) l0_0.length c0_0] 29 (0, 0))) := ⟨BP BK274.out⟩; have n1_ : Aside0 ((((w13.setCell ⟨gb276, 0, none⟩ (.string ((rd_T45 l0_0 x3_1).f0))).setCell ⟨gb276, 1, none⟩ (.string ((rd_T45 l0_0 x3_1).f1))).setCell ⟨gb276, 2, none⟩ (.int .i64 ((rd_T45 l0_0 x3_1).f2))).heap[gb276]? = some (.cells #[.string ((rd_T45 l0_0 x3_1).f0), .string ((rd_T45 l0_0 x3_1).f1), .int .i64 ((rd_T45 l0_0 x3_1).f2)] 45 (0, 0))) := ⟨BU BK276.out⟩; have n2_ : Aside0 (Below w.heap.size w (((w13.setCell ⟨gb276, 0, none⟩ (.string ((rd_T45 l0_0 x3_1).f0))).setCell ⟨gb276, 1, none⟩ (.string ((rd_T45 l0_0 x3_1).f1))).setCell ⟨gb276, 2, none⟩ (.int .i64 ((rd_T45 l0_0 x3_1).f2)))) := ⟨BL⟩
    (try clear BK274)
    (try clear BK276)
    (try clear HB)
    generalize (((w13.setCell ⟨gb276, 0, none⟩ (.string ((rd_T45 l0_0 x3_1).f0))).setCell ⟨gb276, 1, none⟩ (.string ((rd_T45 l0_0 x3_1).f1))).setCell ⟨gb276, 2, none⟩ (.int .i64 ((rd_T45 l0_0 x3_1).f2))) = w16 at n0_ n1_ n2_ ⊢; have BK274 := n0_; have BK276 := n1_; have HB := n2_; clear n0_ n1_ n2_; have n0_ := Aside0.mk (blk_drew BK274.out); have n1_ := Aside0.mk (blk_drew BK276.out); have n2_ := Aside0.mk (below_drew1 HB.out); clear BK274; clear BK276; clear HB; have BK274 := n0_; have BK276 := n1_; have HB := n2_; clear n0_ n1_ n2_; refine start_ (n := 35) (S := fun w' => w'.cell? ⟨gb276, 0, none⟩ = some (.string ((rd_T45 l0_0 x3_1).f0)) ∧ w'.cell? ⟨gb276, 1, none⟩ = some (.string ((rd_T45 l0_0 x3_1).f1)) ∧ w'.cell? ⟨gb276, 2, none⟩ = some (.int .i64 ((rd_T45 l0_0 x3_1).f2))) (ds := []) #[false, false, false, false, false, false, false, false, false, false, false, false, false, false, false, false, false, false, false, false, false, false, false, false, false, false, false, false, false, false, false, false, false, false, false] (by kernel_rfl) rfl rfl ⟨CZ BK276.out 0, CZ BK276.out 1, CZ BK276.out 2⟩ (fun hHeld => ?_); refine with_tabW spec_DiskOk.tab7 spec_DiskOk.bits7 (fun HT_ HW_ => ?_); generalize w16.drew = w17 at BK274 BK276 HB hHeld ⊢; refine pV 0 21 (OB 35 1) ?_; refine take_ (i := 1) (N := some 22) (v := ?_) (a' := ?_) (OB 35 3) rfl rfl (take_ofW HT_.out HW_.out (by kernel_rfl)) (fun _ _ _ h => h) (Or.inl ⟨by rfl, ?_⟩) hHeld ?_ ?_; rotate_left
    ·
     rintro w' ⟨s0, s1, s2⟩
     go_simp
     with_reducible rfl
    rotate_left
    ·
     simp only [Act.put, zA, zB, zC, i64_w, i32_w]; rfl
    refine one_ (i := 2) (N := some 23) (OB 35 7) rfl rfl (one_of HT_.out (by kernel_rfl)) (by decide) (fun K hK => ?_); refine goes_ Try.func48 (by kernel_rfl) rfl #[.string ((rd_T45 l0_0 x3_1).f0)] (by rfl) rfl rfl (MA) ?_
    with_reducible refine (spec_l03Name.calls ((rd_T45 l0_0 x3_1).f0) true _ A9.out).mono ?_
    rintro e w' ⟨rfl, ⟨nd, rfl⟩⟩; refine ⟨_, rfl, ?_⟩; refine hK.out _ _ ⟨CZ BK276.out 0, CZ BK276.out 1, CZ BK276.out 2⟩ (fun hHeld => ?_); clear hK K; refine norm_ (a' := ?_) ?_ ?_; rotate_left
    ·
     show Act.put _ (some 23) _ = _; simp only [Act.put, zA, zB, zC, i64_w, i32_w]; rfl
    refine pV 3 24 (OB 35 15) ?_; refine pV 4 25 (OB 35 31) ?_; refine pV 5 26 (OB 35 63) ?_; refine take_ (i := 6) (N := some 27) (v := ?_) (a' := ?_) (OB 35 127) rfl rfl (take_ofW HT_.out HW_.out (by kernel_rfl)) (fun _ _ _ h => h) (Or.inl ⟨by rfl, ?_⟩) hHeld ?_ ?_; rotate_left
    ·
     rintro w' ⟨s0, s1, s2⟩
     go_simp
     with_reducible rfl
    rotate_left
    ·
     simp only [Act.put, zA, zB, zC, i64_w, i32_w]; rfl
    refine pV 7 28 (OB 35 255) ?_; refine pV 8 29 (OB 35 511) ?_; refine pV 9 30 (OB 35 1023) ?_; refine pV 10 31 (OB 35 2047) ?_; refine pN 11 32 (OB 35 4095) ?_; refine pN 12 33 (OB 35 8191) ?_; refine pN 13 34 (OB 35 16383) ?_; refine pN 14 35 (OB 35 32767) ?_; refine pN 15 36 (OB 35 65535) ?_; refine pN 16 37 (OB 35 131071) ?_; refine pN 17 38 (OB 35 262143) ?_; refine pV 18 39 (OB 35 524287) ?_; refine pV 19 40 (OB 35 1048575) ?_; refine pN 20 41 (OB 35 2097151) ?_; refine pN 21 42 (OB 35 4194303) ?_; refine pN 22 43 (OB 35 8388607) ?_; refine pN 23 44 (OB 35 16777215) ?_; refine pN 24 45 (OB 35 33554431) ?_; refine pN 25 46 (OB 35 67108863) ?_; refine pN 26 47 (OB 35 134217727) ?_; refine pN 27 48 (OB 35 268435455) ?_; refine pN 28 49 (OB 35 536870911) ?_; refine pN 29 50 (OB 35 1073741823) ?_; refine pN 30 51 (OB 35 2147483647) ?_; refine pN 31 52 (OB 35 4294967295) ?_; refine pN 32 53 (OB 35 8589934591) ?_; refine pN 33 54 (OB 35 17179869183) ?_; refine pV 34 55 (OB 35 34359738367) ?_; refine done_ (done_of HT_.out (by kernel_rfl)) ?_
    try go_wp2
    go_ret
    exact ⟨EE, BL⟩
   rw [if_neg c11] at H; have c11b0 : decide (20000 < (((rd_T45 l0_0 x3_1).f1).size : Int)) = false := decide_eq_false c11; have c11b1 : decide (20000 < ((rd_T45 l0_0 x3_1).f1).size) = false := decide_eq_false (by omega); clear c11; replace H := Option.bind_eq_some_iff.mp H; obtain ⟨t278, A180, H⟩ := H; have A18 := Aside0.mk A180; clear A180
   by_cases c19 : t278 = true; rotate_left
   ·
    replace c19 := Bool.eq_false_iff.mpr c19; subst c19
    have H1 : (some false) = some r := by rw [if_neg (show ¬ (false = true) by decide)] at H; exact H
    clear H; have H := H1; clear H1; obtain rfl := Option.some.inj H; have hcz43_0 : wr.cell? ⟨gb274, 0, none⟩ = some (.slice A0_0 l0_0.length c0_0) := CZ BK274.out 0; have hfz43_0 := blk_frozen BK274.out 0; have p275 : 0 ≤ (x3_1 : Int) := of_decide_eq_true AS; have q275 : x3_1 < (l0_0.length : Int) := of_decide_eq_true AS; obtain ⟨ad275, e275, hx275_0, hx275_1, hx275_2⟩ := at_T45 HR0_0.out x3_1 p275 q275; cases e275; replace hx275_0 := (HB.out.cell (World.block_lt_of_cell? w _ hx275_0)).trans hx275_0; replace hx275_1 := (HB.out.cell (World.block_lt_of_cell? w _ hx275_1)).trans hx275_1; replace hx275_2 := (HB.out.cell (World.block_lt_of_cell? w _ hx275_2)).trans hx275_2; replace p275 := eq_true p275; replace q275 := eq_true q275
    try go_wp2_with (first | ((with_reducible refine gate_dst (N := 4) rfl ?_); (try (refine gate_guard (by rfl) ?_; dsimp only)); refine bE 4 #[.string (⟨#[]⟩ : ByteArray), .string (⟨#[]⟩ : ByteArray), .int .i64 0] 45 ?_; intro gb276 hg w44 hbox hb; have BK276 := Aside0.mk (hbox); have GW276 : Aside0 (w.heap.size ≤ gb276) := GS; have GE276 := GW276; have NB274_276 := NL BK274.out hg; have NB276_274 := NG BK274.out hg; replace BK274 := BB BK274.out hb; replace HB := Aside0.mk (below_step (BL) hb); clear hb hbox hg; have hnb45 := NB276_274.out; have hnc45 := NB274_276.out; have hcz46_0 : w44.cell? ⟨gb276, 0, none⟩ = some (.string (⟨#[]⟩ : ByteArray)) := CZ BK276.out 0; have hcz46_1 : w44.cell? ⟨gb276, 1, none⟩ = some (.string (⟨#[]⟩ : ByteArray)) := CZ BK276.out 1; have hcz46_2 : w44.cell? ⟨gb276, 2, none⟩ = some (.int .i64 0) := CZ BK276.out 2; have hfz46_0 := blk_frozen BK276.out 0; have hfz46_1 := blk_frozen BK276.out 1; have hfz46_2 := blk_frozen BK276.out 2))
    have n0_ : Aside0 ((((w44.setCell ⟨gb276, 0, none⟩ (.string ((rd_T45 l0_0 x3_1).f0))).setCell ⟨gb276, 1, none⟩ (.string ((rd_T45 l0_0 x3_1).f1))).setCell ⟨gb276, 2, none⟩ (.int .i64 ((rd_T45 l0_0 x3_1).f2))).heap[gb274]? = some (.cells #[.slice (some ad275) l0_0.length c0_0] 29 (0, 0))) := ⟨BP BK274.out⟩; have n1_ : Aside0 ((((w44.setCell ⟨gb276, 0, none⟩ (.string ((rd_T45 l0_0 x3_1).f0))).setCell ⟨gb276, 1, none⟩ (.string ((rd_T45 l0_0 x3_1).f1))).setCell ⟨gb276, 2, none⟩ (.int .i64 ((rd_T45 l0_0 x3_1).f2))).heap[gb276]? = some (.cells #[.string ((rd_T45 l0_0 x3_1).f0), .string ((rd_T45 l0_0 x3_1).f1), .int .i64 ((rd_T45 l0_0 x3_1).f2)] 45 (0, 0))) := ⟨BU BK276.out⟩; have n2_ : Aside0 (Below w.heap.size w (((w44.setCell ⟨gb276, 0, none⟩ (.string ((rd_T45 l0_0 x3_1).f0))).setCell ⟨gb276, 1, none⟩ (.string ((rd_T45 l0_0 x3_1).f1))).setCell ⟨gb276, 2, none⟩ (.int .i64 ((rd_T45 l0_0 x3_1).f2)))) := ⟨BL⟩
    (try clear BK274)
    (try clear BK276)
    (try clear HB)
    generalize (((w44.setCell ⟨gb276, 0, none⟩ (.string ((rd_T45 l0_0 x3_1).f0))).setCell ⟨gb276, 1, none⟩ (.string ((rd_T45 l0_0 x3_1).f1))).setCell ⟨gb276, 2, none⟩ (.int .i64 ((rd_T45 l0_0 x3_1).f2))) = w47 at n0_ n1_ n2_ ⊢; have BK274 := n0_; have BK276 := n1_; have HB := n2_; clear n0_ n1_ n2_; have n0_ := Aside0.mk (blk_drew BK274.out); have n1_ := Aside0.mk (blk_drew BK276.out); have n2_ := Aside0.mk (below_drew1 HB.out); clear BK274; clear BK276; clear HB; have BK274 := n0_; have BK276 := n1_; have HB := n2_; clear n0_ n1_ n2_; refine start_ (n := 35) (S := fun w' => w'.cell? ⟨gb276, 0, none⟩ = some (.string ((rd_T45 l0_0 x3_1).f0)) ∧ w'.cell? ⟨gb276, 1, none⟩ = some (.string ((rd_T45 l0_0 x3_1).f1)) ∧ w'.cell? ⟨gb276, 2, none⟩ = some (.int .i64 ((rd_T45 l0_0 x3_1).f2))) (ds := []) #[false, false, false, false, false, false, false, false, false, false, false, false, false, false, false, false, false, false, false, false, false, false, false, false, false, false, false, false, false, false, false, false, false, false, false] (by kernel_rfl) rfl rfl ⟨CZ BK276.out 0, CZ BK276.out 1, CZ BK276.out 2⟩ (fun hHeld => ?_); refine with_tabW spec_DiskOk.tab7 spec_DiskOk.bits7 (fun HT_ HW_ => ?_); generalize w47.drew = w48 at BK274 BK276 HB hHeld ⊢; refine pV 0 21 (OB 35 1) ?_; refine take_ (i := 1) (N := some 22) (v := ?_) (a' := ?_) (OB 35 3) rfl rfl (take_ofW HT_.out HW_.out (by kernel_rfl)) (fun _ _ _ h => h) (Or.inl ⟨by rfl, ?_⟩) hHeld ?_ ?_; rotate_left
    ·
     rintro w' ⟨s0, s1, s2⟩
     go_simp
     with_reducible rfl
    rotate_left
    ·
     simp only [Act.put, zA, zB, zC, i64_w, i32_w]; rfl
    refine one_ (i := 2) (N := some 23) (OB 35 7) rfl rfl (one_of HT_.out (by kernel_rfl)) (by decide) (fun K hK => ?_); refine goes_ Try.func48 (by kernel_rfl) rfl #[.string ((rd_T45 l0_0 x3_1).f0)] (by rfl) rfl rfl (MA) ?_
    with_reducible refine (spec_l03Name.calls ((rd_T45 l0_0 x3_1).f0) true _ A9.out).mono ?_
    rintro e w' ⟨rfl, ⟨nd, rfl⟩⟩; refine ⟨_, rfl, ?_⟩; refine hK.out _ _ ⟨CZ BK276.out 0, CZ BK276.out 1, CZ BK276.out 2⟩ (fun hHeld => ?_); clear hK K; refine norm_ (a' := ?_) ?_ ?_; rotate_left
    ·
     show Act.put _ (some 23) _ = _; simp only [Act.put, zA, zB, zC, i64_w, i32_w]; rfl
    refine pV 3 24 (OB 35 15) ?_; refine pV 4 25 (OB 35 31) ?_; refine pV 5 26 (OB 35 63) ?_; refine take_ (i := 6) (N := some 27) (v := ?_) (a' := ?_) (OB 35 127) rfl rfl (take_ofW HT_.out HW_.out (by kernel_rfl)) (fun _ _ _ h => h) (Or.inl ⟨by rfl, ?_⟩) hHeld ?_ ?_; rotate_left
    ·
     rintro w' ⟨s0, s1, s2⟩
     go_simp
     with_reducible rfl
    rotate_left
    ·
     simp only [Act.put, zA, zB, zC, i64_w, i32_w]; rfl
    refine pV 7 28 (OB 35 255) ?_; refine pV 8 29 (OB 35 511) ?_; refine pV 9 30 (OB 35 1023) ?_; refine pV 10 31 (OB 35 2047) ?_; refine pV 11 32 (OB 35 4095) ?_; refine pV 13 34 (OB 35 12287) ?_; refine take_ (i := 12) (N := some 33) (v := ?_) (a' := ?_) (OB 35 16383) rfl rfl (take_ofW HT_.out HW_.out (by kernel_rfl)) (fun _ _ _ h => h) (Or.inl ⟨by rfl, ?_⟩) hHeld ?_ ?_; rotate_left
    ·
     rintro w' ⟨s0, s1, s2⟩
     go_simp
     with_reducible rfl
    rotate_left
    ·
     simp only [Act.put, zA, zB, zC, i64_w, i32_w]; rfl
    refine take_ (i := 14) (N := some 35) (v := ?_) (a' := ?_) (OB 35 32767) rfl rfl (take_ofW HT_.out HW_.out (by kernel_rfl)) (fun _ _ _ h => h) (Or.inl ⟨by rfl, ?_⟩) hHeld ?_ ?_; rotate_left
    ·
     rintro w' ⟨s0, s1, s2⟩
     go_simp
     with_reducible rfl
    rotate_left
    ·
     simp only [Act.put, zA, zB, zC, i64_w, i32_w]; rfl
    refine pV 15 36 (OB 35 65535) ?_; refine one_ (i := 16) (N := some 37) (OB 35 131071) rfl rfl (one_of HT_.out (by kernel_rfl)) (by decide) (fun K hK => ?_); refine goes_ Try.func49 (by kernel_rfl) rfl #[.int .i64 ((rd_T45 l0_0 x3_1).f2), .int .i64 0, .int .i64 (((rd_T45 l0_0 x3_1).f1).size : Int)] (by rfl) rfl rfl (MA) ?_
    with_reducible refine (spec_l01In.calls ((rd_T45 l0_0 x3_1).f2) 0 (((rd_T45 l0_0 x3_1).f1).size : Int) false _ A18.out).mono ?_
    rintro e w' ⟨rfl, ⟨nd, rfl⟩⟩; refine ⟨_, rfl, ?_⟩; refine hK.out _ _ ⟨CZ BK276.out 0, CZ BK276.out 1, CZ BK276.out 2⟩ (fun hHeld => ?_); clear hK K; refine norm_ (a' := ?_) ?_ ?_; rotate_left
    ·
     show Act.put _ (some 37) _ = _; simp only [Act.put, zA, zB, zC, i64_w, i32_w]; rfl
    refine pV 17 38 (OB 35 262143) ?_; refine pV 18 39 (OB 35 524287) ?_; refine pV 19 40 (OB 35 1048575) ?_; refine pN 20 41 (OB 35 2097151) ?_; refine pN 21 42 (OB 35 4194303) ?_; refine pN 22 43 (OB 35 8388607) ?_; refine pN 23 44 (OB 35 16777215) ?_; refine pN 24 45 (OB 35 33554431) ?_; refine pN 25 46 (OB 35 67108863) ?_; refine pN 26 47 (OB 35 134217727) ?_; refine pN 27 48 (OB 35 268435455) ?_; refine pN 28 49 (OB 35 536870911) ?_; refine pN 29 50 (OB 35 1073741823) ?_; refine pN 30 51 (OB 35 2147483647) ?_; refine pN 31 52 (OB 35 4294967295) ?_; refine pN 32 53 (OB 35 8589934591) ?_; refine pN 33 54 (OB 35 17179869183) ?_; refine pV 34 55 (OB 35 34359738367) ?_; refine done_ (done_of HT_.out (by kernel_rfl)) ?_
    try go_wp2
    go_ret
    exact ⟨EE, BL⟩
   subst c19
   have H1 : (if x3_1 > 0 then (if 0 ≤ (wrap64 (x3_1 - 1)) then (if (wrap64 (x3_1 - 1)) < (l0_0.length : Int) then (if ((Op.bytesLess (((rd_T45 l0_0 (wrap64 (x3_1 - 1))).f0).toList) (((rd_T45 l0_0 x3_1).f0).toList)) = true) then (spec_DiskOk.l0 k1 (wrap64 (x3_1 + 1)) l0_0) else (some false)) else (none)) else (none)) else (spec_DiskOk.l0 k1 (wrap64 (x3_1 + 1)) l0_0)) = some r := by rw [if_pos rfl] at H; exact H
   clear H; have H := H1; clear H1
   by_cases c20 : x3_1 > 0; rotate_left
   ·
    rw [if_neg c20] at H; have c20b0 : decide (0 < x3_1) = false := decide_eq_false c20; clear c20; have H' := Aside0.mk H; clear H; have hcz37_0 : wr.cell? ⟨gb274, 0, none⟩ = some (.slice A0_0 l0_0.length c0_0) := CZ BK274.out 0; have hfz37_0 := blk_frozen BK274.out 0; have p275 : 0 ≤ (x3_1 : Int) := of_decide_eq_true AS; have q275 : x3_1 < (l0_0.length : Int) := of_decide_eq_true AS; obtain ⟨ad275, e275, hx275_0, hx275_1, hx275_2⟩ := at_T45 HR0_0.out x3_1 p275 q275; cases e275; replace hx275_0 := (HB.out.cell (World.block_lt_of_cell? w _ hx275_0)).trans hx275_0; replace hx275_1 := (HB.out.cell (World.block_lt_of_cell? w _ hx275_1)).trans hx275_1; replace hx275_2 := (HB.out.cell (World.block_lt_of_cell? w _ hx275_2)).trans hx275_2; replace p275 := eq_true p275; replace q275 := eq_true q275
    try go_wp2_with (first | ((with_reducible refine gate_dst (N := 4) rfl ?_); (try (refine gate_guard (by rfl) ?_; dsimp only)); refine bE 4 #[.string (⟨#[]⟩ : ByteArray), .string (⟨#[]⟩ : ByteArray), .int .i64 0] 45 ?_; intro gb276 hg w38 hbox hb; have BK276 := Aside0.mk (hbox); have GW276 : Aside0 (w.heap.size ≤ gb276) := GS; have GE276 := GW276; have NB274_276 := NL BK274.out hg; have NB276_274 := NG BK274.out hg; replace BK274 := BB BK274.out hb; replace HB := Aside0.mk (below_step (BL) hb); clear hb hbox hg; have hnb39 := NB276_274.out; have hnc39 := NB274_276.out; have hcz40_0 : w38.cell? ⟨gb276, 0, none⟩ = some (.string (⟨#[]⟩ : ByteArray)) := CZ BK276.out 0; have hcz40_1 : w38.cell? ⟨gb276, 1, none⟩ = some (.string (⟨#[]⟩ : ByteArray)) := CZ BK276.out 1; have hcz40_2 : w38.cell? ⟨gb276, 2, none⟩ = some (.int .i64 0) := CZ BK276.out 2; have hfz40_0 := blk_frozen BK276.out 0; have hfz40_1 := blk_frozen BK276.out 1; have hfz40_2 := blk_frozen BK276.out 2))
    have n0_ : Aside0 ((((w38.setCell ⟨gb276, 0, none⟩ (.string ((rd_T45 l0_0 x3_1).f0))).setCell ⟨gb276, 1, none⟩ (.string ((rd_T45 l0_0 x3_1).f1))).setCell ⟨gb276, 2, none⟩ (.int .i64 ((rd_T45 l0_0 x3_1).f2))).heap[gb274]? = some (.cells #[.slice (some ad275) l0_0.length c0_0] 29 (0, 0))) := ⟨BP BK274.out⟩; have n1_ : Aside0 ((((w38.setCell ⟨gb276, 0, none⟩ (.string ((rd_T45 l0_0 x3_1).f0))).setCell ⟨gb276, 1, none⟩ (.string ((rd_T45 l0_0 x3_1).f1))).setCell ⟨gb276, 2, none⟩ (.int .i64 ((rd_T45 l0_0 x3_1).f2))).heap[gb276]? = some (.cells #[.string ((rd_T45 l0_0 x3_1).f0), .string ((rd_T45 l0_0 x3_1).f1), .int .i64 ((rd_T45 l0_0 x3_1).f2)] 45 (0, 0))) := ⟨BU BK276.out⟩; have n2_ : Aside0 (Below w.heap.size w (((w38.setCell ⟨gb276, 0, none⟩ (.string ((rd_T45 l0_0 x3_1).f0))).setCell ⟨gb276, 1, none⟩ (.string ((rd_T45 l0_0 x3_1).f1))).setCell ⟨gb276, 2, none⟩ (.int .i64 ((rd_T45 l0_0 x3_1).f2)))) := ⟨BL⟩
    (try clear BK274)
    (try clear BK276)
    (try clear HB)
    generalize (((w38.setCell ⟨gb276, 0, none⟩ (.string ((rd_T45 l0_0 x3_1).f0))).setCell ⟨gb276, 1, none⟩ (.string ((rd_T45 l0_0 x3_1).f1))).setCell ⟨gb276, 2, none⟩ (.int .i64 ((rd_T45 l0_0 x3_1).f2))) = w41 at n0_ n1_ n2_ ⊢; have BK274 := n0_; have BK276 := n1_; have HB := n2_; clear n0_ n1_ n2_; have n0_ := Aside0.mk (blk_drew BK274.out); have n1_ := Aside0.mk (blk_drew BK276.out); have n2_ := Aside0.mk (below_drew1 HB.out); clear BK274; clear BK276; clear HB; have BK274 := n0_; have BK276 := n1_; have HB := n2_; clear n0_ n1_ n2_; refine start_ (n := 35) (S := fun w' => w'.cell? ⟨gb276, 0, none⟩ = some (.string ((rd_T45 l0_0 x3_1).f0)) ∧ w'.cell? ⟨gb276, 1, none⟩ = some (.string ((rd_T45 l0_0 x3_1).f1)) ∧ w'.cell? ⟨gb276, 2, none⟩ = some (.int .i64 ((rd_T45 l0_0 x3_1).f2))) (ds := []) #[false, false, false, false, false, false, false, false, false, false, false, false, false, false, false, false, false, false, false, false, false, false, false, false, false, false, false, false, false, false, false, false, false, false, false] (by kernel_rfl) rfl rfl ⟨CZ BK276.out 0, CZ BK276.out 1, CZ BK276.out 2⟩ (fun hHeld => ?_); refine with_tabW spec_DiskOk.tab7 spec_DiskOk.bits7 (fun HT_ HW_ => ?_); generalize w41.drew = w42 at BK274 BK276 HB hHeld ⊢; refine pV 0 21 (OB 35 1) ?_; refine take_ (i := 1) (N := some 22) (v := ?_) (a' := ?_) (OB 35 3) rfl rfl (take_ofW HT_.out HW_.out (by kernel_rfl)) (fun _ _ _ h => h) (Or.inl ⟨by rfl, ?_⟩) hHeld ?_ ?_; rotate_left
    ·
     rintro w' ⟨s0, s1, s2⟩
     go_simp
     with_reducible rfl
    rotate_left
    ·
     simp only [Act.put, zA, zB, zC, i64_w, i32_w]; rfl
    refine one_ (i := 2) (N := some 23) (OB 35 7) rfl rfl (one_of HT_.out (by kernel_rfl)) (by decide) (fun K hK => ?_); refine goes_ Try.func48 (by kernel_rfl) rfl #[.string ((rd_T45 l0_0 x3_1).f0)] (by rfl) rfl rfl (MA) ?_
    with_reducible refine (spec_l03Name.calls ((rd_T45 l0_0 x3_1).f0) true _ A9.out).mono ?_
    rintro e w' ⟨rfl, ⟨nd, rfl⟩⟩; refine ⟨_, rfl, ?_⟩; refine hK.out _ _ ⟨CZ BK276.out 0, CZ BK276.out 1, CZ BK276.out 2⟩ (fun hHeld => ?_); clear hK K; refine norm_ (a' := ?_) ?_ ?_; rotate_left
    ·
     show Act.put _ (some 23) _ = _; simp only [Act.put, zA, zB, zC, i64_w, i32_w]; rfl
    refine pV 3 24 (OB 35 15) ?_; refine pV 4 25 (OB 35 31) ?_; refine pV 5 26 (OB 35 63) ?_; refine take_ (i := 6) (N := some 27) (v := ?_) (a' := ?_) (OB 35 127) rfl rfl (take_ofW HT_.out HW_.out (by kernel_rfl)) (fun _ _ _ h => h) (Or.inl ⟨by rfl, ?_⟩) hHeld ?_ ?_; rotate_left
    ·
     rintro w' ⟨s0, s1, s2⟩
     go_simp
     with_reducible rfl
    rotate_left
    ·
     simp only [Act.put, zA, zB, zC, i64_w, i32_w]; rfl
    refine pV 7 28 (OB 35 255) ?_; refine pV 8 29 (OB 35 511) ?_; refine pV 9 30 (OB 35 1023) ?_; refine pV 10 31 (OB 35 2047) ?_; refine pV 11 32 (OB 35 4095) ?_; refine pV 13 34 (OB 35 12287) ?_; refine take_ (i := 12) (N := some 33) (v := ?_) (a' := ?_) (OB 35 16383) rfl rfl (take_ofW HT_.out HW_.out (by kernel_rfl)) (fun _ _ _ h => h) (Or.inl ⟨by rfl, ?_⟩) hHeld ?_ ?_; rotate_left
    ·
     rintro w' ⟨s0, s1, s2⟩
     go_simp
     with_reducible rfl
    rotate_left
    ·
     simp only [Act.put, zA, zB, zC, i64_w, i32_w]; rfl
    refine take_ (i := 14) (N := some 35) (v := ?_) (a' := ?_) (OB 35 32767) rfl rfl (take_ofW HT_.out HW_.out (by kernel_rfl)) (fun _ _ _ h => h) (Or.inl ⟨by rfl, ?_⟩) hHeld ?_ ?_; rotate_left
    ·
     rintro w' ⟨s0, s1, s2⟩
     go_simp
     with_reducible rfl
    rotate_left
    ·
     simp only [Act.put, zA, zB, zC, i64_w, i32_w]; rfl
    refine pV 15 36 (OB 35 65535) ?_; refine one_ (i := 16) (N := some 37) (OB 35 131071) rfl rfl (one_of HT_.out (by kernel_rfl)) (by decide) (fun K hK => ?_); refine goes_ Try.func49 (by kernel_rfl) rfl #[.int .i64 ((rd_T45 l0_0 x3_1).f2), .int .i64 0, .int .i64 (((rd_T45 l0_0 x3_1).f1).size : Int)] (by rfl) rfl rfl (MA) ?_
    with_reducible refine (spec_l01In.calls ((rd_T45 l0_0 x3_1).f2) 0 (((rd_T45 l0_0 x3_1).f1).size : Int) true _ A18.out).mono ?_
    rintro e w' ⟨rfl, ⟨nd, rfl⟩⟩; refine ⟨_, rfl, ?_⟩; refine hK.out _ _ ⟨CZ BK276.out 0, CZ BK276.out 1, CZ BK276.out 2⟩ (fun hHeld => ?_); clear hK K; refine norm_ (a' := ?_) ?_ ?_; rotate_left
    ·
     show Act.put _ (some 37) _ = _; simp only [Act.put, zA, zB, zC, i64_w, i32_w]; rfl
    refine pV 17 38 (OB 35 262143) ?_; refine pV 18 39 (OB 35 524287) ?_; refine pV 19 40 (OB 35 1048575) ?_; refine pV 20 41 (OB 35 2097151) ?_; refine pV 21 42 (OB 35 4194303) ?_; refine pV 22 43 (OB 35 8388607) ?_; refine pN 23 44 (OB 35 16777215) ?_; refine pN 24 45 (OB 35 33554431) ?_; refine pN 25 46 (OB 35 67108863) ?_; refine pN 26 47 (OB 35 134217727) ?_; refine pN 27 48 (OB 35 268435455) ?_; refine pN 28 49 (OB 35 536870911) ?_; refine pN 29 50 (OB 35 1073741823) ?_; refine pN 30 51 (OB 35 2147483647) ?_; refine pN 31 52 (OB 35 4294967295) ?_; refine pN 32 53 (OB 35 8589934591) ?_; refine pV 33 54 (OB 35 17179869183) ?_; refine pV 34 55 (OB 35 34359738367) ?_; refine done_ (done_of HT_.out (by kernel_rfl)) ?_
    try go_wp2
    go_roundg k1
    case measure => have := HK1.out; omega
    case rel => exact ⟨(wrap64 (x3_1 + 1)), SD, H', ⟨by have := HK1.out; omega⟩, ⟨BQ BK274.out⟩, ⟨BL⟩⟩
   rw [if_pos c20] at H; have c20b0 : decide (0 < x3_1) = true := decide_eq_true c20; clear c20; obtain ⟨ji21, hji21⟩ : ∃ j_ : Int, (wrap64 (x3_1 - 1)) = j_ := ⟨_, rfl⟩
   replace H : (if 0 ≤ (ji21) then (if (ji21) < (l0_0.length : Int) then (if ((Op.bytesLess (((rd_T45 l0_0 (ji21)).f0).toList) (((rd_T45 l0_0 x3_1).f0).toList)) = true) then (spec_DiskOk.l0 k1 (wrap64 (x3_1 + 1)) l0_0) else (some false)) else (none)) else (none)) = some r := by first | (rw [hji21] at H; exact H) | (simp only [hji21] at H ⊢; exact H)
   (try rw [hji21] at A9)
   (try rw [hji21] at A18)
   have hji21w : (IntKind.i64.wrap (x3_1 - 1)) = ji21 := (i64_w _).trans hji21
   by_cases c22 : 0 ≤ (ji21); rotate_left
   ·
    rw [if_neg c22] at H; exact absurd H (by simp)
   rw [if_pos c22] at H; have c22b0 : decide (0 ≤ (ji21)) = true := decide_eq_true c22; clear c22
   by_cases c23 : (ji21) < (l0_0.length : Int); rotate_left
   ·
    rw [if_neg c23] at H; exact absurd H (by simp)
   rw [if_pos c23] at H; have c23b0 : decide ((ji21) < (l0_0.length : Int)) = true := decide_eq_true c23; clear c23
   by_cases c24 : ((Op.bytesLess (((rd_T45 l0_0 (ji21)).f0).toList) (((rd_T45 l0_0 x3_1).f0).toList)) = true); rotate_left
   ·
    rw [if_neg c24] at H
    have c24b0 : (Op.bytesLess (((rd_T45 l0_0 (ji21)).f0).toList) (((rd_T45 l0_0 x3_1).f0).toList)) = false := by simpa using c24
    clear c24; obtain rfl := Option.some.inj H; have hcz31_0 : wr.cell? ⟨gb274, 0, none⟩ = some (.slice A0_0 l0_0.length c0_0) := CZ BK274.out 0; have hfz31_0 := blk_frozen BK274.out 0; have p275 : 0 ≤ (x3_1 : Int) := of_decide_eq_true AS; have q275 : x3_1 < (l0_0.length : Int) := of_decide_eq_true AS; obtain ⟨ad275, e275, hx275_0, hx275_1, hx275_2⟩ := at_T45 HR0_0.out x3_1 p275 q275; cases e275; replace hx275_0 := (HB.out.cell (World.block_lt_of_cell? w _ hx275_0)).trans hx275_0; replace hx275_1 := (HB.out.cell (World.block_lt_of_cell? w _ hx275_1)).trans hx275_1; replace hx275_2 := (HB.out.cell (World.block_lt_of_cell? w _ hx275_2)).trans hx275_2; replace p275 := eq_true p275; replace q275 := eq_true q275
    try go_wp2_with (first | ((with_reducible refine gate_dst (N := 4) rfl ?_); (try (refine gate_guard (by rfl) ?_; dsimp only)); refine bE 4 #[.string (⟨#[]⟩ : ByteArray), .string (⟨#[]⟩ : ByteArray), .int .i64 0] 45 ?_; intro gb276 hg w32 hbox hb; have BK276 := Aside0.mk (hbox); have GW276 : Aside0 (w.heap.size ≤ gb276) := GS; have GE276 := GW276; have NB274_276 := NL BK274.out hg; have NB276_274 := NG BK274.out hg; replace BK274 := BB BK274.out hb; replace HB := Aside0.mk (below_step (BL) hb); clear hb hbox hg; have hnb33 := NB276_274.out; have hnc33 := NB274_276.out; have hcz34_0 : w32.cell? ⟨gb276, 0, none⟩ = some (.string (⟨#[]⟩ : ByteArray)) := CZ BK276.out 0; have hcz34_1 : w32.cell? ⟨gb276, 1, none⟩ = some (.string (⟨#[]⟩ : ByteArray)) := CZ BK276.out 1; have hcz34_2 : w32.cell? ⟨gb276, 2, none⟩ = some (.int .i64 0) := CZ BK276.out 2; have hfz34_0 := blk_frozen BK276.out 0; have hfz34_1 := blk_frozen BK276.out 1; have hfz34_2 := blk_frozen BK276.out 2))
    have n0_ : Aside0 ((((w32.setCell ⟨gb276, 0, none⟩ (.string ((rd_T45 l0_0 x3_1).f0))).setCell ⟨gb276, 1, none⟩ (.string ((rd_T45 l0_0 x3_1).f1))).setCell ⟨gb276, 2, none⟩ (.int .i64 ((rd_T45 l0_0 x3_1).f2))).heap[gb274]? = some (.cells #[.slice (some ad275) l0_0.length c0_0] 29 (0, 0))) := ⟨BP BK274.out⟩; have n1_ : Aside0 ((((w32.setCell ⟨gb276, 0, none⟩ (.string ((rd_T45 l0_0 x3_1).f0))).setCell ⟨gb276, 1, none⟩ (.string ((rd_T45 l0_0 x3_1).f1))).setCell ⟨gb276, 2, none⟩ (.int .i64 ((rd_T45 l0_0 x3_1).f2))).heap[gb276]? = some (.cells #[.string ((rd_T45 l0_0 x3_1).f0), .string ((rd_T45 l0_0 x3_1).f1), .int .i64 ((rd_T45 l0_0 x3_1).f2)] 45 (0, 0))) := ⟨BU BK276.out⟩; have n2_ : Aside0 (Below w.heap.size w (((w32.setCell ⟨gb276, 0, none⟩ (.string ((rd_T45 l0_0 x3_1).f0))).setCell ⟨gb276, 1, none⟩ (.string ((rd_T45 l0_0 x3_1).f1))).setCell ⟨gb276, 2, none⟩ (.int .i64 ((rd_T45 l0_0 x3_1).f2)))) := ⟨BL⟩
    (try clear BK274)
    (try clear BK276)
    (try clear HB)
    generalize (((w32.setCell ⟨gb276, 0, none⟩ (.string ((rd_T45 l0_0 x3_1).f0))).setCell ⟨gb276, 1, none⟩ (.string ((rd_T45 l0_0 x3_1).f1))).setCell ⟨gb276, 2, none⟩ (.int .i64 ((rd_T45 l0_0 x3_1).f2))) = w35 at n0_ n1_ n2_ ⊢; have BK274 := n0_; have BK276 := n1_; have HB := n2_; clear n0_ n1_ n2_; have n0_ := Aside0.mk (blk_drew BK274.out); have n1_ := Aside0.mk (blk_drew BK276.out); have n2_ := Aside0.mk (below_drew1 HB.out); clear BK274; clear BK276; clear HB; have BK274 := n0_; have BK276 := n1_; have HB := n2_; clear n0_ n1_ n2_; have p279 : 0 ≤ ((ji21) : Int) := of_decide_eq_true AS; have q279 : (ji21) < (l0_0.length : Int) := of_decide_eq_true AS; obtain ⟨ad279, e279, hx279_0, hx279_1, hx279_2⟩ := at_T45 HR0_0.out (ji21) p279 q279; have hw279_2 := hx279_2; have hw279_1 := hx279_1; have hw279_0 := hx279_0; obtain rfl : ad275 = ad279 := (by injection e279); replace hx279_0 := (HB.out.cell (World.block_lt_of_cell? w _ hx279_0)).trans hx279_0; replace hx279_1 := (HB.out.cell (World.block_lt_of_cell? w _ hx279_1)).trans hx279_1; replace hx279_2 := (HB.out.cell (World.block_lt_of_cell? w _ hx279_2)).trans hx279_2; replace p279 := eq_true p279; replace q279 := eq_true q279; refine start_ (n := 35) (S := fun w' => w'.cell? ⟨gb276, 0, none⟩ = some (.string ((rd_T45 l0_0 x3_1).f0)) ∧ w'.cell? ⟨gb276, 1, none⟩ = some (.string ((rd_T45 l0_0 x3_1).f1)) ∧ w'.cell? ⟨gb276, 2, none⟩ = some (.int .i64 ((rd_T45 l0_0 x3_1).f2)) ∧ w'.cell? ⟨gb274, 0, none⟩ = some (.slice (some ad275) l0_0.length c0_0) ∧ w'.cell? (ad275.add (((ji21)).toNat * 3)) = some (.string ((rd_T45 l0_0 (ji21)).f0)) ∧ w'.cell? ⟨(ad275.add (((ji21)).toNat * 3)).block, (ad275.add (((ji21)).toNat * 3)).off + 1, none⟩ = some (.string ((rd_T45 l0_0 (ji21)).f1)) ∧ w'.cell? ⟨(ad275.add (((ji21)).toNat * 3)).block, (ad275.add (((ji21)).toNat * 3)).off + 2, none⟩ = some (.int .i64 ((rd_T45 l0_0 (ji21)).f2))) (ds := []) #[false, false, false, false, false, false, false, false, false, false, false, false, false, false, false, false, false, false, false, false, false, false, false, false, false, false, false, false, false, false, false, false, false, false, false] (by kernel_rfl) rfl rfl ⟨CZ BK276.out 0, CZ BK276.out 1, CZ BK276.out 2, CZ BK274.out 0, ((HB.out.cell (World.block_lt_of_cell? w _ hw279_0)).trans hw279_0), ((HB.out.cell (World.block_lt_of_cell? w _ hw279_1)).trans hw279_1), ((HB.out.cell (World.block_lt_of_cell? w _ hw279_2)).trans hw279_2)⟩ (fun hHeld => ?_); refine with_tabW spec_DiskOk.tab7 spec_DiskOk.bits7 (fun HT_ HW_ => ?_); generalize w35.drew = w36 at BK274 BK276 HB hx279_0 hx279_1 hx279_2 hHeld ⊢; refine pV 0 21 (OB 35 1) ?_; refine take_ (i := 1) (N := some 22) (v := ?_) (a' := ?_) (OB 35 3) rfl rfl (take_ofW HT_.out HW_.out (by kernel_rfl)) (fun _ _ _ h => h) (Or.inl ⟨by rfl, ?_⟩) hHeld ?_ ?_; rotate_left
    ·
     rintro w' ⟨s0, s1, s2, s3, s4, s5, s6⟩
     go_simp
     with_reducible rfl
    rotate_left
    ·
     simp only [Act.put, zA, zB, zC, i64_w, i32_w]; rfl
    refine one_ (i := 2) (N := some 23) (OB 35 7) rfl rfl (one_of HT_.out (by kernel_rfl)) (by decide) (fun K hK => ?_); refine goes_ Try.func48 (by kernel_rfl) rfl #[.string ((rd_T45 l0_0 x3_1).f0)] (by rfl) rfl rfl (MA) ?_
    with_reducible refine (spec_l03Name.calls ((rd_T45 l0_0 x3_1).f0) true _ A9.out).mono ?_
    rintro e w' ⟨rfl, ⟨nd, rfl⟩⟩; refine ⟨_, rfl, ?_⟩; refine hK.out _ _ ⟨CZ BK276.out 0, CZ BK276.out 1, CZ BK276.out 2, CZ BK274.out 0, ((HB.out.cell (World.block_lt_of_cell? w _ hw279_0)).trans hw279_0), ((HB.out.cell (World.block_lt_of_cell? w _ hw279_1)).trans hw279_1), ((HB.out.cell (World.block_lt_of_cell? w _ hw279_2)).trans hw279_2)⟩ (fun hHeld => ?_); clear hK K; refine norm_ (a' := ?_) ?_ ?_; rotate_left
    ·
     show Act.put _ (some 23) _ = _; simp only [Act.put, zA, zB, zC, i64_w, i32_w]; rfl
    refine pV 3 24 (OB 35 15) ?_; refine pV 4 25 (OB 35 31) ?_; refine pV 5 26 (OB 35 63) ?_; refine take_ (i := 6) (N := some 27) (v := ?_) (a' := ?_) (OB 35 127) rfl rfl (take_ofW HT_.out HW_.out (by kernel_rfl)) (fun _ _ _ h => h) (Or.inl ⟨by rfl, ?_⟩) hHeld ?_ ?_; rotate_left
    ·
     rintro w' ⟨s0, s1, s2, s3, s4, s5, s6⟩
     go_simp
     with_reducible rfl
    rotate_left
    ·
     simp only [Act.put, zA, zB, zC, i64_w, i32_w]; rfl
    refine pV 7 28 (OB 35 255) ?_; refine pV 8 29 (OB 35 511) ?_; refine pV 9 30 (OB 35 1023) ?_; refine pV 10 31 (OB 35 2047) ?_; refine pV 11 32 (OB 35 4095) ?_; refine pV 13 34 (OB 35 12287) ?_; refine take_ (i := 12) (N := some 33) (v := ?_) (a' := ?_) (OB 35 16383) rfl rfl (take_ofW HT_.out HW_.out (by kernel_rfl)) (fun _ _ _ h => h) (Or.inl ⟨by rfl, ?_⟩) hHeld ?_ ?_; rotate_left
    ·
     rintro w' ⟨s0, s1, s2, s3, s4, s5, s6⟩
     go_simp
     with_reducible rfl
    rotate_left
    ·
     simp only [Act.put, zA, zB, zC, i64_w, i32_w]; rfl
    refine take_ (i := 14) (N := some 35) (v := ?_) (a' := ?_) (OB 35 32767) rfl rfl (take_ofW HT_.out HW_.out (by kernel_rfl)) (fun _ _ _ h => h) (Or.inl ⟨by rfl, ?_⟩) hHeld ?_ ?_; rotate_left
    ·
     rintro w' ⟨s0, s1, s2, s3, s4, s5, s6⟩
     go_simp
     with_reducible rfl
    rotate_left
    ·
     simp only [Act.put, zA, zB, zC, i64_w, i32_w]; rfl
    refine pV 15 36 (OB 35 65535) ?_; refine one_ (i := 16) (N := some 37) (OB 35 131071) rfl rfl (one_of HT_.out (by kernel_rfl)) (by decide) (fun K hK => ?_); refine goes_ Try.func49 (by kernel_rfl) rfl #[.int .i64 ((rd_T45 l0_0 x3_1).f2), .int .i64 0, .int .i64 (((rd_T45 l0_0 x3_1).f1).size : Int)] (by rfl) rfl rfl (MA) ?_
    with_reducible refine (spec_l01In.calls ((rd_T45 l0_0 x3_1).f2) 0 (((rd_T45 l0_0 x3_1).f1).size : Int) true _ A18.out).mono ?_
    rintro e w' ⟨rfl, ⟨nd, rfl⟩⟩; refine ⟨_, rfl, ?_⟩; refine hK.out _ _ ⟨CZ BK276.out 0, CZ BK276.out 1, CZ BK276.out 2, CZ BK274.out 0, ((HB.out.cell (World.block_lt_of_cell? w _ hw279_0)).trans hw279_0), ((HB.out.cell (World.block_lt_of_cell? w _ hw279_1)).trans hw279_1), ((HB.out.cell (World.block_lt_of_cell? w _ hw279_2)).trans hw279_2)⟩ (fun hHeld => ?_); clear hK K; refine norm_ (a' := ?_) ?_ ?_; rotate_left
    ·
     show Act.put _ (some 37) _ = _; simp only [Act.put, zA, zB, zC, i64_w, i32_w]; rfl
    refine pV 17 38 (OB 35 262143) ?_; refine pV 18 39 (OB 35 524287) ?_; refine pV 19 40 (OB 35 1048575) ?_; refine pV 20 41 (OB 35 2097151) ?_; refine pV 21 42 (OB 35 4194303) ?_; refine pV 22 43 (OB 35 8388607) ?_; refine pV 23 44 (OB 35 16777215) ?_; refine pV 25 46 (OB 35 50331647) ?_; refine pV 26 47 (OB 35 117440511) ?_; refine pV 30 51 (OB 35 1191182335) ?_; refine take_ (i := 24) (N := some 45) (v := ?_) (a' := ?_) (OB 35 1207959551) rfl rfl (take_ofW HT_.out HW_.out (by kernel_rfl)) (fun _ _ _ h => h) (Or.inl ⟨by rfl, ?_⟩) hHeld ?_ ?_; rotate_left
    ·
     rintro w' ⟨s0, s1, s2, s3, s4, s5, s6⟩
     go_simp
     with_reducible rfl
    rotate_left
    ·
     simp only [Act.put, zA, zB, zC, i64_w, i32_w]; rfl
    refine pV 27 48 (OB 35 1342177279) ?_; refine pV 28 49 (OB 35 1610612735) ?_; refine take_ (i := 29) (N := some 50) (v := ?_) (a' := ?_) (OB 35 2147483647) rfl rfl (take_ofW HT_.out HW_.out (by kernel_rfl)) (fun _ _ _ h => h) (Or.inl ⟨by rfl, ?_⟩) hHeld ?_ ?_; rotate_left
    ·
     rintro w' ⟨s0, s1, s2, s3, s4, s5, s6⟩
     go_simp
     with_reducible rfl
    rotate_left
    ·
     simp only [Act.put, zA, zB, zC, i64_w, i32_w]; rfl
    refine take_ (i := 31) (N := some 52) (v := ?_) (a' := ?_) (OB 35 4294967295) rfl rfl (take_ofW HT_.out HW_.out (by kernel_rfl)) (fun _ _ _ h => h) (Or.inl ⟨by rfl, ?_⟩) hHeld ?_ ?_; rotate_left
    ·
     rintro w' ⟨s0, s1, s2, s3, s4, s5, s6⟩
     go_simp
     with_reducible rfl
    rotate_left
    ·
     simp only [Act.put, zA, zB, zC, i64_w, i32_w]; rfl
    refine pV 32 53 (OB 35 8589934591) ?_; refine pV 33 54 (OB 35 17179869183) ?_; refine pV 34 55 (OB 35 34359738367) ?_; refine done_ (done_of HT_.out (by kernel_rfl)) ?_
    try go_wp2
    go_ret
    exact ⟨by first | rfl | (simp [errW_none, errW_some] <;> rfl) | (simp only [← hji21]; first | rfl | (simp [errW_none, errW_some] <;> rfl)) | (simp [*, errW_none, errW_some] <;> rfl), BL⟩
   rw [if_pos c24] at H; have c24b0 : (Op.bytesLess (((rd_T45 l0_0 (ji21)).f0).toList) (((rd_T45 l0_0 x3_1).f0).toList)) = true := c24; clear c24; have H' := Aside0.mk H; clear H; have hcz25_0 : wr.cell? ⟨gb274, 0, none⟩ = some (.slice A0_0 l0_0.length c0_0) := CZ BK274.out 0; have hfz25_0 := blk_frozen BK274.out 0; have p275 : 0 ≤ (x3_1 : Int) := of_decide_eq_true AS; have q275 : x3_1 < (l0_0.length : Int) := of_decide_eq_true AS; obtain ⟨ad275, e275, hx275_0, hx275_1, hx275_2⟩ := at_T45 HR0_0.out x3_1 p275 q275; cases e275; replace hx275_0 := (HB.out.cell (World.block_lt_of_cell? w _ hx275_0)).trans hx275_0; replace hx275_1 := (HB.out.cell (World.block_lt_of_cell? w _ hx275_1)).trans hx275_1; replace hx275_2 := (HB.out.cell (World.block_lt_of_cell? w _ hx275_2)).trans hx275_2; replace p275 := eq_true p275; replace q275 := eq_true q275
   try go_wp2_with (first | ((with_reducible refine gate_dst (N := 4) rfl ?_); (try (refine gate_guard (by rfl) ?_; dsimp only)); refine bE 4 #[.string (⟨#[]⟩ : ByteArray), .string (⟨#[]⟩ : ByteArray), .int .i64 0] 45 ?_; intro gb276 hg w26 hbox hb; have BK276 := Aside0.mk (hbox); have GW276 : Aside0 (w.heap.size ≤ gb276) := GS; have GE276 := GW276; have NB274_276 := NL BK274.out hg; have NB276_274 := NG BK274.out hg; replace BK274 := BB BK274.out hb; replace HB := Aside0.mk (below_step (BL) hb); clear hb hbox hg; have hnb27 := NB276_274.out; have hnc27 := NB274_276.out; have hcz28_0 : w26.cell? ⟨gb276, 0, none⟩ = some (.string (⟨#[]⟩ : ByteArray)) := CZ BK276.out 0; have hcz28_1 : w26.cell? ⟨gb276, 1, none⟩ = some (.string (⟨#[]⟩ : ByteArray)) := CZ BK276.out 1; have hcz28_2 : w26.cell? ⟨gb276, 2, none⟩ = some (.int .i64 0) := CZ BK276.out 2; have hfz28_0 := blk_frozen BK276.out 0; have hfz28_1 := blk_frozen BK276.out 1; have hfz28_2 := blk_frozen BK276.out 2))
   have n0_ : Aside0 ((((w26.setCell ⟨gb276, 0, none⟩ (.string ((rd_T45 l0_0 x3_1).f0))).setCell ⟨gb276, 1, none⟩ (.string ((rd_T45 l0_0 x3_1).f1))).setCell ⟨gb276, 2, none⟩ (.int .i64 ((rd_T45 l0_0 x3_1).f2))).heap[gb274]? = some (.cells #[.slice (some ad275) l0_0.length c0_0] 29 (0, 0))) := ⟨BP BK274.out⟩; have n1_ : Aside0 ((((w26.setCell ⟨gb276, 0, none⟩ (.string ((rd_T45 l0_0 x3_1).f0))).setCell ⟨gb276, 1, none⟩ (.string ((rd_T45 l0_0 x3_1).f1))).setCell ⟨gb276, 2, none⟩ (.int .i64 ((rd_T45 l0_0 x3_1).f2))).heap[gb276]? = some (.cells #[.string ((rd_T45 l0_0 x3_1).f0), .string ((rd_T45 l0_0 x3_1).f1), .int .i64 ((rd_T45 l0_0 x3_1).f2)] 45 (0, 0))) := ⟨BU BK276.out⟩; have n2_ : Aside0 (Below w.heap.size w (((w26.setCell ⟨gb276, 0, none⟩ (.string ((rd_T45 l0_0 x3_1).f0))).setCell ⟨gb276, 1, none⟩ (.string ((rd_T45 l0_0 x3_1).f1))).setCell ⟨gb276, 2, none⟩ (.int .i64 ((rd_T45 l0_0 x3_1).f2)))) := ⟨BL⟩
   (try clear BK274)
   (try clear BK276)
   (try clear HB)
   generalize (((w26.setCell ⟨gb276, 0, none⟩ (.string ((rd_T45 l0_0 x3_1).f0))).setCell ⟨gb276, 1, none⟩ (.string ((rd_T45 l0_0 x3_1).f1))).setCell ⟨gb276, 2, none⟩ (.int .i64 ((rd_T45 l0_0 x3_1).f2))) = w29 at n0_ n1_ n2_ ⊢; have BK274 := n0_; have BK276 := n1_; have HB := n2_; clear n0_ n1_ n2_; have n0_ := Aside0.mk (blk_drew BK274.out); have n1_ := Aside0.mk (blk_drew BK276.out); have n2_ := Aside0.mk (below_drew1 HB.out); clear BK274; clear BK276; clear HB; have BK274 := n0_; have BK276 := n1_; have HB := n2_; clear n0_ n1_ n2_; have p279 : 0 ≤ ((ji21) : Int) := of_decide_eq_true AS; have q279 : (ji21) < (l0_0.length : Int) := of_decide_eq_true AS; obtain ⟨ad279, e279, hx279_0, hx279_1, hx279_2⟩ := at_T45 HR0_0.out (ji21) p279 q279; have hw279_2 := hx279_2; have hw279_1 := hx279_1; have hw279_0 := hx279_0; obtain rfl : ad275 = ad279 := (by injection e279); replace hx279_0 := (HB.out.cell (World.block_lt_of_cell? w _ hx279_0)).trans hx279_0; replace hx279_1 := (HB.out.cell (World.block_lt_of_cell? w _ hx279_1)).trans hx279_1; replace hx279_2 := (HB.out.cell (World.block_lt_of_cell? w _ hx279_2)).trans hx279_2; replace p279 := eq_true p279; replace q279 := eq_true q279; refine start_ (n := 35) (S := fun w' => w'.cell? ⟨gb276, 0, none⟩ = some (.string ((rd_T45 l0_0 x3_1).f0)) ∧ w'.cell? ⟨gb276, 1, none⟩ = some (.string ((rd_T45 l0_0 x3_1).f1)) ∧ w'.cell? ⟨gb276, 2, none⟩ = some (.int .i64 ((rd_T45 l0_0 x3_1).f2)) ∧ w'.cell? ⟨gb274, 0, none⟩ = some (.slice (some ad275) l0_0.length c0_0) ∧ w'.cell? (ad275.add (((ji21)).toNat * 3)) = some (.string ((rd_T45 l0_0 (ji21)).f0)) ∧ w'.cell? ⟨(ad275.add (((ji21)).toNat * 3)).block, (ad275.add (((ji21)).toNat * 3)).off + 1, none⟩ = some (.string ((rd_T45 l0_0 (ji21)).f1)) ∧ w'.cell? ⟨(ad275.add (((ji21)).toNat * 3)).block, (ad275.add (((ji21)).toNat * 3)).off + 2, none⟩ = some (.int .i64 ((rd_T45 l0_0 (ji21)).f2))) (ds := []) #[false, false, false, false, false, false, false, false, false, false, false, false, false, false, false, false, false, false, false, false, false, false, false, false, false, false, false, false, false, false, false, false, false, false, false] (by kernel_rfl) rfl rfl ⟨CZ BK276.out 0, CZ BK276.out 1, CZ BK276.out 2, CZ BK274.out 0, ((HB.out.cell (World.block_lt_of_cell? w _ hw279_0)).trans hw279_0), ((HB.out.cell (World.block_lt_of_cell? w _ hw279_1)).trans hw279_1), ((HB.out.cell (World.block_lt_of_cell? w _ hw279_2)).trans hw279_2)⟩ (fun hHeld => ?_); refine with_tabW spec_DiskOk.tab7 spec_DiskOk.bits7 (fun HT_ HW_ => ?_); generalize w29.drew = w30 at BK274 BK276 HB hx279_0 hx279_1 hx279_2 hHeld ⊢; refine pV 0 21 (OB 35 1) ?_; refine take_ (i := 1) (N := some 22) (v := ?_) (a' := ?_) (OB 35 3) rfl rfl (take_ofW HT_.out HW_.out (by kernel_rfl)) (fun _ _ _ h => h) (Or.inl ⟨by rfl, ?_⟩) hHeld ?_ ?_; rotate_left
   ·
    rintro w' ⟨s0, s1, s2, s3, s4, s5, s6⟩
    go_simp
    with_reducible rfl
   rotate_left
   ·
    simp only [Act.put, zA, zB, zC, i64_w, i32_w]; rfl
   refine one_ (i := 2) (N := some 23) (OB 35 7) rfl rfl (one_of HT_.out (by kernel_rfl)) (by decide) (fun K hK => ?_); refine goes_ Try.func48 (by kernel_rfl) rfl #[.string ((rd_T45 l0_0 x3_1).f0)] (by rfl) rfl rfl (MA) ?_
   with_reducible refine (spec_l03Name.calls ((rd_T45 l0_0 x3_1).f0) true _ A9.out).mono ?_
   rintro e w' ⟨rfl, ⟨nd, rfl⟩⟩; refine ⟨_, rfl, ?_⟩; refine hK.out _ _ ⟨CZ BK276.out 0, CZ BK276.out 1, CZ BK276.out 2, CZ BK274.out 0, ((HB.out.cell (World.block_lt_of_cell? w _ hw279_0)).trans hw279_0), ((HB.out.cell (World.block_lt_of_cell? w _ hw279_1)).trans hw279_1), ((HB.out.cell (World.block_lt_of_cell? w _ hw279_2)).trans hw279_2)⟩ (fun hHeld => ?_); clear hK K; refine norm_ (a' := ?_) ?_ ?_; rotate_left
   ·
    show Act.put _ (some 23) _ = _; simp only [Act.put, zA, zB, zC, i64_w, i32_w]; rfl
   refine pV 3 24 (OB 35 15) ?_; refine pV 4 25 (OB 35 31) ?_; refine pV 5 26 (OB 35 63) ?_; refine take_ (i := 6) (N := some 27) (v := ?_) (a' := ?_) (OB 35 127) rfl rfl (take_ofW HT_.out HW_.out (by kernel_rfl)) (fun _ _ _ h => h) (Or.inl ⟨by rfl, ?_⟩) hHeld ?_ ?_; rotate_left
   ·
    rintro w' ⟨s0, s1, s2, s3, s4, s5, s6⟩
    go_simp
    with_reducible rfl
   rotate_left
   ·
    simp only [Act.put, zA, zB, zC, i64_w, i32_w]; rfl
   refine pV 7 28 (OB 35 255) ?_; refine pV 8 29 (OB 35 511) ?_; refine pV 9 30 (OB 35 1023) ?_; refine pV 10 31 (OB 35 2047) ?_; refine pV 11 32 (OB 35 4095) ?_; refine pV 13 34 (OB 35 12287) ?_; refine take_ (i := 12) (N := some 33) (v := ?_) (a' := ?_) (OB 35 16383) rfl rfl (take_ofW HT_.out HW_.out (by kernel_rfl)) (fun _ _ _ h => h) (Or.inl ⟨by rfl, ?_⟩) hHeld ?_ ?_; rotate_left
   ·
    rintro w' ⟨s0, s1, s2, s3, s4, s5, s6⟩
    go_simp
    with_reducible rfl
   rotate_left
   ·
    simp only [Act.put, zA, zB, zC, i64_w, i32_w]; rfl
   refine take_ (i := 14) (N := some 35) (v := ?_) (a' := ?_) (OB 35 32767) rfl rfl (take_ofW HT_.out HW_.out (by kernel_rfl)) (fun _ _ _ h => h) (Or.inl ⟨by rfl, ?_⟩) hHeld ?_ ?_; rotate_left
   ·
    rintro w' ⟨s0, s1, s2, s3, s4, s5, s6⟩
    go_simp
    with_reducible rfl
   rotate_left
   ·
    simp only [Act.put, zA, zB, zC, i64_w, i32_w]; rfl
   refine pV 15 36 (OB 35 65535) ?_; refine one_ (i := 16) (N := some 37) (OB 35 131071) rfl rfl (one_of HT_.out (by kernel_rfl)) (by decide) (fun K hK => ?_); refine goes_ Try.func49 (by kernel_rfl) rfl #[.int .i64 ((rd_T45 l0_0 x3_1).f2), .int .i64 0, .int .i64 (((rd_T45 l0_0 x3_1).f1).size : Int)] (by rfl) rfl rfl (MA) ?_
   with_reducible refine (spec_l01In.calls ((rd_T45 l0_0 x3_1).f2) 0 (((rd_T45 l0_0 x3_1).f1).size : Int) true _ A18.out).mono ?_
   rintro e w' ⟨rfl, ⟨nd, rfl⟩⟩; refine ⟨_, rfl, ?_⟩; refine hK.out _ _ ⟨CZ BK276.out 0, CZ BK276.out 1, CZ BK276.out 2, CZ BK274.out 0, ((HB.out.cell (World.block_lt_of_cell? w _ hw279_0)).trans hw279_0), ((HB.out.cell (World.block_lt_of_cell? w _ hw279_1)).trans hw279_1), ((HB.out.cell (World.block_lt_of_cell? w _ hw279_2)).trans hw279_2)⟩ (fun hHeld => ?_); clear hK K; refine norm_ (a' := ?_) ?_ ?_; rotate_left
   ·
    show Act.put _ (some 37) _ = _; simp only [Act.put, zA, zB, zC, i64_w, i32_w]; rfl
   refine pV 17 38 (OB 35 262143) ?_; refine pV 18 39 (OB 35 524287) ?_; refine pV 19 40 (OB 35 1048575) ?_; refine pV 20 41 (OB 35 2097151) ?_; refine pV 21 42 (OB 35 4194303) ?_; refine pV 22 43 (OB 35 8388607) ?_; refine pV 23 44 (OB 35 16777215) ?_; refine pV 25 46 (OB 35 50331647) ?_; refine pV 26 47 (OB 35 117440511) ?_; refine pV 30 51 (OB 35 1191182335) ?_; refine take_ (i := 24) (N := some 45) (v := ?_) (a' := ?_) (OB 35 1207959551) rfl rfl (take_ofW HT_.out HW_.out (by kernel_rfl)) (fun _ _ _ h => h) (Or.inl ⟨by rfl, ?_⟩) hHeld ?_ ?_; rotate_left
   ·
    rintro w' ⟨s0, s1, s2, s3, s4, s5, s6⟩
    go_simp
    with_reducible rfl
   rotate_left
   ·
    simp only [Act.put, zA, zB, zC, i64_w, i32_w]; rfl
   refine pV 27 48 (OB 35 1342177279) ?_; refine pV 28 49 (OB 35 1610612735) ?_; refine take_ (i := 29) (N := some 50) (v := ?_) (a' := ?_) (OB 35 2147483647) rfl rfl (take_ofW HT_.out HW_.out (by kernel_rfl)) (fun _ _ _ h => h) (Or.inl ⟨by rfl, ?_⟩) hHeld ?_ ?_; rotate_left
   ·
    rintro w' ⟨s0, s1, s2, s3, s4, s5, s6⟩
    go_simp
    with_reducible rfl
   rotate_left
   ·
    simp only [Act.put, zA, zB, zC, i64_w, i32_w]; rfl
   refine take_ (i := 31) (N := some 52) (v := ?_) (a' := ?_) (OB 35 4294967295) rfl rfl (take_ofW HT_.out HW_.out (by kernel_rfl)) (fun _ _ _ h => h) (Or.inl ⟨by rfl, ?_⟩) hHeld ?_ ?_; rotate_left
   ·
    rintro w' ⟨s0, s1, s2, s3, s4, s5, s6⟩
    go_simp
    with_reducible rfl
   rotate_left
   ·
    simp only [Act.put, zA, zB, zC, i64_w, i32_w]; rfl
   refine pV 32 53 (OB 35 8589934591) ?_; refine pV 33 54 (OB 35 17179869183) ?_; refine pV 34 55 (OB 35 34359738367) ?_; refine done_ (done_of HT_.out (by kernel_rfl)) ?_
   try go_wp2
   go_roundg k1
   case measure => have := HK1.out; omega
   case rel => exact ⟨(wrap64 (x3_1 + 1)), SD, H', ⟨by have := HK1.out; omega⟩, ⟨BQ BK274.out⟩, ⟨BL⟩⟩

end Go.Proofs.Ythfppepnpngfmaa.Qcu
