-- Laid by myprint.py, a program of this session's own, over the kit's print. Not trusted: Lean checks it.
import Derived.Test.YthfppepnpngfmaaQcux0
import Derived.Test.YthfppepnpngfmaaQcux3
namespace Go.Proofs.Ythfppepnpngfmaa.Qcu
open Go.RowKit Go.Proofs.YthfppepnpngfmaaW.PrintWords Go.Proofs.YthfppepnpngfmaaW.PrintLast Go.Proofs.YthfppepnpngfmaaW.PrintMore
attribute [local go_sem] Go.Proofs.Ythfppepnpngfmaa.StrCmp.gtr_less Go.Proofs.Ythfppepnpngfmaa.StrCmp.geq_less Go.Proofs.Ythfppepnpngfmaa.StrCmp.leq_less max2_int min2_int max_two min_two max_three min_three max_four min_four   -- for this text's walks alone
set_option linter.unusedVariables false
set_option linter.unusedSimpArgs false

/-! ### impl_LoseDisk: function 25 -/
def impl_LoseDisk.l0 : Nat → List Int → List (S45) → Int → Int → List (S45) → Option ((List (S45)) × Bool)
 | 0, _, _, _, _, _ => none
 | k + 1, x1, x17, x18, x19, x205000 => if x19 < x18 then (if 0 ≤ x19 then (if x19 < (x17.length : Int) then (if x19 < (x1.length : Int) then (if 0 ≤ (mx ((rd_T45 x17 x19).f2) (mn (rd x1 x19) (((rd_T45 x17 x19).f1).size : Int))) then (if (mx ((rd_T45 x17 x19).f2) (mn (rd x1 x19) (((rd_T45 x17 x19).f1).size : Int))) ≤ (((rd_T45 x17 x19).f1).size : Int) then (if x19 < (x205000.length : Int) then (impl_LoseDisk.l0 k x1 x17 x18 (wrap64 (x19 + 1)) (x205000.set (x19 : Int).toNat (⟨(rd_T45 x17 x19).f0, ((rd_T45 x17 x19).f1).extract 0 ((mx ((rd_T45 x17 x19).f2) (mn (rd x1 x19) (((rd_T45 x17 x19).f1).size : Int))) : Int).toNat, mx ((rd_T45 x17 x19).f2) (mn (rd x1 x19) (((rd_T45 x17 x19).f1).size : Int))⟩ : S45))) else (none)) else (none)) else (none)) else (if 0 ≤ ((rd_T45 x17 x19).f2) then (if ((rd_T45 x17 x19).f2) ≤ (((rd_T45 x17 x19).f1).size : Int) then (if x19 < (x205000.length : Int) then (impl_LoseDisk.l0 k x1 x17 x18 (wrap64 (x19 + 1)) (x205000.set (x19 : Int).toNat (⟨(rd_T45 x17 x19).f0, ((rd_T45 x17 x19).f1).extract 0 (((rd_T45 x17 x19).f2) : Int).toNat, (rd_T45 x17 x19).f2⟩ : S45))) else (none)) else (none)) else (none))) else (none)) else (none)) else (some (x205000, true))
def impl_LoseDisk.f (k : Nat) (l0_0 : List (S45)) (l1 : List Int) : Option ((List (S45)) × Bool) := (impl_DiskOk.f k l0_0).bind fun t200 => (if t200 = true then ((impl_copyDisk.f l0_0).bind fun t201 => (impl_LoseDisk.l0 k l1 l0_0 (l0_0.length : Int) 0 t201)) else (some (([] : List (S45)), false)))
theorem impl_LoseDisk.mono_l : ∀ k, (∀ y0 y1 y2 y3 y4, LeO (impl_LoseDisk.l0 k y0 y1 y2 y3 y4) (impl_LoseDisk.l0 (k + 1) y0 y1 y2 y3 y4))
 | 0 => fun _ _ _ _ _ r h => by simp [impl_LoseDisk.l0] at h
 | k + 1 => by
  have ih0 := impl_LoseDisk.mono_l k
  ·
   intro y0 y1 y2 y3 y4
   unfold impl_LoseDisk.l0
   repeat' first
   | (with_reducible exact ih0 _ _ _ _ _)
   | (with_reducible exact impl_DiskOk.mono _ _)
   | (with_reducible exact LeO.refl _)
   | (with_reducible exact LeO.none _)
   | (with_reducible refine LeO.ite ?_ ?_)
   | (with_reducible refine LeO.bind ?_ (fun _ => ?_))
   | exact ih0 _ _ _ _ _
   | exact impl_DiskOk.mono _ _
   | exact LeO.none _
   | refine LeO.ite ?_ ?_
   | refine LeO.bind ?_ (fun _ => ?_)
theorem impl_LoseDisk.mono : ∀ a0 a1 k, LeO (impl_LoseDisk.f k a0 a1) (impl_LoseDisk.f (k + 1) a0 a1) := by
 intro a0 a1 k
 have ih0 := impl_LoseDisk.mono_l k
 unfold impl_LoseDisk.f
 repeat' first
   | (with_reducible exact ih0 _ _ _ _ _)
   | (with_reducible exact impl_DiskOk.mono _ _)
   | (with_reducible exact LeO.refl _)
   | (with_reducible exact LeO.none _)
   | (with_reducible refine LeO.ite ?_ ?_)
   | (with_reducible refine LeO.bind ?_ (fun _ => ?_))
   | exact ih0 _ _ _ _ _
   | exact impl_DiskOk.mono _ _
   | exact LeO.none _
   | refine LeO.ite ?_ ?_
   | refine LeO.bind ?_ (fun _ => ?_)
def impl_LoseDisk.T9 : Bool × List (List Nat × List Nat) := (true, [([], []), ([], []), ([], []), ([1, 2], [1, 2]), ([3], [3]), ([], []), ([5], [5]), ([6], [6]), ([4, 7], [4, 7]), ([0, 8], [0, 8]), ([9, 0, 1, 2, 3, 4, 5, 6, 7, 8, 9], [0, 9])])
def impl_LoseDisk.B9 : List Nat := [0, 0, 0, 6, 14, 0, 32, 96, 254, 511, 1023]
theorem impl_LoseDisk.tab9 : rtab .any (opsOf Try.f25 9) = impl_LoseDisk.T9 := by kernel_rfl
theorem impl_LoseDisk.bits9 : waitsOk impl_LoseDisk.T9.2 impl_LoseDisk.B9 = true := by kernel_rfl
def impl_LoseDisk.T10 : Bool × List (List Nat × List Nat) := (true, [([], []), ([0], [0]), ([], []), ([], []), ([3], [3]), ([], []), ([5], [5]), ([], []), ([6, 7], [6, 7]), ([], []), ([4, 8, 9], [4, 8, 9]), ([1, 2, 0, 1, 2, 3, 4, 5, 6, 7, 8, 9, 10], [1, 2]), ([11, 10, 0, 1, 2, 3, 4, 5, 6, 7, 8, 9, 10], [10, 11])])
def impl_LoseDisk.B10 : List Nat := [0, 1, 0, 0, 8, 0, 32, 0, 224, 0, 1016, 2047, 4095]
theorem impl_LoseDisk.tab10 : rtab .any (opsOf Try.f25 10) = impl_LoseDisk.T10 := by kernel_rfl
theorem impl_LoseDisk.bits10 : waitsOk impl_LoseDisk.T10.2 impl_LoseDisk.B10 = true := by kernel_rfl
set_option maxHeartbeats 8000000 in
set_option maxRecDepth 100000 in
theorem impl_LoseDisk.calls (k : Nat) (A0_0 : Option Addr) (c0_0 : Nat) (l0_0 : List (S45)) (A1 : Option Addr) (c1 : Nat) (l1 : List Int) (r1 : List (S45)) (r2 : Bool) (w : World) (hr0_0 : Kd.C k45 w A0_0 l0_0.length l0_0) (hc0_0 : l0_0.length ≤ c0_0) (hr1 : Kd.C (Kd.int .i64) w A1 l1.length l1) (hc1 : l1.length ≤ c1) (h : impl_LoseDisk.f k l0_0 l1 = some (r1, r2)) :
  Calls Try.prog 25 #[.agg #[.slice A0_0 l0_0.length c0_0], .slice A1 l1.length c1] w fun e w' => ∃ v0_ : Value, e = .returned (.tuple #[.agg #[v0_], .bool r2]) ∧ Kd.R k45 45 w' w.heap.size (fun _ => True) v0_ r1 ∧ Below w.heap.size w w' := by
 have hu29 := Try.underlying29
 have hu45 := Try.underlying45
 have HR0_0 := Aside0.mk hr0_0
 have HC0_0 := Aside0.mk hc0_0
 clear hr0_0 hc0_0
 have HR1 := Aside0.mk hr1
 have HC1 := Aside0.mk hc1
 clear hr1 hc1
 have HB := Aside0.mk (Below.refl w.heap.size w)
 have H : ((impl_DiskOk.f k l0_0).bind fun t200 => (if t200 = true then ((impl_copyDisk.f l0_0).bind fun t201 => (impl_LoseDisk.l0 k l1 l0_0 (l0_0.length : Int) 0 t201)) else (some (([] : List (S45)), false)))) = some (r1, r2) := h
 clear h
 replace H := Option.bind_eq_some_iff.mp H
 obtain ⟨t200, A30, H⟩ := H
 have A3 := Aside0.mk A30
 clear A30
 by_cases c4 : t200 = true; rotate_left
 ·
  replace c4 := Bool.eq_false_iff.mpr c4; subst c4
  have H1 : (some (([] : List (S45)), false)) = some (r1, r2) := by rw [if_neg (show ¬ (false = true) by decide)] at H; exact H
  clear H; have H := H1; clear H1; simp only [Option.some.injEq, Prod.mk.injEq] at H; obtain ⟨rfl, rfl⟩ := H
  go_enter Try.func25, Try.ntmps25
  go_wp2_with (first | ((with_reducible refine gate_dst (N := 2) rfl ?_); refine bE 2 #[.slice A0_0 l0_0.length c0_0] 29 ?_; intro gb198 hg w56 hbox hb; have BK198 := Aside0.mk (hbox); have GW198 : Aside0 (w.heap.size ≤ gb198) := GS; have GE198 := GW198; replace HB := Aside0.mk (below_step (BL) hb); clear hb hbox hg) | ((with_reducible refine gate_dst (N := 4) rfl ?_); refine bE 4 #[.slice none 0 0] 29 ?_; intro gb199 hg w57 hbox hb; have BK199 := Aside0.mk (hbox); have GW199 : Aside0 (w.heap.size ≤ gb199) := GS; have GE199 := GW199; have NB198_199 := NL BK198.out hg; have NB199_198 := NG BK198.out hg; replace BK198 := BB BK198.out hb; replace HB := Aside0.mk (below_step (BL) hb); clear hb hbox hg; have hnb58 := NB198_199.out; have hnc58 := NB199_198.out; have hcz59_0 : w57.cell? ⟨gb198, 0, none⟩ = some (.slice A0_0 l0_0.length c0_0) := CZ BK198.out 0; have hfz59_0 := blk_frozen BK198.out 0) | ((with_reducible refine gate_callee (f := 15) rfl ?_); refine goesL_ (some 11) rfl rfl Try.func15 (by kernel_rfl) rfl #[.agg #[.slice A0_0 l0_0.length c0_0]] rfl (MA) ?_; (with_reducible refine (impl_DiskOk.calls k _ _ l0_0 false _ ?side1 ?side2 A3.out).mono ?_); (case side1 => exact CB HR0_0.out); (case side2 => exact HC0_0.out); rintro e w60 ⟨rfl, hb⟩; refine ⟨_, rfl, ?_⟩; replace BK198 := BB BK198.out hb; replace BK199 := BB BK199.out hb; replace HB := Aside0.mk (below_step (BL) hb); (try clear hb); (try clear hb2); (try clear hk); (try clear hi); have hcz61_0 : w60.cell? ⟨gb199, 0, none⟩ = some (.slice none 0 0) := CZ BK199.out 0; have hfz61_0 := blk_frozen BK199.out 0))
  refine bodyPost_ret (results_ct rfl _ _ gb199 29 #[.slice none 0 0] (0, 0) _ rfl (BU BK199.out) Try.underlying29 rfl (by kernel_rfl)) rfl ?_; exact ⟨_, EE, by first | exact Kd.R_nil _ _ _ _ _ | exact Kd.N_nil _ _ _ _ _ | exact Kd.V_nil _ _ _ _ _ | exact Kd.Q_nil _ _ _ _ _ | exact Kd.S_nil _ _ _ _ _, BL⟩
 subst c4
 have H1 : ((impl_copyDisk.f l0_0).bind fun t201 => (impl_LoseDisk.l0 k l1 l0_0 (l0_0.length : Int) 0 t201)) = some (r1, r2) := by rw [if_pos rfl] at H; exact H
 clear H
 have H := H1
 clear H1
 replace H := Option.bind_eq_some_iff.mp H
 obtain ⟨t201, A50, H⟩ := H
 have A5 := Aside0.mk A50
 clear A50
 have H' := Aside0.mk H
 clear H
 go_enter Try.func25, Try.ntmps25
 go_wp2_with (first | ((with_reducible refine gate_dst (N := 2) rfl ?_); refine bE 2 #[.slice A0_0 l0_0.length c0_0] 29 ?_; intro gb198 hg w6 hbox hb; have BK198 := Aside0.mk (hbox); have GW198 : Aside0 (w.heap.size ≤ gb198) := GS; have GE198 := GW198; replace HB := Aside0.mk (below_step (BL) hb); clear hb hbox hg) | ((with_reducible refine gate_dst (N := 4) rfl ?_); refine bE 4 #[.slice none 0 0] 29 ?_; intro gb199 hg w7 hbox hb; have BK199 := Aside0.mk (hbox); have GW199 : Aside0 (w.heap.size ≤ gb199) := GS; have GE199 := GW199; have NB198_199 := NL BK198.out hg; have NB199_198 := NG BK198.out hg; replace BK198 := BB BK198.out hb; replace HB := Aside0.mk (below_step (BL) hb); clear hb hbox hg; have hnb8 := NB198_199.out; have hnc8 := NB199_198.out; have hcz9_0 : w7.cell? ⟨gb198, 0, none⟩ = some (.slice A0_0 l0_0.length c0_0) := CZ BK198.out 0; have hfz9_0 := blk_frozen BK198.out 0) | ((with_reducible refine gate_callee (f := 15) rfl ?_); refine goesL_ (some 11) rfl rfl Try.func15 (by kernel_rfl) rfl #[.agg #[.slice A0_0 l0_0.length c0_0]] rfl (MA) ?_; (with_reducible refine (impl_DiskOk.calls k _ _ l0_0 true _ ?side1 ?side2 A3.out).mono ?_); (case side1 => exact CB HR0_0.out); (case side2 => exact HC0_0.out); rintro e w10 ⟨rfl, hb⟩; refine ⟨_, rfl, ?_⟩; replace BK198 := BB BK198.out hb; replace BK199 := BB BK199.out hb; replace HB := Aside0.mk (below_step (BL) hb); (try clear hb); (try clear hb2); (try clear hk); (try clear hi); have hcz11_0 : w10.cell? ⟨gb198, 0, none⟩ = some (.slice A0_0 l0_0.length c0_0) := CZ BK198.out 0; have hfz11_0 := blk_frozen BK198.out 0) | ((with_reducible refine gate_callee (f := 61) rfl ?_); refine goesL_ (some 15) rfl rfl Try.func61 (by kernel_rfl) rfl #[.agg #[.slice A0_0 l0_0.length c0_0]] rfl (MA) ?_; (with_reducible refine (impl_copyDisk.calls _ _ l0_0 t201 _ ?side1 ?side2 A5.out).mono ?_); (case side1 => exact CB HR0_0.out); (case side2 => exact HC0_0.out); rintro e w12 ⟨v202, rfl, ho0, hb⟩; refine ⟨_, rfl, ?_⟩; have HO203 := Aside0.mk (Kd.R_lower ho0 (below_size (BL))); replace BK198 := BB BK198.out hb; replace BK199 := BB BK199.out hb; replace HB := Aside0.mk (below_step (BL) hb); (try clear hb); (try clear hb2); (try clear hk); (try clear hi); (try clear ho0)) | ((with_reducible refine gate_dst (N := 6) rfl ?_); refine bE 6 #[.slice none 0 0] 29 ?_; intro gb204 hg w13 hbox hb; have BK204 := Aside0.mk (hbox); have GW204 : Aside0 (w.heap.size ≤ gb204) := GS; have GE204 := GW204; have NB198_204 := NL BK198.out hg; have NB204_198 := NG BK198.out hg; have NB199_204 := NL BK199.out hg; have NB204_199 := NG BK199.out hg; replace HO203 := Aside0.mk (Kd.R_below (RQ HO203.out) hb); replace BK198 := BB BK198.out hb; replace BK199 := BB BK199.out hb; replace HB := Aside0.mk (below_step (BL) hb); clear hb hbox hg; obtain ⟨Ao14, co14, eo14⟩ := Kd.R_slice HO203.out; subst eo14; have hnb15 := NB204_198.out; have hnc15 := NB198_204.out; have hnb16 := NB204_199.out; have hnc16 := NB199_204.out; have hcz17_0 : w13.cell? ⟨gb204, 0, none⟩ = some (.slice none 0 0) := CZ BK204.out 0; have hfz17_0 := blk_frozen BK204.out 0; have hcz18_0 : w13.cell? ⟨gb198, 0, none⟩ = some (.slice A0_0 l0_0.length c0_0) := CZ BK198.out 0; have hfz18_0 := blk_frozen BK198.out 0))
 go_loopg [19] k (fun kq v19 w' => ∃ (x19_1 : Int) (x205000_1 : List (S45)) (u205000 : Value), v19 = .int .i64 x19_1 ∧ Aside0 (impl_LoseDisk.l0 kq l1 l0_0 (l0_0.length : Int) x19_1 x205000_1 = some (r1, r2)) ∧ Aside0 (kq ≤ k) ∧ Aside0 (Kd.R k45 45 w' w.heap.size (fun _ => True) u205000 x205000_1) ∧ Aside0 (w'.heap[gb198]? = some (.cells #[(.slice A0_0 l0_0.length c0_0)] 29 (0, 0))) ∧ Aside0 (w'.heap[gb199]? = some (.cells #[(.slice none 0 0)] 29 (0, 0))) ∧ Aside0 (w'.heap[gb204]? = some (.cells #[u205000] 29 (0, 0))) ∧ Aside0 (Below w.heap.size w w'))
 case atStart => exact ⟨(0), (t201), (.slice Ao14 t201.length co14), SD, H', ⟨Nat.le_refl _⟩, ⟨RF HO203.out BK204.out⟩, ⟨BP BK198.out⟩, ⟨BP BK199.out⟩, ⟨BU BK204.out⟩, ⟨BL⟩⟩
 case round =>
  clear H'
  try clear c1 c2 p2 c4 c6 c8 c15 c16 hcz11_0 hcz17_0 hcz18_0 hcz9_0 hfz11_0 hfz17_0 hfz18_0 hfz9_0
  obtain ⟨x19_1, x205000_1, u205000, rfl, HA, HK1, HO_205000, BK198, BK199, BK204, HB⟩ := hrel; cases gk with
  | zero => exact absurd HA.out (by simp [impl_LoseDisk.l0])
  | succ k1 =>
   have H := HA.out; clear HA; simp only [impl_LoseDisk.l0] at H
   by_cases c19 : x19_1 < (l0_0.length : Int); rotate_left
   ·
    rw [if_neg c19] at H; have c19b0 : decide (x19_1 < (l0_0.length : Int)) = false := decide_eq_false c19; clear c19; simp only [Option.some.injEq, Prod.mk.injEq] at H; obtain ⟨rfl, rfl⟩ := H; have hnb50 := NB204_198.out; have hnc50 := NB198_204.out; have hnb51 := NB204_199.out; have hnc51 := NB199_204.out; have hcz52_0 : wr.cell? ⟨gb204, 0, none⟩ = some (u205000) := CZ BK204.out 0; have hfz52_0 := blk_frozen BK204.out 0; obtain ⟨Ao53, co53, eo53⟩ := Kd.R_slice HO_205000.out; subst eo53; have hnb54 := NB199_198.out; have hnc54 := NB198_199.out; have hcz55_0 : wr.cell? ⟨gb199, 0, none⟩ = some (.slice none 0 0) := CZ BK199.out 0; have hfz55_0 := blk_frozen BK199.out 0
    go_wp2
    refine bodyPost_ret (results_ct rfl _ _ gb199 29 #[.slice Ao53 x205000_1.length co53] (0, 0) _ rfl (BU BK199.out) Try.underlying29 rfl (by kernel_rfl)) rfl ?_; exact ⟨_, EE, by (with_reducible repeat (first | apply r1 | apply r2 | apply r3)); exact Kd.R_mono (Kd.R_far (p := ⟨gb199, 0, none⟩) (Kd.R_types HO_205000.out BK199.out (by decide)) (fun _ hk => hk.2) (.slice Ao53 x205000_1.length co53)) (fun _ hk => trivial), BL⟩
   rw [if_pos c19] at H; have c19b0 : decide (x19_1 < (l0_0.length : Int)) = true := decide_eq_true c19; clear c19
   by_cases c20 : 0 ≤ x19_1; rotate_left
   ·
    rw [if_neg c20] at H; exact absurd H (by simp)
   rw [if_pos c20] at H; have c20b0 : decide (0 ≤ x19_1) = true := decide_eq_true c20; clear c20
   by_cases c21 : x19_1 < (l0_0.length : Int); rotate_left
   ·
    rw [if_neg c21] at H; exact absurd H (by simp)
   rw [if_pos c21] at H; have c21b0 : decide (x19_1 < (l0_0.length : Int)) = true := decide_eq_true c21; clear c21
   by_cases c22 : x19_1 < (l1.length : Int); rotate_left
   ·
    rw [if_neg c22] at H; have c22b0 : decide (x19_1 < (l1.length : Int)) = false := decide_eq_false c22; clear c22
    by_cases c38 : 0 ≤ ((rd_T45 l0_0 x19_1).f2); rotate_left
    ·
     rw [if_neg c38] at H; exact absurd H (by simp)
    rw [if_pos c38] at H; have c38b0 := eq_true c38; have c38b1 : decide (0 ≤ ((rd_T45 l0_0 x19_1).f2)) = true := decide_eq_true c38; clear c38
    by_cases c39 : ((rd_T45 l0_0 x19_1).f2) ≤ (((rd_T45 l0_0 x19_1).f1).size : Int); rotate_left
    ·
     rw [if_neg c39] at H; exact absurd H (by simp)
    rw [if_pos c39] at H; have c39b0 := eq_true c39; have c39b1 : decide (((rd_T45 l0_0 x19_1).f2) ≤ (((rd_T45 l0_0 x19_1).f1).size : Int)) = true := decide_eq_true c39; clear c39
    by_cases c40 : x19_1 < (x205000_1.length : Int); rotate_left
    ·
     rw [if_neg c40] at H; exact absurd H (by simp)
    rw [if_pos c40] at H; have c40b0 : decide (x19_1 < (x205000_1.length : Int)) = true := decide_eq_true c40; clear c40; obtain ⟨y209, hy209⟩ : ∃ y_ : List (S45), y_ = (x205000_1.set (x19_1 : Int).toNat (⟨(rd_T45 l0_0 x19_1).f0, ((rd_T45 l0_0 x19_1).f1).extract 0 (((rd_T45 l0_0 x19_1).f2) : Int).toNat, (rd_T45 l0_0 x19_1).f2⟩ : S45)) := ⟨_, rfl⟩
    replace H : (impl_LoseDisk.l0 k1 l1 l0_0 (l0_0.length : Int) (wrap64 (x19_1 + 1)) y209) = some (r1, r2) := by first | (rw [hy209]; with_reducible exact H) | (have H2_ := (Option.bind_some _ _).symm.trans H; rw [hy209]; with_reducible exact H2_) | (have H2_ := (Option.bind_some _ _).symm.trans H; with_reducible exact H2_) | with_reducible exact H | (rw [hy209]; exact H) | exact H
    have Ny209 := Aside0.mk hy209; clear hy209; have H' := Aside0.mk H; clear H; have p205 : 0 ≤ (x19_1 : Int) := of_decide_eq_true AS; have q205 : x19_1 < (l0_0.length : Int) := of_decide_eq_true AS; obtain ⟨ad205, e205, hx205_0, hx205_1, hx205_2⟩ := at_T45 HR0_0.out x19_1 p205 q205; cases e205; replace hx205_0 := (HB.out.cell (World.block_lt_of_cell? w _ hx205_0)).trans hx205_0; replace hx205_1 := (HB.out.cell (World.block_lt_of_cell? w _ hx205_1)).trans hx205_1; replace hx205_2 := (HB.out.cell (World.block_lt_of_cell? w _ hx205_2)).trans hx205_2; replace p205 := eq_true p205; replace q205 := eq_true q205
    try go_wp2_with (first | ((with_reducible refine gate_dst (N := 8) rfl ?_); refine bE 8 #[.string (⟨#[]⟩ : ByteArray), .string (⟨#[]⟩ : ByteArray), .int .i64 0] 45 ?_; intro gb206 hg w42 hbox hb; have BK206 := Aside0.mk (hbox); have GW206 : Aside0 (w.heap.size ≤ gb206) := GS; have GE206 := GW206; have NB198_206 := NL BK198.out hg; have NB206_198 := NG BK198.out hg; have NB199_206 := NL BK199.out hg; have NB206_199 := NG BK199.out hg; have NB204_206 := NL BK204.out hg; have NB206_204 := NG BK204.out hg; replace HO_205000 := Aside0.mk (Kd.R_below (Kd.R_elderB (RQ HO_205000.out) gb206 (Nat.le_of_eq hg.symm)) hb); replace BK198 := BB BK198.out hb; replace BK199 := BB BK199.out hb; replace BK204 := BB BK204.out hb; replace HB := Aside0.mk (below_step (BL) hb); clear hb hbox hg; have hnb43 := NB206_198.out; have hnc43 := NB198_206.out; have hnb44 := NB206_199.out; have hnc44 := NB199_206.out; have hnb45 := NB206_204.out; have hnc45 := NB204_206.out; have hcz46_0 : w42.cell? ⟨gb206, 0, none⟩ = some (.string (⟨#[]⟩ : ByteArray)) := CZ BK206.out 0; have hcz46_1 : w42.cell? ⟨gb206, 1, none⟩ = some (.string (⟨#[]⟩ : ByteArray)) := CZ BK206.out 1; have hcz46_2 : w42.cell? ⟨gb206, 2, none⟩ = some (.int .i64 0) := CZ BK206.out 2; have hfz46_0 := blk_frozen BK206.out 0; have hfz46_1 := blk_frozen BK206.out 1; have hfz46_2 := blk_frozen BK206.out 2))
    have n0_ : Aside0 (Kd.R k45 45 (((w42.setCell ⟨gb206, 0, none⟩ (.string ((rd_T45 l0_0 x19_1).f0))).setCell ⟨gb206, 1, none⟩ (.string ((rd_T45 l0_0 x19_1).f1))).setCell ⟨gb206, 2, none⟩ (.int .i64 ((rd_T45 l0_0 x19_1).f2))) w.heap.size (fun k_ => k_ ≠ gb206) u205000 x205000_1) := ⟨by (with_reducible repeat (first | apply r1 | apply r2 | apply r3)); exact Kd.R_mono (Kd.R_far (p := ⟨gb206, 2, none⟩) (Kd.R_far (p := ⟨gb206, 1, none⟩) (Kd.R_far (p := ⟨gb206, 0, none⟩) (Kd.R_mono HO_205000.out (fun k_ hk => (⟨hk, hk.2⟩ : _ ∧ k_ ≠ gb206))) (fun _ hk => hk.2) (.string ((rd_T45 l0_0 x19_1).f0))) (fun _ hk => hk.2) (.string ((rd_T45 l0_0 x19_1).f1))) (fun _ hk => hk.2) (.int .i64 ((rd_T45 l0_0 x19_1).f2))) (fun _ hk => hk.1.2)⟩; have n1_ : Aside0 ((((w42.setCell ⟨gb206, 0, none⟩ (.string ((rd_T45 l0_0 x19_1).f0))).setCell ⟨gb206, 1, none⟩ (.string ((rd_T45 l0_0 x19_1).f1))).setCell ⟨gb206, 2, none⟩ (.int .i64 ((rd_T45 l0_0 x19_1).f2))).heap[gb198]? = some (.cells #[.slice (some ad205) l0_0.length c0_0] 29 (0, 0))) := ⟨BP BK198.out⟩; have n2_ : Aside0 ((((w42.setCell ⟨gb206, 0, none⟩ (.string ((rd_T45 l0_0 x19_1).f0))).setCell ⟨gb206, 1, none⟩ (.string ((rd_T45 l0_0 x19_1).f1))).setCell ⟨gb206, 2, none⟩ (.int .i64 ((rd_T45 l0_0 x19_1).f2))).heap[gb199]? = some (.cells #[.slice none 0 0] 29 (0, 0))) := ⟨BP BK199.out⟩; have n3_ : Aside0 ((((w42.setCell ⟨gb206, 0, none⟩ (.string ((rd_T45 l0_0 x19_1).f0))).setCell ⟨gb206, 1, none⟩ (.string ((rd_T45 l0_0 x19_1).f1))).setCell ⟨gb206, 2, none⟩ (.int .i64 ((rd_T45 l0_0 x19_1).f2))).heap[gb204]? = some (.cells #[u205000] 29 (0, 0))) := ⟨BP BK204.out⟩; have n4_ : Aside0 ((((w42.setCell ⟨gb206, 0, none⟩ (.string ((rd_T45 l0_0 x19_1).f0))).setCell ⟨gb206, 1, none⟩ (.string ((rd_T45 l0_0 x19_1).f1))).setCell ⟨gb206, 2, none⟩ (.int .i64 ((rd_T45 l0_0 x19_1).f2))).heap[gb206]? = some (.cells #[.string ((rd_T45 l0_0 x19_1).f0), .string ((rd_T45 l0_0 x19_1).f1), .int .i64 ((rd_T45 l0_0 x19_1).f2)] 45 (0, 0))) := ⟨BU BK206.out⟩; have n5_ : Aside0 (Below w.heap.size w (((w42.setCell ⟨gb206, 0, none⟩ (.string ((rd_T45 l0_0 x19_1).f0))).setCell ⟨gb206, 1, none⟩ (.string ((rd_T45 l0_0 x19_1).f1))).setCell ⟨gb206, 2, none⟩ (.int .i64 ((rd_T45 l0_0 x19_1).f2)))) := ⟨BL⟩
    (try clear HO_205000)
    (try clear BK198)
    (try clear BK199)
    (try clear BK204)
    (try clear BK206)
    (try clear HB)
    generalize (((w42.setCell ⟨gb206, 0, none⟩ (.string ((rd_T45 l0_0 x19_1).f0))).setCell ⟨gb206, 1, none⟩ (.string ((rd_T45 l0_0 x19_1).f1))).setCell ⟨gb206, 2, none⟩ (.int .i64 ((rd_T45 l0_0 x19_1).f2))) = w47 at n0_ n1_ n2_ n3_ n4_ n5_ ⊢; have HO_205000 := n0_; have BK198 := n1_; have BK199 := n2_; have BK204 := n3_; have BK206 := n4_; have HB := n5_; clear n0_ n1_ n2_ n3_ n4_ n5_; have n0_ := Aside0.mk (Kd.R_drew HO_205000.out); have n1_ := Aside0.mk (blk_drew BK198.out); have n2_ := Aside0.mk (blk_drew BK199.out); have n3_ := Aside0.mk (blk_drew BK204.out); have n4_ := Aside0.mk (blk_drew BK206.out); have n5_ := Aside0.mk (below_drew1 HB.out); clear HO_205000; clear BK198; clear BK199; clear BK204; clear BK206; clear HB; have HO_205000 := n0_; have BK198 := n1_; have BK199 := n2_; have BK204 := n3_; have BK206 := n4_; have HB := n5_; clear n0_ n1_ n2_ n3_ n4_ n5_; have p41 : 0 ≤ (x19_1 : Int) := of_decide_eq_true AS; have q41 : (x19_1 : Int) < ((x205000_1.length : Int) : Int) := of_decide_eq_true AS; obtain ⟨go41, co41, eo41, gb41, gl41, cl41, HG41⟩ := Kd.R_form HO_205000.out (by omega)
    (first | cases eo41 | (injection eo41 with ea_ en_ ec_; (first | subst ea_ | (injection ea_ with ea_; subst ea_)); subst ec_; clear en_))
    have GB41 := Aside0.mk gb41; have GG41 := Aside0.mk HG41; clear gb41 gl41 HG41; obtain ⟨ce41, hcl41, hM41, hcc41, hfr41⟩ := Kd.R_elem HO_205000.out z45 (x19_1 : Int) p41 q41; obtain rfl := k45_openM hM41; have hx41_0 : World.cell? _ ⟨go41, (x19_1 : Int).toNat * 3, none⟩ = some (.string ((rd_T45 x205000_1 x19_1).f0)) := hcc41 0 _ rfl; have hx41_1 : World.cell? _ ⟨go41, (x19_1 : Int).toNat * 3 + 1, none⟩ = some (.string ((rd_T45 x205000_1 x19_1).f1)) := hcc41 1 _ rfl; have hx41_2 : World.cell? _ ⟨go41, (x19_1 : Int).toNat * 3 + 2, none⟩ = some (.int .i64 ((rd_T45 x205000_1 x19_1).f2)) := hcc41 2 _ rfl; have hf41_0 : World.frozen? _ ⟨go41, (x19_1 : Int).toNat * 3, none⟩ = false := hfr41 0; have hf41_1 : World.frozen? _ ⟨go41, (x19_1 : Int).toNat * 3 + 1, none⟩ = false := hfr41 1; have hf41_2 : World.frozen? _ ⟨go41, (x19_1 : Int).toNat * 3 + 2, none⟩ = false := hfr41 2; clear hcl41 hcc41 hfr41 hM41; replace p41 := eq_true p41; replace q41 := eq_true q41; obtain ⟨ce49, hcl49, hM49, hcc49, hfr49⟩ := Kd.R_elem HO_205000.out z45 (x19_1 : Int) (of_decide_eq_true AS) (by have h_ : (x19_1 : Int) < ((x205000_1.length : Int) : Int) := of_decide_eq_true AS; first | exact h_ | (have e_ := (Kd.R_reads' HO_205000.out).1; omega) | simpa using h_); obtain rfl := k45_openM hM49; have HP49 := (Kd.R_seg HO_205000.out (x19_1 : Int) (of_decide_eq_true AS) (by have h_ : (x19_1 : Int) < ((x205000_1.length : Int) : Int) := of_decide_eq_true AS; first | exact h_ | (have e_ := (Kd.R_reads' HO_205000.out).1; omega) | simpa using h_) (seg := [.string ((rd_T45 l0_0 x19_1).f0), .string (((rd_T45 l0_0 x19_1).f1).extract 0 (((rd_T45 l0_0 x19_1).f2) : Int).toNat), .int .i64 ((rd_T45 l0_0 x19_1).f2)]) (j := 0) hcl49 hcc49 (show 3 ≤ 3 from by decide) (x' := (⟨(rd_T45 l0_0 x19_1).f0, ((rd_T45 l0_0 x19_1).f1).extract 0 (((rd_T45 l0_0 x19_1).f2) : Int).toNat, (rd_T45 l0_0 x19_1).f2⟩ : S45)) (k45_mkM _ _ _ (⟨(rd_T45 l0_0 x19_1).f0, ((rd_T45 l0_0 x19_1).f1).extract 0 (((rd_T45 l0_0 x19_1).f2) : Int).toNat, (rd_T45 l0_0 x19_1).f2⟩ : S45) ) (fun _ hk => hk)).1; rw [← Ny209.out] at HP49; have HQ49 := Aside0.mk HP49; clear hcl49 hcc49 hfr49 hM49 HP49; refine start_ (n := 13) (S := fun w' => w'.cell? ⟨gb204, 0, none⟩ = some (.slice (some ⟨go41, 0, none⟩) x205000_1.length co41) ∧ w'.cell? ⟨gb206, 0, none⟩ = some (.string ((rd_T45 l0_0 x19_1).f0)) ∧ w'.cell? ⟨gb206, 1, none⟩ = some (.string ((rd_T45 l0_0 x19_1).f1)) ∧ w'.cell? ⟨gb206, 2, none⟩ = some (.int .i64 ((rd_T45 l0_0 x19_1).f2))) (ds := [12]) #[false, false, false, false, false, false, false, false, false, false, false, false, false] (by kernel_rfl) rfl rfl ⟨CZ BK204.out 0, CZ BK206.out 0, CZ BK206.out 1, CZ BK206.out 2⟩ (fun hHeld => ?_); refine with_tabW impl_LoseDisk.tab10 impl_LoseDisk.bits10 (fun HT_ HW_ => ?_); generalize w47.drew = w48 at HO_205000 BK198 BK199 BK204 BK206 HB GG41 HQ49 hf41_0 hf41_1 hf41_2 hx41_0 hx41_1 hx41_2 hHeld ⊢; refine pV 0 40 (OB 13 1) ?_; refine pV 2 42 (OB 13 5) ?_; refine pV 3 43 (OB 13 13) ?_; refine pV 5 45 (OB 13 45) ?_; refine pV 7 47 (OB 13 173) ?_; refine pV 9 49 (OB 13 685) ?_; refine take_ (i := 1) (N := some 41) (v := ?_) (a' := ?_) (OB 13 687) rfl rfl (take_ofW HT_.out HW_.out (by kernel_rfl)) (fun _ _ _ h => h) (Or.inl ⟨by rfl, ?_⟩) hHeld ?_ ?_; rotate_left
    ·
     rintro w' ⟨s0, s1, s2, s3⟩
     go_simp
     with_reducible rfl
    rotate_left
    ·
     simp only [Act.put, zA, zB, zC, i64_w, i32_w]; rfl
    refine take_ (i := 4) (N := some 44) (v := ?_) (a' := ?_) (OB 13 703) rfl rfl (take_ofW HT_.out HW_.out (by kernel_rfl)) (fun _ _ _ h => h) (Or.inl ⟨by rfl, ?_⟩) hHeld ?_ ?_; rotate_left
    ·
     rintro w' ⟨s0, s1, s2, s3⟩
     go_simp
     with_reducible rfl
    rotate_left
    ·
     simp only [Act.put, zA, zB, zC, i64_w, i32_w]; rfl
    refine take_ (i := 6) (N := some 46) (v := ?_) (a' := ?_) (OB 13 767) rfl rfl (take_ofW HT_.out HW_.out (by kernel_rfl)) (fun _ _ _ h => h) (Or.inl ⟨by rfl, ?_⟩) hHeld ?_ ?_; rotate_left
    ·
     rintro w' ⟨s0, s1, s2, s3⟩
     go_simp
     with_reducible rfl
    rotate_left
    ·
     simp only [Act.put, zA, zB, zC, i64_w, i32_w]; rfl
    refine pV 8 48 (OB 13 1023) ?_; refine pV 10 50 (OB 13 2047) ?_; refine pV 11 51 (OB 13 4095) ?_; refine last_ (i := 12) (N := none) #[true, true, true, true, true, true, true, true, true, true, true, true, true] rfl rfl (one_of HT_.out (by kernel_rfl)) (by decide) (fun K hK => ?_); refine skip_ (w1 := ?_) (by rfl) rfl ?_ ?_; rotate_left
    ·
     go_simp
     rfl
    refine hK.out _ _ ?_; clear hK K; refine done_ (done_of HT_.out (by kernel_rfl)) ?_
    try go_wp2
    go_roundg k1
    case measure => have := HK1.out; omega
    case rel => exact ⟨(wrap64 (x19_1 + 1)), (y209), (.slice (some ⟨go41, 0, none⟩) x205000_1.length co41), SD, H', ⟨by have := HK1.out; omega⟩, ⟨by (with_reducible repeat (first | apply r1 | apply r2 | apply r3)); exact Kd.R_mono HQ49.out (fun _ hk => trivial)⟩, ⟨by (with_reducible repeat (first | apply b1 | apply b2 | apply b3)); refine blk_far ?_ (by have h_ := Kd.R_ne HO_205000.out BK198.out (by decide); intro e_; exact h_ (by rw [e_]; rfl)) _; (with_reducible repeat (first | apply b1 | apply b2 | apply b3)); refine blk_far ?_ (by have h_ := Kd.R_ne HO_205000.out BK198.out (by decide); intro e_; exact h_ (by rw [e_]; rfl)) _; (with_reducible repeat (first | apply b1 | apply b2 | apply b3)); refine blk_far ?_ (by have h_ := Kd.R_ne HO_205000.out BK198.out (by decide); intro e_; exact h_ (by rw [e_]; rfl)) _; (with_reducible repeat (first | apply b1 | apply b2 | apply b3)); exact BK198.out⟩, ⟨by (with_reducible repeat (first | apply b1 | apply b2 | apply b3)); refine blk_far ?_ (by have h_ := Kd.R_ne HO_205000.out BK199.out (by decide); intro e_; exact h_ (by rw [e_]; rfl)) _; (with_reducible repeat (first | apply b1 | apply b2 | apply b3)); refine blk_far ?_ (by have h_ := Kd.R_ne HO_205000.out BK199.out (by decide); intro e_; exact h_ (by rw [e_]; rfl)) _; (with_reducible repeat (first | apply b1 | apply b2 | apply b3)); refine blk_far ?_ (by have h_ := Kd.R_ne HO_205000.out BK199.out (by decide); intro e_; exact h_ (by rw [e_]; rfl)) _; (with_reducible repeat (first | apply b1 | apply b2 | apply b3)); exact BK199.out⟩, ⟨by (with_reducible repeat (first | apply b1 | apply b2 | apply b3)); refine blk_far ?_ (by have h_ := Kd.R_ne HO_205000.out BK204.out (by decide); intro e_; exact h_ (by rw [e_]; rfl)) _; (with_reducible repeat (first | apply b1 | apply b2 | apply b3)); refine blk_far ?_ (by have h_ := Kd.R_ne HO_205000.out BK204.out (by decide); intro e_; exact h_ (by rw [e_]; rfl)) _; (with_reducible repeat (first | apply b1 | apply b2 | apply b3)); refine blk_far ?_ (by have h_ := Kd.R_ne HO_205000.out BK204.out (by decide); intro e_; exact h_ (by rw [e_]; rfl)) _; (with_reducible repeat (first | apply b1 | apply b2 | apply b3)); exact BK204.out⟩, ⟨by repeat (first | (with_reducible first | exact HB.out | apply below_alloc | apply pw_below_drewN | apply below_drew1 | refine below_set ?_ GB41.out | refine below_set ?_ GB41.out | refine below_set ?_ GB41.out | refine below_set ?_ GE198.out | refine below_set ?_ GE199.out | refine below_set ?_ GE204.out | refine below_set ?_ GE206.out) | exact HB.out)⟩⟩
   rw [if_pos c22] at H; have c22b0 : decide (x19_1 < (l1.length : Int)) = true := decide_eq_true c22; clear c22; obtain ⟨ji23, hji23⟩ : ∃ j_ : Int, (mn (rd l1 x19_1) (((rd_T45 l0_0 x19_1).f1).size : Int)) = j_ := ⟨_, rfl⟩
   replace H : (if 0 ≤ (mx ((rd_T45 l0_0 x19_1).f2) (ji23)) then (if (mx ((rd_T45 l0_0 x19_1).f2) (ji23)) ≤ (((rd_T45 l0_0 x19_1).f1).size : Int) then (if x19_1 < (x205000_1.length : Int) then (impl_LoseDisk.l0 k1 l1 l0_0 (l0_0.length : Int) (wrap64 (x19_1 + 1)) (x205000_1.set (x19_1 : Int).toNat (⟨(rd_T45 l0_0 x19_1).f0, ((rd_T45 l0_0 x19_1).f1).extract 0 ((mx ((rd_T45 l0_0 x19_1).f2) (ji23)) : Int).toNat, mx ((rd_T45 l0_0 x19_1).f2) (ji23)⟩ : S45))) else (none)) else (none)) else (none)) = some (r1, r2) := by first | (rw [hji23] at H; exact H) | (simp only [hji23] at H ⊢; exact H)
   have hji23_ : (if (((rd_T45 l0_0 x19_1).f1).size : Int) < (rd l1 x19_1) then (((rd_T45 l0_0 x19_1).f1).size : Int) else (rd l1 x19_1)) = ji23 := hji23; obtain ⟨ji24, hji24⟩ : ∃ j_ : Int, (mx ((rd_T45 l0_0 x19_1).f2) (ji23)) = j_ := ⟨_, rfl⟩
   replace H : (if 0 ≤ (ji24) then (if (ji24) ≤ (((rd_T45 l0_0 x19_1).f1).size : Int) then (if x19_1 < (x205000_1.length : Int) then (impl_LoseDisk.l0 k1 l1 l0_0 (l0_0.length : Int) (wrap64 (x19_1 + 1)) (x205000_1.set (x19_1 : Int).toNat (⟨(rd_T45 l0_0 x19_1).f0, ((rd_T45 l0_0 x19_1).f1).extract 0 ((ji24) : Int).toNat, ji24⟩ : S45))) else (none)) else (none)) else (none)) = some (r1, r2) := by first | (rw [hji24] at H; exact H) | (simp only [hji24] at H ⊢; exact H)
   have hji24_ : (if ((rd_T45 l0_0 x19_1).f2) < (ji23) then (ji23) else ((rd_T45 l0_0 x19_1).f2)) = ji24 := hji24
   by_cases c25 : 0 ≤ (ji24); rotate_left
   ·
    rw [if_neg c25] at H; exact absurd H (by simp)
   rw [if_pos c25] at H; have c25b0 := eq_true c25; have c25b1 : decide (0 ≤ (ji24)) = true := decide_eq_true c25; clear c25
   by_cases c26 : (ji24) ≤ (((rd_T45 l0_0 x19_1).f1).size : Int); rotate_left
   ·
    rw [if_neg c26] at H; exact absurd H (by simp)
   rw [if_pos c26] at H; have c26b0 := eq_true c26; have c26b1 : decide ((ji24) ≤ (((rd_T45 l0_0 x19_1).f1).size : Int)) = true := decide_eq_true c26; clear c26
   by_cases c27 : x19_1 < (x205000_1.length : Int); rotate_left
   ·
    rw [if_neg c27] at H; exact absurd H (by simp)
   rw [if_pos c27] at H; have c27b0 : decide (x19_1 < (x205000_1.length : Int)) = true := decide_eq_true c27; clear c27; obtain ⟨y208, hy208⟩ : ∃ y_ : List (S45), y_ = (x205000_1.set (x19_1 : Int).toNat (⟨(rd_T45 l0_0 x19_1).f0, ((rd_T45 l0_0 x19_1).f1).extract 0 ((ji24) : Int).toNat, ji24⟩ : S45)) := ⟨_, rfl⟩
   replace H : (impl_LoseDisk.l0 k1 l1 l0_0 (l0_0.length : Int) (wrap64 (x19_1 + 1)) y208) = some (r1, r2) := by first | (rw [hy208]; with_reducible exact H) | (have H2_ := (Option.bind_some _ _).symm.trans H; rw [hy208]; with_reducible exact H2_) | (have H2_ := (Option.bind_some _ _).symm.trans H; with_reducible exact H2_) | with_reducible exact H | (rw [hy208]; exact H) | exact H
   have Ny208 := Aside0.mk hy208; clear hy208; have H' := Aside0.mk H; clear H; have p205 : 0 ≤ (x19_1 : Int) := of_decide_eq_true AS; have q205 : x19_1 < (l0_0.length : Int) := of_decide_eq_true AS; obtain ⟨ad205, e205, hx205_0, hx205_1, hx205_2⟩ := at_T45 HR0_0.out x19_1 p205 q205; cases e205; replace hx205_0 := (HB.out.cell (World.block_lt_of_cell? w _ hx205_0)).trans hx205_0; replace hx205_1 := (HB.out.cell (World.block_lt_of_cell? w _ hx205_1)).trans hx205_1; replace hx205_2 := (HB.out.cell (World.block_lt_of_cell? w _ hx205_2)).trans hx205_2; replace p205 := eq_true p205; replace q205 := eq_true q205
   try go_wp2_with (first | ((with_reducible refine gate_dst (N := 8) rfl ?_); refine bE 8 #[.string (⟨#[]⟩ : ByteArray), .string (⟨#[]⟩ : ByteArray), .int .i64 0] 45 ?_; intro gb206 hg w29 hbox hb; have BK206 := Aside0.mk (hbox); have GW206 : Aside0 (w.heap.size ≤ gb206) := GS; have GE206 := GW206; have NB198_206 := NL BK198.out hg; have NB206_198 := NG BK198.out hg; have NB199_206 := NL BK199.out hg; have NB206_199 := NG BK199.out hg; have NB204_206 := NL BK204.out hg; have NB206_204 := NG BK204.out hg; replace HO_205000 := Aside0.mk (Kd.R_below (Kd.R_elderB (RQ HO_205000.out) gb206 (Nat.le_of_eq hg.symm)) hb); replace BK198 := BB BK198.out hb; replace BK199 := BB BK199.out hb; replace BK204 := BB BK204.out hb; replace HB := Aside0.mk (below_step (BL) hb); clear hb hbox hg; have hnb30 := NB206_198.out; have hnc30 := NB198_206.out; have hnb31 := NB206_199.out; have hnc31 := NB199_206.out; have hnb32 := NB206_204.out; have hnc32 := NB204_206.out; have hcz33_0 : w29.cell? ⟨gb206, 0, none⟩ = some (.string (⟨#[]⟩ : ByteArray)) := CZ BK206.out 0; have hcz33_1 : w29.cell? ⟨gb206, 1, none⟩ = some (.string (⟨#[]⟩ : ByteArray)) := CZ BK206.out 1; have hcz33_2 : w29.cell? ⟨gb206, 2, none⟩ = some (.int .i64 0) := CZ BK206.out 2; have hfz33_0 := blk_frozen BK206.out 0; have hfz33_1 := blk_frozen BK206.out 1; have hfz33_2 := blk_frozen BK206.out 2))
   have n0_ : Aside0 (Kd.R k45 45 (((w29.setCell ⟨gb206, 0, none⟩ (.string ((rd_T45 l0_0 x19_1).f0))).setCell ⟨gb206, 1, none⟩ (.string ((rd_T45 l0_0 x19_1).f1))).setCell ⟨gb206, 2, none⟩ (.int .i64 ((rd_T45 l0_0 x19_1).f2))) w.heap.size (fun k_ => k_ ≠ gb206) u205000 x205000_1) := ⟨by (with_reducible repeat (first | apply r1 | apply r2 | apply r3)); exact Kd.R_mono (Kd.R_far (p := ⟨gb206, 2, none⟩) (Kd.R_far (p := ⟨gb206, 1, none⟩) (Kd.R_far (p := ⟨gb206, 0, none⟩) (Kd.R_mono HO_205000.out (fun k_ hk => (⟨hk, hk.2⟩ : _ ∧ k_ ≠ gb206))) (fun _ hk => hk.2) (.string ((rd_T45 l0_0 x19_1).f0))) (fun _ hk => hk.2) (.string ((rd_T45 l0_0 x19_1).f1))) (fun _ hk => hk.2) (.int .i64 ((rd_T45 l0_0 x19_1).f2))) (fun _ hk => hk.1.2)⟩; have n1_ : Aside0 ((((w29.setCell ⟨gb206, 0, none⟩ (.string ((rd_T45 l0_0 x19_1).f0))).setCell ⟨gb206, 1, none⟩ (.string ((rd_T45 l0_0 x19_1).f1))).setCell ⟨gb206, 2, none⟩ (.int .i64 ((rd_T45 l0_0 x19_1).f2))).heap[gb198]? = some (.cells #[.slice (some ad205) l0_0.length c0_0] 29 (0, 0))) := ⟨BP BK198.out⟩; have n2_ : Aside0 ((((w29.setCell ⟨gb206, 0, none⟩ (.string ((rd_T45 l0_0 x19_1).f0))).setCell ⟨gb206, 1, none⟩ (.string ((rd_T45 l0_0 x19_1).f1))).setCell ⟨gb206, 2, none⟩ (.int .i64 ((rd_T45 l0_0 x19_1).f2))).heap[gb199]? = some (.cells #[.slice none 0 0] 29 (0, 0))) := ⟨BP BK199.out⟩; have n3_ : Aside0 ((((w29.setCell ⟨gb206, 0, none⟩ (.string ((rd_T45 l0_0 x19_1).f0))).setCell ⟨gb206, 1, none⟩ (.string ((rd_T45 l0_0 x19_1).f1))).setCell ⟨gb206, 2, none⟩ (.int .i64 ((rd_T45 l0_0 x19_1).f2))).heap[gb204]? = some (.cells #[u205000] 29 (0, 0))) := ⟨BP BK204.out⟩; have n4_ : Aside0 ((((w29.setCell ⟨gb206, 0, none⟩ (.string ((rd_T45 l0_0 x19_1).f0))).setCell ⟨gb206, 1, none⟩ (.string ((rd_T45 l0_0 x19_1).f1))).setCell ⟨gb206, 2, none⟩ (.int .i64 ((rd_T45 l0_0 x19_1).f2))).heap[gb206]? = some (.cells #[.string ((rd_T45 l0_0 x19_1).f0), .string ((rd_T45 l0_0 x19_1).f1), .int .i64 ((rd_T45 l0_0 x19_1).f2)] 45 (0, 0))) := ⟨BU BK206.out⟩; have n5_ : Aside0 (Below w.heap.size w (((w29.setCell ⟨gb206, 0, none⟩ (.string ((rd_T45 l0_0 x19_1).f0))).setCell ⟨gb206, 1, none⟩ (.string ((rd_T45 l0_0 x19_1).f1))).setCell ⟨gb206, 2, none⟩ (.int .i64 ((rd_T45 l0_0 x19_1).f2)))) := ⟨BL⟩
   (try clear HO_205000)
   (try clear BK198)
   (try clear BK199)
   (try clear BK204)
   (try clear BK206)
   (try clear HB)
   generalize (((w29.setCell ⟨gb206, 0, none⟩ (.string ((rd_T45 l0_0 x19_1).f0))).setCell ⟨gb206, 1, none⟩ (.string ((rd_T45 l0_0 x19_1).f1))).setCell ⟨gb206, 2, none⟩ (.int .i64 ((rd_T45 l0_0 x19_1).f2))) = w34 at n0_ n1_ n2_ n3_ n4_ n5_ ⊢; have HO_205000 := n0_; have BK198 := n1_; have BK199 := n2_; have BK204 := n3_; have BK206 := n4_; have HB := n5_; clear n0_ n1_ n2_ n3_ n4_ n5_; have n0_ := Aside0.mk (Kd.R_drew HO_205000.out); have n1_ := Aside0.mk (blk_drew BK198.out); have n2_ := Aside0.mk (blk_drew BK199.out); have n3_ := Aside0.mk (blk_drew BK204.out); have n4_ := Aside0.mk (blk_drew BK206.out); have n5_ := Aside0.mk (below_drew1 HB.out); clear HO_205000; clear BK198; clear BK199; clear BK204; clear BK206; clear HB; have HO_205000 := n0_; have BK198 := n1_; have BK199 := n2_; have BK204 := n3_; have BK206 := n4_; have HB := n5_; clear n0_ n1_ n2_ n3_ n4_ n5_; have p207 : 0 ≤ (x19_1 : Int) := of_decide_eq_true AS; have q207 : x19_1 < (l1.length : Int) := of_decide_eq_true AS; obtain ⟨ad207, e207, hx207_0⟩ := Kd.at_int HR1.out x19_1 p207 q207; have hw207_0 := hx207_0; cases e207; replace hx207_0 := (HB.out.cell (World.block_lt_of_cell? w _ hx207_0)).trans hx207_0; replace p207 := eq_true p207; replace q207 := eq_true q207; refine start_ (n := 11) (S := fun w' => w'.cell? ⟨gb206, 0, none⟩ = some (.string ((rd_T45 l0_0 x19_1).f0)) ∧ w'.cell? ⟨gb206, 1, none⟩ = some (.string ((rd_T45 l0_0 x19_1).f1)) ∧ w'.cell? ⟨gb206, 2, none⟩ = some (.int .i64 ((rd_T45 l0_0 x19_1).f2)) ∧ w'.cell? (ad207.add (x19_1).toNat) = some (.int .i64 (rd l1 x19_1))) (ds := []) #[false, false, false, false, false, false, false, false, false, false, false] (by kernel_rfl) rfl rfl ⟨CZ BK206.out 0, CZ BK206.out 1, CZ BK206.out 2, ((HB.out.cell (World.block_lt_of_cell? w _ hw207_0)).trans hw207_0)⟩ (fun hHeld => ?_); refine with_tabW impl_LoseDisk.tab9 impl_LoseDisk.bits9 (fun HT_ HW_ => ?_); generalize w34.drew = w35 at HO_205000 BK198 BK199 BK204 BK206 HB hx207_0 hHeld ⊢; refine pV 0 30 (OB 11 1) ?_; refine pV 1 31 (OB 11 3) ?_; refine pV 2 32 (OB 11 7) ?_; refine pV 3 33 (OB 11 15) ?_; refine pV 5 35 (OB 11 47) ?_; refine take_ (i := 4) (N := some 34) (v := ?_) (a' := ?_) (OB 11 63) rfl rfl (take_ofW HT_.out HW_.out (by kernel_rfl)) (fun _ _ _ h => h) (Or.inl ⟨by rfl, ?_⟩) hHeld ?_ ?_; rotate_left
   ·
    rintro w' ⟨s0, s1, s2, s3⟩
    go_simp
    with_reducible rfl
   rotate_left
   ·
    simp only [Act.put, zA, zB, zC, i64_w, i32_w]; rfl
   refine take_ (i := 6) (N := some 36) (v := ?_) (a' := ?_) (OB 11 127) rfl rfl (take_ofW HT_.out HW_.out (by kernel_rfl)) (fun _ _ _ h => h) (Or.inl ⟨by rfl, ?_⟩) hHeld ?_ ?_; rotate_left
   ·
    rintro w' ⟨s0, s1, s2, s3⟩
    go_simp
    with_reducible rfl
   rotate_left
   ·
    simp only [Act.put, zA, zB, zC, i64_w, i32_w]; rfl
   refine pV 7 37 (OB 11 255) ?_; refine pV 8 38 (OB 11 511) ?_; refine pV 9 39 (OB 11 1023) ?_; refine pV 10 9 (OB 11 2047) ?_; refine done_ (done_of HT_.out (by kernel_rfl)) ?_
   try go_wp2
   have n0_ := Aside0.mk (Kd.R_drew HO_205000.out); have n1_ := Aside0.mk (blk_drew BK198.out); have n2_ := Aside0.mk (blk_drew BK199.out); have n3_ := Aside0.mk (blk_drew BK204.out); have n4_ := Aside0.mk (blk_drew BK206.out); have n5_ := Aside0.mk (below_drew1 HB.out); clear HO_205000; clear BK198; clear BK199; clear BK204; clear BK206; clear HB; have HO_205000 := n0_; have BK198 := n1_; have BK199 := n2_; have BK204 := n3_; have BK206 := n4_; have HB := n5_; clear n0_ n1_ n2_ n3_ n4_ n5_; have p28 : 0 ≤ (x19_1 : Int) := of_decide_eq_true AS; have q28 : (x19_1 : Int) < ((x205000_1.length : Int) : Int) := of_decide_eq_true AS; obtain ⟨go28, co28, eo28, gb28, gl28, cl28, HG28⟩ := Kd.R_form HO_205000.out (by omega)
   (first | cases eo28 | (injection eo28 with ea_ en_ ec_; (first | subst ea_ | (injection ea_ with ea_; subst ea_)); subst ec_; clear en_))
   have GB28 := Aside0.mk gb28; have GG28 := Aside0.mk HG28; clear gb28 gl28 HG28; obtain ⟨ce28, hcl28, hM28, hcc28, hfr28⟩ := Kd.R_elem HO_205000.out z45 (x19_1 : Int) p28 q28; obtain rfl := k45_openM hM28; have hx28_0 : World.cell? _ ⟨go28, (x19_1 : Int).toNat * 3, none⟩ = some (.string ((rd_T45 x205000_1 x19_1).f0)) := hcc28 0 _ rfl; have hx28_1 : World.cell? _ ⟨go28, (x19_1 : Int).toNat * 3 + 1, none⟩ = some (.string ((rd_T45 x205000_1 x19_1).f1)) := hcc28 1 _ rfl; have hx28_2 : World.cell? _ ⟨go28, (x19_1 : Int).toNat * 3 + 2, none⟩ = some (.int .i64 ((rd_T45 x205000_1 x19_1).f2)) := hcc28 2 _ rfl; have hf28_0 : World.frozen? _ ⟨go28, (x19_1 : Int).toNat * 3, none⟩ = false := hfr28 0; have hf28_1 : World.frozen? _ ⟨go28, (x19_1 : Int).toNat * 3 + 1, none⟩ = false := hfr28 1; have hf28_2 : World.frozen? _ ⟨go28, (x19_1 : Int).toNat * 3 + 2, none⟩ = false := hfr28 2; clear hcl28 hcc28 hfr28 hM28; replace p28 := eq_true p28; replace q28 := eq_true q28; obtain ⟨ce37, hcl37, hM37, hcc37, hfr37⟩ := Kd.R_elem HO_205000.out z45 (x19_1 : Int) (of_decide_eq_true AS) (by have h_ : (x19_1 : Int) < ((x205000_1.length : Int) : Int) := of_decide_eq_true AS; first | exact h_ | (have e_ := (Kd.R_reads' HO_205000.out).1; omega) | simpa using h_); obtain rfl := k45_openM hM37; have HP37 := (Kd.R_seg HO_205000.out (x19_1 : Int) (of_decide_eq_true AS) (by have h_ : (x19_1 : Int) < ((x205000_1.length : Int) : Int) := of_decide_eq_true AS; first | exact h_ | (have e_ := (Kd.R_reads' HO_205000.out).1; omega) | simpa using h_) (seg := [.string ((rd_T45 l0_0 x19_1).f0), .string (((rd_T45 l0_0 x19_1).f1).extract 0 ((ji24) : Int).toNat), .int .i64 ji24]) (j := 0) hcl37 hcc37 (show 3 ≤ 3 from by decide) (x' := (⟨(rd_T45 l0_0 x19_1).f0, ((rd_T45 l0_0 x19_1).f1).extract 0 ((ji24) : Int).toNat, ji24⟩ : S45)) (k45_mkM _ _ _ (⟨(rd_T45 l0_0 x19_1).f0, ((rd_T45 l0_0 x19_1).f1).extract 0 ((ji24) : Int).toNat, ji24⟩ : S45) ) (fun _ hk => hk)).1; rw [← Ny208.out] at HP37; have HQ37 := Aside0.mk HP37; clear hcl37 hcc37 hfr37 hM37 HP37; refine start_ (n := 13) (S := fun w' => w'.cell? ⟨gb204, 0, none⟩ = some (.slice (some ⟨go28, 0, none⟩) x205000_1.length co28) ∧ w'.cell? ⟨gb206, 0, none⟩ = some (.string ((rd_T45 l0_0 x19_1).f0)) ∧ w'.cell? ⟨gb206, 1, none⟩ = some (.string ((rd_T45 l0_0 x19_1).f1)) ∧ w'.cell? ⟨gb206, 2, none⟩ = some (.int .i64 ((rd_T45 l0_0 x19_1).f2))) (ds := [12]) #[false, false, false, false, false, false, false, false, false, false, false, false, false] (by kernel_rfl) rfl rfl ⟨CZ BK204.out 0, CZ BK206.out 0, CZ BK206.out 1, CZ BK206.out 2⟩ (fun hHeld => ?_); refine with_tabW impl_LoseDisk.tab10 impl_LoseDisk.bits10 (fun HT_ HW_ => ?_); generalize w35.drew = w36 at HO_205000 BK198 BK199 BK204 BK206 HB GG28 HQ37 hf28_0 hf28_1 hf28_2 hx28_0 hx28_1 hx28_2 hHeld ⊢; refine pV 0 40 (OB 13 1) ?_; refine pV 2 42 (OB 13 5) ?_; refine pV 3 43 (OB 13 13) ?_; refine pV 5 45 (OB 13 45) ?_; refine pV 7 47 (OB 13 173) ?_; refine pV 9 49 (OB 13 685) ?_; refine take_ (i := 1) (N := some 41) (v := ?_) (a' := ?_) (OB 13 687) rfl rfl (take_ofW HT_.out HW_.out (by kernel_rfl)) (fun _ _ _ h => h) (Or.inl ⟨by rfl, ?_⟩) hHeld ?_ ?_; rotate_left
   ·
    rintro w' ⟨s0, s1, s2, s3⟩
    go_simp
    with_reducible rfl
   rotate_left
   ·
    simp only [Act.put, zA, zB, zC, i64_w, i32_w]; rfl
   refine take_ (i := 4) (N := some 44) (v := ?_) (a' := ?_) (OB 13 703) rfl rfl (take_ofW HT_.out HW_.out (by kernel_rfl)) (fun _ _ _ h => h) (Or.inl ⟨by rfl, ?_⟩) hHeld ?_ ?_; rotate_left
   ·
    rintro w' ⟨s0, s1, s2, s3⟩
    go_simp
    with_reducible rfl
   rotate_left
   ·
    simp only [Act.put, zA, zB, zC, i64_w, i32_w]; rfl
   refine take_ (i := 6) (N := some 46) (v := ?_) (a' := ?_) (OB 13 767) rfl rfl (take_ofW HT_.out HW_.out (by kernel_rfl)) (fun _ _ _ h => h) (Or.inl ⟨by rfl, ?_⟩) hHeld ?_ ?_; rotate_left
   ·
    rintro w' ⟨s0, s1, s2, s3⟩
    go_simp
    with_reducible rfl
   rotate_left
   ·
    simp only [Act.put, zA, zB, zC, i64_w, i32_w]; rfl
   refine pV 8 48 (OB 13 1023) ?_; refine pV 10 50 (OB 13 2047) ?_; refine pV 11 51 (OB 13 4095) ?_; refine last_ (i := 12) (N := none) #[true, true, true, true, true, true, true, true, true, true, true, true, true] rfl rfl (one_of HT_.out (by kernel_rfl)) (by decide) (fun K hK => ?_); refine skip_ (w1 := ?_) (by rfl) rfl ?_ ?_; rotate_left
   ·
    go_simp
    rfl
   refine hK.out _ _ ?_; clear hK K; refine done_ (done_of HT_.out (by kernel_rfl)) ?_
   try go_wp2
   go_roundg k1
   case measure => have := HK1.out; omega
   case rel => exact ⟨(wrap64 (x19_1 + 1)), (y208), (.slice (some ⟨go28, 0, none⟩) x205000_1.length co28), SD, H', ⟨by have := HK1.out; omega⟩, ⟨by (with_reducible repeat (first | apply r1 | apply r2 | apply r3)); exact Kd.R_mono HQ37.out (fun _ hk => trivial)⟩, ⟨by (with_reducible repeat (first | apply b1 | apply b2 | apply b3)); refine blk_far ?_ (by have h_ := Kd.R_ne HO_205000.out BK198.out (by decide); intro e_; exact h_ (by rw [e_]; rfl)) _; (with_reducible repeat (first | apply b1 | apply b2 | apply b3)); refine blk_far ?_ (by have h_ := Kd.R_ne HO_205000.out BK198.out (by decide); intro e_; exact h_ (by rw [e_]; rfl)) _; (with_reducible repeat (first | apply b1 | apply b2 | apply b3)); refine blk_far ?_ (by have h_ := Kd.R_ne HO_205000.out BK198.out (by decide); intro e_; exact h_ (by rw [e_]; rfl)) _; (with_reducible repeat (first | apply b1 | apply b2 | apply b3)); exact BK198.out⟩, ⟨by (with_reducible repeat (first | apply b1 | apply b2 | apply b3)); refine blk_far ?_ (by have h_ := Kd.R_ne HO_205000.out BK199.out (by decide); intro e_; exact h_ (by rw [e_]; rfl)) _; (with_reducible repeat (first | apply b1 | apply b2 | apply b3)); refine blk_far ?_ (by have h_ := Kd.R_ne HO_205000.out BK199.out (by decide); intro e_; exact h_ (by rw [e_]; rfl)) _; (with_reducible repeat (first | apply b1 | apply b2 | apply b3)); refine blk_far ?_ (by have h_ := Kd.R_ne HO_205000.out BK199.out (by decide); intro e_; exact h_ (by rw [e_]; rfl)) _; (with_reducible repeat (first | apply b1 | apply b2 | apply b3)); exact BK199.out⟩, ⟨by (with_reducible repeat (first | apply b1 | apply b2 | apply b3)); refine blk_far ?_ (by have h_ := Kd.R_ne HO_205000.out BK204.out (by decide); intro e_; exact h_ (by rw [e_]; rfl)) _; (with_reducible repeat (first | apply b1 | apply b2 | apply b3)); refine blk_far ?_ (by have h_ := Kd.R_ne HO_205000.out BK204.out (by decide); intro e_; exact h_ (by rw [e_]; rfl)) _; (with_reducible repeat (first | apply b1 | apply b2 | apply b3)); refine blk_far ?_ (by have h_ := Kd.R_ne HO_205000.out BK204.out (by decide); intro e_; exact h_ (by rw [e_]; rfl)) _; (with_reducible repeat (first | apply b1 | apply b2 | apply b3)); exact BK204.out⟩, ⟨by repeat (first | (with_reducible first | exact HB.out | apply below_alloc | apply pw_below_drewN | apply below_drew1 | refine below_set ?_ GB28.out | refine below_set ?_ GB28.out | refine below_set ?_ GB28.out | refine below_set ?_ GE198.out | refine below_set ?_ GE199.out | refine below_set ?_ GE204.out | refine below_set ?_ GE206.out) | exact HB.out)⟩⟩

-- NOT PRINTED: function 77 (impl_File_77)

/-! ### impl_placeOf: function 54 -/
set_option maxHeartbeats 1000000 in
theorem impl_placeOf.test (a b : ByteArray) (c : Int) (s : ByteArray) (B : Nat) (w : World) (hB : B < w.heap.size) (hc : w.cell? ⟨B, 0, none⟩ = some (.string s)) :
    Calls Try.prog 78 #[.agg #[.string a, .string b, .int .i64 c], .pointer (some ⟨B, 0, none⟩)] w fun e w' => e = .returned (.bool (a.toList == s.toList)) ∧ Below w.heap.size w w' := by
  have hu45 := Try.underlying45
  go_enter Try.func78, Try.ntmps78
  go_wp2
  go_ret
  exact ⟨rfl, below_alloc (Below.refl _ _) _⟩
def impl_placeOf.ix (s : ByteArray) : List S45 → Int → Int
  | [], _ => -1
  | x :: r, i => if x.f0.toList == s.toList then i else impl_placeOf.ix s r (i + 1)
theorem impl_placeOf.drop_rd (l : List S45) (i : Nat) (h : i < l.length) : l.drop i = rd_T45 l (i : Int) :: l.drop (i + 1) := by
  rw [List.drop_eq_getElem_cons h]; congr 1
  unfold rd_T45
  rw [Int.toNat_natCast, List.getD_eq_getElem?_getD, List.getElem?_eq_getElem h]; rfl
set_option maxHeartbeats 2000000 in
theorem impl_placeOf.index (l : List S45) (A : Option Addr) (c : Nat) (s : ByteArray) (B : Nat) (w : World) (hl : Kd.C k45 w A l.length l) (hB : B < w.heap.size) (hc : w.cell? ⟨B, 0, none⟩ = some (.string s)) :
    Calls Try.prog 77 #[.slice A l.length c, .func (.func 78) #[] #[.pointer (some ⟨B, 0, none⟩)]] w fun e w' => e = .returned (.int .i64 (impl_placeOf.ix s l 0)) ∧ Below w.heap.size w w' := by
  have hu45 := Try.underlying45
  have hmax := Kd.C_max hl
  have HL := Aside0.mk hl
  have HC := Aside0.mk hc
  clear hl hc
  go_enter Try.func77, Try.ntmps77
  go_wp2
  go_loopg [5, 8] l.length (fun gg _ s8 wr => ∃ kk : Nat, kk ≤ l.length ∧ l.length - kk ≤ gg ∧ s8 = .int .i64 kk ∧ Aside0 (Below w.heap.size w wr) ∧ Aside0 (impl_placeOf.ix s (l.drop kk) kk = impl_placeOf.ix s l 0))
  case atStart => exact ⟨0, Nat.zero_le _, by omega, rfl, ⟨Below.refl _ w⟩, ⟨rfl⟩⟩
  case round =>
    obtain ⟨kk, hkk, hg, rfl, BW, IX⟩ := hrel
    by_cases hlt : kk < l.length
    · have hltz : (kk : Int) < (l.length : Int) := by omega
      have hcB := (BW.out.cell (p := ⟨B, 0, none⟩) hB).trans HC.out
      obtain ⟨ad, e1, x0, x1, x2⟩ := at_T45 HL.out (kk : Int) (by omega) hltz
      cases e1
      simp only [Int.toNat_natCast] at x0 x1 x2
      replace x0 := (BW.out.cell (World.block_lt_of_cell? w _ x0)).trans x0
      replace x1 := (BW.out.cell (World.block_lt_of_cell? w _ x1)).trans x1
      replace x2 := (BW.out.cell (World.block_lt_of_cell? w _ x2)).trans x2
      have hcall := impl_placeOf.test (rd_T45 l kk).f0 (rd_T45 l kk).f1 (rd_T45 l kk).f2 s B wr (Nat.lt_of_lt_of_le hB BW.out.size) hcB
      have IY := IX.out
      rw [impl_placeOf.drop_rd l kk hlt, impl_placeOf.ix] at IY
      clear hcB
      cases hq : (rd_T45 l (kk : Int)).f0.toList == s.toList with
      | true =>
        rw [hq, if_pos rfl] at IY
        rw [hq] at hcall
        have HIY := Aside0.mk IY
        clear IY hq IX
        go_wp2_with (go_at_call 78; refine hcall.mono ?_; rintro e w' ⟨rfl, hb'⟩)
        go_ret
        exact ⟨by rw [HIY.out]; rfl, below_then BW.out BW.out.size hb'⟩
      | false =>
        rw [hq, if_neg (by simp)] at IY
        rw [hq] at hcall
        have HIY := Aside0.mk IY
        clear IY hq IX
        go_wp2_with (go_at_call 78; refine hcall.mono ?_; rintro e w' ⟨rfl, hb'⟩)
        go_roundg (l.length - (kk + 1))
        case measure => omega
        case rel => exact ⟨kk + 1, by omega, by omega, by go_num, ⟨below_then BW.out BW.out.size hb'⟩, HIY⟩
    · have hltz : ¬ (kk : Int) < (l.length : Int) := by omega
      have : kk = l.length := by omega
      subst this
      have IY := IX.out
      rw [List.drop_length, impl_placeOf.ix] at IY
      have HIY := Aside0.mk IY
      clear IY IX
      go_wp2
      go_ret
      exact ⟨by rw [← HIY.out]; rfl, BW.out⟩
def impl_placeOf.f (l0_0 : List S45) (a1 : ByteArray) : Option Int := some (impl_placeOf.ix a1 l0_0 0)
set_option maxHeartbeats 2000000 in
theorem impl_placeOf.calls (A0_0 : Option Addr) (c0_0 : Nat) (l0_0 : List (S45)) (a1 : ByteArray) (r : Int) (w : World) (hr0_0 : Kd.C k45 w A0_0 l0_0.length l0_0) (hc0_0 : l0_0.length ≤ c0_0) (h : impl_placeOf.f l0_0 a1 = some r) :
    Calls Try.prog 54 #[.agg #[.slice A0_0 l0_0.length c0_0], .string a1] w fun e w' => e = .returned (.int .i64 r) ∧ Below w.heap.size w w' := by
  obtain rfl : impl_placeOf.ix a1 l0_0 0 = r := by unfold impl_placeOf.f at h; injection h
  have hu29 := Try.underlying29
  have hx := impl_placeOf.index l0_0 A0_0 c0_0 a1 (w.heap.size + 1) ((w.alloc (.cells #[.slice A0_0 l0_0.length c0_0] 29)).alloc (.cells #[.string a1] 9)) (Kd.C_alloc (Kd.C_alloc hr0_0 _) _) (by simp) (by go_simp)
  clear h hr0_0 hc0_0
  go_enter Try.func54, Try.ntmps54
  go_wp2_with (go_at_call 77; refine hx.mono ?_; rintro e w' ⟨rfl, hb'⟩)
  go_ret
  exact ⟨rfl, below_then (below_alloc (below_alloc (Below.refl _ _) _) _) (by simp; omega) hb'⟩

/-! ### impl_actOk: function 65 -/
def impl_actOk.f (a0_0 : Int) (a0_1 : ByteArray) (a0_2 : ByteArray) (a0_3 : ByteArray) : Option (Bool) := (impl_within.f a0_0 1 4).bind fun t211 => (if t211 = true then (if a0_2.toList = ([] : List UInt8) then (if a0_3.toList = ([] : List UInt8) then (some true) else (some (a0_0 == 3))) else (if a0_0 = 1 then (if a0_3.toList = ([] : List UInt8) then (some true) else (some (a0_0 == 3))) else (some false))) else (some false))
set_option maxHeartbeats 8000000 in
set_option maxRecDepth 100000 in
theorem impl_actOk.calls (a0_0 : Int) (a0_1 : ByteArray) (a0_2 : ByteArray) (a0_3 : ByteArray) (r : Bool) (w : World) (h : impl_actOk.f a0_0 a0_1 a0_2 a0_3 = some r) :
  Calls Try.prog 65 #[.agg #[.int .i64 a0_0, .string a0_1, .string a0_2, .string a0_3]] w fun e w' => e = .returned (.bool r) ∧ Below w.heap.size w w' := by
 have hu55 := Try.underlying55
 have HB := Aside0.mk (Below.refl w.heap.size w)
 have H : ((impl_within.f a0_0 1 4).bind fun t211 => (if t211 = true then (if a0_2.toList = ([] : List UInt8) then (if a0_3.toList = ([] : List UInt8) then (some true) else (some (a0_0 == 3))) else (if a0_0 = 1 then (if a0_3.toList = ([] : List UInt8) then (some true) else (some (a0_0 == 3))) else (some false))) else (some false))) = some r := h
 clear h
 replace H := Option.bind_eq_some_iff.mp H
 obtain ⟨t211, A20, H⟩ := H
 have A2 := Aside0.mk A20
 clear A20
 by_cases c3 : t211 = true; rotate_left
 ·
  replace c3 := Bool.eq_false_iff.mpr c3; subst c3
  have H1 : (some false) = some r := by rw [if_neg (show ¬ (false = true) by decide)] at H; exact H
  clear H; have H := H1; clear H1; obtain rfl := Option.some.inj H
  go_enter Try.func65, Try.ntmps65
  go_wp2_with (first | ((with_reducible refine gate_dst (N := 1) rfl ?_); refine bE 1 #[.int .i64 a0_0, .string a0_1, .string a0_2, .string a0_3] 55 ?_; intro gb210 hg w18 hbox hb; have BK210 := Aside0.mk (hbox); have GW210 : Aside0 (w.heap.size ≤ gb210) := GS; have GE210 := GW210; replace HB := Aside0.mk (below_step (BL) hb); clear hb hbox hg; have hcz19_0 : w18.cell? ⟨gb210, 0, none⟩ = some (.int .i64 a0_0) := CZ BK210.out 0; have hcz19_1 : w18.cell? ⟨gb210, 1, none⟩ = some (.string a0_1) := CZ BK210.out 1; have hcz19_2 : w18.cell? ⟨gb210, 2, none⟩ = some (.string a0_2) := CZ BK210.out 2; have hcz19_3 : w18.cell? ⟨gb210, 3, none⟩ = some (.string a0_3) := CZ BK210.out 3; have hfz19_0 := blk_frozen BK210.out 0; have hfz19_1 := blk_frozen BK210.out 1; have hfz19_2 := blk_frozen BK210.out 2; have hfz19_3 := blk_frozen BK210.out 3) | ((with_reducible refine gate_callee (f := 51) rfl ?_); refine goesL_ (some 5) rfl rfl Try.func51 (by kernel_rfl) rfl #[.int .i64 a0_0, .int .i64 1, .int .i64 4] rfl (MA) ?_; (with_reducible refine (impl_within.calls a0_0 1 4 false _ A2.out).mono ?_); rintro e w' ⟨rfl, ⟨nd, rfl⟩⟩; refine ⟨_, rfl, ?_⟩))
  go_ret
  exact ⟨EE, BL⟩
 subst c3
 have H1 : (if a0_2.toList = ([] : List UInt8) then (if a0_3.toList = ([] : List UInt8) then (some true) else (some (a0_0 == 3))) else (if a0_0 = 1 then (if a0_3.toList = ([] : List UInt8) then (some true) else (some (a0_0 == 3))) else (some false))) = some r := by rw [if_pos rfl] at H; exact H
 clear H
 have H := H1
 clear H1
 by_cases c4 : a0_2.toList = ([] : List UInt8)
 ·
  rw [if_pos c4] at H; have c4b0 : (a0_2.toList == ([] : List UInt8)) = true := beq_iff_eq.mpr c4; have c4b1 : (a0_2.toList != ([] : List UInt8)) = false := bne_eq_false_iff_eq.mpr c4; clear c4
  by_cases c5 : a0_3.toList = ([] : List UInt8); rotate_left
  ·
   rw [if_neg c5] at H; have c5b0 : (a0_3.toList == ([] : List UInt8)) = false := beq_eq_false_iff_ne.mpr c5; have c5b1 : (a0_3.toList != ([] : List UInt8)) = true := bne_iff_ne.mpr c5; obtain rfl := Option.some.inj H
   go_enter Try.func65, Try.ntmps65
   go_wp2_with (first | ((with_reducible refine gate_dst (N := 1) rfl ?_); refine bE 1 #[.int .i64 a0_0, .string a0_1, .string a0_2, .string a0_3] 55 ?_; intro gb210 hg w8 hbox hb; have BK210 := Aside0.mk (hbox); have GW210 : Aside0 (w.heap.size ≤ gb210) := GS; have GE210 := GW210; replace HB := Aside0.mk (below_step (BL) hb); clear hb hbox hg; have hcz9_0 : w8.cell? ⟨gb210, 0, none⟩ = some (.int .i64 a0_0) := CZ BK210.out 0; have hcz9_1 : w8.cell? ⟨gb210, 1, none⟩ = some (.string a0_1) := CZ BK210.out 1; have hcz9_2 : w8.cell? ⟨gb210, 2, none⟩ = some (.string a0_2) := CZ BK210.out 2; have hcz9_3 : w8.cell? ⟨gb210, 3, none⟩ = some (.string a0_3) := CZ BK210.out 3; have hfz9_0 := blk_frozen BK210.out 0; have hfz9_1 := blk_frozen BK210.out 1; have hfz9_2 := blk_frozen BK210.out 2; have hfz9_3 := blk_frozen BK210.out 3) | ((with_reducible refine gate_callee (f := 51) rfl ?_); refine goesL_ (some 5) rfl rfl Try.func51 (by kernel_rfl) rfl #[.int .i64 a0_0, .int .i64 1, .int .i64 4] rfl (MA) ?_; (with_reducible refine (impl_within.calls a0_0 1 4 true _ A2.out).mono ?_); rintro e w' ⟨rfl, ⟨nd, rfl⟩⟩; refine ⟨_, rfl, ?_⟩))
   go_ret
   exact ⟨EE, BL⟩
  rw [if_pos c5] at H; have c5b0 : (a0_3.toList == ([] : List UInt8)) = true := beq_iff_eq.mpr c5; have c5b1 : (a0_3.toList != ([] : List UInt8)) = false := bne_eq_false_iff_eq.mpr c5; clear c5; obtain rfl := Option.some.inj H
  go_enter Try.func65, Try.ntmps65
  go_wp2_with (first | ((with_reducible refine gate_dst (N := 1) rfl ?_); refine bE 1 #[.int .i64 a0_0, .string a0_1, .string a0_2, .string a0_3] 55 ?_; intro gb210 hg w6 hbox hb; have BK210 := Aside0.mk (hbox); have GW210 : Aside0 (w.heap.size ≤ gb210) := GS; have GE210 := GW210; replace HB := Aside0.mk (below_step (BL) hb); clear hb hbox hg; have hcz7_0 : w6.cell? ⟨gb210, 0, none⟩ = some (.int .i64 a0_0) := CZ BK210.out 0; have hcz7_1 : w6.cell? ⟨gb210, 1, none⟩ = some (.string a0_1) := CZ BK210.out 1; have hcz7_2 : w6.cell? ⟨gb210, 2, none⟩ = some (.string a0_2) := CZ BK210.out 2; have hcz7_3 : w6.cell? ⟨gb210, 3, none⟩ = some (.string a0_3) := CZ BK210.out 3; have hfz7_0 := blk_frozen BK210.out 0; have hfz7_1 := blk_frozen BK210.out 1; have hfz7_2 := blk_frozen BK210.out 2; have hfz7_3 := blk_frozen BK210.out 3) | ((with_reducible refine gate_callee (f := 51) rfl ?_); refine goesL_ (some 5) rfl rfl Try.func51 (by kernel_rfl) rfl #[.int .i64 a0_0, .int .i64 1, .int .i64 4] rfl (MA) ?_; (with_reducible refine (impl_within.calls a0_0 1 4 true _ A2.out).mono ?_); rintro e w' ⟨rfl, ⟨nd, rfl⟩⟩; refine ⟨_, rfl, ?_⟩))
  go_ret
  exact ⟨EE, BL⟩
 rw [if_neg c4] at H
 have c4b0 : (a0_2.toList == ([] : List UInt8)) = false := beq_eq_false_iff_ne.mpr c4
 have c4b1 : (a0_2.toList != ([] : List UInt8)) = true := bne_iff_ne.mpr c4
 by_cases c10 : a0_0 = 1; rotate_left
 ·
  rw [if_neg c10] at H; have c10b0 : (a0_0 == 1) = false := beq_eq_false_iff_ne.mpr c10; have c10b1 : (a0_0 != 1) = true := bne_iff_ne.mpr c10; obtain rfl := Option.some.inj H
  go_enter Try.func65, Try.ntmps65
  go_wp2_with (first | ((with_reducible refine gate_dst (N := 1) rfl ?_); refine bE 1 #[.int .i64 a0_0, .string a0_1, .string a0_2, .string a0_3] 55 ?_; intro gb210 hg w16 hbox hb; have BK210 := Aside0.mk (hbox); have GW210 : Aside0 (w.heap.size ≤ gb210) := GS; have GE210 := GW210; replace HB := Aside0.mk (below_step (BL) hb); clear hb hbox hg; have hcz17_0 : w16.cell? ⟨gb210, 0, none⟩ = some (.int .i64 a0_0) := CZ BK210.out 0; have hcz17_1 : w16.cell? ⟨gb210, 1, none⟩ = some (.string a0_1) := CZ BK210.out 1; have hcz17_2 : w16.cell? ⟨gb210, 2, none⟩ = some (.string a0_2) := CZ BK210.out 2; have hcz17_3 : w16.cell? ⟨gb210, 3, none⟩ = some (.string a0_3) := CZ BK210.out 3; have hfz17_0 := blk_frozen BK210.out 0; have hfz17_1 := blk_frozen BK210.out 1; have hfz17_2 := blk_frozen BK210.out 2; have hfz17_3 := blk_frozen BK210.out 3) | ((with_reducible refine gate_callee (f := 51) rfl ?_); refine goesL_ (some 5) rfl rfl Try.func51 (by kernel_rfl) rfl #[.int .i64 a0_0, .int .i64 1, .int .i64 4] rfl (MA) ?_; (with_reducible refine (impl_within.calls a0_0 1 4 true _ A2.out).mono ?_); rintro e w' ⟨rfl, ⟨nd, rfl⟩⟩; refine ⟨_, rfl, ?_⟩))
  go_ret
  exact ⟨EE, BL⟩
 rw [if_pos c10] at H
 have c10b0 : (a0_0 == 1) = true := beq_iff_eq.mpr c10
 have c10b1 : (a0_0 != 1) = false := bne_eq_false_iff_eq.mpr c10
 clear c10
 by_cases c11 : a0_3.toList = ([] : List UInt8); rotate_left
 ·
  rw [if_neg c11] at H; have c11b0 : (a0_3.toList == ([] : List UInt8)) = false := beq_eq_false_iff_ne.mpr c11; have c11b1 : (a0_3.toList != ([] : List UInt8)) = true := bne_iff_ne.mpr c11; obtain rfl := Option.some.inj H
  go_enter Try.func65, Try.ntmps65
  go_wp2_with (first | ((with_reducible refine gate_dst (N := 1) rfl ?_); refine bE 1 #[.int .i64 a0_0, .string a0_1, .string a0_2, .string a0_3] 55 ?_; intro gb210 hg w14 hbox hb; have BK210 := Aside0.mk (hbox); have GW210 : Aside0 (w.heap.size ≤ gb210) := GS; have GE210 := GW210; replace HB := Aside0.mk (below_step (BL) hb); clear hb hbox hg; have hcz15_0 : w14.cell? ⟨gb210, 0, none⟩ = some (.int .i64 a0_0) := CZ BK210.out 0; have hcz15_1 : w14.cell? ⟨gb210, 1, none⟩ = some (.string a0_1) := CZ BK210.out 1; have hcz15_2 : w14.cell? ⟨gb210, 2, none⟩ = some (.string a0_2) := CZ BK210.out 2; have hcz15_3 : w14.cell? ⟨gb210, 3, none⟩ = some (.string a0_3) := CZ BK210.out 3; have hfz15_0 := blk_frozen BK210.out 0; have hfz15_1 := blk_frozen BK210.out 1; have hfz15_2 := blk_frozen BK210.out 2; have hfz15_3 := blk_frozen BK210.out 3) | ((with_reducible refine gate_callee (f := 51) rfl ?_); refine goesL_ (some 5) rfl rfl Try.func51 (by kernel_rfl) rfl #[.int .i64 a0_0, .int .i64 1, .int .i64 4] rfl (MA) ?_; (with_reducible refine (impl_within.calls a0_0 1 4 true _ A2.out).mono ?_); rintro e w' ⟨rfl, ⟨nd, rfl⟩⟩; refine ⟨_, rfl, ?_⟩))
  go_ret
  exact ⟨EE, BL⟩
 rw [if_pos c11] at H
 have c11b0 : (a0_3.toList == ([] : List UInt8)) = true := beq_iff_eq.mpr c11
 have c11b1 : (a0_3.toList != ([] : List UInt8)) = false := bne_eq_false_iff_eq.mpr c11
 clear c11
 obtain rfl := Option.some.inj H
 go_enter Try.func65, Try.ntmps65
 go_wp2_with (first | ((with_reducible refine gate_dst (N := 1) rfl ?_); refine bE 1 #[.int .i64 a0_0, .string a0_1, .string a0_2, .string a0_3] 55 ?_; intro gb210 hg w12 hbox hb; have BK210 := Aside0.mk (hbox); have GW210 : Aside0 (w.heap.size ≤ gb210) := GS; have GE210 := GW210; replace HB := Aside0.mk (below_step (BL) hb); clear hb hbox hg; have hcz13_0 : w12.cell? ⟨gb210, 0, none⟩ = some (.int .i64 a0_0) := CZ BK210.out 0; have hcz13_1 : w12.cell? ⟨gb210, 1, none⟩ = some (.string a0_1) := CZ BK210.out 1; have hcz13_2 : w12.cell? ⟨gb210, 2, none⟩ = some (.string a0_2) := CZ BK210.out 2; have hcz13_3 : w12.cell? ⟨gb210, 3, none⟩ = some (.string a0_3) := CZ BK210.out 3; have hfz13_0 := blk_frozen BK210.out 0; have hfz13_1 := blk_frozen BK210.out 1; have hfz13_2 := blk_frozen BK210.out 2; have hfz13_3 := blk_frozen BK210.out 3) | ((with_reducible refine gate_callee (f := 51) rfl ?_); refine goesL_ (some 5) rfl rfl Try.func51 (by kernel_rfl) rfl #[.int .i64 a0_0, .int .i64 1, .int .i64 4] rfl (MA) ?_; (with_reducible refine (impl_within.calls a0_0 1 4 true _ A2.out).mono ?_); rintro e w' ⟨rfl, ⟨nd, rfl⟩⟩; refine ⟨_, rfl, ?_⟩))
 go_ret
 exact ⟨EE, BL⟩

-- NOT PRINTED: function 81 (impl_File_81)

/-! ### impl_withoutFile: function 67 -/
section
open Go.Proofs.Ythfppepnpngfmaa.Row
def en45 (x : S45) : List Value := [.string x.f0, .string x.f1, .int .i64 x.f2]
theorem en45_len (x : S45) : (en45 x).length = 3 := rfl
theorem en45_M {w : World} {b : Nat} {o : Nat → Prop} {x : S45} {cs : List Value} (h : k45.M w b o x cs) : cs = en45 x := k45_openM h
theorem en45_mk (w : World) (b : Nat) (o : Nat → Prop) (x : S45) : k45.M w b o x (en45 x) := k45_mkM w b o x
theorem en45_one (x : S45) : ∀ v ∈ en45 x, v.oneCell' = true := by
  intro v hv
  simp only [en45, List.mem_cons, List.not_mem_nil, or_false] at hv
  rcases hv with rfl | rfl | rfl <;> rfl
def keepF (s : ByteArray) (x : S45) : Bool := !(x.f0.toList == s.toList)
theorem clear_run (w : World) (g o n c : Nat) (L : List Value) (h : RowIs w g 45 L) (hl : o + n * 3 ≤ L.length) :
    ∃ zs : List Value, zs.length = n * 3 ∧ ∀ ty, (Builtin.clear_ #[27] ty #[.slice (some ⟨g, o, none⟩) n c]).run Try.prog w = .ok (.tuple #[]) (w.setCells g o zs) := by
  cases n with
  | zero => exact ⟨[], by simp, fun ty => by simp [Builtin.clear_, run_underlying Try.underlying27, World.setCells]⟩
  | succ m =>
    refine ⟨(Builtin.zeroCells #[.string ⟨#[]⟩, .string ⟨#[]⟩, .int .i64 0] (m + 1)).toList, by simp [Builtin.zeroCells], fun ty => ?_⟩
    have hv : ∀ W, (zeroValue 45).run Try.prog W = .ok (.agg #[.string ⟨#[]⟩, .string ⟨#[]⟩, .int .i64 0]) W := fun W => by kernel_rfl
    have hst := run_storeCells_cells (P := Try.prog) g o (Builtin.zeroCells #[.string ⟨#[]⟩, .string ⟨#[]⟩, .int .i64 0] (m + 1)).toList 0 w (fun j hj => h.isSome (by simp [Builtin.zeroCells] at hj; omega)) (fun j _ => h.free _) (by
      intro v hv'
      simp only [Builtin.zeroCells, Array.toList_map, List.mem_map] at hv'
      obtain ⟨i, _, rfl⟩ := hv'
      have h3 : i % 3 < 3 := Nat.mod_lt _ (by omega)
      show (#[Value.string ⟨#[]⟩, .string ⟨#[]⟩, .int .i64 0][i % 3]!).oneCell' = true
      rcases (by omega : i % 3 = 0 ∨ i % 3 = 1 ∨ i % 3 = 2) with e | e | e <;> rw [e] <;> rfl)
    simp only [Nat.add_zero] at hst
    simp only [Builtin.clear_, run_underlying Try.underlying27, hv, Value.cells, hst]
    simp [run_underlying Try.underlying27, hv, hst, Value.cells]
set_option maxHeartbeats 4000000 in
theorem impl_withoutFile.test (a b : ByteArray) (c : Int) (s : ByteArray) (B : Nat) (w : World) (hB : B < w.heap.size) (hc : w.cell? ⟨B, 0, none⟩ = some (.string s)) :
    Calls Try.prog 82 #[.agg #[.string a, .string b, .int .i64 c], .pointer (some ⟨B, 0, none⟩)] w fun e w' => e = .returned (.bool (a.toList == s.toList)) ∧ Below w.heap.size w w' := by
  have hu45 := Try.underlying45
  go_enter Try.func82, Try.ntmps82
  go_wp2
  go_ret
  exact ⟨rfl, below_alloc (Below.refl _ _) _⟩
set_option maxHeartbeats 2000000 in
theorem impl_withoutFile.index (l : List S45) (A : Option Addr) (c : Nat) (s : ByteArray) (B : Nat) (w : World) (hl : Kd.C k45 w A l.length l) (hB : B < w.heap.size) (hc : w.cell? ⟨B, 0, none⟩ = some (.string s)) :
    Calls Try.prog 77 #[.slice A l.length c, .func (.func 82) #[] #[.pointer (some ⟨B, 0, none⟩)]] w fun e w' => e = .returned (.int .i64 (impl_placeOf.ix s l 0)) ∧ Below w.heap.size w w' := by
  have hu45 := Try.underlying45
  have hmax := Kd.C_max hl
  have HL := Aside0.mk hl
  have HC := Aside0.mk hc
  clear hl hc
  go_enter Try.func77, Try.ntmps77
  go_wp2
  go_loopg [5, 8] l.length (fun gg _ s8 wr => ∃ kk : Nat, kk ≤ l.length ∧ l.length - kk ≤ gg ∧ s8 = .int .i64 kk ∧ Aside0 (Below w.heap.size w wr) ∧ Aside0 (impl_placeOf.ix s (l.drop kk) kk = impl_placeOf.ix s l 0))
  case atStart => exact ⟨0, Nat.zero_le _, by omega, rfl, ⟨Below.refl _ w⟩, ⟨rfl⟩⟩
  case round =>
    obtain ⟨kk, hkk, hg, rfl, BW, IX⟩ := hrel
    by_cases hlt : kk < l.length
    · have hltz : (kk : Int) < (l.length : Int) := by omega
      have hcB := (BW.out.cell (p := ⟨B, 0, none⟩) hB).trans HC.out
      obtain ⟨ad, e1, x0, x1, x2⟩ := at_T45 HL.out (kk : Int) (by omega) hltz
      cases e1
      simp only [Int.toNat_natCast] at x0 x1 x2
      replace x0 := (BW.out.cell (World.block_lt_of_cell? w _ x0)).trans x0
      replace x1 := (BW.out.cell (World.block_lt_of_cell? w _ x1)).trans x1
      replace x2 := (BW.out.cell (World.block_lt_of_cell? w _ x2)).trans x2
      have hcall := impl_withoutFile.test (rd_T45 l kk).f0 (rd_T45 l kk).f1 (rd_T45 l kk).f2 s B wr (Nat.lt_of_lt_of_le hB BW.out.size) hcB
      have IY := IX.out
      rw [impl_placeOf.drop_rd l kk hlt, impl_placeOf.ix] at IY
      clear hcB
      cases hq : (rd_T45 l (kk : Int)).f0.toList == s.toList with
      | true =>
        rw [hq, if_pos rfl] at IY
        rw [hq] at hcall
        have HIY := Aside0.mk IY
        clear IY hq IX
        go_wp2_with (go_at_call 82; refine hcall.mono ?_; rintro e w' ⟨rfl, hb'⟩)
        go_ret
        exact ⟨by rw [HIY.out]; rfl, below_then BW.out BW.out.size hb'⟩
      | false =>
        rw [hq, if_neg (by simp)] at IY
        rw [hq] at hcall
        have HIY := Aside0.mk IY
        clear IY hq IX
        go_wp2_with (go_at_call 82; refine hcall.mono ?_; rintro e w' ⟨rfl, hb'⟩)
        go_roundg (l.length - (kk + 1))
        case measure => omega
        case rel => exact ⟨kk + 1, by omega, by omega, by go_num, ⟨below_then BW.out BW.out.size hb'⟩, HIY⟩
    · have hltz : ¬ (kk : Int) < (l.length : Int) := by omega
      have : kk = l.length := by omega
      subst this
      have IY := IX.out
      rw [List.drop_length, impl_placeOf.ix] at IY
      have HIY := Aside0.mk IY
      clear IY IX
      go_wp2
      go_ret
      exact ⟨by rw [← HIY.out]; rfl, BW.out⟩

theorem keep_ix (s : ByteArray) (l : List S45) : ∀ i : Int, (impl_placeOf.ix s l i = -1 ∧ l.filter (keepF s) = l) ∨ ∃ j : Nat, j < l.length ∧ impl_placeOf.ix s l i = i + (j : Int) ∧ (l.take j).filter (keepF s) = l.take j ∧ (l.take (j + 1)).filter (keepF s) = l.take j := by
  induction l with
  | nil => intro i; exact .inl ⟨rfl, rfl⟩
  | cons x r ih =>
    intro i
    by_cases h : (x.f0.toList == s.toList) = true
    · refine .inr ⟨0, by simp, ?_, rfl, ?_⟩
      · rw [impl_placeOf.ix, if_pos h]; simp
      · have hk : keepF s x = false := by unfold keepF; rw [h]; rfl
        simp [List.filter_cons, hk]
    · have hk : keepF s x = true := by unfold keepF; rw [Bool.eq_false_iff.2 h]; rfl
      have e : impl_placeOf.ix s (x :: r) i = impl_placeOf.ix s r (i + 1) := by rw [impl_placeOf.ix, if_neg h]
      rcases ih (i + 1) with ⟨h1, h2⟩ | ⟨j, hj, h1, h2, h3⟩
      · exact .inl ⟨by rw [e, h1], by rw [List.filter_cons, if_pos hk, h2]⟩
      · exact .inr ⟨j + 1, by simpa using hj, by rw [e, h1]; omega, by rw [List.take_succ_cons, List.filter_cons, if_pos hk, h2], by rw [List.take_succ_cons, List.filter_cons, if_pos hk, h3]; rfl⟩
/-- The row while it is rewritten: what is kept so far, cells that are free, what is to come, the rest. -/
theorem row_store {g : Nat} {K X T : List Value} {x : S45} {W : World} (h : RowIs W g 45 (K ++ X ++ (en45 x ++ T))) (h3 : 3 ≤ X.length) (o : Nat) (ho : K.length = o) :
    RowIs (W.setCells g o (en45 x)) g 45 ((K ++ en45 x) ++ (X ++ en45 x).drop 3 ++ T) := by
  subst ho
  have hs := h.set K.length (en45 x) (by simp [en45]; omega)
  have e1 : (K ++ X ++ (en45 x ++ T)).take K.length = K := by rw [List.append_assoc]; exact List.take_left' rfl
  have e2 : (K ++ X ++ (en45 x ++ T)).drop (K.length + (en45 x).length) = (X ++ en45 x).drop 3 ++ T := by
    rw [← List.drop_drop, List.append_assoc, List.drop_left' rfl, ← List.append_assoc, en45_len, List.drop_append_of_le_length (by simp [en45])]
  rw [e1, e2] at hs
  simpa [List.append_assoc] using hs
theorem row_clear {g : Nat} {K X T : List Value} {W : World} (h : RowIs W g 45 (K ++ X ++ T)) (zs : List Value) (hz : zs.length = X.length) (o : Nat) (ho : K.length = o) : RowIs (W.setCells g o zs) g 45 (K ++ zs ++ T) := by
  subst ho
  have hs := h.set K.length zs (by simp; omega)
  rw [List.append_assoc K X T, List.take_left' rfl, ← List.drop_drop, List.drop_left' rfl, hz, List.drop_left' rfl] at hs
  exact hs
theorem take_rd (l : List S45) (j : Nat) (h : j < l.length) : l.take (j + 1) = l.take j ++ [rd_T45 l (j : Int)] := by
  have e := List.take_append_drop j (l.take (j + 1))
  rw [List.take_take, Nat.min_eq_left (by omega), List.drop_take, impl_placeOf.drop_rd l j h, show j + 1 - j = 1 by omega] at e
  rw [← e]; rfl
theorem row_at {K X T : List Value} {x : S45} {m : Nat} (hm : K.length + X.length = m) (i : Nat) (v : Value) (hv : (en45 x)[i]? = some v) : (K ++ X ++ (en45 x ++ T))[m + i]? = some v := by
  subst hm
  have hi := (List.getElem?_eq_some_iff.1 hv).1
  rw [List.getElem?_append_right (by simp), List.length_append, Nat.add_sub_cancel_left, List.getElem?_append_left hi]
  exact hv
set_option maxHeartbeats 4000000 in
set_option maxRecDepth 100000 in
theorem impl_withoutFile.delete (l : List S45) (v : Value) (s : ByteArray) (B base : Nat) (ok : Nat → Prop) (w : World) (hR : Kd.R k45 45 w base ok v l) (hB : B < w.heap.size) (hc : w.cell? ⟨B, 0, none⟩ = some (.string s)) (hne : ∀ k, v.ownBlock = some k → B ≠ k) :
    Calls Try.prog 81 #[v, .func (.func 82) #[] #[.pointer (some ⟨B, 0, none⟩)]] w fun e w' => ∃ v', e = .returned v' ∧ Kd.R k45 45 w' base ok v' (l.filter (keepF s)) ∧ w.grownBy w' v.ownBlock := by
  have hu45 := Try.underlying45
  have hu27 := Try.underlying27
  obtain ⟨A, c, rfl, hlc, hC⟩ := Kd.R_reads hR
  have hIF := impl_withoutFile.index l A c s B w hC hB hc
  rcases keep_ix s l 0 with ⟨e1, e2⟩ | ⟨k0, hk0, e1, e2, e3⟩
  · rw [e1] at hIF
    rw [e2]
    have HR := Aside0.mk hR
    clear hR hC e1 e2 hc
    go_enter Try.func81, Try.ntmps81
    go_wp2_with (go_at_call 77; refine hIF.mono ?_; rintro e w' ⟨rfl, hb'⟩)
    go_ret
    exact ⟨_, rfl, Kd.R_below HR.out hb', grown_of_below hb' _⟩
  · rcases R_rows (enc := en45) en45_len en45_M hR with ⟨_, rfl⟩ | ⟨g, cap, rest, ev, hbg, hokg, hcap, hmx, hrow, hrl⟩
    · simp at hk0
    cases ev
    have hBg : B ≠ g := hne g rfl
    rw [e1] at hIF
    have hne1 : ((0 : Int) + (k0 : Int) == -1) = false := beq_eq_false_iff_ne.2 (by omega)
    unfold maxLen at hmx
    have HRow := Aside0.mk hrow
    have HC := Aside0.mk hc
    have E2 := Aside0.mk e2
    have E3 := Aside0.mk e3
    clear hR hC hrow hc e1 e2 e3 hne
    simp only [Int.zero_add] at hIF hne1
    go_enter Try.func81, Try.ntmps81
    go_wp2_with (go_at_call 77; refine hIF.mono ?_; rintro e w1 ⟨rfl, hb1⟩)
    go_loopg [5, 6, 7] l.length (fun gg s5 s6 _ wr => ∃ (i j : Nat) (X : List Value), s5 = .int .i64 i ∧ s6 = .int .i64 j ∧ j ≤ l.length ∧ l.length - j ≤ gg ∧ Aside0 (i < j ∧ ((l.take j).filter (keepF s)).length = i ∧ X.length = (j - i) * 3) ∧ Aside0 (RowIs wr g 45 (flat en45 ((l.take j).filter (keepF s)) ++ X ++ (flat en45 (l.drop j) ++ rest))) ∧ Aside0 (w.grownBy wr (some g)))
    case atStart =>
      refine ⟨k0, k0 + 1, en45 (rd_T45 l (k0 : Int)), rfl, by go_num, by omega, by omega, ⟨by omega, ?_, ?_⟩, ⟨?_⟩, ⟨grown_of_below hb1 _⟩⟩
      · rw [E3.out, List.length_take]; omega
      · rw [en45_len, show k0 + 1 - k0 = 1 by omega]
      · have := HRow.out.below hb1
        rw [E3.out]
        have e : flat en45 l = flat en45 (l.take k0) ++ en45 (rd_T45 l (k0 : Int)) ++ flat en45 (l.drop (k0 + 1)) := by
          conv => lhs; rw [← List.take_append_drop k0 l, impl_placeOf.drop_rd l k0 hk0, flat_append, flat_cons]
          simp
        rw [e, List.append_assoc] at this
        exact this
    case round =>
      obtain ⟨i, j, X, rfl, rfl, hjl, hgg, IX, ROW, GW⟩ := hrel
      have hij := IX.out.1
      by_cases hlt : j < l.length
      · have hltz : (j : Int) < (l.length : Int) := by omega
        have hkl : (flat en45 ((l.take j).filter (keepF s))).length = i * 3 := by rw [flat_length en45_len, IX.out.2.1]
        have hXl : X.length = (j - i) * 3 := IX.out.2.2
        have R0 := ROW.out
        rw [impl_placeOf.drop_rd l j hlt, flat_cons, List.append_assoc (en45 _)] at R0
        have hm : (flat en45 ((l.take j).filter (keepF s))).length + X.length = j * 3 := by omega
        have x0 : wr.cell? ⟨g, j * 3, none⟩ = some (.string (rd_T45 l (j : Int)).f0) := R0.cell (row_at hm 0 _ rfl)
        have hBlt : B < wr.heap.size := World.block_lt_of_cell? wr ⟨B, 0, none⟩ (grown_cell GW.out hBg HC.out)
        have x1 := R0.cell (row_at hm 1 (.string (rd_T45 l (j : Int)).f1) rfl)
        have x2 := R0.cell (row_at hm 2 (.int .i64 (rd_T45 l (j : Int)).f2) rfl)
        have hcB := grown_cell GW.out hBg HC.out
        have hcall := impl_withoutFile.test (rd_T45 l j).f0 (rd_T45 l j).f1 (rd_T45 l j).f2 s B (wr.alloc (.cells #[.string (rd_T45 l j).f0, .string (rd_T45 l j).f1, .int .i64 (rd_T45 l j).f2] 45)) (by simp; omega) (pw_cell_below (below_alloc (Below.refl _ _) _) hcB)
        have RA := Aside0.mk (R0.below (below_alloc (Below.refl _ _) (.cells #[.string (rd_T45 l j).f0, .string (rd_T45 l j).f1, .int .i64 (rd_T45 l j).f2] 45)))
        have GA := Aside0.mk (grown_below GW.out (below_alloc (Below.refl _ _) (.cells #[.string (rd_T45 l j).f0, .string (rd_T45 l j).f1, .int .i64 (rd_T45 l j).f2] 45)))
        have HLn := Aside0.mk (show i * 3 + 3 ≤ (flat en45 ((l.take j).filter (keepF s)) ++ X ++ (en45 (rd_T45 l (j : Int)) ++ (flat en45 (l.drop (j + 1)) ++ rest))).length by simp only [List.length_append, hkl, hXl]; omega)
        have hil : (i : Int) < (l.length : Int) := by omega
        clear R0 hkl hXl hm ROW GW hcB
        cases hq : (rd_T45 l (j : Int)).f0.toList == s.toList with
        | true =>
          rw [hq] at hcall
          have HQ := Aside0.mk hq
          clear hq
          go_wp2_with (go_at_call 82; refine hcall.mono ?_; rintro e w2 ⟨rfl, hb2⟩)
          go_roundg (l.length - (j + 1))
          case measure => omega
          case rel =>
            have hk : keepF s (rd_T45 l (j : Int)) = false := by unfold keepF; rw [HQ.out]; rfl
            have e1 : (l.take (j + 1)).filter (keepF s) = (l.take j).filter (keepF s) := by rw [take_rd l j hlt, List.filter_append]; simp [List.filter_cons, hk]
            refine ⟨i, j + 1, X ++ en45 (rd_T45 l (j : Int)), rfl, by go_num, by omega, Nat.le_refl _, ⟨by omega, by rw [e1]; exact IX.out.2.1, by rw [List.length_append, IX.out.2.2, en45_len]; omega⟩, ⟨?_⟩, ⟨grown_below GA.out hb2⟩⟩
            have := RA.out.below hb2
            rw [e1]
            simpa [List.append_assoc] using this
        | false =>
          rw [hq] at hcall
          have HQ := Aside0.mk hq
          clear hq
          go_wp2_with (go_at_call 82; refine hcall.mono ?_; rintro e w2 ⟨rfl, hb2⟩; have RB := Aside0.mk (RA.out.below hb2); have GB := Aside0.mk (grown_below GA.out hb2); have n0 : w2.cell? ⟨wr.heap.size, 0, none⟩ = some (.string (rd_T45 l (j : Int)).f0) := pw_cell_below hb2 (by go_simp); have n1 : w2.cell? ⟨wr.heap.size, 1, none⟩ = some (.string (rd_T45 l (j : Int)).f1) := pw_cell_below hb2 (by go_simp); have n2 : w2.cell? ⟨wr.heap.size, 2, none⟩ = some (.int .i64 (rd_T45 l (j : Int)).f2) := pw_cell_below hb2 (by go_simp); obtain ⟨o0, p0⟩ := Option.isSome_iff_exists.1 (RB.out.isSome (j := i * 3) (by have := HLn.out; omega)); obtain ⟨o1, p1⟩ := Option.isSome_iff_exists.1 (RB.out.isSome (j := i * 3 + 1) (by have := HLn.out; omega)); obtain ⟨o2, p2⟩ := Option.isSome_iff_exists.1 (RB.out.isSome (j := i * 3 + 2) (by have := HLn.out; omega)); have q0 := RB.out.free (i * 3); have q1 := RB.out.free (i * 3 + 1); have q2 := RB.out.free (i * 3 + 2))
          go_roundg (l.length - (j + 1))
          case measure => omega
          case rel =>
            have hk : keepF s (rd_T45 l (j : Int)) = true := by unfold keepF; rw [HQ.out]; rfl
            have e1 : (l.take (j + 1)).filter (keepF s) = (l.take j).filter (keepF s) ++ [rd_T45 l (j : Int)] := by rw [take_rd l j hlt, List.filter_append]; simp [List.filter_cons, hk]
            have hx := IX.out.2.2
            refine ⟨i + 1, j + 1, (X ++ en45 (rd_T45 l (j : Int))).drop 3, by go_num, by go_num, by omega, Nat.le_refl _, ⟨by omega, by rw [e1, List.length_append, IX.out.2.1]; rfl, by rw [List.length_drop, List.length_append, hx, en45_len]; omega⟩, ⟨?_⟩, ⟨?_⟩⟩
            · have := row_store RB.out (by omega) (i * 3) (by rw [flat_length en45_len, IX.out.2.1])
              rw [e1, flat_append]
              exact this
            · exact grown_trans GB.out (grown_set w2 g (i * 3) (en45 (rd_T45 l (j : Int))))
      · obtain rfl : j = l.length := by omega
        have hltz : ¬ (l.length : Int) < (l.length : Int) := by omega
        have hkl : (flat en45 ((l.take l.length).filter (keepF s))).length = i * 3 := by rw [flat_length en45_len, IX.out.2.1]
        have hXl : X.length = (l.length - i) * 3 := IX.out.2.2
        obtain ⟨zs, hz, hcl⟩ := clear_run wr g (i * 3) (l.length - i) (c - i) _ ROW.out (by simp only [List.length_append, hkl, hXl]; omega)
        have hs := row_clear ROW.out zs (by rw [hz, hXl]) (i * 3) hkl
        rw [List.drop_length] at hs
        have HS := Aside0.mk hs
        have HZ := Aside0.mk hz
        have hil : (i : Int) ≤ (l.length : Int) := by omega
        have hic : (i : Int) ≤ (c : Int) := by omega
        have hci : ¬ (c = i) := by omega
        clear hkl hXl hs hz ROW
        go_wp2
        go_ret
        have e1 : (l.take l.length).filter (keepF s) = l.filter (keepF s) := by rw [List.take_length]
        have hi := IX.out.2.1
        rw [e1] at hi
        refine ⟨.slice (some ⟨g, 0, none⟩) (l.filter (keepF s)).length c, by rw [hi]; rfl, ?_, grown_trans GW.out (grown_set wr g (i * 3) zs)⟩
        have hfl := List.length_filter_le (keepF s) l
        refine R_of_rows (rest := zs ++ rest) en45_len en45_mk hbg hokg (by omega) (by unfold maxLen; omega) ?_ ?_
        · have := HS.out
          rw [e1] at this
          simpa [flat_nil, List.append_assoc] using this
        · have e3 : k45.sz = 3 := rfl
          rw [List.length_append, HZ.out, hrl, e3, hi]
          omega
theorem heap3 (w : World) (a b c : Obj) : (((w.alloc a).alloc b).alloc c).heap[w.heap.size + 2]? = some c := by
  have e : ((w.alloc a).alloc b).heap.size = w.heap.size + 2 := by simp
  rw [← e]
  exact heap_alloc_new _ _
def impl_withoutFile.f (l0_0 : List S45) (a1 : ByteArray) : Option (List S45) := (impl_copyDisk.f l0_0).bind fun l => some (l.filter (keepF a1))
set_option maxHeartbeats 4000000 in
set_option maxRecDepth 100000 in
theorem impl_withoutFile.calls (A0_0 : Option Addr) (c0_0 : Nat) (l0_0 : List (S45)) (a1 : ByteArray) (r : List S45) (w : World) (hr0_0 : Kd.C k45 w A0_0 l0_0.length l0_0) (hc0_0 : l0_0.length ≤ c0_0) (h : impl_withoutFile.f l0_0 a1 = some r) :
    Calls Try.prog 67 #[.agg #[.slice A0_0 l0_0.length c0_0], .string a1] w fun e w' => ∃ v0_ : Value, e = .returned (.agg #[v0_]) ∧ Kd.R k45 45 w' w.heap.size (fun _ => True) v0_ r ∧ Below w.heap.size w w' := by
  obtain ⟨l, h1, h2⟩ := Option.bind_eq_some_iff.1 h
  obtain rfl := Option.some.inj h2
  have hu29 := Try.underlying29
  have hb0 := below_alloc (below_alloc (below_alloc (Below.refl w.heap.size w) (.cells #[.slice A0_0 l0_0.length c0_0] 29)) (.cells #[.string a1] 9)) (.cells #[.slice none 0 0] 29)
  have hcp := impl_copyDisk.calls A0_0 c0_0 l0_0 l (((w.alloc (.cells #[.slice A0_0 l0_0.length c0_0] 29)).alloc (.cells #[.string a1] 9)).alloc (.cells #[.slice none 0 0] 29)) (Kd.C_alloc (Kd.C_alloc (Kd.C_alloc hr0_0 _) _) _) hc0_0 h1
  have HB0 := Aside0.mk hb0
  clear h h1 h2 hr0_0 hc0_0 hb0
  have hfld : ∀ (A : Option Addr) (n c : Nat) (W : World), Sem.run Try.prog (Instr.field 29 (.agg #[.slice A n c]) 0) W = .ok (.slice A n c) W := fun _ _ _ _ => by kernel_rfl
  go_enter Try.func67, Try.ntmps67
  go_wp2_with (first | (go_at_call 61; refine hcp.mono ?_; rintro e w1 ⟨v0, rfl, hR, hb1⟩; obtain ⟨Ao, co, rfl, hco, _⟩ := Kd.R_reads hR; have HR := Aside0.mk hR; have HB1 := Aside0.mk hb1; have hs1 : w1.heap.size > w.heap.size + 2 := (by have := hb1.size; simp at this; omega); have hc1 : w1.cell? ⟨w.heap.size + 1, 0, none⟩ = some (.string a1) := pw_cell_below hb1 (by go_simp); have hb29 : w1.heap[w.heap.size + 2]? = some (.cells #[.slice none 0 0] 29 (0, 0)) := ((hb1.block (w.heap.size + 2) (by simp)).trans (heap3 w _ _ _)); clear hR hb1) | (go_at_call 81; refine (impl_withoutFile.delete l _ a1 (w.heap.size + 1) _ _ w1 HR.out (by omega) hc1 (fun k hk => by have := Kd.R_base HR.out k hk; simp at this; omega)).mono ?_; rintro e w2 ⟨v2, rfl, hR2, hg2⟩; obtain ⟨A2, c2, rfl, hc2, _⟩ := Kd.R_reads hR2; have HR2 := Aside0.mk hR2; have HG2 := Aside0.mk hg2; have hb29' : w2.heap[w.heap.size + 2]? = some (.cells #[.slice none 0 0] 29 (0, 0)) := ((hg2.block (w.heap.size + 2) (by omega) (fun ee => by have := Kd.R_base HR.out _ ee.symm; simp at this; omega)).trans hb29); have HB29 := Aside0.mk hb29'; have c29 : w2.cell? ⟨w.heap.size + 1 + 1, 0, none⟩ = some (.slice none 0 0) := (blk_cell hb29' 0).trans rfl; have f29 : w2.frozen? ⟨w.heap.size + 1 + 1, 0, none⟩ = false := blk_frozen hb29' 0; clear hR2 hg2 hb29 hb29'))
  refine bodyPost_ret (results_cell_row rfl _ _ (w.heap.size + 1 + 1) 29 #[.slice A2 (l.filter (keepF a1)).length c2] (0, 0) _ rfl (blk_put (cs := #[.slice none 0 0]) HB29.out 0 _ rfl) Try.underlying29 rfl (by kernel_rfl)) rfl ?_
  exact ⟨_, rfl, Kd.R_lower (Kd.R_set (Kd.R_mono HR2.out (fun _ _ => trivial)) HB29.out (by decide) 0 _) (by simp; omega), below_set (pw_below_grown (below_then HB0.out (by simp; omega) HB1.out) _ (by omega) HG2.out (fun k hk => by have := Kd.R_base HR.out k hk; simp at this; omega)) (by omega)⟩
end

-- NOT PRINTED: function 88 (impl_File_88)

-- NOT PRINTED: function 92 (impl_File_92)

-- NOT PRINTED: function 91 (impl_File_91)

-- NOT PRINTED: function 89 (impl_File_89)

-- NOT PRINTED: function 80 (impl_File_80)

end Go.Proofs.Ythfppepnpngfmaa.Qcu
