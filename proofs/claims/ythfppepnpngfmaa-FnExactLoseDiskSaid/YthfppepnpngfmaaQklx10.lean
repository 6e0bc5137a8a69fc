-- Laid by myprint.py, a program of this session's own, over the kit's print. Not trusted: Lean checks it.
import Derived.Test.YthfppepnpngfmaaQklx0
import Derived.Test.YthfppepnpngfmaaQklx1
import Derived.Test.YthfppepnpngfmaaQklx2
import Derived.Test.YthfppepnpngfmaaQklx4
import Derived.Test.YthfppepnpngfmaaQklx6
import Derived.Test.YthfppepnpngfmaaQklx7
import Derived.Test.YthfppepnpngfmaaQklx9
namespace Go.Proofs.Ythfppepnpngfmaa.Qkl
open Go.RowKit Go.Proofs.YthfppepnpngfmaaW.PrintWords Go.Proofs.YthfppepnpngfmaaW.PrintLast Go.Proofs.YthfppepnpngfmaaW.PrintMore
attribute [local go_sem] Go.Proofs.Ythfppepnpngfmaa.StrCmp.gtr_less Go.Proofs.Ythfppepnpngfmaa.StrCmp.geq_less Go.Proofs.Ythfppepnpngfmaa.StrCmp.leq_less max2_int min2_int max_two min_two max_three min_three max_four min_four   -- for this text's walks alone
set_option linter.unusedVariables false
set_option linter.unusedSimpArgs false

/-! ### laws_FnExactLoseDisk: function 7 -/
mutual
def laws_FnExactLoseDisk.j0 : Nat → List Int → Bool → List Int → Bool → Bool → List (S94) → List (S45) → List (S45) → List (S45) → Option (Bool)
 | 0, _, _, _, _, _, _, _, _, _ => none
 | k + 1, x1, x7, x9, x11, x51, x210000, x222000, x226000, x234000 => if x51 = true then (none) else ((laws_toDisk.f k x210000).bind fun t235 => ((laws_eqDisk.f k x226000 t235).bind fun t238 => (if t238 = true then ((laws_toIntS.f k x1).bind fun t239 => ((laws_eqIntS.f k x9 t239).bind fun t242 => (if t242 = true then ((laws_markDisk.f k x226000 1).bind fun bt243 => ((laws_markIntS.f k x9 bt243.1).bind fun bt245 => (if bt245.1 < 0 then (laws_FnExactLoseDisk.j1 k x1 x7 true x210000 x222000 x234000) else ((laws_eqDisk.f k x234000 x222000).bind fun t247 => (if t247 = true then (laws_FnExactLoseDisk.j1 k x1 x7 (x11 != x7) x210000 x222000 x234000) else (laws_FnExactLoseDisk.j1 k x1 x7 true x210000 x222000 x234000)))))) else (none)))) else (none))))
def laws_FnExactLoseDisk.j1 : Nat → List Int → Bool → Bool → List (S94) → List (S45) → List (S45) → Option (Bool)
 | 0, _, _, _, _, _, _ => none
 | k + 1, x1, x7, x80, x210000, x222000, x234000 => if x80 = true then (none) else ((laws_markDisk.f k x234000 1).bind fun bt248 => ((laws_heldDisk.f k bt248.2 1).bind fun t250 => (if t250 < 0 then (none) else (if t250 = bt248.1 then ((laws_toDisk.f k x210000).bind fun t251 => ((laws_toIntS.f k x1).bind fun t254 => ((impl_LoseDisk.f k t251 t254).bind fun bt257 => ((laws_eqDisk.f k bt257.1 x222000).bind fun t262 => (if t262 = true then (laws_FnExactLoseDisk.j2 k bt248.1 (bt257.2 != x7) bt248.2) else (laws_FnExactLoseDisk.j2 k bt248.1 true bt248.2)))))) else (none)))))
def laws_FnExactLoseDisk.j2 : Nat → Int → Bool → List (S45) → Option (Bool)
 | 0, _, _, _ => none
 | k + 1, x13, x108, x234000 => if x108 = true then (none) else ((laws_heldDisk.f k x234000 1).bind fun t263 => (if t263 < 0 then (none) else (if t263 = x13 then (some true) else (none))))
end
def laws_FnExactLoseDisk.f (k : Nat) (l0_0 : List (S94)) (l1 : List Int) : Option (Bool) := if (l1.length : Int) > 1048576 then (some true) else ((laws_szDisk.f k l0_0 1048576).bind fun t210 => (if t210 < 0 then (some true) else ((laws_toDisk.f k l0_0).bind fun t211 => ((laws_toIntS.f k l1).bind fun t214 => ((spec_LoseDisk.f k t211 t214).bind fun bt217 => ((laws_toDisk.f k l0_0).bind fun t222 => ((laws_toIntS.f k l1).bind fun t226 => ((impl_LoseDisk.f k t222 t226).bind fun bt229 => ((laws_eqDisk.f k bt229.1 bt217.1).bind fun t234 => (if t234 = true then (laws_FnExactLoseDisk.j0 k l1 bt217.2 t226 bt229.2 (bt229.2 != bt217.2) l0_0 bt217.1 t222 bt229.1) else (laws_FnExactLoseDisk.j0 k l1 bt217.2 t226 bt229.2 true l0_0 bt217.1 t222 bt229.1)))))))))))
theorem laws_FnExactLoseDisk.mono_l : ∀ k, (∀ y0 y1 y2 y3 y4 y5 y6 y7 y8, LeO (laws_FnExactLoseDisk.j0 k y0 y1 y2 y3 y4 y5 y6 y7 y8) (laws_FnExactLoseDisk.j0 (k + 1) y0 y1 y2 y3 y4 y5 y6 y7 y8)) ∧ (∀ y0 y1 y2 y3 y4 y5, LeO (laws_FnExactLoseDisk.j1 k y0 y1 y2 y3 y4 y5) (laws_FnExactLoseDisk.j1 (k + 1) y0 y1 y2 y3 y4 y5)) ∧ (∀ y0 y1 y2, LeO (laws_FnExactLoseDisk.j2 k y0 y1 y2) (laws_FnExactLoseDisk.j2 (k + 1) y0 y1 y2))
 | 0 => ⟨fun _ _ _ _ _ _ _ _ _ r h => by simp [laws_FnExactLoseDisk.j0] at h, fun _ _ _ _ _ _ r h => by simp [laws_FnExactLoseDisk.j1] at h, fun _ _ _ r h => by simp [laws_FnExactLoseDisk.j2] at h⟩
 | k + 1 => by
  obtain ⟨ih0, ih1, ih2⟩ := laws_FnExactLoseDisk.mono_l k
  refine ⟨?_, ?_, ?_⟩
  ·
   intro y0 y1 y2 y3 y4 y5 y6 y7 y8
   unfold laws_FnExactLoseDisk.j0
   repeat' first
   | (with_reducible exact ih0 _ _ _ _ _ _ _ _ _)
   | (with_reducible exact ih1 _ _ _ _ _ _)
   | (with_reducible exact ih2 _ _ _)
   | (with_reducible exact impl_LoseDisk.mono _ _ _)
   | (with_reducible exact laws_eqDisk.mono _ _ _)
   | (with_reducible exact laws_eqIntS.mono _ _ _)
   | (with_reducible exact laws_heldDisk.mono _ _ _)
   | (with_reducible exact laws_markDisk.mono _ _ _)
   | (with_reducible exact laws_markIntS.mono _ _ _)
   | (with_reducible exact laws_szDisk.mono _ _ _)
   | (with_reducible exact laws_toDisk.mono _ _)
   | (with_reducible exact laws_toIntS.mono _ _)
   | (with_reducible exact spec_LoseDisk.mono _ _ _)
   | (with_reducible exact LeO.refl _)
   | (with_reducible exact LeO.none _)
   | (with_reducible refine LeO.ite ?_ ?_)
   | (with_reducible refine LeO.bind ?_ (fun _ => ?_))
   | exact ih0 _ _ _ _ _ _ _ _ _
   | exact ih1 _ _ _ _ _ _
   | exact ih2 _ _ _
   | exact impl_LoseDisk.mono _ _ _
   | exact laws_eqDisk.mono _ _ _
   | exact laws_eqIntS.mono _ _ _
   | exact laws_heldDisk.mono _ _ _
   | exact laws_markDisk.mono _ _ _
   | exact laws_markIntS.mono _ _ _
   | exact laws_szDisk.mono _ _ _
   | exact laws_toDisk.mono _ _
   | exact laws_toIntS.mono _ _
   | exact spec_LoseDisk.mono _ _ _
   | exact LeO.none _
   | refine LeO.ite ?_ ?_
   | refine LeO.bind ?_ (fun _ => ?_)
  ·
   intro y0 y1 y2 y3 y4 y5
   unfold laws_FnExactLoseDisk.j1
   repeat' first
   | (with_reducible exact ih0 _ _ _ _ _ _ _ _ _)
   | (with_reducible exact ih1 _ _ _ _ _ _)
   | (with_reducible exact ih2 _ _ _)
   | (with_reducible exact impl_LoseDisk.mono _ _ _)
   | (with_reducible exact laws_eqDisk.mono _ _ _)
   | (with_reducible exact laws_eqIntS.mono _ _ _)
   | (with_reducible exact laws_heldDisk.mono _ _ _)
   | (with_reducible exact laws_markDisk.mono _ _ _)
   | (with_reducible exact laws_markIntS.mono _ _ _)
   | (with_reducible exact laws_szDisk.mono _ _ _)
   | (with_reducible exact laws_toDisk.mono _ _)
   | (with_reducible exact laws_toIntS.mono _ _)
   | (with_reducible exact spec_LoseDisk.mono _ _ _)
   | (with_reducible exact LeO.refl _)
   | (with_reducible exact LeO.none _)
   | (with_reducible refine LeO.ite ?_ ?_)
   | (with_reducible refine LeO.bind ?_ (fun _ => ?_))
   | exact ih0 _ _ _ _ _ _ _ _ _
   | exact ih1 _ _ _ _ _ _
   | exact ih2 _ _ _
   | exact impl_LoseDisk.mono _ _ _
   | exact laws_eqDisk.mono _ _ _
   | exact laws_eqIntS.mono _ _ _
   | exact laws_heldDisk.mono _ _ _
   | exact laws_markDisk.mono _ _ _
   | exact laws_markIntS.mono _ _ _
   | exact laws_szDisk.mono _ _ _
   | exact laws_toDisk.mono _ _
   | exact laws_toIntS.mono _ _
   | exact spec_LoseDisk.mono _ _ _
   | exact LeO.none _
   | refine LeO.ite ?_ ?_
   | refine LeO.bind ?_ (fun _ => ?_)
  ·
   intro y0 y1 y2
   unfold laws_FnExactLoseDisk.j2
   repeat' first
   | (with_reducible exact ih0 _ _ _ _ _ _ _ _ _)
   | (with_reducible exact ih1 _ _ _ _ _ _)
   | (with_reducible exact ih2 _ _ _)
   | (with_reducible exact impl_LoseDisk.mono _ _ _)
   | (with_reducible exact laws_eqDisk.mono _ _ _)
   | (with_reducible exact laws_eqIntS.mono _ _ _)
   | (with_reducible exact laws_heldDisk.mono _ _ _)
   | (with_reducible exact laws_markDisk.mono _ _ _)
   | (with_reducible exact laws_markIntS.mono _ _ _)
   | (with_reducible exact laws_szDisk.mono _ _ _)
   | (with_reducible exact laws_toDisk.mono _ _)
   | (with_reducible exact laws_toIntS.mono _ _)
   | (with_reducible exact spec_LoseDisk.mono _ _ _)
   | (with_reducible exact LeO.refl _)
   | (with_reducible exact LeO.none _)
   | (with_reducible refine LeO.ite ?_ ?_)
   | (with_reducible refine LeO.bind ?_ (fun _ => ?_))
   | exact ih0 _ _ _ _ _ _ _ _ _
   | exact ih1 _ _ _ _ _ _
   | exact ih2 _ _ _
   | exact impl_LoseDisk.mono _ _ _
   | exact laws_eqDisk.mono _ _ _
   | exact laws_eqIntS.mono _ _ _
   | exact laws_heldDisk.mono _ _ _
   | exact laws_markDisk.mono _ _ _
   | exact laws_markIntS.mono _ _ _
   | exact laws_szDisk.mono _ _ _
   | exact laws_toDisk.mono _ _
   | exact laws_toIntS.mono _ _
   | exact spec_LoseDisk.mono _ _ _
   | exact LeO.none _
   | refine LeO.ite ?_ ?_
   | refine LeO.bind ?_ (fun _ => ?_)
theorem laws_FnExactLoseDisk.mono : ∀ a0 a1 k, LeO (laws_FnExactLoseDisk.f k a0 a1) (laws_FnExactLoseDisk.f (k + 1) a0 a1) := by
 intro a0 a1 k
 obtain ⟨ih0, ih1, ih2⟩ := laws_FnExactLoseDisk.mono_l k
 unfold laws_FnExactLoseDisk.f
 repeat' first
   | (with_reducible exact ih0 _ _ _ _ _ _ _ _ _)
   | (with_reducible exact ih1 _ _ _ _ _ _)
   | (with_reducible exact ih2 _ _ _)
   | (with_reducible exact impl_LoseDisk.mono _ _ _)
   | (with_reducible exact laws_eqDisk.mono _ _ _)
   | (with_reducible exact laws_eqIntS.mono _ _ _)
   | (with_reducible exact laws_heldDisk.mono _ _ _)
   | (with_reducible exact laws_markDisk.mono _ _ _)
   | (with_reducible exact laws_markIntS.mono _ _ _)
   | (with_reducible exact laws_szDisk.mono _ _ _)
   | (with_reducible exact laws_toDisk.mono _ _)
   | (with_reducible exact laws_toIntS.mono _ _)
   | (with_reducible exact spec_LoseDisk.mono _ _ _)
   | (with_reducible exact LeO.refl _)
   | (with_reducible exact LeO.none _)
   | (with_reducible refine LeO.ite ?_ ?_)
   | (with_reducible refine LeO.bind ?_ (fun _ => ?_))
   | exact ih0 _ _ _ _ _ _ _ _ _
   | exact ih1 _ _ _ _ _ _
   | exact ih2 _ _ _
   | exact impl_LoseDisk.mono _ _ _
   | exact laws_eqDisk.mono _ _ _
   | exact laws_eqIntS.mono _ _ _
   | exact laws_heldDisk.mono _ _ _
   | exact laws_markDisk.mono _ _ _
   | exact laws_markIntS.mono _ _ _
   | exact laws_szDisk.mono _ _ _
   | exact laws_toDisk.mono _ _
   | exact laws_toIntS.mono _ _
   | exact spec_LoseDisk.mono _ _ _
   | exact LeO.none _
   | refine LeO.ite ?_ ?_
   | refine LeO.bind ?_ (fun _ => ?_)
set_option maxHeartbeats 8000000 in
set_option maxRecDepth 100000 in
theorem laws_FnExactLoseDisk.calls (k : Nat) (A0_0 : Option Addr) (c0_0 : Nat) (l0_0 : List (S94)) (A1 : Option Addr) (c1 : Nat) (l1 : List Int) (r : Bool) (w : World) (hr0_0 : Kd.C k94 w A0_0 l0_0.length l0_0) (hc0_0 : l0_0.length ≤ c0_0) (hr1 : Kd.C (Kd.int .i64) w A1 l1.length l1) (hc1 : l1.length ≤ c1) (h : laws_FnExactLoseDisk.f k l0_0 l1 = some r) :
  Calls Try.prog 7 #[.agg #[.slice A0_0 l0_0.length c0_0], .slice A1 l1.length c1] w fun e w' => e = .returned (.bool r) ∧ Below w.heap.size w w' := by
 have hu24 := Try.underlying24
 have hu29 := Try.underlying29
 have HR0_0 := Aside0.mk hr0_0
 have HC0_0 := Aside0.mk hc0_0
 clear hr0_0 hc0_0
 have HR1 := Aside0.mk hr1
 have HC1 := Aside0.mk hc1
 clear hr1 hc1
 have HB := Aside0.mk (Below.refl w.heap.size w)
 have H : (if (l1.length : Int) > 1048576 then (some true) else ((laws_szDisk.f k l0_0 1048576).bind fun t210 => (if t210 < 0 then (some true) else ((laws_toDisk.f k l0_0).bind fun t211 => ((laws_toIntS.f k l1).bind fun t214 => ((spec_LoseDisk.f k t211 t214).bind fun bt217 => ((laws_toDisk.f k l0_0).bind fun t222 => ((laws_toIntS.f k l1).bind fun t226 => ((impl_LoseDisk.f k t222 t226).bind fun bt229 => ((laws_eqDisk.f k bt229.1 bt217.1).bind fun t234 => (if t234 = true then (laws_FnExactLoseDisk.j0 k l1 bt217.2 t226 bt229.2 (bt229.2 != bt217.2) l0_0 bt217.1 t222 bt229.1) else (laws_FnExactLoseDisk.j0 k l1 bt217.2 t226 bt229.2 true l0_0 bt217.1 t222 bt229.1)))))))))))) = some r := h
 clear h
 by_cases c3 : (l1.length : Int) > 1048576
 ·
  rw [if_pos c3] at H
  have c3b0 : decide (1048576 < (l1.length : Int)) = true := decide_eq_true c3
  have c3b1 : decide (1048576 < l1.length) = true := decide_eq_true (by omega)
  clear c3
  obtain rfl := Option.some.inj H
  go_enter Try.func7, Try.ntmps7
  go_wp2_with (first | ((with_reducible refine gate_dst (N := 2) rfl ?_); refine box_event ?hg (N := 2) ?hd (cs := #[.slice A0_0 l0_0.length c0_0]) (t := 24) ?hr ?_; (case hd => rfl); (case hg => rfl); (case hr => first | (go_simp; done) | (go_simp; rfl)); intro gb209 hg w4 hbox hb; have n0_ := Aside0.mk (below_step (by repeat (first | (with_reducible first | exact HB.out | apply below_alloc | apply pw_below_drewN | apply below_drew1) | exact HB.out)) hb); have n1_ := Aside0.mk (hbox); have n2_ := Aside0.mk ((by rw [hg]; exact (below_size (by repeat (first | (with_reducible first | exact HB.out | apply below_alloc | apply pw_below_drewN | apply below_drew1) | exact HB.out))) : w.heap.size ≤ gb209)); have n3_ := Aside0.mk ((by rw [hg]; exact (below_size (by repeat (first | (with_reducible first | exact HB.out | apply below_alloc | apply pw_below_drewN | apply below_drew1) | exact HB.out))) : w.heap.size ≤ gb209)); clear HB; have HB := n0_; have BK209 := n1_; have GW209 := n2_; have GE209 := n3_; clear n0_ n1_ n2_ n3_; clear hb hbox hg))
  go_ret
  exact ⟨by first | rfl | (simp [errW_none, errW_some] <;> rfl) | (simp [*, errW_none, errW_some] <;> rfl), by repeat (first | (with_reducible first | exact HB.out | apply below_alloc | apply pw_below_drewN | apply below_drew1 | refine below_set ?_ GE209.out) | exact HB.out)⟩
 ·
  rw [if_neg c3] at H
  have c3b0 : decide (1048576 < (l1.length : Int)) = false := decide_eq_false c3
  have c3b1 : decide (1048576 < l1.length) = false := decide_eq_false (by omega)
  clear c3
  replace H := Option.bind_eq_some_iff.mp H
  obtain ⟨t210, A50, H⟩ := H
  replace H : (if t210 < 0 then (some true) else ((laws_toDisk.f k l0_0).bind fun t211 => ((laws_toIntS.f k l1).bind fun t214 => ((spec_LoseDisk.f k t211 t214).bind fun bt217 => ((laws_toDisk.f k l0_0).bind fun t222 => ((laws_toIntS.f k l1).bind fun t226 => ((impl_LoseDisk.f k t222 t226).bind fun bt229 => ((laws_eqDisk.f k bt229.1 bt217.1).bind fun t234 => (if t234 = true then (laws_FnExactLoseDisk.j0 k l1 bt217.2 t226 bt229.2 (bt229.2 != bt217.2) l0_0 bt217.1 t222 bt229.1) else (laws_FnExactLoseDisk.j0 k l1 bt217.2 t226 bt229.2 true l0_0 bt217.1 t222 bt229.1)))))))))) = some r := H
  have A5 := Aside0.mk A50
  clear A50
  by_cases c6 : t210 < 0
  ·
   rw [if_pos c6] at H
   have c6b0 : decide (t210 < 0) = true := decide_eq_true c6
   clear c6
   obtain rfl := Option.some.inj H
   go_enter Try.func7, Try.ntmps7
   go_wp2_with (first | ((with_reducible refine gate_dst (N := 2) rfl ?_); refine box_event ?hg (N := 2) ?hd (cs := #[.slice A0_0 l0_0.length c0_0]) (t := 24) ?hr ?_; (case hd => rfl); (case hg => rfl); (case hr => first | (go_simp; done) | (go_simp; rfl)); intro gb209 hg w7 hbox hb; have n0_ := Aside0.mk (below_step (by repeat (first | (with_reducible first | exact HB.out | apply below_alloc | apply pw_below_drewN | apply below_drew1) | exact HB.out)) hb); have n1_ := Aside0.mk (hbox); have n2_ := Aside0.mk ((by rw [hg]; exact (below_size (by repeat (first | (with_reducible first | exact HB.out | apply below_alloc | apply pw_below_drewN | apply below_drew1) | exact HB.out))) : w.heap.size ≤ gb209)); have n3_ := Aside0.mk ((by rw [hg]; exact (below_size (by repeat (first | (with_reducible first | exact HB.out | apply below_alloc | apply pw_below_drewN | apply below_drew1) | exact HB.out))) : w.heap.size ≤ gb209)); clear HB; have HB := n0_; have BK209 := n1_; have GW209 := n2_; have GE209 := n3_; clear n0_ n1_ n2_ n3_; clear hb hbox hg; have hcz8_0 : w7.cell? ⟨gb209, 0, none⟩ = some (.slice A0_0 l0_0.length c0_0) := (blk_cell BK209.out 0).trans rfl; have hfz8_0 := blk_frozen BK209.out 0) | ((with_reducible refine gate_callee (f := 12) rfl ?_); refine goesL_ (some 22) rfl rfl Try.func12 (by kernel_rfl) rfl #[.agg #[.slice A0_0 l0_0.length c0_0], .int .i64 1048576] rfl (by (try simp only [List.map_toArray, List.map_cons, List.map_nil]); first | done | rfl | (simp only [List.length_drop, List.length_take]; rfl)) ?_; (with_reducible refine (laws_szDisk.calls k _ _ l0_0 1048576 t210 _ ?side1 ?side2 A5.out).mono ?_); (case side1 => repeat (first | exact (Kd.C_below HR0_0.out HB.out) | (with_reducible refine Kd.C_alloc ?_ _) | (with_reducible refine Kd.C_drewN ?_ _) | (with_reducible refine Kd.C_drew ?_))); (case side2 => exact HC0_0.out); rintro e w9 ⟨rfl, hb⟩; refine ⟨_, rfl, ?_⟩; have n0_ := Aside0.mk (blk_below (g := gb209) (o := .cells #[.slice A0_0 l0_0.length c0_0] 24 (0, 0)) (by (with_reducible repeat (first | refine blk_drewN ?_ _ | refine blk_drew ?_ | refine blk_alloc ?_ _)); exact BK209.out) hb); have n1_ := Aside0.mk (below_step (by repeat (first | (with_reducible first | exact HB.out | apply below_alloc | apply pw_below_drewN | apply below_drew1 | refine below_set ?_ GE209.out) | exact HB.out)) hb); clear BK209; clear HB; have BK209 := n0_; have HB := n1_; clear n0_ n1_; (try clear hb); (try clear hb2); (try clear hk); (try clear hi)))
   go_ret
   exact ⟨by first | rfl | (simp [errW_none, errW_some] <;> rfl) | (simp [*, errW_none, errW_some] <;> rfl), by repeat (first | (with_reducible first | exact HB.out | apply below_alloc | apply pw_below_drewN | apply below_drew1 | refine below_set ?_ GE209.out) | exact HB.out)⟩
  ·
   rw [if_neg c6] at H
   have c6b0 : decide (t210 < 0) = false := decide_eq_false c6
   clear c6
   replace H := Option.bind_eq_some_iff.mp H
   obtain ⟨t211, A100, H⟩ := H
   replace H : ((laws_toIntS.f k l1).bind fun t214 => ((spec_LoseDisk.f k t211 t214).bind fun bt217 => ((laws_toDisk.f k l0_0).bind fun t222 => ((laws_toIntS.f k l1).bind fun t226 => ((impl_LoseDisk.f k t222 t226).bind fun bt229 => ((laws_eqDisk.f k bt229.1 bt217.1).bind fun t234 => (if t234 = true then (laws_FnExactLoseDisk.j0 k l1 bt217.2 t226 bt229.2 (bt229.2 != bt217.2) l0_0 bt217.1 t222 bt229.1) else (laws_FnExactLoseDisk.j0 k l1 bt217.2 t226 bt229.2 true l0_0 bt217.1 t222 bt229.1)))))))) = some r := H
   have A10 := Aside0.mk A100
   clear A100
   replace H := Option.bind_eq_some_iff.mp H
   obtain ⟨t214, A110, H⟩ := H
   replace H : ((spec_LoseDisk.f k t211 t214).bind fun bt217 => ((laws_toDisk.f k l0_0).bind fun t222 => ((laws_toIntS.f k l1).bind fun t226 => ((impl_LoseDisk.f k t222 t226).bind fun bt229 => ((laws_eqDisk.f k bt229.1 bt217.1).bind fun t234 => (if t234 = true then (laws_FnExactLoseDisk.j0 k l1 bt217.2 t226 bt229.2 (bt229.2 != bt217.2) l0_0 bt217.1 t222 bt229.1) else (laws_FnExactLoseDisk.j0 k l1 bt217.2 t226 bt229.2 true l0_0 bt217.1 t222 bt229.1))))))) = some r := H
   have A11 := Aside0.mk A110
   clear A110
   replace H := Option.bind_eq_some_iff.mp H
   obtain ⟨⟨t217, t220⟩, A120, H⟩ := H
   replace H : ((laws_toDisk.f k l0_0).bind fun t222 => ((laws_toIntS.f k l1).bind fun t226 => ((impl_LoseDisk.f k t222 t226).bind fun bt229 => ((laws_eqDisk.f k bt229.1 t217).bind fun t234 => (if t234 = true then (laws_FnExactLoseDisk.j0 k l1 t220 t226 bt229.2 (bt229.2 != t220) l0_0 t217 t222 bt229.1) else (laws_FnExactLoseDisk.j0 k l1 t220 t226 bt229.2 true l0_0 t217 t222 bt229.1)))))) = some r := H
   have A12 := Aside0.mk A120
   clear A120
   replace H := Option.bind_eq_some_iff.mp H
   obtain ⟨t222, A130, H⟩ := H
   replace H : ((laws_toIntS.f k l1).bind fun t226 => ((impl_LoseDisk.f k t222 t226).bind fun bt229 => ((laws_eqDisk.f k bt229.1 t217).bind fun t234 => (if t234 = true then (laws_FnExactLoseDisk.j0 k l1 t220 t226 bt229.2 (bt229.2 != t220) l0_0 t217 t222 bt229.1) else (laws_FnExactLoseDisk.j0 k l1 t220 t226 bt229.2 true l0_0 t217 t222 bt229.1))))) = some r := H
   have A13 := Aside0.mk A130
   clear A130
   replace H := Option.bind_eq_some_iff.mp H
   obtain ⟨t226, A140, H⟩ := H
   replace H : ((impl_LoseDisk.f k t222 t226).bind fun bt229 => ((laws_eqDisk.f k bt229.1 t217).bind fun t234 => (if t234 = true then (laws_FnExactLoseDisk.j0 k l1 t220 t226 bt229.2 (bt229.2 != t220) l0_0 t217 t222 bt229.1) else (laws_FnExactLoseDisk.j0 k l1 t220 t226 bt229.2 true l0_0 t217 t222 bt229.1)))) = some r := H
   have A14 := Aside0.mk A140
   clear A140
   replace H := Option.bind_eq_some_iff.mp H
   obtain ⟨⟨t229, t232⟩, A150, H⟩ := H
   replace H : ((laws_eqDisk.f k t229 t217).bind fun t234 => (if t234 = true then (laws_FnExactLoseDisk.j0 k l1 t220 t226 t232 (t232 != t220) l0_0 t217 t222 t229) else (laws_FnExactLoseDisk.j0 k l1 t220 t226 t232 true l0_0 t217 t222 t229))) = some r := H
   have A15 := Aside0.mk A150
   clear A150
   have HC16 := Aside0.mk H
   clear H
   go_enter Try.func7, Try.ntmps7
   go_upto_region 11 with (first | ((with_reducible refine gate_dst (N := 2) rfl ?_); refine box_event ?hg (N := 2) ?hd (cs := #[.slice A0_0 l0_0.length c0_0]) (t := 24) ?hr ?_; (case hd => rfl); (case hg => rfl); (case hr => first | (go_simp; done) | (go_simp; rfl)); intro gb209 hg w17 hbox hb; have n0_ := Aside0.mk (below_step (by repeat (first | (with_reducible first | exact HB.out | apply below_alloc | apply pw_below_drewN | apply below_drew1) | exact HB.out)) hb); have n1_ := Aside0.mk (hbox); have n2_ := Aside0.mk ((by rw [hg]; exact (below_size (by repeat (first | (with_reducible first | exact HB.out | apply below_alloc | apply pw_below_drewN | apply below_drew1) | exact HB.out))) : w.heap.size ≤ gb209)); have n3_ := Aside0.mk ((by rw [hg]; exact (below_size (by repeat (first | (with_reducible first | exact HB.out | apply below_alloc | apply pw_below_drewN | apply below_drew1) | exact HB.out))) : w.heap.size ≤ gb209)); clear HB; have HB := n0_; have BK209 := n1_; have GW209 := n2_; have GE209 := n3_; clear n0_ n1_ n2_ n3_; clear hb hbox hg; have hcz18_0 : w17.cell? ⟨gb209, 0, none⟩ = some (.slice A0_0 l0_0.length c0_0) := (blk_cell BK209.out 0).trans rfl; have hfz18_0 := blk_frozen BK209.out 0) | ((with_reducible refine gate_callee (f := 12) rfl ?_); refine goesL_ (some 22) rfl rfl Try.func12 (by kernel_rfl) rfl #[.agg #[.slice A0_0 l0_0.length c0_0], .int .i64 1048576] rfl (by (try simp only [List.map_toArray, List.map_cons, List.map_nil]); first | done | rfl | (simp only [List.length_drop, List.length_take]; rfl)) ?_; (with_reducible refine (laws_szDisk.calls k _ _ l0_0 1048576 t210 _ ?side1 ?side2 A5.out).mono ?_); (case side1 => repeat (first | exact (Kd.C_below HR0_0.out HB.out) | (with_reducible refine Kd.C_alloc ?_ _) | (with_reducible refine Kd.C_drewN ?_ _) | (with_reducible refine Kd.C_drew ?_))); (case side2 => exact HC0_0.out); rintro e w19 ⟨rfl, hb⟩; refine ⟨_, rfl, ?_⟩; have n0_ := Aside0.mk (blk_below (g := gb209) (o := .cells #[.slice A0_0 l0_0.length c0_0] 24 (0, 0)) (by (with_reducible repeat (first | refine blk_drewN ?_ _ | refine blk_drew ?_ | refine blk_alloc ?_ _)); exact BK209.out) hb); have n1_ := Aside0.mk (below_step (by repeat (first | (with_reducible first | exact HB.out | apply below_alloc | apply pw_below_drewN | apply below_drew1 | refine below_set ?_ GE209.out) | exact HB.out)) hb); clear BK209; clear HB; have BK209 := n0_; have HB := n1_; clear n0_ n1_; (try clear hb); (try clear hb2); (try clear hk); (try clear hi); have hcz20_0 : w19.cell? ⟨gb209, 0, none⟩ = some (.slice A0_0 l0_0.length c0_0) := (blk_cell BK209.out 0).trans rfl; have hfz20_0 := blk_frozen BK209.out 0) | ((with_reducible refine gate_callee (f := 14) rfl ?_); refine goesL_ (some 27) rfl rfl Try.func14 (by kernel_rfl) rfl #[.agg #[.slice A0_0 l0_0.length c0_0]] rfl (by (try simp only [List.map_toArray, List.map_cons, List.map_nil]); first | done | rfl | (simp only [List.length_drop, List.length_take]; rfl)) ?_; (with_reducible refine (laws_toDisk.calls k _ _ l0_0 t211 _ ?side1 ?side2 A10.out).mono ?_); (case side1 => repeat (first | exact (Kd.C_below HR0_0.out HB.out) | (with_reducible refine Kd.C_alloc ?_ _) | (with_reducible refine Kd.C_drewN ?_ _) | (with_reducible refine Kd.C_drew ?_))); (case side2 => exact HC0_0.out); rintro e w21 ⟨v212, rfl, ho0, hb⟩; refine ⟨_, rfl, ?_⟩; have n0_ := Aside0.mk (Kd.R_lower ho0 (below_size (by repeat (first | (with_reducible first | exact HB.out | apply below_alloc | apply pw_below_drewN | apply below_drew1 | refine below_set ?_ GE209.out) | exact HB.out)))); have n1_ := Aside0.mk (blk_below (g := gb209) (o := .cells #[.slice A0_0 l0_0.length c0_0] 24 (0, 0)) (by (with_reducible repeat (first | refine blk_drewN ?_ _ | refine blk_drew ?_ | refine blk_alloc ?_ _)); exact BK209.out) hb); have n2_ := Aside0.mk (below_step (by repeat (first | (with_reducible first | exact HB.out | apply below_alloc | apply pw_below_drewN | apply below_drew1 | refine below_set ?_ GE209.out) | exact HB.out)) hb); clear BK209; clear HB; have HO213 := n0_; have BK209 := n1_; have HB := n2_; clear n0_ n1_ n2_; (try clear hb); (try clear hb2); (try clear hk); (try clear hi); (try clear ho0)) | ((with_reducible refine gate_callee (f := 29) rfl ?_); refine goesL_ (some 29) rfl rfl Try.func29 (by kernel_rfl) rfl #[.slice A1 l1.length c1] rfl (by (try simp only [List.map_toArray, List.map_cons, List.map_nil]); first | done | rfl | (simp only [List.length_drop, List.length_take]; rfl)) ?_; (with_reducible refine (laws_toIntS.calls k _ _ l1 t214 _ ?side1 ?side2 A11.out).mono ?_); (case side1 => repeat (first | exact (Kd.C_below HR1.out HB.out) | (with_reducible refine Kd.C_alloc ?_ _) | (with_reducible refine Kd.C_drewN ?_ _) | (with_reducible refine Kd.C_drew ?_))); (case side2 => exact HC1.out); rintro e w22 ⟨v215, rfl, ho0, hb⟩; refine ⟨_, rfl, ?_⟩; have n0_ := Aside0.mk (Kd.R_below (by (with_reducible repeat (first | apply Kd.R_alloc | apply Kd.R_drewN | apply Kd.R_drew)); exact HO213.out) hb); have n1_ := Aside0.mk (Kd.R_lower ho0 (below_size (by repeat (first | (with_reducible first | exact HB.out | apply below_alloc | apply pw_below_drewN | apply below_drew1 | refine below_set ?_ GE209.out) | exact HB.out)))); have n2_ := Aside0.mk (blk_below (g := gb209) (o := .cells #[.slice A0_0 l0_0.length c0_0] 24 (0, 0)) (by (with_reducible repeat (first | refine blk_drewN ?_ _ | refine blk_drew ?_ | refine blk_alloc ?_ _)); exact BK209.out) hb); have n3_ := Aside0.mk (below_step (by repeat (first | (with_reducible first | exact HB.out | apply below_alloc | apply pw_below_drewN | apply below_drew1 | refine below_set ?_ GE209.out) | exact HB.out)) hb); clear HO213; clear BK209; clear HB; have HO213 := n0_; have HO216 := n1_; have BK209 := n2_; have HB := n3_; clear n0_ n1_ n2_ n3_; (try clear hb); (try clear hb2); (try clear hk); (try clear hi); (try clear ho0); obtain ⟨Ao23, co23, eo23⟩ := Kd.R_slice HO213.out; subst eo23; obtain ⟨Ao24, co24, eo24⟩ := Kd.R_slice HO216.out; subst eo24) | ((with_reducible refine gate_callee (f := 28) rfl ?_); refine goesL_ (some 30) rfl rfl Try.func28 (by kernel_rfl) rfl #[.agg #[.slice Ao23 t211.length co23], .slice Ao24 t214.length co24] rfl (by (try simp only [List.map_toArray, List.map_cons, List.map_nil]); first | done | rfl | (simp only [List.length_drop, List.length_take]; rfl)) ?_; (with_reducible refine (spec_LoseDisk.calls k _ _ t211 _ _ t214 t217 t220 _ ?side1 ?side2 ?side3 ?side4 A12.out).mono ?_); (case side1 => repeat (first | exact (Kd.R_reads' HO213.out).2.2 | (with_reducible refine Kd.C_alloc ?_ _) | (with_reducible refine Kd.C_drewN ?_ _) | (with_reducible refine Kd.C_drew ?_))); (case side2 => exact (Kd.R_reads' HO213.out).2.1); (case side3 => repeat (first | exact (Kd.R_reads' HO216.out).2.2 | (with_reducible refine Kd.C_alloc ?_ _) | (with_reducible refine Kd.C_drewN ?_ _) | (with_reducible refine Kd.C_drew ?_))); (case side4 => exact (Kd.R_reads' HO216.out).2.1); rintro e w25 ⟨v218, rfl, ho0, hb⟩; refine ⟨_, rfl, ?_⟩; have n0_ := Aside0.mk (Kd.R_elder' (by (with_reducible repeat (first | apply Kd.R_alloc | apply Kd.R_drewN | apply Kd.R_drew)); exact HO213.out) (Kd.R_base ho0) hb); have n1_ := Aside0.mk (Kd.R_below (by (with_reducible repeat (first | apply Kd.R_alloc | apply Kd.R_drewN | apply Kd.R_drew)); exact HO216.out) hb); have n2_ := Aside0.mk (Kd.R_lower (Kd.R_new' ho0 (Kd.R_lt (by (with_reducible repeat (first | apply Kd.R_alloc | apply Kd.R_drewN | apply Kd.R_drew)); exact HO213.out))) (below_size (by repeat (first | (with_reducible first | exact HB.out | apply below_alloc | apply pw_below_drewN | apply below_drew1 | refine below_set ?_ GE209.out) | exact HB.out)))); have n3_ := Aside0.mk (blk_below (g := gb209) (o := .cells #[.slice A0_0 l0_0.length c0_0] 24 (0, 0)) (by (with_reducible repeat (first | refine blk_drewN ?_ _ | refine blk_drew ?_ | refine blk_alloc ?_ _)); exact BK209.out) hb); have n4_ := Aside0.mk (below_step (by repeat (first | (with_reducible first | exact HB.out | apply below_alloc | apply pw_below_drewN | apply below_drew1 | refine below_set ?_ GE209.out) | exact HB.out)) hb); clear HO213; clear HO216; clear BK209; clear HB; have HO213 := n0_; have HO216 := n1_; have HO219 := n2_; have BK209 := n3_; have HB := n4_; clear n0_ n1_ n2_ n3_ n4_; (try clear hb); (try clear hb2); (try clear hk); (try clear hi); (try clear ho0)) | ((with_reducible refine gate_dst (N := 6) rfl ?_); refine box_event ?hg (N := 6) ?hd (cs := #[.slice none 0 0]) (t := 29) ?hr ?_; (case hd => rfl); (case hg => rfl); (case hr => first | (go_simp; done) | (go_simp; rfl)); intro gb221 hg w26 hbox hb; have n0_ := Aside0.mk (Kd.R_below (by (with_reducible repeat (first | apply Kd.R_alloc | apply Kd.R_drewN | apply Kd.R_drew)); exact HO213.out) hb); have n1_ := Aside0.mk (Kd.R_below (by (with_reducible repeat (first | apply Kd.R_alloc | apply Kd.R_drewN | apply Kd.R_drew)); exact HO216.out) hb); have n2_ := Aside0.mk (Kd.R_below (by (with_reducible repeat (first | apply Kd.R_alloc | apply Kd.R_drewN | apply Kd.R_drew)); exact HO219.out) hb); have n3_ := Aside0.mk (blk_below (g := gb209) (o := .cells #[.slice A0_0 l0_0.length c0_0] 24 (0, 0)) (by (with_reducible repeat (first | refine blk_drewN ?_ _ | refine blk_drew ?_ | refine blk_alloc ?_ _)); exact BK209.out) hb); have n4_ := Aside0.mk (below_step (by repeat (first | (with_reducible first | exact HB.out | apply below_alloc | apply pw_below_drewN | apply below_drew1 | refine below_set ?_ GE209.out) | exact HB.out)) hb); have n5_ := Aside0.mk (hbox); have n6_ := Aside0.mk ((by rw [hg]; exact (below_size (by repeat (first | (with_reducible first | exact HB.out | apply below_alloc | apply pw_below_drewN | apply below_drew1 | refine below_set ?_ GE209.out) | exact HB.out))) : w.heap.size ≤ gb221)); have n7_ := Aside0.mk ((by rw [hg]; exact (below_size (by repeat (first | (with_reducible first | exact HB.out | apply below_alloc | apply pw_below_drewN | apply below_drew1 | refine below_set ?_ GE209.out) | exact HB.out))) : w.heap.size ≤ gb221)); have n8_ := Aside0.mk ((by rw [hg]; exact Nat.ne_of_lt (blk_lt (g := gb209) (o := .cells #[.slice A0_0 l0_0.length c0_0] 24 (0, 0)) (by (with_reducible repeat (first | refine blk_drewN ?_ _ | refine blk_drew ?_ | refine blk_alloc ?_ _)); exact BK209.out)) : gb209 ≠ gb221)); have n9_ := Aside0.mk ((by rw [hg]; exact Nat.ne_of_gt (blk_lt (g := gb209) (o := .cells #[.slice A0_0 l0_0.length c0_0] 24 (0, 0)) (by (with_reducible repeat (first | refine blk_drewN ?_ _ | refine blk_drew ?_ | refine blk_alloc ?_ _)); exact BK209.out)) : gb221 ≠ gb209)); clear HO213; clear HO216; clear HO219; clear BK209; clear HB; have HO213 := n0_; have HO216 := n1_; have HO219 := n2_; have BK209 := n3_; have HB := n4_; have BK221 := n5_; have GW221 := n6_; have GE221 := n7_; have NB209_221 := n8_; have NB221_209 := n9_; clear n0_ n1_ n2_ n3_ n4_ n5_ n6_ n7_ n8_ n9_; clear hb hbox hg; obtain ⟨Ao27, co27, eo27⟩ := Kd.R_slice HO219.out; subst eo27; have hnb28 := NB221_209.out; have hnc28 := NB209_221.out; have hcz29_0 : w26.cell? ⟨gb221, 0, none⟩ = some (.slice none 0 0) := (blk_cell BK221.out 0).trans rfl; have hfz29_0 := blk_frozen BK221.out 0; have hcz30_0 : w26.cell? ⟨gb209, 0, none⟩ = some (.slice A0_0 l0_0.length c0_0) := (blk_cell BK209.out 0).trans rfl; have hfz30_0 := blk_frozen BK209.out 0) | ((with_reducible refine gate_callee (f := 14) rfl ?_); refine goesL_ (some 34) rfl rfl Try.func14 (by kernel_rfl) rfl #[.agg #[.slice A0_0 l0_0.length c0_0]] rfl (by (try simp only [List.map_toArray, List.map_cons, List.map_nil]); first | done | rfl | (simp only [List.length_drop, List.length_take]; rfl)) ?_; (with_reducible refine (laws_toDisk.calls k _ _ l0_0 t222 _ ?side1 ?side2 A13.out).mono ?_); (case side1 => exact Kd.C_below HR0_0.out (by repeat (first | (with_reducible first | exact HB.out | apply below_alloc | apply pw_below_drewN | apply below_drew1 | refine below_set ?_ GE209.out | refine below_set ?_ GE221.out) | exact HB.out))); (case side2 => exact HC0_0.out); rintro e w31 ⟨v223, rfl, ho0, hb⟩; refine ⟨_, rfl, ?_⟩; have n0_ := Aside0.mk (Kd.R_elder' (by (with_reducible repeat (first | apply Kd.R_alloc | apply Kd.R_drewN | apply Kd.R_drew)); exact (Kd.R_mono (Kd.R_far (p := ⟨gb221, 0, none⟩) (Kd.R_types HO213.out BK221.out (by decide)) (fun _ hk => hk.2) (.slice Ao27 t217.length co27)) (fun _ h_ => h_.1))) (Kd.R_base ho0) hb); have n1_ := Aside0.mk (Kd.R_below (by (with_reducible repeat (first | apply Kd.R_alloc | apply Kd.R_drewN | apply Kd.R_drew)); exact (Kd.R_mono (Kd.R_far (p := ⟨gb221, 0, none⟩) (Kd.R_types HO216.out BK221.out (by decide)) (fun _ hk => hk.2) (.slice Ao27 t217.length co27)) (fun _ h_ => h_.1))) hb); have n2_ := Aside0.mk (Kd.R_elder' (by (with_reducible repeat (first | apply Kd.R_alloc | apply Kd.R_drewN | apply Kd.R_drew)); exact (Kd.R_mono (Kd.R_far (p := ⟨gb221, 0, none⟩) (Kd.R_types HO219.out BK221.out (by decide)) (fun _ hk => hk.2) (.slice Ao27 t217.length co27)) (fun _ h_ => h_.1))) (Kd.R_base ho0) hb); have n3_ := Aside0.mk (Kd.R_lower (Kd.R_new' (Kd.R_new' ho0 (Kd.R_lt (by (with_reducible repeat (first | apply Kd.R_alloc | apply Kd.R_drewN | apply Kd.R_drew)); exact (Kd.R_mono (Kd.R_far (p := ⟨gb221, 0, none⟩) (Kd.R_types HO213.out BK221.out (by decide)) (fun _ hk => hk.2) (.slice Ao27 t217.length co27)) (fun _ h_ => h_.1))))) (Kd.R_lt (by (with_reducible repeat (first | apply Kd.R_alloc | apply Kd.R_drewN | apply Kd.R_drew)); exact (Kd.R_mono (Kd.R_far (p := ⟨gb221, 0, none⟩) (Kd.R_types HO219.out BK221.out (by decide)) (fun _ hk => hk.2) (.slice Ao27 t217.length co27)) (fun _ h_ => h_.1))))) (below_size (by repeat (first | (with_reducible first | exact HB.out | apply below_alloc | apply pw_below_drewN | apply below_drew1 | refine below_set ?_ GE209.out | refine below_set ?_ GE221.out) | exact HB.out)))); have n4_ := Aside0.mk (blk_below (g := gb209) (o := .cells #[.slice A0_0 l0_0.length c0_0] 24 (0, 0)) (by (with_reducible repeat (first | refine blk_drewN ?_ _ | refine blk_drew ?_ | refine blk_alloc ?_ _)); refine blk_far ?_ NB209_221.out _; (with_reducible repeat (first | refine blk_drewN ?_ _ | refine blk_drew ?_ | refine blk_alloc ?_ _)); exact BK209.out) hb); have n5_ := Aside0.mk (blk_below (g := gb221) (o := .cells #[.slice Ao27 t217.length co27] 29 (0, 0)) (by (with_reducible repeat (first | refine blk_drewN ?_ _ | refine blk_drew ?_ | refine blk_alloc ?_ _)); refine blk_put (cs := #[.slice none 0 0]) ?_ 0 _ rfl; (with_reducible repeat (first | refine blk_drewN ?_ _ | refine blk_drew ?_ | refine blk_alloc ?_ _)); exact BK221.out) hb); have n6_ := Aside0.mk (below_step (by repeat (first | (with_reducible first | exact HB.out | apply below_alloc | apply pw_below_drewN | apply below_drew1 | refine below_set ?_ GE209.out | refine below_set ?_ GE221.out) | exact HB.out)) hb); clear HO213; clear HO216; clear HO219; clear BK209; clear BK221; clear HB; have HO213 := n0_; have HO216 := n1_; have HO219 := n2_; have HO224 := n3_; have BK209 := n4_; have BK221 := n5_; have HB := n6_; clear n0_ n1_ n2_ n3_ n4_ n5_ n6_; (try clear hb); (try clear hb2); (try clear hk); (try clear hi); (try clear ho0)) | ((with_reducible refine gate_dst (N := 8) rfl ?_); refine box_event ?hg (N := 8) ?hd (cs := #[.slice none 0 0]) (t := 29) ?hr ?_; (case hd => rfl); (case hg => rfl); (case hr => first | (go_simp; done) | (go_simp; rfl)); intro gb225 hg w32 hbox hb; have n0_ := Aside0.mk (Kd.R_below (by (with_reducible repeat (first | apply Kd.R_alloc | apply Kd.R_drewN | apply Kd.R_drew)); exact HO213.out) hb); have n1_ := Aside0.mk (Kd.R_below (by (with_reducible repeat (first | apply Kd.R_alloc | apply Kd.R_drewN | apply Kd.R_drew)); exact HO216.out) hb); have n2_ := Aside0.mk (Kd.R_below (by (with_reducible repeat (first | apply Kd.R_alloc | apply Kd.R_drewN | apply Kd.R_drew)); exact HO219.out) hb); have n3_ := Aside0.mk (Kd.R_below (by (with_reducible repeat (first | apply Kd.R_alloc | apply Kd.R_drewN | apply Kd.R_drew)); exact HO224.out) hb); have n4_ := Aside0.mk (blk_below (g := gb209) (o := .cells #[.slice A0_0 l0_0.length c0_0] 24 (0, 0)) (by (with_reducible repeat (first | refine blk_drewN ?_ _ | refine blk_drew ?_ | refine blk_alloc ?_ _)); exact BK209.out) hb); have n5_ := Aside0.mk (blk_below (g := gb221) (o := .cells #[.slice Ao27 t217.length co27] 29 (0, 0)) (by (with_reducible repeat (first | refine blk_drewN ?_ _ | refine blk_drew ?_ | refine blk_alloc ?_ _)); exact BK221.out) hb); have n6_ := Aside0.mk (below_step (by repeat (first | (with_reducible first | exact HB.out | apply below_alloc | apply pw_below_drewN | apply below_drew1 | refine below_set ?_ GE209.out | refine below_set ?_ GE221.out) | exact HB.out)) hb); have n7_ := Aside0.mk (hbox); have n8_ := Aside0.mk ((by rw [hg]; exact (below_size (by repeat (first | (with_reducible first | exact HB.out | apply below_alloc | apply pw_below_drewN | apply below_drew1 | refine below_set ?_ GE209.out | refine below_set ?_ GE221.out) | exact HB.out))) : w.heap.size ≤ gb225)); have n9_ := Aside0.mk ((by rw [hg]; exact (below_size (by repeat (first | (with_reducible first | exact HB.out | apply below_alloc | apply pw_below_drewN | apply below_drew1 | refine below_set ?_ GE209.out | refine below_set ?_ GE221.out) | exact HB.out))) : w.heap.size ≤ gb225)); have n10_ := Aside0.mk ((by rw [hg]; exact Nat.ne_of_lt (blk_lt (g := gb209) (o := .cells #[.slice A0_0 l0_0.length c0_0] 24 (0, 0)) (by (with_reducible repeat (first | refine blk_drewN ?_ _ | refine blk_drew ?_ | refine blk_alloc ?_ _)); exact BK209.out)) : gb209 ≠ gb225)); have n11_ := Aside0.mk ((by rw [hg]; exact Nat.ne_of_gt (blk_lt (g := gb209) (o := .cells #[.slice A0_0 l0_0.length c0_0] 24 (0, 0)) (by (with_reducible repeat (first | refine blk_drewN ?_ _ | refine blk_drew ?_ | refine blk_alloc ?_ _)); exact BK209.out)) : gb225 ≠ gb209)); have n12_ := Aside0.mk ((by rw [hg]; exact Nat.ne_of_lt (blk_lt (g := gb221) (o := .cells #[.slice Ao27 t217.length co27] 29 (0, 0)) (by (with_reducible repeat (first | refine blk_drewN ?_ _ | refine blk_drew ?_ | refine blk_alloc ?_ _)); exact BK221.out)) : gb221 ≠ gb225)); have n13_ := Aside0.mk ((by rw [hg]; exact Nat.ne_of_gt (blk_lt (g := gb221) (o := .cells #[.slice Ao27 t217.length co27] 29 (0, 0)) (by (with_reducible repeat (first | refine blk_drewN ?_ _ | refine blk_drew ?_ | refine blk_alloc ?_ _)); exact BK221.out)) : gb225 ≠ gb221)); clear HO213; clear HO216; clear HO219; clear HO224; clear BK209; clear BK221; clear HB; have HO213 := n0_; have HO216 := n1_; have HO219 := n2_; have HO224 := n3_; have BK209 := n4_; have BK221 := n5_; have HB := n6_; have BK225 := n7_; have GW225 := n8_; have GE225 := n9_; have NB209_225 := n10_; have NB225_209 := n11_; have NB221_225 := n12_; have NB225_221 := n13_; clear n0_ n1_ n2_ n3_ n4_ n5_ n6_ n7_ n8_ n9_ n10_ n11_ n12_ n13_; clear hb hbox hg; obtain ⟨Ao33, co33, eo33⟩ := Kd.R_slice HO224.out; subst eo33; have hnb34 := NB225_209.out; have hnc34 := NB209_225.out; have hnb35 := NB225_221.out; have hnc35 := NB221_225.out; have hcz36_0 : w32.cell? ⟨gb225, 0, none⟩ = some (.slice none 0 0) := (blk_cell BK225.out 0).trans rfl; have hfz36_0 := blk_frozen BK225.out 0) | ((with_reducible refine gate_callee (f := 29) rfl ?_); refine goesL_ (some 36) rfl rfl Try.func29 (by kernel_rfl) rfl #[.slice A1 l1.length c1] rfl (by (try simp only [List.map_toArray, List.map_cons, List.map_nil]); first | done | rfl | (simp only [List.length_drop, List.length_take]; rfl)) ?_; (with_reducible refine (laws_toIntS.calls k _ _ l1 t226 _ ?side1 ?side2 A14.out).mono ?_); (case side1 => exact Kd.C_below HR1.out (by repeat (first | (with_reducible first | exact HB.out | apply below_alloc | apply pw_below_drewN | apply below_drew1 | refine below_set ?_ GE209.out | refine below_set ?_ GE221.out | refine below_set ?_ GE225.out) | exact HB.out))); (case side2 => exact HC1.out); rintro e w37 ⟨v227, rfl, ho0, hb⟩; refine ⟨_, rfl, ?_⟩; have n0_ := Aside0.mk (Kd.R_below (by (with_reducible repeat (first | apply Kd.R_alloc | apply Kd.R_drewN | apply Kd.R_drew)); exact (Kd.R_mono (Kd.R_far (p := ⟨gb225, 0, none⟩) (Kd.R_types HO213.out BK225.out (by decide)) (fun _ hk => hk.2) (.slice Ao33 t222.length co33)) (fun _ h_ => h_.1))) hb); have n1_ := Aside0.mk (Kd.R_elder' (by (with_reducible repeat (first | apply Kd.R_alloc | apply Kd.R_drewN | apply Kd.R_drew)); exact (Kd.R_mono (Kd.R_far (p := ⟨gb225, 0, none⟩) (Kd.R_types HO216.out BK225.out (by decide)) (fun _ hk => hk.2) (.slice Ao33 t222.length co33)) (fun _ h_ => h_.1))) (Kd.R_base ho0) hb); have n2_ := Aside0.mk (Kd.R_below (by (with_reducible repeat (first | apply Kd.R_alloc | apply Kd.R_drewN | apply Kd.R_drew)); exact (Kd.R_mono (Kd.R_far (p := ⟨gb225, 0, none⟩) (Kd.R_types HO219.out BK225.out (by decide)) (fun _ hk => hk.2) (.slice Ao33 t222.length co33)) (fun _ h_ => h_.1))) hb); have n3_ := Aside0.mk (Kd.R_below (by (with_reducible repeat (first | apply Kd.R_alloc | apply Kd.R_drewN | apply Kd.R_drew)); exact (Kd.R_mono (Kd.R_far (p := ⟨gb225, 0, none⟩) (Kd.R_types HO224.out BK225.out (by decide)) (fun _ hk => hk.2) (.slice Ao33 t222.length co33)) (fun _ h_ => h_.1))) hb); have n4_ := Aside0.mk (Kd.R_lower (Kd.R_new' ho0 (Kd.R_lt (by (with_reducible repeat (first | apply Kd.R_alloc | apply Kd.R_drewN | apply Kd.R_drew)); exact (Kd.R_mono (Kd.R_far (p := ⟨gb225, 0, none⟩) (Kd.R_types HO216.out BK225.out (by decide)) (fun _ hk => hk.2) (.slice Ao33 t222.length co33)) (fun _ h_ => h_.1))))) (below_size (by repeat (first | (with_reducible first | exact HB.out | apply below_alloc | apply pw_below_drewN | apply below_drew1 | refine below_set ?_ GE209.out | refine below_set ?_ GE221.out | refine below_set ?_ GE225.out) | exact HB.out)))); have n5_ := Aside0.mk (blk_below (g := gb209) (o := .cells #[.slice A0_0 l0_0.length c0_0] 24 (0, 0)) (by (with_reducible repeat (first | refine blk_drewN ?_ _ | refine blk_drew ?_ | refine blk_alloc ?_ _)); refine blk_far ?_ NB209_225.out _; (with_reducible repeat (first | refine blk_drewN ?_ _ | refine blk_drew ?_ | refine blk_alloc ?_ _)); exact BK209.out) hb); have n6_ := Aside0.mk (blk_below (g := gb221) (o := .cells #[.slice Ao27 t217.length co27] 29 (0, 0)) (by (with_reducible repeat (first | refine blk_drewN ?_ _ | refine blk_drew ?_ | refine blk_alloc ?_ _)); refine blk_far ?_ NB221_225.out _; (with_reducible repeat (first | refine blk_drewN ?_ _ | refine blk_drew ?_ | refine blk_alloc ?_ _)); exact BK221.out) hb); have n7_ := Aside0.mk (blk_below (g := gb225) (o := .cells #[.slice Ao33 t222.length co33] 29 (0, 0)) (by (with_reducible repeat (first | refine blk_drewN ?_ _ | refine blk_drew ?_ | refine blk_alloc ?_ _)); refine blk_put (cs := #[.slice none 0 0]) ?_ 0 _ rfl; (with_reducible repeat (first | refine blk_drewN ?_ _ | refine blk_drew ?_ | refine blk_alloc ?_ _)); exact BK225.out) hb); have n8_ := Aside0.mk (below_step (by repeat (first | (with_reducible first | exact HB.out | apply below_alloc | apply pw_below_drewN | apply below_drew1 | refine below_set ?_ GE209.out | refine below_set ?_ GE221.out | refine below_set ?_ GE225.out) | exact HB.out)) hb); clear HO213; clear HO216; clear HO219; clear HO224; clear BK209; clear BK221; clear BK225; clear HB; have HO213 := n0_; have HO216 := n1_; have HO219 := n2_; have HO224 := n3_; have HO228 := n4_; have BK209 := n5_; have BK221 := n6_; have BK225 := n7_; have HB := n8_; clear n0_ n1_ n2_ n3_ n4_ n5_ n6_ n7_ n8_; (try clear hb); (try clear hb2); (try clear hk); (try clear hi); (try clear ho0); have hcz38_0 : w37.cell? ⟨gb225, 0, none⟩ = some (.slice Ao33 t222.length co33) := (blk_cell BK225.out 0).trans rfl; have hfz38_0 := blk_frozen BK225.out 0; obtain ⟨Ao39, co39, eo39⟩ := Kd.R_slice HO228.out; subst eo39) | ((with_reducible refine gate_callee (f := 25) rfl ?_); refine goesL_ (some 40) rfl rfl Try.func25 (by kernel_rfl) rfl #[.agg #[.slice Ao33 t222.length co33], .slice Ao39 t226.length co39] rfl (by (try simp only [List.map_toArray, List.map_cons, List.map_nil]); first | done | rfl | (simp only [List.length_drop, List.length_take]; rfl)) ?_; (with_reducible refine (impl_LoseDisk.calls k _ _ t222 _ _ t226 t229 t232 _ ?side1 ?side2 ?side3 ?side4 A15.out).mono ?_); (case side1 => repeat (first | exact (Kd.R_reads' HO224.out).2.2 | (with_reducible refine Kd.C_alloc ?_ _) | (with_reducible refine Kd.C_drewN ?_ _) | (with_reducible refine Kd.C_drew ?_))); (case side2 => exact (Kd.R_reads' HO224.out).2.1); (case side3 => repeat (first | exact (Kd.R_reads' HO228.out).2.2 | (with_reducible refine Kd.C_alloc ?_ _) | (with_reducible refine Kd.C_drewN ?_ _) | (with_reducible refine Kd.C_drew ?_))); (case side4 => exact (Kd.R_reads' HO228.out).2.1); rintro e w40 ⟨v230, rfl, ho0, hb⟩; refine ⟨_, rfl, ?_⟩; have n0_ := Aside0.mk (Kd.R_elder' (by (with_reducible repeat (first | apply Kd.R_alloc | apply Kd.R_drewN | apply Kd.R_drew)); exact HO213.out) (Kd.R_base ho0) hb); have n1_ := Aside0.mk (Kd.R_below (by (with_reducible repeat (first | apply Kd.R_alloc | apply Kd.R_drewN | apply Kd.R_drew)); exact HO216.out) hb); have n2_ := Aside0.mk (Kd.R_elder' (by (with_reducible repeat (first | apply Kd.R_alloc | apply Kd.R_drewN | apply Kd.R_drew)); exact HO219.out) (Kd.R_base ho0) hb); have n3_ := Aside0.mk (Kd.R_elder' (by (with_reducible repeat (first | apply Kd.R_alloc | apply Kd.R_drewN | apply Kd.R_drew)); exact HO224.out) (Kd.R_base ho0) hb); have n4_ := Aside0.mk (Kd.R_below (by (with_reducible repeat (first | apply Kd.R_alloc | apply Kd.R_drewN | apply Kd.R_drew)); exact HO228.out) hb); have n5_ := Aside0.mk (Kd.R_lower (Kd.R_new' (Kd.R_new' (Kd.R_new' ho0 (Kd.R_lt (by (with_reducible repeat (first | apply Kd.R_alloc | apply Kd.R_drewN | apply Kd.R_drew)); exact HO213.out))) (Kd.R_lt (by (with_reducible repeat (first | apply Kd.R_alloc | apply Kd.R_drewN | apply Kd.R_drew)); exact HO219.out))) (Kd.R_lt (by (with_reducible repeat (first | apply Kd.R_alloc | apply Kd.R_drewN | apply Kd.R_drew)); exact HO224.out))) (below_size (by repeat (first | (with_reducible first | exact HB.out | apply below_alloc | apply pw_below_drewN | apply below_drew1 | refine below_set ?_ GE209.out | refine below_set ?_ GE221.out | refine below_set ?_ GE225.out) | exact HB.out)))); have n6_ := Aside0.mk (blk_below (g := gb209) (o := .cells #[.slice A0_0 l0_0.length c0_0] 24 (0, 0)) (by (with_reducible repeat (first | refine blk_drewN ?_ _ | refine blk_drew ?_ | refine blk_alloc ?_ _)); exact BK209.out) hb); have n7_ := Aside0.mk (blk_below (g := gb221) (o := .cells #[.slice Ao27 t217.length co27] 29 (0, 0)) (by (with_reducible repeat (first | refine blk_drewN ?_ _ | refine blk_drew ?_ | refine blk_alloc ?_ _)); exact BK221.out) hb); have n8_ := Aside0.mk (blk_below (g := gb225) (o := .cells #[.slice Ao33 t222.length co33] 29 (0, 0)) (by (with_reducible repeat (first | refine blk_drewN ?_ _ | refine blk_drew ?_ | refine blk_alloc ?_ _)); exact BK225.out) hb); have n9_ := Aside0.mk (below_step (by repeat (first | (with_reducible first | exact HB.out | apply below_alloc | apply pw_below_drewN | apply below_drew1 | refine below_set ?_ GE209.out | refine below_set ?_ GE221.out | refine below_set ?_ GE225.out) | exact HB.out)) hb); clear HO213; clear HO216; clear HO219; clear HO224; clear HO228; clear BK209; clear BK221; clear BK225; clear HB; have HO213 := n0_; have HO216 := n1_; have HO219 := n2_; have HO224 := n3_; have HO228 := n4_; have HO231 := n5_; have BK209 := n6_; have BK221 := n7_; have BK225 := n8_; have HB := n9_; clear n0_ n1_ n2_ n3_ n4_ n5_ n6_ n7_ n8_ n9_; (try clear hb); (try clear hb2); (try clear hk); (try clear hi); (try clear ho0)) | ((with_reducible refine gate_dst (N := 10) rfl ?_); refine box_event ?hg (N := 10) ?hd (cs := #[.slice none 0 0]) (t := 29) ?hr ?_; (case hd => rfl); (case hg => rfl); (case hr => first | (go_simp; done) | (go_simp; rfl)); intro gb233 hg w41 hbox hb; have n0_ := Aside0.mk (Kd.R_below (by (with_reducible repeat (first | apply Kd.R_alloc | apply Kd.R_drewN | apply Kd.R_drew)); exact HO213.out) hb); have n1_ := Aside0.mk (Kd.R_below (by (with_reducible repeat (first | apply Kd.R_alloc | apply Kd.R_drewN | apply Kd.R_drew)); exact HO216.out) hb); have n2_ := Aside0.mk (Kd.R_below (by (with_reducible repeat (first | apply Kd.R_alloc | apply Kd.R_drewN | apply Kd.R_drew)); exact HO219.out) hb); have n3_ := Aside0.mk (Kd.R_below (by (with_reducible repeat (first | apply Kd.R_alloc | apply Kd.R_drewN | apply Kd.R_drew)); exact HO224.out) hb); have n4_ := Aside0.mk (Kd.R_below (by (with_reducible repeat (first | apply Kd.R_alloc | apply Kd.R_drewN | apply Kd.R_drew)); exact HO228.out) hb); have n5_ := Aside0.mk (Kd.R_below (by (with_reducible repeat (first | apply Kd.R_alloc | apply Kd.R_drewN | apply Kd.R_drew)); exact HO231.out) hb); have n6_ := Aside0.mk (blk_below (g := gb209) (o := .cells #[.slice A0_0 l0_0.length c0_0] 24 (0, 0)) (by (with_reducible repeat (first | refine blk_drewN ?_ _ | refine blk_drew ?_ | refine blk_alloc ?_ _)); exact BK209.out) hb); have n7_ := Aside0.mk (blk_below (g := gb221) (o := .cells #[.slice Ao27 t217.length co27] 29 (0, 0)) (by (with_reducible repeat (first | refine blk_drewN ?_ _ | refine blk_drew ?_ | refine blk_alloc ?_ _)); exact BK221.out) hb); have n8_ := Aside0.mk (blk_below (g := gb225) (o := .cells #[.slice Ao33 t222.length co33] 29 (0, 0)) (by (with_reducible repeat (first | refine blk_drewN ?_ _ | refine blk_drew ?_ | refine blk_alloc ?_ _)); exact BK225.out) hb); have n9_ := Aside0.mk (below_step (by repeat (first | (with_reducible first | exact HB.out | apply below_alloc | apply pw_below_drewN | apply below_drew1 | refine below_set ?_ GE209.out | refine below_set ?_ GE221.out | refine below_set ?_ GE225.out) | exact HB.out)) hb); have n10_ := Aside0.mk (hbox); have n11_ := Aside0.mk ((by rw [hg]; exact (below_size (by repeat (first | (with_reducible first | exact HB.out | apply below_alloc | apply pw_below_drewN | apply below_drew1 | refine below_set ?_ GE209.out | refine below_set ?_ GE221.out | refine below_set ?_ GE225.out) | exact HB.out))) : w.heap.size ≤ gb233)); have n12_ := Aside0.mk ((by rw [hg]; exact (below_size (by repeat (first | (with_reducible first | exact HB.out | apply below_alloc | apply pw_below_drewN | apply below_drew1 | refine below_set ?_ GE209.out | refine below_set ?_ GE221.out | refine below_set ?_ GE225.out) | exact HB.out))) : w.heap.size ≤ gb233)); have n13_ := Aside0.mk ((by rw [hg]; exact Nat.ne_of_lt (blk_lt (g := gb209) (o := .cells #[.slice A0_0 l0_0.length c0_0] 24 (0, 0)) (by (with_reducible repeat (first | refine blk_drewN ?_ _ | refine blk_drew ?_ | refine blk_alloc ?_ _)); exact BK209.out)) : gb209 ≠ gb233)); have n14_ := Aside0.mk ((by rw [hg]; exact Nat.ne_of_gt (blk_lt (g := gb209) (o := .cells #[.slice A0_0 l0_0.length c0_0] 24 (0, 0)) (by (with_reducible repeat (first | refine blk_drewN ?_ _ | refine blk_drew ?_ | refine blk_alloc ?_ _)); exact BK209.out)) : gb233 ≠ gb209)); have n15_ := Aside0.mk ((by rw [hg]; exact Nat.ne_of_lt (blk_lt (g := gb221) (o := .cells #[.slice Ao27 t217.length co27] 29 (0, 0)) (by (with_reducible repeat (first | refine blk_drewN ?_ _ | refine blk_drew ?_ | refine blk_alloc ?_ _)); exact BK221.out)) : gb221 ≠ gb233)); have n16_ := Aside0.mk ((by rw [hg]; exact Nat.ne_of_gt (blk_lt (g := gb221) (o := .cells #[.slice Ao27 t217.length co27] 29 (0, 0)) (by (with_reducible repeat (first | refine blk_drewN ?_ _ | refine blk_drew ?_ | refine blk_alloc ?_ _)); exact BK221.out)) : gb233 ≠ gb221)); have n17_ := Aside0.mk ((by rw [hg]; exact Nat.ne_of_lt (blk_lt (g := gb225) (o := .cells #[.slice Ao33 t222.length co33] 29 (0, 0)) (by (with_reducible repeat (first | refine blk_drewN ?_ _ | refine blk_drew ?_ | refine blk_alloc ?_ _)); exact BK225.out)) : gb225 ≠ gb233)); have n18_ := Aside0.mk ((by rw [hg]; exact Nat.ne_of_gt (blk_lt (g := gb225) (o := .cells #[.slice Ao33 t222.length co33] 29 (0, 0)) (by (with_reducible repeat (first | refine blk_drewN ?_ _ | refine blk_drew ?_ | refine blk_alloc ?_ _)); exact BK225.out)) : gb233 ≠ gb225)); clear HO213; clear HO216; clear HO219; clear HO224; clear HO228; clear HO231; clear BK209; clear BK221; clear BK225; clear HB; have HO213 := n0_; have HO216 := n1_; have HO219 := n2_; have HO224 := n3_; have HO228 := n4_; have HO231 := n5_; have BK209 := n6_; have BK221 := n7_; have BK225 := n8_; have HB := n9_; have BK233 := n10_; have GW233 := n11_; have GE233 := n12_; have NB209_233 := n13_; have NB233_209 := n14_; have NB221_233 := n15_; have NB233_221 := n16_; have NB225_233 := n17_; have NB233_225 := n18_; clear n0_ n1_ n2_ n3_ n4_ n5_ n6_ n7_ n8_ n9_ n10_ n11_ n12_ n13_ n14_ n15_ n16_ n17_ n18_; clear hb hbox hg; obtain ⟨Ao42, co42, eo42⟩ := Kd.R_slice HO231.out; subst eo42; have hnb43 := NB233_209.out; have hnc43 := NB209_233.out; have hnb44 := NB233_221.out; have hnc44 := NB221_233.out; have hnb45 := NB233_225.out; have hnc45 := NB225_233.out; have hcz46_0 : w41.cell? ⟨gb233, 0, none⟩ = some (.slice none 0 0) := (blk_cell BK233.out 0).trans rfl; have hfz46_0 := blk_frozen BK233.out 0))
   (try simp only [Act.put, List.setIfInBounds_toArray, List.set_cons_zero, List.set_cons_succ])
   go_cut [51] (fun v51 wc => ∃ (kq : Nat) (x51_15 : Bool), v51 = .bool x51_15 ∧ Aside0 (laws_FnExactLoseDisk.j0 kq l1 t220 t226 t232 x51_15 l0_0 t217 t222 t229 = some r) ∧ Aside0 (kq ≤ k) ∧ Aside0 (Kd.R (Kd.int .i64) 3 wc w.heap.size (fun _ => True) (.slice Ao39 t226.length co39) t226) ∧ Aside0 (Kd.R k45 45 wc w.heap.size (fun k_ => some k_ ≠ ((.slice Ao33 t222.length co33) : Value).ownBlock ∧ some k_ ≠ ((.slice Ao42 t229.length co42) : Value).ownBlock) (.slice Ao27 t217.length co27) t217) ∧ Aside0 (Kd.R k45 45 wc w.heap.size (fun k_ => some k_ ≠ ((.slice Ao27 t217.length co27) : Value).ownBlock ∧ some k_ ≠ ((.slice Ao42 t229.length co42) : Value).ownBlock) (.slice Ao33 t222.length co33) t222) ∧ Aside0 (Kd.R k45 45 wc w.heap.size (fun k_ => some k_ ≠ ((.slice Ao27 t217.length co27) : Value).ownBlock ∧ some k_ ≠ ((.slice Ao33 t222.length co33) : Value).ownBlock) (.slice Ao42 t229.length co42) t229) ∧ Aside0 (wc.heap[gb209]? = some (.cells #[(.slice A0_0 l0_0.length c0_0)] 24 (0, 0))) ∧ Aside0 (wc.heap[gb221]? = some (.cells #[(.slice Ao27 t217.length co27)] 29 (0, 0))) ∧ Aside0 (wc.heap[gb225]? = some (.cells #[(.slice Ao33 t222.length co33)] 29 (0, 0))) ∧ Aside0 (wc.heap[gb233]? = some (.cells #[(.slice Ao42 t229.length co42)] 29 (0, 0))) ∧ Aside0 (Below w.heap.size w wc))
   case first =>
    have H := HC16.out
    clear HC16
    replace H := Option.bind_eq_some_iff.mp H
    obtain ⟨t234, A470, H⟩ := H
    replace H : (if t234 = true then (laws_FnExactLoseDisk.j0 k l1 t220 t226 t232 (t232 != t220) l0_0 t217 t222 t229) else (laws_FnExactLoseDisk.j0 k l1 t220 t226 t232 true l0_0 t217 t222 t229)) = some r := H
    have A47 := Aside0.mk A470
    clear A470
    by_cases c48 : t234 = true
    ·
     subst c48
     have H1 : (laws_FnExactLoseDisk.j0 k l1 t220 t226 t232 (t232 != t220) l0_0 t217 t222 t229) = some r := by rw [if_pos rfl] at H; exact H
     clear H
     have H := H1
     clear H1
     have H' := Aside0.mk H
     clear H
     have hnb49 := NB233_209.out
     have hnc49 := NB209_233.out
     have hnb50 := NB233_221.out
     have hnc50 := NB221_233.out
     have hnb51 := NB233_225.out
     have hnc51 := NB225_233.out
     have hcz52_0 : w41.cell? ⟨gb233, 0, none⟩ = some (.slice none 0 0) := (blk_cell BK233.out 0).trans rfl
     have hfz52_0 := blk_frozen BK233.out 0
     have hnb53 := NB221_209.out
     have hnc53 := NB209_221.out
     have hnb54 := NB221_225.out
     have hnc54 := NB225_221.out
     have hcz55_0 : w41.cell? ⟨gb221, 0, none⟩ = some (.slice Ao27 t217.length co27) := (blk_cell BK221.out 0).trans rfl
     have hfz55_0 := blk_frozen BK221.out 0
     go_wp2_with (first | ((with_reducible refine gate_callee (f := 16) rfl ?_); refine goesL_ (some 45) rfl rfl Try.func16 (by kernel_rfl) rfl #[.agg #[.slice Ao42 t229.length co42], .agg #[.slice Ao27 t217.length co27]] rfl (by (try simp only [List.map_toArray, List.map_cons, List.map_nil]); first | done | rfl | (simp only [List.length_drop, List.length_take]; rfl)) ?_; (with_reducible refine (laws_eqDisk.calls k _ _ t229 _ _ t217 true _ ?side1 ?side2 ?side3 ?side4 A47.out).mono ?_); (case side1 => refine (Kd.R_reads' (e := 45) (base := w.heap.size) (ok := fun k_ => (((True ∧ some k_ ≠ (.slice Ao23 t211.length co23 : Value).ownBlock) ∧ some k_ ≠ (.slice Ao27 t217.length co27 : Value).ownBlock) ∧ some k_ ≠ (.slice Ao33 t222.length co33 : Value).ownBlock)) (n := t229.length) (c := co42) ?_).2.2; exact (by (with_reducible repeat (first | apply Kd.R_alloc | apply Kd.R_drewN | apply Kd.R_drew)); exact (Kd.R_mono (Kd.R_far (p := ⟨gb233, 0, none⟩) (Kd.R_types HO231.out BK233.out (by decide)) (fun _ hk => hk.2) (.slice Ao42 t229.length co42)) (fun _ h_ => h_.1)))); (case side2 => exact (Kd.R_reads' HO231.out).2.1); (case side3 => refine (Kd.R_reads' (e := 45) (base := w.heap.size) (ok := fun k_ => (((True ∧ some k_ ≠ (.slice Ao23 t211.length co23 : Value).ownBlock) ∧ some k_ ≠ (.slice Ao33 t222.length co33 : Value).ownBlock) ∧ some k_ ≠ (.slice Ao42 t229.length co42 : Value).ownBlock)) (n := t217.length) (c := co27) ?_).2.2; exact (by (with_reducible repeat (first | apply Kd.R_alloc | apply Kd.R_drewN | apply Kd.R_drew)); exact (Kd.R_mono (Kd.R_far (p := ⟨gb233, 0, none⟩) (Kd.R_types HO219.out BK233.out (by decide)) (fun _ hk => hk.2) (.slice Ao42 t229.length co42)) (fun _ h_ => h_.1)))); (case side4 => exact (Kd.R_reads' HO219.out).2.1); rintro e w56 ⟨rfl, hb⟩; refine ⟨_, rfl, ?_⟩; have n0_ := Aside0.mk (Kd.R_below (by (with_reducible repeat (first | apply Kd.R_alloc | apply Kd.R_drewN | apply Kd.R_drew)); exact (Kd.R_mono (Kd.R_far (p := ⟨gb233, 0, none⟩) (Kd.R_types HO213.out BK233.out (by decide)) (fun _ hk => hk.2) (.slice Ao42 t229.length co42)) (fun _ h_ => h_.1))) hb); have n1_ := Aside0.mk (Kd.R_below (by (with_reducible repeat (first | apply Kd.R_alloc | apply Kd.R_drewN | apply Kd.R_drew)); exact (Kd.R_mono (Kd.R_far (p := ⟨gb233, 0, none⟩) (Kd.R_types HO216.out BK233.out (by decide)) (fun _ hk => hk.2) (.slice Ao42 t229.length co42)) (fun _ h_ => h_.1))) hb); have n2_ := Aside0.mk (Kd.R_below (by (with_reducible repeat (first | apply Kd.R_alloc | apply Kd.R_drewN | apply Kd.R_drew)); exact (Kd.R_mono (Kd.R_far (p := ⟨gb233, 0, none⟩) (Kd.R_types HO219.out BK233.out (by decide)) (fun _ hk => hk.2) (.slice Ao42 t229.length co42)) (fun _ h_ => h_.1))) hb); have n3_ := Aside0.mk (Kd.R_below (by (with_reducible repeat (first | apply Kd.R_alloc | apply Kd.R_drewN | apply Kd.R_drew)); exact (Kd.R_mono (Kd.R_far (p := ⟨gb233, 0, none⟩) (Kd.R_types HO224.out BK233.out (by decide)) (fun _ hk => hk.2) (.slice Ao42 t229.length co42)) (fun _ h_ => h_.1))) hb); have n4_ := Aside0.mk (Kd.R_below (by (with_reducible repeat (first | apply Kd.R_alloc | apply Kd.R_drewN | apply Kd.R_drew)); exact (Kd.R_mono (Kd.R_far (p := ⟨gb233, 0, none⟩) (Kd.R_types HO228.out BK233.out (by decide)) (fun _ hk => hk.2) (.slice Ao42 t229.length co42)) (fun _ h_ => h_.1))) hb); have n5_ := Aside0.mk (Kd.R_below (by (with_reducible repeat (first | apply Kd.R_alloc | apply Kd.R_drewN | apply Kd.R_drew)); exact (Kd.R_mono (Kd.R_far (p := ⟨gb233, 0, none⟩) (Kd.R_types HO231.out BK233.out (by decide)) (fun _ hk => hk.2) (.slice Ao42 t229.length co42)) (fun _ h_ => h_.1))) hb); have n6_ := Aside0.mk (blk_below (g := gb209) (o := .cells #[.slice A0_0 l0_0.length c0_0] 24 (0, 0)) (by (with_reducible repeat (first | refine blk_drewN ?_ _ | refine blk_drew ?_ | refine blk_alloc ?_ _)); refine blk_far ?_ NB209_233.out _; (with_reducible repeat (first | refine blk_drewN ?_ _ | refine blk_drew ?_ | refine blk_alloc ?_ _)); exact BK209.out) hb); have n7_ := Aside0.mk (blk_below (g := gb221) (o := .cells #[.slice Ao27 t217.length co27] 29 (0, 0)) (by (with_reducible repeat (first | refine blk_drewN ?_ _ | refine blk_drew ?_ | refine blk_alloc ?_ _)); refine blk_far ?_ NB221_233.out _; (with_reducible repeat (first | refine blk_drewN ?_ _ | refine blk_drew ?_ | refine blk_alloc ?_ _)); exact BK221.out) hb); have n8_ := Aside0.mk (blk_below (g := gb225) (o := .cells #[.slice Ao33 t222.length co33] 29 (0, 0)) (by (with_reducible repeat (first | refine blk_drewN ?_ _ | refine blk_drew ?_ | refine blk_alloc ?_ _)); refine blk_far ?_ NB225_233.out _; (with_reducible repeat (first | refine blk_drewN ?_ _ | refine blk_drew ?_ | refine blk_alloc ?_ _)); exact BK225.out) hb); have n9_ := Aside0.mk (blk_below (g := gb233) (o := .cells #[.slice Ao42 t229.length co42] 29 (0, 0)) (by (with_reducible repeat (first | refine blk_drewN ?_ _ | refine blk_drew ?_ | refine blk_alloc ?_ _)); refine blk_put (cs := #[.slice none 0 0]) ?_ 0 _ rfl; (with_reducible repeat (first | refine blk_drewN ?_ _ | refine blk_drew ?_ | refine blk_alloc ?_ _)); exact BK233.out) hb); have n10_ := Aside0.mk (below_step (by repeat (first | (with_reducible first | exact HB.out | apply below_alloc | apply pw_below_drewN | apply below_drew1 | refine below_set ?_ GE209.out | refine below_set ?_ GE221.out | refine below_set ?_ GE225.out | refine below_set ?_ GE233.out) | exact HB.out)) hb); clear HO213; clear HO216; clear HO219; clear HO224; clear HO228; clear HO231; clear BK209; clear BK221; clear BK225; clear BK233; clear HB; have HO213 := n0_; have HO216 := n1_; have HO219 := n2_; have HO224 := n3_; have HO228 := n4_; have HO231 := n5_; have BK209 := n6_; have BK221 := n7_; have BK225 := n8_; have BK233 := n9_; have HB := n10_; clear n0_ n1_ n2_ n3_ n4_ n5_ n6_ n7_ n8_ n9_ n10_; (try clear hb); (try clear hb2); (try clear hk); (try clear hi)))
     go_meet
     case rel => exact ⟨_, ((t232 != t220)), (by first | rfl | (simp; done) | (simp [*]; done)), H', ⟨by first | omega | exact Nat.le_refl _⟩, ⟨by (with_reducible repeat (first | apply Kd.R_alloc | apply Kd.R_drewN | apply Kd.R_drew)); exact Kd.R_mono HO228.out (fun _ hk => trivial)⟩, ⟨by (with_reducible repeat (first | apply Kd.R_alloc | apply Kd.R_drewN | apply Kd.R_drew)); exact Kd.R_mono HO219.out (fun _ hk => ⟨hk.1.2, hk.2⟩)⟩, ⟨by (with_reducible repeat (first | apply Kd.R_alloc | apply Kd.R_drewN | apply Kd.R_drew)); exact Kd.R_mono HO224.out (fun _ hk => ⟨hk.1.2, hk.2⟩)⟩, ⟨by (with_reducible repeat (first | apply Kd.R_alloc | apply Kd.R_drewN | apply Kd.R_drew)); exact Kd.R_mono HO231.out (fun _ hk => ⟨hk.1.2, hk.2⟩)⟩, ⟨by (with_reducible repeat (first | refine blk_drewN ?_ _ | refine blk_drew ?_ | refine blk_alloc ?_ _)); exact BK209.out⟩, ⟨by (with_reducible repeat (first | refine blk_drewN ?_ _ | refine blk_drew ?_ | refine blk_alloc ?_ _)); exact BK221.out⟩, ⟨by (with_reducible repeat (first | refine blk_drewN ?_ _ | refine blk_drew ?_ | refine blk_alloc ?_ _)); exact BK225.out⟩, ⟨by (with_reducible repeat (first | refine blk_drewN ?_ _ | refine blk_drew ?_ | refine blk_alloc ?_ _)); exact BK233.out⟩, ⟨by repeat (first | (with_reducible first | exact HB.out | apply below_alloc | apply pw_below_drewN | apply below_drew1 | refine below_set ?_ GE209.out | refine below_set ?_ GE221.out | refine below_set ?_ GE225.out | refine below_set ?_ GE233.out) | exact HB.out)⟩⟩
    ·
     replace c48 := Bool.eq_false_iff.mpr c48
     subst c48
     have H1 : (laws_FnExactLoseDisk.j0 k l1 t220 t226 t232 true l0_0 t217 t222 t229) = some r := by rw [if_neg (show ¬ (false = true) by decide)] at H; exact H
     clear H
     have H := H1
     clear H1
     have H' := Aside0.mk H
     clear H
     have hnb57 := NB233_209.out
     have hnc57 := NB209_233.out
     have hnb58 := NB233_221.out
     have hnc58 := NB221_233.out
     have hnb59 := NB233_225.out
     have hnc59 := NB225_233.out
     have hcz60_0 : w41.cell? ⟨gb233, 0, none⟩ = some (.slice none 0 0) := (blk_cell BK233.out 0).trans rfl
     have hfz60_0 := blk_frozen BK233.out 0
     have hnb61 := NB221_209.out
     have hnc61 := NB209_221.out
     have hnb62 := NB221_225.out
     have hnc62 := NB225_221.out
     have hcz63_0 : w41.cell? ⟨gb221, 0, none⟩ = some (.slice Ao27 t217.length co27) := (blk_cell BK221.out 0).trans rfl
     have hfz63_0 := blk_frozen BK221.out 0
     go_wp2_with (first | ((with_reducible refine gate_callee (f := 16) rfl ?_); refine goesL_ (some 45) rfl rfl Try.func16 (by kernel_rfl) rfl #[.agg #[.slice Ao42 t229.length co42], .agg #[.slice Ao27 t217.length co27]] rfl (by (try simp only [List.map_toArray, List.map_cons, List.map_nil]); first | done | rfl | (simp only [List.length_drop, List.length_take]; rfl)) ?_; (with_reducible refine (laws_eqDisk.calls k _ _ t229 _ _ t217 false _ ?side1 ?side2 ?side3 ?side4 A47.out).mono ?_); (case side1 => refine (Kd.R_reads' (e := 45) (base := w.heap.size) (ok := fun k_ => (((True ∧ some k_ ≠ (.slice Ao23 t211.length co23 : Value).ownBlock) ∧ some k_ ≠ (.slice Ao27 t217.length co27 : Value).ownBlock) ∧ some k_ ≠ (.slice Ao33 t222.length co33 : Value).ownBlock)) (n := t229.length) (c := co42) ?_).2.2; exact (by (with_reducible repeat (first | apply Kd.R_alloc | apply Kd.R_drewN | apply Kd.R_drew)); exact (Kd.R_mono (Kd.R_far (p := ⟨gb233, 0, none⟩) (Kd.R_types HO231.out BK233.out (by decide)) (fun _ hk => hk.2) (.slice Ao42 t229.length co42)) (fun _ h_ => h_.1)))); (case side2 => exact (Kd.R_reads' HO231.out).2.1); (case side3 => refine (Kd.R_reads' (e := 45) (base := w.heap.size) (ok := fun k_ => (((True ∧ some k_ ≠ (.slice Ao23 t211.length co23 : Value).ownBlock) ∧ some k_ ≠ (.slice Ao33 t222.length co33 : Value).ownBlock) ∧ some k_ ≠ (.slice Ao42 t229.length co42 : Value).ownBlock)) (n := t217.length) (c := co27) ?_).2.2; exact (by (with_reducible repeat (first | apply Kd.R_alloc | apply Kd.R_drewN | apply Kd.R_drew)); exact (Kd.R_mono (Kd.R_far (p := ⟨gb233, 0, none⟩) (Kd.R_types HO219.out BK233.out (by decide)) (fun _ hk => hk.2) (.slice Ao42 t229.length co42)) (fun _ h_ => h_.1)))); (case side4 => exact (Kd.R_reads' HO219.out).2.1); rintro e w64 ⟨rfl, hb⟩; refine ⟨_, rfl, ?_⟩; have n0_ := Aside0.mk (Kd.R_below (by (with_reducible repeat (first | apply Kd.R_alloc | apply Kd.R_drewN | apply Kd.R_drew)); exact (Kd.R_mono (Kd.R_far (p := ⟨gb233, 0, none⟩) (Kd.R_types HO213.out BK233.out (by decide)) (fun _ hk => hk.2) (.slice Ao42 t229.length co42)) (fun _ h_ => h_.1))) hb); have n1_ := Aside0.mk (Kd.R_below (by (with_reducible repeat (first | apply Kd.R_alloc | apply Kd.R_drewN | apply Kd.R_drew)); exact (Kd.R_mono (Kd.R_far (p := ⟨gb233, 0, none⟩) (Kd.R_types HO216.out BK233.out (by decide)) (fun _ hk => hk.2) (.slice Ao42 t229.length co42)) (fun _ h_ => h_.1))) hb); have n2_ := Aside0.mk (Kd.R_below (by (with_reducible repeat (first | apply Kd.R_alloc | apply Kd.R_drewN | apply Kd.R_drew)); exact (Kd.R_mono (Kd.R_far (p := ⟨gb233, 0, none⟩) (Kd.R_types HO219.out BK233.out (by decide)) (fun _ hk => hk.2) (.slice Ao42 t229.length co42)) (fun _ h_ => h_.1))) hb); have n3_ := Aside0.mk (Kd.R_below (by (with_reducible repeat (first | apply Kd.R_alloc | apply Kd.R_drewN | apply Kd.R_drew)); exact (Kd.R_mono (Kd.R_far (p := ⟨gb233, 0, none⟩) (Kd.R_types HO224.out BK233.out (by decide)) (fun _ hk => hk.2) (.slice Ao42 t229.length co42)) (fun _ h_ => h_.1))) hb); have n4_ := Aside0.mk (Kd.R_below (by (with_reducible repeat (first | apply Kd.R_alloc | apply Kd.R_drewN | apply Kd.R_drew)); exact (Kd.R_mono (Kd.R_far (p := ⟨gb233, 0, none⟩) (Kd.R_types HO228.out BK233.out (by decide)) (fun _ hk => hk.2) (.slice Ao42 t229.length co42)) (fun _ h_ => h_.1))) hb); have n5_ := Aside0.mk (Kd.R_below (by (with_reducible repeat (first | apply Kd.R_alloc | apply Kd.R_drewN | apply Kd.R_drew)); exact (Kd.R_mono (Kd.R_far (p := ⟨gb233, 0, none⟩) (Kd.R_types HO231.out BK233.out (by decide)) (fun _ hk => hk.2) (.slice Ao42 t229.length co42)) (fun _ h_ => h_.1))) hb); have n6_ := Aside0.mk (blk_below (g := gb209) (o := .cells #[.slice A0_0 l0_0.length c0_0] 24 (0, 0)) (by (with_reducible repeat (first | refine blk_drewN ?_ _ | refine blk_drew ?_ | refine blk_alloc ?_ _)); refine blk_far ?_ NB209_233.out _; (with_reducible repeat (first | refine blk_drewN ?_ _ | refine blk_drew ?_ | refine blk_alloc ?_ _)); exact BK209.out) hb); have n7_ := Aside0.mk (blk_below (g := gb221) (o := .cells #[.slice Ao27 t217.length co27] 29 (0, 0)) (by (with_reducible repeat (first | refine blk_drewN ?_ _ | refine blk_drew ?_ | refine blk_alloc ?_ _)); refine blk_far ?_ NB221_233.out _; (with_reducible repeat (first | refine blk_drewN ?_ _ | refine blk_drew ?_ | refine blk_alloc ?_ _)); exact BK221.out) hb); have n8_ := Aside0.mk (blk_below (g := gb225) (o := .cells #[.slice Ao33 t222.length co33] 29 (0, 0)) (by (with_reducible repeat (first | refine blk_drewN ?_ _ | refine blk_drew ?_ | refine blk_alloc ?_ _)); refine blk_far ?_ NB225_233.out _; (with_reducible repeat (first | refine blk_drewN ?_ _ | refine blk_drew ?_ | refine blk_alloc ?_ _)); exact BK225.out) hb); have n9_ := Aside0.mk (blk_below (g := gb233) (o := .cells #[.slice Ao42 t229.length co42] 29 (0, 0)) (by (with_reducible repeat (first | refine blk_drewN ?_ _ | refine blk_drew ?_ | refine blk_alloc ?_ _)); refine blk_put (cs := #[.slice none 0 0]) ?_ 0 _ rfl; (with_reducible repeat (first | refine blk_drewN ?_ _ | refine blk_drew ?_ | refine blk_alloc ?_ _)); exact BK233.out) hb); have n10_ := Aside0.mk (below_step (by repeat (first | (with_reducible first | exact HB.out | apply below_alloc | apply pw_below_drewN | apply below_drew1 | refine below_set ?_ GE209.out | refine below_set ?_ GE221.out | refine below_set ?_ GE225.out | refine below_set ?_ GE233.out) | exact HB.out)) hb); clear HO213; clear HO216; clear HO219; clear HO224; clear HO228; clear HO231; clear BK209; clear BK221; clear BK225; clear BK233; clear HB; have HO213 := n0_; have HO216 := n1_; have HO219 := n2_; have HO224 := n3_; have HO228 := n4_; have HO231 := n5_; have BK209 := n6_; have BK221 := n7_; have BK225 := n8_; have BK233 := n9_; have HB := n10_; clear n0_ n1_ n2_ n3_ n4_ n5_ n6_ n7_ n8_ n9_ n10_; (try clear hb); (try clear hb2); (try clear hk); (try clear hi)))
     go_meet
     case rel => exact ⟨_, (true), (by first | rfl | (simp; done) | (simp [*]; done)), H', ⟨by first | omega | exact Nat.le_refl _⟩, ⟨by (with_reducible repeat (first | apply Kd.R_alloc | apply Kd.R_drewN | apply Kd.R_drew)); exact Kd.R_mono HO228.out (fun _ hk => trivial)⟩, ⟨by (with_reducible repeat (first | apply Kd.R_alloc | apply Kd.R_drewN | apply Kd.R_drew)); exact Kd.R_mono HO219.out (fun _ hk => ⟨hk.1.2, hk.2⟩)⟩, ⟨by (with_reducible repeat (first | apply Kd.R_alloc | apply Kd.R_drewN | apply Kd.R_drew)); exact Kd.R_mono HO224.out (fun _ hk => ⟨hk.1.2, hk.2⟩)⟩, ⟨by (with_reducible repeat (first | apply Kd.R_alloc | apply Kd.R_drewN | apply Kd.R_drew)); exact Kd.R_mono HO231.out (fun _ hk => ⟨hk.1.2, hk.2⟩)⟩, ⟨by (with_reducible repeat (first | refine blk_drewN ?_ _ | refine blk_drew ?_ | refine blk_alloc ?_ _)); exact BK209.out⟩, ⟨by (with_reducible repeat (first | refine blk_drewN ?_ _ | refine blk_drew ?_ | refine blk_alloc ?_ _)); exact BK221.out⟩, ⟨by (with_reducible repeat (first | refine blk_drewN ?_ _ | refine blk_drew ?_ | refine blk_alloc ?_ _)); exact BK225.out⟩, ⟨by (with_reducible repeat (first | refine blk_drewN ?_ _ | refine blk_drew ?_ | refine blk_alloc ?_ _)); exact BK233.out⟩, ⟨by repeat (first | (with_reducible first | exact HB.out | apply below_alloc | apply pw_below_drewN | apply below_drew1 | refine below_set ?_ GE209.out | refine below_set ?_ GE221.out | refine below_set ?_ GE225.out | refine below_set ?_ GE233.out) | exact HB.out)⟩⟩
   case rest =>
    clear HC16
    try clear c1
    try clear c2
    try clear p2
    try clear c3
    try clear c3b0
    try clear c3b1
    try clear c4
    try clear c5
    try clear c6
    try clear c6b0
    try clear c7
    try clear c12
    try clear c14
    try clear c16
    try clear c25
    try clear c28
    try clear c29
    try clear c34
    try clear c35
    try clear c43
    try clear c44
    try clear c45
    try clear c48
    try clear c49
    try clear c50
    try clear c51
    try clear c53
    try clear c54
    try clear c57
    try clear c58
    try clear c59
    try clear c61
    try clear c62
    try clear hcz18_0
    try clear hcz20_0
    try clear hcz29_0
    try clear hcz30_0
    try clear hcz36_0
    try clear hcz38_0
    try clear hcz46_0
    try clear hcz52_0
    try clear hcz55_0
    try clear hcz60_0
    try clear hcz63_0
    try clear hcz8_0
    try clear hfz18_0
    try clear hfz20_0
    try clear hfz29_0
    try clear hfz30_0
    try clear hfz36_0
    try clear hfz38_0
    try clear hfz46_0
    try clear hfz52_0
    try clear hfz55_0
    try clear hfz60_0
    try clear hfz63_0
    try clear hfz8_0
    obtain ⟨kq, x51_15, rfl, HA, HJ15, HO_9, HO_222000, HO_226000, HO_234000, BK209, BK221, BK225, BK233, HB⟩ := hcut
    cases kq with
    | zero => exact absurd HA.out (by simp [laws_FnExactLoseDisk.j0])
    | succ kj15 =>
     have H := HA.out
     clear HA
     simp only [laws_FnExactLoseDisk.j0] at H
     by_cases c65 : x51_15 = true
     ·
      subst c65
      have H1 : (none) = some r := by rw [if_pos rfl] at H; exact H
      clear H
      have H := H1
      clear H1
      exact absurd H (by simp)
     ·
      replace c65 := Bool.eq_false_iff.mpr c65
      subst c65
      have H1 : ((laws_toDisk.f kj15 l0_0).bind fun t235 => ((laws_eqDisk.f kj15 t222 t235).bind fun t238 => (if t238 = true then ((laws_toIntS.f kj15 l1).bind fun t239 => ((laws_eqIntS.f kj15 t226 t239).bind fun t242 => (if t242 = true then ((laws_markDisk.f kj15 t222 1).bind fun bt243 => ((laws_markIntS.f kj15 t226 bt243.1).bind fun bt245 => (if bt245.1 < 0 then (laws_FnExactLoseDisk.j1 kj15 l1 t220 true l0_0 t217 t229) else ((laws_eqDisk.f kj15 t229 t217).bind fun t247 => (if t247 = true then (laws_FnExactLoseDisk.j1 kj15 l1 t220 (t232 != t220) l0_0 t217 t229) else (laws_FnExactLoseDisk.j1 kj15 l1 t220 true l0_0 t217 t229)))))) else (none)))) else (none)))) = some r := by rw [if_neg (show ¬ (false = true) by decide)] at H; exact H
      clear H
      have H := H1
      clear H1
      replace H := Option.bind_eq_some_iff.mp H
      obtain ⟨t235, A660, H⟩ := H
      replace H : ((laws_eqDisk.f kj15 t222 t235).bind fun t238 => (if t238 = true then ((laws_toIntS.f kj15 l1).bind fun t239 => ((laws_eqIntS.f kj15 t226 t239).bind fun t242 => (if t242 = true then ((laws_markDisk.f kj15 t222 1).bind fun bt243 => ((laws_markIntS.f kj15 t226 bt243.1).bind fun bt245 => (if bt245.1 < 0 then (laws_FnExactLoseDisk.j1 kj15 l1 t220 true l0_0 t217 t229) else ((laws_eqDisk.f kj15 t229 t217).bind fun t247 => (if t247 = true then (laws_FnExactLoseDisk.j1 kj15 l1 t220 (t232 != t220) l0_0 t217 t229) else (laws_FnExactLoseDisk.j1 kj15 l1 t220 true l0_0 t217 t229)))))) else (none)))) else (none))) = some r := H
      have A66 := Aside0.mk A660
      clear A660
      replace H := Option.bind_eq_some_iff.mp H
      obtain ⟨t238, A670, H⟩ := H
      replace H : (if t238 = true then ((laws_toIntS.f kj15 l1).bind fun t239 => ((laws_eqIntS.f kj15 t226 t239).bind fun t242 => (if t242 = true then ((laws_markDisk.f kj15 t222 1).bind fun bt243 => ((laws_markIntS.f kj15 t226 bt243.1).bind fun bt245 => (if bt245.1 < 0 then (laws_FnExactLoseDisk.j1 kj15 l1 t220 true l0_0 t217 t229) else ((laws_eqDisk.f kj15 t229 t217).bind fun t247 => (if t247 = true then (laws_FnExactLoseDisk.j1 kj15 l1 t220 (t232 != t220) l0_0 t217 t229) else (laws_FnExactLoseDisk.j1 kj15 l1 t220 true l0_0 t217 t229)))))) else (none)))) else (none)) = some r := H
      have A67 := Aside0.mk A670
      clear A670
      by_cases c68 : t238 = true
      ·
       subst c68
       have H1 : ((laws_toIntS.f kj15 l1).bind fun t239 => ((laws_eqIntS.f kj15 t226 t239).bind fun t242 => (if t242 = true then ((laws_markDisk.f kj15 t222 1).bind fun bt243 => ((laws_markIntS.f kj15 t226 bt243.1).bind fun bt245 => (if bt245.1 < 0 then (laws_FnExactLoseDisk.j1 kj15 l1 t220 true l0_0 t217 t229) else ((laws_eqDisk.f kj15 t229 t217).bind fun t247 => (if t247 = true then (laws_FnExactLoseDisk.j1 kj15 l1 t220 (t232 != t220) l0_0 t217 t229) else (laws_FnExactLoseDisk.j1 kj15 l1 t220 true l0_0 t217 t229)))))) else (none)))) = some r := by rw [if_pos rfl] at H; exact H
       clear H
       have H := H1
       clear H1
       replace H := Option.bind_eq_some_iff.mp H
       obtain ⟨t239, A690, H⟩ := H
       replace H : ((laws_eqIntS.f kj15 t226 t239).bind fun t242 => (if t242 = true then ((laws_markDisk.f kj15 t222 1).bind fun bt243 => ((laws_markIntS.f kj15 t226 bt243.1).bind fun bt245 => (if bt245.1 < 0 then (laws_FnExactLoseDisk.j1 kj15 l1 t220 true l0_0 t217 t229) else ((laws_eqDisk.f kj15 t229 t217).bind fun t247 => (if t247 = true then (laws_FnExactLoseDisk.j1 kj15 l1 t220 (t232 != t220) l0_0 t217 t229) else (laws_FnExactLoseDisk.j1 kj15 l1 t220 true l0_0 t217 t229)))))) else (none))) = some r := H
       have A69 := Aside0.mk A690
       clear A690
       replace H := Option.bind_eq_some_iff.mp H
       obtain ⟨t242, A700, H⟩ := H
       replace H : (if t242 = true then ((laws_markDisk.f kj15 t222 1).bind fun bt243 => ((laws_markIntS.f kj15 t226 bt243.1).bind fun bt245 => (if bt245.1 < 0 then (laws_FnExactLoseDisk.j1 kj15 l1 t220 true l0_0 t217 t229) else ((laws_eqDisk.f kj15 t229 t217).bind fun t247 => (if t247 = true then (laws_FnExactLoseDisk.j1 kj15 l1 t220 (t232 != t220) l0_0 t217 t229) else (laws_FnExactLoseDisk.j1 kj15 l1 t220 true l0_0 t217 t229)))))) else (none)) = some r := H
       have A70 := Aside0.mk A700
       clear A700
       by_cases c71 : t242 = true
       ·
        subst c71
        have H1 : ((laws_markDisk.f kj15 t222 1).bind fun bt243 => ((laws_markIntS.f kj15 t226 bt243.1).bind fun bt245 => (if bt245.1 < 0 then (laws_FnExactLoseDisk.j1 kj15 l1 t220 true l0_0 t217 t229) else ((laws_eqDisk.f kj15 t229 t217).bind fun t247 => (if t247 = true then (laws_FnExactLoseDisk.j1 kj15 l1 t220 (t232 != t220) l0_0 t217 t229) else (laws_FnExactLoseDisk.j1 kj15 l1 t220 true l0_0 t217 t229)))))) = some r := by rw [if_pos rfl] at H; exact H
        clear H
        have H := H1
        clear H1
        replace H := Option.bind_eq_some_iff.mp H
        obtain ⟨⟨t243, t244⟩, A720, H⟩ := H
        replace H : ((laws_markIntS.f kj15 t226 t243).bind fun bt245 => (if bt245.1 < 0 then (laws_FnExactLoseDisk.j1 kj15 l1 t220 true l0_0 t217 t229) else ((laws_eqDisk.f kj15 t229 t217).bind fun t247 => (if t247 = true then (laws_FnExactLoseDisk.j1 kj15 l1 t220 (t232 != t220) l0_0 t217 t229) else (laws_FnExactLoseDisk.j1 kj15 l1 t220 true l0_0 t217 t229))))) = some r := H
        have A72 := Aside0.mk A720
        clear A720
        replace H := Option.bind_eq_some_iff.mp H
        obtain ⟨⟨t245, t246⟩, A730, H⟩ := H
        replace H : (if t245 < 0 then (laws_FnExactLoseDisk.j1 kj15 l1 t220 true l0_0 t217 t229) else ((laws_eqDisk.f kj15 t229 t217).bind fun t247 => (if t247 = true then (laws_FnExactLoseDisk.j1 kj15 l1 t220 (t232 != t220) l0_0 t217 t229) else (laws_FnExactLoseDisk.j1 kj15 l1 t220 true l0_0 t217 t229)))) = some r := H
        have A73 := Aside0.mk A730
        clear A730
        have HC74 := Aside0.mk H
        clear H
        try go_wp2
        have n0_ := Aside0.mk (Kd.R_drew HO_9.out)
        have n1_ := Aside0.mk (Kd.R_drew HO_222000.out)
        have n2_ := Aside0.mk (Kd.R_drew HO_226000.out)
        have n3_ := Aside0.mk (Kd.R_drew HO_234000.out)
        have n4_ := Aside0.mk (blk_drew BK209.out)
        have n5_ := Aside0.mk (blk_drew BK221.out)
        have n6_ := Aside0.mk (blk_drew BK225.out)
        have n7_ := Aside0.mk (blk_drew BK233.out)
        have n8_ := Aside0.mk (below_drew1 HB.out)
        clear HO_9
        clear HO_222000
        clear HO_226000
        clear HO_234000
        clear BK209
        clear BK221
        clear BK225
        clear BK233
        clear HB
        have HO_9 := n0_
        have HO_222000 := n1_
        have HO_226000 := n2_
        have HO_234000 := n3_
        have BK209 := n4_
        have BK221 := n5_
        have BK225 := n6_
        have BK233 := n7_
        have HB := n8_
        clear n0_ n1_ n2_ n3_ n4_ n5_ n6_ n7_ n8_
        refine start_ (n := 5) (S := fun w' => w'.cell? ⟨gb225, 0, none⟩ = some (.slice Ao33 t222.length co33) ∧ w'.cell? ⟨gb209, 0, none⟩ = some (.slice A0_0 l0_0.length c0_0)) (ds := []) #[false, false, false, false, false] (by kernel_rfl) rfl rfl ⟨(blk_cell BK225.out 0).trans rfl, (blk_cell BK209.out 0).trans rfl⟩ (fun hHeld => ?_)
        generalize wc.drew = w75 at HO_9 HO_222000 HO_226000 HO_234000 BK209 BK221 BK225 BK233 HB hHeld ⊢
        refine take_ (i := 0) (N := some 52) (v := ?_) (a' := ?_) #[true, false, false, false, false] rfl rfl (by kernel_rfl) (fun _ _ _ h => h) (Or.inl ⟨by rfl, ?_⟩) hHeld ?_ ?_
        rotate_left
        ·
         rintro w' ⟨s0, s1⟩
         go_simp
         with_reducible rfl
        rotate_left
        ·
         simp only [Act.put, List.setIfInBounds_toArray, List.set_cons_zero, List.set_cons_succ, i64_w, i32_w]
         rfl
        refine take_ (i := 1) (N := some 53) (v := ?_) (a' := ?_) #[true, true, false, false, false] rfl rfl (by kernel_rfl) (fun _ _ _ h => h) (Or.inl ⟨by rfl, ?_⟩) hHeld ?_ ?_
        rotate_left
        ·
         rintro w' ⟨s0, s1⟩
         go_simp
         with_reducible rfl
        rotate_left
        ·
         simp only [Act.put, List.setIfInBounds_toArray, List.set_cons_zero, List.set_cons_succ, i64_w, i32_w]
         rfl
        refine one_ (i := 2) (N := some 54) #[true, true, true, false, false] rfl rfl (by kernel_rfl) (by decide) (fun K hK => ?_)
        refine goes_ Try.func14 (by kernel_rfl) rfl #[.agg #[.slice A0_0 l0_0.length c0_0]] (by rfl) rfl rfl (by (try simp only [List.map_toArray, List.map_cons, List.map_nil]); first | done | rfl | (simp only [List.length_drop, List.length_take]; rfl)) ?_
        with_reducible refine (laws_toDisk.calls kj15 _ _ l0_0 t235 _ ?side1 ?side2 A66.out).mono ?_
        (case side1 => repeat (first | exact (Kd.C_below HR0_0.out HB.out) | (with_reducible refine Kd.C_alloc ?_ _) | (with_reducible refine Kd.C_drewN ?_ _) | (with_reducible refine Kd.C_drew ?_)))
        (case side2 => exact HC0_0.out)
        rintro e w76 ⟨v236, rfl, ho0, hb⟩
        refine ⟨_, rfl, ?_⟩
        have n0_ := Aside0.mk (Kd.R_below (by (with_reducible repeat (first | apply Kd.R_alloc | apply Kd.R_drewN | apply Kd.R_drew)); exact HO_9.out) hb)
        have n1_ := Aside0.mk (Kd.R_elder' (by (with_reducible repeat (first | apply Kd.R_alloc | apply Kd.R_drewN | apply Kd.R_drew)); exact HO_222000.out) (Kd.R_base ho0) hb)
        have n2_ := Aside0.mk (Kd.R_elder' (by (with_reducible repeat (first | apply Kd.R_alloc | apply Kd.R_drewN | apply Kd.R_drew)); exact HO_226000.out) (Kd.R_base ho0) hb)
        have n3_ := Aside0.mk (Kd.R_elder' (by (with_reducible repeat (first | apply Kd.R_alloc | apply Kd.R_drewN | apply Kd.R_drew)); exact HO_234000.out) (Kd.R_base ho0) hb)
        have n4_ := Aside0.mk (Kd.R_lower (Kd.R_new' (Kd.R_new' (Kd.R_new' ho0 (Kd.R_lt (by (with_reducible repeat (first | apply Kd.R_alloc | apply Kd.R_drewN | apply Kd.R_drew)); exact HO_222000.out))) (Kd.R_lt (by (with_reducible repeat (first | apply Kd.R_alloc | apply Kd.R_drewN | apply Kd.R_drew)); exact HO_226000.out))) (Kd.R_lt (by (with_reducible repeat (first | apply Kd.R_alloc | apply Kd.R_drewN | apply Kd.R_drew)); exact HO_234000.out))) (below_size (by repeat (first | (with_reducible first | exact HB.out | apply below_alloc | apply pw_below_drewN | apply below_drew1 | refine below_set ?_ GE209.out | refine below_set ?_ GE221.out | refine below_set ?_ GE225.out | refine below_set ?_ GE233.out) | exact HB.out))))
        have n5_ := Aside0.mk (blk_below (g := gb209) (o := .cells #[.slice A0_0 l0_0.length c0_0] 24 (0, 0)) (by (with_reducible repeat (first | refine blk_drewN ?_ _ | refine blk_drew ?_ | refine blk_alloc ?_ _)); exact BK209.out) hb)
        have n6_ := Aside0.mk (blk_below (g := gb221) (o := .cells #[.slice Ao27 t217.length co27] 29 (0, 0)) (by (with_reducible repeat (first | refine blk_drewN ?_ _ | refine blk_drew ?_ | refine blk_alloc ?_ _)); exact BK221.out) hb)
        have n7_ := Aside0.mk (blk_below (g := gb225) (o := .cells #[.slice Ao33 t222.length co33] 29 (0, 0)) (by (with_reducible repeat (first | refine blk_drewN ?_ _ | refine blk_drew ?_ | refine blk_alloc ?_ _)); exact BK225.out) hb)
        have n8_ := Aside0.mk (blk_below (g := gb233) (o := .cells #[.slice Ao42 t229.length co42] 29 (0, 0)) (by (with_reducible repeat (first | refine blk_drewN ?_ _ | refine blk_drew ?_ | refine blk_alloc ?_ _)); exact BK233.out) hb)
        have n9_ := Aside0.mk (below_step (by repeat (first | (with_reducible first | exact HB.out | apply below_alloc | apply pw_below_drewN | apply below_drew1 | refine below_set ?_ GE209.out | refine below_set ?_ GE221.out | refine below_set ?_ GE225.out | refine below_set ?_ GE233.out) | exact HB.out)) hb)
        clear HO_9
        clear HO_222000
        clear HO_226000
        clear HO_234000
        clear BK209
        clear BK221
        clear BK225
        clear BK233
        clear HB
        have HO_9 := n0_
        have HO_222000 := n1_
        have HO_226000 := n2_
        have HO_234000 := n3_
        have HO237 := n4_
        have BK209 := n5_
        have BK221 := n6_
        have BK225 := n7_
        have BK233 := n8_
        have HB := n9_
        clear n0_ n1_ n2_ n3_ n4_ n5_ n6_ n7_ n8_ n9_
        (try clear hb)
        (try clear hb2)
        (try clear hk)
        (try clear hi)
        (try clear ho0)
        obtain ⟨Ao77, co77, eo77⟩ := Kd.R_slice HO237.out
        (first | subst eo77 | (injection eo77 with f1_ f2_ f3_; have f4_ := f1_.symm; have f5_ := f3_.symm; clear f1_ f2_ f3_; subst f4_; subst f5_))
        refine hK.out _ _ ⟨(blk_cell BK225.out 0).trans rfl, (blk_cell BK209.out 0).trans rfl⟩ (fun hHeld => ?_)
        clear hK K
        refine norm_ (a' := ?_) ?_ ?_
        rotate_left
        ·
         show Act.put _ (some 54) _ = _
         simp only [Act.put, List.setIfInBounds_toArray, List.set_cons_zero, List.set_cons_succ, i64_w, i32_w]
         rfl
        refine one_ (i := 3) (N := some 55) #[true, true, true, true, false] rfl rfl (by kernel_rfl) (by decide) (fun K hK => ?_)
        refine goes_ Try.func16 (by kernel_rfl) rfl #[.agg #[.slice Ao33 t222.length co33], .agg #[.slice Ao77 t235.length co77]] (by rfl) rfl rfl (by (try simp only [List.map_toArray, List.map_cons, List.map_nil]); first | done | rfl | (simp only [List.length_drop, List.length_take]; rfl)) ?_
        with_reducible refine (laws_eqDisk.calls kj15 _ _ t222 _ _ t235 true _ ?side1 ?side2 ?side3 ?side4 A67.out).mono ?_
        (case side1 => repeat (first | exact (Kd.R_reads' HO_226000.out).2.2 | (with_reducible refine Kd.C_alloc ?_ _) | (with_reducible refine Kd.C_drewN ?_ _) | (with_reducible refine Kd.C_drew ?_)))
        (case side2 => exact (Kd.R_reads' HO_226000.out).2.1)
        (case side3 => repeat (first | exact (Kd.R_reads' HO237.out).2.2 | (with_reducible refine Kd.C_alloc ?_ _) | (with_reducible refine Kd.C_drewN ?_ _) | (with_reducible refine Kd.C_drew ?_)))
        (case side4 => exact (Kd.R_reads' HO237.out).2.1)
        rintro e w78 ⟨rfl, hb⟩
        refine ⟨_, rfl, ?_⟩
        have n0_ := Aside0.mk (Kd.R_below (by (with_reducible repeat (first | apply Kd.R_alloc | apply Kd.R_drewN | apply Kd.R_drew)); exact HO_9.out) hb)
        have n1_ := Aside0.mk (Kd.R_below (by (with_reducible repeat (first | apply Kd.R_alloc | apply Kd.R_drewN | apply Kd.R_drew)); exact HO_222000.out) hb)
        have n2_ := Aside0.mk (Kd.R_below (by (with_reducible repeat (first | apply Kd.R_alloc | apply Kd.R_drewN | apply Kd.R_drew)); exact HO_226000.out) hb)
        have n3_ := Aside0.mk (Kd.R_below (by (with_reducible repeat (first | apply Kd.R_alloc | apply Kd.R_drewN | apply Kd.R_drew)); exact HO_234000.out) hb)
        have n4_ := Aside0.mk (Kd.R_below (by (with_reducible repeat (first | apply Kd.R_alloc | apply Kd.R_drewN | apply Kd.R_drew)); exact HO237.out) hb)
        have n5_ := Aside0.mk (blk_below (g := gb209) (o := .cells #[.slice A0_0 l0_0.length c0_0] 24 (0, 0)) (by (with_reducible repeat (first | refine blk_drewN ?_ _ | refine blk_drew ?_ | refine blk_alloc ?_ _)); exact BK209.out) hb)
        have n6_ := Aside0.mk (blk_below (g := gb221) (o := .cells #[.slice Ao27 t217.length co27] 29 (0, 0)) (by (with_reducible repeat (first | refine blk_drewN ?_ _ | refine blk_drew ?_ | refine blk_alloc ?_ _)); exact BK221.out) hb)
        have n7_ := Aside0.mk (blk_below (g := gb225) (o := .cells #[.slice Ao33 t222.length co33] 29 (0, 0)) (by (with_reducible repeat (first | refine blk_drewN ?_ _ | refine blk_drew ?_ | refine blk_alloc ?_ _)); exact BK225.out) hb)
        have n8_ := Aside0.mk (blk_below (g := gb233) (o := .cells #[.slice Ao42 t229.length co42] 29 (0, 0)) (by (with_reducible repeat (first | refine blk_drewN ?_ _ | refine blk_drew ?_ | refine blk_alloc ?_ _)); exact BK233.out) hb)
        have n9_ := Aside0.mk (below_step (by repeat (first | (with_reducible first | exact HB.out | apply below_alloc | apply pw_below_drewN | apply below_drew1 | refine below_set ?_ GE209.out | refine below_set ?_ GE221.out | refine below_set ?_ GE225.out | refine below_set ?_ GE233.out) | exact HB.out)) hb)
        clear HO_9
        clear HO_222000
        clear HO_226000
        clear HO_234000
        clear HO237
        clear BK209
        clear BK221
        clear BK225
        clear BK233
        clear HB
        have HO_9 := n0_
        have HO_222000 := n1_
        have HO_226000 := n2_
        have HO_234000 := n3_
        have HO237 := n4_
        have BK209 := n5_
        have BK221 := n6_
        have BK225 := n7_
        have BK233 := n8_
        have HB := n9_
        clear n0_ n1_ n2_ n3_ n4_ n5_ n6_ n7_ n8_ n9_
        (try clear hb)
        (try clear hb2)
        (try clear hk)
        (try clear hi)
        refine hK.out _ _ ⟨(blk_cell BK225.out 0).trans rfl, (blk_cell BK209.out 0).trans rfl⟩ (fun hHeld => ?_)
        clear hK K
        refine norm_ (a' := ?_) ?_ ?_
        rotate_left
        ·
         show Act.put _ (some 55) _ = _
         simp only [Act.put, List.setIfInBounds_toArray, List.set_cons_zero, List.set_cons_succ, i64_w, i32_w]
         rfl
        refine pure_ (i := 4) (N := some 56) (v := ?_) (a' := ?_) #[true, true, true, true, true] rfl rfl (by kernel_rfl) (fun _ _ _ h => h) (Or.inl ⟨by rfl, ?_⟩) ?_ ?_
        rotate_left
        ·
         intro w'
         go_simp
         with_reducible rfl
        rotate_left
        ·
         simp only [Act.put, List.setIfInBounds_toArray, List.set_cons_zero, List.set_cons_succ, i64_w, i32_w]
         rfl
        refine done_ (by kernel_rfl) ?_
        go_upto_region 20 with (first | ((with_reducible refine gate_callee (f := 29) rfl ?_); refine goesL_ (some 59) rfl rfl Try.func29 (by kernel_rfl) rfl #[.slice A1 l1.length c1] rfl (by (try simp only [List.map_toArray, List.map_cons, List.map_nil]); first | done | rfl | (simp only [List.length_drop, List.length_take]; rfl)) ?_; (with_reducible refine (laws_toIntS.calls kj15 _ _ l1 t239 _ ?side1 ?side2 A69.out).mono ?_); (case side1 => repeat (first | exact (Kd.C_below HR1.out HB.out) | (with_reducible refine Kd.C_alloc ?_ _) | (with_reducible refine Kd.C_drewN ?_ _) | (with_reducible refine Kd.C_drew ?_))); (case side2 => exact HC1.out); rintro e w79 ⟨v240, rfl, ho0, hb⟩; refine ⟨_, rfl, ?_⟩; have n0_ := Aside0.mk (Kd.R_elder' (by (with_reducible repeat (first | apply Kd.R_alloc | apply Kd.R_drewN | apply Kd.R_drew)); exact HO_9.out) (Kd.R_base ho0) hb); have n1_ := Aside0.mk (Kd.R_below (by (with_reducible repeat (first | apply Kd.R_alloc | apply Kd.R_drewN | apply Kd.R_drew)); exact HO_222000.out) hb); have n2_ := Aside0.mk (Kd.R_below (by (with_reducible repeat (first | apply Kd.R_alloc | apply Kd.R_drewN | apply Kd.R_drew)); exact HO_226000.out) hb); have n3_ := Aside0.mk (Kd.R_below (by (with_reducible repeat (first | apply Kd.R_alloc | apply Kd.R_drewN | apply Kd.R_drew)); exact HO_234000.out) hb); have n4_ := Aside0.mk (Kd.R_below (by (with_reducible repeat (first | apply Kd.R_alloc | apply Kd.R_drewN | apply Kd.R_drew)); exact HO237.out) hb); have n5_ := Aside0.mk (Kd.R_lower (Kd.R_new' ho0 (Kd.R_lt (by (with_reducible repeat (first | apply Kd.R_alloc | apply Kd.R_drewN | apply Kd.R_drew)); exact HO_9.out))) (below_size (by repeat (first | (with_reducible first | exact HB.out | apply below_alloc | apply pw_below_drewN | apply below_drew1 | refine below_set ?_ GE209.out | refine below_set ?_ GE221.out | refine below_set ?_ GE225.out | refine below_set ?_ GE233.out) | exact HB.out)))); have n6_ := Aside0.mk (blk_below (g := gb209) (o := .cells #[.slice A0_0 l0_0.length c0_0] 24 (0, 0)) (by (with_reducible repeat (first | refine blk_drewN ?_ _ | refine blk_drew ?_ | refine blk_alloc ?_ _)); exact BK209.out) hb); have n7_ := Aside0.mk (blk_below (g := gb221) (o := .cells #[.slice Ao27 t217.length co27] 29 (0, 0)) (by (with_reducible repeat (first | refine blk_drewN ?_ _ | refine blk_drew ?_ | refine blk_alloc ?_ _)); exact BK221.out) hb); have n8_ := Aside0.mk (blk_below (g := gb225) (o := .cells #[.slice Ao33 t222.length co33] 29 (0, 0)) (by (with_reducible repeat (first | refine blk_drewN ?_ _ | refine blk_drew ?_ | refine blk_alloc ?_ _)); exact BK225.out) hb); have n9_ := Aside0.mk (blk_below (g := gb233) (o := .cells #[.slice Ao42 t229.length co42] 29 (0, 0)) (by (with_reducible repeat (first | refine blk_drewN ?_ _ | refine blk_drew ?_ | refine blk_alloc ?_ _)); exact BK233.out) hb); have n10_ := Aside0.mk (below_step (by repeat (first | (with_reducible first | exact HB.out | apply below_alloc | apply pw_below_drewN | apply below_drew1 | refine below_set ?_ GE209.out | refine below_set ?_ GE221.out | refine below_set ?_ GE225.out | refine below_set ?_ GE233.out) | exact HB.out)) hb); clear HO_9; clear HO_222000; clear HO_226000; clear HO_234000; clear HO237; clear BK209; clear BK221; clear BK225; clear BK233; clear HB; have HO_9 := n0_; have HO_222000 := n1_; have HO_226000 := n2_; have HO_234000 := n3_; have HO237 := n4_; have HO241 := n5_; have BK209 := n6_; have BK221 := n7_; have BK225 := n8_; have BK233 := n9_; have HB := n10_; clear n0_ n1_ n2_ n3_ n4_ n5_ n6_ n7_ n8_ n9_ n10_; (try clear hb); (try clear hb2); (try clear hk); (try clear hi); (try clear ho0); obtain ⟨Ao80, co80, eo80⟩ := Kd.R_slice HO241.out; subst eo80) | ((with_reducible refine gate_callee (f := 30) rfl ?_); refine goesL_ (some 60) rfl rfl Try.func30 (by kernel_rfl) rfl #[.slice Ao39 t226.length co39, .slice Ao80 t239.length co80] rfl (by (try simp only [List.map_toArray, List.map_cons, List.map_nil]); first | done | rfl | (simp only [List.length_drop, List.length_take]; rfl)) ?_; (with_reducible refine (laws_eqIntS.calls kj15 _ _ t226 _ _ t239 true _ ?side1 ?side2 ?side3 ?side4 A70.out).mono ?_); (case side1 => repeat (first | exact (Kd.R_reads' HO_9.out).2.2 | (with_reducible refine Kd.C_alloc ?_ _) | (with_reducible refine Kd.C_drewN ?_ _) | (with_reducible refine Kd.C_drew ?_))); (case side2 => exact (Kd.R_reads' HO_9.out).2.1); (case side3 => repeat (first | exact (Kd.R_reads' HO241.out).2.2 | (with_reducible refine Kd.C_alloc ?_ _) | (with_reducible refine Kd.C_drewN ?_ _) | (with_reducible refine Kd.C_drew ?_))); (case side4 => exact (Kd.R_reads' HO241.out).2.1); rintro e w' ⟨rfl, ⟨nd, rfl⟩⟩; refine ⟨_, rfl, ?_⟩; have hnb81 := NB225_209.out; have hnc81 := NB209_225.out; have hnb82 := NB225_221.out; have hnc82 := NB221_225.out; have hnb83 := NB225_233.out; have hnc83 := NB233_225.out; have hcz84_0 : w79.cell? ⟨gb225, 0, none⟩ = some (.slice Ao33 t222.length co33) := (blk_cell BK225.out 0).trans rfl; have hfz84_0 := blk_frozen BK225.out 0) | ((with_reducible refine gate_callee (f := 31) rfl ?_); refine goesL_ (some 64) rfl rfl Try.func31 (by kernel_rfl) rfl #[.agg #[.slice Ao33 t222.length co33], .int .i64 1] rfl (by (try simp only [List.map_toArray, List.map_cons, List.map_nil]); first | done | rfl | (simp only [List.length_drop, List.length_take]; rfl)) ?_; (with_reducible refine (laws_markDisk.calls kj15 (fun k_ => some k_ = (.slice Ao33 t222.length co33 : Value).ownBlock) (.slice Ao33 t222.length co33) t222 1 t243 t244 w _ ?side1 ?side2 A72.out).mono ?_); (case side1 => repeat (first | (with_reducible first | exact HB.out | apply below_alloc | apply pw_below_drewN | apply below_drew1 | refine below_set ?_ GE209.out | refine below_set ?_ GE221.out | refine below_set ?_ GE225.out | refine below_set ?_ GE233.out) | exact HB.out)); (case side2 => exact Kd.R_tight rfl HO_226000.out); rintro e w85 ⟨rfl, hy0, hb, hkp⟩; refine ⟨_, rfl, ?_⟩; have n0_ := Aside0.mk (Kd.R_mono (ok' := fun k_ => some k_ ≠ (.slice Ao80 t239.length co80 : Value).ownBlock) (Kd.R_keptB ((Kd.R_apart' HO_9.out (Kd.R_typed HO_226000.out) (by decide))) hkp (fun k_ hk_ hs_ => (hk_.2) hs_)) (fun k_ hk_ => hk_.1.1.2)); have n1_ := Aside0.mk (Kd.R_mono (ok' := fun k_ => some k_ ≠ (.slice Ao33 t222.length co33 : Value).ownBlock ∧ some k_ ≠ (.slice Ao42 t229.length co42 : Value).ownBlock ∧ some k_ ≠ (.slice Ao77 t235.length co77 : Value).ownBlock) (Kd.R_keptB (HO_222000.out) hkp (fun k_ hk_ hs_ => (hk_.1.1) hs_)) (fun k_ hk_ => ⟨hk_.1.1.1, hk_.1.1.2, hk_.1.2⟩)); have n2_ := Aside0.mk (Kd.R_reok rfl hy0 (fun k_ e_ => HO_226000.out.1 k_ e_)); have n3_ := Aside0.mk (Kd.R_mono (ok' := fun k_ => some k_ ≠ (.slice Ao27 t217.length co27 : Value).ownBlock ∧ some k_ ≠ (.slice Ao33 t222.length co33 : Value).ownBlock ∧ some k_ ≠ (.slice Ao77 t235.length co77 : Value).ownBlock) (Kd.R_keptB (HO_234000.out) hkp (fun k_ hk_ hs_ => (hk_.1.2) hs_)) (fun k_ hk_ => ⟨hk_.1.1.1, hk_.1.1.2, hk_.1.2⟩)); have n4_ := Aside0.mk (blk_kept (by (with_reducible repeat (first | refine blk_drewN ?_ _ | refine blk_drew ?_ | refine blk_alloc ?_ _)); exact BK209.out) hkp (fun hs_ => (fun e_ => (Kd.R_ne HO_226000.out BK209.out (by decide)) e_) hs_)); have n5_ := Aside0.mk (blk_kept (by (with_reducible repeat (first | refine blk_drewN ?_ _ | refine blk_drew ?_ | refine blk_alloc ?_ _)); exact BK221.out) hkp (fun hs_ => (fun e_ => (Kd.R_ne HO_226000.out BK221.out (by decide)) e_) hs_)); have n6_ := Aside0.mk (blk_kept (by (with_reducible repeat (first | refine blk_drewN ?_ _ | refine blk_drew ?_ | refine blk_alloc ?_ _)); exact BK225.out) hkp (fun hs_ => (fun e_ => (Kd.R_ne HO_226000.out BK225.out (by decide)) e_) hs_)); have n7_ := Aside0.mk (blk_kept (by (with_reducible repeat (first | refine blk_drewN ?_ _ | refine blk_drew ?_ | refine blk_alloc ?_ _)); exact BK233.out) hkp (fun hs_ => (fun e_ => (Kd.R_ne HO_226000.out BK233.out (by decide)) e_) hs_)); have n8_ := Aside0.mk (Kd.R_mono (ok' := fun k_ => some k_ ≠ (.slice Ao27 t217.length co27 : Value).ownBlock ∧ some k_ ≠ (.slice Ao33 t222.length co33 : Value).ownBlock ∧ some k_ ≠ (.slice Ao42 t229.length co42 : Value).ownBlock) (Kd.R_keptB (HO237.out) hkp (fun k_ hk_ hs_ => (hk_.1.2) hs_)) (fun k_ hk_ => ⟨hk_.1.1.1.2, hk_.1.1.2, hk_.1.2⟩)); have n9_ := Aside0.mk (Kd.R_mono (ok' := fun k_ => some k_ ≠ (.slice Ao39 t226.length co39 : Value).ownBlock) (Kd.R_keptB ((Kd.R_apart' HO241.out (Kd.R_typed HO_226000.out) (by decide))) hkp (fun k_ hk_ hs_ => (hk_.2) hs_)) (fun k_ hk_ => hk_.1.1.2)); have n10_ := Aside0.mk (hb); clear HO_9; clear HO_222000; clear HO_226000; clear HO_234000; clear BK209; clear BK221; clear BK225; clear BK233; clear HO237; clear HO241; clear HB; have HO_9 := n0_; have HO_222000 := n1_; have HO_226000 := n2_; have HO_234000 := n3_; have BK209 := n4_; have BK221 := n5_; have BK225 := n6_; have BK233 := n7_; have HO237 := n8_; have HO241 := n9_; have HB := n10_; clear n0_ n1_ n2_ n3_ n4_ n5_ n6_ n7_ n8_ n9_ n10_; (try clear hb); (try clear hkp); (try clear hy0)) | ((with_reducible refine gate_callee (f := 32) rfl ?_); refine goesL_ (some 67) rfl rfl Try.func32 (by kernel_rfl) rfl #[.slice Ao39 t226.length co39, .int .i64 t243] rfl (by (try simp only [List.map_toArray, List.map_cons, List.map_nil]); first | done | rfl | (simp only [List.length_drop, List.length_take]; rfl)) ?_; (with_reducible refine (laws_markIntS.calls kj15 (fun k_ => some k_ = (.slice Ao39 t226.length co39 : Value).ownBlock) (.slice Ao39 t226.length co39) t226 t243 t245 t246 w _ ?side1 ?side2 A73.out).mono ?_); (case side1 => repeat (first | (with_reducible first | exact HB.out | apply below_alloc | apply pw_below_drewN | apply below_drew1 | refine below_set ?_ GE209.out | refine below_set ?_ GE221.out | refine below_set ?_ GE225.out | refine below_set ?_ GE233.out) | exact HB.out)); (case side2 => exact Kd.R_tight rfl HO_9.out); rintro e w86 ⟨rfl, hy0, hb, hkp⟩; refine ⟨_, rfl, ?_⟩; have n0_ := Aside0.mk (Kd.R_reok rfl hy0 (fun k_ e_ => HO_9.out.1 k_ e_)); have n1_ := Aside0.mk (Kd.R_mono (ok' := fun k_ => some k_ ≠ (.slice Ao33 t222.length co33 : Value).ownBlock ∧ some k_ ≠ (.slice Ao42 t229.length co42 : Value).ownBlock ∧ some k_ ≠ (.slice Ao77 t235.length co77 : Value).ownBlock) (Kd.R_keptB ((Kd.R_apart' HO_222000.out (Kd.R_typed HO_9.out) (by decide))) hkp (fun k_ hk_ hs_ => (hk_.2) hs_)) (fun k_ hk_ => ⟨hk_.1.1.1, hk_.1.1.2.1, hk_.1.1.2.2⟩)); have n2_ := Aside0.mk (Kd.R_mono (ok' := fun k_ => some k_ ≠ (.slice Ao27 t217.length co27 : Value).ownBlock ∧ some k_ ≠ (.slice Ao42 t229.length co42 : Value).ownBlock ∧ some k_ ≠ (.slice Ao77 t235.length co77 : Value).ownBlock) (Kd.R_keptB ((Kd.R_apart' HO_226000.out (Kd.R_typed HO_9.out) (by decide))) hkp (fun k_ hk_ hs_ => (hk_.2) hs_)) (fun k_ hk_ => ⟨hk_.1.1.1.1, hk_.1.1.1.2, hk_.1.1.2⟩)); have n3_ := Aside0.mk (Kd.R_mono (ok' := fun k_ => some k_ ≠ (.slice Ao27 t217.length co27 : Value).ownBlock ∧ some k_ ≠ (.slice Ao33 t222.length co33 : Value).ownBlock ∧ some k_ ≠ (.slice Ao77 t235.length co77 : Value).ownBlock) (Kd.R_keptB ((Kd.R_apart' HO_234000.out (Kd.R_typed HO_9.out) (by decide))) hkp (fun k_ hk_ hs_ => (hk_.2) hs_)) (fun k_ hk_ => ⟨hk_.1.1.1, hk_.1.1.2.1, hk_.1.1.2.2⟩)); have n4_ := Aside0.mk (blk_kept (by (with_reducible repeat (first | refine blk_drewN ?_ _ | refine blk_drew ?_ | refine blk_alloc ?_ _)); exact BK209.out) hkp (fun hs_ => (fun e_ => (Kd.R_ne HO_9.out BK209.out (by decide)) e_) hs_)); have n5_ := Aside0.mk (blk_kept (by (with_reducible repeat (first | refine blk_drewN ?_ _ | refine blk_drew ?_ | refine blk_alloc ?_ _)); exact BK221.out) hkp (fun hs_ => (fun e_ => (Kd.R_ne HO_9.out BK221.out (by decide)) e_) hs_)); have n6_ := Aside0.mk (blk_kept (by (with_reducible repeat (first | refine blk_drewN ?_ _ | refine blk_drew ?_ | refine blk_alloc ?_ _)); exact BK225.out) hkp (fun hs_ => (fun e_ => (Kd.R_ne HO_9.out BK225.out (by decide)) e_) hs_)); have n7_ := Aside0.mk (blk_kept (by (with_reducible repeat (first | refine blk_drewN ?_ _ | refine blk_drew ?_ | refine blk_alloc ?_ _)); exact BK233.out) hkp (fun hs_ => (fun e_ => (Kd.R_ne HO_9.out BK233.out (by decide)) e_) hs_)); have n8_ := Aside0.mk (Kd.R_mono (ok' := fun k_ => some k_ ≠ (.slice Ao27 t217.length co27 : Value).ownBlock ∧ some k_ ≠ (.slice Ao33 t222.length co33 : Value).ownBlock ∧ some k_ ≠ (.slice Ao42 t229.length co42 : Value).ownBlock) (Kd.R_keptB ((Kd.R_apart' HO237.out (Kd.R_typed HO_9.out) (by decide))) hkp (fun k_ hk_ hs_ => (hk_.2) hs_)) (fun k_ hk_ => ⟨hk_.1.1.1, hk_.1.1.2.1, hk_.1.1.2.2⟩)); have n9_ := Aside0.mk (Kd.R_mono (ok' := fun k_ => some k_ ≠ (.slice Ao39 t226.length co39 : Value).ownBlock) (Kd.R_keptB (HO241.out) hkp (fun k_ hk_ hs_ => (hk_) hs_)) (fun k_ hk_ => hk_.1)); have n10_ := Aside0.mk (hb); clear HO_9; clear HO_222000; clear HO_226000; clear HO_234000; clear BK209; clear BK221; clear BK225; clear BK233; clear HO237; clear HO241; clear HB; have HO_9 := n0_; have HO_222000 := n1_; have HO_226000 := n2_; have HO_234000 := n3_; have BK209 := n4_; have BK221 := n5_; have BK225 := n6_; have BK233 := n7_; have HO237 := n8_; have HO241 := n9_; have HB := n10_; clear n0_ n1_ n2_ n3_ n4_ n5_ n6_ n7_ n8_ n9_ n10_; (try clear hb); (try clear hkp); (try clear hy0)))
        (try simp only [Act.put, List.setIfInBounds_toArray, List.set_cons_zero, List.set_cons_succ])
        go_cut [80] (fun v80 wc => ∃ (kq : Nat) (x80_73 : Bool), v80 = .bool x80_73 ∧ Aside0 (laws_FnExactLoseDisk.j1 kq l1 t220 x80_73 l0_0 t217 t229 = some r) ∧ Aside0 (kq ≤ kj15) ∧ Aside0 (Kd.R k45 45 wc w.heap.size (fun k_ => some k_ ≠ ((.slice Ao33 t222.length co33) : Value).ownBlock ∧ some k_ ≠ ((.slice Ao42 t229.length co42) : Value).ownBlock) (.slice Ao27 t217.length co27) t217) ∧ Aside0 (Kd.R k45 45 wc w.heap.size (fun k_ => some k_ ≠ ((.slice Ao27 t217.length co27) : Value).ownBlock ∧ some k_ ≠ ((.slice Ao42 t229.length co42) : Value).ownBlock) (.slice Ao33 t222.length co33) t244) ∧ Aside0 (Kd.R k45 45 wc w.heap.size (fun k_ => some k_ ≠ ((.slice Ao27 t217.length co27) : Value).ownBlock ∧ some k_ ≠ ((.slice Ao33 t222.length co33) : Value).ownBlock) (.slice Ao42 t229.length co42) t229) ∧ Aside0 (wc.heap[gb209]? = some (.cells #[(.slice A0_0 l0_0.length c0_0)] 24 (0, 0))) ∧ Aside0 (wc.heap[gb221]? = some (.cells #[(.slice Ao27 t217.length co27)] 29 (0, 0))) ∧ Aside0 (wc.heap[gb225]? = some (.cells #[(.slice Ao33 t222.length co33)] 29 (0, 0))) ∧ Aside0 (wc.heap[gb233]? = some (.cells #[(.slice Ao42 t229.length co42)] 29 (0, 0))) ∧ Aside0 (Below w.heap.size w wc))
        case first =>
         have H := HC74.out
         clear HC74
         by_cases c87 : t245 < 0
         ·
          rw [if_pos c87] at H
          have c87b0 : decide (t245 < 0) = true := decide_eq_true c87
          clear c87
          (first | rw [c87b0] | (simp only [i64_w, i32_w]; rw [c87b0]) | skip)
          have H' := Aside0.mk H
          clear H
          go_wp2
          go_meet
          case rel => exact ⟨_, (true), (by first | rfl | (simp; done) | (simp [*]; done)), H', ⟨by have := HJ15.out; first | omega | exact Nat.le_refl _⟩, ⟨by (with_reducible repeat (first | apply Kd.R_alloc | apply Kd.R_drewN | apply Kd.R_drew)); exact Kd.R_mono HO_222000.out (fun _ hk => ⟨hk.1, hk.2.1⟩)⟩, ⟨by (with_reducible repeat (first | apply Kd.R_alloc | apply Kd.R_drewN | apply Kd.R_drew)); exact Kd.R_mono HO_226000.out (fun _ hk => ⟨hk.1, hk.2.1⟩)⟩, ⟨by (with_reducible repeat (first | apply Kd.R_alloc | apply Kd.R_drewN | apply Kd.R_drew)); exact Kd.R_mono HO_234000.out (fun _ hk => ⟨hk.1, hk.2.1⟩)⟩, ⟨by (with_reducible repeat (first | refine blk_drewN ?_ _ | refine blk_drew ?_ | refine blk_alloc ?_ _)); exact BK209.out⟩, ⟨by (with_reducible repeat (first | refine blk_drewN ?_ _ | refine blk_drew ?_ | refine blk_alloc ?_ _)); exact BK221.out⟩, ⟨by (with_reducible repeat (first | refine blk_drewN ?_ _ | refine blk_drew ?_ | refine blk_alloc ?_ _)); exact BK225.out⟩, ⟨by (with_reducible repeat (first | refine blk_drewN ?_ _ | refine blk_drew ?_ | refine blk_alloc ?_ _)); exact BK233.out⟩, ⟨by repeat (first | (with_reducible first | exact HB.out | apply below_alloc | apply pw_below_drewN | apply below_drew1 | refine below_set ?_ GE209.out | refine below_set ?_ GE221.out | refine below_set ?_ GE225.out | refine below_set ?_ GE233.out) | exact HB.out)⟩⟩
         ·
          rw [if_neg c87] at H
          have c87b0 : decide (t245 < 0) = false := decide_eq_false c87
          clear c87
          (first | rw [c87b0] | (simp only [i64_w, i32_w]; rw [c87b0]) | skip)
          replace H := Option.bind_eq_some_iff.mp H
          obtain ⟨t247, A880, H⟩ := H
          replace H : (if t247 = true then (laws_FnExactLoseDisk.j1 kj15 l1 t220 (t232 != t220) l0_0 t217 t229) else (laws_FnExactLoseDisk.j1 kj15 l1 t220 true l0_0 t217 t229)) = some r := H
          have A88 := Aside0.mk A880
          clear A880
          by_cases c89 : t247 = true
          ·
           subst c89
           have H1 : (laws_FnExactLoseDisk.j1 kj15 l1 t220 (t232 != t220) l0_0 t217 t229) = some r := by rw [if_pos rfl] at H; exact H
           clear H
           have H := H1
           clear H1
           have H' := Aside0.mk H
           clear H
           have hnb90 := NB233_209.out
           have hnc90 := NB209_233.out
           have hnb91 := NB233_221.out
           have hnc91 := NB221_233.out
           have hnb92 := NB233_225.out
           have hnc92 := NB225_233.out
           have hcz93_0 : w86.cell? ⟨gb233, 0, none⟩ = some (.slice Ao42 t229.length co42) := (blk_cell BK233.out 0).trans rfl
           have hfz93_0 := blk_frozen BK233.out 0
           have hnb94 := NB221_209.out
           have hnc94 := NB209_221.out
           have hnb95 := NB221_225.out
           have hnc95 := NB225_221.out
           have hcz96_0 : w86.cell? ⟨gb221, 0, none⟩ = some (.slice Ao27 t217.length co27) := (blk_cell BK221.out 0).trans rfl
           have hfz96_0 := blk_frozen BK221.out 0
           go_wp2_with (first | (go_at_call 16; (with_reducible refine (laws_eqDisk.calls kj15 _ _ t229 _ _ t217 true _ ?side1 ?side2 ?side3 ?side4 A88.out).mono ?_); (case side1 => repeat (first | exact (Kd.R_reads' HO_234000.out).2.2 | (with_reducible refine Kd.C_alloc ?_ _) | (with_reducible refine Kd.C_drewN ?_ _) | (with_reducible refine Kd.C_drew ?_))); (case side2 => exact (Kd.R_reads' HO_234000.out).2.1); (case side3 => repeat (first | exact (Kd.R_reads' HO_222000.out).2.2 | (with_reducible refine Kd.C_alloc ?_ _) | (with_reducible refine Kd.C_drewN ?_ _) | (with_reducible refine Kd.C_drew ?_))); (case side4 => exact (Kd.R_reads' HO_222000.out).2.1); rintro e w97 ⟨rfl, hb⟩; have n0_ := Aside0.mk (Kd.R_below (by (with_reducible repeat (first | apply Kd.R_alloc | apply Kd.R_drewN | apply Kd.R_drew)); exact HO_9.out) hb); have n1_ := Aside0.mk (Kd.R_below (by (with_reducible repeat (first | apply Kd.R_alloc | apply Kd.R_drewN | apply Kd.R_drew)); exact HO_222000.out) hb); have n2_ := Aside0.mk (Kd.R_below (by (with_reducible repeat (first | apply Kd.R_alloc | apply Kd.R_drewN | apply Kd.R_drew)); exact HO_226000.out) hb); have n3_ := Aside0.mk (Kd.R_below (by (with_reducible repeat (first | apply Kd.R_alloc | apply Kd.R_drewN | apply Kd.R_drew)); exact HO_234000.out) hb); have n4_ := Aside0.mk (Kd.R_below (by (with_reducible repeat (first | apply Kd.R_alloc | apply Kd.R_drewN | apply Kd.R_drew)); exact HO237.out) hb); have n5_ := Aside0.mk (Kd.R_below (by (with_reducible repeat (first | apply Kd.R_alloc | apply Kd.R_drewN | apply Kd.R_drew)); exact HO241.out) hb); have n6_ := Aside0.mk (blk_below (g := gb209) (o := .cells #[.slice A0_0 l0_0.length c0_0] 24 (0, 0)) (by (with_reducible repeat (first | refine blk_drewN ?_ _ | refine blk_drew ?_ | refine blk_alloc ?_ _)); exact BK209.out) hb); have n7_ := Aside0.mk (blk_below (g := gb221) (o := .cells #[.slice Ao27 t217.length co27] 29 (0, 0)) (by (with_reducible repeat (first | refine blk_drewN ?_ _ | refine blk_drew ?_ | refine blk_alloc ?_ _)); exact BK221.out) hb); have n8_ := Aside0.mk (blk_below (g := gb225) (o := .cells #[.slice Ao33 t222.length co33] 29 (0, 0)) (by (with_reducible repeat (first | refine blk_drewN ?_ _ | refine blk_drew ?_ | refine blk_alloc ?_ _)); exact BK225.out) hb); have n9_ := Aside0.mk (blk_below (g := gb233) (o := .cells #[.slice Ao42 t229.length co42] 29 (0, 0)) (by (with_reducible repeat (first | refine blk_drewN ?_ _ | refine blk_drew ?_ | refine blk_alloc ?_ _)); exact BK233.out) hb); have n10_ := Aside0.mk (below_step (by repeat (first | (with_reducible first | exact HB.out | apply below_alloc | apply pw_below_drewN | apply below_drew1 | refine below_set ?_ GE209.out | refine below_set ?_ GE221.out | refine below_set ?_ GE225.out | refine below_set ?_ GE233.out) | exact HB.out)) hb); clear HO_9; clear HO_222000; clear HO_226000; clear HO_234000; clear HO237; clear HO241; clear BK209; clear BK221; clear BK225; clear BK233; clear HB; have HO_9 := n0_; have HO_222000 := n1_; have HO_226000 := n2_; have HO_234000 := n3_; have HO237 := n4_; have HO241 := n5_; have BK209 := n6_; have BK221 := n7_; have BK225 := n8_; have BK233 := n9_; have HB := n10_; clear n0_ n1_ n2_ n3_ n4_ n5_ n6_ n7_ n8_ n9_ n10_; (try clear hb); (try clear hb2); (try clear hk); (try clear hi)))
           go_meet
           case rel => exact ⟨_, ((t232 != t220)), (by first | rfl | (simp; done) | (simp [*]; done)), H', ⟨by have := HJ15.out; first | omega | exact Nat.le_refl _⟩, ⟨by (with_reducible repeat (first | apply Kd.R_alloc | apply Kd.R_drewN | apply Kd.R_drew)); exact Kd.R_mono HO_222000.out (fun _ hk => ⟨hk.1, hk.2.1⟩)⟩, ⟨by (with_reducible repeat (first | apply Kd.R_alloc | apply Kd.R_drewN | apply Kd.R_drew)); exact Kd.R_mono HO_226000.out (fun _ hk => ⟨hk.1, hk.2.1⟩)⟩, ⟨by (with_reducible repeat (first | apply Kd.R_alloc | apply Kd.R_drewN | apply Kd.R_drew)); exact Kd.R_mono HO_234000.out (fun _ hk => ⟨hk.1, hk.2.1⟩)⟩, ⟨by (with_reducible repeat (first | refine blk_drewN ?_ _ | refine blk_drew ?_ | refine blk_alloc ?_ _)); exact BK209.out⟩, ⟨by (with_reducible repeat (first | refine blk_drewN ?_ _ | refine blk_drew ?_ | refine blk_alloc ?_ _)); exact BK221.out⟩, ⟨by (with_reducible repeat (first | refine blk_drewN ?_ _ | refine blk_drew ?_ | refine blk_alloc ?_ _)); exact BK225.out⟩, ⟨by (with_reducible repeat (first | refine blk_drewN ?_ _ | refine blk_drew ?_ | refine blk_alloc ?_ _)); exact BK233.out⟩, ⟨by repeat (first | (with_reducible first | exact HB.out | apply below_alloc | apply pw_below_drewN | apply below_drew1 | refine below_set ?_ GE209.out | refine below_set ?_ GE221.out | refine below_set ?_ GE225.out | refine below_set ?_ GE233.out) | exact HB.out)⟩⟩
          ·
           replace c89 := Bool.eq_false_iff.mpr c89
           subst c89
           have H1 : (laws_FnExactLoseDisk.j1 kj15 l1 t220 true l0_0 t217 t229) = some r := by rw [if_neg (show ¬ (false = true) by decide)] at H; exact H
           clear H
           have H := H1
           clear H1
           have H' := Aside0.mk H
           clear H
           have hnb98 := NB233_209.out
           have hnc98 := NB209_233.out
           have hnb99 := NB233_221.out
           have hnc99 := NB221_233.out
           have hnb100 := NB233_225.out
           have hnc100 := NB225_233.out
           have hcz101_0 : w86.cell? ⟨gb233, 0, none⟩ = some (.slice Ao42 t229.length co42) := (blk_cell BK233.out 0).trans rfl
           have hfz101_0 := blk_frozen BK233.out 0
           have hnb102 := NB221_209.out
           have hnc102 := NB209_221.out
           have hnb103 := NB221_225.out
           have hnc103 := NB225_221.out
           have hcz104_0 : w86.cell? ⟨gb221, 0, none⟩ = some (.slice Ao27 t217.length co27) := (blk_cell BK221.out 0).trans rfl
           have hfz104_0 := blk_frozen BK221.out 0
           go_wp2_with (first | (go_at_call 16; (with_reducible refine (laws_eqDisk.calls kj15 _ _ t229 _ _ t217 false _ ?side1 ?side2 ?side3 ?side4 A88.out).mono ?_); (case side1 => repeat (first | exact (Kd.R_reads' HO_234000.out).2.2 | (with_reducible refine Kd.C_alloc ?_ _) | (with_reducible refine Kd.C_drewN ?_ _) | (with_reducible refine Kd.C_drew ?_))); (case side2 => exact (Kd.R_reads' HO_234000.out).2.1); (case side3 => repeat (first | exact (Kd.R_reads' HO_222000.out).2.2 | (with_reducible refine Kd.C_alloc ?_ _) | (with_reducible refine Kd.C_drewN ?_ _) | (with_reducible refine Kd.C_drew ?_))); (case side4 => exact (Kd.R_reads' HO_222000.out).2.1); rintro e w105 ⟨rfl, hb⟩; have n0_ := Aside0.mk (Kd.R_below (by (with_reducible repeat (first | apply Kd.R_alloc | apply Kd.R_drewN | apply Kd.R_drew)); exact HO_9.out) hb); have n1_ := Aside0.mk (Kd.R_below (by (with_reducible repeat (first | apply Kd.R_alloc | apply Kd.R_drewN | apply Kd.R_drew)); exact HO_222000.out) hb); have n2_ := Aside0.mk (Kd.R_below (by (with_reducible repeat (first | apply Kd.R_alloc | apply Kd.R_drewN | apply Kd.R_drew)); exact HO_226000.out) hb); have n3_ := Aside0.mk (Kd.R_below (by (with_reducible repeat (first | apply Kd.R_alloc | apply Kd.R_drewN | apply Kd.R_drew)); exact HO_234000.out) hb); have n4_ := Aside0.mk (Kd.R_below (by (with_reducible repeat (first | apply Kd.R_alloc | apply Kd.R_drewN | apply Kd.R_drew)); exact HO237.out) hb); have n5_ := Aside0.mk (Kd.R_below (by (with_reducible repeat (first | apply Kd.R_alloc | apply Kd.R_drewN | apply Kd.R_drew)); exact HO241.out) hb); have n6_ := Aside0.mk (blk_below (g := gb209) (o := .cells #[.slice A0_0 l0_0.length c0_0] 24 (0, 0)) (by (with_reducible repeat (first | refine blk_drewN ?_ _ | refine blk_drew ?_ | refine blk_alloc ?_ _)); exact BK209.out) hb); have n7_ := Aside0.mk (blk_below (g := gb221) (o := .cells #[.slice Ao27 t217.length co27] 29 (0, 0)) (by (with_reducible repeat (first | refine blk_drewN ?_ _ | refine blk_drew ?_ | refine blk_alloc ?_ _)); exact BK221.out) hb); have n8_ := Aside0.mk (blk_below (g := gb225) (o := .cells #[.slice Ao33 t222.length co33] 29 (0, 0)) (by (with_reducible repeat (first | refine blk_drewN ?_ _ | refine blk_drew ?_ | refine blk_alloc ?_ _)); exact BK225.out) hb); have n9_ := Aside0.mk (blk_below (g := gb233) (o := .cells #[.slice Ao42 t229.length co42] 29 (0, 0)) (by (with_reducible repeat (first | refine blk_drewN ?_ _ | refine blk_drew ?_ | refine blk_alloc ?_ _)); exact BK233.out) hb); have n10_ := Aside0.mk (below_step (by repeat (first | (with_reducible first | exact HB.out | apply below_alloc | apply pw_below_drewN | apply below_drew1 | refine below_set ?_ GE209.out | refine below_set ?_ GE221.out | refine below_set ?_ GE225.out | refine below_set ?_ GE233.out) | exact HB.out)) hb); clear HO_9; clear HO_222000; clear HO_226000; clear HO_234000; clear HO237; clear HO241; clear BK209; clear BK221; clear BK225; clear BK233; clear HB; have HO_9 := n0_; have HO_222000 := n1_; have HO_226000 := n2_; have HO_234000 := n3_; have HO237 := n4_; have HO241 := n5_; have BK209 := n6_; have BK221 := n7_; have BK225 := n8_; have BK233 := n9_; have HB := n10_; clear n0_ n1_ n2_ n3_ n4_ n5_ n6_ n7_ n8_ n9_ n10_; (try clear hb); (try clear hb2); (try clear hk); (try clear hi)))
           go_meet
           case rel => exact ⟨_, (true), (by first | rfl | (simp; done) | (simp [*]; done)), H', ⟨by have := HJ15.out; first | omega | exact Nat.le_refl _⟩, ⟨by (with_reducible repeat (first | apply Kd.R_alloc | apply Kd.R_drewN | apply Kd.R_drew)); exact Kd.R_mono HO_222000.out (fun _ hk => ⟨hk.1, hk.2.1⟩)⟩, ⟨by (with_reducible repeat (first | apply Kd.R_alloc | apply Kd.R_drewN | apply Kd.R_drew)); exact Kd.R_mono HO_226000.out (fun _ hk => ⟨hk.1, hk.2.1⟩)⟩, ⟨by (with_reducible repeat (first | apply Kd.R_alloc | apply Kd.R_drewN | apply Kd.R_drew)); exact Kd.R_mono HO_234000.out (fun _ hk => ⟨hk.1, hk.2.1⟩)⟩, ⟨by (with_reducible repeat (first | refine blk_drewN ?_ _ | refine blk_drew ?_ | refine blk_alloc ?_ _)); exact BK209.out⟩, ⟨by (with_reducible repeat (first | refine blk_drewN ?_ _ | refine blk_drew ?_ | refine blk_alloc ?_ _)); exact BK221.out⟩, ⟨by (with_reducible repeat (first | refine blk_drewN ?_ _ | refine blk_drew ?_ | refine blk_alloc ?_ _)); exact BK225.out⟩, ⟨by (with_reducible repeat (first | refine blk_drewN ?_ _ | refine blk_drew ?_ | refine blk_alloc ?_ _)); exact BK233.out⟩, ⟨by repeat (first | (with_reducible first | exact HB.out | apply below_alloc | apply pw_below_drewN | apply below_drew1 | refine below_set ?_ GE209.out | refine below_set ?_ GE221.out | refine below_set ?_ GE225.out | refine below_set ?_ GE233.out) | exact HB.out)⟩⟩
        case rest =>
         clear HC74
         try clear c1
         try clear c2
         try clear p2
         try clear c3
         try clear c3b0
         try clear c3b1
         try clear c4
         try clear c5
         try clear c6
         try clear c6b0
         try clear c7
         try clear c8
         try clear c9
         try clear c10
         try clear c12
         try clear c14
         try clear c16
         try clear c25
         try clear c28
         try clear c29
         try clear c30
         try clear c31
         try clear c32
         try clear c34
         try clear c35
         try clear c43
         try clear c44
         try clear c45
         try clear c48
         try clear c49
         try clear c50
         try clear c51
         try clear c53
         try clear c54
         try clear c57
         try clear c58
         try clear c59
         try clear c61
         try clear c62
         try clear c65
         try clear c68
         try clear c71
         try clear c81
         try clear c82
         try clear c83
         try clear c87
         try clear c87b0
         try clear c89
         try clear c90
         try clear c91
         try clear c92
         try clear c94
         try clear c95
         try clear c98
         try clear c99
         try clear c100
         try clear c102
         try clear c103
         try clear hcz101_0
         try clear hcz104_0
         try clear hcz18_0
         try clear hcz20_0
         try clear hcz29_0
         try clear hcz30_0
         try clear hcz36_0
         try clear hcz38_0
         try clear hcz46_0
         try clear hcz52_0
         try clear hcz55_0
         try clear hcz60_0
         try clear hcz63_0
         try clear hcz84_0
         try clear hcz8_0
         try clear hcz93_0
         try clear hcz96_0
         try clear hfz101_0
         try clear hfz104_0
         try clear hfz18_0
         try clear hfz20_0
         try clear hfz29_0
         try clear hfz30_0
         try clear hfz36_0
         try clear hfz38_0
         try clear hfz46_0
         try clear hfz52_0
         try clear hfz55_0
         try clear hfz60_0
         try clear hfz63_0
         try clear hfz84_0
         try clear hfz8_0
         try clear hfz93_0
         try clear hfz96_0
         try clear p2
         obtain ⟨kq, x80_73, rfl, HA, HJ73, HO_222000, HO_226000, HO_234000, BK209, BK221, BK225, BK233, HB⟩ := hcut
         have hl226000_73 := (Kd.R_reads' HO_226000.out).1
         rw [hl226000_73] at HO_226000
         (try simp only [hl226000_73])
         (try simp only [hl226000_73] at BK209)
         (try simp only [hl226000_73] at BK221)
         (try simp only [hl226000_73] at BK225)
         (try simp only [hl226000_73] at BK233)
         (try simp only [hl226000_73] at HO_222000)
         (try simp only [hl226000_73] at HO_234000)
         cases kq with
         | zero => exact absurd HA.out (by simp [laws_FnExactLoseDisk.j1])
         | succ kj73 =>
          have H := HA.out
          clear HA
          simp only [laws_FnExactLoseDisk.j1] at H
          by_cases c106 : x80_73 = true
          ·
           subst c106
           have H1 : (none) = some r := by rw [if_pos rfl] at H; exact H
           clear H
           have H := H1
           clear H1
           exact absurd H (by simp)
          ·
           replace c106 := Bool.eq_false_iff.mpr c106
           subst c106
           have H1 : ((laws_markDisk.f kj73 t229 1).bind fun bt248 => ((laws_heldDisk.f kj73 bt248.2 1).bind fun t250 => (if t250 < 0 then (none) else (if t250 = bt248.1 then ((laws_toDisk.f kj73 l0_0).bind fun t251 => ((laws_toIntS.f kj73 l1).bind fun t254 => ((impl_LoseDisk.f kj73 t251 t254).bind fun bt257 => ((laws_eqDisk.f kj73 bt257.1 t217).bind fun t262 => (if t262 = true then (laws_FnExactLoseDisk.j2 kj73 bt248.1 (bt257.2 != t220) bt248.2) else (laws_FnExactLoseDisk.j2 kj73 bt248.1 true bt248.2)))))) else (none))))) = some r := by rw [if_neg (show ¬ (false = true) by decide)] at H; exact H
           clear H
           have H := H1
           clear H1
           replace H := Option.bind_eq_some_iff.mp H
           obtain ⟨⟨t248, t249⟩, A1070, H⟩ := H
           replace H : ((laws_heldDisk.f kj73 t249 1).bind fun t250 => (if t250 < 0 then (none) else (if t250 = t248 then ((laws_toDisk.f kj73 l0_0).bind fun t251 => ((laws_toIntS.f kj73 l1).bind fun t254 => ((impl_LoseDisk.f kj73 t251 t254).bind fun bt257 => ((laws_eqDisk.f kj73 bt257.1 t217).bind fun t262 => (if t262 = true then (laws_FnExactLoseDisk.j2 kj73 t248 (bt257.2 != t220) t249) else (laws_FnExactLoseDisk.j2 kj73 t248 true t249)))))) else (none)))) = some r := H
           have A107 := Aside0.mk A1070
           clear A1070
           replace H := Option.bind_eq_some_iff.mp H
           obtain ⟨t250, A1080, H⟩ := H
           replace H : (if t250 < 0 then (none) else (if t250 = t248 then ((laws_toDisk.f kj73 l0_0).bind fun t251 => ((laws_toIntS.f kj73 l1).bind fun t254 => ((impl_LoseDisk.f kj73 t251 t254).bind fun bt257 => ((laws_eqDisk.f kj73 bt257.1 t217).bind fun t262 => (if t262 = true then (laws_FnExactLoseDisk.j2 kj73 t248 (bt257.2 != t220) t249) else (laws_FnExactLoseDisk.j2 kj73 t248 true t249)))))) else (none))) = some r := H
           have A108 := Aside0.mk A1080
           clear A1080
           by_cases c109 : t250 < 0
           ·
            rw [if_pos c109] at H
            exact absurd H (by simp)
           ·
            rw [if_neg c109] at H
            have c109b0 : decide (t250 < 0) = false := decide_eq_false c109
            clear c109
            by_cases c110 : t250 = t248
            ·
             rw [if_pos c110] at H
             have c110b0 : (t250 == t248) = true := beq_iff_eq.mpr c110
             have c110b1 : (t250 != t248) = false := bne_eq_false_iff_eq.mpr c110
             clear c110
             replace H := Option.bind_eq_some_iff.mp H
             obtain ⟨t251, A1110, H⟩ := H
             replace H : ((laws_toIntS.f kj73 l1).bind fun t254 => ((impl_LoseDisk.f kj73 t251 t254).bind fun bt257 => ((laws_eqDisk.f kj73 bt257.1 t217).bind fun t262 => (if t262 = true then (laws_FnExactLoseDisk.j2 kj73 t248 (bt257.2 != t220) t249) else (laws_FnExactLoseDisk.j2 kj73 t248 true t249))))) = some r := H
             have A111 := Aside0.mk A1110
             clear A1110
             replace H := Option.bind_eq_some_iff.mp H
             obtain ⟨t254, A1120, H⟩ := H
             replace H : ((impl_LoseDisk.f kj73 t251 t254).bind fun bt257 => ((laws_eqDisk.f kj73 bt257.1 t217).bind fun t262 => (if t262 = true then (laws_FnExactLoseDisk.j2 kj73 t248 (bt257.2 != t220) t249) else (laws_FnExactLoseDisk.j2 kj73 t248 true t249)))) = some r := H
             have A112 := Aside0.mk A1120
             clear A1120
             replace H := Option.bind_eq_some_iff.mp H
             obtain ⟨⟨t257, t260⟩, A1130, H⟩ := H
             replace H : ((laws_eqDisk.f kj73 t257 t217).bind fun t262 => (if t262 = true then (laws_FnExactLoseDisk.j2 kj73 t248 (t260 != t220) t249) else (laws_FnExactLoseDisk.j2 kj73 t248 true t249))) = some r := H
             have A113 := Aside0.mk A1130
             clear A1130
             have HC114 := Aside0.mk H
             clear H
             have hnb115 := NB233_209.out
             have hnc115 := NB209_233.out
             have hnb116 := NB233_221.out
             have hnc116 := NB221_233.out
             have hnb117 := NB233_225.out
             have hnc117 := NB225_233.out
             have hcz118_0 : wc.cell? ⟨gb233, 0, none⟩ = some (.slice Ao42 t229.length co42) := (blk_cell BK233.out 0).trans rfl
             have hfz118_0 := blk_frozen BK233.out 0
             go_upto_region 31 with (first | ((with_reducible refine gate_callee (f := 31) rfl ?_); refine goesL_ (some 83) rfl rfl Try.func31 (by kernel_rfl) rfl #[.agg #[.slice Ao42 t229.length co42], .int .i64 1] rfl (by (try simp only [List.map_toArray, List.map_cons, List.map_nil]); first | done | rfl | (simp only [List.length_drop, List.length_take]; rfl)) ?_; (with_reducible refine (laws_markDisk.calls kj73 (fun k_ => some k_ = (.slice Ao42 t229.length co42 : Value).ownBlock) (.slice Ao42 t229.length co42) t229 1 t248 t249 w _ ?side1 ?side2 A107.out).mono ?_); (case side1 => repeat (first | (with_reducible first | exact HB.out | apply below_alloc | apply pw_below_drewN | apply below_drew1 | refine below_set ?_ GE209.out | refine below_set ?_ GE221.out | refine below_set ?_ GE225.out | refine below_set ?_ GE233.out) | exact HB.out)); (case side2 => exact Kd.R_tight rfl HO_234000.out); rintro e w119 ⟨rfl, hy0, hb, hkp⟩; refine ⟨_, rfl, ?_⟩; have n0_ := Aside0.mk (Kd.R_mono (ok' := fun k_ => some k_ ≠ (.slice Ao33 t244.length co33 : Value).ownBlock ∧ some k_ ≠ (.slice Ao42 t229.length co42 : Value).ownBlock) (Kd.R_keptB (HO_222000.out) hkp (fun k_ hk_ hs_ => (hk_.2) hs_)) (fun k_ hk_ => ⟨hk_.1.1, hk_.1.2⟩)); have n1_ := Aside0.mk (Kd.R_mono (ok' := fun k_ => some k_ ≠ (.slice Ao27 t217.length co27 : Value).ownBlock ∧ some k_ ≠ (.slice Ao42 t229.length co42 : Value).ownBlock) (Kd.R_keptB (HO_226000.out) hkp (fun k_ hk_ hs_ => (hk_.2) hs_)) (fun k_ hk_ => ⟨hk_.1.1, hk_.1.2⟩)); have n2_ := Aside0.mk (Kd.R_reok rfl hy0 (fun k_ e_ => HO_234000.out.1 k_ e_)); have n3_ := Aside0.mk (blk_kept (by (with_reducible repeat (first | refine blk_drewN ?_ _ | refine blk_drew ?_ | refine blk_alloc ?_ _)); exact BK209.out) hkp (fun hs_ => (fun e_ => (Kd.R_ne HO_234000.out BK209.out (by decide)) e_) hs_)); have n4_ := Aside0.mk (blk_kept (by (with_reducible repeat (first | refine blk_drewN ?_ _ | refine blk_drew ?_ | refine blk_alloc ?_ _)); exact BK221.out) hkp (fun hs_ => (fun e_ => (Kd.R_ne HO_234000.out BK221.out (by decide)) e_) hs_)); have n5_ := Aside0.mk (blk_kept (by (with_reducible repeat (first | refine blk_drewN ?_ _ | refine blk_drew ?_ | refine blk_alloc ?_ _)); exact BK225.out) hkp (fun hs_ => (fun e_ => (Kd.R_ne HO_234000.out BK225.out (by decide)) e_) hs_)); have n6_ := Aside0.mk (blk_kept (by (with_reducible repeat (first | refine blk_drewN ?_ _ | refine blk_drew ?_ | refine blk_alloc ?_ _)); exact BK233.out) hkp (fun hs_ => (fun e_ => (Kd.R_ne HO_234000.out BK233.out (by decide)) e_) hs_)); have n7_ := Aside0.mk (hb); clear HO_222000; clear HO_226000; clear HO_234000; clear BK209; clear BK221; clear BK225; clear BK233; clear HB; have HO_222000 := n0_; have HO_226000 := n1_; have HO_234000 := n2_; have BK209 := n3_; have BK221 := n4_; have BK225 := n5_; have BK233 := n6_; have HB := n7_; clear n0_ n1_ n2_ n3_ n4_ n5_ n6_ n7_; (try clear hb); (try clear hkp); (try clear hy0); have hcz120_0 : w119.cell? ⟨gb233, 0, none⟩ = some (.slice Ao42 t229.length co42) := (blk_cell BK233.out 0).trans rfl; have hfz120_0 := blk_frozen BK233.out 0) | ((with_reducible refine gate_callee (f := 33) rfl ?_); refine goesL_ (some 86) rfl rfl Try.func33 (by kernel_rfl) rfl #[.agg #[.slice Ao42 t249.length co42], .int .i64 1] rfl (by (try simp only [List.map_toArray, List.map_cons, List.map_nil]); first | done | (rw [show t249.length = t229.length from (Kd.R_reads' HO_234000.out).1.symm] <;> rfl) | rfl | (simp only [List.length_drop, List.length_take]; rfl)) ?_; (with_reducible refine (laws_heldDisk.calls kj73 _ _ t249 1 t250 _ ?side1 ?side2 A108.out).mono ?_); (case side1 => repeat (first | exact (Kd.R_reads' HO_234000.out).2.2 | (with_reducible refine Kd.C_alloc ?_ _) | (with_reducible refine Kd.C_drewN ?_ _) | (with_reducible refine Kd.C_drew ?_))); (case side2 => rw [show t249.length = t229.length from (Kd.R_reads' HO_234000.out).1.symm]; exact (Kd.R_reads' HO_234000.out).2.1); rintro e w121 ⟨rfl, hb⟩; refine ⟨_, rfl, ?_⟩; have n0_ := Aside0.mk (Kd.R_below (by (with_reducible repeat (first | apply Kd.R_alloc | apply Kd.R_drewN | apply Kd.R_drew)); exact HO_222000.out) hb); have n1_ := Aside0.mk (Kd.R_below (by (with_reducible repeat (first | apply Kd.R_alloc | apply Kd.R_drewN | apply Kd.R_drew)); exact HO_226000.out) hb); have n2_ := Aside0.mk (Kd.R_below (by (with_reducible repeat (first | apply Kd.R_alloc | apply Kd.R_drewN | apply Kd.R_drew)); exact HO_234000.out) hb); have n3_ := Aside0.mk (blk_below (g := gb209) (o := .cells #[.slice A0_0 l0_0.length c0_0] 24 (0, 0)) (by (with_reducible repeat (first | refine blk_drewN ?_ _ | refine blk_drew ?_ | refine blk_alloc ?_ _)); exact BK209.out) hb); have n4_ := Aside0.mk (blk_below (g := gb221) (o := .cells #[.slice Ao27 t217.length co27] 29 (0, 0)) (by (with_reducible repeat (first | refine blk_drewN ?_ _ | refine blk_drew ?_ | refine blk_alloc ?_ _)); exact BK221.out) hb); have n5_ := Aside0.mk (blk_below (g := gb225) (o := .cells #[.slice Ao33 t244.length co33] 29 (0, 0)) (by (with_reducible repeat (first | refine blk_drewN ?_ _ | refine blk_drew ?_ | refine blk_alloc ?_ _)); exact BK225.out) hb); have n6_ := Aside0.mk (blk_below (g := gb233) (o := .cells #[.slice Ao42 t229.length co42] 29 (0, 0)) (by (with_reducible repeat (first | refine blk_drewN ?_ _ | refine blk_drew ?_ | refine blk_alloc ?_ _)); exact BK233.out) hb); have n7_ := Aside0.mk (below_step (by repeat (first | (with_reducible first | exact HB.out | apply below_alloc | apply pw_below_drewN | apply below_drew1 | refine below_set ?_ GE209.out | refine below_set ?_ GE221.out | refine below_set ?_ GE225.out | refine below_set ?_ GE233.out) | exact HB.out)) hb); clear HO_222000; clear HO_226000; clear HO_234000; clear BK209; clear BK221; clear BK225; clear BK233; clear HB; have HO_222000 := n0_; have HO_226000 := n1_; have HO_234000 := n2_; have BK209 := n3_; have BK221 := n4_; have BK225 := n5_; have BK233 := n6_; have HB := n7_; clear n0_ n1_ n2_ n3_ n4_ n5_ n6_ n7_; (try clear hb); (try clear hb2); (try clear hk); (try clear hi); have hnb122 := NB209_221.out; have hnc122 := NB221_209.out; have hnb123 := NB209_225.out; have hnc123 := NB225_209.out; have hcz124_0 : w121.cell? ⟨gb209, 0, none⟩ = some (.slice A0_0 l0_0.length c0_0) := (blk_cell BK209.out 0).trans rfl; have hfz124_0 := blk_frozen BK209.out 0) | ((with_reducible refine gate_callee (f := 14) rfl ?_); refine goesL_ (some 94) rfl rfl Try.func14 (by kernel_rfl) rfl #[.agg #[.slice A0_0 l0_0.length c0_0]] rfl (by (try simp only [List.map_toArray, List.map_cons, List.map_nil]); first | done | rfl | (simp only [List.length_drop, List.length_take]; rfl)) ?_; (with_reducible refine (laws_toDisk.calls kj73 _ _ l0_0 t251 _ ?side1 ?side2 A111.out).mono ?_); (case side1 => repeat (first | exact (Kd.C_below HR0_0.out HB.out) | (with_reducible refine Kd.C_alloc ?_ _) | (with_reducible refine Kd.C_drewN ?_ _) | (with_reducible refine Kd.C_drew ?_))); (case side2 => exact HC0_0.out); rintro e w125 ⟨v252, rfl, ho0, hb⟩; refine ⟨_, rfl, ?_⟩; have n0_ := Aside0.mk (Kd.R_elder' (by (with_reducible repeat (first | apply Kd.R_alloc | apply Kd.R_drewN | apply Kd.R_drew)); exact HO_222000.out) (Kd.R_base ho0) hb); have n1_ := Aside0.mk (Kd.R_elder' (by (with_reducible repeat (first | apply Kd.R_alloc | apply Kd.R_drewN | apply Kd.R_drew)); exact HO_226000.out) (Kd.R_base ho0) hb); have n2_ := Aside0.mk (Kd.R_elder' (by (with_reducible repeat (first | apply Kd.R_alloc | apply Kd.R_drewN | apply Kd.R_drew)); exact HO_234000.out) (Kd.R_base ho0) hb); have n3_ := Aside0.mk (Kd.R_lower (Kd.R_new' (Kd.R_new' (Kd.R_new' ho0 (Kd.R_lt (by (with_reducible repeat (first | apply Kd.R_alloc | apply Kd.R_drewN | apply Kd.R_drew)); exact HO_222000.out))) (Kd.R_lt (by (with_reducible repeat (first | apply Kd.R_alloc | apply Kd.R_drewN | apply Kd.R_drew)); exact HO_226000.out))) (Kd.R_lt (by (with_reducible repeat (first | apply Kd.R_alloc | apply Kd.R_drewN | apply Kd.R_drew)); exact HO_234000.out))) (below_size (by repeat (first | (with_reducible first | exact HB.out | apply below_alloc | apply pw_below_drewN | apply below_drew1 | refine below_set ?_ GE209.out | refine below_set ?_ GE221.out | refine below_set ?_ GE225.out | refine below_set ?_ GE233.out) | exact HB.out)))); have n4_ := Aside0.mk (blk_below (g := gb209) (o := .cells #[.slice A0_0 l0_0.length c0_0] 24 (0, 0)) (by (with_reducible repeat (first | refine blk_drewN ?_ _ | refine blk_drew ?_ | refine blk_alloc ?_ _)); exact BK209.out) hb); have n5_ := Aside0.mk (blk_below (g := gb221) (o := .cells #[.slice Ao27 t217.length co27] 29 (0, 0)) (by (with_reducible repeat (first | refine blk_drewN ?_ _ | refine blk_drew ?_ | refine blk_alloc ?_ _)); exact BK221.out) hb); have n6_ := Aside0.mk (blk_below (g := gb225) (o := .cells #[.slice Ao33 t244.length co33] 29 (0, 0)) (by (with_reducible repeat (first | refine blk_drewN ?_ _ | refine blk_drew ?_ | refine blk_alloc ?_ _)); exact BK225.out) hb); have n7_ := Aside0.mk (blk_below (g := gb233) (o := .cells #[.slice Ao42 t229.length co42] 29 (0, 0)) (by (with_reducible repeat (first | refine blk_drewN ?_ _ | refine blk_drew ?_ | refine blk_alloc ?_ _)); exact BK233.out) hb); have n8_ := Aside0.mk (below_step (by repeat (first | (with_reducible first | exact HB.out | apply below_alloc | apply pw_below_drewN | apply below_drew1 | refine below_set ?_ GE209.out | refine below_set ?_ GE221.out | refine below_set ?_ GE225.out | refine below_set ?_ GE233.out) | exact HB.out)) hb); clear HO_222000; clear HO_226000; clear HO_234000; clear BK209; clear BK221; clear BK225; clear BK233; clear HB; have HO_222000 := n0_; have HO_226000 := n1_; have HO_234000 := n2_; have HO253 := n3_; have BK209 := n4_; have BK221 := n5_; have BK225 := n6_; have BK233 := n7_; have HB := n8_; clear n0_ n1_ n2_ n3_ n4_ n5_ n6_ n7_ n8_; (try clear hb); (try clear hb2); (try clear hk); (try clear hi); (try clear ho0)) | ((with_reducible refine gate_callee (f := 29) rfl ?_); refine goesL_ (some 96) rfl rfl Try.func29 (by kernel_rfl) rfl #[.slice A1 l1.length c1] rfl (by (try simp only [List.map_toArray, List.map_cons, List.map_nil]); first | done | rfl | (simp only [List.length_drop, List.length_take]; rfl)) ?_; (with_reducible refine (laws_toIntS.calls kj73 _ _ l1 t254 _ ?side1 ?side2 A112.out).mono ?_); (case side1 => repeat (first | exact (Kd.C_below HR1.out HB.out) | (with_reducible refine Kd.C_alloc ?_ _) | (with_reducible refine Kd.C_drewN ?_ _) | (with_reducible refine Kd.C_drew ?_))); (case side2 => exact HC1.out); rintro e w126 ⟨v255, rfl, ho0, hb⟩; refine ⟨_, rfl, ?_⟩; have n0_ := Aside0.mk (Kd.R_below (by (with_reducible repeat (first | apply Kd.R_alloc | apply Kd.R_drewN | apply Kd.R_drew)); exact HO_222000.out) hb); have n1_ := Aside0.mk (Kd.R_below (by (with_reducible repeat (first | apply Kd.R_alloc | apply Kd.R_drewN | apply Kd.R_drew)); exact HO_226000.out) hb); have n2_ := Aside0.mk (Kd.R_below (by (with_reducible repeat (first | apply Kd.R_alloc | apply Kd.R_drewN | apply Kd.R_drew)); exact HO_234000.out) hb); have n3_ := Aside0.mk (Kd.R_below (by (with_reducible repeat (first | apply Kd.R_alloc | apply Kd.R_drewN | apply Kd.R_drew)); exact HO253.out) hb); have n4_ := Aside0.mk (Kd.R_lower ho0 (below_size (by repeat (first | (with_reducible first | exact HB.out | apply below_alloc | apply pw_below_drewN | apply below_drew1 | refine below_set ?_ GE209.out | refine below_set ?_ GE221.out | refine below_set ?_ GE225.out | refine below_set ?_ GE233.out) | exact HB.out)))); have n5_ := Aside0.mk (blk_below (g := gb209) (o := .cells #[.slice A0_0 l0_0.length c0_0] 24 (0, 0)) (by (with_reducible repeat (first | refine blk_drewN ?_ _ | refine blk_drew ?_ | refine blk_alloc ?_ _)); exact BK209.out) hb); have n6_ := Aside0.mk (blk_below (g := gb221) (o := .cells #[.slice Ao27 t217.length co27] 29 (0, 0)) (by (with_reducible repeat (first | refine blk_drewN ?_ _ | refine blk_drew ?_ | refine blk_alloc ?_ _)); exact BK221.out) hb); have n7_ := Aside0.mk (blk_below (g := gb225) (o := .cells #[.slice Ao33 t244.length co33] 29 (0, 0)) (by (with_reducible repeat (first | refine blk_drewN ?_ _ | refine blk_drew ?_ | refine blk_alloc ?_ _)); exact BK225.out) hb); have n8_ := Aside0.mk (blk_below (g := gb233) (o := .cells #[.slice Ao42 t229.length co42] 29 (0, 0)) (by (with_reducible repeat (first | refine blk_drewN ?_ _ | refine blk_drew ?_ | refine blk_alloc ?_ _)); exact BK233.out) hb); have n9_ := Aside0.mk (below_step (by repeat (first | (with_reducible first | exact HB.out | apply below_alloc | apply pw_below_drewN | apply below_drew1 | refine below_set ?_ GE209.out | refine below_set ?_ GE221.out | refine below_set ?_ GE225.out | refine below_set ?_ GE233.out) | exact HB.out)) hb); clear HO_222000; clear HO_226000; clear HO_234000; clear HO253; clear BK209; clear BK221; clear BK225; clear BK233; clear HB; have HO_222000 := n0_; have HO_226000 := n1_; have HO_234000 := n2_; have HO253 := n3_; have HO256 := n4_; have BK209 := n5_; have BK221 := n6_; have BK225 := n7_; have BK233 := n8_; have HB := n9_; clear n0_ n1_ n2_ n3_ n4_ n5_ n6_ n7_ n8_ n9_; (try clear hb); (try clear hb2); (try clear hk); (try clear hi); (try clear ho0); obtain ⟨Ao127, co127, eo127⟩ := Kd.R_slice HO253.out; subst eo127; obtain ⟨Ao128, co128, eo128⟩ := Kd.R_slice HO256.out; subst eo128) | ((with_reducible refine gate_callee (f := 25) rfl ?_); refine goesL_ (some 97) rfl rfl Try.func25 (by kernel_rfl) rfl #[.agg #[.slice Ao127 t251.length co127], .slice Ao128 t254.length co128] rfl (by (try simp only [List.map_toArray, List.map_cons, List.map_nil]); first | done | rfl | (simp only [List.length_drop, List.length_take]; rfl)) ?_; (with_reducible refine (impl_LoseDisk.calls kj73 _ _ t251 _ _ t254 t257 t260 _ ?side1 ?side2 ?side3 ?side4 A113.out).mono ?_); (case side1 => repeat (first | exact (Kd.R_reads' HO253.out).2.2 | (with_reducible refine Kd.C_alloc ?_ _) | (with_reducible refine Kd.C_drewN ?_ _) | (with_reducible refine Kd.C_drew ?_))); (case side2 => exact (Kd.R_reads' HO253.out).2.1); (case side3 => repeat (first | exact (Kd.R_reads' HO256.out).2.2 | (with_reducible refine Kd.C_alloc ?_ _) | (with_reducible refine Kd.C_drewN ?_ _) | (with_reducible refine Kd.C_drew ?_))); (case side4 => exact (Kd.R_reads' HO256.out).2.1); rintro e w129 ⟨v258, rfl, ho0, hb⟩; refine ⟨_, rfl, ?_⟩; have n0_ := Aside0.mk (Kd.R_elder' (by (with_reducible repeat (first | apply Kd.R_alloc | apply Kd.R_drewN | apply Kd.R_drew)); exact HO_222000.out) (Kd.R_base ho0) hb); have n1_ := Aside0.mk (Kd.R_elder' (by (with_reducible repeat (first | apply Kd.R_alloc | apply Kd.R_drewN | apply Kd.R_drew)); exact HO_226000.out) (Kd.R_base ho0) hb); have n2_ := Aside0.mk (Kd.R_elder' (by (with_reducible repeat (first | apply Kd.R_alloc | apply Kd.R_drewN | apply Kd.R_drew)); exact HO_234000.out) (Kd.R_base ho0) hb); have n3_ := Aside0.mk (Kd.R_elder' (by (with_reducible repeat (first | apply Kd.R_alloc | apply Kd.R_drewN | apply Kd.R_drew)); exact HO253.out) (Kd.R_base ho0) hb); have n4_ := Aside0.mk (Kd.R_below (by (with_reducible repeat (first | apply Kd.R_alloc | apply Kd.R_drewN | apply Kd.R_drew)); exact HO256.out) hb); have n5_ := Aside0.mk (Kd.R_lower (Kd.R_new' (Kd.R_new' (Kd.R_new' (Kd.R_new' ho0 (Kd.R_lt (by (with_reducible repeat (first | apply Kd.R_alloc | apply Kd.R_drewN | apply Kd.R_drew)); exact HO_222000.out))) (Kd.R_lt (by (with_reducible repeat (first | apply Kd.R_alloc | apply Kd.R_drewN | apply Kd.R_drew)); exact HO_226000.out))) (Kd.R_lt (by (with_reducible repeat (first | apply Kd.R_alloc | apply Kd.R_drewN | apply Kd.R_drew)); exact HO_234000.out))) (Kd.R_lt (by (with_reducible repeat (first | apply Kd.R_alloc | apply Kd.R_drewN | apply Kd.R_drew)); exact HO253.out))) (below_size (by repeat (first | (with_reducible first | exact HB.out | apply below_alloc | apply pw_below_drewN | apply below_drew1 | refine below_set ?_ GE209.out | refine below_set ?_ GE221.out | refine below_set ?_ GE225.out | refine below_set ?_ GE233.out) | exact HB.out)))); have n6_ := Aside0.mk (blk_below (g := gb209) (o := .cells #[.slice A0_0 l0_0.length c0_0] 24 (0, 0)) (by (with_reducible repeat (first | refine blk_drewN ?_ _ | refine blk_drew ?_ | refine blk_alloc ?_ _)); exact BK209.out) hb); have n7_ := Aside0.mk (blk_below (g := gb221) (o := .cells #[.slice Ao27 t217.length co27] 29 (0, 0)) (by (with_reducible repeat (first | refine blk_drewN ?_ _ | refine blk_drew ?_ | refine blk_alloc ?_ _)); exact BK221.out) hb); have n8_ := Aside0.mk (blk_below (g := gb225) (o := .cells #[.slice Ao33 t244.length co33] 29 (0, 0)) (by (with_reducible repeat (first | refine blk_drewN ?_ _ | refine blk_drew ?_ | refine blk_alloc ?_ _)); exact BK225.out) hb); have n9_ := Aside0.mk (blk_below (g := gb233) (o := .cells #[.slice Ao42 t229.length co42] 29 (0, 0)) (by (with_reducible repeat (first | refine blk_drewN ?_ _ | refine blk_drew ?_ | refine blk_alloc ?_ _)); exact BK233.out) hb); have n10_ := Aside0.mk (below_step (by repeat (first | (with_reducible first | exact HB.out | apply below_alloc | apply pw_below_drewN | apply below_drew1 | refine below_set ?_ GE209.out | refine below_set ?_ GE221.out | refine below_set ?_ GE225.out | refine below_set ?_ GE233.out) | exact HB.out)) hb); clear HO_222000; clear HO_226000; clear HO_234000; clear HO253; clear HO256; clear BK209; clear BK221; clear BK225; clear BK233; clear HB; have HO_222000 := n0_; have HO_226000 := n1_; have HO_234000 := n2_; have HO253 := n3_; have HO256 := n4_; have HO259 := n5_; have BK209 := n6_; have BK221 := n7_; have BK225 := n8_; have BK233 := n9_; have HB := n10_; clear n0_ n1_ n2_ n3_ n4_ n5_ n6_ n7_ n8_ n9_ n10_; (try clear hb); (try clear hb2); (try clear hk); (try clear hi); (try clear ho0)) | ((with_reducible refine gate_dst (N := 15) rfl ?_); refine box_event ?hg (N := 15) ?hd (cs := #[.slice none 0 0]) (t := 29) ?hr ?_; (case hd => rfl); (case hg => rfl); (case hr => first | (go_simp; done) | (go_simp; rfl)); intro gb261 hg w130 hbox hb; have n0_ := Aside0.mk (Kd.R_below (by (with_reducible repeat (first | apply Kd.R_alloc | apply Kd.R_drewN | apply Kd.R_drew)); exact HO_222000.out) hb); have n1_ := Aside0.mk (Kd.R_below (by (with_reducible repeat (first | apply Kd.R_alloc | apply Kd.R_drewN | apply Kd.R_drew)); exact HO_226000.out) hb); have n2_ := Aside0.mk (Kd.R_below (by (with_reducible repeat (first | apply Kd.R_alloc | apply Kd.R_drewN | apply Kd.R_drew)); exact HO_234000.out) hb); have n3_ := Aside0.mk (Kd.R_below (by (with_reducible repeat (first | apply Kd.R_alloc | apply Kd.R_drewN | apply Kd.R_drew)); exact HO253.out) hb); have n4_ := Aside0.mk (Kd.R_below (by (with_reducible repeat (first | apply Kd.R_alloc | apply Kd.R_drewN | apply Kd.R_drew)); exact HO256.out) hb); have n5_ := Aside0.mk (Kd.R_below (by (with_reducible repeat (first | apply Kd.R_alloc | apply Kd.R_drewN | apply Kd.R_drew)); exact HO259.out) hb); have n6_ := Aside0.mk (blk_below (g := gb209) (o := .cells #[.slice A0_0 l0_0.length c0_0] 24 (0, 0)) (by (with_reducible repeat (first | refine blk_drewN ?_ _ | refine blk_drew ?_ | refine blk_alloc ?_ _)); exact BK209.out) hb); have n7_ := Aside0.mk (blk_below (g := gb221) (o := .cells #[.slice Ao27 t217.length co27] 29 (0, 0)) (by (with_reducible repeat (first | refine blk_drewN ?_ _ | refine blk_drew ?_ | refine blk_alloc ?_ _)); exact BK221.out) hb); have n8_ := Aside0.mk (blk_below (g := gb225) (o := .cells #[.slice Ao33 t244.length co33] 29 (0, 0)) (by (with_reducible repeat (first | refine blk_drewN ?_ _ | refine blk_drew ?_ | refine blk_alloc ?_ _)); exact BK225.out) hb); have n9_ := Aside0.mk (blk_below (g := gb233) (o := .cells #[.slice Ao42 t229.length co42] 29 (0, 0)) (by (with_reducible repeat (first | refine blk_drewN ?_ _ | refine blk_drew ?_ | refine blk_alloc ?_ _)); exact BK233.out) hb); have n10_ := Aside0.mk (below_step (by repeat (first | (with_reducible first | exact HB.out | apply below_alloc | apply pw_below_drewN | apply below_drew1 | refine below_set ?_ GE209.out | refine below_set ?_ GE221.out | refine below_set ?_ GE225.out | refine below_set ?_ GE233.out) | exact HB.out)) hb); have n11_ := Aside0.mk (hbox); have n12_ := Aside0.mk ((by rw [hg]; exact (below_size (by repeat (first | (with_reducible first | exact HB.out | apply below_alloc | apply pw_below_drewN | apply below_drew1 | refine below_set ?_ GE209.out | refine below_set ?_ GE221.out | refine below_set ?_ GE225.out | refine below_set ?_ GE233.out) | exact HB.out))) : w.heap.size ≤ gb261)); have n13_ := Aside0.mk ((by rw [hg]; exact (below_size (by repeat (first | (with_reducible first | exact HB.out | apply below_alloc | apply pw_below_drewN | apply below_drew1 | refine below_set ?_ GE209.out | refine below_set ?_ GE221.out | refine below_set ?_ GE225.out | refine below_set ?_ GE233.out) | exact HB.out))) : w.heap.size ≤ gb261)); have n14_ := Aside0.mk ((by rw [hg]; exact Nat.ne_of_lt (blk_lt (g := gb209) (o := .cells #[.slice A0_0 l0_0.length c0_0] 24 (0, 0)) (by (with_reducible repeat (first | refine blk_drewN ?_ _ | refine blk_drew ?_ | refine blk_alloc ?_ _)); exact BK209.out)) : gb209 ≠ gb261)); have n15_ := Aside0.mk ((by rw [hg]; exact Nat.ne_of_gt (blk_lt (g := gb209) (o := .cells #[.slice A0_0 l0_0.length c0_0] 24 (0, 0)) (by (with_reducible repeat (first | refine blk_drewN ?_ _ | refine blk_drew ?_ | refine blk_alloc ?_ _)); exact BK209.out)) : gb261 ≠ gb209)); have n16_ := Aside0.mk ((by rw [hg]; exact Nat.ne_of_lt (blk_lt (g := gb221) (o := .cells #[.slice Ao27 t217.length co27] 29 (0, 0)) (by (with_reducible repeat (first | refine blk_drewN ?_ _ | refine blk_drew ?_ | refine blk_alloc ?_ _)); exact BK221.out)) : gb221 ≠ gb261)); have n17_ := Aside0.mk ((by rw [hg]; exact Nat.ne_of_gt (blk_lt (g := gb221) (o := .cells #[.slice Ao27 t217.length co27] 29 (0, 0)) (by (with_reducible repeat (first | refine blk_drewN ?_ _ | refine blk_drew ?_ | refine blk_alloc ?_ _)); exact BK221.out)) : gb261 ≠ gb221)); have n18_ := Aside0.mk ((by rw [hg]; exact Nat.ne_of_lt (blk_lt (g := gb225) (o := .cells #[.slice Ao33 t244.length co33] 29 (0, 0)) (by (with_reducible repeat (first | refine blk_drewN ?_ _ | refine blk_drew ?_ | refine blk_alloc ?_ _)); exact BK225.out)) : gb225 ≠ gb261)); have n19_ := Aside0.mk ((by rw [hg]; exact Nat.ne_of_gt (blk_lt (g := gb225) (o := .cells #[.slice Ao33 t244.length co33] 29 (0, 0)) (by (with_reducible repeat (first | refine blk_drewN ?_ _ | refine blk_drew ?_ | refine blk_alloc ?_ _)); exact BK225.out)) : gb261 ≠ gb225)); have n20_ := Aside0.mk ((by rw [hg]; exact Nat.ne_of_lt (blk_lt (g := gb233) (o := .cells #[.slice Ao42 t229.length co42] 29 (0, 0)) (by (with_reducible repeat (first | refine blk_drewN ?_ _ | refine blk_drew ?_ | refine blk_alloc ?_ _)); exact BK233.out)) : gb233 ≠ gb261)); have n21_ := Aside0.mk ((by rw [hg]; exact Nat.ne_of_gt (blk_lt (g := gb233) (o := .cells #[.slice Ao42 t229.length co42] 29 (0, 0)) (by (with_reducible repeat (first | refine blk_drewN ?_ _ | refine blk_drew ?_ | refine blk_alloc ?_ _)); exact BK233.out)) : gb261 ≠ gb233)); clear HO_222000; clear HO_226000; clear HO_234000; clear HO253; clear HO256; clear HO259; clear BK209; clear BK221; clear BK225; clear BK233; clear HB; have HO_222000 := n0_; have HO_226000 := n1_; have HO_234000 := n2_; have HO253 := n3_; have HO256 := n4_; have HO259 := n5_; have BK209 := n6_; have BK221 := n7_; have BK225 := n8_; have BK233 := n9_; have HB := n10_; have BK261 := n11_; have GW261 := n12_; have GE261 := n13_; have NB209_261 := n14_; have NB261_209 := n15_; have NB221_261 := n16_; have NB261_221 := n17_; have NB225_261 := n18_; have NB261_225 := n19_; have NB233_261 := n20_; have NB261_233 := n21_; clear n0_ n1_ n2_ n3_ n4_ n5_ n6_ n7_ n8_ n9_ n10_ n11_ n12_ n13_ n14_ n15_ n16_ n17_ n18_ n19_ n20_ n21_; clear hb hbox hg; obtain ⟨Ao131, co131, eo131⟩ := Kd.R_slice HO259.out; subst eo131; have hnb132 := NB261_209.out; have hnc132 := NB209_261.out; have hnb133 := NB261_221.out; have hnc133 := NB221_261.out; have hnb134 := NB261_225.out; have hnc134 := NB225_261.out; have hnb135 := NB261_233.out; have hnc135 := NB233_261.out; have hcz136_0 : w130.cell? ⟨gb261, 0, none⟩ = some (.slice none 0 0) := (blk_cell BK261.out 0).trans rfl; have hfz136_0 := blk_frozen BK261.out 0))
             (try simp only [Act.put, List.setIfInBounds_toArray, List.set_cons_zero, List.set_cons_succ])
             go_cut [108] (fun v108 wc => ∃ (kq : Nat) (x108_113 : Bool), v108 = .bool x108_113 ∧ Aside0 (laws_FnExactLoseDisk.j2 kq t248 x108_113 t249 = some r) ∧ Aside0 (kq ≤ kj73) ∧ Aside0 (Kd.R k45 45 wc w.heap.size (fun k_ => some k_ ≠ ((.slice Ao33 t244.length co33) : Value).ownBlock ∧ some k_ ≠ ((.slice Ao42 t229.length co42) : Value).ownBlock ∧ some k_ ≠ ((.slice Ao131 t257.length co131) : Value).ownBlock) (.slice Ao27 t217.length co27) t217) ∧ Aside0 (Kd.R k45 45 wc w.heap.size (fun k_ => some k_ ≠ ((.slice Ao27 t217.length co27) : Value).ownBlock ∧ some k_ ≠ ((.slice Ao42 t229.length co42) : Value).ownBlock ∧ some k_ ≠ ((.slice Ao131 t257.length co131) : Value).ownBlock) (.slice Ao33 t244.length co33) t244) ∧ Aside0 (Kd.R k45 45 wc w.heap.size (fun k_ => some k_ ≠ ((.slice Ao27 t217.length co27) : Value).ownBlock ∧ some k_ ≠ ((.slice Ao33 t244.length co33) : Value).ownBlock ∧ some k_ ≠ ((.slice Ao131 t257.length co131) : Value).ownBlock) (.slice Ao42 t229.length co42) t249) ∧ Aside0 (Kd.R k45 45 wc w.heap.size (fun k_ => some k_ ≠ ((.slice Ao27 t217.length co27) : Value).ownBlock ∧ some k_ ≠ ((.slice Ao33 t244.length co33) : Value).ownBlock ∧ some k_ ≠ ((.slice Ao42 t229.length co42) : Value).ownBlock) (.slice Ao131 t257.length co131) t257) ∧ Aside0 (wc.heap[gb209]? = some (.cells #[(.slice A0_0 l0_0.length c0_0)] 24 (0, 0))) ∧ Aside0 (wc.heap[gb221]? = some (.cells #[(.slice Ao27 t217.length co27)] 29 (0, 0))) ∧ Aside0 (wc.heap[gb225]? = some (.cells #[(.slice Ao33 t244.length co33)] 29 (0, 0))) ∧ Aside0 (wc.heap[gb233]? = some (.cells #[(.slice Ao42 t229.length co42)] 29 (0, 0))) ∧ Aside0 (wc.heap[gb261]? = some (.cells #[(.slice Ao131 t257.length co131)] 29 (0, 0))) ∧ Aside0 (Below w.heap.size w wc))
             case first =>
              have H := HC114.out
              clear HC114
              replace H := Option.bind_eq_some_iff.mp H
              obtain ⟨t262, A1370, H⟩ := H
              replace H : (if t262 = true then (laws_FnExactLoseDisk.j2 kj73 t248 (t260 != t220) t249) else (laws_FnExactLoseDisk.j2 kj73 t248 true t249)) = some r := H
              have A137 := Aside0.mk A1370
              clear A1370
              by_cases c138 : t262 = true
              ·
               subst c138
               have H1 : (laws_FnExactLoseDisk.j2 kj73 t248 (t260 != t220) t249) = some r := by rw [if_pos rfl] at H; exact H
               clear H
               have H := H1
               clear H1
               have H' := Aside0.mk H
               clear H
               have hnb139 := NB261_209.out
               have hnc139 := NB209_261.out
               have hnb140 := NB261_221.out
               have hnc140 := NB221_261.out
               have hnb141 := NB261_225.out
               have hnc141 := NB225_261.out
               have hnb142 := NB261_233.out
               have hnc142 := NB233_261.out
               have hcz143_0 : w130.cell? ⟨gb261, 0, none⟩ = some (.slice none 0 0) := (blk_cell BK261.out 0).trans rfl
               have hfz143_0 := blk_frozen BK261.out 0
               have hnb144 := NB221_209.out
               have hnc144 := NB209_221.out
               have hnb145 := NB221_225.out
               have hnc145 := NB225_221.out
               have hnb146 := NB221_233.out
               have hnc146 := NB233_221.out
               have hcz147_0 : w130.cell? ⟨gb221, 0, none⟩ = some (.slice Ao27 t217.length co27) := (blk_cell BK221.out 0).trans rfl
               have hfz147_0 := blk_frozen BK221.out 0
               go_wp2_with (first | ((with_reducible refine gate_callee (f := 16) rfl ?_); refine goesL_ (some 102) rfl rfl Try.func16 (by kernel_rfl) rfl #[.agg #[.slice Ao131 t257.length co131], .agg #[.slice Ao27 t217.length co27]] rfl (by (try simp only [List.map_toArray, List.map_cons, List.map_nil]); first | done | rfl | (simp only [List.length_drop, List.length_take]; rfl)) ?_; (with_reducible refine (laws_eqDisk.calls kj73 _ _ t257 _ _ t217 true _ ?side1 ?side2 ?side3 ?side4 A137.out).mono ?_); (case side1 => refine (Kd.R_reads' (e := 45) (base := w.heap.size) (ok := fun k_ => ((((True ∧ some k_ ≠ (.slice Ao27 t217.length co27 : Value).ownBlock) ∧ some k_ ≠ (.slice Ao33 t244.length co33 : Value).ownBlock) ∧ some k_ ≠ (.slice Ao42 t229.length co42 : Value).ownBlock) ∧ some k_ ≠ (.slice Ao127 t251.length co127 : Value).ownBlock)) (n := t257.length) (c := co131) ?_).2.2; exact (by (with_reducible repeat (first | apply Kd.R_alloc | apply Kd.R_drewN | apply Kd.R_drew)); exact (Kd.R_mono (Kd.R_far (p := ⟨gb261, 0, none⟩) (Kd.R_types HO259.out BK261.out (by decide)) (fun _ hk => hk.2) (.slice Ao131 t257.length co131)) (fun _ h_ => h_.1)))); (case side2 => exact (Kd.R_reads' HO259.out).2.1); (case side3 => refine (Kd.R_reads' (e := 45) (base := w.heap.size) (ok := fun k_ => (((some k_ ≠ (.slice Ao33 t244.length co33 : Value).ownBlock ∧ some k_ ≠ (.slice Ao42 t229.length co42 : Value).ownBlock) ∧ some k_ ≠ (.slice Ao127 t251.length co127 : Value).ownBlock) ∧ some k_ ≠ (.slice Ao131 t257.length co131 : Value).ownBlock)) (n := t217.length) (c := co27) ?_).2.2; exact (by (with_reducible repeat (first | apply Kd.R_alloc | apply Kd.R_drewN | apply Kd.R_drew)); exact (Kd.R_mono (Kd.R_far (p := ⟨gb261, 0, none⟩) (Kd.R_types HO_222000.out BK261.out (by decide)) (fun _ hk => hk.2) (.slice Ao131 t257.length co131)) (fun _ h_ => h_.1)))); (case side4 => exact (Kd.R_reads' HO_222000.out).2.1); rintro e w148 ⟨rfl, hb⟩; refine ⟨_, rfl, ?_⟩; have n0_ := Aside0.mk (Kd.R_below (by (with_reducible repeat (first | apply Kd.R_alloc | apply Kd.R_drewN | apply Kd.R_drew)); exact (Kd.R_mono (Kd.R_far (p := ⟨gb261, 0, none⟩) (Kd.R_types HO_222000.out BK261.out (by decide)) (fun _ hk => hk.2) (.slice Ao131 t257.length co131)) (fun _ h_ => h_.1))) hb); have n1_ := Aside0.mk (Kd.R_below (by (with_reducible repeat (first | apply Kd.R_alloc | apply Kd.R_drewN | apply Kd.R_drew)); exact (Kd.R_mono (Kd.R_far (p := ⟨gb261, 0, none⟩) (Kd.R_types HO_226000.out BK261.out (by decide)) (fun _ hk => hk.2) (.slice Ao131 t257.length co131)) (fun _ h_ => h_.1))) hb); have n2_ := Aside0.mk (Kd.R_below (by (with_reducible repeat (first | apply Kd.R_alloc | apply Kd.R_drewN | apply Kd.R_drew)); exact (Kd.R_mono (Kd.R_far (p := ⟨gb261, 0, none⟩) (Kd.R_types HO_234000.out BK261.out (by decide)) (fun _ hk => hk.2) (.slice Ao131 t257.length co131)) (fun _ h_ => h_.1))) hb); have n3_ := Aside0.mk (Kd.R_below (by (with_reducible repeat (first | apply Kd.R_alloc | apply Kd.R_drewN | apply Kd.R_drew)); exact (Kd.R_mono (Kd.R_far (p := ⟨gb261, 0, none⟩) (Kd.R_types HO253.out BK261.out (by decide)) (fun _ hk => hk.2) (.slice Ao131 t257.length co131)) (fun _ h_ => h_.1))) hb); have n4_ := Aside0.mk (Kd.R_below (by (with_reducible repeat (first | apply Kd.R_alloc | apply Kd.R_drewN | apply Kd.R_drew)); exact (Kd.R_mono (Kd.R_far (p := ⟨gb261, 0, none⟩) (Kd.R_types HO256.out BK261.out (by decide)) (fun _ hk => hk.2) (.slice Ao131 t257.length co131)) (fun _ h_ => h_.1))) hb); have n5_ := Aside0.mk (Kd.R_below (by (with_reducible repeat (first | apply Kd.R_alloc | apply Kd.R_drewN | apply Kd.R_drew)); exact (Kd.R_mono (Kd.R_far (p := ⟨gb261, 0, none⟩) (Kd.R_types HO259.out BK261.out (by decide)) (fun _ hk => hk.2) (.slice Ao131 t257.length co131)) (fun _ h_ => h_.1))) hb); have n6_ := Aside0.mk (blk_below (g := gb209) (o := .cells #[.slice A0_0 l0_0.length c0_0] 24 (0, 0)) (by (with_reducible repeat (first | refine blk_drewN ?_ _ | refine blk_drew ?_ | refine blk_alloc ?_ _)); refine blk_far ?_ NB209_261.out _; (with_reducible repeat (first | refine blk_drewN ?_ _ | refine blk_drew ?_ | refine blk_alloc ?_ _)); exact BK209.out) hb); have n7_ := Aside0.mk (blk_below (g := gb221) (o := .cells #[.slice Ao27 t217.length co27] 29 (0, 0)) (by (with_reducible repeat (first | refine blk_drewN ?_ _ | refine blk_drew ?_ | refine blk_alloc ?_ _)); refine blk_far ?_ NB221_261.out _; (with_reducible repeat (first | refine blk_drewN ?_ _ | refine blk_drew ?_ | refine blk_alloc ?_ _)); exact BK221.out) hb); have n8_ := Aside0.mk (blk_below (g := gb225) (o := .cells #[.slice Ao33 t244.length co33] 29 (0, 0)) (by (with_reducible repeat (first | refine blk_drewN ?_ _ | refine blk_drew ?_ | refine blk_alloc ?_ _)); refine blk_far ?_ NB225_261.out _; (with_reducible repeat (first | refine blk_drewN ?_ _ | refine blk_drew ?_ | refine blk_alloc ?_ _)); exact BK225.out) hb); have n9_ := Aside0.mk (blk_below (g := gb233) (o := .cells #[.slice Ao42 t229.length co42] 29 (0, 0)) (by (with_reducible repeat (first | refine blk_drewN ?_ _ | refine blk_drew ?_ | refine blk_alloc ?_ _)); refine blk_far ?_ NB233_261.out _; (with_reducible repeat (first | refine blk_drewN ?_ _ | refine blk_drew ?_ | refine blk_alloc ?_ _)); exact BK233.out) hb); have n10_ := Aside0.mk (blk_below (g := gb261) (o := .cells #[.slice Ao131 t257.length co131] 29 (0, 0)) (by (with_reducible repeat (first | refine blk_drewN ?_ _ | refine blk_drew ?_ | refine blk_alloc ?_ _)); refine blk_put (cs := #[.slice none 0 0]) ?_ 0 _ rfl; (with_reducible repeat (first | refine blk_drewN ?_ _ | refine blk_drew ?_ | refine blk_alloc ?_ _)); exact BK261.out) hb); have n11_ := Aside0.mk (below_step (by repeat (first | (with_reducible first | exact HB.out | apply below_alloc | apply pw_below_drewN | apply below_drew1 | refine below_set ?_ GE209.out | refine below_set ?_ GE221.out | refine below_set ?_ GE225.out | refine below_set ?_ GE233.out | refine below_set ?_ GE261.out) | exact HB.out)) hb); clear HO_222000; clear HO_226000; clear HO_234000; clear HO253; clear HO256; clear HO259; clear BK209; clear BK221; clear BK225; clear BK233; clear BK261; clear HB; have HO_222000 := n0_; have HO_226000 := n1_; have HO_234000 := n2_; have HO253 := n3_; have HO256 := n4_; have HO259 := n5_; have BK209 := n6_; have BK221 := n7_; have BK225 := n8_; have BK233 := n9_; have BK261 := n10_; have HB := n11_; clear n0_ n1_ n2_ n3_ n4_ n5_ n6_ n7_ n8_ n9_ n10_ n11_; (try clear hb); (try clear hb2); (try clear hk); (try clear hi)))
               go_meet
               case rel => exact ⟨_, ((t260 != t220)), (by first | rfl | (simp; done) | (simp [*]; done)), H', ⟨by have := HJ15.out; have := HJ73.out; first | omega | exact Nat.le_refl _⟩, ⟨by (try simp only [hl226000_73]); (with_reducible repeat (first | apply Kd.R_alloc | apply Kd.R_drewN | apply Kd.R_drew)); exact Kd.R_mono HO_222000.out (fun _ hk => ⟨hk.1.1.1, ⟨hk.1.1.2, hk.2⟩⟩)⟩, ⟨by (try simp only [hl226000_73]); (with_reducible repeat (first | apply Kd.R_alloc | apply Kd.R_drewN | apply Kd.R_drew)); exact Kd.R_mono HO_226000.out (fun _ hk => ⟨hk.1.1.1, ⟨hk.1.1.2, hk.2⟩⟩)⟩, ⟨by (try simp only [hl226000_73]); (with_reducible repeat (first | apply Kd.R_alloc | apply Kd.R_drewN | apply Kd.R_drew)); exact Kd.R_mono HO_234000.out (fun _ hk => ⟨hk.1.1.1, ⟨hk.1.1.2, hk.2⟩⟩)⟩, ⟨by (try simp only [hl226000_73]); (with_reducible repeat (first | apply Kd.R_alloc | apply Kd.R_drewN | apply Kd.R_drew)); exact Kd.R_mono HO259.out (fun _ hk => ⟨hk.1.1.1.2, ⟨hk.1.1.2, hk.1.2⟩⟩)⟩, ⟨by (try simp only [hl226000_73]); (with_reducible repeat (first | refine blk_drewN ?_ _ | refine blk_drew ?_ | refine blk_alloc ?_ _)); exact BK209.out⟩, ⟨by (try simp only [hl226000_73]); (with_reducible repeat (first | refine blk_drewN ?_ _ | refine blk_drew ?_ | refine blk_alloc ?_ _)); exact BK221.out⟩, ⟨by (try simp only [hl226000_73]); (with_reducible repeat (first | refine blk_drewN ?_ _ | refine blk_drew ?_ | refine blk_alloc ?_ _)); exact BK225.out⟩, ⟨by (try simp only [hl226000_73]); (with_reducible repeat (first | refine blk_drewN ?_ _ | refine blk_drew ?_ | refine blk_alloc ?_ _)); exact BK233.out⟩, ⟨by (try simp only [hl226000_73]); (with_reducible repeat (first | refine blk_drewN ?_ _ | refine blk_drew ?_ | refine blk_alloc ?_ _)); exact BK261.out⟩, ⟨by repeat (first | (with_reducible first | exact HB.out | apply below_alloc | apply pw_below_drewN | apply below_drew1 | refine below_set ?_ GE209.out | refine below_set ?_ GE221.out | refine below_set ?_ GE225.out | refine below_set ?_ GE233.out | refine below_set ?_ GE261.out) | exact HB.out)⟩⟩
              ·
               replace c138 := Bool.eq_false_iff.mpr c138
               subst c138
               have H1 : (laws_FnExactLoseDisk.j2 kj73 t248 true t249) = some r := by rw [if_neg (show ¬ (false = true) by decide)] at H; exact H
               clear H
               have H := H1
               clear H1
               have H' := Aside0.mk H
               clear H
               have hnb149 := NB261_209.out
               have hnc149 := NB209_261.out
               have hnb150 := NB261_221.out
               have hnc150 := NB221_261.out
               have hnb151 := NB261_225.out
               have hnc151 := NB225_261.out
               have hnb152 := NB261_233.out
               have hnc152 := NB233_261.out
               have hcz153_0 : w130.cell? ⟨gb261, 0, none⟩ = some (.slice none 0 0) := (blk_cell BK261.out 0).trans rfl
               have hfz153_0 := blk_frozen BK261.out 0
               have hnb154 := NB221_209.out
               have hnc154 := NB209_221.out
               have hnb155 := NB221_225.out
               have hnc155 := NB225_221.out
               have hnb156 := NB221_233.out
               have hnc156 := NB233_221.out
               have hcz157_0 : w130.cell? ⟨gb221, 0, none⟩ = some (.slice Ao27 t217.length co27) := (blk_cell BK221.out 0).trans rfl
               have hfz157_0 := blk_frozen BK221.out 0
               go_wp2_with (first | ((with_reducible refine gate_callee (f := 16) rfl ?_); refine goesL_ (some 102) rfl rfl Try.func16 (by kernel_rfl) rfl #[.agg #[.slice Ao131 t257.length co131], .agg #[.slice Ao27 t217.length co27]] rfl (by (try simp only [List.map_toArray, List.map_cons, List.map_nil]); first | done | rfl | (simp only [List.length_drop, List.length_take]; rfl)) ?_; (with_reducible refine (laws_eqDisk.calls kj73 _ _ t257 _ _ t217 false _ ?side1 ?side2 ?side3 ?side4 A137.out).mono ?_); (case side1 => refine (Kd.R_reads' (e := 45) (base := w.heap.size) (ok := fun k_ => ((((True ∧ some k_ ≠ (.slice Ao27 t217.length co27 : Value).ownBlock) ∧ some k_ ≠ (.slice Ao33 t244.length co33 : Value).ownBlock) ∧ some k_ ≠ (.slice Ao42 t229.length co42 : Value).ownBlock) ∧ some k_ ≠ (.slice Ao127 t251.length co127 : Value).ownBlock)) (n := t257.length) (c := co131) ?_).2.2; exact (by (with_reducible repeat (first | apply Kd.R_alloc | apply Kd.R_drewN | apply Kd.R_drew)); exact (Kd.R_mono (Kd.R_far (p := ⟨gb261, 0, none⟩) (Kd.R_types HO259.out BK261.out (by decide)) (fun _ hk => hk.2) (.slice Ao131 t257.length co131)) (fun _ h_ => h_.1)))); (case side2 => exact (Kd.R_reads' HO259.out).2.1); (case side3 => refine (Kd.R_reads' (e := 45) (base := w.heap.size) (ok := fun k_ => (((some k_ ≠ (.slice Ao33 t244.length co33 : Value).ownBlock ∧ some k_ ≠ (.slice Ao42 t229.length co42 : Value).ownBlock) ∧ some k_ ≠ (.slice Ao127 t251.length co127 : Value).ownBlock) ∧ some k_ ≠ (.slice Ao131 t257.length co131 : Value).ownBlock)) (n := t217.length) (c := co27) ?_).2.2; exact (by (with_reducible repeat (first | apply Kd.R_alloc | apply Kd.R_drewN | apply Kd.R_drew)); exact (Kd.R_mono (Kd.R_far (p := ⟨gb261, 0, none⟩) (Kd.R_types HO_222000.out BK261.out (by decide)) (fun _ hk => hk.2) (.slice Ao131 t257.length co131)) (fun _ h_ => h_.1)))); (case side4 => exact (Kd.R_reads' HO_222000.out).2.1); rintro e w158 ⟨rfl, hb⟩; refine ⟨_, rfl, ?_⟩; have n0_ := Aside0.mk (Kd.R_below (by (with_reducible repeat (first | apply Kd.R_alloc | apply Kd.R_drewN | apply Kd.R_drew)); exact (Kd.R_mono (Kd.R_far (p := ⟨gb261, 0, none⟩) (Kd.R_types HO_222000.out BK261.out (by decide)) (fun _ hk => hk.2) (.slice Ao131 t257.length co131)) (fun _ h_ => h_.1))) hb); have n1_ := Aside0.mk (Kd.R_below (by (with_reducible repeat (first | apply Kd.R_alloc | apply Kd.R_drewN | apply Kd.R_drew)); exact (Kd.R_mono (Kd.R_far (p := ⟨gb261, 0, none⟩) (Kd.R_types HO_226000.out BK261.out (by decide)) (fun _ hk => hk.2) (.slice Ao131 t257.length co131)) (fun _ h_ => h_.1))) hb); have n2_ := Aside0.mk (Kd.R_below (by (with_reducible repeat (first | apply Kd.R_alloc | apply Kd.R_drewN | apply Kd.R_drew)); exact (Kd.R_mono (Kd.R_far (p := ⟨gb261, 0, none⟩) (Kd.R_types HO_234000.out BK261.out (by decide)) (fun _ hk => hk.2) (.slice Ao131 t257.length co131)) (fun _ h_ => h_.1))) hb); have n3_ := Aside0.mk (Kd.R_below (by (with_reducible repeat (first | apply Kd.R_alloc | apply Kd.R_drewN | apply Kd.R_drew)); exact (Kd.R_mono (Kd.R_far (p := ⟨gb261, 0, none⟩) (Kd.R_types HO253.out BK261.out (by decide)) (fun _ hk => hk.2) (.slice Ao131 t257.length co131)) (fun _ h_ => h_.1))) hb); have n4_ := Aside0.mk (Kd.R_below (by (with_reducible repeat (first | apply Kd.R_alloc | apply Kd.R_drewN | apply Kd.R_drew)); exact (Kd.R_mono (Kd.R_far (p := ⟨gb261, 0, none⟩) (Kd.R_types HO256.out BK261.out (by decide)) (fun _ hk => hk.2) (.slice Ao131 t257.length co131)) (fun _ h_ => h_.1))) hb); have n5_ := Aside0.mk (Kd.R_below (by (with_reducible repeat (first | apply Kd.R_alloc | apply Kd.R_drewN | apply Kd.R_drew)); exact (Kd.R_mono (Kd.R_far (p := ⟨gb261, 0, none⟩) (Kd.R_types HO259.out BK261.out (by decide)) (fun _ hk => hk.2) (.slice Ao131 t257.length co131)) (fun _ h_ => h_.1))) hb); have n6_ := Aside0.mk (blk_below (g := gb209) (o := .cells #[.slice A0_0 l0_0.length c0_0] 24 (0, 0)) (by (with_reducible repeat (first | refine blk_drewN ?_ _ | refine blk_drew ?_ | refine blk_alloc ?_ _)); refine blk_far ?_ NB209_261.out _; (with_reducible repeat (first | refine blk_drewN ?_ _ | refine blk_drew ?_ | refine blk_alloc ?_ _)); exact BK209.out) hb); have n7_ := Aside0.mk (blk_below (g := gb221) (o := .cells #[.slice Ao27 t217.length co27] 29 (0, 0)) (by (with_reducible repeat (first | refine blk_drewN ?_ _ | refine blk_drew ?_ | refine blk_alloc ?_ _)); refine blk_far ?_ NB221_261.out _; (with_reducible repeat (first | refine blk_drewN ?_ _ | refine blk_drew ?_ | refine blk_alloc ?_ _)); exact BK221.out) hb); have n8_ := Aside0.mk (blk_below (g := gb225) (o := .cells #[.slice Ao33 t244.length co33] 29 (0, 0)) (by (with_reducible repeat (first | refine blk_drewN ?_ _ | refine blk_drew ?_ | refine blk_alloc ?_ _)); refine blk_far ?_ NB225_261.out _; (with_reducible repeat (first | refine blk_drewN ?_ _ | refine blk_drew ?_ | refine blk_alloc ?_ _)); exact BK225.out) hb); have n9_ := Aside0.mk (blk_below (g := gb233) (o := .cells #[.slice Ao42 t229.length co42] 29 (0, 0)) (by (with_reducible repeat (first | refine blk_drewN ?_ _ | refine blk_drew ?_ | refine blk_alloc ?_ _)); refine blk_far ?_ NB233_261.out _; (with_reducible repeat (first | refine blk_drewN ?_ _ | refine blk_drew ?_ | refine blk_alloc ?_ _)); exact BK233.out) hb); have n10_ := Aside0.mk (blk_below (g := gb261) (o := .cells #[.slice Ao131 t257.length co131] 29 (0, 0)) (by (with_reducible repeat (first | refine blk_drewN ?_ _ | refine blk_drew ?_ | refine blk_alloc ?_ _)); refine blk_put (cs := #[.slice none 0 0]) ?_ 0 _ rfl; (with_reducible repeat (first | refine blk_drewN ?_ _ | refine blk_drew ?_ | refine blk_alloc ?_ _)); exact BK261.out) hb); have n11_ := Aside0.mk (below_step (by repeat (first | (with_reducible first | exact HB.out | apply below_alloc | apply pw_below_drewN | apply below_drew1 | refine below_set ?_ GE209.out | refine below_set ?_ GE221.out | refine below_set ?_ GE225.out | refine below_set ?_ GE233.out | refine below_set ?_ GE261.out) | exact HB.out)) hb); clear HO_222000; clear HO_226000; clear HO_234000; clear HO253; clear HO256; clear HO259; clear BK209; clear BK221; clear BK225; clear BK233; clear BK261; clear HB; have HO_222000 := n0_; have HO_226000 := n1_; have HO_234000 := n2_; have HO253 := n3_; have HO256 := n4_; have HO259 := n5_; have BK209 := n6_; have BK221 := n7_; have BK225 := n8_; have BK233 := n9_; have BK261 := n10_; have HB := n11_; clear n0_ n1_ n2_ n3_ n4_ n5_ n6_ n7_ n8_ n9_ n10_ n11_; (try clear hb); (try clear hb2); (try clear hk); (try clear hi)))
               go_meet
               case rel => exact ⟨_, (true), (by first | rfl | (simp; done) | (simp [*]; done)), H', ⟨by have := HJ15.out; have := HJ73.out; first | omega | exact Nat.le_refl _⟩, ⟨by (try simp only [hl226000_73]); (with_reducible repeat (first | apply Kd.R_alloc | apply Kd.R_drewN | apply Kd.R_drew)); exact Kd.R_mono HO_222000.out (fun _ hk => ⟨hk.1.1.1, ⟨hk.1.1.2, hk.2⟩⟩)⟩, ⟨by (try simp only [hl226000_73]); (with_reducible repeat (first | apply Kd.R_alloc | apply Kd.R_drewN | apply Kd.R_drew)); exact Kd.R_mono HO_226000.out (fun _ hk => ⟨hk.1.1.1, ⟨hk.1.1.2, hk.2⟩⟩)⟩, ⟨by (try simp only [hl226000_73]); (with_reducible repeat (first | apply Kd.R_alloc | apply Kd.R_drewN | apply Kd.R_drew)); exact Kd.R_mono HO_234000.out (fun _ hk => ⟨hk.1.1.1, ⟨hk.1.1.2, hk.2⟩⟩)⟩, ⟨by (try simp only [hl226000_73]); (with_reducible repeat (first | apply Kd.R_alloc | apply Kd.R_drewN | apply Kd.R_drew)); exact Kd.R_mono HO259.out (fun _ hk => ⟨hk.1.1.1.2, ⟨hk.1.1.2, hk.1.2⟩⟩)⟩, ⟨by (try simp only [hl226000_73]); (with_reducible repeat (first | refine blk_drewN ?_ _ | refine blk_drew ?_ | refine blk_alloc ?_ _)); exact BK209.out⟩, ⟨by (try simp only [hl226000_73]); (with_reducible repeat (first | refine blk_drewN ?_ _ | refine blk_drew ?_ | refine blk_alloc ?_ _)); exact BK221.out⟩, ⟨by (try simp only [hl226000_73]); (with_reducible repeat (first | refine blk_drewN ?_ _ | refine blk_drew ?_ | refine blk_alloc ?_ _)); exact BK225.out⟩, ⟨by (try simp only [hl226000_73]); (with_reducible repeat (first | refine blk_drewN ?_ _ | refine blk_drew ?_ | refine blk_alloc ?_ _)); exact BK233.out⟩, ⟨by (try simp only [hl226000_73]); (with_reducible repeat (first | refine blk_drewN ?_ _ | refine blk_drew ?_ | refine blk_alloc ?_ _)); exact BK261.out⟩, ⟨by repeat (first | (with_reducible first | exact HB.out | apply below_alloc | apply pw_below_drewN | apply below_drew1 | refine below_set ?_ GE209.out | refine below_set ?_ GE221.out | refine below_set ?_ GE225.out | refine below_set ?_ GE233.out | refine below_set ?_ GE261.out) | exact HB.out)⟩⟩
             case rest =>
              clear HC114
              try clear c1
              try clear c2
              try clear p2
              try clear c3
              try clear c3b0
              try clear c3b1
              try clear c4
              try clear c5
              try clear c6
              try clear c6b0
              try clear c7
              try clear c8
              try clear c9
              try clear c10
              try clear c11
              try clear c12
              try clear c13
              try clear c14
              try clear c15
              try clear c16
              try clear c25
              try clear c28
              try clear c29
              try clear c30
              try clear c31
              try clear c32
              try clear c33
              try clear c34
              try clear c35
              try clear c43
              try clear c44
              try clear c45
              try clear c48
              try clear c49
              try clear c50
              try clear c51
              try clear c53
              try clear c54
              try clear c57
              try clear c58
              try clear c59
              try clear c61
              try clear c62
              try clear c65
              try clear c68
              try clear c71
              try clear c81
              try clear c82
              try clear c83
              try clear c87
              try clear c87b0
              try clear c89
              try clear c90
              try clear c91
              try clear c92
              try clear c94
              try clear c95
              try clear c98
              try clear c99
              try clear c100
              try clear c102
              try clear c103
              try clear c106
              try clear c109
              try clear c109b0
              try clear c110
              try clear c110b0
              try clear c110b1
              try clear c115
              try clear c116
              try clear c117
              try clear c122
              try clear c123
              try clear c132
              try clear c133
              try clear c134
              try clear c135
              try clear c138
              try clear c139
              try clear c140
              try clear c141
              try clear c142
              try clear c144
              try clear c145
              try clear c146
              try clear c149
              try clear c150
              try clear c151
              try clear c152
              try clear c154
              try clear c155
              try clear c156
              try clear hcz101_0
              try clear hcz104_0
              try clear hcz118_0
              try clear hcz120_0
              try clear hcz124_0
              try clear hcz136_0
              try clear hcz143_0
              try clear hcz147_0
              try clear hcz153_0
              try clear hcz157_0
              try clear hcz18_0
              try clear hcz20_0
              try clear hcz29_0
              try clear hcz30_0
              try clear hcz36_0
              try clear hcz38_0
              try clear hcz46_0
              try clear hcz52_0
              try clear hcz55_0
              try clear hcz60_0
              try clear hcz63_0
              try clear hcz84_0
              try clear hcz8_0
              try clear hcz93_0
              try clear hcz96_0
              try clear hfz101_0
              try clear hfz104_0
              try clear hfz118_0
              try clear hfz120_0
              try clear hfz124_0
              try clear hfz136_0
              try clear hfz143_0
              try clear hfz147_0
              try clear hfz153_0
              try clear hfz157_0
              try clear hfz18_0
              try clear hfz20_0
              try clear hfz29_0
              try clear hfz30_0
              try clear hfz36_0
              try clear hfz38_0
              try clear hfz46_0
              try clear hfz52_0
              try clear hfz55_0
              try clear hfz60_0
              try clear hfz63_0
              try clear hfz84_0
              try clear hfz8_0
              try clear hfz93_0
              try clear hfz96_0
              try clear p2
              obtain ⟨kq, x108_113, rfl, HA, HJ113, HO_222000, HO_226000, HO_234000, HO_262000, BK209, BK221, BK225, BK233, BK261, HB⟩ := hcut
              have hl234000_113 := (Kd.R_reads' HO_234000.out).1
              rw [hl234000_113] at HO_234000
              (try simp only [hl234000_113])
              (try simp only [hl234000_113] at BK209)
              (try simp only [hl234000_113] at BK221)
              (try simp only [hl234000_113] at BK225)
              (try simp only [hl234000_113] at BK233)
              (try simp only [hl234000_113] at BK261)
              (try simp only [hl234000_113] at HO_222000)
              (try simp only [hl234000_113] at HO_226000)
              (try simp only [hl234000_113] at HO_262000)
              cases kq with
              | zero => exact absurd HA.out (by simp [laws_FnExactLoseDisk.j2])
              | succ kj113 =>
               have H := HA.out
               clear HA
               simp only [laws_FnExactLoseDisk.j2] at H
               by_cases c159 : x108_113 = true
               ·
                subst c159
                have H1 : (none) = some r := by rw [if_pos rfl] at H; exact H
                clear H
                have H := H1
                clear H1
                exact absurd H (by simp)
               ·
                replace c159 := Bool.eq_false_iff.mpr c159
                subst c159
                have H1 : ((laws_heldDisk.f kj113 t249 1).bind fun t263 => (if t263 < 0 then (none) else (if t263 = t248 then (some true) else (none)))) = some r := by rw [if_neg (show ¬ (false = true) by decide)] at H; exact H
                clear H
                have H := H1
                clear H1
                replace H := Option.bind_eq_some_iff.mp H
                obtain ⟨t263, A1600, H⟩ := H
                replace H : (if t263 < 0 then (none) else (if t263 = t248 then (some true) else (none))) = some r := H
                have A160 := Aside0.mk A1600
                clear A1600
                by_cases c161 : t263 < 0
                ·
                 rw [if_pos c161] at H
                 exact absurd H (by simp)
                ·
                 rw [if_neg c161] at H
                 have c161b0 : decide (t263 < 0) = false := decide_eq_false c161
                 clear c161
                 by_cases c162 : t263 = t248
                 ·
                  rw [if_pos c162] at H
                  have c162b0 : (t263 == t248) = true := beq_iff_eq.mpr c162
                  have c162b1 : (t263 != t248) = false := bne_eq_false_iff_eq.mpr c162
                  clear c162
                  obtain rfl := Option.some.inj H
                  have hnb163 := NB233_209.out
                  have hnc163 := NB209_233.out
                  have hnb164 := NB233_221.out
                  have hnc164 := NB221_233.out
                  have hnb165 := NB233_225.out
                  have hnc165 := NB225_233.out
                  have hnb166 := NB233_261.out
                  have hnc166 := NB261_233.out
                  have hcz167_0 : wc.cell? ⟨gb233, 0, none⟩ = some (.slice Ao42 t249.length co42) := (blk_cell BK233.out 0).trans rfl
                  have hfz167_0 := blk_frozen BK233.out 0
                  go_wp2_with (first | ((with_reducible refine gate_callee (f := 33) rfl ?_); refine goesL_ (some 111) rfl rfl Try.func33 (by kernel_rfl) rfl #[.agg #[.slice Ao42 t249.length co42], .int .i64 1] rfl (by (try simp only [List.map_toArray, List.map_cons, List.map_nil]); first | done | rfl | (simp only [List.length_drop, List.length_take]; rfl)) ?_; (with_reducible refine (laws_heldDisk.calls kj113 _ _ t249 1 t263 _ ?side1 ?side2 A160.out).mono ?_); (case side1 => repeat (first | exact (Kd.R_reads' HO_234000.out).2.2 | (with_reducible refine Kd.C_alloc ?_ _) | (with_reducible refine Kd.C_drewN ?_ _) | (with_reducible refine Kd.C_drew ?_))); (case side2 => exact (Kd.R_reads' HO_234000.out).2.1); rintro e w168 ⟨rfl, hb⟩; refine ⟨_, rfl, ?_⟩; have n0_ := Aside0.mk (Kd.R_below (by (with_reducible repeat (first | apply Kd.R_alloc | apply Kd.R_drewN | apply Kd.R_drew)); exact HO_222000.out) hb); have n1_ := Aside0.mk (Kd.R_below (by (with_reducible repeat (first | apply Kd.R_alloc | apply Kd.R_drewN | apply Kd.R_drew)); exact HO_226000.out) hb); have n2_ := Aside0.mk (Kd.R_below (by (with_reducible repeat (first | apply Kd.R_alloc | apply Kd.R_drewN | apply Kd.R_drew)); exact HO_234000.out) hb); have n3_ := Aside0.mk (Kd.R_below (by (with_reducible repeat (first | apply Kd.R_alloc | apply Kd.R_drewN | apply Kd.R_drew)); exact HO_262000.out) hb); have n4_ := Aside0.mk (blk_below (g := gb209) (o := .cells #[.slice A0_0 l0_0.length c0_0] 24 (0, 0)) (by (with_reducible repeat (first | refine blk_drewN ?_ _ | refine blk_drew ?_ | refine blk_alloc ?_ _)); exact BK209.out) hb); have n5_ := Aside0.mk (blk_below (g := gb221) (o := .cells #[.slice Ao27 t217.length co27] 29 (0, 0)) (by (with_reducible repeat (first | refine blk_drewN ?_ _ | refine blk_drew ?_ | refine blk_alloc ?_ _)); exact BK221.out) hb); have n6_ := Aside0.mk (blk_below (g := gb225) (o := .cells #[.slice Ao33 t244.length co33] 29 (0, 0)) (by (with_reducible repeat (first | refine blk_drewN ?_ _ | refine blk_drew ?_ | refine blk_alloc ?_ _)); exact BK225.out) hb); have n7_ := Aside0.mk (blk_below (g := gb233) (o := .cells #[.slice Ao42 t249.length co42] 29 (0, 0)) (by (with_reducible repeat (first | refine blk_drewN ?_ _ | refine blk_drew ?_ | refine blk_alloc ?_ _)); exact BK233.out) hb); have n8_ := Aside0.mk (blk_below (g := gb261) (o := .cells #[.slice Ao131 t257.length co131] 29 (0, 0)) (by (with_reducible repeat (first | refine blk_drewN ?_ _ | refine blk_drew ?_ | refine blk_alloc ?_ _)); exact BK261.out) hb); have n9_ := Aside0.mk (below_step (by repeat (first | (with_reducible first | exact HB.out | apply below_alloc | apply pw_below_drewN | apply below_drew1 | refine below_set ?_ GE209.out | refine below_set ?_ GE221.out | refine below_set ?_ GE225.out | refine below_set ?_ GE233.out | refine below_set ?_ GE261.out) | exact HB.out)) hb); clear HO_222000; clear HO_226000; clear HO_234000; clear HO_262000; clear BK209; clear BK221; clear BK225; clear BK233; clear BK261; clear HB; have HO_222000 := n0_; have HO_226000 := n1_; have HO_234000 := n2_; have HO_262000 := n3_; have BK209 := n4_; have BK221 := n5_; have BK225 := n6_; have BK233 := n7_; have BK261 := n8_; have HB := n9_; clear n0_ n1_ n2_ n3_ n4_ n5_ n6_ n7_ n8_ n9_; (try clear hb); (try clear hb2); (try clear hk); (try clear hi)))
                  go_ret
                  exact ⟨by first | rfl | (simp [errW_none, errW_some] <;> rfl) | (simp [*, errW_none, errW_some] <;> rfl), by repeat (first | (with_reducible first | exact HB.out | apply below_alloc | apply pw_below_drewN | apply below_drew1 | refine below_set ?_ GE209.out | refine below_set ?_ GE221.out | refine below_set ?_ GE225.out | refine below_set ?_ GE233.out | refine below_set ?_ GE261.out) | exact HB.out)⟩
                 ·
                  rw [if_neg c162] at H
                  exact absurd H (by simp)
            ·
             rw [if_neg c110] at H
             exact absurd H (by simp)
       ·
        replace c71 := Bool.eq_false_iff.mpr c71
        subst c71
        have H1 : (none) = some r := by rw [if_neg (show ¬ (false = true) by decide)] at H; exact H
        clear H
        have H := H1
        clear H1
        exact absurd H (by simp)
      ·
       replace c68 := Bool.eq_false_iff.mpr c68
       subst c68
       have H1 : (none) = some r := by rw [if_neg (show ¬ (false = true) by decide)] at H; exact H
       clear H
       have H := H1
       clear H1
       exact absurd H (by simp)

/-- THE PURE STATEMENT of laws_FnExactLoseDisk. -/
def laws_FnExactLoseDisk.Pure : Prop := ∀ (l0_0 : List (S94)) (l1 : List Int), ((∀ x_ ∈ l0_0, (x_.f0.size ≤ maxLen ∧ x_.f1.size ≤ maxLen ∧ (Lit.int .i64 x_.f2).wf = true)) ∧ l0_0.length ≤ maxLen) → ((∀ x_ ∈ l1, (Lit.int .i64 x_).wf = true) ∧ l1.length ≤ maxLen) → ∃ k, laws_FnExactLoseDisk.f k l0_0 l1 = some true

end Go.Proofs.Ythfppepnpngfmaa.Qkl
