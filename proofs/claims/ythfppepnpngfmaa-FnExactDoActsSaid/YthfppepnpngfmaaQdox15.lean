-- Laid by myprint.py, a program of this session's own, over the kit's print. Not trusted: Lean checks it.
import Derived.Test.YthfppepnpngfmaaQdox0
import Derived.Test.YthfppepnpngfmaaQdox1
import Derived.Test.YthfppepnpngfmaaQdox2
import Derived.Test.YthfppepnpngfmaaQdox3
import Derived.Test.YthfppepnpngfmaaQdox9
import Derived.Test.YthfppepnpngfmaaQdox10
import Derived.Test.YthfppepnpngfmaaQdox14
namespace Go.Proofs.Ythfppepnpngfmaa.Qdo
open Go.RowKit Go.Proofs.YthfppepnpngfmaaW.PrintWords Go.Proofs.YthfppepnpngfmaaW.PrintLast Go.Proofs.YthfppepnpngfmaaW.PrintMore
attribute [local go_sem] Go.Proofs.Ythfppepnpngfmaa.StrCmp.gtr_less Go.Proofs.Ythfppepnpngfmaa.StrCmp.geq_less Go.Proofs.Ythfppepnpngfmaa.StrCmp.leq_less max2_int min2_int max_two min_two max_three min_three max_four min_four   -- for this text's walks alone
set_option linter.unusedVariables false
set_option linter.unusedSimpArgs false

/-! ### laws_FnExactDoActs: function 9 -/
mutual
def laws_FnExactDoActs.j0 : Nat → List (S52) → Int → List (S55) → Int → Bool → List (S94) → List (S45) → List (S45) → List (S45) → Option (Bool)
 | 0, _, _, _, _, _, _, _, _, _ => none
 | k + 1, x1, x7, x9, x11, x53, x316000, x329000, x333000, x341000 => if x53 = true then (none) else ((laws_toDisk.f k x316000).bind fun t342 => ((laws_eqDisk.f k x333000 t342).bind fun t345 => (if t345 = true then ((laws_toActS.f k x1).bind fun t346 => ((laws_eqActS.f k x9 t346).bind fun t349 => (if t349 = true then ((laws_markDisk.f k x333000 1).bind fun bt350 => ((laws_markActS.f k x9 bt350.1).bind fun bt352 => (if bt352.1 < 0 then (laws_FnExactDoActs.j1 k x1 x7 true x316000 x329000 x341000) else ((laws_eqDisk.f k x341000 x329000).bind fun t354 => (if t354 = true then (laws_FnExactDoActs.j1 k x1 x7 (x11 != x7) x316000 x329000 x341000) else (laws_FnExactDoActs.j1 k x1 x7 true x316000 x329000 x341000)))))) else (none)))) else (none))))
def laws_FnExactDoActs.j1 : Nat → List (S52) → Int → Bool → List (S94) → List (S45) → List (S45) → Option (Bool)
 | 0, _, _, _, _, _, _ => none
 | k + 1, x1, x7, x82, x316000, x329000, x341000 => if x82 = true then (none) else ((laws_markDisk.f k x341000 1).bind fun bt355 => ((laws_heldDisk.f k bt355.2 1).bind fun t357 => (if t357 < 0 then (none) else (if t357 = bt355.1 then ((laws_toDisk.f k x316000).bind fun t358 => ((laws_toActS.f k x1).bind fun t361 => ((impl_DoActs.f k t358 t361).bind fun bt364 => ((laws_eqDisk.f k bt364.1 x329000).bind fun t369 => (if t369 = true then (laws_FnExactDoActs.j2 k bt355.1 (bt364.2 != x7) bt355.2) else (laws_FnExactDoActs.j2 k bt355.1 true bt355.2)))))) else (none)))))
def laws_FnExactDoActs.j2 : Nat → Int → Bool → List (S45) → Option (Bool)
 | 0, _, _, _ => none
 | k + 1, x13, x110, x341000 => if x110 = true then (none) else ((laws_heldDisk.f k x341000 1).bind fun t370 => (if t370 < 0 then (none) else (if t370 = x13 then (some true) else (none))))
end
def laws_FnExactDoActs.f (k : Nat) (l0_0 : List (S94)) (l1 : List (S52)) : Option (Bool) := (laws_szDisk.f k l0_0 1048576).bind fun t316 => (if t316 < 0 then (some true) else ((laws_szActS.f k l1 t316).bind fun t317 => (if t317 < 0 then (some true) else ((laws_toDisk.f k l0_0).bind fun t318 => ((laws_toActS.f k l1).bind fun t321 => ((spec_DoActs.f k t318 t321).bind fun bt324 => ((laws_toDisk.f k l0_0).bind fun t329 => ((laws_toActS.f k l1).bind fun t333 => ((impl_DoActs.f k t329 t333).bind fun bt336 => ((laws_eqDisk.f k bt336.1 bt324.1).bind fun t341 => (if t341 = true then (laws_FnExactDoActs.j0 k l1 bt324.2 t333 bt336.2 (bt336.2 != bt324.2) l0_0 bt324.1 t329 bt336.1) else (laws_FnExactDoActs.j0 k l1 bt324.2 t333 bt336.2 true l0_0 bt324.1 t329 bt336.1))))))))))))
theorem laws_FnExactDoActs.mono_l : ∀ k, (∀ y0 y1 y2 y3 y4 y5 y6 y7 y8, LeO (laws_FnExactDoActs.j0 k y0 y1 y2 y3 y4 y5 y6 y7 y8) (laws_FnExactDoActs.j0 (k + 1) y0 y1 y2 y3 y4 y5 y6 y7 y8)) ∧ (∀ y0 y1 y2 y3 y4 y5, LeO (laws_FnExactDoActs.j1 k y0 y1 y2 y3 y4 y5) (laws_FnExactDoActs.j1 (k + 1) y0 y1 y2 y3 y4 y5)) ∧ (∀ y0 y1 y2, LeO (laws_FnExactDoActs.j2 k y0 y1 y2) (laws_FnExactDoActs.j2 (k + 1) y0 y1 y2))
 | 0 => ⟨fun _ _ _ _ _ _ _ _ _ r h => by simp [laws_FnExactDoActs.j0] at h, fun _ _ _ _ _ _ r h => by simp [laws_FnExactDoActs.j1] at h, fun _ _ _ r h => by simp [laws_FnExactDoActs.j2] at h⟩
 | k + 1 => by
  obtain ⟨ih0, ih1, ih2⟩ := laws_FnExactDoActs.mono_l k
  refine ⟨?_, ?_, ?_⟩
  ·
   intro y0 y1 y2 y3 y4 y5 y6 y7 y8
   unfold laws_FnExactDoActs.j0
   repeat' first
   | (with_reducible exact ih0 _ _ _ _ _ _ _ _ _)
   | (with_reducible exact ih1 _ _ _ _ _ _)
   | (with_reducible exact ih2 _ _ _)
   | (with_reducible exact impl_DoActs.mono _ _ _)
   | (with_reducible exact laws_eqActS.mono _ _ _)
   | (with_reducible exact laws_eqDisk.mono _ _ _)
   | (with_reducible exact laws_heldDisk.mono _ _ _)
   | (with_reducible exact laws_markActS.mono _ _ _)
   | (with_reducible exact laws_markDisk.mono _ _ _)
   | (with_reducible exact laws_szActS.mono _ _ _)
   | (with_reducible exact laws_szDisk.mono _ _ _)
   | (with_reducible exact laws_toActS.mono _ _)
   | (with_reducible exact laws_toDisk.mono _ _)
   | (with_reducible exact spec_DoActs.mono _ _ _)
   | (with_reducible exact LeO.refl _)
   | (with_reducible exact LeO.none _)
   | (with_reducible refine LeO.ite ?_ ?_)
   | (with_reducible refine LeO.bind ?_ (fun _ => ?_))
   | exact ih0 _ _ _ _ _ _ _ _ _
   | exact ih1 _ _ _ _ _ _
   | exact ih2 _ _ _
   | exact impl_DoActs.mono _ _ _
   | exact laws_eqActS.mono _ _ _
   | exact laws_eqDisk.mono _ _ _
   | exact laws_heldDisk.mono _ _ _
   | exact laws_markActS.mono _ _ _
   | exact laws_markDisk.mono _ _ _
   | exact laws_szActS.mono _ _ _
   | exact laws_szDisk.mono _ _ _
   | exact laws_toActS.mono _ _
   | exact laws_toDisk.mono _ _
   | exact spec_DoActs.mono _ _ _
   | exact LeO.none _
   | refine LeO.ite ?_ ?_
   | refine LeO.bind ?_ (fun _ => ?_)
  ·
   intro y0 y1 y2 y3 y4 y5
   unfold laws_FnExactDoActs.j1
   repeat' first
   | (with_reducible exact ih0 _ _ _ _ _ _ _ _ _)
   | (with_reducible exact ih1 _ _ _ _ _ _)
   | (with_reducible exact ih2 _ _ _)
   | (with_reducible exact impl_DoActs.mono _ _ _)
   | (with_reducible exact laws_eqActS.mono _ _ _)
   | (with_reducible exact laws_eqDisk.mono _ _ _)
   | (with_reducible exact laws_heldDisk.mono _ _ _)
   | (with_reducible exact laws_markActS.mono _ _ _)
   | (with_reducible exact laws_markDisk.mono _ _ _)
   | (with_reducible exact laws_szActS.mono _ _ _)
   | (with_reducible exact laws_szDisk.mono _ _ _)
   | (with_reducible exact laws_toActS.mono _ _)
   | (with_reducible exact laws_toDisk.mono _ _)
   | (with_reducible exact spec_DoActs.mono _ _ _)
   | (with_reducible exact LeO.refl _)
   | (with_reducible exact LeO.none _)
   | (with_reducible refine LeO.ite ?_ ?_)
   | (with_reducible refine LeO.bind ?_ (fun _ => ?_))
   | exact ih0 _ _ _ _ _ _ _ _ _
   | exact ih1 _ _ _ _ _ _
   | exact ih2 _ _ _
   | exact impl_DoActs.mono _ _ _
   | exact laws_eqActS.mono _ _ _
   | exact laws_eqDisk.mono _ _ _
   | exact laws_heldDisk.mono _ _ _
   | exact laws_markActS.mono _ _ _
   | exact laws_markDisk.mono _ _ _
   | exact laws_szActS.mono _ _ _
   | exact laws_szDisk.mono _ _ _
   | exact laws_toActS.mono _ _
   | exact laws_toDisk.mono _ _
   | exact spec_DoActs.mono _ _ _
   | exact LeO.none _
   | refine LeO.ite ?_ ?_
   | refine LeO.bind ?_ (fun _ => ?_)
  ·
   intro y0 y1 y2
   unfold laws_FnExactDoActs.j2
   repeat' first
   | (with_reducible exact ih0 _ _ _ _ _ _ _ _ _)
   | (with_reducible exact ih1 _ _ _ _ _ _)
   | (with_reducible exact ih2 _ _ _)
   | (with_reducible exact impl_DoActs.mono _ _ _)
   | (with_reducible exact laws_eqActS.mono _ _ _)
   | (with_reducible exact laws_eqDisk.mono _ _ _)
   | (with_reducible exact laws_heldDisk.mono _ _ _)
   | (with_reducible exact laws_markActS.mono _ _ _)
   | (with_reducible exact laws_markDisk.mono _ _ _)
   | (with_reducible exact laws_szActS.mono _ _ _)
   | (with_reducible exact laws_szDisk.mono _ _ _)
   | (with_reducible exact laws_toActS.mono _ _)
   | (with_reducible exact laws_toDisk.mono _ _)
   | (with_reducible exact spec_DoActs.mono _ _ _)
   | (with_reducible exact LeO.refl _)
   | (with_reducible exact LeO.none _)
   | (with_reducible refine LeO.ite ?_ ?_)
   | (with_reducible refine LeO.bind ?_ (fun _ => ?_))
   | exact ih0 _ _ _ _ _ _ _ _ _
   | exact ih1 _ _ _ _ _ _
   | exact ih2 _ _ _
   | exact impl_DoActs.mono _ _ _
   | exact laws_eqActS.mono _ _ _
   | exact laws_eqDisk.mono _ _ _
   | exact laws_heldDisk.mono _ _ _
   | exact laws_markActS.mono _ _ _
   | exact laws_markDisk.mono _ _ _
   | exact laws_szActS.mono _ _ _
   | exact laws_szDisk.mono _ _ _
   | exact laws_toActS.mono _ _
   | exact laws_toDisk.mono _ _
   | exact spec_DoActs.mono _ _ _
   | exact LeO.none _
   | refine LeO.ite ?_ ?_
   | refine LeO.bind ?_ (fun _ => ?_)
theorem laws_FnExactDoActs.mono : ∀ a0 a1 k, LeO (laws_FnExactDoActs.f k a0 a1) (laws_FnExactDoActs.f (k + 1) a0 a1) := by
 intro a0 a1 k
 obtain ⟨ih0, ih1, ih2⟩ := laws_FnExactDoActs.mono_l k
 unfold laws_FnExactDoActs.f
 repeat' first
   | (with_reducible exact ih0 _ _ _ _ _ _ _ _ _)
   | (with_reducible exact ih1 _ _ _ _ _ _)
   | (with_reducible exact ih2 _ _ _)
   | (with_reducible exact impl_DoActs.mono _ _ _)
   | (with_reducible exact laws_eqActS.mono _ _ _)
   | (with_reducible exact laws_eqDisk.mono _ _ _)
   | (with_reducible exact laws_heldDisk.mono _ _ _)
   | (with_reducible exact laws_markActS.mono _ _ _)
   | (with_reducible exact laws_markDisk.mono _ _ _)
   | (with_reducible exact laws_szActS.mono _ _ _)
   | (with_reducible exact laws_szDisk.mono _ _ _)
   | (with_reducible exact laws_toActS.mono _ _)
   | (with_reducible exact laws_toDisk.mono _ _)
   | (with_reducible exact spec_DoActs.mono _ _ _)
   | (with_reducible exact LeO.refl _)
   | (with_reducible exact LeO.none _)
   | (with_reducible refine LeO.ite ?_ ?_)
   | (with_reducible refine LeO.bind ?_ (fun _ => ?_))
   | exact ih0 _ _ _ _ _ _ _ _ _
   | exact ih1 _ _ _ _ _ _
   | exact ih2 _ _ _
   | exact impl_DoActs.mono _ _ _
   | exact laws_eqActS.mono _ _ _
   | exact laws_eqDisk.mono _ _ _
   | exact laws_heldDisk.mono _ _ _
   | exact laws_markActS.mono _ _ _
   | exact laws_markDisk.mono _ _ _
   | exact laws_szActS.mono _ _ _
   | exact laws_szDisk.mono _ _ _
   | exact laws_toActS.mono _ _
   | exact laws_toDisk.mono _ _
   | exact spec_DoActs.mono _ _ _
   | exact LeO.none _
   | refine LeO.ite ?_ ?_
   | refine LeO.bind ?_ (fun _ => ?_)
set_option maxHeartbeats 8000000 in
set_option maxRecDepth 100000 in
theorem laws_FnExactDoActs.calls (k : Nat) (A0_0 : Option Addr) (c0_0 : Nat) (l0_0 : List (S94)) (A1 : Option Addr) (c1 : Nat) (l1 : List (S52)) (r : Bool) (w : World) (hr0_0 : Kd.C k94 w A0_0 l0_0.length l0_0) (hc0_0 : l0_0.length ≤ c0_0) (hr1 : Kd.C k52 w A1 l1.length l1) (hc1 : l1.length ≤ c1) (h : laws_FnExactDoActs.f k l0_0 l1 = some r) :
  Calls Try.prog 9 #[.agg #[.slice A0_0 l0_0.length c0_0], .slice A1 l1.length c1] w fun e w' => e = .returned (.bool r) ∧ Below w.heap.size w w' := by
 have hu24 := Try.underlying24
 have hu29 := Try.underlying29
 have HR0_0 := Aside0.mk hr0_0
 have HC0_0 := Aside0.mk hc0_0
 clear hr0_0 hc0_0
 have HR1 := Aside0.mk hr1
 have HC1 := Aside0.mk hc1
 clear hr1 hc1
 have HB := Aside0.mk (Below.refl w.heap.size w)
 have H : ((laws_szDisk.f k l0_0 1048576).bind fun t316 => (if t316 < 0 then (some true) else ((laws_szActS.f k l1 t316).bind fun t317 => (if t317 < 0 then (some true) else ((laws_toDisk.f k l0_0).bind fun t318 => ((laws_toActS.f k l1).bind fun t321 => ((spec_DoActs.f k t318 t321).bind fun bt324 => ((laws_toDisk.f k l0_0).bind fun t329 => ((laws_toActS.f k l1).bind fun t333 => ((impl_DoActs.f k t329 t333).bind fun bt336 => ((laws_eqDisk.f k bt336.1 bt324.1).bind fun t341 => (if t341 = true then (laws_FnExactDoActs.j0 k l1 bt324.2 t333 bt336.2 (bt336.2 != bt324.2) l0_0 bt324.1 t329 bt336.1) else (laws_FnExactDoActs.j0 k l1 bt324.2 t333 bt336.2 true l0_0 bt324.1 t329 bt336.1))))))))))))) = some r := h
 clear h
 replace H := Option.bind_eq_some_iff.mp H
 obtain ⟨t316, A30, H⟩ := H
 replace H : (if t316 < 0 then (some true) else ((laws_szActS.f k l1 t316).bind fun t317 => (if t317 < 0 then (some true) else ((laws_toDisk.f k l0_0).bind fun t318 => ((laws_toActS.f k l1).bind fun t321 => ((spec_DoActs.f k t318 t321).bind fun bt324 => ((laws_toDisk.f k l0_0).bind fun t329 => ((laws_toActS.f k l1).bind fun t333 => ((impl_DoActs.f k t329 t333).bind fun bt336 => ((laws_eqDisk.f k bt336.1 bt324.1).bind fun t341 => (if t341 = true then (laws_FnExactDoActs.j0 k l1 bt324.2 t333 bt336.2 (bt336.2 != bt324.2) l0_0 bt324.1 t329 bt336.1) else (laws_FnExactDoActs.j0 k l1 bt324.2 t333 bt336.2 true l0_0 bt324.1 t329 bt336.1)))))))))))) = some r := H
 have A3 := Aside0.mk A30
 clear A30
 by_cases c4 : t316 < 0
 ·
  rw [if_pos c4] at H
  have c4b0 : decide (t316 < 0) = true := decide_eq_true c4
  clear c4
  obtain rfl := Option.some.inj H
  go_enter Try.func9, Try.ntmps9
  go_wp2_with (first | ((with_reducible refine gate_dst (N := 2) rfl ?_); refine bE 2 #[.slice A0_0 l0_0.length c0_0] 24 ?_; intro gb315 hg w5 hbox hb; have BK315 := Aside0.mk (hbox); have GW315 : Aside0 (w.heap.size ≤ gb315) := GS; have GE315 : Aside0 (w.heap.size ≤ gb315) := GS; replace HB := Aside0.mk (below_step (BL) hb); clear hb hbox hg; have hcz6_0 : w5.cell? ⟨gb315, 0, none⟩ = some (.slice A0_0 l0_0.length c0_0) := CZ BK315.out 0; have hfz6_0 := blk_frozen BK315.out 0) | ((with_reducible refine gate_callee (f := 12) rfl ?_); refine goesL_ (some 19) rfl rfl Try.func12 (by kernel_rfl) rfl #[.agg #[.slice A0_0 l0_0.length c0_0], .int .i64 1048576] rfl (MA) ?_; (with_reducible refine (laws_szDisk.calls k _ _ l0_0 1048576 t316 _ ?side1 ?side2 A3.out).mono ?_); (case side1 => repeat (first | exact (Kd.C_below HR0_0.out HB.out) | (with_reducible refine Kd.C_alloc ?_ _) | (with_reducible refine Kd.C_drewN ?_ _) | (with_reducible refine Kd.C_drew ?_))); (case side2 => exact HC0_0.out); rintro e w7 ⟨rfl, hb⟩; refine ⟨_, rfl, ?_⟩; replace BK315 := BB BK315.out hb; replace HB := Aside0.mk (below_step (BL) hb); (try clear hb); (try clear hb2); (try clear hk); (try clear hi)))
  go_ret
  exact ⟨EE, BL⟩
 rw [if_neg c4] at H
 have c4b0 : decide (t316 < 0) = false := decide_eq_false c4
 clear c4
 replace H := Option.bind_eq_some_iff.mp H
 obtain ⟨t317, A80, H⟩ := H
 replace H : (if t317 < 0 then (some true) else ((laws_toDisk.f k l0_0).bind fun t318 => ((laws_toActS.f k l1).bind fun t321 => ((spec_DoActs.f k t318 t321).bind fun bt324 => ((laws_toDisk.f k l0_0).bind fun t329 => ((laws_toActS.f k l1).bind fun t333 => ((impl_DoActs.f k t329 t333).bind fun bt336 => ((laws_eqDisk.f k bt336.1 bt324.1).bind fun t341 => (if t341 = true then (laws_FnExactDoActs.j0 k l1 bt324.2 t333 bt336.2 (bt336.2 != bt324.2) l0_0 bt324.1 t329 bt336.1) else (laws_FnExactDoActs.j0 k l1 bt324.2 t333 bt336.2 true l0_0 bt324.1 t329 bt336.1)))))))))) = some r := H
 have A8 := Aside0.mk A80
 clear A80
 by_cases c9 : t317 < 0
 ·
  rw [if_pos c9] at H
  have c9b0 : decide (t317 < 0) = true := decide_eq_true c9
  clear c9
  obtain rfl := Option.some.inj H
  go_enter Try.func9, Try.ntmps9
  go_wp2_with (first | ((with_reducible refine gate_dst (N := 2) rfl ?_); refine bE 2 #[.slice A0_0 l0_0.length c0_0] 24 ?_; intro gb315 hg w10 hbox hb; have BK315 := Aside0.mk (hbox); have GW315 : Aside0 (w.heap.size ≤ gb315) := GS; have GE315 : Aside0 (w.heap.size ≤ gb315) := GS; replace HB := Aside0.mk (below_step (BL) hb); clear hb hbox hg; have hcz11_0 : w10.cell? ⟨gb315, 0, none⟩ = some (.slice A0_0 l0_0.length c0_0) := CZ BK315.out 0; have hfz11_0 := blk_frozen BK315.out 0) | ((with_reducible refine gate_callee (f := 12) rfl ?_); refine goesL_ (some 19) rfl rfl Try.func12 (by kernel_rfl) rfl #[.agg #[.slice A0_0 l0_0.length c0_0], .int .i64 1048576] rfl (MA) ?_; (with_reducible refine (laws_szDisk.calls k _ _ l0_0 1048576 t316 _ ?side1 ?side2 A3.out).mono ?_); (case side1 => repeat (first | exact (Kd.C_below HR0_0.out HB.out) | (with_reducible refine Kd.C_alloc ?_ _) | (with_reducible refine Kd.C_drewN ?_ _) | (with_reducible refine Kd.C_drew ?_))); (case side2 => exact HC0_0.out); rintro e w12 ⟨rfl, hb⟩; refine ⟨_, rfl, ?_⟩; replace BK315 := BB BK315.out hb; replace HB := Aside0.mk (below_step (BL) hb); (try clear hb); (try clear hb2); (try clear hk); (try clear hi)) | ((with_reducible refine gate_callee (f := 38) rfl ?_); refine goesL_ (some 24) rfl rfl Try.func38 (by kernel_rfl) rfl #[.slice A1 l1.length c1, .int .i64 t316] rfl (MA) ?_; (with_reducible refine (laws_szActS.calls k _ _ l1 t316 t317 _ ?side1 ?side2 A8.out).mono ?_); (case side1 => repeat (first | exact (Kd.C_below HR1.out HB.out) | (with_reducible refine Kd.C_alloc ?_ _) | (with_reducible refine Kd.C_drewN ?_ _) | (with_reducible refine Kd.C_drew ?_))); (case side2 => exact HC1.out); rintro e w13 ⟨rfl, hb⟩; refine ⟨_, rfl, ?_⟩; replace BK315 := BB BK315.out hb; replace HB := Aside0.mk (below_step (BL) hb); (try clear hb); (try clear hb2); (try clear hk); (try clear hi)))
  go_ret
  exact ⟨EE, BL⟩
 rw [if_neg c9] at H
 have c9b0 : decide (t317 < 0) = false := decide_eq_false c9
 clear c9
 replace H := Option.bind_eq_some_iff.mp H
 obtain ⟨t318, A140, H⟩ := H
 replace H : ((laws_toActS.f k l1).bind fun t321 => ((spec_DoActs.f k t318 t321).bind fun bt324 => ((laws_toDisk.f k l0_0).bind fun t329 => ((laws_toActS.f k l1).bind fun t333 => ((impl_DoActs.f k t329 t333).bind fun bt336 => ((laws_eqDisk.f k bt336.1 bt324.1).bind fun t341 => (if t341 = true then (laws_FnExactDoActs.j0 k l1 bt324.2 t333 bt336.2 (bt336.2 != bt324.2) l0_0 bt324.1 t329 bt336.1) else (laws_FnExactDoActs.j0 k l1 bt324.2 t333 bt336.2 true l0_0 bt324.1 t329 bt336.1)))))))) = some r := H
 have A14 := Aside0.mk A140
 clear A140
 replace H := Option.bind_eq_some_iff.mp H
 obtain ⟨t321, A150, H⟩ := H
 replace H : ((spec_DoActs.f k t318 t321).bind fun bt324 => ((laws_toDisk.f k l0_0).bind fun t329 => ((laws_toActS.f k l1).bind fun t333 => ((impl_DoActs.f k t329 t333).bind fun bt336 => ((laws_eqDisk.f k bt336.1 bt324.1).bind fun t341 => (if t341 = true then (laws_FnExactDoActs.j0 k l1 bt324.2 t333 bt336.2 (bt336.2 != bt324.2) l0_0 bt324.1 t329 bt336.1) else (laws_FnExactDoActs.j0 k l1 bt324.2 t333 bt336.2 true l0_0 bt324.1 t329 bt336.1))))))) = some r := H
 have A15 := Aside0.mk A150
 clear A150
 replace H := Option.bind_eq_some_iff.mp H
 obtain ⟨⟨t324, t327⟩, A160, H⟩ := H
 replace H : ((laws_toDisk.f k l0_0).bind fun t329 => ((laws_toActS.f k l1).bind fun t333 => ((impl_DoActs.f k t329 t333).bind fun bt336 => ((laws_eqDisk.f k bt336.1 t324).bind fun t341 => (if t341 = true then (laws_FnExactDoActs.j0 k l1 t327 t333 bt336.2 (bt336.2 != t327) l0_0 t324 t329 bt336.1) else (laws_FnExactDoActs.j0 k l1 t327 t333 bt336.2 true l0_0 t324 t329 bt336.1)))))) = some r := H
 have A16 := Aside0.mk A160
 clear A160
 replace H := Option.bind_eq_some_iff.mp H
 obtain ⟨t329, A170, H⟩ := H
 replace H : ((laws_toActS.f k l1).bind fun t333 => ((impl_DoActs.f k t329 t333).bind fun bt336 => ((laws_eqDisk.f k bt336.1 t324).bind fun t341 => (if t341 = true then (laws_FnExactDoActs.j0 k l1 t327 t333 bt336.2 (bt336.2 != t327) l0_0 t324 t329 bt336.1) else (laws_FnExactDoActs.j0 k l1 t327 t333 bt336.2 true l0_0 t324 t329 bt336.1))))) = some r := H
 have A17 := Aside0.mk A170
 clear A170
 replace H := Option.bind_eq_some_iff.mp H
 obtain ⟨t333, A180, H⟩ := H
 replace H : ((impl_DoActs.f k t329 t333).bind fun bt336 => ((laws_eqDisk.f k bt336.1 t324).bind fun t341 => (if t341 = true then (laws_FnExactDoActs.j0 k l1 t327 t333 bt336.2 (bt336.2 != t327) l0_0 t324 t329 bt336.1) else (laws_FnExactDoActs.j0 k l1 t327 t333 bt336.2 true l0_0 t324 t329 bt336.1)))) = some r := H
 have A18 := Aside0.mk A180
 clear A180
 replace H := Option.bind_eq_some_iff.mp H
 obtain ⟨⟨t336, t339⟩, A190, H⟩ := H
 replace H : ((laws_eqDisk.f k t336 t324).bind fun t341 => (if t341 = true then (laws_FnExactDoActs.j0 k l1 t327 t333 t339 (t339 != t327) l0_0 t324 t329 t336) else (laws_FnExactDoActs.j0 k l1 t327 t333 t339 true l0_0 t324 t329 t336))) = some r := H
 have A19 := Aside0.mk A190
 clear A190
 have HC20 := Aside0.mk H
 clear H
 go_enter Try.func9, Try.ntmps9
 go_upto_region 12 with (first | ((with_reducible refine gate_dst (N := 2) rfl ?_); refine bE 2 #[.slice A0_0 l0_0.length c0_0] 24 ?_; intro gb315 hg w21 hbox hb; have BK315 := Aside0.mk (hbox); have GW315 : Aside0 (w.heap.size ≤ gb315) := GS; have GE315 : Aside0 (w.heap.size ≤ gb315) := GS; replace HB := Aside0.mk (below_step (BL) hb); clear hb hbox hg; have hcz22_0 : w21.cell? ⟨gb315, 0, none⟩ = some (.slice A0_0 l0_0.length c0_0) := CZ BK315.out 0; have hfz22_0 := blk_frozen BK315.out 0) | ((with_reducible refine gate_callee (f := 12) rfl ?_); refine goesL_ (some 19) rfl rfl Try.func12 (by kernel_rfl) rfl #[.agg #[.slice A0_0 l0_0.length c0_0], .int .i64 1048576] rfl (MA) ?_; (with_reducible refine (laws_szDisk.calls k _ _ l0_0 1048576 t316 _ ?side1 ?side2 A3.out).mono ?_); (case side1 => repeat (first | exact (Kd.C_below HR0_0.out HB.out) | (with_reducible refine Kd.C_alloc ?_ _) | (with_reducible refine Kd.C_drewN ?_ _) | (with_reducible refine Kd.C_drew ?_))); (case side2 => exact HC0_0.out); rintro e w23 ⟨rfl, hb⟩; refine ⟨_, rfl, ?_⟩; replace BK315 := BB BK315.out hb; replace HB := Aside0.mk (below_step (BL) hb); (try clear hb); (try clear hb2); (try clear hk); (try clear hi)) | ((with_reducible refine gate_callee (f := 38) rfl ?_); refine goesL_ (some 24) rfl rfl Try.func38 (by kernel_rfl) rfl #[.slice A1 l1.length c1, .int .i64 t316] rfl (MA) ?_; (with_reducible refine (laws_szActS.calls k _ _ l1 t316 t317 _ ?side1 ?side2 A8.out).mono ?_); (case side1 => repeat (first | exact (Kd.C_below HR1.out HB.out) | (with_reducible refine Kd.C_alloc ?_ _) | (with_reducible refine Kd.C_drewN ?_ _) | (with_reducible refine Kd.C_drew ?_))); (case side2 => exact HC1.out); rintro e w24 ⟨rfl, hb⟩; refine ⟨_, rfl, ?_⟩; replace BK315 := BB BK315.out hb; replace HB := Aside0.mk (below_step (BL) hb); (try clear hb); (try clear hb2); (try clear hk); (try clear hi); have hcz25_0 : w24.cell? ⟨gb315, 0, none⟩ = some (.slice A0_0 l0_0.length c0_0) := CZ BK315.out 0; have hfz25_0 := blk_frozen BK315.out 0) | ((with_reducible refine gate_callee (f := 14) rfl ?_); refine goesL_ (some 29) rfl rfl Try.func14 (by kernel_rfl) rfl #[.agg #[.slice A0_0 l0_0.length c0_0]] rfl (MA) ?_; (with_reducible refine (laws_toDisk.calls k _ _ l0_0 t318 _ ?side1 ?side2 A14.out).mono ?_); (case side1 => repeat (first | exact (Kd.C_below HR0_0.out HB.out) | (with_reducible refine Kd.C_alloc ?_ _) | (with_reducible refine Kd.C_drewN ?_ _) | (with_reducible refine Kd.C_drew ?_))); (case side2 => exact HC0_0.out); rintro e w26 ⟨v319, rfl, ho0, hb⟩; refine ⟨_, rfl, ?_⟩; have HO320 := Aside0.mk (Kd.R_lower ho0 (below_size (BL))); replace BK315 := BB BK315.out hb; replace HB := Aside0.mk (below_step (BL) hb); (try clear hb); (try clear hb2); (try clear hk); (try clear hi); (try clear ho0)) | ((with_reducible refine gate_callee (f := 40) rfl ?_); refine goesL_ (some 31) rfl rfl Try.func40 (by kernel_rfl) rfl #[.slice A1 l1.length c1] rfl (MA) ?_; (with_reducible refine (laws_toActS.calls k _ _ l1 t321 _ ?side1 ?side2 A15.out).mono ?_); (case side1 => repeat (first | exact (Kd.C_below HR1.out HB.out) | (with_reducible refine Kd.C_alloc ?_ _) | (with_reducible refine Kd.C_drewN ?_ _) | (with_reducible refine Kd.C_drew ?_))); (case side2 => exact HC1.out); rintro e w27 ⟨v322, rfl, ho0, hb⟩; refine ⟨_, rfl, ?_⟩; have HO323 := Aside0.mk (Kd.R_lower ho0 (below_size (BL))); replace HO320 := Aside0.mk (Kd.R_below (RQ HO320.out) hb); replace BK315 := BB BK315.out hb; replace HB := Aside0.mk (below_step (BL) hb); (try clear hb); (try clear hb2); (try clear hk); (try clear hi); (try clear ho0); obtain ⟨Ao28, co28, eo28⟩ := Kd.R_slice HO320.out; subst eo28; obtain ⟨Ao29, co29, eo29⟩ := Kd.R_slice HO323.out; subst eo29) | ((with_reducible refine gate_callee (f := 39) rfl ?_); refine goesL_ (some 32) rfl rfl Try.func39 (by kernel_rfl) rfl #[.agg #[.slice Ao28 t318.length co28], .slice Ao29 t321.length co29] rfl (MA) ?_; (with_reducible refine (spec_DoActs.calls k _ _ t318 _ _ t321 t324 t327 _ ?side1 ?side2 ?side3 ?side4 A16.out).mono ?_); (case side1 => repeat (first | exact (Kd.R_reads' HO320.out).2.2 | (with_reducible refine Kd.C_alloc ?_ _) | (with_reducible refine Kd.C_drewN ?_ _) | (with_reducible refine Kd.C_drew ?_))); (case side2 => exact (Kd.R_reads' HO320.out).2.1); (case side3 => repeat (first | exact (Kd.R_reads' HO323.out).2.2 | (with_reducible refine Kd.C_alloc ?_ _) | (with_reducible refine Kd.C_drewN ?_ _) | (with_reducible refine Kd.C_drew ?_))); (case side4 => exact (Kd.R_reads' HO323.out).2.1); rintro e w30 ⟨v325, rfl, ho0, hb⟩; refine ⟨_, rfl, ?_⟩; have HO326 := Aside0.mk (Kd.R_lower (Kd.R_new' ho0 (Kd.R_lt (RQ HO320.out))) (below_size (BL))); replace HO320 := Aside0.mk (Kd.R_elder' (RQ HO320.out) (Kd.R_base ho0) hb); replace HO323 := Aside0.mk (Kd.R_below (RQ HO323.out) hb); replace BK315 := BB BK315.out hb; replace HB := Aside0.mk (below_step (BL) hb); (try clear hb); (try clear hb2); (try clear hk); (try clear hi); (try clear ho0)) | ((with_reducible refine gate_dst (N := 6) rfl ?_); refine bE 6 #[.slice none 0 0] 29 ?_; intro gb328 hg w31 hbox hb; have BK328 := Aside0.mk (hbox); have GW328 : Aside0 (w.heap.size ≤ gb328) := GS; have GE328 : Aside0 (w.heap.size ≤ gb328) := GS; have NB315_328 := NL BK315.out hg; have NB328_315 := NG BK315.out hg; replace HO320 := Aside0.mk (Kd.R_below (RQ HO320.out) hb); replace HO323 := Aside0.mk (Kd.R_below (RQ HO323.out) hb); replace HO326 := Aside0.mk (Kd.R_below (RQ HO326.out) hb); replace BK315 := BB BK315.out hb; replace HB := Aside0.mk (below_step (BL) hb); clear hb hbox hg; obtain ⟨Ao32, co32, eo32⟩ := Kd.R_slice HO326.out; subst eo32; have hnb33 := NB328_315.out; have hnc33 := NB315_328.out; have hcz34_0 : w31.cell? ⟨gb328, 0, none⟩ = some (.slice none 0 0) := CZ BK328.out 0; have hfz34_0 := blk_frozen BK328.out 0; have hcz35_0 : w31.cell? ⟨gb315, 0, none⟩ = some (.slice A0_0 l0_0.length c0_0) := CZ BK315.out 0; have hfz35_0 := blk_frozen BK315.out 0) | ((with_reducible refine gate_callee (f := 14) rfl ?_); refine goesL_ (some 36) rfl rfl Try.func14 (by kernel_rfl) rfl #[.agg #[.slice A0_0 l0_0.length c0_0]] rfl (MA) ?_; (with_reducible refine (laws_toDisk.calls k _ _ l0_0 t329 _ ?side1 ?side2 A17.out).mono ?_); (case side1 => exact Kd.C_below HR0_0.out (BL)); (case side2 => exact HC0_0.out); rintro e w36 ⟨v330, rfl, ho0, hb⟩; refine ⟨_, rfl, ?_⟩; have HO331 := Aside0.mk (Kd.R_lower (Kd.R_new' (Kd.R_new' ho0 (Kd.R_lt (by (with_reducible repeat (first | apply r1 | apply r2 | apply r3)); exact (Kd.R_mono (Kd.R_far (p := ⟨gb328, 0, none⟩) (Kd.R_types HO320.out BK328.out (by decide)) (fun _ hk => hk.2) (.slice Ao32 t324.length co32)) (fun _ h_ => h_.1))))) (Kd.R_lt (by (with_reducible repeat (first | apply r1 | apply r2 | apply r3)); exact (Kd.R_mono (Kd.R_far (p := ⟨gb328, 0, none⟩) (Kd.R_types HO326.out BK328.out (by decide)) (fun _ hk => hk.2) (.slice Ao32 t324.length co32)) (fun _ h_ => h_.1))))) (below_size (BL))); replace HO320 := Aside0.mk (Kd.R_elder' (by (with_reducible repeat (first | apply r1 | apply r2 | apply r3)); exact (Kd.R_mono (Kd.R_far (p := ⟨gb328, 0, none⟩) (Kd.R_types HO320.out BK328.out (by decide)) (fun _ hk => hk.2) (.slice Ao32 t324.length co32)) (fun _ h_ => h_.1))) (Kd.R_base ho0) hb); replace HO323 := Aside0.mk (Kd.R_below (by (with_reducible repeat (first | apply r1 | apply r2 | apply r3)); exact (Kd.R_mono (Kd.R_far (p := ⟨gb328, 0, none⟩) (Kd.R_types HO323.out BK328.out (by decide)) (fun _ hk => hk.2) (.slice Ao32 t324.length co32)) (fun _ h_ => h_.1))) hb); replace HO326 := Aside0.mk (Kd.R_elder' (by (with_reducible repeat (first | apply r1 | apply r2 | apply r3)); exact (Kd.R_mono (Kd.R_far (p := ⟨gb328, 0, none⟩) (Kd.R_types HO326.out BK328.out (by decide)) (fun _ hk => hk.2) (.slice Ao32 t324.length co32)) (fun _ h_ => h_.1))) (Kd.R_base ho0) hb); replace BK315 := Aside0.mk (blk_below (g := gb315) (o := .cells #[.slice A0_0 l0_0.length c0_0] 24 (0, 0)) (by (with_reducible repeat (first | apply b1 | apply b2 | apply b3)); refine blk_far ?_ NB315_328.out _; (with_reducible repeat (first | apply b1 | apply b2 | apply b3)); exact BK315.out) hb); replace BK328 := Aside0.mk (blk_below (g := gb328) (o := .cells #[.slice Ao32 t324.length co32] 29 (0, 0)) (by (with_reducible repeat (first | apply b1 | apply b2 | apply b3)); refine blk_put (cs := #[.slice none 0 0]) ?_ 0 _ rfl; (with_reducible repeat (first | apply b1 | apply b2 | apply b3)); exact BK328.out) hb); replace HB := Aside0.mk (below_step (BL) hb); (try clear hb); (try clear hb2); (try clear hk); (try clear hi); (try clear ho0)) | ((with_reducible refine gate_dst (N := 8) rfl ?_); refine bE 8 #[.slice none 0 0] 29 ?_; intro gb332 hg w37 hbox hb; have BK332 := Aside0.mk (hbox); have GW332 : Aside0 (w.heap.size ≤ gb332) := GS; have GE332 : Aside0 (w.heap.size ≤ gb332) := GS; have NB315_332 := NL BK315.out hg; have NB332_315 := NG BK315.out hg; have NB328_332 := NL BK328.out hg; have NB332_328 := NG BK328.out hg; replace HO320 := Aside0.mk (Kd.R_below (RQ HO320.out) hb); replace HO323 := Aside0.mk (Kd.R_below (RQ HO323.out) hb); replace HO326 := Aside0.mk (Kd.R_below (RQ HO326.out) hb); replace HO331 := Aside0.mk (Kd.R_below (RQ HO331.out) hb); replace BK315 := BB BK315.out hb; replace BK328 := BB BK328.out hb; replace HB := Aside0.mk (below_step (BL) hb); clear hb hbox hg; obtain ⟨Ao38, co38, eo38⟩ := Kd.R_slice HO331.out; subst eo38; have hnb39 := NB332_315.out; have hnc39 := NB315_332.out; have hnb40 := NB332_328.out; have hnc40 := NB328_332.out; have hcz41_0 : w37.cell? ⟨gb332, 0, none⟩ = some (.slice none 0 0) := CZ BK332.out 0; have hfz41_0 := blk_frozen BK332.out 0) | ((with_reducible refine gate_callee (f := 40) rfl ?_); refine goesL_ (some 38) rfl rfl Try.func40 (by kernel_rfl) rfl #[.slice A1 l1.length c1] rfl (MA) ?_; (with_reducible refine (laws_toActS.calls k _ _ l1 t333 _ ?side1 ?side2 A18.out).mono ?_); (case side1 => exact Kd.C_below HR1.out (BL)); (case side2 => exact HC1.out); rintro e w42 ⟨v334, rfl, ho0, hb⟩; refine ⟨_, rfl, ?_⟩; have HO335 := Aside0.mk (Kd.R_lower (Kd.R_new' ho0 (Kd.R_lt (by (with_reducible repeat (first | apply r1 | apply r2 | apply r3)); exact (Kd.R_mono (Kd.R_far (p := ⟨gb332, 0, none⟩) (Kd.R_types HO323.out BK332.out (by decide)) (fun _ hk => hk.2) (.slice Ao38 t329.length co38)) (fun _ h_ => h_.1))))) (below_size (BL))); replace HO320 := Aside0.mk (Kd.R_below (by (with_reducible repeat (first | apply r1 | apply r2 | apply r3)); exact (Kd.R_mono (Kd.R_far (p := ⟨gb332, 0, none⟩) (Kd.R_types HO320.out BK332.out (by decide)) (fun _ hk => hk.2) (.slice Ao38 t329.length co38)) (fun _ h_ => h_.1))) hb); replace HO323 := Aside0.mk (Kd.R_elder' (by (with_reducible repeat (first | apply r1 | apply r2 | apply r3)); exact (Kd.R_mono (Kd.R_far (p := ⟨gb332, 0, none⟩) (Kd.R_types HO323.out BK332.out (by decide)) (fun _ hk => hk.2) (.slice Ao38 t329.length co38)) (fun _ h_ => h_.1))) (Kd.R_base ho0) hb); replace HO326 := Aside0.mk (Kd.R_below (by (with_reducible repeat (first | apply r1 | apply r2 | apply r3)); exact (Kd.R_mono (Kd.R_far (p := ⟨gb332, 0, none⟩) (Kd.R_types HO326.out BK332.out (by decide)) (fun _ hk => hk.2) (.slice Ao38 t329.length co38)) (fun _ h_ => h_.1))) hb); replace HO331 := Aside0.mk (Kd.R_below (by (with_reducible repeat (first | apply r1 | apply r2 | apply r3)); exact (Kd.R_mono (Kd.R_far (p := ⟨gb332, 0, none⟩) (Kd.R_types HO331.out BK332.out (by decide)) (fun _ hk => hk.2) (.slice Ao38 t329.length co38)) (fun _ h_ => h_.1))) hb); replace BK315 := Aside0.mk (blk_below (g := gb315) (o := .cells #[.slice A0_0 l0_0.length c0_0] 24 (0, 0)) (by (with_reducible repeat (first | apply b1 | apply b2 | apply b3)); refine blk_far ?_ NB315_332.out _; (with_reducible repeat (first | apply b1 | apply b2 | apply b3)); exact BK315.out) hb); replace BK328 := Aside0.mk (blk_below (g := gb328) (o := .cells #[.slice Ao32 t324.length co32] 29 (0, 0)) (by (with_reducible repeat (first | apply b1 | apply b2 | apply b3)); refine blk_far ?_ NB328_332.out _; (with_reducible repeat (first | apply b1 | apply b2 | apply b3)); exact BK328.out) hb); replace BK332 := Aside0.mk (blk_below (g := gb332) (o := .cells #[.slice Ao38 t329.length co38] 29 (0, 0)) (by (with_reducible repeat (first | apply b1 | apply b2 | apply b3)); refine blk_put (cs := #[.slice none 0 0]) ?_ 0 _ rfl; (with_reducible repeat (first | apply b1 | apply b2 | apply b3)); exact BK332.out) hb); replace HB := Aside0.mk (below_step (BL) hb); (try clear hb); (try clear hb2); (try clear hk); (try clear hi); (try clear ho0); have hcz43_0 : w42.cell? ⟨gb332, 0, none⟩ = some (.slice Ao38 t329.length co38) := CZ BK332.out 0; have hfz43_0 := blk_frozen BK332.out 0; obtain ⟨Ao44, co44, eo44⟩ := Kd.R_slice HO335.out; subst eo44) | ((with_reducible refine gate_callee (f := 41) rfl ?_); refine goesL_ (some 42) rfl rfl Try.func41 (by kernel_rfl) rfl #[.agg #[.slice Ao38 t329.length co38], .slice Ao44 t333.length co44] rfl (MA) ?_; (with_reducible refine (impl_DoActs.calls k _ _ t329 _ _ t333 t336 t339 _ ?side1 ?side2 ?side3 ?side4 A19.out).mono ?_); (case side1 => repeat (first | exact (Kd.R_reads' HO331.out).2.2 | (with_reducible refine Kd.C_alloc ?_ _) | (with_reducible refine Kd.C_drewN ?_ _) | (with_reducible refine Kd.C_drew ?_))); (case side2 => exact (Kd.R_reads' HO331.out).2.1); (case side3 => repeat (first | exact (Kd.R_reads' HO335.out).2.2 | (with_reducible refine Kd.C_alloc ?_ _) | (with_reducible refine Kd.C_drewN ?_ _) | (with_reducible refine Kd.C_drew ?_))); (case side4 => exact (Kd.R_reads' HO335.out).2.1); rintro e w45 ⟨v337, rfl, ho0, hb⟩; refine ⟨_, rfl, ?_⟩; have HO338 := Aside0.mk (Kd.R_lower (Kd.R_new' (Kd.R_new' (Kd.R_new' ho0 (Kd.R_lt (RQ HO320.out))) (Kd.R_lt (RQ HO326.out))) (Kd.R_lt (RQ HO331.out))) (below_size (BL))); replace HO320 := Aside0.mk (Kd.R_elder' (RQ HO320.out) (Kd.R_base ho0) hb); replace HO323 := Aside0.mk (Kd.R_below (RQ HO323.out) hb); replace HO326 := Aside0.mk (Kd.R_elder' (RQ HO326.out) (Kd.R_base ho0) hb); replace HO331 := Aside0.mk (Kd.R_elder' (RQ HO331.out) (Kd.R_base ho0) hb); replace HO335 := Aside0.mk (Kd.R_below (RQ HO335.out) hb); replace BK315 := BB BK315.out hb; replace BK328 := BB BK328.out hb; replace BK332 := BB BK332.out hb; replace HB := Aside0.mk (below_step (BL) hb); (try clear hb); (try clear hb2); (try clear hk); (try clear hi); (try clear ho0)) | ((with_reducible refine gate_dst (N := 10) rfl ?_); refine bE 10 #[.slice none 0 0] 29 ?_; intro gb340 hg w46 hbox hb; have BK340 := Aside0.mk (hbox); have GW340 : Aside0 (w.heap.size ≤ gb340) := GS; have GE340 : Aside0 (w.heap.size ≤ gb340) := GS; have NB315_340 := NL BK315.out hg; have NB340_315 := NG BK315.out hg; have NB328_340 := NL BK328.out hg; have NB340_328 := NG BK328.out hg; have NB332_340 := NL BK332.out hg; have NB340_332 := NG BK332.out hg; replace HO320 := Aside0.mk (Kd.R_below (RQ HO320.out) hb); replace HO323 := Aside0.mk (Kd.R_below (RQ HO323.out) hb); replace HO326 := Aside0.mk (Kd.R_below (RQ HO326.out) hb); replace HO331 := Aside0.mk (Kd.R_below (RQ HO331.out) hb); replace HO335 := Aside0.mk (Kd.R_below (RQ HO335.out) hb); replace HO338 := Aside0.mk (Kd.R_below (RQ HO338.out) hb); replace BK315 := BB BK315.out hb; replace BK328 := BB BK328.out hb; replace BK332 := BB BK332.out hb; replace HB := Aside0.mk (below_step (BL) hb); clear hb hbox hg; obtain ⟨Ao47, co47, eo47⟩ := Kd.R_slice HO338.out; subst eo47; have hnb48 := NB340_315.out; have hnc48 := NB315_340.out; have hnb49 := NB340_328.out; have hnc49 := NB328_340.out; have hnb50 := NB340_332.out; have hnc50 := NB332_340.out; have hcz51_0 : w46.cell? ⟨gb340, 0, none⟩ = some (.slice none 0 0) := CZ BK340.out 0; have hfz51_0 := blk_frozen BK340.out 0))
 (try simp only [Act.put, zA, zB, zC])
 go_cut [53] (fun v53 wc => ∃ (kq : Nat) (x53_19 : Bool), v53 = .bool x53_19 ∧ Aside0 (laws_FnExactDoActs.j0 kq l1 t327 t333 t339 x53_19 l0_0 t324 t329 t336 = some r) ∧ Aside0 (kq ≤ k) ∧ Aside0 (Kd.R k55 55 wc w.heap.size (fun _ => True) (.slice Ao44 t333.length co44) t333) ∧ Aside0 (Kd.R k45 45 wc w.heap.size (fun k_ => some k_ ≠ ((.slice Ao38 t329.length co38) : Value).ownBlock ∧ some k_ ≠ ((.slice Ao47 t336.length co47) : Value).ownBlock) (.slice Ao32 t324.length co32) t324) ∧ Aside0 (Kd.R k45 45 wc w.heap.size (fun k_ => some k_ ≠ ((.slice Ao32 t324.length co32) : Value).ownBlock ∧ some k_ ≠ ((.slice Ao47 t336.length co47) : Value).ownBlock) (.slice Ao38 t329.length co38) t329) ∧ Aside0 (Kd.R k45 45 wc w.heap.size (fun k_ => some k_ ≠ ((.slice Ao32 t324.length co32) : Value).ownBlock ∧ some k_ ≠ ((.slice Ao38 t329.length co38) : Value).ownBlock) (.slice Ao47 t336.length co47) t336) ∧ Aside0 (wc.heap[gb315]? = some (.cells #[(.slice A0_0 l0_0.length c0_0)] 24 (0, 0))) ∧ Aside0 (wc.heap[gb328]? = some (.cells #[(.slice Ao32 t324.length co32)] 29 (0, 0))) ∧ Aside0 (wc.heap[gb332]? = some (.cells #[(.slice Ao38 t329.length co38)] 29 (0, 0))) ∧ Aside0 (wc.heap[gb340]? = some (.cells #[(.slice Ao47 t336.length co47)] 29 (0, 0))) ∧ Aside0 (Below w.heap.size w wc))
 case first =>
  have H := HC20.out
  clear HC20
  replace H := Option.bind_eq_some_iff.mp H
  obtain ⟨t341, A520, H⟩ := H
  replace H : (if t341 = true then (laws_FnExactDoActs.j0 k l1 t327 t333 t339 (t339 != t327) l0_0 t324 t329 t336) else (laws_FnExactDoActs.j0 k l1 t327 t333 t339 true l0_0 t324 t329 t336)) = some r := H
  have A52 := Aside0.mk A520
  clear A520
  by_cases c53 : t341 = true
  ·
   subst c53
   have H1 : (laws_FnExactDoActs.j0 k l1 t327 t333 t339 (t339 != t327) l0_0 t324 t329 t336) = some r := by rw [if_pos rfl] at H; exact H
   clear H
   have H := H1
   clear H1
   have H' := Aside0.mk H
   clear H
   have hnb54 := NB340_315.out
   have hnc54 := NB315_340.out
   have hnb55 := NB340_328.out
   have hnc55 := NB328_340.out
   have hnb56 := NB340_332.out
   have hnc56 := NB332_340.out
   have hcz57_0 : w46.cell? ⟨gb340, 0, none⟩ = some (.slice none 0 0) := CZ BK340.out 0
   have hfz57_0 := blk_frozen BK340.out 0
   have hnb58 := NB328_315.out
   have hnc58 := NB315_328.out
   have hnb59 := NB328_332.out
   have hnc59 := NB332_328.out
   have hcz60_0 : w46.cell? ⟨gb328, 0, none⟩ = some (.slice Ao32 t324.length co32) := CZ BK328.out 0
   have hfz60_0 := blk_frozen BK328.out 0
   go_wp2_with (first | ((with_reducible refine gate_callee (f := 16) rfl ?_); refine goesL_ (some 47) rfl rfl Try.func16 (by kernel_rfl) rfl #[.agg #[.slice Ao47 t336.length co47], .agg #[.slice Ao32 t324.length co32]] rfl (MA) ?_; (with_reducible refine (laws_eqDisk.calls k _ _ t336 _ _ t324 true _ ?side1 ?side2 ?side3 ?side4 A52.out).mono ?_); (case side1 => refine (Kd.R_reads' (e := 45) (base := w.heap.size) (ok := fun k_ => (((True ∧ some k_ ≠ (.slice Ao28 t318.length co28 : Value).ownBlock) ∧ some k_ ≠ (.slice Ao32 t324.length co32 : Value).ownBlock) ∧ some k_ ≠ (.slice Ao38 t329.length co38 : Value).ownBlock)) (n := t336.length) (c := co47) ?_).2.2; exact (by (with_reducible repeat (first | apply r1 | apply r2 | apply r3)); exact (Kd.R_mono (Kd.R_far (p := ⟨gb340, 0, none⟩) (Kd.R_types HO338.out BK340.out (by decide)) (fun _ hk => hk.2) (.slice Ao47 t336.length co47)) (fun _ h_ => h_.1)))); (case side2 => exact (Kd.R_reads' HO338.out).2.1); (case side3 => refine (Kd.R_reads' (e := 45) (base := w.heap.size) (ok := fun k_ => (((True ∧ some k_ ≠ (.slice Ao28 t318.length co28 : Value).ownBlock) ∧ some k_ ≠ (.slice Ao38 t329.length co38 : Value).ownBlock) ∧ some k_ ≠ (.slice Ao47 t336.length co47 : Value).ownBlock)) (n := t324.length) (c := co32) ?_).2.2; exact (by (with_reducible repeat (first | apply r1 | apply r2 | apply r3)); exact (Kd.R_mono (Kd.R_far (p := ⟨gb340, 0, none⟩) (Kd.R_types HO326.out BK340.out (by decide)) (fun _ hk => hk.2) (.slice Ao47 t336.length co47)) (fun _ h_ => h_.1)))); (case side4 => exact (Kd.R_reads' HO326.out).2.1); rintro e w61 ⟨rfl, hb⟩; refine ⟨_, rfl, ?_⟩; replace HO320 := Aside0.mk (Kd.R_below (by (with_reducible repeat (first | apply r1 | apply r2 | apply r3)); exact (Kd.R_mono (Kd.R_far (p := ⟨gb340, 0, none⟩) (Kd.R_types HO320.out BK340.out (by decide)) (fun _ hk => hk.2) (.slice Ao47 t336.length co47)) (fun _ h_ => h_.1))) hb); replace HO323 := Aside0.mk (Kd.R_below (by (with_reducible repeat (first | apply r1 | apply r2 | apply r3)); exact (Kd.R_mono (Kd.R_far (p := ⟨gb340, 0, none⟩) (Kd.R_types HO323.out BK340.out (by decide)) (fun _ hk => hk.2) (.slice Ao47 t336.length co47)) (fun _ h_ => h_.1))) hb); replace HO326 := Aside0.mk (Kd.R_below (by (with_reducible repeat (first | apply r1 | apply r2 | apply r3)); exact (Kd.R_mono (Kd.R_far (p := ⟨gb340, 0, none⟩) (Kd.R_types HO326.out BK340.out (by decide)) (fun _ hk => hk.2) (.slice Ao47 t336.length co47)) (fun _ h_ => h_.1))) hb); replace HO331 := Aside0.mk (Kd.R_below (by (with_reducible repeat (first | apply r1 | apply r2 | apply r3)); exact (Kd.R_mono (Kd.R_far (p := ⟨gb340, 0, none⟩) (Kd.R_types HO331.out BK340.out (by decide)) (fun _ hk => hk.2) (.slice Ao47 t336.length co47)) (fun _ h_ => h_.1))) hb); replace HO335 := Aside0.mk (Kd.R_below (by (with_reducible repeat (first | apply r1 | apply r2 | apply r3)); exact (Kd.R_mono (Kd.R_far (p := ⟨gb340, 0, none⟩) (Kd.R_types HO335.out BK340.out (by decide)) (fun _ hk => hk.2) (.slice Ao47 t336.length co47)) (fun _ h_ => h_.1))) hb); replace HO338 := Aside0.mk (Kd.R_below (by (with_reducible repeat (first | apply r1 | apply r2 | apply r3)); exact (Kd.R_mono (Kd.R_far (p := ⟨gb340, 0, none⟩) (Kd.R_types HO338.out BK340.out (by decide)) (fun _ hk => hk.2) (.slice Ao47 t336.length co47)) (fun _ h_ => h_.1))) hb); replace BK315 := Aside0.mk (blk_below (g := gb315) (o := .cells #[.slice A0_0 l0_0.length c0_0] 24 (0, 0)) (by (with_reducible repeat (first | apply b1 | apply b2 | apply b3)); refine blk_far ?_ NB315_340.out _; (with_reducible repeat (first | apply b1 | apply b2 | apply b3)); exact BK315.out) hb); replace BK328 := Aside0.mk (blk_below (g := gb328) (o := .cells #[.slice Ao32 t324.length co32] 29 (0, 0)) (by (with_reducible repeat (first | apply b1 | apply b2 | apply b3)); refine blk_far ?_ NB328_340.out _; (with_reducible repeat (first | apply b1 | apply b2 | apply b3)); exact BK328.out) hb); replace BK332 := Aside0.mk (blk_below (g := gb332) (o := .cells #[.slice Ao38 t329.length co38] 29 (0, 0)) (by (with_reducible repeat (first | apply b1 | apply b2 | apply b3)); refine blk_far ?_ NB332_340.out _; (with_reducible repeat (first | apply b1 | apply b2 | apply b3)); exact BK332.out) hb); replace BK340 := Aside0.mk (blk_below (g := gb340) (o := .cells #[.slice Ao47 t336.length co47] 29 (0, 0)) (by (with_reducible repeat (first | apply b1 | apply b2 | apply b3)); refine blk_put (cs := #[.slice none 0 0]) ?_ 0 _ rfl; (with_reducible repeat (first | apply b1 | apply b2 | apply b3)); exact BK340.out) hb); replace HB := Aside0.mk (below_step (BL) hb); (try clear hb); (try clear hb2); (try clear hk); (try clear hi)))
   go_meet
   case rel => exact ⟨_, ((t339 != t327)), SD, H', ⟨by first | omega | exact Nat.le_refl _⟩, ⟨by (with_reducible repeat (first | apply r1 | apply r2 | apply r3)); exact Kd.R_mono HO335.out (fun _ hk => trivial)⟩, ⟨by (with_reducible repeat (first | apply r1 | apply r2 | apply r3)); exact Kd.R_mono HO326.out (fun _ hk => ⟨hk.1.2, hk.2⟩)⟩, ⟨by (with_reducible repeat (first | apply r1 | apply r2 | apply r3)); exact Kd.R_mono HO331.out (fun _ hk => ⟨hk.1.2, hk.2⟩)⟩, ⟨by (with_reducible repeat (first | apply r1 | apply r2 | apply r3)); exact Kd.R_mono HO338.out (fun _ hk => ⟨hk.1.2, hk.2⟩)⟩, ⟨BQ BK315.out⟩, ⟨BQ BK328.out⟩, ⟨BQ BK332.out⟩, ⟨BQ BK340.out⟩, ⟨BL⟩⟩
  replace c53 := Bool.eq_false_iff.mpr c53
  subst c53
  have H1 : (laws_FnExactDoActs.j0 k l1 t327 t333 t339 true l0_0 t324 t329 t336) = some r := by rw [if_neg (show ¬ (false = true) by decide)] at H; exact H
  clear H
  have H := H1
  clear H1
  have H' := Aside0.mk H
  clear H
  have hnb62 := NB340_315.out
  have hnc62 := NB315_340.out
  have hnb63 := NB340_328.out
  have hnc63 := NB328_340.out
  have hnb64 := NB340_332.out
  have hnc64 := NB332_340.out
  have hcz65_0 : w46.cell? ⟨gb340, 0, none⟩ = some (.slice none 0 0) := CZ BK340.out 0
  have hfz65_0 := blk_frozen BK340.out 0
  have hnb66 := NB328_315.out
  have hnc66 := NB315_328.out
  have hnb67 := NB328_332.out
  have hnc67 := NB332_328.out
  have hcz68_0 : w46.cell? ⟨gb328, 0, none⟩ = some (.slice Ao32 t324.length co32) := CZ BK328.out 0
  have hfz68_0 := blk_frozen BK328.out 0
  go_wp2_with (first | ((with_reducible refine gate_callee (f := 16) rfl ?_); refine goesL_ (some 47) rfl rfl Try.func16 (by kernel_rfl) rfl #[.agg #[.slice Ao47 t336.length co47], .agg #[.slice Ao32 t324.length co32]] rfl (MA) ?_; (with_reducible refine (laws_eqDisk.calls k _ _ t336 _ _ t324 false _ ?side1 ?side2 ?side3 ?side4 A52.out).mono ?_); (case side1 => refine (Kd.R_reads' (e := 45) (base := w.heap.size) (ok := fun k_ => (((True ∧ some k_ ≠ (.slice Ao28 t318.length co28 : Value).ownBlock) ∧ some k_ ≠ (.slice Ao32 t324.length co32 : Value).ownBlock) ∧ some k_ ≠ (.slice Ao38 t329.length co38 : Value).ownBlock)) (n := t336.length) (c := co47) ?_).2.2; exact (by (with_reducible repeat (first | apply r1 | apply r2 | apply r3)); exact (Kd.R_mono (Kd.R_far (p := ⟨gb340, 0, none⟩) (Kd.R_types HO338.out BK340.out (by decide)) (fun _ hk => hk.2) (.slice Ao47 t336.length co47)) (fun _ h_ => h_.1)))); (case side2 => exact (Kd.R_reads' HO338.out).2.1); (case side3 => refine (Kd.R_reads' (e := 45) (base := w.heap.size) (ok := fun k_ => (((True ∧ some k_ ≠ (.slice Ao28 t318.length co28 : Value).ownBlock) ∧ some k_ ≠ (.slice Ao38 t329.length co38 : Value).ownBlock) ∧ some k_ ≠ (.slice Ao47 t336.length co47 : Value).ownBlock)) (n := t324.length) (c := co32) ?_).2.2; exact (by (with_reducible repeat (first | apply r1 | apply r2 | apply r3)); exact (Kd.R_mono (Kd.R_far (p := ⟨gb340, 0, none⟩) (Kd.R_types HO326.out BK340.out (by decide)) (fun _ hk => hk.2) (.slice Ao47 t336.length co47)) (fun _ h_ => h_.1)))); (case side4 => exact (Kd.R_reads' HO326.out).2.1); rintro e w69 ⟨rfl, hb⟩; refine ⟨_, rfl, ?_⟩; replace HO320 := Aside0.mk (Kd.R_below (by (with_reducible repeat (first | apply r1 | apply r2 | apply r3)); exact (Kd.R_mono (Kd.R_far (p := ⟨gb340, 0, none⟩) (Kd.R_types HO320.out BK340.out (by decide)) (fun _ hk => hk.2) (.slice Ao47 t336.length co47)) (fun _ h_ => h_.1))) hb); replace HO323 := Aside0.mk (Kd.R_below (by (with_reducible repeat (first | apply r1 | apply r2 | apply r3)); exact (Kd.R_mono (Kd.R_far (p := ⟨gb340, 0, none⟩) (Kd.R_types HO323.out BK340.out (by decide)) (fun _ hk => hk.2) (.slice Ao47 t336.length co47)) (fun _ h_ => h_.1))) hb); replace HO326 := Aside0.mk (Kd.R_below (by (with_reducible repeat (first | apply r1 | apply r2 | apply r3)); exact (Kd.R_mono (Kd.R_far (p := ⟨gb340, 0, none⟩) (Kd.R_types HO326.out BK340.out (by decide)) (fun _ hk => hk.2) (.slice Ao47 t336.length co47)) (fun _ h_ => h_.1))) hb); replace HO331 := Aside0.mk (Kd.R_below (by (with_reducible repeat (first | apply r1 | apply r2 | apply r3)); exact (Kd.R_mono (Kd.R_far (p := ⟨gb340, 0, none⟩) (Kd.R_types HO331.out BK340.out (by decide)) (fun _ hk => hk.2) (.slice Ao47 t336.length co47)) (fun _ h_ => h_.1))) hb); replace HO335 := Aside0.mk (Kd.R_below (by (with_reducible repeat (first | apply r1 | apply r2 | apply r3)); exact (Kd.R_mono (Kd.R_far (p := ⟨gb340, 0, none⟩) (Kd.R_types HO335.out BK340.out (by decide)) (fun _ hk => hk.2) (.slice Ao47 t336.length co47)) (fun _ h_ => h_.1))) hb); replace HO338 := Aside0.mk (Kd.R_below (by (with_reducible repeat (first | apply r1 | apply r2 | apply r3)); exact (Kd.R_mono (Kd.R_far (p := ⟨gb340, 0, none⟩) (Kd.R_types HO338.out BK340.out (by decide)) (fun _ hk => hk.2) (.slice Ao47 t336.length co47)) (fun _ h_ => h_.1))) hb); replace BK315 := Aside0.mk (blk_below (g := gb315) (o := .cells #[.slice A0_0 l0_0.length c0_0] 24 (0, 0)) (by (with_reducible repeat (first | apply b1 | apply b2 | apply b3)); refine blk_far ?_ NB315_340.out _; (with_reducible repeat (first | apply b1 | apply b2 | apply b3)); exact BK315.out) hb); replace BK328 := Aside0.mk (blk_below (g := gb328) (o := .cells #[.slice Ao32 t324.length co32] 29 (0, 0)) (by (with_reducible repeat (first | apply b1 | apply b2 | apply b3)); refine blk_far ?_ NB328_340.out _; (with_reducible repeat (first | apply b1 | apply b2 | apply b3)); exact BK328.out) hb); replace BK332 := Aside0.mk (blk_below (g := gb332) (o := .cells #[.slice Ao38 t329.length co38] 29 (0, 0)) (by (with_reducible repeat (first | apply b1 | apply b2 | apply b3)); refine blk_far ?_ NB332_340.out _; (with_reducible repeat (first | apply b1 | apply b2 | apply b3)); exact BK332.out) hb); replace BK340 := Aside0.mk (blk_below (g := gb340) (o := .cells #[.slice Ao47 t336.length co47] 29 (0, 0)) (by (with_reducible repeat (first | apply b1 | apply b2 | apply b3)); refine blk_put (cs := #[.slice none 0 0]) ?_ 0 _ rfl; (with_reducible repeat (first | apply b1 | apply b2 | apply b3)); exact BK340.out) hb); replace HB := Aside0.mk (below_step (BL) hb); (try clear hb); (try clear hb2); (try clear hk); (try clear hi)))
  go_meet
  case rel => exact ⟨_, (true), SD, H', ⟨by first | omega | exact Nat.le_refl _⟩, ⟨by (with_reducible repeat (first | apply r1 | apply r2 | apply r3)); exact Kd.R_mono HO335.out (fun _ hk => trivial)⟩, ⟨by (with_reducible repeat (first | apply r1 | apply r2 | apply r3)); exact Kd.R_mono HO326.out (fun _ hk => ⟨hk.1.2, hk.2⟩)⟩, ⟨by (with_reducible repeat (first | apply r1 | apply r2 | apply r3)); exact Kd.R_mono HO331.out (fun _ hk => ⟨hk.1.2, hk.2⟩)⟩, ⟨by (with_reducible repeat (first | apply r1 | apply r2 | apply r3)); exact Kd.R_mono HO338.out (fun _ hk => ⟨hk.1.2, hk.2⟩)⟩, ⟨BQ BK315.out⟩, ⟨BQ BK328.out⟩, ⟨BQ BK332.out⟩, ⟨BQ BK340.out⟩, ⟨BL⟩⟩
 case rest =>
  clear HC20
  try clear c1
  try clear p2
  try clear c3
  try clear c4
  try clear c4b0
  try clear c5
  try clear c6
  try clear c9
  try clear c9b0
  try clear c12
  try clear c14
  try clear c16
  try clear c33
  try clear c38
  try clear c39
  try clear c40
  try clear c41
  try clear c48
  try clear c49
  try clear c50
  try clear c53
  try clear c54
  try clear c55
  try clear c56
  try clear c58
  try clear c59
  try clear c62
  try clear c63
  try clear c64
  try clear c66
  try clear c67
  try clear hcz11_0
  try clear hcz22_0
  try clear hcz25_0
  try clear hcz34_0
  try clear hcz35_0
  try clear hcz41_0
  try clear hcz43_0
  try clear hcz51_0
  try clear hcz57_0
  try clear hcz60_0
  try clear hcz65_0
  try clear hcz68_0
  try clear hcz6_0
  try clear hfz11_0
  try clear hfz22_0
  try clear hfz25_0
  try clear hfz34_0
  try clear hfz35_0
  try clear hfz41_0
  try clear hfz43_0
  try clear hfz51_0
  try clear hfz57_0
  try clear hfz60_0
  try clear hfz65_0
  try clear hfz68_0
  try clear hfz6_0
  obtain ⟨kq, x53_19, rfl, HA, HJ19, HO_9, HO_329000, HO_333000, HO_341000, BK315, BK328, BK332, BK340, HB⟩ := hcut
  cases kq with
  | zero => exact absurd HA.out (by simp [laws_FnExactDoActs.j0])
  | succ kj19 =>
   have H := HA.out
   clear HA
   simp only [laws_FnExactDoActs.j0] at H
   by_cases c70 : x53_19 = true
   ·
    subst c70
    have H1 : (none) = some r := by rw [if_pos rfl] at H; exact H
    clear H
    have H := H1
    clear H1
    exact absurd H (by simp)
   replace c70 := Bool.eq_false_iff.mpr c70
   subst c70
   have H1 : ((laws_toDisk.f kj19 l0_0).bind fun t342 => ((laws_eqDisk.f kj19 t329 t342).bind fun t345 => (if t345 = true then ((laws_toActS.f kj19 l1).bind fun t346 => ((laws_eqActS.f kj19 t333 t346).bind fun t349 => (if t349 = true then ((laws_markDisk.f kj19 t329 1).bind fun bt350 => ((laws_markActS.f kj19 t333 bt350.1).bind fun bt352 => (if bt352.1 < 0 then (laws_FnExactDoActs.j1 kj19 l1 t327 true l0_0 t324 t336) else ((laws_eqDisk.f kj19 t336 t324).bind fun t354 => (if t354 = true then (laws_FnExactDoActs.j1 kj19 l1 t327 (t339 != t327) l0_0 t324 t336) else (laws_FnExactDoActs.j1 kj19 l1 t327 true l0_0 t324 t336)))))) else (none)))) else (none)))) = some r := by rw [if_neg (show ¬ (false = true) by decide)] at H; exact H
   clear H
   have H := H1
   clear H1
   replace H := Option.bind_eq_some_iff.mp H
   obtain ⟨t342, A710, H⟩ := H
   replace H : ((laws_eqDisk.f kj19 t329 t342).bind fun t345 => (if t345 = true then ((laws_toActS.f kj19 l1).bind fun t346 => ((laws_eqActS.f kj19 t333 t346).bind fun t349 => (if t349 = true then ((laws_markDisk.f kj19 t329 1).bind fun bt350 => ((laws_markActS.f kj19 t333 bt350.1).bind fun bt352 => (if bt352.1 < 0 then (laws_FnExactDoActs.j1 kj19 l1 t327 true l0_0 t324 t336) else ((laws_eqDisk.f kj19 t336 t324).bind fun t354 => (if t354 = true then (laws_FnExactDoActs.j1 kj19 l1 t327 (t339 != t327) l0_0 t324 t336) else (laws_FnExactDoActs.j1 kj19 l1 t327 true l0_0 t324 t336)))))) else (none)))) else (none))) = some r := H
   have A71 := Aside0.mk A710
   clear A710
   replace H := Option.bind_eq_some_iff.mp H
   obtain ⟨t345, A720, H⟩ := H
   replace H : (if t345 = true then ((laws_toActS.f kj19 l1).bind fun t346 => ((laws_eqActS.f kj19 t333 t346).bind fun t349 => (if t349 = true then ((laws_markDisk.f kj19 t329 1).bind fun bt350 => ((laws_markActS.f kj19 t333 bt350.1).bind fun bt352 => (if bt352.1 < 0 then (laws_FnExactDoActs.j1 kj19 l1 t327 true l0_0 t324 t336) else ((laws_eqDisk.f kj19 t336 t324).bind fun t354 => (if t354 = true then (laws_FnExactDoActs.j1 kj19 l1 t327 (t339 != t327) l0_0 t324 t336) else (laws_FnExactDoActs.j1 kj19 l1 t327 true l0_0 t324 t336)))))) else (none)))) else (none)) = some r := H
   have A72 := Aside0.mk A720
   clear A720
   by_cases c73 : t345 = true; rotate_left
   ·
    replace c73 := Bool.eq_false_iff.mpr c73
    subst c73
    have H1 : (none) = some r := by rw [if_neg (show ¬ (false = true) by decide)] at H; exact H
    clear H
    have H := H1
    clear H1
    exact absurd H (by simp)
   subst c73
   have H1 : ((laws_toActS.f kj19 l1).bind fun t346 => ((laws_eqActS.f kj19 t333 t346).bind fun t349 => (if t349 = true then ((laws_markDisk.f kj19 t329 1).bind fun bt350 => ((laws_markActS.f kj19 t333 bt350.1).bind fun bt352 => (if bt352.1 < 0 then (laws_FnExactDoActs.j1 kj19 l1 t327 true l0_0 t324 t336) else ((laws_eqDisk.f kj19 t336 t324).bind fun t354 => (if t354 = true then (laws_FnExactDoActs.j1 kj19 l1 t327 (t339 != t327) l0_0 t324 t336) else (laws_FnExactDoActs.j1 kj19 l1 t327 true l0_0 t324 t336)))))) else (none)))) = some r := by rw [if_pos rfl] at H; exact H
   clear H
   have H := H1
   clear H1
   replace H := Option.bind_eq_some_iff.mp H
   obtain ⟨t346, A740, H⟩ := H
   replace H : ((laws_eqActS.f kj19 t333 t346).bind fun t349 => (if t349 = true then ((laws_markDisk.f kj19 t329 1).bind fun bt350 => ((laws_markActS.f kj19 t333 bt350.1).bind fun bt352 => (if bt352.1 < 0 then (laws_FnExactDoActs.j1 kj19 l1 t327 true l0_0 t324 t336) else ((laws_eqDisk.f kj19 t336 t324).bind fun t354 => (if t354 = true then (laws_FnExactDoActs.j1 kj19 l1 t327 (t339 != t327) l0_0 t324 t336) else (laws_FnExactDoActs.j1 kj19 l1 t327 true l0_0 t324 t336)))))) else (none))) = some r := H
   have A74 := Aside0.mk A740
   clear A740
   replace H := Option.bind_eq_some_iff.mp H
   obtain ⟨t349, A750, H⟩ := H
   replace H : (if t349 = true then ((laws_markDisk.f kj19 t329 1).bind fun bt350 => ((laws_markActS.f kj19 t333 bt350.1).bind fun bt352 => (if bt352.1 < 0 then (laws_FnExactDoActs.j1 kj19 l1 t327 true l0_0 t324 t336) else ((laws_eqDisk.f kj19 t336 t324).bind fun t354 => (if t354 = true then (laws_FnExactDoActs.j1 kj19 l1 t327 (t339 != t327) l0_0 t324 t336) else (laws_FnExactDoActs.j1 kj19 l1 t327 true l0_0 t324 t336)))))) else (none)) = some r := H
   have A75 := Aside0.mk A750
   clear A750
   by_cases c76 : t349 = true; rotate_left
   ·
    replace c76 := Bool.eq_false_iff.mpr c76
    subst c76
    have H1 : (none) = some r := by rw [if_neg (show ¬ (false = true) by decide)] at H; exact H
    clear H
    have H := H1
    clear H1
    exact absurd H (by simp)
   subst c76
   have H1 : ((laws_markDisk.f kj19 t329 1).bind fun bt350 => ((laws_markActS.f kj19 t333 bt350.1).bind fun bt352 => (if bt352.1 < 0 then (laws_FnExactDoActs.j1 kj19 l1 t327 true l0_0 t324 t336) else ((laws_eqDisk.f kj19 t336 t324).bind fun t354 => (if t354 = true then (laws_FnExactDoActs.j1 kj19 l1 t327 (t339 != t327) l0_0 t324 t336) else (laws_FnExactDoActs.j1 kj19 l1 t327 true l0_0 t324 t336)))))) = some r := by rw [if_pos rfl] at H; exact H
   clear H
   have H := H1
   clear H1
   replace H := Option.bind_eq_some_iff.mp H
   obtain ⟨⟨t350, t351⟩, A770, H⟩ := H
   replace H : ((laws_markActS.f kj19 t333 t350).bind fun bt352 => (if bt352.1 < 0 then (laws_FnExactDoActs.j1 kj19 l1 t327 true l0_0 t324 t336) else ((laws_eqDisk.f kj19 t336 t324).bind fun t354 => (if t354 = true then (laws_FnExactDoActs.j1 kj19 l1 t327 (t339 != t327) l0_0 t324 t336) else (laws_FnExactDoActs.j1 kj19 l1 t327 true l0_0 t324 t336))))) = some r := H
   have A77 := Aside0.mk A770
   clear A770
   replace H := Option.bind_eq_some_iff.mp H
   obtain ⟨⟨t352, t353⟩, A780, H⟩ := H
   replace H : (if t352 < 0 then (laws_FnExactDoActs.j1 kj19 l1 t327 true l0_0 t324 t336) else ((laws_eqDisk.f kj19 t336 t324).bind fun t354 => (if t354 = true then (laws_FnExactDoActs.j1 kj19 l1 t327 (t339 != t327) l0_0 t324 t336) else (laws_FnExactDoActs.j1 kj19 l1 t327 true l0_0 t324 t336)))) = some r := H
   have A78 := Aside0.mk A780
   clear A780
   have HC79 := Aside0.mk H
   clear H
   try go_wp2
   have n0_ := Aside0.mk (Kd.R_drew HO_9.out)
   have n1_ := Aside0.mk (Kd.R_drew HO_329000.out)
   have n2_ := Aside0.mk (Kd.R_drew HO_333000.out)
   have n3_ := Aside0.mk (Kd.R_drew HO_341000.out)
   have n4_ := Aside0.mk (blk_drew BK315.out)
   have n5_ := Aside0.mk (blk_drew BK328.out)
   have n6_ := Aside0.mk (blk_drew BK332.out)
   have n7_ := Aside0.mk (blk_drew BK340.out)
   have n8_ := Aside0.mk (below_drew1 HB.out)
   clear HO_9
   clear HO_329000
   clear HO_333000
   clear HO_341000
   clear BK315
   clear BK328
   clear BK332
   clear BK340
   clear HB
   have HO_9 := n0_
   have HO_329000 := n1_
   have HO_333000 := n2_
   have HO_341000 := n3_
   have BK315 := n4_
   have BK328 := n5_
   have BK332 := n6_
   have BK340 := n7_
   have HB := n8_
   clear n0_ n1_ n2_ n3_ n4_ n5_ n6_ n7_ n8_
   refine start_ (n := 5) (S := fun w' => w'.cell? ⟨gb332, 0, none⟩ = some (.slice Ao38 t329.length co38) ∧ w'.cell? ⟨gb315, 0, none⟩ = some (.slice A0_0 l0_0.length c0_0)) (ds := []) #[false, false, false, false, false] (by kernel_rfl) rfl rfl ⟨CZ BK332.out 0, CZ BK315.out 0⟩ (fun hHeld => ?_)
   generalize wc.drew = w80 at HO_9 HO_329000 HO_333000 HO_341000 BK315 BK328 BK332 BK340 HB hHeld ⊢
   refine take_ (i := 0) (N := some 54) (v := ?_) (a' := ?_) #[true, false, false, false, false] rfl rfl (by kernel_rfl) (fun _ _ _ h => h) (Or.inl ⟨by rfl, ?_⟩) hHeld ?_ ?_
   rotate_left
   ·
    rintro w' ⟨s0, s1⟩
    go_simp
    with_reducible rfl
   rotate_left
   ·
    simp only [Act.put, zA, zB, zC, i64_w, i32_w]
    rfl
   refine take_ (i := 1) (N := some 55) (v := ?_) (a' := ?_) #[true, true, false, false, false] rfl rfl (by kernel_rfl) (fun _ _ _ h => h) (Or.inl ⟨by rfl, ?_⟩) hHeld ?_ ?_
   rotate_left
   ·
    rintro w' ⟨s0, s1⟩
    go_simp
    with_reducible rfl
   rotate_left
   ·
    simp only [Act.put, zA, zB, zC, i64_w, i32_w]
    rfl
   refine one_ (i := 2) (N := some 56) #[true, true, true, false, false] rfl rfl (by kernel_rfl) (by decide) (fun K hK => ?_)
   refine goes_ Try.func14 (by kernel_rfl) rfl #[.agg #[.slice A0_0 l0_0.length c0_0]] (by rfl) rfl rfl (MA) ?_
   with_reducible refine (laws_toDisk.calls kj19 _ _ l0_0 t342 _ ?side1 ?side2 A71.out).mono ?_
   (case side1 => repeat (first | exact (Kd.C_below HR0_0.out HB.out) | (with_reducible refine Kd.C_alloc ?_ _) | (with_reducible refine Kd.C_drewN ?_ _) | (with_reducible refine Kd.C_drew ?_)))
   (case side2 => exact HC0_0.out)
   rintro e w81 ⟨v343, rfl, ho0, hb⟩
   refine ⟨_, rfl, ?_⟩
   have n0_ := Aside0.mk (Kd.R_below (RQ HO_9.out) hb)
   have n1_ := Aside0.mk (Kd.R_elder' (RQ HO_329000.out) (Kd.R_base ho0) hb)
   have n2_ := Aside0.mk (Kd.R_elder' (RQ HO_333000.out) (Kd.R_base ho0) hb)
   have n3_ := Aside0.mk (Kd.R_elder' (RQ HO_341000.out) (Kd.R_base ho0) hb)
   have n4_ := Aside0.mk (Kd.R_lower (Kd.R_new' (Kd.R_new' (Kd.R_new' ho0 (Kd.R_lt (RQ HO_329000.out))) (Kd.R_lt (RQ HO_333000.out))) (Kd.R_lt (RQ HO_341000.out))) (below_size (BL)))
   have n5_ := BB BK315.out hb
   have n6_ := BB BK328.out hb
   have n7_ := BB BK332.out hb
   have n8_ := BB BK340.out hb
   have n9_ := Aside0.mk (below_step (BL) hb)
   clear HO_9
   clear HO_329000
   clear HO_333000
   clear HO_341000
   clear BK315
   clear BK328
   clear BK332
   clear BK340
   clear HB
   have HO_9 := n0_
   have HO_329000 := n1_
   have HO_333000 := n2_
   have HO_341000 := n3_
   have HO344 := n4_
   have BK315 := n5_
   have BK328 := n6_
   have BK332 := n7_
   have BK340 := n8_
   have HB := n9_
   clear n0_ n1_ n2_ n3_ n4_ n5_ n6_ n7_ n8_ n9_
   (try clear hb)
   (try clear hb2)
   (try clear hk)
   (try clear hi)
   (try clear ho0)
   obtain ⟨Ao82, co82, eo82⟩ := Kd.R_slice HO344.out
   (first | subst eo82 | (injection eo82 with f1_ f2_ f3_; have f4_ := f1_.symm; have f5_ := f3_.symm; clear f1_ f2_ f3_; subst f4_; subst f5_))
   refine hK.out _ _ ⟨CZ BK332.out 0, CZ BK315.out 0⟩ (fun hHeld => ?_)
   clear hK K
   refine norm_ (a' := ?_) ?_ ?_
   rotate_left
   ·
    show Act.put _ (some 56) _ = _
    simp only [Act.put, zA, zB, zC, i64_w, i32_w]
    rfl
   refine one_ (i := 3) (N := some 57) #[true, true, true, true, false] rfl rfl (by kernel_rfl) (by decide) (fun K hK => ?_)
   refine goes_ Try.func16 (by kernel_rfl) rfl #[.agg #[.slice Ao38 t329.length co38], .agg #[.slice Ao82 t342.length co82]] (by rfl) rfl rfl (MA) ?_
   with_reducible refine (laws_eqDisk.calls kj19 _ _ t329 _ _ t342 true _ ?side1 ?side2 ?side3 ?side4 A72.out).mono ?_
   (case side1 => repeat (first | exact (Kd.R_reads' HO_333000.out).2.2 | (with_reducible refine Kd.C_alloc ?_ _) | (with_reducible refine Kd.C_drewN ?_ _) | (with_reducible refine Kd.C_drew ?_)))
   (case side2 => exact (Kd.R_reads' HO_333000.out).2.1)
   (case side3 => repeat (first | exact (Kd.R_reads' HO344.out).2.2 | (with_reducible refine Kd.C_alloc ?_ _) | (with_reducible refine Kd.C_drewN ?_ _) | (with_reducible refine Kd.C_drew ?_)))
   (case side4 => exact (Kd.R_reads' HO344.out).2.1)
   rintro e w83 ⟨rfl, hb⟩
   refine ⟨_, rfl, ?_⟩
   have n0_ := Aside0.mk (Kd.R_below (RQ HO_9.out) hb)
   have n1_ := Aside0.mk (Kd.R_below (RQ HO_329000.out) hb)
   have n2_ := Aside0.mk (Kd.R_below (RQ HO_333000.out) hb)
   have n3_ := Aside0.mk (Kd.R_below (RQ HO_341000.out) hb)
   have n4_ := Aside0.mk (Kd.R_below (RQ HO344.out) hb)
   have n5_ := BB BK315.out hb
   have n6_ := BB BK328.out hb
   have n7_ := BB BK332.out hb
   have n8_ := BB BK340.out hb
   have n9_ := Aside0.mk (below_step (BL) hb)
   clear HO_9
   clear HO_329000
   clear HO_333000
   clear HO_341000
   clear HO344
   clear BK315
   clear BK328
   clear BK332
   clear BK340
   clear HB
   have HO_9 := n0_
   have HO_329000 := n1_
   have HO_333000 := n2_
   have HO_341000 := n3_
   have HO344 := n4_
   have BK315 := n5_
   have BK328 := n6_
   have BK332 := n7_
   have BK340 := n8_
   have HB := n9_
   clear n0_ n1_ n2_ n3_ n4_ n5_ n6_ n7_ n8_ n9_
   (try clear hb)
   (try clear hb2)
   (try clear hk)
   (try clear hi)
   refine hK.out _ _ ⟨CZ BK332.out 0, CZ BK315.out 0⟩ (fun hHeld => ?_)
   clear hK K
   refine norm_ (a' := ?_) ?_ ?_
   rotate_left
   ·
    show Act.put _ (some 57) _ = _
    simp only [Act.put, zA, zB, zC, i64_w, i32_w]
    rfl
   refine pure_ (i := 4) (N := some 58) (v := ?_) (a' := ?_) #[true, true, true, true, true] rfl rfl (by kernel_rfl) (fun _ _ _ h => h) (Or.inl ⟨by rfl, ?_⟩) ?_ ?_
   rotate_left
   ·
    intro w'
    go_simp
    with_reducible rfl
   rotate_left
   ·
    simp only [Act.put, zA, zB, zC, i64_w, i32_w]
    rfl
   refine done_ (by kernel_rfl) ?_
   go_upto_region 21 with (first | ((with_reducible refine gate_callee (f := 40) rfl ?_); refine goesL_ (some 61) rfl rfl Try.func40 (by kernel_rfl) rfl #[.slice A1 l1.length c1] rfl (MA) ?_; (with_reducible refine (laws_toActS.calls kj19 _ _ l1 t346 _ ?side1 ?side2 A74.out).mono ?_); (case side1 => repeat (first | exact (Kd.C_below HR1.out HB.out) | (with_reducible refine Kd.C_alloc ?_ _) | (with_reducible refine Kd.C_drewN ?_ _) | (with_reducible refine Kd.C_drew ?_))); (case side2 => exact HC1.out); rintro e w84 ⟨v347, rfl, ho0, hb⟩; refine ⟨_, rfl, ?_⟩; have HO348 := Aside0.mk (Kd.R_lower (Kd.R_new' ho0 (Kd.R_lt (RQ HO_9.out))) (below_size (BL))); replace HO_9 := Aside0.mk (Kd.R_elder' (RQ HO_9.out) (Kd.R_base ho0) hb); replace HO_329000 := Aside0.mk (Kd.R_below (RQ HO_329000.out) hb); replace HO_333000 := Aside0.mk (Kd.R_below (RQ HO_333000.out) hb); replace HO_341000 := Aside0.mk (Kd.R_below (RQ HO_341000.out) hb); replace HO344 := Aside0.mk (Kd.R_below (RQ HO344.out) hb); replace BK315 := BB BK315.out hb; replace BK328 := BB BK328.out hb; replace BK332 := BB BK332.out hb; replace BK340 := BB BK340.out hb; replace HB := Aside0.mk (below_step (BL) hb); (try clear hb); (try clear hb2); (try clear hk); (try clear hi); (try clear ho0); obtain ⟨Ao85, co85, eo85⟩ := Kd.R_slice HO348.out; subst eo85) | ((with_reducible refine gate_callee (f := 42) rfl ?_); refine goesL_ (some 62) rfl rfl Try.func42 (by kernel_rfl) rfl #[.slice Ao44 t333.length co44, .slice Ao85 t346.length co85] rfl (MA) ?_; (with_reducible refine (laws_eqActS.calls kj19 _ _ t333 _ _ t346 true _ ?side1 ?side2 ?side3 ?side4 A75.out).mono ?_); (case side1 => repeat (first | exact (Kd.R_reads' HO_9.out).2.2 | (with_reducible refine Kd.C_alloc ?_ _) | (with_reducible refine Kd.C_drewN ?_ _) | (with_reducible refine Kd.C_drew ?_))); (case side2 => exact (Kd.R_reads' HO_9.out).2.1); (case side3 => repeat (first | exact (Kd.R_reads' HO348.out).2.2 | (with_reducible refine Kd.C_alloc ?_ _) | (with_reducible refine Kd.C_drewN ?_ _) | (with_reducible refine Kd.C_drew ?_))); (case side4 => exact (Kd.R_reads' HO348.out).2.1); rintro e w86 ⟨rfl, hb⟩; refine ⟨_, rfl, ?_⟩; replace HO_9 := Aside0.mk (Kd.R_below (RQ HO_9.out) hb); replace HO_329000 := Aside0.mk (Kd.R_below (RQ HO_329000.out) hb); replace HO_333000 := Aside0.mk (Kd.R_below (RQ HO_333000.out) hb); replace HO_341000 := Aside0.mk (Kd.R_below (RQ HO_341000.out) hb); replace HO344 := Aside0.mk (Kd.R_below (RQ HO344.out) hb); replace HO348 := Aside0.mk (Kd.R_below (RQ HO348.out) hb); replace BK315 := BB BK315.out hb; replace BK328 := BB BK328.out hb; replace BK332 := BB BK332.out hb; replace BK340 := BB BK340.out hb; replace HB := Aside0.mk (below_step (BL) hb); (try clear hb); (try clear hb2); (try clear hk); (try clear hi); have hnb87 := NB332_315.out; have hnc87 := NB315_332.out; have hnb88 := NB332_328.out; have hnc88 := NB328_332.out; have hnb89 := NB332_340.out; have hnc89 := NB340_332.out; have hcz90_0 : w86.cell? ⟨gb332, 0, none⟩ = some (.slice Ao38 t329.length co38) := CZ BK332.out 0; have hfz90_0 := blk_frozen BK332.out 0) | ((with_reducible refine gate_callee (f := 31) rfl ?_); refine goesL_ (some 66) rfl rfl Try.func31 (by kernel_rfl) rfl #[.agg #[.slice Ao38 t329.length co38], .int .i64 1] rfl (MA) ?_; (with_reducible refine (laws_markDisk.calls kj19 (fun k_ => some k_ = (.slice Ao38 t329.length co38 : Value).ownBlock) (.slice Ao38 t329.length co38) t329 1 t350 t351 w _ ?side1 ?side2 A77.out).mono ?_); (case side1 => repeat (first | (with_reducible first | exact HB.out | apply below_alloc | apply pw_below_drewN | apply below_drew1 | refine below_set ?_ GE315.out | refine below_set ?_ GE328.out | refine below_set ?_ GE332.out | refine below_set ?_ GE340.out) | exact HB.out)); (case side2 => exact Kd.R_tight rfl HO_333000.out); rintro e w91 ⟨rfl, hy0, hb, hkp⟩; refine ⟨_, rfl, ?_⟩; replace HO_9 := Aside0.mk (Kd.R_mono (ok' := fun k_ => some k_ ≠ (.slice Ao85 t346.length co85 : Value).ownBlock) (Kd.R_keptB ((Kd.R_apart' HO_9.out (Kd.R_typed HO_333000.out) (by decide))) hkp (fun k_ hk_ hs_ => (hk_.2) hs_)) (fun k_ hk_ => hk_.1.1.2)); replace HO_329000 := Aside0.mk (Kd.R_mono (ok' := fun k_ => some k_ ≠ (.slice Ao38 t329.length co38 : Value).ownBlock ∧ some k_ ≠ (.slice Ao47 t336.length co47 : Value).ownBlock ∧ some k_ ≠ (.slice Ao82 t342.length co82 : Value).ownBlock) (Kd.R_keptB (HO_329000.out) hkp (fun k_ hk_ hs_ => (hk_.1.1) hs_)) (fun k_ hk_ => ⟨hk_.1.1.1, hk_.1.1.2, hk_.1.2⟩)); replace HO_341000 := Aside0.mk (Kd.R_mono (ok' := fun k_ => some k_ ≠ (.slice Ao32 t324.length co32 : Value).ownBlock ∧ some k_ ≠ (.slice Ao38 t329.length co38 : Value).ownBlock ∧ some k_ ≠ (.slice Ao82 t342.length co82 : Value).ownBlock) (Kd.R_keptB (HO_341000.out) hkp (fun k_ hk_ hs_ => (hk_.1.2) hs_)) (fun k_ hk_ => ⟨hk_.1.1.1, hk_.1.1.2, hk_.1.2⟩)); replace BK315 := Aside0.mk (blk_kept (BQ BK315.out) hkp (fun hs_ => (fun e_ => (Kd.R_ne HO_333000.out BK315.out (by decide)) e_) hs_)); replace BK328 := Aside0.mk (blk_kept (BQ BK328.out) hkp (fun hs_ => (fun e_ => (Kd.R_ne HO_333000.out BK328.out (by decide)) e_) hs_)); replace BK332 := Aside0.mk (blk_kept (BQ BK332.out) hkp (fun hs_ => (fun e_ => (Kd.R_ne HO_333000.out BK332.out (by decide)) e_) hs_)); replace BK340 := Aside0.mk (blk_kept (BQ BK340.out) hkp (fun hs_ => (fun e_ => (Kd.R_ne HO_333000.out BK340.out (by decide)) e_) hs_)); replace HO344 := Aside0.mk (Kd.R_mono (ok' := fun k_ => some k_ ≠ (.slice Ao32 t324.length co32 : Value).ownBlock ∧ some k_ ≠ (.slice Ao38 t329.length co38 : Value).ownBlock ∧ some k_ ≠ (.slice Ao47 t336.length co47 : Value).ownBlock) (Kd.R_keptB (HO344.out) hkp (fun k_ hk_ hs_ => (hk_.1.2) hs_)) (fun k_ hk_ => ⟨hk_.1.1.1.2, hk_.1.1.2, hk_.1.2⟩)); replace HO348 := Aside0.mk (Kd.R_mono (ok' := fun k_ => some k_ ≠ (.slice Ao44 t333.length co44 : Value).ownBlock) (Kd.R_keptB ((Kd.R_apart' HO348.out (Kd.R_typed HO_333000.out) (by decide))) hkp (fun k_ hk_ hs_ => (hk_.2) hs_)) (fun k_ hk_ => hk_.1.1.2)); replace HO_333000 := Aside0.mk (Kd.R_reok rfl hy0 (fun k_ e_ => HO_333000.out.1 k_ e_)); replace HB := Aside0.mk (hb); (try clear hb); (try clear hkp); (try clear hy0)) | ((with_reducible refine gate_callee (f := 43) rfl ?_); refine goesL_ (some 69) rfl rfl Try.func43 (by kernel_rfl) rfl #[.slice Ao44 t333.length co44, .int .i64 t350] rfl (MA) ?_; (with_reducible refine (laws_markActS.calls kj19 (fun k_ => some k_ = (.slice Ao44 t333.length co44 : Value).ownBlock) (.slice Ao44 t333.length co44) t333 t350 t352 t353 w _ ?side1 ?side2 A78.out).mono ?_); (case side1 => repeat (first | (with_reducible first | exact HB.out | apply below_alloc | apply pw_below_drewN | apply below_drew1 | refine below_set ?_ GE315.out | refine below_set ?_ GE328.out | refine below_set ?_ GE332.out | refine below_set ?_ GE340.out) | exact HB.out)); (case side2 => exact Kd.R_tight rfl HO_9.out); rintro e w92 ⟨rfl, hy0, hb, hkp⟩; refine ⟨_, rfl, ?_⟩; replace HO_329000 := Aside0.mk (Kd.R_mono (ok' := fun k_ => some k_ ≠ (.slice Ao38 t329.length co38 : Value).ownBlock ∧ some k_ ≠ (.slice Ao47 t336.length co47 : Value).ownBlock ∧ some k_ ≠ (.slice Ao82 t342.length co82 : Value).ownBlock) (Kd.R_keptB ((Kd.R_apart' HO_329000.out (Kd.R_typed HO_9.out) (by decide))) hkp (fun k_ hk_ hs_ => (hk_.2) hs_)) (fun k_ hk_ => ⟨hk_.1.1.1, hk_.1.1.2.1, hk_.1.1.2.2⟩)); replace HO_333000 := Aside0.mk (Kd.R_mono (ok' := fun k_ => some k_ ≠ (.slice Ao32 t324.length co32 : Value).ownBlock ∧ some k_ ≠ (.slice Ao47 t336.length co47 : Value).ownBlock ∧ some k_ ≠ (.slice Ao82 t342.length co82 : Value).ownBlock) (Kd.R_keptB ((Kd.R_apart' HO_333000.out (Kd.R_typed HO_9.out) (by decide))) hkp (fun k_ hk_ hs_ => (hk_.2) hs_)) (fun k_ hk_ => ⟨hk_.1.1.1.1, hk_.1.1.1.2, hk_.1.1.2⟩)); replace HO_341000 := Aside0.mk (Kd.R_mono (ok' := fun k_ => some k_ ≠ (.slice Ao32 t324.length co32 : Value).ownBlock ∧ some k_ ≠ (.slice Ao38 t329.length co38 : Value).ownBlock ∧ some k_ ≠ (.slice Ao82 t342.length co82 : Value).ownBlock) (Kd.R_keptB ((Kd.R_apart' HO_341000.out (Kd.R_typed HO_9.out) (by decide))) hkp (fun k_ hk_ hs_ => (hk_.2) hs_)) (fun k_ hk_ => ⟨hk_.1.1.1, hk_.1.1.2.1, hk_.1.1.2.2⟩)); replace BK315 := Aside0.mk (blk_kept (BQ BK315.out) hkp (fun hs_ => (fun e_ => (Kd.R_ne HO_9.out BK315.out (by decide)) e_) hs_)); replace BK328 := Aside0.mk (blk_kept (BQ BK328.out) hkp (fun hs_ => (fun e_ => (Kd.R_ne HO_9.out BK328.out (by decide)) e_) hs_)); replace BK332 := Aside0.mk (blk_kept (BQ BK332.out) hkp (fun hs_ => (fun e_ => (Kd.R_ne HO_9.out BK332.out (by decide)) e_) hs_)); replace BK340 := Aside0.mk (blk_kept (BQ BK340.out) hkp (fun hs_ => (fun e_ => (Kd.R_ne HO_9.out BK340.out (by decide)) e_) hs_)); replace HO344 := Aside0.mk (Kd.R_mono (ok' := fun k_ => some k_ ≠ (.slice Ao32 t324.length co32 : Value).ownBlock ∧ some k_ ≠ (.slice Ao38 t329.length co38 : Value).ownBlock ∧ some k_ ≠ (.slice Ao47 t336.length co47 : Value).ownBlock) (Kd.R_keptB ((Kd.R_apart' HO344.out (Kd.R_typed HO_9.out) (by decide))) hkp (fun k_ hk_ hs_ => (hk_.2) hs_)) (fun k_ hk_ => ⟨hk_.1.1.1, hk_.1.1.2.1, hk_.1.1.2.2⟩)); replace HO_9 := Aside0.mk (Kd.R_reok rfl hy0 (fun k_ e_ => HO_9.out.1 k_ e_)); replace HO348 := Aside0.mk (Kd.R_mono (ok' := fun k_ => some k_ ≠ (.slice Ao44 t333.length co44 : Value).ownBlock) (Kd.R_keptB (HO348.out) hkp (fun k_ hk_ hs_ => (hk_) hs_)) (fun k_ hk_ => hk_.1)); replace HB := Aside0.mk (hb); (try clear hb); (try clear hkp); (try clear hy0)))
   (try simp only [Act.put, zA, zB, zC])
   go_cut [82] (fun v82 wc => ∃ (kq : Nat) (x82_78 : Bool), v82 = .bool x82_78 ∧ Aside0 (laws_FnExactDoActs.j1 kq l1 t327 x82_78 l0_0 t324 t336 = some r) ∧ Aside0 (kq ≤ kj19) ∧ Aside0 (Kd.R k45 45 wc w.heap.size (fun k_ => some k_ ≠ ((.slice Ao38 t329.length co38) : Value).ownBlock ∧ some k_ ≠ ((.slice Ao47 t336.length co47) : Value).ownBlock) (.slice Ao32 t324.length co32) t324) ∧ Aside0 (Kd.R k45 45 wc w.heap.size (fun k_ => some k_ ≠ ((.slice Ao32 t324.length co32) : Value).ownBlock ∧ some k_ ≠ ((.slice Ao47 t336.length co47) : Value).ownBlock) (.slice Ao38 t329.length co38) t351) ∧ Aside0 (Kd.R k45 45 wc w.heap.size (fun k_ => some k_ ≠ ((.slice Ao32 t324.length co32) : Value).ownBlock ∧ some k_ ≠ ((.slice Ao38 t329.length co38) : Value).ownBlock) (.slice Ao47 t336.length co47) t336) ∧ Aside0 (wc.heap[gb315]? = some (.cells #[(.slice A0_0 l0_0.length c0_0)] 24 (0, 0))) ∧ Aside0 (wc.heap[gb328]? = some (.cells #[(.slice Ao32 t324.length co32)] 29 (0, 0))) ∧ Aside0 (wc.heap[gb332]? = some (.cells #[(.slice Ao38 t329.length co38)] 29 (0, 0))) ∧ Aside0 (wc.heap[gb340]? = some (.cells #[(.slice Ao47 t336.length co47)] 29 (0, 0))) ∧ Aside0 (Below w.heap.size w wc))
   case first =>
    have H := HC79.out
    clear HC79
    by_cases c93 : t352 < 0
    ·
     rw [if_pos c93] at H
     have c93b0 : decide (t352 < 0) = true := decide_eq_true c93
     clear c93
     (first | rw [c93b0] | (simp only [i64_w, i32_w]; rw [c93b0]) | skip)
     have H' := Aside0.mk H
     clear H
     go_wp2
     go_meet
     case rel => exact ⟨_, (true), SD, H', ⟨by have := HJ19.out; first | omega | exact Nat.le_refl _⟩, ⟨by (with_reducible repeat (first | apply r1 | apply r2 | apply r3)); exact Kd.R_mono HO_329000.out (fun _ hk => ⟨hk.1, hk.2.1⟩)⟩, ⟨by (with_reducible repeat (first | apply r1 | apply r2 | apply r3)); exact Kd.R_mono HO_333000.out (fun _ hk => ⟨hk.1, hk.2.1⟩)⟩, ⟨by (with_reducible repeat (first | apply r1 | apply r2 | apply r3)); exact Kd.R_mono HO_341000.out (fun _ hk => ⟨hk.1, hk.2.1⟩)⟩, ⟨BQ BK315.out⟩, ⟨BQ BK328.out⟩, ⟨BQ BK332.out⟩, ⟨BQ BK340.out⟩, ⟨BL⟩⟩
    rw [if_neg c93] at H
    have c93b0 : decide (t352 < 0) = false := decide_eq_false c93
    clear c93
    (first | rw [c93b0] | (simp only [i64_w, i32_w]; rw [c93b0]) | skip)
    replace H := Option.bind_eq_some_iff.mp H
    obtain ⟨t354, A940, H⟩ := H
    replace H : (if t354 = true then (laws_FnExactDoActs.j1 kj19 l1 t327 (t339 != t327) l0_0 t324 t336) else (laws_FnExactDoActs.j1 kj19 l1 t327 true l0_0 t324 t336)) = some r := H
    have A94 := Aside0.mk A940
    clear A940
    by_cases c95 : t354 = true
    ·
     subst c95
     have H1 : (laws_FnExactDoActs.j1 kj19 l1 t327 (t339 != t327) l0_0 t324 t336) = some r := by rw [if_pos rfl] at H; exact H
     clear H
     have H := H1
     clear H1
     have H' := Aside0.mk H
     clear H
     have hnb96 := NB340_315.out
     have hnc96 := NB315_340.out
     have hnb97 := NB340_328.out
     have hnc97 := NB328_340.out
     have hnb98 := NB340_332.out
     have hnc98 := NB332_340.out
     have hcz99_0 : w92.cell? ⟨gb340, 0, none⟩ = some (.slice Ao47 t336.length co47) := CZ BK340.out 0
     have hfz99_0 := blk_frozen BK340.out 0
     have hnb100 := NB328_315.out
     have hnc100 := NB315_328.out
     have hnb101 := NB328_332.out
     have hnc101 := NB332_328.out
     have hcz102_0 : w92.cell? ⟨gb328, 0, none⟩ = some (.slice Ao32 t324.length co32) := CZ BK328.out 0
     have hfz102_0 := blk_frozen BK328.out 0
     go_wp2_with (first | (go_at_call 16; (with_reducible refine (laws_eqDisk.calls kj19 _ _ t336 _ _ t324 true _ ?side1 ?side2 ?side3 ?side4 A94.out).mono ?_); (case side1 => repeat (first | exact (Kd.R_reads' HO_341000.out).2.2 | (with_reducible refine Kd.C_alloc ?_ _) | (with_reducible refine Kd.C_drewN ?_ _) | (with_reducible refine Kd.C_drew ?_))); (case side2 => exact (Kd.R_reads' HO_341000.out).2.1); (case side3 => repeat (first | exact (Kd.R_reads' HO_329000.out).2.2 | (with_reducible refine Kd.C_alloc ?_ _) | (with_reducible refine Kd.C_drewN ?_ _) | (with_reducible refine Kd.C_drew ?_))); (case side4 => exact (Kd.R_reads' HO_329000.out).2.1); rintro e w103 ⟨rfl, hb⟩; replace HO_9 := Aside0.mk (Kd.R_below (RQ HO_9.out) hb); replace HO_329000 := Aside0.mk (Kd.R_below (RQ HO_329000.out) hb); replace HO_333000 := Aside0.mk (Kd.R_below (RQ HO_333000.out) hb); replace HO_341000 := Aside0.mk (Kd.R_below (RQ HO_341000.out) hb); replace HO344 := Aside0.mk (Kd.R_below (RQ HO344.out) hb); replace HO348 := Aside0.mk (Kd.R_below (RQ HO348.out) hb); replace BK315 := BB BK315.out hb; replace BK328 := BB BK328.out hb; replace BK332 := BB BK332.out hb; replace BK340 := BB BK340.out hb; replace HB := Aside0.mk (below_step (BL) hb); (try clear hb); (try clear hb2); (try clear hk); (try clear hi)))
     go_meet
     case rel => exact ⟨_, ((t339 != t327)), SD, H', ⟨by have := HJ19.out; first | omega | exact Nat.le_refl _⟩, ⟨by (with_reducible repeat (first | apply r1 | apply r2 | apply r3)); exact Kd.R_mono HO_329000.out (fun _ hk => ⟨hk.1, hk.2.1⟩)⟩, ⟨by (with_reducible repeat (first | apply r1 | apply r2 | apply r3)); exact Kd.R_mono HO_333000.out (fun _ hk => ⟨hk.1, hk.2.1⟩)⟩, ⟨by (with_reducible repeat (first | apply r1 | apply r2 | apply r3)); exact Kd.R_mono HO_341000.out (fun _ hk => ⟨hk.1, hk.2.1⟩)⟩, ⟨BQ BK315.out⟩, ⟨BQ BK328.out⟩, ⟨BQ BK332.out⟩, ⟨BQ BK340.out⟩, ⟨BL⟩⟩
    replace c95 := Bool.eq_false_iff.mpr c95
    subst c95
    have H1 : (laws_FnExactDoActs.j1 kj19 l1 t327 true l0_0 t324 t336) = some r := by rw [if_neg (show ¬ (false = true) by decide)] at H; exact H
    clear H
    have H := H1
    clear H1
    have H' := Aside0.mk H
    clear H
    have hnb104 := NB340_315.out
    have hnc104 := NB315_340.out
    have hnb105 := NB340_328.out
    have hnc105 := NB328_340.out
    have hnb106 := NB340_332.out
    have hnc106 := NB332_340.out
    have hcz107_0 : w92.cell? ⟨gb340, 0, none⟩ = some (.slice Ao47 t336.length co47) := CZ BK340.out 0
    have hfz107_0 := blk_frozen BK340.out 0
    have hnb108 := NB328_315.out
    have hnc108 := NB315_328.out
    have hnb109 := NB328_332.out
    have hnc109 := NB332_328.out
    have hcz110_0 : w92.cell? ⟨gb328, 0, none⟩ = some (.slice Ao32 t324.length co32) := CZ BK328.out 0
    have hfz110_0 := blk_frozen BK328.out 0
    go_wp2_with (first | (go_at_call 16; (with_reducible refine (laws_eqDisk.calls kj19 _ _ t336 _ _ t324 false _ ?side1 ?side2 ?side3 ?side4 A94.out).mono ?_); (case side1 => repeat (first | exact (Kd.R_reads' HO_341000.out).2.2 | (with_reducible refine Kd.C_alloc ?_ _) | (with_reducible refine Kd.C_drewN ?_ _) | (with_reducible refine Kd.C_drew ?_))); (case side2 => exact (Kd.R_reads' HO_341000.out).2.1); (case side3 => repeat (first | exact (Kd.R_reads' HO_329000.out).2.2 | (with_reducible refine Kd.C_alloc ?_ _) | (with_reducible refine Kd.C_drewN ?_ _) | (with_reducible refine Kd.C_drew ?_))); (case side4 => exact (Kd.R_reads' HO_329000.out).2.1); rintro e w111 ⟨rfl, hb⟩; replace HO_9 := Aside0.mk (Kd.R_below (RQ HO_9.out) hb); replace HO_329000 := Aside0.mk (Kd.R_below (RQ HO_329000.out) hb); replace HO_333000 := Aside0.mk (Kd.R_below (RQ HO_333000.out) hb); replace HO_341000 := Aside0.mk (Kd.R_below (RQ HO_341000.out) hb); replace HO344 := Aside0.mk (Kd.R_below (RQ HO344.out) hb); replace HO348 := Aside0.mk (Kd.R_below (RQ HO348.out) hb); replace BK315 := BB BK315.out hb; replace BK328 := BB BK328.out hb; replace BK332 := BB BK332.out hb; replace BK340 := BB BK340.out hb; replace HB := Aside0.mk (below_step (BL) hb); (try clear hb); (try clear hb2); (try clear hk); (try clear hi)))
    go_meet
    case rel => exact ⟨_, (true), SD, H', ⟨by have := HJ19.out; first | omega | exact Nat.le_refl _⟩, ⟨by (with_reducible repeat (first | apply r1 | apply r2 | apply r3)); exact Kd.R_mono HO_329000.out (fun _ hk => ⟨hk.1, hk.2.1⟩)⟩, ⟨by (with_reducible repeat (first | apply r1 | apply r2 | apply r3)); exact Kd.R_mono HO_333000.out (fun _ hk => ⟨hk.1, hk.2.1⟩)⟩, ⟨by (with_reducible repeat (first | apply r1 | apply r2 | apply r3)); exact Kd.R_mono HO_341000.out (fun _ hk => ⟨hk.1, hk.2.1⟩)⟩, ⟨BQ BK315.out⟩, ⟨BQ BK328.out⟩, ⟨BQ BK332.out⟩, ⟨BQ BK340.out⟩, ⟨BL⟩⟩
   case rest =>
    clear HC79
    try clear c1
    try clear p2
    try clear c3
    try clear c4
    try clear c4b0
    try clear c5
    try clear c6
    try clear c7
    try clear c8
    try clear c9
    try clear c9b0
    try clear c10
    try clear c12
    try clear c14
    try clear c16
    try clear c31
    try clear c33
    try clear c38
    try clear c39
    try clear c40
    try clear c41
    try clear c42
    try clear c43
    try clear c48
    try clear c49
    try clear c50
    try clear c53
    try clear c54
    try clear c55
    try clear c56
    try clear c58
    try clear c59
    try clear c62
    try clear c63
    try clear c64
    try clear c66
    try clear c67
    try clear c70
    try clear c73
    try clear c76
    try clear c87
    try clear c88
    try clear c89
    try clear c93
    try clear c93b0
    try clear c95
    try clear c96
    try clear c97
    try clear c98
    try clear c100
    try clear c101
    try clear c104
    try clear c105
    try clear c106
    try clear c108
    try clear c109
    try clear hcz102_0
    try clear hcz107_0
    try clear hcz110_0
    try clear hcz11_0
    try clear hcz22_0
    try clear hcz25_0
    try clear hcz34_0
    try clear hcz35_0
    try clear hcz41_0
    try clear hcz43_0
    try clear hcz51_0
    try clear hcz57_0
    try clear hcz60_0
    try clear hcz65_0
    try clear hcz68_0
    try clear hcz6_0
    try clear hcz90_0
    try clear hcz99_0
    try clear hfz102_0
    try clear hfz107_0
    try clear hfz110_0
    try clear hfz11_0
    try clear hfz22_0
    try clear hfz25_0
    try clear hfz34_0
    try clear hfz35_0
    try clear hfz41_0
    try clear hfz43_0
    try clear hfz51_0
    try clear hfz57_0
    try clear hfz60_0
    try clear hfz65_0
    try clear hfz68_0
    try clear hfz6_0
    try clear hfz90_0
    try clear hfz99_0
    try clear p2
    obtain ⟨kq, x82_78, rfl, HA, HJ78, HO_329000, HO_333000, HO_341000, BK315, BK328, BK332, BK340, HB⟩ := hcut
    have hl333000_78 := (Kd.R_reads' HO_333000.out).1
    rw [hl333000_78] at HO_333000
    (try simp only [hl333000_78])
    (try simp only [hl333000_78] at BK315)
    (try simp only [hl333000_78] at BK328)
    (try simp only [hl333000_78] at BK332)
    (try simp only [hl333000_78] at BK340)
    (try simp only [hl333000_78] at HO_329000)
    (try simp only [hl333000_78] at HO_341000)
    cases kq with
    | zero => exact absurd HA.out (by simp [laws_FnExactDoActs.j1])
    | succ kj78 =>
     have H := HA.out
     clear HA
     simp only [laws_FnExactDoActs.j1] at H
     by_cases c112 : x82_78 = true
     ·
      subst c112
      have H1 : (none) = some r := by rw [if_pos rfl] at H; exact H
      clear H
      have H := H1
      clear H1
      exact absurd H (by simp)
     replace c112 := Bool.eq_false_iff.mpr c112
     subst c112
     have H1 : ((laws_markDisk.f kj78 t336 1).bind fun bt355 => ((laws_heldDisk.f kj78 bt355.2 1).bind fun t357 => (if t357 < 0 then (none) else (if t357 = bt355.1 then ((laws_toDisk.f kj78 l0_0).bind fun t358 => ((laws_toActS.f kj78 l1).bind fun t361 => ((impl_DoActs.f kj78 t358 t361).bind fun bt364 => ((laws_eqDisk.f kj78 bt364.1 t324).bind fun t369 => (if t369 = true then (laws_FnExactDoActs.j2 kj78 bt355.1 (bt364.2 != t327) bt355.2) else (laws_FnExactDoActs.j2 kj78 bt355.1 true bt355.2)))))) else (none))))) = some r := by rw [if_neg (show ¬ (false = true) by decide)] at H; exact H
     clear H
     have H := H1
     clear H1
     replace H := Option.bind_eq_some_iff.mp H
     obtain ⟨⟨t355, t356⟩, A1130, H⟩ := H
     replace H : ((laws_heldDisk.f kj78 t356 1).bind fun t357 => (if t357 < 0 then (none) else (if t357 = t355 then ((laws_toDisk.f kj78 l0_0).bind fun t358 => ((laws_toActS.f kj78 l1).bind fun t361 => ((impl_DoActs.f kj78 t358 t361).bind fun bt364 => ((laws_eqDisk.f kj78 bt364.1 t324).bind fun t369 => (if t369 = true then (laws_FnExactDoActs.j2 kj78 t355 (bt364.2 != t327) t356) else (laws_FnExactDoActs.j2 kj78 t355 true t356)))))) else (none)))) = some r := H
     have A113 := Aside0.mk A1130
     clear A1130
     replace H := Option.bind_eq_some_iff.mp H
     obtain ⟨t357, A1140, H⟩ := H
     replace H : (if t357 < 0 then (none) else (if t357 = t355 then ((laws_toDisk.f kj78 l0_0).bind fun t358 => ((laws_toActS.f kj78 l1).bind fun t361 => ((impl_DoActs.f kj78 t358 t361).bind fun bt364 => ((laws_eqDisk.f kj78 bt364.1 t324).bind fun t369 => (if t369 = true then (laws_FnExactDoActs.j2 kj78 t355 (bt364.2 != t327) t356) else (laws_FnExactDoActs.j2 kj78 t355 true t356)))))) else (none))) = some r := H
     have A114 := Aside0.mk A1140
     clear A1140
     by_cases c115 : t357 < 0
     ·
      rw [if_pos c115] at H
      exact absurd H (by simp)
     rw [if_neg c115] at H
     have c115b0 : decide (t357 < 0) = false := decide_eq_false c115
     clear c115
     by_cases c116 : t357 = t355; rotate_left
     ·
      rw [if_neg c116] at H
      exact absurd H (by simp)
     rw [if_pos c116] at H
     have c116b0 : (t357 == t355) = true := beq_iff_eq.mpr c116
     have c116b1 : (t357 != t355) = false := bne_eq_false_iff_eq.mpr c116
     clear c116
     replace H := Option.bind_eq_some_iff.mp H
     obtain ⟨t358, A1170, H⟩ := H
     replace H : ((laws_toActS.f kj78 l1).bind fun t361 => ((impl_DoActs.f kj78 t358 t361).bind fun bt364 => ((laws_eqDisk.f kj78 bt364.1 t324).bind fun t369 => (if t369 = true then (laws_FnExactDoActs.j2 kj78 t355 (bt364.2 != t327) t356) else (laws_FnExactDoActs.j2 kj78 t355 true t356))))) = some r := H
     have A117 := Aside0.mk A1170
     clear A1170
     replace H := Option.bind_eq_some_iff.mp H
     obtain ⟨t361, A1180, H⟩ := H
     replace H : ((impl_DoActs.f kj78 t358 t361).bind fun bt364 => ((laws_eqDisk.f kj78 bt364.1 t324).bind fun t369 => (if t369 = true then (laws_FnExactDoActs.j2 kj78 t355 (bt364.2 != t327) t356) else (laws_FnExactDoActs.j2 kj78 t355 true t356)))) = some r := H
     have A118 := Aside0.mk A1180
     clear A1180
     replace H := Option.bind_eq_some_iff.mp H
     obtain ⟨⟨t364, t367⟩, A1190, H⟩ := H
     replace H : ((laws_eqDisk.f kj78 t364 t324).bind fun t369 => (if t369 = true then (laws_FnExactDoActs.j2 kj78 t355 (t367 != t327) t356) else (laws_FnExactDoActs.j2 kj78 t355 true t356))) = some r := H
     have A119 := Aside0.mk A1190
     clear A1190
     have HC120 := Aside0.mk H
     clear H
     have hnb121 := NB340_315.out
     have hnc121 := NB315_340.out
     have hnb122 := NB340_328.out
     have hnc122 := NB328_340.out
     have hnb123 := NB340_332.out
     have hnc123 := NB332_340.out
     have hcz124_0 : wc.cell? ⟨gb340, 0, none⟩ = some (.slice Ao47 t336.length co47) := CZ BK340.out 0
     have hfz124_0 := blk_frozen BK340.out 0
     go_upto_region 32 with (first | ((with_reducible refine gate_callee (f := 31) rfl ?_); refine goesL_ (some 85) rfl rfl Try.func31 (by kernel_rfl) rfl #[.agg #[.slice Ao47 t336.length co47], .int .i64 1] rfl (MA) ?_; (with_reducible refine (laws_markDisk.calls kj78 (fun k_ => some k_ = (.slice Ao47 t336.length co47 : Value).ownBlock) (.slice Ao47 t336.length co47) t336 1 t355 t356 w _ ?side1 ?side2 A113.out).mono ?_); (case side1 => repeat (first | (with_reducible first | exact HB.out | apply below_alloc | apply pw_below_drewN | apply below_drew1 | refine below_set ?_ GE315.out | refine below_set ?_ GE328.out | refine below_set ?_ GE332.out | refine below_set ?_ GE340.out) | exact HB.out)); (case side2 => exact Kd.R_tight rfl HO_341000.out); rintro e w125 ⟨rfl, hy0, hb, hkp⟩; refine ⟨_, rfl, ?_⟩; replace HO_329000 := Aside0.mk (Kd.R_mono (ok' := fun k_ => some k_ ≠ (.slice Ao38 t351.length co38 : Value).ownBlock ∧ some k_ ≠ (.slice Ao47 t336.length co47 : Value).ownBlock) (Kd.R_keptB (HO_329000.out) hkp (fun k_ hk_ hs_ => (hk_.2) hs_)) (fun k_ hk_ => ⟨hk_.1.1, hk_.1.2⟩)); replace HO_333000 := Aside0.mk (Kd.R_mono (ok' := fun k_ => some k_ ≠ (.slice Ao32 t324.length co32 : Value).ownBlock ∧ some k_ ≠ (.slice Ao47 t336.length co47 : Value).ownBlock) (Kd.R_keptB (HO_333000.out) hkp (fun k_ hk_ hs_ => (hk_.2) hs_)) (fun k_ hk_ => ⟨hk_.1.1, hk_.1.2⟩)); replace BK315 := Aside0.mk (blk_kept (BQ BK315.out) hkp (fun hs_ => (fun e_ => (Kd.R_ne HO_341000.out BK315.out (by decide)) e_) hs_)); replace BK328 := Aside0.mk (blk_kept (BQ BK328.out) hkp (fun hs_ => (fun e_ => (Kd.R_ne HO_341000.out BK328.out (by decide)) e_) hs_)); replace BK332 := Aside0.mk (blk_kept (BQ BK332.out) hkp (fun hs_ => (fun e_ => (Kd.R_ne HO_341000.out BK332.out (by decide)) e_) hs_)); replace BK340 := Aside0.mk (blk_kept (BQ BK340.out) hkp (fun hs_ => (fun e_ => (Kd.R_ne HO_341000.out BK340.out (by decide)) e_) hs_)); replace HO_341000 := Aside0.mk (Kd.R_reok rfl hy0 (fun k_ e_ => HO_341000.out.1 k_ e_)); replace HB := Aside0.mk (hb); (try clear hb); (try clear hkp); (try clear hy0); have hcz126_0 : w125.cell? ⟨gb340, 0, none⟩ = some (.slice Ao47 t336.length co47) := CZ BK340.out 0; have hfz126_0 := blk_frozen BK340.out 0) | ((with_reducible refine gate_callee (f := 33) rfl ?_); refine goesL_ (some 88) rfl rfl Try.func33 (by kernel_rfl) rfl #[.agg #[.slice Ao47 t356.length co47], .int .i64 1] rfl (by (try simp only [List.map_toArray, List.map_cons, List.map_nil]); first | done | (rw [show t356.length = t336.length from (Kd.R_reads' HO_341000.out).1.symm] <;> rfl) | rfl | (simp only [List.length_drop, List.length_take]; rfl)) ?_; (with_reducible refine (laws_heldDisk.calls kj78 _ _ t356 1 t357 _ ?side1 ?side2 A114.out).mono ?_); (case side1 => repeat (first | exact (Kd.R_reads' HO_341000.out).2.2 | (with_reducible refine Kd.C_alloc ?_ _) | (with_reducible refine Kd.C_drewN ?_ _) | (with_reducible refine Kd.C_drew ?_))); (case side2 => rw [show t356.length = t336.length from (Kd.R_reads' HO_341000.out).1.symm]; exact (Kd.R_reads' HO_341000.out).2.1); rintro e w127 ⟨rfl, hb⟩; refine ⟨_, rfl, ?_⟩; replace HO_329000 := Aside0.mk (Kd.R_below (RQ HO_329000.out) hb); replace HO_333000 := Aside0.mk (Kd.R_below (RQ HO_333000.out) hb); replace HO_341000 := Aside0.mk (Kd.R_below (RQ HO_341000.out) hb); replace BK315 := BB BK315.out hb; replace BK328 := BB BK328.out hb; replace BK332 := BB BK332.out hb; replace BK340 := BB BK340.out hb; replace HB := Aside0.mk (below_step (BL) hb); (try clear hb); (try clear hb2); (try clear hk); (try clear hi); have hnb128 := NB315_328.out; have hnc128 := NB328_315.out; have hnb129 := NB315_332.out; have hnc129 := NB332_315.out; have hcz130_0 : w127.cell? ⟨gb315, 0, none⟩ = some (.slice A0_0 l0_0.length c0_0) := CZ BK315.out 0; have hfz130_0 := blk_frozen BK315.out 0) | ((with_reducible refine gate_callee (f := 14) rfl ?_); refine goesL_ (some 96) rfl rfl Try.func14 (by kernel_rfl) rfl #[.agg #[.slice A0_0 l0_0.length c0_0]] rfl (MA) ?_; (with_reducible refine (laws_toDisk.calls kj78 _ _ l0_0 t358 _ ?side1 ?side2 A117.out).mono ?_); (case side1 => repeat (first | exact (Kd.C_below HR0_0.out HB.out) | (with_reducible refine Kd.C_alloc ?_ _) | (with_reducible refine Kd.C_drewN ?_ _) | (with_reducible refine Kd.C_drew ?_))); (case side2 => exact HC0_0.out); rintro e w131 ⟨v359, rfl, ho0, hb⟩; refine ⟨_, rfl, ?_⟩; have HO360 := Aside0.mk (Kd.R_lower (Kd.R_new' (Kd.R_new' (Kd.R_new' ho0 (Kd.R_lt (RQ HO_329000.out))) (Kd.R_lt (RQ HO_333000.out))) (Kd.R_lt (RQ HO_341000.out))) (below_size (BL))); replace HO_329000 := Aside0.mk (Kd.R_elder' (RQ HO_329000.out) (Kd.R_base ho0) hb); replace HO_333000 := Aside0.mk (Kd.R_elder' (RQ HO_333000.out) (Kd.R_base ho0) hb); replace HO_341000 := Aside0.mk (Kd.R_elder' (RQ HO_341000.out) (Kd.R_base ho0) hb); replace BK315 := BB BK315.out hb; replace BK328 := BB BK328.out hb; replace BK332 := BB BK332.out hb; replace BK340 := BB BK340.out hb; replace HB := Aside0.mk (below_step (BL) hb); (try clear hb); (try clear hb2); (try clear hk); (try clear hi); (try clear ho0)) | ((with_reducible refine gate_callee (f := 40) rfl ?_); refine goesL_ (some 98) rfl rfl Try.func40 (by kernel_rfl) rfl #[.slice A1 l1.length c1] rfl (MA) ?_; (with_reducible refine (laws_toActS.calls kj78 _ _ l1 t361 _ ?side1 ?side2 A118.out).mono ?_); (case side1 => repeat (first | exact (Kd.C_below HR1.out HB.out) | (with_reducible refine Kd.C_alloc ?_ _) | (with_reducible refine Kd.C_drewN ?_ _) | (with_reducible refine Kd.C_drew ?_))); (case side2 => exact HC1.out); rintro e w132 ⟨v362, rfl, ho0, hb⟩; refine ⟨_, rfl, ?_⟩; have HO363 := Aside0.mk (Kd.R_lower ho0 (below_size (BL))); replace HO_329000 := Aside0.mk (Kd.R_below (RQ HO_329000.out) hb); replace HO_333000 := Aside0.mk (Kd.R_below (RQ HO_333000.out) hb); replace HO_341000 := Aside0.mk (Kd.R_below (RQ HO_341000.out) hb); replace HO360 := Aside0.mk (Kd.R_below (RQ HO360.out) hb); replace BK315 := BB BK315.out hb; replace BK328 := BB BK328.out hb; replace BK332 := BB BK332.out hb; replace BK340 := BB BK340.out hb; replace HB := Aside0.mk (below_step (BL) hb); (try clear hb); (try clear hb2); (try clear hk); (try clear hi); (try clear ho0); obtain ⟨Ao133, co133, eo133⟩ := Kd.R_slice HO360.out; subst eo133; obtain ⟨Ao134, co134, eo134⟩ := Kd.R_slice HO363.out; subst eo134) | ((with_reducible refine gate_callee (f := 41) rfl ?_); refine goesL_ (some 99) rfl rfl Try.func41 (by kernel_rfl) rfl #[.agg #[.slice Ao133 t358.length co133], .slice Ao134 t361.length co134] rfl (MA) ?_; (with_reducible refine (impl_DoActs.calls kj78 _ _ t358 _ _ t361 t364 t367 _ ?side1 ?side2 ?side3 ?side4 A119.out).mono ?_); (case side1 => repeat (first | exact (Kd.R_reads' HO360.out).2.2 | (with_reducible refine Kd.C_alloc ?_ _) | (with_reducible refine Kd.C_drewN ?_ _) | (with_reducible refine Kd.C_drew ?_))); (case side2 => exact (Kd.R_reads' HO360.out).2.1); (case side3 => repeat (first | exact (Kd.R_reads' HO363.out).2.2 | (with_reducible refine Kd.C_alloc ?_ _) | (with_reducible refine Kd.C_drewN ?_ _) | (with_reducible refine Kd.C_drew ?_))); (case side4 => exact (Kd.R_reads' HO363.out).2.1); rintro e w135 ⟨v365, rfl, ho0, hb⟩; refine ⟨_, rfl, ?_⟩; have HO366 := Aside0.mk (Kd.R_lower (Kd.R_new' (Kd.R_new' (Kd.R_new' (Kd.R_new' ho0 (Kd.R_lt (RQ HO_329000.out))) (Kd.R_lt (RQ HO_333000.out))) (Kd.R_lt (RQ HO_341000.out))) (Kd.R_lt (RQ HO360.out))) (below_size (BL))); replace HO_329000 := Aside0.mk (Kd.R_elder' (RQ HO_329000.out) (Kd.R_base ho0) hb); replace HO_333000 := Aside0.mk (Kd.R_elder' (RQ HO_333000.out) (Kd.R_base ho0) hb); replace HO_341000 := Aside0.mk (Kd.R_elder' (RQ HO_341000.out) (Kd.R_base ho0) hb); replace HO360 := Aside0.mk (Kd.R_elder' (RQ HO360.out) (Kd.R_base ho0) hb); replace HO363 := Aside0.mk (Kd.R_below (RQ HO363.out) hb); replace BK315 := BB BK315.out hb; replace BK328 := BB BK328.out hb; replace BK332 := BB BK332.out hb; replace BK340 := BB BK340.out hb; replace HB := Aside0.mk (below_step (BL) hb); (try clear hb); (try clear hb2); (try clear hk); (try clear hi); (try clear ho0)) | ((with_reducible refine gate_dst (N := 15) rfl ?_); refine bE 15 #[.slice none 0 0] 29 ?_; intro gb368 hg w136 hbox hb; have BK368 := Aside0.mk (hbox); have GW368 : Aside0 (w.heap.size ≤ gb368) := GS; have GE368 : Aside0 (w.heap.size ≤ gb368) := GS; have NB315_368 := NL BK315.out hg; have NB368_315 := NG BK315.out hg; have NB328_368 := NL BK328.out hg; have NB368_328 := NG BK328.out hg; have NB332_368 := NL BK332.out hg; have NB368_332 := NG BK332.out hg; have NB340_368 := NL BK340.out hg; have NB368_340 := NG BK340.out hg; replace HO_329000 := Aside0.mk (Kd.R_below (RQ HO_329000.out) hb); replace HO_333000 := Aside0.mk (Kd.R_below (RQ HO_333000.out) hb); replace HO_341000 := Aside0.mk (Kd.R_below (RQ HO_341000.out) hb); replace HO360 := Aside0.mk (Kd.R_below (RQ HO360.out) hb); replace HO363 := Aside0.mk (Kd.R_below (RQ HO363.out) hb); replace HO366 := Aside0.mk (Kd.R_below (RQ HO366.out) hb); replace BK315 := BB BK315.out hb; replace BK328 := BB BK328.out hb; replace BK332 := BB BK332.out hb; replace BK340 := BB BK340.out hb; replace HB := Aside0.mk (below_step (BL) hb); clear hb hbox hg; obtain ⟨Ao137, co137, eo137⟩ := Kd.R_slice HO366.out; subst eo137; have hnb138 := NB368_315.out; have hnc138 := NB315_368.out; have hnb139 := NB368_328.out; have hnc139 := NB328_368.out; have hnb140 := NB368_332.out; have hnc140 := NB332_368.out; have hnb141 := NB368_340.out; have hnc141 := NB340_368.out; have hcz142_0 : w136.cell? ⟨gb368, 0, none⟩ = some (.slice none 0 0) := CZ BK368.out 0; have hfz142_0 := blk_frozen BK368.out 0))
     (try simp only [Act.put, zA, zB, zC])
     go_cut [110] (fun v110 wc => ∃ (kq : Nat) (x110_119 : Bool), v110 = .bool x110_119 ∧ Aside0 (laws_FnExactDoActs.j2 kq t355 x110_119 t356 = some r) ∧ Aside0 (kq ≤ kj78) ∧ Aside0 (Kd.R k45 45 wc w.heap.size (fun k_ => some k_ ≠ ((.slice Ao38 t351.length co38) : Value).ownBlock ∧ some k_ ≠ ((.slice Ao47 t336.length co47) : Value).ownBlock ∧ some k_ ≠ ((.slice Ao137 t364.length co137) : Value).ownBlock) (.slice Ao32 t324.length co32) t324) ∧ Aside0 (Kd.R k45 45 wc w.heap.size (fun k_ => some k_ ≠ ((.slice Ao32 t324.length co32) : Value).ownBlock ∧ some k_ ≠ ((.slice Ao47 t336.length co47) : Value).ownBlock ∧ some k_ ≠ ((.slice Ao137 t364.length co137) : Value).ownBlock) (.slice Ao38 t351.length co38) t351) ∧ Aside0 (Kd.R k45 45 wc w.heap.size (fun k_ => some k_ ≠ ((.slice Ao32 t324.length co32) : Value).ownBlock ∧ some k_ ≠ ((.slice Ao38 t351.length co38) : Value).ownBlock ∧ some k_ ≠ ((.slice Ao137 t364.length co137) : Value).ownBlock) (.slice Ao47 t336.length co47) t356) ∧ Aside0 (Kd.R k45 45 wc w.heap.size (fun k_ => some k_ ≠ ((.slice Ao32 t324.length co32) : Value).ownBlock ∧ some k_ ≠ ((.slice Ao38 t351.length co38) : Value).ownBlock ∧ some k_ ≠ ((.slice Ao47 t336.length co47) : Value).ownBlock) (.slice Ao137 t364.length co137) t364) ∧ Aside0 (wc.heap[gb315]? = some (.cells #[(.slice A0_0 l0_0.length c0_0)] 24 (0, 0))) ∧ Aside0 (wc.heap[gb328]? = some (.cells #[(.slice Ao32 t324.length co32)] 29 (0, 0))) ∧ Aside0 (wc.heap[gb332]? = some (.cells #[(.slice Ao38 t351.length co38)] 29 (0, 0))) ∧ Aside0 (wc.heap[gb340]? = some (.cells #[(.slice Ao47 t336.length co47)] 29 (0, 0))) ∧ Aside0 (wc.heap[gb368]? = some (.cells #[(.slice Ao137 t364.length co137)] 29 (0, 0))) ∧ Aside0 (Below w.heap.size w wc))
     case first =>
      have H := HC120.out
      clear HC120
      replace H := Option.bind_eq_some_iff.mp H
      obtain ⟨t369, A1430, H⟩ := H
      replace H : (if t369 = true then (laws_FnExactDoActs.j2 kj78 t355 (t367 != t327) t356) else (laws_FnExactDoActs.j2 kj78 t355 true t356)) = some r := H
      have A143 := Aside0.mk A1430
      clear A1430
      by_cases c144 : t369 = true
      ·
       subst c144
       have H1 : (laws_FnExactDoActs.j2 kj78 t355 (t367 != t327) t356) = some r := by rw [if_pos rfl] at H; exact H
       clear H
       have H := H1
       clear H1
       have H' := Aside0.mk H
       clear H
       have hnb145 := NB368_315.out
       have hnc145 := NB315_368.out
       have hnb146 := NB368_328.out
       have hnc146 := NB328_368.out
       have hnb147 := NB368_332.out
       have hnc147 := NB332_368.out
       have hnb148 := NB368_340.out
       have hnc148 := NB340_368.out
       have hcz149_0 : w136.cell? ⟨gb368, 0, none⟩ = some (.slice none 0 0) := CZ BK368.out 0
       have hfz149_0 := blk_frozen BK368.out 0
       have hnb150 := NB328_315.out
       have hnc150 := NB315_328.out
       have hnb151 := NB328_332.out
       have hnc151 := NB332_328.out
       have hnb152 := NB328_340.out
       have hnc152 := NB340_328.out
       have hcz153_0 : w136.cell? ⟨gb328, 0, none⟩ = some (.slice Ao32 t324.length co32) := CZ BK328.out 0
       have hfz153_0 := blk_frozen BK328.out 0
       go_wp2_with (first | ((with_reducible refine gate_callee (f := 16) rfl ?_); refine goesL_ (some 104) rfl rfl Try.func16 (by kernel_rfl) rfl #[.agg #[.slice Ao137 t364.length co137], .agg #[.slice Ao32 t324.length co32]] rfl (MA) ?_; (with_reducible refine (laws_eqDisk.calls kj78 _ _ t364 _ _ t324 true _ ?side1 ?side2 ?side3 ?side4 A143.out).mono ?_); (case side1 => refine (Kd.R_reads' (e := 45) (base := w.heap.size) (ok := fun k_ => ((((True ∧ some k_ ≠ (.slice Ao32 t324.length co32 : Value).ownBlock) ∧ some k_ ≠ (.slice Ao38 t351.length co38 : Value).ownBlock) ∧ some k_ ≠ (.slice Ao47 t336.length co47 : Value).ownBlock) ∧ some k_ ≠ (.slice Ao133 t358.length co133 : Value).ownBlock)) (n := t364.length) (c := co137) ?_).2.2; exact (by (with_reducible repeat (first | apply r1 | apply r2 | apply r3)); exact (Kd.R_mono (Kd.R_far (p := ⟨gb368, 0, none⟩) (Kd.R_types HO366.out BK368.out (by decide)) (fun _ hk => hk.2) (.slice Ao137 t364.length co137)) (fun _ h_ => h_.1)))); (case side2 => exact (Kd.R_reads' HO366.out).2.1); (case side3 => refine (Kd.R_reads' (e := 45) (base := w.heap.size) (ok := fun k_ => (((some k_ ≠ (.slice Ao38 t351.length co38 : Value).ownBlock ∧ some k_ ≠ (.slice Ao47 t336.length co47 : Value).ownBlock) ∧ some k_ ≠ (.slice Ao133 t358.length co133 : Value).ownBlock) ∧ some k_ ≠ (.slice Ao137 t364.length co137 : Value).ownBlock)) (n := t324.length) (c := co32) ?_).2.2; exact (by (with_reducible repeat (first | apply r1 | apply r2 | apply r3)); exact (Kd.R_mono (Kd.R_far (p := ⟨gb368, 0, none⟩) (Kd.R_types HO_329000.out BK368.out (by decide)) (fun _ hk => hk.2) (.slice Ao137 t364.length co137)) (fun _ h_ => h_.1)))); (case side4 => exact (Kd.R_reads' HO_329000.out).2.1); rintro e w154 ⟨rfl, hb⟩; refine ⟨_, rfl, ?_⟩; replace HO_329000 := Aside0.mk (Kd.R_below (by (with_reducible repeat (first | apply r1 | apply r2 | apply r3)); exact (Kd.R_mono (Kd.R_far (p := ⟨gb368, 0, none⟩) (Kd.R_types HO_329000.out BK368.out (by decide)) (fun _ hk => hk.2) (.slice Ao137 t364.length co137)) (fun _ h_ => h_.1))) hb); replace HO_333000 := Aside0.mk (Kd.R_below (by (with_reducible repeat (first | apply r1 | apply r2 | apply r3)); exact (Kd.R_mono (Kd.R_far (p := ⟨gb368, 0, none⟩) (Kd.R_types HO_333000.out BK368.out (by decide)) (fun _ hk => hk.2) (.slice Ao137 t364.length co137)) (fun _ h_ => h_.1))) hb); replace HO_341000 := Aside0.mk (Kd.R_below (by (with_reducible repeat (first | apply r1 | apply r2 | apply r3)); exact (Kd.R_mono (Kd.R_far (p := ⟨gb368, 0, none⟩) (Kd.R_types HO_341000.out BK368.out (by decide)) (fun _ hk => hk.2) (.slice Ao137 t364.length co137)) (fun _ h_ => h_.1))) hb); replace HO360 := Aside0.mk (Kd.R_below (by (with_reducible repeat (first | apply r1 | apply r2 | apply r3)); exact (Kd.R_mono (Kd.R_far (p := ⟨gb368, 0, none⟩) (Kd.R_types HO360.out BK368.out (by decide)) (fun _ hk => hk.2) (.slice Ao137 t364.length co137)) (fun _ h_ => h_.1))) hb); replace HO363 := Aside0.mk (Kd.R_below (by (with_reducible repeat (first | apply r1 | apply r2 | apply r3)); exact (Kd.R_mono (Kd.R_far (p := ⟨gb368, 0, none⟩) (Kd.R_types HO363.out BK368.out (by decide)) (fun _ hk => hk.2) (.slice Ao137 t364.length co137)) (fun _ h_ => h_.1))) hb); replace HO366 := Aside0.mk (Kd.R_below (by (with_reducible repeat (first | apply r1 | apply r2 | apply r3)); exact (Kd.R_mono (Kd.R_far (p := ⟨gb368, 0, none⟩) (Kd.R_types HO366.out BK368.out (by decide)) (fun _ hk => hk.2) (.slice Ao137 t364.length co137)) (fun _ h_ => h_.1))) hb); replace BK315 := Aside0.mk (blk_below (g := gb315) (o := .cells #[.slice A0_0 l0_0.length c0_0] 24 (0, 0)) (by (with_reducible repeat (first | apply b1 | apply b2 | apply b3)); refine blk_far ?_ NB315_368.out _; (with_reducible repeat (first | apply b1 | apply b2 | apply b3)); exact BK315.out) hb); replace BK328 := Aside0.mk (blk_below (g := gb328) (o := .cells #[.slice Ao32 t324.length co32] 29 (0, 0)) (by (with_reducible repeat (first | apply b1 | apply b2 | apply b3)); refine blk_far ?_ NB328_368.out _; (with_reducible repeat (first | apply b1 | apply b2 | apply b3)); exact BK328.out) hb); replace BK332 := Aside0.mk (blk_below (g := gb332) (o := .cells #[.slice Ao38 t351.length co38] 29 (0, 0)) (by (with_reducible repeat (first | apply b1 | apply b2 | apply b3)); refine blk_far ?_ NB332_368.out _; (with_reducible repeat (first | apply b1 | apply b2 | apply b3)); exact BK332.out) hb); replace BK340 := Aside0.mk (blk_below (g := gb340) (o := .cells #[.slice Ao47 t336.length co47] 29 (0, 0)) (by (with_reducible repeat (first | apply b1 | apply b2 | apply b3)); refine blk_far ?_ NB340_368.out _; (with_reducible repeat (first | apply b1 | apply b2 | apply b3)); exact BK340.out) hb); replace BK368 := Aside0.mk (blk_below (g := gb368) (o := .cells #[.slice Ao137 t364.length co137] 29 (0, 0)) (by (with_reducible repeat (first | apply b1 | apply b2 | apply b3)); refine blk_put (cs := #[.slice none 0 0]) ?_ 0 _ rfl; (with_reducible repeat (first | apply b1 | apply b2 | apply b3)); exact BK368.out) hb); replace HB := Aside0.mk (below_step (BL) hb); (try clear hb); (try clear hb2); (try clear hk); (try clear hi)))
       go_meet
       case rel => exact ⟨_, ((t367 != t327)), SD, H', ⟨by have := HJ19.out; have := HJ78.out; first | omega | exact Nat.le_refl _⟩, ⟨by (try simp only [hl333000_78]); (with_reducible repeat (first | apply r1 | apply r2 | apply r3)); exact Kd.R_mono HO_329000.out (fun _ hk => ⟨hk.1.1.1, ⟨hk.1.1.2, hk.2⟩⟩)⟩, ⟨by (try simp only [hl333000_78]); (with_reducible repeat (first | apply r1 | apply r2 | apply r3)); exact Kd.R_mono HO_333000.out (fun _ hk => ⟨hk.1.1.1, ⟨hk.1.1.2, hk.2⟩⟩)⟩, ⟨by (try simp only [hl333000_78]); (with_reducible repeat (first | apply r1 | apply r2 | apply r3)); exact Kd.R_mono HO_341000.out (fun _ hk => ⟨hk.1.1.1, ⟨hk.1.1.2, hk.2⟩⟩)⟩, ⟨by (try simp only [hl333000_78]); (with_reducible repeat (first | apply r1 | apply r2 | apply r3)); exact Kd.R_mono HO366.out (fun _ hk => ⟨hk.1.1.1.2, ⟨hk.1.1.2, hk.1.2⟩⟩)⟩, ⟨by (try simp only [hl333000_78]); (with_reducible repeat (first | apply b1 | apply b2 | apply b3)); exact BK315.out⟩, ⟨by (try simp only [hl333000_78]); (with_reducible repeat (first | apply b1 | apply b2 | apply b3)); exact BK328.out⟩, ⟨by (try simp only [hl333000_78]); (with_reducible repeat (first | apply b1 | apply b2 | apply b3)); exact BK332.out⟩, ⟨by (try simp only [hl333000_78]); (with_reducible repeat (first | apply b1 | apply b2 | apply b3)); exact BK340.out⟩, ⟨by (try simp only [hl333000_78]); (with_reducible repeat (first | apply b1 | apply b2 | apply b3)); exact BK368.out⟩, ⟨BL⟩⟩
      replace c144 := Bool.eq_false_iff.mpr c144
      subst c144
      have H1 : (laws_FnExactDoActs.j2 kj78 t355 true t356) = some r := by rw [if_neg (show ¬ (false = true) by decide)] at H; exact H
      clear H
      have H := H1
      clear H1
      have H' := Aside0.mk H
      clear H
      have hnb155 := NB368_315.out
      have hnc155 := NB315_368.out
      have hnb156 := NB368_328.out
      have hnc156 := NB328_368.out
      have hnb157 := NB368_332.out
      have hnc157 := NB332_368.out
      have hnb158 := NB368_340.out
      have hnc158 := NB340_368.out
      have hcz159_0 : w136.cell? ⟨gb368, 0, none⟩ = some (.slice none 0 0) := CZ BK368.out 0
      have hfz159_0 := blk_frozen BK368.out 0
      have hnb160 := NB328_315.out
      have hnc160 := NB315_328.out
      have hnb161 := NB328_332.out
      have hnc161 := NB332_328.out
      have hnb162 := NB328_340.out
      have hnc162 := NB340_328.out
      have hcz163_0 : w136.cell? ⟨gb328, 0, none⟩ = some (.slice Ao32 t324.length co32) := CZ BK328.out 0
      have hfz163_0 := blk_frozen BK328.out 0
      go_wp2_with (first | ((with_reducible refine gate_callee (f := 16) rfl ?_); refine goesL_ (some 104) rfl rfl Try.func16 (by kernel_rfl) rfl #[.agg #[.slice Ao137 t364.length co137], .agg #[.slice Ao32 t324.length co32]] rfl (MA) ?_; (with_reducible refine (laws_eqDisk.calls kj78 _ _ t364 _ _ t324 false _ ?side1 ?side2 ?side3 ?side4 A143.out).mono ?_); (case side1 => refine (Kd.R_reads' (e := 45) (base := w.heap.size) (ok := fun k_ => ((((True ∧ some k_ ≠ (.slice Ao32 t324.length co32 : Value).ownBlock) ∧ some k_ ≠ (.slice Ao38 t351.length co38 : Value).ownBlock) ∧ some k_ ≠ (.slice Ao47 t336.length co47 : Value).ownBlock) ∧ some k_ ≠ (.slice Ao133 t358.length co133 : Value).ownBlock)) (n := t364.length) (c := co137) ?_).2.2; exact (by (with_reducible repeat (first | apply r1 | apply r2 | apply r3)); exact (Kd.R_mono (Kd.R_far (p := ⟨gb368, 0, none⟩) (Kd.R_types HO366.out BK368.out (by decide)) (fun _ hk => hk.2) (.slice Ao137 t364.length co137)) (fun _ h_ => h_.1)))); (case side2 => exact (Kd.R_reads' HO366.out).2.1); (case side3 => refine (Kd.R_reads' (e := 45) (base := w.heap.size) (ok := fun k_ => (((some k_ ≠ (.slice Ao38 t351.length co38 : Value).ownBlock ∧ some k_ ≠ (.slice Ao47 t336.length co47 : Value).ownBlock) ∧ some k_ ≠ (.slice Ao133 t358.length co133 : Value).ownBlock) ∧ some k_ ≠ (.slice Ao137 t364.length co137 : Value).ownBlock)) (n := t324.length) (c := co32) ?_).2.2; exact (by (with_reducible repeat (first | apply r1 | apply r2 | apply r3)); exact (Kd.R_mono (Kd.R_far (p := ⟨gb368, 0, none⟩) (Kd.R_types HO_329000.out BK368.out (by decide)) (fun _ hk => hk.2) (.slice Ao137 t364.length co137)) (fun _ h_ => h_.1)))); (case side4 => exact (Kd.R_reads' HO_329000.out).2.1); rintro e w164 ⟨rfl, hb⟩; refine ⟨_, rfl, ?_⟩; replace HO_329000 := Aside0.mk (Kd.R_below (by (with_reducible repeat (first | apply r1 | apply r2 | apply r3)); exact (Kd.R_mono (Kd.R_far (p := ⟨gb368, 0, none⟩) (Kd.R_types HO_329000.out BK368.out (by decide)) (fun _ hk => hk.2) (.slice Ao137 t364.length co137)) (fun _ h_ => h_.1))) hb); replace HO_333000 := Aside0.mk (Kd.R_below (by (with_reducible repeat (first | apply r1 | apply r2 | apply r3)); exact (Kd.R_mono (Kd.R_far (p := ⟨gb368, 0, none⟩) (Kd.R_types HO_333000.out BK368.out (by decide)) (fun _ hk => hk.2) (.slice Ao137 t364.length co137)) (fun _ h_ => h_.1))) hb); replace HO_341000 := Aside0.mk (Kd.R_below (by (with_reducible repeat (first | apply r1 | apply r2 | apply r3)); exact (Kd.R_mono (Kd.R_far (p := ⟨gb368, 0, none⟩) (Kd.R_types HO_341000.out BK368.out (by decide)) (fun _ hk => hk.2) (.slice Ao137 t364.length co137)) (fun _ h_ => h_.1))) hb); replace HO360 := Aside0.mk (Kd.R_below (by (with_reducible repeat (first | apply r1 | apply r2 | apply r3)); exact (Kd.R_mono (Kd.R_far (p := ⟨gb368, 0, none⟩) (Kd.R_types HO360.out BK368.out (by decide)) (fun _ hk => hk.2) (.slice Ao137 t364.length co137)) (fun _ h_ => h_.1))) hb); replace HO363 := Aside0.mk (Kd.R_below (by (with_reducible repeat (first | apply r1 | apply r2 | apply r3)); exact (Kd.R_mono (Kd.R_far (p := ⟨gb368, 0, none⟩) (Kd.R_types HO363.out BK368.out (by decide)) (fun _ hk => hk.2) (.slice Ao137 t364.length co137)) (fun _ h_ => h_.1))) hb); replace HO366 := Aside0.mk (Kd.R_below (by (with_reducible repeat (first | apply r1 | apply r2 | apply r3)); exact (Kd.R_mono (Kd.R_far (p := ⟨gb368, 0, none⟩) (Kd.R_types HO366.out BK368.out (by decide)) (fun _ hk => hk.2) (.slice Ao137 t364.length co137)) (fun _ h_ => h_.1))) hb); replace BK315 := Aside0.mk (blk_below (g := gb315) (o := .cells #[.slice A0_0 l0_0.length c0_0] 24 (0, 0)) (by (with_reducible repeat (first | apply b1 | apply b2 | apply b3)); refine blk_far ?_ NB315_368.out _; (with_reducible repeat (first | apply b1 | apply b2 | apply b3)); exact BK315.out) hb); replace BK328 := Aside0.mk (blk_below (g := gb328) (o := .cells #[.slice Ao32 t324.length co32] 29 (0, 0)) (by (with_reducible repeat (first | apply b1 | apply b2 | apply b3)); refine blk_far ?_ NB328_368.out _; (with_reducible repeat (first | apply b1 | apply b2 | apply b3)); exact BK328.out) hb); replace BK332 := Aside0.mk (blk_below (g := gb332) (o := .cells #[.slice Ao38 t351.length co38] 29 (0, 0)) (by (with_reducible repeat (first | apply b1 | apply b2 | apply b3)); refine blk_far ?_ NB332_368.out _; (with_reducible repeat (first | apply b1 | apply b2 | apply b3)); exact BK332.out) hb); replace BK340 := Aside0.mk (blk_below (g := gb340) (o := .cells #[.slice Ao47 t336.length co47] 29 (0, 0)) (by (with_reducible repeat (first | apply b1 | apply b2 | apply b3)); refine blk_far ?_ NB340_368.out _; (with_reducible repeat (first | apply b1 | apply b2 | apply b3)); exact BK340.out) hb); replace BK368 := Aside0.mk (blk_below (g := gb368) (o := .cells #[.slice Ao137 t364.length co137] 29 (0, 0)) (by (with_reducible repeat (first | apply b1 | apply b2 | apply b3)); refine blk_put (cs := #[.slice none 0 0]) ?_ 0 _ rfl; (with_reducible repeat (first | apply b1 | apply b2 | apply b3)); exact BK368.out) hb); replace HB := Aside0.mk (below_step (BL) hb); (try clear hb); (try clear hb2); (try clear hk); (try clear hi)))
      go_meet
      case rel => exact ⟨_, (true), SD, H', ⟨by have := HJ19.out; have := HJ78.out; first | omega | exact Nat.le_refl _⟩, ⟨by (try simp only [hl333000_78]); (with_reducible repeat (first | apply r1 | apply r2 | apply r3)); exact Kd.R_mono HO_329000.out (fun _ hk => ⟨hk.1.1.1, ⟨hk.1.1.2, hk.2⟩⟩)⟩, ⟨by (try simp only [hl333000_78]); (with_reducible repeat (first | apply r1 | apply r2 | apply r3)); exact Kd.R_mono HO_333000.out (fun _ hk => ⟨hk.1.1.1, ⟨hk.1.1.2, hk.2⟩⟩)⟩, ⟨by (try simp only [hl333000_78]); (with_reducible repeat (first | apply r1 | apply r2 | apply r3)); exact Kd.R_mono HO_341000.out (fun _ hk => ⟨hk.1.1.1, ⟨hk.1.1.2, hk.2⟩⟩)⟩, ⟨by (try simp only [hl333000_78]); (with_reducible repeat (first | apply r1 | apply r2 | apply r3)); exact Kd.R_mono HO366.out (fun _ hk => ⟨hk.1.1.1.2, ⟨hk.1.1.2, hk.1.2⟩⟩)⟩, ⟨by (try simp only [hl333000_78]); (with_reducible repeat (first | apply b1 | apply b2 | apply b3)); exact BK315.out⟩, ⟨by (try simp only [hl333000_78]); (with_reducible repeat (first | apply b1 | apply b2 | apply b3)); exact BK328.out⟩, ⟨by (try simp only [hl333000_78]); (with_reducible repeat (first | apply b1 | apply b2 | apply b3)); exact BK332.out⟩, ⟨by (try simp only [hl333000_78]); (with_reducible repeat (first | apply b1 | apply b2 | apply b3)); exact BK340.out⟩, ⟨by (try simp only [hl333000_78]); (with_reducible repeat (first | apply b1 | apply b2 | apply b3)); exact BK368.out⟩, ⟨BL⟩⟩
     case rest =>
      clear HC120
      try clear c1
      try clear p2
      try clear c3
      try clear c4
      try clear c4b0
      try clear c5
      try clear c6
      try clear c7
      try clear c8
      try clear c9
      try clear c9b0
      try clear c10
      try clear c11
      try clear c12
      try clear c13
      try clear c14
      try clear c15
      try clear c16
      try clear c31
      try clear c33
      try clear c38
      try clear c39
      try clear c40
      try clear c41
      try clear c42
      try clear c43
      try clear c48
      try clear c49
      try clear c50
      try clear c53
      try clear c54
      try clear c55
      try clear c56
      try clear c58
      try clear c59
      try clear c62
      try clear c63
      try clear c64
      try clear c66
      try clear c67
      try clear c70
      try clear c73
      try clear c76
      try clear c87
      try clear c88
      try clear c89
      try clear c93
      try clear c93b0
      try clear c95
      try clear c96
      try clear c97
      try clear c98
      try clear c100
      try clear c101
      try clear c104
      try clear c105
      try clear c106
      try clear c108
      try clear c109
      try clear c112
      try clear c115
      try clear c115b0
      try clear c116
      try clear c116b0
      try clear c116b1
      try clear c121
      try clear c122
      try clear c123
      try clear c128
      try clear c129
      try clear c138
      try clear c139
      try clear c140
      try clear c141
      try clear c144
      try clear c145
      try clear c146
      try clear c147
      try clear c148
      try clear c150
      try clear c151
      try clear c152
      try clear c155
      try clear c156
      try clear c157
      try clear c158
      try clear c160
      try clear c161
      try clear c162
      try clear hcz102_0
      try clear hcz107_0
      try clear hcz110_0
      try clear hcz11_0
      try clear hcz124_0
      try clear hcz126_0
      try clear hcz130_0
      try clear hcz142_0
      try clear hcz149_0
      try clear hcz153_0
      try clear hcz159_0
      try clear hcz163_0
      try clear hcz22_0
      try clear hcz25_0
      try clear hcz34_0
      try clear hcz35_0
      try clear hcz41_0
      try clear hcz43_0
      try clear hcz51_0
      try clear hcz57_0
      try clear hcz60_0
      try clear hcz65_0
      try clear hcz68_0
      try clear hcz6_0
      try clear hcz90_0
      try clear hcz99_0
      try clear hfz102_0
      try clear hfz107_0
      try clear hfz110_0
      try clear hfz11_0
      try clear hfz124_0
      try clear hfz126_0
      try clear hfz130_0
      try clear hfz142_0
      try clear hfz149_0
      try clear hfz153_0
      try clear hfz159_0
      try clear hfz163_0
      try clear hfz22_0
      try clear hfz25_0
      try clear hfz34_0
      try clear hfz35_0
      try clear hfz41_0
      try clear hfz43_0
      try clear hfz51_0
      try clear hfz57_0
      try clear hfz60_0
      try clear hfz65_0
      try clear hfz68_0
      try clear hfz6_0
      try clear hfz90_0
      try clear hfz99_0
      try clear p2
      obtain ⟨kq, x110_119, rfl, HA, HJ119, HO_329000, HO_333000, HO_341000, HO_369000, BK315, BK328, BK332, BK340, BK368, HB⟩ := hcut
      have hl341000_119 := (Kd.R_reads' HO_341000.out).1
      rw [hl341000_119] at HO_341000
      (try simp only [hl341000_119])
      (try simp only [hl341000_119] at BK315)
      (try simp only [hl341000_119] at BK328)
      (try simp only [hl341000_119] at BK332)
      (try simp only [hl341000_119] at BK340)
      (try simp only [hl341000_119] at BK368)
      (try simp only [hl341000_119] at HO_329000)
      (try simp only [hl341000_119] at HO_333000)
      (try simp only [hl341000_119] at HO_369000)
      cases kq with
      | zero => exact absurd HA.out (by simp [laws_FnExactDoActs.j2])
      | succ kj119 =>
       have H := HA.out
       clear HA
       simp only [laws_FnExactDoActs.j2] at H
       by_cases c165 : x110_119 = true
       ·
        subst c165
        have H1 : (none) = some r := by rw [if_pos rfl] at H; exact H
        clear H
        have H := H1
        clear H1
        exact absurd H (by simp)
       replace c165 := Bool.eq_false_iff.mpr c165
       subst c165
       have H1 : ((laws_heldDisk.f kj119 t356 1).bind fun t370 => (if t370 < 0 then (none) else (if t370 = t355 then (some true) else (none)))) = some r := by rw [if_neg (show ¬ (false = true) by decide)] at H; exact H
       clear H
       have H := H1
       clear H1
       replace H := Option.bind_eq_some_iff.mp H
       obtain ⟨t370, A1660, H⟩ := H
       replace H : (if t370 < 0 then (none) else (if t370 = t355 then (some true) else (none))) = some r := H
       have A166 := Aside0.mk A1660
       clear A1660
       by_cases c167 : t370 < 0
       ·
        rw [if_pos c167] at H
        exact absurd H (by simp)
       rw [if_neg c167] at H
       have c167b0 : decide (t370 < 0) = false := decide_eq_false c167
       clear c167
       by_cases c168 : t370 = t355; rotate_left
       ·
        rw [if_neg c168] at H
        exact absurd H (by simp)
       rw [if_pos c168] at H
       have c168b0 : (t370 == t355) = true := beq_iff_eq.mpr c168
       have c168b1 : (t370 != t355) = false := bne_eq_false_iff_eq.mpr c168
       clear c168
       obtain rfl := Option.some.inj H
       have hnb169 := NB340_315.out
       have hnc169 := NB315_340.out
       have hnb170 := NB340_328.out
       have hnc170 := NB328_340.out
       have hnb171 := NB340_332.out
       have hnc171 := NB332_340.out
       have hnb172 := NB340_368.out
       have hnc172 := NB368_340.out
       have hcz173_0 : wc.cell? ⟨gb340, 0, none⟩ = some (.slice Ao47 t356.length co47) := CZ BK340.out 0
       have hfz173_0 := blk_frozen BK340.out 0
       go_wp2_with (first | ((with_reducible refine gate_callee (f := 33) rfl ?_); refine goesL_ (some 113) rfl rfl Try.func33 (by kernel_rfl) rfl #[.agg #[.slice Ao47 t356.length co47], .int .i64 1] rfl (MA) ?_; (with_reducible refine (laws_heldDisk.calls kj119 _ _ t356 1 t370 _ ?side1 ?side2 A166.out).mono ?_); (case side1 => repeat (first | exact (Kd.R_reads' HO_341000.out).2.2 | (with_reducible refine Kd.C_alloc ?_ _) | (with_reducible refine Kd.C_drewN ?_ _) | (with_reducible refine Kd.C_drew ?_))); (case side2 => exact (Kd.R_reads' HO_341000.out).2.1); rintro e w174 ⟨rfl, hb⟩; refine ⟨_, rfl, ?_⟩; replace HO_329000 := Aside0.mk (Kd.R_below (RQ HO_329000.out) hb); replace HO_333000 := Aside0.mk (Kd.R_below (RQ HO_333000.out) hb); replace HO_341000 := Aside0.mk (Kd.R_below (RQ HO_341000.out) hb); replace HO_369000 := Aside0.mk (Kd.R_below (RQ HO_369000.out) hb); replace BK315 := BB BK315.out hb; replace BK328 := BB BK328.out hb; replace BK332 := BB BK332.out hb; replace BK340 := BB BK340.out hb; replace BK368 := BB BK368.out hb; replace HB := Aside0.mk (below_step (BL) hb); (try clear hb); (try clear hb2); (try clear hk); (try clear hi)))
       go_ret
       exact ⟨EE, BL⟩

/-- THE PURE STATEMENT of laws_FnExactDoActs. -/
def laws_FnExactDoActs.Pure : Prop := ∀ (l0_0 : List (S94)) (l1 : List (S52)), ((∀ x_ ∈ l0_0, (x_.f0.size ≤ maxLen ∧ x_.f1.size ≤ maxLen ∧ (Lit.int .i64 x_.f2).wf = true)) ∧ l0_0.length ≤ maxLen) → ((∀ x_ ∈ l1, ((Lit.int .i64 x_.f0).wf = true ∧ x_.f1.size ≤ maxLen ∧ x_.f2.size ≤ maxLen ∧ x_.f3.size ≤ maxLen)) ∧ l1.length ≤ maxLen) → ∃ k, laws_FnExactDoActs.f k l0_0 l1 = some true

end Go.Proofs.Ythfppepnpngfmaa.Qdo
