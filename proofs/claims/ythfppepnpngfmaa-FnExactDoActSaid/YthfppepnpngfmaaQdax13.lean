-- Laid by myprint.py, a program of this session's own, over the kit's print. Not trusted: Lean checks it.
import Derived.Test.YthfppepnpngfmaaQdax0
import Derived.Test.YthfppepnpngfmaaQdax1
import Derived.Test.YthfppepnpngfmaaQdax2
import Derived.Test.YthfppepnpngfmaaQdax3
import Derived.Test.YthfppepnpngfmaaQdax8
import Derived.Test.YthfppepnpngfmaaQdax9
import Derived.Test.YthfppepnpngfmaaQdax12
namespace Go.Proofs.Ythfppepnpngfmaa.Qda
open Go.RowKit Go.Proofs.YthfppepnpngfmaaW.PrintWords Go.Proofs.YthfppepnpngfmaaW.PrintLast Go.Proofs.YthfppepnpngfmaaW.PrintMore
attribute [local go_sem] Go.Proofs.Ythfppepnpngfmaa.StrCmp.gtr_less Go.Proofs.Ythfppepnpngfmaa.StrCmp.geq_less Go.Proofs.Ythfppepnpngfmaa.StrCmp.leq_less max2_int min2_int max_two min_two max_three min_three max_four min_four   -- for this text's walks alone
set_option linter.unusedVariables false
set_option linter.unusedSimpArgs false

/-! ### laws_FnExactDoAct: function 8 -/
mutual
def laws_FnExactDoAct.j0 : Nat → Bool → Bool → Bool → List (S94) → Int → ByteArray → ByteArray → ByteArray → List (S45) → List (S45) → List (S45) → Option (Bool)
 | 0, _, _, _, _, _, _, _, _, _, _, _ => none
 | k + 1, x7, x10, x51, x265000, x266000, x266001, x266002, x266003, x280000, x284000, x293000 => if x51 = true then (none) else ((laws_toDisk.f k x265000).bind fun t294 => ((laws_eqDisk.f k x284000 t294).bind fun t297 => (if t297 = true then ((laws_markDisk.f k x284000 1).bind fun bt298 => (if bt298.1 < 0 then (laws_FnExactDoAct.j1 k x7 true x265000 x266000 x266001 x266002 x266003 x280000 x293000) else ((laws_eqDisk.f k x293000 x280000).bind fun t300 => (if t300 = true then (laws_FnExactDoAct.j1 k x7 (x10 != x7) x265000 x266000 x266001 x266002 x266003 x280000 x293000) else (laws_FnExactDoAct.j1 k x7 true x265000 x266000 x266001 x266002 x266003 x280000 x293000))))) else (none))))
def laws_FnExactDoAct.j1 : Nat → Bool → Bool → List (S94) → Int → ByteArray → ByteArray → ByteArray → List (S45) → List (S45) → Option (Bool)
 | 0, _, _, _, _, _, _, _, _, _ => none
 | k + 1, x7, x72, x265000, x266000, x266001, x266002, x266003, x280000, x293000 => if x72 = true then (none) else ((laws_markDisk.f k x293000 1).bind fun bt301 => ((laws_heldDisk.f k bt301.2 1).bind fun t303 => (if t303 < 0 then (none) else (if t303 = bt301.1 then ((laws_toDisk.f k x265000).bind fun t304 => ((laws_toAct.f x266000 x266001 x266002 x266003).bind fun bt307 => ((impl_DoAct.f k t304 bt307.1 bt307.2.1 bt307.2.2.1 bt307.2.2.2).bind fun bt311 => ((laws_eqDisk.f k bt311.1 x280000).bind fun t316 => (if t316 = true then (laws_FnExactDoAct.j2 k bt301.1 (bt311.2 != x7) bt301.2) else (laws_FnExactDoAct.j2 k bt301.1 true bt301.2)))))) else (none)))))
def laws_FnExactDoAct.j2 : Nat → Int → Bool → List (S45) → Option (Bool)
 | 0, _, _, _ => none
 | k + 1, x12, x100, x293000 => if x100 = true then (none) else ((laws_heldDisk.f k x293000 1).bind fun t317 => (if t317 < 0 then (none) else (if t317 = x12 then (some true) else (none))))
end
def laws_FnExactDoAct.f (k : Nat) (l0_0 : List (S94)) (a1_0 : Int) (a1_1 : ByteArray) (a1_2 : ByteArray) (a1_3 : ByteArray) : Option (Bool) := (laws_szDisk.f k l0_0 1048576).bind fun t266 => (if t266 < 0 then (some true) else ((laws_szAct.f a1_0 a1_1 a1_2 a1_3 t266).bind fun t267 => (if t267 < 0 then (some true) else ((laws_toDisk.f k l0_0).bind fun t268 => ((laws_toAct.f a1_0 a1_1 a1_2 a1_3).bind fun bt271 => ((spec_DoAct.f k t268 bt271.1 bt271.2.1 bt271.2.2.1 bt271.2.2.2).bind fun bt275 => ((laws_toDisk.f k l0_0).bind fun t280 => ((laws_toAct.f a1_0 a1_1 a1_2 a1_3).bind fun bt284 => ((impl_DoAct.f k t280 bt284.1 bt284.2.1 bt284.2.2.1 bt284.2.2.2).bind fun bt288 => ((laws_eqDisk.f k bt288.1 bt275.1).bind fun t293 => (if t293 = true then (laws_FnExactDoAct.j0 k bt275.2 bt288.2 (bt288.2 != bt275.2) l0_0 a1_0 a1_1 a1_2 a1_3 bt275.1 t280 bt288.1) else (laws_FnExactDoAct.j0 k bt275.2 bt288.2 true l0_0 a1_0 a1_1 a1_2 a1_3 bt275.1 t280 bt288.1))))))))))))
theorem laws_FnExactDoAct.mono_l : ∀ k, (∀ y0 y1 y2 y3 y4 y5 y6 y7 y8 y9 y10, LeO (laws_FnExactDoAct.j0 k y0 y1 y2 y3 y4 y5 y6 y7 y8 y9 y10) (laws_FnExactDoAct.j0 (k + 1) y0 y1 y2 y3 y4 y5 y6 y7 y8 y9 y10)) ∧ (∀ y0 y1 y2 y3 y4 y5 y6 y7 y8, LeO (laws_FnExactDoAct.j1 k y0 y1 y2 y3 y4 y5 y6 y7 y8) (laws_FnExactDoAct.j1 (k + 1) y0 y1 y2 y3 y4 y5 y6 y7 y8)) ∧ (∀ y0 y1 y2, LeO (laws_FnExactDoAct.j2 k y0 y1 y2) (laws_FnExactDoAct.j2 (k + 1) y0 y1 y2))
 | 0 => ⟨fun _ _ _ _ _ _ _ _ _ _ _ r h => by simp [laws_FnExactDoAct.j0] at h, fun _ _ _ _ _ _ _ _ _ r h => by simp [laws_FnExactDoAct.j1] at h, fun _ _ _ r h => by simp [laws_FnExactDoAct.j2] at h⟩
 | k + 1 => by
  obtain ⟨ih0, ih1, ih2⟩ := laws_FnExactDoAct.mono_l k
  refine ⟨?_, ?_, ?_⟩
  ·
   intro y0 y1 y2 y3 y4 y5 y6 y7 y8 y9 y10
   unfold laws_FnExactDoAct.j0
   repeat' first
   | (with_reducible exact ih0 _ _ _ _ _ _ _ _ _ _ _)
   | (with_reducible exact ih1 _ _ _ _ _ _ _ _ _)
   | (with_reducible exact ih2 _ _ _)
   | (with_reducible exact impl_DoAct.mono _ _ _ _ _ _)
   | (with_reducible exact laws_eqDisk.mono _ _ _)
   | (with_reducible exact laws_heldDisk.mono _ _ _)
   | (with_reducible exact laws_markDisk.mono _ _ _)
   | (with_reducible exact laws_szDisk.mono _ _ _)
   | (with_reducible exact laws_toDisk.mono _ _)
   | (with_reducible exact spec_DoAct.mono _ _ _ _ _ _)
   | (with_reducible exact LeO.refl _)
   | (with_reducible exact LeO.none _)
   | (with_reducible refine LeO.ite ?_ ?_)
   | (with_reducible refine LeO.bind ?_ (fun _ => ?_))
   | exact ih0 _ _ _ _ _ _ _ _ _ _ _
   | exact ih1 _ _ _ _ _ _ _ _ _
   | exact ih2 _ _ _
   | exact impl_DoAct.mono _ _ _ _ _ _
   | exact laws_eqDisk.mono _ _ _
   | exact laws_heldDisk.mono _ _ _
   | exact laws_markDisk.mono _ _ _
   | exact laws_szDisk.mono _ _ _
   | exact laws_toDisk.mono _ _
   | exact spec_DoAct.mono _ _ _ _ _ _
   | exact LeO.none _
   | refine LeO.ite ?_ ?_
   | refine LeO.bind ?_ (fun _ => ?_)
  ·
   intro y0 y1 y2 y3 y4 y5 y6 y7 y8
   unfold laws_FnExactDoAct.j1
   repeat' first
   | (with_reducible exact ih0 _ _ _ _ _ _ _ _ _ _ _)
   | (with_reducible exact ih1 _ _ _ _ _ _ _ _ _)
   | (with_reducible exact ih2 _ _ _)
   | (with_reducible exact impl_DoAct.mono _ _ _ _ _ _)
   | (with_reducible exact laws_eqDisk.mono _ _ _)
   | (with_reducible exact laws_heldDisk.mono _ _ _)
   | (with_reducible exact laws_markDisk.mono _ _ _)
   | (with_reducible exact laws_szDisk.mono _ _ _)
   | (with_reducible exact laws_toDisk.mono _ _)
   | (with_reducible exact spec_DoAct.mono _ _ _ _ _ _)
   | (with_reducible exact LeO.refl _)
   | (with_reducible exact LeO.none _)
   | (with_reducible refine LeO.ite ?_ ?_)
   | (with_reducible refine LeO.bind ?_ (fun _ => ?_))
   | exact ih0 _ _ _ _ _ _ _ _ _ _ _
   | exact ih1 _ _ _ _ _ _ _ _ _
   | exact ih2 _ _ _
   | exact impl_DoAct.mono _ _ _ _ _ _
   | exact laws_eqDisk.mono _ _ _
   | exact laws_heldDisk.mono _ _ _
   | exact laws_markDisk.mono _ _ _
   | exact laws_szDisk.mono _ _ _
   | exact laws_toDisk.mono _ _
   | exact spec_DoAct.mono _ _ _ _ _ _
   | exact LeO.none _
   | refine LeO.ite ?_ ?_
   | refine LeO.bind ?_ (fun _ => ?_)
  ·
   intro y0 y1 y2
   unfold laws_FnExactDoAct.j2
   repeat' first
   | (with_reducible exact ih0 _ _ _ _ _ _ _ _ _ _ _)
   | (with_reducible exact ih1 _ _ _ _ _ _ _ _ _)
   | (with_reducible exact ih2 _ _ _)
   | (with_reducible exact impl_DoAct.mono _ _ _ _ _ _)
   | (with_reducible exact laws_eqDisk.mono _ _ _)
   | (with_reducible exact laws_heldDisk.mono _ _ _)
   | (with_reducible exact laws_markDisk.mono _ _ _)
   | (with_reducible exact laws_szDisk.mono _ _ _)
   | (with_reducible exact laws_toDisk.mono _ _)
   | (with_reducible exact spec_DoAct.mono _ _ _ _ _ _)
   | (with_reducible exact LeO.refl _)
   | (with_reducible exact LeO.none _)
   | (with_reducible refine LeO.ite ?_ ?_)
   | (with_reducible refine LeO.bind ?_ (fun _ => ?_))
   | exact ih0 _ _ _ _ _ _ _ _ _ _ _
   | exact ih1 _ _ _ _ _ _ _ _ _
   | exact ih2 _ _ _
   | exact impl_DoAct.mono _ _ _ _ _ _
   | exact laws_eqDisk.mono _ _ _
   | exact laws_heldDisk.mono _ _ _
   | exact laws_markDisk.mono _ _ _
   | exact laws_szDisk.mono _ _ _
   | exact laws_toDisk.mono _ _
   | exact spec_DoAct.mono _ _ _ _ _ _
   | exact LeO.none _
   | refine LeO.ite ?_ ?_
   | refine LeO.bind ?_ (fun _ => ?_)
theorem laws_FnExactDoAct.mono : ∀ a0 a1 a2 a3 a4 k, LeO (laws_FnExactDoAct.f k a0 a1 a2 a3 a4) (laws_FnExactDoAct.f (k + 1) a0 a1 a2 a3 a4) := by
 intro a0 a1 a2 a3 a4 k
 obtain ⟨ih0, ih1, ih2⟩ := laws_FnExactDoAct.mono_l k
 unfold laws_FnExactDoAct.f
 repeat' first
   | (with_reducible exact ih0 _ _ _ _ _ _ _ _ _ _ _)
   | (with_reducible exact ih1 _ _ _ _ _ _ _ _ _)
   | (with_reducible exact ih2 _ _ _)
   | (with_reducible exact impl_DoAct.mono _ _ _ _ _ _)
   | (with_reducible exact laws_eqDisk.mono _ _ _)
   | (with_reducible exact laws_heldDisk.mono _ _ _)
   | (with_reducible exact laws_markDisk.mono _ _ _)
   | (with_reducible exact laws_szDisk.mono _ _ _)
   | (with_reducible exact laws_toDisk.mono _ _)
   | (with_reducible exact spec_DoAct.mono _ _ _ _ _ _)
   | (with_reducible exact LeO.refl _)
   | (with_reducible exact LeO.none _)
   | (with_reducible refine LeO.ite ?_ ?_)
   | (with_reducible refine LeO.bind ?_ (fun _ => ?_))
   | exact ih0 _ _ _ _ _ _ _ _ _ _ _
   | exact ih1 _ _ _ _ _ _ _ _ _
   | exact ih2 _ _ _
   | exact impl_DoAct.mono _ _ _ _ _ _
   | exact laws_eqDisk.mono _ _ _
   | exact laws_heldDisk.mono _ _ _
   | exact laws_markDisk.mono _ _ _
   | exact laws_szDisk.mono _ _ _
   | exact laws_toDisk.mono _ _
   | exact spec_DoAct.mono _ _ _ _ _ _
   | exact LeO.none _
   | refine LeO.ite ?_ ?_
   | refine LeO.bind ?_ (fun _ => ?_)
def laws_FnExactDoAct.T8 : Bool × List (List Nat × List Nat) := (true, [([], []), ([0], [0]), ([], []), ([2, 1], [2]), ([1, 3, 3], [1, 3]), ([4], [4]), ([5], [5]), ([5], [5]), ([], []), ([8, 6, 4, 0, 1, 2, 3, 4, 5, 6, 8], [6, 8]), ([7, 9, 0, 1, 2, 3, 4, 5, 6, 7, 8, 9], [7])])
def laws_FnExactDoAct.B8 : List Nat := [0, 1, 0, 7, 15, 31, 63, 63, 0, 383, 1023]
theorem laws_FnExactDoAct.tab8 : rtab .any (opsOf Try.f8 8) = laws_FnExactDoAct.T8 := by kernel_rfl
theorem laws_FnExactDoAct.bits8 : waitsOk laws_FnExactDoAct.T8.2 laws_FnExactDoAct.B8 = true := by kernel_rfl
def laws_FnExactDoAct.T10 : Bool × List (List Nat × List Nat) := (true, [([], []), ([], []), ([1], [1]), ([0, 2, 2], [0, 2]), ([3], [3]), ([4], [4]), ([4], [4]), ([], []), ([7, 5, 3, 0, 1, 2, 3, 4, 5, 7], [5, 7]), ([6, 8, 0, 1, 2, 3, 4, 5, 6, 7, 8], [6])])
def laws_FnExactDoAct.B10 : List Nat := [0, 0, 2, 7, 15, 31, 31, 0, 191, 511]
theorem laws_FnExactDoAct.tab10 : rtab .any (opsOf Try.f8 10) = laws_FnExactDoAct.T10 := by kernel_rfl
theorem laws_FnExactDoAct.bits10 : waitsOk laws_FnExactDoAct.T10.2 laws_FnExactDoAct.B10 = true := by kernel_rfl
def laws_FnExactDoAct.T27 : Bool × List (List Nat × List Nat) := (true, [([], []), ([0], [0]), ([], []), ([2, 1], [2]), ([1, 3, 3], [1, 3]), ([4], [4]), ([5], [5]), ([5], [5]), ([], []), ([8, 6, 4, 0, 1, 2, 3, 4, 5, 6, 8], [6, 8]), ([7, 9, 0, 1, 2, 3, 4, 5, 6, 7, 8, 9], [7])])
def laws_FnExactDoAct.B27 : List Nat := [0, 1, 0, 7, 15, 31, 63, 63, 0, 383, 1023]
theorem laws_FnExactDoAct.tab27 : rtab .any (opsOf Try.f8 27) = laws_FnExactDoAct.T27 := by kernel_rfl
theorem laws_FnExactDoAct.bits27 : waitsOk laws_FnExactDoAct.T27.2 laws_FnExactDoAct.B27 = true := by kernel_rfl
set_option maxHeartbeats 8000000 in
set_option maxRecDepth 100000 in
theorem laws_FnExactDoAct.calls (k : Nat) (A0_0 : Option Addr) (c0_0 : Nat) (l0_0 : List (S94)) (a1_0 : Int) (a1_1 : ByteArray) (a1_2 : ByteArray) (a1_3 : ByteArray) (r : Bool) (w : World) (hr0_0 : Kd.C k94 w A0_0 l0_0.length l0_0) (hc0_0 : l0_0.length ≤ c0_0) (h : laws_FnExactDoAct.f k l0_0 a1_0 a1_1 a1_2 a1_3 = some r) :
  Calls Try.prog 8 #[.agg #[.slice A0_0 l0_0.length c0_0], .agg #[.int .i64 a1_0, .string a1_1, .string a1_2, .string a1_3]] w fun e w' => e = .returned (.bool r) ∧ Below w.heap.size w w' := by
 have hu24 := Try.underlying24
 have hu52 := Try.underlying52
 have hu29 := Try.underlying29
 have HR0_0 := Aside0.mk hr0_0
 have HC0_0 := Aside0.mk hc0_0
 clear hr0_0 hc0_0
 have HB := Aside0.mk (Below.refl w.heap.size w)
 have H : ((laws_szDisk.f k l0_0 1048576).bind fun t266 => (if t266 < 0 then (some true) else ((laws_szAct.f a1_0 a1_1 a1_2 a1_3 t266).bind fun t267 => (if t267 < 0 then (some true) else ((laws_toDisk.f k l0_0).bind fun t268 => ((laws_toAct.f a1_0 a1_1 a1_2 a1_3).bind fun bt271 => ((spec_DoAct.f k t268 bt271.1 bt271.2.1 bt271.2.2.1 bt271.2.2.2).bind fun bt275 => ((laws_toDisk.f k l0_0).bind fun t280 => ((laws_toAct.f a1_0 a1_1 a1_2 a1_3).bind fun bt284 => ((impl_DoAct.f k t280 bt284.1 bt284.2.1 bt284.2.2.1 bt284.2.2.2).bind fun bt288 => ((laws_eqDisk.f k bt288.1 bt275.1).bind fun t293 => (if t293 = true then (laws_FnExactDoAct.j0 k bt275.2 bt288.2 (bt288.2 != bt275.2) l0_0 a1_0 a1_1 a1_2 a1_3 bt275.1 t280 bt288.1) else (laws_FnExactDoAct.j0 k bt275.2 bt288.2 true l0_0 a1_0 a1_1 a1_2 a1_3 bt275.1 t280 bt288.1))))))))))))) = some r := h
 clear h
 replace H := Option.bind_eq_some_iff.mp H
 obtain ⟨t266, A30, H⟩ := H
 replace H : (if t266 < 0 then (some true) else ((laws_szAct.f a1_0 a1_1 a1_2 a1_3 t266).bind fun t267 => (if t267 < 0 then (some true) else ((laws_toDisk.f k l0_0).bind fun t268 => ((laws_toAct.f a1_0 a1_1 a1_2 a1_3).bind fun bt271 => ((spec_DoAct.f k t268 bt271.1 bt271.2.1 bt271.2.2.1 bt271.2.2.2).bind fun bt275 => ((laws_toDisk.f k l0_0).bind fun t280 => ((laws_toAct.f a1_0 a1_1 a1_2 a1_3).bind fun bt284 => ((impl_DoAct.f k t280 bt284.1 bt284.2.1 bt284.2.2.1 bt284.2.2.2).bind fun bt288 => ((laws_eqDisk.f k bt288.1 bt275.1).bind fun t293 => (if t293 = true then (laws_FnExactDoAct.j0 k bt275.2 bt288.2 (bt288.2 != bt275.2) l0_0 a1_0 a1_1 a1_2 a1_3 bt275.1 t280 bt288.1) else (laws_FnExactDoAct.j0 k bt275.2 bt288.2 true l0_0 a1_0 a1_1 a1_2 a1_3 bt275.1 t280 bt288.1)))))))))))) = some r := H
 have A3 := Aside0.mk A30
 clear A30
 by_cases c4 : t266 < 0
 ·
  rw [if_pos c4] at H
  have c4b0 : decide (t266 < 0) = true := decide_eq_true c4
  clear c4
  obtain rfl := Option.some.inj H
  go_enter Try.func8, Try.ntmps8
  go_wp2_with (first | ((with_reducible refine gate_dst (N := 2) rfl ?_); refine bE 2 #[.slice A0_0 l0_0.length c0_0] 24 ?_; intro gb264 hg w5 hbox hb; have BK264 := Aside0.mk (hbox); have GW264 : Aside0 (w.heap.size ≤ gb264) := GS; have GE264 : Aside0 (w.heap.size ≤ gb264) := GS; replace HB := Aside0.mk (below_step (BL) hb); clear hb hbox hg) | ((with_reducible refine gate_dst (N := 3) rfl ?_); refine bE 3 #[.int .i64 a1_0, .string a1_1, .string a1_2, .string a1_3] 52 ?_; intro gb265 hg w6 hbox hb; have BK265 := Aside0.mk (hbox); have GW265 : Aside0 (w.heap.size ≤ gb265) := GS; have GE265 : Aside0 (w.heap.size ≤ gb265) := GS; have NB264_265 := NL BK264.out hg; have NB265_264 := NG BK264.out hg; replace BK264 := BB BK264.out hb; replace HB := Aside0.mk (below_step (BL) hb); clear hb hbox hg; have hnb7 := NB264_265.out; have hnc7 := NB265_264.out; have hcz8_0 : w6.cell? ⟨gb264, 0, none⟩ = some (.slice A0_0 l0_0.length c0_0) := CZ BK264.out 0; have hfz8_0 := blk_frozen BK264.out 0) | ((with_reducible refine gate_callee (f := 12) rfl ?_); refine goesL_ (some 18) rfl rfl Try.func12 (by kernel_rfl) rfl #[.agg #[.slice A0_0 l0_0.length c0_0], .int .i64 1048576] rfl (MA) ?_; (with_reducible refine (laws_szDisk.calls k _ _ l0_0 1048576 t266 _ ?side1 ?side2 A3.out).mono ?_); (case side1 => repeat (first | exact (Kd.C_below HR0_0.out HB.out) | (with_reducible refine Kd.C_alloc ?_ _) | (with_reducible refine Kd.C_drewN ?_ _) | (with_reducible refine Kd.C_drew ?_))); (case side2 => exact HC0_0.out); rintro e w9 ⟨rfl, hb⟩; refine ⟨_, rfl, ?_⟩; replace BK264 := BB BK264.out hb; replace BK265 := BB BK265.out hb; replace HB := Aside0.mk (below_step (BL) hb); (try clear hb); (try clear hb2); (try clear hk); (try clear hi)))
  go_ret
  exact ⟨EE, BL⟩
 rw [if_neg c4] at H
 have c4b0 : decide (t266 < 0) = false := decide_eq_false c4
 clear c4
 replace H := Option.bind_eq_some_iff.mp H
 obtain ⟨t267, A100, H⟩ := H
 replace H : (if t267 < 0 then (some true) else ((laws_toDisk.f k l0_0).bind fun t268 => ((laws_toAct.f a1_0 a1_1 a1_2 a1_3).bind fun bt271 => ((spec_DoAct.f k t268 bt271.1 bt271.2.1 bt271.2.2.1 bt271.2.2.2).bind fun bt275 => ((laws_toDisk.f k l0_0).bind fun t280 => ((laws_toAct.f a1_0 a1_1 a1_2 a1_3).bind fun bt284 => ((impl_DoAct.f k t280 bt284.1 bt284.2.1 bt284.2.2.1 bt284.2.2.2).bind fun bt288 => ((laws_eqDisk.f k bt288.1 bt275.1).bind fun t293 => (if t293 = true then (laws_FnExactDoAct.j0 k bt275.2 bt288.2 (bt288.2 != bt275.2) l0_0 a1_0 a1_1 a1_2 a1_3 bt275.1 t280 bt288.1) else (laws_FnExactDoAct.j0 k bt275.2 bt288.2 true l0_0 a1_0 a1_1 a1_2 a1_3 bt275.1 t280 bt288.1)))))))))) = some r := H
 have A10 := Aside0.mk A100
 clear A100
 by_cases c11 : t267 < 0
 ·
  rw [if_pos c11] at H
  have c11b0 : decide (t267 < 0) = true := decide_eq_true c11
  clear c11
  obtain rfl := Option.some.inj H
  go_enter Try.func8, Try.ntmps8
  go_wp2_with (first | ((with_reducible refine gate_dst (N := 2) rfl ?_); refine bE 2 #[.slice A0_0 l0_0.length c0_0] 24 ?_; intro gb264 hg w12 hbox hb; have BK264 := Aside0.mk (hbox); have GW264 : Aside0 (w.heap.size ≤ gb264) := GS; have GE264 : Aside0 (w.heap.size ≤ gb264) := GS; replace HB := Aside0.mk (below_step (BL) hb); clear hb hbox hg) | ((with_reducible refine gate_dst (N := 3) rfl ?_); refine bE 3 #[.int .i64 a1_0, .string a1_1, .string a1_2, .string a1_3] 52 ?_; intro gb265 hg w13 hbox hb; have BK265 := Aside0.mk (hbox); have GW265 : Aside0 (w.heap.size ≤ gb265) := GS; have GE265 : Aside0 (w.heap.size ≤ gb265) := GS; have NB264_265 := NL BK264.out hg; have NB265_264 := NG BK264.out hg; replace BK264 := BB BK264.out hb; replace HB := Aside0.mk (below_step (BL) hb); clear hb hbox hg; have hnb14 := NB264_265.out; have hnc14 := NB265_264.out; have hcz15_0 : w13.cell? ⟨gb264, 0, none⟩ = some (.slice A0_0 l0_0.length c0_0) := CZ BK264.out 0; have hfz15_0 := blk_frozen BK264.out 0) | ((with_reducible refine gate_callee (f := 12) rfl ?_); refine goesL_ (some 18) rfl rfl Try.func12 (by kernel_rfl) rfl #[.agg #[.slice A0_0 l0_0.length c0_0], .int .i64 1048576] rfl (MA) ?_; (with_reducible refine (laws_szDisk.calls k _ _ l0_0 1048576 t266 _ ?side1 ?side2 A3.out).mono ?_); (case side1 => repeat (first | exact (Kd.C_below HR0_0.out HB.out) | (with_reducible refine Kd.C_alloc ?_ _) | (with_reducible refine Kd.C_drewN ?_ _) | (with_reducible refine Kd.C_drew ?_))); (case side2 => exact HC0_0.out); rintro e w16 ⟨rfl, hb⟩; refine ⟨_, rfl, ?_⟩; replace BK264 := BB BK264.out hb; replace BK265 := BB BK265.out hb; replace HB := Aside0.mk (below_step (BL) hb); (try clear hb); (try clear hb2); (try clear hk); (try clear hi); have hcz17_0 : w16.cell? ⟨gb265, 0, none⟩ = some (.int .i64 a1_0) := CZ BK265.out 0; have hcz17_1 : w16.cell? ⟨gb265, 1, none⟩ = some (.string a1_1) := CZ BK265.out 1; have hcz17_2 : w16.cell? ⟨gb265, 2, none⟩ = some (.string a1_2) := CZ BK265.out 2; have hcz17_3 : w16.cell? ⟨gb265, 3, none⟩ = some (.string a1_3) := CZ BK265.out 3; have hfz17_0 := blk_frozen BK265.out 0; have hfz17_1 := blk_frozen BK265.out 1; have hfz17_2 := blk_frozen BK265.out 2; have hfz17_3 := blk_frozen BK265.out 3) | ((with_reducible refine gate_callee (f := 34) rfl ?_); refine goesL_ (some 23) rfl rfl Try.func34 (by kernel_rfl) rfl #[.agg #[.int .i64 a1_0, .string a1_1, .string a1_2, .string a1_3], .int .i64 t266] rfl (MA) ?_; (with_reducible refine (laws_szAct.calls a1_0 a1_1 a1_2 a1_3 t266 t267 _ A10.out).mono ?_); rintro e w18 ⟨rfl, hb⟩; refine ⟨_, rfl, ?_⟩; replace BK264 := BB BK264.out hb; replace BK265 := BB BK265.out hb; replace HB := Aside0.mk (below_step (BL) hb); (try clear hb); (try clear hb2); (try clear hk); (try clear hi)))
  go_ret
  exact ⟨EE, BL⟩
 rw [if_neg c11] at H
 have c11b0 : decide (t267 < 0) = false := decide_eq_false c11
 clear c11
 replace H := Option.bind_eq_some_iff.mp H
 obtain ⟨t268, A190, H⟩ := H
 replace H : ((laws_toAct.f a1_0 a1_1 a1_2 a1_3).bind fun bt271 => ((spec_DoAct.f k t268 bt271.1 bt271.2.1 bt271.2.2.1 bt271.2.2.2).bind fun bt275 => ((laws_toDisk.f k l0_0).bind fun t280 => ((laws_toAct.f a1_0 a1_1 a1_2 a1_3).bind fun bt284 => ((impl_DoAct.f k t280 bt284.1 bt284.2.1 bt284.2.2.1 bt284.2.2.2).bind fun bt288 => ((laws_eqDisk.f k bt288.1 bt275.1).bind fun t293 => (if t293 = true then (laws_FnExactDoAct.j0 k bt275.2 bt288.2 (bt288.2 != bt275.2) l0_0 a1_0 a1_1 a1_2 a1_3 bt275.1 t280 bt288.1) else (laws_FnExactDoAct.j0 k bt275.2 bt288.2 true l0_0 a1_0 a1_1 a1_2 a1_3 bt275.1 t280 bt288.1)))))))) = some r := H
 have A19 := Aside0.mk A190
 clear A190
 replace H := Option.bind_eq_some_iff.mp H
 obtain ⟨⟨t271, t272, t273, t274⟩, A200, H⟩ := H
 replace H : ((spec_DoAct.f k t268 t271 t272 t273 t274).bind fun bt275 => ((laws_toDisk.f k l0_0).bind fun t280 => ((laws_toAct.f a1_0 a1_1 a1_2 a1_3).bind fun bt284 => ((impl_DoAct.f k t280 bt284.1 bt284.2.1 bt284.2.2.1 bt284.2.2.2).bind fun bt288 => ((laws_eqDisk.f k bt288.1 bt275.1).bind fun t293 => (if t293 = true then (laws_FnExactDoAct.j0 k bt275.2 bt288.2 (bt288.2 != bt275.2) l0_0 a1_0 a1_1 a1_2 a1_3 bt275.1 t280 bt288.1) else (laws_FnExactDoAct.j0 k bt275.2 bt288.2 true l0_0 a1_0 a1_1 a1_2 a1_3 bt275.1 t280 bt288.1))))))) = some r := H
 have A20 := Aside0.mk A200
 clear A200
 replace H := Option.bind_eq_some_iff.mp H
 obtain ⟨⟨t275, t278⟩, A210, H⟩ := H
 replace H : ((laws_toDisk.f k l0_0).bind fun t280 => ((laws_toAct.f a1_0 a1_1 a1_2 a1_3).bind fun bt284 => ((impl_DoAct.f k t280 bt284.1 bt284.2.1 bt284.2.2.1 bt284.2.2.2).bind fun bt288 => ((laws_eqDisk.f k bt288.1 t275).bind fun t293 => (if t293 = true then (laws_FnExactDoAct.j0 k t278 bt288.2 (bt288.2 != t278) l0_0 a1_0 a1_1 a1_2 a1_3 t275 t280 bt288.1) else (laws_FnExactDoAct.j0 k t278 bt288.2 true l0_0 a1_0 a1_1 a1_2 a1_3 t275 t280 bt288.1)))))) = some r := H
 have A21 := Aside0.mk A210
 clear A210
 replace H := Option.bind_eq_some_iff.mp H
 obtain ⟨t280, A220, H⟩ := H
 replace H : ((laws_toAct.f a1_0 a1_1 a1_2 a1_3).bind fun bt284 => ((impl_DoAct.f k t280 bt284.1 bt284.2.1 bt284.2.2.1 bt284.2.2.2).bind fun bt288 => ((laws_eqDisk.f k bt288.1 t275).bind fun t293 => (if t293 = true then (laws_FnExactDoAct.j0 k t278 bt288.2 (bt288.2 != t278) l0_0 a1_0 a1_1 a1_2 a1_3 t275 t280 bt288.1) else (laws_FnExactDoAct.j0 k t278 bt288.2 true l0_0 a1_0 a1_1 a1_2 a1_3 t275 t280 bt288.1))))) = some r := H
 have A22 := Aside0.mk A220
 clear A220
 replace H := Option.bind_eq_some_iff.mp H
 obtain ⟨⟨t284, t285, t286, t287⟩, A230, H⟩ := H
 replace H : ((impl_DoAct.f k t280 t284 t285 t286 t287).bind fun bt288 => ((laws_eqDisk.f k bt288.1 t275).bind fun t293 => (if t293 = true then (laws_FnExactDoAct.j0 k t278 bt288.2 (bt288.2 != t278) l0_0 a1_0 a1_1 a1_2 a1_3 t275 t280 bt288.1) else (laws_FnExactDoAct.j0 k t278 bt288.2 true l0_0 a1_0 a1_1 a1_2 a1_3 t275 t280 bt288.1)))) = some r := H
 have A23 := Aside0.mk A230
 clear A230
 replace H := Option.bind_eq_some_iff.mp H
 obtain ⟨⟨t288, t291⟩, A240, H⟩ := H
 replace H : ((laws_eqDisk.f k t288 t275).bind fun t293 => (if t293 = true then (laws_FnExactDoAct.j0 k t278 t291 (t291 != t278) l0_0 a1_0 a1_1 a1_2 a1_3 t275 t280 t288) else (laws_FnExactDoAct.j0 k t278 t291 true l0_0 a1_0 a1_1 a1_2 a1_3 t275 t280 t288))) = some r := H
 have A24 := Aside0.mk A240
 clear A240
 have HC25 := Aside0.mk H
 clear H
 go_enter Try.func8, Try.ntmps8
 try go_wp2_with (first | ((with_reducible refine gate_dst (N := 2) rfl ?_); refine bE 2 #[.slice A0_0 l0_0.length c0_0] 24 ?_; intro gb264 hg w26 hbox hb; have BK264 := Aside0.mk (hbox); have GW264 : Aside0 (w.heap.size ≤ gb264) := GS; have GE264 : Aside0 (w.heap.size ≤ gb264) := GS; replace HB := Aside0.mk (below_step (BL) hb); clear hb hbox hg) | ((with_reducible refine gate_dst (N := 3) rfl ?_); refine bE 3 #[.int .i64 a1_0, .string a1_1, .string a1_2, .string a1_3] 52 ?_; intro gb265 hg w27 hbox hb; have BK265 := Aside0.mk (hbox); have GW265 : Aside0 (w.heap.size ≤ gb265) := GS; have GE265 : Aside0 (w.heap.size ≤ gb265) := GS; have NB264_265 := NL BK264.out hg; have NB265_264 := NG BK264.out hg; replace BK264 := BB BK264.out hb; replace HB := Aside0.mk (below_step (BL) hb); clear hb hbox hg; have hnb28 := NB264_265.out; have hnc28 := NB265_264.out; have hcz29_0 : w27.cell? ⟨gb264, 0, none⟩ = some (.slice A0_0 l0_0.length c0_0) := CZ BK264.out 0; have hfz29_0 := blk_frozen BK264.out 0) | ((with_reducible refine gate_callee (f := 12) rfl ?_); refine goesL_ (some 18) rfl rfl Try.func12 (by kernel_rfl) rfl #[.agg #[.slice A0_0 l0_0.length c0_0], .int .i64 1048576] rfl (MA) ?_; (with_reducible refine (laws_szDisk.calls k _ _ l0_0 1048576 t266 _ ?side1 ?side2 A3.out).mono ?_); (case side1 => repeat (first | exact (Kd.C_below HR0_0.out HB.out) | (with_reducible refine Kd.C_alloc ?_ _) | (with_reducible refine Kd.C_drewN ?_ _) | (with_reducible refine Kd.C_drew ?_))); (case side2 => exact HC0_0.out); rintro e w30 ⟨rfl, hb⟩; refine ⟨_, rfl, ?_⟩; replace BK264 := BB BK264.out hb; replace BK265 := BB BK265.out hb; replace HB := Aside0.mk (below_step (BL) hb); (try clear hb); (try clear hb2); (try clear hk); (try clear hi); have hcz31_0 : w30.cell? ⟨gb265, 0, none⟩ = some (.int .i64 a1_0) := CZ BK265.out 0; have hcz31_1 : w30.cell? ⟨gb265, 1, none⟩ = some (.string a1_1) := CZ BK265.out 1; have hcz31_2 : w30.cell? ⟨gb265, 2, none⟩ = some (.string a1_2) := CZ BK265.out 2; have hcz31_3 : w30.cell? ⟨gb265, 3, none⟩ = some (.string a1_3) := CZ BK265.out 3; have hfz31_0 := blk_frozen BK265.out 0; have hfz31_1 := blk_frozen BK265.out 1; have hfz31_2 := blk_frozen BK265.out 2; have hfz31_3 := blk_frozen BK265.out 3) | ((with_reducible refine gate_callee (f := 34) rfl ?_); refine goesL_ (some 23) rfl rfl Try.func34 (by kernel_rfl) rfl #[.agg #[.int .i64 a1_0, .string a1_1, .string a1_2, .string a1_3], .int .i64 t266] rfl (MA) ?_; (with_reducible refine (laws_szAct.calls a1_0 a1_1 a1_2 a1_3 t266 t267 _ A10.out).mono ?_); rintro e w32 ⟨rfl, hb⟩; refine ⟨_, rfl, ?_⟩; replace BK264 := BB BK264.out hb; replace BK265 := BB BK265.out hb; replace HB := Aside0.mk (below_step (BL) hb); (try clear hb); (try clear hb2); (try clear hk); (try clear hi)))
 have n0_ := Aside0.mk (blk_drew BK264.out)
 have n1_ := Aside0.mk (blk_drew BK265.out)
 have n2_ := Aside0.mk (below_drew1 HB.out)
 clear BK264
 clear BK265
 clear HB
 have BK264 := n0_
 have BK265 := n1_
 have HB := n2_
 clear n0_ n1_ n2_
 refine start_ (n := 11) (S := fun w' => w'.cell? ⟨gb264, 0, none⟩ = some (.slice A0_0 l0_0.length c0_0) ∧ w'.cell? ⟨gb265, 0, none⟩ = some (.int .i64 a1_0) ∧ w'.cell? ⟨gb265, 1, none⟩ = some (.string a1_1) ∧ w'.cell? ⟨gb265, 2, none⟩ = some (.string a1_2) ∧ w'.cell? ⟨gb265, 3, none⟩ = some (.string a1_3)) (ds := []) #[false, false, false, false, false, false, false, false, false, false, false] (by kernel_rfl) rfl rfl ⟨CZ BK264.out 0, CZ BK265.out 0, CZ BK265.out 1, CZ BK265.out 2, CZ BK265.out 3⟩ (fun hHeld => ?_); refine with_tabW laws_FnExactDoAct.tab8 laws_FnExactDoAct.bits8 (fun HT_ HW_ => ?_)
 generalize w32.drew = w33 at BK264 BK265 HB hHeld ⊢
 refine take_ (i := 0) (N := some 27) (v := ?_) (a' := ?_) (OB 11 1) rfl rfl (take_ofW HT_.out HW_.out (by kernel_rfl)) (fun _ _ _ h => h) (Or.inl ⟨by rfl, ?_⟩) hHeld ?_ ?_
 rotate_left
 ·
  rintro w' ⟨s0, s1, s2, s3, s4⟩
  go_simp
  with_reducible rfl
 rotate_left
 ·
  simp only [Act.put, zA, zB, zC, i64_w, i32_w]
  rfl
 refine take_ (i := 2) (N := some 29) (v := ?_) (a' := ?_) (OB 11 5) rfl rfl (take_ofW HT_.out HW_.out (by kernel_rfl)) (fun _ _ _ h => h) (Or.inl ⟨by rfl, ?_⟩) hHeld ?_ ?_
 rotate_left
 ·
  rintro w' ⟨s0, s1, s2, s3, s4⟩
  go_simp
  with_reducible rfl
 rotate_left
 ·
  simp only [Act.put, zA, zB, zC, i64_w, i32_w]
  rfl
 refine join_ (σ := Value × Value × Nat) 2 #[true, true, true, true, true, true, true, true, true, false, false] (fun s_ => [(28, .agg #[s_.1]), (30, .agg #[.int .i64 t271, .string t272, .string t273, .string t274]), (31, .tuple #[.agg #[s_.2.1], .bool t278]), (6, .pointer (some ⟨s_.2.2, 0, none⟩)), (26, .tuple #[.agg #[s_.2.1], .bool t278]), (32, .agg #[s_.2.1]), (33, .bool t278)]) (fun s_ w' => (w'.cell? ⟨gb264, 0, none⟩ = some (.slice A0_0 l0_0.length c0_0) ∧ w'.cell? ⟨gb265, 0, none⟩ = some (.int .i64 a1_0) ∧ w'.cell? ⟨gb265, 1, none⟩ = some (.string a1_1) ∧ w'.cell? ⟨gb265, 2, none⟩ = some (.string a1_2) ∧ w'.cell? ⟨gb265, 3, none⟩ = some (.string a1_3)) ∧ (Kd.R k45 45 w' w.heap.size (fun k_ => some k_ ≠ (s_.2.1 : Value).ownBlock) s_.1 t268) ∧ (Kd.R k45 45 w' w.heap.size (fun k_ => some k_ ≠ (s_.1 : Value).ownBlock) s_.2.1 t275) ∧ (w'.heap[gb264]? = some (.cells #[.slice A0_0 l0_0.length c0_0] 24 (0, 0))) ∧ (w'.heap[gb265]? = some (.cells #[.int .i64 a1_0, .string a1_1, .string a1_2, .string a1_3] 52 (0, 0))) ∧ (w'.heap[s_.2.2]? = some (.cells #[.slice none 0 0] 29 (0, 0))) ∧ (w.heap.size ≤ s_.2.2) ∧ (w.heap.size ≤ s_.2.2) ∧ (gb264 ≠ s_.2.2) ∧ (s_.2.2 ≠ gb264) ∧ (gb265 ≠ s_.2.2) ∧ (s_.2.2 ≠ gb265) ∧ (Below w.heap.size w w')) ?_ ?_
 rotate_left
 ·
  intro hCont
  refine two_ (i := 1) (j := 8) (Ni := some 28) (Nj := some 6) #[true, true, true, false, false, false, false, false, false, false, false] #[true, false, true, false, false, false, false, false, true, false, false] rfl rfl rfl rfl (two_of HT_.out (by kernel_rfl)) (by decide) (by decide) (fun K hK => ?_) (fun K hK => ?_)
  ·
   skip
   refine goes_ Try.func14 (by kernel_rfl) rfl #[.agg #[.slice A0_0 l0_0.length c0_0]] (by rfl) rfl rfl (MA) ?_
   with_reducible refine (laws_toDisk.calls k _ _ l0_0 t268 _ ?side1 ?side2 A19.out).mono ?_
   (case side1 => repeat (first | exact (Kd.C_below HR0_0.out HB.out) | (with_reducible refine Kd.C_alloc ?_ _) | (with_reducible refine Kd.C_drewN ?_ _) | (with_reducible refine Kd.C_drew ?_)))
   (case side2 => exact HC0_0.out)
   rintro e w34 ⟨v269, rfl, ho0, hb⟩
   refine ⟨_, rfl, ?_⟩
   have n0_ := Aside0.mk (Kd.R_lower ho0 (below_size (BL)))
   have n1_ := BB BK264.out hb
   have n2_ := BB BK265.out hb
   have n3_ := Aside0.mk (below_step (BL) hb)
   clear BK264
   clear BK265
   clear HB
   have HO270 := n0_
   have BK264 := n1_
   have BK265 := n2_
   have HB := n3_
   clear n0_ n1_ n2_ n3_
   (try clear hb)
   (try clear hb2)
   (try clear hk)
   (try clear hi)
   (try clear ho0)
   refine hK.out _ _ ⟨CZ BK264.out 0, CZ BK265.out 0, CZ BK265.out 1, CZ BK265.out 2, CZ BK265.out 3⟩ (fun hHeld => ?_)
   clear hK K
   refine norm_ (a' := ?_) ?_ ?_
   rotate_left
   ·
    show Act.put _ (some 28) _ = _
    simp only [Act.put, zA, zB, zC, i64_w, i32_w]
    rfl
   refine two_ (i := 3) (j := 8) (Ni := some 30) (Nj := some 6) #[true, true, true, true, false, false, false, false, false, false, false] #[true, true, true, false, false, false, false, false, true, false, false] rfl rfl rfl rfl (two_of HT_.out (by kernel_rfl)) (by decide) (by decide) (fun K hK => ?_) (fun K hK => ?_)
   ·
    skip
    refine goes_ Try.func36 (by kernel_rfl) rfl #[.agg #[.int .i64 a1_0, .string a1_1, .string a1_2, .string a1_3]] (by rfl) rfl rfl (MA) ?_
    with_reducible refine (laws_toAct.calls a1_0 a1_1 a1_2 a1_3 t271 t272 t273 t274 _ A20.out).mono ?_
    rintro e w35 ⟨rfl, hb⟩
    refine ⟨_, rfl, ?_⟩
    have n0_ := Aside0.mk (Kd.R_below (RQ HO270.out) hb)
    have n1_ := BB BK264.out hb
    have n2_ := BB BK265.out hb
    have n3_ := Aside0.mk (below_step (BL) hb)
    clear HO270
    clear BK264
    clear BK265
    clear HB
    have HO270 := n0_
    have BK264 := n1_
    have BK265 := n2_
    have HB := n3_
    clear n0_ n1_ n2_ n3_
    (try clear hb)
    (try clear hb2)
    (try clear hk)
    (try clear hi)
    obtain ⟨Ao36, co36, eo36⟩ := Kd.R_slice HO270.out
    (first | subst eo36 | (injection eo36 with f1_ f2_ f3_; have f4_ := f1_.symm; have f5_ := f3_.symm; clear f1_ f2_ f3_; subst f4_; subst f5_))
    refine hK.out _ _ ⟨CZ BK264.out 0, CZ BK265.out 0, CZ BK265.out 1, CZ BK265.out 2, CZ BK265.out 3⟩ (fun hHeld => ?_)
    clear hK K
    refine norm_ (a' := ?_) ?_ ?_
    rotate_left
    ·
     show Act.put _ (some 30) _ = _
     simp only [Act.put, zA, zB, zC, i64_w, i32_w]
     rfl
    refine two_ (i := 4) (j := 8) (Ni := some 31) (Nj := some 6) #[true, true, true, true, true, false, false, false, false, false, false] #[true, true, true, true, false, false, false, false, true, false, false] rfl rfl rfl rfl (two_of HT_.out (by kernel_rfl)) (by decide) (by decide) (fun K hK => ?_) (fun K hK => ?_)
    ·
     skip
     refine goes_ Try.func35 (by kernel_rfl) rfl #[.agg #[.slice Ao36 t268.length co36], .agg #[.int .i64 t271, .string t272, .string t273, .string t274]] (by rfl) rfl rfl (MA) ?_
     with_reducible refine (spec_DoAct.calls k _ _ t268 t271 t272 t273 t274 t275 t278 _ ?side1 ?side2 A21.out).mono ?_
     (case side1 => repeat (first | exact (Kd.R_reads' HO270.out).2.2 | (with_reducible refine Kd.C_alloc ?_ _) | (with_reducible refine Kd.C_drewN ?_ _) | (with_reducible refine Kd.C_drew ?_)))
     (case side2 => exact (Kd.R_reads' HO270.out).2.1)
     rintro e w37 ⟨v276, rfl, ho0, hb⟩
     refine ⟨_, rfl, ?_⟩
     have n0_ := Aside0.mk (Kd.R_elder' (RQ HO270.out) (Kd.R_base ho0) hb)
     have n1_ := Aside0.mk (Kd.R_lower (Kd.R_new' ho0 (Kd.R_lt (RQ HO270.out))) (below_size (BL)))
     have n2_ := BB BK264.out hb
     have n3_ := BB BK265.out hb
     have n4_ := Aside0.mk (below_step (BL) hb)
     clear HO270
     clear BK264
     clear BK265
     clear HB
     have HO270 := n0_
     have HO277 := n1_
     have BK264 := n2_
     have BK265 := n3_
     have HB := n4_
     clear n0_ n1_ n2_ n3_ n4_
     (try clear hb)
     (try clear hb2)
     (try clear hk)
     (try clear hi)
     (try clear ho0)
     refine hK.out _ _ ⟨CZ BK264.out 0, CZ BK265.out 0, CZ BK265.out 1, CZ BK265.out 2, CZ BK265.out 3⟩ (fun hHeld => ?_)
     clear hK K
     refine norm_ (a' := ?_) ?_ ?_
     rotate_left
     ·
      show Act.put _ (some 31) _ = _
      simp only [Act.put, zA, zB, zC, i64_w, i32_w]
      rfl
     refine pV 5 26 (OB 11 63) ?_
     refine pV 6 32 (OB 11 127) ?_
     refine pV 7 33 (OB 11 255) ?_
     refine one_ (i := 8) (N := some 6) (OB 11 511) rfl rfl (one_of HT_.out (by kernel_rfl)) (by decide) (fun K hK => ?_)
     refine box_step ?hg (N := 6) ?hd (cs := #[.slice none 0 0]) (t := 29) ?hr ?_; (case hd => rfl); (case hg => rfl); (case hr => first | (go_simp; done) | (go_simp; rfl))
     intro gb279 hg w38 hbox hb
     have n0_ := Aside0.mk (Kd.R_below (RQ HO270.out) hb)
     have n1_ := Aside0.mk (Kd.R_below (RQ HO277.out) hb)
     have n2_ := BB BK264.out hb
     have n3_ := BB BK265.out hb
     have n4_ := Aside0.mk (below_step (BL) hb)
     have n5_ := Aside0.mk (hbox)
     have n6_ : Aside0 (w.heap.size ≤ gb279) := GS
     have n7_ : Aside0 (w.heap.size ≤ gb279) := GS
     have n8_ := NL BK264.out hg
     have n9_ := NG BK264.out hg
     have n10_ := NL BK265.out hg
     have n11_ := NG BK265.out hg
     clear HO270
     clear HO277
     clear BK264
     clear BK265
     clear HB
     have HO270 := n0_
     have HO277 := n1_
     have BK264 := n2_
     have BK265 := n3_
     have HB := n4_
     have BK279 := n5_
     have GW279 := n6_
     have GE279 := n7_
     have NB264_279 := n8_
     have NB279_264 := n9_
     have NB265_279 := n10_
     have NB279_265 := n11_
     clear n0_ n1_ n2_ n3_ n4_ n5_ n6_ n7_ n8_ n9_ n10_ n11_
     clear hb hbox hg
     refine hK.out _ _ ⟨CZ BK264.out 0, CZ BK265.out 0, CZ BK265.out 1, CZ BK265.out 2, CZ BK265.out 3⟩ (fun hHeld => ?_)
     clear hK K
     refine norm_ (a' := ?_) ?_ ?_
     rotate_left
     ·
      show Act.put _ (some 6) _ = _
      simp only [Act.put, zA, zB, zC, i64_w, i32_w]
      rfl
     exact norm_ (by simp only [putAll, Act.put, zA, zB, zC]) (hCont (.slice Ao36 t268.length co36, v276, gb279) _ ⟨hHeld, (by (with_reducible repeat (first | apply r1 | apply r2 | apply r3)); exact Kd.R_mono HO270.out (fun _ hk => hk.2)), (by (with_reducible repeat (first | apply r1 | apply r2 | apply r3)); exact Kd.R_mono HO277.out (fun _ hk => hk.2)), (BQ BK264.out), (BQ BK265.out), (BQ BK279.out), GW279.out, GE279.out, NB264_279.out, NB279_264.out, NB265_279.out, NB279_265.out, (BL)⟩)
    ·
     skip
     refine box_step ?hg (N := 6) ?hd (cs := #[.slice none 0 0]) (t := 29) ?hr ?_; (case hd => rfl); (case hg => rfl); (case hr => first | (go_simp; done) | (go_simp; rfl))
     intro gb279 hg w36 hbox hb
     have n0_ := Aside0.mk (Kd.R_below (RQ HO270.out) hb)
     have n1_ := BB BK264.out hb
     have n2_ := BB BK265.out hb
     have n3_ := Aside0.mk (below_step (BL) hb)
     have n4_ := Aside0.mk (hbox)
     have n5_ : Aside0 (w.heap.size ≤ gb279) := GS
     have n6_ : Aside0 (w.heap.size ≤ gb279) := GS
     have n7_ := NL BK264.out hg
     have n8_ := NG BK264.out hg
     have n9_ := NL BK265.out hg
     have n10_ := NG BK265.out hg
     clear HO270
     clear BK264
     clear BK265
     clear HB
     have HO270 := n0_
     have BK264 := n1_
     have BK265 := n2_
     have HB := n3_
     have BK279 := n4_
     have GW279 := n5_
     have GE279 := n6_
     have NB264_279 := n7_
     have NB279_264 := n8_
     have NB265_279 := n9_
     have NB279_265 := n10_
     clear n0_ n1_ n2_ n3_ n4_ n5_ n6_ n7_ n8_ n9_ n10_
     clear hb hbox hg
     obtain ⟨Ao37, co37, eo37⟩ := Kd.R_slice HO270.out
     (first | subst eo37 | (injection eo37 with f1_ f2_ f3_; have f4_ := f1_.symm; have f5_ := f3_.symm; clear f1_ f2_ f3_; subst f4_; subst f5_))
     refine hK.out _ _ ⟨CZ BK264.out 0, CZ BK265.out 0, CZ BK265.out 1, CZ BK265.out 2, CZ BK265.out 3⟩ (fun hHeld => ?_)
     clear hK K
     refine norm_ (a' := ?_) ?_ ?_
     rotate_left
     ·
      show Act.put _ (some 6) _ = _
      simp only [Act.put, zA, zB, zC, i64_w, i32_w]
      rfl
     refine one_ (i := 4) (N := some 31) (OB 11 287) rfl rfl (one_of HT_.out (by kernel_rfl)) (by decide) (fun K hK => ?_)
     refine goes_ Try.func35 (by kernel_rfl) rfl #[.agg #[.slice Ao37 t268.length co37], .agg #[.int .i64 t271, .string t272, .string t273, .string t274]] (by rfl) rfl rfl (MA) ?_
     with_reducible refine (spec_DoAct.calls k _ _ t268 t271 t272 t273 t274 t275 t278 _ ?side1 ?side2 A21.out).mono ?_
     (case side1 => repeat (first | exact (Kd.R_reads' HO270.out).2.2 | (with_reducible refine Kd.C_alloc ?_ _) | (with_reducible refine Kd.C_drewN ?_ _) | (with_reducible refine Kd.C_drew ?_)))
     (case side2 => exact (Kd.R_reads' HO270.out).2.1)
     rintro e w38 ⟨v276, rfl, ho0, hb⟩
     refine ⟨_, rfl, ?_⟩
     have n0_ := Aside0.mk (Kd.R_elder' (RQ HO270.out) (Kd.R_base ho0) hb)
     have n1_ := Aside0.mk (Kd.R_lower (Kd.R_new' ho0 (Kd.R_lt (RQ HO270.out))) (below_size (BL)))
     have n2_ := BB BK264.out hb
     have n3_ := BB BK265.out hb
     have n4_ := BB BK279.out hb
     have n5_ := Aside0.mk (below_step (BL) hb)
     clear HO270
     clear BK264
     clear BK265
     clear BK279
     clear HB
     have HO270 := n0_
     have HO277 := n1_
     have BK264 := n2_
     have BK265 := n3_
     have BK279 := n4_
     have HB := n5_
     clear n0_ n1_ n2_ n3_ n4_ n5_
     (try clear hb)
     (try clear hb2)
     (try clear hk)
     (try clear hi)
     (try clear ho0)
     refine hK.out _ _ ⟨CZ BK264.out 0, CZ BK265.out 0, CZ BK265.out 1, CZ BK265.out 2, CZ BK265.out 3⟩ (fun hHeld => ?_)
     clear hK K
     refine norm_ (a' := ?_) ?_ ?_
     rotate_left
     ·
      show Act.put _ (some 31) _ = _
      simp only [Act.put, zA, zB, zC, i64_w, i32_w]
      rfl
     refine pV 5 26 (OB 11 319) ?_
     refine pV 6 32 (OB 11 383) ?_
     refine pV 7 33 (OB 11 511) ?_
     exact norm_ (by simp only [putAll, Act.put, zA, zB, zC]) (hCont (.slice Ao37 t268.length co37, v276, gb279) _ ⟨hHeld, (by (with_reducible repeat (first | apply r1 | apply r2 | apply r3)); exact Kd.R_mono HO270.out (fun _ hk => hk.2)), (by (with_reducible repeat (first | apply r1 | apply r2 | apply r3)); exact Kd.R_mono HO277.out (fun _ hk => hk.2)), (BQ BK264.out), (BQ BK265.out), (BQ BK279.out), GW279.out, GE279.out, NB264_279.out, NB279_264.out, NB265_279.out, NB279_265.out, (BL)⟩)
   ·
    skip
    refine box_step ?hg (N := 6) ?hd (cs := #[.slice none 0 0]) (t := 29) ?hr ?_; (case hd => rfl); (case hg => rfl); (case hr => first | (go_simp; done) | (go_simp; rfl))
    intro gb279 hg w35 hbox hb
    have n0_ := Aside0.mk (Kd.R_below (RQ HO270.out) hb)
    have n1_ := BB BK264.out hb
    have n2_ := BB BK265.out hb
    have n3_ := Aside0.mk (below_step (BL) hb)
    have n4_ := Aside0.mk (hbox)
    have n5_ : Aside0 (w.heap.size ≤ gb279) := GS
    have n6_ : Aside0 (w.heap.size ≤ gb279) := GS
    have n7_ := NL BK264.out hg
    have n8_ := NG BK264.out hg
    have n9_ := NL BK265.out hg
    have n10_ := NG BK265.out hg
    clear HO270
    clear BK264
    clear BK265
    clear HB
    have HO270 := n0_
    have BK264 := n1_
    have BK265 := n2_
    have HB := n3_
    have BK279 := n4_
    have GW279 := n5_
    have GE279 := n6_
    have NB264_279 := n7_
    have NB279_264 := n8_
    have NB265_279 := n9_
    have NB279_265 := n10_
    clear n0_ n1_ n2_ n3_ n4_ n5_ n6_ n7_ n8_ n9_ n10_
    clear hb hbox hg
    refine hK.out _ _ ⟨CZ BK264.out 0, CZ BK265.out 0, CZ BK265.out 1, CZ BK265.out 2, CZ BK265.out 3⟩ (fun hHeld => ?_)
    clear hK K
    refine norm_ (a' := ?_) ?_ ?_
    rotate_left
    ·
     show Act.put _ (some 6) _ = _
     simp only [Act.put, zA, zB, zC, i64_w, i32_w]
     rfl
    refine one_ (i := 3) (N := some 30) (OB 11 271) rfl rfl (one_of HT_.out (by kernel_rfl)) (by decide) (fun K hK => ?_)
    refine goes_ Try.func36 (by kernel_rfl) rfl #[.agg #[.int .i64 a1_0, .string a1_1, .string a1_2, .string a1_3]] (by rfl) rfl rfl (MA) ?_
    with_reducible refine (laws_toAct.calls a1_0 a1_1 a1_2 a1_3 t271 t272 t273 t274 _ A20.out).mono ?_
    rintro e w36 ⟨rfl, hb⟩
    refine ⟨_, rfl, ?_⟩
    have n0_ := Aside0.mk (Kd.R_below (RQ HO270.out) hb)
    have n1_ := BB BK264.out hb
    have n2_ := BB BK265.out hb
    have n3_ := BB BK279.out hb
    have n4_ := Aside0.mk (below_step (BL) hb)
    clear HO270
    clear BK264
    clear BK265
    clear BK279
    clear HB
    have HO270 := n0_
    have BK264 := n1_
    have BK265 := n2_
    have BK279 := n3_
    have HB := n4_
    clear n0_ n1_ n2_ n3_ n4_
    (try clear hb)
    (try clear hb2)
    (try clear hk)
    (try clear hi)
    obtain ⟨Ao37, co37, eo37⟩ := Kd.R_slice HO270.out
    (first | subst eo37 | (injection eo37 with f1_ f2_ f3_; have f4_ := f1_.symm; have f5_ := f3_.symm; clear f1_ f2_ f3_; subst f4_; subst f5_))
    refine hK.out _ _ ⟨CZ BK264.out 0, CZ BK265.out 0, CZ BK265.out 1, CZ BK265.out 2, CZ BK265.out 3⟩ (fun hHeld => ?_)
    clear hK K
    refine norm_ (a' := ?_) ?_ ?_
    rotate_left
    ·
     show Act.put _ (some 30) _ = _
     simp only [Act.put, zA, zB, zC, i64_w, i32_w]
     rfl
    refine one_ (i := 4) (N := some 31) (OB 11 287) rfl rfl (one_of HT_.out (by kernel_rfl)) (by decide) (fun K hK => ?_)
    refine goes_ Try.func35 (by kernel_rfl) rfl #[.agg #[.slice Ao37 t268.length co37], .agg #[.int .i64 t271, .string t272, .string t273, .string t274]] (by rfl) rfl rfl (MA) ?_
    with_reducible refine (spec_DoAct.calls k _ _ t268 t271 t272 t273 t274 t275 t278 _ ?side1 ?side2 A21.out).mono ?_
    (case side1 => repeat (first | exact (Kd.R_reads' HO270.out).2.2 | (with_reducible refine Kd.C_alloc ?_ _) | (with_reducible refine Kd.C_drewN ?_ _) | (with_reducible refine Kd.C_drew ?_)))
    (case side2 => exact (Kd.R_reads' HO270.out).2.1)
    rintro e w38 ⟨v276, rfl, ho0, hb⟩
    refine ⟨_, rfl, ?_⟩
    have n0_ := Aside0.mk (Kd.R_elder' (RQ HO270.out) (Kd.R_base ho0) hb)
    have n1_ := Aside0.mk (Kd.R_lower (Kd.R_new' ho0 (Kd.R_lt (RQ HO270.out))) (below_size (BL)))
    have n2_ := BB BK264.out hb
    have n3_ := BB BK265.out hb
    have n4_ := BB BK279.out hb
    have n5_ := Aside0.mk (below_step (BL) hb)
    clear HO270
    clear BK264
    clear BK265
    clear BK279
    clear HB
    have HO270 := n0_
    have HO277 := n1_
    have BK264 := n2_
    have BK265 := n3_
    have BK279 := n4_
    have HB := n5_
    clear n0_ n1_ n2_ n3_ n4_ n5_
    (try clear hb)
    (try clear hb2)
    (try clear hk)
    (try clear hi)
    (try clear ho0)
    refine hK.out _ _ ⟨CZ BK264.out 0, CZ BK265.out 0, CZ BK265.out 1, CZ BK265.out 2, CZ BK265.out 3⟩ (fun hHeld => ?_)
    clear hK K
    refine norm_ (a' := ?_) ?_ ?_
    rotate_left
    ·
     show Act.put _ (some 31) _ = _
     simp only [Act.put, zA, zB, zC, i64_w, i32_w]
     rfl
    refine pV 5 26 (OB 11 319) ?_
    refine pV 6 32 (OB 11 383) ?_
    refine pV 7 33 (OB 11 511) ?_
    exact norm_ (by simp only [putAll, Act.put, zA, zB, zC]) (hCont (.slice Ao37 t268.length co37, v276, gb279) _ ⟨hHeld, (by (with_reducible repeat (first | apply r1 | apply r2 | apply r3)); exact Kd.R_mono HO270.out (fun _ hk => hk.2)), (by (with_reducible repeat (first | apply r1 | apply r2 | apply r3)); exact Kd.R_mono HO277.out (fun _ hk => hk.2)), (BQ BK264.out), (BQ BK265.out), (BQ BK279.out), GW279.out, GE279.out, NB264_279.out, NB279_264.out, NB265_279.out, NB279_265.out, (BL)⟩)
  ·
   skip
   refine box_step ?hg (N := 6) ?hd (cs := #[.slice none 0 0]) (t := 29) ?hr ?_; (case hd => rfl); (case hg => rfl); (case hr => first | (go_simp; done) | (go_simp; rfl))
   intro gb279 hg w34 hbox hb
   have n0_ := BB BK264.out hb
   have n1_ := BB BK265.out hb
   have n2_ := Aside0.mk (below_step (BL) hb)
   have n3_ := Aside0.mk (hbox)
   have n4_ : Aside0 (w.heap.size ≤ gb279) := GS
   have n5_ : Aside0 (w.heap.size ≤ gb279) := GS
   have n6_ := NL BK264.out hg
   have n7_ := NG BK264.out hg
   have n8_ := NL BK265.out hg
   have n9_ := NG BK265.out hg
   clear BK264
   clear BK265
   clear HB
   have BK264 := n0_
   have BK265 := n1_
   have HB := n2_
   have BK279 := n3_
   have GW279 := n4_
   have GE279 := n5_
   have NB264_279 := n6_
   have NB279_264 := n7_
   have NB265_279 := n8_
   have NB279_265 := n9_
   clear n0_ n1_ n2_ n3_ n4_ n5_ n6_ n7_ n8_ n9_
   clear hb hbox hg
   refine hK.out _ _ ⟨CZ BK264.out 0, CZ BK265.out 0, CZ BK265.out 1, CZ BK265.out 2, CZ BK265.out 3⟩ (fun hHeld => ?_)
   clear hK K
   refine norm_ (a' := ?_) ?_ ?_
   rotate_left
   ·
    show Act.put _ (some 6) _ = _
    simp only [Act.put, zA, zB, zC, i64_w, i32_w]
    rfl
   refine one_ (i := 1) (N := some 28) (OB 11 263) rfl rfl (one_of HT_.out (by kernel_rfl)) (by decide) (fun K hK => ?_)
   refine goes_ Try.func14 (by kernel_rfl) rfl #[.agg #[.slice A0_0 l0_0.length c0_0]] (by rfl) rfl rfl (MA) ?_
   with_reducible refine (laws_toDisk.calls k _ _ l0_0 t268 _ ?side1 ?side2 A19.out).mono ?_
   (case side1 => repeat (first | exact (Kd.C_below HR0_0.out HB.out) | (with_reducible refine Kd.C_alloc ?_ _) | (with_reducible refine Kd.C_drewN ?_ _) | (with_reducible refine Kd.C_drew ?_)))
   (case side2 => exact HC0_0.out)
   rintro e w35 ⟨v269, rfl, ho0, hb⟩
   refine ⟨_, rfl, ?_⟩
   have n0_ := Aside0.mk (Kd.R_lower ho0 (below_size (BL)))
   have n1_ := BB BK264.out hb
   have n2_ := BB BK265.out hb
   have n3_ := BB BK279.out hb
   have n4_ := Aside0.mk (below_step (BL) hb)
   clear BK264
   clear BK265
   clear BK279
   clear HB
   have HO270 := n0_
   have BK264 := n1_
   have BK265 := n2_
   have BK279 := n3_
   have HB := n4_
   clear n0_ n1_ n2_ n3_ n4_
   (try clear hb)
   (try clear hb2)
   (try clear hk)
   (try clear hi)
   (try clear ho0)
   refine hK.out _ _ ⟨CZ BK264.out 0, CZ BK265.out 0, CZ BK265.out 1, CZ BK265.out 2, CZ BK265.out 3⟩ (fun hHeld => ?_)
   clear hK K
   refine norm_ (a' := ?_) ?_ ?_
   rotate_left
   ·
    show Act.put _ (some 28) _ = _
    simp only [Act.put, zA, zB, zC, i64_w, i32_w]
    rfl
   refine one_ (i := 3) (N := some 30) (OB 11 271) rfl rfl (one_of HT_.out (by kernel_rfl)) (by decide) (fun K hK => ?_)
   refine goes_ Try.func36 (by kernel_rfl) rfl #[.agg #[.int .i64 a1_0, .string a1_1, .string a1_2, .string a1_3]] (by rfl) rfl rfl (MA) ?_
   with_reducible refine (laws_toAct.calls a1_0 a1_1 a1_2 a1_3 t271 t272 t273 t274 _ A20.out).mono ?_
   rintro e w36 ⟨rfl, hb⟩
   refine ⟨_, rfl, ?_⟩
   have n0_ := Aside0.mk (Kd.R_below (RQ HO270.out) hb)
   have n1_ := BB BK264.out hb
   have n2_ := BB BK265.out hb
   have n3_ := BB BK279.out hb
   have n4_ := Aside0.mk (below_step (BL) hb)
   clear HO270
   clear BK264
   clear BK265
   clear BK279
   clear HB
   have HO270 := n0_
   have BK264 := n1_
   have BK265 := n2_
   have BK279 := n3_
   have HB := n4_
   clear n0_ n1_ n2_ n3_ n4_
   (try clear hb)
   (try clear hb2)
   (try clear hk)
   (try clear hi)
   obtain ⟨Ao37, co37, eo37⟩ := Kd.R_slice HO270.out
   (first | subst eo37 | (injection eo37 with f1_ f2_ f3_; have f4_ := f1_.symm; have f5_ := f3_.symm; clear f1_ f2_ f3_; subst f4_; subst f5_))
   refine hK.out _ _ ⟨CZ BK264.out 0, CZ BK265.out 0, CZ BK265.out 1, CZ BK265.out 2, CZ BK265.out 3⟩ (fun hHeld => ?_)
   clear hK K
   refine norm_ (a' := ?_) ?_ ?_
   rotate_left
   ·
    show Act.put _ (some 30) _ = _
    simp only [Act.put, zA, zB, zC, i64_w, i32_w]
    rfl
   refine one_ (i := 4) (N := some 31) (OB 11 287) rfl rfl (one_of HT_.out (by kernel_rfl)) (by decide) (fun K hK => ?_)
   refine goes_ Try.func35 (by kernel_rfl) rfl #[.agg #[.slice Ao37 t268.length co37], .agg #[.int .i64 t271, .string t272, .string t273, .string t274]] (by rfl) rfl rfl (MA) ?_
   with_reducible refine (spec_DoAct.calls k _ _ t268 t271 t272 t273 t274 t275 t278 _ ?side1 ?side2 A21.out).mono ?_
   (case side1 => repeat (first | exact (Kd.R_reads' HO270.out).2.2 | (with_reducible refine Kd.C_alloc ?_ _) | (with_reducible refine Kd.C_drewN ?_ _) | (with_reducible refine Kd.C_drew ?_)))
   (case side2 => exact (Kd.R_reads' HO270.out).2.1)
   rintro e w38 ⟨v276, rfl, ho0, hb⟩
   refine ⟨_, rfl, ?_⟩
   have n0_ := Aside0.mk (Kd.R_elder' (RQ HO270.out) (Kd.R_base ho0) hb)
   have n1_ := Aside0.mk (Kd.R_lower (Kd.R_new' ho0 (Kd.R_lt (RQ HO270.out))) (below_size (BL)))
   have n2_ := BB BK264.out hb
   have n3_ := BB BK265.out hb
   have n4_ := BB BK279.out hb
   have n5_ := Aside0.mk (below_step (BL) hb)
   clear HO270
   clear BK264
   clear BK265
   clear BK279
   clear HB
   have HO270 := n0_
   have HO277 := n1_
   have BK264 := n2_
   have BK265 := n3_
   have BK279 := n4_
   have HB := n5_
   clear n0_ n1_ n2_ n3_ n4_ n5_
   (try clear hb)
   (try clear hb2)
   (try clear hk)
   (try clear hi)
   (try clear ho0)
   refine hK.out _ _ ⟨CZ BK264.out 0, CZ BK265.out 0, CZ BK265.out 1, CZ BK265.out 2, CZ BK265.out 3⟩ (fun hHeld => ?_)
   clear hK K
   refine norm_ (a' := ?_) ?_ ?_
   rotate_left
   ·
    show Act.put _ (some 31) _ = _
    simp only [Act.put, zA, zB, zC, i64_w, i32_w]
    rfl
   refine pV 5 26 (OB 11 319) ?_
   refine pV 6 32 (OB 11 383) ?_
   refine pV 7 33 (OB 11 511) ?_
   exact norm_ (by simp only [putAll, Act.put, zA, zB, zC]) (hCont (.slice Ao37 t268.length co37, v276, gb279) _ ⟨hHeld, (by (with_reducible repeat (first | apply r1 | apply r2 | apply r3)); exact Kd.R_mono HO270.out (fun _ hk => hk.2)), (by (with_reducible repeat (first | apply r1 | apply r2 | apply r3)); exact Kd.R_mono HO277.out (fun _ hk => hk.2)), (BQ BK264.out), (BQ BK265.out), (BQ BK279.out), GW279.out, GE279.out, NB264_279.out, NB279_264.out, NB265_279.out, NB279_265.out, (BL)⟩)
 rintro ⟨v269, v276, gb279⟩ w39 ⟨hS_, h0_, h1_, h2_, h3_, h4_, h5_, h6_, h7_, h8_, h9_, h10_, h11_⟩
 have n0_ : Aside0 (Kd.R k45 45 w39 w.heap.size (fun k_ => some k_ ≠ (v276 : Value).ownBlock) v269 t268) := ⟨h0_⟩
 have n1_ : Aside0 (Kd.R k45 45 w39 w.heap.size (fun k_ => some k_ ≠ (v269 : Value).ownBlock) v276 t275) := ⟨h1_⟩
 have n2_ : Aside0 (w39.heap[gb264]? = some (.cells #[.slice A0_0 l0_0.length c0_0] 24 (0, 0))) := ⟨h2_⟩
 have n3_ : Aside0 (w39.heap[gb265]? = some (.cells #[.int .i64 a1_0, .string a1_1, .string a1_2, .string a1_3] 52 (0, 0))) := ⟨h3_⟩
 have n4_ : Aside0 (w39.heap[gb279]? = some (.cells #[.slice none 0 0] 29 (0, 0))) := ⟨h4_⟩
 have n5_ : Aside0 (w.heap.size ≤ gb279) := ⟨h5_⟩
 have n6_ : Aside0 (w.heap.size ≤ gb279) := ⟨h6_⟩
 have n7_ : Aside0 (gb264 ≠ gb279) := ⟨h7_⟩
 have n8_ : Aside0 (gb279 ≠ gb264) := ⟨h8_⟩
 have n9_ : Aside0 (gb265 ≠ gb279) := ⟨h9_⟩
 have n10_ : Aside0 (gb279 ≠ gb265) := ⟨h10_⟩
 have n11_ : Aside0 (Below w.heap.size w w39) := ⟨h11_⟩
 clear BK264
 clear BK265
 clear HB
 clear h0_ h1_ h2_ h3_ h4_ h5_ h6_ h7_ h8_ h9_ h10_ h11_
 have HO270 := n0_
 have HO277 := n1_
 have BK264 := n2_
 have BK265 := n3_
 have BK279 := n4_
 have GW279 := n5_
 have GE279 := n6_
 have NB264_279 := n7_
 have NB279_264 := n8_
 have NB265_279 := n9_
 have NB279_265 := n10_
 have HB := n11_
 clear n0_ n1_ n2_ n3_ n4_ n5_ n6_ n7_ n8_ n9_ n10_ n11_
 have hHeld : w39.cell? ⟨gb264, 0, none⟩ = some (.slice A0_0 l0_0.length c0_0) ∧ w39.cell? ⟨gb265, 0, none⟩ = some (.int .i64 a1_0) ∧ w39.cell? ⟨gb265, 1, none⟩ = some (.string a1_1) ∧ w39.cell? ⟨gb265, 2, none⟩ = some (.string a1_2) ∧ w39.cell? ⟨gb265, 3, none⟩ = some (.string a1_3) := hS_
 obtain ⟨Ao40, co40, eo40⟩ := Kd.R_slice HO277.out
 (first | subst eo40 | (injection eo40 with f1_ f2_ f3_; have f4_ := f1_.symm; have f5_ := f3_.symm; clear f1_ f2_ f3_; subst f4_; subst f5_))
 refine norm_ (a' := ?_) ?_ ?_
 rotate_left
 ·
  simp only [putAll, Act.put, zA, zB, zC]
  rfl
 refine one_ (i := 9) (N := none) (OB 11 1023) rfl rfl (one_of HT_.out (by kernel_rfl)) (by decide) (fun K hK => ?_)
 have hs41 : w39.cell? ⟨gb279, 0, none⟩ = some (.slice none 0 0) := CZ BK279.out 0
 have hfs41 := blk_frozen BK279.out 0
 have hns41_0 := NB264_279.out
 have hns41_1 := NB265_279.out
 have hms41_0 := NB279_264.out
 have hms41_1 := NB279_265.out
 refine skip_ (w1 := ?_) (by rfl) rfl ?_ ?_
 rotate_left
 ·
  go_simp
  rfl
 refine hK.out _ _ ⟨((cell_far (p := ⟨gb279, _, none⟩) NB264_279.out _).trans (hHeld.1)), ((cell_far (p := ⟨gb279, _, none⟩) NB265_279.out _).trans (hHeld.2.1)), ((cell_far (p := ⟨gb279, _, none⟩) NB265_279.out _).trans (hHeld.2.2.1)), ((cell_far (p := ⟨gb279, _, none⟩) NB265_279.out _).trans (hHeld.2.2.2.1)), ((cell_far (p := ⟨gb279, _, none⟩) NB265_279.out _).trans (hHeld.2.2.2.2))⟩ (fun hHeld => ?_)
 clear hK K
 refine pV 10 7 (OB 11 2047) ?_
 refine done_ (done_of HT_.out (by kernel_rfl)) ?_
 have hnb42 := NB264_279.out
 have hnc42 := NB279_264.out
 have hcz43_0 : w39.cell? ⟨gb264, 0, none⟩ = some (.slice A0_0 l0_0.length c0_0) := CZ BK264.out 0
 have hfz43_0 := blk_frozen BK264.out 0
 try go_wp2_with (first | ((with_reducible refine gate_callee (f := 14) rfl ?_); refine goesL_ (some 35) rfl rfl Try.func14 (by kernel_rfl) rfl #[.agg #[.slice A0_0 l0_0.length c0_0]] rfl (MA) ?_; (with_reducible refine (laws_toDisk.calls k _ _ l0_0 t280 _ ?side1 ?side2 A22.out).mono ?_); (case side1 => exact Kd.C_below HR0_0.out (BL)); (case side2 => exact HC0_0.out); rintro e w44 ⟨v281, rfl, ho0, hb⟩; refine ⟨_, rfl, ?_⟩; have HO282 := Aside0.mk (Kd.R_lower (Kd.R_new' (Kd.R_new' ho0 (Kd.R_lt (by (with_reducible repeat (first | apply r1 | apply r2 | apply r3)); exact (Kd.R_mono (Kd.R_far (p := ⟨gb279, 0, none⟩) (Kd.R_types HO270.out BK279.out (by decide)) (fun _ hk => hk.2) (.slice Ao40 t275.length co40)) (fun _ h_ => h_.1))))) (Kd.R_lt (by (with_reducible repeat (first | apply r1 | apply r2 | apply r3)); exact (Kd.R_mono (Kd.R_far (p := ⟨gb279, 0, none⟩) (Kd.R_types HO277.out BK279.out (by decide)) (fun _ hk => hk.2) (.slice Ao40 t275.length co40)) (fun _ h_ => h_.1))))) (below_size (BL))); replace HO270 := Aside0.mk (Kd.R_elder' (by (with_reducible repeat (first | apply r1 | apply r2 | apply r3)); exact (Kd.R_mono (Kd.R_far (p := ⟨gb279, 0, none⟩) (Kd.R_types HO270.out BK279.out (by decide)) (fun _ hk => hk.2) (.slice Ao40 t275.length co40)) (fun _ h_ => h_.1))) (Kd.R_base ho0) hb); replace HO277 := Aside0.mk (Kd.R_elder' (by (with_reducible repeat (first | apply r1 | apply r2 | apply r3)); exact (Kd.R_mono (Kd.R_far (p := ⟨gb279, 0, none⟩) (Kd.R_types HO277.out BK279.out (by decide)) (fun _ hk => hk.2) (.slice Ao40 t275.length co40)) (fun _ h_ => h_.1))) (Kd.R_base ho0) hb); replace BK264 := Aside0.mk (blk_below (g := gb264) (o := .cells #[.slice A0_0 l0_0.length c0_0] 24 (0, 0)) (by (with_reducible repeat (first | apply b1 | apply b2 | apply b3)); refine blk_far ?_ NB264_279.out _; (with_reducible repeat (first | apply b1 | apply b2 | apply b3)); exact BK264.out) hb); replace BK265 := Aside0.mk (blk_below (g := gb265) (o := .cells #[.int .i64 a1_0, .string a1_1, .string a1_2, .string a1_3] 52 (0, 0)) (by (with_reducible repeat (first | apply b1 | apply b2 | apply b3)); refine blk_far ?_ NB265_279.out _; (with_reducible repeat (first | apply b1 | apply b2 | apply b3)); exact BK265.out) hb); replace BK279 := Aside0.mk (blk_below (g := gb279) (o := .cells #[.slice Ao40 t275.length co40] 29 (0, 0)) (by (with_reducible repeat (first | apply b1 | apply b2 | apply b3)); refine blk_put (cs := #[.slice none 0 0]) ?_ 0 _ rfl; (with_reducible repeat (first | apply b1 | apply b2 | apply b3)); exact BK279.out) hb); replace HB := Aside0.mk (below_step (BL) hb); (try clear hb); (try clear hb2); (try clear hk); (try clear hi); (try clear ho0)) | ((with_reducible refine gate_dst (N := 8) rfl ?_); refine bE 8 #[.slice none 0 0] 29 ?_; intro gb283 hg w45 hbox hb; have BK283 := Aside0.mk (hbox); have GW283 : Aside0 (w.heap.size ≤ gb283) := GS; have GE283 : Aside0 (w.heap.size ≤ gb283) := GS; have NB264_283 := NL BK264.out hg; have NB283_264 := NG BK264.out hg; have NB265_283 := NL BK265.out hg; have NB283_265 := NG BK265.out hg; have NB279_283 := NL BK279.out hg; have NB283_279 := NG BK279.out hg; replace HO270 := Aside0.mk (Kd.R_below (RQ HO270.out) hb); replace HO277 := Aside0.mk (Kd.R_below (RQ HO277.out) hb); replace HO282 := Aside0.mk (Kd.R_below (RQ HO282.out) hb); replace BK264 := BB BK264.out hb; replace BK265 := BB BK265.out hb; replace BK279 := BB BK279.out hb; replace HB := Aside0.mk (below_step (BL) hb); clear hb hbox hg; obtain ⟨Ao46, co46, eo46⟩ := Kd.R_slice HO282.out; subst eo46; have hnb47 := NB283_264.out; have hnc47 := NB264_283.out; have hnb48 := NB283_265.out; have hnc48 := NB265_283.out; have hnb49 := NB283_279.out; have hnc49 := NB279_283.out; have hcz50_0 : w45.cell? ⟨gb283, 0, none⟩ = some (.slice none 0 0) := CZ BK283.out 0; have hfz50_0 := blk_frozen BK283.out 0))
 have n0_ : Aside0 (Kd.R k45 45 (w45.setCell ⟨gb283, 0, none⟩ (.slice Ao46 t280.length co46)) w.heap.size (fun k_ => some k_ ≠ (.slice Ao40 t275.length co40 : Value).ownBlock ∧ some k_ ≠ (.slice Ao46 t280.length co46 : Value).ownBlock) v269 t268) := ⟨by (with_reducible repeat (first | apply r1 | apply r2 | apply r3)); exact Kd.R_mono (Kd.R_far (p := ⟨gb283, 0, none⟩) (Kd.R_types HO270.out BK283.out (by decide)) (fun _ hk => hk.2) (.slice Ao46 t280.length co46)) (fun _ hk => ⟨hk.1.1, hk.1.2⟩)⟩
 have n1_ : Aside0 (Kd.R k45 45 (w45.setCell ⟨gb283, 0, none⟩ (.slice Ao46 t280.length co46)) w.heap.size (fun k_ => some k_ ≠ (v269 : Value).ownBlock ∧ some k_ ≠ (.slice Ao46 t280.length co46 : Value).ownBlock) (.slice Ao40 t275.length co40) t275) := ⟨by (with_reducible repeat (first | apply r1 | apply r2 | apply r3)); exact Kd.R_mono (Kd.R_far (p := ⟨gb283, 0, none⟩) (Kd.R_types HO277.out BK283.out (by decide)) (fun _ hk => hk.2) (.slice Ao46 t280.length co46)) (fun _ hk => ⟨hk.1.1, hk.1.2⟩)⟩
 have n2_ : Aside0 (Kd.R k45 45 (w45.setCell ⟨gb283, 0, none⟩ (.slice Ao46 t280.length co46)) w.heap.size (fun k_ => some k_ ≠ (v269 : Value).ownBlock ∧ some k_ ≠ (.slice Ao40 t275.length co40 : Value).ownBlock) (.slice Ao46 t280.length co46) t280) := ⟨by (with_reducible repeat (first | apply r1 | apply r2 | apply r3)); exact Kd.R_mono (Kd.R_far (p := ⟨gb283, 0, none⟩) (Kd.R_types HO282.out BK283.out (by decide)) (fun _ hk => hk.2) (.slice Ao46 t280.length co46)) (fun _ hk => ⟨hk.1.1.2, hk.1.2⟩)⟩
 have n3_ : Aside0 ((w45.setCell ⟨gb283, 0, none⟩ (.slice Ao46 t280.length co46)).heap[gb264]? = some (.cells #[.slice A0_0 l0_0.length c0_0] 24 (0, 0))) := ⟨by (with_reducible repeat (first | apply b1 | apply b2 | apply b3)); refine blk_far ?_ NB264_283.out _; (with_reducible repeat (first | apply b1 | apply b2 | apply b3)); exact BK264.out⟩
 have n4_ : Aside0 ((w45.setCell ⟨gb283, 0, none⟩ (.slice Ao46 t280.length co46)).heap[gb265]? = some (.cells #[.int .i64 a1_0, .string a1_1, .string a1_2, .string a1_3] 52 (0, 0))) := ⟨by (with_reducible repeat (first | apply b1 | apply b2 | apply b3)); refine blk_far ?_ NB265_283.out _; (with_reducible repeat (first | apply b1 | apply b2 | apply b3)); exact BK265.out⟩
 have n5_ : Aside0 ((w45.setCell ⟨gb283, 0, none⟩ (.slice Ao46 t280.length co46)).heap[gb279]? = some (.cells #[.slice Ao40 t275.length co40] 29 (0, 0))) := ⟨by (with_reducible repeat (first | apply b1 | apply b2 | apply b3)); refine blk_far ?_ NB279_283.out _; (with_reducible repeat (first | apply b1 | apply b2 | apply b3)); exact BK279.out⟩
 have n6_ : Aside0 ((w45.setCell ⟨gb283, 0, none⟩ (.slice Ao46 t280.length co46)).heap[gb283]? = some (.cells #[.slice Ao46 t280.length co46] 29 (0, 0))) := ⟨by (with_reducible repeat (first | apply b1 | apply b2 | apply b3)); refine blk_put (cs := #[.slice none 0 0]) ?_ 0 _ rfl; (with_reducible repeat (first | apply b1 | apply b2 | apply b3)); exact BK283.out⟩
 have n7_ : Aside0 (Below w.heap.size w (w45.setCell ⟨gb283, 0, none⟩ (.slice Ao46 t280.length co46))) := ⟨BL⟩
 (try clear HO270)
 (try clear HO277)
 (try clear HO282)
 (try clear BK264)
 (try clear BK265)
 (try clear BK279)
 (try clear BK283)
 (try clear HB)
 generalize (w45.setCell ⟨gb283, 0, none⟩ (.slice Ao46 t280.length co46)) = w51 at n0_ n1_ n2_ n3_ n4_ n5_ n6_ n7_ ⊢
 have HO270 := n0_
 have HO277 := n1_
 have HO282 := n2_
 have BK264 := n3_
 have BK265 := n4_
 have BK279 := n5_
 have BK283 := n6_
 have HB := n7_
 clear n0_ n1_ n2_ n3_ n4_ n5_ n6_ n7_
 have n0_ := Aside0.mk (Kd.R_drew HO270.out)
 have n1_ := Aside0.mk (Kd.R_drew HO277.out)
 have n2_ := Aside0.mk (Kd.R_drew HO282.out)
 have n3_ := Aside0.mk (blk_drew BK264.out)
 have n4_ := Aside0.mk (blk_drew BK265.out)
 have n5_ := Aside0.mk (blk_drew BK279.out)
 have n6_ := Aside0.mk (blk_drew BK283.out)
 have n7_ := Aside0.mk (below_drew1 HB.out)
 clear HO270
 clear HO277
 clear HO282
 clear BK264
 clear BK265
 clear BK279
 clear BK283
 clear HB
 have HO270 := n0_
 have HO277 := n1_
 have HO282 := n2_
 have BK264 := n3_
 have BK265 := n4_
 have BK279 := n5_
 have BK283 := n6_
 have HB := n7_
 clear n0_ n1_ n2_ n3_ n4_ n5_ n6_ n7_
 refine start_ (n := 10) (S := fun w' => w'.cell? ⟨gb283, 0, none⟩ = some (.slice Ao46 t280.length co46) ∧ w'.cell? ⟨gb265, 0, none⟩ = some (.int .i64 a1_0) ∧ w'.cell? ⟨gb265, 1, none⟩ = some (.string a1_1) ∧ w'.cell? ⟨gb265, 2, none⟩ = some (.string a1_2) ∧ w'.cell? ⟨gb265, 3, none⟩ = some (.string a1_3)) (ds := []) #[false, false, false, false, false, false, false, false, false, false] (by kernel_rfl) rfl rfl ⟨CZ BK283.out 0, CZ BK265.out 0, CZ BK265.out 1, CZ BK265.out 2, CZ BK265.out 3⟩ (fun hHeld => ?_); refine with_tabW laws_FnExactDoAct.tab10 laws_FnExactDoAct.bits10 (fun HT_ HW_ => ?_)
 generalize w51.drew = w52 at HO270 HO277 HO282 BK264 BK265 BK279 BK283 HB hHeld ⊢
 refine take_ (i := 0) (N := some 37) (v := ?_) (a' := ?_) (OB 10 1) rfl rfl (take_ofW HT_.out HW_.out (by kernel_rfl)) (fun _ _ _ h => h) (Or.inl ⟨by rfl, ?_⟩) hHeld ?_ ?_
 rotate_left
 ·
  rintro w' ⟨s0, s1, s2, s3, s4⟩
  go_simp
  with_reducible rfl
 rotate_left
 ·
  simp only [Act.put, zA, zB, zC, i64_w, i32_w]
  rfl
 refine take_ (i := 1) (N := some 38) (v := ?_) (a' := ?_) (OB 10 3) rfl rfl (take_ofW HT_.out HW_.out (by kernel_rfl)) (fun _ _ _ h => h) (Or.inl ⟨by rfl, ?_⟩) hHeld ?_ ?_
 rotate_left
 ·
  rintro w' ⟨s0, s1, s2, s3, s4⟩
  go_simp
  with_reducible rfl
 rotate_left
 ·
  simp only [Act.put, zA, zB, zC, i64_w, i32_w]
  rfl
 refine join_ (σ := Value × Nat) 2 #[true, true, true, true, true, true, true, true, false, false] (fun s_ => [(39, .agg #[.int .i64 t284, .string t285, .string t286, .string t287]), (40, .tuple #[.agg #[s_.1], .bool t291]), (9, .pointer (some ⟨s_.2, 0, none⟩)), (36, .tuple #[.agg #[s_.1], .bool t291]), (41, .agg #[s_.1]), (42, .bool t291)]) (fun s_ w' => (w'.cell? ⟨gb283, 0, none⟩ = some (.slice Ao46 t280.length co46) ∧ w'.cell? ⟨gb265, 0, none⟩ = some (.int .i64 a1_0) ∧ w'.cell? ⟨gb265, 1, none⟩ = some (.string a1_1) ∧ w'.cell? ⟨gb265, 2, none⟩ = some (.string a1_2) ∧ w'.cell? ⟨gb265, 3, none⟩ = some (.string a1_3)) ∧ (Kd.R k45 45 w' w.heap.size (fun k_ => some k_ ≠ (.slice Ao40 t275.length co40 : Value).ownBlock ∧ some k_ ≠ (.slice Ao46 t280.length co46 : Value).ownBlock ∧ some k_ ≠ (s_.1 : Value).ownBlock) v269 t268) ∧ (Kd.R k45 45 w' w.heap.size (fun k_ => some k_ ≠ (v269 : Value).ownBlock ∧ some k_ ≠ (.slice Ao46 t280.length co46 : Value).ownBlock ∧ some k_ ≠ (s_.1 : Value).ownBlock) (.slice Ao40 t275.length co40) t275) ∧ (Kd.R k45 45 w' w.heap.size (fun k_ => some k_ ≠ (v269 : Value).ownBlock ∧ some k_ ≠ (.slice Ao40 t275.length co40 : Value).ownBlock ∧ some k_ ≠ (s_.1 : Value).ownBlock) (.slice Ao46 t280.length co46) t280) ∧ (Kd.R k45 45 w' w.heap.size (fun k_ => some k_ ≠ (v269 : Value).ownBlock ∧ some k_ ≠ (.slice Ao40 t275.length co40 : Value).ownBlock ∧ some k_ ≠ (.slice Ao46 t280.length co46 : Value).ownBlock) s_.1 t288) ∧ (w'.heap[gb264]? = some (.cells #[.slice A0_0 l0_0.length c0_0] 24 (0, 0))) ∧ (w'.heap[gb265]? = some (.cells #[.int .i64 a1_0, .string a1_1, .string a1_2, .string a1_3] 52 (0, 0))) ∧ (w'.heap[gb279]? = some (.cells #[.slice Ao40 t275.length co40] 29 (0, 0))) ∧ (w'.heap[gb283]? = some (.cells #[.slice Ao46 t280.length co46] 29 (0, 0))) ∧ (w'.heap[s_.2]? = some (.cells #[.slice none 0 0] 29 (0, 0))) ∧ (w.heap.size ≤ s_.2) ∧ (w.heap.size ≤ s_.2) ∧ (gb264 ≠ s_.2) ∧ (s_.2 ≠ gb264) ∧ (gb265 ≠ s_.2) ∧ (s_.2 ≠ gb265) ∧ (gb279 ≠ s_.2) ∧ (s_.2 ≠ gb279) ∧ (gb283 ≠ s_.2) ∧ (s_.2 ≠ gb283) ∧ (Below w.heap.size w w')) ?_ ?_
 rotate_left
 ·
  intro hCont
  refine two_ (i := 2) (j := 7) (Ni := some 39) (Nj := some 9) #[true, true, true, false, false, false, false, false, false, false] #[true, true, false, false, false, false, false, true, false, false] rfl rfl rfl rfl (two_of HT_.out (by kernel_rfl)) (by decide) (by decide) (fun K hK => ?_) (fun K hK => ?_)
  ·
   skip
   refine goes_ Try.func36 (by kernel_rfl) rfl #[.agg #[.int .i64 a1_0, .string a1_1, .string a1_2, .string a1_3]] (by rfl) rfl rfl (MA) ?_
   with_reducible refine (laws_toAct.calls a1_0 a1_1 a1_2 a1_3 t284 t285 t286 t287 _ A23.out).mono ?_
   rintro e w53 ⟨rfl, hb⟩
   refine ⟨_, rfl, ?_⟩
   have n0_ := Aside0.mk (Kd.R_below (RQ HO270.out) hb)
   have n1_ := Aside0.mk (Kd.R_below (RQ HO277.out) hb)
   have n2_ := Aside0.mk (Kd.R_below (RQ HO282.out) hb)
   have n3_ := BB BK264.out hb
   have n4_ := BB BK265.out hb
   have n5_ := BB BK279.out hb
   have n6_ := BB BK283.out hb
   have n7_ := Aside0.mk (below_step (BL) hb)
   clear HO270
   clear HO277
   clear HO282
   clear BK264
   clear BK265
   clear BK279
   clear BK283
   clear HB
   have HO270 := n0_
   have HO277 := n1_
   have HO282 := n2_
   have BK264 := n3_
   have BK265 := n4_
   have BK279 := n5_
   have BK283 := n6_
   have HB := n7_
   clear n0_ n1_ n2_ n3_ n4_ n5_ n6_ n7_
   (try clear hb)
   (try clear hb2)
   (try clear hk)
   (try clear hi)
   refine hK.out _ _ ⟨CZ BK283.out 0, CZ BK265.out 0, CZ BK265.out 1, CZ BK265.out 2, CZ BK265.out 3⟩ (fun hHeld => ?_)
   clear hK K
   refine norm_ (a' := ?_) ?_ ?_
   rotate_left
   ·
    show Act.put _ (some 39) _ = _
    simp only [Act.put, zA, zB, zC, i64_w, i32_w]
    rfl
   refine two_ (i := 3) (j := 7) (Ni := some 40) (Nj := some 9) #[true, true, true, true, false, false, false, false, false, false] #[true, true, true, false, false, false, false, true, false, false] rfl rfl rfl rfl (two_of HT_.out (by kernel_rfl)) (by decide) (by decide) (fun K hK => ?_) (fun K hK => ?_)
   ·
    skip
    refine goes_ Try.func37 (by kernel_rfl) rfl #[.agg #[.slice Ao46 t280.length co46], .agg #[.int .i64 t284, .string t285, .string t286, .string t287]] (by rfl) rfl rfl (MA) ?_
    with_reducible refine (impl_DoAct.calls k _ _ t280 t284 t285 t286 t287 t288 t291 _ ?side1 ?side2 A24.out).mono ?_
    (case side1 => repeat (first | exact (Kd.R_reads' HO282.out).2.2 | (with_reducible refine Kd.C_alloc ?_ _) | (with_reducible refine Kd.C_drewN ?_ _) | (with_reducible refine Kd.C_drew ?_)))
    (case side2 => exact (Kd.R_reads' HO282.out).2.1)
    rintro e w54 ⟨v289, rfl, ho0, hb⟩
    refine ⟨_, rfl, ?_⟩
    have n0_ := Aside0.mk (Kd.R_elder' (RQ HO270.out) (Kd.R_base ho0) hb)
    have n1_ := Aside0.mk (Kd.R_elder' (RQ HO277.out) (Kd.R_base ho0) hb)
    have n2_ := Aside0.mk (Kd.R_elder' (RQ HO282.out) (Kd.R_base ho0) hb)
    have n3_ := Aside0.mk (Kd.R_lower (Kd.R_new' (Kd.R_new' (Kd.R_new' ho0 (Kd.R_lt (RQ HO270.out))) (Kd.R_lt (RQ HO277.out))) (Kd.R_lt (RQ HO282.out))) (below_size (BL)))
    have n4_ := BB BK264.out hb
    have n5_ := BB BK265.out hb
    have n6_ := BB BK279.out hb
    have n7_ := BB BK283.out hb
    have n8_ := Aside0.mk (below_step (BL) hb)
    clear HO270
    clear HO277
    clear HO282
    clear BK264
    clear BK265
    clear BK279
    clear BK283
    clear HB
    have HO270 := n0_
    have HO277 := n1_
    have HO282 := n2_
    have HO290 := n3_
    have BK264 := n4_
    have BK265 := n5_
    have BK279 := n6_
    have BK283 := n7_
    have HB := n8_
    clear n0_ n1_ n2_ n3_ n4_ n5_ n6_ n7_ n8_
    (try clear hb)
    (try clear hb2)
    (try clear hk)
    (try clear hi)
    (try clear ho0)
    refine hK.out _ _ ⟨CZ BK283.out 0, CZ BK265.out 0, CZ BK265.out 1, CZ BK265.out 2, CZ BK265.out 3⟩ (fun hHeld => ?_)
    clear hK K
    refine norm_ (a' := ?_) ?_ ?_
    rotate_left
    ·
     show Act.put _ (some 40) _ = _
     simp only [Act.put, zA, zB, zC, i64_w, i32_w]
     rfl
    refine pV 4 36 (OB 10 31) ?_
    refine pV 5 41 (OB 10 63) ?_
    refine pV 6 42 (OB 10 127) ?_
    refine one_ (i := 7) (N := some 9) (OB 10 255) rfl rfl (one_of HT_.out (by kernel_rfl)) (by decide) (fun K hK => ?_)
    refine box_step ?hg (N := 9) ?hd (cs := #[.slice none 0 0]) (t := 29) ?hr ?_; (case hd => rfl); (case hg => rfl); (case hr => first | (go_simp; done) | (go_simp; rfl))
    intro gb292 hg w55 hbox hb
    have n0_ := Aside0.mk (Kd.R_below (RQ HO270.out) hb)
    have n1_ := Aside0.mk (Kd.R_below (RQ HO277.out) hb)
    have n2_ := Aside0.mk (Kd.R_below (RQ HO282.out) hb)
    have n3_ := Aside0.mk (Kd.R_below (RQ HO290.out) hb)
    have n4_ := BB BK264.out hb
    have n5_ := BB BK265.out hb
    have n6_ := BB BK279.out hb
    have n7_ := BB BK283.out hb
    have n8_ := Aside0.mk (below_step (BL) hb)
    have n9_ := Aside0.mk (hbox)
    have n10_ : Aside0 (w.heap.size ≤ gb292) := GS
    have n11_ : Aside0 (w.heap.size ≤ gb292) := GS
    have n12_ := NL BK264.out hg
    have n13_ := NG BK264.out hg
    have n14_ := NL BK265.out hg
    have n15_ := NG BK265.out hg
    have n16_ := NL BK279.out hg
    have n17_ := NG BK279.out hg
    have n18_ := NL BK283.out hg
    have n19_ := NG BK283.out hg
    clear HO270
    clear HO277
    clear HO282
    clear HO290
    clear BK264
    clear BK265
    clear BK279
    clear BK283
    clear HB
    have HO270 := n0_
    have HO277 := n1_
    have HO282 := n2_
    have HO290 := n3_
    have BK264 := n4_
    have BK265 := n5_
    have BK279 := n6_
    have BK283 := n7_
    have HB := n8_
    have BK292 := n9_
    have GW292 := n10_
    have GE292 := n11_
    have NB264_292 := n12_
    have NB292_264 := n13_
    have NB265_292 := n14_
    have NB292_265 := n15_
    have NB279_292 := n16_
    have NB292_279 := n17_
    have NB283_292 := n18_
    have NB292_283 := n19_
    clear n0_ n1_ n2_ n3_ n4_ n5_ n6_ n7_ n8_ n9_ n10_ n11_ n12_ n13_ n14_ n15_ n16_ n17_ n18_ n19_
    clear hb hbox hg
    refine hK.out _ _ ⟨CZ BK283.out 0, CZ BK265.out 0, CZ BK265.out 1, CZ BK265.out 2, CZ BK265.out 3⟩ (fun hHeld => ?_)
    clear hK K
    refine norm_ (a' := ?_) ?_ ?_
    rotate_left
    ·
     show Act.put _ (some 9) _ = _
     simp only [Act.put, zA, zB, zC, i64_w, i32_w]
     rfl
    exact norm_ (by simp only [putAll, Act.put, zA, zB, zC]) (hCont (v289, gb292) _ ⟨hHeld, (by (with_reducible repeat (first | apply r1 | apply r2 | apply r3)); exact Kd.R_mono HO270.out (fun _ hk => ⟨hk.1.1, ⟨hk.1.2, hk.2⟩⟩)), (by (with_reducible repeat (first | apply r1 | apply r2 | apply r3)); exact Kd.R_mono HO277.out (fun _ hk => ⟨hk.1.1, ⟨hk.1.2, hk.2⟩⟩)), (by (with_reducible repeat (first | apply r1 | apply r2 | apply r3)); exact Kd.R_mono HO282.out (fun _ hk => ⟨hk.1.1, ⟨hk.1.2, hk.2⟩⟩)), (by (with_reducible repeat (first | apply r1 | apply r2 | apply r3)); exact Kd.R_mono HO290.out (fun _ hk => ⟨hk.1.1.2, ⟨hk.1.2, hk.2⟩⟩)), (BQ BK264.out), (BQ BK265.out), (BQ BK279.out), (BQ BK283.out), (BQ BK292.out), GW292.out, GE292.out, NB264_292.out, NB292_264.out, NB265_292.out, NB292_265.out, NB279_292.out, NB292_279.out, NB283_292.out, NB292_283.out, (BL)⟩)
   ·
    skip
    refine box_step ?hg (N := 9) ?hd (cs := #[.slice none 0 0]) (t := 29) ?hr ?_; (case hd => rfl); (case hg => rfl); (case hr => first | (go_simp; done) | (go_simp; rfl))
    intro gb292 hg w54 hbox hb
    have n0_ := Aside0.mk (Kd.R_below (RQ HO270.out) hb)
    have n1_ := Aside0.mk (Kd.R_below (RQ HO277.out) hb)
    have n2_ := Aside0.mk (Kd.R_below (RQ HO282.out) hb)
    have n3_ := BB BK264.out hb
    have n4_ := BB BK265.out hb
    have n5_ := BB BK279.out hb
    have n6_ := BB BK283.out hb
    have n7_ := Aside0.mk (below_step (BL) hb)
    have n8_ := Aside0.mk (hbox)
    have n9_ : Aside0 (w.heap.size ≤ gb292) := GS
    have n10_ : Aside0 (w.heap.size ≤ gb292) := GS
    have n11_ := NL BK264.out hg
    have n12_ := NG BK264.out hg
    have n13_ := NL BK265.out hg
    have n14_ := NG BK265.out hg
    have n15_ := NL BK279.out hg
    have n16_ := NG BK279.out hg
    have n17_ := NL BK283.out hg
    have n18_ := NG BK283.out hg
    clear HO270
    clear HO277
    clear HO282
    clear BK264
    clear BK265
    clear BK279
    clear BK283
    clear HB
    have HO270 := n0_
    have HO277 := n1_
    have HO282 := n2_
    have BK264 := n3_
    have BK265 := n4_
    have BK279 := n5_
    have BK283 := n6_
    have HB := n7_
    have BK292 := n8_
    have GW292 := n9_
    have GE292 := n10_
    have NB264_292 := n11_
    have NB292_264 := n12_
    have NB265_292 := n13_
    have NB292_265 := n14_
    have NB279_292 := n15_
    have NB292_279 := n16_
    have NB283_292 := n17_
    have NB292_283 := n18_
    clear n0_ n1_ n2_ n3_ n4_ n5_ n6_ n7_ n8_ n9_ n10_ n11_ n12_ n13_ n14_ n15_ n16_ n17_ n18_
    clear hb hbox hg
    refine hK.out _ _ ⟨CZ BK283.out 0, CZ BK265.out 0, CZ BK265.out 1, CZ BK265.out 2, CZ BK265.out 3⟩ (fun hHeld => ?_)
    clear hK K
    refine norm_ (a' := ?_) ?_ ?_
    rotate_left
    ·
     show Act.put _ (some 9) _ = _
     simp only [Act.put, zA, zB, zC, i64_w, i32_w]
     rfl
    refine one_ (i := 3) (N := some 40) (OB 10 143) rfl rfl (one_of HT_.out (by kernel_rfl)) (by decide) (fun K hK => ?_)
    refine goes_ Try.func37 (by kernel_rfl) rfl #[.agg #[.slice Ao46 t280.length co46], .agg #[.int .i64 t284, .string t285, .string t286, .string t287]] (by rfl) rfl rfl (MA) ?_
    with_reducible refine (impl_DoAct.calls k _ _ t280 t284 t285 t286 t287 t288 t291 _ ?side1 ?side2 A24.out).mono ?_
    (case side1 => repeat (first | exact (Kd.R_reads' HO282.out).2.2 | (with_reducible refine Kd.C_alloc ?_ _) | (with_reducible refine Kd.C_drewN ?_ _) | (with_reducible refine Kd.C_drew ?_)))
    (case side2 => exact (Kd.R_reads' HO282.out).2.1)
    rintro e w55 ⟨v289, rfl, ho0, hb⟩
    refine ⟨_, rfl, ?_⟩
    have n0_ := Aside0.mk (Kd.R_elder' (RQ HO270.out) (Kd.R_base ho0) hb)
    have n1_ := Aside0.mk (Kd.R_elder' (RQ HO277.out) (Kd.R_base ho0) hb)
    have n2_ := Aside0.mk (Kd.R_elder' (RQ HO282.out) (Kd.R_base ho0) hb)
    have n3_ := Aside0.mk (Kd.R_lower (Kd.R_new' (Kd.R_new' (Kd.R_new' ho0 (Kd.R_lt (RQ HO270.out))) (Kd.R_lt (RQ HO277.out))) (Kd.R_lt (RQ HO282.out))) (below_size (BL)))
    have n4_ := BB BK264.out hb
    have n5_ := BB BK265.out hb
    have n6_ := BB BK279.out hb
    have n7_ := BB BK283.out hb
    have n8_ := BB BK292.out hb
    have n9_ := Aside0.mk (below_step (BL) hb)
    clear HO270
    clear HO277
    clear HO282
    clear BK264
    clear BK265
    clear BK279
    clear BK283
    clear BK292
    clear HB
    have HO270 := n0_
    have HO277 := n1_
    have HO282 := n2_
    have HO290 := n3_
    have BK264 := n4_
    have BK265 := n5_
    have BK279 := n6_
    have BK283 := n7_
    have BK292 := n8_
    have HB := n9_
    clear n0_ n1_ n2_ n3_ n4_ n5_ n6_ n7_ n8_ n9_
    (try clear hb)
    (try clear hb2)
    (try clear hk)
    (try clear hi)
    (try clear ho0)
    refine hK.out _ _ ⟨CZ BK283.out 0, CZ BK265.out 0, CZ BK265.out 1, CZ BK265.out 2, CZ BK265.out 3⟩ (fun hHeld => ?_)
    clear hK K
    refine norm_ (a' := ?_) ?_ ?_
    rotate_left
    ·
     show Act.put _ (some 40) _ = _
     simp only [Act.put, zA, zB, zC, i64_w, i32_w]
     rfl
    refine pV 4 36 (OB 10 159) ?_
    refine pV 5 41 (OB 10 191) ?_
    refine pV 6 42 (OB 10 255) ?_
    exact norm_ (by simp only [putAll, Act.put, zA, zB, zC]) (hCont (v289, gb292) _ ⟨hHeld, (by (with_reducible repeat (first | apply r1 | apply r2 | apply r3)); exact Kd.R_mono HO270.out (fun _ hk => ⟨hk.1.1, ⟨hk.1.2, hk.2⟩⟩)), (by (with_reducible repeat (first | apply r1 | apply r2 | apply r3)); exact Kd.R_mono HO277.out (fun _ hk => ⟨hk.1.1, ⟨hk.1.2, hk.2⟩⟩)), (by (with_reducible repeat (first | apply r1 | apply r2 | apply r3)); exact Kd.R_mono HO282.out (fun _ hk => ⟨hk.1.1, ⟨hk.1.2, hk.2⟩⟩)), (by (with_reducible repeat (first | apply r1 | apply r2 | apply r3)); exact Kd.R_mono HO290.out (fun _ hk => ⟨hk.1.1.2, ⟨hk.1.2, hk.2⟩⟩)), (BQ BK264.out), (BQ BK265.out), (BQ BK279.out), (BQ BK283.out), (BQ BK292.out), GW292.out, GE292.out, NB264_292.out, NB292_264.out, NB265_292.out, NB292_265.out, NB279_292.out, NB292_279.out, NB283_292.out, NB292_283.out, (BL)⟩)
  ·
   skip
   refine box_step ?hg (N := 9) ?hd (cs := #[.slice none 0 0]) (t := 29) ?hr ?_; (case hd => rfl); (case hg => rfl); (case hr => first | (go_simp; done) | (go_simp; rfl))
   intro gb292 hg w53 hbox hb
   have n0_ := Aside0.mk (Kd.R_below (RQ HO270.out) hb)
   have n1_ := Aside0.mk (Kd.R_below (RQ HO277.out) hb)
   have n2_ := Aside0.mk (Kd.R_below (RQ HO282.out) hb)
   have n3_ := BB BK264.out hb
   have n4_ := BB BK265.out hb
   have n5_ := BB BK279.out hb
   have n6_ := BB BK283.out hb
   have n7_ := Aside0.mk (below_step (BL) hb)
   have n8_ := Aside0.mk (hbox)
   have n9_ : Aside0 (w.heap.size ≤ gb292) := GS
   have n10_ : Aside0 (w.heap.size ≤ gb292) := GS
   have n11_ := NL BK264.out hg
   have n12_ := NG BK264.out hg
   have n13_ := NL BK265.out hg
   have n14_ := NG BK265.out hg
   have n15_ := NL BK279.out hg
   have n16_ := NG BK279.out hg
   have n17_ := NL BK283.out hg
   have n18_ := NG BK283.out hg
   clear HO270
   clear HO277
   clear HO282
   clear BK264
   clear BK265
   clear BK279
   clear BK283
   clear HB
   have HO270 := n0_
   have HO277 := n1_
   have HO282 := n2_
   have BK264 := n3_
   have BK265 := n4_
   have BK279 := n5_
   have BK283 := n6_
   have HB := n7_
   have BK292 := n8_
   have GW292 := n9_
   have GE292 := n10_
   have NB264_292 := n11_
   have NB292_264 := n12_
   have NB265_292 := n13_
   have NB292_265 := n14_
   have NB279_292 := n15_
   have NB292_279 := n16_
   have NB283_292 := n17_
   have NB292_283 := n18_
   clear n0_ n1_ n2_ n3_ n4_ n5_ n6_ n7_ n8_ n9_ n10_ n11_ n12_ n13_ n14_ n15_ n16_ n17_ n18_
   clear hb hbox hg
   refine hK.out _ _ ⟨CZ BK283.out 0, CZ BK265.out 0, CZ BK265.out 1, CZ BK265.out 2, CZ BK265.out 3⟩ (fun hHeld => ?_)
   clear hK K
   refine norm_ (a' := ?_) ?_ ?_
   rotate_left
   ·
    show Act.put _ (some 9) _ = _
    simp only [Act.put, zA, zB, zC, i64_w, i32_w]
    rfl
   refine one_ (i := 2) (N := some 39) (OB 10 135) rfl rfl (one_of HT_.out (by kernel_rfl)) (by decide) (fun K hK => ?_)
   refine goes_ Try.func36 (by kernel_rfl) rfl #[.agg #[.int .i64 a1_0, .string a1_1, .string a1_2, .string a1_3]] (by rfl) rfl rfl (MA) ?_
   with_reducible refine (laws_toAct.calls a1_0 a1_1 a1_2 a1_3 t284 t285 t286 t287 _ A23.out).mono ?_
   rintro e w54 ⟨rfl, hb⟩
   refine ⟨_, rfl, ?_⟩
   have n0_ := Aside0.mk (Kd.R_below (RQ HO270.out) hb)
   have n1_ := Aside0.mk (Kd.R_below (RQ HO277.out) hb)
   have n2_ := Aside0.mk (Kd.R_below (RQ HO282.out) hb)
   have n3_ := BB BK264.out hb
   have n4_ := BB BK265.out hb
   have n5_ := BB BK279.out hb
   have n6_ := BB BK283.out hb
   have n7_ := BB BK292.out hb
   have n8_ := Aside0.mk (below_step (BL) hb)
   clear HO270
   clear HO277
   clear HO282
   clear BK264
   clear BK265
   clear BK279
   clear BK283
   clear BK292
   clear HB
   have HO270 := n0_
   have HO277 := n1_
   have HO282 := n2_
   have BK264 := n3_
   have BK265 := n4_
   have BK279 := n5_
   have BK283 := n6_
   have BK292 := n7_
   have HB := n8_
   clear n0_ n1_ n2_ n3_ n4_ n5_ n6_ n7_ n8_
   (try clear hb)
   (try clear hb2)
   (try clear hk)
   (try clear hi)
   refine hK.out _ _ ⟨CZ BK283.out 0, CZ BK265.out 0, CZ BK265.out 1, CZ BK265.out 2, CZ BK265.out 3⟩ (fun hHeld => ?_)
   clear hK K
   refine norm_ (a' := ?_) ?_ ?_
   rotate_left
   ·
    show Act.put _ (some 39) _ = _
    simp only [Act.put, zA, zB, zC, i64_w, i32_w]
    rfl
   refine one_ (i := 3) (N := some 40) (OB 10 143) rfl rfl (one_of HT_.out (by kernel_rfl)) (by decide) (fun K hK => ?_)
   refine goes_ Try.func37 (by kernel_rfl) rfl #[.agg #[.slice Ao46 t280.length co46], .agg #[.int .i64 t284, .string t285, .string t286, .string t287]] (by rfl) rfl rfl (MA) ?_
   with_reducible refine (impl_DoAct.calls k _ _ t280 t284 t285 t286 t287 t288 t291 _ ?side1 ?side2 A24.out).mono ?_
   (case side1 => repeat (first | exact (Kd.R_reads' HO282.out).2.2 | (with_reducible refine Kd.C_alloc ?_ _) | (with_reducible refine Kd.C_drewN ?_ _) | (with_reducible refine Kd.C_drew ?_)))
   (case side2 => exact (Kd.R_reads' HO282.out).2.1)
   rintro e w55 ⟨v289, rfl, ho0, hb⟩
   refine ⟨_, rfl, ?_⟩
   have n0_ := Aside0.mk (Kd.R_elder' (RQ HO270.out) (Kd.R_base ho0) hb)
   have n1_ := Aside0.mk (Kd.R_elder' (RQ HO277.out) (Kd.R_base ho0) hb)
   have n2_ := Aside0.mk (Kd.R_elder' (RQ HO282.out) (Kd.R_base ho0) hb)
   have n3_ := Aside0.mk (Kd.R_lower (Kd.R_new' (Kd.R_new' (Kd.R_new' ho0 (Kd.R_lt (RQ HO270.out))) (Kd.R_lt (RQ HO277.out))) (Kd.R_lt (RQ HO282.out))) (below_size (BL)))
   have n4_ := BB BK264.out hb
   have n5_ := BB BK265.out hb
   have n6_ := BB BK279.out hb
   have n7_ := BB BK283.out hb
   have n8_ := BB BK292.out hb
   have n9_ := Aside0.mk (below_step (BL) hb)
   clear HO270
   clear HO277
   clear HO282
   clear BK264
   clear BK265
   clear BK279
   clear BK283
   clear BK292
   clear HB
   have HO270 := n0_
   have HO277 := n1_
   have HO282 := n2_
   have HO290 := n3_
   have BK264 := n4_
   have BK265 := n5_
   have BK279 := n6_
   have BK283 := n7_
   have BK292 := n8_
   have HB := n9_
   clear n0_ n1_ n2_ n3_ n4_ n5_ n6_ n7_ n8_ n9_
   (try clear hb)
   (try clear hb2)
   (try clear hk)
   (try clear hi)
   (try clear ho0)
   refine hK.out _ _ ⟨CZ BK283.out 0, CZ BK265.out 0, CZ BK265.out 1, CZ BK265.out 2, CZ BK265.out 3⟩ (fun hHeld => ?_)
   clear hK K
   refine norm_ (a' := ?_) ?_ ?_
   rotate_left
   ·
    show Act.put _ (some 40) _ = _
    simp only [Act.put, zA, zB, zC, i64_w, i32_w]
    rfl
   refine pV 4 36 (OB 10 159) ?_
   refine pV 5 41 (OB 10 191) ?_
   refine pV 6 42 (OB 10 255) ?_
   exact norm_ (by simp only [putAll, Act.put, zA, zB, zC]) (hCont (v289, gb292) _ ⟨hHeld, (by (with_reducible repeat (first | apply r1 | apply r2 | apply r3)); exact Kd.R_mono HO270.out (fun _ hk => ⟨hk.1.1, ⟨hk.1.2, hk.2⟩⟩)), (by (with_reducible repeat (first | apply r1 | apply r2 | apply r3)); exact Kd.R_mono HO277.out (fun _ hk => ⟨hk.1.1, ⟨hk.1.2, hk.2⟩⟩)), (by (with_reducible repeat (first | apply r1 | apply r2 | apply r3)); exact Kd.R_mono HO282.out (fun _ hk => ⟨hk.1.1, ⟨hk.1.2, hk.2⟩⟩)), (by (with_reducible repeat (first | apply r1 | apply r2 | apply r3)); exact Kd.R_mono HO290.out (fun _ hk => ⟨hk.1.1.2, ⟨hk.1.2, hk.2⟩⟩)), (BQ BK264.out), (BQ BK265.out), (BQ BK279.out), (BQ BK283.out), (BQ BK292.out), GW292.out, GE292.out, NB264_292.out, NB292_264.out, NB265_292.out, NB292_265.out, NB279_292.out, NB292_279.out, NB283_292.out, NB292_283.out, (BL)⟩)
 rintro ⟨v289, gb292⟩ w56 ⟨hS_, h0_, h1_, h2_, h3_, h4_, h5_, h6_, h7_, h8_, h9_, h10_, h11_, h12_, h13_, h14_, h15_, h16_, h17_, h18_, h19_⟩
 have n0_ : Aside0 (Kd.R k45 45 w56 w.heap.size (fun k_ => some k_ ≠ (.slice Ao40 t275.length co40 : Value).ownBlock ∧ some k_ ≠ (.slice Ao46 t280.length co46 : Value).ownBlock ∧ some k_ ≠ (v289 : Value).ownBlock) v269 t268) := ⟨h0_⟩
 have n1_ : Aside0 (Kd.R k45 45 w56 w.heap.size (fun k_ => some k_ ≠ (v269 : Value).ownBlock ∧ some k_ ≠ (.slice Ao46 t280.length co46 : Value).ownBlock ∧ some k_ ≠ (v289 : Value).ownBlock) (.slice Ao40 t275.length co40) t275) := ⟨h1_⟩
 have n2_ : Aside0 (Kd.R k45 45 w56 w.heap.size (fun k_ => some k_ ≠ (v269 : Value).ownBlock ∧ some k_ ≠ (.slice Ao40 t275.length co40 : Value).ownBlock ∧ some k_ ≠ (v289 : Value).ownBlock) (.slice Ao46 t280.length co46) t280) := ⟨h2_⟩
 have n3_ : Aside0 (Kd.R k45 45 w56 w.heap.size (fun k_ => some k_ ≠ (v269 : Value).ownBlock ∧ some k_ ≠ (.slice Ao40 t275.length co40 : Value).ownBlock ∧ some k_ ≠ (.slice Ao46 t280.length co46 : Value).ownBlock) v289 t288) := ⟨h3_⟩
 have n4_ : Aside0 (w56.heap[gb264]? = some (.cells #[.slice A0_0 l0_0.length c0_0] 24 (0, 0))) := ⟨h4_⟩
 have n5_ : Aside0 (w56.heap[gb265]? = some (.cells #[.int .i64 a1_0, .string a1_1, .string a1_2, .string a1_3] 52 (0, 0))) := ⟨h5_⟩
 have n6_ : Aside0 (w56.heap[gb279]? = some (.cells #[.slice Ao40 t275.length co40] 29 (0, 0))) := ⟨h6_⟩
 have n7_ : Aside0 (w56.heap[gb283]? = some (.cells #[.slice Ao46 t280.length co46] 29 (0, 0))) := ⟨h7_⟩
 have n8_ : Aside0 (w56.heap[gb292]? = some (.cells #[.slice none 0 0] 29 (0, 0))) := ⟨h8_⟩
 have n9_ : Aside0 (w.heap.size ≤ gb292) := ⟨h9_⟩
 have n10_ : Aside0 (w.heap.size ≤ gb292) := ⟨h10_⟩
 have n11_ : Aside0 (gb264 ≠ gb292) := ⟨h11_⟩
 have n12_ : Aside0 (gb292 ≠ gb264) := ⟨h12_⟩
 have n13_ : Aside0 (gb265 ≠ gb292) := ⟨h13_⟩
 have n14_ : Aside0 (gb292 ≠ gb265) := ⟨h14_⟩
 have n15_ : Aside0 (gb279 ≠ gb292) := ⟨h15_⟩
 have n16_ : Aside0 (gb292 ≠ gb279) := ⟨h16_⟩
 have n17_ : Aside0 (gb283 ≠ gb292) := ⟨h17_⟩
 have n18_ : Aside0 (gb292 ≠ gb283) := ⟨h18_⟩
 have n19_ : Aside0 (Below w.heap.size w w56) := ⟨h19_⟩
 clear HO270
 clear HO277
 clear HO282
 clear BK264
 clear BK265
 clear BK279
 clear BK283
 clear HB
 clear h0_ h1_ h2_ h3_ h4_ h5_ h6_ h7_ h8_ h9_ h10_ h11_ h12_ h13_ h14_ h15_ h16_ h17_ h18_ h19_
 have HO270 := n0_
 have HO277 := n1_
 have HO282 := n2_
 have HO290 := n3_
 have BK264 := n4_
 have BK265 := n5_
 have BK279 := n6_
 have BK283 := n7_
 have BK292 := n8_
 have GW292 := n9_
 have GE292 := n10_
 have NB264_292 := n11_
 have NB292_264 := n12_
 have NB265_292 := n13_
 have NB292_265 := n14_
 have NB279_292 := n15_
 have NB292_279 := n16_
 have NB283_292 := n17_
 have NB292_283 := n18_
 have HB := n19_
 clear n0_ n1_ n2_ n3_ n4_ n5_ n6_ n7_ n8_ n9_ n10_ n11_ n12_ n13_ n14_ n15_ n16_ n17_ n18_ n19_
 have hHeld : w56.cell? ⟨gb283, 0, none⟩ = some (.slice Ao46 t280.length co46) ∧ w56.cell? ⟨gb265, 0, none⟩ = some (.int .i64 a1_0) ∧ w56.cell? ⟨gb265, 1, none⟩ = some (.string a1_1) ∧ w56.cell? ⟨gb265, 2, none⟩ = some (.string a1_2) ∧ w56.cell? ⟨gb265, 3, none⟩ = some (.string a1_3) := hS_
 obtain ⟨Ao57, co57, eo57⟩ := Kd.R_slice HO290.out
 (first | subst eo57 | (injection eo57 with f1_ f2_ f3_; have f4_ := f1_.symm; have f5_ := f3_.symm; clear f1_ f2_ f3_; subst f4_; subst f5_))
 refine norm_ (a' := ?_) ?_ ?_
 rotate_left
 ·
  simp only [putAll, Act.put, zA, zB, zC]
  rfl
 refine one_ (i := 8) (N := none) (OB 10 511) rfl rfl (one_of HT_.out (by kernel_rfl)) (by decide) (fun K hK => ?_)
 have hs58 : w56.cell? ⟨gb292, 0, none⟩ = some (.slice none 0 0) := CZ BK292.out 0
 have hfs58 := blk_frozen BK292.out 0
 have hns58_0 := NB264_292.out
 have hns58_1 := NB265_292.out
 have hns58_2 := NB279_292.out
 have hns58_3 := NB283_292.out
 have hms58_0 := NB292_264.out
 have hms58_1 := NB292_265.out
 have hms58_2 := NB292_279.out
 have hms58_3 := NB292_283.out
 refine skip_ (w1 := ?_) (by rfl) rfl ?_ ?_
 rotate_left
 ·
  go_simp
  rfl
 refine hK.out _ _ ⟨((cell_far (p := ⟨gb292, _, none⟩) NB283_292.out _).trans (hHeld.1)), ((cell_far (p := ⟨gb292, _, none⟩) NB265_292.out _).trans (hHeld.2.1)), ((cell_far (p := ⟨gb292, _, none⟩) NB265_292.out _).trans (hHeld.2.2.1)), ((cell_far (p := ⟨gb292, _, none⟩) NB265_292.out _).trans (hHeld.2.2.2.1)), ((cell_far (p := ⟨gb292, _, none⟩) NB265_292.out _).trans (hHeld.2.2.2.2))⟩ (fun hHeld => ?_)
 clear hK K
 refine pV 9 10 (OB 10 1023) ?_
 refine done_ (done_of HT_.out (by kernel_rfl)) ?_
 go_upto_region 11 with (fail)
 go_cut [51] (fun v51 wc => ∃ (kq : Nat) (x51_24 : Bool), v51 = .bool x51_24 ∧ Aside0 (laws_FnExactDoAct.j0 kq t278 t291 x51_24 l0_0 a1_0 a1_1 a1_2 a1_3 t275 t280 t288 = some r) ∧ Aside0 (kq ≤ k) ∧ Aside0 (Kd.R k45 45 wc w.heap.size (fun k_ => some k_ ≠ ((.slice Ao46 t280.length co46) : Value).ownBlock ∧ some k_ ≠ ((.slice Ao57 t288.length co57) : Value).ownBlock) (.slice Ao40 t275.length co40) t275) ∧ Aside0 (Kd.R k45 45 wc w.heap.size (fun k_ => some k_ ≠ ((.slice Ao40 t275.length co40) : Value).ownBlock ∧ some k_ ≠ ((.slice Ao57 t288.length co57) : Value).ownBlock) (.slice Ao46 t280.length co46) t280) ∧ Aside0 (Kd.R k45 45 wc w.heap.size (fun k_ => some k_ ≠ ((.slice Ao40 t275.length co40) : Value).ownBlock ∧ some k_ ≠ ((.slice Ao46 t280.length co46) : Value).ownBlock) (.slice Ao57 t288.length co57) t288) ∧ Aside0 (wc.heap[gb264]? = some (.cells #[(.slice A0_0 l0_0.length c0_0)] 24 (0, 0))) ∧ Aside0 (wc.heap[gb265]? = some (.cells #[.int .i64 a1_0, .string a1_1, .string a1_2, .string a1_3] 52 (0, 0))) ∧ Aside0 (wc.heap[gb279]? = some (.cells #[(.slice Ao40 t275.length co40)] 29 (0, 0))) ∧ Aside0 (wc.heap[gb283]? = some (.cells #[(.slice Ao46 t280.length co46)] 29 (0, 0))) ∧ Aside0 (wc.heap[gb292]? = some (.cells #[(.slice Ao57 t288.length co57)] 29 (0, 0))) ∧ Aside0 (Below w.heap.size w wc))
 case first =>
  have H := HC25.out
  clear HC25
  replace H := Option.bind_eq_some_iff.mp H
  obtain ⟨t293, A590, H⟩ := H
  replace H : (if t293 = true then (laws_FnExactDoAct.j0 k t278 t291 (t291 != t278) l0_0 a1_0 a1_1 a1_2 a1_3 t275 t280 t288) else (laws_FnExactDoAct.j0 k t278 t291 true l0_0 a1_0 a1_1 a1_2 a1_3 t275 t280 t288)) = some r := H
  have A59 := Aside0.mk A590
  clear A590
  by_cases c60 : t293 = true
  ·
   subst c60
   have H1 : (laws_FnExactDoAct.j0 k t278 t291 (t291 != t278) l0_0 a1_0 a1_1 a1_2 a1_3 t275 t280 t288) = some r := by rw [if_pos rfl] at H; exact H
   clear H
   have H := H1
   clear H1
   have H' := Aside0.mk H
   clear H
   have hnb61 := NB292_264.out
   have hnc61 := NB264_292.out
   have hnb62 := NB292_265.out
   have hnc62 := NB265_292.out
   have hnb63 := NB292_279.out
   have hnc63 := NB279_292.out
   have hnb64 := NB292_283.out
   have hnc64 := NB283_292.out
   have hcz65_0 : w56.cell? ⟨gb292, 0, none⟩ = some (.slice none 0 0) := CZ BK292.out 0
   have hfz65_0 := blk_frozen BK292.out 0
   have hnb66 := NB279_264.out
   have hnc66 := NB264_279.out
   have hnb67 := NB279_265.out
   have hnc67 := NB265_279.out
   have hnb68 := NB279_283.out
   have hnc68 := NB283_279.out
   have hcz69_0 : w56.cell? ⟨gb279, 0, none⟩ = some (.slice Ao40 t275.length co40) := CZ BK279.out 0
   have hfz69_0 := blk_frozen BK279.out 0
   go_wp2_with (first | ((with_reducible refine gate_callee (f := 16) rfl ?_); refine goesL_ (some 45) rfl rfl Try.func16 (by kernel_rfl) rfl #[.agg #[.slice Ao57 t288.length co57], .agg #[.slice Ao40 t275.length co40]] rfl (MA) ?_; (with_reducible refine (laws_eqDisk.calls k _ _ t288 _ _ t275 true _ ?side1 ?side2 ?side3 ?side4 A59.out).mono ?_); (case side1 => refine (Kd.R_reads' (e := 45) (base := w.heap.size) (ok := fun k_ => (some k_ ≠ (v269 : Value).ownBlock ∧ (some k_ ≠ (.slice Ao40 t275.length co40 : Value).ownBlock ∧ some k_ ≠ (.slice Ao46 t280.length co46 : Value).ownBlock))) (n := t288.length) (c := co57) ?_).2.2; exact (by (with_reducible repeat (first | apply r1 | apply r2 | apply r3)); exact (Kd.R_mono (Kd.R_far (p := ⟨gb292, 0, none⟩) (Kd.R_types HO290.out BK292.out (by decide)) (fun _ hk => hk.2) (.slice Ao57 t288.length co57)) (fun _ h_ => h_.1)))); (case side2 => exact (Kd.R_reads' HO290.out).2.1); (case side3 => refine (Kd.R_reads' (e := 45) (base := w.heap.size) (ok := fun k_ => (some k_ ≠ (v269 : Value).ownBlock ∧ (some k_ ≠ (.slice Ao46 t280.length co46 : Value).ownBlock ∧ some k_ ≠ (.slice Ao57 t288.length co57 : Value).ownBlock))) (n := t275.length) (c := co40) ?_).2.2; exact (by (with_reducible repeat (first | apply r1 | apply r2 | apply r3)); exact (Kd.R_mono (Kd.R_far (p := ⟨gb292, 0, none⟩) (Kd.R_types HO277.out BK292.out (by decide)) (fun _ hk => hk.2) (.slice Ao57 t288.length co57)) (fun _ h_ => h_.1)))); (case side4 => exact (Kd.R_reads' HO277.out).2.1); rintro e w70 ⟨rfl, hb⟩; refine ⟨_, rfl, ?_⟩; replace HO270 := Aside0.mk (Kd.R_below (by (with_reducible repeat (first | apply r1 | apply r2 | apply r3)); exact (Kd.R_mono (Kd.R_far (p := ⟨gb292, 0, none⟩) (Kd.R_types HO270.out BK292.out (by decide)) (fun _ hk => hk.2) (.slice Ao57 t288.length co57)) (fun _ h_ => h_.1))) hb); replace HO277 := Aside0.mk (Kd.R_below (by (with_reducible repeat (first | apply r1 | apply r2 | apply r3)); exact (Kd.R_mono (Kd.R_far (p := ⟨gb292, 0, none⟩) (Kd.R_types HO277.out BK292.out (by decide)) (fun _ hk => hk.2) (.slice Ao57 t288.length co57)) (fun _ h_ => h_.1))) hb); replace HO282 := Aside0.mk (Kd.R_below (by (with_reducible repeat (first | apply r1 | apply r2 | apply r3)); exact (Kd.R_mono (Kd.R_far (p := ⟨gb292, 0, none⟩) (Kd.R_types HO282.out BK292.out (by decide)) (fun _ hk => hk.2) (.slice Ao57 t288.length co57)) (fun _ h_ => h_.1))) hb); replace HO290 := Aside0.mk (Kd.R_below (by (with_reducible repeat (first | apply r1 | apply r2 | apply r3)); exact (Kd.R_mono (Kd.R_far (p := ⟨gb292, 0, none⟩) (Kd.R_types HO290.out BK292.out (by decide)) (fun _ hk => hk.2) (.slice Ao57 t288.length co57)) (fun _ h_ => h_.1))) hb); replace BK264 := Aside0.mk (blk_below (g := gb264) (o := .cells #[.slice A0_0 l0_0.length c0_0] 24 (0, 0)) (by (with_reducible repeat (first | apply b1 | apply b2 | apply b3)); refine blk_far ?_ NB264_292.out _; (with_reducible repeat (first | apply b1 | apply b2 | apply b3)); exact BK264.out) hb); replace BK265 := Aside0.mk (blk_below (g := gb265) (o := .cells #[.int .i64 a1_0, .string a1_1, .string a1_2, .string a1_3] 52 (0, 0)) (by (with_reducible repeat (first | apply b1 | apply b2 | apply b3)); refine blk_far ?_ NB265_292.out _; (with_reducible repeat (first | apply b1 | apply b2 | apply b3)); exact BK265.out) hb); replace BK279 := Aside0.mk (blk_below (g := gb279) (o := .cells #[.slice Ao40 t275.length co40] 29 (0, 0)) (by (with_reducible repeat (first | apply b1 | apply b2 | apply b3)); refine blk_far ?_ NB279_292.out _; (with_reducible repeat (first | apply b1 | apply b2 | apply b3)); exact BK279.out) hb); replace BK283 := Aside0.mk (blk_below (g := gb283) (o := .cells #[.slice Ao46 t280.length co46] 29 (0, 0)) (by (with_reducible repeat (first | apply b1 | apply b2 | apply b3)); refine blk_far ?_ NB283_292.out _; (with_reducible repeat (first | apply b1 | apply b2 | apply b3)); exact BK283.out) hb); replace BK292 := Aside0.mk (blk_below (g := gb292) (o := .cells #[.slice Ao57 t288.length co57] 29 (0, 0)) (by (with_reducible repeat (first | apply b1 | apply b2 | apply b3)); refine blk_put (cs := #[.slice none 0 0]) ?_ 0 _ rfl; (with_reducible repeat (first | apply b1 | apply b2 | apply b3)); exact BK292.out) hb); replace HB := Aside0.mk (below_step (BL) hb); (try clear hb); (try clear hb2); (try clear hk); (try clear hi)))
   go_meet
   case rel => exact ⟨_, ((t291 != t278)), SD, H', ⟨by first | omega | exact Nat.le_refl _⟩, ⟨by (with_reducible repeat (first | apply r1 | apply r2 | apply r3)); exact Kd.R_mono HO277.out (fun _ hk => ⟨hk.2.1, hk.2.2⟩)⟩, ⟨by (with_reducible repeat (first | apply r1 | apply r2 | apply r3)); exact Kd.R_mono HO282.out (fun _ hk => ⟨hk.2.1, hk.2.2⟩)⟩, ⟨by (with_reducible repeat (first | apply r1 | apply r2 | apply r3)); exact Kd.R_mono HO290.out (fun _ hk => ⟨hk.2.1, hk.2.2⟩)⟩, ⟨BQ BK264.out⟩, ⟨BQ BK265.out⟩, ⟨BQ BK279.out⟩, ⟨BQ BK283.out⟩, ⟨BQ BK292.out⟩, ⟨BL⟩⟩
  replace c60 := Bool.eq_false_iff.mpr c60
  subst c60
  have H1 : (laws_FnExactDoAct.j0 k t278 t291 true l0_0 a1_0 a1_1 a1_2 a1_3 t275 t280 t288) = some r := by rw [if_neg (show ¬ (false = true) by decide)] at H; exact H
  clear H
  have H := H1
  clear H1
  have H' := Aside0.mk H
  clear H
  have hnb71 := NB292_264.out
  have hnc71 := NB264_292.out
  have hnb72 := NB292_265.out
  have hnc72 := NB265_292.out
  have hnb73 := NB292_279.out
  have hnc73 := NB279_292.out
  have hnb74 := NB292_283.out
  have hnc74 := NB283_292.out
  have hcz75_0 : w56.cell? ⟨gb292, 0, none⟩ = some (.slice none 0 0) := CZ BK292.out 0
  have hfz75_0 := blk_frozen BK292.out 0
  have hnb76 := NB279_264.out
  have hnc76 := NB264_279.out
  have hnb77 := NB279_265.out
  have hnc77 := NB265_279.out
  have hnb78 := NB279_283.out
  have hnc78 := NB283_279.out
  have hcz79_0 : w56.cell? ⟨gb279, 0, none⟩ = some (.slice Ao40 t275.length co40) := CZ BK279.out 0
  have hfz79_0 := blk_frozen BK279.out 0
  go_wp2_with (first | ((with_reducible refine gate_callee (f := 16) rfl ?_); refine goesL_ (some 45) rfl rfl Try.func16 (by kernel_rfl) rfl #[.agg #[.slice Ao57 t288.length co57], .agg #[.slice Ao40 t275.length co40]] rfl (MA) ?_; (with_reducible refine (laws_eqDisk.calls k _ _ t288 _ _ t275 false _ ?side1 ?side2 ?side3 ?side4 A59.out).mono ?_); (case side1 => refine (Kd.R_reads' (e := 45) (base := w.heap.size) (ok := fun k_ => (some k_ ≠ (v269 : Value).ownBlock ∧ (some k_ ≠ (.slice Ao40 t275.length co40 : Value).ownBlock ∧ some k_ ≠ (.slice Ao46 t280.length co46 : Value).ownBlock))) (n := t288.length) (c := co57) ?_).2.2; exact (by (with_reducible repeat (first | apply r1 | apply r2 | apply r3)); exact (Kd.R_mono (Kd.R_far (p := ⟨gb292, 0, none⟩) (Kd.R_types HO290.out BK292.out (by decide)) (fun _ hk => hk.2) (.slice Ao57 t288.length co57)) (fun _ h_ => h_.1)))); (case side2 => exact (Kd.R_reads' HO290.out).2.1); (case side3 => refine (Kd.R_reads' (e := 45) (base := w.heap.size) (ok := fun k_ => (some k_ ≠ (v269 : Value).ownBlock ∧ (some k_ ≠ (.slice Ao46 t280.length co46 : Value).ownBlock ∧ some k_ ≠ (.slice Ao57 t288.length co57 : Value).ownBlock))) (n := t275.length) (c := co40) ?_).2.2; exact (by (with_reducible repeat (first | apply r1 | apply r2 | apply r3)); exact (Kd.R_mono (Kd.R_far (p := ⟨gb292, 0, none⟩) (Kd.R_types HO277.out BK292.out (by decide)) (fun _ hk => hk.2) (.slice Ao57 t288.length co57)) (fun _ h_ => h_.1)))); (case side4 => exact (Kd.R_reads' HO277.out).2.1); rintro e w80 ⟨rfl, hb⟩; refine ⟨_, rfl, ?_⟩; replace HO270 := Aside0.mk (Kd.R_below (by (with_reducible repeat (first | apply r1 | apply r2 | apply r3)); exact (Kd.R_mono (Kd.R_far (p := ⟨gb292, 0, none⟩) (Kd.R_types HO270.out BK292.out (by decide)) (fun _ hk => hk.2) (.slice Ao57 t288.length co57)) (fun _ h_ => h_.1))) hb); replace HO277 := Aside0.mk (Kd.R_below (by (with_reducible repeat (first | apply r1 | apply r2 | apply r3)); exact (Kd.R_mono (Kd.R_far (p := ⟨gb292, 0, none⟩) (Kd.R_types HO277.out BK292.out (by decide)) (fun _ hk => hk.2) (.slice Ao57 t288.length co57)) (fun _ h_ => h_.1))) hb); replace HO282 := Aside0.mk (Kd.R_below (by (with_reducible repeat (first | apply r1 | apply r2 | apply r3)); exact (Kd.R_mono (Kd.R_far (p := ⟨gb292, 0, none⟩) (Kd.R_types HO282.out BK292.out (by decide)) (fun _ hk => hk.2) (.slice Ao57 t288.length co57)) (fun _ h_ => h_.1))) hb); replace HO290 := Aside0.mk (Kd.R_below (by (with_reducible repeat (first | apply r1 | apply r2 | apply r3)); exact (Kd.R_mono (Kd.R_far (p := ⟨gb292, 0, none⟩) (Kd.R_types HO290.out BK292.out (by decide)) (fun _ hk => hk.2) (.slice Ao57 t288.length co57)) (fun _ h_ => h_.1))) hb); replace BK264 := Aside0.mk (blk_below (g := gb264) (o := .cells #[.slice A0_0 l0_0.length c0_0] 24 (0, 0)) (by (with_reducible repeat (first | apply b1 | apply b2 | apply b3)); refine blk_far ?_ NB264_292.out _; (with_reducible repeat (first | apply b1 | apply b2 | apply b3)); exact BK264.out) hb); replace BK265 := Aside0.mk (blk_below (g := gb265) (o := .cells #[.int .i64 a1_0, .string a1_1, .string a1_2, .string a1_3] 52 (0, 0)) (by (with_reducible repeat (first | apply b1 | apply b2 | apply b3)); refine blk_far ?_ NB265_292.out _; (with_reducible repeat (first | apply b1 | apply b2 | apply b3)); exact BK265.out) hb); replace BK279 := Aside0.mk (blk_below (g := gb279) (o := .cells #[.slice Ao40 t275.length co40] 29 (0, 0)) (by (with_reducible repeat (first | apply b1 | apply b2 | apply b3)); refine blk_far ?_ NB279_292.out _; (with_reducible repeat (first | apply b1 | apply b2 | apply b3)); exact BK279.out) hb); replace BK283 := Aside0.mk (blk_below (g := gb283) (o := .cells #[.slice Ao46 t280.length co46] 29 (0, 0)) (by (with_reducible repeat (first | apply b1 | apply b2 | apply b3)); refine blk_far ?_ NB283_292.out _; (with_reducible repeat (first | apply b1 | apply b2 | apply b3)); exact BK283.out) hb); replace BK292 := Aside0.mk (blk_below (g := gb292) (o := .cells #[.slice Ao57 t288.length co57] 29 (0, 0)) (by (with_reducible repeat (first | apply b1 | apply b2 | apply b3)); refine blk_put (cs := #[.slice none 0 0]) ?_ 0 _ rfl; (with_reducible repeat (first | apply b1 | apply b2 | apply b3)); exact BK292.out) hb); replace HB := Aside0.mk (below_step (BL) hb); (try clear hb); (try clear hb2); (try clear hk); (try clear hi)))
  go_meet
  case rel => exact ⟨_, (true), SD, H', ⟨by first | omega | exact Nat.le_refl _⟩, ⟨by (with_reducible repeat (first | apply r1 | apply r2 | apply r3)); exact Kd.R_mono HO277.out (fun _ hk => ⟨hk.2.1, hk.2.2⟩)⟩, ⟨by (with_reducible repeat (first | apply r1 | apply r2 | apply r3)); exact Kd.R_mono HO282.out (fun _ hk => ⟨hk.2.1, hk.2.2⟩)⟩, ⟨by (with_reducible repeat (first | apply r1 | apply r2 | apply r3)); exact Kd.R_mono HO290.out (fun _ hk => ⟨hk.2.1, hk.2.2⟩)⟩, ⟨BQ BK264.out⟩, ⟨BQ BK265.out⟩, ⟨BQ BK279.out⟩, ⟨BQ BK283.out⟩, ⟨BQ BK292.out⟩, ⟨BL⟩⟩
 case rest =>
  clear HC25
  try clear c1
  try clear p2
  try clear c3
  try clear c6
  try clear c7
  try clear c16
  try clear c36
  try clear c37
  try clear c60
  try clear c61
  try clear c62
  try clear c63
  try clear c64
  try clear c66
  try clear c67
  try clear c68
  try clear c71
  try clear c72
  try clear c73
  try clear c74
  try clear c76
  try clear c77
  try clear c78
  try clear hcz65_0
  try clear hcz69_0
  try clear hcz75_0
  try clear hcz79_0
  try clear hfz65_0
  try clear hfz69_0
  try clear hfz75_0
  try clear hfz79_0
  obtain ⟨kq, x51_24, rfl, HA, HJ24, HO_280000, HO_284000, HO_293000, BK264, BK265, BK279, BK283, BK292, HB⟩ := hcut
  cases kq with
  | zero => exact absurd HA.out (by simp [laws_FnExactDoAct.j0])
  | succ kj24 =>
   have H := HA.out
   clear HA
   simp only [laws_FnExactDoAct.j0] at H
   by_cases c81 : x51_24 = true
   ·
    subst c81
    have H1 : (none) = some r := by rw [if_pos rfl] at H; exact H
    clear H
    have H := H1
    clear H1
    exact absurd H (by simp)
   replace c81 := Bool.eq_false_iff.mpr c81
   subst c81
   have H1 : ((laws_toDisk.f kj24 l0_0).bind fun t294 => ((laws_eqDisk.f kj24 t280 t294).bind fun t297 => (if t297 = true then ((laws_markDisk.f kj24 t280 1).bind fun bt298 => (if bt298.1 < 0 then (laws_FnExactDoAct.j1 kj24 t278 true l0_0 a1_0 a1_1 a1_2 a1_3 t275 t288) else ((laws_eqDisk.f kj24 t288 t275).bind fun t300 => (if t300 = true then (laws_FnExactDoAct.j1 kj24 t278 (t291 != t278) l0_0 a1_0 a1_1 a1_2 a1_3 t275 t288) else (laws_FnExactDoAct.j1 kj24 t278 true l0_0 a1_0 a1_1 a1_2 a1_3 t275 t288))))) else (none)))) = some r := by rw [if_neg (show ¬ (false = true) by decide)] at H; exact H
   clear H
   have H := H1
   clear H1
   replace H := Option.bind_eq_some_iff.mp H
   obtain ⟨t294, A820, H⟩ := H
   replace H : ((laws_eqDisk.f kj24 t280 t294).bind fun t297 => (if t297 = true then ((laws_markDisk.f kj24 t280 1).bind fun bt298 => (if bt298.1 < 0 then (laws_FnExactDoAct.j1 kj24 t278 true l0_0 a1_0 a1_1 a1_2 a1_3 t275 t288) else ((laws_eqDisk.f kj24 t288 t275).bind fun t300 => (if t300 = true then (laws_FnExactDoAct.j1 kj24 t278 (t291 != t278) l0_0 a1_0 a1_1 a1_2 a1_3 t275 t288) else (laws_FnExactDoAct.j1 kj24 t278 true l0_0 a1_0 a1_1 a1_2 a1_3 t275 t288))))) else (none))) = some r := H
   have A82 := Aside0.mk A820
   clear A820
   replace H := Option.bind_eq_some_iff.mp H
   obtain ⟨t297, A830, H⟩ := H
   replace H : (if t297 = true then ((laws_markDisk.f kj24 t280 1).bind fun bt298 => (if bt298.1 < 0 then (laws_FnExactDoAct.j1 kj24 t278 true l0_0 a1_0 a1_1 a1_2 a1_3 t275 t288) else ((laws_eqDisk.f kj24 t288 t275).bind fun t300 => (if t300 = true then (laws_FnExactDoAct.j1 kj24 t278 (t291 != t278) l0_0 a1_0 a1_1 a1_2 a1_3 t275 t288) else (laws_FnExactDoAct.j1 kj24 t278 true l0_0 a1_0 a1_1 a1_2 a1_3 t275 t288))))) else (none)) = some r := H
   have A83 := Aside0.mk A830
   clear A830
   by_cases c84 : t297 = true; rotate_left
   ·
    replace c84 := Bool.eq_false_iff.mpr c84
    subst c84
    have H1 : (none) = some r := by rw [if_neg (show ¬ (false = true) by decide)] at H; exact H
    clear H
    have H := H1
    clear H1
    exact absurd H (by simp)
   subst c84
   have H1 : ((laws_markDisk.f kj24 t280 1).bind fun bt298 => (if bt298.1 < 0 then (laws_FnExactDoAct.j1 kj24 t278 true l0_0 a1_0 a1_1 a1_2 a1_3 t275 t288) else ((laws_eqDisk.f kj24 t288 t275).bind fun t300 => (if t300 = true then (laws_FnExactDoAct.j1 kj24 t278 (t291 != t278) l0_0 a1_0 a1_1 a1_2 a1_3 t275 t288) else (laws_FnExactDoAct.j1 kj24 t278 true l0_0 a1_0 a1_1 a1_2 a1_3 t275 t288))))) = some r := by rw [if_pos rfl] at H; exact H
   clear H
   have H := H1
   clear H1
   replace H := Option.bind_eq_some_iff.mp H
   obtain ⟨⟨t298, t299⟩, A850, H⟩ := H
   replace H : (if t298 < 0 then (laws_FnExactDoAct.j1 kj24 t278 true l0_0 a1_0 a1_1 a1_2 a1_3 t275 t288) else ((laws_eqDisk.f kj24 t288 t275).bind fun t300 => (if t300 = true then (laws_FnExactDoAct.j1 kj24 t278 (t291 != t278) l0_0 a1_0 a1_1 a1_2 a1_3 t275 t288) else (laws_FnExactDoAct.j1 kj24 t278 true l0_0 a1_0 a1_1 a1_2 a1_3 t275 t288)))) = some r := H
   have A85 := Aside0.mk A850
   clear A850
   have HC86 := Aside0.mk H
   clear H
   try go_wp2
   have n0_ := Aside0.mk (Kd.R_drew HO_280000.out)
   have n1_ := Aside0.mk (Kd.R_drew HO_284000.out)
   have n2_ := Aside0.mk (Kd.R_drew HO_293000.out)
   have n3_ := Aside0.mk (blk_drew BK264.out)
   have n4_ := Aside0.mk (blk_drew BK265.out)
   have n5_ := Aside0.mk (blk_drew BK279.out)
   have n6_ := Aside0.mk (blk_drew BK283.out)
   have n7_ := Aside0.mk (blk_drew BK292.out)
   have n8_ := Aside0.mk (below_drew1 HB.out)
   clear HO_280000
   clear HO_284000
   clear HO_293000
   clear BK264
   clear BK265
   clear BK279
   clear BK283
   clear BK292
   clear HB
   have HO_280000 := n0_
   have HO_284000 := n1_
   have HO_293000 := n2_
   have BK264 := n3_
   have BK265 := n4_
   have BK279 := n5_
   have BK283 := n6_
   have BK292 := n7_
   have HB := n8_
   clear n0_ n1_ n2_ n3_ n4_ n5_ n6_ n7_ n8_
   refine start_ (n := 5) (S := fun w' => w'.cell? ⟨gb283, 0, none⟩ = some (.slice Ao46 t280.length co46) ∧ w'.cell? ⟨gb264, 0, none⟩ = some (.slice A0_0 l0_0.length c0_0)) (ds := []) #[false, false, false, false, false] (by kernel_rfl) rfl rfl ⟨CZ BK283.out 0, CZ BK264.out 0⟩ (fun hHeld => ?_)
   generalize wc.drew = w87 at HO_280000 HO_284000 HO_293000 BK264 BK265 BK279 BK283 BK292 HB hHeld ⊢
   refine take_ (i := 0) (N := some 52) (v := ?_) (a' := ?_) #[true, false, false, false, false] rfl rfl (by kernel_rfl) (fun _ _ _ h => h) (Or.inl ⟨by rfl, ?_⟩) hHeld ?_ ?_
   rotate_left
   ·
    rintro w' ⟨s0, s1⟩
    go_simp
    with_reducible rfl
   rotate_left
   ·
    simp only [Act.put, zA, zB, zC, i64_w, i32_w]
    rfl
   refine take_ (i := 1) (N := some 53) (v := ?_) (a' := ?_) #[true, true, false, false, false] rfl rfl (by kernel_rfl) (fun _ _ _ h => h) (Or.inl ⟨by rfl, ?_⟩) hHeld ?_ ?_
   rotate_left
   ·
    rintro w' ⟨s0, s1⟩
    go_simp
    with_reducible rfl
   rotate_left
   ·
    simp only [Act.put, zA, zB, zC, i64_w, i32_w]
    rfl
   refine one_ (i := 2) (N := some 54) #[true, true, true, false, false] rfl rfl (by kernel_rfl) (by decide) (fun K hK => ?_)
   refine goes_ Try.func14 (by kernel_rfl) rfl #[.agg #[.slice A0_0 l0_0.length c0_0]] (by rfl) rfl rfl (MA) ?_
   with_reducible refine (laws_toDisk.calls kj24 _ _ l0_0 t294 _ ?side1 ?side2 A82.out).mono ?_
   (case side1 => repeat (first | exact (Kd.C_below HR0_0.out HB.out) | (with_reducible refine Kd.C_alloc ?_ _) | (with_reducible refine Kd.C_drewN ?_ _) | (with_reducible refine Kd.C_drew ?_)))
   (case side2 => exact HC0_0.out)
   rintro e w88 ⟨v295, rfl, ho0, hb⟩
   refine ⟨_, rfl, ?_⟩
   have n0_ := Aside0.mk (Kd.R_elder' (RQ HO_280000.out) (Kd.R_base ho0) hb)
   have n1_ := Aside0.mk (Kd.R_elder' (RQ HO_284000.out) (Kd.R_base ho0) hb)
   have n2_ := Aside0.mk (Kd.R_elder' (RQ HO_293000.out) (Kd.R_base ho0) hb)
   have n3_ := Aside0.mk (Kd.R_lower (Kd.R_new' (Kd.R_new' (Kd.R_new' ho0 (Kd.R_lt (RQ HO_280000.out))) (Kd.R_lt (RQ HO_284000.out))) (Kd.R_lt (RQ HO_293000.out))) (below_size (BL)))
   have n4_ := BB BK264.out hb
   have n5_ := BB BK265.out hb
   have n6_ := BB BK279.out hb
   have n7_ := BB BK283.out hb
   have n8_ := BB BK292.out hb
   have n9_ := Aside0.mk (below_step (BL) hb)
   clear HO_280000
   clear HO_284000
   clear HO_293000
   clear BK264
   clear BK265
   clear BK279
   clear BK283
   clear BK292
   clear HB
   have HO_280000 := n0_
   have HO_284000 := n1_
   have HO_293000 := n2_
   have HO296 := n3_
   have BK264 := n4_
   have BK265 := n5_
   have BK279 := n6_
   have BK283 := n7_
   have BK292 := n8_
   have HB := n9_
   clear n0_ n1_ n2_ n3_ n4_ n5_ n6_ n7_ n8_ n9_
   (try clear hb)
   (try clear hb2)
   (try clear hk)
   (try clear hi)
   (try clear ho0)
   obtain ⟨Ao89, co89, eo89⟩ := Kd.R_slice HO296.out
   (first | subst eo89 | (injection eo89 with f1_ f2_ f3_; have f4_ := f1_.symm; have f5_ := f3_.symm; clear f1_ f2_ f3_; subst f4_; subst f5_))
   refine hK.out _ _ ⟨CZ BK283.out 0, CZ BK264.out 0⟩ (fun hHeld => ?_)
   clear hK K
   refine norm_ (a' := ?_) ?_ ?_
   rotate_left
   ·
    show Act.put _ (some 54) _ = _
    simp only [Act.put, zA, zB, zC, i64_w, i32_w]
    rfl
   refine one_ (i := 3) (N := some 55) #[true, true, true, true, false] rfl rfl (by kernel_rfl) (by decide) (fun K hK => ?_)
   refine goes_ Try.func16 (by kernel_rfl) rfl #[.agg #[.slice Ao46 t280.length co46], .agg #[.slice Ao89 t294.length co89]] (by rfl) rfl rfl (MA) ?_
   with_reducible refine (laws_eqDisk.calls kj24 _ _ t280 _ _ t294 true _ ?side1 ?side2 ?side3 ?side4 A83.out).mono ?_
   (case side1 => repeat (first | exact (Kd.R_reads' HO_284000.out).2.2 | (with_reducible refine Kd.C_alloc ?_ _) | (with_reducible refine Kd.C_drewN ?_ _) | (with_reducible refine Kd.C_drew ?_)))
   (case side2 => exact (Kd.R_reads' HO_284000.out).2.1)
   (case side3 => repeat (first | exact (Kd.R_reads' HO296.out).2.2 | (with_reducible refine Kd.C_alloc ?_ _) | (with_reducible refine Kd.C_drewN ?_ _) | (with_reducible refine Kd.C_drew ?_)))
   (case side4 => exact (Kd.R_reads' HO296.out).2.1)
   rintro e w90 ⟨rfl, hb⟩
   refine ⟨_, rfl, ?_⟩
   have n0_ := Aside0.mk (Kd.R_below (RQ HO_280000.out) hb)
   have n1_ := Aside0.mk (Kd.R_below (RQ HO_284000.out) hb)
   have n2_ := Aside0.mk (Kd.R_below (RQ HO_293000.out) hb)
   have n3_ := Aside0.mk (Kd.R_below (RQ HO296.out) hb)
   have n4_ := BB BK264.out hb
   have n5_ := BB BK265.out hb
   have n6_ := BB BK279.out hb
   have n7_ := BB BK283.out hb
   have n8_ := BB BK292.out hb
   have n9_ := Aside0.mk (below_step (BL) hb)
   clear HO_280000
   clear HO_284000
   clear HO_293000
   clear HO296
   clear BK264
   clear BK265
   clear BK279
   clear BK283
   clear BK292
   clear HB
   have HO_280000 := n0_
   have HO_284000 := n1_
   have HO_293000 := n2_
   have HO296 := n3_
   have BK264 := n4_
   have BK265 := n5_
   have BK279 := n6_
   have BK283 := n7_
   have BK292 := n8_
   have HB := n9_
   clear n0_ n1_ n2_ n3_ n4_ n5_ n6_ n7_ n8_ n9_
   (try clear hb)
   (try clear hb2)
   (try clear hk)
   (try clear hi)
   refine hK.out _ _ ⟨CZ BK283.out 0, CZ BK264.out 0⟩ (fun hHeld => ?_)
   clear hK K
   refine norm_ (a' := ?_) ?_ ?_
   rotate_left
   ·
    show Act.put _ (some 55) _ = _
    simp only [Act.put, zA, zB, zC, i64_w, i32_w]
    rfl
   refine pure_ (i := 4) (N := some 56) (v := ?_) (a' := ?_) #[true, true, true, true, true] rfl rfl (by kernel_rfl) (fun _ _ _ h => h) (Or.inl ⟨by rfl, ?_⟩) ?_ ?_
   rotate_left
   ·
    intro w'
    go_simp
    with_reducible rfl
   rotate_left
   ·
    simp only [Act.put, zA, zB, zC, i64_w, i32_w]
    rfl
   refine done_ (by kernel_rfl) ?_
   have hnb91 := NB283_264.out
   have hnc91 := NB264_283.out
   have hnb92 := NB283_265.out
   have hnc92 := NB265_283.out
   have hnb93 := NB283_279.out
   have hnc93 := NB279_283.out
   have hnb94 := NB283_292.out
   have hnc94 := NB292_283.out
   have hcz95_0 : w90.cell? ⟨gb283, 0, none⟩ = some (.slice Ao46 t280.length co46) := CZ BK283.out 0
   have hfz95_0 := blk_frozen BK283.out 0
   go_upto_region 17 with (first | ((with_reducible refine gate_callee (f := 31) rfl ?_); refine goesL_ (some 59) rfl rfl Try.func31 (by kernel_rfl) rfl #[.agg #[.slice Ao46 t280.length co46], .int .i64 1] rfl (MA) ?_; (with_reducible refine (laws_markDisk.calls kj24 (fun k_ => some k_ = (.slice Ao46 t280.length co46 : Value).ownBlock) (.slice Ao46 t280.length co46) t280 1 t298 t299 w _ ?side1 ?side2 A85.out).mono ?_); (case side1 => repeat (first | (with_reducible first | exact HB.out | apply below_alloc | apply pw_below_drewN | apply below_drew1 | refine below_set ?_ GE264.out | refine below_set ?_ GE265.out | refine below_set ?_ GE279.out | refine below_set ?_ GE283.out | refine below_set ?_ GE292.out) | exact HB.out)); (case side2 => exact Kd.R_tight rfl HO_284000.out); rintro e w96 ⟨rfl, hy0, hb, hkp⟩; refine ⟨_, rfl, ?_⟩; replace HO_280000 := Aside0.mk (Kd.R_mono (ok' := fun k_ => some k_ ≠ (.slice Ao46 t280.length co46 : Value).ownBlock ∧ some k_ ≠ (.slice Ao57 t288.length co57 : Value).ownBlock ∧ some k_ ≠ (.slice Ao89 t294.length co89 : Value).ownBlock) (Kd.R_keptB (HO_280000.out) hkp (fun k_ hk_ hs_ => (hk_.1.1) hs_)) (fun k_ hk_ => ⟨hk_.1.1.1, hk_.1.1.2, hk_.1.2⟩)); replace HO_293000 := Aside0.mk (Kd.R_mono (ok' := fun k_ => some k_ ≠ (.slice Ao40 t275.length co40 : Value).ownBlock ∧ some k_ ≠ (.slice Ao46 t280.length co46 : Value).ownBlock ∧ some k_ ≠ (.slice Ao89 t294.length co89 : Value).ownBlock) (Kd.R_keptB (HO_293000.out) hkp (fun k_ hk_ hs_ => (hk_.1.2) hs_)) (fun k_ hk_ => ⟨hk_.1.1.1, hk_.1.1.2, hk_.1.2⟩)); replace BK264 := Aside0.mk (blk_kept (BQ BK264.out) hkp (fun hs_ => (fun e_ => (Kd.R_ne HO_284000.out BK264.out (by decide)) e_) hs_)); replace BK265 := Aside0.mk (blk_kept (BQ BK265.out) hkp (fun hs_ => (fun e_ => (Kd.R_ne HO_284000.out BK265.out (by decide)) e_) hs_)); replace BK279 := Aside0.mk (blk_kept (BQ BK279.out) hkp (fun hs_ => (fun e_ => (Kd.R_ne HO_284000.out BK279.out (by decide)) e_) hs_)); replace BK283 := Aside0.mk (blk_kept (BQ BK283.out) hkp (fun hs_ => (fun e_ => (Kd.R_ne HO_284000.out BK283.out (by decide)) e_) hs_)); replace BK292 := Aside0.mk (blk_kept (BQ BK292.out) hkp (fun hs_ => (fun e_ => (Kd.R_ne HO_284000.out BK292.out (by decide)) e_) hs_)); replace HO_284000 := Aside0.mk (Kd.R_reok rfl hy0 (fun k_ e_ => HO_284000.out.1 k_ e_)); replace HO296 := Aside0.mk (Kd.R_mono (ok' := fun k_ => some k_ ≠ (.slice Ao40 t275.length co40 : Value).ownBlock ∧ some k_ ≠ (.slice Ao46 t280.length co46 : Value).ownBlock ∧ some k_ ≠ (.slice Ao57 t288.length co57 : Value).ownBlock) (Kd.R_keptB (HO296.out) hkp (fun k_ hk_ hs_ => (hk_.1.2) hs_)) (fun k_ hk_ => ⟨hk_.1.1.1.2, hk_.1.1.2, hk_.1.2⟩)); replace HB := Aside0.mk (hb); (try clear hb); (try clear hkp); (try clear hy0)))
   (try simp only [Act.put, zA, zB, zC])
   go_cut [72] (fun v72 wc => ∃ (kq : Nat) (x72_85 : Bool), v72 = .bool x72_85 ∧ Aside0 (laws_FnExactDoAct.j1 kq t278 x72_85 l0_0 a1_0 a1_1 a1_2 a1_3 t275 t288 = some r) ∧ Aside0 (kq ≤ kj24) ∧ Aside0 (Kd.R k45 45 wc w.heap.size (fun k_ => some k_ ≠ ((.slice Ao46 t280.length co46) : Value).ownBlock ∧ some k_ ≠ ((.slice Ao57 t288.length co57) : Value).ownBlock) (.slice Ao40 t275.length co40) t275) ∧ Aside0 (Kd.R k45 45 wc w.heap.size (fun k_ => some k_ ≠ ((.slice Ao40 t275.length co40) : Value).ownBlock ∧ some k_ ≠ ((.slice Ao57 t288.length co57) : Value).ownBlock) (.slice Ao46 t280.length co46) t299) ∧ Aside0 (Kd.R k45 45 wc w.heap.size (fun k_ => some k_ ≠ ((.slice Ao40 t275.length co40) : Value).ownBlock ∧ some k_ ≠ ((.slice Ao46 t280.length co46) : Value).ownBlock) (.slice Ao57 t288.length co57) t288) ∧ Aside0 (wc.heap[gb264]? = some (.cells #[(.slice A0_0 l0_0.length c0_0)] 24 (0, 0))) ∧ Aside0 (wc.heap[gb265]? = some (.cells #[.int .i64 a1_0, .string a1_1, .string a1_2, .string a1_3] 52 (0, 0))) ∧ Aside0 (wc.heap[gb279]? = some (.cells #[(.slice Ao40 t275.length co40)] 29 (0, 0))) ∧ Aside0 (wc.heap[gb283]? = some (.cells #[(.slice Ao46 t280.length co46)] 29 (0, 0))) ∧ Aside0 (wc.heap[gb292]? = some (.cells #[(.slice Ao57 t288.length co57)] 29 (0, 0))) ∧ Aside0 (Below w.heap.size w wc))
   case first =>
    have H := HC86.out
    clear HC86
    by_cases c97 : t298 < 0
    ·
     rw [if_pos c97] at H
     have c97b0 : decide (t298 < 0) = true := decide_eq_true c97
     clear c97
     (first | rw [c97b0] | (simp only [i64_w, i32_w]; rw [c97b0]) | skip)
     have H' := Aside0.mk H
     clear H
     go_wp2
     go_meet
     case rel => exact ⟨_, (true), SD, H', ⟨by have := HJ24.out; first | omega | exact Nat.le_refl _⟩, ⟨by (with_reducible repeat (first | apply r1 | apply r2 | apply r3)); exact Kd.R_mono HO_280000.out (fun _ hk => ⟨hk.1, hk.2.1⟩)⟩, ⟨by (with_reducible repeat (first | apply r1 | apply r2 | apply r3)); exact Kd.R_mono HO_284000.out (fun _ hk => ⟨hk.1.1, hk.1.2⟩)⟩, ⟨by (with_reducible repeat (first | apply r1 | apply r2 | apply r3)); exact Kd.R_mono HO_293000.out (fun _ hk => ⟨hk.1, hk.2.1⟩)⟩, ⟨BQ BK264.out⟩, ⟨BQ BK265.out⟩, ⟨BQ BK279.out⟩, ⟨BQ BK283.out⟩, ⟨BQ BK292.out⟩, ⟨BL⟩⟩
    rw [if_neg c97] at H
    have c97b0 : decide (t298 < 0) = false := decide_eq_false c97
    clear c97
    (first | rw [c97b0] | (simp only [i64_w, i32_w]; rw [c97b0]) | skip)
    replace H := Option.bind_eq_some_iff.mp H
    obtain ⟨t300, A980, H⟩ := H
    replace H : (if t300 = true then (laws_FnExactDoAct.j1 kj24 t278 (t291 != t278) l0_0 a1_0 a1_1 a1_2 a1_3 t275 t288) else (laws_FnExactDoAct.j1 kj24 t278 true l0_0 a1_0 a1_1 a1_2 a1_3 t275 t288)) = some r := H
    have A98 := Aside0.mk A980
    clear A980
    by_cases c99 : t300 = true
    ·
     subst c99
     have H1 : (laws_FnExactDoAct.j1 kj24 t278 (t291 != t278) l0_0 a1_0 a1_1 a1_2 a1_3 t275 t288) = some r := by rw [if_pos rfl] at H; exact H
     clear H
     have H := H1
     clear H1
     have H' := Aside0.mk H
     clear H
     have hnb100 := NB292_264.out
     have hnc100 := NB264_292.out
     have hnb101 := NB292_265.out
     have hnc101 := NB265_292.out
     have hnb102 := NB292_279.out
     have hnc102 := NB279_292.out
     have hnb103 := NB292_283.out
     have hnc103 := NB283_292.out
     have hcz104_0 : w96.cell? ⟨gb292, 0, none⟩ = some (.slice Ao57 t288.length co57) := CZ BK292.out 0
     have hfz104_0 := blk_frozen BK292.out 0
     have hnb105 := NB279_264.out
     have hnc105 := NB264_279.out
     have hnb106 := NB279_265.out
     have hnc106 := NB265_279.out
     have hnb107 := NB279_283.out
     have hnc107 := NB283_279.out
     have hcz108_0 : w96.cell? ⟨gb279, 0, none⟩ = some (.slice Ao40 t275.length co40) := CZ BK279.out 0
     have hfz108_0 := blk_frozen BK279.out 0
     go_wp2_with (first | (go_at_call 16; (with_reducible refine (laws_eqDisk.calls kj24 _ _ t288 _ _ t275 true _ ?side1 ?side2 ?side3 ?side4 A98.out).mono ?_); (case side1 => repeat (first | exact (Kd.R_reads' HO_293000.out).2.2 | (with_reducible refine Kd.C_alloc ?_ _) | (with_reducible refine Kd.C_drewN ?_ _) | (with_reducible refine Kd.C_drew ?_))); (case side2 => exact (Kd.R_reads' HO_293000.out).2.1); (case side3 => repeat (first | exact (Kd.R_reads' HO_280000.out).2.2 | (with_reducible refine Kd.C_alloc ?_ _) | (with_reducible refine Kd.C_drewN ?_ _) | (with_reducible refine Kd.C_drew ?_))); (case side4 => exact (Kd.R_reads' HO_280000.out).2.1); rintro e w109 ⟨rfl, hb⟩; replace HO_280000 := Aside0.mk (Kd.R_below (RQ HO_280000.out) hb); replace HO_284000 := Aside0.mk (Kd.R_below (RQ HO_284000.out) hb); replace HO_293000 := Aside0.mk (Kd.R_below (RQ HO_293000.out) hb); replace HO296 := Aside0.mk (Kd.R_below (RQ HO296.out) hb); replace BK264 := BB BK264.out hb; replace BK265 := BB BK265.out hb; replace BK279 := BB BK279.out hb; replace BK283 := BB BK283.out hb; replace BK292 := BB BK292.out hb; replace HB := Aside0.mk (below_step (BL) hb); (try clear hb); (try clear hb2); (try clear hk); (try clear hi)))
     go_meet
     case rel => exact ⟨_, ((t291 != t278)), SD, H', ⟨by have := HJ24.out; first | omega | exact Nat.le_refl _⟩, ⟨by (with_reducible repeat (first | apply r1 | apply r2 | apply r3)); exact Kd.R_mono HO_280000.out (fun _ hk => ⟨hk.1, hk.2.1⟩)⟩, ⟨by (with_reducible repeat (first | apply r1 | apply r2 | apply r3)); exact Kd.R_mono HO_284000.out (fun _ hk => ⟨hk.1.1, hk.1.2⟩)⟩, ⟨by (with_reducible repeat (first | apply r1 | apply r2 | apply r3)); exact Kd.R_mono HO_293000.out (fun _ hk => ⟨hk.1, hk.2.1⟩)⟩, ⟨BQ BK264.out⟩, ⟨BQ BK265.out⟩, ⟨BQ BK279.out⟩, ⟨BQ BK283.out⟩, ⟨BQ BK292.out⟩, ⟨BL⟩⟩
    replace c99 := Bool.eq_false_iff.mpr c99
    subst c99
    have H1 : (laws_FnExactDoAct.j1 kj24 t278 true l0_0 a1_0 a1_1 a1_2 a1_3 t275 t288) = some r := by rw [if_neg (show ¬ (false = true) by decide)] at H; exact H
    clear H
    have H := H1
    clear H1
    have H' := Aside0.mk H
    clear H
    have hnb110 := NB292_264.out
    have hnc110 := NB264_292.out
    have hnb111 := NB292_265.out
    have hnc111 := NB265_292.out
    have hnb112 := NB292_279.out
    have hnc112 := NB279_292.out
    have hnb113 := NB292_283.out
    have hnc113 := NB283_292.out
    have hcz114_0 : w96.cell? ⟨gb292, 0, none⟩ = some (.slice Ao57 t288.length co57) := CZ BK292.out 0
    have hfz114_0 := blk_frozen BK292.out 0
    have hnb115 := NB279_264.out
    have hnc115 := NB264_279.out
    have hnb116 := NB279_265.out
    have hnc116 := NB265_279.out
    have hnb117 := NB279_283.out
    have hnc117 := NB283_279.out
    have hcz118_0 : w96.cell? ⟨gb279, 0, none⟩ = some (.slice Ao40 t275.length co40) := CZ BK279.out 0
    have hfz118_0 := blk_frozen BK279.out 0
    go_wp2_with (first | (go_at_call 16; (with_reducible refine (laws_eqDisk.calls kj24 _ _ t288 _ _ t275 false _ ?side1 ?side2 ?side3 ?side4 A98.out).mono ?_); (case side1 => repeat (first | exact (Kd.R_reads' HO_293000.out).2.2 | (with_reducible refine Kd.C_alloc ?_ _) | (with_reducible refine Kd.C_drewN ?_ _) | (with_reducible refine Kd.C_drew ?_))); (case side2 => exact (Kd.R_reads' HO_293000.out).2.1); (case side3 => repeat (first | exact (Kd.R_reads' HO_280000.out).2.2 | (with_reducible refine Kd.C_alloc ?_ _) | (with_reducible refine Kd.C_drewN ?_ _) | (with_reducible refine Kd.C_drew ?_))); (case side4 => exact (Kd.R_reads' HO_280000.out).2.1); rintro e w119 ⟨rfl, hb⟩; replace HO_280000 := Aside0.mk (Kd.R_below (RQ HO_280000.out) hb); replace HO_284000 := Aside0.mk (Kd.R_below (RQ HO_284000.out) hb); replace HO_293000 := Aside0.mk (Kd.R_below (RQ HO_293000.out) hb); replace HO296 := Aside0.mk (Kd.R_below (RQ HO296.out) hb); replace BK264 := BB BK264.out hb; replace BK265 := BB BK265.out hb; replace BK279 := BB BK279.out hb; replace BK283 := BB BK283.out hb; replace BK292 := BB BK292.out hb; replace HB := Aside0.mk (below_step (BL) hb); (try clear hb); (try clear hb2); (try clear hk); (try clear hi)))
    go_meet
    case rel => exact ⟨_, (true), SD, H', ⟨by have := HJ24.out; first | omega | exact Nat.le_refl _⟩, ⟨by (with_reducible repeat (first | apply r1 | apply r2 | apply r3)); exact Kd.R_mono HO_280000.out (fun _ hk => ⟨hk.1, hk.2.1⟩)⟩, ⟨by (with_reducible repeat (first | apply r1 | apply r2 | apply r3)); exact Kd.R_mono HO_284000.out (fun _ hk => ⟨hk.1.1, hk.1.2⟩)⟩, ⟨by (with_reducible repeat (first | apply r1 | apply r2 | apply r3)); exact Kd.R_mono HO_293000.out (fun _ hk => ⟨hk.1, hk.2.1⟩)⟩, ⟨BQ BK264.out⟩, ⟨BQ BK265.out⟩, ⟨BQ BK279.out⟩, ⟨BQ BK283.out⟩, ⟨BQ BK292.out⟩, ⟨BL⟩⟩
   case rest =>
    clear HC86
    try clear c1
    try clear p2
    try clear c3
    try clear c6
    try clear c7
    try clear c8
    try clear c9
    try clear c10
    try clear c11
    try clear c14
    try clear c16
    try clear c31
    try clear c36
    try clear c37
    try clear c60
    try clear c61
    try clear c62
    try clear c63
    try clear c64
    try clear c66
    try clear c67
    try clear c68
    try clear c71
    try clear c72
    try clear c73
    try clear c74
    try clear c76
    try clear c77
    try clear c78
    try clear c81
    try clear c84
    try clear c91
    try clear c92
    try clear c93
    try clear c94
    try clear c97
    try clear c97b0
    try clear c99
    try clear c100
    try clear c101
    try clear c102
    try clear c103
    try clear c105
    try clear c106
    try clear c107
    try clear c110
    try clear c111
    try clear c112
    try clear c113
    try clear c115
    try clear c116
    try clear c117
    try clear hcz104_0
    try clear hcz108_0
    try clear hcz114_0
    try clear hcz118_0
    try clear hcz65_0
    try clear hcz69_0
    try clear hcz75_0
    try clear hcz79_0
    try clear hcz95_0
    try clear hfz104_0
    try clear hfz108_0
    try clear hfz114_0
    try clear hfz118_0
    try clear hfz65_0
    try clear hfz69_0
    try clear hfz75_0
    try clear hfz79_0
    try clear hfz95_0
    try clear p2
    obtain ⟨kq, x72_85, rfl, HA, HJ85, HO_280000, HO_284000, HO_293000, BK264, BK265, BK279, BK283, BK292, HB⟩ := hcut
    have hl284000_85 := (Kd.R_reads' HO_284000.out).1
    rw [hl284000_85] at HO_284000
    (try simp only [hl284000_85])
    (try simp only [hl284000_85] at BK264)
    (try simp only [hl284000_85] at BK265)
    (try simp only [hl284000_85] at BK279)
    (try simp only [hl284000_85] at BK283)
    (try simp only [hl284000_85] at BK292)
    (try simp only [hl284000_85] at HO_280000)
    (try simp only [hl284000_85] at HO_293000)
    cases kq with
    | zero => exact absurd HA.out (by simp [laws_FnExactDoAct.j1])
    | succ kj85 =>
     have H := HA.out
     clear HA
     simp only [laws_FnExactDoAct.j1] at H
     by_cases c120 : x72_85 = true
     ·
      subst c120
      have H1 : (none) = some r := by rw [if_pos rfl] at H; exact H
      clear H
      have H := H1
      clear H1
      exact absurd H (by simp)
     replace c120 := Bool.eq_false_iff.mpr c120
     subst c120
     have H1 : ((laws_markDisk.f kj85 t288 1).bind fun bt301 => ((laws_heldDisk.f kj85 bt301.2 1).bind fun t303 => (if t303 < 0 then (none) else (if t303 = bt301.1 then ((laws_toDisk.f kj85 l0_0).bind fun t304 => ((laws_toAct.f a1_0 a1_1 a1_2 a1_3).bind fun bt307 => ((impl_DoAct.f kj85 t304 bt307.1 bt307.2.1 bt307.2.2.1 bt307.2.2.2).bind fun bt311 => ((laws_eqDisk.f kj85 bt311.1 t275).bind fun t316 => (if t316 = true then (laws_FnExactDoAct.j2 kj85 bt301.1 (bt311.2 != t278) bt301.2) else (laws_FnExactDoAct.j2 kj85 bt301.1 true bt301.2)))))) else (none))))) = some r := by rw [if_neg (show ¬ (false = true) by decide)] at H; exact H
     clear H
     have H := H1
     clear H1
     replace H := Option.bind_eq_some_iff.mp H
     obtain ⟨⟨t301, t302⟩, A1210, H⟩ := H
     replace H : ((laws_heldDisk.f kj85 t302 1).bind fun t303 => (if t303 < 0 then (none) else (if t303 = t301 then ((laws_toDisk.f kj85 l0_0).bind fun t304 => ((laws_toAct.f a1_0 a1_1 a1_2 a1_3).bind fun bt307 => ((impl_DoAct.f kj85 t304 bt307.1 bt307.2.1 bt307.2.2.1 bt307.2.2.2).bind fun bt311 => ((laws_eqDisk.f kj85 bt311.1 t275).bind fun t316 => (if t316 = true then (laws_FnExactDoAct.j2 kj85 t301 (bt311.2 != t278) t302) else (laws_FnExactDoAct.j2 kj85 t301 true t302)))))) else (none)))) = some r := H
     have A121 := Aside0.mk A1210
     clear A1210
     replace H := Option.bind_eq_some_iff.mp H
     obtain ⟨t303, A1220, H⟩ := H
     replace H : (if t303 < 0 then (none) else (if t303 = t301 then ((laws_toDisk.f kj85 l0_0).bind fun t304 => ((laws_toAct.f a1_0 a1_1 a1_2 a1_3).bind fun bt307 => ((impl_DoAct.f kj85 t304 bt307.1 bt307.2.1 bt307.2.2.1 bt307.2.2.2).bind fun bt311 => ((laws_eqDisk.f kj85 bt311.1 t275).bind fun t316 => (if t316 = true then (laws_FnExactDoAct.j2 kj85 t301 (bt311.2 != t278) t302) else (laws_FnExactDoAct.j2 kj85 t301 true t302)))))) else (none))) = some r := H
     have A122 := Aside0.mk A1220
     clear A1220
     by_cases c123 : t303 < 0
     ·
      rw [if_pos c123] at H
      exact absurd H (by simp)
     rw [if_neg c123] at H
     have c123b0 : decide (t303 < 0) = false := decide_eq_false c123
     clear c123
     by_cases c124 : t303 = t301; rotate_left
     ·
      rw [if_neg c124] at H
      exact absurd H (by simp)
     rw [if_pos c124] at H
     have c124b0 : (t303 == t301) = true := beq_iff_eq.mpr c124
     have c124b1 : (t303 != t301) = false := bne_eq_false_iff_eq.mpr c124
     clear c124
     replace H := Option.bind_eq_some_iff.mp H
     obtain ⟨t304, A1250, H⟩ := H
     replace H : ((laws_toAct.f a1_0 a1_1 a1_2 a1_3).bind fun bt307 => ((impl_DoAct.f kj85 t304 bt307.1 bt307.2.1 bt307.2.2.1 bt307.2.2.2).bind fun bt311 => ((laws_eqDisk.f kj85 bt311.1 t275).bind fun t316 => (if t316 = true then (laws_FnExactDoAct.j2 kj85 t301 (bt311.2 != t278) t302) else (laws_FnExactDoAct.j2 kj85 t301 true t302))))) = some r := H
     have A125 := Aside0.mk A1250
     clear A1250
     replace H := Option.bind_eq_some_iff.mp H
     obtain ⟨⟨t307, t308, t309, t310⟩, A1260, H⟩ := H
     replace H : ((impl_DoAct.f kj85 t304 t307 t308 t309 t310).bind fun bt311 => ((laws_eqDisk.f kj85 bt311.1 t275).bind fun t316 => (if t316 = true then (laws_FnExactDoAct.j2 kj85 t301 (bt311.2 != t278) t302) else (laws_FnExactDoAct.j2 kj85 t301 true t302)))) = some r := H
     have A126 := Aside0.mk A1260
     clear A1260
     replace H := Option.bind_eq_some_iff.mp H
     obtain ⟨⟨t311, t314⟩, A1270, H⟩ := H
     replace H : ((laws_eqDisk.f kj85 t311 t275).bind fun t316 => (if t316 = true then (laws_FnExactDoAct.j2 kj85 t301 (t314 != t278) t302) else (laws_FnExactDoAct.j2 kj85 t301 true t302))) = some r := H
     have A127 := Aside0.mk A1270
     clear A1270
     have HC128 := Aside0.mk H
     clear H
     have hnb129 := NB292_264.out
     have hnc129 := NB264_292.out
     have hnb130 := NB292_265.out
     have hnc130 := NB265_292.out
     have hnb131 := NB292_279.out
     have hnc131 := NB279_292.out
     have hnb132 := NB292_283.out
     have hnc132 := NB283_292.out
     have hcz133_0 : wc.cell? ⟨gb292, 0, none⟩ = some (.slice Ao57 t288.length co57) := CZ BK292.out 0
     have hfz133_0 := blk_frozen BK292.out 0
     try go_wp2_with (first | ((with_reducible refine gate_callee (f := 31) rfl ?_); refine goesL_ (some 75) rfl rfl Try.func31 (by kernel_rfl) rfl #[.agg #[.slice Ao57 t288.length co57], .int .i64 1] rfl (MA) ?_; (with_reducible refine (laws_markDisk.calls kj85 (fun k_ => some k_ = (.slice Ao57 t288.length co57 : Value).ownBlock) (.slice Ao57 t288.length co57) t288 1 t301 t302 w _ ?side1 ?side2 A121.out).mono ?_); (case side1 => repeat (first | (with_reducible first | exact HB.out | apply below_alloc | apply pw_below_drewN | apply below_drew1 | refine below_set ?_ GE264.out | refine below_set ?_ GE265.out | refine below_set ?_ GE279.out | refine below_set ?_ GE283.out | refine below_set ?_ GE292.out) | exact HB.out)); (case side2 => exact Kd.R_tight rfl HO_293000.out); rintro e w134 ⟨rfl, hy0, hb, hkp⟩; refine ⟨_, rfl, ?_⟩; replace HO_280000 := Aside0.mk (Kd.R_mono (ok' := fun k_ => some k_ ≠ (.slice Ao46 t299.length co46 : Value).ownBlock ∧ some k_ ≠ (.slice Ao57 t288.length co57 : Value).ownBlock) (Kd.R_keptB (HO_280000.out) hkp (fun k_ hk_ hs_ => (hk_.2) hs_)) (fun k_ hk_ => ⟨hk_.1.1, hk_.1.2⟩)); replace HO_284000 := Aside0.mk (Kd.R_mono (ok' := fun k_ => some k_ ≠ (.slice Ao40 t275.length co40 : Value).ownBlock ∧ some k_ ≠ (.slice Ao57 t288.length co57 : Value).ownBlock) (Kd.R_keptB (HO_284000.out) hkp (fun k_ hk_ hs_ => (hk_.2) hs_)) (fun k_ hk_ => ⟨hk_.1.1, hk_.1.2⟩)); replace BK264 := Aside0.mk (blk_kept (BQ BK264.out) hkp (fun hs_ => (fun e_ => (Kd.R_ne HO_293000.out BK264.out (by decide)) e_) hs_)); replace BK265 := Aside0.mk (blk_kept (BQ BK265.out) hkp (fun hs_ => (fun e_ => (Kd.R_ne HO_293000.out BK265.out (by decide)) e_) hs_)); replace BK279 := Aside0.mk (blk_kept (BQ BK279.out) hkp (fun hs_ => (fun e_ => (Kd.R_ne HO_293000.out BK279.out (by decide)) e_) hs_)); replace BK283 := Aside0.mk (blk_kept (BQ BK283.out) hkp (fun hs_ => (fun e_ => (Kd.R_ne HO_293000.out BK283.out (by decide)) e_) hs_)); replace BK292 := Aside0.mk (blk_kept (BQ BK292.out) hkp (fun hs_ => (fun e_ => (Kd.R_ne HO_293000.out BK292.out (by decide)) e_) hs_)); replace HO_293000 := Aside0.mk (Kd.R_reok rfl hy0 (fun k_ e_ => HO_293000.out.1 k_ e_)); replace HB := Aside0.mk (hb); (try clear hb); (try clear hkp); (try clear hy0); have hcz135_0 : w134.cell? ⟨gb292, 0, none⟩ = some (.slice Ao57 t288.length co57) := CZ BK292.out 0; have hfz135_0 := blk_frozen BK292.out 0) | ((with_reducible refine gate_callee (f := 33) rfl ?_); refine goesL_ (some 78) rfl rfl Try.func33 (by kernel_rfl) rfl #[.agg #[.slice Ao57 t302.length co57], .int .i64 1] rfl (by (try simp only [List.map_toArray, List.map_cons, List.map_nil]); first | done | (rw [show t302.length = t288.length from (Kd.R_reads' HO_293000.out).1.symm] <;> rfl) | rfl | (simp only [List.length_drop, List.length_take]; rfl)) ?_; (with_reducible refine (laws_heldDisk.calls kj85 _ _ t302 1 t303 _ ?side1 ?side2 A122.out).mono ?_); (case side1 => repeat (first | exact (Kd.R_reads' HO_293000.out).2.2 | (with_reducible refine Kd.C_alloc ?_ _) | (with_reducible refine Kd.C_drewN ?_ _) | (with_reducible refine Kd.C_drew ?_))); (case side2 => rw [show t302.length = t288.length from (Kd.R_reads' HO_293000.out).1.symm]; exact (Kd.R_reads' HO_293000.out).2.1); rintro e w136 ⟨rfl, hb⟩; refine ⟨_, rfl, ?_⟩; replace HO_280000 := Aside0.mk (Kd.R_below (RQ HO_280000.out) hb); replace HO_284000 := Aside0.mk (Kd.R_below (RQ HO_284000.out) hb); replace HO_293000 := Aside0.mk (Kd.R_below (RQ HO_293000.out) hb); replace BK264 := BB BK264.out hb; replace BK265 := BB BK265.out hb; replace BK279 := BB BK279.out hb; replace BK283 := BB BK283.out hb; replace BK292 := BB BK292.out hb; replace HB := Aside0.mk (below_step (BL) hb); (try clear hb); (try clear hb2); (try clear hk); (try clear hi)))
     have n0_ := Aside0.mk (Kd.R_drew HO_280000.out)
     have n1_ := Aside0.mk (Kd.R_drew HO_284000.out)
     have n2_ := Aside0.mk (Kd.R_drew HO_293000.out)
     have n3_ := Aside0.mk (blk_drew BK264.out)
     have n4_ := Aside0.mk (blk_drew BK265.out)
     have n5_ := Aside0.mk (blk_drew BK279.out)
     have n6_ := Aside0.mk (blk_drew BK283.out)
     have n7_ := Aside0.mk (blk_drew BK292.out)
     have n8_ := Aside0.mk (below_drew1 HB.out)
     clear HO_280000
     clear HO_284000
     clear HO_293000
     clear BK264
     clear BK265
     clear BK279
     clear BK283
     clear BK292
     clear HB
     have HO_280000 := n0_
     have HO_284000 := n1_
     have HO_293000 := n2_
     have BK264 := n3_
     have BK265 := n4_
     have BK279 := n5_
     have BK283 := n6_
     have BK292 := n7_
     have HB := n8_
     clear n0_ n1_ n2_ n3_ n4_ n5_ n6_ n7_ n8_
     refine start_ (n := 11) (S := fun w' => w'.cell? ⟨gb264, 0, none⟩ = some (.slice A0_0 l0_0.length c0_0) ∧ w'.cell? ⟨gb265, 0, none⟩ = some (.int .i64 a1_0) ∧ w'.cell? ⟨gb265, 1, none⟩ = some (.string a1_1) ∧ w'.cell? ⟨gb265, 2, none⟩ = some (.string a1_2) ∧ w'.cell? ⟨gb265, 3, none⟩ = some (.string a1_3)) (ds := []) #[false, false, false, false, false, false, false, false, false, false, false] (by kernel_rfl) rfl rfl ⟨CZ BK264.out 0, CZ BK265.out 0, CZ BK265.out 1, CZ BK265.out 2, CZ BK265.out 3⟩ (fun hHeld => ?_); refine with_tabW laws_FnExactDoAct.tab27 laws_FnExactDoAct.bits27 (fun HT_ HW_ => ?_)
     generalize w136.drew = w137 at HO_280000 HO_284000 HO_293000 BK264 BK265 BK279 BK283 BK292 HB hHeld ⊢
     refine take_ (i := 0) (N := some 85) (v := ?_) (a' := ?_) (OB 11 1) rfl rfl (take_ofW HT_.out HW_.out (by kernel_rfl)) (fun _ _ _ h => h) (Or.inl ⟨by rfl, ?_⟩) hHeld ?_ ?_
     rotate_left
     ·
      rintro w' ⟨s0, s1, s2, s3, s4⟩
      go_simp
      with_reducible rfl
     rotate_left
     ·
      simp only [Act.put, zA, zB, zC, i64_w, i32_w]
      rfl
     refine take_ (i := 2) (N := some 87) (v := ?_) (a' := ?_) (OB 11 5) rfl rfl (take_ofW HT_.out HW_.out (by kernel_rfl)) (fun _ _ _ h => h) (Or.inl ⟨by rfl, ?_⟩) hHeld ?_ ?_
     rotate_left
     ·
      rintro w' ⟨s0, s1, s2, s3, s4⟩
      go_simp
      with_reducible rfl
     rotate_left
     ·
      simp only [Act.put, zA, zB, zC, i64_w, i32_w]
      rfl
     refine join_ (σ := Value × Value × Nat) 2 #[true, true, true, true, true, true, true, true, true, false, false] (fun s_ => [(86, .agg #[s_.1]), (88, .agg #[.int .i64 t307, .string t308, .string t309, .string t310]), (89, .tuple #[.agg #[s_.2.1], .bool t314]), (14, .pointer (some ⟨s_.2.2, 0, none⟩)), (84, .tuple #[.agg #[s_.2.1], .bool t314]), (90, .agg #[s_.2.1]), (91, .bool t314)]) (fun s_ w' => (w'.cell? ⟨gb264, 0, none⟩ = some (.slice A0_0 l0_0.length c0_0) ∧ w'.cell? ⟨gb265, 0, none⟩ = some (.int .i64 a1_0) ∧ w'.cell? ⟨gb265, 1, none⟩ = some (.string a1_1) ∧ w'.cell? ⟨gb265, 2, none⟩ = some (.string a1_2) ∧ w'.cell? ⟨gb265, 3, none⟩ = some (.string a1_3)) ∧ (Kd.R k45 45 w' w.heap.size (fun k_ => some k_ ≠ (s_.2.1 : Value).ownBlock ∧ some k_ ≠ (.slice Ao40 t275.length co40 : Value).ownBlock ∧ some k_ ≠ (.slice Ao46 t299.length co46 : Value).ownBlock ∧ some k_ ≠ (.slice Ao57 t288.length co57 : Value).ownBlock) s_.1 t304) ∧ (Kd.R k45 45 w' w.heap.size (fun k_ => some k_ ≠ (s_.1 : Value).ownBlock ∧ some k_ ≠ (.slice Ao40 t275.length co40 : Value).ownBlock ∧ some k_ ≠ (.slice Ao46 t299.length co46 : Value).ownBlock ∧ some k_ ≠ (.slice Ao57 t288.length co57 : Value).ownBlock) s_.2.1 t311) ∧ (Kd.R k45 45 w' w.heap.size (fun k_ => some k_ ≠ (s_.1 : Value).ownBlock ∧ some k_ ≠ (s_.2.1 : Value).ownBlock ∧ some k_ ≠ (.slice Ao46 t299.length co46 : Value).ownBlock ∧ some k_ ≠ (.slice Ao57 t288.length co57 : Value).ownBlock) (.slice Ao40 t275.length co40) t275) ∧ (Kd.R k45 45 w' w.heap.size (fun k_ => some k_ ≠ (s_.1 : Value).ownBlock ∧ some k_ ≠ (s_.2.1 : Value).ownBlock ∧ some k_ ≠ (.slice Ao40 t275.length co40 : Value).ownBlock ∧ some k_ ≠ (.slice Ao57 t288.length co57 : Value).ownBlock) (.slice Ao46 t299.length co46) t299) ∧ (Kd.R k45 45 w' w.heap.size (fun k_ => some k_ ≠ (s_.1 : Value).ownBlock ∧ some k_ ≠ (s_.2.1 : Value).ownBlock ∧ some k_ ≠ (.slice Ao40 t275.length co40 : Value).ownBlock ∧ some k_ ≠ (.slice Ao46 t299.length co46 : Value).ownBlock) (.slice Ao57 t288.length co57) t302) ∧ (w'.heap[gb264]? = some (.cells #[.slice A0_0 l0_0.length c0_0] 24 (0, 0))) ∧ (w'.heap[gb265]? = some (.cells #[.int .i64 a1_0, .string a1_1, .string a1_2, .string a1_3] 52 (0, 0))) ∧ (w'.heap[gb279]? = some (.cells #[.slice Ao40 t275.length co40] 29 (0, 0))) ∧ (w'.heap[gb283]? = some (.cells #[.slice Ao46 t299.length co46] 29 (0, 0))) ∧ (w'.heap[gb292]? = some (.cells #[.slice Ao57 t288.length co57] 29 (0, 0))) ∧ (w'.heap[s_.2.2]? = some (.cells #[.slice none 0 0] 29 (0, 0))) ∧ (w.heap.size ≤ s_.2.2) ∧ (w.heap.size ≤ s_.2.2) ∧ (gb264 ≠ s_.2.2) ∧ (s_.2.2 ≠ gb264) ∧ (gb265 ≠ s_.2.2) ∧ (s_.2.2 ≠ gb265) ∧ (gb279 ≠ s_.2.2) ∧ (s_.2.2 ≠ gb279) ∧ (gb283 ≠ s_.2.2) ∧ (s_.2.2 ≠ gb283) ∧ (gb292 ≠ s_.2.2) ∧ (s_.2.2 ≠ gb292) ∧ (Below w.heap.size w w')) ?_ ?_
     rotate_left
     ·
      intro hCont
      refine two_ (i := 1) (j := 8) (Ni := some 86) (Nj := some 14) #[true, true, true, false, false, false, false, false, false, false, false] #[true, false, true, false, false, false, false, false, true, false, false] rfl rfl rfl rfl (two_of HT_.out (by kernel_rfl)) (by decide) (by decide) (fun K hK => ?_) (fun K hK => ?_)
      ·
       skip
       refine goes_ Try.func14 (by kernel_rfl) rfl #[.agg #[.slice A0_0 l0_0.length c0_0]] (by rfl) rfl rfl (MA) ?_
       with_reducible refine (laws_toDisk.calls kj85 _ _ l0_0 t304 _ ?side1 ?side2 A125.out).mono ?_
       (case side1 => repeat (first | exact (Kd.C_below HR0_0.out HB.out) | (with_reducible refine Kd.C_alloc ?_ _) | (with_reducible refine Kd.C_drewN ?_ _) | (with_reducible refine Kd.C_drew ?_)))
       (case side2 => exact HC0_0.out)
       rintro e w138 ⟨v305, rfl, ho0, hb⟩
       refine ⟨_, rfl, ?_⟩
       have n0_ := Aside0.mk (Kd.R_elder' (RQ HO_280000.out) (Kd.R_base ho0) hb)
       have n1_ := Aside0.mk (Kd.R_elder' (RQ HO_284000.out) (Kd.R_base ho0) hb)
       have n2_ := Aside0.mk (Kd.R_elder' (RQ HO_293000.out) (Kd.R_base ho0) hb)
       have n3_ := Aside0.mk (Kd.R_lower (Kd.R_new' (Kd.R_new' (Kd.R_new' ho0 (Kd.R_lt (RQ HO_280000.out))) (Kd.R_lt (RQ HO_284000.out))) (Kd.R_lt (RQ HO_293000.out))) (below_size (BL)))
       have n4_ := BB BK264.out hb
       have n5_ := BB BK265.out hb
       have n6_ := BB BK279.out hb
       have n7_ := BB BK283.out hb
       have n8_ := BB BK292.out hb
       have n9_ := Aside0.mk (below_step (BL) hb)
       clear HO_280000
       clear HO_284000
       clear HO_293000
       clear BK264
       clear BK265
       clear BK279
       clear BK283
       clear BK292
       clear HB
       have HO_280000 := n0_
       have HO_284000 := n1_
       have HO_293000 := n2_
       have HO306 := n3_
       have BK264 := n4_
       have BK265 := n5_
       have BK279 := n6_
       have BK283 := n7_
       have BK292 := n8_
       have HB := n9_
       clear n0_ n1_ n2_ n3_ n4_ n5_ n6_ n7_ n8_ n9_
       (try clear hb)
       (try clear hb2)
       (try clear hk)
       (try clear hi)
       (try clear ho0)
       refine hK.out _ _ ⟨CZ BK264.out 0, CZ BK265.out 0, CZ BK265.out 1, CZ BK265.out 2, CZ BK265.out 3⟩ (fun hHeld => ?_)
       clear hK K
       refine norm_ (a' := ?_) ?_ ?_
       rotate_left
       ·
        show Act.put _ (some 86) _ = _
        simp only [Act.put, zA, zB, zC, i64_w, i32_w]
        rfl
       refine two_ (i := 3) (j := 8) (Ni := some 88) (Nj := some 14) #[true, true, true, true, false, false, false, false, false, false, false] #[true, true, true, false, false, false, false, false, true, false, false] rfl rfl rfl rfl (two_of HT_.out (by kernel_rfl)) (by decide) (by decide) (fun K hK => ?_) (fun K hK => ?_)
       ·
        skip
        refine goes_ Try.func36 (by kernel_rfl) rfl #[.agg #[.int .i64 a1_0, .string a1_1, .string a1_2, .string a1_3]] (by rfl) rfl rfl (MA) ?_
        with_reducible refine (laws_toAct.calls a1_0 a1_1 a1_2 a1_3 t307 t308 t309 t310 _ A126.out).mono ?_
        rintro e w139 ⟨rfl, hb⟩
        refine ⟨_, rfl, ?_⟩
        have n0_ := Aside0.mk (Kd.R_below (RQ HO_280000.out) hb)
        have n1_ := Aside0.mk (Kd.R_below (RQ HO_284000.out) hb)
        have n2_ := Aside0.mk (Kd.R_below (RQ HO_293000.out) hb)
        have n3_ := Aside0.mk (Kd.R_below (RQ HO306.out) hb)
        have n4_ := BB BK264.out hb
        have n5_ := BB BK265.out hb
        have n6_ := BB BK279.out hb
        have n7_ := BB BK283.out hb
        have n8_ := BB BK292.out hb
        have n9_ := Aside0.mk (below_step (BL) hb)
        clear HO_280000
        clear HO_284000
        clear HO_293000
        clear HO306
        clear BK264
        clear BK265
        clear BK279
        clear BK283
        clear BK292
        clear HB
        have HO_280000 := n0_
        have HO_284000 := n1_
        have HO_293000 := n2_
        have HO306 := n3_
        have BK264 := n4_
        have BK265 := n5_
        have BK279 := n6_
        have BK283 := n7_
        have BK292 := n8_
        have HB := n9_
        clear n0_ n1_ n2_ n3_ n4_ n5_ n6_ n7_ n8_ n9_
        (try clear hb)
        (try clear hb2)
        (try clear hk)
        (try clear hi)
        obtain ⟨Ao140, co140, eo140⟩ := Kd.R_slice HO306.out
        (first | subst eo140 | (injection eo140 with f1_ f2_ f3_; have f4_ := f1_.symm; have f5_ := f3_.symm; clear f1_ f2_ f3_; subst f4_; subst f5_))
        refine hK.out _ _ ⟨CZ BK264.out 0, CZ BK265.out 0, CZ BK265.out 1, CZ BK265.out 2, CZ BK265.out 3⟩ (fun hHeld => ?_)
        clear hK K
        refine norm_ (a' := ?_) ?_ ?_
        rotate_left
        ·
         show Act.put _ (some 88) _ = _
         simp only [Act.put, zA, zB, zC, i64_w, i32_w]
         rfl
        refine two_ (i := 4) (j := 8) (Ni := some 89) (Nj := some 14) #[true, true, true, true, true, false, false, false, false, false, false] #[true, true, true, true, false, false, false, false, true, false, false] rfl rfl rfl rfl (two_of HT_.out (by kernel_rfl)) (by decide) (by decide) (fun K hK => ?_) (fun K hK => ?_)
        ·
         skip
         refine goes_ Try.func37 (by kernel_rfl) rfl #[.agg #[.slice Ao140 t304.length co140], .agg #[.int .i64 t307, .string t308, .string t309, .string t310]] (by rfl) rfl rfl (MA) ?_
         with_reducible refine (impl_DoAct.calls kj85 _ _ t304 t307 t308 t309 t310 t311 t314 _ ?side1 ?side2 A127.out).mono ?_
         (case side1 => repeat (first | exact (Kd.R_reads' HO306.out).2.2 | (with_reducible refine Kd.C_alloc ?_ _) | (with_reducible refine Kd.C_drewN ?_ _) | (with_reducible refine Kd.C_drew ?_)))
         (case side2 => exact (Kd.R_reads' HO306.out).2.1)
         rintro e w141 ⟨v312, rfl, ho0, hb⟩
         refine ⟨_, rfl, ?_⟩
         have n0_ := Aside0.mk (Kd.R_elder' (RQ HO_280000.out) (Kd.R_base ho0) hb)
         have n1_ := Aside0.mk (Kd.R_elder' (RQ HO_284000.out) (Kd.R_base ho0) hb)
         have n2_ := Aside0.mk (Kd.R_elder' (RQ HO_293000.out) (Kd.R_base ho0) hb)
         have n3_ := Aside0.mk (Kd.R_elder' (RQ HO306.out) (Kd.R_base ho0) hb)
         have n4_ := Aside0.mk (Kd.R_lower (Kd.R_new' (Kd.R_new' (Kd.R_new' (Kd.R_new' ho0 (Kd.R_lt (RQ HO_280000.out))) (Kd.R_lt (RQ HO_284000.out))) (Kd.R_lt (RQ HO_293000.out))) (Kd.R_lt (RQ HO306.out))) (below_size (BL)))
         have n5_ := BB BK264.out hb
         have n6_ := BB BK265.out hb
         have n7_ := BB BK279.out hb
         have n8_ := BB BK283.out hb
         have n9_ := BB BK292.out hb
         have n10_ := Aside0.mk (below_step (BL) hb)
         clear HO_280000
         clear HO_284000
         clear HO_293000
         clear HO306
         clear BK264
         clear BK265
         clear BK279
         clear BK283
         clear BK292
         clear HB
         have HO_280000 := n0_
         have HO_284000 := n1_
         have HO_293000 := n2_
         have HO306 := n3_
         have HO313 := n4_
         have BK264 := n5_
         have BK265 := n6_
         have BK279 := n7_
         have BK283 := n8_
         have BK292 := n9_
         have HB := n10_
         clear n0_ n1_ n2_ n3_ n4_ n5_ n6_ n7_ n8_ n9_ n10_
         (try clear hb)
         (try clear hb2)
         (try clear hk)
         (try clear hi)
         (try clear ho0)
         refine hK.out _ _ ⟨CZ BK264.out 0, CZ BK265.out 0, CZ BK265.out 1, CZ BK265.out 2, CZ BK265.out 3⟩ (fun hHeld => ?_)
         clear hK K
         refine norm_ (a' := ?_) ?_ ?_
         rotate_left
         ·
          show Act.put _ (some 89) _ = _
          simp only [Act.put, zA, zB, zC, i64_w, i32_w]
          rfl
         refine pV 5 84 (OB 11 63) ?_
         refine pV 6 90 (OB 11 127) ?_
         refine pV 7 91 (OB 11 255) ?_
         refine one_ (i := 8) (N := some 14) (OB 11 511) rfl rfl (one_of HT_.out (by kernel_rfl)) (by decide) (fun K hK => ?_)
         refine box_step ?hg (N := 14) ?hd (cs := #[.slice none 0 0]) (t := 29) ?hr ?_; (case hd => rfl); (case hg => rfl); (case hr => first | (go_simp; done) | (go_simp; rfl))
         intro gb315 hg w142 hbox hb
         have n0_ := Aside0.mk (Kd.R_below (RQ HO_280000.out) hb)
         have n1_ := Aside0.mk (Kd.R_below (RQ HO_284000.out) hb)
         have n2_ := Aside0.mk (Kd.R_below (RQ HO_293000.out) hb)
         have n3_ := Aside0.mk (Kd.R_below (RQ HO306.out) hb)
         have n4_ := Aside0.mk (Kd.R_below (RQ HO313.out) hb)
         have n5_ := BB BK264.out hb
         have n6_ := BB BK265.out hb
         have n7_ := BB BK279.out hb
         have n8_ := BB BK283.out hb
         have n9_ := BB BK292.out hb
         have n10_ := Aside0.mk (below_step (BL) hb)
         have n11_ := Aside0.mk (hbox)
         have n12_ : Aside0 (w.heap.size ≤ gb315) := GS
         have n13_ : Aside0 (w.heap.size ≤ gb315) := GS
         have n14_ := NL BK264.out hg
         have n15_ := NG BK264.out hg
         have n16_ := NL BK265.out hg
         have n17_ := NG BK265.out hg
         have n18_ := NL BK279.out hg
         have n19_ := NG BK279.out hg
         have n20_ := NL BK283.out hg
         have n21_ := NG BK283.out hg
         have n22_ := NL BK292.out hg
         have n23_ := NG BK292.out hg
         clear HO_280000
         clear HO_284000
         clear HO_293000
         clear HO306
         clear HO313
         clear BK264
         clear BK265
         clear BK279
         clear BK283
         clear BK292
         clear HB
         have HO_280000 := n0_
         have HO_284000 := n1_
         have HO_293000 := n2_
         have HO306 := n3_
         have HO313 := n4_
         have BK264 := n5_
         have BK265 := n6_
         have BK279 := n7_
         have BK283 := n8_
         have BK292 := n9_
         have HB := n10_
         have BK315 := n11_
         have GW315 := n12_
         have GE315 := n13_
         have NB264_315 := n14_
         have NB315_264 := n15_
         have NB265_315 := n16_
         have NB315_265 := n17_
         have NB279_315 := n18_
         have NB315_279 := n19_
         have NB283_315 := n20_
         have NB315_283 := n21_
         have NB292_315 := n22_
         have NB315_292 := n23_
         clear n0_ n1_ n2_ n3_ n4_ n5_ n6_ n7_ n8_ n9_ n10_ n11_ n12_ n13_ n14_ n15_ n16_ n17_ n18_ n19_ n20_ n21_ n22_ n23_
         clear hb hbox hg
         refine hK.out _ _ ⟨CZ BK264.out 0, CZ BK265.out 0, CZ BK265.out 1, CZ BK265.out 2, CZ BK265.out 3⟩ (fun hHeld => ?_)
         clear hK K
         refine norm_ (a' := ?_) ?_ ?_
         rotate_left
         ·
          show Act.put _ (some 14) _ = _
          simp only [Act.put, zA, zB, zC, i64_w, i32_w]
          rfl
         exact norm_ (by simp only [putAll, Act.put, zA, zB, zC]) (hCont (.slice Ao140 t304.length co140, v312, gb315) _ ⟨hHeld, (by (with_reducible repeat (first | apply r1 | apply r2 | apply r3)); exact Kd.R_mono HO306.out (fun _ hk => ⟨hk.2, ⟨hk.1.1.1.2, ⟨hk.1.1.2, hk.1.2⟩⟩⟩)), (by (with_reducible repeat (first | apply r1 | apply r2 | apply r3)); exact Kd.R_mono HO313.out (fun _ hk => ⟨hk.2, ⟨hk.1.1.1.2, ⟨hk.1.1.2, hk.1.2⟩⟩⟩)), (by (with_reducible repeat (first | apply r1 | apply r2 | apply r3)); exact Kd.R_mono HO_280000.out (fun _ hk => ⟨hk.1.2, ⟨hk.2, ⟨hk.1.1.1, hk.1.1.2⟩⟩⟩)), (by (with_reducible repeat (first | apply r1 | apply r2 | apply r3)); exact Kd.R_mono HO_284000.out (fun _ hk => ⟨hk.1.2, ⟨hk.2, ⟨hk.1.1.1, hk.1.1.2⟩⟩⟩)), (by (with_reducible repeat (first | apply r1 | apply r2 | apply r3)); exact Kd.R_mono HO_293000.out (fun _ hk => ⟨hk.1.2, ⟨hk.2, ⟨hk.1.1.1, hk.1.1.2⟩⟩⟩)), (BQ BK264.out), (BQ BK265.out), (BQ BK279.out), (BQ BK283.out), (BQ BK292.out), (BQ BK315.out), GW315.out, GE315.out, NB264_315.out, NB315_264.out, NB265_315.out, NB315_265.out, NB279_315.out, NB315_279.out, NB283_315.out, NB315_283.out, NB292_315.out, NB315_292.out, (BL)⟩)
        ·
         skip
         refine box_step ?hg (N := 14) ?hd (cs := #[.slice none 0 0]) (t := 29) ?hr ?_; (case hd => rfl); (case hg => rfl); (case hr => first | (go_simp; done) | (go_simp; rfl))
         intro gb315 hg w140 hbox hb
         have n0_ := Aside0.mk (Kd.R_below (RQ HO_280000.out) hb)
         have n1_ := Aside0.mk (Kd.R_below (RQ HO_284000.out) hb)
         have n2_ := Aside0.mk (Kd.R_below (RQ HO_293000.out) hb)
         have n3_ := Aside0.mk (Kd.R_below (RQ HO306.out) hb)
         have n4_ := BB BK264.out hb
         have n5_ := BB BK265.out hb
         have n6_ := BB BK279.out hb
         have n7_ := BB BK283.out hb
         have n8_ := BB BK292.out hb
         have n9_ := Aside0.mk (below_step (BL) hb)
         have n10_ := Aside0.mk (hbox)
         have n11_ : Aside0 (w.heap.size ≤ gb315) := GS
         have n12_ : Aside0 (w.heap.size ≤ gb315) := GS
         have n13_ := NL BK264.out hg
         have n14_ := NG BK264.out hg
         have n15_ := NL BK265.out hg
         have n16_ := NG BK265.out hg
         have n17_ := NL BK279.out hg
         have n18_ := NG BK279.out hg
         have n19_ := NL BK283.out hg
         have n20_ := NG BK283.out hg
         have n21_ := NL BK292.out hg
         have n22_ := NG BK292.out hg
         clear HO_280000
         clear HO_284000
         clear HO_293000
         clear HO306
         clear BK264
         clear BK265
         clear BK279
         clear BK283
         clear BK292
         clear HB
         have HO_280000 := n0_
         have HO_284000 := n1_
         have HO_293000 := n2_
         have HO306 := n3_
         have BK264 := n4_
         have BK265 := n5_
         have BK279 := n6_
         have BK283 := n7_
         have BK292 := n8_
         have HB := n9_
         have BK315 := n10_
         have GW315 := n11_
         have GE315 := n12_
         have NB264_315 := n13_
         have NB315_264 := n14_
         have NB265_315 := n15_
         have NB315_265 := n16_
         have NB279_315 := n17_
         have NB315_279 := n18_
         have NB283_315 := n19_
         have NB315_283 := n20_
         have NB292_315 := n21_
         have NB315_292 := n22_
         clear n0_ n1_ n2_ n3_ n4_ n5_ n6_ n7_ n8_ n9_ n10_ n11_ n12_ n13_ n14_ n15_ n16_ n17_ n18_ n19_ n20_ n21_ n22_
         clear hb hbox hg
         obtain ⟨Ao141, co141, eo141⟩ := Kd.R_slice HO306.out
         (first | subst eo141 | (injection eo141 with f1_ f2_ f3_; have f4_ := f1_.symm; have f5_ := f3_.symm; clear f1_ f2_ f3_; subst f4_; subst f5_))
         refine hK.out _ _ ⟨CZ BK264.out 0, CZ BK265.out 0, CZ BK265.out 1, CZ BK265.out 2, CZ BK265.out 3⟩ (fun hHeld => ?_)
         clear hK K
         refine norm_ (a' := ?_) ?_ ?_
         rotate_left
         ·
          show Act.put _ (some 14) _ = _
          simp only [Act.put, zA, zB, zC, i64_w, i32_w]
          rfl
         refine one_ (i := 4) (N := some 89) (OB 11 287) rfl rfl (one_of HT_.out (by kernel_rfl)) (by decide) (fun K hK => ?_)
         refine goes_ Try.func37 (by kernel_rfl) rfl #[.agg #[.slice Ao141 t304.length co141], .agg #[.int .i64 t307, .string t308, .string t309, .string t310]] (by rfl) rfl rfl (MA) ?_
         with_reducible refine (impl_DoAct.calls kj85 _ _ t304 t307 t308 t309 t310 t311 t314 _ ?side1 ?side2 A127.out).mono ?_
         (case side1 => repeat (first | exact (Kd.R_reads' HO306.out).2.2 | (with_reducible refine Kd.C_alloc ?_ _) | (with_reducible refine Kd.C_drewN ?_ _) | (with_reducible refine Kd.C_drew ?_)))
         (case side2 => exact (Kd.R_reads' HO306.out).2.1)
         rintro e w142 ⟨v312, rfl, ho0, hb⟩
         refine ⟨_, rfl, ?_⟩
         have n0_ := Aside0.mk (Kd.R_elder' (RQ HO_280000.out) (Kd.R_base ho0) hb)
         have n1_ := Aside0.mk (Kd.R_elder' (RQ HO_284000.out) (Kd.R_base ho0) hb)
         have n2_ := Aside0.mk (Kd.R_elder' (RQ HO_293000.out) (Kd.R_base ho0) hb)
         have n3_ := Aside0.mk (Kd.R_elder' (RQ HO306.out) (Kd.R_base ho0) hb)
         have n4_ := Aside0.mk (Kd.R_lower (Kd.R_new' (Kd.R_new' (Kd.R_new' (Kd.R_new' ho0 (Kd.R_lt (RQ HO_280000.out))) (Kd.R_lt (RQ HO_284000.out))) (Kd.R_lt (RQ HO_293000.out))) (Kd.R_lt (RQ HO306.out))) (below_size (BL)))
         have n5_ := BB BK264.out hb
         have n6_ := BB BK265.out hb
         have n7_ := BB BK279.out hb
         have n8_ := BB BK283.out hb
         have n9_ := BB BK292.out hb
         have n10_ := BB BK315.out hb
         have n11_ := Aside0.mk (below_step (BL) hb)
         clear HO_280000
         clear HO_284000
         clear HO_293000
         clear HO306
         clear BK264
         clear BK265
         clear BK279
         clear BK283
         clear BK292
         clear BK315
         clear HB
         have HO_280000 := n0_
         have HO_284000 := n1_
         have HO_293000 := n2_
         have HO306 := n3_
         have HO313 := n4_
         have BK264 := n5_
         have BK265 := n6_
         have BK279 := n7_
         have BK283 := n8_
         have BK292 := n9_
         have BK315 := n10_
         have HB := n11_
         clear n0_ n1_ n2_ n3_ n4_ n5_ n6_ n7_ n8_ n9_ n10_ n11_
         (try clear hb)
         (try clear hb2)
         (try clear hk)
         (try clear hi)
         (try clear ho0)
         refine hK.out _ _ ⟨CZ BK264.out 0, CZ BK265.out 0, CZ BK265.out 1, CZ BK265.out 2, CZ BK265.out 3⟩ (fun hHeld => ?_)
         clear hK K
         refine norm_ (a' := ?_) ?_ ?_
         rotate_left
         ·
          show Act.put _ (some 89) _ = _
          simp only [Act.put, zA, zB, zC, i64_w, i32_w]
          rfl
         refine pV 5 84 (OB 11 319) ?_
         refine pV 6 90 (OB 11 383) ?_
         refine pV 7 91 (OB 11 511) ?_
         exact norm_ (by simp only [putAll, Act.put, zA, zB, zC]) (hCont (.slice Ao141 t304.length co141, v312, gb315) _ ⟨hHeld, (by (with_reducible repeat (first | apply r1 | apply r2 | apply r3)); exact Kd.R_mono HO306.out (fun _ hk => ⟨hk.2, ⟨hk.1.1.1.2, ⟨hk.1.1.2, hk.1.2⟩⟩⟩)), (by (with_reducible repeat (first | apply r1 | apply r2 | apply r3)); exact Kd.R_mono HO313.out (fun _ hk => ⟨hk.2, ⟨hk.1.1.1.2, ⟨hk.1.1.2, hk.1.2⟩⟩⟩)), (by (with_reducible repeat (first | apply r1 | apply r2 | apply r3)); exact Kd.R_mono HO_280000.out (fun _ hk => ⟨hk.1.2, ⟨hk.2, ⟨hk.1.1.1, hk.1.1.2⟩⟩⟩)), (by (with_reducible repeat (first | apply r1 | apply r2 | apply r3)); exact Kd.R_mono HO_284000.out (fun _ hk => ⟨hk.1.2, ⟨hk.2, ⟨hk.1.1.1, hk.1.1.2⟩⟩⟩)), (by (with_reducible repeat (first | apply r1 | apply r2 | apply r3)); exact Kd.R_mono HO_293000.out (fun _ hk => ⟨hk.1.2, ⟨hk.2, ⟨hk.1.1.1, hk.1.1.2⟩⟩⟩)), (BQ BK264.out), (BQ BK265.out), (BQ BK279.out), (BQ BK283.out), (BQ BK292.out), (BQ BK315.out), GW315.out, GE315.out, NB264_315.out, NB315_264.out, NB265_315.out, NB315_265.out, NB279_315.out, NB315_279.out, NB283_315.out, NB315_283.out, NB292_315.out, NB315_292.out, (BL)⟩)
       ·
        skip
        refine box_step ?hg (N := 14) ?hd (cs := #[.slice none 0 0]) (t := 29) ?hr ?_; (case hd => rfl); (case hg => rfl); (case hr => first | (go_simp; done) | (go_simp; rfl))
        intro gb315 hg w139 hbox hb
        have n0_ := Aside0.mk (Kd.R_below (RQ HO_280000.out) hb)
        have n1_ := Aside0.mk (Kd.R_below (RQ HO_284000.out) hb)
        have n2_ := Aside0.mk (Kd.R_below (RQ HO_293000.out) hb)
        have n3_ := Aside0.mk (Kd.R_below (RQ HO306.out) hb)
        have n4_ := BB BK264.out hb
        have n5_ := BB BK265.out hb
        have n6_ := BB BK279.out hb
        have n7_ := BB BK283.out hb
        have n8_ := BB BK292.out hb
        have n9_ := Aside0.mk (below_step (BL) hb)
        have n10_ := Aside0.mk (hbox)
        have n11_ : Aside0 (w.heap.size ≤ gb315) := GS
        have n12_ : Aside0 (w.heap.size ≤ gb315) := GS
        have n13_ := NL BK264.out hg
        have n14_ := NG BK264.out hg
        have n15_ := NL BK265.out hg
        have n16_ := NG BK265.out hg
        have n17_ := NL BK279.out hg
        have n18_ := NG BK279.out hg
        have n19_ := NL BK283.out hg
        have n20_ := NG BK283.out hg
        have n21_ := NL BK292.out hg
        have n22_ := NG BK292.out hg
        clear HO_280000
        clear HO_284000
        clear HO_293000
        clear HO306
        clear BK264
        clear BK265
        clear BK279
        clear BK283
        clear BK292
        clear HB
        have HO_280000 := n0_
        have HO_284000 := n1_
        have HO_293000 := n2_
        have HO306 := n3_
        have BK264 := n4_
        have BK265 := n5_
        have BK279 := n6_
        have BK283 := n7_
        have BK292 := n8_
        have HB := n9_
        have BK315 := n10_
        have GW315 := n11_
        have GE315 := n12_
        have NB264_315 := n13_
        have NB315_264 := n14_
        have NB265_315 := n15_
        have NB315_265 := n16_
        have NB279_315 := n17_
        have NB315_279 := n18_
        have NB283_315 := n19_
        have NB315_283 := n20_
        have NB292_315 := n21_
        have NB315_292 := n22_
        clear n0_ n1_ n2_ n3_ n4_ n5_ n6_ n7_ n8_ n9_ n10_ n11_ n12_ n13_ n14_ n15_ n16_ n17_ n18_ n19_ n20_ n21_ n22_
        clear hb hbox hg
        refine hK.out _ _ ⟨CZ BK264.out 0, CZ BK265.out 0, CZ BK265.out 1, CZ BK265.out 2, CZ BK265.out 3⟩ (fun hHeld => ?_)
        clear hK K
        refine norm_ (a' := ?_) ?_ ?_
        rotate_left
        ·
         show Act.put _ (some 14) _ = _
         simp only [Act.put, zA, zB, zC, i64_w, i32_w]
         rfl
        refine one_ (i := 3) (N := some 88) (OB 11 271) rfl rfl (one_of HT_.out (by kernel_rfl)) (by decide) (fun K hK => ?_)
        refine goes_ Try.func36 (by kernel_rfl) rfl #[.agg #[.int .i64 a1_0, .string a1_1, .string a1_2, .string a1_3]] (by rfl) rfl rfl (MA) ?_
        with_reducible refine (laws_toAct.calls a1_0 a1_1 a1_2 a1_3 t307 t308 t309 t310 _ A126.out).mono ?_
        rintro e w140 ⟨rfl, hb⟩
        refine ⟨_, rfl, ?_⟩
        have n0_ := Aside0.mk (Kd.R_below (RQ HO_280000.out) hb)
        have n1_ := Aside0.mk (Kd.R_below (RQ HO_284000.out) hb)
        have n2_ := Aside0.mk (Kd.R_below (RQ HO_293000.out) hb)
        have n3_ := Aside0.mk (Kd.R_below (RQ HO306.out) hb)
        have n4_ := BB BK264.out hb
        have n5_ := BB BK265.out hb
        have n6_ := BB BK279.out hb
        have n7_ := BB BK283.out hb
        have n8_ := BB BK292.out hb
        have n9_ := BB BK315.out hb
        have n10_ := Aside0.mk (below_step (BL) hb)
        clear HO_280000
        clear HO_284000
        clear HO_293000
        clear HO306
        clear BK264
        clear BK265
        clear BK279
        clear BK283
        clear BK292
        clear BK315
        clear HB
        have HO_280000 := n0_
        have HO_284000 := n1_
        have HO_293000 := n2_
        have HO306 := n3_
        have BK264 := n4_
        have BK265 := n5_
        have BK279 := n6_
        have BK283 := n7_
        have BK292 := n8_
        have BK315 := n9_
        have HB := n10_
        clear n0_ n1_ n2_ n3_ n4_ n5_ n6_ n7_ n8_ n9_ n10_
        (try clear hb)
        (try clear hb2)
        (try clear hk)
        (try clear hi)
        obtain ⟨Ao141, co141, eo141⟩ := Kd.R_slice HO306.out
        (first | subst eo141 | (injection eo141 with f1_ f2_ f3_; have f4_ := f1_.symm; have f5_ := f3_.symm; clear f1_ f2_ f3_; subst f4_; subst f5_))
        refine hK.out _ _ ⟨CZ BK264.out 0, CZ BK265.out 0, CZ BK265.out 1, CZ BK265.out 2, CZ BK265.out 3⟩ (fun hHeld => ?_)
        clear hK K
        refine norm_ (a' := ?_) ?_ ?_
        rotate_left
        ·
         show Act.put _ (some 88) _ = _
         simp only [Act.put, zA, zB, zC, i64_w, i32_w]
         rfl
        refine one_ (i := 4) (N := some 89) (OB 11 287) rfl rfl (one_of HT_.out (by kernel_rfl)) (by decide) (fun K hK => ?_)
        refine goes_ Try.func37 (by kernel_rfl) rfl #[.agg #[.slice Ao141 t304.length co141], .agg #[.int .i64 t307, .string t308, .string t309, .string t310]] (by rfl) rfl rfl (MA) ?_
        with_reducible refine (impl_DoAct.calls kj85 _ _ t304 t307 t308 t309 t310 t311 t314 _ ?side1 ?side2 A127.out).mono ?_
        (case side1 => repeat (first | exact (Kd.R_reads' HO306.out).2.2 | (with_reducible refine Kd.C_alloc ?_ _) | (with_reducible refine Kd.C_drewN ?_ _) | (with_reducible refine Kd.C_drew ?_)))
        (case side2 => exact (Kd.R_reads' HO306.out).2.1)
        rintro e w142 ⟨v312, rfl, ho0, hb⟩
        refine ⟨_, rfl, ?_⟩
        have n0_ := Aside0.mk (Kd.R_elder' (RQ HO_280000.out) (Kd.R_base ho0) hb)
        have n1_ := Aside0.mk (Kd.R_elder' (RQ HO_284000.out) (Kd.R_base ho0) hb)
        have n2_ := Aside0.mk (Kd.R_elder' (RQ HO_293000.out) (Kd.R_base ho0) hb)
        have n3_ := Aside0.mk (Kd.R_elder' (RQ HO306.out) (Kd.R_base ho0) hb)
        have n4_ := Aside0.mk (Kd.R_lower (Kd.R_new' (Kd.R_new' (Kd.R_new' (Kd.R_new' ho0 (Kd.R_lt (RQ HO_280000.out))) (Kd.R_lt (RQ HO_284000.out))) (Kd.R_lt (RQ HO_293000.out))) (Kd.R_lt (RQ HO306.out))) (below_size (BL)))
        have n5_ := BB BK264.out hb
        have n6_ := BB BK265.out hb
        have n7_ := BB BK279.out hb
        have n8_ := BB BK283.out hb
        have n9_ := BB BK292.out hb
        have n10_ := BB BK315.out hb
        have n11_ := Aside0.mk (below_step (BL) hb)
        clear HO_280000
        clear HO_284000
        clear HO_293000
        clear HO306
        clear BK264
        clear BK265
        clear BK279
        clear BK283
        clear BK292
        clear BK315
        clear HB
        have HO_280000 := n0_
        have HO_284000 := n1_
        have HO_293000 := n2_
        have HO306 := n3_
        have HO313 := n4_
        have BK264 := n5_
        have BK265 := n6_
        have BK279 := n7_
        have BK283 := n8_
        have BK292 := n9_
        have BK315 := n10_
        have HB := n11_
        clear n0_ n1_ n2_ n3_ n4_ n5_ n6_ n7_ n8_ n9_ n10_ n11_
        (try clear hb)
        (try clear hb2)
        (try clear hk)
        (try clear hi)
        (try clear ho0)
        refine hK.out _ _ ⟨CZ BK264.out 0, CZ BK265.out 0, CZ BK265.out 1, CZ BK265.out 2, CZ BK265.out 3⟩ (fun hHeld => ?_)
        clear hK K
        refine norm_ (a' := ?_) ?_ ?_
        rotate_left
        ·
         show Act.put _ (some 89) _ = _
         simp only [Act.put, zA, zB, zC, i64_w, i32_w]
         rfl
        refine pV 5 84 (OB 11 319) ?_
        refine pV 6 90 (OB 11 383) ?_
        refine pV 7 91 (OB 11 511) ?_
        exact norm_ (by simp only [putAll, Act.put, zA, zB, zC]) (hCont (.slice Ao141 t304.length co141, v312, gb315) _ ⟨hHeld, (by (with_reducible repeat (first | apply r1 | apply r2 | apply r3)); exact Kd.R_mono HO306.out (fun _ hk => ⟨hk.2, ⟨hk.1.1.1.2, ⟨hk.1.1.2, hk.1.2⟩⟩⟩)), (by (with_reducible repeat (first | apply r1 | apply r2 | apply r3)); exact Kd.R_mono HO313.out (fun _ hk => ⟨hk.2, ⟨hk.1.1.1.2, ⟨hk.1.1.2, hk.1.2⟩⟩⟩)), (by (with_reducible repeat (first | apply r1 | apply r2 | apply r3)); exact Kd.R_mono HO_280000.out (fun _ hk => ⟨hk.1.2, ⟨hk.2, ⟨hk.1.1.1, hk.1.1.2⟩⟩⟩)), (by (with_reducible repeat (first | apply r1 | apply r2 | apply r3)); exact Kd.R_mono HO_284000.out (fun _ hk => ⟨hk.1.2, ⟨hk.2, ⟨hk.1.1.1, hk.1.1.2⟩⟩⟩)), (by (with_reducible repeat (first | apply r1 | apply r2 | apply r3)); exact Kd.R_mono HO_293000.out (fun _ hk => ⟨hk.1.2, ⟨hk.2, ⟨hk.1.1.1, hk.1.1.2⟩⟩⟩)), (BQ BK264.out), (BQ BK265.out), (BQ BK279.out), (BQ BK283.out), (BQ BK292.out), (BQ BK315.out), GW315.out, GE315.out, NB264_315.out, NB315_264.out, NB265_315.out, NB315_265.out, NB279_315.out, NB315_279.out, NB283_315.out, NB315_283.out, NB292_315.out, NB315_292.out, (BL)⟩)
      ·
       skip
       refine box_step ?hg (N := 14) ?hd (cs := #[.slice none 0 0]) (t := 29) ?hr ?_; (case hd => rfl); (case hg => rfl); (case hr => first | (go_simp; done) | (go_simp; rfl))
       intro gb315 hg w138 hbox hb
       have n0_ := Aside0.mk (Kd.R_below (RQ HO_280000.out) hb)
       have n1_ := Aside0.mk (Kd.R_below (RQ HO_284000.out) hb)
       have n2_ := Aside0.mk (Kd.R_below (RQ HO_293000.out) hb)
       have n3_ := BB BK264.out hb
       have n4_ := BB BK265.out hb
       have n5_ := BB BK279.out hb
       have n6_ := BB BK283.out hb
       have n7_ := BB BK292.out hb
       have n8_ := Aside0.mk (below_step (BL) hb)
       have n9_ := Aside0.mk (hbox)
       have n10_ : Aside0 (w.heap.size ≤ gb315) := GS
       have n11_ : Aside0 (w.heap.size ≤ gb315) := GS
       have n12_ := NL BK264.out hg
       have n13_ := NG BK264.out hg
       have n14_ := NL BK265.out hg
       have n15_ := NG BK265.out hg
       have n16_ := NL BK279.out hg
       have n17_ := NG BK279.out hg
       have n18_ := NL BK283.out hg
       have n19_ := NG BK283.out hg
       have n20_ := NL BK292.out hg
       have n21_ := NG BK292.out hg
       clear HO_280000
       clear HO_284000
       clear HO_293000
       clear BK264
       clear BK265
       clear BK279
       clear BK283
       clear BK292
       clear HB
       have HO_280000 := n0_
       have HO_284000 := n1_
       have HO_293000 := n2_
       have BK264 := n3_
       have BK265 := n4_
       have BK279 := n5_
       have BK283 := n6_
       have BK292 := n7_
       have HB := n8_
       have BK315 := n9_
       have GW315 := n10_
       have GE315 := n11_
       have NB264_315 := n12_
       have NB315_264 := n13_
       have NB265_315 := n14_
       have NB315_265 := n15_
       have NB279_315 := n16_
       have NB315_279 := n17_
       have NB283_315 := n18_
       have NB315_283 := n19_
       have NB292_315 := n20_
       have NB315_292 := n21_
       clear n0_ n1_ n2_ n3_ n4_ n5_ n6_ n7_ n8_ n9_ n10_ n11_ n12_ n13_ n14_ n15_ n16_ n17_ n18_ n19_ n20_ n21_
       clear hb hbox hg
       refine hK.out _ _ ⟨CZ BK264.out 0, CZ BK265.out 0, CZ BK265.out 1, CZ BK265.out 2, CZ BK265.out 3⟩ (fun hHeld => ?_)
       clear hK K
       refine norm_ (a' := ?_) ?_ ?_
       rotate_left
       ·
        show Act.put _ (some 14) _ = _
        simp only [Act.put, zA, zB, zC, i64_w, i32_w]
        rfl
       refine one_ (i := 1) (N := some 86) (OB 11 263) rfl rfl (one_of HT_.out (by kernel_rfl)) (by decide) (fun K hK => ?_)
       refine goes_ Try.func14 (by kernel_rfl) rfl #[.agg #[.slice A0_0 l0_0.length c0_0]] (by rfl) rfl rfl (MA) ?_
       with_reducible refine (laws_toDisk.calls kj85 _ _ l0_0 t304 _ ?side1 ?side2 A125.out).mono ?_
       (case side1 => repeat (first | exact (Kd.C_below HR0_0.out HB.out) | (with_reducible refine Kd.C_alloc ?_ _) | (with_reducible refine Kd.C_drewN ?_ _) | (with_reducible refine Kd.C_drew ?_)))
       (case side2 => exact HC0_0.out)
       rintro e w139 ⟨v305, rfl, ho0, hb⟩
       refine ⟨_, rfl, ?_⟩
       have n0_ := Aside0.mk (Kd.R_elder' (RQ HO_280000.out) (Kd.R_base ho0) hb)
       have n1_ := Aside0.mk (Kd.R_elder' (RQ HO_284000.out) (Kd.R_base ho0) hb)
       have n2_ := Aside0.mk (Kd.R_elder' (RQ HO_293000.out) (Kd.R_base ho0) hb)
       have n3_ := Aside0.mk (Kd.R_lower (Kd.R_new' (Kd.R_new' (Kd.R_new' ho0 (Kd.R_lt (RQ HO_280000.out))) (Kd.R_lt (RQ HO_284000.out))) (Kd.R_lt (RQ HO_293000.out))) (below_size (BL)))
       have n4_ := BB BK264.out hb
       have n5_ := BB BK265.out hb
       have n6_ := BB BK279.out hb
       have n7_ := BB BK283.out hb
       have n8_ := BB BK292.out hb
       have n9_ := BB BK315.out hb
       have n10_ := Aside0.mk (below_step (BL) hb)
       clear HO_280000
       clear HO_284000
       clear HO_293000
       clear BK264
       clear BK265
       clear BK279
       clear BK283
       clear BK292
       clear BK315
       clear HB
       have HO_280000 := n0_
       have HO_284000 := n1_
       have HO_293000 := n2_
       have HO306 := n3_
       have BK264 := n4_
       have BK265 := n5_
       have BK279 := n6_
       have BK283 := n7_
       have BK292 := n8_
       have BK315 := n9_
       have HB := n10_
       clear n0_ n1_ n2_ n3_ n4_ n5_ n6_ n7_ n8_ n9_ n10_
       (try clear hb)
       (try clear hb2)
       (try clear hk)
       (try clear hi)
       (try clear ho0)
       refine hK.out _ _ ⟨CZ BK264.out 0, CZ BK265.out 0, CZ BK265.out 1, CZ BK265.out 2, CZ BK265.out 3⟩ (fun hHeld => ?_)
       clear hK K
       refine norm_ (a' := ?_) ?_ ?_
       rotate_left
       ·
        show Act.put _ (some 86) _ = _
        simp only [Act.put, zA, zB, zC, i64_w, i32_w]
        rfl
       refine one_ (i := 3) (N := some 88) (OB 11 271) rfl rfl (one_of HT_.out (by kernel_rfl)) (by decide) (fun K hK => ?_)
       refine goes_ Try.func36 (by kernel_rfl) rfl #[.agg #[.int .i64 a1_0, .string a1_1, .string a1_2, .string a1_3]] (by rfl) rfl rfl (MA) ?_
       with_reducible refine (laws_toAct.calls a1_0 a1_1 a1_2 a1_3 t307 t308 t309 t310 _ A126.out).mono ?_
       rintro e w140 ⟨rfl, hb⟩
       refine ⟨_, rfl, ?_⟩
       have n0_ := Aside0.mk (Kd.R_below (RQ HO_280000.out) hb)
       have n1_ := Aside0.mk (Kd.R_below (RQ HO_284000.out) hb)
       have n2_ := Aside0.mk (Kd.R_below (RQ HO_293000.out) hb)
       have n3_ := Aside0.mk (Kd.R_below (RQ HO306.out) hb)
       have n4_ := BB BK264.out hb
       have n5_ := BB BK265.out hb
       have n6_ := BB BK279.out hb
       have n7_ := BB BK283.out hb
       have n8_ := BB BK292.out hb
       have n9_ := BB BK315.out hb
       have n10_ := Aside0.mk (below_step (BL) hb)
       clear HO_280000
       clear HO_284000
       clear HO_293000
       clear HO306
       clear BK264
       clear BK265
       clear BK279
       clear BK283
       clear BK292
       clear BK315
       clear HB
       have HO_280000 := n0_
       have HO_284000 := n1_
       have HO_293000 := n2_
       have HO306 := n3_
       have BK264 := n4_
       have BK265 := n5_
       have BK279 := n6_
       have BK283 := n7_
       have BK292 := n8_
       have BK315 := n9_
       have HB := n10_
       clear n0_ n1_ n2_ n3_ n4_ n5_ n6_ n7_ n8_ n9_ n10_
       (try clear hb)
       (try clear hb2)
       (try clear hk)
       (try clear hi)
       obtain ⟨Ao141, co141, eo141⟩ := Kd.R_slice HO306.out
       (first | subst eo141 | (injection eo141 with f1_ f2_ f3_; have f4_ := f1_.symm; have f5_ := f3_.symm; clear f1_ f2_ f3_; subst f4_; subst f5_))
       refine hK.out _ _ ⟨CZ BK264.out 0, CZ BK265.out 0, CZ BK265.out 1, CZ BK265.out 2, CZ BK265.out 3⟩ (fun hHeld => ?_)
       clear hK K
       refine norm_ (a' := ?_) ?_ ?_
       rotate_left
       ·
        show Act.put _ (some 88) _ = _
        simp only [Act.put, zA, zB, zC, i64_w, i32_w]
        rfl
       refine one_ (i := 4) (N := some 89) (OB 11 287) rfl rfl (one_of HT_.out (by kernel_rfl)) (by decide) (fun K hK => ?_)
       refine goes_ Try.func37 (by kernel_rfl) rfl #[.agg #[.slice Ao141 t304.length co141], .agg #[.int .i64 t307, .string t308, .string t309, .string t310]] (by rfl) rfl rfl (MA) ?_
       with_reducible refine (impl_DoAct.calls kj85 _ _ t304 t307 t308 t309 t310 t311 t314 _ ?side1 ?side2 A127.out).mono ?_
       (case side1 => repeat (first | exact (Kd.R_reads' HO306.out).2.2 | (with_reducible refine Kd.C_alloc ?_ _) | (with_reducible refine Kd.C_drewN ?_ _) | (with_reducible refine Kd.C_drew ?_)))
       (case side2 => exact (Kd.R_reads' HO306.out).2.1)
       rintro e w142 ⟨v312, rfl, ho0, hb⟩
       refine ⟨_, rfl, ?_⟩
       have n0_ := Aside0.mk (Kd.R_elder' (RQ HO_280000.out) (Kd.R_base ho0) hb)
       have n1_ := Aside0.mk (Kd.R_elder' (RQ HO_284000.out) (Kd.R_base ho0) hb)
       have n2_ := Aside0.mk (Kd.R_elder' (RQ HO_293000.out) (Kd.R_base ho0) hb)
       have n3_ := Aside0.mk (Kd.R_elder' (RQ HO306.out) (Kd.R_base ho0) hb)
       have n4_ := Aside0.mk (Kd.R_lower (Kd.R_new' (Kd.R_new' (Kd.R_new' (Kd.R_new' ho0 (Kd.R_lt (RQ HO_280000.out))) (Kd.R_lt (RQ HO_284000.out))) (Kd.R_lt (RQ HO_293000.out))) (Kd.R_lt (RQ HO306.out))) (below_size (BL)))
       have n5_ := BB BK264.out hb
       have n6_ := BB BK265.out hb
       have n7_ := BB BK279.out hb
       have n8_ := BB BK283.out hb
       have n9_ := BB BK292.out hb
       have n10_ := BB BK315.out hb
       have n11_ := Aside0.mk (below_step (BL) hb)
       clear HO_280000
       clear HO_284000
       clear HO_293000
       clear HO306
       clear BK264
       clear BK265
       clear BK279
       clear BK283
       clear BK292
       clear BK315
       clear HB
       have HO_280000 := n0_
       have HO_284000 := n1_
       have HO_293000 := n2_
       have HO306 := n3_
       have HO313 := n4_
       have BK264 := n5_
       have BK265 := n6_
       have BK279 := n7_
       have BK283 := n8_
       have BK292 := n9_
       have BK315 := n10_
       have HB := n11_
       clear n0_ n1_ n2_ n3_ n4_ n5_ n6_ n7_ n8_ n9_ n10_ n11_
       (try clear hb)
       (try clear hb2)
       (try clear hk)
       (try clear hi)
       (try clear ho0)
       refine hK.out _ _ ⟨CZ BK264.out 0, CZ BK265.out 0, CZ BK265.out 1, CZ BK265.out 2, CZ BK265.out 3⟩ (fun hHeld => ?_)
       clear hK K
       refine norm_ (a' := ?_) ?_ ?_
       rotate_left
       ·
        show Act.put _ (some 89) _ = _
        simp only [Act.put, zA, zB, zC, i64_w, i32_w]
        rfl
       refine pV 5 84 (OB 11 319) ?_
       refine pV 6 90 (OB 11 383) ?_
       refine pV 7 91 (OB 11 511) ?_
       exact norm_ (by simp only [putAll, Act.put, zA, zB, zC]) (hCont (.slice Ao141 t304.length co141, v312, gb315) _ ⟨hHeld, (by (with_reducible repeat (first | apply r1 | apply r2 | apply r3)); exact Kd.R_mono HO306.out (fun _ hk => ⟨hk.2, ⟨hk.1.1.1.2, ⟨hk.1.1.2, hk.1.2⟩⟩⟩)), (by (with_reducible repeat (first | apply r1 | apply r2 | apply r3)); exact Kd.R_mono HO313.out (fun _ hk => ⟨hk.2, ⟨hk.1.1.1.2, ⟨hk.1.1.2, hk.1.2⟩⟩⟩)), (by (with_reducible repeat (first | apply r1 | apply r2 | apply r3)); exact Kd.R_mono HO_280000.out (fun _ hk => ⟨hk.1.2, ⟨hk.2, ⟨hk.1.1.1, hk.1.1.2⟩⟩⟩)), (by (with_reducible repeat (first | apply r1 | apply r2 | apply r3)); exact Kd.R_mono HO_284000.out (fun _ hk => ⟨hk.1.2, ⟨hk.2, ⟨hk.1.1.1, hk.1.1.2⟩⟩⟩)), (by (with_reducible repeat (first | apply r1 | apply r2 | apply r3)); exact Kd.R_mono HO_293000.out (fun _ hk => ⟨hk.1.2, ⟨hk.2, ⟨hk.1.1.1, hk.1.1.2⟩⟩⟩)), (BQ BK264.out), (BQ BK265.out), (BQ BK279.out), (BQ BK283.out), (BQ BK292.out), (BQ BK315.out), GW315.out, GE315.out, NB264_315.out, NB315_264.out, NB265_315.out, NB315_265.out, NB279_315.out, NB315_279.out, NB283_315.out, NB315_283.out, NB292_315.out, NB315_292.out, (BL)⟩)
     rintro ⟨v305, v312, gb315⟩ w143 ⟨hS_, h0_, h1_, h2_, h3_, h4_, h5_, h6_, h7_, h8_, h9_, h10_, h11_, h12_, h13_, h14_, h15_, h16_, h17_, h18_, h19_, h20_, h21_, h22_, h23_⟩
     have n0_ : Aside0 (Kd.R k45 45 w143 w.heap.size (fun k_ => some k_ ≠ (v312 : Value).ownBlock ∧ some k_ ≠ (.slice Ao40 t275.length co40 : Value).ownBlock ∧ some k_ ≠ (.slice Ao46 t299.length co46 : Value).ownBlock ∧ some k_ ≠ (.slice Ao57 t288.length co57 : Value).ownBlock) v305 t304) := ⟨h0_⟩
     have n1_ : Aside0 (Kd.R k45 45 w143 w.heap.size (fun k_ => some k_ ≠ (v305 : Value).ownBlock ∧ some k_ ≠ (.slice Ao40 t275.length co40 : Value).ownBlock ∧ some k_ ≠ (.slice Ao46 t299.length co46 : Value).ownBlock ∧ some k_ ≠ (.slice Ao57 t288.length co57 : Value).ownBlock) v312 t311) := ⟨h1_⟩
     have n2_ : Aside0 (Kd.R k45 45 w143 w.heap.size (fun k_ => some k_ ≠ (v305 : Value).ownBlock ∧ some k_ ≠ (v312 : Value).ownBlock ∧ some k_ ≠ (.slice Ao46 t299.length co46 : Value).ownBlock ∧ some k_ ≠ (.slice Ao57 t288.length co57 : Value).ownBlock) (.slice Ao40 t275.length co40) t275) := ⟨h2_⟩
     have n3_ : Aside0 (Kd.R k45 45 w143 w.heap.size (fun k_ => some k_ ≠ (v305 : Value).ownBlock ∧ some k_ ≠ (v312 : Value).ownBlock ∧ some k_ ≠ (.slice Ao40 t275.length co40 : Value).ownBlock ∧ some k_ ≠ (.slice Ao57 t288.length co57 : Value).ownBlock) (.slice Ao46 t299.length co46) t299) := ⟨h3_⟩
     have n4_ : Aside0 (Kd.R k45 45 w143 w.heap.size (fun k_ => some k_ ≠ (v305 : Value).ownBlock ∧ some k_ ≠ (v312 : Value).ownBlock ∧ some k_ ≠ (.slice Ao40 t275.length co40 : Value).ownBlock ∧ some k_ ≠ (.slice Ao46 t299.length co46 : Value).ownBlock) (.slice Ao57 t288.length co57) t302) := ⟨h4_⟩
     have n5_ : Aside0 (w143.heap[gb264]? = some (.cells #[.slice A0_0 l0_0.length c0_0] 24 (0, 0))) := ⟨h5_⟩
     have n6_ : Aside0 (w143.heap[gb265]? = some (.cells #[.int .i64 a1_0, .string a1_1, .string a1_2, .string a1_3] 52 (0, 0))) := ⟨h6_⟩
     have n7_ : Aside0 (w143.heap[gb279]? = some (.cells #[.slice Ao40 t275.length co40] 29 (0, 0))) := ⟨h7_⟩
     have n8_ : Aside0 (w143.heap[gb283]? = some (.cells #[.slice Ao46 t299.length co46] 29 (0, 0))) := ⟨h8_⟩
     have n9_ : Aside0 (w143.heap[gb292]? = some (.cells #[.slice Ao57 t288.length co57] 29 (0, 0))) := ⟨h9_⟩
     have n10_ : Aside0 (w143.heap[gb315]? = some (.cells #[.slice none 0 0] 29 (0, 0))) := ⟨h10_⟩
     have n11_ : Aside0 (w.heap.size ≤ gb315) := ⟨h11_⟩
     have n12_ : Aside0 (w.heap.size ≤ gb315) := ⟨h12_⟩
     have n13_ : Aside0 (gb264 ≠ gb315) := ⟨h13_⟩
     have n14_ : Aside0 (gb315 ≠ gb264) := ⟨h14_⟩
     have n15_ : Aside0 (gb265 ≠ gb315) := ⟨h15_⟩
     have n16_ : Aside0 (gb315 ≠ gb265) := ⟨h16_⟩
     have n17_ : Aside0 (gb279 ≠ gb315) := ⟨h17_⟩
     have n18_ : Aside0 (gb315 ≠ gb279) := ⟨h18_⟩
     have n19_ : Aside0 (gb283 ≠ gb315) := ⟨h19_⟩
     have n20_ : Aside0 (gb315 ≠ gb283) := ⟨h20_⟩
     have n21_ : Aside0 (gb292 ≠ gb315) := ⟨h21_⟩
     have n22_ : Aside0 (gb315 ≠ gb292) := ⟨h22_⟩
     have n23_ : Aside0 (Below w.heap.size w w143) := ⟨h23_⟩
     clear HO_280000
     clear HO_284000
     clear HO_293000
     clear BK264
     clear BK265
     clear BK279
     clear BK283
     clear BK292
     clear HB
     clear h0_ h1_ h2_ h3_ h4_ h5_ h6_ h7_ h8_ h9_ h10_ h11_ h12_ h13_ h14_ h15_ h16_ h17_ h18_ h19_ h20_ h21_ h22_ h23_
     have HO306 := n0_
     have HO313 := n1_
     have HO_280000 := n2_
     have HO_284000 := n3_
     have HO_293000 := n4_
     have BK264 := n5_
     have BK265 := n6_
     have BK279 := n7_
     have BK283 := n8_
     have BK292 := n9_
     have BK315 := n10_
     have GW315 := n11_
     have GE315 := n12_
     have NB264_315 := n13_
     have NB315_264 := n14_
     have NB265_315 := n15_
     have NB315_265 := n16_
     have NB279_315 := n17_
     have NB315_279 := n18_
     have NB283_315 := n19_
     have NB315_283 := n20_
     have NB292_315 := n21_
     have NB315_292 := n22_
     have HB := n23_
     clear n0_ n1_ n2_ n3_ n4_ n5_ n6_ n7_ n8_ n9_ n10_ n11_ n12_ n13_ n14_ n15_ n16_ n17_ n18_ n19_ n20_ n21_ n22_ n23_
     have hHeld : w143.cell? ⟨gb264, 0, none⟩ = some (.slice A0_0 l0_0.length c0_0) ∧ w143.cell? ⟨gb265, 0, none⟩ = some (.int .i64 a1_0) ∧ w143.cell? ⟨gb265, 1, none⟩ = some (.string a1_1) ∧ w143.cell? ⟨gb265, 2, none⟩ = some (.string a1_2) ∧ w143.cell? ⟨gb265, 3, none⟩ = some (.string a1_3) := hS_
     obtain ⟨Ao144, co144, eo144⟩ := Kd.R_slice HO313.out
     (first | subst eo144 | (injection eo144 with f1_ f2_ f3_; have f4_ := f1_.symm; have f5_ := f3_.symm; clear f1_ f2_ f3_; subst f4_; subst f5_))
     refine norm_ (a' := ?_) ?_ ?_
     rotate_left
     ·
      simp only [putAll, Act.put, zA, zB, zC]
      rfl
     refine one_ (i := 9) (N := none) (OB 11 1023) rfl rfl (one_of HT_.out (by kernel_rfl)) (by decide) (fun K hK => ?_)
     have hs145 : w143.cell? ⟨gb315, 0, none⟩ = some (.slice none 0 0) := CZ BK315.out 0
     have hfs145 := blk_frozen BK315.out 0
     have hns145_0 := NB264_315.out
     have hns145_1 := NB265_315.out
     have hns145_2 := NB279_315.out
     have hns145_3 := NB283_315.out
     have hns145_4 := NB292_315.out
     have hms145_0 := NB315_264.out
     have hms145_1 := NB315_265.out
     have hms145_2 := NB315_279.out
     have hms145_3 := NB315_283.out
     have hms145_4 := NB315_292.out
     refine skip_ (w1 := ?_) (by rfl) rfl ?_ ?_
     rotate_left
     ·
      go_simp
      rfl
     refine hK.out _ _ ⟨((cell_far (p := ⟨gb315, _, none⟩) NB264_315.out _).trans (hHeld.1)), ((cell_far (p := ⟨gb315, _, none⟩) NB265_315.out _).trans (hHeld.2.1)), ((cell_far (p := ⟨gb315, _, none⟩) NB265_315.out _).trans (hHeld.2.2.1)), ((cell_far (p := ⟨gb315, _, none⟩) NB265_315.out _).trans (hHeld.2.2.2.1)), ((cell_far (p := ⟨gb315, _, none⟩) NB265_315.out _).trans (hHeld.2.2.2.2))⟩ (fun hHeld => ?_)
     clear hK K
     refine pV 10 15 (OB 11 2047) ?_
     refine done_ (done_of HT_.out (by kernel_rfl)) ?_
     go_upto_region 28 with (fail)
     go_cut [100] (fun v100 wc => ∃ (kq : Nat) (x100_127 : Bool), v100 = .bool x100_127 ∧ Aside0 (laws_FnExactDoAct.j2 kq t301 x100_127 t302 = some r) ∧ Aside0 (kq ≤ kj85) ∧ Aside0 (Kd.R k45 45 wc w.heap.size (fun k_ => some k_ ≠ ((.slice Ao46 t299.length co46) : Value).ownBlock ∧ some k_ ≠ ((.slice Ao57 t288.length co57) : Value).ownBlock ∧ some k_ ≠ ((.slice Ao144 t311.length co144) : Value).ownBlock) (.slice Ao40 t275.length co40) t275) ∧ Aside0 (Kd.R k45 45 wc w.heap.size (fun k_ => some k_ ≠ ((.slice Ao40 t275.length co40) : Value).ownBlock ∧ some k_ ≠ ((.slice Ao57 t288.length co57) : Value).ownBlock ∧ some k_ ≠ ((.slice Ao144 t311.length co144) : Value).ownBlock) (.slice Ao46 t299.length co46) t299) ∧ Aside0 (Kd.R k45 45 wc w.heap.size (fun k_ => some k_ ≠ ((.slice Ao40 t275.length co40) : Value).ownBlock ∧ some k_ ≠ ((.slice Ao46 t299.length co46) : Value).ownBlock ∧ some k_ ≠ ((.slice Ao144 t311.length co144) : Value).ownBlock) (.slice Ao57 t288.length co57) t302) ∧ Aside0 (Kd.R k45 45 wc w.heap.size (fun k_ => some k_ ≠ ((.slice Ao40 t275.length co40) : Value).ownBlock ∧ some k_ ≠ ((.slice Ao46 t299.length co46) : Value).ownBlock ∧ some k_ ≠ ((.slice Ao57 t288.length co57) : Value).ownBlock) (.slice Ao144 t311.length co144) t311) ∧ Aside0 (wc.heap[gb264]? = some (.cells #[(.slice A0_0 l0_0.length c0_0)] 24 (0, 0))) ∧ Aside0 (wc.heap[gb265]? = some (.cells #[.int .i64 a1_0, .string a1_1, .string a1_2, .string a1_3] 52 (0, 0))) ∧ Aside0 (wc.heap[gb279]? = some (.cells #[(.slice Ao40 t275.length co40)] 29 (0, 0))) ∧ Aside0 (wc.heap[gb283]? = some (.cells #[(.slice Ao46 t299.length co46)] 29 (0, 0))) ∧ Aside0 (wc.heap[gb292]? = some (.cells #[(.slice Ao57 t288.length co57)] 29 (0, 0))) ∧ Aside0 (wc.heap[gb315]? = some (.cells #[(.slice Ao144 t311.length co144)] 29 (0, 0))) ∧ Aside0 (Below w.heap.size w wc))
     case first =>
      have H := HC128.out
      clear HC128
      replace H := Option.bind_eq_some_iff.mp H
      obtain ⟨t316, A1460, H⟩ := H
      replace H : (if t316 = true then (laws_FnExactDoAct.j2 kj85 t301 (t314 != t278) t302) else (laws_FnExactDoAct.j2 kj85 t301 true t302)) = some r := H
      have A146 := Aside0.mk A1460
      clear A1460
      by_cases c147 : t316 = true
      ·
       subst c147
       have H1 : (laws_FnExactDoAct.j2 kj85 t301 (t314 != t278) t302) = some r := by rw [if_pos rfl] at H; exact H
       clear H
       have H := H1
       clear H1
       have H' := Aside0.mk H
       clear H
       have hnb148 := NB315_264.out
       have hnc148 := NB264_315.out
       have hnb149 := NB315_265.out
       have hnc149 := NB265_315.out
       have hnb150 := NB315_279.out
       have hnc150 := NB279_315.out
       have hnb151 := NB315_283.out
       have hnc151 := NB283_315.out
       have hnb152 := NB315_292.out
       have hnc152 := NB292_315.out
       have hcz153_0 : w143.cell? ⟨gb315, 0, none⟩ = some (.slice none 0 0) := CZ BK315.out 0
       have hfz153_0 := blk_frozen BK315.out 0
       have hnb154 := NB279_264.out
       have hnc154 := NB264_279.out
       have hnb155 := NB279_265.out
       have hnc155 := NB265_279.out
       have hnb156 := NB279_283.out
       have hnc156 := NB283_279.out
       have hnb157 := NB279_292.out
       have hnc157 := NB292_279.out
       have hcz158_0 : w143.cell? ⟨gb279, 0, none⟩ = some (.slice Ao40 t275.length co40) := CZ BK279.out 0
       have hfz158_0 := blk_frozen BK279.out 0
       go_wp2_with (first | ((with_reducible refine gate_callee (f := 16) rfl ?_); refine goesL_ (some 94) rfl rfl Try.func16 (by kernel_rfl) rfl #[.agg #[.slice Ao144 t311.length co144], .agg #[.slice Ao40 t275.length co40]] rfl (MA) ?_; (with_reducible refine (laws_eqDisk.calls kj85 _ _ t311 _ _ t275 true _ ?side1 ?side2 ?side3 ?side4 A146.out).mono ?_); (case side1 => refine (Kd.R_reads' (e := 45) (base := w.heap.size) (ok := fun k_ => (some k_ ≠ (v305 : Value).ownBlock ∧ (some k_ ≠ (.slice Ao40 t275.length co40 : Value).ownBlock ∧ (some k_ ≠ (.slice Ao46 t299.length co46 : Value).ownBlock ∧ some k_ ≠ (.slice Ao57 t288.length co57 : Value).ownBlock)))) (n := t311.length) (c := co144) ?_).2.2; exact (by (with_reducible repeat (first | apply r1 | apply r2 | apply r3)); exact (Kd.R_mono (Kd.R_far (p := ⟨gb315, 0, none⟩) (Kd.R_types HO313.out BK315.out (by decide)) (fun _ hk => hk.2) (.slice Ao144 t311.length co144)) (fun _ h_ => h_.1)))); (case side2 => exact (Kd.R_reads' HO313.out).2.1); (case side3 => refine (Kd.R_reads' (e := 45) (base := w.heap.size) (ok := fun k_ => (some k_ ≠ (v305 : Value).ownBlock ∧ (some k_ ≠ (.slice Ao144 t311.length co144 : Value).ownBlock ∧ (some k_ ≠ (.slice Ao46 t299.length co46 : Value).ownBlock ∧ some k_ ≠ (.slice Ao57 t288.length co57 : Value).ownBlock)))) (n := t275.length) (c := co40) ?_).2.2; exact (by (with_reducible repeat (first | apply r1 | apply r2 | apply r3)); exact (Kd.R_mono (Kd.R_far (p := ⟨gb315, 0, none⟩) (Kd.R_types HO_280000.out BK315.out (by decide)) (fun _ hk => hk.2) (.slice Ao144 t311.length co144)) (fun _ h_ => h_.1)))); (case side4 => exact (Kd.R_reads' HO_280000.out).2.1); rintro e w159 ⟨rfl, hb⟩; refine ⟨_, rfl, ?_⟩; replace HO_280000 := Aside0.mk (Kd.R_below (by (with_reducible repeat (first | apply r1 | apply r2 | apply r3)); exact (Kd.R_mono (Kd.R_far (p := ⟨gb315, 0, none⟩) (Kd.R_types HO_280000.out BK315.out (by decide)) (fun _ hk => hk.2) (.slice Ao144 t311.length co144)) (fun _ h_ => h_.1))) hb); replace HO_284000 := Aside0.mk (Kd.R_below (by (with_reducible repeat (first | apply r1 | apply r2 | apply r3)); exact (Kd.R_mono (Kd.R_far (p := ⟨gb315, 0, none⟩) (Kd.R_types HO_284000.out BK315.out (by decide)) (fun _ hk => hk.2) (.slice Ao144 t311.length co144)) (fun _ h_ => h_.1))) hb); replace HO_293000 := Aside0.mk (Kd.R_below (by (with_reducible repeat (first | apply r1 | apply r2 | apply r3)); exact (Kd.R_mono (Kd.R_far (p := ⟨gb315, 0, none⟩) (Kd.R_types HO_293000.out BK315.out (by decide)) (fun _ hk => hk.2) (.slice Ao144 t311.length co144)) (fun _ h_ => h_.1))) hb); replace HO306 := Aside0.mk (Kd.R_below (by (with_reducible repeat (first | apply r1 | apply r2 | apply r3)); exact (Kd.R_mono (Kd.R_far (p := ⟨gb315, 0, none⟩) (Kd.R_types HO306.out BK315.out (by decide)) (fun _ hk => hk.2) (.slice Ao144 t311.length co144)) (fun _ h_ => h_.1))) hb); replace HO313 := Aside0.mk (Kd.R_below (by (with_reducible repeat (first | apply r1 | apply r2 | apply r3)); exact (Kd.R_mono (Kd.R_far (p := ⟨gb315, 0, none⟩) (Kd.R_types HO313.out BK315.out (by decide)) (fun _ hk => hk.2) (.slice Ao144 t311.length co144)) (fun _ h_ => h_.1))) hb); replace BK264 := Aside0.mk (blk_below (g := gb264) (o := .cells #[.slice A0_0 l0_0.length c0_0] 24 (0, 0)) (by (with_reducible repeat (first | apply b1 | apply b2 | apply b3)); refine blk_far ?_ NB264_315.out _; (with_reducible repeat (first | apply b1 | apply b2 | apply b3)); exact BK264.out) hb); replace BK265 := Aside0.mk (blk_below (g := gb265) (o := .cells #[.int .i64 a1_0, .string a1_1, .string a1_2, .string a1_3] 52 (0, 0)) (by (with_reducible repeat (first | apply b1 | apply b2 | apply b3)); refine blk_far ?_ NB265_315.out _; (with_reducible repeat (first | apply b1 | apply b2 | apply b3)); exact BK265.out) hb); replace BK279 := Aside0.mk (blk_below (g := gb279) (o := .cells #[.slice Ao40 t275.length co40] 29 (0, 0)) (by (with_reducible repeat (first | apply b1 | apply b2 | apply b3)); refine blk_far ?_ NB279_315.out _; (with_reducible repeat (first | apply b1 | apply b2 | apply b3)); exact BK279.out) hb); replace BK283 := Aside0.mk (blk_below (g := gb283) (o := .cells #[.slice Ao46 t299.length co46] 29 (0, 0)) (by (with_reducible repeat (first | apply b1 | apply b2 | apply b3)); refine blk_far ?_ NB283_315.out _; (with_reducible repeat (first | apply b1 | apply b2 | apply b3)); exact BK283.out) hb); replace BK292 := Aside0.mk (blk_below (g := gb292) (o := .cells #[.slice Ao57 t288.length co57] 29 (0, 0)) (by (with_reducible repeat (first | apply b1 | apply b2 | apply b3)); refine blk_far ?_ NB292_315.out _; (with_reducible repeat (first | apply b1 | apply b2 | apply b3)); exact BK292.out) hb); replace BK315 := Aside0.mk (blk_below (g := gb315) (o := .cells #[.slice Ao144 t311.length co144] 29 (0, 0)) (by (with_reducible repeat (first | apply b1 | apply b2 | apply b3)); refine blk_put (cs := #[.slice none 0 0]) ?_ 0 _ rfl; (with_reducible repeat (first | apply b1 | apply b2 | apply b3)); exact BK315.out) hb); replace HB := Aside0.mk (below_step (BL) hb); (try clear hb); (try clear hb2); (try clear hk); (try clear hi)))
       go_meet
       case rel => exact ⟨_, ((t314 != t278)), SD, H', ⟨by have := HJ24.out; have := HJ85.out; first | omega | exact Nat.le_refl _⟩, ⟨by (try simp only [hl284000_85]); (with_reducible repeat (first | apply r1 | apply r2 | apply r3)); exact Kd.R_mono HO_280000.out (fun _ hk => ⟨hk.2.2.1, ⟨hk.2.2.2, hk.2.1⟩⟩)⟩, ⟨by (try simp only [hl284000_85]); (with_reducible repeat (first | apply r1 | apply r2 | apply r3)); exact Kd.R_mono HO_284000.out (fun _ hk => ⟨hk.2.2.1, ⟨hk.2.2.2, hk.2.1⟩⟩)⟩, ⟨by (try simp only [hl284000_85]); (with_reducible repeat (first | apply r1 | apply r2 | apply r3)); exact Kd.R_mono HO_293000.out (fun _ hk => ⟨hk.2.2.1, ⟨hk.2.2.2, hk.2.1⟩⟩)⟩, ⟨by (try simp only [hl284000_85]); (with_reducible repeat (first | apply r1 | apply r2 | apply r3)); exact Kd.R_mono HO313.out (fun _ hk => ⟨hk.2.1, ⟨hk.2.2.1, hk.2.2.2⟩⟩)⟩, ⟨by (try simp only [hl284000_85]); (with_reducible repeat (first | apply b1 | apply b2 | apply b3)); exact BK264.out⟩, ⟨by (try simp only [hl284000_85]); (with_reducible repeat (first | apply b1 | apply b2 | apply b3)); exact BK265.out⟩, ⟨by (try simp only [hl284000_85]); (with_reducible repeat (first | apply b1 | apply b2 | apply b3)); exact BK279.out⟩, ⟨by (try simp only [hl284000_85]); (with_reducible repeat (first | apply b1 | apply b2 | apply b3)); exact BK283.out⟩, ⟨by (try simp only [hl284000_85]); (with_reducible repeat (first | apply b1 | apply b2 | apply b3)); exact BK292.out⟩, ⟨by (try simp only [hl284000_85]); (with_reducible repeat (first | apply b1 | apply b2 | apply b3)); exact BK315.out⟩, ⟨BL⟩⟩
      replace c147 := Bool.eq_false_iff.mpr c147
      subst c147
      have H1 : (laws_FnExactDoAct.j2 kj85 t301 true t302) = some r := by rw [if_neg (show ¬ (false = true) by decide)] at H; exact H
      clear H
      have H := H1
      clear H1
      have H' := Aside0.mk H
      clear H
      have hnb160 := NB315_264.out
      have hnc160 := NB264_315.out
      have hnb161 := NB315_265.out
      have hnc161 := NB265_315.out
      have hnb162 := NB315_279.out
      have hnc162 := NB279_315.out
      have hnb163 := NB315_283.out
      have hnc163 := NB283_315.out
      have hnb164 := NB315_292.out
      have hnc164 := NB292_315.out
      have hcz165_0 : w143.cell? ⟨gb315, 0, none⟩ = some (.slice none 0 0) := CZ BK315.out 0
      have hfz165_0 := blk_frozen BK315.out 0
      have hnb166 := NB279_264.out
      have hnc166 := NB264_279.out
      have hnb167 := NB279_265.out
      have hnc167 := NB265_279.out
      have hnb168 := NB279_283.out
      have hnc168 := NB283_279.out
      have hnb169 := NB279_292.out
      have hnc169 := NB292_279.out
      have hcz170_0 : w143.cell? ⟨gb279, 0, none⟩ = some (.slice Ao40 t275.length co40) := CZ BK279.out 0
      have hfz170_0 := blk_frozen BK279.out 0
      go_wp2_with (first | ((with_reducible refine gate_callee (f := 16) rfl ?_); refine goesL_ (some 94) rfl rfl Try.func16 (by kernel_rfl) rfl #[.agg #[.slice Ao144 t311.length co144], .agg #[.slice Ao40 t275.length co40]] rfl (MA) ?_; (with_reducible refine (laws_eqDisk.calls kj85 _ _ t311 _ _ t275 false _ ?side1 ?side2 ?side3 ?side4 A146.out).mono ?_); (case side1 => refine (Kd.R_reads' (e := 45) (base := w.heap.size) (ok := fun k_ => (some k_ ≠ (v305 : Value).ownBlock ∧ (some k_ ≠ (.slice Ao40 t275.length co40 : Value).ownBlock ∧ (some k_ ≠ (.slice Ao46 t299.length co46 : Value).ownBlock ∧ some k_ ≠ (.slice Ao57 t288.length co57 : Value).ownBlock)))) (n := t311.length) (c := co144) ?_).2.2; exact (by (with_reducible repeat (first | apply r1 | apply r2 | apply r3)); exact (Kd.R_mono (Kd.R_far (p := ⟨gb315, 0, none⟩) (Kd.R_types HO313.out BK315.out (by decide)) (fun _ hk => hk.2) (.slice Ao144 t311.length co144)) (fun _ h_ => h_.1)))); (case side2 => exact (Kd.R_reads' HO313.out).2.1); (case side3 => refine (Kd.R_reads' (e := 45) (base := w.heap.size) (ok := fun k_ => (some k_ ≠ (v305 : Value).ownBlock ∧ (some k_ ≠ (.slice Ao144 t311.length co144 : Value).ownBlock ∧ (some k_ ≠ (.slice Ao46 t299.length co46 : Value).ownBlock ∧ some k_ ≠ (.slice Ao57 t288.length co57 : Value).ownBlock)))) (n := t275.length) (c := co40) ?_).2.2; exact (by (with_reducible repeat (first | apply r1 | apply r2 | apply r3)); exact (Kd.R_mono (Kd.R_far (p := ⟨gb315, 0, none⟩) (Kd.R_types HO_280000.out BK315.out (by decide)) (fun _ hk => hk.2) (.slice Ao144 t311.length co144)) (fun _ h_ => h_.1)))); (case side4 => exact (Kd.R_reads' HO_280000.out).2.1); rintro e w171 ⟨rfl, hb⟩; refine ⟨_, rfl, ?_⟩; replace HO_280000 := Aside0.mk (Kd.R_below (by (with_reducible repeat (first | apply r1 | apply r2 | apply r3)); exact (Kd.R_mono (Kd.R_far (p := ⟨gb315, 0, none⟩) (Kd.R_types HO_280000.out BK315.out (by decide)) (fun _ hk => hk.2) (.slice Ao144 t311.length co144)) (fun _ h_ => h_.1))) hb); replace HO_284000 := Aside0.mk (Kd.R_below (by (with_reducible repeat (first | apply r1 | apply r2 | apply r3)); exact (Kd.R_mono (Kd.R_far (p := ⟨gb315, 0, none⟩) (Kd.R_types HO_284000.out BK315.out (by decide)) (fun _ hk => hk.2) (.slice Ao144 t311.length co144)) (fun _ h_ => h_.1))) hb); replace HO_293000 := Aside0.mk (Kd.R_below (by (with_reducible repeat (first | apply r1 | apply r2 | apply r3)); exact (Kd.R_mono (Kd.R_far (p := ⟨gb315, 0, none⟩) (Kd.R_types HO_293000.out BK315.out (by decide)) (fun _ hk => hk.2) (.slice Ao144 t311.length co144)) (fun _ h_ => h_.1))) hb); replace HO306 := Aside0.mk (Kd.R_below (by (with_reducible repeat (first | apply r1 | apply r2 | apply r3)); exact (Kd.R_mono (Kd.R_far (p := ⟨gb315, 0, none⟩) (Kd.R_types HO306.out BK315.out (by decide)) (fun _ hk => hk.2) (.slice Ao144 t311.length co144)) (fun _ h_ => h_.1))) hb); replace HO313 := Aside0.mk (Kd.R_below (by (with_reducible repeat (first | apply r1 | apply r2 | apply r3)); exact (Kd.R_mono (Kd.R_far (p := ⟨gb315, 0, none⟩) (Kd.R_types HO313.out BK315.out (by decide)) (fun _ hk => hk.2) (.slice Ao144 t311.length co144)) (fun _ h_ => h_.1))) hb); replace BK264 := Aside0.mk (blk_below (g := gb264) (o := .cells #[.slice A0_0 l0_0.length c0_0] 24 (0, 0)) (by (with_reducible repeat (first | apply b1 | apply b2 | apply b3)); refine blk_far ?_ NB264_315.out _; (with_reducible repeat (first | apply b1 | apply b2 | apply b3)); exact BK264.out) hb); replace BK265 := Aside0.mk (blk_below (g := gb265) (o := .cells #[.int .i64 a1_0, .string a1_1, .string a1_2, .string a1_3] 52 (0, 0)) (by (with_reducible repeat (first | apply b1 | apply b2 | apply b3)); refine blk_far ?_ NB265_315.out _; (with_reducible repeat (first | apply b1 | apply b2 | apply b3)); exact BK265.out) hb); replace BK279 := Aside0.mk (blk_below (g := gb279) (o := .cells #[.slice Ao40 t275.length co40] 29 (0, 0)) (by (with_reducible repeat (first | apply b1 | apply b2 | apply b3)); refine blk_far ?_ NB279_315.out _; (with_reducible repeat (first | apply b1 | apply b2 | apply b3)); exact BK279.out) hb); replace BK283 := Aside0.mk (blk_below (g := gb283) (o := .cells #[.slice Ao46 t299.length co46] 29 (0, 0)) (by (with_reducible repeat (first | apply b1 | apply b2 | apply b3)); refine blk_far ?_ NB283_315.out _; (with_reducible repeat (first | apply b1 | apply b2 | apply b3)); exact BK283.out) hb); replace BK292 := Aside0.mk (blk_below (g := gb292) (o := .cells #[.slice Ao57 t288.length co57] 29 (0, 0)) (by (with_reducible repeat (first | apply b1 | apply b2 | apply b3)); refine blk_far ?_ NB292_315.out _; (with_reducible repeat (first | apply b1 | apply b2 | apply b3)); exact BK292.out) hb); replace BK315 := Aside0.mk (blk_below (g := gb315) (o := .cells #[.slice Ao144 t311.length co144] 29 (0, 0)) (by (with_reducible repeat (first | apply b1 | apply b2 | apply b3)); refine blk_put (cs := #[.slice none 0 0]) ?_ 0 _ rfl; (with_reducible repeat (first | apply b1 | apply b2 | apply b3)); exact BK315.out) hb); replace HB := Aside0.mk (below_step (BL) hb); (try clear hb); (try clear hb2); (try clear hk); (try clear hi)))
      go_meet
      case rel => exact ⟨_, (true), SD, H', ⟨by have := HJ24.out; have := HJ85.out; first | omega | exact Nat.le_refl _⟩, ⟨by (try simp only [hl284000_85]); (with_reducible repeat (first | apply r1 | apply r2 | apply r3)); exact Kd.R_mono HO_280000.out (fun _ hk => ⟨hk.2.2.1, ⟨hk.2.2.2, hk.2.1⟩⟩)⟩, ⟨by (try simp only [hl284000_85]); (with_reducible repeat (first | apply r1 | apply r2 | apply r3)); exact Kd.R_mono HO_284000.out (fun _ hk => ⟨hk.2.2.1, ⟨hk.2.2.2, hk.2.1⟩⟩)⟩, ⟨by (try simp only [hl284000_85]); (with_reducible repeat (first | apply r1 | apply r2 | apply r3)); exact Kd.R_mono HO_293000.out (fun _ hk => ⟨hk.2.2.1, ⟨hk.2.2.2, hk.2.1⟩⟩)⟩, ⟨by (try simp only [hl284000_85]); (with_reducible repeat (first | apply r1 | apply r2 | apply r3)); exact Kd.R_mono HO313.out (fun _ hk => ⟨hk.2.1, ⟨hk.2.2.1, hk.2.2.2⟩⟩)⟩, ⟨by (try simp only [hl284000_85]); (with_reducible repeat (first | apply b1 | apply b2 | apply b3)); exact BK264.out⟩, ⟨by (try simp only [hl284000_85]); (with_reducible repeat (first | apply b1 | apply b2 | apply b3)); exact BK265.out⟩, ⟨by (try simp only [hl284000_85]); (with_reducible repeat (first | apply b1 | apply b2 | apply b3)); exact BK279.out⟩, ⟨by (try simp only [hl284000_85]); (with_reducible repeat (first | apply b1 | apply b2 | apply b3)); exact BK283.out⟩, ⟨by (try simp only [hl284000_85]); (with_reducible repeat (first | apply b1 | apply b2 | apply b3)); exact BK292.out⟩, ⟨by (try simp only [hl284000_85]); (with_reducible repeat (first | apply b1 | apply b2 | apply b3)); exact BK315.out⟩, ⟨BL⟩⟩
     case rest =>
      clear HC128
      try clear c1
      try clear p2
      try clear c3
      try clear c14
      try clear c15
      try clear c16
      try clear c36
      try clear c37
      try clear c147
      try clear c148
      try clear c149
      try clear c150
      try clear c151
      try clear c152
      try clear c154
      try clear c155
      try clear c156
      try clear c157
      try clear c160
      try clear c161
      try clear c162
      try clear c163
      try clear c164
      try clear c166
      try clear c167
      try clear c168
      try clear c169
      try clear hcz153_0
      try clear hcz158_0
      try clear hcz165_0
      try clear hcz170_0
      try clear hfz153_0
      try clear hfz158_0
      try clear hfz165_0
      try clear hfz170_0
      obtain ⟨kq, x100_127, rfl, HA, HJ127, HO_280000, HO_284000, HO_293000, HO_316000, BK264, BK265, BK279, BK283, BK292, BK315, HB⟩ := hcut
      have hl293000_127 := (Kd.R_reads' HO_293000.out).1
      rw [hl293000_127] at HO_293000
      (try simp only [hl293000_127])
      (try simp only [hl293000_127] at BK264)
      (try simp only [hl293000_127] at BK265)
      (try simp only [hl293000_127] at BK279)
      (try simp only [hl293000_127] at BK283)
      (try simp only [hl293000_127] at BK292)
      (try simp only [hl293000_127] at BK315)
      (try simp only [hl293000_127] at HO_280000)
      (try simp only [hl293000_127] at HO_284000)
      (try simp only [hl293000_127] at HO_316000)
      cases kq with
      | zero => exact absurd HA.out (by simp [laws_FnExactDoAct.j2])
      | succ kj127 =>
       have H := HA.out
       clear HA
       simp only [laws_FnExactDoAct.j2] at H
       by_cases c172 : x100_127 = true
       ·
        subst c172
        have H1 : (none) = some r := by rw [if_pos rfl] at H; exact H
        clear H
        have H := H1
        clear H1
        exact absurd H (by simp)
       replace c172 := Bool.eq_false_iff.mpr c172
       subst c172
       have H1 : ((laws_heldDisk.f kj127 t302 1).bind fun t317 => (if t317 < 0 then (none) else (if t317 = t301 then (some true) else (none)))) = some r := by rw [if_neg (show ¬ (false = true) by decide)] at H; exact H
       clear H
       have H := H1
       clear H1
       replace H := Option.bind_eq_some_iff.mp H
       obtain ⟨t317, A1730, H⟩ := H
       replace H : (if t317 < 0 then (none) else (if t317 = t301 then (some true) else (none))) = some r := H
       have A173 := Aside0.mk A1730
       clear A1730
       by_cases c174 : t317 < 0
       ·
        rw [if_pos c174] at H
        exact absurd H (by simp)
       rw [if_neg c174] at H
       have c174b0 : decide (t317 < 0) = false := decide_eq_false c174
       clear c174
       by_cases c175 : t317 = t301; rotate_left
       ·
        rw [if_neg c175] at H
        exact absurd H (by simp)
       rw [if_pos c175] at H
       have c175b0 : (t317 == t301) = true := beq_iff_eq.mpr c175
       have c175b1 : (t317 != t301) = false := bne_eq_false_iff_eq.mpr c175
       clear c175
       obtain rfl := Option.some.inj H
       have hnb176 := NB292_264.out
       have hnc176 := NB264_292.out
       have hnb177 := NB292_265.out
       have hnc177 := NB265_292.out
       have hnb178 := NB292_279.out
       have hnc178 := NB279_292.out
       have hnb179 := NB292_283.out
       have hnc179 := NB283_292.out
       have hnb180 := NB292_315.out
       have hnc180 := NB315_292.out
       have hcz181_0 : wc.cell? ⟨gb292, 0, none⟩ = some (.slice Ao57 t302.length co57) := CZ BK292.out 0
       have hfz181_0 := blk_frozen BK292.out 0
       go_wp2_with (first | ((with_reducible refine gate_callee (f := 33) rfl ?_); refine goesL_ (some 103) rfl rfl Try.func33 (by kernel_rfl) rfl #[.agg #[.slice Ao57 t302.length co57], .int .i64 1] rfl (MA) ?_; (with_reducible refine (laws_heldDisk.calls kj127 _ _ t302 1 t317 _ ?side1 ?side2 A173.out).mono ?_); (case side1 => repeat (first | exact (Kd.R_reads' HO_293000.out).2.2 | (with_reducible refine Kd.C_alloc ?_ _) | (with_reducible refine Kd.C_drewN ?_ _) | (with_reducible refine Kd.C_drew ?_))); (case side2 => exact (Kd.R_reads' HO_293000.out).2.1); rintro e w182 ⟨rfl, hb⟩; refine ⟨_, rfl, ?_⟩; replace HO_280000 := Aside0.mk (Kd.R_below (RQ HO_280000.out) hb); replace HO_284000 := Aside0.mk (Kd.R_below (RQ HO_284000.out) hb); replace HO_293000 := Aside0.mk (Kd.R_below (RQ HO_293000.out) hb); replace HO_316000 := Aside0.mk (Kd.R_below (RQ HO_316000.out) hb); replace BK264 := BB BK264.out hb; replace BK265 := BB BK265.out hb; replace BK279 := BB BK279.out hb; replace BK283 := BB BK283.out hb; replace BK292 := BB BK292.out hb; replace BK315 := BB BK315.out hb; replace HB := Aside0.mk (below_step (BL) hb); (try clear hb); (try clear hb2); (try clear hk); (try clear hi)))
       go_ret
       exact ⟨EE, BL⟩

/-- THE PURE STATEMENT of laws_FnExactDoAct. -/
def laws_FnExactDoAct.Pure : Prop := ∀ (l0_0 : List (S94)) (a1_0 : Int) (a1_1 : ByteArray) (a1_2 : ByteArray) (a1_3 : ByteArray), ((∀ x_ ∈ l0_0, (x_.f0.size ≤ maxLen ∧ x_.f1.size ≤ maxLen ∧ (Lit.int .i64 x_.f2).wf = true)) ∧ l0_0.length ≤ maxLen) → (Lit.int .i64 a1_0).wf = true → a1_1.size ≤ maxLen → a1_2.size ≤ maxLen → a1_3.size ≤ maxLen → ∃ k, laws_FnExactDoAct.f k l0_0 a1_0 a1_1 a1_2 a1_3 = some true

end Go.Proofs.Ythfppepnpngfmaa.Qda
