-- Laid by myprint.py, a program of this session's own, over the kit's print. Not trusted: Lean checks it.
import Derived.Test.YthfppepnpngfmaaQdox0
import Derived.Test.YthfppepnpngfmaaQdox11
import Derived.Test.YthfppepnpngfmaaQdox12
namespace Go.Proofs.Ythfppepnpngfmaa.Qdo
open Go.RowKit Go.Proofs.YthfppepnpngfmaaW.PrintWords Go.Proofs.YthfppepnpngfmaaW.PrintLast Go.Proofs.YthfppepnpngfmaaW.PrintMore
attribute [local go_sem] Go.Proofs.Ythfppepnpngfmaa.StrCmp.gtr_less Go.Proofs.Ythfppepnpngfmaa.StrCmp.geq_less Go.Proofs.Ythfppepnpngfmaa.StrCmp.leq_less max2_int min2_int max_two min_two max_three min_three max_four min_four   -- for this text's walks alone
set_option linter.unusedVariables false
set_option linter.unusedSimpArgs false

/-! ### impl_DoAct: function 37 -/
mutual
def impl_DoAct.j0 : Nat → Int → Bool → List (S45) → Int → ByteArray → ByteArray → ByteArray → Option ((List (S45)) × Bool)
 | 0, _, _, _, _, _, _, _ => none
 | k + 1, x6, x29, x263000, x264000, x264001, x264002, x264003 => if x29 = true then (some (([] : List (S45)), false)) else (if x6 ≥ 0 then (if 0 ≤ x6 then (if x6 < (x263000.length : Int) then (impl_DoAct.j1 k x263000 x264000 x264001 x264002 x264003 ((rd_T45 x263000 x6).f0) ((rd_T45 x263000 x6).f1) ((rd_T45 x263000 x6).f2)) else (none)) else (none)) else (impl_DoAct.j1 k x263000 x264000 x264001 x264002 x264003 x264001 (⟨#[]⟩ : ByteArray) 0))
def impl_DoAct.j1 : Nat → List (S45) → Int → ByteArray → ByteArray → ByteArray → ByteArray → ByteArray → Int → Option ((List (S45)) × Bool)
 | 0, _, _, _, _, _, _, _, _ => none
 | k + 1, x263000, x264000, x264001, x264002, x264003, x269000, x269001, x269002 => if x264000 = 1 then (if x269001.size + x264002.size ≤ 9223372036854775807 then ((impl_withFile.f x263000 x269000 (x269001 ++ x264002) x269002).bind fun t271 => ((impl_DiskOk.f k t271).bind fun t274 => (if t274 = true then (some (t271, true)) else (some (([] : List (S45)), false))))) else (none)) else (if x264000 = 2 then ((impl_withFile.f x263000 x269000 x269001 (x269001.size : Int)).bind fun t275 => ((impl_DiskOk.f k t275).bind fun t278 => (if t278 = true then (some (t275, true)) else (some (([] : List (S45)), false))))) else (if x264000 = 3 then (if x269002 = (x269001.size : Int) then (impl_DoAct.j2 k (x264003.toList == x264001.toList) x263000 x264000 x264001 x264002 x264003 x269000 x269001 x269002) else (impl_DoAct.j2 k true x263000 x264000 x264001 x264002 x264003 x269000 x269001 x269002)) else ((impl_withoutFile.f x263000 x264001).bind fun t286 => ((impl_DiskOk.f k t286).bind fun t289 => (if t289 = true then (some (t286, true)) else (some (([] : List (S45)), false)))))))
def impl_DoAct.j2 : Nat → Bool → List (S45) → Int → ByteArray → ByteArray → ByteArray → ByteArray → ByteArray → Int → Option ((List (S45)) × Bool)
 | 0, _, _, _, _, _, _, _, _, _ => none
 | k + 1, x82, x263000, x264000, x264001, x264002, x264003, x269000, x269001, x269002 => if x82 = true then (some (([] : List (S45)), false)) else ((impl_withoutFile.f x263000 x264001).bind fun t279 => ((impl_withFile.f t279 x264003 x269001 x269002).bind fun t282 => ((impl_DiskOk.f k t282).bind fun t285 => (if t285 = true then (some (t282, true)) else (some (([] : List (S45)), false))))))
end
def impl_DoAct.f (k : Nat) (l0_0 : List (S45)) (a1_0 : Int) (a1_1 : ByteArray) (a1_2 : ByteArray) (a1_3 : ByteArray) : Option ((List (S45)) × Bool) := (impl_placeOf.f l0_0 a1_1).bind fun t265 => ((impl_DiskOk.f k l0_0).bind fun t266 => (if t266 = true then ((impl_actOk.f a1_0 a1_1 a1_2 a1_3).bind fun t267 => (if t267 = true then (if t265 < 0 then (impl_DoAct.j0 k t265 (a1_0 != 1) l0_0 a1_0 a1_1 a1_2 a1_3) else (impl_DoAct.j0 k t265 false l0_0 a1_0 a1_1 a1_2 a1_3)) else (impl_DoAct.j0 k t265 true l0_0 a1_0 a1_1 a1_2 a1_3))) else (impl_DoAct.j0 k t265 true l0_0 a1_0 a1_1 a1_2 a1_3)))
theorem impl_DoAct.mono_l : ∀ k, (∀ y0 y1 y2 y3 y4 y5 y6, LeO (impl_DoAct.j0 k y0 y1 y2 y3 y4 y5 y6) (impl_DoAct.j0 (k + 1) y0 y1 y2 y3 y4 y5 y6)) ∧ (∀ y0 y1 y2 y3 y4 y5 y6 y7, LeO (impl_DoAct.j1 k y0 y1 y2 y3 y4 y5 y6 y7) (impl_DoAct.j1 (k + 1) y0 y1 y2 y3 y4 y5 y6 y7)) ∧ (∀ y0 y1 y2 y3 y4 y5 y6 y7 y8, LeO (impl_DoAct.j2 k y0 y1 y2 y3 y4 y5 y6 y7 y8) (impl_DoAct.j2 (k + 1) y0 y1 y2 y3 y4 y5 y6 y7 y8))
 | 0 => ⟨fun _ _ _ _ _ _ _ r h => by simp [impl_DoAct.j0] at h, fun _ _ _ _ _ _ _ _ r h => by simp [impl_DoAct.j1] at h, fun _ _ _ _ _ _ _ _ _ r h => by simp [impl_DoAct.j2] at h⟩
 | k + 1 => by
  obtain ⟨ih0, ih1, ih2⟩ := impl_DoAct.mono_l k
  refine ⟨?_, ?_, ?_⟩
  ·
   intro y0 y1 y2 y3 y4 y5 y6
   unfold impl_DoAct.j0
   repeat' first
   | (with_reducible exact ih0 _ _ _ _ _ _ _)
   | (with_reducible exact ih1 _ _ _ _ _ _ _ _)
   | (with_reducible exact ih2 _ _ _ _ _ _ _ _ _)
   | (with_reducible exact impl_DiskOk.mono _ _)
   | (with_reducible exact LeO.refl _)
   | (with_reducible exact LeO.none _)
   | (with_reducible refine LeO.ite ?_ ?_)
   | (with_reducible refine LeO.bind ?_ (fun _ => ?_))
   | exact ih0 _ _ _ _ _ _ _
   | exact ih1 _ _ _ _ _ _ _ _
   | exact ih2 _ _ _ _ _ _ _ _ _
   | exact impl_DiskOk.mono _ _
   | exact LeO.none _
   | refine LeO.ite ?_ ?_
   | refine LeO.bind ?_ (fun _ => ?_)
  ·
   intro y0 y1 y2 y3 y4 y5 y6 y7
   unfold impl_DoAct.j1
   repeat' first
   | (with_reducible exact ih0 _ _ _ _ _ _ _)
   | (with_reducible exact ih1 _ _ _ _ _ _ _ _)
   | (with_reducible exact ih2 _ _ _ _ _ _ _ _ _)
   | (with_reducible exact impl_DiskOk.mono _ _)
   | (with_reducible exact LeO.refl _)
   | (with_reducible exact LeO.none _)
   | (with_reducible refine LeO.ite ?_ ?_)
   | (with_reducible refine LeO.bind ?_ (fun _ => ?_))
   | exact ih0 _ _ _ _ _ _ _
   | exact ih1 _ _ _ _ _ _ _ _
   | exact ih2 _ _ _ _ _ _ _ _ _
   | exact impl_DiskOk.mono _ _
   | exact LeO.none _
   | refine LeO.ite ?_ ?_
   | refine LeO.bind ?_ (fun _ => ?_)
  ·
   intro y0 y1 y2 y3 y4 y5 y6 y7 y8
   unfold impl_DoAct.j2
   repeat' first
   | (with_reducible exact ih0 _ _ _ _ _ _ _)
   | (with_reducible exact ih1 _ _ _ _ _ _ _ _)
   | (with_reducible exact ih2 _ _ _ _ _ _ _ _ _)
   | (with_reducible exact impl_DiskOk.mono _ _)
   | (with_reducible exact LeO.refl _)
   | (with_reducible exact LeO.none _)
   | (with_reducible refine LeO.ite ?_ ?_)
   | (with_reducible refine LeO.bind ?_ (fun _ => ?_))
   | exact ih0 _ _ _ _ _ _ _
   | exact ih1 _ _ _ _ _ _ _ _
   | exact ih2 _ _ _ _ _ _ _ _ _
   | exact impl_DiskOk.mono _ _
   | exact LeO.none _
   | refine LeO.ite ?_ ?_
   | refine LeO.bind ?_ (fun _ => ?_)
theorem impl_DoAct.mono : ∀ a0 a1 a2 a3 a4 k, LeO (impl_DoAct.f k a0 a1 a2 a3 a4) (impl_DoAct.f (k + 1) a0 a1 a2 a3 a4) := by
 intro a0 a1 a2 a3 a4 k
 obtain ⟨ih0, ih1, ih2⟩ := impl_DoAct.mono_l k
 unfold impl_DoAct.f
 repeat' first
   | (with_reducible exact ih0 _ _ _ _ _ _ _)
   | (with_reducible exact ih1 _ _ _ _ _ _ _ _)
   | (with_reducible exact ih2 _ _ _ _ _ _ _ _ _)
   | (with_reducible exact impl_DiskOk.mono _ _)
   | (with_reducible exact LeO.refl _)
   | (with_reducible exact LeO.none _)
   | (with_reducible refine LeO.ite ?_ ?_)
   | (with_reducible refine LeO.bind ?_ (fun _ => ?_))
   | exact ih0 _ _ _ _ _ _ _
   | exact ih1 _ _ _ _ _ _ _ _
   | exact ih2 _ _ _ _ _ _ _ _ _
   | exact impl_DiskOk.mono _ _
   | exact LeO.none _
   | refine LeO.ite ?_ ?_
   | refine LeO.bind ?_ (fun _ => ?_)
set_option maxHeartbeats 8000000 in
set_option maxRecDepth 100000 in
theorem impl_DoAct.calls (k : Nat) (A0_0 : Option Addr) (c0_0 : Nat) (l0_0 : List (S45)) (a1_0 : Int) (a1_1 : ByteArray) (a1_2 : ByteArray) (a1_3 : ByteArray) (r1 : List (S45)) (r2 : Bool) (w : World) (hr0_0 : Kd.C k45 w A0_0 l0_0.length l0_0) (hc0_0 : l0_0.length ≤ c0_0) (h : impl_DoAct.f k l0_0 a1_0 a1_1 a1_2 a1_3 = some (r1, r2)) :
  Calls Try.prog 37 #[.agg #[.slice A0_0 l0_0.length c0_0], .agg #[.int .i64 a1_0, .string a1_1, .string a1_2, .string a1_3]] w fun e w' => ∃ v0_ : Value, e = .returned (.tuple #[.agg #[v0_], .bool r2]) ∧ Kd.R k45 45 w' w.heap.size (fun _ => True) v0_ r1 ∧ Below w.heap.size w w' := by
 have hu29 := Try.underlying29
 have hu55 := Try.underlying55
 have hu45 := Try.underlying45
 have HR0_0 := Aside0.mk hr0_0
 have HC0_0 := Aside0.mk hc0_0
 clear hr0_0 hc0_0
 have HB := Aside0.mk (Below.refl w.heap.size w)
 have H : ((impl_placeOf.f l0_0 a1_1).bind fun t265 => ((impl_DiskOk.f k l0_0).bind fun t266 => (if t266 = true then ((impl_actOk.f a1_0 a1_1 a1_2 a1_3).bind fun t267 => (if t267 = true then (if t265 < 0 then (impl_DoAct.j0 k t265 (a1_0 != 1) l0_0 a1_0 a1_1 a1_2 a1_3) else (impl_DoAct.j0 k t265 false l0_0 a1_0 a1_1 a1_2 a1_3)) else (impl_DoAct.j0 k t265 true l0_0 a1_0 a1_1 a1_2 a1_3))) else (impl_DoAct.j0 k t265 true l0_0 a1_0 a1_1 a1_2 a1_3)))) = some (r1, r2) := h
 clear h
 replace H := Option.bind_eq_some_iff.mp H
 obtain ⟨t265, A30, H⟩ := H
 replace H : ((impl_DiskOk.f k l0_0).bind fun t266 => (if t266 = true then ((impl_actOk.f a1_0 a1_1 a1_2 a1_3).bind fun t267 => (if t267 = true then (if t265 < 0 then (impl_DoAct.j0 k t265 (a1_0 != 1) l0_0 a1_0 a1_1 a1_2 a1_3) else (impl_DoAct.j0 k t265 false l0_0 a1_0 a1_1 a1_2 a1_3)) else (impl_DoAct.j0 k t265 true l0_0 a1_0 a1_1 a1_2 a1_3))) else (impl_DoAct.j0 k t265 true l0_0 a1_0 a1_1 a1_2 a1_3))) = some (r1, r2) := H
 have A3 := Aside0.mk A30
 clear A30
 have HC4 := Aside0.mk H
 clear H
 go_enter Try.func37, Try.ntmps37
 go_upto_region 2 with (first | ((with_reducible refine gate_dst (N := 2) rfl ?_); refine bE 2 #[.slice A0_0 l0_0.length c0_0] 29 ?_; intro gb262 hg w5 hbox hb; have BK262 := Aside0.mk (hbox); have GW262 : Aside0 (w.heap.size ≤ gb262) := GS; have GE262 : Aside0 (w.heap.size ≤ gb262) := GS; replace HB := Aside0.mk (below_step (BL) hb); clear hb hbox hg) | ((with_reducible refine gate_dst (N := 3) rfl ?_); refine bE 3 #[.int .i64 a1_0, .string a1_1, .string a1_2, .string a1_3] 55 ?_; intro gb263 hg w6 hbox hb; have BK263 := Aside0.mk (hbox); have GW263 : Aside0 (w.heap.size ≤ gb263) := GS; have GE263 : Aside0 (w.heap.size ≤ gb263) := GS; have NB262_263 := NL BK262.out hg; have NB263_262 := NG BK262.out hg; replace BK262 := BB BK262.out hb; replace HB := Aside0.mk (below_step (BL) hb); clear hb hbox hg) | ((with_reducible refine gate_dst (N := 4) rfl ?_); refine bE 4 #[.slice none 0 0] 29 ?_; intro gb264 hg w7 hbox hb; have BK264 := Aside0.mk (hbox); have GW264 : Aside0 (w.heap.size ≤ gb264) := GS; have GE264 : Aside0 (w.heap.size ≤ gb264) := GS; have NB262_264 := NL BK262.out hg; have NB264_262 := NG BK262.out hg; have NB263_264 := NL BK263.out hg; have NB264_263 := NG BK263.out hg; replace BK262 := BB BK262.out hb; replace BK263 := BB BK263.out hb; replace HB := Aside0.mk (below_step (BL) hb); clear hb hbox hg; have hnb8 := NB262_263.out; have hnc8 := NB263_262.out; have hnb9 := NB262_264.out; have hnc9 := NB264_262.out; have hcz10_0 : w7.cell? ⟨gb262, 0, none⟩ = some (.slice A0_0 l0_0.length c0_0) := CZ BK262.out 0; have hfz10_0 := blk_frozen BK262.out 0; have hnb11 := NB263_264.out; have hnc11 := NB264_263.out; have hcz12_0 : w7.cell? ⟨gb263, 0, none⟩ = some (.int .i64 a1_0) := CZ BK263.out 0; have hcz12_1 : w7.cell? ⟨gb263, 1, none⟩ = some (.string a1_1) := CZ BK263.out 1; have hcz12_2 : w7.cell? ⟨gb263, 2, none⟩ = some (.string a1_2) := CZ BK263.out 2; have hcz12_3 : w7.cell? ⟨gb263, 3, none⟩ = some (.string a1_3) := CZ BK263.out 3; have hfz12_0 := blk_frozen BK263.out 0; have hfz12_1 := blk_frozen BK263.out 1; have hfz12_2 := blk_frozen BK263.out 2; have hfz12_3 := blk_frozen BK263.out 3) | ((with_reducible refine gate_callee (f := 54) rfl ?_); refine goesL_ (some 12) rfl rfl Try.func54 (by kernel_rfl) rfl #[.agg #[.slice A0_0 l0_0.length c0_0], .string a1_1] rfl (MA) ?_; (with_reducible refine (impl_placeOf.calls _ _ l0_0 a1_1 t265 _ ?side1 ?side2 A3.out).mono ?_); (case side1 => repeat (first | exact (Kd.C_below HR0_0.out HB.out) | (with_reducible refine Kd.C_alloc ?_ _) | (with_reducible refine Kd.C_drewN ?_ _) | (with_reducible refine Kd.C_drew ?_))); (case side2 => exact HC0_0.out); rintro e w13 ⟨rfl, hb⟩; refine ⟨_, rfl, ?_⟩; replace BK262 := BB BK262.out hb; replace BK263 := BB BK263.out hb; replace BK264 := BB BK264.out hb; replace HB := Aside0.mk (below_step (BL) hb); (try clear hb); (try clear hb2); (try clear hk); (try clear hi)))
 (try simp only [Act.put, zA, zB, zC])
 go_cut [29] (fun v29 wc => ∃ (kq : Nat) (x29_3 : Bool), v29 = .bool x29_3 ∧ Aside0 (impl_DoAct.j0 kq t265 x29_3 l0_0 a1_0 a1_1 a1_2 a1_3 = some (r1, r2)) ∧ Aside0 (kq ≤ k) ∧ Aside0 (wc.heap[gb262]? = some (.cells #[(.slice A0_0 l0_0.length c0_0)] 29 (0, 0))) ∧ Aside0 (wc.heap[gb263]? = some (.cells #[.int .i64 a1_0, .string a1_1, .string a1_2, .string a1_3] 55 (0, 0))) ∧ Aside0 (wc.heap[gb264]? = some (.cells #[(.slice none 0 0)] 29 (0, 0))) ∧ Aside0 (Below w.heap.size w wc))
 case first =>
  have H := HC4.out
  clear HC4
  replace H := Option.bind_eq_some_iff.mp H
  obtain ⟨t266, A140, H⟩ := H
  replace H : (if t266 = true then ((impl_actOk.f a1_0 a1_1 a1_2 a1_3).bind fun t267 => (if t267 = true then (if t265 < 0 then (impl_DoAct.j0 k t265 (a1_0 != 1) l0_0 a1_0 a1_1 a1_2 a1_3) else (impl_DoAct.j0 k t265 false l0_0 a1_0 a1_1 a1_2 a1_3)) else (impl_DoAct.j0 k t265 true l0_0 a1_0 a1_1 a1_2 a1_3))) else (impl_DoAct.j0 k t265 true l0_0 a1_0 a1_1 a1_2 a1_3)) = some (r1, r2) := H
  have A14 := Aside0.mk A140
  clear A140
  by_cases c15 : t266 = true; rotate_left
  ·
   replace c15 := Bool.eq_false_iff.mpr c15
   subst c15
   have H1 : (impl_DoAct.j0 k t265 true l0_0 a1_0 a1_1 a1_2 a1_3) = some (r1, r2) := by rw [if_neg (show ¬ (false = true) by decide)] at H; exact H
   clear H
   have H := H1
   clear H1
   have H' := Aside0.mk H
   clear H
   have hnb41 := NB262_263.out
   have hnc41 := NB263_262.out
   have hnb42 := NB262_264.out
   have hnc42 := NB264_262.out
   have hcz43_0 : w13.cell? ⟨gb262, 0, none⟩ = some (.slice A0_0 l0_0.length c0_0) := CZ BK262.out 0
   have hfz43_0 := blk_frozen BK262.out 0
   go_wp2_with (first | ((with_reducible refine gate_callee (f := 15) rfl ?_); refine goesL_ (some 14) rfl rfl Try.func15 (by kernel_rfl) rfl #[.agg #[.slice A0_0 l0_0.length c0_0]] rfl (MA) ?_; (with_reducible refine (impl_DiskOk.calls k _ _ l0_0 false _ ?side1 ?side2 A14.out).mono ?_); (case side1 => repeat (first | exact (Kd.C_below HR0_0.out HB.out) | (with_reducible refine Kd.C_alloc ?_ _) | (with_reducible refine Kd.C_drewN ?_ _) | (with_reducible refine Kd.C_drew ?_))); (case side2 => exact HC0_0.out); rintro e w44 ⟨rfl, hb⟩; refine ⟨_, rfl, ?_⟩; replace BK262 := BB BK262.out hb; replace BK263 := BB BK263.out hb; replace BK264 := BB BK264.out hb; replace HB := Aside0.mk (below_step (BL) hb); (try clear hb); (try clear hb2); (try clear hk); (try clear hi)))
   go_meet
   case rel => exact ⟨_, (true), SD, H', ⟨by first | omega | exact Nat.le_refl _⟩, ⟨BQ BK262.out⟩, ⟨BQ BK263.out⟩, ⟨BQ BK264.out⟩, ⟨BL⟩⟩
  subst c15
  have H1 : ((impl_actOk.f a1_0 a1_1 a1_2 a1_3).bind fun t267 => (if t267 = true then (if t265 < 0 then (impl_DoAct.j0 k t265 (a1_0 != 1) l0_0 a1_0 a1_1 a1_2 a1_3) else (impl_DoAct.j0 k t265 false l0_0 a1_0 a1_1 a1_2 a1_3)) else (impl_DoAct.j0 k t265 true l0_0 a1_0 a1_1 a1_2 a1_3))) = some (r1, r2) := by rw [if_pos rfl] at H; exact H
  clear H
  have H := H1
  clear H1
  replace H := Option.bind_eq_some_iff.mp H
  obtain ⟨t267, A160, H⟩ := H
  replace H : (if t267 = true then (if t265 < 0 then (impl_DoAct.j0 k t265 (a1_0 != 1) l0_0 a1_0 a1_1 a1_2 a1_3) else (impl_DoAct.j0 k t265 false l0_0 a1_0 a1_1 a1_2 a1_3)) else (impl_DoAct.j0 k t265 true l0_0 a1_0 a1_1 a1_2 a1_3)) = some (r1, r2) := H
  have A16 := Aside0.mk A160
  clear A160
  by_cases c17 : t267 = true; rotate_left
  ·
   replace c17 := Bool.eq_false_iff.mpr c17
   subst c17
   have H1 : (impl_DoAct.j0 k t265 true l0_0 a1_0 a1_1 a1_2 a1_3) = some (r1, r2) := by rw [if_neg (show ¬ (false = true) by decide)] at H; exact H
   clear H
   have H := H1
   clear H1
   have H' := Aside0.mk H
   clear H
   have hnb34 := NB262_263.out
   have hnc34 := NB263_262.out
   have hnb35 := NB262_264.out
   have hnc35 := NB264_262.out
   have hcz36_0 : w13.cell? ⟨gb262, 0, none⟩ = some (.slice A0_0 l0_0.length c0_0) := CZ BK262.out 0
   have hfz36_0 := blk_frozen BK262.out 0
   go_wp2_with (first | ((with_reducible refine gate_callee (f := 15) rfl ?_); refine goesL_ (some 14) rfl rfl Try.func15 (by kernel_rfl) rfl #[.agg #[.slice A0_0 l0_0.length c0_0]] rfl (MA) ?_; (with_reducible refine (impl_DiskOk.calls k _ _ l0_0 true _ ?side1 ?side2 A14.out).mono ?_); (case side1 => repeat (first | exact (Kd.C_below HR0_0.out HB.out) | (with_reducible refine Kd.C_alloc ?_ _) | (with_reducible refine Kd.C_drewN ?_ _) | (with_reducible refine Kd.C_drew ?_))); (case side2 => exact HC0_0.out); rintro e w37 ⟨rfl, hb⟩; refine ⟨_, rfl, ?_⟩; replace BK262 := BB BK262.out hb; replace BK263 := BB BK263.out hb; replace BK264 := BB BK264.out hb; replace HB := Aside0.mk (below_step (BL) hb); (try clear hb); (try clear hb2); (try clear hk); (try clear hi); have hnb38 := NB263_264.out; have hnc38 := NB264_263.out; have hcz39_0 : w37.cell? ⟨gb263, 0, none⟩ = some (.int .i64 a1_0) := CZ BK263.out 0; have hcz39_1 : w37.cell? ⟨gb263, 1, none⟩ = some (.string a1_1) := CZ BK263.out 1; have hcz39_2 : w37.cell? ⟨gb263, 2, none⟩ = some (.string a1_2) := CZ BK263.out 2; have hcz39_3 : w37.cell? ⟨gb263, 3, none⟩ = some (.string a1_3) := CZ BK263.out 3; have hfz39_0 := blk_frozen BK263.out 0; have hfz39_1 := blk_frozen BK263.out 1; have hfz39_2 := blk_frozen BK263.out 2; have hfz39_3 := blk_frozen BK263.out 3) | (go_at_call 65; (with_reducible refine (impl_actOk.calls a1_0 a1_1 a1_2 a1_3 false _ A16.out).mono ?_); rintro e w40 ⟨rfl, hb⟩; replace BK262 := BB BK262.out hb; replace BK263 := BB BK263.out hb; replace BK264 := BB BK264.out hb; replace HB := Aside0.mk (below_step (BL) hb); (try clear hb); (try clear hb2); (try clear hk); (try clear hi)))
   go_meet
   case rel => exact ⟨_, (true), SD, H', ⟨by first | omega | exact Nat.le_refl _⟩, ⟨BQ BK262.out⟩, ⟨BQ BK263.out⟩, ⟨BQ BK264.out⟩, ⟨BL⟩⟩
  subst c17
  have H1 : (if t265 < 0 then (impl_DoAct.j0 k t265 (a1_0 != 1) l0_0 a1_0 a1_1 a1_2 a1_3) else (impl_DoAct.j0 k t265 false l0_0 a1_0 a1_1 a1_2 a1_3)) = some (r1, r2) := by rw [if_pos rfl] at H; exact H
  clear H
  have H := H1
  clear H1
  by_cases c18 : t265 < 0
  ·
   rw [if_pos c18] at H
   have c18b0 : decide (t265 < 0) = true := decide_eq_true c18
   clear c18
   (first | rw [c18b0] | (simp only [i64_w, i32_w]; rw [c18b0]) | skip)
   have H' := Aside0.mk H
   clear H
   have hnb19 := NB262_263.out
   have hnc19 := NB263_262.out
   have hnb20 := NB262_264.out
   have hnc20 := NB264_262.out
   have hcz21_0 : w13.cell? ⟨gb262, 0, none⟩ = some (.slice A0_0 l0_0.length c0_0) := CZ BK262.out 0
   have hfz21_0 := blk_frozen BK262.out 0
   go_wp2_with (first | ((with_reducible refine gate_callee (f := 15) rfl ?_); refine goesL_ (some 14) rfl rfl Try.func15 (by kernel_rfl) rfl #[.agg #[.slice A0_0 l0_0.length c0_0]] rfl (MA) ?_; (with_reducible refine (impl_DiskOk.calls k _ _ l0_0 true _ ?side1 ?side2 A14.out).mono ?_); (case side1 => repeat (first | exact (Kd.C_below HR0_0.out HB.out) | (with_reducible refine Kd.C_alloc ?_ _) | (with_reducible refine Kd.C_drewN ?_ _) | (with_reducible refine Kd.C_drew ?_))); (case side2 => exact HC0_0.out); rintro e w22 ⟨rfl, hb⟩; refine ⟨_, rfl, ?_⟩; replace BK262 := BB BK262.out hb; replace BK263 := BB BK263.out hb; replace BK264 := BB BK264.out hb; replace HB := Aside0.mk (below_step (BL) hb); (try clear hb); (try clear hb2); (try clear hk); (try clear hi); have hnb23 := NB263_264.out; have hnc23 := NB264_263.out; have hcz24_0 : w22.cell? ⟨gb263, 0, none⟩ = some (.int .i64 a1_0) := CZ BK263.out 0; have hcz24_1 : w22.cell? ⟨gb263, 1, none⟩ = some (.string a1_1) := CZ BK263.out 1; have hcz24_2 : w22.cell? ⟨gb263, 2, none⟩ = some (.string a1_2) := CZ BK263.out 2; have hcz24_3 : w22.cell? ⟨gb263, 3, none⟩ = some (.string a1_3) := CZ BK263.out 3; have hfz24_0 := blk_frozen BK263.out 0; have hfz24_1 := blk_frozen BK263.out 1; have hfz24_2 := blk_frozen BK263.out 2; have hfz24_3 := blk_frozen BK263.out 3) | (go_at_call 65; (with_reducible refine (impl_actOk.calls a1_0 a1_1 a1_2 a1_3 true _ A16.out).mono ?_); rintro e w25 ⟨rfl, hb⟩; replace BK262 := BB BK262.out hb; replace BK263 := BB BK263.out hb; replace BK264 := BB BK264.out hb; replace HB := Aside0.mk (below_step (BL) hb); (try clear hb); (try clear hb2); (try clear hk); (try clear hi); have hcz26_0 : w25.cell? ⟨gb263, 0, none⟩ = some (.int .i64 a1_0) := CZ BK263.out 0; have hcz26_1 : w25.cell? ⟨gb263, 1, none⟩ = some (.string a1_1) := CZ BK263.out 1; have hcz26_2 : w25.cell? ⟨gb263, 2, none⟩ = some (.string a1_2) := CZ BK263.out 2; have hcz26_3 : w25.cell? ⟨gb263, 3, none⟩ = some (.string a1_3) := CZ BK263.out 3; have hfz26_0 := blk_frozen BK263.out 0; have hfz26_1 := blk_frozen BK263.out 1; have hfz26_2 := blk_frozen BK263.out 2; have hfz26_3 := blk_frozen BK263.out 3))
   go_meet
   case rel => exact ⟨_, ((a1_0 != 1)), SD, H', ⟨by first | omega | exact Nat.le_refl _⟩, ⟨BQ BK262.out⟩, ⟨BQ BK263.out⟩, ⟨BQ BK264.out⟩, ⟨BL⟩⟩
  rw [if_neg c18] at H
  have c18b0 : decide (t265 < 0) = false := decide_eq_false c18
  clear c18
  (first | rw [c18b0] | (simp only [i64_w, i32_w]; rw [c18b0]) | skip)
  have H' := Aside0.mk H
  clear H
  have hnb27 := NB262_263.out
  have hnc27 := NB263_262.out
  have hnb28 := NB262_264.out
  have hnc28 := NB264_262.out
  have hcz29_0 : w13.cell? ⟨gb262, 0, none⟩ = some (.slice A0_0 l0_0.length c0_0) := CZ BK262.out 0
  have hfz29_0 := blk_frozen BK262.out 0
  go_wp2_with (first | ((with_reducible refine gate_callee (f := 15) rfl ?_); refine goesL_ (some 14) rfl rfl Try.func15 (by kernel_rfl) rfl #[.agg #[.slice A0_0 l0_0.length c0_0]] rfl (MA) ?_; (with_reducible refine (impl_DiskOk.calls k _ _ l0_0 true _ ?side1 ?side2 A14.out).mono ?_); (case side1 => repeat (first | exact (Kd.C_below HR0_0.out HB.out) | (with_reducible refine Kd.C_alloc ?_ _) | (with_reducible refine Kd.C_drewN ?_ _) | (with_reducible refine Kd.C_drew ?_))); (case side2 => exact HC0_0.out); rintro e w30 ⟨rfl, hb⟩; refine ⟨_, rfl, ?_⟩; replace BK262 := BB BK262.out hb; replace BK263 := BB BK263.out hb; replace BK264 := BB BK264.out hb; replace HB := Aside0.mk (below_step (BL) hb); (try clear hb); (try clear hb2); (try clear hk); (try clear hi); have hnb31 := NB263_264.out; have hnc31 := NB264_263.out; have hcz32_0 : w30.cell? ⟨gb263, 0, none⟩ = some (.int .i64 a1_0) := CZ BK263.out 0; have hcz32_1 : w30.cell? ⟨gb263, 1, none⟩ = some (.string a1_1) := CZ BK263.out 1; have hcz32_2 : w30.cell? ⟨gb263, 2, none⟩ = some (.string a1_2) := CZ BK263.out 2; have hcz32_3 : w30.cell? ⟨gb263, 3, none⟩ = some (.string a1_3) := CZ BK263.out 3; have hfz32_0 := blk_frozen BK263.out 0; have hfz32_1 := blk_frozen BK263.out 1; have hfz32_2 := blk_frozen BK263.out 2; have hfz32_3 := blk_frozen BK263.out 3) | (go_at_call 65; (with_reducible refine (impl_actOk.calls a1_0 a1_1 a1_2 a1_3 true _ A16.out).mono ?_); rintro e w33 ⟨rfl, hb⟩; replace BK262 := BB BK262.out hb; replace BK263 := BB BK263.out hb; replace BK264 := BB BK264.out hb; replace HB := Aside0.mk (below_step (BL) hb); (try clear hb); (try clear hb2); (try clear hk); (try clear hi)))
  go_meet
  case rel => exact ⟨_, (false), SD, H', ⟨by first | omega | exact Nat.le_refl _⟩, ⟨BQ BK262.out⟩, ⟨BQ BK263.out⟩, ⟨BQ BK264.out⟩, ⟨BL⟩⟩
 case rest =>
  clear HC4
  try clear c1
  try clear c2
  try clear p2
  try clear c3
  try clear c4
  try clear c5
  try clear c8
  try clear c9
  try clear c11
  try clear c15
  try clear c17
  try clear c18
  try clear c18b0
  try clear c19
  try clear c20
  try clear c23
  try clear c27
  try clear c28
  try clear c31
  try clear c34
  try clear c35
  try clear c37
  try clear c38
  try clear c41
  try clear c42
  try clear hcz10_0
  try clear hcz12_0
  try clear hcz12_1
  try clear hcz12_2
  try clear hcz12_3
  try clear hcz21_0
  try clear hcz24_0
  try clear hcz24_1
  try clear hcz24_2
  try clear hcz24_3
  try clear hcz26_0
  try clear hcz26_1
  try clear hcz26_2
  try clear hcz26_3
  try clear hcz29_0
  try clear hcz32_0
  try clear hcz32_1
  try clear hcz32_2
  try clear hcz32_3
  try clear hcz36_0
  try clear hcz39_0
  try clear hcz39_1
  try clear hcz39_2
  try clear hcz39_3
  try clear hcz43_0
  try clear hfz10_0
  try clear hfz12_0
  try clear hfz12_1
  try clear hfz12_2
  try clear hfz12_3
  try clear hfz21_0
  try clear hfz24_0
  try clear hfz24_1
  try clear hfz24_2
  try clear hfz24_3
  try clear hfz26_0
  try clear hfz26_1
  try clear hfz26_2
  try clear hfz26_3
  try clear hfz29_0
  try clear hfz32_0
  try clear hfz32_1
  try clear hfz32_2
  try clear hfz32_3
  try clear hfz36_0
  try clear hfz39_0
  try clear hfz39_1
  try clear hfz39_2
  try clear hfz39_3
  try clear hfz43_0
  obtain ⟨kq, x29_3, rfl, HA, HJ3, BK262, BK263, BK264, HB⟩ := hcut
  cases kq with
  | zero => exact absurd HA.out (by simp [impl_DoAct.j0])
  | succ kj3 =>
   have H := HA.out
   clear HA
   simp only [impl_DoAct.j0] at H
   by_cases c45 : x29_3 = true
   ·
    subst c45
    have H1 : (some (([] : List (S45)), false)) = some (r1, r2) := by rw [if_pos rfl] at H; exact H
    clear H
    have H := H1
    clear H1
    simp only [Option.some.injEq, Prod.mk.injEq] at H
    obtain ⟨rfl, rfl⟩ := H
    have hnb46 := NB264_262.out
    have hnc46 := NB262_264.out
    have hnb47 := NB264_263.out
    have hnc47 := NB263_264.out
    have hcz48_0 : wc.cell? ⟨gb264, 0, none⟩ = some (.slice none 0 0) := CZ BK264.out 0
    have hfz48_0 := blk_frozen BK264.out 0
    go_wp2
    refine bodyPost_ret (results_ct rfl _ _ gb264 29 #[.slice none 0 0] (0, 0) _ rfl (by (with_reducible repeat (first | apply b1 | apply b2 | apply b3)); refine blk_put (cs := #[.slice none 0 0]) ?_ 0 _ rfl; (with_reducible repeat (first | apply b1 | apply b2 | apply b3)); exact BK264.out) Try.underlying29 rfl (by kernel_rfl)) rfl ?_
    exact ⟨_, EE, by first | exact Kd.R_nil _ _ _ _ _ | exact Kd.N_nil _ _ _ _ _ | exact Kd.V_nil _ _ _ _ _ | exact Kd.Q_nil _ _ _ _ _ | exact Kd.S_nil _ _ _ _ _, BL⟩
   replace c45 := Bool.eq_false_iff.mpr c45
   subst c45
   have H1 : (if t265 ≥ 0 then (if 0 ≤ t265 then (if t265 < (l0_0.length : Int) then (impl_DoAct.j1 kj3 l0_0 a1_0 a1_1 a1_2 a1_3 ((rd_T45 l0_0 t265).f0) ((rd_T45 l0_0 t265).f1) ((rd_T45 l0_0 t265).f2)) else (none)) else (none)) else (impl_DoAct.j1 kj3 l0_0 a1_0 a1_1 a1_2 a1_3 a1_1 (⟨#[]⟩ : ByteArray) 0)) = some (r1, r2) := by rw [if_neg (show ¬ (false = true) by decide)] at H; exact H
   clear H
   have H := H1
   clear H1
   have HC49 := Aside0.mk H
   clear H
   have hnb50 := NB263_262.out
   have hnc50 := NB262_263.out
   have hnb51 := NB263_264.out
   have hnc51 := NB264_263.out
   have hcz52_0 : wc.cell? ⟨gb263, 0, none⟩ = some (.int .i64 a1_0) := CZ BK263.out 0
   have hcz52_1 : wc.cell? ⟨gb263, 1, none⟩ = some (.string a1_1) := CZ BK263.out 1
   have hcz52_2 : wc.cell? ⟨gb263, 2, none⟩ = some (.string a1_2) := CZ BK263.out 2
   have hcz52_3 : wc.cell? ⟨gb263, 3, none⟩ = some (.string a1_3) := CZ BK263.out 3
   have hfz52_0 := blk_frozen BK263.out 0
   have hfz52_1 := blk_frozen BK263.out 1
   have hfz52_2 := blk_frozen BK263.out 2
   have hfz52_3 := blk_frozen BK263.out 3
   go_upto_if 35 with (first | ((with_reducible refine gate_dst (N := 7) rfl ?_); refine bE 7 #[.string (⟨#[]⟩ : ByteArray), .string (⟨#[]⟩ : ByteArray), .int .i64 0] 45 ?_; intro gb268 hg w53 hbox hb; have BK268 := Aside0.mk (hbox); have GW268 : Aside0 (w.heap.size ≤ gb268) := GS; have GE268 : Aside0 (w.heap.size ≤ gb268) := GS; have NB262_268 := NL BK262.out hg; have NB268_262 := NG BK262.out hg; have NB263_268 := NL BK263.out hg; have NB268_263 := NG BK263.out hg; have NB264_268 := NL BK264.out hg; have NB268_264 := NG BK264.out hg; replace BK262 := BB BK262.out hb; replace BK263 := BB BK263.out hb; replace BK264 := BB BK264.out hb; replace HB := Aside0.mk (below_step (BL) hb); clear hb hbox hg; have hnb54 := NB268_262.out; have hnc54 := NB262_268.out; have hnb55 := NB268_263.out; have hnc55 := NB263_268.out; have hnb56 := NB268_264.out; have hnc56 := NB264_268.out; have hcz57_0 : w53.cell? ⟨gb268, 0, none⟩ = some (.string (⟨#[]⟩ : ByteArray)) := CZ BK268.out 0; have hcz57_1 : w53.cell? ⟨gb268, 1, none⟩ = some (.string (⟨#[]⟩ : ByteArray)) := CZ BK268.out 1; have hcz57_2 : w53.cell? ⟨gb268, 2, none⟩ = some (.int .i64 0) := CZ BK268.out 2; have hfz57_0 := blk_frozen BK268.out 0; have hfz57_1 := blk_frozen BK268.out 1; have hfz57_2 := blk_frozen BK268.out 2))
   (try simp only [Act.put, zA, zB, zC])
   go_cut [] (fun wc => ∃ (kq : Nat) (x269000_48 : ByteArray) (x269001_48 : ByteArray) (x269002_48 : Int), Aside0 (impl_DoAct.j1 kq l0_0 a1_0 a1_1 a1_2 a1_3 x269000_48 x269001_48 x269002_48 = some (r1, r2)) ∧ Aside0 (kq ≤ kj3) ∧ Aside0 (wc.heap[gb262]? = some (.cells #[(.slice A0_0 l0_0.length c0_0)] 29 (0, 0))) ∧ Aside0 (wc.heap[gb263]? = some (.cells #[.int .i64 a1_0, .string a1_1, .string a1_2, .string a1_3] 55 (0, 0))) ∧ Aside0 (wc.heap[gb264]? = some (.cells #[(.slice none 0 0)] 29 (0, 0))) ∧ Aside0 (wc.heap[gb268]? = some (.cells #[.string x269000_48, .string x269001_48, .int .i64 x269002_48] 45 (0, 0))) ∧ Aside0 (Below w.heap.size w wc))
   case first =>
    have H := HC49.out
    clear HC49
    by_cases c58 : t265 ≥ 0; rotate_left
    ·
     rw [if_neg c58] at H
     have c58b0 : decide (0 ≤ t265) = false := decide_eq_false c58
     clear c58
     (first | rw [c58b0] | (simp only [i64_w, i32_w]; rw [c58b0]) | skip)
     have H' := Aside0.mk H
     clear H
     go_wp2
     go_meet
     case rel => exact ⟨_, (a1_1), ((⟨#[]⟩ : ByteArray)), (0), H', ⟨by have := HJ3.out; first | omega | exact Nat.le_refl _⟩, ⟨by (with_reducible repeat (first | apply b1 | apply b2 | apply b3)); refine blk_far ?_ NB262_268.out _; (with_reducible repeat (first | apply b1 | apply b2 | apply b3)); refine blk_far ?_ NB262_268.out _; (with_reducible repeat (first | apply b1 | apply b2 | apply b3)); refine blk_far ?_ NB262_268.out _; (with_reducible repeat (first | apply b1 | apply b2 | apply b3)); exact BK262.out⟩, ⟨by (with_reducible repeat (first | apply b1 | apply b2 | apply b3)); refine blk_far ?_ NB263_268.out _; (with_reducible repeat (first | apply b1 | apply b2 | apply b3)); refine blk_far ?_ NB263_268.out _; (with_reducible repeat (first | apply b1 | apply b2 | apply b3)); refine blk_far ?_ NB263_268.out _; (with_reducible repeat (first | apply b1 | apply b2 | apply b3)); exact BK263.out⟩, ⟨by (with_reducible repeat (first | apply b1 | apply b2 | apply b3)); refine blk_far ?_ NB264_268.out _; (with_reducible repeat (first | apply b1 | apply b2 | apply b3)); refine blk_far ?_ NB264_268.out _; (with_reducible repeat (first | apply b1 | apply b2 | apply b3)); refine blk_far ?_ NB264_268.out _; (with_reducible repeat (first | apply b1 | apply b2 | apply b3)); exact BK264.out⟩, ⟨by (with_reducible repeat (first | apply b1 | apply b2 | apply b3)); refine blk_put (cs := #[.string a1_1, .string (⟨#[]⟩ : ByteArray), .int .i64 0]) ?_ 2 _ rfl; (with_reducible repeat (first | apply b1 | apply b2 | apply b3)); refine blk_put (cs := #[.string a1_1, .string (⟨#[]⟩ : ByteArray), .int .i64 0]) ?_ 1 _ rfl; (with_reducible repeat (first | apply b1 | apply b2 | apply b3)); refine blk_put (cs := #[.string (⟨#[]⟩ : ByteArray), .string (⟨#[]⟩ : ByteArray), .int .i64 0]) ?_ 0 _ rfl; (with_reducible repeat (first | apply b1 | apply b2 | apply b3)); exact BK268.out⟩, ⟨BL⟩⟩
    rw [if_pos c58] at H
    have c58b0 : decide (0 ≤ t265) = true := decide_eq_true c58
    clear c58
    (first | rw [c58b0] | (simp only [i64_w, i32_w]; rw [c58b0]) | skip)
    by_cases c59 : 0 ≤ t265; rotate_left
    ·
     rw [if_neg c59] at H
     exact absurd H (by simp)
    rw [if_pos c59] at H
    have c59b0 : decide (0 ≤ t265) = true := decide_eq_true c59
    clear c59
    by_cases c60 : t265 < (l0_0.length : Int); rotate_left
    ·
     rw [if_neg c60] at H
     exact absurd H (by simp)
    rw [if_pos c60] at H
    have c60b0 : decide (t265 < (l0_0.length : Int)) = true := decide_eq_true c60
    clear c60
    have H' := Aside0.mk H
    clear H
    have hnb61 := NB262_263.out
    have hnc61 := NB263_262.out
    have hnb62 := NB262_264.out
    have hnc62 := NB264_262.out
    have hnb63 := NB262_268.out
    have hnc63 := NB268_262.out
    have hcz64_0 : w53.cell? ⟨gb262, 0, none⟩ = some (.slice A0_0 l0_0.length c0_0) := CZ BK262.out 0
    have hfz64_0 := blk_frozen BK262.out 0
    have p269 : 0 ≤ (t265 : Int) := of_decide_eq_true AS
    have q269 : t265 < (l0_0.length : Int) := of_decide_eq_true AS
    obtain ⟨ad269, e269, hx269_0, hx269_1, hx269_2⟩ := at_T45 HR0_0.out t265 p269 q269
    cases e269
    have hn269_0 : ad269.block ≠ gb268 := Nat.ne_of_lt (Nat.lt_of_lt_of_le (by have := World.block_lt_of_cell? _ _ hx269_0; first | rwa [add_block] at this | exact this) GW268.out)
    have hn269_1 : ad269.block ≠ gb268 := Nat.ne_of_lt (Nat.lt_of_lt_of_le (by have := World.block_lt_of_cell? _ _ hx269_0; first | rwa [add_block] at this | exact this) GW268.out)
    have hn269_2 : ad269.block ≠ gb268 := Nat.ne_of_lt (Nat.lt_of_lt_of_le (by have := World.block_lt_of_cell? _ _ hx269_0; first | rwa [add_block] at this | exact this) GW268.out)
    replace hx269_0 := (HB.out.cell (World.block_lt_of_cell? w _ hx269_0)).trans hx269_0
    replace hx269_1 := (HB.out.cell (World.block_lt_of_cell? w _ hx269_1)).trans hx269_1
    replace hx269_2 := (HB.out.cell (World.block_lt_of_cell? w _ hx269_2)).trans hx269_2
    replace hx269_0 := (cell_far (p := ⟨gb268, 0, none⟩) (by first | (rw [add_block]; exact hn269_0) | (show (Addr.add _ _).block ≠ _; rw [add_block]; exact hn269_0) | exact hn269_0) (.string a1_1)).trans hx269_0
    replace hx269_1 := (cell_far (p := ⟨gb268, 0, none⟩) (by first | (rw [add_block]; exact hn269_0) | (show (Addr.add _ _).block ≠ _; rw [add_block]; exact hn269_0) | exact hn269_0) (.string a1_1)).trans hx269_1
    replace hx269_2 := (cell_far (p := ⟨gb268, 0, none⟩) (by first | (rw [add_block]; exact hn269_0) | (show (Addr.add _ _).block ≠ _; rw [add_block]; exact hn269_0) | exact hn269_0) (.string a1_1)).trans hx269_2
    replace hx269_0 := (cell_far (p := ⟨gb268, 1, none⟩) (by first | (rw [add_block]; exact hn269_1) | (show (Addr.add _ _).block ≠ _; rw [add_block]; exact hn269_1) | exact hn269_1) (.string (⟨#[]⟩ : ByteArray))).trans hx269_0
    replace hx269_1 := (cell_far (p := ⟨gb268, 1, none⟩) (by first | (rw [add_block]; exact hn269_1) | (show (Addr.add _ _).block ≠ _; rw [add_block]; exact hn269_1) | exact hn269_1) (.string (⟨#[]⟩ : ByteArray))).trans hx269_1
    replace hx269_2 := (cell_far (p := ⟨gb268, 1, none⟩) (by first | (rw [add_block]; exact hn269_1) | (show (Addr.add _ _).block ≠ _; rw [add_block]; exact hn269_1) | exact hn269_1) (.string (⟨#[]⟩ : ByteArray))).trans hx269_2
    replace hx269_0 := (cell_far (p := ⟨gb268, 2, none⟩) (by first | (rw [add_block]; exact hn269_2) | (show (Addr.add _ _).block ≠ _; rw [add_block]; exact hn269_2) | exact hn269_2) (.int .i64 0)).trans hx269_0
    replace hx269_1 := (cell_far (p := ⟨gb268, 2, none⟩) (by first | (rw [add_block]; exact hn269_2) | (show (Addr.add _ _).block ≠ _; rw [add_block]; exact hn269_2) | exact hn269_2) (.int .i64 0)).trans hx269_1
    replace hx269_2 := (cell_far (p := ⟨gb268, 2, none⟩) (by first | (rw [add_block]; exact hn269_2) | (show (Addr.add _ _).block ≠ _; rw [add_block]; exact hn269_2) | exact hn269_2) (.int .i64 0)).trans hx269_2
    clear hn269_0
    clear hn269_1
    clear hn269_2
    replace p269 := eq_true p269
    replace q269 := eq_true q269
    have hnb65 := NB268_263.out
    have hnc65 := NB263_268.out
    have hnb66 := NB268_264.out
    have hnc66 := NB264_268.out
    have hcz67_0 : w53.cell? ⟨gb268, 0, none⟩ = some (.string (⟨#[]⟩ : ByteArray)) := CZ BK268.out 0
    have hcz67_1 : w53.cell? ⟨gb268, 1, none⟩ = some (.string (⟨#[]⟩ : ByteArray)) := CZ BK268.out 1
    have hcz67_2 : w53.cell? ⟨gb268, 2, none⟩ = some (.int .i64 0) := CZ BK268.out 2
    have hfz67_0 := blk_frozen BK268.out 0
    have hfz67_1 := blk_frozen BK268.out 1
    have hfz67_2 := blk_frozen BK268.out 2
    go_wp2
    go_meet
    case rel => exact ⟨_, ((rd_T45 l0_0 t265).f0), ((rd_T45 l0_0 t265).f1), ((rd_T45 l0_0 t265).f2), H', ⟨by have := HJ3.out; first | omega | exact Nat.le_refl _⟩, ⟨by (with_reducible repeat (first | apply b1 | apply b2 | apply b3)); refine blk_far ?_ NB262_268.out _; (with_reducible repeat (first | apply b1 | apply b2 | apply b3)); refine blk_far ?_ NB262_268.out _; (with_reducible repeat (first | apply b1 | apply b2 | apply b3)); refine blk_far ?_ NB262_268.out _; (with_reducible repeat (first | apply b1 | apply b2 | apply b3)); refine blk_far ?_ NB262_268.out _; (with_reducible repeat (first | apply b1 | apply b2 | apply b3)); refine blk_far ?_ NB262_268.out _; (with_reducible repeat (first | apply b1 | apply b2 | apply b3)); refine blk_far ?_ NB262_268.out _; (with_reducible repeat (first | apply b1 | apply b2 | apply b3)); exact BK262.out⟩, ⟨by (with_reducible repeat (first | apply b1 | apply b2 | apply b3)); refine blk_far ?_ NB263_268.out _; (with_reducible repeat (first | apply b1 | apply b2 | apply b3)); refine blk_far ?_ NB263_268.out _; (with_reducible repeat (first | apply b1 | apply b2 | apply b3)); refine blk_far ?_ NB263_268.out _; (with_reducible repeat (first | apply b1 | apply b2 | apply b3)); refine blk_far ?_ NB263_268.out _; (with_reducible repeat (first | apply b1 | apply b2 | apply b3)); refine blk_far ?_ NB263_268.out _; (with_reducible repeat (first | apply b1 | apply b2 | apply b3)); refine blk_far ?_ NB263_268.out _; (with_reducible repeat (first | apply b1 | apply b2 | apply b3)); exact BK263.out⟩, ⟨by (with_reducible repeat (first | apply b1 | apply b2 | apply b3)); refine blk_far ?_ NB264_268.out _; (with_reducible repeat (first | apply b1 | apply b2 | apply b3)); refine blk_far ?_ NB264_268.out _; (with_reducible repeat (first | apply b1 | apply b2 | apply b3)); refine blk_far ?_ NB264_268.out _; (with_reducible repeat (first | apply b1 | apply b2 | apply b3)); refine blk_far ?_ NB264_268.out _; (with_reducible repeat (first | apply b1 | apply b2 | apply b3)); refine blk_far ?_ NB264_268.out _; (with_reducible repeat (first | apply b1 | apply b2 | apply b3)); refine blk_far ?_ NB264_268.out _; (with_reducible repeat (first | apply b1 | apply b2 | apply b3)); exact BK264.out⟩, ⟨by (with_reducible repeat (first | apply b1 | apply b2 | apply b3)); refine blk_put (cs := #[.string ((rd_T45 l0_0 t265).f0), .string ((rd_T45 l0_0 t265).f1), .int .i64 0]) ?_ 2 _ rfl; (with_reducible repeat (first | apply b1 | apply b2 | apply b3)); refine blk_put (cs := #[.string ((rd_T45 l0_0 t265).f0), .string (⟨#[]⟩ : ByteArray), .int .i64 0]) ?_ 1 _ rfl; (with_reducible repeat (first | apply b1 | apply b2 | apply b3)); refine blk_put (cs := #[.string a1_1, .string (⟨#[]⟩ : ByteArray), .int .i64 0]) ?_ 0 _ rfl; (with_reducible repeat (first | apply b1 | apply b2 | apply b3)); refine blk_put (cs := #[.string a1_1, .string (⟨#[]⟩ : ByteArray), .int .i64 0]) ?_ 2 _ rfl; (with_reducible repeat (first | apply b1 | apply b2 | apply b3)); refine blk_put (cs := #[.string a1_1, .string (⟨#[]⟩ : ByteArray), .int .i64 0]) ?_ 1 _ rfl; (with_reducible repeat (first | apply b1 | apply b2 | apply b3)); refine blk_put (cs := #[.string (⟨#[]⟩ : ByteArray), .string (⟨#[]⟩ : ByteArray), .int .i64 0]) ?_ 0 _ rfl; (with_reducible repeat (first | apply b1 | apply b2 | apply b3)); exact BK268.out⟩, ⟨BL⟩⟩
   case rest =>
    clear HC49
    try clear c1
    try clear c2
    try clear p2
    try clear q2
    try clear hx2
    try clear c3
    try clear c4
    try clear c5
    try clear c6
    try clear c8
    try clear c9
    try clear c11
    try clear c15
    try clear c17
    try clear c18
    try clear c18b0
    try clear c19
    try clear c20
    try clear c23
    try clear p26
    try clear q26
    try clear hx26
    try clear c27
    try clear c28
    try clear c31
    try clear c34
    try clear c35
    try clear c37
    try clear c38
    try clear c41
    try clear c42
    try clear c45
    try clear c46
    try clear c47
    try clear c50
    try clear c51
    try clear c54
    try clear c55
    try clear c56
    try clear c58
    try clear c58b0
    try clear c59
    try clear c59b0
    try clear c60
    try clear c60b0
    try clear c61
    try clear c62
    try clear c63
    try clear c65
    try clear c66
    try clear hcz10_0
    try clear hcz12_0
    try clear hcz12_1
    try clear hcz12_2
    try clear hcz12_3
    try clear hcz21_0
    try clear hcz24_0
    try clear hcz24_1
    try clear hcz24_2
    try clear hcz24_3
    try clear hcz26_0
    try clear hcz26_1
    try clear hcz26_2
    try clear hcz26_3
    try clear hcz29_0
    try clear hcz32_0
    try clear hcz32_1
    try clear hcz32_2
    try clear hcz32_3
    try clear hcz36_0
    try clear hcz39_0
    try clear hcz39_1
    try clear hcz39_2
    try clear hcz39_3
    try clear hcz43_0
    try clear hcz48_0
    try clear hcz52_0
    try clear hcz52_1
    try clear hcz52_2
    try clear hcz52_3
    try clear hcz57_0
    try clear hcz57_1
    try clear hcz57_2
    try clear hcz64_0
    try clear hcz67_0
    try clear hcz67_1
    try clear hcz67_2
    try clear hfz10_0
    try clear hfz12_0
    try clear hfz12_1
    try clear hfz12_2
    try clear hfz12_3
    try clear hfz21_0
    try clear hfz24_0
    try clear hfz24_1
    try clear hfz24_2
    try clear hfz24_3
    try clear hfz26_0
    try clear hfz26_1
    try clear hfz26_2
    try clear hfz26_3
    try clear hfz29_0
    try clear hfz32_0
    try clear hfz32_1
    try clear hfz32_2
    try clear hfz32_3
    try clear hfz36_0
    try clear hfz39_0
    try clear hfz39_1
    try clear hfz39_2
    try clear hfz39_3
    try clear hfz43_0
    try clear hfz48_0
    try clear hfz52_0
    try clear hfz52_1
    try clear hfz52_2
    try clear hfz52_3
    try clear hfz57_0
    try clear hfz57_1
    try clear hfz57_2
    try clear hfz64_0
    try clear hfz67_0
    try clear hfz67_1
    try clear hfz67_2
    try clear hx269_0
    try clear hx269_1
    try clear hx269_2
    try clear p2
    try clear p269
    try clear q269
    obtain ⟨kq, x269000_48, x269001_48, x269002_48, HA, HJ48, BK262, BK263, BK264, BK268, HB⟩ := hcut
    cases kq with
    | zero => exact absurd HA.out (by simp [impl_DoAct.j1])
    | succ kj48 =>
     have H := HA.out
     clear HA
     simp only [impl_DoAct.j1] at H
     by_cases c68 : a1_0 = 1
     ·
      rw [if_pos c68] at H
      have c68b0 : (a1_0 == 1) = true := beq_iff_eq.mpr c68
      have c68b1 : (a1_0 != 1) = false := bne_eq_false_iff_eq.mpr c68
      clear c68
      by_cases c69 : x269001_48.size + a1_2.size ≤ 9223372036854775807; rotate_left
      ·
       rw [if_neg c69] at H
       exact absurd H (by simp)
      rw [if_pos c69] at H
      have c69b0 := eq_true c69
      have c69b1 : decide (x269001_48.size + a1_2.size ≤ 9223372036854775807) = true := decide_eq_true c69
      try have c69b2 : (9223372036854775807 < x269001_48.size + a1_2.size) = False := eq_false (Nat.not_lt.2 c69)
      replace H := Option.bind_eq_some_iff.mp H
      obtain ⟨t271, A700, H⟩ := H
      replace H : ((impl_DiskOk.f kj48 t271).bind fun t274 => (if t274 = true then (some (t271, true)) else (some (([] : List (S45)), false)))) = some (r1, r2) := H
      have A70 := Aside0.mk A700
      clear A700
      replace H := Option.bind_eq_some_iff.mp H
      obtain ⟨t274, A710, H⟩ := H
      replace H : (if t274 = true then (some (t271, true)) else (some (([] : List (S45)), false))) = some (r1, r2) := H
      have A71 := Aside0.mk A710
      clear A710
      by_cases c72 : t274 = true
      ·
       subst c72
       have H1 : (some (t271, true)) = some (r1, r2) := by rw [if_pos rfl] at H; exact H
       clear H
       have H := H1
       clear H1
       simp only [Option.some.injEq, Prod.mk.injEq] at H
       obtain ⟨rfl, rfl⟩ := H
       go_wp2_with (first | ((with_reducible refine gate_dst (N := 8) rfl ?_); refine bE 8 #[.slice none 0 0] 29 ?_; intro gb270 hg w73 hbox hb; have BK270 := Aside0.mk (hbox); have GW270 : Aside0 (w.heap.size ≤ gb270) := GS; have GE270 : Aside0 (w.heap.size ≤ gb270) := GS; have NB262_270 := NL BK262.out hg; have NB270_262 := NG BK262.out hg; have NB263_270 := NL BK263.out hg; have NB270_263 := NG BK263.out hg; have NB264_270 := NL BK264.out hg; have NB270_264 := NG BK264.out hg; have NB268_270 := NL BK268.out hg; have NB270_268 := NG BK268.out hg; replace BK262 := BB BK262.out hb; replace BK263 := BB BK263.out hb; replace BK264 := BB BK264.out hb; replace BK268 := BB BK268.out hb; replace HB := Aside0.mk (below_step (BL) hb); clear hb hbox hg; have hnb74 := NB270_262.out; have hnc74 := NB262_270.out; have hnb75 := NB270_263.out; have hnc75 := NB263_270.out; have hnb76 := NB270_264.out; have hnc76 := NB264_270.out; have hnb77 := NB270_268.out; have hnc77 := NB268_270.out; have hcz78_0 : w73.cell? ⟨gb270, 0, none⟩ = some (.slice none 0 0) := CZ BK270.out 0; have hfz78_0 := blk_frozen BK270.out 0; have hnb79 := NB263_262.out; have hnc79 := NB262_263.out; have hnb80 := NB263_264.out; have hnc80 := NB264_263.out; have hnb81 := NB263_268.out; have hnc81 := NB268_263.out; have hcz82_0 : w73.cell? ⟨gb263, 0, none⟩ = some (.int .i64 a1_0) := CZ BK263.out 0; have hcz82_1 : w73.cell? ⟨gb263, 1, none⟩ = some (.string a1_1) := CZ BK263.out 1; have hcz82_2 : w73.cell? ⟨gb263, 2, none⟩ = some (.string a1_2) := CZ BK263.out 2; have hcz82_3 : w73.cell? ⟨gb263, 3, none⟩ = some (.string a1_3) := CZ BK263.out 3; have hfz82_0 := blk_frozen BK263.out 0; have hfz82_1 := blk_frozen BK263.out 1; have hfz82_2 := blk_frozen BK263.out 2; have hfz82_3 := blk_frozen BK263.out 3; have hnb83 := NB268_262.out; have hnc83 := NB262_268.out; have hnb84 := NB268_264.out; have hnc84 := NB264_268.out; have hcz85_0 : w73.cell? ⟨gb268, 0, none⟩ = some (.string x269000_48) := CZ BK268.out 0; have hcz85_1 : w73.cell? ⟨gb268, 1, none⟩ = some (.string x269001_48) := CZ BK268.out 1; have hcz85_2 : w73.cell? ⟨gb268, 2, none⟩ = some (.int .i64 x269002_48) := CZ BK268.out 2; have hfz85_0 := blk_frozen BK268.out 0; have hfz85_1 := blk_frozen BK268.out 1; have hfz85_2 := blk_frozen BK268.out 2; have hnb86 := NB262_264.out; have hnc86 := NB264_262.out; have hcz87_0 : w73.cell? ⟨gb262, 0, none⟩ = some (.slice A0_0 l0_0.length c0_0) := CZ BK262.out 0; have hfz87_0 := blk_frozen BK262.out 0) | ((with_reducible refine gate_callee (f := 66) rfl ?_); refine goesL_ (some 58) rfl rfl Try.func66 (by kernel_rfl) rfl #[.agg #[.slice A0_0 l0_0.length c0_0], .agg #[.string x269000_48, .string (x269001_48 ++ a1_2), .int .i64 x269002_48]] rfl (MA) ?_; (with_reducible refine (impl_withFile.calls _ _ l0_0 x269000_48 (x269001_48 ++ a1_2) x269002_48 t271 _ ?side1 ?side2 A70.out).mono ?_); (case side1 => exact Kd.C_below HR0_0.out (BL)); (case side2 => exact HC0_0.out); rintro e w88 ⟨v272, rfl, ho0, hb⟩; refine ⟨_, rfl, ?_⟩; have HO273 := Aside0.mk (Kd.R_lower (Kd.R_newB ho0 (g := gb268) (o := .cells #[.string x269000_48, .string (x269001_48 ++ a1_2), .int .i64 x269002_48] 45 (0, 0)) (by (with_reducible repeat (first | apply b1 | apply b2 | apply b3)); refine blk_put (cs := #[.string x269000_48, .string x269001_48, .int .i64 x269002_48]) ?_ 1 _ rfl; (with_reducible repeat (first | apply b1 | apply b2 | apply b3)); refine blk_far ?_ NB268_270.out _; (with_reducible repeat (first | apply b1 | apply b2 | apply b3)); exact BK268.out)) (below_size (BL))); replace BK262 := Aside0.mk (blk_below (g := gb262) (o := .cells #[.slice A0_0 l0_0.length c0_0] 29 (0, 0)) (by (with_reducible repeat (first | apply b1 | apply b2 | apply b3)); refine blk_far ?_ NB262_268.out _; (with_reducible repeat (first | apply b1 | apply b2 | apply b3)); refine blk_far ?_ NB262_270.out _; (with_reducible repeat (first | apply b1 | apply b2 | apply b3)); exact BK262.out) hb); replace BK263 := Aside0.mk (blk_below (g := gb263) (o := .cells #[.int .i64 a1_0, .string a1_1, .string a1_2, .string a1_3] 55 (0, 0)) (by (with_reducible repeat (first | apply b1 | apply b2 | apply b3)); refine blk_far ?_ NB263_268.out _; (with_reducible repeat (first | apply b1 | apply b2 | apply b3)); refine blk_far ?_ NB263_270.out _; (with_reducible repeat (first | apply b1 | apply b2 | apply b3)); exact BK263.out) hb); replace BK264 := Aside0.mk (blk_below (g := gb264) (o := .cells #[.slice none 0 0] 29 (0, 0)) (by (with_reducible repeat (first | apply b1 | apply b2 | apply b3)); refine blk_far ?_ NB264_268.out _; (with_reducible repeat (first | apply b1 | apply b2 | apply b3)); refine blk_far ?_ NB264_270.out _; (with_reducible repeat (first | apply b1 | apply b2 | apply b3)); exact BK264.out) hb); replace BK268 := Aside0.mk (blk_below (g := gb268) (o := .cells #[.string x269000_48, .string (x269001_48 ++ a1_2), .int .i64 x269002_48] 45 (0, 0)) (by (with_reducible repeat (first | apply b1 | apply b2 | apply b3)); refine blk_put (cs := #[.string x269000_48, .string x269001_48, .int .i64 x269002_48]) ?_ 1 _ rfl; (with_reducible repeat (first | apply b1 | apply b2 | apply b3)); refine blk_far ?_ NB268_270.out _; (with_reducible repeat (first | apply b1 | apply b2 | apply b3)); exact BK268.out) hb); replace BK270 := Aside0.mk (blk_below (g := gb270) (o := .cells #[.slice none 0 0] 29 (0, 0)) (by (with_reducible repeat (first | apply b1 | apply b2 | apply b3)); refine blk_far ?_ NB270_268.out _; (with_reducible repeat (first | apply b1 | apply b2 | apply b3)); refine blk_put (cs := #[.slice none 0 0]) ?_ 0 _ rfl; (with_reducible repeat (first | apply b1 | apply b2 | apply b3)); exact BK270.out) hb); replace HB := Aside0.mk (below_step (BL) hb); (try clear hb); (try clear hb2); (try clear hk); (try clear hi); (try clear ho0); obtain ⟨Ao89, co89, eo89⟩ := Kd.R_slice HO273.out; subst eo89; have hcz90_0 : w88.cell? ⟨gb270, 0, none⟩ = some (.slice none 0 0) := CZ BK270.out 0; have hfz90_0 := blk_frozen BK270.out 0) | ((with_reducible refine gate_callee (f := 15) rfl ?_); refine goesL_ (some 94) rfl rfl Try.func15 (by kernel_rfl) rfl #[.agg #[.slice Ao89 t271.length co89]] rfl (MA) ?_; (with_reducible refine (impl_DiskOk.calls kj48 _ _ t271 true _ ?side1 ?side2 A71.out).mono ?_); (case side1 => refine (Kd.R_reads' (e := 45) (base := w.heap.size) (ok := fun k_ => (True ∧ k_ ≠ gb268)) (n := t271.length) (c := co89) ?_).2.2; exact (by (with_reducible repeat (first | apply r1 | apply r2 | apply r3)); exact (Kd.R_mono (Kd.R_far (p := ⟨gb270, 0, none⟩) (Kd.R_types HO273.out BK270.out (by decide)) (fun _ hk => hk.2) (.slice Ao89 t271.length co89)) (fun _ h_ => h_.1)))); (case side2 => exact (Kd.R_reads' HO273.out).2.1); rintro e w91 ⟨rfl, hb⟩; refine ⟨_, rfl, ?_⟩; replace HO273 := Aside0.mk (Kd.R_below (by (with_reducible repeat (first | apply r1 | apply r2 | apply r3)); exact (Kd.R_mono (Kd.R_far (p := ⟨gb270, 0, none⟩) (Kd.R_types HO273.out BK270.out (by decide)) (fun _ hk => hk.2) (.slice Ao89 t271.length co89)) (fun _ h_ => h_.1))) hb); replace BK262 := Aside0.mk (blk_below (g := gb262) (o := .cells #[.slice A0_0 l0_0.length c0_0] 29 (0, 0)) (by (with_reducible repeat (first | apply b1 | apply b2 | apply b3)); refine blk_far ?_ NB262_270.out _; (with_reducible repeat (first | apply b1 | apply b2 | apply b3)); exact BK262.out) hb); replace BK263 := Aside0.mk (blk_below (g := gb263) (o := .cells #[.int .i64 a1_0, .string a1_1, .string a1_2, .string a1_3] 55 (0, 0)) (by (with_reducible repeat (first | apply b1 | apply b2 | apply b3)); refine blk_far ?_ NB263_270.out _; (with_reducible repeat (first | apply b1 | apply b2 | apply b3)); exact BK263.out) hb); replace BK264 := Aside0.mk (blk_below (g := gb264) (o := .cells #[.slice none 0 0] 29 (0, 0)) (by (with_reducible repeat (first | apply b1 | apply b2 | apply b3)); refine blk_far ?_ NB264_270.out _; (with_reducible repeat (first | apply b1 | apply b2 | apply b3)); exact BK264.out) hb); replace BK268 := Aside0.mk (blk_below (g := gb268) (o := .cells #[.string x269000_48, .string (x269001_48 ++ a1_2), .int .i64 x269002_48] 45 (0, 0)) (by (with_reducible repeat (first | apply b1 | apply b2 | apply b3)); refine blk_far ?_ NB268_270.out _; (with_reducible repeat (first | apply b1 | apply b2 | apply b3)); exact BK268.out) hb); replace BK270 := Aside0.mk (blk_below (g := gb270) (o := .cells #[.slice Ao89 t271.length co89] 29 (0, 0)) (by (with_reducible repeat (first | apply b1 | apply b2 | apply b3)); refine blk_put (cs := #[.slice none 0 0]) ?_ 0 _ rfl; (with_reducible repeat (first | apply b1 | apply b2 | apply b3)); exact BK270.out) hb); replace HB := Aside0.mk (below_step (BL) hb); (try clear hb); (try clear hb2); (try clear hk); (try clear hi); have hcz92_0 : w91.cell? ⟨gb270, 0, none⟩ = some (.slice Ao89 t271.length co89) := CZ BK270.out 0; have hfz92_0 := blk_frozen BK270.out 0; have hcz93_0 : w91.cell? ⟨gb264, 0, none⟩ = some (.slice none 0 0) := CZ BK264.out 0; have hfz93_0 := blk_frozen BK264.out 0))
       refine bodyPost_ret (results_ct rfl _ _ gb264 29 #[.slice Ao89 t271.length co89] (0, 0) _ rfl (by (with_reducible repeat (first | apply b1 | apply b2 | apply b3)); refine blk_put (cs := #[.slice none 0 0]) ?_ 0 _ rfl; (with_reducible repeat (first | apply b1 | apply b2 | apply b3)); exact BK264.out) Try.underlying29 rfl (by kernel_rfl)) rfl ?_
       exact ⟨_, EE, by (with_reducible repeat (first | apply r1 | apply r2 | apply r3)); exact Kd.R_mono (Kd.R_far (p := ⟨gb264, 0, none⟩) (Kd.R_types HO273.out BK264.out (by decide)) (fun _ hk => hk.2) (.slice Ao89 t271.length co89)) (fun _ hk => trivial), BL⟩
      replace c72 := Bool.eq_false_iff.mpr c72
      subst c72
      have H1 : (some (([] : List (S45)), false)) = some (r1, r2) := by rw [if_neg (show ¬ (false = true) by decide)] at H; exact H
      clear H
      have H := H1
      clear H1
      simp only [Option.some.injEq, Prod.mk.injEq] at H
      obtain ⟨rfl, rfl⟩ := H
      go_wp2_with (first | ((with_reducible refine gate_dst (N := 8) rfl ?_); refine bE 8 #[.slice none 0 0] 29 ?_; intro gb270 hg w94 hbox hb; have BK270 := Aside0.mk (hbox); have GW270 : Aside0 (w.heap.size ≤ gb270) := GS; have GE270 : Aside0 (w.heap.size ≤ gb270) := GS; have NB262_270 := NL BK262.out hg; have NB270_262 := NG BK262.out hg; have NB263_270 := NL BK263.out hg; have NB270_263 := NG BK263.out hg; have NB264_270 := NL BK264.out hg; have NB270_264 := NG BK264.out hg; have NB268_270 := NL BK268.out hg; have NB270_268 := NG BK268.out hg; replace BK262 := BB BK262.out hb; replace BK263 := BB BK263.out hb; replace BK264 := BB BK264.out hb; replace BK268 := BB BK268.out hb; replace HB := Aside0.mk (below_step (BL) hb); clear hb hbox hg; have hnb95 := NB270_262.out; have hnc95 := NB262_270.out; have hnb96 := NB270_263.out; have hnc96 := NB263_270.out; have hnb97 := NB270_264.out; have hnc97 := NB264_270.out; have hnb98 := NB270_268.out; have hnc98 := NB268_270.out; have hcz99_0 : w94.cell? ⟨gb270, 0, none⟩ = some (.slice none 0 0) := CZ BK270.out 0; have hfz99_0 := blk_frozen BK270.out 0; have hnb100 := NB263_262.out; have hnc100 := NB262_263.out; have hnb101 := NB263_264.out; have hnc101 := NB264_263.out; have hnb102 := NB263_268.out; have hnc102 := NB268_263.out; have hcz103_0 : w94.cell? ⟨gb263, 0, none⟩ = some (.int .i64 a1_0) := CZ BK263.out 0; have hcz103_1 : w94.cell? ⟨gb263, 1, none⟩ = some (.string a1_1) := CZ BK263.out 1; have hcz103_2 : w94.cell? ⟨gb263, 2, none⟩ = some (.string a1_2) := CZ BK263.out 2; have hcz103_3 : w94.cell? ⟨gb263, 3, none⟩ = some (.string a1_3) := CZ BK263.out 3; have hfz103_0 := blk_frozen BK263.out 0; have hfz103_1 := blk_frozen BK263.out 1; have hfz103_2 := blk_frozen BK263.out 2; have hfz103_3 := blk_frozen BK263.out 3; have hnb104 := NB268_262.out; have hnc104 := NB262_268.out; have hnb105 := NB268_264.out; have hnc105 := NB264_268.out; have hcz106_0 : w94.cell? ⟨gb268, 0, none⟩ = some (.string x269000_48) := CZ BK268.out 0; have hcz106_1 : w94.cell? ⟨gb268, 1, none⟩ = some (.string x269001_48) := CZ BK268.out 1; have hcz106_2 : w94.cell? ⟨gb268, 2, none⟩ = some (.int .i64 x269002_48) := CZ BK268.out 2; have hfz106_0 := blk_frozen BK268.out 0; have hfz106_1 := blk_frozen BK268.out 1; have hfz106_2 := blk_frozen BK268.out 2; have hnb107 := NB262_264.out; have hnc107 := NB264_262.out; have hcz108_0 : w94.cell? ⟨gb262, 0, none⟩ = some (.slice A0_0 l0_0.length c0_0) := CZ BK262.out 0; have hfz108_0 := blk_frozen BK262.out 0) | ((with_reducible refine gate_callee (f := 66) rfl ?_); refine goesL_ (some 58) rfl rfl Try.func66 (by kernel_rfl) rfl #[.agg #[.slice A0_0 l0_0.length c0_0], .agg #[.string x269000_48, .string (x269001_48 ++ a1_2), .int .i64 x269002_48]] rfl (MA) ?_; (with_reducible refine (impl_withFile.calls _ _ l0_0 x269000_48 (x269001_48 ++ a1_2) x269002_48 t271 _ ?side1 ?side2 A70.out).mono ?_); (case side1 => exact Kd.C_below HR0_0.out (BL)); (case side2 => exact HC0_0.out); rintro e w109 ⟨v272, rfl, ho0, hb⟩; refine ⟨_, rfl, ?_⟩; have HO273 := Aside0.mk (Kd.R_lower (Kd.R_newB ho0 (g := gb268) (o := .cells #[.string x269000_48, .string (x269001_48 ++ a1_2), .int .i64 x269002_48] 45 (0, 0)) (by (with_reducible repeat (first | apply b1 | apply b2 | apply b3)); refine blk_put (cs := #[.string x269000_48, .string x269001_48, .int .i64 x269002_48]) ?_ 1 _ rfl; (with_reducible repeat (first | apply b1 | apply b2 | apply b3)); refine blk_far ?_ NB268_270.out _; (with_reducible repeat (first | apply b1 | apply b2 | apply b3)); exact BK268.out)) (below_size (BL))); replace BK262 := Aside0.mk (blk_below (g := gb262) (o := .cells #[.slice A0_0 l0_0.length c0_0] 29 (0, 0)) (by (with_reducible repeat (first | apply b1 | apply b2 | apply b3)); refine blk_far ?_ NB262_268.out _; (with_reducible repeat (first | apply b1 | apply b2 | apply b3)); refine blk_far ?_ NB262_270.out _; (with_reducible repeat (first | apply b1 | apply b2 | apply b3)); exact BK262.out) hb); replace BK263 := Aside0.mk (blk_below (g := gb263) (o := .cells #[.int .i64 a1_0, .string a1_1, .string a1_2, .string a1_3] 55 (0, 0)) (by (with_reducible repeat (first | apply b1 | apply b2 | apply b3)); refine blk_far ?_ NB263_268.out _; (with_reducible repeat (first | apply b1 | apply b2 | apply b3)); refine blk_far ?_ NB263_270.out _; (with_reducible repeat (first | apply b1 | apply b2 | apply b3)); exact BK263.out) hb); replace BK264 := Aside0.mk (blk_below (g := gb264) (o := .cells #[.slice none 0 0] 29 (0, 0)) (by (with_reducible repeat (first | apply b1 | apply b2 | apply b3)); refine blk_far ?_ NB264_268.out _; (with_reducible repeat (first | apply b1 | apply b2 | apply b3)); refine blk_far ?_ NB264_270.out _; (with_reducible repeat (first | apply b1 | apply b2 | apply b3)); exact BK264.out) hb); replace BK268 := Aside0.mk (blk_below (g := gb268) (o := .cells #[.string x269000_48, .string (x269001_48 ++ a1_2), .int .i64 x269002_48] 45 (0, 0)) (by (with_reducible repeat (first | apply b1 | apply b2 | apply b3)); refine blk_put (cs := #[.string x269000_48, .string x269001_48, .int .i64 x269002_48]) ?_ 1 _ rfl; (with_reducible repeat (first | apply b1 | apply b2 | apply b3)); refine blk_far ?_ NB268_270.out _; (with_reducible repeat (first | apply b1 | apply b2 | apply b3)); exact BK268.out) hb); replace BK270 := Aside0.mk (blk_below (g := gb270) (o := .cells #[.slice none 0 0] 29 (0, 0)) (by (with_reducible repeat (first | apply b1 | apply b2 | apply b3)); refine blk_far ?_ NB270_268.out _; (with_reducible repeat (first | apply b1 | apply b2 | apply b3)); refine blk_put (cs := #[.slice none 0 0]) ?_ 0 _ rfl; (with_reducible repeat (first | apply b1 | apply b2 | apply b3)); exact BK270.out) hb); replace HB := Aside0.mk (below_step (BL) hb); (try clear hb); (try clear hb2); (try clear hk); (try clear hi); (try clear ho0); obtain ⟨Ao110, co110, eo110⟩ := Kd.R_slice HO273.out; subst eo110; have hcz111_0 : w109.cell? ⟨gb270, 0, none⟩ = some (.slice none 0 0) := CZ BK270.out 0; have hfz111_0 := blk_frozen BK270.out 0) | ((with_reducible refine gate_callee (f := 15) rfl ?_); refine goesL_ (some 94) rfl rfl Try.func15 (by kernel_rfl) rfl #[.agg #[.slice Ao110 t271.length co110]] rfl (MA) ?_; (with_reducible refine (impl_DiskOk.calls kj48 _ _ t271 false _ ?side1 ?side2 A71.out).mono ?_); (case side1 => refine (Kd.R_reads' (e := 45) (base := w.heap.size) (ok := fun k_ => (True ∧ k_ ≠ gb268)) (n := t271.length) (c := co110) ?_).2.2; exact (by (with_reducible repeat (first | apply r1 | apply r2 | apply r3)); exact (Kd.R_mono (Kd.R_far (p := ⟨gb270, 0, none⟩) (Kd.R_types HO273.out BK270.out (by decide)) (fun _ hk => hk.2) (.slice Ao110 t271.length co110)) (fun _ h_ => h_.1)))); (case side2 => exact (Kd.R_reads' HO273.out).2.1); rintro e w112 ⟨rfl, hb⟩; refine ⟨_, rfl, ?_⟩; replace HO273 := Aside0.mk (Kd.R_below (by (with_reducible repeat (first | apply r1 | apply r2 | apply r3)); exact (Kd.R_mono (Kd.R_far (p := ⟨gb270, 0, none⟩) (Kd.R_types HO273.out BK270.out (by decide)) (fun _ hk => hk.2) (.slice Ao110 t271.length co110)) (fun _ h_ => h_.1))) hb); replace BK262 := Aside0.mk (blk_below (g := gb262) (o := .cells #[.slice A0_0 l0_0.length c0_0] 29 (0, 0)) (by (with_reducible repeat (first | apply b1 | apply b2 | apply b3)); refine blk_far ?_ NB262_270.out _; (with_reducible repeat (first | apply b1 | apply b2 | apply b3)); exact BK262.out) hb); replace BK263 := Aside0.mk (blk_below (g := gb263) (o := .cells #[.int .i64 a1_0, .string a1_1, .string a1_2, .string a1_3] 55 (0, 0)) (by (with_reducible repeat (first | apply b1 | apply b2 | apply b3)); refine blk_far ?_ NB263_270.out _; (with_reducible repeat (first | apply b1 | apply b2 | apply b3)); exact BK263.out) hb); replace BK264 := Aside0.mk (blk_below (g := gb264) (o := .cells #[.slice none 0 0] 29 (0, 0)) (by (with_reducible repeat (first | apply b1 | apply b2 | apply b3)); refine blk_far ?_ NB264_270.out _; (with_reducible repeat (first | apply b1 | apply b2 | apply b3)); exact BK264.out) hb); replace BK268 := Aside0.mk (blk_below (g := gb268) (o := .cells #[.string x269000_48, .string (x269001_48 ++ a1_2), .int .i64 x269002_48] 45 (0, 0)) (by (with_reducible repeat (first | apply b1 | apply b2 | apply b3)); refine blk_far ?_ NB268_270.out _; (with_reducible repeat (first | apply b1 | apply b2 | apply b3)); exact BK268.out) hb); replace BK270 := Aside0.mk (blk_below (g := gb270) (o := .cells #[.slice Ao110 t271.length co110] 29 (0, 0)) (by (with_reducible repeat (first | apply b1 | apply b2 | apply b3)); refine blk_put (cs := #[.slice none 0 0]) ?_ 0 _ rfl; (with_reducible repeat (first | apply b1 | apply b2 | apply b3)); exact BK270.out) hb); replace HB := Aside0.mk (below_step (BL) hb); (try clear hb); (try clear hb2); (try clear hk); (try clear hi); have hcz113_0 : w112.cell? ⟨gb264, 0, none⟩ = some (.slice none 0 0) := CZ BK264.out 0; have hfz113_0 := blk_frozen BK264.out 0))
      refine bodyPost_ret (results_ct rfl _ _ gb264 29 #[.slice none 0 0] (0, 0) _ rfl (by (with_reducible repeat (first | apply b1 | apply b2 | apply b3)); refine blk_put (cs := #[.slice none 0 0]) ?_ 0 _ rfl; (with_reducible repeat (first | apply b1 | apply b2 | apply b3)); exact BK264.out) Try.underlying29 rfl (by kernel_rfl)) rfl ?_
      exact ⟨_, EE, by first | exact Kd.R_nil _ _ _ _ _ | exact Kd.N_nil _ _ _ _ _ | exact Kd.V_nil _ _ _ _ _ | exact Kd.Q_nil _ _ _ _ _ | exact Kd.S_nil _ _ _ _ _, BL⟩
     rw [if_neg c68] at H
     have c68b0 : (a1_0 == 1) = false := beq_eq_false_iff_ne.mpr c68
     have c68b1 : (a1_0 != 1) = true := bne_iff_ne.mpr c68
     by_cases c114 : a1_0 = 2
     ·
      rw [if_pos c114] at H
      have c114b0 : (a1_0 == 2) = true := beq_iff_eq.mpr c114
      have c114b1 : (a1_0 != 2) = false := bne_eq_false_iff_eq.mpr c114
      clear c114
      replace H := Option.bind_eq_some_iff.mp H
      obtain ⟨t275, A1150, H⟩ := H
      replace H : ((impl_DiskOk.f kj48 t275).bind fun t278 => (if t278 = true then (some (t275, true)) else (some (([] : List (S45)), false)))) = some (r1, r2) := H
      have A115 := Aside0.mk A1150
      clear A1150
      replace H := Option.bind_eq_some_iff.mp H
      obtain ⟨t278, A1160, H⟩ := H
      replace H : (if t278 = true then (some (t275, true)) else (some (([] : List (S45)), false))) = some (r1, r2) := H
      have A116 := Aside0.mk A1160
      clear A1160
      by_cases c117 : t278 = true
      ·
       subst c117
       have H1 : (some (t275, true)) = some (r1, r2) := by rw [if_pos rfl] at H; exact H
       clear H
       have H := H1
       clear H1
       simp only [Option.some.injEq, Prod.mk.injEq] at H
       obtain ⟨rfl, rfl⟩ := H
       go_wp2_with (first | ((with_reducible refine gate_dst (N := 8) rfl ?_); refine bE 8 #[.slice none 0 0] 29 ?_; intro gb270 hg w118 hbox hb; have BK270 := Aside0.mk (hbox); have GW270 : Aside0 (w.heap.size ≤ gb270) := GS; have GE270 : Aside0 (w.heap.size ≤ gb270) := GS; have NB262_270 := NL BK262.out hg; have NB270_262 := NG BK262.out hg; have NB263_270 := NL BK263.out hg; have NB270_263 := NG BK263.out hg; have NB264_270 := NL BK264.out hg; have NB270_264 := NG BK264.out hg; have NB268_270 := NL BK268.out hg; have NB270_268 := NG BK268.out hg; replace BK262 := BB BK262.out hb; replace BK263 := BB BK263.out hb; replace BK264 := BB BK264.out hb; replace BK268 := BB BK268.out hb; replace HB := Aside0.mk (below_step (BL) hb); clear hb hbox hg; have hnb119 := NB270_262.out; have hnc119 := NB262_270.out; have hnb120 := NB270_263.out; have hnc120 := NB263_270.out; have hnb121 := NB270_264.out; have hnc121 := NB264_270.out; have hnb122 := NB270_268.out; have hnc122 := NB268_270.out; have hcz123_0 : w118.cell? ⟨gb270, 0, none⟩ = some (.slice none 0 0) := CZ BK270.out 0; have hfz123_0 := blk_frozen BK270.out 0; have hnb124 := NB263_262.out; have hnc124 := NB262_263.out; have hnb125 := NB263_264.out; have hnc125 := NB264_263.out; have hnb126 := NB263_268.out; have hnc126 := NB268_263.out; have hcz127_0 : w118.cell? ⟨gb263, 0, none⟩ = some (.int .i64 a1_0) := CZ BK263.out 0; have hcz127_1 : w118.cell? ⟨gb263, 1, none⟩ = some (.string a1_1) := CZ BK263.out 1; have hcz127_2 : w118.cell? ⟨gb263, 2, none⟩ = some (.string a1_2) := CZ BK263.out 2; have hcz127_3 : w118.cell? ⟨gb263, 3, none⟩ = some (.string a1_3) := CZ BK263.out 3; have hfz127_0 := blk_frozen BK263.out 0; have hfz127_1 := blk_frozen BK263.out 1; have hfz127_2 := blk_frozen BK263.out 2; have hfz127_3 := blk_frozen BK263.out 3; have hnb128 := NB268_262.out; have hnc128 := NB262_268.out; have hnb129 := NB268_264.out; have hnc129 := NB264_268.out; have hcz130_0 : w118.cell? ⟨gb268, 0, none⟩ = some (.string x269000_48) := CZ BK268.out 0; have hcz130_1 : w118.cell? ⟨gb268, 1, none⟩ = some (.string x269001_48) := CZ BK268.out 1; have hcz130_2 : w118.cell? ⟨gb268, 2, none⟩ = some (.int .i64 x269002_48) := CZ BK268.out 2; have hfz130_0 := blk_frozen BK268.out 0; have hfz130_1 := blk_frozen BK268.out 1; have hfz130_2 := blk_frozen BK268.out 2; have hnb131 := NB262_264.out; have hnc131 := NB264_262.out; have hcz132_0 : w118.cell? ⟨gb262, 0, none⟩ = some (.slice A0_0 l0_0.length c0_0) := CZ BK262.out 0; have hfz132_0 := blk_frozen BK262.out 0) | ((with_reducible refine gate_callee (f := 66) rfl ?_); refine goesL_ (some 67) rfl rfl Try.func66 (by kernel_rfl) rfl #[.agg #[.slice A0_0 l0_0.length c0_0], .agg #[.string x269000_48, .string x269001_48, .int .i64 (x269001_48.size : Int)]] rfl (MA) ?_; (with_reducible refine (impl_withFile.calls _ _ l0_0 x269000_48 x269001_48 (x269001_48.size : Int) t275 _ ?side1 ?side2 A115.out).mono ?_); (case side1 => exact Kd.C_below HR0_0.out (BL)); (case side2 => exact HC0_0.out); rintro e w133 ⟨v276, rfl, ho0, hb⟩; refine ⟨_, rfl, ?_⟩; have HO277 := Aside0.mk (Kd.R_lower (Kd.R_newB ho0 (g := gb268) (o := .cells #[.string x269000_48, .string x269001_48, .int .i64 (x269001_48.size : Int)] 45 (0, 0)) (by (with_reducible repeat (first | apply b1 | apply b2 | apply b3)); refine blk_put (cs := #[.string x269000_48, .string x269001_48, .int .i64 x269002_48]) ?_ 2 _ rfl; (with_reducible repeat (first | apply b1 | apply b2 | apply b3)); refine blk_far ?_ NB268_270.out _; (with_reducible repeat (first | apply b1 | apply b2 | apply b3)); exact BK268.out)) (below_size (BL))); replace BK262 := Aside0.mk (blk_below (g := gb262) (o := .cells #[.slice A0_0 l0_0.length c0_0] 29 (0, 0)) (by (with_reducible repeat (first | apply b1 | apply b2 | apply b3)); refine blk_far ?_ NB262_268.out _; (with_reducible repeat (first | apply b1 | apply b2 | apply b3)); refine blk_far ?_ NB262_270.out _; (with_reducible repeat (first | apply b1 | apply b2 | apply b3)); exact BK262.out) hb); replace BK263 := Aside0.mk (blk_below (g := gb263) (o := .cells #[.int .i64 a1_0, .string a1_1, .string a1_2, .string a1_3] 55 (0, 0)) (by (with_reducible repeat (first | apply b1 | apply b2 | apply b3)); refine blk_far ?_ NB263_268.out _; (with_reducible repeat (first | apply b1 | apply b2 | apply b3)); refine blk_far ?_ NB263_270.out _; (with_reducible repeat (first | apply b1 | apply b2 | apply b3)); exact BK263.out) hb); replace BK264 := Aside0.mk (blk_below (g := gb264) (o := .cells #[.slice none 0 0] 29 (0, 0)) (by (with_reducible repeat (first | apply b1 | apply b2 | apply b3)); refine blk_far ?_ NB264_268.out _; (with_reducible repeat (first | apply b1 | apply b2 | apply b3)); refine blk_far ?_ NB264_270.out _; (with_reducible repeat (first | apply b1 | apply b2 | apply b3)); exact BK264.out) hb); replace BK268 := Aside0.mk (blk_below (g := gb268) (o := .cells #[.string x269000_48, .string x269001_48, .int .i64 (x269001_48.size : Int)] 45 (0, 0)) (by (with_reducible repeat (first | apply b1 | apply b2 | apply b3)); refine blk_put (cs := #[.string x269000_48, .string x269001_48, .int .i64 x269002_48]) ?_ 2 _ rfl; (with_reducible repeat (first | apply b1 | apply b2 | apply b3)); refine blk_far ?_ NB268_270.out _; (with_reducible repeat (first | apply b1 | apply b2 | apply b3)); exact BK268.out) hb); replace BK270 := Aside0.mk (blk_below (g := gb270) (o := .cells #[.slice none 0 0] 29 (0, 0)) (by (with_reducible repeat (first | apply b1 | apply b2 | apply b3)); refine blk_far ?_ NB270_268.out _; (with_reducible repeat (first | apply b1 | apply b2 | apply b3)); refine blk_put (cs := #[.slice none 0 0]) ?_ 0 _ rfl; (with_reducible repeat (first | apply b1 | apply b2 | apply b3)); exact BK270.out) hb); replace HB := Aside0.mk (below_step (BL) hb); (try clear hb); (try clear hb2); (try clear hk); (try clear hi); (try clear ho0); obtain ⟨Ao134, co134, eo134⟩ := Kd.R_slice HO277.out; subst eo134; have hcz135_0 : w133.cell? ⟨gb270, 0, none⟩ = some (.slice none 0 0) := CZ BK270.out 0; have hfz135_0 := blk_frozen BK270.out 0) | ((with_reducible refine gate_callee (f := 15) rfl ?_); refine goesL_ (some 94) rfl rfl Try.func15 (by kernel_rfl) rfl #[.agg #[.slice Ao134 t275.length co134]] rfl (MA) ?_; (with_reducible refine (impl_DiskOk.calls kj48 _ _ t275 true _ ?side1 ?side2 A116.out).mono ?_); (case side1 => refine (Kd.R_reads' (e := 45) (base := w.heap.size) (ok := fun k_ => (True ∧ k_ ≠ gb268)) (n := t275.length) (c := co134) ?_).2.2; exact (by (with_reducible repeat (first | apply r1 | apply r2 | apply r3)); exact (Kd.R_mono (Kd.R_far (p := ⟨gb270, 0, none⟩) (Kd.R_types HO277.out BK270.out (by decide)) (fun _ hk => hk.2) (.slice Ao134 t275.length co134)) (fun _ h_ => h_.1)))); (case side2 => exact (Kd.R_reads' HO277.out).2.1); rintro e w136 ⟨rfl, hb⟩; refine ⟨_, rfl, ?_⟩; replace HO277 := Aside0.mk (Kd.R_below (by (with_reducible repeat (first | apply r1 | apply r2 | apply r3)); exact (Kd.R_mono (Kd.R_far (p := ⟨gb270, 0, none⟩) (Kd.R_types HO277.out BK270.out (by decide)) (fun _ hk => hk.2) (.slice Ao134 t275.length co134)) (fun _ h_ => h_.1))) hb); replace BK262 := Aside0.mk (blk_below (g := gb262) (o := .cells #[.slice A0_0 l0_0.length c0_0] 29 (0, 0)) (by (with_reducible repeat (first | apply b1 | apply b2 | apply b3)); refine blk_far ?_ NB262_270.out _; (with_reducible repeat (first | apply b1 | apply b2 | apply b3)); exact BK262.out) hb); replace BK263 := Aside0.mk (blk_below (g := gb263) (o := .cells #[.int .i64 a1_0, .string a1_1, .string a1_2, .string a1_3] 55 (0, 0)) (by (with_reducible repeat (first | apply b1 | apply b2 | apply b3)); refine blk_far ?_ NB263_270.out _; (with_reducible repeat (first | apply b1 | apply b2 | apply b3)); exact BK263.out) hb); replace BK264 := Aside0.mk (blk_below (g := gb264) (o := .cells #[.slice none 0 0] 29 (0, 0)) (by (with_reducible repeat (first | apply b1 | apply b2 | apply b3)); refine blk_far ?_ NB264_270.out _; (with_reducible repeat (first | apply b1 | apply b2 | apply b3)); exact BK264.out) hb); replace BK268 := Aside0.mk (blk_below (g := gb268) (o := .cells #[.string x269000_48, .string x269001_48, .int .i64 (x269001_48.size : Int)] 45 (0, 0)) (by (with_reducible repeat (first | apply b1 | apply b2 | apply b3)); refine blk_far ?_ NB268_270.out _; (with_reducible repeat (first | apply b1 | apply b2 | apply b3)); exact BK268.out) hb); replace BK270 := Aside0.mk (blk_below (g := gb270) (o := .cells #[.slice Ao134 t275.length co134] 29 (0, 0)) (by (with_reducible repeat (first | apply b1 | apply b2 | apply b3)); refine blk_put (cs := #[.slice none 0 0]) ?_ 0 _ rfl; (with_reducible repeat (first | apply b1 | apply b2 | apply b3)); exact BK270.out) hb); replace HB := Aside0.mk (below_step (BL) hb); (try clear hb); (try clear hb2); (try clear hk); (try clear hi); have hcz137_0 : w136.cell? ⟨gb270, 0, none⟩ = some (.slice Ao134 t275.length co134) := CZ BK270.out 0; have hfz137_0 := blk_frozen BK270.out 0; have hcz138_0 : w136.cell? ⟨gb264, 0, none⟩ = some (.slice none 0 0) := CZ BK264.out 0; have hfz138_0 := blk_frozen BK264.out 0))
       refine bodyPost_ret (results_ct rfl _ _ gb264 29 #[.slice Ao134 t275.length co134] (0, 0) _ rfl (by (with_reducible repeat (first | apply b1 | apply b2 | apply b3)); refine blk_put (cs := #[.slice none 0 0]) ?_ 0 _ rfl; (with_reducible repeat (first | apply b1 | apply b2 | apply b3)); exact BK264.out) Try.underlying29 rfl (by kernel_rfl)) rfl ?_
       exact ⟨_, EE, by (with_reducible repeat (first | apply r1 | apply r2 | apply r3)); exact Kd.R_mono (Kd.R_far (p := ⟨gb264, 0, none⟩) (Kd.R_types HO277.out BK264.out (by decide)) (fun _ hk => hk.2) (.slice Ao134 t275.length co134)) (fun _ hk => trivial), BL⟩
      replace c117 := Bool.eq_false_iff.mpr c117
      subst c117
      have H1 : (some (([] : List (S45)), false)) = some (r1, r2) := by rw [if_neg (show ¬ (false = true) by decide)] at H; exact H
      clear H
      have H := H1
      clear H1
      simp only [Option.some.injEq, Prod.mk.injEq] at H
      obtain ⟨rfl, rfl⟩ := H
      go_wp2_with (first | ((with_reducible refine gate_dst (N := 8) rfl ?_); refine bE 8 #[.slice none 0 0] 29 ?_; intro gb270 hg w139 hbox hb; have BK270 := Aside0.mk (hbox); have GW270 : Aside0 (w.heap.size ≤ gb270) := GS; have GE270 : Aside0 (w.heap.size ≤ gb270) := GS; have NB262_270 := NL BK262.out hg; have NB270_262 := NG BK262.out hg; have NB263_270 := NL BK263.out hg; have NB270_263 := NG BK263.out hg; have NB264_270 := NL BK264.out hg; have NB270_264 := NG BK264.out hg; have NB268_270 := NL BK268.out hg; have NB270_268 := NG BK268.out hg; replace BK262 := BB BK262.out hb; replace BK263 := BB BK263.out hb; replace BK264 := BB BK264.out hb; replace BK268 := BB BK268.out hb; replace HB := Aside0.mk (below_step (BL) hb); clear hb hbox hg; have hnb140 := NB270_262.out; have hnc140 := NB262_270.out; have hnb141 := NB270_263.out; have hnc141 := NB263_270.out; have hnb142 := NB270_264.out; have hnc142 := NB264_270.out; have hnb143 := NB270_268.out; have hnc143 := NB268_270.out; have hcz144_0 : w139.cell? ⟨gb270, 0, none⟩ = some (.slice none 0 0) := CZ BK270.out 0; have hfz144_0 := blk_frozen BK270.out 0; have hnb145 := NB263_262.out; have hnc145 := NB262_263.out; have hnb146 := NB263_264.out; have hnc146 := NB264_263.out; have hnb147 := NB263_268.out; have hnc147 := NB268_263.out; have hcz148_0 : w139.cell? ⟨gb263, 0, none⟩ = some (.int .i64 a1_0) := CZ BK263.out 0; have hcz148_1 : w139.cell? ⟨gb263, 1, none⟩ = some (.string a1_1) := CZ BK263.out 1; have hcz148_2 : w139.cell? ⟨gb263, 2, none⟩ = some (.string a1_2) := CZ BK263.out 2; have hcz148_3 : w139.cell? ⟨gb263, 3, none⟩ = some (.string a1_3) := CZ BK263.out 3; have hfz148_0 := blk_frozen BK263.out 0; have hfz148_1 := blk_frozen BK263.out 1; have hfz148_2 := blk_frozen BK263.out 2; have hfz148_3 := blk_frozen BK263.out 3; have hnb149 := NB268_262.out; have hnc149 := NB262_268.out; have hnb150 := NB268_264.out; have hnc150 := NB264_268.out; have hcz151_0 : w139.cell? ⟨gb268, 0, none⟩ = some (.string x269000_48) := CZ BK268.out 0; have hcz151_1 : w139.cell? ⟨gb268, 1, none⟩ = some (.string x269001_48) := CZ BK268.out 1; have hcz151_2 : w139.cell? ⟨gb268, 2, none⟩ = some (.int .i64 x269002_48) := CZ BK268.out 2; have hfz151_0 := blk_frozen BK268.out 0; have hfz151_1 := blk_frozen BK268.out 1; have hfz151_2 := blk_frozen BK268.out 2; have hnb152 := NB262_264.out; have hnc152 := NB264_262.out; have hcz153_0 : w139.cell? ⟨gb262, 0, none⟩ = some (.slice A0_0 l0_0.length c0_0) := CZ BK262.out 0; have hfz153_0 := blk_frozen BK262.out 0) | ((with_reducible refine gate_callee (f := 66) rfl ?_); refine goesL_ (some 67) rfl rfl Try.func66 (by kernel_rfl) rfl #[.agg #[.slice A0_0 l0_0.length c0_0], .agg #[.string x269000_48, .string x269001_48, .int .i64 (x269001_48.size : Int)]] rfl (MA) ?_; (with_reducible refine (impl_withFile.calls _ _ l0_0 x269000_48 x269001_48 (x269001_48.size : Int) t275 _ ?side1 ?side2 A115.out).mono ?_); (case side1 => exact Kd.C_below HR0_0.out (BL)); (case side2 => exact HC0_0.out); rintro e w154 ⟨v276, rfl, ho0, hb⟩; refine ⟨_, rfl, ?_⟩; have HO277 := Aside0.mk (Kd.R_lower (Kd.R_newB ho0 (g := gb268) (o := .cells #[.string x269000_48, .string x269001_48, .int .i64 (x269001_48.size : Int)] 45 (0, 0)) (by (with_reducible repeat (first | apply b1 | apply b2 | apply b3)); refine blk_put (cs := #[.string x269000_48, .string x269001_48, .int .i64 x269002_48]) ?_ 2 _ rfl; (with_reducible repeat (first | apply b1 | apply b2 | apply b3)); refine blk_far ?_ NB268_270.out _; (with_reducible repeat (first | apply b1 | apply b2 | apply b3)); exact BK268.out)) (below_size (BL))); replace BK262 := Aside0.mk (blk_below (g := gb262) (o := .cells #[.slice A0_0 l0_0.length c0_0] 29 (0, 0)) (by (with_reducible repeat (first | apply b1 | apply b2 | apply b3)); refine blk_far ?_ NB262_268.out _; (with_reducible repeat (first | apply b1 | apply b2 | apply b3)); refine blk_far ?_ NB262_270.out _; (with_reducible repeat (first | apply b1 | apply b2 | apply b3)); exact BK262.out) hb); replace BK263 := Aside0.mk (blk_below (g := gb263) (o := .cells #[.int .i64 a1_0, .string a1_1, .string a1_2, .string a1_3] 55 (0, 0)) (by (with_reducible repeat (first | apply b1 | apply b2 | apply b3)); refine blk_far ?_ NB263_268.out _; (with_reducible repeat (first | apply b1 | apply b2 | apply b3)); refine blk_far ?_ NB263_270.out _; (with_reducible repeat (first | apply b1 | apply b2 | apply b3)); exact BK263.out) hb); replace BK264 := Aside0.mk (blk_below (g := gb264) (o := .cells #[.slice none 0 0] 29 (0, 0)) (by (with_reducible repeat (first | apply b1 | apply b2 | apply b3)); refine blk_far ?_ NB264_268.out _; (with_reducible repeat (first | apply b1 | apply b2 | apply b3)); refine blk_far ?_ NB264_270.out _; (with_reducible repeat (first | apply b1 | apply b2 | apply b3)); exact BK264.out) hb); replace BK268 := Aside0.mk (blk_below (g := gb268) (o := .cells #[.string x269000_48, .string x269001_48, .int .i64 (x269001_48.size : Int)] 45 (0, 0)) (by (with_reducible repeat (first | apply b1 | apply b2 | apply b3)); refine blk_put (cs := #[.string x269000_48, .string x269001_48, .int .i64 x269002_48]) ?_ 2 _ rfl; (with_reducible repeat (first | apply b1 | apply b2 | apply b3)); refine blk_far ?_ NB268_270.out _; (with_reducible repeat (first | apply b1 | apply b2 | apply b3)); exact BK268.out) hb); replace BK270 := Aside0.mk (blk_below (g := gb270) (o := .cells #[.slice none 0 0] 29 (0, 0)) (by (with_reducible repeat (first | apply b1 | apply b2 | apply b3)); refine blk_far ?_ NB270_268.out _; (with_reducible repeat (first | apply b1 | apply b2 | apply b3)); refine blk_put (cs := #[.slice none 0 0]) ?_ 0 _ rfl; (with_reducible repeat (first | apply b1 | apply b2 | apply b3)); exact BK270.out) hb); replace HB := Aside0.mk (below_step (BL) hb); (try clear hb); (try clear hb2); (try clear hk); (try clear hi); (try clear ho0); obtain ⟨Ao155, co155, eo155⟩ := Kd.R_slice HO277.out; subst eo155; have hcz156_0 : w154.cell? ⟨gb270, 0, none⟩ = some (.slice none 0 0) := CZ BK270.out 0; have hfz156_0 := blk_frozen BK270.out 0) | ((with_reducible refine gate_callee (f := 15) rfl ?_); refine goesL_ (some 94) rfl rfl Try.func15 (by kernel_rfl) rfl #[.agg #[.slice Ao155 t275.length co155]] rfl (MA) ?_; (with_reducible refine (impl_DiskOk.calls kj48 _ _ t275 false _ ?side1 ?side2 A116.out).mono ?_); (case side1 => refine (Kd.R_reads' (e := 45) (base := w.heap.size) (ok := fun k_ => (True ∧ k_ ≠ gb268)) (n := t275.length) (c := co155) ?_).2.2; exact (by (with_reducible repeat (first | apply r1 | apply r2 | apply r3)); exact (Kd.R_mono (Kd.R_far (p := ⟨gb270, 0, none⟩) (Kd.R_types HO277.out BK270.out (by decide)) (fun _ hk => hk.2) (.slice Ao155 t275.length co155)) (fun _ h_ => h_.1)))); (case side2 => exact (Kd.R_reads' HO277.out).2.1); rintro e w157 ⟨rfl, hb⟩; refine ⟨_, rfl, ?_⟩; replace HO277 := Aside0.mk (Kd.R_below (by (with_reducible repeat (first | apply r1 | apply r2 | apply r3)); exact (Kd.R_mono (Kd.R_far (p := ⟨gb270, 0, none⟩) (Kd.R_types HO277.out BK270.out (by decide)) (fun _ hk => hk.2) (.slice Ao155 t275.length co155)) (fun _ h_ => h_.1))) hb); replace BK262 := Aside0.mk (blk_below (g := gb262) (o := .cells #[.slice A0_0 l0_0.length c0_0] 29 (0, 0)) (by (with_reducible repeat (first | apply b1 | apply b2 | apply b3)); refine blk_far ?_ NB262_270.out _; (with_reducible repeat (first | apply b1 | apply b2 | apply b3)); exact BK262.out) hb); replace BK263 := Aside0.mk (blk_below (g := gb263) (o := .cells #[.int .i64 a1_0, .string a1_1, .string a1_2, .string a1_3] 55 (0, 0)) (by (with_reducible repeat (first | apply b1 | apply b2 | apply b3)); refine blk_far ?_ NB263_270.out _; (with_reducible repeat (first | apply b1 | apply b2 | apply b3)); exact BK263.out) hb); replace BK264 := Aside0.mk (blk_below (g := gb264) (o := .cells #[.slice none 0 0] 29 (0, 0)) (by (with_reducible repeat (first | apply b1 | apply b2 | apply b3)); refine blk_far ?_ NB264_270.out _; (with_reducible repeat (first | apply b1 | apply b2 | apply b3)); exact BK264.out) hb); replace BK268 := Aside0.mk (blk_below (g := gb268) (o := .cells #[.string x269000_48, .string x269001_48, .int .i64 (x269001_48.size : Int)] 45 (0, 0)) (by (with_reducible repeat (first | apply b1 | apply b2 | apply b3)); refine blk_far ?_ NB268_270.out _; (with_reducible repeat (first | apply b1 | apply b2 | apply b3)); exact BK268.out) hb); replace BK270 := Aside0.mk (blk_below (g := gb270) (o := .cells #[.slice Ao155 t275.length co155] 29 (0, 0)) (by (with_reducible repeat (first | apply b1 | apply b2 | apply b3)); refine blk_put (cs := #[.slice none 0 0]) ?_ 0 _ rfl; (with_reducible repeat (first | apply b1 | apply b2 | apply b3)); exact BK270.out) hb); replace HB := Aside0.mk (below_step (BL) hb); (try clear hb); (try clear hb2); (try clear hk); (try clear hi); have hcz158_0 : w157.cell? ⟨gb264, 0, none⟩ = some (.slice none 0 0) := CZ BK264.out 0; have hfz158_0 := blk_frozen BK264.out 0))
      refine bodyPost_ret (results_ct rfl _ _ gb264 29 #[.slice none 0 0] (0, 0) _ rfl (by (with_reducible repeat (first | apply b1 | apply b2 | apply b3)); refine blk_put (cs := #[.slice none 0 0]) ?_ 0 _ rfl; (with_reducible repeat (first | apply b1 | apply b2 | apply b3)); exact BK264.out) Try.underlying29 rfl (by kernel_rfl)) rfl ?_
      exact ⟨_, EE, by first | exact Kd.R_nil _ _ _ _ _ | exact Kd.N_nil _ _ _ _ _ | exact Kd.V_nil _ _ _ _ _ | exact Kd.Q_nil _ _ _ _ _ | exact Kd.S_nil _ _ _ _ _, BL⟩
     rw [if_neg c114] at H
     have c114b0 : (a1_0 == 2) = false := beq_eq_false_iff_ne.mpr c114
     have c114b1 : (a1_0 != 2) = true := bne_iff_ne.mpr c114
     by_cases c159 : a1_0 = 3; rotate_left
     ·
      rw [if_neg c159] at H
      have c159b0 : (a1_0 == 3) = false := beq_eq_false_iff_ne.mpr c159
      have c159b1 : (a1_0 != 3) = true := bne_iff_ne.mpr c159
      replace H := Option.bind_eq_some_iff.mp H
      obtain ⟨t286, A2410, H⟩ := H
      replace H : ((impl_DiskOk.f kj48 t286).bind fun t289 => (if t289 = true then (some (t286, true)) else (some (([] : List (S45)), false)))) = some (r1, r2) := H
      have A241 := Aside0.mk A2410
      clear A2410
      replace H := Option.bind_eq_some_iff.mp H
      obtain ⟨t289, A2420, H⟩ := H
      replace H : (if t289 = true then (some (t286, true)) else (some (([] : List (S45)), false))) = some (r1, r2) := H
      have A242 := Aside0.mk A2420
      clear A2420
      by_cases c243 : t289 = true
      ·
       subst c243
       have H1 : (some (t286, true)) = some (r1, r2) := by rw [if_pos rfl] at H; exact H
       clear H
       have H := H1
       clear H1
       simp only [Option.some.injEq, Prod.mk.injEq] at H
       obtain ⟨rfl, rfl⟩ := H
       go_wp2_with (first | ((with_reducible refine gate_dst (N := 8) rfl ?_); refine bE 8 #[.slice none 0 0] 29 ?_; intro gb270 hg w244 hbox hb; have BK270 := Aside0.mk (hbox); have GW270 : Aside0 (w.heap.size ≤ gb270) := GS; have GE270 : Aside0 (w.heap.size ≤ gb270) := GS; have NB262_270 := NL BK262.out hg; have NB270_262 := NG BK262.out hg; have NB263_270 := NL BK263.out hg; have NB270_263 := NG BK263.out hg; have NB264_270 := NL BK264.out hg; have NB270_264 := NG BK264.out hg; have NB268_270 := NL BK268.out hg; have NB270_268 := NG BK268.out hg; replace BK262 := BB BK262.out hb; replace BK263 := BB BK263.out hb; replace BK264 := BB BK264.out hb; replace BK268 := BB BK268.out hb; replace HB := Aside0.mk (below_step (BL) hb); clear hb hbox hg; have hnb245 := NB270_262.out; have hnc245 := NB262_270.out; have hnb246 := NB270_263.out; have hnc246 := NB263_270.out; have hnb247 := NB270_264.out; have hnc247 := NB264_270.out; have hnb248 := NB270_268.out; have hnc248 := NB268_270.out; have hcz249_0 : w244.cell? ⟨gb270, 0, none⟩ = some (.slice none 0 0) := CZ BK270.out 0; have hfz249_0 := blk_frozen BK270.out 0; have hnb250 := NB263_262.out; have hnc250 := NB262_263.out; have hnb251 := NB263_264.out; have hnc251 := NB264_263.out; have hnb252 := NB263_268.out; have hnc252 := NB268_263.out; have hcz253_0 : w244.cell? ⟨gb263, 0, none⟩ = some (.int .i64 a1_0) := CZ BK263.out 0; have hcz253_1 : w244.cell? ⟨gb263, 1, none⟩ = some (.string a1_1) := CZ BK263.out 1; have hcz253_2 : w244.cell? ⟨gb263, 2, none⟩ = some (.string a1_2) := CZ BK263.out 2; have hcz253_3 : w244.cell? ⟨gb263, 3, none⟩ = some (.string a1_3) := CZ BK263.out 3; have hfz253_0 := blk_frozen BK263.out 0; have hfz253_1 := blk_frozen BK263.out 1; have hfz253_2 := blk_frozen BK263.out 2; have hfz253_3 := blk_frozen BK263.out 3; have hnb254 := NB262_264.out; have hnc254 := NB264_262.out; have hnb255 := NB262_268.out; have hnc255 := NB268_262.out; have hcz256_0 : w244.cell? ⟨gb262, 0, none⟩ = some (.slice A0_0 l0_0.length c0_0) := CZ BK262.out 0; have hfz256_0 := blk_frozen BK262.out 0) | ((with_reducible refine gate_callee (f := 67) rfl ?_); refine goesL_ (some 47) rfl rfl Try.func67 (by kernel_rfl) rfl #[.agg #[.slice A0_0 l0_0.length c0_0], .string a1_1] rfl (MA) ?_; (with_reducible refine (impl_withoutFile.calls _ _ l0_0 a1_1 t286 _ ?side1 ?side2 A241.out).mono ?_); (case side1 => exact Kd.C_below HR0_0.out (BL)); (case side2 => exact HC0_0.out); rintro e w257 ⟨v287, rfl, ho0, hb⟩; refine ⟨_, rfl, ?_⟩; have HO288 := Aside0.mk (Kd.R_lower (Kd.R_newB ho0 (g := gb268) (o := .cells #[.string x269000_48, .string x269001_48, .int .i64 x269002_48] 45 (0, 0)) (by (with_reducible repeat (first | apply b1 | apply b2 | apply b3)); refine blk_far ?_ NB268_270.out _; (with_reducible repeat (first | apply b1 | apply b2 | apply b3)); exact BK268.out)) (below_size (BL))); replace BK262 := Aside0.mk (blk_below (g := gb262) (o := .cells #[.slice A0_0 l0_0.length c0_0] 29 (0, 0)) (by (with_reducible repeat (first | apply b1 | apply b2 | apply b3)); refine blk_far ?_ NB262_270.out _; (with_reducible repeat (first | apply b1 | apply b2 | apply b3)); exact BK262.out) hb); replace BK263 := Aside0.mk (blk_below (g := gb263) (o := .cells #[.int .i64 a1_0, .string a1_1, .string a1_2, .string a1_3] 55 (0, 0)) (by (with_reducible repeat (first | apply b1 | apply b2 | apply b3)); refine blk_far ?_ NB263_270.out _; (with_reducible repeat (first | apply b1 | apply b2 | apply b3)); exact BK263.out) hb); replace BK264 := Aside0.mk (blk_below (g := gb264) (o := .cells #[.slice none 0 0] 29 (0, 0)) (by (with_reducible repeat (first | apply b1 | apply b2 | apply b3)); refine blk_far ?_ NB264_270.out _; (with_reducible repeat (first | apply b1 | apply b2 | apply b3)); exact BK264.out) hb); replace BK268 := Aside0.mk (blk_below (g := gb268) (o := .cells #[.string x269000_48, .string x269001_48, .int .i64 x269002_48] 45 (0, 0)) (by (with_reducible repeat (first | apply b1 | apply b2 | apply b3)); refine blk_far ?_ NB268_270.out _; (with_reducible repeat (first | apply b1 | apply b2 | apply b3)); exact BK268.out) hb); replace BK270 := Aside0.mk (blk_below (g := gb270) (o := .cells #[.slice none 0 0] 29 (0, 0)) (by (with_reducible repeat (first | apply b1 | apply b2 | apply b3)); refine blk_put (cs := #[.slice none 0 0]) ?_ 0 _ rfl; (with_reducible repeat (first | apply b1 | apply b2 | apply b3)); exact BK270.out) hb); replace HB := Aside0.mk (below_step (BL) hb); (try clear hb); (try clear hb2); (try clear hk); (try clear hi); (try clear ho0); obtain ⟨Ao258, co258, eo258⟩ := Kd.R_slice HO288.out; subst eo258; have hcz259_0 : w257.cell? ⟨gb270, 0, none⟩ = some (.slice none 0 0) := CZ BK270.out 0; have hfz259_0 := blk_frozen BK270.out 0) | ((with_reducible refine gate_callee (f := 15) rfl ?_); refine goesL_ (some 94) rfl rfl Try.func15 (by kernel_rfl) rfl #[.agg #[.slice Ao258 t286.length co258]] rfl (MA) ?_; (with_reducible refine (impl_DiskOk.calls kj48 _ _ t286 true _ ?side1 ?side2 A242.out).mono ?_); (case side1 => refine (Kd.R_reads' (e := 45) (base := w.heap.size) (ok := fun k_ => (True ∧ k_ ≠ gb268)) (n := t286.length) (c := co258) ?_).2.2; exact (by (with_reducible repeat (first | apply r1 | apply r2 | apply r3)); exact (Kd.R_mono (Kd.R_far (p := ⟨gb270, 0, none⟩) (Kd.R_types HO288.out BK270.out (by decide)) (fun _ hk => hk.2) (.slice Ao258 t286.length co258)) (fun _ h_ => h_.1)))); (case side2 => exact (Kd.R_reads' HO288.out).2.1); rintro e w260 ⟨rfl, hb⟩; refine ⟨_, rfl, ?_⟩; replace HO288 := Aside0.mk (Kd.R_below (by (with_reducible repeat (first | apply r1 | apply r2 | apply r3)); exact (Kd.R_mono (Kd.R_far (p := ⟨gb270, 0, none⟩) (Kd.R_types HO288.out BK270.out (by decide)) (fun _ hk => hk.2) (.slice Ao258 t286.length co258)) (fun _ h_ => h_.1))) hb); replace BK262 := Aside0.mk (blk_below (g := gb262) (o := .cells #[.slice A0_0 l0_0.length c0_0] 29 (0, 0)) (by (with_reducible repeat (first | apply b1 | apply b2 | apply b3)); refine blk_far ?_ NB262_270.out _; (with_reducible repeat (first | apply b1 | apply b2 | apply b3)); exact BK262.out) hb); replace BK263 := Aside0.mk (blk_below (g := gb263) (o := .cells #[.int .i64 a1_0, .string a1_1, .string a1_2, .string a1_3] 55 (0, 0)) (by (with_reducible repeat (first | apply b1 | apply b2 | apply b3)); refine blk_far ?_ NB263_270.out _; (with_reducible repeat (first | apply b1 | apply b2 | apply b3)); exact BK263.out) hb); replace BK264 := Aside0.mk (blk_below (g := gb264) (o := .cells #[.slice none 0 0] 29 (0, 0)) (by (with_reducible repeat (first | apply b1 | apply b2 | apply b3)); refine blk_far ?_ NB264_270.out _; (with_reducible repeat (first | apply b1 | apply b2 | apply b3)); exact BK264.out) hb); replace BK268 := Aside0.mk (blk_below (g := gb268) (o := .cells #[.string x269000_48, .string x269001_48, .int .i64 x269002_48] 45 (0, 0)) (by (with_reducible repeat (first | apply b1 | apply b2 | apply b3)); refine blk_far ?_ NB268_270.out _; (with_reducible repeat (first | apply b1 | apply b2 | apply b3)); exact BK268.out) hb); replace BK270 := Aside0.mk (blk_below (g := gb270) (o := .cells #[.slice Ao258 t286.length co258] 29 (0, 0)) (by (with_reducible repeat (first | apply b1 | apply b2 | apply b3)); refine blk_put (cs := #[.slice none 0 0]) ?_ 0 _ rfl; (with_reducible repeat (first | apply b1 | apply b2 | apply b3)); exact BK270.out) hb); replace HB := Aside0.mk (below_step (BL) hb); (try clear hb); (try clear hb2); (try clear hk); (try clear hi); have hcz261_0 : w260.cell? ⟨gb270, 0, none⟩ = some (.slice Ao258 t286.length co258) := CZ BK270.out 0; have hfz261_0 := blk_frozen BK270.out 0; have hnb262 := NB264_268.out; have hnc262 := NB268_264.out; have hcz263_0 : w260.cell? ⟨gb264, 0, none⟩ = some (.slice none 0 0) := CZ BK264.out 0; have hfz263_0 := blk_frozen BK264.out 0))
       refine bodyPost_ret (results_ct rfl _ _ gb264 29 #[.slice Ao258 t286.length co258] (0, 0) _ rfl (by (with_reducible repeat (first | apply b1 | apply b2 | apply b3)); refine blk_put (cs := #[.slice none 0 0]) ?_ 0 _ rfl; (with_reducible repeat (first | apply b1 | apply b2 | apply b3)); exact BK264.out) Try.underlying29 rfl (by kernel_rfl)) rfl ?_
       exact ⟨_, EE, by (with_reducible repeat (first | apply r1 | apply r2 | apply r3)); exact Kd.R_mono (Kd.R_far (p := ⟨gb264, 0, none⟩) (Kd.R_types HO288.out BK264.out (by decide)) (fun _ hk => hk.2) (.slice Ao258 t286.length co258)) (fun _ hk => trivial), BL⟩
      replace c243 := Bool.eq_false_iff.mpr c243
      subst c243
      have H1 : (some (([] : List (S45)), false)) = some (r1, r2) := by rw [if_neg (show ¬ (false = true) by decide)] at H; exact H
      clear H
      have H := H1
      clear H1
      simp only [Option.some.injEq, Prod.mk.injEq] at H
      obtain ⟨rfl, rfl⟩ := H
      go_wp2_with (first | ((with_reducible refine gate_dst (N := 8) rfl ?_); refine bE 8 #[.slice none 0 0] 29 ?_; intro gb270 hg w264 hbox hb; have BK270 := Aside0.mk (hbox); have GW270 : Aside0 (w.heap.size ≤ gb270) := GS; have GE270 : Aside0 (w.heap.size ≤ gb270) := GS; have NB262_270 := NL BK262.out hg; have NB270_262 := NG BK262.out hg; have NB263_270 := NL BK263.out hg; have NB270_263 := NG BK263.out hg; have NB264_270 := NL BK264.out hg; have NB270_264 := NG BK264.out hg; have NB268_270 := NL BK268.out hg; have NB270_268 := NG BK268.out hg; replace BK262 := BB BK262.out hb; replace BK263 := BB BK263.out hb; replace BK264 := BB BK264.out hb; replace BK268 := BB BK268.out hb; replace HB := Aside0.mk (below_step (BL) hb); clear hb hbox hg; have hnb265 := NB270_262.out; have hnc265 := NB262_270.out; have hnb266 := NB270_263.out; have hnc266 := NB263_270.out; have hnb267 := NB270_264.out; have hnc267 := NB264_270.out; have hnb268 := NB270_268.out; have hnc268 := NB268_270.out; have hcz269_0 : w264.cell? ⟨gb270, 0, none⟩ = some (.slice none 0 0) := CZ BK270.out 0; have hfz269_0 := blk_frozen BK270.out 0; have hnb270 := NB263_262.out; have hnc270 := NB262_263.out; have hnb271 := NB263_264.out; have hnc271 := NB264_263.out; have hnb272 := NB263_268.out; have hnc272 := NB268_263.out; have hcz273_0 : w264.cell? ⟨gb263, 0, none⟩ = some (.int .i64 a1_0) := CZ BK263.out 0; have hcz273_1 : w264.cell? ⟨gb263, 1, none⟩ = some (.string a1_1) := CZ BK263.out 1; have hcz273_2 : w264.cell? ⟨gb263, 2, none⟩ = some (.string a1_2) := CZ BK263.out 2; have hcz273_3 : w264.cell? ⟨gb263, 3, none⟩ = some (.string a1_3) := CZ BK263.out 3; have hfz273_0 := blk_frozen BK263.out 0; have hfz273_1 := blk_frozen BK263.out 1; have hfz273_2 := blk_frozen BK263.out 2; have hfz273_3 := blk_frozen BK263.out 3; have hnb274 := NB262_264.out; have hnc274 := NB264_262.out; have hnb275 := NB262_268.out; have hnc275 := NB268_262.out; have hcz276_0 : w264.cell? ⟨gb262, 0, none⟩ = some (.slice A0_0 l0_0.length c0_0) := CZ BK262.out 0; have hfz276_0 := blk_frozen BK262.out 0) | ((with_reducible refine gate_callee (f := 67) rfl ?_); refine goesL_ (some 47) rfl rfl Try.func67 (by kernel_rfl) rfl #[.agg #[.slice A0_0 l0_0.length c0_0], .string a1_1] rfl (MA) ?_; (with_reducible refine (impl_withoutFile.calls _ _ l0_0 a1_1 t286 _ ?side1 ?side2 A241.out).mono ?_); (case side1 => exact Kd.C_below HR0_0.out (BL)); (case side2 => exact HC0_0.out); rintro e w277 ⟨v287, rfl, ho0, hb⟩; refine ⟨_, rfl, ?_⟩; have HO288 := Aside0.mk (Kd.R_lower (Kd.R_newB ho0 (g := gb268) (o := .cells #[.string x269000_48, .string x269001_48, .int .i64 x269002_48] 45 (0, 0)) (by (with_reducible repeat (first | apply b1 | apply b2 | apply b3)); refine blk_far ?_ NB268_270.out _; (with_reducible repeat (first | apply b1 | apply b2 | apply b3)); exact BK268.out)) (below_size (BL))); replace BK262 := Aside0.mk (blk_below (g := gb262) (o := .cells #[.slice A0_0 l0_0.length c0_0] 29 (0, 0)) (by (with_reducible repeat (first | apply b1 | apply b2 | apply b3)); refine blk_far ?_ NB262_270.out _; (with_reducible repeat (first | apply b1 | apply b2 | apply b3)); exact BK262.out) hb); replace BK263 := Aside0.mk (blk_below (g := gb263) (o := .cells #[.int .i64 a1_0, .string a1_1, .string a1_2, .string a1_3] 55 (0, 0)) (by (with_reducible repeat (first | apply b1 | apply b2 | apply b3)); refine blk_far ?_ NB263_270.out _; (with_reducible repeat (first | apply b1 | apply b2 | apply b3)); exact BK263.out) hb); replace BK264 := Aside0.mk (blk_below (g := gb264) (o := .cells #[.slice none 0 0] 29 (0, 0)) (by (with_reducible repeat (first | apply b1 | apply b2 | apply b3)); refine blk_far ?_ NB264_270.out _; (with_reducible repeat (first | apply b1 | apply b2 | apply b3)); exact BK264.out) hb); replace BK268 := Aside0.mk (blk_below (g := gb268) (o := .cells #[.string x269000_48, .string x269001_48, .int .i64 x269002_48] 45 (0, 0)) (by (with_reducible repeat (first | apply b1 | apply b2 | apply b3)); refine blk_far ?_ NB268_270.out _; (with_reducible repeat (first | apply b1 | apply b2 | apply b3)); exact BK268.out) hb); replace BK270 := Aside0.mk (blk_below (g := gb270) (o := .cells #[.slice none 0 0] 29 (0, 0)) (by (with_reducible repeat (first | apply b1 | apply b2 | apply b3)); refine blk_put (cs := #[.slice none 0 0]) ?_ 0 _ rfl; (with_reducible repeat (first | apply b1 | apply b2 | apply b3)); exact BK270.out) hb); replace HB := Aside0.mk (below_step (BL) hb); (try clear hb); (try clear hb2); (try clear hk); (try clear hi); (try clear ho0); obtain ⟨Ao278, co278, eo278⟩ := Kd.R_slice HO288.out; subst eo278; have hcz279_0 : w277.cell? ⟨gb270, 0, none⟩ = some (.slice none 0 0) := CZ BK270.out 0; have hfz279_0 := blk_frozen BK270.out 0) | ((with_reducible refine gate_callee (f := 15) rfl ?_); refine goesL_ (some 94) rfl rfl Try.func15 (by kernel_rfl) rfl #[.agg #[.slice Ao278 t286.length co278]] rfl (MA) ?_; (with_reducible refine (impl_DiskOk.calls kj48 _ _ t286 false _ ?side1 ?side2 A242.out).mono ?_); (case side1 => refine (Kd.R_reads' (e := 45) (base := w.heap.size) (ok := fun k_ => (True ∧ k_ ≠ gb268)) (n := t286.length) (c := co278) ?_).2.2; exact (by (with_reducible repeat (first | apply r1 | apply r2 | apply r3)); exact (Kd.R_mono (Kd.R_far (p := ⟨gb270, 0, none⟩) (Kd.R_types HO288.out BK270.out (by decide)) (fun _ hk => hk.2) (.slice Ao278 t286.length co278)) (fun _ h_ => h_.1)))); (case side2 => exact (Kd.R_reads' HO288.out).2.1); rintro e w280 ⟨rfl, hb⟩; refine ⟨_, rfl, ?_⟩; replace HO288 := Aside0.mk (Kd.R_below (by (with_reducible repeat (first | apply r1 | apply r2 | apply r3)); exact (Kd.R_mono (Kd.R_far (p := ⟨gb270, 0, none⟩) (Kd.R_types HO288.out BK270.out (by decide)) (fun _ hk => hk.2) (.slice Ao278 t286.length co278)) (fun _ h_ => h_.1))) hb); replace BK262 := Aside0.mk (blk_below (g := gb262) (o := .cells #[.slice A0_0 l0_0.length c0_0] 29 (0, 0)) (by (with_reducible repeat (first | apply b1 | apply b2 | apply b3)); refine blk_far ?_ NB262_270.out _; (with_reducible repeat (first | apply b1 | apply b2 | apply b3)); exact BK262.out) hb); replace BK263 := Aside0.mk (blk_below (g := gb263) (o := .cells #[.int .i64 a1_0, .string a1_1, .string a1_2, .string a1_3] 55 (0, 0)) (by (with_reducible repeat (first | apply b1 | apply b2 | apply b3)); refine blk_far ?_ NB263_270.out _; (with_reducible repeat (first | apply b1 | apply b2 | apply b3)); exact BK263.out) hb); replace BK264 := Aside0.mk (blk_below (g := gb264) (o := .cells #[.slice none 0 0] 29 (0, 0)) (by (with_reducible repeat (first | apply b1 | apply b2 | apply b3)); refine blk_far ?_ NB264_270.out _; (with_reducible repeat (first | apply b1 | apply b2 | apply b3)); exact BK264.out) hb); replace BK268 := Aside0.mk (blk_below (g := gb268) (o := .cells #[.string x269000_48, .string x269001_48, .int .i64 x269002_48] 45 (0, 0)) (by (with_reducible repeat (first | apply b1 | apply b2 | apply b3)); refine blk_far ?_ NB268_270.out _; (with_reducible repeat (first | apply b1 | apply b2 | apply b3)); exact BK268.out) hb); replace BK270 := Aside0.mk (blk_below (g := gb270) (o := .cells #[.slice Ao278 t286.length co278] 29 (0, 0)) (by (with_reducible repeat (first | apply b1 | apply b2 | apply b3)); refine blk_put (cs := #[.slice none 0 0]) ?_ 0 _ rfl; (with_reducible repeat (first | apply b1 | apply b2 | apply b3)); exact BK270.out) hb); replace HB := Aside0.mk (below_step (BL) hb); (try clear hb); (try clear hb2); (try clear hk); (try clear hi); have hnb281 := NB264_268.out; have hnc281 := NB268_264.out; have hcz282_0 : w280.cell? ⟨gb264, 0, none⟩ = some (.slice none 0 0) := CZ BK264.out 0; have hfz282_0 := blk_frozen BK264.out 0))
      refine bodyPost_ret (results_ct rfl _ _ gb264 29 #[.slice none 0 0] (0, 0) _ rfl (by (with_reducible repeat (first | apply b1 | apply b2 | apply b3)); refine blk_put (cs := #[.slice none 0 0]) ?_ 0 _ rfl; (with_reducible repeat (first | apply b1 | apply b2 | apply b3)); exact BK264.out) Try.underlying29 rfl (by kernel_rfl)) rfl ?_
      exact ⟨_, EE, by first | exact Kd.R_nil _ _ _ _ _ | exact Kd.N_nil _ _ _ _ _ | exact Kd.V_nil _ _ _ _ _ | exact Kd.Q_nil _ _ _ _ _ | exact Kd.S_nil _ _ _ _ _, BL⟩
     rw [if_pos c159] at H
     have c159b0 : (a1_0 == 3) = true := beq_iff_eq.mpr c159
     have c159b1 : (a1_0 != 3) = false := bne_eq_false_iff_eq.mpr c159
     clear c159
     have HC160 := Aside0.mk H
     clear H
     go_upto_region 17 with (first | ((with_reducible refine gate_dst (N := 8) rfl ?_); refine bE 8 #[.slice none 0 0] 29 ?_; intro gb270 hg w161 hbox hb; have BK270 := Aside0.mk (hbox); have GW270 : Aside0 (w.heap.size ≤ gb270) := GS; have GE270 : Aside0 (w.heap.size ≤ gb270) := GS; have NB262_270 := NL BK262.out hg; have NB270_262 := NG BK262.out hg; have NB263_270 := NL BK263.out hg; have NB270_263 := NG BK263.out hg; have NB264_270 := NL BK264.out hg; have NB270_264 := NG BK264.out hg; have NB268_270 := NL BK268.out hg; have NB270_268 := NG BK268.out hg; replace BK262 := BB BK262.out hb; replace BK263 := BB BK263.out hb; replace BK264 := BB BK264.out hb; replace BK268 := BB BK268.out hb; replace HB := Aside0.mk (below_step (BL) hb); clear hb hbox hg; have hnb162 := NB270_262.out; have hnc162 := NB262_270.out; have hnb163 := NB270_263.out; have hnc163 := NB263_270.out; have hnb164 := NB270_264.out; have hnc164 := NB264_270.out; have hnb165 := NB270_268.out; have hnc165 := NB268_270.out; have hcz166_0 : w161.cell? ⟨gb270, 0, none⟩ = some (.slice none 0 0) := CZ BK270.out 0; have hfz166_0 := blk_frozen BK270.out 0; have hnb167 := NB263_262.out; have hnc167 := NB262_263.out; have hnb168 := NB263_264.out; have hnc168 := NB264_263.out; have hnb169 := NB263_268.out; have hnc169 := NB268_263.out; have hcz170_0 : w161.cell? ⟨gb263, 0, none⟩ = some (.int .i64 a1_0) := CZ BK263.out 0; have hcz170_1 : w161.cell? ⟨gb263, 1, none⟩ = some (.string a1_1) := CZ BK263.out 1; have hcz170_2 : w161.cell? ⟨gb263, 2, none⟩ = some (.string a1_2) := CZ BK263.out 2; have hcz170_3 : w161.cell? ⟨gb263, 3, none⟩ = some (.string a1_3) := CZ BK263.out 3; have hfz170_0 := blk_frozen BK263.out 0; have hfz170_1 := blk_frozen BK263.out 1; have hfz170_2 := blk_frozen BK263.out 2; have hfz170_3 := blk_frozen BK263.out 3))
     (try simp only [Act.put, zA, zB, zC])
     go_cut [82] (fun v82 wc => ∃ (kq : Nat) (x82_159 : Bool), v82 = .bool x82_159 ∧ Aside0 (impl_DoAct.j2 kq x82_159 l0_0 a1_0 a1_1 a1_2 a1_3 x269000_48 x269001_48 x269002_48 = some (r1, r2)) ∧ Aside0 (kq ≤ kj48) ∧ Aside0 (wc.heap[gb262]? = some (.cells #[(.slice A0_0 l0_0.length c0_0)] 29 (0, 0))) ∧ Aside0 (wc.heap[gb263]? = some (.cells #[.int .i64 a1_0, .string a1_1, .string a1_2, .string a1_3] 55 (0, 0))) ∧ Aside0 (wc.heap[gb264]? = some (.cells #[(.slice none 0 0)] 29 (0, 0))) ∧ Aside0 (wc.heap[gb268]? = some (.cells #[.string x269000_48, .string x269001_48, .int .i64 x269002_48] 45 (0, 0))) ∧ Aside0 (wc.heap[gb270]? = some (.cells #[(.slice none 0 0)] 29 (0, 0))) ∧ Aside0 (Below w.heap.size w wc))
     case first =>
      have H := HC160.out
      clear HC160
      by_cases c171 : x269002_48 = (x269001_48.size : Int); rotate_left
      ·
       rw [if_neg c171] at H
       have c171b0 : (x269002_48 == (x269001_48.size : Int)) = false := beq_eq_false_iff_ne.mpr c171
       have c171b1 : (x269002_48 != (x269001_48.size : Int)) = true := bne_iff_ne.mpr c171
       (first | rw [c171b0] | (simp only [i64_w, i32_w]; rw [c171b0]) | skip)
       have H' := Aside0.mk H
       clear H
       have hnb181 := NB268_262.out
       have hnc181 := NB262_268.out
       have hnb182 := NB268_263.out
       have hnc182 := NB263_268.out
       have hnb183 := NB268_264.out
       have hnc183 := NB264_268.out
       have hnb184 := NB268_270.out
       have hnc184 := NB270_268.out
       have hcz185_0 : w161.cell? ⟨gb268, 0, none⟩ = some (.string x269000_48) := CZ BK268.out 0
       have hcz185_1 : w161.cell? ⟨gb268, 1, none⟩ = some (.string x269001_48) := CZ BK268.out 1
       have hcz185_2 : w161.cell? ⟨gb268, 2, none⟩ = some (.int .i64 x269002_48) := CZ BK268.out 2
       have hfz185_0 := blk_frozen BK268.out 0
       have hfz185_1 := blk_frozen BK268.out 1
       have hfz185_2 := blk_frozen BK268.out 2
       go_wp2
       go_meet
       case rel => exact ⟨_, (true), SD, H', ⟨by have := HJ3.out; have := HJ48.out; first | omega | exact Nat.le_refl _⟩, ⟨by (with_reducible repeat (first | apply b1 | apply b2 | apply b3)); refine blk_far ?_ NB262_270.out _; (with_reducible repeat (first | apply b1 | apply b2 | apply b3)); exact BK262.out⟩, ⟨by (with_reducible repeat (first | apply b1 | apply b2 | apply b3)); refine blk_far ?_ NB263_270.out _; (with_reducible repeat (first | apply b1 | apply b2 | apply b3)); exact BK263.out⟩, ⟨by (with_reducible repeat (first | apply b1 | apply b2 | apply b3)); refine blk_far ?_ NB264_270.out _; (with_reducible repeat (first | apply b1 | apply b2 | apply b3)); exact BK264.out⟩, ⟨by (with_reducible repeat (first | apply b1 | apply b2 | apply b3)); refine blk_far ?_ NB268_270.out _; (with_reducible repeat (first | apply b1 | apply b2 | apply b3)); exact BK268.out⟩, ⟨by (with_reducible repeat (first | apply b1 | apply b2 | apply b3)); refine blk_put (cs := #[.slice none 0 0]) ?_ 0 _ rfl; (with_reducible repeat (first | apply b1 | apply b2 | apply b3)); exact BK270.out⟩, ⟨BL⟩⟩
      rw [if_pos c171] at H
      have c171b0 : (x269002_48 == (x269001_48.size : Int)) = true := beq_iff_eq.mpr c171
      have c171b1 : (x269002_48 != (x269001_48.size : Int)) = false := bne_eq_false_iff_eq.mpr c171
      clear c171
      (first | rw [c171b0] | (simp only [i64_w, i32_w]; rw [c171b0]) | skip)
      have H' := Aside0.mk H
      clear H
      have hnb172 := NB268_262.out
      have hnc172 := NB262_268.out
      have hnb173 := NB268_263.out
      have hnc173 := NB263_268.out
      have hnb174 := NB268_264.out
      have hnc174 := NB264_268.out
      have hnb175 := NB268_270.out
      have hnc175 := NB270_268.out
      have hcz176_0 : w161.cell? ⟨gb268, 0, none⟩ = some (.string x269000_48) := CZ BK268.out 0
      have hcz176_1 : w161.cell? ⟨gb268, 1, none⟩ = some (.string x269001_48) := CZ BK268.out 1
      have hcz176_2 : w161.cell? ⟨gb268, 2, none⟩ = some (.int .i64 x269002_48) := CZ BK268.out 2
      have hfz176_0 := blk_frozen BK268.out 0
      have hfz176_1 := blk_frozen BK268.out 1
      have hfz176_2 := blk_frozen BK268.out 2
      have hnb177 := NB263_262.out
      have hnc177 := NB262_263.out
      have hnb178 := NB263_264.out
      have hnc178 := NB264_263.out
      have hnb179 := NB263_270.out
      have hnc179 := NB270_263.out
      have hcz180_0 : w161.cell? ⟨gb263, 0, none⟩ = some (.int .i64 a1_0) := CZ BK263.out 0
      have hcz180_1 : w161.cell? ⟨gb263, 1, none⟩ = some (.string a1_1) := CZ BK263.out 1
      have hcz180_2 : w161.cell? ⟨gb263, 2, none⟩ = some (.string a1_2) := CZ BK263.out 2
      have hcz180_3 : w161.cell? ⟨gb263, 3, none⟩ = some (.string a1_3) := CZ BK263.out 3
      have hfz180_0 := blk_frozen BK263.out 0
      have hfz180_1 := blk_frozen BK263.out 1
      have hfz180_2 := blk_frozen BK263.out 2
      have hfz180_3 := blk_frozen BK263.out 3
      go_wp2
      go_meet
      case rel => exact ⟨_, ((a1_3.toList == a1_1.toList)), SD, H', ⟨by have := HJ3.out; have := HJ48.out; first | omega | exact Nat.le_refl _⟩, ⟨by (with_reducible repeat (first | apply b1 | apply b2 | apply b3)); refine blk_far ?_ NB262_270.out _; (with_reducible repeat (first | apply b1 | apply b2 | apply b3)); exact BK262.out⟩, ⟨by (with_reducible repeat (first | apply b1 | apply b2 | apply b3)); refine blk_far ?_ NB263_270.out _; (with_reducible repeat (first | apply b1 | apply b2 | apply b3)); exact BK263.out⟩, ⟨by (with_reducible repeat (first | apply b1 | apply b2 | apply b3)); refine blk_far ?_ NB264_270.out _; (with_reducible repeat (first | apply b1 | apply b2 | apply b3)); exact BK264.out⟩, ⟨by (with_reducible repeat (first | apply b1 | apply b2 | apply b3)); refine blk_far ?_ NB268_270.out _; (with_reducible repeat (first | apply b1 | apply b2 | apply b3)); exact BK268.out⟩, ⟨by (with_reducible repeat (first | apply b1 | apply b2 | apply b3)); refine blk_put (cs := #[.slice none 0 0]) ?_ 0 _ rfl; (with_reducible repeat (first | apply b1 | apply b2 | apply b3)); exact BK270.out⟩, ⟨BL⟩⟩
     case rest =>
      clear HC160
      try clear c1
      try clear c2
      try clear p2
      try clear q2
      try clear hx2
      try clear c3
      try clear c4
      try clear c5
      try clear c6
      try clear c7
      try clear c8
      try clear c9
      try clear c10
      try clear c11
      try clear c12
      try clear c13
      try clear c14
      try clear c15
      try clear c16
      try clear c17
      try clear c18
      try clear c18b0
      try clear c19
      try clear c20
      try clear c23
      try clear p26
      try clear q26
      try clear hx26
      try clear c27
      try clear c28
      try clear c31
      try clear c34
      try clear c35
      try clear c37
      try clear c38
      try clear c41
      try clear c42
      try clear c45
      try clear c46
      try clear c47
      try clear c50
      try clear c51
      try clear c54
      try clear c55
      try clear c56
      try clear c58
      try clear c58b0
      try clear c59
      try clear c59b0
      try clear c60
      try clear c60b0
      try clear c61
      try clear c62
      try clear c63
      try clear c65
      try clear c66
      try clear c68
      try clear c68b0
      try clear c68b1
      try clear c69
      try clear c69b0
      try clear c69b1
      try clear c69b2
      try clear c72
      try clear c74
      try clear c75
      try clear c76
      try clear c77
      try clear c79
      try clear c80
      try clear c81
      try clear c83
      try clear c84
      try clear c86
      try clear c95
      try clear c96
      try clear c97
      try clear c98
      try clear c100
      try clear c101
      try clear c102
      try clear c104
      try clear c105
      try clear c107
      try clear c114
      try clear c114b0
      try clear c114b1
      try clear c117
      try clear c119
      try clear c120
      try clear c121
      try clear c122
      try clear c124
      try clear c125
      try clear c126
      try clear c128
      try clear c129
      try clear c131
      try clear c140
      try clear c141
      try clear c142
      try clear c143
      try clear c145
      try clear c146
      try clear c147
      try clear c149
      try clear c150
      try clear c152
      try clear c159
      try clear c159b0
      try clear c159b1
      try clear c162
      try clear c163
      try clear c164
      try clear c165
      try clear c167
      try clear c168
      try clear c169
      try clear c171
      try clear c171b0
      try clear c171b1
      try clear c172
      try clear c173
      try clear c174
      try clear c175
      try clear c177
      try clear c178
      try clear c179
      try clear c181
      try clear c182
      try clear c183
      try clear c184
      try clear hcz103_0
      try clear hcz103_1
      try clear hcz103_2
      try clear hcz103_3
      try clear hcz106_0
      try clear hcz106_1
      try clear hcz106_2
      try clear hcz108_0
      try clear hcz10_0
      try clear hcz111_0
      try clear hcz113_0
      try clear hcz123_0
      try clear hcz127_0
      try clear hcz127_1
      try clear hcz127_2
      try clear hcz127_3
      try clear hcz12_0
      try clear hcz12_1
      try clear hcz12_2
      try clear hcz12_3
      try clear hcz130_0
      try clear hcz130_1
      try clear hcz130_2
      try clear hcz132_0
      try clear hcz135_0
      try clear hcz137_0
      try clear hcz138_0
      try clear hcz144_0
      try clear hcz148_0
      try clear hcz148_1
      try clear hcz148_2
      try clear hcz148_3
      try clear hcz151_0
      try clear hcz151_1
      try clear hcz151_2
      try clear hcz153_0
      try clear hcz156_0
      try clear hcz158_0
      try clear hcz166_0
      try clear hcz170_0
      try clear hcz170_1
      try clear hcz170_2
      try clear hcz170_3
      try clear hcz176_0
      try clear hcz176_1
      try clear hcz176_2
      try clear hcz180_0
      try clear hcz180_1
      try clear hcz180_2
      try clear hcz180_3
      try clear hcz185_0
      try clear hcz185_1
      try clear hcz185_2
      try clear hcz21_0
      try clear hcz24_0
      try clear hcz24_1
      try clear hcz24_2
      try clear hcz24_3
      try clear hcz26_0
      try clear hcz26_1
      try clear hcz26_2
      try clear hcz26_3
      try clear hcz29_0
      try clear hcz32_0
      try clear hcz32_1
      try clear hcz32_2
      try clear hcz32_3
      try clear hcz36_0
      try clear hcz39_0
      try clear hcz39_1
      try clear hcz39_2
      try clear hcz39_3
      try clear hcz43_0
      try clear hcz48_0
      try clear hcz52_0
      try clear hcz52_1
      try clear hcz52_2
      try clear hcz52_3
      try clear hcz57_0
      try clear hcz57_1
      try clear hcz57_2
      try clear hcz64_0
      try clear hcz67_0
      try clear hcz67_1
      try clear hcz67_2
      try clear hcz78_0
      try clear hcz82_0
      try clear hcz82_1
      try clear hcz82_2
      try clear hcz82_3
      try clear hcz85_0
      try clear hcz85_1
      try clear hcz85_2
      try clear hcz87_0
      try clear hcz90_0
      try clear hcz92_0
      try clear hcz93_0
      try clear hcz99_0
      try clear hfz103_0
      try clear hfz103_1
      try clear hfz103_2
      try clear hfz103_3
      try clear hfz106_0
      try clear hfz106_1
      try clear hfz106_2
      try clear hfz108_0
      try clear hfz10_0
      try clear hfz111_0
      try clear hfz113_0
      try clear hfz123_0
      try clear hfz127_0
      try clear hfz127_1
      try clear hfz127_2
      try clear hfz127_3
      try clear hfz12_0
      try clear hfz12_1
      try clear hfz12_2
      try clear hfz12_3
      try clear hfz130_0
      try clear hfz130_1
      try clear hfz130_2
      try clear hfz132_0
      try clear hfz135_0
      try clear hfz137_0
      try clear hfz138_0
      try clear hfz144_0
      try clear hfz148_0
      try clear hfz148_1
      try clear hfz148_2
      try clear hfz148_3
      try clear hfz151_0
      try clear hfz151_1
      try clear hfz151_2
      try clear hfz153_0
      try clear hfz156_0
      try clear hfz158_0
      try clear hfz166_0
      try clear hfz170_0
      try clear hfz170_1
      try clear hfz170_2
      try clear hfz170_3
      try clear hfz176_0
      try clear hfz176_1
      try clear hfz176_2
      try clear hfz180_0
      try clear hfz180_1
      try clear hfz180_2
      try clear hfz180_3
      try clear hfz185_0
      try clear hfz185_1
      try clear hfz185_2
      try clear hfz21_0
      try clear hfz24_0
      try clear hfz24_1
      try clear hfz24_2
      try clear hfz24_3
      try clear hfz26_0
      try clear hfz26_1
      try clear hfz26_2
      try clear hfz26_3
      try clear hfz29_0
      try clear hfz32_0
      try clear hfz32_1
      try clear hfz32_2
      try clear hfz32_3
      try clear hfz36_0
      try clear hfz39_0
      try clear hfz39_1
      try clear hfz39_2
      try clear hfz39_3
      try clear hfz43_0
      try clear hfz48_0
      try clear hfz52_0
      try clear hfz52_1
      try clear hfz52_2
      try clear hfz52_3
      try clear hfz57_0
      try clear hfz57_1
      try clear hfz57_2
      try clear hfz64_0
      try clear hfz67_0
      try clear hfz67_1
      try clear hfz67_2
      try clear hfz78_0
      try clear hfz82_0
      try clear hfz82_1
      try clear hfz82_2
      try clear hfz82_3
      try clear hfz85_0
      try clear hfz85_1
      try clear hfz85_2
      try clear hfz87_0
      try clear hfz90_0
      try clear hfz92_0
      try clear hfz93_0
      try clear hfz99_0
      try clear hx269_0
      try clear hx269_1
      try clear hx269_2
      try clear p2
      try clear p26
      try clear p269
      try clear q2
      try clear q26
      try clear q269
      obtain ⟨kq, x82_159, rfl, HA, HJ159, BK262, BK263, BK264, BK268, BK270, HB⟩ := hcut
      cases kq with
      | zero => exact absurd HA.out (by simp [impl_DoAct.j2])
      | succ kj159 =>
       have H := HA.out
       clear HA
       simp only [impl_DoAct.j2] at H
       by_cases c186 : x82_159 = true
       ·
        subst c186
        have H1 : (some (([] : List (S45)), false)) = some (r1, r2) := by rw [if_pos rfl] at H; exact H
        clear H
        have H := H1
        clear H1
        simp only [Option.some.injEq, Prod.mk.injEq] at H
        obtain ⟨rfl, rfl⟩ := H
        have hnb187 := NB264_262.out
        have hnc187 := NB262_264.out
        have hnb188 := NB264_263.out
        have hnc188 := NB263_264.out
        have hnb189 := NB264_268.out
        have hnc189 := NB268_264.out
        have hnb190 := NB264_270.out
        have hnc190 := NB270_264.out
        have hcz191_0 : wc.cell? ⟨gb264, 0, none⟩ = some (.slice none 0 0) := CZ BK264.out 0
        have hfz191_0 := blk_frozen BK264.out 0
        go_wp2
        refine bodyPost_ret (results_ct rfl _ _ gb264 29 #[.slice none 0 0] (0, 0) _ rfl (by (with_reducible repeat (first | apply b1 | apply b2 | apply b3)); refine blk_put (cs := #[.slice none 0 0]) ?_ 0 _ rfl; (with_reducible repeat (first | apply b1 | apply b2 | apply b3)); exact BK264.out) Try.underlying29 rfl (by kernel_rfl)) rfl ?_
        exact ⟨_, EE, by first | exact Kd.R_nil _ _ _ _ _ | exact Kd.N_nil _ _ _ _ _ | exact Kd.V_nil _ _ _ _ _ | exact Kd.Q_nil _ _ _ _ _ | exact Kd.S_nil _ _ _ _ _, BL⟩
       replace c186 := Bool.eq_false_iff.mpr c186
       subst c186
       have H1 : ((impl_withoutFile.f l0_0 a1_1).bind fun t279 => ((impl_withFile.f t279 a1_3 x269001_48 x269002_48).bind fun t282 => ((impl_DiskOk.f kj159 t282).bind fun t285 => (if t285 = true then (some (t282, true)) else (some (([] : List (S45)), false)))))) = some (r1, r2) := by rw [if_neg (show ¬ (false = true) by decide)] at H; exact H
       clear H
       have H := H1
       clear H1
       replace H := Option.bind_eq_some_iff.mp H
       obtain ⟨t279, A1920, H⟩ := H
       replace H : ((impl_withFile.f t279 a1_3 x269001_48 x269002_48).bind fun t282 => ((impl_DiskOk.f kj159 t282).bind fun t285 => (if t285 = true then (some (t282, true)) else (some (([] : List (S45)), false))))) = some (r1, r2) := H
       have A192 := Aside0.mk A1920
       clear A1920
       replace H := Option.bind_eq_some_iff.mp H
       obtain ⟨t282, A1930, H⟩ := H
       replace H : ((impl_DiskOk.f kj159 t282).bind fun t285 => (if t285 = true then (some (t282, true)) else (some (([] : List (S45)), false)))) = some (r1, r2) := H
       have A193 := Aside0.mk A1930
       clear A1930
       replace H := Option.bind_eq_some_iff.mp H
       obtain ⟨t285, A1940, H⟩ := H
       replace H : (if t285 = true then (some (t282, true)) else (some (([] : List (S45)), false))) = some (r1, r2) := H
       have A194 := Aside0.mk A1940
       clear A1940
       by_cases c195 : t285 = true
       ·
        subst c195
        have H1 : (some (t282, true)) = some (r1, r2) := by rw [if_pos rfl] at H; exact H
        clear H
        have H := H1
        clear H1
        simp only [Option.some.injEq, Prod.mk.injEq] at H
        obtain ⟨rfl, rfl⟩ := H
        have hnb196 := NB263_262.out
        have hnc196 := NB262_263.out
        have hnb197 := NB263_264.out
        have hnc197 := NB264_263.out
        have hnb198 := NB263_268.out
        have hnc198 := NB268_263.out
        have hnb199 := NB263_270.out
        have hnc199 := NB270_263.out
        have hcz200_0 : wc.cell? ⟨gb263, 0, none⟩ = some (.int .i64 a1_0) := CZ BK263.out 0
        have hcz200_1 : wc.cell? ⟨gb263, 1, none⟩ = some (.string a1_1) := CZ BK263.out 1
        have hcz200_2 : wc.cell? ⟨gb263, 2, none⟩ = some (.string a1_2) := CZ BK263.out 2
        have hcz200_3 : wc.cell? ⟨gb263, 3, none⟩ = some (.string a1_3) := CZ BK263.out 3
        have hfz200_0 := blk_frozen BK263.out 0
        have hfz200_1 := blk_frozen BK263.out 1
        have hfz200_2 := blk_frozen BK263.out 2
        have hfz200_3 := blk_frozen BK263.out 3
        have hnb201 := NB268_262.out
        have hnc201 := NB262_268.out
        have hnb202 := NB268_264.out
        have hnc202 := NB264_268.out
        have hnb203 := NB268_270.out
        have hnc203 := NB270_268.out
        have hcz204_0 : wc.cell? ⟨gb268, 0, none⟩ = some (.string x269000_48) := CZ BK268.out 0
        have hcz204_1 : wc.cell? ⟨gb268, 1, none⟩ = some (.string x269001_48) := CZ BK268.out 1
        have hcz204_2 : wc.cell? ⟨gb268, 2, none⟩ = some (.int .i64 x269002_48) := CZ BK268.out 2
        have hfz204_0 := blk_frozen BK268.out 0
        have hfz204_1 := blk_frozen BK268.out 1
        have hfz204_2 := blk_frozen BK268.out 2
        try go_wp2
        have n0_ : Aside0 ((wc.setCell ⟨gb268, 0, none⟩ (.string a1_3)).heap[gb262]? = some (.cells #[.slice A0_0 l0_0.length c0_0] 29 (0, 0))) := ⟨by (with_reducible repeat (first | apply b1 | apply b2 | apply b3)); refine blk_far ?_ NB262_268.out _; (with_reducible repeat (first | apply b1 | apply b2 | apply b3)); exact BK262.out⟩
        have n1_ : Aside0 ((wc.setCell ⟨gb268, 0, none⟩ (.string a1_3)).heap[gb263]? = some (.cells #[.int .i64 a1_0, .string a1_1, .string a1_2, .string a1_3] 55 (0, 0))) := ⟨by (with_reducible repeat (first | apply b1 | apply b2 | apply b3)); refine blk_far ?_ NB263_268.out _; (with_reducible repeat (first | apply b1 | apply b2 | apply b3)); exact BK263.out⟩
        have n2_ : Aside0 ((wc.setCell ⟨gb268, 0, none⟩ (.string a1_3)).heap[gb264]? = some (.cells #[.slice none 0 0] 29 (0, 0))) := ⟨by (with_reducible repeat (first | apply b1 | apply b2 | apply b3)); refine blk_far ?_ NB264_268.out _; (with_reducible repeat (first | apply b1 | apply b2 | apply b3)); exact BK264.out⟩
        have n3_ : Aside0 ((wc.setCell ⟨gb268, 0, none⟩ (.string a1_3)).heap[gb268]? = some (.cells #[.string a1_3, .string x269001_48, .int .i64 x269002_48] 45 (0, 0))) := ⟨by (with_reducible repeat (first | apply b1 | apply b2 | apply b3)); refine blk_put (cs := #[.string x269000_48, .string x269001_48, .int .i64 x269002_48]) ?_ 0 _ rfl; (with_reducible repeat (first | apply b1 | apply b2 | apply b3)); exact BK268.out⟩
        have n4_ : Aside0 ((wc.setCell ⟨gb268, 0, none⟩ (.string a1_3)).heap[gb270]? = some (.cells #[.slice none 0 0] 29 (0, 0))) := ⟨by (with_reducible repeat (first | apply b1 | apply b2 | apply b3)); refine blk_far ?_ NB270_268.out _; (with_reducible repeat (first | apply b1 | apply b2 | apply b3)); exact BK270.out⟩
        have n5_ : Aside0 (Below w.heap.size w (wc.setCell ⟨gb268, 0, none⟩ (.string a1_3))) := ⟨BL⟩
        (try clear BK262)
        (try clear BK263)
        (try clear BK264)
        (try clear BK268)
        (try clear BK270)
        (try clear HB)
        generalize (wc.setCell ⟨gb268, 0, none⟩ (.string a1_3)) = w205 at n0_ n1_ n2_ n3_ n4_ n5_ ⊢
        have BK262 := n0_
        have BK263 := n1_
        have BK264 := n2_
        have BK268 := n3_
        have BK270 := n4_
        have HB := n5_
        clear n0_ n1_ n2_ n3_ n4_ n5_
        have n0_ := Aside0.mk (blk_drew BK262.out)
        have n1_ := Aside0.mk (blk_drew BK263.out)
        have n2_ := Aside0.mk (blk_drew BK264.out)
        have n3_ := Aside0.mk (blk_drew BK268.out)
        have n4_ := Aside0.mk (blk_drew BK270.out)
        have n5_ := Aside0.mk (below_drew1 HB.out)
        clear BK262
        clear BK263
        clear BK264
        clear BK268
        clear BK270
        clear HB
        have BK262 := n0_
        have BK263 := n1_
        have BK264 := n2_
        have BK268 := n3_
        have BK270 := n4_
        have HB := n5_
        clear n0_ n1_ n2_ n3_ n4_ n5_
        refine start_ (n := 7) (S := fun w' => w'.cell? ⟨gb262, 0, none⟩ = some (.slice A0_0 l0_0.length c0_0) ∧ w'.cell? ⟨gb263, 0, none⟩ = some (.int .i64 a1_0) ∧ w'.cell? ⟨gb263, 1, none⟩ = some (.string a1_1) ∧ w'.cell? ⟨gb263, 2, none⟩ = some (.string a1_2) ∧ w'.cell? ⟨gb263, 3, none⟩ = some (.string a1_3) ∧ w'.cell? ⟨gb268, 0, none⟩ = some (.string a1_3) ∧ w'.cell? ⟨gb268, 1, none⟩ = some (.string x269001_48) ∧ w'.cell? ⟨gb268, 2, none⟩ = some (.int .i64 x269002_48)) (ds := []) #[false, false, false, false, false, false, false] (by kernel_rfl) rfl rfl ⟨CZ BK262.out 0, CZ BK263.out 0, CZ BK263.out 1, CZ BK263.out 2, CZ BK263.out 3, CZ BK268.out 0, CZ BK268.out 1, CZ BK268.out 2⟩ (fun hHeld => ?_)
        generalize w205.drew = w206 at BK262 BK263 BK264 BK268 BK270 HB hHeld ⊢
        refine pure_ (i := 1) (N := some 88) (v := ?_) (a' := ?_) (OB 7 2) rfl rfl (by kernel_rfl) (fun _ _ _ h => h) (Or.inl ⟨by rfl, ?_⟩) ?_ ?_
        rotate_left
        ·
         intro w'
         go_simp
         with_reducible rfl
        rotate_left
        ·
         simp only [Act.put, zA, zB, zC, i64_w, i32_w]
         rfl
        refine take_ (i := 0) (N := some 87) (v := ?_) (a' := ?_) (OB 7 3) rfl rfl (by kernel_rfl) (fun _ _ _ h => h) (Or.inl ⟨by rfl, ?_⟩) hHeld ?_ ?_
        rotate_left
        ·
         rintro w' ⟨s0, s1, s2, s3, s4, s5, s6, s7⟩
         go_simp
         with_reducible rfl
        rotate_left
        ·
         simp only [Act.put, zA, zB, zC, i64_w, i32_w]
         rfl
        refine take_ (i := 2) (N := some 89) (v := ?_) (a' := ?_) (OB 7 7) rfl rfl (by kernel_rfl) (fun _ _ _ h => h) (Or.inl ⟨by rfl, ?_⟩) hHeld ?_ ?_
        rotate_left
        ·
         rintro w' ⟨s0, s1, s2, s3, s4, s5, s6, s7⟩
         go_simp
         with_reducible rfl
        rotate_left
        ·
         simp only [Act.put, zA, zB, zC, i64_w, i32_w]
         rfl
        refine take_ (i := 4) (N := some 91) (v := ?_) (a' := ?_) (OB 7 23) rfl rfl (by kernel_rfl) (fun _ _ _ h => h) (Or.inl ⟨by rfl, ?_⟩) hHeld ?_ ?_
        rotate_left
        ·
         rintro w' ⟨s0, s1, s2, s3, s4, s5, s6, s7⟩
         go_simp
         with_reducible rfl
        rotate_left
        ·
         simp only [Act.put, zA, zB, zC, i64_w, i32_w]
         rfl
        refine one_ (i := 3) (N := some 90) (OB 7 31) rfl rfl (by kernel_rfl) (by decide) (fun K hK => ?_)
        refine goes_ Try.func67 (by kernel_rfl) rfl #[.agg #[.slice A0_0 l0_0.length c0_0], .string a1_1] (by rfl) rfl rfl (MA) ?_
        with_reducible refine (impl_withoutFile.calls _ _ l0_0 a1_1 t279 _ ?side1 ?side2 A192.out).mono ?_
        (case side1 => repeat (first | exact (Kd.C_below HR0_0.out HB.out) | (with_reducible refine Kd.C_alloc ?_ _) | (with_reducible refine Kd.C_drewN ?_ _) | (with_reducible refine Kd.C_drew ?_)))
        (case side2 => exact HC0_0.out)
        rintro e w207 ⟨v280, rfl, ho0, hb⟩
        refine ⟨_, rfl, ?_⟩
        have n0_ := Aside0.mk (Kd.R_lower (Kd.R_newB ho0 (g := gb268) (o := .cells #[.string a1_3, .string x269001_48, .int .i64 x269002_48] 45 (0, 0)) (BQ BK268.out)) (below_size (BL)))
        have n1_ := BB BK262.out hb
        have n2_ := BB BK263.out hb
        have n3_ := BB BK264.out hb
        have n4_ := BB BK268.out hb
        have n5_ := BB BK270.out hb
        have n6_ := Aside0.mk (below_step (BL) hb)
        clear BK262
        clear BK263
        clear BK264
        clear BK268
        clear BK270
        clear HB
        have HO281 := n0_
        have BK262 := n1_
        have BK263 := n2_
        have BK264 := n3_
        have BK268 := n4_
        have BK270 := n5_
        have HB := n6_
        clear n0_ n1_ n2_ n3_ n4_ n5_ n6_
        (try clear hb)
        (try clear hb2)
        (try clear hk)
        (try clear hi)
        (try clear ho0)
        obtain ⟨Ao208, co208, eo208⟩ := Kd.R_slice HO281.out
        (first | subst eo208 | (injection eo208 with f1_ f2_ f3_; have f4_ := f1_.symm; have f5_ := f3_.symm; clear f1_ f2_ f3_; subst f4_; subst f5_))
        refine hK.out _ _ ⟨CZ BK262.out 0, CZ BK263.out 0, CZ BK263.out 1, CZ BK263.out 2, CZ BK263.out 3, CZ BK268.out 0, CZ BK268.out 1, CZ BK268.out 2⟩ (fun hHeld => ?_)
        clear hK K
        refine norm_ (a' := ?_) ?_ ?_
        rotate_left
        ·
         show Act.put _ (some 90) _ = _
         simp only [Act.put, zA, zB, zC, i64_w, i32_w]
         rfl
        refine one_ (i := 5) (N := some 92) (OB 7 63) rfl rfl (by kernel_rfl) (by decide) (fun K hK => ?_)
        refine goes_ Try.func66 (by kernel_rfl) rfl #[.agg #[.slice Ao208 t279.length co208], .agg #[.string a1_3, .string x269001_48, .int .i64 x269002_48]] (by rfl) rfl rfl (MA) ?_
        with_reducible refine (impl_withFile.calls _ _ t279 a1_3 x269001_48 x269002_48 t282 _ ?side1 ?side2 A193.out).mono ?_
        (case side1 => repeat (first | exact (Kd.R_reads' HO281.out).2.2 | (with_reducible refine Kd.C_alloc ?_ _) | (with_reducible refine Kd.C_drewN ?_ _) | (with_reducible refine Kd.C_drew ?_)))
        (case side2 => exact (Kd.R_reads' HO281.out).2.1)
        rintro e w209 ⟨v283, rfl, ho0, hb⟩
        refine ⟨_, rfl, ?_⟩
        have n0_ := Aside0.mk (Kd.R_elder' (RQ HO281.out) (Kd.R_base ho0) hb)
        have n1_ := Aside0.mk (Kd.R_lower (Kd.R_newB (Kd.R_new' ho0 (Kd.R_lt (RQ HO281.out))) (g := gb268) (o := .cells #[.string a1_3, .string x269001_48, .int .i64 x269002_48] 45 (0, 0)) (BQ BK268.out)) (below_size (BL)))
        have n2_ := BB BK262.out hb
        have n3_ := BB BK263.out hb
        have n4_ := BB BK264.out hb
        have n5_ := BB BK268.out hb
        have n6_ := BB BK270.out hb
        have n7_ := Aside0.mk (below_step (BL) hb)
        clear HO281
        clear BK262
        clear BK263
        clear BK264
        clear BK268
        clear BK270
        clear HB
        have HO281 := n0_
        have HO284 := n1_
        have BK262 := n2_
        have BK263 := n3_
        have BK264 := n4_
        have BK268 := n5_
        have BK270 := n6_
        have HB := n7_
        clear n0_ n1_ n2_ n3_ n4_ n5_ n6_ n7_
        (try clear hb)
        (try clear hb2)
        (try clear hk)
        (try clear hi)
        (try clear ho0)
        obtain ⟨Ao210, co210, eo210⟩ := Kd.R_slice HO284.out
        (first | subst eo210 | (injection eo210 with f1_ f2_ f3_; have f4_ := f1_.symm; have f5_ := f3_.symm; clear f1_ f2_ f3_; subst f4_; subst f5_))
        refine hK.out _ _ ⟨CZ BK262.out 0, CZ BK263.out 0, CZ BK263.out 1, CZ BK263.out 2, CZ BK263.out 3, CZ BK268.out 0, CZ BK268.out 1, CZ BK268.out 2⟩ (fun hHeld => ?_)
        clear hK K
        refine norm_ (a' := ?_) ?_ ?_
        rotate_left
        ·
         show Act.put _ (some 92) _ = _
         simp only [Act.put, zA, zB, zC, i64_w, i32_w]
         rfl
        refine one_ (i := 6) (N := none) (OB 7 127) rfl rfl (by kernel_rfl) (by decide) (fun K hK => ?_)
        have hs211 : w209.cell? ⟨gb270, 0, none⟩ = some (.slice none 0 0) := CZ BK270.out 0
        have hfs211 := blk_frozen BK270.out 0
        have hns211_0 := NB262_270.out
        have hns211_1 := NB263_270.out
        have hns211_2 := NB264_270.out
        have hns211_3 := NB268_270.out
        have hms211_0 := NB270_262.out
        have hms211_1 := NB270_263.out
        have hms211_2 := NB270_264.out
        have hms211_3 := NB270_268.out
        refine skip_ (w1 := ?_) (by rfl) rfl ?_ ?_
        rotate_left
        ·
         go_simp
         rfl
        refine hK.out _ _ ⟨((cell_far (p := ⟨gb270, _, none⟩) NB262_270.out _).trans (hHeld.1)), ((cell_far (p := ⟨gb270, _, none⟩) NB263_270.out _).trans (hHeld.2.1)), ((cell_far (p := ⟨gb270, _, none⟩) NB263_270.out _).trans (hHeld.2.2.1)), ((cell_far (p := ⟨gb270, _, none⟩) NB263_270.out _).trans (hHeld.2.2.2.1)), ((cell_far (p := ⟨gb270, _, none⟩) NB263_270.out _).trans (hHeld.2.2.2.2.1)), ((cell_far (p := ⟨gb270, _, none⟩) NB268_270.out _).trans (hHeld.2.2.2.2.2.1)), ((cell_far (p := ⟨gb270, _, none⟩) NB268_270.out _).trans (hHeld.2.2.2.2.2.2.1)), ((cell_far (p := ⟨gb270, _, none⟩) NB268_270.out _).trans (hHeld.2.2.2.2.2.2.2))⟩ (fun hHeld => ?_)
        clear hK K
        refine done_ (by kernel_rfl) ?_
        have hnb212 := NB270_262.out
        have hnc212 := NB262_270.out
        have hnb213 := NB270_264.out
        have hnc213 := NB264_270.out
        have hcz214_0 : w209.cell? ⟨gb270, 0, none⟩ = some (.slice none 0 0) := CZ BK270.out 0
        have hfz214_0 := blk_frozen BK270.out 0
        try go_wp2_with (first | ((with_reducible refine gate_callee (f := 15) rfl ?_); refine goesL_ (some 94) rfl rfl Try.func15 (by kernel_rfl) rfl #[.agg #[.slice Ao210 t282.length co210]] rfl (MA) ?_; (with_reducible refine (impl_DiskOk.calls kj159 _ _ t282 true _ ?side1 ?side2 A194.out).mono ?_); (case side1 => refine (Kd.R_reads' (e := 45) (base := w.heap.size) (ok := fun k_ => ((True ∧ some k_ ≠ (.slice Ao208 t279.length co208 : Value).ownBlock) ∧ k_ ≠ gb268)) (n := t282.length) (c := co210) ?_).2.2; exact (by (with_reducible repeat (first | apply r1 | apply r2 | apply r3)); exact (Kd.R_mono (Kd.R_far (p := ⟨gb270, 0, none⟩) (Kd.R_types HO284.out BK270.out (by decide)) (fun _ hk => hk.2) (.slice Ao210 t282.length co210)) (fun _ h_ => h_.1)))); (case side2 => exact (Kd.R_reads' HO284.out).2.1); rintro e w215 ⟨rfl, hb⟩; refine ⟨_, rfl, ?_⟩; replace HO281 := Aside0.mk (Kd.R_below (by (with_reducible repeat (first | apply r1 | apply r2 | apply r3)); exact (Kd.R_mono (Kd.R_far (p := ⟨gb270, 0, none⟩) (Kd.R_types HO281.out BK270.out (by decide)) (fun _ hk => hk.2) (.slice Ao210 t282.length co210)) (fun _ h_ => h_.1))) hb); replace HO284 := Aside0.mk (Kd.R_below (by (with_reducible repeat (first | apply r1 | apply r2 | apply r3)); exact (Kd.R_mono (Kd.R_far (p := ⟨gb270, 0, none⟩) (Kd.R_types HO284.out BK270.out (by decide)) (fun _ hk => hk.2) (.slice Ao210 t282.length co210)) (fun _ h_ => h_.1))) hb); replace BK262 := Aside0.mk (blk_below (g := gb262) (o := .cells #[.slice A0_0 l0_0.length c0_0] 29 (0, 0)) (by (with_reducible repeat (first | apply b1 | apply b2 | apply b3)); refine blk_far ?_ NB262_270.out _; (with_reducible repeat (first | apply b1 | apply b2 | apply b3)); exact BK262.out) hb); replace BK263 := Aside0.mk (blk_below (g := gb263) (o := .cells #[.int .i64 a1_0, .string a1_1, .string a1_2, .string a1_3] 55 (0, 0)) (by (with_reducible repeat (first | apply b1 | apply b2 | apply b3)); refine blk_far ?_ NB263_270.out _; (with_reducible repeat (first | apply b1 | apply b2 | apply b3)); exact BK263.out) hb); replace BK264 := Aside0.mk (blk_below (g := gb264) (o := .cells #[.slice none 0 0] 29 (0, 0)) (by (with_reducible repeat (first | apply b1 | apply b2 | apply b3)); refine blk_far ?_ NB264_270.out _; (with_reducible repeat (first | apply b1 | apply b2 | apply b3)); exact BK264.out) hb); replace BK268 := Aside0.mk (blk_below (g := gb268) (o := .cells #[.string a1_3, .string x269001_48, .int .i64 x269002_48] 45 (0, 0)) (by (with_reducible repeat (first | apply b1 | apply b2 | apply b3)); refine blk_far ?_ NB268_270.out _; (with_reducible repeat (first | apply b1 | apply b2 | apply b3)); exact BK268.out) hb); replace BK270 := Aside0.mk (blk_below (g := gb270) (o := .cells #[.slice Ao210 t282.length co210] 29 (0, 0)) (by (with_reducible repeat (first | apply b1 | apply b2 | apply b3)); refine blk_put (cs := #[.slice none 0 0]) ?_ 0 _ rfl; (with_reducible repeat (first | apply b1 | apply b2 | apply b3)); exact BK270.out) hb); replace HB := Aside0.mk (below_step (BL) hb); (try clear hb); (try clear hb2); (try clear hk); (try clear hi); have hcz216_0 : w215.cell? ⟨gb270, 0, none⟩ = some (.slice Ao210 t282.length co210) := CZ BK270.out 0; have hfz216_0 := blk_frozen BK270.out 0; have hnb217 := NB264_262.out; have hnc217 := NB262_264.out; have hcz218_0 : w215.cell? ⟨gb264, 0, none⟩ = some (.slice none 0 0) := CZ BK264.out 0; have hfz218_0 := blk_frozen BK264.out 0))
        refine bodyPost_ret (results_ct rfl _ _ gb264 29 #[.slice Ao210 t282.length co210] (0, 0) _ rfl (by (with_reducible repeat (first | apply b1 | apply b2 | apply b3)); refine blk_put (cs := #[.slice none 0 0]) ?_ 0 _ rfl; (with_reducible repeat (first | apply b1 | apply b2 | apply b3)); exact BK264.out) Try.underlying29 rfl (by kernel_rfl)) rfl ?_
        exact ⟨_, EE, by (with_reducible repeat (first | apply r1 | apply r2 | apply r3)); exact Kd.R_mono (Kd.R_far (p := ⟨gb264, 0, none⟩) (Kd.R_types HO284.out BK264.out (by decide)) (fun _ hk => hk.2) (.slice Ao210 t282.length co210)) (fun _ hk => trivial), BL⟩
       replace c195 := Bool.eq_false_iff.mpr c195
       subst c195
       have H1 : (some (([] : List (S45)), false)) = some (r1, r2) := by rw [if_neg (show ¬ (false = true) by decide)] at H; exact H
       clear H
       have H := H1
       clear H1
       simp only [Option.some.injEq, Prod.mk.injEq] at H
       obtain ⟨rfl, rfl⟩ := H
       have hnb219 := NB263_262.out
       have hnc219 := NB262_263.out
       have hnb220 := NB263_264.out
       have hnc220 := NB264_263.out
       have hnb221 := NB263_268.out
       have hnc221 := NB268_263.out
       have hnb222 := NB263_270.out
       have hnc222 := NB270_263.out
       have hcz223_0 : wc.cell? ⟨gb263, 0, none⟩ = some (.int .i64 a1_0) := CZ BK263.out 0
       have hcz223_1 : wc.cell? ⟨gb263, 1, none⟩ = some (.string a1_1) := CZ BK263.out 1
       have hcz223_2 : wc.cell? ⟨gb263, 2, none⟩ = some (.string a1_2) := CZ BK263.out 2
       have hcz223_3 : wc.cell? ⟨gb263, 3, none⟩ = some (.string a1_3) := CZ BK263.out 3
       have hfz223_0 := blk_frozen BK263.out 0
       have hfz223_1 := blk_frozen BK263.out 1
       have hfz223_2 := blk_frozen BK263.out 2
       have hfz223_3 := blk_frozen BK263.out 3
       have hnb224 := NB268_262.out
       have hnc224 := NB262_268.out
       have hnb225 := NB268_264.out
       have hnc225 := NB264_268.out
       have hnb226 := NB268_270.out
       have hnc226 := NB270_268.out
       have hcz227_0 : wc.cell? ⟨gb268, 0, none⟩ = some (.string x269000_48) := CZ BK268.out 0
       have hcz227_1 : wc.cell? ⟨gb268, 1, none⟩ = some (.string x269001_48) := CZ BK268.out 1
       have hcz227_2 : wc.cell? ⟨gb268, 2, none⟩ = some (.int .i64 x269002_48) := CZ BK268.out 2
       have hfz227_0 := blk_frozen BK268.out 0
       have hfz227_1 := blk_frozen BK268.out 1
       have hfz227_2 := blk_frozen BK268.out 2
       try go_wp2
       have n0_ : Aside0 ((wc.setCell ⟨gb268, 0, none⟩ (.string a1_3)).heap[gb262]? = some (.cells #[.slice A0_0 l0_0.length c0_0] 29 (0, 0))) := ⟨by (with_reducible repeat (first | apply b1 | apply b2 | apply b3)); refine blk_far ?_ NB262_268.out _; (with_reducible repeat (first | apply b1 | apply b2 | apply b3)); exact BK262.out⟩
       have n1_ : Aside0 ((wc.setCell ⟨gb268, 0, none⟩ (.string a1_3)).heap[gb263]? = some (.cells #[.int .i64 a1_0, .string a1_1, .string a1_2, .string a1_3] 55 (0, 0))) := ⟨by (with_reducible repeat (first | apply b1 | apply b2 | apply b3)); refine blk_far ?_ NB263_268.out _; (with_reducible repeat (first | apply b1 | apply b2 | apply b3)); exact BK263.out⟩
       have n2_ : Aside0 ((wc.setCell ⟨gb268, 0, none⟩ (.string a1_3)).heap[gb264]? = some (.cells #[.slice none 0 0] 29 (0, 0))) := ⟨by (with_reducible repeat (first | apply b1 | apply b2 | apply b3)); refine blk_far ?_ NB264_268.out _; (with_reducible repeat (first | apply b1 | apply b2 | apply b3)); exact BK264.out⟩
       have n3_ : Aside0 ((wc.setCell ⟨gb268, 0, none⟩ (.string a1_3)).heap[gb268]? = some (.cells #[.string a1_3, .string x269001_48, .int .i64 x269002_48] 45 (0, 0))) := ⟨by (with_reducible repeat (first | apply b1 | apply b2 | apply b3)); refine blk_put (cs := #[.string x269000_48, .string x269001_48, .int .i64 x269002_48]) ?_ 0 _ rfl; (with_reducible repeat (first | apply b1 | apply b2 | apply b3)); exact BK268.out⟩
       have n4_ : Aside0 ((wc.setCell ⟨gb268, 0, none⟩ (.string a1_3)).heap[gb270]? = some (.cells #[.slice none 0 0] 29 (0, 0))) := ⟨by (with_reducible repeat (first | apply b1 | apply b2 | apply b3)); refine blk_far ?_ NB270_268.out _; (with_reducible repeat (first | apply b1 | apply b2 | apply b3)); exact BK270.out⟩
       have n5_ : Aside0 (Below w.heap.size w (wc.setCell ⟨gb268, 0, none⟩ (.string a1_3))) := ⟨BL⟩
       (try clear BK262)
       (try clear BK263)
       (try clear BK264)
       (try clear BK268)
       (try clear BK270)
       (try clear HB)
       generalize (wc.setCell ⟨gb268, 0, none⟩ (.string a1_3)) = w228 at n0_ n1_ n2_ n3_ n4_ n5_ ⊢
       have BK262 := n0_
       have BK263 := n1_
       have BK264 := n2_
       have BK268 := n3_
       have BK270 := n4_
       have HB := n5_
       clear n0_ n1_ n2_ n3_ n4_ n5_
       have n0_ := Aside0.mk (blk_drew BK262.out)
       have n1_ := Aside0.mk (blk_drew BK263.out)
       have n2_ := Aside0.mk (blk_drew BK264.out)
       have n3_ := Aside0.mk (blk_drew BK268.out)
       have n4_ := Aside0.mk (blk_drew BK270.out)
       have n5_ := Aside0.mk (below_drew1 HB.out)
       clear BK262
       clear BK263
       clear BK264
       clear BK268
       clear BK270
       clear HB
       have BK262 := n0_
       have BK263 := n1_
       have BK264 := n2_
       have BK268 := n3_
       have BK270 := n4_
       have HB := n5_
       clear n0_ n1_ n2_ n3_ n4_ n5_
       refine start_ (n := 7) (S := fun w' => w'.cell? ⟨gb262, 0, none⟩ = some (.slice A0_0 l0_0.length c0_0) ∧ w'.cell? ⟨gb263, 0, none⟩ = some (.int .i64 a1_0) ∧ w'.cell? ⟨gb263, 1, none⟩ = some (.string a1_1) ∧ w'.cell? ⟨gb263, 2, none⟩ = some (.string a1_2) ∧ w'.cell? ⟨gb263, 3, none⟩ = some (.string a1_3) ∧ w'.cell? ⟨gb268, 0, none⟩ = some (.string a1_3) ∧ w'.cell? ⟨gb268, 1, none⟩ = some (.string x269001_48) ∧ w'.cell? ⟨gb268, 2, none⟩ = some (.int .i64 x269002_48)) (ds := []) #[false, false, false, false, false, false, false] (by kernel_rfl) rfl rfl ⟨CZ BK262.out 0, CZ BK263.out 0, CZ BK263.out 1, CZ BK263.out 2, CZ BK263.out 3, CZ BK268.out 0, CZ BK268.out 1, CZ BK268.out 2⟩ (fun hHeld => ?_)
       generalize w228.drew = w229 at BK262 BK263 BK264 BK268 BK270 HB hHeld ⊢
       refine pure_ (i := 1) (N := some 88) (v := ?_) (a' := ?_) (OB 7 2) rfl rfl (by kernel_rfl) (fun _ _ _ h => h) (Or.inl ⟨by rfl, ?_⟩) ?_ ?_
       rotate_left
       ·
        intro w'
        go_simp
        with_reducible rfl
       rotate_left
       ·
        simp only [Act.put, zA, zB, zC, i64_w, i32_w]
        rfl
       refine take_ (i := 0) (N := some 87) (v := ?_) (a' := ?_) (OB 7 3) rfl rfl (by kernel_rfl) (fun _ _ _ h => h) (Or.inl ⟨by rfl, ?_⟩) hHeld ?_ ?_
       rotate_left
       ·
        rintro w' ⟨s0, s1, s2, s3, s4, s5, s6, s7⟩
        go_simp
        with_reducible rfl
       rotate_left
       ·
        simp only [Act.put, zA, zB, zC, i64_w, i32_w]
        rfl
       refine take_ (i := 2) (N := some 89) (v := ?_) (a' := ?_) (OB 7 7) rfl rfl (by kernel_rfl) (fun _ _ _ h => h) (Or.inl ⟨by rfl, ?_⟩) hHeld ?_ ?_
       rotate_left
       ·
        rintro w' ⟨s0, s1, s2, s3, s4, s5, s6, s7⟩
        go_simp
        with_reducible rfl
       rotate_left
       ·
        simp only [Act.put, zA, zB, zC, i64_w, i32_w]
        rfl
       refine take_ (i := 4) (N := some 91) (v := ?_) (a' := ?_) (OB 7 23) rfl rfl (by kernel_rfl) (fun _ _ _ h => h) (Or.inl ⟨by rfl, ?_⟩) hHeld ?_ ?_
       rotate_left
       ·
        rintro w' ⟨s0, s1, s2, s3, s4, s5, s6, s7⟩
        go_simp
        with_reducible rfl
       rotate_left
       ·
        simp only [Act.put, zA, zB, zC, i64_w, i32_w]
        rfl
       refine one_ (i := 3) (N := some 90) (OB 7 31) rfl rfl (by kernel_rfl) (by decide) (fun K hK => ?_)
       refine goes_ Try.func67 (by kernel_rfl) rfl #[.agg #[.slice A0_0 l0_0.length c0_0], .string a1_1] (by rfl) rfl rfl (MA) ?_
       with_reducible refine (impl_withoutFile.calls _ _ l0_0 a1_1 t279 _ ?side1 ?side2 A192.out).mono ?_
       (case side1 => repeat (first | exact (Kd.C_below HR0_0.out HB.out) | (with_reducible refine Kd.C_alloc ?_ _) | (with_reducible refine Kd.C_drewN ?_ _) | (with_reducible refine Kd.C_drew ?_)))
       (case side2 => exact HC0_0.out)
       rintro e w230 ⟨v280, rfl, ho0, hb⟩
       refine ⟨_, rfl, ?_⟩
       have n0_ := Aside0.mk (Kd.R_lower (Kd.R_newB ho0 (g := gb268) (o := .cells #[.string a1_3, .string x269001_48, .int .i64 x269002_48] 45 (0, 0)) (BQ BK268.out)) (below_size (BL)))
       have n1_ := BB BK262.out hb
       have n2_ := BB BK263.out hb
       have n3_ := BB BK264.out hb
       have n4_ := BB BK268.out hb
       have n5_ := BB BK270.out hb
       have n6_ := Aside0.mk (below_step (BL) hb)
       clear BK262
       clear BK263
       clear BK264
       clear BK268
       clear BK270
       clear HB
       have HO281 := n0_
       have BK262 := n1_
       have BK263 := n2_
       have BK264 := n3_
       have BK268 := n4_
       have BK270 := n5_
       have HB := n6_
       clear n0_ n1_ n2_ n3_ n4_ n5_ n6_
       (try clear hb)
       (try clear hb2)
       (try clear hk)
       (try clear hi)
       (try clear ho0)
       obtain ⟨Ao231, co231, eo231⟩ := Kd.R_slice HO281.out
       (first | subst eo231 | (injection eo231 with f1_ f2_ f3_; have f4_ := f1_.symm; have f5_ := f3_.symm; clear f1_ f2_ f3_; subst f4_; subst f5_))
       refine hK.out _ _ ⟨CZ BK262.out 0, CZ BK263.out 0, CZ BK263.out 1, CZ BK263.out 2, CZ BK263.out 3, CZ BK268.out 0, CZ BK268.out 1, CZ BK268.out 2⟩ (fun hHeld => ?_)
       clear hK K
       refine norm_ (a' := ?_) ?_ ?_
       rotate_left
       ·
        show Act.put _ (some 90) _ = _
        simp only [Act.put, zA, zB, zC, i64_w, i32_w]
        rfl
       refine one_ (i := 5) (N := some 92) (OB 7 63) rfl rfl (by kernel_rfl) (by decide) (fun K hK => ?_)
       refine goes_ Try.func66 (by kernel_rfl) rfl #[.agg #[.slice Ao231 t279.length co231], .agg #[.string a1_3, .string x269001_48, .int .i64 x269002_48]] (by rfl) rfl rfl (MA) ?_
       with_reducible refine (impl_withFile.calls _ _ t279 a1_3 x269001_48 x269002_48 t282 _ ?side1 ?side2 A193.out).mono ?_
       (case side1 => repeat (first | exact (Kd.R_reads' HO281.out).2.2 | (with_reducible refine Kd.C_alloc ?_ _) | (with_reducible refine Kd.C_drewN ?_ _) | (with_reducible refine Kd.C_drew ?_)))
       (case side2 => exact (Kd.R_reads' HO281.out).2.1)
       rintro e w232 ⟨v283, rfl, ho0, hb⟩
       refine ⟨_, rfl, ?_⟩
       have n0_ := Aside0.mk (Kd.R_elder' (RQ HO281.out) (Kd.R_base ho0) hb)
       have n1_ := Aside0.mk (Kd.R_lower (Kd.R_newB (Kd.R_new' ho0 (Kd.R_lt (RQ HO281.out))) (g := gb268) (o := .cells #[.string a1_3, .string x269001_48, .int .i64 x269002_48] 45 (0, 0)) (BQ BK268.out)) (below_size (BL)))
       have n2_ := BB BK262.out hb
       have n3_ := BB BK263.out hb
       have n4_ := BB BK264.out hb
       have n5_ := BB BK268.out hb
       have n6_ := BB BK270.out hb
       have n7_ := Aside0.mk (below_step (BL) hb)
       clear HO281
       clear BK262
       clear BK263
       clear BK264
       clear BK268
       clear BK270
       clear HB
       have HO281 := n0_
       have HO284 := n1_
       have BK262 := n2_
       have BK263 := n3_
       have BK264 := n4_
       have BK268 := n5_
       have BK270 := n6_
       have HB := n7_
       clear n0_ n1_ n2_ n3_ n4_ n5_ n6_ n7_
       (try clear hb)
       (try clear hb2)
       (try clear hk)
       (try clear hi)
       (try clear ho0)
       obtain ⟨Ao233, co233, eo233⟩ := Kd.R_slice HO284.out
       (first | subst eo233 | (injection eo233 with f1_ f2_ f3_; have f4_ := f1_.symm; have f5_ := f3_.symm; clear f1_ f2_ f3_; subst f4_; subst f5_))
       refine hK.out _ _ ⟨CZ BK262.out 0, CZ BK263.out 0, CZ BK263.out 1, CZ BK263.out 2, CZ BK263.out 3, CZ BK268.out 0, CZ BK268.out 1, CZ BK268.out 2⟩ (fun hHeld => ?_)
       clear hK K
       refine norm_ (a' := ?_) ?_ ?_
       rotate_left
       ·
        show Act.put _ (some 92) _ = _
        simp only [Act.put, zA, zB, zC, i64_w, i32_w]
        rfl
       refine one_ (i := 6) (N := none) (OB 7 127) rfl rfl (by kernel_rfl) (by decide) (fun K hK => ?_)
       have hs234 : w232.cell? ⟨gb270, 0, none⟩ = some (.slice none 0 0) := CZ BK270.out 0
       have hfs234 := blk_frozen BK270.out 0
       have hns234_0 := NB262_270.out
       have hns234_1 := NB263_270.out
       have hns234_2 := NB264_270.out
       have hns234_3 := NB268_270.out
       have hms234_0 := NB270_262.out
       have hms234_1 := NB270_263.out
       have hms234_2 := NB270_264.out
       have hms234_3 := NB270_268.out
       refine skip_ (w1 := ?_) (by rfl) rfl ?_ ?_
       rotate_left
       ·
        go_simp
        rfl
       refine hK.out _ _ ⟨((cell_far (p := ⟨gb270, _, none⟩) NB262_270.out _).trans (hHeld.1)), ((cell_far (p := ⟨gb270, _, none⟩) NB263_270.out _).trans (hHeld.2.1)), ((cell_far (p := ⟨gb270, _, none⟩) NB263_270.out _).trans (hHeld.2.2.1)), ((cell_far (p := ⟨gb270, _, none⟩) NB263_270.out _).trans (hHeld.2.2.2.1)), ((cell_far (p := ⟨gb270, _, none⟩) NB263_270.out _).trans (hHeld.2.2.2.2.1)), ((cell_far (p := ⟨gb270, _, none⟩) NB268_270.out _).trans (hHeld.2.2.2.2.2.1)), ((cell_far (p := ⟨gb270, _, none⟩) NB268_270.out _).trans (hHeld.2.2.2.2.2.2.1)), ((cell_far (p := ⟨gb270, _, none⟩) NB268_270.out _).trans (hHeld.2.2.2.2.2.2.2))⟩ (fun hHeld => ?_)
       clear hK K
       refine done_ (by kernel_rfl) ?_
       have hnb235 := NB270_262.out
       have hnc235 := NB262_270.out
       have hnb236 := NB270_264.out
       have hnc236 := NB264_270.out
       have hcz237_0 : w232.cell? ⟨gb270, 0, none⟩ = some (.slice none 0 0) := CZ BK270.out 0
       have hfz237_0 := blk_frozen BK270.out 0
       try go_wp2_with (first | ((with_reducible refine gate_callee (f := 15) rfl ?_); refine goesL_ (some 94) rfl rfl Try.func15 (by kernel_rfl) rfl #[.agg #[.slice Ao233 t282.length co233]] rfl (MA) ?_; (with_reducible refine (impl_DiskOk.calls kj159 _ _ t282 false _ ?side1 ?side2 A194.out).mono ?_); (case side1 => refine (Kd.R_reads' (e := 45) (base := w.heap.size) (ok := fun k_ => ((True ∧ some k_ ≠ (.slice Ao231 t279.length co231 : Value).ownBlock) ∧ k_ ≠ gb268)) (n := t282.length) (c := co233) ?_).2.2; exact (by (with_reducible repeat (first | apply r1 | apply r2 | apply r3)); exact (Kd.R_mono (Kd.R_far (p := ⟨gb270, 0, none⟩) (Kd.R_types HO284.out BK270.out (by decide)) (fun _ hk => hk.2) (.slice Ao233 t282.length co233)) (fun _ h_ => h_.1)))); (case side2 => exact (Kd.R_reads' HO284.out).2.1); rintro e w238 ⟨rfl, hb⟩; refine ⟨_, rfl, ?_⟩; replace HO281 := Aside0.mk (Kd.R_below (by (with_reducible repeat (first | apply r1 | apply r2 | apply r3)); exact (Kd.R_mono (Kd.R_far (p := ⟨gb270, 0, none⟩) (Kd.R_types HO281.out BK270.out (by decide)) (fun _ hk => hk.2) (.slice Ao233 t282.length co233)) (fun _ h_ => h_.1))) hb); replace HO284 := Aside0.mk (Kd.R_below (by (with_reducible repeat (first | apply r1 | apply r2 | apply r3)); exact (Kd.R_mono (Kd.R_far (p := ⟨gb270, 0, none⟩) (Kd.R_types HO284.out BK270.out (by decide)) (fun _ hk => hk.2) (.slice Ao233 t282.length co233)) (fun _ h_ => h_.1))) hb); replace BK262 := Aside0.mk (blk_below (g := gb262) (o := .cells #[.slice A0_0 l0_0.length c0_0] 29 (0, 0)) (by (with_reducible repeat (first | apply b1 | apply b2 | apply b3)); refine blk_far ?_ NB262_270.out _; (with_reducible repeat (first | apply b1 | apply b2 | apply b3)); exact BK262.out) hb); replace BK263 := Aside0.mk (blk_below (g := gb263) (o := .cells #[.int .i64 a1_0, .string a1_1, .string a1_2, .string a1_3] 55 (0, 0)) (by (with_reducible repeat (first | apply b1 | apply b2 | apply b3)); refine blk_far ?_ NB263_270.out _; (with_reducible repeat (first | apply b1 | apply b2 | apply b3)); exact BK263.out) hb); replace BK264 := Aside0.mk (blk_below (g := gb264) (o := .cells #[.slice none 0 0] 29 (0, 0)) (by (with_reducible repeat (first | apply b1 | apply b2 | apply b3)); refine blk_far ?_ NB264_270.out _; (with_reducible repeat (first | apply b1 | apply b2 | apply b3)); exact BK264.out) hb); replace BK268 := Aside0.mk (blk_below (g := gb268) (o := .cells #[.string a1_3, .string x269001_48, .int .i64 x269002_48] 45 (0, 0)) (by (with_reducible repeat (first | apply b1 | apply b2 | apply b3)); refine blk_far ?_ NB268_270.out _; (with_reducible repeat (first | apply b1 | apply b2 | apply b3)); exact BK268.out) hb); replace BK270 := Aside0.mk (blk_below (g := gb270) (o := .cells #[.slice Ao233 t282.length co233] 29 (0, 0)) (by (with_reducible repeat (first | apply b1 | apply b2 | apply b3)); refine blk_put (cs := #[.slice none 0 0]) ?_ 0 _ rfl; (with_reducible repeat (first | apply b1 | apply b2 | apply b3)); exact BK270.out) hb); replace HB := Aside0.mk (below_step (BL) hb); (try clear hb); (try clear hb2); (try clear hk); (try clear hi); have hnb239 := NB264_262.out; have hnc239 := NB262_264.out; have hcz240_0 : w238.cell? ⟨gb264, 0, none⟩ = some (.slice none 0 0) := CZ BK264.out 0; have hfz240_0 := blk_frozen BK264.out 0))
       refine bodyPost_ret (results_ct rfl _ _ gb264 29 #[.slice none 0 0] (0, 0) _ rfl (by (with_reducible repeat (first | apply b1 | apply b2 | apply b3)); refine blk_put (cs := #[.slice none 0 0]) ?_ 0 _ rfl; (with_reducible repeat (first | apply b1 | apply b2 | apply b3)); exact BK264.out) Try.underlying29 rfl (by kernel_rfl)) rfl ?_
       exact ⟨_, EE, by first | exact Kd.R_nil _ _ _ _ _ | exact Kd.N_nil _ _ _ _ _ | exact Kd.V_nil _ _ _ _ _ | exact Kd.Q_nil _ _ _ _ _ | exact Kd.S_nil _ _ _ _ _, BL⟩

end Go.Proofs.Ythfppepnpngfmaa.Qdo
