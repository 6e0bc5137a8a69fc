-- Laid by myprint.py, a program of this session's own, over the kit's print. Not trusted: Lean checks it.
import Derived.Test.YthfppepnpngfmaaQdax0
import Derived.Test.YthfppepnpngfmaaQdax10
import Derived.Test.YthfppepnpngfmaaQdax11
namespace Go.Proofs.Ythfppepnpngfmaa.Qda
open Go.RowKit Go.Proofs.YthfppepnpngfmaaW.PrintWords Go.Proofs.YthfppepnpngfmaaW.PrintLast Go.Proofs.YthfppepnpngfmaaW.PrintMore
attribute [local go_sem] Go.Proofs.Ythfppepnpngfmaa.StrCmp.gtr_less Go.Proofs.Ythfppepnpngfmaa.StrCmp.geq_less Go.Proofs.Ythfppepnpngfmaa.StrCmp.leq_less max2_int min2_int max_two min_two max_three min_three max_four min_four   -- for this text's walks alone
set_option linter.unusedVariables false
set_option linter.unusedSimpArgs false

/-! ### impl_DoAct: function 37 -/
mutual
def impl_DoAct.j0 : Nat → Int → Bool → List (S45) → Int → ByteArray → ByteArray → ByteArray → Option ((List (S45)) × Bool)
 | 0, _, _, _, _, _, _, _ => none
 | k + 1, x6, x29, x237000, x238000, x238001, x238002, x238003 => if x29 = true then (some (([] : List (S45)), false)) else (if x6 ≥ 0 then (if 0 ≤ x6 then (if x6 < (x237000.length : Int) then (impl_DoAct.j1 k x237000 x238000 x238001 x238002 x238003 ((rd_T45 x237000 x6).f0) ((rd_T45 x237000 x6).f1) ((rd_T45 x237000 x6).f2)) else (none)) else (none)) else (impl_DoAct.j1 k x237000 x238000 x238001 x238002 x238003 x238001 (⟨#[]⟩ : ByteArray) 0))
def impl_DoAct.j1 : Nat → List (S45) → Int → ByteArray → ByteArray → ByteArray → ByteArray → ByteArray → Int → Option ((List (S45)) × Bool)
 | 0, _, _, _, _, _, _, _, _ => none
 | k + 1, x237000, x238000, x238001, x238002, x238003, x243000, x243001, x243002 => if x238000 = 1 then (if x243001.size + x238002.size ≤ 9223372036854775807 then ((impl_withFile.f x237000 x243000 (x243001 ++ x238002) x243002).bind fun t245 => ((impl_DiskOk.f k t245).bind fun t248 => (if t248 = true then (some (t245, true)) else (some (([] : List (S45)), false))))) else (none)) else (if x238000 = 2 then ((impl_withFile.f x237000 x243000 x243001 (x243001.size : Int)).bind fun t249 => ((impl_DiskOk.f k t249).bind fun t252 => (if t252 = true then (some (t249, true)) else (some (([] : List (S45)), false))))) else (if x238000 = 3 then (if x243002 = (x243001.size : Int) then (impl_DoAct.j2 k (x238003.toList == x238001.toList) x237000 x238000 x238001 x238002 x238003 x243000 x243001 x243002) else (impl_DoAct.j2 k true x237000 x238000 x238001 x238002 x238003 x243000 x243001 x243002)) else ((impl_withoutFile.f x237000 x238001).bind fun t260 => ((impl_DiskOk.f k t260).bind fun t263 => (if t263 = true then (some (t260, true)) else (some (([] : List (S45)), false)))))))
def impl_DoAct.j2 : Nat → Bool → List (S45) → Int → ByteArray → ByteArray → ByteArray → ByteArray → ByteArray → Int → Option ((List (S45)) × Bool)
 | 0, _, _, _, _, _, _, _, _, _ => none
 | k + 1, x82, x237000, x238000, x238001, x238002, x238003, x243000, x243001, x243002 => if x82 = true then (some (([] : List (S45)), false)) else ((impl_withoutFile.f x237000 x238001).bind fun t253 => ((impl_withFile.f t253 x238003 x243001 x243002).bind fun t256 => ((impl_DiskOk.f k t256).bind fun t259 => (if t259 = true then (some (t256, true)) else (some (([] : List (S45)), false))))))
end
def impl_DoAct.f (k : Nat) (l0_0 : List (S45)) (a1_0 : Int) (a1_1 : ByteArray) (a1_2 : ByteArray) (a1_3 : ByteArray) : Option ((List (S45)) × Bool) := (impl_placeOf.f l0_0 a1_1).bind fun t239 => ((impl_DiskOk.f k l0_0).bind fun t240 => (if t240 = true then ((impl_actOk.f a1_0 a1_1 a1_2 a1_3).bind fun t241 => (if t241 = true then (if t239 < 0 then (impl_DoAct.j0 k t239 (a1_0 != 1) l0_0 a1_0 a1_1 a1_2 a1_3) else (impl_DoAct.j0 k t239 false l0_0 a1_0 a1_1 a1_2 a1_3)) else (impl_DoAct.j0 k t239 true l0_0 a1_0 a1_1 a1_2 a1_3))) else (impl_DoAct.j0 k t239 true l0_0 a1_0 a1_1 a1_2 a1_3)))
theorem impl_DoAct.mono_l : ∀ k, (∀ y0 y1 y2 y3 y4 y5 y6, LeO (impl_DoAct.j0 k y0 y1 y2 y3 y4 y5 y6) (impl_DoAct.j0 (k + 1) y0 y1 y2 y3 y4 y5 y6)) ∧ (∀ y0 y1 y2 y3 y4 y5 y6 y7, LeO (impl_DoAct.j1 k y0 y1 y2 y3 y4 y5 y6 y7) (impl_DoAct.j1 (k + 1) y0 y1 y2 y3 y4 y5 y6 y7)) ∧ (∀ y0 y1 y2 y3 y4 y5 y6 y7 y8, LeO (impl_DoAct.j2 k y0 y1 y2 y3 y4 y5 y6 y7 y8) (impl_DoAct.j2 (k + 1) y0 y1 y2 y3 y4 y5 y6 y7 y8))
 | 0 => ⟨fun _ _ _ _ _ _ _ r h => by simp [impl_DoAct.j0] at h, fun _ _ _ _ _ _ _ _ r h => by simp [impl_DoAct.j1] at h, fun _ _ _ _ _ _ _ _ _ r h => by simp [impl_DoAct.j2] at h⟩
 | k + 1 => by
  obtain ⟨ih0, ih1, ih2⟩ := impl_DoAct.mono_l k
  refine ⟨?_, ?_, ?_⟩
  ·
   intro y0 y1 y2 y3 y4 y5 y6
   unfold impl_DoAct.j0
   repeat' first
   | (with_reducible exact ih0 _ _ _ _ _ _ _)
   | (with_reducible exact ih1 _ _ _ _ _ _ _ _)
   | (with_reducible exact ih2 _ _ _ _ _ _ _ _ _)
   | (with_reducible exact impl_DiskOk.mono _ _)
   | (with_reducible exact LeO.refl _)
   | (with_reducible exact LeO.none _)
   | (with_reducible refine LeO.ite ?_ ?_)
   | (with_reducible refine LeO.bind ?_ (fun _ => ?_))
   | exact ih0 _ _ _ _ _ _ _
   | exact ih1 _ _ _ _ _ _ _ _
   | exact ih2 _ _ _ _ _ _ _ _ _
   | exact impl_DiskOk.mono _ _
   | exact LeO.none _
   | refine LeO.ite ?_ ?_
   | refine LeO.bind ?_ (fun _ => ?_)
  ·
   intro y0 y1 y2 y3 y4 y5 y6 y7
   unfold impl_DoAct.j1
   repeat' first
   | (with_reducible exact ih0 _ _ _ _ _ _ _)
   | (with_reducible exact ih1 _ _ _ _ _ _ _ _)
   | (with_reducible exact ih2 _ _ _ _ _ _ _ _ _)
   | (with_reducible exact impl_DiskOk.mono _ _)
   | (with_reducible exact LeO.refl _)
   | (with_reducible exact LeO.none _)
   | (with_reducible refine LeO.ite ?_ ?_)
   | (with_reducible refine LeO.bind ?_ (fun _ => ?_))
   | exact ih0 _ _ _ _ _ _ _
   | exact ih1 _ _ _ _ _ _ _ _
   | exact ih2 _ _ _ _ _ _ _ _ _
   | exact impl_DiskOk.mono _ _
   | exact LeO.none _
   | refine LeO.ite ?_ ?_
   | refine LeO.bind ?_ (fun _ => ?_)
  ·
   intro y0 y1 y2 y3 y4 y5 y6 y7 y8
   unfold impl_DoAct.j2
   repeat' first
   | (with_reducible exact ih0 _ _ _ _ _ _ _)
   | (with_reducible exact ih1 _ _ _ _ _ _ _ _)
   | (with_reducible exact ih2 _ _ _ _ _ _ _ _ _)
   | (with_reducible exact impl_DiskOk.mono _ _)
   | (with_reducible exact LeO.refl _)
   | (with_reducible exact LeO.none _)
   | (with_reducible refine LeO.ite ?_ ?_)
   | (with_reducible refine LeO.bind ?_ (fun _ => ?_))
   | exact ih0 _ _ _ _ _ _ _
   | exact ih1 _ _ _ _ _ _ _ _
   | exact ih2 _ _ _ _ _ _ _ _ _
   | exact impl_DiskOk.mono _ _
   | exact LeO.none _
   | refine LeO.ite ?_ ?_
   | refine LeO.bind ?_ (fun _ => ?_)
theorem impl_DoAct.mono : ∀ a0 a1 a2 a3 a4 k, LeO (impl_DoAct.f k a0 a1 a2 a3 a4) (impl_DoAct.f (k + 1) a0 a1 a2 a3 a4) := by
 intro a0 a1 a2 a3 a4 k
 obtain ⟨ih0, ih1, ih2⟩ := impl_DoAct.mono_l k
 unfold impl_DoAct.f
 repeat' first
   | (with_reducible exact ih0 _ _ _ _ _ _ _)
   | (with_reducible exact ih1 _ _ _ _ _ _ _ _)
   | (with_reducible exact ih2 _ _ _ _ _ _ _ _ _)
   | (with_reducible exact impl_DiskOk.mono _ _)
   | (with_reducible exact LeO.refl _)
   | (with_reducible exact LeO.none _)
   | (with_reducible refine LeO.ite ?_ ?_)
   | (with_reducible refine LeO.bind ?_ (fun _ => ?_))
   | exact ih0 _ _ _ _ _ _ _
   | exact ih1 _ _ _ _ _ _ _ _
   | exact ih2 _ _ _ _ _ _ _ _ _
   | exact impl_DiskOk.mono _ _
   | exact LeO.none _
   | refine LeO.ite ?_ ?_
   | refine LeO.bind ?_ (fun _ => ?_)
set_option maxHeartbeats 8000000 in
set_option maxRecDepth 100000 in
theorem impl_DoAct.calls (k : Nat) (A0_0 : Option Addr) (c0_0 : Nat) (l0_0 : List (S45)) (a1_0 : Int) (a1_1 : ByteArray) (a1_2 : ByteArray) (a1_3 : ByteArray) (r1 : List (S45)) (r2 : Bool) (w : World) (hr0_0 : Kd.C k45 w A0_0 l0_0.length l0_0) (hc0_0 : l0_0.length ≤ c0_0) (h : impl_DoAct.f k l0_0 a1_0 a1_1 a1_2 a1_3 = some (r1, r2)) :
  Calls Try.prog 37 #[.agg #[.slice A0_0 l0_0.length c0_0], .agg #[.int .i64 a1_0, .string a1_1, .string a1_2, .string a1_3]] w fun e w' => ∃ v0_ : Value, e = .returned (.tuple #[.agg #[v0_], .bool r2]) ∧ Kd.R k45 45 w' w.heap.size (fun _ => True) v0_ r1 ∧ Below w.heap.size w w' := by
 have hu29 := Try.underlying29
 have hu55 := Try.underlying55
 have hu45 := Try.underlying45
 have HR0_0 := Aside0.mk hr0_0
 have HC0_0 := Aside0.mk hc0_0
 clear hr0_0 hc0_0
 have HB := Aside0.mk (Below.refl w.heap.size w)
 have H : ((impl_placeOf.f l0_0 a1_1).bind fun t239 => ((impl_DiskOk.f k l0_0).bind fun t240 => (if t240 = true then ((impl_actOk.f a1_0 a1_1 a1_2 a1_3).bind fun t241 => (if t241 = true then (if t239 < 0 then (impl_DoAct.j0 k t239 (a1_0 != 1) l0_0 a1_0 a1_1 a1_2 a1_3) else (impl_DoAct.j0 k t239 false l0_0 a1_0 a1_1 a1_2 a1_3)) else (impl_DoAct.j0 k t239 true l0_0 a1_0 a1_1 a1_2 a1_3))) else (impl_DoAct.j0 k t239 true l0_0 a1_0 a1_1 a1_2 a1_3)))) = some (r1, r2) := h
 clear h
 replace H := Option.bind_eq_some_iff.mp H
 obtain ⟨t239, A30, H⟩ := H
 replace H : ((impl_DiskOk.f k l0_0).bind fun t240 => (if t240 = true then ((impl_actOk.f a1_0 a1_1 a1_2 a1_3).bind fun t241 => (if t241 = true then (if t239 < 0 then (impl_DoAct.j0 k t239 (a1_0 != 1) l0_0 a1_0 a1_1 a1_2 a1_3) else (impl_DoAct.j0 k t239 false l0_0 a1_0 a1_1 a1_2 a1_3)) else (impl_DoAct.j0 k t239 true l0_0 a1_0 a1_1 a1_2 a1_3))) else (impl_DoAct.j0 k t239 true l0_0 a1_0 a1_1 a1_2 a1_3))) = some (r1, r2) := H
 have A3 := Aside0.mk A30
 clear A30
 have HC4 := Aside0.mk H
 clear H
 go_enter Try.func37, Try.ntmps37
 go_upto_region 2 with (first | ((with_reducible refine gate_dst (N := 2) rfl ?_); refine bE 2 #[.slice A0_0 l0_0.length c0_0] 29 ?_; intro gb236 hg w5 hbox hb; have BK236 := Aside0.mk (hbox); have GW236 : Aside0 (w.heap.size ≤ gb236) := GS; have GE236 : Aside0 (w.heap.size ≤ gb236) := GS; replace HB := Aside0.mk (below_step (BL) hb); clear hb hbox hg) | ((with_reducible refine gate_dst (N := 3) rfl ?_); refine bE 3 #[.int .i64 a1_0, .string a1_1, .string a1_2, .string a1_3] 55 ?_; intro gb237 hg w6 hbox hb; have BK237 := Aside0.mk (hbox); have GW237 : Aside0 (w.heap.size ≤ gb237) := GS; have GE237 : Aside0 (w.heap.size ≤ gb237) := GS; have NB236_237 := NL BK236.out hg; have NB237_236 := NG BK236.out hg; replace BK236 := BB BK236.out hb; replace HB := Aside0.mk (below_step (BL) hb); clear hb hbox hg) | ((with_reducible refine gate_dst (N := 4) rfl ?_); refine bE 4 #[.slice none 0 0] 29 ?_; intro gb238 hg w7 hbox hb; have BK238 := Aside0.mk (hbox); have GW238 : Aside0 (w.heap.size ≤ gb238) := GS; have GE238 : Aside0 (w.heap.size ≤ gb238) := GS; have NB236_238 := NL BK236.out hg; have NB238_236 := NG BK236.out hg; have NB237_238 := NL BK237.out hg; have NB238_237 := NG BK237.out hg; replace BK236 := BB BK236.out hb; replace BK237 := BB BK237.out hb; replace HB := Aside0.mk (below_step (BL) hb); clear hb hbox hg; have hnb8 := NB236_237.out; have hnc8 := NB237_236.out; have hnb9 := NB236_238.out; have hnc9 := NB238_236.out; have hcz10_0 : w7.cell? ⟨gb236, 0, none⟩ = some (.slice A0_0 l0_0.length c0_0) := CZ BK236.out 0; have hfz10_0 := blk_frozen BK236.out 0; have hnb11 := NB237_238.out; have hnc11 := NB238_237.out; have hcz12_0 : w7.cell? ⟨gb237, 0, none⟩ = some (.int .i64 a1_0) := CZ BK237.out 0; have hcz12_1 : w7.cell? ⟨gb237, 1, none⟩ = some (.string a1_1) := CZ BK237.out 1; have hcz12_2 : w7.cell? ⟨gb237, 2, none⟩ = some (.string a1_2) := CZ BK237.out 2; have hcz12_3 : w7.cell? ⟨gb237, 3, none⟩ = some (.string a1_3) := CZ BK237.out 3; have hfz12_0 := blk_frozen BK237.out 0; have hfz12_1 := blk_frozen BK237.out 1; have hfz12_2 := blk_frozen BK237.out 2; have hfz12_3 := blk_frozen BK237.out 3) | ((with_reducible refine gate_callee (f := 54) rfl ?_); refine goesL_ (some 12) rfl rfl Try.func54 (by kernel_rfl) rfl #[.agg #[.slice A0_0 l0_0.length c0_0], .string a1_1] rfl (MA) ?_; (with_reducible refine (impl_placeOf.calls _ _ l0_0 a1_1 t239 _ ?side1 ?side2 A3.out).mono ?_); (case side1 => repeat (first | exact (Kd.C_below HR0_0.out HB.out) | (with_reducible refine Kd.C_alloc ?_ _) | (with_reducible refine Kd.C_drewN ?_ _) | (with_reducible refine Kd.C_drew ?_))); (case side2 => exact HC0_0.out); rintro e w13 ⟨rfl, hb⟩; refine ⟨_, rfl, ?_⟩; replace BK236 := BB BK236.out hb; replace BK237 := BB BK237.out hb; replace BK238 := BB BK238.out hb; replace HB := Aside0.mk (below_step (BL) hb); (try clear hb); (try clear hb2); (try clear hk); (try clear hi)))
 (try simp only [Act.put, zA, zB, zC])
 go_cut [29] (fun v29 wc => ∃ (kq : Nat) (x29_3 : Bool), v29 = .bool x29_3 ∧ Aside0 (impl_DoAct.j0 kq t239 x29_3 l0_0 a1_0 a1_1 a1_2 a1_3 = some (r1, r2)) ∧ Aside0 (kq ≤ k) ∧ Aside0 (wc.heap[gb236]? = some (.cells #[(.slice A0_0 l0_0.length c0_0)] 29 (0, 0))) ∧ Aside0 (wc.heap[gb237]? = some (.cells #[.int .i64 a1_0, .string a1_1, .string a1_2, .string a1_3] 55 (0, 0))) ∧ Aside0 (wc.heap[gb238]? = some (.cells #[(.slice none 0 0)] 29 (0, 0))) ∧ Aside0 (Below w.heap.size w wc))
 case first =>
  have H := HC4.out
  clear HC4
  replace H := Option.bind_eq_some_iff.mp H
  obtain ⟨t240, A140, H⟩ := H
  replace H : (if t240 = true then ((impl_actOk.f a1_0 a1_1 a1_2 a1_3).bind fun t241 => (if t241 = true then (if t239 < 0 then (impl_DoAct.j0 k t239 (a1_0 != 1) l0_0 a1_0 a1_1 a1_2 a1_3) else (impl_DoAct.j0 k t239 false l0_0 a1_0 a1_1 a1_2 a1_3)) else (impl_DoAct.j0 k t239 true l0_0 a1_0 a1_1 a1_2 a1_3))) else (impl_DoAct.j0 k t239 true l0_0 a1_0 a1_1 a1_2 a1_3)) = some (r1, r2) := H
  have A14 := Aside0.mk A140
  clear A140
  by_cases c15 : t240 = true; rotate_left
  ·
   replace c15 := Bool.eq_false_iff.mpr c15
   subst c15
   have H1 : (impl_DoAct.j0 k t239 true l0_0 a1_0 a1_1 a1_2 a1_3) = some (r1, r2) := by rw [if_neg (show ¬ (false = true) by decide)] at H; exact H
   clear H
   have H := H1
   clear H1
   have H' := Aside0.mk H
   clear H
   have hnb41 := NB236_237.out
   have hnc41 := NB237_236.out
   have hnb42 := NB236_238.out
   have hnc42 := NB238_236.out
   have hcz43_0 : w13.cell? ⟨gb236, 0, none⟩ = some (.slice A0_0 l0_0.length c0_0) := CZ BK236.out 0
   have hfz43_0 := blk_frozen BK236.out 0
   go_wp2_with (first | ((with_reducible refine gate_callee (f := 15) rfl ?_); refine goesL_ (some 14) rfl rfl Try.func15 (by kernel_rfl) rfl #[.agg #[.slice A0_0 l0_0.length c0_0]] rfl (MA) ?_; (with_reducible refine (impl_DiskOk.calls k _ _ l0_0 false _ ?side1 ?side2 A14.out).mono ?_); (case side1 => repeat (first | exact (Kd.C_below HR0_0.out HB.out) | (with_reducible refine Kd.C_alloc ?_ _) | (with_reducible refine Kd.C_drewN ?_ _) | (with_reducible refine Kd.C_drew ?_))); (case side2 => exact HC0_0.out); rintro e w44 ⟨rfl, hb⟩; refine ⟨_, rfl, ?_⟩; replace BK236 := BB BK236.out hb; replace BK237 := BB BK237.out hb; replace BK238 := BB BK238.out hb; replace HB := Aside0.mk (below_step (BL) hb); (try clear hb); (try clear hb2); (try clear hk); (try clear hi)))
   go_meet
   case rel => exact ⟨_, (true), SD, H', ⟨by first | omega | exact Nat.le_refl _⟩, ⟨BQ BK236.out⟩, ⟨BQ BK237.out⟩, ⟨BQ BK238.out⟩, ⟨BL⟩⟩
  subst c15
  have H1 : ((impl_actOk.f a1_0 a1_1 a1_2 a1_3).bind fun t241 => (if t241 = true then (if t239 < 0 then (impl_DoAct.j0 k t239 (a1_0 != 1) l0_0 a1_0 a1_1 a1_2 a1_3) else (impl_DoAct.j0 k t239 false l0_0 a1_0 a1_1 a1_2 a1_3)) else (impl_DoAct.j0 k t239 true l0_0 a1_0 a1_1 a1_2 a1_3))) = some (r1, r2) := by rw [if_pos rfl] at H; exact H
  clear H
  have H := H1
  clear H1
  replace H := Option.bind_eq_some_iff.mp H
  obtain ⟨t241, A160, H⟩ := H
  replace H : (if t241 = true then (if t239 < 0 then (impl_DoAct.j0 k t239 (a1_0 != 1) l0_0 a1_0 a1_1 a1_2 a1_3) else (impl_DoAct.j0 k t239 false l0_0 a1_0 a1_1 a1_2 a1_3)) else (impl_DoAct.j0 k t239 true l0_0 a1_0 a1_1 a1_2 a1_3)) = some (r1, r2) := H
  have A16 := Aside0.mk A160
  clear A160
  by_cases c17 : t241 = true; rotate_left
  ·
   replace c17 := Bool.eq_false_iff.mpr c17
   subst c17
   have H1 : (impl_DoAct.j0 k t239 true l0_0 a1_0 a1_1 a1_2 a1_3) = some (r1, r2) := by rw [if_neg (show ¬ (false = true) by decide)] at H; exact H
   clear H
   have H := H1
   clear H1
   have H' := Aside0.mk H
   clear H
   have hnb34 := NB236_237.out
   have hnc34 := NB237_236.out
   have hnb35 := NB236_238.out
   have hnc35 := NB238_236.out
   have hcz36_0 : w13.cell? ⟨gb236, 0, none⟩ = some (.slice A0_0 l0_0.length c0_0) := CZ BK236.out 0
   have hfz36_0 := blk_frozen BK236.out 0
   go_wp2_with (first | ((with_reducible refine gate_callee (f := 15) rfl ?_); refine goesL_ (some 14) rfl rfl Try.func15 (by kernel_rfl) rfl #[.agg #[.slice A0_0 l0_0.length c0_0]] rfl (MA) ?_; (with_reducible refine (impl_DiskOk.calls k _ _ l0_0 true _ ?side1 ?side2 A14.out).mono ?_); (case side1 => repeat (first | exact (Kd.C_below HR0_0.out HB.out) | (with_reducible refine Kd.C_alloc ?_ _) | (with_reducible refine Kd.C_drewN ?_ _) | (with_reducible refine Kd.C_drew ?_))); (case side2 => exact HC0_0.out); rintro e w37 ⟨rfl, hb⟩; refine ⟨_, rfl, ?_⟩; replace BK236 := BB BK236.out hb; replace BK237 := BB BK237.out hb; replace BK238 := BB BK238.out hb; replace HB := Aside0.mk (below_step (BL) hb); (try clear hb); (try clear hb2); (try clear hk); (try clear hi); have hnb38 := NB237_238.out; have hnc38 := NB238_237.out; have hcz39_0 : w37.cell? ⟨gb237, 0, none⟩ = some (.int .i64 a1_0) := CZ BK237.out 0; have hcz39_1 : w37.cell? ⟨gb237, 1, none⟩ = some (.string a1_1) := CZ BK237.out 1; have hcz39_2 : w37.cell? ⟨gb237, 2, none⟩ = some (.string a1_2) := CZ BK237.out 2; have hcz39_3 : w37.cell? ⟨gb237, 3, none⟩ = some (.string a1_3) := CZ BK237.out 3; have hfz39_0 := blk_frozen BK237.out 0; have hfz39_1 := blk_frozen BK237.out 1; have hfz39_2 := blk_frozen BK237.out 2; have hfz39_3 := blk_frozen BK237.out 3) | (go_at_call 65; (with_reducible refine (impl_actOk.calls a1_0 a1_1 a1_2 a1_3 false _ A16.out).mono ?_); rintro e w40 ⟨rfl, hb⟩; replace BK236 := BB BK236.out hb; replace BK237 := BB BK237.out hb; replace BK238 := BB BK238.out hb; replace HB := Aside0.mk (below_step (BL) hb); (try clear hb); (try clear hb2); (try clear hk); (try clear hi)))
   go_meet
   case rel => exact ⟨_, (true), SD, H', ⟨by first | omega | exact Nat.le_refl _⟩, ⟨BQ BK236.out⟩, ⟨BQ BK237.out⟩, ⟨BQ BK238.out⟩, ⟨BL⟩⟩
  subst c17
  have H1 : (if t239 < 0 then (impl_DoAct.j0 k t239 (a1_0 != 1) l0_0 a1_0 a1_1 a1_2 a1_3) else (impl_DoAct.j0 k t239 false l0_0 a1_0 a1_1 a1_2 a1_3)) = some (r1, r2) := by rw [if_pos rfl] at H; exact H
  clear H
  have H := H1
  clear H1
  by_cases c18 : t239 < 0
  ·
   rw [if_pos c18] at H
   have c18b0 : decide (t239 < 0) = true := decide_eq_true c18
   clear c18
   (first | rw [c18b0] | (simp only [i64_w, i32_w]; rw [c18b0]) | skip)
   have H' := Aside0.mk H
   clear H
   have hnb19 := NB236_237.out
   have hnc19 := NB237_236.out
   have hnb20 := NB236_238.out
   have hnc20 := NB238_236.out
   have hcz21_0 : w13.cell? ⟨gb236, 0, none⟩ = some (.slice A0_0 l0_0.length c0_0) := CZ BK236.out 0
   have hfz21_0 := blk_frozen BK236.out 0
   go_wp2_with (first | ((with_reducible refine gate_callee (f := 15) rfl ?_); refine goesL_ (some 14) rfl rfl Try.func15 (by kernel_rfl) rfl #[.agg #[.slice A0_0 l0_0.length c0_0]] rfl (MA) ?_; (with_reducible refine (impl_DiskOk.calls k _ _ l0_0 true _ ?side1 ?side2 A14.out).mono ?_); (case side1 => repeat (first | exact (Kd.C_below HR0_0.out HB.out) | (with_reducible refine Kd.C_alloc ?_ _) | (with_reducible refine Kd.C_drewN ?_ _) | (with_reducible refine Kd.C_drew ?_))); (case side2 => exact HC0_0.out); rintro e w22 ⟨rfl, hb⟩; refine ⟨_, rfl, ?_⟩; replace BK236 := BB BK236.out hb; replace BK237 := BB BK237.out hb; replace BK238 := BB BK238.out hb; replace HB := Aside0.mk (below_step (BL) hb); (try clear hb); (try clear hb2); (try clear hk); (try clear hi); have hnb23 := NB237_238.out; have hnc23 := NB238_237.out; have hcz24_0 : w22.cell? ⟨gb237, 0, none⟩ = some (.int .i64 a1_0) := CZ BK237.out 0; have hcz24_1 : w22.cell? ⟨gb237, 1, none⟩ = some (.string a1_1) := CZ BK237.out 1; have hcz24_2 : w22.cell? ⟨gb237, 2, none⟩ = some (.string a1_2) := CZ BK237.out 2; have hcz24_3 : w22.cell? ⟨gb237, 3, none⟩ = some (.string a1_3) := CZ BK237.out 3; have hfz24_0 := blk_frozen BK237.out 0; have hfz24_1 := blk_frozen BK237.out 1; have hfz24_2 := blk_frozen BK237.out 2; have hfz24_3 := blk_frozen BK237.out 3) | (go_at_call 65; (with_reducible refine (impl_actOk.calls a1_0 a1_1 a1_2 a1_3 true _ A16.out).mono ?_); rintro e w25 ⟨rfl, hb⟩; replace BK236 := BB BK236.out hb; replace BK237 := BB BK237.out hb; replace BK238 := BB BK238.out hb; replace HB := Aside0.mk (below_step (BL) hb); (try clear hb); (try clear hb2); (try clear hk); (try clear hi); have hcz26_0 : w25.cell? ⟨gb237, 0, none⟩ = some (.int .i64 a1_0) := CZ BK237.out 0; have hcz26_1 : w25.cell? ⟨gb237, 1, none⟩ = some (.string a1_1) := CZ BK237.out 1; have hcz26_2 : w25.cell? ⟨gb237, 2, none⟩ = some (.string a1_2) := CZ BK237.out 2; have hcz26_3 : w25.cell? ⟨gb237, 3, none⟩ = some (.string a1_3) := CZ BK237.out 3; have hfz26_0 := blk_frozen BK237.out 0; have hfz26_1 := blk_frozen BK237.out 1; have hfz26_2 := blk_frozen BK237.out 2; have hfz26_3 := blk_frozen BK237.out 3))
   go_meet
   case rel => exact ⟨_, ((a1_0 != 1)), SD, H', ⟨by first | omega | exact Nat.le_refl _⟩, ⟨BQ BK236.out⟩, ⟨BQ BK237.out⟩, ⟨BQ BK238.out⟩, ⟨BL⟩⟩
  rw [if_neg c18] at H
  have c18b0 : decide (t239 < 0) = false := decide_eq_false c18
  clear c18
  (first | rw [c18b0] | (simp only [i64_w, i32_w]; rw [c18b0]) | skip)
  have H' := Aside0.mk H
  clear H
  have hnb27 := NB236_237.out
  have hnc27 := NB237_236.out
  have hnb28 := NB236_238.out
  have hnc28 := NB238_236.out
  have hcz29_0 : w13.cell? ⟨gb236, 0, none⟩ = some (.slice A0_0 l0_0.length c0_0) := CZ BK236.out 0
  have hfz29_0 := blk_frozen BK236.out 0
  go_wp2_with (first | ((with_reducible refine gate_callee (f := 15) rfl ?_); refine goesL_ (some 14) rfl rfl Try.func15 (by kernel_rfl) rfl #[.agg #[.slice A0_0 l0_0.length c0_0]] rfl (MA) ?_; (with_reducible refine (impl_DiskOk.calls k _ _ l0_0 true _ ?side1 ?side2 A14.out).mono ?_); (case side1 => repeat (first | exact (Kd.C_below HR0_0.out HB.out) | (with_reducible refine Kd.C_alloc ?_ _) | (with_reducible refine Kd.C_drewN ?_ _) | (with_reducible refine Kd.C_drew ?_))); (case side2 => exact HC0_0.out); rintro e w30 ⟨rfl, hb⟩; refine ⟨_, rfl, ?_⟩; replace BK236 := BB BK236.out hb; replace BK237 := BB BK237.out hb; replace BK238 := BB BK238.out hb; replace HB := Aside0.mk (below_step (BL) hb); (try clear hb); (try clear hb2); (try clear hk); (try clear hi); have hnb31 := NB237_238.out; have hnc31 := NB238_237.out; have hcz32_0 : w30.cell? ⟨gb237, 0, none⟩ = some (.int .i64 a1_0) := CZ BK237.out 0; have hcz32_1 : w30.cell? ⟨gb237, 1, none⟩ = some (.string a1_1) := CZ BK237.out 1; have hcz32_2 : w30.cell? ⟨gb237, 2, none⟩ = some (.string a1_2) := CZ BK237.out 2; have hcz32_3 : w30.cell? ⟨gb237, 3, none⟩ = some (.string a1_3) := CZ BK237.out 3; have hfz32_0 := blk_frozen BK237.out 0; have hfz32_1 := blk_frozen BK237.out 1; have hfz32_2 := blk_frozen BK237.out 2; have hfz32_3 := blk_frozen BK237.out 3) | (go_at_call 65; (with_reducible refine (impl_actOk.calls a1_0 a1_1 a1_2 a1_3 true _ A16.out).mono ?_); rintro e w33 ⟨rfl, hb⟩; replace BK236 := BB BK236.out hb; replace BK237 := BB BK237.out hb; replace BK238 := BB BK238.out hb; replace HB := Aside0.mk (below_step (BL) hb); (try clear hb); (try clear hb2); (try clear hk); (try clear hi)))
  go_meet
  case rel => exact ⟨_, (false), SD, H', ⟨by first | omega | exact Nat.le_refl _⟩, ⟨BQ BK236.out⟩, ⟨BQ BK237.out⟩, ⟨BQ BK238.out⟩, ⟨BL⟩⟩
 case rest =>
  clear HC4
  try clear c1
  try clear c2
  try clear p2
  try clear c3
  try clear c4
  try clear c5
  try clear c8
  try clear c9
  try clear c11
  try clear c15
  try clear c17
  try clear c18
  try clear c18b0
  try clear c19
  try clear c20
  try clear c23
  try clear c27
  try clear c28
  try clear c31
  try clear c34
  try clear c35
  try clear c37
  try clear c38
  try clear c41
  try clear c42
  try clear hcz10_0
  try clear hcz12_0
  try clear hcz12_1
  try clear hcz12_2
  try clear hcz12_3
  try clear hcz21_0
  try clear hcz24_0
  try clear hcz24_1
  try clear hcz24_2
  try clear hcz24_3
  try clear hcz26_0
  try clear hcz26_1
  try clear hcz26_2
  try clear hcz26_3
  try clear hcz29_0
  try clear hcz32_0
  try clear hcz32_1
  try clear hcz32_2
  try clear hcz32_3
  try clear hcz36_0
  try clear hcz39_0
  try clear hcz39_1
  try clear hcz39_2
  try clear hcz39_3
  try clear hcz43_0
  try clear hfz10_0
  try clear hfz12_0
  try clear hfz12_1
  try clear hfz12_2
  try clear hfz12_3
  try clear hfz21_0
  try clear hfz24_0
  try clear hfz24_1
  try clear hfz24_2
  try clear hfz24_3
  try clear hfz26_0
  try clear hfz26_1
  try clear hfz26_2
  try clear hfz26_3
  try clear hfz29_0
  try clear hfz32_0
  try clear hfz32_1
  try clear hfz32_2
  try clear hfz32_3
  try clear hfz36_0
  try clear hfz39_0
  try clear hfz39_1
  try clear hfz39_2
  try clear hfz39_3
  try clear hfz43_0
  obtain ⟨kq, x29_3, rfl, HA, HJ3, BK236, BK237, BK238, HB⟩ := hcut
  cases kq with
  | zero => exact absurd HA.out (by simp [impl_DoAct.j0])
  | succ kj3 =>
   have H := HA.out
   clear HA
   simp only [impl_DoAct.j0] at H
   by_cases c45 : x29_3 = true
   ·
    subst c45
    have H1 : (some (([] : List (S45)), false)) = some (r1, r2) := by rw [if_pos rfl] at H; exact H
    clear H
    have H := H1
    clear H1
    simp only [Option.some.injEq, Prod.mk.injEq] at H
    obtain ⟨rfl, rfl⟩ := H
    have hnb46 := NB238_236.out
    have hnc46 := NB236_238.out
    have hnb47 := NB238_237.out
    have hnc47 := NB237_238.out
    have hcz48_0 : wc.cell? ⟨gb238, 0, none⟩ = some (.slice none 0 0) := CZ BK238.out 0
    have hfz48_0 := blk_frozen BK238.out 0
    go_wp2
    refine bodyPost_ret (results_ct rfl _ _ gb238 29 #[.slice none 0 0] (0, 0) _ rfl (by (with_reducible repeat (first | apply b1 | apply b2 | apply b3)); refine blk_put (cs := #[.slice none 0 0]) ?_ 0 _ rfl; (with_reducible repeat (first | apply b1 | apply b2 | apply b3)); exact BK238.out) Try.underlying29 rfl (by kernel_rfl)) rfl ?_
    exact ⟨_, EE, by first | exact Kd.R_nil _ _ _ _ _ | exact Kd.N_nil _ _ _ _ _ | exact Kd.V_nil _ _ _ _ _ | exact Kd.Q_nil _ _ _ _ _ | exact Kd.S_nil _ _ _ _ _, BL⟩
   replace c45 := Bool.eq_false_iff.mpr c45
   subst c45
   have H1 : (if t239 ≥ 0 then (if 0 ≤ t239 then (if t239 < (l0_0.length : Int) then (impl_DoAct.j1 kj3 l0_0 a1_0 a1_1 a1_2 a1_3 ((rd_T45 l0_0 t239).f0) ((rd_T45 l0_0 t239).f1) ((rd_T45 l0_0 t239).f2)) else (none)) else (none)) else (impl_DoAct.j1 kj3 l0_0 a1_0 a1_1 a1_2 a1_3 a1_1 (⟨#[]⟩ : ByteArray) 0)) = some (r1, r2) := by rw [if_neg (show ¬ (false = true) by decide)] at H; exact H
   clear H
   have H := H1
   clear H1
   have HC49 := Aside0.mk H
   clear H
   have hnb50 := NB237_236.out
   have hnc50 := NB236_237.out
   have hnb51 := NB237_238.out
   have hnc51 := NB238_237.out
   have hcz52_0 : wc.cell? ⟨gb237, 0, none⟩ = some (.int .i64 a1_0) := CZ BK237.out 0
   have hcz52_1 : wc.cell? ⟨gb237, 1, none⟩ = some (.string a1_1) := CZ BK237.out 1
   have hcz52_2 : wc.cell? ⟨gb237, 2, none⟩ = some (.string a1_2) := CZ BK237.out 2
   have hcz52_3 : wc.cell? ⟨gb237, 3, none⟩ = some (.string a1_3) := CZ BK237.out 3
   have hfz52_0 := blk_frozen BK237.out 0
   have hfz52_1 := blk_frozen BK237.out 1
   have hfz52_2 := blk_frozen BK237.out 2
   have hfz52_3 := blk_frozen BK237.out 3
   go_upto_if 35 with (first | ((with_reducible refine gate_dst (N := 7) rfl ?_); refine bE 7 #[.string (⟨#[]⟩ : ByteArray), .string (⟨#[]⟩ : ByteArray), .int .i64 0] 45 ?_; intro gb242 hg w53 hbox hb; have BK242 := Aside0.mk (hbox); have GW242 : Aside0 (w.heap.size ≤ gb242) := GS; have GE242 : Aside0 (w.heap.size ≤ gb242) := GS; have NB236_242 := NL BK236.out hg; have NB242_236 := NG BK236.out hg; have NB237_242 := NL BK237.out hg; have NB242_237 := NG BK237.out hg; have NB238_242 := NL BK238.out hg; have NB242_238 := NG BK238.out hg; replace BK236 := BB BK236.out hb; replace BK237 := BB BK237.out hb; replace BK238 := BB BK238.out hb; replace HB := Aside0.mk (below_step (BL) hb); clear hb hbox hg; have hnb54 := NB242_236.out; have hnc54 := NB236_242.out; have hnb55 := NB242_237.out; have hnc55 := NB237_242.out; have hnb56 := NB242_238.out; have hnc56 := NB238_242.out; have hcz57_0 : w53.cell? ⟨gb242, 0, none⟩ = some (.string (⟨#[]⟩ : ByteArray)) := CZ BK242.out 0; have hcz57_1 : w53.cell? ⟨gb242, 1, none⟩ = some (.string (⟨#[]⟩ : ByteArray)) := CZ BK242.out 1; have hcz57_2 : w53.cell? ⟨gb242, 2, none⟩ = some (.int .i64 0) := CZ BK242.out 2; have hfz57_0 := blk_frozen BK242.out 0; have hfz57_1 := blk_frozen BK242.out 1; have hfz57_2 := blk_frozen BK242.out 2))
   (try simp only [Act.put, zA, zB, zC])
   go_cut [] (fun wc => ∃ (kq : Nat) (x243000_48 : ByteArray) (x243001_48 : ByteArray) (x243002_48 : Int), Aside0 (impl_DoAct.j1 kq l0_0 a1_0 a1_1 a1_2 a1_3 x243000_48 x243001_48 x243002_48 = some (r1, r2)) ∧ Aside0 (kq ≤ kj3) ∧ Aside0 (wc.heap[gb236]? = some (.cells #[(.slice A0_0 l0_0.length c0_0)] 29 (0, 0))) ∧ Aside0 (wc.heap[gb237]? = some (.cells #[.int .i64 a1_0, .string a1_1, .string a1_2, .string a1_3] 55 (0, 0))) ∧ Aside0 (wc.heap[gb238]? = some (.cells #[(.slice none 0 0)] 29 (0, 0))) ∧ Aside0 (wc.heap[gb242]? = some (.cells #[.string x243000_48, .string x243001_48, .int .i64 x243002_48] 45 (0, 0))) ∧ Aside0 (Below w.heap.size w wc))
   case first =>
    have H := HC49.out
    clear HC49
    by_cases c58 : t239 ≥ 0; rotate_left
    ·
     rw [if_neg c58] at H
     have c58b0 : decide (0 ≤ t239) = false := decide_eq_false c58
     clear c58
     (first | rw [c58b0] | (simp only [i64_w, i32_w]; rw [c58b0]) | skip)
     have H' := Aside0.mk H
     clear H
     go_wp2
     go_meet
     case rel => exact ⟨_, (a1_1), ((⟨#[]⟩ : ByteArray)), (0), H', ⟨by have := HJ3.out; first | omega | exact Nat.le_refl _⟩, ⟨by (with_reducible repeat (first | apply b1 | apply b2 | apply b3)); refine blk_far ?_ NB236_242.out _; (with_reducible repeat (first | apply b1 | apply b2 | apply b3)); refine blk_far ?_ NB236_242.out _; (with_reducible repeat (first | apply b1 | apply b2 | apply b3)); refine blk_far ?_ NB236_242.out _; (with_reducible repeat (first | apply b1 | apply b2 | apply b3)); exact BK236.out⟩, ⟨by (with_reducible repeat (first | apply b1 | apply b2 | apply b3)); refine blk_far ?_ NB237_242.out _; (with_reducible repeat (first | apply b1 | apply b2 | apply b3)); refine blk_far ?_ NB237_242.out _; (with_reducible repeat (first | apply b1 | apply b2 | apply b3)); refine blk_far ?_ NB237_242.out _; (with_reducible repeat (first | apply b1 | apply b2 | apply b3)); exact BK237.out⟩, ⟨by (with_reducible repeat (first | apply b1 | apply b2 | apply b3)); refine blk_far ?_ NB238_242.out _; (with_reducible repeat (first | apply b1 | apply b2 | apply b3)); refine blk_far ?_ NB238_242.out _; (with_reducible repeat (first | apply b1 | apply b2 | apply b3)); refine blk_far ?_ NB238_242.out _; (with_reducible repeat (first | apply b1 | apply b2 | apply b3)); exact BK238.out⟩, ⟨by (with_reducible repeat (first | apply b1 | apply b2 | apply b3)); refine blk_put (cs := #[.string a1_1, .string (⟨#[]⟩ : ByteArray), .int .i64 0]) ?_ 2 _ rfl; (with_reducible repeat (first | apply b1 | apply b2 | apply b3)); refine blk_put (cs := #[.string a1_1, .string (⟨#[]⟩ : ByteArray), .int .i64 0]) ?_ 1 _ rfl; (with_reducible repeat (first | apply b1 | apply b2 | apply b3)); refine blk_put (cs := #[.string (⟨#[]⟩ : ByteArray), .string (⟨#[]⟩ : ByteArray), .int .i64 0]) ?_ 0 _ rfl; (with_reducible repeat (first | apply b1 | apply b2 | apply b3)); exact BK242.out⟩, ⟨BL⟩⟩
    rw [if_pos c58] at H
    have c58b0 : decide (0 ≤ t239) = true := decide_eq_true c58
    clear c58
    (first | rw [c58b0] | (simp only [i64_w, i32_w]; rw [c58b0]) | skip)
    by_cases c59 : 0 ≤ t239; rotate_left
    ·
     rw [if_neg c59] at H
     exact absurd H (by simp)
    rw [if_pos c59] at H
    have c59b0 : decide (0 ≤ t239) = true := decide_eq_true c59
    clear c59
    by_cases c60 : t239 < (l0_0.length : Int); rotate_left
    ·
     rw [if_neg c60] at H
     exact absurd H (by simp)
    rw [if_pos c60] at H
    have c60b0 : decide (t239 < (l0_0.length : Int)) = true := decide_eq_true c60
    clear c60
    have H' := Aside0.mk H
    clear H
    have hnb61 := NB236_237.out
    have hnc61 := NB237_236.out
    have hnb62 := NB236_238.out
    have hnc62 := NB238_236.out
    have hnb63 := NB236_242.out
    have hnc63 := NB242_236.out
    have hcz64_0 : w53.cell? ⟨gb236, 0, none⟩ = some (.slice A0_0 l0_0.length c0_0) := CZ BK236.out 0
    have hfz64_0 := blk_frozen BK236.out 0
    have p243 : 0 ≤ (t239 : Int) := of_decide_eq_true AS
    have q243 : t239 < (l0_0.length : Int) := of_decide_eq_true AS
    obtain ⟨ad243, e243, hx243_0, hx243_1, hx243_2⟩ := at_T45 HR0_0.out t239 p243 q243
    cases e243
    have hn243_0 : ad243.block ≠ gb242 := Nat.ne_of_lt (Nat.lt_of_lt_of_le (by have := World.block_lt_of_cell? _ _ hx243_0; first | rwa [add_block] at this | exact this) GW242.out)
    have hn243_1 : ad243.block ≠ gb242 := Nat.ne_of_lt (Nat.lt_of_lt_of_le (by have := World.block_lt_of_cell? _ _ hx243_0; first | rwa [add_block] at this | exact this) GW242.out)
    have hn243_2 : ad243.block ≠ gb242 := Nat.ne_of_lt (Nat.lt_of_lt_of_le (by have := World.block_lt_of_cell? _ _ hx243_0; first | rwa [add_block] at this | exact this) GW242.out)
    replace hx243_0 := (HB.out.cell (World.block_lt_of_cell? w _ hx243_0)).trans hx243_0
    replace hx243_1 := (HB.out.cell (World.block_lt_of_cell? w _ hx243_1)).trans hx243_1
    replace hx243_2 := (HB.out.cell (World.block_lt_of_cell? w _ hx243_2)).trans hx243_2
    replace hx243_0 := (cell_far (p := ⟨gb242, 0, none⟩) (by first | (rw [add_block]; exact hn243_0) | (show (Addr.add _ _).block ≠ _; rw [add_block]; exact hn243_0) | exact hn243_0) (.string a1_1)).trans hx243_0
    replace hx243_1 := (cell_far (p := ⟨gb242, 0, none⟩) (by first | (rw [add_block]; exact hn243_0) | (show (Addr.add _ _).block ≠ _; rw [add_block]; exact hn243_0) | exact hn243_0) (.string a1_1)).trans hx243_1
    replace hx243_2 := (cell_far (p := ⟨gb242, 0, none⟩) (by first | (rw [add_block]; exact hn243_0) | (show (Addr.add _ _).block ≠ _; rw [add_block]; exact hn243_0) | exact hn243_0) (.string a1_1)).trans hx243_2
    replace hx243_0 := (cell_far (p := ⟨gb242, 1, none⟩) (by first | (rw [add_block]; exact hn243_1) | (show (Addr.add _ _).block ≠ _; rw [add_block]; exact hn243_1) | exact hn243_1) (.string (⟨#[]⟩ : ByteArray))).trans hx243_0
    replace hx243_1 := (cell_far (p := ⟨gb242, 1, none⟩) (by first | (rw [add_block]; exact hn243_1) | (show (Addr.add _ _).block ≠ _; rw [add_block]; exact hn243_1) | exact hn243_1) (.string (⟨#[]⟩ : ByteArray))).trans hx243_1
    replace hx243_2 := (cell_far (p := ⟨gb242, 1, none⟩) (by first | (rw [add_block]; exact hn243_1) | (show (Addr.add _ _).block ≠ _; rw [add_block]; exact hn243_1) | exact hn243_1) (.string (⟨#[]⟩ : ByteArray))).trans hx243_2
    replace hx243_0 := (cell_far (p := ⟨gb242, 2, none⟩) (by first | (rw [add_block]; exact hn243_2) | (show (Addr.add _ _).block ≠ _; rw [add_block]; exact hn243_2) | exact hn243_2) (.int .i64 0)).trans hx243_0
    replace hx243_1 := (cell_far (p := ⟨gb242, 2, none⟩) (by first | (rw [add_block]; exact hn243_2) | (show (Addr.add _ _).block ≠ _; rw [add_block]; exact hn243_2) | exact hn243_2) (.int .i64 0)).trans hx243_1
    replace hx243_2 := (cell_far (p := ⟨gb242, 2, none⟩) (by first | (rw [add_block]; exact hn243_2) | (show (Addr.add _ _).block ≠ _; rw [add_block]; exact hn243_2) | exact hn243_2) (.int .i64 0)).trans hx243_2
    clear hn243_0
    clear hn243_1
    clear hn243_2
    replace p243 := eq_true p243
    replace q243 := eq_true q243
    have hnb65 := NB242_237.out
    have hnc65 := NB237_242.out
    have hnb66 := NB242_238.out
    have hnc66 := NB238_242.out
    have hcz67_0 : w53.cell? ⟨gb242, 0, none⟩ = some (.string (⟨#[]⟩ : ByteArray)) := CZ BK242.out 0
    have hcz67_1 : w53.cell? ⟨gb242, 1, none⟩ = some (.string (⟨#[]⟩ : ByteArray)) := CZ BK242.out 1
    have hcz67_2 : w53.cell? ⟨gb242, 2, none⟩ = some (.int .i64 0) := CZ BK242.out 2
    have hfz67_0 := blk_frozen BK242.out 0
    have hfz67_1 := blk_frozen BK242.out 1
    have hfz67_2 := blk_frozen BK242.out 2
    go_wp2
    go_meet
    case rel => exact ⟨_, ((rd_T45 l0_0 t239).f0), ((rd_T45 l0_0 t239).f1), ((rd_T45 l0_0 t239).f2), H', ⟨by have := HJ3.out; first | omega | exact Nat.le_refl _⟩, ⟨by (with_reducible repeat (first | apply b1 | apply b2 | apply b3)); refine blk_far ?_ NB236_242.out _; (with_reducible repeat (first | apply b1 | apply b2 | apply b3)); refine blk_far ?_ NB236_242.out _; (with_reducible repeat (first | apply b1 | apply b2 | apply b3)); refine blk_far ?_ NB236_242.out _; (with_reducible repeat (first | apply b1 | apply b2 | apply b3)); refine blk_far ?_ NB236_242.out _; (with_reducible repeat (first | apply b1 | apply b2 | apply b3)); refine blk_far ?_ NB236_242.out _; (with_reducible repeat (first | apply b1 | apply b2 | apply b3)); refine blk_far ?_ NB236_242.out _; (with_reducible repeat (first | apply b1 | apply b2 | apply b3)); exact BK236.out⟩, ⟨by (with_reducible repeat (first | apply b1 | apply b2 | apply b3)); refine blk_far ?_ NB237_242.out _; (with_reducible repeat (first | apply b1 | apply b2 | apply b3)); refine blk_far ?_ NB237_242.out _; (with_reducible repeat (first | apply b1 | apply b2 | apply b3)); refine blk_far ?_ NB237_242.out _; (with_reducible repeat (first | apply b1 | apply b2 | apply b3)); refine blk_far ?_ NB237_242.out _; (with_reducible repeat (first | apply b1 | apply b2 | apply b3)); refine blk_far ?_ NB237_242.out _; (with_reducible repeat (first | apply b1 | apply b2 | apply b3)); refine blk_far ?_ NB237_242.out _; (with_reducible repeat (first | apply b1 | apply b2 | apply b3)); exact BK237.out⟩, ⟨by (with_reducible repeat (first | apply b1 | apply b2 | apply b3)); refine blk_far ?_ NB238_242.out _; (with_reducible repeat (first | apply b1 | apply b2 | apply b3)); refine blk_far ?_ NB238_242.out _; (with_reducible repeat (first | apply b1 | apply b2 | apply b3)); refine blk_far ?_ NB238_242.out _; (with_reducible repeat (first | apply b1 | apply b2 | apply b3)); refine blk_far ?_ NB238_242.out _; (with_reducible repeat (first | apply b1 | apply b2 | apply b3)); refine blk_far ?_ NB238_242.out _; (with_reducible repeat (first | apply b1 | apply b2 | apply b3)); refine blk_far ?_ NB238_242.out _; (with_reducible repeat (first | apply b1 | apply b2 | apply b3)); exact BK238.out⟩, ⟨by (with_reducible repeat (first | apply b1 | apply b2 | apply b3)); refine blk_put (cs := #[.string ((rd_T45 l0_0 t239).f0), .string ((rd_T45 l0_0 t239).f1), .int .i64 0]) ?_ 2 _ rfl; (with_reducible repeat (first | apply b1 | apply b2 | apply b3)); refine blk_put (cs := #[.string ((rd_T45 l0_0 t239).f0), .string (⟨#[]⟩ : ByteArray), .int .i64 0]) ?_ 1 _ rfl; (with_reducible repeat (first | apply b1 | apply b2 | apply b3)); refine blk_put (cs := #[.string a1_1, .string (⟨#[]⟩ : ByteArray), .int .i64 0]) ?_ 0 _ rfl; (with_reducible repeat (first | apply b1 | apply b2 | apply b3)); refine blk_put (cs := #[.string a1_1, .string (⟨#[]⟩ : ByteArray), .int .i64 0]) ?_ 2 _ rfl; (with_reducible repeat (first | apply b1 | apply b2 | apply b3)); refine blk_put (cs := #[.string a1_1, .string (⟨#[]⟩ : ByteArray), .int .i64 0]) ?_ 1 _ rfl; (with_reducible repeat (first | apply b1 | apply b2 | apply b3)); refine blk_put (cs := #[.string (⟨#[]⟩ : ByteArray), .string (⟨#[]⟩ : ByteArray), .int .i64 0]) ?_ 0 _ rfl; (with_reducible repeat (first | apply b1 | apply b2 | apply b3)); exact BK242.out⟩, ⟨BL⟩⟩
   case rest =>
    clear HC49
    try clear c1
    try clear c2
    try clear p2
    try clear q2
    try clear hx2
    try clear c3
    try clear c4
    try clear c5
    try clear c6
    try clear c8
    try clear c9
    try clear c11
    try clear c15
    try clear c17
    try clear c18
    try clear c18b0
    try clear c19
    try clear c20
    try clear c23
    try clear p24
    try clear q24
    try clear hx24
    try clear c27
    try clear c28
    try clear c31
    try clear c34
    try clear c35
    try clear c37
    try clear c38
    try clear c41
    try clear c42
    try clear c45
    try clear c46
    try clear c47
    try clear c50
    try clear c51
    try clear c54
    try clear c55
    try clear c56
    try clear c58
    try clear c58b0
    try clear c59
    try clear c59b0
    try clear c60
    try clear c60b0
    try clear c61
    try clear c62
    try clear c63
    try clear c65
    try clear c66
    try clear hcz10_0
    try clear hcz12_0
    try clear hcz12_1
    try clear hcz12_2
    try clear hcz12_3
    try clear hcz21_0
    try clear hcz24_0
    try clear hcz24_1
    try clear hcz24_2
    try clear hcz24_3
    try clear hcz26_0
    try clear hcz26_1
    try clear hcz26_2
    try clear hcz26_3
    try clear hcz29_0
    try clear hcz32_0
    try clear hcz32_1
    try clear hcz32_2
    try clear hcz32_3
    try clear hcz36_0
    try clear hcz39_0
    try clear hcz39_1
    try clear hcz39_2
    try clear hcz39_3
    try clear hcz43_0
    try clear hcz48_0
    try clear hcz52_0
    try clear hcz52_1
    try clear hcz52_2
    try clear hcz52_3
    try clear hcz57_0
    try clear hcz57_1
    try clear hcz57_2
    try clear hcz64_0
    try clear hcz67_0
    try clear hcz67_1
    try clear hcz67_2
    try clear hfz10_0
    try clear hfz12_0
    try clear hfz12_1
    try clear hfz12_2
    try clear hfz12_3
    try clear hfz21_0
    try clear hfz24_0
    try clear hfz24_1
    try clear hfz24_2
    try clear hfz24_3
    try clear hfz26_0
    try clear hfz26_1
    try clear hfz26_2
    try clear hfz26_3
    try clear hfz29_0
    try clear hfz32_0
    try clear hfz32_1
    try clear hfz32_2
    try clear hfz32_3
    try clear hfz36_0
    try clear hfz39_0
    try clear hfz39_1
    try clear hfz39_2
    try clear hfz39_3
    try clear hfz43_0
    try clear hfz48_0
    try clear hfz52_0
    try clear hfz52_1
    try clear hfz52_2
    try clear hfz52_3
    try clear hfz57_0
    try clear hfz57_1
    try clear hfz57_2
    try clear hfz64_0
    try clear hfz67_0
    try clear hfz67_1
    try clear hfz67_2
    try clear hx243_0
    try clear hx243_1
    try clear hx243_2
    try clear p2
    try clear p243
    try clear q243
    obtain ⟨kq, x243000_48, x243001_48, x243002_48, HA, HJ48, BK236, BK237, BK238, BK242, HB⟩ := hcut
    cases kq with
    | zero => exact absurd HA.out (by simp [impl_DoAct.j1])
    | succ kj48 =>
     have H := HA.out
     clear HA
     simp only [impl_DoAct.j1] at H
     by_cases c68 : a1_0 = 1
     ·
      rw [if_pos c68] at H
      have c68b0 : (a1_0 == 1) = true := beq_iff_eq.mpr c68
      have c68b1 : (a1_0 != 1) = false := bne_eq_false_iff_eq.mpr c68
      clear c68
      by_cases c69 : x243001_48.size + a1_2.size ≤ 9223372036854775807; rotate_left
      ·
       rw [if_neg c69] at H
       exact absurd H (by simp)
      rw [if_pos c69] at H
      have c69b0 := eq_true c69
      have c69b1 : decide (x243001_48.size + a1_2.size ≤ 9223372036854775807) = true := decide_eq_true c69
      try have c69b2 : (9223372036854775807 < x243001_48.size + a1_2.size) = False := eq_false (Nat.not_lt.2 c69)
      replace H := Option.bind_eq_some_iff.mp H
      obtain ⟨t245, A700, H⟩ := H
      replace H : ((impl_DiskOk.f kj48 t245).bind fun t248 => (if t248 = true then (some (t245, true)) else (some (([] : List (S45)), false)))) = some (r1, r2) := H
      have A70 := Aside0.mk A700
      clear A700
      replace H := Option.bind_eq_some_iff.mp H
      obtain ⟨t248, A710, H⟩ := H
      replace H : (if t248 = true then (some (t245, true)) else (some (([] : List (S45)), false))) = some (r1, r2) := H
      have A71 := Aside0.mk A710
      clear A710
      by_cases c72 : t248 = true
      ·
       subst c72
       have H1 : (some (t245, true)) = some (r1, r2) := by rw [if_pos rfl] at H; exact H
       clear H
       have H := H1
       clear H1
       simp only [Option.some.injEq, Prod.mk.injEq] at H
       obtain ⟨rfl, rfl⟩ := H
       go_wp2_with (first | ((with_reducible refine gate_dst (N := 8) rfl ?_); refine bE 8 #[.slice none 0 0] 29 ?_; intro gb244 hg w73 hbox hb; have BK244 := Aside0.mk (hbox); have GW244 : Aside0 (w.heap.size ≤ gb244) := GS; have GE244 : Aside0 (w.heap.size ≤ gb244) := GS; have NB236_244 := NL BK236.out hg; have NB244_236 := NG BK236.out hg; have NB237_244 := NL BK237.out hg; have NB244_237 := NG BK237.out hg; have NB238_244 := NL BK238.out hg; have NB244_238 := NG BK238.out hg; have NB242_244 := NL BK242.out hg; have NB244_242 := NG BK242.out hg; replace BK236 := BB BK236.out hb; replace BK237 := BB BK237.out hb; replace BK238 := BB BK238.out hb; replace BK242 := BB BK242.out hb; replace HB := Aside0.mk (below_step (BL) hb); clear hb hbox hg; have hnb74 := NB244_236.out; have hnc74 := NB236_244.out; have hnb75 := NB244_237.out; have hnc75 := NB237_244.out; have hnb76 := NB244_238.out; have hnc76 := NB238_244.out; have hnb77 := NB244_242.out; have hnc77 := NB242_244.out; have hcz78_0 : w73.cell? ⟨gb244, 0, none⟩ = some (.slice none 0 0) := CZ BK244.out 0; have hfz78_0 := blk_frozen BK244.out 0; have hnb79 := NB237_236.out; have hnc79 := NB236_237.out; have hnb80 := NB237_238.out; have hnc80 := NB238_237.out; have hnb81 := NB237_242.out; have hnc81 := NB242_237.out; have hcz82_0 : w73.cell? ⟨gb237, 0, none⟩ = some (.int .i64 a1_0) := CZ BK237.out 0; have hcz82_1 : w73.cell? ⟨gb237, 1, none⟩ = some (.string a1_1) := CZ BK237.out 1; have hcz82_2 : w73.cell? ⟨gb237, 2, none⟩ = some (.string a1_2) := CZ BK237.out 2; have hcz82_3 : w73.cell? ⟨gb237, 3, none⟩ = some (.string a1_3) := CZ BK237.out 3; have hfz82_0 := blk_frozen BK237.out 0; have hfz82_1 := blk_frozen BK237.out 1; have hfz82_2 := blk_frozen BK237.out 2; have hfz82_3 := blk_frozen BK237.out 3; have hnb83 := NB242_236.out; have hnc83 := NB236_242.out; have hnb84 := NB242_238.out; have hnc84 := NB238_242.out; have hcz85_0 : w73.cell? ⟨gb242, 0, none⟩ = some (.string x243000_48) := CZ BK242.out 0; have hcz85_1 : w73.cell? ⟨gb242, 1, none⟩ = some (.string x243001_48) := CZ BK242.out 1; have hcz85_2 : w73.cell? ⟨gb242, 2, none⟩ = some (.int .i64 x243002_48) := CZ BK242.out 2; have hfz85_0 := blk_frozen BK242.out 0; have hfz85_1 := blk_frozen BK242.out 1; have hfz85_2 := blk_frozen BK242.out 2; have hnb86 := NB236_238.out; have hnc86 := NB238_236.out; have hcz87_0 : w73.cell? ⟨gb236, 0, none⟩ = some (.slice A0_0 l0_0.length c0_0) := CZ BK236.out 0; have hfz87_0 := blk_frozen BK236.out 0) | ((with_reducible refine gate_callee (f := 66) rfl ?_); refine goesL_ (some 58) rfl rfl Try.func66 (by kernel_rfl) rfl #[.agg #[.slice A0_0 l0_0.length c0_0], .agg #[.string x243000_48, .string (x243001_48 ++ a1_2), .int .i64 x243002_48]] rfl (MA) ?_; (with_reducible refine (impl_withFile.calls _ _ l0_0 x243000_48 (x243001_48 ++ a1_2) x243002_48 t245 _ ?side1 ?side2 A70.out).mono ?_); (case side1 => exact Kd.C_below HR0_0.out (BL)); (case side2 => exact HC0_0.out); rintro e w88 ⟨v246, rfl, ho0, hb⟩; refine ⟨_, rfl, ?_⟩; have HO247 := Aside0.mk (Kd.R_lower (Kd.R_newB ho0 (g := gb242) (o := .cells #[.string x243000_48, .string (x243001_48 ++ a1_2), .int .i64 x243002_48] 45 (0, 0)) (by (with_reducible repeat (first | apply b1 | apply b2 | apply b3)); refine blk_put (cs := #[.string x243000_48, .string x243001_48, .int .i64 x243002_48]) ?_ 1 _ rfl; (with_reducible repeat (first | apply b1 | apply b2 | apply b3)); refine blk_far ?_ NB242_244.out _; (with_reducible repeat (first | apply b1 | apply b2 | apply b3)); exact BK242.out)) (below_size (BL))); replace BK236 := Aside0.mk (blk_below (g := gb236) (o := .cells #[.slice A0_0 l0_0.length c0_0] 29 (0, 0)) (by (with_reducible repeat (first | apply b1 | apply b2 | apply b3)); refine blk_far ?_ NB236_242.out _; (with_reducible repeat (first | apply b1 | apply b2 | apply b3)); refine blk_far ?_ NB236_244.out _; (with_reducible repeat (first | apply b1 | apply b2 | apply b3)); exact BK236.out) hb); replace BK237 := Aside0.mk (blk_below (g := gb237) (o := .cells #[.int .i64 a1_0, .string a1_1, .string a1_2, .string a1_3] 55 (0, 0)) (by (with_reducible repeat (first | apply b1 | apply b2 | apply b3)); refine blk_far ?_ NB237_242.out _; (with_reducible repeat (first | apply b1 | apply b2 | apply b3)); refine blk_far ?_ NB237_244.out _; (with_reducible repeat (first | apply b1 | apply b2 | apply b3)); exact BK237.out) hb); replace BK238 := Aside0.mk (blk_below (g := gb238) (o := .cells #[.slice none 0 0] 29 (0, 0)) (by (with_reducible repeat (first | apply b1 | apply b2 | apply b3)); refine blk_far ?_ NB238_242.out _; (with_reducible repeat (first | apply b1 | apply b2 | apply b3)); refine blk_far ?_ NB238_244.out _; (with_reducible repeat (first | apply b1 | apply b2 | apply b3)); exact BK238.out) hb); replace BK242 := Aside0.mk (blk_below (g := gb242) (o := .cells #[.string x243000_48, .string (x243001_48 ++ a1_2), .int .i64 x243002_48] 45 (0, 0)) (by (with_reducible repeat (first | apply b1 | apply b2 | apply b3)); refine blk_put (cs := #[.string x243000_48, .string x243001_48, .int .i64 x243002_48]) ?_ 1 _ rfl; (with_reducible repeat (first | apply b1 | apply b2 | apply b3)); refine blk_far ?_ NB242_244.out _; (with_reducible repeat (first | apply b1 | apply b2 | apply b3)); exact BK242.out) hb); replace BK244 := Aside0.mk (blk_below (g := gb244) (o := .cells #[.slice none 0 0] 29 (0, 0)) (by (with_reducible repeat (first | apply b1 | apply b2 | apply b3)); refine blk_far ?_ NB244_242.out _; (with_reducible repeat (first | apply b1 | apply b2 | apply b3)); refine blk_put (cs := #[.slice none 0 0]) ?_ 0 _ rfl; (with_reducible repeat (first | apply b1 | apply b2 | apply b3)); exact BK244.out) hb); replace HB := Aside0.mk (below_step (BL) hb); (try clear hb); (try clear hb2); (try clear hk); (try clear hi); (try clear ho0); obtain ⟨Ao89, co89, eo89⟩ := Kd.R_slice HO247.out; subst eo89; have hcz90_0 : w88.cell? ⟨gb244, 0, none⟩ = some (.slice none 0 0) := CZ BK244.out 0; have hfz90_0 := blk_frozen BK244.out 0) | ((with_reducible refine gate_callee (f := 15) rfl ?_); refine goesL_ (some 94) rfl rfl Try.func15 (by kernel_rfl) rfl #[.agg #[.slice Ao89 t245.length co89]] rfl (MA) ?_; (with_reducible refine (impl_DiskOk.calls kj48 _ _ t245 true _ ?side1 ?side2 A71.out).mono ?_); (case side1 => refine (Kd.R_reads' (e := 45) (base := w.heap.size) (ok := fun k_ => (True ∧ k_ ≠ gb242)) (n := t245.length) (c := co89) ?_).2.2; exact (by (with_reducible repeat (first | apply r1 | apply r2 | apply r3)); exact (Kd.R_mono (Kd.R_far (p := ⟨gb244, 0, none⟩) (Kd.R_types HO247.out BK244.out (by decide)) (fun _ hk => hk.2) (.slice Ao89 t245.length co89)) (fun _ h_ => h_.1)))); (case side2 => exact (Kd.R_reads' HO247.out).2.1); rintro e w91 ⟨rfl, hb⟩; refine ⟨_, rfl, ?_⟩; replace HO247 := Aside0.mk (Kd.R_below (by (with_reducible repeat (first | apply r1 | apply r2 | apply r3)); exact (Kd.R_mono (Kd.R_far (p := ⟨gb244, 0, none⟩) (Kd.R_types HO247.out BK244.out (by decide)) (fun _ hk => hk.2) (.slice Ao89 t245.length co89)) (fun _ h_ => h_.1))) hb); replace BK236 := Aside0.mk (blk_below (g := gb236) (o := .cells #[.slice A0_0 l0_0.length c0_0] 29 (0, 0)) (by (with_reducible repeat (first | apply b1 | apply b2 | apply b3)); refine blk_far ?_ NB236_244.out _; (with_reducible repeat (first | apply b1 | apply b2 | apply b3)); exact BK236.out) hb); replace BK237 := Aside0.mk (blk_below (g := gb237) (o := .cells #[.int .i64 a1_0, .string a1_1, .string a1_2, .string a1_3] 55 (0, 0)) (by (with_reducible repeat (first | apply b1 | apply b2 | apply b3)); refine blk_far ?_ NB237_244.out _; (with_reducible repeat (first | apply b1 | apply b2 | apply b3)); exact BK237.out) hb); replace BK238 := Aside0.mk (blk_below (g := gb238) (o := .cells #[.slice none 0 0] 29 (0, 0)) (by (with_reducible repeat (first | apply b1 | apply b2 | apply b3)); refine blk_far ?_ NB238_244.out _; (with_reducible repeat (first | apply b1 | apply b2 | apply b3)); exact BK238.out) hb); replace BK242 := Aside0.mk (blk_below (g := gb242) (o := .cells #[.string x243000_48, .string (x243001_48 ++ a1_2), .int .i64 x243002_48] 45 (0, 0)) (by (with_reducible repeat (first | apply b1 | apply b2 | apply b3)); refine blk_far ?_ NB242_244.out _; (with_reducible repeat (first | apply b1 | apply b2 | apply b3)); exact BK242.out) hb); replace BK244 := Aside0.mk (blk_below (g := gb244) (o := .cells #[.slice Ao89 t245.length co89] 29 (0, 0)) (by (with_reducible repeat (first | apply b1 | apply b2 | apply b3)); refine blk_put (cs := #[.slice none 0 0]) ?_ 0 _ rfl; (with_reducible repeat (first | apply b1 | apply b2 | apply b3)); exact BK244.out) hb); replace HB := Aside0.mk (below_step (BL) hb); (try clear hb); (try clear hb2); (try clear hk); (try clear hi); have hcz92_0 : w91.cell? ⟨gb244, 0, none⟩ = some (.slice Ao89 t245.length co89) := CZ BK244.out 0; have hfz92_0 := blk_frozen BK244.out 0; have hcz93_0 : w91.cell? ⟨gb238, 0, none⟩ = some (.slice none 0 0) := CZ BK238.out 0; have hfz93_0 := blk_frozen BK238.out 0))
       refine bodyPost_ret (results_ct rfl _ _ gb238 29 #[.slice Ao89 t245.length co89] (0, 0) _ rfl (by (with_reducible repeat (first | apply b1 | apply b2 | apply b3)); refine blk_put (cs := #[.slice none 0 0]) ?_ 0 _ rfl; (with_reducible repeat (first | apply b1 | apply b2 | apply b3)); exact BK238.out) Try.underlying29 rfl (by kernel_rfl)) rfl ?_
       exact ⟨_, EE, by (with_reducible repeat (first | apply r1 | apply r2 | apply r3)); exact Kd.R_mono (Kd.R_far (p := ⟨gb238, 0, none⟩) (Kd.R_types HO247.out BK238.out (by decide)) (fun _ hk => hk.2) (.slice Ao89 t245.length co89)) (fun _ hk => trivial), BL⟩
      replace c72 := Bool.eq_false_iff.mpr c72
      subst c72
      have H1 : (some (([] : List (S45)), false)) = some (r1, r2) := by rw [if_neg (show ¬ (false = true) by decide)] at H; exact H
      clear H
      have H := H1
      clear H1
      simp only [Option.some.injEq, Prod.mk.injEq] at H
      obtain ⟨rfl, rfl⟩ := H
      go_wp2_with (first | ((with_reducible refine gate_dst (N := 8) rfl ?_); refine bE 8 #[.slice none 0 0] 29 ?_; intro gb244 hg w94 hbox hb; have BK244 := Aside0.mk (hbox); have GW244 : Aside0 (w.heap.size ≤ gb244) := GS; have GE244 : Aside0 (w.heap.size ≤ gb244) := GS; have NB236_244 := NL BK236.out hg; have NB244_236 := NG BK236.out hg; have NB237_244 := NL BK237.out hg; have NB244_237 := NG BK237.out hg; have NB238_244 := NL BK238.out hg; have NB244_238 := NG BK238.out hg; have NB242_244 := NL BK242.out hg; have NB244_242 := NG BK242.out hg; replace BK236 := BB BK236.out hb; replace BK237 := BB BK237.out hb; replace BK238 := BB BK238.out hb; replace BK242 := BB BK242.out hb; replace HB := Aside0.mk (below_step (BL) hb); clear hb hbox hg; have hnb95 := NB244_236.out; have hnc95 := NB236_244.out; have hnb96 := NB244_237.out; have hnc96 := NB237_244.out; have hnb97 := NB244_238.out; have hnc97 := NB238_244.out; have hnb98 := NB244_242.out; have hnc98 := NB242_244.out; have hcz99_0 : w94.cell? ⟨gb244, 0, none⟩ = some (.slice none 0 0) := CZ BK244.out 0; have hfz99_0 := blk_frozen BK244.out 0; have hnb100 := NB237_236.out; have hnc100 := NB236_237.out; have hnb101 := NB237_238.out; have hnc101 := NB238_237.out; have hnb102 := NB237_242.out; have hnc102 := NB242_237.out; have hcz103_0 : w94.cell? ⟨gb237, 0, none⟩ = some (.int .i64 a1_0) := CZ BK237.out 0; have hcz103_1 : w94.cell? ⟨gb237, 1, none⟩ = some (.string a1_1) := CZ BK237.out 1; have hcz103_2 : w94.cell? ⟨gb237, 2, none⟩ = some (.string a1_2) := CZ BK237.out 2; have hcz103_3 : w94.cell? ⟨gb237, 3, none⟩ = some (.string a1_3) := CZ BK237.out 3; have hfz103_0 := blk_frozen BK237.out 0; have hfz103_1 := blk_frozen BK237.out 1; have hfz103_2 := blk_frozen BK237.out 2; have hfz103_3 := blk_frozen BK237.out 3; have hnb104 := NB242_236.out; have hnc104 := NB236_242.out; have hnb105 := NB242_238.out; have hnc105 := NB238_242.out; have hcz106_0 : w94.cell? ⟨gb242, 0, none⟩ = some (.string x243000_48) := CZ BK242.out 0; have hcz106_1 : w94.cell? ⟨gb242, 1, none⟩ = some (.string x243001_48) := CZ BK242.out 1; have hcz106_2 : w94.cell? ⟨gb242, 2, none⟩ = some (.int .i64 x243002_48) := CZ BK242.out 2; have hfz106_0 := blk_frozen BK242.out 0; have hfz106_1 := blk_frozen BK242.out 1; have hfz106_2 := blk_frozen BK242.out 2; have hnb107 := NB236_238.out; have hnc107 := NB238_236.out; have hcz108_0 : w94.cell? ⟨gb236, 0, none⟩ = some (.slice A0_0 l0_0.length c0_0) := CZ BK236.out 0; have hfz108_0 := blk_frozen BK236.out 0) | ((with_reducible refine gate_callee (f := 66) rfl ?_); refine goesL_ (some 58) rfl rfl Try.func66 (by kernel_rfl) rfl #[.agg #[.slice A0_0 l0_0.length c0_0], .agg #[.string x243000_48, .string (x243001_48 ++ a1_2), .int .i64 x243002_48]] rfl (MA) ?_; (with_reducible refine (impl_withFile.calls _ _ l0_0 x243000_48 (x243001_48 ++ a1_2) x243002_48 t245 _ ?side1 ?side2 A70.out).mono ?_); (case side1 => exact Kd.C_below HR0_0.out (BL)); (case side2 => exact HC0_0.out); rintro e w109 ⟨v246, rfl, ho0, hb⟩; refine ⟨_, rfl, ?_⟩; have HO247 := Aside0.mk (Kd.R_lower (Kd.R_newB ho0 (g := gb242) (o := .cells #[.string x243000_48, .string (x243001_48 ++ a1_2), .int .i64 x243002_48] 45 (0, 0)) (by (with_reducible repeat (first | apply b1 | apply b2 | apply b3)); refine blk_put (cs := #[.string x243000_48, .string x243001_48, .int .i64 x243002_48]) ?_ 1 _ rfl; (with_reducible repeat (first | apply b1 | apply b2 | apply b3)); refine blk_far ?_ NB242_244.out _; (with_reducible repeat (first | apply b1 | apply b2 | apply b3)); exact BK242.out)) (below_size (BL))); replace BK236 := Aside0.mk (blk_below (g := gb236) (o := .cells #[.slice A0_0 l0_0.length c0_0] 29 (0, 0)) (by (with_reducible repeat (first | apply b1 | apply b2 | apply b3)); refine blk_far ?_ NB236_242.out _; (with_reducible repeat (first | apply b1 | apply b2 | apply b3)); refine blk_far ?_ NB236_244.out _; (with_reducible repeat (first | apply b1 | apply b2 | apply b3)); exact BK236.out) hb); replace BK237 := Aside0.mk (blk_below (g := gb237) (o := .cells #[.int .i64 a1_0, .string a1_1, .string a1_2, .string a1_3] 55 (0, 0)) (by (with_reducible repeat (first | apply b1 | apply b2 | apply b3)); refine blk_far ?_ NB237_242.out _; (with_reducible repeat (first | apply b1 | apply b2 | apply b3)); refine blk_far ?_ NB237_244.out _; (with_reducible repeat (first | apply b1 | apply b2 | apply b3)); exact BK237.out) hb); replace BK238 := Aside0.mk (blk_below (g := gb238) (o := .cells #[.slice none 0 0] 29 (0, 0)) (by (with_reducible repeat (first | apply b1 | apply b2 | apply b3)); refine blk_far ?_ NB238_242.out _; (with_reducible repeat (first | apply b1 | apply b2 | apply b3)); refine blk_far ?_ NB238_244.out _; (with_reducible repeat (first | apply b1 | apply b2 | apply b3)); exact BK238.out) hb); replace BK242 := Aside0.mk (blk_below (g := gb242) (o := .cells #[.string x243000_48, .string (x243001_48 ++ a1_2), .int .i64 x243002_48] 45 (0, 0)) (by (with_reducible repeat (first | apply b1 | apply b2 | apply b3)); refine blk_put (cs := #[.string x243000_48, .string x243001_48, .int .i64 x243002_48]) ?_ 1 _ rfl; (with_reducible repeat (first | apply b1 | apply b2 | apply b3)); refine blk_far ?_ NB242_244.out _; (with_reducible repeat (first | apply b1 | apply b2 | apply b3)); exact BK242.out) hb); replace BK244 := Aside0.mk (blk_below (g := gb244) (o := .cells #[.slice none 0 0] 29 (0, 0)) (by (with_reducible repeat (first | apply b1 | apply b2 | apply b3)); refine blk_far ?_ NB244_242.out _; (with_reducible repeat (first | apply b1 | apply b2 | apply b3)); refine blk_put (cs := #[.slice none 0 0]) ?_ 0 _ rfl; (with_reducible repeat (first | apply b1 | apply b2 | apply b3)); exact BK244.out) hb); replace HB := Aside0.mk (below_step (BL) hb); (try clear hb); (try clear hb2); (try clear hk); (try clear hi); (try clear ho0); obtain ⟨Ao110, co110, eo110⟩ := Kd.R_slice HO247.out; subst eo110; have hcz111_0 : w109.cell? ⟨gb244, 0, none⟩ = some (.slice none 0 0) := CZ BK244.out 0; have hfz111_0 := blk_frozen BK244.out 0) | ((with_reducible refine gate_callee (f := 15) rfl ?_); refine goesL_ (some 94) rfl rfl Try.func15 (by kernel_rfl) rfl #[.agg #[.slice Ao110 t245.length co110]] rfl (MA) ?_; (with_reducible refine (impl_DiskOk.calls kj48 _ _ t245 false _ ?side1 ?side2 A71.out).mono ?_); (case side1 => refine (Kd.R_reads' (e := 45) (base := w.heap.size) (ok := fun k_ => (True ∧ k_ ≠ gb242)) (n := t245.length) (c := co110) ?_).2.2; exact (by (with_reducible repeat (first | apply r1 | apply r2 | apply r3)); exact (Kd.R_mono (Kd.R_far (p := ⟨gb244, 0, none⟩) (Kd.R_types HO247.out BK244.out (by decide)) (fun _ hk => hk.2) (.slice Ao110 t245.length co110)) (fun _ h_ => h_.1)))); (case side2 => exact (Kd.R_reads' HO247.out).2.1); rintro e w112 ⟨rfl, hb⟩; refine ⟨_, rfl, ?_⟩; replace HO247 := Aside0.mk (Kd.R_below (by (with_reducible repeat (first | apply r1 | apply r2 | apply r3)); exact (Kd.R_mono (Kd.R_far (p := ⟨gb244, 0, none⟩) (Kd.R_types HO247.out BK244.out (by decide)) (fun _ hk => hk.2) (.slice Ao110 t245.length co110)) (fun _ h_ => h_.1))) hb); replace BK236 := Aside0.mk (blk_below (g := gb236) (o := .cells #[.slice A0_0 l0_0.length c0_0] 29 (0, 0)) (by (with_reducible repeat (first | apply b1 | apply b2 | apply b3)); refine blk_far ?_ NB236_244.out _; (with_reducible repeat (first | apply b1 | apply b2 | apply b3)); exact BK236.out) hb); replace BK237 := Aside0.mk (blk_below (g := gb237) (o := .cells #[.int .i64 a1_0, .string a1_1, .string a1_2, .string a1_3] 55 (0, 0)) (by (with_reducible repeat (first | apply b1 | apply b2 | apply b3)); refine blk_far ?_ NB237_244.out _; (with_reducible repeat (first | apply b1 | apply b2 | apply b3)); exact BK237.out) hb); replace BK238 := Aside0.mk (blk_below (g := gb238) (o := .cells #[.slice none 0 0] 29 (0, 0)) (by (with_reducible repeat (first | apply b1 | apply b2 | apply b3)); refine blk_far ?_ NB238_244.out _; (with_reducible repeat (first | apply b1 | apply b2 | apply b3)); exact BK238.out) hb); replace BK242 := Aside0.mk (blk_below (g := gb242) (o := .cells #[.string x243000_48, .string (x243001_48 ++ a1_2), .int .i64 x243002_48] 45 (0, 0)) (by (with_reducible repeat (first | apply b1 | apply b2 | apply b3)); refine blk_far ?_ NB242_244.out _; (with_reducible repeat (first | apply b1 | apply b2 | apply b3)); exact BK242.out) hb); replace BK244 := Aside0.mk (blk_below (g := gb244) (o := .cells #[.slice Ao110 t245.length co110] 29 (0, 0)) (by (with_reducible repeat (first | apply b1 | apply b2 | apply b3)); refine blk_put (cs := #[.slice none 0 0]) ?_ 0 _ rfl; (with_reducible repeat (first | apply b1 | apply b2 | apply b3)); exact BK244.out) hb); replace HB := Aside0.mk (below_step (BL) hb); (try clear hb); (try clear hb2); (try clear hk); (try clear hi); have hcz113_0 : w112.cell? ⟨gb238, 0, none⟩ = some (.slice none 0 0) := CZ BK238.out 0; have hfz113_0 := blk_frozen BK238.out 0))
      refine bodyPost_ret (results_ct rfl _ _ gb238 29 #[.slice none 0 0] (0, 0) _ rfl (by (with_reducible repeat (first | apply b1 | apply b2 | apply b3)); refine blk_put (cs := #[.slice none 0 0]) ?_ 0 _ rfl; (with_reducible repeat (first | apply b1 | apply b2 | apply b3)); exact BK238.out) Try.underlying29 rfl (by kernel_rfl)) rfl ?_
      exact ⟨_, EE, by first | exact Kd.R_nil _ _ _ _ _ | exact Kd.N_nil _ _ _ _ _ | exact Kd.V_nil _ _ _ _ _ | exact Kd.Q_nil _ _ _ _ _ | exact Kd.S_nil _ _ _ _ _, BL⟩
     rw [if_neg c68] at H
     have c68b0 : (a1_0 == 1) = false := beq_eq_false_iff_ne.mpr c68
     have c68b1 : (a1_0 != 1) = true := bne_iff_ne.mpr c68
     by_cases c114 : a1_0 = 2
     ·
      rw [if_pos c114] at H
      have c114b0 : (a1_0 == 2) = true := beq_iff_eq.mpr c114
      have c114b1 : (a1_0 != 2) = false := bne_eq_false_iff_eq.mpr c114
      clear c114
      replace H := Option.bind_eq_some_iff.mp H
      obtain ⟨t249, A1150, H⟩ := H
      replace H : ((impl_DiskOk.f kj48 t249).bind fun t252 => (if t252 = true then (some (t249, true)) else (some (([] : List (S45)), false)))) = some (r1, r2) := H
      have A115 := Aside0.mk A1150
      clear A1150
      replace H := Option.bind_eq_some_iff.mp H
      obtain ⟨t252, A1160, H⟩ := H
      replace H : (if t252 = true then (some (t249, true)) else (some (([] : List (S45)), false))) = some (r1, r2) := H
      have A116 := Aside0.mk A1160
      clear A1160
      by_cases c117 : t252 = true
      ·
       subst c117
       have H1 : (some (t249, true)) = some (r1, r2) := by rw [if_pos rfl] at H; exact H
       clear H
       have H := H1
       clear H1
       simp only [Option.some.injEq, Prod.mk.injEq] at H
       obtain ⟨rfl, rfl⟩ := H
       go_wp2_with (first | ((with_reducible refine gate_dst (N := 8) rfl ?_); refine bE 8 #[.slice none 0 0] 29 ?_; intro gb244 hg w118 hbox hb; have BK244 := Aside0.mk (hbox); have GW244 : Aside0 (w.heap.size ≤ gb244) := GS; have GE244 : Aside0 (w.heap.size ≤ gb244) := GS; have NB236_244 := NL BK236.out hg; have NB244_236 := NG BK236.out hg; have NB237_244 := NL BK237.out hg; have NB244_237 := NG BK237.out hg; have NB238_244 := NL BK238.out hg; have NB244_238 := NG BK238.out hg; have NB242_244 := NL BK242.out hg; have NB244_242 := NG BK242.out hg; replace BK236 := BB BK236.out hb; replace BK237 := BB BK237.out hb; replace BK238 := BB BK238.out hb; replace BK242 := BB BK242.out hb; replace HB := Aside0.mk (below_step (BL) hb); clear hb hbox hg; have hnb119 := NB244_236.out; have hnc119 := NB236_244.out; have hnb120 := NB244_237.out; have hnc120 := NB237_244.out; have hnb121 := NB244_238.out; have hnc121 := NB238_244.out; have hnb122 := NB244_242.out; have hnc122 := NB242_244.out; have hcz123_0 : w118.cell? ⟨gb244, 0, none⟩ = some (.slice none 0 0) := CZ BK244.out 0; have hfz123_0 := blk_frozen BK244.out 0; have hnb124 := NB237_236.out; have hnc124 := NB236_237.out; have hnb125 := NB237_238.out; have hnc125 := NB238_237.out; have hnb126 := NB237_242.out; have hnc126 := NB242_237.out; have hcz127_0 : w118.cell? ⟨gb237, 0, none⟩ = some (.int .i64 a1_0) := CZ BK237.out 0; have hcz127_1 : w118.cell? ⟨gb237, 1, none⟩ = some (.string a1_1) := CZ BK237.out 1; have hcz127_2 : w118.cell? ⟨gb237, 2, none⟩ = some (.string a1_2) := CZ BK237.out 2; have hcz127_3 : w118.cell? ⟨gb237, 3, none⟩ = some (.string a1_3) := CZ BK237.out 3; have hfz127_0 := blk_frozen BK237.out 0; have hfz127_1 := blk_frozen BK237.out 1; have hfz127_2 := blk_frozen BK237.out 2; have hfz127_3 := blk_frozen BK237.out 3; have hnb128 := NB242_236.out; have hnc128 := NB236_242.out; have hnb129 := NB242_238.out; have hnc129 := NB238_242.out; have hcz130_0 : w118.cell? ⟨gb242, 0, none⟩ = some (.string x243000_48) := CZ BK242.out 0; have hcz130_1 : w118.cell? ⟨gb242, 1, none⟩ = some (.string x243001_48) := CZ BK242.out 1; have hcz130_2 : w118.cell? ⟨gb242, 2, none⟩ = some (.int .i64 x243002_48) := CZ BK242.out 2; have hfz130_0 := blk_frozen BK242.out 0; have hfz130_1 := blk_frozen BK242.out 1; have hfz130_2 := blk_frozen BK242.out 2; have hnb131 := NB236_238.out; have hnc131 := NB238_236.out; have hcz132_0 : w118.cell? ⟨gb236, 0, none⟩ = some (.slice A0_0 l0_0.length c0_0) := CZ BK236.out 0; have hfz132_0 := blk_frozen BK236.out 0) | ((with_reducible refine gate_callee (f := 66) rfl ?_); refine goesL_ (some 67) rfl rfl Try.func66 (by kernel_rfl) rfl #[.agg #[.slice A0_0 l0_0.length c0_0], .agg #[.string x243000_48, .string x243001_48, .int .i64 (x243001_48.size : Int)]] rfl (MA) ?_; (with_reducible refine (impl_withFile.calls _ _ l0_0 x243000_48 x243001_48 (x243001_48.size : Int) t249 _ ?side1 ?side2 A115.out).mono ?_); (case side1 => exact Kd.C_below HR0_0.out (BL)); (case side2 => exact HC0_0.out); rintro e w133 ⟨v250, rfl, ho0, hb⟩; refine ⟨_, rfl, ?_⟩; have HO251 := Aside0.mk (Kd.R_lower (Kd.R_newB ho0 (g := gb242) (o := .cells #[.string x243000_48, .string x243001_48, .int .i64 (x243001_48.size : Int)] 45 (0, 0)) (by (with_reducible repeat (first | apply b1 | apply b2 | apply b3)); refine blk_put (cs := #[.string x243000_48, .string x243001_48, .int .i64 x243002_48]) ?_ 2 _ rfl; (with_reducible repeat (first | apply b1 | apply b2 | apply b3)); refine blk_far ?_ NB242_244.out _; (with_reducible repeat (first | apply b1 | apply b2 | apply b3)); exact BK242.out)) (below_size (BL))); replace BK236 := Aside0.mk (blk_below (g := gb236) (o := .cells #[.slice A0_0 l0_0.length c0_0] 29 (0, 0)) (by (with_reducible repeat (first | apply b1 | apply b2 | apply b3)); refine blk_far ?_ NB236_242.out _; (with_reducible repeat (first | apply b1 | apply b2 | apply b3)); refine blk_far ?_ NB236_244.out _; (with_reducible repeat (first | apply b1 | apply b2 | apply b3)); exact BK236.out) hb); replace BK237 := Aside0.mk (blk_below (g := gb237) (o := .cells #[.int .i64 a1_0, .string a1_1, .string a1_2, .string a1_3] 55 (0, 0)) (by (with_reducible repeat (first | apply b1 | apply b2 | apply b3)); refine blk_far ?_ NB237_242.out _; (with_reducible repeat (first | apply b1 | apply b2 | apply b3)); refine blk_far ?_ NB237_244.out _; (with_reducible repeat (first | apply b1 | apply b2 | apply b3)); exact BK237.out) hb); replace BK238 := Aside0.mk (blk_below (g := gb238) (o := .cells #[.slice none 0 0] 29 (0, 0)) (by (with_reducible repeat (first | apply b1 | apply b2 | apply b3)); refine blk_far ?_ NB238_242.out _; (with_reducible repeat (first | apply b1 | apply b2 | apply b3)); refine blk_far ?_ NB238_244.out _; (with_reducible repeat (first | apply b1 | apply b2 | apply b3)); exact BK238.out) hb); replace BK242 := Aside0.mk (blk_below (g := gb242) (o := .cells #[.string x243000_48, .string x243001_48, .int .i64 (x243001_48.size : Int)] 45 (0, 0)) (by (with_reducible repeat (first | apply b1 | apply b2 | apply b3)); refine blk_put (cs := #[.string x243000_48, .string x243001_48, .int .i64 x243002_48]) ?_ 2 _ rfl; (with_reducible repeat (first | apply b1 | apply b2 | apply b3)); refine blk_far ?_ NB242_244.out _; (with_reducible repeat (first | apply b1 | apply b2 | apply b3)); exact BK242.out) hb); replace BK244 := Aside0.mk (blk_below (g := gb244) (o := .cells #[.slice none 0 0] 29 (0, 0)) (by (with_reducible repeat (first | apply b1 | apply b2 | apply b3)); refine blk_far ?_ NB244_242.out _; (with_reducible repeat (first | apply b1 | apply b2 | apply b3)); refine blk_put (cs := #[.slice none 0 0]) ?_ 0 _ rfl; (with_reducible repeat (first | apply b1 | apply b2 | apply b3)); exact BK244.out) hb); replace HB := Aside0.mk (below_step (BL) hb); (try clear hb); (try clear hb2); (try clear hk); (try clear hi); (try clear ho0); obtain ⟨Ao134, co134, eo134⟩ := Kd.R_slice HO251.out; subst eo134; have hcz135_0 : w133.cell? ⟨gb244, 0, none⟩ = some (.slice none 0 0) := CZ BK244.out 0; have hfz135_0 := blk_frozen BK244.out 0) | ((with_reducible refine gate_callee (f := 15) rfl ?_); refine goesL_ (some 94) rfl rfl Try.func15 (by kernel_rfl) rfl #[.agg #[.slice Ao134 t249.length co134]] rfl (MA) ?_; (with_reducible refine (impl_DiskOk.calls kj48 _ _ t249 true _ ?side1 ?side2 A116.out).mono ?_); (case side1 => refine (Kd.R_reads' (e := 45) (base := w.heap.size) (ok := fun k_ => (True ∧ k_ ≠ gb242)) (n := t249.length) (c := co134) ?_).2.2; exact (by (with_reducible repeat (first | apply r1 | apply r2 | apply r3)); exact (Kd.R_mono (Kd.R_far (p := ⟨gb244, 0, none⟩) (Kd.R_types HO251.out BK244.out (by decide)) (fun _ hk => hk.2) (.slice Ao134 t249.length co134)) (fun _ h_ => h_.1)))); (case side2 => exact (Kd.R_reads' HO251.out).2.1); rintro e w136 ⟨rfl, hb⟩; refine ⟨_, rfl, ?_⟩; replace HO251 := Aside0.mk (Kd.R_below (by (with_reducible repeat (first | apply r1 | apply r2 | apply r3)); exact (Kd.R_mono (Kd.R_far (p := ⟨gb244, 0, none⟩) (Kd.R_types HO251.out BK244.out (by decide)) (fun _ hk => hk.2) (.slice Ao134 t249.length co134)) (fun _ h_ => h_.1))) hb); replace BK236 := Aside0.mk (blk_below (g := gb236) (o := .cells #[.slice A0_0 l0_0.length c0_0] 29 (0, 0)) (by (with_reducible repeat (first | apply b1 | apply b2 | apply b3)); refine blk_far ?_ NB236_244.out _; (with_reducible repeat (first | apply b1 | apply b2 | apply b3)); exact BK236.out) hb); replace BK237 := Aside0.mk (blk_below (g := gb237) (o := .cells #[.int .i64 a1_0, .string a1_1, .string a1_2, .string a1_3] 55 (0, 0)) (by (with_reducible repeat (first | apply b1 | apply b2 | apply b3)); refine blk_far ?_ NB237_244.out _; (with_reducible repeat (first | apply b1 | apply b2 | apply b3)); exact BK237.out) hb); replace BK238 := Aside0.mk (blk_below (g := gb238) (o := .cells #[.slice none 0 0] 29 (0, 0)) (by (with_reducible repeat (first | apply b1 | apply b2 | apply b3)); refine blk_far ?_ NB238_244.out _; (with_reducible repeat (first | apply b1 | apply b2 | apply b3)); exact BK238.out) hb); replace BK242 := Aside0.mk (blk_below (g := gb242) (o := .cells #[.string x243000_48, .string x243001_48, .int .i64 (x243001_48.size : Int)] 45 (0, 0)) (by (with_reducible repeat (first | apply b1 | apply b2 | apply b3)); refine blk_far ?_ NB242_244.out _; (with_reducible repeat (first | apply b1 | apply b2 | apply b3)); exact BK242.out) hb); replace BK244 := Aside0.mk (blk_below (g := gb244) (o := .cells #[.slice Ao134 t249.length co134] 29 (0, 0)) (by (with_reducible repeat (first | apply b1 | apply b2 | apply b3)); refine blk_put (cs := #[.slice none 0 0]) ?_ 0 _ rfl; (with_reducible repeat (first | apply b1 | apply b2 | apply b3)); exact BK244.out) hb); replace HB := Aside0.mk (below_step (BL) hb); (try clear hb); (try clear hb2); (try clear hk); (try clear hi); have hcz137_0 : w136.cell? ⟨gb244, 0, none⟩ = some (.slice Ao134 t249.length co134) := CZ BK244.out 0; have hfz137_0 := blk_frozen BK244.out 0; have hcz138_0 : w136.cell? ⟨gb238, 0, none⟩ = some (.slice none 0 0) := CZ BK238.out 0; have hfz138_0 := blk_frozen BK238.out 0))
       refine bodyPost_ret (results_ct rfl _ _ gb238 29 #[.slice Ao134 t249.length co134] (0, 0) _ rfl (by (with_reducible repeat (first | apply b1 | apply b2 | apply b3)); refine blk_put (cs := #[.slice none 0 0]) ?_ 0 _ rfl; (with_reducible repeat (first | apply b1 | apply b2 | apply b3)); exact BK238.out) Try.underlying29 rfl (by kernel_rfl)) rfl ?_
       exact ⟨_, EE, by (with_reducible repeat (first | apply r1 | apply r2 | apply r3)); exact Kd.R_mono (Kd.R_far (p := ⟨gb238, 0, none⟩) (Kd.R_types HO251.out BK238.out (by decide)) (fun _ hk => hk.2) (.slice Ao134 t249.length co134)) (fun _ hk => trivial), BL⟩
      replace c117 := Bool.eq_false_iff.mpr c117
      subst c117
      have H1 : (some (([] : List (S45)), false)) = some (r1, r2) := by rw [if_neg (show ¬ (false = true) by decide)] at H; exact H
      clear H
      have H := H1
      clear H1
      simp only [Option.some.injEq, Prod.mk.injEq] at H
      obtain ⟨rfl, rfl⟩ := H
      go_wp2_with (first | ((with_reducible refine gate_dst (N := 8) rfl ?_); refine bE 8 #[.slice none 0 0] 29 ?_; intro gb244 hg w139 hbox hb; have BK244 := Aside0.mk (hbox); have GW244 : Aside0 (w.heap.size ≤ gb244) := GS; have GE244 : Aside0 (w.heap.size ≤ gb244) := GS; have NB236_244 := NL BK236.out hg; have NB244_236 := NG BK236.out hg; have NB237_244 := NL BK237.out hg; have NB244_237 := NG BK237.out hg; have NB238_244 := NL BK238.out hg; have NB244_238 := NG BK238.out hg; have NB242_244 := NL BK242.out hg; have NB244_242 := NG BK242.out hg; replace BK236 := BB BK236.out hb; replace BK237 := BB BK237.out hb; replace BK238 := BB BK238.out hb; replace BK242 := BB BK242.out hb; replace HB := Aside0.mk (below_step (BL) hb); clear hb hbox hg; have hnb140 := NB244_236.out; have hnc140 := NB236_244.out; have hnb141 := NB244_237.out; have hnc141 := NB237_244.out; have hnb142 := NB244_238.out; have hnc142 := NB238_244.out; have hnb143 := NB244_242.out; have hnc143 := NB242_244.out; have hcz144_0 : w139.cell? ⟨gb244, 0, none⟩ = some (.slice none 0 0) := CZ BK244.out 0; have hfz144_0 := blk_frozen BK244.out 0; have hnb145 := NB237_236.out; have hnc145 := NB236_237.out; have hnb146 := NB237_238.out; have hnc146 := NB238_237.out; have hnb147 := NB237_242.out; have hnc147 := NB242_237.out; have hcz148_0 : w139.cell? ⟨gb237, 0, none⟩ = some (.int .i64 a1_0) := CZ BK237.out 0; have hcz148_1 : w139.cell? ⟨gb237, 1, none⟩ = some (.string a1_1) := CZ BK237.out 1; have hcz148_2 : w139.cell? ⟨gb237, 2, none⟩ = some (.string a1_2) := CZ BK237.out 2; have hcz148_3 : w139.cell? ⟨gb237, 3, none⟩ = some (.string a1_3) := CZ BK237.out 3; have hfz148_0 := blk_frozen BK237.out 0; have hfz148_1 := blk_frozen BK237.out 1; have hfz148_2 := blk_frozen BK237.out 2; have hfz148_3 := blk_frozen BK237.out 3; have hnb149 := NB242_236.out; have hnc149 := NB236_242.out; have hnb150 := NB242_238.out; have hnc150 := NB238_242.out; have hcz151_0 : w139.cell? ⟨gb242, 0, none⟩ = some (.string x243000_48) := CZ BK242.out 0; have hcz151_1 : w139.cell? ⟨gb242, 1, none⟩ = some (.string x243001_48) := CZ BK242.out 1; have hcz151_2 : w139.cell? ⟨gb242, 2, none⟩ = some (.int .i64 x243002_48) := CZ BK242.out 2; have hfz151_0 := blk_frozen BK242.out 0; have hfz151_1 := blk_frozen BK242.out 1; have hfz151_2 := blk_frozen BK242.out 2; have hnb152 := NB236_238.out; have hnc152 := NB238_236.out; have hcz153_0 : w139.cell? ⟨gb236, 0, none⟩ = some (.slice A0_0 l0_0.length c0_0) := CZ BK236.out 0; have hfz153_0 := blk_frozen BK236.out 0) | ((with_reducible refine gate_callee (f := 66) rfl ?_); refine goesL_ (some 67) rfl rfl Try.func66 (by kernel_rfl) rfl #[.agg #[.slice A0_0 l0_0.length c0_0], .agg #[.string x243000_48, .string x243001_48, .int .i64 (x243001_48.size : Int)]] rfl (MA) ?_; (with_reducible refine (impl_withFile.calls _ _ l0_0 x243000_48 x243001_48 (x243001_48.size : Int) t249 _ ?side1 ?side2 A115.out).mono ?_); (case side1 => exact Kd.C_below HR0_0.out (BL)); (case side2 => exact HC0_0.out); rintro e w154 ⟨v250, rfl, ho0, hb⟩; refine ⟨_, rfl, ?_⟩; have HO251 := Aside0.mk (Kd.R_lower (Kd.R_newB ho0 (g := gb242) (o := .cells #[.string x243000_48, .string x243001_48, .int .i64 (x243001_48.size : Int)] 45 (0, 0)) (by (with_reducible repeat (first | apply b1 | apply b2 | apply b3)); refine blk_put (cs := #[.string x243000_48, .string x243001_48, .int .i64 x243002_48]) ?_ 2 _ rfl; (with_reducible repeat (first | apply b1 | apply b2 | apply b3)); refine blk_far ?_ NB242_244.out _; (with_reducible repeat (first | apply b1 | apply b2 | apply b3)); exact BK242.out)) (below_size (BL))); replace BK236 := Aside0.mk (blk_below (g := gb236) (o := .cells #[.slice A0_0 l0_0.length c0_0] 29 (0, 0)) (by (with_reducible repeat (first | apply b1 | apply b2 | apply b3)); refine blk_far ?_ NB236_242.out _; (with_reducible repeat (first | apply b1 | apply b2 | apply b3)); refine blk_far ?_ NB236_244.out _; (with_reducible repeat (first | apply b1 | apply b2 | apply b3)); exact BK236.out) hb); replace BK237 := Aside0.mk (blk_below (g := gb237) (o := .cells #[.int .i64 a1_0, .string a1_1, .string a1_2, .string a1_3] 55 (0, 0)) (by (with_reducible repeat (first | apply b1 | apply b2 | apply b3)); refine blk_far ?_ NB237_242.out _; (with_reducible repeat (first | apply b1 | apply b2 | apply b3)); refine blk_far ?_ NB237_244.out _; (with_reducible repeat (first | apply b1 | apply b2 | apply b3)); exact BK237.out) hb); replace BK238 := Aside0.mk (blk_below (g := gb238) (o := .cells #[.slice none 0 0] 29 (0, 0)) (by (with_reducible repeat (first | apply b1 | apply b2 | apply b3)); refine blk_far ?_ NB238_242.out _; (with_reducible repeat (first | apply b1 | apply b2 | apply b3)); refine blk_far ?_ NB238_244.out _; (with_reducible repeat (first | apply b1 | apply b2 | apply b3)); exact BK238.out) hb); replace BK242 := Aside0.mk (blk_below (g := gb242) (o := .cells #[.string x243000_48, .string x243001_48, .int .i64 (x243001_48.size : Int)] 45 (0, 0)) (by (with_reducible repeat (first | apply b1 | apply b2 | apply b3)); refine blk_put (cs := #[.string x243000_48, .string x243001_48, .int .i64 x243002_48]) ?_ 2 _ rfl; (with_reducible repeat (first | apply b1 | apply b2 | apply b3)); refine blk_far ?_ NB242_244.out _; (with_reducible repeat (first | apply b1 | apply b2 | apply b3)); exact BK242.out) hb); replace BK244 := Aside0.mk (blk_below (g := gb244) (o := .cells #[.slice none 0 0] 29 (0, 0)) (by (with_reducible repeat (first | apply b1 | apply b2 | apply b3)); refine blk_far ?_ NB244_242.out _; (with_reducible repeat (first | apply b1 | apply b2 | apply b3)); refine blk_put (cs := #[.slice none 0 0]) ?_ 0 _ rfl; (with_reducible repeat (first | apply b1 | apply b2 | apply b3)); exact BK244.out) hb); replace HB := Aside0.mk (below_step (BL) hb); (try clear hb); (try clear hb2); (try clear hk); (try clear hi); (try clear ho0); obtain ⟨Ao155, co155, eo155⟩ := Kd.R_slice HO251.out; subst eo155; have hcz156_0 : w154.cell? ⟨gb244, 0, none⟩ = some (.slice none 0 0) := CZ BK244.out 0; have hfz156_0 := blk_frozen BK244.out 0) | ((with_reducible refine gate_callee (f := 15) rfl ?_); refine goesL_ (some 94) rfl rfl Try.func15 (by kernel_rfl) rfl #[.agg #[.slice Ao155 t249.length co155]] rfl (MA) ?_; (with_reducible refine (impl_DiskOk.calls kj48 _ _ t249 false _ ?side1 ?side2 A116.out).mono ?_); (case side1 => refine (Kd.R_reads' (e := 45) (base := w.heap.size) (ok := fun k_ => (True ∧ k_ ≠ gb242)) (n := t249.length) (c := co155) ?_).2.2; exact (by (with_reducible repeat (first | apply r1 | apply r2 | apply r3)); exact (Kd.R_mono (Kd.R_far (p := ⟨gb244, 0, none⟩) (Kd.R_types HO251.out BK244.out (by decide)) (fun _ hk => hk.2) (.slice Ao155 t249.length co155)) (fun _ h_ => h_.1)))); (case side2 => exact (Kd.R_reads' HO251.out).2.1); rintro e w157 ⟨rfl, hb⟩; refine ⟨_, rfl, ?_⟩; replace HO251 := Aside0.mk (Kd.R_below (by (with_reducible repeat (first | apply r1 | apply r2 | apply r3)); exact (Kd.R_mono (Kd.R_far (p := ⟨gb244, 0, none⟩) (Kd.R_types HO251.out BK244.out (by decide)) (fun _ hk => hk.2) (.slice Ao155 t249.length co155)) (fun _ h_ => h_.1))) hb); replace BK236 := Aside0.mk (blk_below (g := gb236) (o := .cells #[.slice A0_0 l0_0.length c0_0] 29 (0, 0)) (by (with_reducible repeat (first | apply b1 | apply b2 | apply b3)); refine blk_far ?_ NB236_244.out _; (with_reducible repeat (first | apply b1 | apply b2 | apply b3)); exact BK236.out) hb); replace BK237 := Aside0.mk (blk_below (g := gb237) (o := .cells #[.int .i64 a1_0, .string a1_1, .string a1_2, .string a1_3] 55 (0, 0)) (by (with_reducible repeat (first | apply b1 | apply b2 | apply b3)); refine blk_far ?_ NB237_244.out _; (with_reducible repeat (first | apply b1 | apply b2 | apply b3)); exact BK237.out) hb); replace BK238 := Aside0.mk (blk_below (g := gb238) (o := .cells #[.slice none 0 0] 29 (0, 0)) (by (with_reducible repeat (first | apply b1 | apply b2 | apply b3)); refine blk_far ?_ NB238_244.out _; (with_reducible repeat (first | apply b1 | apply b2 | apply b3)); exact BK238.out) hb); replace BK242 := Aside0.mk (blk_below (g := gb242) (o := .cells #[.string x243000_48, .string x243001_48, .int .i64 (x243001_48.size : Int)] 45 (0, 0)) (by (with_reducible repeat (first | apply b1 | apply b2 | apply b3)); refine blk_far ?_ NB242_244.out _; (with_reducible repeat (first | apply b1 | apply b2 | apply b3)); exact BK242.out) hb); replace BK244 := Aside0.mk (blk_below (g := gb244) (o := .cells #[.slice Ao155 t249.length co155] 29 (0, 0)) (by (with_reducible repeat (first | apply b1 | apply b2 | apply b3)); refine blk_put (cs := #[.slice none 0 0]) ?_ 0 _ rfl; (with_reducible repeat (first | apply b1 | apply b2 | apply b3)); exact BK244.out) hb); replace HB := Aside0.mk (below_step (BL) hb); (try clear hb); (try clear hb2); (try clear hk); (try clear hi); have hcz158_0 : w157.cell? ⟨gb238, 0, none⟩ = some (.slice none 0 0) := CZ BK238.out 0; have hfz158_0 := blk_frozen BK238.out 0))
      refine bodyPost_ret (results_ct rfl _ _ gb238 29 #[.slice none 0 0] (0, 0) _ rfl (by (with_reducible repeat (first | apply b1 | apply b2 | apply b3)); refine blk_put (cs := #[.slice none 0 0]) ?_ 0 _ rfl; (with_reducible repeat (first | apply b1 | apply b2 | apply b3)); exact BK238.out) Try.underlying29 rfl (by kernel_rfl)) rfl ?_
      exact ⟨_, EE, by first | exact Kd.R_nil _ _ _ _ _ | exact Kd.N_nil _ _ _ _ _ | exact Kd.V_nil _ _ _ _ _ | exact Kd.Q_nil _ _ _ _ _ | exact Kd.S_nil _ _ _ _ _, BL⟩
     rw [if_neg c114] at H
     have c114b0 : (a1_0 == 2) = false := beq_eq_false_iff_ne.mpr c114
     have c114b1 : (a1_0 != 2) = true := bne_iff_ne.mpr c114
     by_cases c159 : a1_0 = 3; rotate_left
     ·
      rw [if_neg c159] at H
      have c159b0 : (a1_0 == 3) = false := beq_eq_false_iff_ne.mpr c159
      have c159b1 : (a1_0 != 3) = true := bne_iff_ne.mpr c159
      replace H := Option.bind_eq_some_iff.mp H
      obtain ⟨t260, A2410, H⟩ := H
      replace H : ((impl_DiskOk.f kj48 t260).bind fun t263 => (if t263 = true then (some (t260, true)) else (some (([] : List (S45)), false)))) = some (r1, r2) := H
      have A241 := Aside0.mk A2410
      clear A2410
      replace H := Option.bind_eq_some_iff.mp H
      obtain ⟨t263, A2420, H⟩ := H
      replace H : (if t263 = true then (some (t260, true)) else (some (([] : List (S45)), false))) = some (r1, r2) := H
      have A242 := Aside0.mk A2420
      clear A2420
      by_cases c243 : t263 = true
      ·
       subst c243
       have H1 : (some (t260, true)) = some (r1, r2) := by rw [if_pos rfl] at H; exact H
       clear H
       have H := H1
       clear H1
       simp only [Option.some.injEq, Prod.mk.injEq] at H
       obtain ⟨rfl, rfl⟩ := H
       go_wp2_with (first | ((with_reducible refine gate_dst (N := 8) rfl ?_); refine bE 8 #[.slice none 0 0] 29 ?_; intro gb244 hg w244 hbox hb; have BK244 := Aside0.mk (hbox); have GW244 : Aside0 (w.heap.size ≤ gb244) := GS; have GE244 : Aside0 (w.heap.size ≤ gb244) := GS; have NB236_244 := NL BK236.out hg; have NB244_236 := NG BK236.out hg; have NB237_244 := NL BK237.out hg; have NB244_237 := NG BK237.out hg; have NB238_244 := NL BK238.out hg; have NB244_238 := NG BK238.out hg; have NB242_244 := NL BK242.out hg; have NB244_242 := NG BK242.out hg; replace BK236 := BB BK236.out hb; replace BK237 := BB BK237.out hb; replace BK238 := BB BK238.out hb; replace BK242 := BB BK242.out hb; replace HB := Aside0.mk (below_step (BL) hb); clear hb hbox hg; have hnb245 := NB244_236.out; have hnc245 := NB236_244.out; have hnb246 := NB244_237.out; have hnc246 := NB237_244.out; have hnb247 := NB244_238.out; have hnc247 := NB238_244.out; have hnb248 := NB244_242.out; have hnc248 := NB242_244.out; have hcz249_0 : w244.cell? ⟨gb244, 0, none⟩ = some (.slice none 0 0) := CZ BK244.out 0; have hfz249_0 := blk_frozen BK244.out 0; have hnb250 := NB237_236.out; have hnc250 := NB236_237.out; have hnb251 := NB237_238.out; have hnc251 := NB238_237.out; have hnb252 := NB237_242.out; have hnc252 := NB242_237.out; have hcz253_0 : w244.cell? ⟨gb237, 0, none⟩ = some (.int .i64 a1_0) := CZ BK237.out 0; have hcz253_1 : w244.cell? ⟨gb237, 1, none⟩ = some (.string a1_1) := CZ BK237.out 1; have hcz253_2 : w244.cell? ⟨gb237, 2, none⟩ = some (.string a1_2) := CZ BK237.out 2; have hcz253_3 : w244.cell? ⟨gb237, 3, none⟩ = some (.string a1_3) := CZ BK237.out 3; have hfz253_0 := blk_frozen BK237.out 0; have hfz253_1 := blk_frozen BK237.out 1; have hfz253_2 := blk_frozen BK237.out 2; have hfz253_3 := blk_frozen BK237.out 3; have hnb254 := NB236_238.out; have hnc254 := NB238_236.out; have hnb255 := NB236_242.out; have hnc255 := NB242_236.out; have hcz256_0 : w244.cell? ⟨gb236, 0, none⟩ = some (.slice A0_0 l0_0.length c0_0) := CZ BK236.out 0; have hfz256_0 := blk_frozen BK236.out 0) | ((with_reducible refine gate_callee (f := 67) rfl ?_); refine goesL_ (some 47) rfl rfl Try.func67 (by kernel_rfl) rfl #[.agg #[.slice A0_0 l0_0.length c0_0], .string a1_1] rfl (MA) ?_; (with_reducible refine (impl_withoutFile.calls _ _ l0_0 a1_1 t260 _ ?side1 ?side2 A241.out).mono ?_); (case side1 => exact Kd.C_below HR0_0.out (BL)); (case side2 => exact HC0_0.out); rintro e w257 ⟨v261, rfl, ho0, hb⟩; refine ⟨_, rfl, ?_⟩; have HO262 := Aside0.mk (Kd.R_lower (Kd.R_newB ho0 (g := gb242) (o := .cells #[.string x243000_48, .string x243001_48, .int .i64 x243002_48] 45 (0, 0)) (by (with_reducible repeat (first | apply b1 | apply b2 | apply b3)); refine blk_far ?_ NB242_244.out _; (with_reducible repeat (first | apply b1 | apply b2 | apply b3)); exact BK242.out)) (below_size (BL))); replace BK236 := Aside0.mk (blk_below (g := gb236) (o := .cells #[.slice A0_0 l0_0.length c0_0] 29 (0, 0)) (by (with_reducible repeat (first | apply b1 | apply b2 | apply b3)); refine blk_far ?_ NB236_244.out _; (with_reducible repeat (first | apply b1 | apply b2 | apply b3)); exact BK236.out) hb); replace BK237 := Aside0.mk (blk_below (g := gb237) (o := .cells #[.int .i64 a1_0, .string a1_1, .string a1_2, .string a1_3] 55 (0, 0)) (by (with_reducible repeat (first | apply b1 | apply b2 | apply b3)); refine blk_far ?_ NB237_244.out _; (with_reducible repeat (first | apply b1 | apply b2 | apply b3)); exact BK237.out) hb); replace BK238 := Aside0.mk (blk_below (g := gb238) (o := .cells #[.slice none 0 0] 29 (0, 0)) (by (with_reducible repeat (first | apply b1 | apply b2 | apply b3)); refine blk_far ?_ NB238_244.out _; (with_reducible repeat (first | apply b1 | apply b2 | apply b3)); exact BK238.out) hb); replace BK242 := Aside0.mk (blk_below (g := gb242) (o := .cells #[.string x243000_48, .string x243001_48, .int .i64 x243002_48] 45 (0, 0)) (by (with_reducible repeat (first | apply b1 | apply b2 | apply b3)); refine blk_far ?_ NB242_244.out _; (with_reducible repeat (first | apply b1 | apply b2 | apply b3)); exact BK242.out) hb); replace BK244 := Aside0.mk (blk_below (g := gb244) (o := .cells #[.slice none 0 0] 29 (0, 0)) (by (with_reducible repeat (first | apply b1 | apply b2 | apply b3)); refine blk_put (cs := #[.slice none 0 0]) ?_ 0 _ rfl; (with_reducible repeat (first | apply b1 | apply b2 | apply b3)); exact BK244.out) hb); replace HB := Aside0.mk (below_step (BL) hb); (try clear hb); (try clear hb2); (try clear hk); (try clear hi); (try clear ho0); obtain ⟨Ao258, co258, eo258⟩ := Kd.R_slice HO262.out; subst eo258; have hcz259_0 : w257.cell? ⟨gb244, 0, none⟩ = some (.slice none 0 0) := CZ BK244.out 0; have hfz259_0 := blk_frozen BK244.out 0) | ((with_reducible refine gate_callee (f := 15) rfl ?_); refine goesL_ (some 94) rfl rfl Try.func15 (by kernel_rfl) rfl #[.agg #[.slice Ao258 t260.length co258]] rfl (MA) ?_; (with_reducible refine (impl_DiskOk.calls kj48 _ _ t260 true _ ?side1 ?side2 A242.out).mono ?_); (case side1 => refine (Kd.R_reads' (e := 45) (base := w.heap.size) (ok := fun k_ => (True ∧ k_ ≠ gb242)) (n := t260.length) (c := co258) ?_).2.2; exact (by (with_reducible repeat (first | apply r1 | apply r2 | apply r3)); exact (Kd.R_mono (Kd.R_far (p := ⟨gb244, 0, none⟩) (Kd.R_types HO262.out BK244.out (by decide)) (fun _ hk => hk.2) (.slice Ao258 t260.length co258)) (fun _ h_ => h_.1)))); (case side2 => exact (Kd.R_reads' HO262.out).2.1); rintro e w260 ⟨rfl, hb⟩; refine ⟨_, rfl, ?_⟩; replace HO262 := Aside0.mk (Kd.R_below (by (with_reducible repeat (first | apply r1 | apply r2 | apply r3)); exact (Kd.R_mono (Kd.R_far (p := ⟨gb244, 0, none⟩) (Kd.R_types HO262.out BK244.out (by decide)) (fun _ hk => hk.2) (.slice Ao258 t260.length co258)) (fun _ h_ => h_.1))) hb); replace BK236 := Aside0.mk (blk_below (g := gb236) (o := .cells #[.slice A0_0 l0_0.length c0_0] 29 (0, 0)) (by (with_reducible repeat (first | apply b1 | apply b2 | apply b3)); refine blk_far ?_ NB236_244.out _; (with_reducible repeat (first | apply b1 | apply b2 | apply b3)); exact BK236.out) hb); replace BK237 := Aside0.mk (blk_below (g := gb237) (o := .cells #[.int .i64 a1_0, .string a1_1, .string a1_2, .string a1_3] 55 (0, 0)) (by (with_reducible repeat (first | apply b1 | apply b2 | apply b3)); refine blk_far ?_ NB237_244.out _; (with_reducible repeat (first | apply b1 | apply b2 | apply b3)); exact BK237.out) hb); replace BK238 := Aside0.mk (blk_below (g := gb238) (o := .cells #[.slice none 0 0] 29 (0, 0)) (by (with_reducible repeat (first | apply b1 | apply b2 | apply b3)); refine blk_far ?_ NB238_244.out _; (with_reducible repeat (first | apply b1 | apply b2 | apply b3)); exact BK238.out) hb); replace BK242 := Aside0.mk (blk_below (g := gb242) (o := .cells #[.string x243000_48, .string x243001_48, .int .i64 x243002_48] 45 (0, 0)) (by (with_reducible repeat (first | apply b1 | apply b2 | apply b3)); refine blk_far ?_ NB242_244.out _; (with_reducible repeat (first | apply b1 | apply b2 | apply b3)); exact BK242.out) hb); replace BK244 := Aside0.mk (blk_below (g := gb244) (o := .cells #[.slice Ao258 t260.length co258] 29 (0, 0)) (by (with_reducible repeat (first | apply b1 | apply b2 | apply b3)); refine blk_put (cs := #[.slice none 0 0]) ?_ 0 _ rfl; (with_reducible repeat (first | apply b1 | apply b2 | apply b3)); exact BK244.out) hb); replace HB := Aside0.mk (below_step (BL) hb); (try clear hb); (try clear hb2); (try clear hk); (try clear hi); have hcz261_0 : w260.cell? ⟨gb244, 0, none⟩ = some (.slice Ao258 t260.length co258) := CZ BK244.out 0; have hfz261_0 := blk_frozen BK244.out 0; have hnb262 := NB238_242.out; have hnc262 := NB242_238.out; have hcz263_0 : w260.cell? ⟨gb238, 0, none⟩ = some (.slice none 0 0) := CZ BK238.out 0; have hfz263_0 := blk_frozen BK238.out 0))
       refine bodyPost_ret (results_ct rfl _ _ gb238 29 #[.slice Ao258 t260.length co258] (0, 0) _ rfl (by (with_reducible repeat (first | apply b1 | apply b2 | apply b3)); refine blk_put (cs := #[.slice none 0 0]) ?_ 0 _ rfl; (with_reducible repeat (first | apply b1 | apply b2 | apply b3)); exact BK238.out) Try.underlying29 rfl (by kernel_rfl)) rfl ?_
       exact ⟨_, EE, by (with_reducible repeat (first | apply r1 | apply r2 | apply r3)); exact Kd.R_mono (Kd.R_far (p := ⟨gb238, 0, none⟩) (Kd.R_types HO262.out BK238.out (by decide)) (fun _ hk => hk.2) (.slice Ao258 t260.length co258)) (fun _ hk => trivial), BL⟩
      replace c243 := Bool.eq_false_iff.mpr c243
      subst c243
      have H1 : (some (([] : List (S45)), false)) = some (r1, r2) := by rw [if_neg (show ¬ (false = true) by decide)] at H; exact H
      clear H
      have H := H1
      clear H1
      simp only [Option.some.injEq, Prod.mk.injEq] at H
      obtain ⟨rfl, rfl⟩ := H
      go_wp2_with (first | ((with_reducible refine gate_dst (N := 8) rfl ?_); refine bE 8 #[.slice none 0 0] 29 ?_; intro gb244 hg w264 hbox hb; have BK244 := Aside0.mk (hbox); have GW244 : Aside0 (w.heap.size ≤ gb244) := GS; have GE244 : Aside0 (w.heap.size ≤ gb244) := GS; have NB236_244 := NL BK236.out hg; have NB244_236 := NG BK236.out hg; have NB237_244 := NL BK237.out hg; have NB244_237 := NG BK237.out hg; have NB238_244 := NL BK238.out hg; have NB244_238 := NG BK238.out hg; have NB242_244 := NL BK242.out hg; have NB244_242 := NG BK242.out hg; replace BK236 := BB BK236.out hb; replace BK237 := BB BK237.out hb; replace BK238 := BB BK238.out hb; replace BK242 := BB BK242.out hb; replace HB := Aside0.mk (below_step (BL) hb); clear hb hbox hg; have hnb265 := NB244_236.out; have hnc265 := NB236_244.out; have hnb266 := NB244_237.out; have hnc266 := NB237_244.out; have hnb267 := NB244_238.out; have hnc267 := NB238_244.out; have hnb268 := NB244_242.out; have hnc268 := NB242_244.out; have hcz269_0 : w264.cell? ⟨gb244, 0, none⟩ = some (.slice none 0 0) := CZ BK244.out 0; have hfz269_0 := blk_frozen BK244.out 0; have hnb270 := NB237_236.out; have hnc270 := NB236_237.out; have hnb271 := NB237_238.out; have hnc271 := NB238_237.out; have hnb272 := NB237_242.out; have hnc272 := NB242_237.out; have hcz273_0 : w264.cell? ⟨gb237, 0, none⟩ = some (.int .i64 a1_0) := CZ BK237.out 0; have hcz273_1 : w264.cell? ⟨gb237, 1, none⟩ = some (.string a1_1) := CZ BK237.out 1; have hcz273_2 : w264.cell? ⟨gb237, 2, none⟩ = some (.string a1_2) := CZ BK237.out 2; have hcz273_3 : w264.cell? ⟨gb237, 3, none⟩ = some (.string a1_3) := CZ BK237.out 3; have hfz273_0 := blk_frozen BK237.out 0; have hfz273_1 := blk_frozen BK237.out 1; have hfz273_2 := blk_frozen BK237.out 2; have hfz273_3 := blk_frozen BK237.out 3; have hnb274 := NB236_238.out; have hnc274 := NB238_236.out; have hnb275 := NB236_242.out; have hnc275 := NB242_236.out; have hcz276_0 : w264.cell? ⟨gb236, 0, none⟩ = some (.slice A0_0 l0_0.length c0_0) := CZ BK236.out 0; have hfz276_0 := blk_frozen BK236.out 0) | ((with_reducible refine gate_callee (f := 67) rfl ?_); refine goesL_ (some 47) rfl rfl Try.func67 (by kernel_rfl) rfl #[.agg #[.slice A0_0 l0_0.length c0_0], .string a1_1] rfl (MA) ?_; (with_reducible refine (impl_withoutFile.calls _ _ l0_0 a1_1 t260 _ ?side1 ?side2 A241.out).mono ?_); (case side1 => exact Kd.C_below HR0_0.out (BL)); (case side2 => exact HC0_0.out); rintro e w277 ⟨v261, rfl, ho0, hb⟩; refine ⟨_, rfl, ?_⟩; have HO262 := Aside0.mk (Kd.R_lower (Kd.R_newB ho0 (g := gb242) (o := .cells #[.string x243000_48, .string x243001_48, .int .i64 x243002_48] 45 (0, 0)) (by (with_reducible repeat (first | apply b1 | apply b2 | apply b3)); refine blk_far ?_ NB242_244.out _; (with_reducible repeat (first | apply b1 | apply b2 | apply b3)); exact BK242.out)) (below_size (BL))); replace BK236 := Aside0.mk (blk_below (g := gb236) (o := .cells #[.slice A0_0 l0_0.length c0_0] 29 (0, 0)) (by (with_reducible repeat (first | apply b1 | apply b2 | apply b3)); refine blk_far ?_ NB236_244.out _; (with_reducible repeat (first | apply b1 | apply b2 | apply b3)); exact BK236.out) hb); replace BK237 := Aside0.mk (blk_below (g := gb237) (o := .cells #[.int .i64 a1_0, .string a1_1, .string a1_2, .string a1_3] 55 (0, 0)) (by (with_reducible repeat (first | apply b1 | apply b2 | apply b3)); refine blk_far ?_ NB237_244.out _; (with_reducible repeat (first | apply b1 | apply b2 | apply b3)); exact BK237.out) hb); replace BK238 := Aside0.mk (blk_below (g := gb238) (o := .cells #[.slice none 0 0] 29 (0, 0)) (by (with_reducible repeat (first | apply b1 | apply b2 | apply b3)); refine blk_far ?_ NB238_244.out _; (with_reducible repeat (first | apply b1 | apply b2 | apply b3)); exact BK238.out) hb); replace BK242 := Aside0.mk (blk_below (g := gb242) (o := .cells #[.string x243000_48, .string x243001_48, .int .i64 x243002_48] 45 (0, 0)) (by (with_reducible repeat (first | apply b1 | apply b2 | apply b3)); refine blk_far ?_ NB242_244.out _; (with_reducible repeat (first | apply b1 | apply b2 | apply b3)); exact BK242.out) hb); replace BK244 := Aside0.mk (blk_below (g := gb244) (o := .cells #[.slice none 0 0] 29 (0, 0)) (by (with_reducible repeat (first | apply b1 | apply b2 | apply b3)); refine blk_put (cs := #[.slice none 0 0]) ?_ 0 _ rfl; (with_reducible repeat (first | apply b1 | apply b2 | apply b3)); exact BK244.out) hb); replace HB := Aside0.mk (below_step (BL) hb); (try clear hb); (try clear hb2); (try clear hk); (try clear hi); (try clear ho0); obtain ⟨Ao278, co278, eo278⟩ := Kd.R_slice HO262.out; subst eo278; have hcz279_0 : w277.cell? ⟨gb244, 0, none⟩ = some (.slice none 0 0) := CZ BK244.out 0; have hfz279_0 := blk_frozen BK244.out 0) | ((with_reducible refine gate_callee (f := 15) rfl ?_); refine goesL_ (some 94) rfl rfl Try.func15 (by kernel_rfl) rfl #[.agg #[.slice Ao278 t260.length co278]] rfl (MA) ?_; (with_reducible refine (impl_DiskOk.calls kj48 _ _ t260 false _ ?side1 ?side2 A242.out).mono ?_); (case side1 => refine (Kd.R_reads' (e := 45) (base := w.heap.size) (ok := fun k_ => (True ∧ k_ ≠ gb242)) (n := t260.length) (c := co278) ?_).2.2; exact (by (with_reducible repeat (first | apply r1 | apply r2 | apply r3)); exact (Kd.R_mono (Kd.R_far (p := ⟨gb244, 0, none⟩) (Kd.R_types HO262.out BK244.out (by decide)) (fun _ hk => hk.2) (.slice Ao278 t260.length co278)) (fun _ h_ => h_.1)))); (case side2 => exact (Kd.R_reads' HO262.out).2.1); rintro e w280 ⟨rfl, hb⟩; refine ⟨_, rfl, ?_⟩; replace HO262 := Aside0.mk (Kd.R_below (by (with_reducible repeat (first | apply r1 | apply r2 | apply r3)); exact (Kd.R_mono (Kd.R_far (p := ⟨gb244, 0, none⟩) (Kd.R_types HO262.out BK244.out (by decide)) (fun _ hk => hk.2) (.slice Ao278 t260.length co278)) (fun _ h_ => h_.1))) hb); replace BK236 := Aside0.mk (blk_below (g := gb236) (o := .cells #[.slice A0_0 l0_0.length c0_0] 29 (0, 0)) (by (with_reducible repeat (first | apply b1 | apply b2 | apply b3)); refine blk_far ?_ NB236_244.out _; (with_reducible repeat (first | apply b1 | apply b2 | apply b3)); exact BK236.out) hb); replace BK237 := Aside0.mk (blk_below (g := gb237) (o := .cells #[.int .i64 a1_0, .string a1_1, .string a1_2, .string a1_3] 55 (0, 0)) (by (with_reducible repeat (first | apply b1 | apply b2 | apply b3)); refine blk_far ?_ NB237_244.out _; (with_reducible repeat (first | apply b1 | apply b2 | apply b3)); exact BK237.out) hb); replace BK238 := Aside0.mk (blk_below (g := gb238) (o := .cells #[.slice none 0 0] 29 (0, 0)) (by (with_reducible repeat (first | apply b1 | apply b2 | apply b3)); refine blk_far ?_ NB238_244.out _; (with_reducible repeat (first | apply b1 | apply b2 | apply b3)); exact BK238.out) hb); replace BK242 := Aside0.mk (blk_below (g := gb242) (o := .cells #[.string x243000_48, .string x243001_48, .int .i64 x243002_48] 45 (0, 0)) (by (with_reducible repeat (first | apply b1 | apply b2 | apply b3)); refine blk_far ?_ NB242_244.out _; (with_reducible repeat (first | apply b1 | apply b2 | apply b3)); exact BK242.out) hb); replace BK244 := Aside0.mk (blk_below (g := gb244) (o := .cells #[.slice Ao278 t260.length co278] 29 (0, 0)) (by (with_reducible repeat (first | apply b1 | apply b2 | apply b3)); refine blk_put (cs := #[.slice none 0 0]) ?_ 0 _ rfl; (with_reducible repeat (first | apply b1 | apply b2 | apply b3)); exact BK244.out) hb); replace HB := Aside0.mk (below_step (BL) hb); (try clear hb); (try clear hb2); (try clear hk); (try clear hi); have hnb281 := NB238_242.out; have hnc281 := NB242_238.out; have hcz282_0 : w280.cell? ⟨gb238, 0, none⟩ = some (.slice none 0 0) := CZ BK238.out 0; have hfz282_0 := blk_frozen BK238.out 0))
      refine bodyPost_ret (results_ct rfl _ _ gb238 29 #[.slice none 0 0] (0, 0) _ rfl (by (with_reducible repeat (first | apply b1 | apply b2 | apply b3)); refine blk_put (cs := #[.slice none 0 0]) ?_ 0 _ rfl; (with_reducible repeat (first | apply b1 | apply b2 | apply b3)); exact BK238.out) Try.underlying29 rfl (by kernel_rfl)) rfl ?_
      exact ⟨_, EE, by first | exact Kd.R_nil _ _ _ _ _ | exact Kd.N_nil _ _ _ _ _ | exact Kd.V_nil _ _ _ _ _ | exact Kd.Q_nil _ _ _ _ _ | exact Kd.S_nil _ _ _ _ _, BL⟩
     rw [if_pos c159] at H
     have c159b0 : (a1_0 == 3) = true := beq_iff_eq.mpr c159
     have c159b1 : (a1_0 != 3) = false := bne_eq_false_iff_eq.mpr c159
     clear c159
     have HC160 := Aside0.mk H
     clear H
     go_upto_region 17 with (first | ((with_reducible refine gate_dst (N := 8) rfl ?_); refine bE 8 #[.slice none 0 0] 29 ?_; intro gb244 hg w161 hbox hb; have BK244 := Aside0.mk (hbox); have GW244 : Aside0 (w.heap.size ≤ gb244) := GS; have GE244 : Aside0 (w.heap.size ≤ gb244) := GS; have NB236_244 := NL BK236.out hg; have NB244_236 := NG BK236.out hg; have NB237_244 := NL BK237.out hg; have NB244_237 := NG BK237.out hg; have NB238_244 := NL BK238.out hg; have NB244_238 := NG BK238.out hg; have NB242_244 := NL BK242.out hg; have NB244_242 := NG BK242.out hg; replace BK236 := BB BK236.out hb; replace BK237 := BB BK237.out hb; replace BK238 := BB BK238.out hb; replace BK242 := BB BK242.out hb; replace HB := Aside0.mk (below_step (BL) hb); clear hb hbox hg; have hnb162 := NB244_236.out; have hnc162 := NB236_244.out; have hnb163 := NB244_237.out; have hnc163 := NB237_244.out; have hnb164 := NB244_238.out; have hnc164 := NB238_244.out; have hnb165 := NB244_242.out; have hnc165 := NB242_244.out; have hcz166_0 : w161.cell? ⟨gb244, 0, none⟩ = some (.slice none 0 0) := CZ BK244.out 0; have hfz166_0 := blk_frozen BK244.out 0; have hnb167 := NB237_236.out; have hnc167 := NB236_237.out; have hnb168 := NB237_238.out; have hnc168 := NB238_237.out; have hnb169 := NB237_242.out; have hnc169 := NB242_237.out; have hcz170_0 : w161.cell? ⟨gb237, 0, none⟩ = some (.int .i64 a1_0) := CZ BK237.out 0; have hcz170_1 : w161.cell? ⟨gb237, 1, none⟩ = some (.string a1_1) := CZ BK237.out 1; have hcz170_2 : w161.cell? ⟨gb237, 2, none⟩ = some (.string a1_2) := CZ BK237.out 2; have hcz170_3 : w161.cell? ⟨gb237, 3, none⟩ = some (.string a1_3) := CZ BK237.out 3; have hfz170_0 := blk_frozen BK237.out 0; have hfz170_1 := blk_frozen BK237.out 1; have hfz170_2 := blk_frozen BK237.out 2; have hfz170_3 := blk_frozen BK237.out 3))
     (try simp only [Act.put, zA, zB, zC])
     go_cut [82] (fun v82 wc => ∃ (kq : Nat) (x82_159 : Bool), v82 = .bool x82_159 ∧ Aside0 (impl_DoAct.j2 kq x82_159 l0_0 a1_0 a1_1 a1_2 a1_3 x243000_48 x243001_48 x243002_48 = some (r1, r2)) ∧ Aside0 (kq ≤ kj48) ∧ Aside0 (wc.heap[gb236]? = some (.cells #[(.slice A0_0 l0_0.length c0_0)] 29 (0, 0))) ∧ Aside0 (wc.heap[gb237]? = some (.cells #[.int .i64 a1_0, .string a1_1, .string a1_2, .string a1_3] 55 (0, 0))) ∧ Aside0 (wc.heap[gb238]? = some (.cells #[(.slice none 0 0)] 29 (0, 0))) ∧ Aside0 (wc.heap[gb242]? = some (.cells #[.string x243000_48, .string x243001_48, .int .i64 x243002_48] 45 (0, 0))) ∧ Aside0 (wc.heap[gb244]? = some (.cells #[(.slice none 0 0)] 29 (0, 0))) ∧ Aside0 (Below w.heap.size w wc))
     case first =>
      have H := HC160.out
      clear HC160
      by_cases c171 : x243002_48 = (x243001_48.size : Int); rotate_left
      ·
       rw [if_neg c171] at H
       have c171b0 : (x243002_48 == (x243001_48.size : Int)) = false := beq_eq_false_iff_ne.mpr c171
       have c171b1 : (x243002_48 != (x243001_48.size : Int)) = true := bne_iff_ne.mpr c171
       (first | rw [c171b0] | (simp only [i64_w, i32_w]; rw [c171b0]) | skip)
       have H' := Aside0.mk H
       clear H
       have hnb181 := NB242_236.out
       have hnc181 := NB236_242.out
       have hnb182 := NB242_237.out
       have hnc182 := NB237_242.out
       have hnb183 := NB242_238.out
       have hnc183 := NB238_242.out
       have hnb184 := NB242_244.out
       have hnc184 := NB244_242.out
       have hcz185_0 : w161.cell? ⟨gb242, 0, none⟩ = some (.string x243000_48) := CZ BK242.out 0
       have hcz185_1 : w161.cell? ⟨gb242, 1, none⟩ = some (.string x243001_48) := CZ BK242.out 1
       have hcz185_2 : w161.cell? ⟨gb242, 2, none⟩ = some (.int .i64 x243002_48) := CZ BK242.out 2
       have hfz185_0 := blk_frozen BK242.out 0
       have hfz185_1 := blk_frozen BK242.out 1
       have hfz185_2 := blk_frozen BK242.out 2
       go_wp2
       go_meet
       case rel => exact ⟨_, (true), SD, H', ⟨by have := HJ3.out; have := HJ48.out; first | omega | exact Nat.le_refl _⟩, ⟨by (with_reducible repeat (first | apply b1 | apply b2 | apply b3)); refine blk_far ?_ NB236_244.out _; (with_reducible repeat (first | apply b1 | apply b2 | apply b3)); exact BK236.out⟩, ⟨by (with_reducible repeat (first | apply b1 | apply b2 | apply b3)); refine blk_far ?_ NB237_244.out _; (with_reducible repeat (first | apply b1 | apply b2 | apply b3)); exact BK237.out⟩, ⟨by (with_reducible repeat (first | apply b1 | apply b2 | apply b3)); refine blk_far ?_ NB238_244.out _; (with_reducible repeat (first | apply b1 | apply b2 | apply b3)); exact BK238.out⟩, ⟨by (with_reducible repeat (first | apply b1 | apply b2 | apply b3)); refine blk_far ?_ NB242_244.out _; (with_reducible repeat (first | apply b1 | apply b2 | apply b3)); exact BK242.out⟩, ⟨by (with_reducible repeat (first | apply b1 | apply b2 | apply b3)); refine blk_put (cs := #[.slice none 0 0]) ?_ 0 _ rfl; (with_reducible repeat (first | apply b1 | apply b2 | apply b3)); exact BK244.out⟩, ⟨BL⟩⟩
      rw [if_pos c171] at H
      have c171b0 : (x243002_48 == (x243001_48.size : Int)) = true := beq_iff_eq.mpr c171
      have c171b1 : (x243002_48 != (x243001_48.size : Int)) = false := bne_eq_false_iff_eq.mpr c171
      clear c171
      (first | rw [c171b0] | (simp only [i64_w, i32_w]; rw [c171b0]) | skip)
      have H' := Aside0.mk H
      clear H
      have hnb172 := NB242_236.out
      have hnc172 := NB236_242.out
      have hnb173 := NB242_237.out
      have hnc173 := NB237_242.out
      have hnb174 := NB242_238.out
      have hnc174 := NB238_242.out
      have hnb175 := NB242_244.out
      have hnc175 := NB244_242.out
      have hcz176_0 : w161.cell? ⟨gb242, 0, none⟩ = some (.string x243000_48) := CZ BK242.out 0
      have hcz176_1 : w161.cell? ⟨gb242, 1, none⟩ = some (.string x243001_48) := CZ BK242.out 1
      have hcz176_2 : w161.cell? ⟨gb242, 2, none⟩ = some (.int .i64 x243002_48) := CZ BK242.out 2
      have hfz176_0 := blk_frozen BK242.out 0
      have hfz176_1 := blk_frozen BK242.out 1
      have hfz176_2 := blk_frozen BK242.out 2
      have hnb177 := NB237_236.out
      have hnc177 := NB236_237.out
      have hnb178 := NB237_238.out
      have hnc178 := NB238_237.out
      have hnb179 := NB237_244.out
      have hnc179 := NB244_237.out
      have hcz180_0 : w161.cell? ⟨gb237, 0, none⟩ = some (.int .i64 a1_0) := CZ BK237.out 0
      have hcz180_1 : w161.cell? ⟨gb237, 1, none⟩ = some (.string a1_1) := CZ BK237.out 1
      have hcz180_2 : w161.cell? ⟨gb237, 2, none⟩ = some (.string a1_2) := CZ BK237.out 2
      have hcz180_3 : w161.cell? ⟨gb237, 3, none⟩ = some (.string a1_3) := CZ BK237.out 3
      have hfz180_0 := blk_frozen BK237.out 0
      have hfz180_1 := blk_frozen BK237.out 1
      have hfz180_2 := blk_frozen BK237.out 2
      have hfz180_3 := blk_frozen BK237.out 3
      go_wp2
      go_meet
      case rel => exact ⟨_, ((a1_3.toList == a1_1.toList)), SD, H', ⟨by have := HJ3.out; have := HJ48.out; first | omega | exact Nat.le_refl _⟩, ⟨by (with_reducible repeat (first | apply b1 | apply b2 | apply b3)); refine blk_far ?_ NB236_244.out _; (with_reducible repeat (first | apply b1 | apply b2 | apply b3)); exact BK236.out⟩, ⟨by (with_reducible repeat (first | apply b1 | apply b2 | apply b3)); refine blk_far ?_ NB237_244.out _; (with_reducible repeat (first | apply b1 | apply b2 | apply b3)); exact BK237.out⟩, ⟨by (with_reducible repeat (first | apply b1 | apply b2 | apply b3)); refine blk_far ?_ NB238_244.out _; (with_reducible repeat (first | apply b1 | apply b2 | apply b3)); exact BK238.out⟩, ⟨by (with_reducible repeat (first | apply b1 | apply b2 | apply b3)); refine blk_far ?_ NB242_244.out _; (with_reducible repeat (first | apply b1 | apply b2 | apply b3)); exact BK242.out⟩, ⟨by (with_reducible repeat (first | apply b1 | apply b2 | apply b3)); refine blk_put (cs := #[.slice none 0 0]) ?_ 0 _ rfl; (with_reducible repeat (first | apply b1 | apply b2 | apply b3)); exact BK244.out⟩, ⟨BL⟩⟩
     case rest =>
      clear HC160
      try clear c1
      try clear c2
      try clear p2
      try clear q2
      try clear hx2
      try clear c3
      try clear c4
      try clear c5
      try clear c6
      try clear c7
      try clear c8
      try clear c9
      try clear c10
      try clear c11
      try clear c12
      try clear c13
      try clear c14
      try clear c15
      try clear c16
      try clear c17
      try clear c18
      try clear c18b0
      try clear c19
      try clear c20
      try clear c23
      try clear p24
      try clear q24
      try clear hx24
      try clear c27
      try clear c28
      try clear c31
      try clear c34
      try clear c35
      try clear c37
      try clear c38
      try clear c41
      try clear c42
      try clear c45
      try clear c46
      try clear c47
      try clear c50
      try clear c51
      try clear c54
      try clear c55
      try clear c56
      try clear c58
      try clear c58b0
      try clear c59
      try clear c59b0
      try clear c60
      try clear c60b0
      try clear c61
      try clear c62
      try clear c63
      try clear c65
      try clear c66
      try clear c68
      try clear c68b0
      try clear c68b1
      try clear c69
      try clear c69b0
      try clear c69b1
      try clear c69b2
      try clear c72
      try clear c74
      try clear c75
      try clear c76
      try clear c77
      try clear c79
      try clear c80
      try clear c81
      try clear c83
      try clear c84
      try clear c86
      try clear c95
      try clear c96
      try clear c97
      try clear c98
      try clear c100
      try clear c101
      try clear c102
      try clear c104
      try clear c105
      try clear c107
      try clear c114
      try clear c114b0
      try clear c114b1
      try clear c117
      try clear c119
      try clear c120
      try clear c121
      try clear c122
      try clear c124
      try clear c125
      try clear c126
      try clear c128
      try clear c129
      try clear c131
      try clear c140
      try clear c141
      try clear c142
      try clear c143
      try clear c145
      try clear c146
      try clear c147
      try clear c149
      try clear c150
      try clear c152
      try clear c159
      try clear c159b0
      try clear c159b1
      try clear c162
      try clear c163
      try clear c164
      try clear c165
      try clear c167
      try clear c168
      try clear c169
      try clear c171
      try clear c171b0
      try clear c171b1
      try clear c172
      try clear c173
      try clear c174
      try clear c175
      try clear c177
      try clear c178
      try clear c179
      try clear c181
      try clear c182
      try clear c183
      try clear c184
      try clear hcz103_0
      try clear hcz103_1
      try clear hcz103_2
      try clear hcz103_3
      try clear hcz106_0
      try clear hcz106_1
      try clear hcz106_2
      try clear hcz108_0
      try clear hcz10_0
      try clear hcz111_0
      try clear hcz113_0
      try clear hcz123_0
      try clear hcz127_0
      try clear hcz127_1
      try clear hcz127_2
      try clear hcz127_3
      try clear hcz12_0
      try clear hcz12_1
      try clear hcz12_2
      try clear hcz12_3
      try clear hcz130_0
      try clear hcz130_1
      try clear hcz130_2
      try clear hcz132_0
      try clear hcz135_0
      try clear hcz137_0
      try clear hcz138_0
      try clear hcz144_0
      try clear hcz148_0
      try clear hcz148_1
      try clear hcz148_2
      try clear hcz148_3
      try clear hcz151_0
      try clear hcz151_1
      try clear hcz151_2
      try clear hcz153_0
      try clear hcz156_0
      try clear hcz158_0
      try clear hcz166_0
      try clear hcz170_0
      try clear hcz170_1
      try clear hcz170_2
      try clear hcz170_3
      try clear hcz176_0
      try clear hcz176_1
      try clear hcz176_2
      try clear hcz180_0
      try clear hcz180_1
      try clear hcz180_2
      try clear hcz180_3
      try clear hcz185_0
      try clear hcz185_1
      try clear hcz185_2
      try clear hcz21_0
      try clear hcz24_0
      try clear hcz24_1
      try clear hcz24_2
      try clear hcz24_3
      try clear hcz26_0
      try clear hcz26_1
      try clear hcz26_2
      try clear hcz26_3
      try clear hcz29_0
      try clear hcz32_0
      try clear hcz32_1
      try clear hcz32_2
      try clear hcz32_3
      try clear hcz36_0
      try clear hcz39_0
      try clear hcz39_1
      try clear hcz39_2
      try clear hcz39_3
      try clear hcz43_0
      try clear hcz48_0
      try clear hcz52_0
      try clear hcz52_1
      try clear hcz52_2
      try clear hcz52_3
      try clear hcz57_0
      try clear hcz57_1
      try clear hcz57_2
      try clear hcz64_0
      try clear hcz67_0
      try clear hcz67_1
      try clear hcz67_2
      try clear hcz78_0
      try clear hcz82_0
      try clear hcz82_1
      try clear hcz82_2
      try clear hcz82_3
      try clear hcz85_0
      try clear hcz85_1
      try clear hcz85_2
      try clear hcz87_0
      try clear hcz90_0
      try clear hcz92_0
      try clear hcz93_0
      try clear hcz99_0
      try clear hfz103_0
      try clear hfz103_1
      try clear hfz103_2
      try clear hfz103_3
      try clear hfz106_0
      try clear hfz106_1
      try clear hfz106_2
      try clear hfz108_0
      try clear hfz10_0
      try clear hfz111_0
      try clear hfz113_0
      try clear hfz123_0
      try clear hfz127_0
      try clear hfz127_1
      try clear hfz127_2
      try clear hfz127_3
      try clear hfz12_0
      try clear hfz12_1
      try clear hfz12_2
      try clear hfz12_3
      try clear hfz130_0
      try clear hfz130_1
      try clear hfz130_2
      try clear hfz132_0
      try clear hfz135_0
      try clear hfz137_0
      try clear hfz138_0
      try clear hfz144_0
      try clear hfz148_0
      try clear hfz148_1
      try clear hfz148_2
      try clear hfz148_3
      try clear hfz151_0
      try clear hfz151_1
      try clear hfz151_2
      try clear hfz153_0
      try clear hfz156_0
      try clear hfz158_0
      try clear hfz166_0
      try clear hfz170_0
      try clear hfz170_1
      try clear hfz170_2
      try clear hfz170_3
      try clear hfz176_0
      try clear hfz176_1
      try clear hfz176_2
      try clear hfz180_0
      try clear hfz180_1
      try clear hfz180_2
      try clear hfz180_3
      try clear hfz185_0
      try clear hfz185_1
      try clear hfz185_2
      try clear hfz21_0
      try clear hfz24_0
      try clear hfz24_1
      try clear hfz24_2
      try clear hfz24_3
      try clear hfz26_0
      try clear hfz26_1
      try clear hfz26_2
      try clear hfz26_3
      try clear hfz29_0
      try clear hfz32_0
      try clear hfz32_1
      try clear hfz32_2
      try clear hfz32_3
      try clear hfz36_0
      try clear hfz39_0
      try clear hfz39_1
      try clear hfz39_2
      try clear hfz39_3
      try clear hfz43_0
      try clear hfz48_0
      try clear hfz52_0
      try clear hfz52_1
      try clear hfz52_2
      try clear hfz52_3
      try clear hfz57_0
      try clear hfz57_1
      try clear hfz57_2
      try clear hfz64_0
      try clear hfz67_0
      try clear hfz67_1
      try clear hfz67_2
      try clear hfz78_0
      try clear hfz82_0
      try clear hfz82_1
      try clear hfz82_2
      try clear hfz82_3
      try clear hfz85_0
      try clear hfz85_1
      try clear hfz85_2
      try clear hfz87_0
      try clear hfz90_0
      try clear hfz92_0
      try clear hfz93_0
      try clear hfz99_0
      try clear hx243_0
      try clear hx243_1
      try clear hx243_2
      try clear p2
      try clear p24
      try clear p243
      try clear q2
      try clear q24
      try clear q243
      obtain ⟨kq, x82_159, rfl, HA, HJ159, BK236, BK237, BK238, BK242, BK244, HB⟩ := hcut
      cases kq with
      | zero => exact absurd HA.out (by simp [impl_DoAct.j2])
      | succ kj159 =>
       have H := HA.out
       clear HA
       simp only [impl_DoAct.j2] at H
       by_cases c186 : x82_159 = true
       ·
        subst c186
        have H1 : (some (([] : List (S45)), false)) = some (r1, r2) := by rw [if_pos rfl] at H; exact H
        clear H
        have H := H1
        clear H1
        simp only [Option.some.injEq, Prod.mk.injEq] at H
        obtain ⟨rfl, rfl⟩ := H
        have hnb187 := NB238_236.out
        have hnc187 := NB236_238.out
        have hnb188 := NB238_237.out
        have hnc188 := NB237_238.out
        have hnb189 := NB238_242.out
        have hnc189 := NB242_238.out
        have hnb190 := NB238_244.out
        have hnc190 := NB244_238.out
        have hcz191_0 : wc.cell? ⟨gb238, 0, none⟩ = some (.slice none 0 0) := CZ BK238.out 0
        have hfz191_0 := blk_frozen BK238.out 0
        go_wp2
        refine bodyPost_ret (results_ct rfl _ _ gb238 29 #[.slice none 0 0] (0, 0) _ rfl (by (with_reducible repeat (first | apply b1 | apply b2 | apply b3)); refine blk_put (cs := #[.slice none 0 0]) ?_ 0 _ rfl; (with_reducible repeat (first | apply b1 | apply b2 | apply b3)); exact BK238.out) Try.underlying29 rfl (by kernel_rfl)) rfl ?_
        exact ⟨_, EE, by first | exact Kd.R_nil _ _ _ _ _ | exact Kd.N_nil _ _ _ _ _ | exact Kd.V_nil _ _ _ _ _ | exact Kd.Q_nil _ _ _ _ _ | exact Kd.S_nil _ _ _ _ _, BL⟩
       replace c186 := Bool.eq_false_iff.mpr c186
       subst c186
       have H1 : ((impl_withoutFile.f l0_0 a1_1).bind fun t253 => ((impl_withFile.f t253 a1_3 x243001_48 x243002_48).bind fun t256 => ((impl_DiskOk.f kj159 t256).bind fun t259 => (if t259 = true then (some (t256, true)) else (some (([] : List (S45)), false)))))) = some (r1, r2) := by rw [if_neg (show ¬ (false = true) by decide)] at H; exact H
       clear H
       have H := H1
       clear H1
       replace H := Option.bind_eq_some_iff.mp H
       obtain ⟨t253, A1920, H⟩ := H
       replace H : ((impl_withFile.f t253 a1_3 x243001_48 x243002_48).bind fun t256 => ((impl_DiskOk.f kj159 t256).bind fun t259 => (if t259 = true then (some (t256, true)) else (some (([] : List (S45)), false))))) = some (r1, r2) := H
       have A192 := Aside0.mk A1920
       clear A1920
       replace H := Option.bind_eq_some_iff.mp H
       obtain ⟨t256, A1930, H⟩ := H
       replace H : ((impl_DiskOk.f kj159 t256).bind fun t259 => (if t259 = true then (some (t256, true)) else (some (([] : List (S45)), false)))) = some (r1, r2) := H
       have A193 := Aside0.mk A1930
       clear A1930
       replace H := Option.bind_eq_some_iff.mp H
       obtain ⟨t259, A1940, H⟩ := H
       replace H : (if t259 = true then (some (t256, true)) else (some (([] : List (S45)), false))) = some (r1, r2) := H
       have A194 := Aside0.mk A1940
       clear A1940
       by_cases c195 : t259 = true
       ·
        subst c195
        have H1 : (some (t256, true)) = some (r1, r2) := by rw [if_pos rfl] at H; exact H
        clear H
        have H := H1
        clear H1
        simp only [Option.some.injEq, Prod.mk.injEq] at H
        obtain ⟨rfl, rfl⟩ := H
        have hnb196 := NB237_236.out
        have hnc196 := NB236_237.out
        have hnb197 := NB237_238.out
        have hnc197 := NB238_237.out
        have hnb198 := NB237_242.out
        have hnc198 := NB242_237.out
        have hnb199 := NB237_244.out
        have hnc199 := NB244_237.out
        have hcz200_0 : wc.cell? ⟨gb237, 0, none⟩ = some (.int .i64 a1_0) := CZ BK237.out 0
        have hcz200_1 : wc.cell? ⟨gb237, 1, none⟩ = some (.string a1_1) := CZ BK237.out 1
        have hcz200_2 : wc.cell? ⟨gb237, 2, none⟩ = some (.string a1_2) := CZ BK237.out 2
        have hcz200_3 : wc.cell? ⟨gb237, 3, none⟩ = some (.string a1_3) := CZ BK237.out 3
        have hfz200_0 := blk_frozen BK237.out 0
        have hfz200_1 := blk_frozen BK237.out 1
        have hfz200_2 := blk_frozen BK237.out 2
        have hfz200_3 := blk_frozen BK237.out 3
        have hnb201 := NB242_236.out
        have hnc201 := NB236_242.out
        have hnb202 := NB242_238.out
        have hnc202 := NB238_242.out
        have hnb203 := NB242_244.out
        have hnc203 := NB244_242.out
        have hcz204_0 : wc.cell? ⟨gb242, 0, none⟩ = some (.string x243000_48) := CZ BK242.out 0
        have hcz204_1 : wc.cell? ⟨gb242, 1, none⟩ = some (.string x243001_48) := CZ BK242.out 1
        have hcz204_2 : wc.cell? ⟨gb242, 2, none⟩ = some (.int .i64 x243002_48) := CZ BK242.out 2
        have hfz204_0 := blk_frozen BK242.out 0
        have hfz204_1 := blk_frozen BK242.out 1
        have hfz204_2 := blk_frozen BK242.out 2
        try go_wp2
        have n0_ : Aside0 ((wc.setCell ⟨gb242, 0, none⟩ (.string a1_3)).heap[gb236]? = some (.cells #[.slice A0_0 l0_0.length c0_0] 29 (0, 0))) := ⟨by (with_reducible repeat (first | apply b1 | apply b2 | apply b3)); refine blk_far ?_ NB236_242.out _; (with_reducible repeat (first | apply b1 | apply b2 | apply b3)); exact BK236.out⟩
        have n1_ : Aside0 ((wc.setCell ⟨gb242, 0, none⟩ (.string a1_3)).heap[gb237]? = some (.cells #[.int .i64 a1_0, .string a1_1, .string a1_2, .string a1_3] 55 (0, 0))) := ⟨by (with_reducible repeat (first | apply b1 | apply b2 | apply b3)); refine blk_far ?_ NB237_242.out _; (with_reducible repeat (first | apply b1 | apply b2 | apply b3)); exact BK237.out⟩
        have n2_ : Aside0 ((wc.setCell ⟨gb242, 0, none⟩ (.string a1_3)).heap[gb238]? = some (.cells #[.slice none 0 0] 29 (0, 0))) := ⟨by (with_reducible repeat (first | apply b1 | apply b2 | apply b3)); refine blk_far ?_ NB238_242.out _; (with_reducible repeat (first | apply b1 | apply b2 | apply b3)); exact BK238.out⟩
        have n3_ : Aside0 ((wc.setCell ⟨gb242, 0, none⟩ (.string a1_3)).heap[gb242]? = some (.cells #[.string a1_3, .string x243001_48, .int .i64 x243002_48] 45 (0, 0))) := ⟨by (with_reducible repeat (first | apply b1 | apply b2 | apply b3)); refine blk_put (cs := #[.string x243000_48, .string x243001_48, .int .i64 x243002_48]) ?_ 0 _ rfl; (with_reducible repeat (first | apply b1 | apply b2 | apply b3)); exact BK242.out⟩
        have n4_ : Aside0 ((wc.setCell ⟨gb242, 0, none⟩ (.string a1_3)).heap[gb244]? = some (.cells #[.slice none 0 0] 29 (0, 0))) := ⟨by (with_reducible repeat (first | apply b1 | apply b2 | apply b3)); refine blk_far ?_ NB244_242.out _; (with_reducible repeat (first | apply b1 | apply b2 | apply b3)); exact BK244.out⟩
        have n5_ : Aside0 (Below w.heap.size w (wc.setCell ⟨gb242, 0, none⟩ (.string a1_3))) := ⟨BL⟩
        (try clear BK236)
        (try clear BK237)
        (try clear BK238)
        (try clear BK242)
        (try clear BK244)
        (try clear HB)
        generalize (wc.setCell ⟨gb242, 0, none⟩ (.string a1_3)) = w205 at n0_ n1_ n2_ n3_ n4_ n5_ ⊢
        have BK236 := n0_
        have BK237 := n1_
        have BK238 := n2_
        have BK242 := n3_
        have BK244 := n4_
        have HB := n5_
        clear n0_ n1_ n2_ n3_ n4_ n5_
        have n0_ := Aside0.mk (blk_drew BK236.out)
        have n1_ := Aside0.mk (blk_drew BK237.out)
        have n2_ := Aside0.mk (blk_drew BK238.out)
        have n3_ := Aside0.mk (blk_drew BK242.out)
        have n4_ := Aside0.mk (blk_drew BK244.out)
        have n5_ := Aside0.mk (below_drew1 HB.out)
        clear BK236
        clear BK237
        clear BK238
        clear BK242
        clear BK244
        clear HB
        have BK236 := n0_
        have BK237 := n1_
        have BK238 := n2_
        have BK242 := n3_
        have BK244 := n4_
        have HB := n5_
        clear n0_ n1_ n2_ n3_ n4_ n5_
        refine start_ (n := 7) (S := fun w' => w'.cell? ⟨gb236, 0, none⟩ = some (.slice A0_0 l0_0.length c0_0) ∧ w'.cell? ⟨gb237, 0, none⟩ = some (.int .i64 a1_0) ∧ w'.cell? ⟨gb237, 1, none⟩ = some (.string a1_1) ∧ w'.cell? ⟨gb237, 2, none⟩ = some (.string a1_2) ∧ w'.cell? ⟨gb237, 3, none⟩ = some (.string a1_3) ∧ w'.cell? ⟨gb242, 0, none⟩ = some (.string a1_3) ∧ w'.cell? ⟨gb242, 1, none⟩ = some (.string x243001_48) ∧ w'.cell? ⟨gb242, 2, none⟩ = some (.int .i64 x243002_48)) (ds := []) #[false, false, false, false, false, false, false] (by kernel_rfl) rfl rfl ⟨CZ BK236.out 0, CZ BK237.out 0, CZ BK237.out 1, CZ BK237.out 2, CZ BK237.out 3, CZ BK242.out 0, CZ BK242.out 1, CZ BK242.out 2⟩ (fun hHeld => ?_)
        generalize w205.drew = w206 at BK236 BK237 BK238 BK242 BK244 HB hHeld ⊢
        refine pure_ (i := 1) (N := some 88) (v := ?_) (a' := ?_) (OB 7 2) rfl rfl (by kernel_rfl) (fun _ _ _ h => h) (Or.inl ⟨by rfl, ?_⟩) ?_ ?_
        rotate_left
        ·
         intro w'
         go_simp
         with_reducible rfl
        rotate_left
        ·
         simp only [Act.put, zA, zB, zC, i64_w, i32_w]
         rfl
        refine take_ (i := 0) (N := some 87) (v := ?_) (a' := ?_) (OB 7 3) rfl rfl (by kernel_rfl) (fun _ _ _ h => h) (Or.inl ⟨by rfl, ?_⟩) hHeld ?_ ?_
        rotate_left
        ·
         rintro w' ⟨s0, s1, s2, s3, s4, s5, s6, s7⟩
         go_simp
         with_reducible rfl
        rotate_left
        ·
         simp only [Act.put, zA, zB, zC, i64_w, i32_w]
         rfl
        refine take_ (i := 2) (N := some 89) (v := ?_) (a' := ?_) (OB 7 7) rfl rfl (by kernel_rfl) (fun _ _ _ h => h) (Or.inl ⟨by rfl, ?_⟩) hHeld ?_ ?_
        rotate_left
        ·
         rintro w' ⟨s0, s1, s2, s3, s4, s5, s6, s7⟩
         go_simp
         with_reducible rfl
        rotate_left
        ·
         simp only [Act.put, zA, zB, zC, i64_w, i32_w]
         rfl
        refine take_ (i := 4) (N := some 91) (v := ?_) (a' := ?_) (OB 7 23) rfl rfl (by kernel_rfl) (fun _ _ _ h => h) (Or.inl ⟨by rfl, ?_⟩) hHeld ?_ ?_
        rotate_left
        ·
         rintro w' ⟨s0, s1, s2, s3, s4, s5, s6, s7⟩
         go_simp
         with_reducible rfl
        rotate_left
        ·
         simp only [Act.put, zA, zB, zC, i64_w, i32_w]
         rfl
        refine one_ (i := 3) (N := some 90) (OB 7 31) rfl rfl (by kernel_rfl) (by decide) (fun K hK => ?_)
        refine goes_ Try.func67 (by kernel_rfl) rfl #[.agg #[.slice A0_0 l0_0.length c0_0], .string a1_1] (by rfl) rfl rfl (MA) ?_
        with_reducible refine (impl_withoutFile.calls _ _ l0_0 a1_1 t253 _ ?side1 ?side2 A192.out).mono ?_
        (case side1 => repeat (first | exact (Kd.C_below HR0_0.out HB.out) | (with_reducible refine Kd.C_alloc ?_ _) | (with_reducible refine Kd.C_drewN ?_ _) | (with_reducible refine Kd.C_drew ?_)))
        (case side2 => exact HC0_0.out)
        rintro e w207 ⟨v254, rfl, ho0, hb⟩
        refine ⟨_, rfl, ?_⟩
        have n0_ := Aside0.mk (Kd.R_lower (Kd.R_newB ho0 (g := gb242) (o := .cells #[.string a1_3, .string x243001_48, .int .i64 x243002_48] 45 (0, 0)) (BQ BK242.out)) (below_size (BL)))
        have n1_ := BB BK236.out hb
        have n2_ := BB BK237.out hb
        have n3_ := BB BK238.out hb
        have n4_ := BB BK242.out hb
        have n5_ := BB BK244.out hb
        have n6_ := Aside0.mk (below_step (BL) hb)
        clear BK236
        clear BK237
        clear BK238
        clear BK242
        clear BK244
        clear HB
        have HO255 := n0_
        have BK236 := n1_
        have BK237 := n2_
        have BK238 := n3_
        have BK242 := n4_
        have BK244 := n5_
        have HB := n6_
        clear n0_ n1_ n2_ n3_ n4_ n5_ n6_
        (try clear hb)
        (try clear hb2)
        (try clear hk)
        (try clear hi)
        (try clear ho0)
        obtain ⟨Ao208, co208, eo208⟩ := Kd.R_slice HO255.out
        (first | subst eo208 | (injection eo208 with f1_ f2_ f3_; have f4_ := f1_.symm; have f5_ := f3_.symm; clear f1_ f2_ f3_; subst f4_; subst f5_))
        refine hK.out _ _ ⟨CZ BK236.out 0, CZ BK237.out 0, CZ BK237.out 1, CZ BK237.out 2, CZ BK237.out 3, CZ BK242.out 0, CZ BK242.out 1, CZ BK242.out 2⟩ (fun hHeld => ?_)
        clear hK K
        refine norm_ (a' := ?_) ?_ ?_
        rotate_left
        ·
         show Act.put _ (some 90) _ = _
         simp only [Act.put, zA, zB, zC, i64_w, i32_w]
         rfl
        refine one_ (i := 5) (N := some 92) (OB 7 63) rfl rfl (by kernel_rfl) (by decide) (fun K hK => ?_)
        refine goes_ Try.func66 (by kernel_rfl) rfl #[.agg #[.slice Ao208 t253.length co208], .agg #[.string a1_3, .string x243001_48, .int .i64 x243002_48]] (by rfl) rfl rfl (MA) ?_
        with_reducible refine (impl_withFile.calls _ _ t253 a1_3 x243001_48 x243002_48 t256 _ ?side1 ?side2 A193.out).mono ?_
        (case side1 => repeat (first | exact (Kd.R_reads' HO255.out).2.2 | (with_reducible refine Kd.C_alloc ?_ _) | (with_reducible refine Kd.C_drewN ?_ _) | (with_reducible refine Kd.C_drew ?_)))
        (case side2 => exact (Kd.R_reads' HO255.out).2.1)
        rintro e w209 ⟨v257, rfl, ho0, hb⟩
        refine ⟨_, rfl, ?_⟩
        have n0_ := Aside0.mk (Kd.R_elder' (RQ HO255.out) (Kd.R_base ho0) hb)
        have n1_ := Aside0.mk (Kd.R_lower (Kd.R_newB (Kd.R_new' ho0 (Kd.R_lt (RQ HO255.out))) (g := gb242) (o := .cells #[.string a1_3, .string x243001_48, .int .i64 x243002_48] 45 (0, 0)) (BQ BK242.out)) (below_size (BL)))
        have n2_ := BB BK236.out hb
        have n3_ := BB BK237.out hb
        have n4_ := BB BK238.out hb
        have n5_ := BB BK242.out hb
        have n6_ := BB BK244.out hb
        have n7_ := Aside0.mk (below_step (BL) hb)
        clear HO255
        clear BK236
        clear BK237
        clear BK238
        clear BK242
        clear BK244
        clear HB
        have HO255 := n0_
        have HO258 := n1_
        have BK236 := n2_
        have BK237 := n3_
        have BK238 := n4_
        have BK242 := n5_
        have BK244 := n6_
        have HB := n7_
        clear n0_ n1_ n2_ n3_ n4_ n5_ n6_ n7_
        (try clear hb)
        (try clear hb2)
        (try clear hk)
        (try clear hi)
        (try clear ho0)
        obtain ⟨Ao210, co210, eo210⟩ := Kd.R_slice HO258.out
        (first | subst eo210 | (injection eo210 with f1_ f2_ f3_; have f4_ := f1_.symm; have f5_ := f3_.symm; clear f1_ f2_ f3_; subst f4_; subst f5_))
        refine hK.out _ _ ⟨CZ BK236.out 0, CZ BK237.out 0, CZ BK237.out 1, CZ BK237.out 2, CZ BK237.out 3, CZ BK242.out 0, CZ BK242.out 1, CZ BK242.out 2⟩ (fun hHeld => ?_)
        clear hK K
        refine norm_ (a' := ?_) ?_ ?_
        rotate_left
        ·
         show Act.put _ (some 92) _ = _
         simp only [Act.put, zA, zB, zC, i64_w, i32_w]
         rfl
        refine one_ (i := 6) (N := none) (OB 7 127) rfl rfl (by kernel_rfl) (by decide) (fun K hK => ?_)
        have hs211 : w209.cell? ⟨gb244, 0, none⟩ = some (.slice none 0 0) := CZ BK244.out 0
        have hfs211 := blk_frozen BK244.out 0
        have hns211_0 := NB236_244.out
        have hns211_1 := NB237_244.out
        have hns211_2 := NB238_244.out
        have hns211_3 := NB242_244.out
        have hms211_0 := NB244_236.out
        have hms211_1 := NB244_237.out
        have hms211_2 := NB244_238.out
        have hms211_3 := NB244_242.out
        refine skip_ (w1 := ?_) (by rfl) rfl ?_ ?_
        rotate_left
        ·
         go_simp
         rfl
        refine hK.out _ _ ⟨((cell_far (p := ⟨gb244, _, none⟩) NB236_244.out _).trans (hHeld.1)), ((cell_far (p := ⟨gb244, _, none⟩) NB237_244.out _).trans (hHeld.2.1)), ((cell_far (p := ⟨gb244, _, none⟩) NB237_244.out _).trans (hHeld.2.2.1)), ((cell_far (p := ⟨gb244, _, none⟩) NB237_244.out _).trans (hHeld.2.2.2.1)), ((cell_far (p := ⟨gb244, _, none⟩) NB237_244.out _).trans (hHeld.2.2.2.2.1)), ((cell_far (p := ⟨gb244, _, none⟩) NB242_244.out _).trans (hHeld.2.2.2.2.2.1)), ((cell_far (p := ⟨gb244, _, none⟩) NB242_244.out _).trans (hHeld.2.2.2.2.2.2.1)), ((cell_far (p := ⟨gb244, _, none⟩) NB242_244.out _).trans (hHeld.2.2.2.2.2.2.2))⟩ (fun hHeld => ?_)
        clear hK K
        refine done_ (by kernel_rfl) ?_
        have hnb212 := NB244_236.out
        have hnc212 := NB236_244.out
        have hnb213 := NB244_238.out
        have hnc213 := NB238_244.out
        have hcz214_0 : w209.cell? ⟨gb244, 0, none⟩ = some (.slice none 0 0) := CZ BK244.out 0
        have hfz214_0 := blk_frozen BK244.out 0
        try go_wp2_with (first | ((with_reducible refine gate_callee (f := 15) rfl ?_); refine goesL_ (some 94) rfl rfl Try.func15 (by kernel_rfl) rfl #[.agg #[.slice Ao210 t256.length co210]] rfl (MA) ?_; (with_reducible refine (impl_DiskOk.calls kj159 _ _ t256 true _ ?side1 ?side2 A194.out).mono ?_); (case side1 => refine (Kd.R_reads' (e := 45) (base := w.heap.size) (ok := fun k_ => ((True ∧ some k_ ≠ (.slice Ao208 t253.length co208 : Value).ownBlock) ∧ k_ ≠ gb242)) (n := t256.length) (c := co210) ?_).2.2; exact (by (with_reducible repeat (first | apply r1 | apply r2 | apply r3)); exact (Kd.R_mono (Kd.R_far (p := ⟨gb244, 0, none⟩) (Kd.R_types HO258.out BK244.out (by decide)) (fun _ hk => hk.2) (.slice Ao210 t256.length co210)) (fun _ h_ => h_.1)))); (case side2 => exact (Kd.R_reads' HO258.out).2.1); rintro e w215 ⟨rfl, hb⟩; refine ⟨_, rfl, ?_⟩; replace HO255 := Aside0.mk (Kd.R_below (by (with_reducible repeat (first | apply r1 | apply r2 | apply r3)); exact (Kd.R_mono (Kd.R_far (p := ⟨gb244, 0, none⟩) (Kd.R_types HO255.out BK244.out (by decide)) (fun _ hk => hk.2) (.slice Ao210 t256.length co210)) (fun _ h_ => h_.1))) hb); replace HO258 := Aside0.mk (Kd.R_below (by (with_reducible repeat (first | apply r1 | apply r2 | apply r3)); exact (Kd.R_mono (Kd.R_far (p := ⟨gb244, 0, none⟩) (Kd.R_types HO258.out BK244.out (by decide)) (fun _ hk => hk.2) (.slice Ao210 t256.length co210)) (fun _ h_ => h_.1))) hb); replace BK236 := Aside0.mk (blk_below (g := gb236) (o := .cells #[.slice A0_0 l0_0.length c0_0] 29 (0, 0)) (by (with_reducible repeat (first | apply b1 | apply b2 | apply b3)); refine blk_far ?_ NB236_244.out _; (with_reducible repeat (first | apply b1 | apply b2 | apply b3)); exact BK236.out) hb); replace BK237 := Aside0.mk (blk_below (g := gb237) (o := .cells #[.int .i64 a1_0, .string a1_1, .string a1_2, .string a1_3] 55 (0, 0)) (by (with_reducible repeat (first | apply b1 | apply b2 | apply b3)); refine blk_far ?_ NB237_244.out _; (with_reducible repeat (first | apply b1 | apply b2 | apply b3)); exact BK237.out) hb); replace BK238 := Aside0.mk (blk_below (g := gb238) (o := .cells #[.slice none 0 0] 29 (0, 0)) (by (with_reducible repeat (first | apply b1 | apply b2 | apply b3)); refine blk_far ?_ NB238_244.out _; (with_reducible repeat (first | apply b1 | apply b2 | apply b3)); exact BK238.out) hb); replace BK242 := Aside0.mk (blk_below (g := gb242) (o := .cells #[.string a1_3, .string x243001_48, .int .i64 x243002_48] 45 (0, 0)) (by (with_reducible repeat (first | apply b1 | apply b2 | apply b3)); refine blk_far ?_ NB242_244.out _; (with_reducible repeat (first | apply b1 | apply b2 | apply b3)); exact BK242.out) hb); replace BK244 := Aside0.mk (blk_below (g := gb244) (o := .cells #[.slice Ao210 t256.length co210] 29 (0, 0)) (by (with_reducible repeat (first | apply b1 | apply b2 | apply b3)); refine blk_put (cs := #[.slice none 0 0]) ?_ 0 _ rfl; (with_reducible repeat (first | apply b1 | apply b2 | apply b3)); exact BK244.out) hb); replace HB := Aside0.mk (below_step (BL) hb); (try clear hb); (try clear hb2); (try clear hk); (try clear hi); have hcz216_0 : w215.cell? ⟨gb244, 0, none⟩ = some (.slice Ao210 t256.length co210) := CZ BK244.out 0; have hfz216_0 := blk_frozen BK244.out 0; have hnb217 := NB238_236.out; have hnc217 := NB236_238.out; have hcz218_0 : w215.cell? ⟨gb238, 0, none⟩ = some (.slice none 0 0) := CZ BK238.out 0; have hfz218_0 := blk_frozen BK238.out 0))
        refine bodyPost_ret (results_ct rfl _ _ gb238 29 #[.slice Ao210 t256.length co210] (0, 0) _ rfl (by (with_reducible repeat (first | apply b1 | apply b2 | apply b3)); refine blk_put (cs := #[.slice none 0 0]) ?_ 0 _ rfl; (with_reducible repeat (first | apply b1 | apply b2 | apply b3)); exact BK238.out) Try.underlying29 rfl (by kernel_rfl)) rfl ?_
        exact ⟨_, EE, by (with_reducible repeat (first | apply r1 | apply r2 | apply r3)); exact Kd.R_mono (Kd.R_far (p := ⟨gb238, 0, none⟩) (Kd.R_types HO258.out BK238.out (by decide)) (fun _ hk => hk.2) (.slice Ao210 t256.length co210)) (fun _ hk => trivial), BL⟩
       replace c195 := Bool.eq_false_iff.mpr c195
       subst c195
       have H1 : (some (([] : List (S45)), false)) = some (r1, r2) := by rw [if_neg (show ¬ (false = true) by decide)] at H; exact H
       clear H
       have H := H1
       clear H1
       simp only [Option.some.injEq, Prod.mk.injEq] at H
       obtain ⟨rfl, rfl⟩ := H
       have hnb219 := NB237_236.out
       have hnc219 := NB236_237.out
       have hnb220 := NB237_238.out
       have hnc220 := NB238_237.out
       have hnb221 := NB237_242.out
       have hnc221 := NB242_237.out
       have hnb222 := NB237_244.out
       have hnc222 := NB244_237.out
       have hcz223_0 : wc.cell? ⟨gb237, 0, none⟩ = some (.int .i64 a1_0) := CZ BK237.out 0
       have hcz223_1 : wc.cell? ⟨gb237, 1, none⟩ = some (.string a1_1) := CZ BK237.out 1
       have hcz223_2 : wc.cell? ⟨gb237, 2, none⟩ = some (.string a1_2) := CZ BK237.out 2
       have hcz223_3 : wc.cell? ⟨gb237, 3, none⟩ = some (.string a1_3) := CZ BK237.out 3
       have hfz223_0 := blk_frozen BK237.out 0
       have hfz223_1 := blk_frozen BK237.out 1
       have hfz223_2 := blk_frozen BK237.out 2
       have hfz223_3 := blk_frozen BK237.out 3
       have hnb224 := NB242_236.out
       have hnc224 := NB236_242.out
       have hnb225 := NB242_238.out
       have hnc225 := NB238_242.out
       have hnb226 := NB242_244.out
       have hnc226 := NB244_242.out
       have hcz227_0 : wc.cell? ⟨gb242, 0, none⟩ = some (.string x243000_48) := CZ BK242.out 0
       have hcz227_1 : wc.cell? ⟨gb242, 1, none⟩ = some (.string x243001_48) := CZ BK242.out 1
       have hcz227_2 : wc.cell? ⟨gb242, 2, none⟩ = some (.int .i64 x243002_48) := CZ BK242.out 2
       have hfz227_0 := blk_frozen BK242.out 0
       have hfz227_1 := blk_frozen BK242.out 1
       have hfz227_2 := blk_frozen BK242.out 2
       try go_wp2
       have n0_ : Aside0 ((wc.setCell ⟨gb242, 0, none⟩ (.string a1_3)).heap[gb236]? = some (.cells #[.slice A0_0 l0_0.length c0_0] 29 (0, 0))) := ⟨by (with_reducible repeat (first | apply b1 | apply b2 | apply b3)); refine blk_far ?_ NB236_242.out _; (with_reducible repeat (first | apply b1 | apply b2 | apply b3)); exact BK236.out⟩
       have n1_ : Aside0 ((wc.setCell ⟨gb242, 0, none⟩ (.string a1_3)).heap[gb237]? = some (.cells #[.int .i64 a1_0, .string a1_1, .string a1_2, .string a1_3] 55 (0, 0))) := ⟨by (with_reducible repeat (first | apply b1 | apply b2 | apply b3)); refine blk_far ?_ NB237_242.out _; (with_reducible repeat (first | apply b1 | apply b2 | apply b3)); exact BK237.out⟩
       have n2_ : Aside0 ((wc.setCell ⟨gb242, 0, none⟩ (.string a1_3)).heap[gb238]? = some (.cells #[.slice none 0 0] 29 (0, 0))) := ⟨by (with_reducible repeat (first | apply b1 | apply b2 | apply b3)); refine blk_far ?_ NB238_242.out _; (with_reducible repeat (first | apply b1 | apply b2 | apply b3)); exact BK238.out⟩
       have n3_ : Aside0 ((wc.setCell ⟨gb242, 0, none⟩ (.string a1_3)).heap[gb242]? = some (.cells #[.string a1_3, .string x243001_48, .int .i64 x243002_48] 45 (0, 0))) := ⟨by (with_reducible repeat (first | apply b1 | apply b2 | apply b3)); refine blk_put (cs := #[.string x243000_48, .string x243001_48, .int .i64 x243002_48]) ?_ 0 _ rfl; (with_reducible repeat (first | apply b1 | apply b2 | apply b3)); exact BK242.out⟩
       have n4_ : Aside0 ((wc.setCell ⟨gb242, 0, none⟩ (.string a1_3)).heap[gb244]? = some (.cells #[.slice none 0 0] 29 (0, 0))) := ⟨by (with_reducible repeat (first | apply b1 | apply b2 | apply b3)); refine blk_far ?_ NB244_242.out _; (with_reducible repeat (first | apply b1 | apply b2 | apply b3)); exact BK244.out⟩
       have n5_ : Aside0 (Below w.heap.size w (wc.setCell ⟨gb242, 0, none⟩ (.string a1_3))) := ⟨BL⟩
       (try clear BK236)
       (try clear BK237)
       (try clear BK238)
       (try clear BK242)
       (try clear BK244)
       (try clear HB)
       generalize (wc.setCell ⟨gb242, 0, none⟩ (.string a1_3)) = w228 at n0_ n1_ n2_ n3_ n4_ n5_ ⊢
       have BK236 := n0_
       have BK237 := n1_
       have BK238 := n2_
       have BK242 := n3_
       have BK244 := n4_
       have HB := n5_
       clear n0_ n1_ n2_ n3_ n4_ n5_
       have n0_ := Aside0.mk (blk_drew BK236.out)
       have n1_ := Aside0.mk (blk_drew BK237.out)
       have n2_ := Aside0.mk (blk_drew BK238.out)
       have n3_ := Aside0.mk (blk_drew BK242.out)
       have n4_ := Aside0.mk (blk_drew BK244.out)
       have n5_ := Aside0.mk (below_drew1 HB.out)
       clear BK236
       clear BK237
       clear BK238
       clear BK242
       clear BK244
       clear HB
       have BK236 := n0_
       have BK237 := n1_
       have BK238 := n2_
       have BK242 := n3_
       have BK244 := n4_
       have HB := n5_
       clear n0_ n1_ n2_ n3_ n4_ n5_
       refine start_ (n := 7) (S := fun w' => w'.cell? ⟨gb236, 0, none⟩ = some (.slice A0_0 l0_0.length c0_0) ∧ w'.cell? ⟨gb237, 0, none⟩ = some (.int .i64 a1_0) ∧ w'.cell? ⟨gb237, 1, none⟩ = some (.string a1_1) ∧ w'.cell? ⟨gb237, 2, none⟩ = some (.string a1_2) ∧ w'.cell? ⟨gb237, 3, none⟩ = some (.string a1_3) ∧ w'.cell? ⟨gb242, 0, none⟩ = some (.string a1_3) ∧ w'.cell? ⟨gb242, 1, none⟩ = some (.string x243001_48) ∧ w'.cell? ⟨gb242, 2, none⟩ = some (.int .i64 x243002_48)) (ds := []) #[false, false, false, false, false, false, false] (by kernel_rfl) rfl rfl ⟨CZ BK236.out 0, CZ BK237.out 0, CZ BK237.out 1, CZ BK237.out 2, CZ BK237.out 3, CZ BK242.out 0, CZ BK242.out 1, CZ BK242.out 2⟩ (fun hHeld => ?_)
       generalize w228.drew = w229 at BK236 BK237 BK238 BK242 BK244 HB hHeld ⊢
       refine pure_ (i := 1) (N := some 88) (v := ?_) (a' := ?_) (OB 7 2) rfl rfl (by kernel_rfl) (fun _ _ _ h => h) (Or.inl ⟨by rfl, ?_⟩) ?_ ?_
       rotate_left
       ·
        intro w'
        go_simp
        with_reducible rfl
       rotate_left
       ·
        simp only [Act.put, zA, zB, zC, i64_w, i32_w]
        rfl
       refine take_ (i := 0) (N := some 87) (v := ?_) (a' := ?_) (OB 7 3) rfl rfl (by kernel_rfl) (fun _ _ _ h => h) (Or.inl ⟨by rfl, ?_⟩) hHeld ?_ ?_
       rotate_left
       ·
        rintro w' ⟨s0, s1, s2, s3, s4, s5, s6, s7⟩
        go_simp
        with_reducible rfl
       rotate_left
       ·
        simp only [Act.put, zA, zB, zC, i64_w, i32_w]
        rfl
       refine take_ (i := 2) (N := some 89) (v := ?_) (a' := ?_) (OB 7 7) rfl rfl (by kernel_rfl) (fun _ _ _ h => h) (Or.inl ⟨by rfl, ?_⟩) hHeld ?_ ?_
       rotate_left
       ·
        rintro w' ⟨s0, s1, s2, s3, s4, s5, s6, s7⟩
        go_simp
        with_reducible rfl
       rotate_left
       ·
        simp only [Act.put, zA, zB, zC, i64_w, i32_w]
        rfl
       refine take_ (i := 4) (N := some 91) (v := ?_) (a' := ?_) (OB 7 23) rfl rfl (by kernel_rfl) (fun _ _ _ h => h) (Or.inl ⟨by rfl, ?_⟩) hHeld ?_ ?_
       rotate_left
       ·
        rintro w' ⟨s0, s1, s2, s3, s4, s5, s6, s7⟩
        go_simp
        with_reducible rfl
       rotate_left
       ·
        simp only [Act.put, zA, zB, zC, i64_w, i32_w]
        rfl
       refine one_ (i := 3) (N := some 90) (OB 7 31) rfl rfl (by kernel_rfl) (by decide) (fun K hK => ?_)
       refine goes_ Try.func67 (by kernel_rfl) rfl #[.agg #[.slice A0_0 l0_0.length c0_0], .string a1_1] (by rfl) rfl rfl (MA) ?_
       with_reducible refine (impl_withoutFile.calls _ _ l0_0 a1_1 t253 _ ?side1 ?side2 A192.out).mono ?_
       (case side1 => repeat (first | exact (Kd.C_below HR0_0.out HB.out) | (with_reducible refine Kd.C_alloc ?_ _) | (with_reducible refine Kd.C_drewN ?_ _) | (with_reducible refine Kd.C_drew ?_)))
       (case side2 => exact HC0_0.out)
       rintro e w230 ⟨v254, rfl, ho0, hb⟩
       refine ⟨_, rfl, ?_⟩
       have n0_ := Aside0.mk (Kd.R_lower (Kd.R_newB ho0 (g := gb242) (o := .cells #[.string a1_3, .string x243001_48, .int .i64 x243002_48] 45 (0, 0)) (BQ BK242.out)) (below_size (BL)))
       have n1_ := BB BK236.out hb
       have n2_ := BB BK237.out hb
       have n3_ := BB BK238.out hb
       have n4_ := BB BK242.out hb
       have n5_ := BB BK244.out hb
       have n6_ := Aside0.mk (below_step (BL) hb)
       clear BK236
       clear BK237
       clear BK238
       clear BK242
       clear BK244
       clear HB
       have HO255 := n0_
       have BK236 := n1_
       have BK237 := n2_
       have BK238 := n3_
       have BK242 := n4_
       have BK244 := n5_
       have HB := n6_
       clear n0_ n1_ n2_ n3_ n4_ n5_ n6_
       (try clear hb)
       (try clear hb2)
       (try clear hk)
       (try clear hi)
       (try clear ho0)
       obtain ⟨Ao231, co231, eo231⟩ := Kd.R_slice HO255.out
       (first | subst eo231 | (injection eo231 with f1_ f2_ f3_; have f4_ := f1_.symm; have f5_ := f3_.symm; clear f1_ f2_ f3_; subst f4_; subst f5_))
       refine hK.out _ _ ⟨CZ BK236.out 0, CZ BK237.out 0, CZ BK237.out 1, CZ BK237.out 2, CZ BK237.out 3, CZ BK242.out 0, CZ BK242.out 1, CZ BK242.out 2⟩ (fun hHeld => ?_)
       clear hK K
       refine norm_ (a' := ?_) ?_ ?_
       rotate_left
       ·
        show Act.put _ (some 90) _ = _
        simp only [Act.put, zA, zB, zC, i64_w, i32_w]
        rfl
       refine one_ (i := 5) (N := some 92) (OB 7 63) rfl rfl (by kernel_rfl) (by decide) (fun K hK => ?_)
       refine goes_ Try.func66 (by kernel_rfl) rfl #[.agg #[.slice Ao231 t253.length co231], .agg #[.string a1_3, .string x243001_48, .int .i64 x243002_48]] (by rfl) rfl rfl (MA) ?_
       with_reducible refine (impl_withFile.calls _ _ t253 a1_3 x243001_48 x243002_48 t256 _ ?side1 ?side2 A193.out).mono ?_
       (case side1 => repeat (first | exact (Kd.R_reads' HO255.out).2.2 | (with_reducible refine Kd.C_alloc ?_ _) | (with_reducible refine Kd.C_drewN ?_ _) | (with_reducible refine Kd.C_drew ?_)))
       (case side2 => exact (Kd.R_reads' HO255.out).2.1)
       rintro e w232 ⟨v257, rfl, ho0, hb⟩
       refine ⟨_, rfl, ?_⟩
       have n0_ := Aside0.mk (Kd.R_elder' (RQ HO255.out) (Kd.R_base ho0) hb)
       have n1_ := Aside0.mk (Kd.R_lower (Kd.R_newB (Kd.R_new' ho0 (Kd.R_lt (RQ HO255.out))) (g := gb242) (o := .cells #[.string a1_3, .string x243001_48, .int .i64 x243002_48] 45 (0, 0)) (BQ BK242.out)) (below_size (BL)))
       have n2_ := BB BK236.out hb
       have n3_ := BB BK237.out hb
       have n4_ := BB BK238.out hb
       have n5_ := BB BK242.out hb
       have n6_ := BB BK244.out hb
       have n7_ := Aside0.mk (below_step (BL) hb)
       clear HO255
       clear BK236
       clear BK237
       clear BK238
       clear BK242
       clear BK244
       clear HB
       have HO255 := n0_
       have HO258 := n1_
       have BK236 := n2_
       have BK237 := n3_
       have BK238 := n4_
       have BK242 := n5_
       have BK244 := n6_
       have HB := n7_
       clear n0_ n1_ n2_ n3_ n4_ n5_ n6_ n7_
       (try clear hb)
       (try clear hb2)
       (try clear hk)
       (try clear hi)
       (try clear ho0)
       obtain ⟨Ao233, co233, eo233⟩ := Kd.R_slice HO258.out
       (first | subst eo233 | (injection eo233 with f1_ f2_ f3_; have f4_ := f1_.symm; have f5_ := f3_.symm; clear f1_ f2_ f3_; subst f4_; subst f5_))
       refine hK.out _ _ ⟨CZ BK236.out 0, CZ BK237.out 0, CZ BK237.out 1, CZ BK237.out 2, CZ BK237.out 3, CZ BK242.out 0, CZ BK242.out 1, CZ BK242.out 2⟩ (fun hHeld => ?_)
       clear hK K
       refine norm_ (a' := ?_) ?_ ?_
       rotate_left
       ·
        show Act.put _ (some 92) _ = _
        simp only [Act.put, zA, zB, zC, i64_w, i32_w]
        rfl
       refine one_ (i := 6) (N := none) (OB 7 127) rfl rfl (by kernel_rfl) (by decide) (fun K hK => ?_)
       have hs234 : w232.cell? ⟨gb244, 0, none⟩ = some (.slice none 0 0) := CZ BK244.out 0
       have hfs234 := blk_frozen BK244.out 0
       have hns234_0 := NB236_244.out
       have hns234_1 := NB237_244.out
       have hns234_2 := NB238_244.out
       have hns234_3 := NB242_244.out
       have hms234_0 := NB244_236.out
       have hms234_1 := NB244_237.out
       have hms234_2 := NB244_238.out
       have hms234_3 := NB244_242.out
       refine skip_ (w1 := ?_) (by rfl) rfl ?_ ?_
       rotate_left
       ·
        go_simp
        rfl
       refine hK.out _ _ ⟨((cell_far (p := ⟨gb244, _, none⟩) NB236_244.out _).trans (hHeld.1)), ((cell_far (p := ⟨gb244, _, none⟩) NB237_244.out _).trans (hHeld.2.1)), ((cell_far (p := ⟨gb244, _, none⟩) NB237_244.out _).trans (hHeld.2.2.1)), ((cell_far (p := ⟨gb244, _, none⟩) NB237_244.out _).trans (hHeld.2.2.2.1)), ((cell_far (p := ⟨gb244, _, none⟩) NB237_244.out _).trans (hHeld.2.2.2.2.1)), ((cell_far (p := ⟨gb244, _, none⟩) NB242_244.out _).trans (hHeld.2.2.2.2.2.1)), ((cell_far (p := ⟨gb244, _, none⟩) NB242_244.out _).trans (hHeld.2.2.2.2.2.2.1)), ((cell_far (p := ⟨gb244, _, none⟩) NB242_244.out _).trans (hHeld.2.2.2.2.2.2.2))⟩ (fun hHeld => ?_)
       clear hK K
       refine done_ (by kernel_rfl) ?_
       have hnb235 := NB244_236.out
       have hnc235 := NB236_244.out
       have hnb236 := NB244_238.out
       have hnc236 := NB238_244.out
       have hcz237_0 : w232.cell? ⟨gb244, 0, none⟩ = some (.slice none 0 0) := CZ BK244.out 0
       have hfz237_0 := blk_frozen BK244.out 0
       try go_wp2_with (first | ((with_reducible refine gate_callee (f := 15) rfl ?_); refine goesL_ (some 94) rfl rfl Try.func15 (by kernel_rfl) rfl #[.agg #[.slice Ao233 t256.length co233]] rfl (MA) ?_; (with_reducible refine (impl_DiskOk.calls kj159 _ _ t256 false _ ?side1 ?side2 A194.out).mono ?_); (case side1 => refine (Kd.R_reads' (e := 45) (base := w.heap.size) (ok := fun k_ => ((True ∧ some k_ ≠ (.slice Ao231 t253.length co231 : Value).ownBlock) ∧ k_ ≠ gb242)) (n := t256.length) (c := co233) ?_).2.2; exact (by (with_reducible repeat (first | apply r1 | apply r2 | apply r3)); exact (Kd.R_mono (Kd.R_far (p := ⟨gb244, 0, none⟩) (Kd.R_types HO258.out BK244.out (by decide)) (fun _ hk => hk.2) (.slice Ao233 t256.length co233)) (fun _ h_ => h_.1)))); (case side2 => exact (Kd.R_reads' HO258.out).2.1); rintro e w238 ⟨rfl, hb⟩; refine ⟨_, rfl, ?_⟩; replace HO255 := Aside0.mk (Kd.R_below (by (with_reducible repeat (first | apply r1 | apply r2 | apply r3)); exact (Kd.R_mono (Kd.R_far (p := ⟨gb244, 0, none⟩) (Kd.R_types HO255.out BK244.out (by decide)) (fun _ hk => hk.2) (.slice Ao233 t256.length co233)) (fun _ h_ => h_.1))) hb); replace HO258 := Aside0.mk (Kd.R_below (by (with_reducible repeat (first | apply r1 | apply r2 | apply r3)); exact (Kd.R_mono (Kd.R_far (p := ⟨gb244, 0, none⟩) (Kd.R_types HO258.out BK244.out (by decide)) (fun _ hk => hk.2) (.slice Ao233 t256.length co233)) (fun _ h_ => h_.1))) hb); replace BK236 := Aside0.mk (blk_below (g := gb236) (o := .cells #[.slice A0_0 l0_0.length c0_0] 29 (0, 0)) (by (with_reducible repeat (first | apply b1 | apply b2 | apply b3)); refine blk_far ?_ NB236_244.out _; (with_reducible repeat (first | apply b1 | apply b2 | apply b3)); exact BK236.out) hb); replace BK237 := Aside0.mk (blk_below (g := gb237) (o := .cells #[.int .i64 a1_0, .string a1_1, .string a1_2, .string a1_3] 55 (0, 0)) (by (with_reducible repeat (first | apply b1 | apply b2 | apply b3)); refine blk_far ?_ NB237_244.out _; (with_reducible repeat (first | apply b1 | apply b2 | apply b3)); exact BK237.out) hb); replace BK238 := Aside0.mk (blk_below (g := gb238) (o := .cells #[.slice none 0 0] 29 (0, 0)) (by (with_reducible repeat (first | apply b1 | apply b2 | apply b3)); refine blk_far ?_ NB238_244.out _; (with_reducible repeat (first | apply b1 | apply b2 | apply b3)); exact BK238.out) hb); replace BK242 := Aside0.mk (blk_below (g := gb242) (o := .cells #[.string a1_3, .string x243001_48, .int .i64 x243002_48] 45 (0, 0)) (by (with_reducible repeat (first | apply b1 | apply b2 | apply b3)); refine blk_far ?_ NB242_244.out _; (with_reducible repeat (first | apply b1 | apply b2 | apply b3)); exact BK242.out) hb); replace BK244 := Aside0.mk (blk_below (g := gb244) (o := .cells #[.slice Ao233 t256.length co233] 29 (0, 0)) (by (with_reducible repeat (first | apply b1 | apply b2 | apply b3)); refine blk_put (cs := #[.slice none 0 0]) ?_ 0 _ rfl; (with_reducible repeat (first | apply b1 | apply b2 | apply b3)); exact BK244.out) hb); replace HB := Aside0.mk (below_step (BL) hb); (try clear hb); (try clear hb2); (try clear hk); (try clear hi); have hnb239 := NB238_236.out; have hnc239 := NB236_238.out; have hcz240_0 : w238.cell? ⟨gb238, 0, none⟩ = some (.slice none 0 0) := CZ BK238.out 0; have hfz240_0 := blk_frozen BK238.out 0))
       refine bodyPost_ret (results_ct rfl _ _ gb238 29 #[.slice none 0 0] (0, 0) _ rfl (by (with_reducible repeat (first | apply b1 | apply b2 | apply b3)); refine blk_put (cs := #[.slice none 0 0]) ?_ 0 _ rfl; (with_reducible repeat (first | apply b1 | apply b2 | apply b3)); exact BK238.out) Try.underlying29 rfl (by kernel_rfl)) rfl ?_
       exact ⟨_, EE, by first | exact Kd.R_nil _ _ _ _ _ | exact Kd.N_nil _ _ _ _ _ | exact Kd.V_nil _ _ _ _ _ | exact Kd.Q_nil _ _ _ _ _ | exact Kd.S_nil _ _ _ _ _, BL⟩

end Go.Proofs.Ythfppepnpngfmaa.Qda
