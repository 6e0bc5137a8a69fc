-- Laid by myprint.py, a program of this session's own, over the kit's print. Not trusted: Lean checks it.
import Derived.Test.YtfkhncoiifojnaaQdsx0
import Derived.Test.YtfkhncoiifojnaaQdsx1
import Derived.Test.YtfkhncoiifojnaaQdsx4
import Derived.Test.YtfkhncoiifojnaaQdsx5
namespace Go.Proofs.Ytfkhncoiifojnaa.Qds
open Go.RowKit Go.Proofs.YtfkhncoiifojnaaW.PrintWords Go.Proofs.YtfkhncoiifojnaaW.PrintLast Go.Proofs.YtfkhncoiifojnaaW.PrintMore
attribute [local go_sem] Go.Proofs.Ytfkhncoiifojnaa.StrCmp.gtr_less Go.Proofs.Ytfkhncoiifojnaa.StrCmp.geq_less Go.Proofs.Ytfkhncoiifojnaa.StrCmp.leq_less max2_int min2_int max_two min_two max_three min_three max_four min_four   -- for this text's walks alone
set_option linter.unusedVariables false
set_option linter.unusedSimpArgs false

attribute [local go_sem high] eqA71
/-! ### spec_DrawDoTask: function 22 -/
def spec_DrawDoTask.f (k : Nat) (l0 : List Int) : Option ((List (S71)) × Int × Int × Int × Int × Int × Int × Int × Int × Int × Bool × Int) := (spec_l01New.f k l0).bind fun bt264 => ((spec_l06Task.f bt264.1 bt264.2.1 bt264.2.2 1).bind fun bt268 => ((spec_l01Once.f bt264.1 bt268.2.2.2.2.2.2.2.2.2.2.2.1 bt268.2.2.2.2.2.2.2.2.2.2.2.2 12).bind fun bt282 => (if bt282.1 = true then ((spec_l01Below.f bt264.1 bt282.2.1 bt282.2.2 6).bind fun bt285 => ((spec_l07Pairs.f k bt264.1 bt285.2.1 bt285.2.2).bind fun bt288 => (some (bt288.1, bt285.1, bt268.2.1, bt268.2.2.1, bt268.2.2.2.1, bt268.2.2.2.2.1, bt268.2.2.2.2.2.1, bt268.2.2.2.2.2.2.1, bt268.2.2.2.2.2.2.2.1, bt268.2.2.2.2.2.2.2.2.1, bt268.2.2.2.2.2.2.2.2.2.1, bt268.2.2.2.2.2.2.2.2.2.2.1)))) else ((spec_l07Pairs.f k bt264.1 bt282.2.1 bt282.2.2).bind fun bt293 => (some (bt293.1, bt268.1, bt268.2.1, bt268.2.2.1, bt268.2.2.2.1, bt268.2.2.2.2.1, bt268.2.2.2.2.2.1, bt268.2.2.2.2.2.2.1, bt268.2.2.2.2.2.2.2.1, bt268.2.2.2.2.2.2.2.2.1, bt268.2.2.2.2.2.2.2.2.2.1, bt268.2.2.2.2.2.2.2.2.2.2.1))))))
theorem spec_DrawDoTask.mono : ∀ a0 k, LeO (spec_DrawDoTask.f k a0) (spec_DrawDoTask.f (k + 1) a0) := by
 intro a0 k
 unfold spec_DrawDoTask.f
 repeat' first
   | (with_reducible exact spec_l01New.mono _ _)
   | (with_reducible exact spec_l07Pairs.mono _ _ _ _)
   | (with_reducible exact LeO.refl _)
   | (with_reducible exact LeO.none _)
   | (with_reducible refine LeO.ite ?_ ?_)
   | (with_reducible refine LeO.bind ?_ (fun _ => ?_))
   | exact spec_l01New.mono _ _
   | exact spec_l07Pairs.mono _ _ _ _
   | exact LeO.none _
   | refine LeO.ite ?_ ?_
   | refine LeO.bind ?_ (fun _ => ?_)
set_option maxHeartbeats 8000000 in
set_option maxRecDepth 100000 in
theorem spec_DrawDoTask.calls (k : Nat) (A0 : Option Addr) (c0 : Nat) (l0 : List Int) (r1 : List (S71)) (r2 : Int) (r3 : Int) (r4 : Int) (r5 : Int) (r6 : Int) (r7 : Int) (r8 : Int) (r9 : Int) (r10 : Int) (r11 : Bool) (r12 : Int) (w : World) (hr0 : Kd.C (Kd.int .u8) w A0 l0.length l0) (hc0 : l0.length ≤ c0) (h : spec_DrawDoTask.f k l0 = some (r1, r2, r3, r4, r5, r6, r7, r8, r9, r10, r11, r12)) :
  Calls Try.prog 22 #[.slice A0 l0.length c0] w fun e w' => ∃ v0_ : Value, e = .returned (.tuple #[v0_, .agg #[.int .i64 r2, .int .i64 r3, .int .i64 r4, .int .i64 r5, .int .i64 r6, .int .i64 r7, .int .i64 r8, .int .i64 r9, .int .i64 r10, .bool r11, .int .i64 r12]]) ∧ Kd.R k71 71 w' w.heap.size (fun _ => True) v0_ r1 ∧ Below w.heap.size w w' := by
 have hu30 := Try.underlying30
 have HR0 := Aside0.mk hr0
 have HC0 := Aside0.mk hc0
 clear hr0 hc0
 have HB := Aside0.mk (Below.refl w.heap.size w)
 have H : ((spec_l01New.f k l0).bind fun bt264 => ((spec_l06Task.f bt264.1 bt264.2.1 bt264.2.2 1).bind fun bt268 => ((spec_l01Once.f bt264.1 bt268.2.2.2.2.2.2.2.2.2.2.2.1 bt268.2.2.2.2.2.2.2.2.2.2.2.2 12).bind fun bt282 => (if bt282.1 = true then ((spec_l01Below.f bt264.1 bt282.2.1 bt282.2.2 6).bind fun bt285 => ((spec_l07Pairs.f k bt264.1 bt285.2.1 bt285.2.2).bind fun bt288 => (some (bt288.1, bt285.1, bt268.2.1, bt268.2.2.1, bt268.2.2.2.1, bt268.2.2.2.2.1, bt268.2.2.2.2.2.1, bt268.2.2.2.2.2.2.1, bt268.2.2.2.2.2.2.2.1, bt268.2.2.2.2.2.2.2.2.1, bt268.2.2.2.2.2.2.2.2.2.1, bt268.2.2.2.2.2.2.2.2.2.2.1)))) else ((spec_l07Pairs.f k bt264.1 bt282.2.1 bt282.2.2).bind fun bt293 => (some (bt293.1, bt268.1, bt268.2.1, bt268.2.2.1, bt268.2.2.2.1, bt268.2.2.2.2.1, bt268.2.2.2.2.2.1, bt268.2.2.2.2.2.2.1, bt268.2.2.2.2.2.2.2.1, bt268.2.2.2.2.2.2.2.2.1, bt268.2.2.2.2.2.2.2.2.2.1, bt268.2.2.2.2.2.2.2.2.2.2.1))))))) = some (r1, r2, r3, r4, r5, r6, r7, r8, r9, r10, r11, r12) := h
 clear h
 replace H := Option.bind_eq_some_iff.mp H
 obtain ⟨⟨t264, t265, t266⟩, A20, H⟩ := H
 replace H : ((spec_l06Task.f t264 t265 t266 1).bind fun bt268 => ((spec_l01Once.f t264 bt268.2.2.2.2.2.2.2.2.2.2.2.1 bt268.2.2.2.2.2.2.2.2.2.2.2.2 12).bind fun bt282 => (if bt282.1 = true then ((spec_l01Below.f t264 bt282.2.1 bt282.2.2 6).bind fun bt285 => ((spec_l07Pairs.f k t264 bt285.2.1 bt285.2.2).bind fun bt288 => (some (bt288.1, bt285.1, bt268.2.1, bt268.2.2.1, bt268.2.2.2.1, bt268.2.2.2.2.1, bt268.2.2.2.2.2.1, bt268.2.2.2.2.2.2.1, bt268.2.2.2.2.2.2.2.1, bt268.2.2.2.2.2.2.2.2.1, bt268.2.2.2.2.2.2.2.2.2.1, bt268.2.2.2.2.2.2.2.2.2.2.1)))) else ((spec_l07Pairs.f k t264 bt282.2.1 bt282.2.2).bind fun bt293 => (some (bt293.1, bt268.1, bt268.2.1, bt268.2.2.1, bt268.2.2.2.1, bt268.2.2.2.2.1, bt268.2.2.2.2.2.1, bt268.2.2.2.2.2.2.1, bt268.2.2.2.2.2.2.2.1, bt268.2.2.2.2.2.2.2.2.1, bt268.2.2.2.2.2.2.2.2.2.1, bt268.2.2.2.2.2.2.2.2.2.2.1)))))) = some (r1, r2, r3, r4, r5, r6, r7, r8, r9, r10, r11, r12) := H
 have A2 := Aside0.mk A20
 clear A20
 replace H := Option.bind_eq_some_iff.mp H
 obtain ⟨⟨t268, t269, t270, t271, t272, t273, t274, t275, t276, t277, t278, t279, t280⟩, A30, H⟩ := H
 replace H : ((spec_l01Once.f t264 t279 t280 12).bind fun bt282 => (if bt282.1 = true then ((spec_l01Below.f t264 bt282.2.1 bt282.2.2 6).bind fun bt285 => ((spec_l07Pairs.f k t264 bt285.2.1 bt285.2.2).bind fun bt288 => (some (bt288.1, bt285.1, t269, t270, t271, t272, t273, t274, t275, t276, t277, t278)))) else ((spec_l07Pairs.f k t264 bt282.2.1 bt282.2.2).bind fun bt293 => (some (bt293.1, t268, t269, t270, t271, t272, t273, t274, t275, t276, t277, t278))))) = some (r1, r2, r3, r4, r5, r6, r7, r8, r9, r10, r11, r12) := H
 have A3 := Aside0.mk A30
 clear A30
 replace H := Option.bind_eq_some_iff.mp H
 obtain ⟨⟨t282, t283, t284⟩, A40, H⟩ := H
 replace H : (if t282 = true then ((spec_l01Below.f t264 t283 t284 6).bind fun bt285 => ((spec_l07Pairs.f k t264 bt285.2.1 bt285.2.2).bind fun bt288 => (some (bt288.1, bt285.1, t269, t270, t271, t272, t273, t274, t275, t276, t277, t278)))) else ((spec_l07Pairs.f k t264 t283 t284).bind fun bt293 => (some (bt293.1, t268, t269, t270, t271, t272, t273, t274, t275, t276, t277, t278)))) = some (r1, r2, r3, r4, r5, r6, r7, r8, r9, r10, r11, r12) := H
 have A4 := Aside0.mk A40
 clear A40
 by_cases c5 : t282 = true; rotate_left
 ·
  replace c5 := Bool.eq_false_iff.mpr c5
  subst c5
  have H1 : ((spec_l07Pairs.f k t264 t283 t284).bind fun bt293 => (some (bt293.1, t268, t269, t270, t271, t272, t273, t274, t275, t276, t277, t278))) = some (r1, r2, r3, r4, r5, r6, r7, r8, r9, r10, r11, r12) := by rw [if_neg (show ¬ (false = true) by decide)] at H; exact H
  clear H
  have H := H1
  clear H1
  replace H := Option.bind_eq_some_iff.mp H
  obtain ⟨⟨t293, t296, t297⟩, A320, H⟩ := H
  replace H : (some (t293, t268, t269, t270, t271, t272, t273, t274, t275, t276, t277, t278)) = some (r1, r2, r3, r4, r5, r6, r7, r8, r9, r10, r11, r12) := H
  have A32 := Aside0.mk A320
  clear A320
  simp only [Option.some.injEq, Prod.mk.injEq] at H
  obtain ⟨rfl, rfl, rfl, rfl, rfl, rfl, rfl, rfl, rfl, rfl, rfl, rfl⟩ := H
  go_enter Try.func22, Try.ntmps22
  try go_wp2_with (first | ((with_reducible refine gate_dst (N := 3) rfl ?_); refine bE 3 #[.int .i64 0, .int .i64 0, .int .i64 0, .int .i64 0, .int .i64 0, .int .i64 0, .int .i64 0, .int .i64 0, .int .i64 0, .bool false, .int .i64 0] 30 ?_; intro gb263 hg w33 hbox hb; have BK263 := Aside0.mk (hbox); have GW263 : Aside0 (w.heap.size ≤ gb263) := GS; have GE263 : Aside0 (w.heap.size ≤ gb263) := GS; replace HB := Aside0.mk (below_step (BL) hb); clear hb hbox hg) | ((with_reducible refine gate_callee (f := 56) rfl ?_); refine goesL_ (some 7) rfl rfl Try.func56 (by kernel_rfl) rfl #[.slice A0 l0.length c0] rfl (MA) ?_; (with_reducible refine (spec_l01New.calls k _ _ l0 t264 t265 t266 w _ ?side1 ?side2 ?side3 A2.out).mono ?_); (case side1 => repeat (first | (with_reducible first | exact HB.out | apply below_alloc | apply pw_below_drewN | apply below_drew1 | refine below_set ?_ GE263.out) | exact HB.out)); (case side2 => exact HR0.out); (case side3 => exact HC0.out); rintro e w34 ⟨g267, rfl, hi, hb, hb2⟩; refine ⟨_, rfl, ?_⟩; have HI267 := Aside0.mk (hi); have NB267_263 := Aside0.mk (IsS112.ne_blk hi (blk_below (g := gb263) (o := .cells #[.int .i64 0, .int .i64 0, .int .i64 0, .int .i64 0, .int .i64 0, .int .i64 0, .int .i64 0, .int .i64 0, .int .i64 0, .bool false, .int .i64 0] 30 (0, 0)) (BQ BK263.out) hb2) (by decide)); have NB263_267 := Aside0.mk (Ne.symm (IsS112.ne_blk hi (blk_below (g := gb263) (o := .cells #[.int .i64 0, .int .i64 0, .int .i64 0, .int .i64 0, .int .i64 0, .int .i64 0, .int .i64 0, .int .i64 0, .int .i64 0, .bool false, .int .i64 0] 30 (0, 0)) (BQ BK263.out) hb2) (by decide))); replace BK263 := Aside0.mk (blk_below (g := gb263) (o := .cells #[.int .i64 0, .int .i64 0, .int .i64 0, .int .i64 0, .int .i64 0, .int .i64 0, .int .i64 0, .int .i64 0, .int .i64 0, .bool false, .int .i64 0] 30 (0, 0)) (BQ BK263.out) hb2); replace HB := Aside0.mk (hb); (try clear hb); (try clear hb2); (try clear hk); (try clear hi)) | ((with_reducible refine gate_callee (f := 59) rfl ?_); refine goesL_ (some 9) rfl rfl Try.func59 (by kernel_rfl) rfl #[.pointer (some ⟨g267, 0, none⟩), .int .i64 1] rfl (MA) ?_; (with_reducible refine (spec_l06Task.calls g267 t264 t265 t266 1 t268 t269 t270 t271 t272 t273 t274 t275 t276 t277 t278 t279 t280 w _ ?side1 ?side2 A3.out).mono ?_); (case side1 => repeat (first | (with_reducible first | exact HI267.out | apply IsS112.alloc | apply IsS112.drewN | apply IsS112.drew | apply IsS112.set_1 | apply IsS112.set_2 | refine IsS112.far ?_ NB267_263.out _) | exact HI267.out)); (case side2 => repeat (first | (with_reducible first | exact HB.out | apply below_alloc | apply pw_below_drewN | apply below_drew1 | refine below_set ?_ (IsS112.ge HI267.out) | refine below_set ?_ GE263.out) | exact HB.out)); rintro e w35 ⟨rfl, hi, hb, hk⟩; refine ⟨_, rfl, ?_⟩; replace BK263 := Aside0.mk (KeepBut.blk hk (g' := gb263) (o := .cells #[.int .i64 0, .int .i64 0, .int .i64 0, .int .i64 0, .int .i64 0, .int .i64 0, .int .i64 0, .int .i64 0, .int .i64 0, .bool false, .int .i64 0] 30 (0, 0)) (BQ BK263.out) NB263_267.out (by simp)); replace HB := Aside0.mk (hb); replace HI267 := Aside0.mk (hi); (try clear hb); (try clear hb2); (try clear hk); (try clear hi)) | ((with_reducible refine gate_dst (N := 5) rfl ?_); refine bE 5 #[.int .i64 0, .int .i64 0, .int .i64 0, .int .i64 0, .int .i64 0, .int .i64 0, .int .i64 0, .int .i64 0, .int .i64 0, .bool false, .int .i64 0] 30 ?_; intro gb281 hg w36 hbox hb; have BK281 := Aside0.mk (hbox); have GW281 := Aside0.mk ((by rw [hg]; exact (below_size (by repeat (first | (with_reducible first | exact HB.out | apply below_alloc | apply pw_below_drewN | apply below_drew1 | refine below_set ?_ (IsS112.ge HI267.out) | refine below_set ?_ GE263.out) | exact HB.out))) : w.heap.size ≤ gb281)); have GE281 := Aside0.mk ((by rw [hg]; exact (below_size (by repeat (first | (with_reducible first | exact HB.out | apply below_alloc | apply pw_below_drewN | apply below_drew1 | refine below_set ?_ (IsS112.ge HI267.out) | refine below_set ?_ GE263.out) | exact HB.out))) : w.heap.size ≤ gb281)); have NB263_281 := NL BK263.out hg; have NB281_263 := NG BK263.out hg; have NB267_281 := Aside0.mk ((by rw [hg]; exact Nat.ne_of_lt (IsS112.lt (show IsS112 w _ g267 t264 t279 t280 from by repeat (first | (with_reducible first | exact HI267.out | apply IsS112.alloc | apply IsS112.drewN | apply IsS112.drew | apply IsS112.set_1 | apply IsS112.set_2 | refine IsS112.far ?_ NB267_263.out _) | exact HI267.out))) : g267 ≠ gb281)); have NB281_267 := Aside0.mk ((by rw [hg]; exact Nat.ne_of_gt (IsS112.lt (show IsS112 w _ g267 t264 t279 t280 from by repeat (first | (with_reducible first | exact HI267.out | apply IsS112.alloc | apply IsS112.drewN | apply IsS112.drew | apply IsS112.set_1 | apply IsS112.set_2 | refine IsS112.far ?_ NB267_263.out _) | exact HI267.out))) : gb281 ≠ g267)); replace BK263 := BB BK263.out hb; replace HB := Aside0.mk (below_step (by repeat (first | (with_reducible first | exact HB.out | apply below_alloc | apply pw_below_drewN | apply below_drew1 | refine below_set ?_ (IsS112.ge HI267.out) | refine below_set ?_ GE263.out) | exact HB.out)) hb); replace HI267 := Aside0.mk (IsS112.below (by repeat (first | (with_reducible first | exact HI267.out | apply IsS112.alloc | apply IsS112.drewN | apply IsS112.drew | apply IsS112.set_1 | apply IsS112.set_2 | refine IsS112.far ?_ NB267_263.out _) | exact HI267.out)) hb); clear hb hbox hg; have hnb37 := NB281_263.out; have hnc37 := NB263_281.out; have hnb38 := NB281_267.out; have hnc38 := NB267_281.out; have hcz39_0 : w36.cell? ⟨gb281, 0, none⟩ = some (.int .i64 0) := CZ BK281.out 0; have hcz39_1 : w36.cell? ⟨gb281, 1, none⟩ = some (.int .i64 0) := CZ BK281.out 1; have hcz39_2 : w36.cell? ⟨gb281, 2, none⟩ = some (.int .i64 0) := CZ BK281.out 2; have hcz39_3 : w36.cell? ⟨gb281, 3, none⟩ = some (.int .i64 0) := CZ BK281.out 3; have hcz39_4 : w36.cell? ⟨gb281, 4, none⟩ = some (.int .i64 0) := CZ BK281.out 4; have hcz39_5 : w36.cell? ⟨gb281, 5, none⟩ = some (.int .i64 0) := CZ BK281.out 5; have hcz39_6 : w36.cell? ⟨gb281, 6, none⟩ = some (.int .i64 0) := CZ BK281.out 6; have hcz39_7 : w36.cell? ⟨gb281, 7, none⟩ = some (.int .i64 0) := CZ BK281.out 7; have hcz39_8 : w36.cell? ⟨gb281, 8, none⟩ = some (.int .i64 0) := CZ BK281.out 8; have hcz39_9 : w36.cell? ⟨gb281, 9, none⟩ = some (.bool false) := CZ BK281.out 9; have hcz39_10 : w36.cell? ⟨gb281, 10, none⟩ = some (.int .i64 0) := CZ BK281.out 10; have hfz39_0 := blk_frozen BK281.out 0; have hfz39_1 := blk_frozen BK281.out 1; have hfz39_2 := blk_frozen BK281.out 2; have hfz39_3 := blk_frozen BK281.out 3; have hfz39_4 := blk_frozen BK281.out 4; have hfz39_5 := blk_frozen BK281.out 5; have hfz39_6 := blk_frozen BK281.out 6; have hfz39_7 := blk_frozen BK281.out 7; have hfz39_8 := blk_frozen BK281.out 8; have hfz39_9 := blk_frozen BK281.out 9; have hfz39_10 := blk_frozen BK281.out 10) | ((with_reducible refine gate_callee (f := 60) rfl ?_); refine goesL_ (some 11) rfl rfl Try.func60 (by kernel_rfl) rfl #[.pointer (some ⟨g267, 0, none⟩), .int .i64 12] rfl (MA) ?_; (with_reducible refine (spec_l01Once.calls g267 t264 t279 t280 12 false t283 t284 w _ ?side1 ?side2 A4.out).mono ?_); (case side1 => repeat (first | (with_reducible first | exact HI267.out | apply IsS112.alloc | apply IsS112.drewN | apply IsS112.drew | apply IsS112.set_1 | apply IsS112.set_2 | refine IsS112.far ?_ NB267_263.out _ | refine IsS112.far ?_ NB267_281.out _) | exact HI267.out)); (case side2 => repeat (first | (with_reducible first | exact HB.out | apply below_alloc | apply pw_below_drewN | apply below_drew1 | refine below_set ?_ (IsS112.ge HI267.out) | refine below_set ?_ GE263.out | refine below_set ?_ GE281.out) | exact HB.out)); rintro e w40 ⟨rfl, hi, hb, hk⟩; refine ⟨_, rfl, ?_⟩; replace BK263 := Aside0.mk (KeepBut.blk hk (g' := gb263) (o := .cells #[.int .i64 0, .int .i64 0, .int .i64 0, .int .i64 0, .int .i64 0, .int .i64 0, .int .i64 0, .int .i64 0, .int .i64 0, .bool false, .int .i64 0] 30 (0, 0)) (by (with_reducible repeat (first | apply b1 | apply b2 | apply b3)); refine blk_far ?_ NB263_281.out _; (with_reducible repeat (first | apply b1 | apply b2 | apply b3)); refine blk_far ?_ NB263_281.out _; (with_reducible repeat (first | apply b1 | apply b2 | apply b3)); refine blk_far ?_ NB263_281.out _; (with_reducible repeat (first | apply b1 | apply b2 | apply b3)); refine blk_far ?_ NB263_281.out _; (with_reducible repeat (first | apply b1 | apply b2 | apply b3)); refine blk_far ?_ NB263_281.out _; (with_reducible repeat (first | apply b1 | apply b2 | apply b3)); refine blk_far ?_ NB263_281.out _; (with_reducible repeat (first | apply b1 | apply b2 | apply b3)); refine blk_far ?_ NB263_281.out _; (with_reducible repeat (first | apply b1 | apply b2 | apply b3)); refine blk_far ?_ NB263_281.out _; (with_reducible repeat (first | apply b1 | apply b2 | apply b3)); refine blk_far ?_ NB263_281.out _; (with_reducible repeat (first | apply b1 | apply b2 | apply b3)); refine blk_far ?_ NB263_281.out _; (with_reducible repeat (first | apply b1 | apply b2 | apply b3)); refine blk_far ?_ NB263_281.out _; (with_reducible repeat (first | apply b1 | apply b2 | apply b3)); exact BK263.out) NB263_267.out (by simp)); replace BK281 := Aside0.mk (KeepBut.blk hk (g' := gb281) (o := .cells #[.int .i64 t268, .int .i64 t269, .int .i64 t270, .int .i64 t271, .int .i64 t272, .int .i64 t273, .int .i64 t274, .int .i64 t275, .int .i64 t276, .bool t277, .int .i64 t278] 30 (0, 0)) (by (with_reducible repeat (first | apply b1 | apply b2 | apply b3)); refine blk_put (cs := #[.int .i64 t268, .int .i64 t269, .int .i64 t270, .int .i64 t271, .int .i64 t272, .int .i64 t273, .int .i64 t274, .int .i64 t275, .int .i64 t276, .bool t277, .int .i64 0]) ?_ 10 _ rfl; (with_reducible repeat (first | apply b1 | apply b2 | apply b3)); refine blk_put (cs := #[.int .i64 t268, .int .i64 t269, .int .i64 t270, .int .i64 t271, .int .i64 t272, .int .i64 t273, .int .i64 t274, .int .i64 t275, .int .i64 t276, .bool false, .int .i64 0]) ?_ 9 _ rfl; (with_reducible repeat (first | apply b1 | apply b2 | apply b3)); refine blk_put (cs := #[.int .i64 t268, .int .i64 t269, .int .i64 t270, .int .i64 t271, .int .i64 t272, .int .i64 t273, .int .i64 t274, .int .i64 t275, .int .i64 0, .bool false, .int .i64 0]) ?_ 8 _ rfl; (with_reducible repeat (first | apply b1 | apply b2 | apply b3)); refine blk_put (cs := #[.int .i64 t268, .int .i64 t269, .int .i64 t270, .int .i64 t271, .int .i64 t272, .int .i64 t273, .int .i64 t274, .int .i64 0, .int .i64 0, .bool false, .int .i64 0]) ?_ 7 _ rfl; (with_reducible repeat (first | apply b1 | apply b2 | apply b3)); refine blk_put (cs := #[.int .i64 t268, .int .i64 t269, .int .i64 t270, .int .i64 t271, .int .i64 t272, .int .i64 t273, .int .i64 0, .int .i64 0, .int .i64 0, .bool false, .int .i64 0]) ?_ 6 _ rfl; (with_reducible repeat (first | apply b1 | apply b2 | apply b3)); refine blk_put (cs := #[.int .i64 t268, .int .i64 t269, .int .i64 t270, .int .i64 t271, .int .i64 t272, .int .i64 0, .int .i64 0, .int .i64 0, .int .i64 0, .bool false, .int .i64 0]) ?_ 5 _ rfl; (with_reducible repeat (first | apply b1 | apply b2 | apply b3)); refine blk_put (cs := #[.int .i64 t268, .int .i64 t269, .int .i64 t270, .int .i64 t271, .int .i64 0, .int .i64 0, .int .i64 0, .int .i64 0, .int .i64 0, .bool false, .int .i64 0]) ?_ 4 _ rfl; (with_reducible repeat (first | apply b1 | apply b2 | apply b3)); refine blk_put (cs := #[.int .i64 t268, .int .i64 t269, .int .i64 t270, .int .i64 0, .int .i64 0, .int .i64 0, .int .i64 0, .int .i64 0, .int .i64 0, .bool false, .int .i64 0]) ?_ 3 _ rfl; (with_reducible repeat (first | apply b1 | apply b2 | apply b3)); refine blk_put (cs := #[.int .i64 t268, .int .i64 t269, .int .i64 0, .int .i64 0, .int .i64 0, .int .i64 0, .int .i64 0, .int .i64 0, .int .i64 0, .bool false, .int .i64 0]) ?_ 2 _ rfl; (with_reducible repeat (first | apply b1 | apply b2 | apply b3)); refine blk_put (cs := #[.int .i64 t268, .int .i64 0, .int .i64 0, .int .i64 0, .int .i64 0, .int .i64 0, .int .i64 0, .int .i64 0, .int .i64 0, .bool false, .int .i64 0]) ?_ 1 _ rfl; (with_reducible repeat (first | apply b1 | apply b2 | apply b3)); refine blk_put (cs := #[.int .i64 0, .int .i64 0, .int .i64 0, .int .i64 0, .int .i64 0, .int .i64 0, .int .i64 0, .int .i64 0, .int .i64 0, .bool false, .int .i64 0]) ?_ 0 _ rfl; (with_reducible repeat (first | apply b1 | apply b2 | apply b3)); exact BK281.out) NB281_267.out (by simp)); replace HB := Aside0.mk (hb); replace HI267 := Aside0.mk (hi); (try clear hb); (try clear hb2); (try clear hk); (try clear hi)))
  have n0_ := Aside0.mk (blk_drew BK263.out)
  have n1_ := Aside0.mk (blk_drew BK281.out)
  have n2_ := Aside0.mk (IsS112.drew HI267.out)
  have n3_ := Aside0.mk (below_drew1 HB.out)
  clear BK263
  clear BK281
  clear HI267
  clear HB
  have BK263 := n0_
  have BK281 := n1_
  have HI267 := n2_
  have HB := n3_
  clear n0_ n1_ n2_ n3_
  refine start_ (n := 5) (S := fun w' => w'.cell? ⟨gb281, 0, none⟩ = some (.int .i64 t268) ∧ w'.cell? ⟨gb281, 1, none⟩ = some (.int .i64 t269) ∧ w'.cell? ⟨gb281, 2, none⟩ = some (.int .i64 t270) ∧ w'.cell? ⟨gb281, 3, none⟩ = some (.int .i64 t271) ∧ w'.cell? ⟨gb281, 4, none⟩ = some (.int .i64 t272) ∧ w'.cell? ⟨gb281, 5, none⟩ = some (.int .i64 t273) ∧ w'.cell? ⟨gb281, 6, none⟩ = some (.int .i64 t274) ∧ w'.cell? ⟨gb281, 7, none⟩ = some (.int .i64 t275) ∧ w'.cell? ⟨gb281, 8, none⟩ = some (.int .i64 t276) ∧ w'.cell? ⟨gb281, 9, none⟩ = some (.bool t277) ∧ w'.cell? ⟨gb281, 10, none⟩ = some (.int .i64 t278)) (ds := []) #[false, false, false, false, false] (by kernel_rfl) rfl rfl ⟨CZ BK281.out 0, CZ BK281.out 1, CZ BK281.out 2, CZ BK281.out 3, CZ BK281.out 4, CZ BK281.out 5, CZ BK281.out 6, CZ BK281.out 7, CZ BK281.out 8, CZ BK281.out 9, CZ BK281.out 10⟩ (fun hHeld => ?_)
  generalize w40.drew = w41 at BK263 BK281 HI267 HB hHeld ⊢
  refine pure_ (i := 0) (N := some 15) (v := ?_) (a' := ?_) #[true, false, false, false, false] rfl rfl (by kernel_rfl) (fun _ _ _ h => h) (Or.inl ⟨by rfl, ?_⟩) ?_ ?_
  rotate_left
  ·
   intro w'
   go_simp
   with_reducible rfl
  rotate_left
  ·
   simp only [Act.put, zA, zB, zC, i64_w, i32_w]
   rfl
  refine take_ (i := 2) (N := some 17) (v := ?_) (a' := ?_) #[true, false, true, false, false] rfl rfl (by kernel_rfl) (fun _ _ _ h => h) (Or.inl ⟨by rfl, ?_⟩) hHeld ?_ ?_
  rotate_left
  ·
   rintro w' ⟨s0, s1, s2, s3, s4, s5, s6, s7, s8, s9, s10⟩
   go_simp
   with_reducible rfl
  rotate_left
  ·
   simp only [Act.put, zA, zB, zC, i64_w, i32_w]
   rfl
  refine one_ (i := 1) (N := some 16) #[true, true, true, false, false] rfl rfl (by kernel_rfl) (by decide) (fun K hK => ?_)
  refine goes_ Try.func55 (by kernel_rfl) rfl #[.pointer (some ⟨g267, 0, none⟩)] (by rfl) rfl rfl (MA) ?_
  with_reducible refine (spec_l07Pairs.calls k g267 t264 t283 t284 t293 t296 t297 w _ ?side1 ?side2 A32.out).mono ?_
  (case side1 => repeat (first | (with_reducible first | exact HI267.out | apply IsS112.alloc | apply IsS112.drewN | apply IsS112.drew | apply IsS112.set_1 | apply IsS112.set_2 | refine IsS112.far ?_ NB267_263.out _ | refine IsS112.far ?_ NB267_281.out _) | exact HI267.out))
  (case side2 => repeat (first | (with_reducible first | exact HB.out | apply below_alloc | apply pw_below_drewN | apply below_drew1 | refine below_set ?_ (IsS112.ge HI267.out) | refine below_set ?_ GE263.out | refine below_set ?_ GE281.out) | exact HB.out))
  rintro e w42 ⟨v294, rfl, ho0, hi, hb, hk⟩
  refine ⟨_, rfl, ?_⟩
  have n0_ := Aside0.mk (KeepBut.blk hk (g' := gb263) (o := .cells #[.int .i64 0, .int .i64 0, .int .i64 0, .int .i64 0, .int .i64 0, .int .i64 0, .int .i64 0, .int .i64 0, .int .i64 0, .bool false, .int .i64 0] 30 (0, 0)) (BQ BK263.out) NB263_267.out (by simp))
  have n1_ := Aside0.mk (KeepBut.blk hk (g' := gb281) (o := .cells #[.int .i64 t268, .int .i64 t269, .int .i64 t270, .int .i64 t271, .int .i64 t272, .int .i64 t273, .int .i64 t274, .int .i64 t275, .int .i64 t276, .bool t277, .int .i64 t278] 30 (0, 0)) (BQ BK281.out) NB281_267.out (by simp))
  have n2_ := Aside0.mk (Kd.R_lower ho0 (below_size (by repeat (first | (with_reducible first | exact HB.out | apply below_alloc | apply pw_below_drewN | apply below_drew1 | refine below_set ?_ (IsS112.ge HI267.out) | refine below_set ?_ GE263.out | refine below_set ?_ GE281.out) | exact HB.out))))
  have n3_ := Aside0.mk (hb)
  have n4_ := Aside0.mk (hi)
  clear BK263
  clear BK281
  clear HB
  clear HI267
  have BK263 := n0_
  have BK281 := n1_
  have HO295 := n2_
  have HB := n3_
  have HI267 := n4_
  clear n0_ n1_ n2_ n3_ n4_
  (try clear hb)
  (try clear hb2)
  (try clear hk)
  (try clear hi)
  (try clear ho0)
  refine hK.out _ _ ⟨CZ BK281.out 0, CZ BK281.out 1, CZ BK281.out 2, CZ BK281.out 3, CZ BK281.out 4, CZ BK281.out 5, CZ BK281.out 6, CZ BK281.out 7, CZ BK281.out 8, CZ BK281.out 9, CZ BK281.out 10⟩ (fun hHeld => ?_)
  clear hK K
  refine norm_ (a' := ?_) ?_ ?_
  rotate_left
  ·
   show Act.put _ (some 16) _ = _
   simp only [Act.put, zA, zB, zC, i64_w, i32_w]
   rfl
  refine pure_ (i := 3) (N := some 2) (v := ?_) (a' := ?_) #[true, true, true, true, false] rfl rfl (by kernel_rfl) (fun _ _ _ h => h) (Or.inl ⟨by rfl, ?_⟩) ?_ ?_
  rotate_left
  ·
   intro w'
   go_simp
   with_reducible rfl
  rotate_left
  ·
   simp only [Act.put, zA, zB, zC, i64_w, i32_w]
   rfl
  refine one_ (i := 4) (N := none) #[true, true, true, true, true] rfl rfl (by kernel_rfl) (by decide) (fun K hK => ?_)
  have hs43 : w42.cell? ⟨gb263, 0, none⟩ = some (.int .i64 0) := CZ BK263.out 0
  have hfs43 := blk_frozen BK263.out 0
  have hns43_1 := NB281_263.out
  have hms43_1 := NB263_281.out
  have hs44 : w42.cell? ⟨gb263, 1, none⟩ = some (.int .i64 0) := CZ BK263.out 1
  have hfs44 := blk_frozen BK263.out 1
  have hns44_1 := NB281_263.out
  have hms44_1 := NB263_281.out
  have hs45 : w42.cell? ⟨gb263, 2, none⟩ = some (.int .i64 0) := CZ BK263.out 2
  have hfs45 := blk_frozen BK263.out 2
  have hns45_1 := NB281_263.out
  have hms45_1 := NB263_281.out
  have hs46 : w42.cell? ⟨gb263, 3, none⟩ = some (.int .i64 0) := CZ BK263.out 3
  have hfs46 := blk_frozen BK263.out 3
  have hns46_1 := NB281_263.out
  have hms46_1 := NB263_281.out
  have hs47 : w42.cell? ⟨gb263, 4, none⟩ = some (.int .i64 0) := CZ BK263.out 4
  have hfs47 := blk_frozen BK263.out 4
  have hns47_1 := NB281_263.out
  have hms47_1 := NB263_281.out
  have hs48 : w42.cell? ⟨gb263, 5, none⟩ = some (.int .i64 0) := CZ BK263.out 5
  have hfs48 := blk_frozen BK263.out 5
  have hns48_1 := NB281_263.out
  have hms48_1 := NB263_281.out
  have hs49 : w42.cell? ⟨gb263, 6, none⟩ = some (.int .i64 0) := CZ BK263.out 6
  have hfs49 := blk_frozen BK263.out 6
  have hns49_1 := NB281_263.out
  have hms49_1 := NB263_281.out
  have hs50 : w42.cell? ⟨gb263, 7, none⟩ = some (.int .i64 0) := CZ BK263.out 7
  have hfs50 := blk_frozen BK263.out 7
  have hns50_1 := NB281_263.out
  have hms50_1 := NB263_281.out
  have hs51 : w42.cell? ⟨gb263, 8, none⟩ = some (.int .i64 0) := CZ BK263.out 8
  have hfs51 := blk_frozen BK263.out 8
  have hns51_1 := NB281_263.out
  have hms51_1 := NB263_281.out
  have hs52 : w42.cell? ⟨gb263, 9, none⟩ = some (.bool false) := CZ BK263.out 9
  have hfs52 := blk_frozen BK263.out 9
  have hns52_1 := NB281_263.out
  have hms52_1 := NB263_281.out
  have hs53 : w42.cell? ⟨gb263, 10, none⟩ = some (.int .i64 0) := CZ BK263.out 10
  have hfs53 := blk_frozen BK263.out 10
  have hns53_1 := NB281_263.out
  have hms53_1 := NB263_281.out
  refine skip_ (w1 := ?_) (by rfl) rfl ?_ ?_
  rotate_left
  ·
   go_simp
   rfl
  refine hK.out _ _ ⟨((cell_far (p := ⟨gb263, _, none⟩) NB281_263.out _).trans (((cell_far (p := ⟨gb263, _, none⟩) NB281_263.out _).trans (((cell_far (p := ⟨gb263, _, none⟩) NB281_263.out _).trans (((cell_far (p := ⟨gb263, _, none⟩) NB281_263.out _).trans (((cell_far (p := ⟨gb263, _, none⟩) NB281_263.out _).trans (((cell_far (p := ⟨gb263, _, none⟩) NB281_263.out _).trans (((cell_far (p := ⟨gb263, _, none⟩) NB281_263.out _).trans (((cell_far (p := ⟨gb263, _, none⟩) NB281_263.out _).trans (((cell_far (p := ⟨gb263, _, none⟩) NB281_263.out _).trans (((cell_far (p := ⟨gb263, _, none⟩) NB281_263.out _).trans (((cell_far (p := ⟨gb263, _, none⟩) NB281_263.out _).trans (hHeld.1)))))))))))))))))))))), ((cell_far (p := ⟨gb263, _, none⟩) NB281_263.out _).trans (((cell_far (p := ⟨gb263, _, none⟩) NB281_263.out _).trans (((cell_far (p := ⟨gb263, _, none⟩) NB281_263.out _).trans (((cell_far (p := ⟨gb263, _, none⟩) NB281_263.out _).trans (((cell_far (p := ⟨gb263, _, none⟩) NB281_263.out _).trans (((cell_far (p := ⟨gb263, _, none⟩) NB281_263.out _).trans (((cell_far (p := ⟨gb263, _, none⟩) NB281_263.out _).trans (((cell_far (p := ⟨gb263, _, none⟩) NB281_263.out _).trans (((cell_far (p := ⟨gb263, _, none⟩) NB281_263.out _).trans (((cell_far (p := ⟨gb263, _, none⟩) NB281_263.out _).trans (((cell_far (p := ⟨gb263, _, none⟩) NB281_263.out _).trans (hHeld.2.1)))))))))))))))))))))), ((cell_far (p := ⟨gb263, _, none⟩) NB281_263.out _).trans (((cell_far (p := ⟨gb263, _, none⟩) NB281_263.out _).trans (((cell_far (p := ⟨gb263, _, none⟩) NB281_263.out _).trans (((cell_far (p := ⟨gb263, _, none⟩) NB281_263.out _).trans (((cell_far (p := ⟨gb263, _, none⟩) NB281_263.out _).trans (((cell_far (p := ⟨gb263, _, none⟩) NB281_263.out _).trans (((cell_far (p := ⟨gb263, _, none⟩) NB281_263.out _).trans (((cell_far (p := ⟨gb263, _, none⟩) NB281_263.out _).trans (((cell_far (p := ⟨gb263, _, none⟩) NB281_263.out _).trans (((cell_far (p := ⟨gb263, _, none⟩) NB281_263.out _).trans (((cell_far (p := ⟨gb263, _, none⟩) NB281_263.out _).trans (hHeld.2.2.1)))))))))))))))))))))), ((cell_far (p := ⟨gb263, _, none⟩) NB281_263.out _).trans (((cell_far (p := ⟨gb263, _, none⟩) NB281_263.out _).trans (((cell_far (p := ⟨gb263, _, none⟩) NB281_263.out _).trans (((cell_far (p := ⟨gb263, _, none⟩) NB281_263.out _).trans (((cell_far (p := ⟨gb263, _, none⟩) NB281_263.out _).trans (((cell_far (p := ⟨gb263, _, none⟩) NB281_263.out _).trans (((cell_far (p := ⟨gb263, _, none⟩) NB281_263.out _).trans (((cell_far (p := ⟨gb263, _, none⟩) NB281_263.out _).trans (((cell_far (p := ⟨gb263, _, none⟩) NB281_263.out _).trans (((cell_far (p := ⟨gb263, _, none⟩) NB281_263.out _).trans (((cell_far (p := ⟨gb263, _, none⟩) NB281_263.out _).trans (hHeld.2.2.2.1)))))))))))))))))))))), ((cell_far (p := ⟨gb263, _, none⟩) NB281_263.out _).trans (((cell_far (p := ⟨gb263, _, none⟩) NB281_263.out _).trans (((cell_far (p := ⟨gb263, _, none⟩) NB281_263.out _).trans (((cell_far (p := ⟨gb263, _, none⟩) NB281_263.out _).trans (((cell_far (p := ⟨gb263, _, none⟩) NB281_263.out _).trans (((cell_far (p := ⟨gb263, _, none⟩) NB281_263.out _).trans (((cell_far (p := ⟨gb263, _, none⟩) NB281_263.out _).trans (((cell_far (p := ⟨gb263, _, none⟩) NB281_263.out _).trans (((cell_far (p := ⟨gb263, _, none⟩) NB281_263.out _).trans (((cell_far (p := ⟨gb263, _, none⟩) NB281_263.out _).trans (((cell_far (p := ⟨gb263, _, none⟩) NB281_263.out _).trans (hHeld.2.2.2.2.1)))))))))))))))))))))), ((cell_far (p := ⟨gb263, _, none⟩) NB281_263.out _).trans (((cell_far (p := ⟨gb263, _, none⟩) NB281_263.out _).trans (((cell_far (p := ⟨gb263, _, none⟩) NB281_263.out _).trans (((cell_far (p := ⟨gb263, _, none⟩) NB281_263.out _).trans (((cell_far (p := ⟨gb263, _, none⟩) NB281_263.out _).trans (((cell_far (p := ⟨gb263, _, none⟩) NB281_263.out _).trans (((cell_far (p := ⟨gb263, _, none⟩) NB281_263.out _).trans (((cell_far (p := ⟨gb263, _, none⟩) NB281_263.out _).trans (((cell_far (p := ⟨gb263, _, none⟩) NB281_263.out _).trans (((cell_far (p := ⟨gb263, _, none⟩) NB281_263.out _).trans (((cell_far (p := ⟨gb263, _, none⟩) NB281_263.out _).trans (hHeld.2.2.2.2.2.1)))))))))))))))))))))), ((cell_far (p := ⟨gb263, _, none⟩) NB281_263.out _).trans (((cell_far (p := ⟨gb263, _, none⟩) NB281_263.out _).trans (((cell_far (p := ⟨gb263, _, none⟩) NB281_263.out _).trans (((cell_far (p := ⟨gb263, _, none⟩) NB281_263.out _).trans (((cell_far (p := ⟨gb263, _, none⟩) NB281_263.out _).trans (((cell_far (p := ⟨gb263, _, none⟩) NB281_263.out _).trans (((cell_far (p := ⟨gb263, _, none⟩) NB281_263.out _).trans (((cell_far (p := ⟨gb263, _, none⟩) NB281_263.out _).trans (((cell_far (p := ⟨gb263, _, none⟩) NB281_263.out _).trans (((cell_far (p := ⟨gb263, _, none⟩) NB281_263.out _).trans (((cell_far (p := ⟨gb263, _, none⟩) NB281_263.out _).trans (hHeld.2.2.2.2.2.2.1)))))))))))))))))))))), ((cell_far (p := ⟨gb263, _, none⟩) NB281_263.out _).trans (((cell_far (p := ⟨gb263, _, none⟩) NB281_263.out _).trans (((cell_far (p := ⟨gb263, _, none⟩) NB281_263.out _).trans (((cell_far (p := ⟨gb263, _, none⟩) NB281_263.out _).trans (((cell_far (p := ⟨gb263, _, none⟩) NB281_263.out _).trans (((cell_far (p := ⟨gb263, _, none⟩) NB281_263.out _).trans (((cell_far (p := ⟨gb263, _, none⟩) NB281_263.out _).trans (((cell_far (p := ⟨gb263, _, none⟩) NB281_263.out _).trans (((cell_far (p := ⟨gb263, _, none⟩) NB281_263.out _).trans (((cell_far (p := ⟨gb263, _, none⟩) NB281_263.out _).trans (((cell_far (p := ⟨gb263, _, none⟩) NB281_263.out _).trans (hHeld.2.2.2.2.2.2.2.1)))))))))))))))))))))), ((cell_far (p := ⟨gb263, _, none⟩) NB281_263.out _).trans (((cell_far (p := ⟨gb263, _, none⟩) NB281_263.out _).trans (((cell_far (p := ⟨gb263, _, none⟩) NB281_263.out _).trans (((cell_far (p := ⟨gb263, _, none⟩) NB281_263.out _).trans (((cell_far (p := ⟨gb263, _, none⟩) NB281_263.out _).trans (((cell_far (p := ⟨gb263, _, none⟩) NB281_263.out _).trans (((cell_far (p := ⟨gb263, _, none⟩) NB281_263.out _).trans (((cell_far (p := ⟨gb263, _, none⟩) NB281_263.out _).trans (((cell_far (p := ⟨gb263, _, none⟩) NB281_263.out _).trans (((cell_far (p := ⟨gb263, _, none⟩) NB281_263.out _).trans (((cell_far (p := ⟨gb263, _, none⟩) NB281_263.out _).trans (hHeld.2.2.2.2.2.2.2.2.1)))))))))))))))))))))), ((cell_far (p := ⟨gb263, _, none⟩) NB281_263.out _).trans (((cell_far (p := ⟨gb263, _, none⟩) NB281_263.out _).trans (((cell_far (p := ⟨gb263, _, none⟩) NB281_263.out _).trans (((cell_far (p := ⟨gb263, _, none⟩) NB281_263.out _).trans (((cell_far (p := ⟨gb263, _, none⟩) NB281_263.out _).trans (((cell_far (p := ⟨gb263, _, none⟩) NB281_263.out _).trans (((cell_far (p := ⟨gb263, _, none⟩) NB281_263.out _).trans (((cell_far (p := ⟨gb263, _, none⟩) NB281_263.out _).trans (((cell_far (p := ⟨gb263, _, none⟩) NB281_263.out _).trans (((cell_far (p := ⟨gb263, _, none⟩) NB281_263.out _).trans (((cell_far (p := ⟨gb263, _, none⟩) NB281_263.out _).trans (hHeld.2.2.2.2.2.2.2.2.2.1)))))))))))))))))))))), ((cell_far (p := ⟨gb263, _, none⟩) NB281_263.out _).trans (((cell_far (p := ⟨gb263, _, none⟩) NB281_263.out _).trans (((cell_far (p := ⟨gb263, _, none⟩) NB281_263.out _).trans (((cell_far (p := ⟨gb263, _, none⟩) NB281_263.out _).trans (((cell_far (p := ⟨gb263, _, none⟩) NB281_263.out _).trans (((cell_far (p := ⟨gb263, _, none⟩) NB281_263.out _).trans (((cell_far (p := ⟨gb263, _, none⟩) NB281_263.out _).trans (((cell_far (p := ⟨gb263, _, none⟩) NB281_263.out _).trans (((cell_far (p := ⟨gb263, _, none⟩) NB281_263.out _).trans (((cell_far (p := ⟨gb263, _, none⟩) NB281_263.out _).trans (((cell_far (p := ⟨gb263, _, none⟩) NB281_263.out _).trans (hHeld.2.2.2.2.2.2.2.2.2.2))))))))))))))))))))))⟩ (fun hHeld => ?_)
  clear hK K
  refine done_ (by kernel_rfl) ?_
  try go_wp2
  refine bodyPost_ret (results_tc rfl _ _ gb263 30 #[.int .i64 t268, .int .i64 t269, .int .i64 t270, .int .i64 t271, .int .i64 t272, .int .i64 t273, .int .i64 t274, .int .i64 t275, .int .i64 t276, .bool t277, .int .i64 t278] (0, 0) _ rfl (by (with_reducible repeat (first | apply b1 | apply b2 | apply b3)); refine blk_put (cs := #[.int .i64 t268, .int .i64 t269, .int .i64 t270, .int .i64 t271, .int .i64 t272, .int .i64 t273, .int .i64 t274, .int .i64 t275, .int .i64 t276, .bool t277, .int .i64 0]) ?_ 10 _ rfl; (with_reducible repeat (first | apply b1 | apply b2 | apply b3)); refine blk_put (cs := #[.int .i64 t268, .int .i64 t269, .int .i64 t270, .int .i64 t271, .int .i64 t272, .int .i64 t273, .int .i64 t274, .int .i64 t275, .int .i64 t276, .bool false, .int .i64 0]) ?_ 9 _ rfl; (with_reducible repeat (first | apply b1 | apply b2 | apply b3)); refine blk_put (cs := #[.int .i64 t268, .int .i64 t269, .int .i64 t270, .int .i64 t271, .int .i64 t272, .int .i64 t273, .int .i64 t274, .int .i64 t275, .int .i64 0, .bool false, .int .i64 0]) ?_ 8 _ rfl; (with_reducible repeat (first | apply b1 | apply b2 | apply b3)); refine blk_put (cs := #[.int .i64 t268, .int .i64 t269, .int .i64 t270, .int .i64 t271, .int .i64 t272, .int .i64 t273, .int .i64 t274, .int .i64 0, .int .i64 0, .bool false, .int .i64 0]) ?_ 7 _ rfl; (with_reducible repeat (first | apply b1 | apply b2 | apply b3)); refine blk_put (cs := #[.int .i64 t268, .int .i64 t269, .int .i64 t270, .int .i64 t271, .int .i64 t272, .int .i64 t273, .int .i64 0, .int .i64 0, .int .i64 0, .bool false, .int .i64 0]) ?_ 6 _ rfl; (with_reducible repeat (first | apply b1 | apply b2 | apply b3)); refine blk_put (cs := #[.int .i64 t268, .int .i64 t269, .int .i64 t270, .int .i64 t271, .int .i64 t272, .int .i64 0, .int .i64 0, .int .i64 0, .int .i64 0, .bool false, .int .i64 0]) ?_ 5 _ rfl; (with_reducible repeat (first | apply b1 | apply b2 | apply b3)); refine blk_put (cs := #[.int .i64 t268, .int .i64 t269, .int .i64 t270, .int .i64 t271, .int .i64 0, .int .i64 0, .int .i64 0, .int .i64 0, .int .i64 0, .bool false, .int .i64 0]) ?_ 4 _ rfl; (with_reducible repeat (first | apply b1 | apply b2 | apply b3)); refine blk_put (cs := #[.int .i64 t268, .int .i64 t269, .int .i64 t270, .int .i64 0, .int .i64 0, .int .i64 0, .int .i64 0, .int .i64 0, .int .i64 0, .bool false, .int .i64 0]) ?_ 3 _ rfl; (with_reducible repeat (first | apply b1 | apply b2 | apply b3)); refine blk_put (cs := #[.int .i64 t268, .int .i64 t269, .int .i64 0, .int .i64 0, .int .i64 0, .int .i64 0, .int .i64 0, .int .i64 0, .int .i64 0, .bool false, .int .i64 0]) ?_ 2 _ rfl; (with_reducible repeat (first | apply b1 | apply b2 | apply b3)); refine blk_put (cs := #[.int .i64 t268, .int .i64 0, .int .i64 0, .int .i64 0, .int .i64 0, .int .i64 0, .int .i64 0, .int .i64 0, .int .i64 0, .bool false, .int .i64 0]) ?_ 1 _ rfl; (with_reducible repeat (first | apply b1 | apply b2 | apply b3)); refine blk_put (cs := #[.int .i64 0, .int .i64 0, .int .i64 0, .int .i64 0, .int .i64 0, .int .i64 0, .int .i64 0, .int .i64 0, .int .i64 0, .bool false, .int .i64 0]) ?_ 0 _ rfl; (with_reducible repeat (first | apply b1 | apply b2 | apply b3)); exact BK263.out) Try.underlying30 rfl (by kernel_rfl)) rfl ?_
  exact ⟨_, EE, by (with_reducible repeat (first | apply r1 | apply r2 | apply r3)); exact Kd.R_mono (Kd.R_far (p := ⟨gb263, 10, none⟩) (Kd.R_far (p := ⟨gb263, 9, none⟩) (Kd.R_far (p := ⟨gb263, 8, none⟩) (Kd.R_far (p := ⟨gb263, 7, none⟩) (Kd.R_far (p := ⟨gb263, 6, none⟩) (Kd.R_far (p := ⟨gb263, 5, none⟩) (Kd.R_far (p := ⟨gb263, 4, none⟩) (Kd.R_far (p := ⟨gb263, 3, none⟩) (Kd.R_far (p := ⟨gb263, 2, none⟩) (Kd.R_far (p := ⟨gb263, 1, none⟩) (Kd.R_far (p := ⟨gb263, 0, none⟩) (Kd.R_types HO295.out BK263.out (by decide)) (fun _ hk => hk.2) (.int .i64 t268)) (fun _ hk => hk.2) (.int .i64 t269)) (fun _ hk => hk.2) (.int .i64 t270)) (fun _ hk => hk.2) (.int .i64 t271)) (fun _ hk => hk.2) (.int .i64 t272)) (fun _ hk => hk.2) (.int .i64 t273)) (fun _ hk => hk.2) (.int .i64 t274)) (fun _ hk => hk.2) (.int .i64 t275)) (fun _ hk => hk.2) (.int .i64 t276)) (fun _ hk => hk.2) (.bool t277)) (fun _ hk => hk.2) (.int .i64 t278)) (fun _ hk => trivial), by repeat (first | (with_reducible first | exact HB.out | apply below_alloc | apply pw_below_drewN | apply below_drew1 | refine below_set ?_ (IsS112.ge HI267.out) | refine below_set ?_ GE263.out | refine below_set ?_ GE281.out) | exact HB.out)⟩
 subst c5
 have H1 : ((spec_l01Below.f t264 t283 t284 6).bind fun bt285 => ((spec_l07Pairs.f k t264 bt285.2.1 bt285.2.2).bind fun bt288 => (some (bt288.1, bt285.1, t269, t270, t271, t272, t273, t274, t275, t276, t277, t278)))) = some (r1, r2, r3, r4, r5, r6, r7, r8, r9, r10, r11, r12) := by rw [if_pos rfl] at H; exact H
 clear H
 have H := H1
 clear H1
 replace H := Option.bind_eq_some_iff.mp H
 obtain ⟨⟨t285, t286, t287⟩, A60, H⟩ := H
 replace H : ((spec_l07Pairs.f k t264 t286 t287).bind fun bt288 => (some (bt288.1, t285, t269, t270, t271, t272, t273, t274, t275, t276, t277, t278))) = some (r1, r2, r3, r4, r5, r6, r7, r8, r9, r10, r11, r12) := H
 have A6 := Aside0.mk A60
 clear A60
 replace H := Option.bind_eq_some_iff.mp H
 obtain ⟨⟨t288, t291, t292⟩, A70, H⟩ := H
 replace H : (some (t288, t285, t269, t270, t271, t272, t273, t274, t275, t276, t277, t278)) = some (r1, r2, r3, r4, r5, r6, r7, r8, r9, r10, r11, r12) := H
 have A7 := Aside0.mk A70
 clear A70
 simp only [Option.some.injEq, Prod.mk.injEq] at H
 obtain ⟨rfl, rfl, rfl, rfl, rfl, rfl, rfl, rfl, rfl, rfl, rfl, rfl⟩ := H
 go_enter Try.func22, Try.ntmps22
 try go_wp2_with (first | ((with_reducible refine gate_dst (N := 3) rfl ?_); refine bE 3 #[.int .i64 0, .int .i64 0, .int .i64 0, .int .i64 0, .int .i64 0, .int .i64 0, .int .i64 0, .int .i64 0, .int .i64 0, .bool false, .int .i64 0] 30 ?_; intro gb263 hg w8 hbox hb; have BK263 := Aside0.mk (hbox); have GW263 : Aside0 (w.heap.size ≤ gb263) := GS; have GE263 : Aside0 (w.heap.size ≤ gb263) := GS; replace HB := Aside0.mk (below_step (BL) hb); clear hb hbox hg) | ((with_reducible refine gate_callee (f := 56) rfl ?_); refine goesL_ (some 7) rfl rfl Try.func56 (by kernel_rfl) rfl #[.slice A0 l0.length c0] rfl (MA) ?_; (with_reducible refine (spec_l01New.calls k _ _ l0 t264 t265 t266 w _ ?side1 ?side2 ?side3 A2.out).mono ?_); (case side1 => repeat (first | (with_reducible first | exact HB.out | apply below_alloc | apply pw_below_drewN | apply below_drew1 | refine below_set ?_ GE263.out) | exact HB.out)); (case side2 => exact HR0.out); (case side3 => exact HC0.out); rintro e w9 ⟨g267, rfl, hi, hb, hb2⟩; refine ⟨_, rfl, ?_⟩; have HI267 := Aside0.mk (hi); have NB267_263 := Aside0.mk (IsS112.ne_blk hi (blk_below (g := gb263) (o := .cells #[.int .i64 0, .int .i64 0, .int .i64 0, .int .i64 0, .int .i64 0, .int .i64 0, .int .i64 0, .int .i64 0, .int .i64 0, .bool false, .int .i64 0] 30 (0, 0)) (BQ BK263.out) hb2) (by decide)); have NB263_267 := Aside0.mk (Ne.symm (IsS112.ne_blk hi (blk_below (g := gb263) (o := .cells #[.int .i64 0, .int .i64 0, .int .i64 0, .int .i64 0, .int .i64 0, .int .i64 0, .int .i64 0, .int .i64 0, .int .i64 0, .bool false, .int .i64 0] 30 (0, 0)) (BQ BK263.out) hb2) (by decide))); replace BK263 := Aside0.mk (blk_below (g := gb263) (o := .cells #[.int .i64 0, .int .i64 0, .int .i64 0, .int .i64 0, .int .i64 0, .int .i64 0, .int .i64 0, .int .i64 0, .int .i64 0, .bool false, .int .i64 0] 30 (0, 0)) (BQ BK263.out) hb2); replace HB := Aside0.mk (hb); (try clear hb); (try clear hb2); (try clear hk); (try clear hi)) | ((with_reducible refine gate_callee (f := 59) rfl ?_); refine goesL_ (some 9) rfl rfl Try.func59 (by kernel_rfl) rfl #[.pointer (some ⟨g267, 0, none⟩), .int .i64 1] rfl (MA) ?_; (with_reducible refine (spec_l06Task.calls g267 t264 t265 t266 1 t268 t269 t270 t271 t272 t273 t274 t275 t276 t277 t278 t279 t280 w _ ?side1 ?side2 A3.out).mono ?_); (case side1 => repeat (first | (with_reducible first | exact HI267.out | apply IsS112.alloc | apply IsS112.drewN | apply IsS112.drew | apply IsS112.set_1 | apply IsS112.set_2 | refine IsS112.far ?_ NB267_263.out _) | exact HI267.out)); (case side2 => repeat (first | (with_reducible first | exact HB.out | apply below_alloc | apply pw_below_drewN | apply below_drew1 | refine below_set ?_ (IsS112.ge HI267.out) | refine below_set ?_ GE263.out) | exact HB.out)); rintro e w10 ⟨rfl, hi, hb, hk⟩; refine ⟨_, rfl, ?_⟩; replace BK263 := Aside0.mk (KeepBut.blk hk (g' := gb263) (o := .cells #[.int .i64 0, .int .i64 0, .int .i64 0, .int .i64 0, .int .i64 0, .int .i64 0, .int .i64 0, .int .i64 0, .int .i64 0, .bool false, .int .i64 0] 30 (0, 0)) (BQ BK263.out) NB263_267.out (by simp)); replace HB := Aside0.mk (hb); replace HI267 := Aside0.mk (hi); (try clear hb); (try clear hb2); (try clear hk); (try clear hi)) | ((with_reducible refine gate_dst (N := 5) rfl ?_); refine bE 5 #[.int .i64 0, .int .i64 0, .int .i64 0, .int .i64 0, .int .i64 0, .int .i64 0, .int .i64 0, .int .i64 0, .int .i64 0, .bool false, .int .i64 0] 30 ?_; intro gb281 hg w11 hbox hb; have BK281 := Aside0.mk (hbox); have GW281 := Aside0.mk ((by rw [hg]; exact (below_size (by repeat (first | (with_reducible first | exact HB.out | apply below_alloc | apply pw_below_drewN | apply below_drew1 | refine below_set ?_ (IsS112.ge HI267.out) | refine below_set ?_ GE263.out) | exact HB.out))) : w.heap.size ≤ gb281)); have GE281 := Aside0.mk ((by rw [hg]; exact (below_size (by repeat (first | (with_reducible first | exact HB.out | apply below_alloc | apply pw_below_drewN | apply below_drew1 | refine below_set ?_ (IsS112.ge HI267.out) | refine below_set ?_ GE263.out) | exact HB.out))) : w.heap.size ≤ gb281)); have NB263_281 := NL BK263.out hg; have NB281_263 := NG BK263.out hg; have NB267_281 := Aside0.mk ((by rw [hg]; exact Nat.ne_of_lt (IsS112.lt (show IsS112 w _ g267 t264 t279 t280 from by repeat (first | (with_reducible first | exact HI267.out | apply IsS112.alloc | apply IsS112.drewN | apply IsS112.drew | apply IsS112.set_1 | apply IsS112.set_2 | refine IsS112.far ?_ NB267_263.out _) | exact HI267.out))) : g267 ≠ gb281)); have NB281_267 := Aside0.mk ((by rw [hg]; exact Nat.ne_of_gt (IsS112.lt (show IsS112 w _ g267 t264 t279 t280 from by repeat (first | (with_reducible first | exact HI267.out | apply IsS112.alloc | apply IsS112.drewN | apply IsS112.drew | apply IsS112.set_1 | apply IsS112.set_2 | refine IsS112.far ?_ NB267_263.out _) | exact HI267.out))) : gb281 ≠ g267)); replace BK263 := BB BK263.out hb; replace HB := Aside0.mk (below_step (by repeat (first | (with_reducible first | exact HB.out | apply below_alloc | apply pw_below_drewN | apply below_drew1 | refine below_set ?_ (IsS112.ge HI267.out) | refine below_set ?_ GE263.out) | exact HB.out)) hb); replace HI267 := Aside0.mk (IsS112.below (by repeat (first | (with_reducible first | exact HI267.out | apply IsS112.alloc | apply IsS112.drewN | apply IsS112.drew | apply IsS112.set_1 | apply IsS112.set_2 | refine IsS112.far ?_ NB267_263.out _) | exact HI267.out)) hb); clear hb hbox hg; have hnb12 := NB281_263.out; have hnc12 := NB263_281.out; have hnb13 := NB281_267.out; have hnc13 := NB267_281.out; have hcz14_0 : w11.cell? ⟨gb281, 0, none⟩ = some (.int .i64 0) := CZ BK281.out 0; have hcz14_1 : w11.cell? ⟨gb281, 1, none⟩ = some (.int .i64 0) := CZ BK281.out 1; have hcz14_2 : w11.cell? ⟨gb281, 2, none⟩ = some (.int .i64 0) := CZ BK281.out 2; have hcz14_3 : w11.cell? ⟨gb281, 3, none⟩ = some (.int .i64 0) := CZ BK281.out 3; have hcz14_4 : w11.cell? ⟨gb281, 4, none⟩ = some (.int .i64 0) := CZ BK281.out 4; have hcz14_5 : w11.cell? ⟨gb281, 5, none⟩ = some (.int .i64 0) := CZ BK281.out 5; have hcz14_6 : w11.cell? ⟨gb281, 6, none⟩ = some (.int .i64 0) := CZ BK281.out 6; have hcz14_7 : w11.cell? ⟨gb281, 7, none⟩ = some (.int .i64 0) := CZ BK281.out 7; have hcz14_8 : w11.cell? ⟨gb281, 8, none⟩ = some (.int .i64 0) := CZ BK281.out 8; have hcz14_9 : w11.cell? ⟨gb281, 9, none⟩ = some (.bool false) := CZ BK281.out 9; have hcz14_10 : w11.cell? ⟨gb281, 10, none⟩ = some (.int .i64 0) := CZ BK281.out 10; have hfz14_0 := blk_frozen BK281.out 0; have hfz14_1 := blk_frozen BK281.out 1; have hfz14_2 := blk_frozen BK281.out 2; have hfz14_3 := blk_frozen BK281.out 3; have hfz14_4 := blk_frozen BK281.out 4; have hfz14_5 := blk_frozen BK281.out 5; have hfz14_6 := blk_frozen BK281.out 6; have hfz14_7 := blk_frozen BK281.out 7; have hfz14_8 := blk_frozen BK281.out 8; have hfz14_9 := blk_frozen BK281.out 9; have hfz14_10 := blk_frozen BK281.out 10) | ((with_reducible refine gate_callee (f := 60) rfl ?_); refine goesL_ (some 11) rfl rfl Try.func60 (by kernel_rfl) rfl #[.pointer (some ⟨g267, 0, none⟩), .int .i64 12] rfl (MA) ?_; (with_reducible refine (spec_l01Once.calls g267 t264 t279 t280 12 true t283 t284 w _ ?side1 ?side2 A4.out).mono ?_); (case side1 => repeat (first | (with_reducible first | exact HI267.out | apply IsS112.alloc | apply IsS112.drewN | apply IsS112.drew | apply IsS112.set_1 | apply IsS112.set_2 | refine IsS112.far ?_ NB267_263.out _ | refine IsS112.far ?_ NB267_281.out _) | exact HI267.out)); (case side2 => repeat (first | (with_reducible first | exact HB.out | apply below_alloc | apply pw_below_drewN | apply below_drew1 | refine below_set ?_ (IsS112.ge HI267.out) | refine below_set ?_ GE263.out | refine below_set ?_ GE281.out) | exact HB.out)); rintro e w15 ⟨rfl, hi, hb, hk⟩; refine ⟨_, rfl, ?_⟩; replace BK263 := Aside0.mk (KeepBut.blk hk (g' := gb263) (o := .cells #[.int .i64 0, .int .i64 0, .int .i64 0, .int .i64 0, .int .i64 0, .int .i64 0, .int .i64 0, .int .i64 0, .int .i64 0, .bool false, .int .i64 0] 30 (0, 0)) (by (with_reducible repeat (first | apply b1 | apply b2 | apply b3)); refine blk_far ?_ NB263_281.out _; (with_reducible repeat (first | apply b1 | apply b2 | apply b3)); refine blk_far ?_ NB263_281.out _; (with_reducible repeat (first | apply b1 | apply b2 | apply b3)); refine blk_far ?_ NB263_281.out _; (with_reducible repeat (first | apply b1 | apply b2 | apply b3)); refine blk_far ?_ NB263_281.out _; (with_reducible repeat (first | apply b1 | apply b2 | apply b3)); refine blk_far ?_ NB263_281.out _; (with_reducible repeat (first | apply b1 | apply b2 | apply b3)); refine blk_far ?_ NB263_281.out _; (with_reducible repeat (first | apply b1 | apply b2 | apply b3)); refine blk_far ?_ NB263_281.out _; (with_reducible repeat (first | apply b1 | apply b2 | apply b3)); refine blk_far ?_ NB263_281.out _; (with_reducible repeat (first | apply b1 | apply b2 | apply b3)); refine blk_far ?_ NB263_281.out _; (with_reducible repeat (first | apply b1 | apply b2 | apply b3)); refine blk_far ?_ NB263_281.out _; (with_reducible repeat (first | apply b1 | apply b2 | apply b3)); refine blk_far ?_ NB263_281.out _; (with_reducible repeat (first | apply b1 | apply b2 | apply b3)); exact BK263.out) NB263_267.out (by simp)); replace BK281 := Aside0.mk (KeepBut.blk hk (g' := gb281) (o := .cells #[.int .i64 t268, .int .i64 t269, .int .i64 t270, .int .i64 t271, .int .i64 t272, .int .i64 t273, .int .i64 t274, .int .i64 t275, .int .i64 t276, .bool t277, .int .i64 t278] 30 (0, 0)) (by (with_reducible repeat (first | apply b1 | apply b2 | apply b3)); refine blk_put (cs := #[.int .i64 t268, .int .i64 t269, .int .i64 t270, .int .i64 t271, .int .i64 t272, .int .i64 t273, .int .i64 t274, .int .i64 t275, .int .i64 t276, .bool t277, .int .i64 0]) ?_ 10 _ rfl; (with_reducible repeat (first | apply b1 | apply b2 | apply b3)); refine blk_put (cs := #[.int .i64 t268, .int .i64 t269, .int .i64 t270, .int .i64 t271, .int .i64 t272, .int .i64 t273, .int .i64 t274, .int .i64 t275, .int .i64 t276, .bool false, .int .i64 0]) ?_ 9 _ rfl; (with_reducible repeat (first | apply b1 | apply b2 | apply b3)); refine blk_put (cs := #[.int .i64 t268, .int .i64 t269, .int .i64 t270, .int .i64 t271, .int .i64 t272, .int .i64 t273, .int .i64 t274, .int .i64 t275, .int .i64 0, .bool false, .int .i64 0]) ?_ 8 _ rfl; (with_reducible repeat (first | apply b1 | apply b2 | apply b3)); refine blk_put (cs := #[.int .i64 t268, .int .i64 t269, .int .i64 t270, .int .i64 t271, .int .i64 t272, .int .i64 t273, .int .i64 t274, .int .i64 0, .int .i64 0, .bool false, .int .i64 0]) ?_ 7 _ rfl; (with_reducible repeat (first | apply b1 | apply b2 | apply b3)); refine blk_put (cs := #[.int .i64 t268, .int .i64 t269, .int .i64 t270, .int .i64 t271, .int .i64 t272, .int .i64 t273, .int .i64 0, .int .i64 0, .int .i64 0, .bool false, .int .i64 0]) ?_ 6 _ rfl; (with_reducible repeat (first | apply b1 | apply b2 | apply b3)); refine blk_put (cs := #[.int .i64 t268, .int .i64 t269, .int .i64 t270, .int .i64 t271, .int .i64 t272, .int .i64 0, .int .i64 0, .int .i64 0, .int .i64 0, .bool false, .int .i64 0]) ?_ 5 _ rfl; (with_reducible repeat (first | apply b1 | apply b2 | apply b3)); refine blk_put (cs := #[.int .i64 t268, .int .i64 t269, .int .i64 t270, .int .i64 t271, .int .i64 0, .int .i64 0, .int .i64 0, .int .i64 0, .int .i64 0, .bool false, .int .i64 0]) ?_ 4 _ rfl; (with_reducible repeat (first | apply b1 | apply b2 | apply b3)); refine blk_put (cs := #[.int .i64 t268, .int .i64 t269, .int .i64 t270, .int .i64 0, .int .i64 0, .int .i64 0, .int .i64 0, .int .i64 0, .int .i64 0, .bool false, .int .i64 0]) ?_ 3 _ rfl; (with_reducible repeat (first | apply b1 | apply b2 | apply b3)); refine blk_put (cs := #[.int .i64 t268, .int .i64 t269, .int .i64 0, .int .i64 0, .int .i64 0, .int .i64 0, .int .i64 0, .int .i64 0, .int .i64 0, .bool false, .int .i64 0]) ?_ 2 _ rfl; (with_reducible repeat (first | apply b1 | apply b2 | apply b3)); refine blk_put (cs := #[.int .i64 t268, .int .i64 0, .int .i64 0, .int .i64 0, .int .i64 0, .int .i64 0, .int .i64 0, .int .i64 0, .int .i64 0, .bool false, .int .i64 0]) ?_ 1 _ rfl; (with_reducible repeat (first | apply b1 | apply b2 | apply b3)); refine blk_put (cs := #[.int .i64 0, .int .i64 0, .int .i64 0, .int .i64 0, .int .i64 0, .int .i64 0, .int .i64 0, .int .i64 0, .int .i64 0, .bool false, .int .i64 0]) ?_ 0 _ rfl; (with_reducible repeat (first | apply b1 | apply b2 | apply b3)); exact BK281.out) NB281_267.out (by simp)); replace HB := Aside0.mk (hb); replace HI267 := Aside0.mk (hi); (try clear hb); (try clear hb2); (try clear hk); (try clear hi)) | ((with_reducible refine gate_callee (f := 58) rfl ?_); refine goesL_ (some 13) rfl rfl Try.func58 (by kernel_rfl) rfl #[.pointer (some ⟨g267, 0, none⟩), .int .i64 6] rfl (MA) ?_; (with_reducible refine (spec_l01Below.calls g267 t264 t283 t284 6 t285 t286 t287 w _ ?side1 ?side2 A6.out).mono ?_); (case side1 => repeat (first | (with_reducible first | exact HI267.out | apply IsS112.alloc | apply IsS112.drewN | apply IsS112.drew | apply IsS112.set_1 | apply IsS112.set_2 | refine IsS112.far ?_ NB267_263.out _ | refine IsS112.far ?_ NB267_281.out _) | exact HI267.out)); (case side2 => repeat (first | (with_reducible first | exact HB.out | apply below_alloc | apply pw_below_drewN | apply below_drew1 | refine below_set ?_ (IsS112.ge HI267.out) | refine below_set ?_ GE263.out | refine below_set ?_ GE281.out) | exact HB.out)); rintro e w16 ⟨rfl, hi, hb, hk⟩; refine ⟨_, rfl, ?_⟩; replace BK263 := Aside0.mk (KeepBut.blk hk (g' := gb263) (o := .cells #[.int .i64 0, .int .i64 0, .int .i64 0, .int .i64 0, .int .i64 0, .int .i64 0, .int .i64 0, .int .i64 0, .int .i64 0, .bool false, .int .i64 0] 30 (0, 0)) (BQ BK263.out) NB263_267.out (by simp)); replace BK281 := Aside0.mk (KeepBut.blk hk (g' := gb281) (o := .cells #[.int .i64 t268, .int .i64 t269, .int .i64 t270, .int .i64 t271, .int .i64 t272, .int .i64 t273, .int .i64 t274, .int .i64 t275, .int .i64 t276, .bool t277, .int .i64 t278] 30 (0, 0)) (BQ BK281.out) NB281_267.out (by simp)); replace HB := Aside0.mk (hb); replace HI267 := Aside0.mk (hi); (try clear hb); (try clear hb2); (try clear hk); (try clear hi); have hcz17_0 : w16.cell? ⟨gb281, 0, none⟩ = some (.int .i64 t268) := CZ BK281.out 0; have hcz17_1 : w16.cell? ⟨gb281, 1, none⟩ = some (.int .i64 t269) := CZ BK281.out 1; have hcz17_2 : w16.cell? ⟨gb281, 2, none⟩ = some (.int .i64 t270) := CZ BK281.out 2; have hcz17_3 : w16.cell? ⟨gb281, 3, none⟩ = some (.int .i64 t271) := CZ BK281.out 3; have hcz17_4 : w16.cell? ⟨gb281, 4, none⟩ = some (.int .i64 t272) := CZ BK281.out 4; have hcz17_5 : w16.cell? ⟨gb281, 5, none⟩ = some (.int .i64 t273) := CZ BK281.out 5; have hcz17_6 : w16.cell? ⟨gb281, 6, none⟩ = some (.int .i64 t274) := CZ BK281.out 6; have hcz17_7 : w16.cell? ⟨gb281, 7, none⟩ = some (.int .i64 t275) := CZ BK281.out 7; have hcz17_8 : w16.cell? ⟨gb281, 8, none⟩ = some (.int .i64 t276) := CZ BK281.out 8; have hcz17_9 : w16.cell? ⟨gb281, 9, none⟩ = some (.bool t277) := CZ BK281.out 9; have hcz17_10 : w16.cell? ⟨gb281, 10, none⟩ = some (.int .i64 t278) := CZ BK281.out 10; have hfz17_0 := blk_frozen BK281.out 0; have hfz17_1 := blk_frozen BK281.out 1; have hfz17_2 := blk_frozen BK281.out 2; have hfz17_3 := blk_frozen BK281.out 3; have hfz17_4 := blk_frozen BK281.out 4; have hfz17_5 := blk_frozen BK281.out 5; have hfz17_6 := blk_frozen BK281.out 6; have hfz17_7 := blk_frozen BK281.out 7; have hfz17_8 := blk_frozen BK281.out 8; have hfz17_9 := blk_frozen BK281.out 9; have hfz17_10 := blk_frozen BK281.out 10))
 have n0_ : Aside0 ((w16.setCell ⟨gb281, 0, none⟩ (.int .i64 t285)).heap[gb263]? = some (.cells #[.int .i64 0, .int .i64 0, .int .i64 0, .int .i64 0, .int .i64 0, .int .i64 0, .int .i64 0, .int .i64 0, .int .i64 0, .bool false, .int .i64 0] 30 (0, 0))) := ⟨by (with_reducible repeat (first | apply b1 | apply b2 | apply b3)); refine blk_far ?_ NB263_281.out _; (with_reducible repeat (first | apply b1 | apply b2 | apply b3)); exact BK263.out⟩
 have n1_ : Aside0 ((w16.setCell ⟨gb281, 0, none⟩ (.int .i64 t285)).heap[gb281]? = some (.cells #[.int .i64 t285, .int .i64 t269, .int .i64 t270, .int .i64 t271, .int .i64 t272, .int .i64 t273, .int .i64 t274, .int .i64 t275, .int .i64 t276, .bool t277, .int .i64 t278] 30 (0, 0))) := ⟨by (with_reducible repeat (first | apply b1 | apply b2 | apply b3)); refine blk_put (cs := #[.int .i64 t268, .int .i64 t269, .int .i64 t270, .int .i64 t271, .int .i64 t272, .int .i64 t273, .int .i64 t274, .int .i64 t275, .int .i64 t276, .bool t277, .int .i64 t278]) ?_ 0 _ rfl; (with_reducible repeat (first | apply b1 | apply b2 | apply b3)); exact BK281.out⟩
 have n2_ : Aside0 (IsS112 w (w16.setCell ⟨gb281, 0, none⟩ (.int .i64 t285)) g267 t264 t286 t287) := ⟨by repeat (first | (with_reducible first | exact HI267.out | apply IsS112.alloc | apply IsS112.drewN | apply IsS112.drew | apply IsS112.set_1 | apply IsS112.set_2 | refine IsS112.far ?_ NB267_263.out _ | refine IsS112.far ?_ NB267_281.out _) | exact HI267.out)⟩
 have n3_ : Aside0 (Below w.heap.size w (w16.setCell ⟨gb281, 0, none⟩ (.int .i64 t285))) := ⟨by repeat (first | (with_reducible first | exact HB.out | apply below_alloc | apply pw_below_drewN | apply below_drew1 | refine below_set ?_ (IsS112.ge HI267.out) | refine below_set ?_ GE263.out | refine below_set ?_ GE281.out) | exact HB.out)⟩
 (try clear BK263)
 (try clear BK281)
 (try clear HI267)
 (try clear HB)
 generalize (w16.setCell ⟨gb281, 0, none⟩ (.int .i64 t285)) = w18 at n0_ n1_ n2_ n3_ ⊢
 have BK263 := n0_
 have BK281 := n1_
 have HI267 := n2_
 have HB := n3_
 clear n0_ n1_ n2_ n3_
 have n0_ := Aside0.mk (blk_drew BK263.out)
 have n1_ := Aside0.mk (blk_drew BK281.out)
 have n2_ := Aside0.mk (IsS112.drew HI267.out)
 have n3_ := Aside0.mk (below_drew1 HB.out)
 clear BK263
 clear BK281
 clear HI267
 clear HB
 have BK263 := n0_
 have BK281 := n1_
 have HI267 := n2_
 have HB := n3_
 clear n0_ n1_ n2_ n3_
 refine start_ (n := 5) (S := fun w' => w'.cell? ⟨gb281, 0, none⟩ = some (.int .i64 t285) ∧ w'.cell? ⟨gb281, 1, none⟩ = some (.int .i64 t269) ∧ w'.cell? ⟨gb281, 2, none⟩ = some (.int .i64 t270) ∧ w'.cell? ⟨gb281, 3, none⟩ = some (.int .i64 t271) ∧ w'.cell? ⟨gb281, 4, none⟩ = some (.int .i64 t272) ∧ w'.cell? ⟨gb281, 5, none⟩ = some (.int .i64 t273) ∧ w'.cell? ⟨gb281, 6, none⟩ = some (.int .i64 t274) ∧ w'.cell? ⟨gb281, 7, none⟩ = some (.int .i64 t275) ∧ w'.cell? ⟨gb281, 8, none⟩ = some (.int .i64 t276) ∧ w'.cell? ⟨gb281, 9, none⟩ = some (.bool t277) ∧ w'.cell? ⟨gb281, 10, none⟩ = some (.int .i64 t278)) (ds := []) #[false, false, false, false, false] (by kernel_rfl) rfl rfl ⟨CZ BK281.out 0, CZ BK281.out 1, CZ BK281.out 2, CZ BK281.out 3, CZ BK281.out 4, CZ BK281.out 5, CZ BK281.out 6, CZ BK281.out 7, CZ BK281.out 8, CZ BK281.out 9, CZ BK281.out 10⟩ (fun hHeld => ?_)
 generalize w18.drew = w19 at BK263 BK281 HI267 HB hHeld ⊢
 refine pure_ (i := 0) (N := some 15) (v := ?_) (a' := ?_) #[true, false, false, false, false] rfl rfl (by kernel_rfl) (fun _ _ _ h => h) (Or.inl ⟨by rfl, ?_⟩) ?_ ?_
 rotate_left
 ·
  intro w'
  go_simp
  with_reducible rfl
 rotate_left
 ·
  simp only [Act.put, zA, zB, zC, i64_w, i32_w]
  rfl
 refine take_ (i := 2) (N := some 17) (v := ?_) (a' := ?_) #[true, false, true, false, false] rfl rfl (by kernel_rfl) (fun _ _ _ h => h) (Or.inl ⟨by rfl, ?_⟩) hHeld ?_ ?_
 rotate_left
 ·
  rintro w' ⟨s0, s1, s2, s3, s4, s5, s6, s7, s8, s9, s10⟩
  go_simp
  with_reducible rfl
 rotate_left
 ·
  simp only [Act.put, zA, zB, zC, i64_w, i32_w]
  rfl
 refine one_ (i := 1) (N := some 16) #[true, true, true, false, false] rfl rfl (by kernel_rfl) (by decide) (fun K hK => ?_)
 refine goes_ Try.func55 (by kernel_rfl) rfl #[.pointer (some ⟨g267, 0, none⟩)] (by rfl) rfl rfl (MA) ?_
 with_reducible refine (spec_l07Pairs.calls k g267 t264 t286 t287 t288 t291 t292 w _ ?side1 ?side2 A7.out).mono ?_
 (case side1 => repeat (first | (with_reducible first | exact HI267.out | apply IsS112.alloc | apply IsS112.drewN | apply IsS112.drew | apply IsS112.set_1 | apply IsS112.set_2 | refine IsS112.far ?_ NB267_263.out _ | refine IsS112.far ?_ NB267_281.out _) | exact HI267.out))
 (case side2 => repeat (first | (with_reducible first | exact HB.out | apply below_alloc | apply pw_below_drewN | apply below_drew1 | refine below_set ?_ (IsS112.ge HI267.out) | refine below_set ?_ GE263.out | refine below_set ?_ GE281.out) | exact HB.out))
 rintro e w20 ⟨v289, rfl, ho0, hi, hb, hk⟩
 refine ⟨_, rfl, ?_⟩
 have n0_ := Aside0.mk (KeepBut.blk hk (g' := gb263) (o := .cells #[.int .i64 0, .int .i64 0, .int .i64 0, .int .i64 0, .int .i64 0, .int .i64 0, .int .i64 0, .int .i64 0, .int .i64 0, .bool false, .int .i64 0] 30 (0, 0)) (BQ BK263.out) NB263_267.out (by simp))
 have n1_ := Aside0.mk (KeepBut.blk hk (g' := gb281) (o := .cells #[.int .i64 t285, .int .i64 t269, .int .i64 t270, .int .i64 t271, .int .i64 t272, .int .i64 t273, .int .i64 t274, .int .i64 t275, .int .i64 t276, .bool t277, .int .i64 t278] 30 (0, 0)) (BQ BK281.out) NB281_267.out (by simp))
 have n2_ := Aside0.mk (Kd.R_lower ho0 (below_size (by repeat (first | (with_reducible first | exact HB.out | apply below_alloc | apply pw_below_drewN | apply below_drew1 | refine below_set ?_ (IsS112.ge HI267.out) | refine below_set ?_ GE263.out | refine below_set ?_ GE281.out) | exact HB.out))))
 have n3_ := Aside0.mk (hb)
 have n4_ := Aside0.mk (hi)
 clear BK263
 clear BK281
 clear HB
 clear HI267
 have BK263 := n0_
 have BK281 := n1_
 have HO290 := n2_
 have HB := n3_
 have HI267 := n4_
 clear n0_ n1_ n2_ n3_ n4_
 (try clear hb)
 (try clear hb2)
 (try clear hk)
 (try clear hi)
 (try clear ho0)
 refine hK.out _ _ ⟨CZ BK281.out 0, CZ BK281.out 1, CZ BK281.out 2, CZ BK281.out 3, CZ BK281.out 4, CZ BK281.out 5, CZ BK281.out 6, CZ BK281.out 7, CZ BK281.out 8, CZ BK281.out 9, CZ BK281.out 10⟩ (fun hHeld => ?_)
 clear hK K
 refine norm_ (a' := ?_) ?_ ?_
 rotate_left
 ·
  show Act.put _ (some 16) _ = _
  simp only [Act.put, zA, zB, zC, i64_w, i32_w]
  rfl
 refine pure_ (i := 3) (N := some 2) (v := ?_) (a' := ?_) #[true, true, true, true, false] rfl rfl (by kernel_rfl) (fun _ _ _ h => h) (Or.inl ⟨by rfl, ?_⟩) ?_ ?_
 rotate_left
 ·
  intro w'
  go_simp
  with_reducible rfl
 rotate_left
 ·
  simp only [Act.put, zA, zB, zC, i64_w, i32_w]
  rfl
 refine one_ (i := 4) (N := none) #[true, true, true, true, true] rfl rfl (by kernel_rfl) (by decide) (fun K hK => ?_)
 have hs21 : w20.cell? ⟨gb263, 0, none⟩ = some (.int .i64 0) := CZ BK263.out 0
 have hfs21 := blk_frozen BK263.out 0
 have hns21_1 := NB281_263.out
 have hms21_1 := NB263_281.out
 have hs22 : w20.cell? ⟨gb263, 1, none⟩ = some (.int .i64 0) := CZ BK263.out 1
 have hfs22 := blk_frozen BK263.out 1
 have hns22_1 := NB281_263.out
 have hms22_1 := NB263_281.out
 have hs23 : w20.cell? ⟨gb263, 2, none⟩ = some (.int .i64 0) := CZ BK263.out 2
 have hfs23 := blk_frozen BK263.out 2
 have hns23_1 := NB281_263.out
 have hms23_1 := NB263_281.out
 have hs24 : w20.cell? ⟨gb263, 3, none⟩ = some (.int .i64 0) := CZ BK263.out 3
 have hfs24 := blk_frozen BK263.out 3
 have hns24_1 := NB281_263.out
 have hms24_1 := NB263_281.out
 have hs25 : w20.cell? ⟨gb263, 4, none⟩ = some (.int .i64 0) := CZ BK263.out 4
 have hfs25 := blk_frozen BK263.out 4
 have hns25_1 := NB281_263.out
 have hms25_1 := NB263_281.out
 have hs26 : w20.cell? ⟨gb263, 5, none⟩ = some (.int .i64 0) := CZ BK263.out 5
 have hfs26 := blk_frozen BK263.out 5
 have hns26_1 := NB281_263.out
 have hms26_1 := NB263_281.out
 have hs27 : w20.cell? ⟨gb263, 6, none⟩ = some (.int .i64 0) := CZ BK263.out 6
 have hfs27 := blk_frozen BK263.out 6
 have hns27_1 := NB281_263.out
 have hms27_1 := NB263_281.out
 have hs28 : w20.cell? ⟨gb263, 7, none⟩ = some (.int .i64 0) := CZ BK263.out 7
 have hfs28 := blk_frozen BK263.out 7
 have hns28_1 := NB281_263.out
 have hms28_1 := NB263_281.out
 have hs29 : w20.cell? ⟨gb263, 8, none⟩ = some (.int .i64 0) := CZ BK263.out 8
 have hfs29 := blk_frozen BK263.out 8
 have hns29_1 := NB281_263.out
 have hms29_1 := NB263_281.out
 have hs30 : w20.cell? ⟨gb263, 9, none⟩ = some (.bool false) := CZ BK263.out 9
 have hfs30 := blk_frozen BK263.out 9
 have hns30_1 := NB281_263.out
 have hms30_1 := NB263_281.out
 have hs31 : w20.cell? ⟨gb263, 10, none⟩ = some (.int .i64 0) := CZ BK263.out 10
 have hfs31 := blk_frozen BK263.out 10
 have hns31_1 := NB281_263.out
 have hms31_1 := NB263_281.out
 refine skip_ (w1 := ?_) (by rfl) rfl ?_ ?_
 rotate_left
 ·
  go_simp
  rfl
 refine hK.out _ _ ⟨((cell_far (p := ⟨gb263, _, none⟩) NB281_263.out _).trans (((cell_far (p := ⟨gb263, _, none⟩) NB281_263.out _).trans (((cell_far (p := ⟨gb263, _, none⟩) NB281_263.out _).trans (((cell_far (p := ⟨gb263, _, none⟩) NB281_263.out _).trans (((cell_far (p := ⟨gb263, _, none⟩) NB281_263.out _).trans (((cell_far (p := ⟨gb263, _, none⟩) NB281_263.out _).trans (((cell_far (p := ⟨gb263, _, none⟩) NB281_263.out _).trans (((cell_far (p := ⟨gb263, _, none⟩) NB281_263.out _).trans (((cell_far (p := ⟨gb263, _, none⟩) NB281_263.out _).trans (((cell_far (p := ⟨gb263, _, none⟩) NB281_263.out _).trans (((cell_far (p := ⟨gb263, _, none⟩) NB281_263.out _).trans (hHeld.1)))))))))))))))))))))), ((cell_far (p := ⟨gb263, _, none⟩) NB281_263.out _).trans (((cell_far (p := ⟨gb263, _, none⟩) NB281_263.out _).trans (((cell_far (p := ⟨gb263, _, none⟩) NB281_263.out _).trans (((cell_far (p := ⟨gb263, _, none⟩) NB281_263.out _).trans (((cell_far (p := ⟨gb263, _, none⟩) NB281_263.out _).trans (((cell_far (p := ⟨gb263, _, none⟩) NB281_263.out _).trans (((cell_far (p := ⟨gb263, _, none⟩) NB281_263.out _).trans (((cell_far (p := ⟨gb263, _, none⟩) NB281_263.out _).trans (((cell_far (p := ⟨gb263, _, none⟩) NB281_263.out _).trans (((cell_far (p := ⟨gb263, _, none⟩) NB281_263.out _).trans (((cell_far (p := ⟨gb263, _, none⟩) NB281_263.out _).trans (hHeld.2.1)))))))))))))))))))))), ((cell_far (p := ⟨gb263, _, none⟩) NB281_263.out _).trans (((cell_far (p := ⟨gb263, _, none⟩) NB281_263.out _).trans (((cell_far (p := ⟨gb263, _, none⟩) NB281_263.out _).trans (((cell_far (p := ⟨gb263, _, none⟩) NB281_263.out _).trans (((cell_far (p := ⟨gb263, _, none⟩) NB281_263.out _).trans (((cell_far (p := ⟨gb263, _, none⟩) NB281_263.out _).trans (((cell_far (p := ⟨gb263, _, none⟩) NB281_263.out _).trans (((cell_far (p := ⟨gb263, _, none⟩) NB281_263.out _).trans (((cell_far (p := ⟨gb263, _, none⟩) NB281_263.out _).trans (((cell_far (p := ⟨gb263, _, none⟩) NB281_263.out _).trans (((cell_far (p := ⟨gb263, _, none⟩) NB281_263.out _).trans (hHeld.2.2.1)))))))))))))))))))))), ((cell_far (p := ⟨gb263, _, none⟩) NB281_263.out _).trans (((cell_far (p := ⟨gb263, _, none⟩) NB281_263.out _).trans (((cell_far (p := ⟨gb263, _, none⟩) NB281_263.out _).trans (((cell_far (p := ⟨gb263, _, none⟩) NB281_263.out _).trans (((cell_far (p := ⟨gb263, _, none⟩) NB281_263.out _).trans (((cell_far (p := ⟨gb263, _, none⟩) NB281_263.out _).trans (((cell_far (p := ⟨gb263, _, none⟩) NB281_263.out _).trans (((cell_far (p := ⟨gb263, _, none⟩) NB281_263.out _).trans (((cell_far (p := ⟨gb263, _, none⟩) NB281_263.out _).trans (((cell_far (p := ⟨gb263, _, none⟩) NB281_263.out _).trans (((cell_far (p := ⟨gb263, _, none⟩) NB281_263.out _).trans (hHeld.2.2.2.1)))))))))))))))))))))), ((cell_far (p := ⟨gb263, _, none⟩) NB281_263.out _).trans (((cell_far (p := ⟨gb263, _, none⟩) NB281_263.out _).trans (((cell_far (p := ⟨gb263, _, none⟩) NB281_263.out _).trans (((cell_far (p := ⟨gb263, _, none⟩) NB281_263.out _).trans (((cell_far (p := ⟨gb263, _, none⟩) NB281_263.out _).trans (((cell_far (p := ⟨gb263, _, none⟩) NB281_263.out _).trans (((cell_far (p := ⟨gb263, _, none⟩) NB281_263.out _).trans (((cell_far (p := ⟨gb263, _, none⟩) NB281_263.out _).trans (((cell_far (p := ⟨gb263, _, none⟩) NB281_263.out _).trans (((cell_far (p := ⟨gb263, _, none⟩) NB281_263.out _).trans (((cell_far (p := ⟨gb263, _, none⟩) NB281_263.out _).trans (hHeld.2.2.2.2.1)))))))))))))))))))))), ((cell_far (p := ⟨gb263, _, none⟩) NB281_263.out _).trans (((cell_far (p := ⟨gb263, _, none⟩) NB281_263.out _).trans (((cell_far (p := ⟨gb263, _, none⟩) NB281_263.out _).trans (((cell_far (p := ⟨gb263, _, none⟩) NB281_263.out _).trans (((cell_far (p := ⟨gb263, _, none⟩) NB281_263.out _).trans (((cell_far (p := ⟨gb263, _, none⟩) NB281_263.out _).trans (((cell_far (p := ⟨gb263, _, none⟩) NB281_263.out _).trans (((cell_far (p := ⟨gb263, _, none⟩) NB281_263.out _).trans (((cell_far (p := ⟨gb263, _, none⟩) NB281_263.out _).trans (((cell_far (p := ⟨gb263, _, none⟩) NB281_263.out _).trans (((cell_far (p := ⟨gb263, _, none⟩) NB281_263.out _).trans (hHeld.2.2.2.2.2.1)))))))))))))))))))))), ((cell_far (p := ⟨gb263, _, none⟩) NB281_263.out _).trans (((cell_far (p := ⟨gb263, _, none⟩) NB281_263.out _).trans (((cell_far (p := ⟨gb263, _, none⟩) NB281_263.out _).trans (((cell_far (p := ⟨gb263, _, none⟩) NB281_263.out _).trans (((cell_far (p := ⟨gb263, _, none⟩) NB281_263.out _).trans (((cell_far (p := ⟨gb263, _, none⟩) NB281_263.out _).trans (((cell_far (p := ⟨gb263, _, none⟩) NB281_263.out _).trans (((cell_far (p := ⟨gb263, _, none⟩) NB281_263.out _).trans (((cell_far (p := ⟨gb263, _, none⟩) NB281_263.out _).trans (((cell_far (p := ⟨gb263, _, none⟩) NB281_263.out _).trans (((cell_far (p := ⟨gb263, _, none⟩) NB281_263.out _).trans (hHeld.2.2.2.2.2.2.1)))))))))))))))))))))), ((cell_far (p := ⟨gb263, _, none⟩) NB281_263.out _).trans (((cell_far (p := ⟨gb263, _, none⟩) NB281_263.out _).trans (((cell_far (p := ⟨gb263, _, none⟩) NB281_263.out _).trans (((cell_far (p := ⟨gb263, _, none⟩) NB281_263.out _).trans (((cell_far (p := ⟨gb263, _, none⟩) NB281_263.out _).trans (((cell_far (p := ⟨gb263, _, none⟩) NB281_263.out _).trans (((cell_far (p := ⟨gb263, _, none⟩) NB281_263.out _).trans (((cell_far (p := ⟨gb263, _, none⟩) NB281_263.out _).trans (((cell_far (p := ⟨gb263, _, none⟩) NB281_263.out _).trans (((cell_far (p := ⟨gb263, _, none⟩) NB281_263.out _).trans (((cell_far (p := ⟨gb263, _, none⟩) NB281_263.out _).trans (hHeld.2.2.2.2.2.2.2.1)))))))))))))))))))))), ((cell_far (p := ⟨gb263, _, none⟩) NB281_263.out _).trans (((cell_far (p := ⟨gb263, _, none⟩) NB281_263.out _).trans (((cell_far (p := ⟨gb263, _, none⟩) NB281_263.out _).trans (((cell_far (p := ⟨gb263, _, none⟩) NB281_263.out _).trans (((cell_far (p := ⟨gb263, _, none⟩) NB281_263.out _).trans (((cell_far (p := ⟨gb263, _, none⟩) NB281_263.out _).trans (((cell_far (p := ⟨gb263, _, none⟩) NB281_263.out _).trans (((cell_far (p := ⟨gb263, _, none⟩) NB281_263.out _).trans (((cell_far (p := ⟨gb263, _, none⟩) NB281_263.out _).trans (((cell_far (p := ⟨gb263, _, none⟩) NB281_263.out _).trans (((cell_far (p := ⟨gb263, _, none⟩) NB281_263.out _).trans (hHeld.2.2.2.2.2.2.2.2.1)))))))))))))))))))))), ((cell_far (p := ⟨gb263, _, none⟩) NB281_263.out _).trans (((cell_far (p := ⟨gb263, _, none⟩) NB281_263.out _).trans (((cell_far (p := ⟨gb263, _, none⟩) NB281_263.out _).trans (((cell_far (p := ⟨gb263, _, none⟩) NB281_263.out _).trans (((cell_far (p := ⟨gb263, _, none⟩) NB281_263.out _).trans (((cell_far (p := ⟨gb263, _, none⟩) NB281_263.out _).trans (((cell_far (p := ⟨gb263, _, none⟩) NB281_263.out _).trans (((cell_far (p := ⟨gb263, _, none⟩) NB281_263.out _).trans (((cell_far (p := ⟨gb263, _, none⟩) NB281_263.out _).trans (((cell_far (p := ⟨gb263, _, none⟩) NB281_263.out _).trans (((cell_far (p := ⟨gb263, _, none⟩) NB281_263.out _).trans (hHeld.2.2.2.2.2.2.2.2.2.1)))))))))))))))))))))), ((cell_far (p := ⟨gb263, _, none⟩) NB281_263.out _).trans (((cell_far (p := ⟨gb263, _, none⟩) NB281_263.out _).trans (((cell_far (p := ⟨gb263, _, none⟩) NB281_263.out _).trans (((cell_far (p := ⟨gb263, _, none⟩) NB281_263.out _).trans (((cell_far (p := ⟨gb263, _, none⟩) NB281_263.out _).trans (((cell_far (p := ⟨gb263, _, none⟩) NB281_263.out _).trans (((cell_far (p := ⟨gb263, _, none⟩) NB281_263.out _).trans (((cell_far (p := ⟨gb263, _, none⟩) NB281_263.out _).trans (((cell_far (p := ⟨gb263, _, none⟩) NB281_263.out _).trans (((cell_far (p := ⟨gb263, _, none⟩) NB281_263.out _).trans (((cell_far (p := ⟨gb263, _, none⟩) NB281_263.out _).trans (hHeld.2.2.2.2.2.2.2.2.2.2))))))))))))))))))))))⟩ (fun hHeld => ?_)
 clear hK K
 refine done_ (by kernel_rfl) ?_
 try go_wp2
 refine bodyPost_ret (results_tc rfl _ _ gb263 30 #[.int .i64 t285, .int .i64 t269, .int .i64 t270, .int .i64 t271, .int .i64 t272, .int .i64 t273, .int .i64 t274, .int .i64 t275, .int .i64 t276, .bool t277, .int .i64 t278] (0, 0) _ rfl (by (with_reducible repeat (first | apply b1 | apply b2 | apply b3)); refine blk_put (cs := #[.int .i64 t285, .int .i64 t269, .int .i64 t270, .int .i64 t271, .int .i64 t272, .int .i64 t273, .int .i64 t274, .int .i64 t275, .int .i64 t276, .bool t277, .int .i64 0]) ?_ 10 _ rfl; (with_reducible repeat (first | apply b1 | apply b2 | apply b3)); refine blk_put (cs := #[.int .i64 t285, .int .i64 t269, .int .i64 t270, .int .i64 t271, .int .i64 t272, .int .i64 t273, .int .i64 t274, .int .i64 t275, .int .i64 t276, .bool false, .int .i64 0]) ?_ 9 _ rfl; (with_reducible repeat (first | apply b1 | apply b2 | apply b3)); refine blk_put (cs := #[.int .i64 t285, .int .i64 t269, .int .i64 t270, .int .i64 t271, .int .i64 t272, .int .i64 t273, .int .i64 t274, .int .i64 t275, .int .i64 0, .bool false, .int .i64 0]) ?_ 8 _ rfl; (with_reducible repeat (first | apply b1 | apply b2 | apply b3)); refine blk_put (cs := #[.int .i64 t285, .int .i64 t269, .int .i64 t270, .int .i64 t271, .int .i64 t272, .int .i64 t273, .int .i64 t274, .int .i64 0, .int .i64 0, .bool false, .int .i64 0]) ?_ 7 _ rfl; (with_reducible repeat (first | apply b1 | apply b2 | apply b3)); refine blk_put (cs := #[.int .i64 t285, .int .i64 t269, .int .i64 t270, .int .i64 t271, .int .i64 t272, .int .i64 t273, .int .i64 0, .int .i64 0, .int .i64 0, .bool false, .int .i64 0]) ?_ 6 _ rfl; (with_reducible repeat (first | apply b1 | apply b2 | apply b3)); refine blk_put (cs := #[.int .i64 t285, .int .i64 t269, .int .i64 t270, .int .i64 t271, .int .i64 t272, .int .i64 0, .int .i64 0, .int .i64 0, .int .i64 0, .bool false, .int .i64 0]) ?_ 5 _ rfl; (with_reducible repeat (first | apply b1 | apply b2 | apply b3)); refine blk_put (cs := #[.int .i64 t285, .int .i64 t269, .int .i64 t270, .int .i64 t271, .int .i64 0, .int .i64 0, .int .i64 0, .int .i64 0, .int .i64 0, .bool false, .int .i64 0]) ?_ 4 _ rfl; (with_reducible repeat (first | apply b1 | apply b2 | apply b3)); refine blk_put (cs := #[.int .i64 t285, .int .i64 t269, .int .i64 t270, .int .i64 0, .int .i64 0, .int .i64 0, .int .i64 0, .int .i64 0, .int .i64 0, .bool false, .int .i64 0]) ?_ 3 _ rfl; (with_reducible repeat (first | apply b1 | apply b2 | apply b3)); refine blk_put (cs := #[.int .i64 t285, .int .i64 t269, .int .i64 0, .int .i64 0, .int .i64 0, .int .i64 0, .int .i64 0, .int .i64 0, .int .i64 0, .bool false, .int .i64 0]) ?_ 2 _ rfl; (with_reducible repeat (first | apply b1 | apply b2 | apply b3)); refine blk_put (cs := #[.int .i64 t285, .int .i64 0, .int .i64 0, .int .i64 0, .int .i64 0, .int .i64 0, .int .i64 0, .int .i64 0, .int .i64 0, .bool false, .int .i64 0]) ?_ 1 _ rfl; (with_reducible repeat (first | apply b1 | apply b2 | apply b3)); refine blk_put (cs := #[.int .i64 0, .int .i64 0, .int .i64 0, .int .i64 0, .int .i64 0, .int .i64 0, .int .i64 0, .int .i64 0, .int .i64 0, .bool false, .int .i64 0]) ?_ 0 _ rfl; (with_reducible repeat (first | apply b1 | apply b2 | apply b3)); exact BK263.out) Try.underlying30 rfl (by kernel_rfl)) rfl ?_
 exact ⟨_, EE, by (with_reducible repeat (first | apply r1 | apply r2 | apply r3)); exact Kd.R_mono (Kd.R_far (p := ⟨gb263, 10, none⟩) (Kd.R_far (p := ⟨gb263, 9, none⟩) (Kd.R_far (p := ⟨gb263, 8, none⟩) (Kd.R_far (p := ⟨gb263, 7, none⟩) (Kd.R_far (p := ⟨gb263, 6, none⟩) (Kd.R_far (p := ⟨gb263, 5, none⟩) (Kd.R_far (p := ⟨gb263, 4, none⟩) (Kd.R_far (p := ⟨gb263, 3, none⟩) (Kd.R_far (p := ⟨gb263, 2, none⟩) (Kd.R_far (p := ⟨gb263, 1, none⟩) (Kd.R_far (p := ⟨gb263, 0, none⟩) (Kd.R_types HO290.out BK263.out (by decide)) (fun _ hk => hk.2) (.int .i64 t285)) (fun _ hk => hk.2) (.int .i64 t269)) (fun _ hk => hk.2) (.int .i64 t270)) (fun _ hk => hk.2) (.int .i64 t271)) (fun _ hk => hk.2) (.int .i64 t272)) (fun _ hk => hk.2) (.int .i64 t273)) (fun _ hk => hk.2) (.int .i64 t274)) (fun _ hk => hk.2) (.int .i64 t275)) (fun _ hk => hk.2) (.int .i64 t276)) (fun _ hk => hk.2) (.bool t277)) (fun _ hk => hk.2) (.int .i64 t278)) (fun _ hk => trivial), by repeat (first | (with_reducible first | exact HB.out | apply below_alloc | apply pw_below_drewN | apply below_drew1 | refine below_set ?_ (IsS112.ge HI267.out) | refine below_set ?_ GE263.out | refine below_set ?_ GE281.out) | exact HB.out)⟩

/-! ### laws_samePairs: function 23 -/
def laws_samePairs.l0 : Nat → List (S71) → List (S71) → Int → Option (Bool)
 | 0, _, _, _ => none
 | k + 1, x0, x1, x5 => if x5 < (x0.length : Int) then (if 0 ≤ x5 then (if x5 < (x1.length : Int) then (if (!(((rd_T71 x0 x5).f0) == ((rd_T71 x1 x5).f0)) || (!(((rd_T71 x0 x5).f1) == ((rd_T71 x1 x5).f1)))) = true then (some false) else (laws_samePairs.l0 k x0 x1 (wrap64 (x5 + 1)))) else (none)) else (none)) else (some true)
def laws_samePairs.f (k : Nat) (l0 : List (S71)) (l1 : List (S71)) : Option (Bool) := if (l0.length : Int) = (l1.length : Int) then (laws_samePairs.l0 k l0 l1 0) else (some false)
theorem laws_samePairs.mono_l : ∀ k, (∀ y0 y1 y2, LeO (laws_samePairs.l0 k y0 y1 y2) (laws_samePairs.l0 (k + 1) y0 y1 y2))
 | 0 => fun _ _ _ r h => by simp [laws_samePairs.l0] at h
 | k + 1 => by
  have ih0 := laws_samePairs.mono_l k
  ·
   intro y0 y1 y2
   unfold laws_samePairs.l0
   repeat' first
   | (with_reducible exact ih0 _ _ _)
   | (with_reducible exact LeO.refl _)
   | (with_reducible exact LeO.none _)
   | (with_reducible refine LeO.ite ?_ ?_)
   | (with_reducible refine LeO.bind ?_ (fun _ => ?_))
   | exact ih0 _ _ _
   | exact LeO.none _
   | refine LeO.ite ?_ ?_
   | refine LeO.bind ?_ (fun _ => ?_)
theorem laws_samePairs.mono : ∀ a0 a1 k, LeO (laws_samePairs.f k a0 a1) (laws_samePairs.f (k + 1) a0 a1) := by
 intro a0 a1 k
 have ih0 := laws_samePairs.mono_l k
 unfold laws_samePairs.f
 repeat' first
   | (with_reducible exact ih0 _ _ _)
   | (with_reducible exact LeO.refl _)
   | (with_reducible exact LeO.none _)
   | (with_reducible refine LeO.ite ?_ ?_)
   | (with_reducible refine LeO.bind ?_ (fun _ => ?_))
   | exact ih0 _ _ _
   | exact LeO.none _
   | refine LeO.ite ?_ ?_
   | refine LeO.bind ?_ (fun _ => ?_)
set_option maxHeartbeats 8000000 in
set_option maxRecDepth 100000 in
theorem laws_samePairs.calls (k : Nat) (A0 : Option Addr) (c0 : Nat) (l0 : List (S71)) (A1 : Option Addr) (c1 : Nat) (l1 : List (S71)) (r : Bool) (w : World) (hr0 : Kd.C k71 w A0 l0.length l0) (hc0 : l0.length ≤ c0) (hr1 : Kd.C k71 w A1 l1.length l1) (hc1 : l1.length ≤ c1) (h : laws_samePairs.f k l0 l1 = some r) :
  Calls Try.prog 23 #[.slice A0 l0.length c0, .slice A1 l1.length c1] w fun e w' => e = .returned (.bool r) ∧ Drawn0 w w' := by
 have hu71 := Try.underlying71
 have HR0 := Aside0.mk hr0
 have HC0 := Aside0.mk hc0
 clear hr0 hc0
 have HR1 := Aside0.mk hr1
 have HC1 := Aside0.mk hc1
 clear hr1 hc1
 have H : (if (l0.length : Int) = (l1.length : Int) then (laws_samePairs.l0 k l0 l1 0) else (some false)) = some r := h
 clear h
 by_cases c3 : (l0.length : Int) = (l1.length : Int); rotate_left
 ·
  rw [if_neg c3] at H
  have c3b0 : ((l0.length : Int) == (l1.length : Int)) = false := beq_eq_false_iff_ne.mpr c3
  have c3b1 : ((l0.length : Int) != (l1.length : Int)) = true := bne_iff_ne.mpr c3
  have c3b2 : (l0.length == l1.length) = false := by first | simpa using c3 | (simp at c3 ⊢; omega)
  obtain rfl := Option.some.inj H
  go_enter Try.func23, Try.ntmps23
  go_wp2
  repeat (go_quiet (fail); try go_wp2)
  go_ret
  exact ⟨by first | rfl | (simp; done) | (simp [*]; done), by repeat (first | exact Drawn0.refl _ | apply Drawn0.step)⟩
 rw [if_pos c3] at H
 have c3b0 : ((l0.length : Int) == (l1.length : Int)) = true := beq_iff_eq.mpr c3
 have c3b1 : ((l0.length : Int) != (l1.length : Int)) = false := bne_eq_false_iff_eq.mpr c3
 have c3b2 : (l0.length == l1.length) = true := by first | simpa using c3 | (simp at c3 ⊢; omega)
 clear c3
 have H' := Aside0.mk H
 clear H
 go_enter Try.func23, Try.ntmps23
 go_wp2
 repeat (go_quiet (fail); try go_wp2)
 go_loopg [5] k (fun kq v5 w' => ∃ (x5_1 : Int), v5 = .int .i64 x5_1 ∧ Aside0 (laws_samePairs.l0 kq l0 l1 x5_1 = some r) ∧ Aside0 (kq ≤ k) ∧ Drawn0 w w')
 case atStart => exact ⟨(0), SD, H', ⟨Nat.le_refl _⟩, by repeat (first | exact Drawn0.refl _ | apply Drawn0.step)⟩
 case round =>
  clear H'
  try clear c1
  try clear c2
  try clear p2
  try clear c3
  try clear c3b0
  try clear c3b1
  try clear c3b2
  obtain ⟨x5_1, rfl, HA, HK1, ⟨m1, rfl⟩⟩ := hrel
  cases gk with
  | zero => exact absurd HA.out (by simp [laws_samePairs.l0])
  | succ k1 =>
   have H := HA.out
   clear HA
   simp only [laws_samePairs.l0] at H
   by_cases c4 : x5_1 < (l0.length : Int); rotate_left
   ·
    rw [if_neg c4] at H
    have c4b0 : decide (x5_1 < (l0.length : Int)) = false := decide_eq_false c4
    clear c4
    obtain rfl := Option.some.inj H
    go_wp2
    repeat (go_quiet (fail); try go_wp2)
    go_ret
    exact ⟨by first | rfl | (simp; done) | (simp [*]; done), by repeat (first | exact Drawn0.refl _ | apply Drawn0.step)⟩
   rw [if_pos c4] at H
   have c4b0 : decide (x5_1 < (l0.length : Int)) = true := decide_eq_true c4
   clear c4
   by_cases c5 : 0 ≤ x5_1; rotate_left
   ·
    rw [if_neg c5] at H
    exact absurd H (by simp)
   rw [if_pos c5] at H
   have c5b0 : decide (0 ≤ x5_1) = true := decide_eq_true c5
   clear c5
   by_cases c6 : x5_1 < (l1.length : Int); rotate_left
   ·
    rw [if_neg c6] at H
    exact absurd H (by simp)
   rw [if_pos c6] at H
   have c6b0 : decide (x5_1 < (l1.length : Int)) = true := decide_eq_true c6
   clear c6
   by_cases c7 : (!(((rd_T71 l0 x5_1).f0) == ((rd_T71 l1 x5_1).f0)) || (!(((rd_T71 l0 x5_1).f1) == ((rd_T71 l1 x5_1).f1)))) = true
   ·
    rw [if_pos c7] at H
    have c7b0 : (!(((rd_T71 l0 x5_1).f0) == ((rd_T71 l1 x5_1).f0)) || (!(((rd_T71 l0 x5_1).f1) == ((rd_T71 l1 x5_1).f1)))) = true := c7
    clear c7
    obtain rfl := Option.some.inj H
    have p298 : 0 ≤ (x5_1 : Int) := of_decide_eq_true AS
    have q298 : x5_1 < (l0.length : Int) := of_decide_eq_true AS
    obtain ⟨ad298, e298, hx298_0, hx298_1⟩ := at_T71 HR0.out x5_1 p298 q298
    cases e298
    replace p298 := eq_true p298
    replace q298 := eq_true q298
    have p299 : 0 ≤ (x5_1 : Int) := of_decide_eq_true AS
    have q299 : x5_1 < (l1.length : Int) := of_decide_eq_true AS
    obtain ⟨ad299, e299, hx299_0, hx299_1⟩ := at_T71 HR1.out x5_1 p299 q299
    cases e299
    replace p299 := eq_true p299
    replace q299 := eq_true q299
    go_wp2
    repeat (go_quiet (fail); try go_wp2)
    go_ret
    exact ⟨by first | rfl | (simp; done) | (simp [*]; done), by repeat (first | exact Drawn0.refl _ | apply Drawn0.step)⟩
   rw [if_neg c7] at H
   have c7b0 : (!(((rd_T71 l0 x5_1).f0) == ((rd_T71 l1 x5_1).f0)) || (!(((rd_T71 l0 x5_1).f1) == ((rd_T71 l1 x5_1).f1)))) = false := by simpa using c7
   clear c7
   have H' := Aside0.mk H
   clear H
   have p298 : 0 ≤ (x5_1 : Int) := of_decide_eq_true AS
   have q298 : x5_1 < (l0.length : Int) := of_decide_eq_true AS
   obtain ⟨ad298, e298, hx298_0, hx298_1⟩ := at_T71 HR0.out x5_1 p298 q298
   cases e298
   replace p298 := eq_true p298
   replace q298 := eq_true q298
   have p299 : 0 ≤ (x5_1 : Int) := of_decide_eq_true AS
   have q299 : x5_1 < (l1.length : Int) := of_decide_eq_true AS
   obtain ⟨ad299, e299, hx299_0, hx299_1⟩ := at_T71 HR1.out x5_1 p299 q299
   cases e299
   replace p299 := eq_true p299
   replace q299 := eq_true q299
   go_wp2
   repeat (go_quiet (fail); try go_wp2)
   go_roundg k1
   case measure => have := HK1.out; omega
   case rel => exact ⟨(wrap64 (x5_1 + 1)), SD, H', ⟨by have := HK1.out; omega⟩, by repeat (first | exact Drawn0.refl _ | apply Drawn0.step)⟩

end Go.Proofs.Ytfkhncoiifojnaa.Qds
