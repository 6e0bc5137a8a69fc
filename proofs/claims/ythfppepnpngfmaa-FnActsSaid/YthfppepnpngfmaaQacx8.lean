-- Laid by myprint.py, a program of this session's own, over the kit's print. Not trusted: Lean checks it.
import Derived.Test.YthfppepnpngfmaaQacx0
import Derived.Test.YthfppepnpngfmaaQacx2
import Derived.Test.YthfppepnpngfmaaQacx5
import Derived.Test.YthfppepnpngfmaaQacx6
import Derived.Test.YthfppepnpngfmaaQacx7
namespace Go.Proofs.Ythfppepnpngfmaa.Qac
open Go.RowKit Go.Proofs.YthfppepnpngfmaaW.PrintWords Go.Proofs.YthfppepnpngfmaaW.PrintLast Go.Proofs.YthfppepnpngfmaaW.PrintMore
attribute [local go_sem] Go.Proofs.Ythfppepnpngfmaa.StrCmp.gtr_less Go.Proofs.Ythfppepnpngfmaa.StrCmp.geq_less Go.Proofs.Ythfppepnpngfmaa.StrCmp.leq_less max2_int min2_int max_two min_two max_three min_three max_four min_four   -- for this text's walks alone
set_option linter.unusedVariables false
set_option linter.unusedSimpArgs false

/-! ### spec_l03Left: function 73 -/
def spec_l03Left.l0 : Nat → List Int → Int → List Int → Int → Int → Option (List Int × Int × Int)
 | 0, _, _, _, _, _ => none
 | k + 1, x3, x4, x1000, x1001, x1002 => (spec_l01Below.f x1000 x1001 x1002 6).bind fun bt439 => (if x4 < bt439.1 then ((spec_l01PickInt.f x1000 bt439.2.1 bt439.2.2 (([0, 1, 2, 3, 5, 9, 40, 200, (-1), 9223372036854775807] : List Int))).bind fun bt445 => (if x3.length < 17592186044416 then (spec_l03Left.l0 k (x3 ++ [bt445.1]) (wrap64 (x4 + 1)) x1000 bt445.2.1 bt445.2.2) else (none))) else (some (x3, bt439.2.1, bt439.2.2)))
def spec_l03Left.f (k : Nat) (s0_0 : List Int) (s0_1 : Int) (s0_2 : Int) : Option (List Int × Int × Int) := spec_l03Left.l0 k (([] : List Int)) 0 s0_0 s0_1 s0_2
theorem spec_l03Left.k0 {p q : Prop} (h : q) (k : q → p := by intro h_; repeat (first | (with_reducible first | exact h_ | apply KeepBut.set_ | apply keep_drewN | apply keep_drew | apply keep_alloc) | exact h_)) : p := k h
theorem spec_l03Left.k1 {p q : Prop} (h : q) (k : q → p := by intro h_; repeat (first | (with_reducible first | exact h_ | apply below_alloc | apply pw_below_drewN | apply below_drew1 | refine below_set ?_ (IsS100.ge HI0.out)) | exact h_)) : p := k h
theorem spec_l03Left.k2 {p q : Prop} (h : q) (k : q → p := by intro h_; repeat (first | (with_reducible first | exact h_ | apply IsS100.alloc | apply IsS100.drewN | apply IsS100.drew | apply IsS100.set_1 | apply IsS100.set_2) | exact h_)) : p := k h
set_option maxHeartbeats 8000000 in
set_option maxRecDepth 100000 in
theorem spec_l03Left.calls (k : Nat) (g : Nat) (s0_0 : List Int) (s0_1 : Int) (s0_2 : Int) (r1 : List Int) (r2 : Int) (r3 : Int) (w0 w : World) (hI : IsS100 w0 w g s0_0 s0_1 s0_2) (hB : Below w0.heap.size w0 w) (h : spec_l03Left.f k s0_0 s0_1 s0_2 = some (r1, r2, r3)) :
  Calls Try.prog 73 #[.pointer (some ⟨g, 0, none⟩)] w fun e w' => ∃ v0_ : Value, e = .returned (v0_) ∧ Kd.R (Kd.int .i64) 3 w' w.heap.size (fun _ => True) v0_ r1 ∧ IsS100 w0 w' g s0_0 r2 r3 ∧ Below w0.heap.size w0 w' ∧ KeepBut w w' g none := by
 have HI0 := Aside0.mk hI
 have HK := Aside0.mk (KeepBut.refl w g none)
 have HL := Aside0.mk hB.size
 clear hI
 have HW0 := Aside0.mk hB.size
 have HB := Aside0.mk hB
 clear hB
 have H : (spec_l03Left.l0 k (([] : List Int)) 0 s0_0 s0_1 s0_2) = some (r1, r2, r3) := h
 clear h
 obtain ⟨y436, hy436⟩ : ∃ y_ : List Int, y_ = (([] : List Int)) := ⟨_, rfl⟩
 replace H : (spec_l03Left.l0 k y436 0 s0_0 s0_1 s0_2) = some (r1, r2, r3) := by first | (rw [hy436]; with_reducible exact H) | (have H2_ := (Option.bind_some _ _).symm.trans H; rw [hy436]; with_reducible exact H2_) | (have H2_ := (Option.bind_some _ _).symm.trans H; with_reducible exact H2_) | with_reducible exact H | (rw [hy436]; exact H) | exact H
 have Ny436 := Aside0.mk hy436
 clear hy436
 have H' := Aside0.mk H
 clear H
 go_enter Try.func73, Try.ntmps73
 go_wp2_with (first | ((with_reducible refine gate_dst (N := 5) rfl ?_); refine Kd.R_lit (Kd.int .i64) _ 3 ?hg (N := 5) ?hd (xs := ([] : List Int)) (inner := []) (ok := fun _ => True) (okp := fun _ => True) ?hr ?hp (fun _ hk => hk) trivial (Below.refl _ _) (Nat.le_refl _) (by simp) ?_; (case hd => rfl); (case hg => rfl); (case hr => first | (go_simp; done) | (go_simp; rfl)); (case hp => exact (Reps.none _ _)); intro v437 w2 ho3 hb hg_ hnew_; clear hg_ hnew_; (first | rw [← Ny436.out] at ho3 | (simp only [Int.reduceToNat] at ho3; rw [← Ny436.out] at ho3)); have HO438 := Aside0.mk (Kd.R_lower ho3 (keep_size (w := w) (g := g) (row := none) (spec_l03Left.k0 HK.out))); replace HK := Aside0.mk (KeepBut.trans (spec_l03Left.k0 HK.out) (KeepBut.of_below hb g none) (.inl rfl)); replace HB := Aside0.mk (below_step (spec_l03Left.k1 HB.out) hb); replace HI0 := Aside0.mk (IsS100.below (spec_l03Left.k2 HI0.out) hb); clear hb ho3))
 go_loopg [3, 4] k (fun kq v3 v4 w' => ∃ (x3_1 : List Int) (x4_1 : Int) (x1001_1 : Int) (x1002_1 : Int), v4 = .int .i64 x4_1 ∧ Aside0 (spec_l03Left.l0 kq x3_1 x4_1 s0_0 x1001_1 x1002_1 = some (r1, r2, r3)) ∧ Aside0 (kq ≤ k) ∧ Aside0 (Kd.R (Kd.int .i64) 3 w' w.heap.size (fun _ => True) v3 x3_1) ∧ Aside0 (IsS100 w0 w' g s0_0 x1001_1 x1002_1) ∧ Aside0 (KeepBut w w' g none) ∧ Aside0 (Below w0.heap.size w0 w'))
 case atStart => exact ⟨(y436), (0), (s0_1), (s0_2), SD, H', ⟨Nat.le_refl _⟩, ⟨RQ HO438.out⟩, ⟨spec_l03Left.k2 HI0.out⟩, ⟨spec_l03Left.k0 HK.out⟩, ⟨spec_l03Left.k1 HB.out⟩⟩
 case round =>
  clear H'
  try clear p2
  obtain ⟨x3_1, x4_1, x1001_1, x1002_1, rfl, HA, HK1, HO_3, HI0, HK, HB⟩ := hrel; cases gk with
  | zero => exact absurd HA.out (by simp [spec_l03Left.l0])
  | succ k1 =>
   have H := HA.out; clear HA; simp only [spec_l03Left.l0] at H; replace H := Option.bind_eq_some_iff.mp H; obtain ⟨⟨t439, t440, t441⟩, A40, H⟩ := H; dsimp only at H; have A4 := Aside0.mk A40; clear A40
   by_cases c5 : x4_1 < t439; rotate_left
   ·
    rw [if_neg c5] at H; have c5b0 : decide (x4_1 < t439) = false := decide_eq_false c5; clear c5; simp only [Option.some.injEq, Prod.mk.injEq] at H; obtain ⟨rfl, rfl, rfl⟩ := H
    go_wp2_with (first | ((with_reducible refine gate_callee (f := 56) rfl ?_); refine goesL_ (some 8) rfl rfl Try.func56 (by kernel_rfl) rfl #[.pointer (some ⟨g, 0, none⟩), .int .i64 6] rfl (MA) ?_; (with_reducible refine (spec_l01Below.calls g s0_0 x1001_1 x1002_1 6 t439 t440 t441 w0 _ ?side1 ?side2 A4.out).mono ?_); (case side1 => exact spec_l03Left.k2 HI0.out); (case side2 => exact spec_l03Left.k1 HB.out); rintro e w14 ⟨rfl, hi, hb, hk⟩; refine ⟨_, rfl, ?_⟩; replace HO_3 := Aside0.mk (Kd.R_mono (Kd.R_keep (IsS100.apart (show IsS100 w0 _ g s0_0 x1001_1 x1002_1 from spec_l03Left.k2 HI0.out) (RQ HO_3.out) (by decide)) hk (fun _ h => h.2)) (fun _ h => h.1)); replace HK := Aside0.mk (KeepBut.trans (spec_l03Left.k0 HK.out) hk (.inl rfl)); replace HB := Aside0.mk (hb); replace HI0 := Aside0.mk (hi); (try clear hb); (try clear hk); (try clear hi)))
    go_ret
    exact ⟨_, EE, RQ HO_3.out, spec_l03Left.k2 HI0.out, spec_l03Left.k1 HB.out, spec_l03Left.k0 HK.out⟩
   rw [if_pos c5] at H; have c5b0 : decide (x4_1 < t439) = true := decide_eq_true c5; clear c5; obtain ⟨y442, hy442⟩ : ∃ y_ : List Int, y_ = (([0, 1, 2, 3, 5, 9, 40, 200, (-1), 9223372036854775807] : List Int)) := ⟨_, rfl⟩
   replace H : ((spec_l01PickInt.f s0_0 t440 t441 y442).bind fun bt445 => (if x3_1.length < 17592186044416 then (spec_l03Left.l0 k1 (x3_1 ++ [bt445.1]) (wrap64 (x4_1 + 1)) s0_0 bt445.2.1 bt445.2.2) else (none))) = some (r1, r2, r3) := by first | (rw [hy442]; with_reducible exact H) | (have H2_ := (Option.bind_some _ _).symm.trans H; rw [hy442]; with_reducible exact H2_) | (have H2_ := (Option.bind_some _ _).symm.trans H; with_reducible exact H2_) | with_reducible exact H | (rw [hy442]; exact H) | exact H
   have Ny442 := Aside0.mk hy442; clear hy442; replace H := Option.bind_eq_some_iff.mp H; obtain ⟨⟨t445, t446, t447⟩, A60, H⟩ := H; dsimp only at H; have A6 := Aside0.mk A60; clear A60
   by_cases c7 : x3_1.length < 17592186044416; rotate_left
   ·
    rw [if_neg c7] at H; exact absurd H (by simp)
   rw [if_pos c7] at H; have LMc7 := Aside0.mk c7; clear c7; obtain ⟨y448, hy448⟩ : ∃ y_ : List Int, y_ = (x3_1 ++ [t445]) := ⟨_, rfl⟩
   replace H : (spec_l03Left.l0 k1 y448 (wrap64 (x4_1 + 1)) s0_0 t446 t447) = some (r1, r2, r3) := by first | (rw [hy448]; with_reducible exact H) | (have H2_ := (Option.bind_some _ _).symm.trans H; rw [hy448]; with_reducible exact H2_) | (have H2_ := (Option.bind_some _ _).symm.trans H; with_reducible exact H2_) | with_reducible exact H | (rw [hy448]; exact H) | exact H
   have Ny448 := Aside0.mk hy448; clear hy448; have H' := Aside0.mk H; clear H
   go_wp2_with (first | ((with_reducible refine gate_callee (f := 56) rfl ?_); refine goesL_ (some 8) rfl rfl Try.func56 (by kernel_rfl) rfl #[.pointer (some ⟨g, 0, none⟩), .int .i64 6] rfl (MA) ?_; (with_reducible refine (spec_l01Below.calls g s0_0 x1001_1 x1002_1 6 t439 t440 t441 w0 _ ?side1 ?side2 A4.out).mono ?_); (case side1 => exact spec_l03Left.k2 HI0.out); (case side2 => exact spec_l03Left.k1 HB.out); rintro e w8 ⟨rfl, hi, hb, hk⟩; refine ⟨_, rfl, ?_⟩; replace HO_3 := Aside0.mk (Kd.R_mono (Kd.R_keep (IsS100.apart (show IsS100 w0 _ g s0_0 x1001_1 x1002_1 from spec_l03Left.k2 HI0.out) (RQ HO_3.out) (by decide)) hk (fun _ h => h.2)) (fun _ h => h.1)); replace HK := Aside0.mk (KeepBut.trans (spec_l03Left.k0 HK.out) hk (.inl rfl)); replace HB := Aside0.mk (hb); replace HI0 := Aside0.mk (hi); (try clear hb); (try clear hk); (try clear hi)) | ((with_reducible refine gate_dst (N := 14) rfl ?_); refine Kd.R_lit (Kd.int .i64) _ 3 ?hg (N := 14) ?hd (xs := ([0, 1, 2, 3, 5, 9, 40, 200, (-1), 9223372036854775807] : List Int)) (inner := [.int .i64 0, .int .i64 1, .int .i64 2, .int .i64 3, .int .i64 5, .int .i64 9, .int .i64 40, .int .i64 200, .int .i64 (-1), .int .i64 9223372036854775807]) (ok := fun _ => True) (okp := fun _ => True) ?hr ?hp (fun _ hk => hk) trivial (Below.refl _ _) (Nat.le_refl _) (by simp) ?_; (case hd => rfl); (case hg => rfl); (case hr => first | (go_simp; done) | (go_simp; rfl)); (case hp => exact (Reps.one (show Kd.M (Kd.int .i64) _ _ _ 0 [.int .i64 0] from rfl) (Reps.one (show Kd.M (Kd.int .i64) _ _ _ 1 [.int .i64 1] from rfl) (Reps.one (show Kd.M (Kd.int .i64) _ _ _ 2 [.int .i64 2] from rfl) (Reps.one (show Kd.M (Kd.int .i64) _ _ _ 3 [.int .i64 3] from rfl) (Reps.one (show Kd.M (Kd.int .i64) _ _ _ 5 [.int .i64 5] from rfl) (Reps.one (show Kd.M (Kd.int .i64) _ _ _ 9 [.int .i64 9] from rfl) (Reps.one (show Kd.M (Kd.int .i64) _ _ _ 40 [.int .i64 40] from rfl) (Reps.one (show Kd.M (Kd.int .i64) _ _ _ 200 [.int .i64 200] from rfl) (Reps.one (show Kd.M (Kd.int .i64) _ _ _ (-1) [.int .i64 (-1)] from rfl) (Reps.one (show Kd.M (Kd.int .i64) _ _ _ 9223372036854775807 [.int .i64 9223372036854775807] from rfl) (Reps.none _ _)))))))))))); intro v443 w9 ho10 hb hg_ hnew_; clear hg_ hnew_; (first | rw [← Ny442.out] at ho10 | (simp only [Int.reduceToNat] at ho10; rw [← Ny442.out] at ho10)); have HO444 := Aside0.mk (Kd.R_lower (Kd.R_new' ho10 (Kd.R_lt (RQ HO_3.out))) (keep_size (w := w) (g := g) (row := none) (spec_l03Left.k0 HK.out))); replace HO_3 := RE HO_3 (Kd.R_base ho10) hb; replace HK := Aside0.mk (KeepBut.trans (spec_l03Left.k0 HK.out) (KeepBut.of_below hb g none) (.inl rfl)); replace HB := Aside0.mk (below_step (spec_l03Left.k1 HB.out) hb); replace HI0 := Aside0.mk (IsS100.below (spec_l03Left.k2 HI0.out) hb); clear hb ho10; obtain ⟨Ao11, co11, eo11⟩ := Kd.R_slice HO444.out; subst eo11) | ((with_reducible refine gate_callee (f := 83) rfl ?_); refine goesL_ (some 15) rfl rfl Try.func83 (by kernel_rfl) rfl #[.pointer (some ⟨g, 0, none⟩), .slice Ao11 y442.length co11] rfl (MA) ?_; (with_reducible refine (spec_l01PickInt.calls g s0_0 t440 t441 _ _ y442 t445 t446 t447 w0 _ ?side1 ?side2 ?side3 ?side4 ?side5 A6.out).mono ?_); (case side1 => exact spec_l03Left.k2 HI0.out); (case side2 => exact spec_l03Left.k1 HB.out); (case side3 => repeat (first | exact (Kd.R_reads' HO444.out).2.2 | (with_reducible refine Kd.C_alloc ?_ _) | (with_reducible refine Kd.C_drewN ?_ _) | (with_reducible refine Kd.C_drew ?_))); (case side4 => exact (Kd.R_reads' HO444.out).2.1); (case side5 => exact far_slice (IsS100.own_ne HI0.out HO444.out (by decide))); rintro e w12 ⟨rfl, hi, hb, hk⟩; refine ⟨_, rfl, ?_⟩; replace HO_3 := Aside0.mk (Kd.R_mono (Kd.R_keep (IsS100.apart (show IsS100 w0 _ g s0_0 t440 t441 from spec_l03Left.k2 HI0.out) (RQ HO_3.out) (by decide)) hk (fun _ h => h.2)) (fun _ h => h.1)); replace HO444 := Aside0.mk (Kd.R_mono (Kd.R_keep (IsS100.apart (show IsS100 w0 _ g s0_0 t440 t441 from spec_l03Left.k2 HI0.out) (RQ HO444.out) (by decide)) hk (fun _ h => h.2)) (fun _ h => h.1)); replace HK := Aside0.mk (KeepBut.trans (spec_l03Left.k0 HK.out) hk (.inl rfl)); replace HB := Aside0.mk (hb); replace HI0 := Aside0.mk (hi); (try clear hb); (try clear hk); (try clear hi)) | ((with_reducible refine gate_builtin (b := .append) (xs := #[.tmp 12, .tmp 16]) rfl ?_); at_builtin; refine Kd.R_append (Kd.int .i64) w.heap.size rfl (.tmp 12) (.tmp 16) 39 3 (.int .i64 0) 8 rfl Try.underlying39 info3 rfl (by decide) (by omega) u3 x3_1 t445 [.int .i64 t445] (fun k_ => some k_ ≠ (.slice Ao11 y442.length co11 : Value).ownBlock) (fun _ => False) rfl rfl ?aP (fun _ hk => hk.elim) ?aF ?aO (Below.refl _ _) ?aS ?aL ?_; (case aP => exact rfl); (case aF => exact (fun k_ hk => Kd.fresh' (Kd.R_lt (RQ HO444.out)) k_ hk)); (case aO => exact (by (with_reducible repeat (first | apply r1 | apply r2 | apply r3)); exact Kd.R_mono HO_3.out (fun _ hk => hk.2))); (case aS => exact (keep_size (w := w) (g := g) (row := none) (spec_l03Left.k0 HK.out))); (case aL => have := LMc7.out; omega); intro v449 w13 ho hb hg hat; rw [← Ny448.out] at ho; have n0_ := Aside0.mk (IsS100.grown (spec_l03Left.k2 HI0.out) hg (IsS100.own_ne HI0.out HO_3.out (by decide))); replace HO444 := Aside0.mk (Kd.R_after (ok := (fun _ => True)) (RQ HO444.out) hg hat); have n2_ := Aside0.mk (below_weaken (spec_l03Left.k1 HB.out) HL.out hb); have n3_ := Aside0.mk (KeepBut.trans (spec_l03Left.k0 HK.out) (KeepBut.of_grown hg g) (Kd.R_base2 HO_3.out)); have HO450 := Aside0.mk (ho); clear HI0 HB HK HO_3; have HI0 := n0_; have HB := n2_; have HK := n3_; clear n0_ n2_ n3_; clear ho hb hg hat))
   go_roundg k1
   case measure => have := HK1.out; omega
   case rel => exact ⟨(y448), (wrap64 (x4_1 + 1)), (t446), (t447), SD, H', ⟨by have := HK1.out; omega⟩, ⟨by (with_reducible repeat (first | apply r1 | apply r2 | apply r3)); exact Kd.R_mono HO450.out (fun _ hk => trivial)⟩, ⟨spec_l03Left.k2 HI0.out⟩, ⟨spec_l03Left.k0 HK.out⟩, ⟨spec_l03Left.k1 HB.out⟩⟩

/-! ### spec_DrawCutActs: function 44 -/
def spec_DrawCutActs.f (k : Nat) (l0 : List Int) : Option ((List (S45)) × (List (S55)) × Int × List Int) := (spec_l01New.f k l0).bind fun bt452 => ((spec_l03Disk.f k bt452.1 bt452.2.1 bt452.2.2).bind fun bt456 => ((spec_l03Acts.f k bt452.1 bt456.2.1 bt456.2.2 bt456.1).bind fun bt462 => ((spec_l01Place.f bt452.1 bt462.2.1 bt462.2.2 (wrap64 ((bt462.1.length : Int) + 1))).bind fun bt467 => ((spec_l03Left.f k bt452.1 bt467.2.1 bt467.2.2).bind fun bt470 => (some (bt456.1, bt462.1, bt467.1, bt470.1))))))
def spec_DrawCutActs.T4 : Bool × List (List Nat × List Nat) := (true, [([], []), ([], []), ([], []), ([], []), ([3], [3]), ([4], [4]), ([2, 5], [2, 5]), ([], []), ([7, 6], [7]), ([0, 8, 0], [0]), ([1, 9, 0, 1, 9], [1]), ([6, 10, 0, 1, 2, 3, 4, 5, 6, 9, 10], [6]), ([8, 11, 0, 1, 2, 3, 4, 5, 6, 7, 8, 9, 10, 11], [8])])
def spec_DrawCutActs.B4 : List Nat := [0, 0, 0, 0, 8, 24, 60, 0, 252, 509, 1023, 2047, 4095]
theorem spec_DrawCutActs.tab4 : rtab .any (opsOf Try.f44 4) = spec_DrawCutActs.T4 := by kernel_rfl
theorem spec_DrawCutActs.bits4 : waitsOk spec_DrawCutActs.T4.2 spec_DrawCutActs.B4 = true := by kernel_rfl
theorem spec_DrawCutActs.k0 {p q : Prop} (h : q) (k : q → p := by intro h_; repeat (first | (with_reducible first | exact h_ | apply IsS100.alloc | apply IsS100.drewN | apply IsS100.drew | apply IsS100.set_1 | apply IsS100.set_2 | refine IsS100.far ?_ (Aside0.out (by assumption)) _) | exact h_)) : p := k h
theorem spec_DrawCutActs.k1 {p q : Prop} (h : q) (k : q → p := by intro h_; repeat (first | (with_reducible first | exact h_ | apply below_alloc | apply pw_below_drewN | apply below_drew1 | refine below_set ?_ (IsS100.ge HI455.out) | refine below_set ?_ (Aside0.out (by assumption))) | exact h_)) : p := k h
set_option maxHeartbeats 8000000 in
set_option maxRecDepth 100000 in
theorem spec_DrawCutActs.calls (k : Nat) (A0 : Option Addr) (c0 : Nat) (l0 : List Int) (r1 : List (S45)) (r2 : List (S55)) (r3 : Int) (r4 : List Int) (w : World) (hr0 : Kd.C (Kd.int .u8) w A0 l0.length l0) (hc0 : l0.length ≤ c0) (h : spec_DrawCutActs.f k l0 = some (r1, r2, r3, r4)) :
  Calls Try.prog 44 #[.slice A0 l0.length c0] w fun e w' => ∃ v0_ v1_ v3_ : Value, e = .returned (.tuple #[.agg #[v0_], v1_, .int .i64 r3, v3_]) ∧ Kd.R k45 45 w' w.heap.size (fun _ => True) v0_ r1 ∧ Kd.R k55 55 w' w.heap.size (fun _ => True) v1_ r2 ∧ Kd.R (Kd.int .i64) 3 w' w.heap.size (fun _ => True) v3_ r4 ∧ Below w.heap.size w w' := by
 have hu29 := Try.underlying29
 have HR0 := Aside0.mk hr0
 have HC0 := Aside0.mk hc0
 clear hr0 hc0
 have HB := Aside0.mk (Below.refl w.heap.size w)
 have H : ((spec_l01New.f k l0).bind fun bt452 => ((spec_l03Disk.f k bt452.1 bt452.2.1 bt452.2.2).bind fun bt456 => ((spec_l03Acts.f k bt452.1 bt456.2.1 bt456.2.2 bt456.1).bind fun bt462 => ((spec_l01Place.f bt452.1 bt462.2.1 bt462.2.2 (wrap64 ((bt462.1.length : Int) + 1))).bind fun bt467 => ((spec_l03Left.f k bt452.1 bt467.2.1 bt467.2.2).bind fun bt470 => (some (bt456.1, bt462.1, bt467.1, bt470.1))))))) = some (r1, r2, r3, r4) := h
 clear h
 replace H := Option.bind_eq_some_iff.mp H
 obtain ⟨⟨t452, t453, t454⟩, A20, H⟩ := H
 replace H : ((spec_l03Disk.f k t452 t453 t454).bind fun bt456 => ((spec_l03Acts.f k t452 bt456.2.1 bt456.2.2 bt456.1).bind fun bt462 => ((spec_l01Place.f t452 bt462.2.1 bt462.2.2 (wrap64 ((bt462.1.length : Int) + 1))).bind fun bt467 => ((spec_l03Left.f k t452 bt467.2.1 bt467.2.2).bind fun bt470 => (some (bt456.1, bt462.1, bt467.1, bt470.1)))))) = some (r1, r2, r3, r4) := H
 have A2 := Aside0.mk A20
 clear A20
 replace H := Option.bind_eq_some_iff.mp H
 obtain ⟨⟨t456, t459, t460⟩, A30, H⟩ := H
 replace H : ((spec_l03Acts.f k t452 t459 t460 t456).bind fun bt462 => ((spec_l01Place.f t452 bt462.2.1 bt462.2.2 (wrap64 ((bt462.1.length : Int) + 1))).bind fun bt467 => ((spec_l03Left.f k t452 bt467.2.1 bt467.2.2).bind fun bt470 => (some (t456, bt462.1, bt467.1, bt470.1))))) = some (r1, r2, r3, r4) := H
 have A3 := Aside0.mk A30
 clear A30
 replace H := Option.bind_eq_some_iff.mp H
 obtain ⟨⟨t462, t465, t466⟩, A40, H⟩ := H
 replace H : ((spec_l01Place.f t452 t465 t466 (wrap64 ((t462.length : Int) + 1))).bind fun bt467 => ((spec_l03Left.f k t452 bt467.2.1 bt467.2.2).bind fun bt470 => (some (t456, t462, bt467.1, bt470.1)))) = some (r1, r2, r3, r4) := H
 have A4 := Aside0.mk A40
 clear A40
 replace H := Option.bind_eq_some_iff.mp H
 obtain ⟨⟨t467, t468, t469⟩, A50, H⟩ := H
 replace H : ((spec_l03Left.f k t452 t468 t469).bind fun bt470 => (some (t456, t462, t467, bt470.1))) = some (r1, r2, r3, r4) := H
 have A5 := Aside0.mk A50
 clear A50
 replace H := Option.bind_eq_some_iff.mp H
 obtain ⟨⟨t470, t473, t474⟩, A60, H⟩ := H
 replace H : (some (t456, t462, t467, t470)) = some (r1, r2, r3, r4) := H
 have A6 := Aside0.mk A60
 clear A60
 simp only [Option.some.injEq, Prod.mk.injEq] at H
 obtain ⟨rfl, rfl, rfl, rfl⟩ := H
 go_enter Try.func44, Try.ntmps44
 try go_wp2_with (first | ((with_reducible refine gate_dst (N := 2) rfl ?_); refine bE 2 #[.slice none 0 0] 29 ?_; intro gb451 hg w7 hbox hb; have BK451 := Aside0.mk (hbox); have GW451 : Aside0 (w.heap.size ≤ gb451) := GS; have GE451 := GW451; replace HB := BS hb; clear hb hbox hg) | ((with_reducible refine gate_callee (f := 55) rfl ?_); refine goesL_ (some 10) rfl rfl Try.func55 (by kernel_rfl) rfl #[.slice A0 l0.length c0] rfl (MA) ?_; (with_reducible refine (spec_l01New.calls k _ _ l0 t452 t453 t454 w _ ?side1 ?side2 ?side3 A2.out).mono ?_); (case side1 => exact (by repeat (first | (with_reducible first | exact HB.out | apply below_alloc | apply pw_below_drewN | apply below_drew1 | refine below_set ?_ GE451.out) | exact HB.out))); (case side2 => exact HR0.out); (case side3 => exact HC0.out); rintro e w8 ⟨g455, rfl, hi, hb, hb2⟩; refine ⟨_, rfl, ?_⟩; have HI455 := Aside0.mk (hi); have NB455_451 := Aside0.mk (IsS100.ne_blk hi (blk_below (g := gb451) (o := .cells #[.slice none 0 0] 29 (0, 0)) (BQ BK451.out) hb2) (by decide)); have NB451_455 := Aside0.mk (Ne.symm (IsS100.ne_blk hi (blk_below (g := gb451) (o := .cells #[.slice none 0 0] 29 (0, 0)) (BQ BK451.out) hb2) (by decide))); replace BK451 := Aside0.mk (blk_below (g := gb451) (o := .cells #[.slice none 0 0] 29 (0, 0)) (BQ BK451.out) hb2); replace HB := Aside0.mk (hb); (try clear hb); (try clear hb2); (try clear hi)) | ((with_reducible refine gate_callee (f := 70) rfl ?_); refine goesL_ (some 12) rfl rfl Try.func70 (by kernel_rfl) rfl #[.pointer (some ⟨g455, 0, none⟩)] rfl (MA) ?_; (with_reducible refine (spec_l03Disk.calls k g455 t452 t453 t454 t456 t459 t460 w _ ?side1 ?side2 A3.out).mono ?_); (case side1 => exact spec_DrawCutActs.k0 HI455.out); (case side2 => exact spec_DrawCutActs.k1 HB.out); rintro e w9 ⟨v457, rfl, ho0, hi, hb, hk⟩; refine ⟨_, rfl, ?_⟩; have HO458 := Aside0.mk (Kd.R_lower ho0 (below_size (spec_DrawCutActs.k1 HB.out))); replace BK451 := Aside0.mk (KeepBut.blk hk (g' := gb451) (o := .cells #[.slice none 0 0] 29 (0, 0)) (BQ BK451.out) NB451_455.out (by simp)); replace HB := Aside0.mk (hb); replace HI455 := Aside0.mk (hi); (try clear hb); (try clear hk); (try clear hi); (try clear ho0)) | ((with_reducible refine gate_dst (N := 7) rfl ?_); refine bE 7 #[.slice none 0 0] 29 ?_; intro gb461 hg w10 hbox hb; have BK461 := Aside0.mk (hbox); have GW461 := Aside0.mk ((by rw [hg]; exact (below_size (spec_DrawCutActs.k1 HB.out)) : w.heap.size ≤ gb461)); have GE461 := Aside0.mk ((by rw [hg]; exact (below_size (spec_DrawCutActs.k1 HB.out)) : w.heap.size ≤ gb461)); have NB451_461 := NL BK451.out hg; have NB461_451 := NG BK451.out hg; have NB455_461 := Aside0.mk ((by rw [hg]; exact Nat.ne_of_lt (IsS100.lt (show IsS100 w _ g455 t452 t459 t460 from spec_DrawCutActs.k0 HI455.out)) : g455 ≠ gb461)); have NB461_455 := Aside0.mk ((by rw [hg]; exact Nat.ne_of_gt (IsS100.lt (show IsS100 w _ g455 t452 t459 t460 from spec_DrawCutActs.k0 HI455.out)) : gb461 ≠ g455)); replace HO458 := RB HO458 hb; replace BK451 := BB BK451.out hb; replace HB := Aside0.mk (below_step (spec_DrawCutActs.k1 HB.out) hb); replace HI455 := Aside0.mk (IsS100.below (spec_DrawCutActs.k0 HI455.out) hb); clear hb hbox hg; obtain ⟨Ao11, co11, eo11⟩ := Kd.R_slice HO458.out; subst eo11; obtain ⟨hnb12, hnc12⟩ := NN NB461_451.out; obtain ⟨hnb13, hnc13⟩ := NN NB461_455.out; obtain ⟨hcz14_0, hfz14_0⟩ := KC1 BK461.out) | ((with_reducible refine gate_store (t := 29) (p := 7) rfl ?_); refine store_event (t := 29) (p := 7) (v := ?vo_w15) (w1 := (w10.setCell ⟨gb461, 0, none⟩ (.slice Ao11 t456.length co11))) ?hg ?ho ?hn ?hr ?_; (case ho => rfl); (case hg => rfl); (case hn => rfl); (case hr => first | (go_simp; done) | (go_simp; rfl)); intro w15 hw; replace HO458 : Aside0 (Kd.R k45 45 w15 w.heap.size (fun _ => True) (.slice Ao11 t456.length co11) t456) := ⟨(by rw [hw]; exact (RF HO458.out BK461.out))⟩; replace BK451 : Aside0 (w15.heap[gb451]? = some (.cells #[.slice none 0 0] 29 (0, 0))) := ⟨(by rw [hw]; exact (BP BK451.out))⟩; replace BK461 : Aside0 (w15.heap[gb461]? = some (.cells #[.slice Ao11 t456.length co11] 29 (0, 0))) := ⟨(by rw [hw]; exact (BU BK461.out))⟩; have n3_ : Aside0 (IsS100 w w15 g455 t452 t459 t460) := ⟨(by rw [hw]; exact (spec_DrawCutActs.k0 HI455.out))⟩; replace HB : Aside0 (Below w.heap.size w w15) := ⟨(by rw [hw]; exact (spec_DrawCutActs.k1 HB.out))⟩; clear hw HI455; have HI455 := n3_; clear n3_; obtain ⟨hcz16_0, hfz16_0⟩ := KC1 BK461.out) | ((with_reducible refine gate_callee (f := 71) rfl ?_); refine goesL_ (some 15) rfl rfl Try.func71 (by kernel_rfl) rfl #[.pointer (some ⟨g455, 0, none⟩), .agg #[.slice Ao11 t456.length co11]] rfl (MA) ?_; (with_reducible refine (spec_l03Acts.calls k g455 t452 t459 t460 (fun k_ => some k_ = (.slice Ao11 t456.length co11 : Value).ownBlock) _ _ t456 t462 t465 t466 w _ ?side1 ?side2 ?side3 A4.out).mono ?_); (case side1 => exact spec_DrawCutActs.k0 HI455.out); (case side2 => exact spec_DrawCutActs.k1 HB.out); (case side3 => exact Kd.V_mono (Kd.R_V (Kd.R_tight rfl (IsS100.apart HI455.out (Kd.R_types (Kd.R_types (HO458.out) BK451.out (by decide)) BK461.out (by decide)) (by decide)))) (fun k_ hk_ => ⟨hk_, ((IsS100.apart HI455.out (Kd.R_types (Kd.R_types (HO458.out) BK451.out (by decide)) BK461.out (by decide)) (by decide)).1 k_ hk_.symm).2⟩)); rintro e w17 ⟨v463, rfl, ho0, hi, hb, hk⟩; refine ⟨_, rfl, ?_⟩; have HO464 := Aside0.mk (Kd.R_lower (Kd.R_mono (ok' := fun k_ => True) ho0 (fun _ hk_ => trivial)) (below_size (spec_DrawCutActs.k1 HB.out))); replace BK451 := Aside0.mk (KeepBut.blk hk (g' := gb451) (o := .cells #[.slice none 0 0] 29 (0, 0)) (BQ BK451.out) NB451_455.out (by simp)); replace HO458 := Aside0.mk (Kd.R_mono (Kd.R_keep (IsS100.apart (show IsS100 w _ g455 t452 t459 t460 from spec_DrawCutActs.k0 HI455.out) (RQ HO458.out) (by decide)) hk (fun _ h => h.2)) (fun _ h => h.1)); replace BK461 := Aside0.mk (KeepBut.blk hk (g' := gb461) (o := .cells #[.slice Ao11 t456.length co11] 29 (0, 0)) (BQ BK461.out) NB461_455.out (by simp)); replace HB := Aside0.mk (hb); replace HI455 := Aside0.mk (hi); (try clear hb); (try clear hk); (try clear hi); (try clear ho0)))
 replace HO458 := DR HO458
 replace HO464 := DR HO464
 replace BK451 := BD BK451
 replace BK461 := BD BK461
 replace HI455 := Aside0.mk (IsS100.drew HI455.out)
 replace HB := Aside0.mk (below_drew1 HB.out)
 obtain ⟨Ao19, co19, eo19⟩ := Kd.R_slice HO464.out
 (first | subst eo19 | (injection eo19 with f1_ f2_ f3_; have f4_ := f1_.symm; have f5_ := f3_.symm; clear f1_ f2_ f3_; subst f4_; subst f5_))
 refine start_ (n := 13) (S := fun w' => w'.cell? ⟨gb461, 0, none⟩ = some (.slice Ao11 t456.length co11)) (ds := []) #[false, false, false, false, false, false, false, false, false, false, false, false, false] (by kernel_rfl) rfl rfl (CZ BK461.out 0) (fun hHeld => ?_); refine with_tabW spec_DrawCutActs.tab4 spec_DrawCutActs.bits4 (fun HT_ HW_ => ?_)
 generalize w17.drew = w18 at HO458 HO464 BK451 BK461 HI455 HB hHeld ⊢
 refine pV 1 17 (OB 13 2) ?_
 refine pV 2 18 (OB 13 6) ?_
 refine pV 3 19 (OB 13 14) ?_
 refine pV 4 20 (OB 13 30) ?_
 refine pV 5 21 (OB 13 62) ?_
 refine pV 7 23 (OB 13 190) ?_
 refine take_ (i := 0) (N := some 16) (v := ?_) (a' := ?_) (OB 13 191) rfl rfl (take_ofW HT_.out HW_.out (by kernel_rfl)) (fun _ _ _ h => h) (Or.inl ⟨by rfl, ?_⟩) hHeld ?_ ?_
 rotate_left
 ·
  intro w' s0
  go_simp
  with_reducible rfl
 rotate_left
 ·
  simp only [Act.put, zA, zB, zC, i64_w, i32_w]; rfl
 refine one_ (i := 6) (N := some 22) (OB 13 255) rfl rfl (one_of HT_.out (by kernel_rfl)) (by decide) (fun K hK => ?_)
 refine goes_ Try.func72 (by kernel_rfl) rfl #[.pointer (some ⟨g455, 0, none⟩), .int .i64 (wrap64 ((t462.length : Int) + 1))] (by rfl) rfl rfl (MA) ?_
 with_reducible refine (spec_l01Place.calls g455 t452 t465 t466 (wrap64 ((t462.length : Int) + 1)) t467 t468 t469 w _ ?side1 ?side2 A5.out).mono ?_
 (case side1 => exact spec_DrawCutActs.k0 HI455.out)
 (case side2 => exact spec_DrawCutActs.k1 HB.out)
 rintro e w20 ⟨rfl, hi, hb, hk⟩
 refine ⟨_, rfl, ?_⟩
 have n0_ := Aside0.mk (KeepBut.blk hk (g' := gb451) (o := .cells #[.slice none 0 0] 29 (0, 0)) (BQ BK451.out) NB451_455.out (by simp))
 have n1_ := Aside0.mk (Kd.R_mono (Kd.R_keep (IsS100.apart (show IsS100 w _ g455 t452 t465 t466 from spec_DrawCutActs.k0 HI455.out) (RQ HO458.out) (by decide)) hk (fun _ h => h.2)) (fun _ h => h.1))
 have n2_ := Aside0.mk (KeepBut.blk hk (g' := gb461) (o := .cells #[.slice Ao11 t456.length co11] 29 (0, 0)) (BQ BK461.out) NB461_455.out (by simp))
 have n3_ := Aside0.mk (Kd.R_mono (Kd.R_keep (IsS100.apart (show IsS100 w _ g455 t452 t465 t466 from spec_DrawCutActs.k0 HI455.out) (RQ HO464.out) (by decide)) hk (fun _ h => h.2)) (fun _ h => h.1))
 have n4_ := Aside0.mk (hb)
 have n5_ := Aside0.mk (hi)
 clear BK451 HO458 BK461 HO464 HB HI455
 have BK451 := n0_
 have HO458 := n1_
 have BK461 := n2_
 have HO464 := n3_
 have HB := n4_
 have HI455 := n5_
 clear n0_ n1_ n2_ n3_ n4_ n5_
 (try clear hb)
 (try clear hb2)
 (try clear hk)
 (try clear hi)
 refine hK.out _ _ (CZ BK461.out 0) (fun hHeld => ?_)
 clear hK K
 refine norm_ (a' := ?_) ?_ ?_
 rotate_left
 ·
  show Act.put _ (some 22) _ = _; simp only [Act.put, zA, zB, zC, i64_w, i32_w]; rfl
 refine one_ (i := 8) (N := some 24) (OB 13 511) rfl rfl (one_of HT_.out (by kernel_rfl)) (by decide) (fun K hK => ?_)
 refine goes_ Try.func73 (by kernel_rfl) rfl #[.pointer (some ⟨g455, 0, none⟩)] (by rfl) rfl rfl (MA) ?_
 with_reducible refine (spec_l03Left.calls k g455 t452 t468 t469 t470 t473 t474 w _ ?side1 ?side2 A6.out).mono ?_
 (case side1 => exact spec_DrawCutActs.k0 HI455.out)
 (case side2 => exact spec_DrawCutActs.k1 HB.out)
 rintro e w21 ⟨v471, rfl, ho0, hi, hb, hk⟩
 refine ⟨_, rfl, ?_⟩
 have n0_ := Aside0.mk (KeepBut.blk hk (g' := gb451) (o := .cells #[.slice none 0 0] 29 (0, 0)) (BQ BK451.out) NB451_455.out (by simp))
 have n1_ := Aside0.mk (Kd.R_mono (Kd.R_keep (IsS100.apart (show IsS100 w _ g455 t452 t468 t469 from spec_DrawCutActs.k0 HI455.out) (RQ HO458.out) (by decide)) hk (fun _ h => h.2)) (fun _ h => h.1))
 have n2_ := Aside0.mk (KeepBut.blk hk (g' := gb461) (o := .cells #[.slice Ao11 t456.length co11] 29 (0, 0)) (BQ BK461.out) NB461_455.out (by simp))
 have n3_ := Aside0.mk (Kd.R_mono (Kd.R_keep (IsS100.apart (show IsS100 w _ g455 t452 t468 t469 from spec_DrawCutActs.k0 HI455.out) (RQ HO464.out) (by decide)) hk (fun _ h => h.2)) (fun _ h => h.1))
 have n4_ := Aside0.mk (Kd.R_lower ho0 (below_size (spec_DrawCutActs.k1 HB.out)))
 have n5_ := Aside0.mk (hb)
 have n6_ := Aside0.mk (hi)
 clear BK451 HO458 BK461 HO464 HB HI455
 have BK451 := n0_
 have HO458 := n1_
 have BK461 := n2_
 have HO464 := n3_
 have HO472 := n4_
 have HB := n5_
 have HI455 := n6_
 clear n0_ n1_ n2_ n3_ n4_ n5_ n6_
 (try clear hb)
 (try clear hb2)
 (try clear hk)
 (try clear hi)
 (try clear ho0)
 refine hK.out _ _ (CZ BK461.out 0) (fun hHeld => ?_)
 clear hK K
 refine norm_ (a' := ?_) ?_ ?_
 rotate_left
 ·
  show Act.put _ (some 24) _ = _; simp only [Act.put, zA, zB, zC, i64_w, i32_w]; rfl
 refine one_ (i := 9) (N := none) (OB 13 1023) rfl rfl (one_of HT_.out (by kernel_rfl)) (by decide) (fun K hK => ?_)
 have hs22 : w21.cell? ⟨gb451, 0, none⟩ = some (.slice none 0 0) := CZ BK451.out 0
 have hfs22 := blk_frozen BK451.out 0
 have hns22_1 := NB461_451.out
 have hms22_1 := NB451_461.out
 refine skip_ (w1 := ?_) (by rfl) rfl ?_ ?_
 rotate_left
 ·
  go_simp
  rfl
 refine hK.out _ _ (((cell_far (p := ⟨gb451, _, none⟩) NB461_451.out _).trans (hHeld))) (fun hHeld => ?_)
 clear hK K
 refine pV 10 3 (OB 13 2047) ?_
 refine pV 11 4 (OB 13 4095) ?_
 refine pV 12 5 (OB 13 8191) ?_
 refine done_ (done_of HT_.out (by kernel_rfl)) ?_
 try go_wp2
 refine bodyPost_ret (results_list (rs := [.cell 2 29, .tmp 3, .tmp 4, .tmp 5]) rfl (by simp) (.cell gb451 29 #[.slice Ao11 t456.length co11] (0, 0) _ rfl (BU BK451.out) Try.underlying29 rfl (by kernel_rfl) (.tmp (.tmp (.tmp .nil))))) rfl ?_
 exact ⟨_, _, _, EE, by (with_reducible repeat (first | apply r1 | apply r2 | apply r3)); exact Kd.R_mono (Kd.R_far (p := ⟨gb451, 0, none⟩) (Kd.R_types HO458.out BK451.out (by decide)) (fun _ hk => hk.2) (.slice Ao11 t456.length co11)) (fun _ hk => trivial), by (with_reducible repeat (first | apply r1 | apply r2 | apply r3)); exact Kd.R_mono (Kd.R_far (p := ⟨gb451, 0, none⟩) (Kd.R_types HO464.out BK451.out (by decide)) (fun _ hk => hk.2) (.slice Ao11 t456.length co11)) (fun _ hk => trivial), by (with_reducible repeat (first | apply r1 | apply r2 | apply r3)); exact Kd.R_mono (Kd.R_far (p := ⟨gb451, 0, none⟩) (Kd.R_types HO472.out BK451.out (by decide)) (fun _ hk => hk.2) (.slice Ao11 t456.length co11)) (fun _ hk => trivial), spec_DrawCutActs.k1 HB.out⟩

/-! ### impl_LoseDisk: function 25 -/
def impl_LoseDisk.l0 : Nat → List Int → List (S45) → Int → Int → List (S45) → Option ((List (S45)) × Bool)
 | 0, _, _, _, _, _ => none
 | k + 1, x1, x17, x18, x19, x482000 => if x19 < x18 then (if 0 ≤ x19 then (if x19 < (x17.length : Int) then (if x19 < (x1.length : Int) then (if 0 ≤ (mx ((rd_T45 x17 x19).f2) (mn (rd x1 x19) (((rd_T45 x17 x19).f1).size : Int))) then (if (mx ((rd_T45 x17 x19).f2) (mn (rd x1 x19) (((rd_T45 x17 x19).f1).size : Int))) ≤ (((rd_T45 x17 x19).f1).size : Int) then (if x19 < (x482000.length : Int) then (impl_LoseDisk.l0 k x1 x17 x18 (wrap64 (x19 + 1)) (x482000.set (x19 : Int).toNat (⟨(rd_T45 x17 x19).f0, ((rd_T45 x17 x19).f1).extract 0 ((mx ((rd_T45 x17 x19).f2) (mn (rd x1 x19) (((rd_T45 x17 x19).f1).size : Int))) : Int).toNat, mx ((rd_T45 x17 x19).f2) (mn (rd x1 x19) (((rd_T45 x17 x19).f1).size : Int))⟩ : S45))) else (none)) else (none)) else (none)) else (if 0 ≤ ((rd_T45 x17 x19).f2) then (if ((rd_T45 x17 x19).f2) ≤ (((rd_T45 x17 x19).f1).size : Int) then (if x19 < (x482000.length : Int) then (impl_LoseDisk.l0 k x1 x17 x18 (wrap64 (x19 + 1)) (x482000.set (x19 : Int).toNat (⟨(rd_T45 x17 x19).f0, ((rd_T45 x17 x19).f1).extract 0 (((rd_T45 x17 x19).f2) : Int).toNat, (rd_T45 x17 x19).f2⟩ : S45))) else (none)) else (none)) else (none))) else (none)) else (none)) else (some (x482000, true))
def impl_LoseDisk.f (k : Nat) (l0_0 : List (S45)) (l1 : List Int) : Option ((List (S45)) × Bool) := (impl_DiskOk.f k l0_0).bind fun t477 => (if t477 = true then ((impl_copyDisk.f l0_0).bind fun t478 => (impl_LoseDisk.l0 k l1 l0_0 (l0_0.length : Int) 0 t478)) else (some (([] : List (S45)), false)))
def impl_LoseDisk.T9 : Bool × List (List Nat × List Nat) := (true, [([], []), ([], []), ([], []), ([1, 2], [1, 2]), ([3], [3]), ([], []), ([5], [5]), ([6], [6]), ([4, 7], [4, 7]), ([0, 8], [0, 8]), ([9, 0, 1, 2, 3, 4, 5, 6, 7, 8, 9], [0, 9])])
def impl_LoseDisk.B9 : List Nat := [0, 0, 0, 6, 14, 0, 32, 96, 254, 511, 1023]
theorem impl_LoseDisk.tab9 : rtab .any (opsOf Try.f25 9) = impl_LoseDisk.T9 := by kernel_rfl
theorem impl_LoseDisk.bits9 : waitsOk impl_LoseDisk.T9.2 impl_LoseDisk.B9 = true := by kernel_rfl
def impl_LoseDisk.T10 : Bool × List (List Nat × List Nat) := (true, [([], []), ([0], [0]), ([], []), ([], []), ([3], [3]), ([], []), ([5], [5]), ([], []), ([6, 7], [6, 7]), ([], []), ([4, 8, 9], [4, 8, 9]), ([1, 2, 0, 1, 2, 3, 4, 5, 6, 7, 8, 9, 10], [1, 2]), ([11, 10, 0, 1, 2, 3, 4, 5, 6, 7, 8, 9, 10], [10, 11])])
def impl_LoseDisk.B10 : List Nat := [0, 1, 0, 0, 8, 0, 32, 0, 224, 0, 1016, 2047, 4095]
theorem impl_LoseDisk.tab10 : rtab .any (opsOf Try.f25 10) = impl_LoseDisk.T10 := by kernel_rfl
theorem impl_LoseDisk.bits10 : waitsOk impl_LoseDisk.T10.2 impl_LoseDisk.B10 = true := by kernel_rfl
theorem impl_LoseDisk.k0 {p q : Prop} (h : q) (k : q → p := by intro h_; repeat (first | (with_reducible first | exact h_ | apply below_alloc | apply pw_below_drewN | apply below_drew1 | refine below_set ?_ (Aside0.out (by assumption))) | exact h_)) : p := k h
set_option maxHeartbeats 8000000 in
set_option maxRecDepth 100000 in
theorem impl_LoseDisk.calls (k : Nat) (A0_0 : Option Addr) (c0_0 : Nat) (l0_0 : List (S45)) (A1 : Option Addr) (c1 : Nat) (l1 : List Int) (r1 : List (S45)) (r2 : Bool) (w : World) (hr0_0 : Kd.C k45 w A0_0 l0_0.length l0_0) (hc0_0 : l0_0.length ≤ c0_0) (hr1 : Kd.C (Kd.int .i64) w A1 l1.length l1) (hc1 : l1.length ≤ c1) (h : impl_LoseDisk.f k l0_0 l1 = some (r1, r2)) :
  Calls Try.prog 25 #[.agg #[.slice A0_0 l0_0.length c0_0], .slice A1 l1.length c1] w fun e w' => ∃ v0_ : Value, e = .returned (.tuple #[.agg #[v0_], .bool r2]) ∧ Kd.R k45 45 w' w.heap.size (fun _ => True) v0_ r1 ∧ Below w.heap.size w w' := by
 have hu29 := Try.underlying29
 have hu45 := Try.underlying45
 have HR0_0 := Aside0.mk hr0_0
 have HC0_0 := Aside0.mk hc0_0
 clear hr0_0 hc0_0
 have HR1 := Aside0.mk hr1
 have HC1 := Aside0.mk hc1
 clear hr1 hc1
 have HB := Aside0.mk (Below.refl w.heap.size w)
 have H : ((impl_DiskOk.f k l0_0).bind fun t477 => (if t477 = true then ((impl_copyDisk.f l0_0).bind fun t478 => (impl_LoseDisk.l0 k l1 l0_0 (l0_0.length : Int) 0 t478)) else (some (([] : List (S45)), false)))) = some (r1, r2) := h
 clear h
 replace H := Option.bind_eq_some_iff.mp H
 obtain ⟨t477, A30, H⟩ := H
 have A3 := Aside0.mk A30
 clear A30
 by_cases c4 : t477 = true; rotate_left
 ·
  replace c4 := Bool.eq_false_iff.mpr c4; subst c4
  rw [if_neg (show ¬ (false = true) by decide)] at H; simp only [Option.some.injEq, Prod.mk.injEq] at H; obtain ⟨rfl, rfl⟩ := H
  go_enter Try.func25, Try.ntmps25
  go_wp2_with (first | ((with_reducible refine gate_dst (N := 2) rfl ?_); refine bE 2 #[.slice A0_0 l0_0.length c0_0] 29 ?_; intro gb475 hg w56 hbox hb; have BK475 := Aside0.mk (hbox); have GW475 : Aside0 (w.heap.size ≤ gb475) := GS; have GE475 := GW475; replace HB := BS hb; clear hb hbox hg) | ((with_reducible refine gate_dst (N := 4) rfl ?_); refine bE 4 #[.slice none 0 0] 29 ?_; intro gb476 hg w57 hbox hb; have BK476 := Aside0.mk (hbox); have GW476 : Aside0 (w.heap.size ≤ gb476) := GS; have GE476 := GW476; have NB475_476 := NL BK475.out hg; have NB476_475 := NG BK475.out hg; replace BK475 := BB BK475.out hb; replace HB := BS hb; clear hb hbox hg; obtain ⟨hnb58, hnc58⟩ := NN NB475_476.out; obtain ⟨hcz59_0, hfz59_0⟩ := KC1 BK475.out) | ((with_reducible refine gate_callee (f := 15) rfl ?_); refine goesL_ (some 11) rfl rfl Try.func15 (by kernel_rfl) rfl #[.agg #[.slice A0_0 l0_0.length c0_0]] rfl (MA) ?_; (with_reducible refine (impl_DiskOk.calls k _ _ l0_0 false _ ?side1 ?side2 A3.out).mono ?_); (case side1 => exact CB HR0_0.out); (case side2 => exact HC0_0.out); rintro e w60 ⟨rfl, hb⟩; refine ⟨_, rfl, ?_⟩; replace BK475 := BB BK475.out hb; replace BK476 := BB BK476.out hb; replace HB := BS hb; (try clear hb); obtain ⟨hcz61_0, hfz61_0⟩ := KC1 BK476.out))
  refine bodyPost_ret (results_ct rfl _ _ gb476 29 #[.slice none 0 0] (0, 0) _ rfl (BU BK476.out) Try.underlying29 rfl (by kernel_rfl)) rfl ?_; exact ⟨_, EE, by first | exact Kd.R_nil _ _ _ _ _ | exact Kd.N_nil _ _ _ _ _ | exact Kd.V_nil _ _ _ _ _ | exact Kd.Q_nil _ _ _ _ _ | exact Kd.S_nil _ _ _ _ _, BL⟩
 subst c4
 have H1 : ((impl_copyDisk.f l0_0).bind fun t478 => (impl_LoseDisk.l0 k l1 l0_0 (l0_0.length : Int) 0 t478)) = some (r1, r2) := by rw [if_pos rfl] at H; exact H
 clear H
 have H := H1
 clear H1
 replace H := Option.bind_eq_some_iff.mp H
 obtain ⟨t478, A50, H⟩ := H
 have A5 := Aside0.mk A50
 clear A50
 have H' := Aside0.mk H
 clear H
 go_enter Try.func25, Try.ntmps25
 go_wp2_with (first | ((with_reducible refine gate_dst (N := 2) rfl ?_); refine bE 2 #[.slice A0_0 l0_0.length c0_0] 29 ?_; intro gb475 hg w6 hbox hb; have BK475 := Aside0.mk (hbox); have GW475 : Aside0 (w.heap.size ≤ gb475) := GS; have GE475 := GW475; replace HB := BS hb; clear hb hbox hg) | ((with_reducible refine gate_dst (N := 4) rfl ?_); refine bE 4 #[.slice none 0 0] 29 ?_; intro gb476 hg w7 hbox hb; have BK476 := Aside0.mk (hbox); have GW476 : Aside0 (w.heap.size ≤ gb476) := GS; have GE476 := GW476; have NB475_476 := NL BK475.out hg; have NB476_475 := NG BK475.out hg; replace BK475 := BB BK475.out hb; replace HB := BS hb; clear hb hbox hg; obtain ⟨hnb8, hnc8⟩ := NN NB475_476.out; obtain ⟨hcz9_0, hfz9_0⟩ := KC1 BK475.out) | ((with_reducible refine gate_callee (f := 15) rfl ?_); refine goesL_ (some 11) rfl rfl Try.func15 (by kernel_rfl) rfl #[.agg #[.slice A0_0 l0_0.length c0_0]] rfl (MA) ?_; (with_reducible refine (impl_DiskOk.calls k _ _ l0_0 true _ ?side1 ?side2 A3.out).mono ?_); (case side1 => exact CB HR0_0.out); (case side2 => exact HC0_0.out); rintro e w10 ⟨rfl, hb⟩; refine ⟨_, rfl, ?_⟩; replace BK475 := BB BK475.out hb; replace BK476 := BB BK476.out hb; replace HB := BS hb; (try clear hb); obtain ⟨hcz11_0, hfz11_0⟩ := KC1 BK475.out) | ((with_reducible refine gate_callee (f := 61) rfl ?_); refine goesL_ (some 15) rfl rfl Try.func61 (by kernel_rfl) rfl #[.agg #[.slice A0_0 l0_0.length c0_0]] rfl (MA) ?_; (with_reducible refine (impl_copyDisk.calls _ _ l0_0 t478 _ ?side1 ?side2 A5.out).mono ?_); (case side1 => exact CB HR0_0.out); (case side2 => exact HC0_0.out); rintro e w12 ⟨v479, rfl, ho0, hb⟩; refine ⟨_, rfl, ?_⟩; have HO480 := Aside0.mk (Kd.R_lower ho0 (below_size (BL))); replace BK475 := BB BK475.out hb; replace BK476 := BB BK476.out hb; replace HB := BS hb; (try clear hb); (try clear ho0)) | ((with_reducible refine gate_dst (N := 6) rfl ?_); refine bE 6 #[.slice none 0 0] 29 ?_; intro gb481 hg w13 hbox hb; have BK481 := Aside0.mk (hbox); have GW481 : Aside0 (w.heap.size ≤ gb481) := GS; have GE481 := GW481; have NB475_481 := NL BK475.out hg; have NB481_475 := NG BK475.out hg; have NB476_481 := NL BK476.out hg; have NB481_476 := NG BK476.out hg; replace HO480 := RB HO480 hb; replace BK475 := BB BK475.out hb; replace BK476 := BB BK476.out hb; replace HB := BS hb; clear hb hbox hg; obtain ⟨Ao14, co14, eo14⟩ := Kd.R_slice HO480.out; subst eo14; obtain ⟨hnb15, hnc15⟩ := NN NB481_475.out; obtain ⟨hnb16, hnc16⟩ := NN NB481_476.out; obtain ⟨hcz17_0, hfz17_0⟩ := KC1 BK481.out; obtain ⟨hcz18_0, hfz18_0⟩ := KC1 BK475.out))
 go_loopg [19] k (fun kq v19 w' => ∃ (x19_1 : Int) (x482000_1 : List (S45)) (u482000 : Value), v19 = .int .i64 x19_1 ∧ Aside0 (impl_LoseDisk.l0 kq l1 l0_0 (l0_0.length : Int) x19_1 x482000_1 = some (r1, r2)) ∧ Aside0 (kq ≤ k) ∧ Aside0 (Kd.R k45 45 w' w.heap.size (fun _ => True) u482000 x482000_1) ∧ Aside0 (w'.heap[gb475]? = some (.cells #[(.slice A0_0 l0_0.length c0_0)] 29 (0, 0))) ∧ Aside0 (w'.heap[gb476]? = some (.cells #[(.slice none 0 0)] 29 (0, 0))) ∧ Aside0 (w'.heap[gb481]? = some (.cells #[u482000] 29 (0, 0))) ∧ Aside0 (Below w.heap.size w w'))
 case atStart => exact ⟨(0), (t478), (.slice Ao14 t478.length co14), SD, H', ⟨Nat.le_refl _⟩, ⟨RF HO480.out BK481.out⟩, ⟨BP BK475.out⟩, ⟨BP BK476.out⟩, ⟨BU BK481.out⟩, ⟨BL⟩⟩
 case round =>
  clear H'
  try clear c1 c2 p2 c4 c6 c8 c15 c16 hcz11_0 hcz17_0 hcz18_0 hcz9_0 hfz11_0 hfz17_0 hfz18_0 hfz9_0
  obtain ⟨x19_1, x482000_1, u482000, rfl, HA, HK1, HO_482000, BK475, BK476, BK481, HB⟩ := hrel; cases gk with
  | zero => exact absurd HA.out (by simp [impl_LoseDisk.l0])
  | succ k1 =>
   have H := HA.out; clear HA; simp only [impl_LoseDisk.l0] at H
   by_cases c19 : x19_1 < (l0_0.length : Int); rotate_left
   ·
    rw [if_neg c19] at H; have c19b0 : decide (x19_1 < (l0_0.length : Int)) = false := decide_eq_false c19; clear c19; simp only [Option.some.injEq, Prod.mk.injEq] at H; obtain ⟨rfl, rfl⟩ := H; obtain ⟨hnb50, hnc50⟩ := NN NB481_475.out; obtain ⟨hnb51, hnc51⟩ := NN NB481_476.out; obtain ⟨hcz52_0, hfz52_0⟩ := KC1 BK481.out; obtain ⟨Ao53, co53, eo53⟩ := Kd.R_slice HO_482000.out; subst eo53; obtain ⟨hnb54, hnc54⟩ := NN NB476_475.out; obtain ⟨hcz55_0, hfz55_0⟩ := KC1 BK476.out
    go_wp2
    refine bodyPost_ret (results_ct rfl _ _ gb476 29 #[.slice Ao53 x482000_1.length co53] (0, 0) _ rfl (BU BK476.out) Try.underlying29 rfl (by kernel_rfl)) rfl ?_; exact ⟨_, EE, by (with_reducible repeat (first | apply r1 | apply r2 | apply r3)); exact Kd.R_mono (Kd.R_far (p := ⟨gb476, 0, none⟩) (Kd.R_types HO_482000.out BK476.out (by decide)) (fun _ hk => hk.2) (.slice Ao53 x482000_1.length co53)) (fun _ hk => trivial), BL⟩
   rw [if_pos c19] at H; have c19b0 : decide (x19_1 < (l0_0.length : Int)) = true := decide_eq_true c19; clear c19
   by_cases c20 : 0 ≤ x19_1; rotate_left
   ·
    rw [if_neg c20] at H; exact absurd H (by simp)
   rw [if_pos c20] at H; have c20b0 : decide (0 ≤ x19_1) = true := decide_eq_true c20; clear c20
   by_cases c21 : x19_1 < (l0_0.length : Int); rotate_left
   ·
    rw [if_neg c21] at H; exact absurd H (by simp)
   rw [if_pos c21] at H; have c21b0 : decide (x19_1 < (l0_0.length : Int)) = true := decide_eq_true c21; clear c21
   by_cases c22 : x19_1 < (l1.length : Int); rotate_left
   ·
    rw [if_neg c22] at H; have c22b0 : decide (x19_1 < (l1.length : Int)) = false := decide_eq_false c22; clear c22
    by_cases c38 : 0 ≤ ((rd_T45 l0_0 x19_1).f2); rotate_left
    ·
     rw [if_neg c38] at H; exact absurd H (by simp)
    rw [if_pos c38] at H; have c38b0 := eq_true c38; have c38b1 : decide (0 ≤ ((rd_T45 l0_0 x19_1).f2)) = true := decide_eq_true c38; clear c38
    by_cases c39 : ((rd_T45 l0_0 x19_1).f2) ≤ (((rd_T45 l0_0 x19_1).f1).size : Int); rotate_left
    ·
     rw [if_neg c39] at H; exact absurd H (by simp)
    rw [if_pos c39] at H; have c39b0 := eq_true c39; have c39b1 : decide (((rd_T45 l0_0 x19_1).f2) ≤ (((rd_T45 l0_0 x19_1).f1).size : Int)) = true := decide_eq_true c39; clear c39
    by_cases c40 : x19_1 < (x482000_1.length : Int); rotate_left
    ·
     rw [if_neg c40] at H; exact absurd H (by simp)
    rw [if_pos c40] at H; have c40b0 : decide (x19_1 < (x482000_1.length : Int)) = true := decide_eq_true c40; clear c40; obtain ⟨y486, hy486⟩ : ∃ y_ : List (S45), y_ = (x482000_1.set (x19_1 : Int).toNat (⟨(rd_T45 l0_0 x19_1).f0, ((rd_T45 l0_0 x19_1).f1).extract 0 (((rd_T45 l0_0 x19_1).f2) : Int).toNat, (rd_T45 l0_0 x19_1).f2⟩ : S45)) := ⟨_, rfl⟩
    replace H : (impl_LoseDisk.l0 k1 l1 l0_0 (l0_0.length : Int) (wrap64 (x19_1 + 1)) y486) = some (r1, r2) := by first | (rw [hy486]; with_reducible exact H) | (have H2_ := (Option.bind_some _ _).symm.trans H; rw [hy486]; with_reducible exact H2_) | (have H2_ := (Option.bind_some _ _).symm.trans H; with_reducible exact H2_) | with_reducible exact H | (rw [hy486]; exact H) | exact H
    have Ny486 := Aside0.mk hy486; clear hy486; have H' := Aside0.mk H; clear H; have p482 : 0 ≤ (x19_1 : Int) := of_decide_eq_true AS; have q482 : x19_1 < (l0_0.length : Int) := of_decide_eq_true AS; obtain ⟨ad482, e482, hx482_0, hx482_1, hx482_2⟩ := at_T45 HR0_0.out x19_1 p482 q482; cases e482; replace hx482_0 := HX hx482_0; replace hx482_1 := HX hx482_1; replace hx482_2 := HX hx482_2; replace p482 := eq_true p482; replace q482 := eq_true q482
    try go_wp2_with (first | ((with_reducible refine gate_dst (N := 8) rfl ?_); refine bE 8 #[.string (⟨#[]⟩ : ByteArray), .string (⟨#[]⟩ : ByteArray), .int .i64 0] 45 ?_; intro gb483 hg w42 hbox hb; have BK483 := Aside0.mk (hbox); have GW483 : Aside0 (w.heap.size ≤ gb483) := GS; have GE483 := GW483; have NB475_483 := NL BK475.out hg; have NB483_475 := NG BK475.out hg; have NB476_483 := NL BK476.out hg; have NB483_476 := NG BK476.out hg; have NB481_483 := NL BK481.out hg; have NB483_481 := NG BK481.out hg; replace HO_482000 := Aside0.mk (Kd.R_below (Kd.R_elderB (RQ HO_482000.out) gb483 (Nat.le_of_eq hg.symm)) hb); replace BK475 := BB BK475.out hb; replace BK476 := BB BK476.out hb; replace BK481 := BB BK481.out hb; replace HB := BS hb; clear hb hbox hg; obtain ⟨hnb43, hnc43⟩ := NN NB483_475.out; obtain ⟨hnb44, hnc44⟩ := NN NB483_476.out; obtain ⟨hnb45, hnc45⟩ := NN NB483_481.out; obtain ⟨hcz46_0, hcz46_1, hcz46_2, hfz46_0, hfz46_1, hfz46_2⟩ := KC3 BK483.out))
    have n0_ : Aside0 (Kd.R k45 45 (((w42.setCell ⟨gb483, 0, none⟩ (.string ((rd_T45 l0_0 x19_1).f0))).setCell ⟨gb483, 1, none⟩ (.string ((rd_T45 l0_0 x19_1).f1))).setCell ⟨gb483, 2, none⟩ (.int .i64 ((rd_T45 l0_0 x19_1).f2))) w.heap.size (fun k_ => k_ ≠ gb483) u482000 x482000_1) := ⟨by (with_reducible repeat (first | apply r1 | apply r2 | apply r3)); exact Kd.R_mono (Kd.R_far (p := ⟨gb483, 2, none⟩) (Kd.R_far (p := ⟨gb483, 1, none⟩) (Kd.R_far (p := ⟨gb483, 0, none⟩) (Kd.R_mono HO_482000.out (fun k_ hk => (⟨hk, hk.2⟩ : _ ∧ k_ ≠ gb483))) (fun _ hk => hk.2) (.string ((rd_T45 l0_0 x19_1).f0))) (fun _ hk => hk.2) (.string ((rd_T45 l0_0 x19_1).f1))) (fun _ hk => hk.2) (.int .i64 ((rd_T45 l0_0 x19_1).f2))) (fun _ hk => hk.1.2)⟩; have n1_ : Aside0 ((((w42.setCell ⟨gb483, 0, none⟩ (.string ((rd_T45 l0_0 x19_1).f0))).setCell ⟨gb483, 1, none⟩ (.string ((rd_T45 l0_0 x19_1).f1))).setCell ⟨gb483, 2, none⟩ (.int .i64 ((rd_T45 l0_0 x19_1).f2))).heap[gb475]? = some (.cells #[.slice (some ad482) l0_0.length c0_0] 29 (0, 0))) := ⟨BP BK475.out⟩; have n2_ : Aside0 ((((w42.setCell ⟨gb483, 0, none⟩ (.string ((rd_T45 l0_0 x19_1).f0))).setCell ⟨gb483, 1, none⟩ (.string ((rd_T45 l0_0 x19_1).f1))).setCell ⟨gb483, 2, none⟩ (.int .i64 ((rd_T45 l0_0 x19_1).f2))).heap[gb476]? = some (.cells #[.slice none 0 0] 29 (0, 0))) := ⟨BP BK476.out⟩; have n3_ : Aside0 ((((w42.setCell ⟨gb483, 0, none⟩ (.string ((rd_T45 l0_0 x19_1).f0))).setCell ⟨gb483, 1, none⟩ (.string ((rd_T45 l0_0 x19_1).f1))).setCell ⟨gb483, 2, none⟩ (.int .i64 ((rd_T45 l0_0 x19_1).f2))).heap[gb481]? = some (.cells #[u482000] 29 (0, 0))) := ⟨BP BK481.out⟩; have n4_ : Aside0 ((((w42.setCell ⟨gb483, 0, none⟩ (.string ((rd_T45 l0_0 x19_1).f0))).setCell ⟨gb483, 1, none⟩ (.string ((rd_T45 l0_0 x19_1).f1))).setCell ⟨gb483, 2, none⟩ (.int .i64 ((rd_T45 l0_0 x19_1).f2))).heap[gb483]? = some (.cells #[.string ((rd_T45 l0_0 x19_1).f0), .string ((rd_T45 l0_0 x19_1).f1), .int .i64 ((rd_T45 l0_0 x19_1).f2)] 45 (0, 0))) := ⟨BU BK483.out⟩; have n5_ : Aside0 (Below w.heap.size w (((w42.setCell ⟨gb483, 0, none⟩ (.string ((rd_T45 l0_0 x19_1).f0))).setCell ⟨gb483, 1, none⟩ (.string ((rd_T45 l0_0 x19_1).f1))).setCell ⟨gb483, 2, none⟩ (.int .i64 ((rd_T45 l0_0 x19_1).f2)))) := ⟨BL⟩
    (try clear HO_482000)
    (try clear BK475)
    (try clear BK476)
    (try clear BK481)
    (try clear BK483)
    (try clear HB)
    generalize (((w42.setCell ⟨gb483, 0, none⟩ (.string ((rd_T45 l0_0 x19_1).f0))).setCell ⟨gb483, 1, none⟩ (.string ((rd_T45 l0_0 x19_1).f1))).setCell ⟨gb483, 2, none⟩ (.int .i64 ((rd_T45 l0_0 x19_1).f2))) = w47 at n0_ n1_ n2_ n3_ n4_ n5_ ⊢; have HO_482000 := n0_; have BK475 := n1_; have BK476 := n2_; have BK481 := n3_; have BK483 := n4_; have HB := n5_; clear n0_ n1_ n2_ n3_ n4_ n5_; replace HO_482000 := DR HO_482000; replace BK475 := BD BK475; replace BK476 := BD BK476; replace BK481 := BD BK481; replace BK483 := BD BK483; replace HB := Aside0.mk (below_drew1 HB.out); have p41 : 0 ≤ (x19_1 : Int) := of_decide_eq_true AS; have q41 : (x19_1 : Int) < ((x482000_1.length : Int) : Int) := of_decide_eq_true AS; obtain ⟨go41, co41, eo41, gb41, gl41, cl41, HG41⟩ := Kd.R_form HO_482000.out (by omega)
    (first | cases eo41 | (injection eo41 with ea_ en_ ec_; (first | subst ea_ | (injection ea_ with ea_; subst ea_)); subst ec_; clear en_))
    have GB41 := Aside0.mk gb41; have GG41 := Aside0.mk HG41; clear gb41 gl41 HG41; obtain ⟨ce41, hcl41, hM41, hcc41, hfr41⟩ := Kd.R_elem HO_482000.out z45 (x19_1 : Int) p41 q41; obtain rfl := k45_openM hM41; have hx41_0 : World.cell? _ ⟨go41, (x19_1 : Int).toNat * 3, none⟩ = some (.string ((rd_T45 x482000_1 x19_1).f0)) := hcc41 0 _ rfl; have hx41_1 : World.cell? _ ⟨go41, (x19_1 : Int).toNat * 3 + 1, none⟩ = some (.string ((rd_T45 x482000_1 x19_1).f1)) := hcc41 1 _ rfl; have hx41_2 : World.cell? _ ⟨go41, (x19_1 : Int).toNat * 3 + 2, none⟩ = some (.int .i64 ((rd_T45 x482000_1 x19_1).f2)) := hcc41 2 _ rfl; have hf41_0 : World.frozen? _ ⟨go41, (x19_1 : Int).toNat * 3, none⟩ = false := hfr41 0; have hf41_1 : World.frozen? _ ⟨go41, (x19_1 : Int).toNat * 3 + 1, none⟩ = false := hfr41 1; have hf41_2 : World.frozen? _ ⟨go41, (x19_1 : Int).toNat * 3 + 2, none⟩ = false := hfr41 2; clear hcl41 hcc41 hfr41 hM41; replace p41 := eq_true p41; replace q41 := eq_true q41; obtain ⟨ce49, hcl49, hM49, hcc49, hfr49⟩ := Kd.R_elem HO_482000.out z45 (x19_1 : Int) (of_decide_eq_true AS) (by have h_ : (x19_1 : Int) < ((x482000_1.length : Int) : Int) := of_decide_eq_true AS; first | exact h_ | (have e_ := (Kd.R_reads' HO_482000.out).1; omega) | simpa using h_); obtain rfl := k45_openM hM49; have HP49 := (Kd.R_seg HO_482000.out (x19_1 : Int) (of_decide_eq_true AS) (by have h_ : (x19_1 : Int) < ((x482000_1.length : Int) : Int) := of_decide_eq_true AS; first | exact h_ | (have e_ := (Kd.R_reads' HO_482000.out).1; omega) | simpa using h_) (seg := [.string ((rd_T45 l0_0 x19_1).f0), .string (((rd_T45 l0_0 x19_1).f1).extract 0 (((rd_T45 l0_0 x19_1).f2) : Int).toNat), .int .i64 ((rd_T45 l0_0 x19_1).f2)]) (j := 0) hcl49 hcc49 (show 3 ≤ 3 from by decide) (x' := (⟨(rd_T45 l0_0 x19_1).f0, ((rd_T45 l0_0 x19_1).f1).extract 0 (((rd_T45 l0_0 x19_1).f2) : Int).toNat, (rd_T45 l0_0 x19_1).f2⟩ : S45)) (k45_mkM _ _ _ (⟨(rd_T45 l0_0 x19_1).f0, ((rd_T45 l0_0 x19_1).f1).extract 0 (((rd_T45 l0_0 x19_1).f2) : Int).toNat, (rd_T45 l0_0 x19_1).f2⟩ : S45) ) (fun _ hk => hk)).1; rw [← Ny486.out] at HP49; have HQ49 := Aside0.mk HP49; clear hcl49 hcc49 hfr49 hM49 HP49; refine start_ (n := 13) (S := fun w' => w'.cell? ⟨gb481, 0, none⟩ = some (.slice (some ⟨go41, 0, none⟩) x482000_1.length co41) ∧ w'.cell? ⟨gb483, 0, none⟩ = some (.string ((rd_T45 l0_0 x19_1).f0)) ∧ w'.cell? ⟨gb483, 1, none⟩ = some (.string ((rd_T45 l0_0 x19_1).f1)) ∧ w'.cell? ⟨gb483, 2, none⟩ = some (.int .i64 ((rd_T45 l0_0 x19_1).f2))) (ds := [12]) #[false, false, false, false, false, false, false, false, false, false, false, false, false] (by kernel_rfl) rfl rfl ⟨CZ BK481.out 0, CZ BK483.out 0, CZ BK483.out 1, CZ BK483.out 2⟩ (fun hHeld => ?_); refine with_tabW impl_LoseDisk.tab10 impl_LoseDisk.bits10 (fun HT_ HW_ => ?_); generalize w47.drew = w48 at HO_482000 BK475 BK476 BK481 BK483 HB GG41 HQ49 hf41_0 hf41_1 hf41_2 hx41_0 hx41_1 hx41_2 hHeld ⊢; refine pV 0 40 (OB 13 1) ?_; refine pV 2 42 (OB 13 5) ?_; refine pV 3 43 (OB 13 13) ?_; refine pV 5 45 (OB 13 45) ?_; refine pV 7 47 (OB 13 173) ?_; refine pV 9 49 (OB 13 685) ?_; refine pT 1 41 (OB 13 687) ?_; refine pT 4 44 (OB 13 703) ?_; refine pT 6 46 (OB 13 767) ?_; refine pV 8 48 (OB 13 1023) ?_; refine pV 10 50 (OB 13 2047) ?_; refine pV 11 51 (OB 13 4095) ?_; refine last_ (i := 12) (N := none) #[true, true, true, true, true, true, true, true, true, true, true, true, true] rfl rfl (one_of HT_.out (by kernel_rfl)) (by decide) (fun K hK => ?_); refine skip_ (w1 := ?_) (by rfl) rfl ?_ ?_; rotate_left
    ·
     go_simp
     rfl
    refine hK.out _ _ ?_; clear hK K; refine done_ (done_of HT_.out (by kernel_rfl)) ?_
    try go_wp2
    go_roundg k1
    case measure => have := HK1.out; omega
    case rel => exact ⟨(wrap64 (x19_1 + 1)), (y486), (.slice (some ⟨go41, 0, none⟩) x482000_1.length co41), SD, H', ⟨by have := HK1.out; omega⟩, ⟨by (with_reducible repeat (first | apply r1 | apply r2 | apply r3)); exact Kd.R_mono HQ49.out (fun _ hk => trivial)⟩, ⟨by (with_reducible repeat (first | apply b1 | apply b2 | apply b3)); refine blk_far ?_ (by have h_ := Kd.R_ne HO_482000.out BK475.out (by decide); intro e_; exact h_ (by rw [e_]; rfl)) _; (with_reducible repeat (first | apply b1 | apply b2 | apply b3)); refine blk_far ?_ (by have h_ := Kd.R_ne HO_482000.out BK475.out (by decide); intro e_; exact h_ (by rw [e_]; rfl)) _; (with_reducible repeat (first | apply b1 | apply b2 | apply b3)); refine blk_far ?_ (by have h_ := Kd.R_ne HO_482000.out BK475.out (by decide); intro e_; exact h_ (by rw [e_]; rfl)) _; (with_reducible repeat (first | apply b1 | apply b2 | apply b3)); exact BK475.out⟩, ⟨by (with_reducible repeat (first | apply b1 | apply b2 | apply b3)); refine blk_far ?_ (by have h_ := Kd.R_ne HO_482000.out BK476.out (by decide); intro e_; exact h_ (by rw [e_]; rfl)) _; (with_reducible repeat (first | apply b1 | apply b2 | apply b3)); refine blk_far ?_ (by have h_ := Kd.R_ne HO_482000.out BK476.out (by decide); intro e_; exact h_ (by rw [e_]; rfl)) _; (with_reducible repeat (first | apply b1 | apply b2 | apply b3)); refine blk_far ?_ (by have h_ := Kd.R_ne HO_482000.out BK476.out (by decide); intro e_; exact h_ (by rw [e_]; rfl)) _; (with_reducible repeat (first | apply b1 | apply b2 | apply b3)); exact BK476.out⟩, ⟨by (with_reducible repeat (first | apply b1 | apply b2 | apply b3)); refine blk_far ?_ (by have h_ := Kd.R_ne HO_482000.out BK481.out (by decide); intro e_; exact h_ (by rw [e_]; rfl)) _; (with_reducible repeat (first | apply b1 | apply b2 | apply b3)); refine blk_far ?_ (by have h_ := Kd.R_ne HO_482000.out BK481.out (by decide); intro e_; exact h_ (by rw [e_]; rfl)) _; (with_reducible repeat (first | apply b1 | apply b2 | apply b3)); refine blk_far ?_ (by have h_ := Kd.R_ne HO_482000.out BK481.out (by decide); intro e_; exact h_ (by rw [e_]; rfl)) _; (with_reducible repeat (first | apply b1 | apply b2 | apply b3)); exact BK481.out⟩, ⟨impl_LoseDisk.k0 HB.out⟩⟩
   rw [if_pos c22] at H; have c22b0 : decide (x19_1 < (l1.length : Int)) = true := decide_eq_true c22; clear c22; obtain ⟨ji23, hji23⟩ : ∃ j_ : Int, (mn (rd l1 x19_1) (((rd_T45 l0_0 x19_1).f1).size : Int)) = j_ := ⟨_, rfl⟩
   replace H : (if 0 ≤ (mx ((rd_T45 l0_0 x19_1).f2) (ji23)) then (if (mx ((rd_T45 l0_0 x19_1).f2) (ji23)) ≤ (((rd_T45 l0_0 x19_1).f1).size : Int) then (if x19_1 < (x482000_1.length : Int) then (impl_LoseDisk.l0 k1 l1 l0_0 (l0_0.length : Int) (wrap64 (x19_1 + 1)) (x482000_1.set (x19_1 : Int).toNat (⟨(rd_T45 l0_0 x19_1).f0, ((rd_T45 l0_0 x19_1).f1).extract 0 ((mx ((rd_T45 l0_0 x19_1).f2) (ji23)) : Int).toNat, mx ((rd_T45 l0_0 x19_1).f2) (ji23)⟩ : S45))) else (none)) else (none)) else (none)) = some (r1, r2) := by first | (rw [hji23] at H; exact H) | (simp only [hji23] at H ⊢; exact H)
   have hji23_ : (if (((rd_T45 l0_0 x19_1).f1).size : Int) < (rd l1 x19_1) then (((rd_T45 l0_0 x19_1).f1).size : Int) else (rd l1 x19_1)) = ji23 := hji23; obtain ⟨ji24, hji24⟩ : ∃ j_ : Int, (mx ((rd_T45 l0_0 x19_1).f2) (ji23)) = j_ := ⟨_, rfl⟩
   replace H : (if 0 ≤ (ji24) then (if (ji24) ≤ (((rd_T45 l0_0 x19_1).f1).size : Int) then (if x19_1 < (x482000_1.length : Int) then (impl_LoseDisk.l0 k1 l1 l0_0 (l0_0.length : Int) (wrap64 (x19_1 + 1)) (x482000_1.set (x19_1 : Int).toNat (⟨(rd_T45 l0_0 x19_1).f0, ((rd_T45 l0_0 x19_1).f1).extract 0 ((ji24) : Int).toNat, ji24⟩ : S45))) else (none)) else (none)) else (none)) = some (r1, r2) := by first | (rw [hji24] at H; exact H) | (simp only [hji24] at H ⊢; exact H)
   have hji24_ : (if ((rd_T45 l0_0 x19_1).f2) < (ji23) then (ji23) else ((rd_T45 l0_0 x19_1).f2)) = ji24 := hji24
   by_cases c25 : 0 ≤ (ji24); rotate_left
   ·
    rw [if_neg c25] at H; exact absurd H (by simp)
   rw [if_pos c25] at H; have c25b0 := eq_true c25; have c25b1 : decide (0 ≤ (ji24)) = true := decide_eq_true c25; clear c25
   by_cases c26 : (ji24) ≤ (((rd_T45 l0_0 x19_1).f1).size : Int); rotate_left
   ·
    rw [if_neg c26] at H; exact absurd H (by simp)
   rw [if_pos c26] at H; have c26b0 := eq_true c26; have c26b1 : decide ((ji24) ≤ (((rd_T45 l0_0 x19_1).f1).size : Int)) = true := decide_eq_true c26; clear c26
   by_cases c27 : x19_1 < (x482000_1.length : Int); rotate_left
   ·
    rw [if_neg c27] at H; exact absurd H (by simp)
   rw [if_pos c27] at H; have c27b0 : decide (x19_1 < (x482000_1.length : Int)) = true := decide_eq_true c27; clear c27; obtain ⟨y485, hy485⟩ : ∃ y_ : List (S45), y_ = (x482000_1.set (x19_1 : Int).toNat (⟨(rd_T45 l0_0 x19_1).f0, ((rd_T45 l0_0 x19_1).f1).extract 0 ((ji24) : Int).toNat, ji24⟩ : S45)) := ⟨_, rfl⟩
   replace H : (impl_LoseDisk.l0 k1 l1 l0_0 (l0_0.length : Int) (wrap64 (x19_1 + 1)) y485) = some (r1, r2) := by first | (rw [hy485]; with_reducible exact H) | (have H2_ := (Option.bind_some _ _).symm.trans H; rw [hy485]; with_reducible exact H2_) | (have H2_ := (Option.bind_some _ _).symm.trans H; with_reducible exact H2_) | with_reducible exact H | (rw [hy485]; exact H) | exact H
   have Ny485 := Aside0.mk hy485; clear hy485; have H' := Aside0.mk H; clear H; have p482 : 0 ≤ (x19_1 : Int) := of_decide_eq_true AS; have q482 : x19_1 < (l0_0.length : Int) := of_decide_eq_true AS; obtain ⟨ad482, e482, hx482_0, hx482_1, hx482_2⟩ := at_T45 HR0_0.out x19_1 p482 q482; cases e482; replace hx482_0 := HX hx482_0; replace hx482_1 := HX hx482_1; replace hx482_2 := HX hx482_2; replace p482 := eq_true p482; replace q482 := eq_true q482
   try go_wp2_with (first | ((with_reducible refine gate_dst (N := 8) rfl ?_); refine bE 8 #[.string (⟨#[]⟩ : ByteArray), .string (⟨#[]⟩ : ByteArray), .int .i64 0] 45 ?_; intro gb483 hg w29 hbox hb; have BK483 := Aside0.mk (hbox); have GW483 : Aside0 (w.heap.size ≤ gb483) := GS; have GE483 := GW483; have NB475_483 := NL BK475.out hg; have NB483_475 := NG BK475.out hg; have NB476_483 := NL BK476.out hg; have NB483_476 := NG BK476.out hg; have NB481_483 := NL BK481.out hg; have NB483_481 := NG BK481.out hg; replace HO_482000 := Aside0.mk (Kd.R_below (Kd.R_elderB (RQ HO_482000.out) gb483 (Nat.le_of_eq hg.symm)) hb); replace BK475 := BB BK475.out hb; replace BK476 := BB BK476.out hb; replace BK481 := BB BK481.out hb; replace HB := BS hb; clear hb hbox hg; obtain ⟨hnb30, hnc30⟩ := NN NB483_475.out; obtain ⟨hnb31, hnc31⟩ := NN NB483_476.out; obtain ⟨hnb32, hnc32⟩ := NN NB483_481.out; obtain ⟨hcz33_0, hcz33_1, hcz33_2, hfz33_0, hfz33_1, hfz33_2⟩ := KC3 BK483.out))
   have n0_ : Aside0 (Kd.R k45 45 (((w29.setCell ⟨gb483, 0, none⟩ (.string ((rd_T45 l0_0 x19_1).f0))).setCell ⟨gb483, 1, none⟩ (.string ((rd_T45 l0_0 x19_1).f1))).setCell ⟨gb483, 2, none⟩ (.int .i64 ((rd_T45 l0_0 x19_1).f2))) w.heap.size (fun k_ => k_ ≠ gb483) u482000 x482000_1) := ⟨by (with_reducible repeat (first | apply r1 | apply r2 | apply r3)); exact Kd.R_mono (Kd.R_far (p := ⟨gb483, 2, none⟩) (Kd.R_far (p := ⟨gb483, 1, none⟩) (Kd.R_far (p := ⟨gb483, 0, none⟩) (Kd.R_mono HO_482000.out (fun k_ hk => (⟨hk, hk.2⟩ : _ ∧ k_ ≠ gb483))) (fun _ hk => hk.2) (.string ((rd_T45 l0_0 x19_1).f0))) (fun _ hk => hk.2) (.string ((rd_T45 l0_0 x19_1).f1))) (fun _ hk => hk.2) (.int .i64 ((rd_T45 l0_0 x19_1).f2))) (fun _ hk => hk.1.2)⟩; have n1_ : Aside0 ((((w29.setCell ⟨gb483, 0, none⟩ (.string ((rd_T45 l0_0 x19_1).f0))).setCell ⟨gb483, 1, none⟩ (.string ((rd_T45 l0_0 x19_1).f1))).setCell ⟨gb483, 2, none⟩ (.int .i64 ((rd_T45 l0_0 x19_1).f2))).heap[gb475]? = some (.cells #[.slice (some ad482) l0_0.length c0_0] 29 (0, 0))) := ⟨BP BK475.out⟩; have n2_ : Aside0 ((((w29.setCell ⟨gb483, 0, none⟩ (.string ((rd_T45 l0_0 x19_1).f0))).setCell ⟨gb483, 1, none⟩ (.string ((rd_T45 l0_0 x19_1).f1))).setCell ⟨gb483, 2, none⟩ (.int .i64 ((rd_T45 l0_0 x19_1).f2))).heap[gb476]? = some (.cells #[.slice none 0 0] 29 (0, 0))) := ⟨BP BK476.out⟩; have n3_ : Aside0 ((((w29.setCell ⟨gb483, 0, none⟩ (.string ((rd_T45 l0_0 x19_1).f0))).setCell ⟨gb483, 1, none⟩ (.string ((rd_T45 l0_0 x19_1).f1))).setCell ⟨gb483, 2, none⟩ (.int .i64 ((rd_T45 l0_0 x19_1).f2))).heap[gb481]? = some (.cells #[u482000] 29 (0, 0))) := ⟨BP BK481.out⟩; have n4_ : Aside0 ((((w29.setCell ⟨gb483, 0, none⟩ (.string ((rd_T45 l0_0 x19_1).f0))).setCell ⟨gb483, 1, none⟩ (.string ((rd_T45 l0_0 x19_1).f1))).setCell ⟨gb483, 2, none⟩ (.int .i64 ((rd_T45 l0_0 x19_1).f2))).heap[gb483]? = some (.cells #[.string ((rd_T45 l0_0 x19_1).f0), .string ((rd_T45 l0_0 x19_1).f1), .int .i64 ((rd_T45 l0_0 x19_1).f2)] 45 (0, 0))) := ⟨BU BK483.out⟩; have n5_ : Aside0 (Below w.heap.size w (((w29.setCell ⟨gb483, 0, none⟩ (.string ((rd_T45 l0_0 x19_1).f0))).setCell ⟨gb483, 1, none⟩ (.string ((rd_T45 l0_0 x19_1).f1))).setCell ⟨gb483, 2, none⟩ (.int .i64 ((rd_T45 l0_0 x19_1).f2)))) := ⟨BL⟩
   (try clear HO_482000)
   (try clear BK475)
   (try clear BK476)
   (try clear BK481)
   (try clear BK483)
   (try clear HB)
   generalize (((w29.setCell ⟨gb483, 0, none⟩ (.string ((rd_T45 l0_0 x19_1).f0))).setCell ⟨gb483, 1, none⟩ (.string ((rd_T45 l0_0 x19_1).f1))).setCell ⟨gb483, 2, none⟩ (.int .i64 ((rd_T45 l0_0 x19_1).f2))) = w34 at n0_ n1_ n2_ n3_ n4_ n5_ ⊢; have HO_482000 := n0_; have BK475 := n1_; have BK476 := n2_; have BK481 := n3_; have BK483 := n4_; have HB := n5_; clear n0_ n1_ n2_ n3_ n4_ n5_; replace HO_482000 := DR HO_482000; replace BK475 := BD BK475; replace BK476 := BD BK476; replace BK481 := BD BK481; replace BK483 := BD BK483; replace HB := Aside0.mk (below_drew1 HB.out); have p484 : 0 ≤ (x19_1 : Int) := of_decide_eq_true AS; have q484 : x19_1 < (l1.length : Int) := of_decide_eq_true AS; obtain ⟨ad484, e484, hx484_0⟩ := Kd.at_int HR1.out x19_1 p484 q484; have hw484_0 := hx484_0; cases e484; replace hx484_0 := HX hx484_0; replace p484 := eq_true p484; replace q484 := eq_true q484; refine start_ (n := 11) (S := fun w' => w'.cell? ⟨gb483, 0, none⟩ = some (.string ((rd_T45 l0_0 x19_1).f0)) ∧ w'.cell? ⟨gb483, 1, none⟩ = some (.string ((rd_T45 l0_0 x19_1).f1)) ∧ w'.cell? ⟨gb483, 2, none⟩ = some (.int .i64 ((rd_T45 l0_0 x19_1).f2)) ∧ w'.cell? (ad484.add (x19_1).toNat) = some (.int .i64 (rd l1 x19_1))) (ds := []) #[false, false, false, false, false, false, false, false, false, false, false] (by kernel_rfl) rfl rfl ⟨CZ BK483.out 0, CZ BK483.out 1, CZ BK483.out 2, ((HB.out.cell (World.block_lt_of_cell? w _ hw484_0)).trans hw484_0)⟩ (fun hHeld => ?_); refine with_tabW impl_LoseDisk.tab9 impl_LoseDisk.bits9 (fun HT_ HW_ => ?_); generalize w34.drew = w35 at HO_482000 BK475 BK476 BK481 BK483 HB hx484_0 hHeld ⊢; refine pV 0 30 (OB 11 1) ?_; refine pV 1 31 (OB 11 3) ?_; refine pV 2 32 (OB 11 7) ?_; refine pV 3 33 (OB 11 15) ?_; refine pV 5 35 (OB 11 47) ?_; refine pT 4 34 (OB 11 63) ?_; refine pT 6 36 (OB 11 127) ?_; refine pV 7 37 (OB 11 255) ?_; refine pV 8 38 (OB 11 511) ?_; refine pV 9 39 (OB 11 1023) ?_; refine pV 10 9 (OB 11 2047) ?_; refine done_ (done_of HT_.out (by kernel_rfl)) ?_
   try go_wp2
   replace HO_482000 := DR HO_482000; replace BK475 := BD BK475; replace BK476 := BD BK476; replace BK481 := BD BK481; replace BK483 := BD BK483; replace HB := Aside0.mk (below_drew1 HB.out); have p28 : 0 ≤ (x19_1 : Int) := of_decide_eq_true AS; have q28 : (x19_1 : Int) < ((x482000_1.length : Int) : Int) := of_decide_eq_true AS; obtain ⟨go28, co28, eo28, gb28, gl28, cl28, HG28⟩ := Kd.R_form HO_482000.out (by omega)
   (first | cases eo28 | (injection eo28 with ea_ en_ ec_; (first | subst ea_ | (injection ea_ with ea_; subst ea_)); subst ec_; clear en_))
   have GB28 := Aside0.mk gb28; have GG28 := Aside0.mk HG28; clear gb28 gl28 HG28; obtain ⟨ce28, hcl28, hM28, hcc28, hfr28⟩ := Kd.R_elem HO_482000.out z45 (x19_1 : Int) p28 q28; obtain rfl := k45_openM hM28; have hx28_0 : World.cell? _ ⟨go28, (x19_1 : Int).toNat * 3, none⟩ = some (.string ((rd_T45 x482000_1 x19_1).f0)) := hcc28 0 _ rfl; have hx28_1 : World.cell? _ ⟨go28, (x19_1 : Int).toNat * 3 + 1, none⟩ = some (.string ((rd_T45 x482000_1 x19_1).f1)) := hcc28 1 _ rfl; have hx28_2 : World.cell? _ ⟨go28, (x19_1 : Int).toNat * 3 + 2, none⟩ = some (.int .i64 ((rd_T45 x482000_1 x19_1).f2)) := hcc28 2 _ rfl; have hf28_0 : World.frozen? _ ⟨go28, (x19_1 : Int).toNat * 3, none⟩ = false := hfr28 0; have hf28_1 : World.frozen? _ ⟨go28, (x19_1 : Int).toNat * 3 + 1, none⟩ = false := hfr28 1; have hf28_2 : World.frozen? _ ⟨go28, (x19_1 : Int).toNat * 3 + 2, none⟩ = false := hfr28 2; clear hcl28 hcc28 hfr28 hM28; replace p28 := eq_true p28; replace q28 := eq_true q28; obtain ⟨ce37, hcl37, hM37, hcc37, hfr37⟩ := Kd.R_elem HO_482000.out z45 (x19_1 : Int) (of_decide_eq_true AS) (by have h_ : (x19_1 : Int) < ((x482000_1.length : Int) : Int) := of_decide_eq_true AS; first | exact h_ | (have e_ := (Kd.R_reads' HO_482000.out).1; omega) | simpa using h_); obtain rfl := k45_openM hM37; have HP37 := (Kd.R_seg HO_482000.out (x19_1 : Int) (of_decide_eq_true AS) (by have h_ : (x19_1 : Int) < ((x482000_1.length : Int) : Int) := of_decide_eq_true AS; first | exact h_ | (have e_ := (Kd.R_reads' HO_482000.out).1; omega) | simpa using h_) (seg := [.string ((rd_T45 l0_0 x19_1).f0), .string (((rd_T45 l0_0 x19_1).f1).extract 0 ((ji24) : Int).toNat), .int .i64 ji24]) (j := 0) hcl37 hcc37 (show 3 ≤ 3 from by decide) (x' := (⟨(rd_T45 l0_0 x19_1).f0, ((rd_T45 l0_0 x19_1).f1).extract 0 ((ji24) : Int).toNat, ji24⟩ : S45)) (k45_mkM _ _ _ (⟨(rd_T45 l0_0 x19_1).f0, ((rd_T45 l0_0 x19_1).f1).extract 0 ((ji24) : Int).toNat, ji24⟩ : S45) ) (fun _ hk => hk)).1; rw [← Ny485.out] at HP37; have HQ37 := Aside0.mk HP37; clear hcl37 hcc37 hfr37 hM37 HP37; refine start_ (n := 13) (S := fun w' => w'.cell? ⟨gb481, 0, none⟩ = some (.slice (some ⟨go28, 0, none⟩) x482000_1.length co28) ∧ w'.cell? ⟨gb483, 0, none⟩ = some (.string ((rd_T45 l0_0 x19_1).f0)) ∧ w'.cell? ⟨gb483, 1, none⟩ = some (.string ((rd_T45 l0_0 x19_1).f1)) ∧ w'.cell? ⟨gb483, 2, none⟩ = some (.int .i64 ((rd_T45 l0_0 x19_1).f2))) (ds := [12]) #[false, false, false, false, false, false, false, false, false, false, false, false, false] (by kernel_rfl) rfl rfl ⟨CZ BK481.out 0, CZ BK483.out 0, CZ BK483.out 1, CZ BK483.out 2⟩ (fun hHeld => ?_); refine with_tabW impl_LoseDisk.tab10 impl_LoseDisk.bits10 (fun HT_ HW_ => ?_); generalize w35.drew = w36 at HO_482000 BK475 BK476 BK481 BK483 HB GG28 HQ37 hf28_0 hf28_1 hf28_2 hx28_0 hx28_1 hx28_2 hHeld ⊢; refine pV 0 40 (OB 13 1) ?_; refine pV 2 42 (OB 13 5) ?_; refine pV 3 43 (OB 13 13) ?_; refine pV 5 45 (OB 13 45) ?_; refine pV 7 47 (OB 13 173) ?_; refine pV 9 49 (OB 13 685) ?_; refine pT 1 41 (OB 13 687) ?_; refine pT 4 44 (OB 13 703) ?_; refine pT 6 46 (OB 13 767) ?_; refine pV 8 48 (OB 13 1023) ?_; refine pV 10 50 (OB 13 2047) ?_; refine pV 11 51 (OB 13 4095) ?_; refine last_ (i := 12) (N := none) #[true, true, true, true, true, true, true, true, true, true, true, true, true] rfl rfl (one_of HT_.out (by kernel_rfl)) (by decide) (fun K hK => ?_); refine skip_ (w1 := ?_) (by rfl) rfl ?_ ?_; rotate_left
   ·
    go_simp
    rfl
   refine hK.out _ _ ?_; clear hK K; refine done_ (done_of HT_.out (by kernel_rfl)) ?_
   try go_wp2
   go_roundg k1
   case measure => have := HK1.out; omega
   case rel => exact ⟨(wrap64 (x19_1 + 1)), (y485), (.slice (some ⟨go28, 0, none⟩) x482000_1.length co28), SD, H', ⟨by have := HK1.out; omega⟩, ⟨by (with_reducible repeat (first | apply r1 | apply r2 | apply r3)); exact Kd.R_mono HQ37.out (fun _ hk => trivial)⟩, ⟨by (with_reducible repeat (first | apply b1 | apply b2 | apply b3)); refine blk_far ?_ (by have h_ := Kd.R_ne HO_482000.out BK475.out (by decide); intro e_; exact h_ (by rw [e_]; rfl)) _; (with_reducible repeat (first | apply b1 | apply b2 | apply b3)); refine blk_far ?_ (by have h_ := Kd.R_ne HO_482000.out BK475.out (by decide); intro e_; exact h_ (by rw [e_]; rfl)) _; (with_reducible repeat (first | apply b1 | apply b2 | apply b3)); refine blk_far ?_ (by have h_ := Kd.R_ne HO_482000.out BK475.out (by decide); intro e_; exact h_ (by rw [e_]; rfl)) _; (with_reducible repeat (first | apply b1 | apply b2 | apply b3)); exact BK475.out⟩, ⟨by (with_reducible repeat (first | apply b1 | apply b2 | apply b3)); refine blk_far ?_ (by have h_ := Kd.R_ne HO_482000.out BK476.out (by decide); intro e_; exact h_ (by rw [e_]; rfl)) _; (with_reducible repeat (first | apply b1 | apply b2 | apply b3)); refine blk_far ?_ (by have h_ := Kd.R_ne HO_482000.out BK476.out (by decide); intro e_; exact h_ (by rw [e_]; rfl)) _; (with_reducible repeat (first | apply b1 | apply b2 | apply b3)); refine blk_far ?_ (by have h_ := Kd.R_ne HO_482000.out BK476.out (by decide); intro e_; exact h_ (by rw [e_]; rfl)) _; (with_reducible repeat (first | apply b1 | apply b2 | apply b3)); exact BK476.out⟩, ⟨by (with_reducible repeat (first | apply b1 | apply b2 | apply b3)); refine blk_far ?_ (by have h_ := Kd.R_ne HO_482000.out BK481.out (by decide); intro e_; exact h_ (by rw [e_]; rfl)) _; (with_reducible repeat (first | apply b1 | apply b2 | apply b3)); refine blk_far ?_ (by have h_ := Kd.R_ne HO_482000.out BK481.out (by decide); intro e_; exact h_ (by rw [e_]; rfl)) _; (with_reducible repeat (first | apply b1 | apply b2 | apply b3)); refine blk_far ?_ (by have h_ := Kd.R_ne HO_482000.out BK481.out (by decide); intro e_; exact h_ (by rw [e_]; rfl)) _; (with_reducible repeat (first | apply b1 | apply b2 | apply b3)); exact BK481.out⟩, ⟨impl_LoseDisk.k0 HB.out⟩⟩

/-! ### impl_CutActs: function 45 -/
def impl_CutActs.f (k : Nat) (l0_0 : List (S45)) (l1 : List (S55)) (a2 : Int) (l3 : List Int) : Option ((List (S45)) × Bool) := (impl_within.f a2 0 (l1.length : Int)).bind fun t489 => (if t489 = true then (if 0 ≤ a2 then (if a2 ≤ (l1.length : Int) then ((impl_DoActs.f k l0_0 (l1.take (a2 : Int).toNat)).bind fun bt494 => (if bt494.2 < a2 then (some (([] : List (S45)), false)) else ((impl_LoseDisk.f k bt494.1 l3).bind fun bt499 => (some (bt499.1, bt499.2))))) else (none)) else (none)) else (some (([] : List (S45)), false)))
def impl_CutActs.T3 : Bool × List (List Nat × List Nat) := (true, [([], []), ([], []), ([], []), ([1, 2], [1, 2]), ([0, 3], [0, 3]), ([4], [4]), ([5], [5]), ([5], [5]), ([], []), ([8, 6, 4, 0, 1, 2, 3, 4, 5, 6, 8], [6, 8]), ([7, 9, 0, 1, 2, 3, 4, 5, 6, 7, 8, 9], [7])])
def impl_CutActs.B3 : List Nat := [0, 0, 0, 6, 15, 31, 63, 63, 0, 383, 1023]
theorem impl_CutActs.tab3 : rtab .any (opsOf Try.f45 3) = impl_CutActs.T3 := by kernel_rfl
theorem impl_CutActs.bits3 : waitsOk impl_CutActs.T3.2 impl_CutActs.B3 = true := by kernel_rfl
set_option maxHeartbeats 8000000 in
set_option maxRecDepth 100000 in
theorem impl_CutActs.calls (k : Nat) (A0_0 : Option Addr) (c0_0 : Nat) (l0_0 : List (S45)) (A1 : Option Addr) (c1 : Nat) (l1 : List (S55)) (a2 : Int) (A3 : Option Addr) (c3 : Nat) (l3 : List Int) (r1 : List (S45)) (r2 : Bool) (w : World) (hr0_0 : Kd.C k45 w A0_0 l0_0.length l0_0) (hc0_0 : l0_0.length ≤ c0_0) (hr1 : Kd.C k55 w A1 l1.length l1) (hc1 : l1.length ≤ c1) (hr3 : Kd.C (Kd.int .i64) w A3 l3.length l3) (hc3 : l3.length ≤ c3) (h : impl_CutActs.f k l0_0 l1 a2 l3 = some (r1, r2)) :
  Calls Try.prog 45 #[.agg #[.slice A0_0 l0_0.length c0_0], .slice A1 l1.length c1, .int .i64 a2, .slice A3 l3.length c3] w fun e w' => ∃ v0_ : Value, e = .returned (.tuple #[.agg #[v0_], .bool r2]) ∧ Kd.R k45 45 w' w.heap.size (fun _ => True) v0_ r1 ∧ Below w.heap.size w w' := by
 have hu29 := Try.underlying29
 have HR0_0 := Aside0.mk hr0_0
 have HC0_0 := Aside0.mk hc0_0
 clear hr0_0 hc0_0
 have HR1 := Aside0.mk hr1
 have HC1 := Aside0.mk hc1
 clear hr1 hc1
 have HR3 := Aside0.mk hr3
 have HC3 := Aside0.mk hc3
 clear hr3 hc3
 have HB := Aside0.mk (Below.refl w.heap.size w)
 have H : ((impl_within.f a2 0 (l1.length : Int)).bind fun t489 => (if t489 = true then (if 0 ≤ a2 then (if a2 ≤ (l1.length : Int) then ((impl_DoActs.f k l0_0 (l1.take (a2 : Int).toNat)).bind fun bt494 => (if bt494.2 < a2 then (some (([] : List (S45)), false)) else ((impl_LoseDisk.f k bt494.1 l3).bind fun bt499 => (some (bt499.1, bt499.2))))) else (none)) else (none)) else (some (([] : List (S45)), false)))) = some (r1, r2) := h
 clear h
 replace H := Option.bind_eq_some_iff.mp H
 obtain ⟨t489, A50, H⟩ := H
 have A5 := Aside0.mk A50
 clear A50
 by_cases c6 : t489 = true; rotate_left
 ·
  replace c6 := Bool.eq_false_iff.mpr c6; subst c6
  rw [if_neg (show ¬ (false = true) by decide)] at H; simp only [Option.some.injEq, Prod.mk.injEq] at H; obtain ⟨rfl, rfl⟩ := H
  go_enter Try.func45, Try.ntmps45
  go_wp2_with (first | ((with_reducible refine gate_dst (N := 4) rfl ?_); refine bE 4 #[.slice A0_0 l0_0.length c0_0] 29 ?_; intro gb487 hg w40 hbox hb; have BK487 := Aside0.mk (hbox); have GW487 : Aside0 (w.heap.size ≤ gb487) := GS; have GE487 := GW487; replace HB := BS hb; clear hb hbox hg) | ((with_reducible refine gate_dst (N := 8) rfl ?_); refine bE 8 #[.slice none 0 0] 29 ?_; intro gb488 hg w41 hbox hb; have BK488 := Aside0.mk (hbox); have GW488 : Aside0 (w.heap.size ≤ gb488) := GS; have GE488 := GW488; have NB487_488 := NL BK487.out hg; have NB488_487 := NG BK487.out hg; replace BK487 := BB BK487.out hb; replace HB := BS hb; clear hb hbox hg) | ((with_reducible refine gate_callee (f := 51) rfl ?_); refine goesL_ (some 15) rfl rfl Try.func51 (by kernel_rfl) rfl #[.int .i64 a2, .int .i64 0, .int .i64 (l1.length : Int)] rfl (MA) ?_; (with_reducible refine (impl_within.calls a2 0 (l1.length : Int) false _ A5.out).mono ?_); rintro e w' ⟨rfl, ⟨nd, rfl⟩⟩; refine ⟨_, rfl, ?_⟩; (try (rw [drewN_self w41]; generalize hq_ : World.drewN w41 _ = w41; have n0_ : Aside0 (w41.heap[gb487]? = some (.cells #[.slice A0_0 l0_0.length c0_0] 29 (0, 0))) := ⟨by rw [← hq_]; exact (BQ BK487.out)⟩; have n1_ : Aside0 (w41.heap[gb488]? = some (.cells #[.slice none 0 0] 29 (0, 0))) := ⟨by rw [← hq_]; exact (BQ BK488.out)⟩; have n2_ : Aside0 (Below w.heap.size w w41) := ⟨by rw [← hq_]; exact (BL)⟩; clear BK487 BK488 HB hq_; have BK487 := n0_; have BK488 := n1_; have HB := n2_; clear n0_ n1_ n2_)); obtain ⟨hnb42, hnc42⟩ := NN NB488_487.out; obtain ⟨hcz43_0, hfz43_0⟩ := KC1 BK488.out))
  refine bodyPost_ret (results_ct rfl _ _ gb488 29 #[.slice none 0 0] (0, 0) _ rfl (BU BK488.out) Try.underlying29 rfl (by kernel_rfl)) rfl ?_; exact ⟨_, EE, by first | exact Kd.R_nil _ _ _ _ _ | exact Kd.N_nil _ _ _ _ _ | exact Kd.V_nil _ _ _ _ _ | exact Kd.Q_nil _ _ _ _ _ | exact Kd.S_nil _ _ _ _ _, BL⟩
 subst c6
 have H1 : (if 0 ≤ a2 then (if a2 ≤ (l1.length : Int) then ((impl_DoActs.f k l0_0 (l1.take (a2 : Int).toNat)).bind fun bt494 => (if bt494.2 < a2 then (some (([] : List (S45)), false)) else ((impl_LoseDisk.f k bt494.1 l3).bind fun bt499 => (some (bt499.1, bt499.2))))) else (none)) else (none)) = some (r1, r2) := by rw [if_pos rfl] at H; exact H
 clear H
 have H := H1
 clear H1
 by_cases c7 : 0 ≤ a2; rotate_left
 ·
  rw [if_neg c7] at H; exact absurd H (by simp)
 rw [if_pos c7] at H
 have c7b0 := eq_true c7
 have c7b1 : decide (0 ≤ a2) = true := decide_eq_true c7
 clear c7
 by_cases c8 : a2 ≤ (l1.length : Int); rotate_left
 ·
  rw [if_neg c8] at H; exact absurd H (by simp)
 rw [if_pos c8] at H
 have c8b0 := eq_true c8
 have c8b1 : decide (a2 ≤ (l1.length : Int)) = true := decide_eq_true c8
 clear c8
 obtain ⟨y490, hy490⟩ : ∃ y_ : List (S55), y_ = (l1.take (a2 : Int).toNat) := ⟨_, rfl⟩
 replace H : ((impl_DoActs.f k l0_0 y490).bind fun bt494 => (if bt494.2 < a2 then (some (([] : List (S45)), false)) else ((impl_LoseDisk.f k bt494.1 l3).bind fun bt499 => (some (bt499.1, bt499.2))))) = some (r1, r2) := by first | (rw [hy490]; with_reducible exact H) | (have H2_ := (Option.bind_some _ _).symm.trans H; rw [hy490]; with_reducible exact H2_) | (have H2_ := (Option.bind_some _ _).symm.trans H; with_reducible exact H2_) | with_reducible exact H | (rw [hy490]; exact H) | exact H
 have Ny490 := Aside0.mk hy490
 clear hy490
 replace H := Option.bind_eq_some_iff.mp H
 obtain ⟨⟨t494, t497⟩, A90, H⟩ := H
 replace H : (if t497 < a2 then (some (([] : List (S45)), false)) else ((impl_LoseDisk.f k t494 l3).bind fun bt499 => (some (bt499.1, bt499.2)))) = some (r1, r2) := H
 have A9 := Aside0.mk A90
 clear A90
 by_cases c10 : t497 < a2
 ·
  rw [if_pos c10] at H; have c10b0 : decide (t497 < a2) = true := decide_eq_true c10; clear c10; simp only [Option.some.injEq, Prod.mk.injEq] at H; obtain ⟨rfl, rfl⟩ := H
  go_enter Try.func45, Try.ntmps45
  try go_wp2_with (first | ((with_reducible refine gate_dst (N := 4) rfl ?_); refine bE 4 #[.slice A0_0 l0_0.length c0_0] 29 ?_; intro gb487 hg w11 hbox hb; have BK487 := Aside0.mk (hbox); have GW487 : Aside0 (w.heap.size ≤ gb487) := GS; have GE487 := GW487; replace HB := BS hb; clear hb hbox hg) | ((with_reducible refine gate_dst (N := 8) rfl ?_); refine bE 8 #[.slice none 0 0] 29 ?_; intro gb488 hg w12 hbox hb; have BK488 := Aside0.mk (hbox); have GW488 : Aside0 (w.heap.size ≤ gb488) := GS; have GE488 := GW488; have NB487_488 := NL BK487.out hg; have NB488_487 := NG BK487.out hg; replace BK487 := BB BK487.out hb; replace HB := BS hb; clear hb hbox hg) | ((with_reducible refine gate_callee (f := 51) rfl ?_); refine goesL_ (some 15) rfl rfl Try.func51 (by kernel_rfl) rfl #[.int .i64 a2, .int .i64 0, .int .i64 (l1.length : Int)] rfl (MA) ?_; (with_reducible refine (impl_within.calls a2 0 (l1.length : Int) true _ A5.out).mono ?_); rintro e w' ⟨rfl, ⟨nd, rfl⟩⟩; refine ⟨_, rfl, ?_⟩; (try (rw [drewN_self w12]; generalize hq_ : World.drewN w12 _ = w12; have n0_ : Aside0 (w12.heap[gb487]? = some (.cells #[.slice A0_0 l0_0.length c0_0] 29 (0, 0))) := ⟨by rw [← hq_]; exact (BQ BK487.out)⟩; have n1_ : Aside0 (w12.heap[gb488]? = some (.cells #[.slice none 0 0] 29 (0, 0))) := ⟨by rw [← hq_]; exact (BQ BK488.out)⟩; have n2_ : Aside0 (Below w.heap.size w w12) := ⟨by rw [← hq_]; exact (BL)⟩; clear BK487 BK488 HB hq_; have BK487 := n0_; have BK488 := n1_; have HB := n2_; clear n0_ n1_ n2_))))
  replace BK487 := BD BK487; replace BK488 := BD BK488; replace HB := Aside0.mk (below_drew1 HB.out); have q14 : (a2 : Int) ≤ ((l1.length : Int) : Int) := of_decide_eq_true AS; obtain ⟨i014, hi014, _, hsz14, _⟩ := info_parts info55; have hroom14 : l1.length ≤ c1 := HC1.out; have hC14 : Kd.C k55 _ A1 l1.length l1 := HR1.out; have hcut14 := cut_to (P := Try.prog) 62 55 .i64 Try.underlying62 hi014 A1 l1.length c1 a2 (of_decide_eq_true AS) q14 hroom14; have hr14 := Kd.C_take (m := (a2 : Int).toNat) hC14 (by omega); have hy14 : y490.length = (a2 : Int).toNat := (by rw [Ny490.out, List.length_take]; omega); rw [← Ny490.out] at hr14; rw [← hy14] at hcut14; have HR493 := Aside0.mk hr14; have HC493 := Aside0.mk (show y490.length ≤ c1 from by omega); clear hr14 hC14 hroom14 hi014 hsz14; have KY14 := Aside0.mk hy14; clear hy14; replace q14 := eq_true q14; refine start_ (n := 11) (S := fun w' => w'.cell? ⟨gb487, 0, none⟩ = some (.slice A0_0 l0_0.length c0_0)) (ds := []) #[false, false, false, false, false, false, false, false, false, false, false] (by kernel_rfl) rfl rfl (CZ BK487.out 0) (fun hHeld => ?_); refine with_tabW impl_CutActs.tab3 impl_CutActs.bits3 (fun HT_ HW_ => ?_); generalize w12.drew = w13 at BK487 BK488 HB HR493 hHeld ⊢; refine pV 1 20 (OB 11 2) ?_; refine pV 2 21 (OB 11 6) ?_; refine pV 3 22 (OB 11 14) ?_; refine take_ (i := 0) (N := some 19) (v := ?_) (a' := ?_) (OB 11 15) rfl rfl (take_ofW HT_.out HW_.out (by kernel_rfl)) (fun _ _ _ h => h) (Or.inl ⟨by rfl, ?_⟩) hHeld ?_ ?_; rotate_left
  ·
   intro w' s0
   go_simp
   with_reducible rfl
  rotate_left
  ·
   simp only [Act.put, zA, zB, zC, i64_w, i32_w]; rfl
  refine join_ (σ := Value × Nat) 2 #[true, true, true, true, true, true, true, true, true, false, false] (fun s_ => [(23, .tuple #[.agg #[s_.1], .int .i64 t497]), (10, .pointer (some ⟨s_.2, 0, none⟩)), (18, .tuple #[.agg #[s_.1], .int .i64 t497]), (24, .agg #[s_.1]), (25, .int .i64 t497)]) (fun s_ w' => (w'.cell? ⟨gb487, 0, none⟩ = some (.slice A0_0 l0_0.length c0_0)) ∧ (Kd.R k45 45 w' w.heap.size (fun _ => True) s_.1 t494) ∧ (w'.heap[gb487]? = some (.cells #[.slice A0_0 l0_0.length c0_0] 29 (0, 0))) ∧ (w'.heap[gb488]? = some (.cells #[.slice none 0 0] 29 (0, 0))) ∧ (w'.heap[s_.2]? = some (.cells #[.slice none 0 0] 29 (0, 0))) ∧ (w.heap.size ≤ s_.2) ∧ (w.heap.size ≤ s_.2) ∧ (gb487 ≠ s_.2) ∧ (s_.2 ≠ gb487) ∧ (gb488 ≠ s_.2) ∧ (s_.2 ≠ gb488) ∧ (Below w.heap.size w w')) ?_ ?_; rotate_left
  ·
   intro hCont; refine two_ (i := 4) (j := 8) (Ni := some 23) (Nj := some 10) #[true, true, true, true, true, false, false, false, false, false, false] #[true, true, true, true, false, false, false, false, true, false, false] rfl rfl rfl rfl (two_of HT_.out (by kernel_rfl)) (by decide) (by decide) (fun K hK => ?_) (fun K hK => ?_)
   ·
    skip
    refine goes_ Try.func41 (by kernel_rfl) rfl #[.agg #[.slice A0_0 l0_0.length c0_0], .slice A1 y490.length c1] (by rfl) rfl rfl (MA) ?_
    with_reducible refine (impl_DoActs.calls k _ _ l0_0 _ _ y490 t494 t497 _ ?side1 ?side2 ?side3 ?side4 A9.out).mono ?_
    (case side1 => exact CB HR0_0.out)
    (case side2 => exact HC0_0.out)
    (case side3 => exact CB HR493.out)
    (case side4 => exact HC493.out)
    rintro e w15 ⟨v495, rfl, ho0, hb⟩; refine ⟨_, rfl, ?_⟩; have n0_ := Aside0.mk (Kd.R_lower ho0 (below_size (BL))); have n1_ := BB BK487.out hb; have n2_ := BB BK488.out hb; have n3_ := Aside0.mk (below_step (BL) hb); clear BK487 BK488 HB; have HO496 := n0_; have BK487 := n1_; have BK488 := n2_; have HB := n3_; clear n0_ n1_ n2_ n3_
    (try clear hb)
    (try clear hb2)
    (try clear hk)
    (try clear hi)
    (try clear ho0)
    refine hK.out _ _ (CZ BK487.out 0) (fun hHeld => ?_); clear hK K; refine norm_ (a' := ?_) ?_ ?_; rotate_left
    ·
     show Act.put _ (some 23) _ = _; simp only [Act.put, zA, zB, zC, i64_w, i32_w]; rfl
    refine pV 5 18 (OB 11 63) ?_; refine pV 6 24 (OB 11 127) ?_; refine pV 7 25 (OB 11 255) ?_; refine one_ (i := 8) (N := some 10) (OB 11 511) rfl rfl (one_of HT_.out (by kernel_rfl)) (by decide) (fun K hK => ?_); refine box_step ?hg (N := 10) ?hd (cs := #[.slice none 0 0]) (t := 29) ?hr ?_; (case hd => rfl); (case hg => rfl); (case hr => first | (go_simp; done) | (go_simp; rfl)); intro gb498 hg w16 hbox hb; replace HO496 := RB HO496 hb; have n1_ := BB BK487.out hb; have n2_ := BB BK488.out hb; have n3_ := Aside0.mk (below_step (BL) hb); have BK498 := Aside0.mk (hbox); have GW498 : Aside0 (w.heap.size ≤ gb498) := GS; have GE498 : Aside0 (w.heap.size ≤ gb498) := GS; have NB487_498 := NL BK487.out hg; have NB498_487 := NG BK487.out hg; have NB488_498 := NL BK488.out hg; have NB498_488 := NG BK488.out hg; clear BK487 BK488 HB; have BK487 := n1_; have BK488 := n2_; have HB := n3_; clear n1_ n2_ n3_ hb hbox hg; refine hK.out _ _ (CZ BK487.out 0) (fun hHeld => ?_); clear hK K; refine norm_ (a' := ?_) ?_ ?_; rotate_left
    ·
     show Act.put _ (some 10) _ = _; simp only [Act.put, zA, zB, zC, i64_w, i32_w]; rfl
    exact norm_ (by simp only [putAll, Act.put, zA, zB, zC]) (hCont (v495, gb498) _ ⟨hHeld, (RQ HO496.out), (BQ BK487.out), (BQ BK488.out), (BQ BK498.out), GW498.out, GE498.out, NB487_498.out, NB498_487.out, NB488_498.out, NB498_488.out, (BL)⟩)
   ·
    skip
    refine box_step ?hg (N := 10) ?hd (cs := #[.slice none 0 0]) (t := 29) ?hr ?_; (case hd => rfl); (case hg => rfl); (case hr => first | (go_simp; done) | (go_simp; rfl)); intro gb498 hg w15 hbox hb; have n0_ := BB BK487.out hb; have n1_ := BB BK488.out hb; have n2_ := Aside0.mk (below_step (BL) hb); have BK498 := Aside0.mk (hbox); have GW498 : Aside0 (w.heap.size ≤ gb498) := GS; have GE498 : Aside0 (w.heap.size ≤ gb498) := GS; have NB487_498 := NL BK487.out hg; have NB498_487 := NG BK487.out hg; have NB488_498 := NL BK488.out hg; have NB498_488 := NG BK488.out hg; clear BK487 BK488 HB; have BK487 := n0_; have BK488 := n1_; have HB := n2_; clear n0_ n1_ n2_ hb hbox hg; refine hK.out _ _ (CZ BK487.out 0) (fun hHeld => ?_); clear hK K; refine norm_ (a' := ?_) ?_ ?_; rotate_left
    ·
     show Act.put _ (some 10) _ = _; simp only [Act.put, zA, zB, zC, i64_w, i32_w]; rfl
    refine one_ (i := 4) (N := some 23) (OB 11 287) rfl rfl (one_of HT_.out (by kernel_rfl)) (by decide) (fun K hK => ?_); refine goes_ Try.func41 (by kernel_rfl) rfl #[.agg #[.slice A0_0 l0_0.length c0_0], .slice A1 y490.length c1] (by rfl) rfl rfl (MA) ?_
    with_reducible refine (impl_DoActs.calls k _ _ l0_0 _ _ y490 t494 t497 _ ?side1 ?side2 ?side3 ?side4 A9.out).mono ?_
    (case side1 => exact CB HR0_0.out)
    (case side2 => exact HC0_0.out)
    (case side3 => exact CB HR493.out)
    (case side4 => exact HC493.out)
    rintro e w16 ⟨v495, rfl, ho0, hb⟩; refine ⟨_, rfl, ?_⟩; have n0_ := Aside0.mk (Kd.R_lower ho0 (below_size (BL))); have n1_ := BB BK487.out hb; have n2_ := BB BK488.out hb; have n3_ := BB BK498.out hb; have n4_ := Aside0.mk (below_step (BL) hb); clear BK487 BK488 BK498 HB; have HO496 := n0_; have BK487 := n1_; have BK488 := n2_; have BK498 := n3_; have HB := n4_; clear n0_ n1_ n2_ n3_ n4_
    (try clear hb)
    (try clear hb2)
    (try clear hk)
    (try clear hi)
    (try clear ho0)
    refine hK.out _ _ (CZ BK487.out 0) (fun hHeld => ?_); clear hK K; refine norm_ (a' := ?_) ?_ ?_; rotate_left
    ·
     show Act.put _ (some 23) _ = _; simp only [Act.put, zA, zB, zC, i64_w, i32_w]; rfl
    refine pV 5 18 (OB 11 319) ?_; refine pV 6 24 (OB 11 383) ?_; refine pV 7 25 (OB 11 511) ?_; exact norm_ (by simp only [putAll, Act.put, zA, zB, zC]) (hCont (v495, gb498) _ ⟨hHeld, (RQ HO496.out), (BQ BK487.out), (BQ BK488.out), (BQ BK498.out), GW498.out, GE498.out, NB487_498.out, NB498_487.out, NB488_498.out, NB498_488.out, (BL)⟩)
  rintro ⟨v495, gb498⟩ w17 ⟨hS_, h0_, h1_, h2_, h3_, h4_, h5_, h6_, h7_, h8_, h9_, h10_⟩; have HO496 : Aside0 (Kd.R k45 45 w17 w.heap.size (fun _ => True) v495 t494) := ⟨h0_⟩; replace BK487 : Aside0 (w17.heap[gb487]? = some (.cells #[.slice A0_0 l0_0.length c0_0] 29 (0, 0))) := ⟨h1_⟩; replace BK488 : Aside0 (w17.heap[gb488]? = some (.cells #[.slice none 0 0] 29 (0, 0))) := ⟨h2_⟩; have BK498 : Aside0 (w17.heap[gb498]? = some (.cells #[.slice none 0 0] 29 (0, 0))) := ⟨h3_⟩; have GW498 : Aside0 (w.heap.size ≤ gb498) := ⟨h4_⟩; have GE498 : Aside0 (w.heap.size ≤ gb498) := ⟨h5_⟩; have NB487_498 : Aside0 (gb487 ≠ gb498) := ⟨h6_⟩; have NB498_487 : Aside0 (gb498 ≠ gb487) := ⟨h7_⟩; have NB488_498 : Aside0 (gb488 ≠ gb498) := ⟨h8_⟩; have NB498_488 : Aside0 (gb498 ≠ gb488) := ⟨h9_⟩; replace HB : Aside0 (Below w.heap.size w w17) := ⟨h10_⟩; clear h0_ h1_ h2_ h3_ h4_ h5_ h6_ h7_ h8_ h9_ h10_; have hHeld : w17.cell? ⟨gb487, 0, none⟩ = some (.slice A0_0 l0_0.length c0_0) := hS_; obtain ⟨Ao18, co18, eo18⟩ := Kd.R_slice HO496.out
  (first | subst eo18 | (injection eo18 with f1_ f2_ f3_; have f4_ := f1_.symm; have f5_ := f3_.symm; clear f1_ f2_ f3_; subst f4_; subst f5_))
  refine norm_ (a' := ?_) ?_ ?_; rotate_left
  ·
   simp only [putAll, Act.put, zA, zB, zC]; rfl
  refine one_ (i := 9) (N := none) (OB 11 1023) rfl rfl (one_of HT_.out (by kernel_rfl)) (by decide) (fun K hK => ?_); have hs19 : w17.cell? ⟨gb498, 0, none⟩ = some (.slice none 0 0) := CZ BK498.out 0; have hfs19 := blk_frozen BK498.out 0; have hns19_0 := NB487_498.out; have hns19_1 := NB488_498.out; have hms19_0 := NB498_487.out; have hms19_1 := NB498_488.out; refine skip_ (w1 := ?_) (by rfl) rfl ?_ ?_; rotate_left
  ·
   go_simp
   rfl
  refine hK.out _ _ (((cell_far (p := ⟨gb498, _, none⟩) NB487_498.out _).trans (hHeld))) (fun hHeld => ?_); clear hK K; refine pV 10 11 (OB 11 2047) ?_; refine done_ (done_of HT_.out (by kernel_rfl)) ?_; obtain ⟨hnb20, hnc20⟩ := NN NB488_487.out; obtain ⟨hnb21, hnc21⟩ := NN NB488_498.out; obtain ⟨hcz22_0, hfz22_0⟩ := KC1 BK488.out
  try go_wp2
  refine bodyPost_ret (results_ct rfl _ _ gb488 29 #[.slice none 0 0] (0, 0) _ rfl (BU BK488.out) Try.underlying29 rfl (by kernel_rfl)) rfl ?_; exact ⟨_, EE, by first | exact Kd.R_nil _ _ _ _ _ | exact Kd.N_nil _ _ _ _ _ | exact Kd.V_nil _ _ _ _ _ | exact Kd.Q_nil _ _ _ _ _ | exact Kd.S_nil _ _ _ _ _, BL⟩
 rw [if_neg c10] at H
 have c10b0 : decide (t497 < a2) = false := decide_eq_false c10
 clear c10
 replace H := Option.bind_eq_some_iff.mp H
 obtain ⟨⟨t499, t502⟩, A230, H⟩ := H
 replace H : (some (t499, t502)) = some (r1, r2) := H
 have A23 := Aside0.mk A230
 clear A230
 simp only [Option.some.injEq, Prod.mk.injEq] at H
 obtain ⟨rfl, rfl⟩ := H
 go_enter Try.func45, Try.ntmps45
 try go_wp2_with (first | ((with_reducible refine gate_dst (N := 4) rfl ?_); refine bE 4 #[.slice A0_0 l0_0.length c0_0] 29 ?_; intro gb487 hg w24 hbox hb; have BK487 := Aside0.mk (hbox); have GW487 : Aside0 (w.heap.size ≤ gb487) := GS; have GE487 := GW487; replace HB := BS hb; clear hb hbox hg) | ((with_reducible refine gate_dst (N := 8) rfl ?_); refine bE 8 #[.slice none 0 0] 29 ?_; intro gb488 hg w25 hbox hb; have BK488 := Aside0.mk (hbox); have GW488 : Aside0 (w.heap.size ≤ gb488) := GS; have GE488 := GW488; have NB487_488 := NL BK487.out hg; have NB488_487 := NG BK487.out hg; replace BK487 := BB BK487.out hb; replace HB := BS hb; clear hb hbox hg) | ((with_reducible refine gate_callee (f := 51) rfl ?_); refine goesL_ (some 15) rfl rfl Try.func51 (by kernel_rfl) rfl #[.int .i64 a2, .int .i64 0, .int .i64 (l1.length : Int)] rfl (MA) ?_; (with_reducible refine (impl_within.calls a2 0 (l1.length : Int) true _ A5.out).mono ?_); rintro e w' ⟨rfl, ⟨nd, rfl⟩⟩; refine ⟨_, rfl, ?_⟩; (try (rw [drewN_self w25]; generalize hq_ : World.drewN w25 _ = w25; have n0_ : Aside0 (w25.heap[gb487]? = some (.cells #[.slice A0_0 l0_0.length c0_0] 29 (0, 0))) := ⟨by rw [← hq_]; exact (BQ BK487.out)⟩; have n1_ : Aside0 (w25.heap[gb488]? = some (.cells #[.slice none 0 0] 29 (0, 0))) := ⟨by rw [← hq_]; exact (BQ BK488.out)⟩; have n2_ : Aside0 (Below w.heap.size w w25) := ⟨by rw [← hq_]; exact (BL)⟩; clear BK487 BK488 HB hq_; have BK487 := n0_; have BK488 := n1_; have HB := n2_; clear n0_ n1_ n2_))))
 replace BK487 := BD BK487
 replace BK488 := BD BK488
 replace HB := Aside0.mk (below_drew1 HB.out)
 have q27 : (a2 : Int) ≤ ((l1.length : Int) : Int) := of_decide_eq_true AS
 obtain ⟨i027, hi027, _, hsz27, _⟩ := info_parts info55
 have hroom27 : l1.length ≤ c1 := HC1.out
 have hC27 : Kd.C k55 _ A1 l1.length l1 := HR1.out
 have hcut27 := cut_to (P := Try.prog) 62 55 .i64 Try.underlying62 hi027 A1 l1.length c1 a2 (of_decide_eq_true AS) q27 hroom27
 have hr27 := Kd.C_take (m := (a2 : Int).toNat) hC27 (by omega)
 have hy27 : y490.length = (a2 : Int).toNat := (by rw [Ny490.out, List.length_take]; omega)
 rw [← Ny490.out] at hr27
 rw [← hy27] at hcut27
 have HR493 := Aside0.mk hr27
 have HC493 := Aside0.mk (show y490.length ≤ c1 from by omega)
 clear hr27 hC27 hroom27 hi027 hsz27
 have KY27 := Aside0.mk hy27
 clear hy27
 replace q27 := eq_true q27
 refine start_ (n := 11) (S := fun w' => w'.cell? ⟨gb487, 0, none⟩ = some (.slice A0_0 l0_0.length c0_0)) (ds := []) #[false, false, false, false, false, false, false, false, false, false, false] (by kernel_rfl) rfl rfl (CZ BK487.out 0) (fun hHeld => ?_); refine with_tabW impl_CutActs.tab3 impl_CutActs.bits3 (fun HT_ HW_ => ?_)
 generalize w25.drew = w26 at BK487 BK488 HB HR493 hHeld ⊢
 refine pV 1 20 (OB 11 2) ?_
 refine pV 2 21 (OB 11 6) ?_
 refine pV 3 22 (OB 11 14) ?_
 refine take_ (i := 0) (N := some 19) (v := ?_) (a' := ?_) (OB 11 15) rfl rfl (take_ofW HT_.out HW_.out (by kernel_rfl)) (fun _ _ _ h => h) (Or.inl ⟨by rfl, ?_⟩) hHeld ?_ ?_
 rotate_left
 ·
  intro w' s0
  go_simp
  with_reducible rfl
 rotate_left
 ·
  simp only [Act.put, zA, zB, zC, i64_w, i32_w]; rfl
 refine join_ (σ := Value × Nat) 2 #[true, true, true, true, true, true, true, true, true, false, false] (fun s_ => [(23, .tuple #[.agg #[s_.1], .int .i64 t497]), (10, .pointer (some ⟨s_.2, 0, none⟩)), (18, .tuple #[.agg #[s_.1], .int .i64 t497]), (24, .agg #[s_.1]), (25, .int .i64 t497)]) (fun s_ w' => (w'.cell? ⟨gb487, 0, none⟩ = some (.slice A0_0 l0_0.length c0_0)) ∧ (Kd.R k45 45 w' w.heap.size (fun _ => True) s_.1 t494) ∧ (w'.heap[gb487]? = some (.cells #[.slice A0_0 l0_0.length c0_0] 29 (0, 0))) ∧ (w'.heap[gb488]? = some (.cells #[.slice none 0 0] 29 (0, 0))) ∧ (w'.heap[s_.2]? = some (.cells #[.slice none 0 0] 29 (0, 0))) ∧ (w.heap.size ≤ s_.2) ∧ (w.heap.size ≤ s_.2) ∧ (gb487 ≠ s_.2) ∧ (s_.2 ≠ gb487) ∧ (gb488 ≠ s_.2) ∧ (s_.2 ≠ gb488) ∧ (Below w.heap.size w w')) ?_ ?_
 rotate_left
 ·
  intro hCont; refine two_ (i := 4) (j := 8) (Ni := some 23) (Nj := some 10) #[true, true, true, true, true, false, false, false, false, false, false] #[true, true, true, true, false, false, false, false, true, false, false] rfl rfl rfl rfl (two_of HT_.out (by kernel_rfl)) (by decide) (by decide) (fun K hK => ?_) (fun K hK => ?_)
  ·
   skip
   refine goes_ Try.func41 (by kernel_rfl) rfl #[.agg #[.slice A0_0 l0_0.length c0_0], .slice A1 y490.length c1] (by rfl) rfl rfl (MA) ?_
   with_reducible refine (impl_DoActs.calls k _ _ l0_0 _ _ y490 t494 t497 _ ?side1 ?side2 ?side3 ?side4 A9.out).mono ?_
   (case side1 => exact CB HR0_0.out)
   (case side2 => exact HC0_0.out)
   (case side3 => exact CB HR493.out)
   (case side4 => exact HC493.out)
   rintro e w28 ⟨v495, rfl, ho0, hb⟩; refine ⟨_, rfl, ?_⟩; have n0_ := Aside0.mk (Kd.R_lower ho0 (below_size (BL))); have n1_ := BB BK487.out hb; have n2_ := BB BK488.out hb; have n3_ := Aside0.mk (below_step (BL) hb); clear BK487 BK488 HB; have HO496 := n0_; have BK487 := n1_; have BK488 := n2_; have HB := n3_; clear n0_ n1_ n2_ n3_
   (try clear hb)
   (try clear hb2)
   (try clear hk)
   (try clear hi)
   (try clear ho0)
   refine hK.out _ _ (CZ BK487.out 0) (fun hHeld => ?_); clear hK K; refine norm_ (a' := ?_) ?_ ?_; rotate_left
   ·
    show Act.put _ (some 23) _ = _; simp only [Act.put, zA, zB, zC, i64_w, i32_w]; rfl
   refine pV 5 18 (OB 11 63) ?_; refine pV 6 24 (OB 11 127) ?_; refine pV 7 25 (OB 11 255) ?_; refine one_ (i := 8) (N := some 10) (OB 11 511) rfl rfl (one_of HT_.out (by kernel_rfl)) (by decide) (fun K hK => ?_); refine box_step ?hg (N := 10) ?hd (cs := #[.slice none 0 0]) (t := 29) ?hr ?_; (case hd => rfl); (case hg => rfl); (case hr => first | (go_simp; done) | (go_simp; rfl)); intro gb498 hg w29 hbox hb; replace HO496 := RB HO496 hb; have n1_ := BB BK487.out hb; have n2_ := BB BK488.out hb; have n3_ := Aside0.mk (below_step (BL) hb); have BK498 := Aside0.mk (hbox); have GW498 : Aside0 (w.heap.size ≤ gb498) := GS; have GE498 : Aside0 (w.heap.size ≤ gb498) := GS; have NB487_498 := NL BK487.out hg; have NB498_487 := NG BK487.out hg; have NB488_498 := NL BK488.out hg; have NB498_488 := NG BK488.out hg; clear BK487 BK488 HB; have BK487 := n1_; have BK488 := n2_; have HB := n3_; clear n1_ n2_ n3_ hb hbox hg; refine hK.out _ _ (CZ BK487.out 0) (fun hHeld => ?_); clear hK K; refine norm_ (a' := ?_) ?_ ?_; rotate_left
   ·
    show Act.put _ (some 10) _ = _; simp only [Act.put, zA, zB, zC, i64_w, i32_w]; rfl
   exact norm_ (by simp only [putAll, Act.put, zA, zB, zC]) (hCont (v495, gb498) _ ⟨hHeld, (RQ HO496.out), (BQ BK487.out), (BQ BK488.out), (BQ BK498.out), GW498.out, GE498.out, NB487_498.out, NB498_487.out, NB488_498.out, NB498_488.out, (BL)⟩)
  ·
   skip
   refine box_step ?hg (N := 10) ?hd (cs := #[.slice none 0 0]) (t := 29) ?hr ?_; (case hd => rfl); (case hg => rfl); (case hr => first | (go_simp; done) | (go_simp; rfl)); intro gb498 hg w28 hbox hb; have n0_ := BB BK487.out hb; have n1_ := BB BK488.out hb; have n2_ := Aside0.mk (below_step (BL) hb); have BK498 := Aside0.mk (hbox); have GW498 : Aside0 (w.heap.size ≤ gb498) := GS; have GE498 : Aside0 (w.heap.size ≤ gb498) := GS; have NB487_498 := NL BK487.out hg; have NB498_487 := NG BK487.out hg; have NB488_498 := NL BK488.out hg; have NB498_488 := NG BK488.out hg; clear BK487 BK488 HB; have BK487 := n0_; have BK488 := n1_; have HB := n2_; clear n0_ n1_ n2_ hb hbox hg; refine hK.out _ _ (CZ BK487.out 0) (fun hHeld => ?_); clear hK K; refine norm_ (a' := ?_) ?_ ?_; rotate_left
   ·
    show Act.put _ (some 10) _ = _; simp only [Act.put, zA, zB, zC, i64_w, i32_w]; rfl
   refine one_ (i := 4) (N := some 23) (OB 11 287) rfl rfl (one_of HT_.out (by kernel_rfl)) (by decide) (fun K hK => ?_); refine goes_ Try.func41 (by kernel_rfl) rfl #[.agg #[.slice A0_0 l0_0.length c0_0], .slice A1 y490.length c1] (by rfl) rfl rfl (MA) ?_
   with_reducible refine (impl_DoActs.calls k _ _ l0_0 _ _ y490 t494 t497 _ ?side1 ?side2 ?side3 ?side4 A9.out).mono ?_
   (case side1 => exact CB HR0_0.out)
   (case side2 => exact HC0_0.out)
   (case side3 => exact CB HR493.out)
   (case side4 => exact HC493.out)
   rintro e w29 ⟨v495, rfl, ho0, hb⟩; refine ⟨_, rfl, ?_⟩; have n0_ := Aside0.mk (Kd.R_lower ho0 (below_size (BL))); have n1_ := BB BK487.out hb; have n2_ := BB BK488.out hb; have n3_ := BB BK498.out hb; have n4_ := Aside0.mk (below_step (BL) hb); clear BK487 BK488 BK498 HB; have HO496 := n0_; have BK487 := n1_; have BK488 := n2_; have BK498 := n3_; have HB := n4_; clear n0_ n1_ n2_ n3_ n4_
   (try clear hb)
   (try clear hb2)
   (try clear hk)
   (try clear hi)
   (try clear ho0)
   refine hK.out _ _ (CZ BK487.out 0) (fun hHeld => ?_); clear hK K; refine norm_ (a' := ?_) ?_ ?_; rotate_left
   ·
    show Act.put _ (some 23) _ = _; simp only [Act.put, zA, zB, zC, i64_w, i32_w]; rfl
   refine pV 5 18 (OB 11 319) ?_; refine pV 6 24 (OB 11 383) ?_; refine pV 7 25 (OB 11 511) ?_; exact norm_ (by simp only [putAll, Act.put, zA, zB, zC]) (hCont (v495, gb498) _ ⟨hHeld, (RQ HO496.out), (BQ BK487.out), (BQ BK488.out), (BQ BK498.out), GW498.out, GE498.out, NB487_498.out, NB498_487.out, NB488_498.out, NB498_488.out, (BL)⟩)
 rintro ⟨v495, gb498⟩ w30 ⟨hS_, h0_, h1_, h2_, h3_, h4_, h5_, h6_, h7_, h8_, h9_, h10_⟩
 have n0_ : Aside0 (Kd.R k45 45 w30 w.heap.size (fun _ => True) v495 t494) := ⟨h0_⟩
 have n1_ : Aside0 (w30.heap[gb487]? = some (.cells #[.slice A0_0 l0_0.length c0_0] 29 (0, 0))) := ⟨h1_⟩
 have n2_ : Aside0 (w30.heap[gb488]? = some (.cells #[.slice none 0 0] 29 (0, 0))) := ⟨h2_⟩
 have n3_ : Aside0 (w30.heap[gb498]? = some (.cells #[.slice none 0 0] 29 (0, 0))) := ⟨h3_⟩
 have n4_ : Aside0 (w.heap.size ≤ gb498) := ⟨h4_⟩
 have n5_ : Aside0 (w.heap.size ≤ gb498) := ⟨h5_⟩
 have n6_ : Aside0 (gb487 ≠ gb498) := ⟨h6_⟩
 have n7_ : Aside0 (gb498 ≠ gb487) := ⟨h7_⟩
 have n8_ : Aside0 (gb488 ≠ gb498) := ⟨h8_⟩
 have n9_ : Aside0 (gb498 ≠ gb488) := ⟨h9_⟩
 have n10_ : Aside0 (Below w.heap.size w w30) := ⟨h10_⟩
 clear BK487 BK488 HB h0_ h1_ h2_ h3_ h4_ h5_ h6_ h7_ h8_ h9_ h10_
 have HO496 := n0_
 have BK487 := n1_
 have BK488 := n2_
 have BK498 := n3_
 have GW498 := n4_
 have GE498 := n5_
 have NB487_498 := n6_
 have NB498_487 := n7_
 have NB488_498 := n8_
 have NB498_488 := n9_
 have HB := n10_
 clear n0_ n1_ n2_ n3_ n4_ n5_ n6_ n7_ n8_ n9_ n10_
 have hHeld : w30.cell? ⟨gb487, 0, none⟩ = some (.slice A0_0 l0_0.length c0_0) := hS_
 obtain ⟨Ao31, co31, eo31⟩ := Kd.R_slice HO496.out
 (first | subst eo31 | (injection eo31 with f1_ f2_ f3_; have f4_ := f1_.symm; have f5_ := f3_.symm; clear f1_ f2_ f3_; subst f4_; subst f5_))
 refine norm_ (a' := ?_) ?_ ?_
 rotate_left
 ·
  simp only [putAll, Act.put, zA, zB, zC]; rfl
 refine one_ (i := 9) (N := none) (OB 11 1023) rfl rfl (one_of HT_.out (by kernel_rfl)) (by decide) (fun K hK => ?_)
 have hs32 : w30.cell? ⟨gb498, 0, none⟩ = some (.slice none 0 0) := CZ BK498.out 0
 have hfs32 := blk_frozen BK498.out 0
 have hns32_0 := NB487_498.out
 have hns32_1 := NB488_498.out
 have hms32_0 := NB498_487.out
 have hms32_1 := NB498_488.out
 refine skip_ (w1 := ?_) (by rfl) rfl ?_ ?_
 rotate_left
 ·
  go_simp
  rfl
 refine hK.out _ _ (((cell_far (p := ⟨gb498, _, none⟩) NB487_498.out _).trans (hHeld))) (fun hHeld => ?_)
 clear hK K
 refine pV 10 11 (OB 11 2047) ?_
 refine done_ (done_of HT_.out (by kernel_rfl)) ?_
 obtain ⟨hnb33, hnc33⟩ := NN NB498_487.out
 obtain ⟨hnb34, hnc34⟩ := NN NB498_488.out
 obtain ⟨hcz35_0, hfz35_0⟩ := KC1 BK498.out
 try go_wp2_with (first | ((with_reducible refine gate_callee (f := 25) rfl ?_); refine goesL_ (some 32) rfl rfl Try.func25 (by kernel_rfl) rfl #[.agg #[.slice Ao31 t494.length co31], .slice A3 l3.length c3] rfl (MA) ?_; (with_reducible refine (impl_LoseDisk.calls k _ _ t494 _ _ l3 t499 t502 _ ?side1 ?side2 ?side3 ?side4 A23.out).mono ?_); (case side1 => refine (Kd.R_reads' (e := 45) (base := w.heap.size) (ok := fun k_ => True) (n := t494.length) (c := co31) ?_).2.2; exact (RF HO496.out BK498.out)); (case side2 => exact (Kd.R_reads' HO496.out).2.1); (case side3 => exact Kd.C_below HR3.out (BL)); (case side4 => exact HC3.out); rintro e w36 ⟨v500, rfl, ho0, hb⟩; refine ⟨_, rfl, ?_⟩; have HO501 := Aside0.mk (Kd.R_lower (Kd.R_new' ho0 (Kd.R_lt (RF HO496.out BK498.out))) (below_size (BL))); replace HO496 := Aside0.mk (Kd.R_elder' (RF HO496.out BK498.out) (Kd.R_base ho0) hb); replace BK487 := BX BK487.out hb; replace BK488 := BX BK488.out hb; replace BK498 := Aside0.mk (blk_below (g := gb498) (o := .cells #[.slice Ao31 t494.length co31] 29 (0, 0)) (BU BK498.out) hb); replace HB := BS hb; (try clear hb); (try clear ho0); obtain ⟨Ao37, co37, eo37⟩ := Kd.R_slice HO501.out; subst eo37; obtain ⟨hnb38, hnc38⟩ := NN NB488_487.out; obtain ⟨hcz39_0, hfz39_0⟩ := KC1 BK488.out))
 refine bodyPost_ret (results_ct rfl _ _ gb488 29 #[.slice Ao37 t499.length co37] (0, 0) _ rfl (BU BK488.out) Try.underlying29 rfl (by kernel_rfl)) rfl ?_
 exact ⟨_, EE, by (with_reducible repeat (first | apply r1 | apply r2 | apply r3)); exact Kd.R_mono (Kd.R_far (p := ⟨gb488, 0, none⟩) (Kd.R_types HO501.out BK488.out (by decide)) (fun _ hk => hk.2) (.slice Ao37 t499.length co37)) (fun _ hk => trivial), BL⟩

end Go.Proofs.Ythfppepnpngfmaa.Qac
