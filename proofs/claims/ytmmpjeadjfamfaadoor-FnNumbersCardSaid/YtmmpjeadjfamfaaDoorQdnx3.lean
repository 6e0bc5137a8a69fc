-- Laid by myprint.py, a program of this session's own, over the kit's print. Not trusted: Lean checks it.
import Derived.Test.YtmmpjeadjfamfaaDoorQdnx0
import Derived.Test.YtmmpjeadjfamfaaDoorQdnx1
import Derived.Test.YtmmpjeadjfamfaaDoorQdnx2
namespace Go.Proofs.YtmmpjeadjfamfaaDoor.Qdn
open Go.RowKit Go.Proofs.YtmmpjeadjfamfaaDoorW.PrintWords Go.Proofs.YtmmpjeadjfamfaaDoorW.PrintLast Go.Proofs.YtmmpjeadjfamfaaDoorW.PrintMore
attribute [local go_sem] Go.Proofs.YtmmpjeadjfamfaaDoor.StrCmp.gtr_less Go.Proofs.YtmmpjeadjfamfaaDoor.StrCmp.geq_less Go.Proofs.YtmmpjeadjfamfaaDoor.StrCmp.leq_less max2_int min2_int max_two min_two max_three min_three max_four min_four   -- for this text's walks alone
set_option linter.unusedVariables false
set_option linter.unusedSimpArgs false

/-! ### impl_Unhex: function 24 -/
mutual
def impl_Unhex.j0 : Nat → ByteArray → Bool → Option (ByteArray × Bool)
 | 0, _, _ => none
 | k + 1, x0, x16 => if x16 = true then (some ((⟨#[]⟩ : ByteArray), false)) else (impl_Unhex.l0 k x0 (([] : List Int)) 0)
def impl_Unhex.l0 : Nat → ByteArray → List Int → Int → Option (ByteArray × Bool)
 | 0, _, _, _ => none
 | k + 1, x0, x4, x5 => if x5 < (x0.size : Int) then (if 0 ≤ x5 then ((strings_IndexByte.f (⟨#[48, 49, 50, 51, 52, 53, 54, 55, 56, 57, 97, 98, 99, 100, 101, 102]⟩ : ByteArray) (bt x0 x5)).bind fun t208 => (if 0 ≤ (wrap64 (x5 + 1)) then (if (wrap64 (x5 + 1)) < (x0.size : Int) then ((strings_IndexByte.f (⟨#[48, 49, 50, 51, 52, 53, 54, 55, 56, 57, 97, 98, 99, 100, 101, 102]⟩ : ByteArray) (bt x0 (wrap64 (x5 + 1)))).bind fun t209 => (if t208 < 0 then (some ((⟨#[]⟩ : ByteArray), false)) else (if t209 < 0 then (some ((⟨#[]⟩ : ByteArray), false)) else (if x4.length < 140737488355328 then (impl_Unhex.l0 k x0 (x4 ++ [(wrap64 ((wrap64 (16 * t208)) + t209)) % 256]) (wrap64 (x5 + 2))) else (none))))) else (none)) else (none))) else (none)) else (some (strOfNums x4, true))
end
def impl_Unhex.f (k : Nat) (a0 : ByteArray) : Option (ByteArray × Bool) := if ((a0.size : Int) % 2) = 0 then (impl_Unhex.j0 k a0 (decide ((a0.size : Int) > 40000))) else (impl_Unhex.j0 k a0 true)
theorem impl_Unhex.mono_l : ∀ k, (∀ y0 y1, LeO (impl_Unhex.j0 k y0 y1) (impl_Unhex.j0 (k + 1) y0 y1)) ∧ (∀ y0 y1 y2, LeO (impl_Unhex.l0 k y0 y1 y2) (impl_Unhex.l0 (k + 1) y0 y1 y2))
 | 0 => ⟨fun _ _ r h => by simp [impl_Unhex.j0] at h, fun _ _ _ r h => by simp [impl_Unhex.l0] at h⟩
 | k + 1 => by
  obtain ⟨ih0, ih1⟩ := impl_Unhex.mono_l k; refine ⟨?_, ?_⟩
  ·
   intro y0 y1
   unfold impl_Unhex.j0
   repeat' first
   | (with_reducible exact ih0 _ _)
   | (with_reducible exact ih1 _ _ _)
   | (with_reducible exact LeO.refl _)
   | (with_reducible exact LeO.none _)
   | (with_reducible refine LeO.ite ?_ ?_)
   | (with_reducible refine LeO.bind ?_ (fun _ => ?_))
   | exact ih0 _ _
   | exact ih1 _ _ _
   | exact LeO.none _
   | refine LeO.ite ?_ ?_
   | refine LeO.bind ?_ (fun _ => ?_)
  ·
   intro y0 y1 y2
   unfold impl_Unhex.l0
   repeat' first
   | (with_reducible exact ih0 _ _)
   | (with_reducible exact ih1 _ _ _)
   | (with_reducible exact LeO.refl _)
   | (with_reducible exact LeO.none _)
   | (with_reducible refine LeO.ite ?_ ?_)
   | (with_reducible refine LeO.bind ?_ (fun _ => ?_))
   | exact ih0 _ _
   | exact ih1 _ _ _
   | exact LeO.none _
   | refine LeO.ite ?_ ?_
   | refine LeO.bind ?_ (fun _ => ?_)
theorem impl_Unhex.mono : ∀ a0 k, LeO (impl_Unhex.f k a0) (impl_Unhex.f (k + 1) a0) := by
 intro a0 k
 obtain ⟨ih0, ih1⟩ := impl_Unhex.mono_l k
 unfold impl_Unhex.f
 repeat' first
   | (with_reducible exact ih0 _ _)
   | (with_reducible exact ih1 _ _ _)
   | (with_reducible exact LeO.refl _)
   | (with_reducible exact LeO.none _)
   | (with_reducible refine LeO.ite ?_ ?_)
   | (with_reducible refine LeO.bind ?_ (fun _ => ?_))
   | exact ih0 _ _
   | exact ih1 _ _ _
   | exact LeO.none _
   | refine LeO.ite ?_ ?_
   | refine LeO.bind ?_ (fun _ => ?_)
set_option maxHeartbeats 8000000 in
set_option maxRecDepth 100000 in
theorem impl_Unhex.calls (k : Nat) (a0 : ByteArray) (r1 : ByteArray) (r2 : Bool) (w : World) (h : impl_Unhex.f k a0 = some (r1, r2)) :
  Calls Tryd.prog 24 #[.string a0] w fun e w' => e = .returned (.tuple #[.string r1, .bool r2]) ∧ Below w.heap.size w w' := by
 have HB := Aside0.mk (Below.refl w.heap.size w)
 have H : (if ((a0.size : Int) % 2) = 0 then (impl_Unhex.j0 k a0 (decide ((a0.size : Int) > 40000))) else (impl_Unhex.j0 k a0 true)) = some (r1, r2) := h
 clear h
 have HC2 := Aside0.mk H
 clear H
 go_enter Tryd.func24, Tryd.ntmps24
 go_upto_region 1 with (fail)
 go_cut [16] (fun v16 wc => ∃ (kq : Nat) (x16_1 : Bool), v16 = .bool x16_1 ∧ Aside0 (impl_Unhex.j0 kq a0 x16_1 = some (r1, r2)) ∧ Aside0 (kq ≤ k) ∧ Aside0 (Below w.heap.size w wc))
 case first =>
  have H := HC2.out; clear HC2
  by_cases c3 : ((a0.size : Int) % 2) = 0; rotate_left
  ·
   rw [if_neg c3] at H; have c3b0 : (((a0.size : Int) % 2) == 0) = false := beq_eq_false_iff_ne.mpr c3; have c3b1 : (((a0.size : Int) % 2) != 0) = true := bne_iff_ne.mpr c3
   (first | rw [c3b0] | (simp only [i64_w, i32_w]; rw [c3b0]) | skip)
   have H' := Aside0.mk H; clear H
   go_wp2
   go_meet
   case rel => exact ⟨_, (true), SD, H', ⟨by first | omega | exact Nat.le_refl _⟩, ⟨BL⟩⟩
  rw [if_pos c3] at H; have c3b0 : (((a0.size : Int) % 2) == 0) = true := beq_iff_eq.mpr c3; have c3b1 : (((a0.size : Int) % 2) != 0) = false := bne_eq_false_iff_eq.mpr c3; clear c3
  (first | rw [c3b0] | (simp only [i64_w, i32_w]; rw [c3b0]) | skip)
  have H' := Aside0.mk H; clear H
  go_wp2
  go_meet
  case rel => exact ⟨_, (decide ((a0.size : Int) > 40000)), SD, H', ⟨by first | omega | exact Nat.le_refl _⟩, ⟨BL⟩⟩
 case rest =>
  clear HC2
  try clear c2 p2 c3 c3b0 c3b1
  obtain ⟨kq, x16_1, rfl, HA, HJ1, HB⟩ := hcut; cases kq with
  | zero => exact absurd HA.out (by simp [impl_Unhex.j0])
  | succ kj1 =>
   have H := HA.out; clear HA; simp only [impl_Unhex.j0] at H
   by_cases c4 : x16_1 = true
   ·
    subst c4
    have H1 : (some ((⟨#[]⟩ : ByteArray), false)) = some (r1, r2) := by rw [if_pos rfl] at H; exact H
    clear H; have H := H1; clear H1; simp only [Option.some.injEq, Prod.mk.injEq] at H; obtain ⟨rfl, rfl⟩ := H
    go_wp2
    go_ret2
    exact ⟨EE, BL⟩
   replace c4 := Bool.eq_false_iff.mpr c4; subst c4
   have H1 : (impl_Unhex.l0 kj1 a0 (([] : List Int)) 0) = some (r1, r2) := by rw [if_neg (show ¬ (false = true) by decide)] at H; exact H
   clear H; have H := H1; clear H1; obtain ⟨y205, hy205⟩ : ∃ y_ : List Int, y_ = (([] : List Int)) := ⟨_, rfl⟩
   replace H : (impl_Unhex.l0 kj1 a0 y205 0) = some (r1, r2) := by first | (rw [hy205]; with_reducible exact H) | (have H2_ := (Option.bind_some _ _).symm.trans H; rw [hy205]; with_reducible exact H2_) | (have H2_ := (Option.bind_some _ _).symm.trans H; with_reducible exact H2_) | with_reducible exact H | (rw [hy205]; exact H) | exact H
   have Ny205 := Aside0.mk hy205; clear hy205; have H' := Aside0.mk H; clear H
   go_wp2_with (first | ((with_reducible refine gate_dst (N := 17) rfl ?_); (try (refine gate_guard (by rfl) ?_; dsimp only)); refine Kd.R_lit (Kd.int .u8) _ 5 ?hg (N := 17) ?hd (xs := ([] : List Int)) (inner := []) (ok := fun _ => True) (okp := fun _ => True) ?hr ?hp (fun _ hk => hk) trivial (Below.refl _ _) (Nat.le_refl _) (by simp) ?_; (case hd => rfl); (case hg => rfl); (case hr => first | (go_simp; done) | (go_simp; rfl)); (case hp => exact (Reps.none _ _)); intro v206 w5 ho6 hb hg_ hnew_; clear hg_ hnew_; (first | rw [← Ny205.out] at ho6 | (simp only [Int.reduceToNat] at ho6; rw [← Ny205.out] at ho6)); have HO207 := Aside0.mk (Kd.R_lower ho6 (below_size (BL))); replace HB := Aside0.mk (below_step (BL) hb); clear hb ho6))
   go_loopg [4, 5] kj1 (fun kq v4 v5 w' => ∃ (x4_2 : List Int) (x5_2 : Int), v5 = .int .i64 x5_2 ∧ Aside0 (impl_Unhex.l0 kq a0 x4_2 x5_2 = some (r1, r2)) ∧ Aside0 (kq ≤ kj1) ∧ Aside0 (Kd.R (Kd.int .u8) 5 w' w.heap.size (fun _ => True) v4 x4_2) ∧ Aside0 (Below w.heap.size w w'))
   case atStart => exact ⟨(y205), (0), SD, H', ⟨Nat.le_refl _⟩, ⟨RQ HO207.out⟩, ⟨BL⟩⟩
   case round =>
    clear H'
    try clear c2 p2 c3 c3b0 c3b1 c4 p2
    obtain ⟨x4_2, x5_2, rfl, HA, HK2, HO_4, HB⟩ := hrel; cases gk with
    | zero => exact absurd HA.out (by simp [impl_Unhex.l0])
    | succ k2 =>
     have H := HA.out; clear HA; simp only [impl_Unhex.l0] at H
     by_cases c7 : x5_2 < (a0.size : Int); rotate_left
     ·
      rw [if_neg c7] at H; have c7b0 : decide (x5_2 < (a0.size : Int)) = false := decide_eq_false c7; clear c7; simp only [Option.some.injEq, Prod.mk.injEq] at H; obtain ⟨rfl, rfl⟩ := H; have hcv20 := own_string (P := Tryd.prog) Tryd.underlying32 Tryd.underlying5 Tryd.underlying9 (Kd.own_of_R HO_4.out)
      go_wp2
      go_ret2
      exact ⟨EE, BL⟩
     rw [if_pos c7] at H; have c7b0 : decide (x5_2 < (a0.size : Int)) = true := decide_eq_true c7; clear c7
     by_cases c8 : 0 ≤ x5_2; rotate_left
     ·
      rw [if_neg c8] at H; exact absurd H (by simp)
     rw [if_pos c8] at H; have c8b0 : decide (0 ≤ x5_2) = true := decide_eq_true c8; clear c8; replace H := Option.bind_eq_some_iff.mp H; obtain ⟨t208, A100, H⟩ := H; have A10 := Aside0.mk A100; clear A100; obtain ⟨ji11, hji11⟩ : ∃ j_ : Int, (wrap64 (x5_2 + 1)) = j_ := ⟨_, rfl⟩
     replace H : (if 0 ≤ (ji11) then (if (ji11) < (a0.size : Int) then ((strings_IndexByte.f (⟨#[48, 49, 50, 51, 52, 53, 54, 55, 56, 57, 97, 98, 99, 100, 101, 102]⟩ : ByteArray) (bt a0 (ji11))).bind fun t209 => (if t208 < 0 then (some ((⟨#[]⟩ : ByteArray), false)) else (if t209 < 0 then (some ((⟨#[]⟩ : ByteArray), false)) else (if x4_2.length < 140737488355328 then (impl_Unhex.l0 k2 a0 (x4_2 ++ [(wrap64 ((wrap64 (16 * t208)) + t209)) % 256]) (wrap64 (x5_2 + 2))) else (none))))) else (none)) else (none)) = some (r1, r2) := by first | (rw [hji11] at H; exact H) | (simp only [hji11] at H ⊢; exact H)
     (try rw [hji11] at A10)
     have hji11w : (IntKind.i64.wrap (x5_2 + 1)) = ji11 := (i64_w _).trans hji11
     by_cases c12 : 0 ≤ (ji11); rotate_left
     ·
      rw [if_neg c12] at H; exact absurd H (by simp)
     rw [if_pos c12] at H; have c12b0 : decide (0 ≤ (ji11)) = true := decide_eq_true c12; clear c12
     by_cases c13 : (ji11) < (a0.size : Int); rotate_left
     ·
      rw [if_neg c13] at H; exact absurd H (by simp)
     rw [if_pos c13] at H; have c13b0 : decide ((ji11) < (a0.size : Int)) = true := decide_eq_true c13; clear c13; replace H := Option.bind_eq_some_iff.mp H; obtain ⟨t209, A150, H⟩ := H; have A15 := Aside0.mk A150; clear A150
     by_cases c16 : t208 < 0
     ·
      rw [if_pos c16] at H; have c16b0 : decide (t208 < 0) = true := decide_eq_true c16; clear c16; simp only [Option.some.injEq, Prod.mk.injEq] at H; obtain ⟨rfl, rfl⟩ := H; have p9 : 0 ≤ (x5_2 : Int) := of_decide_eq_true AS; have q9 : x5_2 < (a0.size : Int) := of_decide_eq_true AS; have hx9 := bt_at a0 x5_2; replace p9 := eq_true p9; replace q9 := eq_true q9
      go_wp2_with (first | ((with_reducible refine gate_callee (f := 37) rfl ?_); refine goesL_ (some 27) rfl rfl Tryd.func37 (by kernel_rfl) rfl #[.string (⟨#[48, 49, 50, 51, 52, 53, 54, 55, 56, 57, 97, 98, 99, 100, 101, 102]⟩ : ByteArray), .int .u8 (bt a0 x5_2)] rfl (MA) ?_; (with_reducible refine (strings_IndexByte.calls (⟨#[48, 49, 50, 51, 52, 53, 54, 55, 56, 57, 97, 98, 99, 100, 101, 102]⟩ : ByteArray) (bt a0 x5_2) t208 _ A10.out).mono ?_); rintro e w' ⟨rfl, ⟨nd, rfl⟩⟩; refine ⟨_, rfl, ?_⟩; have p14 : 0 ≤ ((ji11) : Int) := of_decide_eq_true AS; have q14 : (ji11) < (a0.size : Int) := of_decide_eq_true AS; have hx14 := bt_at a0 (ji11); replace p14 := eq_true p14; replace q14 := eq_true q14) | ((with_reducible refine gate_callee (f := 37) rfl ?_); refine goesL_ (some 32) rfl rfl Tryd.func37 (by kernel_rfl) rfl #[.string (⟨#[48, 49, 50, 51, 52, 53, 54, 55, 56, 57, 97, 98, 99, 100, 101, 102]⟩ : ByteArray), .int .u8 (bt a0 (ji11))] rfl (by (try simp only [List.map_toArray, List.map_cons, List.map_nil]); first | done | (simp only [hji11]; rfl) | rfl | (simp only [List.length_drop, List.length_take]; rfl)) ?_; (with_reducible refine (strings_IndexByte.calls (⟨#[48, 49, 50, 51, 52, 53, 54, 55, 56, 57, 97, 98, 99, 100, 101, 102]⟩ : ByteArray) (bt a0 (ji11)) t209 _ A15.out).mono ?_); rintro e w' ⟨rfl, ⟨nd, rfl⟩⟩; refine ⟨_, rfl, ?_⟩))
      go_ret2
      exact ⟨by first | rfl | (simp [errW_none, errW_some] <;> rfl) | (simp only [← hji11]; first | rfl | (simp [errW_none, errW_some] <;> rfl)) | (simp [*, errW_none, errW_some] <;> rfl), BL⟩
     rw [if_neg c16] at H; have c16b0 : decide (t208 < 0) = false := decide_eq_false c16; clear c16
     by_cases c17 : t209 < 0
     ·
      rw [if_pos c17] at H; have c17b0 : decide (t209 < 0) = true := decide_eq_true c17; clear c17; simp only [Option.some.injEq, Prod.mk.injEq] at H; obtain ⟨rfl, rfl⟩ := H; have p9 : 0 ≤ (x5_2 : Int) := of_decide_eq_true AS; have q9 : x5_2 < (a0.size : Int) := of_decide_eq_true AS; have hx9 := bt_at a0 x5_2; replace p9 := eq_true p9; replace q9 := eq_true q9
      go_wp2_with (first | ((with_reducible refine gate_callee (f := 37) rfl ?_); refine goesL_ (some 27) rfl rfl Tryd.func37 (by kernel_rfl) rfl #[.string (⟨#[48, 49, 50, 51, 52, 53, 54, 55, 56, 57, 97, 98, 99, 100, 101, 102]⟩ : ByteArray), .int .u8 (bt a0 x5_2)] rfl (MA) ?_; (with_reducible refine (strings_IndexByte.calls (⟨#[48, 49, 50, 51, 52, 53, 54, 55, 56, 57, 97, 98, 99, 100, 101, 102]⟩ : ByteArray) (bt a0 x5_2) t208 _ A10.out).mono ?_); rintro e w' ⟨rfl, ⟨nd, rfl⟩⟩; refine ⟨_, rfl, ?_⟩; have p14 : 0 ≤ ((ji11) : Int) := of_decide_eq_true AS; have q14 : (ji11) < (a0.size : Int) := of_decide_eq_true AS; have hx14 := bt_at a0 (ji11); replace p14 := eq_true p14; replace q14 := eq_true q14) | ((with_reducible refine gate_callee (f := 37) rfl ?_); refine goesL_ (some 32) rfl rfl Tryd.func37 (by kernel_rfl) rfl #[.string (⟨#[48, 49, 50, 51, 52, 53, 54, 55, 56, 57, 97, 98, 99, 100, 101, 102]⟩ : ByteArray), .int .u8 (bt a0 (ji11))] rfl (by (try simp only [List.map_toArray, List.map_cons, List.map_nil]); first | done | (simp only [hji11]; rfl) | rfl | (simp only [List.length_drop, List.length_take]; rfl)) ?_; (with_reducible refine (strings_IndexByte.calls (⟨#[48, 49, 50, 51, 52, 53, 54, 55, 56, 57, 97, 98, 99, 100, 101, 102]⟩ : ByteArray) (bt a0 (ji11)) t209 _ A15.out).mono ?_); rintro e w' ⟨rfl, ⟨nd, rfl⟩⟩; refine ⟨_, rfl, ?_⟩))
      go_ret2
      exact ⟨by first | rfl | (simp [errW_none, errW_some] <;> rfl) | (simp only [← hji11]; first | rfl | (simp [errW_none, errW_some] <;> rfl)) | (simp [*, errW_none, errW_some] <;> rfl), BL⟩
     rw [if_neg c17] at H; have c17b0 : decide (t209 < 0) = false := decide_eq_false c17; clear c17
     by_cases c18 : x4_2.length < 140737488355328; rotate_left
     ·
      rw [if_neg c18] at H; exact absurd H (by simp)
     rw [if_pos c18] at H; have LMc18 := Aside0.mk c18; clear c18; obtain ⟨y210, hy210⟩ : ∃ y_ : List Int, y_ = (x4_2 ++ [(wrap64 ((wrap64 (16 * t208)) + t209)) % 256]) := ⟨_, rfl⟩
     replace H : (impl_Unhex.l0 k2 a0 y210 (wrap64 (x5_2 + 2))) = some (r1, r2) := by first | (rw [hy210]; with_reducible exact H) | (have H2_ := (Option.bind_some _ _).symm.trans H; rw [hy210]; with_reducible exact H2_) | (have H2_ := (Option.bind_some _ _).symm.trans H; with_reducible exact H2_) | with_reducible exact H | (rw [hy210]; exact H) | exact H
     have Ny210 := Aside0.mk hy210; clear hy210; have H' := Aside0.mk H; clear H; have p9 : 0 ≤ (x5_2 : Int) := of_decide_eq_true AS; have q9 : x5_2 < (a0.size : Int) := of_decide_eq_true AS; have hx9 := bt_at a0 x5_2; replace p9 := eq_true p9; replace q9 := eq_true q9
     go_wp2_with (first | ((with_reducible refine gate_callee (f := 37) rfl ?_); refine goesL_ (some 27) rfl rfl Tryd.func37 (by kernel_rfl) rfl #[.string (⟨#[48, 49, 50, 51, 52, 53, 54, 55, 56, 57, 97, 98, 99, 100, 101, 102]⟩ : ByteArray), .int .u8 (bt a0 x5_2)] rfl (MA) ?_; (with_reducible refine (strings_IndexByte.calls (⟨#[48, 49, 50, 51, 52, 53, 54, 55, 56, 57, 97, 98, 99, 100, 101, 102]⟩ : ByteArray) (bt a0 x5_2) t208 _ A10.out).mono ?_); rintro e w' ⟨rfl, ⟨nd, rfl⟩⟩; refine ⟨_, rfl, ?_⟩; have p14 : 0 ≤ ((ji11) : Int) := of_decide_eq_true AS; have q14 : (ji11) < (a0.size : Int) := of_decide_eq_true AS; have hx14 := bt_at a0 (ji11); replace p14 := eq_true p14; replace q14 := eq_true q14) | ((with_reducible refine gate_callee (f := 37) rfl ?_); refine goesL_ (some 32) rfl rfl Tryd.func37 (by kernel_rfl) rfl #[.string (⟨#[48, 49, 50, 51, 52, 53, 54, 55, 56, 57, 97, 98, 99, 100, 101, 102]⟩ : ByteArray), .int .u8 (bt a0 (ji11))] rfl (by (try simp only [List.map_toArray, List.map_cons, List.map_nil]); first | done | (simp only [hji11]; rfl) | rfl | (simp only [List.length_drop, List.length_take]; rfl)) ?_; (with_reducible refine (strings_IndexByte.calls (⟨#[48, 49, 50, 51, 52, 53, 54, 55, 56, 57, 97, 98, 99, 100, 101, 102]⟩ : ByteArray) (bt a0 (ji11)) t209 _ A15.out).mono ?_); rintro e w' ⟨rfl, ⟨nd, rfl⟩⟩; refine ⟨_, rfl, ?_⟩) | ((with_reducible refine gate_builtin (b := .append) (xs := #[.tmp 39, .tmp 45]) rfl ?_); (try (refine gate_guard (by rfl) ?_; dsimp only)); at_builtin; refine Kd.R_append (Kd.int .u8) (w0 := w) w.heap.size rfl (.tmp 39) (.tmp 45) 32 5 (.int .u8 0) 1 rfl Tryd.underlying32 info5 rfl (by decide) (by omega) u4 x4_2 ((wrap64 ((wrap64 (16 * t208)) + t209)) % 256) [.int .u8 ((wrap64 ((wrap64 (16 * t208)) + t209)) % 256)] (fun _ => True) (fun _ => False) rfl rfl ?aP (fun _ hk => hk.elim) ?aF ?aO ?aB ?aS ?aL ?_; (case aP => exact rfl); (case aB => exact (BL)); (case aF => exact (fun _ _ => trivial)); (case aO => exact RQ HO_4.out); (case aS => exact (below_size (BL))); (case aL => have := LMc18.out; omega); intro v211 w19 ho hb hg hat; rw [← Ny210.out] at ho; have n0_ := Aside0.mk (hb); have n1_ := Aside0.mk (ho); clear HB; clear HO_4; have HB := n0_; have HO212 := n1_; clear n0_ n1_; clear ho hb hg hat))
     go_roundg k2
     case measure => have := HJ1.out; have := HK2.out; omega
     case rel => exact ⟨(y210), (wrap64 (x5_2 + 2)), SD, H', ⟨by have := HJ1.out; have := HK2.out; omega⟩, ⟨RQ HO212.out⟩, ⟨BL⟩⟩

/-! ### laws_FnNumbers: function 6 -/
mutual
def laws_FnNumbers.j0 : Nat → List Int → Int → Bool → Option (Bool)
 | 0, _, _, _ => none
 | k + 1, x0, x3, x30 => if x30 = true then (laws_FnNumbers.j1 k x0 12345) else (laws_FnNumbers.j1 k x0 x3)
def laws_FnNumbers.j1 : Nat → List Int → Int → Option (Bool)
 | 0, _, _ => none
 | k + 1, x0, x3 => (impl_VarText.f k x3).bind fun bt215 => (if 1 + bt215.1.size ≤ 9223372036854775807 then (if ((⟨#[120]⟩ : ByteArray) ++ bt215.1).size + 1 ≤ 9223372036854775807 then ((impl_ReadVar.f k (((⟨#[120]⟩ : ByteArray) ++ bt215.1) ++ (⟨#[121]⟩ : ByteArray)) 1).bind fun bt217 => ((impl_Decimal.f x3).bind fun t220 => ((impl_ReadDecimal.f t220).bind fun bt221 => ((spec_DrawHex.f k x0).bind fun t223 => (if (t223.size : Int) > 300 then (laws_FnNumbers.j2 k x3 bt215.1 bt215.2 bt217.1 bt217.2.1 bt217.2.2 bt221.1 bt221.2 (⟨#[97, 98, 99]⟩ : ByteArray)) else (laws_FnNumbers.j2 k x3 bt215.1 bt215.2 bt217.1 bt217.2.1 bt217.2.2 bt221.1 bt221.2 t223)))))) else (none)) else (none))
def laws_FnNumbers.j2 : Nat → Int → ByteArray → Bool → Int → Int → Bool → Int → Bool → ByteArray → Option (Bool)
 | 0, _, _, _, _, _, _, _, _, _ => none
 | k + 1, x3, x4, x5, x6, x7, x8, x9, x10, x11 => (impl_ShortText.f k x11).bind fun bt224 => ((impl_ReadShort.f k bt224.1 0).bind fun bt226 => ((impl_Hex.f k x11).bind fun bt229 => ((impl_Unhex.f k bt229.1).bind fun bt231 => (if x5 = true then (if x8 = true then (if x10 = true then (if bt224.2 = true then (if bt226.2.2 = true then (if bt229.2 = true then (if bt231.2 = true then (if x6 = x3 then (if x9 = x3 then (if x7 = (wrap64 ((x4.size : Int) + 1)) then (if bt226.1.toList = x11.toList then (if bt226.2.1 = (bt224.1.size : Int) then (some (bt231.1.toList == x11.toList)) else (none)) else (none)) else (none)) else (none)) else (none)) else (none)) else (none)) else (none)) else (none)) else (none)) else (none)) else (none)))))
end
def laws_FnNumbers.f (k : Nat) (l0 : List Int) : Option (Bool) := (laws_big.f l0).bind fun t213 => (if t213 = true then (some true) else ((spec_DrawVarText.f k l0).bind fun t214 => (if t214 < 0 then (laws_FnNumbers.j0 k l0 t214 true) else (laws_FnNumbers.j0 k l0 t214 (decide (t214 > 1000000000))))))
theorem laws_FnNumbers.mono_l : ∀ k, (∀ y0 y1 y2, LeO (laws_FnNumbers.j0 k y0 y1 y2) (laws_FnNumbers.j0 (k + 1) y0 y1 y2)) ∧ (∀ y0 y1, LeO (laws_FnNumbers.j1 k y0 y1) (laws_FnNumbers.j1 (k + 1) y0 y1)) ∧ (∀ y0 y1 y2 y3 y4 y5 y6 y7 y8, LeO (laws_FnNumbers.j2 k y0 y1 y2 y3 y4 y5 y6 y7 y8) (laws_FnNumbers.j2 (k + 1) y0 y1 y2 y3 y4 y5 y6 y7 y8))
 | 0 => ⟨fun _ _ _ r h => by simp [laws_FnNumbers.j0] at h, fun _ _ r h => by simp [laws_FnNumbers.j1] at h, fun _ _ _ _ _ _ _ _ _ r h => by simp [laws_FnNumbers.j2] at h⟩
 | k + 1 => by
  obtain ⟨ih0, ih1, ih2⟩ := laws_FnNumbers.mono_l k; refine ⟨?_, ?_, ?_⟩
  ·
   intro y0 y1 y2
   unfold laws_FnNumbers.j0
   repeat' first
   | (with_reducible exact ih0 _ _ _)
   | (with_reducible exact ih1 _ _)
   | (with_reducible exact ih2 _ _ _ _ _ _ _ _ _)
   | (with_reducible exact impl_Hex.mono _ _)
   | (with_reducible exact impl_ReadShort.mono _ _ _)
   | (with_reducible exact impl_ReadVar.mono _ _ _)
   | (with_reducible exact impl_ShortText.mono _ _)
   | (with_reducible exact impl_Unhex.mono _ _)
   | (with_reducible exact impl_VarText.mono _ _)
   | (with_reducible exact spec_DrawHex.mono _ _)
   | (with_reducible exact spec_DrawVarText.mono _ _)
   | (with_reducible exact LeO.refl _)
   | (with_reducible exact LeO.none _)
   | (with_reducible refine LeO.ite ?_ ?_)
   | (with_reducible refine LeO.bind ?_ (fun _ => ?_))
   | exact ih0 _ _ _
   | exact ih1 _ _
   | exact ih2 _ _ _ _ _ _ _ _ _
   | exact impl_Hex.mono _ _
   | exact impl_ReadShort.mono _ _ _
   | exact impl_ReadVar.mono _ _ _
   | exact impl_ShortText.mono _ _
   | exact impl_Unhex.mono _ _
   | exact impl_VarText.mono _ _
   | exact spec_DrawHex.mono _ _
   | exact spec_DrawVarText.mono _ _
   | exact LeO.none _
   | refine LeO.ite ?_ ?_
   | refine LeO.bind ?_ (fun _ => ?_)
  ·
   intro y0 y1
   unfold laws_FnNumbers.j1
   repeat' first
   | (with_reducible exact ih0 _ _ _)
   | (with_reducible exact ih1 _ _)
   | (with_reducible exact ih2 _ _ _ _ _ _ _ _ _)
   | (with_reducible exact impl_Hex.mono _ _)
   | (with_reducible exact impl_ReadShort.mono _ _ _)
   | (with_reducible exact impl_ReadVar.mono _ _ _)
   | (with_reducible exact impl_ShortText.mono _ _)
   | (with_reducible exact impl_Unhex.mono _ _)
   | (with_reducible exact impl_VarText.mono _ _)
   | (with_reducible exact spec_DrawHex.mono _ _)
   | (with_reducible exact spec_DrawVarText.mono _ _)
   | (with_reducible exact LeO.refl _)
   | (with_reducible exact LeO.none _)
   | (with_reducible refine LeO.ite ?_ ?_)
   | (with_reducible refine LeO.bind ?_ (fun _ => ?_))
   | exact ih0 _ _ _
   | exact ih1 _ _
   | exact ih2 _ _ _ _ _ _ _ _ _
   | exact impl_Hex.mono _ _
   | exact impl_ReadShort.mono _ _ _
   | exact impl_ReadVar.mono _ _ _
   | exact impl_ShortText.mono _ _
   | exact impl_Unhex.mono _ _
   | exact impl_VarText.mono _ _
   | exact spec_DrawHex.mono _ _
   | exact spec_DrawVarText.mono _ _
   | exact LeO.none _
   | refine LeO.ite ?_ ?_
   | refine LeO.bind ?_ (fun _ => ?_)
  ·
   intro y0 y1 y2 y3 y4 y5 y6 y7 y8
   unfold laws_FnNumbers.j2
   repeat' first
   | (with_reducible exact ih0 _ _ _)
   | (with_reducible exact ih1 _ _)
   | (with_reducible exact ih2 _ _ _ _ _ _ _ _ _)
   | (with_reducible exact impl_Hex.mono _ _)
   | (with_reducible exact impl_ReadShort.mono _ _ _)
   | (with_reducible exact impl_ReadVar.mono _ _ _)
   | (with_reducible exact impl_ShortText.mono _ _)
   | (with_reducible exact impl_Unhex.mono _ _)
   | (with_reducible exact impl_VarText.mono _ _)
   | (with_reducible exact spec_DrawHex.mono _ _)
   | (with_reducible exact spec_DrawVarText.mono _ _)
   | (with_reducible exact LeO.refl _)
   | (with_reducible exact LeO.none _)
   | (with_reducible refine LeO.ite ?_ ?_)
   | (with_reducible refine LeO.bind ?_ (fun _ => ?_))
   | exact ih0 _ _ _
   | exact ih1 _ _
   | exact ih2 _ _ _ _ _ _ _ _ _
   | exact impl_Hex.mono _ _
   | exact impl_ReadShort.mono _ _ _
   | exact impl_ReadVar.mono _ _ _
   | exact impl_ShortText.mono _ _
   | exact impl_Unhex.mono _ _
   | exact impl_VarText.mono _ _
   | exact spec_DrawHex.mono _ _
   | exact spec_DrawVarText.mono _ _
   | exact LeO.none _
   | refine LeO.ite ?_ ?_
   | refine LeO.bind ?_ (fun _ => ?_)
theorem laws_FnNumbers.mono : ∀ a0 k, LeO (laws_FnNumbers.f k a0) (laws_FnNumbers.f (k + 1) a0) := by
 intro a0 k
 obtain ⟨ih0, ih1, ih2⟩ := laws_FnNumbers.mono_l k
 unfold laws_FnNumbers.f
 repeat' first
   | (with_reducible exact ih0 _ _ _)
   | (with_reducible exact ih1 _ _)
   | (with_reducible exact ih2 _ _ _ _ _ _ _ _ _)
   | (with_reducible exact impl_Hex.mono _ _)
   | (with_reducible exact impl_ReadShort.mono _ _ _)
   | (with_reducible exact impl_ReadVar.mono _ _ _)
   | (with_reducible exact impl_ShortText.mono _ _)
   | (with_reducible exact impl_Unhex.mono _ _)
   | (with_reducible exact impl_VarText.mono _ _)
   | (with_reducible exact spec_DrawHex.mono _ _)
   | (with_reducible exact spec_DrawVarText.mono _ _)
   | (with_reducible exact LeO.refl _)
   | (with_reducible exact LeO.none _)
   | (with_reducible refine LeO.ite ?_ ?_)
   | (with_reducible refine LeO.bind ?_ (fun _ => ?_))
   | exact ih0 _ _ _
   | exact ih1 _ _
   | exact ih2 _ _ _ _ _ _ _ _ _
   | exact impl_Hex.mono _ _
   | exact impl_ReadShort.mono _ _ _
   | exact impl_ReadVar.mono _ _ _
   | exact impl_ShortText.mono _ _
   | exact impl_Unhex.mono _ _
   | exact impl_VarText.mono _ _
   | exact spec_DrawHex.mono _ _
   | exact spec_DrawVarText.mono _ _
   | exact LeO.none _
   | refine LeO.ite ?_ ?_
   | refine LeO.bind ?_ (fun _ => ?_)
set_option maxHeartbeats 8000000 in
set_option maxRecDepth 100000 in
theorem laws_FnNumbers.calls (k : Nat) (A0 : Option Addr) (c0 : Nat) (l0 : List Int) (r : Bool) (w : World) (htb : HasTabs w) (hr0 : Kd.C (Kd.int .u8) w A0 l0.length l0) (hc0 : l0.length ≤ c0) (h : laws_FnNumbers.f k l0 = some r) :
  Calls Tryd.prog 6 #[.slice A0 l0.length c0] w fun e w' => e = .returned (.bool r) ∧ Below w.heap.size w w' := by
 have HTB := Aside0.mk htb
 clear htb
 have HR0 := Aside0.mk hr0
 have HC0 := Aside0.mk hc0
 clear hr0 hc0
 have HB := Aside0.mk (Below.refl w.heap.size w)
 have H : ((laws_big.f l0).bind fun t213 => (if t213 = true then (some true) else ((spec_DrawVarText.f k l0).bind fun t214 => (if t214 < 0 then (laws_FnNumbers.j0 k l0 t214 true) else (laws_FnNumbers.j0 k l0 t214 (decide (t214 > 1000000000))))))) = some r := h
 clear h
 replace H := Option.bind_eq_some_iff.mp H
 obtain ⟨t213, A20, H⟩ := H
 have A2 := Aside0.mk A20
 clear A20
 by_cases c3 : t213 = true
 ·
  subst c3
  have H1 : (some true) = some r := by rw [if_pos rfl] at H; exact H
  clear H; have H := H1; clear H1; obtain rfl := Option.some.inj H
  go_enter Tryd.func6, Tryd.ntmps6
  go_wp2_with (first | ((with_reducible refine gate_callee (f := 16) rfl ?_); refine goesL_ (some 22) rfl rfl Tryd.func16 (by kernel_rfl) rfl #[.slice A0 l0.length c0] rfl (MA) ?_; (with_reducible refine (laws_big.calls _ _ l0 true _ ?side1 ?side2 A2.out).mono ?_); (case side1 => repeat (first | exact HR0.out | (with_reducible refine Kd.C_alloc ?_ _) | (with_reducible refine Kd.C_drewN ?_ _) | (with_reducible refine Kd.C_drew ?_))); (case side2 => exact HC0.out); rintro e w' ⟨rfl, ⟨nd, rfl⟩⟩; refine ⟨_, rfl, ?_⟩))
  go_ret
  exact ⟨EE, BL⟩
 replace c3 := Bool.eq_false_iff.mpr c3
 subst c3
 have H1 : ((spec_DrawVarText.f k l0).bind fun t214 => (if t214 < 0 then (laws_FnNumbers.j0 k l0 t214 true) else (laws_FnNumbers.j0 k l0 t214 (decide (t214 > 1000000000))))) = some r := by rw [if_neg (show ¬ (false = true) by decide)] at H; exact H
 clear H
 have H := H1
 clear H1
 replace H := Option.bind_eq_some_iff.mp H
 obtain ⟨t214, A40, H⟩ := H
 have A4 := Aside0.mk A40
 clear A40
 have HC5 := Aside0.mk H
 clear H
 go_enter Tryd.func6, Tryd.ntmps6
 go_upto_region 4 with (first | ((with_reducible refine gate_callee (f := 16) rfl ?_); refine goesL_ (some 22) rfl rfl Tryd.func16 (by kernel_rfl) rfl #[.slice A0 l0.length c0] rfl (MA) ?_; (with_reducible refine (laws_big.calls _ _ l0 false _ ?side1 ?side2 A2.out).mono ?_); (case side1 => repeat (first | exact HR0.out | (with_reducible refine Kd.C_alloc ?_ _) | (with_reducible refine Kd.C_drewN ?_ _) | (with_reducible refine Kd.C_drew ?_))); (case side2 => exact HC0.out); rintro e w' ⟨rfl, ⟨nd, rfl⟩⟩; refine ⟨_, rfl, ?_⟩) | ((with_reducible refine gate_callee (f := 17) rfl ?_); refine goesL_ (some 24) rfl rfl Tryd.func17 (by kernel_rfl) rfl #[.slice A0 l0.length c0] rfl (MA) ?_; (with_reducible refine (spec_DrawVarText.calls k _ _ l0 t214 _ ?side1 ?side2 A4.out).mono ?_); (case side1 => repeat (first | exact HR0.out | (with_reducible refine Kd.C_alloc ?_ _) | (with_reducible refine Kd.C_drewN ?_ _) | (with_reducible refine Kd.C_drew ?_))); (case side2 => exact HC0.out); rintro e w6 ⟨rfl, hb⟩; refine ⟨_, rfl, ?_⟩; replace HB := Aside0.mk (below_step (BL) hb); (try clear hb); (try clear hb2); (try clear hk); (try clear hi)))
 (try simp only [Act.put, zA, zB, zC])
 go_cut [30] (fun v30 wc => ∃ (kq : Nat) (x30_4 : Bool), v30 = .bool x30_4 ∧ Aside0 (laws_FnNumbers.j0 kq l0 t214 x30_4 = some r) ∧ Aside0 (kq ≤ k) ∧ Aside0 (Below w.heap.size w wc))
 case first =>
  have H := HC5.out; clear HC5
  by_cases c7 : t214 < 0
  ·
   rw [if_pos c7] at H; have c7b0 : decide (t214 < 0) = true := decide_eq_true c7; clear c7
   (first | rw [c7b0] | (simp only [i64_w, i32_w]; rw [c7b0]) | skip)
   have H' := Aside0.mk H; clear H
   go_wp2
   go_meet
   case rel => exact ⟨_, (true), SD, H', ⟨by first | omega | exact Nat.le_refl _⟩, ⟨BL⟩⟩
  rw [if_neg c7] at H; have c7b0 : decide (t214 < 0) = false := decide_eq_false c7; clear c7
  (first | rw [c7b0] | (simp only [i64_w, i32_w]; rw [c7b0]) | skip)
  have H' := Aside0.mk H; clear H
  go_wp2
  go_meet
  case rel => exact ⟨_, (decide (t214 > 1000000000)), SD, H', ⟨by first | omega | exact Nat.le_refl _⟩, ⟨BL⟩⟩
 case rest =>
  clear HC5
  try clear c1 p2 c3 c6 c7 c7b0
  obtain ⟨kq, x30_4, rfl, HA, HJ4, HB⟩ := hcut; cases kq with
  | zero => exact absurd HA.out (by simp [laws_FnNumbers.j0])
  | succ kj4 =>
   have H := HA.out; clear HA; simp only [laws_FnNumbers.j0] at H; have HC8 := Aside0.mk H; clear H
   go_upto_if 30 with (fail)
   go_cut [3] (fun v3 wc => ∃ (kq : Nat) (x3_7 : Int), v3 = .int .i64 x3_7 ∧ Aside0 (laws_FnNumbers.j1 kq l0 x3_7 = some r) ∧ Aside0 (kq ≤ kj4) ∧ Aside0 (Below w.heap.size w wc))
   case first =>
    have H := HC8.out; clear HC8
    by_cases c9 : x30_4 = true
    ·
     subst c9
     have H1 : (laws_FnNumbers.j1 kj4 l0 12345) = some r := by rw [if_pos rfl] at H; exact H
     clear H; have H := H1; clear H1; have H' := Aside0.mk H; clear H
     go_wp2
     go_meet
     case rel => exact ⟨_, (12345), SD, H', ⟨by have := HJ4.out; first | omega | exact Nat.le_refl _⟩, ⟨BL⟩⟩
    replace c9 := Bool.eq_false_iff.mpr c9; subst c9
    have H1 : (laws_FnNumbers.j1 kj4 l0 t214) = some r := by rw [if_neg (show ¬ (false = true) by decide)] at H; exact H
    clear H; have H := H1; clear H1; have H' := Aside0.mk H; clear H
    go_wp2
    go_meet
    case rel => exact ⟨_, (t214), SD, H', ⟨by have := HJ4.out; first | omega | exact Nat.le_refl _⟩, ⟨BL⟩⟩
   case rest =>
    clear HC8
    try clear c1 p2 c3 c6 c7 c7b0 c9 p2
    obtain ⟨kq, x3_7, rfl, HA, HJ7, HB⟩ := hcut; cases kq with
    | zero => exact absurd HA.out (by simp [laws_FnNumbers.j1])
    | succ kj7 =>
     have H := HA.out; clear HA; simp only [laws_FnNumbers.j1] at H; replace H := Option.bind_eq_some_iff.mp H; obtain ⟨⟨t215, t216⟩, A100, H⟩ := H; replace H : (if 1 + t215.size ≤ 9223372036854775807 then (if ((⟨#[120]⟩ : ByteArray) ++ t215).size + 1 ≤ 9223372036854775807 then ((impl_ReadVar.f kj7 (((⟨#[120]⟩ : ByteArray) ++ t215) ++ (⟨#[121]⟩ : ByteArray)) 1).bind fun bt217 => ((impl_Decimal.f x3_7).bind fun t220 => ((impl_ReadDecimal.f t220).bind fun bt221 => ((spec_DrawHex.f kj7 l0).bind fun t223 => (if (t223.size : Int) > 300 then (laws_FnNumbers.j2 kj7 x3_7 t215 t216 bt217.1 bt217.2.1 bt217.2.2 bt221.1 bt221.2 (⟨#[97, 98, 99]⟩ : ByteArray)) else (laws_FnNumbers.j2 kj7 x3_7 t215 t216 bt217.1 bt217.2.1 bt217.2.2 bt221.1 bt221.2 t223)))))) else (none)) else (none)) = some r := H; have A10 := Aside0.mk A100; clear A100
     by_cases c11 : 1 + t215.size ≤ 9223372036854775807; rotate_left
     ·
      rw [if_neg c11] at H; exact absurd H (by simp)
     rw [if_pos c11] at H; have c11b0 := eq_true c11; have c11b1 : decide (1 + t215.size ≤ 9223372036854775807) = true := decide_eq_true c11
     try have c11b2 : (9223372036854775807 < 1 + t215.size) = False := eq_false (Nat.not_lt.2 c11)
     by_cases c12 : ((⟨#[120]⟩ : ByteArray) ++ t215).size + 1 ≤ 9223372036854775807; rotate_left
     ·
      rw [if_neg c12] at H; exact absurd H (by simp)
     rw [if_pos c12] at H; have c12b0 := eq_true c12; have c12b1 : decide (((⟨#[120]⟩ : ByteArray) ++ t215).size + 1 ≤ 9223372036854775807) = true := decide_eq_true c12
     try have c12b2 : (9223372036854775807 < ((⟨#[120]⟩ : ByteArray) ++ t215).size + 1) = False := eq_false (Nat.not_lt.2 c12)
     have c12b3 : (9223372036854775807 < 1 + t215.size + 1) = False := eq_false (by have e_ : ((⟨#[120]⟩ : ByteArray) ++ t215).size = 1 + t215.size := (ByteArray.size_append ..); omega)
     replace H := Option.bind_eq_some_iff.mp H; obtain ⟨⟨t217, t218, t219⟩, A130, H⟩ := H; replace H : ((impl_Decimal.f x3_7).bind fun t220 => ((impl_ReadDecimal.f t220).bind fun bt221 => ((spec_DrawHex.f kj7 l0).bind fun t223 => (if (t223.size : Int) > 300 then (laws_FnNumbers.j2 kj7 x3_7 t215 t216 t217 t218 t219 bt221.1 bt221.2 (⟨#[97, 98, 99]⟩ : ByteArray)) else (laws_FnNumbers.j2 kj7 x3_7 t215 t216 t217 t218 t219 bt221.1 bt221.2 t223))))) = some r := H; have A13 := Aside0.mk A130; clear A130; replace H := Option.bind_eq_some_iff.mp H; obtain ⟨t220, A140, H⟩ := H; have A14 := Aside0.mk A140; clear A140; replace H := Option.bind_eq_some_iff.mp H; obtain ⟨⟨t221, t222⟩, A150, H⟩ := H; replace H : ((spec_DrawHex.f kj7 l0).bind fun t223 => (if (t223.size : Int) > 300 then (laws_FnNumbers.j2 kj7 x3_7 t215 t216 t217 t218 t219 t221 t222 (⟨#[97, 98, 99]⟩ : ByteArray)) else (laws_FnNumbers.j2 kj7 x3_7 t215 t216 t217 t218 t219 t221 t222 t223))) = some r := H; have A15 := Aside0.mk A150; clear A150; replace H := Option.bind_eq_some_iff.mp H; obtain ⟨t223, A160, H⟩ := H; have A16 := Aside0.mk A160; clear A160; have HC17 := Aside0.mk H; clear H
     go_upto_if 54 with (first | ((with_reducible refine gate_callee (f := 18) rfl ?_); refine goesL_ (some 33) rfl rfl Tryd.func18 (by kernel_rfl) rfl #[.int .i64 x3_7] rfl (MA) ?_; (with_reducible refine (impl_VarText.calls kj7 x3_7 t215 t216 _ A10.out).mono ?_); rintro e w18 ⟨rfl, hb⟩; refine ⟨_, rfl, ?_⟩; replace HB := Aside0.mk (below_step (BL) hb); (try clear hb); (try clear hb2); (try clear hk); (try clear hi)) | ((with_reducible refine gate_callee (f := 19) rfl ?_); refine goesL_ (some 40) rfl rfl Tryd.func19 (by kernel_rfl) rfl #[.string (((⟨#[120]⟩ : ByteArray) ++ t215) ++ (⟨#[121]⟩ : ByteArray)), .int .i64 1] rfl (MA) ?_; (with_reducible refine (impl_ReadVar.calls kj7 (((⟨#[120]⟩ : ByteArray) ++ t215) ++ (⟨#[121]⟩ : ByteArray)) 1 t217 t218 t219 _ A13.out).mono ?_); rintro e w' ⟨rfl, ⟨nd, rfl⟩⟩; refine ⟨_, rfl, ?_⟩) | ((with_reducible refine gate_callee (f := 8) rfl ?_); refine goesL_ (some 46) rfl rfl Tryd.func8 (by kernel_rfl) rfl #[.int .i64 x3_7] rfl (MA) ?_; (with_reducible refine (impl_Decimal.calls x3_7 t220 _ ?htb A14.out).mono ?_); (case htb => exact HasTabs.below HTB.out (BL)); rintro e w19 ⟨rfl, hb⟩; refine ⟨_, rfl, ?_⟩; replace HB := Aside0.mk (below_step (BL) hb); (try clear hb); (try clear hb2); (try clear hk); (try clear hi)) | ((with_reducible refine gate_callee (f := 10) rfl ?_); refine goesL_ (some 47) rfl rfl Tryd.func10 (by kernel_rfl) rfl #[.string t220] rfl (MA) ?_; (with_reducible refine (impl_ReadDecimal.calls t220 t221 t222 _ ?htb A15.out).mono ?_); (case htb => exact HasTabs.below HTB.out (BL)); rintro e w20 ⟨rfl, hb⟩; refine ⟨_, rfl, ?_⟩; replace HB := Aside0.mk (below_step (BL) hb); (try clear hb); (try clear hb2); (try clear hk); (try clear hi)) | ((with_reducible refine gate_callee (f := 20) rfl ?_); refine goesL_ (some 51) rfl rfl Tryd.func20 (by kernel_rfl) rfl #[.slice A0 l0.length c0] rfl (MA) ?_; (with_reducible refine (spec_DrawHex.calls kj7 _ _ l0 t223 _ ?side1 ?side2 A16.out).mono ?_); (case side1 => exact CB HR0.out); (case side2 => exact HC0.out); rintro e w21 ⟨rfl, hb⟩; refine ⟨_, rfl, ?_⟩; replace HB := Aside0.mk (below_step (BL) hb); (try clear hb); (try clear hb2); (try clear hk); (try clear hi)))
     (try simp only [Act.put, zA, zB, zC])
     go_cut [11] (fun v11 wc => ∃ (kq : Nat) (x11_16 : ByteArray), v11 = .string x11_16 ∧ Aside0 (laws_FnNumbers.j2 kq x3_7 t215 t216 t217 t218 t219 t221 t222 x11_16 = some r) ∧ Aside0 (kq ≤ kj7) ∧ Aside0 (Below w.heap.size w wc))
     case first =>
      have H := HC17.out; clear HC17
      by_cases c22 : (t223.size : Int) > 300
      ·
       rw [if_pos c22] at H; have c22b0 : decide (300 < (t223.size : Int)) = true := decide_eq_true c22; have c22b1 : decide (300 < t223.size) = true := decide_eq_true (by omega); clear c22
       (first | rw [c22b0] | (simp only [i64_w, i32_w]; rw [c22b0]) | skip)
       have H' := Aside0.mk H; clear H
       go_wp2
       go_meet
       case rel => exact ⟨_, ((⟨#[97, 98, 99]⟩ : ByteArray)), SD, H', ⟨by have := HJ4.out; have := HJ7.out; first | omega | exact Nat.le_refl _⟩, ⟨BL⟩⟩
      rw [if_neg c22] at H; have c22b0 : decide (300 < (t223.size : Int)) = false := decide_eq_false c22; have c22b1 : decide (300 < t223.size) = false := decide_eq_false (by omega); clear c22
      (first | rw [c22b0] | (simp only [i64_w, i32_w]; rw [c22b0]) | skip)
      have H' := Aside0.mk H; clear H
      go_wp2
      go_meet
      case rel => exact ⟨_, (t223), SD, H', ⟨by have := HJ4.out; have := HJ7.out; first | omega | exact Nat.le_refl _⟩, ⟨BL⟩⟩
     case rest =>
      clear HC17
      try clear c1 c2 p2 c3 c6 c7 c7b0 c8 c9 c10 c11 c11b0 c11b1 c11b2 c12 c12b0 c12b1 c12b2 c16 c17 c18 c19 c20 c22 c22b0 c22b1 p2
      obtain ⟨kq, x11_16, rfl, HA, HJ16, HB⟩ := hcut; cases kq with
      | zero => exact absurd HA.out (by simp [laws_FnNumbers.j2])
      | succ kj16 =>
       have H := HA.out; clear HA; simp only [laws_FnNumbers.j2] at H; replace H := Option.bind_eq_some_iff.mp H; obtain ⟨⟨t224, t225⟩, A230, H⟩ := H; replace H : ((impl_ReadShort.f kj16 t224 0).bind fun bt226 => ((impl_Hex.f kj16 x11_16).bind fun bt229 => ((impl_Unhex.f kj16 bt229.1).bind fun bt231 => (if t216 = true then (if t219 = true then (if t222 = true then (if t225 = true then (if bt226.2.2 = true then (if bt229.2 = true then (if bt231.2 = true then (if t217 = x3_7 then (if t221 = x3_7 then (if t218 = (wrap64 ((t215.size : Int) + 1)) then (if bt226.1.toList = x11_16.toList then (if bt226.2.1 = (t224.size : Int) then (some (bt231.1.toList == x11_16.toList)) else (none)) else (none)) else (none)) else (none)) else (none)) else (none)) else (none)) else (none)) else (none)) else (none)) else (none)) else (none))))) = some r := H; have A23 := Aside0.mk A230; clear A230; replace H := Option.bind_eq_some_iff.mp H; obtain ⟨⟨t226, t227, t228⟩, A240, H⟩ := H; replace H : ((impl_Hex.f kj16 x11_16).bind fun bt229 => ((impl_Unhex.f kj16 bt229.1).bind fun bt231 => (if t216 = true then (if t219 = true then (if t222 = true then (if t225 = true then (if t228 = true then (if bt229.2 = true then (if bt231.2 = true then (if t217 = x3_7 then (if t221 = x3_7 then (if t218 = (wrap64 ((t215.size : Int) + 1)) then (if t226.toList = x11_16.toList then (if t227 = (t224.size : Int) then (some (bt231.1.toList == x11_16.toList)) else (none)) else (none)) else (none)) else (none)) else (none)) else (none)) else (none)) else (none)) else (none)) else (none)) else (none)) else (none)))) = some r := H; have A24 := Aside0.mk A240; clear A240; replace H := Option.bind_eq_some_iff.mp H; obtain ⟨⟨t229, t230⟩, A250, H⟩ := H; replace H : ((impl_Unhex.f kj16 t229).bind fun bt231 => (if t216 = true then (if t219 = true then (if t222 = true then (if t225 = true then (if t228 = true then (if t230 = true then (if bt231.2 = true then (if t217 = x3_7 then (if t221 = x3_7 then (if t218 = (wrap64 ((t215.size : Int) + 1)) then (if t226.toList = x11_16.toList then (if t227 = (t224.size : Int) then (some (bt231.1.toList == x11_16.toList)) else (none)) else (none)) else (none)) else (none)) else (none)) else (none)) else (none)) else (none)) else (none)) else (none)) else (none)) else (none))) = some r := H; have A25 := Aside0.mk A250; clear A250; replace H := Option.bind_eq_some_iff.mp H; obtain ⟨⟨t231, t232⟩, A260, H⟩ := H; replace H : (if t216 = true then (if t219 = true then (if t222 = true then (if t225 = true then (if t228 = true then (if t230 = true then (if t232 = true then (if t217 = x3_7 then (if t221 = x3_7 then (if t218 = (wrap64 ((t215.size : Int) + 1)) then (if t226.toList = x11_16.toList then (if t227 = (t224.size : Int) then (some (t231.toList == x11_16.toList)) else (none)) else (none)) else (none)) else (none)) else (none)) else (none)) else (none)) else (none)) else (none)) else (none)) else (none)) else (none)) = some r := H; have A26 := Aside0.mk A260; clear A260
       by_cases c27 : t216 = true; rotate_left
       ·
        replace c27 := Bool.eq_false_iff.mpr c27; subst c27
        have H1 : (none) = some r := by rw [if_neg (show ¬ (false = true) by decide)] at H; exact H
        clear H; have H := H1; clear H1; exact absurd H (by simp)
       subst c27
       have H1 : (if t219 = true then (if t222 = true then (if t225 = true then (if t228 = true then (if t230 = true then (if t232 = true then (if t217 = x3_7 then (if t221 = x3_7 then (if t218 = (wrap64 ((t215.size : Int) + 1)) then (if t226.toList = x11_16.toList then (if t227 = (t224.size : Int) then (some (t231.toList == x11_16.toList)) else (none)) else (none)) else (none)) else (none)) else (none)) else (none)) else (none)) else (none)) else (none)) else (none)) else (none)) = some r := by rw [if_pos rfl] at H; exact H
       clear H; have H := H1; clear H1
       by_cases c28 : t219 = true; rotate_left
       ·
        replace c28 := Bool.eq_false_iff.mpr c28; subst c28
        have H1 : (none) = some r := by rw [if_neg (show ¬ (false = true) by decide)] at H; exact H
        clear H; have H := H1; clear H1; exact absurd H (by simp)
       subst c28
       have H1 : (if t222 = true then (if t225 = true then (if t228 = true then (if t230 = true then (if t232 = true then (if t217 = x3_7 then (if t221 = x3_7 then (if t218 = (wrap64 ((t215.size : Int) + 1)) then (if t226.toList = x11_16.toList then (if t227 = (t224.size : Int) then (some (t231.toList == x11_16.toList)) else (none)) else (none)) else (none)) else (none)) else (none)) else (none)) else (none)) else (none)) else (none)) else (none)) = some r := by rw [if_pos rfl] at H; exact H
       clear H; have H := H1; clear H1
       by_cases c29 : t222 = true; rotate_left
       ·
        replace c29 := Bool.eq_false_iff.mpr c29; subst c29
        have H1 : (none) = some r := by rw [if_neg (show ¬ (false = true) by decide)] at H; exact H
        clear H; have H := H1; clear H1; exact absurd H (by simp)
       subst c29
       have H1 : (if t225 = true then (if t228 = true then (if t230 = true then (if t232 = true then (if t217 = x3_7 then (if t221 = x3_7 then (if t218 = (wrap64 ((t215.size : Int) + 1)) then (if t226.toList = x11_16.toList then (if t227 = (t224.size : Int) then (some (t231.toList == x11_16.toList)) else (none)) else (none)) else (none)) else (none)) else (none)) else (none)) else (none)) else (none)) else (none)) = some r := by rw [if_pos rfl] at H; exact H
       clear H; have H := H1; clear H1
       by_cases c30 : t225 = true; rotate_left
       ·
        replace c30 := Bool.eq_false_iff.mpr c30; subst c30
        have H1 : (none) = some r := by rw [if_neg (show ¬ (false = true) by decide)] at H; exact H
        clear H; have H := H1; clear H1; exact absurd H (by simp)
       subst c30
       have H1 : (if t228 = true then (if t230 = true then (if t232 = true then (if t217 = x3_7 then (if t221 = x3_7 then (if t218 = (wrap64 ((t215.size : Int) + 1)) then (if t226.toList = x11_16.toList then (if t227 = (t224.size : Int) then (some (t231.toList == x11_16.toList)) else (none)) else (none)) else (none)) else (none)) else (none)) else (none)) else (none)) else (none)) = some r := by rw [if_pos rfl] at H; exact H
       clear H; have H := H1; clear H1
       by_cases c31 : t228 = true; rotate_left
       ·
        replace c31 := Bool.eq_false_iff.mpr c31; subst c31
        have H1 : (none) = some r := by rw [if_neg (show ¬ (false = true) by decide)] at H; exact H
        clear H; have H := H1; clear H1; exact absurd H (by simp)
       subst c31
       have H1 : (if t230 = true then (if t232 = true then (if t217 = x3_7 then (if t221 = x3_7 then (if t218 = (wrap64 ((t215.size : Int) + 1)) then (if t226.toList = x11_16.toList then (if t227 = (t224.size : Int) then (some (t231.toList == x11_16.toList)) else (none)) else (none)) else (none)) else (none)) else (none)) else (none)) else (none)) = some r := by rw [if_pos rfl] at H; exact H
       clear H; have H := H1; clear H1
       by_cases c32 : t230 = true; rotate_left
       ·
        replace c32 := Bool.eq_false_iff.mpr c32; subst c32
        have H1 : (none) = some r := by rw [if_neg (show ¬ (false = true) by decide)] at H; exact H
        clear H; have H := H1; clear H1; exact absurd H (by simp)
       subst c32
       have H1 : (if t232 = true then (if t217 = x3_7 then (if t221 = x3_7 then (if t218 = (wrap64 ((t215.size : Int) + 1)) then (if t226.toList = x11_16.toList then (if t227 = (t224.size : Int) then (some (t231.toList == x11_16.toList)) else (none)) else (none)) else (none)) else (none)) else (none)) else (none)) = some r := by rw [if_pos rfl] at H; exact H
       clear H; have H := H1; clear H1
       by_cases c33 : t232 = true; rotate_left
       ·
        replace c33 := Bool.eq_false_iff.mpr c33; subst c33
        have H1 : (none) = some r := by rw [if_neg (show ¬ (false = true) by decide)] at H; exact H
        clear H; have H := H1; clear H1; exact absurd H (by simp)
       subst c33
       have H1 : (if t217 = x3_7 then (if t221 = x3_7 then (if t218 = (wrap64 ((t215.size : Int) + 1)) then (if t226.toList = x11_16.toList then (if t227 = (t224.size : Int) then (some (t231.toList == x11_16.toList)) else (none)) else (none)) else (none)) else (none)) else (none)) = some r := by rw [if_pos rfl] at H; exact H
       clear H; have H := H1; clear H1
       by_cases c34 : t217 = x3_7; rotate_left
       ·
        rw [if_neg c34] at H; exact absurd H (by simp)
       rw [if_pos c34] at H; have c34b0 : (t217 == x3_7) = true := beq_iff_eq.mpr c34; have c34b1 : (t217 != x3_7) = false := bne_eq_false_iff_eq.mpr c34; clear c34
       by_cases c35 : t221 = x3_7; rotate_left
       ·
        rw [if_neg c35] at H; exact absurd H (by simp)
       rw [if_pos c35] at H; have c35b0 : (t221 == x3_7) = true := beq_iff_eq.mpr c35; have c35b1 : (t221 != x3_7) = false := bne_eq_false_iff_eq.mpr c35; clear c35
       by_cases c36 : t218 = (wrap64 ((t215.size : Int) + 1)); rotate_left
       ·
        rw [if_neg c36] at H; exact absurd H (by simp)
       rw [if_pos c36] at H; have c36b0 : (t218 == (wrap64 ((t215.size : Int) + 1))) = true := beq_iff_eq.mpr c36; have c36b1 : (t218 != (wrap64 ((t215.size : Int) + 1))) = false := bne_eq_false_iff_eq.mpr c36; have c36b2 : t218 = (t215.size : Int) + 1 := c36.trans (by unfold wrap64; omega); have c36b3 : (t218 == (t215.size : Int) + 1) = true := beq_iff_eq.mpr c36b2; clear c36
       by_cases c37 : t226.toList = x11_16.toList; rotate_left
       ·
        rw [if_neg c37] at H; exact absurd H (by simp)
       rw [if_pos c37] at H; have c37b0 : (t226.toList == x11_16.toList) = true := beq_iff_eq.mpr c37; have c37b1 : (t226.toList != x11_16.toList) = false := bne_eq_false_iff_eq.mpr c37; clear c37
       by_cases c38 : t227 = (t224.size : Int); rotate_left
       ·
        rw [if_neg c38] at H; exact absurd H (by simp)
       rw [if_pos c38] at H; have c38b0 : (t227 == (t224.size : Int)) = true := beq_iff_eq.mpr c38; have c38b1 : (t227 != (t224.size : Int)) = false := bne_eq_false_iff_eq.mpr c38; clear c38; obtain rfl := Option.some.inj H
       go_wp2_with (first | ((with_reducible refine gate_callee (f := 21) rfl ?_); refine goesL_ (some 57) rfl rfl Tryd.func21 (by kernel_rfl) rfl #[.string x11_16] rfl (MA) ?_; (with_reducible refine (impl_ShortText.calls kj16 x11_16 t224 true _ A23.out).mono ?_); rintro e w39 ⟨rfl, hb⟩; refine ⟨_, rfl, ?_⟩; replace HB := Aside0.mk (below_step (BL) hb); (try clear hb); (try clear hb2); (try clear hk); (try clear hi)) | ((with_reducible refine gate_callee (f := 22) rfl ?_); refine goesL_ (some 62) rfl rfl Tryd.func22 (by kernel_rfl) rfl #[.string t224, .int .i64 0] rfl (MA) ?_; (with_reducible refine (impl_ReadShort.calls kj16 t224 0 t226 t227 true _ A24.out).mono ?_); rintro e w' ⟨rfl, ⟨nd, rfl⟩⟩; refine ⟨_, rfl, ?_⟩) | ((with_reducible refine gate_callee (f := 23) rfl ?_); refine goesL_ (some 68) rfl rfl Tryd.func23 (by kernel_rfl) rfl #[.string x11_16] rfl (MA) ?_; (with_reducible refine (impl_Hex.calls kj16 x11_16 t229 true _ A25.out).mono ?_); rintro e w40 ⟨rfl, hb⟩; refine ⟨_, rfl, ?_⟩; replace HB := Aside0.mk (below_step (BL) hb); (try clear hb); (try clear hb2); (try clear hk); (try clear hi)) | ((with_reducible refine gate_callee (f := 24) rfl ?_); refine goesL_ (some 73) rfl rfl Tryd.func24 (by kernel_rfl) rfl #[.string t229] rfl (MA) ?_; (with_reducible refine (impl_Unhex.calls kj16 t229 t231 true _ A26.out).mono ?_); rintro e w41 ⟨rfl, hb⟩; refine ⟨_, rfl, ?_⟩; replace HB := Aside0.mk (below_step (BL) hb); (try clear hb); (try clear hb2); (try clear hk); (try clear hi)))
       go_ret
       exact ⟨EE, BL⟩

/-- THE ONE PURE STATEMENT of laws_FnNumbers: yours. -/
def laws_FnNumbers.Pure : Prop := ∀ (l0 : List Int), l0.length ≤ maxLen → l0.length * 1 ≤ 140737488351232 → (∀ x ∈ l0, (Lit.int .u8 x).wf = true) → ∃ k, laws_FnNumbers.f k l0 = some true
theorem laws_FnNumbers.walk (P : laws_FnNumbers.Pure) (a0 : Option Addr) (len0 cap0 : Nat) (z0 : List Int) (w : World) (htb : HasTabs w) (w0 : (a0 = none ∧ len0 = 0 ∧ cap0 = 0 ∧ z0 = []) ∨ ∃ x, a0 = some x ∧ len0 ≤ cap0 ∧ cap0 ≤ maxLen ∧ z0.length = cap0 ∧ (∀ i, i < z0.length → w.cell? (x.add i) = some (.int .u8 (z0.getD i 0))) ∧ ∀ n ∈ z0, (Lit.int .u8 n).wf = true) (y0 : len0 * 1 ≤ 140737488351232) :
  Calls Tryd.prog 6 #[.slice a0 len0 cap0] w fun e w' => e = .returned (.bool true) ∧ Below w.heap.size w w' := by
 obtain ⟨l0, rfl, hr0, hm0, hw0, hc0⟩ := ReadsInt.ofRowC w0
 obtain ⟨k, h⟩ := P l0 hm0 y0 hw0
 refine (laws_FnNumbers.calls k _ _ l0 true w htb (Kd.C_of_reads (d := (0 : Int)) (h1 := fun _ => rfl) hr0) hc0 h).mono ?_
 rintro e w' ⟨rfl, hd⟩
 exact ⟨rfl, hd⟩

end Go.Proofs.YtmmpjeadjfamfaaDoor.Qdn
