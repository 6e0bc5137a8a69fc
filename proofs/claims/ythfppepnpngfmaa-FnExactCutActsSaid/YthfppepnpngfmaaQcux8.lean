-- Laid by myprint.py, a program of this session's own, over the kit's print. Not trusted: Lean checks it.
import Derived.Test.YthfppepnpngfmaaQcux0
namespace Go.Proofs.Ythfppepnpngfmaa.Qcu
open Go.RowKit Go.Proofs.YthfppepnpngfmaaW.PrintWords Go.Proofs.YthfppepnpngfmaaW.PrintLast Go.Proofs.YthfppepnpngfmaaW.PrintMore
attribute [local go_sem] Go.Proofs.Ythfppepnpngfmaa.StrCmp.gtr_less Go.Proofs.Ythfppepnpngfmaa.StrCmp.geq_less Go.Proofs.Ythfppepnpngfmaa.StrCmp.leq_less max2_int min2_int max_two min_two max_three min_three max_four min_four   -- for this text's walks alone
set_option linter.unusedVariables false
set_option linter.unusedSimpArgs false

/-! ### spec_l03Put: function 58 -/
mutual
def spec_l03Put.l0 : Nat → Int → List (S45) → ByteArray → ByteArray → Int → List (S45) → Option ((List (S45)))
 | 0, _, _, _, _, _, _ => none
 | k + 1, x6, x302000, x303000, x303001, x303002, x305000 => if x6 < (x302000.length : Int) then (if 0 ≤ x6 then (if (Op.bytesLess (((rd_T45 x302000 x6).f0).toList) x303000.toList) = true then (if x305000.length < 3518437208883 then (spec_l03Put.l0 k (wrap64 (x6 + 1)) x302000 x303000 x303001 x303002 (x305000 ++ [(⟨(rd_T45 x302000 x6).f0, (rd_T45 x302000 x6).f1, (rd_T45 x302000 x6).f2⟩ : S45)])) else (none)) else (spec_l03Put.l0 k (wrap64 (x6 + 1)) x302000 x303000 x303001 x303002 x305000)) else (none)) else (if x305000.length < 3518437208883 then (spec_l03Put.l1 k 0 x302000 x303000 x303001 x303002 (x305000 ++ [(⟨x303000, x303001, x303002⟩ : S45)])) else (none))
def spec_l03Put.l1 : Nat → Int → List (S45) → ByteArray → ByteArray → Int → List (S45) → Option ((List (S45)))
 | 0, _, _, _, _, _, _ => none
 | k + 1, x7, x302000, x303000, x303001, x303002, x305000 => if x7 < (x302000.length : Int) then (if 0 ≤ x7 then (if (Op.bytesLess x303000.toList (((rd_T45 x302000 x7).f0).toList)) = true then (if x305000.length < 3518437208883 then (spec_l03Put.l1 k (wrap64 (x7 + 1)) x302000 x303000 x303001 x303002 (x305000 ++ [(⟨(rd_T45 x302000 x7).f0, (rd_T45 x302000 x7).f1, (rd_T45 x302000 x7).f2⟩ : S45)])) else (none)) else (spec_l03Put.l1 k (wrap64 (x7 + 1)) x302000 x303000 x303001 x303002 x305000)) else (none)) else (some x305000)
end
def spec_l03Put.f (k : Nat) (l0_0 : List (S45)) (a1_0 : ByteArray) (a1_1 : ByteArray) (a1_2 : Int) : Option ((List (S45))) := spec_l03Put.l0 k 0 l0_0 a1_0 a1_1 a1_2 ([] : List (S45))
theorem spec_l03Put.mono_l : ∀ k, (∀ y0 y1 y2 y3 y4 y5, LeO (spec_l03Put.l0 k y0 y1 y2 y3 y4 y5) (spec_l03Put.l0 (k + 1) y0 y1 y2 y3 y4 y5)) ∧ (∀ y0 y1 y2 y3 y4 y5, LeO (spec_l03Put.l1 k y0 y1 y2 y3 y4 y5) (spec_l03Put.l1 (k + 1) y0 y1 y2 y3 y4 y5))
 | 0 => ⟨fun _ _ _ _ _ _ r h => by simp [spec_l03Put.l0] at h, fun _ _ _ _ _ _ r h => by simp [spec_l03Put.l1] at h⟩
 | k + 1 => by
  obtain ⟨ih0, ih1⟩ := spec_l03Put.mono_l k; refine ⟨?_, ?_⟩
  ·
   intro y0 y1 y2 y3 y4 y5
   unfold spec_l03Put.l0
   repeat' first
   | (with_reducible exact ih0 _ _ _ _ _ _)
   | (with_reducible exact ih1 _ _ _ _ _ _)
   | (with_reducible exact LeO.refl _)
   | (with_reducible exact LeO.none _)
   | (with_reducible refine LeO.ite ?_ ?_)
   | (with_reducible refine LeO.bind ?_ (fun _ => ?_))
   | exact ih0 _ _ _ _ _ _
   | exact ih1 _ _ _ _ _ _
   | exact LeO.none _
   | refine LeO.ite ?_ ?_
   | refine LeO.bind ?_ (fun _ => ?_)
  ·
   intro y0 y1 y2 y3 y4 y5
   unfold spec_l03Put.l1
   repeat' first
   | (with_reducible exact ih0 _ _ _ _ _ _)
   | (with_reducible exact ih1 _ _ _ _ _ _)
   | (with_reducible exact LeO.refl _)
   | (with_reducible exact LeO.none _)
   | (with_reducible refine LeO.ite ?_ ?_)
   | (with_reducible refine LeO.bind ?_ (fun _ => ?_))
   | exact ih0 _ _ _ _ _ _
   | exact ih1 _ _ _ _ _ _
   | exact LeO.none _
   | refine LeO.ite ?_ ?_
   | refine LeO.bind ?_ (fun _ => ?_)
theorem spec_l03Put.mono : ∀ a0 a1 a2 a3 k, LeO (spec_l03Put.f k a0 a1 a2 a3) (spec_l03Put.f (k + 1) a0 a1 a2 a3) := by
 intro a0 a1 a2 a3 k
 obtain ⟨ih0, ih1⟩ := spec_l03Put.mono_l k
 unfold spec_l03Put.f
 repeat' first
   | (with_reducible exact ih0 _ _ _ _ _ _)
   | (with_reducible exact ih1 _ _ _ _ _ _)
   | (with_reducible exact LeO.refl _)
   | (with_reducible exact LeO.none _)
   | (with_reducible refine LeO.ite ?_ ?_)
   | (with_reducible refine LeO.bind ?_ (fun _ => ?_))
   | exact ih0 _ _ _ _ _ _
   | exact ih1 _ _ _ _ _ _
   | exact LeO.none _
   | refine LeO.ite ?_ ?_
   | refine LeO.bind ?_ (fun _ => ?_)
def spec_l03Put.T5 : Bool × List (List Nat × List Nat) := (true, [([], []), ([0], [0]), ([], []), ([1, 2], [1, 2]), ([3], [3]), ([4], [4]), ([], []), ([6], [6]), ([5, 7], [5, 7])])
def spec_l03Put.B5 : List Nat := [0, 1, 0, 7, 15, 31, 0, 64, 255]
theorem spec_l03Put.tab5 : rtab .any (opsOf Try.f58 5) = spec_l03Put.T5 := by kernel_rfl
theorem spec_l03Put.bits5 : waitsOk spec_l03Put.T5.2 spec_l03Put.B5 = true := by kernel_rfl
def spec_l03Put.T6 : Bool × List (List Nat × List Nat) := (true, [([], []), ([0], [0]), ([], []), ([2], [2]), ([], []), ([3, 4], [3, 4]), ([5], [5]), ([6], [6]), ([1, 7], [1, 7]), ([0, 1, 2, 3, 4, 5, 6, 7, 8], []), ([9, 8, 8, 0, 1, 2, 3, 4, 5, 6, 7, 8], [8, 9])])
def spec_l03Put.B6 : List Nat := [0, 1, 0, 4, 0, 28, 60, 124, 255, 511, 1023]
theorem spec_l03Put.tab6 : rtab .any (opsOf Try.f58 6) = spec_l03Put.T6 := by kernel_rfl
theorem spec_l03Put.bits6 : waitsOk spec_l03Put.T6.2 spec_l03Put.B6 = true := by kernel_rfl
def spec_l03Put.T11 : Bool × List (List Nat × List Nat) := (true, [([], []), ([0], [0]), ([], []), ([1, 2], [1, 2]), ([3], [3]), ([4], [4]), ([], []), ([6], [6]), ([5, 7], [5, 7])])
def spec_l03Put.B11 : List Nat := [0, 1, 0, 7, 15, 31, 0, 64, 255]
theorem spec_l03Put.tab11 : rtab .any (opsOf Try.f58 11) = spec_l03Put.T11 := by kernel_rfl
theorem spec_l03Put.bits11 : waitsOk spec_l03Put.T11.2 spec_l03Put.B11 = true := by kernel_rfl
def spec_l03Put.T12 : Bool × List (List Nat × List Nat) := (true, [([], []), ([0], [0]), ([], []), ([2], [2]), ([], []), ([3, 4], [3, 4]), ([5], [5]), ([6], [6]), ([1, 7], [1, 7]), ([0, 1, 2, 3, 4, 5, 6, 7, 8], []), ([9, 8, 8, 0, 1, 2, 3, 4, 5, 6, 7, 8], [8, 9])])
def spec_l03Put.B12 : List Nat := [0, 1, 0, 4, 0, 28, 60, 124, 255, 511, 1023]
theorem spec_l03Put.tab12 : rtab .any (opsOf Try.f58 12) = spec_l03Put.T12 := by kernel_rfl
theorem spec_l03Put.bits12 : waitsOk spec_l03Put.T12.2 spec_l03Put.B12 = true := by kernel_rfl
set_option maxHeartbeats 8000000 in
set_option maxRecDepth 100000 in
theorem spec_l03Put.calls (k : Nat) (A0_0 : Option Addr) (c0_0 : Nat) (l0_0 : List (S45)) (a1_0 : ByteArray) (a1_1 : ByteArray) (a1_2 : Int) (r : List (S45)) (w : World) (hr0_0 : Kd.C k45 w A0_0 l0_0.length l0_0) (hc0_0 : l0_0.length ≤ c0_0) (h : spec_l03Put.f k l0_0 a1_0 a1_1 a1_2 = some r) :
  Calls Try.prog 58 #[.agg #[.slice A0_0 l0_0.length c0_0], .agg #[.string a1_0, .string a1_1, .int .i64 a1_2]] w fun e w' => ∃ v0_ : Value, e = .returned (.agg #[v0_]) ∧ Kd.R k45 45 w' w.heap.size (fun _ => True) v0_ r ∧ Below w.heap.size w w' := by
 have hu29 := Try.underlying29
 have hu45 := Try.underlying45
 have HR0_0 := Aside0.mk hr0_0
 have HC0_0 := Aside0.mk hc0_0
 clear hr0_0 hc0_0
 have HB := Aside0.mk (Below.refl w.heap.size w)
 have H : (spec_l03Put.l0 k 0 l0_0 a1_0 a1_1 a1_2 ([] : List (S45))) = some r := h
 clear h
 have H' := Aside0.mk H
 clear H
 go_enter Try.func58, Try.ntmps58
 go_wp2_with (first | ((with_reducible refine gate_dst (N := 2) rfl ?_); refine bE 2 #[.slice A0_0 l0_0.length c0_0] 29 ?_; intro gb301 hg w3 hbox hb; have BK301 := Aside0.mk (hbox); have GW301 : Aside0 (w.heap.size ≤ gb301) := GS; have GE301 := GW301; replace HB := Aside0.mk (below_step (BL) hb); clear hb hbox hg) | ((with_reducible refine gate_dst (N := 3) rfl ?_); refine bE 3 #[.string a1_0, .string a1_1, .int .i64 a1_2] 45 ?_; intro gb302 hg w4 hbox hb; have BK302 := Aside0.mk (hbox); have GW302 : Aside0 (w.heap.size ≤ gb302) := GS; have GE302 := GW302; have NB301_302 := NL BK301.out hg; have NB302_301 := NG BK301.out hg; replace BK301 := BB BK301.out hb; replace HB := Aside0.mk (below_step (BL) hb); clear hb hbox hg) | ((with_reducible refine gate_dst (N := 4) rfl ?_); refine bE 4 #[.slice none 0 0] 29 ?_; intro gb303 hg w5 hbox hb; have BK303 := Aside0.mk (hbox); have GW303 : Aside0 (w.heap.size ≤ gb303) := GS; have GE303 := GW303; have NB301_303 := NL BK301.out hg; have NB303_301 := NG BK301.out hg; have NB302_303 := NL BK302.out hg; have NB303_302 := NG BK302.out hg; replace BK301 := BB BK301.out hb; replace BK302 := BB BK302.out hb; replace HB := Aside0.mk (below_step (BL) hb); clear hb hbox hg) | ((with_reducible refine gate_dst (N := 5) rfl ?_); refine bE 5 #[.slice none 0 0] 29 ?_; intro gb304 hg w6 hbox hb; have BK304 := Aside0.mk (hbox); have GW304 : Aside0 (w.heap.size ≤ gb304) := GS; have GE304 := GW304; have NB301_304 := NL BK301.out hg; have NB304_301 := NG BK301.out hg; have NB302_304 := NL BK302.out hg; have NB304_302 := NG BK302.out hg; have NB303_304 := NL BK303.out hg; have NB304_303 := NG BK303.out hg; replace BK301 := BB BK301.out hb; replace BK302 := BB BK302.out hb; replace BK303 := BB BK303.out hb; replace HB := Aside0.mk (below_step (BL) hb); clear hb hbox hg; have hnb7 := NB304_301.out; have hnc7 := NB301_304.out; have hnb8 := NB304_302.out; have hnc8 := NB302_304.out; have hnb9 := NB304_303.out; have hnc9 := NB303_304.out; have hcz10_0 : w6.cell? ⟨gb304, 0, none⟩ = some (.slice none 0 0) := CZ BK304.out 0; have hfz10_0 := blk_frozen BK304.out 0))
 go_loopg [6] k (fun kq v6 w' => ∃ (x6_1 : Int) (x305000_1 : List (S45)) (u305000 : Value), v6 = .int .i64 x6_1 ∧ Aside0 (spec_l03Put.l0 kq x6_1 l0_0 a1_0 a1_1 a1_2 x305000_1 = some r) ∧ Aside0 (kq ≤ k) ∧ Aside0 (Kd.R k45 45 w' w.heap.size (fun k_ => k_ ≠ gb302) u305000 x305000_1) ∧ Aside0 (w'.heap[gb301]? = some (.cells #[(.slice A0_0 l0_0.length c0_0)] 29 (0, 0))) ∧ Aside0 (w'.heap[gb302]? = some (.cells #[.string a1_0, .string a1_1, .int .i64 a1_2] 45 (0, 0))) ∧ Aside0 (w'.heap[gb303]? = some (.cells #[(.slice none 0 0)] 29 (0, 0))) ∧ Aside0 (w'.heap[gb304]? = some (.cells #[u305000] 29 (0, 0))) ∧ Aside0 (Below w.heap.size w w'))
 case atStart => exact ⟨(0), (([] : List (S45))), (.slice none 0 0), SD, H', ⟨Nat.le_refl _⟩, ⟨by first | exact Kd.R_nil _ _ _ _ _ | exact Kd.N_nil _ _ _ _ _ | exact Kd.V_nil _ _ _ _ _ | exact Kd.Q_nil _ _ _ _ _ | exact Kd.S_nil _ _ _ _ _⟩, ⟨BP BK301.out⟩, ⟨BP BK302.out⟩, ⟨BP BK303.out⟩, ⟨BU BK304.out⟩, ⟨BL⟩⟩
 case round =>
  clear H'
  try clear p2 c5 c7 c8 c9 hcz10_0 hfz10_0
  obtain ⟨x6_1, x305000_1, u305000, rfl, HA, HK1, HO_305000, BK301, BK302, BK303, BK304, HB⟩ := hrel; cases gk with
  | zero => exact absurd HA.out (by simp [spec_l03Put.l0])
  | succ k1 =>
   have H := HA.out; clear HA; simp only [spec_l03Put.l0] at H
   by_cases c11 : x6_1 < (l0_0.length : Int)
   ·
    rw [if_pos c11] at H; have c11b0 : decide (x6_1 < (l0_0.length : Int)) = true := decide_eq_true c11; clear c11
    by_cases c12 : 0 ≤ x6_1; rotate_left
    ·
     rw [if_neg c12] at H; exact absurd H (by simp)
    rw [if_pos c12] at H; have c12b0 : decide (0 ≤ x6_1) = true := decide_eq_true c12; clear c12
    by_cases c13 : (Op.bytesLess (((rd_T45 l0_0 x6_1).f0).toList) a1_0.toList) = true; rotate_left
    ·
     rw [if_neg c13] at H
     have c13b0 : (Op.bytesLess (((rd_T45 l0_0 x6_1).f0).toList) a1_0.toList) = false := by simpa using c13
     clear c13; have H' := Aside0.mk H; clear H; have hnb24 := NB301_302.out; have hnc24 := NB302_301.out; have hnb25 := NB301_303.out; have hnc25 := NB303_301.out; have hnb26 := NB301_304.out; have hnc26 := NB304_301.out; have hcz27_0 : wr.cell? ⟨gb301, 0, none⟩ = some (.slice A0_0 l0_0.length c0_0) := CZ BK301.out 0; have hfz27_0 := blk_frozen BK301.out 0
     try go_wp2
     have n0_ := Aside0.mk (Kd.R_drew HO_305000.out); have n1_ := Aside0.mk (blk_drew BK301.out); have n2_ := Aside0.mk (blk_drew BK302.out); have n3_ := Aside0.mk (blk_drew BK303.out); have n4_ := Aside0.mk (blk_drew BK304.out); have n5_ := Aside0.mk (below_drew1 HB.out); clear HO_305000; clear BK301; clear BK302; clear BK303; clear BK304; clear HB; have HO_305000 := n0_; have BK301 := n1_; have BK302 := n2_; have BK303 := n3_; have BK304 := n4_; have HB := n5_; clear n0_ n1_ n2_ n3_ n4_ n5_; have p305 : 0 ≤ (x6_1 : Int) := of_decide_eq_true AS; have q305 : x6_1 < (l0_0.length : Int) := of_decide_eq_true AS; obtain ⟨ad305, e305, hx305_0, hx305_1, hx305_2⟩ := at_T45 HR0_0.out x6_1 p305 q305; have hw305_2 := hx305_2; have hw305_1 := hx305_1; have hw305_0 := hx305_0; cases e305; replace hx305_0 := (HB.out.cell (World.block_lt_of_cell? w _ hx305_0)).trans hx305_0; replace hx305_1 := (HB.out.cell (World.block_lt_of_cell? w _ hx305_1)).trans hx305_1; replace hx305_2 := (HB.out.cell (World.block_lt_of_cell? w _ hx305_2)).trans hx305_2; replace p305 := eq_true p305; replace q305 := eq_true q305; refine start_ (n := 9) (S := fun w' => w'.cell? ⟨gb301, 0, none⟩ = some (.slice (some ad305) l0_0.length c0_0) ∧ w'.cell? ⟨gb302, 0, none⟩ = some (.string a1_0) ∧ w'.cell? ⟨gb302, 1, none⟩ = some (.string a1_1) ∧ w'.cell? ⟨gb302, 2, none⟩ = some (.int .i64 a1_2) ∧ w'.cell? (ad305.add ((x6_1).toNat * 3)) = some (.string ((rd_T45 l0_0 x6_1).f0)) ∧ w'.cell? ⟨(ad305.add ((x6_1).toNat * 3)).block, (ad305.add ((x6_1).toNat * 3)).off + 1, none⟩ = some (.string ((rd_T45 l0_0 x6_1).f1)) ∧ w'.cell? ⟨(ad305.add ((x6_1).toNat * 3)).block, (ad305.add ((x6_1).toNat * 3)).off + 2, none⟩ = some (.int .i64 ((rd_T45 l0_0 x6_1).f2))) (ds := []) #[false, false, false, false, false, false, false, false, false] (by kernel_rfl) rfl rfl ⟨CZ BK301.out 0, CZ BK302.out 0, CZ BK302.out 1, CZ BK302.out 2, ((HB.out.cell (World.block_lt_of_cell? w _ hw305_0)).trans hw305_0), ((HB.out.cell (World.block_lt_of_cell? w _ hw305_1)).trans hw305_1), ((HB.out.cell (World.block_lt_of_cell? w _ hw305_2)).trans hw305_2)⟩ (fun hHeld => ?_); refine with_tabW spec_l03Put.tab5 spec_l03Put.bits5 (fun HT_ HW_ => ?_); generalize wr.drew = w28 at HO_305000 BK301 BK302 BK303 BK304 HB hx305_0 hx305_1 hx305_2 hHeld ⊢; refine pV 0 16 (OB 9 1) ?_; refine pV 2 18 (OB 9 5) ?_; refine pV 6 22 (OB 9 69) ?_; refine take_ (i := 1) (N := some 17) (v := ?_) (a' := ?_) (OB 9 71) rfl rfl (take_ofW HT_.out HW_.out (by kernel_rfl)) (fun _ _ _ h => h) (Or.inl ⟨by rfl, ?_⟩) hHeld ?_ ?_; rotate_left
     ·
      rintro w' ⟨s0, s1, s2, s3, s4, s5, s6⟩
      go_simp
      with_reducible rfl
     rotate_left
     ·
      simp only [Act.put, zA, zB, zC, i64_w, i32_w]; rfl
     refine pV 3 19 (OB 9 79) ?_; refine pV 4 20 (OB 9 95) ?_; refine take_ (i := 5) (N := some 21) (v := ?_) (a' := ?_) (OB 9 127) rfl rfl (take_ofW HT_.out HW_.out (by kernel_rfl)) (fun _ _ _ h => h) (Or.inl ⟨by rfl, ?_⟩) hHeld ?_ ?_; rotate_left
     ·
      rintro w' ⟨s0, s1, s2, s3, s4, s5, s6⟩
      go_simp
      with_reducible rfl
     rotate_left
     ·
      simp only [Act.put, zA, zB, zC, i64_w, i32_w]; rfl
     refine take_ (i := 7) (N := some 23) (v := ?_) (a' := ?_) (OB 9 255) rfl rfl (take_ofW HT_.out HW_.out (by kernel_rfl)) (fun _ _ _ h => h) (Or.inl ⟨by rfl, ?_⟩) hHeld ?_ ?_; rotate_left
     ·
      rintro w' ⟨s0, s1, s2, s3, s4, s5, s6⟩
      go_simp
      with_reducible rfl
     rotate_left
     ·
      simp only [Act.put, zA, zB, zC, i64_w, i32_w]; rfl
     refine pV 8 24 (OB 9 511) ?_; refine done_ (done_of HT_.out (by kernel_rfl)) ?_
     try go_wp2
     go_roundg k1
     case measure => have := HK1.out; omega
     case rel => exact ⟨(wrap64 (x6_1 + 1)), (x305000_1), (u305000), SD, H', ⟨by have := HK1.out; omega⟩, ⟨RQ HO_305000.out⟩, ⟨BQ BK301.out⟩, ⟨BQ BK302.out⟩, ⟨BQ BK303.out⟩, ⟨BQ BK304.out⟩, ⟨BL⟩⟩
    rw [if_pos c13] at H; have c13b0 : (Op.bytesLess (((rd_T45 l0_0 x6_1).f0).toList) a1_0.toList) = true := c13; clear c13
    by_cases c14 : x305000_1.length < 3518437208883; rotate_left
    ·
     rw [if_neg c14] at H; exact absurd H (by simp)
    rw [if_pos c14] at H; have LMc14 := Aside0.mk c14; clear c14; obtain ⟨y307, hy307⟩ : ∃ y_ : List (S45), y_ = (x305000_1 ++ [(⟨(rd_T45 l0_0 x6_1).f0, (rd_T45 l0_0 x6_1).f1, (rd_T45 l0_0 x6_1).f2⟩ : S45)]) := ⟨_, rfl⟩
    replace H : (spec_l03Put.l0 k1 (wrap64 (x6_1 + 1)) l0_0 a1_0 a1_1 a1_2 y307) = some r := by first | (rw [hy307]; with_reducible exact H) | (have H2_ := (Option.bind_some _ _).symm.trans H; rw [hy307]; with_reducible exact H2_) | (have H2_ := (Option.bind_some _ _).symm.trans H; with_reducible exact H2_) | with_reducible exact H | (rw [hy307]; exact H) | exact H
    have Ny307 := Aside0.mk hy307; clear hy307; have H' := Aside0.mk H; clear H; have hnb15 := NB301_302.out; have hnc15 := NB302_301.out; have hnb16 := NB301_303.out; have hnc16 := NB303_301.out; have hnb17 := NB301_304.out; have hnc17 := NB304_301.out; have hcz18_0 : wr.cell? ⟨gb301, 0, none⟩ = some (.slice A0_0 l0_0.length c0_0) := CZ BK301.out 0; have hfz18_0 := blk_frozen BK301.out 0
    try go_wp2
    have n0_ := Aside0.mk (Kd.R_drew HO_305000.out); have n1_ := Aside0.mk (blk_drew BK301.out); have n2_ := Aside0.mk (blk_drew BK302.out); have n3_ := Aside0.mk (blk_drew BK303.out); have n4_ := Aside0.mk (blk_drew BK304.out); have n5_ := Aside0.mk (below_drew1 HB.out); clear HO_305000; clear BK301; clear BK302; clear BK303; clear BK304; clear HB; have HO_305000 := n0_; have BK301 := n1_; have BK302 := n2_; have BK303 := n3_; have BK304 := n4_; have HB := n5_; clear n0_ n1_ n2_ n3_ n4_ n5_; have p305 : 0 ≤ (x6_1 : Int) := of_decide_eq_true AS; have q305 : x6_1 < (l0_0.length : Int) := of_decide_eq_true AS; obtain ⟨ad305, e305, hx305_0, hx305_1, hx305_2⟩ := at_T45 HR0_0.out x6_1 p305 q305; have hw305_2 := hx305_2; have hw305_1 := hx305_1; have hw305_0 := hx305_0; cases e305; replace hx305_0 := (HB.out.cell (World.block_lt_of_cell? w _ hx305_0)).trans hx305_0; replace hx305_1 := (HB.out.cell (World.block_lt_of_cell? w _ hx305_1)).trans hx305_1; replace hx305_2 := (HB.out.cell (World.block_lt_of_cell? w _ hx305_2)).trans hx305_2; replace p305 := eq_true p305; replace q305 := eq_true q305; refine start_ (n := 9) (S := fun w' => w'.cell? ⟨gb301, 0, none⟩ = some (.slice (some ad305) l0_0.length c0_0) ∧ w'.cell? ⟨gb302, 0, none⟩ = some (.string a1_0) ∧ w'.cell? ⟨gb302, 1, none⟩ = some (.string a1_1) ∧ w'.cell? ⟨gb302, 2, none⟩ = some (.int .i64 a1_2) ∧ w'.cell? (ad305.add ((x6_1).toNat * 3)) = some (.string ((rd_T45 l0_0 x6_1).f0)) ∧ w'.cell? ⟨(ad305.add ((x6_1).toNat * 3)).block, (ad305.add ((x6_1).toNat * 3)).off + 1, none⟩ = some (.string ((rd_T45 l0_0 x6_1).f1)) ∧ w'.cell? ⟨(ad305.add ((x6_1).toNat * 3)).block, (ad305.add ((x6_1).toNat * 3)).off + 2, none⟩ = some (.int .i64 ((rd_T45 l0_0 x6_1).f2))) (ds := []) #[false, false, false, false, false, false, false, false, false] (by kernel_rfl) rfl rfl ⟨CZ BK301.out 0, CZ BK302.out 0, CZ BK302.out 1, CZ BK302.out 2, ((HB.out.cell (World.block_lt_of_cell? w _ hw305_0)).trans hw305_0), ((HB.out.cell (World.block_lt_of_cell? w _ hw305_1)).trans hw305_1), ((HB.out.cell (World.block_lt_of_cell? w _ hw305_2)).trans hw305_2)⟩ (fun hHeld => ?_); refine with_tabW spec_l03Put.tab5 spec_l03Put.bits5 (fun HT_ HW_ => ?_); generalize wr.drew = w19 at HO_305000 BK301 BK302 BK303 BK304 HB hx305_0 hx305_1 hx305_2 hHeld ⊢; refine pV 0 16 (OB 9 1) ?_; refine pV 2 18 (OB 9 5) ?_; refine pV 6 22 (OB 9 69) ?_; refine take_ (i := 1) (N := some 17) (v := ?_) (a' := ?_) (OB 9 71) rfl rfl (take_ofW HT_.out HW_.out (by kernel_rfl)) (fun _ _ _ h => h) (Or.inl ⟨by rfl, ?_⟩) hHeld ?_ ?_; rotate_left
    ·
     rintro w' ⟨s0, s1, s2, s3, s4, s5, s6⟩
     go_simp
     with_reducible rfl
    rotate_left
    ·
     simp only [Act.put, zA, zB, zC, i64_w, i32_w]; rfl
    refine pV 3 19 (OB 9 79) ?_; refine pV 4 20 (OB 9 95) ?_; refine take_ (i := 5) (N := some 21) (v := ?_) (a' := ?_) (OB 9 127) rfl rfl (take_ofW HT_.out HW_.out (by kernel_rfl)) (fun _ _ _ h => h) (Or.inl ⟨by rfl, ?_⟩) hHeld ?_ ?_; rotate_left
    ·
     rintro w' ⟨s0, s1, s2, s3, s4, s5, s6⟩
     go_simp
     with_reducible rfl
    rotate_left
    ·
     simp only [Act.put, zA, zB, zC, i64_w, i32_w]; rfl
    refine take_ (i := 7) (N := some 23) (v := ?_) (a' := ?_) (OB 9 255) rfl rfl (take_ofW HT_.out HW_.out (by kernel_rfl)) (fun _ _ _ h => h) (Or.inl ⟨by rfl, ?_⟩) hHeld ?_ ?_; rotate_left
    ·
     rintro w' ⟨s0, s1, s2, s3, s4, s5, s6⟩
     go_simp
     with_reducible rfl
    rotate_left
    ·
     simp only [Act.put, zA, zB, zC, i64_w, i32_w]; rfl
    refine pV 8 24 (OB 9 511) ?_; refine done_ (done_of HT_.out (by kernel_rfl)) ?_
    try go_wp2
    have n0_ := Aside0.mk (Kd.R_drew HO_305000.out); have n1_ := Aside0.mk (blk_drew BK301.out); have n2_ := Aside0.mk (blk_drew BK302.out); have n3_ := Aside0.mk (blk_drew BK303.out); have n4_ := Aside0.mk (blk_drew BK304.out); have n5_ := Aside0.mk (below_drew1 HB.out); clear HO_305000; clear BK301; clear BK302; clear BK303; clear BK304; clear HB; have HO_305000 := n0_; have BK301 := n1_; have BK302 := n2_; have BK303 := n3_; have BK304 := n4_; have HB := n5_; clear n0_ n1_ n2_ n3_ n4_ n5_; have p306 : 0 ≤ (x6_1 : Int) := of_decide_eq_true AS; have q306 : x6_1 < (l0_0.length : Int) := of_decide_eq_true AS; obtain ⟨ad306, e306, hx306_0, hx306_1, hx306_2⟩ := at_T45 HR0_0.out x6_1 p306 q306; have hw306_2 := hx306_2; have hw306_1 := hx306_1; have hw306_0 := hx306_0; obtain rfl : ad305 = ad306 := (by injection e306); replace hx306_0 := (HB.out.cell (World.block_lt_of_cell? w _ hx306_0)).trans hx306_0; replace hx306_1 := (HB.out.cell (World.block_lt_of_cell? w _ hx306_1)).trans hx306_1; replace hx306_2 := (HB.out.cell (World.block_lt_of_cell? w _ hx306_2)).trans hx306_2; replace p306 := eq_true p306; replace q306 := eq_true q306; refine start_ (n := 11) (S := fun w' => w'.cell? ⟨gb304, 0, none⟩ = some (u305000) ∧ w'.cell? ⟨gb301, 0, none⟩ = some (.slice (some ad305) l0_0.length c0_0) ∧ w'.cell? (ad305.add ((x6_1).toNat * 3)) = some (.string ((rd_T45 l0_0 x6_1).f0)) ∧ w'.cell? ⟨(ad305.add ((x6_1).toNat * 3)).block, (ad305.add ((x6_1).toNat * 3)).off + 1, none⟩ = some (.string ((rd_T45 l0_0 x6_1).f1)) ∧ w'.cell? ⟨(ad305.add ((x6_1).toNat * 3)).block, (ad305.add ((x6_1).toNat * 3)).off + 2, none⟩ = some (.int .i64 ((rd_T45 l0_0 x6_1).f2))) (ds := [10]) #[false, false, false, false, false, false, false, false, false, false, false] (by kernel_rfl) rfl rfl ⟨CZ BK304.out 0, CZ BK301.out 0, ((HB.out.cell (World.block_lt_of_cell? w _ hw306_0)).trans hw306_0), ((HB.out.cell (World.block_lt_of_cell? w _ hw306_1)).trans hw306_1), ((HB.out.cell (World.block_lt_of_cell? w _ hw306_2)).trans hw306_2)⟩ (fun hHeld => ?_); refine with_tabW spec_l03Put.tab6 spec_l03Put.bits6 (fun HT_ HW_ => ?_); generalize w19.drew = w20 at HO_305000 BK301 BK302 BK303 BK304 HB hx306_0 hx306_1 hx306_2 hHeld ⊢; refine pV 0 25 (OB 11 1) ?_; refine pV 2 27 (OB 11 5) ?_; refine pV 4 29 (OB 11 21) ?_; refine take_ (i := 1) (N := some 26) (v := ?_) (a' := ?_) (OB 11 23) rfl rfl (take_ofW HT_.out HW_.out (by kernel_rfl)) (fun _ _ _ h => h) (Or.inl ⟨by rfl, ?_⟩) hHeld ?_ ?_; rotate_left
    ·
     rintro w' ⟨s0, s1, s2, s3, s4⟩
     go_simp
     with_reducible rfl
    rotate_left
    ·
     simp only [Act.put, zA, zB, zC, i64_w, i32_w]; rfl
    refine take_ (i := 3) (N := some 28) (v := ?_) (a' := ?_) (OB 11 31) rfl rfl (take_ofW HT_.out HW_.out (by kernel_rfl)) (fun _ _ _ h => h) (Or.inl ⟨by rfl, ?_⟩) hHeld ?_ ?_; rotate_left
    ·
     rintro w' ⟨s0, s1, s2, s3, s4⟩
     go_simp
     with_reducible rfl
    rotate_left
    ·
     simp only [Act.put, zA, zB, zC, i64_w, i32_w]; rfl
    refine pV 5 30 (OB 11 63) ?_; refine take_ (i := 6) (N := some 31) (v := ?_) (a' := ?_) (OB 11 127) rfl rfl (take_ofW HT_.out HW_.out (by kernel_rfl)) (fun _ _ _ h => h) (Or.inl ⟨by rfl, ?_⟩) hHeld ?_ ?_; rotate_left
    ·
     rintro w' ⟨s0, s1, s2, s3, s4⟩
     go_simp
     with_reducible rfl
    rotate_left
    ·
     simp only [Act.put, zA, zB, zC, i64_w, i32_w]; rfl
    refine one_ (i := 7) (N := some 32) (OB 11 255) rfl rfl (one_of HT_.out (by kernel_rfl)) (by decide) (fun K hK => ?_); refine value_ (w1 := ?_) (v := ?_) (by rfl) rfl ?_ ?_; rotate_left 2
    ·
     go_simp
     constructor
     ·
      rfl
     ·
      rfl
    refine hK.out _ _ ⟨(blk_cell (blk_alloc BK304.out _) 0).trans rfl, (blk_cell (blk_alloc BK301.out _) 0).trans rfl, (World.cell?_alloc_lt _ _ _ (World.block_lt_of_cell? _ _ (((HB.out.cell (World.block_lt_of_cell? w _ hw306_0)).trans hw306_0)))).trans (((HB.out.cell (World.block_lt_of_cell? w _ hw306_0)).trans hw306_0)), (World.cell?_alloc_lt _ _ _ (World.block_lt_of_cell? _ _ (((HB.out.cell (World.block_lt_of_cell? w _ hw306_1)).trans hw306_1)))).trans (((HB.out.cell (World.block_lt_of_cell? w _ hw306_1)).trans hw306_1)), (World.cell?_alloc_lt _ _ _ (World.block_lt_of_cell? _ _ (((HB.out.cell (World.block_lt_of_cell? w _ hw306_2)).trans hw306_2)))).trans (((HB.out.cell (World.block_lt_of_cell? w _ hw306_2)).trans hw306_2))⟩ (fun hHeld => ?_); clear hK K; refine norm_ (a' := ?_) ?_ ?_; rotate_left
    ·
     show Act.put _ (some 32) _ = _; simp only [Act.put, zA, zB, zC, i64_w, i32_w]; rfl
    refine one_ (i := 8) (N := some 33) (OB 11 511) rfl rfl (one_of HT_.out (by kernel_rfl)) (by decide) (fun K hK => ?_); refine Kd.R_append_step k45 (w0 := w) w.heap.size (by rfl) (.tmp 26) (.tmp 32) 27 45 (.agg #[(.string ⟨#[]⟩), (.string ⟨#[]⟩), (.int .i64 0)]) 40 rfl Try.underlying27 info45 rfl (by decide) (by omega) u305000 x305000_1 (⟨(rd_T45 l0_0 x6_1).f0, (rd_T45 l0_0 x6_1).f1, (rd_T45 l0_0 x6_1).f2⟩ : S45) [.string ((rd_T45 l0_0 x6_1).f0), .string ((rd_T45 l0_0 x6_1).f1), .int .i64 ((rd_T45 l0_0 x6_1).f2)] (fun k_ => k_ ≠ gb302) (fun _ => False) rfl rfl ?aP (fun _ hk => hk.elim) ?aF ?aO ?aB ?aS ?aL ?_
    (case aP => exact k45_mkM _ _ _ (⟨(rd_T45 l0_0 x6_1).f0, (rd_T45 l0_0 x6_1).f1, (rd_T45 l0_0 x6_1).f2⟩ : S45))
    (case aB => exact (BL))
    (case aF => exact (fun k_ hk => Kd.freshB (g := gb302) (o := .cells #[.string a1_0, .string a1_1, .int .i64 a1_2] 45 (0, 0)) (BQ BK302.out) k_ hk))
    (case aO => exact (RQ HO_305000.out))
    (case aS => exact (below_size (BL)))
    (case aL => have := LMc14.out; omega)
    intro v308 w21 ho hb hg hat; rw [← Ny307.out] at ho; have n0_ := Aside0.mk (blk_grown (g := gb301) (o := .cells #[.slice (some ad305) l0_0.length c0_0] 29 (0, 0)) (BQ BK301.out) hg (Kd.R_ne HO_305000.out BK301.out (by decide))); have n1_ := Aside0.mk (blk_grown (g := gb302) (o := .cells #[.string a1_0, .string a1_1, .int .i64 a1_2] 45 (0, 0)) (BQ BK302.out) hg (Kd.R_away HO_305000.out (fun _ hk => hk))); have n2_ := Aside0.mk (blk_grown (g := gb303) (o := .cells #[.slice none 0 0] 29 (0, 0)) (BQ BK303.out) hg (Kd.R_ne HO_305000.out BK303.out (by decide))); have n3_ := Aside0.mk (blk_grown (g := gb304) (o := .cells #[u305000] 29 (0, 0)) (BQ BK304.out) hg (Kd.R_ne HO_305000.out BK304.out (by decide))); have n4_ := Aside0.mk (hb); have n5_ := Aside0.mk (ho); clear BK301; clear BK302; clear BK303; clear BK304; clear HB; clear HO_305000; have BK301 := n0_; have BK302 := n1_; have BK303 := n2_; have BK304 := n3_; have HB := n4_; have HO309 := n5_; clear n0_ n1_ n2_ n3_ n4_ n5_; clear ho hb hg hat; obtain ⟨Ao22, co22, eo22⟩ := Kd.R_slice HO309.out
    (first | subst eo22 | (injection eo22 with f1_ f2_ f3_; have f4_ := f1_.symm; have f5_ := f3_.symm; clear f1_ f2_ f3_; subst f4_; subst f5_))
    refine hK.out _ _ ⟨CZ BK304.out 0, CZ BK301.out 0, ((HB.out.cell (World.block_lt_of_cell? w _ hw306_0)).trans hw306_0), ((HB.out.cell (World.block_lt_of_cell? w _ hw306_1)).trans hw306_1), ((HB.out.cell (World.block_lt_of_cell? w _ hw306_2)).trans hw306_2)⟩ (fun hHeld => ?_); clear hK K; refine norm_ (a' := ?_) ?_ ?_; rotate_left
    ·
     show Act.put _ (some 33) _ = _; simp only [Act.put, zA, zB, zC, i64_w, i32_w]; rfl
    refine pV 9 34 (OB 11 1023) ?_; refine last_ (i := 10) (N := none) #[true, true, true, true, true, true, true, true, true, true, true] rfl rfl (one_of HT_.out (by kernel_rfl)) (by decide) (fun K hK => ?_); have hs23 : w21.cell? ⟨gb304, 0, none⟩ = some (u305000) := CZ BK304.out 0; have hfs23 := blk_frozen BK304.out 0; have hns23_0 := NB301_304.out; have hns23_1 := NB302_304.out; have hns23_2 := NB303_304.out; have hms23_0 := NB304_301.out; have hms23_1 := NB304_302.out; have hms23_2 := NB304_303.out; refine skip_ (w1 := ?_) (by rfl) rfl ?_ ?_; rotate_left
    ·
     go_simp
     rfl
    refine hK.out _ _ ?_; clear hK K; refine done_ (done_of HT_.out (by kernel_rfl)) ?_
    try go_wp2
    go_roundg k1
    case measure => have := HK1.out; omega
    case rel => exact ⟨(wrap64 (x6_1 + 1)), (y307), (.slice Ao22 y307.length co22), SD, H', ⟨by have := HK1.out; omega⟩, ⟨RF HO309.out BK304.out⟩, ⟨BP BK301.out⟩, ⟨BP BK302.out⟩, ⟨BP BK303.out⟩, ⟨BU BK304.out⟩, ⟨BL⟩⟩
   rw [if_neg c11] at H; have c11b0 : decide (x6_1 < (l0_0.length : Int)) = false := decide_eq_false c11; clear c11
   by_cases c29 : x305000_1.length < 3518437208883; rotate_left
   ·
    rw [if_neg c29] at H; exact absurd H (by simp)
   rw [if_pos c29] at H; have LMc29 := Aside0.mk c29; clear c29; obtain ⟨y310, hy310⟩ : ∃ y_ : List (S45), y_ = (x305000_1 ++ [(⟨a1_0, a1_1, a1_2⟩ : S45)]) := ⟨_, rfl⟩
   replace H : (spec_l03Put.l1 k1 0 l0_0 a1_0 a1_1 a1_2 y310) = some r := by first | (rw [hy310]; with_reducible exact H) | (have H2_ := (Option.bind_some _ _).symm.trans H; rw [hy310]; with_reducible exact H2_) | (have H2_ := (Option.bind_some _ _).symm.trans H; with_reducible exact H2_) | with_reducible exact H | (rw [hy310]; exact H) | exact H
   have Ny310 := Aside0.mk hy310; clear hy310; have H' := Aside0.mk H; clear H; have hnb30 := NB301_302.out; have hnc30 := NB302_301.out; have hnb31 := NB301_303.out; have hnc31 := NB303_301.out; have hnb32 := NB301_304.out; have hnc32 := NB304_301.out; have hcz33_0 : wr.cell? ⟨gb301, 0, none⟩ = some (.slice A0_0 l0_0.length c0_0) := CZ BK301.out 0; have hfz33_0 := blk_frozen BK301.out 0; have hnb34 := NB304_302.out; have hnc34 := NB302_304.out; have hnb35 := NB304_303.out; have hnc35 := NB303_304.out; have hcz36_0 : wr.cell? ⟨gb304, 0, none⟩ = some (u305000) := CZ BK304.out 0; have hfz36_0 := blk_frozen BK304.out 0; have hnb37 := NB302_303.out; have hnc37 := NB303_302.out; have hcz38_0 : wr.cell? ⟨gb302, 0, none⟩ = some (.string a1_0) := CZ BK302.out 0; have hcz38_1 : wr.cell? ⟨gb302, 1, none⟩ = some (.string a1_1) := CZ BK302.out 1; have hcz38_2 : wr.cell? ⟨gb302, 2, none⟩ = some (.int .i64 a1_2) := CZ BK302.out 2; have hfz38_0 := blk_frozen BK302.out 0; have hfz38_1 := blk_frozen BK302.out 1; have hfz38_2 := blk_frozen BK302.out 2
   go_wp2_with (first | ((with_reducible refine gate_builtin (b := .append) (xs := #[.tmp 36, .tmp 38]) rfl ?_); at_builtin; refine Kd.R_append k45 (w0 := w) w.heap.size rfl (.tmp 36) (.tmp 38) 27 45 (.agg #[(.string ⟨#[]⟩), (.string ⟨#[]⟩), (.int .i64 0)]) 40 rfl Try.underlying27 info45 rfl (by decide) (by omega) u305000 x305000_1 (⟨a1_0, a1_1, a1_2⟩ : S45) [.string a1_0, .string a1_1, .int .i64 a1_2] (fun k_ => k_ ≠ gb302) (fun _ => False) rfl rfl ?aP (fun _ hk => hk.elim) ?aF ?aO ?aB ?aS ?aL ?_; (case aP => exact k45_mkM _ _ _ (⟨a1_0, a1_1, a1_2⟩ : S45)); (case aB => exact (BL)); (case aF => exact (fun k_ hk => Kd.freshB (g := gb302) (o := .cells #[.string a1_0, .string a1_1, .int .i64 a1_2] 45 (0, 0)) (BQ BK302.out) k_ hk)); (case aO => exact (RQ HO_305000.out)); (case aS => exact (below_size (BL))); (case aL => have := LMc29.out; omega); intro v311 w39 ho hb hg hat; rw [← Ny310.out] at ho; have n0_ := Aside0.mk (blk_grown (g := gb301) (o := .cells #[.slice A0_0 l0_0.length c0_0] 29 (0, 0)) (BQ BK301.out) hg (Kd.R_ne HO_305000.out BK301.out (by decide))); have n1_ := Aside0.mk (blk_grown (g := gb302) (o := .cells #[.string a1_0, .string a1_1, .int .i64 a1_2] 45 (0, 0)) (BQ BK302.out) hg (Kd.R_away HO_305000.out (fun _ hk => hk))); have n2_ := Aside0.mk (blk_grown (g := gb303) (o := .cells #[.slice none 0 0] 29 (0, 0)) (BQ BK303.out) hg (Kd.R_ne HO_305000.out BK303.out (by decide))); have n3_ := Aside0.mk (blk_grown (g := gb304) (o := .cells #[u305000] 29 (0, 0)) (BQ BK304.out) hg (Kd.R_ne HO_305000.out BK304.out (by decide))); have n4_ := Aside0.mk (hb); have n5_ := Aside0.mk (ho); clear BK301; clear BK302; clear BK303; clear BK304; clear HB; clear HO_305000; have BK301 := n0_; have BK302 := n1_; have BK303 := n2_; have BK304 := n3_; have HB := n4_; have HO312 := n5_; clear n0_ n1_ n2_ n3_ n4_ n5_; clear ho hb hg hat; obtain ⟨Ao40, co40, eo40⟩ := Kd.R_slice HO312.out; subst eo40; have hcz41_0 : w39.cell? ⟨gb304, 0, none⟩ = some (u305000) := CZ BK304.out 0; have hfz41_0 := blk_frozen BK304.out 0))
   go_loopg [7] k1 (fun kq v7 w' => ∃ (x7_2 : Int) (x305000_2 : List (S45)) (u305000 : Value), v7 = .int .i64 x7_2 ∧ Aside0 (spec_l03Put.l1 kq x7_2 l0_0 a1_0 a1_1 a1_2 x305000_2 = some r) ∧ Aside0 (kq ≤ k1) ∧ Aside0 (Kd.R k45 45 w' w.heap.size (fun k_ => k_ ≠ gb302) u305000 x305000_2) ∧ Aside0 (w'.heap[gb301]? = some (.cells #[(.slice A0_0 l0_0.length c0_0)] 29 (0, 0))) ∧ Aside0 (w'.heap[gb302]? = some (.cells #[.string a1_0, .string a1_1, .int .i64 a1_2] 45 (0, 0))) ∧ Aside0 (w'.heap[gb303]? = some (.cells #[(.slice none 0 0)] 29 (0, 0))) ∧ Aside0 (w'.heap[gb304]? = some (.cells #[u305000] 29 (0, 0))) ∧ Aside0 (Below w.heap.size w w'))
   case atStart => exact ⟨(0), (y310), (.slice Ao40 y310.length co40), SD, H', ⟨Nat.le_refl _⟩, ⟨RF HO312.out BK304.out⟩, ⟨BP BK301.out⟩, ⟨BP BK302.out⟩, ⟨BP BK303.out⟩, ⟨BU BK304.out⟩, ⟨BL⟩⟩
   case round =>
    clear H'
    try clear c1 c2 p2 c3 p3 q3 hx3 c5 p6 c7 c8 c9 c11 c11b0 c12 c12b0 c13 c13b0 c14 c15 c16 c17 c24 c25 c26 c29 c30 p30 q30 hx30 c31 c32 c34 c35 c37 hcz10_0 hcz18_0 hcz27_0 hcz33_0 hcz36_0 hcz38_0 hcz38_1 hcz38_2 hcz41_0 hfz10_0 hfz18_0 hfz27_0 hfz33_0 hfz36_0 hfz38_0 hfz38_1 hfz38_2 hfz41_0 hx305_0 hx305_1 hx305_2 hx306_0 hx306_1 hx306_2 p2 p305 p306 q305 q306
    obtain ⟨x7_2, x305000_2, u305000, rfl, HA, HK2, HO_305000, BK301, BK302, BK303, BK304, HB⟩ := hrel; cases gk with
    | zero => exact absurd HA.out (by simp [spec_l03Put.l1])
    | succ k2 =>
     have H := HA.out; clear HA; simp only [spec_l03Put.l1] at H
     by_cases c42 : x7_2 < (l0_0.length : Int); rotate_left
     ·
      rw [if_neg c42] at H; have c42b0 : decide (x7_2 < (l0_0.length : Int)) = false := decide_eq_false c42; clear c42; obtain rfl := Option.some.inj H; have hnb60 := NB301_302.out; have hnc60 := NB302_301.out; have hnb61 := NB301_303.out; have hnc61 := NB303_301.out; have hnb62 := NB301_304.out; have hnc62 := NB304_301.out; have hcz63_0 : wr.cell? ⟨gb301, 0, none⟩ = some (.slice A0_0 l0_0.length c0_0) := CZ BK301.out 0; have hfz63_0 := blk_frozen BK301.out 0; have hnb64 := NB304_302.out; have hnc64 := NB302_304.out; have hnb65 := NB304_303.out; have hnc65 := NB303_304.out; have hcz66_0 : wr.cell? ⟨gb304, 0, none⟩ = some (u305000) := CZ BK304.out 0; have hfz66_0 := blk_frozen BK304.out 0; obtain ⟨Ao67, co67, eo67⟩ := Kd.R_slice HO_305000.out; subst eo67; have hnb68 := NB303_302.out; have hnc68 := NB302_303.out; have hcz69_0 : wr.cell? ⟨gb303, 0, none⟩ = some (.slice none 0 0) := CZ BK303.out 0; have hfz69_0 := blk_frozen BK303.out 0
      go_wp2
      refine bodyPost_ret (results_cell_row rfl _ _ gb303 29 #[.slice Ao67 x305000_2.length co67] (0, 0) _ rfl (BU BK303.out) Try.underlying29 rfl (by kernel_rfl)) rfl ?_; exact ⟨_, EE, by (with_reducible repeat (first | apply r1 | apply r2 | apply r3)); exact Kd.R_mono (Kd.R_far (p := ⟨gb303, 0, none⟩) (Kd.R_types HO_305000.out BK303.out (by decide)) (fun _ hk => hk.2) (.slice Ao67 x305000_2.length co67)) (fun _ hk => trivial), BL⟩
     rw [if_pos c42] at H; have c42b0 : decide (x7_2 < (l0_0.length : Int)) = true := decide_eq_true c42; clear c42
     by_cases c43 : 0 ≤ x7_2; rotate_left
     ·
      rw [if_neg c43] at H; exact absurd H (by simp)
     rw [if_pos c43] at H; have c43b0 : decide (0 ≤ x7_2) = true := decide_eq_true c43; clear c43
     by_cases c44 : (Op.bytesLess a1_0.toList (((rd_T45 l0_0 x7_2).f0).toList)) = true; rotate_left
     ·
      rw [if_neg c44] at H
      have c44b0 : (Op.bytesLess a1_0.toList (((rd_T45 l0_0 x7_2).f0).toList)) = false := by simpa using c44
      clear c44; have H' := Aside0.mk H; clear H; have hnb55 := NB301_302.out; have hnc55 := NB302_301.out; have hnb56 := NB301_303.out; have hnc56 := NB303_301.out; have hnb57 := NB301_304.out; have hnc57 := NB304_301.out; have hcz58_0 : wr.cell? ⟨gb301, 0, none⟩ = some (.slice A0_0 l0_0.length c0_0) := CZ BK301.out 0; have hfz58_0 := blk_frozen BK301.out 0
      try go_wp2
      have n0_ := Aside0.mk (Kd.R_drew HO_305000.out); have n1_ := Aside0.mk (blk_drew BK301.out); have n2_ := Aside0.mk (blk_drew BK302.out); have n3_ := Aside0.mk (blk_drew BK303.out); have n4_ := Aside0.mk (blk_drew BK304.out); have n5_ := Aside0.mk (below_drew1 HB.out); clear HO_305000; clear BK301; clear BK302; clear BK303; clear BK304; clear HB; have HO_305000 := n0_; have BK301 := n1_; have BK302 := n2_; have BK303 := n3_; have BK304 := n4_; have HB := n5_; clear n0_ n1_ n2_ n3_ n4_ n5_; have p313 : 0 ≤ (x7_2 : Int) := of_decide_eq_true AS; have q313 : x7_2 < (l0_0.length : Int) := of_decide_eq_true AS; obtain ⟨ad313, e313, hx313_0, hx313_1, hx313_2⟩ := at_T45 HR0_0.out x7_2 p313 q313; have hw313_2 := hx313_2; have hw313_1 := hx313_1; have hw313_0 := hx313_0; cases e313; replace hx313_0 := (HB.out.cell (World.block_lt_of_cell? w _ hx313_0)).trans hx313_0; replace hx313_1 := (HB.out.cell (World.block_lt_of_cell? w _ hx313_1)).trans hx313_1; replace hx313_2 := (HB.out.cell (World.block_lt_of_cell? w _ hx313_2)).trans hx313_2; replace p313 := eq_true p313; replace q313 := eq_true q313; refine start_ (n := 9) (S := fun w' => w'.cell? ⟨gb301, 0, none⟩ = some (.slice (some ad313) l0_0.length c0_0) ∧ w'.cell? ⟨gb302, 0, none⟩ = some (.string a1_0) ∧ w'.cell? ⟨gb302, 1, none⟩ = some (.string a1_1) ∧ w'.cell? ⟨gb302, 2, none⟩ = some (.int .i64 a1_2) ∧ w'.cell? (ad313.add ((x7_2).toNat * 3)) = some (.string ((rd_T45 l0_0 x7_2).f0)) ∧ w'.cell? ⟨(ad313.add ((x7_2).toNat * 3)).block, (ad313.add ((x7_2).toNat * 3)).off + 1, none⟩ = some (.string ((rd_T45 l0_0 x7_2).f1)) ∧ w'.cell? ⟨(ad313.add ((x7_2).toNat * 3)).block, (ad313.add ((x7_2).toNat * 3)).off + 2, none⟩ = some (.int .i64 ((rd_T45 l0_0 x7_2).f2))) (ds := []) #[false, false, false, false, false, false, false, false, false] (by kernel_rfl) rfl rfl ⟨CZ BK301.out 0, CZ BK302.out 0, CZ BK302.out 1, CZ BK302.out 2, ((HB.out.cell (World.block_lt_of_cell? w _ hw313_0)).trans hw313_0), ((HB.out.cell (World.block_lt_of_cell? w _ hw313_1)).trans hw313_1), ((HB.out.cell (World.block_lt_of_cell? w _ hw313_2)).trans hw313_2)⟩ (fun hHeld => ?_); refine with_tabW spec_l03Put.tab11 spec_l03Put.bits11 (fun HT_ HW_ => ?_); generalize wr.drew = w59 at HO_305000 BK301 BK302 BK303 BK304 HB hx313_0 hx313_1 hx313_2 hHeld ⊢; refine pV 0 48 (OB 9 1) ?_; refine pV 2 50 (OB 9 5) ?_; refine pV 6 54 (OB 9 69) ?_; refine take_ (i := 1) (N := some 49) (v := ?_) (a' := ?_) (OB 9 71) rfl rfl (take_ofW HT_.out HW_.out (by kernel_rfl)) (fun _ _ _ h => h) (Or.inl ⟨by rfl, ?_⟩) hHeld ?_ ?_; rotate_left
      ·
       rintro w' ⟨s0, s1, s2, s3, s4, s5, s6⟩
       go_simp
       with_reducible rfl
      rotate_left
      ·
       simp only [Act.put, zA, zB, zC, i64_w, i32_w]; rfl
      refine pV 3 51 (OB 9 79) ?_; refine pV 4 52 (OB 9 95) ?_; refine take_ (i := 5) (N := some 53) (v := ?_) (a' := ?_) (OB 9 127) rfl rfl (take_ofW HT_.out HW_.out (by kernel_rfl)) (fun _ _ _ h => h) (Or.inl ⟨by rfl, ?_⟩) hHeld ?_ ?_; rotate_left
      ·
       rintro w' ⟨s0, s1, s2, s3, s4, s5, s6⟩
       go_simp
       with_reducible rfl
      rotate_left
      ·
       simp only [Act.put, zA, zB, zC, i64_w, i32_w]; rfl
      refine take_ (i := 7) (N := some 55) (v := ?_) (a' := ?_) (OB 9 255) rfl rfl (take_ofW HT_.out HW_.out (by kernel_rfl)) (fun _ _ _ h => h) (Or.inl ⟨by rfl, ?_⟩) hHeld ?_ ?_; rotate_left
      ·
       rintro w' ⟨s0, s1, s2, s3, s4, s5, s6⟩
       go_simp
       with_reducible rfl
      rotate_left
      ·
       simp only [Act.put, zA, zB, zC, i64_w, i32_w]; rfl
      refine pV 8 56 (OB 9 511) ?_; refine done_ (done_of HT_.out (by kernel_rfl)) ?_
      try go_wp2
      go_roundg k2
      case measure => have := HK1.out; have := HK2.out; omega
      case rel => exact ⟨(wrap64 (x7_2 + 1)), (x305000_2), (u305000), SD, H', ⟨by have := HK1.out; have := HK2.out; omega⟩, ⟨RQ HO_305000.out⟩, ⟨BQ BK301.out⟩, ⟨BQ BK302.out⟩, ⟨BQ BK303.out⟩, ⟨BQ BK304.out⟩, ⟨BL⟩⟩
     rw [if_pos c44] at H; have c44b0 : (Op.bytesLess a1_0.toList (((rd_T45 l0_0 x7_2).f0).toList)) = true := c44; clear c44
     by_cases c45 : x305000_2.length < 3518437208883; rotate_left
     ·
      rw [if_neg c45] at H; exact absurd H (by simp)
     rw [if_pos c45] at H; have LMc45 := Aside0.mk c45; clear c45; obtain ⟨y315, hy315⟩ : ∃ y_ : List (S45), y_ = (x305000_2 ++ [(⟨(rd_T45 l0_0 x7_2).f0, (rd_T45 l0_0 x7_2).f1, (rd_T45 l0_0 x7_2).f2⟩ : S45)]) := ⟨_, rfl⟩
     replace H : (spec_l03Put.l1 k2 (wrap64 (x7_2 + 1)) l0_0 a1_0 a1_1 a1_2 y315) = some r := by first | (rw [hy315]; with_reducible exact H) | (have H2_ := (Option.bind_some _ _).symm.trans H; rw [hy315]; with_reducible exact H2_) | (have H2_ := (Option.bind_some _ _).symm.trans H; with_reducible exact H2_) | with_reducible exact H | (rw [hy315]; exact H) | exact H
     have Ny315 := Aside0.mk hy315; clear hy315; have H' := Aside0.mk H; clear H; have hnb46 := NB301_302.out; have hnc46 := NB302_301.out; have hnb47 := NB301_303.out; have hnc47 := NB303_301.out; have hnb48 := NB301_304.out; have hnc48 := NB304_301.out; have hcz49_0 : wr.cell? ⟨gb301, 0, none⟩ = some (.slice A0_0 l0_0.length c0_0) := CZ BK301.out 0; have hfz49_0 := blk_frozen BK301.out 0
     try go_wp2
     have n0_ := Aside0.mk (Kd.R_drew HO_305000.out); have n1_ := Aside0.mk (blk_drew BK301.out); have n2_ := Aside0.mk (blk_drew BK302.out); have n3_ := Aside0.mk (blk_drew BK303.out); have n4_ := Aside0.mk (blk_drew BK304.out); have n5_ := Aside0.mk (below_drew1 HB.out); clear HO_305000; clear BK301; clear BK302; clear BK303; clear BK304; clear HB; have HO_305000 := n0_; have BK301 := n1_; have BK302 := n2_; have BK303 := n3_; have BK304 := n4_; have HB := n5_; clear n0_ n1_ n2_ n3_ n4_ n5_; have p313 : 0 ≤ (x7_2 : Int) := of_decide_eq_true AS; have q313 : x7_2 < (l0_0.length : Int) := of_decide_eq_true AS; obtain ⟨ad313, e313, hx313_0, hx313_1, hx313_2⟩ := at_T45 HR0_0.out x7_2 p313 q313; have hw313_2 := hx313_2; have hw313_1 := hx313_1; have hw313_0 := hx313_0; cases e313; replace hx313_0 := (HB.out.cell (World.block_lt_of_cell? w _ hx313_0)).trans hx313_0; replace hx313_1 := (HB.out.cell (World.block_lt_of_cell? w _ hx313_1)).trans hx313_1; replace hx313_2 := (HB.out.cell (World.block_lt_of_cell? w _ hx313_2)).trans hx313_2; replace p313 := eq_true p313; replace q313 := eq_true q313; refine start_ (n := 9) (S := fun w' => w'.cell? ⟨gb301, 0, none⟩ = some (.slice (some ad313) l0_0.length c0_0) ∧ w'.cell? ⟨gb302, 0, none⟩ = some (.string a1_0) ∧ w'.cell? ⟨gb302, 1, none⟩ = some (.string a1_1) ∧ w'.cell? ⟨gb302, 2, none⟩ = some (.int .i64 a1_2) ∧ w'.cell? (ad313.add ((x7_2).toNat * 3)) = some (.string ((rd_T45 l0_0 x7_2).f0)) ∧ w'.cell? ⟨(ad313.add ((x7_2).toNat * 3)).block, (ad313.add ((x7_2).toNat * 3)).off + 1, none⟩ = some (.string ((rd_T45 l0_0 x7_2).f1)) ∧ w'.cell? ⟨(ad313.add ((x7_2).toNat * 3)).block, (ad313.add ((x7_2).toNat * 3)).off + 2, none⟩ = some (.int .i64 ((rd_T45 l0_0 x7_2).f2))) (ds := []) #[false, false, false, false, false, false, false, false, false] (by kernel_rfl) rfl rfl ⟨CZ BK301.out 0, CZ BK302.out 0, CZ BK302.out 1, CZ BK302.out 2, ((HB.out.cell (World.block_lt_of_cell? w _ hw313_0)).trans hw313_0), ((HB.out.cell (World.block_lt_of_cell? w _ hw313_1)).trans hw313_1), ((HB.out.cell (World.block_lt_of_cell? w _ hw313_2)).trans hw313_2)⟩ (fun hHeld => ?_); refine with_tabW spec_l03Put.tab11 spec_l03Put.bits11 (fun HT_ HW_ => ?_); generalize wr.drew = w50 at HO_305000 BK301 BK302 BK303 BK304 HB hx313_0 hx313_1 hx313_2 hHeld ⊢; refine pV 0 48 (OB 9 1) ?_; refine pV 2 50 (OB 9 5) ?_; refine pV 6 54 (OB 9 69) ?_; refine take_ (i := 1) (N := some 49) (v := ?_) (a' := ?_) (OB 9 71) rfl rfl (take_ofW HT_.out HW_.out (by kernel_rfl)) (fun _ _ _ h => h) (Or.inl ⟨by rfl, ?_⟩) hHeld ?_ ?_; rotate_left
     ·
      rintro w' ⟨s0, s1, s2, s3, s4, s5, s6⟩
      go_simp
      with_reducible rfl
     rotate_left
     ·
      simp only [Act.put, zA, zB, zC, i64_w, i32_w]; rfl
     refine pV 3 51 (OB 9 79) ?_; refine pV 4 52 (OB 9 95) ?_; refine take_ (i := 5) (N := some 53) (v := ?_) (a' := ?_) (OB 9 127) rfl rfl (take_ofW HT_.out HW_.out (by kernel_rfl)) (fun _ _ _ h => h) (Or.inl ⟨by rfl, ?_⟩) hHeld ?_ ?_; rotate_left
     ·
      rintro w' ⟨s0, s1, s2, s3, s4, s5, s6⟩
      go_simp
      with_reducible rfl
     rotate_left
     ·
      simp only [Act.put, zA, zB, zC, i64_w, i32_w]; rfl
     refine take_ (i := 7) (N := some 55) (v := ?_) (a' := ?_) (OB 9 255) rfl rfl (take_ofW HT_.out HW_.out (by kernel_rfl)) (fun _ _ _ h => h) (Or.inl ⟨by rfl, ?_⟩) hHeld ?_ ?_; rotate_left
     ·
      rintro w' ⟨s0, s1, s2, s3, s4, s5, s6⟩
      go_simp
      with_reducible rfl
     rotate_left
     ·
      simp only [Act.put, zA, zB, zC, i64_w, i32_w]; rfl
     refine pV 8 56 (OB 9 511) ?_; refine done_ (done_of HT_.out (by kernel_rfl)) ?_
     try go_wp2
     have n0_ := Aside0.mk (Kd.R_drew HO_305000.out); have n1_ := Aside0.mk (blk_drew BK301.out); have n2_ := Aside0.mk (blk_drew BK302.out); have n3_ := Aside0.mk (blk_drew BK303.out); have n4_ := Aside0.mk (blk_drew BK304.out); have n5_ := Aside0.mk (below_drew1 HB.out); clear HO_305000; clear BK301; clear BK302; clear BK303; clear BK304; clear HB; have HO_305000 := n0_; have BK301 := n1_; have BK302 := n2_; have BK303 := n3_; have BK304 := n4_; have HB := n5_; clear n0_ n1_ n2_ n3_ n4_ n5_; have p314 : 0 ≤ (x7_2 : Int) := of_decide_eq_true AS; have q314 : x7_2 < (l0_0.length : Int) := of_decide_eq_true AS; obtain ⟨ad314, e314, hx314_0, hx314_1, hx314_2⟩ := at_T45 HR0_0.out x7_2 p314 q314; have hw314_2 := hx314_2; have hw314_1 := hx314_1; have hw314_0 := hx314_0; obtain rfl : ad313 = ad314 := (by injection e314); replace hx314_0 := (HB.out.cell (World.block_lt_of_cell? w _ hx314_0)).trans hx314_0; replace hx314_1 := (HB.out.cell (World.block_lt_of_cell? w _ hx314_1)).trans hx314_1; replace hx314_2 := (HB.out.cell (World.block_lt_of_cell? w _ hx314_2)).trans hx314_2; replace p314 := eq_true p314; replace q314 := eq_true q314; refine start_ (n := 11) (S := fun w' => w'.cell? ⟨gb304, 0, none⟩ = some (u305000) ∧ w'.cell? ⟨gb301, 0, none⟩ = some (.slice (some ad313) l0_0.length c0_0) ∧ w'.cell? (ad313.add ((x7_2).toNat * 3)) = some (.string ((rd_T45 l0_0 x7_2).f0)) ∧ w'.cell? ⟨(ad313.add ((x7_2).toNat * 3)).block, (ad313.add ((x7_2).toNat * 3)).off + 1, none⟩ = some (.string ((rd_T45 l0_0 x7_2).f1)) ∧ w'.cell? ⟨(ad313.add ((x7_2).toNat * 3)).block, (ad313.add ((x7_2).toNat * 3)).off + 2, none⟩ = some (.int .i64 ((rd_T45 l0_0 x7_2).f2))) (ds := [10]) #[false, false, false, false, false, false, false, false, false, false, false] (by kernel_rfl) rfl rfl ⟨CZ BK304.out 0, CZ BK301.out 0, ((HB.out.cell (World.block_lt_of_cell? w _ hw314_0)).trans hw314_0), ((HB.out.cell (World.block_lt_of_cell? w _ hw314_1)).trans hw314_1), ((HB.out.cell (World.block_lt_of_cell? w _ hw314_2)).trans hw314_2)⟩ (fun hHeld => ?_); refine with_tabW spec_l03Put.tab12 spec_l03Put.bits12 (fun HT_ HW_ => ?_); generalize w50.drew = w51 at HO_305000 BK301 BK302 BK303 BK304 HB hx314_0 hx314_1 hx314_2 hHeld ⊢; refine pV 0 57 (OB 11 1) ?_; refine pV 2 59 (OB 11 5) ?_; refine pV 4 61 (OB 11 21) ?_; refine take_ (i := 1) (N := some 58) (v := ?_) (a' := ?_) (OB 11 23) rfl rfl (take_ofW HT_.out HW_.out (by kernel_rfl)) (fun _ _ _ h => h) (Or.inl ⟨by rfl, ?_⟩) hHeld ?_ ?_; rotate_left
     ·
      rintro w' ⟨s0, s1, s2, s3, s4⟩
      go_simp
      with_reducible rfl
     rotate_left
     ·
      simp only [Act.put, zA, zB, zC, i64_w, i32_w]; rfl
     refine take_ (i := 3) (N := some 60) (v := ?_) (a' := ?_) (OB 11 31) rfl rfl (take_ofW HT_.out HW_.out (by kernel_rfl)) (fun _ _ _ h => h) (Or.inl ⟨by rfl, ?_⟩) hHeld ?_ ?_; rotate_left
     ·
      rintro w' ⟨s0, s1, s2, s3, s4⟩
      go_simp
      with_reducible rfl
     rotate_left
     ·
      simp only [Act.put, zA, zB, zC, i64_w, i32_w]; rfl
     refine pV 5 62 (OB 11 63) ?_; refine take_ (i := 6) (N := some 63) (v := ?_) (a' := ?_) (OB 11 127) rfl rfl (take_ofW HT_.out HW_.out (by kernel_rfl)) (fun _ _ _ h => h) (Or.inl ⟨by rfl, ?_⟩) hHeld ?_ ?_; rotate_left
     ·
      rintro w' ⟨s0, s1, s2, s3, s4⟩
      go_simp
      with_reducible rfl
     rotate_left
     ·
      simp only [Act.put, zA, zB, zC, i64_w, i32_w]; rfl
     refine one_ (i := 7) (N := some 64) (OB 11 255) rfl rfl (one_of HT_.out (by kernel_rfl)) (by decide) (fun K hK => ?_); refine value_ (w1 := ?_) (v := ?_) (by rfl) rfl ?_ ?_; rotate_left 2
     ·
      go_simp
      constructor
      ·
       rfl
      ·
       rfl
     refine hK.out _ _ ⟨(blk_cell (blk_alloc BK304.out _) 0).trans rfl, (blk_cell (blk_alloc BK301.out _) 0).trans rfl, (World.cell?_alloc_lt _ _ _ (World.block_lt_of_cell? _ _ (((HB.out.cell (World.block_lt_of_cell? w _ hw314_0)).trans hw314_0)))).trans (((HB.out.cell (World.block_lt_of_cell? w _ hw314_0)).trans hw314_0)), (World.cell?_alloc_lt _ _ _ (World.block_lt_of_cell? _ _ (((HB.out.cell (World.block_lt_of_cell? w _ hw314_1)).trans hw314_1)))).trans (((HB.out.cell (World.block_lt_of_cell? w _ hw314_1)).trans hw314_1)), (World.cell?_alloc_lt _ _ _ (World.block_lt_of_cell? _ _ (((HB.out.cell (World.block_lt_of_cell? w _ hw314_2)).trans hw314_2)))).trans (((HB.out.cell (World.block_lt_of_cell? w _ hw314_2)).trans hw314_2))⟩ (fun hHeld => ?_); clear hK K; refine norm_ (a' := ?_) ?_ ?_; rotate_left
     ·
      show Act.put _ (some 64) _ = _; simp only [Act.put, zA, zB, zC, i64_w, i32_w]; rfl
     refine one_ (i := 8) (N := some 65) (OB 11 511) rfl rfl (one_of HT_.out (by kernel_rfl)) (by decide) (fun K hK => ?_); refine Kd.R_append_step k45 (w0 := w) w.heap.size (by rfl) (.tmp 58) (.tmp 64) 27 45 (.agg #[(.string ⟨#[]⟩), (.string ⟨#[]⟩), (.int .i64 0)]) 40 rfl Try.underlying27 info45 rfl (by decide) (by omega) u305000 x305000_2 (⟨(rd_T45 l0_0 x7_2).f0, (rd_T45 l0_0 x7_2).f1, (rd_T45 l0_0 x7_2).f2⟩ : S45) [.string ((rd_T45 l0_0 x7_2).f0), .string ((rd_T45 l0_0 x7_2).f1), .int .i64 ((rd_T45 l0_0 x7_2).f2)] (fun k_ => k_ ≠ gb302) (fun _ => False) rfl rfl ?aP (fun _ hk => hk.elim) ?aF ?aO ?aB ?aS ?aL ?_
     (case aP => exact k45_mkM _ _ _ (⟨(rd_T45 l0_0 x7_2).f0, (rd_T45 l0_0 x7_2).f1, (rd_T45 l0_0 x7_2).f2⟩ : S45))
     (case aB => exact (BL))
     (case aF => exact (fun k_ hk => Kd.freshB (g := gb302) (o := .cells #[.string a1_0, .string a1_1, .int .i64 a1_2] 45 (0, 0)) (BQ BK302.out) k_ hk))
     (case aO => exact (RQ HO_305000.out))
     (case aS => exact (below_size (BL)))
     (case aL => have := LMc45.out; omega)
     intro v316 w52 ho hb hg hat; rw [← Ny315.out] at ho; have n0_ := Aside0.mk (blk_grown (g := gb301) (o := .cells #[.slice (some ad313) l0_0.length c0_0] 29 (0, 0)) (BQ BK301.out) hg (Kd.R_ne HO_305000.out BK301.out (by decide))); have n1_ := Aside0.mk (blk_grown (g := gb302) (o := .cells #[.string a1_0, .string a1_1, .int .i64 a1_2] 45 (0, 0)) (BQ BK302.out) hg (Kd.R_away HO_305000.out (fun _ hk => hk))); have n2_ := Aside0.mk (blk_grown (g := gb303) (o := .cells #[.slice none 0 0] 29 (0, 0)) (BQ BK303.out) hg (Kd.R_ne HO_305000.out BK303.out (by decide))); have n3_ := Aside0.mk (blk_grown (g := gb304) (o := .cells #[u305000] 29 (0, 0)) (BQ BK304.out) hg (Kd.R_ne HO_305000.out BK304.out (by decide))); have n4_ := Aside0.mk (hb); have n5_ := Aside0.mk (ho); clear BK301; clear BK302; clear BK303; clear BK304; clear HB; clear HO_305000; have BK301 := n0_; have BK302 := n1_; have BK303 := n2_; have BK304 := n3_; have HB := n4_; have HO317 := n5_; clear n0_ n1_ n2_ n3_ n4_ n5_; clear ho hb hg hat; obtain ⟨Ao53, co53, eo53⟩ := Kd.R_slice HO317.out
     (first | subst eo53 | (injection eo53 with f1_ f2_ f3_; have f4_ := f1_.symm; have f5_ := f3_.symm; clear f1_ f2_ f3_; subst f4_; subst f5_))
     refine hK.out _ _ ⟨CZ BK304.out 0, CZ BK301.out 0, ((HB.out.cell (World.block_lt_of_cell? w _ hw314_0)).trans hw314_0), ((HB.out.cell (World.block_lt_of_cell? w _ hw314_1)).trans hw314_1), ((HB.out.cell (World.block_lt_of_cell? w _ hw314_2)).trans hw314_2)⟩ (fun hHeld => ?_); clear hK K; refine norm_ (a' := ?_) ?_ ?_; rotate_left
     ·
      show Act.put _ (some 65) _ = _; simp only [Act.put, zA, zB, zC, i64_w, i32_w]; rfl
     refine pV 9 66 (OB 11 1023) ?_; refine last_ (i := 10) (N := none) #[true, true, true, true, true, true, true, true, true, true, true] rfl rfl (one_of HT_.out (by kernel_rfl)) (by decide) (fun K hK => ?_); have hs54 : w52.cell? ⟨gb304, 0, none⟩ = some (u305000) := CZ BK304.out 0; have hfs54 := blk_frozen BK304.out 0; have hns54_0 := NB301_304.out; have hns54_1 := NB302_304.out; have hns54_2 := NB303_304.out; have hms54_0 := NB304_301.out; have hms54_1 := NB304_302.out; have hms54_2 := NB304_303.out; refine skip_ (w1 := ?_) (by rfl) rfl ?_ ?_; rotate_left
     ·
      go_simp
      rfl
     refine hK.out _ _ ?_; clear hK K; refine done_ (done_of HT_.out (by kernel_rfl)) ?_
     try go_wp2
     go_roundg k2
     case measure => have := HK1.out; have := HK2.out; omega
     case rel => exact ⟨(wrap64 (x7_2 + 1)), (y315), (.slice Ao53 y315.length co53), SD, H', ⟨by have := HK1.out; have := HK2.out; omega⟩, ⟨RF HO317.out BK304.out⟩, ⟨BP BK301.out⟩, ⟨BP BK302.out⟩, ⟨BP BK303.out⟩, ⟨BU BK304.out⟩, ⟨BL⟩⟩

/-! ### spec_l03Without: function 64 -/
def spec_l03Without.l0 : Nat → ByteArray → Int → List (S45) → List (S45) → Option ((List (S45)))
 | 0, _, _, _, _ => none
 | k + 1, x1, x6, x319000, x321000 => if x6 < (x319000.length : Int) then (if 0 ≤ x6 then (if ((rd_T45 x319000 x6).f0).toList = x1.toList then (spec_l03Without.l0 k x1 (wrap64 (x6 + 1)) x319000 x321000) else (if x321000.length < 3518437208883 then (spec_l03Without.l0 k x1 (wrap64 (x6 + 1)) x319000 (x321000 ++ [(⟨(rd_T45 x319000 x6).f0, (rd_T45 x319000 x6).f1, (rd_T45 x319000 x6).f2⟩ : S45)])) else (none))) else (none)) else (some x321000)
def spec_l03Without.f (k : Nat) (l0_0 : List (S45)) (a1 : ByteArray) : Option ((List (S45))) := spec_l03Without.l0 k a1 0 l0_0 ([] : List (S45))
theorem spec_l03Without.mono_l : ∀ k, (∀ y0 y1 y2 y3, LeO (spec_l03Without.l0 k y0 y1 y2 y3) (spec_l03Without.l0 (k + 1) y0 y1 y2 y3))
 | 0 => fun _ _ _ _ r h => by simp [spec_l03Without.l0] at h
 | k + 1 => by
  have ih0 := spec_l03Without.mono_l k
  ·
   intro y0 y1 y2 y3
   unfold spec_l03Without.l0
   repeat' first
   | (with_reducible exact ih0 _ _ _ _)
   | (with_reducible exact LeO.refl _)
   | (with_reducible exact LeO.none _)
   | (with_reducible refine LeO.ite ?_ ?_)
   | (with_reducible refine LeO.bind ?_ (fun _ => ?_))
   | exact ih0 _ _ _ _
   | exact LeO.none _
   | refine LeO.ite ?_ ?_
   | refine LeO.bind ?_ (fun _ => ?_)
theorem spec_l03Without.mono : ∀ a0 a1 k, LeO (spec_l03Without.f k a0 a1) (spec_l03Without.f (k + 1) a0 a1) := by
 intro a0 a1 k
 have ih0 := spec_l03Without.mono_l k
 unfold spec_l03Without.f
 repeat' first
   | (with_reducible exact ih0 _ _ _ _)
   | (with_reducible exact LeO.refl _)
   | (with_reducible exact LeO.none _)
   | (with_reducible refine LeO.ite ?_ ?_)
   | (with_reducible refine LeO.bind ?_ (fun _ => ?_))
   | exact ih0 _ _ _ _
   | exact LeO.none _
   | refine LeO.ite ?_ ?_
   | refine LeO.bind ?_ (fun _ => ?_)
def spec_l03Without.T6 : Bool × List (List Nat × List Nat) := (true, [([], []), ([0], [0]), ([], []), ([2], [2]), ([], []), ([3, 4], [3, 4]), ([5], [5]), ([6], [6]), ([1, 7], [1, 7]), ([0, 1, 2, 3, 4, 5, 6, 7, 8], []), ([9, 8, 8, 0, 1, 2, 3, 4, 5, 6, 7, 8], [8, 9])])
def spec_l03Without.B6 : List Nat := [0, 1, 0, 4, 0, 28, 60, 124, 255, 511, 1023]
theorem spec_l03Without.tab6 : rtab .any (opsOf Try.f64 6) = spec_l03Without.T6 := by kernel_rfl
theorem spec_l03Without.bits6 : waitsOk spec_l03Without.T6.2 spec_l03Without.B6 = true := by kernel_rfl
set_option maxHeartbeats 8000000 in
set_option maxRecDepth 100000 in
theorem spec_l03Without.calls (k : Nat) (A0_0 : Option Addr) (c0_0 : Nat) (l0_0 : List (S45)) (a1 : ByteArray) (r : List (S45)) (w : World) (hr0_0 : Kd.C k45 w A0_0 l0_0.length l0_0) (hc0_0 : l0_0.length ≤ c0_0) (h : spec_l03Without.f k l0_0 a1 = some r) :
  Calls Try.prog 64 #[.agg #[.slice A0_0 l0_0.length c0_0], .string a1] w fun e w' => ∃ v0_ : Value, e = .returned (.agg #[v0_]) ∧ Kd.R k45 45 w' w.heap.size (fun _ => True) v0_ r ∧ Below w.heap.size w w' := by
 have hu29 := Try.underlying29
 have hu45 := Try.underlying45
 have HR0_0 := Aside0.mk hr0_0
 have HC0_0 := Aside0.mk hc0_0
 clear hr0_0 hc0_0
 have HB := Aside0.mk (Below.refl w.heap.size w)
 have H : (spec_l03Without.l0 k a1 0 l0_0 ([] : List (S45))) = some r := h
 clear h
 have H' := Aside0.mk H
 clear H
 go_enter Try.func64, Try.ntmps64
 go_wp2_with (first | ((with_reducible refine gate_dst (N := 2) rfl ?_); refine bE 2 #[.slice A0_0 l0_0.length c0_0] 29 ?_; intro gb318 hg w3 hbox hb; have BK318 := Aside0.mk (hbox); have GW318 : Aside0 (w.heap.size ≤ gb318) := GS; have GE318 := GW318; replace HB := Aside0.mk (below_step (BL) hb); clear hb hbox hg) | ((with_reducible refine gate_dst (N := 4) rfl ?_); refine bE 4 #[.slice none 0 0] 29 ?_; intro gb319 hg w4 hbox hb; have BK319 := Aside0.mk (hbox); have GW319 : Aside0 (w.heap.size ≤ gb319) := GS; have GE319 := GW319; have NB318_319 := NL BK318.out hg; have NB319_318 := NG BK318.out hg; replace BK318 := BB BK318.out hb; replace HB := Aside0.mk (below_step (BL) hb); clear hb hbox hg) | ((with_reducible refine gate_dst (N := 5) rfl ?_); refine bE 5 #[.slice none 0 0] 29 ?_; intro gb320 hg w5 hbox hb; have BK320 := Aside0.mk (hbox); have GW320 : Aside0 (w.heap.size ≤ gb320) := GS; have GE320 := GW320; have NB318_320 := NL BK318.out hg; have NB320_318 := NG BK318.out hg; have NB319_320 := NL BK319.out hg; have NB320_319 := NG BK319.out hg; replace BK318 := BB BK318.out hb; replace BK319 := BB BK319.out hb; replace HB := Aside0.mk (below_step (BL) hb); clear hb hbox hg; have hnb6 := NB320_318.out; have hnc6 := NB318_320.out; have hnb7 := NB320_319.out; have hnc7 := NB319_320.out; have hcz8_0 : w5.cell? ⟨gb320, 0, none⟩ = some (.slice none 0 0) := CZ BK320.out 0; have hfz8_0 := blk_frozen BK320.out 0))
 go_loopg [6] k (fun kq v6 w' => ∃ (x6_1 : Int) (x321000_1 : List (S45)) (u321000 : Value), v6 = .int .i64 x6_1 ∧ Aside0 (spec_l03Without.l0 kq a1 x6_1 l0_0 x321000_1 = some r) ∧ Aside0 (kq ≤ k) ∧ Aside0 (Kd.R k45 45 w' w.heap.size (fun _ => True) u321000 x321000_1) ∧ Aside0 (w'.heap[gb318]? = some (.cells #[(.slice A0_0 l0_0.length c0_0)] 29 (0, 0))) ∧ Aside0 (w'.heap[gb319]? = some (.cells #[(.slice none 0 0)] 29 (0, 0))) ∧ Aside0 (w'.heap[gb320]? = some (.cells #[u321000] 29 (0, 0))) ∧ Aside0 (Below w.heap.size w w'))
 case atStart => exact ⟨(0), (([] : List (S45))), (.slice none 0 0), SD, H', ⟨Nat.le_refl _⟩, ⟨by first | exact Kd.R_nil _ _ _ _ _ | exact Kd.N_nil _ _ _ _ _ | exact Kd.V_nil _ _ _ _ _ | exact Kd.Q_nil _ _ _ _ _ | exact Kd.S_nil _ _ _ _ _⟩, ⟨BP BK318.out⟩, ⟨BP BK319.out⟩, ⟨BU BK320.out⟩, ⟨BL⟩⟩
 case round =>
  clear H'
  try clear p2 c6 c7 hcz8_0 hfz8_0
  obtain ⟨x6_1, x321000_1, u321000, rfl, HA, HK1, HO_321000, BK318, BK319, BK320, HB⟩ := hrel; cases gk with
  | zero => exact absurd HA.out (by simp [spec_l03Without.l0])
  | succ k1 =>
   have H := HA.out; clear HA; simp only [spec_l03Without.l0] at H
   by_cases c9 : x6_1 < (l0_0.length : Int); rotate_left
   ·
    rw [if_neg c9] at H; have c9b0 : decide (x6_1 < (l0_0.length : Int)) = false := decide_eq_false c9; clear c9; obtain rfl := Option.some.inj H; have hnb23 := NB318_319.out; have hnc23 := NB319_318.out; have hnb24 := NB318_320.out; have hnc24 := NB320_318.out; have hcz25_0 : wr.cell? ⟨gb318, 0, none⟩ = some (.slice A0_0 l0_0.length c0_0) := CZ BK318.out 0; have hfz25_0 := blk_frozen BK318.out 0; have hnb26 := NB320_319.out; have hnc26 := NB319_320.out; have hcz27_0 : wr.cell? ⟨gb320, 0, none⟩ = some (u321000) := CZ BK320.out 0; have hfz27_0 := blk_frozen BK320.out 0; obtain ⟨Ao28, co28, eo28⟩ := Kd.R_slice HO_321000.out; subst eo28; have hcz29_0 : wr.cell? ⟨gb319, 0, none⟩ = some (.slice none 0 0) := CZ BK319.out 0; have hfz29_0 := blk_frozen BK319.out 0
    go_wp2
    refine bodyPost_ret (results_cell_row rfl _ _ gb319 29 #[.slice Ao28 x321000_1.length co28] (0, 0) _ rfl (BU BK319.out) Try.underlying29 rfl (by kernel_rfl)) rfl ?_; exact ⟨_, EE, by (with_reducible repeat (first | apply r1 | apply r2 | apply r3)); exact Kd.R_mono (Kd.R_far (p := ⟨gb319, 0, none⟩) (Kd.R_types HO_321000.out BK319.out (by decide)) (fun _ hk => hk.2) (.slice Ao28 x321000_1.length co28)) (fun _ hk => trivial), BL⟩
   rw [if_pos c9] at H; have c9b0 : decide (x6_1 < (l0_0.length : Int)) = true := decide_eq_true c9; clear c9
   by_cases c10 : 0 ≤ x6_1; rotate_left
   ·
    rw [if_neg c10] at H; exact absurd H (by simp)
   rw [if_pos c10] at H; have c10b0 : decide (0 ≤ x6_1) = true := decide_eq_true c10; clear c10
   by_cases c11 : ((rd_T45 l0_0 x6_1).f0).toList = a1.toList
   ·
    rw [if_pos c11] at H; have c11b0 : (((rd_T45 l0_0 x6_1).f0).toList == a1.toList) = true := beq_iff_eq.mpr c11; have c11b1 : (((rd_T45 l0_0 x6_1).f0).toList != a1.toList) = false := bne_eq_false_iff_eq.mpr c11; clear c11; have H' := Aside0.mk H; clear H; have hnb12 := NB318_319.out; have hnc12 := NB319_318.out; have hnb13 := NB318_320.out; have hnc13 := NB320_318.out; have hcz14_0 : wr.cell? ⟨gb318, 0, none⟩ = some (.slice A0_0 l0_0.length c0_0) := CZ BK318.out 0; have hfz14_0 := blk_frozen BK318.out 0; have p321 : 0 ≤ (x6_1 : Int) := of_decide_eq_true AS; have q321 : x6_1 < (l0_0.length : Int) := of_decide_eq_true AS; obtain ⟨ad321, e321, hx321_0, hx321_1, hx321_2⟩ := at_T45 HR0_0.out x6_1 p321 q321; cases e321; replace hx321_0 := (HB.out.cell (World.block_lt_of_cell? w _ hx321_0)).trans hx321_0; replace hx321_1 := (HB.out.cell (World.block_lt_of_cell? w _ hx321_1)).trans hx321_1; replace hx321_2 := (HB.out.cell (World.block_lt_of_cell? w _ hx321_2)).trans hx321_2; replace p321 := eq_true p321; replace q321 := eq_true q321
    go_wp2
    go_roundg k1
    case measure => have := HK1.out; omega
    case rel => exact ⟨(wrap64 (x6_1 + 1)), (x321000_1), (u321000), SD, H', ⟨by have := HK1.out; omega⟩, ⟨RQ HO_321000.out⟩, ⟨BQ BK318.out⟩, ⟨BQ BK319.out⟩, ⟨BQ BK320.out⟩, ⟨BL⟩⟩
   rw [if_neg c11] at H; have c11b0 : (((rd_T45 l0_0 x6_1).f0).toList == a1.toList) = false := beq_eq_false_iff_ne.mpr c11; have c11b1 : (((rd_T45 l0_0 x6_1).f0).toList != a1.toList) = true := bne_iff_ne.mpr c11
   by_cases c15 : x321000_1.length < 3518437208883; rotate_left
   ·
    rw [if_neg c15] at H; exact absurd H (by simp)
   rw [if_pos c15] at H; have LMc15 := Aside0.mk c15; clear c15; obtain ⟨y323, hy323⟩ : ∃ y_ : List (S45), y_ = (x321000_1 ++ [(⟨(rd_T45 l0_0 x6_1).f0, (rd_T45 l0_0 x6_1).f1, (rd_T45 l0_0 x6_1).f2⟩ : S45)]) := ⟨_, rfl⟩
   replace H : (spec_l03Without.l0 k1 a1 (wrap64 (x6_1 + 1)) l0_0 y323) = some r := by first | (rw [hy323]; with_reducible exact H) | (have H2_ := (Option.bind_some _ _).symm.trans H; rw [hy323]; with_reducible exact H2_) | (have H2_ := (Option.bind_some _ _).symm.trans H; with_reducible exact H2_) | with_reducible exact H | (rw [hy323]; exact H) | exact H
   have Ny323 := Aside0.mk hy323; clear hy323; have H' := Aside0.mk H; clear H; have hnb16 := NB318_319.out; have hnc16 := NB319_318.out; have hnb17 := NB318_320.out; have hnc17 := NB320_318.out; have hcz18_0 : wr.cell? ⟨gb318, 0, none⟩ = some (.slice A0_0 l0_0.length c0_0) := CZ BK318.out 0; have hfz18_0 := blk_frozen BK318.out 0; have p321 : 0 ≤ (x6_1 : Int) := of_decide_eq_true AS; have q321 : x6_1 < (l0_0.length : Int) := of_decide_eq_true AS; obtain ⟨ad321, e321, hx321_0, hx321_1, hx321_2⟩ := at_T45 HR0_0.out x6_1 p321 q321; cases e321; replace hx321_0 := (HB.out.cell (World.block_lt_of_cell? w _ hx321_0)).trans hx321_0; replace hx321_1 := (HB.out.cell (World.block_lt_of_cell? w _ hx321_1)).trans hx321_1; replace hx321_2 := (HB.out.cell (World.block_lt_of_cell? w _ hx321_2)).trans hx321_2; replace p321 := eq_true p321; replace q321 := eq_true q321
   try go_wp2
   have n0_ := Aside0.mk (Kd.R_drew HO_321000.out); have n1_ := Aside0.mk (blk_drew BK318.out); have n2_ := Aside0.mk (blk_drew BK319.out); have n3_ := Aside0.mk (blk_drew BK320.out); have n4_ := Aside0.mk (below_drew1 HB.out); clear HO_321000; clear BK318; clear BK319; clear BK320; clear HB; have HO_321000 := n0_; have BK318 := n1_; have BK319 := n2_; have BK320 := n3_; have HB := n4_; clear n0_ n1_ n2_ n3_ n4_; have p322 : 0 ≤ (x6_1 : Int) := of_decide_eq_true AS; have q322 : x6_1 < (l0_0.length : Int) := of_decide_eq_true AS; obtain ⟨ad322, e322, hx322_0, hx322_1, hx322_2⟩ := at_T45 HR0_0.out x6_1 p322 q322; have hw322_2 := hx322_2; have hw322_1 := hx322_1; have hw322_0 := hx322_0; obtain rfl : ad321 = ad322 := (by injection e322); replace hx322_0 := (HB.out.cell (World.block_lt_of_cell? w _ hx322_0)).trans hx322_0; replace hx322_1 := (HB.out.cell (World.block_lt_of_cell? w _ hx322_1)).trans hx322_1; replace hx322_2 := (HB.out.cell (World.block_lt_of_cell? w _ hx322_2)).trans hx322_2; replace p322 := eq_true p322; replace q322 := eq_true q322; refine start_ (n := 11) (S := fun w' => w'.cell? ⟨gb320, 0, none⟩ = some (u321000) ∧ w'.cell? ⟨gb318, 0, none⟩ = some (.slice (some ad321) l0_0.length c0_0) ∧ w'.cell? (ad321.add ((x6_1).toNat * 3)) = some (.string ((rd_T45 l0_0 x6_1).f0)) ∧ w'.cell? ⟨(ad321.add ((x6_1).toNat * 3)).block, (ad321.add ((x6_1).toNat * 3)).off + 1, none⟩ = some (.string ((rd_T45 l0_0 x6_1).f1)) ∧ w'.cell? ⟨(ad321.add ((x6_1).toNat * 3)).block, (ad321.add ((x6_1).toNat * 3)).off + 2, none⟩ = some (.int .i64 ((rd_T45 l0_0 x6_1).f2))) (ds := [10]) #[false, false, false, false, false, false, false, false, false, false, false] (by kernel_rfl) rfl rfl ⟨CZ BK320.out 0, CZ BK318.out 0, ((HB.out.cell (World.block_lt_of_cell? w _ hw322_0)).trans hw322_0), ((HB.out.cell (World.block_lt_of_cell? w _ hw322_1)).trans hw322_1), ((HB.out.cell (World.block_lt_of_cell? w _ hw322_2)).trans hw322_2)⟩ (fun hHeld => ?_); refine with_tabW spec_l03Without.tab6 spec_l03Without.bits6 (fun HT_ HW_ => ?_); generalize wr.drew = w19 at HO_321000 BK318 BK319 BK320 HB hx322_0 hx322_1 hx322_2 hHeld ⊢; refine pV 0 23 (OB 11 1) ?_; refine pV 2 25 (OB 11 5) ?_; refine pV 4 27 (OB 11 21) ?_; refine take_ (i := 1) (N := some 24) (v := ?_) (a' := ?_) (OB 11 23) rfl rfl (take_ofW HT_.out HW_.out (by kernel_rfl)) (fun _ _ _ h => h) (Or.inl ⟨by rfl, ?_⟩) hHeld ?_ ?_; rotate_left
   ·
    rintro w' ⟨s0, s1, s2, s3, s4⟩
    go_simp
    with_reducible rfl
   rotate_left
   ·
    simp only [Act.put, zA, zB, zC, i64_w, i32_w]; rfl
   refine take_ (i := 3) (N := some 26) (v := ?_) (a' := ?_) (OB 11 31) rfl rfl (take_ofW HT_.out HW_.out (by kernel_rfl)) (fun _ _ _ h => h) (Or.inl ⟨by rfl, ?_⟩) hHeld ?_ ?_; rotate_left
   ·
    rintro w' ⟨s0, s1, s2, s3, s4⟩
    go_simp
    with_reducible rfl
   rotate_left
   ·
    simp only [Act.put, zA, zB, zC, i64_w, i32_w]; rfl
   refine pV 5 28 (OB 11 63) ?_; refine take_ (i := 6) (N := some 29) (v := ?_) (a' := ?_) (OB 11 127) rfl rfl (take_ofW HT_.out HW_.out (by kernel_rfl)) (fun _ _ _ h => h) (Or.inl ⟨by rfl, ?_⟩) hHeld ?_ ?_; rotate_left
   ·
    rintro w' ⟨s0, s1, s2, s3, s4⟩
    go_simp
    with_reducible rfl
   rotate_left
   ·
    simp only [Act.put, zA, zB, zC, i64_w, i32_w]; rfl
   refine one_ (i := 7) (N := some 30) (OB 11 255) rfl rfl (one_of HT_.out (by kernel_rfl)) (by decide) (fun K hK => ?_); refine value_ (w1 := ?_) (v := ?_) (by rfl) rfl ?_ ?_; rotate_left 2
   ·
    go_simp
    constructor
    ·
     rfl
    ·
     rfl
   refine hK.out _ _ ⟨(blk_cell (blk_alloc BK320.out _) 0).trans rfl, (blk_cell (blk_alloc BK318.out _) 0).trans rfl, (World.cell?_alloc_lt _ _ _ (World.block_lt_of_cell? _ _ (((HB.out.cell (World.block_lt_of_cell? w _ hw322_0)).trans hw322_0)))).trans (((HB.out.cell (World.block_lt_of_cell? w _ hw322_0)).trans hw322_0)), (World.cell?_alloc_lt _ _ _ (World.block_lt_of_cell? _ _ (((HB.out.cell (World.block_lt_of_cell? w _ hw322_1)).trans hw322_1)))).trans (((HB.out.cell (World.block_lt_of_cell? w _ hw322_1)).trans hw322_1)), (World.cell?_alloc_lt _ _ _ (World.block_lt_of_cell? _ _ (((HB.out.cell (World.block_lt_of_cell? w _ hw322_2)).trans hw322_2)))).trans (((HB.out.cell (World.block_lt_of_cell? w _ hw322_2)).trans hw322_2))⟩ (fun hHeld => ?_); clear hK K; refine norm_ (a' := ?_) ?_ ?_; rotate_left
   ·
    show Act.put _ (some 30) _ = _; simp only [Act.put, zA, zB, zC, i64_w, i32_w]; rfl
   refine one_ (i := 8) (N := some 31) (OB 11 511) rfl rfl (one_of HT_.out (by kernel_rfl)) (by decide) (fun K hK => ?_); refine Kd.R_append_step k45 (w0 := w) w.heap.size (by rfl) (.tmp 24) (.tmp 30) 27 45 (.agg #[(.string ⟨#[]⟩), (.string ⟨#[]⟩), (.int .i64 0)]) 40 rfl Try.underlying27 info45 rfl (by decide) (by omega) u321000 x321000_1 (⟨(rd_T45 l0_0 x6_1).f0, (rd_T45 l0_0 x6_1).f1, (rd_T45 l0_0 x6_1).f2⟩ : S45) [.string ((rd_T45 l0_0 x6_1).f0), .string ((rd_T45 l0_0 x6_1).f1), .int .i64 ((rd_T45 l0_0 x6_1).f2)] (fun _ => True) (fun _ => False) rfl rfl ?aP (fun _ hk => hk.elim) ?aF ?aO ?aB ?aS ?aL ?_
   (case aP => exact k45_mkM _ _ _ (⟨(rd_T45 l0_0 x6_1).f0, (rd_T45 l0_0 x6_1).f1, (rd_T45 l0_0 x6_1).f2⟩ : S45))
   (case aB => exact (BL))
   (case aF => exact (fun _ _ => trivial))
   (case aO => exact (RQ HO_321000.out))
   (case aS => exact (below_size (BL)))
   (case aL => have := LMc15.out; omega)
   intro v324 w20 ho hb hg hat; rw [← Ny323.out] at ho; have n0_ := Aside0.mk (blk_grown (g := gb318) (o := .cells #[.slice (some ad321) l0_0.length c0_0] 29 (0, 0)) (BQ BK318.out) hg (Kd.R_ne HO_321000.out BK318.out (by decide))); have n1_ := Aside0.mk (blk_grown (g := gb319) (o := .cells #[.slice none 0 0] 29 (0, 0)) (BQ BK319.out) hg (Kd.R_ne HO_321000.out BK319.out (by decide))); have n2_ := Aside0.mk (blk_grown (g := gb320) (o := .cells #[u321000] 29 (0, 0)) (BQ BK320.out) hg (Kd.R_ne HO_321000.out BK320.out (by decide))); have n3_ := Aside0.mk (hb); have n4_ := Aside0.mk (ho); clear BK318; clear BK319; clear BK320; clear HB; clear HO_321000; have BK318 := n0_; have BK319 := n1_; have BK320 := n2_; have HB := n3_; have HO325 := n4_; clear n0_ n1_ n2_ n3_ n4_; clear ho hb hg hat; obtain ⟨Ao21, co21, eo21⟩ := Kd.R_slice HO325.out
   (first | subst eo21 | (injection eo21 with f1_ f2_ f3_; have f4_ := f1_.symm; have f5_ := f3_.symm; clear f1_ f2_ f3_; subst f4_; subst f5_))
   refine hK.out _ _ ⟨CZ BK320.out 0, CZ BK318.out 0, ((HB.out.cell (World.block_lt_of_cell? w _ hw322_0)).trans hw322_0), ((HB.out.cell (World.block_lt_of_cell? w _ hw322_1)).trans hw322_1), ((HB.out.cell (World.block_lt_of_cell? w _ hw322_2)).trans hw322_2)⟩ (fun hHeld => ?_); clear hK K; refine norm_ (a' := ?_) ?_ ?_; rotate_left
   ·
    show Act.put _ (some 31) _ = _; simp only [Act.put, zA, zB, zC, i64_w, i32_w]; rfl
   refine pV 9 32 (OB 11 1023) ?_; refine last_ (i := 10) (N := none) #[true, true, true, true, true, true, true, true, true, true, true] rfl rfl (one_of HT_.out (by kernel_rfl)) (by decide) (fun K hK => ?_); have hs22 : w20.cell? ⟨gb320, 0, none⟩ = some (u321000) := CZ BK320.out 0; have hfs22 := blk_frozen BK320.out 0; have hns22_0 := NB318_320.out; have hns22_1 := NB319_320.out; have hms22_0 := NB320_318.out; have hms22_1 := NB320_319.out; refine skip_ (w1 := ?_) (by rfl) rfl ?_ ?_; rotate_left
   ·
    go_simp
    rfl
   refine hK.out _ _ ?_; clear hK K; refine done_ (done_of HT_.out (by kernel_rfl)) ?_
   try go_wp2
   go_roundg k1
   case measure => have := HK1.out; omega
   case rel => exact ⟨(wrap64 (x6_1 + 1)), (y323), (.slice Ao21 y323.length co21), SD, H', ⟨by have := HK1.out; omega⟩, ⟨RF HO325.out BK320.out⟩, ⟨BP BK318.out⟩, ⟨BP BK319.out⟩, ⟨BU BK320.out⟩, ⟨BL⟩⟩

end Go.Proofs.Ythfppepnpngfmaa.Qcu
