-- Laid by myprint.py, a program of this session's own, over the kit's print. Not trusted: Lean checks it.
import Derived.Test.YthfppepnpngfmaaQdox0
import Derived.Test.YthfppepnpngfmaaQdox10
namespace Go.Proofs.Ythfppepnpngfmaa.Qdo
open Go.RowKit Go.Proofs.YthfppepnpngfmaaW.PrintWords Go.Proofs.YthfppepnpngfmaaW.PrintLast Go.Proofs.YthfppepnpngfmaaW.PrintMore
attribute [local go_sem] Go.Proofs.Ythfppepnpngfmaa.StrCmp.gtr_less Go.Proofs.Ythfppepnpngfmaa.StrCmp.geq_less Go.Proofs.Ythfppepnpngfmaa.StrCmp.leq_less max2_int min2_int max_two min_two max_three min_three max_four min_four   -- for this text's walks alone
set_option linter.unusedVariables false
set_option linter.unusedSimpArgs false

/-! ### impl_DiskOk: function 15 -/
def impl_DiskOk.l0 : Nat → List (S45) → Int → Int → List (S45) → Option (Bool)
 | 0, _, _, _, _ => none
 | k + 1, x6, x7, x8, x243000 => if x8 < x7 then (if 0 ≤ x8 then (if x8 < (x6.length : Int) then ((impl_within.f (((rd_T45 x6 x8).f0).size : Int) 1 8).bind fun t245 => (if t245 = true then (if (((rd_T45 x6 x8).f1).size : Int) > 20000 then (some false) else ((impl_within.f ((rd_T45 x6 x8).f2) 0 (((rd_T45 x6 x8).f1).size : Int)).bind fun t246 => (if t246 = true then (if x8 > 0 then (if 0 ≤ (wrap64 (x8 - 1)) then (if (wrap64 (x8 - 1)) < (x243000.length : Int) then (if ((Op.bytesLess (((rd_T45 x243000 (wrap64 (x8 - 1))).f0).toList) (((rd_T45 x6 x8).f0).toList)) = true) then (impl_DiskOk.l0 k x6 x7 (wrap64 (x8 + 1)) x243000) else (some false)) else (none)) else (none)) else (impl_DiskOk.l0 k x6 x7 (wrap64 (x8 + 1)) x243000)) else (some false)))) else (some false))) else (none)) else (none)) else (some (decide ((x243000.length : Int) ≤ 30)))
def impl_DiskOk.f (k : Nat) (l0_0 : List (S45)) : Option (Bool) := impl_DiskOk.l0 k l0_0 (l0_0.length : Int) 0 l0_0
theorem impl_DiskOk.mono_l : ∀ k, (∀ y0 y1 y2 y3, LeO (impl_DiskOk.l0 k y0 y1 y2 y3) (impl_DiskOk.l0 (k + 1) y0 y1 y2 y3))
 | 0 => fun _ _ _ _ r h => by simp [impl_DiskOk.l0] at h
 | k + 1 => by
  have ih0 := impl_DiskOk.mono_l k
  ·
   intro y0 y1 y2 y3
   unfold impl_DiskOk.l0
   repeat' first
   | (with_reducible exact ih0 _ _ _ _)
   | (with_reducible exact LeO.refl _)
   | (with_reducible exact LeO.none _)
   | (with_reducible refine LeO.ite ?_ ?_)
   | (with_reducible refine LeO.bind ?_ (fun _ => ?_))
   | exact ih0 _ _ _ _
   | exact LeO.none _
   | refine LeO.ite ?_ ?_
   | refine LeO.bind ?_ (fun _ => ?_)
theorem impl_DiskOk.mono : ∀ a0 k, LeO (impl_DiskOk.f k a0) (impl_DiskOk.f (k + 1) a0) := by
 intro a0 k
 have ih0 := impl_DiskOk.mono_l k
 unfold impl_DiskOk.f
 repeat' first
   | (with_reducible exact ih0 _ _ _ _)
   | (with_reducible exact LeO.refl _)
   | (with_reducible exact LeO.none _)
   | (with_reducible refine LeO.ite ?_ ?_)
   | (with_reducible refine LeO.bind ?_ (fun _ => ?_))
   | exact ih0 _ _ _ _
   | exact LeO.none _
   | refine LeO.ite ?_ ?_
   | refine LeO.bind ?_ (fun _ => ?_)
def impl_DiskOk.T4 : Bool × List (List Nat × List Nat) := (true, [([], []), ([0], [0]), ([1], [1]), ([2], [2]), ([3], [3]), ([4, 3], [4]), ([5], [5]), ([6, 5], [5, 6]), ([7, 5], [5, 7]), ([8, 5], [5, 8]), ([5, 9], [5, 9]), ([10, 5], [10]), ([11], [11]), ([12, 11], [11, 12]), ([11], [11]), ([14, 11], [11, 14]), ([15, 11], [11, 15]), ([13, 16, 11, 11], [11, 13, 16]), ([17, 11], [11, 17]), ([11, 18], [11, 18]), ([19, 17], [19]), ([20], [20]), ([21, 20], [20, 21]), ([22, 20, 20], [20, 22]), ([23], [23]), ([24, 23], [23, 24]), ([23], [23]), ([26, 23], [23, 26]), ([25, 27, 23], [23, 25, 27]), ([28, 23], [23, 28]), ([29, 23], [23, 29]), ([23], [23]), ([31, 23], [23, 31]), ([30, 32, 23], [23, 30, 32]), ([23, 33, 20], [20, 23, 33]), ([20, 34], [20, 34])])
def impl_DiskOk.B4 : List Nat := [0, 1, 3, 7, 15, 31, 63, 127, 255, 511, 1023, 2047, 4095, 8191, 4095, 20479, 53247, 131071, 262143, 524287, 1048575, 2097151, 4194303, 8388607, 16777215, 33554431, 16777215, 83886079, 268435455, 536870911, 1073741823, 16777215, 2164260863, 8589934591, 17179869183, 34359738367]
theorem impl_DiskOk.tab4 : rtab .any (opsOf Try.f15 4) = impl_DiskOk.T4 := by kernel_rfl
theorem impl_DiskOk.bits4 : waitsOk impl_DiskOk.T4.2 impl_DiskOk.B4 = true := by kernel_rfl
set_option maxHeartbeats 8000000 in
set_option maxRecDepth 100000 in
theorem impl_DiskOk.calls (k : Nat) (A0_0 : Option Addr) (c0_0 : Nat) (l0_0 : List (S45)) (r : Bool) (w : World) (hr0_0 : Kd.C k45 w A0_0 l0_0.length l0_0) (hc0_0 : l0_0.length ≤ c0_0) (h : impl_DiskOk.f k l0_0 = some r) :
  Calls Try.prog 15 #[.agg #[.slice A0_0 l0_0.length c0_0]] w fun e w' => e = .returned (.bool r) ∧ Below w.heap.size w w' := by
 have hu29 := Try.underlying29
 have hu45 := Try.underlying45
 have HR0_0 := Aside0.mk hr0_0
 have HC0_0 := Aside0.mk hc0_0
 clear hr0_0 hc0_0
 have HB := Aside0.mk (Below.refl w.heap.size w)
 have H : (impl_DiskOk.l0 k l0_0 (l0_0.length : Int) 0 l0_0) = some r := h
 clear h
 have H' := Aside0.mk H
 clear H
 go_enter Try.func15, Try.ntmps15
 go_wp2_with (first | ((with_reducible refine gate_dst (N := 1) rfl ?_); (try (refine gate_guard (by rfl) ?_; dsimp only)); refine bE 1 #[.slice A0_0 l0_0.length c0_0] 29 ?_; intro gb242 hg w2 hbox hb; have BK242 := Aside0.mk (hbox); have GW242 : Aside0 (w.heap.size ≤ gb242) := GS; have GE242 : Aside0 (w.heap.size ≤ gb242) := GS; replace HB := Aside0.mk (below_step (BL) hb); clear hb hbox hg; have hcz3_0 : w2.cell? ⟨gb242, 0, none⟩ = some (.slice A0_0 l0_0.length c0_0) := CZ BK242.out 0; have hfz3_0 := blk_frozen BK242.out 0))
 go_loopg [8] k (fun kq v8 w' => ∃ (x8_1 : Int), v8 = .int .i64 x8_1 ∧ Aside0 (impl_DiskOk.l0 kq l0_0 (l0_0.length : Int) x8_1 l0_0 = some r) ∧ Aside0 (kq ≤ k) ∧ Aside0 (w'.heap[gb242]? = some (.cells #[(.slice A0_0 l0_0.length c0_0)] 29 (0, 0))) ∧ Aside0 (Below w.heap.size w w'))
 case atStart => exact ⟨(0), SD, H', ⟨Nat.le_refl _⟩, ⟨BQ BK242.out⟩, ⟨BL⟩⟩
 case round =>
  clear H'
  try clear c1
  try clear p2
  try clear hcz3_0
  try clear hfz3_0
  obtain ⟨x8_1, rfl, HA, HK1, BK242, HB⟩ := hrel
  cases gk with
  | zero => exact absurd HA.out (by simp [impl_DiskOk.l0])
  | succ k1 =>
   have H := HA.out
   clear HA
   simp only [impl_DiskOk.l0] at H
   by_cases c4 : x8_1 < (l0_0.length : Int); rotate_left
   ·
    rw [if_neg c4] at H
    have c4b0 : decide (x8_1 < (l0_0.length : Int)) = false := decide_eq_false c4
    clear c4
    obtain rfl := Option.some.inj H
    have hcz47_0 : wr.cell? ⟨gb242, 0, none⟩ = some (.slice A0_0 l0_0.length c0_0) := CZ BK242.out 0
    have hfz47_0 := blk_frozen BK242.out 0
    go_wp2
    go_ret
    exact ⟨EE, BL⟩
   rw [if_pos c4] at H
   have c4b0 : decide (x8_1 < (l0_0.length : Int)) = true := decide_eq_true c4
   clear c4
   by_cases c5 : 0 ≤ x8_1; rotate_left
   ·
    rw [if_neg c5] at H
    exact absurd H (by simp)
   rw [if_pos c5] at H
   have c5b0 : decide (0 ≤ x8_1) = true := decide_eq_true c5
   clear c5
   by_cases c6 : x8_1 < (l0_0.length : Int); rotate_left
   ·
    rw [if_neg c6] at H
    exact absurd H (by simp)
   rw [if_pos c6] at H
   have c6b0 : decide (x8_1 < (l0_0.length : Int)) = true := decide_eq_true c6
   clear c6
   replace H := Option.bind_eq_some_iff.mp H
   obtain ⟨t245, A70, H⟩ := H
   replace H : (if t245 = true then (if (((rd_T45 l0_0 x8_1).f1).size : Int) > 20000 then (some false) else ((impl_within.f ((rd_T45 l0_0 x8_1).f2) 0 (((rd_T45 l0_0 x8_1).f1).size : Int)).bind fun t246 => (if t246 = true then (if x8_1 > 0 then (if 0 ≤ (wrap64 (x8_1 - 1)) then (if (wrap64 (x8_1 - 1)) < (l0_0.length : Int) then (if ((Op.bytesLess (((rd_T45 l0_0 (wrap64 (x8_1 - 1))).f0).toList) (((rd_T45 l0_0 x8_1).f0).toList)) = true) then (impl_DiskOk.l0 k1 l0_0 (l0_0.length : Int) (wrap64 (x8_1 + 1)) l0_0) else (some false)) else (none)) else (none)) else (impl_DiskOk.l0 k1 l0_0 (l0_0.length : Int) (wrap64 (x8_1 + 1)) l0_0)) else (some false)))) else (some false)) = some r := H
   have A7 := Aside0.mk A70
   clear A70
   by_cases c8 : t245 = true; rotate_left
   ·
    replace c8 := Bool.eq_false_iff.mpr c8
    subst c8
    have H1 : (some false) = some r := by rw [if_neg (show ¬ (false = true) by decide)] at H; exact H
    clear H
    have H := H1
    clear H1
    obtain rfl := Option.some.inj H
    have p243 : 0 ≤ (x8_1 : Int) := of_decide_eq_true AS
    have q243 : x8_1 < (l0_0.length : Int) := of_decide_eq_true AS
    obtain ⟨ad243, e243, hx243_0, hx243_1, hx243_2⟩ := at_T45 HR0_0.out x8_1 p243 q243
    cases e243
    replace hx243_0 := (HB.out.cell (World.block_lt_of_cell? w _ hx243_0)).trans hx243_0
    replace hx243_1 := (HB.out.cell (World.block_lt_of_cell? w _ hx243_1)).trans hx243_1
    replace hx243_2 := (HB.out.cell (World.block_lt_of_cell? w _ hx243_2)).trans hx243_2
    replace p243 := eq_true p243
    replace q243 := eq_true q243
    try go_wp2_with (first | ((with_reducible refine gate_dst (N := 4) rfl ?_); (try (refine gate_guard (by rfl) ?_; dsimp only)); refine bE 4 #[.string (⟨#[]⟩ : ByteArray), .string (⟨#[]⟩ : ByteArray), .int .i64 0] 45 ?_; intro gb244 hg w42 hbox hb; have BK244 := Aside0.mk (hbox); have GW244 : Aside0 (w.heap.size ≤ gb244) := GS; have GE244 : Aside0 (w.heap.size ≤ gb244) := GS; have NB242_244 := NL BK242.out hg; have NB244_242 := NG BK242.out hg; replace BK242 := BB BK242.out hb; replace HB := Aside0.mk (below_step (BL) hb); clear hb hbox hg; have hnb43 := NB244_242.out; have hnc43 := NB242_244.out; have hcz44_0 : w42.cell? ⟨gb244, 0, none⟩ = some (.string (⟨#[]⟩ : ByteArray)) := CZ BK244.out 0; have hcz44_1 : w42.cell? ⟨gb244, 1, none⟩ = some (.string (⟨#[]⟩ : ByteArray)) := CZ BK244.out 1; have hcz44_2 : w42.cell? ⟨gb244, 2, none⟩ = some (.int .i64 0) := CZ BK244.out 2; have hfz44_0 := blk_frozen BK244.out 0; have hfz44_1 := blk_frozen BK244.out 1; have hfz44_2 := blk_frozen BK244.out 2))
    have n0_ : Aside0 ((((w42.setCell ⟨gb244, 0, none⟩ (.string ((rd_T45 l0_0 x8_1).f0))).setCell ⟨gb244, 1, none⟩ (.string ((rd_T45 l0_0 x8_1).f1))).setCell ⟨gb244, 2, none⟩ (.int .i64 ((rd_T45 l0_0 x8_1).f2))).heap[gb242]? = some (.cells #[.slice (some ad243) l0_0.length c0_0] 29 (0, 0))) := ⟨by (with_reducible repeat (first | apply b1 | apply b2 | apply b3)); refine blk_far ?_ NB242_244.out _; (with_reducible repeat (first | apply b1 | apply b2 | apply b3)); refine blk_far ?_ NB242_244.out _; (with_reducible repeat (first | apply b1 | apply b2 | apply b3)); refine blk_far ?_ NB242_244.out _; (with_reducible repeat (first | apply b1 | apply b2 | apply b3)); exact BK242.out⟩
    have n1_ : Aside0 ((((w42.setCell ⟨gb244, 0, none⟩ (.string ((rd_T45 l0_0 x8_1).f0))).setCell ⟨gb244, 1, none⟩ (.string ((rd_T45 l0_0 x8_1).f1))).setCell ⟨gb244, 2, none⟩ (.int .i64 ((rd_T45 l0_0 x8_1).f2))).heap[gb244]? = some (.cells #[.string ((rd_T45 l0_0 x8_1).f0), .string ((rd_T45 l0_0 x8_1).f1), .int .i64 ((rd_T45 l0_0 x8_1).f2)] 45 (0, 0))) := ⟨by (with_reducible repeat (first | apply b1 | apply b2 | apply b3)); refine blk_put (cs := #[.string ((rd_T45 l0_0 x8_1).f0), .string ((rd_T45 l0_0 x8_1).f1), .int .i64 0]) ?_ 2 _ rfl; (with_reducible repeat (first | apply b1 | apply b2 | apply b3)); refine blk_put (cs := #[.string ((rd_T45 l0_0 x8_1).f0), .string (⟨#[]⟩ : ByteArray), .int .i64 0]) ?_ 1 _ rfl; (with_reducible repeat (first | apply b1 | apply b2 | apply b3)); refine blk_put (cs := #[.string (⟨#[]⟩ : ByteArray), .string (⟨#[]⟩ : ByteArray), .int .i64 0]) ?_ 0 _ rfl; (with_reducible repeat (first | apply b1 | apply b2 | apply b3)); exact BK244.out⟩
    have n2_ : Aside0 (Below w.heap.size w (((w42.setCell ⟨gb244, 0, none⟩ (.string ((rd_T45 l0_0 x8_1).f0))).setCell ⟨gb244, 1, none⟩ (.string ((rd_T45 l0_0 x8_1).f1))).setCell ⟨gb244, 2, none⟩ (.int .i64 ((rd_T45 l0_0 x8_1).f2)))) := ⟨BL⟩
    (try clear BK242)
    (try clear BK244)
    (try clear HB)
    generalize (((w42.setCell ⟨gb244, 0, none⟩ (.string ((rd_T45 l0_0 x8_1).f0))).setCell ⟨gb244, 1, none⟩ (.string ((rd_T45 l0_0 x8_1).f1))).setCell ⟨gb244, 2, none⟩ (.int .i64 ((rd_T45 l0_0 x8_1).f2))) = w45 at n0_ n1_ n2_ ⊢
    have BK242 := n0_
    have BK244 := n1_
    have HB := n2_
    clear n0_ n1_ n2_
    have n0_ := Aside0.mk (blk_drew BK242.out)
    have n1_ := Aside0.mk (blk_drew BK244.out)
    have n2_ := Aside0.mk (below_drew1 HB.out)
    clear BK242
    clear BK244
    clear HB
    have BK242 := n0_
    have BK244 := n1_
    have HB := n2_
    clear n0_ n1_ n2_
    refine start_ (n := 36) (S := fun w' => w'.cell? ⟨gb244, 0, none⟩ = some (.string ((rd_T45 l0_0 x8_1).f0)) ∧ w'.cell? ⟨gb244, 1, none⟩ = some (.string ((rd_T45 l0_0 x8_1).f1)) ∧ w'.cell? ⟨gb244, 2, none⟩ = some (.int .i64 ((rd_T45 l0_0 x8_1).f2))) (ds := []) #[false, false, false, false, false, false, false, false, false, false, false, false, false, false, false, false, false, false, false, false, false, false, false, false, false, false, false, false, false, false, false, false, false, false, false, false] (by kernel_rfl) rfl rfl ⟨CZ BK244.out 0, CZ BK244.out 1, CZ BK244.out 2⟩ (fun hHeld => ?_); refine with_tabW impl_DiskOk.tab4 impl_DiskOk.bits4 (fun HT_ HW_ => ?_)
    generalize w45.drew = w46 at BK242 BK244 HB hHeld ⊢
    refine pV 0 13 (OB 36 1) ?_
    refine take_ (i := 1) (N := some 14) (v := ?_) (a' := ?_) (OB 36 3) rfl rfl (take_ofW HT_.out HW_.out (by kernel_rfl)) (fun _ _ _ h => h) (Or.inl ⟨by rfl, ?_⟩) hHeld ?_ ?_
    rotate_left
    ·
     rintro w' ⟨s0, s1, s2⟩
     go_simp
     with_reducible rfl
    rotate_left
    ·
     simp only [Act.put, zA, zB, zC, i64_w, i32_w]
     rfl
    refine pV 2 15 (OB 36 7) ?_
    refine one_ (i := 3) (N := some 16) (OB 36 15) rfl rfl (one_of HT_.out (by kernel_rfl)) (by decide) (fun K hK => ?_)
    refine goes_ Try.func51 (by kernel_rfl) rfl #[.int .i64 (((rd_T45 l0_0 x8_1).f0).size : Int), .int .i64 1, .int .i64 8] (by rfl) rfl rfl (MA) ?_
    with_reducible refine (impl_within.calls (((rd_T45 l0_0 x8_1).f0).size : Int) 1 8 false _ A7.out).mono ?_
    rintro e w' ⟨rfl, ⟨nd, rfl⟩⟩
    refine ⟨_, rfl, ?_⟩
    refine hK.out _ _ ⟨CZ BK244.out 0, CZ BK244.out 1, CZ BK244.out 2⟩ (fun hHeld => ?_)
    clear hK K
    refine norm_ (a' := ?_) ?_ ?_
    rotate_left
    ·
     show Act.put _ (some 16) _ = _
     simp only [Act.put, zA, zB, zC, i64_w, i32_w]
     rfl
    refine pV 4 17 (OB 36 31) ?_
    refine pV 5 18 (OB 36 63) ?_
    refine pN 6 19 (OB 36 127) ?_
    refine pN 7 20 (OB 36 255) ?_
    refine pN 8 21 (OB 36 511) ?_
    refine pN 9 22 (OB 36 1023) ?_
    refine pV 10 23 (OB 36 2047) ?_
    refine pV 11 24 (OB 36 4095) ?_
    refine pN 12 25 (OB 36 8191) ?_
    refine pN 13 26 (OB 36 16383) ?_
    refine pN 14 27 (OB 36 32767) ?_
    refine pN 15 28 (OB 36 65535) ?_
    refine pN 16 29 (OB 36 131071) ?_
    refine pN 17 30 (OB 36 262143) ?_
    refine pN 18 31 (OB 36 524287) ?_
    refine pV 19 32 (OB 36 1048575) ?_
    refine pV 20 33 (OB 36 2097151) ?_
    refine pN 21 34 (OB 36 4194303) ?_
    refine pN 22 35 (OB 36 8388607) ?_
    refine pN 23 36 (OB 36 16777215) ?_
    refine pN 24 37 (OB 36 33554431) ?_
    refine pN 25 38 (OB 36 67108863) ?_
    refine pN 26 39 (OB 36 134217727) ?_
    refine pN 27 40 (OB 36 268435455) ?_
    refine pN 28 41 (OB 36 536870911) ?_
    refine pN 29 42 (OB 36 1073741823) ?_
    refine pN 30 43 (OB 36 2147483647) ?_
    refine pN 31 44 (OB 36 4294967295) ?_
    refine pN 32 45 (OB 36 8589934591) ?_
    refine pN 33 46 (OB 36 17179869183) ?_
    refine pN 34 47 (OB 36 34359738367) ?_
    refine pV 35 48 (OB 36 68719476735) ?_
    refine done_ (done_of HT_.out (by kernel_rfl)) ?_
    try go_wp2
    go_ret
    exact ⟨EE, BL⟩
   subst c8
   have H1 : (if (((rd_T45 l0_0 x8_1).f1).size : Int) > 20000 then (some false) else ((impl_within.f ((rd_T45 l0_0 x8_1).f2) 0 (((rd_T45 l0_0 x8_1).f1).size : Int)).bind fun t246 => (if t246 = true then (if x8_1 > 0 then (if 0 ≤ (wrap64 (x8_1 - 1)) then (if (wrap64 (x8_1 - 1)) < (l0_0.length : Int) then (if ((Op.bytesLess (((rd_T45 l0_0 (wrap64 (x8_1 - 1))).f0).toList) (((rd_T45 l0_0 x8_1).f0).toList)) = true) then (impl_DiskOk.l0 k1 l0_0 (l0_0.length : Int) (wrap64 (x8_1 + 1)) l0_0) else (some false)) else (none)) else (none)) else (impl_DiskOk.l0 k1 l0_0 (l0_0.length : Int) (wrap64 (x8_1 + 1)) l0_0)) else (some false)))) = some r := by rw [if_pos rfl] at H; exact H
   clear H
   have H := H1
   clear H1
   by_cases c9 : (((rd_T45 l0_0 x8_1).f1).size : Int) > 20000
   ·
    rw [if_pos c9] at H
    have c9b0 : decide (20000 < (((rd_T45 l0_0 x8_1).f1).size : Int)) = true := decide_eq_true c9
    have c9b1 : decide (20000 < ((rd_T45 l0_0 x8_1).f1).size) = true := decide_eq_true (by omega)
    clear c9
    obtain rfl := Option.some.inj H
    have p243 : 0 ≤ (x8_1 : Int) := of_decide_eq_true AS
    have q243 : x8_1 < (l0_0.length : Int) := of_decide_eq_true AS
    obtain ⟨ad243, e243, hx243_0, hx243_1, hx243_2⟩ := at_T45 HR0_0.out x8_1 p243 q243
    cases e243
    replace hx243_0 := (HB.out.cell (World.block_lt_of_cell? w _ hx243_0)).trans hx243_0
    replace hx243_1 := (HB.out.cell (World.block_lt_of_cell? w _ hx243_1)).trans hx243_1
    replace hx243_2 := (HB.out.cell (World.block_lt_of_cell? w _ hx243_2)).trans hx243_2
    replace p243 := eq_true p243
    replace q243 := eq_true q243
    try go_wp2_with (first | ((with_reducible refine gate_dst (N := 4) rfl ?_); (try (refine gate_guard (by rfl) ?_; dsimp only)); refine bE 4 #[.string (⟨#[]⟩ : ByteArray), .string (⟨#[]⟩ : ByteArray), .int .i64 0] 45 ?_; intro gb244 hg w10 hbox hb; have BK244 := Aside0.mk (hbox); have GW244 : Aside0 (w.heap.size ≤ gb244) := GS; have GE244 : Aside0 (w.heap.size ≤ gb244) := GS; have NB242_244 := NL BK242.out hg; have NB244_242 := NG BK242.out hg; replace BK242 := BB BK242.out hb; replace HB := Aside0.mk (below_step (BL) hb); clear hb hbox hg; have hnb11 := NB244_242.out; have hnc11 := NB242_244.out; have hcz12_0 : w10.cell? ⟨gb244, 0, none⟩ = some (.string (⟨#[]⟩ : ByteArray)) := CZ BK244.out 0; have hcz12_1 : w10.cell? ⟨gb244, 1, none⟩ = some (.string (⟨#[]⟩ : ByteArray)) := CZ BK244.out 1; have hcz12_2 : w10.cell? ⟨gb244, 2, none⟩ = some (.int .i64 0) := CZ BK244.out 2; have hfz12_0 := blk_frozen BK244.out 0; have hfz12_1 := blk_frozen BK244.out 1; have hfz12_2 := blk_frozen BK244.out 2))
    have n0_ : Aside0 ((((w10.setCell ⟨gb244, 0, none⟩ (.string ((rd_T45 l0_0 x8_1).f0))).setCell ⟨gb244, 1, none⟩ (.string ((rd_T45 l0_0 x8_1).f1))).setCell ⟨gb244, 2, none⟩ (.int .i64 ((rd_T45 l0_0 x8_1).f2))).heap[gb242]? = some (.cells #[.slice (some ad243) l0_0.length c0_0] 29 (0, 0))) := ⟨by (with_reducible repeat (first | apply b1 | apply b2 | apply b3)); refine blk_far ?_ NB242_244.out _; (with_reducible repeat (first | apply b1 | apply b2 | apply b3)); refine blk_far ?_ NB242_244.out _; (with_reducible repeat (first | apply b1 | apply b2 | apply b3)); refine blk_far ?_ NB242_244.out _; (with_reducible repeat (first | apply b1 | apply b2 | apply b3)); exact BK242.out⟩
    have n1_ : Aside0 ((((w10.setCell ⟨gb244, 0, none⟩ (.string ((rd_T45 l0_0 x8_1).f0))).setCell ⟨gb244, 1, none⟩ (.string ((rd_T45 l0_0 x8_1).f1))).setCell ⟨gb244, 2, none⟩ (.int .i64 ((rd_T45 l0_0 x8_1).f2))).heap[gb244]? = some (.cells #[.string ((rd_T45 l0_0 x8_1).f0), .string ((rd_T45 l0_0 x8_1).f1), .int .i64 ((rd_T45 l0_0 x8_1).f2)] 45 (0, 0))) := ⟨by (with_reducible repeat (first | apply b1 | apply b2 | apply b3)); refine blk_put (cs := #[.string ((rd_T45 l0_0 x8_1).f0), .string ((rd_T45 l0_0 x8_1).f1), .int .i64 0]) ?_ 2 _ rfl; (with_reducible repeat (first | apply b1 | apply b2 | apply b3)); refine blk_put (cs := #[.string ((rd_T45 l0_0 x8_1).f0), .string (⟨#[]⟩ : ByteArray), .int .i64 0]) ?_ 1 _ rfl; (with_reducible repeat (first | apply b1 | apply b2 | apply b3)); refine blk_put (cs := #[.string (⟨#[]⟩ : ByteArray), .string (⟨#[]⟩ : ByteArray), .int .i64 0]) ?_ 0 _ rfl; (with_reducible repeat (first | apply b1 | apply b2 | apply b3)); exact BK244.out⟩
    have n2_ : Aside0 (Below w.heap.size w (((w10.setCell ⟨gb244, 0, none⟩ (.string ((rd_T45 l0_0 x8_1).f0))).setCell ⟨gb244, 1, none⟩ (.string ((rd_T45 l0_0 x8_1).f1))).setCell ⟨gb244, 2, none⟩ (.int .i64 ((rd_T45 l0_0 x8_1).f2)))) := ⟨BL⟩
    (try clear BK242)
    (try clear BK244)
    (try clear HB)
    generalize (((w10.setCell ⟨gb244, 0, none⟩ (.string ((rd_T45 l0_0 x8_1).f0))).setCell ⟨gb244, 1, none⟩ (.string ((rd_T45 l0_0 x8_1).f1))).setCell ⟨gb244, 2, none⟩ (.int .i64 ((rd_T45 l0_0 x8_1).f2))) = w13 at n0_ n1_ n2_ ⊢
    have BK242 := n0_
    have BK244 := n1_
    have HB := n2_
    clear n0_ n1_ n2_
    have n0_ := Aside0.mk (blk_drew BK242.out)
    have n1_ := Aside0.mk (blk_drew BK244.out)
    have n2_ := Aside0.mk (below_drew1 HB.out)
    clear BK242
    clear BK244
    clear HB
    have BK242 := n0_
    have BK244 := n1_
    have HB := n2_
    clear n0_ n1_ n2_
    refine start_ (n := 36) (S := fun w' => w'.cell? ⟨gb244, 0, none⟩ = some (.string ((rd_T45 l0_0 x8_1).f0)) ∧ w'.cell? ⟨gb244, 1, none⟩ = some (.string ((rd_T45 l0_0 x8_1).f1)) ∧ w'.cell? ⟨gb244, 2, none⟩ = some (.int .i64 ((rd_T45 l0_0 x8_1).f2))) (ds := []) #[false, false, false, false, false, false, false, false, false, false, false, false, false, false, false, false, false, false, false, false, false, false, false, false, false, false, false, false, false, false, false, false, false, false, false, false] (by kernel_rfl) rfl rfl ⟨CZ BK244.out 0, CZ BK244.out 1, CZ BK244.out 2⟩ (fun hHeld => ?_); refine with_tabW impl_DiskOk.tab4 impl_DiskOk.bits4 (fun HT_ HW_ => ?_)
    generalize w13.drew = w14 at BK242 BK244 HB hHeld ⊢
    refine pV 0 13 (OB 36 1) ?_
    refine take_ (i := 1) (N := some 14) (v := ?_) (a' := ?_) (OB 36 3) rfl rfl (take_ofW HT_.out HW_.out (by kernel_rfl)) (fun _ _ _ h => h) (Or.inl ⟨by rfl, ?_⟩) hHeld ?_ ?_
    rotate_left
    ·
     rintro w' ⟨s0, s1, s2⟩
     go_simp
     with_reducible rfl
    rotate_left
    ·
     simp only [Act.put, zA, zB, zC, i64_w, i32_w]
     rfl
    refine pV 2 15 (OB 36 7) ?_
    refine one_ (i := 3) (N := some 16) (OB 36 15) rfl rfl (one_of HT_.out (by kernel_rfl)) (by decide) (fun K hK => ?_)
    refine goes_ Try.func51 (by kernel_rfl) rfl #[.int .i64 (((rd_T45 l0_0 x8_1).f0).size : Int), .int .i64 1, .int .i64 8] (by rfl) rfl rfl (MA) ?_
    with_reducible refine (impl_within.calls (((rd_T45 l0_0 x8_1).f0).size : Int) 1 8 true _ A7.out).mono ?_
    rintro e w' ⟨rfl, ⟨nd, rfl⟩⟩
    refine ⟨_, rfl, ?_⟩
    refine hK.out _ _ ⟨CZ BK244.out 0, CZ BK244.out 1, CZ BK244.out 2⟩ (fun hHeld => ?_)
    clear hK K
    refine norm_ (a' := ?_) ?_ ?_
    rotate_left
    ·
     show Act.put _ (some 16) _ = _
     simp only [Act.put, zA, zB, zC, i64_w, i32_w]
     rfl
    refine pV 4 17 (OB 36 31) ?_
    refine pV 5 18 (OB 36 63) ?_
    refine pV 6 19 (OB 36 127) ?_
    refine take_ (i := 7) (N := some 20) (v := ?_) (a' := ?_) (OB 36 255) rfl rfl (take_ofW HT_.out HW_.out (by kernel_rfl)) (fun _ _ _ h => h) (Or.inl ⟨by rfl, ?_⟩) hHeld ?_ ?_
    rotate_left
    ·
     rintro w' ⟨s0, s1, s2⟩
     go_simp
     with_reducible rfl
    rotate_left
    ·
     simp only [Act.put, zA, zB, zC, i64_w, i32_w]
     rfl
    refine pV 8 21 (OB 36 511) ?_
    refine pV 9 22 (OB 36 1023) ?_
    refine pV 10 23 (OB 36 2047) ?_
    refine pV 11 24 (OB 36 4095) ?_
    refine pN 12 25 (OB 36 8191) ?_
    refine pN 13 26 (OB 36 16383) ?_
    refine pN 14 27 (OB 36 32767) ?_
    refine pN 15 28 (OB 36 65535) ?_
    refine pN 16 29 (OB 36 131071) ?_
    refine pN 17 30 (OB 36 262143) ?_
    refine pN 18 31 (OB 36 524287) ?_
    refine pV 19 32 (OB 36 1048575) ?_
    refine pV 20 33 (OB 36 2097151) ?_
    refine pN 21 34 (OB 36 4194303) ?_
    refine pN 22 35 (OB 36 8388607) ?_
    refine pN 23 36 (OB 36 16777215) ?_
    refine pN 24 37 (OB 36 33554431) ?_
    refine pN 25 38 (OB 36 67108863) ?_
    refine pN 26 39 (OB 36 134217727) ?_
    refine pN 27 40 (OB 36 268435455) ?_
    refine pN 28 41 (OB 36 536870911) ?_
    refine pN 29 42 (OB 36 1073741823) ?_
    refine pN 30 43 (OB 36 2147483647) ?_
    refine pN 31 44 (OB 36 4294967295) ?_
    refine pN 32 45 (OB 36 8589934591) ?_
    refine pN 33 46 (OB 36 17179869183) ?_
    refine pN 34 47 (OB 36 34359738367) ?_
    refine pV 35 48 (OB 36 68719476735) ?_
    refine done_ (done_of HT_.out (by kernel_rfl)) ?_
    try go_wp2
    go_ret
    exact ⟨EE, BL⟩
   rw [if_neg c9] at H
   have c9b0 : decide (20000 < (((rd_T45 l0_0 x8_1).f1).size : Int)) = false := decide_eq_false c9
   have c9b1 : decide (20000 < ((rd_T45 l0_0 x8_1).f1).size) = false := decide_eq_false (by omega)
   clear c9
   replace H := Option.bind_eq_some_iff.mp H
   obtain ⟨t246, A150, H⟩ := H
   replace H : (if t246 = true then (if x8_1 > 0 then (if 0 ≤ (wrap64 (x8_1 - 1)) then (if (wrap64 (x8_1 - 1)) < (l0_0.length : Int) then (if ((Op.bytesLess (((rd_T45 l0_0 (wrap64 (x8_1 - 1))).f0).toList) (((rd_T45 l0_0 x8_1).f0).toList)) = true) then (impl_DiskOk.l0 k1 l0_0 (l0_0.length : Int) (wrap64 (x8_1 + 1)) l0_0) else (some false)) else (none)) else (none)) else (impl_DiskOk.l0 k1 l0_0 (l0_0.length : Int) (wrap64 (x8_1 + 1)) l0_0)) else (some false)) = some r := H
   have A15 := Aside0.mk A150
   clear A150
   by_cases c16 : t246 = true; rotate_left
   ·
    replace c16 := Bool.eq_false_iff.mpr c16
    subst c16
    have H1 : (some false) = some r := by rw [if_neg (show ¬ (false = true) by decide)] at H; exact H
    clear H
    have H := H1
    clear H1
    obtain rfl := Option.some.inj H
    have p243 : 0 ≤ (x8_1 : Int) := of_decide_eq_true AS
    have q243 : x8_1 < (l0_0.length : Int) := of_decide_eq_true AS
    obtain ⟨ad243, e243, hx243_0, hx243_1, hx243_2⟩ := at_T45 HR0_0.out x8_1 p243 q243
    cases e243
    replace hx243_0 := (HB.out.cell (World.block_lt_of_cell? w _ hx243_0)).trans hx243_0
    replace hx243_1 := (HB.out.cell (World.block_lt_of_cell? w _ hx243_1)).trans hx243_1
    replace hx243_2 := (HB.out.cell (World.block_lt_of_cell? w _ hx243_2)).trans hx243_2
    replace p243 := eq_true p243
    replace q243 := eq_true q243
    try go_wp2_with (first | ((with_reducible refine gate_dst (N := 4) rfl ?_); (try (refine gate_guard (by rfl) ?_; dsimp only)); refine bE 4 #[.string (⟨#[]⟩ : ByteArray), .string (⟨#[]⟩ : ByteArray), .int .i64 0] 45 ?_; intro gb244 hg w37 hbox hb; have BK244 := Aside0.mk (hbox); have GW244 : Aside0 (w.heap.size ≤ gb244) := GS; have GE244 : Aside0 (w.heap.size ≤ gb244) := GS; have NB242_244 := NL BK242.out hg; have NB244_242 := NG BK242.out hg; replace BK242 := BB BK242.out hb; replace HB := Aside0.mk (below_step (BL) hb); clear hb hbox hg; have hnb38 := NB244_242.out; have hnc38 := NB242_244.out; have hcz39_0 : w37.cell? ⟨gb244, 0, none⟩ = some (.string (⟨#[]⟩ : ByteArray)) := CZ BK244.out 0; have hcz39_1 : w37.cell? ⟨gb244, 1, none⟩ = some (.string (⟨#[]⟩ : ByteArray)) := CZ BK244.out 1; have hcz39_2 : w37.cell? ⟨gb244, 2, none⟩ = some (.int .i64 0) := CZ BK244.out 2; have hfz39_0 := blk_frozen BK244.out 0; have hfz39_1 := blk_frozen BK244.out 1; have hfz39_2 := blk_frozen BK244.out 2))
    have n0_ : Aside0 ((((w37.setCell ⟨gb244, 0, none⟩ (.string ((rd_T45 l0_0 x8_1).f0))).setCell ⟨gb244, 1, none⟩ (.string ((rd_T45 l0_0 x8_1).f1))).setCell ⟨gb244, 2, none⟩ (.int .i64 ((rd_T45 l0_0 x8_1).f2))).heap[gb242]? = some (.cells #[.slice (some ad243) l0_0.length c0_0] 29 (0, 0))) := ⟨by (with_reducible repeat (first | apply b1 | apply b2 | apply b3)); refine blk_far ?_ NB242_244.out _; (with_reducible repeat (first | apply b1 | apply b2 | apply b3)); refine blk_far ?_ NB242_244.out _; (with_reducible repeat (first | apply b1 | apply b2 | apply b3)); refine blk_far ?_ NB242_244.out _; (with_reducible repeat (first | apply b1 | apply b2 | apply b3)); exact BK242.out⟩
    have n1_ : Aside0 ((((w37.setCell ⟨gb244, 0, none⟩ (.string ((rd_T45 l0_0 x8_1).f0))).setCell ⟨gb244, 1, none⟩ (.string ((rd_T45 l0_0 x8_1).f1))).setCell ⟨gb244, 2, none⟩ (.int .i64 ((rd_T45 l0_0 x8_1).f2))).heap[gb244]? = some (.cells #[.string ((rd_T45 l0_0 x8_1).f0), .string ((rd_T45 l0_0 x8_1).f1), .int .i64 ((rd_T45 l0_0 x8_1).f2)] 45 (0, 0))) := ⟨by (with_reducible repeat (first | apply b1 | apply b2 | apply b3)); refine blk_put (cs := #[.string ((rd_T45 l0_0 x8_1).f0), .string ((rd_T45 l0_0 x8_1).f1), .int .i64 0]) ?_ 2 _ rfl; (with_reducible repeat (first | apply b1 | apply b2 | apply b3)); refine blk_put (cs := #[.string ((rd_T45 l0_0 x8_1).f0), .string (⟨#[]⟩ : ByteArray), .int .i64 0]) ?_ 1 _ rfl; (with_reducible repeat (first | apply b1 | apply b2 | apply b3)); refine blk_put (cs := #[.string (⟨#[]⟩ : ByteArray), .string (⟨#[]⟩ : ByteArray), .int .i64 0]) ?_ 0 _ rfl; (with_reducible repeat (first | apply b1 | apply b2 | apply b3)); exact BK244.out⟩
    have n2_ : Aside0 (Below w.heap.size w (((w37.setCell ⟨gb244, 0, none⟩ (.string ((rd_T45 l0_0 x8_1).f0))).setCell ⟨gb244, 1, none⟩ (.string ((rd_T45 l0_0 x8_1).f1))).setCell ⟨gb244, 2, none⟩ (.int .i64 ((rd_T45 l0_0 x8_1).f2)))) := ⟨BL⟩
    (try clear BK242)
    (try clear BK244)
    (try clear HB)
    generalize (((w37.setCell ⟨gb244, 0, none⟩ (.string ((rd_T45 l0_0 x8_1).f0))).setCell ⟨gb244, 1, none⟩ (.string ((rd_T45 l0_0 x8_1).f1))).setCell ⟨gb244, 2, none⟩ (.int .i64 ((rd_T45 l0_0 x8_1).f2))) = w40 at n0_ n1_ n2_ ⊢
    have BK242 := n0_
    have BK244 := n1_
    have HB := n2_
    clear n0_ n1_ n2_
    have n0_ := Aside0.mk (blk_drew BK242.out)
    have n1_ := Aside0.mk (blk_drew BK244.out)
    have n2_ := Aside0.mk (below_drew1 HB.out)
    clear BK242
    clear BK244
    clear HB
    have BK242 := n0_
    have BK244 := n1_
    have HB := n2_
    clear n0_ n1_ n2_
    refine start_ (n := 36) (S := fun w' => w'.cell? ⟨gb244, 0, none⟩ = some (.string ((rd_T45 l0_0 x8_1).f0)) ∧ w'.cell? ⟨gb244, 1, none⟩ = some (.string ((rd_T45 l0_0 x8_1).f1)) ∧ w'.cell? ⟨gb244, 2, none⟩ = some (.int .i64 ((rd_T45 l0_0 x8_1).f2))) (ds := []) #[false, false, false, false, false, false, false, false, false, false, false, false, false, false, false, false, false, false, false, false, false, false, false, false, false, false, false, false, false, false, false, false, false, false, false, false] (by kernel_rfl) rfl rfl ⟨CZ BK244.out 0, CZ BK244.out 1, CZ BK244.out 2⟩ (fun hHeld => ?_); refine with_tabW impl_DiskOk.tab4 impl_DiskOk.bits4 (fun HT_ HW_ => ?_)
    generalize w40.drew = w41 at BK242 BK244 HB hHeld ⊢
    refine pV 0 13 (OB 36 1) ?_
    refine take_ (i := 1) (N := some 14) (v := ?_) (a' := ?_) (OB 36 3) rfl rfl (take_ofW HT_.out HW_.out (by kernel_rfl)) (fun _ _ _ h => h) (Or.inl ⟨by rfl, ?_⟩) hHeld ?_ ?_
    rotate_left
    ·
     rintro w' ⟨s0, s1, s2⟩
     go_simp
     with_reducible rfl
    rotate_left
    ·
     simp only [Act.put, zA, zB, zC, i64_w, i32_w]
     rfl
    refine pV 2 15 (OB 36 7) ?_
    refine one_ (i := 3) (N := some 16) (OB 36 15) rfl rfl (one_of HT_.out (by kernel_rfl)) (by decide) (fun K hK => ?_)
    refine goes_ Try.func51 (by kernel_rfl) rfl #[.int .i64 (((rd_T45 l0_0 x8_1).f0).size : Int), .int .i64 1, .int .i64 8] (by rfl) rfl rfl (MA) ?_
    with_reducible refine (impl_within.calls (((rd_T45 l0_0 x8_1).f0).size : Int) 1 8 true _ A7.out).mono ?_
    rintro e w' ⟨rfl, ⟨nd, rfl⟩⟩
    refine ⟨_, rfl, ?_⟩
    refine hK.out _ _ ⟨CZ BK244.out 0, CZ BK244.out 1, CZ BK244.out 2⟩ (fun hHeld => ?_)
    clear hK K
    refine norm_ (a' := ?_) ?_ ?_
    rotate_left
    ·
     show Act.put _ (some 16) _ = _
     simp only [Act.put, zA, zB, zC, i64_w, i32_w]
     rfl
    refine pV 4 17 (OB 36 31) ?_
    refine pV 5 18 (OB 36 63) ?_
    refine pV 6 19 (OB 36 127) ?_
    refine take_ (i := 7) (N := some 20) (v := ?_) (a' := ?_) (OB 36 255) rfl rfl (take_ofW HT_.out HW_.out (by kernel_rfl)) (fun _ _ _ h => h) (Or.inl ⟨by rfl, ?_⟩) hHeld ?_ ?_
    rotate_left
    ·
     rintro w' ⟨s0, s1, s2⟩
     go_simp
     with_reducible rfl
    rotate_left
    ·
     simp only [Act.put, zA, zB, zC, i64_w, i32_w]
     rfl
    refine pV 8 21 (OB 36 511) ?_
    refine pV 9 22 (OB 36 1023) ?_
    refine pV 10 23 (OB 36 2047) ?_
    refine pV 11 24 (OB 36 4095) ?_
    refine pV 12 25 (OB 36 8191) ?_
    refine pV 14 27 (OB 36 24575) ?_
    refine take_ (i := 13) (N := some 26) (v := ?_) (a' := ?_) (OB 36 32767) rfl rfl (take_ofW HT_.out HW_.out (by kernel_rfl)) (fun _ _ _ h => h) (Or.inl ⟨by rfl, ?_⟩) hHeld ?_ ?_
    rotate_left
    ·
     rintro w' ⟨s0, s1, s2⟩
     go_simp
     with_reducible rfl
    rotate_left
    ·
     simp only [Act.put, zA, zB, zC, i64_w, i32_w]
     rfl
    refine take_ (i := 15) (N := some 28) (v := ?_) (a' := ?_) (OB 36 65535) rfl rfl (take_ofW HT_.out HW_.out (by kernel_rfl)) (fun _ _ _ h => h) (Or.inl ⟨by rfl, ?_⟩) hHeld ?_ ?_
    rotate_left
    ·
     rintro w' ⟨s0, s1, s2⟩
     go_simp
     with_reducible rfl
    rotate_left
    ·
     simp only [Act.put, zA, zB, zC, i64_w, i32_w]
     rfl
    refine pV 16 29 (OB 36 131071) ?_
    refine one_ (i := 17) (N := some 30) (OB 36 262143) rfl rfl (one_of HT_.out (by kernel_rfl)) (by decide) (fun K hK => ?_)
    refine goes_ Try.func51 (by kernel_rfl) rfl #[.int .i64 ((rd_T45 l0_0 x8_1).f2), .int .i64 0, .int .i64 (((rd_T45 l0_0 x8_1).f1).size : Int)] (by rfl) rfl rfl (MA) ?_
    with_reducible refine (impl_within.calls ((rd_T45 l0_0 x8_1).f2) 0 (((rd_T45 l0_0 x8_1).f1).size : Int) false _ A15.out).mono ?_
    rintro e w' ⟨rfl, ⟨nd, rfl⟩⟩
    refine ⟨_, rfl, ?_⟩
    refine hK.out _ _ ⟨CZ BK244.out 0, CZ BK244.out 1, CZ BK244.out 2⟩ (fun hHeld => ?_)
    clear hK K
    refine norm_ (a' := ?_) ?_ ?_
    rotate_left
    ·
     show Act.put _ (some 30) _ = _
     simp only [Act.put, zA, zB, zC, i64_w, i32_w]
     rfl
    refine pV 18 31 (OB 36 524287) ?_
    refine pV 19 32 (OB 36 1048575) ?_
    refine pV 20 33 (OB 36 2097151) ?_
    refine pN 21 34 (OB 36 4194303) ?_
    refine pN 22 35 (OB 36 8388607) ?_
    refine pN 23 36 (OB 36 16777215) ?_
    refine pN 24 37 (OB 36 33554431) ?_
    refine pN 25 38 (OB 36 67108863) ?_
    refine pN 26 39 (OB 36 134217727) ?_
    refine pN 27 40 (OB 36 268435455) ?_
    refine pN 28 41 (OB 36 536870911) ?_
    refine pN 29 42 (OB 36 1073741823) ?_
    refine pN 30 43 (OB 36 2147483647) ?_
    refine pN 31 44 (OB 36 4294967295) ?_
    refine pN 32 45 (OB 36 8589934591) ?_
    refine pN 33 46 (OB 36 17179869183) ?_
    refine pN 34 47 (OB 36 34359738367) ?_
    refine pV 35 48 (OB 36 68719476735) ?_
    refine done_ (done_of HT_.out (by kernel_rfl)) ?_
    try go_wp2
    go_ret
    exact ⟨EE, BL⟩
   subst c16
   have H1 : (if x8_1 > 0 then (if 0 ≤ (wrap64 (x8_1 - 1)) then (if (wrap64 (x8_1 - 1)) < (l0_0.length : Int) then (if ((Op.bytesLess (((rd_T45 l0_0 (wrap64 (x8_1 - 1))).f0).toList) (((rd_T45 l0_0 x8_1).f0).toList)) = true) then (impl_DiskOk.l0 k1 l0_0 (l0_0.length : Int) (wrap64 (x8_1 + 1)) l0_0) else (some false)) else (none)) else (none)) else (impl_DiskOk.l0 k1 l0_0 (l0_0.length : Int) (wrap64 (x8_1 + 1)) l0_0)) = some r := by rw [if_pos rfl] at H; exact H
   clear H
   have H := H1
   clear H1
   by_cases c17 : x8_1 > 0; rotate_left
   ·
    rw [if_neg c17] at H
    have c17b0 : decide (0 < x8_1) = false := decide_eq_false c17
    clear c17
    have H' := Aside0.mk H
    clear H
    have p243 : 0 ≤ (x8_1 : Int) := of_decide_eq_true AS
    have q243 : x8_1 < (l0_0.length : Int) := of_decide_eq_true AS
    obtain ⟨ad243, e243, hx243_0, hx243_1, hx243_2⟩ := at_T45 HR0_0.out x8_1 p243 q243
    cases e243
    replace hx243_0 := (HB.out.cell (World.block_lt_of_cell? w _ hx243_0)).trans hx243_0
    replace hx243_1 := (HB.out.cell (World.block_lt_of_cell? w _ hx243_1)).trans hx243_1
    replace hx243_2 := (HB.out.cell (World.block_lt_of_cell? w _ hx243_2)).trans hx243_2
    replace p243 := eq_true p243
    replace q243 := eq_true q243
    try go_wp2_with (first | ((with_reducible refine gate_dst (N := 4) rfl ?_); (try (refine gate_guard (by rfl) ?_; dsimp only)); refine bE 4 #[.string (⟨#[]⟩ : ByteArray), .string (⟨#[]⟩ : ByteArray), .int .i64 0] 45 ?_; intro gb244 hg w32 hbox hb; have BK244 := Aside0.mk (hbox); have GW244 : Aside0 (w.heap.size ≤ gb244) := GS; have GE244 : Aside0 (w.heap.size ≤ gb244) := GS; have NB242_244 := NL BK242.out hg; have NB244_242 := NG BK242.out hg; replace BK242 := BB BK242.out hb; replace HB := Aside0.mk (below_step (BL) hb); clear hb hbox hg; have hnb33 := NB244_242.out; have hnc33 := NB242_244.out; have hcz34_0 : w32.cell? ⟨gb244, 0, none⟩ = some (.string (⟨#[]⟩ : ByteArray)) := CZ BK244.out 0; have hcz34_1 : w32.cell? ⟨gb244, 1, none⟩ = some (.string (⟨#[]⟩ : ByteArray)) := CZ BK244.out 1; have hcz34_2 : w32.cell? ⟨gb244, 2, none⟩ = some (.int .i64 0) := CZ BK244.out 2; have hfz34_0 := blk_frozen BK244.out 0; have hfz34_1 := blk_frozen BK244.out 1; have hfz34_2 := blk_frozen BK244.out 2))
    have n0_ : Aside0 ((((w32.setCell ⟨gb244, 0, none⟩ (.string ((rd_T45 l0_0 x8_1).f0))).setCell ⟨gb244, 1, none⟩ (.string ((rd_T45 l0_0 x8_1).f1))).setCell ⟨gb244, 2, none⟩ (.int .i64 ((rd_T45 l0_0 x8_1).f2))).heap[gb242]? = some (.cells #[.slice (some ad243) l0_0.length c0_0] 29 (0, 0))) := ⟨by (with_reducible repeat (first | apply b1 | apply b2 | apply b3)); refine blk_far ?_ NB242_244.out _; (with_reducible repeat (first | apply b1 | apply b2 | apply b3)); refine blk_far ?_ NB242_244.out _; (with_reducible repeat (first | apply b1 | apply b2 | apply b3)); refine blk_far ?_ NB242_244.out _; (with_reducible repeat (first | apply b1 | apply b2 | apply b3)); exact BK242.out⟩
    have n1_ : Aside0 ((((w32.setCell ⟨gb244, 0, none⟩ (.string ((rd_T45 l0_0 x8_1).f0))).setCell ⟨gb244, 1, none⟩ (.string ((rd_T45 l0_0 x8_1).f1))).setCell ⟨gb244, 2, none⟩ (.int .i64 ((rd_T45 l0_0 x8_1).f2))).heap[gb244]? = some (.cells #[.string ((rd_T45 l0_0 x8_1).f0), .string ((rd_T45 l0_0 x8_1).f1), .int .i64 ((rd_T45 l0_0 x8_1).f2)] 45 (0, 0))) := ⟨by (with_reducible repeat (first | apply b1 | apply b2 | apply b3)); refine blk_put (cs := #[.string ((rd_T45 l0_0 x8_1).f0), .string ((rd_T45 l0_0 x8_1).f1), .int .i64 0]) ?_ 2 _ rfl; (with_reducible repeat (first | apply b1 | apply b2 | apply b3)); refine blk_put (cs := #[.string ((rd_T45 l0_0 x8_1).f0), .string (⟨#[]⟩ : ByteArray), .int .i64 0]) ?_ 1 _ rfl; (with_reducible repeat (first | apply b1 | apply b2 | apply b3)); refine blk_put (cs := #[.string (⟨#[]⟩ : ByteArray), .string (⟨#[]⟩ : ByteArray), .int .i64 0]) ?_ 0 _ rfl; (with_reducible repeat (first | apply b1 | apply b2 | apply b3)); exact BK244.out⟩
    have n2_ : Aside0 (Below w.heap.size w (((w32.setCell ⟨gb244, 0, none⟩ (.string ((rd_T45 l0_0 x8_1).f0))).setCell ⟨gb244, 1, none⟩ (.string ((rd_T45 l0_0 x8_1).f1))).setCell ⟨gb244, 2, none⟩ (.int .i64 ((rd_T45 l0_0 x8_1).f2)))) := ⟨BL⟩
    (try clear BK242)
    (try clear BK244)
    (try clear HB)
    generalize (((w32.setCell ⟨gb244, 0, none⟩ (.string ((rd_T45 l0_0 x8_1).f0))).setCell ⟨gb244, 1, none⟩ (.string ((rd_T45 l0_0 x8_1).f1))).setCell ⟨gb244, 2, none⟩ (.int .i64 ((rd_T45 l0_0 x8_1).f2))) = w35 at n0_ n1_ n2_ ⊢
    have BK242 := n0_
    have BK244 := n1_
    have HB := n2_
    clear n0_ n1_ n2_
    have n0_ := Aside0.mk (blk_drew BK242.out)
    have n1_ := Aside0.mk (blk_drew BK244.out)
    have n2_ := Aside0.mk (below_drew1 HB.out)
    clear BK242
    clear BK244
    clear HB
    have BK242 := n0_
    have BK244 := n1_
    have HB := n2_
    clear n0_ n1_ n2_
    refine start_ (n := 36) (S := fun w' => w'.cell? ⟨gb244, 0, none⟩ = some (.string ((rd_T45 l0_0 x8_1).f0)) ∧ w'.cell? ⟨gb244, 1, none⟩ = some (.string ((rd_T45 l0_0 x8_1).f1)) ∧ w'.cell? ⟨gb244, 2, none⟩ = some (.int .i64 ((rd_T45 l0_0 x8_1).f2))) (ds := []) #[false, false, false, false, false, false, false, false, false, false, false, false, false, false, false, false, false, false, false, false, false, false, false, false, false, false, false, false, false, false, false, false, false, false, false, false] (by kernel_rfl) rfl rfl ⟨CZ BK244.out 0, CZ BK244.out 1, CZ BK244.out 2⟩ (fun hHeld => ?_); refine with_tabW impl_DiskOk.tab4 impl_DiskOk.bits4 (fun HT_ HW_ => ?_)
    generalize w35.drew = w36 at BK242 BK244 HB hHeld ⊢
    refine pV 0 13 (OB 36 1) ?_
    refine take_ (i := 1) (N := some 14) (v := ?_) (a' := ?_) (OB 36 3) rfl rfl (take_ofW HT_.out HW_.out (by kernel_rfl)) (fun _ _ _ h => h) (Or.inl ⟨by rfl, ?_⟩) hHeld ?_ ?_
    rotate_left
    ·
     rintro w' ⟨s0, s1, s2⟩
     go_simp
     with_reducible rfl
    rotate_left
    ·
     simp only [Act.put, zA, zB, zC, i64_w, i32_w]
     rfl
    refine pV 2 15 (OB 36 7) ?_
    refine one_ (i := 3) (N := some 16) (OB 36 15) rfl rfl (one_of HT_.out (by kernel_rfl)) (by decide) (fun K hK => ?_)
    refine goes_ Try.func51 (by kernel_rfl) rfl #[.int .i64 (((rd_T45 l0_0 x8_1).f0).size : Int), .int .i64 1, .int .i64 8] (by rfl) rfl rfl (MA) ?_
    with_reducible refine (impl_within.calls (((rd_T45 l0_0 x8_1).f0).size : Int) 1 8 true _ A7.out).mono ?_
    rintro e w' ⟨rfl, ⟨nd, rfl⟩⟩
    refine ⟨_, rfl, ?_⟩
    refine hK.out _ _ ⟨CZ BK244.out 0, CZ BK244.out 1, CZ BK244.out 2⟩ (fun hHeld => ?_)
    clear hK K
    refine norm_ (a' := ?_) ?_ ?_
    rotate_left
    ·
     show Act.put _ (some 16) _ = _
     simp only [Act.put, zA, zB, zC, i64_w, i32_w]
     rfl
    refine pV 4 17 (OB 36 31) ?_
    refine pV 5 18 (OB 36 63) ?_
    refine pV 6 19 (OB 36 127) ?_
    refine take_ (i := 7) (N := some 20) (v := ?_) (a' := ?_) (OB 36 255) rfl rfl (take_ofW HT_.out HW_.out (by kernel_rfl)) (fun _ _ _ h => h) (Or.inl ⟨by rfl, ?_⟩) hHeld ?_ ?_
    rotate_left
    ·
     rintro w' ⟨s0, s1, s2⟩
     go_simp
     with_reducible rfl
    rotate_left
    ·
     simp only [Act.put, zA, zB, zC, i64_w, i32_w]
     rfl
    refine pV 8 21 (OB 36 511) ?_
    refine pV 9 22 (OB 36 1023) ?_
    refine pV 10 23 (OB 36 2047) ?_
    refine pV 11 24 (OB 36 4095) ?_
    refine pV 12 25 (OB 36 8191) ?_
    refine pV 14 27 (OB 36 24575) ?_
    refine take_ (i := 13) (N := some 26) (v := ?_) (a' := ?_) (OB 36 32767) rfl rfl (take_ofW HT_.out HW_.out (by kernel_rfl)) (fun _ _ _ h => h) (Or.inl ⟨by rfl, ?_⟩) hHeld ?_ ?_
    rotate_left
    ·
     rintro w' ⟨s0, s1, s2⟩
     go_simp
     with_reducible rfl
    rotate_left
    ·
     simp only [Act.put, zA, zB, zC, i64_w, i32_w]
     rfl
    refine take_ (i := 15) (N := some 28) (v := ?_) (a' := ?_) (OB 36 65535) rfl rfl (take_ofW HT_.out HW_.out (by kernel_rfl)) (fun _ _ _ h => h) (Or.inl ⟨by rfl, ?_⟩) hHeld ?_ ?_
    rotate_left
    ·
     rintro w' ⟨s0, s1, s2⟩
     go_simp
     with_reducible rfl
    rotate_left
    ·
     simp only [Act.put, zA, zB, zC, i64_w, i32_w]
     rfl
    refine pV 16 29 (OB 36 131071) ?_
    refine one_ (i := 17) (N := some 30) (OB 36 262143) rfl rfl (one_of HT_.out (by kernel_rfl)) (by decide) (fun K hK => ?_)
    refine goes_ Try.func51 (by kernel_rfl) rfl #[.int .i64 ((rd_T45 l0_0 x8_1).f2), .int .i64 0, .int .i64 (((rd_T45 l0_0 x8_1).f1).size : Int)] (by rfl) rfl rfl (MA) ?_
    with_reducible refine (impl_within.calls ((rd_T45 l0_0 x8_1).f2) 0 (((rd_T45 l0_0 x8_1).f1).size : Int) true _ A15.out).mono ?_
    rintro e w' ⟨rfl, ⟨nd, rfl⟩⟩
    refine ⟨_, rfl, ?_⟩
    refine hK.out _ _ ⟨CZ BK244.out 0, CZ BK244.out 1, CZ BK244.out 2⟩ (fun hHeld => ?_)
    clear hK K
    refine norm_ (a' := ?_) ?_ ?_
    rotate_left
    ·
     show Act.put _ (some 30) _ = _
     simp only [Act.put, zA, zB, zC, i64_w, i32_w]
     rfl
    refine pV 18 31 (OB 36 524287) ?_
    refine pV 19 32 (OB 36 1048575) ?_
    refine pV 20 33 (OB 36 2097151) ?_
    refine pV 21 34 (OB 36 4194303) ?_
    refine pV 22 35 (OB 36 8388607) ?_
    refine pV 23 36 (OB 36 16777215) ?_
    refine pN 24 37 (OB 36 33554431) ?_
    refine pN 25 38 (OB 36 67108863) ?_
    refine pN 26 39 (OB 36 134217727) ?_
    refine pN 27 40 (OB 36 268435455) ?_
    refine pN 28 41 (OB 36 536870911) ?_
    refine pN 29 42 (OB 36 1073741823) ?_
    refine pN 30 43 (OB 36 2147483647) ?_
    refine pN 31 44 (OB 36 4294967295) ?_
    refine pN 32 45 (OB 36 8589934591) ?_
    refine pN 33 46 (OB 36 17179869183) ?_
    refine pV 34 47 (OB 36 34359738367) ?_
    refine pV 35 48 (OB 36 68719476735) ?_
    refine done_ (done_of HT_.out (by kernel_rfl)) ?_
    try go_wp2
    go_roundg k1
    case measure => have := HK1.out; omega
    case rel => exact ⟨(wrap64 (x8_1 + 1)), SD, H', ⟨by have := HK1.out; omega⟩, ⟨BQ BK242.out⟩, ⟨BL⟩⟩
   rw [if_pos c17] at H
   have c17b0 : decide (0 < x8_1) = true := decide_eq_true c17
   clear c17
   obtain ⟨ji18, hji18⟩ : ∃ j_ : Int, (wrap64 (x8_1 - 1)) = j_ := ⟨_, rfl⟩
   replace H : (if 0 ≤ (ji18) then (if (ji18) < (l0_0.length : Int) then (if ((Op.bytesLess (((rd_T45 l0_0 (ji18)).f0).toList) (((rd_T45 l0_0 x8_1).f0).toList)) = true) then (impl_DiskOk.l0 k1 l0_0 (l0_0.length : Int) (wrap64 (x8_1 + 1)) l0_0) else (some false)) else (none)) else (none)) = some r := by first | (rw [hji18] at H; exact H) | (simp only [hji18] at H ⊢; exact H)
   (try rw [hji18] at A7)
   (try rw [hji18] at A15)
   have hji18w : (IntKind.i64.wrap (x8_1 - 1)) = ji18 := (i64_w _).trans hji18
   by_cases c19 : 0 ≤ (ji18); rotate_left
   ·
    rw [if_neg c19] at H
    exact absurd H (by simp)
   rw [if_pos c19] at H
   have c19b0 : decide (0 ≤ (ji18)) = true := decide_eq_true c19
   clear c19
   by_cases c20 : (ji18) < (l0_0.length : Int); rotate_left
   ·
    rw [if_neg c20] at H
    exact absurd H (by simp)
   rw [if_pos c20] at H
   have c20b0 : decide ((ji18) < (l0_0.length : Int)) = true := decide_eq_true c20
   clear c20
   by_cases c21 : ((Op.bytesLess (((rd_T45 l0_0 (ji18)).f0).toList) (((rd_T45 l0_0 x8_1).f0).toList)) = true); rotate_left
   ·
    rw [if_neg c21] at H
    have c21b0 : (Op.bytesLess (((rd_T45 l0_0 (ji18)).f0).toList) (((rd_T45 l0_0 x8_1).f0).toList)) = false := by simpa using c21
    clear c21
    obtain rfl := Option.some.inj H
    have p243 : 0 ≤ (x8_1 : Int) := of_decide_eq_true AS
    have q243 : x8_1 < (l0_0.length : Int) := of_decide_eq_true AS
    obtain ⟨ad243, e243, hx243_0, hx243_1, hx243_2⟩ := at_T45 HR0_0.out x8_1 p243 q243
    cases e243
    replace hx243_0 := (HB.out.cell (World.block_lt_of_cell? w _ hx243_0)).trans hx243_0
    replace hx243_1 := (HB.out.cell (World.block_lt_of_cell? w _ hx243_1)).trans hx243_1
    replace hx243_2 := (HB.out.cell (World.block_lt_of_cell? w _ hx243_2)).trans hx243_2
    replace p243 := eq_true p243
    replace q243 := eq_true q243
    try go_wp2_with (first | ((with_reducible refine gate_dst (N := 4) rfl ?_); (try (refine gate_guard (by rfl) ?_; dsimp only)); refine bE 4 #[.string (⟨#[]⟩ : ByteArray), .string (⟨#[]⟩ : ByteArray), .int .i64 0] 45 ?_; intro gb244 hg w27 hbox hb; have BK244 := Aside0.mk (hbox); have GW244 : Aside0 (w.heap.size ≤ gb244) := GS; have GE244 : Aside0 (w.heap.size ≤ gb244) := GS; have NB242_244 := NL BK242.out hg; have NB244_242 := NG BK242.out hg; replace BK242 := BB BK242.out hb; replace HB := Aside0.mk (below_step (BL) hb); clear hb hbox hg; have hnb28 := NB244_242.out; have hnc28 := NB242_244.out; have hcz29_0 : w27.cell? ⟨gb244, 0, none⟩ = some (.string (⟨#[]⟩ : ByteArray)) := CZ BK244.out 0; have hcz29_1 : w27.cell? ⟨gb244, 1, none⟩ = some (.string (⟨#[]⟩ : ByteArray)) := CZ BK244.out 1; have hcz29_2 : w27.cell? ⟨gb244, 2, none⟩ = some (.int .i64 0) := CZ BK244.out 2; have hfz29_0 := blk_frozen BK244.out 0; have hfz29_1 := blk_frozen BK244.out 1; have hfz29_2 := blk_frozen BK244.out 2))
    have n0_ : Aside0 ((((w27.setCell ⟨gb244, 0, none⟩ (.string ((rd_T45 l0_0 x8_1).f0))).setCell ⟨gb244, 1, none⟩ (.string ((rd_T45 l0_0 x8_1).f1))).setCell ⟨gb244, 2, none⟩ (.int .i64 ((rd_T45 l0_0 x8_1).f2))).heap[gb242]? = some (.cells #[.slice (some ad243) l0_0.length c0_0] 29 (0, 0))) := ⟨by (with_reducible repeat (first | apply b1 | apply b2 | apply b3)); refine blk_far ?_ NB242_244.out _; (with_reducible repeat (first | apply b1 | apply b2 | apply b3)); refine blk_far ?_ NB242_244.out _; (with_reducible repeat (first | apply b1 | apply b2 | apply b3)); refine blk_far ?_ NB242_244.out _; (with_reducible repeat (first | apply b1 | apply b2 | apply b3)); exact BK242.out⟩
    have n1_ : Aside0 ((((w27.setCell ⟨gb244, 0, none⟩ (.string ((rd_T45 l0_0 x8_1).f0))).setCell ⟨gb244, 1, none⟩ (.string ((rd_T45 l0_0 x8_1).f1))).setCell ⟨gb244, 2, none⟩ (.int .i64 ((rd_T45 l0_0 x8_1).f2))).heap[gb244]? = some (.cells #[.string ((rd_T45 l0_0 x8_1).f0), .string ((rd_T45 l0_0 x8_1).f1), .int .i64 ((rd_T45 l0_0 x8_1).f2)] 45 (0, 0))) := ⟨by (with_reducible repeat (first | apply b1 | apply b2 | apply b3)); refine blk_put (cs := #[.string ((rd_T45 l0_0 x8_1).f0), .string ((rd_T45 l0_0 x8_1).f1), .int .i64 0]) ?_ 2 _ rfl; (with_reducible repeat (first | apply b1 | apply b2 | apply b3)); refine blk_put (cs := #[.string ((rd_T45 l0_0 x8_1).f0), .string (⟨#[]⟩ : ByteArray), .int .i64 0]) ?_ 1 _ rfl; (with_reducible repeat (first | apply b1 | apply b2 | apply b3)); refine blk_put (cs := #[.string (⟨#[]⟩ : ByteArray), .string (⟨#[]⟩ : ByteArray), .int .i64 0]) ?_ 0 _ rfl; (with_reducible repeat (first | apply b1 | apply b2 | apply b3)); exact BK244.out⟩
    have n2_ : Aside0 (Below w.heap.size w (((w27.setCell ⟨gb244, 0, none⟩ (.string ((rd_T45 l0_0 x8_1).f0))).setCell ⟨gb244, 1, none⟩ (.string ((rd_T45 l0_0 x8_1).f1))).setCell ⟨gb244, 2, none⟩ (.int .i64 ((rd_T45 l0_0 x8_1).f2)))) := ⟨BL⟩
    (try clear BK242)
    (try clear BK244)
    (try clear HB)
    generalize (((w27.setCell ⟨gb244, 0, none⟩ (.string ((rd_T45 l0_0 x8_1).f0))).setCell ⟨gb244, 1, none⟩ (.string ((rd_T45 l0_0 x8_1).f1))).setCell ⟨gb244, 2, none⟩ (.int .i64 ((rd_T45 l0_0 x8_1).f2))) = w30 at n0_ n1_ n2_ ⊢
    have BK242 := n0_
    have BK244 := n1_
    have HB := n2_
    clear n0_ n1_ n2_
    have n0_ := Aside0.mk (blk_drew BK242.out)
    have n1_ := Aside0.mk (blk_drew BK244.out)
    have n2_ := Aside0.mk (below_drew1 HB.out)
    clear BK242
    clear BK244
    clear HB
    have BK242 := n0_
    have BK244 := n1_
    have HB := n2_
    clear n0_ n1_ n2_
    have p247 : 0 ≤ ((ji18) : Int) := of_decide_eq_true AS
    have q247 : (ji18) < (l0_0.length : Int) := of_decide_eq_true AS
    obtain ⟨ad247, e247, hx247_0, hx247_1, hx247_2⟩ := at_T45 HR0_0.out (ji18) p247 q247
    have hw247_2 := hx247_2
    have hw247_1 := hx247_1
    have hw247_0 := hx247_0
    obtain rfl : ad243 = ad247 := (by injection e247)
    replace hx247_0 := (HB.out.cell (World.block_lt_of_cell? w _ hx247_0)).trans hx247_0
    replace hx247_1 := (HB.out.cell (World.block_lt_of_cell? w _ hx247_1)).trans hx247_1
    replace hx247_2 := (HB.out.cell (World.block_lt_of_cell? w _ hx247_2)).trans hx247_2
    replace p247 := eq_true p247
    replace q247 := eq_true q247
    refine start_ (n := 36) (S := fun w' => w'.cell? ⟨gb244, 0, none⟩ = some (.string ((rd_T45 l0_0 x8_1).f0)) ∧ w'.cell? ⟨gb244, 1, none⟩ = some (.string ((rd_T45 l0_0 x8_1).f1)) ∧ w'.cell? ⟨gb244, 2, none⟩ = some (.int .i64 ((rd_T45 l0_0 x8_1).f2)) ∧ w'.cell? ⟨gb242, 0, none⟩ = some (.slice (some ad243) l0_0.length c0_0) ∧ w'.cell? (ad243.add (((ji18)).toNat * 3)) = some (.string ((rd_T45 l0_0 (ji18)).f0)) ∧ w'.cell? ⟨(ad243.add (((ji18)).toNat * 3)).block, (ad243.add (((ji18)).toNat * 3)).off + 1, none⟩ = some (.string ((rd_T45 l0_0 (ji18)).f1)) ∧ w'.cell? ⟨(ad243.add (((ji18)).toNat * 3)).block, (ad243.add (((ji18)).toNat * 3)).off + 2, none⟩ = some (.int .i64 ((rd_T45 l0_0 (ji18)).f2))) (ds := []) #[false, false, false, false, false, false, false, false, false, false, false, false, false, false, false, false, false, false, false, false, false, false, false, false, false, false, false, false, false, false, false, false, false, false, false, false] (by kernel_rfl) rfl rfl ⟨CZ BK244.out 0, CZ BK244.out 1, CZ BK244.out 2, CZ BK242.out 0, ((HB.out.cell (World.block_lt_of_cell? w _ hw247_0)).trans hw247_0), ((HB.out.cell (World.block_lt_of_cell? w _ hw247_1)).trans hw247_1), ((HB.out.cell (World.block_lt_of_cell? w _ hw247_2)).trans hw247_2)⟩ (fun hHeld => ?_); refine with_tabW impl_DiskOk.tab4 impl_DiskOk.bits4 (fun HT_ HW_ => ?_)
    generalize w30.drew = w31 at BK242 BK244 HB hx247_0 hx247_1 hx247_2 hHeld ⊢
    refine pV 0 13 (OB 36 1) ?_
    refine take_ (i := 1) (N := some 14) (v := ?_) (a' := ?_) (OB 36 3) rfl rfl (take_ofW HT_.out HW_.out (by kernel_rfl)) (fun _ _ _ h => h) (Or.inl ⟨by rfl, ?_⟩) hHeld ?_ ?_
    rotate_left
    ·
     rintro w' ⟨s0, s1, s2, s3, s4, s5, s6⟩
     go_simp
     with_reducible rfl
    rotate_left
    ·
     simp only [Act.put, zA, zB, zC, i64_w, i32_w]
     rfl
    refine pV 2 15 (OB 36 7) ?_
    refine one_ (i := 3) (N := some 16) (OB 36 15) rfl rfl (one_of HT_.out (by kernel_rfl)) (by decide) (fun K hK => ?_)
    refine goes_ Try.func51 (by kernel_rfl) rfl #[.int .i64 (((rd_T45 l0_0 x8_1).f0).size : Int), .int .i64 1, .int .i64 8] (by rfl) rfl rfl (MA) ?_
    with_reducible refine (impl_within.calls (((rd_T45 l0_0 x8_1).f0).size : Int) 1 8 true _ A7.out).mono ?_
    rintro e w' ⟨rfl, ⟨nd, rfl⟩⟩
    refine ⟨_, rfl, ?_⟩
    refine hK.out _ _ ⟨CZ BK244.out 0, CZ BK244.out 1, CZ BK244.out 2, CZ BK242.out 0, ((HB.out.cell (World.block_lt_of_cell? w _ hw247_0)).trans hw247_0), ((HB.out.cell (World.block_lt_of_cell? w _ hw247_1)).trans hw247_1), ((HB.out.cell (World.block_lt_of_cell? w _ hw247_2)).trans hw247_2)⟩ (fun hHeld => ?_)
    clear hK K
    refine norm_ (a' := ?_) ?_ ?_
    rotate_left
    ·
     show Act.put _ (some 16) _ = _
     simp only [Act.put, zA, zB, zC, i64_w, i32_w]
     rfl
    refine pV 4 17 (OB 36 31) ?_
    refine pV 5 18 (OB 36 63) ?_
    refine pV 6 19 (OB 36 127) ?_
    refine take_ (i := 7) (N := some 20) (v := ?_) (a' := ?_) (OB 36 255) rfl rfl (take_ofW HT_.out HW_.out (by kernel_rfl)) (fun _ _ _ h => h) (Or.inl ⟨by rfl, ?_⟩) hHeld ?_ ?_
    rotate_left
    ·
     rintro w' ⟨s0, s1, s2, s3, s4, s5, s6⟩
     go_simp
     with_reducible rfl
    rotate_left
    ·
     simp only [Act.put, zA, zB, zC, i64_w, i32_w]
     rfl
    refine pV 8 21 (OB 36 511) ?_
    refine pV 9 22 (OB 36 1023) ?_
    refine pV 10 23 (OB 36 2047) ?_
    refine pV 11 24 (OB 36 4095) ?_
    refine pV 12 25 (OB 36 8191) ?_
    refine pV 14 27 (OB 36 24575) ?_
    refine take_ (i := 13) (N := some 26) (v := ?_) (a' := ?_) (OB 36 32767) rfl rfl (take_ofW HT_.out HW_.out (by kernel_rfl)) (fun _ _ _ h => h) (Or.inl ⟨by rfl, ?_⟩) hHeld ?_ ?_
    rotate_left
    ·
     rintro w' ⟨s0, s1, s2, s3, s4, s5, s6⟩
     go_simp
     with_reducible rfl
    rotate_left
    ·
     simp only [Act.put, zA, zB, zC, i64_w, i32_w]
     rfl
    refine take_ (i := 15) (N := some 28) (v := ?_) (a' := ?_) (OB 36 65535) rfl rfl (take_ofW HT_.out HW_.out (by kernel_rfl)) (fun _ _ _ h => h) (Or.inl ⟨by rfl, ?_⟩) hHeld ?_ ?_
    rotate_left
    ·
     rintro w' ⟨s0, s1, s2, s3, s4, s5, s6⟩
     go_simp
     with_reducible rfl
    rotate_left
    ·
     simp only [Act.put, zA, zB, zC, i64_w, i32_w]
     rfl
    refine pV 16 29 (OB 36 131071) ?_
    refine one_ (i := 17) (N := some 30) (OB 36 262143) rfl rfl (one_of HT_.out (by kernel_rfl)) (by decide) (fun K hK => ?_)
    refine goes_ Try.func51 (by kernel_rfl) rfl #[.int .i64 ((rd_T45 l0_0 x8_1).f2), .int .i64 0, .int .i64 (((rd_T45 l0_0 x8_1).f1).size : Int)] (by rfl) rfl rfl (MA) ?_
    with_reducible refine (impl_within.calls ((rd_T45 l0_0 x8_1).f2) 0 (((rd_T45 l0_0 x8_1).f1).size : Int) true _ A15.out).mono ?_
    rintro e w' ⟨rfl, ⟨nd, rfl⟩⟩
    refine ⟨_, rfl, ?_⟩
    refine hK.out _ _ ⟨CZ BK244.out 0, CZ BK244.out 1, CZ BK244.out 2, CZ BK242.out 0, ((HB.out.cell (World.block_lt_of_cell? w _ hw247_0)).trans hw247_0), ((HB.out.cell (World.block_lt_of_cell? w _ hw247_1)).trans hw247_1), ((HB.out.cell (World.block_lt_of_cell? w _ hw247_2)).trans hw247_2)⟩ (fun hHeld => ?_)
    clear hK K
    refine norm_ (a' := ?_) ?_ ?_
    rotate_left
    ·
     show Act.put _ (some 30) _ = _
     simp only [Act.put, zA, zB, zC, i64_w, i32_w]
     rfl
    refine pV 18 31 (OB 36 524287) ?_
    refine pV 19 32 (OB 36 1048575) ?_
    refine pV 20 33 (OB 36 2097151) ?_
    refine pV 21 34 (OB 36 4194303) ?_
    refine pV 22 35 (OB 36 8388607) ?_
    refine pV 23 36 (OB 36 16777215) ?_
    refine pV 24 37 (OB 36 33554431) ?_
    refine pV 26 39 (OB 36 100663295) ?_
    refine pV 27 40 (OB 36 234881023) ?_
    refine pV 31 44 (OB 36 2382364671) ?_
    refine take_ (i := 25) (N := some 38) (v := ?_) (a' := ?_) (OB 36 2415919103) rfl rfl (take_ofW HT_.out HW_.out (by kernel_rfl)) (fun _ _ _ h => h) (Or.inl ⟨by rfl, ?_⟩) hHeld ?_ ?_
    rotate_left
    ·
     rintro w' ⟨s0, s1, s2, s3, s4, s5, s6⟩
     go_simp
     with_reducible rfl
    rotate_left
    ·
     simp only [Act.put, zA, zB, zC, i64_w, i32_w]
     rfl
    refine pV 28 41 (OB 36 2684354559) ?_
    refine pV 29 42 (OB 36 3221225471) ?_
    refine take_ (i := 30) (N := some 43) (v := ?_) (a' := ?_) (OB 36 4294967295) rfl rfl (take_ofW HT_.out HW_.out (by kernel_rfl)) (fun _ _ _ h => h) (Or.inl ⟨by rfl, ?_⟩) hHeld ?_ ?_
    rotate_left
    ·
     rintro w' ⟨s0, s1, s2, s3, s4, s5, s6⟩
     go_simp
     with_reducible rfl
    rotate_left
    ·
     simp only [Act.put, zA, zB, zC, i64_w, i32_w]
     rfl
    refine take_ (i := 32) (N := some 45) (v := ?_) (a' := ?_) (OB 36 8589934591) rfl rfl (take_ofW HT_.out HW_.out (by kernel_rfl)) (fun _ _ _ h => h) (Or.inl ⟨by rfl, ?_⟩) hHeld ?_ ?_
    rotate_left
    ·
     rintro w' ⟨s0, s1, s2, s3, s4, s5, s6⟩
     go_simp
     with_reducible rfl
    rotate_left
    ·
     simp only [Act.put, zA, zB, zC, i64_w, i32_w]
     rfl
    refine pV 33 46 (OB 36 17179869183) ?_
    refine pV 34 47 (OB 36 34359738367) ?_
    refine pV 35 48 (OB 36 68719476735) ?_
    refine done_ (done_of HT_.out (by kernel_rfl)) ?_
    try go_wp2
    go_ret
    exact ⟨by first | rfl | (simp [errW_none, errW_some] <;> rfl) | (simp only [← hji18]; first | rfl | (simp [errW_none, errW_some] <;> rfl)) | (simp [*, errW_none, errW_some] <;> rfl), BL⟩
   rw [if_pos c21] at H
   have c21b0 : (Op.bytesLess (((rd_T45 l0_0 (ji18)).f0).toList) (((rd_T45 l0_0 x8_1).f0).toList)) = true := c21
   clear c21
   have H' := Aside0.mk H
   clear H
   have p243 : 0 ≤ (x8_1 : Int) := of_decide_eq_true AS
   have q243 : x8_1 < (l0_0.length : Int) := of_decide_eq_true AS
   obtain ⟨ad243, e243, hx243_0, hx243_1, hx243_2⟩ := at_T45 HR0_0.out x8_1 p243 q243
   cases e243
   replace hx243_0 := (HB.out.cell (World.block_lt_of_cell? w _ hx243_0)).trans hx243_0
   replace hx243_1 := (HB.out.cell (World.block_lt_of_cell? w _ hx243_1)).trans hx243_1
   replace hx243_2 := (HB.out.cell (World.block_lt_of_cell? w _ hx243_2)).trans hx243_2
   replace p243 := eq_true p243
   replace q243 := eq_true q243
   try go_wp2_with (first | ((with_reducible refine gate_dst (N := 4) rfl ?_); (try (refine gate_guard (by rfl) ?_; dsimp only)); refine bE 4 #[.string (⟨#[]⟩ : ByteArray), .string (⟨#[]⟩ : ByteArray), .int .i64 0] 45 ?_; intro gb244 hg w22 hbox hb; have BK244 := Aside0.mk (hbox); have GW244 : Aside0 (w.heap.size ≤ gb244) := GS; have GE244 : Aside0 (w.heap.size ≤ gb244) := GS; have NB242_244 := NL BK242.out hg; have NB244_242 := NG BK242.out hg; replace BK242 := BB BK242.out hb; replace HB := Aside0.mk (below_step (BL) hb); clear hb hbox hg; have hnb23 := NB244_242.out; have hnc23 := NB242_244.out; have hcz24_0 : w22.cell? ⟨gb244, 0, none⟩ = some (.string (⟨#[]⟩ : ByteArray)) := CZ BK244.out 0; have hcz24_1 : w22.cell? ⟨gb244, 1, none⟩ = some (.string (⟨#[]⟩ : ByteArray)) := CZ BK244.out 1; have hcz24_2 : w22.cell? ⟨gb244, 2, none⟩ = some (.int .i64 0) := CZ BK244.out 2; have hfz24_0 := blk_frozen BK244.out 0; have hfz24_1 := blk_frozen BK244.out 1; have hfz24_2 := blk_frozen BK244.out 2))
   have n0_ : Aside0 ((((w22.setCell ⟨gb244, 0, none⟩ (.string ((rd_T45 l0_0 x8_1).f0))).setCell ⟨gb244, 1, none⟩ (.string ((rd_T45 l0_0 x8_1).f1))).setCell ⟨gb244, 2, none⟩ (.int .i64 ((rd_T45 l0_0 x8_1).f2))).heap[gb242]? = some (.cells #[.slice (some ad243) l0_0.length c0_0] 29 (0, 0))) := ⟨by (with_reducible repeat (first | apply b1 | apply b2 | apply b3)); refine blk_far ?_ NB242_244.out _; (with_reducible repeat (first | apply b1 | apply b2 | apply b3)); refine blk_far ?_ NB242_244.out _; (with_reducible repeat (first | apply b1 | apply b2 | apply b3)); refine blk_far ?_ NB242_244.out _; (with_reducible repeat (first | apply b1 | apply b2 | apply b3)); exact BK242.out⟩
   have n1_ : Aside0 ((((w22.setCell ⟨gb244, 0, none⟩ (.string ((rd_T45 l0_0 x8_1).f0))).setCell ⟨gb244, 1, none⟩ (.string ((rd_T45 l0_0 x8_1).f1))).setCell ⟨gb244, 2, none⟩ (.int .i64 ((rd_T45 l0_0 x8_1).f2))).heap[gb244]? = some (.cells #[.string ((rd_T45 l0_0 x8_1).f0), .string ((rd_T45 l0_0 x8_1).f1), .int .i64 ((rd_T45 l0_0 x8_1).f2)] 45 (0, 0))) := ⟨by (with_reducible repeat (first | apply b1 | apply b2 | apply b3)); refine blk_put (cs := #[.string ((rd_T45 l0_0 x8_1).f0), .string ((rd_T45 l0_0 x8_1).f1), .int .i64 0]) ?_ 2 _ rfl; (with_reducible repeat (first | apply b1 | apply b2 | apply b3)); refine blk_put (cs := #[.string ((rd_T45 l0_0 x8_1).f0), .string (⟨#[]⟩ : ByteArray), .int .i64 0]) ?_ 1 _ rfl; (with_reducible repeat (first | apply b1 | apply b2 | apply b3)); refine blk_put (cs := #[.string (⟨#[]⟩ : ByteArray), .string (⟨#[]⟩ : ByteArray), .int .i64 0]) ?_ 0 _ rfl; (with_reducible repeat (first | apply b1 | apply b2 | apply b3)); exact BK244.out⟩
   have n2_ : Aside0 (Below w.heap.size w (((w22.setCell ⟨gb244, 0, none⟩ (.string ((rd_T45 l0_0 x8_1).f0))).setCell ⟨gb244, 1, none⟩ (.string ((rd_T45 l0_0 x8_1).f1))).setCell ⟨gb244, 2, none⟩ (.int .i64 ((rd_T45 l0_0 x8_1).f2)))) := ⟨BL⟩
   (try clear BK242)
   (try clear BK244)
   (try clear HB)
   generalize (((w22.setCell ⟨gb244, 0, none⟩ (.string ((rd_T45 l0_0 x8_1).f0))).setCell ⟨gb244, 1, none⟩ (.string ((rd_T45 l0_0 x8_1).f1))).setCell ⟨gb244, 2, none⟩ (.int .i64 ((rd_T45 l0_0 x8_1).f2))) = w25 at n0_ n1_ n2_ ⊢
   have BK242 := n0_
   have BK244 := n1_
   have HB := n2_
   clear n0_ n1_ n2_
   have n0_ := Aside0.mk (blk_drew BK242.out)
   have n1_ := Aside0.mk (blk_drew BK244.out)
   have n2_ := Aside0.mk (below_drew1 HB.out)
   clear BK242
   clear BK244
   clear HB
   have BK242 := n0_
   have BK244 := n1_
   have HB := n2_
   clear n0_ n1_ n2_
   have p247 : 0 ≤ ((ji18) : Int) := of_decide_eq_true AS
   have q247 : (ji18) < (l0_0.length : Int) := of_decide_eq_true AS
   obtain ⟨ad247, e247, hx247_0, hx247_1, hx247_2⟩ := at_T45 HR0_0.out (ji18) p247 q247
   have hw247_2 := hx247_2
   have hw247_1 := hx247_1
   have hw247_0 := hx247_0
   obtain rfl : ad243 = ad247 := (by injection e247)
   replace hx247_0 := (HB.out.cell (World.block_lt_of_cell? w _ hx247_0)).trans hx247_0
   replace hx247_1 := (HB.out.cell (World.block_lt_of_cell? w _ hx247_1)).trans hx247_1
   replace hx247_2 := (HB.out.cell (World.block_lt_of_cell? w _ hx247_2)).trans hx247_2
   replace p247 := eq_true p247
   replace q247 := eq_true q247
   refine start_ (n := 36) (S := fun w' => w'.cell? ⟨gb244, 0, none⟩ = some (.string ((rd_T45 l0_0 x8_1).f0)) ∧ w'.cell? ⟨gb244, 1, none⟩ = some (.string ((rd_T45 l0_0 x8_1).f1)) ∧ w'.cell? ⟨gb244, 2, none⟩ = some (.int .i64 ((rd_T45 l0_0 x8_1).f2)) ∧ w'.cell? ⟨gb242, 0, none⟩ = some (.slice (some ad243) l0_0.length c0_0) ∧ w'.cell? (ad243.add (((ji18)).toNat * 3)) = some (.string ((rd_T45 l0_0 (ji18)).f0)) ∧ w'.cell? ⟨(ad243.add (((ji18)).toNat * 3)).block, (ad243.add (((ji18)).toNat * 3)).off + 1, none⟩ = some (.string ((rd_T45 l0_0 (ji18)).f1)) ∧ w'.cell? ⟨(ad243.add (((ji18)).toNat * 3)).block, (ad243.add (((ji18)).toNat * 3)).off + 2, none⟩ = some (.int .i64 ((rd_T45 l0_0 (ji18)).f2))) (ds := []) #[false, false, false, false, false, false, false, false, false, false, false, false, false, false, false, false, false, false, false, false, false, false, false, false, false, false, false, false, false, false, false, false, false, false, false, false] (by kernel_rfl) rfl rfl ⟨CZ BK244.out 0, CZ BK244.out 1, CZ BK244.out 2, CZ BK242.out 0, ((HB.out.cell (World.block_lt_of_cell? w _ hw247_0)).trans hw247_0), ((HB.out.cell (World.block_lt_of_cell? w _ hw247_1)).trans hw247_1), ((HB.out.cell (World.block_lt_of_cell? w _ hw247_2)).trans hw247_2)⟩ (fun hHeld => ?_); refine with_tabW impl_DiskOk.tab4 impl_DiskOk.bits4 (fun HT_ HW_ => ?_)
   generalize w25.drew = w26 at BK242 BK244 HB hx247_0 hx247_1 hx247_2 hHeld ⊢
   refine pV 0 13 (OB 36 1) ?_
   refine take_ (i := 1) (N := some 14) (v := ?_) (a' := ?_) (OB 36 3) rfl rfl (take_ofW HT_.out HW_.out (by kernel_rfl)) (fun _ _ _ h => h) (Or.inl ⟨by rfl, ?_⟩) hHeld ?_ ?_
   rotate_left
   ·
    rintro w' ⟨s0, s1, s2, s3, s4, s5, s6⟩
    go_simp
    with_reducible rfl
   rotate_left
   ·
    simp only [Act.put, zA, zB, zC, i64_w, i32_w]
    rfl
   refine pV 2 15 (OB 36 7) ?_
   refine one_ (i := 3) (N := some 16) (OB 36 15) rfl rfl (one_of HT_.out (by kernel_rfl)) (by decide) (fun K hK => ?_)
   refine goes_ Try.func51 (by kernel_rfl) rfl #[.int .i64 (((rd_T45 l0_0 x8_1).f0).size : Int), .int .i64 1, .int .i64 8] (by rfl) rfl rfl (MA) ?_
   with_reducible refine (impl_within.calls (((rd_T45 l0_0 x8_1).f0).size : Int) 1 8 true _ A7.out).mono ?_
   rintro e w' ⟨rfl, ⟨nd, rfl⟩⟩
   refine ⟨_, rfl, ?_⟩
   refine hK.out _ _ ⟨CZ BK244.out 0, CZ BK244.out 1, CZ BK244.out 2, CZ BK242.out 0, ((HB.out.cell (World.block_lt_of_cell? w _ hw247_0)).trans hw247_0), ((HB.out.cell (World.block_lt_of_cell? w _ hw247_1)).trans hw247_1), ((HB.out.cell (World.block_lt_of_cell? w _ hw247_2)).trans hw247_2)⟩ (fun hHeld => ?_)
   clear hK K
   refine norm_ (a' := ?_) ?_ ?_
   rotate_left
   ·
    show Act.put _ (some 16) _ = _
    simp only [Act.put, zA, zB, zC, i64_w, i32_w]
    rfl
   refine pV 4 17 (OB 36 31) ?_
   refine pV 5 18 (OB 36 63) ?_
   refine pV 6 19 (OB 36 127) ?_
   refine take_ (i := 7) (N := some 20) (v := ?_) (a' := ?_) (OB 36 255) rfl rfl (take_ofW HT_.out HW_.out (by kernel_rfl)) (fun _ _ _ h => h) (Or.inl ⟨by rfl, ?_⟩) hHeld ?_ ?_
   rotate_left
   ·
    rintro w' ⟨s0, s1, s2, s3, s4, s5, s6⟩
    go_simp
    with_reducible rfl
   rotate_left
   ·
    simp only [Act.put, zA, zB, zC, i64_w, i32_w]
    rfl
   refine pV 8 21 (OB 36 511) ?_
   refine pV 9 22 (OB 36 1023) ?_
   refine pV 10 23 (OB 36 2047) ?_
   refine pV 11 24 (OB 36 4095) ?_
   refine pV 12 25 (OB 36 8191) ?_
   refine pV 14 27 (OB 36 24575) ?_
   refine take_ (i := 13) (N := some 26) (v := ?_) (a' := ?_) (OB 36 32767) rfl rfl (take_ofW HT_.out HW_.out (by kernel_rfl)) (fun _ _ _ h => h) (Or.inl ⟨by rfl, ?_⟩) hHeld ?_ ?_
   rotate_left
   ·
    rintro w' ⟨s0, s1, s2, s3, s4, s5, s6⟩
    go_simp
    with_reducible rfl
   rotate_left
   ·
    simp only [Act.put, zA, zB, zC, i64_w, i32_w]
    rfl
   refine take_ (i := 15) (N := some 28) (v := ?_) (a' := ?_) (OB 36 65535) rfl rfl (take_ofW HT_.out HW_.out (by kernel_rfl)) (fun _ _ _ h => h) (Or.inl ⟨by rfl, ?_⟩) hHeld ?_ ?_
   rotate_left
   ·
    rintro w' ⟨s0, s1, s2, s3, s4, s5, s6⟩
    go_simp
    with_reducible rfl
   rotate_left
   ·
    simp only [Act.put, zA, zB, zC, i64_w, i32_w]
    rfl
   refine pV 16 29 (OB 36 131071) ?_
   refine one_ (i := 17) (N := some 30) (OB 36 262143) rfl rfl (one_of HT_.out (by kernel_rfl)) (by decide) (fun K hK => ?_)
   refine goes_ Try.func51 (by kernel_rfl) rfl #[.int .i64 ((rd_T45 l0_0 x8_1).f2), .int .i64 0, .int .i64 (((rd_T45 l0_0 x8_1).f1).size : Int)] (by rfl) rfl rfl (MA) ?_
   with_reducible refine (impl_within.calls ((rd_T45 l0_0 x8_1).f2) 0 (((rd_T45 l0_0 x8_1).f1).size : Int) true _ A15.out).mono ?_
   rintro e w' ⟨rfl, ⟨nd, rfl⟩⟩
   refine ⟨_, rfl, ?_⟩
   refine hK.out _ _ ⟨CZ BK244.out 0, CZ BK244.out 1, CZ BK244.out 2, CZ BK242.out 0, ((HB.out.cell (World.block_lt_of_cell? w _ hw247_0)).trans hw247_0), ((HB.out.cell (World.block_lt_of_cell? w _ hw247_1)).trans hw247_1), ((HB.out.cell (World.block_lt_of_cell? w _ hw247_2)).trans hw247_2)⟩ (fun hHeld => ?_)
   clear hK K
   refine norm_ (a' := ?_) ?_ ?_
   rotate_left
   ·
    show Act.put _ (some 30) _ = _
    simp only [Act.put, zA, zB, zC, i64_w, i32_w]
    rfl
   refine pV 18 31 (OB 36 524287) ?_
   refine pV 19 32 (OB 36 1048575) ?_
   refine pV 20 33 (OB 36 2097151) ?_
   refine pV 21 34 (OB 36 4194303) ?_
   refine pV 22 35 (OB 36 8388607) ?_
   refine pV 23 36 (OB 36 16777215) ?_
   refine pV 24 37 (OB 36 33554431) ?_
   refine pV 26 39 (OB 36 100663295) ?_
   refine pV 27 40 (OB 36 234881023) ?_
   refine pV 31 44 (OB 36 2382364671) ?_
   refine take_ (i := 25) (N := some 38) (v := ?_) (a' := ?_) (OB 36 2415919103) rfl rfl (take_ofW HT_.out HW_.out (by kernel_rfl)) (fun _ _ _ h => h) (Or.inl ⟨by rfl, ?_⟩) hHeld ?_ ?_
   rotate_left
   ·
    rintro w' ⟨s0, s1, s2, s3, s4, s5, s6⟩
    go_simp
    with_reducible rfl
   rotate_left
   ·
    simp only [Act.put, zA, zB, zC, i64_w, i32_w]
    rfl
   refine pV 28 41 (OB 36 2684354559) ?_
   refine pV 29 42 (OB 36 3221225471) ?_
   refine take_ (i := 30) (N := some 43) (v := ?_) (a' := ?_) (OB 36 4294967295) rfl rfl (take_ofW HT_.out HW_.out (by kernel_rfl)) (fun _ _ _ h => h) (Or.inl ⟨by rfl, ?_⟩) hHeld ?_ ?_
   rotate_left
   ·
    rintro w' ⟨s0, s1, s2, s3, s4, s5, s6⟩
    go_simp
    with_reducible rfl
   rotate_left
   ·
    simp only [Act.put, zA, zB, zC, i64_w, i32_w]
    rfl
   refine take_ (i := 32) (N := some 45) (v := ?_) (a' := ?_) (OB 36 8589934591) rfl rfl (take_ofW HT_.out HW_.out (by kernel_rfl)) (fun _ _ _ h => h) (Or.inl ⟨by rfl, ?_⟩) hHeld ?_ ?_
   rotate_left
   ·
    rintro w' ⟨s0, s1, s2, s3, s4, s5, s6⟩
    go_simp
    with_reducible rfl
   rotate_left
   ·
    simp only [Act.put, zA, zB, zC, i64_w, i32_w]
    rfl
   refine pV 33 46 (OB 36 17179869183) ?_
   refine pV 34 47 (OB 36 34359738367) ?_
   refine pV 35 48 (OB 36 68719476735) ?_
   refine done_ (done_of HT_.out (by kernel_rfl)) ?_
   try go_wp2
   go_roundg k1
   case measure => have := HK1.out; omega
   case rel => exact ⟨(wrap64 (x8_1 + 1)), SD, H', ⟨by have := HK1.out; omega⟩, ⟨BQ BK242.out⟩, ⟨BL⟩⟩

end Go.Proofs.Ythfppepnpngfmaa.Qdo
