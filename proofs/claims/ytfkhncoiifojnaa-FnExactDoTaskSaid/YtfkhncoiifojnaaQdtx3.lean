-- Laid by myprint.py, a program of this session's own, over the kit's print. Not trusted: Lean checks it.
import Derived.Test.YtfkhncoiifojnaaQdtx0
namespace Go.Proofs.Ytfkhncoiifojnaa.Qdt
open Go.RowKit Go.Proofs.YtfkhncoiifojnaaW.PrintWords Go.Proofs.YtfkhncoiifojnaaW.PrintLast Go.Proofs.YtfkhncoiifojnaaW.PrintMore
attribute [local go_sem] Go.Proofs.Ytfkhncoiifojnaa.StrCmp.gtr_less Go.Proofs.Ytfkhncoiifojnaa.StrCmp.geq_less Go.Proofs.Ytfkhncoiifojnaa.StrCmp.leq_less max2_int min2_int max_two min_two max_three min_three max_four min_four   -- for this text's walks alone
set_option linter.unusedVariables false
set_option linter.unusedSimpArgs false

/-! ### laws_toPair: function 49 -/
def laws_toPair.f (a0_0 : Int) (a0_1 : Int) : Option (Int × Int) := some (a0_0, a0_1)
set_option maxHeartbeats 8000000 in
set_option maxRecDepth 100000 in
theorem laws_toPair.calls (a0_0 : Int) (a0_1 : Int) (r1 : Int) (r2 : Int) (w : World) (h : laws_toPair.f a0_0 a0_1 = some (r1, r2)) :
  Calls Try.prog 49 #[.agg #[.int .i64 a0_0, .int .i64 a0_1]] w fun e w' => e = .returned (.agg #[.int .i64 r1, .int .i64 r2]) ∧ Below w.heap.size w w' := by
 have hu73 := Try.underlying73
 have hu71 := Try.underlying71
 have HB := Aside0.mk (Below.refl w.heap.size w)
 have H : (some (a0_0, a0_1)) = some (r1, r2) := h
 clear h
 simp only [Option.some.injEq, Prod.mk.injEq] at H
 obtain ⟨rfl, rfl⟩ := H
 go_enter Try.func49, Try.ntmps49
 go_wp2_with (first | ((with_reducible refine gate_dst (N := 1) rfl ?_); refine bE 1 #[.int .i64 a0_0, .int .i64 a0_1] 73 ?_; intro gb139 hg w2 hbox hb; have BK139 := Aside0.mk (hbox); have GW139 : Aside0 (w.heap.size ≤ gb139) := GS; have GE139 : Aside0 (w.heap.size ≤ gb139) := GS; replace HB := Aside0.mk (below_step (BL) hb); clear hb hbox hg) | ((with_reducible refine gate_dst (N := 2) rfl ?_); refine bE 2 #[.int .i64 0, .int .i64 0] 71 ?_; intro gb140 hg w3 hbox hb; have BK140 := Aside0.mk (hbox); have GW140 : Aside0 (w.heap.size ≤ gb140) := GS; have GE140 : Aside0 (w.heap.size ≤ gb140) := GS; have NB139_140 := NL BK139.out hg; have NB140_139 := NG BK139.out hg; replace BK139 := BB BK139.out hb; replace HB := Aside0.mk (below_step (BL) hb); clear hb hbox hg) | ((with_reducible refine gate_dst (N := 3) rfl ?_); refine bE 3 #[.int .i64 0, .int .i64 0] 71 ?_; intro gb141 hg w4 hbox hb; have BK141 := Aside0.mk (hbox); have GW141 : Aside0 (w.heap.size ≤ gb141) := GS; have GE141 : Aside0 (w.heap.size ≤ gb141) := GS; have NB139_141 := NL BK139.out hg; have NB141_139 := NG BK139.out hg; have NB140_141 := NL BK140.out hg; have NB141_140 := NG BK140.out hg; replace BK139 := BB BK139.out hb; replace BK140 := BB BK140.out hb; replace HB := Aside0.mk (below_step (BL) hb); clear hb hbox hg; have hnb5 := NB139_140.out; have hnc5 := NB140_139.out; have hnb6 := NB139_141.out; have hnc6 := NB141_139.out; have hcz7_0 : w4.cell? ⟨gb139, 0, none⟩ = some (.int .i64 a0_0) := CZ BK139.out 0; have hcz7_1 : w4.cell? ⟨gb139, 1, none⟩ = some (.int .i64 a0_1) := CZ BK139.out 1; have hfz7_0 := blk_frozen BK139.out 0; have hfz7_1 := blk_frozen BK139.out 1; have hnb8 := NB141_140.out; have hnc8 := NB140_141.out; have hcz9_0 : w4.cell? ⟨gb141, 0, none⟩ = some (.int .i64 0) := CZ BK141.out 0; have hcz9_1 : w4.cell? ⟨gb141, 1, none⟩ = some (.int .i64 0) := CZ BK141.out 1; have hfz9_0 := blk_frozen BK141.out 0; have hfz9_1 := blk_frozen BK141.out 1; have hcz10_0 : w4.cell? ⟨gb140, 0, none⟩ = some (.int .i64 0) := CZ BK140.out 0; have hcz10_1 : w4.cell? ⟨gb140, 1, none⟩ = some (.int .i64 0) := CZ BK140.out 1; have hfz10_0 := blk_frozen BK140.out 0; have hfz10_1 := blk_frozen BK140.out 1))
 refine bodyPost_ret (results_cell_row rfl _ _ gb140 71 #[.int .i64 a0_0, .int .i64 a0_1] (0, 0) _ rfl (by (with_reducible repeat (first | apply b1 | apply b2 | apply b3)); refine blk_put (cs := #[.int .i64 a0_0, .int .i64 0]) ?_ 1 _ rfl; (with_reducible repeat (first | apply b1 | apply b2 | apply b3)); refine blk_put (cs := #[.int .i64 0, .int .i64 0]) ?_ 0 _ rfl; (with_reducible repeat (first | apply b1 | apply b2 | apply b3)); refine blk_far ?_ NB140_141.out _; (with_reducible repeat (first | apply b1 | apply b2 | apply b3)); refine blk_far ?_ NB140_141.out _; (with_reducible repeat (first | apply b1 | apply b2 | apply b3)); exact BK140.out) Try.underlying71 rfl (by kernel_rfl)) rfl ?_
 exact ⟨EE, BL⟩

/-! ### laws_toPairS: function 12 -/
def laws_toPairS.l0 : Nat → List (S73) → List (S71) → Int → Option ((List (S71)))
 | 0, _, _, _ => none
 | k + 1, x0, x3, x4 => if x4 < (x0.length : Int) then (if 0 ≤ x4 then ((laws_toPair.f ((rd_T73 x0 x4).f0) ((rd_T73 x0 x4).f1)).bind fun bt146 => (if x4 < (x3.length : Int) then (laws_toPairS.l0 k x0 (x3.set (x4 : Int).toNat (⟨bt146.1, bt146.2⟩ : S71)) (wrap64 (x4 + 1))) else (none))) else (none)) else (some x3)
def laws_toPairS.f (k : Nat) (l0 : List (S73)) : Option ((List (S71))) := if 0 ≤ (l0.length : Int) then (if ((l0.length : Int) : Int).toNat ≤ 17592186044416 then (laws_toPairS.l0 k l0 (List.replicate ((l0.length : Int) : Int).toNat z71) 0) else (none)) else (none)
theorem laws_toPairS.mono_l : ∀ k, (∀ y0 y1 y2, LeO (laws_toPairS.l0 k y0 y1 y2) (laws_toPairS.l0 (k + 1) y0 y1 y2))
 | 0 => fun _ _ _ r h => by simp [laws_toPairS.l0] at h
 | k + 1 => by
  have ih0 := laws_toPairS.mono_l k
  ·
   intro y0 y1 y2
   unfold laws_toPairS.l0
   repeat' first
   | (with_reducible exact ih0 _ _ _)
   | (with_reducible exact LeO.refl _)
   | (with_reducible exact LeO.none _)
   | (with_reducible refine LeO.ite ?_ ?_)
   | (with_reducible refine LeO.bind ?_ (fun _ => ?_))
   | exact ih0 _ _ _
   | exact LeO.none _
   | refine LeO.ite ?_ ?_
   | refine LeO.bind ?_ (fun _ => ?_)
theorem laws_toPairS.mono : ∀ a0 k, LeO (laws_toPairS.f k a0) (laws_toPairS.f (k + 1) a0) := by
 intro a0 k
 have ih0 := laws_toPairS.mono_l k
 unfold laws_toPairS.f
 repeat' first
   | (with_reducible exact ih0 _ _ _)
   | (with_reducible exact LeO.refl _)
   | (with_reducible exact LeO.none _)
   | (with_reducible refine LeO.ite ?_ ?_)
   | (with_reducible refine LeO.bind ?_ (fun _ => ?_))
   | exact ih0 _ _ _
   | exact LeO.none _
   | refine LeO.ite ?_ ?_
   | refine LeO.bind ?_ (fun _ => ?_)
set_option maxHeartbeats 8000000 in
set_option maxRecDepth 100000 in
theorem laws_toPairS.calls (k : Nat) (A0 : Option Addr) (c0 : Nat) (l0 : List (S73)) (r : List (S71)) (w : World) (hr0 : Kd.C k73 w A0 l0.length l0) (hc0 : l0.length ≤ c0) (h : laws_toPairS.f k l0 = some r) :
  Calls Try.prog 12 #[.slice A0 l0.length c0] w fun e w' => ∃ v0_ : Value, e = .returned (v0_) ∧ Kd.R k71 71 w' w.heap.size (fun _ => True) v0_ r ∧ Below w.heap.size w w' := by
 have hu73 := Try.underlying73
 have hu71 := Try.underlying71
 have HR0 := Aside0.mk hr0
 have HC0 := Aside0.mk hc0
 clear hr0 hc0
 have HB := Aside0.mk (Below.refl w.heap.size w)
 have H : (if 0 ≤ (l0.length : Int) then (if ((l0.length : Int) : Int).toNat ≤ 17592186044416 then (laws_toPairS.l0 k l0 (List.replicate ((l0.length : Int) : Int).toNat z71) 0) else (none)) else (none)) = some r := h
 clear h
 by_cases c2 : 0 ≤ (l0.length : Int); rotate_left
 ·
  rw [if_neg c2] at H
  exact absurd H (by simp)
 rw [if_pos c2] at H
 have c2b0 := eq_true c2
 have c2b1 : decide (0 ≤ (l0.length : Int)) = true := decide_eq_true c2
 clear c2
 by_cases c3 : ((l0.length : Int) : Int).toNat ≤ 17592186044416; rotate_left
 ·
  rw [if_neg c3] at H
  exact absurd H (by simp)
 rw [if_pos c3] at H
 have c3b0 := eq_true c3
 have c3b1 : decide (((l0.length : Int) : Int).toNat ≤ 17592186044416) = true := decide_eq_true c3
 clear c3
 obtain ⟨y142, hy142⟩ : ∃ y_ : List (S71), y_ = (List.replicate ((l0.length : Int) : Int).toNat z71) := ⟨_, rfl⟩
 replace H : (laws_toPairS.l0 k l0 y142 0) = some r := by first | (rw [hy142]; with_reducible exact H) | (have H2_ := (Option.bind_some _ _).symm.trans H; rw [hy142]; with_reducible exact H2_) | (have H2_ := (Option.bind_some _ _).symm.trans H; with_reducible exact H2_) | with_reducible exact H | (rw [hy142]; exact H) | exact H
 have Ny142 := Aside0.mk hy142
 clear hy142
 have H' := Aside0.mk H
 clear H
 go_enter Try.func12, Try.ntmps12
 go_wp2_with (first | ((with_reducible refine gate_dst (N := 7) rfl ?_); refine Kd.R_make k71 _ 71 rfl (N := 7) rfl 26 _ _ rfl (l0.length : Int) rfl rfl Try.underlying26 (.agg #[(.int .i64 0), (.int .i64 0)]) 16 info71 rfl (by decide) (by omega) z71 (ok := fun _ => True) (okp := fun _ => True) (k71_mkM _ _ _ z71 ) (fun _ hk => hk) trivial (of_decide_eq_true AS) (Nat.le_trans (Nat.mul_le_mul_right _ (of_decide_eq_true AS : (l0.length : Int).toNat ≤ 17592186044416)) (by omega)) (Below.refl _ _) (Nat.le_refl _) ?_; intro v143 w4 ho5 hb hg_ hnew_; clear hg_ hnew_; (first | rw [← Ny142.out] at ho5 | (simp only [Int.reduceToNat] at ho5; rw [← Ny142.out] at ho5)); have HO144 := Aside0.mk (Kd.R_lower ho5 (below_size (BL))); replace HB := Aside0.mk (below_step (BL) hb); clear hb ho5))
 go_loopg [4] k (fun kq v4 w' => ∃ (x3_1 : List (S71)) (x4_1 : Int), v4 = .int .i64 x4_1 ∧ Aside0 (laws_toPairS.l0 kq l0 x3_1 x4_1 = some r) ∧ Aside0 (kq ≤ k) ∧ Aside0 (Kd.R k71 71 w' w.heap.size (fun _ => True) v143 x3_1) ∧ Aside0 (Below w.heap.size w w'))
 case atStart => exact ⟨(y142), (0), SD, H', ⟨Nat.le_refl _⟩, ⟨RQ HO144.out⟩, ⟨BL⟩⟩
 case round =>
  clear H'
  try clear c1
  try clear c2
  try clear c2b0
  try clear c2b1
  try clear p2
  try clear c3
  try clear c3b0
  try clear c3b1
  obtain ⟨x3_1, x4_1, rfl, HA, HK1, HO_3, HB⟩ := hrel
  cases gk with
  | zero => exact absurd HA.out (by simp [laws_toPairS.l0])
  | succ k1 =>
   have H := HA.out
   clear HA
   simp only [laws_toPairS.l0] at H
   by_cases c6 : x4_1 < (l0.length : Int); rotate_left
   ·
    rw [if_neg c6] at H
    have c6b0 : decide (x4_1 < (l0.length : Int)) = false := decide_eq_false c6
    clear c6
    obtain rfl := Option.some.inj H
    go_wp2
    go_ret
    exact ⟨_, EE, RQ HO_3.out, BL⟩
   rw [if_pos c6] at H
   have c6b0 : decide (x4_1 < (l0.length : Int)) = true := decide_eq_true c6
   clear c6
   by_cases c7 : 0 ≤ x4_1; rotate_left
   ·
    rw [if_neg c7] at H
    exact absurd H (by simp)
   rw [if_pos c7] at H
   have c7b0 : decide (0 ≤ x4_1) = true := decide_eq_true c7
   clear c7
   replace H := Option.bind_eq_some_iff.mp H
   obtain ⟨⟨t146, t147⟩, A80, H⟩ := H
   replace H : (if x4_1 < (x3_1.length : Int) then (laws_toPairS.l0 k1 l0 (x3_1.set (x4_1 : Int).toNat (⟨t146, t147⟩ : S71)) (wrap64 (x4_1 + 1))) else (none)) = some r := H
   have A8 := Aside0.mk A80
   clear A80
   by_cases c9 : x4_1 < (x3_1.length : Int); rotate_left
   ·
    rw [if_neg c9] at H
    exact absurd H (by simp)
   rw [if_pos c9] at H
   have c9b0 : decide (x4_1 < (x3_1.length : Int)) = true := decide_eq_true c9
   clear c9
   obtain ⟨y148, hy148⟩ : ∃ y_ : List (S71), y_ = (x3_1.set (x4_1 : Int).toNat (⟨t146, t147⟩ : S71)) := ⟨_, rfl⟩
   replace H : (laws_toPairS.l0 k1 l0 y148 (wrap64 (x4_1 + 1))) = some r := by first | (rw [hy148]; with_reducible exact H) | (have H2_ := (Option.bind_some _ _).symm.trans H; rw [hy148]; with_reducible exact H2_) | (have H2_ := (Option.bind_some _ _).symm.trans H; with_reducible exact H2_) | with_reducible exact H | (rw [hy148]; exact H) | exact H
   have Ny148 := Aside0.mk hy148
   clear hy148
   have H' := Aside0.mk H
   clear H
   have p145 : 0 ≤ (x4_1 : Int) := of_decide_eq_true AS
   have q145 : x4_1 < (l0.length : Int) := of_decide_eq_true AS
   obtain ⟨ad145, e145, hx145_0, hx145_1⟩ := at_T73 HR0.out x4_1 p145 q145
   cases e145
   replace hx145_0 := (HB.out.cell (World.block_lt_of_cell? w _ hx145_0)).trans hx145_0
   replace hx145_1 := (HB.out.cell (World.block_lt_of_cell? w _ hx145_1)).trans hx145_1
   replace p145 := eq_true p145
   replace q145 := eq_true q145
   go_wp2_with (first | ((with_reducible refine gate_callee (f := 49) rfl ?_); refine goesL_ (some 20) rfl rfl Try.func49 (by kernel_rfl) rfl #[.agg #[.int .i64 ((rd_T73 l0 x4_1).f0), .int .i64 ((rd_T73 l0 x4_1).f1)]] rfl (MA) ?_; (with_reducible refine (laws_toPair.calls ((rd_T73 l0 x4_1).f0) ((rd_T73 l0 x4_1).f1) t146 t147 _ A8.out).mono ?_); rintro e w11 ⟨rfl, hb⟩; refine ⟨_, rfl, ?_⟩; replace HO_3 := Aside0.mk (Kd.R_below (RQ HO_3.out) hb); replace HB := Aside0.mk (below_step (BL) hb); (try clear hb); (try clear hb2); (try clear hk); (try clear hi); have p10 : 0 ≤ (x4_1 : Int) := of_decide_eq_true AS; have q10 : (x4_1 : Int) < ((x3_1.length : Int) : Int) := of_decide_eq_true AS; obtain ⟨go10, co10, eo10, gb10, gl10, cl10, HG10⟩ := Kd.R_form HO_3.out (by omega); (first | cases eo10 | (injection eo10 with ea_ en_ ec_; (first | subst ea_ | (injection ea_ with ea_; subst ea_)); subst ec_; clear en_)); have GB10 := Aside0.mk gb10; have GG10 := Aside0.mk HG10; clear gb10 gl10 HG10; obtain ⟨ce10, hcl10, hM10, hcc10, hfr10⟩ := Kd.R_elem HO_3.out z71 (x4_1 : Int) p10 q10; obtain rfl := k71_openM hM10; have hx10_0 : w11.cell? ⟨go10, (x4_1 : Int).toNat * 2, none⟩ = some (.int .i64 ((rd_T71 x3_1 x4_1).f0)) := hcc10 0 _ rfl; have hx10_1 : w11.cell? ⟨go10, (x4_1 : Int).toNat * 2 + 1, none⟩ = some (.int .i64 ((rd_T71 x3_1 x4_1).f1)) := hcc10 1 _ rfl; have hf10_0 : w11.frozen? ⟨go10, (x4_1 : Int).toNat * 2, none⟩ = false := hfr10 0; have hf10_1 : w11.frozen? ⟨go10, (x4_1 : Int).toNat * 2 + 1, none⟩ = false := hfr10 1; clear hcl10 hcc10 hfr10 hM10; replace p10 := eq_true p10; replace q10 := eq_true q10; have HX12 := Aside0.mk (show Kd.R k71 71 w11 w.heap.size (fun _ => True) (.slice (some ⟨go10, 0, none⟩) x3_1.length co10) x3_1 from (RQ HO_3.out)); obtain ⟨ce12, hcl12, hM12, hcc12, hfr12⟩ := Kd.R_elem HX12.out z71 (x4_1 : Int) (of_decide_eq_true AS) (by have h_ : (x4_1 : Int) < ((x3_1.length : Int) : Int) := of_decide_eq_true AS; first | exact h_ | (have e_ := (Kd.R_reads' HO_3.out).1; omega) | simpa using h_); obtain rfl := k71_openM hM12; have HP12 := Kd.R_seg HX12.out (x4_1 : Int) (of_decide_eq_true AS) (by have h_ : (x4_1 : Int) < ((x3_1.length : Int) : Int) := of_decide_eq_true AS; first | exact h_ | (have e_ := (Kd.R_reads' HO_3.out).1; omega) | simpa using h_) (seg := [.int .i64 t146, .int .i64 t147]) (j := 0) hcl12 hcc12 (show 2 ≤ 2 from by decide) (x' := (⟨t146, t147⟩ : S71)) (k71_mkM _ _ _ (⟨t146, t147⟩ : S71) ) (fun _ hk => hk); have hx12_0 := hcc12 0 _ rfl; (try simp only [show (k71).sz = 2 from rfl, Nat.mul_one, Nat.add_zero] at hx12_0); have hf12_0 := hfr12 0; (try simp only [show (k71).sz = 2 from rfl, Nat.mul_one, Nat.add_zero] at hf12_0); have hx12_1 := hcc12 1 _ rfl; (try simp only [show (k71).sz = 2 from rfl, Nat.mul_one, Nat.add_zero] at hx12_1); have hf12_1 := hfr12 1; (try simp only [show (k71).sz = 2 from rfl, Nat.mul_one, Nat.add_zero] at hf12_1); clear hcl12 hcc12 hfr12 hM12) | ((with_reducible refine gate_store (t := 71) (p := 21) rfl ?_); refine store_event (t := 71) (p := 21) (v := ?vo_w13) (w1 := ((w11.setCell ⟨go10, (x4_1 : Int).toNat * 2, none⟩ (.int .i64 t146)).setCell ⟨go10, (x4_1 : Int).toNat * 2 + 1, none⟩ (.int .i64 t147))) ?hg ?ho ?hn ?hr ?_; (case ho => rfl); (case hg => rfl); (case hn => rfl); (case hr => first | (go_simp; done) | (go_simp; rfl)); intro w13 hw; have hg : w11.grownBy w13 (some go10) := (by rw [hw]; exact HP12.2); have hp_ : Kd.R k71 71 w13 w.heap.size (fun _ => True) (.slice (some ⟨go10, 0, none⟩) x3_1.length co10) y148 := (by rw [hw, Ny148.out]; exact HP12.1); clear HP12; replace HO_3 := Aside0.mk (hp_); replace HB := Aside0.mk ((by rw [hw]; exact below_set (below_set (HB.out) GB10.out) GB10.out : Below w.heap.size w w13)); clear hg hw hp_))
   go_roundg k1
   case measure => have := HK1.out; omega
   case rel => exact ⟨(y148), (wrap64 (x4_1 + 1)), SD, H', ⟨by have := HK1.out; omega⟩, ⟨RQ HO_3.out⟩, ⟨BL⟩⟩

/-! ### laws_toTask: function 13 -/
def laws_toTask.f (a0_0 : Int) (a0_1 : Int) (a0_2 : Int) (a0_3 : Int) (a0_4 : Int) (a0_5 : Int) (a0_6 : Int) (a0_7 : Int) (a0_8 : Int) (a0_9 : Bool) (a0_10 : Int) : Option (Int × Int × Int × Int × Int × Int × Int × Int × Int × Bool × Int) := some (a0_0, a0_1, a0_2, a0_3, a0_4, a0_5, a0_6, a0_7, a0_8, a0_9, a0_10)
set_option maxHeartbeats 8000000 in
set_option maxRecDepth 100000 in
theorem laws_toTask.calls (a0_0 : Int) (a0_1 : Int) (a0_2 : Int) (a0_3 : Int) (a0_4 : Int) (a0_5 : Int) (a0_6 : Int) (a0_7 : Int) (a0_8 : Int) (a0_9 : Bool) (a0_10 : Int) (r1 : Int) (r2 : Int) (r3 : Int) (r4 : Int) (r5 : Int) (r6 : Int) (r7 : Int) (r8 : Int) (r9 : Int) (r10 : Bool) (r11 : Int) (w : World) (h : laws_toTask.f a0_0 a0_1 a0_2 a0_3 a0_4 a0_5 a0_6 a0_7 a0_8 a0_9 a0_10 = some (r1, r2, r3, r4, r5, r6, r7, r8, r9, r10, r11)) :
  Calls Try.prog 13 #[.agg #[.int .i64 a0_0, .int .i64 a0_1, .int .i64 a0_2, .int .i64 a0_3, .int .i64 a0_4, .int .i64 a0_5, .int .i64 a0_6, .int .i64 a0_7, .int .i64 a0_8, .bool a0_9, .int .i64 a0_10]] w fun e w' => e = .returned (.agg #[.int .i64 r1, .int .i64 r2, .int .i64 r3, .int .i64 r4, .int .i64 r5, .int .i64 r6, .int .i64 r7, .int .i64 r8, .int .i64 r9, .bool r10, .int .i64 r11]) ∧ Below w.heap.size w w' := by
 have hu24 := Try.underlying24
 have hu30 := Try.underlying30
 have HB := Aside0.mk (Below.refl w.heap.size w)
 have H : (some (a0_0, a0_1, a0_2, a0_3, a0_4, a0_5, a0_6, a0_7, a0_8, a0_9, a0_10)) = some (r1, r2, r3, r4, r5, r6, r7, r8, r9, r10, r11) := h
 clear h
 simp only [Option.some.injEq, Prod.mk.injEq] at H
 obtain ⟨rfl, rfl, rfl, rfl, rfl, rfl, rfl, rfl, rfl, rfl, rfl⟩ := H
 go_enter Try.func13, Try.ntmps13
 go_wp2_with (first | ((with_reducible refine gate_dst (N := 1) rfl ?_); refine bE 1 #[.int .i64 a0_0, .int .i64 a0_1, .int .i64 a0_2, .int .i64 a0_3, .int .i64 a0_4, .int .i64 a0_5, .int .i64 a0_6, .int .i64 a0_7, .int .i64 a0_8, .bool a0_9, .int .i64 a0_10] 24 ?_; intro gb149 hg w2 hbox hb; have BK149 := Aside0.mk (hbox); have GW149 : Aside0 (w.heap.size ≤ gb149) := GS; have GE149 : Aside0 (w.heap.size ≤ gb149) := GS; replace HB := Aside0.mk (below_step (BL) hb); clear hb hbox hg) | ((with_reducible refine gate_dst (N := 2) rfl ?_); refine bE 2 #[.int .i64 0, .int .i64 0, .int .i64 0, .int .i64 0, .int .i64 0, .int .i64 0, .int .i64 0, .int .i64 0, .int .i64 0, .bool false, .int .i64 0] 30 ?_; intro gb150 hg w3 hbox hb; have BK150 := Aside0.mk (hbox); have GW150 : Aside0 (w.heap.size ≤ gb150) := GS; have GE150 : Aside0 (w.heap.size ≤ gb150) := GS; have NB149_150 := NL BK149.out hg; have NB150_149 := NG BK149.out hg; replace BK149 := BB BK149.out hb; replace HB := Aside0.mk (below_step (BL) hb); clear hb hbox hg) | ((with_reducible refine gate_dst (N := 3) rfl ?_); refine bE 3 #[.int .i64 0, .int .i64 0, .int .i64 0, .int .i64 0, .int .i64 0, .int .i64 0, .int .i64 0, .int .i64 0, .int .i64 0, .bool false, .int .i64 0] 30 ?_; intro gb151 hg w4 hbox hb; have BK151 := Aside0.mk (hbox); have GW151 : Aside0 (w.heap.size ≤ gb151) := GS; have GE151 : Aside0 (w.heap.size ≤ gb151) := GS; have NB149_151 := NL BK149.out hg; have NB151_149 := NG BK149.out hg; have NB150_151 := NL BK150.out hg; have NB151_150 := NG BK150.out hg; replace BK149 := BB BK149.out hb; replace BK150 := BB BK150.out hb; replace HB := Aside0.mk (below_step (BL) hb); clear hb hbox hg; have hnb5 := NB149_150.out; have hnc5 := NB150_149.out; have hnb6 := NB149_151.out; have hnc6 := NB151_149.out; have hcz7_0 : w4.cell? ⟨gb149, 0, none⟩ = some (.int .i64 a0_0) := CZ BK149.out 0; have hcz7_1 : w4.cell? ⟨gb149, 1, none⟩ = some (.int .i64 a0_1) := CZ BK149.out 1; have hcz7_2 : w4.cell? ⟨gb149, 2, none⟩ = some (.int .i64 a0_2) := CZ BK149.out 2; have hcz7_3 : w4.cell? ⟨gb149, 3, none⟩ = some (.int .i64 a0_3) := CZ BK149.out 3; have hcz7_4 : w4.cell? ⟨gb149, 4, none⟩ = some (.int .i64 a0_4) := CZ BK149.out 4; have hcz7_5 : w4.cell? ⟨gb149, 5, none⟩ = some (.int .i64 a0_5) := CZ BK149.out 5; have hcz7_6 : w4.cell? ⟨gb149, 6, none⟩ = some (.int .i64 a0_6) := CZ BK149.out 6; have hcz7_7 : w4.cell? ⟨gb149, 7, none⟩ = some (.int .i64 a0_7) := CZ BK149.out 7; have hcz7_8 : w4.cell? ⟨gb149, 8, none⟩ = some (.int .i64 a0_8) := CZ BK149.out 8; have hcz7_9 : w4.cell? ⟨gb149, 9, none⟩ = some (.bool a0_9) := CZ BK149.out 9; have hcz7_10 : w4.cell? ⟨gb149, 10, none⟩ = some (.int .i64 a0_10) := CZ BK149.out 10; have hfz7_0 := blk_frozen BK149.out 0; have hfz7_1 := blk_frozen BK149.out 1; have hfz7_2 := blk_frozen BK149.out 2; have hfz7_3 := blk_frozen BK149.out 3; have hfz7_4 := blk_frozen BK149.out 4; have hfz7_5 := blk_frozen BK149.out 5; have hfz7_6 := blk_frozen BK149.out 6; have hfz7_7 := blk_frozen BK149.out 7; have hfz7_8 := blk_frozen BK149.out 8; have hfz7_9 := blk_frozen BK149.out 9; have hfz7_10 := blk_frozen BK149.out 10; have hnb8 := NB151_150.out; have hnc8 := NB150_151.out; have hcz9_0 : w4.cell? ⟨gb151, 0, none⟩ = some (.int .i64 0) := CZ BK151.out 0; have hcz9_1 : w4.cell? ⟨gb151, 1, none⟩ = some (.int .i64 0) := CZ BK151.out 1; have hcz9_2 : w4.cell? ⟨gb151, 2, none⟩ = some (.int .i64 0) := CZ BK151.out 2; have hcz9_3 : w4.cell? ⟨gb151, 3, none⟩ = some (.int .i64 0) := CZ BK151.out 3; have hcz9_4 : w4.cell? ⟨gb151, 4, none⟩ = some (.int .i64 0) := CZ BK151.out 4; have hcz9_5 : w4.cell? ⟨gb151, 5, none⟩ = some (.int .i64 0) := CZ BK151.out 5; have hcz9_6 : w4.cell? ⟨gb151, 6, none⟩ = some (.int .i64 0) := CZ BK151.out 6; have hcz9_7 : w4.cell? ⟨gb151, 7, none⟩ = some (.int .i64 0) := CZ BK151.out 7; have hcz9_8 : w4.cell? ⟨gb151, 8, none⟩ = some (.int .i64 0) := CZ BK151.out 8; have hcz9_9 : w4.cell? ⟨gb151, 9, none⟩ = some (.bool false) := CZ BK151.out 9; have hcz9_10 : w4.cell? ⟨gb151, 10, none⟩ = some (.int .i64 0) := CZ BK151.out 10; have hfz9_0 := blk_frozen BK151.out 0; have hfz9_1 := blk_frozen BK151.out 1; have hfz9_2 := blk_frozen BK151.out 2; have hfz9_3 := blk_frozen BK151.out 3; have hfz9_4 := blk_frozen BK151.out 4; have hfz9_5 := blk_frozen BK151.out 5; have hfz9_6 := blk_frozen BK151.out 6; have hfz9_7 := blk_frozen BK151.out 7; have hfz9_8 := blk_frozen BK151.out 8; have hfz9_9 := blk_frozen BK151.out 9; have hfz9_10 := blk_frozen BK151.out 10; have hcz10_0 : w4.cell? ⟨gb150, 0, none⟩ = some (.int .i64 0) := CZ BK150.out 0; have hcz10_1 : w4.cell? ⟨gb150, 1, none⟩ = some (.int .i64 0) := CZ BK150.out 1; have hcz10_2 : w4.cell? ⟨gb150, 2, none⟩ = some (.int .i64 0) := CZ BK150.out 2; have hcz10_3 : w4.cell? ⟨gb150, 3, none⟩ = some (.int .i64 0) := CZ BK150.out 3; have hcz10_4 : w4.cell? ⟨gb150, 4, none⟩ = some (.int .i64 0) := CZ BK150.out 4; have hcz10_5 : w4.cell? ⟨gb150, 5, none⟩ = some (.int .i64 0) := CZ BK150.out 5; have hcz10_6 : w4.cell? ⟨gb150, 6, none⟩ = some (.int .i64 0) := CZ BK150.out 6; have hcz10_7 : w4.cell? ⟨gb150, 7, none⟩ = some (.int .i64 0) := CZ BK150.out 7; have hcz10_8 : w4.cell? ⟨gb150, 8, none⟩ = some (.int .i64 0) := CZ BK150.out 8; have hcz10_9 : w4.cell? ⟨gb150, 9, none⟩ = some (.bool false) := CZ BK150.out 9; have hcz10_10 : w4.cell? ⟨gb150, 10, none⟩ = some (.int .i64 0) := CZ BK150.out 10; have hfz10_0 := blk_frozen BK150.out 0; have hfz10_1 := blk_frozen BK150.out 1; have hfz10_2 := blk_frozen BK150.out 2; have hfz10_3 := blk_frozen BK150.out 3; have hfz10_4 := blk_frozen BK150.out 4; have hfz10_5 := blk_frozen BK150.out 5; have hfz10_6 := blk_frozen BK150.out 6; have hfz10_7 := blk_frozen BK150.out 7; have hfz10_8 := blk_frozen BK150.out 8; have hfz10_9 := blk_frozen BK150.out 9; have hfz10_10 := blk_frozen BK150.out 10))
 refine bodyPost_ret (results_cell_row rfl _ _ gb150 30 #[.int .i64 a0_0, .int .i64 a0_1, .int .i64 a0_2, .int .i64 a0_3, .int .i64 a0_4, .int .i64 a0_5, .int .i64 a0_6, .int .i64 a0_7, .int .i64 a0_8, .bool a0_9, .int .i64 a0_10] (0, 0) _ rfl (by (with_reducible repeat (first | apply b1 | apply b2 | apply b3)); refine blk_put (cs := #[.int .i64 a0_0, .int .i64 a0_1, .int .i64 a0_2, .int .i64 a0_3, .int .i64 a0_4, .int .i64 a0_5, .int .i64 a0_6, .int .i64 a0_7, .int .i64 a0_8, .bool a0_9, .int .i64 0]) ?_ 10 _ rfl; (with_reducible repeat (first | apply b1 | apply b2 | apply b3)); refine blk_put (cs := #[.int .i64 a0_0, .int .i64 a0_1, .int .i64 a0_2, .int .i64 a0_3, .int .i64 a0_4, .int .i64 a0_5, .int .i64 a0_6, .int .i64 a0_7, .int .i64 a0_8, .bool false, .int .i64 0]) ?_ 9 _ rfl; (with_reducible repeat (first | apply b1 | apply b2 | apply b3)); refine blk_put (cs := #[.int .i64 a0_0, .int .i64 a0_1, .int .i64 a0_2, .int .i64 a0_3, .int .i64 a0_4, .int .i64 a0_5, .int .i64 a0_6, .int .i64 a0_7, .int .i64 0, .bool false, .int .i64 0]) ?_ 8 _ rfl; (with_reducible repeat (first | apply b1 | apply b2 | apply b3)); refine blk_put (cs := #[.int .i64 a0_0, .int .i64 a0_1, .int .i64 a0_2, .int .i64 a0_3, .int .i64 a0_4, .int .i64 a0_5, .int .i64 a0_6, .int .i64 0, .int .i64 0, .bool false, .int .i64 0]) ?_ 7 _ rfl; (with_reducible repeat (first | apply b1 | apply b2 | apply b3)); refine blk_put (cs := #[.int .i64 a0_0, .int .i64 a0_1, .int .i64 a0_2, .int .i64 a0_3, .int .i64 a0_4, .int .i64 a0_5, .int .i64 0, .int .i64 0, .int .i64 0, .bool false, .int .i64 0]) ?_ 6 _ rfl; (with_reducible repeat (first | apply b1 | apply b2 | apply b3)); refine blk_put (cs := #[.int .i64 a0_0, .int .i64 a0_1, .int .i64 a0_2, .int .i64 a0_3, .int .i64 a0_4, .int .i64 0, .int .i64 0, .int .i64 0, .int .i64 0, .bool false, .int .i64 0]) ?_ 5 _ rfl; (with_reducible repeat (first | apply b1 | apply b2 | apply b3)); refine blk_put (cs := #[.int .i64 a0_0, .int .i64 a0_1, .int .i64 a0_2, .int .i64 a0_3, .int .i64 0, .int .i64 0, .int .i64 0, .int .i64 0, .int .i64 0, .bool false, .int .i64 0]) ?_ 4 _ rfl; (with_reducible repeat (first | apply b1 | apply b2 | apply b3)); refine blk_put (cs := #[.int .i64 a0_0, .int .i64 a0_1, .int .i64 a0_2, .int .i64 0, .int .i64 0, .int .i64 0, .int .i64 0, .int .i64 0, .int .i64 0, .bool false, .int .i64 0]) ?_ 3 _ rfl; (with_reducible repeat (first | apply b1 | apply b2 | apply b3)); refine blk_put (cs := #[.int .i64 a0_0, .int .i64 a0_1, .int .i64 0, .int .i64 0, .int .i64 0, .int .i64 0, .int .i64 0, .int .i64 0, .int .i64 0, .bool false, .int .i64 0]) ?_ 2 _ rfl; (with_reducible repeat (first | apply b1 | apply b2 | apply b3)); refine blk_put (cs := #[.int .i64 a0_0, .int .i64 0, .int .i64 0, .int .i64 0, .int .i64 0, .int .i64 0, .int .i64 0, .int .i64 0, .int .i64 0, .bool false, .int .i64 0]) ?_ 1 _ rfl; (with_reducible repeat (first | apply b1 | apply b2 | apply b3)); refine blk_put (cs := #[.int .i64 0, .int .i64 0, .int .i64 0, .int .i64 0, .int .i64 0, .int .i64 0, .int .i64 0, .int .i64 0, .int .i64 0, .bool false, .int .i64 0]) ?_ 0 _ rfl; (with_reducible repeat (first | apply b1 | apply b2 | apply b3)); refine blk_far ?_ NB150_151.out _; (with_reducible repeat (first | apply b1 | apply b2 | apply b3)); refine blk_far ?_ NB150_151.out _; (with_reducible repeat (first | apply b1 | apply b2 | apply b3)); refine blk_far ?_ NB150_151.out _; (with_reducible repeat (first | apply b1 | apply b2 | apply b3)); refine blk_far ?_ NB150_151.out _; (with_reducible repeat (first | apply b1 | apply b2 | apply b3)); refine blk_far ?_ NB150_151.out _; (with_reducible repeat (first | apply b1 | apply b2 | apply b3)); refine blk_far ?_ NB150_151.out _; (with_reducible repeat (first | apply b1 | apply b2 | apply b3)); refine blk_far ?_ NB150_151.out _; (with_reducible repeat (first | apply b1 | apply b2 | apply b3)); refine blk_far ?_ NB150_151.out _; (with_reducible repeat (first | apply b1 | apply b2 | apply b3)); refine blk_far ?_ NB150_151.out _; (with_reducible repeat (first | apply b1 | apply b2 | apply b3)); refine blk_far ?_ NB150_151.out _; (with_reducible repeat (first | apply b1 | apply b2 | apply b3)); refine blk_far ?_ NB150_151.out _; (with_reducible repeat (first | apply b1 | apply b2 | apply b3)); exact BK150.out) Try.underlying30 rfl (by kernel_rfl)) rfl ?_
 exact ⟨EE, BL⟩

/-! ### impl_parted: function 50 -/
def impl_parted.l0 : Nat → Int → List (S71) → List (S71) → List (S71) → List (S71) → Int → Int → Option ((List (S71)) × (List (S71)) × (List (S71)))
 | 0, _, _, _, _, _, _, _ => none
 | k + 1, x1, x7, x8, x9, x15, x16, x17 => if x17 < x16 then (if 0 ≤ x17 then (if x17 < (x15.length : Int) then (if ((rd_T71 x15 x17).f0) < x1 then (if x7.length < 8796093022208 then (impl_parted.l0 k x1 (x7 ++ [(⟨(rd_T71 x15 x17).f0, (rd_T71 x15 x17).f1⟩ : S71)]) x8 x9 x15 x16 (wrap64 (x17 + 1))) else (none)) else (if ((rd_T71 x15 x17).f0) > x1 then (if x9.length < 8796093022208 then (impl_parted.l0 k x1 x7 x8 (x9 ++ [(⟨(rd_T71 x15 x17).f0, (rd_T71 x15 x17).f1⟩ : S71)]) x15 x16 (wrap64 (x17 + 1))) else (none)) else (if x8.length < 8796093022208 then (impl_parted.l0 k x1 x7 (x8 ++ [(⟨(rd_T71 x15 x17).f0, (rd_T71 x15 x17).f1⟩ : S71)]) x9 x15 x16 (wrap64 (x17 + 1))) else (none)))) else (none)) else (none)) else (some (x7, x8, x9))
def impl_parted.f (k : Nat) (l0 : List (S71)) (a1 : Int) : Option ((List (S71)) × (List (S71)) × (List (S71))) := impl_parted.l0 k a1 (([] : List (S71))) (([] : List (S71))) (([] : List (S71))) l0 (l0.length : Int) 0
theorem impl_parted.mono_l : ∀ k, (∀ y0 y1 y2 y3 y4 y5 y6, LeO (impl_parted.l0 k y0 y1 y2 y3 y4 y5 y6) (impl_parted.l0 (k + 1) y0 y1 y2 y3 y4 y5 y6))
 | 0 => fun _ _ _ _ _ _ _ r h => by simp [impl_parted.l0] at h
 | k + 1 => by
  have ih0 := impl_parted.mono_l k
  ·
   intro y0 y1 y2 y3 y4 y5 y6
   unfold impl_parted.l0
   repeat' first
   | (with_reducible exact ih0 _ _ _ _ _ _ _)
   | (with_reducible exact LeO.refl _)
   | (with_reducible exact LeO.none _)
   | (with_reducible refine LeO.ite ?_ ?_)
   | (with_reducible refine LeO.bind ?_ (fun _ => ?_))
   | exact ih0 _ _ _ _ _ _ _
   | exact LeO.none _
   | refine LeO.ite ?_ ?_
   | refine LeO.bind ?_ (fun _ => ?_)
theorem impl_parted.mono : ∀ a0 a1 k, LeO (impl_parted.f k a0 a1) (impl_parted.f (k + 1) a0 a1) := by
 intro a0 a1 k
 have ih0 := impl_parted.mono_l k
 unfold impl_parted.f
 repeat' first
   | (with_reducible exact ih0 _ _ _ _ _ _ _)
   | (with_reducible exact LeO.refl _)
   | (with_reducible exact LeO.none _)
   | (with_reducible refine LeO.ite ?_ ?_)
   | (with_reducible refine LeO.bind ?_ (fun _ => ?_))
   | exact ih0 _ _ _ _ _ _ _
   | exact LeO.none _
   | refine LeO.ite ?_ ?_
   | refine LeO.bind ?_ (fun _ => ?_)
set_option maxHeartbeats 8000000 in
set_option maxRecDepth 100000 in
theorem impl_parted.calls (k : Nat) (A0 : Option Addr) (c0 : Nat) (l0 : List (S71)) (a1 : Int) (r1 : List (S71)) (r2 : List (S71)) (r3 : List (S71)) (w : World) (hr0 : Kd.C k71 w A0 l0.length l0) (hc0 : l0.length ≤ c0) (h : impl_parted.f k l0 a1 = some (r1, r2, r3)) :
  Calls Try.prog 50 #[.slice A0 l0.length c0, .int .i64 a1] w fun e w' => ∃ v0_ v1_ v2_ : Value, e = .returned (.tuple #[v0_, v1_, v2_]) ∧ Kd.R k71 71 w' w.heap.size (fun k_ => some k_ ≠ (v1_ : Value).ownBlock ∧ some k_ ≠ (v2_ : Value).ownBlock) v0_ r1 ∧ Kd.R k71 71 w' w.heap.size (fun k_ => some k_ ≠ (v0_ : Value).ownBlock ∧ some k_ ≠ (v2_ : Value).ownBlock) v1_ r2 ∧ Kd.R k71 71 w' w.heap.size (fun k_ => some k_ ≠ (v0_ : Value).ownBlock ∧ some k_ ≠ (v1_ : Value).ownBlock) v2_ r3 ∧ Below w.heap.size w w' := by
 have hu71 := Try.underlying71
 have HR0 := Aside0.mk hr0
 have HC0 := Aside0.mk hc0
 clear hr0 hc0
 have HB := Aside0.mk (Below.refl w.heap.size w)
 have H : (impl_parted.l0 k a1 (([] : List (S71))) (([] : List (S71))) (([] : List (S71))) l0 (l0.length : Int) 0) = some (r1, r2, r3) := h
 clear h
 obtain ⟨y152, hy152⟩ : ∃ y_ : List (S71), y_ = (([] : List (S71))) := ⟨_, rfl⟩
 replace H : (impl_parted.l0 k a1 y152 (([] : List (S71))) (([] : List (S71))) l0 (l0.length : Int) 0) = some (r1, r2, r3) := by first | (rw [hy152]; with_reducible exact H) | (have H2_ := (Option.bind_some _ _).symm.trans H; rw [hy152]; with_reducible exact H2_) | (have H2_ := (Option.bind_some _ _).symm.trans H; with_reducible exact H2_) | with_reducible exact H | (rw [hy152]; exact H) | exact H
 have Ny152 := Aside0.mk hy152
 clear hy152
 obtain ⟨y155, hy155⟩ : ∃ y_ : List (S71), y_ = (([] : List (S71))) := ⟨_, rfl⟩
 replace H : (impl_parted.l0 k a1 y152 y155 (([] : List (S71))) l0 (l0.length : Int) 0) = some (r1, r2, r3) := by first | (rw [hy155]; with_reducible exact H) | (have H2_ := (Option.bind_some _ _).symm.trans H; rw [hy155]; with_reducible exact H2_) | (have H2_ := (Option.bind_some _ _).symm.trans H; with_reducible exact H2_) | with_reducible exact H | (rw [hy155]; exact H) | exact H
 have Ny155 := Aside0.mk hy155
 clear hy155
 obtain ⟨y158, hy158⟩ : ∃ y_ : List (S71), y_ = (([] : List (S71))) := ⟨_, rfl⟩
 replace H : (impl_parted.l0 k a1 y152 y155 y158 l0 (l0.length : Int) 0) = some (r1, r2, r3) := by first | (rw [hy158]; with_reducible exact H) | (have H2_ := (Option.bind_some _ _).symm.trans H; rw [hy158]; with_reducible exact H2_) | (have H2_ := (Option.bind_some _ _).symm.trans H; with_reducible exact H2_) | with_reducible exact H | (rw [hy158]; exact H) | exact H
 have Ny158 := Aside0.mk hy158
 clear hy158
 have H' := Aside0.mk H
 clear H
 go_enter Try.func50, Try.ntmps50
 go_wp2_with (first | ((with_reducible refine gate_dst (N := 12) rfl ?_); refine Kd.R_lit k71 _ 71 ?hg (N := 12) ?hd (xs := ([] : List (S71))) (inner := []) (ok := fun _ => True) (okp := fun _ => True) ?hr ?hp (fun _ hk => hk) trivial (Below.refl _ _) (Nat.le_refl _) (by simp) ?_; (case hd => rfl); (case hg => rfl); (case hr => first | (go_simp; done) | (go_simp; rfl)); (case hp => exact (Reps.none _ _)); intro v153 w3 ho4 hb hg_ hnew_; clear hg_ hnew_; (first | rw [← Ny152.out] at ho4 | (simp only [Int.reduceToNat] at ho4; rw [← Ny152.out] at ho4)); have HO154 := Aside0.mk (Kd.R_lower ho4 (below_size (BL))); replace HB := Aside0.mk (below_step (BL) hb); clear hb ho4) | ((with_reducible refine gate_dst (N := 13) rfl ?_); refine Kd.R_lit k71 _ 71 ?hg (N := 13) ?hd (xs := ([] : List (S71))) (inner := []) (ok := fun _ => True) (okp := fun _ => True) ?hr ?hp (fun _ hk => hk) trivial (Below.refl _ _) (Nat.le_refl _) (by simp) ?_; (case hd => rfl); (case hg => rfl); (case hr => first | (go_simp; done) | (go_simp; rfl)); (case hp => exact (Reps.none _ _)); intro v156 w5 ho6 hb hg_ hnew_; clear hg_ hnew_; (first | rw [← Ny155.out] at ho6 | (simp only [Int.reduceToNat] at ho6; rw [← Ny155.out] at ho6)); have HO157 := Aside0.mk (Kd.R_lower (Kd.R_new' ho6 (Kd.R_lt (RQ HO154.out))) (below_size (BL))); replace HO154 := Aside0.mk (Kd.R_elder' (RQ HO154.out) (Kd.R_base ho6) hb); replace HB := Aside0.mk (below_step (BL) hb); clear hb ho6) | ((with_reducible refine gate_dst (N := 14) rfl ?_); refine Kd.R_lit k71 _ 71 ?hg (N := 14) ?hd (xs := ([] : List (S71))) (inner := []) (ok := fun _ => True) (okp := fun _ => True) ?hr ?hp (fun _ hk => hk) trivial (Below.refl _ _) (Nat.le_refl _) (by simp) ?_; (case hd => rfl); (case hg => rfl); (case hr => first | (go_simp; done) | (go_simp; rfl)); (case hp => exact (Reps.none _ _)); intro v159 w7 ho8 hb hg_ hnew_; clear hg_ hnew_; (first | rw [← Ny158.out] at ho8 | (simp only [Int.reduceToNat] at ho8; rw [← Ny158.out] at ho8)); have HO160 := Aside0.mk (Kd.R_lower (Kd.R_new' (Kd.R_new' ho8 (Kd.R_lt (RQ HO154.out))) (Kd.R_lt (RQ HO157.out))) (below_size (BL))); replace HO154 := Aside0.mk (Kd.R_elder' (RQ HO154.out) (Kd.R_base ho8) hb); replace HO157 := Aside0.mk (Kd.R_elder' (RQ HO157.out) (Kd.R_base ho8) hb); replace HB := Aside0.mk (below_step (BL) hb); clear hb ho8))
 go_loopg [7, 8, 9, 17] k (fun kq v7 v8 v9 v17 w' => ∃ (x7_1 : List (S71)) (x8_1 : List (S71)) (x9_1 : List (S71)) (x17_1 : Int), v17 = .int .i64 x17_1 ∧ Aside0 (impl_parted.l0 kq a1 x7_1 x8_1 x9_1 l0 (l0.length : Int) x17_1 = some (r1, r2, r3)) ∧ Aside0 (kq ≤ k) ∧ Aside0 (Kd.R k71 71 w' w.heap.size (fun k_ => some k_ ≠ (v8 : Value).ownBlock ∧ some k_ ≠ (v9 : Value).ownBlock) v7 x7_1) ∧ Aside0 (Kd.R k71 71 w' w.heap.size (fun k_ => some k_ ≠ (v7 : Value).ownBlock ∧ some k_ ≠ (v9 : Value).ownBlock) v8 x8_1) ∧ Aside0 (Kd.R k71 71 w' w.heap.size (fun k_ => some k_ ≠ (v7 : Value).ownBlock ∧ some k_ ≠ (v8 : Value).ownBlock) v9 x9_1) ∧ Aside0 (Below w.heap.size w w'))
 case atStart => exact ⟨(y152), (y155), (y158), (0), SD, H', ⟨Nat.le_refl _⟩, ⟨by (with_reducible repeat (first | apply r1 | apply r2 | apply r3)); exact Kd.R_mono HO154.out (fun _ hk => ⟨hk.1.2, hk.2⟩)⟩, ⟨by (with_reducible repeat (first | apply r1 | apply r2 | apply r3)); exact Kd.R_mono HO157.out (fun _ hk => ⟨hk.1.2, hk.2⟩)⟩, ⟨by (with_reducible repeat (first | apply r1 | apply r2 | apply r3)); exact Kd.R_mono HO160.out (fun _ hk => ⟨hk.1.2, hk.2⟩)⟩, ⟨BL⟩⟩
 case round =>
  clear H'
  try clear p2
  try clear c5
  obtain ⟨x7_1, x8_1, x9_1, x17_1, rfl, HA, HK1, HO_7, HO_8, HO_9, HB⟩ := hrel
  cases gk with
  | zero => exact absurd HA.out (by simp [impl_parted.l0])
  | succ k1 =>
   have H := HA.out
   clear HA
   simp only [impl_parted.l0] at H
   by_cases c9 : x17_1 < (l0.length : Int); rotate_left
   ·
    rw [if_neg c9] at H
    have c9b0 : decide (x17_1 < (l0.length : Int)) = false := decide_eq_false c9
    clear c9
    simp only [Option.some.injEq, Prod.mk.injEq] at H
    obtain ⟨rfl, rfl, rfl⟩ := H
    go_wp2
    go_ret3
    exact ⟨_, _, _, EE, RQ HO_7.out, RQ HO_8.out, RQ HO_9.out, BL⟩
   rw [if_pos c9] at H
   have c9b0 : decide (x17_1 < (l0.length : Int)) = true := decide_eq_true c9
   clear c9
   by_cases c10 : 0 ≤ x17_1; rotate_left
   ·
    rw [if_neg c10] at H
    exact absurd H (by simp)
   rw [if_pos c10] at H
   have c10b0 : decide (0 ≤ x17_1) = true := decide_eq_true c10
   clear c10
   by_cases c11 : x17_1 < (l0.length : Int); rotate_left
   ·
    rw [if_neg c11] at H
    exact absurd H (by simp)
   rw [if_pos c11] at H
   have c11b0 : decide (x17_1 < (l0.length : Int)) = true := decide_eq_true c11
   clear c11
   by_cases c12 : ((rd_T71 l0 x17_1).f0) < a1
   ·
    rw [if_pos c12] at H
    have c12b0 : decide (((rd_T71 l0 x17_1).f0) < a1) = true := decide_eq_true c12
    clear c12
    by_cases c13 : x7_1.length < 8796093022208; rotate_left
    ·
     rw [if_neg c13] at H
     exact absurd H (by simp)
    rw [if_pos c13] at H
    have LMc13 := Aside0.mk c13
    clear c13
    obtain ⟨y163, hy163⟩ : ∃ y_ : List (S71), y_ = (x7_1 ++ [(⟨(rd_T71 l0 x17_1).f0, (rd_T71 l0 x17_1).f1⟩ : S71)]) := ⟨_, rfl⟩
    replace H : (impl_parted.l0 k1 a1 y163 x8_1 x9_1 l0 (l0.length : Int) (wrap64 (x17_1 + 1))) = some (r1, r2, r3) := by first | (rw [hy163]; with_reducible exact H) | (have H2_ := (Option.bind_some _ _).symm.trans H; rw [hy163]; with_reducible exact H2_) | (have H2_ := (Option.bind_some _ _).symm.trans H; with_reducible exact H2_) | with_reducible exact H | (rw [hy163]; exact H) | exact H
    have Ny163 := Aside0.mk hy163
    clear hy163
    have H' := Aside0.mk H
    clear H
    have p161 : 0 ≤ (x17_1 : Int) := of_decide_eq_true AS
    have q161 : x17_1 < (l0.length : Int) := of_decide_eq_true AS
    obtain ⟨ad161, e161, hx161_0, hx161_1⟩ := at_T71 HR0.out x17_1 p161 q161
    cases e161
    replace hx161_0 := (HB.out.cell (World.block_lt_of_cell? w _ hx161_0)).trans hx161_0
    replace hx161_1 := (HB.out.cell (World.block_lt_of_cell? w _ hx161_1)).trans hx161_1
    replace p161 := eq_true p161
    replace q161 := eq_true q161
    go_wp2_with (first | ((with_reducible refine gate_dst (N := 11) rfl ?_); refine bE 11 #[.int .i64 0, .int .i64 0] 71 ?_; intro gb162 hg w14 hbox hb; have BK162 := Aside0.mk (hbox); have GW162 : Aside0 (w.heap.size ≤ gb162) := GS; have GE162 : Aside0 (w.heap.size ≤ gb162) := GS; replace HO_7 := Aside0.mk (Kd.R_below (Kd.R_elderB (RQ HO_7.out) gb162 (Nat.le_of_eq hg.symm)) hb); replace HO_8 := Aside0.mk (Kd.R_below (Kd.R_elderB (RQ HO_8.out) gb162 (Nat.le_of_eq hg.symm)) hb); replace HO_9 := Aside0.mk (Kd.R_below (Kd.R_elderB (RQ HO_9.out) gb162 (Nat.le_of_eq hg.symm)) hb); replace HB := Aside0.mk (below_step (BL) hb); clear hb hbox hg; have hcz15_0 : w14.cell? ⟨gb162, 0, none⟩ = some (.int .i64 0) := CZ BK162.out 0; have hcz15_1 : w14.cell? ⟨gb162, 1, none⟩ = some (.int .i64 0) := CZ BK162.out 1; have hfz15_0 := blk_frozen BK162.out 0; have hfz15_1 := blk_frozen BK162.out 1) | ((with_reducible refine gate_builtin (b := .append) (xs := #[.tmp 30, .tmp 32]) rfl ?_); at_builtin; refine Kd.R_append k71 (w0 := w) w.heap.size rfl (.tmp 30) (.tmp 32) 26 71 (.agg #[(.int .i64 0), (.int .i64 0)]) 16 rfl Try.underlying26 info71 rfl (by decide) (by omega) u7 x7_1 (⟨(rd_T71 l0 x17_1).f0, (rd_T71 l0 x17_1).f1⟩ : S71) [.int .i64 ((rd_T71 l0 x17_1).f0), .int .i64 ((rd_T71 l0 x17_1).f1)] (fun k_ => some k_ ≠ (u8 : Value).ownBlock ∧ some k_ ≠ (u9 : Value).ownBlock ∧ k_ ≠ gb162) (fun _ => False) rfl (by first | (go_simp; done) | (go_simp; rfl)) ?aP (fun _ hk => hk.elim) ?aF ?aO ?aB ?aS ?aL ?_; (case aP => exact k71_mkM _ _ _ (⟨(rd_T71 l0 x17_1).f0, (rd_T71 l0 x17_1).f1⟩ : S71)); (case aB => exact (BL)); (case aF => exact (fun k_ hk => ⟨Kd.fresh' (Kd.R_lt (by (with_reducible repeat (first | apply r1 | apply r2 | apply r3)); exact (Kd.R_mono (Kd.R_far (p := ⟨gb162, 1, none⟩) (Kd.R_far (p := ⟨gb162, 0, none⟩) (Kd.R_mono HO_8.out (fun k_ hk => (⟨hk, hk.2⟩ : _ ∧ k_ ≠ gb162))) (fun _ hk => hk.2) (.int .i64 ((rd_T71 l0 x17_1).f0))) (fun _ hk => hk.2) (.int .i64 ((rd_T71 l0 x17_1).f1))) (fun _ h_ => h_.1)))) k_ hk, Kd.fresh' (Kd.R_lt (by (with_reducible repeat (first | apply r1 | apply r2 | apply r3)); exact (Kd.R_mono (Kd.R_far (p := ⟨gb162, 1, none⟩) (Kd.R_far (p := ⟨gb162, 0, none⟩) (Kd.R_mono HO_9.out (fun k_ hk => (⟨hk, hk.2⟩ : _ ∧ k_ ≠ gb162))) (fun _ hk => hk.2) (.int .i64 ((rd_T71 l0 x17_1).f0))) (fun _ hk => hk.2) (.int .i64 ((rd_T71 l0 x17_1).f1))) (fun _ h_ => h_.1)))) k_ hk, Kd.freshB (g := gb162) (o := .cells #[.int .i64 ((rd_T71 l0 x17_1).f0), .int .i64 ((rd_T71 l0 x17_1).f1)] 71 (0, 0)) (by (with_reducible repeat (first | apply b1 | apply b2 | apply b3)); refine blk_put (cs := #[.int .i64 ((rd_T71 l0 x17_1).f0), .int .i64 0]) ?_ 1 _ rfl; (with_reducible repeat (first | apply b1 | apply b2 | apply b3)); refine blk_put (cs := #[.int .i64 0, .int .i64 0]) ?_ 0 _ rfl; (with_reducible repeat (first | apply b1 | apply b2 | apply b3)); exact BK162.out) k_ hk⟩)); (case aO => exact (by (with_reducible repeat (first | apply r1 | apply r2 | apply r3)); exact Kd.R_mono (Kd.R_far (p := ⟨gb162, 1, none⟩) (Kd.R_far (p := ⟨gb162, 0, none⟩) (Kd.R_mono HO_7.out (fun k_ hk => (⟨hk, hk.2⟩ : _ ∧ k_ ≠ gb162))) (fun _ hk => hk.2) (.int .i64 ((rd_T71 l0 x17_1).f0))) (fun _ hk => hk.2) (.int .i64 ((rd_T71 l0 x17_1).f1))) (fun _ hk => ⟨hk.1.1.1, ⟨hk.1.1.2, hk.1.2⟩⟩))); (case aS => exact (below_size (BL))); (case aL => have := LMc13.out; omega); intro v164 w16 ho hb hg hat; rw [← Ny163.out] at ho; have n0_ := Aside0.mk (Kd.R_after (ok := (fun k_ => some k_ ≠ (u9 : Value).ownBlock ∧ k_ ≠ gb162)) (by (with_reducible repeat (first | apply r1 | apply r2 | apply r3)); exact Kd.R_mono (Kd.R_far (p := ⟨gb162, 1, none⟩) (Kd.R_far (p := ⟨gb162, 0, none⟩) (Kd.R_mono HO_8.out (fun k_ hk => (⟨hk, hk.2⟩ : _ ∧ k_ ≠ gb162))) (fun _ hk => hk.2) (.int .i64 ((rd_T71 l0 x17_1).f0))) (fun _ hk => hk.2) (.int .i64 ((rd_T71 l0 x17_1).f1))) (fun _ hk => ⟨⟨hk.1.1.2, hk.1.2⟩, hk.1.1.1⟩)) hg hat); have n1_ := Aside0.mk (Kd.R_after (ok := (fun k_ => some k_ ≠ (u8 : Value).ownBlock ∧ k_ ≠ gb162)) (by (with_reducible repeat (first | apply r1 | apply r2 | apply r3)); exact Kd.R_mono (Kd.R_far (p := ⟨gb162, 1, none⟩) (Kd.R_far (p := ⟨gb162, 0, none⟩) (Kd.R_mono HO_9.out (fun k_ hk => (⟨hk, hk.2⟩ : _ ∧ k_ ≠ gb162))) (fun _ hk => hk.2) (.int .i64 ((rd_T71 l0 x17_1).f0))) (fun _ hk => hk.2) (.int .i64 ((rd_T71 l0 x17_1).f1))) (fun _ hk => ⟨⟨hk.1.1.2, hk.1.2⟩, hk.1.1.1⟩)) hg hat); have n2_ := Aside0.mk (blk_grown (g := gb162) (o := .cells #[.int .i64 ((rd_T71 l0 x17_1).f0), .int .i64 ((rd_T71 l0 x17_1).f1)] 71 (0, 0)) (by (with_reducible repeat (first | apply b1 | apply b2 | apply b3)); refine blk_put (cs := #[.int .i64 ((rd_T71 l0 x17_1).f0), .int .i64 0]) ?_ 1 _ rfl; (with_reducible repeat (first | apply b1 | apply b2 | apply b3)); refine blk_put (cs := #[.int .i64 0, .int .i64 0]) ?_ 0 _ rfl; (with_reducible repeat (first | apply b1 | apply b2 | apply b3)); exact BK162.out) hg (Kd.R_away HO_7.out (fun _ hk => hk.2))); have n3_ := Aside0.mk (hb); have n4_ := Aside0.mk (ho); clear HO_8; clear HO_9; clear BK162; clear HB; clear HO_7; have HO_8 := n0_; have HO_9 := n1_; have BK162 := n2_; have HB := n3_; have HO165 := n4_; clear n0_ n1_ n2_ n3_ n4_; clear ho hb hg hat))
    go_roundg k1
    case measure => have := HK1.out; omega
    case rel => exact ⟨(y163), (x8_1), (x9_1), (wrap64 (x17_1 + 1)), SD, H', ⟨by have := HK1.out; omega⟩, ⟨by (with_reducible repeat (first | apply r1 | apply r2 | apply r3)); exact Kd.R_mono HO165.out (fun _ hk => ⟨hk.1, hk.2.1⟩)⟩, ⟨by (with_reducible repeat (first | apply r1 | apply r2 | apply r3)); exact Kd.R_mono HO_8.out (fun _ hk => ⟨hk.2, hk.1.1⟩)⟩, ⟨by (with_reducible repeat (first | apply r1 | apply r2 | apply r3)); exact Kd.R_mono HO_9.out (fun _ hk => ⟨hk.2, hk.1.1⟩)⟩, ⟨BL⟩⟩
   rw [if_neg c12] at H
   have c12b0 : decide (((rd_T71 l0 x17_1).f0) < a1) = false := decide_eq_false c12
   clear c12
   by_cases c17 : ((rd_T71 l0 x17_1).f0) > a1
   ·
    rw [if_pos c17] at H
    have c17b0 : decide (a1 < ((rd_T71 l0 x17_1).f0)) = true := decide_eq_true c17
    clear c17
    by_cases c18 : x9_1.length < 8796093022208; rotate_left
    ·
     rw [if_neg c18] at H
     exact absurd H (by simp)
    rw [if_pos c18] at H
    have LMc18 := Aside0.mk c18
    clear c18
    obtain ⟨y166, hy166⟩ : ∃ y_ : List (S71), y_ = (x9_1 ++ [(⟨(rd_T71 l0 x17_1).f0, (rd_T71 l0 x17_1).f1⟩ : S71)]) := ⟨_, rfl⟩
    replace H : (impl_parted.l0 k1 a1 x7_1 x8_1 y166 l0 (l0.length : Int) (wrap64 (x17_1 + 1))) = some (r1, r2, r3) := by first | (rw [hy166]; with_reducible exact H) | (have H2_ := (Option.bind_some _ _).symm.trans H; rw [hy166]; with_reducible exact H2_) | (have H2_ := (Option.bind_some _ _).symm.trans H; with_reducible exact H2_) | with_reducible exact H | (rw [hy166]; exact H) | exact H
    have Ny166 := Aside0.mk hy166
    clear hy166
    have H' := Aside0.mk H
    clear H
    have p161 : 0 ≤ (x17_1 : Int) := of_decide_eq_true AS
    have q161 : x17_1 < (l0.length : Int) := of_decide_eq_true AS
    obtain ⟨ad161, e161, hx161_0, hx161_1⟩ := at_T71 HR0.out x17_1 p161 q161
    cases e161
    replace hx161_0 := (HB.out.cell (World.block_lt_of_cell? w _ hx161_0)).trans hx161_0
    replace hx161_1 := (HB.out.cell (World.block_lt_of_cell? w _ hx161_1)).trans hx161_1
    replace p161 := eq_true p161
    replace q161 := eq_true q161
    go_wp2_with (first | ((with_reducible refine gate_dst (N := 11) rfl ?_); refine bE 11 #[.int .i64 0, .int .i64 0] 71 ?_; intro gb162 hg w19 hbox hb; have BK162 := Aside0.mk (hbox); have GW162 : Aside0 (w.heap.size ≤ gb162) := GS; have GE162 : Aside0 (w.heap.size ≤ gb162) := GS; replace HO_7 := Aside0.mk (Kd.R_below (Kd.R_elderB (RQ HO_7.out) gb162 (Nat.le_of_eq hg.symm)) hb); replace HO_8 := Aside0.mk (Kd.R_below (Kd.R_elderB (RQ HO_8.out) gb162 (Nat.le_of_eq hg.symm)) hb); replace HO_9 := Aside0.mk (Kd.R_below (Kd.R_elderB (RQ HO_9.out) gb162 (Nat.le_of_eq hg.symm)) hb); replace HB := Aside0.mk (below_step (BL) hb); clear hb hbox hg; have hcz20_0 : w19.cell? ⟨gb162, 0, none⟩ = some (.int .i64 0) := CZ BK162.out 0; have hcz20_1 : w19.cell? ⟨gb162, 1, none⟩ = some (.int .i64 0) := CZ BK162.out 1; have hfz20_0 := blk_frozen BK162.out 0; have hfz20_1 := blk_frozen BK162.out 1) | ((with_reducible refine gate_builtin (b := .append) (xs := #[.tmp 39, .tmp 41]) rfl ?_); at_builtin; refine Kd.R_append k71 (w0 := w) w.heap.size rfl (.tmp 39) (.tmp 41) 26 71 (.agg #[(.int .i64 0), (.int .i64 0)]) 16 rfl Try.underlying26 info71 rfl (by decide) (by omega) u9 x9_1 (⟨(rd_T71 l0 x17_1).f0, (rd_T71 l0 x17_1).f1⟩ : S71) [.int .i64 ((rd_T71 l0 x17_1).f0), .int .i64 ((rd_T71 l0 x17_1).f1)] (fun k_ => some k_ ≠ (u7 : Value).ownBlock ∧ some k_ ≠ (u8 : Value).ownBlock ∧ k_ ≠ gb162) (fun _ => False) rfl (by first | (go_simp; done) | (go_simp; rfl)) ?aP (fun _ hk => hk.elim) ?aF ?aO ?aB ?aS ?aL ?_; (case aP => exact k71_mkM _ _ _ (⟨(rd_T71 l0 x17_1).f0, (rd_T71 l0 x17_1).f1⟩ : S71)); (case aB => exact (BL)); (case aF => exact (fun k_ hk => ⟨Kd.fresh' (Kd.R_lt (by (with_reducible repeat (first | apply r1 | apply r2 | apply r3)); exact (Kd.R_mono (Kd.R_far (p := ⟨gb162, 1, none⟩) (Kd.R_far (p := ⟨gb162, 0, none⟩) (Kd.R_mono HO_7.out (fun k_ hk => (⟨hk, hk.2⟩ : _ ∧ k_ ≠ gb162))) (fun _ hk => hk.2) (.int .i64 ((rd_T71 l0 x17_1).f0))) (fun _ hk => hk.2) (.int .i64 ((rd_T71 l0 x17_1).f1))) (fun _ h_ => h_.1)))) k_ hk, Kd.fresh' (Kd.R_lt (by (with_reducible repeat (first | apply r1 | apply r2 | apply r3)); exact (Kd.R_mono (Kd.R_far (p := ⟨gb162, 1, none⟩) (Kd.R_far (p := ⟨gb162, 0, none⟩) (Kd.R_mono HO_8.out (fun k_ hk => (⟨hk, hk.2⟩ : _ ∧ k_ ≠ gb162))) (fun _ hk => hk.2) (.int .i64 ((rd_T71 l0 x17_1).f0))) (fun _ hk => hk.2) (.int .i64 ((rd_T71 l0 x17_1).f1))) (fun _ h_ => h_.1)))) k_ hk, Kd.freshB (g := gb162) (o := .cells #[.int .i64 ((rd_T71 l0 x17_1).f0), .int .i64 ((rd_T71 l0 x17_1).f1)] 71 (0, 0)) (by (with_reducible repeat (first | apply b1 | apply b2 | apply b3)); refine blk_put (cs := #[.int .i64 ((rd_T71 l0 x17_1).f0), .int .i64 0]) ?_ 1 _ rfl; (with_reducible repeat (first | apply b1 | apply b2 | apply b3)); refine blk_put (cs := #[.int .i64 0, .int .i64 0]) ?_ 0 _ rfl; (with_reducible repeat (first | apply b1 | apply b2 | apply b3)); exact BK162.out) k_ hk⟩)); (case aO => exact (by (with_reducible repeat (first | apply r1 | apply r2 | apply r3)); exact Kd.R_mono (Kd.R_far (p := ⟨gb162, 1, none⟩) (Kd.R_far (p := ⟨gb162, 0, none⟩) (Kd.R_mono HO_9.out (fun k_ hk => (⟨hk, hk.2⟩ : _ ∧ k_ ≠ gb162))) (fun _ hk => hk.2) (.int .i64 ((rd_T71 l0 x17_1).f0))) (fun _ hk => hk.2) (.int .i64 ((rd_T71 l0 x17_1).f1))) (fun _ hk => ⟨hk.1.1.1, ⟨hk.1.1.2, hk.1.2⟩⟩))); (case aS => exact (below_size (BL))); (case aL => have := LMc18.out; omega); intro v167 w21 ho hb hg hat; rw [← Ny166.out] at ho; have n0_ := Aside0.mk (Kd.R_after (ok := (fun k_ => some k_ ≠ (u8 : Value).ownBlock ∧ k_ ≠ gb162)) (by (with_reducible repeat (first | apply r1 | apply r2 | apply r3)); exact Kd.R_mono (Kd.R_far (p := ⟨gb162, 1, none⟩) (Kd.R_far (p := ⟨gb162, 0, none⟩) (Kd.R_mono HO_7.out (fun k_ hk => (⟨hk, hk.2⟩ : _ ∧ k_ ≠ gb162))) (fun _ hk => hk.2) (.int .i64 ((rd_T71 l0 x17_1).f0))) (fun _ hk => hk.2) (.int .i64 ((rd_T71 l0 x17_1).f1))) (fun _ hk => ⟨⟨hk.1.1.1, hk.1.2⟩, hk.1.1.2⟩)) hg hat); have n1_ := Aside0.mk (Kd.R_after (ok := (fun k_ => some k_ ≠ (u7 : Value).ownBlock ∧ k_ ≠ gb162)) (by (with_reducible repeat (first | apply r1 | apply r2 | apply r3)); exact Kd.R_mono (Kd.R_far (p := ⟨gb162, 1, none⟩) (Kd.R_far (p := ⟨gb162, 0, none⟩) (Kd.R_mono HO_8.out (fun k_ hk => (⟨hk, hk.2⟩ : _ ∧ k_ ≠ gb162))) (fun _ hk => hk.2) (.int .i64 ((rd_T71 l0 x17_1).f0))) (fun _ hk => hk.2) (.int .i64 ((rd_T71 l0 x17_1).f1))) (fun _ hk => ⟨⟨hk.1.1.1, hk.1.2⟩, hk.1.1.2⟩)) hg hat); have n2_ := Aside0.mk (blk_grown (g := gb162) (o := .cells #[.int .i64 ((rd_T71 l0 x17_1).f0), .int .i64 ((rd_T71 l0 x17_1).f1)] 71 (0, 0)) (by (with_reducible repeat (first | apply b1 | apply b2 | apply b3)); refine blk_put (cs := #[.int .i64 ((rd_T71 l0 x17_1).f0), .int .i64 0]) ?_ 1 _ rfl; (with_reducible repeat (first | apply b1 | apply b2 | apply b3)); refine blk_put (cs := #[.int .i64 0, .int .i64 0]) ?_ 0 _ rfl; (with_reducible repeat (first | apply b1 | apply b2 | apply b3)); exact BK162.out) hg (Kd.R_away HO_9.out (fun _ hk => hk.2))); have n3_ := Aside0.mk (hb); have n4_ := Aside0.mk (ho); clear HO_7; clear HO_8; clear BK162; clear HB; clear HO_9; have HO_7 := n0_; have HO_8 := n1_; have BK162 := n2_; have HB := n3_; have HO168 := n4_; clear n0_ n1_ n2_ n3_ n4_; clear ho hb hg hat))
    go_roundg k1
    case measure => have := HK1.out; omega
    case rel => exact ⟨(x7_1), (x8_1), (y166), (wrap64 (x17_1 + 1)), SD, H', ⟨by have := HK1.out; omega⟩, ⟨by (with_reducible repeat (first | apply r1 | apply r2 | apply r3)); exact Kd.R_mono HO_7.out (fun _ hk => ⟨hk.1.1, hk.2⟩)⟩, ⟨by (with_reducible repeat (first | apply r1 | apply r2 | apply r3)); exact Kd.R_mono HO_8.out (fun _ hk => ⟨hk.1.1, hk.2⟩)⟩, ⟨by (with_reducible repeat (first | apply r1 | apply r2 | apply r3)); exact Kd.R_mono HO168.out (fun _ hk => ⟨hk.1, hk.2.1⟩)⟩, ⟨BL⟩⟩
   rw [if_neg c17] at H
   have c17b0 : decide (a1 < ((rd_T71 l0 x17_1).f0)) = false := decide_eq_false c17
   clear c17
   by_cases c22 : x8_1.length < 8796093022208; rotate_left
   ·
    rw [if_neg c22] at H
    exact absurd H (by simp)
   rw [if_pos c22] at H
   have LMc22 := Aside0.mk c22
   clear c22
   obtain ⟨y169, hy169⟩ : ∃ y_ : List (S71), y_ = (x8_1 ++ [(⟨(rd_T71 l0 x17_1).f0, (rd_T71 l0 x17_1).f1⟩ : S71)]) := ⟨_, rfl⟩
   replace H : (impl_parted.l0 k1 a1 x7_1 y169 x9_1 l0 (l0.length : Int) (wrap64 (x17_1 + 1))) = some (r1, r2, r3) := by first | (rw [hy169]; with_reducible exact H) | (have H2_ := (Option.bind_some _ _).symm.trans H; rw [hy169]; with_reducible exact H2_) | (have H2_ := (Option.bind_some _ _).symm.trans H; with_reducible exact H2_) | with_reducible exact H | (rw [hy169]; exact H) | exact H
   have Ny169 := Aside0.mk hy169
   clear hy169
   have H' := Aside0.mk H
   clear H
   have p161 : 0 ≤ (x17_1 : Int) := of_decide_eq_true AS
   have q161 : x17_1 < (l0.length : Int) := of_decide_eq_true AS
   obtain ⟨ad161, e161, hx161_0, hx161_1⟩ := at_T71 HR0.out x17_1 p161 q161
   cases e161
   replace hx161_0 := (HB.out.cell (World.block_lt_of_cell? w _ hx161_0)).trans hx161_0
   replace hx161_1 := (HB.out.cell (World.block_lt_of_cell? w _ hx161_1)).trans hx161_1
   replace p161 := eq_true p161
   replace q161 := eq_true q161
   go_wp2_with (first | ((with_reducible refine gate_dst (N := 11) rfl ?_); refine bE 11 #[.int .i64 0, .int .i64 0] 71 ?_; intro gb162 hg w23 hbox hb; have BK162 := Aside0.mk (hbox); have GW162 : Aside0 (w.heap.size ≤ gb162) := GS; have GE162 : Aside0 (w.heap.size ≤ gb162) := GS; replace HO_7 := Aside0.mk (Kd.R_below (Kd.R_elderB (RQ HO_7.out) gb162 (Nat.le_of_eq hg.symm)) hb); replace HO_8 := Aside0.mk (Kd.R_below (Kd.R_elderB (RQ HO_8.out) gb162 (Nat.le_of_eq hg.symm)) hb); replace HO_9 := Aside0.mk (Kd.R_below (Kd.R_elderB (RQ HO_9.out) gb162 (Nat.le_of_eq hg.symm)) hb); replace HB := Aside0.mk (below_step (BL) hb); clear hb hbox hg; have hcz24_0 : w23.cell? ⟨gb162, 0, none⟩ = some (.int .i64 0) := CZ BK162.out 0; have hcz24_1 : w23.cell? ⟨gb162, 1, none⟩ = some (.int .i64 0) := CZ BK162.out 1; have hfz24_0 := blk_frozen BK162.out 0; have hfz24_1 := blk_frozen BK162.out 1) | ((with_reducible refine gate_builtin (b := .append) (xs := #[.tmp 21, .tmp 23]) rfl ?_); at_builtin; refine Kd.R_append k71 (w0 := w) w.heap.size rfl (.tmp 21) (.tmp 23) 26 71 (.agg #[(.int .i64 0), (.int .i64 0)]) 16 rfl Try.underlying26 info71 rfl (by decide) (by omega) u8 x8_1 (⟨(rd_T71 l0 x17_1).f0, (rd_T71 l0 x17_1).f1⟩ : S71) [.int .i64 ((rd_T71 l0 x17_1).f0), .int .i64 ((rd_T71 l0 x17_1).f1)] (fun k_ => some k_ ≠ (u7 : Value).ownBlock ∧ some k_ ≠ (u9 : Value).ownBlock ∧ k_ ≠ gb162) (fun _ => False) rfl (by first | (go_simp; done) | (go_simp; rfl)) ?aP (fun _ hk => hk.elim) ?aF ?aO ?aB ?aS ?aL ?_; (case aP => exact k71_mkM _ _ _ (⟨(rd_T71 l0 x17_1).f0, (rd_T71 l0 x17_1).f1⟩ : S71)); (case aB => exact (BL)); (case aF => exact (fun k_ hk => ⟨Kd.fresh' (Kd.R_lt (by (with_reducible repeat (first | apply r1 | apply r2 | apply r3)); exact (Kd.R_mono (Kd.R_far (p := ⟨gb162, 1, none⟩) (Kd.R_far (p := ⟨gb162, 0, none⟩) (Kd.R_mono HO_7.out (fun k_ hk => (⟨hk, hk.2⟩ : _ ∧ k_ ≠ gb162))) (fun _ hk => hk.2) (.int .i64 ((rd_T71 l0 x17_1).f0))) (fun _ hk => hk.2) (.int .i64 ((rd_T71 l0 x17_1).f1))) (fun _ h_ => h_.1)))) k_ hk, Kd.fresh' (Kd.R_lt (by (with_reducible repeat (first | apply r1 | apply r2 | apply r3)); exact (Kd.R_mono (Kd.R_far (p := ⟨gb162, 1, none⟩) (Kd.R_far (p := ⟨gb162, 0, none⟩) (Kd.R_mono HO_9.out (fun k_ hk => (⟨hk, hk.2⟩ : _ ∧ k_ ≠ gb162))) (fun _ hk => hk.2) (.int .i64 ((rd_T71 l0 x17_1).f0))) (fun _ hk => hk.2) (.int .i64 ((rd_T71 l0 x17_1).f1))) (fun _ h_ => h_.1)))) k_ hk, Kd.freshB (g := gb162) (o := .cells #[.int .i64 ((rd_T71 l0 x17_1).f0), .int .i64 ((rd_T71 l0 x17_1).f1)] 71 (0, 0)) (by (with_reducible repeat (first | apply b1 | apply b2 | apply b3)); refine blk_put (cs := #[.int .i64 ((rd_T71 l0 x17_1).f0), .int .i64 0]) ?_ 1 _ rfl; (with_reducible repeat (first | apply b1 | apply b2 | apply b3)); refine blk_put (cs := #[.int .i64 0, .int .i64 0]) ?_ 0 _ rfl; (with_reducible repeat (first | apply b1 | apply b2 | apply b3)); exact BK162.out) k_ hk⟩)); (case aO => exact (by (with_reducible repeat (first | apply r1 | apply r2 | apply r3)); exact Kd.R_mono (Kd.R_far (p := ⟨gb162, 1, none⟩) (Kd.R_far (p := ⟨gb162, 0, none⟩) (Kd.R_mono HO_8.out (fun k_ hk => (⟨hk, hk.2⟩ : _ ∧ k_ ≠ gb162))) (fun _ hk => hk.2) (.int .i64 ((rd_T71 l0 x17_1).f0))) (fun _ hk => hk.2) (.int .i64 ((rd_T71 l0 x17_1).f1))) (fun _ hk => ⟨hk.1.1.1, ⟨hk.1.1.2, hk.1.2⟩⟩))); (case aS => exact (below_size (BL))); (case aL => have := LMc22.out; omega); intro v170 w25 ho hb hg hat; rw [← Ny169.out] at ho; have n0_ := Aside0.mk (Kd.R_after (ok := (fun k_ => some k_ ≠ (u9 : Value).ownBlock ∧ k_ ≠ gb162)) (by (with_reducible repeat (first | apply r1 | apply r2 | apply r3)); exact Kd.R_mono (Kd.R_far (p := ⟨gb162, 1, none⟩) (Kd.R_far (p := ⟨gb162, 0, none⟩) (Kd.R_mono HO_7.out (fun k_ hk => (⟨hk, hk.2⟩ : _ ∧ k_ ≠ gb162))) (fun _ hk => hk.2) (.int .i64 ((rd_T71 l0 x17_1).f0))) (fun _ hk => hk.2) (.int .i64 ((rd_T71 l0 x17_1).f1))) (fun _ hk => ⟨⟨hk.1.1.2, hk.1.2⟩, hk.1.1.1⟩)) hg hat); have n1_ := Aside0.mk (Kd.R_after (ok := (fun k_ => some k_ ≠ (u7 : Value).ownBlock ∧ k_ ≠ gb162)) (by (with_reducible repeat (first | apply r1 | apply r2 | apply r3)); exact Kd.R_mono (Kd.R_far (p := ⟨gb162, 1, none⟩) (Kd.R_far (p := ⟨gb162, 0, none⟩) (Kd.R_mono HO_9.out (fun k_ hk => (⟨hk, hk.2⟩ : _ ∧ k_ ≠ gb162))) (fun _ hk => hk.2) (.int .i64 ((rd_T71 l0 x17_1).f0))) (fun _ hk => hk.2) (.int .i64 ((rd_T71 l0 x17_1).f1))) (fun _ hk => ⟨⟨hk.1.1.1, hk.1.2⟩, hk.1.1.2⟩)) hg hat); have n2_ := Aside0.mk (blk_grown (g := gb162) (o := .cells #[.int .i64 ((rd_T71 l0 x17_1).f0), .int .i64 ((rd_T71 l0 x17_1).f1)] 71 (0, 0)) (by (with_reducible repeat (first | apply b1 | apply b2 | apply b3)); refine blk_put (cs := #[.int .i64 ((rd_T71 l0 x17_1).f0), .int .i64 0]) ?_ 1 _ rfl; (with_reducible repeat (first | apply b1 | apply b2 | apply b3)); refine blk_put (cs := #[.int .i64 0, .int .i64 0]) ?_ 0 _ rfl; (with_reducible repeat (first | apply b1 | apply b2 | apply b3)); exact BK162.out) hg (Kd.R_away HO_8.out (fun _ hk => hk.2))); have n3_ := Aside0.mk (hb); have n4_ := Aside0.mk (ho); clear HO_7; clear HO_9; clear BK162; clear HB; clear HO_8; have HO_7 := n0_; have HO_9 := n1_; have BK162 := n2_; have HB := n3_; have HO171 := n4_; clear n0_ n1_ n2_ n3_ n4_; clear ho hb hg hat))
   go_roundg k1
   case measure => have := HK1.out; omega
   case rel => exact ⟨(x7_1), (y169), (x9_1), (wrap64 (x17_1 + 1)), SD, H', ⟨by have := HK1.out; omega⟩, ⟨by (with_reducible repeat (first | apply r1 | apply r2 | apply r3)); exact Kd.R_mono HO_7.out (fun _ hk => ⟨hk.2, hk.1.1⟩)⟩, ⟨by (with_reducible repeat (first | apply r1 | apply r2 | apply r3)); exact Kd.R_mono HO171.out (fun _ hk => ⟨hk.1, hk.2.1⟩)⟩, ⟨by (with_reducible repeat (first | apply r1 | apply r2 | apply r3)); exact Kd.R_mono HO_9.out (fun _ hk => ⟨hk.1.1, hk.2⟩)⟩, ⟨BL⟩⟩

-- NOT PRINTED: function 78 (impl_Pair_78)

-- NOT PRINTED: function 51 (impl_Pair_51)

-- NOT PRINTED: function 79 (impl_Pair_79)

-- NOT PRINTED: function 53 (impl_Pair_53)

end Go.Proofs.Ytfkhncoiifojnaa.Qdt
