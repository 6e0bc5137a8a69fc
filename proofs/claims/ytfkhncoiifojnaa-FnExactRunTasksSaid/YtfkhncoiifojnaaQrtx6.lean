-- Laid by myprint.py, a program of this session's own, over the kit's print. Not trusted: Lean checks it.
import Derived.Test.YtfkhncoiifojnaaQrtx0
import Derived.Test.YtfkhncoiifojnaaQrtx1
import Derived.Test.YtfkhncoiifojnaaQrtx3
namespace Go.Proofs.Ytfkhncoiifojnaa.Qrt
open Go.RowKit Go.Proofs.YtfkhncoiifojnaaW.PrintWords Go.Proofs.YtfkhncoiifojnaaW.PrintLast Go.Proofs.YtfkhncoiifojnaaW.PrintMore
attribute [local go_sem] Go.Proofs.Ytfkhncoiifojnaa.StrCmp.gtr_less Go.Proofs.Ytfkhncoiifojnaa.StrCmp.geq_less Go.Proofs.Ytfkhncoiifojnaa.StrCmp.leq_less max2_int min2_int max_two min_two max_three min_three max_four min_four   -- for this text's walks alone
set_option linter.unusedVariables false
set_option linter.unusedSimpArgs false

attribute [local go_sem high] eqA30
/-! ### laws_toIntS: function 32 -/
def laws_toIntS.l0 : Nat → List Int → List Int → Int → Option (List Int)
 | 0, _, _, _ => none
 | k + 1, x0, x3, x4 => if x4 < (x0.length : Int) then (if 0 ≤ x4 then (if x4 < (x3.length : Int) then (laws_toIntS.l0 k x0 (x3.set (x4 : Int).toNat (rd x0 x4)) (wrap64 (x4 + 1))) else (none)) else (none)) else (some x3)
def laws_toIntS.f (k : Nat) (l0 : List Int) : Option (List Int) := if 0 ≤ (l0.length : Int) then (if ((l0.length : Int) : Int).toNat ≤ 35184372088832 then (laws_toIntS.l0 k l0 (List.replicate ((l0.length : Int) : Int).toNat 0) 0) else (none)) else (none)
set_option maxHeartbeats 8000000 in
set_option maxRecDepth 100000 in
theorem laws_toIntS.calls (k : Nat) (A0 : Option Addr) (c0 : Nat) (l0 : List Int) (r : List Int) (w : World) (hr0 : Kd.C (Kd.int .i64) w A0 l0.length l0) (hc0 : l0.length ≤ c0) (h : laws_toIntS.f k l0 = some r) :
  Calls Try.prog 32 #[.slice A0 l0.length c0] w fun e w' => ∃ v0_ : Value, e = .returned (v0_) ∧ Kd.R (Kd.int .i64) 3 w' w.heap.size (fun _ => True) v0_ r ∧ Below w.heap.size w w' := by
 have HR0 := Aside0.mk hr0
 have HC0 := Aside0.mk hc0
 clear hr0 hc0
 have HB := Aside0.mk (Below.refl w.heap.size w)
 have H : (if 0 ≤ (l0.length : Int) then (if ((l0.length : Int) : Int).toNat ≤ 35184372088832 then (laws_toIntS.l0 k l0 (List.replicate ((l0.length : Int) : Int).toNat 0) 0) else (none)) else (none)) = some r := h
 clear h
 by_cases c2 : 0 ≤ (l0.length : Int); rotate_left
 ·
  rw [if_neg c2] at H; exact absurd H (by simp)
 rw [if_pos c2] at H
 have c2b0 := eq_true c2
 have c2b1 : decide (0 ≤ (l0.length : Int)) = true := decide_eq_true c2
 clear c2
 by_cases c3 : ((l0.length : Int) : Int).toNat ≤ 35184372088832; rotate_left
 ·
  rw [if_neg c3] at H; exact absurd H (by simp)
 rw [if_pos c3] at H
 have c3b0 := eq_true c3
 have c3b1 : decide (((l0.length : Int) : Int).toNat ≤ 35184372088832) = true := decide_eq_true c3
 clear c3
 obtain ⟨y309, hy309⟩ : ∃ y_ : List Int, y_ = (List.replicate ((l0.length : Int) : Int).toNat 0) := ⟨_, rfl⟩
 replace H : (laws_toIntS.l0 k l0 y309 0) = some r := by first | (rw [hy309]; with_reducible exact H) | (have H2_ := (Option.bind_some _ _).symm.trans H; rw [hy309]; with_reducible exact H2_) | (have H2_ := (Option.bind_some _ _).symm.trans H; with_reducible exact H2_) | with_reducible exact H | (rw [hy309]; exact H) | exact H
 have Ny309 := Aside0.mk hy309
 clear hy309
 have H' := Aside0.mk H
 clear H
 go_enter Try.func32, Try.ntmps32
 go_wp2_with (first | ((with_reducible refine gate_dst (N := 7) rfl ?_); refine Kd.R_make (Kd.int .i64) _ 3 rfl (N := 7) rfl 38 _ _ rfl (l0.length : Int) rfl rfl Try.underlying38 (.int .i64 0) 8 info3 rfl (by decide) (by omega) 0 (ok := fun _ => True) (okp := fun _ => True) rfl (fun _ hk => hk) trivial (of_decide_eq_true AS) (Nat.le_trans (Nat.mul_le_mul_right _ (of_decide_eq_true AS : (l0.length : Int).toNat ≤ 35184372088832)) (by omega)) (Below.refl _ _) (Nat.le_refl _) ?_; intro v310 w4 ho5 hb hg_ hnew_; clear hg_ hnew_; (first | rw [← Ny309.out] at ho5 | (simp only [Int.reduceToNat] at ho5; rw [← Ny309.out] at ho5)); have HO311 := Aside0.mk (Kd.R_lower ho5 (below_size (BL))); replace HB := Aside0.mk (below_step (BL) hb); clear hb ho5))
 go_loopg [4] k (fun kq v4 w' => ∃ (x3_1 : List Int) (x4_1 : Int), v4 = .int .i64 x4_1 ∧ Aside0 (laws_toIntS.l0 kq l0 x3_1 x4_1 = some r) ∧ Aside0 (kq ≤ k) ∧ Aside0 (Kd.R (Kd.int .i64) 3 w' w.heap.size (fun _ => True) v310 x3_1) ∧ Aside0 (Below w.heap.size w w'))
 case atStart => exact ⟨(y309), (0), SD, H', ⟨Nat.le_refl _⟩, ⟨RQ HO311.out⟩, ⟨BL⟩⟩
 case round =>
  clear H'
  try clear c2 c2b0 c2b1 p2 c3 c3b0 c3b1
  obtain ⟨x3_1, x4_1, rfl, HA, HK1, HO_3, HB⟩ := hrel; cases gk with
  | zero => exact absurd HA.out (by simp [laws_toIntS.l0])
  | succ k1 =>
   have H := HA.out; clear HA; simp only [laws_toIntS.l0] at H
   by_cases c6 : x4_1 < (l0.length : Int); rotate_left
   ·
    rw [if_neg c6] at H; have c6b0 : decide (x4_1 < (l0.length : Int)) = false := decide_eq_false c6; clear c6; obtain rfl := Option.some.inj H
    go_wp2
    go_ret
    exact ⟨_, EE, RQ HO_3.out, BL⟩
   rw [if_pos c6] at H; have c6b0 : decide (x4_1 < (l0.length : Int)) = true := decide_eq_true c6; clear c6
   by_cases c7 : 0 ≤ x4_1; rotate_left
   ·
    rw [if_neg c7] at H; exact absurd H (by simp)
   rw [if_pos c7] at H; have c7b0 : decide (0 ≤ x4_1) = true := decide_eq_true c7; clear c7
   by_cases c8 : x4_1 < (x3_1.length : Int); rotate_left
   ·
    rw [if_neg c8] at H; exact absurd H (by simp)
   rw [if_pos c8] at H; have c8b0 : decide (x4_1 < (x3_1.length : Int)) = true := decide_eq_true c8; clear c8; obtain ⟨y313, hy313⟩ : ∃ y_ : List Int, y_ = (x3_1.set (x4_1 : Int).toNat (rd l0 x4_1)) := ⟨_, rfl⟩
   replace H : (laws_toIntS.l0 k1 l0 y313 (wrap64 (x4_1 + 1))) = some r := by first | (rw [hy313]; with_reducible exact H) | (have H2_ := (Option.bind_some _ _).symm.trans H; rw [hy313]; with_reducible exact H2_) | (have H2_ := (Option.bind_some _ _).symm.trans H; with_reducible exact H2_) | with_reducible exact H | (rw [hy313]; exact H) | exact H
   have Ny313 := Aside0.mk hy313; clear hy313; have H' := Aside0.mk H; clear H; have p312 : 0 ≤ (x4_1 : Int) := of_decide_eq_true AS; have q312 : x4_1 < (l0.length : Int) := of_decide_eq_true AS; obtain ⟨ad312, e312, hx312_0⟩ := Kd.at_int HR0.out x4_1 p312 q312; cases e312; replace hx312_0 := (HB.out.cell (World.block_lt_of_cell? w _ hx312_0)).trans hx312_0; replace p312 := eq_true p312; replace q312 := eq_true q312; have p9 : 0 ≤ (x4_1 : Int) := of_decide_eq_true AS; have q9 : (x4_1 : Int) < ((x3_1.length : Int) : Int) := of_decide_eq_true AS; obtain ⟨go9, co9, eo9, gb9, gl9, cl9, HG9⟩ := Kd.R_form HO_3.out (by omega)
   (first | cases eo9 | (injection eo9 with ea_ en_ ec_; (first | subst ea_ | (injection ea_ with ea_; subst ea_)); subst ec_; clear en_))
   have GB9 := Aside0.mk gb9; have GG9 := Aside0.mk HG9; clear gb9 gl9 HG9; obtain ⟨hx9_0, hf9_0⟩ := Kd.R_celln 0 HO_3.out (x4_1 : Int) p9 q9; replace p9 := eq_true p9; replace q9 := eq_true q9; have HP10 := Kd.R_putg HO_3.out (x4_1 : Int) (rd l0 x4_1)
   go_wp2_with (first | ((with_reducible refine gate_store (t := 3) (p := 20) rfl ?_); refine store_event (t := 3) (p := 20) (v := ?vo_w11) (w1 := (wr.setCell ⟨go9, (x4_1 : Int).toNat, none⟩ (.int .i64 (rd l0 x4_1)))) ?hg ?ho ?hn ?hr ?_; (case ho => rfl); (case hg => rfl); (case hn => rfl); (case hr => first | (go_simp; done) | (go_simp; rfl)); intro w11 hw; have hg : wr.grownBy w11 (some go9) := (by rw [hw]; exact HP10.2); have hp_ : Kd.R (Kd.int .i64) 3 w11 w.heap.size (fun _ => True) (.slice (some ⟨go9, 0, none⟩) x3_1.length co9) y313 := (by rw [hw, Ny313.out]; exact HP10.1); clear HP10; replace HO_3 := Aside0.mk (hp_); replace HB := Aside0.mk ((by rw [hw]; exact below_set (HB.out) GB9.out : Below w.heap.size w w11)); clear hg hw hp_))
   go_roundg k1
   case measure => have := HK1.out; omega
   case rel => exact ⟨(y313), (wrap64 (x4_1 + 1)), SD, H', ⟨by have := HK1.out; omega⟩, ⟨RQ HO_3.out⟩, ⟨BL⟩⟩

/-! ### impl_TaskNew: function 21 -/
def impl_TaskNew.f (a0 : Int) (a1 : Int) (a2 : Int) (a3 : Int) : Option (Int × Int × Int × Int × Int × Int × Int × Int × Int × Bool × Int) := some (a0, a1, a2, a3, 0, 0, 0, 0, 0, false, 0)
set_option maxHeartbeats 8000000 in
set_option maxRecDepth 100000 in
theorem impl_TaskNew.calls (a0 : Int) (a1 : Int) (a2 : Int) (a3 : Int) (r1 : Int) (r2 : Int) (r3 : Int) (r4 : Int) (r5 : Int) (r6 : Int) (r7 : Int) (r8 : Int) (r9 : Int) (r10 : Bool) (r11 : Int) (w : World) (h : impl_TaskNew.f a0 a1 a2 a3 = some (r1, r2, r3, r4, r5, r6, r7, r8, r9, r10, r11)) :
  Calls Try.prog 21 #[.int .i64 a0, .int .i64 a1, .int .i64 a2, .int .i64 a3] w fun e w' => e = .returned (.agg #[.int .i64 r1, .int .i64 r2, .int .i64 r3, .int .i64 r4, .int .i64 r5, .int .i64 r6, .int .i64 r7, .int .i64 r8, .int .i64 r9, .bool r10, .int .i64 r11]) ∧ Below w.heap.size w w' := by
 have hu30 := Try.underlying30
 have HB := Aside0.mk (Below.refl w.heap.size w)
 have H : (some (a0, a1, a2, a3, 0, 0, 0, 0, 0, false, 0)) = some (r1, r2, r3, r4, r5, r6, r7, r8, r9, r10, r11) := h
 clear h
 simp only [Option.some.injEq, Prod.mk.injEq] at H
 obtain ⟨rfl, rfl, rfl, rfl, rfl, rfl, rfl, rfl, rfl, rfl, rfl⟩ := H
 go_enter Try.func21, Try.ntmps21
 go_wp2_with (first | ((with_reducible refine gate_dst (N := 8) rfl ?_); refine bE 8 #[.int .i64 0, .int .i64 0, .int .i64 0, .int .i64 0, .int .i64 0, .int .i64 0, .int .i64 0, .int .i64 0, .int .i64 0, .bool false, .int .i64 0] 30 ?_; intro gb314 hg w5 hbox hb; have BK314 := Aside0.mk (hbox); have GW314 : Aside0 (w.heap.size ≤ gb314) := GS; have GE314 := GW314; replace HB := Aside0.mk (below_step (BL) hb); clear hb hbox hg; obtain ⟨hcz6_0, hcz6_1, hcz6_2, hcz6_3, hcz6_4, hcz6_5, hcz6_6, hcz6_7, hcz6_8, hcz6_9, hcz6_10, hfz6_0, hfz6_1, hfz6_2, hfz6_3, hfz6_4, hfz6_5, hfz6_6, hfz6_7, hfz6_8, hfz6_9, hfz6_10⟩ := KC11 BK314.out))
 refine bodyPost_ret (results_cell_row rfl _ _ gb314 30 #[.int .i64 a0, .int .i64 a1, .int .i64 a2, .int .i64 a3, .int .i64 0, .int .i64 0, .int .i64 0, .int .i64 0, .int .i64 0, .bool false, .int .i64 0] (0, 0) _ rfl (BU BK314.out) Try.underlying30 rfl (by kernel_rfl)) rfl ?_
 exact ⟨EE, BL⟩

-- NOT PRINTED: function 101 (impl_Task_101)

/-! ### impl_Task_86: function 86 -/
section
open Go.Proofs.Ytfkhncoiifojnaa.Row
theorem rd30_nat (l : List S30) (j : Nat) (h : j < l.length) : rd_T30 l (j : Int) = l[j] := by
  unfold rd_T30
  rw [Int.toNat_natCast, List.getD_eq_getElem?_getD, List.getElem?_eq_getElem h]; rfl
theorem drop_rd30 (l : List S30) (i : Nat) (h : i < l.length) : l.drop i = rd_T30 l (i : Int) :: l.drop (i + 1) := by
  rw [List.drop_eq_getElem_cons h, rd30_nat l i h]
def sameNode (s : Int) (x : S30) : Bool := x.f3 == s
set_option maxHeartbeats 2000000 in
theorem same_test (x : S30) (s : Int) (B : Nat) (w : World) (hB : B < w.heap.size) (hc : w.cell? ⟨B, 3, none⟩ = some (.int .i64 s)) :
    Calls Try.prog 87 #[.agg #[.int .i64 x.f0, .int .i64 x.f1, .int .i64 x.f2, .int .i64 x.f3, .int .i64 x.f4, .int .i64 x.f5, .int .i64 x.f6, .int .i64 x.f7, .int .i64 x.f8, .bool x.f9, .int .i64 x.f10], .pointer (some ⟨B, 0, none⟩)] w fun e w' => e = .returned (.bool (sameNode s x)) ∧ Below w.heap.size w w' := by
  have hu30 := Try.underlying30
  go_enter Try.func87, Try.ntmps87
  go_wp2
  go_ret
  exact ⟨rfl, below_alloc (Below.refl _ _) _⟩
def ixN (s : Int) : List S30 → Int → Int
  | [], _ => -1
  | x :: r, i => if sameNode s x then i else ixN s r (i + 1)
theorem ixN_any (s : Int) : ∀ (l : List S30) (i : Int), 0 ≤ i → decide (ixN s l i ≥ 0) = l.any (sameNode s)
  | [], _, _ => rfl
  | x :: r, i, h => by
    rw [ixN, List.any_cons]
    cases hx : sameNode s x with
    | true => rw [if_pos rfl]; simpa using h
    | false => rw [if_neg (by decide), Bool.false_or]; exact ixN_any s r (i + 1) (by omega)
set_option maxHeartbeats 4000000 in
theorem same_index (l : List S30) (A : Option Addr) (c : Nat) (s : Int) (B : Nat) (w : World) (hl : Kd.C k30 w A l.length l) (hB : B < w.heap.size) (hc : w.cell? ⟨B, 3, none⟩ = some (.int .i64 s)) :
    Calls Try.prog 101 #[.slice A l.length c, .func (.func 87) #[] #[.pointer (some ⟨B, 0, none⟩)]] w fun e w' => e = .returned (.int .i64 (ixN s l 0)) ∧ Below w.heap.size w w' := by
  have hu30 := Try.underlying30
  have hmax := Kd.C_max hl
  have HL := Aside0.mk hl
  have HCB := Aside0.mk hc
  clear hl hc
  go_enter Try.func101, Try.ntmps101
  go_wp2
  go_loopg [5, 8] l.length (fun gg _ s8 wr => ∃ kk : Nat, kk ≤ l.length ∧ l.length - kk ≤ gg ∧ s8 = .int .i64 kk ∧ Aside0 (Below w.heap.size w wr) ∧ Aside0 (ixN s (l.drop kk) kk = ixN s l 0))
  case atStart => exact ⟨0, Nat.zero_le _, by omega, rfl, ⟨Below.refl _ w⟩, ⟨rfl⟩⟩
  case round =>
    obtain ⟨kk, hkk, hg, rfl, BW, IX⟩ := hrel
    by_cases hlt : kk < l.length
    · have hltz : (kk : Int) < (l.length : Int) := by omega
      obtain ⟨ad, e1, x0, x1, x2, x3, x4, x5, x6, x7, x8, x9, x10⟩ := at_T30 HL.out (kk : Int) (by omega) hltz
      cases e1
      simp only [Int.toNat_natCast] at x0 x1 x2 x3 x4 x5 x6 x7 x8 x9 x10
      replace x0 := (BW.out.cell (World.block_lt_of_cell? w _ x0)).trans x0
      replace x1 := (BW.out.cell (World.block_lt_of_cell? w _ x1)).trans x1
      replace x2 := (BW.out.cell (World.block_lt_of_cell? w _ x2)).trans x2
      replace x3 := (BW.out.cell (World.block_lt_of_cell? w _ x3)).trans x3
      replace x4 := (BW.out.cell (World.block_lt_of_cell? w _ x4)).trans x4
      replace x5 := (BW.out.cell (World.block_lt_of_cell? w _ x5)).trans x5
      replace x6 := (BW.out.cell (World.block_lt_of_cell? w _ x6)).trans x6
      replace x7 := (BW.out.cell (World.block_lt_of_cell? w _ x7)).trans x7
      replace x8 := (BW.out.cell (World.block_lt_of_cell? w _ x8)).trans x8
      replace x9 := (BW.out.cell (World.block_lt_of_cell? w _ x9)).trans x9
      replace x10 := (BW.out.cell (World.block_lt_of_cell? w _ x10)).trans x10
      have hcB := (BW.out.cell (p := ⟨B, 3, none⟩) hB).trans HCB.out
      have hcall := same_test (rd_T30 l kk) s B wr (Nat.lt_of_lt_of_le hB BW.out.size) hcB
      clear hcB
      have IY := IX.out
      rw [drop_rd30 l kk hlt, ixN] at IY
      cases hq : sameNode s (rd_T30 l (kk : Int)) with
      | true =>
        rw [hq, if_pos rfl] at IY
        rw [hq] at hcall
        have HIY := Aside0.mk IY
        clear IY hq IX
        go_wp2_with (go_at_call 87; refine hcall.mono ?_; rintro e w' ⟨rfl, hb'⟩)
        go_ret
        exact ⟨by rw [HIY.out]; rfl, below_then BW.out BW.out.size hb'⟩
      | false =>
        rw [hq, if_neg (by simp)] at IY
        rw [hq] at hcall
        have HIY := Aside0.mk IY
        clear IY hq IX
        go_wp2_with (go_at_call 87; refine hcall.mono ?_; rintro e w' ⟨rfl, hb'⟩)
        go_roundg (l.length - (kk + 1))
        case measure => omega
        case rel => exact ⟨kk + 1, by omega, by omega, by go_num, ⟨below_then BW.out BW.out.size hb'⟩, HIY⟩
    · have hltz : ¬ (kk : Int) < (l.length : Int) := by omega
      have : kk = l.length := by omega
      subst this
      have IY := IX.out
      rw [List.drop_length, ixN] at IY
      have HIY := Aside0.mk IY
      clear IY IX
      go_wp2
      go_ret
      exact ⟨by rw [← HIY.out]; rfl, BW.out⟩
set_option maxHeartbeats 2000000 in
theorem same_contains (l : List S30) (A : Option Addr) (c : Nat) (s : Int) (B : Nat) (w : World) (hl : Kd.C k30 w A l.length l) (hB : B < w.heap.size) (hc : w.cell? ⟨B, 3, none⟩ = some (.int .i64 s)) :
    Calls Try.prog 86 #[.slice A l.length c, .func (.func 87) #[] #[.pointer (some ⟨B, 0, none⟩)]] w fun e w' => e = .returned (.bool (l.any (sameNode s))) ∧ Below w.heap.size w w' := by
  have hx := same_index l A c s B w hl hB hc
  have hany := Aside0.mk (ixN_any s l 0 (by omega))
  clear hl hc
  generalize ixN s l 0 = ix at hx hany
  go_enter Try.func86, Try.ntmps86
  go_wp2_with (go_at_call 101; refine hx.mono ?_; rintro e w' ⟨rfl, hb'⟩)
  go_ret
  exact ⟨by rw [← hany.out]; rfl, hb'⟩
end
def impl_Task_86.f (l : List S30) (i : Int) : Option Bool := some ((l.take i.toNat).any (sameNode (rd_T30 l i).f3))
theorem impl_Task_86.calls (A : Option Addr) (c : Nat) (l : List S30) (i : Int) (r : Bool) (B : Nat) (w : World) (hl : Kd.C k30 w A l.length l) (h0 : 0 ≤ i) (h1 : i < (l.length : Int)) (hB : B < w.heap.size) (hc : w.cell? ⟨B, 3, none⟩ = some (.int .i64 (rd_T30 l i).f3)) (h : impl_Task_86.f l i = some r) :
    Calls Try.prog 86 #[.slice A i.toNat c, .func (.func 87) #[] #[.pointer (some ⟨B, 0, none⟩)]] w fun e w' => e = .returned (.bool r) ∧ Below w.heap.size w w' := by
  obtain rfl := Option.some.inj h
  have hn : (l.take i.toNat).length = i.toNat := by rw [List.length_take]; omega
  have hx := same_contains (l.take i.toNat) A c (rd_T30 l i).f3 B w (Kd.C_take hl (by omega)) hB hc
  rw [hn] at hx
  exact hx

/-! ### impl_within: function 89 -/
def impl_within.f (a0 : Int) (a1 : Int) (a2 : Int) : Option (Bool) := if a0 ≥ a1 then (some (decide (a0 ≤ a2))) else (some false)
set_option maxHeartbeats 8000000 in
set_option maxRecDepth 100000 in
theorem impl_within.calls (a0 : Int) (a1 : Int) (a2 : Int) (r : Bool) (w : World) (h : impl_within.f a0 a1 a2 = some r) :
  Calls Try.prog 89 #[.int .i64 a0, .int .i64 a1, .int .i64 a2] w fun e w' => e = .returned (.bool r) ∧ Drawn0 w w' := by
 have H : (if a0 ≥ a1 then (some (decide (a0 ≤ a2))) else (some false)) = some r := h
 clear h
 by_cases c4 : a0 ≥ a1
 ·
  rw [if_pos c4] at H; have c4b0 : decide (a1 ≤ a0) = true := decide_eq_true c4; clear c4; obtain rfl := Option.some.inj H
  go_enter Try.func89, Try.ntmps89
  go_wp2
  go_ret
  exact ⟨by first | rfl | (simp; done) | (simp [*]; done), by repeat (first | exact Drawn0.refl _ | apply Drawn0.step)⟩
 rw [if_neg c4] at H
 have c4b0 : decide (a1 ≤ a0) = false := decide_eq_false c4
 clear c4
 obtain rfl := Option.some.inj H
 go_enter Try.func89, Try.ntmps89
 go_wp2
 go_ret
 exact ⟨by first | rfl | (simp; done) | (simp [*]; done), by repeat (first | exact Drawn0.refl _ | apply Drawn0.step)⟩

/-! ### impl_TaskOk: function 88 -/
def impl_TaskOk.j0 : Nat → Bool → Int → Int → Int → Int → Int → Int → Int → Int → Int → Bool → Int → Option (Bool)
 | 0, _, _, _, _, _, _, _, _, _, _, _, _ => none
 | k + 1, x3, x316000, x316001, x316002, x316003, x316004, x316005, x316006, x316007, x316008, x316009, x316010 => (impl_within.f x316005 0 20).bind fun t320 => (if t320 = true then ((impl_within.f x316006 0 20).bind fun t321 => (if t321 = true then ((impl_within.f x316007 0 20).bind fun t322 => (if x3 = true then ((impl_within.f x316004 0 6).bind fun t323 => (if t323 = true then (if t322 = true then ((impl_within.f x316008 0 1).bind fun t324 => (some t324)) else (some false)) else (some false))) else (some false))) else (if x3 = true then ((impl_within.f x316004 0 6).bind fun t325 => (if t325 = true then (some false) else (some false))) else (some false)))) else (if x3 = true then ((impl_within.f x316004 0 6).bind fun t326 => (if t326 = true then (some false) else (some false))) else (some false)))
def impl_TaskOk.f (k : Nat) (a0_0 : Int) (a0_1 : Int) (a0_2 : Int) (a0_3 : Int) (a0_4 : Int) (a0_5 : Int) (a0_6 : Int) (a0_7 : Int) (a0_8 : Int) (a0_9 : Bool) (a0_10 : Int) : Option (Bool) := (impl_within.f a0_0 1 3).bind fun t316 => (if t316 = true then ((impl_within.f a0_1 1 99).bind fun t317 => (if t317 = true then ((impl_within.f a0_2 0 99).bind fun t318 => (if t318 = true then ((impl_within.f a0_3 1 20).bind fun t319 => (impl_TaskOk.j0 k t319 a0_0 a0_1 a0_2 a0_3 a0_4 a0_5 a0_6 a0_7 a0_8 a0_9 a0_10)) else (impl_TaskOk.j0 k false a0_0 a0_1 a0_2 a0_3 a0_4 a0_5 a0_6 a0_7 a0_8 a0_9 a0_10))) else (impl_TaskOk.j0 k false a0_0 a0_1 a0_2 a0_3 a0_4 a0_5 a0_6 a0_7 a0_8 a0_9 a0_10))) else (impl_TaskOk.j0 k false a0_0 a0_1 a0_2 a0_3 a0_4 a0_5 a0_6 a0_7 a0_8 a0_9 a0_10))
set_option maxHeartbeats 8000000 in
set_option maxRecDepth 100000 in
theorem impl_TaskOk.calls (k : Nat) (a0_0 : Int) (a0_1 : Int) (a0_2 : Int) (a0_3 : Int) (a0_4 : Int) (a0_5 : Int) (a0_6 : Int) (a0_7 : Int) (a0_8 : Int) (a0_9 : Bool) (a0_10 : Int) (r : Bool) (w : World) (h : impl_TaskOk.f k a0_0 a0_1 a0_2 a0_3 a0_4 a0_5 a0_6 a0_7 a0_8 a0_9 a0_10 = some r) :
  Calls Try.prog 88 #[.agg #[.int .i64 a0_0, .int .i64 a0_1, .int .i64 a0_2, .int .i64 a0_3, .int .i64 a0_4, .int .i64 a0_5, .int .i64 a0_6, .int .i64 a0_7, .int .i64 a0_8, .bool a0_9, .int .i64 a0_10]] w fun e w' => e = .returned (.bool r) ∧ Below w.heap.size w w' := by
 have hu30 := Try.underlying30
 have HB := Aside0.mk (Below.refl w.heap.size w)
 have H : ((impl_within.f a0_0 1 3).bind fun t316 => (if t316 = true then ((impl_within.f a0_1 1 99).bind fun t317 => (if t317 = true then ((impl_within.f a0_2 0 99).bind fun t318 => (if t318 = true then ((impl_within.f a0_3 1 20).bind fun t319 => (impl_TaskOk.j0 k t319 a0_0 a0_1 a0_2 a0_3 a0_4 a0_5 a0_6 a0_7 a0_8 a0_9 a0_10)) else (impl_TaskOk.j0 k false a0_0 a0_1 a0_2 a0_3 a0_4 a0_5 a0_6 a0_7 a0_8 a0_9 a0_10))) else (impl_TaskOk.j0 k false a0_0 a0_1 a0_2 a0_3 a0_4 a0_5 a0_6 a0_7 a0_8 a0_9 a0_10))) else (impl_TaskOk.j0 k false a0_0 a0_1 a0_2 a0_3 a0_4 a0_5 a0_6 a0_7 a0_8 a0_9 a0_10))) = some r := h
 clear h
 have HC2 := Aside0.mk H
 clear H
 go_enter Try.func88, Try.ntmps88
 go_upto_region 1 with (first | ((with_reducible refine gate_dst (N := 1) rfl ?_); refine bE 1 #[.int .i64 a0_0, .int .i64 a0_1, .int .i64 a0_2, .int .i64 a0_3, .int .i64 a0_4, .int .i64 a0_5, .int .i64 a0_6, .int .i64 a0_7, .int .i64 a0_8, .bool a0_9, .int .i64 a0_10] 30 ?_; intro gb315 hg w3 hbox hb; have BK315 := Aside0.mk (hbox); have GW315 : Aside0 (w.heap.size ≤ gb315) := GS; have GE315 := GW315; replace HB := Aside0.mk (below_step (BL) hb); clear hb hbox hg))
 (try simp only [Act.put, zA, zB, zC])
 go_cut [3] (fun v3 wc => ∃ (kq : Nat) (x3_1 : Bool), v3 = .bool x3_1 ∧ Aside0 (impl_TaskOk.j0 kq x3_1 a0_0 a0_1 a0_2 a0_3 a0_4 a0_5 a0_6 a0_7 a0_8 a0_9 a0_10 = some r) ∧ Aside0 (kq ≤ k) ∧ Aside0 (wc.heap[gb315]? = some (.cells #[.int .i64 a0_0, .int .i64 a0_1, .int .i64 a0_2, .int .i64 a0_3, .int .i64 a0_4, .int .i64 a0_5, .int .i64 a0_6, .int .i64 a0_7, .int .i64 a0_8, .bool a0_9, .int .i64 a0_10] 30 (0, 0))) ∧ Aside0 (Below w.heap.size w wc))
 case first =>
  have H := HC2.out; clear HC2; replace H := Option.bind_eq_some_iff.mp H; obtain ⟨t316, A40, H⟩ := H; have A4 := Aside0.mk A40; clear A40
  by_cases c5 : t316 = true; rotate_left
  ·
   replace c5 := Bool.eq_false_iff.mpr c5; subst c5
   have H1 : (impl_TaskOk.j0 k false a0_0 a0_1 a0_2 a0_3 a0_4 a0_5 a0_6 a0_7 a0_8 a0_9 a0_10) = some r := by rw [if_neg (show ¬ (false = true) by decide)] at H; exact H
   clear H; have H := H1; clear H1; have H' := Aside0.mk H; clear H; obtain ⟨hcz14_0, hcz14_1, hcz14_2, hcz14_3, hcz14_4, hcz14_5, hcz14_6, hcz14_7, hcz14_8, hcz14_9, hcz14_10, hfz14_0, hfz14_1, hfz14_2, hfz14_3, hfz14_4, hfz14_5, hfz14_6, hfz14_7, hfz14_8, hfz14_9, hfz14_10⟩ := KC11 BK315.out
   go_wp2_with (first | ((with_reducible refine gate_callee (f := 89) rfl ?_); refine goesL_ (some 7) rfl rfl Try.func89 (by kernel_rfl) rfl #[.int .i64 a0_0, .int .i64 1, .int .i64 3] rfl (MA) ?_; (with_reducible refine (impl_within.calls a0_0 1 3 false _ A4.out).mono ?_); rintro e w' ⟨rfl, ⟨nd, rfl⟩⟩; refine ⟨_, rfl, ?_⟩))
   go_meet
   case rel => exact ⟨_, (false), SD, H', ⟨by first | omega | exact Nat.le_refl _⟩, ⟨BQ BK315.out⟩, ⟨BL⟩⟩
  subst c5
  have H1 : ((impl_within.f a0_1 1 99).bind fun t317 => (if t317 = true then ((impl_within.f a0_2 0 99).bind fun t318 => (if t318 = true then ((impl_within.f a0_3 1 20).bind fun t319 => (impl_TaskOk.j0 k t319 a0_0 a0_1 a0_2 a0_3 a0_4 a0_5 a0_6 a0_7 a0_8 a0_9 a0_10)) else (impl_TaskOk.j0 k false a0_0 a0_1 a0_2 a0_3 a0_4 a0_5 a0_6 a0_7 a0_8 a0_9 a0_10))) else (impl_TaskOk.j0 k false a0_0 a0_1 a0_2 a0_3 a0_4 a0_5 a0_6 a0_7 a0_8 a0_9 a0_10))) = some r := by rw [if_pos rfl] at H; exact H
  clear H; have H := H1; clear H1; replace H := Option.bind_eq_some_iff.mp H; obtain ⟨t317, A60, H⟩ := H; have A6 := Aside0.mk A60; clear A60
  by_cases c7 : t317 = true; rotate_left
  ·
   replace c7 := Bool.eq_false_iff.mpr c7; subst c7
   have H1 : (impl_TaskOk.j0 k false a0_0 a0_1 a0_2 a0_3 a0_4 a0_5 a0_6 a0_7 a0_8 a0_9 a0_10) = some r := by rw [if_neg (show ¬ (false = true) by decide)] at H; exact H
   clear H; have H := H1; clear H1; have H' := Aside0.mk H; clear H; obtain ⟨hcz13_0, hcz13_1, hcz13_2, hcz13_3, hcz13_4, hcz13_5, hcz13_6, hcz13_7, hcz13_8, hcz13_9, hcz13_10, hfz13_0, hfz13_1, hfz13_2, hfz13_3, hfz13_4, hfz13_5, hfz13_6, hfz13_7, hfz13_8, hfz13_9, hfz13_10⟩ := KC11 BK315.out
   go_wp2_with (first | ((with_reducible refine gate_callee (f := 89) rfl ?_); refine goesL_ (some 7) rfl rfl Try.func89 (by kernel_rfl) rfl #[.int .i64 a0_0, .int .i64 1, .int .i64 3] rfl (MA) ?_; (with_reducible refine (impl_within.calls a0_0 1 3 true _ A4.out).mono ?_); rintro e w' ⟨rfl, ⟨nd, rfl⟩⟩; refine ⟨_, rfl, ?_⟩) | (go_at_call 89; (with_reducible refine (impl_within.calls a0_1 1 99 false _ A6.out).mono ?_); rintro e w' ⟨rfl, ⟨nd, rfl⟩⟩))
   go_meet
   case rel => exact ⟨_, (false), SD, H', ⟨by first | omega | exact Nat.le_refl _⟩, ⟨BQ BK315.out⟩, ⟨BL⟩⟩
  subst c7
  have H1 : ((impl_within.f a0_2 0 99).bind fun t318 => (if t318 = true then ((impl_within.f a0_3 1 20).bind fun t319 => (impl_TaskOk.j0 k t319 a0_0 a0_1 a0_2 a0_3 a0_4 a0_5 a0_6 a0_7 a0_8 a0_9 a0_10)) else (impl_TaskOk.j0 k false a0_0 a0_1 a0_2 a0_3 a0_4 a0_5 a0_6 a0_7 a0_8 a0_9 a0_10))) = some r := by rw [if_pos rfl] at H; exact H
  clear H; have H := H1; clear H1; replace H := Option.bind_eq_some_iff.mp H; obtain ⟨t318, A80, H⟩ := H; have A8 := Aside0.mk A80; clear A80
  by_cases c9 : t318 = true; rotate_left
  ·
   replace c9 := Bool.eq_false_iff.mpr c9; subst c9
   have H1 : (impl_TaskOk.j0 k false a0_0 a0_1 a0_2 a0_3 a0_4 a0_5 a0_6 a0_7 a0_8 a0_9 a0_10) = some r := by rw [if_neg (show ¬ (false = true) by decide)] at H; exact H
   clear H; have H := H1; clear H1; have H' := Aside0.mk H; clear H; obtain ⟨hcz12_0, hcz12_1, hcz12_2, hcz12_3, hcz12_4, hcz12_5, hcz12_6, hcz12_7, hcz12_8, hcz12_9, hcz12_10, hfz12_0, hfz12_1, hfz12_2, hfz12_3, hfz12_4, hfz12_5, hfz12_6, hfz12_7, hfz12_8, hfz12_9, hfz12_10⟩ := KC11 BK315.out
   go_wp2_with (first | ((with_reducible refine gate_callee (f := 89) rfl ?_); refine goesL_ (some 7) rfl rfl Try.func89 (by kernel_rfl) rfl #[.int .i64 a0_0, .int .i64 1, .int .i64 3] rfl (MA) ?_; (with_reducible refine (impl_within.calls a0_0 1 3 true _ A4.out).mono ?_); rintro e w' ⟨rfl, ⟨nd, rfl⟩⟩; refine ⟨_, rfl, ?_⟩) | (go_at_call 89; (with_reducible refine (impl_within.calls a0_1 1 99 true _ A6.out).mono ?_); rintro e w' ⟨rfl, ⟨nd, rfl⟩⟩) | (go_at_call 89; (with_reducible refine (impl_within.calls a0_2 0 99 false _ A8.out).mono ?_); rintro e w' ⟨rfl, ⟨nd, rfl⟩⟩))
   go_meet
   case rel => exact ⟨_, (false), SD, H', ⟨by first | omega | exact Nat.le_refl _⟩, ⟨BQ BK315.out⟩, ⟨BL⟩⟩
  subst c9
  have H1 : ((impl_within.f a0_3 1 20).bind fun t319 => (impl_TaskOk.j0 k t319 a0_0 a0_1 a0_2 a0_3 a0_4 a0_5 a0_6 a0_7 a0_8 a0_9 a0_10)) = some r := by rw [if_pos rfl] at H; exact H
  clear H; have H := H1; clear H1; replace H := Option.bind_eq_some_iff.mp H; obtain ⟨t319, A100, H⟩ := H; have A10 := Aside0.mk A100; clear A100; have H' := Aside0.mk H; clear H; obtain ⟨hcz11_0, hcz11_1, hcz11_2, hcz11_3, hcz11_4, hcz11_5, hcz11_6, hcz11_7, hcz11_8, hcz11_9, hcz11_10, hfz11_0, hfz11_1, hfz11_2, hfz11_3, hfz11_4, hfz11_5, hfz11_6, hfz11_7, hfz11_8, hfz11_9, hfz11_10⟩ := KC11 BK315.out
  go_wp2_with (first | ((with_reducible refine gate_callee (f := 89) rfl ?_); refine goesL_ (some 7) rfl rfl Try.func89 (by kernel_rfl) rfl #[.int .i64 a0_0, .int .i64 1, .int .i64 3] rfl (MA) ?_; (with_reducible refine (impl_within.calls a0_0 1 3 true _ A4.out).mono ?_); rintro e w' ⟨rfl, ⟨nd, rfl⟩⟩; refine ⟨_, rfl, ?_⟩) | (go_at_call 89; (with_reducible refine (impl_within.calls a0_1 1 99 true _ A6.out).mono ?_); rintro e w' ⟨rfl, ⟨nd, rfl⟩⟩) | (go_at_call 89; (with_reducible refine (impl_within.calls a0_2 0 99 true _ A8.out).mono ?_); rintro e w' ⟨rfl, ⟨nd, rfl⟩⟩) | (go_at_call 89; (with_reducible refine (impl_within.calls a0_3 1 20 t319 _ A10.out).mono ?_); rintro e w' ⟨rfl, ⟨nd, rfl⟩⟩))
  go_meet
  case rel => exact ⟨_, (t319), SD, H', ⟨by first | omega | exact Nat.le_refl _⟩, ⟨BQ BK315.out⟩, ⟨BL⟩⟩
 case rest =>
  clear HC2
  try clear p2 c5 c7 c8 c9 hcz11_0 hcz11_1 hcz11_10 hcz11_2 hcz11_3 hcz11_4 hcz11_5 hcz11_6 hcz11_7 hcz11_8 hcz11_9 hcz12_0 hcz12_1 hcz12_10 hcz12_2 hcz12_3 hcz12_4 hcz12_5 hcz12_6 hcz12_7 hcz12_8 hcz12_9 hcz13_0 hcz13_1 hcz13_10 hcz13_2 hcz13_3 hcz13_4 hcz13_5 hcz13_6 hcz13_7 hcz13_8 hcz13_9 hcz14_0 hcz14_1 hcz14_10 hcz14_2 hcz14_3 hcz14_4 hcz14_5 hcz14_6 hcz14_7 hcz14_8 hcz14_9 hfz11_0 hfz11_1 hfz11_10 hfz11_2 hfz11_3 hfz11_4 hfz11_5 hfz11_6 hfz11_7 hfz11_8 hfz11_9 hfz12_0 hfz12_1 hfz12_10 hfz12_2 hfz12_3 hfz12_4 hfz12_5 hfz12_6 hfz12_7 hfz12_8 hfz12_9 hfz13_0 hfz13_1 hfz13_10 hfz13_2 hfz13_3 hfz13_4 hfz13_5 hfz13_6 hfz13_7 hfz13_8 hfz13_9 hfz14_0 hfz14_1 hfz14_10 hfz14_2 hfz14_3 hfz14_4 hfz14_5 hfz14_6 hfz14_7 hfz14_8 hfz14_9
  obtain ⟨kq, x3_1, rfl, HA, HJ1, BK315, HB⟩ := hcut; cases kq with
  | zero => exact absurd HA.out (by simp [impl_TaskOk.j0])
  | succ kj1 =>
   have H := HA.out; clear HA; simp only [impl_TaskOk.j0] at H; replace H := Option.bind_eq_some_iff.mp H; obtain ⟨t320, A150, H⟩ := H; have A15 := Aside0.mk A150; clear A150
   by_cases c16 : t320 = true; rotate_left
   ·
    replace c16 := Bool.eq_false_iff.mpr c16; subst c16
    have H1 : (if x3_1 = true then ((impl_within.f a0_4 0 6).bind fun t326 => (if t326 = true then (some false) else (some false))) else (some false)) = some r := by rw [if_neg (show ¬ (false = true) by decide)] at H; exact H
    clear H; have H := H1; clear H1
    by_cases c35 : x3_1 = true; rotate_left
    ·
     replace c35 := Bool.eq_false_iff.mpr c35; subst c35
     have H1 : (some false) = some r := by rw [if_neg (show ¬ (false = true) by decide)] at H; exact H
     clear H; have H := H1; clear H1; obtain rfl := Option.some.inj H; obtain ⟨hcz40_0, hcz40_1, hcz40_2, hcz40_3, hcz40_4, hcz40_5, hcz40_6, hcz40_7, hcz40_8, hcz40_9, hcz40_10, hfz40_0, hfz40_1, hfz40_2, hfz40_3, hfz40_4, hfz40_5, hfz40_6, hfz40_7, hfz40_8, hfz40_9, hfz40_10⟩ := KC11 BK315.out
     go_wp2_with (first | ((with_reducible refine gate_callee (f := 89) rfl ?_); refine goesL_ (some 25) rfl rfl Try.func89 (by kernel_rfl) rfl #[.int .i64 a0_5, .int .i64 0, .int .i64 20] rfl (MA) ?_; (with_reducible refine (impl_within.calls a0_5 0 20 false _ A15.out).mono ?_); rintro e w' ⟨rfl, ⟨nd, rfl⟩⟩; refine ⟨_, rfl, ?_⟩))
     go_ret
     exact ⟨EE, BL⟩
    subst c35
    have H1 : ((impl_within.f a0_4 0 6).bind fun t326 => (if t326 = true then (some false) else (some false))) = some r := by rw [if_pos rfl] at H; exact H
    clear H; have H := H1; clear H1; replace H := Option.bind_eq_some_iff.mp H; obtain ⟨t326, A360, H⟩ := H; have A36 := Aside0.mk A360; clear A360
    by_cases c37 : t326 = true
    ·
     subst c37
     have H1 : (some false) = some r := by rw [if_pos rfl] at H; exact H
     clear H; have H := H1; clear H1; obtain rfl := Option.some.inj H; obtain ⟨hcz38_0, hcz38_1, hcz38_2, hcz38_3, hcz38_4, hcz38_5, hcz38_6, hcz38_7, hcz38_8, hcz38_9, hcz38_10, hfz38_0, hfz38_1, hfz38_2, hfz38_3, hfz38_4, hfz38_5, hfz38_6, hfz38_7, hfz38_8, hfz38_9, hfz38_10⟩ := KC11 BK315.out
     go_wp2_with (first | ((with_reducible refine gate_callee (f := 89) rfl ?_); refine goesL_ (some 25) rfl rfl Try.func89 (by kernel_rfl) rfl #[.int .i64 a0_5, .int .i64 0, .int .i64 20] rfl (MA) ?_; (with_reducible refine (impl_within.calls a0_5 0 20 false _ A15.out).mono ?_); rintro e w' ⟨rfl, ⟨nd, rfl⟩⟩; refine ⟨_, rfl, ?_⟩) | (go_at_call 89; (with_reducible refine (impl_within.calls a0_4 0 6 true _ A36.out).mono ?_); rintro e w' ⟨rfl, ⟨nd, rfl⟩⟩))
     go_ret
     exact ⟨EE, BL⟩
    replace c37 := Bool.eq_false_iff.mpr c37; subst c37
    have H1 : (some false) = some r := by rw [if_neg (show ¬ (false = true) by decide)] at H; exact H
    clear H; have H := H1; clear H1; obtain rfl := Option.some.inj H; obtain ⟨hcz39_0, hcz39_1, hcz39_2, hcz39_3, hcz39_4, hcz39_5, hcz39_6, hcz39_7, hcz39_8, hcz39_9, hcz39_10, hfz39_0, hfz39_1, hfz39_2, hfz39_3, hfz39_4, hfz39_5, hfz39_6, hfz39_7, hfz39_8, hfz39_9, hfz39_10⟩ := KC11 BK315.out
    go_wp2_with (first | ((with_reducible refine gate_callee (f := 89) rfl ?_); refine goesL_ (some 25) rfl rfl Try.func89 (by kernel_rfl) rfl #[.int .i64 a0_5, .int .i64 0, .int .i64 20] rfl (MA) ?_; (with_reducible refine (impl_within.calls a0_5 0 20 false _ A15.out).mono ?_); rintro e w' ⟨rfl, ⟨nd, rfl⟩⟩; refine ⟨_, rfl, ?_⟩) | (go_at_call 89; (with_reducible refine (impl_within.calls a0_4 0 6 false _ A36.out).mono ?_); rintro e w' ⟨rfl, ⟨nd, rfl⟩⟩))
    go_ret
    exact ⟨EE, BL⟩
   subst c16
   have H1 : ((impl_within.f a0_6 0 20).bind fun t321 => (if t321 = true then ((impl_within.f a0_7 0 20).bind fun t322 => (if x3_1 = true then ((impl_within.f a0_4 0 6).bind fun t323 => (if t323 = true then (if t322 = true then ((impl_within.f a0_8 0 1).bind fun t324 => (some t324)) else (some false)) else (some false))) else (some false))) else (if x3_1 = true then ((impl_within.f a0_4 0 6).bind fun t325 => (if t325 = true then (some false) else (some false))) else (some false)))) = some r := by rw [if_pos rfl] at H; exact H
   clear H; have H := H1; clear H1; replace H := Option.bind_eq_some_iff.mp H; obtain ⟨t321, A170, H⟩ := H; have A17 := Aside0.mk A170; clear A170
   by_cases c18 : t321 = true; rotate_left
   ·
    replace c18 := Bool.eq_false_iff.mpr c18; subst c18
    have H1 : (if x3_1 = true then ((impl_within.f a0_4 0 6).bind fun t325 => (if t325 = true then (some false) else (some false))) else (some false)) = some r := by rw [if_neg (show ¬ (false = true) by decide)] at H; exact H
    clear H; have H := H1; clear H1
    by_cases c29 : x3_1 = true; rotate_left
    ·
     replace c29 := Bool.eq_false_iff.mpr c29; subst c29
     have H1 : (some false) = some r := by rw [if_neg (show ¬ (false = true) by decide)] at H; exact H
     clear H; have H := H1; clear H1; obtain rfl := Option.some.inj H; obtain ⟨hcz34_0, hcz34_1, hcz34_2, hcz34_3, hcz34_4, hcz34_5, hcz34_6, hcz34_7, hcz34_8, hcz34_9, hcz34_10, hfz34_0, hfz34_1, hfz34_2, hfz34_3, hfz34_4, hfz34_5, hfz34_6, hfz34_7, hfz34_8, hfz34_9, hfz34_10⟩ := KC11 BK315.out
     go_wp2_with (first | ((with_reducible refine gate_callee (f := 89) rfl ?_); refine goesL_ (some 25) rfl rfl Try.func89 (by kernel_rfl) rfl #[.int .i64 a0_5, .int .i64 0, .int .i64 20] rfl (MA) ?_; (with_reducible refine (impl_within.calls a0_5 0 20 true _ A15.out).mono ?_); rintro e w' ⟨rfl, ⟨nd, rfl⟩⟩; refine ⟨_, rfl, ?_⟩) | (go_at_call 89; (with_reducible refine (impl_within.calls a0_6 0 20 false _ A17.out).mono ?_); rintro e w' ⟨rfl, ⟨nd, rfl⟩⟩))
     go_ret
     exact ⟨EE, BL⟩
    subst c29
    have H1 : ((impl_within.f a0_4 0 6).bind fun t325 => (if t325 = true then (some false) else (some false))) = some r := by rw [if_pos rfl] at H; exact H
    clear H; have H := H1; clear H1; replace H := Option.bind_eq_some_iff.mp H; obtain ⟨t325, A300, H⟩ := H; have A30 := Aside0.mk A300; clear A300
    by_cases c31 : t325 = true
    ·
     subst c31
     have H1 : (some false) = some r := by rw [if_pos rfl] at H; exact H
     clear H; have H := H1; clear H1; obtain rfl := Option.some.inj H; obtain ⟨hcz32_0, hcz32_1, hcz32_2, hcz32_3, hcz32_4, hcz32_5, hcz32_6, hcz32_7, hcz32_8, hcz32_9, hcz32_10, hfz32_0, hfz32_1, hfz32_2, hfz32_3, hfz32_4, hfz32_5, hfz32_6, hfz32_7, hfz32_8, hfz32_9, hfz32_10⟩ := KC11 BK315.out
     go_wp2_with (first | ((with_reducible refine gate_callee (f := 89) rfl ?_); refine goesL_ (some 25) rfl rfl Try.func89 (by kernel_rfl) rfl #[.int .i64 a0_5, .int .i64 0, .int .i64 20] rfl (MA) ?_; (with_reducible refine (impl_within.calls a0_5 0 20 true _ A15.out).mono ?_); rintro e w' ⟨rfl, ⟨nd, rfl⟩⟩; refine ⟨_, rfl, ?_⟩) | (go_at_call 89; (with_reducible refine (impl_within.calls a0_6 0 20 false _ A17.out).mono ?_); rintro e w' ⟨rfl, ⟨nd, rfl⟩⟩) | (go_at_call 89; (with_reducible refine (impl_within.calls a0_4 0 6 true _ A30.out).mono ?_); rintro e w' ⟨rfl, ⟨nd, rfl⟩⟩))
     go_ret
     exact ⟨EE, BL⟩
    replace c31 := Bool.eq_false_iff.mpr c31; subst c31
    have H1 : (some false) = some r := by rw [if_neg (show ¬ (false = true) by decide)] at H; exact H
    clear H; have H := H1; clear H1; obtain rfl := Option.some.inj H; obtain ⟨hcz33_0, hcz33_1, hcz33_2, hcz33_3, hcz33_4, hcz33_5, hcz33_6, hcz33_7, hcz33_8, hcz33_9, hcz33_10, hfz33_0, hfz33_1, hfz33_2, hfz33_3, hfz33_4, hfz33_5, hfz33_6, hfz33_7, hfz33_8, hfz33_9, hfz33_10⟩ := KC11 BK315.out
    go_wp2_with (first | ((with_reducible refine gate_callee (f := 89) rfl ?_); refine goesL_ (some 25) rfl rfl Try.func89 (by kernel_rfl) rfl #[.int .i64 a0_5, .int .i64 0, .int .i64 20] rfl (MA) ?_; (with_reducible refine (impl_within.calls a0_5 0 20 true _ A15.out).mono ?_); rintro e w' ⟨rfl, ⟨nd, rfl⟩⟩; refine ⟨_, rfl, ?_⟩) | (go_at_call 89; (with_reducible refine (impl_within.calls a0_6 0 20 false _ A17.out).mono ?_); rintro e w' ⟨rfl, ⟨nd, rfl⟩⟩) | (go_at_call 89; (with_reducible refine (impl_within.calls a0_4 0 6 false _ A30.out).mono ?_); rintro e w' ⟨rfl, ⟨nd, rfl⟩⟩))
    go_ret
    exact ⟨EE, BL⟩
   subst c18
   have H1 : ((impl_within.f a0_7 0 20).bind fun t322 => (if x3_1 = true then ((impl_within.f a0_4 0 6).bind fun t323 => (if t323 = true then (if t322 = true then ((impl_within.f a0_8 0 1).bind fun t324 => (some t324)) else (some false)) else (some false))) else (some false))) = some r := by rw [if_pos rfl] at H; exact H
   clear H; have H := H1; clear H1; replace H := Option.bind_eq_some_iff.mp H; obtain ⟨t322, A190, H⟩ := H; have A19 := Aside0.mk A190; clear A190
   by_cases c20 : x3_1 = true; rotate_left
   ·
    replace c20 := Bool.eq_false_iff.mpr c20; subst c20
    have H1 : (some false) = some r := by rw [if_neg (show ¬ (false = true) by decide)] at H; exact H
    clear H; have H := H1; clear H1; obtain rfl := Option.some.inj H; obtain ⟨hcz28_0, hcz28_1, hcz28_2, hcz28_3, hcz28_4, hcz28_5, hcz28_6, hcz28_7, hcz28_8, hcz28_9, hcz28_10, hfz28_0, hfz28_1, hfz28_2, hfz28_3, hfz28_4, hfz28_5, hfz28_6, hfz28_7, hfz28_8, hfz28_9, hfz28_10⟩ := KC11 BK315.out
    go_wp2_with (first | ((with_reducible refine gate_callee (f := 89) rfl ?_); refine goesL_ (some 25) rfl rfl Try.func89 (by kernel_rfl) rfl #[.int .i64 a0_5, .int .i64 0, .int .i64 20] rfl (MA) ?_; (with_reducible refine (impl_within.calls a0_5 0 20 true _ A15.out).mono ?_); rintro e w' ⟨rfl, ⟨nd, rfl⟩⟩; refine ⟨_, rfl, ?_⟩) | (go_at_call 89; (with_reducible refine (impl_within.calls a0_6 0 20 true _ A17.out).mono ?_); rintro e w' ⟨rfl, ⟨nd, rfl⟩⟩) | (go_at_call 89; (with_reducible refine (impl_within.calls a0_7 0 20 t322 _ A19.out).mono ?_); rintro e w' ⟨rfl, ⟨nd, rfl⟩⟩))
    go_ret
    exact ⟨EE, BL⟩
   subst c20
   have H1 : ((impl_within.f a0_4 0 6).bind fun t323 => (if t323 = true then (if t322 = true then ((impl_within.f a0_8 0 1).bind fun t324 => (some t324)) else (some false)) else (some false))) = some r := by rw [if_pos rfl] at H; exact H
   clear H; have H := H1; clear H1; replace H := Option.bind_eq_some_iff.mp H; obtain ⟨t323, A210, H⟩ := H; have A21 := Aside0.mk A210; clear A210
   by_cases c22 : t323 = true; rotate_left
   ·
    replace c22 := Bool.eq_false_iff.mpr c22; subst c22
    have H1 : (some false) = some r := by rw [if_neg (show ¬ (false = true) by decide)] at H; exact H
    clear H; have H := H1; clear H1; obtain rfl := Option.some.inj H; obtain ⟨hcz27_0, hcz27_1, hcz27_2, hcz27_3, hcz27_4, hcz27_5, hcz27_6, hcz27_7, hcz27_8, hcz27_9, hcz27_10, hfz27_0, hfz27_1, hfz27_2, hfz27_3, hfz27_4, hfz27_5, hfz27_6, hfz27_7, hfz27_8, hfz27_9, hfz27_10⟩ := KC11 BK315.out
    go_wp2_with (first | ((with_reducible refine gate_callee (f := 89) rfl ?_); refine goesL_ (some 25) rfl rfl Try.func89 (by kernel_rfl) rfl #[.int .i64 a0_5, .int .i64 0, .int .i64 20] rfl (MA) ?_; (with_reducible refine (impl_within.calls a0_5 0 20 true _ A15.out).mono ?_); rintro e w' ⟨rfl, ⟨nd, rfl⟩⟩; refine ⟨_, rfl, ?_⟩) | (go_at_call 89; (with_reducible refine (impl_within.calls a0_6 0 20 true _ A17.out).mono ?_); rintro e w' ⟨rfl, ⟨nd, rfl⟩⟩) | (go_at_call 89; (with_reducible refine (impl_within.calls a0_7 0 20 t322 _ A19.out).mono ?_); rintro e w' ⟨rfl, ⟨nd, rfl⟩⟩) | (go_at_call 89; (with_reducible refine (impl_within.calls a0_4 0 6 false _ A21.out).mono ?_); rintro e w' ⟨rfl, ⟨nd, rfl⟩⟩))
    go_ret
    exact ⟨EE, BL⟩
   subst c22
   have H1 : (if t322 = true then ((impl_within.f a0_8 0 1).bind fun t324 => (some t324)) else (some false)) = some r := by rw [if_pos rfl] at H; exact H
   clear H; have H := H1; clear H1
   by_cases c23 : t322 = true; rotate_left
   ·
    replace c23 := Bool.eq_false_iff.mpr c23; subst c23
    have H1 : (some false) = some r := by rw [if_neg (show ¬ (false = true) by decide)] at H; exact H
    clear H; have H := H1; clear H1; obtain rfl := Option.some.inj H; obtain ⟨hcz26_0, hcz26_1, hcz26_2, hcz26_3, hcz26_4, hcz26_5, hcz26_6, hcz26_7, hcz26_8, hcz26_9, hcz26_10, hfz26_0, hfz26_1, hfz26_2, hfz26_3, hfz26_4, hfz26_5, hfz26_6, hfz26_7, hfz26_8, hfz26_9, hfz26_10⟩ := KC11 BK315.out
    go_wp2_with (first | ((with_reducible refine gate_callee (f := 89) rfl ?_); refine goesL_ (some 25) rfl rfl Try.func89 (by kernel_rfl) rfl #[.int .i64 a0_5, .int .i64 0, .int .i64 20] rfl (MA) ?_; (with_reducible refine (impl_within.calls a0_5 0 20 true _ A15.out).mono ?_); rintro e w' ⟨rfl, ⟨nd, rfl⟩⟩; refine ⟨_, rfl, ?_⟩) | (go_at_call 89; (with_reducible refine (impl_within.calls a0_6 0 20 true _ A17.out).mono ?_); rintro e w' ⟨rfl, ⟨nd, rfl⟩⟩) | (go_at_call 89; (with_reducible refine (impl_within.calls a0_7 0 20 false _ A19.out).mono ?_); rintro e w' ⟨rfl, ⟨nd, rfl⟩⟩) | (go_at_call 89; (with_reducible refine (impl_within.calls a0_4 0 6 true _ A21.out).mono ?_); rintro e w' ⟨rfl, ⟨nd, rfl⟩⟩))
    go_ret
    exact ⟨EE, BL⟩
   subst c23
   have H1 : ((impl_within.f a0_8 0 1).bind fun t324 => (some t324)) = some r := by rw [if_pos rfl] at H; exact H
   clear H; have H := H1; clear H1; replace H := Option.bind_eq_some_iff.mp H; obtain ⟨t324, A240, H⟩ := H; have A24 := Aside0.mk A240; clear A240; obtain rfl := Option.some.inj H; obtain ⟨hcz25_0, hcz25_1, hcz25_2, hcz25_3, hcz25_4, hcz25_5, hcz25_6, hcz25_7, hcz25_8, hcz25_9, hcz25_10, hfz25_0, hfz25_1, hfz25_2, hfz25_3, hfz25_4, hfz25_5, hfz25_6, hfz25_7, hfz25_8, hfz25_9, hfz25_10⟩ := KC11 BK315.out
   go_wp2_with (first | ((with_reducible refine gate_callee (f := 89) rfl ?_); refine goesL_ (some 25) rfl rfl Try.func89 (by kernel_rfl) rfl #[.int .i64 a0_5, .int .i64 0, .int .i64 20] rfl (MA) ?_; (with_reducible refine (impl_within.calls a0_5 0 20 true _ A15.out).mono ?_); rintro e w' ⟨rfl, ⟨nd, rfl⟩⟩; refine ⟨_, rfl, ?_⟩) | (go_at_call 89; (with_reducible refine (impl_within.calls a0_6 0 20 true _ A17.out).mono ?_); rintro e w' ⟨rfl, ⟨nd, rfl⟩⟩) | (go_at_call 89; (with_reducible refine (impl_within.calls a0_7 0 20 true _ A19.out).mono ?_); rintro e w' ⟨rfl, ⟨nd, rfl⟩⟩) | (go_at_call 89; (with_reducible refine (impl_within.calls a0_4 0 6 true _ A21.out).mono ?_); rintro e w' ⟨rfl, ⟨nd, rfl⟩⟩) | (go_at_call 89; (with_reducible refine (impl_within.calls a0_8 0 1 t324 _ A24.out).mono ?_); rintro e w' ⟨rfl, ⟨nd, rfl⟩⟩))
   go_ret
   exact ⟨EE, BL⟩

/-! ### impl_tasksOk: function 69 -/
def impl_tasksOk.l0 : Nat → List (S30) → List (S30) → Int → Int → Option (Bool)
 | 0, _, _, _, _ => none
 | k + 1, x0, x6, x7, x8 => if x8 < x7 then (if 0 ≤ x8 then (if x8 < (x6.length : Int) then ((impl_Task_86.f x0 x8).bind fun t330 => ((impl_TaskNew.f ((rd_T30 x6 x8).f0) ((rd_T30 x6 x8).f1) ((rd_T30 x6 x8).f2) ((rd_T30 x6 x8).f3)).bind fun bt331 => (if (!(((rd_T30 x6 x8).f0) == bt331.1) || (!(((rd_T30 x6 x8).f1) == bt331.2.1) || (!(((rd_T30 x6 x8).f2) == bt331.2.2.1) || (!(((rd_T30 x6 x8).f3) == bt331.2.2.2.1) || (!(((rd_T30 x6 x8).f4) == bt331.2.2.2.2.1) || (!(((rd_T30 x6 x8).f5) == bt331.2.2.2.2.2.1) || (!(((rd_T30 x6 x8).f6) == bt331.2.2.2.2.2.2.1) || (!(((rd_T30 x6 x8).f7) == bt331.2.2.2.2.2.2.2.1) || (!(((rd_T30 x6 x8).f8) == bt331.2.2.2.2.2.2.2.2.1) || (!(((rd_T30 x6 x8).f9) == bt331.2.2.2.2.2.2.2.2.2.1) || (!(((rd_T30 x6 x8).f10) == bt331.2.2.2.2.2.2.2.2.2.2)))))))))))) = true then (some false) else ((impl_TaskOk.f k ((rd_T30 x6 x8).f0) ((rd_T30 x6 x8).f1) ((rd_T30 x6 x8).f2) ((rd_T30 x6 x8).f3) ((rd_T30 x6 x8).f4) ((rd_T30 x6 x8).f5) ((rd_T30 x6 x8).f6) ((rd_T30 x6 x8).f7) ((rd_T30 x6 x8).f8) ((rd_T30 x6 x8).f9) ((rd_T30 x6 x8).f10)).bind fun t342 => (if t342 = true then (if t330 = true then (some false) else (impl_tasksOk.l0 k x0 x6 x7 (wrap64 (x8 + 1)))) else (some false)))))) else (none)) else (none)) else ((impl_within.f (x0.length : Int) 1 6).bind fun t327 => (some t327))
def impl_tasksOk.f (k : Nat) (l0 : List (S30)) : Option (Bool) := impl_tasksOk.l0 k l0 l0 (l0.length : Int) 0
def impl_tasksOk.T5 : Bool × List (List Nat × List Nat) := (true, [([], []), ([], []), ([1], [1]), ([], []), ([3], [3]), ([], []), ([5], [5]), ([], []), ([7], [7]), ([2, 4, 6, 8], [2, 4, 6, 8]), ([0, 9], [0, 9]), ([10, 9], [10]), ([11], [11]), ([12, 11, 11], [11, 12]), ([13, 11], [11, 13]), ([11, 14], [11, 14]), ([15, 13], [15]), ([16], [16]), ([16, 17], [16, 17])])
def impl_tasksOk.B5 : List Nat := [0, 0, 2, 0, 8, 0, 32, 0, 128, 510, 1023, 2047, 4095, 8191, 16383, 32767, 65535, 131071, 262143]
theorem impl_tasksOk.tab5 : rtab .any (opsOf Try.f69 5) = impl_tasksOk.T5 := by kernel_rfl
theorem impl_tasksOk.bits5 : waitsOk impl_tasksOk.T5.2 impl_tasksOk.B5 = true := by kernel_rfl
set_option maxHeartbeats 8000000 in
set_option maxRecDepth 100000 in
theorem impl_tasksOk.calls (k : Nat) (A0 : Option Addr) (c0 : Nat) (l0 : List (S30)) (r : Bool) (w : World) (hr0 : Kd.C k30 w A0 l0.length l0) (hc0 : l0.length ≤ c0) (h : impl_tasksOk.f k l0 = some r) :
  Calls Try.prog 69 #[.slice A0 l0.length c0] w fun e w' => e = .returned (.bool r) ∧ Below w.heap.size w w' := by
 have hu30 := Try.underlying30
 have HR0 := Aside0.mk hr0
 have HC0 := Aside0.mk hc0
 clear hr0 hc0
 have HB := Aside0.mk (Below.refl w.heap.size w)
 have H : (impl_tasksOk.l0 k l0 l0 (l0.length : Int) 0) = some r := h
 clear h
 have H' := Aside0.mk H
 clear H
 go_enter Try.func69, Try.ntmps69
 go_wp2
 go_loopg [8] k (fun kq v8 w' => ∃ (x8_1 : Int), v8 = .int .i64 x8_1 ∧ Aside0 (impl_tasksOk.l0 kq l0 l0 (l0.length : Int) x8_1 = some r) ∧ Aside0 (kq ≤ k) ∧ Aside0 (Below w.heap.size w w'))
 case atStart => exact ⟨(0), SD, H', ⟨Nat.le_refl _⟩, ⟨BL⟩⟩
 case round =>
  clear H'; obtain ⟨x8_1, rfl, HA, HK1, HB⟩ := hrel; cases gk with
  | zero => exact absurd HA.out (by simp [impl_tasksOk.l0])
  | succ k1 =>
   have H := HA.out; clear HA; simp only [impl_tasksOk.l0] at H
   by_cases c2 : x8_1 < (l0.length : Int); rotate_left
   ·
    rw [if_neg c2] at H; have c2b0 : decide (x8_1 < (l0.length : Int)) = false := decide_eq_false c2; clear c2; replace H := Option.bind_eq_some_iff.mp H; obtain ⟨t327, A340, H⟩ := H; have A34 := Aside0.mk A340; clear A340; obtain rfl := Option.some.inj H
    go_wp2_with (first | ((with_reducible refine gate_callee (f := 89) rfl ?_); refine goesL_ (some 40) rfl rfl Try.func89 (by kernel_rfl) rfl #[.int .i64 (l0.length : Int), .int .i64 1, .int .i64 6] rfl (MA) ?_; (with_reducible refine (impl_within.calls (l0.length : Int) 1 6 t327 _ A34.out).mono ?_); rintro e w' ⟨rfl, ⟨nd, rfl⟩⟩; refine ⟨_, rfl, ?_⟩))
    go_ret
    exact ⟨EE, BL⟩
   rw [if_pos c2] at H; have c2b0 : decide (x8_1 < (l0.length : Int)) = true := decide_eq_true c2; clear c2
   by_cases c3 : 0 ≤ x8_1; rotate_left
   ·
    rw [if_neg c3] at H; exact absurd H (by simp)
   rw [if_pos c3] at H; have c3b0 : decide (0 ≤ x8_1) = true := decide_eq_true c3; clear c3
   by_cases c4 : x8_1 < (l0.length : Int); rotate_left
   ·
    rw [if_neg c4] at H; exact absurd H (by simp)
   rw [if_pos c4] at H; have c4b0 : decide (x8_1 < (l0.length : Int)) = true := decide_eq_true c4; clear c4; replace H := Option.bind_eq_some_iff.mp H; obtain ⟨t330, A50, H⟩ := H; have A5 := Aside0.mk A50; clear A50; replace H := Option.bind_eq_some_iff.mp H; obtain ⟨⟨t331, t332, t333, t334, t335, t336, t337, t338, t339, t340, t341⟩, A60, H⟩ := H; replace H : (if (!(((rd_T30 l0 x8_1).f0) == t331) || (!(((rd_T30 l0 x8_1).f1) == t332) || (!(((rd_T30 l0 x8_1).f2) == t333) || (!(((rd_T30 l0 x8_1).f3) == t334) || (!(((rd_T30 l0 x8_1).f4) == t335) || (!(((rd_T30 l0 x8_1).f5) == t336) || (!(((rd_T30 l0 x8_1).f6) == t337) || (!(((rd_T30 l0 x8_1).f7) == t338) || (!(((rd_T30 l0 x8_1).f8) == t339) || (!(((rd_T30 l0 x8_1).f9) == t340) || (!(((rd_T30 l0 x8_1).f10) == t341)))))))))))) = true then (some false) else ((impl_TaskOk.f k1 ((rd_T30 l0 x8_1).f0) ((rd_T30 l0 x8_1).f1) ((rd_T30 l0 x8_1).f2) ((rd_T30 l0 x8_1).f3) ((rd_T30 l0 x8_1).f4) ((rd_T30 l0 x8_1).f5) ((rd_T30 l0 x8_1).f6) ((rd_T30 l0 x8_1).f7) ((rd_T30 l0 x8_1).f8) ((rd_T30 l0 x8_1).f9) ((rd_T30 l0 x8_1).f10)).bind fun t342 => (if t342 = true then (if t330 = true then (some false) else (impl_tasksOk.l0 k1 l0 l0 (l0.length : Int) (wrap64 (x8_1 + 1)))) else (some false)))) = some r := H; have A6 := Aside0.mk A60; clear A60
   by_cases c7 : (!(((rd_T30 l0 x8_1).f0) == t331) || (!(((rd_T30 l0 x8_1).f1) == t332) || (!(((rd_T30 l0 x8_1).f2) == t333) || (!(((rd_T30 l0 x8_1).f3) == t334) || (!(((rd_T30 l0 x8_1).f4) == t335) || (!(((rd_T30 l0 x8_1).f5) == t336) || (!(((rd_T30 l0 x8_1).f6) == t337) || (!(((rd_T30 l0 x8_1).f7) == t338) || (!(((rd_T30 l0 x8_1).f8) == t339) || (!(((rd_T30 l0 x8_1).f9) == t340) || (!(((rd_T30 l0 x8_1).f10) == t341)))))))))))) = true
   ·
    rw [if_pos c7] at H; have c7b0 : (!(((rd_T30 l0 x8_1).f0) == t331) || (!(((rd_T30 l0 x8_1).f1) == t332) || (!(((rd_T30 l0 x8_1).f2) == t333) || (!(((rd_T30 l0 x8_1).f3) == t334) || (!(((rd_T30 l0 x8_1).f4) == t335) || (!(((rd_T30 l0 x8_1).f5) == t336) || (!(((rd_T30 l0 x8_1).f6) == t337) || (!(((rd_T30 l0 x8_1).f7) == t338) || (!(((rd_T30 l0 x8_1).f8) == t339) || (!(((rd_T30 l0 x8_1).f9) == t340) || (!(((rd_T30 l0 x8_1).f10) == t341)))))))))))) = true := c7; clear c7; obtain rfl := Option.some.inj H; have p328 : 0 ≤ (x8_1 : Int) := of_decide_eq_true AS; have q328 : x8_1 < (l0.length : Int) := of_decide_eq_true AS; obtain ⟨ad328, e328, hx328_0, hx328_1, hx328_2, hx328_3, hx328_4, hx328_5, hx328_6, hx328_7, hx328_8, hx328_9, hx328_10⟩ := at_T30 HR0.out x8_1 p328 q328; cases e328; replace hx328_0 := (HB.out.cell (World.block_lt_of_cell? w _ hx328_0)).trans hx328_0; replace hx328_1 := (HB.out.cell (World.block_lt_of_cell? w _ hx328_1)).trans hx328_1; replace hx328_2 := (HB.out.cell (World.block_lt_of_cell? w _ hx328_2)).trans hx328_2; replace hx328_3 := (HB.out.cell (World.block_lt_of_cell? w _ hx328_3)).trans hx328_3; replace hx328_4 := (HB.out.cell (World.block_lt_of_cell? w _ hx328_4)).trans hx328_4; replace hx328_5 := (HB.out.cell (World.block_lt_of_cell? w _ hx328_5)).trans hx328_5; replace hx328_6 := (HB.out.cell (World.block_lt_of_cell? w _ hx328_6)).trans hx328_6; replace hx328_7 := (HB.out.cell (World.block_lt_of_cell? w _ hx328_7)).trans hx328_7; replace hx328_8 := (HB.out.cell (World.block_lt_of_cell? w _ hx328_8)).trans hx328_8; replace hx328_9 := (HB.out.cell (World.block_lt_of_cell? w _ hx328_9)).trans hx328_9; replace hx328_10 := (HB.out.cell (World.block_lt_of_cell? w _ hx328_10)).trans hx328_10; replace p328 := eq_true p328; replace q328 := eq_true q328
    have sl2_ : (x8_1 ≤ (c0 : Int)) = True := eq_true (by have h1_ := HC0.out; have h2_ : x8_1 < (l0.length : Int) := of_decide_eq_true AS; omega)
    have sl1_ : (0 ≤ x8_1) = True := eq_true (of_decide_eq_true AS)
    try go_wp2_with (first | ((with_reducible refine gate_dst (N := 4) rfl ?_); refine bE 4 #[.int .i64 0, .int .i64 0, .int .i64 0, .int .i64 0, .int .i64 0, .int .i64 0, .int .i64 0, .int .i64 0, .int .i64 0, .bool false, .int .i64 0] 30 ?_; intro gb329 hg w8 hbox hb; have BK329 := Aside0.mk (hbox); have GW329 : Aside0 (w.heap.size ≤ gb329) := GS; have GE329 := GW329; replace HB := Aside0.mk (below_step (BL) hb); clear hb hbox hg; obtain ⟨hcz9_0, hcz9_1, hcz9_2, hcz9_3, hcz9_4, hcz9_5, hcz9_6, hcz9_7, hcz9_8, hcz9_9, hcz9_10, hfz9_0, hfz9_1, hfz9_2, hfz9_3, hfz9_4, hfz9_5, hfz9_6, hfz9_7, hfz9_8, hfz9_9, hfz9_10⟩ := KC11 BK329.out) | ((with_reducible refine gate_callee (f := 86) rfl ?_); refine goesL_ (some 17) rfl rfl Try.func86 (by kernel_rfl) rfl #[.slice (some ad328) x8_1.toNat c0, .func (.func 87) #[] #[.pointer (some ⟨gb329, 0, none⟩)]] rfl (MA) ?_; (with_reducible refine (impl_Task_86.calls _ _ l0 x8_1 t330 gb329 _ ?side1 ?side2 ?side3 ?side4 ?side5 A5.out).mono ?_); (case side1 => exact Kd.C_below HR0.out (BL)); (case side2 => exact of_decide_eq_true AS); (case side3 => exact of_decide_eq_true AS); (case side4 => exact blk_lt (g := gb329) (o := .cells #[.int .i64 ((rd_T30 l0 x8_1).f0), .int .i64 ((rd_T30 l0 x8_1).f1), .int .i64 ((rd_T30 l0 x8_1).f2), .int .i64 ((rd_T30 l0 x8_1).f3), .int .i64 ((rd_T30 l0 x8_1).f4), .int .i64 ((rd_T30 l0 x8_1).f5), .int .i64 ((rd_T30 l0 x8_1).f6), .int .i64 ((rd_T30 l0 x8_1).f7), .int .i64 ((rd_T30 l0 x8_1).f8), .bool ((rd_T30 l0 x8_1).f9), .int .i64 ((rd_T30 l0 x8_1).f10)] 30 (0, 0)) (BU BK329.out)); (case side5 => exact CZ (g := gb329) (t := 30) (cs := #[.int .i64 ((rd_T30 l0 x8_1).f0), .int .i64 ((rd_T30 l0 x8_1).f1), .int .i64 ((rd_T30 l0 x8_1).f2), .int .i64 ((rd_T30 l0 x8_1).f3), .int .i64 ((rd_T30 l0 x8_1).f4), .int .i64 ((rd_T30 l0 x8_1).f5), .int .i64 ((rd_T30 l0 x8_1).f6), .int .i64 ((rd_T30 l0 x8_1).f7), .int .i64 ((rd_T30 l0 x8_1).f8), .bool ((rd_T30 l0 x8_1).f9), .int .i64 ((rd_T30 l0 x8_1).f10)]) (BU BK329.out) 3); rintro e w10 ⟨rfl, hb⟩; refine ⟨_, rfl, ?_⟩; replace BK329 := Aside0.mk (blk_below (g := gb329) (o := .cells #[.int .i64 ((rd_T30 l0 x8_1).f0), .int .i64 ((rd_T30 l0 x8_1).f1), .int .i64 ((rd_T30 l0 x8_1).f2), .int .i64 ((rd_T30 l0 x8_1).f3), .int .i64 ((rd_T30 l0 x8_1).f4), .int .i64 ((rd_T30 l0 x8_1).f5), .int .i64 ((rd_T30 l0 x8_1).f6), .int .i64 ((rd_T30 l0 x8_1).f7), .int .i64 ((rd_T30 l0 x8_1).f8), .bool ((rd_T30 l0 x8_1).f9), .int .i64 ((rd_T30 l0 x8_1).f10)] 30 (0, 0)) (BU BK329.out) hb); replace HB := Aside0.mk (below_step (BL) hb); (try clear hb); (try clear hb2); (try clear hk); (try clear hi)))
    have n0_ := Aside0.mk (blk_drew BK329.out); have n1_ := Aside0.mk (below_drew1 HB.out); clear BK329; clear HB; have BK329 := n0_; have HB := n1_; clear n0_ n1_; refine start_ (n := 19) (S := fun w' => w'.cell? ⟨gb329, 0, none⟩ = some (.int .i64 ((rd_T30 l0 x8_1).f0)) ∧ w'.cell? ⟨gb329, 1, none⟩ = some (.int .i64 ((rd_T30 l0 x8_1).f1)) ∧ w'.cell? ⟨gb329, 2, none⟩ = some (.int .i64 ((rd_T30 l0 x8_1).f2)) ∧ w'.cell? ⟨gb329, 3, none⟩ = some (.int .i64 ((rd_T30 l0 x8_1).f3)) ∧ w'.cell? ⟨gb329, 4, none⟩ = some (.int .i64 ((rd_T30 l0 x8_1).f4)) ∧ w'.cell? ⟨gb329, 5, none⟩ = some (.int .i64 ((rd_T30 l0 x8_1).f5)) ∧ w'.cell? ⟨gb329, 6, none⟩ = some (.int .i64 ((rd_T30 l0 x8_1).f6)) ∧ w'.cell? ⟨gb329, 7, none⟩ = some (.int .i64 ((rd_T30 l0 x8_1).f7)) ∧ w'.cell? ⟨gb329, 8, none⟩ = some (.int .i64 ((rd_T30 l0 x8_1).f8)) ∧ w'.cell? ⟨gb329, 9, none⟩ = some (.bool ((rd_T30 l0 x8_1).f9)) ∧ w'.cell? ⟨gb329, 10, none⟩ = some (.int .i64 ((rd_T30 l0 x8_1).f10))) (ds := []) #[false, false, false, false, false, false, false, false, false, false, false, false, false, false, false, false, false, false, false] (by kernel_rfl) rfl rfl ⟨CZ BK329.out 0, CZ BK329.out 1, CZ BK329.out 2, CZ BK329.out 3, CZ BK329.out 4, CZ BK329.out 5, CZ BK329.out 6, CZ BK329.out 7, CZ BK329.out 8, CZ BK329.out 9, CZ BK329.out 10⟩ (fun hHeld => ?_); refine with_tabW impl_tasksOk.tab5 impl_tasksOk.bits5 (fun HT_ HW_ => ?_); generalize w10.drew = w11 at BK329 HB hHeld ⊢; refine pV 1 19 (OB 19 2) ?_; refine pV 3 21 (OB 19 10) ?_; refine pV 5 23 (OB 19 42) ?_; refine pV 7 25 (OB 19 170) ?_; refine pT 0 18 (OB 19 171) ?_; refine pT 2 20 (OB 19 175) ?_; refine pT 4 22 (OB 19 191) ?_; refine pT 6 24 (OB 19 255) ?_; refine pT 8 26 (OB 19 511) ?_; refine one_ (i := 9) (N := some 27) (OB 19 1023) rfl rfl (one_of HT_.out (by kernel_rfl)) (by decide) (fun K hK => ?_); refine goes_ Try.func21 (by kernel_rfl) rfl #[.int .i64 ((rd_T30 l0 x8_1).f0), .int .i64 ((rd_T30 l0 x8_1).f1), .int .i64 ((rd_T30 l0 x8_1).f2), .int .i64 ((rd_T30 l0 x8_1).f3)] (by rfl) rfl rfl (MA) ?_
    with_reducible refine (impl_TaskNew.calls ((rd_T30 l0 x8_1).f0) ((rd_T30 l0 x8_1).f1) ((rd_T30 l0 x8_1).f2) ((rd_T30 l0 x8_1).f3) t331 t332 t333 t334 t335 t336 t337 t338 t339 t340 t341 _ A6.out).mono ?_
    rintro e w12 ⟨rfl, hb⟩; refine ⟨_, rfl, ?_⟩; have n0_ := BB BK329.out hb; have n1_ := Aside0.mk (below_step (BL) hb); clear BK329; clear HB; have BK329 := n0_; have HB := n1_; clear n0_ n1_
    (try clear hb)
    (try clear hb2)
    (try clear hk)
    (try clear hi)
    refine hK.out _ _ ⟨CZ BK329.out 0, CZ BK329.out 1, CZ BK329.out 2, CZ BK329.out 3, CZ BK329.out 4, CZ BK329.out 5, CZ BK329.out 6, CZ BK329.out 7, CZ BK329.out 8, CZ BK329.out 9, CZ BK329.out 10⟩ (fun hHeld => ?_); clear hK K; refine norm_ (a' := ?_) ?_ ?_; rotate_left
    ·
     show Act.put _ (some 27) _ = _; simp only [Act.put, zA, zB, zC, i64_w, i32_w]; rfl
    refine pV 10 28 (OB 19 2047) ?_; refine pV 11 29 (OB 19 4095) ?_; refine pN 12 30 (OB 19 8191) ?_; refine pN 13 31 (OB 19 16383) ?_; refine pN 14 32 (OB 19 32767) ?_; refine pV 15 33 (OB 19 65535) ?_; refine pV 16 34 (OB 19 131071) ?_; refine pN 17 35 (OB 19 262143) ?_; refine pV 18 36 (OB 19 524287) ?_; refine done_ (done_of HT_.out (by kernel_rfl)) ?_
    try go_wp2
    go_ret
    exact ⟨EE, BL⟩
   rw [if_neg c7] at H
   have c7b0 : (!(((rd_T30 l0 x8_1).f0) == t331) || (!(((rd_T30 l0 x8_1).f1) == t332) || (!(((rd_T30 l0 x8_1).f2) == t333) || (!(((rd_T30 l0 x8_1).f3) == t334) || (!(((rd_T30 l0 x8_1).f4) == t335) || (!(((rd_T30 l0 x8_1).f5) == t336) || (!(((rd_T30 l0 x8_1).f6) == t337) || (!(((rd_T30 l0 x8_1).f7) == t338) || (!(((rd_T30 l0 x8_1).f8) == t339) || (!(((rd_T30 l0 x8_1).f9) == t340) || (!(((rd_T30 l0 x8_1).f10) == t341)))))))))))) = false := by simpa using c7
   clear c7; replace H := Option.bind_eq_some_iff.mp H; obtain ⟨t342, A130, H⟩ := H; have A13 := Aside0.mk A130; clear A130
   by_cases c14 : t342 = true; rotate_left
   ·
    replace c14 := Bool.eq_false_iff.mpr c14; subst c14
    have H1 : (some false) = some r := by rw [if_neg (show ¬ (false = true) by decide)] at H; exact H
    clear H; have H := H1; clear H1; obtain rfl := Option.some.inj H; have p328 : 0 ≤ (x8_1 : Int) := of_decide_eq_true AS; have q328 : x8_1 < (l0.length : Int) := of_decide_eq_true AS; obtain ⟨ad328, e328, hx328_0, hx328_1, hx328_2, hx328_3, hx328_4, hx328_5, hx328_6, hx328_7, hx328_8, hx328_9, hx328_10⟩ := at_T30 HR0.out x8_1 p328 q328; cases e328; replace hx328_0 := (HB.out.cell (World.block_lt_of_cell? w _ hx328_0)).trans hx328_0; replace hx328_1 := (HB.out.cell (World.block_lt_of_cell? w _ hx328_1)).trans hx328_1; replace hx328_2 := (HB.out.cell (World.block_lt_of_cell? w _ hx328_2)).trans hx328_2; replace hx328_3 := (HB.out.cell (World.block_lt_of_cell? w _ hx328_3)).trans hx328_3; replace hx328_4 := (HB.out.cell (World.block_lt_of_cell? w _ hx328_4)).trans hx328_4; replace hx328_5 := (HB.out.cell (World.block_lt_of_cell? w _ hx328_5)).trans hx328_5; replace hx328_6 := (HB.out.cell (World.block_lt_of_cell? w _ hx328_6)).trans hx328_6; replace hx328_7 := (HB.out.cell (World.block_lt_of_cell? w _ hx328_7)).trans hx328_7; replace hx328_8 := (HB.out.cell (World.block_lt_of_cell? w _ hx328_8)).trans hx328_8; replace hx328_9 := (HB.out.cell (World.block_lt_of_cell? w _ hx328_9)).trans hx328_9; replace hx328_10 := (HB.out.cell (World.block_lt_of_cell? w _ hx328_10)).trans hx328_10; replace p328 := eq_true p328; replace q328 := eq_true q328
    have sl2_ : (x8_1 ≤ (c0 : Int)) = True := eq_true (by have h1_ := HC0.out; have h2_ : x8_1 < (l0.length : Int) := of_decide_eq_true AS; omega)
    have sl1_ : (0 ≤ x8_1) = True := eq_true (of_decide_eq_true AS)
    try go_wp2_with (first | ((with_reducible refine gate_dst (N := 4) rfl ?_); refine bE 4 #[.int .i64 0, .int .i64 0, .int .i64 0, .int .i64 0, .int .i64 0, .int .i64 0, .int .i64 0, .int .i64 0, .int .i64 0, .bool false, .int .i64 0] 30 ?_; intro gb329 hg w28 hbox hb; have BK329 := Aside0.mk (hbox); have GW329 : Aside0 (w.heap.size ≤ gb329) := GS; have GE329 := GW329; replace HB := Aside0.mk (below_step (BL) hb); clear hb hbox hg; obtain ⟨hcz29_0, hcz29_1, hcz29_2, hcz29_3, hcz29_4, hcz29_5, hcz29_6, hcz29_7, hcz29_8, hcz29_9, hcz29_10, hfz29_0, hfz29_1, hfz29_2, hfz29_3, hfz29_4, hfz29_5, hfz29_6, hfz29_7, hfz29_8, hfz29_9, hfz29_10⟩ := KC11 BK329.out) | ((with_reducible refine gate_callee (f := 86) rfl ?_); refine goesL_ (some 17) rfl rfl Try.func86 (by kernel_rfl) rfl #[.slice (some ad328) x8_1.toNat c0, .func (.func 87) #[] #[.pointer (some ⟨gb329, 0, none⟩)]] rfl (MA) ?_; (with_reducible refine (impl_Task_86.calls _ _ l0 x8_1 t330 gb329 _ ?side1 ?side2 ?side3 ?side4 ?side5 A5.out).mono ?_); (case side1 => exact Kd.C_below HR0.out (BL)); (case side2 => exact of_decide_eq_true AS); (case side3 => exact of_decide_eq_true AS); (case side4 => exact blk_lt (g := gb329) (o := .cells #[.int .i64 ((rd_T30 l0 x8_1).f0), .int .i64 ((rd_T30 l0 x8_1).f1), .int .i64 ((rd_T30 l0 x8_1).f2), .int .i64 ((rd_T30 l0 x8_1).f3), .int .i64 ((rd_T30 l0 x8_1).f4), .int .i64 ((rd_T30 l0 x8_1).f5), .int .i64 ((rd_T30 l0 x8_1).f6), .int .i64 ((rd_T30 l0 x8_1).f7), .int .i64 ((rd_T30 l0 x8_1).f8), .bool ((rd_T30 l0 x8_1).f9), .int .i64 ((rd_T30 l0 x8_1).f10)] 30 (0, 0)) (BU BK329.out)); (case side5 => exact CZ (g := gb329) (t := 30) (cs := #[.int .i64 ((rd_T30 l0 x8_1).f0), .int .i64 ((rd_T30 l0 x8_1).f1), .int .i64 ((rd_T30 l0 x8_1).f2), .int .i64 ((rd_T30 l0 x8_1).f3), .int .i64 ((rd_T30 l0 x8_1).f4), .int .i64 ((rd_T30 l0 x8_1).f5), .int .i64 ((rd_T30 l0 x8_1).f6), .int .i64 ((rd_T30 l0 x8_1).f7), .int .i64 ((rd_T30 l0 x8_1).f8), .bool ((rd_T30 l0 x8_1).f9), .int .i64 ((rd_T30 l0 x8_1).f10)]) (BU BK329.out) 3); rintro e w30 ⟨rfl, hb⟩; refine ⟨_, rfl, ?_⟩; replace BK329 := Aside0.mk (blk_below (g := gb329) (o := .cells #[.int .i64 ((rd_T30 l0 x8_1).f0), .int .i64 ((rd_T30 l0 x8_1).f1), .int .i64 ((rd_T30 l0 x8_1).f2), .int .i64 ((rd_T30 l0 x8_1).f3), .int .i64 ((rd_T30 l0 x8_1).f4), .int .i64 ((rd_T30 l0 x8_1).f5), .int .i64 ((rd_T30 l0 x8_1).f6), .int .i64 ((rd_T30 l0 x8_1).f7), .int .i64 ((rd_T30 l0 x8_1).f8), .bool ((rd_T30 l0 x8_1).f9), .int .i64 ((rd_T30 l0 x8_1).f10)] 30 (0, 0)) (BU BK329.out) hb); replace HB := Aside0.mk (below_step (BL) hb); (try clear hb); (try clear hb2); (try clear hk); (try clear hi)))
    have n0_ := Aside0.mk (blk_drew BK329.out); have n1_ := Aside0.mk (below_drew1 HB.out); clear BK329; clear HB; have BK329 := n0_; have HB := n1_; clear n0_ n1_; refine start_ (n := 19) (S := fun w' => w'.cell? ⟨gb329, 0, none⟩ = some (.int .i64 ((rd_T30 l0 x8_1).f0)) ∧ w'.cell? ⟨gb329, 1, none⟩ = some (.int .i64 ((rd_T30 l0 x8_1).f1)) ∧ w'.cell? ⟨gb329, 2, none⟩ = some (.int .i64 ((rd_T30 l0 x8_1).f2)) ∧ w'.cell? ⟨gb329, 3, none⟩ = some (.int .i64 ((rd_T30 l0 x8_1).f3)) ∧ w'.cell? ⟨gb329, 4, none⟩ = some (.int .i64 ((rd_T30 l0 x8_1).f4)) ∧ w'.cell? ⟨gb329, 5, none⟩ = some (.int .i64 ((rd_T30 l0 x8_1).f5)) ∧ w'.cell? ⟨gb329, 6, none⟩ = some (.int .i64 ((rd_T30 l0 x8_1).f6)) ∧ w'.cell? ⟨gb329, 7, none⟩ = some (.int .i64 ((rd_T30 l0 x8_1).f7)) ∧ w'.cell? ⟨gb329, 8, none⟩ = some (.int .i64 ((rd_T30 l0 x8_1).f8)) ∧ w'.cell? ⟨gb329, 9, none⟩ = some (.bool ((rd_T30 l0 x8_1).f9)) ∧ w'.cell? ⟨gb329, 10, none⟩ = some (.int .i64 ((rd_T30 l0 x8_1).f10))) (ds := []) #[false, false, false, false, false, false, false, false, false, false, false, false, false, false, false, false, false, false, false] (by kernel_rfl) rfl rfl ⟨CZ BK329.out 0, CZ BK329.out 1, CZ BK329.out 2, CZ BK329.out 3, CZ BK329.out 4, CZ BK329.out 5, CZ BK329.out 6, CZ BK329.out 7, CZ BK329.out 8, CZ BK329.out 9, CZ BK329.out 10⟩ (fun hHeld => ?_); refine with_tabW impl_tasksOk.tab5 impl_tasksOk.bits5 (fun HT_ HW_ => ?_); generalize w30.drew = w31 at BK329 HB hHeld ⊢; refine pV 1 19 (OB 19 2) ?_; refine pV 3 21 (OB 19 10) ?_; refine pV 5 23 (OB 19 42) ?_; refine pV 7 25 (OB 19 170) ?_; refine pT 0 18 (OB 19 171) ?_; refine pT 2 20 (OB 19 175) ?_; refine pT 4 22 (OB 19 191) ?_; refine pT 6 24 (OB 19 255) ?_; refine pT 8 26 (OB 19 511) ?_; refine one_ (i := 9) (N := some 27) (OB 19 1023) rfl rfl (one_of HT_.out (by kernel_rfl)) (by decide) (fun K hK => ?_); refine goes_ Try.func21 (by kernel_rfl) rfl #[.int .i64 ((rd_T30 l0 x8_1).f0), .int .i64 ((rd_T30 l0 x8_1).f1), .int .i64 ((rd_T30 l0 x8_1).f2), .int .i64 ((rd_T30 l0 x8_1).f3)] (by rfl) rfl rfl (MA) ?_
    with_reducible refine (impl_TaskNew.calls ((rd_T30 l0 x8_1).f0) ((rd_T30 l0 x8_1).f1) ((rd_T30 l0 x8_1).f2) ((rd_T30 l0 x8_1).f3) t331 t332 t333 t334 t335 t336 t337 t338 t339 t340 t341 _ A6.out).mono ?_
    rintro e w32 ⟨rfl, hb⟩; refine ⟨_, rfl, ?_⟩; have n0_ := BB BK329.out hb; have n1_ := Aside0.mk (below_step (BL) hb); clear BK329; clear HB; have BK329 := n0_; have HB := n1_; clear n0_ n1_
    (try clear hb)
    (try clear hb2)
    (try clear hk)
    (try clear hi)
    refine hK.out _ _ ⟨CZ BK329.out 0, CZ BK329.out 1, CZ BK329.out 2, CZ BK329.out 3, CZ BK329.out 4, CZ BK329.out 5, CZ BK329.out 6, CZ BK329.out 7, CZ BK329.out 8, CZ BK329.out 9, CZ BK329.out 10⟩ (fun hHeld => ?_); clear hK K; refine norm_ (a' := ?_) ?_ ?_; rotate_left
    ·
     show Act.put _ (some 27) _ = _; simp only [Act.put, zA, zB, zC, i64_w, i32_w]; rfl
    refine pV 10 28 (OB 19 2047) ?_; refine pV 11 29 (OB 19 4095) ?_; refine pT 12 30 (OB 19 8191) ?_; refine one_ (i := 13) (N := some 31) (OB 19 16383) rfl rfl (one_of HT_.out (by kernel_rfl)) (by decide) (fun K hK => ?_); refine goes_ Try.func88 (by kernel_rfl) rfl #[.agg #[.int .i64 ((rd_T30 l0 x8_1).f0), .int .i64 ((rd_T30 l0 x8_1).f1), .int .i64 ((rd_T30 l0 x8_1).f2), .int .i64 ((rd_T30 l0 x8_1).f3), .int .i64 ((rd_T30 l0 x8_1).f4), .int .i64 ((rd_T30 l0 x8_1).f5), .int .i64 ((rd_T30 l0 x8_1).f6), .int .i64 ((rd_T30 l0 x8_1).f7), .int .i64 ((rd_T30 l0 x8_1).f8), .bool ((rd_T30 l0 x8_1).f9), .int .i64 ((rd_T30 l0 x8_1).f10)]] (by rfl) rfl rfl (MA) ?_
    with_reducible refine (impl_TaskOk.calls k1 ((rd_T30 l0 x8_1).f0) ((rd_T30 l0 x8_1).f1) ((rd_T30 l0 x8_1).f2) ((rd_T30 l0 x8_1).f3) ((rd_T30 l0 x8_1).f4) ((rd_T30 l0 x8_1).f5) ((rd_T30 l0 x8_1).f6) ((rd_T30 l0 x8_1).f7) ((rd_T30 l0 x8_1).f8) ((rd_T30 l0 x8_1).f9) ((rd_T30 l0 x8_1).f10) false _ A13.out).mono ?_
    rintro e w33 ⟨rfl, hb⟩; refine ⟨_, rfl, ?_⟩; have n0_ := BB BK329.out hb; have n1_ := Aside0.mk (below_step (BL) hb); clear BK329; clear HB; have BK329 := n0_; have HB := n1_; clear n0_ n1_
    (try clear hb)
    (try clear hb2)
    (try clear hk)
    (try clear hi)
    refine hK.out _ _ ⟨CZ BK329.out 0, CZ BK329.out 1, CZ BK329.out 2, CZ BK329.out 3, CZ BK329.out 4, CZ BK329.out 5, CZ BK329.out 6, CZ BK329.out 7, CZ BK329.out 8, CZ BK329.out 9, CZ BK329.out 10⟩ (fun hHeld => ?_); clear hK K; refine norm_ (a' := ?_) ?_ ?_; rotate_left
    ·
     show Act.put _ (some 31) _ = _; simp only [Act.put, zA, zB, zC, i64_w, i32_w]; rfl
    refine pV 14 32 (OB 19 32767) ?_; refine pV 15 33 (OB 19 65535) ?_; refine pV 16 34 (OB 19 131071) ?_; refine pN 17 35 (OB 19 262143) ?_; refine pV 18 36 (OB 19 524287) ?_; refine done_ (done_of HT_.out (by kernel_rfl)) ?_
    try go_wp2
    go_ret
    exact ⟨EE, BL⟩
   subst c14
   have H1 : (if t330 = true then (some false) else (impl_tasksOk.l0 k1 l0 l0 (l0.length : Int) (wrap64 (x8_1 + 1)))) = some r := by rw [if_pos rfl] at H; exact H
   clear H; have H := H1; clear H1
   by_cases c15 : t330 = true
   ·
    subst c15
    have H1 : (some false) = some r := by rw [if_pos rfl] at H; exact H
    clear H; have H := H1; clear H1; obtain rfl := Option.some.inj H; have p328 : 0 ≤ (x8_1 : Int) := of_decide_eq_true AS; have q328 : x8_1 < (l0.length : Int) := of_decide_eq_true AS; obtain ⟨ad328, e328, hx328_0, hx328_1, hx328_2, hx328_3, hx328_4, hx328_5, hx328_6, hx328_7, hx328_8, hx328_9, hx328_10⟩ := at_T30 HR0.out x8_1 p328 q328; cases e328; replace hx328_0 := (HB.out.cell (World.block_lt_of_cell? w _ hx328_0)).trans hx328_0; replace hx328_1 := (HB.out.cell (World.block_lt_of_cell? w _ hx328_1)).trans hx328_1; replace hx328_2 := (HB.out.cell (World.block_lt_of_cell? w _ hx328_2)).trans hx328_2; replace hx328_3 := (HB.out.cell (World.block_lt_of_cell? w _ hx328_3)).trans hx328_3; replace hx328_4 := (HB.out.cell (World.block_lt_of_cell? w _ hx328_4)).trans hx328_4; replace hx328_5 := (HB.out.cell (World.block_lt_of_cell? w _ hx328_5)).trans hx328_5; replace hx328_6 := (HB.out.cell (World.block_lt_of_cell? w _ hx328_6)).trans hx328_6; replace hx328_7 := (HB.out.cell (World.block_lt_of_cell? w _ hx328_7)).trans hx328_7; replace hx328_8 := (HB.out.cell (World.block_lt_of_cell? w _ hx328_8)).trans hx328_8; replace hx328_9 := (HB.out.cell (World.block_lt_of_cell? w _ hx328_9)).trans hx328_9; replace hx328_10 := (HB.out.cell (World.block_lt_of_cell? w _ hx328_10)).trans hx328_10; replace p328 := eq_true p328; replace q328 := eq_true q328
    have sl2_ : (x8_1 ≤ (c0 : Int)) = True := eq_true (by have h1_ := HC0.out; have h2_ : x8_1 < (l0.length : Int) := of_decide_eq_true AS; omega)
    have sl1_ : (0 ≤ x8_1) = True := eq_true (of_decide_eq_true AS)
    try go_wp2_with (first | ((with_reducible refine gate_dst (N := 4) rfl ?_); refine bE 4 #[.int .i64 0, .int .i64 0, .int .i64 0, .int .i64 0, .int .i64 0, .int .i64 0, .int .i64 0, .int .i64 0, .int .i64 0, .bool false, .int .i64 0] 30 ?_; intro gb329 hg w16 hbox hb; have BK329 := Aside0.mk (hbox); have GW329 : Aside0 (w.heap.size ≤ gb329) := GS; have GE329 := GW329; replace HB := Aside0.mk (below_step (BL) hb); clear hb hbox hg; obtain ⟨hcz17_0, hcz17_1, hcz17_2, hcz17_3, hcz17_4, hcz17_5, hcz17_6, hcz17_7, hcz17_8, hcz17_9, hcz17_10, hfz17_0, hfz17_1, hfz17_2, hfz17_3, hfz17_4, hfz17_5, hfz17_6, hfz17_7, hfz17_8, hfz17_9, hfz17_10⟩ := KC11 BK329.out) | ((with_reducible refine gate_callee (f := 86) rfl ?_); refine goesL_ (some 17) rfl rfl Try.func86 (by kernel_rfl) rfl #[.slice (some ad328) x8_1.toNat c0, .func (.func 87) #[] #[.pointer (some ⟨gb329, 0, none⟩)]] rfl (MA) ?_; (with_reducible refine (impl_Task_86.calls _ _ l0 x8_1 true gb329 _ ?side1 ?side2 ?side3 ?side4 ?side5 A5.out).mono ?_); (case side1 => exact Kd.C_below HR0.out (BL)); (case side2 => exact of_decide_eq_true AS); (case side3 => exact of_decide_eq_true AS); (case side4 => exact blk_lt (g := gb329) (o := .cells #[.int .i64 ((rd_T30 l0 x8_1).f0), .int .i64 ((rd_T30 l0 x8_1).f1), .int .i64 ((rd_T30 l0 x8_1).f2), .int .i64 ((rd_T30 l0 x8_1).f3), .int .i64 ((rd_T30 l0 x8_1).f4), .int .i64 ((rd_T30 l0 x8_1).f5), .int .i64 ((rd_T30 l0 x8_1).f6), .int .i64 ((rd_T30 l0 x8_1).f7), .int .i64 ((rd_T30 l0 x8_1).f8), .bool ((rd_T30 l0 x8_1).f9), .int .i64 ((rd_T30 l0 x8_1).f10)] 30 (0, 0)) (BU BK329.out)); (case side5 => exact CZ (g := gb329) (t := 30) (cs := #[.int .i64 ((rd_T30 l0 x8_1).f0), .int .i64 ((rd_T30 l0 x8_1).f1), .int .i64 ((rd_T30 l0 x8_1).f2), .int .i64 ((rd_T30 l0 x8_1).f3), .int .i64 ((rd_T30 l0 x8_1).f4), .int .i64 ((rd_T30 l0 x8_1).f5), .int .i64 ((rd_T30 l0 x8_1).f6), .int .i64 ((rd_T30 l0 x8_1).f7), .int .i64 ((rd_T30 l0 x8_1).f8), .bool ((rd_T30 l0 x8_1).f9), .int .i64 ((rd_T30 l0 x8_1).f10)]) (BU BK329.out) 3); rintro e w18 ⟨rfl, hb⟩; refine ⟨_, rfl, ?_⟩; replace BK329 := Aside0.mk (blk_below (g := gb329) (o := .cells #[.int .i64 ((rd_T30 l0 x8_1).f0), .int .i64 ((rd_T30 l0 x8_1).f1), .int .i64 ((rd_T30 l0 x8_1).f2), .int .i64 ((rd_T30 l0 x8_1).f3), .int .i64 ((rd_T30 l0 x8_1).f4), .int .i64 ((rd_T30 l0 x8_1).f5), .int .i64 ((rd_T30 l0 x8_1).f6), .int .i64 ((rd_T30 l0 x8_1).f7), .int .i64 ((rd_T30 l0 x8_1).f8), .bool ((rd_T30 l0 x8_1).f9), .int .i64 ((rd_T30 l0 x8_1).f10)] 30 (0, 0)) (BU BK329.out) hb); replace HB := Aside0.mk (below_step (BL) hb); (try clear hb); (try clear hb2); (try clear hk); (try clear hi)))
    have n0_ := Aside0.mk (blk_drew BK329.out); have n1_ := Aside0.mk (below_drew1 HB.out); clear BK329; clear HB; have BK329 := n0_; have HB := n1_; clear n0_ n1_; refine start_ (n := 19) (S := fun w' => w'.cell? ⟨gb329, 0, none⟩ = some (.int .i64 ((rd_T30 l0 x8_1).f0)) ∧ w'.cell? ⟨gb329, 1, none⟩ = some (.int .i64 ((rd_T30 l0 x8_1).f1)) ∧ w'.cell? ⟨gb329, 2, none⟩ = some (.int .i64 ((rd_T30 l0 x8_1).f2)) ∧ w'.cell? ⟨gb329, 3, none⟩ = some (.int .i64 ((rd_T30 l0 x8_1).f3)) ∧ w'.cell? ⟨gb329, 4, none⟩ = some (.int .i64 ((rd_T30 l0 x8_1).f4)) ∧ w'.cell? ⟨gb329, 5, none⟩ = some (.int .i64 ((rd_T30 l0 x8_1).f5)) ∧ w'.cell? ⟨gb329, 6, none⟩ = some (.int .i64 ((rd_T30 l0 x8_1).f6)) ∧ w'.cell? ⟨gb329, 7, none⟩ = some (.int .i64 ((rd_T30 l0 x8_1).f7)) ∧ w'.cell? ⟨gb329, 8, none⟩ = some (.int .i64 ((rd_T30 l0 x8_1).f8)) ∧ w'.cell? ⟨gb329, 9, none⟩ = some (.bool ((rd_T30 l0 x8_1).f9)) ∧ w'.cell? ⟨gb329, 10, none⟩ = some (.int .i64 ((rd_T30 l0 x8_1).f10))) (ds := []) #[false, false, false, false, false, false, false, false, false, false, false, false, false, false, false, false, false, false, false] (by kernel_rfl) rfl rfl ⟨CZ BK329.out 0, CZ BK329.out 1, CZ BK329.out 2, CZ BK329.out 3, CZ BK329.out 4, CZ BK329.out 5, CZ BK329.out 6, CZ BK329.out 7, CZ BK329.out 8, CZ BK329.out 9, CZ BK329.out 10⟩ (fun hHeld => ?_); refine with_tabW impl_tasksOk.tab5 impl_tasksOk.bits5 (fun HT_ HW_ => ?_); generalize w18.drew = w19 at BK329 HB hHeld ⊢; refine pV 1 19 (OB 19 2) ?_; refine pV 3 21 (OB 19 10) ?_; refine pV 5 23 (OB 19 42) ?_; refine pV 7 25 (OB 19 170) ?_; refine pT 0 18 (OB 19 171) ?_; refine pT 2 20 (OB 19 175) ?_; refine pT 4 22 (OB 19 191) ?_; refine pT 6 24 (OB 19 255) ?_; refine pT 8 26 (OB 19 511) ?_; refine one_ (i := 9) (N := some 27) (OB 19 1023) rfl rfl (one_of HT_.out (by kernel_rfl)) (by decide) (fun K hK => ?_); refine goes_ Try.func21 (by kernel_rfl) rfl #[.int .i64 ((rd_T30 l0 x8_1).f0), .int .i64 ((rd_T30 l0 x8_1).f1), .int .i64 ((rd_T30 l0 x8_1).f2), .int .i64 ((rd_T30 l0 x8_1).f3)] (by rfl) rfl rfl (MA) ?_
    with_reducible refine (impl_TaskNew.calls ((rd_T30 l0 x8_1).f0) ((rd_T30 l0 x8_1).f1) ((rd_T30 l0 x8_1).f2) ((rd_T30 l0 x8_1).f3) t331 t332 t333 t334 t335 t336 t337 t338 t339 t340 t341 _ A6.out).mono ?_
    rintro e w20 ⟨rfl, hb⟩; refine ⟨_, rfl, ?_⟩; have n0_ := BB BK329.out hb; have n1_ := Aside0.mk (below_step (BL) hb); clear BK329; clear HB; have BK329 := n0_; have HB := n1_; clear n0_ n1_
    (try clear hb)
    (try clear hb2)
    (try clear hk)
    (try clear hi)
    refine hK.out _ _ ⟨CZ BK329.out 0, CZ BK329.out 1, CZ BK329.out 2, CZ BK329.out 3, CZ BK329.out 4, CZ BK329.out 5, CZ BK329.out 6, CZ BK329.out 7, CZ BK329.out 8, CZ BK329.out 9, CZ BK329.out 10⟩ (fun hHeld => ?_); clear hK K; refine norm_ (a' := ?_) ?_ ?_; rotate_left
    ·
     show Act.put _ (some 27) _ = _; simp only [Act.put, zA, zB, zC, i64_w, i32_w]; rfl
    refine pV 10 28 (OB 19 2047) ?_; refine pV 11 29 (OB 19 4095) ?_; refine pT 12 30 (OB 19 8191) ?_; refine one_ (i := 13) (N := some 31) (OB 19 16383) rfl rfl (one_of HT_.out (by kernel_rfl)) (by decide) (fun K hK => ?_); refine goes_ Try.func88 (by kernel_rfl) rfl #[.agg #[.int .i64 ((rd_T30 l0 x8_1).f0), .int .i64 ((rd_T30 l0 x8_1).f1), .int .i64 ((rd_T30 l0 x8_1).f2), .int .i64 ((rd_T30 l0 x8_1).f3), .int .i64 ((rd_T30 l0 x8_1).f4), .int .i64 ((rd_T30 l0 x8_1).f5), .int .i64 ((rd_T30 l0 x8_1).f6), .int .i64 ((rd_T30 l0 x8_1).f7), .int .i64 ((rd_T30 l0 x8_1).f8), .bool ((rd_T30 l0 x8_1).f9), .int .i64 ((rd_T30 l0 x8_1).f10)]] (by rfl) rfl rfl (MA) ?_
    with_reducible refine (impl_TaskOk.calls k1 ((rd_T30 l0 x8_1).f0) ((rd_T30 l0 x8_1).f1) ((rd_T30 l0 x8_1).f2) ((rd_T30 l0 x8_1).f3) ((rd_T30 l0 x8_1).f4) ((rd_T30 l0 x8_1).f5) ((rd_T30 l0 x8_1).f6) ((rd_T30 l0 x8_1).f7) ((rd_T30 l0 x8_1).f8) ((rd_T30 l0 x8_1).f9) ((rd_T30 l0 x8_1).f10) true _ A13.out).mono ?_
    rintro e w21 ⟨rfl, hb⟩; refine ⟨_, rfl, ?_⟩; have n0_ := BB BK329.out hb; have n1_ := Aside0.mk (below_step (BL) hb); clear BK329; clear HB; have BK329 := n0_; have HB := n1_; clear n0_ n1_
    (try clear hb)
    (try clear hb2)
    (try clear hk)
    (try clear hi)
    refine hK.out _ _ ⟨CZ BK329.out 0, CZ BK329.out 1, CZ BK329.out 2, CZ BK329.out 3, CZ BK329.out 4, CZ BK329.out 5, CZ BK329.out 6, CZ BK329.out 7, CZ BK329.out 8, CZ BK329.out 9, CZ BK329.out 10⟩ (fun hHeld => ?_); clear hK K; refine norm_ (a' := ?_) ?_ ?_; rotate_left
    ·
     show Act.put _ (some 31) _ = _; simp only [Act.put, zA, zB, zC, i64_w, i32_w]; rfl
    refine pV 14 32 (OB 19 32767) ?_; refine pV 15 33 (OB 19 65535) ?_; refine pV 16 34 (OB 19 131071) ?_; refine pV 17 35 (OB 19 262143) ?_; refine pV 18 36 (OB 19 524287) ?_; refine done_ (done_of HT_.out (by kernel_rfl)) ?_
    try go_wp2
    go_ret
    exact ⟨EE, BL⟩
   replace c15 := Bool.eq_false_iff.mpr c15; subst c15
   have H1 : (impl_tasksOk.l0 k1 l0 l0 (l0.length : Int) (wrap64 (x8_1 + 1))) = some r := by rw [if_neg (show ¬ (false = true) by decide)] at H; exact H
   clear H; have H := H1; clear H1; have H' := Aside0.mk H; clear H; have p328 : 0 ≤ (x8_1 : Int) := of_decide_eq_true AS; have q328 : x8_1 < (l0.length : Int) := of_decide_eq_true AS; obtain ⟨ad328, e328, hx328_0, hx328_1, hx328_2, hx328_3, hx328_4, hx328_5, hx328_6, hx328_7, hx328_8, hx328_9, hx328_10⟩ := at_T30 HR0.out x8_1 p328 q328; cases e328; replace hx328_0 := (HB.out.cell (World.block_lt_of_cell? w _ hx328_0)).trans hx328_0; replace hx328_1 := (HB.out.cell (World.block_lt_of_cell? w _ hx328_1)).trans hx328_1; replace hx328_2 := (HB.out.cell (World.block_lt_of_cell? w _ hx328_2)).trans hx328_2; replace hx328_3 := (HB.out.cell (World.block_lt_of_cell? w _ hx328_3)).trans hx328_3; replace hx328_4 := (HB.out.cell (World.block_lt_of_cell? w _ hx328_4)).trans hx328_4; replace hx328_5 := (HB.out.cell (World.block_lt_of_cell? w _ hx328_5)).trans hx328_5; replace hx328_6 := (HB.out.cell (World.block_lt_of_cell? w _ hx328_6)).trans hx328_6; replace hx328_7 := (HB.out.cell (World.block_lt_of_cell? w _ hx328_7)).trans hx328_7; replace hx328_8 := (HB.out.cell (World.block_lt_of_cell? w _ hx328_8)).trans hx328_8; replace hx328_9 := (HB.out.cell (World.block_lt_of_cell? w _ hx328_9)).trans hx328_9; replace hx328_10 := (HB.out.cell (World.block_lt_of_cell? w _ hx328_10)).trans hx328_10; replace p328 := eq_true p328; replace q328 := eq_true q328
   have sl2_ : (x8_1 ≤ (c0 : Int)) = True := eq_true (by have h1_ := HC0.out; have h2_ : x8_1 < (l0.length : Int) := of_decide_eq_true AS; omega)
   have sl1_ : (0 ≤ x8_1) = True := eq_true (of_decide_eq_true AS)
   try go_wp2_with (first | ((with_reducible refine gate_dst (N := 4) rfl ?_); refine bE 4 #[.int .i64 0, .int .i64 0, .int .i64 0, .int .i64 0, .int .i64 0, .int .i64 0, .int .i64 0, .int .i64 0, .int .i64 0, .bool false, .int .i64 0] 30 ?_; intro gb329 hg w22 hbox hb; have BK329 := Aside0.mk (hbox); have GW329 : Aside0 (w.heap.size ≤ gb329) := GS; have GE329 := GW329; replace HB := Aside0.mk (below_step (BL) hb); clear hb hbox hg; obtain ⟨hcz23_0, hcz23_1, hcz23_2, hcz23_3, hcz23_4, hcz23_5, hcz23_6, hcz23_7, hcz23_8, hcz23_9, hcz23_10, hfz23_0, hfz23_1, hfz23_2, hfz23_3, hfz23_4, hfz23_5, hfz23_6, hfz23_7, hfz23_8, hfz23_9, hfz23_10⟩ := KC11 BK329.out) | ((with_reducible refine gate_callee (f := 86) rfl ?_); refine goesL_ (some 17) rfl rfl Try.func86 (by kernel_rfl) rfl #[.slice (some ad328) x8_1.toNat c0, .func (.func 87) #[] #[.pointer (some ⟨gb329, 0, none⟩)]] rfl (MA) ?_; (with_reducible refine (impl_Task_86.calls _ _ l0 x8_1 false gb329 _ ?side1 ?side2 ?side3 ?side4 ?side5 A5.out).mono ?_); (case side1 => exact Kd.C_below HR0.out (BL)); (case side2 => exact of_decide_eq_true AS); (case side3 => exact of_decide_eq_true AS); (case side4 => exact blk_lt (g := gb329) (o := .cells #[.int .i64 ((rd_T30 l0 x8_1).f0), .int .i64 ((rd_T30 l0 x8_1).f1), .int .i64 ((rd_T30 l0 x8_1).f2), .int .i64 ((rd_T30 l0 x8_1).f3), .int .i64 ((rd_T30 l0 x8_1).f4), .int .i64 ((rd_T30 l0 x8_1).f5), .int .i64 ((rd_T30 l0 x8_1).f6), .int .i64 ((rd_T30 l0 x8_1).f7), .int .i64 ((rd_T30 l0 x8_1).f8), .bool ((rd_T30 l0 x8_1).f9), .int .i64 ((rd_T30 l0 x8_1).f10)] 30 (0, 0)) (BU BK329.out)); (case side5 => exact CZ (g := gb329) (t := 30) (cs := #[.int .i64 ((rd_T30 l0 x8_1).f0), .int .i64 ((rd_T30 l0 x8_1).f1), .int .i64 ((rd_T30 l0 x8_1).f2), .int .i64 ((rd_T30 l0 x8_1).f3), .int .i64 ((rd_T30 l0 x8_1).f4), .int .i64 ((rd_T30 l0 x8_1).f5), .int .i64 ((rd_T30 l0 x8_1).f6), .int .i64 ((rd_T30 l0 x8_1).f7), .int .i64 ((rd_T30 l0 x8_1).f8), .bool ((rd_T30 l0 x8_1).f9), .int .i64 ((rd_T30 l0 x8_1).f10)]) (BU BK329.out) 3); rintro e w24 ⟨rfl, hb⟩; refine ⟨_, rfl, ?_⟩; replace BK329 := Aside0.mk (blk_below (g := gb329) (o := .cells #[.int .i64 ((rd_T30 l0 x8_1).f0), .int .i64 ((rd_T30 l0 x8_1).f1), .int .i64 ((rd_T30 l0 x8_1).f2), .int .i64 ((rd_T30 l0 x8_1).f3), .int .i64 ((rd_T30 l0 x8_1).f4), .int .i64 ((rd_T30 l0 x8_1).f5), .int .i64 ((rd_T30 l0 x8_1).f6), .int .i64 ((rd_T30 l0 x8_1).f7), .int .i64 ((rd_T30 l0 x8_1).f8), .bool ((rd_T30 l0 x8_1).f9), .int .i64 ((rd_T30 l0 x8_1).f10)] 30 (0, 0)) (BU BK329.out) hb); replace HB := Aside0.mk (below_step (BL) hb); (try clear hb); (try clear hb2); (try clear hk); (try clear hi)))
   have n0_ := Aside0.mk (blk_drew BK329.out); have n1_ := Aside0.mk (below_drew1 HB.out); clear BK329; clear HB; have BK329 := n0_; have HB := n1_; clear n0_ n1_; refine start_ (n := 19) (S := fun w' => w'.cell? ⟨gb329, 0, none⟩ = some (.int .i64 ((rd_T30 l0 x8_1).f0)) ∧ w'.cell? ⟨gb329, 1, none⟩ = some (.int .i64 ((rd_T30 l0 x8_1).f1)) ∧ w'.cell? ⟨gb329, 2, none⟩ = some (.int .i64 ((rd_T30 l0 x8_1).f2)) ∧ w'.cell? ⟨gb329, 3, none⟩ = some (.int .i64 ((rd_T30 l0 x8_1).f3)) ∧ w'.cell? ⟨gb329, 4, none⟩ = some (.int .i64 ((rd_T30 l0 x8_1).f4)) ∧ w'.cell? ⟨gb329, 5, none⟩ = some (.int .i64 ((rd_T30 l0 x8_1).f5)) ∧ w'.cell? ⟨gb329, 6, none⟩ = some (.int .i64 ((rd_T30 l0 x8_1).f6)) ∧ w'.cell? ⟨gb329, 7, none⟩ = some (.int .i64 ((rd_T30 l0 x8_1).f7)) ∧ w'.cell? ⟨gb329, 8, none⟩ = some (.int .i64 ((rd_T30 l0 x8_1).f8)) ∧ w'.cell? ⟨gb329, 9, none⟩ = some (.bool ((rd_T30 l0 x8_1).f9)) ∧ w'.cell? ⟨gb329, 10, none⟩ = some (.int .i64 ((rd_T30 l0 x8_1).f10))) (ds := []) #[false, false, false, false, false, false, false, false, false, false, false, false, false, false, false, false, false, false, false] (by kernel_rfl) rfl rfl ⟨CZ BK329.out 0, CZ BK329.out 1, CZ BK329.out 2, CZ BK329.out 3, CZ BK329.out 4, CZ BK329.out 5, CZ BK329.out 6, CZ BK329.out 7, CZ BK329.out 8, CZ BK329.out 9, CZ BK329.out 10⟩ (fun hHeld => ?_); refine with_tabW impl_tasksOk.tab5 impl_tasksOk.bits5 (fun HT_ HW_ => ?_); generalize w24.drew = w25 at BK329 HB hHeld ⊢; refine pV 1 19 (OB 19 2) ?_; refine pV 3 21 (OB 19 10) ?_; refine pV 5 23 (OB 19 42) ?_; refine pV 7 25 (OB 19 170) ?_; refine pT 0 18 (OB 19 171) ?_; refine pT 2 20 (OB 19 175) ?_; refine pT 4 22 (OB 19 191) ?_; refine pT 6 24 (OB 19 255) ?_; refine pT 8 26 (OB 19 511) ?_; refine one_ (i := 9) (N := some 27) (OB 19 1023) rfl rfl (one_of HT_.out (by kernel_rfl)) (by decide) (fun K hK => ?_); refine goes_ Try.func21 (by kernel_rfl) rfl #[.int .i64 ((rd_T30 l0 x8_1).f0), .int .i64 ((rd_T30 l0 x8_1).f1), .int .i64 ((rd_T30 l0 x8_1).f2), .int .i64 ((rd_T30 l0 x8_1).f3)] (by rfl) rfl rfl (MA) ?_
   with_reducible refine (impl_TaskNew.calls ((rd_T30 l0 x8_1).f0) ((rd_T30 l0 x8_1).f1) ((rd_T30 l0 x8_1).f2) ((rd_T30 l0 x8_1).f3) t331 t332 t333 t334 t335 t336 t337 t338 t339 t340 t341 _ A6.out).mono ?_
   rintro e w26 ⟨rfl, hb⟩; refine ⟨_, rfl, ?_⟩; have n0_ := BB BK329.out hb; have n1_ := Aside0.mk (below_step (BL) hb); clear BK329; clear HB; have BK329 := n0_; have HB := n1_; clear n0_ n1_
   (try clear hb)
   (try clear hb2)
   (try clear hk)
   (try clear hi)
   refine hK.out _ _ ⟨CZ BK329.out 0, CZ BK329.out 1, CZ BK329.out 2, CZ BK329.out 3, CZ BK329.out 4, CZ BK329.out 5, CZ BK329.out 6, CZ BK329.out 7, CZ BK329.out 8, CZ BK329.out 9, CZ BK329.out 10⟩ (fun hHeld => ?_); clear hK K; refine norm_ (a' := ?_) ?_ ?_; rotate_left
   ·
    show Act.put _ (some 27) _ = _; simp only [Act.put, zA, zB, zC, i64_w, i32_w]; rfl
   refine pV 10 28 (OB 19 2047) ?_; refine pV 11 29 (OB 19 4095) ?_; refine pT 12 30 (OB 19 8191) ?_; refine one_ (i := 13) (N := some 31) (OB 19 16383) rfl rfl (one_of HT_.out (by kernel_rfl)) (by decide) (fun K hK => ?_); refine goes_ Try.func88 (by kernel_rfl) rfl #[.agg #[.int .i64 ((rd_T30 l0 x8_1).f0), .int .i64 ((rd_T30 l0 x8_1).f1), .int .i64 ((rd_T30 l0 x8_1).f2), .int .i64 ((rd_T30 l0 x8_1).f3), .int .i64 ((rd_T30 l0 x8_1).f4), .int .i64 ((rd_T30 l0 x8_1).f5), .int .i64 ((rd_T30 l0 x8_1).f6), .int .i64 ((rd_T30 l0 x8_1).f7), .int .i64 ((rd_T30 l0 x8_1).f8), .bool ((rd_T30 l0 x8_1).f9), .int .i64 ((rd_T30 l0 x8_1).f10)]] (by rfl) rfl rfl (MA) ?_
   with_reducible refine (impl_TaskOk.calls k1 ((rd_T30 l0 x8_1).f0) ((rd_T30 l0 x8_1).f1) ((rd_T30 l0 x8_1).f2) ((rd_T30 l0 x8_1).f3) ((rd_T30 l0 x8_1).f4) ((rd_T30 l0 x8_1).f5) ((rd_T30 l0 x8_1).f6) ((rd_T30 l0 x8_1).f7) ((rd_T30 l0 x8_1).f8) ((rd_T30 l0 x8_1).f9) ((rd_T30 l0 x8_1).f10) true _ A13.out).mono ?_
   rintro e w27 ⟨rfl, hb⟩; refine ⟨_, rfl, ?_⟩; have n0_ := BB BK329.out hb; have n1_ := Aside0.mk (below_step (BL) hb); clear BK329; clear HB; have BK329 := n0_; have HB := n1_; clear n0_ n1_
   (try clear hb)
   (try clear hb2)
   (try clear hk)
   (try clear hi)
   refine hK.out _ _ ⟨CZ BK329.out 0, CZ BK329.out 1, CZ BK329.out 2, CZ BK329.out 3, CZ BK329.out 4, CZ BK329.out 5, CZ BK329.out 6, CZ BK329.out 7, CZ BK329.out 8, CZ BK329.out 9, CZ BK329.out 10⟩ (fun hHeld => ?_); clear hK K; refine norm_ (a' := ?_) ?_ ?_; rotate_left
   ·
    show Act.put _ (some 31) _ = _; simp only [Act.put, zA, zB, zC, i64_w, i32_w]; rfl
   refine pV 14 32 (OB 19 32767) ?_; refine pV 15 33 (OB 19 65535) ?_; refine pV 16 34 (OB 19 131071) ?_; refine pV 17 35 (OB 19 262143) ?_; refine pV 18 36 (OB 19 524287) ?_; refine done_ (done_of HT_.out (by kernel_rfl)) ?_
   try go_wp2
   go_roundg k1
   case measure => have := HK1.out; omega
   case rel => exact ⟨(wrap64 (x8_1 + 1)), SD, H', ⟨by have := HK1.out; omega⟩, ⟨BL⟩⟩

/-! ### impl_ListNew: function 70 -/
def impl_ListNew.f  : Option (List Int) := if 63 ≤ 35184372088832 then (some (List.replicate 63 0)) else (none)
set_option maxHeartbeats 8000000 in
set_option maxRecDepth 100000 in
theorem impl_ListNew.calls  (r : List Int) (w : World) (h : impl_ListNew.f  = some r) :
  Calls Try.prog 70 #[] w fun e w' => ∃ v0_ : Value, e = .returned (v0_) ∧ Kd.R (Kd.int .i64) 3 w' w.heap.size (fun _ => True) v0_ r ∧ Below w.heap.size w w' := by
 have HB := Aside0.mk (Below.refl w.heap.size w)
 have H : (if 63 ≤ 35184372088832 then (some (List.replicate 63 0)) else (none)) = some r := h
 clear h
 by_cases c1 : 63 ≤ 35184372088832; rotate_left
 ·
  rw [if_neg c1] at H; exact absurd H (by simp)
 rw [if_pos c1] at H
 have c1b0 := eq_true c1
 have c1b1 : decide (63 ≤ 35184372088832) = true := decide_eq_true c1
 clear c1
 obtain ⟨y343, hy343⟩ : ∃ y_ : List Int, y_ = (List.replicate 63 0) := ⟨_, rfl⟩
 replace H : (some y343) = some r := by first | (rw [hy343]; with_reducible exact H) | (have H2_ := (Option.bind_some _ _).symm.trans H; rw [hy343]; with_reducible exact H2_) | (have H2_ := (Option.bind_some _ _).symm.trans H; with_reducible exact H2_) | with_reducible exact H | (rw [hy343]; exact H) | exact H
 have Ny343 := Aside0.mk hy343
 clear hy343
 obtain rfl := Option.some.inj H
 go_enter Try.func70, Try.ntmps70
 go_wp2_with (first | ((with_reducible refine gate_dst (N := 1) rfl ?_); refine Kd.R_make (Kd.int .i64) _ 3 rfl (N := 1) rfl 38 _ _ rfl 63 rfl rfl Try.underlying38 (.int .i64 0) 8 info3 rfl (by decide) (by omega) 0 (ok := fun _ => True) (okp := fun _ => True) rfl (fun _ hk => hk) trivial (by omega) (by omega) (Below.refl _ _) (Nat.le_refl _) ?_; intro v344 w2 ho3 hb hg_ hnew_; clear hg_ hnew_; (first | rw [← Ny343.out] at ho3 | (simp only [Int.reduceToNat] at ho3; rw [← Ny343.out] at ho3)); have HO345 := Aside0.mk (Kd.R_lower ho3 (below_size (BL))); replace HB := Aside0.mk (below_step (BL) hb); clear hb ho3))
 go_ret
 exact ⟨_, EE, RQ HO345.out, BL⟩

/-! ### impl_copyInts: function 83 -/
def impl_copyInts.f (l0 : List Int) : Option (List Int) := (some (([] : List Int) : List Int)).bind fun y346 => (if y346.length + l0.length < 17592186044416 then (some (y346 ++ l0)) else (none))
set_option maxHeartbeats 8000000 in
set_option maxRecDepth 100000 in
theorem impl_copyInts.calls (A0 : Option Addr) (c0 : Nat) (l0 : List Int) (r : List Int) (w : World) (hr0 : Kd.C (Kd.int .i64) w A0 l0.length l0) (hc0 : l0.length ≤ c0) (h : impl_copyInts.f l0 = some r) :
  Calls Try.prog 83 #[.slice A0 l0.length c0] w fun e w' => ∃ v0_ : Value, e = .returned (v0_) ∧ Kd.R (Kd.int .i64) 3 w' w.heap.size (fun _ => True) v0_ r ∧ Below w.heap.size w w' := by
 have HR0 := Aside0.mk hr0
 have HC0 := Aside0.mk hc0
 clear hr0 hc0
 have HB := Aside0.mk (Below.refl w.heap.size w)
 have H : ((some (([] : List Int) : List Int)).bind fun y346 => (if y346.length + l0.length < 17592186044416 then (some (y346 ++ l0)) else (none))) = some r := h
 clear h
 obtain ⟨y346, hy346⟩ : ∃ y_ : List Int, y_ = (([] : List Int)) := ⟨_, rfl⟩
 replace H : (if y346.length + l0.length < 17592186044416 then (some (y346 ++ l0)) else (none)) = some r := by first | (rw [hy346]; with_reducible exact H) | (have H2_ := (Option.bind_some _ _).symm.trans H; rw [hy346]; with_reducible exact H2_) | (have H2_ := (Option.bind_some _ _).symm.trans H; with_reducible exact H2_) | with_reducible exact H | (rw [hy346]; exact H) | exact H
 have Ny346 := Aside0.mk hy346
 clear hy346
 by_cases c2 : y346.length + l0.length < 17592186044416; rotate_left
 ·
  rw [if_neg c2] at H; exact absurd H (by simp)
 rw [if_pos c2] at H
 have LMc2 := Aside0.mk c2
 clear c2
 obtain ⟨y349, hy349⟩ : ∃ y_ : List Int, y_ = (y346 ++ l0) := ⟨_, rfl⟩
 replace H : (some y349) = some r := by first | (rw [hy349]; with_reducible exact H) | (have H2_ := (Option.bind_some _ _).symm.trans H; rw [hy349]; with_reducible exact H2_) | (have H2_ := (Option.bind_some _ _).symm.trans H; with_reducible exact H2_) | with_reducible exact H | (rw [hy349]; exact H) | exact H
 have Ny349 := Aside0.mk hy349
 clear hy349
 obtain rfl := Option.some.inj H
 go_enter Try.func83, Try.ntmps83
 go_wp2_with (first | ((with_reducible refine gate_dst (N := 3) rfl ?_); refine Kd.R_lit (Kd.int .i64) _ 3 ?hg (N := 3) ?hd (xs := ([] : List Int)) (inner := []) (ok := fun _ => True) (okp := fun _ => True) ?hr ?hp (fun _ hk => hk) trivial (Below.refl _ _) (Nat.le_refl _) (by simp) ?_; (case hd => rfl); (case hg => rfl); (case hr => first | (go_simp; done) | (go_simp; rfl)); (case hp => exact (Reps.none _ _)); intro v347 w3 ho4 hb hg_ hnew_; clear hg_ hnew_; (first | rw [← Ny346.out] at ho4 | (simp only [Int.reduceToNat] at ho4; rw [← Ny346.out] at ho4)); have HO348 := Aside0.mk (Kd.R_lower ho4 (below_size (BL))); replace HB := Aside0.mk (below_step (BL) hb); clear hb ho4) | ((with_reducible refine gate_builtin (b := .append) (xs := #[.tmp 3, .tmp 4]) rfl ?_); at_builtin; refine Kd.R_append_rows (Kd.int .i64) (w0 := w) w.heap.size rfl (.tmp 3) (.tmp 4) 38 3 (.int .i64 0) 8 rfl Try.underlying38 info3 rfl (by decide) (by omega) v347 y346 l0 _ _ _ (fun _ => True) (fun _ => False) rfl rfl ?aO ?aR (fun _ _ h => h) (fun _ h => h.elim) ?aF ?aB ?aS ?aL ?_; (case aR => exact CB HR0.out); (case aB => exact (BL)); (case aF => exact (fun _ _ => trivial)); (case aO => exact RQ HO348.out); (case aS => exact (below_size (BL))); (case aL => have := LMc2.out; omega); intro v350 w5 ho hb hg hat; rw [← Ny349.out] at ho; have n0_ := Aside0.mk (hb); have n1_ := Aside0.mk (ho); clear HB; clear HO348; have HB := n0_; have HO351 := n1_; clear n0_ n1_; clear ho hb hg hat))
 go_ret
 exact ⟨_, EE, RQ HO351.out, BL⟩

/-! ### impl_isNumber: function 105 -/
def impl_isNumber.f (a0 : Int) : Option (Bool) := (impl_within.f a0 0 1000000000).bind fun t352 => (some t352)
set_option maxHeartbeats 8000000 in
set_option maxRecDepth 100000 in
theorem impl_isNumber.calls (a0 : Int) (r : Bool) (w : World) (h : impl_isNumber.f a0 = some r) :
  Calls Try.prog 105 #[.int .i64 a0] w fun e w' => e = .returned (.bool r) ∧ Drawn0 w w' := by
 have H : ((impl_within.f a0 0 1000000000).bind fun t352 => (some t352)) = some r := h
 clear h
 replace H := Option.bind_eq_some_iff.mp H
 obtain ⟨t352, A20, H⟩ := H
 have A2 := Aside0.mk A20
 clear A20
 obtain rfl := Option.some.inj H
 go_enter Try.func105, Try.ntmps105
 go_wp2_with (first | ((with_reducible refine gate_callee (f := 89) rfl ?_); refine goesL_ (some 4) rfl rfl Try.func89 (by kernel_rfl) rfl #[.int .i64 a0, .int .i64 0, .int .i64 1000000000] rfl (MA) ?_; (with_reducible refine (impl_within.calls a0 0 1000000000 t352 _ A2.out).mono ?_); rintro e w' ⟨rfl, ⟨nd, rfl⟩⟩; refine ⟨_, rfl, ?_⟩))
 go_ret
 exact ⟨by first | rfl | (simp; done) | (simp [*]; done), by repeat (first | exact Drawn0.refl _ | apply Drawn0.step)⟩

/-! ### impl_CellsOk: function 102 -/
def impl_CellsOk.l0 : Nat → List Int → List Int → Int → Int → Option (Bool)
 | 0, _, _, _, _ => none
 | k + 1, x0, x5, x6, x7 => if x7 < x6 then (if 0 ≤ x7 then (if x7 < (x5.length : Int) then ((impl_isNumber.f (rd x5 x7)).bind fun t354 => (if t354 = true then (impl_CellsOk.l0 k x0 x5 x6 (wrap64 (x7 + 1))) else (some false))) else (none)) else (none)) else ((impl_within.f (x0.length : Int) 1 80).bind fun t355 => (some t355))
def impl_CellsOk.f (k : Nat) (l0 : List Int) : Option (Bool) := impl_CellsOk.l0 k l0 l0 (l0.length : Int) 0
set_option maxHeartbeats 8000000 in
set_option maxRecDepth 100000 in
theorem impl_CellsOk.calls (k : Nat) (A0 : Option Addr) (c0 : Nat) (l0 : List Int) (r : Bool) (w : World) (hr0 : Kd.C (Kd.int .i64) w A0 l0.length l0) (hc0 : l0.length ≤ c0) (h : impl_CellsOk.f k l0 = some r) :
  Calls Try.prog 102 #[.slice A0 l0.length c0] w fun e w' => e = .returned (.bool r) ∧ Drawn0 w w' := by
 have HR0 := Aside0.mk hr0
 have HC0 := Aside0.mk hc0
 clear hr0 hc0
 have H : (impl_CellsOk.l0 k l0 l0 (l0.length : Int) 0) = some r := h
 clear h
 have H' := Aside0.mk H
 clear H
 go_enter Try.func102, Try.ntmps102
 go_wp2
 go_loopg [7] k (fun kq v7 w' => ∃ (x7_1 : Int), v7 = .int .i64 x7_1 ∧ Aside0 (impl_CellsOk.l0 kq l0 l0 (l0.length : Int) x7_1 = some r) ∧ Aside0 (kq ≤ k) ∧ Drawn0 w w')
 case atStart => exact ⟨(0), SD, H', ⟨Nat.le_refl _⟩, by repeat (first | exact Drawn0.refl _ | apply Drawn0.step)⟩
 case round =>
  clear H'
  try clear c1
  obtain ⟨x7_1, rfl, HA, HK1, ⟨m1, rfl⟩⟩ := hrel; cases gk with
  | zero => exact absurd HA.out (by simp [impl_CellsOk.l0])
  | succ k1 =>
   have H := HA.out; clear HA; simp only [impl_CellsOk.l0] at H
   by_cases c2 : x7_1 < (l0.length : Int); rotate_left
   ·
    rw [if_neg c2] at H; have c2b0 : decide (x7_1 < (l0.length : Int)) = false := decide_eq_false c2; clear c2; replace H := Option.bind_eq_some_iff.mp H; obtain ⟨t355, A70, H⟩ := H; have A7 := Aside0.mk A70; clear A70; obtain rfl := Option.some.inj H
    go_wp2_with (first | ((with_reducible refine gate_callee (f := 89) rfl ?_); refine goesL_ (some 17) rfl rfl Try.func89 (by kernel_rfl) rfl #[.int .i64 (l0.length : Int), .int .i64 1, .int .i64 80] rfl (MA) ?_; (with_reducible refine (impl_within.calls (l0.length : Int) 1 80 t355 _ A7.out).mono ?_); rintro e w' ⟨rfl, ⟨nd, rfl⟩⟩; refine ⟨_, rfl, ?_⟩))
    go_ret
    exact ⟨by first | rfl | (simp; done) | (simp [*]; done), by repeat (first | exact Drawn0.refl _ | apply Drawn0.step)⟩
   rw [if_pos c2] at H; have c2b0 : decide (x7_1 < (l0.length : Int)) = true := decide_eq_true c2; clear c2
   by_cases c3 : 0 ≤ x7_1; rotate_left
   ·
    rw [if_neg c3] at H; exact absurd H (by simp)
   rw [if_pos c3] at H; have c3b0 : decide (0 ≤ x7_1) = true := decide_eq_true c3; clear c3
   by_cases c4 : x7_1 < (l0.length : Int); rotate_left
   ·
    rw [if_neg c4] at H; exact absurd H (by simp)
   rw [if_pos c4] at H; have c4b0 : decide (x7_1 < (l0.length : Int)) = true := decide_eq_true c4; clear c4; replace H := Option.bind_eq_some_iff.mp H; obtain ⟨t354, A50, H⟩ := H; have A5 := Aside0.mk A50; clear A50
   by_cases c6 : t354 = true; rotate_left
   ·
    replace c6 := Bool.eq_false_iff.mpr c6; subst c6
    have H1 : (some false) = some r := by rw [if_neg (show ¬ (false = true) by decide)] at H; exact H
    clear H; have H := H1; clear H1; obtain rfl := Option.some.inj H; have p353 : 0 ≤ (x7_1 : Int) := of_decide_eq_true AS; have q353 : x7_1 < (l0.length : Int) := of_decide_eq_true AS; obtain ⟨ad353, e353, hx353_0⟩ := Kd.at_int HR0.out x7_1 p353 q353; cases e353; replace p353 := eq_true p353; replace q353 := eq_true q353
    go_wp2_with (first | ((with_reducible refine gate_callee (f := 105) rfl ?_); refine goesL_ (some 12) rfl rfl Try.func105 (by kernel_rfl) rfl #[.int .i64 (rd l0 x7_1)] rfl (MA) ?_; (with_reducible refine (impl_isNumber.calls (rd l0 x7_1) false _ A5.out).mono ?_); rintro e w' ⟨rfl, ⟨nd, rfl⟩⟩; refine ⟨_, rfl, ?_⟩))
    go_ret
    exact ⟨by first | rfl | (simp; done) | (simp [*]; done), by repeat (first | exact Drawn0.refl _ | apply Drawn0.step)⟩
   subst c6
   have H1 : (impl_CellsOk.l0 k1 l0 l0 (l0.length : Int) (wrap64 (x7_1 + 1))) = some r := by rw [if_pos rfl] at H; exact H
   clear H; have H := H1; clear H1; have H' := Aside0.mk H; clear H; have p353 : 0 ≤ (x7_1 : Int) := of_decide_eq_true AS; have q353 : x7_1 < (l0.length : Int) := of_decide_eq_true AS; obtain ⟨ad353, e353, hx353_0⟩ := Kd.at_int HR0.out x7_1 p353 q353; cases e353; replace p353 := eq_true p353; replace q353 := eq_true q353
   go_wp2_with (first | ((with_reducible refine gate_callee (f := 105) rfl ?_); refine goesL_ (some 12) rfl rfl Try.func105 (by kernel_rfl) rfl #[.int .i64 (rd l0 x7_1)] rfl (MA) ?_; (with_reducible refine (impl_isNumber.calls (rd l0 x7_1) true _ A5.out).mono ?_); rintro e w' ⟨rfl, ⟨nd, rfl⟩⟩; refine ⟨_, rfl, ?_⟩))
   go_roundg k1
   case measure => have := HK1.out; omega
   case rel => exact ⟨(wrap64 (x7_1 + 1)), SD, H', ⟨by have := HK1.out; omega⟩, by repeat (first | exact Drawn0.refl _ | apply Drawn0.step)⟩

/-! ### impl_keyCell: function 77 -/
def impl_keyCell.f (a0 : Int) : Option (Int) := some (wrap64 (3 * a0))
set_option maxHeartbeats 8000000 in
set_option maxRecDepth 100000 in
theorem impl_keyCell.calls (a0 : Int) (r : Int) (w : World) (h : impl_keyCell.f a0 = some r) :
  Calls Try.prog 77 #[.int .i64 a0] w fun e w' => e = .returned (.int .i64 r) ∧ Drawn0 w w' := by
 have H : (some (wrap64 (3 * a0))) = some r := h
 clear h
 obtain rfl := Option.some.inj H
 go_enter Try.func77, Try.ntmps77
 go_wp2
 go_ret
 exact ⟨by first | rfl | (simp; done) | (simp [*]; done), by repeat (first | exact Drawn0.refl _ | apply Drawn0.step)⟩

/-! ### impl_Task_done: function 108 -/
def impl_Task_done.f (s0_0 : Int) (s0_1 : Int) (s0_2 : Int) (s0_3 : Int) (s0_4 : Int) (s0_5 : Int) (s0_6 : Int) (s0_7 : Int) (s0_8 : Int) (s0_9 : Bool) (s0_10 : Int) (a1 : Int) : Option (Int × Int × Int × Int × Int × Int × Int × Int × Int × Bool × Int) := some (s0_0, s0_1, s0_2, s0_3, s0_4, s0_5, s0_6, s0_7, s0_8, true, a1)
set_option maxHeartbeats 8000000 in
set_option maxRecDepth 100000 in
theorem impl_Task_done.calls (g : Nat) (s0_0 : Int) (s0_1 : Int) (s0_2 : Int) (s0_3 : Int) (s0_4 : Int) (s0_5 : Int) (s0_6 : Int) (s0_7 : Int) (s0_8 : Int) (s0_9 : Bool) (s0_10 : Int) (a1 : Int) (r1 : Int) (r2 : Int) (r3 : Int) (r4 : Int) (r5 : Int) (r6 : Int) (r7 : Int) (r8 : Int) (r9 : Int) (r10 : Bool) (r11 : Int) (w0 w : World) (hI : IsS30 w0 w g s0_0 s0_1 s0_2 s0_3 s0_4 s0_5 s0_6 s0_7 s0_8 s0_9 s0_10) (hB : Below w0.heap.size w0 w) (h : impl_Task_done.f s0_0 s0_1 s0_2 s0_3 s0_4 s0_5 s0_6 s0_7 s0_8 s0_9 s0_10 a1 = some (r1, r2, r3, r4, r5, r6, r7, r8, r9, r10, r11)) :
  Calls Try.prog 108 #[.pointer (some ⟨g, 0, none⟩), .int .i64 a1] w fun e w' => e = .returned (.tuple #[]) ∧ IsS30 w0 w' g r1 r2 r3 r4 r5 r6 r7 r8 r9 r10 r11 ∧ Below w0.heap.size w0 w' ∧ KeepBut w w' g none := by
 have HI0 := Aside0.mk hI
 have HK := Aside0.mk (KeepBut.refl w g none)
 have HL := Aside0.mk hB.size
 clear hI
 have HW0 := Aside0.mk hB.size
 have HB := Aside0.mk hB
 clear hB
 have H : (some (s0_0, s0_1, s0_2, s0_3, s0_4, s0_5, s0_6, s0_7, s0_8, true, a1)) = some (r1, r2, r3, r4, r5, r6, r7, r8, r9, r10, r11) := h
 clear h
 simp only [Option.some.injEq, Prod.mk.injEq] at H
 obtain ⟨rfl, rfl, rfl, rfl, rfl, rfl, rfl, rfl, rfl, rfl, rfl⟩ := H
 obtain ⟨HGz3, hgz3⟩ := HI0.out
 have hcz3_0 := cellS30_0 HGz3
 have hcz3_1 := cellS30_1 HGz3
 have hcz3_2 := cellS30_2 HGz3
 have hcz3_3 := cellS30_3 HGz3
 have hcz3_4 := cellS30_4 HGz3
 have hcz3_5 := cellS30_5 HGz3
 have hcz3_6 := cellS30_6 HGz3
 have hcz3_7 := cellS30_7 HGz3
 have hcz3_8 := cellS30_8 HGz3
 have hcz3_9 := cellS30_9 HGz3
 have hcz3_10 := cellS30_10 HGz3
 have hfz3_0 := blk_frozen HGz3 0
 have hfz3_1 := blk_frozen HGz3 1
 have hfz3_2 := blk_frozen HGz3 2
 have hfz3_3 := blk_frozen HGz3 3
 have hfz3_4 := blk_frozen HGz3 4
 have hfz3_5 := blk_frozen HGz3 5
 have hfz3_6 := blk_frozen HGz3 6
 have hfz3_7 := blk_frozen HGz3 7
 have hfz3_8 := blk_frozen HGz3 8
 have hfz3_9 := blk_frozen HGz3 9
 have hfz3_10 := blk_frozen HGz3 10
 clear HGz3 hgz3
 go_enter Try.func108, Try.ntmps108
 go_wp2
 first | go_end0 | ((try simp only [Exit.inBlock, Exit.then]); refine bodyPost_ret (results_none rfl _ _ _) rfl ?_)
 exact ⟨EE, by repeat (first | (with_reducible first | exact HI0.out | apply IsS30.alloc | apply IsS30.drewN | apply IsS30.drew | apply IsS30.set_0 | apply IsS30.set_1 | apply IsS30.set_2 | apply IsS30.set_3 | apply IsS30.set_4 | apply IsS30.set_5 | apply IsS30.set_6 | apply IsS30.set_7 | apply IsS30.set_8 | apply IsS30.set_9 | apply IsS30.set_10) | exact HI0.out), by repeat (first | (with_reducible first | exact HB.out | apply below_alloc | apply pw_below_drewN | apply below_drew1 | refine below_set ?_ (IsS30.ge HI0.out)) | exact HB.out), by repeat (first | (with_reducible first | exact HK.out | apply KeepBut.set_ | apply keep_drewN | apply keep_drew | apply keep_alloc) | exact HK.out)⟩

/-! ### impl_wordCell: function 94 -/
def impl_wordCell.f (a0 : Int) : Option (Int) := if a0 = 0 then (some 0) else (some (wrap64 ((wrap64 (3 * a0)) + 2)))
set_option maxHeartbeats 8000000 in
set_option maxRecDepth 100000 in
theorem impl_wordCell.calls (a0 : Int) (r : Int) (w : World) (h : impl_wordCell.f a0 = some r) :
  Calls Try.prog 94 #[.int .i64 a0] w fun e w' => e = .returned (.int .i64 r) ∧ Drawn0 w w' := by
 have H : (if a0 = 0 then (some 0) else (some (wrap64 ((wrap64 (3 * a0)) + 2)))) = some r := h
 clear h
 by_cases c2 : a0 = 0; rotate_left
 ·
  rw [if_neg c2] at H; have c2b0 : (a0 == 0) = false := beq_eq_false_iff_ne.mpr c2; have c2b1 : (a0 != 0) = true := bne_iff_ne.mpr c2; obtain rfl := Option.some.inj H
  go_enter Try.func94, Try.ntmps94
  go_wp2
  go_ret
  exact ⟨by first | rfl | (simp; done) | (simp [*]; done), by repeat (first | exact Drawn0.refl _ | apply Drawn0.step)⟩
 rw [if_pos c2] at H
 have c2b0 : (a0 == 0) = true := beq_iff_eq.mpr c2
 have c2b1 : (a0 != 0) = false := bne_eq_false_iff_eq.mpr c2
 clear c2
 obtain rfl := Option.some.inj H
 go_enter Try.func94, Try.ntmps94
 go_wp2
 go_ret
 exact ⟨by first | rfl | (simp; done) | (simp [*]; done), by repeat (first | exact Drawn0.refl _ | apply Drawn0.step)⟩

end Go.Proofs.Ytfkhncoiifojnaa.Qrt
