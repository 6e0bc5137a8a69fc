-- Laid by myprint.py, a program of this session's own, over the kit's print. Not trusted: Lean checks it.
import Derived.Test.YthfppepnpngfmaaQacx0
import Derived.Test.YthfppepnpngfmaaQacx1
namespace Go.Proofs.Ythfppepnpngfmaa.Qac
open Go.RowKit Go.Proofs.YthfppepnpngfmaaW.PrintWords Go.Proofs.YthfppepnpngfmaaW.PrintLast Go.Proofs.YthfppepnpngfmaaW.PrintMore
attribute [local go_sem] Go.Proofs.Ythfppepnpngfmaa.StrCmp.gtr_less Go.Proofs.Ythfppepnpngfmaa.StrCmp.geq_less Go.Proofs.Ythfppepnpngfmaa.StrCmp.leq_less max2_int min2_int max_two min_two max_three min_three max_four min_four   -- for this text's walks alone
set_option linter.unusedVariables false
set_option linter.unusedSimpArgs false

attribute [local go_sem high] eqA45
-- NOT PRINTED: function 77 (impl_File_77)

/-! ### impl_placeOf: function 54 -/
set_option maxHeartbeats 1000000 in
theorem impl_placeOf.test (a b : ByteArray) (c : Int) (s : ByteArray) (B : Nat) (w : World) (hB : B < w.heap.size) (hc : w.cell? ⟨B, 0, none⟩ = some (.string s)) :
    Calls Try.prog 78 #[.agg #[.string a, .string b, .int .i64 c], .pointer (some ⟨B, 0, none⟩)] w fun e w' => e = .returned (.bool (a.toList == s.toList)) ∧ Below w.heap.size w w' := by
  have hu45 := Try.underlying45
  go_enter Try.func78, Try.ntmps78
  go_wp2
  go_ret
  exact ⟨rfl, below_alloc (Below.refl _ _) _⟩
def impl_placeOf.ix (s : ByteArray) : List S45 → Int → Int
  | [], _ => -1
  | x :: r, i => if x.f0.toList == s.toList then i else impl_placeOf.ix s r (i + 1)
theorem impl_placeOf.drop_rd (l : List S45) (i : Nat) (h : i < l.length) : l.drop i = rd_T45 l (i : Int) :: l.drop (i + 1) := by
  rw [List.drop_eq_getElem_cons h]; congr 1
  unfold rd_T45
  rw [Int.toNat_natCast, List.getD_eq_getElem?_getD, List.getElem?_eq_getElem h]; rfl
set_option maxHeartbeats 2000000 in
theorem impl_placeOf.index (l : List S45) (A : Option Addr) (c : Nat) (s : ByteArray) (B : Nat) (w : World) (hl : Kd.C k45 w A l.length l) (hB : B < w.heap.size) (hc : w.cell? ⟨B, 0, none⟩ = some (.string s)) :
    Calls Try.prog 77 #[.slice A l.length c, .func (.func 78) #[] #[.pointer (some ⟨B, 0, none⟩)]] w fun e w' => e = .returned (.int .i64 (impl_placeOf.ix s l 0)) ∧ Below w.heap.size w w' := by
  have hu45 := Try.underlying45
  have hmax := Kd.C_max hl
  have HL := Aside0.mk hl
  have HC := Aside0.mk hc
  clear hl hc
  go_enter Try.func77, Try.ntmps77
  go_wp2
  go_loopg [5, 8] l.length (fun gg _ s8 wr => ∃ kk : Nat, kk ≤ l.length ∧ l.length - kk ≤ gg ∧ s8 = .int .i64 kk ∧ Aside0 (Below w.heap.size w wr) ∧ Aside0 (impl_placeOf.ix s (l.drop kk) kk = impl_placeOf.ix s l 0))
  case atStart => exact ⟨0, Nat.zero_le _, by omega, rfl, ⟨Below.refl _ w⟩, ⟨rfl⟩⟩
  case round =>
    obtain ⟨kk, hkk, hg, rfl, BW, IX⟩ := hrel
    by_cases hlt : kk < l.length
    · have hltz : (kk : Int) < (l.length : Int) := by omega
      have hcB := (BW.out.cell (p := ⟨B, 0, none⟩) hB).trans HC.out
      obtain ⟨ad, e1, x0, x1, x2⟩ := at_T45 HL.out (kk : Int) (by omega) hltz
      cases e1
      simp only [Int.toNat_natCast] at x0 x1 x2
      replace x0 := (BW.out.cell (World.block_lt_of_cell? w _ x0)).trans x0
      replace x1 := (BW.out.cell (World.block_lt_of_cell? w _ x1)).trans x1
      replace x2 := (BW.out.cell (World.block_lt_of_cell? w _ x2)).trans x2
      have hcall := impl_placeOf.test (rd_T45 l kk).f0 (rd_T45 l kk).f1 (rd_T45 l kk).f2 s B wr (Nat.lt_of_lt_of_le hB BW.out.size) hcB
      have IY := IX.out
      rw [impl_placeOf.drop_rd l kk hlt, impl_placeOf.ix] at IY
      clear hcB
      cases hq : (rd_T45 l (kk : Int)).f0.toList == s.toList with
      | true =>
        rw [hq, if_pos rfl] at IY
        rw [hq] at hcall
        have HIY := Aside0.mk IY
        clear IY hq IX
        go_wp2_with (go_at_call 78; refine hcall.mono ?_; rintro e w' ⟨rfl, hb'⟩)
        go_ret
        exact ⟨by rw [HIY.out]; rfl, below_then BW.out BW.out.size hb'⟩
      | false =>
        rw [hq, if_neg (by simp)] at IY
        rw [hq] at hcall
        have HIY := Aside0.mk IY
        clear IY hq IX
        go_wp2_with (go_at_call 78; refine hcall.mono ?_; rintro e w' ⟨rfl, hb'⟩)
        go_roundg (l.length - (kk + 1))
        case measure => omega
        case rel => exact ⟨kk + 1, by omega, by omega, by go_num, ⟨below_then BW.out BW.out.size hb'⟩, HIY⟩
    · have hltz : ¬ (kk : Int) < (l.length : Int) := by omega
      have : kk = l.length := by omega
      subst this
      have IY := IX.out
      rw [List.drop_length, impl_placeOf.ix] at IY
      have HIY := Aside0.mk IY
      clear IY IX
      go_wp2
      go_ret
      exact ⟨by rw [← HIY.out]; rfl, BW.out⟩
def impl_placeOf.f (l0_0 : List S45) (a1 : ByteArray) : Option Int := some (impl_placeOf.ix a1 l0_0 0)
set_option maxHeartbeats 2000000 in
theorem impl_placeOf.calls (A0_0 : Option Addr) (c0_0 : Nat) (l0_0 : List (S45)) (a1 : ByteArray) (r : Int) (w : World) (hr0_0 : Kd.C k45 w A0_0 l0_0.length l0_0) (hc0_0 : l0_0.length ≤ c0_0) (h : impl_placeOf.f l0_0 a1 = some r) :
    Calls Try.prog 54 #[.agg #[.slice A0_0 l0_0.length c0_0], .string a1] w fun e w' => e = .returned (.int .i64 r) ∧ Below w.heap.size w w' := by
  obtain rfl : impl_placeOf.ix a1 l0_0 0 = r := by unfold impl_placeOf.f at h; injection h
  have hu29 := Try.underlying29
  have hx := impl_placeOf.index l0_0 A0_0 c0_0 a1 (w.heap.size + 1) ((w.alloc (.cells #[.slice A0_0 l0_0.length c0_0] 29)).alloc (.cells #[.string a1] 9)) (Kd.C_alloc (Kd.C_alloc hr0_0 _) _) (by simp) (by go_simp)
  clear h hr0_0 hc0_0
  go_enter Try.func54, Try.ntmps54
  go_wp2_with (go_at_call 77; refine hx.mono ?_; rintro e w' ⟨rfl, hb'⟩)
  go_ret
  exact ⟨rfl, below_then (below_alloc (below_alloc (Below.refl _ _) _) _) (by simp; omega) hb'⟩

/-! ### impl_FileAt: function 18 -/
def impl_FileAt.f (l0_0 : List (S45)) (a1 : ByteArray) : Option (ByteArray × Bool) := (impl_placeOf.f l0_0 a1).bind fun t102 => (if t102 < 0 then (some ((⟨#[]⟩ : ByteArray), false)) else (if 0 ≤ t102 then (if t102 < (l0_0.length : Int) then (some ((rd_T45 l0_0 t102).f1, true)) else (none)) else (none)))
set_option maxHeartbeats 8000000 in
set_option maxRecDepth 100000 in
theorem impl_FileAt.calls (A0_0 : Option Addr) (c0_0 : Nat) (l0_0 : List (S45)) (a1 : ByteArray) (r1 : ByteArray) (r2 : Bool) (w : World) (hr0_0 : Kd.C k45 w A0_0 l0_0.length l0_0) (hc0_0 : l0_0.length ≤ c0_0) (h : impl_FileAt.f l0_0 a1 = some (r1, r2)) :
  Calls Try.prog 18 #[.agg #[.slice A0_0 l0_0.length c0_0], .string a1] w fun e w' => e = .returned (.tuple #[.string r1, .bool r2]) ∧ Below w.heap.size w w' := by
 have hu29 := Try.underlying29
 have HR0_0 := Aside0.mk hr0_0
 have HC0_0 := Aside0.mk hc0_0
 clear hr0_0 hc0_0
 have HB := Aside0.mk (Below.refl w.heap.size w)
 have H : ((impl_placeOf.f l0_0 a1).bind fun t102 => (if t102 < 0 then (some ((⟨#[]⟩ : ByteArray), false)) else (if 0 ≤ t102 then (if t102 < (l0_0.length : Int) then (some ((rd_T45 l0_0 t102).f1, true)) else (none)) else (none)))) = some (r1, r2) := h
 clear h
 replace H := Option.bind_eq_some_iff.mp H
 obtain ⟨t102, A30, H⟩ := H
 have A3 := Aside0.mk A30
 clear A30
 by_cases c4 : t102 < 0
 ·
  rw [if_pos c4] at H; have c4b0 : decide (t102 < 0) = true := decide_eq_true c4; clear c4; simp only [Option.some.injEq, Prod.mk.injEq] at H; obtain ⟨rfl, rfl⟩ := H
  go_enter Try.func18, Try.ntmps18
  go_wp2_with (first | ((with_reducible refine gate_dst (N := 2) rfl ?_); refine bE 2 #[.slice A0_0 l0_0.length c0_0] 29 ?_; intro gb101 hg w5 hbox hb; have BK101 := Aside0.mk (hbox); have GW101 : Aside0 (w.heap.size ≤ gb101) := GS; have GE101 := GW101; replace HB := BS hb; clear hb hbox hg; obtain ⟨hcz6_0, hfz6_0⟩ := KC1 BK101.out) | ((with_reducible refine gate_callee (f := 54) rfl ?_); refine goesL_ (some 9) rfl rfl Try.func54 (by kernel_rfl) rfl #[.agg #[.slice A0_0 l0_0.length c0_0], .string a1] rfl (MA) ?_; (with_reducible refine (impl_placeOf.calls _ _ l0_0 a1 t102 _ ?side1 ?side2 A3.out).mono ?_); (case side1 => exact CB HR0_0.out); (case side2 => exact HC0_0.out); rintro e w7 ⟨rfl, hb⟩; refine ⟨_, rfl, ?_⟩; replace BK101 := BB BK101.out hb; replace HB := BS hb; (try clear hb)))
  go_ret2
  exact ⟨EE, BL⟩
 rw [if_neg c4] at H
 have c4b0 : decide (t102 < 0) = false := decide_eq_false c4
 clear c4
 by_cases c8 : 0 ≤ t102; rotate_left
 ·
  rw [if_neg c8] at H; exact absurd H (by simp)
 rw [if_pos c8] at H
 have c8b0 : decide (0 ≤ t102) = true := decide_eq_true c8
 clear c8
 by_cases c9 : t102 < (l0_0.length : Int); rotate_left
 ·
  rw [if_neg c9] at H; exact absurd H (by simp)
 rw [if_pos c9] at H
 have c9b0 : decide (t102 < (l0_0.length : Int)) = true := decide_eq_true c9
 clear c9
 simp only [Option.some.injEq, Prod.mk.injEq] at H
 obtain ⟨rfl, rfl⟩ := H
 go_enter Try.func18, Try.ntmps18
 go_wp2_with (first | ((with_reducible refine gate_dst (N := 2) rfl ?_); refine bE 2 #[.slice A0_0 l0_0.length c0_0] 29 ?_; intro gb101 hg w10 hbox hb; have BK101 := Aside0.mk (hbox); have GW101 : Aside0 (w.heap.size ≤ gb101) := GS; have GE101 := GW101; replace HB := BS hb; clear hb hbox hg; obtain ⟨hcz11_0, hfz11_0⟩ := KC1 BK101.out) | ((with_reducible refine gate_callee (f := 54) rfl ?_); refine goesL_ (some 9) rfl rfl Try.func54 (by kernel_rfl) rfl #[.agg #[.slice A0_0 l0_0.length c0_0], .string a1] rfl (MA) ?_; (with_reducible refine (impl_placeOf.calls _ _ l0_0 a1 t102 _ ?side1 ?side2 A3.out).mono ?_); (case side1 => exact CB HR0_0.out); (case side2 => exact HC0_0.out); rintro e w12 ⟨rfl, hb⟩; refine ⟨_, rfl, ?_⟩; replace BK101 := BB BK101.out hb; replace HB := BS hb; (try clear hb); obtain ⟨hcz13_0, hfz13_0⟩ := KC1 BK101.out; have p103 : 0 ≤ (t102 : Int) := of_decide_eq_true AS; have q103 : t102 < (l0_0.length : Int) := of_decide_eq_true AS; obtain ⟨ad103, e103, hx103_0, hx103_1, hx103_2⟩ := at_T45 HR0_0.out t102 p103 q103; cases e103; replace hx103_0 := HX hx103_0; replace hx103_1 := HX hx103_1; replace hx103_2 := HX hx103_2; replace p103 := eq_true p103; replace q103 := eq_true q103))
 go_ret2
 exact ⟨EE, BL⟩

/-! ### laws_big: function 21 -/
def laws_big.f (l0 : List Int) : Option (Bool) := some (decide ((l0.length : Int) > 1048576))
set_option maxHeartbeats 8000000 in
set_option maxRecDepth 100000 in
theorem laws_big.calls (A0 : Option Addr) (c0 : Nat) (l0 : List Int) (r : Bool) (w : World) (hr0 : Kd.C (Kd.int .u8) w A0 l0.length l0) (hc0 : l0.length ≤ c0) (h : laws_big.f l0 = some r) :
  Calls Try.prog 21 #[.slice A0 l0.length c0] w fun e w' => e = .returned (.bool r) ∧ Drawn0 w w' := by
 have HR0 := Aside0.mk hr0
 have HC0 := Aside0.mk hc0
 clear hr0 hc0
 have H : (some (decide ((l0.length : Int) > 1048576))) = some r := h
 clear h
 obtain rfl := Option.some.inj H
 go_enter Try.func21, Try.ntmps21
 go_wp2
 go_ret
 exact ⟨by first | rfl | (simp; done) | (simp [*]; done), by repeat (first | exact Drawn0.refl _ | apply Drawn0.step)⟩

/-! ### laws_sameDisk: function 26 -/
def laws_sameDisk.l0 : Nat → Int → List (S45) → List (S45) → Option (Bool)
 | 0, _, _, _ => none
 | k + 1, x5, x105000, x106000 => if x5 < (x105000.length : Int) then (if 0 ≤ x5 then (if x5 < (x106000.length : Int) then (if (!((((rd_T45 x105000 x5).f0).toList) == (((rd_T45 x106000 x5).f0).toList)) || (!((((rd_T45 x105000 x5).f1).toList) == (((rd_T45 x106000 x5).f1).toList)) || (!(((rd_T45 x105000 x5).f2) == ((rd_T45 x106000 x5).f2))))) = true then (some false) else (laws_sameDisk.l0 k (wrap64 (x5 + 1)) x105000 x106000)) else (none)) else (none)) else (some true)
def laws_sameDisk.f (k : Nat) (l0_0 : List (S45)) (l1_0 : List (S45)) : Option (Bool) := if (l0_0.length : Int) = (l1_0.length : Int) then (laws_sameDisk.l0 k 0 l0_0 l1_0) else (some false)
set_option maxHeartbeats 8000000 in
set_option maxRecDepth 100000 in
theorem laws_sameDisk.calls (k : Nat) (A0_0 : Option Addr) (c0_0 : Nat) (l0_0 : List (S45)) (A1_0 : Option Addr) (c1_0 : Nat) (l1_0 : List (S45)) (r : Bool) (w : World) (hr0_0 : Kd.C k45 w A0_0 l0_0.length l0_0) (hc0_0 : l0_0.length ≤ c0_0) (hr1_0 : Kd.C k45 w A1_0 l1_0.length l1_0) (hc1_0 : l1_0.length ≤ c1_0) (h : laws_sameDisk.f k l0_0 l1_0 = some r) :
  Calls Try.prog 26 #[.agg #[.slice A0_0 l0_0.length c0_0], .agg #[.slice A1_0 l1_0.length c1_0]] w fun e w' => e = .returned (.bool r) ∧ Below w.heap.size w w' := by
 have hu29 := Try.underlying29
 have hu45 := Try.underlying45
 have HR0_0 := Aside0.mk hr0_0
 have HC0_0 := Aside0.mk hc0_0
 clear hr0_0 hc0_0
 have HR1_0 := Aside0.mk hr1_0
 have HC1_0 := Aside0.mk hc1_0
 clear hr1_0 hc1_0
 have HB := Aside0.mk (Below.refl w.heap.size w)
 have H : (if (l0_0.length : Int) = (l1_0.length : Int) then (laws_sameDisk.l0 k 0 l0_0 l1_0) else (some false)) = some r := h
 clear h
 by_cases c3 : (l0_0.length : Int) = (l1_0.length : Int); rotate_left
 ·
  rw [if_neg c3] at H; have c3b0 : ((l0_0.length : Int) == (l1_0.length : Int)) = false := beq_eq_false_iff_ne.mpr c3; have c3b1 : ((l0_0.length : Int) != (l1_0.length : Int)) = true := bne_iff_ne.mpr c3
  have c3b2 : (l0_0.length == l1_0.length) = false := by first | simpa using c3 | (simp at c3 ⊢; omega)
  obtain rfl := Option.some.inj H
  go_enter Try.func26, Try.ntmps26
  go_wp2_with (first | ((with_reducible refine gate_dst (N := 2) rfl ?_); refine bE 2 #[.slice A0_0 l0_0.length c0_0] 29 ?_; intro gb104 hg w21 hbox hb; have BK104 := Aside0.mk (hbox); have GW104 : Aside0 (w.heap.size ≤ gb104) := GS; have GE104 := GW104; replace HB := BS hb; clear hb hbox hg) | ((with_reducible refine gate_dst (N := 3) rfl ?_); refine bE 3 #[.slice A1_0 l1_0.length c1_0] 29 ?_; intro gb105 hg w22 hbox hb; have BK105 := Aside0.mk (hbox); have GW105 : Aside0 (w.heap.size ≤ gb105) := GS; have GE105 := GW105; have NB104_105 := NL BK104.out hg; have NB105_104 := NG BK104.out hg; replace BK104 := BB BK104.out hb; replace HB := BS hb; clear hb hbox hg; obtain ⟨hnb23, hnc23⟩ := NN NB104_105.out; obtain ⟨hcz24_0, hfz24_0⟩ := KC1 BK104.out; obtain ⟨hcz25_0, hfz25_0⟩ := KC1 BK105.out))
  repeat (go_quiet (first | ((with_reducible refine gate_dst (N := 2) rfl ?_); refine bE 2 #[.slice A0_0 l0_0.length c0_0] 29 ?_; intro gb104 hg w21 hbox hb; have BK104 := Aside0.mk (hbox); have GW104 : Aside0 (w.heap.size ≤ gb104) := GS; have GE104 := GW104; replace HB := BS hb; clear hb hbox hg) | ((with_reducible refine gate_dst (N := 3) rfl ?_); refine bE 3 #[.slice A1_0 l1_0.length c1_0] 29 ?_; intro gb105 hg w22 hbox hb; have BK105 := Aside0.mk (hbox); have GW105 : Aside0 (w.heap.size ≤ gb105) := GS; have GE105 := GW105; have NB104_105 := NL BK104.out hg; have NB105_104 := NG BK104.out hg; replace BK104 := BB BK104.out hb; replace HB := BS hb; clear hb hbox hg; obtain ⟨hnb23, hnc23⟩ := NN NB104_105.out; obtain ⟨hcz24_0, hfz24_0⟩ := KC1 BK104.out; obtain ⟨hcz25_0, hfz25_0⟩ := KC1 BK105.out)); try go_wp2_with (first | ((with_reducible refine gate_dst (N := 2) rfl ?_); refine bE 2 #[.slice A0_0 l0_0.length c0_0] 29 ?_; intro gb104 hg w21 hbox hb; have BK104 := Aside0.mk (hbox); have GW104 : Aside0 (w.heap.size ≤ gb104) := GS; have GE104 := GW104; replace HB := BS hb; clear hb hbox hg) | ((with_reducible refine gate_dst (N := 3) rfl ?_); refine bE 3 #[.slice A1_0 l1_0.length c1_0] 29 ?_; intro gb105 hg w22 hbox hb; have BK105 := Aside0.mk (hbox); have GW105 : Aside0 (w.heap.size ≤ gb105) := GS; have GE105 := GW105; have NB104_105 := NL BK104.out hg; have NB105_104 := NG BK104.out hg; replace BK104 := BB BK104.out hb; replace HB := BS hb; clear hb hbox hg; obtain ⟨hnb23, hnc23⟩ := NN NB104_105.out; obtain ⟨hcz24_0, hfz24_0⟩ := KC1 BK104.out; obtain ⟨hcz25_0, hfz25_0⟩ := KC1 BK105.out)))
  go_ret
  exact ⟨EE, BL⟩
 rw [if_pos c3] at H
 have c3b0 : ((l0_0.length : Int) == (l1_0.length : Int)) = true := beq_iff_eq.mpr c3
 have c3b1 : ((l0_0.length : Int) != (l1_0.length : Int)) = false := bne_eq_false_iff_eq.mpr c3
 have c3b2 : (l0_0.length == l1_0.length) = true := by first | simpa using c3 | (simp at c3 ⊢; omega)
 clear c3
 have H' := Aside0.mk H
 clear H
 go_enter Try.func26, Try.ntmps26
 go_wp2_with (first | ((with_reducible refine gate_dst (N := 2) rfl ?_); refine bE 2 #[.slice A0_0 l0_0.length c0_0] 29 ?_; intro gb104 hg w4 hbox hb; have BK104 := Aside0.mk (hbox); have GW104 : Aside0 (w.heap.size ≤ gb104) := GS; have GE104 := GW104; replace HB := BS hb; clear hb hbox hg) | ((with_reducible refine gate_dst (N := 3) rfl ?_); refine bE 3 #[.slice A1_0 l1_0.length c1_0] 29 ?_; intro gb105 hg w5 hbox hb; have BK105 := Aside0.mk (hbox); have GW105 : Aside0 (w.heap.size ≤ gb105) := GS; have GE105 := GW105; have NB104_105 := NL BK104.out hg; have NB105_104 := NG BK104.out hg; replace BK104 := BB BK104.out hb; replace HB := BS hb; clear hb hbox hg; obtain ⟨hnb6, hnc6⟩ := NN NB104_105.out; obtain ⟨hcz7_0, hfz7_0⟩ := KC1 BK104.out; obtain ⟨hcz8_0, hfz8_0⟩ := KC1 BK105.out))
 repeat (go_quiet (first | ((with_reducible refine gate_dst (N := 2) rfl ?_); refine bE 2 #[.slice A0_0 l0_0.length c0_0] 29 ?_; intro gb104 hg w4 hbox hb; have BK104 := Aside0.mk (hbox); have GW104 : Aside0 (w.heap.size ≤ gb104) := GS; have GE104 := GW104; replace HB := BS hb; clear hb hbox hg) | ((with_reducible refine gate_dst (N := 3) rfl ?_); refine bE 3 #[.slice A1_0 l1_0.length c1_0] 29 ?_; intro gb105 hg w5 hbox hb; have BK105 := Aside0.mk (hbox); have GW105 : Aside0 (w.heap.size ≤ gb105) := GS; have GE105 := GW105; have NB104_105 := NL BK104.out hg; have NB105_104 := NG BK104.out hg; replace BK104 := BB BK104.out hb; replace HB := BS hb; clear hb hbox hg; obtain ⟨hnb6, hnc6⟩ := NN NB104_105.out; obtain ⟨hcz7_0, hfz7_0⟩ := KC1 BK104.out; obtain ⟨hcz8_0, hfz8_0⟩ := KC1 BK105.out)); try go_wp2_with (first | ((with_reducible refine gate_dst (N := 2) rfl ?_); refine bE 2 #[.slice A0_0 l0_0.length c0_0] 29 ?_; intro gb104 hg w4 hbox hb; have BK104 := Aside0.mk (hbox); have GW104 : Aside0 (w.heap.size ≤ gb104) := GS; have GE104 := GW104; replace HB := BS hb; clear hb hbox hg) | ((with_reducible refine gate_dst (N := 3) rfl ?_); refine bE 3 #[.slice A1_0 l1_0.length c1_0] 29 ?_; intro gb105 hg w5 hbox hb; have BK105 := Aside0.mk (hbox); have GW105 : Aside0 (w.heap.size ≤ gb105) := GS; have GE105 := GW105; have NB104_105 := NL BK104.out hg; have NB105_104 := NG BK104.out hg; replace BK104 := BB BK104.out hb; replace HB := BS hb; clear hb hbox hg; obtain ⟨hnb6, hnc6⟩ := NN NB104_105.out; obtain ⟨hcz7_0, hfz7_0⟩ := KC1 BK104.out; obtain ⟨hcz8_0, hfz8_0⟩ := KC1 BK105.out)))
 go_loopg [5] k (fun kq v5 w' => ∃ (x5_1 : Int), v5 = .int .i64 x5_1 ∧ Aside0 (laws_sameDisk.l0 kq x5_1 l0_0 l1_0 = some r) ∧ Aside0 (kq ≤ k) ∧ Aside0 (w'.heap[gb104]? = some (.cells #[(.slice A0_0 l0_0.length c0_0)] 29 (0, 0))) ∧ Aside0 (w'.heap[gb105]? = some (.cells #[(.slice A1_0 l1_0.length c1_0)] 29 (0, 0))) ∧ Aside0 (Below w.heap.size w w'))
 case atStart => exact ⟨(0), SD, H', ⟨Nat.le_refl _⟩, ⟨BQ BK104.out⟩, ⟨BQ BK105.out⟩, ⟨BL⟩⟩
 case round =>
  clear H'
  try clear c1 c2 p2 c3 c3b0 c3b1 c3b2 c6 hcz7_0 hcz8_0 hfz7_0 hfz8_0
  obtain ⟨x5_1, rfl, HA, HK1, BK104, BK105, HB⟩ := hrel; cases gk with
  | zero => exact absurd HA.out (by simp [laws_sameDisk.l0])
  | succ k1 =>
   have H := HA.out; clear HA; simp only [laws_sameDisk.l0] at H
   by_cases c9 : x5_1 < (l0_0.length : Int); rotate_left
   ·
    rw [if_neg c9] at H; have c9b0 : decide (x5_1 < (l0_0.length : Int)) = false := decide_eq_false c9; clear c9; obtain rfl := Option.some.inj H; obtain ⟨hnb19, hnc19⟩ := NN NB104_105.out; obtain ⟨hcz20_0, hfz20_0⟩ := KC1 BK104.out
    go_wp2
    repeat (go_quiet (fail); try go_wp2)
    go_ret
    exact ⟨EE, BL⟩
   rw [if_pos c9] at H; have c9b0 : decide (x5_1 < (l0_0.length : Int)) = true := decide_eq_true c9; clear c9
   by_cases c10 : 0 ≤ x5_1; rotate_left
   ·
    rw [if_neg c10] at H; exact absurd H (by simp)
   rw [if_pos c10] at H; have c10b0 : decide (0 ≤ x5_1) = true := decide_eq_true c10; clear c10
   by_cases c11 : x5_1 < (l1_0.length : Int); rotate_left
   ·
    rw [if_neg c11] at H; exact absurd H (by simp)
   rw [if_pos c11] at H; have c11b0 : decide (x5_1 < (l1_0.length : Int)) = true := decide_eq_true c11; clear c11
   by_cases c12 : (!((((rd_T45 l0_0 x5_1).f0).toList) == (((rd_T45 l1_0 x5_1).f0).toList)) || (!((((rd_T45 l0_0 x5_1).f1).toList) == (((rd_T45 l1_0 x5_1).f1).toList)) || (!(((rd_T45 l0_0 x5_1).f2) == ((rd_T45 l1_0 x5_1).f2))))) = true
   ·
    rw [if_pos c12] at H; have c12b0 : (!((((rd_T45 l0_0 x5_1).f0).toList) == (((rd_T45 l1_0 x5_1).f0).toList)) || (!((((rd_T45 l0_0 x5_1).f1).toList) == (((rd_T45 l1_0 x5_1).f1).toList)) || (!(((rd_T45 l0_0 x5_1).f2) == ((rd_T45 l1_0 x5_1).f2))))) = true := c12; clear c12; obtain rfl := Option.some.inj H; obtain ⟨hnb13, hnc13⟩ := NN NB104_105.out; obtain ⟨hcz14_0, hfz14_0⟩ := KC1 BK104.out; have p106 : 0 ≤ (x5_1 : Int) := of_decide_eq_true AS; have q106 : x5_1 < (l0_0.length : Int) := of_decide_eq_true AS; obtain ⟨ad106, e106, hx106_0, hx106_1, hx106_2⟩ := at_T45 HR0_0.out x5_1 p106 q106; cases e106; replace hx106_0 := HX hx106_0; replace hx106_1 := HX hx106_1; replace hx106_2 := HX hx106_2; replace p106 := eq_true p106; replace q106 := eq_true q106; obtain ⟨hcz15_0, hfz15_0⟩ := KC1 BK105.out; have p107 : 0 ≤ (x5_1 : Int) := of_decide_eq_true AS; have q107 : x5_1 < (l1_0.length : Int) := of_decide_eq_true AS; obtain ⟨ad107, e107, hx107_0, hx107_1, hx107_2⟩ := at_T45 HR1_0.out x5_1 p107 q107; cases e107; replace hx107_0 := HX hx107_0; replace hx107_1 := HX hx107_1; replace hx107_2 := HX hx107_2; replace p107 := eq_true p107; replace q107 := eq_true q107
    go_wp2
    repeat (go_quiet (fail); try go_wp2)
    go_ret
    exact ⟨EE, BL⟩
   rw [if_neg c12] at H
   have c12b0 : (!((((rd_T45 l0_0 x5_1).f0).toList) == (((rd_T45 l1_0 x5_1).f0).toList)) || (!((((rd_T45 l0_0 x5_1).f1).toList) == (((rd_T45 l1_0 x5_1).f1).toList)) || (!(((rd_T45 l0_0 x5_1).f2) == ((rd_T45 l1_0 x5_1).f2))))) = false := by simpa using c12
   clear c12; have H' := Aside0.mk H; clear H; obtain ⟨hnb16, hnc16⟩ := NN NB104_105.out; obtain ⟨hcz17_0, hfz17_0⟩ := KC1 BK104.out; have p106 : 0 ≤ (x5_1 : Int) := of_decide_eq_true AS; have q106 : x5_1 < (l0_0.length : Int) := of_decide_eq_true AS; obtain ⟨ad106, e106, hx106_0, hx106_1, hx106_2⟩ := at_T45 HR0_0.out x5_1 p106 q106; cases e106; replace hx106_0 := HX hx106_0; replace hx106_1 := HX hx106_1; replace hx106_2 := HX hx106_2; replace p106 := eq_true p106; replace q106 := eq_true q106; obtain ⟨hcz18_0, hfz18_0⟩ := KC1 BK105.out; have p107 : 0 ≤ (x5_1 : Int) := of_decide_eq_true AS; have q107 : x5_1 < (l1_0.length : Int) := of_decide_eq_true AS; obtain ⟨ad107, e107, hx107_0, hx107_1, hx107_2⟩ := at_T45 HR1_0.out x5_1 p107 q107; cases e107; replace hx107_0 := HX hx107_0; replace hx107_1 := HX hx107_1; replace hx107_2 := HX hx107_2; replace p107 := eq_true p107; replace q107 := eq_true q107
   go_wp2
   repeat (go_quiet (fail); try go_wp2)
   go_roundg k1
   case measure => have := HK1.out; omega
   case rel => exact ⟨(wrap64 (x5_1 + 1)), SD, H', ⟨by have := HK1.out; omega⟩, ⟨BQ BK104.out⟩, ⟨BQ BK105.out⟩, ⟨BL⟩⟩

/-! ### impl_within: function 51 -/
def impl_within.f (a0 : Int) (a1 : Int) (a2 : Int) : Option (Bool) := if a0 ≥ a1 then (some (decide (a0 ≤ a2))) else (some false)
set_option maxHeartbeats 8000000 in
set_option maxRecDepth 100000 in
theorem impl_within.calls (a0 : Int) (a1 : Int) (a2 : Int) (r : Bool) (w : World) (h : impl_within.f a0 a1 a2 = some r) :
  Calls Try.prog 51 #[.int .i64 a0, .int .i64 a1, .int .i64 a2] w fun e w' => e = .returned (.bool r) ∧ Drawn0 w w' := by
 have H : (if a0 ≥ a1 then (some (decide (a0 ≤ a2))) else (some false)) = some r := h
 clear h
 by_cases c4 : a0 ≥ a1
 ·
  rw [if_pos c4] at H; have c4b0 : decide (a1 ≤ a0) = true := decide_eq_true c4; clear c4; obtain rfl := Option.some.inj H
  go_enter Try.func51, Try.ntmps51
  go_wp2
  go_ret
  exact ⟨by first | rfl | (simp; done) | (simp [*]; done), by repeat (first | exact Drawn0.refl _ | apply Drawn0.step)⟩
 rw [if_neg c4] at H
 have c4b0 : decide (a1 ≤ a0) = false := decide_eq_false c4
 clear c4
 obtain rfl := Option.some.inj H
 go_enter Try.func51, Try.ntmps51
 go_wp2
 go_ret
 exact ⟨by first | rfl | (simp; done) | (simp [*]; done), by repeat (first | exact Drawn0.refl _ | apply Drawn0.step)⟩

/-! ### impl_DiskOk: function 15 -/
def impl_DiskOk.l0 : Nat → List (S45) → Int → Int → List (S45) → Option (Bool)
 | 0, _, _, _, _ => none
 | k + 1, x6, x7, x8, x109000 => if x8 < x7 then (if 0 ≤ x8 then (if x8 < (x6.length : Int) then ((impl_within.f (((rd_T45 x6 x8).f0).size : Int) 1 8).bind fun t111 => (if t111 = true then (if (((rd_T45 x6 x8).f1).size : Int) > 20000 then (some false) else ((impl_within.f ((rd_T45 x6 x8).f2) 0 (((rd_T45 x6 x8).f1).size : Int)).bind fun t112 => (if t112 = true then (if x8 > 0 then (if 0 ≤ (wrap64 (x8 - 1)) then (if (wrap64 (x8 - 1)) < (x109000.length : Int) then (if ((Op.bytesLess (((rd_T45 x109000 (wrap64 (x8 - 1))).f0).toList) (((rd_T45 x6 x8).f0).toList)) = true) then (impl_DiskOk.l0 k x6 x7 (wrap64 (x8 + 1)) x109000) else (some false)) else (none)) else (none)) else (impl_DiskOk.l0 k x6 x7 (wrap64 (x8 + 1)) x109000)) else (some false)))) else (some false))) else (none)) else (none)) else (some (decide ((x109000.length : Int) ≤ 30)))
def impl_DiskOk.f (k : Nat) (l0_0 : List (S45)) : Option (Bool) := impl_DiskOk.l0 k l0_0 (l0_0.length : Int) 0 l0_0
def impl_DiskOk.T4 : Bool × List (List Nat × List Nat) := (true, [([], []), ([0], [0]), ([1], [1]), ([2], [2]), ([3], [3]), ([4, 3], [4]), ([5], [5]), ([6, 5], [5, 6]), ([7, 5], [5, 7]), ([8, 5], [5, 8]), ([5, 9], [5, 9]), ([10, 5], [10]), ([11], [11]), ([12, 11], [11, 12]), ([11], [11]), ([14, 11], [11, 14]), ([15, 11], [11, 15]), ([13, 16, 11, 11], [11, 13, 16]), ([17, 11], [11, 17]), ([11, 18], [11, 18]), ([19, 17], [19]), ([20], [20]), ([21, 20], [20, 21]), ([22, 20, 20], [20, 22]), ([23], [23]), ([24, 23], [23, 24]), ([23], [23]), ([26, 23], [23, 26]), ([25, 27, 23], [23, 25, 27]), ([28, 23], [23, 28]), ([29, 23], [23, 29]), ([23], [23]), ([31, 23], [23, 31]), ([30, 32, 23], [23, 30, 32]), ([23, 33, 20], [20, 23, 33]), ([20, 34], [20, 34])])
def impl_DiskOk.B4 : List Nat := [0, 1, 3, 7, 15, 31, 63, 127, 255, 511, 1023, 2047, 4095, 8191, 4095, 20479, 53247, 131071, 262143, 524287, 1048575, 2097151, 4194303, 8388607, 16777215, 33554431, 16777215, 83886079, 268435455, 536870911, 1073741823, 16777215, 2164260863, 8589934591, 17179869183, 34359738367]
theorem impl_DiskOk.tab4 : rtab .any (opsOf Try.f15 4) = impl_DiskOk.T4 := by kernel_rfl
theorem impl_DiskOk.bits4 : waitsOk impl_DiskOk.T4.2 impl_DiskOk.B4 = true := by kernel_rfl
set_option maxHeartbeats 8000000 in
set_option maxRecDepth 100000 in
theorem impl_DiskOk.calls (k : Nat) (A0_0 : Option Addr) (c0_0 : Nat) (l0_0 : List (S45)) (r : Bool) (w : World) (hr0_0 : Kd.C k45 w A0_0 l0_0.length l0_0) (hc0_0 : l0_0.length ≤ c0_0) (h : impl_DiskOk.f k l0_0 = some r) :
  Calls Try.prog 15 #[.agg #[.slice A0_0 l0_0.length c0_0]] w fun e w' => e = .returned (.bool r) ∧ Below w.heap.size w w' := by
 have hu29 := Try.underlying29
 have hu45 := Try.underlying45
 have HR0_0 := Aside0.mk hr0_0
 have HC0_0 := Aside0.mk hc0_0
 clear hr0_0 hc0_0
 have HB := Aside0.mk (Below.refl w.heap.size w)
 have H : (impl_DiskOk.l0 k l0_0 (l0_0.length : Int) 0 l0_0) = some r := h
 clear h
 have H' := Aside0.mk H
 clear H
 go_enter Try.func15, Try.ntmps15
 go_wp2_with (first | ((with_reducible refine gate_dst (N := 1) rfl ?_); (try (refine gate_guard (by rfl) ?_; dsimp only)); refine bE 1 #[.slice A0_0 l0_0.length c0_0] 29 ?_; intro gb108 hg w2 hbox hb; have BK108 := Aside0.mk (hbox); have GW108 : Aside0 (w.heap.size ≤ gb108) := GS; have GE108 := GW108; replace HB := BS hb; clear hb hbox hg; obtain ⟨hcz3_0, hfz3_0⟩ := KC1 BK108.out))
 go_loopg [8] k (fun kq v8 w' => ∃ (x8_1 : Int), v8 = .int .i64 x8_1 ∧ Aside0 (impl_DiskOk.l0 kq l0_0 (l0_0.length : Int) x8_1 l0_0 = some r) ∧ Aside0 (kq ≤ k) ∧ Aside0 (w'.heap[gb108]? = some (.cells #[(.slice A0_0 l0_0.length c0_0)] 29 (0, 0))) ∧ Aside0 (Below w.heap.size w w'))
 case atStart => exact ⟨(0), SD, H', ⟨Nat.le_refl _⟩, ⟨BQ BK108.out⟩, ⟨BL⟩⟩
 case round =>
  clear H'
  try clear c1 p2 hcz3_0 hfz3_0
  obtain ⟨x8_1, rfl, HA, HK1, BK108, HB⟩ := hrel; cases gk with
  | zero => exact absurd HA.out (by simp [impl_DiskOk.l0])
  | succ k1 =>
   have H := HA.out; clear HA; simp only [impl_DiskOk.l0] at H
   by_cases c4 : x8_1 < (l0_0.length : Int); rotate_left
   ·
    rw [if_neg c4] at H; have c4b0 : decide (x8_1 < (l0_0.length : Int)) = false := decide_eq_false c4; clear c4; obtain rfl := Option.some.inj H; obtain ⟨hcz47_0, hfz47_0⟩ := KC1 BK108.out
    go_wp2
    go_ret
    exact ⟨EE, BL⟩
   rw [if_pos c4] at H; have c4b0 : decide (x8_1 < (l0_0.length : Int)) = true := decide_eq_true c4; clear c4
   by_cases c5 : 0 ≤ x8_1; rotate_left
   ·
    rw [if_neg c5] at H; exact absurd H (by simp)
   rw [if_pos c5] at H; have c5b0 : decide (0 ≤ x8_1) = true := decide_eq_true c5; clear c5
   by_cases c6 : x8_1 < (l0_0.length : Int); rotate_left
   ·
    rw [if_neg c6] at H; exact absurd H (by simp)
   rw [if_pos c6] at H; have c6b0 : decide (x8_1 < (l0_0.length : Int)) = true := decide_eq_true c6; clear c6; replace H := Option.bind_eq_some_iff.mp H; obtain ⟨t111, A70, H⟩ := H; have A7 := Aside0.mk A70; clear A70
   by_cases c8 : t111 = true; rotate_left
   ·
    replace c8 := Bool.eq_false_iff.mpr c8; subst c8
    rw [if_neg (show ¬ (false = true) by decide)] at H; obtain rfl := Option.some.inj H; have p109 : 0 ≤ (x8_1 : Int) := of_decide_eq_true AS; have q109 : x8_1 < (l0_0.length : Int) := of_decide_eq_true AS; obtain ⟨ad109, e109, hx109_0, hx109_1, hx109_2⟩ := at_T45 HR0_0.out x8_1 p109 q109; cases e109; replace hx109_0 := HX hx109_0; replace hx109_1 := HX hx109_1; replace hx109_2 := HX hx109_2; replace p109 := eq_true p109; replace q109 := eq_true q109
    try go_wp2_with (first | ((with_reducible refine gate_dst (N := 4) rfl ?_); (try (refine gate_guard (by rfl) ?_; dsimp only)); refine bE 4 #[.string (⟨#[]⟩ : ByteArray), .string (⟨#[]⟩ : ByteArray), .int .i64 0] 45 ?_; intro gb110 hg w42 hbox hb; have BK110 := Aside0.mk (hbox); have GW110 : Aside0 (w.heap.size ≤ gb110) := GS; have GE110 := GW110; have NB108_110 := NL BK108.out hg; have NB110_108 := NG BK108.out hg; replace BK108 := BB BK108.out hb; replace HB := BS hb; clear hb hbox hg; obtain ⟨hnb43, hnc43⟩ := NN NB110_108.out; obtain ⟨hcz44_0, hcz44_1, hcz44_2, hfz44_0, hfz44_1, hfz44_2⟩ := KC3 BK110.out))
    have n0_ : Aside0 ((((w42.setCell ⟨gb110, 0, none⟩ (.string ((rd_T45 l0_0 x8_1).f0))).setCell ⟨gb110, 1, none⟩ (.string ((rd_T45 l0_0 x8_1).f1))).setCell ⟨gb110, 2, none⟩ (.int .i64 ((rd_T45 l0_0 x8_1).f2))).heap[gb108]? = some (.cells #[.slice (some ad109) l0_0.length c0_0] 29 (0, 0))) := ⟨BP BK108.out⟩; have n1_ : Aside0 ((((w42.setCell ⟨gb110, 0, none⟩ (.string ((rd_T45 l0_0 x8_1).f0))).setCell ⟨gb110, 1, none⟩ (.string ((rd_T45 l0_0 x8_1).f1))).setCell ⟨gb110, 2, none⟩ (.int .i64 ((rd_T45 l0_0 x8_1).f2))).heap[gb110]? = some (.cells #[.string ((rd_T45 l0_0 x8_1).f0), .string ((rd_T45 l0_0 x8_1).f1), .int .i64 ((rd_T45 l0_0 x8_1).f2)] 45 (0, 0))) := ⟨BU BK110.out⟩; have n2_ : Aside0 (Below w.heap.size w (((w42.setCell ⟨gb110, 0, none⟩ (.string ((rd_T45 l0_0 x8_1).f0))).setCell ⟨gb110, 1, none⟩ (.string ((rd_T45 l0_0 x8_1).f1))).setCell ⟨gb110, 2, none⟩ (.int .i64 ((rd_T45 l0_0 x8_1).f2)))) := ⟨BL⟩
    (try clear BK108)
    (try clear BK110)
    (try clear HB)
    generalize (((w42.setCell ⟨gb110, 0, none⟩ (.string ((rd_T45 l0_0 x8_1).f0))).setCell ⟨gb110, 1, none⟩ (.string ((rd_T45 l0_0 x8_1).f1))).setCell ⟨gb110, 2, none⟩ (.int .i64 ((rd_T45 l0_0 x8_1).f2))) = w45 at n0_ n1_ n2_ ⊢; have BK108 := n0_; have BK110 := n1_; have HB := n2_; clear n0_ n1_ n2_; replace BK108 := BD BK108; replace BK110 := BD BK110; replace HB := Aside0.mk (below_drew1 HB.out); refine start_ (n := 36) (S := fun w' => w'.cell? ⟨gb110, 0, none⟩ = some (.string ((rd_T45 l0_0 x8_1).f0)) ∧ w'.cell? ⟨gb110, 1, none⟩ = some (.string ((rd_T45 l0_0 x8_1).f1)) ∧ w'.cell? ⟨gb110, 2, none⟩ = some (.int .i64 ((rd_T45 l0_0 x8_1).f2))) (ds := []) #[false, false, false, false, false, false, false, false, false, false, false, false, false, false, false, false, false, false, false, false, false, false, false, false, false, false, false, false, false, false, false, false, false, false, false, false] (by kernel_rfl) rfl rfl ⟨CZ BK110.out 0, CZ BK110.out 1, CZ BK110.out 2⟩ (fun hHeld => ?_); refine with_tabW impl_DiskOk.tab4 impl_DiskOk.bits4 (fun HT_ HW_ => ?_); generalize w45.drew = w46 at BK108 BK110 HB hHeld ⊢; refine pV 0 13 (OB 36 1) ?_; refine pT 1 14 (OB 36 3) ?_; refine pV 2 15 (OB 36 7) ?_; refine one_ (i := 3) (N := some 16) (OB 36 15) rfl rfl (one_of HT_.out (by kernel_rfl)) (by decide) (fun K hK => ?_); refine goes_ Try.func51 (by kernel_rfl) rfl #[.int .i64 (((rd_T45 l0_0 x8_1).f0).size : Int), .int .i64 1, .int .i64 8] (by rfl) rfl rfl (MA) ?_
    with_reducible refine (impl_within.calls (((rd_T45 l0_0 x8_1).f0).size : Int) 1 8 false _ A7.out).mono ?_
    rintro e w' ⟨rfl, ⟨nd, rfl⟩⟩; refine ⟨_, rfl, ?_⟩; refine hK.out _ _ ⟨CZ BK110.out 0, CZ BK110.out 1, CZ BK110.out 2⟩ (fun hHeld => ?_); clear hK K; refine norm_ (a' := ?_) ?_ ?_; rotate_left
    ·
     show Act.put _ (some 16) _ = _; simp only [Act.put, zA, zB, zC, i64_w, i32_w]; rfl
    refine pV 4 17 (OB 36 31) ?_; refine pV 5 18 (OB 36 63) ?_; refine pN 6 19 (OB 36 127) ?_; refine pN 7 20 (OB 36 255) ?_; refine pN 8 21 (OB 36 511) ?_; refine pN 9 22 (OB 36 1023) ?_; refine pV 10 23 (OB 36 2047) ?_; refine pV 11 24 (OB 36 4095) ?_; refine pN 12 25 (OB 36 8191) ?_; refine pN 13 26 (OB 36 16383) ?_; refine pN 14 27 (OB 36 32767) ?_; refine pN 15 28 (OB 36 65535) ?_; refine pN 16 29 (OB 36 131071) ?_; refine pN 17 30 (OB 36 262143) ?_; refine pN 18 31 (OB 36 524287) ?_; refine pV 19 32 (OB 36 1048575) ?_; refine pV 20 33 (OB 36 2097151) ?_; refine pN 21 34 (OB 36 4194303) ?_; refine pN 22 35 (OB 36 8388607) ?_; refine pN 23 36 (OB 36 16777215) ?_; refine pN 24 37 (OB 36 33554431) ?_; refine pN 25 38 (OB 36 67108863) ?_; refine pN 26 39 (OB 36 134217727) ?_; refine pN 27 40 (OB 36 268435455) ?_; refine pN 28 41 (OB 36 536870911) ?_; refine pN 29 42 (OB 36 1073741823) ?_; refine pN 30 43 (OB 36 2147483647) ?_; refine pN 31 44 (OB 36 4294967295) ?_; refine pN 32 45 (OB 36 8589934591) ?_; refine pN 33 46 (OB 36 17179869183) ?_; refine pN 34 47 (OB 36 34359738367) ?_; refine pV 35 48 (OB 36 68719476735) ?_; refine done_ (done_of HT_.out (by kernel_rfl)) ?_
    try go_wp2
    go_ret
    exact ⟨EE, BL⟩
   subst c8
   rw [if_pos rfl] at H
   by_cases c9 : (((rd_T45 l0_0 x8_1).f1).size : Int) > 20000
   ·
    rw [if_pos c9] at H; have c9b0 : decide (20000 < (((rd_T45 l0_0 x8_1).f1).size : Int)) = true := decide_eq_true c9; have c9b1 : decide (20000 < ((rd_T45 l0_0 x8_1).f1).size) = true := decide_eq_true (by omega); clear c9; obtain rfl := Option.some.inj H; have p109 : 0 ≤ (x8_1 : Int) := of_decide_eq_true AS; have q109 : x8_1 < (l0_0.length : Int) := of_decide_eq_true AS; obtain ⟨ad109, e109, hx109_0, hx109_1, hx109_2⟩ := at_T45 HR0_0.out x8_1 p109 q109; cases e109; replace hx109_0 := HX hx109_0; replace hx109_1 := HX hx109_1; replace hx109_2 := HX hx109_2; replace p109 := eq_true p109; replace q109 := eq_true q109
    try go_wp2_with (first | ((with_reducible refine gate_dst (N := 4) rfl ?_); (try (refine gate_guard (by rfl) ?_; dsimp only)); refine bE 4 #[.string (⟨#[]⟩ : ByteArray), .string (⟨#[]⟩ : ByteArray), .int .i64 0] 45 ?_; intro gb110 hg w10 hbox hb; have BK110 := Aside0.mk (hbox); have GW110 : Aside0 (w.heap.size ≤ gb110) := GS; have GE110 := GW110; have NB108_110 := NL BK108.out hg; have NB110_108 := NG BK108.out hg; replace BK108 := BB BK108.out hb; replace HB := BS hb; clear hb hbox hg; obtain ⟨hnb11, hnc11⟩ := NN NB110_108.out; obtain ⟨hcz12_0, hcz12_1, hcz12_2, hfz12_0, hfz12_1, hfz12_2⟩ := KC3 BK110.out))
    have n0_ : Aside0 ((((w10.setCell ⟨gb110, 0, none⟩ (.string ((rd_T45 l0_0 x8_1).f0))).setCell ⟨gb110, 1, none⟩ (.string ((rd_T45 l0_0 x8_1).f1))).setCell ⟨gb110, 2, none⟩ (.int .i64 ((rd_T45 l0_0 x8_1).f2))).heap[gb108]? = some (.cells #[.slice (some ad109) l0_0.length c0_0] 29 (0, 0))) := ⟨BP BK108.out⟩; have n1_ : Aside0 ((((w10.setCell ⟨gb110, 0, none⟩ (.string ((rd_T45 l0_0 x8_1).f0))).setCell ⟨gb110, 1, none⟩ (.string ((rd_T45 l0_0 x8_1).f1))).setCell ⟨gb110, 2, none⟩ (.int .i64 ((rd_T45 l0_0 x8_1).f2))).heap[gb110]? = some (.cells #[.string ((rd_T45 l0_0 x8_1).f0), .string ((rd_T45 l0_0 x8_1).f1), .int .i64 ((rd_T45 l0_0 x8_1).f2)] 45 (0, 0))) := ⟨BU BK110.out⟩; have n2_ : Aside0 (Below w.heap.size w (((w10.setCell ⟨gb110, 0, none⟩ (.string ((rd_T45 l0_0 x8_1).f0))).setCell ⟨gb110, 1, none⟩ (.string ((rd_T45 l0_0 x8_1).f1))).setCell ⟨gb110, 2, none⟩ (.int .i64 ((rd_T45 l0_0 x8_1).f2)))) := ⟨BL⟩
    (try clear BK108)
    (try clear BK110)
    (try clear HB)
    generalize (((w10.setCell ⟨gb110, 0, none⟩ (.string ((rd_T45 l0_0 x8_1).f0))).setCell ⟨gb110, 1, none⟩ (.string ((rd_T45 l0_0 x8_1).f1))).setCell ⟨gb110, 2, none⟩ (.int .i64 ((rd_T45 l0_0 x8_1).f2))) = w13 at n0_ n1_ n2_ ⊢; have BK108 := n0_; have BK110 := n1_; have HB := n2_; clear n0_ n1_ n2_; replace BK108 := BD BK108; replace BK110 := BD BK110; replace HB := Aside0.mk (below_drew1 HB.out); refine start_ (n := 36) (S := fun w' => w'.cell? ⟨gb110, 0, none⟩ = some (.string ((rd_T45 l0_0 x8_1).f0)) ∧ w'.cell? ⟨gb110, 1, none⟩ = some (.string ((rd_T45 l0_0 x8_1).f1)) ∧ w'.cell? ⟨gb110, 2, none⟩ = some (.int .i64 ((rd_T45 l0_0 x8_1).f2))) (ds := []) #[false, false, false, false, false, false, false, false, false, false, false, false, false, false, false, false, false, false, false, false, false, false, false, false, false, false, false, false, false, false, false, false, false, false, false, false] (by kernel_rfl) rfl rfl ⟨CZ BK110.out 0, CZ BK110.out 1, CZ BK110.out 2⟩ (fun hHeld => ?_); refine with_tabW impl_DiskOk.tab4 impl_DiskOk.bits4 (fun HT_ HW_ => ?_); generalize w13.drew = w14 at BK108 BK110 HB hHeld ⊢; refine pV 0 13 (OB 36 1) ?_; refine pT 1 14 (OB 36 3) ?_; refine pV 2 15 (OB 36 7) ?_; refine one_ (i := 3) (N := some 16) (OB 36 15) rfl rfl (one_of HT_.out (by kernel_rfl)) (by decide) (fun K hK => ?_); refine goes_ Try.func51 (by kernel_rfl) rfl #[.int .i64 (((rd_T45 l0_0 x8_1).f0).size : Int), .int .i64 1, .int .i64 8] (by rfl) rfl rfl (MA) ?_
    with_reducible refine (impl_within.calls (((rd_T45 l0_0 x8_1).f0).size : Int) 1 8 true _ A7.out).mono ?_
    rintro e w' ⟨rfl, ⟨nd, rfl⟩⟩; refine ⟨_, rfl, ?_⟩; refine hK.out _ _ ⟨CZ BK110.out 0, CZ BK110.out 1, CZ BK110.out 2⟩ (fun hHeld => ?_); clear hK K; refine norm_ (a' := ?_) ?_ ?_; rotate_left
    ·
     show Act.put _ (some 16) _ = _; simp only [Act.put, zA, zB, zC, i64_w, i32_w]; rfl
    refine pV 4 17 (OB 36 31) ?_; refine pV 5 18 (OB 36 63) ?_; refine pV 6 19 (OB 36 127) ?_; refine pT 7 20 (OB 36 255) ?_; refine pV 8 21 (OB 36 511) ?_; refine pV 9 22 (OB 36 1023) ?_; refine pV 10 23 (OB 36 2047) ?_; refine pV 11 24 (OB 36 4095) ?_; refine pN 12 25 (OB 36 8191) ?_; refine pN 13 26 (OB 36 16383) ?_; refine pN 14 27 (OB 36 32767) ?_; refine pN 15 28 (OB 36 65535) ?_; refine pN 16 29 (OB 36 131071) ?_; refine pN 17 30 (OB 36 262143) ?_; refine pN 18 31 (OB 36 524287) ?_; refine pV 19 32 (OB 36 1048575) ?_; refine pV 20 33 (OB 36 2097151) ?_; refine pN 21 34 (OB 36 4194303) ?_; refine pN 22 35 (OB 36 8388607) ?_; refine pN 23 36 (OB 36 16777215) ?_; refine pN 24 37 (OB 36 33554431) ?_; refine pN 25 38 (OB 36 67108863) ?_; refine pN 26 39 (OB 36 134217727) ?_; refine pN 27 40 (OB 36 268435455) ?_; refine pN 28 41 (OB 36 536870911) ?_; refine pN 29 42 (OB 36 1073741823) ?_; refine pN 30 43 (OB 36 2147483647) ?_; refine pN 31 44 (OB 36 4294967295) ?_; refine pN 32 45 (OB 36 8589934591) ?_; refine pN 33 46 (OB 36 17179869183) ?_; refine pN 34 47 (OB 36 34359738367) ?_; refine pV 35 48 (OB 36 68719476735) ?_; refine done_ (done_of HT_.out (by kernel_rfl)) ?_
    try go_wp2
    go_ret
    exact ⟨EE, BL⟩
   rw [if_neg c9] at H; have c9b0 : decide (20000 < (((rd_T45 l0_0 x8_1).f1).size : Int)) = false := decide_eq_false c9; have c9b1 : decide (20000 < ((rd_T45 l0_0 x8_1).f1).size) = false := decide_eq_false (by omega); clear c9; replace H := Option.bind_eq_some_iff.mp H; obtain ⟨t112, A150, H⟩ := H; have A15 := Aside0.mk A150; clear A150
   by_cases c16 : t112 = true; rotate_left
   ·
    replace c16 := Bool.eq_false_iff.mpr c16; subst c16
    rw [if_neg (show ¬ (false = true) by decide)] at H; obtain rfl := Option.some.inj H; have p109 : 0 ≤ (x8_1 : Int) := of_decide_eq_true AS; have q109 : x8_1 < (l0_0.length : Int) := of_decide_eq_true AS; obtain ⟨ad109, e109, hx109_0, hx109_1, hx109_2⟩ := at_T45 HR0_0.out x8_1 p109 q109; cases e109; replace hx109_0 := HX hx109_0; replace hx109_1 := HX hx109_1; replace hx109_2 := HX hx109_2; replace p109 := eq_true p109; replace q109 := eq_true q109
    try go_wp2_with (first | ((with_reducible refine gate_dst (N := 4) rfl ?_); (try (refine gate_guard (by rfl) ?_; dsimp only)); refine bE 4 #[.string (⟨#[]⟩ : ByteArray), .string (⟨#[]⟩ : ByteArray), .int .i64 0] 45 ?_; intro gb110 hg w37 hbox hb; have BK110 := Aside0.mk (hbox); have GW110 : Aside0 (w.heap.size ≤ gb110) := GS; have GE110 := GW110; have NB108_110 := NL BK108.out hg; have NB110_108 := NG BK108.out hg; replace BK108 := BB BK108.out hb; replace HB := BS hb; clear hb hbox hg; obtain ⟨hnb38, hnc38⟩ := NN NB110_108.out; obtain ⟨hcz39_0, hcz39_1, hcz39_2, hfz39_0, hfz39_1, hfz39_2⟩ := KC3 BK110.out))
    have n0_ : Aside0 ((((w37.setCell ⟨gb110, 0, none⟩ (.string ((rd_T45 l0_0 x8_1).f0))).setCell ⟨gb110, 1, none⟩ (.string ((rd_T45 l0_0 x8_1).f1))).setCell ⟨gb110, 2, none⟩ (.int .i64 ((rd_T45 l0_0 x8_1).f2))).heap[gb108]? = some (.cells #[.slice (some ad109) l0_0.length c0_0] 29 (0, 0))) := ⟨BP BK108.out⟩; have n1_ : Aside0 ((((w37.setCell ⟨gb110, 0, none⟩ (.string ((rd_T45 l0_0 x8_1).f0))).setCell ⟨gb110, 1, none⟩ (.string ((rd_T45 l0_0 x8_1).f1))).setCell ⟨gb110, 2, none⟩ (.int .i64 ((rd_T45 l0_0 x8_1).f2))).heap[gb110]? = some (.cells #[.string ((rd_T45 l0_0 x8_1).f0), .string ((rd_T45 l0_0 x8_1).f1), .int .i64 ((rd_T45 l0_0 x8_1).f2)] 45 (0, 0))) := ⟨BU BK110.out⟩; have n2_ : Aside0 (Below w.heap.size w (((w37.setCell ⟨gb110, 0, none⟩ (.string ((rd_T45 l0_0 x8_1).f0))).setCell ⟨gb110, 1, none⟩ (.string ((rd_T45 l0_0 x8_1).f1))).setCell ⟨gb110, 2, none⟩ (.int .i64 ((rd_T45 l0_0 x8_1).f2)))) := ⟨BL⟩
    (try clear BK108)
    (try clear BK110)
    (try clear HB)
    generalize (((w37.setCell ⟨gb110, 0, none⟩ (.string ((rd_T45 l0_0 x8_1).f0))).setCell ⟨gb110, 1, none⟩ (.string ((rd_T45 l0_0 x8_1).f1))).setCell ⟨gb110, 2, none⟩ (.int .i64 ((rd_T45 l0_0 x8_1).f2))) = w40 at n0_ n1_ n2_ ⊢; have BK108 := n0_; have BK110 := n1_; have HB := n2_; clear n0_ n1_ n2_; replace BK108 := BD BK108; replace BK110 := BD BK110; replace HB := Aside0.mk (below_drew1 HB.out); refine start_ (n := 36) (S := fun w' => w'.cell? ⟨gb110, 0, none⟩ = some (.string ((rd_T45 l0_0 x8_1).f0)) ∧ w'.cell? ⟨gb110, 1, none⟩ = some (.string ((rd_T45 l0_0 x8_1).f1)) ∧ w'.cell? ⟨gb110, 2, none⟩ = some (.int .i64 ((rd_T45 l0_0 x8_1).f2))) (ds := []) #[false, false, false, false, false, false, false, false, false, false, false, false, false, false, false, false, false, false, false, false, false, false, false, false, false, false, false, false, false, false, false, false, false, false, false, false] (by kernel_rfl) rfl rfl ⟨CZ BK110.out 0, CZ BK110.out 1, CZ BK110.out 2⟩ (fun hHeld => ?_); refine with_tabW impl_DiskOk.tab4 impl_DiskOk.bits4 (fun HT_ HW_ => ?_); generalize w40.drew = w41 at BK108 BK110 HB hHeld ⊢; refine pV 0 13 (OB 36 1) ?_; refine pT 1 14 (OB 36 3) ?_; refine pV 2 15 (OB 36 7) ?_; refine one_ (i := 3) (N := some 16) (OB 36 15) rfl rfl (one_of HT_.out (by kernel_rfl)) (by decide) (fun K hK => ?_); refine goes_ Try.func51 (by kernel_rfl) rfl #[.int .i64 (((rd_T45 l0_0 x8_1).f0).size : Int), .int .i64 1, .int .i64 8] (by rfl) rfl rfl (MA) ?_
    with_reducible refine (impl_within.calls (((rd_T45 l0_0 x8_1).f0).size : Int) 1 8 true _ A7.out).mono ?_
    rintro e w' ⟨rfl, ⟨nd, rfl⟩⟩; refine ⟨_, rfl, ?_⟩; refine hK.out _ _ ⟨CZ BK110.out 0, CZ BK110.out 1, CZ BK110.out 2⟩ (fun hHeld => ?_); clear hK K; refine norm_ (a' := ?_) ?_ ?_; rotate_left
    ·
     show Act.put _ (some 16) _ = _; simp only [Act.put, zA, zB, zC, i64_w, i32_w]; rfl
    refine pV 4 17 (OB 36 31) ?_; refine pV 5 18 (OB 36 63) ?_; refine pV 6 19 (OB 36 127) ?_; refine pT 7 20 (OB 36 255) ?_; refine pV 8 21 (OB 36 511) ?_; refine pV 9 22 (OB 36 1023) ?_; refine pV 10 23 (OB 36 2047) ?_; refine pV 11 24 (OB 36 4095) ?_; refine pV 12 25 (OB 36 8191) ?_; refine pV 14 27 (OB 36 24575) ?_; refine pT 13 26 (OB 36 32767) ?_; refine pT 15 28 (OB 36 65535) ?_; refine pV 16 29 (OB 36 131071) ?_; refine one_ (i := 17) (N := some 30) (OB 36 262143) rfl rfl (one_of HT_.out (by kernel_rfl)) (by decide) (fun K hK => ?_); refine goes_ Try.func51 (by kernel_rfl) rfl #[.int .i64 ((rd_T45 l0_0 x8_1).f2), .int .i64 0, .int .i64 (((rd_T45 l0_0 x8_1).f1).size : Int)] (by rfl) rfl rfl (MA) ?_
    with_reducible refine (impl_within.calls ((rd_T45 l0_0 x8_1).f2) 0 (((rd_T45 l0_0 x8_1).f1).size : Int) false _ A15.out).mono ?_
    rintro e w' ⟨rfl, ⟨nd, rfl⟩⟩; refine ⟨_, rfl, ?_⟩; refine hK.out _ _ ⟨CZ BK110.out 0, CZ BK110.out 1, CZ BK110.out 2⟩ (fun hHeld => ?_); clear hK K; refine norm_ (a' := ?_) ?_ ?_; rotate_left
    ·
     show Act.put _ (some 30) _ = _; simp only [Act.put, zA, zB, zC, i64_w, i32_w]; rfl
    refine pV 18 31 (OB 36 524287) ?_; refine pV 19 32 (OB 36 1048575) ?_; refine pV 20 33 (OB 36 2097151) ?_; refine pN 21 34 (OB 36 4194303) ?_; refine pN 22 35 (OB 36 8388607) ?_; refine pN 23 36 (OB 36 16777215) ?_; refine pN 24 37 (OB 36 33554431) ?_; refine pN 25 38 (OB 36 67108863) ?_; refine pN 26 39 (OB 36 134217727) ?_; refine pN 27 40 (OB 36 268435455) ?_; refine pN 28 41 (OB 36 536870911) ?_; refine pN 29 42 (OB 36 1073741823) ?_; refine pN 30 43 (OB 36 2147483647) ?_; refine pN 31 44 (OB 36 4294967295) ?_; refine pN 32 45 (OB 36 8589934591) ?_; refine pN 33 46 (OB 36 17179869183) ?_; refine pN 34 47 (OB 36 34359738367) ?_; refine pV 35 48 (OB 36 68719476735) ?_; refine done_ (done_of HT_.out (by kernel_rfl)) ?_
    try go_wp2
    go_ret
    exact ⟨EE, BL⟩
   subst c16
   rw [if_pos rfl] at H
   by_cases c17 : x8_1 > 0; rotate_left
   ·
    rw [if_neg c17] at H; have c17b0 : decide (0 < x8_1) = false := decide_eq_false c17; clear c17; have H' := Aside0.mk H; clear H; have p109 : 0 ≤ (x8_1 : Int) := of_decide_eq_true AS; have q109 : x8_1 < (l0_0.length : Int) := of_decide_eq_true AS; obtain ⟨ad109, e109, hx109_0, hx109_1, hx109_2⟩ := at_T45 HR0_0.out x8_1 p109 q109; cases e109; replace hx109_0 := HX hx109_0; replace hx109_1 := HX hx109_1; replace hx109_2 := HX hx109_2; replace p109 := eq_true p109; replace q109 := eq_true q109
    try go_wp2_with (first | ((with_reducible refine gate_dst (N := 4) rfl ?_); (try (refine gate_guard (by rfl) ?_; dsimp only)); refine bE 4 #[.string (⟨#[]⟩ : ByteArray), .string (⟨#[]⟩ : ByteArray), .int .i64 0] 45 ?_; intro gb110 hg w32 hbox hb; have BK110 := Aside0.mk (hbox); have GW110 : Aside0 (w.heap.size ≤ gb110) := GS; have GE110 := GW110; have NB108_110 := NL BK108.out hg; have NB110_108 := NG BK108.out hg; replace BK108 := BB BK108.out hb; replace HB := BS hb; clear hb hbox hg; obtain ⟨hnb33, hnc33⟩ := NN NB110_108.out; obtain ⟨hcz34_0, hcz34_1, hcz34_2, hfz34_0, hfz34_1, hfz34_2⟩ := KC3 BK110.out))
    have n0_ : Aside0 ((((w32.setCell ⟨gb110, 0, none⟩ (.string ((rd_T45 l0_0 x8_1).f0))).setCell ⟨gb110, 1, none⟩ (.string ((rd_T45 l0_0 x8_1).f1))).setCell ⟨gb110, 2, none⟩ (.int .i64 ((rd_T45 l0_0 x8_1).f2))).heap[gb108]? = some (.cells #[.slice (some ad109) l0_0.length c0_0] 29 (0, 0))) := ⟨BP BK108.out⟩; have n1_ : Aside0 ((((w32.setCell ⟨gb110, 0, none⟩ (.string ((rd_T45 l0_0 x8_1).f0))).setCell ⟨gb110, 1, none⟩ (.string ((rd_T45 l0_0 x8_1).f1))).setCell ⟨gb110, 2, none⟩ (.int .i64 ((rd_T45 l0_0 x8_1).f2))).heap[gb110]? = some (.cells #[.string ((rd_T45 l0_0 x8_1).f0), .string ((rd_T45 l0_0 x8_1).f1), .int .i64 ((rd_T45 l0_0 x8_1).f2)] 45 (0, 0))) := ⟨BU BK110.out⟩; have n2_ : Aside0 (Below w.heap.size w (((w32.setCell ⟨gb110, 0, none⟩ (.string ((rd_T45 l0_0 x8_1).f0))).setCell ⟨gb110, 1, none⟩ (.string ((rd_T45 l0_0 x8_1).f1))).setCell ⟨gb110, 2, none⟩ (.int .i64 ((rd_T45 l0_0 x8_1).f2)))) := ⟨BL⟩
    (try clear BK108)
    (try clear BK110)
    (try clear HB)
    generalize (((w32.setCell ⟨gb110, 0, none⟩ (.string ((rd_T45 l0_0 x8_1).f0))).setCell ⟨gb110, 1, none⟩ (.string ((rd_T45 l0_0 x8_1).f1))).setCell ⟨gb110, 2, none⟩ (.int .i64 ((rd_T45 l0_0 x8_1).f2))) = w35 at n0_ n1_ n2_ ⊢; have BK108 := n0_; have BK110 := n1_; have HB := n2_; clear n0_ n1_ n2_; replace BK108 := BD BK108; replace BK110 := BD BK110; replace HB := Aside0.mk (below_drew1 HB.out); refine start_ (n := 36) (S := fun w' => w'.cell? ⟨gb110, 0, none⟩ = some (.string ((rd_T45 l0_0 x8_1).f0)) ∧ w'.cell? ⟨gb110, 1, none⟩ = some (.string ((rd_T45 l0_0 x8_1).f1)) ∧ w'.cell? ⟨gb110, 2, none⟩ = some (.int .i64 ((rd_T45 l0_0 x8_1).f2))) (ds := []) #[false, false, false, false, false, false, false, false, false, false, false, false, false, false, false, false, false, false, false, false, false, false, false, false, false, false, false, false, false, false, false, false, false, false, false, false] (by kernel_rfl) rfl rfl ⟨CZ BK110.out 0, CZ BK110.out 1, CZ BK110.out 2⟩ (fun hHeld => ?_); refine with_tabW impl_DiskOk.tab4 impl_DiskOk.bits4 (fun HT_ HW_ => ?_); generalize w35.drew = w36 at BK108 BK110 HB hHeld ⊢; refine pV 0 13 (OB 36 1) ?_; refine pT 1 14 (OB 36 3) ?_; refine pV 2 15 (OB 36 7) ?_; refine one_ (i := 3) (N := some 16) (OB 36 15) rfl rfl (one_of HT_.out (by kernel_rfl)) (by decide) (fun K hK => ?_); refine goes_ Try.func51 (by kernel_rfl) rfl #[.int .i64 (((rd_T45 l0_0 x8_1).f0).size : Int), .int .i64 1, .int .i64 8] (by rfl) rfl rfl (MA) ?_
    with_reducible refine (impl_within.calls (((rd_T45 l0_0 x8_1).f0).size : Int) 1 8 true _ A7.out).mono ?_
    rintro e w' ⟨rfl, ⟨nd, rfl⟩⟩; refine ⟨_, rfl, ?_⟩; refine hK.out _ _ ⟨CZ BK110.out 0, CZ BK110.out 1, CZ BK110.out 2⟩ (fun hHeld => ?_); clear hK K; refine norm_ (a' := ?_) ?_ ?_; rotate_left
    ·
     show Act.put _ (some 16) _ = _; simp only [Act.put, zA, zB, zC, i64_w, i32_w]; rfl
    refine pV 4 17 (OB 36 31) ?_; refine pV 5 18 (OB 36 63) ?_; refine pV 6 19 (OB 36 127) ?_; refine pT 7 20 (OB 36 255) ?_; refine pV 8 21 (OB 36 511) ?_; refine pV 9 22 (OB 36 1023) ?_; refine pV 10 23 (OB 36 2047) ?_; refine pV 11 24 (OB 36 4095) ?_; refine pV 12 25 (OB 36 8191) ?_; refine pV 14 27 (OB 36 24575) ?_; refine pT 13 26 (OB 36 32767) ?_; refine pT 15 28 (OB 36 65535) ?_; refine pV 16 29 (OB 36 131071) ?_; refine one_ (i := 17) (N := some 30) (OB 36 262143) rfl rfl (one_of HT_.out (by kernel_rfl)) (by decide) (fun K hK => ?_); refine goes_ Try.func51 (by kernel_rfl) rfl #[.int .i64 ((rd_T45 l0_0 x8_1).f2), .int .i64 0, .int .i64 (((rd_T45 l0_0 x8_1).f1).size : Int)] (by rfl) rfl rfl (MA) ?_
    with_reducible refine (impl_within.calls ((rd_T45 l0_0 x8_1).f2) 0 (((rd_T45 l0_0 x8_1).f1).size : Int) true _ A15.out).mono ?_
    rintro e w' ⟨rfl, ⟨nd, rfl⟩⟩; refine ⟨_, rfl, ?_⟩; refine hK.out _ _ ⟨CZ BK110.out 0, CZ BK110.out 1, CZ BK110.out 2⟩ (fun hHeld => ?_); clear hK K; refine norm_ (a' := ?_) ?_ ?_; rotate_left
    ·
     show Act.put _ (some 30) _ = _; simp only [Act.put, zA, zB, zC, i64_w, i32_w]; rfl
    refine pV 18 31 (OB 36 524287) ?_; refine pV 19 32 (OB 36 1048575) ?_; refine pV 20 33 (OB 36 2097151) ?_; refine pV 21 34 (OB 36 4194303) ?_; refine pV 22 35 (OB 36 8388607) ?_; refine pV 23 36 (OB 36 16777215) ?_; refine pN 24 37 (OB 36 33554431) ?_; refine pN 25 38 (OB 36 67108863) ?_; refine pN 26 39 (OB 36 134217727) ?_; refine pN 27 40 (OB 36 268435455) ?_; refine pN 28 41 (OB 36 536870911) ?_; refine pN 29 42 (OB 36 1073741823) ?_; refine pN 30 43 (OB 36 2147483647) ?_; refine pN 31 44 (OB 36 4294967295) ?_; refine pN 32 45 (OB 36 8589934591) ?_; refine pN 33 46 (OB 36 17179869183) ?_; refine pV 34 47 (OB 36 34359738367) ?_; refine pV 35 48 (OB 36 68719476735) ?_; refine done_ (done_of HT_.out (by kernel_rfl)) ?_
    try go_wp2
    go_roundg k1
    case measure => have := HK1.out; omega
    case rel => exact ⟨(wrap64 (x8_1 + 1)), SD, H', ⟨by have := HK1.out; omega⟩, ⟨BQ BK108.out⟩, ⟨BL⟩⟩
   rw [if_pos c17] at H; have c17b0 : decide (0 < x8_1) = true := decide_eq_true c17; clear c17; obtain ⟨ji18, hji18⟩ : ∃ j_ : Int, (wrap64 (x8_1 - 1)) = j_ := ⟨_, rfl⟩
   replace H : (if 0 ≤ (ji18) then (if (ji18) < (l0_0.length : Int) then (if ((Op.bytesLess (((rd_T45 l0_0 (ji18)).f0).toList) (((rd_T45 l0_0 x8_1).f0).toList)) = true) then (impl_DiskOk.l0 k1 l0_0 (l0_0.length : Int) (wrap64 (x8_1 + 1)) l0_0) else (some false)) else (none)) else (none)) = some r := by first | (rw [hji18] at H; exact H) | (simp only [hji18] at H ⊢; exact H)
   (try rw [hji18] at A7)
   (try rw [hji18] at A15)
   have hji18w : (IntKind.i64.wrap (x8_1 - 1)) = ji18 := (i64_w _).trans hji18
   by_cases c19 : 0 ≤ (ji18); rotate_left
   ·
    rw [if_neg c19] at H; exact absurd H (by simp)
   rw [if_pos c19] at H; have c19b0 : decide (0 ≤ (ji18)) = true := decide_eq_true c19; clear c19
   by_cases c20 : (ji18) < (l0_0.length : Int); rotate_left
   ·
    rw [if_neg c20] at H; exact absurd H (by simp)
   rw [if_pos c20] at H; have c20b0 : decide ((ji18) < (l0_0.length : Int)) = true := decide_eq_true c20; clear c20
   by_cases c21 : ((Op.bytesLess (((rd_T45 l0_0 (ji18)).f0).toList) (((rd_T45 l0_0 x8_1).f0).toList)) = true); rotate_left
   ·
    rw [if_neg c21] at H
    have c21b0 : (Op.bytesLess (((rd_T45 l0_0 (ji18)).f0).toList) (((rd_T45 l0_0 x8_1).f0).toList)) = false := by simpa using c21
    clear c21; obtain rfl := Option.some.inj H; have p109 : 0 ≤ (x8_1 : Int) := of_decide_eq_true AS; have q109 : x8_1 < (l0_0.length : Int) := of_decide_eq_true AS; obtain ⟨ad109, e109, hx109_0, hx109_1, hx109_2⟩ := at_T45 HR0_0.out x8_1 p109 q109; cases e109; replace hx109_0 := HX hx109_0; replace hx109_1 := HX hx109_1; replace hx109_2 := HX hx109_2; replace p109 := eq_true p109; replace q109 := eq_true q109
    try go_wp2_with (first | ((with_reducible refine gate_dst (N := 4) rfl ?_); (try (refine gate_guard (by rfl) ?_; dsimp only)); refine bE 4 #[.string (⟨#[]⟩ : ByteArray), .string (⟨#[]⟩ : ByteArray), .int .i64 0] 45 ?_; intro gb110 hg w27 hbox hb; have BK110 := Aside0.mk (hbox); have GW110 : Aside0 (w.heap.size ≤ gb110) := GS; have GE110 := GW110; have NB108_110 := NL BK108.out hg; have NB110_108 := NG BK108.out hg; replace BK108 := BB BK108.out hb; replace HB := BS hb; clear hb hbox hg; obtain ⟨hnb28, hnc28⟩ := NN NB110_108.out; obtain ⟨hcz29_0, hcz29_1, hcz29_2, hfz29_0, hfz29_1, hfz29_2⟩ := KC3 BK110.out))
    have n0_ : Aside0 ((((w27.setCell ⟨gb110, 0, none⟩ (.string ((rd_T45 l0_0 x8_1).f0))).setCell ⟨gb110, 1, none⟩ (.string ((rd_T45 l0_0 x8_1).f1))).setCell ⟨gb110, 2, none⟩ (.int .i64 ((rd_T45 l0_0 x8_1).f2))).heap[gb108]? = some (.cells #[.slice (some ad109) l0_0.length c0_0] 29 (0, 0))) := ⟨BP BK108.out⟩; have n1_ : Aside0 ((((w27.setCell ⟨gb110, 0, none⟩ (.string ((rd_T45 l0_0 x8_1).f0))).setCell ⟨gb110, 1, none⟩ (.string ((rd_T45 l0_0 x8_1).f1))).setCell ⟨gb110, 2, none⟩ (.int .i64 ((rd_T45 l0_0 x8_1).f2))).heap[gb110]? = some (.cells #[.string ((rd_T45 l0_0 x8_1).f0), .string ((rd_T45 l0_0 x8_1).f1), .int .i64 ((rd_T45 l0_0 x8_1).f2)] 45 (0, 0))) := ⟨BU BK110.out⟩; have n2_ : Aside0 (Below w.heap.size w (((w27.setCell ⟨gb110, 0, none⟩ (.string ((rd_T45 l0_0 x8_1).f0))).setCell ⟨gb110, 1, none⟩ (.string ((rd_T45 l0_0 x8_1).f1))).setCell ⟨gb110, 2, none⟩ (.int .i64 ((rd_T45 l0_0 x8_1).f2)))) := ⟨BL⟩
    (try clear BK108)
    (try clear BK110)
    (try clear HB)
    generalize (((w27.setCell ⟨gb110, 0, none⟩ (.string ((rd_T45 l0_0 x8_1).f0))).setCell ⟨gb110, 1, none⟩ (.string ((rd_T45 l0_0 x8_1).f1))).setCell ⟨gb110, 2, none⟩ (.int .i64 ((rd_T45 l0_0 x8_1).f2))) = w30 at n0_ n1_ n2_ ⊢; have BK108 := n0_; have BK110 := n1_; have HB := n2_; clear n0_ n1_ n2_; replace BK108 := BD BK108; replace BK110 := BD BK110; replace HB := Aside0.mk (below_drew1 HB.out); have p113 : 0 ≤ ((ji18) : Int) := of_decide_eq_true AS; have q113 : (ji18) < (l0_0.length : Int) := of_decide_eq_true AS; obtain ⟨ad113, e113, hx113_0, hx113_1, hx113_2⟩ := at_T45 HR0_0.out (ji18) p113 q113; have hw113_2 := hx113_2; have hw113_1 := hx113_1; have hw113_0 := hx113_0; obtain rfl : ad109 = ad113 := (by injection e113); replace hx113_0 := HX hx113_0; replace hx113_1 := HX hx113_1; replace hx113_2 := HX hx113_2; replace p113 := eq_true p113; replace q113 := eq_true q113; refine start_ (n := 36) (S := fun w' => w'.cell? ⟨gb110, 0, none⟩ = some (.string ((rd_T45 l0_0 x8_1).f0)) ∧ w'.cell? ⟨gb110, 1, none⟩ = some (.string ((rd_T45 l0_0 x8_1).f1)) ∧ w'.cell? ⟨gb110, 2, none⟩ = some (.int .i64 ((rd_T45 l0_0 x8_1).f2)) ∧ w'.cell? ⟨gb108, 0, none⟩ = some (.slice (some ad109) l0_0.length c0_0) ∧ w'.cell? (ad109.add (((ji18)).toNat * 3)) = some (.string ((rd_T45 l0_0 (ji18)).f0)) ∧ w'.cell? ⟨(ad109.add (((ji18)).toNat * 3)).block, (ad109.add (((ji18)).toNat * 3)).off + 1, none⟩ = some (.string ((rd_T45 l0_0 (ji18)).f1)) ∧ w'.cell? ⟨(ad109.add (((ji18)).toNat * 3)).block, (ad109.add (((ji18)).toNat * 3)).off + 2, none⟩ = some (.int .i64 ((rd_T45 l0_0 (ji18)).f2))) (ds := []) #[false, false, false, false, false, false, false, false, false, false, false, false, false, false, false, false, false, false, false, false, false, false, false, false, false, false, false, false, false, false, false, false, false, false, false, false] (by kernel_rfl) rfl rfl ⟨CZ BK110.out 0, CZ BK110.out 1, CZ BK110.out 2, CZ BK108.out 0, ((HB.out.cell (World.block_lt_of_cell? w _ hw113_0)).trans hw113_0), ((HB.out.cell (World.block_lt_of_cell? w _ hw113_1)).trans hw113_1), ((HB.out.cell (World.block_lt_of_cell? w _ hw113_2)).trans hw113_2)⟩ (fun hHeld => ?_); refine with_tabW impl_DiskOk.tab4 impl_DiskOk.bits4 (fun HT_ HW_ => ?_); generalize w30.drew = w31 at BK108 BK110 HB hx113_0 hx113_1 hx113_2 hHeld ⊢; refine pV 0 13 (OB 36 1) ?_; refine pT 1 14 (OB 36 3) ?_; refine pV 2 15 (OB 36 7) ?_; refine one_ (i := 3) (N := some 16) (OB 36 15) rfl rfl (one_of HT_.out (by kernel_rfl)) (by decide) (fun K hK => ?_); refine goes_ Try.func51 (by kernel_rfl) rfl #[.int .i64 (((rd_T45 l0_0 x8_1).f0).size : Int), .int .i64 1, .int .i64 8] (by rfl) rfl rfl (MA) ?_
    with_reducible refine (impl_within.calls (((rd_T45 l0_0 x8_1).f0).size : Int) 1 8 true _ A7.out).mono ?_
    rintro e w' ⟨rfl, ⟨nd, rfl⟩⟩; refine ⟨_, rfl, ?_⟩; refine hK.out _ _ ⟨CZ BK110.out 0, CZ BK110.out 1, CZ BK110.out 2, CZ BK108.out 0, ((HB.out.cell (World.block_lt_of_cell? w _ hw113_0)).trans hw113_0), ((HB.out.cell (World.block_lt_of_cell? w _ hw113_1)).trans hw113_1), ((HB.out.cell (World.block_lt_of_cell? w _ hw113_2)).trans hw113_2)⟩ (fun hHeld => ?_); clear hK K; refine norm_ (a' := ?_) ?_ ?_; rotate_left
    ·
     show Act.put _ (some 16) _ = _; simp only [Act.put, zA, zB, zC, i64_w, i32_w]; rfl
    refine pV 4 17 (OB 36 31) ?_; refine pV 5 18 (OB 36 63) ?_; refine pV 6 19 (OB 36 127) ?_; refine pT 7 20 (OB 36 255) ?_; refine pV 8 21 (OB 36 511) ?_; refine pV 9 22 (OB 36 1023) ?_; refine pV 10 23 (OB 36 2047) ?_; refine pV 11 24 (OB 36 4095) ?_; refine pV 12 25 (OB 36 8191) ?_; refine pV 14 27 (OB 36 24575) ?_; refine pT 13 26 (OB 36 32767) ?_; refine pT 15 28 (OB 36 65535) ?_; refine pV 16 29 (OB 36 131071) ?_; refine one_ (i := 17) (N := some 30) (OB 36 262143) rfl rfl (one_of HT_.out (by kernel_rfl)) (by decide) (fun K hK => ?_); refine goes_ Try.func51 (by kernel_rfl) rfl #[.int .i64 ((rd_T45 l0_0 x8_1).f2), .int .i64 0, .int .i64 (((rd_T45 l0_0 x8_1).f1).size : Int)] (by rfl) rfl rfl (MA) ?_
    with_reducible refine (impl_within.calls ((rd_T45 l0_0 x8_1).f2) 0 (((rd_T45 l0_0 x8_1).f1).size : Int) true _ A15.out).mono ?_
    rintro e w' ⟨rfl, ⟨nd, rfl⟩⟩; refine ⟨_, rfl, ?_⟩; refine hK.out _ _ ⟨CZ BK110.out 0, CZ BK110.out 1, CZ BK110.out 2, CZ BK108.out 0, ((HB.out.cell (World.block_lt_of_cell? w _ hw113_0)).trans hw113_0), ((HB.out.cell (World.block_lt_of_cell? w _ hw113_1)).trans hw113_1), ((HB.out.cell (World.block_lt_of_cell? w _ hw113_2)).trans hw113_2)⟩ (fun hHeld => ?_); clear hK K; refine norm_ (a' := ?_) ?_ ?_; rotate_left
    ·
     show Act.put _ (some 30) _ = _; simp only [Act.put, zA, zB, zC, i64_w, i32_w]; rfl
    refine pV 18 31 (OB 36 524287) ?_; refine pV 19 32 (OB 36 1048575) ?_; refine pV 20 33 (OB 36 2097151) ?_; refine pV 21 34 (OB 36 4194303) ?_; refine pV 22 35 (OB 36 8388607) ?_; refine pV 23 36 (OB 36 16777215) ?_; refine pV 24 37 (OB 36 33554431) ?_; refine pV 26 39 (OB 36 100663295) ?_; refine pV 27 40 (OB 36 234881023) ?_; refine pV 31 44 (OB 36 2382364671) ?_; refine pT 25 38 (OB 36 2415919103) ?_; refine pV 28 41 (OB 36 2684354559) ?_; refine pV 29 42 (OB 36 3221225471) ?_; refine pT 30 43 (OB 36 4294967295) ?_; refine pT 32 45 (OB 36 8589934591) ?_; refine pV 33 46 (OB 36 17179869183) ?_; refine pV 34 47 (OB 36 34359738367) ?_; refine pV 35 48 (OB 36 68719476735) ?_; refine done_ (done_of HT_.out (by kernel_rfl)) ?_
    try go_wp2
    go_ret
    exact ⟨by first | rfl | (simp [errW_none, errW_some] <;> rfl) | (simp only [← hji18]; first | rfl | (simp [errW_none, errW_some] <;> rfl)) | (simp [*, errW_none, errW_some] <;> rfl), BL⟩
   rw [if_pos c21] at H; have c21b0 : (Op.bytesLess (((rd_T45 l0_0 (ji18)).f0).toList) (((rd_T45 l0_0 x8_1).f0).toList)) = true := c21; clear c21; have H' := Aside0.mk H; clear H; have p109 : 0 ≤ (x8_1 : Int) := of_decide_eq_true AS; have q109 : x8_1 < (l0_0.length : Int) := of_decide_eq_true AS; obtain ⟨ad109, e109, hx109_0, hx109_1, hx109_2⟩ := at_T45 HR0_0.out x8_1 p109 q109; cases e109; replace hx109_0 := HX hx109_0; replace hx109_1 := HX hx109_1; replace hx109_2 := HX hx109_2; replace p109 := eq_true p109; replace q109 := eq_true q109
   try go_wp2_with (first | ((with_reducible refine gate_dst (N := 4) rfl ?_); (try (refine gate_guard (by rfl) ?_; dsimp only)); refine bE 4 #[.string (⟨#[]⟩ : ByteArray), .string (⟨#[]⟩ : ByteArray), .int .i64 0] 45 ?_; intro gb110 hg w22 hbox hb; have BK110 := Aside0.mk (hbox); have GW110 : Aside0 (w.heap.size ≤ gb110) := GS; have GE110 := GW110; have NB108_110 := NL BK108.out hg; have NB110_108 := NG BK108.out hg; replace BK108 := BB BK108.out hb; replace HB := BS hb; clear hb hbox hg; obtain ⟨hnb23, hnc23⟩ := NN NB110_108.out; obtain ⟨hcz24_0, hcz24_1, hcz24_2, hfz24_0, hfz24_1, hfz24_2⟩ := KC3 BK110.out))
   have n0_ : Aside0 ((((w22.setCell ⟨gb110, 0, none⟩ (.string ((rd_T45 l0_0 x8_1).f0))).setCell ⟨gb110, 1, none⟩ (.string ((rd_T45 l0_0 x8_1).f1))).setCell ⟨gb110, 2, none⟩ (.int .i64 ((rd_T45 l0_0 x8_1).f2))).heap[gb108]? = some (.cells #[.slice (some ad109) l0_0.length c0_0] 29 (0, 0))) := ⟨BP BK108.out⟩; have n1_ : Aside0 ((((w22.setCell ⟨gb110, 0, none⟩ (.string ((rd_T45 l0_0 x8_1).f0))).setCell ⟨gb110, 1, none⟩ (.string ((rd_T45 l0_0 x8_1).f1))).setCell ⟨gb110, 2, none⟩ (.int .i64 ((rd_T45 l0_0 x8_1).f2))).heap[gb110]? = some (.cells #[.string ((rd_T45 l0_0 x8_1).f0), .string ((rd_T45 l0_0 x8_1).f1), .int .i64 ((rd_T45 l0_0 x8_1).f2)] 45 (0, 0))) := ⟨BU BK110.out⟩; have n2_ : Aside0 (Below w.heap.size w (((w22.setCell ⟨gb110, 0, none⟩ (.string ((rd_T45 l0_0 x8_1).f0))).setCell ⟨gb110, 1, none⟩ (.string ((rd_T45 l0_0 x8_1).f1))).setCell ⟨gb110, 2, none⟩ (.int .i64 ((rd_T45 l0_0 x8_1).f2)))) := ⟨BL⟩
   (try clear BK108)
   (try clear BK110)
   (try clear HB)
   generalize (((w22.setCell ⟨gb110, 0, none⟩ (.string ((rd_T45 l0_0 x8_1).f0))).setCell ⟨gb110, 1, none⟩ (.string ((rd_T45 l0_0 x8_1).f1))).setCell ⟨gb110, 2, none⟩ (.int .i64 ((rd_T45 l0_0 x8_1).f2))) = w25 at n0_ n1_ n2_ ⊢; have BK108 := n0_; have BK110 := n1_; have HB := n2_; clear n0_ n1_ n2_; replace BK108 := BD BK108; replace BK110 := BD BK110; replace HB := Aside0.mk (below_drew1 HB.out); have p113 : 0 ≤ ((ji18) : Int) := of_decide_eq_true AS; have q113 : (ji18) < (l0_0.length : Int) := of_decide_eq_true AS; obtain ⟨ad113, e113, hx113_0, hx113_1, hx113_2⟩ := at_T45 HR0_0.out (ji18) p113 q113; have hw113_2 := hx113_2; have hw113_1 := hx113_1; have hw113_0 := hx113_0; obtain rfl : ad109 = ad113 := (by injection e113); replace hx113_0 := HX hx113_0; replace hx113_1 := HX hx113_1; replace hx113_2 := HX hx113_2; replace p113 := eq_true p113; replace q113 := eq_true q113; refine start_ (n := 36) (S := fun w' => w'.cell? ⟨gb110, 0, none⟩ = some (.string ((rd_T45 l0_0 x8_1).f0)) ∧ w'.cell? ⟨gb110, 1, none⟩ = some (.string ((rd_T45 l0_0 x8_1).f1)) ∧ w'.cell? ⟨gb110, 2, none⟩ = some (.int .i64 ((rd_T45 l0_0 x8_1).f2)) ∧ w'.cell? ⟨gb108, 0, none⟩ = some (.slice (some ad109) l0_0.length c0_0) ∧ w'.cell? (ad109.add (((ji18)).toNat * 3)) = some (.string ((rd_T45 l0_0 (ji18)).f0)) ∧ w'.cell? ⟨(ad109.add (((ji18)).toNat * 3)).block, (ad109.add (((ji18)).toNat * 3)).off + 1, none⟩ = some (.string ((rd_T45 l0_0 (ji18)).f1)) ∧ w'.cell? ⟨(ad109.add (((ji18)).toNat * 3)).block, (ad109.add (((ji18)).toNat * 3)).off + 2, none⟩ = some (.int .i64 ((rd_T45 l0_0 (ji18)).f2))) (ds := []) #[false, false, false, false, false, false, false, false, false, false, false, false, false, false, false, false, false, false, false, false, false, false, false, false, false, false, false, false, false, false, false, false, false, false, false, false] (by kernel_rfl) rfl rfl ⟨CZ BK110.out 0, CZ BK110.out 1, CZ BK110.out 2, CZ BK108.out 0, ((HB.out.cell (World.block_lt_of_cell? w _ hw113_0)).trans hw113_0), ((HB.out.cell (World.block_lt_of_cell? w _ hw113_1)).trans hw113_1), ((HB.out.cell (World.block_lt_of_cell? w _ hw113_2)).trans hw113_2)⟩ (fun hHeld => ?_); refine with_tabW impl_DiskOk.tab4 impl_DiskOk.bits4 (fun HT_ HW_ => ?_); generalize w25.drew = w26 at BK108 BK110 HB hx113_0 hx113_1 hx113_2 hHeld ⊢; refine pV 0 13 (OB 36 1) ?_; refine pT 1 14 (OB 36 3) ?_; refine pV 2 15 (OB 36 7) ?_; refine one_ (i := 3) (N := some 16) (OB 36 15) rfl rfl (one_of HT_.out (by kernel_rfl)) (by decide) (fun K hK => ?_); refine goes_ Try.func51 (by kernel_rfl) rfl #[.int .i64 (((rd_T45 l0_0 x8_1).f0).size : Int), .int .i64 1, .int .i64 8] (by rfl) rfl rfl (MA) ?_
   with_reducible refine (impl_within.calls (((rd_T45 l0_0 x8_1).f0).size : Int) 1 8 true _ A7.out).mono ?_
   rintro e w' ⟨rfl, ⟨nd, rfl⟩⟩; refine ⟨_, rfl, ?_⟩; refine hK.out _ _ ⟨CZ BK110.out 0, CZ BK110.out 1, CZ BK110.out 2, CZ BK108.out 0, ((HB.out.cell (World.block_lt_of_cell? w _ hw113_0)).trans hw113_0), ((HB.out.cell (World.block_lt_of_cell? w _ hw113_1)).trans hw113_1), ((HB.out.cell (World.block_lt_of_cell? w _ hw113_2)).trans hw113_2)⟩ (fun hHeld => ?_); clear hK K; refine norm_ (a' := ?_) ?_ ?_; rotate_left
   ·
    show Act.put _ (some 16) _ = _; simp only [Act.put, zA, zB, zC, i64_w, i32_w]; rfl
   refine pV 4 17 (OB 36 31) ?_; refine pV 5 18 (OB 36 63) ?_; refine pV 6 19 (OB 36 127) ?_; refine pT 7 20 (OB 36 255) ?_; refine pV 8 21 (OB 36 511) ?_; refine pV 9 22 (OB 36 1023) ?_; refine pV 10 23 (OB 36 2047) ?_; refine pV 11 24 (OB 36 4095) ?_; refine pV 12 25 (OB 36 8191) ?_; refine pV 14 27 (OB 36 24575) ?_; refine pT 13 26 (OB 36 32767) ?_; refine pT 15 28 (OB 36 65535) ?_; refine pV 16 29 (OB 36 131071) ?_; refine one_ (i := 17) (N := some 30) (OB 36 262143) rfl rfl (one_of HT_.out (by kernel_rfl)) (by decide) (fun K hK => ?_); refine goes_ Try.func51 (by kernel_rfl) rfl #[.int .i64 ((rd_T45 l0_0 x8_1).f2), .int .i64 0, .int .i64 (((rd_T45 l0_0 x8_1).f1).size : Int)] (by rfl) rfl rfl (MA) ?_
   with_reducible refine (impl_within.calls ((rd_T45 l0_0 x8_1).f2) 0 (((rd_T45 l0_0 x8_1).f1).size : Int) true _ A15.out).mono ?_
   rintro e w' ⟨rfl, ⟨nd, rfl⟩⟩; refine ⟨_, rfl, ?_⟩; refine hK.out _ _ ⟨CZ BK110.out 0, CZ BK110.out 1, CZ BK110.out 2, CZ BK108.out 0, ((HB.out.cell (World.block_lt_of_cell? w _ hw113_0)).trans hw113_0), ((HB.out.cell (World.block_lt_of_cell? w _ hw113_1)).trans hw113_1), ((HB.out.cell (World.block_lt_of_cell? w _ hw113_2)).trans hw113_2)⟩ (fun hHeld => ?_); clear hK K; refine norm_ (a' := ?_) ?_ ?_; rotate_left
   ·
    show Act.put _ (some 30) _ = _; simp only [Act.put, zA, zB, zC, i64_w, i32_w]; rfl
   refine pV 18 31 (OB 36 524287) ?_; refine pV 19 32 (OB 36 1048575) ?_; refine pV 20 33 (OB 36 2097151) ?_; refine pV 21 34 (OB 36 4194303) ?_; refine pV 22 35 (OB 36 8388607) ?_; refine pV 23 36 (OB 36 16777215) ?_; refine pV 24 37 (OB 36 33554431) ?_; refine pV 26 39 (OB 36 100663295) ?_; refine pV 27 40 (OB 36 234881023) ?_; refine pV 31 44 (OB 36 2382364671) ?_; refine pT 25 38 (OB 36 2415919103) ?_; refine pV 28 41 (OB 36 2684354559) ?_; refine pV 29 42 (OB 36 3221225471) ?_; refine pT 30 43 (OB 36 4294967295) ?_; refine pT 32 45 (OB 36 8589934591) ?_; refine pV 33 46 (OB 36 17179869183) ?_; refine pV 34 47 (OB 36 34359738367) ?_; refine pV 35 48 (OB 36 68719476735) ?_; refine done_ (done_of HT_.out (by kernel_rfl)) ?_
   try go_wp2
   go_roundg k1
   case measure => have := HK1.out; omega
   case rel => exact ⟨(wrap64 (x8_1 + 1)), SD, H', ⟨by have := HK1.out; omega⟩, ⟨BQ BK108.out⟩, ⟨BL⟩⟩

/-! ### impl_actOk: function 65 -/
def impl_actOk.f (a0_0 : Int) (a0_1 : ByteArray) (a0_2 : ByteArray) (a0_3 : ByteArray) : Option (Bool) := (impl_within.f a0_0 1 4).bind fun t115 => (if t115 = true then (if a0_2.toList = ([] : List UInt8) then (if a0_3.toList = ([] : List UInt8) then (some true) else (some (a0_0 == 3))) else (if a0_0 = 1 then (if a0_3.toList = ([] : List UInt8) then (some true) else (some (a0_0 == 3))) else (some false))) else (some false))
set_option maxHeartbeats 8000000 in
set_option maxRecDepth 100000 in
theorem impl_actOk.calls (a0_0 : Int) (a0_1 : ByteArray) (a0_2 : ByteArray) (a0_3 : ByteArray) (r : Bool) (w : World) (h : impl_actOk.f a0_0 a0_1 a0_2 a0_3 = some r) :
  Calls Try.prog 65 #[.agg #[.int .i64 a0_0, .string a0_1, .string a0_2, .string a0_3]] w fun e w' => e = .returned (.bool r) ∧ Below w.heap.size w w' := by
 have hu55 := Try.underlying55
 have HB := Aside0.mk (Below.refl w.heap.size w)
 have H : ((impl_within.f a0_0 1 4).bind fun t115 => (if t115 = true then (if a0_2.toList = ([] : List UInt8) then (if a0_3.toList = ([] : List UInt8) then (some true) else (some (a0_0 == 3))) else (if a0_0 = 1 then (if a0_3.toList = ([] : List UInt8) then (some true) else (some (a0_0 == 3))) else (some false))) else (some false))) = some r := h
 clear h
 replace H := Option.bind_eq_some_iff.mp H
 obtain ⟨t115, A20, H⟩ := H
 have A2 := Aside0.mk A20
 clear A20
 by_cases c3 : t115 = true; rotate_left
 ·
  replace c3 := Bool.eq_false_iff.mpr c3; subst c3
  rw [if_neg (show ¬ (false = true) by decide)] at H; obtain rfl := Option.some.inj H
  go_enter Try.func65, Try.ntmps65
  go_wp2_with (first | ((with_reducible refine gate_dst (N := 1) rfl ?_); refine bE 1 #[.int .i64 a0_0, .string a0_1, .string a0_2, .string a0_3] 55 ?_; intro gb114 hg w18 hbox hb; have BK114 := Aside0.mk (hbox); have GW114 : Aside0 (w.heap.size ≤ gb114) := GS; have GE114 := GW114; replace HB := BS hb; clear hb hbox hg; obtain ⟨hcz19_0, hcz19_1, hcz19_2, hcz19_3, hfz19_0, hfz19_1, hfz19_2, hfz19_3⟩ := KC4 BK114.out) | ((with_reducible refine gate_callee (f := 51) rfl ?_); refine goesL_ (some 5) rfl rfl Try.func51 (by kernel_rfl) rfl #[.int .i64 a0_0, .int .i64 1, .int .i64 4] rfl (MA) ?_; (with_reducible refine (impl_within.calls a0_0 1 4 false _ A2.out).mono ?_); rintro e w' ⟨rfl, ⟨nd, rfl⟩⟩; refine ⟨_, rfl, ?_⟩))
  go_ret
  exact ⟨EE, BL⟩
 subst c3
 have H1 : (if a0_2.toList = ([] : List UInt8) then (if a0_3.toList = ([] : List UInt8) then (some true) else (some (a0_0 == 3))) else (if a0_0 = 1 then (if a0_3.toList = ([] : List UInt8) then (some true) else (some (a0_0 == 3))) else (some false))) = some r := by rw [if_pos rfl] at H; exact H
 clear H
 have H := H1
 clear H1
 by_cases c4 : a0_2.toList = ([] : List UInt8)
 ·
  rw [if_pos c4] at H; have c4b0 : (a0_2.toList == ([] : List UInt8)) = true := beq_iff_eq.mpr c4; have c4b1 : (a0_2.toList != ([] : List UInt8)) = false := bne_eq_false_iff_eq.mpr c4; clear c4
  by_cases c5 : a0_3.toList = ([] : List UInt8); rotate_left
  ·
   rw [if_neg c5] at H; have c5b0 : (a0_3.toList == ([] : List UInt8)) = false := beq_eq_false_iff_ne.mpr c5; have c5b1 : (a0_3.toList != ([] : List UInt8)) = true := bne_iff_ne.mpr c5; obtain rfl := Option.some.inj H
   go_enter Try.func65, Try.ntmps65
   go_wp2_with (first | ((with_reducible refine gate_dst (N := 1) rfl ?_); refine bE 1 #[.int .i64 a0_0, .string a0_1, .string a0_2, .string a0_3] 55 ?_; intro gb114 hg w8 hbox hb; have BK114 := Aside0.mk (hbox); have GW114 : Aside0 (w.heap.size ≤ gb114) := GS; have GE114 := GW114; replace HB := BS hb; clear hb hbox hg; obtain ⟨hcz9_0, hcz9_1, hcz9_2, hcz9_3, hfz9_0, hfz9_1, hfz9_2, hfz9_3⟩ := KC4 BK114.out) | ((with_reducible refine gate_callee (f := 51) rfl ?_); refine goesL_ (some 5) rfl rfl Try.func51 (by kernel_rfl) rfl #[.int .i64 a0_0, .int .i64 1, .int .i64 4] rfl (MA) ?_; (with_reducible refine (impl_within.calls a0_0 1 4 true _ A2.out).mono ?_); rintro e w' ⟨rfl, ⟨nd, rfl⟩⟩; refine ⟨_, rfl, ?_⟩))
   go_ret
   exact ⟨EE, BL⟩
  rw [if_pos c5] at H; have c5b0 : (a0_3.toList == ([] : List UInt8)) = true := beq_iff_eq.mpr c5; have c5b1 : (a0_3.toList != ([] : List UInt8)) = false := bne_eq_false_iff_eq.mpr c5; clear c5; obtain rfl := Option.some.inj H
  go_enter Try.func65, Try.ntmps65
  go_wp2_with (first | ((with_reducible refine gate_dst (N := 1) rfl ?_); refine bE 1 #[.int .i64 a0_0, .string a0_1, .string a0_2, .string a0_3] 55 ?_; intro gb114 hg w6 hbox hb; have BK114 := Aside0.mk (hbox); have GW114 : Aside0 (w.heap.size ≤ gb114) := GS; have GE114 := GW114; replace HB := BS hb; clear hb hbox hg; obtain ⟨hcz7_0, hcz7_1, hcz7_2, hcz7_3, hfz7_0, hfz7_1, hfz7_2, hfz7_3⟩ := KC4 BK114.out) | ((with_reducible refine gate_callee (f := 51) rfl ?_); refine goesL_ (some 5) rfl rfl Try.func51 (by kernel_rfl) rfl #[.int .i64 a0_0, .int .i64 1, .int .i64 4] rfl (MA) ?_; (with_reducible refine (impl_within.calls a0_0 1 4 true _ A2.out).mono ?_); rintro e w' ⟨rfl, ⟨nd, rfl⟩⟩; refine ⟨_, rfl, ?_⟩))
  go_ret
  exact ⟨EE, BL⟩
 rw [if_neg c4] at H
 have c4b0 : (a0_2.toList == ([] : List UInt8)) = false := beq_eq_false_iff_ne.mpr c4
 have c4b1 : (a0_2.toList != ([] : List UInt8)) = true := bne_iff_ne.mpr c4
 by_cases c10 : a0_0 = 1; rotate_left
 ·
  rw [if_neg c10] at H; have c10b0 : (a0_0 == 1) = false := beq_eq_false_iff_ne.mpr c10; have c10b1 : (a0_0 != 1) = true := bne_iff_ne.mpr c10; obtain rfl := Option.some.inj H
  go_enter Try.func65, Try.ntmps65
  go_wp2_with (first | ((with_reducible refine gate_dst (N := 1) rfl ?_); refine bE 1 #[.int .i64 a0_0, .string a0_1, .string a0_2, .string a0_3] 55 ?_; intro gb114 hg w16 hbox hb; have BK114 := Aside0.mk (hbox); have GW114 : Aside0 (w.heap.size ≤ gb114) := GS; have GE114 := GW114; replace HB := BS hb; clear hb hbox hg; obtain ⟨hcz17_0, hcz17_1, hcz17_2, hcz17_3, hfz17_0, hfz17_1, hfz17_2, hfz17_3⟩ := KC4 BK114.out) | ((with_reducible refine gate_callee (f := 51) rfl ?_); refine goesL_ (some 5) rfl rfl Try.func51 (by kernel_rfl) rfl #[.int .i64 a0_0, .int .i64 1, .int .i64 4] rfl (MA) ?_; (with_reducible refine (impl_within.calls a0_0 1 4 true _ A2.out).mono ?_); rintro e w' ⟨rfl, ⟨nd, rfl⟩⟩; refine ⟨_, rfl, ?_⟩))
  go_ret
  exact ⟨EE, BL⟩
 rw [if_pos c10] at H
 have c10b0 : (a0_0 == 1) = true := beq_iff_eq.mpr c10
 have c10b1 : (a0_0 != 1) = false := bne_eq_false_iff_eq.mpr c10
 clear c10
 by_cases c11 : a0_3.toList = ([] : List UInt8); rotate_left
 ·
  rw [if_neg c11] at H; have c11b0 : (a0_3.toList == ([] : List UInt8)) = false := beq_eq_false_iff_ne.mpr c11; have c11b1 : (a0_3.toList != ([] : List UInt8)) = true := bne_iff_ne.mpr c11; obtain rfl := Option.some.inj H
  go_enter Try.func65, Try.ntmps65
  go_wp2_with (first | ((with_reducible refine gate_dst (N := 1) rfl ?_); refine bE 1 #[.int .i64 a0_0, .string a0_1, .string a0_2, .string a0_3] 55 ?_; intro gb114 hg w14 hbox hb; have BK114 := Aside0.mk (hbox); have GW114 : Aside0 (w.heap.size ≤ gb114) := GS; have GE114 := GW114; replace HB := BS hb; clear hb hbox hg; obtain ⟨hcz15_0, hcz15_1, hcz15_2, hcz15_3, hfz15_0, hfz15_1, hfz15_2, hfz15_3⟩ := KC4 BK114.out) | ((with_reducible refine gate_callee (f := 51) rfl ?_); refine goesL_ (some 5) rfl rfl Try.func51 (by kernel_rfl) rfl #[.int .i64 a0_0, .int .i64 1, .int .i64 4] rfl (MA) ?_; (with_reducible refine (impl_within.calls a0_0 1 4 true _ A2.out).mono ?_); rintro e w' ⟨rfl, ⟨nd, rfl⟩⟩; refine ⟨_, rfl, ?_⟩))
  go_ret
  exact ⟨EE, BL⟩
 rw [if_pos c11] at H
 have c11b0 : (a0_3.toList == ([] : List UInt8)) = true := beq_iff_eq.mpr c11
 have c11b1 : (a0_3.toList != ([] : List UInt8)) = false := bne_eq_false_iff_eq.mpr c11
 clear c11
 obtain rfl := Option.some.inj H
 go_enter Try.func65, Try.ntmps65
 go_wp2_with (first | ((with_reducible refine gate_dst (N := 1) rfl ?_); refine bE 1 #[.int .i64 a0_0, .string a0_1, .string a0_2, .string a0_3] 55 ?_; intro gb114 hg w12 hbox hb; have BK114 := Aside0.mk (hbox); have GW114 : Aside0 (w.heap.size ≤ gb114) := GS; have GE114 := GW114; replace HB := BS hb; clear hb hbox hg; obtain ⟨hcz13_0, hcz13_1, hcz13_2, hcz13_3, hfz13_0, hfz13_1, hfz13_2, hfz13_3⟩ := KC4 BK114.out) | ((with_reducible refine gate_callee (f := 51) rfl ?_); refine goesL_ (some 5) rfl rfl Try.func51 (by kernel_rfl) rfl #[.int .i64 a0_0, .int .i64 1, .int .i64 4] rfl (MA) ?_; (with_reducible refine (impl_within.calls a0_0 1 4 true _ A2.out).mono ?_); rintro e w' ⟨rfl, ⟨nd, rfl⟩⟩; refine ⟨_, rfl, ?_⟩))
 go_ret
 exact ⟨EE, BL⟩

/-! ### impl_copyDisk: function 61 -/
def impl_copyDisk.f (l0_0 : List (S45)) : Option ((List (S45))) := (some (([] : List (S45)) : List (S45))).bind fun y118 => (if y118.length + l0_0.length < 3518437208883 then (some (y118 ++ l0_0)) else (none))
set_option maxHeartbeats 8000000 in
set_option maxRecDepth 100000 in
theorem impl_copyDisk.calls (A0_0 : Option Addr) (c0_0 : Nat) (l0_0 : List (S45)) (r : List (S45)) (w : World) (hr0_0 : Kd.C k45 w A0_0 l0_0.length l0_0) (hc0_0 : l0_0.length ≤ c0_0) (h : impl_copyDisk.f l0_0 = some r) :
  Calls Try.prog 61 #[.agg #[.slice A0_0 l0_0.length c0_0]] w fun e w' => ∃ v0_ : Value, e = .returned (.agg #[v0_]) ∧ Kd.R k45 45 w' w.heap.size (fun _ => True) v0_ r ∧ Below w.heap.size w w' := by
 have hu29 := Try.underlying29
 have HR0_0 := Aside0.mk hr0_0
 have HC0_0 := Aside0.mk hc0_0
 clear hr0_0 hc0_0
 have HB := Aside0.mk (Below.refl w.heap.size w)
 have H : ((some (([] : List (S45)) : List (S45))).bind fun y118 => (if y118.length + l0_0.length < 3518437208883 then (some (y118 ++ l0_0)) else (none))) = some r := h
 clear h
 obtain ⟨y118, hy118⟩ : ∃ y_ : List (S45), y_ = (([] : List (S45))) := ⟨_, rfl⟩
 replace H : (if y118.length + l0_0.length < 3518437208883 then (some (y118 ++ l0_0)) else (none)) = some r := by first | (rw [hy118]; with_reducible exact H) | (have H2_ := (Option.bind_some _ _).symm.trans H; rw [hy118]; with_reducible exact H2_) | (have H2_ := (Option.bind_some _ _).symm.trans H; with_reducible exact H2_) | with_reducible exact H | (rw [hy118]; exact H) | exact H
 have Ny118 := Aside0.mk hy118
 clear hy118
 by_cases c2 : y118.length + l0_0.length < 3518437208883; rotate_left
 ·
  rw [if_neg c2] at H; exact absurd H (by simp)
 rw [if_pos c2] at H
 have LMc2 := Aside0.mk c2
 clear c2
 obtain ⟨y121, hy121⟩ : ∃ y_ : List (S45), y_ = (y118 ++ l0_0) := ⟨_, rfl⟩
 replace H : (some y121) = some r := by first | (rw [hy121]; with_reducible exact H) | (have H2_ := (Option.bind_some _ _).symm.trans H; rw [hy121]; with_reducible exact H2_) | (have H2_ := (Option.bind_some _ _).symm.trans H; with_reducible exact H2_) | with_reducible exact H | (rw [hy121]; exact H) | exact H
 have Ny121 := Aside0.mk hy121
 clear hy121
 obtain rfl := Option.some.inj H
 go_enter Try.func61, Try.ntmps61
 go_wp2_with (first | ((with_reducible refine gate_dst (N := 1) rfl ?_); refine bE 1 #[.slice A0_0 l0_0.length c0_0] 29 ?_; intro gb116 hg w3 hbox hb; have BK116 := Aside0.mk (hbox); have GW116 : Aside0 (w.heap.size ≤ gb116) := GS; have GE116 := GW116; replace HB := BS hb; clear hb hbox hg) | ((with_reducible refine gate_dst (N := 2) rfl ?_); refine bE 2 #[.slice none 0 0] 29 ?_; intro gb117 hg w4 hbox hb; have BK117 := Aside0.mk (hbox); have GW117 : Aside0 (w.heap.size ≤ gb117) := GS; have GE117 := GW117; have NB116_117 := NL BK116.out hg; have NB117_116 := NG BK116.out hg; replace BK116 := BB BK116.out hb; replace HB := BS hb; clear hb hbox hg) | ((with_reducible refine gate_dst (N := 3) rfl ?_); refine Kd.R_lit k45 _ 45 ?hg (N := 3) ?hd (xs := ([] : List (S45))) (inner := []) (ok := fun _ => True) (okp := fun _ => True) ?hr ?hp (fun _ hk => hk) trivial (Below.refl _ _) (Nat.le_refl _) (by simp) ?_; (case hd => rfl); (case hg => rfl); (case hr => first | (go_simp; done) | (go_simp; rfl)); (case hp => exact (Reps.none _ _)); intro v119 w5 ho6 hb hg_ hnew_; clear hg_ hnew_; (first | rw [← Ny118.out] at ho6 | (simp only [Int.reduceToNat] at ho6; rw [← Ny118.out] at ho6)); have HO120 := Aside0.mk (Kd.R_lower ho6 (below_size (BL))); replace BK116 := BB BK116.out hb; replace BK117 := BB BK117.out hb; replace HB := BS hb; clear hb ho6; obtain ⟨hnb7, hnc7⟩ := NN NB116_117.out; obtain ⟨hcz8_0, hfz8_0⟩ := KC1 BK116.out) | ((with_reducible refine gate_builtin (b := .append) (xs := #[.tmp 3, .tmp 5]) rfl ?_); at_builtin; refine Kd.R_append_rows k45 (w0 := w) w.heap.size rfl (.tmp 3) (.tmp 5) 27 45 (.agg #[(.string ⟨#[]⟩), (.string ⟨#[]⟩), (.int .i64 0)]) 40 rfl Try.underlying27 info45 rfl (by decide) (by omega) v119 y118 l0_0 _ _ _ (fun _ => True) (fun _ => False) rfl rfl ?aO ?aR (fun _ _ h => h) (fun _ h => h.elim) ?aF ?aB ?aS ?aL ?_; (case aR => exact CB HR0_0.out); (case aB => exact (BL)); (case aF => exact (fun _ _ => trivial)); (case aO => exact RQ HO120.out); (case aS => exact (below_size (BL))); (case aL => have := LMc2.out; omega); intro v122 w9 ho hb hg hat; rw [← Ny121.out] at ho; replace BK116 := Aside0.mk (blk_grown (g := gb116) (o := .cells #[.slice A0_0 l0_0.length c0_0] 29 (0, 0)) (BQ BK116.out) hg (Kd.R_ne HO120.out BK116.out (by decide))); replace BK117 := Aside0.mk (blk_grown (g := gb117) (o := .cells #[.slice none 0 0] 29 (0, 0)) (BQ BK117.out) hg (Kd.R_ne HO120.out BK117.out (by decide))); have n2_ := Aside0.mk (hb); have HO123 := Aside0.mk (ho); clear HB HO120; have HB := n2_; clear n2_ ho hb hg hat; obtain ⟨Ao10, co10, eo10⟩ := Kd.R_slice HO123.out; subst eo10; obtain ⟨hcz11_0, hfz11_0⟩ := KC1 BK117.out))
 refine bodyPost_ret (results_cell_row rfl _ _ gb117 29 #[.slice Ao10 y121.length co10] (0, 0) _ rfl (BU BK117.out) Try.underlying29 rfl (by kernel_rfl)) rfl ?_
 exact ⟨_, EE, by (with_reducible repeat (first | apply r1 | apply r2 | apply r3)); exact Kd.R_mono (Kd.R_far (p := ⟨gb117, 0, none⟩) (Kd.R_types HO123.out BK117.out (by decide)) (fun _ hk => hk.2) (.slice Ao10 y121.length co10)) (fun _ hk => trivial), BL⟩

-- NOT PRINTED: function 81 (impl_File_81)

/-! ### impl_withoutFile: function 67 -/
section
open Go.Proofs.Ythfppepnpngfmaa.Row
def en45 (x : S45) : List Value := [.string x.f0, .string x.f1, .int .i64 x.f2]
theorem en45_len (x : S45) : (en45 x).length = 3 := rfl
theorem en45_M {w : World} {b : Nat} {o : Nat → Prop} {x : S45} {cs : List Value} (h : k45.M w b o x cs) : cs = en45 x := k45_openM h
theorem en45_mk (w : World) (b : Nat) (o : Nat → Prop) (x : S45) : k45.M w b o x (en45 x) := k45_mkM w b o x
theorem en45_one (x : S45) : ∀ v ∈ en45 x, v.oneCell' = true := by
  intro v hv
  simp only [en45, List.mem_cons, List.not_mem_nil, or_false] at hv
  rcases hv with rfl | rfl | rfl <;> rfl
def keepF (s : ByteArray) (x : S45) : Bool := !(x.f0.toList == s.toList)
theorem clear_run (w : World) (g o n c : Nat) (L : List Value) (h : RowIs w g 45 L) (hl : o + n * 3 ≤ L.length) :
    ∃ zs : List Value, zs.length = n * 3 ∧ ∀ ty, (Builtin.clear_ #[27] ty #[.slice (some ⟨g, o, none⟩) n c]).run Try.prog w = .ok (.tuple #[]) (w.setCells g o zs) := by
  cases n with
  | zero => exact ⟨[], by simp, fun ty => by simp [Builtin.clear_, run_underlying Try.underlying27, World.setCells]⟩
  | succ m =>
    refine ⟨(Builtin.zeroCells #[.string ⟨#[]⟩, .string ⟨#[]⟩, .int .i64 0] (m + 1)).toList, by simp [Builtin.zeroCells], fun ty => ?_⟩
    have hv : ∀ W, (zeroValue 45).run Try.prog W = .ok (.agg #[.string ⟨#[]⟩, .string ⟨#[]⟩, .int .i64 0]) W := fun W => by kernel_rfl
    have hst := run_storeCells_cells (P := Try.prog) g o (Builtin.zeroCells #[.string ⟨#[]⟩, .string ⟨#[]⟩, .int .i64 0] (m + 1)).toList 0 w (fun j hj => h.isSome (by simp [Builtin.zeroCells] at hj; omega)) (fun j _ => h.free _) (by
      intro v hv'
      simp only [Builtin.zeroCells, Array.toList_map, List.mem_map] at hv'
      obtain ⟨i, _, rfl⟩ := hv'
      have h3 : i % 3 < 3 := Nat.mod_lt _ (by omega)
      show (#[Value.string ⟨#[]⟩, .string ⟨#[]⟩, .int .i64 0][i % 3]!).oneCell' = true
      rcases (by omega : i % 3 = 0 ∨ i % 3 = 1 ∨ i % 3 = 2) with e | e | e <;> rw [e] <;> rfl)
    simp only [Nat.add_zero] at hst
    simp only [Builtin.clear_, run_underlying Try.underlying27, hv, Value.cells, hst]
    simp [run_underlying Try.underlying27, hv, hst, Value.cells]
set_option maxHeartbeats 4000000 in
theorem impl_withoutFile.test (a b : ByteArray) (c : Int) (s : ByteArray) (B : Nat) (w : World) (hB : B < w.heap.size) (hc : w.cell? ⟨B, 0, none⟩ = some (.string s)) :
    Calls Try.prog 82 #[.agg #[.string a, .string b, .int .i64 c], .pointer (some ⟨B, 0, none⟩)] w fun e w' => e = .returned (.bool (a.toList == s.toList)) ∧ Below w.heap.size w w' := by
  have hu45 := Try.underlying45
  go_enter Try.func82, Try.ntmps82
  go_wp2
  go_ret
  exact ⟨rfl, below_alloc (Below.refl _ _) _⟩
set_option maxHeartbeats 2000000 in
theorem impl_withoutFile.index (l : List S45) (A : Option Addr) (c : Nat) (s : ByteArray) (B : Nat) (w : World) (hl : Kd.C k45 w A l.length l) (hB : B < w.heap.size) (hc : w.cell? ⟨B, 0, none⟩ = some (.string s)) :
    Calls Try.prog 77 #[.slice A l.length c, .func (.func 82) #[] #[.pointer (some ⟨B, 0, none⟩)]] w fun e w' => e = .returned (.int .i64 (impl_placeOf.ix s l 0)) ∧ Below w.heap.size w w' := by
  have hu45 := Try.underlying45
  have hmax := Kd.C_max hl
  have HL := Aside0.mk hl
  have HC := Aside0.mk hc
  clear hl hc
  go_enter Try.func77, Try.ntmps77
  go_wp2
  go_loopg [5, 8] l.length (fun gg _ s8 wr => ∃ kk : Nat, kk ≤ l.length ∧ l.length - kk ≤ gg ∧ s8 = .int .i64 kk ∧ Aside0 (Below w.heap.size w wr) ∧ Aside0 (impl_placeOf.ix s (l.drop kk) kk = impl_placeOf.ix s l 0))
  case atStart => exact ⟨0, Nat.zero_le _, by omega, rfl, ⟨Below.refl _ w⟩, ⟨rfl⟩⟩
  case round =>
    obtain ⟨kk, hkk, hg, rfl, BW, IX⟩ := hrel
    by_cases hlt : kk < l.length
    · have hltz : (kk : Int) < (l.length : Int) := by omega
      have hcB := (BW.out.cell (p := ⟨B, 0, none⟩) hB).trans HC.out
      obtain ⟨ad, e1, x0, x1, x2⟩ := at_T45 HL.out (kk : Int) (by omega) hltz
      cases e1
      simp only [Int.toNat_natCast] at x0 x1 x2
      replace x0 := (BW.out.cell (World.block_lt_of_cell? w _ x0)).trans x0
      replace x1 := (BW.out.cell (World.block_lt_of_cell? w _ x1)).trans x1
      replace x2 := (BW.out.cell (World.block_lt_of_cell? w _ x2)).trans x2
      have hcall := impl_withoutFile.test (rd_T45 l kk).f0 (rd_T45 l kk).f1 (rd_T45 l kk).f2 s B wr (Nat.lt_of_lt_of_le hB BW.out.size) hcB
      have IY := IX.out
      rw [impl_placeOf.drop_rd l kk hlt, impl_placeOf.ix] at IY
      clear hcB
      cases hq : (rd_T45 l (kk : Int)).f0.toList == s.toList with
      | true =>
        rw [hq, if_pos rfl] at IY
        rw [hq] at hcall
        have HIY := Aside0.mk IY
        clear IY hq IX
        go_wp2_with (go_at_call 82; refine hcall.mono ?_; rintro e w' ⟨rfl, hb'⟩)
        go_ret
        exact ⟨by rw [HIY.out]; rfl, below_then BW.out BW.out.size hb'⟩
      | false =>
        rw [hq, if_neg (by simp)] at IY
        rw [hq] at hcall
        have HIY := Aside0.mk IY
        clear IY hq IX
        go_wp2_with (go_at_call 82; refine hcall.mono ?_; rintro e w' ⟨rfl, hb'⟩)
        go_roundg (l.length - (kk + 1))
        case measure => omega
        case rel => exact ⟨kk + 1, by omega, by omega, by go_num, ⟨below_then BW.out BW.out.size hb'⟩, HIY⟩
    · have hltz : ¬ (kk : Int) < (l.length : Int) := by omega
      have : kk = l.length := by omega
      subst this
      have IY := IX.out
      rw [List.drop_length, impl_placeOf.ix] at IY
      have HIY := Aside0.mk IY
      clear IY IX
      go_wp2
      go_ret
      exact ⟨by rw [← HIY.out]; rfl, BW.out⟩

theorem keep_ix (s : ByteArray) (l : List S45) : ∀ i : Int, (impl_placeOf.ix s l i = -1 ∧ l.filter (keepF s) = l) ∨ ∃ j : Nat, j < l.length ∧ impl_placeOf.ix s l i = i + (j : Int) ∧ (l.take j).filter (keepF s) = l.take j ∧ (l.take (j + 1)).filter (keepF s) = l.take j := by
  induction l with
  | nil => intro i; exact .inl ⟨rfl, rfl⟩
  | cons x r ih =>
    intro i
    by_cases h : (x.f0.toList == s.toList) = true
    · refine .inr ⟨0, by simp, ?_, rfl, ?_⟩
      · rw [impl_placeOf.ix, if_pos h]; simp
      · have hk : keepF s x = false := by unfold keepF; rw [h]; rfl
        simp [List.filter_cons, hk]
    · have hk : keepF s x = true := by unfold keepF; rw [Bool.eq_false_iff.2 h]; rfl
      have e : impl_placeOf.ix s (x :: r) i = impl_placeOf.ix s r (i + 1) := by rw [impl_placeOf.ix, if_neg h]
      rcases ih (i + 1) with ⟨h1, h2⟩ | ⟨j, hj, h1, h2, h3⟩
      · exact .inl ⟨by rw [e, h1], by rw [List.filter_cons, if_pos hk, h2]⟩
      · exact .inr ⟨j + 1, by simpa using hj, by rw [e, h1]; omega, by rw [List.take_succ_cons, List.filter_cons, if_pos hk, h2], by rw [List.take_succ_cons, List.filter_cons, if_pos hk, h3]; rfl⟩
/-- The row while it is rewritten: what is kept so far, cells that are free, what is to come, the rest. -/
theorem row_store {g : Nat} {K X T : List Value} {x : S45} {W : World} (h : RowIs W g 45 (K ++ X ++ (en45 x ++ T))) (h3 : 3 ≤ X.length) (o : Nat) (ho : K.length = o) :
    RowIs (W.setCells g o (en45 x)) g 45 ((K ++ en45 x) ++ (X ++ en45 x).drop 3 ++ T) := by
  subst ho
  have hs := h.set K.length (en45 x) (by simp [en45]; omega)
  have e1 : (K ++ X ++ (en45 x ++ T)).take K.length = K := by rw [List.append_assoc]; exact List.take_left' rfl
  have e2 : (K ++ X ++ (en45 x ++ T)).drop (K.length + (en45 x).length) = (X ++ en45 x).drop 3 ++ T := by
    rw [← List.drop_drop, List.append_assoc, List.drop_left' rfl, ← List.append_assoc, en45_len, List.drop_append_of_le_length (by simp [en45])]
  rw [e1, e2] at hs
  simpa [List.append_assoc] using hs
theorem row_clear {g : Nat} {K X T : List Value} {W : World} (h : RowIs W g 45 (K ++ X ++ T)) (zs : List Value) (hz : zs.length = X.length) (o : Nat) (ho : K.length = o) : RowIs (W.setCells g o zs) g 45 (K ++ zs ++ T) := by
  subst ho
  have hs := h.set K.length zs (by simp; omega)
  rw [List.append_assoc K X T, List.take_left' rfl, ← List.drop_drop, List.drop_left' rfl, hz, List.drop_left' rfl] at hs
  exact hs
theorem take_rd (l : List S45) (j : Nat) (h : j < l.length) : l.take (j + 1) = l.take j ++ [rd_T45 l (j : Int)] := by
  have e := List.take_append_drop j (l.take (j + 1))
  rw [List.take_take, Nat.min_eq_left (by omega), List.drop_take, impl_placeOf.drop_rd l j h, show j + 1 - j = 1 by omega] at e
  rw [← e]; rfl
theorem row_at {K X T : List Value} {x : S45} {m : Nat} (hm : K.length + X.length = m) (i : Nat) (v : Value) (hv : (en45 x)[i]? = some v) : (K ++ X ++ (en45 x ++ T))[m + i]? = some v := by
  subst hm
  have hi := (List.getElem?_eq_some_iff.1 hv).1
  rw [List.getElem?_append_right (by simp), List.length_append, Nat.add_sub_cancel_left, List.getElem?_append_left hi]
  exact hv
set_option maxHeartbeats 4000000 in
set_option maxRecDepth 100000 in
theorem impl_withoutFile.delete (l : List S45) (v : Value) (s : ByteArray) (B base : Nat) (ok : Nat → Prop) (w : World) (hR : Kd.R k45 45 w base ok v l) (hB : B < w.heap.size) (hc : w.cell? ⟨B, 0, none⟩ = some (.string s)) (hne : ∀ k, v.ownBlock = some k → B ≠ k) :
    Calls Try.prog 81 #[v, .func (.func 82) #[] #[.pointer (some ⟨B, 0, none⟩)]] w fun e w' => ∃ v', e = .returned v' ∧ Kd.R k45 45 w' base ok v' (l.filter (keepF s)) ∧ w.grownBy w' v.ownBlock := by
  have hu45 := Try.underlying45
  have hu27 := Try.underlying27
  obtain ⟨A, c, rfl, hlc, hC⟩ := Kd.R_reads hR
  have hIF := impl_withoutFile.index l A c s B w hC hB hc
  rcases keep_ix s l 0 with ⟨e1, e2⟩ | ⟨k0, hk0, e1, e2, e3⟩
  · rw [e1] at hIF
    rw [e2]
    have HR := Aside0.mk hR
    clear hR hC e1 e2 hc
    go_enter Try.func81, Try.ntmps81
    go_wp2_with (go_at_call 77; refine hIF.mono ?_; rintro e w' ⟨rfl, hb'⟩)
    go_ret
    exact ⟨_, rfl, Kd.R_below HR.out hb', grown_of_below hb' _⟩
  · rcases R_rows (enc := en45) en45_len en45_M hR with ⟨_, rfl⟩ | ⟨g, cap, rest, ev, hbg, hokg, hcap, hmx, hrow, hrl⟩
    · simp at hk0
    cases ev
    have hBg : B ≠ g := hne g rfl
    rw [e1] at hIF
    have hne1 : ((0 : Int) + (k0 : Int) == -1) = false := beq_eq_false_iff_ne.2 (by omega)
    unfold maxLen at hmx
    have HRow := Aside0.mk hrow
    have HC := Aside0.mk hc
    have E2 := Aside0.mk e2
    have E3 := Aside0.mk e3
    clear hR hC hrow hc e1 e2 e3 hne
    simp only [Int.zero_add] at hIF hne1
    go_enter Try.func81, Try.ntmps81
    go_wp2_with (go_at_call 77; refine hIF.mono ?_; rintro e w1 ⟨rfl, hb1⟩)
    go_loopg [5, 6, 7] l.length (fun gg s5 s6 _ wr => ∃ (i j : Nat) (X : List Value), s5 = .int .i64 i ∧ s6 = .int .i64 j ∧ j ≤ l.length ∧ l.length - j ≤ gg ∧ Aside0 (i < j ∧ ((l.take j).filter (keepF s)).length = i ∧ X.length = (j - i) * 3) ∧ Aside0 (RowIs wr g 45 (flat en45 ((l.take j).filter (keepF s)) ++ X ++ (flat en45 (l.drop j) ++ rest))) ∧ Aside0 (w.grownBy wr (some g)))
    case atStart =>
      refine ⟨k0, k0 + 1, en45 (rd_T45 l (k0 : Int)), rfl, by go_num, by omega, by omega, ⟨by omega, ?_, ?_⟩, ⟨?_⟩, ⟨grown_of_below hb1 _⟩⟩
      · rw [E3.out, List.length_take]; omega
      · rw [en45_len, show k0 + 1 - k0 = 1 by omega]
      · have := HRow.out.below hb1
        rw [E3.out]
        have e : flat en45 l = flat en45 (l.take k0) ++ en45 (rd_T45 l (k0 : Int)) ++ flat en45 (l.drop (k0 + 1)) := by
          conv => lhs; rw [← List.take_append_drop k0 l, impl_placeOf.drop_rd l k0 hk0, flat_append, flat_cons]
          simp
        rw [e, List.append_assoc] at this
        exact this
    case round =>
      obtain ⟨i, j, X, rfl, rfl, hjl, hgg, IX, ROW, GW⟩ := hrel
      have hij := IX.out.1
      by_cases hlt : j < l.length
      · have hltz : (j : Int) < (l.length : Int) := by omega
        have hkl : (flat en45 ((l.take j).filter (keepF s))).length = i * 3 := by rw [flat_length en45_len, IX.out.2.1]
        have hXl : X.length = (j - i) * 3 := IX.out.2.2
        have R0 := ROW.out
        rw [impl_placeOf.drop_rd l j hlt, flat_cons, List.append_assoc (en45 _)] at R0
        have hm : (flat en45 ((l.take j).filter (keepF s))).length + X.length = j * 3 := by omega
        have x0 : wr.cell? ⟨g, j * 3, none⟩ = some (.string (rd_T45 l (j : Int)).f0) := R0.cell (row_at hm 0 _ rfl)
        have hBlt : B < wr.heap.size := World.block_lt_of_cell? wr ⟨B, 0, none⟩ (grown_cell GW.out hBg HC.out)
        have x1 := R0.cell (row_at hm 1 (.string (rd_T45 l (j : Int)).f1) rfl)
        have x2 := R0.cell (row_at hm 2 (.int .i64 (rd_T45 l (j : Int)).f2) rfl)
        have hcB := grown_cell GW.out hBg HC.out
        have hcall := impl_withoutFile.test (rd_T45 l j).f0 (rd_T45 l j).f1 (rd_T45 l j).f2 s B (wr.alloc (.cells #[.string (rd_T45 l j).f0, .string (rd_T45 l j).f1, .int .i64 (rd_T45 l j).f2] 45)) (by simp; omega) (pw_cell_below (below_alloc (Below.refl _ _) _) hcB)
        have RA := Aside0.mk (R0.below (below_alloc (Below.refl _ _) (.cells #[.string (rd_T45 l j).f0, .string (rd_T45 l j).f1, .int .i64 (rd_T45 l j).f2] 45)))
        have GA := Aside0.mk (grown_below GW.out (below_alloc (Below.refl _ _) (.cells #[.string (rd_T45 l j).f0, .string (rd_T45 l j).f1, .int .i64 (rd_T45 l j).f2] 45)))
        have HLn := Aside0.mk (show i * 3 + 3 ≤ (flat en45 ((l.take j).filter (keepF s)) ++ X ++ (en45 (rd_T45 l (j : Int)) ++ (flat en45 (l.drop (j + 1)) ++ rest))).length by simp only [List.length_append, hkl, hXl]; omega)
        have hil : (i : Int) < (l.length : Int) := by omega
        clear R0 hkl hXl hm ROW GW hcB
        cases hq : (rd_T45 l (j : Int)).f0.toList == s.toList with
        | true =>
          rw [hq] at hcall
          have HQ := Aside0.mk hq
          clear hq
          go_wp2_with (go_at_call 82; refine hcall.mono ?_; rintro e w2 ⟨rfl, hb2⟩)
          go_roundg (l.length - (j + 1))
          case measure => omega
          case rel =>
            have hk : keepF s (rd_T45 l (j : Int)) = false := by unfold keepF; rw [HQ.out]; rfl
            have e1 : (l.take (j + 1)).filter (keepF s) = (l.take j).filter (keepF s) := by rw [take_rd l j hlt, List.filter_append]; simp [List.filter_cons, hk]
            refine ⟨i, j + 1, X ++ en45 (rd_T45 l (j : Int)), rfl, by go_num, by omega, Nat.le_refl _, ⟨by omega, by rw [e1]; exact IX.out.2.1, by rw [List.length_append, IX.out.2.2, en45_len]; omega⟩, ⟨?_⟩, ⟨grown_below GA.out hb2⟩⟩
            have := RA.out.below hb2
            rw [e1]
            simpa [List.append_assoc] using this
        | false =>
          rw [hq] at hcall
          have HQ := Aside0.mk hq
          clear hq
          go_wp2_with (go_at_call 82; refine hcall.mono ?_; rintro e w2 ⟨rfl, hb2⟩; have RB := Aside0.mk (RA.out.below hb2); have GB := Aside0.mk (grown_below GA.out hb2); have n0 : w2.cell? ⟨wr.heap.size, 0, none⟩ = some (.string (rd_T45 l (j : Int)).f0) := pw_cell_below hb2 (by go_simp); have n1 : w2.cell? ⟨wr.heap.size, 1, none⟩ = some (.string (rd_T45 l (j : Int)).f1) := pw_cell_below hb2 (by go_simp); have n2 : w2.cell? ⟨wr.heap.size, 2, none⟩ = some (.int .i64 (rd_T45 l (j : Int)).f2) := pw_cell_below hb2 (by go_simp); obtain ⟨o0, p0⟩ := Option.isSome_iff_exists.1 (RB.out.isSome (j := i * 3) (by have := HLn.out; omega)); obtain ⟨o1, p1⟩ := Option.isSome_iff_exists.1 (RB.out.isSome (j := i * 3 + 1) (by have := HLn.out; omega)); obtain ⟨o2, p2⟩ := Option.isSome_iff_exists.1 (RB.out.isSome (j := i * 3 + 2) (by have := HLn.out; omega)); have q0 := RB.out.free (i * 3); have q1 := RB.out.free (i * 3 + 1); have q2 := RB.out.free (i * 3 + 2))
          go_roundg (l.length - (j + 1))
          case measure => omega
          case rel =>
            have hk : keepF s (rd_T45 l (j : Int)) = true := by unfold keepF; rw [HQ.out]; rfl
            have e1 : (l.take (j + 1)).filter (keepF s) = (l.take j).filter (keepF s) ++ [rd_T45 l (j : Int)] := by rw [take_rd l j hlt, List.filter_append]; simp [List.filter_cons, hk]
            have hx := IX.out.2.2
            refine ⟨i + 1, j + 1, (X ++ en45 (rd_T45 l (j : Int))).drop 3, by go_num, by go_num, by omega, Nat.le_refl _, ⟨by omega, by rw [e1, List.length_append, IX.out.2.1]; rfl, by rw [List.length_drop, List.length_append, hx, en45_len]; omega⟩, ⟨?_⟩, ⟨?_⟩⟩
            · have := row_store RB.out (by omega) (i * 3) (by rw [flat_length en45_len, IX.out.2.1])
              rw [e1, flat_append]
              exact this
            · exact grown_trans GB.out (grown_set w2 g (i * 3) (en45 (rd_T45 l (j : Int))))
      · obtain rfl : j = l.length := by omega
        have hltz : ¬ (l.length : Int) < (l.length : Int) := by omega
        have hkl : (flat en45 ((l.take l.length).filter (keepF s))).length = i * 3 := by rw [flat_length en45_len, IX.out.2.1]
        have hXl : X.length = (l.length - i) * 3 := IX.out.2.2
        obtain ⟨zs, hz, hcl⟩ := clear_run wr g (i * 3) (l.length - i) (c - i) _ ROW.out (by simp only [List.length_append, hkl, hXl]; omega)
        have hs := row_clear ROW.out zs (by rw [hz, hXl]) (i * 3) hkl
        rw [List.drop_length] at hs
        have HS := Aside0.mk hs
        have HZ := Aside0.mk hz
        have hil : (i : Int) ≤ (l.length : Int) := by omega
        have hic : (i : Int) ≤ (c : Int) := by omega
        have hci : ¬ (c = i) := by omega
        clear hkl hXl hs hz ROW
        go_wp2
        go_ret
        have e1 : (l.take l.length).filter (keepF s) = l.filter (keepF s) := by rw [List.take_length]
        have hi := IX.out.2.1
        rw [e1] at hi
        refine ⟨.slice (some ⟨g, 0, none⟩) (l.filter (keepF s)).length c, by rw [hi]; rfl, ?_, grown_trans GW.out (grown_set wr g (i * 3) zs)⟩
        have hfl := List.length_filter_le (keepF s) l
        refine R_of_rows (rest := zs ++ rest) en45_len en45_mk hbg hokg (by omega) (by unfold maxLen; omega) ?_ ?_
        · have := HS.out
          rw [e1] at this
          simpa [flat_nil, List.append_assoc] using this
        · have e3 : k45.sz = 3 := rfl
          rw [List.length_append, HZ.out, hrl, e3, hi]
          omega
theorem heap3 (w : World) (a b c : Obj) : (((w.alloc a).alloc b).alloc c).heap[w.heap.size + 2]? = some c := by
  have e : ((w.alloc a).alloc b).heap.size = w.heap.size + 2 := by simp
  rw [← e]
  exact heap_alloc_new _ _
def impl_withoutFile.f (l0_0 : List S45) (a1 : ByteArray) : Option (List S45) := (impl_copyDisk.f l0_0).bind fun l => some (l.filter (keepF a1))
set_option maxHeartbeats 4000000 in
set_option maxRecDepth 100000 in
theorem impl_withoutFile.calls (A0_0 : Option Addr) (c0_0 : Nat) (l0_0 : List (S45)) (a1 : ByteArray) (r : List S45) (w : World) (hr0_0 : Kd.C k45 w A0_0 l0_0.length l0_0) (hc0_0 : l0_0.length ≤ c0_0) (h : impl_withoutFile.f l0_0 a1 = some r) :
    Calls Try.prog 67 #[.agg #[.slice A0_0 l0_0.length c0_0], .string a1] w fun e w' => ∃ v0_ : Value, e = .returned (.agg #[v0_]) ∧ Kd.R k45 45 w' w.heap.size (fun _ => True) v0_ r ∧ Below w.heap.size w w' := by
  obtain ⟨l, h1, h2⟩ := Option.bind_eq_some_iff.1 h
  obtain rfl := Option.some.inj h2
  have hu29 := Try.underlying29
  have hb0 := below_alloc (below_alloc (below_alloc (Below.refl w.heap.size w) (.cells #[.slice A0_0 l0_0.length c0_0] 29)) (.cells #[.string a1] 9)) (.cells #[.slice none 0 0] 29)
  have hcp := impl_copyDisk.calls A0_0 c0_0 l0_0 l (((w.alloc (.cells #[.slice A0_0 l0_0.length c0_0] 29)).alloc (.cells #[.string a1] 9)).alloc (.cells #[.slice none 0 0] 29)) (Kd.C_alloc (Kd.C_alloc (Kd.C_alloc hr0_0 _) _) _) hc0_0 h1
  have HB0 := Aside0.mk hb0
  clear h h1 h2 hr0_0 hc0_0 hb0
  have hfld : ∀ (A : Option Addr) (n c : Nat) (W : World), Sem.run Try.prog (Instr.field 29 (.agg #[.slice A n c]) 0) W = .ok (.slice A n c) W := fun _ _ _ _ => by kernel_rfl
  go_enter Try.func67, Try.ntmps67
  go_wp2_with (first | (go_at_call 61; refine hcp.mono ?_; rintro e w1 ⟨v0, rfl, hR, hb1⟩; obtain ⟨Ao, co, rfl, hco, _⟩ := Kd.R_reads hR; have HR := Aside0.mk hR; have HB1 := Aside0.mk hb1; have hs1 : w1.heap.size > w.heap.size + 2 := (by have := hb1.size; simp at this; omega); have hc1 : w1.cell? ⟨w.heap.size + 1, 0, none⟩ = some (.string a1) := pw_cell_below hb1 (by go_simp); have hb29 : w1.heap[w.heap.size + 2]? = some (.cells #[.slice none 0 0] 29 (0, 0)) := ((hb1.block (w.heap.size + 2) (by simp)).trans (heap3 w _ _ _)); clear hR hb1) | (go_at_call 81; refine (impl_withoutFile.delete l _ a1 (w.heap.size + 1) _ _ w1 HR.out (by omega) hc1 (fun k hk => by have := Kd.R_base HR.out k hk; simp at this; omega)).mono ?_; rintro e w2 ⟨v2, rfl, hR2, hg2⟩; obtain ⟨A2, c2, rfl, hc2, _⟩ := Kd.R_reads hR2; have HR2 := Aside0.mk hR2; have HG2 := Aside0.mk hg2; have hb29' : w2.heap[w.heap.size + 2]? = some (.cells #[.slice none 0 0] 29 (0, 0)) := ((hg2.block (w.heap.size + 2) (by omega) (fun ee => by have := Kd.R_base HR.out _ ee.symm; simp at this; omega)).trans hb29); have HB29 := Aside0.mk hb29'; have c29 : w2.cell? ⟨w.heap.size + 1 + 1, 0, none⟩ = some (.slice none 0 0) := (blk_cell hb29' 0).trans rfl; have f29 : w2.frozen? ⟨w.heap.size + 1 + 1, 0, none⟩ = false := blk_frozen hb29' 0; clear hR2 hg2 hb29 hb29'))
  refine bodyPost_ret (results_cell_row rfl _ _ (w.heap.size + 1 + 1) 29 #[.slice A2 (l.filter (keepF a1)).length c2] (0, 0) _ rfl (blk_put (cs := #[.slice none 0 0]) HB29.out 0 _ rfl) Try.underlying29 rfl (by kernel_rfl)) rfl ?_
  exact ⟨_, rfl, Kd.R_lower (Kd.R_set (Kd.R_mono HR2.out (fun _ _ => trivial)) HB29.out (by decide) 0 _) (by simp; omega), below_set (pw_below_grown (below_then HB0.out (by simp; omega) HB1.out) _ (by omega) HG2.out (fun k hk => by have := Kd.R_base HR.out k hk; simp at this; omega)) (by omega)⟩
end

-- NOT PRINTED: function 88 (impl_File_88)

-- NOT PRINTED: function 92 (impl_File_92)

-- NOT PRINTED: function 91 (impl_File_91)

-- NOT PRINTED: function 89 (impl_File_89)

-- NOT PRINTED: function 80 (impl_File_80)

end Go.Proofs.Ythfppepnpngfmaa.Qac
