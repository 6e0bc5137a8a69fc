-- Laid by myprint.py, a program of this session's own, over the kit's print. Not trusted: Lean checks it.
import Derived.Test.YthfppepnpngfmaaQdox0
import Derived.Test.YthfppepnpngfmaaQdox10
namespace Go.Proofs.Ythfppepnpngfmaa.Qdo
open Go.RowKit Go.Proofs.YthfppepnpngfmaaW.PrintWords Go.Proofs.YthfppepnpngfmaaW.PrintLast Go.Proofs.YthfppepnpngfmaaW.PrintMore
attribute [local go_sem] Go.Proofs.Ythfppepnpngfmaa.StrCmp.gtr_less Go.Proofs.Ythfppepnpngfmaa.StrCmp.geq_less Go.Proofs.Ythfppepnpngfmaa.StrCmp.leq_less max2_int min2_int max_two min_two max_three min_three max_four min_four   -- for this text's walks alone
set_option linter.unusedVariables false
set_option linter.unusedSimpArgs false

-- NOT PRINTED: function 77 (impl_File_77)

/-! ### impl_placeOf: function 54 -/
set_option maxHeartbeats 1000000 in
theorem impl_placeOf.test (a b : ByteArray) (c : Int) (s : ByteArray) (B : Nat) (w : World) (hB : B < w.heap.size) (hc : w.cell? ⟨B, 0, none⟩ = some (.string s)) :
    Calls Try.prog 78 #[.agg #[.string a, .string b, .int .i64 c], .pointer (some ⟨B, 0, none⟩)] w fun e w' => e = .returned (.bool (a.toList == s.toList)) ∧ Below w.heap.size w w' := by
  have hu45 := Try.underlying45
  go_enter Try.func78, Try.ntmps78
  go_wp2
  go_ret
  exact ⟨rfl, below_alloc (Below.refl _ _) _⟩
def impl_placeOf.ix (s : ByteArray) : List S45 → Int → Int
  | [], _ => -1
  | x :: r, i => if x.f0.toList == s.toList then i else impl_placeOf.ix s r (i + 1)
theorem impl_placeOf.drop_rd (l : List S45) (i : Nat) (h : i < l.length) : l.drop i = rd_T45 l (i : Int) :: l.drop (i + 1) := by
  rw [List.drop_eq_getElem_cons h]; congr 1
  unfold rd_T45
  rw [Int.toNat_natCast, List.getD_eq_getElem?_getD, List.getElem?_eq_getElem h]; rfl
set_option maxHeartbeats 2000000 in
theorem impl_placeOf.index (l : List S45) (A : Option Addr) (c : Nat) (s : ByteArray) (B : Nat) (w : World) (hl : Kd.C k45 w A l.length l) (hB : B < w.heap.size) (hc : w.cell? ⟨B, 0, none⟩ = some (.string s)) :
    Calls Try.prog 77 #[.slice A l.length c, .func (.func 78) #[] #[.pointer (some ⟨B, 0, none⟩)]] w fun e w' => e = .returned (.int .i64 (impl_placeOf.ix s l 0)) ∧ Below w.heap.size w w' := by
  have hu45 := Try.underlying45
  have hmax := Kd.C_max hl
  have HL := Aside0.mk hl
  have HC := Aside0.mk hc
  clear hl hc
  go_enter Try.func77, Try.ntmps77
  go_wp2
  go_loopg [5, 8] l.length (fun gg _ s8 wr => ∃ kk : Nat, kk ≤ l.length ∧ l.length - kk ≤ gg ∧ s8 = .int .i64 kk ∧ Aside0 (Below w.heap.size w wr) ∧ Aside0 (impl_placeOf.ix s (l.drop kk) kk = impl_placeOf.ix s l 0))
  case atStart => exact ⟨0, Nat.zero_le _, by omega, rfl, ⟨Below.refl _ w⟩, ⟨rfl⟩⟩
  case round =>
    obtain ⟨kk, hkk, hg, rfl, BW, IX⟩ := hrel
    by_cases hlt : kk < l.length
    · have hltz : (kk : Int) < (l.length : Int) := by omega
      have hcB := (BW.out.cell (p := ⟨B, 0, none⟩) hB).trans HC.out
      obtain ⟨ad, e1, x0, x1, x2⟩ := at_T45 HL.out (kk : Int) (by omega) hltz
      cases e1
      simp only [Int.toNat_natCast] at x0 x1 x2
      replace x0 := (BW.out.cell (World.block_lt_of_cell? w _ x0)).trans x0
      replace x1 := (BW.out.cell (World.block_lt_of_cell? w _ x1)).trans x1
      replace x2 := (BW.out.cell (World.block_lt_of_cell? w _ x2)).trans x2
      have hcall := impl_placeOf.test (rd_T45 l kk).f0 (rd_T45 l kk).f1 (rd_T45 l kk).f2 s B wr (Nat.lt_of_lt_of_le hB BW.out.size) hcB
      have IY := IX.out
      rw [impl_placeOf.drop_rd l kk hlt, impl_placeOf.ix] at IY
      clear hcB
      cases hq : (rd_T45 l (kk : Int)).f0.toList == s.toList with
      | true =>
        rw [hq, if_pos rfl] at IY
        rw [hq] at hcall
        have HIY := Aside0.mk IY
        clear IY hq IX
        go_wp2_with (go_at_call 78; refine hcall.mono ?_; rintro e w' ⟨rfl, hb'⟩)
        go_ret
        exact ⟨by rw [HIY.out]; rfl, below_then BW.out BW.out.size hb'⟩
      | false =>
        rw [hq, if_neg (by simp)] at IY
        rw [hq] at hcall
        have HIY := Aside0.mk IY
        clear IY hq IX
        go_wp2_with (go_at_call 78; refine hcall.mono ?_; rintro e w' ⟨rfl, hb'⟩)
        go_roundg (l.length - (kk + 1))
        case measure => omega
        case rel => exact ⟨kk + 1, by omega, by omega, by go_num, ⟨below_then BW.out BW.out.size hb'⟩, HIY⟩
    · have hltz : ¬ (kk : Int) < (l.length : Int) := by omega
      have : kk = l.length := by omega
      subst this
      have IY := IX.out
      rw [List.drop_length, impl_placeOf.ix] at IY
      have HIY := Aside0.mk IY
      clear IY IX
      go_wp2
      go_ret
      exact ⟨by rw [← HIY.out]; rfl, BW.out⟩
def impl_placeOf.f (l0_0 : List S45) (a1 : ByteArray) : Option Int := some (impl_placeOf.ix a1 l0_0 0)
set_option maxHeartbeats 2000000 in
theorem impl_placeOf.calls (A0_0 : Option Addr) (c0_0 : Nat) (l0_0 : List (S45)) (a1 : ByteArray) (r : Int) (w : World) (hr0_0 : Kd.C k45 w A0_0 l0_0.length l0_0) (hc0_0 : l0_0.length ≤ c0_0) (h : impl_placeOf.f l0_0 a1 = some r) :
    Calls Try.prog 54 #[.agg #[.slice A0_0 l0_0.length c0_0], .string a1] w fun e w' => e = .returned (.int .i64 r) ∧ Below w.heap.size w w' := by
  obtain rfl : impl_placeOf.ix a1 l0_0 0 = r := by unfold impl_placeOf.f at h; injection h
  have hu29 := Try.underlying29
  have hx := impl_placeOf.index l0_0 A0_0 c0_0 a1 (w.heap.size + 1) ((w.alloc (.cells #[.slice A0_0 l0_0.length c0_0] 29)).alloc (.cells #[.string a1] 9)) (Kd.C_alloc (Kd.C_alloc hr0_0 _) _) (by simp) (by go_simp)
  clear h hr0_0 hc0_0
  go_enter Try.func54, Try.ntmps54
  go_wp2_with (go_at_call 77; refine hx.mono ?_; rintro e w' ⟨rfl, hb'⟩)
  go_ret
  exact ⟨rfl, below_then (below_alloc (below_alloc (Below.refl _ _) _) _) (by simp; omega) hb'⟩

/-! ### impl_actOk: function 65 -/
def impl_actOk.f (a0_0 : Int) (a0_1 : ByteArray) (a0_2 : ByteArray) (a0_3 : ByteArray) : Option (Bool) := (impl_within.f a0_0 1 4).bind fun t249 => (if t249 = true then (if a0_2.toList = ([] : List UInt8) then (if a0_3.toList = ([] : List UInt8) then (some true) else (some (a0_0 == 3))) else (if a0_0 = 1 then (if a0_3.toList = ([] : List UInt8) then (some true) else (some (a0_0 == 3))) else (some false))) else (some false))
set_option maxHeartbeats 8000000 in
set_option maxRecDepth 100000 in
theorem impl_actOk.calls (a0_0 : Int) (a0_1 : ByteArray) (a0_2 : ByteArray) (a0_3 : ByteArray) (r : Bool) (w : World) (h : impl_actOk.f a0_0 a0_1 a0_2 a0_3 = some r) :
  Calls Try.prog 65 #[.agg #[.int .i64 a0_0, .string a0_1, .string a0_2, .string a0_3]] w fun e w' => e = .returned (.bool r) ∧ Below w.heap.size w w' := by
 have hu55 := Try.underlying55
 have HB := Aside0.mk (Below.refl w.heap.size w)
 have H : ((impl_within.f a0_0 1 4).bind fun t249 => (if t249 = true then (if a0_2.toList = ([] : List UInt8) then (if a0_3.toList = ([] : List UInt8) then (some true) else (some (a0_0 == 3))) else (if a0_0 = 1 then (if a0_3.toList = ([] : List UInt8) then (some true) else (some (a0_0 == 3))) else (some false))) else (some false))) = some r := h
 clear h
 replace H := Option.bind_eq_some_iff.mp H
 obtain ⟨t249, A20, H⟩ := H
 replace H : (if t249 = true then (if a0_2.toList = ([] : List UInt8) then (if a0_3.toList = ([] : List UInt8) then (some true) else (some (a0_0 == 3))) else (if a0_0 = 1 then (if a0_3.toList = ([] : List UInt8) then (some true) else (some (a0_0 == 3))) else (some false))) else (some false)) = some r := H
 have A2 := Aside0.mk A20
 clear A20
 by_cases c3 : t249 = true; rotate_left
 ·
  replace c3 := Bool.eq_false_iff.mpr c3
  subst c3
  have H1 : (some false) = some r := by rw [if_neg (show ¬ (false = true) by decide)] at H; exact H
  clear H
  have H := H1
  clear H1
  obtain rfl := Option.some.inj H
  go_enter Try.func65, Try.ntmps65
  go_wp2_with (first | ((with_reducible refine gate_dst (N := 1) rfl ?_); refine bE 1 #[.int .i64 a0_0, .string a0_1, .string a0_2, .string a0_3] 55 ?_; intro gb248 hg w18 hbox hb; have BK248 := Aside0.mk (hbox); have GW248 : Aside0 (w.heap.size ≤ gb248) := GS; have GE248 : Aside0 (w.heap.size ≤ gb248) := GS; replace HB := Aside0.mk (below_step (BL) hb); clear hb hbox hg; have hcz19_0 : w18.cell? ⟨gb248, 0, none⟩ = some (.int .i64 a0_0) := CZ BK248.out 0; have hcz19_1 : w18.cell? ⟨gb248, 1, none⟩ = some (.string a0_1) := CZ BK248.out 1; have hcz19_2 : w18.cell? ⟨gb248, 2, none⟩ = some (.string a0_2) := CZ BK248.out 2; have hcz19_3 : w18.cell? ⟨gb248, 3, none⟩ = some (.string a0_3) := CZ BK248.out 3; have hfz19_0 := blk_frozen BK248.out 0; have hfz19_1 := blk_frozen BK248.out 1; have hfz19_2 := blk_frozen BK248.out 2; have hfz19_3 := blk_frozen BK248.out 3) | ((with_reducible refine gate_callee (f := 51) rfl ?_); refine goesL_ (some 5) rfl rfl Try.func51 (by kernel_rfl) rfl #[.int .i64 a0_0, .int .i64 1, .int .i64 4] rfl (MA) ?_; (with_reducible refine (impl_within.calls a0_0 1 4 false _ A2.out).mono ?_); rintro e w' ⟨rfl, ⟨nd, rfl⟩⟩; refine ⟨_, rfl, ?_⟩))
  go_ret
  exact ⟨EE, BL⟩
 subst c3
 have H1 : (if a0_2.toList = ([] : List UInt8) then (if a0_3.toList = ([] : List UInt8) then (some true) else (some (a0_0 == 3))) else (if a0_0 = 1 then (if a0_3.toList = ([] : List UInt8) then (some true) else (some (a0_0 == 3))) else (some false))) = some r := by rw [if_pos rfl] at H; exact H
 clear H
 have H := H1
 clear H1
 by_cases c4 : a0_2.toList = ([] : List UInt8)
 ·
  rw [if_pos c4] at H
  have c4b0 : (a0_2.toList == ([] : List UInt8)) = true := beq_iff_eq.mpr c4
  have c4b1 : (a0_2.toList != ([] : List UInt8)) = false := bne_eq_false_iff_eq.mpr c4
  clear c4
  by_cases c5 : a0_3.toList = ([] : List UInt8); rotate_left
  ·
   rw [if_neg c5] at H
   have c5b0 : (a0_3.toList == ([] : List UInt8)) = false := beq_eq_false_iff_ne.mpr c5
   have c5b1 : (a0_3.toList != ([] : List UInt8)) = true := bne_iff_ne.mpr c5
   obtain rfl := Option.some.inj H
   go_enter Try.func65, Try.ntmps65
   go_wp2_with (first | ((with_reducible refine gate_dst (N := 1) rfl ?_); refine bE 1 #[.int .i64 a0_0, .string a0_1, .string a0_2, .string a0_3] 55 ?_; intro gb248 hg w8 hbox hb; have BK248 := Aside0.mk (hbox); have GW248 : Aside0 (w.heap.size ≤ gb248) := GS; have GE248 : Aside0 (w.heap.size ≤ gb248) := GS; replace HB := Aside0.mk (below_step (BL) hb); clear hb hbox hg; have hcz9_0 : w8.cell? ⟨gb248, 0, none⟩ = some (.int .i64 a0_0) := CZ BK248.out 0; have hcz9_1 : w8.cell? ⟨gb248, 1, none⟩ = some (.string a0_1) := CZ BK248.out 1; have hcz9_2 : w8.cell? ⟨gb248, 2, none⟩ = some (.string a0_2) := CZ BK248.out 2; have hcz9_3 : w8.cell? ⟨gb248, 3, none⟩ = some (.string a0_3) := CZ BK248.out 3; have hfz9_0 := blk_frozen BK248.out 0; have hfz9_1 := blk_frozen BK248.out 1; have hfz9_2 := blk_frozen BK248.out 2; have hfz9_3 := blk_frozen BK248.out 3) | ((with_reducible refine gate_callee (f := 51) rfl ?_); refine goesL_ (some 5) rfl rfl Try.func51 (by kernel_rfl) rfl #[.int .i64 a0_0, .int .i64 1, .int .i64 4] rfl (MA) ?_; (with_reducible refine (impl_within.calls a0_0 1 4 true _ A2.out).mono ?_); rintro e w' ⟨rfl, ⟨nd, rfl⟩⟩; refine ⟨_, rfl, ?_⟩))
   go_ret
   exact ⟨EE, BL⟩
  rw [if_pos c5] at H
  have c5b0 : (a0_3.toList == ([] : List UInt8)) = true := beq_iff_eq.mpr c5
  have c5b1 : (a0_3.toList != ([] : List UInt8)) = false := bne_eq_false_iff_eq.mpr c5
  clear c5
  obtain rfl := Option.some.inj H
  go_enter Try.func65, Try.ntmps65
  go_wp2_with (first | ((with_reducible refine gate_dst (N := 1) rfl ?_); refine bE 1 #[.int .i64 a0_0, .string a0_1, .string a0_2, .string a0_3] 55 ?_; intro gb248 hg w6 hbox hb; have BK248 := Aside0.mk (hbox); have GW248 : Aside0 (w.heap.size ≤ gb248) := GS; have GE248 : Aside0 (w.heap.size ≤ gb248) := GS; replace HB := Aside0.mk (below_step (BL) hb); clear hb hbox hg; have hcz7_0 : w6.cell? ⟨gb248, 0, none⟩ = some (.int .i64 a0_0) := CZ BK248.out 0; have hcz7_1 : w6.cell? ⟨gb248, 1, none⟩ = some (.string a0_1) := CZ BK248.out 1; have hcz7_2 : w6.cell? ⟨gb248, 2, none⟩ = some (.string a0_2) := CZ BK248.out 2; have hcz7_3 : w6.cell? ⟨gb248, 3, none⟩ = some (.string a0_3) := CZ BK248.out 3; have hfz7_0 := blk_frozen BK248.out 0; have hfz7_1 := blk_frozen BK248.out 1; have hfz7_2 := blk_frozen BK248.out 2; have hfz7_3 := blk_frozen BK248.out 3) | ((with_reducible refine gate_callee (f := 51) rfl ?_); refine goesL_ (some 5) rfl rfl Try.func51 (by kernel_rfl) rfl #[.int .i64 a0_0, .int .i64 1, .int .i64 4] rfl (MA) ?_; (with_reducible refine (impl_within.calls a0_0 1 4 true _ A2.out).mono ?_); rintro e w' ⟨rfl, ⟨nd, rfl⟩⟩; refine ⟨_, rfl, ?_⟩))
  go_ret
  exact ⟨EE, BL⟩
 rw [if_neg c4] at H
 have c4b0 : (a0_2.toList == ([] : List UInt8)) = false := beq_eq_false_iff_ne.mpr c4
 have c4b1 : (a0_2.toList != ([] : List UInt8)) = true := bne_iff_ne.mpr c4
 by_cases c10 : a0_0 = 1; rotate_left
 ·
  rw [if_neg c10] at H
  have c10b0 : (a0_0 == 1) = false := beq_eq_false_iff_ne.mpr c10
  have c10b1 : (a0_0 != 1) = true := bne_iff_ne.mpr c10
  obtain rfl := Option.some.inj H
  go_enter Try.func65, Try.ntmps65
  go_wp2_with (first | ((with_reducible refine gate_dst (N := 1) rfl ?_); refine bE 1 #[.int .i64 a0_0, .string a0_1, .string a0_2, .string a0_3] 55 ?_; intro gb248 hg w16 hbox hb; have BK248 := Aside0.mk (hbox); have GW248 : Aside0 (w.heap.size ≤ gb248) := GS; have GE248 : Aside0 (w.heap.size ≤ gb248) := GS; replace HB := Aside0.mk (below_step (BL) hb); clear hb hbox hg; have hcz17_0 : w16.cell? ⟨gb248, 0, none⟩ = some (.int .i64 a0_0) := CZ BK248.out 0; have hcz17_1 : w16.cell? ⟨gb248, 1, none⟩ = some (.string a0_1) := CZ BK248.out 1; have hcz17_2 : w16.cell? ⟨gb248, 2, none⟩ = some (.string a0_2) := CZ BK248.out 2; have hcz17_3 : w16.cell? ⟨gb248, 3, none⟩ = some (.string a0_3) := CZ BK248.out 3; have hfz17_0 := blk_frozen BK248.out 0; have hfz17_1 := blk_frozen BK248.out 1; have hfz17_2 := blk_frozen BK248.out 2; have hfz17_3 := blk_frozen BK248.out 3) | ((with_reducible refine gate_callee (f := 51) rfl ?_); refine goesL_ (some 5) rfl rfl Try.func51 (by kernel_rfl) rfl #[.int .i64 a0_0, .int .i64 1, .int .i64 4] rfl (MA) ?_; (with_reducible refine (impl_within.calls a0_0 1 4 true _ A2.out).mono ?_); rintro e w' ⟨rfl, ⟨nd, rfl⟩⟩; refine ⟨_, rfl, ?_⟩))
  go_ret
  exact ⟨EE, BL⟩
 rw [if_pos c10] at H
 have c10b0 : (a0_0 == 1) = true := beq_iff_eq.mpr c10
 have c10b1 : (a0_0 != 1) = false := bne_eq_false_iff_eq.mpr c10
 clear c10
 by_cases c11 : a0_3.toList = ([] : List UInt8); rotate_left
 ·
  rw [if_neg c11] at H
  have c11b0 : (a0_3.toList == ([] : List UInt8)) = false := beq_eq_false_iff_ne.mpr c11
  have c11b1 : (a0_3.toList != ([] : List UInt8)) = true := bne_iff_ne.mpr c11
  obtain rfl := Option.some.inj H
  go_enter Try.func65, Try.ntmps65
  go_wp2_with (first | ((with_reducible refine gate_dst (N := 1) rfl ?_); refine bE 1 #[.int .i64 a0_0, .string a0_1, .string a0_2, .string a0_3] 55 ?_; intro gb248 hg w14 hbox hb; have BK248 := Aside0.mk (hbox); have GW248 : Aside0 (w.heap.size ≤ gb248) := GS; have GE248 : Aside0 (w.heap.size ≤ gb248) := GS; replace HB := Aside0.mk (below_step (BL) hb); clear hb hbox hg; have hcz15_0 : w14.cell? ⟨gb248, 0, none⟩ = some (.int .i64 a0_0) := CZ BK248.out 0; have hcz15_1 : w14.cell? ⟨gb248, 1, none⟩ = some (.string a0_1) := CZ BK248.out 1; have hcz15_2 : w14.cell? ⟨gb248, 2, none⟩ = some (.string a0_2) := CZ BK248.out 2; have hcz15_3 : w14.cell? ⟨gb248, 3, none⟩ = some (.string a0_3) := CZ BK248.out 3; have hfz15_0 := blk_frozen BK248.out 0; have hfz15_1 := blk_frozen BK248.out 1; have hfz15_2 := blk_frozen BK248.out 2; have hfz15_3 := blk_frozen BK248.out 3) | ((with_reducible refine gate_callee (f := 51) rfl ?_); refine goesL_ (some 5) rfl rfl Try.func51 (by kernel_rfl) rfl #[.int .i64 a0_0, .int .i64 1, .int .i64 4] rfl (MA) ?_; (with_reducible refine (impl_within.calls a0_0 1 4 true _ A2.out).mono ?_); rintro e w' ⟨rfl, ⟨nd, rfl⟩⟩; refine ⟨_, rfl, ?_⟩))
  go_ret
  exact ⟨EE, BL⟩
 rw [if_pos c11] at H
 have c11b0 : (a0_3.toList == ([] : List UInt8)) = true := beq_iff_eq.mpr c11
 have c11b1 : (a0_3.toList != ([] : List UInt8)) = false := bne_eq_false_iff_eq.mpr c11
 clear c11
 obtain rfl := Option.some.inj H
 go_enter Try.func65, Try.ntmps65
 go_wp2_with (first | ((with_reducible refine gate_dst (N := 1) rfl ?_); refine bE 1 #[.int .i64 a0_0, .string a0_1, .string a0_2, .string a0_3] 55 ?_; intro gb248 hg w12 hbox hb; have BK248 := Aside0.mk (hbox); have GW248 : Aside0 (w.heap.size ≤ gb248) := GS; have GE248 : Aside0 (w.heap.size ≤ gb248) := GS; replace HB := Aside0.mk (below_step (BL) hb); clear hb hbox hg; have hcz13_0 : w12.cell? ⟨gb248, 0, none⟩ = some (.int .i64 a0_0) := CZ BK248.out 0; have hcz13_1 : w12.cell? ⟨gb248, 1, none⟩ = some (.string a0_1) := CZ BK248.out 1; have hcz13_2 : w12.cell? ⟨gb248, 2, none⟩ = some (.string a0_2) := CZ BK248.out 2; have hcz13_3 : w12.cell? ⟨gb248, 3, none⟩ = some (.string a0_3) := CZ BK248.out 3; have hfz13_0 := blk_frozen BK248.out 0; have hfz13_1 := blk_frozen BK248.out 1; have hfz13_2 := blk_frozen BK248.out 2; have hfz13_3 := blk_frozen BK248.out 3) | ((with_reducible refine gate_callee (f := 51) rfl ?_); refine goesL_ (some 5) rfl rfl Try.func51 (by kernel_rfl) rfl #[.int .i64 a0_0, .int .i64 1, .int .i64 4] rfl (MA) ?_; (with_reducible refine (impl_within.calls a0_0 1 4 true _ A2.out).mono ?_); rintro e w' ⟨rfl, ⟨nd, rfl⟩⟩; refine ⟨_, rfl, ?_⟩))
 go_ret
 exact ⟨EE, BL⟩

/-! ### impl_copyDisk: function 61 -/
def impl_copyDisk.f (l0_0 : List (S45)) : Option ((List (S45))) := (some (([] : List (S45)) : List (S45))).bind fun y252 => (if y252.length + l0_0.length < 3518437208883 then (some (y252 ++ l0_0)) else (none))
set_option maxHeartbeats 8000000 in
set_option maxRecDepth 100000 in
theorem impl_copyDisk.calls (A0_0 : Option Addr) (c0_0 : Nat) (l0_0 : List (S45)) (r : List (S45)) (w : World) (hr0_0 : Kd.C k45 w A0_0 l0_0.length l0_0) (hc0_0 : l0_0.length ≤ c0_0) (h : impl_copyDisk.f l0_0 = some r) :
  Calls Try.prog 61 #[.agg #[.slice A0_0 l0_0.length c0_0]] w fun e w' => ∃ v0_ : Value, e = .returned (.agg #[v0_]) ∧ Kd.R k45 45 w' w.heap.size (fun _ => True) v0_ r ∧ Below w.heap.size w w' := by
 have hu29 := Try.underlying29
 have HR0_0 := Aside0.mk hr0_0
 have HC0_0 := Aside0.mk hc0_0
 clear hr0_0 hc0_0
 have HB := Aside0.mk (Below.refl w.heap.size w)
 have H : ((some (([] : List (S45)) : List (S45))).bind fun y252 => (if y252.length + l0_0.length < 3518437208883 then (some (y252 ++ l0_0)) else (none))) = some r := h
 clear h
 obtain ⟨y252, hy252⟩ : ∃ y_ : List (S45), y_ = (([] : List (S45))) := ⟨_, rfl⟩
 replace H : (if y252.length + l0_0.length < 3518437208883 then (some (y252 ++ l0_0)) else (none)) = some r := by first | (rw [hy252]; with_reducible exact H) | (have H2_ := (Option.bind_some _ _).symm.trans H; rw [hy252]; with_reducible exact H2_) | (have H2_ := (Option.bind_some _ _).symm.trans H; with_reducible exact H2_) | with_reducible exact H | (rw [hy252]; exact H) | exact H
 have Ny252 := Aside0.mk hy252
 clear hy252
 by_cases c2 : y252.length + l0_0.length < 3518437208883; rotate_left
 ·
  rw [if_neg c2] at H
  exact absurd H (by simp)
 rw [if_pos c2] at H
 have LMc2 := Aside0.mk c2
 clear c2
 obtain ⟨y255, hy255⟩ : ∃ y_ : List (S45), y_ = (y252 ++ l0_0) := ⟨_, rfl⟩
 replace H : (some y255) = some r := by first | (rw [hy255]; with_reducible exact H) | (have H2_ := (Option.bind_some _ _).symm.trans H; rw [hy255]; with_reducible exact H2_) | (have H2_ := (Option.bind_some _ _).symm.trans H; with_reducible exact H2_) | with_reducible exact H | (rw [hy255]; exact H) | exact H
 have Ny255 := Aside0.mk hy255
 clear hy255
 obtain rfl := Option.some.inj H
 go_enter Try.func61, Try.ntmps61
 go_wp2_with (first | ((with_reducible refine gate_dst (N := 1) rfl ?_); refine bE 1 #[.slice A0_0 l0_0.length c0_0] 29 ?_; intro gb250 hg w3 hbox hb; have BK250 := Aside0.mk (hbox); have GW250 : Aside0 (w.heap.size ≤ gb250) := GS; have GE250 : Aside0 (w.heap.size ≤ gb250) := GS; replace HB := Aside0.mk (below_step (BL) hb); clear hb hbox hg) | ((with_reducible refine gate_dst (N := 2) rfl ?_); refine bE 2 #[.slice none 0 0] 29 ?_; intro gb251 hg w4 hbox hb; have BK251 := Aside0.mk (hbox); have GW251 : Aside0 (w.heap.size ≤ gb251) := GS; have GE251 : Aside0 (w.heap.size ≤ gb251) := GS; have NB250_251 := NL BK250.out hg; have NB251_250 := NG BK250.out hg; replace BK250 := BB BK250.out hb; replace HB := Aside0.mk (below_step (BL) hb); clear hb hbox hg) | ((with_reducible refine gate_dst (N := 3) rfl ?_); refine Kd.R_lit k45 _ 45 ?hg (N := 3) ?hd (xs := ([] : List (S45))) (inner := []) (ok := fun _ => True) (okp := fun _ => True) ?hr ?hp (fun _ hk => hk) trivial (Below.refl _ _) (Nat.le_refl _) (by simp) ?_; (case hd => rfl); (case hg => rfl); (case hr => first | (go_simp; done) | (go_simp; rfl)); (case hp => exact (Reps.none _ _)); intro v253 w5 ho6 hb hg_ hnew_; clear hg_ hnew_; (first | rw [← Ny252.out] at ho6 | (simp only [Int.reduceToNat] at ho6; rw [← Ny252.out] at ho6)); have HO254 := Aside0.mk (Kd.R_lower ho6 (below_size (BL))); replace BK250 := BB BK250.out hb; replace BK251 := BB BK251.out hb; replace HB := Aside0.mk (below_step (BL) hb); clear hb ho6; have hnb7 := NB250_251.out; have hnc7 := NB251_250.out; have hcz8_0 : w5.cell? ⟨gb250, 0, none⟩ = some (.slice A0_0 l0_0.length c0_0) := CZ BK250.out 0; have hfz8_0 := blk_frozen BK250.out 0) | ((with_reducible refine gate_builtin (b := .append) (xs := #[.tmp 3, .tmp 5]) rfl ?_); at_builtin; refine Kd.R_append_rows k45 (w0 := w) w.heap.size rfl (.tmp 3) (.tmp 5) 27 45 (.agg #[(.string ⟨#[]⟩), (.string ⟨#[]⟩), (.int .i64 0)]) 40 rfl Try.underlying27 info45 rfl (by decide) (by omega) v253 y252 l0_0 _ _ _ (fun _ => True) (fun _ => False) rfl rfl ?aO ?aR (fun _ _ h => h) (fun _ h => h.elim) ?aF ?aB ?aS ?aL ?_; (case aR => repeat (first | exact (Kd.C_below HR0_0.out HB.out) | (with_reducible refine Kd.C_alloc ?_ _) | (with_reducible refine Kd.C_drewN ?_ _) | (with_reducible refine Kd.C_drew ?_))); (case aB => exact (BL)); (case aF => exact (fun _ _ => trivial)); (case aO => exact (RQ HO254.out)); (case aS => exact (below_size (BL))); (case aL => have := LMc2.out; omega); intro v256 w9 ho hb hg hat; rw [← Ny255.out] at ho; have n0_ := Aside0.mk (blk_grown (g := gb250) (o := .cells #[.slice A0_0 l0_0.length c0_0] 29 (0, 0)) (BQ BK250.out) hg (Kd.R_ne HO254.out BK250.out (by decide))); have n1_ := Aside0.mk (blk_grown (g := gb251) (o := .cells #[.slice none 0 0] 29 (0, 0)) (BQ BK251.out) hg (Kd.R_ne HO254.out BK251.out (by decide))); have n2_ := Aside0.mk (hb); have n3_ := Aside0.mk (ho); clear BK250; clear BK251; clear HB; clear HO254; have BK250 := n0_; have BK251 := n1_; have HB := n2_; have HO257 := n3_; clear n0_ n1_ n2_ n3_; clear ho hb hg hat; obtain ⟨Ao10, co10, eo10⟩ := Kd.R_slice HO257.out; subst eo10; have hcz11_0 : w9.cell? ⟨gb251, 0, none⟩ = some (.slice none 0 0) := CZ BK251.out 0; have hfz11_0 := blk_frozen BK251.out 0))
 refine bodyPost_ret (results_cell_row rfl _ _ gb251 29 #[.slice Ao10 y255.length co10] (0, 0) _ rfl (by (with_reducible repeat (first | apply b1 | apply b2 | apply b3)); refine blk_put (cs := #[.slice none 0 0]) ?_ 0 _ rfl; (with_reducible repeat (first | apply b1 | apply b2 | apply b3)); exact BK251.out) Try.underlying29 rfl (by kernel_rfl)) rfl ?_
 exact ⟨_, EE, by (with_reducible repeat (first | apply r1 | apply r2 | apply r3)); exact Kd.R_mono (Kd.R_far (p := ⟨gb251, 0, none⟩) (Kd.R_types HO257.out BK251.out (by decide)) (fun _ hk => hk.2) (.slice Ao10 y255.length co10)) (fun _ hk => trivial), BL⟩

-- NOT PRINTED: function 81 (impl_File_81)

/-! ### impl_withoutFile: function 67 -/
section
open Go.Proofs.Ythfppepnpngfmaa.Row
def en45 (x : S45) : List Value := [.string x.f0, .string x.f1, .int .i64 x.f2]
theorem en45_len (x : S45) : (en45 x).length = 3 := rfl
theorem en45_M {w : World} {b : Nat} {o : Nat → Prop} {x : S45} {cs : List Value} (h : k45.M w b o x cs) : cs = en45 x := k45_openM h
theorem en45_mk (w : World) (b : Nat) (o : Nat → Prop) (x : S45) : k45.M w b o x (en45 x) := k45_mkM w b o x
theorem en45_one (x : S45) : ∀ v ∈ en45 x, v.oneCell' = true := by
  intro v hv
  simp only [en45, List.mem_cons, List.not_mem_nil, or_false] at hv
  rcases hv with rfl | rfl | rfl <;> rfl
def keepF (s : ByteArray) (x : S45) : Bool := !(x.f0.toList == s.toList)
theorem clear_run (w : World) (g o n c : Nat) (L : List Value) (h : RowIs w g 45 L) (hl : o + n * 3 ≤ L.length) :
    ∃ zs : List Value, zs.length = n * 3 ∧ ∀ ty, (Builtin.clear_ #[27] ty #[.slice (some ⟨g, o, none⟩) n c]).run Try.prog w = .ok (.tuple #[]) (w.setCells g o zs) := by
  cases n with
  | zero => exact ⟨[], by simp, fun ty => by simp [Builtin.clear_, run_underlying Try.underlying27, World.setCells]⟩
  | succ m =>
    refine ⟨(Builtin.zeroCells #[.string ⟨#[]⟩, .string ⟨#[]⟩, .int .i64 0] (m + 1)).toList, by simp [Builtin.zeroCells], fun ty => ?_⟩
    have hv : ∀ W, (zeroValue 45).run Try.prog W = .ok (.agg #[.string ⟨#[]⟩, .string ⟨#[]⟩, .int .i64 0]) W := fun W => by kernel_rfl
    have hst := run_storeCells_cells (P := Try.prog) g o (Builtin.zeroCells #[.string ⟨#[]⟩, .string ⟨#[]⟩, .int .i64 0] (m + 1)).toList 0 w (fun j hj => h.isSome (by simp [Builtin.zeroCells] at hj; omega)) (fun j _ => h.free _) (by
      intro v hv'
      simp only [Builtin.zeroCells, Array.toList_map, List.mem_map] at hv'
      obtain ⟨i, _, rfl⟩ := hv'
      have h3 : i % 3 < 3 := Nat.mod_lt _ (by omega)
      show (#[Value.string ⟨#[]⟩, .string ⟨#[]⟩, .int .i64 0][i % 3]!).oneCell' = true
      rcases (by omega : i % 3 = 0 ∨ i % 3 = 1 ∨ i % 3 = 2) with e | e | e <;> rw [e] <;> rfl)
    simp only [Nat.add_zero] at hst
    simp only [Builtin.clear_, run_underlying Try.underlying27, hv, Value.cells, hst]
    simp [run_underlying Try.underlying27, hv, hst, Value.cells]
set_option maxHeartbeats 4000000 in
theorem impl_withoutFile.test (a b : ByteArray) (c : Int) (s : ByteArray) (B : Nat) (w : World) (hB : B < w.heap.size) (hc : w.cell? ⟨B, 0, none⟩ = some (.string s)) :
    Calls Try.prog 82 #[.agg #[.string a, .string b, .int .i64 c], .pointer (some ⟨B, 0, none⟩)] w fun e w' => e = .returned (.bool (a.toList == s.toList)) ∧ Below w.heap.size w w' := by
  have hu45 := Try.underlying45
  go_enter Try.func82, Try.ntmps82
  go_wp2
  go_ret
  exact ⟨rfl, below_alloc (Below.refl _ _) _⟩
set_option maxHeartbeats 2000000 in
theorem impl_withoutFile.index (l : List S45) (A : Option Addr) (c : Nat) (s : ByteArray) (B : Nat) (w : World) (hl : Kd.C k45 w A l.length l) (hB : B < w.heap.size) (hc : w.cell? ⟨B, 0, none⟩ = some (.string s)) :
    Calls Try.prog 77 #[.slice A l.length c, .func (.func 82) #[] #[.pointer (some ⟨B, 0, none⟩)]] w fun e w' => e = .returned (.int .i64 (impl_placeOf.ix s l 0)) ∧ Below w.heap.size w w' := by
  have hu45 := Try.underlying45
  have hmax := Kd.C_max hl
  have HL := Aside0.mk hl
  have HC := Aside0.mk hc
  clear hl hc
  go_enter Try.func77, Try.ntmps77
  go_wp2
  go_loopg [5, 8] l.length (fun gg _ s8 wr => ∃ kk : Nat, kk ≤ l.length ∧ l.length - kk ≤ gg ∧ s8 = .int .i64 kk ∧ Aside0 (Below w.heap.size w wr) ∧ Aside0 (impl_placeOf.ix s (l.drop kk) kk = impl_placeOf.ix s l 0))
  case atStart => exact ⟨0, Nat.zero_le _, by omega, rfl, ⟨Below.refl _ w⟩, ⟨rfl⟩⟩
  case round =>
    obtain ⟨kk, hkk, hg, rfl, BW, IX⟩ := hrel
    by_cases hlt : kk < l.length
    · have hltz : (kk : Int) < (l.length : Int) := by omega
      have hcB := (BW.out.cell (p := ⟨B, 0, none⟩) hB).trans HC.out
      obtain ⟨ad, e1, x0, x1, x2⟩ := at_T45 HL.out (kk : Int) (by omega) hltz
      cases e1
      simp only [Int.toNat_natCast] at x0 x1 x2
      replace x0 := (BW.out.cell (World.block_lt_of_cell? w _ x0)).trans x0
      replace x1 := (BW.out.cell (World.block_lt_of_cell? w _ x1)).trans x1
      replace x2 := (BW.out.cell (World.block_lt_of_cell? w _ x2)).trans x2
      have hcall := impl_withoutFile.test (rd_T45 l kk).f0 (rd_T45 l kk).f1 (rd_T45 l kk).f2 s B wr (Nat.lt_of_lt_of_le hB BW.out.size) hcB
      have IY := IX.out
      rw [impl_placeOf.drop_rd l kk hlt, impl_placeOf.ix] at IY
      clear hcB
      cases hq : (rd_T45 l (kk : Int)).f0.toList == s.toList with
      | true =>
        rw [hq, if_pos rfl] at IY
        rw [hq] at hcall
        have HIY := Aside0.mk IY
        clear IY hq IX
        go_wp2_with (go_at_call 82; refine hcall.mono ?_; rintro e w' ⟨rfl, hb'⟩)
        go_ret
        exact ⟨by rw [HIY.out]; rfl, below_then BW.out BW.out.size hb'⟩
      | false =>
        rw [hq, if_neg (by simp)] at IY
        rw [hq] at hcall
        have HIY := Aside0.mk IY
        clear IY hq IX
        go_wp2_with (go_at_call 82; refine hcall.mono ?_; rintro e w' ⟨rfl, hb'⟩)
        go_roundg (l.length - (kk + 1))
        case measure => omega
        case rel => exact ⟨kk + 1, by omega, by omega, by go_num, ⟨below_then BW.out BW.out.size hb'⟩, HIY⟩
    · have hltz : ¬ (kk : Int) < (l.length : Int) := by omega
      have : kk = l.length := by omega
      subst this
      have IY := IX.out
      rw [List.drop_length, impl_placeOf.ix] at IY
      have HIY := Aside0.mk IY
      clear IY IX
      go_wp2
      go_ret
      exact ⟨by rw [← HIY.out]; rfl, BW.out⟩

theorem keep_ix (s : ByteArray) (l : List S45) : ∀ i : Int, (impl_placeOf.ix s l i = -1 ∧ l.filter (keepF s) = l) ∨ ∃ j : Nat, j < l.length ∧ impl_placeOf.ix s l i = i + (j : Int) ∧ (l.take j).filter (keepF s) = l.take j ∧ (l.take (j + 1)).filter (keepF s) = l.take j := by
  induction l with
  | nil => intro i; exact .inl ⟨rfl, rfl⟩
  | cons x r ih =>
    intro i
    by_cases h : (x.f0.toList == s.toList) = true
    · refine .inr ⟨0, by simp, ?_, rfl, ?_⟩
      · rw [impl_placeOf.ix, if_pos h]; simp
      · have hk : keepF s x = false := by unfold keepF; rw [h]; rfl
        simp [List.filter_cons, hk]
    · have hk : keepF s x = true := by unfold keepF; rw [Bool.eq_false_iff.2 h]; rfl
      have e : impl_placeOf.ix s (x :: r) i = impl_placeOf.ix s r (i + 1) := by rw [impl_placeOf.ix, if_neg h]
      rcases ih (i + 1) with ⟨h1, h2⟩ | ⟨j, hj, h1, h2, h3⟩
      · exact .inl ⟨by rw [e, h1], by rw [List.filter_cons, if_pos hk, h2]⟩
      · exact .inr ⟨j + 1, by simpa using hj, by rw [e, h1]; omega, by rw [List.take_succ_cons, List.filter_cons, if_pos hk, h2], by rw [List.take_succ_cons, List.filter_cons, if_pos hk, h3]; rfl⟩
/-- The row while it is rewritten: what is kept so far, cells that are free, what is to come, the rest. -/
theorem row_store {g : Nat} {K X T : List Value} {x : S45} {W : World} (h : RowIs W g 45 (K ++ X ++ (en45 x ++ T))) (h3 : 3 ≤ X.length) (o : Nat) (ho : K.length = o) :
    RowIs (W.setCells g o (en45 x)) g 45 ((K ++ en45 x) ++ (X ++ en45 x).drop 3 ++ T) := by
  subst ho
  have hs := h.set K.length (en45 x) (by simp [en45]; omega)
  have e1 : (K ++ X ++ (en45 x ++ T)).take K.length = K := by rw [List.append_assoc]; exact List.take_left' rfl
  have e2 : (K ++ X ++ (en45 x ++ T)).drop (K.length + (en45 x).length) = (X ++ en45 x).drop 3 ++ T := by
    rw [← List.drop_drop, List.append_assoc, List.drop_left' rfl, ← List.append_assoc, en45_len, List.drop_append_of_le_length (by simp [en45])]
  rw [e1, e2] at hs
  simpa [List.append_assoc] using hs
theorem row_clear {g : Nat} {K X T : List Value} {W : World} (h : RowIs W g 45 (K ++ X ++ T)) (zs : List Value) (hz : zs.length = X.length) (o : Nat) (ho : K.length = o) : RowIs (W.setCells g o zs) g 45 (K ++ zs ++ T) := by
  subst ho
  have hs := h.set K.length zs (by simp; omega)
  rw [List.append_assoc K X T, List.take_left' rfl, ← List.drop_drop, List.drop_left' rfl, hz, List.drop_left' rfl] at hs
  exact hs
theorem take_rd (l : List S45) (j : Nat) (h : j < l.length) : l.take (j + 1) = l.take j ++ [rd_T45 l (j : Int)] := by
  have e := List.take_append_drop j (l.take (j + 1))
  rw [List.take_take, Nat.min_eq_left (by omega), List.drop_take, impl_placeOf.drop_rd l j h, show j + 1 - j = 1 by omega] at e
  rw [← e]; rfl
theorem row_at {K X T : List Value} {x : S45} {m : Nat} (hm : K.length + X.length = m) (i : Nat) (v : Value) (hv : (en45 x)[i]? = some v) : (K ++ X ++ (en45 x ++ T))[m + i]? = some v := by
  subst hm
  have hi := (List.getElem?_eq_some_iff.1 hv).1
  rw [List.getElem?_append_right (by simp), List.length_append, Nat.add_sub_cancel_left, List.getElem?_append_left hi]
  exact hv
set_option maxHeartbeats 4000000 in
set_option maxRecDepth 100000 in
theorem impl_withoutFile.delete (l : List S45) (v : Value) (s : ByteArray) (B base : Nat) (ok : Nat → Prop) (w : World) (hR : Kd.R k45 45 w base ok v l) (hB : B < w.heap.size) (hc : w.cell? ⟨B, 0, none⟩ = some (.string s)) (hne : ∀ k, v.ownBlock = some k → B ≠ k) :
    Calls Try.prog 81 #[v, .func (.func 82) #[] #[.pointer (some ⟨B, 0, none⟩)]] w fun e w' => ∃ v', e = .returned v' ∧ Kd.R k45 45 w' base ok v' (l.filter (keepF s)) ∧ w.grownBy w' v.ownBlock := by
  have hu45 := Try.underlying45
  have hu27 := Try.underlying27
  obtain ⟨A, c, rfl, hlc, hC⟩ := Kd.R_reads hR
  have hIF := impl_withoutFile.index l A c s B w hC hB hc
  rcases keep_ix s l 0 with ⟨e1, e2⟩ | ⟨k0, hk0, e1, e2, e3⟩
  · rw [e1] at hIF
    rw [e2]
    have HR := Aside0.mk hR
    clear hR hC e1 e2 hc
    go_enter Try.func81, Try.ntmps81
    go_wp2_with (go_at_call 77; refine hIF.mono ?_; rintro e w' ⟨rfl, hb'⟩)
    go_ret
    exact ⟨_, rfl, Kd.R_below HR.out hb', grown_of_below hb' _⟩
  · rcases R_rows (enc := en45) en45_len en45_M hR with ⟨_, rfl⟩ | ⟨g, cap, rest, ev, hbg, hokg, hcap, hmx, hrow, hrl⟩
    · simp at hk0
    cases ev
    have hBg : B ≠ g := hne g rfl
    rw [e1] at hIF
    have hne1 : ((0 : Int) + (k0 : Int) == -1) = false := beq_eq_false_iff_ne.2 (by omega)
    unfold maxLen at hmx
    have HRow := Aside0.mk hrow
    have HC := Aside0.mk hc
    have E2 := Aside0.mk e2
    have E3 := Aside0.mk e3
    clear hR hC hrow hc e1 e2 e3 hne
    simp only [Int.zero_add] at hIF hne1
    go_enter Try.func81, Try.ntmps81
    go_wp2_with (go_at_call 77; refine hIF.mono ?_; rintro e w1 ⟨rfl, hb1⟩)
    go_loopg [5, 6, 7] l.length (fun gg s5 s6 _ wr => ∃ (i j : Nat) (X : List Value), s5 = .int .i64 i ∧ s6 = .int .i64 j ∧ j ≤ l.length ∧ l.length - j ≤ gg ∧ Aside0 (i < j ∧ ((l.take j).filter (keepF s)).length = i ∧ X.length = (j - i) * 3) ∧ Aside0 (RowIs wr g 45 (flat en45 ((l.take j).filter (keepF s)) ++ X ++ (flat en45 (l.drop j) ++ rest))) ∧ Aside0 (w.grownBy wr (some g)))
    case atStart =>
      refine ⟨k0, k0 + 1, en45 (rd_T45 l (k0 : Int)), rfl, by go_num, by omega, by omega, ⟨by omega, ?_, ?_⟩, ⟨?_⟩, ⟨grown_of_below hb1 _⟩⟩
      · rw [E3.out, List.length_take]; omega
      · rw [en45_len, show k0 + 1 - k0 = 1 by omega]
      · have := HRow.out.below hb1
        rw [E3.out]
        have e : flat en45 l = flat en45 (l.take k0) ++ en45 (rd_T45 l (k0 : Int)) ++ flat en45 (l.drop (k0 + 1)) := by
          conv => lhs; rw [← List.take_append_drop k0 l, impl_placeOf.drop_rd l k0 hk0, flat_append, flat_cons]
          simp
        rw [e, List.append_assoc] at this
        exact this
    case round =>
      obtain ⟨i, j, X, rfl, rfl, hjl, hgg, IX, ROW, GW⟩ := hrel
      have hij := IX.out.1
      by_cases hlt : j < l.length
      · have hltz : (j : Int) < (l.length : Int) := by omega
        have hkl : (flat en45 ((l.take j).filter (keepF s))).length = i * 3 := by rw [flat_length en45_len, IX.out.2.1]
        have hXl : X.length = (j - i) * 3 := IX.out.2.2
        have R0 := ROW.out
        rw [impl_placeOf.drop_rd l j hlt, flat_cons, List.append_assoc (en45 _)] at R0
        have hm : (flat en45 ((l.take j).filter (keepF s))).length + X.length = j * 3 := by omega
        have x0 : wr.cell? ⟨g, j * 3, none⟩ = some (.string (rd_T45 l (j : Int)).f0) := R0.cell (row_at hm 0 _ rfl)
        have hBlt : B < wr.heap.size := World.block_lt_of_cell? wr ⟨B, 0, none⟩ (grown_cell GW.out hBg HC.out)
        have x1 := R0.cell (row_at hm 1 (.string (rd_T45 l (j : Int)).f1) rfl)
        have x2 := R0.cell (row_at hm 2 (.int .i64 (rd_T45 l (j : Int)).f2) rfl)
        have hcB := grown_cell GW.out hBg HC.out
        have hcall := impl_withoutFile.test (rd_T45 l j).f0 (rd_T45 l j).f1 (rd_T45 l j).f2 s B (wr.alloc (.cells #[.string (rd_T45 l j).f0, .string (rd_T45 l j).f1, .int .i64 (rd_T45 l j).f2] 45)) (by simp; omega) (pw_cell_below (below_alloc (Below.refl _ _) _) hcB)
        have RA := Aside0.mk (R0.below (below_alloc (Below.refl _ _) (.cells #[.string (rd_T45 l j).f0, .string (rd_T45 l j).f1, .int .i64 (rd_T45 l j).f2] 45)))
        have GA := Aside0.mk (grown_below GW.out (below_alloc (Below.refl _ _) (.cells #[.string (rd_T45 l j).f0, .string (rd_T45 l j).f1, .int .i64 (rd_T45 l j).f2] 45)))
        have HLn := Aside0.mk (show i * 3 + 3 ≤ (flat en45 ((l.take j).filter (keepF s)) ++ X ++ (en45 (rd_T45 l (j : Int)) ++ (flat en45 (l.drop (j + 1)) ++ rest))).length by simp only [List.length_append, hkl, hXl]; omega)
        have hil : (i : Int) < (l.length : Int) := by omega
        clear R0 hkl hXl hm ROW GW hcB
        cases hq : (rd_T45 l (j : Int)).f0.toList == s.toList with
        | true =>
          rw [hq] at hcall
          have HQ := Aside0.mk hq
          clear hq
          go_wp2_with (go_at_call 82; refine hcall.mono ?_; rintro e w2 ⟨rfl, hb2⟩)
          go_roundg (l.length - (j + 1))
          case measure => omega
          case rel =>
            have hk : keepF s (rd_T45 l (j : Int)) = false := by unfold keepF; rw [HQ.out]; rfl
            have e1 : (l.take (j + 1)).filter (keepF s) = (l.take j).filter (keepF s) := by rw [take_rd l j hlt, List.filter_append]; simp [List.filter_cons, hk]
            refine ⟨i, j + 1, X ++ en45 (rd_T45 l (j : Int)), rfl, by go_num, by omega, Nat.le_refl _, ⟨by omega, by rw [e1]; exact IX.out.2.1, by rw [List.length_append, IX.out.2.2, en45_len]; omega⟩, ⟨?_⟩, ⟨grown_below GA.out hb2⟩⟩
            have := RA.out.below hb2
            rw [e1]
            simpa [List.append_assoc] using this
        | false =>
          rw [hq] at hcall
          have HQ := Aside0.mk hq
          clear hq
          go_wp2_with (go_at_call 82; refine hcall.mono ?_; rintro e w2 ⟨rfl, hb2⟩; have RB := Aside0.mk (RA.out.below hb2); have GB := Aside0.mk (grown_below GA.out hb2); have n0 : w2.cell? ⟨wr.heap.size, 0, none⟩ = some (.string (rd_T45 l (j : Int)).f0) := pw_cell_below hb2 (by go_simp); have n1 : w2.cell? ⟨wr.heap.size, 1, none⟩ = some (.string (rd_T45 l (j : Int)).f1) := pw_cell_below hb2 (by go_simp); have n2 : w2.cell? ⟨wr.heap.size, 2, none⟩ = some (.int .i64 (rd_T45 l (j : Int)).f2) := pw_cell_below hb2 (by go_simp); obtain ⟨o0, p0⟩ := Option.isSome_iff_exists.1 (RB.out.isSome (j := i * 3) (by have := HLn.out; omega)); obtain ⟨o1, p1⟩ := Option.isSome_iff_exists.1 (RB.out.isSome (j := i * 3 + 1) (by have := HLn.out; omega)); obtain ⟨o2, p2⟩ := Option.isSome_iff_exists.1 (RB.out.isSome (j := i * 3 + 2) (by have := HLn.out; omega)); have q0 := RB.out.free (i * 3); have q1 := RB.out.free (i * 3 + 1); have q2 := RB.out.free (i * 3 + 2))
          go_roundg (l.length - (j + 1))
          case measure => omega
          case rel =>
            have hk : keepF s (rd_T45 l (j : Int)) = true := by unfold keepF; rw [HQ.out]; rfl
            have e1 : (l.take (j + 1)).filter (keepF s) = (l.take j).filter (keepF s) ++ [rd_T45 l (j : Int)] := by rw [take_rd l j hlt, List.filter_append]; simp [List.filter_cons, hk]
            have hx := IX.out.2.2
            refine ⟨i + 1, j + 1, (X ++ en45 (rd_T45 l (j : Int))).drop 3, by go_num, by go_num, by omega, Nat.le_refl _, ⟨by omega, by rw [e1, List.length_append, IX.out.2.1]; rfl, by rw [List.length_drop, List.length_append, hx, en45_len]; omega⟩, ⟨?_⟩, ⟨?_⟩⟩
            · have := row_store RB.out (by omega) (i * 3) (by rw [flat_length en45_len, IX.out.2.1])
              rw [e1, flat_append]
              exact this
            · exact grown_trans GB.out (grown_set w2 g (i * 3) (en45 (rd_T45 l (j : Int))))
      · obtain rfl : j = l.length := by omega
        have hltz : ¬ (l.length : Int) < (l.length : Int) := by omega
        have hkl : (flat en45 ((l.take l.length).filter (keepF s))).length = i * 3 := by rw [flat_length en45_len, IX.out.2.1]
        have hXl : X.length = (l.length - i) * 3 := IX.out.2.2
        obtain ⟨zs, hz, hcl⟩ := clear_run wr g (i * 3) (l.length - i) (c - i) _ ROW.out (by simp only [List.length_append, hkl, hXl]; omega)
        have hs := row_clear ROW.out zs (by rw [hz, hXl]) (i * 3) hkl
        rw [List.drop_length] at hs
        have HS := Aside0.mk hs
        have HZ := Aside0.mk hz
        have hil : (i : Int) ≤ (l.length : Int) := by omega
        have hic : (i : Int) ≤ (c : Int) := by omega
        have hci : ¬ (c = i) := by omega
        clear hkl hXl hs hz ROW
        go_wp2
        go_ret
        have e1 : (l.take l.length).filter (keepF s) = l.filter (keepF s) := by rw [List.take_length]
        have hi := IX.out.2.1
        rw [e1] at hi
        refine ⟨.slice (some ⟨g, 0, none⟩) (l.filter (keepF s)).length c, by rw [hi]; rfl, ?_, grown_trans GW.out (grown_set wr g (i * 3) zs)⟩
        have hfl := List.length_filter_le (keepF s) l
        refine R_of_rows (rest := zs ++ rest) en45_len en45_mk hbg hokg (by omega) (by unfold maxLen; omega) ?_ ?_
        · have := HS.out
          rw [e1] at this
          simpa [flat_nil, List.append_assoc] using this
        · have e3 : k45.sz = 3 := rfl
          rw [List.length_append, HZ.out, hrl, e3, hi]
          omega
theorem heap3 (w : World) (a b c : Obj) : (((w.alloc a).alloc b).alloc c).heap[w.heap.size + 2]? = some c := by
  have e : ((w.alloc a).alloc b).heap.size = w.heap.size + 2 := by simp
  rw [← e]
  exact heap_alloc_new _ _
def impl_withoutFile.f (l0_0 : List S45) (a1 : ByteArray) : Option (List S45) := (impl_copyDisk.f l0_0).bind fun l => some (l.filter (keepF a1))
set_option maxHeartbeats 4000000 in
set_option maxRecDepth 100000 in
theorem impl_withoutFile.calls (A0_0 : Option Addr) (c0_0 : Nat) (l0_0 : List (S45)) (a1 : ByteArray) (r : List S45) (w : World) (hr0_0 : Kd.C k45 w A0_0 l0_0.length l0_0) (hc0_0 : l0_0.length ≤ c0_0) (h : impl_withoutFile.f l0_0 a1 = some r) :
    Calls Try.prog 67 #[.agg #[.slice A0_0 l0_0.length c0_0], .string a1] w fun e w' => ∃ v0_ : Value, e = .returned (.agg #[v0_]) ∧ Kd.R k45 45 w' w.heap.size (fun _ => True) v0_ r ∧ Below w.heap.size w w' := by
  obtain ⟨l, h1, h2⟩ := Option.bind_eq_some_iff.1 h
  obtain rfl := Option.some.inj h2
  have hu29 := Try.underlying29
  have hb0 := below_alloc (below_alloc (below_alloc (Below.refl w.heap.size w) (.cells #[.slice A0_0 l0_0.length c0_0] 29)) (.cells #[.string a1] 9)) (.cells #[.slice none 0 0] 29)
  have hcp := impl_copyDisk.calls A0_0 c0_0 l0_0 l (((w.alloc (.cells #[.slice A0_0 l0_0.length c0_0] 29)).alloc (.cells #[.string a1] 9)).alloc (.cells #[.slice none 0 0] 29)) (Kd.C_alloc (Kd.C_alloc (Kd.C_alloc hr0_0 _) _) _) hc0_0 h1
  have HB0 := Aside0.mk hb0
  clear h h1 h2 hr0_0 hc0_0 hb0
  have hfld : ∀ (A : Option Addr) (n c : Nat) (W : World), Sem.run Try.prog (Instr.field 29 (.agg #[.slice A n c]) 0) W = .ok (.slice A n c) W := fun _ _ _ _ => by kernel_rfl
  go_enter Try.func67, Try.ntmps67
  go_wp2_with (first | (go_at_call 61; refine hcp.mono ?_; rintro e w1 ⟨v0, rfl, hR, hb1⟩; obtain ⟨Ao, co, rfl, hco, _⟩ := Kd.R_reads hR; have HR := Aside0.mk hR; have HB1 := Aside0.mk hb1; have hs1 : w1.heap.size > w.heap.size + 2 := (by have := hb1.size; simp at this; omega); have hc1 : w1.cell? ⟨w.heap.size + 1, 0, none⟩ = some (.string a1) := pw_cell_below hb1 (by go_simp); have hb29 : w1.heap[w.heap.size + 2]? = some (.cells #[.slice none 0 0] 29 (0, 0)) := ((hb1.block (w.heap.size + 2) (by simp)).trans (heap3 w _ _ _)); clear hR hb1) | (go_at_call 81; refine (impl_withoutFile.delete l _ a1 (w.heap.size + 1) _ _ w1 HR.out (by omega) hc1 (fun k hk => by have := Kd.R_base HR.out k hk; simp at this; omega)).mono ?_; rintro e w2 ⟨v2, rfl, hR2, hg2⟩; obtain ⟨A2, c2, rfl, hc2, _⟩ := Kd.R_reads hR2; have HR2 := Aside0.mk hR2; have HG2 := Aside0.mk hg2; have hb29' : w2.heap[w.heap.size + 2]? = some (.cells #[.slice none 0 0] 29 (0, 0)) := ((hg2.block (w.heap.size + 2) (by omega) (fun ee => by have := Kd.R_base HR.out _ ee.symm; simp at this; omega)).trans hb29); have HB29 := Aside0.mk hb29'; have c29 : w2.cell? ⟨w.heap.size + 1 + 1, 0, none⟩ = some (.slice none 0 0) := (blk_cell hb29' 0).trans rfl; have f29 : w2.frozen? ⟨w.heap.size + 1 + 1, 0, none⟩ = false := blk_frozen hb29' 0; clear hR2 hg2 hb29 hb29'))
  refine bodyPost_ret (results_cell_row rfl _ _ (w.heap.size + 1 + 1) 29 #[.slice A2 (l.filter (keepF a1)).length c2] (0, 0) _ rfl (blk_put (cs := #[.slice none 0 0]) HB29.out 0 _ rfl) Try.underlying29 rfl (by kernel_rfl)) rfl ?_
  exact ⟨_, rfl, Kd.R_lower (Kd.R_set (Kd.R_mono HR2.out (fun _ _ => trivial)) HB29.out (by decide) 0 _) (by simp; omega), below_set (pw_below_grown (below_then HB0.out (by simp; omega) HB1.out) _ (by omega) HG2.out (fun k hk => by have := Kd.R_base HR.out k hk; simp at this; omega)) (by omega)⟩
end

-- NOT PRINTED: function 88 (impl_File_88)

-- NOT PRINTED: function 92 (impl_File_92)

-- NOT PRINTED: function 91 (impl_File_91)

-- NOT PRINTED: function 89 (impl_File_89)

-- NOT PRINTED: function 80 (impl_File_80)

/-! ### impl_withFile: function 66 -/
section
open Go.Proofs.Ythfppepnpngfmaa.Row
set_option maxHeartbeats 4000000 in
set_option maxRecDepth 100000 in
theorem impl_withFile.insert_end (l : List S45) (v : Value) (x : S45) (vb base : Nat) (ok : Nat → Prop) (w : World) (hR : Kd.R k45 45 w base ok v l) (hv : RowIs w vb 45 (en45 x)) (hn : l.length < 1000000) (hbase : base ≤ w.heap.size) (hfresh : ∀ k, w.heap.size ≤ k → ok k) :
    Calls Try.prog 80 #[v, .int .i64 l.length, .slice (some ⟨vb, 0, none⟩) 1 1] w fun e w' => ∃ v', e = .returned v' ∧ Kd.R k45 45 w' base ok v' (l ++ [x]) ∧ w.grownBy w' v.ownBlock := by
  have hC : Kd.C k45 w (some ⟨vb, 0, none⟩) 1 [x] := ⟨rfl, by omega, fun _ => ⟨⟨vb, 0, none⟩, rfl, fun j p hj => by
    have hj0 : j = 0 := by have := (List.getElem?_eq_some_iff.1 hj).1; simp at this; omega
    subst hj0
    obtain rfl : x = p := by simpa using hj
    refine ⟨en45 x, rfl, k45_mk _ _, fun i u hi => ?_⟩
    rw [add_at]
    exact hv.cell (by simpa using hi)⟩⟩
  obtain ⟨A, c, rfl, hlc, _⟩ := Kd.R_reads hR
  obtain ⟨row, hrow⟩ : ∃ row, Aside0 ((Value.slice A l.length c).ownBlock = row) := ⟨_, ⟨rfl⟩⟩
  rw [hrow.out]
  have HR := Aside0.mk hR
  have HC := Aside0.mk hC
  have hln : ((l.length : Int) == (l.length : Int)) = true := by simp
  clear hR hC hv
  go_enter Try.func80, Try.ntmps80
  go_wp2_with (at_builtin; refine Kd.R_append_rows k45 (w0 := w) base rfl (.tmp 23) (.tmp 24) 27 45 (.agg #[(.string ⟨#[]⟩), (.string ⟨#[]⟩), (.int .i64 0)]) 40 rfl Try.underlying27 info45 rfl (by decide) (by omega) (.slice A l.length c) l [x] _ _ _ ok (fun _ => False) rfl rfl HR.out HC.out (fun x cs h => h) (fun _ h => h.elim) hfresh (Below.refl _ _) hbase (by omega) ?_; intro v1 w1 hR1 hb1 hg1 hat1)
  all_goals go_ret
  all_goals exact ⟨_, rfl, hR1, by rw [← hrow.out]; exact hg1⟩

theorem row_shift {g m : Nat} {F D R : List Value} {x : S45} {W : World} (h : RowIs W g 45 (F ++ (D ++ R))) (hF : F.length = m) (hR : 3 ≤ R.length) :
    RowIs ((W.setCells g (m + 3) D).setCells g m (en45 x)) g 45 (F ++ en45 x ++ (D ++ R.drop 3)) := by
  subst hF
  have h1 := h.set (F.length + 3) D (by simp; omega)
  have e1 : (F ++ (D ++ R)).take (F.length + 3) = F ++ (D ++ R).take 3 := by rw [List.take_append, List.take_of_length_le (by omega), Nat.add_sub_cancel_left]
  have e2 : (F ++ (D ++ R)).drop (F.length + 3 + D.length) = R.drop 3 := by
    rw [show F.length + 3 + D.length = F.length + (D.length + 3) by omega, ← List.drop_drop, List.drop_left' rfl, ← List.drop_drop, List.drop_left' rfl]
  rw [e1, e2] at h1
  have h2 := h1.set F.length (en45 x) (by simp [en45]; omega)
  have e3 : (F ++ (D ++ R).take 3 ++ D ++ R.drop 3).take F.length = F := by rw [List.append_assoc, List.append_assoc]; exact List.take_left' rfl
  have e4 : (F ++ (D ++ R).take 3 ++ D ++ R.drop 3).drop (F.length + (en45 x).length) = D ++ R.drop 3 := by
    rw [en45_len, List.append_assoc, List.append_assoc, ← List.drop_drop, List.drop_left' rfl, List.drop_left' (by simp; omega)]
  rw [e3, e4] at h2
  exact h2
set_option maxHeartbeats 4000000 in
set_option maxRecDepth 100000 in
theorem impl_withFile.insert_shift (l : List S45) (g c i : Nat) (rest : List Value) (x : S45) (vb : Nat) (w : World) (hi : i < l.length) (hroom : l.length + 1 ≤ c) (hmx : c ≤ 9223372036854775807) (hrow : RowIs w g 45 (flat en45 l ++ rest)) (hrl : rest.length = (c - l.length) * 3) (hv : RowIs w vb 45 (en45 x)) (hvb : vb ≠ g) :
    Calls Try.prog 80 #[.slice (some ⟨g, 0, none⟩) l.length c, .int .i64 i, .slice (some ⟨vb, 0, none⟩) 1 1] w fun e w' => e = .returned (.slice (some ⟨g, 0, none⟩) (l.length + 1) c) ∧ RowIs w' g 45 (flat en45 (l.take i ++ [x] ++ l.drop i) ++ rest.drop 3) ∧ w.grownBy w' (some g) := by
  have hfl : (flat en45 l).length = l.length * 3 := flat_length en45_len l
  have hz2 : ¬ ((i : Int) = (l.length : Int)) := by omega
  have hov : ∀ lb cb, (callFunc 88 #[.slice (some ⟨vb, 0, none⟩) 1 1, .slice (some ⟨g, (i + 1) * 3, none⟩) lb cb]).run Try.prog w = .ok (.value (.bool false)) w := fun lb cb => by
    rw [run_callFunc_extern Try.func88 (by kernel_rfl) (by kernel_rfl) (by kernel_rfl) (e := Extern.SlicesOverlaps.overlaps #[27, 27] #[4]) (by kernel_rfl),
      Lib.run_overlaps_apart w 27 4 45 Try.underlying27 3 (fun W => by kernel_rfl) ⟨vb, 0, none⟩ ⟨g, (i + 1) * 3, none⟩ 1 1 lb cb hvb 45 45 3 (flat en45 l ++ rest).length hv.shape hrow.shape (by simp [hfl]; omega) (hv.free 0) (hv.free 3)]
    rfl
  have hsz : (Try.prog.info? 45).map (·.size) = some 3 := by kernel_rfl
  have hD : (flat en45 (l.drop i)).length = (l.length - i) * 3 := by rw [flat_length en45_len, List.length_drop]
  have hF : (flat en45 (l.take i)).length = i * 3 := by rw [flat_length en45_len, List.length_take]; omega
  have hsplit : flat en45 l ++ rest = flat en45 (l.take i) ++ (flat en45 (l.drop i) ++ rest) := by rw [← List.append_assoc, ← flat_append, List.take_append_drop]
  have hone : ∀ (ys : List S45), ∀ v ∈ flat en45 ys, v.oneCell' = true := fun ys v hv' => by
    obtain ⟨y, _, hy⟩ := List.mem_flatMap.1 hv'
    exact en45_one y v hy
  have hw1 : IntKind.i64.wrap ((i : Int) + 1) = (i : Int) + 1 := by rw [IntKind.wrap_i64]; omega
  have hb1 : (0 : Int) ≤ (i : Int) + 1 := by omega
  have htn : ((i : Int) + 1).toNat = i + 1 := by omega
  have hb2 : ¬ (c = i + 1) := by omega
  have hb3 : (i : Int) ≤ (l.length : Int) + 1 := by omega
  have hb4 : ¬ (c = i) := by omega
  have hb5 : i ≤ l.length := by omega
  have hlen : (flat en45 l ++ rest).length = c * 3 := by rw [List.length_append, hfl, hrl, ← Nat.add_mul]; congr 1; omega
  have hcp1 : ∀ ty dc sc, (Builtin.copy_ #[27, 27] ty #[.slice (some ⟨g, (i + 1) * 3, none⟩) (l.length - i) dc, .slice (some ⟨g, i * 3, none⟩) (l.length + 1 - i) sc]).run Try.prog w.drew = .ok (goInt (Nat.min (l.length + 1 - i) (l.length - i))) (w.drew.setCells g (i * 3 + 3) (flat en45 (l.drop i))) := fun ty dc sc => by
    have := run_copy_k (P := Try.prog) w.drew 27 27 ty 45 g ((i + 1) * 3) (l.length - i) dc ⟨g, i * 3, none⟩ (l.length + 1 - i) sc 3 (flat en45 (l.drop i)) Try.underlying27 hsz (by rw [hD]; simp only [Nat.min_def]; split <;> omega)
      (hrow.drew.cells (i * 3) _ (fun j hj => by rw [hsplit, ← hF, List.getElem?_append_right (by omega), Nat.add_sub_cancel_left, List.getElem?_append_left hj]))
      (fun j hj => hrow.drew.isSome (by rw [hlen]; omega)) (fun j _ => hrow.drew.free _) (hone _)
    have e : (i + 1) * 3 = i * 3 + 3 := by omega
    rw [e] at this ⊢
    exact this
  have HROW := Aside0.mk hrow
  have HSP := Aside0.mk hsplit
  have HF := Aside0.mk hF
  have HD := Aside0.mk hD
  have HV := Aside0.mk hv
  have HFL := Aside0.mk hfl
  have HLN := Aside0.mk hlen
  have HRL := Aside0.mk hrl
  have HONE := Aside0.mk hone
  have HSZ := Aside0.mk hsz
  have hdrew : ∀ W : World, Aside0 (W = w.drew.setCells g (i * 3 + 3) (flat en45 (l.drop i)) → ∀ ty dc, (Builtin.copy_ #[27, 27] ty #[.slice (some ⟨g, i * 3, none⟩) (l.length + 1 - i) dc, .slice (some ⟨vb, 0, none⟩) 1 1]).run Try.prog W = .ok (goInt (Nat.min 1 (l.length + 1 - i))) (W.setCells g (i * 3) (en45 x))) := fun W => ⟨fun hW ty dc => by
    subst hW
    have hs := HROW.out.drew.set (i * 3 + 3) (flat en45 (l.drop i)) (by rw [HLN.out, HD.out]; omega)
    have hV : RowIs (w.drew.setCells g (i * 3 + 3) (flat en45 (l.drop i))) vb 45 (en45 x) := HV.out.to (setCells_far _ _ vb hvb)
    refine run_copy_k (P := Try.prog) _ 27 27 ty 45 g (i * 3) (l.length + 1 - i) dc ⟨vb, 0, none⟩ 1 1 3 (en45 x) Try.underlying27 HSZ.out (by rw [en45_len]; simp only [Nat.min_def]; split <;> omega) (hV.cells 0 _ (fun j _ => by simp)) (fun j hj => hs.isSome ?_) (fun j _ => hs.free _) (en45_one x)
    rw [en45_len] at hj
    simp only [List.length_append, List.length_take, List.length_drop, HD.out, HRL.out, HFL.out] at *
    omega⟩
  clear hrow hsplit hF hD hv hfl hlen hrl hone hsz
  go_enter Try.func80, Try.ntmps80
  go_wp2_with (simp only [hov])
  go_region_law (refine step_copy_run rfl _ _ 27 27 rfl _ _ (by simp [Act.eval, Act.put]) (by simp [Act.eval, Act.put]) (hcp1 _ _ _) ?_)
  obtain ⟨W1, hW1⟩ : ∃ W1, W1 = w.drew.setCells g (i * 3 + 3) (flat en45 (l.drop i)) := ⟨_, rfl⟩
  have hcp2 := (hdrew W1).out hW1
  rw [← hW1]
  have HW1 := Aside0.mk hW1
  clear hW1 hdrew hcp1
  go_wp2_with (at_builtin; refine wpList_copy_run _ rfl _ _ 27 27 rfl _ _ rfl rfl (hcp2 _ _) ?_)
  go_ret
  refine ⟨rfl, ?_, ?_⟩
  · have h0 := HROW.out.drew
    rw [HSP.out] at h0
    have h := row_shift (x := x) h0 HF.out (by rw [HRL.out]; omega)
    rw [HW1.out, flat_append, flat_append]
    simpa [flat_cons, flat_nil, List.append_assoc] using h
  · rw [HW1.out]
    exact grown_trans (grown_trans (grown_of_below (below_drew (Below.refl _ _)) _) (grown_set w.drew g _ _)) (grown_set _ g _ _)
theorem row_grow {N m : Nat} {F Z D : List Value} {x : S45} {W : World} (h : RowIs W N 45 (F ++ Z)) (hF : F.length = m) (hZ : 3 + D.length ≤ Z.length) :
    RowIs (((W.setCells N m (en45 x)).drew).setCells N (m + 3) D) N 45 (F ++ en45 x ++ (D ++ Z.drop (3 + D.length))) := by
  subst hF
  have h1 := h.set F.length (en45 x) (by simp [en45]; omega)
  rw [List.take_left' rfl, en45_len, ← List.drop_drop, List.drop_left' rfl] at h1
  have h2 := h1.drew.set (F.length + 3) D (by simp [en45]; omega)
  have e1 : (F ++ en45 x ++ Z.drop 3).take (F.length + 3) = F ++ en45 x := List.take_left' (by simp [en45])
  have e2 : (F ++ en45 x ++ Z.drop 3).drop (F.length + 3 + D.length) = Z.drop (3 + D.length) := by
    rw [← List.drop_drop, List.drop_left' (by simp [en45]), List.drop_drop]
  rw [e1, e2] at h2
  rw [← List.append_assoc]
  exact h2
set_option maxHeartbeats 4000000 in
set_option maxRecDepth 100000 in
theorem impl_withFile.insert_grow (l : List S45) (g c i : Nat) (rest : List Value) (x : S45) (vb : Nat) (w : World) (hi : i < l.length) (hn : l.length < 1000000) (hcl : l.length ≤ c) (hroom : c < l.length + 1) (hrow : RowIs w g 45 (flat en45 l ++ rest)) (hv : RowIs w vb 45 (en45 x)) :
    Calls Try.prog 80 #[.slice (some ⟨g, 0, none⟩) l.length c, .int .i64 i, .slice (some ⟨vb, 0, none⟩) 1 1] w fun e w' => ∃ G rest', e = .returned (.slice (some ⟨w.heap.size, 0, none⟩) (l.length + 1) G) ∧ l.length + 1 ≤ G ∧ G ≤ maxLen ∧ rest'.length = (G - (l.length + 1)) * 3 ∧ RowIs w' w.heap.size 45 (flat en45 (l.take i ++ [x] ++ l.drop i) ++ rest') ∧ Below w.heap.size w w' := by
  have hfl : (flat en45 l).length = l.length * 3 := flat_length en45_len l
  have hz2 : ¬ ((i : Int) = (l.length : Int)) := by omega
  have hz3 : (c : Int) < (l.length : Int) + 1 := by omega
  have hsz : (Try.prog.info? 45).map (·.size) = some 3 := by kernel_rfl
  have hD : (flat en45 (l.drop i)).length = (l.length - i) * 3 := by rw [flat_length en45_len, List.length_drop]
  have hF : (flat en45 (l.take i)).length = i * 3 := by rw [flat_length en45_len, List.length_take]; omega
  have hsplit : flat en45 l ++ rest = flat en45 (l.take i) ++ (flat en45 (l.drop i) ++ rest) := by rw [← List.append_assoc, ← flat_append, List.take_append_drop]
  have hone : ∀ (ys : List S45), ∀ v ∈ flat en45 ys, v.oneCell' = true := fun ys v hv' => by
    obtain ⟨y, _, hy⟩ := List.mem_flatMap.1 hv'
    exact en45_one y v hy
  obtain ⟨N, hN⟩ : ∃ N, N = w.heap.size := ⟨_, rfl⟩
  obtain ⟨G, W1, Z, hrz, hG1, hG2, hZ, hR1, hB1⟩ : ∃ G W1 Z, (∀ ty, (Builtin.append_ #[27, 3] ty #[.slice (some ⟨g, 0, none⟩) i c, .int .i64 ((l.length : Int) + 1 - (i : Int))]).run Try.prog w = .ok (.slice (some ⟨N, 0, none⟩) (l.length + 1) G) W1) ∧ l.length + 1 ≤ G ∧ G ≤ maxLen ∧ Z.length = (G - i) * 3 ∧ RowIs W1 N 45 (flat en45 (l.take i) ++ Z) ∧ Below w.heap.size w W1 := by
    obtain ⟨i0, hi0, hz0, hzs, hzb⟩ := info_parts info45
    have hold : (Builtin.firstCells i0.size i (.slice (some ⟨g, 0, none⟩) i c)).run Try.prog w.drew = .ok (flat en45 (l.take i)).toArray w.drew := by
      rw [hzs]
      exact run_firstCells_some w.drew 3 i ⟨g, 0, none⟩ i c (flat en45 (l.take i)) (by rw [hF]) (hrow.drew.cells 0 _ (fun j hj => by rw [hsplit, Nat.zero_add, List.getElem?_append_left hj]))
    have hg := grownCap_ge w (l.length + 1) c 45
    have hik : i + (l.length + 1 - i) = l.length + 1 := by omega
    refine ⟨grownCap w (l.length + 1) c 45, w.drew.alloc (.cells ((flat en45 (l.take i)).toArray ++ Builtin.zeroCells (Value.agg #[.string ⟨#[]⟩, .string ⟨#[]⟩, .int .i64 0]).cells (l.length + 1 - i) ++ Builtin.zeroCells (Value.agg #[.string ⟨#[]⟩, .string ⟨#[]⟩, .int .i64 0]).cells (grownCap w (l.length + 1) c 45 - (l.length + 1))) 45), (Builtin.zeroCells #[.string ⟨#[]⟩, .string ⟨#[]⟩, .int .i64 0] (l.length + 1 - i)).toList ++ (Builtin.zeroCells #[.string ⟨#[]⟩, .string ⟨#[]⟩, .int .i64 0] (grownCap w (l.length + 1) c 45 - (l.length + 1))).toList, fun ty => ?_, hg, grownCap_le_maxLen w _ _ _ (by unfold maxLen; omega), ?_, ?_, ?_⟩
    · have h := Lib.run_append_grow_zeros w 27 3 ty 45 i0 _ .i64 .i64 Try.underlying27 Try.underlying3 hi0 hz0 (some ⟨g, 0, none⟩) i c _ hold (l.length + 1 - i) (by omega) (by omega) (by omega) (by omega) (by rw [hzb]; omega) (by rw [hzb, hik]; exact growslice_fits hroom (by omega))
      rw [hik] at h
      rw [show ((l.length : Int) + 1 - (i : Int)) = ((l.length + 1 - i : Nat) : Int) by omega, hN]
      exact h
    · simp [Builtin.zeroCells]; omega
    · rw [hN]
      have := RowIs.new w.drew 45 ((flat en45 (l.take i)).toArray ++ Builtin.zeroCells (Value.agg #[.string ⟨#[]⟩, .string ⟨#[]⟩, .int .i64 0]).cells (l.length + 1 - i) ++ Builtin.zeroCells (Value.agg #[.string ⟨#[]⟩, .string ⟨#[]⟩, .int .i64 0]).cells (grownCap w (l.length + 1) c 45 - (l.length + 1)))
      simpa [Value.cells, List.append_assoc] using this
    · exact below_alloc (below_drew (Below.refl _ _)) _
  rw [← hN] at hB1 ⊢
  have hlenN : (flat en45 (l.take i) ++ Z).length = G * 3 := by rw [List.length_append, hF, hZ, ← Nat.add_mul]; congr 1; omega
  have hvN : RowIs W1 vb 45 (en45 x) := hv.below (hN ▸ hB1)
  have hgN : RowIs W1 g 45 (flat en45 l ++ rest) := hrow.below (hN ▸ hB1)
  have hgne : g ≠ N := by have := hrow.lt; omega
  have hcpA : ∀ ty dc, (Builtin.copy_ #[27, 27] ty #[.slice (some ⟨N, i * 3, none⟩) (l.length + 1 - i) dc, .slice (some ⟨vb, 0, none⟩) 1 1]).run Try.prog W1 = .ok (goInt (Nat.min 1 (l.length + 1 - i))) (W1.setCells N (i * 3) (en45 x)) := fun ty dc =>
    run_copy_k (P := Try.prog) W1 27 27 ty 45 N (i * 3) (l.length + 1 - i) dc ⟨vb, 0, none⟩ 1 1 3 (en45 x) Try.underlying27 hsz (by rw [en45_len]; simp only [Nat.min_def]; split <;> omega) (hvN.cells 0 _ (fun j _ => by simp)) (fun j hj => hR1.isSome (by rw [hlenN]; rw [en45_len] at hj; omega)) (fun j _ => hR1.free _) (en45_one x)
  have hR2 := hR1.set (i * 3) (en45 x) (by rw [hlenN, en45_len]; omega)
  have hg2 : RowIs (W1.setCells N (i * 3) (en45 x)) g 45 (flat en45 l ++ rest) := hgN.to (setCells_far _ _ g hgne)
  have hcpB : ∀ ty dc sc, (Builtin.copy_ #[27, 27] ty #[.slice (some ⟨N, (i + 1) * 3, none⟩) (l.length - i) dc, .slice (some ⟨g, i * 3, none⟩) (l.length - i) sc]).run Try.prog (W1.setCells N (i * 3) (en45 x)).drew = .ok (goInt (Nat.min (l.length - i) (l.length - i))) ((W1.setCells N (i * 3) (en45 x)).drew.setCells N (i * 3 + 3) (flat en45 (l.drop i))) := fun ty dc sc => by
    have e : (i + 1) * 3 = i * 3 + 3 := by omega
    have := run_copy_k (P := Try.prog) (W1.setCells N (i * 3) (en45 x)).drew 27 27 ty 45 N ((i + 1) * 3) (l.length - i) dc ⟨g, i * 3, none⟩ (l.length - i) sc 3 (flat en45 (l.drop i)) Try.underlying27 hsz (by rw [hD]; simp [Nat.min_def])
      (hg2.drew.cells (i * 3) _ (fun j hj => by rw [hsplit, ← hF, List.getElem?_append_right (by omega), Nat.add_sub_cancel_left, List.getElem?_append_left hj]))
      (fun j hj => hR2.drew.isSome (by
        have := congrArg List.length (List.take_append_drop (i * 3) (flat en45 (l.take i) ++ Z))
        simp only [List.length_append, List.length_take, List.length_drop, hF, hZ, en45_len, hD] at *
        omega)) (fun j _ => hR2.drew.free _) (hone _)
    rw [e] at this ⊢
    exact this
  have hG9 : G ≤ 9223372036854775807 := by unfold maxLen at hG2; omega
  have hw1 : IntKind.i64.wrap ((i : Int) + 1) = (i : Int) + 1 := by rw [IntKind.wrap_i64]; omega
  have hb1 : (0 : Int) ≤ (i : Int) + 1 := by omega
  have htn : ((i : Int) + 1).toNat = i + 1 := by omega
  have hb2 : ¬ (G = i + 1) := by omega
  have hb3 : (i : Int) ≤ (l.length : Int) + 1 := by omega
  have hb4 : ¬ (G = i) := by omega
  have hb5 : i ≤ l.length := by omega
  have hb6 : ¬ (c = i) := by omega
  have hG2' := Aside0.mk hG2
  have HR1 := Aside0.mk hR1
  have HF := Aside0.mk hF
  have HD := Aside0.mk hD
  have HZ := Aside0.mk hZ
  have HB1 := Aside0.mk hB1
  have HN := Aside0.mk hN
  clear hG2 hR1 hF hD hZ hB1 hN hrow hv hfl hsz hsplit hone hlenN hvN hgN hR2 hg2
  go_enter Try.func80, Try.ntmps80
  go_wp2_with (first | (at_builtin; refine wpList_append_run _ rfl _ _ 27 3 rfl _ _ rfl rfl (hrz _) ?_) | (refine wpList_copy_run _ rfl _ _ 27 27 rfl _ _ rfl rfl (hcpA _ _) ?_))

  go_region_law (refine step_copy_run rfl _ _ 27 27 rfl _ _ (by simp [Act.eval, Act.put]) (by simp [Act.eval, Act.put]) (hcpB _ _ _) ?_)
  go_wp2
  go_ret
  have hx := row_grow (x := x) HR1.out HF.out (D := flat en45 (l.drop i)) (by rw [HD.out, HZ.out]; omega)
  refine ⟨G, Z.drop (3 + (flat en45 (l.drop i)).length), rfl, hG1, hG2'.out, by rw [List.length_drop, HZ.out, HD.out]; omega, ?_, ?_⟩
  · rw [flat_append, flat_append]
    simpa [flat_cons, flat_nil, List.append_assoc] using hx
  · have h1 := pw_below_grown HB1.out (some N) (by have := HN.out; have := HB1.out.size; omega) (grown_set W1 N (i * 3) (en45 x)) (fun k hk => by cases hk; have := HN.out; omega)
    have h2 := below_drew h1
    exact pw_below_grown h2 (some N) (by have := HN.out; have := h2.size; omega) (grown_set _ N _ _) (fun k hk => by cases hk; have := HN.out; omega)
theorem impl_withFile.insert (l : List S45) (v : Value) (x : S45) (i vb base : Nat) (ok : Nat → Prop) (w : World) (hi : i ≤ l.length) (hR : Kd.R k45 45 w base ok v l) (hv : RowIs w vb 45 (en45 x)) (hvn : ∀ k, v.ownBlock = some k → vb ≠ k) (hn : l.length < 1000000) (hbase : base ≤ w.heap.size) (hfresh : ∀ k, w.heap.size ≤ k → ok k) :
    Calls Try.prog 80 #[v, .int .i64 i, .slice (some ⟨vb, 0, none⟩) 1 1] w fun e w' => ∃ v', e = .returned v' ∧ Kd.R k45 45 w' base ok v' (l.take i ++ [x] ++ l.drop i) ∧ w.grownBy w' v.ownBlock := by
  by_cases he : i = l.length
  · subst he
    rw [List.take_length, List.drop_length, List.append_nil]
    exact impl_withFile.insert_end l v x vb base ok w hR hv hn hbase hfresh
  · rcases R_rows (enc := en45) en45_len en45_M hR with ⟨_, rfl⟩ | ⟨g, c, rest, rfl, hbg, hokg, hcap, hmx, hrow, hrl⟩
    · simp at hi he; omega
    have hlen : (l.take i ++ [x] ++ l.drop i).length = l.length + 1 := by simp; omega
    by_cases hroom : l.length + 1 ≤ c
    · refine (impl_withFile.insert_shift l g c i rest x vb w (by omega) hroom (by unfold maxLen at hmx; omega) hrow hrl hv (hvn g rfl)).mono ?_
      rintro e w' ⟨rfl, h1, h2⟩
      refine ⟨_, rfl, ?_, h2⟩
      rw [← hlen]
      exact R_of_rows en45_len en45_mk hbg hokg (by omega) hmx h1 (by rw [hlen, List.length_drop, hrl]; have e3 : k45.sz = 3 := rfl; rw [e3]; omega)
    · refine (impl_withFile.insert_grow l g c i rest x vb w (by omega) hn hcap (by omega) hrow hv).mono ?_
      rintro e w' ⟨G, rest', rfl, h1, h2, h3, h4, h5⟩
      refine ⟨_, rfl, ?_, grown_of_below h5 _⟩
      rw [← hlen]
      exact R_of_rows en45_len en45_mk hbase (hfresh _ (Nat.le_refl _)) (by omega) h2 h4 (by rw [hlen]; exact h3)
def impl_withFile.at_ (s : ByteArray) : List S45 → Nat
  | [] => 0
  | x :: r => if (Op.bytesLess x.f0.toList s.toList) = true then impl_withFile.at_ s r + 1 else 0
def impl_withFile.f (l0_0 : List S45) (a1_0 : ByteArray) (a1_1 : ByteArray) (a1_2 : Int) : Option (List S45) := (impl_withoutFile.f l0_0 a1_0).bind fun l => if l.length < 1000000 then some (l.take (impl_withFile.at_ a1_0 l) ++ [⟨a1_0, a1_1, a1_2⟩] ++ l.drop (impl_withFile.at_ a1_0 l)) else none
set_option maxHeartbeats 4000000 in
set_option maxRecDepth 100000 in
theorem impl_withFile.calls (A0_0 : Option Addr) (c0_0 : Nat) (l0_0 : List (S45)) (a1_0 : ByteArray) (a1_1 : ByteArray) (a1_2 : Int) (r : List S45) (w : World) (hr0_0 : Kd.C k45 w A0_0 l0_0.length l0_0) (hc0_0 : l0_0.length ≤ c0_0) (h : impl_withFile.f l0_0 a1_0 a1_1 a1_2 = some r) :
    Calls Try.prog 66 #[.agg #[.slice A0_0 l0_0.length c0_0], .agg #[.string a1_0, .string a1_1, .int .i64 a1_2]] w fun e w' => ∃ v0_ : Value, e = .returned (.agg #[v0_]) ∧ Kd.R k45 45 w' w.heap.size (fun _ => True) v0_ r ∧ Below w.heap.size w w' := by
  obtain ⟨l, h1, h2⟩ := Option.bind_eq_some_iff.1 h
  by_cases hn : l.length < 1000000
  · rw [if_pos hn] at h2
    obtain rfl := Option.some.inj h2
    have hu29 := Try.underlying29
    have hu45 := Try.underlying45
    have hb0 := below_alloc (below_alloc (below_alloc (Below.refl w.heap.size w) (.cells #[.slice A0_0 l0_0.length c0_0] 29)) (.cells #[.string a1_0, .string a1_1, .int .i64 a1_2] 45)) (.cells #[.slice none 0 0] 29)
    have hcp := impl_withoutFile.calls A0_0 c0_0 l0_0 a1_0 l (((w.alloc (.cells #[.slice A0_0 l0_0.length c0_0] 29)).alloc (.cells #[.string a1_0, .string a1_1, .int .i64 a1_2] 45)).alloc (.cells #[.slice none 0 0] 29)) (Kd.C_alloc (Kd.C_alloc (Kd.C_alloc hr0_0 _) _) _) hc0_0 h1
    have HB0 := Aside0.mk hb0
    clear h h1 h2 hr0_0 hc0_0 hb0
    go_enter Try.func66, Try.ntmps66
    go_wp2_with (first | (go_at_call 67; refine hcp.mono ?_; rintro e w1 ⟨v0, rfl, hR, hb1⟩; obtain ⟨Ao, co, rfl, hco, _⟩ := Kd.R_reads hR; have HR := Aside0.mk hR; have HB1 := Aside0.mk hb1; have hs1 : w1.heap.size > w.heap.size + 2 := (by have := hb1.size; simp at this; omega); have CN := Aside0.mk (pw_cell_below (below_then hb1 hb1.size (below_alloc (Below.refl _ _) (.cells #[.slice Ao l.length co] 29))) (show (((w.alloc (.cells #[.slice A0_0 l0_0.length c0_0] 29)).alloc (.cells #[.string a1_0, .string a1_1, .int .i64 a1_2] 45)).alloc (.cells #[.slice none 0 0] 29)).cell? ⟨w.heap.size + 1, 0, none⟩ = some (.string a1_0) from by go_simp)); have CN1 := Aside0.mk (pw_cell_below (below_then hb1 hb1.size (below_alloc (Below.refl _ _) (.cells #[.slice Ao l.length co] 29))) (show (((w.alloc (.cells #[.slice A0_0 l0_0.length c0_0] 29)).alloc (.cells #[.string a1_0, .string a1_1, .int .i64 a1_2] 45)).alloc (.cells #[.slice none 0 0] 29)).cell? ⟨w.heap.size + 1, 1, none⟩ = some (.string a1_1) from by go_simp)); have CN2 := Aside0.mk (pw_cell_below (below_then hb1 hb1.size (below_alloc (Below.refl _ _) (.cells #[.slice Ao l.length co] 29))) (show (((w.alloc (.cells #[.slice A0_0 l0_0.length c0_0] 29)).alloc (.cells #[.string a1_0, .string a1_1, .int .i64 a1_2] 45)).alloc (.cells #[.slice none 0 0] 29)).cell? ⟨w.heap.size + 1, 2, none⟩ = some (.int .i64 a1_2) from by go_simp)); clear hR hb1))
    obtain ⟨W2, hW2⟩ : ∃ W2, W2 = w1.alloc (.cells #[.slice Ao l.length co] 29) := ⟨_, rfl⟩
    rw [← hW2] at CN CN1 CN2 ⊢
    have CF : Aside0 (W2.heap[w1.heap.size]? = some (.cells #[.slice Ao l.length co] 29 (0, 0))) := ⟨by rw [hW2]; exact heap_alloc_new _ _⟩
    have CZ : Aside0 (W2.heap[w.heap.size + 2]? = some (.cells #[.slice none 0 0] 29 (0, 0))) := ⟨by rw [hW2]; exact ((below_alloc (Below.refl w1.heap.size w1) _).block (w.heap.size + 2) (by omega)).trans ((HB1.out.block (w.heap.size + 2) (by simp)).trans (heap3 w _ _ _))⟩
    have HR2 : Aside0 (Kd.R k45 45 W2 _ _ (.slice Ao l.length co) l) := ⟨by rw [hW2]; exact Kd.R_alloc HR.out _⟩
    have HB2 := Aside0.mk (show Below w1.heap.size w1 W2 from by rw [hW2]; exact below_alloc (Below.refl _ _) _)
    clear hW2
    go_loopg [6] l.length (fun gg s6 wr => ∃ j : Nat, j ≤ l.length ∧ l.length - j ≤ gg ∧ s6 = .int .i64 j ∧ Aside0 (Below W2.heap.size W2 wr) ∧ Aside0 (impl_withFile.at_ a1_0 (l.drop j) + j = impl_withFile.at_ a1_0 l))
    case atStart => exact ⟨0, Nat.zero_le _, by omega, rfl, ⟨Below.refl _ _⟩, ⟨rfl⟩⟩
    case round =>
      obtain ⟨j, hj, hg, rfl, BW, AT⟩ := hrel
      have cn := pw_cell_below BW.out CN.out
      have cf := pw_cell_below BW.out ((blk_cell CF.out 0).trans rfl)
      have CFW := Aside0.mk ((BW.out.block _ (blk_lt CF.out)).trans CF.out)
      have CZW := Aside0.mk ((BW.out.block _ (blk_lt CZ.out)).trans CZ.out)
      have cn1 := pw_cell_below BW.out CN1.out
      have cn2 := pw_cell_below BW.out CN2.out
      have HRW := Aside0.mk (Kd.R_below HR2.out BW.out)
      by_cases hlt : j < l.length
      · have hltz : (j : Int) < (l.length : Int) := by omega
        have hC := Kd.C_below (Kd.R_reads' HR2.out).2.2 BW.out
        obtain ⟨ad, e1, x0, x1, x2⟩ := at_T45 hC (j : Int) (by omega) hltz
        cases e1
        simp only [Int.toNat_natCast] at x0 x1 x2
        cases hq : Op.bytesLess (rd_T45 l (j : Int)).f0.toList a1_0.toList with
        | true =>
          clear hC
          go_wp2
          go_quiet (fail)
          go_wp2
          have hAT := AT.out
          rw [impl_placeOf.drop_rd l j hlt, impl_withFile.at_, if_pos hq] at hAT
          have HAT := Aside0.mk hAT
          go_roundg (l.length - (j + 1))
          case measure => omega
          case rel => exact ⟨j + 1, by omega, by omega, by go_num, ⟨pw_below_drewN BW.out _⟩, ⟨by have := HAT.out; omega⟩⟩
        | false =>
          have HAT : Aside0 (impl_withFile.at_ a1_0 l = j) := ⟨by have hAT := AT.out; rw [impl_placeOf.drop_rd l j hlt, impl_withFile.at_, if_neg (by rw [hq]; simp)] at hAT; omega⟩
          clear hC
          go_wp2
          go_quiet (fail)
          obtain ⟨res, hres⟩ : ∃ res, Aside0 (l.take j ++ [(⟨a1_0, a1_1, a1_2⟩ : S45)] ++ l.drop j = res) := ⟨_, ⟨rfl⟩⟩
          go_wp2_with (first | (go_at_call 80; refine (impl_withFile.insert l _ ⟨a1_0, a1_1, a1_2⟩ j wr.heap.size _ _ _ hj (Kd.R_alloc (Kd.R_drewN HRW.out _) _) (RowIs.new (wr.drewN _) 45 _) (fun k hk => by have := Kd.R_lt HRW.out k hk; omega) hn (by have := BW.out.size; have := HB2.out.size; simp; omega) (fun _ _ => trivial)).mono ?_; rintro e w3 ⟨v3, rfl, hR3, hg3⟩; rw [hres.out] at hR3; obtain ⟨A3, c3, rfl, hc3, _⟩ := Kd.R_reads hR3; have HBA := Aside0.mk (below_alloc (pw_below_drewN (Below.refl wr.heap.size wr) nq) (.cells #[.string a1_0, .string a1_1, .int .i64 a1_2] 45)); have bF := Aside0.mk ((hg3.block w1.heap.size (by have := BW.out.size; have := HB2.out.size; simp; have := blk_lt CF.out; omega) (Kd.R_ne HRW.out CFW.out (by decide))).trans ((HBA.out.block _ (blk_lt CFW.out)).trans CFW.out)); have bZ := Aside0.mk ((hg3.block (w.heap.size + 2) (by have := blk_lt CZW.out; simp; omega) (Kd.R_ne HRW.out CZW.out (by decide))).trans ((HBA.out.block _ (blk_lt CZW.out)).trans CZW.out)); have cF : w3.cell? ⟨w1.heap.size, 0, none⟩ = some (.slice (some ad) l.length co) := (blk_cell bF.out 0).trans rfl; have fF := blk_frozen bF.out 0; have cZ : w3.cell? ⟨w.heap.size + 1 + 1, 0, none⟩ = some (.slice none 0 0) := (blk_cell bZ.out 0).trans rfl; have fZ : w3.frozen? ⟨w.heap.size + 1 + 1, 0, none⟩ = false := blk_frozen bZ.out 0; have HR3 := Aside0.mk hR3; have HG3 := Aside0.mk hg3; have hne3 : w1.heap.size ≠ w.heap.size + 1 + 1 := (by omega); clear hR3 hg3))
          rw [HAT.out, hres.out]
          refine bodyPost_ret (results_cell_row rfl _ _ (w.heap.size + 1 + 1) 29 #[.slice A3 res.length c3] (0, 0) _ rfl (blk_put (cs := #[.slice none 0 0]) (blk_far bZ.out (p := ⟨w1.heap.size, 0, none⟩) (by show w.heap.size + 2 ≠ w1.heap.size; omega) _) 0 _ rfl) Try.underlying29 rfl (by kernel_rfl)) rfl ?_
          have hRb : ∀ k, (Value.slice (some ad) l.length co).ownBlock = some k → w.heap.size ≤ k := fun k hk => by have := Kd.R_base HR.out k hk; simp at this; omega
          have hW2 : Below w.heap.size w W2 := below_then (below_then HB0.out (by simp; omega) HB1.out) (by omega) HB2.out
          have hWr := below_then hW2 (by have := HB2.out.size; omega) BW.out
          have h3 := pw_below_grown (below_then hWr (by have := hWr.size; omega) HBA.out) _ (by have := hWr.size; simp; omega) HG3.out hRb
          have hF := blk_far bF.out (p := ⟨w.heap.size + 1 + 1, 0, none⟩) (by show w1.heap.size ≠ w.heap.size + 1 + 1; omega)
          refine ⟨_, rfl, Kd.R_lower (Kd.R_set (Kd.R_set (Kd.R_mono HR3.out (fun _ _ => trivial)) bF.out (by decide) 0 _) (blk_far bZ.out (p := ⟨w1.heap.size, 0, none⟩) (by show w.heap.size + 2 ≠ w1.heap.size; omega) _) (by decide) 0 _) (by simp; omega), below_set (below_set h3 (by omega)) (by omega)⟩
      · have hltz : ¬ (j : Int) < (l.length : Int) := by omega
        have hd : decide ((j : Int) < (l.length : Int)) = false := decide_eq_false hltz
        have hd2 : decide (j < l.length) = false := decide_eq_false hlt
        have HAT : Aside0 (impl_withFile.at_ a1_0 l = j) := ⟨by have hAT := AT.out; rw [List.drop_eq_nil_of_le (by omega), impl_withFile.at_] at hAT; omega⟩
        go_wp2
        go_quiet (fail)
        obtain ⟨res, hres⟩ : ∃ res, Aside0 (l.take j ++ [(⟨a1_0, a1_1, a1_2⟩ : S45)] ++ l.drop j = res) := ⟨_, ⟨rfl⟩⟩
        go_wp2_with (first | (go_at_call 80; refine (impl_withFile.insert l _ ⟨a1_0, a1_1, a1_2⟩ j wr.heap.size _ _ _ hj (Kd.R_alloc (Kd.R_drewN HRW.out _) _) (RowIs.new (wr.drewN _) 45 _) (fun k hk => by have := Kd.R_lt HRW.out k hk; omega) hn (by have := BW.out.size; have := HB2.out.size; simp; omega) (fun _ _ => trivial)).mono ?_; rintro e w3 ⟨v3, rfl, hR3, hg3⟩; rw [hres.out] at hR3; obtain ⟨A3, c3, rfl, hc3, _⟩ := Kd.R_reads hR3; have HBA := Aside0.mk (below_alloc (pw_below_drewN (Below.refl wr.heap.size wr) nq) (.cells #[.string a1_0, .string a1_1, .int .i64 a1_2] 45)); have bF := Aside0.mk ((hg3.block w1.heap.size (by have := BW.out.size; have := HB2.out.size; simp; have := blk_lt CF.out; omega) (Kd.R_ne HRW.out CFW.out (by decide))).trans ((HBA.out.block _ (blk_lt CFW.out)).trans CFW.out)); have bZ := Aside0.mk ((hg3.block (w.heap.size + 2) (by have := blk_lt CZW.out; simp; omega) (Kd.R_ne HRW.out CZW.out (by decide))).trans ((HBA.out.block _ (blk_lt CZW.out)).trans CZW.out)); have cF : w3.cell? ⟨w1.heap.size, 0, none⟩ = some (.slice Ao l.length co) := (blk_cell bF.out 0).trans rfl; have fF := blk_frozen bF.out 0; have cZ : w3.cell? ⟨w.heap.size + 1 + 1, 0, none⟩ = some (.slice none 0 0) := (blk_cell bZ.out 0).trans rfl; have fZ : w3.frozen? ⟨w.heap.size + 1 + 1, 0, none⟩ = false := blk_frozen bZ.out 0; have HR3 := Aside0.mk hR3; have HG3 := Aside0.mk hg3; have hne3 : w1.heap.size ≠ w.heap.size + 1 + 1 := (by omega); clear hR3 hg3))
        rw [HAT.out, hres.out]
        refine bodyPost_ret (results_cell_row rfl _ _ (w.heap.size + 1 + 1) 29 #[.slice A3 res.length c3] (0, 0) _ rfl (blk_put (cs := #[.slice none 0 0]) (blk_far bZ.out (p := ⟨w1.heap.size, 0, none⟩) (by show w.heap.size + 2 ≠ w1.heap.size; omega) _) 0 _ rfl) Try.underlying29 rfl (by kernel_rfl)) rfl ?_
        have hRb : ∀ k, (Value.slice Ao l.length co).ownBlock = some k → w.heap.size ≤ k := fun k hk => by have := Kd.R_base HR.out k hk; simp at this; omega
        have hW2 : Below w.heap.size w W2 := below_then (below_then HB0.out (by simp; omega) HB1.out) (by omega) HB2.out
        have hWr := below_then hW2 (by have := HB2.out.size; omega) BW.out
        have h3 := pw_below_grown (below_then hWr (by have := hWr.size; omega) HBA.out) _ (by have := hWr.size; simp; omega) HG3.out hRb
        have hF := blk_far bF.out (p := ⟨w.heap.size + 1 + 1, 0, none⟩) (by show w1.heap.size ≠ w.heap.size + 1 + 1; omega)
        refine ⟨_, rfl, Kd.R_lower (Kd.R_set (Kd.R_set (Kd.R_mono HR3.out (fun _ _ => trivial)) bF.out (by decide) 0 _) (blk_far bZ.out (p := ⟨w1.heap.size, 0, none⟩) (by show w.heap.size + 2 ≠ w1.heap.size; omega) _) (by decide) 0 _) (by simp; omega), below_set (below_set h3 (by omega)) (by omega)⟩
  · rw [if_neg hn] at h2
    cases h2
end

end Go.Proofs.Ythfppepnpngfmaa.Qdo
