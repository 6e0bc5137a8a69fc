-- Laid by myprint.py, a program of this session's own, over the kit's print. Not trusted: Lean checks it.
import Derived.Test.YtjmggbhgmenmcaaQcellsx0
import Derived.Test.YtjmggbhgmenmcaaQcellsx1
import Derived.Test.YtjmggbhgmenmcaaQcellsx2
import Derived.Test.YtjmggbhgmenmcaaQcellsx4
import Derived.Test.YtjmggbhgmenmcaaQcellsx5
namespace Go.Proofs.Ytjmggbhgmenmcaa.Qcells
open Go.RowKit Go.Proofs.YtjmggbhgmenmcaaW.PrintWords Go.Proofs.YtjmggbhgmenmcaaW.PrintLast Go.Proofs.YtjmggbhgmenmcaaW.PrintMore
attribute [local go_sem] max2_int min2_int max_two min_two max_three min_three max_four min_four   -- for this text's walks alone
set_option linter.unusedVariables false
set_option linter.unusedSimpArgs false

/-! ### laws_FnCellsTold: function 7 -/
def laws_FnCellsTold.f (k : Nat) (l0 : List Int) : Option (Bool) := (laws_big.f l0).bind fun t374 => (if t374 = true then (some true) else ((spec_DrawAddCell.f k l0).bind fun bt375 => ((impl_AddCell.f bt375.1 bt375.2.1 bt375.2.2).bind fun bt380 => ((spec_AddCell.f bt375.1 bt375.2.1 bt375.2.2).bind fun bt384 => ((spec_DrawSwapCell.f k l0).bind fun bt388 => ((impl_SwapCell.f k bt388.1 bt388.2.1 bt388.2.2.1 bt388.2.2.2).bind fun bt394 => ((spec_SwapCell.f bt388.1 bt388.2.1 bt388.2.2.1 bt388.2.2.2).bind fun bt398 => ((spec_DrawCells.f k l0).bind fun t402 => ((spec_DrawPlaces.f k l0).bind fun t405 => (if 0 < (t405.length : Int) then (if (t402.length : Int) = 0 then (none) else (if 1 < (t405.length : Int) then ((impl_AddCell.f t402 (Int.tmod (rd t405 0) (t402.length : Int)) (rd t405 1)).bind fun bt410 => ((impl_AddCell.f bt410.1 (Int.tmod (rd t405 0) (t402.length : Int)) (wrap64 (-(rd t405 1)))).bind fun bt416 => ((spec_DrawCellsOk.f k l0).bind fun t420 => ((laws_sameInts.f k bt380.1 bt384.1).bind fun t423 => (if t423 = true then (if bt380.2 = bt384.2 then (if (bt394.2 == bt398.2) = true then ((laws_sameInts.f k bt394.1 bt398.1).bind fun t424 => (if t424 = true then ((laws_sameInts.f k bt416.1 t402).bind fun t425 => (if t425 = true then (if 0 ≤ (Int.tmod (rd t405 0) (t402.length : Int)) then (if (Int.tmod (rd t405 0) (t402.length : Int)) < (t402.length : Int) then (if bt410.2 = (rd t402 (Int.tmod (rd t405 0) (t402.length : Int))) then ((impl_CellsOk.f k bt410.1).bind fun t428 => (if t428 = true then ((impl_CellsOk.f k t420).bind fun t429 => ((spec_CellsOk.f k t420).bind fun t430 => (some (t429 == t430)))) else (none))) else (none)) else (none)) else (none)) else (none))) else (none))) else (none)) else (none)) else (none)))))) else (none))) else (none)))))))))))
theorem laws_FnCellsTold.mono : ∀ a0 k, LeO (laws_FnCellsTold.f k a0) (laws_FnCellsTold.f (k + 1) a0) := by
 intro a0 k
 unfold laws_FnCellsTold.f
 repeat' first
   | (with_reducible exact impl_CellsOk.mono _ _)
   | (with_reducible exact impl_SwapCell.mono _ _ _ _ _)
   | (with_reducible exact laws_sameInts.mono _ _ _)
   | (with_reducible exact spec_CellsOk.mono _ _)
   | (with_reducible exact spec_DrawAddCell.mono _ _)
   | (with_reducible exact spec_DrawCells.mono _ _)
   | (with_reducible exact spec_DrawCellsOk.mono _ _)
   | (with_reducible exact spec_DrawPlaces.mono _ _)
   | (with_reducible exact spec_DrawSwapCell.mono _ _)
   | (with_reducible exact LeO.refl _)
   | (with_reducible exact LeO.none _)
   | (with_reducible refine LeO.ite ?_ ?_)
   | (with_reducible refine LeO.bind ?_ (fun _ => ?_))
   | exact impl_CellsOk.mono _ _
   | exact impl_SwapCell.mono _ _ _ _ _
   | exact laws_sameInts.mono _ _ _
   | exact spec_CellsOk.mono _ _
   | exact spec_DrawAddCell.mono _ _
   | exact spec_DrawCells.mono _ _
   | exact spec_DrawCellsOk.mono _ _
   | exact spec_DrawPlaces.mono _ _
   | exact spec_DrawSwapCell.mono _ _
   | exact LeO.none _
   | refine LeO.ite ?_ ?_
   | refine LeO.bind ?_ (fun _ => ?_)
def laws_FnCellsTold.T11 : Bool × List (List Nat × List Nat) := (true, [([], []), ([], []), ([1], [1]), ([2], [2]), ([], []), ([4], [4]), ([3, 5], [3, 5]), ([], []), ([7], [7]), ([8], [8]), ([0, 6, 9], [0, 6, 9]), ([10], [10]), ([11], [11]), ([11], [11]), ([12, 10, 0, 1, 2, 3, 4, 5, 6, 7, 8, 9, 10, 11, 12], [12]), ([13, 14, 0, 1, 2, 3, 4, 5, 6, 7, 8, 9, 10, 11, 12, 13, 14], [13])])
def laws_FnCellsTold.B11 : List Nat := [0, 0, 2, 6, 0, 16, 62, 0, 128, 384, 1023, 2047, 4095, 4095, 8191, 32767]
theorem laws_FnCellsTold.tab11 : rtab .any (opsOf Try.f7 11) = laws_FnCellsTold.T11 := by kernel_rfl
theorem laws_FnCellsTold.bits11 : waitsOk laws_FnCellsTold.T11.2 laws_FnCellsTold.B11 = true := by kernel_rfl
def laws_FnCellsTold.T12 : Bool × List (List Nat × List Nat) := (true, [([], []), ([], []), ([1], [1]), ([2], [2]), ([], []), ([4], [4]), ([3, 5], [3, 5]), ([], []), ([7], [7]), ([8], [8]), ([9], [9]), ([0, 6, 10], [0, 6, 10]), ([11], [11]), ([12], [12]), ([12], [12]), ([13, 11, 0, 1, 2, 3, 4, 5, 6, 7, 8, 9, 10, 11, 12, 13], [13]), ([14, 15, 0, 1, 2, 3, 4, 5, 6, 7, 8, 9, 10, 11, 12, 13, 14, 15], [14])])
def laws_FnCellsTold.B12 : List Nat := [0, 0, 2, 6, 0, 16, 62, 0, 128, 384, 896, 2047, 4095, 8191, 8191, 16383, 65535]
theorem laws_FnCellsTold.tab12 : rtab .any (opsOf Try.f7 12) = laws_FnCellsTold.T12 := by kernel_rfl
theorem laws_FnCellsTold.bits12 : waitsOk laws_FnCellsTold.T12.2 laws_FnCellsTold.B12 = true := by kernel_rfl
set_option maxHeartbeats 8000000 in
set_option maxRecDepth 100000 in
theorem laws_FnCellsTold.calls (k : Nat) (A0 : Option Addr) (c0 : Nat) (l0 : List Int) (r : Bool) (w : World) (hr0 : Kd.C (Kd.int .u8) w A0 l0.length l0) (hc0 : l0.length ≤ c0) (h : laws_FnCellsTold.f k l0 = some r) :
  Calls Try.prog 7 #[.slice A0 l0.length c0] w fun e w' => e = .returned (.bool r) ∧ Below w.heap.size w w' := by
 have HR0 := Aside0.mk hr0
 have HC0 := Aside0.mk hc0
 clear hr0 hc0
 have HB := Aside0.mk (Below.refl w.heap.size w)
 have H : ((laws_big.f l0).bind fun t374 => (if t374 = true then (some true) else ((spec_DrawAddCell.f k l0).bind fun bt375 => ((impl_AddCell.f bt375.1 bt375.2.1 bt375.2.2).bind fun bt380 => ((spec_AddCell.f bt375.1 bt375.2.1 bt375.2.2).bind fun bt384 => ((spec_DrawSwapCell.f k l0).bind fun bt388 => ((impl_SwapCell.f k bt388.1 bt388.2.1 bt388.2.2.1 bt388.2.2.2).bind fun bt394 => ((spec_SwapCell.f bt388.1 bt388.2.1 bt388.2.2.1 bt388.2.2.2).bind fun bt398 => ((spec_DrawCells.f k l0).bind fun t402 => ((spec_DrawPlaces.f k l0).bind fun t405 => (if 0 < (t405.length : Int) then (if (t402.length : Int) = 0 then (none) else (if 1 < (t405.length : Int) then ((impl_AddCell.f t402 (Int.tmod (rd t405 0) (t402.length : Int)) (rd t405 1)).bind fun bt410 => ((impl_AddCell.f bt410.1 (Int.tmod (rd t405 0) (t402.length : Int)) (wrap64 (-(rd t405 1)))).bind fun bt416 => ((spec_DrawCellsOk.f k l0).bind fun t420 => ((laws_sameInts.f k bt380.1 bt384.1).bind fun t423 => (if t423 = true then (if bt380.2 = bt384.2 then (if (bt394.2 == bt398.2) = true then ((laws_sameInts.f k bt394.1 bt398.1).bind fun t424 => (if t424 = true then ((laws_sameInts.f k bt416.1 t402).bind fun t425 => (if t425 = true then (if 0 ≤ (Int.tmod (rd t405 0) (t402.length : Int)) then (if (Int.tmod (rd t405 0) (t402.length : Int)) < (t402.length : Int) then (if bt410.2 = (rd t402 (Int.tmod (rd t405 0) (t402.length : Int))) then ((impl_CellsOk.f k bt410.1).bind fun t428 => (if t428 = true then ((impl_CellsOk.f k t420).bind fun t429 => ((spec_CellsOk.f k t420).bind fun t430 => (some (t429 == t430)))) else (none))) else (none)) else (none)) else (none)) else (none))) else (none))) else (none)) else (none)) else (none)))))) else (none))) else (none)))))))))))) = some r := h
 clear h
 replace H := Option.bind_eq_some_iff.mp H
 obtain ⟨t374, A20, H⟩ := H
 replace H : (if t374 = true then (some true) else ((spec_DrawAddCell.f k l0).bind fun bt375 => ((impl_AddCell.f bt375.1 bt375.2.1 bt375.2.2).bind fun bt380 => ((spec_AddCell.f bt375.1 bt375.2.1 bt375.2.2).bind fun bt384 => ((spec_DrawSwapCell.f k l0).bind fun bt388 => ((impl_SwapCell.f k bt388.1 bt388.2.1 bt388.2.2.1 bt388.2.2.2).bind fun bt394 => ((spec_SwapCell.f bt388.1 bt388.2.1 bt388.2.2.1 bt388.2.2.2).bind fun bt398 => ((spec_DrawCells.f k l0).bind fun t402 => ((spec_DrawPlaces.f k l0).bind fun t405 => (if 0 < (t405.length : Int) then (if (t402.length : Int) = 0 then (none) else (if 1 < (t405.length : Int) then ((impl_AddCell.f t402 (Int.tmod (rd t405 0) (t402.length : Int)) (rd t405 1)).bind fun bt410 => ((impl_AddCell.f bt410.1 (Int.tmod (rd t405 0) (t402.length : Int)) (wrap64 (-(rd t405 1)))).bind fun bt416 => ((spec_DrawCellsOk.f k l0).bind fun t420 => ((laws_sameInts.f k bt380.1 bt384.1).bind fun t423 => (if t423 = true then (if bt380.2 = bt384.2 then (if (bt394.2 == bt398.2) = true then ((laws_sameInts.f k bt394.1 bt398.1).bind fun t424 => (if t424 = true then ((laws_sameInts.f k bt416.1 t402).bind fun t425 => (if t425 = true then (if 0 ≤ (Int.tmod (rd t405 0) (t402.length : Int)) then (if (Int.tmod (rd t405 0) (t402.length : Int)) < (t402.length : Int) then (if bt410.2 = (rd t402 (Int.tmod (rd t405 0) (t402.length : Int))) then ((impl_CellsOk.f k bt410.1).bind fun t428 => (if t428 = true then ((impl_CellsOk.f k t420).bind fun t429 => ((spec_CellsOk.f k t420).bind fun t430 => (some (t429 == t430)))) else (none))) else (none)) else (none)) else (none)) else (none))) else (none))) else (none)) else (none)) else (none)))))) else (none))) else (none))))))))))) = some r := H
 have A2 := Aside0.mk A20
 clear A20
 by_cases c3 : t374 = true
 ·
  subst c3
  have H1 : (some true) = some r := by rw [if_pos rfl] at H; exact H
  clear H
  have H := H1
  clear H1
  obtain rfl := Option.some.inj H
  go_enter Try.func7, Try.ntmps7
  go_wp2_with (first | ((with_reducible refine gate_callee (f := 23) rfl ?_); refine goesL_ (some 26) rfl rfl Try.func23 (by kernel_rfl) rfl #[.slice A0 l0.length c0] rfl (by (try simp only [List.map_toArray, List.map_cons, List.map_nil]); first | done | rfl | (simp only [List.length_drop, List.length_take]; rfl)) ?_; (with_reducible refine (laws_big.calls _ _ l0 true _ ?side1 ?side2 A2.out).mono ?_); (case side1 => repeat (first | exact HR0.out | (with_reducible refine Kd.C_alloc ?_ _) | (with_reducible refine Kd.C_drewN ?_ _) | (with_reducible refine Kd.C_drew ?_))); (case side2 => exact HC0.out); rintro e w' ⟨rfl, ⟨nd, rfl⟩⟩; refine ⟨_, rfl, ?_⟩))
  go_ret
  exact ⟨by first | rfl | (simp [errW_none, errW_some] <;> rfl) | (simp [*, errW_none, errW_some] <;> rfl), by repeat (first | (with_reducible first | exact HB.out | apply below_alloc | apply pw_below_drewN | apply below_drew1) | exact HB.out)⟩
 ·
  replace c3 := Bool.eq_false_iff.mpr c3
  subst c3
  have H1 : ((spec_DrawAddCell.f k l0).bind fun bt375 => ((impl_AddCell.f bt375.1 bt375.2.1 bt375.2.2).bind fun bt380 => ((spec_AddCell.f bt375.1 bt375.2.1 bt375.2.2).bind fun bt384 => ((spec_DrawSwapCell.f k l0).bind fun bt388 => ((impl_SwapCell.f k bt388.1 bt388.2.1 bt388.2.2.1 bt388.2.2.2).bind fun bt394 => ((spec_SwapCell.f bt388.1 bt388.2.1 bt388.2.2.1 bt388.2.2.2).bind fun bt398 => ((spec_DrawCells.f k l0).bind fun t402 => ((spec_DrawPlaces.f k l0).bind fun t405 => (if 0 < (t405.length : Int) then (if (t402.length : Int) = 0 then (none) else (if 1 < (t405.length : Int) then ((impl_AddCell.f t402 (Int.tmod (rd t405 0) (t402.length : Int)) (rd t405 1)).bind fun bt410 => ((impl_AddCell.f bt410.1 (Int.tmod (rd t405 0) (t402.length : Int)) (wrap64 (-(rd t405 1)))).bind fun bt416 => ((spec_DrawCellsOk.f k l0).bind fun t420 => ((laws_sameInts.f k bt380.1 bt384.1).bind fun t423 => (if t423 = true then (if bt380.2 = bt384.2 then (if (bt394.2 == bt398.2) = true then ((laws_sameInts.f k bt394.1 bt398.1).bind fun t424 => (if t424 = true then ((laws_sameInts.f k bt416.1 t402).bind fun t425 => (if t425 = true then (if 0 ≤ (Int.tmod (rd t405 0) (t402.length : Int)) then (if (Int.tmod (rd t405 0) (t402.length : Int)) < (t402.length : Int) then (if bt410.2 = (rd t402 (Int.tmod (rd t405 0) (t402.length : Int))) then ((impl_CellsOk.f k bt410.1).bind fun t428 => (if t428 = true then ((impl_CellsOk.f k t420).bind fun t429 => ((spec_CellsOk.f k t420).bind fun t430 => (some (t429 == t430)))) else (none))) else (none)) else (none)) else (none)) else (none))) else (none))) else (none)) else (none)) else (none)))))) else (none))) else (none)))))))))) = some r := by rw [if_neg (show ¬ (false = true) by decide)] at H; exact H
  clear H
  have H := H1
  clear H1
  replace H := Option.bind_eq_some_iff.mp H
  obtain ⟨⟨t375, t376, t377⟩, A40, H⟩ := H
  replace H : ((impl_AddCell.f t375 t376 t377).bind fun bt380 => ((spec_AddCell.f t375 t376 t377).bind fun bt384 => ((spec_DrawSwapCell.f k l0).bind fun bt388 => ((impl_SwapCell.f k bt388.1 bt388.2.1 bt388.2.2.1 bt388.2.2.2).bind fun bt394 => ((spec_SwapCell.f bt388.1 bt388.2.1 bt388.2.2.1 bt388.2.2.2).bind fun bt398 => ((spec_DrawCells.f k l0).bind fun t402 => ((spec_DrawPlaces.f k l0).bind fun t405 => (if 0 < (t405.length : Int) then (if (t402.length : Int) = 0 then (none) else (if 1 < (t405.length : Int) then ((impl_AddCell.f t402 (Int.tmod (rd t405 0) (t402.length : Int)) (rd t405 1)).bind fun bt410 => ((impl_AddCell.f bt410.1 (Int.tmod (rd t405 0) (t402.length : Int)) (wrap64 (-(rd t405 1)))).bind fun bt416 => ((spec_DrawCellsOk.f k l0).bind fun t420 => ((laws_sameInts.f k bt380.1 bt384.1).bind fun t423 => (if t423 = true then (if bt380.2 = bt384.2 then (if (bt394.2 == bt398.2) = true then ((laws_sameInts.f k bt394.1 bt398.1).bind fun t424 => (if t424 = true then ((laws_sameInts.f k bt416.1 t402).bind fun t425 => (if t425 = true then (if 0 ≤ (Int.tmod (rd t405 0) (t402.length : Int)) then (if (Int.tmod (rd t405 0) (t402.length : Int)) < (t402.length : Int) then (if bt410.2 = (rd t402 (Int.tmod (rd t405 0) (t402.length : Int))) then ((impl_CellsOk.f k bt410.1).bind fun t428 => (if t428 = true then ((impl_CellsOk.f k t420).bind fun t429 => ((spec_CellsOk.f k t420).bind fun t430 => (some (t429 == t430)))) else (none))) else (none)) else (none)) else (none)) else (none))) else (none))) else (none)) else (none)) else (none)))))) else (none))) else (none))))))))) = some r := H
  have A4 := Aside0.mk A40
  clear A40
  replace H := Option.bind_eq_some_iff.mp H
  obtain ⟨⟨t380, t381⟩, A50, H⟩ := H
  replace H : ((spec_AddCell.f t375 t376 t377).bind fun bt384 => ((spec_DrawSwapCell.f k l0).bind fun bt388 => ((impl_SwapCell.f k bt388.1 bt388.2.1 bt388.2.2.1 bt388.2.2.2).bind fun bt394 => ((spec_SwapCell.f bt388.1 bt388.2.1 bt388.2.2.1 bt388.2.2.2).bind fun bt398 => ((spec_DrawCells.f k l0).bind fun t402 => ((spec_DrawPlaces.f k l0).bind fun t405 => (if 0 < (t405.length : Int) then (if (t402.length : Int) = 0 then (none) else (if 1 < (t405.length : Int) then ((impl_AddCell.f t402 (Int.tmod (rd t405 0) (t402.length : Int)) (rd t405 1)).bind fun bt410 => ((impl_AddCell.f bt410.1 (Int.tmod (rd t405 0) (t402.length : Int)) (wrap64 (-(rd t405 1)))).bind fun bt416 => ((spec_DrawCellsOk.f k l0).bind fun t420 => ((laws_sameInts.f k t380 bt384.1).bind fun t423 => (if t423 = true then (if t381 = bt384.2 then (if (bt394.2 == bt398.2) = true then ((laws_sameInts.f k bt394.1 bt398.1).bind fun t424 => (if t424 = true then ((laws_sameInts.f k bt416.1 t402).bind fun t425 => (if t425 = true then (if 0 ≤ (Int.tmod (rd t405 0) (t402.length : Int)) then (if (Int.tmod (rd t405 0) (t402.length : Int)) < (t402.length : Int) then (if bt410.2 = (rd t402 (Int.tmod (rd t405 0) (t402.length : Int))) then ((impl_CellsOk.f k bt410.1).bind fun t428 => (if t428 = true then ((impl_CellsOk.f k t420).bind fun t429 => ((spec_CellsOk.f k t420).bind fun t430 => (some (t429 == t430)))) else (none))) else (none)) else (none)) else (none)) else (none))) else (none))) else (none)) else (none)) else (none)))))) else (none))) else (none)))))))) = some r := H
  have A5 := Aside0.mk A50
  clear A50
  replace H := Option.bind_eq_some_iff.mp H
  obtain ⟨⟨t384, t385⟩, A60, H⟩ := H
  replace H : ((spec_DrawSwapCell.f k l0).bind fun bt388 => ((impl_SwapCell.f k bt388.1 bt388.2.1 bt388.2.2.1 bt388.2.2.2).bind fun bt394 => ((spec_SwapCell.f bt388.1 bt388.2.1 bt388.2.2.1 bt388.2.2.2).bind fun bt398 => ((spec_DrawCells.f k l0).bind fun t402 => ((spec_DrawPlaces.f k l0).bind fun t405 => (if 0 < (t405.length : Int) then (if (t402.length : Int) = 0 then (none) else (if 1 < (t405.length : Int) then ((impl_AddCell.f t402 (Int.tmod (rd t405 0) (t402.length : Int)) (rd t405 1)).bind fun bt410 => ((impl_AddCell.f bt410.1 (Int.tmod (rd t405 0) (t402.length : Int)) (wrap64 (-(rd t405 1)))).bind fun bt416 => ((spec_DrawCellsOk.f k l0).bind fun t420 => ((laws_sameInts.f k t380 t384).bind fun t423 => (if t423 = true then (if t381 = t385 then (if (bt394.2 == bt398.2) = true then ((laws_sameInts.f k bt394.1 bt398.1).bind fun t424 => (if t424 = true then ((laws_sameInts.f k bt416.1 t402).bind fun t425 => (if t425 = true then (if 0 ≤ (Int.tmod (rd t405 0) (t402.length : Int)) then (if (Int.tmod (rd t405 0) (t402.length : Int)) < (t402.length : Int) then (if bt410.2 = (rd t402 (Int.tmod (rd t405 0) (t402.length : Int))) then ((impl_CellsOk.f k bt410.1).bind fun t428 => (if t428 = true then ((impl_CellsOk.f k t420).bind fun t429 => ((spec_CellsOk.f k t420).bind fun t430 => (some (t429 == t430)))) else (none))) else (none)) else (none)) else (none)) else (none))) else (none))) else (none)) else (none)) else (none)))))) else (none))) else (none))))))) = some r := H
  have A6 := Aside0.mk A60
  clear A60
  replace H := Option.bind_eq_some_iff.mp H
  obtain ⟨⟨t388, t389, t390, t391⟩, A70, H⟩ := H
  replace H : ((impl_SwapCell.f k t388 t389 t390 t391).bind fun bt394 => ((spec_SwapCell.f t388 t389 t390 t391).bind fun bt398 => ((spec_DrawCells.f k l0).bind fun t402 => ((spec_DrawPlaces.f k l0).bind fun t405 => (if 0 < (t405.length : Int) then (if (t402.length : Int) = 0 then (none) else (if 1 < (t405.length : Int) then ((impl_AddCell.f t402 (Int.tmod (rd t405 0) (t402.length : Int)) (rd t405 1)).bind fun bt410 => ((impl_AddCell.f bt410.1 (Int.tmod (rd t405 0) (t402.length : Int)) (wrap64 (-(rd t405 1)))).bind fun bt416 => ((spec_DrawCellsOk.f k l0).bind fun t420 => ((laws_sameInts.f k t380 t384).bind fun t423 => (if t423 = true then (if t381 = t385 then (if (bt394.2 == bt398.2) = true then ((laws_sameInts.f k bt394.1 bt398.1).bind fun t424 => (if t424 = true then ((laws_sameInts.f k bt416.1 t402).bind fun t425 => (if t425 = true then (if 0 ≤ (Int.tmod (rd t405 0) (t402.length : Int)) then (if (Int.tmod (rd t405 0) (t402.length : Int)) < (t402.length : Int) then (if bt410.2 = (rd t402 (Int.tmod (rd t405 0) (t402.length : Int))) then ((impl_CellsOk.f k bt410.1).bind fun t428 => (if t428 = true then ((impl_CellsOk.f k t420).bind fun t429 => ((spec_CellsOk.f k t420).bind fun t430 => (some (t429 == t430)))) else (none))) else (none)) else (none)) else (none)) else (none))) else (none))) else (none)) else (none)) else (none)))))) else (none))) else (none)))))) = some r := H
  have A7 := Aside0.mk A70
  clear A70
  replace H := Option.bind_eq_some_iff.mp H
  obtain ⟨⟨t394, t395⟩, A80, H⟩ := H
  replace H : ((spec_SwapCell.f t388 t389 t390 t391).bind fun bt398 => ((spec_DrawCells.f k l0).bind fun t402 => ((spec_DrawPlaces.f k l0).bind fun t405 => (if 0 < (t405.length : Int) then (if (t402.length : Int) = 0 then (none) else (if 1 < (t405.length : Int) then ((impl_AddCell.f t402 (Int.tmod (rd t405 0) (t402.length : Int)) (rd t405 1)).bind fun bt410 => ((impl_AddCell.f bt410.1 (Int.tmod (rd t405 0) (t402.length : Int)) (wrap64 (-(rd t405 1)))).bind fun bt416 => ((spec_DrawCellsOk.f k l0).bind fun t420 => ((laws_sameInts.f k t380 t384).bind fun t423 => (if t423 = true then (if t381 = t385 then (if (t395 == bt398.2) = true then ((laws_sameInts.f k t394 bt398.1).bind fun t424 => (if t424 = true then ((laws_sameInts.f k bt416.1 t402).bind fun t425 => (if t425 = true then (if 0 ≤ (Int.tmod (rd t405 0) (t402.length : Int)) then (if (Int.tmod (rd t405 0) (t402.length : Int)) < (t402.length : Int) then (if bt410.2 = (rd t402 (Int.tmod (rd t405 0) (t402.length : Int))) then ((impl_CellsOk.f k bt410.1).bind fun t428 => (if t428 = true then ((impl_CellsOk.f k t420).bind fun t429 => ((spec_CellsOk.f k t420).bind fun t430 => (some (t429 == t430)))) else (none))) else (none)) else (none)) else (none)) else (none))) else (none))) else (none)) else (none)) else (none)))))) else (none))) else (none))))) = some r := H
  have A8 := Aside0.mk A80
  clear A80
  replace H := Option.bind_eq_some_iff.mp H
  obtain ⟨⟨t398, t399⟩, A90, H⟩ := H
  replace H : ((spec_DrawCells.f k l0).bind fun t402 => ((spec_DrawPlaces.f k l0).bind fun t405 => (if 0 < (t405.length : Int) then (if (t402.length : Int) = 0 then (none) else (if 1 < (t405.length : Int) then ((impl_AddCell.f t402 (Int.tmod (rd t405 0) (t402.length : Int)) (rd t405 1)).bind fun bt410 => ((impl_AddCell.f bt410.1 (Int.tmod (rd t405 0) (t402.length : Int)) (wrap64 (-(rd t405 1)))).bind fun bt416 => ((spec_DrawCellsOk.f k l0).bind fun t420 => ((laws_sameInts.f k t380 t384).bind fun t423 => (if t423 = true then (if t381 = t385 then (if (t395 == t399) = true then ((laws_sameInts.f k t394 t398).bind fun t424 => (if t424 = true then ((laws_sameInts.f k bt416.1 t402).bind fun t425 => (if t425 = true then (if 0 ≤ (Int.tmod (rd t405 0) (t402.length : Int)) then (if (Int.tmod (rd t405 0) (t402.length : Int)) < (t402.length : Int) then (if bt410.2 = (rd t402 (Int.tmod (rd t405 0) (t402.length : Int))) then ((impl_CellsOk.f k bt410.1).bind fun t428 => (if t428 = true then ((impl_CellsOk.f k t420).bind fun t429 => ((spec_CellsOk.f k t420).bind fun t430 => (some (t429 == t430)))) else (none))) else (none)) else (none)) else (none)) else (none))) else (none))) else (none)) else (none)) else (none)))))) else (none))) else (none)))) = some r := H
  have A9 := Aside0.mk A90
  clear A90
  replace H := Option.bind_eq_some_iff.mp H
  obtain ⟨t402, A100, H⟩ := H
  replace H : ((spec_DrawPlaces.f k l0).bind fun t405 => (if 0 < (t405.length : Int) then (if (t402.length : Int) = 0 then (none) else (if 1 < (t405.length : Int) then ((impl_AddCell.f t402 (Int.tmod (rd t405 0) (t402.length : Int)) (rd t405 1)).bind fun bt410 => ((impl_AddCell.f bt410.1 (Int.tmod (rd t405 0) (t402.length : Int)) (wrap64 (-(rd t405 1)))).bind fun bt416 => ((spec_DrawCellsOk.f k l0).bind fun t420 => ((laws_sameInts.f k t380 t384).bind fun t423 => (if t423 = true then (if t381 = t385 then (if (t395 == t399) = true then ((laws_sameInts.f k t394 t398).bind fun t424 => (if t424 = true then ((laws_sameInts.f k bt416.1 t402).bind fun t425 => (if t425 = true then (if 0 ≤ (Int.tmod (rd t405 0) (t402.length : Int)) then (if (Int.tmod (rd t405 0) (t402.length : Int)) < (t402.length : Int) then (if bt410.2 = (rd t402 (Int.tmod (rd t405 0) (t402.length : Int))) then ((impl_CellsOk.f k bt410.1).bind fun t428 => (if t428 = true then ((impl_CellsOk.f k t420).bind fun t429 => ((spec_CellsOk.f k t420).bind fun t430 => (some (t429 == t430)))) else (none))) else (none)) else (none)) else (none)) else (none))) else (none))) else (none)) else (none)) else (none)))))) else (none))) else (none))) = some r := H
  have A10 := Aside0.mk A100
  clear A100
  replace H := Option.bind_eq_some_iff.mp H
  obtain ⟨t405, A110, H⟩ := H
  replace H : (if 0 < (t405.length : Int) then (if (t402.length : Int) = 0 then (none) else (if 1 < (t405.length : Int) then ((impl_AddCell.f t402 (Int.tmod (rd t405 0) (t402.length : Int)) (rd t405 1)).bind fun bt410 => ((impl_AddCell.f bt410.1 (Int.tmod (rd t405 0) (t402.length : Int)) (wrap64 (-(rd t405 1)))).bind fun bt416 => ((spec_DrawCellsOk.f k l0).bind fun t420 => ((laws_sameInts.f k t380 t384).bind fun t423 => (if t423 = true then (if t381 = t385 then (if (t395 == t399) = true then ((laws_sameInts.f k t394 t398).bind fun t424 => (if t424 = true then ((laws_sameInts.f k bt416.1 t402).bind fun t425 => (if t425 = true then (if 0 ≤ (Int.tmod (rd t405 0) (t402.length : Int)) then (if (Int.tmod (rd t405 0) (t402.length : Int)) < (t402.length : Int) then (if bt410.2 = (rd t402 (Int.tmod (rd t405 0) (t402.length : Int))) then ((impl_CellsOk.f k bt410.1).bind fun t428 => (if t428 = true then ((impl_CellsOk.f k t420).bind fun t429 => ((spec_CellsOk.f k t420).bind fun t430 => (some (t429 == t430)))) else (none))) else (none)) else (none)) else (none)) else (none))) else (none))) else (none)) else (none)) else (none)))))) else (none))) else (none)) = some r := H
  have A11 := Aside0.mk A110
  clear A110
  by_cases c12 : 0 < (t405.length : Int)
  ·
   rw [if_pos c12] at H
   have c12b0 : decide (0 < (t405.length : Int)) = true := decide_eq_true c12
   have c12b1 : decide (0 < t405.length) = true := decide_eq_true (by omega)
   clear c12
   by_cases c13 : (t402.length : Int) = 0
   ·
    rw [if_pos c13] at H
    exact absurd H (by simp)
   ·
    rw [if_neg c13] at H
    have c13b0 : ((t402.length : Int) == 0) = false := beq_eq_false_iff_ne.mpr c13
    have c13b1 : ((t402.length : Int) != 0) = true := bne_iff_ne.mpr c13
    have c13b2 : ¬ (t402 = []) := fun h_ => c13 (by rw [h_]; rfl)
    by_cases c14 : 1 < (t405.length : Int)
    ·
     rw [if_pos c14] at H
     have c14b0 : decide (1 < (t405.length : Int)) = true := decide_eq_true c14
     have c14b1 : decide (1 < t405.length) = true := decide_eq_true (by omega)
     clear c14
     replace H := Option.bind_eq_some_iff.mp H
     obtain ⟨⟨t410, t411⟩, A150, H⟩ := H
     replace H : ((impl_AddCell.f t410 (Int.tmod (rd t405 0) (t402.length : Int)) (wrap64 (-(rd t405 1)))).bind fun bt416 => ((spec_DrawCellsOk.f k l0).bind fun t420 => ((laws_sameInts.f k t380 t384).bind fun t423 => (if t423 = true then (if t381 = t385 then (if (t395 == t399) = true then ((laws_sameInts.f k t394 t398).bind fun t424 => (if t424 = true then ((laws_sameInts.f k bt416.1 t402).bind fun t425 => (if t425 = true then (if 0 ≤ (Int.tmod (rd t405 0) (t402.length : Int)) then (if (Int.tmod (rd t405 0) (t402.length : Int)) < (t402.length : Int) then (if t411 = (rd t402 (Int.tmod (rd t405 0) (t402.length : Int))) then ((impl_CellsOk.f k t410).bind fun t428 => (if t428 = true then ((impl_CellsOk.f k t420).bind fun t429 => ((spec_CellsOk.f k t420).bind fun t430 => (some (t429 == t430)))) else (none))) else (none)) else (none)) else (none)) else (none))) else (none))) else (none)) else (none)) else (none))))) = some r := H
     have A15 := Aside0.mk A150
     clear A150
     replace H := Option.bind_eq_some_iff.mp H
     obtain ⟨⟨t416, t417⟩, A160, H⟩ := H
     replace H : ((spec_DrawCellsOk.f k l0).bind fun t420 => ((laws_sameInts.f k t380 t384).bind fun t423 => (if t423 = true then (if t381 = t385 then (if (t395 == t399) = true then ((laws_sameInts.f k t394 t398).bind fun t424 => (if t424 = true then ((laws_sameInts.f k t416 t402).bind fun t425 => (if t425 = true then (if 0 ≤ (Int.tmod (rd t405 0) (t402.length : Int)) then (if (Int.tmod (rd t405 0) (t402.length : Int)) < (t402.length : Int) then (if t411 = (rd t402 (Int.tmod (rd t405 0) (t402.length : Int))) then ((impl_CellsOk.f k t410).bind fun t428 => (if t428 = true then ((impl_CellsOk.f k t420).bind fun t429 => ((spec_CellsOk.f k t420).bind fun t430 => (some (t429 == t430)))) else (none))) else (none)) else (none)) else (none)) else (none))) else (none))) else (none)) else (none)) else (none)))) = some r := H
     have A16 := Aside0.mk A160
     clear A160
     replace H := Option.bind_eq_some_iff.mp H
     obtain ⟨t420, A170, H⟩ := H
     replace H : ((laws_sameInts.f k t380 t384).bind fun t423 => (if t423 = true then (if t381 = t385 then (if (t395 == t399) = true then ((laws_sameInts.f k t394 t398).bind fun t424 => (if t424 = true then ((laws_sameInts.f k t416 t402).bind fun t425 => (if t425 = true then (if 0 ≤ (Int.tmod (rd t405 0) (t402.length : Int)) then (if (Int.tmod (rd t405 0) (t402.length : Int)) < (t402.length : Int) then (if t411 = (rd t402 (Int.tmod (rd t405 0) (t402.length : Int))) then ((impl_CellsOk.f k t410).bind fun t428 => (if t428 = true then ((impl_CellsOk.f k t420).bind fun t429 => ((spec_CellsOk.f k t420).bind fun t430 => (some (t429 == t430)))) else (none))) else (none)) else (none)) else (none)) else (none))) else (none))) else (none)) else (none)) else (none))) = some r := H
     have A17 := Aside0.mk A170
     clear A170
     replace H := Option.bind_eq_some_iff.mp H
     obtain ⟨t423, A180, H⟩ := H
     replace H : (if t423 = true then (if t381 = t385 then (if (t395 == t399) = true then ((laws_sameInts.f k t394 t398).bind fun t424 => (if t424 = true then ((laws_sameInts.f k t416 t402).bind fun t425 => (if t425 = true then (if 0 ≤ (Int.tmod (rd t405 0) (t402.length : Int)) then (if (Int.tmod (rd t405 0) (t402.length : Int)) < (t402.length : Int) then (if t411 = (rd t402 (Int.tmod (rd t405 0) (t402.length : Int))) then ((impl_CellsOk.f k t410).bind fun t428 => (if t428 = true then ((impl_CellsOk.f k t420).bind fun t429 => ((spec_CellsOk.f k t420).bind fun t430 => (some (t429 == t430)))) else (none))) else (none)) else (none)) else (none)) else (none))) else (none))) else (none)) else (none)) else (none)) = some r := H
     have A18 := Aside0.mk A180
     clear A180
     by_cases c19 : t423 = true
     ·
      subst c19
      have H1 : (if t381 = t385 then (if (t395 == t399) = true then ((laws_sameInts.f k t394 t398).bind fun t424 => (if t424 = true then ((laws_sameInts.f k t416 t402).bind fun t425 => (if t425 = true then (if 0 ≤ (Int.tmod (rd t405 0) (t402.length : Int)) then (if (Int.tmod (rd t405 0) (t402.length : Int)) < (t402.length : Int) then (if t411 = (rd t402 (Int.tmod (rd t405 0) (t402.length : Int))) then ((impl_CellsOk.f k t410).bind fun t428 => (if t428 = true then ((impl_CellsOk.f k t420).bind fun t429 => ((spec_CellsOk.f k t420).bind fun t430 => (some (t429 == t430)))) else (none))) else (none)) else (none)) else (none)) else (none))) else (none))) else (none)) else (none)) = some r := by rw [if_pos rfl] at H; exact H
      clear H
      have H := H1
      clear H1
      by_cases c20 : t381 = t385
      ·
       rw [if_pos c20] at H
       have c20b0 : (t381 == t385) = true := beq_iff_eq.mpr c20
       have c20b1 : (t381 != t385) = false := bne_eq_false_iff_eq.mpr c20
       clear c20
       by_cases c21 : (t395 == t399) = true
       ·
        rw [if_pos c21] at H
        have c21b0 : (t395 == t399) = true := c21
        (try (have c21b1 : decide (t395 = t399) = true := by simpa using c21))
        (try (have c21b2 : (t395 == t399) = true := by simpa using c21))
        clear c21
        replace H := Option.bind_eq_some_iff.mp H
        obtain ⟨t424, A220, H⟩ := H
        replace H : (if t424 = true then ((laws_sameInts.f k t416 t402).bind fun t425 => (if t425 = true then (if 0 ≤ (Int.tmod (rd t405 0) (t402.length : Int)) then (if (Int.tmod (rd t405 0) (t402.length : Int)) < (t402.length : Int) then (if t411 = (rd t402 (Int.tmod (rd t405 0) (t402.length : Int))) then ((impl_CellsOk.f k t410).bind fun t428 => (if t428 = true then ((impl_CellsOk.f k t420).bind fun t429 => ((spec_CellsOk.f k t420).bind fun t430 => (some (t429 == t430)))) else (none))) else (none)) else (none)) else (none)) else (none))) else (none)) = some r := H
        have A22 := Aside0.mk A220
        clear A220
        by_cases c23 : t424 = true
        ·
         subst c23
         have H1 : ((laws_sameInts.f k t416 t402).bind fun t425 => (if t425 = true then (if 0 ≤ (Int.tmod (rd t405 0) (t402.length : Int)) then (if (Int.tmod (rd t405 0) (t402.length : Int)) < (t402.length : Int) then (if t411 = (rd t402 (Int.tmod (rd t405 0) (t402.length : Int))) then ((impl_CellsOk.f k t410).bind fun t428 => (if t428 = true then ((impl_CellsOk.f k t420).bind fun t429 => ((spec_CellsOk.f k t420).bind fun t430 => (some (t429 == t430)))) else (none))) else (none)) else (none)) else (none)) else (none))) = some r := by rw [if_pos rfl] at H; exact H
         clear H
         have H := H1
         clear H1
         replace H := Option.bind_eq_some_iff.mp H
         obtain ⟨t425, A240, H⟩ := H
         replace H : (if t425 = true then (if 0 ≤ (Int.tmod (rd t405 0) (t402.length : Int)) then (if (Int.tmod (rd t405 0) (t402.length : Int)) < (t402.length : Int) then (if t411 = (rd t402 (Int.tmod (rd t405 0) (t402.length : Int))) then ((impl_CellsOk.f k t410).bind fun t428 => (if t428 = true then ((impl_CellsOk.f k t420).bind fun t429 => ((spec_CellsOk.f k t420).bind fun t430 => (some (t429 == t430)))) else (none))) else (none)) else (none)) else (none)) else (none)) = some r := H
         have A24 := Aside0.mk A240
         clear A240
         by_cases c25 : t425 = true
         ·
          subst c25
          have H1 : (if 0 ≤ (Int.tmod (rd t405 0) (t402.length : Int)) then (if (Int.tmod (rd t405 0) (t402.length : Int)) < (t402.length : Int) then (if t411 = (rd t402 (Int.tmod (rd t405 0) (t402.length : Int))) then ((impl_CellsOk.f k t410).bind fun t428 => (if t428 = true then ((impl_CellsOk.f k t420).bind fun t429 => ((spec_CellsOk.f k t420).bind fun t430 => (some (t429 == t430)))) else (none))) else (none)) else (none)) else (none)) = some r := by rw [if_pos rfl] at H; exact H
          clear H
          have H := H1
          clear H1
          obtain ⟨ji26, hji26⟩ : ∃ j_ : Int, (Int.tmod (rd t405 0) (t402.length : Int)) = j_ := ⟨_, rfl⟩
          replace H : (if 0 ≤ (ji26) then (if (ji26) < (t402.length : Int) then (if t411 = (rd t402 (ji26)) then ((impl_CellsOk.f k t410).bind fun t428 => (if t428 = true then ((impl_CellsOk.f k t420).bind fun t429 => ((spec_CellsOk.f k t420).bind fun t430 => (some (t429 == t430)))) else (none))) else (none)) else (none)) else (none)) = some r := by first | (rw [hji26] at H; exact H) | (simp only [hji26] at H ⊢; exact H)
          (try rw [hji26] at A2)
          (try rw [hji26] at A4)
          (try rw [hji26] at A5)
          (try rw [hji26] at A6)
          (try rw [hji26] at A7)
          (try rw [hji26] at A8)
          (try rw [hji26] at A9)
          (try rw [hji26] at A10)
          (try rw [hji26] at A11)
          (try rw [hji26] at A15)
          (try rw [hji26] at A16)
          (try rw [hji26] at A17)
          (try rw [hji26] at A18)
          (try rw [hji26] at A22)
          (try rw [hji26] at A24)
          by_cases c27 : 0 ≤ (ji26)
          ·
           rw [if_pos c27] at H
           have c27b0 : decide (0 ≤ (ji26)) = true := decide_eq_true c27
           clear c27
           by_cases c28 : (ji26) < (t402.length : Int)
           ·
            rw [if_pos c28] at H
            have c28b0 : decide ((ji26) < (t402.length : Int)) = true := decide_eq_true c28
            clear c28
            by_cases c29 : t411 = (rd t402 (ji26))
            ·
             rw [if_pos c29] at H
             have c29b0 : (t411 == (rd t402 (ji26))) = true := beq_iff_eq.mpr c29
             have c29b1 : (t411 != (rd t402 (ji26))) = false := bne_eq_false_iff_eq.mpr c29
             clear c29
             replace H := Option.bind_eq_some_iff.mp H
             obtain ⟨t428, A300, H⟩ := H
             replace H : (if t428 = true then ((impl_CellsOk.f k t420).bind fun t429 => ((spec_CellsOk.f k t420).bind fun t430 => (some (t429 == t430)))) else (none)) = some r := H
             have A30 := Aside0.mk A300
             clear A300
             by_cases c31 : t428 = true
             ·
              subst c31
              have H1 : ((impl_CellsOk.f k t420).bind fun t429 => ((spec_CellsOk.f k t420).bind fun t430 => (some (t429 == t430)))) = some r := by rw [if_pos rfl] at H; exact H
              clear H
              have H := H1
              clear H1
              replace H := Option.bind_eq_some_iff.mp H
              obtain ⟨t429, A320, H⟩ := H
              replace H : ((spec_CellsOk.f k t420).bind fun t430 => (some (t429 == t430))) = some r := H
              have A32 := Aside0.mk A320
              clear A320
              replace H := Option.bind_eq_some_iff.mp H
              obtain ⟨t430, A330, H⟩ := H
              replace H : (some (t429 == t430)) = some r := H
              have A33 := Aside0.mk A330
              clear A330
              obtain rfl := Option.some.inj H
              go_enter Try.func7, Try.ntmps7
              try go_wp2_with (first | ((with_reducible refine gate_callee (f := 23) rfl ?_); refine goesL_ (some 26) rfl rfl Try.func23 (by kernel_rfl) rfl #[.slice A0 l0.length c0] rfl (by (try simp only [List.map_toArray, List.map_cons, List.map_nil]); first | done | rfl | (simp only [List.length_drop, List.length_take]; rfl)) ?_; (with_reducible refine (laws_big.calls _ _ l0 false _ ?side1 ?side2 A2.out).mono ?_); (case side1 => repeat (first | exact HR0.out | (with_reducible refine Kd.C_alloc ?_ _) | (with_reducible refine Kd.C_drewN ?_ _) | (with_reducible refine Kd.C_drew ?_))); (case side2 => exact HC0.out); rintro e w' ⟨rfl, ⟨nd, rfl⟩⟩; refine ⟨_, rfl, ?_⟩) | ((with_reducible refine gate_callee (f := 29) rfl ?_); refine goesL_ (some 29) rfl rfl Try.func29 (by kernel_rfl) rfl #[.slice A0 l0.length c0] rfl (by (try simp only [List.map_toArray, List.map_cons, List.map_nil]); first | done | rfl | (simp only [List.length_drop, List.length_take]; rfl)) ?_; (with_reducible refine (spec_DrawAddCell.calls k _ _ l0 t375 t376 t377 _ ?side1 ?side2 A4.out).mono ?_); (case side1 => repeat (first | exact HR0.out | (with_reducible refine Kd.C_alloc ?_ _) | (with_reducible refine Kd.C_drewN ?_ _) | (with_reducible refine Kd.C_drew ?_))); (case side2 => exact HC0.out); rintro e w34 ⟨v378, rfl, ho0, hb⟩; refine ⟨_, rfl, ?_⟩; have n0_ := Aside0.mk (Kd.R_lower ho0 (below_size (by repeat (first | (with_reducible first | exact HB.out | apply below_alloc | apply pw_below_drewN | apply below_drew1) | exact HB.out)))); have n1_ := Aside0.mk (below_step (by repeat (first | (with_reducible first | exact HB.out | apply below_alloc | apply pw_below_drewN | apply below_drew1) | exact HB.out)) hb); clear HB; have HO379 := n0_; have HB := n1_; clear n0_ n1_; (try clear hb); (try clear hb2); (try clear hk); (try clear hi); (try clear ho0); obtain ⟨Ao35, co35, eo35⟩ := Kd.R_slice HO379.out; subst eo35) | ((with_reducible refine gate_callee (f := 20) rfl ?_); refine goesL_ (some 37) rfl rfl Try.func20 (by kernel_rfl) rfl #[.slice Ao35 t375.length co35, .int .i64 t376, .int .i64 t377] rfl (by (try simp only [List.map_toArray, List.map_cons, List.map_nil]); first | done | rfl | (simp only [List.length_drop, List.length_take]; rfl)) ?_; (with_reducible refine (impl_AddCell.calls _ _ t375 t376 t377 t380 t381 _ ?side1 ?side2 A5.out).mono ?_); (case side1 => repeat (first | exact (Kd.R_reads' HO379.out).2.2 | (with_reducible refine Kd.C_alloc ?_ _) | (with_reducible refine Kd.C_drewN ?_ _) | (with_reducible refine Kd.C_drew ?_))); (case side2 => exact (Kd.R_reads' HO379.out).2.1); rintro e w36 ⟨v382, rfl, ho0, hb⟩; refine ⟨_, rfl, ?_⟩; have n0_ := Aside0.mk (Kd.R_elder' (by (with_reducible repeat (first | apply Kd.R_alloc | apply Kd.R_drewN | apply Kd.R_drew)); exact HO379.out) (Kd.R_base ho0) hb); have n1_ := Aside0.mk (Kd.R_lower (Kd.R_new' ho0 (Kd.R_lt (by (with_reducible repeat (first | apply Kd.R_alloc | apply Kd.R_drewN | apply Kd.R_drew)); exact HO379.out))) (below_size (by repeat (first | (with_reducible first | exact HB.out | apply below_alloc | apply pw_below_drewN | apply below_drew1) | exact HB.out)))); have n2_ := Aside0.mk (below_step (by repeat (first | (with_reducible first | exact HB.out | apply below_alloc | apply pw_below_drewN | apply below_drew1) | exact HB.out)) hb); clear HO379; clear HB; have HO379 := n0_; have HO383 := n1_; have HB := n2_; clear n0_ n1_ n2_; (try clear hb); (try clear hb2); (try clear hk); (try clear hi); (try clear ho0)) | ((with_reducible refine gate_callee (f := 19) rfl ?_); refine goesL_ (some 44) rfl rfl Try.func19 (by kernel_rfl) rfl #[.slice Ao35 t375.length co35, .int .i64 t376, .int .i64 t377] rfl (by (try simp only [List.map_toArray, List.map_cons, List.map_nil]); first | done | rfl | (simp only [List.length_drop, List.length_take]; rfl)) ?_; (with_reducible refine (spec_AddCell.calls _ _ t375 t376 t377 t384 t385 _ ?side1 ?side2 A6.out).mono ?_); (case side1 => repeat (first | exact (Kd.R_reads' HO379.out).2.2 | (with_reducible refine Kd.C_alloc ?_ _) | (with_reducible refine Kd.C_drewN ?_ _) | (with_reducible refine Kd.C_drew ?_))); (case side2 => exact (Kd.R_reads' HO379.out).2.1); rintro e w37 ⟨v386, rfl, ho0, hb⟩; refine ⟨_, rfl, ?_⟩; have n0_ := Aside0.mk (Kd.R_elder' (by (with_reducible repeat (first | apply Kd.R_alloc | apply Kd.R_drewN | apply Kd.R_drew)); exact HO379.out) (Kd.R_base ho0) hb); have n1_ := Aside0.mk (Kd.R_elder' (by (with_reducible repeat (first | apply Kd.R_alloc | apply Kd.R_drewN | apply Kd.R_drew)); exact HO383.out) (Kd.R_base ho0) hb); have n2_ := Aside0.mk (Kd.R_lower (Kd.R_new' (Kd.R_new' ho0 (Kd.R_lt (by (with_reducible repeat (first | apply Kd.R_alloc | apply Kd.R_drewN | apply Kd.R_drew)); exact HO379.out))) (Kd.R_lt (by (with_reducible repeat (first | apply Kd.R_alloc | apply Kd.R_drewN | apply Kd.R_drew)); exact HO383.out))) (below_size (by repeat (first | (with_reducible first | exact HB.out | apply below_alloc | apply pw_below_drewN | apply below_drew1) | exact HB.out)))); have n3_ := Aside0.mk (below_step (by repeat (first | (with_reducible first | exact HB.out | apply below_alloc | apply pw_below_drewN | apply below_drew1) | exact HB.out)) hb); clear HO379; clear HO383; clear HB; have HO379 := n0_; have HO383 := n1_; have HO387 := n2_; have HB := n3_; clear n0_ n1_ n2_ n3_; (try clear hb); (try clear hb2); (try clear hk); (try clear hi); (try clear ho0)) | ((with_reducible refine gate_callee (f := 30) rfl ?_); refine goesL_ (some 49) rfl rfl Try.func30 (by kernel_rfl) rfl #[.slice A0 l0.length c0] rfl (by (try simp only [List.map_toArray, List.map_cons, List.map_nil]); first | done | rfl | (simp only [List.length_drop, List.length_take]; rfl)) ?_; (with_reducible refine (spec_DrawSwapCell.calls k _ _ l0 t388 t389 t390 t391 _ ?side1 ?side2 A7.out).mono ?_); (case side1 => repeat (first | exact (Kd.C_below HR0.out HB.out) | (with_reducible refine Kd.C_alloc ?_ _) | (with_reducible refine Kd.C_drewN ?_ _) | (with_reducible refine Kd.C_drew ?_))); (case side2 => exact HC0.out); rintro e w38 ⟨v392, rfl, ho0, hb⟩; refine ⟨_, rfl, ?_⟩; have n0_ := Aside0.mk (Kd.R_elder' (by (with_reducible repeat (first | apply Kd.R_alloc | apply Kd.R_drewN | apply Kd.R_drew)); exact HO379.out) (Kd.R_base ho0) hb); have n1_ := Aside0.mk (Kd.R_elder' (by (with_reducible repeat (first | apply Kd.R_alloc | apply Kd.R_drewN | apply Kd.R_drew)); exact HO383.out) (Kd.R_base ho0) hb); have n2_ := Aside0.mk (Kd.R_elder' (by (with_reducible repeat (first | apply Kd.R_alloc | apply Kd.R_drewN | apply Kd.R_drew)); exact HO387.out) (Kd.R_base ho0) hb); have n3_ := Aside0.mk (Kd.R_lower (Kd.R_new' (Kd.R_new' (Kd.R_new' ho0 (Kd.R_lt (by (with_reducible repeat (first | apply Kd.R_alloc | apply Kd.R_drewN | apply Kd.R_drew)); exact HO379.out))) (Kd.R_lt (by (with_reducible repeat (first | apply Kd.R_alloc | apply Kd.R_drewN | apply Kd.R_drew)); exact HO383.out))) (Kd.R_lt (by (with_reducible repeat (first | apply Kd.R_alloc | apply Kd.R_drewN | apply Kd.R_drew)); exact HO387.out))) (below_size (by repeat (first | (with_reducible first | exact HB.out | apply below_alloc | apply pw_below_drewN | apply below_drew1) | exact HB.out)))); have n4_ := Aside0.mk (below_step (by repeat (first | (with_reducible first | exact HB.out | apply below_alloc | apply pw_below_drewN | apply below_drew1) | exact HB.out)) hb); clear HO379; clear HO383; clear HO387; clear HB; have HO379 := n0_; have HO383 := n1_; have HO387 := n2_; have HO393 := n3_; have HB := n4_; clear n0_ n1_ n2_ n3_ n4_; (try clear hb); (try clear hb2); (try clear hk); (try clear hi); (try clear ho0); obtain ⟨Ao39, co39, eo39⟩ := Kd.R_slice HO393.out; subst eo39) | ((with_reducible refine gate_callee (f := 22) rfl ?_); refine goesL_ (some 59) rfl rfl Try.func22 (by kernel_rfl) rfl #[.slice Ao39 t388.length co39, .int .i64 t389, .int .i64 t390, .int .i64 t391] rfl (by (try simp only [List.map_toArray, List.map_cons, List.map_nil]); first | done | rfl | (simp only [List.length_drop, List.length_take]; rfl)) ?_; (with_reducible refine (impl_SwapCell.calls k _ _ t388 t389 t390 t391 t394 t395 _ ?side1 ?side2 A8.out).mono ?_); (case side1 => repeat (first | exact (Kd.R_reads' HO393.out).2.2 | (with_reducible refine Kd.C_alloc ?_ _) | (with_reducible refine Kd.C_drewN ?_ _) | (with_reducible refine Kd.C_drew ?_))); (case side2 => exact (Kd.R_reads' HO393.out).2.1); rintro e w40 ⟨v396, rfl, ho0, hb⟩; refine ⟨_, rfl, ?_⟩; have n0_ := Aside0.mk (Kd.R_elder' (by (with_reducible repeat (first | apply Kd.R_alloc | apply Kd.R_drewN | apply Kd.R_drew)); exact HO379.out) (Kd.R_base ho0) hb); have n1_ := Aside0.mk (Kd.R_elder' (by (with_reducible repeat (first | apply Kd.R_alloc | apply Kd.R_drewN | apply Kd.R_drew)); exact HO383.out) (Kd.R_base ho0) hb); have n2_ := Aside0.mk (Kd.R_elder' (by (with_reducible repeat (first | apply Kd.R_alloc | apply Kd.R_drewN | apply Kd.R_drew)); exact HO387.out) (Kd.R_base ho0) hb); have n3_ := Aside0.mk (Kd.R_elder' (by (with_reducible repeat (first | apply Kd.R_alloc | apply Kd.R_drewN | apply Kd.R_drew)); exact HO393.out) (Kd.R_base ho0) hb); have n4_ := Aside0.mk (Kd.R_lower (Kd.R_new' (Kd.R_new' (Kd.R_new' (Kd.R_new' ho0 (Kd.R_lt (by (with_reducible repeat (first | apply Kd.R_alloc | apply Kd.R_drewN | apply Kd.R_drew)); exact HO379.out))) (Kd.R_lt (by (with_reducible repeat (first | apply Kd.R_alloc | apply Kd.R_drewN | apply Kd.R_drew)); exact HO383.out))) (Kd.R_lt (by (with_reducible repeat (first | apply Kd.R_alloc | apply Kd.R_drewN | apply Kd.R_drew)); exact HO387.out))) (Kd.R_lt (by (with_reducible repeat (first | apply Kd.R_alloc | apply Kd.R_drewN | apply Kd.R_drew)); exact HO393.out))) (below_size (by repeat (first | (with_reducible first | exact HB.out | apply below_alloc | apply pw_below_drewN | apply below_drew1) | exact HB.out)))); have n5_ := Aside0.mk (below_step (by repeat (first | (with_reducible first | exact HB.out | apply below_alloc | apply pw_below_drewN | apply below_drew1) | exact HB.out)) hb); clear HO379; clear HO383; clear HO387; clear HO393; clear HB; have HO379 := n0_; have HO383 := n1_; have HO387 := n2_; have HO393 := n3_; have HO397 := n4_; have HB := n5_; clear n0_ n1_ n2_ n3_ n4_ n5_; (try clear hb); (try clear hb2); (try clear hk); (try clear hi); (try clear ho0)) | ((with_reducible refine gate_callee (f := 21) rfl ?_); refine goesL_ (some 67) rfl rfl Try.func21 (by kernel_rfl) rfl #[.slice Ao39 t388.length co39, .int .i64 t389, .int .i64 t390, .int .i64 t391] rfl (by (try simp only [List.map_toArray, List.map_cons, List.map_nil]); first | done | rfl | (simp only [List.length_drop, List.length_take]; rfl)) ?_; (with_reducible refine (spec_SwapCell.calls _ _ t388 t389 t390 t391 t398 t399 _ ?side1 ?side2 A9.out).mono ?_); (case side1 => repeat (first | exact (Kd.R_reads' HO393.out).2.2 | (with_reducible refine Kd.C_alloc ?_ _) | (with_reducible refine Kd.C_drewN ?_ _) | (with_reducible refine Kd.C_drew ?_))); (case side2 => exact (Kd.R_reads' HO393.out).2.1); rintro e w41 ⟨v400, rfl, ho0, hb⟩; refine ⟨_, rfl, ?_⟩; have n0_ := Aside0.mk (Kd.R_elder' (by (with_reducible repeat (first | apply Kd.R_alloc | apply Kd.R_drewN | apply Kd.R_drew)); exact HO379.out) (Kd.R_base ho0) hb); have n1_ := Aside0.mk (Kd.R_elder' (by (with_reducible repeat (first | apply Kd.R_alloc | apply Kd.R_drewN | apply Kd.R_drew)); exact HO383.out) (Kd.R_base ho0) hb); have n2_ := Aside0.mk (Kd.R_elder' (by (with_reducible repeat (first | apply Kd.R_alloc | apply Kd.R_drewN | apply Kd.R_drew)); exact HO387.out) (Kd.R_base ho0) hb); have n3_ := Aside0.mk (Kd.R_elder' (by (with_reducible repeat (first | apply Kd.R_alloc | apply Kd.R_drewN | apply Kd.R_drew)); exact HO393.out) (Kd.R_base ho0) hb); have n4_ := Aside0.mk (Kd.R_elder' (by (with_reducible repeat (first | apply Kd.R_alloc | apply Kd.R_drewN | apply Kd.R_drew)); exact HO397.out) (Kd.R_base ho0) hb); have n5_ := Aside0.mk (Kd.R_lower (Kd.R_new' (Kd.R_new' (Kd.R_new' (Kd.R_new' (Kd.R_new' ho0 (Kd.R_lt (by (with_reducible repeat (first | apply Kd.R_alloc | apply Kd.R_drewN | apply Kd.R_drew)); exact HO379.out))) (Kd.R_lt (by (with_reducible repeat (first | apply Kd.R_alloc | apply Kd.R_drewN | apply Kd.R_drew)); exact HO383.out))) (Kd.R_lt (by (with_reducible repeat (first | apply Kd.R_alloc | apply Kd.R_drewN | apply Kd.R_drew)); exact HO387.out))) (Kd.R_lt (by (with_reducible repeat (first | apply Kd.R_alloc | apply Kd.R_drewN | apply Kd.R_drew)); exact HO393.out))) (Kd.R_lt (by (with_reducible repeat (first | apply Kd.R_alloc | apply Kd.R_drewN | apply Kd.R_drew)); exact HO397.out))) (below_size (by repeat (first | (with_reducible first | exact HB.out | apply below_alloc | apply pw_below_drewN | apply below_drew1) | exact HB.out)))); have n6_ := Aside0.mk (below_step (by repeat (first | (with_reducible first | exact HB.out | apply below_alloc | apply pw_below_drewN | apply below_drew1) | exact HB.out)) hb); clear HO379; clear HO383; clear HO387; clear HO393; clear HO397; clear HB; have HO379 := n0_; have HO383 := n1_; have HO387 := n2_; have HO393 := n3_; have HO397 := n4_; have HO401 := n5_; have HB := n6_; clear n0_ n1_ n2_ n3_ n4_ n5_ n6_; (try clear hb); (try clear hb2); (try clear hk); (try clear hi); (try clear ho0)) | ((with_reducible refine gate_callee (f := 24) rfl ?_); refine goesL_ (some 71) rfl rfl Try.func24 (by kernel_rfl) rfl #[.slice A0 l0.length c0] rfl (by (try simp only [List.map_toArray, List.map_cons, List.map_nil]); first | done | rfl | (simp only [List.length_drop, List.length_take]; rfl)) ?_; (with_reducible refine (spec_DrawCells.calls k _ _ l0 t402 _ ?side1 ?side2 A10.out).mono ?_); (case side1 => repeat (first | exact (Kd.C_below HR0.out HB.out) | (with_reducible refine Kd.C_alloc ?_ _) | (with_reducible refine Kd.C_drewN ?_ _) | (with_reducible refine Kd.C_drew ?_))); (case side2 => exact HC0.out); rintro e w42 ⟨v403, rfl, ho0, hb⟩; refine ⟨_, rfl, ?_⟩; have n0_ := Aside0.mk (Kd.R_elder' (by (with_reducible repeat (first | apply Kd.R_alloc | apply Kd.R_drewN | apply Kd.R_drew)); exact HO379.out) (Kd.R_base ho0) hb); have n1_ := Aside0.mk (Kd.R_elder' (by (with_reducible repeat (first | apply Kd.R_alloc | apply Kd.R_drewN | apply Kd.R_drew)); exact HO383.out) (Kd.R_base ho0) hb); have n2_ := Aside0.mk (Kd.R_elder' (by (with_reducible repeat (first | apply Kd.R_alloc | apply Kd.R_drewN | apply Kd.R_drew)); exact HO387.out) (Kd.R_base ho0) hb); have n3_ := Aside0.mk (Kd.R_elder' (by (with_reducible repeat (first | apply Kd.R_alloc | apply Kd.R_drewN | apply Kd.R_drew)); exact HO393.out) (Kd.R_base ho0) hb); have n4_ := Aside0.mk (Kd.R_elder' (by (with_reducible repeat (first | apply Kd.R_alloc | apply Kd.R_drewN | apply Kd.R_drew)); exact HO397.out) (Kd.R_base ho0) hb); have n5_ := Aside0.mk (Kd.R_elder' (by (with_reducible repeat (first | apply Kd.R_alloc | apply Kd.R_drewN | apply Kd.R_drew)); exact HO401.out) (Kd.R_base ho0) hb); have n6_ := Aside0.mk (Kd.R_lower (Kd.R_new' (Kd.R_new' (Kd.R_new' (Kd.R_new' (Kd.R_new' (Kd.R_new' ho0 (Kd.R_lt (by (with_reducible repeat (first | apply Kd.R_alloc | apply Kd.R_drewN | apply Kd.R_drew)); exact HO379.out))) (Kd.R_lt (by (with_reducible repeat (first | apply Kd.R_alloc | apply Kd.R_drewN | apply Kd.R_drew)); exact HO383.out))) (Kd.R_lt (by (with_reducible repeat (first | apply Kd.R_alloc | apply Kd.R_drewN | apply Kd.R_drew)); exact HO387.out))) (Kd.R_lt (by (with_reducible repeat (first | apply Kd.R_alloc | apply Kd.R_drewN | apply Kd.R_drew)); exact HO393.out))) (Kd.R_lt (by (with_reducible repeat (first | apply Kd.R_alloc | apply Kd.R_drewN | apply Kd.R_drew)); exact HO397.out))) (Kd.R_lt (by (with_reducible repeat (first | apply Kd.R_alloc | apply Kd.R_drewN | apply Kd.R_drew)); exact HO401.out))) (below_size (by repeat (first | (with_reducible first | exact HB.out | apply below_alloc | apply pw_below_drewN | apply below_drew1) | exact HB.out)))); have n7_ := Aside0.mk (below_step (by repeat (first | (with_reducible first | exact HB.out | apply below_alloc | apply pw_below_drewN | apply below_drew1) | exact HB.out)) hb); clear HO379; clear HO383; clear HO387; clear HO393; clear HO397; clear HO401; clear HB; have HO379 := n0_; have HO383 := n1_; have HO387 := n2_; have HO393 := n3_; have HO397 := n4_; have HO401 := n5_; have HO404 := n6_; have HB := n7_; clear n0_ n1_ n2_ n3_ n4_ n5_ n6_ n7_; (try clear hb); (try clear hb2); (try clear hk); (try clear hi); (try clear ho0)) | ((with_reducible refine gate_callee (f := 25) rfl ?_); refine goesL_ (some 73) rfl rfl Try.func25 (by kernel_rfl) rfl #[.slice A0 l0.length c0] rfl (by (try simp only [List.map_toArray, List.map_cons, List.map_nil]); first | done | rfl | (simp only [List.length_drop, List.length_take]; rfl)) ?_; (with_reducible refine (spec_DrawPlaces.calls k _ _ l0 t405 _ ?side1 ?side2 A11.out).mono ?_); (case side1 => repeat (first | exact (Kd.C_below HR0.out HB.out) | (with_reducible refine Kd.C_alloc ?_ _) | (with_reducible refine Kd.C_drewN ?_ _) | (with_reducible refine Kd.C_drew ?_))); (case side2 => exact HC0.out); rintro e w43 ⟨v406, rfl, ho0, hb⟩; refine ⟨_, rfl, ?_⟩; have n0_ := Aside0.mk (Kd.R_elder' (by (with_reducible repeat (first | apply Kd.R_alloc | apply Kd.R_drewN | apply Kd.R_drew)); exact HO379.out) (Kd.R_base ho0) hb); have n1_ := Aside0.mk (Kd.R_elder' (by (with_reducible repeat (first | apply Kd.R_alloc | apply Kd.R_drewN | apply Kd.R_drew)); exact HO383.out) (Kd.R_base ho0) hb); have n2_ := Aside0.mk (Kd.R_elder' (by (with_reducible repeat (first | apply Kd.R_alloc | apply Kd.R_drewN | apply Kd.R_drew)); exact HO387.out) (Kd.R_base ho0) hb); have n3_ := Aside0.mk (Kd.R_elder' (by (with_reducible repeat (first | apply Kd.R_alloc | apply Kd.R_drewN | apply Kd.R_drew)); exact HO393.out) (Kd.R_base ho0) hb); have n4_ := Aside0.mk (Kd.R_elder' (by (with_reducible repeat (first | apply Kd.R_alloc | apply Kd.R_drewN | apply Kd.R_drew)); exact HO397.out) (Kd.R_base ho0) hb); have n5_ := Aside0.mk (Kd.R_elder' (by (with_reducible repeat (first | apply Kd.R_alloc | apply Kd.R_drewN | apply Kd.R_drew)); exact HO401.out) (Kd.R_base ho0) hb); have n6_ := Aside0.mk (Kd.R_elder' (by (with_reducible repeat (first | apply Kd.R_alloc | apply Kd.R_drewN | apply Kd.R_drew)); exact HO404.out) (Kd.R_base ho0) hb); have n7_ := Aside0.mk (Kd.R_lower (Kd.R_new' (Kd.R_new' (Kd.R_new' (Kd.R_new' (Kd.R_new' (Kd.R_new' (Kd.R_new' ho0 (Kd.R_lt (by (with_reducible repeat (first | apply Kd.R_alloc | apply Kd.R_drewN | apply Kd.R_drew)); exact HO379.out))) (Kd.R_lt (by (with_reducible repeat (first | apply Kd.R_alloc | apply Kd.R_drewN | apply Kd.R_drew)); exact HO383.out))) (Kd.R_lt (by (with_reducible repeat (first | apply Kd.R_alloc | apply Kd.R_drewN | apply Kd.R_drew)); exact HO387.out))) (Kd.R_lt (by (with_reducible repeat (first | apply Kd.R_alloc | apply Kd.R_drewN | apply Kd.R_drew)); exact HO393.out))) (Kd.R_lt (by (with_reducible repeat (first | apply Kd.R_alloc | apply Kd.R_drewN | apply Kd.R_drew)); exact HO397.out))) (Kd.R_lt (by (with_reducible repeat (first | apply Kd.R_alloc | apply Kd.R_drewN | apply Kd.R_drew)); exact HO401.out))) (Kd.R_lt (by (with_reducible repeat (first | apply Kd.R_alloc | apply Kd.R_drewN | apply Kd.R_drew)); exact HO404.out))) (below_size (by repeat (first | (with_reducible first | exact HB.out | apply below_alloc | apply pw_below_drewN | apply below_drew1) | exact HB.out)))); have n8_ := Aside0.mk (below_step (by repeat (first | (with_reducible first | exact HB.out | apply below_alloc | apply pw_below_drewN | apply below_drew1) | exact HB.out)) hb); clear HO379; clear HO383; clear HO387; clear HO393; clear HO397; clear HO401; clear HO404; clear HB; have HO379 := n0_; have HO383 := n1_; have HO387 := n2_; have HO393 := n3_; have HO397 := n4_; have HO401 := n5_; have HO404 := n6_; have HO407 := n7_; have HB := n8_; clear n0_ n1_ n2_ n3_ n4_ n5_ n6_ n7_ n8_; (try clear hb); (try clear hb2); (try clear hk); (try clear hi); (try clear ho0)))
              have n0_ := Aside0.mk (Kd.R_drew HO379.out)
              have n1_ := Aside0.mk (Kd.R_drew HO383.out)
              have n2_ := Aside0.mk (Kd.R_drew HO387.out)
              have n3_ := Aside0.mk (Kd.R_drew HO393.out)
              have n4_ := Aside0.mk (Kd.R_drew HO397.out)
              have n5_ := Aside0.mk (Kd.R_drew HO401.out)
              have n6_ := Aside0.mk (Kd.R_drew HO404.out)
              have n7_ := Aside0.mk (Kd.R_drew HO407.out)
              have n8_ := Aside0.mk (below_drew1 HB.out)
              clear HO379
              clear HO383
              clear HO387
              clear HO393
              clear HO397
              clear HO401
              clear HO404
              clear HO407
              clear HB
              have HO379 := n0_
              have HO383 := n1_
              have HO387 := n2_
              have HO393 := n3_
              have HO397 := n4_
              have HO401 := n5_
              have HO404 := n6_
              have HO407 := n7_
              have HB := n8_
              clear n0_ n1_ n2_ n3_ n4_ n5_ n6_ n7_ n8_
              obtain ⟨Ao45, co45, eo45⟩ := Kd.R_slice HO407.out
              (first | subst eo45 | (injection eo45 with f1_ f2_ f3_; have f4_ := f1_.symm; have f5_ := f3_.symm; clear f1_ f2_ f3_; subst f4_; subst f5_))
              have p408 : 0 ≤ (0 : Int) := (by omega)
              have q408 : 0 < (t405.length : Int) := of_decide_eq_true (by first | (with_reducible assumption) | assumption)
              obtain ⟨ad408, e408, hx408_0⟩ := Kd.at_int (Kd.R_reads' HO407.out).2.2 0 p408 q408
              cases e408
              have qi408 : (0 < t405.length) = True := eq_true (by omega)
              (try rw [show ((0 : Int)).toNat = 0 from rfl] at hx408_0)
              (try rw [Addr.add_zero'] at hx408_0)
              replace p408 := eq_true p408
              replace q408 := eq_true q408
              obtain ⟨Ao46, co46, eo46⟩ := Kd.R_slice HO404.out
              (first | subst eo46 | (injection eo46 with f1_ f2_ f3_; have f4_ := f1_.symm; have f5_ := f3_.symm; clear f1_ f2_ f3_; subst f4_; subst f5_))
              have p409 : 0 ≤ (1 : Int) := (by omega)
              have q409 : 1 < (t405.length : Int) := of_decide_eq_true (by first | (with_reducible assumption) | assumption)
              obtain ⟨ad409, e409, hx409_0⟩ := Kd.at_int (Kd.R_reads' HO407.out).2.2 1 p409 q409
              obtain rfl : ad408 = ad409 := (by injection e409)
              (try simp only [show (1 : Int).toNat = 1 from rfl, Nat.reduceMul, Nat.reduceEqDiff, Go.Addr.add, ↓reduceIte] at hx409_0)
              have qi409 : (1 < t405.length) = True := eq_true (by omega)
              (try rw [show ((1 : Int)).toNat = 1 from rfl] at hx409_0)
              replace p409 := eq_true p409
              replace q409 := eq_true q409
              refine start_ (n := 16) (S := fun w' => w'.cell? ad408 = some (.int .i64 (rd t405 0)) ∧ w'.cell? ⟨ad408.block, ad408.off + 1, none⟩ = some (.int .i64 (rd t405 1))) (ds := []) #[false, false, false, false, false, false, false, false, false, false, false, false, false, false, false, false] (by kernel_rfl) rfl rfl ⟨hx408_0, hx409_0⟩ (fun hHeld => ?_); refine with_tabW laws_FnCellsTold.tab11 laws_FnCellsTold.bits11 (fun HT_ HW_ => ?_)
              generalize w43.drew = w44 at HO379 HO383 HO387 HO393 HO397 HO401 HO404 HO407 HB hx408_0 hx409_0 hHeld ⊢
              refine pure_ (i := 0) (N := some 75) (v := ?_) (a' := ?_) #[true, false, false, false, false, false, false, false, false, false, false, false, false, false, false, false] rfl rfl (any_of HT_.out (by kernel_rfl)) (fun _ _ _ h => h) (Or.inl ⟨by rfl, ?_⟩) ?_ ?_
              rotate_left
              ·
               intro w'
               go_simp
               with_reducible rfl
              rotate_left
              ·
               simp only [Act.put, List.setIfInBounds_toArray, List.set_cons_zero, List.set_cons_succ, i64_w, i32_w]
               rfl
              refine pure_ (i := 1) (N := some 76) (v := ?_) (a' := ?_) #[true, true, false, false, false, false, false, false, false, false, false, false, false, false, false, false] rfl rfl (any_of HT_.out (by kernel_rfl)) (fun _ _ _ h => h) (Or.inl ⟨by rfl, ?_⟩) ?_ ?_
              rotate_left
              ·
               intro w'
               go_simp
               with_reducible rfl
              rotate_left
              ·
               simp only [Act.put, List.setIfInBounds_toArray, List.set_cons_zero, List.set_cons_succ, i64_w, i32_w]
               rfl
              refine pure_ (i := 2) (N := some 77) (v := ?_) (a' := ?_) #[true, true, true, false, false, false, false, false, false, false, false, false, false, false, false, false] rfl rfl (any_of HT_.out (by kernel_rfl)) (fun _ _ _ h => h) (Or.inl ⟨by rfl, ?_⟩) ?_ ?_
              rotate_left
              ·
               intro w'
               go_simp
               with_reducible rfl
              rotate_left
              ·
               simp only [Act.put, List.setIfInBounds_toArray, List.set_cons_zero, List.set_cons_succ, i64_w, i32_w]
               rfl
              refine pure_ (i := 4) (N := some 79) (v := ?_) (a' := ?_) #[true, true, true, false, true, false, false, false, false, false, false, false, false, false, false, false] rfl rfl (any_of HT_.out (by kernel_rfl)) (fun _ _ _ h => h) (Or.inl ⟨by rfl, ?_⟩) ?_ ?_
              rotate_left
              ·
               intro w'
               go_simp
               with_reducible rfl
              rotate_left
              ·
               simp only [Act.put, List.setIfInBounds_toArray, List.set_cons_zero, List.set_cons_succ, i64_w, i32_w]
               rfl
              refine pure_ (i := 5) (N := some 80) (v := ?_) (a' := ?_) #[true, true, true, false, true, true, false, false, false, false, false, false, false, false, false, false] rfl rfl (any_of HT_.out (by kernel_rfl)) (fun _ _ _ h => h) (Or.inl ⟨by rfl, ?_⟩) ?_ ?_
              rotate_left
              ·
               intro w'
               go_simp
               with_reducible rfl
              rotate_left
              ·
               simp only [Act.put, List.setIfInBounds_toArray, List.set_cons_zero, List.set_cons_succ, i64_w, i32_w]
               rfl
              refine pure_ (i := 7) (N := some 82) (v := ?_) (a' := ?_) #[true, true, true, false, true, true, false, true, false, false, false, false, false, false, false, false] rfl rfl (any_of HT_.out (by kernel_rfl)) (fun _ _ _ h => h) (Or.inl ⟨by rfl, ?_⟩) ?_ ?_
              rotate_left
              ·
               intro w'
               go_simp
               with_reducible rfl
              rotate_left
              ·
               simp only [Act.put, List.setIfInBounds_toArray, List.set_cons_zero, List.set_cons_succ, i64_w, i32_w]
               rfl
              refine pure_ (i := 8) (N := some 83) (v := ?_) (a' := ?_) #[true, true, true, false, true, true, false, true, true, false, false, false, false, false, false, false] rfl rfl (any_of HT_.out (by kernel_rfl)) (fun _ _ _ h => h) (Or.inl ⟨by rfl, ?_⟩) ?_ ?_
              rotate_left
              ·
               intro w'
               go_simp
               with_reducible rfl
              rotate_left
              ·
               simp only [Act.put, List.setIfInBounds_toArray, List.set_cons_zero, List.set_cons_succ, i64_w, i32_w]
               rfl
              refine take_ (i := 3) (N := some 78) (v := ?_) (a' := ?_) #[true, true, true, true, true, true, false, true, true, false, false, false, false, false, false, false] rfl rfl (take_ofW HT_.out HW_.out (by kernel_rfl)) (fun _ _ _ h => h) (Or.inl ⟨by rfl, ?_⟩) hHeld ?_ ?_
              rotate_left
              ·
               rintro w' ⟨s0, s1⟩
               go_simp
               with_reducible rfl
              rotate_left
              ·
               simp only [Act.put, List.setIfInBounds_toArray, List.set_cons_zero, List.set_cons_succ, i64_w, i32_w]
               rfl
              refine pure_ (i := 6) (N := some 81) (v := ?_) (a' := ?_) #[true, true, true, true, true, true, true, true, true, false, false, false, false, false, false, false] rfl rfl (any_of HT_.out (by kernel_rfl)) (fun _ _ _ h => h) (Or.inl ⟨by rfl, ?_⟩) ?_ ?_
              rotate_left
              ·
               intro w'
               go_simp
               with_reducible rfl
              rotate_left
              ·
               simp only [Act.put, List.setIfInBounds_toArray, List.set_cons_zero, List.set_cons_succ, i64_w, i32_w]
               rfl
              refine take_ (i := 9) (N := some 84) (v := ?_) (a' := ?_) #[true, true, true, true, true, true, true, true, true, true, false, false, false, false, false, false] rfl rfl (take_ofW HT_.out HW_.out (by kernel_rfl)) (fun _ _ _ h => h) (Or.inl ⟨by rfl, ?_⟩) hHeld ?_ ?_
              rotate_left
              ·
               rintro w' ⟨s0, s1⟩
               go_simp
               with_reducible rfl
              rotate_left
              ·
               simp only [Act.put, List.setIfInBounds_toArray, List.set_cons_zero, List.set_cons_succ, i64_w, i32_w]
               rfl
              refine one_ (i := 10) (N := some 85) #[true, true, true, true, true, true, true, true, true, true, true, false, false, false, false, false] rfl rfl (one_of HT_.out (by kernel_rfl)) (by decide) (fun K hK => ?_)
              refine goes_ Try.func20 (by kernel_rfl) rfl #[.slice Ao46 t402.length co46, .int .i64 ji26, .int .i64 (rd t405 1)] (by rfl) rfl rfl (by (try simp only [List.map_toArray, List.map_cons, List.map_nil]); first | done | (simp only [hji26]; rfl) | rfl | (simp only [List.length_drop, List.length_take]; rfl)) ?_
              with_reducible refine (impl_AddCell.calls _ _ t402 ji26 (rd t405 1) t410 t411 _ ?side1 ?side2 A15.out).mono ?_
              (case side1 => repeat (first | exact (Kd.R_reads' HO404.out).2.2 | (with_reducible refine Kd.C_alloc ?_ _) | (with_reducible refine Kd.C_drewN ?_ _) | (with_reducible refine Kd.C_drew ?_)))
              (case side2 => exact (Kd.R_reads' HO404.out).2.1)
              rintro e w47 ⟨v412, rfl, ho0, hb⟩
              have HS0_ := (hb.cell (World.block_lt_of_cell? _ _ (hHeld.1))).trans (hHeld.1)
              have HS1_ := (hb.cell (World.block_lt_of_cell? _ _ (hHeld.2))).trans (hHeld.2)
              refine ⟨_, rfl, ?_⟩
              have n0_ := Aside0.mk (Kd.R_elder' (by (with_reducible repeat (first | apply Kd.R_alloc | apply Kd.R_drewN | apply Kd.R_drew)); exact HO379.out) (Kd.R_base ho0) hb)
              have n1_ := Aside0.mk (Kd.R_elder' (by (with_reducible repeat (first | apply Kd.R_alloc | apply Kd.R_drewN | apply Kd.R_drew)); exact HO383.out) (Kd.R_base ho0) hb)
              have n2_ := Aside0.mk (Kd.R_elder' (by (with_reducible repeat (first | apply Kd.R_alloc | apply Kd.R_drewN | apply Kd.R_drew)); exact HO387.out) (Kd.R_base ho0) hb)
              have n3_ := Aside0.mk (Kd.R_elder' (by (with_reducible repeat (first | apply Kd.R_alloc | apply Kd.R_drewN | apply Kd.R_drew)); exact HO393.out) (Kd.R_base ho0) hb)
              have n4_ := Aside0.mk (Kd.R_elder' (by (with_reducible repeat (first | apply Kd.R_alloc | apply Kd.R_drewN | apply Kd.R_drew)); exact HO397.out) (Kd.R_base ho0) hb)
              have n5_ := Aside0.mk (Kd.R_elder' (by (with_reducible repeat (first | apply Kd.R_alloc | apply Kd.R_drewN | apply Kd.R_drew)); exact HO401.out) (Kd.R_base ho0) hb)
              have n6_ := Aside0.mk (Kd.R_elder' (by (with_reducible repeat (first | apply Kd.R_alloc | apply Kd.R_drewN | apply Kd.R_drew)); exact HO404.out) (Kd.R_base ho0) hb)
              have n7_ := Aside0.mk (Kd.R_elder' (by (with_reducible repeat (first | apply Kd.R_alloc | apply Kd.R_drewN | apply Kd.R_drew)); exact HO407.out) (Kd.R_base ho0) hb)
              have n8_ := Aside0.mk (Kd.R_lower (Kd.R_new' (Kd.R_new' (Kd.R_new' (Kd.R_new' (Kd.R_new' (Kd.R_new' (Kd.R_new' (Kd.R_new' ho0 (Kd.R_lt (by (with_reducible repeat (first | apply Kd.R_alloc | apply Kd.R_drewN | apply Kd.R_drew)); exact HO379.out))) (Kd.R_lt (by (with_reducible repeat (first | apply Kd.R_alloc | apply Kd.R_drewN | apply Kd.R_drew)); exact HO383.out))) (Kd.R_lt (by (with_reducible repeat (first | apply Kd.R_alloc | apply Kd.R_drewN | apply Kd.R_drew)); exact HO387.out))) (Kd.R_lt (by (with_reducible repeat (first | apply Kd.R_alloc | apply Kd.R_drewN | apply Kd.R_drew)); exact HO393.out))) (Kd.R_lt (by (with_reducible repeat (first | apply Kd.R_alloc | apply Kd.R_drewN | apply Kd.R_drew)); exact HO397.out))) (Kd.R_lt (by (with_reducible repeat (first | apply Kd.R_alloc | apply Kd.R_drewN | apply Kd.R_drew)); exact HO401.out))) (Kd.R_lt (by (with_reducible repeat (first | apply Kd.R_alloc | apply Kd.R_drewN | apply Kd.R_drew)); exact HO404.out))) (Kd.R_lt (by (with_reducible repeat (first | apply Kd.R_alloc | apply Kd.R_drewN | apply Kd.R_drew)); exact HO407.out))) (below_size (by repeat (first | (with_reducible first | exact HB.out | apply below_alloc | apply pw_below_drewN | apply below_drew1) | exact HB.out))))
              have n9_ := Aside0.mk (below_step (by repeat (first | (with_reducible first | exact HB.out | apply below_alloc | apply pw_below_drewN | apply below_drew1) | exact HB.out)) hb)
              clear HO379
              clear HO383
              clear HO387
              clear HO393
              clear HO397
              clear HO401
              clear HO404
              clear HO407
              clear HB
              have HO379 := n0_
              have HO383 := n1_
              have HO387 := n2_
              have HO393 := n3_
              have HO397 := n4_
              have HO401 := n5_
              have HO404 := n6_
              have HO407 := n7_
              have HO413 := n8_
              have HB := n9_
              clear n0_ n1_ n2_ n3_ n4_ n5_ n6_ n7_ n8_ n9_
              (try clear hb)
              (try clear hb2)
              (try clear hk)
              (try clear hi)
              (try clear ho0)
              refine hK.out _ _ ⟨HS0_, HS1_⟩ (fun hHeld => ?_)
              clear hK K
              refine norm_ (a' := ?_) ?_ ?_
              rotate_left
              ·
               show Act.put _ (some 85) _ = _
               simp only [Act.put, List.setIfInBounds_toArray, List.set_cons_zero, List.set_cons_succ, i64_w, i32_w]
               rfl
              refine pure_ (i := 11) (N := some 74) (v := ?_) (a' := ?_) #[true, true, true, true, true, true, true, true, true, true, true, true, false, false, false, false] rfl rfl (any_of HT_.out (by kernel_rfl)) (fun _ _ _ h => h) (Or.inl ⟨by rfl, ?_⟩) ?_ ?_
              rotate_left
              ·
               intro w'
               go_simp
               with_reducible rfl
              rotate_left
              ·
               simp only [Act.put, List.setIfInBounds_toArray, List.set_cons_zero, List.set_cons_succ, i64_w, i32_w]
               rfl
              refine pure_ (i := 12) (N := some 86) (v := ?_) (a' := ?_) #[true, true, true, true, true, true, true, true, true, true, true, true, true, false, false, false] rfl rfl (any_of HT_.out (by kernel_rfl)) (fun _ _ _ h => h) (Or.inl ⟨by rfl, ?_⟩) ?_ ?_
              rotate_left
              ·
               intro w'
               go_simp
               with_reducible rfl
              rotate_left
              ·
               simp only [Act.put, List.setIfInBounds_toArray, List.set_cons_zero, List.set_cons_succ, i64_w, i32_w]
               rfl
              refine pure_ (i := 13) (N := some 87) (v := ?_) (a' := ?_) #[true, true, true, true, true, true, true, true, true, true, true, true, true, true, false, false] rfl rfl (any_of HT_.out (by kernel_rfl)) (fun _ _ _ h => h) (Or.inl ⟨by rfl, ?_⟩) ?_ ?_
              rotate_left
              ·
               intro w'
               go_simp
               with_reducible rfl
              rotate_left
              ·
               simp only [Act.put, List.setIfInBounds_toArray, List.set_cons_zero, List.set_cons_succ, i64_w, i32_w]
               rfl
              refine pure_ (i := 14) (N := some 20) (v := ?_) (a' := ?_) #[true, true, true, true, true, true, true, true, true, true, true, true, true, true, true, false] rfl rfl (any_of HT_.out (by kernel_rfl)) (fun _ _ _ h => h) (Or.inl ⟨by rfl, ?_⟩) ?_ ?_
              rotate_left
              ·
               intro w'
               go_simp
               with_reducible rfl
              rotate_left
              ·
               simp only [Act.put, List.setIfInBounds_toArray, List.set_cons_zero, List.set_cons_succ, i64_w, i32_w]
               rfl
              refine pure_ (i := 15) (N := some 21) (v := ?_) (a' := ?_) #[true, true, true, true, true, true, true, true, true, true, true, true, true, true, true, true] rfl rfl (any_of HT_.out (by kernel_rfl)) (fun _ _ _ h => h) (Or.inl ⟨by rfl, ?_⟩) ?_ ?_
              rotate_left
              ·
               intro w'
               go_simp
               with_reducible rfl
              rotate_left
              ·
               simp only [Act.put, List.setIfInBounds_toArray, List.set_cons_zero, List.set_cons_succ, i64_w, i32_w]
               rfl
              refine done_ (done_of HT_.out (by kernel_rfl)) ?_
              try go_wp2
              have n0_ := Aside0.mk (Kd.R_drew HO379.out)
              have n1_ := Aside0.mk (Kd.R_drew HO383.out)
              have n2_ := Aside0.mk (Kd.R_drew HO387.out)
              have n3_ := Aside0.mk (Kd.R_drew HO393.out)
              have n4_ := Aside0.mk (Kd.R_drew HO397.out)
              have n5_ := Aside0.mk (Kd.R_drew HO401.out)
              have n6_ := Aside0.mk (Kd.R_drew HO404.out)
              have n7_ := Aside0.mk (Kd.R_drew HO407.out)
              have n8_ := Aside0.mk (Kd.R_drew HO413.out)
              have n9_ := Aside0.mk (below_drew1 HB.out)
              clear HO379
              clear HO383
              clear HO387
              clear HO393
              clear HO397
              clear HO401
              clear HO404
              clear HO407
              clear HO413
              clear HB
              have HO379 := n0_
              have HO383 := n1_
              have HO387 := n2_
              have HO393 := n3_
              have HO397 := n4_
              have HO401 := n5_
              have HO404 := n6_
              have HO407 := n7_
              have HO413 := n8_
              have HB := n9_
              clear n0_ n1_ n2_ n3_ n4_ n5_ n6_ n7_ n8_ n9_
              have p414 : 0 ≤ (0 : Int) := (by omega)
              have q414 : 0 < (t405.length : Int) := of_decide_eq_true (by first | (with_reducible assumption) | assumption)
              obtain ⟨ad414, e414, hx414_0⟩ := Kd.at_int (Kd.R_reads' HO407.out).2.2 0 p414 q414
              obtain rfl : ad408 = ad414 := (by injection e414)
              have qi414 : (0 < t405.length) = True := eq_true (by omega)
              (try rw [show ((0 : Int)).toNat = 0 from rfl] at hx414_0)
              (try rw [Addr.add_zero'] at hx414_0)
              replace p414 := eq_true p414
              replace q414 := eq_true q414
              have p415 : 0 ≤ (1 : Int) := (by omega)
              have q415 : 1 < (t405.length : Int) := of_decide_eq_true (by first | (with_reducible assumption) | assumption)
              obtain ⟨ad415, e415, hx415_0⟩ := Kd.at_int (Kd.R_reads' HO407.out).2.2 1 p415 q415
              obtain rfl : ad408 = ad415 := (by injection e415)
              (try simp only [show (1 : Int).toNat = 1 from rfl, Nat.reduceMul, Nat.reduceEqDiff, Go.Addr.add, ↓reduceIte] at hx415_0)
              have qi415 : (1 < t405.length) = True := eq_true (by omega)
              (try rw [show ((1 : Int)).toNat = 1 from rfl] at hx415_0)
              replace p415 := eq_true p415
              replace q415 := eq_true q415
              obtain ⟨Ao49, co49, eo49⟩ := Kd.R_slice HO413.out
              (first | subst eo49 | (injection eo49 with f1_ f2_ f3_; have f4_ := f1_.symm; have f5_ := f3_.symm; clear f1_ f2_ f3_; subst f4_; subst f5_))
              refine start_ (n := 17) (S := fun w' => w'.cell? ad408 = some (.int .i64 (rd t405 0)) ∧ w'.cell? ⟨ad408.block, ad408.off + 1, none⟩ = some (.int .i64 (rd t405 1))) (ds := []) #[false, false, false, false, false, false, false, false, false, false, false, false, false, false, false, false, false] (by kernel_rfl) rfl rfl ⟨hx414_0, hx415_0⟩ (fun hHeld => ?_); refine with_tabW laws_FnCellsTold.tab12 laws_FnCellsTold.bits12 (fun HT_ HW_ => ?_)
              generalize w47.drew = w48 at HO379 HO383 HO387 HO393 HO397 HO401 HO404 HO407 HO413 HB hx414_0 hx415_0 hHeld ⊢
              refine pure_ (i := 0) (N := some 89) (v := ?_) (a' := ?_) #[true, false, false, false, false, false, false, false, false, false, false, false, false, false, false, false, false] rfl rfl (any_of HT_.out (by kernel_rfl)) (fun _ _ _ h => h) (Or.inl ⟨by rfl, ?_⟩) ?_ ?_
              rotate_left
              ·
               intro w'
               go_simp
               with_reducible rfl
              rotate_left
              ·
               simp only [Act.put, List.setIfInBounds_toArray, List.set_cons_zero, List.set_cons_succ, i64_w, i32_w]
               rfl
              refine pure_ (i := 1) (N := some 90) (v := ?_) (a' := ?_) #[true, true, false, false, false, false, false, false, false, false, false, false, false, false, false, false, false] rfl rfl (any_of HT_.out (by kernel_rfl)) (fun _ _ _ h => h) (Or.inl ⟨by rfl, ?_⟩) ?_ ?_
              rotate_left
              ·
               intro w'
               go_simp
               with_reducible rfl
              rotate_left
              ·
               simp only [Act.put, List.setIfInBounds_toArray, List.set_cons_zero, List.set_cons_succ, i64_w, i32_w]
               rfl
              refine pure_ (i := 2) (N := some 91) (v := ?_) (a' := ?_) #[true, true, true, false, false, false, false, false, false, false, false, false, false, false, false, false, false] rfl rfl (any_of HT_.out (by kernel_rfl)) (fun _ _ _ h => h) (Or.inl ⟨by rfl, ?_⟩) ?_ ?_
              rotate_left
              ·
               intro w'
               go_simp
               with_reducible rfl
              rotate_left
              ·
               simp only [Act.put, List.setIfInBounds_toArray, List.set_cons_zero, List.set_cons_succ, i64_w, i32_w]
               rfl
              refine pure_ (i := 4) (N := some 93) (v := ?_) (a' := ?_) #[true, true, true, false, true, false, false, false, false, false, false, false, false, false, false, false, false] rfl rfl (any_of HT_.out (by kernel_rfl)) (fun _ _ _ h => h) (Or.inl ⟨by rfl, ?_⟩) ?_ ?_
              rotate_left
              ·
               intro w'
               go_simp
               with_reducible rfl
              rotate_left
              ·
               simp only [Act.put, List.setIfInBounds_toArray, List.set_cons_zero, List.set_cons_succ, i64_w, i32_w]
               rfl
              refine pure_ (i := 5) (N := some 94) (v := ?_) (a' := ?_) #[true, true, true, false, true, true, false, false, false, false, false, false, false, false, false, false, false] rfl rfl (any_of HT_.out (by kernel_rfl)) (fun _ _ _ h => h) (Or.inl ⟨by rfl, ?_⟩) ?_ ?_
              rotate_left
              ·
               intro w'
               go_simp
               with_reducible rfl
              rotate_left
              ·
               simp only [Act.put, List.setIfInBounds_toArray, List.set_cons_zero, List.set_cons_succ, i64_w, i32_w]
               rfl
              refine pure_ (i := 7) (N := some 96) (v := ?_) (a' := ?_) #[true, true, true, false, true, true, false, true, false, false, false, false, false, false, false, false, false] rfl rfl (any_of HT_.out (by kernel_rfl)) (fun _ _ _ h => h) (Or.inl ⟨by rfl, ?_⟩) ?_ ?_
              rotate_left
              ·
               intro w'
               go_simp
               with_reducible rfl
              rotate_left
              ·
               simp only [Act.put, List.setIfInBounds_toArray, List.set_cons_zero, List.set_cons_succ, i64_w, i32_w]
               rfl
              refine pure_ (i := 8) (N := some 97) (v := ?_) (a' := ?_) #[true, true, true, false, true, true, false, true, true, false, false, false, false, false, false, false, false] rfl rfl (any_of HT_.out (by kernel_rfl)) (fun _ _ _ h => h) (Or.inl ⟨by rfl, ?_⟩) ?_ ?_
              rotate_left
              ·
               intro w'
               go_simp
               with_reducible rfl
              rotate_left
              ·
               simp only [Act.put, List.setIfInBounds_toArray, List.set_cons_zero, List.set_cons_succ, i64_w, i32_w]
               rfl
              refine take_ (i := 3) (N := some 92) (v := ?_) (a' := ?_) #[true, true, true, true, true, true, false, true, true, false, false, false, false, false, false, false, false] rfl rfl (take_ofW HT_.out HW_.out (by kernel_rfl)) (fun _ _ _ h => h) (Or.inl ⟨by rfl, ?_⟩) hHeld ?_ ?_
              rotate_left
              ·
               rintro w' ⟨s0, s1⟩
               go_simp
               with_reducible rfl
              rotate_left
              ·
               simp only [Act.put, List.setIfInBounds_toArray, List.set_cons_zero, List.set_cons_succ, i64_w, i32_w]
               rfl
              refine pure_ (i := 6) (N := some 95) (v := ?_) (a' := ?_) #[true, true, true, true, true, true, true, true, true, false, false, false, false, false, false, false, false] rfl rfl (any_of HT_.out (by kernel_rfl)) (fun _ _ _ h => h) (Or.inl ⟨by rfl, ?_⟩) ?_ ?_
              rotate_left
              ·
               intro w'
               go_simp
               with_reducible rfl
              rotate_left
              ·
               simp only [Act.put, List.setIfInBounds_toArray, List.set_cons_zero, List.set_cons_succ, i64_w, i32_w]
               rfl
              refine take_ (i := 9) (N := some 98) (v := ?_) (a' := ?_) #[true, true, true, true, true, true, true, true, true, true, false, false, false, false, false, false, false] rfl rfl (take_ofW HT_.out HW_.out (by kernel_rfl)) (fun _ _ _ h => h) (Or.inl ⟨by rfl, ?_⟩) hHeld ?_ ?_
              rotate_left
              ·
               rintro w' ⟨s0, s1⟩
               go_simp
               with_reducible rfl
              rotate_left
              ·
               simp only [Act.put, List.setIfInBounds_toArray, List.set_cons_zero, List.set_cons_succ, i64_w, i32_w]
               rfl
              refine pure_ (i := 10) (N := some 99) (v := ?_) (a' := ?_) #[true, true, true, true, true, true, true, true, true, true, true, false, false, false, false, false, false] rfl rfl (any_of HT_.out (by kernel_rfl)) (fun _ _ _ h => h) (Or.inl ⟨by rfl, ?_⟩) ?_ ?_
              rotate_left
              ·
               intro w'
               go_simp
               with_reducible rfl
              rotate_left
              ·
               simp only [Act.put, List.setIfInBounds_toArray, List.set_cons_zero, List.set_cons_succ, i64_w, i32_w]
               rfl
              refine one_ (i := 11) (N := some 100) #[true, true, true, true, true, true, true, true, true, true, true, true, false, false, false, false, false] rfl rfl (one_of HT_.out (by kernel_rfl)) (by decide) (fun K hK => ?_)
              refine goes_ Try.func20 (by kernel_rfl) rfl #[.slice Ao49 t410.length co49, .int .i64 ji26, .int .i64 (wrap64 (-(rd t405 1)))] (by rfl) rfl rfl (by (try simp only [List.map_toArray, List.map_cons, List.map_nil]); first | done | (simp only [hji26]; rfl) | rfl | (simp only [List.length_drop, List.length_take]; rfl)) ?_
              with_reducible refine (impl_AddCell.calls _ _ t410 ji26 (wrap64 (-(rd t405 1))) t416 t417 _ ?side1 ?side2 A16.out).mono ?_
              (case side1 => repeat (first | exact (Kd.R_reads' HO413.out).2.2 | (with_reducible refine Kd.C_alloc ?_ _) | (with_reducible refine Kd.C_drewN ?_ _) | (with_reducible refine Kd.C_drew ?_)))
              (case side2 => exact (Kd.R_reads' HO413.out).2.1)
              rintro e w50 ⟨v418, rfl, ho0, hb⟩
              have HS0_ := (hb.cell (World.block_lt_of_cell? _ _ (hHeld.1))).trans (hHeld.1)
              have HS1_ := (hb.cell (World.block_lt_of_cell? _ _ (hHeld.2))).trans (hHeld.2)
              refine ⟨_, rfl, ?_⟩
              have n0_ := Aside0.mk (Kd.R_elder' (by (with_reducible repeat (first | apply Kd.R_alloc | apply Kd.R_drewN | apply Kd.R_drew)); exact HO379.out) (Kd.R_base ho0) hb)
              have n1_ := Aside0.mk (Kd.R_elder' (by (with_reducible repeat (first | apply Kd.R_alloc | apply Kd.R_drewN | apply Kd.R_drew)); exact HO383.out) (Kd.R_base ho0) hb)
              have n2_ := Aside0.mk (Kd.R_elder' (by (with_reducible repeat (first | apply Kd.R_alloc | apply Kd.R_drewN | apply Kd.R_drew)); exact HO387.out) (Kd.R_base ho0) hb)
              have n3_ := Aside0.mk (Kd.R_elder' (by (with_reducible repeat (first | apply Kd.R_alloc | apply Kd.R_drewN | apply Kd.R_drew)); exact HO393.out) (Kd.R_base ho0) hb)
              have n4_ := Aside0.mk (Kd.R_elder' (by (with_reducible repeat (first | apply Kd.R_alloc | apply Kd.R_drewN | apply Kd.R_drew)); exact HO397.out) (Kd.R_base ho0) hb)
              have n5_ := Aside0.mk (Kd.R_elder' (by (with_reducible repeat (first | apply Kd.R_alloc | apply Kd.R_drewN | apply Kd.R_drew)); exact HO401.out) (Kd.R_base ho0) hb)
              have n6_ := Aside0.mk (Kd.R_elder' (by (with_reducible repeat (first | apply Kd.R_alloc | apply Kd.R_drewN | apply Kd.R_drew)); exact HO404.out) (Kd.R_base ho0) hb)
              have n7_ := Aside0.mk (Kd.R_elder' (by (with_reducible repeat (first | apply Kd.R_alloc | apply Kd.R_drewN | apply Kd.R_drew)); exact HO407.out) (Kd.R_base ho0) hb)
              have n8_ := Aside0.mk (Kd.R_elder' (by (with_reducible repeat (first | apply Kd.R_alloc | apply Kd.R_drewN | apply Kd.R_drew)); exact HO413.out) (Kd.R_base ho0) hb)
              have n9_ := Aside0.mk (Kd.R_lower (Kd.R_new' (Kd.R_new' (Kd.R_new' (Kd.R_new' (Kd.R_new' (Kd.R_new' (Kd.R_new' (Kd.R_new' (Kd.R_new' ho0 (Kd.R_lt (by (with_reducible repeat (first | apply Kd.R_alloc | apply Kd.R_drewN | apply Kd.R_drew)); exact HO379.out))) (Kd.R_lt (by (with_reducible repeat (first | apply Kd.R_alloc | apply Kd.R_drewN | apply Kd.R_drew)); exact HO383.out))) (Kd.R_lt (by (with_reducible repeat (first | apply Kd.R_alloc | apply Kd.R_drewN | apply Kd.R_drew)); exact HO387.out))) (Kd.R_lt (by (with_reducible repeat (first | apply Kd.R_alloc | apply Kd.R_drewN | apply Kd.R_drew)); exact HO393.out))) (Kd.R_lt (by (with_reducible repeat (first | apply Kd.R_alloc | apply Kd.R_drewN | apply Kd.R_drew)); exact HO397.out))) (Kd.R_lt (by (with_reducible repeat (first | apply Kd.R_alloc | apply Kd.R_drewN | apply Kd.R_drew)); exact HO401.out))) (Kd.R_lt (by (with_reducible repeat (first | apply Kd.R_alloc | apply Kd.R_drewN | apply Kd.R_drew)); exact HO404.out))) (Kd.R_lt (by (with_reducible repeat (first | apply Kd.R_alloc | apply Kd.R_drewN | apply Kd.R_drew)); exact HO407.out))) (Kd.R_lt (by (with_reducible repeat (first | apply Kd.R_alloc | apply Kd.R_drewN | apply Kd.R_drew)); exact HO413.out))) (below_size (by repeat (first | (with_reducible first | exact HB.out | apply below_alloc | apply pw_below_drewN | apply below_drew1) | exact HB.out))))
              have n10_ := Aside0.mk (below_step (by repeat (first | (with_reducible first | exact HB.out | apply below_alloc | apply pw_below_drewN | apply below_drew1) | exact HB.out)) hb)
              clear HO379
              clear HO383
              clear HO387
              clear HO393
              clear HO397
              clear HO401
              clear HO404
              clear HO407
              clear HO413
              clear HB
              have HO379 := n0_
              have HO383 := n1_
              have HO387 := n2_
              have HO393 := n3_
              have HO397 := n4_
              have HO401 := n5_
              have HO404 := n6_
              have HO407 := n7_
              have HO413 := n8_
              have HO419 := n9_
              have HB := n10_
              clear n0_ n1_ n2_ n3_ n4_ n5_ n6_ n7_ n8_ n9_ n10_
              (try clear hb)
              (try clear hb2)
              (try clear hk)
              (try clear hi)
              (try clear ho0)
              refine hK.out _ _ ⟨HS0_, HS1_⟩ (fun hHeld => ?_)
              clear hK K
              refine norm_ (a' := ?_) ?_ ?_
              rotate_left
              ·
               show Act.put _ (some 100) _ = _
               simp only [Act.put, List.setIfInBounds_toArray, List.set_cons_zero, List.set_cons_succ, i64_w, i32_w]
               rfl
              refine pure_ (i := 12) (N := some 88) (v := ?_) (a' := ?_) #[true, true, true, true, true, true, true, true, true, true, true, true, true, false, false, false, false] rfl rfl (any_of HT_.out (by kernel_rfl)) (fun _ _ _ h => h) (Or.inl ⟨by rfl, ?_⟩) ?_ ?_
              rotate_left
              ·
               intro w'
               go_simp
               with_reducible rfl
              rotate_left
              ·
               simp only [Act.put, List.setIfInBounds_toArray, List.set_cons_zero, List.set_cons_succ, i64_w, i32_w]
               rfl
              refine pure_ (i := 13) (N := some 101) (v := ?_) (a' := ?_) #[true, true, true, true, true, true, true, true, true, true, true, true, true, true, false, false, false] rfl rfl (any_of HT_.out (by kernel_rfl)) (fun _ _ _ h => h) (Or.inl ⟨by rfl, ?_⟩) ?_ ?_
              rotate_left
              ·
               intro w'
               go_simp
               with_reducible rfl
              rotate_left
              ·
               simp only [Act.put, List.setIfInBounds_toArray, List.set_cons_zero, List.set_cons_succ, i64_w, i32_w]
               rfl
              refine pure_ (i := 14) (N := some 102) (v := ?_) (a' := ?_) #[true, true, true, true, true, true, true, true, true, true, true, true, true, true, true, false, false] rfl rfl (any_of HT_.out (by kernel_rfl)) (fun _ _ _ h => h) (Or.inl ⟨by rfl, ?_⟩) ?_ ?_
              rotate_left
              ·
               intro w'
               go_simp
               with_reducible rfl
              rotate_left
              ·
               simp only [Act.put, List.setIfInBounds_toArray, List.set_cons_zero, List.set_cons_succ, i64_w, i32_w]
               rfl
              refine pure_ (i := 15) (N := some 22) (v := ?_) (a' := ?_) #[true, true, true, true, true, true, true, true, true, true, true, true, true, true, true, true, false] rfl rfl (any_of HT_.out (by kernel_rfl)) (fun _ _ _ h => h) (Or.inl ⟨by rfl, ?_⟩) ?_ ?_
              rotate_left
              ·
               intro w'
               go_simp
               with_reducible rfl
              rotate_left
              ·
               simp only [Act.put, List.setIfInBounds_toArray, List.set_cons_zero, List.set_cons_succ, i64_w, i32_w]
               rfl
              refine pure_ (i := 16) (N := some 23) (v := ?_) (a' := ?_) #[true, true, true, true, true, true, true, true, true, true, true, true, true, true, true, true, true] rfl rfl (any_of HT_.out (by kernel_rfl)) (fun _ _ _ h => h) (Or.inl ⟨by rfl, ?_⟩) ?_ ?_
              rotate_left
              ·
               intro w'
               go_simp
               with_reducible rfl
              rotate_left
              ·
               simp only [Act.put, List.setIfInBounds_toArray, List.set_cons_zero, List.set_cons_succ, i64_w, i32_w]
               rfl
              refine done_ (done_of HT_.out (by kernel_rfl)) ?_
              try go_wp2_with (first | ((with_reducible refine gate_callee (f := 31) rfl ?_); refine goesL_ (some 104) rfl rfl Try.func31 (by kernel_rfl) rfl #[.slice A0 l0.length c0] rfl (by (try simp only [List.map_toArray, List.map_cons, List.map_nil]); first | done | rfl | (simp only [List.length_drop, List.length_take]; rfl)) ?_; (with_reducible refine (spec_DrawCellsOk.calls k _ _ l0 t420 _ ?side1 ?side2 A17.out).mono ?_); (case side1 => repeat (first | exact (Kd.C_below HR0.out HB.out) | (with_reducible refine Kd.C_alloc ?_ _) | (with_reducible refine Kd.C_drewN ?_ _) | (with_reducible refine Kd.C_drew ?_))); (case side2 => exact HC0.out); rintro e w51 ⟨v421, rfl, ho0, hb⟩; refine ⟨_, rfl, ?_⟩; have n0_ := Aside0.mk (Kd.R_elder' (by (with_reducible repeat (first | apply Kd.R_alloc | apply Kd.R_drewN | apply Kd.R_drew)); exact HO379.out) (Kd.R_base ho0) hb); have n1_ := Aside0.mk (Kd.R_elder' (by (with_reducible repeat (first | apply Kd.R_alloc | apply Kd.R_drewN | apply Kd.R_drew)); exact HO383.out) (Kd.R_base ho0) hb); have n2_ := Aside0.mk (Kd.R_elder' (by (with_reducible repeat (first | apply Kd.R_alloc | apply Kd.R_drewN | apply Kd.R_drew)); exact HO387.out) (Kd.R_base ho0) hb); have n3_ := Aside0.mk (Kd.R_elder' (by (with_reducible repeat (first | apply Kd.R_alloc | apply Kd.R_drewN | apply Kd.R_drew)); exact HO393.out) (Kd.R_base ho0) hb); have n4_ := Aside0.mk (Kd.R_elder' (by (with_reducible repeat (first | apply Kd.R_alloc | apply Kd.R_drewN | apply Kd.R_drew)); exact HO397.out) (Kd.R_base ho0) hb); have n5_ := Aside0.mk (Kd.R_elder' (by (with_reducible repeat (first | apply Kd.R_alloc | apply Kd.R_drewN | apply Kd.R_drew)); exact HO401.out) (Kd.R_base ho0) hb); have n6_ := Aside0.mk (Kd.R_elder' (by (with_reducible repeat (first | apply Kd.R_alloc | apply Kd.R_drewN | apply Kd.R_drew)); exact HO404.out) (Kd.R_base ho0) hb); have n7_ := Aside0.mk (Kd.R_elder' (by (with_reducible repeat (first | apply Kd.R_alloc | apply Kd.R_drewN | apply Kd.R_drew)); exact HO407.out) (Kd.R_base ho0) hb); have n8_ := Aside0.mk (Kd.R_elder' (by (with_reducible repeat (first | apply Kd.R_alloc | apply Kd.R_drewN | apply Kd.R_drew)); exact HO413.out) (Kd.R_base ho0) hb); have n9_ := Aside0.mk (Kd.R_elder' (by (with_reducible repeat (first | apply Kd.R_alloc | apply Kd.R_drewN | apply Kd.R_drew)); exact HO419.out) (Kd.R_base ho0) hb); have n10_ := Aside0.mk (Kd.R_lower (Kd.R_new' (Kd.R_new' (Kd.R_new' (Kd.R_new' (Kd.R_new' (Kd.R_new' (Kd.R_new' (Kd.R_new' (Kd.R_new' (Kd.R_new' ho0 (Kd.R_lt (by (with_reducible repeat (first | apply Kd.R_alloc | apply Kd.R_drewN | apply Kd.R_drew)); exact HO379.out))) (Kd.R_lt (by (with_reducible repeat (first | apply Kd.R_alloc | apply Kd.R_drewN | apply Kd.R_drew)); exact HO383.out))) (Kd.R_lt (by (with_reducible repeat (first | apply Kd.R_alloc | apply Kd.R_drewN | apply Kd.R_drew)); exact HO387.out))) (Kd.R_lt (by (with_reducible repeat (first | apply Kd.R_alloc | apply Kd.R_drewN | apply Kd.R_drew)); exact HO393.out))) (Kd.R_lt (by (with_reducible repeat (first | apply Kd.R_alloc | apply Kd.R_drewN | apply Kd.R_drew)); exact HO397.out))) (Kd.R_lt (by (with_reducible repeat (first | apply Kd.R_alloc | apply Kd.R_drewN | apply Kd.R_drew)); exact HO401.out))) (Kd.R_lt (by (with_reducible repeat (first | apply Kd.R_alloc | apply Kd.R_drewN | apply Kd.R_drew)); exact HO404.out))) (Kd.R_lt (by (with_reducible repeat (first | apply Kd.R_alloc | apply Kd.R_drewN | apply Kd.R_drew)); exact HO407.out))) (Kd.R_lt (by (with_reducible repeat (first | apply Kd.R_alloc | apply Kd.R_drewN | apply Kd.R_drew)); exact HO413.out))) (Kd.R_lt (by (with_reducible repeat (first | apply Kd.R_alloc | apply Kd.R_drewN | apply Kd.R_drew)); exact HO419.out))) (below_size (by repeat (first | (with_reducible first | exact HB.out | apply below_alloc | apply pw_below_drewN | apply below_drew1) | exact HB.out)))); have n11_ := Aside0.mk (below_step (by repeat (first | (with_reducible first | exact HB.out | apply below_alloc | apply pw_below_drewN | apply below_drew1) | exact HB.out)) hb); clear HO379; clear HO383; clear HO387; clear HO393; clear HO397; clear HO401; clear HO404; clear HO407; clear HO413; clear HO419; clear HB; have HO379 := n0_; have HO383 := n1_; have HO387 := n2_; have HO393 := n3_; have HO397 := n4_; have HO401 := n5_; have HO404 := n6_; have HO407 := n7_; have HO413 := n8_; have HO419 := n9_; have HO422 := n10_; have HB := n11_; clear n0_ n1_ n2_ n3_ n4_ n5_ n6_ n7_ n8_ n9_ n10_ n11_; (try clear hb); (try clear hb2); (try clear hk); (try clear hi); (try clear ho0); obtain ⟨Ao52, co52, eo52⟩ := Kd.R_slice HO383.out; subst eo52; obtain ⟨Ao53, co53, eo53⟩ := Kd.R_slice HO387.out; subst eo53) | ((with_reducible refine gate_callee (f := 28) rfl ?_); refine goesL_ (some 107) rfl rfl Try.func28 (by kernel_rfl) rfl #[.slice Ao52 t380.length co52, .slice Ao53 t384.length co53] rfl (by (try simp only [List.map_toArray, List.map_cons, List.map_nil]); first | done | rfl | (simp only [List.length_drop, List.length_take]; rfl)) ?_; (with_reducible refine (laws_sameInts.calls k _ _ t380 _ _ t384 true _ ?side1 ?side2 ?side3 ?side4 A18.out).mono ?_); (case side1 => repeat (first | exact (Kd.R_reads' HO383.out).2.2 | (with_reducible refine Kd.C_alloc ?_ _) | (with_reducible refine Kd.C_drewN ?_ _) | (with_reducible refine Kd.C_drew ?_))); (case side2 => exact (Kd.R_reads' HO383.out).2.1); (case side3 => repeat (first | exact (Kd.R_reads' HO387.out).2.2 | (with_reducible refine Kd.C_alloc ?_ _) | (with_reducible refine Kd.C_drewN ?_ _) | (with_reducible refine Kd.C_drew ?_))); (case side4 => exact (Kd.R_reads' HO387.out).2.1); rintro e w' ⟨rfl, ⟨nd, rfl⟩⟩; refine ⟨_, rfl, ?_⟩; obtain ⟨Ao54, co54, eo54⟩ := Kd.R_slice HO397.out; subst eo54; obtain ⟨Ao55, co55, eo55⟩ := Kd.R_slice HO401.out; subst eo55) | (go_at_call 28; (with_reducible refine (laws_sameInts.calls k _ _ t394 _ _ t398 true _ ?side1 ?side2 ?side3 ?side4 A22.out).mono ?_); (case side1 => repeat (first | exact (Kd.R_reads' HO397.out).2.2 | (with_reducible refine Kd.C_alloc ?_ _) | (with_reducible refine Kd.C_drewN ?_ _) | (with_reducible refine Kd.C_drew ?_))); (case side2 => exact (Kd.R_reads' HO397.out).2.1); (case side3 => repeat (first | exact (Kd.R_reads' HO401.out).2.2 | (with_reducible refine Kd.C_alloc ?_ _) | (with_reducible refine Kd.C_drewN ?_ _) | (with_reducible refine Kd.C_drew ?_))); (case side4 => exact (Kd.R_reads' HO401.out).2.1); rintro e w' ⟨rfl, ⟨nd, rfl⟩⟩; obtain ⟨Ao56, co56, eo56⟩ := Kd.R_slice HO419.out; subst eo56) | (go_at_call 28; (with_reducible refine (laws_sameInts.calls k _ _ t416 _ _ t402 true _ ?side1 ?side2 ?side3 ?side4 A24.out).mono ?_); (case side1 => repeat (first | exact (Kd.R_reads' HO419.out).2.2 | (with_reducible refine Kd.C_alloc ?_ _) | (with_reducible refine Kd.C_drewN ?_ _) | (with_reducible refine Kd.C_drew ?_))); (case side2 => exact (Kd.R_reads' HO419.out).2.1); (case side3 => repeat (first | exact (Kd.R_reads' HO404.out).2.2 | (with_reducible refine Kd.C_alloc ?_ _) | (with_reducible refine Kd.C_drewN ?_ _) | (with_reducible refine Kd.C_drew ?_))); (case side4 => exact (Kd.R_reads' HO404.out).2.1); rintro e w' ⟨rfl, ⟨nd, rfl⟩⟩; have p426 : 0 ≤ (0 : Int) := (by omega); have q426 : 0 < (t405.length : Int) := of_decide_eq_true (by first | (with_reducible assumption) | assumption); obtain ⟨ad426, e426, hx426_0⟩ := Kd.at_int (Kd.R_reads' HO407.out).2.2 0 p426 q426; obtain rfl : ad408 = ad426 := (by injection e426); have qi426 : (0 < t405.length) = True := eq_true (by omega); (try rw [show ((0 : Int)).toNat = 0 from rfl] at hx426_0); (try rw [Addr.add_zero'] at hx426_0); replace p426 := eq_true p426; replace q426 := eq_true q426; have p427 : 0 ≤ ((ji26) : Int) := of_decide_eq_true (by first | (with_reducible assumption) | assumption); have q427 : (ji26) < (t402.length : Int) := of_decide_eq_true (by first | (with_reducible assumption) | assumption); obtain ⟨ad427, e427, hx427_0⟩ := Kd.at_int (Kd.R_reads' HO404.out).2.2 (ji26) p427 q427; cases e427; replace p427 := eq_true p427; replace q427 := eq_true q427) | (go_at_call 27; (with_reducible refine (impl_CellsOk.calls k _ _ t410 true _ ?side1 ?side2 A30.out).mono ?_); (case side1 => repeat (first | exact (Kd.R_reads' HO413.out).2.2 | (with_reducible refine Kd.C_alloc ?_ _) | (with_reducible refine Kd.C_drewN ?_ _) | (with_reducible refine Kd.C_drew ?_))); (case side2 => exact (Kd.R_reads' HO413.out).2.1); rintro e w' ⟨rfl, ⟨nd, rfl⟩⟩; obtain ⟨Ao57, co57, eo57⟩ := Kd.R_slice HO422.out; subst eo57) | (go_at_call 27; (with_reducible refine (impl_CellsOk.calls k _ _ t420 t429 _ ?side1 ?side2 A32.out).mono ?_); (case side1 => repeat (first | exact (Kd.R_reads' HO422.out).2.2 | (with_reducible refine Kd.C_alloc ?_ _) | (with_reducible refine Kd.C_drewN ?_ _) | (with_reducible refine Kd.C_drew ?_))); (case side2 => exact (Kd.R_reads' HO422.out).2.1); rintro e w' ⟨rfl, ⟨nd, rfl⟩⟩) | (go_at_call 32; (with_reducible refine (spec_CellsOk.calls k _ _ t420 t430 _ ?side1 ?side2 A33.out).mono ?_); (case side1 => repeat (first | exact (Kd.R_reads' HO422.out).2.2 | (with_reducible refine Kd.C_alloc ?_ _) | (with_reducible refine Kd.C_drewN ?_ _) | (with_reducible refine Kd.C_drew ?_))); (case side2 => exact (Kd.R_reads' HO422.out).2.1); rintro e w' ⟨rfl, ⟨nd, rfl⟩⟩))
              go_ret
              exact ⟨by first | rfl | (simp [errW_none, errW_some] <;> rfl) | (simp only [← hji26]; first | rfl | (simp [errW_none, errW_some] <;> rfl)) | (simp [*, errW_none, errW_some] <;> rfl), by repeat (first | (with_reducible first | exact HB.out | apply below_alloc | apply pw_below_drewN | apply below_drew1) | exact HB.out)⟩
             ·
              replace c31 := Bool.eq_false_iff.mpr c31
              subst c31
              have H1 : (none) = some r := by rw [if_neg (show ¬ (false = true) by decide)] at H; exact H
              clear H
              have H := H1
              clear H1
              exact absurd H (by simp)
            ·
             rw [if_neg c29] at H
             exact absurd H (by simp)
           ·
            rw [if_neg c28] at H
            exact absurd H (by simp)
          ·
           rw [if_neg c27] at H
           exact absurd H (by simp)
         ·
          replace c25 := Bool.eq_false_iff.mpr c25
          subst c25
          have H1 : (none) = some r := by rw [if_neg (show ¬ (false = true) by decide)] at H; exact H
          clear H
          have H := H1
          clear H1
          exact absurd H (by simp)
        ·
         replace c23 := Bool.eq_false_iff.mpr c23
         subst c23
         have H1 : (none) = some r := by rw [if_neg (show ¬ (false = true) by decide)] at H; exact H
         clear H
         have H := H1
         clear H1
         exact absurd H (by simp)
       ·
        rw [if_neg c21] at H
        exact absurd H (by simp)
      ·
       rw [if_neg c20] at H
       exact absurd H (by simp)
     ·
      replace c19 := Bool.eq_false_iff.mpr c19
      subst c19
      have H1 : (none) = some r := by rw [if_neg (show ¬ (false = true) by decide)] at H; exact H
      clear H
      have H := H1
      clear H1
      exact absurd H (by simp)
    ·
     rw [if_neg c14] at H
     exact absurd H (by simp)
  ·
   rw [if_neg c12] at H
   exact absurd H (by simp)

/-- THE ONE PURE STATEMENT of laws_FnCellsTold: yours. -/
def laws_FnCellsTold.Pure : Prop := ∀ (l0 : List Int), l0.length ≤ maxLen → l0.length * 1 ≤ 140737488351232 → (∀ x ∈ l0, (Lit.int .u8 x).wf = true) → ∃ k, laws_FnCellsTold.f k l0 = some true
theorem laws_FnCellsTold.walk (P : laws_FnCellsTold.Pure) (a0 : Option Addr) (len0 cap0 : Nat) (z0 : List Int) (w : World) (w0 : (a0 = none ∧ len0 = 0 ∧ cap0 = 0 ∧ z0 = []) ∨ ∃ x, a0 = some x ∧ len0 ≤ cap0 ∧ cap0 ≤ maxLen ∧ z0.length = cap0 ∧ (∀ i, i < z0.length → w.cell? (x.add i) = some (.int .u8 (z0.getD i 0))) ∧ ∀ n ∈ z0, (Lit.int .u8 n).wf = true) (y0 : len0 * 1 ≤ 140737488351232) :
  Calls Try.prog 7 #[.slice a0 len0 cap0] w fun e w' => e = .returned (.bool true) ∧ Below w.heap.size w w' := by
 obtain ⟨l0, rfl, hr0, hm0, hw0, hc0⟩ := ReadsInt.ofRowC w0
 obtain ⟨k, h⟩ := P l0 hm0 y0 hw0
 refine (laws_FnCellsTold.calls k _ _ l0 true w (Kd.C_of_reads (d := (0 : Int)) (h1 := fun _ => rfl) hr0) hc0 h).mono ?_
 rintro e w' ⟨rfl, hd⟩
 exact ⟨rfl, hd⟩

end Go.Proofs.Ytjmggbhgmenmcaa.Qcells
