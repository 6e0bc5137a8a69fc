-- Laid by myprint.py, a program of this session's own, over the kit's print. Not trusted: Lean checks it.
import Derived.Test.YtjmggbhgmenmcaaQalx0
import Derived.Test.YtjmggbhgmenmcaaQalx2
import Derived.Test.YtjmggbhgmenmcaaQalx3
import Derived.Test.YtjmggbhgmenmcaaQalx6
namespace Go.Proofs.Ytjmggbhgmenmcaa.Qal
open Go.RowKit Go.Proofs.YtjmggbhgmenmcaaW.PrintWords Go.Proofs.YtjmggbhgmenmcaaW.PrintLast Go.Proofs.YtjmggbhgmenmcaaW.PrintMore
attribute [local go_sem] Go.Proofs.Ytjmggbhgmenmcaa.StrCmp.gtr_less Go.Proofs.Ytjmggbhgmenmcaa.StrCmp.geq_less Go.Proofs.Ytjmggbhgmenmcaa.StrCmp.leq_less max2_int min2_int max_two min_two max_three min_three max_four min_four   -- for this text's walks alone
set_option linter.unusedVariables false
set_option linter.unusedSimpArgs false

/-! ### impl_StepTask: function 39 -/
def impl_StepTask.f (k : Nat) (l0 : List Int) (a1_0 : Int) (a1_1 : Int) (a1_2 : Int) (a1_3 : Int) (a1_4 : Int) (a1_5 : Int) (a1_6 : Int) (a1_7 : Int) (a1_8 : Int) (a1_9 : Bool) (a1_10 : Int) : Option (List Int × Int × Int × Int × Int × Int × Int × Int × Int × Int × Bool × Int) := (impl_copyInts.f l0).bind fun t324 => (if a1_9 = true then (some (t324, a1_0, a1_1, a1_2, a1_3, a1_4, a1_5, a1_6, a1_7, a1_8, a1_9, a1_10)) else ((impl_TaskOk.f k a1_0 a1_1 a1_2 a1_3 a1_4 a1_5 a1_6 a1_7 a1_8 a1_9 a1_10).bind fun t327 => (if t327 = true then (if (l0.length : Int) = 63 then ((impl_CellsOk.f k l0).bind fun t328 => (if t328 = true then ((impl_Task_step.f k a1_0 a1_1 a1_2 a1_3 a1_4 a1_5 a1_6 a1_7 a1_8 a1_9 a1_10 t324).bind fun bt329 => (some (bt329.2.2.2.2.2.2.2.2.2.2.2, bt329.1, bt329.2.1, bt329.2.2.1, bt329.2.2.2.1, bt329.2.2.2.2.1, bt329.2.2.2.2.2.1, bt329.2.2.2.2.2.2.1, bt329.2.2.2.2.2.2.2.1, bt329.2.2.2.2.2.2.2.2.1, bt329.2.2.2.2.2.2.2.2.2.1, bt329.2.2.2.2.2.2.2.2.2.2.1))) else (some (t324, a1_0, a1_1, a1_2, a1_3, a1_4, a1_5, a1_6, a1_7, a1_8, a1_9, a1_10)))) else (some (t324, a1_0, a1_1, a1_2, a1_3, a1_4, a1_5, a1_6, a1_7, a1_8, a1_9, a1_10))) else (some (t324, a1_0, a1_1, a1_2, a1_3, a1_4, a1_5, a1_6, a1_7, a1_8, a1_9, a1_10)))))
theorem impl_StepTask.mono : ∀ a0 a1 a2 a3 a4 a5 a6 a7 a8 a9 a10 a11 k, LeO (impl_StepTask.f k a0 a1 a2 a3 a4 a5 a6 a7 a8 a9 a10 a11) (impl_StepTask.f (k + 1) a0 a1 a2 a3 a4 a5 a6 a7 a8 a9 a10 a11) := by
 intro a0 a1 a2 a3 a4 a5 a6 a7 a8 a9 a10 a11 k
 unfold impl_StepTask.f
 repeat' first
   | (with_reducible exact impl_CellsOk.mono _ _)
   | (with_reducible exact impl_TaskOk.mono _ _ _ _ _ _ _ _ _ _ _ _)
   | (with_reducible exact impl_Task_step.mono _ _ _ _ _ _ _ _ _ _ _ _ _)
   | (with_reducible exact LeO.refl _)
   | (with_reducible exact LeO.none _)
   | (with_reducible refine LeO.ite ?_ ?_)
   | (with_reducible refine LeO.bind ?_ (fun _ => ?_))
   | exact impl_CellsOk.mono _ _
   | exact impl_TaskOk.mono _ _ _ _ _ _ _ _ _ _ _ _
   | exact impl_Task_step.mono _ _ _ _ _ _ _ _ _ _ _ _ _
   | exact LeO.none _
   | refine LeO.ite ?_ ?_
   | refine LeO.bind ?_ (fun _ => ?_)
theorem impl_StepTask.fin {w0 w : World} {gz : Nat} {ok : Nat → Prop} {v : Value} {xs : List Int} (a0 a1 a2 a3 a4 a5 a6 a7 a8 : Int) (a9 : Bool) (a10 : Int) (b : w.heap[gz]? = some (.cells #[.int .i64 0, .int .i64 0, .int .i64 0, .int .i64 0, .int .i64 0, .int .i64 0, .int .i64 0, .int .i64 0, .int .i64 0, .bool false, .int .i64 0] 46 (0, 0))) (hb : Below w0.heap.size w0 w) (hg : w0.heap.size ≤ gz) (hr : Kd.R (Kd.int .i64) 3 w w0.heap.size ok v xs) :
 ((((((((((((w.setCell ⟨gz, 0, none⟩ (.int .i64 a0)).setCell ⟨gz, 1, none⟩ (.int .i64 a1)).setCell ⟨gz, 2, none⟩ (.int .i64 a2)).setCell ⟨gz, 3, none⟩ (.int .i64 a3)).setCell ⟨gz, 4, none⟩ (.int .i64 a4)).setCell ⟨gz, 5, none⟩ (.int .i64 a5)).setCell ⟨gz, 6, none⟩ (.int .i64 a6)).setCell ⟨gz, 7, none⟩ (.int .i64 a7)).setCell ⟨gz, 8, none⟩ (.int .i64 a8)).setCell ⟨gz, 9, none⟩ (.bool a9)).setCell ⟨gz, 10, none⟩ (.int .i64 a10)).drew).heap[gz]? = some (.cells #[.int .i64 a0, .int .i64 a1, .int .i64 a2, .int .i64 a3, .int .i64 a4, .int .i64 a5, .int .i64 a6, .int .i64 a7, .int .i64 a8, .bool a9, .int .i64 a10] 46 (0, 0)) ∧ Kd.R (Kd.int .i64) 3 ((((((((((((w.setCell ⟨gz, 0, none⟩ (.int .i64 a0)).setCell ⟨gz, 1, none⟩ (.int .i64 a1)).setCell ⟨gz, 2, none⟩ (.int .i64 a2)).setCell ⟨gz, 3, none⟩ (.int .i64 a3)).setCell ⟨gz, 4, none⟩ (.int .i64 a4)).setCell ⟨gz, 5, none⟩ (.int .i64 a5)).setCell ⟨gz, 6, none⟩ (.int .i64 a6)).setCell ⟨gz, 7, none⟩ (.int .i64 a7)).setCell ⟨gz, 8, none⟩ (.int .i64 a8)).setCell ⟨gz, 9, none⟩ (.bool a9)).setCell ⟨gz, 10, none⟩ (.int .i64 a10)).drew) w0.heap.size (fun _ => True) v xs ∧ Below w0.heap.size w0 ((((((((((((w.setCell ⟨gz, 0, none⟩ (.int .i64 a0)).setCell ⟨gz, 1, none⟩ (.int .i64 a1)).setCell ⟨gz, 2, none⟩ (.int .i64 a2)).setCell ⟨gz, 3, none⟩ (.int .i64 a3)).setCell ⟨gz, 4, none⟩ (.int .i64 a4)).setCell ⟨gz, 5, none⟩ (.int .i64 a5)).setCell ⟨gz, 6, none⟩ (.int .i64 a6)).setCell ⟨gz, 7, none⟩ (.int .i64 a7)).setCell ⟨gz, 8, none⟩ (.int .i64 a8)).setCell ⟨gz, 9, none⟩ (.bool a9)).setCell ⟨gz, 10, none⟩ (.int .i64 a10)).drew) :=
 ⟨blk_drew (blk_put (cs' := #[.int .i64 a0, .int .i64 a1, .int .i64 a2, .int .i64 a3, .int .i64 a4, .int .i64 a5, .int .i64 a6, .int .i64 a7, .int .i64 a8, .bool a9, .int .i64 a10]) (blk_put (cs' := #[.int .i64 a0, .int .i64 a1, .int .i64 a2, .int .i64 a3, .int .i64 a4, .int .i64 a5, .int .i64 a6, .int .i64 a7, .int .i64 a8, .bool a9, .int .i64 0]) (blk_put (cs' := #[.int .i64 a0, .int .i64 a1, .int .i64 a2, .int .i64 a3, .int .i64 a4, .int .i64 a5, .int .i64 a6, .int .i64 a7, .int .i64 a8, .bool false, .int .i64 0]) (blk_put (cs' := #[.int .i64 a0, .int .i64 a1, .int .i64 a2, .int .i64 a3, .int .i64 a4, .int .i64 a5, .int .i64 a6, .int .i64 a7, .int .i64 0, .bool false, .int .i64 0]) (blk_put (cs' := #[.int .i64 a0, .int .i64 a1, .int .i64 a2, .int .i64 a3, .int .i64 a4, .int .i64 a5, .int .i64 a6, .int .i64 0, .int .i64 0, .bool false, .int .i64 0]) (blk_put (cs' := #[.int .i64 a0, .int .i64 a1, .int .i64 a2, .int .i64 a3, .int .i64 a4, .int .i64 a5, .int .i64 0, .int .i64 0, .int .i64 0, .bool false, .int .i64 0]) (blk_put (cs' := #[.int .i64 a0, .int .i64 a1, .int .i64 a2, .int .i64 a3, .int .i64 a4, .int .i64 0, .int .i64 0, .int .i64 0, .int .i64 0, .bool false, .int .i64 0]) (blk_put (cs' := #[.int .i64 a0, .int .i64 a1, .int .i64 a2, .int .i64 a3, .int .i64 0, .int .i64 0, .int .i64 0, .int .i64 0, .int .i64 0, .bool false, .int .i64 0]) (blk_put (cs' := #[.int .i64 a0, .int .i64 a1, .int .i64 a2, .int .i64 0, .int .i64 0, .int .i64 0, .int .i64 0, .int .i64 0, .int .i64 0, .bool false, .int .i64 0]) (blk_put (cs' := #[.int .i64 a0, .int .i64 a1, .int .i64 0, .int .i64 0, .int .i64 0, .int .i64 0, .int .i64 0, .int .i64 0, .int .i64 0, .bool false, .int .i64 0]) (blk_put (cs' := #[.int .i64 a0, .int .i64 0, .int .i64 0, .int .i64 0, .int .i64 0, .int .i64 0, .int .i64 0, .int .i64 0, .int .i64 0, .bool false, .int .i64 0]) b 0 _ rfl) 1 _ rfl) 2 _ rfl) 3 _ rfl) 4 _ rfl) 5 _ rfl) 6 _ rfl) 7 _ rfl) 8 _ rfl) 9 _ rfl) 10 _ rfl), Kd.R_drew (Kd.R_mono (Kd.R_far (p := ⟨gz, 10, none⟩) (Kd.R_far (p := ⟨gz, 9, none⟩) (Kd.R_far (p := ⟨gz, 8, none⟩) (Kd.R_far (p := ⟨gz, 7, none⟩) (Kd.R_far (p := ⟨gz, 6, none⟩) (Kd.R_far (p := ⟨gz, 5, none⟩) (Kd.R_far (p := ⟨gz, 4, none⟩) (Kd.R_far (p := ⟨gz, 3, none⟩) (Kd.R_far (p := ⟨gz, 2, none⟩) (Kd.R_far (p := ⟨gz, 1, none⟩) (Kd.R_far (p := ⟨gz, 0, none⟩) (Kd.R_types hr b (by decide)) (fun _ hk => hk.2) _) (fun _ hk => hk.2) _) (fun _ hk => hk.2) _) (fun _ hk => hk.2) _) (fun _ hk => hk.2) _) (fun _ hk => hk.2) _) (fun _ hk => hk.2) _) (fun _ hk => hk.2) _) (fun _ hk => hk.2) _) (fun _ hk => hk.2) _) (fun _ hk => hk.2) _) (fun _ _ => trivial)), below_drew1 (below_set (below_set (below_set (below_set (below_set (below_set (below_set (below_set (below_set (below_set (below_set hb hg) hg) hg) hg) hg) hg) hg) hg) hg) hg) hg)⟩
set_option maxHeartbeats 8000000 in
set_option maxRecDepth 100000 in
theorem impl_StepTask.calls (k : Nat) (A0 : Option Addr) (c0 : Nat) (l0 : List Int) (a1_0 : Int) (a1_1 : Int) (a1_2 : Int) (a1_3 : Int) (a1_4 : Int) (a1_5 : Int) (a1_6 : Int) (a1_7 : Int) (a1_8 : Int) (a1_9 : Bool) (a1_10 : Int) (r1 : List Int) (r2 : Int) (r3 : Int) (r4 : Int) (r5 : Int) (r6 : Int) (r7 : Int) (r8 : Int) (r9 : Int) (r10 : Int) (r11 : Bool) (r12 : Int) (w : World) (hr0 : Kd.C (Kd.int .i64) w A0 l0.length l0) (hc0 : l0.length ≤ c0) (h : impl_StepTask.f k l0 a1_0 a1_1 a1_2 a1_3 a1_4 a1_5 a1_6 a1_7 a1_8 a1_9 a1_10 = some (r1, r2, r3, r4, r5, r6, r7, r8, r9, r10, r11, r12)) :
  Calls Try.prog 39 #[.slice A0 l0.length c0, .agg #[.int .i64 a1_0, .int .i64 a1_1, .int .i64 a1_2, .int .i64 a1_3, .int .i64 a1_4, .int .i64 a1_5, .int .i64 a1_6, .int .i64 a1_7, .int .i64 a1_8, .bool a1_9, .int .i64 a1_10]] w fun e w' => ∃ v0_ : Value, e = .returned (.tuple #[v0_, .agg #[.int .i64 r2, .int .i64 r3, .int .i64 r4, .int .i64 r5, .int .i64 r6, .int .i64 r7, .int .i64 r8, .int .i64 r9, .int .i64 r10, .bool r11, .int .i64 r12]]) ∧ Kd.R (Kd.int .i64) 3 w' w.heap.size (fun _ => True) v0_ r1 ∧ Below w.heap.size w w' := by
 have hu46 := Try.underlying46
 have HR0 := Aside0.mk hr0
 have HC0 := Aside0.mk hc0
 clear hr0 hc0
 have HB := Aside0.mk (Below.refl w.heap.size w)
 have H : ((impl_copyInts.f l0).bind fun t324 => (if a1_9 = true then (some (t324, a1_0, a1_1, a1_2, a1_3, a1_4, a1_5, a1_6, a1_7, a1_8, a1_9, a1_10)) else ((impl_TaskOk.f k a1_0 a1_1 a1_2 a1_3 a1_4 a1_5 a1_6 a1_7 a1_8 a1_9 a1_10).bind fun t327 => (if t327 = true then (if (l0.length : Int) = 63 then ((impl_CellsOk.f k l0).bind fun t328 => (if t328 = true then ((impl_Task_step.f k a1_0 a1_1 a1_2 a1_3 a1_4 a1_5 a1_6 a1_7 a1_8 a1_9 a1_10 t324).bind fun bt329 => (some (bt329.2.2.2.2.2.2.2.2.2.2.2, bt329.1, bt329.2.1, bt329.2.2.1, bt329.2.2.2.1, bt329.2.2.2.2.1, bt329.2.2.2.2.2.1, bt329.2.2.2.2.2.2.1, bt329.2.2.2.2.2.2.2.1, bt329.2.2.2.2.2.2.2.2.1, bt329.2.2.2.2.2.2.2.2.2.1, bt329.2.2.2.2.2.2.2.2.2.2.1))) else (some (t324, a1_0, a1_1, a1_2, a1_3, a1_4, a1_5, a1_6, a1_7, a1_8, a1_9, a1_10)))) else (some (t324, a1_0, a1_1, a1_2, a1_3, a1_4, a1_5, a1_6, a1_7, a1_8, a1_9, a1_10))) else (some (t324, a1_0, a1_1, a1_2, a1_3, a1_4, a1_5, a1_6, a1_7, a1_8, a1_9, a1_10)))))) = some (r1, r2, r3, r4, r5, r6, r7, r8, r9, r10, r11, r12) := h
 clear h
 obtain ⟨y, A1, H⟩ := Option.bind_eq_some_iff.1 H
 replace A1 := Aside0.mk A1
 cases a1_9 with
 | true =>
  rw [if_pos rfl] at H
  have H' := Aside0.mk (Option.some.inj H)
  clear H
  go_enter Try.func39, Try.ntmps39
  go_wp2_with (first | ((with_reducible refine gate_dst (N := 3) rfl ?_); refine bE 3 #[.int .i64 a1_0, .int .i64 a1_1, .int .i64 a1_2, .int .i64 a1_3, .int .i64 a1_4, .int .i64 a1_5, .int .i64 a1_6, .int .i64 a1_7, .int .i64 a1_8, .bool true, .int .i64 a1_10] 46 ?_; intro gb hg w1 hbox hb; have BK1 := Aside0.mk hbox; have HB1 := Aside0.mk hb; have GB : Aside0 (w.heap.size ≤ gb) := ⟨Nat.le_of_eq hg.symm⟩; clear hbox hb hg) | ((with_reducible refine gate_dst (N := 5) rfl ?_); refine bE 5 #[.int .i64 0, .int .i64 0, .int .i64 0, .int .i64 0, .int .i64 0, .int .i64 0, .int .i64 0, .int .i64 0, .int .i64 0, .bool false, .int .i64 0] 46 ?_; intro gz hg w2 hbox hb; have BZ2 := Aside0.mk hbox; have NE := NL BK1.out hg; have BK2 := BB BK1.out hb; have HB2 := Aside0.mk (below_then HB1.out HB1.out.size hb); have GZ : Aside0 (w.heap.size ≤ gz) := ⟨by have := HB1.out.size; omega⟩; clear hbox hb hg) | (go_at_call 51; refine (impl_copyInts.calls A0 c0 l0 y w2 (Kd.C_below HR0.out HB2.out) HC0.out A1.out).mono ?_; rintro e w3 ⟨v0, rfl, hr, hb⟩; have HO3 := Aside0.mk (Kd.R_lower hr (show w.heap.size ≤ w2.heap.size from HB2.out.size)); have BK3 := BB BK2.out hb; have BZ3 := BB BZ2.out hb; have HB3 := Aside0.mk (below_then HB2.out HB2.out.size hb); have x0 : w3.cell? ⟨gb, 0, none⟩ = some (.int .i64 a1_0) := CZ BK3.out 0; have x1 : w3.cell? ⟨gb, 1, none⟩ = some (.int .i64 a1_1) := CZ BK3.out 1; have x2 : w3.cell? ⟨gb, 2, none⟩ = some (.int .i64 a1_2) := CZ BK3.out 2; have x3 : w3.cell? ⟨gb, 3, none⟩ = some (.int .i64 a1_3) := CZ BK3.out 3; have x4 : w3.cell? ⟨gb, 4, none⟩ = some (.int .i64 a1_4) := CZ BK3.out 4; have x5 : w3.cell? ⟨gb, 5, none⟩ = some (.int .i64 a1_5) := CZ BK3.out 5; have x6 : w3.cell? ⟨gb, 6, none⟩ = some (.int .i64 a1_6) := CZ BK3.out 6; have x7 : w3.cell? ⟨gb, 7, none⟩ = some (.int .i64 a1_7) := CZ BK3.out 7; have x8 : w3.cell? ⟨gb, 8, none⟩ = some (.int .i64 a1_8) := CZ BK3.out 8; have x9 : w3.cell? ⟨gb, 9, none⟩ = some (.bool true) := CZ BK3.out 9; have x10 : w3.cell? ⟨gb, 10, none⟩ = some (.int .i64 a1_10) := CZ BK3.out 10; clear hr hb))
  have z0 : w3.cell? ⟨gz, 0, none⟩ = some (.int .i64 0) := CZ BZ3.out 0
  have z1 : w3.cell? ⟨gz, 1, none⟩ = some (.int .i64 0) := CZ BZ3.out 1
  have z2 : w3.cell? ⟨gz, 2, none⟩ = some (.int .i64 0) := CZ BZ3.out 2
  have z3 : w3.cell? ⟨gz, 3, none⟩ = some (.int .i64 0) := CZ BZ3.out 3
  have z4 : w3.cell? ⟨gz, 4, none⟩ = some (.int .i64 0) := CZ BZ3.out 4
  have z5 : w3.cell? ⟨gz, 5, none⟩ = some (.int .i64 0) := CZ BZ3.out 5
  have z6 : w3.cell? ⟨gz, 6, none⟩ = some (.int .i64 0) := CZ BZ3.out 6
  have z7 : w3.cell? ⟨gz, 7, none⟩ = some (.int .i64 0) := CZ BZ3.out 7
  have z8 : w3.cell? ⟨gz, 8, none⟩ = some (.int .i64 0) := CZ BZ3.out 8
  have z9 : w3.cell? ⟨gz, 9, none⟩ = some (.bool false) := CZ BZ3.out 9
  have z10 : w3.cell? ⟨gz, 10, none⟩ = some (.int .i64 0) := CZ BZ3.out 10
  have hne2 : gz ≠ gb := fun e => NE.out e.symm
  have fz0 := blk_frozen BZ3.out 0
  have fz1 := blk_frozen BZ3.out 1
  have fz2 := blk_frozen BZ3.out 2
  have fz3 := blk_frozen BZ3.out 3
  have fz4 := blk_frozen BZ3.out 4
  have fz5 := blk_frozen BZ3.out 5
  have fz6 := blk_frozen BZ3.out 6
  have fz7 := blk_frozen BZ3.out 7
  have fz8 := blk_frozen BZ3.out 8
  have fz9 := blk_frozen BZ3.out 9
  have fz10 := blk_frozen BZ3.out 10
  have FI := Aside0.mk (impl_StepTask.fin (a1_0) (a1_1) (a1_2) (a1_3) (a1_4) (a1_5) (a1_6) (a1_7) (a1_8) (true) (a1_10) BZ3.out HB3.out GZ.out HO3.out)
  go_region
  go_wp2
  refine bodyPost_ret (results_tc rfl _ _ gz 46 #[.int .i64 a1_0, .int .i64 a1_1, .int .i64 a1_2, .int .i64 a1_3, .int .i64 a1_4, .int .i64 a1_5, .int .i64 a1_6, .int .i64 a1_7, .int .i64 a1_8, .bool true, .int .i64 a1_10] (0, 0) _ rfl FI.out.1 Try.underlying46 rfl (by kernel_rfl)) rfl ?_
  obtain ⟨_, f2, f3⟩ := FI.out
  have H2 := H'.out
  cases H2
  exact ⟨_, rfl, f2, f3⟩
 | false =>
  rw [if_neg (by decide)] at H
  obtain ⟨b, A2, H⟩ := Option.bind_eq_some_iff.1 H
  replace A2 := Aside0.mk A2
  cases b with
  | false =>
   rw [if_neg (by decide)] at H
   have H' := Aside0.mk (Option.some.inj H)
   clear H
   go_enter Try.func39, Try.ntmps39
   go_wp2_with (first | ((with_reducible refine gate_dst (N := 3) rfl ?_); refine bE 3 #[.int .i64 a1_0, .int .i64 a1_1, .int .i64 a1_2, .int .i64 a1_3, .int .i64 a1_4, .int .i64 a1_5, .int .i64 a1_6, .int .i64 a1_7, .int .i64 a1_8, .bool false, .int .i64 a1_10] 46 ?_; intro gb hg w1 hbox hb; have BK1 := Aside0.mk hbox; have HB1 := Aside0.mk hb; have GB : Aside0 (w.heap.size ≤ gb) := ⟨Nat.le_of_eq hg.symm⟩; clear hbox hb hg) | ((with_reducible refine gate_dst (N := 5) rfl ?_); refine bE 5 #[.int .i64 0, .int .i64 0, .int .i64 0, .int .i64 0, .int .i64 0, .int .i64 0, .int .i64 0, .int .i64 0, .int .i64 0, .bool false, .int .i64 0] 46 ?_; intro gz hg w2 hbox hb; have BZ2 := Aside0.mk hbox; have NE := NL BK1.out hg; have BK2 := BB BK1.out hb; have HB2 := Aside0.mk (below_then HB1.out HB1.out.size hb); have GZ : Aside0 (w.heap.size ≤ gz) := ⟨by have := HB1.out.size; omega⟩; clear hbox hb hg) | (go_at_call 51; refine (impl_copyInts.calls A0 c0 l0 y w2 (Kd.C_below HR0.out HB2.out) HC0.out A1.out).mono ?_; rintro e w3 ⟨v0, rfl, hr, hb⟩; have HO3 := Aside0.mk (Kd.R_lower hr (show w.heap.size ≤ w2.heap.size from HB2.out.size)); have BK3 := BB BK2.out hb; have BZ3 := BB BZ2.out hb; have HB3 := Aside0.mk (below_then HB2.out HB2.out.size hb); have x0 : w3.cell? ⟨gb, 0, none⟩ = some (.int .i64 a1_0) := CZ BK3.out 0; have x1 : w3.cell? ⟨gb, 1, none⟩ = some (.int .i64 a1_1) := CZ BK3.out 1; have x2 : w3.cell? ⟨gb, 2, none⟩ = some (.int .i64 a1_2) := CZ BK3.out 2; have x3 : w3.cell? ⟨gb, 3, none⟩ = some (.int .i64 a1_3) := CZ BK3.out 3; have x4 : w3.cell? ⟨gb, 4, none⟩ = some (.int .i64 a1_4) := CZ BK3.out 4; have x5 : w3.cell? ⟨gb, 5, none⟩ = some (.int .i64 a1_5) := CZ BK3.out 5; have x6 : w3.cell? ⟨gb, 6, none⟩ = some (.int .i64 a1_6) := CZ BK3.out 6; have x7 : w3.cell? ⟨gb, 7, none⟩ = some (.int .i64 a1_7) := CZ BK3.out 7; have x8 : w3.cell? ⟨gb, 8, none⟩ = some (.int .i64 a1_8) := CZ BK3.out 8; have x9 : w3.cell? ⟨gb, 9, none⟩ = some (.bool false) := CZ BK3.out 9; have x10 : w3.cell? ⟨gb, 10, none⟩ = some (.int .i64 a1_10) := CZ BK3.out 10; clear hr hb) | (go_at_call 44; refine (impl_TaskOk.calls k a1_0 a1_1 a1_2 a1_3 a1_4 a1_5 a1_6 a1_7 a1_8 false a1_10 false w3 A2.out).mono ?_; rintro e w4 ⟨rfl, hb⟩; have HO4 := Aside0.mk (Kd.R_below HO3.out hb); have BK4 := BB BK3.out hb; have BZ4 := BB BZ3.out hb; have HB4 := Aside0.mk (below_then HB3.out HB3.out.size hb); have d0 : w4.cell? ⟨gb, 0, none⟩ = some (.int .i64 a1_0) := CZ BK4.out 0; have d1 : w4.cell? ⟨gb, 1, none⟩ = some (.int .i64 a1_1) := CZ BK4.out 1; have d2 : w4.cell? ⟨gb, 2, none⟩ = some (.int .i64 a1_2) := CZ BK4.out 2; have d3 : w4.cell? ⟨gb, 3, none⟩ = some (.int .i64 a1_3) := CZ BK4.out 3; have d4 : w4.cell? ⟨gb, 4, none⟩ = some (.int .i64 a1_4) := CZ BK4.out 4; have d5 : w4.cell? ⟨gb, 5, none⟩ = some (.int .i64 a1_5) := CZ BK4.out 5; have d6 : w4.cell? ⟨gb, 6, none⟩ = some (.int .i64 a1_6) := CZ BK4.out 6; have d7 : w4.cell? ⟨gb, 7, none⟩ = some (.int .i64 a1_7) := CZ BK4.out 7; have d8 : w4.cell? ⟨gb, 8, none⟩ = some (.int .i64 a1_8) := CZ BK4.out 8; have d9 : w4.cell? ⟨gb, 9, none⟩ = some (.bool false) := CZ BK4.out 9; have d10 : w4.cell? ⟨gb, 10, none⟩ = some (.int .i64 a1_10) := CZ BK4.out 10; clear hb))
   have z0 : w4.cell? ⟨gz, 0, none⟩ = some (.int .i64 0) := CZ BZ4.out 0
   have z1 : w4.cell? ⟨gz, 1, none⟩ = some (.int .i64 0) := CZ BZ4.out 1
   have z2 : w4.cell? ⟨gz, 2, none⟩ = some (.int .i64 0) := CZ BZ4.out 2
   have z3 : w4.cell? ⟨gz, 3, none⟩ = some (.int .i64 0) := CZ BZ4.out 3
   have z4 : w4.cell? ⟨gz, 4, none⟩ = some (.int .i64 0) := CZ BZ4.out 4
   have z5 : w4.cell? ⟨gz, 5, none⟩ = some (.int .i64 0) := CZ BZ4.out 5
   have z6 : w4.cell? ⟨gz, 6, none⟩ = some (.int .i64 0) := CZ BZ4.out 6
   have z7 : w4.cell? ⟨gz, 7, none⟩ = some (.int .i64 0) := CZ BZ4.out 7
   have z8 : w4.cell? ⟨gz, 8, none⟩ = some (.int .i64 0) := CZ BZ4.out 8
   have z9 : w4.cell? ⟨gz, 9, none⟩ = some (.bool false) := CZ BZ4.out 9
   have z10 : w4.cell? ⟨gz, 10, none⟩ = some (.int .i64 0) := CZ BZ4.out 10
   have hne2 : gz ≠ gb := fun e => NE.out e.symm
   have fz0 := blk_frozen BZ4.out 0
   have fz1 := blk_frozen BZ4.out 1
   have fz2 := blk_frozen BZ4.out 2
   have fz3 := blk_frozen BZ4.out 3
   have fz4 := blk_frozen BZ4.out 4
   have fz5 := blk_frozen BZ4.out 5
   have fz6 := blk_frozen BZ4.out 6
   have fz7 := blk_frozen BZ4.out 7
   have fz8 := blk_frozen BZ4.out 8
   have fz9 := blk_frozen BZ4.out 9
   have fz10 := blk_frozen BZ4.out 10
   have FI := Aside0.mk (impl_StepTask.fin (a1_0) (a1_1) (a1_2) (a1_3) (a1_4) (a1_5) (a1_6) (a1_7) (a1_8) (false) (a1_10) BZ4.out HB4.out GZ.out HO4.out)
   go_region
   go_wp2
   refine bodyPost_ret (results_tc rfl _ _ gz 46 #[.int .i64 a1_0, .int .i64 a1_1, .int .i64 a1_2, .int .i64 a1_3, .int .i64 a1_4, .int .i64 a1_5, .int .i64 a1_6, .int .i64 a1_7, .int .i64 a1_8, .bool false, .int .i64 a1_10] (0, 0) _ rfl FI.out.1 Try.underlying46 rfl (by kernel_rfl)) rfl ?_
   obtain ⟨_, f2, f3⟩ := FI.out
   have H2 := H'.out
   cases H2
   exact ⟨_, rfl, f2, f3⟩
  | true =>
   rw [if_pos rfl] at H
   by_cases hn : (l0.length : Int) = 63
   rotate_left
   ·
    rw [if_neg hn] at H
    have hn0 : ((l0.length : Int) == 63) = false := beq_eq_false_iff_ne.mpr hn
    have hn1 : ((l0.length : Int) != 63) = true := bne_iff_ne.mpr hn
    have H' := Aside0.mk (Option.some.inj H)
    clear H
    go_enter Try.func39, Try.ntmps39
    go_wp2_with (first | ((with_reducible refine gate_dst (N := 3) rfl ?_); refine bE 3 #[.int .i64 a1_0, .int .i64 a1_1, .int .i64 a1_2, .int .i64 a1_3, .int .i64 a1_4, .int .i64 a1_5, .int .i64 a1_6, .int .i64 a1_7, .int .i64 a1_8, .bool false, .int .i64 a1_10] 46 ?_; intro gb hg w1 hbox hb; have BK1 := Aside0.mk hbox; have HB1 := Aside0.mk hb; have GB : Aside0 (w.heap.size ≤ gb) := ⟨Nat.le_of_eq hg.symm⟩; clear hbox hb hg) | ((with_reducible refine gate_dst (N := 5) rfl ?_); refine bE 5 #[.int .i64 0, .int .i64 0, .int .i64 0, .int .i64 0, .int .i64 0, .int .i64 0, .int .i64 0, .int .i64 0, .int .i64 0, .bool false, .int .i64 0] 46 ?_; intro gz hg w2 hbox hb; have BZ2 := Aside0.mk hbox; have NE := NL BK1.out hg; have BK2 := BB BK1.out hb; have HB2 := Aside0.mk (below_then HB1.out HB1.out.size hb); have GZ : Aside0 (w.heap.size ≤ gz) := ⟨by have := HB1.out.size; omega⟩; clear hbox hb hg) | (go_at_call 51; refine (impl_copyInts.calls A0 c0 l0 y w2 (Kd.C_below HR0.out HB2.out) HC0.out A1.out).mono ?_; rintro e w3 ⟨v0, rfl, hr, hb⟩; have HO3 := Aside0.mk (Kd.R_lower hr (show w.heap.size ≤ w2.heap.size from HB2.out.size)); have BK3 := BB BK2.out hb; have BZ3 := BB BZ2.out hb; have HB3 := Aside0.mk (below_then HB2.out HB2.out.size hb); have x0 : w3.cell? ⟨gb, 0, none⟩ = some (.int .i64 a1_0) := CZ BK3.out 0; have x1 : w3.cell? ⟨gb, 1, none⟩ = some (.int .i64 a1_1) := CZ BK3.out 1; have x2 : w3.cell? ⟨gb, 2, none⟩ = some (.int .i64 a1_2) := CZ BK3.out 2; have x3 : w3.cell? ⟨gb, 3, none⟩ = some (.int .i64 a1_3) := CZ BK3.out 3; have x4 : w3.cell? ⟨gb, 4, none⟩ = some (.int .i64 a1_4) := CZ BK3.out 4; have x5 : w3.cell? ⟨gb, 5, none⟩ = some (.int .i64 a1_5) := CZ BK3.out 5; have x6 : w3.cell? ⟨gb, 6, none⟩ = some (.int .i64 a1_6) := CZ BK3.out 6; have x7 : w3.cell? ⟨gb, 7, none⟩ = some (.int .i64 a1_7) := CZ BK3.out 7; have x8 : w3.cell? ⟨gb, 8, none⟩ = some (.int .i64 a1_8) := CZ BK3.out 8; have x9 : w3.cell? ⟨gb, 9, none⟩ = some (.bool false) := CZ BK3.out 9; have x10 : w3.cell? ⟨gb, 10, none⟩ = some (.int .i64 a1_10) := CZ BK3.out 10; clear hr hb) | (go_at_call 44; refine (impl_TaskOk.calls k a1_0 a1_1 a1_2 a1_3 a1_4 a1_5 a1_6 a1_7 a1_8 false a1_10 true w3 A2.out).mono ?_; rintro e w4 ⟨rfl, hb⟩; have HO4 := Aside0.mk (Kd.R_below HO3.out hb); have BK4 := BB BK3.out hb; have BZ4 := BB BZ3.out hb; have HB4 := Aside0.mk (below_then HB3.out HB3.out.size hb); have d0 : w4.cell? ⟨gb, 0, none⟩ = some (.int .i64 a1_0) := CZ BK4.out 0; have d1 : w4.cell? ⟨gb, 1, none⟩ = some (.int .i64 a1_1) := CZ BK4.out 1; have d2 : w4.cell? ⟨gb, 2, none⟩ = some (.int .i64 a1_2) := CZ BK4.out 2; have d3 : w4.cell? ⟨gb, 3, none⟩ = some (.int .i64 a1_3) := CZ BK4.out 3; have d4 : w4.cell? ⟨gb, 4, none⟩ = some (.int .i64 a1_4) := CZ BK4.out 4; have d5 : w4.cell? ⟨gb, 5, none⟩ = some (.int .i64 a1_5) := CZ BK4.out 5; have d6 : w4.cell? ⟨gb, 6, none⟩ = some (.int .i64 a1_6) := CZ BK4.out 6; have d7 : w4.cell? ⟨gb, 7, none⟩ = some (.int .i64 a1_7) := CZ BK4.out 7; have d8 : w4.cell? ⟨gb, 8, none⟩ = some (.int .i64 a1_8) := CZ BK4.out 8; have d9 : w4.cell? ⟨gb, 9, none⟩ = some (.bool false) := CZ BK4.out 9; have d10 : w4.cell? ⟨gb, 10, none⟩ = some (.int .i64 a1_10) := CZ BK4.out 10; clear hb))
    have z0 : w4.cell? ⟨gz, 0, none⟩ = some (.int .i64 0) := CZ BZ4.out 0
    have z1 : w4.cell? ⟨gz, 1, none⟩ = some (.int .i64 0) := CZ BZ4.out 1
    have z2 : w4.cell? ⟨gz, 2, none⟩ = some (.int .i64 0) := CZ BZ4.out 2
    have z3 : w4.cell? ⟨gz, 3, none⟩ = some (.int .i64 0) := CZ BZ4.out 3
    have z4 : w4.cell? ⟨gz, 4, none⟩ = some (.int .i64 0) := CZ BZ4.out 4
    have z5 : w4.cell? ⟨gz, 5, none⟩ = some (.int .i64 0) := CZ BZ4.out 5
    have z6 : w4.cell? ⟨gz, 6, none⟩ = some (.int .i64 0) := CZ BZ4.out 6
    have z7 : w4.cell? ⟨gz, 7, none⟩ = some (.int .i64 0) := CZ BZ4.out 7
    have z8 : w4.cell? ⟨gz, 8, none⟩ = some (.int .i64 0) := CZ BZ4.out 8
    have z9 : w4.cell? ⟨gz, 9, none⟩ = some (.bool false) := CZ BZ4.out 9
    have z10 : w4.cell? ⟨gz, 10, none⟩ = some (.int .i64 0) := CZ BZ4.out 10
    have hne2 : gz ≠ gb := fun e => NE.out e.symm
    have fz0 := blk_frozen BZ4.out 0
    have fz1 := blk_frozen BZ4.out 1
    have fz2 := blk_frozen BZ4.out 2
    have fz3 := blk_frozen BZ4.out 3
    have fz4 := blk_frozen BZ4.out 4
    have fz5 := blk_frozen BZ4.out 5
    have fz6 := blk_frozen BZ4.out 6
    have fz7 := blk_frozen BZ4.out 7
    have fz8 := blk_frozen BZ4.out 8
    have fz9 := blk_frozen BZ4.out 9
    have fz10 := blk_frozen BZ4.out 10
    have FI := Aside0.mk (impl_StepTask.fin (a1_0) (a1_1) (a1_2) (a1_3) (a1_4) (a1_5) (a1_6) (a1_7) (a1_8) (false) (a1_10) BZ4.out HB4.out GZ.out HO4.out)
    go_region
    go_wp2
    refine bodyPost_ret (results_tc rfl _ _ gz 46 #[.int .i64 a1_0, .int .i64 a1_1, .int .i64 a1_2, .int .i64 a1_3, .int .i64 a1_4, .int .i64 a1_5, .int .i64 a1_6, .int .i64 a1_7, .int .i64 a1_8, .bool false, .int .i64 a1_10] (0, 0) _ rfl FI.out.1 Try.underlying46 rfl (by kernel_rfl)) rfl ?_
    obtain ⟨_, f2, f3⟩ := FI.out
    have H2 := H'.out
    cases H2
    exact ⟨_, rfl, f2, f3⟩
   rw [if_pos hn] at H
   have hn0 : ((l0.length : Int) == 63) = true := beq_iff_eq.mpr hn
   have hn1 : ((l0.length : Int) != 63) = false := bne_eq_false_iff_eq.mpr hn
   obtain ⟨b, A3, H⟩ := Option.bind_eq_some_iff.1 H
   replace A3 := Aside0.mk A3
   cases b with
   | false =>
    rw [if_neg (by decide)] at H
    have H' := Aside0.mk (Option.some.inj H)
    clear H
    go_enter Try.func39, Try.ntmps39
    go_wp2_with (first | ((with_reducible refine gate_dst (N := 3) rfl ?_); refine bE 3 #[.int .i64 a1_0, .int .i64 a1_1, .int .i64 a1_2, .int .i64 a1_3, .int .i64 a1_4, .int .i64 a1_5, .int .i64 a1_6, .int .i64 a1_7, .int .i64 a1_8, .bool false, .int .i64 a1_10] 46 ?_; intro gb hg w1 hbox hb; have BK1 := Aside0.mk hbox; have HB1 := Aside0.mk hb; have GB : Aside0 (w.heap.size ≤ gb) := ⟨Nat.le_of_eq hg.symm⟩; clear hbox hb hg) | ((with_reducible refine gate_dst (N := 5) rfl ?_); refine bE 5 #[.int .i64 0, .int .i64 0, .int .i64 0, .int .i64 0, .int .i64 0, .int .i64 0, .int .i64 0, .int .i64 0, .int .i64 0, .bool false, .int .i64 0] 46 ?_; intro gz hg w2 hbox hb; have BZ2 := Aside0.mk hbox; have NE := NL BK1.out hg; have BK2 := BB BK1.out hb; have HB2 := Aside0.mk (below_then HB1.out HB1.out.size hb); have GZ : Aside0 (w.heap.size ≤ gz) := ⟨by have := HB1.out.size; omega⟩; clear hbox hb hg) | (go_at_call 51; refine (impl_copyInts.calls A0 c0 l0 y w2 (Kd.C_below HR0.out HB2.out) HC0.out A1.out).mono ?_; rintro e w3 ⟨v0, rfl, hr, hb⟩; have HO3 := Aside0.mk (Kd.R_lower hr (show w.heap.size ≤ w2.heap.size from HB2.out.size)); have BK3 := BB BK2.out hb; have BZ3 := BB BZ2.out hb; have HB3 := Aside0.mk (below_then HB2.out HB2.out.size hb); have x0 : w3.cell? ⟨gb, 0, none⟩ = some (.int .i64 a1_0) := CZ BK3.out 0; have x1 : w3.cell? ⟨gb, 1, none⟩ = some (.int .i64 a1_1) := CZ BK3.out 1; have x2 : w3.cell? ⟨gb, 2, none⟩ = some (.int .i64 a1_2) := CZ BK3.out 2; have x3 : w3.cell? ⟨gb, 3, none⟩ = some (.int .i64 a1_3) := CZ BK3.out 3; have x4 : w3.cell? ⟨gb, 4, none⟩ = some (.int .i64 a1_4) := CZ BK3.out 4; have x5 : w3.cell? ⟨gb, 5, none⟩ = some (.int .i64 a1_5) := CZ BK3.out 5; have x6 : w3.cell? ⟨gb, 6, none⟩ = some (.int .i64 a1_6) := CZ BK3.out 6; have x7 : w3.cell? ⟨gb, 7, none⟩ = some (.int .i64 a1_7) := CZ BK3.out 7; have x8 : w3.cell? ⟨gb, 8, none⟩ = some (.int .i64 a1_8) := CZ BK3.out 8; have x9 : w3.cell? ⟨gb, 9, none⟩ = some (.bool false) := CZ BK3.out 9; have x10 : w3.cell? ⟨gb, 10, none⟩ = some (.int .i64 a1_10) := CZ BK3.out 10; clear hr hb) | (go_at_call 44; refine (impl_TaskOk.calls k a1_0 a1_1 a1_2 a1_3 a1_4 a1_5 a1_6 a1_7 a1_8 false a1_10 true w3 A2.out).mono ?_; rintro e w4 ⟨rfl, hb⟩; have HO4 := Aside0.mk (Kd.R_below HO3.out hb); have BK4 := BB BK3.out hb; have BZ4 := BB BZ3.out hb; have HB4 := Aside0.mk (below_then HB3.out HB3.out.size hb); have d0 : w4.cell? ⟨gb, 0, none⟩ = some (.int .i64 a1_0) := CZ BK4.out 0; have d1 : w4.cell? ⟨gb, 1, none⟩ = some (.int .i64 a1_1) := CZ BK4.out 1; have d2 : w4.cell? ⟨gb, 2, none⟩ = some (.int .i64 a1_2) := CZ BK4.out 2; have d3 : w4.cell? ⟨gb, 3, none⟩ = some (.int .i64 a1_3) := CZ BK4.out 3; have d4 : w4.cell? ⟨gb, 4, none⟩ = some (.int .i64 a1_4) := CZ BK4.out 4; have d5 : w4.cell? ⟨gb, 5, none⟩ = some (.int .i64 a1_5) := CZ BK4.out 5; have d6 : w4.cell? ⟨gb, 6, none⟩ = some (.int .i64 a1_6) := CZ BK4.out 6; have d7 : w4.cell? ⟨gb, 7, none⟩ = some (.int .i64 a1_7) := CZ BK4.out 7; have d8 : w4.cell? ⟨gb, 8, none⟩ = some (.int .i64 a1_8) := CZ BK4.out 8; have d9 : w4.cell? ⟨gb, 9, none⟩ = some (.bool false) := CZ BK4.out 9; have d10 : w4.cell? ⟨gb, 10, none⟩ = some (.int .i64 a1_10) := CZ BK4.out 10; clear hb) | (go_at_call 27; refine (impl_CellsOk.calls k A0 c0 l0 false w4 (Kd.C_below HR0.out HB4.out) HC0.out A3.out).mono ?_; rintro e w5 ⟨rfl, ⟨nd, hb0⟩⟩; have hb : Below w4.heap.size w4 w5 := (by rw [hb0]; exact pw_below_drewN (Below.refl _ _) _); clear hb0; have HO5 := Aside0.mk (Kd.R_below HO4.out hb); have BK5 := BB BK4.out hb; have BZ5 := BB BZ4.out hb; have HB5 := Aside0.mk (below_then HB4.out HB4.out.size hb); have e0 : w5.cell? ⟨gb, 0, none⟩ = some (.int .i64 a1_0) := CZ BK5.out 0; have e1 : w5.cell? ⟨gb, 1, none⟩ = some (.int .i64 a1_1) := CZ BK5.out 1; have e2 : w5.cell? ⟨gb, 2, none⟩ = some (.int .i64 a1_2) := CZ BK5.out 2; have e3 : w5.cell? ⟨gb, 3, none⟩ = some (.int .i64 a1_3) := CZ BK5.out 3; have e4 : w5.cell? ⟨gb, 4, none⟩ = some (.int .i64 a1_4) := CZ BK5.out 4; have e5 : w5.cell? ⟨gb, 5, none⟩ = some (.int .i64 a1_5) := CZ BK5.out 5; have e6 : w5.cell? ⟨gb, 6, none⟩ = some (.int .i64 a1_6) := CZ BK5.out 6; have e7 : w5.cell? ⟨gb, 7, none⟩ = some (.int .i64 a1_7) := CZ BK5.out 7; have e8 : w5.cell? ⟨gb, 8, none⟩ = some (.int .i64 a1_8) := CZ BK5.out 8; have e9 : w5.cell? ⟨gb, 9, none⟩ = some (.bool false) := CZ BK5.out 9; have e10 : w5.cell? ⟨gb, 10, none⟩ = some (.int .i64 a1_10) := CZ BK5.out 10; clear hb))
    have z0 : w5.cell? ⟨gz, 0, none⟩ = some (.int .i64 0) := CZ BZ5.out 0
    have z1 : w5.cell? ⟨gz, 1, none⟩ = some (.int .i64 0) := CZ BZ5.out 1
    have z2 : w5.cell? ⟨gz, 2, none⟩ = some (.int .i64 0) := CZ BZ5.out 2
    have z3 : w5.cell? ⟨gz, 3, none⟩ = some (.int .i64 0) := CZ BZ5.out 3
    have z4 : w5.cell? ⟨gz, 4, none⟩ = some (.int .i64 0) := CZ BZ5.out 4
    have z5 : w5.cell? ⟨gz, 5, none⟩ = some (.int .i64 0) := CZ BZ5.out 5
    have z6 : w5.cell? ⟨gz, 6, none⟩ = some (.int .i64 0) := CZ BZ5.out 6
    have z7 : w5.cell? ⟨gz, 7, none⟩ = some (.int .i64 0) := CZ BZ5.out 7
    have z8 : w5.cell? ⟨gz, 8, none⟩ = some (.int .i64 0) := CZ BZ5.out 8
    have z9 : w5.cell? ⟨gz, 9, none⟩ = some (.bool false) := CZ BZ5.out 9
    have z10 : w5.cell? ⟨gz, 10, none⟩ = some (.int .i64 0) := CZ BZ5.out 10
    have hne2 : gz ≠ gb := fun e => NE.out e.symm
    have fz0 := blk_frozen BZ5.out 0
    have fz1 := blk_frozen BZ5.out 1
    have fz2 := blk_frozen BZ5.out 2
    have fz3 := blk_frozen BZ5.out 3
    have fz4 := blk_frozen BZ5.out 4
    have fz5 := blk_frozen BZ5.out 5
    have fz6 := blk_frozen BZ5.out 6
    have fz7 := blk_frozen BZ5.out 7
    have fz8 := blk_frozen BZ5.out 8
    have fz9 := blk_frozen BZ5.out 9
    have fz10 := blk_frozen BZ5.out 10
    have FI := Aside0.mk (impl_StepTask.fin (a1_0) (a1_1) (a1_2) (a1_3) (a1_4) (a1_5) (a1_6) (a1_7) (a1_8) (false) (a1_10) BZ5.out HB5.out GZ.out HO5.out)
    go_region
    go_wp2
    refine bodyPost_ret (results_tc rfl _ _ gz 46 #[.int .i64 a1_0, .int .i64 a1_1, .int .i64 a1_2, .int .i64 a1_3, .int .i64 a1_4, .int .i64 a1_5, .int .i64 a1_6, .int .i64 a1_7, .int .i64 a1_8, .bool false, .int .i64 a1_10] (0, 0) _ rfl FI.out.1 Try.underlying46 rfl (by kernel_rfl)) rfl ?_
    obtain ⟨_, f2, f3⟩ := FI.out
    have H2 := H'.out
    cases H2
    exact ⟨_, rfl, f2, f3⟩
   | true =>
    rw [if_pos rfl] at H
    obtain ⟨bt, A4, H⟩ := Option.bind_eq_some_iff.1 H
    replace A4 := Aside0.mk A4
    have H' := Aside0.mk (Option.some.inj H)
    clear H
    go_enter Try.func39, Try.ntmps39
    go_wp2_with (first | ((with_reducible refine gate_dst (N := 3) rfl ?_); refine bE 3 #[.int .i64 a1_0, .int .i64 a1_1, .int .i64 a1_2, .int .i64 a1_3, .int .i64 a1_4, .int .i64 a1_5, .int .i64 a1_6, .int .i64 a1_7, .int .i64 a1_8, .bool false, .int .i64 a1_10] 46 ?_; intro gb hg w1 hbox hb; have BK1 := Aside0.mk hbox; have HB1 := Aside0.mk hb; have GB : Aside0 (w.heap.size ≤ gb) := ⟨Nat.le_of_eq hg.symm⟩; clear hbox hb hg) | ((with_reducible refine gate_dst (N := 5) rfl ?_); refine bE 5 #[.int .i64 0, .int .i64 0, .int .i64 0, .int .i64 0, .int .i64 0, .int .i64 0, .int .i64 0, .int .i64 0, .int .i64 0, .bool false, .int .i64 0] 46 ?_; intro gz hg w2 hbox hb; have BZ2 := Aside0.mk hbox; have NE := NL BK1.out hg; have BK2 := BB BK1.out hb; have HB2 := Aside0.mk (below_then HB1.out HB1.out.size hb); have GZ : Aside0 (w.heap.size ≤ gz) := ⟨by have := HB1.out.size; omega⟩; clear hbox hb hg) | (go_at_call 51; refine (impl_copyInts.calls A0 c0 l0 y w2 (Kd.C_below HR0.out HB2.out) HC0.out A1.out).mono ?_; rintro e w3 ⟨v0, rfl, hr, hb⟩; have HO3 := Aside0.mk (Kd.R_lower hr (show w.heap.size ≤ w2.heap.size from HB2.out.size)); have BK3 := BB BK2.out hb; have BZ3 := BB BZ2.out hb; have HB3 := Aside0.mk (below_then HB2.out HB2.out.size hb); have x0 : w3.cell? ⟨gb, 0, none⟩ = some (.int .i64 a1_0) := CZ BK3.out 0; have x1 : w3.cell? ⟨gb, 1, none⟩ = some (.int .i64 a1_1) := CZ BK3.out 1; have x2 : w3.cell? ⟨gb, 2, none⟩ = some (.int .i64 a1_2) := CZ BK3.out 2; have x3 : w3.cell? ⟨gb, 3, none⟩ = some (.int .i64 a1_3) := CZ BK3.out 3; have x4 : w3.cell? ⟨gb, 4, none⟩ = some (.int .i64 a1_4) := CZ BK3.out 4; have x5 : w3.cell? ⟨gb, 5, none⟩ = some (.int .i64 a1_5) := CZ BK3.out 5; have x6 : w3.cell? ⟨gb, 6, none⟩ = some (.int .i64 a1_6) := CZ BK3.out 6; have x7 : w3.cell? ⟨gb, 7, none⟩ = some (.int .i64 a1_7) := CZ BK3.out 7; have x8 : w3.cell? ⟨gb, 8, none⟩ = some (.int .i64 a1_8) := CZ BK3.out 8; have x9 : w3.cell? ⟨gb, 9, none⟩ = some (.bool false) := CZ BK3.out 9; have x10 : w3.cell? ⟨gb, 10, none⟩ = some (.int .i64 a1_10) := CZ BK3.out 10; clear hr hb) | (go_at_call 44; refine (impl_TaskOk.calls k a1_0 a1_1 a1_2 a1_3 a1_4 a1_5 a1_6 a1_7 a1_8 false a1_10 true w3 A2.out).mono ?_; rintro e w4 ⟨rfl, hb⟩; have HO4 := Aside0.mk (Kd.R_below HO3.out hb); have BK4 := BB BK3.out hb; have BZ4 := BB BZ3.out hb; have HB4 := Aside0.mk (below_then HB3.out HB3.out.size hb); have d0 : w4.cell? ⟨gb, 0, none⟩ = some (.int .i64 a1_0) := CZ BK4.out 0; have d1 : w4.cell? ⟨gb, 1, none⟩ = some (.int .i64 a1_1) := CZ BK4.out 1; have d2 : w4.cell? ⟨gb, 2, none⟩ = some (.int .i64 a1_2) := CZ BK4.out 2; have d3 : w4.cell? ⟨gb, 3, none⟩ = some (.int .i64 a1_3) := CZ BK4.out 3; have d4 : w4.cell? ⟨gb, 4, none⟩ = some (.int .i64 a1_4) := CZ BK4.out 4; have d5 : w4.cell? ⟨gb, 5, none⟩ = some (.int .i64 a1_5) := CZ BK4.out 5; have d6 : w4.cell? ⟨gb, 6, none⟩ = some (.int .i64 a1_6) := CZ BK4.out 6; have d7 : w4.cell? ⟨gb, 7, none⟩ = some (.int .i64 a1_7) := CZ BK4.out 7; have d8 : w4.cell? ⟨gb, 8, none⟩ = some (.int .i64 a1_8) := CZ BK4.out 8; have d9 : w4.cell? ⟨gb, 9, none⟩ = some (.bool false) := CZ BK4.out 9; have d10 : w4.cell? ⟨gb, 10, none⟩ = some (.int .i64 a1_10) := CZ BK4.out 10; clear hb) | (go_at_call 27; refine (impl_CellsOk.calls k A0 c0 l0 true w4 (Kd.C_below HR0.out HB4.out) HC0.out A3.out).mono ?_; rintro e w5 ⟨rfl, ⟨nd, hb0⟩⟩; have hb : Below w4.heap.size w4 w5 := (by rw [hb0]; exact pw_below_drewN (Below.refl _ _) _); clear hb0; have HO5 := Aside0.mk (Kd.R_below HO4.out hb); have BK5 := BB BK4.out hb; have BZ5 := BB BZ4.out hb; have HB5 := Aside0.mk (below_then HB4.out HB4.out.size hb); have e0 : w5.cell? ⟨gb, 0, none⟩ = some (.int .i64 a1_0) := CZ BK5.out 0; have e1 : w5.cell? ⟨gb, 1, none⟩ = some (.int .i64 a1_1) := CZ BK5.out 1; have e2 : w5.cell? ⟨gb, 2, none⟩ = some (.int .i64 a1_2) := CZ BK5.out 2; have e3 : w5.cell? ⟨gb, 3, none⟩ = some (.int .i64 a1_3) := CZ BK5.out 3; have e4 : w5.cell? ⟨gb, 4, none⟩ = some (.int .i64 a1_4) := CZ BK5.out 4; have e5 : w5.cell? ⟨gb, 5, none⟩ = some (.int .i64 a1_5) := CZ BK5.out 5; have e6 : w5.cell? ⟨gb, 6, none⟩ = some (.int .i64 a1_6) := CZ BK5.out 6; have e7 : w5.cell? ⟨gb, 7, none⟩ = some (.int .i64 a1_7) := CZ BK5.out 7; have e8 : w5.cell? ⟨gb, 8, none⟩ = some (.int .i64 a1_8) := CZ BK5.out 8; have e9 : w5.cell? ⟨gb, 9, none⟩ = some (.bool false) := CZ BK5.out 9; have e10 : w5.cell? ⟨gb, 10, none⟩ = some (.int .i64 a1_10) := CZ BK5.out 10; clear hb) | (go_at_call 69; refine (impl_Task_step.calls k gb a1_0 a1_1 a1_2 a1_3 a1_4 a1_5 a1_6 a1_7 a1_8 false a1_10 (fun k_ => True ∧ k_ ≠ gz) v0 y bt.1 bt.2.1 bt.2.2.1 bt.2.2.2.1 bt.2.2.2.2.1 bt.2.2.2.2.2.1 bt.2.2.2.2.2.2.1 bt.2.2.2.2.2.2.2.1 bt.2.2.2.2.2.2.2.2.1 bt.2.2.2.2.2.2.2.2.2.1 bt.2.2.2.2.2.2.2.2.2.2.1 bt.2.2.2.2.2.2.2.2.2.2.2 w w5 ⟨BK5.out, GB.out⟩ HB5.out (Kd.R_types HO5.out BZ5.out (by decide)) A4.out).mono ?_; rintro e w6 ⟨rfl, hi, hr, hb, hk⟩; have HO6 := Aside0.mk hr; have BK6 := Aside0.mk hi.1; have BZ6 := Aside0.mk (blk_kept BZ5.out hk (by rintro (h_ | h_); exact h_.2 rfl; exact NE.out h_.symm)); have HB6 := Aside0.mk hb; have f0 : w6.cell? ⟨gb, 0, none⟩ = some (.int .i64 bt.1) := CZ BK6.out 0; have f1 : w6.cell? ⟨gb, 1, none⟩ = some (.int .i64 bt.2.1) := CZ BK6.out 1; have f2 : w6.cell? ⟨gb, 2, none⟩ = some (.int .i64 bt.2.2.1) := CZ BK6.out 2; have f3 : w6.cell? ⟨gb, 3, none⟩ = some (.int .i64 bt.2.2.2.1) := CZ BK6.out 3; have f4 : w6.cell? ⟨gb, 4, none⟩ = some (.int .i64 bt.2.2.2.2.1) := CZ BK6.out 4; have f5 : w6.cell? ⟨gb, 5, none⟩ = some (.int .i64 bt.2.2.2.2.2.1) := CZ BK6.out 5; have f6 : w6.cell? ⟨gb, 6, none⟩ = some (.int .i64 bt.2.2.2.2.2.2.1) := CZ BK6.out 6; have f7 : w6.cell? ⟨gb, 7, none⟩ = some (.int .i64 bt.2.2.2.2.2.2.2.1) := CZ BK6.out 7; have f8 : w6.cell? ⟨gb, 8, none⟩ = some (.int .i64 bt.2.2.2.2.2.2.2.2.1) := CZ BK6.out 8; have f9 : w6.cell? ⟨gb, 9, none⟩ = some (.bool bt.2.2.2.2.2.2.2.2.2.1) := CZ BK6.out 9; have f10 : w6.cell? ⟨gb, 10, none⟩ = some (.int .i64 bt.2.2.2.2.2.2.2.2.2.2.1) := CZ BK6.out 10; clear hi hr hb hk))
    have z0 : w6.cell? ⟨gz, 0, none⟩ = some (.int .i64 0) := CZ BZ6.out 0
    have z1 : w6.cell? ⟨gz, 1, none⟩ = some (.int .i64 0) := CZ BZ6.out 1
    have z2 : w6.cell? ⟨gz, 2, none⟩ = some (.int .i64 0) := CZ BZ6.out 2
    have z3 : w6.cell? ⟨gz, 3, none⟩ = some (.int .i64 0) := CZ BZ6.out 3
    have z4 : w6.cell? ⟨gz, 4, none⟩ = some (.int .i64 0) := CZ BZ6.out 4
    have z5 : w6.cell? ⟨gz, 5, none⟩ = some (.int .i64 0) := CZ BZ6.out 5
    have z6 : w6.cell? ⟨gz, 6, none⟩ = some (.int .i64 0) := CZ BZ6.out 6
    have z7 : w6.cell? ⟨gz, 7, none⟩ = some (.int .i64 0) := CZ BZ6.out 7
    have z8 : w6.cell? ⟨gz, 8, none⟩ = some (.int .i64 0) := CZ BZ6.out 8
    have z9 : w6.cell? ⟨gz, 9, none⟩ = some (.bool false) := CZ BZ6.out 9
    have z10 : w6.cell? ⟨gz, 10, none⟩ = some (.int .i64 0) := CZ BZ6.out 10
    have hne2 : gz ≠ gb := fun e => NE.out e.symm
    have fz0 := blk_frozen BZ6.out 0
    have fz1 := blk_frozen BZ6.out 1
    have fz2 := blk_frozen BZ6.out 2
    have fz3 := blk_frozen BZ6.out 3
    have fz4 := blk_frozen BZ6.out 4
    have fz5 := blk_frozen BZ6.out 5
    have fz6 := blk_frozen BZ6.out 6
    have fz7 := blk_frozen BZ6.out 7
    have fz8 := blk_frozen BZ6.out 8
    have fz9 := blk_frozen BZ6.out 9
    have fz10 := blk_frozen BZ6.out 10
    have FI := Aside0.mk (impl_StepTask.fin (bt.1) (bt.2.1) (bt.2.2.1) (bt.2.2.2.1) (bt.2.2.2.2.1) (bt.2.2.2.2.2.1) (bt.2.2.2.2.2.2.1) (bt.2.2.2.2.2.2.2.1) (bt.2.2.2.2.2.2.2.2.1) (bt.2.2.2.2.2.2.2.2.2.1) (bt.2.2.2.2.2.2.2.2.2.2.1) BZ6.out HB6.out GZ.out HO6.out)
    go_region
    go_wp2
    refine bodyPost_ret (results_tc rfl _ _ gz 46 #[.int .i64 bt.1, .int .i64 bt.2.1, .int .i64 bt.2.2.1, .int .i64 bt.2.2.2.1, .int .i64 bt.2.2.2.2.1, .int .i64 bt.2.2.2.2.2.1, .int .i64 bt.2.2.2.2.2.2.1, .int .i64 bt.2.2.2.2.2.2.2.1, .int .i64 bt.2.2.2.2.2.2.2.2.1, .bool bt.2.2.2.2.2.2.2.2.2.1, .int .i64 bt.2.2.2.2.2.2.2.2.2.2.1] (0, 0) _ rfl FI.out.1 Try.underlying46 rfl (by kernel_rfl)) rfl ?_
    obtain ⟨_, f2, f3⟩ := FI.out
    have H2 := H'.out
    cases H2
    exact ⟨_, rfl, f2, f3⟩

/-! ### impl_ListNew: function 46 -/
def impl_ListNew.f  : Option (List Int) := if 63 ≤ 35184372088832 then (some (List.replicate 63 0)) else (none)
set_option maxHeartbeats 8000000 in
set_option maxRecDepth 100000 in
theorem impl_ListNew.calls  (r : List Int) (w : World) (h : impl_ListNew.f  = some r) :
  Calls Try.prog 46 #[] w fun e w' => ∃ v0_ : Value, e = .returned (v0_) ∧ Kd.R (Kd.int .i64) 3 w' w.heap.size (fun _ => True) v0_ r ∧ Below w.heap.size w w' := by
 have HB := Aside0.mk (Below.refl w.heap.size w)
 have H : (if 63 ≤ 35184372088832 then (some (List.replicate 63 0)) else (none)) = some r := h
 clear h
 by_cases c1 : 63 ≤ 35184372088832; rotate_left
 ·
  rw [if_neg c1] at H
  exact absurd H (by simp)
 rw [if_pos c1] at H
 have c1b0 := eq_true c1
 have c1b1 : decide (63 ≤ 35184372088832) = true := decide_eq_true c1
 clear c1
 obtain ⟨y341, hy341⟩ : ∃ y_ : List Int, y_ = (List.replicate 63 0) := ⟨_, rfl⟩
 replace H : (some y341) = some r := by first | (rw [hy341]; with_reducible exact H) | (have H2_ := (Option.bind_some _ _).symm.trans H; rw [hy341]; with_reducible exact H2_) | (have H2_ := (Option.bind_some _ _).symm.trans H; with_reducible exact H2_) | with_reducible exact H | (rw [hy341]; exact H) | exact H
 have Ny341 := Aside0.mk hy341
 clear hy341
 obtain rfl := Option.some.inj H
 go_enter Try.func46, Try.ntmps46
 go_wp2_with (first | ((with_reducible refine gate_dst (N := 1) rfl ?_); refine Kd.R_make (Kd.int .i64) _ 3 rfl (N := 1) rfl 22 _ _ rfl 63 rfl rfl Try.underlying22 (.int .i64 0) 8 info3 rfl (by decide) (by omega) 0 (ok := fun _ => True) (okp := fun _ => True) rfl (fun _ hk => hk) trivial (by omega) (by omega) (Below.refl _ _) (Nat.le_refl _) ?_; intro v342 w2 ho3 hb hg_ hnew_; clear hg_ hnew_; (first | rw [← Ny341.out] at ho3 | (simp only [Int.reduceToNat] at ho3; rw [← Ny341.out] at ho3)); have HO343 := Aside0.mk (Kd.R_lower ho3 (below_size (BL))); replace HB := Aside0.mk (below_step (BL) hb); clear hb ho3))
 go_ret
 exact ⟨_, EE, RQ HO343.out, BL⟩

/-! ### impl_TaskNew: function 47 -/
def impl_TaskNew.f (a0 : Int) (a1 : Int) (a2 : Int) (a3 : Int) : Option (Int × Int × Int × Int × Int × Int × Int × Int × Int × Bool × Int) := some (a0, a1, a2, a3, 0, 0, 0, 0, 0, false, 0)
set_option maxHeartbeats 8000000 in
set_option maxRecDepth 100000 in
theorem impl_TaskNew.calls (a0 : Int) (a1 : Int) (a2 : Int) (a3 : Int) (r1 : Int) (r2 : Int) (r3 : Int) (r4 : Int) (r5 : Int) (r6 : Int) (r7 : Int) (r8 : Int) (r9 : Int) (r10 : Bool) (r11 : Int) (w : World) (h : impl_TaskNew.f a0 a1 a2 a3 = some (r1, r2, r3, r4, r5, r6, r7, r8, r9, r10, r11)) :
  Calls Try.prog 47 #[.int .i64 a0, .int .i64 a1, .int .i64 a2, .int .i64 a3] w fun e w' => e = .returned (.agg #[.int .i64 r1, .int .i64 r2, .int .i64 r3, .int .i64 r4, .int .i64 r5, .int .i64 r6, .int .i64 r7, .int .i64 r8, .int .i64 r9, .bool r10, .int .i64 r11]) ∧ Below w.heap.size w w' := by
 have hu46 := Try.underlying46
 have HB := Aside0.mk (Below.refl w.heap.size w)
 have H : (some (a0, a1, a2, a3, 0, 0, 0, 0, 0, false, 0)) = some (r1, r2, r3, r4, r5, r6, r7, r8, r9, r10, r11) := h
 clear h
 simp only [Option.some.injEq, Prod.mk.injEq] at H
 obtain ⟨rfl, rfl, rfl, rfl, rfl, rfl, rfl, rfl, rfl, rfl, rfl⟩ := H
 go_enter Try.func47, Try.ntmps47
 go_wp2_with (first | ((with_reducible refine gate_dst (N := 8) rfl ?_); refine bE 8 #[.int .i64 0, .int .i64 0, .int .i64 0, .int .i64 0, .int .i64 0, .int .i64 0, .int .i64 0, .int .i64 0, .int .i64 0, .bool false, .int .i64 0] 46 ?_; intro gb344 hg w5 hbox hb; have BK344 := Aside0.mk (hbox); have GW344 : Aside0 (w.heap.size ≤ gb344) := GS; have GE344 := GW344; replace HB := Aside0.mk (below_step (BL) hb); clear hb hbox hg; have hcz6_0 : w5.cell? ⟨gb344, 0, none⟩ = some (.int .i64 0) := CZ BK344.out 0; have hcz6_1 : w5.cell? ⟨gb344, 1, none⟩ = some (.int .i64 0) := CZ BK344.out 1; have hcz6_2 : w5.cell? ⟨gb344, 2, none⟩ = some (.int .i64 0) := CZ BK344.out 2; have hcz6_3 : w5.cell? ⟨gb344, 3, none⟩ = some (.int .i64 0) := CZ BK344.out 3; have hcz6_4 : w5.cell? ⟨gb344, 4, none⟩ = some (.int .i64 0) := CZ BK344.out 4; have hcz6_5 : w5.cell? ⟨gb344, 5, none⟩ = some (.int .i64 0) := CZ BK344.out 5; have hcz6_6 : w5.cell? ⟨gb344, 6, none⟩ = some (.int .i64 0) := CZ BK344.out 6; have hcz6_7 : w5.cell? ⟨gb344, 7, none⟩ = some (.int .i64 0) := CZ BK344.out 7; have hcz6_8 : w5.cell? ⟨gb344, 8, none⟩ = some (.int .i64 0) := CZ BK344.out 8; have hcz6_9 : w5.cell? ⟨gb344, 9, none⟩ = some (.bool false) := CZ BK344.out 9; have hcz6_10 : w5.cell? ⟨gb344, 10, none⟩ = some (.int .i64 0) := CZ BK344.out 10; have hfz6_0 := blk_frozen BK344.out 0; have hfz6_1 := blk_frozen BK344.out 1; have hfz6_2 := blk_frozen BK344.out 2; have hfz6_3 := blk_frozen BK344.out 3; have hfz6_4 := blk_frozen BK344.out 4; have hfz6_5 := blk_frozen BK344.out 5; have hfz6_6 := blk_frozen BK344.out 6; have hfz6_7 := blk_frozen BK344.out 7; have hfz6_8 := blk_frozen BK344.out 8; have hfz6_9 := blk_frozen BK344.out 9; have hfz6_10 := blk_frozen BK344.out 10))
 refine bodyPost_ret (results_cell_row rfl _ _ gb344 46 #[.int .i64 a0, .int .i64 a1, .int .i64 a2, .int .i64 a3, .int .i64 0, .int .i64 0, .int .i64 0, .int .i64 0, .int .i64 0, .bool false, .int .i64 0] (0, 0) _ rfl (BU BK344.out) Try.underlying46 rfl (by kernel_rfl)) rfl ?_
 exact ⟨EE, BL⟩

/-! ### spec_l01In: function 50 -/
def spec_l01In.f (a0 : Int) (a1 : Int) (a2 : Int) : Option (Bool) := if a0 ≥ a1 then (some (decide (a0 ≤ a2))) else (some false)
set_option maxHeartbeats 8000000 in
set_option maxRecDepth 100000 in
theorem spec_l01In.calls (a0 : Int) (a1 : Int) (a2 : Int) (r : Bool) (w : World) (h : spec_l01In.f a0 a1 a2 = some r) :
  Calls Try.prog 50 #[.int .i64 a0, .int .i64 a1, .int .i64 a2] w fun e w' => e = .returned (.bool r) ∧ Drawn0 w w' := by
 have H : (if a0 ≥ a1 then (some (decide (a0 ≤ a2))) else (some false)) = some r := h
 clear h
 by_cases c4 : a0 ≥ a1
 ·
  rw [if_pos c4] at H
  have c4b0 : decide (a1 ≤ a0) = true := decide_eq_true c4
  clear c4
  obtain rfl := Option.some.inj H
  go_enter Try.func50, Try.ntmps50
  go_wp2
  go_ret
  exact ⟨by first | rfl | (simp; done) | (simp [*]; done), by repeat (first | exact Drawn0.refl _ | apply Drawn0.step)⟩
 rw [if_neg c4] at H
 have c4b0 : decide (a1 ≤ a0) = false := decide_eq_false c4
 clear c4
 obtain rfl := Option.some.inj H
 go_enter Try.func50, Try.ntmps50
 go_wp2
 go_ret
 exact ⟨by first | rfl | (simp; done) | (simp [*]; done), by repeat (first | exact Drawn0.refl _ | apply Drawn0.step)⟩

end Go.Proofs.Ytjmggbhgmenmcaa.Qal
