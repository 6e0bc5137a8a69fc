-- Laid by myprint.py, a program of this session's own, over the kit's print. Not trusted: Lean checks it.
import Derived.Test.YtjmggbhgmenmcaaQsx0
import Derived.Test.YtjmggbhgmenmcaaQsx1
import Derived.Test.YtjmggbhgmenmcaaQsx4
namespace Go.Proofs.Ytjmggbhgmenmcaa.Qs
open Go.RowKit Go.Proofs.YtjmggbhgmenmcaaW.PrintWords Go.Proofs.YtjmggbhgmenmcaaW.PrintLast Go.Proofs.YtjmggbhgmenmcaaW.PrintMore
attribute [local go_sem] Go.Proofs.Ytjmggbhgmenmcaa.StrCmp.gtr_less Go.Proofs.Ytjmggbhgmenmcaa.StrCmp.geq_less Go.Proofs.Ytjmggbhgmenmcaa.StrCmp.leq_less max2_int min2_int max_two min_two max_three min_three max_four min_four   -- for this text's walks alone
set_option linter.unusedVariables false
set_option linter.unusedSimpArgs false

/-! ### spec_StepTask: function 37 -/
def spec_StepTask.f (k : Nat) (l0 : List Int) (a1_0 : Int) (a1_1 : Int) (a1_2 : Int) (a1_3 : Int) (a1_4 : Int) (a1_5 : Int) (a1_6 : Int) (a1_7 : Int) (a1_8 : Int) (a1_9 : Bool) (a1_10 : Int) : Option (List Int × Int × Int × Int × Int × Int × Int × Int × Int × Int × Bool × Int) := (some (([] : List Int) : List Int)).bind fun y197 => (if y197.length + l0.length < 17592186044416 then ((some (y197 ++ l0 : List Int)).bind fun y200 => (if a1_9 = true then (some (y200, a1_0, a1_1, a1_2, a1_3, a1_4, a1_5, a1_6, a1_7, a1_8, a1_9, a1_10)) else ((spec_TaskOk.f a1_0 a1_1 a1_2 a1_3 a1_4 a1_5 a1_6 a1_7 a1_8 a1_9 a1_10).bind fun t203 => (if t203 = true then (if (l0.length : Int) = 63 then ((spec_CellsOk.f k l0).bind fun t204 => (if t204 = true then ((spec_l06Step.f y200 a1_0 a1_1 a1_2 a1_3 a1_4 a1_5 a1_6 a1_7 a1_8 a1_9 a1_10).bind fun bt205 => (some (bt205.2.2.2.2.2.2.2.2.2.2.2, bt205.1, bt205.2.1, bt205.2.2.1, bt205.2.2.2.1, bt205.2.2.2.2.1, bt205.2.2.2.2.2.1, bt205.2.2.2.2.2.2.1, bt205.2.2.2.2.2.2.2.1, bt205.2.2.2.2.2.2.2.2.1, bt205.2.2.2.2.2.2.2.2.2.1, bt205.2.2.2.2.2.2.2.2.2.2.1))) else (some (y200, a1_0, a1_1, a1_2, a1_3, a1_4, a1_5, a1_6, a1_7, a1_8, a1_9, a1_10)))) else (some (y200, a1_0, a1_1, a1_2, a1_3, a1_4, a1_5, a1_6, a1_7, a1_8, a1_9, a1_10))) else (some (y200, a1_0, a1_1, a1_2, a1_3, a1_4, a1_5, a1_6, a1_7, a1_8, a1_9, a1_10)))))) else (none))
theorem spec_StepTask.mono : ∀ a0 a1 a2 a3 a4 a5 a6 a7 a8 a9 a10 a11 k, LeO (spec_StepTask.f k a0 a1 a2 a3 a4 a5 a6 a7 a8 a9 a10 a11) (spec_StepTask.f (k + 1) a0 a1 a2 a3 a4 a5 a6 a7 a8 a9 a10 a11) := by
 intro a0 a1 a2 a3 a4 a5 a6 a7 a8 a9 a10 a11 k
 unfold spec_StepTask.f
 repeat' first
   | (with_reducible exact spec_CellsOk.mono _ _)
   | (with_reducible exact LeO.refl _)
   | (with_reducible exact LeO.none _)
   | (with_reducible refine LeO.ite ?_ ?_)
   | (with_reducible refine LeO.bind ?_ (fun _ => ?_))
   | exact spec_CellsOk.mono _ _
   | exact LeO.none _
   | refine LeO.ite ?_ ?_
   | refine LeO.bind ?_ (fun _ => ?_)
theorem spec_StepTask.fin {w0 w : World} {gz : Nat} {ok : Nat → Prop} {v : Value} {xs : List Int} (a0 a1 a2 a3 a4 a5 a6 a7 a8 : Int) (a9 : Bool) (a10 : Int) (b : w.heap[gz]? = some (.cells #[.int .i64 0, .int .i64 0, .int .i64 0, .int .i64 0, .int .i64 0, .int .i64 0, .int .i64 0, .int .i64 0, .int .i64 0, .bool false, .int .i64 0] 46 (0, 0))) (hb : Below w0.heap.size w0 w) (hg : w0.heap.size ≤ gz) (hr : Kd.R (Kd.int .i64) 3 w w0.heap.size ok v xs) :
 ((((((((((((w.setCell ⟨gz, 0, none⟩ (.int .i64 a0)).setCell ⟨gz, 1, none⟩ (.int .i64 a1)).setCell ⟨gz, 2, none⟩ (.int .i64 a2)).setCell ⟨gz, 3, none⟩ (.int .i64 a3)).setCell ⟨gz, 4, none⟩ (.int .i64 a4)).setCell ⟨gz, 5, none⟩ (.int .i64 a5)).setCell ⟨gz, 6, none⟩ (.int .i64 a6)).setCell ⟨gz, 7, none⟩ (.int .i64 a7)).setCell ⟨gz, 8, none⟩ (.int .i64 a8)).setCell ⟨gz, 9, none⟩ (.bool a9)).setCell ⟨gz, 10, none⟩ (.int .i64 a10)).drew).heap[gz]? = some (.cells #[.int .i64 a0, .int .i64 a1, .int .i64 a2, .int .i64 a3, .int .i64 a4, .int .i64 a5, .int .i64 a6, .int .i64 a7, .int .i64 a8, .bool a9, .int .i64 a10] 46 (0, 0)) ∧ Kd.R (Kd.int .i64) 3 ((((((((((((w.setCell ⟨gz, 0, none⟩ (.int .i64 a0)).setCell ⟨gz, 1, none⟩ (.int .i64 a1)).setCell ⟨gz, 2, none⟩ (.int .i64 a2)).setCell ⟨gz, 3, none⟩ (.int .i64 a3)).setCell ⟨gz, 4, none⟩ (.int .i64 a4)).setCell ⟨gz, 5, none⟩ (.int .i64 a5)).setCell ⟨gz, 6, none⟩ (.int .i64 a6)).setCell ⟨gz, 7, none⟩ (.int .i64 a7)).setCell ⟨gz, 8, none⟩ (.int .i64 a8)).setCell ⟨gz, 9, none⟩ (.bool a9)).setCell ⟨gz, 10, none⟩ (.int .i64 a10)).drew) w0.heap.size (fun _ => True) v xs ∧ Below w0.heap.size w0 ((((((((((((w.setCell ⟨gz, 0, none⟩ (.int .i64 a0)).setCell ⟨gz, 1, none⟩ (.int .i64 a1)).setCell ⟨gz, 2, none⟩ (.int .i64 a2)).setCell ⟨gz, 3, none⟩ (.int .i64 a3)).setCell ⟨gz, 4, none⟩ (.int .i64 a4)).setCell ⟨gz, 5, none⟩ (.int .i64 a5)).setCell ⟨gz, 6, none⟩ (.int .i64 a6)).setCell ⟨gz, 7, none⟩ (.int .i64 a7)).setCell ⟨gz, 8, none⟩ (.int .i64 a8)).setCell ⟨gz, 9, none⟩ (.bool a9)).setCell ⟨gz, 10, none⟩ (.int .i64 a10)).drew) :=
 ⟨blk_drew (blk_put (cs' := #[.int .i64 a0, .int .i64 a1, .int .i64 a2, .int .i64 a3, .int .i64 a4, .int .i64 a5, .int .i64 a6, .int .i64 a7, .int .i64 a8, .bool a9, .int .i64 a10]) (blk_put (cs' := #[.int .i64 a0, .int .i64 a1, .int .i64 a2, .int .i64 a3, .int .i64 a4, .int .i64 a5, .int .i64 a6, .int .i64 a7, .int .i64 a8, .bool a9, .int .i64 0]) (blk_put (cs' := #[.int .i64 a0, .int .i64 a1, .int .i64 a2, .int .i64 a3, .int .i64 a4, .int .i64 a5, .int .i64 a6, .int .i64 a7, .int .i64 a8, .bool false, .int .i64 0]) (blk_put (cs' := #[.int .i64 a0, .int .i64 a1, .int .i64 a2, .int .i64 a3, .int .i64 a4, .int .i64 a5, .int .i64 a6, .int .i64 a7, .int .i64 0, .bool false, .int .i64 0]) (blk_put (cs' := #[.int .i64 a0, .int .i64 a1, .int .i64 a2, .int .i64 a3, .int .i64 a4, .int .i64 a5, .int .i64 a6, .int .i64 0, .int .i64 0, .bool false, .int .i64 0]) (blk_put (cs' := #[.int .i64 a0, .int .i64 a1, .int .i64 a2, .int .i64 a3, .int .i64 a4, .int .i64 a5, .int .i64 0, .int .i64 0, .int .i64 0, .bool false, .int .i64 0]) (blk_put (cs' := #[.int .i64 a0, .int .i64 a1, .int .i64 a2, .int .i64 a3, .int .i64 a4, .int .i64 0, .int .i64 0, .int .i64 0, .int .i64 0, .bool false, .int .i64 0]) (blk_put (cs' := #[.int .i64 a0, .int .i64 a1, .int .i64 a2, .int .i64 a3, .int .i64 0, .int .i64 0, .int .i64 0, .int .i64 0, .int .i64 0, .bool false, .int .i64 0]) (blk_put (cs' := #[.int .i64 a0, .int .i64 a1, .int .i64 a2, .int .i64 0, .int .i64 0, .int .i64 0, .int .i64 0, .int .i64 0, .int .i64 0, .bool false, .int .i64 0]) (blk_put (cs' := #[.int .i64 a0, .int .i64 a1, .int .i64 0, .int .i64 0, .int .i64 0, .int .i64 0, .int .i64 0, .int .i64 0, .int .i64 0, .bool false, .int .i64 0]) (blk_put (cs' := #[.int .i64 a0, .int .i64 0, .int .i64 0, .int .i64 0, .int .i64 0, .int .i64 0, .int .i64 0, .int .i64 0, .int .i64 0, .bool false, .int .i64 0]) b 0 _ rfl) 1 _ rfl) 2 _ rfl) 3 _ rfl) 4 _ rfl) 5 _ rfl) 6 _ rfl) 7 _ rfl) 8 _ rfl) 9 _ rfl) 10 _ rfl), Kd.R_drew (Kd.R_mono (Kd.R_far (p := ⟨gz, 10, none⟩) (Kd.R_far (p := ⟨gz, 9, none⟩) (Kd.R_far (p := ⟨gz, 8, none⟩) (Kd.R_far (p := ⟨gz, 7, none⟩) (Kd.R_far (p := ⟨gz, 6, none⟩) (Kd.R_far (p := ⟨gz, 5, none⟩) (Kd.R_far (p := ⟨gz, 4, none⟩) (Kd.R_far (p := ⟨gz, 3, none⟩) (Kd.R_far (p := ⟨gz, 2, none⟩) (Kd.R_far (p := ⟨gz, 1, none⟩) (Kd.R_far (p := ⟨gz, 0, none⟩) (Kd.R_types hr b (by decide)) (fun _ hk => hk.2) _) (fun _ hk => hk.2) _) (fun _ hk => hk.2) _) (fun _ hk => hk.2) _) (fun _ hk => hk.2) _) (fun _ hk => hk.2) _) (fun _ hk => hk.2) _) (fun _ hk => hk.2) _) (fun _ hk => hk.2) _) (fun _ hk => hk.2) _) (fun _ hk => hk.2) _) (fun _ _ => trivial)), below_drew1 (below_set (below_set (below_set (below_set (below_set (below_set (below_set (below_set (below_set (below_set (below_set hb hg) hg) hg) hg) hg) hg) hg) hg) hg) hg) hg)⟩
set_option maxHeartbeats 8000000 in
set_option maxRecDepth 100000 in
theorem spec_StepTask.calls (k : Nat) (A0 : Option Addr) (c0 : Nat) (l0 : List Int) (a1_0 : Int) (a1_1 : Int) (a1_2 : Int) (a1_3 : Int) (a1_4 : Int) (a1_5 : Int) (a1_6 : Int) (a1_7 : Int) (a1_8 : Int) (a1_9 : Bool) (a1_10 : Int) (r1 : List Int) (r2 : Int) (r3 : Int) (r4 : Int) (r5 : Int) (r6 : Int) (r7 : Int) (r8 : Int) (r9 : Int) (r10 : Int) (r11 : Bool) (r12 : Int) (w : World) (hr0 : Kd.C (Kd.int .i64) w A0 l0.length l0) (hc0 : l0.length ≤ c0) (h : spec_StepTask.f k l0 a1_0 a1_1 a1_2 a1_3 a1_4 a1_5 a1_6 a1_7 a1_8 a1_9 a1_10 = some (r1, r2, r3, r4, r5, r6, r7, r8, r9, r10, r11, r12)) :
  Calls Try.prog 37 #[.slice A0 l0.length c0, .agg #[.int .i64 a1_0, .int .i64 a1_1, .int .i64 a1_2, .int .i64 a1_3, .int .i64 a1_4, .int .i64 a1_5, .int .i64 a1_6, .int .i64 a1_7, .int .i64 a1_8, .bool a1_9, .int .i64 a1_10]] w fun e w' => ∃ v0_ : Value, e = .returned (.tuple #[v0_, .agg #[.int .i64 r2, .int .i64 r3, .int .i64 r4, .int .i64 r5, .int .i64 r6, .int .i64 r7, .int .i64 r8, .int .i64 r9, .int .i64 r10, .bool r11, .int .i64 r12]]) ∧ Kd.R (Kd.int .i64) 3 w' w.heap.size (fun _ => True) v0_ r1 ∧ Below w.heap.size w w' := by
 have hu46 := Try.underlying46
 have HR0 := Aside0.mk hr0
 have HC0 := Aside0.mk hc0
 clear hr0 hc0
 have HB := Aside0.mk (Below.refl w.heap.size w)
 have H : ((some (([] : List Int) : List Int)).bind fun y197 => (if y197.length + l0.length < 17592186044416 then ((some (y197 ++ l0 : List Int)).bind fun y200 => (if a1_9 = true then (some (y200, a1_0, a1_1, a1_2, a1_3, a1_4, a1_5, a1_6, a1_7, a1_8, a1_9, a1_10)) else ((spec_TaskOk.f a1_0 a1_1 a1_2 a1_3 a1_4 a1_5 a1_6 a1_7 a1_8 a1_9 a1_10).bind fun t203 => (if t203 = true then (if (l0.length : Int) = 63 then ((spec_CellsOk.f k l0).bind fun t204 => (if t204 = true then ((spec_l06Step.f y200 a1_0 a1_1 a1_2 a1_3 a1_4 a1_5 a1_6 a1_7 a1_8 a1_9 a1_10).bind fun bt205 => (some (bt205.2.2.2.2.2.2.2.2.2.2.2, bt205.1, bt205.2.1, bt205.2.2.1, bt205.2.2.2.1, bt205.2.2.2.2.1, bt205.2.2.2.2.2.1, bt205.2.2.2.2.2.2.1, bt205.2.2.2.2.2.2.2.1, bt205.2.2.2.2.2.2.2.2.1, bt205.2.2.2.2.2.2.2.2.2.1, bt205.2.2.2.2.2.2.2.2.2.2.1))) else (some (y200, a1_0, a1_1, a1_2, a1_3, a1_4, a1_5, a1_6, a1_7, a1_8, a1_9, a1_10)))) else (some (y200, a1_0, a1_1, a1_2, a1_3, a1_4, a1_5, a1_6, a1_7, a1_8, a1_9, a1_10))) else (some (y200, a1_0, a1_1, a1_2, a1_3, a1_4, a1_5, a1_6, a1_7, a1_8, a1_9, a1_10)))))) else (none))) = some (r1, r2, r3, r4, r5, r6, r7, r8, r9, r10, r11, r12) := h
 clear h
 obtain ⟨y0, q0, H⟩ := Option.bind_eq_some_iff.1 H
 obtain rfl := Option.some.inj q0
 by_cases hlb : (([] : List Int).length + l0.length < 17592186044416)
 rotate_left
 ·
  rw [if_neg hlb] at H; cases H
 rw [if_pos hlb] at H
 obtain ⟨y, q1, H⟩ := Option.bind_eq_some_iff.1 H
 obtain rfl := Option.some.inj q1
 clear q0 q1
 have HLb := Aside0.mk (show l0.length < 17592186044416 from by simpa using hlb)
 clear hlb
 cases a1_9 with
 | true =>
  rw [if_pos rfl] at H
  have H' := Aside0.mk (Option.some.inj H)
  clear H
  go_enter Try.func37, Try.ntmps37
  go_wp2_with (first | ((with_reducible refine gate_dst (N := 3) rfl ?_); refine bE 3 #[.int .i64 a1_0, .int .i64 a1_1, .int .i64 a1_2, .int .i64 a1_3, .int .i64 a1_4, .int .i64 a1_5, .int .i64 a1_6, .int .i64 a1_7, .int .i64 a1_8, .bool true, .int .i64 a1_10] 46 ?_; intro gb hg w1 hbox hb; have BK1 := Aside0.mk hbox; have HB1 := Aside0.mk hb; have GB : Aside0 (w.heap.size ≤ gb) := ⟨Nat.le_of_eq hg.symm⟩; clear hbox hb hg) | ((with_reducible refine gate_dst (N := 5) rfl ?_); refine bE 5 #[.int .i64 0, .int .i64 0, .int .i64 0, .int .i64 0, .int .i64 0, .int .i64 0, .int .i64 0, .int .i64 0, .int .i64 0, .bool false, .int .i64 0] 46 ?_; intro gz hg w2 hbox hb; have BZ2 := Aside0.mk hbox; have NE := NL BK1.out hg; have BK2 := BB BK1.out hb; have HB2 := Aside0.mk (below_then HB1.out HB1.out.size hb); have GZ : Aside0 (w.heap.size ≤ gz) := ⟨by have := HB1.out.size; omega⟩; clear hbox hb hg) | ((with_reducible refine gate_dst (N := 7) rfl ?_); refine Kd.R_lit (Kd.int .i64) _ 3 ?hg (N := 7) ?hd (xs := ([] : List Int)) (inner := []) (ok := fun _ => True) (okp := fun _ => True) ?hr ?hp (fun _ hk => hk) trivial (Below.refl _ _) (Nat.le_refl _) (by simp) ?_; (case hd => rfl); (case hg => rfl); (case hr => first | (go_simp; done) | (go_simp; rfl)); (case hp => exact (Reps.none _ _)); intro v7 w7 ho7 hb hg_ hnew_; have HO7 := Aside0.mk ho7; have BK7 := BB BK2.out hb; have BZ7 := BB BZ2.out hb; have HB7 := Aside0.mk (below_then HB2.out HB2.out.size hb); have HBx := Aside0.mk hb; clear hb hg_ hnew_ ho7) | (at_builtin; refine Kd.R_append_rows (Kd.int .i64) (w0 := w2) w2.heap.size rfl (.tmp 7) (.tmp 8) 22 3 (.int .i64 0) 8 rfl Try.underlying22 info3 rfl (by decide) (by omega) v7 [] l0 _ _ _ (fun _ => True) (fun _ => False) rfl rfl HO7.out (Kd.C_below HR0.out HB7.out) (fun _ _ h => h) (fun _ h => h.elim) (fun _ _ => trivial) HBx.out HBx.out.size (by have := HLb.out; simp only [List.length_nil]; omega) ?_; intro v0 w3 ho3 hb hgr hat; have HO3 := Aside0.mk (Kd.R_lower ho3 (show w.heap.size ≤ w2.heap.size from HB2.out.size)); have BK3 := Aside0.mk (blk_below BK2.out hb); have BZ3 := Aside0.mk (blk_below BZ2.out hb); have HB3 := Aside0.mk (below_then HB2.out HB2.out.size hb); have x0 : w3.cell? ⟨gb, 0, none⟩ = some (.int .i64 a1_0) := CZ BK3.out 0; have x1 : w3.cell? ⟨gb, 1, none⟩ = some (.int .i64 a1_1) := CZ BK3.out 1; have x2 : w3.cell? ⟨gb, 2, none⟩ = some (.int .i64 a1_2) := CZ BK3.out 2; have x3 : w3.cell? ⟨gb, 3, none⟩ = some (.int .i64 a1_3) := CZ BK3.out 3; have x4 : w3.cell? ⟨gb, 4, none⟩ = some (.int .i64 a1_4) := CZ BK3.out 4; have x5 : w3.cell? ⟨gb, 5, none⟩ = some (.int .i64 a1_5) := CZ BK3.out 5; have x6 : w3.cell? ⟨gb, 6, none⟩ = some (.int .i64 a1_6) := CZ BK3.out 6; have x7 : w3.cell? ⟨gb, 7, none⟩ = some (.int .i64 a1_7) := CZ BK3.out 7; have x8 : w3.cell? ⟨gb, 8, none⟩ = some (.int .i64 a1_8) := CZ BK3.out 8; have x9 : w3.cell? ⟨gb, 9, none⟩ = some (.bool true) := CZ BK3.out 9; have x10 : w3.cell? ⟨gb, 10, none⟩ = some (.int .i64 a1_10) := CZ BK3.out 10; clear ho3 hb hgr hat))
  have z0 : w3.cell? ⟨gz, 0, none⟩ = some (.int .i64 0) := CZ BZ3.out 0
  have z1 : w3.cell? ⟨gz, 1, none⟩ = some (.int .i64 0) := CZ BZ3.out 1
  have z2 : w3.cell? ⟨gz, 2, none⟩ = some (.int .i64 0) := CZ BZ3.out 2
  have z3 : w3.cell? ⟨gz, 3, none⟩ = some (.int .i64 0) := CZ BZ3.out 3
  have z4 : w3.cell? ⟨gz, 4, none⟩ = some (.int .i64 0) := CZ BZ3.out 4
  have z5 : w3.cell? ⟨gz, 5, none⟩ = some (.int .i64 0) := CZ BZ3.out 5
  have z6 : w3.cell? ⟨gz, 6, none⟩ = some (.int .i64 0) := CZ BZ3.out 6
  have z7 : w3.cell? ⟨gz, 7, none⟩ = some (.int .i64 0) := CZ BZ3.out 7
  have z8 : w3.cell? ⟨gz, 8, none⟩ = some (.int .i64 0) := CZ BZ3.out 8
  have z9 : w3.cell? ⟨gz, 9, none⟩ = some (.bool false) := CZ BZ3.out 9
  have z10 : w3.cell? ⟨gz, 10, none⟩ = some (.int .i64 0) := CZ BZ3.out 10
  have hne2 : gz ≠ gb := fun e => NE.out e.symm
  have fz0 := blk_frozen BZ3.out 0
  have fz1 := blk_frozen BZ3.out 1
  have fz2 := blk_frozen BZ3.out 2
  have fz3 := blk_frozen BZ3.out 3
  have fz4 := blk_frozen BZ3.out 4
  have fz5 := blk_frozen BZ3.out 5
  have fz6 := blk_frozen BZ3.out 6
  have fz7 := blk_frozen BZ3.out 7
  have fz8 := blk_frozen BZ3.out 8
  have fz9 := blk_frozen BZ3.out 9
  have fz10 := blk_frozen BZ3.out 10
  have FI := Aside0.mk (spec_StepTask.fin (a1_0) (a1_1) (a1_2) (a1_3) (a1_4) (a1_5) (a1_6) (a1_7) (a1_8) (true) (a1_10) BZ3.out HB3.out GZ.out HO3.out)
  go_region
  go_wp2
  refine bodyPost_ret (results_tc rfl _ _ gz 46 #[.int .i64 a1_0, .int .i64 a1_1, .int .i64 a1_2, .int .i64 a1_3, .int .i64 a1_4, .int .i64 a1_5, .int .i64 a1_6, .int .i64 a1_7, .int .i64 a1_8, .bool true, .int .i64 a1_10] (0, 0) _ rfl FI.out.1 Try.underlying46 rfl (by kernel_rfl)) rfl ?_
  obtain ⟨_, f2, f3⟩ := FI.out
  have H2 := H'.out
  cases H2
  exact ⟨_, rfl, f2, f3⟩
 | false =>
  rw [if_neg (by decide)] at H
  obtain ⟨b, A2, H⟩ := Option.bind_eq_some_iff.1 H
  replace A2 := Aside0.mk A2
  cases b with
  | false =>
   rw [if_neg (by decide)] at H
   have H' := Aside0.mk (Option.some.inj H)
   clear H
   go_enter Try.func37, Try.ntmps37
   go_wp2_with (first | ((with_reducible refine gate_dst (N := 3) rfl ?_); refine bE 3 #[.int .i64 a1_0, .int .i64 a1_1, .int .i64 a1_2, .int .i64 a1_3, .int .i64 a1_4, .int .i64 a1_5, .int .i64 a1_6, .int .i64 a1_7, .int .i64 a1_8, .bool false, .int .i64 a1_10] 46 ?_; intro gb hg w1 hbox hb; have BK1 := Aside0.mk hbox; have HB1 := Aside0.mk hb; have GB : Aside0 (w.heap.size ≤ gb) := ⟨Nat.le_of_eq hg.symm⟩; clear hbox hb hg) | ((with_reducible refine gate_dst (N := 5) rfl ?_); refine bE 5 #[.int .i64 0, .int .i64 0, .int .i64 0, .int .i64 0, .int .i64 0, .int .i64 0, .int .i64 0, .int .i64 0, .int .i64 0, .bool false, .int .i64 0] 46 ?_; intro gz hg w2 hbox hb; have BZ2 := Aside0.mk hbox; have NE := NL BK1.out hg; have BK2 := BB BK1.out hb; have HB2 := Aside0.mk (below_then HB1.out HB1.out.size hb); have GZ : Aside0 (w.heap.size ≤ gz) := ⟨by have := HB1.out.size; omega⟩; clear hbox hb hg) | ((with_reducible refine gate_dst (N := 7) rfl ?_); refine Kd.R_lit (Kd.int .i64) _ 3 ?hg (N := 7) ?hd (xs := ([] : List Int)) (inner := []) (ok := fun _ => True) (okp := fun _ => True) ?hr ?hp (fun _ hk => hk) trivial (Below.refl _ _) (Nat.le_refl _) (by simp) ?_; (case hd => rfl); (case hg => rfl); (case hr => first | (go_simp; done) | (go_simp; rfl)); (case hp => exact (Reps.none _ _)); intro v7 w7 ho7 hb hg_ hnew_; have HO7 := Aside0.mk ho7; have BK7 := BB BK2.out hb; have BZ7 := BB BZ2.out hb; have HB7 := Aside0.mk (below_then HB2.out HB2.out.size hb); have HBx := Aside0.mk hb; clear hb hg_ hnew_ ho7) | (at_builtin; refine Kd.R_append_rows (Kd.int .i64) (w0 := w2) w2.heap.size rfl (.tmp 7) (.tmp 8) 22 3 (.int .i64 0) 8 rfl Try.underlying22 info3 rfl (by decide) (by omega) v7 [] l0 _ _ _ (fun _ => True) (fun _ => False) rfl rfl HO7.out (Kd.C_below HR0.out HB7.out) (fun _ _ h => h) (fun _ h => h.elim) (fun _ _ => trivial) HBx.out HBx.out.size (by have := HLb.out; simp only [List.length_nil]; omega) ?_; intro v0 w3 ho3 hb hgr hat; have HO3 := Aside0.mk (Kd.R_lower ho3 (show w.heap.size ≤ w2.heap.size from HB2.out.size)); have BK3 := Aside0.mk (blk_below BK2.out hb); have BZ3 := Aside0.mk (blk_below BZ2.out hb); have HB3 := Aside0.mk (below_then HB2.out HB2.out.size hb); have x0 : w3.cell? ⟨gb, 0, none⟩ = some (.int .i64 a1_0) := CZ BK3.out 0; have x1 : w3.cell? ⟨gb, 1, none⟩ = some (.int .i64 a1_1) := CZ BK3.out 1; have x2 : w3.cell? ⟨gb, 2, none⟩ = some (.int .i64 a1_2) := CZ BK3.out 2; have x3 : w3.cell? ⟨gb, 3, none⟩ = some (.int .i64 a1_3) := CZ BK3.out 3; have x4 : w3.cell? ⟨gb, 4, none⟩ = some (.int .i64 a1_4) := CZ BK3.out 4; have x5 : w3.cell? ⟨gb, 5, none⟩ = some (.int .i64 a1_5) := CZ BK3.out 5; have x6 : w3.cell? ⟨gb, 6, none⟩ = some (.int .i64 a1_6) := CZ BK3.out 6; have x7 : w3.cell? ⟨gb, 7, none⟩ = some (.int .i64 a1_7) := CZ BK3.out 7; have x8 : w3.cell? ⟨gb, 8, none⟩ = some (.int .i64 a1_8) := CZ BK3.out 8; have x9 : w3.cell? ⟨gb, 9, none⟩ = some (.bool false) := CZ BK3.out 9; have x10 : w3.cell? ⟨gb, 10, none⟩ = some (.int .i64 a1_10) := CZ BK3.out 10; clear ho3 hb hgr hat) | (go_at_call 45; refine (spec_TaskOk.calls a1_0 a1_1 a1_2 a1_3 a1_4 a1_5 a1_6 a1_7 a1_8 false a1_10 false w3 A2.out).mono ?_; rintro e w4 ⟨rfl, hb⟩; have HO4 := Aside0.mk (Kd.R_below HO3.out hb); have BK4 := BB BK3.out hb; have BZ4 := BB BZ3.out hb; have HB4 := Aside0.mk (below_then HB3.out HB3.out.size hb); have d0 : w4.cell? ⟨gb, 0, none⟩ = some (.int .i64 a1_0) := CZ BK4.out 0; have d1 : w4.cell? ⟨gb, 1, none⟩ = some (.int .i64 a1_1) := CZ BK4.out 1; have d2 : w4.cell? ⟨gb, 2, none⟩ = some (.int .i64 a1_2) := CZ BK4.out 2; have d3 : w4.cell? ⟨gb, 3, none⟩ = some (.int .i64 a1_3) := CZ BK4.out 3; have d4 : w4.cell? ⟨gb, 4, none⟩ = some (.int .i64 a1_4) := CZ BK4.out 4; have d5 : w4.cell? ⟨gb, 5, none⟩ = some (.int .i64 a1_5) := CZ BK4.out 5; have d6 : w4.cell? ⟨gb, 6, none⟩ = some (.int .i64 a1_6) := CZ BK4.out 6; have d7 : w4.cell? ⟨gb, 7, none⟩ = some (.int .i64 a1_7) := CZ BK4.out 7; have d8 : w4.cell? ⟨gb, 8, none⟩ = some (.int .i64 a1_8) := CZ BK4.out 8; have d9 : w4.cell? ⟨gb, 9, none⟩ = some (.bool false) := CZ BK4.out 9; have d10 : w4.cell? ⟨gb, 10, none⟩ = some (.int .i64 a1_10) := CZ BK4.out 10; clear hb))
   have z0 : w4.cell? ⟨gz, 0, none⟩ = some (.int .i64 0) := CZ BZ4.out 0
   have z1 : w4.cell? ⟨gz, 1, none⟩ = some (.int .i64 0) := CZ BZ4.out 1
   have z2 : w4.cell? ⟨gz, 2, none⟩ = some (.int .i64 0) := CZ BZ4.out 2
   have z3 : w4.cell? ⟨gz, 3, none⟩ = some (.int .i64 0) := CZ BZ4.out 3
   have z4 : w4.cell? ⟨gz, 4, none⟩ = some (.int .i64 0) := CZ BZ4.out 4
   have z5 : w4.cell? ⟨gz, 5, none⟩ = some (.int .i64 0) := CZ BZ4.out 5
   have z6 : w4.cell? ⟨gz, 6, none⟩ = some (.int .i64 0) := CZ BZ4.out 6
   have z7 : w4.cell? ⟨gz, 7, none⟩ = some (.int .i64 0) := CZ BZ4.out 7
   have z8 : w4.cell? ⟨gz, 8, none⟩ = some (.int .i64 0) := CZ BZ4.out 8
   have z9 : w4.cell? ⟨gz, 9, none⟩ = some (.bool false) := CZ BZ4.out 9
   have z10 : w4.cell? ⟨gz, 10, none⟩ = some (.int .i64 0) := CZ BZ4.out 10
   have hne2 : gz ≠ gb := fun e => NE.out e.symm
   have fz0 := blk_frozen BZ4.out 0
   have fz1 := blk_frozen BZ4.out 1
   have fz2 := blk_frozen BZ4.out 2
   have fz3 := blk_frozen BZ4.out 3
   have fz4 := blk_frozen BZ4.out 4
   have fz5 := blk_frozen BZ4.out 5
   have fz6 := blk_frozen BZ4.out 6
   have fz7 := blk_frozen BZ4.out 7
   have fz8 := blk_frozen BZ4.out 8
   have fz9 := blk_frozen BZ4.out 9
   have fz10 := blk_frozen BZ4.out 10
   have FI := Aside0.mk (spec_StepTask.fin (a1_0) (a1_1) (a1_2) (a1_3) (a1_4) (a1_5) (a1_6) (a1_7) (a1_8) (false) (a1_10) BZ4.out HB4.out GZ.out HO4.out)
   go_region
   go_wp2
   refine bodyPost_ret (results_tc rfl _ _ gz 46 #[.int .i64 a1_0, .int .i64 a1_1, .int .i64 a1_2, .int .i64 a1_3, .int .i64 a1_4, .int .i64 a1_5, .int .i64 a1_6, .int .i64 a1_7, .int .i64 a1_8, .bool false, .int .i64 a1_10] (0, 0) _ rfl FI.out.1 Try.underlying46 rfl (by kernel_rfl)) rfl ?_
   obtain ⟨_, f2, f3⟩ := FI.out
   have H2 := H'.out
   cases H2
   exact ⟨_, rfl, f2, f3⟩
  | true =>
   rw [if_pos rfl] at H
   by_cases hn : (l0.length : Int) = 63
   rotate_left
   ·
    rw [if_neg hn] at H
    have hn0 : ((l0.length : Int) == 63) = false := beq_eq_false_iff_ne.mpr hn
    have hn1 : ((l0.length : Int) != 63) = true := bne_iff_ne.mpr hn
    have H' := Aside0.mk (Option.some.inj H)
    clear H
    go_enter Try.func37, Try.ntmps37
    go_wp2_with (first | ((with_reducible refine gate_dst (N := 3) rfl ?_); refine bE 3 #[.int .i64 a1_0, .int .i64 a1_1, .int .i64 a1_2, .int .i64 a1_3, .int .i64 a1_4, .int .i64 a1_5, .int .i64 a1_6, .int .i64 a1_7, .int .i64 a1_8, .bool false, .int .i64 a1_10] 46 ?_; intro gb hg w1 hbox hb; have BK1 := Aside0.mk hbox; have HB1 := Aside0.mk hb; have GB : Aside0 (w.heap.size ≤ gb) := ⟨Nat.le_of_eq hg.symm⟩; clear hbox hb hg) | ((with_reducible refine gate_dst (N := 5) rfl ?_); refine bE 5 #[.int .i64 0, .int .i64 0, .int .i64 0, .int .i64 0, .int .i64 0, .int .i64 0, .int .i64 0, .int .i64 0, .int .i64 0, .bool false, .int .i64 0] 46 ?_; intro gz hg w2 hbox hb; have BZ2 := Aside0.mk hbox; have NE := NL BK1.out hg; have BK2 := BB BK1.out hb; have HB2 := Aside0.mk (below_then HB1.out HB1.out.size hb); have GZ : Aside0 (w.heap.size ≤ gz) := ⟨by have := HB1.out.size; omega⟩; clear hbox hb hg) | ((with_reducible refine gate_dst (N := 7) rfl ?_); refine Kd.R_lit (Kd.int .i64) _ 3 ?hg (N := 7) ?hd (xs := ([] : List Int)) (inner := []) (ok := fun _ => True) (okp := fun _ => True) ?hr ?hp (fun _ hk => hk) trivial (Below.refl _ _) (Nat.le_refl _) (by simp) ?_; (case hd => rfl); (case hg => rfl); (case hr => first | (go_simp; done) | (go_simp; rfl)); (case hp => exact (Reps.none _ _)); intro v7 w7 ho7 hb hg_ hnew_; have HO7 := Aside0.mk ho7; have BK7 := BB BK2.out hb; have BZ7 := BB BZ2.out hb; have HB7 := Aside0.mk (below_then HB2.out HB2.out.size hb); have HBx := Aside0.mk hb; clear hb hg_ hnew_ ho7) | (at_builtin; refine Kd.R_append_rows (Kd.int .i64) (w0 := w2) w2.heap.size rfl (.tmp 7) (.tmp 8) 22 3 (.int .i64 0) 8 rfl Try.underlying22 info3 rfl (by decide) (by omega) v7 [] l0 _ _ _ (fun _ => True) (fun _ => False) rfl rfl HO7.out (Kd.C_below HR0.out HB7.out) (fun _ _ h => h) (fun _ h => h.elim) (fun _ _ => trivial) HBx.out HBx.out.size (by have := HLb.out; simp only [List.length_nil]; omega) ?_; intro v0 w3 ho3 hb hgr hat; have HO3 := Aside0.mk (Kd.R_lower ho3 (show w.heap.size ≤ w2.heap.size from HB2.out.size)); have BK3 := Aside0.mk (blk_below BK2.out hb); have BZ3 := Aside0.mk (blk_below BZ2.out hb); have HB3 := Aside0.mk (below_then HB2.out HB2.out.size hb); have x0 : w3.cell? ⟨gb, 0, none⟩ = some (.int .i64 a1_0) := CZ BK3.out 0; have x1 : w3.cell? ⟨gb, 1, none⟩ = some (.int .i64 a1_1) := CZ BK3.out 1; have x2 : w3.cell? ⟨gb, 2, none⟩ = some (.int .i64 a1_2) := CZ BK3.out 2; have x3 : w3.cell? ⟨gb, 3, none⟩ = some (.int .i64 a1_3) := CZ BK3.out 3; have x4 : w3.cell? ⟨gb, 4, none⟩ = some (.int .i64 a1_4) := CZ BK3.out 4; have x5 : w3.cell? ⟨gb, 5, none⟩ = some (.int .i64 a1_5) := CZ BK3.out 5; have x6 : w3.cell? ⟨gb, 6, none⟩ = some (.int .i64 a1_6) := CZ BK3.out 6; have x7 : w3.cell? ⟨gb, 7, none⟩ = some (.int .i64 a1_7) := CZ BK3.out 7; have x8 : w3.cell? ⟨gb, 8, none⟩ = some (.int .i64 a1_8) := CZ BK3.out 8; have x9 : w3.cell? ⟨gb, 9, none⟩ = some (.bool false) := CZ BK3.out 9; have x10 : w3.cell? ⟨gb, 10, none⟩ = some (.int .i64 a1_10) := CZ BK3.out 10; clear ho3 hb hgr hat) | (go_at_call 45; refine (spec_TaskOk.calls a1_0 a1_1 a1_2 a1_3 a1_4 a1_5 a1_6 a1_7 a1_8 false a1_10 true w3 A2.out).mono ?_; rintro e w4 ⟨rfl, hb⟩; have HO4 := Aside0.mk (Kd.R_below HO3.out hb); have BK4 := BB BK3.out hb; have BZ4 := BB BZ3.out hb; have HB4 := Aside0.mk (below_then HB3.out HB3.out.size hb); have d0 : w4.cell? ⟨gb, 0, none⟩ = some (.int .i64 a1_0) := CZ BK4.out 0; have d1 : w4.cell? ⟨gb, 1, none⟩ = some (.int .i64 a1_1) := CZ BK4.out 1; have d2 : w4.cell? ⟨gb, 2, none⟩ = some (.int .i64 a1_2) := CZ BK4.out 2; have d3 : w4.cell? ⟨gb, 3, none⟩ = some (.int .i64 a1_3) := CZ BK4.out 3; have d4 : w4.cell? ⟨gb, 4, none⟩ = some (.int .i64 a1_4) := CZ BK4.out 4; have d5 : w4.cell? ⟨gb, 5, none⟩ = some (.int .i64 a1_5) := CZ BK4.out 5; have d6 : w4.cell? ⟨gb, 6, none⟩ = some (.int .i64 a1_6) := CZ BK4.out 6; have d7 : w4.cell? ⟨gb, 7, none⟩ = some (.int .i64 a1_7) := CZ BK4.out 7; have d8 : w4.cell? ⟨gb, 8, none⟩ = some (.int .i64 a1_8) := CZ BK4.out 8; have d9 : w4.cell? ⟨gb, 9, none⟩ = some (.bool false) := CZ BK4.out 9; have d10 : w4.cell? ⟨gb, 10, none⟩ = some (.int .i64 a1_10) := CZ BK4.out 10; clear hb))
    have z0 : w4.cell? ⟨gz, 0, none⟩ = some (.int .i64 0) := CZ BZ4.out 0
    have z1 : w4.cell? ⟨gz, 1, none⟩ = some (.int .i64 0) := CZ BZ4.out 1
    have z2 : w4.cell? ⟨gz, 2, none⟩ = some (.int .i64 0) := CZ BZ4.out 2
    have z3 : w4.cell? ⟨gz, 3, none⟩ = some (.int .i64 0) := CZ BZ4.out 3
    have z4 : w4.cell? ⟨gz, 4, none⟩ = some (.int .i64 0) := CZ BZ4.out 4
    have z5 : w4.cell? ⟨gz, 5, none⟩ = some (.int .i64 0) := CZ BZ4.out 5
    have z6 : w4.cell? ⟨gz, 6, none⟩ = some (.int .i64 0) := CZ BZ4.out 6
    have z7 : w4.cell? ⟨gz, 7, none⟩ = some (.int .i64 0) := CZ BZ4.out 7
    have z8 : w4.cell? ⟨gz, 8, none⟩ = some (.int .i64 0) := CZ BZ4.out 8
    have z9 : w4.cell? ⟨gz, 9, none⟩ = some (.bool false) := CZ BZ4.out 9
    have z10 : w4.cell? ⟨gz, 10, none⟩ = some (.int .i64 0) := CZ BZ4.out 10
    have hne2 : gz ≠ gb := fun e => NE.out e.symm
    have fz0 := blk_frozen BZ4.out 0
    have fz1 := blk_frozen BZ4.out 1
    have fz2 := blk_frozen BZ4.out 2
    have fz3 := blk_frozen BZ4.out 3
    have fz4 := blk_frozen BZ4.out 4
    have fz5 := blk_frozen BZ4.out 5
    have fz6 := blk_frozen BZ4.out 6
    have fz7 := blk_frozen BZ4.out 7
    have fz8 := blk_frozen BZ4.out 8
    have fz9 := blk_frozen BZ4.out 9
    have fz10 := blk_frozen BZ4.out 10
    have FI := Aside0.mk (spec_StepTask.fin (a1_0) (a1_1) (a1_2) (a1_3) (a1_4) (a1_5) (a1_6) (a1_7) (a1_8) (false) (a1_10) BZ4.out HB4.out GZ.out HO4.out)
    go_region
    go_wp2
    refine bodyPost_ret (results_tc rfl _ _ gz 46 #[.int .i64 a1_0, .int .i64 a1_1, .int .i64 a1_2, .int .i64 a1_3, .int .i64 a1_4, .int .i64 a1_5, .int .i64 a1_6, .int .i64 a1_7, .int .i64 a1_8, .bool false, .int .i64 a1_10] (0, 0) _ rfl FI.out.1 Try.underlying46 rfl (by kernel_rfl)) rfl ?_
    obtain ⟨_, f2, f3⟩ := FI.out
    have H2 := H'.out
    cases H2
    exact ⟨_, rfl, f2, f3⟩
   rw [if_pos hn] at H
   have hn0 : ((l0.length : Int) == 63) = true := beq_iff_eq.mpr hn
   have hn1 : ((l0.length : Int) != 63) = false := bne_eq_false_iff_eq.mpr hn
   obtain ⟨b, A3, H⟩ := Option.bind_eq_some_iff.1 H
   replace A3 := Aside0.mk A3
   cases b with
   | false =>
    rw [if_neg (by decide)] at H
    have H' := Aside0.mk (Option.some.inj H)
    clear H
    go_enter Try.func37, Try.ntmps37
    go_wp2_with (first | ((with_reducible refine gate_dst (N := 3) rfl ?_); refine bE 3 #[.int .i64 a1_0, .int .i64 a1_1, .int .i64 a1_2, .int .i64 a1_3, .int .i64 a1_4, .int .i64 a1_5, .int .i64 a1_6, .int .i64 a1_7, .int .i64 a1_8, .bool false, .int .i64 a1_10] 46 ?_; intro gb hg w1 hbox hb; have BK1 := Aside0.mk hbox; have HB1 := Aside0.mk hb; have GB : Aside0 (w.heap.size ≤ gb) := ⟨Nat.le_of_eq hg.symm⟩; clear hbox hb hg) | ((with_reducible refine gate_dst (N := 5) rfl ?_); refine bE 5 #[.int .i64 0, .int .i64 0, .int .i64 0, .int .i64 0, .int .i64 0, .int .i64 0, .int .i64 0, .int .i64 0, .int .i64 0, .bool false, .int .i64 0] 46 ?_; intro gz hg w2 hbox hb; have BZ2 := Aside0.mk hbox; have NE := NL BK1.out hg; have BK2 := BB BK1.out hb; have HB2 := Aside0.mk (below_then HB1.out HB1.out.size hb); have GZ : Aside0 (w.heap.size ≤ gz) := ⟨by have := HB1.out.size; omega⟩; clear hbox hb hg) | ((with_reducible refine gate_dst (N := 7) rfl ?_); refine Kd.R_lit (Kd.int .i64) _ 3 ?hg (N := 7) ?hd (xs := ([] : List Int)) (inner := []) (ok := fun _ => True) (okp := fun _ => True) ?hr ?hp (fun _ hk => hk) trivial (Below.refl _ _) (Nat.le_refl _) (by simp) ?_; (case hd => rfl); (case hg => rfl); (case hr => first | (go_simp; done) | (go_simp; rfl)); (case hp => exact (Reps.none _ _)); intro v7 w7 ho7 hb hg_ hnew_; have HO7 := Aside0.mk ho7; have BK7 := BB BK2.out hb; have BZ7 := BB BZ2.out hb; have HB7 := Aside0.mk (below_then HB2.out HB2.out.size hb); have HBx := Aside0.mk hb; clear hb hg_ hnew_ ho7) | (at_builtin; refine Kd.R_append_rows (Kd.int .i64) (w0 := w2) w2.heap.size rfl (.tmp 7) (.tmp 8) 22 3 (.int .i64 0) 8 rfl Try.underlying22 info3 rfl (by decide) (by omega) v7 [] l0 _ _ _ (fun _ => True) (fun _ => False) rfl rfl HO7.out (Kd.C_below HR0.out HB7.out) (fun _ _ h => h) (fun _ h => h.elim) (fun _ _ => trivial) HBx.out HBx.out.size (by have := HLb.out; simp only [List.length_nil]; omega) ?_; intro v0 w3 ho3 hb hgr hat; have HO3 := Aside0.mk (Kd.R_lower ho3 (show w.heap.size ≤ w2.heap.size from HB2.out.size)); have BK3 := Aside0.mk (blk_below BK2.out hb); have BZ3 := Aside0.mk (blk_below BZ2.out hb); have HB3 := Aside0.mk (below_then HB2.out HB2.out.size hb); have x0 : w3.cell? ⟨gb, 0, none⟩ = some (.int .i64 a1_0) := CZ BK3.out 0; have x1 : w3.cell? ⟨gb, 1, none⟩ = some (.int .i64 a1_1) := CZ BK3.out 1; have x2 : w3.cell? ⟨gb, 2, none⟩ = some (.int .i64 a1_2) := CZ BK3.out 2; have x3 : w3.cell? ⟨gb, 3, none⟩ = some (.int .i64 a1_3) := CZ BK3.out 3; have x4 : w3.cell? ⟨gb, 4, none⟩ = some (.int .i64 a1_4) := CZ BK3.out 4; have x5 : w3.cell? ⟨gb, 5, none⟩ = some (.int .i64 a1_5) := CZ BK3.out 5; have x6 : w3.cell? ⟨gb, 6, none⟩ = some (.int .i64 a1_6) := CZ BK3.out 6; have x7 : w3.cell? ⟨gb, 7, none⟩ = some (.int .i64 a1_7) := CZ BK3.out 7; have x8 : w3.cell? ⟨gb, 8, none⟩ = some (.int .i64 a1_8) := CZ BK3.out 8; have x9 : w3.cell? ⟨gb, 9, none⟩ = some (.bool false) := CZ BK3.out 9; have x10 : w3.cell? ⟨gb, 10, none⟩ = some (.int .i64 a1_10) := CZ BK3.out 10; clear ho3 hb hgr hat) | (go_at_call 45; refine (spec_TaskOk.calls a1_0 a1_1 a1_2 a1_3 a1_4 a1_5 a1_6 a1_7 a1_8 false a1_10 true w3 A2.out).mono ?_; rintro e w4 ⟨rfl, hb⟩; have HO4 := Aside0.mk (Kd.R_below HO3.out hb); have BK4 := BB BK3.out hb; have BZ4 := BB BZ3.out hb; have HB4 := Aside0.mk (below_then HB3.out HB3.out.size hb); have d0 : w4.cell? ⟨gb, 0, none⟩ = some (.int .i64 a1_0) := CZ BK4.out 0; have d1 : w4.cell? ⟨gb, 1, none⟩ = some (.int .i64 a1_1) := CZ BK4.out 1; have d2 : w4.cell? ⟨gb, 2, none⟩ = some (.int .i64 a1_2) := CZ BK4.out 2; have d3 : w4.cell? ⟨gb, 3, none⟩ = some (.int .i64 a1_3) := CZ BK4.out 3; have d4 : w4.cell? ⟨gb, 4, none⟩ = some (.int .i64 a1_4) := CZ BK4.out 4; have d5 : w4.cell? ⟨gb, 5, none⟩ = some (.int .i64 a1_5) := CZ BK4.out 5; have d6 : w4.cell? ⟨gb, 6, none⟩ = some (.int .i64 a1_6) := CZ BK4.out 6; have d7 : w4.cell? ⟨gb, 7, none⟩ = some (.int .i64 a1_7) := CZ BK4.out 7; have d8 : w4.cell? ⟨gb, 8, none⟩ = some (.int .i64 a1_8) := CZ BK4.out 8; have d9 : w4.cell? ⟨gb, 9, none⟩ = some (.bool false) := CZ BK4.out 9; have d10 : w4.cell? ⟨gb, 10, none⟩ = some (.int .i64 a1_10) := CZ BK4.out 10; clear hb) | (go_at_call 32; refine (spec_CellsOk.calls k A0 c0 l0 false w4 (Kd.C_below HR0.out HB4.out) HC0.out A3.out).mono ?_; rintro e w5 ⟨rfl, ⟨nd, hb0⟩⟩; have hb : Below w4.heap.size w4 w5 := (by rw [hb0]; exact pw_below_drewN (Below.refl _ _) _); clear hb0; have HO5 := Aside0.mk (Kd.R_below HO4.out hb); have BK5 := BB BK4.out hb; have BZ5 := BB BZ4.out hb; have HB5 := Aside0.mk (below_then HB4.out HB4.out.size hb); have e0 : w5.cell? ⟨gb, 0, none⟩ = some (.int .i64 a1_0) := CZ BK5.out 0; have e1 : w5.cell? ⟨gb, 1, none⟩ = some (.int .i64 a1_1) := CZ BK5.out 1; have e2 : w5.cell? ⟨gb, 2, none⟩ = some (.int .i64 a1_2) := CZ BK5.out 2; have e3 : w5.cell? ⟨gb, 3, none⟩ = some (.int .i64 a1_3) := CZ BK5.out 3; have e4 : w5.cell? ⟨gb, 4, none⟩ = some (.int .i64 a1_4) := CZ BK5.out 4; have e5 : w5.cell? ⟨gb, 5, none⟩ = some (.int .i64 a1_5) := CZ BK5.out 5; have e6 : w5.cell? ⟨gb, 6, none⟩ = some (.int .i64 a1_6) := CZ BK5.out 6; have e7 : w5.cell? ⟨gb, 7, none⟩ = some (.int .i64 a1_7) := CZ BK5.out 7; have e8 : w5.cell? ⟨gb, 8, none⟩ = some (.int .i64 a1_8) := CZ BK5.out 8; have e9 : w5.cell? ⟨gb, 9, none⟩ = some (.bool false) := CZ BK5.out 9; have e10 : w5.cell? ⟨gb, 10, none⟩ = some (.int .i64 a1_10) := CZ BK5.out 10; clear hb))
    have z0 : w5.cell? ⟨gz, 0, none⟩ = some (.int .i64 0) := CZ BZ5.out 0
    have z1 : w5.cell? ⟨gz, 1, none⟩ = some (.int .i64 0) := CZ BZ5.out 1
    have z2 : w5.cell? ⟨gz, 2, none⟩ = some (.int .i64 0) := CZ BZ5.out 2
    have z3 : w5.cell? ⟨gz, 3, none⟩ = some (.int .i64 0) := CZ BZ5.out 3
    have z4 : w5.cell? ⟨gz, 4, none⟩ = some (.int .i64 0) := CZ BZ5.out 4
    have z5 : w5.cell? ⟨gz, 5, none⟩ = some (.int .i64 0) := CZ BZ5.out 5
    have z6 : w5.cell? ⟨gz, 6, none⟩ = some (.int .i64 0) := CZ BZ5.out 6
    have z7 : w5.cell? ⟨gz, 7, none⟩ = some (.int .i64 0) := CZ BZ5.out 7
    have z8 : w5.cell? ⟨gz, 8, none⟩ = some (.int .i64 0) := CZ BZ5.out 8
    have z9 : w5.cell? ⟨gz, 9, none⟩ = some (.bool false) := CZ BZ5.out 9
    have z10 : w5.cell? ⟨gz, 10, none⟩ = some (.int .i64 0) := CZ BZ5.out 10
    have hne2 : gz ≠ gb := fun e => NE.out e.symm
    have fz0 := blk_frozen BZ5.out 0
    have fz1 := blk_frozen BZ5.out 1
    have fz2 := blk_frozen BZ5.out 2
    have fz3 := blk_frozen BZ5.out 3
    have fz4 := blk_frozen BZ5.out 4
    have fz5 := blk_frozen BZ5.out 5
    have fz6 := blk_frozen BZ5.out 6
    have fz7 := blk_frozen BZ5.out 7
    have fz8 := blk_frozen BZ5.out 8
    have fz9 := blk_frozen BZ5.out 9
    have fz10 := blk_frozen BZ5.out 10
    have FI := Aside0.mk (spec_StepTask.fin (a1_0) (a1_1) (a1_2) (a1_3) (a1_4) (a1_5) (a1_6) (a1_7) (a1_8) (false) (a1_10) BZ5.out HB5.out GZ.out HO5.out)
    go_region
    go_wp2
    refine bodyPost_ret (results_tc rfl _ _ gz 46 #[.int .i64 a1_0, .int .i64 a1_1, .int .i64 a1_2, .int .i64 a1_3, .int .i64 a1_4, .int .i64 a1_5, .int .i64 a1_6, .int .i64 a1_7, .int .i64 a1_8, .bool false, .int .i64 a1_10] (0, 0) _ rfl FI.out.1 Try.underlying46 rfl (by kernel_rfl)) rfl ?_
    obtain ⟨_, f2, f3⟩ := FI.out
    have H2 := H'.out
    cases H2
    exact ⟨_, rfl, f2, f3⟩
   | true =>
    rw [if_pos rfl] at H
    obtain ⟨bt, A4, H⟩ := Option.bind_eq_some_iff.1 H
    replace A4 := Aside0.mk A4
    have H' := Aside0.mk (Option.some.inj H)
    clear H
    go_enter Try.func37, Try.ntmps37
    go_wp2_with (first | ((with_reducible refine gate_dst (N := 3) rfl ?_); refine bE 3 #[.int .i64 a1_0, .int .i64 a1_1, .int .i64 a1_2, .int .i64 a1_3, .int .i64 a1_4, .int .i64 a1_5, .int .i64 a1_6, .int .i64 a1_7, .int .i64 a1_8, .bool false, .int .i64 a1_10] 46 ?_; intro gb hg w1 hbox hb; have BK1 := Aside0.mk hbox; have HB1 := Aside0.mk hb; have GB : Aside0 (w.heap.size ≤ gb) := ⟨Nat.le_of_eq hg.symm⟩; clear hbox hb hg) | ((with_reducible refine gate_dst (N := 5) rfl ?_); refine bE 5 #[.int .i64 0, .int .i64 0, .int .i64 0, .int .i64 0, .int .i64 0, .int .i64 0, .int .i64 0, .int .i64 0, .int .i64 0, .bool false, .int .i64 0] 46 ?_; intro gz hg w2 hbox hb; have BZ2 := Aside0.mk hbox; have NE := NL BK1.out hg; have BK2 := BB BK1.out hb; have HB2 := Aside0.mk (below_then HB1.out HB1.out.size hb); have GZ : Aside0 (w.heap.size ≤ gz) := ⟨by have := HB1.out.size; omega⟩; clear hbox hb hg) | ((with_reducible refine gate_dst (N := 7) rfl ?_); refine Kd.R_lit (Kd.int .i64) _ 3 ?hg (N := 7) ?hd (xs := ([] : List Int)) (inner := []) (ok := fun _ => True) (okp := fun _ => True) ?hr ?hp (fun _ hk => hk) trivial (Below.refl _ _) (Nat.le_refl _) (by simp) ?_; (case hd => rfl); (case hg => rfl); (case hr => first | (go_simp; done) | (go_simp; rfl)); (case hp => exact (Reps.none _ _)); intro v7 w7 ho7 hb hg_ hnew_; have HO7 := Aside0.mk ho7; have BK7 := BB BK2.out hb; have BZ7 := BB BZ2.out hb; have HB7 := Aside0.mk (below_then HB2.out HB2.out.size hb); have HBx := Aside0.mk hb; clear hb hg_ hnew_ ho7) | (at_builtin; refine Kd.R_append_rows (Kd.int .i64) (w0 := w2) w2.heap.size rfl (.tmp 7) (.tmp 8) 22 3 (.int .i64 0) 8 rfl Try.underlying22 info3 rfl (by decide) (by omega) v7 [] l0 _ _ _ (fun _ => True) (fun _ => False) rfl rfl HO7.out (Kd.C_below HR0.out HB7.out) (fun _ _ h => h) (fun _ h => h.elim) (fun _ _ => trivial) HBx.out HBx.out.size (by have := HLb.out; simp only [List.length_nil]; omega) ?_; intro v0 w3 ho3 hb hgr hat; have HO3 := Aside0.mk (Kd.R_lower ho3 (show w.heap.size ≤ w2.heap.size from HB2.out.size)); have BK3 := Aside0.mk (blk_below BK2.out hb); have BZ3 := Aside0.mk (blk_below BZ2.out hb); have HB3 := Aside0.mk (below_then HB2.out HB2.out.size hb); have x0 : w3.cell? ⟨gb, 0, none⟩ = some (.int .i64 a1_0) := CZ BK3.out 0; have x1 : w3.cell? ⟨gb, 1, none⟩ = some (.int .i64 a1_1) := CZ BK3.out 1; have x2 : w3.cell? ⟨gb, 2, none⟩ = some (.int .i64 a1_2) := CZ BK3.out 2; have x3 : w3.cell? ⟨gb, 3, none⟩ = some (.int .i64 a1_3) := CZ BK3.out 3; have x4 : w3.cell? ⟨gb, 4, none⟩ = some (.int .i64 a1_4) := CZ BK3.out 4; have x5 : w3.cell? ⟨gb, 5, none⟩ = some (.int .i64 a1_5) := CZ BK3.out 5; have x6 : w3.cell? ⟨gb, 6, none⟩ = some (.int .i64 a1_6) := CZ BK3.out 6; have x7 : w3.cell? ⟨gb, 7, none⟩ = some (.int .i64 a1_7) := CZ BK3.out 7; have x8 : w3.cell? ⟨gb, 8, none⟩ = some (.int .i64 a1_8) := CZ BK3.out 8; have x9 : w3.cell? ⟨gb, 9, none⟩ = some (.bool false) := CZ BK3.out 9; have x10 : w3.cell? ⟨gb, 10, none⟩ = some (.int .i64 a1_10) := CZ BK3.out 10; clear ho3 hb hgr hat) | (go_at_call 45; refine (spec_TaskOk.calls a1_0 a1_1 a1_2 a1_3 a1_4 a1_5 a1_6 a1_7 a1_8 false a1_10 true w3 A2.out).mono ?_; rintro e w4 ⟨rfl, hb⟩; have HO4 := Aside0.mk (Kd.R_below HO3.out hb); have BK4 := BB BK3.out hb; have BZ4 := BB BZ3.out hb; have HB4 := Aside0.mk (below_then HB3.out HB3.out.size hb); have d0 : w4.cell? ⟨gb, 0, none⟩ = some (.int .i64 a1_0) := CZ BK4.out 0; have d1 : w4.cell? ⟨gb, 1, none⟩ = some (.int .i64 a1_1) := CZ BK4.out 1; have d2 : w4.cell? ⟨gb, 2, none⟩ = some (.int .i64 a1_2) := CZ BK4.out 2; have d3 : w4.cell? ⟨gb, 3, none⟩ = some (.int .i64 a1_3) := CZ BK4.out 3; have d4 : w4.cell? ⟨gb, 4, none⟩ = some (.int .i64 a1_4) := CZ BK4.out 4; have d5 : w4.cell? ⟨gb, 5, none⟩ = some (.int .i64 a1_5) := CZ BK4.out 5; have d6 : w4.cell? ⟨gb, 6, none⟩ = some (.int .i64 a1_6) := CZ BK4.out 6; have d7 : w4.cell? ⟨gb, 7, none⟩ = some (.int .i64 a1_7) := CZ BK4.out 7; have d8 : w4.cell? ⟨gb, 8, none⟩ = some (.int .i64 a1_8) := CZ BK4.out 8; have d9 : w4.cell? ⟨gb, 9, none⟩ = some (.bool false) := CZ BK4.out 9; have d10 : w4.cell? ⟨gb, 10, none⟩ = some (.int .i64 a1_10) := CZ BK4.out 10; clear hb) | (go_at_call 32; refine (spec_CellsOk.calls k A0 c0 l0 true w4 (Kd.C_below HR0.out HB4.out) HC0.out A3.out).mono ?_; rintro e w5 ⟨rfl, ⟨nd, hb0⟩⟩; have hb : Below w4.heap.size w4 w5 := (by rw [hb0]; exact pw_below_drewN (Below.refl _ _) _); clear hb0; have HO5 := Aside0.mk (Kd.R_below HO4.out hb); have BK5 := BB BK4.out hb; have BZ5 := BB BZ4.out hb; have HB5 := Aside0.mk (below_then HB4.out HB4.out.size hb); have e0 : w5.cell? ⟨gb, 0, none⟩ = some (.int .i64 a1_0) := CZ BK5.out 0; have e1 : w5.cell? ⟨gb, 1, none⟩ = some (.int .i64 a1_1) := CZ BK5.out 1; have e2 : w5.cell? ⟨gb, 2, none⟩ = some (.int .i64 a1_2) := CZ BK5.out 2; have e3 : w5.cell? ⟨gb, 3, none⟩ = some (.int .i64 a1_3) := CZ BK5.out 3; have e4 : w5.cell? ⟨gb, 4, none⟩ = some (.int .i64 a1_4) := CZ BK5.out 4; have e5 : w5.cell? ⟨gb, 5, none⟩ = some (.int .i64 a1_5) := CZ BK5.out 5; have e6 : w5.cell? ⟨gb, 6, none⟩ = some (.int .i64 a1_6) := CZ BK5.out 6; have e7 : w5.cell? ⟨gb, 7, none⟩ = some (.int .i64 a1_7) := CZ BK5.out 7; have e8 : w5.cell? ⟨gb, 8, none⟩ = some (.int .i64 a1_8) := CZ BK5.out 8; have e9 : w5.cell? ⟨gb, 9, none⟩ = some (.bool false) := CZ BK5.out 9; have e10 : w5.cell? ⟨gb, 10, none⟩ = some (.int .i64 a1_10) := CZ BK5.out 10; clear hb) | (go_at_call 68; refine (spec_l06Step.calls (fun k_ => True ∧ k_ ≠ gz) v0 ([] ++ l0) gb a1_0 a1_1 a1_2 a1_3 a1_4 a1_5 a1_6 a1_7 a1_8 false a1_10 bt.1 bt.2.1 bt.2.2.1 bt.2.2.2.1 bt.2.2.2.2.1 bt.2.2.2.2.2.1 bt.2.2.2.2.2.2.1 bt.2.2.2.2.2.2.2.1 bt.2.2.2.2.2.2.2.2.1 bt.2.2.2.2.2.2.2.2.2.1 bt.2.2.2.2.2.2.2.2.2.2.1 bt.2.2.2.2.2.2.2.2.2.2.2 w w5 ⟨BK5.out, GB.out⟩ HB5.out (Kd.R_types HO5.out BZ5.out (by decide)) A4.out).mono ?_; rintro e w6 ⟨rfl, hi, hr, hb, hk⟩; have HO6 := Aside0.mk hr; have BK6 := Aside0.mk hi.1; have BZ6 := Aside0.mk (blk_kept BZ5.out hk (by rintro (h_ | h_); exact h_.2 rfl; exact NE.out h_.symm)); have HB6 := Aside0.mk hb; have f0 : w6.cell? ⟨gb, 0, none⟩ = some (.int .i64 bt.1) := CZ BK6.out 0; have f1 : w6.cell? ⟨gb, 1, none⟩ = some (.int .i64 bt.2.1) := CZ BK6.out 1; have f2 : w6.cell? ⟨gb, 2, none⟩ = some (.int .i64 bt.2.2.1) := CZ BK6.out 2; have f3 : w6.cell? ⟨gb, 3, none⟩ = some (.int .i64 bt.2.2.2.1) := CZ BK6.out 3; have f4 : w6.cell? ⟨gb, 4, none⟩ = some (.int .i64 bt.2.2.2.2.1) := CZ BK6.out 4; have f5 : w6.cell? ⟨gb, 5, none⟩ = some (.int .i64 bt.2.2.2.2.2.1) := CZ BK6.out 5; have f6 : w6.cell? ⟨gb, 6, none⟩ = some (.int .i64 bt.2.2.2.2.2.2.1) := CZ BK6.out 6; have f7 : w6.cell? ⟨gb, 7, none⟩ = some (.int .i64 bt.2.2.2.2.2.2.2.1) := CZ BK6.out 7; have f8 : w6.cell? ⟨gb, 8, none⟩ = some (.int .i64 bt.2.2.2.2.2.2.2.2.1) := CZ BK6.out 8; have f9 : w6.cell? ⟨gb, 9, none⟩ = some (.bool bt.2.2.2.2.2.2.2.2.2.1) := CZ BK6.out 9; have f10 : w6.cell? ⟨gb, 10, none⟩ = some (.int .i64 bt.2.2.2.2.2.2.2.2.2.2.1) := CZ BK6.out 10; clear hi hr hb hk))
    have z0 : w6.cell? ⟨gz, 0, none⟩ = some (.int .i64 0) := CZ BZ6.out 0
    have z1 : w6.cell? ⟨gz, 1, none⟩ = some (.int .i64 0) := CZ BZ6.out 1
    have z2 : w6.cell? ⟨gz, 2, none⟩ = some (.int .i64 0) := CZ BZ6.out 2
    have z3 : w6.cell? ⟨gz, 3, none⟩ = some (.int .i64 0) := CZ BZ6.out 3
    have z4 : w6.cell? ⟨gz, 4, none⟩ = some (.int .i64 0) := CZ BZ6.out 4
    have z5 : w6.cell? ⟨gz, 5, none⟩ = some (.int .i64 0) := CZ BZ6.out 5
    have z6 : w6.cell? ⟨gz, 6, none⟩ = some (.int .i64 0) := CZ BZ6.out 6
    have z7 : w6.cell? ⟨gz, 7, none⟩ = some (.int .i64 0) := CZ BZ6.out 7
    have z8 : w6.cell? ⟨gz, 8, none⟩ = some (.int .i64 0) := CZ BZ6.out 8
    have z9 : w6.cell? ⟨gz, 9, none⟩ = some (.bool false) := CZ BZ6.out 9
    have z10 : w6.cell? ⟨gz, 10, none⟩ = some (.int .i64 0) := CZ BZ6.out 10
    have hne2 : gz ≠ gb := fun e => NE.out e.symm
    have fz0 := blk_frozen BZ6.out 0
    have fz1 := blk_frozen BZ6.out 1
    have fz2 := blk_frozen BZ6.out 2
    have fz3 := blk_frozen BZ6.out 3
    have fz4 := blk_frozen BZ6.out 4
    have fz5 := blk_frozen BZ6.out 5
    have fz6 := blk_frozen BZ6.out 6
    have fz7 := blk_frozen BZ6.out 7
    have fz8 := blk_frozen BZ6.out 8
    have fz9 := blk_frozen BZ6.out 9
    have fz10 := blk_frozen BZ6.out 10
    have FI := Aside0.mk (spec_StepTask.fin (bt.1) (bt.2.1) (bt.2.2.1) (bt.2.2.2.1) (bt.2.2.2.2.1) (bt.2.2.2.2.2.1) (bt.2.2.2.2.2.2.1) (bt.2.2.2.2.2.2.2.1) (bt.2.2.2.2.2.2.2.2.1) (bt.2.2.2.2.2.2.2.2.2.1) (bt.2.2.2.2.2.2.2.2.2.2.1) BZ6.out HB6.out GZ.out HO6.out)
    go_region
    go_wp2
    refine bodyPost_ret (results_tc rfl _ _ gz 46 #[.int .i64 bt.1, .int .i64 bt.2.1, .int .i64 bt.2.2.1, .int .i64 bt.2.2.2.1, .int .i64 bt.2.2.2.2.1, .int .i64 bt.2.2.2.2.2.1, .int .i64 bt.2.2.2.2.2.2.1, .int .i64 bt.2.2.2.2.2.2.2.1, .int .i64 bt.2.2.2.2.2.2.2.2.1, .bool bt.2.2.2.2.2.2.2.2.2.1, .int .i64 bt.2.2.2.2.2.2.2.2.2.2.1] (0, 0) _ rfl FI.out.1 Try.underlying46 rfl (by kernel_rfl)) rfl ?_
    obtain ⟨_, f2, f3⟩ := FI.out
    have H2 := H'.out
    cases H2
    exact ⟨_, rfl, f2, f3⟩

/-! ### laws_toTask: function 38 -/
def laws_toTask.f (a0_0 : Int) (a0_1 : Int) (a0_2 : Int) (a0_3 : Int) (a0_4 : Int) (a0_5 : Int) (a0_6 : Int) (a0_7 : Int) (a0_8 : Int) (a0_9 : Bool) (a0_10 : Int) : Option (Int × Int × Int × Int × Int × Int × Int × Int × Int × Bool × Int) := some (a0_0, a0_1, a0_2, a0_3, a0_4, a0_5, a0_6, a0_7, a0_8, a0_9, a0_10)
set_option maxHeartbeats 8000000 in
set_option maxRecDepth 100000 in
theorem laws_toTask.calls (a0_0 : Int) (a0_1 : Int) (a0_2 : Int) (a0_3 : Int) (a0_4 : Int) (a0_5 : Int) (a0_6 : Int) (a0_7 : Int) (a0_8 : Int) (a0_9 : Bool) (a0_10 : Int) (r1 : Int) (r2 : Int) (r3 : Int) (r4 : Int) (r5 : Int) (r6 : Int) (r7 : Int) (r8 : Int) (r9 : Int) (r10 : Bool) (r11 : Int) (w : World) (h : laws_toTask.f a0_0 a0_1 a0_2 a0_3 a0_4 a0_5 a0_6 a0_7 a0_8 a0_9 a0_10 = some (r1, r2, r3, r4, r5, r6, r7, r8, r9, r10, r11)) :
  Calls Try.prog 38 #[.agg #[.int .i64 a0_0, .int .i64 a0_1, .int .i64 a0_2, .int .i64 a0_3, .int .i64 a0_4, .int .i64 a0_5, .int .i64 a0_6, .int .i64 a0_7, .int .i64 a0_8, .bool a0_9, .int .i64 a0_10]] w fun e w' => e = .returned (.agg #[.int .i64 r1, .int .i64 r2, .int .i64 r3, .int .i64 r4, .int .i64 r5, .int .i64 r6, .int .i64 r7, .int .i64 r8, .int .i64 r9, .bool r10, .int .i64 r11]) ∧ Below w.heap.size w w' := by
 have hu45 := Try.underlying45
 have hu46 := Try.underlying46
 have HB := Aside0.mk (Below.refl w.heap.size w)
 have H : (some (a0_0, a0_1, a0_2, a0_3, a0_4, a0_5, a0_6, a0_7, a0_8, a0_9, a0_10)) = some (r1, r2, r3, r4, r5, r6, r7, r8, r9, r10, r11) := h
 clear h
 simp only [Option.some.injEq, Prod.mk.injEq] at H
 obtain ⟨rfl, rfl, rfl, rfl, rfl, rfl, rfl, rfl, rfl, rfl, rfl⟩ := H
 go_enter Try.func38, Try.ntmps38
 go_wp2_with (first | ((with_reducible refine gate_dst (N := 1) rfl ?_); refine bE 1 #[.int .i64 a0_0, .int .i64 a0_1, .int .i64 a0_2, .int .i64 a0_3, .int .i64 a0_4, .int .i64 a0_5, .int .i64 a0_6, .int .i64 a0_7, .int .i64 a0_8, .bool a0_9, .int .i64 a0_10] 45 ?_; intro gb217 hg w2 hbox hb; have BK217 := Aside0.mk (hbox); have GW217 : Aside0 (w.heap.size ≤ gb217) := GS; have GE217 : Aside0 (w.heap.size ≤ gb217) := GS; replace HB := Aside0.mk (below_step (BL) hb); clear hb hbox hg) | ((with_reducible refine gate_dst (N := 2) rfl ?_); refine bE 2 #[.int .i64 0, .int .i64 0, .int .i64 0, .int .i64 0, .int .i64 0, .int .i64 0, .int .i64 0, .int .i64 0, .int .i64 0, .bool false, .int .i64 0] 46 ?_; intro gb218 hg w3 hbox hb; have BK218 := Aside0.mk (hbox); have GW218 : Aside0 (w.heap.size ≤ gb218) := GS; have GE218 : Aside0 (w.heap.size ≤ gb218) := GS; have NB217_218 := NL BK217.out hg; have NB218_217 := NG BK217.out hg; replace BK217 := BB BK217.out hb; replace HB := Aside0.mk (below_step (BL) hb); clear hb hbox hg) | ((with_reducible refine gate_dst (N := 3) rfl ?_); refine bE 3 #[.int .i64 0, .int .i64 0, .int .i64 0, .int .i64 0, .int .i64 0, .int .i64 0, .int .i64 0, .int .i64 0, .int .i64 0, .bool false, .int .i64 0] 46 ?_; intro gb219 hg w4 hbox hb; have BK219 := Aside0.mk (hbox); have GW219 : Aside0 (w.heap.size ≤ gb219) := GS; have GE219 : Aside0 (w.heap.size ≤ gb219) := GS; have NB217_219 := NL BK217.out hg; have NB219_217 := NG BK217.out hg; have NB218_219 := NL BK218.out hg; have NB219_218 := NG BK218.out hg; replace BK217 := BB BK217.out hb; replace BK218 := BB BK218.out hb; replace HB := Aside0.mk (below_step (BL) hb); clear hb hbox hg; have hnb5 := NB217_218.out; have hnc5 := NB218_217.out; have hnb6 := NB217_219.out; have hnc6 := NB219_217.out; have hcz7_0 : w4.cell? ⟨gb217, 0, none⟩ = some (.int .i64 a0_0) := CZ BK217.out 0; have hcz7_1 : w4.cell? ⟨gb217, 1, none⟩ = some (.int .i64 a0_1) := CZ BK217.out 1; have hcz7_2 : w4.cell? ⟨gb217, 2, none⟩ = some (.int .i64 a0_2) := CZ BK217.out 2; have hcz7_3 : w4.cell? ⟨gb217, 3, none⟩ = some (.int .i64 a0_3) := CZ BK217.out 3; have hcz7_4 : w4.cell? ⟨gb217, 4, none⟩ = some (.int .i64 a0_4) := CZ BK217.out 4; have hcz7_5 : w4.cell? ⟨gb217, 5, none⟩ = some (.int .i64 a0_5) := CZ BK217.out 5; have hcz7_6 : w4.cell? ⟨gb217, 6, none⟩ = some (.int .i64 a0_6) := CZ BK217.out 6; have hcz7_7 : w4.cell? ⟨gb217, 7, none⟩ = some (.int .i64 a0_7) := CZ BK217.out 7; have hcz7_8 : w4.cell? ⟨gb217, 8, none⟩ = some (.int .i64 a0_8) := CZ BK217.out 8; have hcz7_9 : w4.cell? ⟨gb217, 9, none⟩ = some (.bool a0_9) := CZ BK217.out 9; have hcz7_10 : w4.cell? ⟨gb217, 10, none⟩ = some (.int .i64 a0_10) := CZ BK217.out 10; have hfz7_0 := blk_frozen BK217.out 0; have hfz7_1 := blk_frozen BK217.out 1; have hfz7_2 := blk_frozen BK217.out 2; have hfz7_3 := blk_frozen BK217.out 3; have hfz7_4 := blk_frozen BK217.out 4; have hfz7_5 := blk_frozen BK217.out 5; have hfz7_6 := blk_frozen BK217.out 6; have hfz7_7 := blk_frozen BK217.out 7; have hfz7_8 := blk_frozen BK217.out 8; have hfz7_9 := blk_frozen BK217.out 9; have hfz7_10 := blk_frozen BK217.out 10; have hnb8 := NB219_218.out; have hnc8 := NB218_219.out; have hcz9_0 : w4.cell? ⟨gb219, 0, none⟩ = some (.int .i64 0) := CZ BK219.out 0; have hcz9_1 : w4.cell? ⟨gb219, 1, none⟩ = some (.int .i64 0) := CZ BK219.out 1; have hcz9_2 : w4.cell? ⟨gb219, 2, none⟩ = some (.int .i64 0) := CZ BK219.out 2; have hcz9_3 : w4.cell? ⟨gb219, 3, none⟩ = some (.int .i64 0) := CZ BK219.out 3; have hcz9_4 : w4.cell? ⟨gb219, 4, none⟩ = some (.int .i64 0) := CZ BK219.out 4; have hcz9_5 : w4.cell? ⟨gb219, 5, none⟩ = some (.int .i64 0) := CZ BK219.out 5; have hcz9_6 : w4.cell? ⟨gb219, 6, none⟩ = some (.int .i64 0) := CZ BK219.out 6; have hcz9_7 : w4.cell? ⟨gb219, 7, none⟩ = some (.int .i64 0) := CZ BK219.out 7; have hcz9_8 : w4.cell? ⟨gb219, 8, none⟩ = some (.int .i64 0) := CZ BK219.out 8; have hcz9_9 : w4.cell? ⟨gb219, 9, none⟩ = some (.bool false) := CZ BK219.out 9; have hcz9_10 : w4.cell? ⟨gb219, 10, none⟩ = some (.int .i64 0) := CZ BK219.out 10; have hfz9_0 := blk_frozen BK219.out 0; have hfz9_1 := blk_frozen BK219.out 1; have hfz9_2 := blk_frozen BK219.out 2; have hfz9_3 := blk_frozen BK219.out 3; have hfz9_4 := blk_frozen BK219.out 4; have hfz9_5 := blk_frozen BK219.out 5; have hfz9_6 := blk_frozen BK219.out 6; have hfz9_7 := blk_frozen BK219.out 7; have hfz9_8 := blk_frozen BK219.out 8; have hfz9_9 := blk_frozen BK219.out 9; have hfz9_10 := blk_frozen BK219.out 10; have hcz10_0 : w4.cell? ⟨gb218, 0, none⟩ = some (.int .i64 0) := CZ BK218.out 0; have hcz10_1 : w4.cell? ⟨gb218, 1, none⟩ = some (.int .i64 0) := CZ BK218.out 1; have hcz10_2 : w4.cell? ⟨gb218, 2, none⟩ = some (.int .i64 0) := CZ BK218.out 2; have hcz10_3 : w4.cell? ⟨gb218, 3, none⟩ = some (.int .i64 0) := CZ BK218.out 3; have hcz10_4 : w4.cell? ⟨gb218, 4, none⟩ = some (.int .i64 0) := CZ BK218.out 4; have hcz10_5 : w4.cell? ⟨gb218, 5, none⟩ = some (.int .i64 0) := CZ BK218.out 5; have hcz10_6 : w4.cell? ⟨gb218, 6, none⟩ = some (.int .i64 0) := CZ BK218.out 6; have hcz10_7 : w4.cell? ⟨gb218, 7, none⟩ = some (.int .i64 0) := CZ BK218.out 7; have hcz10_8 : w4.cell? ⟨gb218, 8, none⟩ = some (.int .i64 0) := CZ BK218.out 8; have hcz10_9 : w4.cell? ⟨gb218, 9, none⟩ = some (.bool false) := CZ BK218.out 9; have hcz10_10 : w4.cell? ⟨gb218, 10, none⟩ = some (.int .i64 0) := CZ BK218.out 10; have hfz10_0 := blk_frozen BK218.out 0; have hfz10_1 := blk_frozen BK218.out 1; have hfz10_2 := blk_frozen BK218.out 2; have hfz10_3 := blk_frozen BK218.out 3; have hfz10_4 := blk_frozen BK218.out 4; have hfz10_5 := blk_frozen BK218.out 5; have hfz10_6 := blk_frozen BK218.out 6; have hfz10_7 := blk_frozen BK218.out 7; have hfz10_8 := blk_frozen BK218.out 8; have hfz10_9 := blk_frozen BK218.out 9; have hfz10_10 := blk_frozen BK218.out 10))
 refine bodyPost_ret (results_cell_row rfl _ _ gb218 46 #[.int .i64 a0_0, .int .i64 a0_1, .int .i64 a0_2, .int .i64 a0_3, .int .i64 a0_4, .int .i64 a0_5, .int .i64 a0_6, .int .i64 a0_7, .int .i64 a0_8, .bool a0_9, .int .i64 a0_10] (0, 0) _ rfl (by (with_reducible repeat (first | apply b1 | apply b2 | apply b3)); refine blk_put (cs := #[.int .i64 a0_0, .int .i64 a0_1, .int .i64 a0_2, .int .i64 a0_3, .int .i64 a0_4, .int .i64 a0_5, .int .i64 a0_6, .int .i64 a0_7, .int .i64 a0_8, .bool a0_9, .int .i64 0]) ?_ 10 _ rfl; (with_reducible repeat (first | apply b1 | apply b2 | apply b3)); refine blk_put (cs := #[.int .i64 a0_0, .int .i64 a0_1, .int .i64 a0_2, .int .i64 a0_3, .int .i64 a0_4, .int .i64 a0_5, .int .i64 a0_6, .int .i64 a0_7, .int .i64 a0_8, .bool false, .int .i64 0]) ?_ 9 _ rfl; (with_reducible repeat (first | apply b1 | apply b2 | apply b3)); refine blk_put (cs := #[.int .i64 a0_0, .int .i64 a0_1, .int .i64 a0_2, .int .i64 a0_3, .int .i64 a0_4, .int .i64 a0_5, .int .i64 a0_6, .int .i64 a0_7, .int .i64 0, .bool false, .int .i64 0]) ?_ 8 _ rfl; (with_reducible repeat (first | apply b1 | apply b2 | apply b3)); refine blk_put (cs := #[.int .i64 a0_0, .int .i64 a0_1, .int .i64 a0_2, .int .i64 a0_3, .int .i64 a0_4, .int .i64 a0_5, .int .i64 a0_6, .int .i64 0, .int .i64 0, .bool false, .int .i64 0]) ?_ 7 _ rfl; (with_reducible repeat (first | apply b1 | apply b2 | apply b3)); refine blk_put (cs := #[.int .i64 a0_0, .int .i64 a0_1, .int .i64 a0_2, .int .i64 a0_3, .int .i64 a0_4, .int .i64 a0_5, .int .i64 0, .int .i64 0, .int .i64 0, .bool false, .int .i64 0]) ?_ 6 _ rfl; (with_reducible repeat (first | apply b1 | apply b2 | apply b3)); refine blk_put (cs := #[.int .i64 a0_0, .int .i64 a0_1, .int .i64 a0_2, .int .i64 a0_3, .int .i64 a0_4, .int .i64 0, .int .i64 0, .int .i64 0, .int .i64 0, .bool false, .int .i64 0]) ?_ 5 _ rfl; (with_reducible repeat (first | apply b1 | apply b2 | apply b3)); refine blk_put (cs := #[.int .i64 a0_0, .int .i64 a0_1, .int .i64 a0_2, .int .i64 a0_3, .int .i64 0, .int .i64 0, .int .i64 0, .int .i64 0, .int .i64 0, .bool false, .int .i64 0]) ?_ 4 _ rfl; (with_reducible repeat (first | apply b1 | apply b2 | apply b3)); refine blk_put (cs := #[.int .i64 a0_0, .int .i64 a0_1, .int .i64 a0_2, .int .i64 0, .int .i64 0, .int .i64 0, .int .i64 0, .int .i64 0, .int .i64 0, .bool false, .int .i64 0]) ?_ 3 _ rfl; (with_reducible repeat (first | apply b1 | apply b2 | apply b3)); refine blk_put (cs := #[.int .i64 a0_0, .int .i64 a0_1, .int .i64 0, .int .i64 0, .int .i64 0, .int .i64 0, .int .i64 0, .int .i64 0, .int .i64 0, .bool false, .int .i64 0]) ?_ 2 _ rfl; (with_reducible repeat (first | apply b1 | apply b2 | apply b3)); refine blk_put (cs := #[.int .i64 a0_0, .int .i64 0, .int .i64 0, .int .i64 0, .int .i64 0, .int .i64 0, .int .i64 0, .int .i64 0, .int .i64 0, .bool false, .int .i64 0]) ?_ 1 _ rfl; (with_reducible repeat (first | apply b1 | apply b2 | apply b3)); refine blk_put (cs := #[.int .i64 0, .int .i64 0, .int .i64 0, .int .i64 0, .int .i64 0, .int .i64 0, .int .i64 0, .int .i64 0, .int .i64 0, .bool false, .int .i64 0]) ?_ 0 _ rfl; (with_reducible repeat (first | apply b1 | apply b2 | apply b3)); refine blk_far ?_ NB218_219.out _; (with_reducible repeat (first | apply b1 | apply b2 | apply b3)); refine blk_far ?_ NB218_219.out _; (with_reducible repeat (first | apply b1 | apply b2 | apply b3)); refine blk_far ?_ NB218_219.out _; (with_reducible repeat (first | apply b1 | apply b2 | apply b3)); refine blk_far ?_ NB218_219.out _; (with_reducible repeat (first | apply b1 | apply b2 | apply b3)); refine blk_far ?_ NB218_219.out _; (with_reducible repeat (first | apply b1 | apply b2 | apply b3)); refine blk_far ?_ NB218_219.out _; (with_reducible repeat (first | apply b1 | apply b2 | apply b3)); refine blk_far ?_ NB218_219.out _; (with_reducible repeat (first | apply b1 | apply b2 | apply b3)); refine blk_far ?_ NB218_219.out _; (with_reducible repeat (first | apply b1 | apply b2 | apply b3)); refine blk_far ?_ NB218_219.out _; (with_reducible repeat (first | apply b1 | apply b2 | apply b3)); refine blk_far ?_ NB218_219.out _; (with_reducible repeat (first | apply b1 | apply b2 | apply b3)); refine blk_far ?_ NB218_219.out _; (with_reducible repeat (first | apply b1 | apply b2 | apply b3)); exact BK218.out) Try.underlying46 rfl (by kernel_rfl)) rfl ?_
 exact ⟨EE, BL⟩

/-! ### impl_within: function 60 -/
def impl_within.f (a0 : Int) (a1 : Int) (a2 : Int) : Option (Bool) := if a0 ≥ a1 then (some (decide (a0 ≤ a2))) else (some false)
set_option maxHeartbeats 8000000 in
set_option maxRecDepth 100000 in
theorem impl_within.calls (a0 : Int) (a1 : Int) (a2 : Int) (r : Bool) (w : World) (h : impl_within.f a0 a1 a2 = some r) :
  Calls Try.prog 60 #[.int .i64 a0, .int .i64 a1, .int .i64 a2] w fun e w' => e = .returned (.bool r) ∧ Drawn0 w w' := by
 have H : (if a0 ≥ a1 then (some (decide (a0 ≤ a2))) else (some false)) = some r := h
 clear h
 by_cases c4 : a0 ≥ a1
 ·
  rw [if_pos c4] at H
  have c4b0 : decide (a1 ≤ a0) = true := decide_eq_true c4
  clear c4
  obtain rfl := Option.some.inj H
  go_enter Try.func60, Try.ntmps60
  go_wp2
  go_ret
  exact ⟨by first | rfl | (simp; done) | (simp [*]; done), by repeat (first | exact Drawn0.refl _ | apply Drawn0.step)⟩
 rw [if_neg c4] at H
 have c4b0 : decide (a1 ≤ a0) = false := decide_eq_false c4
 clear c4
 obtain rfl := Option.some.inj H
 go_enter Try.func60, Try.ntmps60
 go_wp2
 go_ret
 exact ⟨by first | rfl | (simp; done) | (simp [*]; done), by repeat (first | exact Drawn0.refl _ | apply Drawn0.step)⟩

/-! ### impl_isNumber: function 53 -/
def impl_isNumber.f (a0 : Int) : Option (Bool) := (impl_within.f a0 0 1000000000).bind fun t220 => (some t220)
set_option maxHeartbeats 8000000 in
set_option maxRecDepth 100000 in
theorem impl_isNumber.calls (a0 : Int) (r : Bool) (w : World) (h : impl_isNumber.f a0 = some r) :
  Calls Try.prog 53 #[.int .i64 a0] w fun e w' => e = .returned (.bool r) ∧ Drawn0 w w' := by
 have H : ((impl_within.f a0 0 1000000000).bind fun t220 => (some t220)) = some r := h
 clear h
 replace H := Option.bind_eq_some_iff.mp H
 obtain ⟨t220, A20, H⟩ := H
 replace H : (some t220) = some r := H
 have A2 := Aside0.mk A20
 clear A20
 obtain rfl := Option.some.inj H
 go_enter Try.func53, Try.ntmps53
 go_wp2_with (first | ((with_reducible refine gate_callee (f := 60) rfl ?_); refine goesL_ (some 4) rfl rfl Try.func60 (by kernel_rfl) rfl #[.int .i64 a0, .int .i64 0, .int .i64 1000000000] rfl (MA) ?_; (with_reducible refine (impl_within.calls a0 0 1000000000 t220 _ A2.out).mono ?_); rintro e w' ⟨rfl, ⟨nd, rfl⟩⟩; refine ⟨_, rfl, ?_⟩))
 go_ret
 exact ⟨by first | rfl | (simp; done) | (simp [*]; done), by repeat (first | exact Drawn0.refl _ | apply Drawn0.step)⟩

/-! ### impl_CellsOk: function 27 -/
def impl_CellsOk.l0 : Nat → List Int → List Int → Int → Int → Option (Bool)
 | 0, _, _, _, _ => none
 | k + 1, x0, x5, x6, x7 => if x7 < x6 then (if 0 ≤ x7 then (if x7 < (x5.length : Int) then ((impl_isNumber.f (rd x5 x7)).bind fun t222 => (if t222 = true then (impl_CellsOk.l0 k x0 x5 x6 (wrap64 (x7 + 1))) else (some false))) else (none)) else (none)) else ((impl_within.f (x0.length : Int) 1 80).bind fun t223 => (some t223))
def impl_CellsOk.f (k : Nat) (l0 : List Int) : Option (Bool) := impl_CellsOk.l0 k l0 l0 (l0.length : Int) 0
theorem impl_CellsOk.mono_l : ∀ k, (∀ y0 y1 y2 y3, LeO (impl_CellsOk.l0 k y0 y1 y2 y3) (impl_CellsOk.l0 (k + 1) y0 y1 y2 y3))
 | 0 => fun _ _ _ _ r h => by simp [impl_CellsOk.l0] at h
 | k + 1 => by
  have ih0 := impl_CellsOk.mono_l k
  ·
   intro y0 y1 y2 y3
   unfold impl_CellsOk.l0
   repeat' first
   | (with_reducible exact ih0 _ _ _ _)
   | (with_reducible exact LeO.refl _)
   | (with_reducible exact LeO.none _)
   | (with_reducible refine LeO.ite ?_ ?_)
   | (with_reducible refine LeO.bind ?_ (fun _ => ?_))
   | exact ih0 _ _ _ _
   | exact LeO.none _
   | refine LeO.ite ?_ ?_
   | refine LeO.bind ?_ (fun _ => ?_)
theorem impl_CellsOk.mono : ∀ a0 k, LeO (impl_CellsOk.f k a0) (impl_CellsOk.f (k + 1) a0) := by
 intro a0 k
 have ih0 := impl_CellsOk.mono_l k
 unfold impl_CellsOk.f
 repeat' first
   | (with_reducible exact ih0 _ _ _ _)
   | (with_reducible exact LeO.refl _)
   | (with_reducible exact LeO.none _)
   | (with_reducible refine LeO.ite ?_ ?_)
   | (with_reducible refine LeO.bind ?_ (fun _ => ?_))
   | exact ih0 _ _ _ _
   | exact LeO.none _
   | refine LeO.ite ?_ ?_
   | refine LeO.bind ?_ (fun _ => ?_)
set_option maxHeartbeats 8000000 in
set_option maxRecDepth 100000 in
theorem impl_CellsOk.calls (k : Nat) (A0 : Option Addr) (c0 : Nat) (l0 : List Int) (r : Bool) (w : World) (hr0 : Kd.C (Kd.int .i64) w A0 l0.length l0) (hc0 : l0.length ≤ c0) (h : impl_CellsOk.f k l0 = some r) :
  Calls Try.prog 27 #[.slice A0 l0.length c0] w fun e w' => e = .returned (.bool r) ∧ Drawn0 w w' := by
 have HR0 := Aside0.mk hr0
 have HC0 := Aside0.mk hc0
 clear hr0 hc0
 have H : (impl_CellsOk.l0 k l0 l0 (l0.length : Int) 0) = some r := h
 clear h
 have H' := Aside0.mk H
 clear H
 go_enter Try.func27, Try.ntmps27
 go_wp2
 go_loopg [7] k (fun kq v7 w' => ∃ (x7_1 : Int), v7 = .int .i64 x7_1 ∧ Aside0 (impl_CellsOk.l0 kq l0 l0 (l0.length : Int) x7_1 = some r) ∧ Aside0 (kq ≤ k) ∧ Drawn0 w w')
 case atStart => exact ⟨(0), SD, H', ⟨Nat.le_refl _⟩, by repeat (first | exact Drawn0.refl _ | apply Drawn0.step)⟩
 case round =>
  clear H'
  obtain ⟨x7_1, rfl, HA, HK1, ⟨m1, rfl⟩⟩ := hrel
  cases gk with
  | zero => exact absurd HA.out (by simp [impl_CellsOk.l0])
  | succ k1 =>
   have H := HA.out
   clear HA
   simp only [impl_CellsOk.l0] at H
   by_cases c2 : x7_1 < (l0.length : Int); rotate_left
   ·
    rw [if_neg c2] at H
    have c2b0 : decide (x7_1 < (l0.length : Int)) = false := decide_eq_false c2
    clear c2
    replace H := Option.bind_eq_some_iff.mp H
    obtain ⟨t223, A70, H⟩ := H
    replace H : (some t223) = some r := H
    have A7 := Aside0.mk A70
    clear A70
    obtain rfl := Option.some.inj H
    go_wp2_with (first | ((with_reducible refine gate_callee (f := 60) rfl ?_); refine goesL_ (some 17) rfl rfl Try.func60 (by kernel_rfl) rfl #[.int .i64 (l0.length : Int), .int .i64 1, .int .i64 80] rfl (MA) ?_; (with_reducible refine (impl_within.calls (l0.length : Int) 1 80 t223 _ A7.out).mono ?_); rintro e w' ⟨rfl, ⟨nd, rfl⟩⟩; refine ⟨_, rfl, ?_⟩))
    go_ret
    exact ⟨by first | rfl | (simp; done) | (simp [*]; done), by repeat (first | exact Drawn0.refl _ | apply Drawn0.step)⟩
   rw [if_pos c2] at H
   have c2b0 : decide (x7_1 < (l0.length : Int)) = true := decide_eq_true c2
   clear c2
   by_cases c3 : 0 ≤ x7_1; rotate_left
   ·
    rw [if_neg c3] at H
    exact absurd H (by simp)
   rw [if_pos c3] at H
   have c3b0 : decide (0 ≤ x7_1) = true := decide_eq_true c3
   clear c3
   by_cases c4 : x7_1 < (l0.length : Int); rotate_left
   ·
    rw [if_neg c4] at H
    exact absurd H (by simp)
   rw [if_pos c4] at H
   have c4b0 : decide (x7_1 < (l0.length : Int)) = true := decide_eq_true c4
   clear c4
   replace H := Option.bind_eq_some_iff.mp H
   obtain ⟨t222, A50, H⟩ := H
   replace H : (if t222 = true then (impl_CellsOk.l0 k1 l0 l0 (l0.length : Int) (wrap64 (x7_1 + 1))) else (some false)) = some r := H
   have A5 := Aside0.mk A50
   clear A50
   by_cases c6 : t222 = true; rotate_left
   ·
    replace c6 := Bool.eq_false_iff.mpr c6
    subst c6
    have H1 : (some false) = some r := by rw [if_neg (show ¬ (false = true) by decide)] at H; exact H
    clear H
    have H := H1
    clear H1
    obtain rfl := Option.some.inj H
    have p221 : 0 ≤ (x7_1 : Int) := of_decide_eq_true AS
    have q221 : x7_1 < (l0.length : Int) := of_decide_eq_true AS
    obtain ⟨ad221, e221, hx221_0⟩ := Kd.at_int HR0.out x7_1 p221 q221
    cases e221
    replace p221 := eq_true p221
    replace q221 := eq_true q221
    go_wp2_with (first | ((with_reducible refine gate_callee (f := 53) rfl ?_); refine goesL_ (some 12) rfl rfl Try.func53 (by kernel_rfl) rfl #[.int .i64 (rd l0 x7_1)] rfl (MA) ?_; (with_reducible refine (impl_isNumber.calls (rd l0 x7_1) false _ A5.out).mono ?_); rintro e w' ⟨rfl, ⟨nd, rfl⟩⟩; refine ⟨_, rfl, ?_⟩))
    go_ret
    exact ⟨by first | rfl | (simp; done) | (simp [*]; done), by repeat (first | exact Drawn0.refl _ | apply Drawn0.step)⟩
   subst c6
   have H1 : (impl_CellsOk.l0 k1 l0 l0 (l0.length : Int) (wrap64 (x7_1 + 1))) = some r := by rw [if_pos rfl] at H; exact H
   clear H
   have H := H1
   clear H1
   have H' := Aside0.mk H
   clear H
   have p221 : 0 ≤ (x7_1 : Int) := of_decide_eq_true AS
   have q221 : x7_1 < (l0.length : Int) := of_decide_eq_true AS
   obtain ⟨ad221, e221, hx221_0⟩ := Kd.at_int HR0.out x7_1 p221 q221
   cases e221
   replace p221 := eq_true p221
   replace q221 := eq_true q221
   go_wp2_with (first | ((with_reducible refine gate_callee (f := 53) rfl ?_); refine goesL_ (some 12) rfl rfl Try.func53 (by kernel_rfl) rfl #[.int .i64 (rd l0 x7_1)] rfl (MA) ?_; (with_reducible refine (impl_isNumber.calls (rd l0 x7_1) true _ A5.out).mono ?_); rintro e w' ⟨rfl, ⟨nd, rfl⟩⟩; refine ⟨_, rfl, ?_⟩))
   go_roundg k1
   case measure => have := HK1.out; omega
   case rel => exact ⟨(wrap64 (x7_1 + 1)), SD, H', ⟨by have := HK1.out; omega⟩, by repeat (first | exact Drawn0.refl _ | apply Drawn0.step)⟩

end Go.Proofs.Ytjmggbhgmenmcaa.Qs
