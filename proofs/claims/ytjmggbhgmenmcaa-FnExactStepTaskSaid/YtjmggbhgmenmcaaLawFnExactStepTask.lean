-- Laid by myprint.py, a program of this session's own, over the kit's print. Not trusted: Lean checks it.
import Derived.Test.YtjmggbhgmenmcaaRows
import Derived.Test.YtjmggbhgmenmcaaQsx11
import Derived.Test.YtjmggbhgmenmcaaPureFnExactStepTask
import Derived.Test.YtjmggbhgmenmcaaVOpen
import Derived.WalkKit
import Derived.ProofKit
import Derived.OpenShut
import Derived.ShutString
import Derived.ChangeOld
import Derived.Below
import Derived.SizedLaws
import Derived.Carry
import Derived.Test.YtjmggbhgmenmcaaVSized
namespace Go.Proofs.Ytjmggbhgmenmcaa.fnExactStepTask
open Go.ChangeShapes Go.WideShapes Go.ChangeAt Go.RowKit Go.Proofs.Ytjmggbhgmenmcaa.Open Go.Proofs.Ytjmggbhgmenmcaa.Qs Go.Proofs.YtjmggbhgmenmcaaW.PrintWords
open Go.ChangeMaps (open_string shut_string)
set_option linter.unusedVariables false
set_option linter.unusedSimpArgs false
theorem own : ownKnob Try.prog.godebug = none := by kernel_rfl
theorem laidOut : laidOutB Try.prog = true := by kernel_rfl
set_option maxHeartbeats 4000000 in
set_option maxRecDepth 100000 in
theorem lifted (os : Os) (started : os.Started) (H : Type) (enc : TypeId × Value → H) :
    ReturnsInHanded {} Try.checked os 10 .any (Rows.fnExactStepTaskSpec.pre6 enc Try.prog Try.f10 Rows.fnExactStepTaskRow.domain false) (Rows.fnExactStepTaskSpec.post enc Try.prog Try.f10 false true false false) := by
  refine returnsInHanded_of_change_sized (C := Try.checked) own started (by kernel_rfl) Try.func10
    (ChangeSpec.witness6 (enc := enc) (C := Try.checked) false ⟨#[], #[.slice none 0 0, .agg #[.int .i64 0, .int .i64 0, .int .i64 0, .int .i64 0, .int .i64 0, .int .i64 0, .int .i64 0, .int .i64 0, .int .i64 0, .bool false, .int .i64 0]], []⟩ 8 (by kernel_rfl) (by kernel_rfl) (by kernel_rfl) (by kernel_rfl)) ?_
  intro W base args ds gs before hval0 hW hcnd hsz0 _
  have hval : ∀ (j : Nat) t v, Try.f10.params[j]? = some t → args[j]? = some v → Value.okWide Try.prog W .any base t v := hval0
  have hW' := hW
  obtain ⟨p, q, hA0, hV, rfl, hfz, hnd⟩ := hW
  have hA : DataW.TrodAll enc Try.prog W 0 (fun _ => true) true Try.f10.params.toList args.toList ds p := hA0
  rw [Try.params10] at hA hval
  obtain ⟨v0, vs0, d0, ds0, p0, q0, hargs, rfl, rfl, h0, r0⟩ := trodAll_cons hA
  obtain ⟨v1, vs1, d1, ds1, p1, q1, rfl, rfl, rfl, h1, r1⟩ := trodAll_cons r0
  obtain ⟨rfl, rfl, rfl⟩ := trodAll_nil r1
  obtain rfl : args = #[v0, v1] := by cases args; simp_all
  obtain ⟨rfl, rfl⟩ := trodVars_none hV
  have kk0 := h0
  have lt0 : ∀ x ∈ p0, x.block < W.heap.size := by obtain ⟨m, hm⟩ := kk0; exact DataW.trod_lt m _ _ _ hm
  obtain ⟨aa0, len0, cap0, rfl⟩ := okWide_slice Try.underlying22 (hval 0 22 v0 rfl rfl)
  obtain ⟨l0, A0, c0, e0, hc0, hr0, hq0⟩ : ∃ (l : List Int) (A : Option Addr) (c : Nat), (Value.slice aa0 len0 cap0) = .slice A l.length c ∧ l.length ≤ c ∧ Kd.C (Kd.int .i64) W A l.length l ∧ ((∀ x_ ∈ l, (Lit.int .i64 x_).wf = true) ∧ l.length ≤ maxLen) := by
    obtain ⟨fu, hf⟩ := h0
    obtain ⟨x, ⟨A, c, h1, h2, h3⟩, hq⟩ := (opens_slice Try.underlying22 (by kernel_rfl) (opens_int Try.underlying3)) hf
    refine ⟨x, A, c, ?_, h2, h3, hq⟩
    have h1 : [Value.slice aa0 len0 cap0] = [Value.slice A x.length c] := h1
    injection h1
  cases e0
  clear h0
  have kk1 := h1
  have lt1 : ∀ x ∈ p1, x.block < W.heap.size := by obtain ⟨m, hm⟩ := kk1; exact DataW.trod_lt m _ _ _ hm
  obtain ⟨cs1, rfl, hcs1⟩ := okWide_struct Try.underlying45 (hval 1 45 v1 rfl rfl)
  obtain ⟨a1_0, a1_1, a1_2, a1_3, a1_4, a1_5, a1_6, a1_7, a1_8, a1_9, a1_10, e1, hp1⟩ : ∃ (a1_0 : Int) (a1_1 : Int) (a1_2 : Int) (a1_3 : Int) (a1_4 : Int) (a1_5 : Int) (a1_6 : Int) (a1_7 : Int) (a1_8 : Int) (a1_9 : Bool) (a1_10 : Int), Value.agg cs1 = .agg #[.int .i64 a1_0, .int .i64 a1_1, .int .i64 a1_2, .int .i64 a1_3, .int .i64 a1_4, .int .i64 a1_5, .int .i64 a1_6, .int .i64 a1_7, .int .i64 a1_8, .bool a1_9, .int .i64 a1_10] ∧ (((Lit.int .i64 a1_0).wf = true) ∧ ((Lit.int .i64 a1_1).wf = true) ∧ ((Lit.int .i64 a1_2).wf = true) ∧ ((Lit.int .i64 a1_3).wf = true) ∧ ((Lit.int .i64 a1_4).wf = true) ∧ ((Lit.int .i64 a1_5).wf = true) ∧ ((Lit.int .i64 a1_6).wf = true) ∧ ((Lit.int .i64 a1_7).wf = true) ∧ ((Lit.int .i64 a1_8).wf = true) ∧ (True) ∧ ((Lit.int .i64 a1_10).wf = true)) := by
    obtain ⟨fu, hf⟩ := h1
    obtain ⟨y, hk, hq⟩ := (opens_struct (tot := 11) Try.underlying45 (by kernel_rfl) (from_cons (i := 0) (off := 0) (tot := 11) rfl rfl (by kernel_rfl) (opens_int Try.underlying3) (from_cons (i := 1) (off := 1) (tot := 11) rfl rfl (by kernel_rfl) (opens_int Try.underlying3) (from_cons (i := 2) (off := 2) (tot := 11) rfl rfl (by kernel_rfl) (opens_int Try.underlying3) (from_cons (i := 3) (off := 3) (tot := 11) rfl rfl (by kernel_rfl) (opens_int Try.underlying3) (from_cons (i := 4) (off := 4) (tot := 11) rfl rfl (by kernel_rfl) (opens_int Try.underlying3) (from_cons (i := 5) (off := 5) (tot := 11) rfl rfl (by kernel_rfl) (opens_int Try.underlying3) (from_cons (i := 6) (off := 6) (tot := 11) rfl rfl (by kernel_rfl) (opens_int Try.underlying3) (from_cons (i := 7) (off := 7) (tot := 11) rfl rfl (by kernel_rfl) (opens_int Try.underlying3) (from_cons (i := 8) (off := 8) (tot := 11) rfl rfl (by kernel_rfl) (opens_int Try.underlying3) (from_cons (i := 9) (off := 9) (tot := 11) rfl rfl (by kernel_rfl) (opens_bool Try.underlying4) (from_last (i := 10) (off := 10) (tot := 11) rfl rfl (by kernel_rfl) rfl (opens_int Try.underlying3))))))))))))) hf
    have hk' := hk
    obtain ⟨u1_, w1_, g1_, g2_, ⟨u3_, w3_, g3_, g4_, ⟨u5_, w5_, g5_, g6_, ⟨u7_, w7_, g7_, g8_, ⟨u9_, w9_, g9_, g10_, ⟨u11_, w11_, g11_, g12_, ⟨u13_, w13_, g13_, g14_, ⟨u15_, w15_, g15_, g16_, ⟨u17_, w17_, g17_, g18_, ⟨u19_, w19_, g19_, g20_, g21_⟩⟩⟩⟩⟩⟩⟩⟩⟩⟩ := hk
    have q2_ : u1_ = [.int .i64 y.1] := g2_
    have q4_ : u3_ = [.int .i64 y.2.1] := g4_
    have q6_ : u5_ = [.int .i64 y.2.2.1] := g6_
    have q8_ : u7_ = [.int .i64 y.2.2.2.1] := g8_
    have q10_ : u9_ = [.int .i64 y.2.2.2.2.1] := g10_
    have q12_ : u11_ = [.int .i64 y.2.2.2.2.2.1] := g12_
    have q14_ : u13_ = [.int .i64 y.2.2.2.2.2.2.1] := g14_
    have q16_ : u15_ = [.int .i64 y.2.2.2.2.2.2.2.1] := g16_
    have q18_ : u17_ = [.int .i64 y.2.2.2.2.2.2.2.2.1] := g18_
    have q20_ : u19_ = [.bool y.2.2.2.2.2.2.2.2.2.1] := g20_
    have q21_ : w19_ = [.int .i64 y.2.2.2.2.2.2.2.2.2.2] := g21_
    have hz : cs1.toList = [.int .i64 y.1, .int .i64 y.2.1, .int .i64 y.2.2.1, .int .i64 y.2.2.2.1, .int .i64 y.2.2.2.2.1, .int .i64 y.2.2.2.2.2.1, .int .i64 y.2.2.2.2.2.2.1, .int .i64 y.2.2.2.2.2.2.2.1, .int .i64 y.2.2.2.2.2.2.2.2.1, .bool y.2.2.2.2.2.2.2.2.2.1, .int .i64 y.2.2.2.2.2.2.2.2.2.2] := by
      have hz0 : (Value.agg cs1).cells.toList = cs1.toList := rfl
      rw [← hz0]
      simp only [g1_, q2_, g3_, q4_, g5_, q6_, g7_, q8_, g9_, q10_, g11_, q12_, g13_, q14_, g15_, q16_, g17_, q18_, g19_, q20_, q21_]
      try rfl
    refine ⟨y.1, y.2.1, y.2.2.1, y.2.2.2.1, y.2.2.2.2.1, y.2.2.2.2.2.1, y.2.2.2.2.2.2.1, y.2.2.2.2.2.2.2.1, y.2.2.2.2.2.2.2.2.1, y.2.2.2.2.2.2.2.2.2.1, y.2.2.2.2.2.2.2.2.2.2, ?_, hq⟩
    rw [← Array.toArray_toList (xs := cs1), hz]
  cases e1
  clear h1
  obtain ⟨hx1_0, hx1_1, hx1_2, hx1_3, hx1_4, hx1_5, hx1_6, hx1_7, hx1_8, hx1_9, hx1_10⟩ := hp1
  clear hA0 hval0 hsz0 hval
  obtain ⟨k, hP⟩ := Pure.FnExactStepTask l0 a1_0 a1_1 a1_2 a1_3 a1_4 a1_5 a1_6 a1_7 a1_8 a1_9 a1_10 hq0 hx1_0 hx1_1 hx1_2 hx1_3 hx1_4 hx1_5 hx1_6 hx1_7 hx1_8 hx1_10
  refine (Qs.laws_FnExactStepTask.calls k _ _ l0 a1_0 a1_1 a1_2 a1_3 a1_4 a1_5 a1_6 a1_7 a1_8 a1_9 a1_10 true W hr0 hc0 hP).mono ?_
  rintro e W' ⟨he, bel0⟩
  have bel : Below W.heap.size W W' := bel0
  subst he
  exact ⟨_, rfl, _, _, _, [], _, [], hW', trodAll_mk1 (shut_bool Try.underlying4 _), (trodAll_cons_mk (Below.trod laidOut (by kernel_rfl) (of_decide_eq_true (by kernel_rfl)) kk0 bel lt0) (trodAll_cons_mk (Below.trod laidOut (by kernel_rfl) (of_decide_eq_true (by kernel_rfl)) kk1 bel lt1) trodAll_mk0)), rfl, bel.frame _, fun h => by cases h⟩
theorem over : Rows.fnExactStepTaskRow.holds Try.pinned (OpenSpec.ofChange Rows.fnExactStepTaskSpec) :=
  OpenClaim.holds_of_wide 10 Try.f10 rfl rfl rfl rfl rfl rfl rfl ⟨rfl, rfl, rfl, rfl, rfl⟩ rfl rfl rfl rfl rfl (by kernel_rfl) Try.func10 (by kernel_rfl)
    (of_decide_eq_true (by kernel_rfl)) (by unfold Func.isWrapper; first | (rw [if_pos (by decide +kernel)]; kernel_rfl) | (rw [if_neg (by decide +kernel)]; exact ⟨rfl, rfl⟩))
    (fun os started H enc _ => lifted os started H enc)
theorem proved : Rows.FnExactStepTaskSaid := over
#print axioms proved
end Go.Proofs.Ytjmggbhgmenmcaa.fnExactStepTask
namespace Go.Proofs.Ytjmggbhgmenmcaa
/-- The row, under a short name, for the claim. -/
theorem fnExactStepTask_holds : Rows.FnExactStepTaskSaid := fnExactStepTask.proved
end Go.Proofs.Ytjmggbhgmenmcaa
