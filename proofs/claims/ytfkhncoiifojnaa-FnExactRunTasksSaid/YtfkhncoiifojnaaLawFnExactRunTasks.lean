-- Laid by myprint.py, a program of this session's own, over the kit's print. Not trusted: Lean checks it.
import Derived.Test.YtfkhncoiifojnaaRows
import Derived.Test.YtfkhncoiifojnaaQrtx11
import Derived.Test.YtfkhncoiifojnaaPureFnExactRunTasks
import Derived.Test.YtfkhncoiifojnaaVOpen
import Derived.WalkKit
import Derived.ProofKit
import Derived.OpenShut
import Derived.ShutString
import Derived.ChangeOld
import Derived.Below
import Derived.SizedLaws
import Derived.Carry
import Derived.Test.YtfkhncoiifojnaaVSized
namespace Go.Proofs.Ytfkhncoiifojnaa.fnExactRunTasks
open Go.ChangeShapes Go.WideShapes Go.ChangeAt Go.RowKit Go.Proofs.Ytfkhncoiifojnaa.Open Go.Proofs.Ytfkhncoiifojnaa.Qrt Go.Proofs.YtfkhncoiifojnaaW.PrintWords
open Go.ChangeMaps (open_string shut_string)
set_option linter.unusedVariables false
set_option linter.unusedSimpArgs false
theorem own : ownKnob Try.prog.godebug = none := by kernel_rfl
theorem laidOut : laidOutB Try.prog = true := by kernel_rfl
set_option maxHeartbeats 4000000 in
set_option maxRecDepth 100000 in
theorem lifted (os : Os) (started : os.Started) (H : Type) (enc : TypeId × Value → H) :
    ReturnsInHanded {} Try.checked os 6 .any (Rows.fnExactRunTasksSpec.pre6 enc Try.prog Try.f6 Rows.fnExactRunTasksRow.domain false) (Rows.fnExactRunTasksSpec.post enc Try.prog Try.f6 false true false false) := by
  refine returnsInHanded_of_change_sized (C := Try.checked) own started (by kernel_rfl) Try.func6
    (ChangeSpec.witness6 (enc := enc) (C := Try.checked) false ⟨#[], #[.slice none 0 0, .slice none 0 0], []⟩ 8 (by kernel_rfl) (by kernel_rfl) (by kernel_rfl) (by kernel_rfl)) ?_
  intro W base args ds gs before hval0 hW hcnd hsz0 _
  have hval : ∀ (j : Nat) t v, Try.f6.params[j]? = some t → args[j]? = some v → Value.okWide Try.prog W .any base t v := hval0
  have hW' := hW
  obtain ⟨p, q, hA0, hV, rfl, hfz, hnd⟩ := hW
  have hA : DataW.TrodAll enc Try.prog W 0 (fun _ => true) true Try.f6.params.toList args.toList ds p := hA0
  rw [Try.params6] at hA hval
  obtain ⟨v0, vs0, d0, ds0, p0, q0, hargs, rfl, rfl, h0, r0⟩ := trodAll_cons hA
  obtain ⟨v1, vs1, d1, ds1, p1, q1, rfl, rfl, rfl, h1, r1⟩ := trodAll_cons r0
  obtain ⟨rfl, rfl, rfl⟩ := trodAll_nil r1
  obtain rfl : args = #[v0, v1] := by cases args; simp_all
  obtain ⟨rfl, rfl⟩ := trodVars_none hV
  have kk0 := h0
  have lt0 : ∀ x ∈ p0, x.block < W.heap.size := by obtain ⟨m, hm⟩ := kk0; exact DataW.trod_lt m _ _ _ hm
  obtain ⟨aa0, len0, cap0, rfl⟩ := okWide_slice Try.underlying50 (hval 0 50 v0 rfl rfl)
  obtain ⟨l0, A0, c0, e0, hc0, hr0, hq0⟩ : ∃ (l : List (S24)) (A : Option Addr) (c : Nat), (Value.slice aa0 len0 cap0) = .slice A l.length c ∧ l.length ≤ c ∧ Kd.C k24 W A l.length l ∧ ((∀ x_ ∈ l, ((Lit.int .i64 x_.f0).wf = true ∧ (Lit.int .i64 x_.f1).wf = true ∧ (Lit.int .i64 x_.f2).wf = true ∧ (Lit.int .i64 x_.f3).wf = true ∧ (Lit.int .i64 x_.f4).wf = true ∧ (Lit.int .i64 x_.f5).wf = true ∧ (Lit.int .i64 x_.f6).wf = true ∧ (Lit.int .i64 x_.f7).wf = true ∧ (Lit.int .i64 x_.f8).wf = true ∧ True ∧ (Lit.int .i64 x_.f10).wf = true)) ∧ l.length ≤ maxLen) := by
    obtain ⟨fu, hf⟩ := h0
    obtain ⟨x, ⟨A, c, h1, h2, h3⟩, hq⟩ := (opens_slice Try.underlying50 (by kernel_rfl) (opens_iso (fun x : S24 => (x.f0, x.f1, x.f2, x.f3, x.f4, x.f5, x.f6, x.f7, x.f8, x.f9, x.f10)) (fun y => (⟨y.1, y.2.1, y.2.2.1, y.2.2.2.1, y.2.2.2.2.1, y.2.2.2.2.2.1, y.2.2.2.2.2.2.1, y.2.2.2.2.2.2.2.1, y.2.2.2.2.2.2.2.2.1, y.2.2.2.2.2.2.2.2.2.1, y.2.2.2.2.2.2.2.2.2.2⟩ : S24)) (fun y => rfl) (opens_struct (tot := 11) Try.underlying24 (by kernel_rfl) (from_cons (i := 0) (off := 0) (tot := 11) rfl rfl (by kernel_rfl) (opens_int Try.underlying3) (from_cons (i := 1) (off := 1) (tot := 11) rfl rfl (by kernel_rfl) (opens_int Try.underlying3) (from_cons (i := 2) (off := 2) (tot := 11) rfl rfl (by kernel_rfl) (opens_int Try.underlying3) (from_cons (i := 3) (off := 3) (tot := 11) rfl rfl (by kernel_rfl) (opens_int Try.underlying3) (from_cons (i := 4) (off := 4) (tot := 11) rfl rfl (by kernel_rfl) (opens_int Try.underlying3) (from_cons (i := 5) (off := 5) (tot := 11) rfl rfl (by kernel_rfl) (opens_int Try.underlying3) (from_cons (i := 6) (off := 6) (tot := 11) rfl rfl (by kernel_rfl) (opens_int Try.underlying3) (from_cons (i := 7) (off := 7) (tot := 11) rfl rfl (by kernel_rfl) (opens_int Try.underlying3) (from_cons (i := 8) (off := 8) (tot := 11) rfl rfl (by kernel_rfl) (opens_int Try.underlying3) (from_cons (i := 9) (off := 9) (tot := 11) rfl rfl (by kernel_rfl) (opens_bool Try.underlying4) (from_last (i := 10) (off := 10) (tot := 11) rfl rfl (by kernel_rfl) rfl (opens_int Try.underlying3))))))))))))))) hf
    refine ⟨x, A, c, ?_, h2, h3, hq⟩
    have h1 : [Value.slice aa0 len0 cap0] = [Value.slice A x.length c] := h1
    injection h1
  cases e0
  clear h0
  have kk1 := h1
  have lt1 : ∀ x ∈ p1, x.block < W.heap.size := by obtain ⟨m, hm⟩ := kk1; exact DataW.trod_lt m _ _ _ hm
  obtain ⟨aa1, len1, cap1, rfl⟩ := okWide_slice Try.underlying38 (hval 1 38 v1 rfl rfl)
  obtain ⟨l1, A1, c1, e1, hc1, hr1, hq1⟩ : ∃ (l : List Int) (A : Option Addr) (c : Nat), (Value.slice aa1 len1 cap1) = .slice A l.length c ∧ l.length ≤ c ∧ Kd.C (Kd.int .i64) W A l.length l ∧ ((∀ x_ ∈ l, (Lit.int .i64 x_).wf = true) ∧ l.length ≤ maxLen) := by
    obtain ⟨fu, hf⟩ := h1
    obtain ⟨x, ⟨A, c, h1, h2, h3⟩, hq⟩ := (opens_slice Try.underlying38 (by kernel_rfl) (opens_int Try.underlying3)) hf
    refine ⟨x, A, c, ?_, h2, h3, hq⟩
    have h1 : [Value.slice aa1 len1 cap1] = [Value.slice A x.length c] := h1
    injection h1
  cases e1
  clear h1
  clear hA0 hval0 hsz0 hval
  obtain ⟨k, hP⟩ := Pure.FnExactRunTasks l0 l1 hq0 hq1
  refine (Qrt.laws_FnExactRunTasks.calls k _ _ l0 _ _ l1 true W hr0 hc0 hr1 hc1 hP).mono ?_
  rintro e W' ⟨he, bel0⟩
  have bel : Below W.heap.size W W' := bel0
  subst he
  exact ⟨_, rfl, _, _, _, [], _, [], hW', trodAll_mk1 (shut_bool Try.underlying4 _), (trodAll_cons_mk (Below.trod laidOut (by kernel_rfl) (of_decide_eq_true (by kernel_rfl)) kk0 bel lt0) (trodAll_cons_mk (Below.trod laidOut (by kernel_rfl) (of_decide_eq_true (by kernel_rfl)) kk1 bel lt1) trodAll_mk0)), rfl, bel.frame _, fun h => by cases h⟩
theorem over : Rows.fnExactRunTasksRow.holds Try.pinned (OpenSpec.ofChange Rows.fnExactRunTasksSpec) :=
  OpenClaim.holds_of_wide 6 Try.f6 rfl rfl rfl rfl rfl rfl rfl ⟨rfl, rfl, rfl, rfl, rfl⟩ rfl rfl rfl rfl rfl (by kernel_rfl) Try.func6 (by kernel_rfl)
    (of_decide_eq_true (by kernel_rfl)) (by unfold Func.isWrapper; first | (rw [if_pos (by decide +kernel)]; kernel_rfl) | (rw [if_neg (by decide +kernel)]; exact ⟨rfl, rfl⟩))
    (fun os started H enc _ => lifted os started H enc)
theorem proved : Rows.FnExactRunTasksSaid := over
#print axioms proved
end Go.Proofs.Ytfkhncoiifojnaa.fnExactRunTasks
namespace Go.Proofs.Ytfkhncoiifojnaa
/-- The row, under a short name, for the claim. -/
theorem fnExactRunTasks_holds : Rows.FnExactRunTasksSaid := fnExactRunTasks.proved
end Go.Proofs.Ytfkhncoiifojnaa
