-- Laid by myprint.py, a program of this session's own, over the kit's print. Not trusted: Lean checks it.
import Derived.Test.YthfppepnpngfmaaRows
import Derived.Test.YthfppepnpngfmaaQcux10
import Derived.Test.YthfppepnpngfmaaPureFnExactCutActs
import Derived.Test.YthfppepnpngfmaaVOpen
import Derived.WalkKit
import Derived.ProofKit
import Derived.OpenShut
import Derived.ShutString
import Derived.ChangeOld
import Derived.Below
import Derived.SizedLaws
import Derived.Carry
import Derived.Test.YthfppepnpngfmaaVSized
namespace Go.Proofs.Ythfppepnpngfmaa.fnExactCutActs
open Go.ChangeShapes Go.WideShapes Go.ChangeAt Go.RowKit Go.Proofs.Ythfppepnpngfmaa.Open Go.Proofs.Ythfppepnpngfmaa.Qcu Go.Proofs.YthfppepnpngfmaaW.PrintWords
open Go.ChangeMaps (open_string shut_string)
set_option linter.unusedVariables false
set_option linter.unusedSimpArgs false
theorem own : ownKnob Try.prog.godebug = none := by kernel_rfl
theorem laidOut : laidOutB Try.prog = true := by kernel_rfl
set_option maxHeartbeats 4000000 in
set_option maxRecDepth 100000 in
theorem lifted (os : Os) (started : os.Started) (H : Type) (enc : TypeId × Value → H) :
    ReturnsInHanded {} Try.checked os 11 .any (Rows.fnExactCutActsSpec.pre6 enc Try.prog Try.f11 Rows.fnExactCutActsRow.domain false) (Rows.fnExactCutActsSpec.post enc Try.prog Try.f11 false true false false) := by
  refine returnsInHanded_of_change_sized (C := Try.checked) own started (by kernel_rfl) Try.func11
    (ChangeSpec.witness6 (enc := enc) (C := Try.checked) false ⟨#[], #[.agg #[.slice none 0 0], .slice none 0 0, .int .i64 0, .slice none 0 0], []⟩ 8 (by kernel_rfl) (by kernel_rfl) (by kernel_rfl) (by kernel_rfl)) ?_
  intro W base args ds gs before hval0 hW hcnd hsz0 _
  have hval : ∀ (j : Nat) t v, Try.f11.params[j]? = some t → args[j]? = some v → Value.okWide Try.prog W .any base t v := hval0
  have hW' := hW
  obtain ⟨p, q, hA0, hV, rfl, hfz, hnd⟩ := hW
  have hA : DataW.TrodAll enc Try.prog W 0 (fun _ => true) true Try.f11.params.toList args.toList ds p := hA0
  rw [Try.params11] at hA hval
  obtain ⟨v0, vs0, d0, ds0, p0, q0, hargs, rfl, rfl, h0, r0⟩ := trodAll_cons hA
  obtain ⟨v1, vs1, d1, ds1, p1, q1, rfl, rfl, rfl, h1, r1⟩ := trodAll_cons r0
  obtain ⟨v2, vs2, d2, ds2, p2, q2, rfl, rfl, rfl, h2, r2⟩ := trodAll_cons r1
  obtain ⟨v3, vs3, d3, ds3, p3, q3, rfl, rfl, rfl, h3, r3⟩ := trodAll_cons r2
  obtain ⟨rfl, rfl, rfl⟩ := trodAll_nil r3
  obtain rfl : args = #[v0, v1, v2, v3] := by cases args; simp_all
  obtain ⟨rfl, rfl⟩ := trodVars_none hV
  have kk0 := h0
  have lt0 : ∀ x ∈ p0, x.block < W.heap.size := by obtain ⟨m, hm⟩ := kk0; exact DataW.trod_lt m _ _ _ hm
  obtain ⟨cs0, rfl, hcs0⟩ := okWide_struct Try.underlying24 (hval 0 24 v0 rfl rfl)
  obtain ⟨l0_0, A0_0, c0_0, e0, hp0⟩ : ∃ (l0_0 : List (S94)) (A0_0 : Option Addr) (c0_0 : Nat), Value.agg cs0 = .agg #[.slice A0_0 l0_0.length c0_0] ∧ ((l0_0.length ≤ c0_0 ∧ Kd.C k94 W A0_0 l0_0.length l0_0) ∧ (((∀ x_ ∈ l0_0, (x_.f0.size ≤ maxLen ∧ x_.f1.size ≤ maxLen ∧ (Lit.int .i64 x_.f2).wf = true)) ∧ l0_0.length ≤ maxLen))) := by
    obtain ⟨fu, hf⟩ := h0
    obtain ⟨y, hk, hq⟩ := (opens_struct (tot := 1) Try.underlying24 (by kernel_rfl) (from_last (i := 0) (off := 0) (tot := 1) rfl rfl (by kernel_rfl) rfl (opens_slice Try.underlying22 (by kernel_rfl) (opens_iso (fun x : S94 => (x.f0, x.f1, x.f2)) (fun y => (⟨y.1, y.2.1, y.2.2⟩ : S94)) (fun y => rfl) (opens_struct (tot := 3) Try.underlying94 (by kernel_rfl) (from_cons (i := 0) (off := 0) (tot := 3) rfl rfl (by kernel_rfl) (opens_string Try.underlying9) (from_cons (i := 1) (off := 1) (tot := 3) rfl rfl (by kernel_rfl) (opens_string Try.underlying9) (from_last (i := 2) (off := 2) (tot := 3) rfl rfl (by kernel_rfl) rfl (opens_int Try.underlying3))))))))) hf
    have hk' := hk
    obtain ⟨B1_, d1_, g1_, hl1_, hrr1_⟩ := hk
    have hz : cs0.toList = [.slice B1_ y.length d1_] := by
      have hz0 : (Value.agg cs0).cells.toList = cs0.toList := rfl
      rw [← hz0]
      simp only [g1_]
      try rfl
    refine ⟨y, B1_, d1_, ?_, ⟨hl1_, hrr1_⟩, hq⟩
    rw [← Array.toArray_toList (xs := cs0), hz]
  cases e0
  clear h0
  obtain ⟨hs0_0, hx0_0⟩ := hp0
  have kk1 := h1
  have lt1 : ∀ x ∈ p1, x.block < W.heap.size := by obtain ⟨m, hm⟩ := kk1; exact DataW.trod_lt m _ _ _ hm
  obtain ⟨aa1, len1, cap1, rfl⟩ := okWide_slice Try.underlying58 (hval 1 58 v1 rfl rfl)
  obtain ⟨l1, A1, c1, e1, hc1, hr1, hq1⟩ : ∃ (l : List (S52)) (A : Option Addr) (c : Nat), (Value.slice aa1 len1 cap1) = .slice A l.length c ∧ l.length ≤ c ∧ Kd.C k52 W A l.length l ∧ ((∀ x_ ∈ l, ((Lit.int .i64 x_.f0).wf = true ∧ x_.f1.size ≤ maxLen ∧ x_.f2.size ≤ maxLen ∧ x_.f3.size ≤ maxLen)) ∧ l.length ≤ maxLen) := by
    obtain ⟨fu, hf⟩ := h1
    obtain ⟨x, ⟨A, c, h1, h2, h3⟩, hq⟩ := (opens_slice Try.underlying58 (by kernel_rfl) (opens_iso (fun x : S52 => (x.f0, x.f1, x.f2, x.f3)) (fun y => (⟨y.1, y.2.1, y.2.2.1, y.2.2.2⟩ : S52)) (fun y => rfl) (opens_struct (tot := 4) Try.underlying52 (by kernel_rfl) (from_cons (i := 0) (off := 0) (tot := 4) rfl rfl (by kernel_rfl) (opens_int Try.underlying3) (from_cons (i := 1) (off := 1) (tot := 4) rfl rfl (by kernel_rfl) (opens_string Try.underlying9) (from_cons (i := 2) (off := 2) (tot := 4) rfl rfl (by kernel_rfl) (opens_string Try.underlying9) (from_last (i := 3) (off := 3) (tot := 4) rfl rfl (by kernel_rfl) rfl (opens_string Try.underlying9)))))))) hf
    refine ⟨x, A, c, ?_, h2, h3, hq⟩
    have h1 : [Value.slice aa1 len1 cap1] = [Value.slice A x.length c] := h1
    injection h1
  cases e1
  clear h1
  obtain ⟨a2, rfl, rfl, rfl, w2⟩ := open_int Try.underlying3 (hval 2 3 v2 rfl rfl) h2
  have kk3 := h3
  have lt3 : ∀ x ∈ p3, x.block < W.heap.size := by obtain ⟨m, hm⟩ := kk3; exact DataW.trod_lt m _ _ _ hm
  obtain ⟨aa3, len3, cap3, rfl⟩ := okWide_slice Try.underlying39 (hval 3 39 v3 rfl rfl)
  obtain ⟨l3, A3, c3, e3, hc3, hr3, hq3⟩ : ∃ (l : List Int) (A : Option Addr) (c : Nat), (Value.slice aa3 len3 cap3) = .slice A l.length c ∧ l.length ≤ c ∧ Kd.C (Kd.int .i64) W A l.length l ∧ ((∀ x_ ∈ l, (Lit.int .i64 x_).wf = true) ∧ l.length ≤ maxLen) := by
    obtain ⟨fu, hf⟩ := h3
    obtain ⟨x, ⟨A, c, h1, h2, h3⟩, hq⟩ := (opens_slice Try.underlying39 (by kernel_rfl) (opens_int Try.underlying3)) hf
    refine ⟨x, A, c, ?_, h2, h3, hq⟩
    have h1 : [Value.slice aa3 len3 cap3] = [Value.slice A x.length c] := h1
    injection h1
  cases e3
  clear h3
  clear hA0 hval0 hsz0 hval
  obtain ⟨k, hP⟩ := Pure.FnExactCutActs l0_0 l1 a2 l3 hx0_0 hq1 w2 hq3
  refine (Qcu.laws_FnExactCutActs.calls k A0_0 c0_0 l0_0 _ _ l1 a2 _ _ l3 true W hs0_0.2 hs0_0.1 hr1 hc1 hr3 hc3 hP).mono ?_
  rintro e W' ⟨he, bel0⟩
  have bel : Below W.heap.size W W' := bel0
  subst he
  exact ⟨_, rfl, _, _, _, [], _, [], hW', trodAll_mk1 (shut_bool Try.underlying4 _), (trodAll_cons_mk (Below.trod laidOut (by kernel_rfl) (of_decide_eq_true (by kernel_rfl)) kk0 bel lt0) (trodAll_cons_mk (Below.trod laidOut (by kernel_rfl) (of_decide_eq_true (by kernel_rfl)) kk1 bel lt1) (trodAll_cons_mk (shut_int Try.underlying3 w2) (trodAll_cons_mk (Below.trod laidOut (by kernel_rfl) (of_decide_eq_true (by kernel_rfl)) kk3 bel lt3) trodAll_mk0)))), rfl, bel.frame _, fun h => by cases h⟩
theorem over : Rows.fnExactCutActsRow.holds Try.pinned (OpenSpec.ofChange Rows.fnExactCutActsSpec) :=
  OpenClaim.holds_of_wide 11 Try.f11 rfl rfl rfl rfl rfl rfl rfl ⟨rfl, rfl, rfl, rfl, rfl⟩ rfl rfl rfl rfl rfl (by kernel_rfl) Try.func11 (by kernel_rfl)
    (of_decide_eq_true (by kernel_rfl)) (by unfold Func.isWrapper; first | (rw [if_pos (by decide +kernel)]; kernel_rfl) | (rw [if_neg (by decide +kernel)]; exact ⟨rfl, rfl⟩))
    (fun os started H enc _ => lifted os started H enc)
theorem proved : Rows.FnExactCutActsSaid := over
#print axioms proved
end Go.Proofs.Ythfppepnpngfmaa.fnExactCutActs
namespace Go.Proofs.Ythfppepnpngfmaa
/-- The row, under a short name, for the claim. -/
theorem fnExactCutActs_holds : Rows.FnExactCutActsSaid := fnExactCutActs.proved
end Go.Proofs.Ythfppepnpngfmaa
