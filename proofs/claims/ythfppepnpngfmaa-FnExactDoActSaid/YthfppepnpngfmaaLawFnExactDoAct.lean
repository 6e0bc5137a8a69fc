-- Laid by myprint.py, a program of this session's own, over the kit's print. Not trusted: Lean checks it.
import Derived.Test.YthfppepnpngfmaaRows
import Derived.Test.YthfppepnpngfmaaQdax13
import Derived.Test.YthfppepnpngfmaaPureFnExactDoAct
import Derived.Test.YthfppepnpngfmaaVOpen
import Derived.WalkKit
import Derived.ProofKit
import Derived.OpenShut
import Derived.ShutString
import Derived.ChangeOld
import Derived.Below
import Derived.SizedLaws
import Derived.Carry
import Derived.Test.YthfppepnpngfmaaVSized
namespace Go.Proofs.Ythfppepnpngfmaa.fnExactDoAct
open Go.ChangeShapes Go.WideShapes Go.ChangeAt Go.RowKit Go.Proofs.Ythfppepnpngfmaa.Open Go.Proofs.Ythfppepnpngfmaa.Qda Go.Proofs.YthfppepnpngfmaaW.PrintWords
open Go.ChangeMaps (open_string shut_string)
set_option linter.unusedVariables false
set_option linter.unusedSimpArgs false
theorem own : ownKnob Try.prog.godebug = none := by kernel_rfl
theorem laidOut : laidOutB Try.prog = true := by kernel_rfl
set_option maxHeartbeats 4000000 in
set_option maxRecDepth 100000 in
theorem lifted (os : Os) (started : os.Started) (H : Type) (enc : TypeId × Value → H) :
    ReturnsInHanded {} Try.checked os 8 .any (Rows.fnExactDoActSpec.pre6 enc Try.prog Try.f8 Rows.fnExactDoActRow.domain false) (Rows.fnExactDoActSpec.post enc Try.prog Try.f8 false true false false) := by
  refine returnsInHanded_of_change_sized (C := Try.checked) own started (by kernel_rfl) Try.func8
    (ChangeSpec.witness6 (enc := enc) (C := Try.checked) false ⟨#[], #[.agg #[.slice none 0 0], .agg #[.int .i64 0, .string ByteArray.empty, .string ByteArray.empty, .string ByteArray.empty]], []⟩ 8 (by kernel_rfl) (by kernel_rfl) (by kernel_rfl) (by kernel_rfl)) ?_
  intro W base args ds gs before hval0 hW hcnd hsz0 _
  have hval : ∀ (j : Nat) t v, Try.f8.params[j]? = some t → args[j]? = some v → Value.okWide Try.prog W .any base t v := hval0
  have hW' := hW
  obtain ⟨p, q, hA0, hV, rfl, hfz, hnd⟩ := hW
  have hA : DataW.TrodAll enc Try.prog W 0 (fun _ => true) true Try.f8.params.toList args.toList ds p := hA0
  rw [Try.params8] at hA hval
  obtain ⟨v0, vs0, d0, ds0, p0, q0, hargs, rfl, rfl, h0, r0⟩ := trodAll_cons hA
  obtain ⟨v1, vs1, d1, ds1, p1, q1, rfl, rfl, rfl, h1, r1⟩ := trodAll_cons r0
  obtain ⟨rfl, rfl, rfl⟩ := trodAll_nil r1
  obtain rfl : args = #[v0, v1] := by cases args; simp_all
  obtain ⟨rfl, rfl⟩ := trodVars_none hV
  have kk0 := h0
  have lt0 : ∀ x ∈ p0, x.block < W.heap.size := by obtain ⟨m, hm⟩ := kk0; exact DataW.trod_lt m _ _ _ hm
  obtain ⟨cs0, rfl, hcs0⟩ := okWide_struct Try.underlying24 (hval 0 24 v0 rfl rfl)
  obtain ⟨l0_0, A0_0, c0_0, e0, hp0⟩ : ∃ (l0_0 : List (S94)) (A0_0 : Option Addr) (c0_0 : Nat), Value.agg cs0 = .agg #[.slice A0_0 l0_0.length c0_0] ∧ ((l0_0.length ≤ c0_0 ∧ Kd.C k94 W A0_0 l0_0.length l0_0) ∧ (((∀ x_ ∈ l0_0, (x_.f0.size ≤ maxLen ∧ x_.f1.size ≤ maxLen ∧ (Lit.int .i64 x_.f2).wf = true)) ∧ l0_0.length ≤ maxLen))) := by
    obtain ⟨fu, hf⟩ := h0
    obtain ⟨y, hk, hq⟩ := (opens_struct (tot := 1) Try.underlying24 (by kernel_rfl) (from_last (i := 0) (off := 0) (tot := 1) rfl rfl (by kernel_rfl) rfl (opens_slice Try.underlying22 (by kernel_rfl) (opens_iso (fun x : S94 => (x.f0, x.f1, x.f2)) (fun y => (⟨y.1, y.2.1, y.2.2⟩ : S94)) (fun y => rfl) (opens_struct (tot := 3) Try.underlying94 (by kernel_rfl) (from_cons (i := 0) (off := 0) (tot := 3) rfl rfl (by kernel_rfl) (opens_string Try.underlying9) (from_cons (i := 1) (off := 1) (tot := 3) rfl rfl (by kernel_rfl) (opens_string Try.underlying9) (from_last (i := 2) (off := 2) (tot := 3) rfl rfl (by kernel_rfl) rfl (opens_int Try.underlying3))))))))) hf
    have hk' := hk
    obtain ⟨B1_, d1_, g1_, hl1_, hrr1_⟩ := hk
    have hz : cs0.toList = [.slice B1_ y.length d1_] := by
      have hz0 : (Value.agg cs0).cells.toList = cs0.toList := rfl
      rw [← hz0]
      simp only [g1_]
      try rfl
    refine ⟨y, B1_, d1_, ?_, ⟨hl1_, hrr1_⟩, hq⟩
    rw [← Array.toArray_toList (xs := cs0), hz]
  cases e0
  clear h0
  obtain ⟨hs0_0, hx0_0⟩ := hp0
  have kk1 := h1
  have lt1 : ∀ x ∈ p1, x.block < W.heap.size := by obtain ⟨m, hm⟩ := kk1; exact DataW.trod_lt m _ _ _ hm
  obtain ⟨cs1, rfl, hcs1⟩ := okWide_struct Try.underlying52 (hval 1 52 v1 rfl rfl)
  obtain ⟨a1_0, a1_1, a1_2, a1_3, e1, hp1⟩ : ∃ (a1_0 : Int) (a1_1 : ByteArray) (a1_2 : ByteArray) (a1_3 : ByteArray), Value.agg cs1 = .agg #[.int .i64 a1_0, .string a1_1, .string a1_2, .string a1_3] ∧ (((Lit.int .i64 a1_0).wf = true) ∧ (a1_1.size ≤ maxLen) ∧ (a1_2.size ≤ maxLen) ∧ (a1_3.size ≤ maxLen)) := by
    obtain ⟨fu, hf⟩ := h1
    obtain ⟨y, hk, hq⟩ := (opens_struct (tot := 4) Try.underlying52 (by kernel_rfl) (from_cons (i := 0) (off := 0) (tot := 4) rfl rfl (by kernel_rfl) (opens_int Try.underlying3) (from_cons (i := 1) (off := 1) (tot := 4) rfl rfl (by kernel_rfl) (opens_string Try.underlying9) (from_cons (i := 2) (off := 2) (tot := 4) rfl rfl (by kernel_rfl) (opens_string Try.underlying9) (from_last (i := 3) (off := 3) (tot := 4) rfl rfl (by kernel_rfl) rfl (opens_string Try.underlying9)))))) hf
    have hk' := hk
    obtain ⟨u1_, w1_, g1_, g2_, ⟨u3_, w3_, g3_, g4_, ⟨u5_, w5_, g5_, g6_, g7_⟩⟩⟩ := hk
    have q2_ : u1_ = [.int .i64 y.1] := g2_
    have q4_ : u3_ = [.string y.2.1] := g4_
    have q6_ : u5_ = [.string y.2.2.1] := g6_
    have q7_ : w5_ = [.string y.2.2.2] := g7_
    have hz : cs1.toList = [.int .i64 y.1, .string y.2.1, .string y.2.2.1, .string y.2.2.2] := by
      have hz0 : (Value.agg cs1).cells.toList = cs1.toList := rfl
      rw [← hz0]
      simp only [g1_, q2_, g3_, q4_, g5_, q6_, q7_]
      try rfl
    refine ⟨y.1, y.2.1, y.2.2.1, y.2.2.2, ?_, hq⟩
    rw [← Array.toArray_toList (xs := cs1), hz]
  cases e1
  clear h1
  obtain ⟨hx1_0, hx1_1, hx1_2, hx1_3⟩ := hp1
  clear hA0 hval0 hsz0 hval
  obtain ⟨k, hP⟩ := Pure.FnExactDoAct l0_0 a1_0 a1_1 a1_2 a1_3 hx0_0 hx1_0 hx1_1 hx1_2 hx1_3
  refine (Qda.laws_FnExactDoAct.calls k A0_0 c0_0 l0_0 a1_0 a1_1 a1_2 a1_3 true W hs0_0.2 hs0_0.1 hP).mono ?_
  rintro e W' ⟨he, bel0⟩
  have bel : Below W.heap.size W W' := bel0
  subst he
  exact ⟨_, rfl, _, _, _, [], _, [], hW', trodAll_mk1 (shut_bool Try.underlying4 _), (trodAll_cons_mk (Below.trod laidOut (by kernel_rfl) (of_decide_eq_true (by kernel_rfl)) kk0 bel lt0) (trodAll_cons_mk (Below.trod laidOut (by kernel_rfl) (of_decide_eq_true (by kernel_rfl)) kk1 bel lt1) trodAll_mk0)), rfl, bel.frame _, fun h => by cases h⟩
theorem over : Rows.fnExactDoActRow.holds Try.pinned (OpenSpec.ofChange Rows.fnExactDoActSpec) :=
  OpenClaim.holds_of_wide 8 Try.f8 rfl rfl rfl rfl rfl rfl rfl ⟨rfl, rfl, rfl, rfl, rfl⟩ rfl rfl rfl rfl rfl (by kernel_rfl) Try.func8 (by kernel_rfl)
    (of_decide_eq_true (by kernel_rfl)) (by unfold Func.isWrapper; first | (rw [if_pos (by decide +kernel)]; kernel_rfl) | (rw [if_neg (by decide +kernel)]; exact ⟨rfl, rfl⟩))
    (fun os started H enc _ => lifted os started H enc)
theorem proved : Rows.FnExactDoActSaid := over
#print axioms proved
end Go.Proofs.Ythfppepnpngfmaa.fnExactDoAct
namespace Go.Proofs.Ythfppepnpngfmaa
/-- The row, under a short name, for the claim. -/
theorem fnExactDoAct_holds : Rows.FnExactDoActSaid := fnExactDoAct.proved
end Go.Proofs.Ythfppepnpngfmaa
