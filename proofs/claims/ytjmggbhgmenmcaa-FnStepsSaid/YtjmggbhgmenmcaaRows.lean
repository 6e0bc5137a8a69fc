/-
  No cell of these rows narrows 'for every input' (looked for: loops, veiled, ifaces, maps, wideKeys, modest, calm, conditions, laid).
  DERIVED. THE GIVEN ROWS OF THIS SEAT. 10 by the template 'for every input the law returns true; each argument reads behind the call as it read before'; 0 by the template 'total and deterministic' (their statements: YtjmggbhgmenmcaaTotals.lean).
  GIVEN WITH THE SEED: the statements are not yours to turn. If you find one false, say at which input.
  Laid BY PROGRAM, IN A SANDBOX (cutbox-rows.mjs): the forced cells as the released guide's own fill.sh prints them over the translation 8539bc9932dd165f… (all of the seat's roots in one cut). By AI agents, Wed Nov 11 2026. No macro, syntax, notation, axiom, sorry.
-/
import Derived.Test.YtjmggbhgmenmcaaChecked
import GoSem.Claim
import GoSem.ClaimJoined
import GoSem.ClaimMapViews
import Derived.JoinedTies
import Derived.KernelRfl
namespace Go.Proofs.Ytjmggbhgmenmcaa
/- THE CELL 'sum', in the pinned program and in every row, IS THE sha256 OF THE DUMP (.gsa) THAT YtjmggbhgmenmcaaProg.lean LOADS. Nothing in Lean hashes anything: it is a label: what it is worth is what the hold of that sum in a sandbox is worth. -/
noncomputable def Try.pinned : Pinned := { name := "ytjmggbhgmenmcaa", sum := "8539bc9932dd165f920b4f6dad6a1e116aa7085d8d58b46e6d2b461165328ea1", checked := Try.checked }
namespace Rows
def none {H : Type} : Left H := { results := [], args := [] }

/-- 'laws.FnExactStoreCell': WHATEVER THE INPUT: true; the input reads as it did. -/
def fnExactStoreCellSpec : ChangeSpec := { name := "fnExactStoreCell", fn := fun _ => fun
  | [d1, d2, d3] => { results := [.lit (.bool true)], args := [d1, d2, d3] }
  | _ => none }
def fnExactStoreCellRow : OpenClaim := { program := "ytjmggbhgmenmcaa", sum := "8539bc9932dd165f920b4f6dad6a1e116aa7085d8d58b46e6d2b461165328ea1", func := "loop.example/g00245/laws.FnExactStoreCell", spec := "fnExactStoreCell", apart := false }
def FnExactStoreCellSaid : Prop := fnExactStoreCellRow.holds Try.pinned (OpenSpec.ofChange fnExactStoreCellSpec)

/-- ITS FALSE NEIGHBOUR: 'it returns false'. Refute it at one input. -/
def fnExactStoreCellWrong : ChangeSpec := { name := "fnExactStoreCell", fn := fun _ => fun
  | [d1, d2, d3] => { results := [.lit (.bool false)], args := [d1, d2, d3] }
  | _ => none }
def FnExactStoreCellWrongFalsely : Prop := fnExactStoreCellRow.holds Try.pinned (OpenSpec.ofChange fnExactStoreCellWrong)

/-- 'laws.FnExactAddCell': WHATEVER THE INPUT: true; the input reads as it did. -/
def fnExactAddCellSpec : ChangeSpec := { name := "fnExactAddCell", fn := fun _ => fun
  | [d1, d2, d3] => { results := [.lit (.bool true)], args := [d1, d2, d3] }
  | _ => none }
def fnExactAddCellRow : OpenClaim := { program := "ytjmggbhgmenmcaa", sum := "8539bc9932dd165f920b4f6dad6a1e116aa7085d8d58b46e6d2b461165328ea1", func := "loop.example/g00245/laws.FnExactAddCell", spec := "fnExactAddCell", apart := false }
def FnExactAddCellSaid : Prop := fnExactAddCellRow.holds Try.pinned (OpenSpec.ofChange fnExactAddCellSpec)

/-- ITS FALSE NEIGHBOUR: 'it returns false'. Refute it at one input. -/
def fnExactAddCellWrong : ChangeSpec := { name := "fnExactAddCell", fn := fun _ => fun
  | [d1, d2, d3] => { results := [.lit (.bool false)], args := [d1, d2, d3] }
  | _ => none }
def FnExactAddCellWrongFalsely : Prop := fnExactAddCellRow.holds Try.pinned (OpenSpec.ofChange fnExactAddCellWrong)

/-- 'laws.FnExactSwapCell': WHATEVER THE INPUT: true; the input reads as it did. -/
def fnExactSwapCellSpec : ChangeSpec := { name := "fnExactSwapCell", fn := fun _ => fun
  | [d1, d2, d3, d4] => { results := [.lit (.bool true)], args := [d1, d2, d3, d4] }
  | _ => none }
def fnExactSwapCellRow : OpenClaim := { program := "ytjmggbhgmenmcaa", sum := "8539bc9932dd165f920b4f6dad6a1e116aa7085d8d58b46e6d2b461165328ea1", func := "loop.example/g00245/laws.FnExactSwapCell", spec := "fnExactSwapCell", apart := false }
def FnExactSwapCellSaid : Prop := fnExactSwapCellRow.holds Try.pinned (OpenSpec.ofChange fnExactSwapCellSpec)

/-- ITS FALSE NEIGHBOUR: 'it returns false'. Refute it at one input. -/
def fnExactSwapCellWrong : ChangeSpec := { name := "fnExactSwapCell", fn := fun _ => fun
  | [d1, d2, d3, d4] => { results := [.lit (.bool false)], args := [d1, d2, d3, d4] }
  | _ => none }
def FnExactSwapCellWrongFalsely : Prop := fnExactSwapCellRow.holds Try.pinned (OpenSpec.ofChange fnExactSwapCellWrong)

/-- 'laws.FnCells': WHATEVER THE INPUT: true; the input reads as it did. -/
def fnCellsSpec : ChangeSpec := { name := "fnCells", fn := fun _ => fun
  | [d] => { results := [.lit (.bool true)], args := [d] }
  | _ => none }
def fnCellsRow : OpenClaim := { program := "ytjmggbhgmenmcaa", sum := "8539bc9932dd165f920b4f6dad6a1e116aa7085d8d58b46e6d2b461165328ea1", func := "loop.example/g00245/laws.FnCells", spec := "fnCells", apart := false }
def FnCellsSaid : Prop := fnCellsRow.holds Try.pinned (OpenSpec.ofChange fnCellsSpec)

/-- ITS FALSE NEIGHBOUR: 'it returns false'. Refute it at one input. -/
def fnCellsWrong : ChangeSpec := { name := "fnCells", fn := fun _ => fun
  | [d] => { results := [.lit (.bool false)], args := [d] }
  | _ => none }
def FnCellsWrongFalsely : Prop := fnCellsRow.holds Try.pinned (OpenSpec.ofChange fnCellsWrong)

/-- 'laws.FnCellsTold': WHATEVER THE INPUT: true; the input reads as it did. -/
def fnCellsToldSpec : ChangeSpec := { name := "fnCellsTold", fn := fun _ => fun
  | [d] => { results := [.lit (.bool true)], args := [d] }
  | _ => none }
def fnCellsToldRow : OpenClaim := { program := "ytjmggbhgmenmcaa", sum := "8539bc9932dd165f920b4f6dad6a1e116aa7085d8d58b46e6d2b461165328ea1", func := "loop.example/g00245/laws.FnCellsTold", spec := "fnCellsTold", apart := false }
def FnCellsToldSaid : Prop := fnCellsToldRow.holds Try.pinned (OpenSpec.ofChange fnCellsToldSpec)

/-- ITS FALSE NEIGHBOUR: 'it returns false'. Refute it at one input. -/
def fnCellsToldWrong : ChangeSpec := { name := "fnCellsTold", fn := fun _ => fun
  | [d] => { results := [.lit (.bool false)], args := [d] }
  | _ => none }
def FnCellsToldWrongFalsely : Prop := fnCellsToldRow.holds Try.pinned (OpenSpec.ofChange fnCellsToldWrong)

/-- 'laws.FnExactValueOf': WHATEVER THE INPUT: true; the input reads as it did. -/
def fnExactValueOfSpec : ChangeSpec := { name := "fnExactValueOf", fn := fun _ => fun
  | [d1, d2] => { results := [.lit (.bool true)], args := [d1, d2] }
  | _ => none }
def fnExactValueOfRow : OpenClaim := { program := "ytjmggbhgmenmcaa", sum := "8539bc9932dd165f920b4f6dad6a1e116aa7085d8d58b46e6d2b461165328ea1", func := "loop.example/g00245/laws.FnExactValueOf", spec := "fnExactValueOf", apart := false }
def FnExactValueOfSaid : Prop := fnExactValueOfRow.holds Try.pinned (OpenSpec.ofChange fnExactValueOfSpec)

/-- ITS FALSE NEIGHBOUR: 'it returns false'. Refute it at one input. -/
def fnExactValueOfWrong : ChangeSpec := { name := "fnExactValueOf", fn := fun _ => fun
  | [d1, d2] => { results := [.lit (.bool false)], args := [d1, d2] }
  | _ => none }
def FnExactValueOfWrongFalsely : Prop := fnExactValueOfRow.holds Try.pinned (OpenSpec.ofChange fnExactValueOfWrong)

/-- 'laws.FnExactKeysOf': WHATEVER THE INPUT: true; the input reads as it did. -/
def fnExactKeysOfSpec : ChangeSpec := { name := "fnExactKeysOf", fn := fun _ => fun
  | [d] => { results := [.lit (.bool true)], args := [d] }
  | _ => none }
def fnExactKeysOfRow : OpenClaim := { program := "ytjmggbhgmenmcaa", sum := "8539bc9932dd165f920b4f6dad6a1e116aa7085d8d58b46e6d2b461165328ea1", func := "loop.example/g00245/laws.FnExactKeysOf", spec := "fnExactKeysOf", apart := false }
def FnExactKeysOfSaid : Prop := fnExactKeysOfRow.holds Try.pinned (OpenSpec.ofChange fnExactKeysOfSpec)

/-- ITS FALSE NEIGHBOUR: 'it returns false'. Refute it at one input. -/
def fnExactKeysOfWrong : ChangeSpec := { name := "fnExactKeysOf", fn := fun _ => fun
  | [d] => { results := [.lit (.bool false)], args := [d] }
  | _ => none }
def FnExactKeysOfWrongFalsely : Prop := fnExactKeysOfRow.holds Try.pinned (OpenSpec.ofChange fnExactKeysOfWrong)

/-- 'laws.FnExactStepTask': WHATEVER THE INPUT: true; the input reads as it did. -/
def fnExactStepTaskSpec : ChangeSpec := { name := "fnExactStepTask", fn := fun _ => fun
  | [d1, d2] => { results := [.lit (.bool true)], args := [d1, d2] }
  | _ => none }
def fnExactStepTaskRow : OpenClaim := { program := "ytjmggbhgmenmcaa", sum := "8539bc9932dd165f920b4f6dad6a1e116aa7085d8d58b46e6d2b461165328ea1", func := "loop.example/g00245/laws.FnExactStepTask", spec := "fnExactStepTask", apart := false }
def FnExactStepTaskSaid : Prop := fnExactStepTaskRow.holds Try.pinned (OpenSpec.ofChange fnExactStepTaskSpec)

/-- ITS FALSE NEIGHBOUR: 'it returns false'. Refute it at one input. -/
def fnExactStepTaskWrong : ChangeSpec := { name := "fnExactStepTask", fn := fun _ => fun
  | [d1, d2] => { results := [.lit (.bool false)], args := [d1, d2] }
  | _ => none }
def FnExactStepTaskWrongFalsely : Prop := fnExactStepTaskRow.holds Try.pinned (OpenSpec.ofChange fnExactStepTaskWrong)

/-- 'laws.FnSteps': WHATEVER THE INPUT: true; the input reads as it did. -/
def fnStepsSpec : ChangeSpec := { name := "fnSteps", fn := fun _ => fun
  | [d] => { results := [.lit (.bool true)], args := [d] }
  | _ => none }
def fnStepsRow : OpenClaim := { program := "ytjmggbhgmenmcaa", sum := "8539bc9932dd165f920b4f6dad6a1e116aa7085d8d58b46e6d2b461165328ea1", func := "loop.example/g00245/laws.FnSteps", spec := "fnSteps", apart := false }
def FnStepsSaid : Prop := fnStepsRow.holds Try.pinned (OpenSpec.ofChange fnStepsSpec)

/-- ITS FALSE NEIGHBOUR: 'it returns false'. Refute it at one input. -/
def fnStepsWrong : ChangeSpec := { name := "fnSteps", fn := fun _ => fun
  | [d] => { results := [.lit (.bool false)], args := [d] }
  | _ => none }
def FnStepsWrongFalsely : Prop := fnStepsRow.holds Try.pinned (OpenSpec.ofChange fnStepsWrong)

/-- 'laws.FnAlone': WHATEVER THE INPUT: true; the input reads as it did. -/
def fnAloneSpec : ChangeSpec := { name := "fnAlone", fn := fun _ => fun
  | [d] => { results := [.lit (.bool true)], args := [d] }
  | _ => none }
def fnAloneRow : OpenClaim := { program := "ytjmggbhgmenmcaa", sum := "8539bc9932dd165f920b4f6dad6a1e116aa7085d8d58b46e6d2b461165328ea1", func := "loop.example/g00245/laws.FnAlone", spec := "fnAlone", apart := false }
def FnAloneSaid : Prop := fnAloneRow.holds Try.pinned (OpenSpec.ofChange fnAloneSpec)

/-- ITS FALSE NEIGHBOUR: 'it returns false'. Refute it at one input. -/
def fnAloneWrong : ChangeSpec := { name := "fnAlone", fn := fun _ => fun
  | [d] => { results := [.lit (.bool false)], args := [d] }
  | _ => none }
def FnAloneWrongFalsely : Prop := fnAloneRow.holds Try.pinned (OpenSpec.ofChange fnAloneWrong)

/- THE SECOND FORM. 'bulk': how many values and letters a reading holds, each counted each time it is reached (what is shared counts as often as it is met; a slice's spare places count too). A statement '..UptoSaid' is the law's where the arguments, and the package variables that the reading takes, are together of bulk at most 1048576: NARROWER than '..Said'. Prove '..Said' where nothing that the law and all that it calls make is longer than what came in: it says more and counts as full. Else prove '..UptoSaid'. A law counts once. -/
mutual
def uptoBulk {H : Type} : DataW H → Nat
  | .lit (.string bytes) => bytes.length + 1
  | .lit _ => 1
  | .nil => 1
  | .ptr d => uptoBulk d + 1
  | .slice elems spare => uptoBulkAll elems + uptoBulkAll spare + 1
  | .agg parts => uptoBulkAll parts + 1
  | .iface _ d => uptoBulk d + 1
  | .map entries => uptoBulkEntries entries + 1
  | .held _ => 1
def uptoBulkAll {H : Type} : List (DataW H) → Nat
  | [] => 0
  | d :: r => uptoBulk d + uptoBulkAll r
def uptoBulkEntries {H : Type} : List (Lit × DataW H) → Nat
  | [] => 0
  | x :: r => uptoBulkEntry x + uptoBulkEntries r
def uptoBulkEntry {H : Type} : Lit × DataW H → Nat
  | (.string bytes, d) => bytes.length + uptoBulk d + 1
  | (_, d) => uptoBulk d + 1
 end
def uptoSmall : (H : Type) → List (DataW H) → Bool := fun _ ds => decide (uptoBulkAll ds ≤ 1048576)
def OpenSpec.upto (s : _root_.Go.ChangeSpec) : _root_.Go.OpenSpec := { _root_.Go.OpenSpec.ofChange s with cond := some uptoSmall }

/-- 'laws.FnExactStoreCell', WHERE WHAT IT READS IS OF BULK AT MOST 1048576: true; the input reads as it did. -/
def fnExactStoreCellUptoRow : OpenClaim := { program := "ytjmggbhgmenmcaa", sum := "8539bc9932dd165f920b4f6dad6a1e116aa7085d8d58b46e6d2b461165328ea1", func := "loop.example/g00245/laws.FnExactStoreCell", spec := "fnExactStoreCell", apart := false, narrowed := true }
def FnExactStoreCellUptoSaid : Prop := fnExactStoreCellUptoRow.holds Try.pinned (OpenSpec.upto fnExactStoreCellSpec)

/-- 'laws.FnExactAddCell', WHERE WHAT IT READS IS OF BULK AT MOST 1048576: true; the input reads as it did. -/
def fnExactAddCellUptoRow : OpenClaim := { program := "ytjmggbhgmenmcaa", sum := "8539bc9932dd165f920b4f6dad6a1e116aa7085d8d58b46e6d2b461165328ea1", func := "loop.example/g00245/laws.FnExactAddCell", spec := "fnExactAddCell", apart := false, narrowed := true }
def FnExactAddCellUptoSaid : Prop := fnExactAddCellUptoRow.holds Try.pinned (OpenSpec.upto fnExactAddCellSpec)

/-- 'laws.FnExactSwapCell', WHERE WHAT IT READS IS OF BULK AT MOST 1048576: true; the input reads as it did. -/
def fnExactSwapCellUptoRow : OpenClaim := { program := "ytjmggbhgmenmcaa", sum := "8539bc9932dd165f920b4f6dad6a1e116aa7085d8d58b46e6d2b461165328ea1", func := "loop.example/g00245/laws.FnExactSwapCell", spec := "fnExactSwapCell", apart := false, narrowed := true }
def FnExactSwapCellUptoSaid : Prop := fnExactSwapCellUptoRow.holds Try.pinned (OpenSpec.upto fnExactSwapCellSpec)

/-- 'laws.FnCells', WHERE WHAT IT READS IS OF BULK AT MOST 1048576: true; the input reads as it did. -/
def fnCellsUptoRow : OpenClaim := { program := "ytjmggbhgmenmcaa", sum := "8539bc9932dd165f920b4f6dad6a1e116aa7085d8d58b46e6d2b461165328ea1", func := "loop.example/g00245/laws.FnCells", spec := "fnCells", apart := false, narrowed := true }
def FnCellsUptoSaid : Prop := fnCellsUptoRow.holds Try.pinned (OpenSpec.upto fnCellsSpec)

/-- 'laws.FnCellsTold', WHERE WHAT IT READS IS OF BULK AT MOST 1048576: true; the input reads as it did. -/
def fnCellsToldUptoRow : OpenClaim := { program := "ytjmggbhgmenmcaa", sum := "8539bc9932dd165f920b4f6dad6a1e116aa7085d8d58b46e6d2b461165328ea1", func := "loop.example/g00245/laws.FnCellsTold", spec := "fnCellsTold", apart := false, narrowed := true }
def FnCellsToldUptoSaid : Prop := fnCellsToldUptoRow.holds Try.pinned (OpenSpec.upto fnCellsToldSpec)

/-- 'laws.FnExactValueOf', WHERE WHAT IT READS IS OF BULK AT MOST 1048576: true; the input reads as it did. -/
def fnExactValueOfUptoRow : OpenClaim := { program := "ytjmggbhgmenmcaa", sum := "8539bc9932dd165f920b4f6dad6a1e116aa7085d8d58b46e6d2b461165328ea1", func := "loop.example/g00245/laws.FnExactValueOf", spec := "fnExactValueOf", apart := false, narrowed := true }
def FnExactValueOfUptoSaid : Prop := fnExactValueOfUptoRow.holds Try.pinned (OpenSpec.upto fnExactValueOfSpec)

/-- 'laws.FnExactKeysOf', WHERE WHAT IT READS IS OF BULK AT MOST 1048576: true; the input reads as it did. -/
def fnExactKeysOfUptoRow : OpenClaim := { program := "ytjmggbhgmenmcaa", sum := "8539bc9932dd165f920b4f6dad6a1e116aa7085d8d58b46e6d2b461165328ea1", func := "loop.example/g00245/laws.FnExactKeysOf", spec := "fnExactKeysOf", apart := false, narrowed := true }
def FnExactKeysOfUptoSaid : Prop := fnExactKeysOfUptoRow.holds Try.pinned (OpenSpec.upto fnExactKeysOfSpec)

/-- 'laws.FnExactStepTask', WHERE WHAT IT READS IS OF BULK AT MOST 1048576: true; the input reads as it did. -/
def fnExactStepTaskUptoRow : OpenClaim := { program := "ytjmggbhgmenmcaa", sum := "8539bc9932dd165f920b4f6dad6a1e116aa7085d8d58b46e6d2b461165328ea1", func := "loop.example/g00245/laws.FnExactStepTask", spec := "fnExactStepTask", apart := false, narrowed := true }
def FnExactStepTaskUptoSaid : Prop := fnExactStepTaskUptoRow.holds Try.pinned (OpenSpec.upto fnExactStepTaskSpec)

/-- 'laws.FnSteps', WHERE WHAT IT READS IS OF BULK AT MOST 1048576: true; the input reads as it did. -/
def fnStepsUptoRow : OpenClaim := { program := "ytjmggbhgmenmcaa", sum := "8539bc9932dd165f920b4f6dad6a1e116aa7085d8d58b46e6d2b461165328ea1", func := "loop.example/g00245/laws.FnSteps", spec := "fnSteps", apart := false, narrowed := true }
def FnStepsUptoSaid : Prop := fnStepsUptoRow.holds Try.pinned (OpenSpec.upto fnStepsSpec)

/-- 'laws.FnAlone', WHERE WHAT IT READS IS OF BULK AT MOST 1048576: true; the input reads as it did. -/
def fnAloneUptoRow : OpenClaim := { program := "ytjmggbhgmenmcaa", sum := "8539bc9932dd165f920b4f6dad6a1e116aa7085d8d58b46e6d2b461165328ea1", func := "loop.example/g00245/laws.FnAlone", spec := "fnAlone", apart := false, narrowed := true }
def FnAloneUptoSaid : Prop := fnAloneUptoRow.holds Try.pinned (OpenSpec.upto fnAloneSpec)

end Rows
end Go.Proofs.Ytjmggbhgmenmcaa
