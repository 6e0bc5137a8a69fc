/-
  No cell of these rows narrows 'for every input' (looked for: loops, veiled, ifaces, maps, wideKeys, modest, calm, conditions, laid).
  DERIVED. THE GIVEN ROWS OF THIS SEAT. 7 by the template 'for every input the law returns true; each argument reads behind the call as it read before'; 0 by the template 'total and deterministic' (their statements: YtfkhncoiifojnaaTotals.lean).
  GIVEN WITH THE SEED: the statements are not yours to turn. If you find one false, say at which input.
  Laid BY PROGRAM, IN A SANDBOX (cutbox-rows.mjs): the forced cells as the released guide's own fill.sh prints them over the translation 27673d2dfe140041… (all of the seat's roots in one cut). By AI agents, Wed Nov 11 2026. No macro, syntax, notation, axiom, sorry.
-/
import Derived.Test.YtfkhncoiifojnaaChecked
import GoSem.Claim
import GoSem.ClaimJoined
import GoSem.ClaimMapViews
import Derived.JoinedTies
import Derived.KernelRfl
namespace Go.Proofs.Ytfkhncoiifojnaa
/- THE CELL 'sum', in the pinned program and in every row, IS THE sha256 OF THE DUMP (.gsa) THAT YtfkhncoiifojnaaProg.lean LOADS. Nothing in Lean hashes anything: it is a label: what it is worth is what the hold of that sum in a sandbox is worth. -/
noncomputable def Try.pinned : Pinned := { name := "ytfkhncoiifojnaa", sum := "27673d2dfe1400416e8c172eb190dc1be2e43689f796bd8ed78e988a78b042e3", checked := Try.checked }
namespace Rows
def none {H : Type} : Left H := { results := [], args := [] }

/-- 'laws.FnExactDoTask': WHATEVER THE INPUT: true; the input reads as it did. -/
def fnExactDoTaskSpec : ChangeSpec := { name := "fnExactDoTask", fn := fun _ => fun
  | [d1, d2] => { results := [.lit (.bool true)], args := [d1, d2] }
  | _ => none }
def fnExactDoTaskRow : OpenClaim := { program := "ytfkhncoiifojnaa", sum := "27673d2dfe1400416e8c172eb190dc1be2e43689f796bd8ed78e988a78b042e3", func := "loop.example/g00245/laws.FnExactDoTask", spec := "fnExactDoTask", unfollowed := true, recurses := true, apart := false }
def FnExactDoTaskSaid : Prop := fnExactDoTaskRow.holds Try.pinned (OpenSpec.ofChange fnExactDoTaskSpec)

/-- ITS FALSE NEIGHBOUR: 'it returns false'. Refute it at one input. -/
def fnExactDoTaskWrong : ChangeSpec := { name := "fnExactDoTask", fn := fun _ => fun
  | [d1, d2] => { results := [.lit (.bool false)], args := [d1, d2] }
  | _ => none }
def FnExactDoTaskWrongFalsely : Prop := fnExactDoTaskRow.holds Try.pinned (OpenSpec.ofChange fnExactDoTaskWrong)

/-- 'laws.FnDoTasks': WHATEVER THE INPUT: true; the input reads as it did. -/
def fnDoTasksSpec : ChangeSpec := { name := "fnDoTasks", fn := fun _ => fun
  | [d] => { results := [.lit (.bool true)], args := [d] }
  | _ => none }
def fnDoTasksRow : OpenClaim := { program := "ytfkhncoiifojnaa", sum := "27673d2dfe1400416e8c172eb190dc1be2e43689f796bd8ed78e988a78b042e3", func := "loop.example/g00245/laws.FnDoTasks", spec := "fnDoTasks", unfollowed := true, recurses := true, apart := false }
def FnDoTasksSaid : Prop := fnDoTasksRow.holds Try.pinned (OpenSpec.ofChange fnDoTasksSpec)

/-- ITS FALSE NEIGHBOUR: 'it returns false'. Refute it at one input. -/
def fnDoTasksWrong : ChangeSpec := { name := "fnDoTasks", fn := fun _ => fun
  | [d] => { results := [.lit (.bool false)], args := [d] }
  | _ => none }
def FnDoTasksWrongFalsely : Prop := fnDoTasksRow.holds Try.pinned (OpenSpec.ofChange fnDoTasksWrong)

/-- 'laws.FnExactInSomeOrder': WHATEVER THE INPUT: true; the input reads as it did. -/
def fnExactInSomeOrderSpec : ChangeSpec := { name := "fnExactInSomeOrder", fn := fun _ => fun
  | [d] => { results := [.lit (.bool true)], args := [d] }
  | _ => none }
def fnExactInSomeOrderRow : OpenClaim := { program := "ytfkhncoiifojnaa", sum := "27673d2dfe1400416e8c172eb190dc1be2e43689f796bd8ed78e988a78b042e3", func := "loop.example/g00245/laws.FnExactInSomeOrder", spec := "fnExactInSomeOrder", unfollowed := true, recurses := true, apart := false }
def FnExactInSomeOrderSaid : Prop := fnExactInSomeOrderRow.holds Try.pinned (OpenSpec.ofChange fnExactInSomeOrderSpec)

/-- ITS FALSE NEIGHBOUR: 'it returns false'. Refute it at one input. -/
def fnExactInSomeOrderWrong : ChangeSpec := { name := "fnExactInSomeOrder", fn := fun _ => fun
  | [d] => { results := [.lit (.bool false)], args := [d] }
  | _ => none }
def FnExactInSomeOrderWrongFalsely : Prop := fnExactInSomeOrderRow.holds Try.pinned (OpenSpec.ofChange fnExactInSomeOrderWrong)

/-- 'laws.FnExactRunTasks': WHATEVER THE INPUT: true; the input reads as it did. -/
def fnExactRunTasksSpec : ChangeSpec := { name := "fnExactRunTasks", fn := fun _ => fun
  | [d1, d2] => { results := [.lit (.bool true)], args := [d1, d2] }
  | _ => none }
def fnExactRunTasksRow : OpenClaim := { program := "ytfkhncoiifojnaa", sum := "27673d2dfe1400416e8c172eb190dc1be2e43689f796bd8ed78e988a78b042e3", func := "loop.example/g00245/laws.FnExactRunTasks", spec := "fnExactRunTasks", unfollowed := true, recurses := true, apart := false }
def FnExactRunTasksSaid : Prop := fnExactRunTasksRow.holds Try.pinned (OpenSpec.ofChange fnExactRunTasksSpec)

/-- ITS FALSE NEIGHBOUR: 'it returns false'. Refute it at one input. -/
def fnExactRunTasksWrong : ChangeSpec := { name := "fnExactRunTasks", fn := fun _ => fun
  | [d1, d2] => { results := [.lit (.bool false)], args := [d1, d2] }
  | _ => none }
def FnExactRunTasksWrongFalsely : Prop := fnExactRunTasksRow.holds Try.pinned (OpenSpec.ofChange fnExactRunTasksWrong)

/-- 'laws.FnOrders': WHATEVER THE INPUT: true; the input reads as it did. -/
def fnOrdersSpec : ChangeSpec := { name := "fnOrders", fn := fun _ => fun
  | [d] => { results := [.lit (.bool true)], args := [d] }
  | _ => none }
def fnOrdersRow : OpenClaim := { program := "ytfkhncoiifojnaa", sum := "27673d2dfe1400416e8c172eb190dc1be2e43689f796bd8ed78e988a78b042e3", func := "loop.example/g00245/laws.FnOrders", spec := "fnOrders", unfollowed := true, recurses := true, apart := false }
def FnOrdersSaid : Prop := fnOrdersRow.holds Try.pinned (OpenSpec.ofChange fnOrdersSpec)

/-- ITS FALSE NEIGHBOUR: 'it returns false'. Refute it at one input. -/
def fnOrdersWrong : ChangeSpec := { name := "fnOrders", fn := fun _ => fun
  | [d] => { results := [.lit (.bool false)], args := [d] }
  | _ => none }
def FnOrdersWrongFalsely : Prop := fnOrdersRow.holds Try.pinned (OpenSpec.ofChange fnOrdersWrong)

/-- 'laws.FnInOrder': WHATEVER THE INPUT: true; the input reads as it did. -/
def fnInOrderSpec : ChangeSpec := { name := "fnInOrder", fn := fun _ => fun
  | [d] => { results := [.lit (.bool true)], args := [d] }
  | _ => none }
def fnInOrderRow : OpenClaim := { program := "ytfkhncoiifojnaa", sum := "27673d2dfe1400416e8c172eb190dc1be2e43689f796bd8ed78e988a78b042e3", func := "loop.example/g00245/laws.FnInOrder", spec := "fnInOrder", unfollowed := true, recurses := true, apart := false }
def FnInOrderSaid : Prop := fnInOrderRow.holds Try.pinned (OpenSpec.ofChange fnInOrderSpec)

/-- ITS FALSE NEIGHBOUR: 'it returns false'. Refute it at one input. -/
def fnInOrderWrong : ChangeSpec := { name := "fnInOrder", fn := fun _ => fun
  | [d] => { results := [.lit (.bool false)], args := [d] }
  | _ => none }
def FnInOrderWrongFalsely : Prop := fnInOrderRow.holds Try.pinned (OpenSpec.ofChange fnInOrderWrong)

/-- 'laws.FnBalance': WHATEVER THE INPUT: true; the input reads as it did. -/
def fnBalanceSpec : ChangeSpec := { name := "fnBalance", fn := fun _ => fun
  | [d] => { results := [.lit (.bool true)], args := [d] }
  | _ => none }
def fnBalanceRow : OpenClaim := { program := "ytfkhncoiifojnaa", sum := "27673d2dfe1400416e8c172eb190dc1be2e43689f796bd8ed78e988a78b042e3", func := "loop.example/g00245/laws.FnBalance", spec := "fnBalance", unfollowed := true, recurses := true, apart := false }
def FnBalanceSaid : Prop := fnBalanceRow.holds Try.pinned (OpenSpec.ofChange fnBalanceSpec)

/-- ITS FALSE NEIGHBOUR: 'it returns false'. Refute it at one input. -/
def fnBalanceWrong : ChangeSpec := { name := "fnBalance", fn := fun _ => fun
  | [d] => { results := [.lit (.bool false)], args := [d] }
  | _ => none }
def FnBalanceWrongFalsely : Prop := fnBalanceRow.holds Try.pinned (OpenSpec.ofChange fnBalanceWrong)

/- THE SECOND FORM. 'bulk': how many values and letters a reading holds, each counted each time it is reached (what is shared counts as often as it is met; a slice's spare places count too). A statement '..UptoSaid' is the law's where the arguments, and the package variables that the reading takes, are together of bulk at most 1048576: NARROWER than '..Said'. Prove '..Said' where nothing that the law and all that it calls make is longer than what came in: it says more and counts as full. Else prove '..UptoSaid'. A law counts once. -/
mutual
def uptoBulk {H : Type} : DataW H → Nat
  | .lit (.string bytes) => bytes.length + 1
  | .lit _ => 1
  | .nil => 1
  | .ptr d => uptoBulk d + 1
  | .slice elems spare => uptoBulkAll elems + uptoBulkAll spare + 1
  | .agg parts => uptoBulkAll parts + 1
  | .iface _ d => uptoBulk d + 1
  | .map entries => uptoBulkEntries entries + 1
  | .held _ => 1
def uptoBulkAll {H : Type} : List (DataW H) → Nat
  | [] => 0
  | d :: r => uptoBulk d + uptoBulkAll r
def uptoBulkEntries {H : Type} : List (Lit × DataW H) → Nat
  | [] => 0
  | x :: r => uptoBulkEntry x + uptoBulkEntries r
def uptoBulkEntry {H : Type} : Lit × DataW H → Nat
  | (.string bytes, d) => bytes.length + uptoBulk d + 1
  | (_, d) => uptoBulk d + 1
 end
def uptoSmall : (H : Type) → List (DataW H) → Bool := fun _ ds => decide (uptoBulkAll ds ≤ 1048576)
def OpenSpec.upto (s : _root_.Go.ChangeSpec) : _root_.Go.OpenSpec := { _root_.Go.OpenSpec.ofChange s with cond := some uptoSmall }

/-- 'laws.FnExactDoTask', WHERE WHAT IT READS IS OF BULK AT MOST 1048576: true; the input reads as it did. -/
def fnExactDoTaskUptoRow : OpenClaim := { program := "ytfkhncoiifojnaa", sum := "27673d2dfe1400416e8c172eb190dc1be2e43689f796bd8ed78e988a78b042e3", func := "loop.example/g00245/laws.FnExactDoTask", spec := "fnExactDoTask", unfollowed := true, recurses := true, apart := false, narrowed := true }
def FnExactDoTaskUptoSaid : Prop := fnExactDoTaskUptoRow.holds Try.pinned (OpenSpec.upto fnExactDoTaskSpec)

/-- 'laws.FnDoTasks', WHERE WHAT IT READS IS OF BULK AT MOST 1048576: true; the input reads as it did. -/
def fnDoTasksUptoRow : OpenClaim := { program := "ytfkhncoiifojnaa", sum := "27673d2dfe1400416e8c172eb190dc1be2e43689f796bd8ed78e988a78b042e3", func := "loop.example/g00245/laws.FnDoTasks", spec := "fnDoTasks", unfollowed := true, recurses := true, apart := false, narrowed := true }
def FnDoTasksUptoSaid : Prop := fnDoTasksUptoRow.holds Try.pinned (OpenSpec.upto fnDoTasksSpec)

/-- 'laws.FnExactInSomeOrder', WHERE WHAT IT READS IS OF BULK AT MOST 1048576: true; the input reads as it did. -/
def fnExactInSomeOrderUptoRow : OpenClaim := { program := "ytfkhncoiifojnaa", sum := "27673d2dfe1400416e8c172eb190dc1be2e43689f796bd8ed78e988a78b042e3", func := "loop.example/g00245/laws.FnExactInSomeOrder", spec := "fnExactInSomeOrder", unfollowed := true, recurses := true, apart := false, narrowed := true }
def FnExactInSomeOrderUptoSaid : Prop := fnExactInSomeOrderUptoRow.holds Try.pinned (OpenSpec.upto fnExactInSomeOrderSpec)

/-- 'laws.FnExactRunTasks', WHERE WHAT IT READS IS OF BULK AT MOST 1048576: true; the input reads as it did. -/
def fnExactRunTasksUptoRow : OpenClaim := { program := "ytfkhncoiifojnaa", sum := "27673d2dfe1400416e8c172eb190dc1be2e43689f796bd8ed78e988a78b042e3", func := "loop.example/g00245/laws.FnExactRunTasks", spec := "fnExactRunTasks", unfollowed := true, recurses := true, apart := false, narrowed := true }
def FnExactRunTasksUptoSaid : Prop := fnExactRunTasksUptoRow.holds Try.pinned (OpenSpec.upto fnExactRunTasksSpec)

/-- 'laws.FnOrders', WHERE WHAT IT READS IS OF BULK AT MOST 1048576: true; the input reads as it did. -/
def fnOrdersUptoRow : OpenClaim := { program := "ytfkhncoiifojnaa", sum := "27673d2dfe1400416e8c172eb190dc1be2e43689f796bd8ed78e988a78b042e3", func := "loop.example/g00245/laws.FnOrders", spec := "fnOrders", unfollowed := true, recurses := true, apart := false, narrowed := true }
def FnOrdersUptoSaid : Prop := fnOrdersUptoRow.holds Try.pinned (OpenSpec.upto fnOrdersSpec)

/-- 'laws.FnInOrder', WHERE WHAT IT READS IS OF BULK AT MOST 1048576: true; the input reads as it did. -/
def fnInOrderUptoRow : OpenClaim := { program := "ytfkhncoiifojnaa", sum := "27673d2dfe1400416e8c172eb190dc1be2e43689f796bd8ed78e988a78b042e3", func := "loop.example/g00245/laws.FnInOrder", spec := "fnInOrder", unfollowed := true, recurses := true, apart := false, narrowed := true }
def FnInOrderUptoSaid : Prop := fnInOrderUptoRow.holds Try.pinned (OpenSpec.upto fnInOrderSpec)

/-- 'laws.FnBalance', WHERE WHAT IT READS IS OF BULK AT MOST 1048576: true; the input reads as it did. -/
def fnBalanceUptoRow : OpenClaim := { program := "ytfkhncoiifojnaa", sum := "27673d2dfe1400416e8c172eb190dc1be2e43689f796bd8ed78e988a78b042e3", func := "loop.example/g00245/laws.FnBalance", spec := "fnBalance", unfollowed := true, recurses := true, apart := false, narrowed := true }
def FnBalanceUptoSaid : Prop := fnBalanceUptoRow.holds Try.pinned (OpenSpec.upto fnBalanceSpec)

end Rows
end Go.Proofs.Ytfkhncoiifojnaa
