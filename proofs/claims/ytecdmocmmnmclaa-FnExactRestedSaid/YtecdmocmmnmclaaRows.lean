/-
  No cell of these rows narrows 'for every input' (looked for: loops, veiled, ifaces, maps, wideKeys, modest, calm, conditions, laid).
  DERIVED. THE GIVEN ROWS OF THIS SEAT. 6 by the template 'for every input the law returns true; each argument reads behind the call as it read before'; 0 by the template 'total and deterministic' (their statements: YtecdmocmmnmclaaTotals.lean).
  GIVEN WITH THE SEED: the statements are not yours to turn. If you find one false, say at which input.
  Laid BY PROGRAM, IN A SANDBOX (cutbox-rows.mjs): the forced cells as the released guide's own fill.sh prints them over the translation 7960b22f21e0773f… (all of the seat's roots in one cut). By AI agents, Wed Nov 11 2026. No macro, syntax, notation, axiom, sorry.
-/
import Derived.Test.YtecdmocmmnmclaaChecked
import GoSem.Claim
import GoSem.ClaimJoined
import GoSem.ClaimMapViews
import Derived.JoinedTies
import Derived.KernelRfl
namespace Go.Proofs.Ytecdmocmmnmclaa
/- THE CELL 'sum', in the pinned program and in every row, IS THE sha256 OF THE DUMP (.gsa) THAT YtecdmocmmnmclaaProg.lean LOADS. Nothing in Lean hashes anything: it is a label: what it is worth is what the hold of that sum in a sandbox is worth. -/
noncomputable def Try.pinned : Pinned := { name := "ytecdmocmmnmclaa", sum := "7960b22f21e0773fed5e6d767dfac7e1c49598033d37216f77b27ba19dc0a670", checked := Try.checked }
namespace Rows
def none {H : Type} : Left H := { results := [], args := [] }

/-- 'laws.FnExactSupplyOk': WHATEVER THE INPUT: true; the input reads as it did. -/
def fnExactSupplyOkSpec : ChangeSpec := { name := "fnExactSupplyOk", fn := fun _ => fun
  | [d] => { results := [.lit (.bool true)], args := [d] }
  | _ => none }
def fnExactSupplyOkRow : OpenClaim := { program := "ytecdmocmmnmclaa", sum := "7960b22f21e0773fed5e6d767dfac7e1c49598033d37216f77b27ba19dc0a670", func := "loop.example/g00071/laws.FnExactSupplyOk", spec := "fnExactSupplyOk", apart := false }
def FnExactSupplyOkSaid : Prop := fnExactSupplyOkRow.holds Try.pinned (OpenSpec.ofChange fnExactSupplyOkSpec)

/-- ITS FALSE NEIGHBOUR: 'it returns false'. Refute it at one input. -/
def fnExactSupplyOkWrong : ChangeSpec := { name := "fnExactSupplyOk", fn := fun _ => fun
  | [d] => { results := [.lit (.bool false)], args := [d] }
  | _ => none }
def FnExactSupplyOkWrongFalsely : Prop := fnExactSupplyOkRow.holds Try.pinned (OpenSpec.ofChange fnExactSupplyOkWrong)

/-- 'laws.FnExactSpend': WHATEVER THE INPUT: true; the input reads as it did. -/
def fnExactSpendSpec : ChangeSpec := { name := "fnExactSpend", fn := fun _ => fun
  | [d1, d2] => { results := [.lit (.bool true)], args := [d1, d2] }
  | _ => none }
def fnExactSpendRow : OpenClaim := { program := "ytecdmocmmnmclaa", sum := "7960b22f21e0773fed5e6d767dfac7e1c49598033d37216f77b27ba19dc0a670", func := "loop.example/g00071/laws.FnExactSpend", spec := "fnExactSpend", apart := false }
def FnExactSpendSaid : Prop := fnExactSpendRow.holds Try.pinned (OpenSpec.ofChange fnExactSpendSpec)

/-- ITS FALSE NEIGHBOUR: 'it returns false'. Refute it at one input. -/
def fnExactSpendWrong : ChangeSpec := { name := "fnExactSpend", fn := fun _ => fun
  | [d1, d2] => { results := [.lit (.bool false)], args := [d1, d2] }
  | _ => none }
def FnExactSpendWrongFalsely : Prop := fnExactSpendRow.holds Try.pinned (OpenSpec.ofChange fnExactSpendWrong)

/-- 'laws.FnExactRested': WHATEVER THE INPUT: true; the input reads as it did. -/
def fnExactRestedSpec : ChangeSpec := { name := "fnExactRested", fn := fun _ => fun
  | [d1, d2] => { results := [.lit (.bool true)], args := [d1, d2] }
  | _ => none }
def fnExactRestedRow : OpenClaim := { program := "ytecdmocmmnmclaa", sum := "7960b22f21e0773fed5e6d767dfac7e1c49598033d37216f77b27ba19dc0a670", func := "loop.example/g00071/laws.FnExactRested", spec := "fnExactRested", apart := false }
def FnExactRestedSaid : Prop := fnExactRestedRow.holds Try.pinned (OpenSpec.ofChange fnExactRestedSpec)

/-- ITS FALSE NEIGHBOUR: 'it returns false'. Refute it at one input. -/
def fnExactRestedWrong : ChangeSpec := { name := "fnExactRested", fn := fun _ => fun
  | [d1, d2] => { results := [.lit (.bool false)], args := [d1, d2] }
  | _ => none }
def FnExactRestedWrongFalsely : Prop := fnExactRestedRow.holds Try.pinned (OpenSpec.ofChange fnExactRestedWrong)

/-- 'laws.FnExactRolloutOk': WHATEVER THE INPUT: true; the input reads as it did. -/
def fnExactRolloutOkSpec : ChangeSpec := { name := "fnExactRolloutOk", fn := fun _ => fun
  | [d] => { results := [.lit (.bool true)], args := [d] }
  | _ => none }
def fnExactRolloutOkRow : OpenClaim := { program := "ytecdmocmmnmclaa", sum := "7960b22f21e0773fed5e6d767dfac7e1c49598033d37216f77b27ba19dc0a670", func := "loop.example/g00071/laws.FnExactRolloutOk", spec := "fnExactRolloutOk", apart := false }
def FnExactRolloutOkSaid : Prop := fnExactRolloutOkRow.holds Try.pinned (OpenSpec.ofChange fnExactRolloutOkSpec)

/-- ITS FALSE NEIGHBOUR: 'it returns false'. Refute it at one input. -/
def fnExactRolloutOkWrong : ChangeSpec := { name := "fnExactRolloutOk", fn := fun _ => fun
  | [d] => { results := [.lit (.bool false)], args := [d] }
  | _ => none }
def FnExactRolloutOkWrongFalsely : Prop := fnExactRolloutOkRow.holds Try.pinned (OpenSpec.ofChange fnExactRolloutOkWrong)

/-- 'laws.FnExactCounts': WHATEVER THE INPUT: true; the input reads as it did. -/
def fnExactCountsSpec : ChangeSpec := { name := "fnExactCounts", fn := fun _ => fun
  | [d] => { results := [.lit (.bool true)], args := [d] }
  | _ => none }
def fnExactCountsRow : OpenClaim := { program := "ytecdmocmmnmclaa", sum := "7960b22f21e0773fed5e6d767dfac7e1c49598033d37216f77b27ba19dc0a670", func := "loop.example/g00071/laws.FnExactCounts", spec := "fnExactCounts", apart := false }
def FnExactCountsSaid : Prop := fnExactCountsRow.holds Try.pinned (OpenSpec.ofChange fnExactCountsSpec)

/-- ITS FALSE NEIGHBOUR: 'it returns false'. Refute it at one input. -/
def fnExactCountsWrong : ChangeSpec := { name := "fnExactCounts", fn := fun _ => fun
  | [d] => { results := [.lit (.bool false)], args := [d] }
  | _ => none }
def FnExactCountsWrongFalsely : Prop := fnExactCountsRow.holds Try.pinned (OpenSpec.ofChange fnExactCountsWrong)

/-- 'laws.FnExactDue': WHATEVER THE INPUT: true; the input reads as it did. -/
def fnExactDueSpec : ChangeSpec := { name := "fnExactDue", fn := fun _ => fun
  | [d1, d2, d3] => { results := [.lit (.bool true)], args := [d1, d2, d3] }
  | _ => none }
def fnExactDueRow : OpenClaim := { program := "ytecdmocmmnmclaa", sum := "7960b22f21e0773fed5e6d767dfac7e1c49598033d37216f77b27ba19dc0a670", func := "loop.example/g00071/laws.FnExactDue", spec := "fnExactDue", apart := false }
def FnExactDueSaid : Prop := fnExactDueRow.holds Try.pinned (OpenSpec.ofChange fnExactDueSpec)

/-- ITS FALSE NEIGHBOUR: 'it returns false'. Refute it at one input. -/
def fnExactDueWrong : ChangeSpec := { name := "fnExactDue", fn := fun _ => fun
  | [d1, d2, d3] => { results := [.lit (.bool false)], args := [d1, d2, d3] }
  | _ => none }
def FnExactDueWrongFalsely : Prop := fnExactDueRow.holds Try.pinned (OpenSpec.ofChange fnExactDueWrong)

/- THE SECOND FORM. 'bulk': how many values and letters a reading holds, each counted each time it is reached (what is shared counts as often as it is met; a slice's spare places count too). A statement '..UptoSaid' is the law's where the arguments, and the package variables that the reading takes, are together of bulk at most 1048576: NARROWER than '..Said'. Prove '..Said' where nothing that the law and all that it calls make is longer than what came in: it says more and counts as full. Else prove '..UptoSaid'. A law counts once. -/
mutual
def uptoBulk {H : Type} : DataW H → Nat
  | .lit (.string bytes) => bytes.length + 1
  | .lit _ => 1
  | .nil => 1
  | .ptr d => uptoBulk d + 1
  | .slice elems spare => uptoBulkAll elems + uptoBulkAll spare + 1
  | .agg parts => uptoBulkAll parts + 1
  | .iface _ d => uptoBulk d + 1
  | .map entries => uptoBulkEntries entries + 1
  | .held _ => 1
def uptoBulkAll {H : Type} : List (DataW H) → Nat
  | [] => 0
  | d :: r => uptoBulk d + uptoBulkAll r
def uptoBulkEntries {H : Type} : List (Lit × DataW H) → Nat
  | [] => 0
  | x :: r => uptoBulkEntry x + uptoBulkEntries r
def uptoBulkEntry {H : Type} : Lit × DataW H → Nat
  | (.string bytes, d) => bytes.length + uptoBulk d + 1
  | (_, d) => uptoBulk d + 1
 end
def uptoSmall : (H : Type) → List (DataW H) → Bool := fun _ ds => decide (uptoBulkAll ds ≤ 1048576)
def OpenSpec.upto (s : _root_.Go.ChangeSpec) : _root_.Go.OpenSpec := { _root_.Go.OpenSpec.ofChange s with cond := some uptoSmall }

/-- 'laws.FnExactSupplyOk', WHERE WHAT IT READS IS OF BULK AT MOST 1048576: true; the input reads as it did. -/
def fnExactSupplyOkUptoRow : OpenClaim := { program := "ytecdmocmmnmclaa", sum := "7960b22f21e0773fed5e6d767dfac7e1c49598033d37216f77b27ba19dc0a670", func := "loop.example/g00071/laws.FnExactSupplyOk", spec := "fnExactSupplyOk", apart := false, narrowed := true }
def FnExactSupplyOkUptoSaid : Prop := fnExactSupplyOkUptoRow.holds Try.pinned (OpenSpec.upto fnExactSupplyOkSpec)

/-- 'laws.FnExactSpend', WHERE WHAT IT READS IS OF BULK AT MOST 1048576: true; the input reads as it did. -/
def fnExactSpendUptoRow : OpenClaim := { program := "ytecdmocmmnmclaa", sum := "7960b22f21e0773fed5e6d767dfac7e1c49598033d37216f77b27ba19dc0a670", func := "loop.example/g00071/laws.FnExactSpend", spec := "fnExactSpend", apart := false, narrowed := true }
def FnExactSpendUptoSaid : Prop := fnExactSpendUptoRow.holds Try.pinned (OpenSpec.upto fnExactSpendSpec)

/-- 'laws.FnExactRested', WHERE WHAT IT READS IS OF BULK AT MOST 1048576: true; the input reads as it did. -/
def fnExactRestedUptoRow : OpenClaim := { program := "ytecdmocmmnmclaa", sum := "7960b22f21e0773fed5e6d767dfac7e1c49598033d37216f77b27ba19dc0a670", func := "loop.example/g00071/laws.FnExactRested", spec := "fnExactRested", apart := false, narrowed := true }
def FnExactRestedUptoSaid : Prop := fnExactRestedUptoRow.holds Try.pinned (OpenSpec.upto fnExactRestedSpec)

/-- 'laws.FnExactRolloutOk', WHERE WHAT IT READS IS OF BULK AT MOST 1048576: true; the input reads as it did. -/
def fnExactRolloutOkUptoRow : OpenClaim := { program := "ytecdmocmmnmclaa", sum := "7960b22f21e0773fed5e6d767dfac7e1c49598033d37216f77b27ba19dc0a670", func := "loop.example/g00071/laws.FnExactRolloutOk", spec := "fnExactRolloutOk", apart := false, narrowed := true }
def FnExactRolloutOkUptoSaid : Prop := fnExactRolloutOkUptoRow.holds Try.pinned (OpenSpec.upto fnExactRolloutOkSpec)

/-- 'laws.FnExactCounts', WHERE WHAT IT READS IS OF BULK AT MOST 1048576: true; the input reads as it did. -/
def fnExactCountsUptoRow : OpenClaim := { program := "ytecdmocmmnmclaa", sum := "7960b22f21e0773fed5e6d767dfac7e1c49598033d37216f77b27ba19dc0a670", func := "loop.example/g00071/laws.FnExactCounts", spec := "fnExactCounts", apart := false, narrowed := true }
def FnExactCountsUptoSaid : Prop := fnExactCountsUptoRow.holds Try.pinned (OpenSpec.upto fnExactCountsSpec)

/-- 'laws.FnExactDue', WHERE WHAT IT READS IS OF BULK AT MOST 1048576: true; the input reads as it did. -/
def fnExactDueUptoRow : OpenClaim := { program := "ytecdmocmmnmclaa", sum := "7960b22f21e0773fed5e6d767dfac7e1c49598033d37216f77b27ba19dc0a670", func := "loop.example/g00071/laws.FnExactDue", spec := "fnExactDue", apart := false, narrowed := true }
def FnExactDueUptoSaid : Prop := fnExactDueUptoRow.holds Try.pinned (OpenSpec.upto fnExactDueSpec)

end Rows
end Go.Proofs.Ytecdmocmmnmclaa
