/-
  No cell of these rows narrows 'for every input' (looked for: loops, veiled, ifaces, maps, wideKeys, modest, calm, conditions, laid).
  DERIVED. THE GIVEN ROWS OF THIS SEAT. 12 by the template 'for every input the law returns true; each argument reads behind the call as it read before'; 0 by the template 'total and deterministic' (their statements: YtjgegedgmkdoiaaTotals.lean).
  GIVEN WITH THE SEED: the statements are not yours to turn. If you find one false, say at which input.
  Laid BY PROGRAM, IN A SANDBOX (cutbox-rows.mjs): the forced cells as the released guide's own fill.sh prints them over the translation 2e4f4da316ccdf81… (all of the seat's roots in one cut). By AI agents, Wed Nov 11 2026. No macro, syntax, notation, axiom, sorry.
-/
import Derived.Test.YtjgegedgmkdoiaaChecked
import GoSem.Claim
import GoSem.ClaimJoined
import GoSem.ClaimMapViews
import Derived.JoinedTies
import Derived.KernelRfl
namespace Go.Proofs.Ytjgegedgmkdoiaa
/- THE CELL 'sum', in the pinned program and in every row, IS THE sha256 OF THE DUMP (.gsa) THAT YtjgegedgmkdoiaaProg.lean LOADS. Nothing in Lean hashes anything: it is a label: what it is worth is what the hold of that sum in a sandbox is worth. -/
noncomputable def Try.pinned : Pinned := { name := "ytjgegedgmkdoiaa", sum := "2e4f4da316ccdf8141a34d5e3b19557b38ff332e4559b69672d7d4f707d9f527", checked := Try.checked }
namespace Rows
def none {H : Type} : Left H := { results := [], args := [] }

/-- 'laws.FnExactRawCost': WHATEVER THE INPUT: true; the input reads as it did. -/
def fnExactRawCostSpec : ChangeSpec := { name := "fnExactRawCost", fn := fun _ => fun
  | [d] => { results := [.lit (.bool true)], args := [d] }
  | _ => none }
def fnExactRawCostRow : OpenClaim := { program := "ytjgegedgmkdoiaa", sum := "2e4f4da316ccdf8141a34d5e3b19557b38ff332e4559b69672d7d4f707d9f527", func := "loop.example/g00071/laws.FnExactRawCost", spec := "fnExactRawCost", apart := false }
def FnExactRawCostSaid : Prop := fnExactRawCostRow.holds Try.pinned (OpenSpec.ofChange fnExactRawCostSpec)

/-- ITS FALSE NEIGHBOUR: 'it returns false'. Refute it at one input. -/
def fnExactRawCostWrong : ChangeSpec := { name := "fnExactRawCost", fn := fun _ => fun
  | [d] => { results := [.lit (.bool false)], args := [d] }
  | _ => none }
def FnExactRawCostWrongFalsely : Prop := fnExactRawCostRow.holds Try.pinned (OpenSpec.ofChange fnExactRawCostWrong)

/-- 'laws.FnExactPaced': WHATEVER THE INPUT: true; the input reads as it did. -/
def fnExactPacedSpec : ChangeSpec := { name := "fnExactPaced", fn := fun _ => fun
  | [d1, d2, d3] => { results := [.lit (.bool true)], args := [d1, d2, d3] }
  | _ => none }
def fnExactPacedRow : OpenClaim := { program := "ytjgegedgmkdoiaa", sum := "2e4f4da316ccdf8141a34d5e3b19557b38ff332e4559b69672d7d4f707d9f527", func := "loop.example/g00071/laws.FnExactPaced", spec := "fnExactPaced", apart := false }
def FnExactPacedSaid : Prop := fnExactPacedRow.holds Try.pinned (OpenSpec.ofChange fnExactPacedSpec)

/-- ITS FALSE NEIGHBOUR: 'it returns false'. Refute it at one input. -/
def fnExactPacedWrong : ChangeSpec := { name := "fnExactPaced", fn := fun _ => fun
  | [d1, d2, d3] => { results := [.lit (.bool false)], args := [d1, d2, d3] }
  | _ => none }
def FnExactPacedWrongFalsely : Prop := fnExactPacedRow.holds Try.pinned (OpenSpec.ofChange fnExactPacedWrong)

/-- 'laws.FnExactWearOf': WHATEVER THE INPUT: true; the input reads as it did. -/
def fnExactWearOfSpec : ChangeSpec := { name := "fnExactWearOf", fn := fun _ => fun
  | [d] => { results := [.lit (.bool true)], args := [d] }
  | _ => none }
def fnExactWearOfRow : OpenClaim := { program := "ytjgegedgmkdoiaa", sum := "2e4f4da316ccdf8141a34d5e3b19557b38ff332e4559b69672d7d4f707d9f527", func := "loop.example/g00071/laws.FnExactWearOf", spec := "fnExactWearOf", apart := false }
def FnExactWearOfSaid : Prop := fnExactWearOfRow.holds Try.pinned (OpenSpec.ofChange fnExactWearOfSpec)

/-- ITS FALSE NEIGHBOUR: 'it returns false'. Refute it at one input. -/
def fnExactWearOfWrong : ChangeSpec := { name := "fnExactWearOf", fn := fun _ => fun
  | [d] => { results := [.lit (.bool false)], args := [d] }
  | _ => none }
def FnExactWearOfWrongFalsely : Prop := fnExactWearOfRow.holds Try.pinned (OpenSpec.ofChange fnExactWearOfWrong)

/-- 'laws.FnPaced': WHATEVER THE INPUT: true; the input reads as it did. -/
def fnPacedSpec : ChangeSpec := { name := "fnPaced", fn := fun _ => fun
  | [d] => { results := [.lit (.bool true)], args := [d] }
  | _ => none }
def fnPacedRow : OpenClaim := { program := "ytjgegedgmkdoiaa", sum := "2e4f4da316ccdf8141a34d5e3b19557b38ff332e4559b69672d7d4f707d9f527", func := "loop.example/g00071/laws.FnPaced", spec := "fnPaced", apart := false }
def FnPacedSaid : Prop := fnPacedRow.holds Try.pinned (OpenSpec.ofChange fnPacedSpec)

/-- ITS FALSE NEIGHBOUR: 'it returns false'. Refute it at one input. -/
def fnPacedWrong : ChangeSpec := { name := "fnPaced", fn := fun _ => fun
  | [d] => { results := [.lit (.bool false)], args := [d] }
  | _ => none }
def FnPacedWrongFalsely : Prop := fnPacedRow.holds Try.pinned (OpenSpec.ofChange fnPacedWrong)

/-- 'laws.FnExactFleetOk': WHATEVER THE INPUT: true; the input reads as it did. -/
def fnExactFleetOkSpec : ChangeSpec := { name := "fnExactFleetOk", fn := fun _ => fun
  | [d1, d2] => { results := [.lit (.bool true)], args := [d1, d2] }
  | _ => none }
def fnExactFleetOkRow : OpenClaim := { program := "ytjgegedgmkdoiaa", sum := "2e4f4da316ccdf8141a34d5e3b19557b38ff332e4559b69672d7d4f707d9f527", func := "loop.example/g00071/laws.FnExactFleetOk", spec := "fnExactFleetOk", unfollowed := true, recurses := true, apart := false }
def FnExactFleetOkSaid : Prop := fnExactFleetOkRow.holds Try.pinned (OpenSpec.ofChange fnExactFleetOkSpec)

/-- ITS FALSE NEIGHBOUR: 'it returns false'. Refute it at one input. -/
def fnExactFleetOkWrong : ChangeSpec := { name := "fnExactFleetOk", fn := fun _ => fun
  | [d1, d2] => { results := [.lit (.bool false)], args := [d1, d2] }
  | _ => none }
def FnExactFleetOkWrongFalsely : Prop := fnExactFleetOkRow.holds Try.pinned (OpenSpec.ofChange fnExactFleetOkWrong)

/-- 'laws.FnExactFair': WHATEVER THE INPUT: true; the input reads as it did. -/
def fnExactFairSpec : ChangeSpec := { name := "fnExactFair", fn := fun _ => fun
  | [d] => { results := [.lit (.bool true)], args := [d] }
  | _ => none }
def fnExactFairRow : OpenClaim := { program := "ytjgegedgmkdoiaa", sum := "2e4f4da316ccdf8141a34d5e3b19557b38ff332e4559b69672d7d4f707d9f527", func := "loop.example/g00071/laws.FnExactFair", spec := "fnExactFair", apart := false }
def FnExactFairSaid : Prop := fnExactFairRow.holds Try.pinned (OpenSpec.ofChange fnExactFairSpec)

/-- ITS FALSE NEIGHBOUR: 'it returns false'. Refute it at one input. -/
def fnExactFairWrong : ChangeSpec := { name := "fnExactFair", fn := fun _ => fun
  | [d] => { results := [.lit (.bool false)], args := [d] }
  | _ => none }
def FnExactFairWrongFalsely : Prop := fnExactFairRow.holds Try.pinned (OpenSpec.ofChange fnExactFairWrong)

/-- 'laws.FnExactJudge': WHATEVER THE INPUT: true; the input reads as it did. -/
def fnExactJudgeSpec : ChangeSpec := { name := "fnExactJudge", fn := fun _ => fun
  | [d] => { results := [.lit (.bool true)], args := [d] }
  | _ => none }
def fnExactJudgeRow : OpenClaim := { program := "ytjgegedgmkdoiaa", sum := "2e4f4da316ccdf8141a34d5e3b19557b38ff332e4559b69672d7d4f707d9f527", func := "loop.example/g00071/laws.FnExactJudge", spec := "fnExactJudge", apart := false }
def FnExactJudgeSaid : Prop := fnExactJudgeRow.holds Try.pinned (OpenSpec.ofChange fnExactJudgeSpec)

/-- ITS FALSE NEIGHBOUR: 'it returns false'. Refute it at one input. -/
def fnExactJudgeWrong : ChangeSpec := { name := "fnExactJudge", fn := fun _ => fun
  | [d] => { results := [.lit (.bool false)], args := [d] }
  | _ => none }
def FnExactJudgeWrongFalsely : Prop := fnExactJudgeRow.holds Try.pinned (OpenSpec.ofChange fnExactJudgeWrong)

/-- 'laws.FnJudged': WHATEVER THE INPUT: true; the input reads as it did. -/
def fnJudgedSpec : ChangeSpec := { name := "fnJudged", fn := fun _ => fun
  | [d] => { results := [.lit (.bool true)], args := [d] }
  | _ => none }
def fnJudgedRow : OpenClaim := { program := "ytjgegedgmkdoiaa", sum := "2e4f4da316ccdf8141a34d5e3b19557b38ff332e4559b69672d7d4f707d9f527", func := "loop.example/g00071/laws.FnJudged", spec := "fnJudged", apart := false }
def FnJudgedSaid : Prop := fnJudgedRow.holds Try.pinned (OpenSpec.ofChange fnJudgedSpec)

/-- ITS FALSE NEIGHBOUR: 'it returns false'. Refute it at one input. -/
def fnJudgedWrong : ChangeSpec := { name := "fnJudged", fn := fun _ => fun
  | [d] => { results := [.lit (.bool false)], args := [d] }
  | _ => none }
def FnJudgedWrongFalsely : Prop := fnJudgedRow.holds Try.pinned (OpenSpec.ofChange fnJudgedWrong)

/-- 'laws.FnReach': WHATEVER THE INPUT: true; the input reads as it did. -/
def fnReachSpec : ChangeSpec := { name := "fnReach", fn := fun _ => fun
  | [d] => { results := [.lit (.bool true)], args := [d] }
  | _ => none }
def fnReachRow : OpenClaim := { program := "ytjgegedgmkdoiaa", sum := "2e4f4da316ccdf8141a34d5e3b19557b38ff332e4559b69672d7d4f707d9f527", func := "loop.example/g00071/laws.FnReach", spec := "fnReach", unfollowed := true, recurses := true, apart := false }
def FnReachSaid : Prop := fnReachRow.holds Try.pinned (OpenSpec.ofChange fnReachSpec)

/-- ITS FALSE NEIGHBOUR: 'it returns false'. Refute it at one input. -/
def fnReachWrong : ChangeSpec := { name := "fnReach", fn := fun _ => fun
  | [d] => { results := [.lit (.bool false)], args := [d] }
  | _ => none }
def FnReachWrongFalsely : Prop := fnReachRow.holds Try.pinned (OpenSpec.ofChange fnReachWrong)

/-- 'laws.FnFleet': WHATEVER THE INPUT: true; the input reads as it did. -/
def fnFleetSpec : ChangeSpec := { name := "fnFleet", fn := fun _ => fun
  | [d] => { results := [.lit (.bool true)], args := [d] }
  | _ => none }
def fnFleetRow : OpenClaim := { program := "ytjgegedgmkdoiaa", sum := "2e4f4da316ccdf8141a34d5e3b19557b38ff332e4559b69672d7d4f707d9f527", func := "loop.example/g00071/laws.FnFleet", spec := "fnFleet", unfollowed := true, recurses := true, apart := false }
def FnFleetSaid : Prop := fnFleetRow.holds Try.pinned (OpenSpec.ofChange fnFleetSpec)

/-- ITS FALSE NEIGHBOUR: 'it returns false'. Refute it at one input. -/
def fnFleetWrong : ChangeSpec := { name := "fnFleet", fn := fun _ => fun
  | [d] => { results := [.lit (.bool false)], args := [d] }
  | _ => none }
def FnFleetWrongFalsely : Prop := fnFleetRow.holds Try.pinned (OpenSpec.ofChange fnFleetWrong)

/-- 'laws.FnExactDoFleet': WHATEVER THE INPUT: true; the input reads as it did. -/
def fnExactDoFleetSpec : ChangeSpec := { name := "fnExactDoFleet", fn := fun _ => fun
  | [d1, d2, d3] => { results := [.lit (.bool true)], args := [d1, d2, d3] }
  | _ => none }
def fnExactDoFleetRow : OpenClaim := { program := "ytjgegedgmkdoiaa", sum := "2e4f4da316ccdf8141a34d5e3b19557b38ff332e4559b69672d7d4f707d9f527", func := "loop.example/g00071/laws.FnExactDoFleet", spec := "fnExactDoFleet", unfollowed := true, recurses := true, apart := false }
def FnExactDoFleetSaid : Prop := fnExactDoFleetRow.holds Try.pinned (OpenSpec.ofChange fnExactDoFleetSpec)

/-- ITS FALSE NEIGHBOUR: 'it returns false'. Refute it at one input. -/
def fnExactDoFleetWrong : ChangeSpec := { name := "fnExactDoFleet", fn := fun _ => fun
  | [d1, d2, d3] => { results := [.lit (.bool false)], args := [d1, d2, d3] }
  | _ => none }
def FnExactDoFleetWrongFalsely : Prop := fnExactDoFleetRow.holds Try.pinned (OpenSpec.ofChange fnExactDoFleetWrong)

/-- 'laws.FnExactRunFleet': WHATEVER THE INPUT: true; the input reads as it did. -/
def fnExactRunFleetSpec : ChangeSpec := { name := "fnExactRunFleet", fn := fun _ => fun
  | [d1, d2, d3] => { results := [.lit (.bool true)], args := [d1, d2, d3] }
  | _ => none }
def fnExactRunFleetRow : OpenClaim := { program := "ytjgegedgmkdoiaa", sum := "2e4f4da316ccdf8141a34d5e3b19557b38ff332e4559b69672d7d4f707d9f527", func := "loop.example/g00071/laws.FnExactRunFleet", spec := "fnExactRunFleet", unfollowed := true, recurses := true, apart := false }
def FnExactRunFleetSaid : Prop := fnExactRunFleetRow.holds Try.pinned (OpenSpec.ofChange fnExactRunFleetSpec)

/-- ITS FALSE NEIGHBOUR: 'it returns false'. Refute it at one input. -/
def fnExactRunFleetWrong : ChangeSpec := { name := "fnExactRunFleet", fn := fun _ => fun
  | [d1, d2, d3] => { results := [.lit (.bool false)], args := [d1, d2, d3] }
  | _ => none }
def FnExactRunFleetWrongFalsely : Prop := fnExactRunFleetRow.holds Try.pinned (OpenSpec.ofChange fnExactRunFleetWrong)

/- THE SECOND FORM. 'bulk': how many values and letters a reading holds, each counted each time it is reached (what is shared counts as often as it is met; a slice's spare places count too). A statement '..UptoSaid' is the law's where the arguments, and the package variables that the reading takes, are together of bulk at most 1048576: NARROWER than '..Said'. Prove '..Said' where nothing that the law and all that it calls make is longer than what came in: it says more and counts as full. Else prove '..UptoSaid'. A law counts once. -/
mutual
def uptoBulk {H : Type} : DataW H → Nat
  | .lit (.string bytes) => bytes.length + 1
  | .lit _ => 1
  | .nil => 1
  | .ptr d => uptoBulk d + 1
  | .slice elems spare => uptoBulkAll elems + uptoBulkAll spare + 1
  | .agg parts => uptoBulkAll parts + 1
  | .iface _ d => uptoBulk d + 1
  | .map entries => uptoBulkEntries entries + 1
  | .held _ => 1
def uptoBulkAll {H : Type} : List (DataW H) → Nat
  | [] => 0
  | d :: r => uptoBulk d + uptoBulkAll r
def uptoBulkEntries {H : Type} : List (Lit × DataW H) → Nat
  | [] => 0
  | x :: r => uptoBulkEntry x + uptoBulkEntries r
def uptoBulkEntry {H : Type} : Lit × DataW H → Nat
  | (.string bytes, d) => bytes.length + uptoBulk d + 1
  | (_, d) => uptoBulk d + 1
 end
def uptoSmall : (H : Type) → List (DataW H) → Bool := fun _ ds => decide (uptoBulkAll ds ≤ 1048576)
def OpenSpec.upto (s : _root_.Go.ChangeSpec) : _root_.Go.OpenSpec := { _root_.Go.OpenSpec.ofChange s with cond := some uptoSmall }

/-- 'laws.FnExactRawCost', WHERE WHAT IT READS IS OF BULK AT MOST 1048576: true; the input reads as it did. -/
def fnExactRawCostUptoRow : OpenClaim := { program := "ytjgegedgmkdoiaa", sum := "2e4f4da316ccdf8141a34d5e3b19557b38ff332e4559b69672d7d4f707d9f527", func := "loop.example/g00071/laws.FnExactRawCost", spec := "fnExactRawCost", apart := false, narrowed := true }
def FnExactRawCostUptoSaid : Prop := fnExactRawCostUptoRow.holds Try.pinned (OpenSpec.upto fnExactRawCostSpec)

/-- 'laws.FnExactPaced', WHERE WHAT IT READS IS OF BULK AT MOST 1048576: true; the input reads as it did. -/
def fnExactPacedUptoRow : OpenClaim := { program := "ytjgegedgmkdoiaa", sum := "2e4f4da316ccdf8141a34d5e3b19557b38ff332e4559b69672d7d4f707d9f527", func := "loop.example/g00071/laws.FnExactPaced", spec := "fnExactPaced", apart := false, narrowed := true }
def FnExactPacedUptoSaid : Prop := fnExactPacedUptoRow.holds Try.pinned (OpenSpec.upto fnExactPacedSpec)

/-- 'laws.FnExactWearOf', WHERE WHAT IT READS IS OF BULK AT MOST 1048576: true; the input reads as it did. -/
def fnExactWearOfUptoRow : OpenClaim := { program := "ytjgegedgmkdoiaa", sum := "2e4f4da316ccdf8141a34d5e3b19557b38ff332e4559b69672d7d4f707d9f527", func := "loop.example/g00071/laws.FnExactWearOf", spec := "fnExactWearOf", apart := false, narrowed := true }
def FnExactWearOfUptoSaid : Prop := fnExactWearOfUptoRow.holds Try.pinned (OpenSpec.upto fnExactWearOfSpec)

/-- 'laws.FnPaced', WHERE WHAT IT READS IS OF BULK AT MOST 1048576: true; the input reads as it did. -/
def fnPacedUptoRow : OpenClaim := { program := "ytjgegedgmkdoiaa", sum := "2e4f4da316ccdf8141a34d5e3b19557b38ff332e4559b69672d7d4f707d9f527", func := "loop.example/g00071/laws.FnPaced", spec := "fnPaced", apart := false, narrowed := true }
def FnPacedUptoSaid : Prop := fnPacedUptoRow.holds Try.pinned (OpenSpec.upto fnPacedSpec)

/-- 'laws.FnExactFleetOk', WHERE WHAT IT READS IS OF BULK AT MOST 1048576: true; the input reads as it did. -/
def fnExactFleetOkUptoRow : OpenClaim := { program := "ytjgegedgmkdoiaa", sum := "2e4f4da316ccdf8141a34d5e3b19557b38ff332e4559b69672d7d4f707d9f527", func := "loop.example/g00071/laws.FnExactFleetOk", spec := "fnExactFleetOk", unfollowed := true, recurses := true, apart := false, narrowed := true }
def FnExactFleetOkUptoSaid : Prop := fnExactFleetOkUptoRow.holds Try.pinned (OpenSpec.upto fnExactFleetOkSpec)

/-- 'laws.FnExactFair', WHERE WHAT IT READS IS OF BULK AT MOST 1048576: true; the input reads as it did. -/
def fnExactFairUptoRow : OpenClaim := { program := "ytjgegedgmkdoiaa", sum := "2e4f4da316ccdf8141a34d5e3b19557b38ff332e4559b69672d7d4f707d9f527", func := "loop.example/g00071/laws.FnExactFair", spec := "fnExactFair", apart := false, narrowed := true }
def FnExactFairUptoSaid : Prop := fnExactFairUptoRow.holds Try.pinned (OpenSpec.upto fnExactFairSpec)

/-- 'laws.FnExactJudge', WHERE WHAT IT READS IS OF BULK AT MOST 1048576: true; the input reads as it did. -/
def fnExactJudgeUptoRow : OpenClaim := { program := "ytjgegedgmkdoiaa", sum := "2e4f4da316ccdf8141a34d5e3b19557b38ff332e4559b69672d7d4f707d9f527", func := "loop.example/g00071/laws.FnExactJudge", spec := "fnExactJudge", apart := false, narrowed := true }
def FnExactJudgeUptoSaid : Prop := fnExactJudgeUptoRow.holds Try.pinned (OpenSpec.upto fnExactJudgeSpec)

/-- 'laws.FnJudged', WHERE WHAT IT READS IS OF BULK AT MOST 1048576: true; the input reads as it did. -/
def fnJudgedUptoRow : OpenClaim := { program := "ytjgegedgmkdoiaa", sum := "2e4f4da316ccdf8141a34d5e3b19557b38ff332e4559b69672d7d4f707d9f527", func := "loop.example/g00071/laws.FnJudged", spec := "fnJudged", apart := false, narrowed := true }
def FnJudgedUptoSaid : Prop := fnJudgedUptoRow.holds Try.pinned (OpenSpec.upto fnJudgedSpec)

/-- 'laws.FnReach', WHERE WHAT IT READS IS OF BULK AT MOST 1048576: true; the input reads as it did. -/
def fnReachUptoRow : OpenClaim := { program := "ytjgegedgmkdoiaa", sum := "2e4f4da316ccdf8141a34d5e3b19557b38ff332e4559b69672d7d4f707d9f527", func := "loop.example/g00071/laws.FnReach", spec := "fnReach", unfollowed := true, recurses := true, apart := false, narrowed := true }
def FnReachUptoSaid : Prop := fnReachUptoRow.holds Try.pinned (OpenSpec.upto fnReachSpec)

/-- 'laws.FnFleet', WHERE WHAT IT READS IS OF BULK AT MOST 1048576: true; the input reads as it did. -/
def fnFleetUptoRow : OpenClaim := { program := "ytjgegedgmkdoiaa", sum := "2e4f4da316ccdf8141a34d5e3b19557b38ff332e4559b69672d7d4f707d9f527", func := "loop.example/g00071/laws.FnFleet", spec := "fnFleet", unfollowed := true, recurses := true, apart := false, narrowed := true }
def FnFleetUptoSaid : Prop := fnFleetUptoRow.holds Try.pinned (OpenSpec.upto fnFleetSpec)

/-- 'laws.FnExactDoFleet', WHERE WHAT IT READS IS OF BULK AT MOST 1048576: true; the input reads as it did. -/
def fnExactDoFleetUptoRow : OpenClaim := { program := "ytjgegedgmkdoiaa", sum := "2e4f4da316ccdf8141a34d5e3b19557b38ff332e4559b69672d7d4f707d9f527", func := "loop.example/g00071/laws.FnExactDoFleet", spec := "fnExactDoFleet", unfollowed := true, recurses := true, apart := false, narrowed := true }
def FnExactDoFleetUptoSaid : Prop := fnExactDoFleetUptoRow.holds Try.pinned (OpenSpec.upto fnExactDoFleetSpec)

/-- 'laws.FnExactRunFleet', WHERE WHAT IT READS IS OF BULK AT MOST 1048576: true; the input reads as it did. -/
def fnExactRunFleetUptoRow : OpenClaim := { program := "ytjgegedgmkdoiaa", sum := "2e4f4da316ccdf8141a34d5e3b19557b38ff332e4559b69672d7d4f707d9f527", func := "loop.example/g00071/laws.FnExactRunFleet", spec := "fnExactRunFleet", unfollowed := true, recurses := true, apart := false, narrowed := true }
def FnExactRunFleetUptoSaid : Prop := fnExactRunFleetUptoRow.holds Try.pinned (OpenSpec.upto fnExactRunFleetSpec)

end Rows
end Go.Proofs.Ytjgegedgmkdoiaa
