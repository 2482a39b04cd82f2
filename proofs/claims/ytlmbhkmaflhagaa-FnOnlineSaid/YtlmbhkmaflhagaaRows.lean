/-
  No cell of these rows narrows 'for every input' (looked for: loops, veiled, ifaces, maps, wideKeys, modest, calm, conditions, laid).
  DERIVED. THE GIVEN ROWS OF THIS SEAT. 10 by the template 'for every input the law returns true; each argument reads behind the call as it read before'; 0 by the template 'total and deterministic' (their statements: YtlmbhkmaflhagaaTotals.lean).
  GIVEN WITH THE SEED: the statements are not yours to turn. If you find one false, say at which input.
  Laid BY PROGRAM, IN A SANDBOX (cutbox-rows.mjs): the forced cells as the released guide's own fill.sh prints them over the translation 57c16e1e97726e21… (all of the seat's roots in one cut). By AI agents, Wed Nov 11 2026. No macro, syntax, notation, axiom, sorry.
-/
import Derived.Test.YtlmbhkmaflhagaaChecked
import GoSem.Claim
import GoSem.ClaimJoined
import GoSem.ClaimMapViews
import Derived.JoinedTies
import Derived.KernelRfl
namespace Go.Proofs.Ytlmbhkmaflhagaa
/- THE CELL 'sum', in the pinned program and in every row, IS THE sha256 OF THE DUMP (.gsa) THAT YtlmbhkmaflhagaaProg.lean LOADS. Nothing in Lean hashes anything: it is a label: what it is worth is what the hold of that sum in a sandbox is worth. -/
noncomputable def Try.pinned : Pinned := { name := "ytlmbhkmaflhagaa", sum := "57c16e1e97726e217c44ee8f2164795cf788f61658a1657914ddbf5559f1b8f2", checked := Try.checked }
namespace Rows
def none {H : Type} : Left H := { results := [], args := [] }

/-- 'laws.FnExactBestPlanCost': WHATEVER THE INPUT: true; the input reads as it did. -/
def fnExactBestPlanCostSpec : ChangeSpec := { name := "fnExactBestPlanCost", fn := fun _ => fun
  | [d] => { results := [.lit (.bool true)], args := [d] }
  | _ => none }
def fnExactBestPlanCostRow : OpenClaim := { program := "ytlmbhkmaflhagaa", sum := "57c16e1e97726e217c44ee8f2164795cf788f61658a1657914ddbf5559f1b8f2", func := "loop.example/g01110/laws.FnExactBestPlanCost", spec := "fnExactBestPlanCost", unfollowed := true, recurses := true, apart := false }
def FnExactBestPlanCostSaid : Prop := fnExactBestPlanCostRow.holds Try.pinned (OpenSpec.ofChange fnExactBestPlanCostSpec)

/-- ITS FALSE NEIGHBOUR: 'it returns false'. Refute it at one input. -/
def fnExactBestPlanCostWrong : ChangeSpec := { name := "fnExactBestPlanCost", fn := fun _ => fun
  | [d] => { results := [.lit (.bool false)], args := [d] }
  | _ => none }
def FnExactBestPlanCostWrongFalsely : Prop := fnExactBestPlanCostRow.holds Try.pinned (OpenSpec.ofChange fnExactBestPlanCostWrong)

/-- 'laws.FnExactArePotentials': WHATEVER THE INPUT: true; the input reads as it did. -/
def fnExactArePotentialsSpec : ChangeSpec := { name := "fnExactArePotentials", fn := fun _ => fun
  | [d1, d2] => { results := [.lit (.bool true)], args := [d1, d2] }
  | _ => none }
def fnExactArePotentialsRow : OpenClaim := { program := "ytlmbhkmaflhagaa", sum := "57c16e1e97726e217c44ee8f2164795cf788f61658a1657914ddbf5559f1b8f2", func := "loop.example/g01110/laws.FnExactArePotentials", spec := "fnExactArePotentials", unfollowed := true, recurses := true, apart := false }
def FnExactArePotentialsSaid : Prop := fnExactArePotentialsRow.holds Try.pinned (OpenSpec.ofChange fnExactArePotentialsSpec)

/-- ITS FALSE NEIGHBOUR: 'it returns false'. Refute it at one input. -/
def fnExactArePotentialsWrong : ChangeSpec := { name := "fnExactArePotentials", fn := fun _ => fun
  | [d1, d2] => { results := [.lit (.bool false)], args := [d1, d2] }
  | _ => none }
def FnExactArePotentialsWrongFalsely : Prop := fnExactArePotentialsRow.holds Try.pinned (OpenSpec.ofChange fnExactArePotentialsWrong)

/-- 'laws.FnExactPlanProof': WHATEVER THE INPUT: true; the input reads as it did. -/
def fnExactPlanProofSpec : ChangeSpec := { name := "fnExactPlanProof", fn := fun _ => fun
  | [d1, d2, d3] => { results := [.lit (.bool true)], args := [d1, d2, d3] }
  | _ => none }
def fnExactPlanProofRow : OpenClaim := { program := "ytlmbhkmaflhagaa", sum := "57c16e1e97726e217c44ee8f2164795cf788f61658a1657914ddbf5559f1b8f2", func := "loop.example/g01110/laws.FnExactPlanProof", spec := "fnExactPlanProof", unfollowed := true, recurses := true, apart := false }
def FnExactPlanProofSaid : Prop := fnExactPlanProofRow.holds Try.pinned (OpenSpec.ofChange fnExactPlanProofSpec)

/-- ITS FALSE NEIGHBOUR: 'it returns false'. Refute it at one input. -/
def fnExactPlanProofWrong : ChangeSpec := { name := "fnExactPlanProof", fn := fun _ => fun
  | [d1, d2, d3] => { results := [.lit (.bool false)], args := [d1, d2, d3] }
  | _ => none }
def FnExactPlanProofWrongFalsely : Prop := fnExactPlanProofRow.holds Try.pinned (OpenSpec.ofChange fnExactPlanProofWrong)

/-- 'laws.FnExactGreedyPlan': WHATEVER THE INPUT: true; the input reads as it did. -/
def fnExactGreedyPlanSpec : ChangeSpec := { name := "fnExactGreedyPlan", fn := fun _ => fun
  | [d] => { results := [.lit (.bool true)], args := [d] }
  | _ => none }
def fnExactGreedyPlanRow : OpenClaim := { program := "ytlmbhkmaflhagaa", sum := "57c16e1e97726e217c44ee8f2164795cf788f61658a1657914ddbf5559f1b8f2", func := "loop.example/g01110/laws.FnExactGreedyPlan", spec := "fnExactGreedyPlan", unfollowed := true, recurses := true, apart := false }
def FnExactGreedyPlanSaid : Prop := fnExactGreedyPlanRow.holds Try.pinned (OpenSpec.ofChange fnExactGreedyPlanSpec)

/-- ITS FALSE NEIGHBOUR: 'it returns false'. Refute it at one input. -/
def fnExactGreedyPlanWrong : ChangeSpec := { name := "fnExactGreedyPlan", fn := fun _ => fun
  | [d] => { results := [.lit (.bool false)], args := [d] }
  | _ => none }
def FnExactGreedyPlanWrongFalsely : Prop := fnExactGreedyPlanRow.holds Try.pinned (OpenSpec.ofChange fnExactGreedyPlanWrong)

/-- 'laws.FnExactFutureCosts': WHATEVER THE INPUT: true; the input reads as it did. -/
def fnExactFutureCostsSpec : ChangeSpec := { name := "fnExactFutureCosts", fn := fun _ => fun
  | [d] => { results := [.lit (.bool true)], args := [d] }
  | _ => none }
def fnExactFutureCostsRow : OpenClaim := { program := "ytlmbhkmaflhagaa", sum := "57c16e1e97726e217c44ee8f2164795cf788f61658a1657914ddbf5559f1b8f2", func := "loop.example/g01110/laws.FnExactFutureCosts", spec := "fnExactFutureCosts", unfollowed := true, recurses := true, apart := false }
def FnExactFutureCostsSaid : Prop := fnExactFutureCostsRow.holds Try.pinned (OpenSpec.ofChange fnExactFutureCostsSpec)

/-- ITS FALSE NEIGHBOUR: 'it returns false'. Refute it at one input. -/
def fnExactFutureCostsWrong : ChangeSpec := { name := "fnExactFutureCosts", fn := fun _ => fun
  | [d] => { results := [.lit (.bool false)], args := [d] }
  | _ => none }
def FnExactFutureCostsWrongFalsely : Prop := fnExactFutureCostsRow.holds Try.pinned (OpenSpec.ofChange fnExactFutureCostsWrong)

/-- 'laws.FnExactBestPlan': WHATEVER THE INPUT: true; the input reads as it did. -/
def fnExactBestPlanSpec : ChangeSpec := { name := "fnExactBestPlan", fn := fun _ => fun
  | [d] => { results := [.lit (.bool true)], args := [d] }
  | _ => none }
def fnExactBestPlanRow : OpenClaim := { program := "ytlmbhkmaflhagaa", sum := "57c16e1e97726e217c44ee8f2164795cf788f61658a1657914ddbf5559f1b8f2", func := "loop.example/g01110/laws.FnExactBestPlan", spec := "fnExactBestPlan", unfollowed := true, recurses := true, apart := false }
def FnExactBestPlanSaid : Prop := fnExactBestPlanRow.holds Try.pinned (OpenSpec.ofChange fnExactBestPlanSpec)

/-- ITS FALSE NEIGHBOUR: 'it returns false'. Refute it at one input. -/
def fnExactBestPlanWrong : ChangeSpec := { name := "fnExactBestPlan", fn := fun _ => fun
  | [d] => { results := [.lit (.bool false)], args := [d] }
  | _ => none }
def FnExactBestPlanWrongFalsely : Prop := fnExactBestPlanRow.holds Try.pinned (OpenSpec.ofChange fnExactBestPlanWrong)

/-- 'laws.FnExactStaticPlan': WHATEVER THE INPUT: true; the input reads as it did. -/
def fnExactStaticPlanSpec : ChangeSpec := { name := "fnExactStaticPlan", fn := fun _ => fun
  | [d] => { results := [.lit (.bool true)], args := [d] }
  | _ => none }
def fnExactStaticPlanRow : OpenClaim := { program := "ytlmbhkmaflhagaa", sum := "57c16e1e97726e217c44ee8f2164795cf788f61658a1657914ddbf5559f1b8f2", func := "loop.example/g01110/laws.FnExactStaticPlan", spec := "fnExactStaticPlan", unfollowed := true, recurses := true, apart := false }
def FnExactStaticPlanSaid : Prop := fnExactStaticPlanRow.holds Try.pinned (OpenSpec.ofChange fnExactStaticPlanSpec)

/-- ITS FALSE NEIGHBOUR: 'it returns false'. Refute it at one input. -/
def fnExactStaticPlanWrong : ChangeSpec := { name := "fnExactStaticPlan", fn := fun _ => fun
  | [d] => { results := [.lit (.bool false)], args := [d] }
  | _ => none }
def FnExactStaticPlanWrongFalsely : Prop := fnExactStaticPlanRow.holds Try.pinned (OpenSpec.ofChange fnExactStaticPlanWrong)

/-- 'laws.FnExactNestedWorst': WHATEVER THE INPUT: true; the input reads as it did. -/
def fnExactNestedWorstSpec : ChangeSpec := { name := "fnExactNestedWorst", fn := fun _ => fun
  | [d1, d2] => { results := [.lit (.bool true)], args := [d1, d2] }
  | _ => none }
def fnExactNestedWorstRow : OpenClaim := { program := "ytlmbhkmaflhagaa", sum := "57c16e1e97726e217c44ee8f2164795cf788f61658a1657914ddbf5559f1b8f2", func := "loop.example/g01110/laws.FnExactNestedWorst", spec := "fnExactNestedWorst", unfollowed := true, recurses := true, apart := false }
def FnExactNestedWorstSaid : Prop := fnExactNestedWorstRow.holds Try.pinned (OpenSpec.ofChange fnExactNestedWorstSpec)

/-- ITS FALSE NEIGHBOUR: 'it returns false'. Refute it at one input. -/
def fnExactNestedWorstWrong : ChangeSpec := { name := "fnExactNestedWorst", fn := fun _ => fun
  | [d1, d2] => { results := [.lit (.bool false)], args := [d1, d2] }
  | _ => none }
def FnExactNestedWorstWrongFalsely : Prop := fnExactNestedWorstRow.holds Try.pinned (OpenSpec.ofChange fnExactNestedWorstWrong)

/-- 'laws.FnExactBestUnder': WHATEVER THE INPUT: true; the input reads as it did. -/
def fnExactBestUnderSpec : ChangeSpec := { name := "fnExactBestUnder", fn := fun _ => fun
  | [d1, d2, d3, d4] => { results := [.lit (.bool true)], args := [d1, d2, d3, d4] }
  | _ => none }
def fnExactBestUnderRow : OpenClaim := { program := "ytlmbhkmaflhagaa", sum := "57c16e1e97726e217c44ee8f2164795cf788f61658a1657914ddbf5559f1b8f2", func := "loop.example/g01110/laws.FnExactBestUnder", spec := "fnExactBestUnder", unfollowed := true, recurses := true, apart := false }
def FnExactBestUnderSaid : Prop := fnExactBestUnderRow.holds Try.pinned (OpenSpec.ofChange fnExactBestUnderSpec)

/-- ITS FALSE NEIGHBOUR: 'it returns false'. Refute it at one input. -/
def fnExactBestUnderWrong : ChangeSpec := { name := "fnExactBestUnder", fn := fun _ => fun
  | [d1, d2, d3, d4] => { results := [.lit (.bool false)], args := [d1, d2, d3, d4] }
  | _ => none }
def FnExactBestUnderWrongFalsely : Prop := fnExactBestUnderRow.holds Try.pinned (OpenSpec.ofChange fnExactBestUnderWrong)

/-- 'laws.FnOnline': WHATEVER THE INPUT: true; the input reads as it did. -/
def fnOnlineSpec : ChangeSpec := { name := "fnOnline", fn := fun _ => fun
  | [d] => { results := [.lit (.bool true)], args := [d] }
  | _ => none }
def fnOnlineRow : OpenClaim := { program := "ytlmbhkmaflhagaa", sum := "57c16e1e97726e217c44ee8f2164795cf788f61658a1657914ddbf5559f1b8f2", func := "loop.example/g01110/laws.FnOnline", spec := "fnOnline", unfollowed := true, recurses := true, apart := false }
def FnOnlineSaid : Prop := fnOnlineRow.holds Try.pinned (OpenSpec.ofChange fnOnlineSpec)

/-- ITS FALSE NEIGHBOUR: 'it returns false'. Refute it at one input. -/
def fnOnlineWrong : ChangeSpec := { name := "fnOnline", fn := fun _ => fun
  | [d] => { results := [.lit (.bool false)], args := [d] }
  | _ => none }
def FnOnlineWrongFalsely : Prop := fnOnlineRow.holds Try.pinned (OpenSpec.ofChange fnOnlineWrong)

/- THE SECOND FORM. 'bulk': how many values and letters a reading holds, each counted each time it is reached (what is shared counts as often as it is met; a slice's spare places count too). A statement '..UptoSaid' is the law's where the arguments, and the package variables that the reading takes, are together of bulk at most 1048576: NARROWER than '..Said'. Prove '..Said' where nothing that the law and all that it calls make is longer than what came in: it says more and counts as full. Else prove '..UptoSaid'. A law counts once. -/
mutual
def uptoBulk {H : Type} : DataW H → Nat
  | .lit (.string bytes) => bytes.length + 1
  | .lit _ => 1
  | .nil => 1
  | .ptr d => uptoBulk d + 1
  | .slice elems spare => uptoBulkAll elems + uptoBulkAll spare + 1
  | .agg parts => uptoBulkAll parts + 1
  | .iface _ d => uptoBulk d + 1
  | .map entries => uptoBulkEntries entries + 1
  | .held _ => 1
def uptoBulkAll {H : Type} : List (DataW H) → Nat
  | [] => 0
  | d :: r => uptoBulk d + uptoBulkAll r
def uptoBulkEntries {H : Type} : List (Lit × DataW H) → Nat
  | [] => 0
  | x :: r => uptoBulkEntry x + uptoBulkEntries r
def uptoBulkEntry {H : Type} : Lit × DataW H → Nat
  | (.string bytes, d) => bytes.length + uptoBulk d + 1
  | (_, d) => uptoBulk d + 1
 end
def uptoSmall : (H : Type) → List (DataW H) → Bool := fun _ ds => decide (uptoBulkAll ds ≤ 1048576)
def OpenSpec.upto (s : _root_.Go.ChangeSpec) : _root_.Go.OpenSpec := { _root_.Go.OpenSpec.ofChange s with cond := some uptoSmall }

/-- 'laws.FnExactBestPlanCost', WHERE WHAT IT READS IS OF BULK AT MOST 1048576: true; the input reads as it did. -/
def fnExactBestPlanCostUptoRow : OpenClaim := { program := "ytlmbhkmaflhagaa", sum := "57c16e1e97726e217c44ee8f2164795cf788f61658a1657914ddbf5559f1b8f2", func := "loop.example/g01110/laws.FnExactBestPlanCost", spec := "fnExactBestPlanCost", unfollowed := true, recurses := true, apart := false, narrowed := true }
def FnExactBestPlanCostUptoSaid : Prop := fnExactBestPlanCostUptoRow.holds Try.pinned (OpenSpec.upto fnExactBestPlanCostSpec)

/-- 'laws.FnExactArePotentials', WHERE WHAT IT READS IS OF BULK AT MOST 1048576: true; the input reads as it did. -/
def fnExactArePotentialsUptoRow : OpenClaim := { program := "ytlmbhkmaflhagaa", sum := "57c16e1e97726e217c44ee8f2164795cf788f61658a1657914ddbf5559f1b8f2", func := "loop.example/g01110/laws.FnExactArePotentials", spec := "fnExactArePotentials", unfollowed := true, recurses := true, apart := false, narrowed := true }
def FnExactArePotentialsUptoSaid : Prop := fnExactArePotentialsUptoRow.holds Try.pinned (OpenSpec.upto fnExactArePotentialsSpec)

/-- 'laws.FnExactPlanProof', WHERE WHAT IT READS IS OF BULK AT MOST 1048576: true; the input reads as it did. -/
def fnExactPlanProofUptoRow : OpenClaim := { program := "ytlmbhkmaflhagaa", sum := "57c16e1e97726e217c44ee8f2164795cf788f61658a1657914ddbf5559f1b8f2", func := "loop.example/g01110/laws.FnExactPlanProof", spec := "fnExactPlanProof", unfollowed := true, recurses := true, apart := false, narrowed := true }
def FnExactPlanProofUptoSaid : Prop := fnExactPlanProofUptoRow.holds Try.pinned (OpenSpec.upto fnExactPlanProofSpec)

/-- 'laws.FnExactGreedyPlan', WHERE WHAT IT READS IS OF BULK AT MOST 1048576: true; the input reads as it did. -/
def fnExactGreedyPlanUptoRow : OpenClaim := { program := "ytlmbhkmaflhagaa", sum := "57c16e1e97726e217c44ee8f2164795cf788f61658a1657914ddbf5559f1b8f2", func := "loop.example/g01110/laws.FnExactGreedyPlan", spec := "fnExactGreedyPlan", unfollowed := true, recurses := true, apart := false, narrowed := true }
def FnExactGreedyPlanUptoSaid : Prop := fnExactGreedyPlanUptoRow.holds Try.pinned (OpenSpec.upto fnExactGreedyPlanSpec)

/-- 'laws.FnExactFutureCosts', WHERE WHAT IT READS IS OF BULK AT MOST 1048576: true; the input reads as it did. -/
def fnExactFutureCostsUptoRow : OpenClaim := { program := "ytlmbhkmaflhagaa", sum := "57c16e1e97726e217c44ee8f2164795cf788f61658a1657914ddbf5559f1b8f2", func := "loop.example/g01110/laws.FnExactFutureCosts", spec := "fnExactFutureCosts", unfollowed := true, recurses := true, apart := false, narrowed := true }
def FnExactFutureCostsUptoSaid : Prop := fnExactFutureCostsUptoRow.holds Try.pinned (OpenSpec.upto fnExactFutureCostsSpec)

/-- 'laws.FnExactBestPlan', WHERE WHAT IT READS IS OF BULK AT MOST 1048576: true; the input reads as it did. -/
def fnExactBestPlanUptoRow : OpenClaim := { program := "ytlmbhkmaflhagaa", sum := "57c16e1e97726e217c44ee8f2164795cf788f61658a1657914ddbf5559f1b8f2", func := "loop.example/g01110/laws.FnExactBestPlan", spec := "fnExactBestPlan", unfollowed := true, recurses := true, apart := false, narrowed := true }
def FnExactBestPlanUptoSaid : Prop := fnExactBestPlanUptoRow.holds Try.pinned (OpenSpec.upto fnExactBestPlanSpec)

/-- 'laws.FnExactStaticPlan', WHERE WHAT IT READS IS OF BULK AT MOST 1048576: true; the input reads as it did. -/
def fnExactStaticPlanUptoRow : OpenClaim := { program := "ytlmbhkmaflhagaa", sum := "57c16e1e97726e217c44ee8f2164795cf788f61658a1657914ddbf5559f1b8f2", func := "loop.example/g01110/laws.FnExactStaticPlan", spec := "fnExactStaticPlan", unfollowed := true, recurses := true, apart := false, narrowed := true }
def FnExactStaticPlanUptoSaid : Prop := fnExactStaticPlanUptoRow.holds Try.pinned (OpenSpec.upto fnExactStaticPlanSpec)

/-- 'laws.FnExactNestedWorst', WHERE WHAT IT READS IS OF BULK AT MOST 1048576: true; the input reads as it did. -/
def fnExactNestedWorstUptoRow : OpenClaim := { program := "ytlmbhkmaflhagaa", sum := "57c16e1e97726e217c44ee8f2164795cf788f61658a1657914ddbf5559f1b8f2", func := "loop.example/g01110/laws.FnExactNestedWorst", spec := "fnExactNestedWorst", unfollowed := true, recurses := true, apart := false, narrowed := true }
def FnExactNestedWorstUptoSaid : Prop := fnExactNestedWorstUptoRow.holds Try.pinned (OpenSpec.upto fnExactNestedWorstSpec)

/-- 'laws.FnExactBestUnder', WHERE WHAT IT READS IS OF BULK AT MOST 1048576: true; the input reads as it did. -/
def fnExactBestUnderUptoRow : OpenClaim := { program := "ytlmbhkmaflhagaa", sum := "57c16e1e97726e217c44ee8f2164795cf788f61658a1657914ddbf5559f1b8f2", func := "loop.example/g01110/laws.FnExactBestUnder", spec := "fnExactBestUnder", unfollowed := true, recurses := true, apart := false, narrowed := true }
def FnExactBestUnderUptoSaid : Prop := fnExactBestUnderUptoRow.holds Try.pinned (OpenSpec.upto fnExactBestUnderSpec)

/-- 'laws.FnOnline', WHERE WHAT IT READS IS OF BULK AT MOST 1048576: true; the input reads as it did. -/
def fnOnlineUptoRow : OpenClaim := { program := "ytlmbhkmaflhagaa", sum := "57c16e1e97726e217c44ee8f2164795cf788f61658a1657914ddbf5559f1b8f2", func := "loop.example/g01110/laws.FnOnline", spec := "fnOnline", unfollowed := true, recurses := true, apart := false, narrowed := true }
def FnOnlineUptoSaid : Prop := fnOnlineUptoRow.holds Try.pinned (OpenSpec.upto fnOnlineSpec)

end Rows
end Go.Proofs.Ytlmbhkmaflhagaa
