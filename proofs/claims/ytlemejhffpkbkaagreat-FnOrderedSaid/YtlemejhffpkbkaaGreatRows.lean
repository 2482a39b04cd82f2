/-
  No cell of these rows narrows 'for every input' (looked for: loops, veiled, ifaces, maps, wideKeys, modest, calm, conditions, laid).
  DERIVED. THE GIVEN ROWS OF THIS SEAT. 3 by the template 'for every input the law returns true; each argument reads behind the call as it read before'; 0 by the template 'total and deterministic' (their statements: YtlemejhffpkbkaaGreatTotals.lean).
  GIVEN WITH THE SEED: the statements are not yours to turn. If you find one false, say at which input.
  Laid BY PROGRAM, IN A SANDBOX (cutbox-rows.mjs): the forced cells as the released guide's own fill.sh prints them over the translation a900fb43738ce2d5… (all of the seat's roots in one cut). By AI agents, Wed Nov 11 2026. No macro, syntax, notation, axiom, sorry.
-/
import Derived.Test.YtlemejhffpkbkaaGreatChecked
import GoSem.Claim
import GoSem.ClaimJoined
import GoSem.ClaimMapViews
import Derived.JoinedTies
import Derived.KernelRfl
namespace Go.Proofs.YtlemejhffpkbkaaGreat
/- THE CELL 'sum', in the pinned program and in every row, IS THE sha256 OF THE DUMP (.gsa) THAT YtlemejhffpkbkaaGreatProg.lean LOADS. Nothing in Lean hashes anything: it is a label: what it is worth is what the hold of that sum in a sandbox is worth. -/
noncomputable def Tryz.pinned : Pinned := { name := "ytlemejhffpkbkaagreat", sum := "a900fb43738ce2d56445c36a3c11e229a87818c48dc9654763439b235933d8c3", checked := Tryz.checked }
namespace Rows
def none {H : Type} : Left H := { results := [], args := [] }

/-- 'laws.FnDispersion': WHATEVER THE INPUT: true; the input reads as it did. -/
def fnDispersionSpec : ChangeSpec := { name := "fnDispersion", fn := fun _ => fun
  | [d] => { results := [.lit (.bool true)], args := [d] }
  | _ => none }
def fnDispersionRow : OpenClaim := { program := "ytlemejhffpkbkaagreat", sum := "a900fb43738ce2d56445c36a3c11e229a87818c48dc9654763439b235933d8c3", func := "loop.example/g01110/laws.FnDispersion", spec := "fnDispersion", unfollowed := true, recurses := true, apart := false }
def FnDispersionSaid : Prop := fnDispersionRow.holds Tryz.pinned (OpenSpec.ofChange fnDispersionSpec)

/-- ITS FALSE NEIGHBOUR: 'it returns false'. Refute it at one input. -/
def fnDispersionWrong : ChangeSpec := { name := "fnDispersion", fn := fun _ => fun
  | [d] => { results := [.lit (.bool false)], args := [d] }
  | _ => none }
def FnDispersionWrongFalsely : Prop := fnDispersionRow.holds Tryz.pinned (OpenSpec.ofChange fnDispersionWrong)

/-- 'laws.FnOrdered': WHATEVER THE INPUT: true; the input reads as it did. -/
def fnOrderedSpec : ChangeSpec := { name := "fnOrdered", fn := fun _ => fun
  | [d] => { results := [.lit (.bool true)], args := [d] }
  | _ => none }
def fnOrderedRow : OpenClaim := { program := "ytlemejhffpkbkaagreat", sum := "a900fb43738ce2d56445c36a3c11e229a87818c48dc9654763439b235933d8c3", func := "loop.example/g01110/laws.FnOrdered", spec := "fnOrdered", unfollowed := true, recurses := true, apart := false }
def FnOrderedSaid : Prop := fnOrderedRow.holds Tryz.pinned (OpenSpec.ofChange fnOrderedSpec)

/-- ITS FALSE NEIGHBOUR: 'it returns false'. Refute it at one input. -/
def fnOrderedWrong : ChangeSpec := { name := "fnOrdered", fn := fun _ => fun
  | [d] => { results := [.lit (.bool false)], args := [d] }
  | _ => none }
def FnOrderedWrongFalsely : Prop := fnOrderedRow.holds Tryz.pinned (OpenSpec.ofChange fnOrderedWrong)

/-- 'laws.FnFronts': WHATEVER THE INPUT: true; the input reads as it did. -/
def fnFrontsSpec : ChangeSpec := { name := "fnFronts", fn := fun _ => fun
  | [d] => { results := [.lit (.bool true)], args := [d] }
  | _ => none }
def fnFrontsRow : OpenClaim := { program := "ytlemejhffpkbkaagreat", sum := "a900fb43738ce2d56445c36a3c11e229a87818c48dc9654763439b235933d8c3", func := "loop.example/g01110/laws.FnFronts", spec := "fnFronts", unfollowed := true, recurses := true, apart := false }
def FnFrontsSaid : Prop := fnFrontsRow.holds Tryz.pinned (OpenSpec.ofChange fnFrontsSpec)

/-- ITS FALSE NEIGHBOUR: 'it returns false'. Refute it at one input. -/
def fnFrontsWrong : ChangeSpec := { name := "fnFronts", fn := fun _ => fun
  | [d] => { results := [.lit (.bool false)], args := [d] }
  | _ => none }
def FnFrontsWrongFalsely : Prop := fnFrontsRow.holds Tryz.pinned (OpenSpec.ofChange fnFrontsWrong)

/- THE SECOND FORM. 'bulk': how many values and letters a reading holds, each counted each time it is reached (what is shared counts as often as it is met; a slice's spare places count too). A statement '..UptoSaid' is the law's where the arguments, and the package variables that the reading takes, are together of bulk at most 1048576: NARROWER than '..Said'. Prove '..Said' where nothing that the law and all that it calls make is longer than what came in: it says more and counts as full. Else prove '..UptoSaid'. A law counts once. -/
mutual
def uptoBulk {H : Type} : DataW H → Nat
  | .lit (.string bytes) => bytes.length + 1
  | .lit _ => 1
  | .nil => 1
  | .ptr d => uptoBulk d + 1
  | .slice elems spare => uptoBulkAll elems + uptoBulkAll spare + 1
  | .agg parts => uptoBulkAll parts + 1
  | .iface _ d => uptoBulk d + 1
  | .map entries => uptoBulkEntries entries + 1
  | .held _ => 1
def uptoBulkAll {H : Type} : List (DataW H) → Nat
  | [] => 0
  | d :: r => uptoBulk d + uptoBulkAll r
def uptoBulkEntries {H : Type} : List (Lit × DataW H) → Nat
  | [] => 0
  | x :: r => uptoBulkEntry x + uptoBulkEntries r
def uptoBulkEntry {H : Type} : Lit × DataW H → Nat
  | (.string bytes, d) => bytes.length + uptoBulk d + 1
  | (_, d) => uptoBulk d + 1
 end
def uptoSmall : (H : Type) → List (DataW H) → Bool := fun _ ds => decide (uptoBulkAll ds ≤ 1048576)
def OpenSpec.upto (s : _root_.Go.ChangeSpec) : _root_.Go.OpenSpec := { _root_.Go.OpenSpec.ofChange s with cond := some uptoSmall }

/-- 'laws.FnDispersion', WHERE WHAT IT READS IS OF BULK AT MOST 1048576: true; the input reads as it did. -/
def fnDispersionUptoRow : OpenClaim := { program := "ytlemejhffpkbkaagreat", sum := "a900fb43738ce2d56445c36a3c11e229a87818c48dc9654763439b235933d8c3", func := "loop.example/g01110/laws.FnDispersion", spec := "fnDispersion", unfollowed := true, recurses := true, apart := false, narrowed := true }
def FnDispersionUptoSaid : Prop := fnDispersionUptoRow.holds Tryz.pinned (OpenSpec.upto fnDispersionSpec)

/-- 'laws.FnOrdered', WHERE WHAT IT READS IS OF BULK AT MOST 1048576: true; the input reads as it did. -/
def fnOrderedUptoRow : OpenClaim := { program := "ytlemejhffpkbkaagreat", sum := "a900fb43738ce2d56445c36a3c11e229a87818c48dc9654763439b235933d8c3", func := "loop.example/g01110/laws.FnOrdered", spec := "fnOrdered", unfollowed := true, recurses := true, apart := false, narrowed := true }
def FnOrderedUptoSaid : Prop := fnOrderedUptoRow.holds Tryz.pinned (OpenSpec.upto fnOrderedSpec)

/-- 'laws.FnFronts', WHERE WHAT IT READS IS OF BULK AT MOST 1048576: true; the input reads as it did. -/
def fnFrontsUptoRow : OpenClaim := { program := "ytlemejhffpkbkaagreat", sum := "a900fb43738ce2d56445c36a3c11e229a87818c48dc9654763439b235933d8c3", func := "loop.example/g01110/laws.FnFronts", spec := "fnFronts", unfollowed := true, recurses := true, apart := false, narrowed := true }
def FnFrontsUptoSaid : Prop := fnFrontsUptoRow.holds Tryz.pinned (OpenSpec.upto fnFrontsSpec)

end Rows
end Go.Proofs.YtlemejhffpkbkaaGreat
