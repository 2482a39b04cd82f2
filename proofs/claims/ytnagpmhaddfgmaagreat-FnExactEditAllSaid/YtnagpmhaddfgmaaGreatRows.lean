/-
  No cell of these rows narrows 'for every input' (looked for: loops, veiled, ifaces, maps, wideKeys, modest, calm, conditions, laid).
  DERIVED. THE GIVEN ROWS OF THIS SEAT. 6 by the template 'for every input the law returns true; each argument reads behind the call as it read before'; 0 by the template 'total and deterministic' (their statements: YtnagpmhaddfgmaaGreatTotals.lean).
  GIVEN WITH THE SEED: the statements are not yours to turn. If you find one false, say at which input.
  Laid BY PROGRAM, IN A SANDBOX (cutbox-rows.mjs): the forced cells as the released guide's own fill.sh prints them over the translation 1cdef053fc270fb5… (all of the seat's roots in one cut). By AI agents, Wed Nov 11 2026. No macro, syntax, notation, axiom, sorry.
-/
import Derived.Test.YtnagpmhaddfgmaaGreatChecked
import GoSem.Claim
import GoSem.ClaimJoined
import GoSem.ClaimMapViews
import Derived.JoinedTies
import Derived.KernelRfl
namespace Go.Proofs.YtnagpmhaddfgmaaGreat
/- THE CELL 'sum', in the pinned program and in every row, IS THE sha256 OF THE DUMP (.gsa) THAT YtnagpmhaddfgmaaGreatProg.lean LOADS. Nothing in Lean hashes anything: it is a label: what it is worth is what the hold of that sum in a sandbox is worth. -/
noncomputable def Tryz.pinned : Pinned := { name := "ytnagpmhaddfgmaagreat", sum := "1cdef053fc270fb5d04c78462e9e5099bb07d5170d82df7c9fad3386aaa178a2", checked := Tryz.checked }
namespace Rows
def none {H : Type} : Left H := { results := [], args := [] }

/-- 'laws.FnFronts': WHATEVER THE INPUT: true; the input reads as it did. -/
def fnFrontsSpec : ChangeSpec := { name := "fnFronts", fn := fun _ => fun
  | [d] => { results := [.lit (.bool true)], args := [d] }
  | _ => none }
def fnFrontsRow : OpenClaim := { program := "ytnagpmhaddfgmaagreat", sum := "1cdef053fc270fb5d04c78462e9e5099bb07d5170d82df7c9fad3386aaa178a2", func := "loop.example/g01110/laws.FnFronts", spec := "fnFronts", unfollowed := true, recurses := true, apart := false }
def FnFrontsSaid : Prop := fnFrontsRow.holds Tryz.pinned (OpenSpec.ofChange fnFrontsSpec)

/-- ITS FALSE NEIGHBOUR: 'it returns false'. Refute it at one input. -/
def fnFrontsWrong : ChangeSpec := { name := "fnFronts", fn := fun _ => fun
  | [d] => { results := [.lit (.bool false)], args := [d] }
  | _ => none }
def FnFrontsWrongFalsely : Prop := fnFrontsRow.holds Tryz.pinned (OpenSpec.ofChange fnFrontsWrong)

/-- 'laws.FnDispersion': WHATEVER THE INPUT: true; the input reads as it did. -/
def fnDispersionSpec : ChangeSpec := { name := "fnDispersion", fn := fun _ => fun
  | [d] => { results := [.lit (.bool true)], args := [d] }
  | _ => none }
def fnDispersionRow : OpenClaim := { program := "ytnagpmhaddfgmaagreat", sum := "1cdef053fc270fb5d04c78462e9e5099bb07d5170d82df7c9fad3386aaa178a2", func := "loop.example/g01110/laws.FnDispersion", spec := "fnDispersion", unfollowed := true, recurses := true, apart := false }
def FnDispersionSaid : Prop := fnDispersionRow.holds Tryz.pinned (OpenSpec.ofChange fnDispersionSpec)

/-- ITS FALSE NEIGHBOUR: 'it returns false'. Refute it at one input. -/
def fnDispersionWrong : ChangeSpec := { name := "fnDispersion", fn := fun _ => fun
  | [d] => { results := [.lit (.bool false)], args := [d] }
  | _ => none }
def FnDispersionWrongFalsely : Prop := fnDispersionRow.holds Tryz.pinned (OpenSpec.ofChange fnDispersionWrong)

/-- 'laws.FnExactEditAtlas': WHATEVER THE INPUT: true; the input reads as it did. -/
def fnExactEditAtlasSpec : ChangeSpec := { name := "fnExactEditAtlas", fn := fun _ => fun
  | [d1, d2] => { results := [.lit (.bool true)], args := [d1, d2] }
  | _ => none }
def fnExactEditAtlasRow : OpenClaim := { program := "ytnagpmhaddfgmaagreat", sum := "1cdef053fc270fb5d04c78462e9e5099bb07d5170d82df7c9fad3386aaa178a2", func := "loop.example/g01110/laws.FnExactEditAtlas", spec := "fnExactEditAtlas", unfollowed := true, recurses := true, apart := false }
def FnExactEditAtlasSaid : Prop := fnExactEditAtlasRow.holds Tryz.pinned (OpenSpec.ofChange fnExactEditAtlasSpec)

/-- ITS FALSE NEIGHBOUR: 'it returns false'. Refute it at one input. -/
def fnExactEditAtlasWrong : ChangeSpec := { name := "fnExactEditAtlas", fn := fun _ => fun
  | [d1, d2] => { results := [.lit (.bool false)], args := [d1, d2] }
  | _ => none }
def FnExactEditAtlasWrongFalsely : Prop := fnExactEditAtlasRow.holds Tryz.pinned (OpenSpec.ofChange fnExactEditAtlasWrong)

/-- 'laws.FnExactEditAll': WHATEVER THE INPUT: true; the input reads as it did. -/
def fnExactEditAllSpec : ChangeSpec := { name := "fnExactEditAll", fn := fun _ => fun
  | [d1, d2] => { results := [.lit (.bool true)], args := [d1, d2] }
  | _ => none }
def fnExactEditAllRow : OpenClaim := { program := "ytnagpmhaddfgmaagreat", sum := "1cdef053fc270fb5d04c78462e9e5099bb07d5170d82df7c9fad3386aaa178a2", func := "loop.example/g01110/laws.FnExactEditAll", spec := "fnExactEditAll", unfollowed := true, recurses := true, apart := false }
def FnExactEditAllSaid : Prop := fnExactEditAllRow.holds Tryz.pinned (OpenSpec.ofChange fnExactEditAllSpec)

/-- ITS FALSE NEIGHBOUR: 'it returns false'. Refute it at one input. -/
def fnExactEditAllWrong : ChangeSpec := { name := "fnExactEditAll", fn := fun _ => fun
  | [d1, d2] => { results := [.lit (.bool false)], args := [d1, d2] }
  | _ => none }
def FnExactEditAllWrongFalsely : Prop := fnExactEditAllRow.holds Tryz.pinned (OpenSpec.ofChange fnExactEditAllWrong)

/-- 'laws.FnAtlases': WHATEVER THE INPUT: true; the input reads as it did. -/
def fnAtlasesSpec : ChangeSpec := { name := "fnAtlases", fn := fun _ => fun
  | [d] => { results := [.lit (.bool true)], args := [d] }
  | _ => none }
def fnAtlasesRow : OpenClaim := { program := "ytnagpmhaddfgmaagreat", sum := "1cdef053fc270fb5d04c78462e9e5099bb07d5170d82df7c9fad3386aaa178a2", func := "loop.example/g01110/laws.FnAtlases", spec := "fnAtlases", unfollowed := true, recurses := true, apart := false }
def FnAtlasesSaid : Prop := fnAtlasesRow.holds Tryz.pinned (OpenSpec.ofChange fnAtlasesSpec)

/-- ITS FALSE NEIGHBOUR: 'it returns false'. Refute it at one input. -/
def fnAtlasesWrong : ChangeSpec := { name := "fnAtlases", fn := fun _ => fun
  | [d] => { results := [.lit (.bool false)], args := [d] }
  | _ => none }
def FnAtlasesWrongFalsely : Prop := fnAtlasesRow.holds Tryz.pinned (OpenSpec.ofChange fnAtlasesWrong)

/-- 'laws.FnGreedyStars': WHATEVER THE INPUT: true; the input reads as it did. -/
def fnGreedyStarsSpec : ChangeSpec := { name := "fnGreedyStars", fn := fun _ => fun
  | [d] => { results := [.lit (.bool true)], args := [d] }
  | _ => none }
def fnGreedyStarsRow : OpenClaim := { program := "ytnagpmhaddfgmaagreat", sum := "1cdef053fc270fb5d04c78462e9e5099bb07d5170d82df7c9fad3386aaa178a2", func := "loop.example/g01110/laws.FnGreedyStars", spec := "fnGreedyStars", unfollowed := true, recurses := true, apart := false }
def FnGreedyStarsSaid : Prop := fnGreedyStarsRow.holds Tryz.pinned (OpenSpec.ofChange fnGreedyStarsSpec)

/-- ITS FALSE NEIGHBOUR: 'it returns false'. Refute it at one input. -/
def fnGreedyStarsWrong : ChangeSpec := { name := "fnGreedyStars", fn := fun _ => fun
  | [d] => { results := [.lit (.bool false)], args := [d] }
  | _ => none }
def FnGreedyStarsWrongFalsely : Prop := fnGreedyStarsRow.holds Tryz.pinned (OpenSpec.ofChange fnGreedyStarsWrong)

/- THE SECOND FORM. 'bulk': how many values and letters a reading holds, each counted each time it is reached (what is shared counts as often as it is met; a slice's spare places count too). A statement '..UptoSaid' is the law's where the arguments, and the package variables that the reading takes, are together of bulk at most 1048576: NARROWER than '..Said'. Prove '..Said' where nothing that the law and all that it calls make is longer than what came in: it says more and counts as full. Else prove '..UptoSaid'. A law counts once. -/
mutual
def uptoBulk {H : Type} : DataW H → Nat
  | .lit (.string bytes) => bytes.length + 1
  | .lit _ => 1
  | .nil => 1
  | .ptr d => uptoBulk d + 1
  | .slice elems spare => uptoBulkAll elems + uptoBulkAll spare + 1
  | .agg parts => uptoBulkAll parts + 1
  | .iface _ d => uptoBulk d + 1
  | .map entries => uptoBulkEntries entries + 1
  | .held _ => 1
def uptoBulkAll {H : Type} : List (DataW H) → Nat
  | [] => 0
  | d :: r => uptoBulk d + uptoBulkAll r
def uptoBulkEntries {H : Type} : List (Lit × DataW H) → Nat
  | [] => 0
  | x :: r => uptoBulkEntry x + uptoBulkEntries r
def uptoBulkEntry {H : Type} : Lit × DataW H → Nat
  | (.string bytes, d) => bytes.length + uptoBulk d + 1
  | (_, d) => uptoBulk d + 1
 end
def uptoSmall : (H : Type) → List (DataW H) → Bool := fun _ ds => decide (uptoBulkAll ds ≤ 1048576)
def OpenSpec.upto (s : _root_.Go.ChangeSpec) : _root_.Go.OpenSpec := { _root_.Go.OpenSpec.ofChange s with cond := some uptoSmall }

/-- 'laws.FnFronts', WHERE WHAT IT READS IS OF BULK AT MOST 1048576: true; the input reads as it did. -/
def fnFrontsUptoRow : OpenClaim := { program := "ytnagpmhaddfgmaagreat", sum := "1cdef053fc270fb5d04c78462e9e5099bb07d5170d82df7c9fad3386aaa178a2", func := "loop.example/g01110/laws.FnFronts", spec := "fnFronts", unfollowed := true, recurses := true, apart := false, narrowed := true }
def FnFrontsUptoSaid : Prop := fnFrontsUptoRow.holds Tryz.pinned (OpenSpec.upto fnFrontsSpec)

/-- 'laws.FnDispersion', WHERE WHAT IT READS IS OF BULK AT MOST 1048576: true; the input reads as it did. -/
def fnDispersionUptoRow : OpenClaim := { program := "ytnagpmhaddfgmaagreat", sum := "1cdef053fc270fb5d04c78462e9e5099bb07d5170d82df7c9fad3386aaa178a2", func := "loop.example/g01110/laws.FnDispersion", spec := "fnDispersion", unfollowed := true, recurses := true, apart := false, narrowed := true }
def FnDispersionUptoSaid : Prop := fnDispersionUptoRow.holds Tryz.pinned (OpenSpec.upto fnDispersionSpec)

/-- 'laws.FnExactEditAtlas', WHERE WHAT IT READS IS OF BULK AT MOST 1048576: true; the input reads as it did. -/
def fnExactEditAtlasUptoRow : OpenClaim := { program := "ytnagpmhaddfgmaagreat", sum := "1cdef053fc270fb5d04c78462e9e5099bb07d5170d82df7c9fad3386aaa178a2", func := "loop.example/g01110/laws.FnExactEditAtlas", spec := "fnExactEditAtlas", unfollowed := true, recurses := true, apart := false, narrowed := true }
def FnExactEditAtlasUptoSaid : Prop := fnExactEditAtlasUptoRow.holds Tryz.pinned (OpenSpec.upto fnExactEditAtlasSpec)

/-- 'laws.FnExactEditAll', WHERE WHAT IT READS IS OF BULK AT MOST 1048576: true; the input reads as it did. -/
def fnExactEditAllUptoRow : OpenClaim := { program := "ytnagpmhaddfgmaagreat", sum := "1cdef053fc270fb5d04c78462e9e5099bb07d5170d82df7c9fad3386aaa178a2", func := "loop.example/g01110/laws.FnExactEditAll", spec := "fnExactEditAll", unfollowed := true, recurses := true, apart := false, narrowed := true }
def FnExactEditAllUptoSaid : Prop := fnExactEditAllUptoRow.holds Tryz.pinned (OpenSpec.upto fnExactEditAllSpec)

/-- 'laws.FnAtlases', WHERE WHAT IT READS IS OF BULK AT MOST 1048576: true; the input reads as it did. -/
def fnAtlasesUptoRow : OpenClaim := { program := "ytnagpmhaddfgmaagreat", sum := "1cdef053fc270fb5d04c78462e9e5099bb07d5170d82df7c9fad3386aaa178a2", func := "loop.example/g01110/laws.FnAtlases", spec := "fnAtlases", unfollowed := true, recurses := true, apart := false, narrowed := true }
def FnAtlasesUptoSaid : Prop := fnAtlasesUptoRow.holds Tryz.pinned (OpenSpec.upto fnAtlasesSpec)

/-- 'laws.FnGreedyStars', WHERE WHAT IT READS IS OF BULK AT MOST 1048576: true; the input reads as it did. -/
def fnGreedyStarsUptoRow : OpenClaim := { program := "ytnagpmhaddfgmaagreat", sum := "1cdef053fc270fb5d04c78462e9e5099bb07d5170d82df7c9fad3386aaa178a2", func := "loop.example/g01110/laws.FnGreedyStars", spec := "fnGreedyStars", unfollowed := true, recurses := true, apart := false, narrowed := true }
def FnGreedyStarsUptoSaid : Prop := fnGreedyStarsUptoRow.holds Tryz.pinned (OpenSpec.upto fnGreedyStarsSpec)

end Rows
end Go.Proofs.YtnagpmhaddfgmaaGreat
