/-
  No cell of these rows narrows 'for every input' (looked for: loops, veiled, ifaces, maps, wideKeys, modest, calm, conditions, laid).
  DERIVED. THE GIVEN ROWS OF THIS SEAT. 12 by the template 'for every input the law returns true; each argument reads behind the call as it read before'; 0 by the template 'total and deterministic' (their statements: YthkafleokepjeaaTotals.lean).
  GIVEN WITH THE SEED: the statements are not yours to turn. If you find one false, say at which input.
  Laid BY PROGRAM, IN A SANDBOX (cutbox-rows.mjs): the forced cells as the released guide's own fill.sh prints them over the translation 0f7cfed50da4eacf… (all of the seat's roots in one cut). By AI agents, Wed Nov 11 2026. No macro, syntax, notation, axiom, sorry.
-/
import Derived.Test.YthkafleokepjeaaChecked
import GoSem.Claim
import GoSem.ClaimJoined
import GoSem.ClaimMapViews
import Derived.JoinedTies
import Derived.KernelRfl
namespace Go.Proofs.Ythkafleokepjeaa
/- THE CELL 'sum', in the pinned program and in every row, IS THE sha256 OF THE DUMP (.gsa) THAT YthkafleokepjeaaProg.lean LOADS. Nothing in Lean hashes anything: it is a label: what it is worth is what the hold of that sum in a sandbox is worth. -/
noncomputable def Try.pinned : Pinned := { name := "ythkafleokepjeaa", sum := "0f7cfed50da4eacf699c6d21a6acbfc0c196e6974c14eea0a9668c4553cd7385", checked := Try.checked }
namespace Rows
def none {H : Type} : Left H := { results := [], args := [] }

/-- 'laws.FnExactNearGroups': WHATEVER THE INPUT: true; the input reads as it did. -/
def fnExactNearGroupsSpec : ChangeSpec := { name := "fnExactNearGroups", fn := fun _ => fun
  | [d1, d2] => { results := [.lit (.bool true)], args := [d1, d2] }
  | _ => none }
def fnExactNearGroupsRow : OpenClaim := { program := "ythkafleokepjeaa", sum := "0f7cfed50da4eacf699c6d21a6acbfc0c196e6974c14eea0a9668c4553cd7385", func := "loop.example/g01110/laws.FnExactNearGroups", spec := "fnExactNearGroups", unfollowed := true, recurses := true, apart := false }
def FnExactNearGroupsSaid : Prop := fnExactNearGroupsRow.holds Try.pinned (OpenSpec.ofChange fnExactNearGroupsSpec)

/-- ITS FALSE NEIGHBOUR: 'it returns false'. Refute it at one input. -/
def fnExactNearGroupsWrong : ChangeSpec := { name := "fnExactNearGroups", fn := fun _ => fun
  | [d1, d2] => { results := [.lit (.bool false)], args := [d1, d2] }
  | _ => none }
def FnExactNearGroupsWrongFalsely : Prop := fnExactNearGroupsRow.holds Try.pinned (OpenSpec.ofChange fnExactNearGroupsWrong)

/-- 'laws.FnExactNewAtlas': WHATEVER THE INPUT: true; the input reads as it did. -/
def fnExactNewAtlasSpec : ChangeSpec := { name := "fnExactNewAtlas", fn := fun _ => fun
  | [d] => { results := [.lit (.bool true)], args := [d] }
  | _ => none }
def fnExactNewAtlasRow : OpenClaim := { program := "ythkafleokepjeaa", sum := "0f7cfed50da4eacf699c6d21a6acbfc0c196e6974c14eea0a9668c4553cd7385", func := "loop.example/g01110/laws.FnExactNewAtlas", spec := "fnExactNewAtlas", unfollowed := true, recurses := true, apart := false }
def FnExactNewAtlasSaid : Prop := fnExactNewAtlasRow.holds Try.pinned (OpenSpec.ofChange fnExactNewAtlasSpec)

/-- ITS FALSE NEIGHBOUR: 'it returns false'. Refute it at one input. -/
def fnExactNewAtlasWrong : ChangeSpec := { name := "fnExactNewAtlas", fn := fun _ => fun
  | [d] => { results := [.lit (.bool false)], args := [d] }
  | _ => none }
def FnExactNewAtlasWrongFalsely : Prop := fnExactNewAtlasRow.holds Try.pinned (OpenSpec.ofChange fnExactNewAtlasWrong)

/-- 'laws.FnExactAtlasTotal': WHATEVER THE INPUT: true; the input reads as it did. -/
def fnExactAtlasTotalSpec : ChangeSpec := { name := "fnExactAtlasTotal", fn := fun _ => fun
  | [d] => { results := [.lit (.bool true)], args := [d] }
  | _ => none }
def fnExactAtlasTotalRow : OpenClaim := { program := "ythkafleokepjeaa", sum := "0f7cfed50da4eacf699c6d21a6acbfc0c196e6974c14eea0a9668c4553cd7385", func := "loop.example/g01110/laws.FnExactAtlasTotal", spec := "fnExactAtlasTotal", unfollowed := true, recurses := true, apart := false }
def FnExactAtlasTotalSaid : Prop := fnExactAtlasTotalRow.holds Try.pinned (OpenSpec.ofChange fnExactAtlasTotalSpec)

/-- ITS FALSE NEIGHBOUR: 'it returns false'. Refute it at one input. -/
def fnExactAtlasTotalWrong : ChangeSpec := { name := "fnExactAtlasTotal", fn := fun _ => fun
  | [d] => { results := [.lit (.bool false)], args := [d] }
  | _ => none }
def FnExactAtlasTotalWrongFalsely : Prop := fnExactAtlasTotalRow.holds Try.pinned (OpenSpec.ofChange fnExactAtlasTotalWrong)

/-- 'laws.FnExactObjectiveOf': WHATEVER THE INPUT: true; the input reads as it did. -/
def fnExactObjectiveOfSpec : ChangeSpec := { name := "fnExactObjectiveOf", fn := fun _ => fun
  | [d1, d2, d3] => { results := [.lit (.bool true)], args := [d1, d2, d3] }
  | _ => none }
def fnExactObjectiveOfRow : OpenClaim := { program := "ythkafleokepjeaa", sum := "0f7cfed50da4eacf699c6d21a6acbfc0c196e6974c14eea0a9668c4553cd7385", func := "loop.example/g01110/laws.FnExactObjectiveOf", spec := "fnExactObjectiveOf", unfollowed := true, recurses := true, apart := false }
def FnExactObjectiveOfSaid : Prop := fnExactObjectiveOfRow.holds Try.pinned (OpenSpec.ofChange fnExactObjectiveOfSpec)

/-- ITS FALSE NEIGHBOUR: 'it returns false'. Refute it at one input. -/
def fnExactObjectiveOfWrong : ChangeSpec := { name := "fnExactObjectiveOf", fn := fun _ => fun
  | [d1, d2, d3] => { results := [.lit (.bool false)], args := [d1, d2, d3] }
  | _ => none }
def FnExactObjectiveOfWrongFalsely : Prop := fnExactObjectiveOfRow.holds Try.pinned (OpenSpec.ofChange fnExactObjectiveOfWrong)

/-- 'laws.FnExactNewConsole': WHATEVER THE INPUT: true; the input reads as it did. -/
def fnExactNewConsoleSpec : ChangeSpec := { name := "fnExactNewConsole", fn := fun _ => fun
  | [d] => { results := [.lit (.bool true)], args := [d] }
  | _ => none }
def fnExactNewConsoleRow : OpenClaim := { program := "ythkafleokepjeaa", sum := "0f7cfed50da4eacf699c6d21a6acbfc0c196e6974c14eea0a9668c4553cd7385", func := "loop.example/g01110/laws.FnExactNewConsole", spec := "fnExactNewConsole", unfollowed := true, recurses := true, apart := false }
def FnExactNewConsoleSaid : Prop := fnExactNewConsoleRow.holds Try.pinned (OpenSpec.ofChange fnExactNewConsoleSpec)

/-- ITS FALSE NEIGHBOUR: 'it returns false'. Refute it at one input. -/
def fnExactNewConsoleWrong : ChangeSpec := { name := "fnExactNewConsole", fn := fun _ => fun
  | [d] => { results := [.lit (.bool false)], args := [d] }
  | _ => none }
def FnExactNewConsoleWrongFalsely : Prop := fnExactNewConsoleRow.holds Try.pinned (OpenSpec.ofChange fnExactNewConsoleWrong)

/-- 'laws.FnExactBestHubs': WHATEVER THE INPUT: true; the input reads as it did. -/
def fnExactBestHubsSpec : ChangeSpec := { name := "fnExactBestHubs", fn := fun _ => fun
  | [d1, d2, d3, d4] => { results := [.lit (.bool true)], args := [d1, d2, d3, d4] }
  | _ => none }
def fnExactBestHubsRow : OpenClaim := { program := "ythkafleokepjeaa", sum := "0f7cfed50da4eacf699c6d21a6acbfc0c196e6974c14eea0a9668c4553cd7385", func := "loop.example/g01110/laws.FnExactBestHubs", spec := "fnExactBestHubs", unfollowed := true, recurses := true, apart := false }
def FnExactBestHubsSaid : Prop := fnExactBestHubsRow.holds Try.pinned (OpenSpec.ofChange fnExactBestHubsSpec)

/-- ITS FALSE NEIGHBOUR: 'it returns false'. Refute it at one input. -/
def fnExactBestHubsWrong : ChangeSpec := { name := "fnExactBestHubs", fn := fun _ => fun
  | [d1, d2, d3, d4] => { results := [.lit (.bool false)], args := [d1, d2, d3, d4] }
  | _ => none }
def FnExactBestHubsWrongFalsely : Prop := fnExactBestHubsRow.holds Try.pinned (OpenSpec.ofChange fnExactBestHubsWrong)

/-- 'laws.FnExactAtlasGap': WHATEVER THE INPUT: true; the input reads as it did. -/
def fnExactAtlasGapSpec : ChangeSpec := { name := "fnExactAtlasGap", fn := fun _ => fun
  | [d] => { results := [.lit (.bool true)], args := [d] }
  | _ => none }
def fnExactAtlasGapRow : OpenClaim := { program := "ythkafleokepjeaa", sum := "0f7cfed50da4eacf699c6d21a6acbfc0c196e6974c14eea0a9668c4553cd7385", func := "loop.example/g01110/laws.FnExactAtlasGap", spec := "fnExactAtlasGap", unfollowed := true, recurses := true, apart := false }
def FnExactAtlasGapSaid : Prop := fnExactAtlasGapRow.holds Try.pinned (OpenSpec.ofChange fnExactAtlasGapSpec)

/-- ITS FALSE NEIGHBOUR: 'it returns false'. Refute it at one input. -/
def fnExactAtlasGapWrong : ChangeSpec := { name := "fnExactAtlasGap", fn := fun _ => fun
  | [d] => { results := [.lit (.bool false)], args := [d] }
  | _ => none }
def FnExactAtlasGapWrongFalsely : Prop := fnExactAtlasGapRow.holds Try.pinned (OpenSpec.ofChange fnExactAtlasGapWrong)

/-- 'laws.FnHubs': WHATEVER THE INPUT: true; the input reads as it did. -/
def fnHubsSpec : ChangeSpec := { name := "fnHubs", fn := fun _ => fun
  | [d] => { results := [.lit (.bool true)], args := [d] }
  | _ => none }
def fnHubsRow : OpenClaim := { program := "ythkafleokepjeaa", sum := "0f7cfed50da4eacf699c6d21a6acbfc0c196e6974c14eea0a9668c4553cd7385", func := "loop.example/g01110/laws.FnHubs", spec := "fnHubs", unfollowed := true, recurses := true, apart := false }
def FnHubsSaid : Prop := fnHubsRow.holds Try.pinned (OpenSpec.ofChange fnHubsSpec)

/-- ITS FALSE NEIGHBOUR: 'it returns false'. Refute it at one input. -/
def fnHubsWrong : ChangeSpec := { name := "fnHubs", fn := fun _ => fun
  | [d] => { results := [.lit (.bool false)], args := [d] }
  | _ => none }
def FnHubsWrongFalsely : Prop := fnHubsRow.holds Try.pinned (OpenSpec.ofChange fnHubsWrong)

/-- 'laws.FnExactOrderedValue': WHATEVER THE INPUT: true; the input reads as it did. -/
def fnExactOrderedValueSpec : ChangeSpec := { name := "fnExactOrderedValue", fn := fun _ => fun
  | [d1, d2, d3] => { results := [.lit (.bool true)], args := [d1, d2, d3] }
  | _ => none }
def fnExactOrderedValueRow : OpenClaim := { program := "ythkafleokepjeaa", sum := "0f7cfed50da4eacf699c6d21a6acbfc0c196e6974c14eea0a9668c4553cd7385", func := "loop.example/g01110/laws.FnExactOrderedValue", spec := "fnExactOrderedValue", unfollowed := true, recurses := true, apart := false }
def FnExactOrderedValueSaid : Prop := fnExactOrderedValueRow.holds Try.pinned (OpenSpec.ofChange fnExactOrderedValueSpec)

/-- ITS FALSE NEIGHBOUR: 'it returns false'. Refute it at one input. -/
def fnExactOrderedValueWrong : ChangeSpec := { name := "fnExactOrderedValue", fn := fun _ => fun
  | [d1, d2, d3] => { results := [.lit (.bool false)], args := [d1, d2, d3] }
  | _ => none }
def FnExactOrderedValueWrongFalsely : Prop := fnExactOrderedValueRow.holds Try.pinned (OpenSpec.ofChange fnExactOrderedValueWrong)

/-- 'laws.FnExactProvesApart': WHATEVER THE INPUT: true; the input reads as it did. -/
def fnExactProvesApartSpec : ChangeSpec := { name := "fnExactProvesApart", fn := fun _ => fun
  | [d1, d2, d3] => { results := [.lit (.bool true)], args := [d1, d2, d3] }
  | _ => none }
def fnExactProvesApartRow : OpenClaim := { program := "ythkafleokepjeaa", sum := "0f7cfed50da4eacf699c6d21a6acbfc0c196e6974c14eea0a9668c4553cd7385", func := "loop.example/g01110/laws.FnExactProvesApart", spec := "fnExactProvesApart", unfollowed := true, recurses := true, apart := false }
def FnExactProvesApartSaid : Prop := fnExactProvesApartRow.holds Try.pinned (OpenSpec.ofChange fnExactProvesApartSpec)

/-- ITS FALSE NEIGHBOUR: 'it returns false'. Refute it at one input. -/
def fnExactProvesApartWrong : ChangeSpec := { name := "fnExactProvesApart", fn := fun _ => fun
  | [d1, d2, d3] => { results := [.lit (.bool false)], args := [d1, d2, d3] }
  | _ => none }
def FnExactProvesApartWrongFalsely : Prop := fnExactProvesApartRow.holds Try.pinned (OpenSpec.ofChange fnExactProvesApartWrong)

/-- 'laws.FnExactBestDispersion': WHATEVER THE INPUT: true; the input reads as it did. -/
def fnExactBestDispersionSpec : ChangeSpec := { name := "fnExactBestDispersion", fn := fun _ => fun
  | [d1, d2] => { results := [.lit (.bool true)], args := [d1, d2] }
  | _ => none }
def fnExactBestDispersionRow : OpenClaim := { program := "ythkafleokepjeaa", sum := "0f7cfed50da4eacf699c6d21a6acbfc0c196e6974c14eea0a9668c4553cd7385", func := "loop.example/g01110/laws.FnExactBestDispersion", spec := "fnExactBestDispersion", unfollowed := true, recurses := true, apart := false }
def FnExactBestDispersionSaid : Prop := fnExactBestDispersionRow.holds Try.pinned (OpenSpec.ofChange fnExactBestDispersionSpec)

/-- ITS FALSE NEIGHBOUR: 'it returns false'. Refute it at one input. -/
def fnExactBestDispersionWrong : ChangeSpec := { name := "fnExactBestDispersion", fn := fun _ => fun
  | [d1, d2] => { results := [.lit (.bool false)], args := [d1, d2] }
  | _ => none }
def FnExactBestDispersionWrongFalsely : Prop := fnExactBestDispersionRow.holds Try.pinned (OpenSpec.ofChange fnExactBestDispersionWrong)

/-- 'laws.FnExactFarthestFirst': WHATEVER THE INPUT: true; the input reads as it did. -/
def fnExactFarthestFirstSpec : ChangeSpec := { name := "fnExactFarthestFirst", fn := fun _ => fun
  | [d1, d2] => { results := [.lit (.bool true)], args := [d1, d2] }
  | _ => none }
def fnExactFarthestFirstRow : OpenClaim := { program := "ythkafleokepjeaa", sum := "0f7cfed50da4eacf699c6d21a6acbfc0c196e6974c14eea0a9668c4553cd7385", func := "loop.example/g01110/laws.FnExactFarthestFirst", spec := "fnExactFarthestFirst", unfollowed := true, recurses := true, apart := false }
def FnExactFarthestFirstSaid : Prop := fnExactFarthestFirstRow.holds Try.pinned (OpenSpec.ofChange fnExactFarthestFirstSpec)

/-- ITS FALSE NEIGHBOUR: 'it returns false'. Refute it at one input. -/
def fnExactFarthestFirstWrong : ChangeSpec := { name := "fnExactFarthestFirst", fn := fun _ => fun
  | [d1, d2] => { results := [.lit (.bool false)], args := [d1, d2] }
  | _ => none }
def FnExactFarthestFirstWrongFalsely : Prop := fnExactFarthestFirstRow.holds Try.pinned (OpenSpec.ofChange fnExactFarthestFirstWrong)

/- THE SECOND FORM. 'bulk': how many values and letters a reading holds, each counted each time it is reached (what is shared counts as often as it is met; a slice's spare places count too). A statement '..UptoSaid' is the law's where the arguments, and the package variables that the reading takes, are together of bulk at most 1048576: NARROWER than '..Said'. Prove '..Said' where nothing that the law and all that it calls make is longer than what came in: it says more and counts as full. Else prove '..UptoSaid'. A law counts once. -/
mutual
def uptoBulk {H : Type} : DataW H → Nat
  | .lit (.string bytes) => bytes.length + 1
  | .lit _ => 1
  | .nil => 1
  | .ptr d => uptoBulk d + 1
  | .slice elems spare => uptoBulkAll elems + uptoBulkAll spare + 1
  | .agg parts => uptoBulkAll parts + 1
  | .iface _ d => uptoBulk d + 1
  | .map entries => uptoBulkEntries entries + 1
  | .held _ => 1
def uptoBulkAll {H : Type} : List (DataW H) → Nat
  | [] => 0
  | d :: r => uptoBulk d + uptoBulkAll r
def uptoBulkEntries {H : Type} : List (Lit × DataW H) → Nat
  | [] => 0
  | x :: r => uptoBulkEntry x + uptoBulkEntries r
def uptoBulkEntry {H : Type} : Lit × DataW H → Nat
  | (.string bytes, d) => bytes.length + uptoBulk d + 1
  | (_, d) => uptoBulk d + 1
 end
def uptoSmall : (H : Type) → List (DataW H) → Bool := fun _ ds => decide (uptoBulkAll ds ≤ 1048576)
def OpenSpec.upto (s : _root_.Go.ChangeSpec) : _root_.Go.OpenSpec := { _root_.Go.OpenSpec.ofChange s with cond := some uptoSmall }

/-- 'laws.FnExactNearGroups', WHERE WHAT IT READS IS OF BULK AT MOST 1048576: true; the input reads as it did. -/
def fnExactNearGroupsUptoRow : OpenClaim := { program := "ythkafleokepjeaa", sum := "0f7cfed50da4eacf699c6d21a6acbfc0c196e6974c14eea0a9668c4553cd7385", func := "loop.example/g01110/laws.FnExactNearGroups", spec := "fnExactNearGroups", unfollowed := true, recurses := true, apart := false, narrowed := true }
def FnExactNearGroupsUptoSaid : Prop := fnExactNearGroupsUptoRow.holds Try.pinned (OpenSpec.upto fnExactNearGroupsSpec)

/-- 'laws.FnExactNewAtlas', WHERE WHAT IT READS IS OF BULK AT MOST 1048576: true; the input reads as it did. -/
def fnExactNewAtlasUptoRow : OpenClaim := { program := "ythkafleokepjeaa", sum := "0f7cfed50da4eacf699c6d21a6acbfc0c196e6974c14eea0a9668c4553cd7385", func := "loop.example/g01110/laws.FnExactNewAtlas", spec := "fnExactNewAtlas", unfollowed := true, recurses := true, apart := false, narrowed := true }
def FnExactNewAtlasUptoSaid : Prop := fnExactNewAtlasUptoRow.holds Try.pinned (OpenSpec.upto fnExactNewAtlasSpec)

/-- 'laws.FnExactAtlasTotal', WHERE WHAT IT READS IS OF BULK AT MOST 1048576: true; the input reads as it did. -/
def fnExactAtlasTotalUptoRow : OpenClaim := { program := "ythkafleokepjeaa", sum := "0f7cfed50da4eacf699c6d21a6acbfc0c196e6974c14eea0a9668c4553cd7385", func := "loop.example/g01110/laws.FnExactAtlasTotal", spec := "fnExactAtlasTotal", unfollowed := true, recurses := true, apart := false, narrowed := true }
def FnExactAtlasTotalUptoSaid : Prop := fnExactAtlasTotalUptoRow.holds Try.pinned (OpenSpec.upto fnExactAtlasTotalSpec)

/-- 'laws.FnExactObjectiveOf', WHERE WHAT IT READS IS OF BULK AT MOST 1048576: true; the input reads as it did. -/
def fnExactObjectiveOfUptoRow : OpenClaim := { program := "ythkafleokepjeaa", sum := "0f7cfed50da4eacf699c6d21a6acbfc0c196e6974c14eea0a9668c4553cd7385", func := "loop.example/g01110/laws.FnExactObjectiveOf", spec := "fnExactObjectiveOf", unfollowed := true, recurses := true, apart := false, narrowed := true }
def FnExactObjectiveOfUptoSaid : Prop := fnExactObjectiveOfUptoRow.holds Try.pinned (OpenSpec.upto fnExactObjectiveOfSpec)

/-- 'laws.FnExactNewConsole', WHERE WHAT IT READS IS OF BULK AT MOST 1048576: true; the input reads as it did. -/
def fnExactNewConsoleUptoRow : OpenClaim := { program := "ythkafleokepjeaa", sum := "0f7cfed50da4eacf699c6d21a6acbfc0c196e6974c14eea0a9668c4553cd7385", func := "loop.example/g01110/laws.FnExactNewConsole", spec := "fnExactNewConsole", unfollowed := true, recurses := true, apart := false, narrowed := true }
def FnExactNewConsoleUptoSaid : Prop := fnExactNewConsoleUptoRow.holds Try.pinned (OpenSpec.upto fnExactNewConsoleSpec)

/-- 'laws.FnExactBestHubs', WHERE WHAT IT READS IS OF BULK AT MOST 1048576: true; the input reads as it did. -/
def fnExactBestHubsUptoRow : OpenClaim := { program := "ythkafleokepjeaa", sum := "0f7cfed50da4eacf699c6d21a6acbfc0c196e6974c14eea0a9668c4553cd7385", func := "loop.example/g01110/laws.FnExactBestHubs", spec := "fnExactBestHubs", unfollowed := true, recurses := true, apart := false, narrowed := true }
def FnExactBestHubsUptoSaid : Prop := fnExactBestHubsUptoRow.holds Try.pinned (OpenSpec.upto fnExactBestHubsSpec)

/-- 'laws.FnExactAtlasGap', WHERE WHAT IT READS IS OF BULK AT MOST 1048576: true; the input reads as it did. -/
def fnExactAtlasGapUptoRow : OpenClaim := { program := "ythkafleokepjeaa", sum := "0f7cfed50da4eacf699c6d21a6acbfc0c196e6974c14eea0a9668c4553cd7385", func := "loop.example/g01110/laws.FnExactAtlasGap", spec := "fnExactAtlasGap", unfollowed := true, recurses := true, apart := false, narrowed := true }
def FnExactAtlasGapUptoSaid : Prop := fnExactAtlasGapUptoRow.holds Try.pinned (OpenSpec.upto fnExactAtlasGapSpec)

/-- 'laws.FnHubs', WHERE WHAT IT READS IS OF BULK AT MOST 1048576: true; the input reads as it did. -/
def fnHubsUptoRow : OpenClaim := { program := "ythkafleokepjeaa", sum := "0f7cfed50da4eacf699c6d21a6acbfc0c196e6974c14eea0a9668c4553cd7385", func := "loop.example/g01110/laws.FnHubs", spec := "fnHubs", unfollowed := true, recurses := true, apart := false, narrowed := true }
def FnHubsUptoSaid : Prop := fnHubsUptoRow.holds Try.pinned (OpenSpec.upto fnHubsSpec)

/-- 'laws.FnExactOrderedValue', WHERE WHAT IT READS IS OF BULK AT MOST 1048576: true; the input reads as it did. -/
def fnExactOrderedValueUptoRow : OpenClaim := { program := "ythkafleokepjeaa", sum := "0f7cfed50da4eacf699c6d21a6acbfc0c196e6974c14eea0a9668c4553cd7385", func := "loop.example/g01110/laws.FnExactOrderedValue", spec := "fnExactOrderedValue", unfollowed := true, recurses := true, apart := false, narrowed := true }
def FnExactOrderedValueUptoSaid : Prop := fnExactOrderedValueUptoRow.holds Try.pinned (OpenSpec.upto fnExactOrderedValueSpec)

/-- 'laws.FnExactProvesApart', WHERE WHAT IT READS IS OF BULK AT MOST 1048576: true; the input reads as it did. -/
def fnExactProvesApartUptoRow : OpenClaim := { program := "ythkafleokepjeaa", sum := "0f7cfed50da4eacf699c6d21a6acbfc0c196e6974c14eea0a9668c4553cd7385", func := "loop.example/g01110/laws.FnExactProvesApart", spec := "fnExactProvesApart", unfollowed := true, recurses := true, apart := false, narrowed := true }
def FnExactProvesApartUptoSaid : Prop := fnExactProvesApartUptoRow.holds Try.pinned (OpenSpec.upto fnExactProvesApartSpec)

/-- 'laws.FnExactBestDispersion', WHERE WHAT IT READS IS OF BULK AT MOST 1048576: true; the input reads as it did. -/
def fnExactBestDispersionUptoRow : OpenClaim := { program := "ythkafleokepjeaa", sum := "0f7cfed50da4eacf699c6d21a6acbfc0c196e6974c14eea0a9668c4553cd7385", func := "loop.example/g01110/laws.FnExactBestDispersion", spec := "fnExactBestDispersion", unfollowed := true, recurses := true, apart := false, narrowed := true }
def FnExactBestDispersionUptoSaid : Prop := fnExactBestDispersionUptoRow.holds Try.pinned (OpenSpec.upto fnExactBestDispersionSpec)

/-- 'laws.FnExactFarthestFirst', WHERE WHAT IT READS IS OF BULK AT MOST 1048576: true; the input reads as it did. -/
def fnExactFarthestFirstUptoRow : OpenClaim := { program := "ythkafleokepjeaa", sum := "0f7cfed50da4eacf699c6d21a6acbfc0c196e6974c14eea0a9668c4553cd7385", func := "loop.example/g01110/laws.FnExactFarthestFirst", spec := "fnExactFarthestFirst", unfollowed := true, recurses := true, apart := false, narrowed := true }
def FnExactFarthestFirstUptoSaid : Prop := fnExactFarthestFirstUptoRow.holds Try.pinned (OpenSpec.upto fnExactFarthestFirstSpec)

end Rows
end Go.Proofs.Ythkafleokepjeaa
