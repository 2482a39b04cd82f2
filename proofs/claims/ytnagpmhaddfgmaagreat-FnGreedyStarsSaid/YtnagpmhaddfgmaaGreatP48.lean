/-
 Plain laws: edits of atlases as the reference makes them.
-/
import Derived.Test.YtnagpmhaddfgmaaGreatP47
namespace Go.Proofs.YtnagpmhaddfgmaaGreat
structure Atl (o : List Int) (ds : List (List Int)) (s : List Int) (n : Int) : Prop where
 fld : Fld o ds
 set : ris o.length s
 count : 0 ≤ n ∧ n ≤ 1000
end Go.Proofs.YtnagpmhaddfgmaaGreat
