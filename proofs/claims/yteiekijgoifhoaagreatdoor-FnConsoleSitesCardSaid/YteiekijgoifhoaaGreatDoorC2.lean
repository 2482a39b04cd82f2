import Derived.Test.YteiekijgoifhoaaGreatDoorC1
namespace Go.Proofs.YteiekijgoifhoaaGreatDoor
noncomputable section
open Go.Proofs.Tryz
open List (length getD set)
open Int (toNat)
open IntKind (wrap)
def waeo:FD:=waen.1.2
theorem waep:FDok prog (6,waeo):=waen.2
end
end Go.Proofs.YteiekijgoifhoaaGreatDoor
