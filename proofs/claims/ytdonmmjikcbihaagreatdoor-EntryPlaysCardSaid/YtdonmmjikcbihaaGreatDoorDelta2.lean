/- Package delta: sets, and what may become of them. -/
import Derived.Test.YtdonmmjikcbihaaGreatDoorDelta
namespace Go.Proofs.YtdonmmjikcbihaaGreatDoor
open Go.RowKit Go.Proofs Go.Vc
attribute [local irreducible] Calls CallsIn Code.wp Code.wpIn
end Go.Proofs.YtdonmmjikcbihaaGreatDoor
