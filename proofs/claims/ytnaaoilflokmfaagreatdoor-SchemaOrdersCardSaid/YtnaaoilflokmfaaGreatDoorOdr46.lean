/- Part 46 of the proof that SchemaOrders: the package variables hold what the program lays; nothing else is asked. -/
import Derived.Test.YtnaaoilflokmfaaGreatDoorOdr45
import Derived.Test.YtnaaoilflokmfaaGreatDoorCards
import Derived.Test.YtnaaoilflokmfaaGreatDoorTie
import Derived.WalkKit
import Derived.ProofKit
import Derived.OpenShut
import Derived.Deep.DeepHandedRow
import Derived.Deep.DeepWitnessRowRef
import Derived.SizedLaws
/- SchemaChecks: the contract as the row asks it. -/
namespace Go.Proofs.YtnaaoilflokmfaaGreatDoor
open Go.RowKit Go.Sort Go.Shelf Go.ChangeShapes Go.WideShapes Go.ChangeAt
theorem own : ownKnob Tryz.prog.godebug = none := by kernel_rfl
theorem laidOut : laidOutB Tryz.prog = true := by kernel_rfl
theorem nilSchema : True := trivial
end Go.Proofs.YtnaaoilflokmfaaGreatDoor
