import Derived.Test.YtmnohickmidfkaaGreatDoorTe
import Derived.Test.YtmnohickmidfkaaGreatDoorTi
import Derived.Test.YtmnohickmidfkaaGreatDoorCo
/- the law of IsTournament returns true -/
namespace Go.Proofs.YtmnohickmidfkaaGreatDoor
open Go.RowKit

