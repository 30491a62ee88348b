import Derived.Test.YtmnohickmidfkaaGreatDoorO
/- run of the implementation: what its callback does is a premise -/
namespace Go.Proofs.YtmnohickmidfkaaGreatDoor
open Go.RowKit

