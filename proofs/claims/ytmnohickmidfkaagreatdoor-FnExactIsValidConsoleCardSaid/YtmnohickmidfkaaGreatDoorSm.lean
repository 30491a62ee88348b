import Derived.Test.YtmnohickmidfkaaGreatDoorSs
/- markIntSS, heldIntSS -/
namespace Go.Proofs.YtmnohickmidfkaaGreatDoor
open Go.RowKit

