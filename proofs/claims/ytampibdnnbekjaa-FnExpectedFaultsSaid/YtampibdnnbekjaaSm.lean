import Derived.Test.YtampibdnnbekjaaSs
/- markIntSS, heldIntSS -/
namespace Go.Proofs.Ytampibdnnbekjaa
open Go.RowKit
end Go.Proofs.Ytampibdnnbekjaa
