import Derived.Test.YtmdcmfnpfkfocaaSs
/- markIntSS, heldIntSS -/
namespace Go.Proofs.Ytmdcmfnpfkfocaa
open Go.RowKit

