import Derived.Test.YtmdcmfnpfkfocaaQ
/- the run of a cache with a closure of three cells -/
namespace Go.Proofs.Ytmdcmfnpfkfocaa
open Go.RowKit

