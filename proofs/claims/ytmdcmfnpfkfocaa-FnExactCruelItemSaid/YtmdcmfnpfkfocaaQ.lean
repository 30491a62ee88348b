import Derived.Test.YtmdcmfnpfkfocaaO
/- run of the implementation: what its callback does is a premise -/
namespace Go.Proofs.Ytmdcmfnpfkfocaa
open Go.RowKit

