import Derived.Test.YtmdcmfnpfkfocaaMk
import Derived.Test.YtmdcmfnpfkfocaaSo
/- the phases of a list of requests, both sides -/
namespace Go.Proofs.Ytmdcmfnpfkfocaa
open Go.RowKit

