import Derived.Test.YtodnkkmjjlfoiaaBb
import Derived.Test.YtodnkkmjjlfoiaaPk5
/- the reference's table of least numbers of faults: its parts -/
namespace Go.Proofs.Ytodnkkmjjlfoiaa
open Go.RowKit
end Go.Proofs.Ytodnkkmjjlfoiaa
