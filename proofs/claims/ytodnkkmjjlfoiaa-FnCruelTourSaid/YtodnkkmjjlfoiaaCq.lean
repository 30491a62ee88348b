import Derived.Test.YtodnkkmjjlfoiaaPk4
import Derived.Test.YtodnkkmjjlfoiaaPk3
/- ContentsOf of the reference -/
namespace Go.Proofs.Ytodnkkmjjlfoiaa
open Go.RowKit
end Go.Proofs.Ytodnkkmjjlfoiaa
