import Derived.Test.YtodnkkmjjlfoiaaGreatPk4
import Derived.Test.YtodnkkmjjlfoiaaGreatPk3
/- ContentsOf of the reference -/
namespace Go.Proofs.YtodnkkmjjlfoiaaGreat
open Go.RowKit
end Go.Proofs.YtodnkkmjjlfoiaaGreat
