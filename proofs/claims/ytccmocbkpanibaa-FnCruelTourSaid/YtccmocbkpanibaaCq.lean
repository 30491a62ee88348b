import Derived.Test.YtccmocbkpanibaaPk4
import Derived.Test.YtccmocbkpanibaaPk3
/- ContentsOf of the reference -/
namespace Go.Proofs.Ytccmocbkpanibaa
open Go.RowKit
end Go.Proofs.Ytccmocbkpanibaa
