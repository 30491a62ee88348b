import Derived.Test.YtccmocbkpanibaaBb
import Derived.Test.YtccmocbkpanibaaPk6
/- the reference's table of least numbers of faults: its parts -/
namespace Go.Proofs.Ytccmocbkpanibaa
open Go.RowKit
end Go.Proofs.Ytccmocbkpanibaa
