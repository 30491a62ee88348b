import Derived.Test.YtfdmghohmohmpaaCo
import Derived.Test.YtfdmghohmohmpaaH
/- ContentsOf of the reference -/
namespace Go.Proofs.Ytfdmghohmohmpaa
open Go.RowKit
end Go.Proofs.Ytfdmghohmohmpaa
