import Derived.Test.YtegipldajbkjfaaCo
import Derived.Test.YtegipldajbkjfaaH
/- ContentsOf of the reference -/
namespace Go.Proofs.Ytegipldajbkjfaa
open Go.RowKit
end Go.Proofs.Ytegipldajbkjfaa
