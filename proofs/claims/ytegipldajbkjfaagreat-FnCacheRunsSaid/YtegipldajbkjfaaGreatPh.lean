import Derived.Test.YtegipldajbkjfaaGreatMk
import Derived.Test.YtegipldajbkjfaaGreatSo
/- the phases of a list of requests, both sides -/
namespace Go.Proofs.YtegipldajbkjfaaGreat
open Go.RowKit
end Go.Proofs.YtegipldajbkjfaaGreat
