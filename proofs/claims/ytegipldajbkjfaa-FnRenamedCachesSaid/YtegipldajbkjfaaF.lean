import Derived.Test.YtegipldajbkjfaaE
namespace Go.Proofs.Ytegipldajbkjfaa
open Go.RowKit
end Go.Proofs.Ytegipldajbkjfaa
