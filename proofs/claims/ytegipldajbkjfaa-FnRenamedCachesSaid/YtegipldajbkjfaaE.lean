import Derived.Test.YtegipldajbkjfaaD
namespace Go.Proofs.Ytegipldajbkjfaa
open Go.RowKit
end Go.Proofs.Ytegipldajbkjfaa
