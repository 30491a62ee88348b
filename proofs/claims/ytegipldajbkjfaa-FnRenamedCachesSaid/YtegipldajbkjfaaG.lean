import Derived.Test.YtegipldajbkjfaaF
namespace Go.Proofs.Ytegipldajbkjfaa
open Go.RowKit
end Go.Proofs.Ytegipldajbkjfaa
