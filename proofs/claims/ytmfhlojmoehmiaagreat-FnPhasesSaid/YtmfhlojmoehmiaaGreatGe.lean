import Derived.Test.YtmfhlojmoehmiaaGreatGd
/- whether a Cache is valid, both sides: the statements that draw their order -/
namespace Go.Proofs.YtmfhlojmoehmiaaGreat
open Go.RowKit
end Go.Proofs.YtmfhlojmoehmiaaGreat
