import Derived.Test.YtmfhlojmoehmiaaGreatTe
import Derived.Test.YtmfhlojmoehmiaaGreatTi
import Derived.Test.YtmfhlojmoehmiaaGreatCo
/- the law of IsTournament returns true -/
namespace Go.Proofs.YtmfhlojmoehmiaaGreat
open Go.RowKit
end Go.Proofs.YtmfhlojmoehmiaaGreat
