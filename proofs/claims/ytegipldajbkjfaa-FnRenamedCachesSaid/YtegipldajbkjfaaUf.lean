import Derived.Test.YtegipldajbkjfaaUe
/- items drawn; what draws return for inclusion, anomaly, fault places -/
namespace Go.Proofs.Ytegipldajbkjfaa
open Go.RowKit
end Go.Proofs.Ytegipldajbkjfaa
