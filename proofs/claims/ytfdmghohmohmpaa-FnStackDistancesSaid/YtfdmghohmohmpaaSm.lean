import Derived.Test.YtfdmghohmohmpaaSs
/- markIntSS, heldIntSS -/
namespace Go.Proofs.Ytfdmghohmohmpaa
open Go.RowKit
end Go.Proofs.Ytfdmghohmohmpaa
