import Derived.Test.YtfdmghohmohmpaaD
namespace Go.Proofs.Ytfdmghohmohmpaa
open Go.RowKit
end Go.Proofs.Ytfdmghohmohmpaa
