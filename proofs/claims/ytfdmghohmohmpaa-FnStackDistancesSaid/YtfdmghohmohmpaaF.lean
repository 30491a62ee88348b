import Derived.Test.YtfdmghohmohmpaaE
namespace Go.Proofs.Ytfdmghohmohmpaa
open Go.RowKit
end Go.Proofs.Ytfdmghohmohmpaa
