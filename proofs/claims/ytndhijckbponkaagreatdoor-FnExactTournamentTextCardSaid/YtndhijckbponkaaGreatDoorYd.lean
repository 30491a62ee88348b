import Derived.Test.YtndhijckbponkaaGreatDoorYc
/- records: which are valid -/
namespace Go.Proofs.YtndhijckbponkaaGreatDoor
open Go.RowKit

def sv (l : List UInt8) : Value := .string ⟨l.toArray⟩
/-- a record by value -/
def rv (c r : List UInt8) : Value := .agg #[.string ⟨c.toArray⟩, .string ⟨r.toArray⟩]
end Go.Proofs.YtndhijckbponkaaGreatDoor
