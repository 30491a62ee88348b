/-
  No cell of these rows narrows 'for every input' (looked for: loops, veiled, ifaces, maps, wideKeys, modest, calm, conditions, laid).
  DERIVED. THE GIVEN ROWS OF THIS SEAT. 6 by the template 'for every input the law returns true; each argument reads behind the call as it read before'; 0 by the template 'total and deterministic' (their statements: YtlcolfbpighgcaaTotals.lean).
  GIVEN WITH THE SEED: the statements are not yours to turn. If you find one false, say at which input.
  Laid BY PROGRAM, IN A SANDBOX (cutbox-rows.mjs): the forced cells as the released guide's own fill.sh prints them over the translation eb9b3d9a1e12e82e… (all of the seat's roots in one cut). By AI agents, Wed Nov 11 2026. No macro, syntax, notation, axiom, sorry.
-/
import Derived.Test.YtlcolfbpighgcaaChecked
import GoSem.Claim
import GoSem.ClaimJoined
import GoSem.ClaimMapViews
import Derived.JoinedTies
import Derived.KernelRfl
namespace Go.Proofs.Ytlcolfbpighgcaa
/- THE CELL 'sum', in the pinned program and in every row, IS THE sha256 OF THE DUMP (.gsa) THAT YtlcolfbpighgcaaProg.lean LOADS. Nothing in Lean hashes anything: it is a label: what it is worth is what the hold of that sum in a sandbox is worth. -/
noncomputable def Try.pinned : Pinned := { name := "ytlcolfbpighgcaa", sum := "eb9b3d9a1e12e82ef6a8e203fb4b27683838b62fa82111751322ec6ed6fc1e25", checked := Try.checked }
namespace Rows
def none {H : Type} : Left H := { results := [], args := [] }

/-- 'laws.FnExactBestReply': WHATEVER THE INPUT: true; the input reads as it did. -/
def fnExactBestReplySpec : ChangeSpec := { name := "fnExactBestReply", fn := fun _ => fun
  | [d1, d2, d3, d4] => { results := [.lit (.bool true)], args := [d1, d2, d3, d4] }
  | _ => none }
def fnExactBestReplyRow : OpenClaim := { program := "ytlcolfbpighgcaa", sum := "eb9b3d9a1e12e82ef6a8e203fb4b27683838b62fa82111751322ec6ed6fc1e25", func := "loop.example/g01087/laws.FnExactBestReply", spec := "fnExactBestReply", unfollowed := true, recurses := true, apart := false }
def FnExactBestReplySaid : Prop := fnExactBestReplyRow.holds Try.pinned (OpenSpec.ofChange fnExactBestReplySpec)

/-- ITS FALSE NEIGHBOUR: 'it returns false'. Refute it at one input. -/
def fnExactBestReplyWrong : ChangeSpec := { name := "fnExactBestReply", fn := fun _ => fun
  | [d1, d2, d3, d4] => { results := [.lit (.bool false)], args := [d1, d2, d3, d4] }
  | _ => none }
def FnExactBestReplyWrongFalsely : Prop := fnExactBestReplyRow.holds Try.pinned (OpenSpec.ofChange fnExactBestReplyWrong)

/-- 'laws.FnExactFaultPlaces': WHATEVER THE INPUT: true; the input reads as it did. -/
def fnExactFaultPlacesSpec : ChangeSpec := { name := "fnExactFaultPlaces", fn := fun _ => fun
  | [d1, d2, d3, d4] => { results := [.lit (.bool true)], args := [d1, d2, d3, d4] }
  | _ => none }
def fnExactFaultPlacesRow : OpenClaim := { program := "ytlcolfbpighgcaa", sum := "eb9b3d9a1e12e82ef6a8e203fb4b27683838b62fa82111751322ec6ed6fc1e25", func := "loop.example/g01087/laws.FnExactFaultPlaces", spec := "fnExactFaultPlaces", inPlace := ["slices.overlaps[int]"], unfollowed := true, recurses := true, apart := false }
def FnExactFaultPlacesSaid : Prop := fnExactFaultPlacesRow.holds Try.pinned (OpenSpec.ofChange fnExactFaultPlacesSpec)

/-- ITS FALSE NEIGHBOUR: 'it returns false'. Refute it at one input. -/
def fnExactFaultPlacesWrong : ChangeSpec := { name := "fnExactFaultPlaces", fn := fun _ => fun
  | [d1, d2, d3, d4] => { results := [.lit (.bool false)], args := [d1, d2, d3, d4] }
  | _ => none }
def FnExactFaultPlacesWrongFalsely : Prop := fnExactFaultPlacesRow.holds Try.pinned (OpenSpec.ofChange fnExactFaultPlacesWrong)

/-- 'laws.FnExactAnomalyOf': WHATEVER THE INPUT: true; the input reads as it did. -/
def fnExactAnomalyOfSpec : ChangeSpec := { name := "fnExactAnomalyOf", fn := fun _ => fun
  | [d1, d2, d3] => { results := [.lit (.bool true)], args := [d1, d2, d3] }
  | _ => none }
def fnExactAnomalyOfRow : OpenClaim := { program := "ytlcolfbpighgcaa", sum := "eb9b3d9a1e12e82ef6a8e203fb4b27683838b62fa82111751322ec6ed6fc1e25", func := "loop.example/g01087/laws.FnExactAnomalyOf", spec := "fnExactAnomalyOf", inPlace := ["slices.overlaps[int]"], unfollowed := true, recurses := true, apart := false }
def FnExactAnomalyOfSaid : Prop := fnExactAnomalyOfRow.holds Try.pinned (OpenSpec.ofChange fnExactAnomalyOfSpec)

/-- ITS FALSE NEIGHBOUR: 'it returns false'. Refute it at one input. -/
def fnExactAnomalyOfWrong : ChangeSpec := { name := "fnExactAnomalyOf", fn := fun _ => fun
  | [d1, d2, d3] => { results := [.lit (.bool false)], args := [d1, d2, d3] }
  | _ => none }
def FnExactAnomalyOfWrongFalsely : Prop := fnExactAnomalyOfRow.holds Try.pinned (OpenSpec.ofChange fnExactAnomalyOfWrong)

/-- 'laws.FnExactFaultsBySize': WHATEVER THE INPUT: true; the input reads as it did. -/
def fnExactFaultsBySizeSpec : ChangeSpec := { name := "fnExactFaultsBySize", fn := fun _ => fun
  | [d1, d2, d3] => { results := [.lit (.bool true)], args := [d1, d2, d3] }
  | _ => none }
def fnExactFaultsBySizeRow : OpenClaim := { program := "ytlcolfbpighgcaa", sum := "eb9b3d9a1e12e82ef6a8e203fb4b27683838b62fa82111751322ec6ed6fc1e25", func := "loop.example/g01087/laws.FnExactFaultsBySize", spec := "fnExactFaultsBySize", inPlace := ["slices.overlaps[int]"], unfollowed := true, recurses := true, apart := false }
def FnExactFaultsBySizeSaid : Prop := fnExactFaultsBySizeRow.holds Try.pinned (OpenSpec.ofChange fnExactFaultsBySizeSpec)

/-- ITS FALSE NEIGHBOUR: 'it returns false'. Refute it at one input. -/
def fnExactFaultsBySizeWrong : ChangeSpec := { name := "fnExactFaultsBySize", fn := fun _ => fun
  | [d1, d2, d3] => { results := [.lit (.bool false)], args := [d1, d2, d3] }
  | _ => none }
def FnExactFaultsBySizeWrongFalsely : Prop := fnExactFaultsBySizeRow.holds Try.pinned (OpenSpec.ofChange fnExactFaultsBySizeWrong)

/-- 'laws.FnExactHitShare': WHATEVER THE INPUT: true; the input reads as it did. -/
def fnExactHitShareSpec : ChangeSpec := { name := "fnExactHitShare", fn := fun _ => fun
  | [d1, d2, d3, d4] => { results := [.lit (.bool true)], args := [d1, d2, d3, d4] }
  | _ => none }
def fnExactHitShareRow : OpenClaim := { program := "ytlcolfbpighgcaa", sum := "eb9b3d9a1e12e82ef6a8e203fb4b27683838b62fa82111751322ec6ed6fc1e25", func := "loop.example/g01087/laws.FnExactHitShare", spec := "fnExactHitShare", inPlace := ["slices.overlaps[int]"], unfollowed := true, recurses := true, apart := false }
def FnExactHitShareSaid : Prop := fnExactHitShareRow.holds Try.pinned (OpenSpec.ofChange fnExactHitShareSpec)

/-- ITS FALSE NEIGHBOUR: 'it returns false'. Refute it at one input. -/
def fnExactHitShareWrong : ChangeSpec := { name := "fnExactHitShare", fn := fun _ => fun
  | [d1, d2, d3, d4] => { results := [.lit (.bool false)], args := [d1, d2, d3, d4] }
  | _ => none }
def FnExactHitShareWrongFalsely : Prop := fnExactHitShareRow.holds Try.pinned (OpenSpec.ofChange fnExactHitShareWrong)

/-- 'laws.FnExactBestExpected': WHATEVER THE INPUT: true; the input reads as it did. -/
def fnExactBestExpectedSpec : ChangeSpec := { name := "fnExactBestExpected", fn := fun _ => fun
  | [d1, d2, d3] => { results := [.lit (.bool true)], args := [d1, d2, d3] }
  | _ => none }
def fnExactBestExpectedRow : OpenClaim := { program := "ytlcolfbpighgcaa", sum := "eb9b3d9a1e12e82ef6a8e203fb4b27683838b62fa82111751322ec6ed6fc1e25", func := "loop.example/g01087/laws.FnExactBestExpected", spec := "fnExactBestExpected", unfollowed := true, recurses := true, apart := false }
def FnExactBestExpectedSaid : Prop := fnExactBestExpectedRow.holds Try.pinned (OpenSpec.ofChange fnExactBestExpectedSpec)

/-- ITS FALSE NEIGHBOUR: 'it returns false'. Refute it at one input. -/
def fnExactBestExpectedWrong : ChangeSpec := { name := "fnExactBestExpected", fn := fun _ => fun
  | [d1, d2, d3] => { results := [.lit (.bool false)], args := [d1, d2, d3] }
  | _ => none }
def FnExactBestExpectedWrongFalsely : Prop := fnExactBestExpectedRow.holds Try.pinned (OpenSpec.ofChange fnExactBestExpectedWrong)

/- THE SECOND FORM. 'bulk': how many values and letters a reading holds, each counted each time it is reached (what is shared counts as often as it is met; a slice's spare places count too). A statement '..UptoSaid' is the law's where the arguments, and the package variables that the reading takes, are together of bulk at most 1048576: NARROWER than '..Said'. Prove '..Said' where nothing that the law and all that it calls make is longer than what came in: it says more and counts as full. Else prove '..UptoSaid'. A law counts once. -/
mutual
def uptoBulk {H : Type} : DataW H → Nat
  | .lit (.string bytes) => bytes.length + 1
  | .lit _ => 1
  | .nil => 1
  | .ptr d => uptoBulk d + 1
  | .slice elems spare => uptoBulkAll elems + uptoBulkAll spare + 1
  | .agg parts => uptoBulkAll parts + 1
  | .iface _ d => uptoBulk d + 1
  | .map entries => uptoBulkEntries entries + 1
  | .held _ => 1
def uptoBulkAll {H : Type} : List (DataW H) → Nat
  | [] => 0
  | d :: r => uptoBulk d + uptoBulkAll r
def uptoBulkEntries {H : Type} : List (Lit × DataW H) → Nat
  | [] => 0
  | x :: r => uptoBulkEntry x + uptoBulkEntries r
def uptoBulkEntry {H : Type} : Lit × DataW H → Nat
  | (.string bytes, d) => bytes.length + uptoBulk d + 1
  | (_, d) => uptoBulk d + 1
 end
def uptoSmall : (H : Type) → List (DataW H) → Bool := fun _ ds => decide (uptoBulkAll ds ≤ 1048576)
def OpenSpec.upto (s : _root_.Go.ChangeSpec) : _root_.Go.OpenSpec := { _root_.Go.OpenSpec.ofChange s with cond := some uptoSmall }

/-- 'laws.FnExactBestReply', WHERE WHAT IT READS IS OF BULK AT MOST 1048576: true; the input reads as it did. -/
def fnExactBestReplyUptoRow : OpenClaim := { program := "ytlcolfbpighgcaa", sum := "eb9b3d9a1e12e82ef6a8e203fb4b27683838b62fa82111751322ec6ed6fc1e25", func := "loop.example/g01087/laws.FnExactBestReply", spec := "fnExactBestReply", unfollowed := true, recurses := true, apart := false, narrowed := true }
def FnExactBestReplyUptoSaid : Prop := fnExactBestReplyUptoRow.holds Try.pinned (OpenSpec.upto fnExactBestReplySpec)

/-- 'laws.FnExactFaultPlaces', WHERE WHAT IT READS IS OF BULK AT MOST 1048576: true; the input reads as it did. -/
def fnExactFaultPlacesUptoRow : OpenClaim := { program := "ytlcolfbpighgcaa", sum := "eb9b3d9a1e12e82ef6a8e203fb4b27683838b62fa82111751322ec6ed6fc1e25", func := "loop.example/g01087/laws.FnExactFaultPlaces", spec := "fnExactFaultPlaces", inPlace := ["slices.overlaps[int]"], unfollowed := true, recurses := true, apart := false, narrowed := true }
def FnExactFaultPlacesUptoSaid : Prop := fnExactFaultPlacesUptoRow.holds Try.pinned (OpenSpec.upto fnExactFaultPlacesSpec)

/-- 'laws.FnExactAnomalyOf', WHERE WHAT IT READS IS OF BULK AT MOST 1048576: true; the input reads as it did. -/
def fnExactAnomalyOfUptoRow : OpenClaim := { program := "ytlcolfbpighgcaa", sum := "eb9b3d9a1e12e82ef6a8e203fb4b27683838b62fa82111751322ec6ed6fc1e25", func := "loop.example/g01087/laws.FnExactAnomalyOf", spec := "fnExactAnomalyOf", inPlace := ["slices.overlaps[int]"], unfollowed := true, recurses := true, apart := false, narrowed := true }
def FnExactAnomalyOfUptoSaid : Prop := fnExactAnomalyOfUptoRow.holds Try.pinned (OpenSpec.upto fnExactAnomalyOfSpec)

/-- 'laws.FnExactFaultsBySize', WHERE WHAT IT READS IS OF BULK AT MOST 1048576: true; the input reads as it did. -/
def fnExactFaultsBySizeUptoRow : OpenClaim := { program := "ytlcolfbpighgcaa", sum := "eb9b3d9a1e12e82ef6a8e203fb4b27683838b62fa82111751322ec6ed6fc1e25", func := "loop.example/g01087/laws.FnExactFaultsBySize", spec := "fnExactFaultsBySize", inPlace := ["slices.overlaps[int]"], unfollowed := true, recurses := true, apart := false, narrowed := true }
def FnExactFaultsBySizeUptoSaid : Prop := fnExactFaultsBySizeUptoRow.holds Try.pinned (OpenSpec.upto fnExactFaultsBySizeSpec)

/-- 'laws.FnExactHitShare', WHERE WHAT IT READS IS OF BULK AT MOST 1048576: true; the input reads as it did. -/
def fnExactHitShareUptoRow : OpenClaim := { program := "ytlcolfbpighgcaa", sum := "eb9b3d9a1e12e82ef6a8e203fb4b27683838b62fa82111751322ec6ed6fc1e25", func := "loop.example/g01087/laws.FnExactHitShare", spec := "fnExactHitShare", inPlace := ["slices.overlaps[int]"], unfollowed := true, recurses := true, apart := false, narrowed := true }
def FnExactHitShareUptoSaid : Prop := fnExactHitShareUptoRow.holds Try.pinned (OpenSpec.upto fnExactHitShareSpec)

/-- 'laws.FnExactBestExpected', WHERE WHAT IT READS IS OF BULK AT MOST 1048576: true; the input reads as it did. -/
def fnExactBestExpectedUptoRow : OpenClaim := { program := "ytlcolfbpighgcaa", sum := "eb9b3d9a1e12e82ef6a8e203fb4b27683838b62fa82111751322ec6ed6fc1e25", func := "loop.example/g01087/laws.FnExactBestExpected", spec := "fnExactBestExpected", unfollowed := true, recurses := true, apart := false, narrowed := true }
def FnExactBestExpectedUptoSaid : Prop := fnExactBestExpectedUptoRow.holds Try.pinned (OpenSpec.upto fnExactBestExpectedSpec)

end Rows
end Go.Proofs.Ytlcolfbpighgcaa
