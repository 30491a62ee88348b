/-
  No cell of these rows narrows 'for every input' (looked for: loops, veiled, ifaces, maps, wideKeys, modest, calm, conditions, laid).
  DERIVED. THE GIVEN ROWS OF THIS SEAT. 5 by the template 'for every input the law returns true; each argument reads behind the call as it read before'; 0 by the template 'total and deterministic' (their statements: YtndhijckbponkaaTotals.lean).
  GIVEN WITH THE SEED: the statements are not yours to turn. If you find one false, say at which input.
  Laid BY PROGRAM, IN A SANDBOX (cutbox-rows.mjs): the forced cells as the released guide's own fill.sh prints them over the translation 9aa531c14bb61674… (all of the seat's roots in one cut). By AI agents, Wed Nov 11 2026. No macro, syntax, notation, axiom, sorry.
-/
import Derived.Test.YtndhijckbponkaaChecked
import GoSem.Claim
import GoSem.ClaimJoined
import GoSem.ClaimMapViews
import Derived.JoinedTies
import Derived.KernelRfl
namespace Go.Proofs.Ytndhijckbponkaa
/- THE CELL 'sum', in the pinned program and in every row, IS THE sha256 OF THE DUMP (.gsa) THAT YtndhijckbponkaaProg.lean LOADS. Nothing in Lean hashes anything: it is a label: what it is worth is what the hold of that sum in a sandbox is worth. -/
noncomputable def Try.pinned : Pinned := { name := "ytndhijckbponkaa", sum := "9aa531c14bb61674a87314bcb616970d90be73abc53d14310c0388d2bbc78248", checked := Try.checked }
namespace Rows
def none {H : Type} : Left H := { results := [], args := [] }

/-- 'laws.FnExactBestReply': WHATEVER THE INPUT: true; the input reads as it did. -/
def fnExactBestReplySpec : ChangeSpec := { name := "fnExactBestReply", fn := fun _ => fun
  | [d1, d2, d3, d4] => { results := [.lit (.bool true)], args := [d1, d2, d3, d4] }
  | _ => none }
def fnExactBestReplyRow : OpenClaim := { program := "ytndhijckbponkaa", sum := "9aa531c14bb61674a87314bcb616970d90be73abc53d14310c0388d2bbc78248", func := "loop.example/g01087/laws.FnExactBestReply", spec := "fnExactBestReply", unfollowed := true, recurses := true, apart := false }
def FnExactBestReplySaid : Prop := fnExactBestReplyRow.holds Try.pinned (OpenSpec.ofChange fnExactBestReplySpec)

/-- ITS FALSE NEIGHBOUR: 'it returns false'. Refute it at one input. -/
def fnExactBestReplyWrong : ChangeSpec := { name := "fnExactBestReply", fn := fun _ => fun
  | [d1, d2, d3, d4] => { results := [.lit (.bool false)], args := [d1, d2, d3, d4] }
  | _ => none }
def FnExactBestReplyWrongFalsely : Prop := fnExactBestReplyRow.holds Try.pinned (OpenSpec.ofChange fnExactBestReplyWrong)

/-- 'laws.FnIndependent': WHATEVER THE INPUT: true; the input reads as it did. -/
def fnIndependentSpec : ChangeSpec := { name := "fnIndependent", fn := fun _ => fun
  | [d] => { results := [.lit (.bool true)], args := [d] }
  | _ => none }
def fnIndependentRow : OpenClaim := { program := "ytndhijckbponkaa", sum := "9aa531c14bb61674a87314bcb616970d90be73abc53d14310c0388d2bbc78248", func := "loop.example/g01087/laws.FnIndependent", spec := "fnIndependent", unfollowed := true, recurses := true, apart := false }
def FnIndependentSaid : Prop := fnIndependentRow.holds Try.pinned (OpenSpec.ofChange fnIndependentSpec)

/-- ITS FALSE NEIGHBOUR: 'it returns false'. Refute it at one input. -/
def fnIndependentWrong : ChangeSpec := { name := "fnIndependent", fn := fun _ => fun
  | [d] => { results := [.lit (.bool false)], args := [d] }
  | _ => none }
def FnIndependentWrongFalsely : Prop := fnIndependentRow.holds Try.pinned (OpenSpec.ofChange fnIndependentWrong)

/-- 'laws.FnExactBestExpected': WHATEVER THE INPUT: true; the input reads as it did. -/
def fnExactBestExpectedSpec : ChangeSpec := { name := "fnExactBestExpected", fn := fun _ => fun
  | [d1, d2, d3] => { results := [.lit (.bool true)], args := [d1, d2, d3] }
  | _ => none }
def fnExactBestExpectedRow : OpenClaim := { program := "ytndhijckbponkaa", sum := "9aa531c14bb61674a87314bcb616970d90be73abc53d14310c0388d2bbc78248", func := "loop.example/g01087/laws.FnExactBestExpected", spec := "fnExactBestExpected", unfollowed := true, recurses := true, apart := false }
def FnExactBestExpectedSaid : Prop := fnExactBestExpectedRow.holds Try.pinned (OpenSpec.ofChange fnExactBestExpectedSpec)

/-- ITS FALSE NEIGHBOUR: 'it returns false'. Refute it at one input. -/
def fnExactBestExpectedWrong : ChangeSpec := { name := "fnExactBestExpected", fn := fun _ => fun
  | [d1, d2, d3] => { results := [.lit (.bool false)], args := [d1, d2, d3] }
  | _ => none }
def FnExactBestExpectedWrongFalsely : Prop := fnExactBestExpectedRow.holds Try.pinned (OpenSpec.ofChange fnExactBestExpectedWrong)

/-- 'laws.FnBestReply': WHATEVER THE INPUT: true; the input reads as it did. -/
def fnBestReplySpec : ChangeSpec := { name := "fnBestReply", fn := fun _ => fun
  | [d] => { results := [.lit (.bool true)], args := [d] }
  | _ => none }
def fnBestReplyRow : OpenClaim := { program := "ytndhijckbponkaa", sum := "9aa531c14bb61674a87314bcb616970d90be73abc53d14310c0388d2bbc78248", func := "loop.example/g01087/laws.FnBestReply", spec := "fnBestReply", unfollowed := true, recurses := true, apart := false }
def FnBestReplySaid : Prop := fnBestReplyRow.holds Try.pinned (OpenSpec.ofChange fnBestReplySpec)

/-- ITS FALSE NEIGHBOUR: 'it returns false'. Refute it at one input. -/
def fnBestReplyWrong : ChangeSpec := { name := "fnBestReply", fn := fun _ => fun
  | [d] => { results := [.lit (.bool false)], args := [d] }
  | _ => none }
def FnBestReplyWrongFalsely : Prop := fnBestReplyRow.holds Try.pinned (OpenSpec.ofChange fnBestReplyWrong)

/-- 'laws.FnYao': WHATEVER THE INPUT: true; the input reads as it did. -/
def fnYaoSpec : ChangeSpec := { name := "fnYao", fn := fun _ => fun
  | [d] => { results := [.lit (.bool true)], args := [d] }
  | _ => none }
def fnYaoRow : OpenClaim := { program := "ytndhijckbponkaa", sum := "9aa531c14bb61674a87314bcb616970d90be73abc53d14310c0388d2bbc78248", func := "loop.example/g01087/laws.FnYao", spec := "fnYao", unfollowed := true, recurses := true, apart := false }
def FnYaoSaid : Prop := fnYaoRow.holds Try.pinned (OpenSpec.ofChange fnYaoSpec)

/-- ITS FALSE NEIGHBOUR: 'it returns false'. Refute it at one input. -/
def fnYaoWrong : ChangeSpec := { name := "fnYao", fn := fun _ => fun
  | [d] => { results := [.lit (.bool false)], args := [d] }
  | _ => none }
def FnYaoWrongFalsely : Prop := fnYaoRow.holds Try.pinned (OpenSpec.ofChange fnYaoWrong)

/- THE SECOND FORM. 'bulk': how many values and letters a reading holds, each counted each time it is reached (what is shared counts as often as it is met; a slice's spare places count too). A statement '..UptoSaid' is the law's where the arguments, and the package variables that the reading takes, are together of bulk at most 1048576: NARROWER than '..Said'. Prove '..Said' where nothing that the law and all that it calls make is longer than what came in: it says more and counts as full. Else prove '..UptoSaid'. A law counts once. -/
mutual
def uptoBulk {H : Type} : DataW H → Nat
  | .lit (.string bytes) => bytes.length + 1
  | .lit _ => 1
  | .nil => 1
  | .ptr d => uptoBulk d + 1
  | .slice elems spare => uptoBulkAll elems + uptoBulkAll spare + 1
  | .agg parts => uptoBulkAll parts + 1
  | .iface _ d => uptoBulk d + 1
  | .map entries => uptoBulkEntries entries + 1
  | .held _ => 1
def uptoBulkAll {H : Type} : List (DataW H) → Nat
  | [] => 0
  | d :: r => uptoBulk d + uptoBulkAll r
def uptoBulkEntries {H : Type} : List (Lit × DataW H) → Nat
  | [] => 0
  | x :: r => uptoBulkEntry x + uptoBulkEntries r
def uptoBulkEntry {H : Type} : Lit × DataW H → Nat
  | (.string bytes, d) => bytes.length + uptoBulk d + 1
  | (_, d) => uptoBulk d + 1
 end
def uptoSmall : (H : Type) → List (DataW H) → Bool := fun _ ds => decide (uptoBulkAll ds ≤ 1048576)
def OpenSpec.upto (s : _root_.Go.ChangeSpec) : _root_.Go.OpenSpec := { _root_.Go.OpenSpec.ofChange s with cond := some uptoSmall }

/-- 'laws.FnExactBestReply', WHERE WHAT IT READS IS OF BULK AT MOST 1048576: true; the input reads as it did. -/
def fnExactBestReplyUptoRow : OpenClaim := { program := "ytndhijckbponkaa", sum := "9aa531c14bb61674a87314bcb616970d90be73abc53d14310c0388d2bbc78248", func := "loop.example/g01087/laws.FnExactBestReply", spec := "fnExactBestReply", unfollowed := true, recurses := true, apart := false, narrowed := true }
def FnExactBestReplyUptoSaid : Prop := fnExactBestReplyUptoRow.holds Try.pinned (OpenSpec.upto fnExactBestReplySpec)

/-- 'laws.FnIndependent', WHERE WHAT IT READS IS OF BULK AT MOST 1048576: true; the input reads as it did. -/
def fnIndependentUptoRow : OpenClaim := { program := "ytndhijckbponkaa", sum := "9aa531c14bb61674a87314bcb616970d90be73abc53d14310c0388d2bbc78248", func := "loop.example/g01087/laws.FnIndependent", spec := "fnIndependent", unfollowed := true, recurses := true, apart := false, narrowed := true }
def FnIndependentUptoSaid : Prop := fnIndependentUptoRow.holds Try.pinned (OpenSpec.upto fnIndependentSpec)

/-- 'laws.FnExactBestExpected', WHERE WHAT IT READS IS OF BULK AT MOST 1048576: true; the input reads as it did. -/
def fnExactBestExpectedUptoRow : OpenClaim := { program := "ytndhijckbponkaa", sum := "9aa531c14bb61674a87314bcb616970d90be73abc53d14310c0388d2bbc78248", func := "loop.example/g01087/laws.FnExactBestExpected", spec := "fnExactBestExpected", unfollowed := true, recurses := true, apart := false, narrowed := true }
def FnExactBestExpectedUptoSaid : Prop := fnExactBestExpectedUptoRow.holds Try.pinned (OpenSpec.upto fnExactBestExpectedSpec)

/-- 'laws.FnBestReply', WHERE WHAT IT READS IS OF BULK AT MOST 1048576: true; the input reads as it did. -/
def fnBestReplyUptoRow : OpenClaim := { program := "ytndhijckbponkaa", sum := "9aa531c14bb61674a87314bcb616970d90be73abc53d14310c0388d2bbc78248", func := "loop.example/g01087/laws.FnBestReply", spec := "fnBestReply", unfollowed := true, recurses := true, apart := false, narrowed := true }
def FnBestReplyUptoSaid : Prop := fnBestReplyUptoRow.holds Try.pinned (OpenSpec.upto fnBestReplySpec)

/-- 'laws.FnYao', WHERE WHAT IT READS IS OF BULK AT MOST 1048576: true; the input reads as it did. -/
def fnYaoUptoRow : OpenClaim := { program := "ytndhijckbponkaa", sum := "9aa531c14bb61674a87314bcb616970d90be73abc53d14310c0388d2bbc78248", func := "loop.example/g01087/laws.FnYao", spec := "fnYao", unfollowed := true, recurses := true, apart := false, narrowed := true }
def FnYaoUptoSaid : Prop := fnYaoUptoRow.holds Try.pinned (OpenSpec.upto fnYaoSpec)

end Rows
end Go.Proofs.Ytndhijckbponkaa
