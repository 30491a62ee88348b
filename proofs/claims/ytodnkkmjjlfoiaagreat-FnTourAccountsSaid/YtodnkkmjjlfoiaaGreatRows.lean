/-
  No cell of these rows narrows 'for every input' (looked for: loops, veiled, ifaces, maps, wideKeys, modest, calm, conditions, laid).
  DERIVED. THE GIVEN ROWS OF THIS SEAT. 3 by the template 'for every input the law returns true; each argument reads behind the call as it read before'; 0 by the template 'total and deterministic' (their statements: YtodnkkmjjlfoiaaGreatTotals.lean).
  GIVEN WITH THE SEED: the statements are not yours to turn. If you find one false, say at which input.
  Laid BY PROGRAM, IN A SANDBOX (cutbox-rows.mjs): the forced cells as the released guide's own fill.sh prints them over the translation 5388a98ea4718348… (all of the seat's roots in one cut). By AI agents, Wed Nov 11 2026. No macro, syntax, notation, axiom, sorry.
-/
import Derived.Test.YtodnkkmjjlfoiaaGreatChecked
import GoSem.Claim
import GoSem.ClaimJoined
import GoSem.ClaimMapViews
import Derived.JoinedTies
import Derived.KernelRfl
namespace Go.Proofs.YtodnkkmjjlfoiaaGreat
/- THE CELL 'sum', in the pinned program and in every row, IS THE sha256 OF THE DUMP (.gsa) THAT YtodnkkmjjlfoiaaGreatProg.lean LOADS. Nothing in Lean hashes anything: it is a label: what it is worth is what the hold of that sum in a sandbox is worth. -/
noncomputable def Tryz.pinned : Pinned := { name := "ytodnkkmjjlfoiaagreat", sum := "5388a98ea471834860048108934ef912e26d4c5b21a86e2743ff52ed643d09cc", checked := Tryz.checked }
namespace Rows
def none {H : Type} : Left H := { results := [], args := [] }

/-- 'laws.FnExactPlaySteps': WHATEVER THE INPUT: true; the input reads as it did. -/
def fnExactPlayStepsSpec : ChangeSpec := { name := "fnExactPlaySteps", fn := fun _ => fun
  | [d1, d2] => { results := [.lit (.bool true)], args := [d1, d2] }
  | _ => none }
def fnExactPlayStepsRow : OpenClaim := { program := "ytodnkkmjjlfoiaagreat", sum := "5388a98ea471834860048108934ef912e26d4c5b21a86e2743ff52ed643d09cc", func := "loop.example/g01087/laws.FnExactPlaySteps", spec := "fnExactPlaySteps", inPlace := ["slices.overlaps[int]"], unfollowed := true, recurses := true, apart := false }
def FnExactPlayStepsSaid : Prop := fnExactPlayStepsRow.holds Tryz.pinned (OpenSpec.ofChange fnExactPlayStepsSpec)

/-- ITS FALSE NEIGHBOUR: 'it returns false'. Refute it at one input. -/
def fnExactPlayStepsWrong : ChangeSpec := { name := "fnExactPlaySteps", fn := fun _ => fun
  | [d1, d2] => { results := [.lit (.bool false)], args := [d1, d2] }
  | _ => none }
def FnExactPlayStepsWrongFalsely : Prop := fnExactPlayStepsRow.holds Tryz.pinned (OpenSpec.ofChange fnExactPlayStepsWrong)

/-- 'laws.FnTourSteps': WHATEVER THE INPUT: true; the input reads as it did. -/
def fnTourStepsSpec : ChangeSpec := { name := "fnTourSteps", fn := fun _ => fun
  | [d] => { results := [.lit (.bool true)], args := [d] }
  | _ => none }
def fnTourStepsRow : OpenClaim := { program := "ytodnkkmjjlfoiaagreat", sum := "5388a98ea471834860048108934ef912e26d4c5b21a86e2743ff52ed643d09cc", func := "loop.example/g01087/laws.FnTourSteps", spec := "fnTourSteps", inPlace := ["slices.overlaps[int]"], unfollowed := true, recurses := true, apart := false }
def FnTourStepsSaid : Prop := fnTourStepsRow.holds Tryz.pinned (OpenSpec.ofChange fnTourStepsSpec)

/-- ITS FALSE NEIGHBOUR: 'it returns false'. Refute it at one input. -/
def fnTourStepsWrong : ChangeSpec := { name := "fnTourSteps", fn := fun _ => fun
  | [d] => { results := [.lit (.bool false)], args := [d] }
  | _ => none }
def FnTourStepsWrongFalsely : Prop := fnTourStepsRow.holds Tryz.pinned (OpenSpec.ofChange fnTourStepsWrong)

/-- 'laws.FnTourAccounts': WHATEVER THE INPUT: true; the input reads as it did. -/
def fnTourAccountsSpec : ChangeSpec := { name := "fnTourAccounts", fn := fun _ => fun
  | [d] => { results := [.lit (.bool true)], args := [d] }
  | _ => none }
def fnTourAccountsRow : OpenClaim := { program := "ytodnkkmjjlfoiaagreat", sum := "5388a98ea471834860048108934ef912e26d4c5b21a86e2743ff52ed643d09cc", func := "loop.example/g01087/laws.FnTourAccounts", spec := "fnTourAccounts", inPlace := ["slices.overlaps[int]"], unfollowed := true, recurses := true, apart := false }
def FnTourAccountsSaid : Prop := fnTourAccountsRow.holds Tryz.pinned (OpenSpec.ofChange fnTourAccountsSpec)

/-- ITS FALSE NEIGHBOUR: 'it returns false'. Refute it at one input. -/
def fnTourAccountsWrong : ChangeSpec := { name := "fnTourAccounts", fn := fun _ => fun
  | [d] => { results := [.lit (.bool false)], args := [d] }
  | _ => none }
def FnTourAccountsWrongFalsely : Prop := fnTourAccountsRow.holds Tryz.pinned (OpenSpec.ofChange fnTourAccountsWrong)

/- THE SECOND FORM. 'bulk': how many values and letters a reading holds, each counted each time it is reached (what is shared counts as often as it is met; a slice's spare places count too). A statement '..UptoSaid' is the law's where the arguments, and the package variables that the reading takes, are together of bulk at most 1048576: NARROWER than '..Said'. Prove '..Said' where nothing that the law and all that it calls make is longer than what came in: it says more and counts as full. Else prove '..UptoSaid'. A law counts once. -/
mutual
def uptoBulk {H : Type} : DataW H → Nat
  | .lit (.string bytes) => bytes.length + 1
  | .lit _ => 1
  | .nil => 1
  | .ptr d => uptoBulk d + 1
  | .slice elems spare => uptoBulkAll elems + uptoBulkAll spare + 1
  | .agg parts => uptoBulkAll parts + 1
  | .iface _ d => uptoBulk d + 1
  | .map entries => uptoBulkEntries entries + 1
  | .held _ => 1
def uptoBulkAll {H : Type} : List (DataW H) → Nat
  | [] => 0
  | d :: r => uptoBulk d + uptoBulkAll r
def uptoBulkEntries {H : Type} : List (Lit × DataW H) → Nat
  | [] => 0
  | x :: r => uptoBulkEntry x + uptoBulkEntries r
def uptoBulkEntry {H : Type} : Lit × DataW H → Nat
  | (.string bytes, d) => bytes.length + uptoBulk d + 1
  | (_, d) => uptoBulk d + 1
 end
def uptoSmall : (H : Type) → List (DataW H) → Bool := fun _ ds => decide (uptoBulkAll ds ≤ 1048576)
def OpenSpec.upto (s : _root_.Go.ChangeSpec) : _root_.Go.OpenSpec := { _root_.Go.OpenSpec.ofChange s with cond := some uptoSmall }

/-- 'laws.FnExactPlaySteps', WHERE WHAT IT READS IS OF BULK AT MOST 1048576: true; the input reads as it did. -/
def fnExactPlayStepsUptoRow : OpenClaim := { program := "ytodnkkmjjlfoiaagreat", sum := "5388a98ea471834860048108934ef912e26d4c5b21a86e2743ff52ed643d09cc", func := "loop.example/g01087/laws.FnExactPlaySteps", spec := "fnExactPlaySteps", inPlace := ["slices.overlaps[int]"], unfollowed := true, recurses := true, apart := false, narrowed := true }
def FnExactPlayStepsUptoSaid : Prop := fnExactPlayStepsUptoRow.holds Tryz.pinned (OpenSpec.upto fnExactPlayStepsSpec)

/-- 'laws.FnTourSteps', WHERE WHAT IT READS IS OF BULK AT MOST 1048576: true; the input reads as it did. -/
def fnTourStepsUptoRow : OpenClaim := { program := "ytodnkkmjjlfoiaagreat", sum := "5388a98ea471834860048108934ef912e26d4c5b21a86e2743ff52ed643d09cc", func := "loop.example/g01087/laws.FnTourSteps", spec := "fnTourSteps", inPlace := ["slices.overlaps[int]"], unfollowed := true, recurses := true, apart := false, narrowed := true }
def FnTourStepsUptoSaid : Prop := fnTourStepsUptoRow.holds Tryz.pinned (OpenSpec.upto fnTourStepsSpec)

/-- 'laws.FnTourAccounts', WHERE WHAT IT READS IS OF BULK AT MOST 1048576: true; the input reads as it did. -/
def fnTourAccountsUptoRow : OpenClaim := { program := "ytodnkkmjjlfoiaagreat", sum := "5388a98ea471834860048108934ef912e26d4c5b21a86e2743ff52ed643d09cc", func := "loop.example/g01087/laws.FnTourAccounts", spec := "fnTourAccounts", inPlace := ["slices.overlaps[int]"], unfollowed := true, recurses := true, apart := false, narrowed := true }
def FnTourAccountsUptoSaid : Prop := fnTourAccountsUptoRow.holds Tryz.pinned (OpenSpec.upto fnTourAccountsSpec)

end Rows
end Go.Proofs.YtodnkkmjjlfoiaaGreat
