/-
  No cell of these rows narrows 'for every input' (looked for: loops, veiled, ifaces, maps, wideKeys, modest, calm, conditions, laid).
  DERIVED. THE GIVEN ROWS OF THIS SEAT. 5 by the template 'for every input the law returns true; each argument reads behind the call as it read before'; 0 by the template 'total and deterministic' (their statements: YtegipldajbkjfaaGreatTotals.lean).
  GIVEN WITH THE SEED: the statements are not yours to turn. If you find one false, say at which input.
  Laid BY PROGRAM, IN A SANDBOX (cutbox-rows.mjs): the forced cells as the released guide's own fill.sh prints them over the translation cc22bc5ccce9d05c… (all of the seat's roots in one cut). By AI agents, Wed Nov 11 2026. No macro, syntax, notation, axiom, sorry.
-/
import Derived.Test.YtegipldajbkjfaaGreatChecked
import GoSem.Claim
import GoSem.ClaimJoined
import GoSem.ClaimMapViews
import Derived.JoinedTies
import Derived.KernelRfl
namespace Go.Proofs.YtegipldajbkjfaaGreat
/- THE CELL 'sum', in the pinned program and in every row, IS THE sha256 OF THE DUMP (.gsa) THAT YtegipldajbkjfaaGreatProg.lean LOADS. Nothing in Lean hashes anything: it is a label: what it is worth is what the hold of that sum in a sandbox is worth. -/
noncomputable def Tryz.pinned : Pinned := { name := "ytegipldajbkjfaagreat", sum := "cc22bc5ccce9d05ce58e79678af41ed19538a9aa27e8264ab6a3fe7b66425894", checked := Tryz.checked }
namespace Rows
def none {H : Type} : Left H := { results := [], args := [] }

/-- 'laws.FnCacheSteps': WHATEVER THE INPUT: true; the input reads as it did. -/
def fnCacheStepsSpec : ChangeSpec := { name := "fnCacheSteps", fn := fun _ => fun
  | [d] => { results := [.lit (.bool true)], args := [d] }
  | _ => none }
def fnCacheStepsRow : OpenClaim := { program := "ytegipldajbkjfaagreat", sum := "cc22bc5ccce9d05ce58e79678af41ed19538a9aa27e8264ab6a3fe7b66425894", func := "loop.example/g01087/laws.FnCacheSteps", spec := "fnCacheSteps", inPlace := ["slices.overlaps[int]"], unfollowed := true, recurses := true, apart := false }
def FnCacheStepsSaid : Prop := fnCacheStepsRow.holds Tryz.pinned (OpenSpec.ofChange fnCacheStepsSpec)

/-- ITS FALSE NEIGHBOUR: 'it returns false'. Refute it at one input. -/
def fnCacheStepsWrong : ChangeSpec := { name := "fnCacheSteps", fn := fun _ => fun
  | [d] => { results := [.lit (.bool false)], args := [d] }
  | _ => none }
def FnCacheStepsWrongFalsely : Prop := fnCacheStepsRow.holds Tryz.pinned (OpenSpec.ofChange fnCacheStepsWrong)

/-- 'laws.FnCacheRuns': WHATEVER THE INPUT: true; the input reads as it did. -/
def fnCacheRunsSpec : ChangeSpec := { name := "fnCacheRuns", fn := fun _ => fun
  | [d] => { results := [.lit (.bool true)], args := [d] }
  | _ => none }
def fnCacheRunsRow : OpenClaim := { program := "ytegipldajbkjfaagreat", sum := "cc22bc5ccce9d05ce58e79678af41ed19538a9aa27e8264ab6a3fe7b66425894", func := "loop.example/g01087/laws.FnCacheRuns", spec := "fnCacheRuns", inPlace := ["slices.overlaps[int]"], unfollowed := true, recurses := true, apart := false }
def FnCacheRunsSaid : Prop := fnCacheRunsRow.holds Tryz.pinned (OpenSpec.ofChange fnCacheRunsSpec)

/-- ITS FALSE NEIGHBOUR: 'it returns false'. Refute it at one input. -/
def fnCacheRunsWrong : ChangeSpec := { name := "fnCacheRuns", fn := fun _ => fun
  | [d] => { results := [.lit (.bool false)], args := [d] }
  | _ => none }
def FnCacheRunsWrongFalsely : Prop := fnCacheRunsRow.holds Tryz.pinned (OpenSpec.ofChange fnCacheRunsWrong)

/-- 'laws.FnInclusion': WHATEVER THE INPUT: true; the input reads as it did. -/
def fnInclusionSpec : ChangeSpec := { name := "fnInclusion", fn := fun _ => fun
  | [d] => { results := [.lit (.bool true)], args := [d] }
  | _ => none }
def fnInclusionRow : OpenClaim := { program := "ytegipldajbkjfaagreat", sum := "cc22bc5ccce9d05ce58e79678af41ed19538a9aa27e8264ab6a3fe7b66425894", func := "loop.example/g01087/laws.FnInclusion", spec := "fnInclusion", inPlace := ["slices.overlaps[int]"], unfollowed := true, recurses := true, apart := false }
def FnInclusionSaid : Prop := fnInclusionRow.holds Tryz.pinned (OpenSpec.ofChange fnInclusionSpec)

/-- ITS FALSE NEIGHBOUR: 'it returns false'. Refute it at one input. -/
def fnInclusionWrong : ChangeSpec := { name := "fnInclusion", fn := fun _ => fun
  | [d] => { results := [.lit (.bool false)], args := [d] }
  | _ => none }
def FnInclusionWrongFalsely : Prop := fnInclusionRow.holds Tryz.pinned (OpenSpec.ofChange fnInclusionWrong)

/-- 'laws.FnExactStepTournament': WHATEVER THE INPUT: true; the input reads as it did. -/
def fnExactStepTournamentSpec : ChangeSpec := { name := "fnExactStepTournament", fn := fun _ => fun
  | [d1, d2] => { results := [.lit (.bool true)], args := [d1, d2] }
  | _ => none }
def fnExactStepTournamentRow : OpenClaim := { program := "ytegipldajbkjfaagreat", sum := "cc22bc5ccce9d05ce58e79678af41ed19538a9aa27e8264ab6a3fe7b66425894", func := "loop.example/g01087/laws.FnExactStepTournament", spec := "fnExactStepTournament", inPlace := ["slices.overlaps[int]"], unfollowed := true, recurses := true, apart := false }
def FnExactStepTournamentSaid : Prop := fnExactStepTournamentRow.holds Tryz.pinned (OpenSpec.ofChange fnExactStepTournamentSpec)

/-- ITS FALSE NEIGHBOUR: 'it returns false'. Refute it at one input. -/
def fnExactStepTournamentWrong : ChangeSpec := { name := "fnExactStepTournament", fn := fun _ => fun
  | [d1, d2] => { results := [.lit (.bool false)], args := [d1, d2] }
  | _ => none }
def FnExactStepTournamentWrongFalsely : Prop := fnExactStepTournamentRow.holds Tryz.pinned (OpenSpec.ofChange fnExactStepTournamentWrong)

/-- 'laws.FnExactPlaySteps': WHATEVER THE INPUT: true; the input reads as it did. -/
def fnExactPlayStepsSpec : ChangeSpec := { name := "fnExactPlaySteps", fn := fun _ => fun
  | [d1, d2] => { results := [.lit (.bool true)], args := [d1, d2] }
  | _ => none }
def fnExactPlayStepsRow : OpenClaim := { program := "ytegipldajbkjfaagreat", sum := "cc22bc5ccce9d05ce58e79678af41ed19538a9aa27e8264ab6a3fe7b66425894", func := "loop.example/g01087/laws.FnExactPlaySteps", spec := "fnExactPlaySteps", inPlace := ["slices.overlaps[int]"], unfollowed := true, recurses := true, apart := false }
def FnExactPlayStepsSaid : Prop := fnExactPlayStepsRow.holds Tryz.pinned (OpenSpec.ofChange fnExactPlayStepsSpec)

/-- ITS FALSE NEIGHBOUR: 'it returns false'. Refute it at one input. -/
def fnExactPlayStepsWrong : ChangeSpec := { name := "fnExactPlaySteps", fn := fun _ => fun
  | [d1, d2] => { results := [.lit (.bool false)], args := [d1, d2] }
  | _ => none }
def FnExactPlayStepsWrongFalsely : Prop := fnExactPlayStepsRow.holds Tryz.pinned (OpenSpec.ofChange fnExactPlayStepsWrong)

/- THE SECOND FORM. 'bulk': how many values and letters a reading holds, each counted each time it is reached (what is shared counts as often as it is met; a slice's spare places count too). A statement '..UptoSaid' is the law's where the arguments, and the package variables that the reading takes, are together of bulk at most 1048576: NARROWER than '..Said'. Prove '..Said' where nothing that the law and all that it calls make is longer than what came in: it says more and counts as full. Else prove '..UptoSaid'. A law counts once. -/
mutual
def uptoBulk {H : Type} : DataW H → Nat
  | .lit (.string bytes) => bytes.length + 1
  | .lit _ => 1
  | .nil => 1
  | .ptr d => uptoBulk d + 1
  | .slice elems spare => uptoBulkAll elems + uptoBulkAll spare + 1
  | .agg parts => uptoBulkAll parts + 1
  | .iface _ d => uptoBulk d + 1
  | .map entries => uptoBulkEntries entries + 1
  | .held _ => 1
def uptoBulkAll {H : Type} : List (DataW H) → Nat
  | [] => 0
  | d :: r => uptoBulk d + uptoBulkAll r
def uptoBulkEntries {H : Type} : List (Lit × DataW H) → Nat
  | [] => 0
  | x :: r => uptoBulkEntry x + uptoBulkEntries r
def uptoBulkEntry {H : Type} : Lit × DataW H → Nat
  | (.string bytes, d) => bytes.length + uptoBulk d + 1
  | (_, d) => uptoBulk d + 1
 end
def uptoSmall : (H : Type) → List (DataW H) → Bool := fun _ ds => decide (uptoBulkAll ds ≤ 1048576)
def OpenSpec.upto (s : _root_.Go.ChangeSpec) : _root_.Go.OpenSpec := { _root_.Go.OpenSpec.ofChange s with cond := some uptoSmall }

/-- 'laws.FnCacheSteps', WHERE WHAT IT READS IS OF BULK AT MOST 1048576: true; the input reads as it did. -/
def fnCacheStepsUptoRow : OpenClaim := { program := "ytegipldajbkjfaagreat", sum := "cc22bc5ccce9d05ce58e79678af41ed19538a9aa27e8264ab6a3fe7b66425894", func := "loop.example/g01087/laws.FnCacheSteps", spec := "fnCacheSteps", inPlace := ["slices.overlaps[int]"], unfollowed := true, recurses := true, apart := false, narrowed := true }
def FnCacheStepsUptoSaid : Prop := fnCacheStepsUptoRow.holds Tryz.pinned (OpenSpec.upto fnCacheStepsSpec)

/-- 'laws.FnCacheRuns', WHERE WHAT IT READS IS OF BULK AT MOST 1048576: true; the input reads as it did. -/
def fnCacheRunsUptoRow : OpenClaim := { program := "ytegipldajbkjfaagreat", sum := "cc22bc5ccce9d05ce58e79678af41ed19538a9aa27e8264ab6a3fe7b66425894", func := "loop.example/g01087/laws.FnCacheRuns", spec := "fnCacheRuns", inPlace := ["slices.overlaps[int]"], unfollowed := true, recurses := true, apart := false, narrowed := true }
def FnCacheRunsUptoSaid : Prop := fnCacheRunsUptoRow.holds Tryz.pinned (OpenSpec.upto fnCacheRunsSpec)

/-- 'laws.FnInclusion', WHERE WHAT IT READS IS OF BULK AT MOST 1048576: true; the input reads as it did. -/
def fnInclusionUptoRow : OpenClaim := { program := "ytegipldajbkjfaagreat", sum := "cc22bc5ccce9d05ce58e79678af41ed19538a9aa27e8264ab6a3fe7b66425894", func := "loop.example/g01087/laws.FnInclusion", spec := "fnInclusion", inPlace := ["slices.overlaps[int]"], unfollowed := true, recurses := true, apart := false, narrowed := true }
def FnInclusionUptoSaid : Prop := fnInclusionUptoRow.holds Tryz.pinned (OpenSpec.upto fnInclusionSpec)

/-- 'laws.FnExactStepTournament', WHERE WHAT IT READS IS OF BULK AT MOST 1048576: true; the input reads as it did. -/
def fnExactStepTournamentUptoRow : OpenClaim := { program := "ytegipldajbkjfaagreat", sum := "cc22bc5ccce9d05ce58e79678af41ed19538a9aa27e8264ab6a3fe7b66425894", func := "loop.example/g01087/laws.FnExactStepTournament", spec := "fnExactStepTournament", inPlace := ["slices.overlaps[int]"], unfollowed := true, recurses := true, apart := false, narrowed := true }
def FnExactStepTournamentUptoSaid : Prop := fnExactStepTournamentUptoRow.holds Tryz.pinned (OpenSpec.upto fnExactStepTournamentSpec)

/-- 'laws.FnExactPlaySteps', WHERE WHAT IT READS IS OF BULK AT MOST 1048576: true; the input reads as it did. -/
def fnExactPlayStepsUptoRow : OpenClaim := { program := "ytegipldajbkjfaagreat", sum := "cc22bc5ccce9d05ce58e79678af41ed19538a9aa27e8264ab6a3fe7b66425894", func := "loop.example/g01087/laws.FnExactPlaySteps", spec := "fnExactPlaySteps", inPlace := ["slices.overlaps[int]"], unfollowed := true, recurses := true, apart := false, narrowed := true }
def FnExactPlayStepsUptoSaid : Prop := fnExactPlayStepsUptoRow.holds Tryz.pinned (OpenSpec.upto fnExactPlayStepsSpec)

end Rows
end Go.Proofs.YtegipldajbkjfaaGreat
