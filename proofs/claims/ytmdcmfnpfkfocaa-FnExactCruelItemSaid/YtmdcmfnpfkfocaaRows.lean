/-
  No cell of these rows narrows 'for every input' (looked for: loops, veiled, ifaces, maps, wideKeys, modest, calm, conditions, laid).
  DERIVED. THE GIVEN ROWS OF THIS SEAT. 6 by the template 'for every input the law returns true; each argument reads behind the call as it read before'; 0 by the template 'total and deterministic' (their statements: YtmdcmfnpfkfocaaTotals.lean).
  GIVEN WITH THE SEED: the statements are not yours to turn. If you find one false, say at which input.
  Laid BY PROGRAM, IN A SANDBOX (cutbox-rows.mjs): the forced cells as the released guide's own fill.sh prints them over the translation b04872468b3b4f46… (all of the seat's roots in one cut). By AI agents, Wed Nov 11 2026. No macro, syntax, notation, axiom, sorry.
-/
import Derived.Test.YtmdcmfnpfkfocaaChecked
import GoSem.Claim
import GoSem.ClaimJoined
import GoSem.ClaimMapViews
import Derived.JoinedTies
import Derived.KernelRfl
namespace Go.Proofs.Ytmdcmfnpfkfocaa
/- THE CELL 'sum', in the pinned program and in every row, IS THE sha256 OF THE DUMP (.gsa) THAT YtmdcmfnpfkfocaaProg.lean LOADS. Nothing in Lean hashes anything: it is a label: what it is worth is what the hold of that sum in a sandbox is worth. -/
noncomputable def Try.pinned : Pinned := { name := "ytmdcmfnpfkfocaa", sum := "b04872468b3b4f46a1a52e16ab7f029dc5de4e3bf6e92de1a01cf6126b15ed14", checked := Try.checked }
namespace Rows
def none {H : Type} : Left H := { results := [], args := [] }

/-- 'laws.FnExactVictimsOf': WHATEVER THE INPUT: true; the input reads as it did. -/
def fnExactVictimsOfSpec : ChangeSpec := { name := "fnExactVictimsOf", fn := fun _ => fun
  | [d1, d2, d3] => { results := [.lit (.bool true)], args := [d1, d2, d3] }
  | _ => none }
def fnExactVictimsOfRow : OpenClaim := { program := "ytmdcmfnpfkfocaa", sum := "b04872468b3b4f46a1a52e16ab7f029dc5de4e3bf6e92de1a01cf6126b15ed14", func := "loop.example/g01087/laws.FnExactVictimsOf", spec := "fnExactVictimsOf", inPlace := ["slices.overlaps[int]"], unfollowed := true, recurses := true, apart := false }
def FnExactVictimsOfSaid : Prop := fnExactVictimsOfRow.holds Try.pinned (OpenSpec.ofChange fnExactVictimsOfSpec)

/-- ITS FALSE NEIGHBOUR: 'it returns false'. Refute it at one input. -/
def fnExactVictimsOfWrong : ChangeSpec := { name := "fnExactVictimsOf", fn := fun _ => fun
  | [d1, d2, d3] => { results := [.lit (.bool false)], args := [d1, d2, d3] }
  | _ => none }
def FnExactVictimsOfWrongFalsely : Prop := fnExactVictimsOfRow.holds Try.pinned (OpenSpec.ofChange fnExactVictimsOfWrong)

/-- 'laws.FnExactStepCache': WHATEVER THE INPUT: true; the input reads as it did. -/
def fnExactStepCacheSpec : ChangeSpec := { name := "fnExactStepCache", fn := fun _ => fun
  | [d1, d2, d3] => { results := [.lit (.bool true)], args := [d1, d2, d3] }
  | _ => none }
def fnExactStepCacheRow : OpenClaim := { program := "ytmdcmfnpfkfocaa", sum := "b04872468b3b4f46a1a52e16ab7f029dc5de4e3bf6e92de1a01cf6126b15ed14", func := "loop.example/g01087/laws.FnExactStepCache", spec := "fnExactStepCache", inPlace := ["slices.overlaps[int]"], unfollowed := true, recurses := true, apart := false }
def FnExactStepCacheSaid : Prop := fnExactStepCacheRow.holds Try.pinned (OpenSpec.ofChange fnExactStepCacheSpec)

/-- ITS FALSE NEIGHBOUR: 'it returns false'. Refute it at one input. -/
def fnExactStepCacheWrong : ChangeSpec := { name := "fnExactStepCache", fn := fun _ => fun
  | [d1, d2, d3] => { results := [.lit (.bool false)], args := [d1, d2, d3] }
  | _ => none }
def FnExactStepCacheWrongFalsely : Prop := fnExactStepCacheRow.holds Try.pinned (OpenSpec.ofChange fnExactStepCacheWrong)

/-- 'laws.FnExactRunCache': WHATEVER THE INPUT: true; the input reads as it did. -/
def fnExactRunCacheSpec : ChangeSpec := { name := "fnExactRunCache", fn := fun _ => fun
  | [d1, d2, d3] => { results := [.lit (.bool true)], args := [d1, d2, d3] }
  | _ => none }
def fnExactRunCacheRow : OpenClaim := { program := "ytmdcmfnpfkfocaa", sum := "b04872468b3b4f46a1a52e16ab7f029dc5de4e3bf6e92de1a01cf6126b15ed14", func := "loop.example/g01087/laws.FnExactRunCache", spec := "fnExactRunCache", inPlace := ["slices.overlaps[int]"], unfollowed := true, recurses := true, apart := false }
def FnExactRunCacheSaid : Prop := fnExactRunCacheRow.holds Try.pinned (OpenSpec.ofChange fnExactRunCacheSpec)

/-- ITS FALSE NEIGHBOUR: 'it returns false'. Refute it at one input. -/
def fnExactRunCacheWrong : ChangeSpec := { name := "fnExactRunCache", fn := fun _ => fun
  | [d1, d2, d3] => { results := [.lit (.bool false)], args := [d1, d2, d3] }
  | _ => none }
def FnExactRunCacheWrongFalsely : Prop := fnExactRunCacheRow.holds Try.pinned (OpenSpec.ofChange fnExactRunCacheWrong)

/-- 'laws.FnExactIsTournament': WHATEVER THE INPUT: true; the input reads as it did. -/
def fnExactIsTournamentSpec : ChangeSpec := { name := "fnExactIsTournament", fn := fun _ => fun
  | [d] => { results := [.lit (.bool true)], args := [d] }
  | _ => none }
def fnExactIsTournamentRow : OpenClaim := { program := "ytmdcmfnpfkfocaa", sum := "b04872468b3b4f46a1a52e16ab7f029dc5de4e3bf6e92de1a01cf6126b15ed14", func := "loop.example/g01087/laws.FnExactIsTournament", spec := "fnExactIsTournament", inPlace := ["slices.overlaps[int]"], unfollowed := true, recurses := true, apart := false }
def FnExactIsTournamentSaid : Prop := fnExactIsTournamentRow.holds Try.pinned (OpenSpec.ofChange fnExactIsTournamentSpec)

/-- ITS FALSE NEIGHBOUR: 'it returns false'. Refute it at one input. -/
def fnExactIsTournamentWrong : ChangeSpec := { name := "fnExactIsTournament", fn := fun _ => fun
  | [d] => { results := [.lit (.bool false)], args := [d] }
  | _ => none }
def FnExactIsTournamentWrongFalsely : Prop := fnExactIsTournamentRow.holds Try.pinned (OpenSpec.ofChange fnExactIsTournamentWrong)

/-- 'laws.FnExactBestPlayer': WHATEVER THE INPUT: true; the input reads as it did. -/
def fnExactBestPlayerSpec : ChangeSpec := { name := "fnExactBestPlayer", fn := fun _ => fun
  | [d] => { results := [.lit (.bool true)], args := [d] }
  | _ => none }
def fnExactBestPlayerRow : OpenClaim := { program := "ytmdcmfnpfkfocaa", sum := "b04872468b3b4f46a1a52e16ab7f029dc5de4e3bf6e92de1a01cf6126b15ed14", func := "loop.example/g01087/laws.FnExactBestPlayer", spec := "fnExactBestPlayer", inPlace := ["slices.overlaps[int]"], unfollowed := true, recurses := true, apart := false }
def FnExactBestPlayerSaid : Prop := fnExactBestPlayerRow.holds Try.pinned (OpenSpec.ofChange fnExactBestPlayerSpec)

/-- ITS FALSE NEIGHBOUR: 'it returns false'. Refute it at one input. -/
def fnExactBestPlayerWrong : ChangeSpec := { name := "fnExactBestPlayer", fn := fun _ => fun
  | [d] => { results := [.lit (.bool false)], args := [d] }
  | _ => none }
def FnExactBestPlayerWrongFalsely : Prop := fnExactBestPlayerRow.holds Try.pinned (OpenSpec.ofChange fnExactBestPlayerWrong)

/-- 'laws.FnExactCruelItem': WHATEVER THE INPUT: true; the input reads as it did. -/
def fnExactCruelItemSpec : ChangeSpec := { name := "fnExactCruelItem", fn := fun _ => fun
  | [d1, d2] => { results := [.lit (.bool true)], args := [d1, d2] }
  | _ => none }
def fnExactCruelItemRow : OpenClaim := { program := "ytmdcmfnpfkfocaa", sum := "b04872468b3b4f46a1a52e16ab7f029dc5de4e3bf6e92de1a01cf6126b15ed14", func := "loop.example/g01087/laws.FnExactCruelItem", spec := "fnExactCruelItem", inPlace := ["slices.overlaps[int]"], unfollowed := true, recurses := true, apart := false }
def FnExactCruelItemSaid : Prop := fnExactCruelItemRow.holds Try.pinned (OpenSpec.ofChange fnExactCruelItemSpec)

/-- ITS FALSE NEIGHBOUR: 'it returns false'. Refute it at one input. -/
def fnExactCruelItemWrong : ChangeSpec := { name := "fnExactCruelItem", fn := fun _ => fun
  | [d1, d2] => { results := [.lit (.bool false)], args := [d1, d2] }
  | _ => none }
def FnExactCruelItemWrongFalsely : Prop := fnExactCruelItemRow.holds Try.pinned (OpenSpec.ofChange fnExactCruelItemWrong)

/- THE SECOND FORM. 'bulk': how many values and letters a reading holds, each counted each time it is reached (what is shared counts as often as it is met; a slice's spare places count too). A statement '..UptoSaid' is the law's where the arguments, and the package variables that the reading takes, are together of bulk at most 1048576: NARROWER than '..Said'. Prove '..Said' where nothing that the law and all that it calls make is longer than what came in: it says more and counts as full. Else prove '..UptoSaid'. A law counts once. -/
mutual
def uptoBulk {H : Type} : DataW H → Nat
  | .lit (.string bytes) => bytes.length + 1
  | .lit _ => 1
  | .nil => 1
  | .ptr d => uptoBulk d + 1
  | .slice elems spare => uptoBulkAll elems + uptoBulkAll spare + 1
  | .agg parts => uptoBulkAll parts + 1
  | .iface _ d => uptoBulk d + 1
  | .map entries => uptoBulkEntries entries + 1
  | .held _ => 1
def uptoBulkAll {H : Type} : List (DataW H) → Nat
  | [] => 0
  | d :: r => uptoBulk d + uptoBulkAll r
def uptoBulkEntries {H : Type} : List (Lit × DataW H) → Nat
  | [] => 0
  | x :: r => uptoBulkEntry x + uptoBulkEntries r
def uptoBulkEntry {H : Type} : Lit × DataW H → Nat
  | (.string bytes, d) => bytes.length + uptoBulk d + 1
  | (_, d) => uptoBulk d + 1
 end
def uptoSmall : (H : Type) → List (DataW H) → Bool := fun _ ds => decide (uptoBulkAll ds ≤ 1048576)
def OpenSpec.upto (s : _root_.Go.ChangeSpec) : _root_.Go.OpenSpec := { _root_.Go.OpenSpec.ofChange s with cond := some uptoSmall }

/-- 'laws.FnExactVictimsOf', WHERE WHAT IT READS IS OF BULK AT MOST 1048576: true; the input reads as it did. -/
def fnExactVictimsOfUptoRow : OpenClaim := { program := "ytmdcmfnpfkfocaa", sum := "b04872468b3b4f46a1a52e16ab7f029dc5de4e3bf6e92de1a01cf6126b15ed14", func := "loop.example/g01087/laws.FnExactVictimsOf", spec := "fnExactVictimsOf", inPlace := ["slices.overlaps[int]"], unfollowed := true, recurses := true, apart := false, narrowed := true }
def FnExactVictimsOfUptoSaid : Prop := fnExactVictimsOfUptoRow.holds Try.pinned (OpenSpec.upto fnExactVictimsOfSpec)

/-- 'laws.FnExactStepCache', WHERE WHAT IT READS IS OF BULK AT MOST 1048576: true; the input reads as it did. -/
def fnExactStepCacheUptoRow : OpenClaim := { program := "ytmdcmfnpfkfocaa", sum := "b04872468b3b4f46a1a52e16ab7f029dc5de4e3bf6e92de1a01cf6126b15ed14", func := "loop.example/g01087/laws.FnExactStepCache", spec := "fnExactStepCache", inPlace := ["slices.overlaps[int]"], unfollowed := true, recurses := true, apart := false, narrowed := true }
def FnExactStepCacheUptoSaid : Prop := fnExactStepCacheUptoRow.holds Try.pinned (OpenSpec.upto fnExactStepCacheSpec)

/-- 'laws.FnExactRunCache', WHERE WHAT IT READS IS OF BULK AT MOST 1048576: true; the input reads as it did. -/
def fnExactRunCacheUptoRow : OpenClaim := { program := "ytmdcmfnpfkfocaa", sum := "b04872468b3b4f46a1a52e16ab7f029dc5de4e3bf6e92de1a01cf6126b15ed14", func := "loop.example/g01087/laws.FnExactRunCache", spec := "fnExactRunCache", inPlace := ["slices.overlaps[int]"], unfollowed := true, recurses := true, apart := false, narrowed := true }
def FnExactRunCacheUptoSaid : Prop := fnExactRunCacheUptoRow.holds Try.pinned (OpenSpec.upto fnExactRunCacheSpec)

/-- 'laws.FnExactIsTournament', WHERE WHAT IT READS IS OF BULK AT MOST 1048576: true; the input reads as it did. -/
def fnExactIsTournamentUptoRow : OpenClaim := { program := "ytmdcmfnpfkfocaa", sum := "b04872468b3b4f46a1a52e16ab7f029dc5de4e3bf6e92de1a01cf6126b15ed14", func := "loop.example/g01087/laws.FnExactIsTournament", spec := "fnExactIsTournament", inPlace := ["slices.overlaps[int]"], unfollowed := true, recurses := true, apart := false, narrowed := true }
def FnExactIsTournamentUptoSaid : Prop := fnExactIsTournamentUptoRow.holds Try.pinned (OpenSpec.upto fnExactIsTournamentSpec)

/-- 'laws.FnExactBestPlayer', WHERE WHAT IT READS IS OF BULK AT MOST 1048576: true; the input reads as it did. -/
def fnExactBestPlayerUptoRow : OpenClaim := { program := "ytmdcmfnpfkfocaa", sum := "b04872468b3b4f46a1a52e16ab7f029dc5de4e3bf6e92de1a01cf6126b15ed14", func := "loop.example/g01087/laws.FnExactBestPlayer", spec := "fnExactBestPlayer", inPlace := ["slices.overlaps[int]"], unfollowed := true, recurses := true, apart := false, narrowed := true }
def FnExactBestPlayerUptoSaid : Prop := fnExactBestPlayerUptoRow.holds Try.pinned (OpenSpec.upto fnExactBestPlayerSpec)

/-- 'laws.FnExactCruelItem', WHERE WHAT IT READS IS OF BULK AT MOST 1048576: true; the input reads as it did. -/
def fnExactCruelItemUptoRow : OpenClaim := { program := "ytmdcmfnpfkfocaa", sum := "b04872468b3b4f46a1a52e16ab7f029dc5de4e3bf6e92de1a01cf6126b15ed14", func := "loop.example/g01087/laws.FnExactCruelItem", spec := "fnExactCruelItem", inPlace := ["slices.overlaps[int]"], unfollowed := true, recurses := true, apart := false, narrowed := true }
def FnExactCruelItemUptoSaid : Prop := fnExactCruelItemUptoRow.holds Try.pinned (OpenSpec.upto fnExactCruelItemSpec)

end Rows
end Go.Proofs.Ytmdcmfnpfkfocaa
