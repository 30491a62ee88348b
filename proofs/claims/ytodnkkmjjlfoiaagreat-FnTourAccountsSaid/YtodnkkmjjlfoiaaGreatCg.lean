import Derived.Test.YtodnkkmjjlfoiaaGreatCf
/- one more Player (program) -/
namespace Go.Proofs.YtodnkkmjjlfoiaaGreat
open Go.RowKit

def okJoin (t : To) (p k : Int) : Bool := inB p 1 7 && (inB k 1 6 && decide (t.ps.length < 4))
def joinT (t : To) (p k : Int) : To := ⟨t.items, againP t.ps t.reqs ++ [servedP (t.reqs.length : Int) p k []], t.reqs⟩
def zeroT : To := ⟨0, [], []⟩
theorem TA.zero (base : Nat) (w : World) : TA base w (.agg #[.int .i64 0, .slice none 0 0, .slice none 0 0]) zeroT :=
  ⟨_, fun _ => undef, fun _ => undef, _, rfl, PA.nil base w (OS.nil _ _ _ _) _ _, OI.nil _ _, fun q _ e => own_none q e⟩
end Go.Proofs.YtodnkkmjjlfoiaaGreat
