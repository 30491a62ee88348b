import Derived.Test.YtodnkkmjjlfoiaaGreatDf
import Derived.Test.YtodnkkmjjlfoiaaGreatPk4
import Derived.Test.YtodnkkmjjlfoiaaGreatK
import Derived.Test.YtodnkkmjjlfoiaaGreatTe
import Derived.Test.YtodnkkmjjlfoiaaGreatPk7
import Derived.Test.YtodnkkmjjlfoiaaGreatPk6
/- the law of StepTournament returns true -/
namespace Go.Proofs.YtodnkkmjjlfoiaaGreat
open Go.RowKit

/-- a Tournament of the call's own, all of it in blocks from lo on and below hi -/
def TAU (lo hi : Nat) (w : World) (v : Value) (t : To) : Prop :=
  ∃ pv pf mf rv, v = .agg #[.int .i64 t.items, pv, rv] ∧ PA lo w pv t.ps pf mf ∧ OI lo w rv t.reqs ∧ (∀ q, FA pv t.ps.length pf mf q → ¬ own rv q) ∧ (∀ q, FA pv t.ps.length pf mf q → q < hi) ∧ ∀ q, own rv q → q < hi
theorem TA.u {base : Nat} {w : World} {v : Value} {t : To} (h : TA base w v t) : TAU base w.heap.size w v t := by
  obtain ⟨pv, pf, mf, rv, h1, h2, h3, h4⟩ := h
  exact ⟨pv, pf, mf, rv, h1, h2, h3, h4, fun q hq => (h2.inF q hq).2, fun q hq => (h3.lt q hq).2⟩
theorem TAU.step {lo hi : Nat} {w w' : World} {v : Value} {t : To} {S : Nat → Prop} (h : TAU lo hi w v t) (hc : Chg S w w') (hS : ∀ q, lo ≤ q → q < hi → ¬ S q) : TAU lo hi w' v t := by
  obtain ⟨pv, pf, mf, rv, h1, h2, h3, h4, h5, h6⟩ := h
  exact ⟨pv, pf, mf, rv, h1, h2.step hc (fun q hq => hS q (h2.inF q hq).1 (h5 q hq)), h3.step hc (fun q hq => hS q (h3.lt q hq).1 (h6 q hq)), h4, h5, h6⟩
theorem TAU.keep {lo hi : Nat} {w w' : World} {v : Value} {t : To} (h : TAU lo hi w v t) (hc : Chg No w w') : TAU lo hi w' v t := h.step hc (fun _ _ _ e => e)
theorem TAU.rt {lo hi : Nat} {w : World} {v : Value} {t : To} (h : TAU lo hi w v t) (hn : t.ps.length ≤ 1048576) : RT No w v t := by
  obtain ⟨pv, pf, mf, rv, h1, h2, h3, h4, _⟩ := h
  exact ⟨_, _, h1, h2.read hn (fun _ _ e => e), h3.read (fun _ _ e => e)⟩
theorem TAU.shape {lo hi : Nat} {w : World} {v : Value} {t : To} (h : TAU lo hi w v t) : ∃ pa pn pc ra rn rc, v = .agg #[.int .i64 t.items, .slice pa pn pc, .slice ra rn rc] := by
  obtain ⟨pv, pf, mf, rv, rfl, h2, h3, _⟩ := h
  obtain ⟨pa, pc, rfl, _⟩ := h2.os.view
  obtain ⟨ra, rn, rc, rfl⟩ := h3.shape
  exact ⟨_, _, _, _, _, _, rfl⟩
/-- a call of two results at an operation -/
theorem ret2_ret {f : FuncId} {args : Array Value} {w : World} {φ : Value → Value → World → Prop} (h : Calls Tryz.prog f args w (Ret2 φ)) : Calls Tryz.prog f args w (Ret fun v w' => ∃ v0 v1, v = .tuple #[v0, v1] ∧ φ v0 v1 w') :=
  h.mono (fun _ _ ⟨v0, v1, he, hp⟩ => ⟨_, he, v0, v1, rfl, hp⟩)

end Go.Proofs.YtodnkkmjjlfoiaaGreat
