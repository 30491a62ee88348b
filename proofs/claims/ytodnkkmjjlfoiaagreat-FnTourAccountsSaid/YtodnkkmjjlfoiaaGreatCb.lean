import Derived.Test.YtodnkkmjjlfoiaaGreatCa
/- a Tournament with other requests (program) -/
namespace Go.Proofs.YtodnkkmjjlfoiaaGreat
open Go.RowKit

/-- a Tournament of the call's own, whose row may grow -/
def TA (base : Nat) (w : World) (v : Value) (t : To) : Prop :=
  ∃ pv pf mf rv, v = .agg #[.int .i64 t.items, pv, rv] ∧ PA base w pv t.ps pf mf ∧ OI base w rv t.reqs ∧ ∀ q, FA pv t.ps.length pf mf q → ¬ own rv q
theorem TA.keep {base : Nat} {w w' : World} {v : Value} {t : To} (h : TA base w v t) (hc : Chg No w w') : TA base w' v t := by
  obtain ⟨pv, pf, mf, rv, h1, h2, h3, h4⟩ := h
  exact ⟨pv, pf, mf, rv, h1, h2.keep hc, h3.keep hc, h4⟩
theorem TA.weak {base base' : Nat} {w : World} {v : Value} {t : To} (h : TA base w v t) (hb : base' ≤ base) : TA base' w v t := by
  obtain ⟨pv, pf, mf, rv, h1, h2, h3, h4⟩ := h
  exact ⟨pv, pf, mf, rv, h1, h2.weak hb, h3.weak hb, h4⟩
theorem TA.rt {base : Nat} {w : World} {v : Value} {t : To} (h : TA base w v t) (hn : t.ps.length ≤ 1048576) {A : Nat → Prop} (hA : ∀ q, base ≤ q → ¬ A q) : RT A w v t := by
  obtain ⟨pv, pf, mf, rv, h1, h2, h3, h4⟩ := h
  exact ⟨_, _, h1, h2.read hn (fun q hq => hA q (h2.inF q hq).1), h3.read (fun q hq => hA q (h3.lt q hq).1)⟩
/-- may be served again -/
def Sv (ps : List Pl) (l : List Int) : Prop := ∀ i, i < ps.length → (0 ≤ (ps.getD i dPl).frm ∧ (ps.getD i dPl).frm ≤ l.length) ∧ Ok (newC (ps.getD i dPl).ca.pol (ps.getD i dPl).ca.size)
def againP (ps : List Pl) (l : List Int) : List Pl := ps.map fun x => wantP x l
theorem againP_snoc (ps : List Pl) (l : List Int) (j : Nat) (hj : j < ps.length) : againP (ps.take (j + 1)) l = againP (ps.take j) l ++ [wantP (ps.getD j dPl) l] := by
  unfold againP
  rw [List.take_succ_eq_append_getElem hj, List.map_append, List.getD_eq_getElem?_getD, List.getElem?_eq_getElem hj]; rfl
end Go.Proofs.YtodnkkmjjlfoiaaGreat
