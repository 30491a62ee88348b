import Derived.Test.YtodnkkmjjlfoiaaBq
import Derived.Test.YtodnkkmjjlfoiaaPk1
import Derived.Test.YtodnkkmjjlfoiaaPk5
/- RatioOf, both sides -/
namespace Go.Proofs.Ytodnkkmjjlfoiaa
open Go.RowKit

def okRat (t : To) (i : Int) : Bool := tourB t && hasP t i && !((t.ps.getD i.toNat dPl).frm == (t.reqs.length : Int))
def ratV (t : To) (i : Int) : Fr := if okRat t i then mkFr (t.ps.getD i.toNat dPl).fa (fewT t i.toNat) else ⟨0, 0, false⟩
theorem fewest_pos {k : Nat} {l : List Int} {f : Nat} (h : Fewest k l f) (hl : 0 < l.length) : 1 ≤ f := by
  cases l with
  | nil => simp at hl
  | cons r l =>
    obtain ⟨⟨S1, _, _, _, c1, _, h5⟩, _⟩ := h
    rcases h5 with ⟨h, _⟩ | ⟨_, h⟩
    · exact h.elim
    · omega
theorem rat_facts {t : To} (ht : tourB t = true) {i : Nat} (hi : i < t.ps.length) : (0 ≤ (t.ps.getD i dPl).fa ∧ (t.ps.getD i dPl).fa ≤ 60) ∧ (0 ≤ fewT t i ∧ fewT t i ≤ 60) ∧ ((t.ps.getD i dPl).frm ≠ (t.reqs.length : Int) → 1 ≤ fewT t i) := by
  obtain ⟨h1, h2, h3, h4⟩ := tour_facts ht hi
  obtain ⟨g1, _, g3, _⟩ := pagB_facts h3
  have hfw := fewN_ok h3
  have hlen := placesTo_le (newC (t.ps.getD i dPl).ca.pol (t.ps.getD i dPl).ca.size) (partL t i) (partL t i).length
  have hle : fewT t i ≤ 60 := by
    have := dpM_spec (k := (t.ps.getD i dPl).ca.size.toNat) (n := t.items.toNat) (by omega) (by have := (pagB_facts h3).2.1; omega) ((partL t i).map Int.toNat) 0 (fun x hx => by
      obtain ⟨y, hy, rfl⟩ := List.mem_map.1 hx
      have := (pagB_facts h3).2.2.2 y hy
      omega) (Nat.two_pow_pos _) (by rw [szM_zero]; omega)
    have h5 := this.2.1
    rw [List.length_map] at h5
    unfold fewT fewN
    omega
  refine ⟨⟨by omega, ?_⟩, ⟨hfw.1, hle⟩, fun hne => ?_⟩
  · rw [h4]; unfold places; omega
  · have hl : 0 < (partL t i).length := by unfold partL; rw [List.length_drop]; omega
    have := fewest_pos hfw.2 hl
    unfold fewT; omega
end Go.Proofs.Ytodnkkmjjlfoiaa
