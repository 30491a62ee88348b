import Derived.Test.YtodnkkmjjlfoiaaGreatPk6
import Derived.Test.YtodnkkmjjlfoiaaGreatTi
/- an argument read, its total known -/
namespace Go.Proofs.YtodnkkmjjlfoiaaGreat
open Go.RowKit

theorem totPl_eq (ls : List Pl) (f : Nat → Nat) (h : ∀ i, i < ls.length → szPl (ls.getD i dPl) = 5 + f i) : totPl ls = 5 * ls.length + totN f ls.length := by
  have : ∀ j, j ≤ ls.length → totPl (ls.take j) = 5 * j + totN f j := by
    intro j
    induction j with
    | zero => intro _; simp [totPl, totN]
    | succ j ih =>
      intro hj
      rw [totPl_snoc ls j (by omega), ih (by omega), h j (by omega)]
      simp only [totN]; omega
  have := this ls.length (Nat.le_refl _)
  rwa [List.take_length] at this
theorem RawPS.readT {w : World} {v : Value} {m : Nat} {pn mn : Nat → Nat} (h : RawPS w v m pn mn) (hm : m ≤ 1048576) (ht : totN (fun i => pn i + mn i) m ≤ 1048576) : ∃ ls : List Pl, ls.length = m ∧ RPS No w v ls ∧ totPl ls = 5 * m + totN (fun i => pn i + mn i) m := by
  obtain ⟨a, cap, rfl, h1, h2, h3, h4⟩ := h
  by_cases h0 : 0 < m
  · obtain ⟨b, off, rfl, hb, hP⟩ := h4 h0
    have h' : ∀ i : Nat, ∃ p : Pl × Value × Value, i < m → (Cell7 w b (off + i * 7) p.1 p.2.1 p.2.2 ∧ RI No w p.2.1 p.1.ca.pages ∧ RI No w p.2.2 p.1.ca.marks) ∧ szPl p.1 = 5 + (pn i + mn i) := fun i => by
      by_cases hi : i < m
      · obtain ⟨f, p, k, a1, q1, a2, q2, hd, fa, ⟨c0, c1, c2, c3, c4, c5, c6⟩, _, _, g1, g2⟩ := hP i hi
        have := totN_get (fun i => pn i + mn i) hi
        obtain ⟨l1, e1, r1⟩ := g1 (by omega)
        obtain ⟨l2, e2, r2⟩ := g2 (by omega)
        exact ⟨(⟨f, ⟨p, k, l1, l2, hd⟩, fa⟩, _, _), fun _ => ⟨⟨⟨c0, c1, c2, c3, c4, c5, c6⟩, r1, r2⟩, by simp only [szPl]; omega⟩⟩
      · exact ⟨(dPl, undef, undef), fun e => absurd e hi⟩
    obtain ⟨f, hf⟩ := Classical.axiomOfChoice h'
    have hg : ∀ i, i < m → ((List.range m).map (fun i => (f i).1)).getD i dPl = (f i).1 := fun i hi => by
      rw [List.getD_eq_getElem?_getD]; simp [hi]
    refine ⟨(List.range m).map (fun i => (f i).1), by simp, ⟨some ⟨b, off, none⟩, cap, by simp, by simpa using h1, h2, by simpa using hm, fun i => (f i).2.1, fun i => (f i).2.2, fun i hi => ?_, fun _ => ⟨b, off, rfl, fun e => e, hb, fun i hi => ?_⟩⟩, ?_⟩
    · have hi : i < m := by simpa using hi
      rw [hg i hi]; exact (hf i hi).1.2
    · have hi : i < m := by simpa using hi
      rw [hg i hi]; exact (hf i hi).1.1
    · have e := totPl_eq ((List.range m).map (fun i => (f i).1)) (fun i => pn i + mn i) (fun i hi => by
        have hi : i < m := by simpa using hi
        rw [hg i hi]; exact (hf i hi).2)
      simpa using e
  · have : m = 0 := by omega
    subst this
    exact ⟨[], rfl, ⟨a, cap, rfl, Nat.zero_le _, h2, by simp, fun _ => undef, fun _ => undef, fun i hi => by simp at hi, fun h => absurd rfl h⟩, rfl⟩
end Go.Proofs.YtodnkkmjjlfoiaaGreat
