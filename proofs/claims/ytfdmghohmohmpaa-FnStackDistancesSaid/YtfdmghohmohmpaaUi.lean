import Derived.Test.YtfdmghohmohmpaaRc
import Derived.Test.YtfdmghohmohmpaaUg
import Derived.Test.YtfdmghohmohmpaaOw
import Derived.Test.YtfdmghohmohmpaaH
/- a cache drawn -/
namespace Go.Proofs.Ytfdmghohmohmpaa
open Go.RowKit

theorem marks_else {c : Ca} (h5 : ¬ c.pol = 5) (h6 : ¬ c.pol = 6) (x : Int) : (stepC c x).marks = c.marks ∧ (stepC c x).pol = c.pol := by
  unfold stepC
  split
  · unfold hitC
    split
    · exact ⟨rfl, rfl⟩
    · exact ⟨rfl, rfl⟩
  · unfold faultC
    rw [if_neg h6]
    simp [h5]
theorem marks6 {c : Ca} (h : Ok c) (h6 : c.marks.length ≤ 6) (x : Int) : (stepC c x).marks.length ≤ 6 := by
  have hs := ok_step h x
  by_cases hp : (stepC c x).pol = 5 ∨ (stepC c x).pol = 6
  · have := hs.marks hp
    have := hs.len
    have := hs.size
    omega
  · by_cases hq : c.pol = 5 ∨ c.pol = 6
    · have e : (stepC c x).pol = c.pol := by
        unfold stepC
        split
        · unfold hitC
          split
          · rfl
          · split
            · rfl
            · split <;> rfl
        · unfold faultC
          split
          · unfold clockC
            split <;> rfl
          · rfl
      rw [e] at hp
      exact absurd hq hp
    · rw [(marks_else (fun e => hq (.inl e)) (fun e => hq (.inr e)) x).1]
      exact h6
end Go.Proofs.Ytfdmghohmohmpaa
