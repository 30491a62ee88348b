import Derived.Test.YtodnkkmjjlfoiaaGreatDn
import Derived.Test.YtodnkkmjjlfoiaaGreatDs
/- a row of TourSteps that came in, opened -/
namespace Go.Proofs.YtodnkkmjjlfoiaaGreat
open Go.RowKit Go.ChangeShapes Go.WideShapes Go.ChangeAt

theorem cells_tsteps : Tryz.prog.cellsOf 26 = 1 := by kernel_rfl
section
variable {H : Type} {enc : TypeId × Value → H} {W : World} {spare : Nat → Bool} {held : Bool}
theorem open_tsteps {fuel : Nat} {x : Value} {y : DataW H × List MemPlace} (hsp : ∀ b, spare b = true) (h : DataW.trod enc Tryz.prog W 0 spare held fuel 26 [x] = some y) :
    ∃ a n c, x = .slice a n c ∧ n ≤ 9223372036854775807 ∧ (n ≤ 1048576 → ∃ ss : List St3, ss.length = n ∧ RSS No W (.slice a n c) ss) := by
  have _ := hsp
  rcases DataW.trod_slice Tryz.underlying26 h with ⟨hcs, _⟩ | ⟨a, len, cap, elems, rest, n, _, hcs, _, hb, hl, hm, hlen, hel, _, _⟩
  · simp only [List.cons.injEq, and_true] at hcs
    subst hcs
    exact ⟨none, 0, 0, rfl, by omega, fun _ => ⟨[], rfl, none, 0, rfl, Nat.le_refl _, by omega, by simp, fun e => absurd rfl e⟩⟩
  · simp only [List.cons.injEq, and_true] at hcs
    subst hcs
    have hm' : cap ≤ 9223372036854775807 := by simpa [maxLen] using hm
    have each : ∀ i, i < len → ∃ cs z, W.cells? 0 (a.add (i * 3)) 3 = some cs ∧ DataW.trod enc Tryz.prog W 0 spare held n 84 cs = some z := fun i hi => by
      have h1 := hel i hi
      rw [cells_tstep, List.getElem?_eq_getElem (by omega), Option.bind_eq_some_iff] at h1
      obtain ⟨cs, h2, h3⟩ := h1
      exact ⟨cs, _, h2, h3⟩
    refine ⟨some a, len, cap, rfl, by omega, fun hn => ?_⟩
    by_cases h0 : 0 < len
    · have hspot : a.spot = none := by
        obtain ⟨cs, z, h2, _⟩ := each 0 h0
        have h3 := (World.cells?_some h2).2.2 0 (by omega)
        have h4 := (World.cells?_some h2).2.1
        rw [List.getElem?_eq_getElem (by omega)] at h3
        have := World.cell?_spot h3
        simpa [Addr.add] using this
      obtain ⟨b, off, spot⟩ := a
      simp only at hspot
      subst hspot
      have hadd : ∀ i, (⟨b, off, none⟩ : Addr).add i = ⟨b, off + i, none⟩ := fun i => by unfold Addr.add; split <;> simp_all
      have h' : ∀ i : Nat, ∃ s : St3, i < len → Cell3 W b (off + i * 3) s := fun i => by
        by_cases hi : i < len
        · obtain ⟨cs, z, h2, h3⟩ := each i hi
          have h4 := (World.cells?_some h2).2.2
          rw [hadd] at h4
          obtain ⟨k, p, q, rfl⟩ := open_tstep h3
          have hadd2 : ∀ r, (⟨b, off + i * 3, none⟩ : Addr).add r = ⟨b, off + i * 3 + r, none⟩ := fun r => by unfold Addr.add; split <;> simp_all
          refine ⟨⟨k, p, q⟩, fun _ => ⟨?_, ?_, ?_⟩⟩
          · have := h4 0 (by omega); rw [hadd2] at this; simpa using this
          · have := h4 1 (by omega); rw [hadd2] at this; simpa using this
          · have := h4 2 (by omega); rw [hadd2] at this; simpa using this
        · exact ⟨dSt, fun e => absurd e hi⟩
      obtain ⟨f, hf⟩ := Classical.axiomOfChoice h'
      have hbl : b < W.heap.size := World.block_lt_of_cell? W _ (hf 0 h0).c0
      have hfl : ((List.range len).map f).length = len := by simp
      refine ⟨(List.range len).map f, hfl, some ⟨b, off, none⟩, cap, by rw [hfl], by rw [hfl]; exact hl, hm', by rw [hfl]; exact hn, fun _ => ⟨b, off, rfl, fun e => e, hbl, fun i hi => ?_⟩⟩
      rw [hfl] at hi
      have e : ((List.range len).map f).getD i dSt = f i := by
        rw [List.getD_eq_getElem?_getD, List.getElem?_map, List.getElem?_range hi]; rfl
      rw [e]
      exact hf i hi
    · have : len = 0 := by omega
      subst this
      exact ⟨[], rfl, some a, cap, rfl, Nat.zero_le _, hm', by simp, fun e => absurd rfl e⟩
end
end Go.Proofs.YtodnkkmjjlfoiaaGreat
