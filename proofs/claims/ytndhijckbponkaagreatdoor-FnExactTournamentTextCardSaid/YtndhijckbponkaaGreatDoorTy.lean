import Derived.Test.YtndhijckbponkaaGreatDoorTx
/- an operation of a region whose order is drawn, taken first, where operation k waits for it by a chain of others -/
namespace Go.Proofs.YtndhijckbponkaaGreatDoor
open Go.RowKit

section
variable {P : Program} {ops : Array Oper} {Q : Exit → Act → World → Prop} {md : Region.Mode} {S : World → Prop}
/-- all of B wait, one by another, for i -/
def chainB (md : Region.Mode) (ops : Array Oper) (listed : Array Bool) (B : List Nat) (i : Nat) : Bool := B.all fun b => !listed.getD b true && (i :: B).any (fun c => Region.waitsFor md ops b c) && decide (b ≠ i)
theorem wpAnyK_firstT {k i : Nat} {oi : Oper} {v : Value} (B : List Nat) (hi : ops[i]? = some oi) (hsel : ∀ (j : Nat) (o : Oper) cs b, ops[j]? = some o → o.op ≠ .select cs b)
    (hQ : ∀ c a w, Q (.panic c) (a.put oi.dst v) w → Q (.panic c) a w) (hB : ∀ b ∈ B, b ≠ i ∧ ∃ c, (c = i ∨ c ∈ B) ∧ Region.waitsFor md ops b c = true) (hkB : k ∈ B) :
    ∀ (f : Nat) (listed : Array Bool) (a : Act) (w : World),
      (∀ j oj, ops[j]? = some oj → j ≠ i → listed.getD j true = false → (∀ e ∈ oj.after, Region.binds md e = true → e.on ≠ i) → oi.apart ops oj = true) →
      i ∈ Region.ready md ops listed → (∀ b ∈ B, listed.getD b true = false) → YieldsIf P ops S oi v a → S w →
      wpAnyK P md ops Q S k f (listed.setIfInBounds i true) (a.put oi.dst v) w → wpAnyK P md ops Q S k (f + 1) listed a w := by
  intro f
  induction f with
  | zero =>
    intro listed a w _ hr hl hy hS H
    refine ⟨fun h => (by rw [h] at hr; cases hr), fun j hj => ?_⟩
    by_cases hji : j = i
    · subst hji; exact hy.wpOp hi hS ⟨fun _ => hS, H⟩
    · have := ready_mono hj hji
      rw [H.1] at this
      cases this
  | succ f ih =>
    intro listed a w hfree hr hl hy hS H
    refine ⟨fun h => (by rw [h] at hr; cases hr), fun j hj => ?_⟩
    by_cases hji : j = i
    · subst hji; exact hy.wpOp hi hS ⟨fun _ => hS, H⟩
    · have hun : listed.getD i false = false := getD_both (mem_ready.1 hr).1
      have hjB : j ∉ B := fun hjB => by
        obtain ⟨_, oj, hoj, hall⟩ := mem_ready.1 hj
        obtain ⟨_, c, hc, hw⟩ := hB j hjB
        obtain ⟨oj', hoj', e, he, hb, hon⟩ := Region.waitsFor_spec hw
        have : oj' = oj := Option.some.inj (hoj'.symm.trans hoj)
        subst this
        have h1 := hall e he hb
        have hcu : listed.getD c false = false := by
          rcases hc with rfl | hc
          · exact hun
          · exact getD_both (hl c hc)
        rw [hon, hcu] at h1
        cases h1
      have hki : k ≠ i := (hB k hkB).1
      have hjk : j ≠ k := fun e => hjB (e ▸ hkB)
      have h1 := H.2 j (ready_mono hj hji)
      obtain ⟨hjun, oj, hoj, hall⟩ := mem_ready.1 hj
      have hnot : ∀ e ∈ oj.after, Region.binds md e = true → e.on ≠ i := fun e he hb heq => by
        have h1 := hall e he hb
        rw [heq, hun] at h1
        cases h1
      have h2 := wpOp_putIf hoj (hfree j oj hoj hji hjun hnot) (fun cs b => hsel i oi cs b hi) (fun cs b => hsel j oj cs b hoj) hQ hy h1
      have hl' : ∀ b ∈ B, (listed.setIfInBounds j true).getD b true = false := fun b hb => (getD_set_ne true (show j ≠ b from fun e => hjB (by rw [e]; exact hb))).trans (hl b hb)
      have hl2 : ((listed.setIfInBounds i true).setIfInBounds j true).getD k true = false := by rw [getD_set_ne true hjk, getD_set_ne true (Ne.symm hki)]; exact hl k hkB
      refine wpOp_mono (fun a' w' h3 => ⟨fun _ => h3.2.1 hl2, ih (listed.setIfInBounds j true) a' w' (fun m om hm hmi hmu hno => hfree m om hm hmi (getD_set_in hmu) hno) (ready_mono hr (Ne.symm hji)) hl' h3.1 (h3.2.1 hl2) ?_⟩) h2
      rw [Array.setIfInBounds_comm _ _ hji]
      exact h3.2.2
/-- all that wait for i, one by another -/
def waitersB (md : Region.Mode) (ops : Array Oper) (i : Nat) : List Nat := (List.range ops.size).foldl (fun B b => if (i :: B).any (fun c => Region.waitsFor md ops b c) && decide (b ≠ i) then b :: B else B) []
/-- take number i first; k waits for it, by a chain of others -/
theorem wpAnyK_takeT (i : Nat) {k : Nat} {oi : Oper} (v : Value) {f : Nat} {listed : Array Bool} {a : Act} {w : World} (hi : ops[i]? = some oi)
    (hB : (Region.noSelect ops && Region.free md ops listed i && (Region.ready md ops listed).contains i && chainB md ops listed (waitersB md ops i) i && (waitersB md ops i).contains k) = true)
    (hQ : ∀ c a w, Q (.panic c) (a.put oi.dst v) w → Q (.panic c) a w) (hS : S w) (hg : oi.guard = none) (hy : ∀ w, S w → (execOp a.eval oi).run P w = .ok (.value v) w)
    (h : wpAnyK P md ops Q S k f (listed.setIfInBounds i true) (a.put oi.dst v) w) : wpAnyK P md ops Q S k (f + 1) listed a w := by
  simp only [Bool.and_eq_true] at hB
  obtain ⟨⟨⟨⟨h1, h2⟩, h3⟩, h4⟩, h5⟩ := hB
  simp only [chainB, List.all_eq_true, Bool.and_eq_true, Bool.not_eq_true', decide_eq_true_eq, List.any_eq_true] at h4
  refine wpAnyK_firstT (waitersB md ops i) hi (Region.noSelect_spec h1) hQ (fun b hb => ?_) (by simpa using h5) f listed a w (Region.free_spec hi h2) (by simpa using h3) (fun b hb => (h4 b hb).1.1) (.inl ⟨by simp [Region.wanted, hg], hy⟩) hS h
  obtain ⟨⟨_, c, hc, hw⟩, hne⟩ := h4 b hb
  exact ⟨hne, c, by simpa using hc, hw⟩
end
end Go.Proofs.YtndhijckbponkaaGreatDoor
