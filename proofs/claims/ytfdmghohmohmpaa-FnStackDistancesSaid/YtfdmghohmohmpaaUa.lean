import Derived.Test.YtfdmghohmohmpaaVo
/- a step of a valid cache: plain -/
namespace Go.Proofs.Ytfdmghohmohmpaa

theorem putL_new {l : List Int} {n : Int} (hn : n ∉ l) : (putL l n).length = l.length + 1 := by
  induction l with
  | nil => rfl
  | cons a l ih =>
    rw [List.mem_cons, not_or] at hn
    unfold putL
    split
    · rw [List.length_cons, ih hn.2, List.length_cons]
    · rw [if_neg (fun e => hn.1 e.symm)]; rfl
theorem foldl_put_new : ∀ (l acc : List Int), l.Nodup → (∀ x ∈ l, x ∉ acc) → (l.foldl putL acc).length = acc.length + l.length
  | [], acc, _, _ => rfl
  | a :: l, acc, hn, h => by
    rw [List.nodup_cons] at hn
    rw [List.foldl_cons, foldl_put_new l (putL acc a) hn.2 (fun x hx hm => by
      rcases putL_mem.1 hm with hm | rfl
      · exact h x (List.mem_cons_of_mem _ hx) hm
      · exact hn.1 hx), putL_new (h a (List.mem_cons_self ..)), List.length_cons]
    omega
theorem diffL_nod {l : List Int} (h : l.Nodup) : (diffL l).length = l.length := by
  have := foldl_put_new l [] h (fun x _ hm => by cases hm)
  simpa [diffL] using this
theorem goodC_iff (n : Int) (c : Ca) : goodC n c = true ↔ (1 ≤ n ∧ n ≤ 8) ∧ (1 ≤ c.pol ∧ c.pol ≤ 7) ∧ (1 ≤ c.size ∧ c.size ≤ 6) ∧ (c.pages.length : Int) ≤ c.size ∧ (∀ a ∈ c.pages, 0 ≤ a ∧ a ≤ n - 1) ∧ c.pages.Nodup ∧ marksB c = true ∧ handB c = true := by
  constructor
  · intro h
    have hn := goodC_nod h
    unfold goodC at h
    simp only [Bool.and_eq_true, inB_iff, decide_eq_true_eq, belowB, List.all_eq_true] at h
    obtain ⟨⟨⟨⟨⟨⟨⟨h1, h2⟩, h3⟩, h4⟩, h5⟩, h6⟩, h7⟩, h8⟩ := h
    exact ⟨h1, h2, h3, h4, h5, hn, h7, h8⟩
  · rintro ⟨h1, h2, h3, h4, h5, h6, h7, h8⟩
    unfold goodC
    simp only [Bool.and_eq_true, inB_iff, decide_eq_true_eq, belowB, List.all_eq_true]
    exact ⟨⟨⟨⟨⟨⟨⟨h1, h2⟩, h3⟩, h4⟩, h5⟩, diffL_nod h6⟩, h7⟩, h8⟩
/-- what a step holds: the item, and nothing but it and what was held -/
theorem step_mem {c : Ca} (x : Int) (hok : Ok c) : (∀ a ∈ (stepC c x).pages, a ∈ c.pages ∨ a = x) ∧ x ∈ (stepC c x).pages := by
  have hs := hok.size
  have hl := hok.len
  unfold stepC
  cases hh : hasB c.pages x
  · rw [if_neg (by simp)]
    unfold faultC
    by_cases h6 : c.pol = 6
    · rw [if_pos h6]
      unfold clockC
      by_cases hf : (c.pages.length : Int) < c.size
      · rw [if_pos hf]
        simp
      · rw [if_neg hf]
        have hv : (turned c).2 < c.pages.length := by
          have := victim_in hok hf
          unfold victim at this
          rwa [if_neg (by omega), if_neg (by omega), if_pos h6] at this
        refine ⟨fun a ha => ?_, ?_⟩
        · rcases List.mem_or_eq_of_mem_set ha with ha | rfl
          · exact .inl ha
          · exact .inr rfl
        · exact List.mem_iff_getElem.2 ⟨(turned c).2, by simpa using hv, by simp⟩
    · rw [if_neg h6]
      refine ⟨fun a ha => ?_, List.mem_cons_self ..⟩
      rcases List.mem_cons.1 ha with rfl | ha
      · exact .inr rfl
      · left
        split at ha
        · split at ha
          · cases ha
          · exact List.mem_of_mem_eraseIdx ha
        · exact ha
  · rw [if_pos rfl]
    rcases atI_spec c.pages x with ⟨_, k, hk, he⟩ | ⟨hn, _⟩
    · have hx : x ∈ c.pages := by simpa [hasB] using hh
      have hkx : c.pages.getD k 0 = x := by
        have e2 : atI c.pages x = (c.pages.idxOf x : Int) := by rw [atI, if_pos hx]
        have e3 : k = c.pages.idxOf x := by omega
        subst e3
        rw [List.getD_eq_getElem?_getD, List.getElem?_eq_getElem hk]
        simp
      rw [he, Int.toNat_natCast]
      unfold hitC
      split
      · refine ⟨fun a ha => ?_, by rw [hkx]; exact List.mem_cons_self ..⟩
        rcases List.mem_cons.1 ha with rfl | ha
        · exact .inr hkx
        · exact .inl (List.mem_of_mem_eraseIdx ha)
      · split
        · exact ⟨fun a ha => .inl ha, hx⟩
        · split <;> exact ⟨fun a ha => .inl ha, hx⟩
    · rw [hn] at hh; cases hh
theorem step_len {c : Ca} (x : Int) : (stepC c x).pages.length ≤ c.pages.length + 1 := by
  unfold stepC
  split
  · unfold hitC
    split
    · simp only [List.length_cons]
      have := List.length_eraseIdx_le c.pages (atI c.pages x).toNat
      omega
    · split
      · exact Nat.le_succ _
      · split <;> exact Nat.le_succ _
  · unfold faultC
    split
    · unfold clockC
      split
      · simp
      · simp
    · simp only [List.length_cons]
      split
      · split
        · simp
        · have := List.length_eraseIdx_le c.pages (victim c)
          omega
      · omega
theorem turn_01 (sz : Nat) (f : Nat) : ∀ (m : List Int) (h : Nat), (∀ x ∈ m, 0 ≤ x ∧ x ≤ 1) → ∀ x ∈ (turn sz f m h).1, 0 ≤ x ∧ x ≤ 1 := by
  induction f with
  | zero => intro m h hm; exact hm
  | succ f ih =>
    intro m h hm
    unfold turn
    split
    · exact ih _ _ (mem_set hm (by omega))
    · exact hm
theorem good_step {n x : Int} {c : Ca} (h : goodC n c = true) (hx : 0 ≤ x ∧ x ≤ n - 1) : goodC n (stepC c x) = true := by
  have hok := goodC_ok h
  have hok' := ok_step hok x
  rw [goodC_iff] at h ⊢
  obtain ⟨h1, h2, h3, h4, h5, h6, h7, h8⟩ := h
  refine ⟨h1, hok'.pol, hok'.size, hok'.len, fun a ha => ?_, nod_step h6 x, ?_, ?_⟩
  · rcases (step_mem x hok).1 a ha with ha | rfl
    · exact h5 a ha
    · exact hx
  · unfold marksB at h7
    unfold stepC
    cases hh : hasB c.pages x
    · rw [if_neg (by simp)]
      have hsz := hok.size
      by_cases h6' : c.pol = 6
      · rw [if_neg (by omega), if_pos h6'] at h7
        simp only [Bool.and_eq_true, decide_eq_true_eq, List.all_eq_true, inB_iff] at h7
        unfold faultC
        rw [if_pos h6']
        unfold marksB clockC
        rw [if_neg (by split <;> (simp only; omega))]
        split
        · simp only [Bool.and_eq_true, decide_eq_true_eq, List.all_eq_true, inB_iff]
          refine ⟨by simp [h7.1], fun m hm => ?_⟩
          rcases List.mem_append.1 hm with hm | hm
          · exact h7.2 m hm
          · simp at hm; omega
        · simp only [Bool.and_eq_true, decide_eq_true_eq, List.all_eq_true, inB_iff]
          have hh2 := hok.hand
          obtain ⟨t1, _, _⟩ := turn_props c.size.toNat (by omega) (c.marks.length + 1) c.marks c.hand.toNat (by omega)
          refine ⟨by rw [List.length_set, List.length_set]; unfold turned; rw [t1, h7.1], ?_⟩
          exact mem_set (turn_01 _ _ _ _ h7.2) (by omega)
      · unfold faultC
        rw [if_neg h6']
        by_cases h5' : c.pol = 5
        · rw [if_pos h5'] at h7
          simp only [Bool.and_eq_true, decide_eq_true_eq, List.all_eq_true, inB_iff] at h7
          unfold marksB
          rw [if_pos (by simpa using h5')]
          simp only [Bool.and_eq_true, decide_eq_true_eq, List.all_eq_true, inB_iff, if_pos h5']
          by_cases hf : (c.pages.length : Int) = c.size
          · simp only [if_pos hf]
            rw [if_neg (by omega)]
            have hv := victim_lt hok (by omega) h6'
            refine ⟨by rw [List.length_cons, List.length_cons, List.length_eraseIdx_of_lt hv, List.length_eraseIdx_of_lt (by omega), h7.1], fun m hm => ?_⟩
            rcases List.mem_cons.1 hm with rfl | hm
            · omega
            · exact h7.2 m (List.mem_of_mem_eraseIdx hm)
          · simp only [if_neg hf]
            refine ⟨by rw [List.length_cons, List.length_cons, h7.1], fun m hm => ?_⟩
            rcases List.mem_cons.1 hm with rfl | hm
            · omega
            · exact h7.2 m hm
        · rw [if_neg h5', if_neg h6'] at h7
          unfold marksB
          rw [if_neg (by simpa using h5'), if_neg (by simpa using h6')]
          simpa [if_neg h5'] using h7
    · rw [if_pos rfl]
      rcases atI_spec c.pages x with ⟨_, k, hk, he⟩ | ⟨hn, _⟩
      · rw [he, Int.toNat_natCast]
        unfold hitC
        by_cases h17 : c.pol = 1 ∨ c.pol = 7
        · rw [if_pos h17]
          rw [if_neg (by omega), if_neg (by omega)] at h7
          unfold marksB
          rw [if_neg (by simp only; omega), if_neg (by simp only; omega)]
          exact h7
        · rw [if_neg h17]
          by_cases h5' : c.pol = 5
          · rw [if_pos h5'] at h7 ⊢
            unfold marksB
            rw [if_pos (by simpa using h5')]
            simp only [Bool.and_eq_true, decide_eq_true_eq, List.all_eq_true, inB_iff] at h7 ⊢
            refine ⟨by rw [List.length_set, h7.1], mem_set h7.2 ?_⟩
            have := h7.2 _ (getD_mem (l := c.marks) (i := k) (by omega))
            omega
          · rw [if_neg h5'] at h7 ⊢
            by_cases h6' : c.pol = 6
            · rw [if_pos h6'] at h7 ⊢
              unfold marksB
              rw [if_neg (by simpa using h5'), if_pos (by simpa using h6')]
              simp only [Bool.and_eq_true, decide_eq_true_eq, List.all_eq_true, inB_iff] at h7 ⊢
              exact ⟨by rw [List.length_set, h7.1], mem_set h7.2 (by omega)⟩
            · rw [if_neg h6'] at h7 ⊢
              unfold marksB
              rw [if_neg h5', if_neg h6']
              exact h7
      · rw [hn] at hh; cases hh
  · unfold handB at h8
    unfold stepC
    cases hh : hasB c.pages x
    · rw [if_neg (by simp)]
      have hsz := hok.size
      by_cases h6' : c.pol = 6
      · unfold faultC
        rw [if_pos h6']
        unfold handB clockC
        by_cases hf : (c.pages.length : Int) < c.size
        · rw [if_pos hf]
          rw [if_neg (by omega)] at h8
          have h0 : c.hand = 0 := by simpa using h8
          split
          · rw [inB_iff]; simp only; omega
          · simpa using h0
        · rw [if_neg hf]
          rw [if_pos ⟨by simpa using h6', by simp; omega⟩, inB_iff]
          simp only
          have := Int.emod_nonneg ((turned c).2 + 1 : Int) (by omega : c.size ≠ 0)
          have := Int.emod_lt_of_pos ((turned c).2 + 1 : Int) (by omega : 0 < c.size)
          omega
      · unfold faultC
        rw [if_neg h6']
        rw [if_neg (fun e => h6' e.1)] at h8
        unfold handB
        rw [if_neg (fun e => h6' e.1)]
        exact h8
    · rw [if_pos rfl]
      rcases atI_spec c.pages x with ⟨_, k, hk, he⟩ | ⟨hn, _⟩
      · rw [he, Int.toNat_natCast]
        unfold hitC
        split
        · rename_i h17
          rw [if_neg (by omega)] at h8
          unfold handB
          rw [if_neg (by simp only; omega)]
          exact h8
        · split
          · exact h8
          · split
            · exact h8
            · exact h8
      · rw [hn] at hh; cases hh
/-- each page held is put out or held again -/
theorem vict_or {n x : Int} {c : Ca} (h : goodC n c = true) (a : Int) (ha : a ∈ c.pages) : hasB (victL c x) a = !hasB (stepC c x).pages a := by
  rw [← gone_vict h x]
  have : a ∈ diffL (stay (hasB (stepC c x).pages) c.pages) ↔ a ∉ (stepC c x).pages := by
    rw [diffL_mem, stay, List.mem_filter]
    simp [hasB, ha]
  cases h1 : hasB (stepC c x).pages a
  · have h2 : a ∉ (stepC c x).pages := by simpa [hasB] using h1
    have := this.2 h2
    simpa [hasB] using this
  · have h2 : a ∈ (stepC c x).pages := by simpa [hasB] using h1
    have : a ∉ diffL (stay (hasB (stepC c x).pages) c.pages) := fun hm => this.1 hm h2
    simpa [hasB] using this
theorem vict_hit {c : Ca} {x : Int} (h : hasB c.pages x = true) : victL c x = [] := by
  unfold victL
  rw [h]
  rfl
end Go.Proofs.Ytfdmghohmohmpaa
