import Derived.Test.YtfdmghohmohmpaaMk
/- CacheLRU and CacheMRU: what a smaller cache holds, a greater one holds: plain -/
namespace Go.Proofs.Ytfdmghohmohmpaa

theorem erase_at (l : List Int) (x : Int) (h : x ∈ l) : l.getD (atI l x).toNat 0 = x ∧ l.eraseIdx (atI l x).toNat = l.erase x := by
  have e2 : atI l x = (l.idxOf x : Int) := by rw [atI, if_pos h]
  rw [e2, Int.toNat_natCast]
  have hk := List.idxOf_lt_length_of_mem h
  refine ⟨?_, ?_⟩
  · rw [List.getD_eq_getElem?_getD, List.getElem?_eq_getElem hk]
    simp
  · exact (List.erase_eq_eraseIdx_of_idxOf rfl).symm
theorem step_1 (c : Ca) (x : Int) (h : c.pol = 1) : (stepC c x).pages = if x ∈ c.pages then x :: c.pages.erase x else x :: (if (c.pages.length : Int) = c.size then c.pages.eraseIdx (c.pages.length - 1) else c.pages) := by
  unfold stepC
  by_cases hx : x ∈ c.pages
  · obtain ⟨e1, e2⟩ := erase_at c.pages x hx
    rw [if_pos (hasB_true.2 hx), if_pos hx]
    unfold hitC
    rw [if_pos (.inl h)]
    simp only [e1, e2]
  · rw [if_neg (by rw [hasB_true]; exact hx), if_neg hx]
    unfold faultC victim
    simp [h]
theorem step_7 (c : Ca) (x : Int) (h : c.pol = 7) : (stepC c x).pages = if x ∈ c.pages then x :: c.pages.erase x else x :: (if (c.pages.length : Int) = c.size then c.pages.eraseIdx 0 else c.pages) := by
  unfold stepC
  by_cases hx : x ∈ c.pages
  · obtain ⟨e1, e2⟩ := erase_at c.pages x hx
    rw [if_pos (hasB_true.2 hx), if_pos hx]
    unfold hitC
    rw [if_pos (.inr h)]
    simp only [e1, e2]
  · rw [if_neg (by rw [hasB_true]; exact hx), if_neg hx]
    unfold faultC victim
    simp [h]
theorem stepC_const (c : Ca) (x : Int) : (stepC c x).pol = c.pol ∧ (stepC c x).size = c.size := by
  unfold stepC
  split
  · unfold hitC
    split
    · exact ⟨rfl, rfl⟩
    · split
      · exact ⟨rfl, rfl⟩
      · split <;> exact ⟨rfl, rfl⟩
  · unfold faultC
    split
    · unfold clockC
      split <;> exact ⟨rfl, rfl⟩
    · exact ⟨rfl, rfl⟩

/-- a small and a great CacheLRU -/
structure Lru (K : Nat) (c C : Ca) : Prop where
  p1 : c.pol = 1
  p2 : C.pol = 1
  s1 : c.size = (K : Int)
  s2 : C.size = (K : Int) + 1
  pos : 1 ≤ K
  pre : c.pages = C.pages.take K
  len : C.pages.length ≤ K + 1
  nod : C.pages.Nodup
theorem Lru.step {K : Nat} {c C : Ca} (h : Lru K c C) (x : Int) : Lru K (stepC c x) (stepC C x) := by
  obtain ⟨p1, p2, s1, s2, pos, pre, len, nod⟩ := h
  have c1 := stepC_const c x
  have c2 := stepC_const C x
  have e1 := step_1 c x p1
  have e2 := step_1 C x p2
  have hn := nod_step nod x
  have hP := List.take_append_drop K C.pages
  have hkey : (stepC c x).pages = (stepC C x).pages.take K ∧ (stepC C x).pages.length ≤ K + 1 := by
    rw [e1, e2, pre]
    by_cases hx : x ∈ C.pages.take K
    · have hx2 : x ∈ C.pages := List.mem_of_mem_take hx
      have hp0 := List.length_pos_of_mem hx2
      rw [if_pos hx, if_pos hx2]
      have el : (C.pages.erase x).length = C.pages.length - 1 := List.length_erase_of_mem hx2
      refine ⟨?_, by rw [List.length_cons, el]; omega⟩
      have e3 : C.pages.erase x = (C.pages.take K).erase x ++ C.pages.drop K := by
        have := List.erase_append_left (C.pages.drop K) hx
        rwa [hP] at this
      have el2 : ((C.pages.take K).erase x).length = (C.pages.take K).length - 1 := List.length_erase_of_mem hx
      rw [List.length_take] at el2
      have hK : K = (K - 1) + 1 := by omega
      rw [hK, List.take_succ_cons]
      rw [show (K - 1 + 1) = K by omega]
      congr 1
      rw [e3]
      by_cases hl : K ≤ C.pages.length
      · rw [List.take_left' (by rw [el2]; omega)]
      · have : C.pages.drop K = [] := List.drop_eq_nil_of_le (by omega)
        rw [this, List.append_nil]
        exact (List.take_of_length_le (by rw [el2]; omega)).symm
    · rw [if_neg hx]
      by_cases hx2 : x ∈ C.pages
      · rw [if_pos hx2]
        have hd : x ∈ C.pages.drop K := by
          rw [← hP] at hx2
          exact (List.mem_append.1 hx2).resolve_left hx
        have hdl : 0 < (C.pages.drop K).length := List.length_pos_of_mem hd
        rw [List.length_drop] at hdl
        have hl : C.pages.length = K + 1 := by omega
        have e3 : C.pages.erase x = C.pages.take K ++ (C.pages.drop K).erase x := by
          have := List.erase_append_right (C.pages.drop K) hx
          rwa [hP] at this
        have hlt : (C.pages.take K).length = K := by rw [List.length_take]; omega
        refine ⟨?_, by rw [List.length_cons, List.length_erase_of_mem hx2]; omega⟩
        rw [if_pos (by rw [hlt, s1]), hlt, e3]
        have hK : K = (K - 1) + 1 := by omega
        rw [List.eraseIdx_eq_take_drop_succ]
        have hdr : (C.pages.take K).drop (K - 1 + 1) = [] := List.drop_eq_nil_of_le (by omega)
        rw [hdr, List.append_nil]
        conv => rhs; rw [hK, List.take_succ_cons]
        rw [← hK]
        congr 1
        rw [List.take_append_of_le_length (by omega)]
      · rw [if_neg hx2]
        by_cases hf : C.pages.length = K + 1
        · have hlt : (C.pages.take K).length = K := by rw [List.length_take]; omega
          rw [if_pos (by rw [hlt, s1]), if_pos (by rw [hf, s2]; rfl), hlt, hf]
          refine ⟨?_, by rw [List.length_cons, List.length_eraseIdx_of_lt (by omega)]; omega⟩
          have e4 : C.pages.eraseIdx (K + 1 - 1) = C.pages.take K := by
            rw [List.eraseIdx_eq_take_drop_succ]
            have : C.pages.drop (K + 1 - 1 + 1) = [] := List.drop_eq_nil_of_le (by omega)
            rw [this, List.append_nil]
            rfl
          have e5 : (C.pages.take K).eraseIdx (K - 1) = (C.pages.take K).take (K - 1) := by
            rw [List.eraseIdx_eq_take_drop_succ]
            have : (C.pages.take K).drop (K - 1 + 1) = [] := List.drop_eq_nil_of_le (by omega)
            rw [this, List.append_nil]
          rw [e4, e5]
          have hK : K = (K - 1) + 1 := by omega
          conv => rhs; rw [hK, List.take_succ_cons]
          rw [← hK]
        · have hg : ¬ (C.pages.length : Int) = C.size := by rw [s2]; omega
          rw [if_neg hg]
          refine ⟨?_, by rw [List.length_cons]; omega⟩
          by_cases hl : C.pages.length = K
          · have hlt : C.pages.take K = C.pages := List.take_of_length_le (by omega)
            rw [hlt, if_pos (by rw [hl, s1])]
            have e5 : C.pages.eraseIdx (C.pages.length - 1) = C.pages.take (K - 1) := by
              rw [List.eraseIdx_eq_take_drop_succ, hl]
              have : C.pages.drop (K - 1 + 1) = [] := List.drop_eq_nil_of_le (by omega)
              rw [this, List.append_nil]
            rw [e5]
            have hK : K = (K - 1) + 1 := by omega
            conv => rhs; rw [hK, List.take_succ_cons]
          · have hlt : C.pages.take K = C.pages := List.take_of_length_le (by omega)
            rw [hlt, if_neg (by rw [s1]; omega), List.take_of_length_le (by rw [List.length_cons]; omega)]
  exact ⟨c1.1.trans p1, c2.1.trans p2, c1.2.trans s1, c2.2.trans s2, pos, hkey.1, hkey.2, hn⟩

/-- a small and a great CacheMRU -/
structure Mru (K : Nat) (c C : Ca) : Prop where
  p1 : c.pol = 7
  p2 : C.pol = 7
  s1 : c.size = (K : Int)
  s2 : C.size = (K : Int) + 1
  pos : 1 ≤ K
  nod1 : c.pages.Nodup
  nod : C.pages.Nodup
  len : c.pages.length ≤ K
  two : (c.pages.length < K ∧ c.pages = C.pages) ∨ (c.pages.length = K ∧ c.pages.head? = C.pages.head? ∧ ∀ a ∈ c.pages, a ∈ C.pages)
theorem Mru.step {K : Nat} {c C : Ca} (h : Mru K c C) (x : Int) : Mru K (stepC c x) (stepC C x) := by
  obtain ⟨p1, p2, s1, s2, pos, nod1, nod, len, two⟩ := h
  have c1 := stepC_const c x
  have c2 := stepC_const C x
  have e1 := step_7 c x p1
  have e2 := step_7 C x p2
  have hn1 := nod_step nod1 x
  have hn := nod_step nod x
  have hkey : (stepC c x).pages.length ≤ K ∧ (((stepC c x).pages.length < K ∧ (stepC c x).pages = (stepC C x).pages) ∨ ((stepC c x).pages.length = K ∧ (stepC c x).pages.head? = (stepC C x).pages.head? ∧ ∀ a ∈ (stepC c x).pages, a ∈ (stepC C x).pages)) := by
    rw [e1, e2]
    rcases two with ⟨hl, he⟩ | ⟨hl, hh, hs⟩
    · rw [← he]
      have g1 : ¬ (c.pages.length : Int) = c.size := by rw [s1]; omega
      have g2 : ¬ (c.pages.length : Int) = C.size := by rw [s2]; omega
      rw [if_neg g1, if_neg g2]
      split
      · rename_i hx
        have := List.length_erase_of_mem hx
        have := List.length_pos_of_mem hx
        exact ⟨by rw [List.length_cons]; omega, .inl ⟨by rw [List.length_cons]; omega, rfl⟩⟩
      · refine ⟨by rw [List.length_cons]; omega, ?_⟩
        by_cases hk : c.pages.length + 1 < K
        · exact .inl ⟨by rw [List.length_cons]; omega, rfl⟩
        · exact .inr ⟨by rw [List.length_cons]; omega, rfl, fun a ha => ha⟩
    · by_cases hx : x ∈ c.pages
      · have hx2 := hs x hx
        rw [if_pos hx, if_pos hx2]
        have := List.length_erase_of_mem hx
        have := List.length_pos_of_mem hx
        refine ⟨by rw [List.length_cons]; omega, .inr ⟨by rw [List.length_cons]; omega, rfl, fun a ha => ?_⟩⟩
        rcases List.mem_cons.1 ha with rfl | ha
        · exact List.mem_cons_self ..
        · rw [nod1.mem_erase_iff] at ha
          exact List.mem_cons_of_mem _ (nod.mem_erase_iff.2 ⟨ha.1, hs a ha.2⟩)
      · rw [if_neg hx, if_pos (by rw [hl, s1])]
        obtain ⟨y, t, ht⟩ : ∃ y t, c.pages = y :: t := by
          rcases hc : c.pages with _ | ⟨y, t⟩
          · rw [hc] at hl; simp at hl; omega
          · exact ⟨y, t, rfl⟩
        rw [ht] at hl hh hs nod1 hx ⊢
        rw [List.nodup_cons] at nod1
        obtain ⟨g, hg⟩ : ∃ g, C.pages = y :: g := by
          rcases hc : C.pages with _ | ⟨y', g⟩
          · rw [hc] at hh; simp at hh
          · rw [hc] at hh; simp at hh; exact ⟨g, by rw [hh]⟩
        rw [hg] at hs nod ⊢
        rw [List.nodup_cons] at nod
        rw [List.eraseIdx_cons_zero]
        have htg : ∀ a ∈ t, a ∈ g := fun a ha => by
          rcases List.mem_cons.1 (hs a (List.mem_cons_of_mem _ ha)) with rfl | h
          · exact absurd ha nod1.1
          · exact h
        rw [List.length_cons] at hl
        refine ⟨by rw [List.length_cons]; omega, .inr ⟨by rw [List.length_cons]; omega, ?_, fun a ha => ?_⟩⟩
        · split <;> rfl
        · have hx0 : ¬ a = x → a ∈ t := fun h => (List.mem_cons.1 ha).resolve_left h
          by_cases hax : a = x
          · subst hax
            split <;> exact List.mem_cons_self ..
          · have hat := hx0 hax
            have hag := htg a hat
            split
            · refine List.mem_cons_of_mem _ ?_
              have : (y :: g).Nodup := List.nodup_cons.2 nod
              exact this.mem_erase_iff.2 ⟨hax, List.mem_cons_of_mem _ hag⟩
            · split
              · rw [List.eraseIdx_cons_zero]; exact List.mem_cons_of_mem _ hag
              · exact List.mem_cons_of_mem _ (List.mem_cons_of_mem _ hag)
  exact ⟨c1.1.trans p1, c2.1.trans p2, c1.2.trans s1, c2.2.trans s2, pos, hn1, hn, hkey.1, hkey.2⟩

theorem lru_run {K : Nat} (l : List Int) : ∀ {c C : Ca}, Lru K c C → Lru K (runC c l) (runC C l) := by
  induction l with
  | nil => exact fun h => h
  | cons x l ih => exact fun h => ih (h.step x)
theorem mru_run {K : Nat} (l : List Int) : ∀ {c C : Ca}, Mru K c C → Mru K (runC c l) (runC C l) := by
  induction l with
  | nil => exact fun h => h
  | cons x l ih => exact fun h => ih (h.step x)
/-- inclusion, with both policies -/
theorem stack_incl {p k : Int} (hp : p = 1 ∨ p = 7) (hk : 1 ≤ k) (l : List Int) : ∀ a ∈ (runC (newC p k) l).pages, a ∈ (runC (newC p (k + 1)) l).pages := by
  obtain ⟨K, rfl⟩ := Int.eq_ofNat_of_zero_le (by omega : 0 ≤ k)
  rcases hp with rfl | rfl
  · have h0 : Lru K (newC 1 (K : Int)) (newC 1 ((K : Int) + 1)) := ⟨rfl, rfl, rfl, rfl, by omega, by simp [newC], by simp [newC], by simp [newC]⟩
    intro a ha
    rw [(lru_run l h0).pre] at ha
    exact List.mem_of_mem_take ha
  · have h0 : Mru K (newC 7 (K : Int)) (newC 7 ((K : Int) + 1)) := ⟨rfl, rfl, rfl, rfl, by omega, by simp [newC], by simp [newC], by simp [newC], .inl ⟨by simp [newC]; omega, rfl⟩⟩
    intro a ha
    rcases (mru_run l h0).two with ⟨_, he⟩ | ⟨_, _, hs⟩
    · rwa [he] at ha
    · exact hs a ha
theorem places_fewer {p k : Int} (hp : p = 1 ∨ p = 7) (hk : 1 ≤ k) (l : List Int) : ∀ j, (placesTo (newC p (k + 1)) l j).length ≤ (placesTo (newC p k) l j).length := by
  intro j
  induction j with
  | zero => exact Nat.le_refl _
  | succ j ih =>
    unfold placesTo
    by_cases h1 : hasB (runC (newC p k) (l.take j)).pages (l.getD j 0) = true
    · have h2 : hasB (runC (newC p (k + 1)) (l.take j)).pages (l.getD j 0) = true := hasB_true.2 (stack_incl hp hk _ _ (hasB_true.1 h1))
      rw [if_pos h1, if_pos h2]
      exact ih
    · rw [if_neg h1]
      split
      · rw [List.length_append]; omega
      · rw [List.length_append, List.length_append]; simp only [List.length_cons, List.length_nil]; omega
end Go.Proofs.Ytfdmghohmohmpaa
