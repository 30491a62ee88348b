import Derived.Test.YtmnohickmidfkaaDoorWi
/- a crash, read again: plain -/
namespace Go.Proofs.YtmnohickmidfkaaDoor
open Go.RowKit

theorem openB_pre : ∀ (n j : Nat) (s t : List UInt8), openB n j s <+: openB n j (s ++ t)
  | 0, _, _, _ => List.prefix_rfl
  | n + 1, j, s, t => by
    by_cases h10 : (10 : UInt8) ∈ s
    · cases hd : decB j (preB 10 s) with
      | none => rw [openB_none h10 hd]; exact List.nil_prefix
      | some e =>
        obtain ⟨c, r⟩ := e
        have e2 := openB_some (n := n) (j := j) (s := s ++ t) (c := c) (r := r) (List.mem_append_left _ h10) (by rw [(cut_app s t h10).1]; exact hd)
        rw [(cut_app s t h10).1, (cut_app s t h10).2] at e2
        rw [openB_some h10 hd, e2]
        exact List.cons_prefix_cons.2 ⟨rfl, openB_pre n (j + 1) (postB 10 s) t⟩
    · have e0 : openB (n + 1) j s = [] := by unfold openB; rw [if_neg h10]
      rw [e0]
      exact List.nil_prefix
theorem openB_tail : ∀ (n j : Nat) (s : List UInt8) (x : UInt8), x ≠ 10 → openB n j (s ++ [x]) = openB n j s
  | 0, _, _, _, _ => rfl
  | n + 1, j, s, x, hx => by
    by_cases h10 : (10 : UInt8) ∈ s
    · cases hd : decB j (preB 10 s) with
      | none => rw [openB_none h10 hd, openB_none (List.mem_append_left _ h10) (by rw [(cut_app s [x] h10).1]; exact hd)]
      | some e =>
        obtain ⟨c, r⟩ := e
        have e2 := openB_some (n := n) (j := j) (s := s ++ [x]) (c := c) (r := r) (List.mem_append_left _ h10) (by rw [(cut_app s [x] h10).1]; exact hd)
        rw [(cut_app s [x] h10).1, (cut_app s [x] h10).2] at e2
        rw [openB_some h10 hd, e2, openB_tail n (j + 1) (postB 10 s) x hx]
    · have e0 : openB (n + 1) j s = [] := by unfold openB; rw [if_neg h10]
      have h11 : (10 : UInt8) ∉ s ++ [x] := by
        rw [List.mem_append, List.mem_singleton]
        rintro (h | h)
        · exact h10 h
        · exact hx h.symm
      have e1 : openB (n + 1) j (s ++ [x]) = [] := by unfold openB; rw [if_neg h11]
      rw [e0, e1]
theorem open_take : ∀ (n j : Nat) (s : List UInt8), openB n j (s.take (lenB (openB n j s))) = openB n j s
  | 0, _, _ => rfl
  | n + 1, j, s => by
    by_cases h10 : (10 : UInt8) ∈ s
    · cases hd : decB j (preB 10 s) with
      | none => rw [openB_none h10 hd]; exact openB_nil _ _
      | some e =>
        obtain ⟨c, r⟩ := e
        rw [openB_some h10 hd]
        obtain ⟨m, hm⟩ : ∃ m, lenB (openB n (j + 1) (postB 10 s)) = m := ⟨_, rfl⟩
        have ih := open_take n (j + 1) (postB 10 s)
        rw [hm] at ih
        have e1 : lenB ((c, r, (preB 10 s).length + 1) :: openB n (j + 1) (postB 10 s)) = (preB 10 s).length + 1 + m := by
          show (preB 10 s).length + 1 + lenB (openB n (j + 1) (postB 10 s)) = _
          rw [hm]
        have e2 : s.take ((preB 10 s).length + 1 + m) = preB 10 s ++ 10 :: (postB 10 s).take m := by
          have : s.take ((preB 10 s).length + 1 + m) = (preB 10 s ++ 10 :: postB 10 s).take ((preB 10 s).length + 1 + m) := by rw [pre_post 10 s h10]
          rw [this, Nat.add_assoc, List.take_append]
          simp [Nat.add_comm 1 m]
          exact List.take_of_length_le (by omega)
        rw [e1, e2]
        obtain ⟨p1, p2⟩ := pre_join 10 (preB 10 s) ((postB 10 s).take m) (pre_notin 10 s)
        have e3 := openB_some (n := n) (j := j) (s := preB 10 s ++ 10 :: (postB 10 s).take m) (c := c) (r := r) (by simp) (by rw [p1]; exact hd)
        rw [p1, p2, ih] at e3
        exact e3
    · have e0 : openB (n + 1) j s = [] := by unfold openB; rw [if_neg h10]
      rw [e0]
      exact openB_nil _ _
theorem lenB_pre {A B : List (List UInt8 × List UInt8 × Nat)} (h : A <+: B) : lenB A ≤ lenB B := by
  obtain ⟨C, rfl⟩ := h
  induction A with
  | nil => exact Nat.zero_le _
  | cons x A ih => simp only [lenB, List.cons_append]; omega
theorem line_low (k : Nat) (c r : List UInt8) (h : recB c r = true) : ∀ x ∈ lineL k c r, x.toNat ≤ 126 := by
  obtain ⟨_, _, h3, _, _, h6⟩ := recB_parts h
  have hok : ∀ s : List UInt8, s.all okC = true → ∀ x ∈ s, x.toNat ≤ 126 := fun s hs x hx => by
    have := List.all_eq_true.1 hs x hx
    unfold okC at this
    simp only [Bool.and_eq_true, decide_eq_true_eq] at this
    exact this.1.2
  intro x hx
  unfold lineL sealL textL at hx
  simp only [List.mem_append, List.mem_cons] at hx
  rcases hx with (hx | hx | hx | hx | hx) | hx | hx
  · have := dec_digit _ _ hx; omega
  · subst hx; decide
  · exact hok c h3 x hx
  · subst hx; decide
  · exact hok r h6 x hx
  · subst hx; decide
  · have := dec_digit _ _ hx; omega
theorem full_low : ∀ (n j : Nat) (s : List UInt8), lenB (openB n j s) = s.length → ∀ x ∈ s, x.toNat ≤ 126
  | 0, j, s, h => by
    have : s = [] := List.eq_nil_of_length_eq_zero h.symm
    subst this
    intro x hx
    cases hx
  | n + 1, j, s, h => by
    by_cases h10 : (10 : UInt8) ∈ s
    · have hp := pre_post 10 s h10
      have hlen := congrArg List.length hp
      simp only [List.length_append, List.length_cons] at hlen
      cases hd : decB j (preB 10 s) with
      | none => rw [openB_none h10 hd] at h; simp only [lenB] at h; omega
      | some e =>
        obtain ⟨c, r⟩ := e
        rw [openB_some h10 hd] at h
        simp only [lenB] at h
        obtain ⟨_, hr, hl, _⟩ := decB_some hd
        intro x hx
        rw [← hp] at hx
        rcases List.mem_append.1 hx with hx | hx
        · rw [← hl] at hx; exact line_low j c r hr x hx
        · rcases List.mem_cons.1 hx with hx | hx
          · subst hx; decide
          · exact full_low n (j + 1) (postB 10 s) (by omega) x hx
    · have e0 : openB (n + 1) j s = [] := by unfold openB; rw [if_neg h10]
      rw [e0] at h
      have : s = [] := List.eq_nil_of_length_eq_zero h.symm
      subst this
      intro x hx
      cases hx
theorem flip_snoc (q : List UInt8) (x : UInt8) : flipL (q ++ [x]) = q ++ [255 - x] := by
  unfold flipL
  simp

/-- what is read behind a crash -/
theorem crash_facts {d p : List UInt8} {n keep : Int} {torn : Bool} (h : crB d p n keep = true) :
    validB d p n = true ∧ (crT d p n keep torn).length ≤ 30000 ∧ openB 60 0 (crT d p n keep torn) <+: recL d p n ∧ d.length ≤ lenB (openB 60 0 (crT d p n keep torn)) ∧ 0 ≤ keep ∧ keep ≤ (p.length : Int) ∧
    (torn = false → ¬ keep < (p.length : Int) → openB 60 0 (crT d p n keep torn) = recL d p n) := by
  have hh := h
  unfold crB at hh
  rw [Bool.and_eq_true] at hh
  obtain ⟨hv, hi⟩ := hh
  obtain ⟨h0, h1⟩ := inB_iff.1 hi
  obtain ⟨k, rfl⟩ := Int.eq_ofNat_of_zero_le h0
  obtain ⟨v1, v2, v3, v4⟩ := valid_full hv
  have hL : recL d p n = openB 60 0 (d ++ p) := by unfold recL; rw [if_pos hv]
  have hpt : p = p.take k ++ p.drop k := (List.take_append_drop k p).symm
  have base : openB 60 0 (d ++ p.take k) <+: openB 60 0 (d ++ p) := by
    have := openB_pre 60 0 (d ++ p.take k) (p.drop k)
    rwa [List.append_assoc, List.take_append_drop] at this
  have hkk : (p.take k).length = k := by rw [List.length_take]; omega
  rw [hL]
  by_cases ht : torn = true ∧ 0 < k
  · obtain ⟨rfl, hk⟩ := ht
    obtain ⟨q, x, hq⟩ : ∃ q x, p.take k = q ++ [x] := by
      rcases List.eq_nil_or_concat (p.take k) with h | ⟨q, x, h⟩
      · rw [h] at hkk; simp at hkk; omega
      · exact ⟨q, x, by simpa using h⟩
    have hs : crT d p n (k : Int) true = (d ++ q) ++ [255 - x] := by
      unfold crT
      rw [if_pos h, if_pos (by simp; omega), Int.toNat_natCast, hq, flip_snoc, List.append_assoc]
    have hx : x.toNat ≤ 126 := full_low 60 0 (d ++ p) (by rw [v2, List.length_append]) x (List.mem_append_right _ (by rw [hpt, hq]; simp))
    have hx10 : (255 - x : UInt8) ≠ 10 := by
      intro e
      have h2 : (255 - x : UInt8).toNat = 255 - x.toNat := UInt8.toNat_sub_of_le _ _ (by rw [UInt8.le_iff_toNat_le]; show x.toNat ≤ 255; omega)
      rw [e] at h2
      have : (10 : UInt8).toNat = 10 := rfl
      omega
    have hql : q.length + 1 = k := by rw [← hkk, hq]; simp
    rw [hs, openB_tail 60 0 (d ++ q) _ hx10]
    refine ⟨hv, ?_, ?_, ?_, by omega, h1, fun hc => absurd hc (by decide)⟩
    · simp only [List.length_append, List.length_singleton]; omega
    · have := openB_pre 60 0 (d ++ q) [x]
      rw [List.append_assoc, ← hq] at this
      exact this.trans base
    · have := lenB_pre (openB_pre 60 0 d q)
      omega
  · have hs : crT d p n (k : Int) torn = d ++ p.take k := by
      unfold crT
      rw [if_pos h, Int.toNat_natCast]
      split
      · rename_i hc
        simp only [Bool.and_eq_true, decide_eq_true_eq] at hc
        exact absurd ⟨hc.1, by omega⟩ ht
      · rfl
    rw [hs]
    refine ⟨hv, ?_, base, ?_, by omega, h1, fun _ hk => ?_⟩
    · rw [List.length_append, hkk]; omega
    · have := lenB_pre (openB_pre 60 0 d (p.take k))
      omega
    · have : p.take k = p := List.take_of_length_le (by omega)
      rw [this]
theorem read_facts (s : List UInt8) (h : s.length ≤ 30000) :
    validB (s.take (lenB (openB 60 0 s))) [] ((openB 60 0 s).length : Int) = true ∧ (s.take (lenB (openB 60 0 s))).length = lenB (openB 60 0 s) ∧ recL (s.take (lenB (openB 60 0 s))) [] ((openB 60 0 s).length : Int) = openB 60 0 s := by
  have h1 := lenB_le 60 0 s
  have h2 : (s.take (lenB (openB 60 0 s))).length = lenB (openB 60 0 s) := by rw [List.length_take]; omega
  have h3 := open_take 60 0 s
  have hv : validB (s.take (lenB (openB 60 0 s))) [] ((openB 60 0 s).length : Int) = true := by
    unfold validB
    rw [List.append_nil, h3, h2]
    simp only [List.length_nil, Nat.add_zero, Bool.and_eq_true, decide_eq_true_eq]
    exact ⟨by omega, trivial, trivial, trivial⟩
  refine ⟨hv, h2, ?_⟩
  unfold recL
  rw [if_pos hv, List.append_nil, h3]
theorem recC_app : ∀ (A B : List (List UInt8 × List UInt8 × Nat)), recC (A ++ B) = recC A ++ recC B
  | [], _ => rfl
  | x :: A, B => by
    have := recC_app A B
    unfold recC at this ⊢
    simp [this]
theorem recC_take {A B : List (List UInt8 × List UInt8 × Nat)} (h : A <+: B) : (recC B).take (A.length * 2) = recC A := by
  obtain ⟨C, rfl⟩ := h
  rw [recC_app, ← recC_len, List.take_left']
  rfl
end Go.Proofs.YtmnohickmidfkaaDoor
