import Derived.Test.YtodnkkmjjlfoiaaGreatGo
/- phases, and what leaves a cache: plain -/
namespace Go.Proofs.YtodnkkmjjlfoiaaGreat

theorem nod_inj {l : List Int} (h : l.Nodup) {i j : Nat} (hi : i < l.length) (hj : j < l.length) (e : l[i] = l[j]) : i = j := by
  have hp := List.pairwise_iff_getElem.1 h
  rcases Nat.lt_trichotomy i j with h1 | h1 | h1
  · exact absurd e (hp i j hi hj h1)
  · exact h1
  · exact absurd e.symm (hp j i hj hi h1)
theorem gone_erase {l : List Int} (h : l.Nodup) {v : Nat} (hv : v < l.length) (y : Int) : (y ∈ l ∧ y ∉ l.eraseIdx v) ↔ y = l[v] := by
  rw [List.mem_eraseIdx_iff_getElem]
  constructor
  · rintro ⟨h1, h2⟩
    obtain ⟨i, hi, rfl⟩ := List.mem_iff_getElem.1 h1
    by_cases e : i = v
    · subst e; rfl
    · exact absurd ⟨i, hi, e, rfl⟩ h2
  · rintro rfl
    refine ⟨List.getElem_mem hv, ?_⟩
    rintro ⟨i, hi, hne, he⟩
    exact hne (nod_inj h hi hv he)
theorem nod_set {l : List Int} (h : l.Nodup) (v : Nat) {x : Int} (hx : x ∉ l) : (l.set v x).Nodup := by
  refine List.pairwise_iff_getElem.2 (fun i j hi hj hij => ?_)
  rw [List.length_set] at hi hj
  rw [List.getElem_set, List.getElem_set]
  split
  · split
    · omega
    · exact fun e => hx (e ▸ List.getElem_mem hj)
  · split
    · exact fun e => hx (e ▸ List.getElem_mem hi)
    · exact fun e => absurd (nod_inj h hi hj e) (by omega)
theorem nod_erase {l : List Int} (h : l.Nodup) (v : Nat) : (l.eraseIdx v).Nodup := h.sublist (List.eraseIdx_sublist l v)
theorem nod_front {l : List Int} (h : l.Nodup) (v : Nat) (hv : v < l.length) : (l[v] :: l.eraseIdx v).Nodup :=
  List.nodup_cons.2 ⟨((gone_erase h hv l[v]).2 rfl).2, nod_erase h v⟩
theorem hasB_false {l : List Int} {x : Int} : hasB l x = false ↔ x ∉ l := by simp [hasB]
theorem hasB_true {l : List Int} {x : Int} : hasB l x = true ↔ x ∈ l := by simp [hasB]
theorem nod_step {c : Ca} (h : c.pages.Nodup) (x : Int) : (stepC c x).pages.Nodup := by
  unfold stepC
  split
  · rename_i hh
    rcases atI_spec c.pages x with ⟨_, k, hk, he⟩ | ⟨hn, _⟩
    · rw [he]
      unfold hitC
      split
      · simp only [Int.toNat_natCast, List.getD_eq_getElem?_getD, List.getElem?_eq_getElem hk, Option.getD_some]
        exact nod_front h k hk
      · split
        · exact h
        · split <;> exact h
    · rw [hn] at hh; cases hh
  · rename_i hh
    have hx : x ∉ c.pages := hasB_false.1 (by simpa using hh)
    unfold faultC
    split
    · unfold clockC
      split
      · rw [List.nodup_append]
        exact ⟨h, by simp, fun a ha b hb => by
          rw [List.mem_singleton] at hb
          subst hb
          exact fun e => hx (e ▸ ha)⟩
      · exact nod_set h _ hx
    · refine List.nodup_cons.2 ⟨?_, ?_⟩
      · split
        · split
          · simp
          · exact fun hm => hx (List.mem_of_mem_eraseIdx hm)
        · exact hx
      · split
        · split
          · simp
          · exact nod_erase h _
        · exact h
theorem nod_run {c : Ca} (h : c.pages.Nodup) (l : List Int) : (runC c l).pages.Nodup := by
  induction l generalizing c with
  | nil => exact h
  | cons x l ih => exact ih (nod_step h x)
theorem victim_in {c : Ca} (h : Ok c) (hf : ¬ (c.pages.length : Int) < c.size) : victim c < c.pages.length := by
  have hs := h.size
  have hl := h.len
  by_cases h6 : c.pol = 6
  · have hh := h.hand
    obtain ⟨_, t2, _⟩ := turn_props c.size.toNat (by omega) (c.marks.length + 1) c.marks c.hand.toNat (by omega)
    unfold victim
    rw [if_neg (by omega), if_neg (by omega), if_pos h6]
    unfold turned
    omega
  · exact victim_lt h (by omega) h6
end Go.Proofs.YtodnkkmjjlfoiaaGreat
