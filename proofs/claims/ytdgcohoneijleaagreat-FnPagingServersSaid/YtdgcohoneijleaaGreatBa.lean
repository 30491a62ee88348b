import Derived.Test.YtdgcohoneijleaaGreatPkX2
import Derived.Test.YtdgcohoneijleaaGreatBase
/- the farthest next use leaves: no sequence of caches has fewer faults (plain) -/
namespace Go.Proofs.YtdgcohoneijleaaGreat

/-- at most k pages -/
def Fits (k : Nat) (S : Int → Prop) : Prop := ∃ L : List Int, L.length ≤ k ∧ ∀ x, S x → x ∈ L
/-- caches from S on can serve the list with c faults -/
def Sim (k : Nat) : List Int → (Int → Prop) → Nat → Prop
  | [], _, c => c = 0
  | r :: l, S, c => ∃ S1 : Int → Prop, S1 r ∧ (∀ x, S1 x → S x ∨ x = r) ∧ Fits k S1 ∧ ∃ c1, Sim k l S1 c1 ∧ ((S r ∧ c = c1) ∨ (¬ S r ∧ c = c1 + 1))

theorem Fits.sub {k : Nat} {S T : Int → Prop} (h : Fits k S) (hT : ∀ x, T x → S x) : Fits k T := by
  obtain ⟨L, h1, h2⟩ := h
  exact ⟨L, h1, fun x hx => h2 x (hT x hx)⟩

theorem sim_mono {k : Nat} {l : List Int} {S S' : Int → Prop} {c : Nat} (hS : ∀ x, S x → S' x) (h : Sim k l S c) : ∃ c', c' ≤ c ∧ Sim k l S' c' := by
  cases l with
  | nil => exact ⟨c, Nat.le_refl _, h⟩
  | cons r l =>
    obtain ⟨S1, h1, h2, h3, c1, h4, h5⟩ := h
    by_cases hr : S' r
    · exact ⟨c1, by rcases h5 with ⟨_, e⟩ | ⟨_, e⟩ <;> omega, S1, h1, fun x hx => (h2 x hx).imp (hS x) id, h3, c1, h4, .inl ⟨hr, rfl⟩⟩
    · have : ¬ S r := fun e => hr (hS r e)
      exact ⟨c1 + 1, by rcases h5 with ⟨e, _⟩ | ⟨_, e⟩; exact absurd e this; omega, S1, h1, fun x hx => (h2 x hx).imp (hS x) id, h3, c1, h4, .inr ⟨hr, rfl⟩⟩

/-- one page less costs one fault more at most -/
theorem sim_lose {k : Nat} (q : Int) {l : List Int} : ∀ {S T : Int → Prop} {c : Nat}, (∀ x, S x → T x ∨ x = q) → Sim k l S c → ∃ c', c' ≤ c + 1 ∧ Sim k l T c' := by
  induction l with
  | nil => intro S T c _ h; exact ⟨c, by omega, h⟩
  | cons r l ih =>
    intro S T c hS h
    obtain ⟨S1, h1, h2, h3, c1, h4, h5⟩ := h
    by_cases hrq : r = q
    · subst hrq
      have hsub : ∀ x, S1 x → T x ∨ x = r := fun x hx => by
        rcases h2 x hx with h | h
        · exact hS x h
        · exact .inr h
      by_cases hr : T r
      · exact ⟨c1, by rcases h5 with ⟨_, e⟩ | ⟨_, e⟩ <;> omega, S1, h1, hsub, h3, c1, h4, .inl ⟨hr, rfl⟩⟩
      · exact ⟨c1 + 1, by rcases h5 with ⟨_, e⟩ | ⟨_, e⟩ <;> omega, S1, h1, hsub, h3, c1, h4, .inr ⟨hr, rfl⟩⟩
    · obtain ⟨c2, h6, h7⟩ := ih (S := S1) (T := fun x => S1 x ∧ x ≠ q) (fun x hx => by
        by_cases e : x = q
        · exact .inr e
        · exact .inl ⟨hx, e⟩) h4
      have hsub : ∀ x, (S1 x ∧ x ≠ q) → T x ∨ x = r := fun x hx => by
        rcases h2 x hx.1 with h | h
        · rcases hS x h with h | h
          · exact .inl h
          · exact absurd h hx.2
        · exact .inr h
      have hfit : Fits k (fun x => S1 x ∧ x ≠ q) := h3.sub (fun x hx => hx.1)
      by_cases hr : T r
      · exact ⟨c2, by rcases h5 with ⟨_, e⟩ | ⟨_, e⟩ <;> omega, _, ⟨h1, hrq⟩, hsub, hfit, c2, h7, .inl ⟨hr, rfl⟩⟩
      · have hn : ¬ S r := fun e => (hS r e).elim hr hrq
        exact ⟨c2 + 1, by rcases h5 with ⟨e, _⟩ | ⟨_, e⟩; exact absurd e hn; omega, _, ⟨h1, hrq⟩, hsub, hfit, c2, h7, .inr ⟨hr, rfl⟩⟩

theorem Fits.swap {k : Nat} {S : Int → Prop} {p q : Int} (h : Fits k S) (hp : S p) : Fits k (fun x => (S x ∧ x ≠ p) ∨ x = q) := by
  obtain ⟨L, h1, h2⟩ := h
  refine ⟨L.map (fun x => if x = p then q else x), by simpa using h1, fun x hx => ?_⟩
  rw [List.mem_map]
  rcases hx with ⟨hx, hn⟩ | hx
  · exact ⟨x, h2 x hx, by rw [if_neg hn]⟩
  · exact ⟨p, h2 p hp, by rw [if_pos rfl, hx]⟩

/-- what is used sooner is the better one to hold -/
theorem sim_swap {k : Nat} {p q : Int} (hpq : p ≠ q) {l : List Int} : ∀ {S T T' : Int → Prop} {c : Nat}, l.idxOf q ≤ l.idxOf p → ¬ T q → (∀ x, S x → T x ∨ x = p) → (∀ x, T x ∨ x = q → T' x) →
    Sim k l S c → ∃ c', c' ≤ c ∧ Sim k l T' c' := by
  induction l with
  | nil => intro S T T' c _ _ _ _ h; exact ⟨c, Nat.le_refl _, h⟩
  | cons r l ih =>
    intro S T T' c hidx hTq hS hT' h
    obtain ⟨S1, h1, h2, h3, c1, h4, h5⟩ := h
    by_cases hrq : r = q
    · subst hrq
      have hn : ¬ S r := fun e => (hS r e).elim hTq (fun e => hpq e.symm)
      obtain ⟨c2, h6, h7⟩ := sim_lose p (S := S1) (T := fun x => S1 x ∧ x ≠ p) (fun x hx => by
        by_cases e : x = p
        · exact .inr e
        · exact .inl ⟨hx, e⟩) h4
      refine ⟨c2, by rcases h5 with ⟨e, _⟩ | ⟨_, e⟩; exact absurd e hn; omega, _, ⟨h1, fun e => hpq e.symm⟩, fun x hx => ?_, h3.sub (fun x hx => hx.1), c2, h7, .inl ⟨hT' r (.inr rfl), rfl⟩⟩
      rcases h2 x hx.1 with h | h
      · rcases hS x h with h | h
        · exact .inl (hT' x (.inl h))
        · exact absurd h hx.2
      · exact .inr h
    · by_cases hrp : r = p
      · subst hrp
        have e1 : (r == q) = false := by simpa using hrq
        simp [List.idxOf_cons, e1] at hidx
      · have hidx' : l.idxOf q ≤ l.idxOf p := by
          have e1 : (r == q) = false := by simpa using hrq
          have e2 : (r == p) = false := by simpa using hrp
          simp only [List.idxOf_cons, e1, e2, cond_false] at hidx
          omega
        have hcost : ∀ c2, c2 ≤ c1 → ∀ S2 : Int → Prop, S2 r → (∀ x, S2 x → T' x ∨ x = r) → Fits k S2 → Sim k l S2 c2 → ∃ c', c' ≤ c ∧ Sim k (r :: l) T' c' := fun c2 h6 S2 g1 g2 g3 g4 => by
          by_cases hr : T' r
          · exact ⟨c2, by rcases h5 with ⟨_, e⟩ | ⟨_, e⟩ <;> omega, S2, g1, g2, g3, c2, g4, .inl ⟨hr, rfl⟩⟩
          · have hn : ¬ S r := fun e => (hS r e).elim (fun e => hr (hT' r (.inl e))) hrp
            exact ⟨c2 + 1, by rcases h5 with ⟨e, _⟩ | ⟨_, e⟩; exact absurd e hn; omega, S2, g1, g2, g3, c2, g4, .inr ⟨hr, rfl⟩⟩
        by_cases hp : S1 p
        · have hq : ¬ S1 q := fun e => by
            rcases h2 q e with h | h
            · exact (hS q h).elim hTq (fun e => hpq e.symm)
            · exact hrq h.symm
          obtain ⟨c2, h6, h7⟩ := ih (S := S1) (T := fun x => S1 x ∧ x ≠ p) (T' := fun x => (S1 x ∧ x ≠ p) ∨ x = q) hidx' (fun e => hq e.1) (fun x hx => by
            by_cases e : x = p
            · exact .inr e
            · exact .inl ⟨hx, e⟩) (fun x hx => hx) h4
          refine hcost c2 h6 _ (.inl ⟨h1, hrp⟩) (fun x hx => ?_) (h3.swap hp) h7
          rcases hx with ⟨hx, hn⟩ | hx
          · rcases h2 x hx with h | h
            · rcases hS x h with h | h
              · exact .inl (hT' x (.inl h))
              · exact absurd h hn
            · exact .inr h
          · exact .inl (hT' x (.inr hx))
        · refine hcost c1 (Nat.le_refl _) S1 h1 (fun x hx => ?_) h3 h4
          rcases h2 x hx with h | h
          · rcases hS x h with h | h
            · exact .inl (hT' x (.inl h))
            · exact absurd (h ▸ hx) hp
          · exact .inr h

theorem nodup_le {l m : List Int} (hl : l.Nodup) (h : ∀ x ∈ l, x ∈ m) : l.length ≤ m.length := by
  induction l generalizing m with
  | nil => simp
  | cons x l ih =>
    rw [List.nodup_cons] at hl
    have hx : x ∈ m := h x (List.mem_cons_self ..)
    have := ih (m := m.erase x) hl.2 (fun y hy => (List.mem_erase_of_ne (fun e : y = x => hl.1 (by rw [← e]; exact hy))).2 (h y (List.mem_cons_of_mem _ hy)))
    rw [List.length_erase_of_mem hx] at this
    have := List.length_pos_of_mem hx
    simp only [List.length_cons]
    omega

/-- a full cache and one page more do not fit -/
theorem fits_miss {k : Nat} {cache : List Int} {r : Int} {S1 : Int → Prop} (hn : cache.Nodup) (hr : r ∉ cache) (hk : k ≤ cache.length) (h1 : S1 r) (h3 : Fits k S1) : ∃ q, q ∈ cache ∧ ¬ S1 q := by
  obtain ⟨L, h4, h5⟩ := h3
  refine Classical.byContradiction fun hno => ?_
  have hall : ∀ q, q ∈ cache → S1 q := fun q hq => Classical.byContradiction fun e => hno ⟨q, hq, e⟩
  have := nodup_le (l := r :: cache) (m := L) (List.nodup_cons.2 ⟨hr, hn⟩) (fun x hx => by
    rcases List.mem_cons.1 hx with rfl | hx
    · exact h5 _ h1
    · exact h5 _ (hall x hx))
  simp only [List.length_cons] at this
  omega

/-- what is farthest leaves a full cache -/
def IsFar (l cache : List Int) (p : Int) : Prop := p ∈ cache ∧ ∀ q, q ∈ cache → l.idxOf q ≤ l.idxOf p
/-- one request, the farthest page leaving: the cache behind it -/
def Step5 (k : Nat) (l : List Int) (r : Int) (c c' : List Int) : Prop :=
  if r ∈ c then c' = c else if c.length = k then ∃ p, IsFar l c p ∧ c' = c.filter (· != p) ++ [r] else c' = c ++ [r]
/-- the faults of such caches -/
def Far (k : Nat) : List Int → List Int → Nat → Prop
  | [], _, f => f = 0
  | r :: l, c, f => ∃ c' f1, Step5 k l r c c' ∧ Far k l c' f1 ∧ f = (if r ∈ c then f1 else f1 + 1)

theorem nodup_snoc {l : List Int} {x : Int} (h : l.Nodup) (hx : x ∉ l) : (l ++ [x]).Nodup := by
  rw [List.nodup_append]
  refine ⟨h, by simp, fun a ha b hb => ?_⟩
  rw [List.mem_singleton] at hb
  subst hb
  exact fun e => hx (e ▸ ha)
theorem mem_filt {l : List Int} {p : Int → Bool} {x : Int} (h : x ∈ l.filter p) : x ∈ l := (List.mem_filter.1 h).1
theorem filter_len {l : List Int} {p : Int} (h : l.Nodup) (hp : p ∈ l) : (l.filter (· != p)).length + 1 = l.length := by
  induction l with
  | nil => cases hp
  | cons x l ih =>
    rw [List.nodup_cons] at h
    by_cases e : x = p
    · subst e
      have : l.filter (· != x) = l := List.filter_eq_self.2 (fun a ha => by
        simp only [bne_iff_ne, ne_eq]
        exact fun e => h.1 (e ▸ ha))
      simp [this]
    · have := ih h.2 (by rcases List.mem_cons.1 hp with h | h; exact absurd h.symm e; exact h)
      simp [e]
      omega
theorem Step5.ok {k : Nat} {l : List Int} {r : Int} {c c' : List Int} (h : Step5 k l r c c') (hn : c.Nodup) (hk : c.length ≤ k) : c'.Nodup ∧ c'.length ≤ k ∧ r ∈ c' ∧ ∀ x, x ∈ c' → x ∈ c ∨ x = r := by
  unfold Step5 at h
  split at h
  · rename_i hr
    subst h
    exact ⟨hn, hk, hr, fun x hx => .inl hx⟩
  · rename_i hr
    split at h
    · obtain ⟨p, hp, rfl⟩ := h
      have := filter_len hn hp.1
      refine ⟨nodup_snoc (hn.filter _) (fun e => hr (mem_filt e)), by simp; omega, by simp, fun x hx => ?_⟩
      rcases List.mem_append.1 hx with h | h
      · exact .inl (mem_filt h)
      · exact .inr (by simpa using h)
    · subst h
      refine ⟨nodup_snoc hn hr, by simp; omega, by simp, fun x hx => ?_⟩
      rcases List.mem_append.1 hx with h | h
      · exact .inl h
      · exact .inr (by simpa using h)

theorem far_sim {k : Nat} {l : List Int} : ∀ {c : List Int} {f : Nat}, c.Nodup → c.length ≤ k → Far k l c f → Sim k l (· ∈ c) f := by
  induction l with
  | nil => intro c f _ _ h; exact h
  | cons r l ih =>
    intro c f hn hk h
    obtain ⟨c', f1, h1, h2, h3⟩ := h
    obtain ⟨g1, g2, g3, g4⟩ := h1.ok hn hk
    refine ⟨(· ∈ c'), g3, g4, ⟨c', g2, fun x hx => hx⟩, f1, ih g1 g2 h2, ?_⟩
    by_cases hr : r ∈ c
    · rw [if_pos hr] at h3; exact .inl ⟨hr, h3⟩
    · rw [if_neg hr] at h3; exact .inr ⟨hr, h3⟩
theorem far_least {k : Nat} {l : List Int} : ∀ {c : List Int} {f n : Nat}, c.Nodup → c.length ≤ k → Far k l c f → Sim k l (· ∈ c) n → f ≤ n := by
  induction l with
  | nil => intro c f n _ _ h _; have : f = 0 := h; omega
  | cons r l ih =>
    intro c f n hn hk h hs
    obtain ⟨c', f1, h1, h2, h3⟩ := h
    have hok := h1.ok hn hk
    obtain ⟨S1, s1, s2, s3, n1, s4, s5⟩ := hs
    have key : ∃ n2, n2 ≤ n1 ∧ Sim k l (· ∈ c') n2 := by
      unfold Step5 at h1
      by_cases hr : r ∈ c
      · rw [if_pos hr] at h1
        subst h1
        exact sim_mono (fun x hx => (s2 x hx).elim id (fun e => e ▸ hr)) s4
      · rw [if_neg hr] at h1
        by_cases hf : c.length = k
        · rw [if_pos hf] at h1
          obtain ⟨p, hp, rfl⟩ := h1
          obtain ⟨q, hq, hnq⟩ := fits_miss hn hr (by omega) s1 s3
          have hsub : ∀ x, S1 x → (x ∈ c ∧ x ≠ q) ∨ x = r := fun x hx => by
            rcases s2 x hx with h | h
            · exact .inl ⟨h, fun e => hnq (e ▸ hx)⟩
            · exact .inr h
          by_cases hpq : p = q
          · subst hpq
            refine sim_mono (fun x hx => ?_) s4
            rcases hsub x hx with h | h
            · exact List.mem_append.2 (.inl (List.mem_filter.2 ⟨h.1, by simpa using h.2⟩))
            · exact List.mem_append.2 (.inr (by simp [h]))
          · refine sim_swap (p := p) (q := q) hpq (T := fun x => (x ∈ c ∧ x ≠ q ∧ x ≠ p) ∨ x = r) (hp.2 q hq) ?_ ?_ ?_ s4
            · rintro (⟨_, h, _⟩ | h)
              · exact h rfl
              · exact hr (h ▸ hq)
            · intro x hx
              by_cases e : x = p
              · exact .inr e
              · rcases hsub x hx with h | h
                · exact .inl (.inl ⟨h.1, h.2, e⟩)
                · exact .inl (.inr h)
            · rintro x ((⟨h1, _, h3⟩ | h) | h)
              · exact List.mem_append.2 (.inl (List.mem_filter.2 ⟨h1, by simpa using h3⟩))
              · exact List.mem_append.2 (.inr (by simp [h]))
              · subst h
                exact List.mem_append.2 (.inl (List.mem_filter.2 ⟨hq, by simpa using fun e => hpq e.symm⟩))
        · rw [if_neg hf] at h1
          subst h1
          refine sim_mono (fun x hx => ?_) s4
          rcases s2 x hx with h | h
          · exact List.mem_append.2 (.inl h)
          · exact List.mem_append.2 (.inr (by simp [h]))
    obtain ⟨n2, k1, k2⟩ := key
    have := ih hok.1 hok.2.1 h2 k2
    by_cases hr : r ∈ c
    · rw [if_pos hr] at h3
      rcases s5 with ⟨_, e⟩ | ⟨e, _⟩
      · omega
      · exact absurd hr e
    · rw [if_neg hr] at h3
      rcases s5 with ⟨e, _⟩ | ⟨_, e⟩
      · exact absurd e hr
      · omega
/-- the least number of faults from an empty cache on -/
def Fewest (k : Nat) (l : List Int) (f : Nat) : Prop := Sim k l (fun _ => False) f ∧ ∀ n, Sim k l (fun _ => False) n → f ≤ n
theorem Fewest.uni {k : Nat} {l : List Int} {f f' : Nat} (h : Fewest k l f) (h' : Fewest k l f') : f = f' := Nat.le_antisymm (h.2 _ h'.1) (h'.2 _ h.1)
theorem far_fewest {k : Nat} {l : List Int} {f : Nat} (h : Far k l [] f) : Fewest k l f := by
  have e : (fun _ : Int => False) = (· ∈ ([] : List Int)) := by funext x; simp
  unfold Fewest
  rw [e]
  exact ⟨far_sim List.nodup_nil (Nat.zero_le _) h, fun n hn => far_least List.nodup_nil (Nat.zero_le _) h hn⟩
end Go.Proofs.YtdgcohoneijleaaGreat
