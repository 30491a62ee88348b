import Derived.Test.YtegipldajbkjfaaMk
/- items renamed: plain -/
namespace Go.Proofs.Ytegipldajbkjfaa

theorem putL_same {l : List Int} {n : Int} (hu : Up l) (hn : n ∈ l) : (putL l n).length = l.length := by
  induction l with
  | nil => cases hn
  | cons a l ih =>
    unfold Up at hu
    rw [List.pairwise_cons] at hu
    unfold putL
    split
    · rename_i h
      rcases List.mem_cons.1 hn with e | e
      · omega
      · rw [List.length_cons, ih hu.2 e, List.length_cons]
    · split
      · rfl
      · rename_i h1 h2
        rcases List.mem_cons.1 hn with e | e
        · exact absurd e.symm h2
        · have := hu.1 n e
          exact absurd this h1
theorem putL_le (l : List Int) (n : Int) : l.length ≤ (putL l n).length := by
  induction l with
  | nil => exact Nat.zero_le _
  | cons a l ih =>
    unfold putL
    split
    · simpa using ih
    · split
      · exact Nat.le_refl _
      · simp
theorem foldl_put_back : ∀ (l acc : List Int), Up acc → (l.foldl putL acc).length = acc.length + l.length → l.Nodup ∧ ∀ x ∈ l, x ∉ acc
  | [], _, _, _ => ⟨List.Pairwise.nil, fun _ h => by cases h⟩
  | a :: l, acc, hu, h => by
    rw [List.foldl_cons, List.length_cons] at h
    have hle : ∀ (l acc : List Int), (l.foldl putL acc).length ≤ acc.length + l.length := by
      intro l
      induction l with
      | nil => intro acc; exact Nat.le_refl _
      | cons b l ih =>
        intro acc
        have h1 := ih (putL acc b)
        have h2 := putL_len acc b
        rw [List.foldl_cons, List.length_cons]
        omega
    have h1 := hle l (putL acc a)
    have h2 := putL_len acc a
    have ha : a ∉ acc := fun e => by
      have := putL_same hu e
      omega
    obtain ⟨h3, h4⟩ := foldl_put_back l (putL acc a) (putL_up a hu) (by omega)
    refine ⟨List.nodup_cons.2 ⟨fun e => (h4 a e) (putL_mem.2 (.inr rfl)), h3⟩, fun x hx => ?_⟩
    rcases List.mem_cons.1 hx with rfl | hx
    · exact ha
    · exact fun e => h4 x hx (putL_mem.2 (.inl e))
theorem diffL_back {l : List Int} (h : (diffL l).length = l.length) : l.Nodup := (foldl_put_back l [] List.Pairwise.nil (by simpa [diffL] using h)).1
theorem putL_more {l : List Int} {n : Int} (hn : n ∉ l) : (putL l n).length = l.length + 1 := by
  induction l with
  | nil => rfl
  | cons a l ih =>
    rw [List.mem_cons, not_or] at hn
    unfold putL
    split
    · rw [List.length_cons, ih hn.2, List.length_cons]
    · rw [if_neg (fun e => hn.1 e.symm)]; rfl
theorem foldl_put_all : ∀ (l acc : List Int), l.Nodup → (∀ x ∈ l, x ∉ acc) → (l.foldl putL acc).length = acc.length + l.length
  | [], acc, _, _ => rfl
  | a :: l, acc, hn, h => by
    rw [List.nodup_cons] at hn
    rw [List.foldl_cons, foldl_put_all l (putL acc a) hn.2 (fun x hx hm => by
      rcases putL_mem.1 hm with hm | rfl
      · exact h x (List.mem_cons_of_mem _ hx) hm
      · exact hn.1 hx), putL_more (h a (List.mem_cons_self ..)), List.length_cons]
    omega
theorem diffL_all {l : List Int} (h : l.Nodup) : (diffL l).length = l.length := by
  have := foldl_put_all l [] h (fun x _ hm => by cases hm)
  simpa [diffL] using this

/-- an order of the items below n -/
def orderB (n : Int) (l : List Int) : Bool := decide ((l.length : Int) = n) && belowB n l && decide (((diffL l).length : Int) = n)
/-- the new name of an item -/
def renO (tt : List Int) (a : Int) : Int := if 0 ≤ a ∧ a < (tt.length : Int) then tt.getD a.toNat 0 else a
theorem order_inj {n : Int} {tt : List Int} (h : orderB n tt = true) : (∀ a b, renO tt a = renO tt b → a = b) ∧ (∀ a, 0 ≤ a ∧ a ≤ n - 1 → 0 ≤ renO tt a ∧ renO tt a ≤ n - 1) ∧ (tt.length : Int) = n := by
  unfold orderB belowB at h
  simp only [Bool.and_eq_true, decide_eq_true_eq, List.all_eq_true, inB_iff] at h
  obtain ⟨⟨h1, h2⟩, h3⟩ := h
  have hnod : tt.Nodup := diffL_back (by omega)
  have hin : ∀ a, 0 ≤ a ∧ a < (tt.length : Int) → 0 ≤ tt.getD a.toNat 0 ∧ tt.getD a.toNat 0 ≤ n - 1 := fun a ha => by
    have hlt : a.toNat < tt.length := by omega
    rw [List.getD_eq_getElem?_getD, List.getElem?_eq_getElem hlt]
    exact h2 _ (List.getElem_mem hlt)
  refine ⟨fun a b e => ?_, fun a ha => ?_, h1⟩
  · unfold renO at e
    split at e
    · rename_i ha
      split at e
      · rename_i hb
        have hla : a.toNat < tt.length := by omega
        have hlb : b.toNat < tt.length := by omega
        rw [List.getD_eq_getElem?_getD, List.getD_eq_getElem?_getD, List.getElem?_eq_getElem hla, List.getElem?_eq_getElem hlb] at e
        have := nod_inj hnod hla hlb e
        omega
      · rename_i hb
        have := hin a ha
        omega
    · rename_i ha
      split at e
      · rename_i hb
        have := hin b hb
        omega
      · exact e
  · unfold renO
    rw [if_pos (by omega)]
    exact hin a (by omega)

/-- a cache whose items are renamed -/
def mapC (f : Int → Int) (c : Ca) : Ca := { c with pages := c.pages.map f }
theorem has_map {f : Int → Int} (hf : ∀ a b, f a = f b → a = b) (l : List Int) (x : Int) : hasB (l.map f) (f x) = hasB l x := by
  rw [Bool.eq_iff_iff, hasB_true, hasB_true, List.mem_map]
  exact ⟨fun ⟨a, h1, h2⟩ => hf a x h2 ▸ h1, fun h => ⟨x, h, rfl⟩⟩
theorem idx_map {f : Int → Int} (hf : ∀ a b, f a = f b → a = b) (l : List Int) (x : Int) : (l.map f).idxOf (f x) = l.idxOf x := by
  induction l with
  | nil => rfl
  | cons a l ih =>
    rw [List.map_cons, List.idxOf_cons, List.idxOf_cons, ih]
    by_cases e : a = x
    · subst e; simp
    · have e2 : ¬ f a = f x := fun h => e (hf _ _ h)
      rw [show (f a == f x) = false by simpa using e2, show (a == x) = false by simpa using e]
theorem at_map {f : Int → Int} (hf : ∀ a b, f a = f b → a = b) (l : List Int) (x : Int) : atI (l.map f) (f x) = atI l x := by
  unfold atI
  rw [idx_map hf]
  by_cases e : x ∈ l
  · rw [if_pos e, if_pos (List.mem_map.2 ⟨x, e, rfl⟩)]
  · rw [if_neg e, if_neg (fun h => e (by
      obtain ⟨a, h1, h2⟩ := List.mem_map.1 h
      exact hf a x h2 ▸ h1))]
theorem erase_map (f : Int → Int) (l : List Int) (i : Nat) : (l.map f).eraseIdx i = (l.eraseIdx i).map f := by
  induction l generalizing i with
  | nil => rfl
  | cons a l ih => cases i with
    | zero => rfl
    | succ i => rw [List.map_cons, List.eraseIdx_cons_succ, List.eraseIdx_cons_succ, List.map_cons, ih]
theorem turned_map (f : Int → Int) (c : Ca) : turned (mapC f c) = turned c := rfl
theorem victim_map (f : Int → Int) (c : Ca) : victim (mapC f c) = victim c := by
  unfold victim
  rw [turned_map]
  simp [mapC]
theorem hit_map (f : Int → Int) (c : Ca) (i : Nat) (hi : i < c.pages.length) : hitC (mapC f c) i = mapC f (hitC c i) := by
  unfold hitC
  show (if c.pol = 1 ∨ c.pol = 7 then { mapC f c with pages := (c.pages.map f).getD i 0 :: (c.pages.map f).eraseIdx i } else if c.pol = 5 then { mapC f c with marks := c.marks.set i (min (c.marks.getD i 0 + 1) 60) } else if c.pol = 6 then { mapC f c with marks := c.marks.set i 1 } else mapC f c) = _
  by_cases h1 : c.pol = 1 ∨ c.pol = 7
  · rw [if_pos h1, if_pos h1, erase_map]
    have e : (c.pages.map f).getD i 0 = f (c.pages.getD i 0) := by
      rw [List.getD_eq_getElem?_getD, List.getD_eq_getElem?_getD, List.getElem?_map, List.getElem?_eq_getElem hi]
      rfl
    rw [e]
    rfl
  · rw [if_neg h1, if_neg h1]
    by_cases h5 : c.pol = 5
    · rw [if_pos h5, if_pos h5]; rfl
    · rw [if_neg h5, if_neg h5]
      by_cases h6 : c.pol = 6
      · rw [if_pos h6, if_pos h6]; rfl
      · rw [if_neg h6, if_neg h6]
theorem clock_map (f : Int → Int) (c : Ca) (x : Int) : clockC (mapC f c) (f x) = mapC f (clockC c x) := by
  unfold clockC
  rw [turned_map]
  show (if ((c.pages.map f).length : Int) < c.size then _ else _) = _
  rw [List.length_map]
  by_cases h : (c.pages.length : Int) < c.size
  · rw [if_pos h, if_pos h]
    simp [mapC]
  · rw [if_neg h, if_neg h]
    simp [mapC, List.map_set]
theorem fault_map (f : Int → Int) (c : Ca) (x : Int) : faultC (mapC f c) (f x) = mapC f (faultC c x) := by
  unfold faultC
  rw [victim_map, clock_map]
  show (if c.pol = 6 then _ else ({ mapC f c with pages := f x :: (if ((c.pages.map f).length : Int) = c.size then (if c.pol = 4 then [] else (c.pages.map f).eraseIdx (victim c)) else c.pages.map f), marks := if c.pol = 5 then 1 :: (if ((c.pages.map f).length : Int) = c.size then c.marks.eraseIdx (victim c) else c.marks) else c.marks } : Ca)) = _
  rw [List.length_map]
  by_cases h6 : c.pol = 6
  · rw [if_pos h6, if_pos h6]
  · rw [if_neg h6, if_neg h6]
    by_cases hl : (c.pages.length : Int) = c.size
    · simp only [if_pos hl]
      by_cases h4 : c.pol = 4
      · simp only [if_pos h4]; rfl
      · simp only [if_neg h4, erase_map]; rfl
    · simp only [if_neg hl]; rfl
theorem step_map {f : Int → Int} (hf : ∀ a b, f a = f b → a = b) (c : Ca) (x : Int) : stepC (mapC f c) (f x) = mapC f (stepC c x) := by
  unfold stepC
  rw [show (mapC f c).pages = c.pages.map f from rfl, has_map hf, at_map hf]
  cases hh : hasB c.pages x with
  | true =>
    rw [if_pos rfl, if_pos rfl]
    refine hit_map f c _ ?_
    rcases atI_spec c.pages x with ⟨_, i, hi, he⟩ | ⟨h0, _⟩
    · rw [he]; simpa using hi
    · rw [h0] at hh; cases hh
  | false =>
    rw [if_neg (by simp), if_neg (by simp)]
    exact fault_map f c x
theorem run_map {f : Int → Int} (hf : ∀ a b, f a = f b → a = b) : ∀ (l : List Int) (c : Ca), runC (mapC f c) (l.map f) = mapC f (runC c l)
  | [], _ => rfl
  | x :: l, c => by
    show runC (stepC (mapC f c) (f x)) (l.map f) = mapC f (runC (stepC c x) l)
    rw [step_map hf, run_map hf l]
theorem run_new {f : Int → Int} (hf : ∀ a b, f a = f b → a = b) (p k : Int) (l : List Int) : runC (newC p k) (l.map f) = mapC f (runC (newC p k) l) := by
  have := run_map hf l (newC p k)
  exact this
theorem places_map {f : Int → Int} (hf : ∀ a b, f a = f b → a = b) (p k : Int) (l : List Int) : ∀ j, j ≤ l.length → placesTo (newC p k) (l.map f) j = placesTo (newC p k) l j := by
  intro j
  induction j with
  | zero => exact fun _ => rfl
  | succ j ih =>
    intro hj
    unfold placesTo
    have e : (l.map f).getD j 0 = f (l.getD j 0) := by
      rw [List.getD_eq_getElem?_getD, List.getD_eq_getElem?_getD, List.getElem?_map, List.getElem?_eq_getElem (by omega : j < l.length)]
      rfl
    rw [← List.map_take, run_new hf, e, show (mapC f (runC (newC p k) (l.take j))).pages = (runC (newC p k) (l.take j)).pages.map f from rfl, has_map hf, ih (by omega)]
theorem held_map {f : Int → Int} (hf : ∀ a b, f a = f b → a = b) (p k : Int) (l : List Int) (i : Nat) :
    (diffL (runC (newC p k) ((l.map f).take i)).pages).length = (diffL (runC (newC p k) (l.take i)).pages).length ∧
    ∀ a ∈ diffL (runC (newC p k) (l.take i)).pages, hasB (diffL (runC (newC p k) ((l.map f).take i)).pages) (f a) = true := by
  rw [← List.map_take, run_new hf]
  have hn : (runC (newC p k) (l.take i)).pages.Nodup := nod_run (by simp [newC]) _
  refine ⟨?_, fun a ha => hasB_true.2 (diffL_mem.2 (List.mem_map.2 ⟨a, diffL_mem.1 ha, rfl⟩))⟩
  rw [diffL_all hn, diffL_all]
  · exact List.length_map ..
  · exact List.Pairwise.map f (fun a b h e => h (hf a b e)) hn

theorem step_held {c : Ca} (x y : Int) (h : y ∈ (stepC c x).pages) : y ∈ c.pages ∨ y = x := by
  have he : ∀ (l : List Int) (i : Nat), y ∈ l.eraseIdx i → y ∈ l := fun l i h => List.mem_of_mem_eraseIdx h
  unfold stepC at h
  split at h
  · unfold hitC at h
    split at h
    · simp only at h
      rcases List.mem_cons.1 h with e | e
      · left
        by_cases hi : (atI c.pages x).toNat < c.pages.length
        · rw [e]; exact getD_mem hi
        · rename_i hh _
          rcases atI_spec c.pages x with ⟨_, k, hk, hk2⟩ | ⟨h1, _⟩
          · rw [hk2] at hi; omega
          · rw [h1] at hh; cases hh
      · exact .inl (he _ _ e)
    · split at h
      · exact .inl h
      · split at h
        · exact .inl h
        · exact .inl h
  · unfold faultC at h
    split at h
    · unfold clockC at h
      split at h
      · simp only [List.mem_append, List.mem_singleton] at h; exact h
      · simp only at h
        rcases List.mem_or_eq_of_mem_set h with e | e
        · exact .inl e
        · exact .inr e
    · simp only at h
      rcases List.mem_cons.1 h with e | e
      · exact .inr e
      · left
        split at e
        · split at e
          · cases e
          · exact he _ _ e
        · exact e
theorem run_held (l : List Int) : ∀ (c : Ca) (y : Int), y ∈ (runC c l).pages → y ∈ c.pages ∨ y ∈ l := by
  induction l with
  | nil => intro c y h; exact .inl h
  | cons x l ih =>
    intro c y h
    rcases ih (stepC c x) y h with e | e
    · rcases step_held x y e with e | e
      · exact .inl e
      · exact .inr (by simp [e])
    · exact .inr (by simp [e])
end Go.Proofs.Ytegipldajbkjfaa
