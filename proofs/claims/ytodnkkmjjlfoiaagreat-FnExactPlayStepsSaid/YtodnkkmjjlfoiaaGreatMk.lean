import Derived.Test.YtodnkkmjjlfoiaaGreatGo
/- phases, and what leaves a cache: plain -/
namespace Go.Proofs.YtodnkkmjjlfoiaaGreat

/-- after j requests: where the phase of the last of them begins -/
def startP (k : Int) (l : List Int) : Nat → Nat
  | 0 => 0
  | j + 1 => if decide (j = 0) || decide (k < ((diffL ((l.take (j + 1)).drop (startP k l j))).length : Int)) then j else startP k l j
/-- a phase begins at place j -/
def newB (k : Int) (l : List Int) (j : Nat) : Bool := decide (j = 0) || decide (k < ((diffL ((l.take (j + 1)).drop (startP k l j))).length : Int))
theorem startP_succ (k : Int) (l : List Int) (j : Nat) : startP k l (j + 1) = if newB k l j then j else startP k l j := rfl
/-- the places below j at which a phase begins -/
def phF (k : Int) (l : List Int) : Nat → List Int
  | 0 => []
  | j + 1 => if newB k l j then phF k l j ++ [(j : Int)] else phF k l j
theorem phF_succ (k : Int) (l : List Int) (j : Nat) : phF k l (j + 1) = if newB k l j then phF k l j ++ [(j : Int)] else phF k l j := rfl
theorem startP_le (k : Int) (l : List Int) (j : Nat) : startP k l j ≤ j := by
  induction j with
  | zero => exact Nat.le_refl _
  | succ j ih => rw [startP_succ]; split <;> omega
theorem startP_lt (k : Int) (l : List Int) (j : Nat) : startP k l (j + 1) ≤ j := by
  rw [startP_succ]; split
  · exact Nat.le_refl _
  · exact startP_le k l j
theorem phF_len (k : Int) (l : List Int) (j : Nat) : (phF k l j).length ≤ j := by
  induction j with
  | zero => exact Nat.le_refl _
  | succ j ih =>
    rw [phF_succ]
    split
    · simp; omega
    · omega
theorem phF_pos (k : Int) (l : List Int) (j : Nat) : 0 < (phF k l (j + 1)).length := by
  induction j with
  | zero => simp [phF, newB]
  | succ j ih =>
    rw [phF_succ]
    split
    · simp
    · exact ih
theorem phF_last (k : Int) (l : List Int) (j : Nat) : (phF k l (j + 1)).getD ((phF k l (j + 1)).length - 1) 0 = (startP k l (j + 1) : Int) := by
  induction j with
  | zero => simp [phF, newB, startP]
  | succ j ih =>
    rw [phF_succ k l (j + 1), startP_succ k l (j + 1)]
    split
    · rw [List.getD_eq_getElem?_getD, List.length_append, List.length_singleton, Nat.add_sub_cancel, List.getElem?_append_right (Nat.le_refl _)]
      simp
    · exact ih
theorem phF_has (k : Int) (l : List Int) (n i : Nat) : hasB (phF k l n) (i : Int) = (decide (i < n) && newB k l i) := by
  induction n with
  | zero => simp [phF, hasB]
  | succ n ih =>
    rw [phF_succ]
    by_cases hb : newB k l n = true
    · rw [if_pos hb]
      have e : hasB (phF k l n ++ [(n : Int)]) (i : Int) = (hasB (phF k l n) (i : Int) || decide (i = n)) := by
        unfold hasB
        rw [List.contains_append]
        congr 1
        by_cases h : i = n
        · subst h; simp
        · simp [h]; omega
      rw [e, ih]
      by_cases h : i = n
      · subst h; simp [hb]
      · have : decide (i < n + 1) = decide (i < n) := by
          by_cases h2 : i < n
          · simp [h2]; omega
          · simp [h2]; omega
        rw [this]; simp [h]
    · rw [if_neg hb, ih]
      by_cases h : i = n
      · subst h; simp [hb]
      · have : decide (i < n + 1) = decide (i < n) := by
          by_cases h2 : i < n
          · simp [h2]; omega
          · simp [h2]; omega
        rw [this]
/-- the last of the numbers that is at most i -/
def lastLE (i : Int) (a : List Int) : Int := a.foldl (fun f x => if x ≤ i then x else f) 0
theorem lastLE_snoc (i : Int) (a : List Int) (x : Int) : lastLE i (a ++ [x]) = if x ≤ i then x else lastLE i a := by simp [lastLE, List.foldl_append]
theorem lastLE_take (i : Int) (a : List Int) (q : Nat) (h : q < a.length) : lastLE i (a.take (q + 1)) = if a[q] ≤ i then a[q] else lastLE i (a.take q) := by
  rw [List.take_succ_eq_append_getElem h, lastLE_snoc]
theorem lastLE_full (k : Int) (l : List Int) (i : Nat) : ∀ n : Nat, n ≤ i + 1 → lastLE i (phF k l n) = startP k l n := by
  intro n
  induction n with
  | zero => intro _; rfl
  | succ n ih =>
    intro h
    rw [phF_succ, startP_succ]
    split
    · rw [lastLE_snoc, if_pos (by omega)]
    · exact ih (by omega)
theorem lastLE_phF (k : Int) (l : List Int) (i : Nat) : ∀ n : Nat, i < n → lastLE i (phF k l n) = startP k l (i + 1) := by
  intro n
  induction n with
  | zero => intro h; omega
  | succ n ih =>
    intro h
    by_cases hi : i = n
    · subst hi; exact lastLE_full k l i (i + 1) (Nat.le_refl _)
    · rw [phF_succ]
      split
      · rw [lastLE_snoc, if_neg (by omega)]; exact ih (by omega)
      · exact ih (by omega)
/-- what the reference keeps of a phase -/
theorem items_succ (k : Int) (l : List Int) (j : Nat) (hj : j < l.length) :
    putL (diffL ((l.take j).drop (startP k l j))) l[j] = diffL ((l.take (j + 1)).drop (startP k l j)) := by
  rw [List.take_succ_eq_append_getElem hj, List.drop_append_of_le_length (by rw [List.length_take]; have := startP_le k l j; omega), diffL_append]
theorem items_new (l : List Int) (j : Nat) (hj : j < l.length) : diffL ((l.take (j + 1)).drop j) = [l[j]] := by
  rw [List.take_succ_eq_append_getElem hj, List.drop_append_of_le_length (by rw [List.length_take]; omega), List.drop_of_length_le (by rw [List.length_take]; omega)]
  rfl

theorem nod_inj {l : List Int} (h : l.Nodup) {i j : Nat} (hi : i < l.length) (hj : j < l.length) (e : l[i] = l[j]) : i = j := by
  have hp := List.pairwise_iff_getElem.1 h
  rcases Nat.lt_trichotomy i j with h1 | h1 | h1
  · exact absurd e (hp i j hi hj h1)
  · exact h1
  · exact absurd e.symm (hp j i hj hi h1)
theorem gone_erase {l : List Int} (h : l.Nodup) {v : Nat} (hv : v < l.length) (y : Int) : (y ∈ l ∧ y ∉ l.eraseIdx v) ↔ y = l[v] := by
  rw [List.mem_eraseIdx_iff_getElem]
  constructor
  · rintro ⟨h1, h2⟩
    obtain ⟨i, hi, rfl⟩ := List.mem_iff_getElem.1 h1
    by_cases e : i = v
    · subst e; rfl
    · exact absurd ⟨i, hi, e, rfl⟩ h2
  · rintro rfl
    refine ⟨List.getElem_mem hv, ?_⟩
    rintro ⟨i, hi, hne, he⟩
    exact hne (nod_inj h hi hv he)
theorem gone_set {l : List Int} (h : l.Nodup) {v : Nat} (hv : v < l.length) {x : Int} (hx : x ∉ l) (y : Int) : (y ∈ l ∧ y ∉ l.set v x) ↔ y = l[v] := by
  constructor
  · rintro ⟨h1, h2⟩
    obtain ⟨i, hi, rfl⟩ := List.mem_iff_getElem.1 h1
    by_cases e : i = v
    · subst e; rfl
    · refine absurd (List.mem_iff_getElem.2 ⟨i, by simpa using hi, ?_⟩) h2
      rw [List.getElem_set_ne (fun h => e h.symm)]
  · rintro rfl
    refine ⟨List.getElem_mem hv, fun hm => ?_⟩
    obtain ⟨i, hi, he⟩ := List.mem_iff_getElem.1 hm
    rw [List.getElem_set] at he
    split at he
    · exact hx (he ▸ List.getElem_mem hv)
    · rename_i hne
      exact hne (nod_inj h (by simpa using hi) hv he).symm
theorem nod_set {l : List Int} (h : l.Nodup) (v : Nat) {x : Int} (hx : x ∉ l) : (l.set v x).Nodup := by
  refine List.pairwise_iff_getElem.2 (fun i j hi hj hij => ?_)
  rw [List.length_set] at hi hj
  rw [List.getElem_set, List.getElem_set]
  split
  · split
    · omega
    · exact fun e => hx (e ▸ List.getElem_mem hj)
  · split
    · exact fun e => hx (e ▸ List.getElem_mem hi)
    · exact fun e => absurd (nod_inj h hi hj e) (by omega)
theorem nod_erase {l : List Int} (h : l.Nodup) (v : Nat) : (l.eraseIdx v).Nodup := h.sublist (List.eraseIdx_sublist l v)
theorem nod_front {l : List Int} (h : l.Nodup) (v : Nat) (hv : v < l.length) : (l[v] :: l.eraseIdx v).Nodup :=
  List.nodup_cons.2 ⟨((gone_erase h hv l[v]).2 rfl).2, nod_erase h v⟩
theorem hasB_false {l : List Int} {x : Int} : hasB l x = false ↔ x ∉ l := by simp [hasB]
theorem hasB_true {l : List Int} {x : Int} : hasB l x = true ↔ x ∈ l := by simp [hasB]
theorem nod_step {c : Ca} (h : c.pages.Nodup) (x : Int) : (stepC c x).pages.Nodup := by
  unfold stepC
  split
  · rename_i hh
    rcases atI_spec c.pages x with ⟨_, k, hk, he⟩ | ⟨hn, _⟩
    · rw [he]
      unfold hitC
      split
      · simp only [Int.toNat_natCast, List.getD_eq_getElem?_getD, List.getElem?_eq_getElem hk, Option.getD_some]
        exact nod_front h k hk
      · split
        · exact h
        · split <;> exact h
    · rw [hn] at hh; cases hh
  · rename_i hh
    have hx : x ∉ c.pages := hasB_false.1 (by simpa using hh)
    unfold faultC
    split
    · unfold clockC
      split
      · rw [List.nodup_append]
        exact ⟨h, by simp, fun a ha b hb => by
          rw [List.mem_singleton] at hb
          subst hb
          exact fun e => hx (e ▸ ha)⟩
      · exact nod_set h _ hx
    · refine List.nodup_cons.2 ⟨?_, ?_⟩
      · split
        · split
          · simp
          · exact fun hm => hx (List.mem_of_mem_eraseIdx hm)
        · exact hx
      · split
        · split
          · simp
          · exact nod_erase h _
        · exact h
theorem nod_run {c : Ca} (h : c.pages.Nodup) (l : List Int) : (runC c l).pages.Nodup := by
  induction l generalizing c with
  | nil => exact h
  | cons x l ih => exact ih (nod_step h x)
/-- what a request puts out -/
def victL (c : Ca) (x : Int) : List Int := if hasB c.pages x || decide ((c.pages.length : Int) < c.size) then [] else if c.pol = 4 then diffL c.pages else [c.pages.getD (victim c) 0]
theorem victim_in {c : Ca} (h : Ok c) (hf : ¬ (c.pages.length : Int) < c.size) : victim c < c.pages.length := by
  have hs := h.size
  have hl := h.len
  by_cases h6 : c.pol = 6
  · have hh := h.hand
    obtain ⟨_, t2, _⟩ := turn_props c.size.toNat (by omega) (c.marks.length + 1) c.marks c.hand.toNat (by omega)
    unfold victim
    rw [if_neg (by omega), if_neg (by omega), if_pos h6]
    unfold turned
    omega
  · exact victim_lt h (by omega) h6
theorem gone_mem {c : Ca} (h : Ok c) (hn : c.pages.Nodup) (x y : Int) : y ∈ diffL (stay (hasB (stepC c x).pages) c.pages) ↔ y ∈ victL c x := by
  have hs := h.size
  have hl := h.len
  have hst : y ∈ diffL (stay (hasB (stepC c x).pages) c.pages) ↔ y ∈ c.pages ∧ y ∉ (stepC c x).pages := by
    rw [diffL_mem, stay, List.mem_filter]
    simp [hasB]
  rw [hst]
  unfold victL stepC
  cases hh : hasB c.pages x
  · have hx := hasB_false.1 hh
    simp only [Bool.false_or, Bool.false_eq_true, if_false]
    by_cases hf : (c.pages.length : Int) < c.size
    · rw [if_pos (by simpa using hf)]
      simp only [List.not_mem_nil, iff_false, not_and, Classical.not_not]
      intro hy
      unfold faultC
      split
      · unfold clockC; rw [if_pos hf]; exact List.mem_append_left _ hy
      · rw [if_neg (by omega)]; exact List.mem_cons_of_mem _ hy
    · rw [if_neg (by simpa using hf)]
      have hv := victim_in h hf
      have hfe : (c.pages.length : Int) = c.size := by omega
      have hne : ∀ {m : List Int}, (y ∈ c.pages ∧ y ∉ x :: m) ↔ (y ∈ c.pages ∧ y ∉ m) := fun {m} => by
        constructor
        · rintro ⟨h1, h2⟩; exact ⟨h1, fun h => h2 (List.mem_cons_of_mem _ h)⟩
        · rintro ⟨h1, h2⟩
          refine ⟨h1, fun h => ?_⟩
          rcases List.mem_cons.1 h with rfl | h
          · exact hx h1
          · exact h2 h
      have hgd : c.pages.getD (victim c) 0 = c.pages[victim c] := by rw [List.getD_eq_getElem?_getD, List.getElem?_eq_getElem hv]; rfl
      by_cases h4 : c.pol = 4
      · rw [if_pos h4, diffL_mem]
        unfold faultC
        rw [if_neg (by omega), if_pos hfe, if_pos h4]
        simp only [hne]
        simp
      · rw [if_neg h4, List.mem_singleton, hgd]
        unfold faultC
        by_cases h6 : c.pol = 6
        · rw [if_pos h6]
          unfold clockC
          rw [if_neg hf]
          have e : (turned c).2 = victim c := by unfold victim; rw [if_neg (by omega), if_neg (by omega), if_pos h6]
          simp only [e]
          exact gone_set hn hv hx y
        · rw [if_neg h6, if_pos hfe, if_neg h4]
          simp only [hne]
          exact gone_erase hn hv y
  · simp only [Bool.true_or, if_true, List.not_mem_nil, iff_false, not_and, Classical.not_not]
    intro hy
    rcases atI_spec c.pages x with ⟨_, k, hk, he⟩ | ⟨hn', _⟩
    · rw [he]
      unfold hitC
      split
      · simp only [Int.toNat_natCast, List.getD_eq_getElem?_getD, List.getElem?_eq_getElem hk, Option.getD_some]
        by_cases e : y = c.pages[k]
        · rw [e]; exact List.mem_cons_self
        · refine List.mem_cons_of_mem _ (Classical.byContradiction fun hm => e ((gone_erase hn hk y).1 ⟨hy, hm⟩))
      · split
        · exact hy
        · split <;> exact hy
    · rw [hn'] at hh; cases hh
/-- two lists have a number in common -/
def comB (a b : List Int) : Bool := a.any (hasB b)
theorem comB_same {a a' : List Int} (b : List Int) (h : ∀ y, y ∈ a ↔ y ∈ a') : comB a b = comB a' b := by
  unfold comB
  rw [Bool.eq_iff_iff, List.any_eq_true, List.any_eq_true]
  constructor
  · rintro ⟨y, h1, h2⟩; exact ⟨y, (h y).1 h1, h2⟩
  · rintro ⟨y, h1, h2⟩; exact ⟨y, (h y).2 h1, h2⟩
theorem comB_snoc (a b : List Int) (k : Nat) (h : k < a.length) : comB (a.take (k + 1)) b = (comB (a.take k) b || hasB b a[k]) := by
  rw [List.take_succ_eq_append_getElem h, comB, List.any_append]; simp [comB]
theorem comB_hit (a b : List Int) (k : Nat) (h : k < a.length) (hk : hasB b a[k] = true) : comB a b = true := List.any_eq_true.2 ⟨a[k], List.getElem_mem h, hk⟩
/-- place j breaks the rule of marking -/
def breakB (p k : Int) (l : List Int) (j : Nat) : Bool := comB (victL (runC (newC p k) (l.take j)) (l.getD j 0)) ((l.take j).drop (startP k l (j + 1)))
def markV (n p k : Int) (l : List Int) : Option Nat := if askedB n p k l then firstN (breakB p k l) l.length else none
theorem break_gone {p k : Int} (hok : Ok (newC p k)) (l : List Int) (j : Nat) (hj : j < l.length) :
    comB (diffL (stay (hasB (runC (newC p k) (l.take (j + 1))).pages) (runC (newC p k) (l.take j)).pages)) ((l.take j).drop (startP k l (j + 1))) = breakB p k l j := by
  rw [runC_snoc _ _ _ hj, breakB]
  have e : l.getD j 0 = l[j] := by rw [List.getD_eq_getElem?_getD, List.getElem?_eq_getElem hj]; rfl
  rw [e]
  exact comB_same _ (fun y => gone_mem (ok_run hok _) (nod_run (by simp [newC]) _) _ y)
end Go.Proofs.YtodnkkmjjlfoiaaGreat
