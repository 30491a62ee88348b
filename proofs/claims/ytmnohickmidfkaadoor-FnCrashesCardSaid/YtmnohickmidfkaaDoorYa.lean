import Derived.Lib.IndexMore
import Derived.Lib.ItoaNum
/- the log: bytes, checksums, lines and records: plain -/
namespace Go.Proofs.YtmnohickmidfkaaDoor

/-- what stands before the first x, and behind it -/
def preB (x : UInt8) (s : List UInt8) : List UInt8 := s.takeWhile (· != x)
def postB (x : UInt8) (s : List UInt8) : List UInt8 := (s.dropWhile (· != x)).drop 1
theorem preB_nil (x : UInt8) : preB x [] = [] := rfl
theorem postB_nil (x : UInt8) : postB x [] = [] := rfl
theorem preB_cons (x b : UInt8) (s : List UInt8) : preB x (b :: s) = if b = x then [] else b :: preB x s := by
  unfold preB
  by_cases h : b = x
  · subst h; simp
  · simp [h]
theorem postB_cons (x b : UInt8) (s : List UInt8) : postB x (b :: s) = if b = x then s else postB x s := by
  unfold postB
  by_cases h : b = x
  · subst h; simp
  · simp [h]
theorem pre_notin (x : UInt8) : ∀ s : List UInt8, x ∉ preB x s
  | [] => by simp [preB]
  | b :: s => by
    rw [preB_cons]
    by_cases h : b = x
    · simp [h]
    · rw [if_neg h]
      simp only [List.mem_cons, not_or]
      exact ⟨fun e => h e.symm, pre_notin x s⟩
theorem pre_post (x : UInt8) : ∀ s : List UInt8, x ∈ s → preB x s ++ x :: postB x s = s
  | [], h => by simp at h
  | b :: s, h => by
    rw [preB_cons, postB_cons]
    by_cases e : b = x
    · simp [e]
    · rw [if_neg e, if_neg e]
      have h' : x ∈ s := by
        rcases List.mem_cons.1 h with h | h
        · exact absurd h.symm e
        · exact h
      rw [List.cons_append, pre_post x s h']
theorem pre_all (x : UInt8) : ∀ s : List UInt8, x ∉ s → preB x s = s ∧ postB x s = []
  | [], _ => ⟨rfl, rfl⟩
  | b :: s, h => by
    rw [List.mem_cons, not_or] at h
    have e : ¬ b = x := fun e => h.1 e.symm
    obtain ⟨h1, h2⟩ := pre_all x s h.2
    rw [preB_cons, postB_cons, if_neg e, if_neg e, h1, h2]
    exact ⟨rfl, rfl⟩
theorem pre_join (x : UInt8) : ∀ a b : List UInt8, x ∉ a → preB x (a ++ x :: b) = a ∧ postB x (a ++ x :: b) = b
  | [], b, _ => by rw [List.nil_append, preB_cons, postB_cons]; simp
  | c :: a, b, h => by
    rw [List.mem_cons, not_or] at h
    have e : ¬ c = x := fun e => h.1 e.symm
    obtain ⟨h1, h2⟩ := pre_join x a b h.2
    rw [List.cons_append, preB_cons, postB_cons, if_neg e, if_neg e, h1, h2]
    exact ⟨rfl, rfl⟩
theorem pre_le (x : UInt8) (s : List UInt8) : (preB x s).length ≤ s.length := by
  by_cases h : x ∈ s
  · have e := congrArg List.length (pre_post x s h)
    simp only [List.length_append, List.length_cons] at e
    omega
  · rw [(pre_all x s h).1]; exact Nat.le_refl _
theorem pre_lt (x : UInt8) (s : List UInt8) (h : x ∈ s) : (preB x s).length < s.length := by
  have e := congrArg List.length (pre_post x s h)
  simp only [List.length_append, List.length_cons] at e
  omega
theorem post_drop (x : UInt8) (s : List UInt8) (h : x ∈ s) : postB x s = s.drop ((preB x s).length + 1) := by
  have e : s.drop ((preB x s).length + 1) = (preB x s ++ x :: postB x s).drop ((preB x s).length + 1) := by rw [pre_post x s h]
  rw [e, List.drop_append]
  simp
theorem pre_take (x : UInt8) (s : List UInt8) : preB x s = s.take (preB x s).length := by
  by_cases h : x ∈ s
  · have e : s.take (preB x s).length = (preB x s ++ x :: postB x s).take (preB x s).length := by rw [pre_post x s h]
    rw [e, List.take_left]
  · rw [(pre_all x s h).1, List.take_length]

/-- the library's index and cut at one byte -/
theorem index_one (x : UInt8) : ∀ s : List UInt8, Lib.index s [x] = if x ∈ s then ((preB x s).length : Int) else -1
  | [] => by simp [Lib.index]
  | b :: s => by
    unfold Lib.index
    rw [index_one x s, preB_cons]
    by_cases e : b = x
    · subst e; simp [List.isPrefixOf]
    · have e' : ¬ x = b := fun h => e h.symm
      have hp : ([x].isPrefixOf (b :: s)) = false := by simp [List.isPrefixOf, e']
      rw [hp, if_neg e]
      by_cases h : x ∈ s
      · rw [if_pos h, if_pos (List.mem_cons_of_mem _ h)]
        have : (((preB x s).length : Int) == -1) = false := by rw [beq_eq_false_iff_ne]; omega
        rw [this]
        simp
      · have h' : x ∉ b :: s := by rw [List.mem_cons, not_or]; exact ⟨e', h⟩
        rw [if_neg h, if_neg h']
        rfl
theorem cut_one (x : UInt8) (s : List UInt8) : Lib.cut s [x] = (preB x s, postB x s, decide (x ∈ s)) := by
  unfold Lib.cut
  rw [index_one]
  by_cases h : x ∈ s
  · rw [if_pos h, if_pos (by omega)]
    have e1 : ((preB x s).length : Int).toNat = (preB x s).length := by omega
    rw [e1, ← pre_take]
    have e2 : s.drop ((preB x s).length + [x].length) = postB x s := (post_drop x s h).symm
    rw [e2]
    simp [h]
  · rw [if_neg h, if_neg (by decide), (pre_all x s h).1, (pre_all x s h).2]
    simp [h]
theorem contains_one (x : UInt8) (s : List UInt8) : Lib.contains s [x] = decide (x ∈ s) := by
  unfold Lib.contains
  rw [index_one]
  by_cases h : x ∈ s
  · rw [if_pos h]; simp [h]
  · rw [if_neg h]; simp [h]

/-- digits -/
theorem dec_digit : ∀ (u : Nat) (b : UInt8), b ∈ Lib.decDigits u → 48 ≤ b.toNat ∧ b.toNat ≤ 57 := by
  intro u
  induction u using Nat.strongRecOn with
  | _ u ih =>
    intro b hb
    have hd : ∀ d, d < 10 → (UInt8.ofNat (48 + d)).toNat = 48 + d := by
      intro d hd
      rw [UInt8.toNat_ofNat']
      omega
    by_cases h : u < 10
    · rw [Lib.decDigits, dif_pos h, List.mem_singleton] at hb
      rw [hb, hd u h]
      omega
    · rw [Lib.decDigits, dif_neg h, List.mem_append, List.mem_singleton] at hb
      rcases hb with hb | hb
      · exact ih (u / 10) (by omega) b hb
      · rw [hb, hd (u % 10) (by omega)]
        omega
theorem dec_len : ∀ (n u : Nat), u < 10 ^ (n + 1) → (Lib.decDigits u).length ≤ n + 1
  | 0, u, h => by
    have h' : u < 10 := by simpa using h
    rw [Lib.decDigits, dif_pos h']
    exact Nat.le_refl _
  | n + 1, u, h => by
    by_cases h' : u < 10
    · rw [Lib.decDigits, dif_pos h']
      simp
    · rw [Lib.decDigits, dif_neg h', List.length_append, List.length_singleton]
      have := dec_len n (u / 10) (by rw [Nat.pow_succ] at h; omega)
      omega
theorem dec_pos (u : Nat) : 1 ≤ (Lib.decDigits u).length := by
  by_cases h' : u < 10
  · rw [Lib.decDigits, dif_pos h']; exact Nat.le_refl _
  · rw [Lib.decDigits, dif_neg h', List.length_append, List.length_singleton]; omega
theorem dec_notin (u : Nat) (x : UInt8) (h : x.toNat < 48 ∨ 57 < x.toNat) : x ∉ Lib.decDigits u := fun hx => by
  have := dec_digit u x hx
  omega

/-- the checksum, a sealed text, the line of a record -/
def sumStep (h : Nat) (b : UInt8) : Nat := (41 * h + b.toNat + 1) % 999979
def sumL (s : List UInt8) : Nat := s.foldl sumStep 7
theorem sumStep_lt (h : Nat) (b : UInt8) : sumStep h b < 999979 := Nat.mod_lt _ (by decide)
theorem sumFold_lt : ∀ (s : List UInt8) (h : Nat), h < 999979 → s.foldl sumStep h < 999979
  | [], _, hh => hh
  | b :: s, h, _ => by rw [List.foldl_cons]; exact sumFold_lt s _ (sumStep_lt h b)
theorem sumL_lt (s : List UInt8) : sumL s < 999979 := sumFold_lt s 7 (by decide)
theorem sumL_take (s : List UInt8) (i : Nat) (h : i < s.length) : sumL (s.take (i + 1)) = sumStep (sumL (s.take i)) s[i] := by
  unfold sumL
  rw [List.take_succ_eq_append_getElem h, List.foldl_append]
  rfl
def sealL (s : List UInt8) : List UInt8 := s ++ 35 :: Lib.decDigits (sumL s)
theorem seal_len (s : List UInt8) : s.length + 1 ≤ (sealL s).length ∧ (sealL s).length ≤ s.length + 7 := by
  have h1 := dec_len 5 (sumL s) (Nat.lt_trans (sumL_lt s) (by decide))
  unfold sealL
  rw [List.length_append, List.length_cons]
  omega
def textL (k : Nat) (c r : List UInt8) : List UInt8 := Lib.decDigits k ++ 32 :: (c ++ 64 :: r)
def lineL (k : Nat) (c r : List UInt8) : List UInt8 := sealL (textL k c r)
/-- a byte that may stand in a record -/
def okC (b : UInt8) : Bool := decide (32 ≤ b.toNat) && decide (b.toNat ≤ 126) && b != 35
def recB (c r : List UInt8) : Bool := decide (1 ≤ c.length) && decide (c.length ≤ 160) && c.all okC && !decide (64 ∈ c) && decide (r.length ≤ 200) && r.all okC
theorem okC_notin {s : List UInt8} (h : s.all okC = true) : (35 : UInt8) ∉ s := fun hx => by
  have := List.all_eq_true.1 h 35 hx
  revert this
  decide
theorem recB_parts {c r : List UInt8} (h : recB c r = true) : 1 ≤ c.length ∧ c.length ≤ 160 ∧ c.all okC = true ∧ 64 ∉ c ∧ r.length ≤ 200 ∧ r.all okC = true := by
  unfold recB at h
  simp only [Bool.and_eq_true, decide_eq_true_eq, Bool.not_eq_true', decide_eq_false_iff_not] at h
  obtain ⟨⟨⟨⟨⟨h1, h2⟩, h3⟩, h4⟩, h5⟩, h6⟩ := h
  exact ⟨h1, h2, h3, h4, h5, h6⟩

/-- the command and the reply of a text -/
def ofText (t : List UInt8) : List UInt8 × List UInt8 := (preB 64 (postB 32 t), postB 64 (postB 32 t))
theorem textL_cut (k : Nat) (c r : List UInt8) : preB 32 (textL k c r) = Lib.decDigits k ∧ postB 32 (textL k c r) = c ++ 64 :: r :=
  pre_join 32 _ _ (dec_notin k 32 (by decide))
theorem ofText_text (k : Nat) (c r : List UInt8) (h : 64 ∉ c) : ofText (textL k c r) = (c, r) := by
  unfold ofText
  rw [(textL_cut k c r).2, (pre_join 64 c r h).1, (pre_join 64 c r h).2]
theorem text_notin (k : Nat) (c r : List UInt8) (h : recB c r = true) : (35 : UInt8) ∉ textL k c r := by
  obtain ⟨_, _, h3, _, _, h6⟩ := recB_parts h
  unfold textL
  rw [List.mem_append, List.mem_cons, List.mem_append, List.mem_cons]
  rintro (hx | hx | hx | hx | hx)
  · exact dec_notin k 35 (by decide) hx
  · exact absurd hx (by decide)
  · exact okC_notin h3 hx
  · exact absurd hx (by decide)
  · exact okC_notin h6 hx
theorem line_cut (k : Nat) (c r : List UInt8) (h : recB c r = true) : preB 35 (lineL k c r) = textL k c r := (pre_join 35 _ _ (text_notin k c r h)).1
theorem text_len (k : Nat) (c r : List UInt8) (hk : k < 60) (h : recB c r = true) : (textL k c r).length ≤ 364 := by
  obtain ⟨_, h2, _, _, h5, _⟩ := recB_parts h
  have h1 := dec_len 1 k (by omega)
  unfold textL
  simp only [List.length_append, List.length_cons]
  omega
theorem line_len (k : Nat) (c r : List UInt8) (hk : k < 60) (h : recB c r = true) : (lineL k c r).length ≤ 371 := by
  have h1 := (seal_len (textL k c r)).2
  have h2 := text_len k c r hk h
  unfold lineL
  omega

/-- THE RECORD OF A LINE, if it is one with that number -/
def decB (k : Nat) (s : List UInt8) : Option (List UInt8 × List UInt8) :=
  if decide (k < 60) && recB (ofText (preB 35 s)).1 (ofText (preB 35 s)).2 && decide (lineL k (ofText (preB 35 s)).1 (ofText (preB 35 s)).2 = s) then some (ofText (preB 35 s)) else none
theorem decB_some {k : Nat} {s c r : List UInt8} (h : decB k s = some (c, r)) : k < 60 ∧ recB c r = true ∧ lineL k c r = s ∧ ofText (preB 35 s) = (c, r) := by
  unfold decB at h
  split at h
  · rename_i h1
    have e := Option.some.inj h
    rw [e] at h1
    simp only [Bool.and_eq_true, decide_eq_true_eq] at h1
    exact ⟨h1.1.1, h1.1.2, h1.2, e⟩
  · cases h
theorem decB_of {k : Nat} {s c r : List UInt8} (hk : k < 60) (h : recB c r = true) (hl : lineL k c r = s) : decB k s = some (c, r) := by
  obtain ⟨_, _, _, h4, _, _⟩ := recB_parts h
  have e : ofText (preB 35 s) = (c, r) := by rw [← hl, line_cut k c r h, ofText_text k c r h4]
  unfold decB
  rw [e]
  simp only [hk, h, hl, decide_true, Bool.and_self, if_true]
/-- as the program reads it: a sealed text, taken apart, encodes to the line -/
def verB (s : List UInt8) : Bool := decide (s.length ≤ 4000) && decide (sealL (preB 35 s) = s)
theorem decB_verB {k : Nat} {s c r : List UInt8} (h : decB k s = some (c, r)) : verB s = true := by
  obtain ⟨hk, hr, hl, _⟩ := decB_some h
  unfold verB
  rw [Bool.and_eq_true, decide_eq_true_eq, decide_eq_true_eq]
  refine ⟨?_, ?_⟩
  · rw [← hl]; exact Nat.le_trans (line_len k c r hk hr) (by decide)
  · rw [← hl, line_cut k c r hr]; rfl
theorem decB_impl (k : Nat) (s : List UInt8) : (verB s && (decide (k < 60) && recB (ofText (preB 35 s)).1 (ofText (preB 35 s)).2 && decide (lineL k (ofText (preB 35 s)).1 (ofText (preB 35 s)).2 = s))) = (decB k s).isSome := by
  cases hd : decB k s with
  | some e =>
    obtain ⟨c, r⟩ := e
    obtain ⟨hk, hr, hl, he⟩ := decB_some hd
    rw [decB_verB hd, he]
    simp only [hk, hr, hl, decide_true, Bool.and_self, Option.isSome_some]
  | none =>
    unfold decB at hd
    split at hd
    · cases hd
    · rename_i h1
      rw [Bool.eq_false_iff.2 h1, Bool.and_false]
      rfl
/-- as the reference reads it: the number ahead, then what stands behind it -/
theorem decB_spec (k : Nat) (hk : k < 60) (s : List UInt8) :
    decB k s = if (Lib.decDigits k ++ [32]).isPrefixOf (preB 35 s) && (decide (64 ∈ (preB 35 s).drop ((Lib.decDigits k).length + 1)) && (recB (preB 64 ((preB 35 s).drop ((Lib.decDigits k).length + 1))) (postB 64 ((preB 35 s).drop ((Lib.decDigits k).length + 1))) && decide (lineL k (preB 64 ((preB 35 s).drop ((Lib.decDigits k).length + 1))) (postB 64 ((preB 35 s).drop ((Lib.decDigits k).length + 1))) = s))) then some (preB 64 ((preB 35 s).drop ((Lib.decDigits k).length + 1)), postB 64 ((preB 35 s).drop ((Lib.decDigits k).length + 1))) else none := by
  split
  · rename_i h
    simp only [Bool.and_eq_true, decide_eq_true_eq] at h
    exact decB_of hk h.2.2.1 h.2.2.2
  · rename_i h
    cases hd : decB k s with
    | none => rfl
    | some e =>
      exfalso
      obtain ⟨c, r⟩ := e
      obtain ⟨_, hr, hl, _⟩ := decB_some hd
      obtain ⟨_, _, _, h4, _, _⟩ := recB_parts hr
      apply h
      have e1 : preB 35 s = textL k c r := by rw [← hl, line_cut k c r hr]
      have e2 : (textL k c r).drop ((Lib.decDigits k).length + 1) = c ++ 64 :: r := by
        unfold textL
        rw [List.drop_append]
        simp
      have e3 : (Lib.decDigits k ++ [32]).isPrefixOf (textL k c r) = true := by
        rw [List.isPrefixOf_iff_prefix]
        exact ⟨c ++ 64 :: r, by unfold textL; simp⟩
      rw [e1, e2, e3, (pre_join 64 c r h4).1, (pre_join 64 c r h4).2, hr, hl]
      simp

/-- THE RECORDS AT THE BEGINNING OF BYTES, with the number of the first: n of them may still come -/
def openB : Nat → Nat → List UInt8 → List (List UInt8 × List UInt8 × Nat)
  | 0, _, _ => []
  | n + 1, k, s => if (10 : UInt8) ∈ s then
      match decB k (preB 10 s) with
      | some (c, r) => (c, r, (preB 10 s).length + 1) :: openB n (k + 1) (postB 10 s)
      | none => []
    else []
def lenB : List (List UInt8 × List UInt8 × Nat) → Nat
  | [] => 0
  | x :: l => x.2.2 + lenB l
/-- the places behind each record, those of nothing ahead -/
def endsB (from_ : Nat) : List (List UInt8 × List UInt8 × Nat) → List Nat
  | [] => []
  | x :: l => (from_ + x.2.2) :: endsB (from_ + x.2.2) l
theorem lenB_le : ∀ (n k : Nat) (s : List UInt8), lenB (openB n k s) ≤ s.length
  | 0, _, _ => Nat.zero_le _
  | n + 1, k, s => by
    unfold openB
    split
    · rename_i h
      split
      · have h1 := lenB_le n (k + 1) (postB 10 s)
        have h2 := congrArg List.length (pre_post 10 s h)
        simp only [List.length_append, List.length_cons] at h2
        simp only [lenB]
        omega
      · exact Nat.zero_le _
    · exact Nat.zero_le _
theorem openB_len : ∀ (n k : Nat) (s : List UInt8), (openB n k s).length ≤ n
  | 0, _, _ => Nat.zero_le _
  | n + 1, k, s => by
    unfold openB
    split
    · split
      · have := openB_len n (k + 1) (postB 10 s)
        simp only [List.length_cons]
        omega
      · exact Nat.zero_le _
    · exact Nat.zero_le _
theorem ends_ge : ∀ (l : List (List UInt8 × List UInt8 × Nat)) (a x : Nat), x ∈ endsB a l → a ≤ x
  | [], _, _, h => by simp [endsB] at h
  | y :: l, a, x, h => by
    simp only [endsB, List.mem_cons] at h
    rcases h with h | h
    · omega
    · have := ends_ge l _ x h
      omega
theorem ends_shift : ∀ (l : List (List UInt8 × List UInt8 × Nat)) (a b x : Nat), (b + x ∈ endsB (b + a) l) ↔ x ∈ endsB a l
  | [], _, _, _ => by simp [endsB]
  | y :: l, a, b, x => by
    simp only [endsB, List.mem_cons]
    rw [Nat.add_assoc, ends_shift l (a + y.2.2) b x]
    constructor
    · rintro (h | h)
      · exact Or.inl (by omega)
      · exact Or.inr h
    · rintro (h | h)
      · exact Or.inl (by omega)
      · exact Or.inr h
/-- WHERE THE BYTES MAY BE PARTED: the first part is read whole just if its length is one of the places behind records -/
theorem open_part : ∀ (n k : Nat) (d p : List UInt8), lenB (openB n k d) = d.length ↔ (d.length = 0 ∨ d.length ∈ endsB 0 (openB n k (d ++ p)))
  | 0, k, d, p => by
    simp only [openB, lenB, endsB, List.not_mem_nil, or_false]
    exact ⟨fun h => h.symm, fun h => h.symm⟩
  | n + 1, k, d, p => by
    by_cases hd : (10 : UInt8) ∈ d
    · have e1 : preB 10 (d ++ p) = preB 10 d ∧ postB 10 (d ++ p) = postB 10 d ++ p := by
        have e : d ++ p = preB 10 d ++ 10 :: (postB 10 d ++ p) := by
          rw [← List.cons_append, ← List.append_assoc, pre_post 10 d hd]
        rw [e]
        exact pre_join 10 _ _ (pre_notin 10 d)
      have hdp : (10 : UInt8) ∈ d ++ p := List.mem_append_left _ hd
      unfold openB
      rw [if_pos hd, if_pos hdp, e1.1, e1.2]
      have hlen := congrArg List.length (pre_post 10 d hd)
      simp only [List.length_append, List.length_cons] at hlen
      cases decB k (preB 10 d) with
      | none =>
        simp only [lenB, endsB, List.not_mem_nil, or_false]
        exact ⟨fun h => h.symm, fun h => h.symm⟩
      | some e =>
        obtain ⟨c, r⟩ := e
        have ih := open_part n (k + 1) (postB 10 d) p
        simp only [lenB, endsB, List.mem_cons, Nat.zero_add]
        have hs := ends_shift (openB n (k + 1) (postB 10 d ++ p)) 0 ((preB 10 d).length + 1) (postB 10 d).length
        rw [Nat.add_zero] at hs
        have e2 : d.length = (preB 10 d).length + 1 + (postB 10 d).length := by omega
        rw [e2, hs]
        constructor
        · intro h
          rcases ih.1 (by omega) with h1 | h1
          · exact Or.inr (Or.inl (by omega))
          · exact Or.inr (Or.inr h1)
        · rintro (h | h | h)
          · omega
          · have := ih.2 (Or.inl (by omega))
            omega
          · have := ih.2 (Or.inr h)
            omega
    · have e0 : openB (n + 1) k d = [] := by unfold openB; rw [if_neg hd]
      rw [e0]
      simp only [lenB]
      constructor
      · intro h
        exact Or.inl h.symm
      · rintro (h | h)
        · exact h.symm
        · exfalso
          unfold openB at h
          split at h
          · rename_i hdp
            split at h
            · simp only [endsB, List.mem_cons, Nat.zero_add] at h
              have hge : d.length ≤ (preB 10 (d ++ p)).length := by
                have e : preB 10 (d ++ p) = d ++ preB 10 p := by
                  unfold preB
                  rw [List.takeWhile_append_of_pos]
                  intro a ha
                  rw [bne_iff_ne]
                  intro e
                  exact hd (e ▸ ha)
                rw [e, List.length_append]
                omega
              rcases h with h | h
              · omega
              · have := ends_ge _ _ _ h
                omega
            · simp [endsB] at h
          · simp [endsB] at h

end Go.Proofs.YtmnohickmidfkaaDoor
