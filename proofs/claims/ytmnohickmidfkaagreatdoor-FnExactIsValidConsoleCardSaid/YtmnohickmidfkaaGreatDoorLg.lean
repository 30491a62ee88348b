import Derived.Lib.IndexMore
import Derived.Lib.ItoaNum
import Derived.Test.YtmnohickmidfkaaGreatDoorI
import Derived.Test.YtmnohickmidfkaaGreatDoorQv
import Derived.Test.YtmnohickmidfkaaGreatDoorShelf
import Derived.Lib.AppendIntMem
import Derived.Test.YtmnohickmidfkaaGreatDoorDat
import Derived.Test.YtmnohickmidfkaaGreatDoorT
import Derived.Test.YtmnohickmidfkaaGreatDoorBase
import Derived.WalkKit
import Derived.ProofKit
import Derived.OpenShut
import Derived.ShutString
import Derived.ChangeOld
import Derived.ChangeMaps5
import Derived.Below
/- the log: bytes, checksums, lines and records: plain -/
namespace Go.Proofs.YtmnohickmidfkaaGreatDoor

/-- what stands before the first x, and behind it -/
def preB (x : UInt8) (s : List UInt8) : List UInt8 := s.takeWhile (· != x)
def postB (x : UInt8) (s : List UInt8) : List UInt8 := (s.dropWhile (· != x)).drop 1
theorem preB_nil (x : UInt8) : preB x [] = [] := rfl
theorem postB_nil (x : UInt8) : postB x [] = [] := rfl
theorem preB_cons (x b : UInt8) (s : List UInt8) : preB x (b :: s) = if b = x then [] else b :: preB x s := by
  unfold preB
  by_cases h : b = x
  · subst h; simp
  · simp [h]
theorem postB_cons (x b : UInt8) (s : List UInt8) : postB x (b :: s) = if b = x then s else postB x s := by
  unfold postB
  by_cases h : b = x
  · subst h; simp
  · simp [h]
theorem pre_notin (x : UInt8) : ∀ s : List UInt8, x ∉ preB x s
  | [] => by simp [preB]
  | b :: s => by
    rw [preB_cons]
    by_cases h : b = x
    · simp [h]
    · rw [if_neg h]
      simp only [List.mem_cons, not_or]
      exact ⟨fun e => h e.symm, pre_notin x s⟩
theorem pre_post (x : UInt8) : ∀ s : List UInt8, x ∈ s → preB x s ++ x :: postB x s = s
  | [], h => by simp at h
  | b :: s, h => by
    rw [preB_cons, postB_cons]
    by_cases e : b = x
    · simp [e]
    · rw [if_neg e, if_neg e]
      have h' : x ∈ s := by
        rcases List.mem_cons.1 h with h | h
        · exact absurd h.symm e
        · exact h
      rw [List.cons_append, pre_post x s h']
theorem pre_all (x : UInt8) : ∀ s : List UInt8, x ∉ s → preB x s = s ∧ postB x s = []
  | [], _ => ⟨rfl, rfl⟩
  | b :: s, h => by
    rw [List.mem_cons, not_or] at h
    have e : ¬ b = x := fun e => h.1 e.symm
    obtain ⟨h1, h2⟩ := pre_all x s h.2
    rw [preB_cons, postB_cons, if_neg e, if_neg e, h1, h2]
    exact ⟨rfl, rfl⟩
theorem pre_join (x : UInt8) : ∀ a b : List UInt8, x ∉ a → preB x (a ++ x :: b) = a ∧ postB x (a ++ x :: b) = b
  | [], b, _ => by rw [List.nil_append, preB_cons, postB_cons]; simp
  | c :: a, b, h => by
    rw [List.mem_cons, not_or] at h
    have e : ¬ c = x := fun e => h.1 e.symm
    obtain ⟨h1, h2⟩ := pre_join x a b h.2
    rw [List.cons_append, preB_cons, postB_cons, if_neg e, if_neg e, h1, h2]
    exact ⟨rfl, rfl⟩
theorem pre_le (x : UInt8) (s : List UInt8) : (preB x s).length ≤ s.length := by
  by_cases h : x ∈ s
  · have e := congrArg List.length (pre_post x s h)
    simp only [List.length_append, List.length_cons] at e
    omega
  · rw [(pre_all x s h).1]; exact Nat.le_refl _
theorem pre_lt (x : UInt8) (s : List UInt8) (h : x ∈ s) : (preB x s).length < s.length := by
  have e := congrArg List.length (pre_post x s h)
  simp only [List.length_append, List.length_cons] at e
  omega
theorem post_drop (x : UInt8) (s : List UInt8) (h : x ∈ s) : postB x s = s.drop ((preB x s).length + 1) := by
  have e : s.drop ((preB x s).length + 1) = (preB x s ++ x :: postB x s).drop ((preB x s).length + 1) := by rw [pre_post x s h]
  rw [e, List.drop_append]
  simp
theorem pre_take (x : UInt8) (s : List UInt8) : preB x s = s.take (preB x s).length := by
  by_cases h : x ∈ s
  · have e : s.take (preB x s).length = (preB x s ++ x :: postB x s).take (preB x s).length := by rw [pre_post x s h]
    rw [e, List.take_left]
  · rw [(pre_all x s h).1, List.take_length]

/-- the library's index and cut at one byte -/
theorem index_one (x : UInt8) : ∀ s : List UInt8, Lib.index s [x] = if x ∈ s then ((preB x s).length : Int) else -1
  | [] => by simp [Lib.index]
  | b :: s => by
    unfold Lib.index
    rw [index_one x s, preB_cons]
    by_cases e : b = x
    · subst e; simp [List.isPrefixOf]
    · have e' : ¬ x = b := fun h => e h.symm
      have hp : ([x].isPrefixOf (b :: s)) = false := by simp [List.isPrefixOf, e']
      rw [hp, if_neg e]
      by_cases h : x ∈ s
      · rw [if_pos h, if_pos (List.mem_cons_of_mem _ h)]
        have : (((preB x s).length : Int) == -1) = false := by rw [beq_eq_false_iff_ne]; omega
        rw [this]
        simp
      · have h' : x ∉ b :: s := by rw [List.mem_cons, not_or]; exact ⟨e', h⟩
        rw [if_neg h, if_neg h']
        rfl
theorem cut_one (x : UInt8) (s : List UInt8) : Lib.cut s [x] = (preB x s, postB x s, decide (x ∈ s)) := by
  unfold Lib.cut
  rw [index_one]
  by_cases h : x ∈ s
  · rw [if_pos h, if_pos (by omega)]
    have e1 : ((preB x s).length : Int).toNat = (preB x s).length := by omega
    rw [e1, ← pre_take]
    have e2 : s.drop ((preB x s).length + [x].length) = postB x s := (post_drop x s h).symm
    rw [e2]
    simp [h]
  · rw [if_neg h, if_neg (by decide), (pre_all x s h).1, (pre_all x s h).2]
    simp [h]
theorem contains_one (x : UInt8) (s : List UInt8) : Lib.contains s [x] = decide (x ∈ s) := by
  unfold Lib.contains
  rw [index_one]
  by_cases h : x ∈ s
  · rw [if_pos h]; simp [h]
  · rw [if_neg h]; simp [h]

/-- digits -/
theorem dec_digit : ∀ (u : Nat) (b : UInt8), b ∈ Lib.decDigits u → 48 ≤ b.toNat ∧ b.toNat ≤ 57 := by
  intro u
  induction u using Nat.strongRecOn with
  | _ u ih =>
    intro b hb
    have hd : ∀ d, d < 10 → (UInt8.ofNat (48 + d)).toNat = 48 + d := by
      intro d hd
      rw [UInt8.toNat_ofNat']
      omega
    by_cases h : u < 10
    · rw [Lib.decDigits, dif_pos h, List.mem_singleton] at hb
      rw [hb, hd u h]
      omega
    · rw [Lib.decDigits, dif_neg h, List.mem_append, List.mem_singleton] at hb
      rcases hb with hb | hb
      · exact ih (u / 10) (by omega) b hb
      · rw [hb, hd (u % 10) (by omega)]
        omega
theorem dec_len : ∀ (n u : Nat), u < 10 ^ (n + 1) → (Lib.decDigits u).length ≤ n + 1
  | 0, u, h => by
    have h' : u < 10 := by simpa using h
    rw [Lib.decDigits, dif_pos h']
    exact Nat.le_refl _
  | n + 1, u, h => by
    by_cases h' : u < 10
    · rw [Lib.decDigits, dif_pos h']
      simp
    · rw [Lib.decDigits, dif_neg h', List.length_append, List.length_singleton]
      have := dec_len n (u / 10) (by rw [Nat.pow_succ] at h; omega)
      omega
theorem dec_pos (u : Nat) : 1 ≤ (Lib.decDigits u).length := by
  by_cases h' : u < 10
  · rw [Lib.decDigits, dif_pos h']; exact Nat.le_refl _
  · rw [Lib.decDigits, dif_neg h', List.length_append, List.length_singleton]; omega
theorem dec_notin (u : Nat) (x : UInt8) (h : x.toNat < 48 ∨ 57 < x.toNat) : x ∉ Lib.decDigits u := fun hx => by
  have := dec_digit u x hx
  omega

/-- the checksum, a sealed text, the line of a record -/
def sumStep (h : Nat) (b : UInt8) : Nat := (41 * h + b.toNat + 1) % 999979
def sumL (s : List UInt8) : Nat := s.foldl sumStep 7
theorem sumStep_lt (h : Nat) (b : UInt8) : sumStep h b < 999979 := Nat.mod_lt _ (by decide)
theorem sumFold_lt : ∀ (s : List UInt8) (h : Nat), h < 999979 → s.foldl sumStep h < 999979
  | [], _, hh => hh
  | b :: s, h, _ => by rw [List.foldl_cons]; exact sumFold_lt s _ (sumStep_lt h b)
theorem sumL_lt (s : List UInt8) : sumL s < 999979 := sumFold_lt s 7 (by decide)
theorem sumL_take (s : List UInt8) (i : Nat) (h : i < s.length) : sumL (s.take (i + 1)) = sumStep (sumL (s.take i)) s[i] := by
  unfold sumL
  rw [List.take_succ_eq_append_getElem h, List.foldl_append]
  rfl
def sealL (s : List UInt8) : List UInt8 := s ++ 35 :: Lib.decDigits (sumL s)
theorem seal_len (s : List UInt8) : s.length + 1 ≤ (sealL s).length ∧ (sealL s).length ≤ s.length + 7 := by
  have h1 := dec_len 5 (sumL s) (Nat.lt_trans (sumL_lt s) (by decide))
  unfold sealL
  rw [List.length_append, List.length_cons]
  omega
def textL (k : Nat) (c r : List UInt8) : List UInt8 := Lib.decDigits k ++ 32 :: (c ++ 64 :: r)
def lineL (k : Nat) (c r : List UInt8) : List UInt8 := sealL (textL k c r)
/-- a byte that may stand in a record -/
def okC (b : UInt8) : Bool := decide (32 ≤ b.toNat) && decide (b.toNat ≤ 126) && b != 35
def recB (c r : List UInt8) : Bool := decide (1 ≤ c.length) && decide (c.length ≤ 160) && c.all okC && !decide (64 ∈ c) && decide (r.length ≤ 200) && r.all okC
theorem okC_notin {s : List UInt8} (h : s.all okC = true) : (35 : UInt8) ∉ s := fun hx => by
  have := List.all_eq_true.1 h 35 hx
  revert this
  decide
theorem recB_parts {c r : List UInt8} (h : recB c r = true) : 1 ≤ c.length ∧ c.length ≤ 160 ∧ c.all okC = true ∧ 64 ∉ c ∧ r.length ≤ 200 ∧ r.all okC = true := by
  unfold recB at h
  simp only [Bool.and_eq_true, decide_eq_true_eq, Bool.not_eq_true', decide_eq_false_iff_not] at h
  obtain ⟨⟨⟨⟨⟨h1, h2⟩, h3⟩, h4⟩, h5⟩, h6⟩ := h
  exact ⟨h1, h2, h3, h4, h5, h6⟩

/-- the command and the reply of a text -/
def ofText (t : List UInt8) : List UInt8 × List UInt8 := (preB 64 (postB 32 t), postB 64 (postB 32 t))
theorem textL_cut (k : Nat) (c r : List UInt8) : preB 32 (textL k c r) = Lib.decDigits k ∧ postB 32 (textL k c r) = c ++ 64 :: r :=
  pre_join 32 _ _ (dec_notin k 32 (by decide))
theorem ofText_text (k : Nat) (c r : List UInt8) (h : 64 ∉ c) : ofText (textL k c r) = (c, r) := by
  unfold ofText
  rw [(textL_cut k c r).2, (pre_join 64 c r h).1, (pre_join 64 c r h).2]
theorem text_notin (k : Nat) (c r : List UInt8) (h : recB c r = true) : (35 : UInt8) ∉ textL k c r := by
  obtain ⟨_, _, h3, _, _, h6⟩ := recB_parts h
  unfold textL
  rw [List.mem_append, List.mem_cons, List.mem_append, List.mem_cons]
  rintro (hx | hx | hx | hx | hx)
  · exact dec_notin k 35 (by decide) hx
  · exact absurd hx (by decide)
  · exact okC_notin h3 hx
  · exact absurd hx (by decide)
  · exact okC_notin h6 hx
theorem line_cut (k : Nat) (c r : List UInt8) (h : recB c r = true) : preB 35 (lineL k c r) = textL k c r := (pre_join 35 _ _ (text_notin k c r h)).1
theorem text_len (k : Nat) (c r : List UInt8) (hk : k < 60) (h : recB c r = true) : (textL k c r).length ≤ 364 := by
  obtain ⟨_, h2, _, _, h5, _⟩ := recB_parts h
  have h1 := dec_len 1 k (by omega)
  unfold textL
  simp only [List.length_append, List.length_cons]
  omega
theorem line_len (k : Nat) (c r : List UInt8) (hk : k < 60) (h : recB c r = true) : (lineL k c r).length ≤ 371 := by
  have h1 := (seal_len (textL k c r)).2
  have h2 := text_len k c r hk h
  unfold lineL
  omega

/-- THE RECORD OF A LINE, if it is one with that number -/
def decB (k : Nat) (s : List UInt8) : Option (List UInt8 × List UInt8) :=
  if decide (k < 60) && recB (ofText (preB 35 s)).1 (ofText (preB 35 s)).2 && decide (lineL k (ofText (preB 35 s)).1 (ofText (preB 35 s)).2 = s) then some (ofText (preB 35 s)) else none
theorem decB_some {k : Nat} {s c r : List UInt8} (h : decB k s = some (c, r)) : k < 60 ∧ recB c r = true ∧ lineL k c r = s ∧ ofText (preB 35 s) = (c, r) := by
  unfold decB at h
  split at h
  · rename_i h1
    have e := Option.some.inj h
    rw [e] at h1
    simp only [Bool.and_eq_true, decide_eq_true_eq] at h1
    exact ⟨h1.1.1, h1.1.2, h1.2, e⟩
  · cases h
theorem decB_of {k : Nat} {s c r : List UInt8} (hk : k < 60) (h : recB c r = true) (hl : lineL k c r = s) : decB k s = some (c, r) := by
  obtain ⟨_, _, _, h4, _, _⟩ := recB_parts h
  have e : ofText (preB 35 s) = (c, r) := by rw [← hl, line_cut k c r h, ofText_text k c r h4]
  unfold decB
  rw [e]
  simp only [hk, h, hl, decide_true, Bool.and_self, if_true]
/-- as the program reads it: a sealed text, taken apart, encodes to the line -/
def verB (s : List UInt8) : Bool := decide (s.length ≤ 4000) && decide (sealL (preB 35 s) = s)
theorem decB_verB {k : Nat} {s c r : List UInt8} (h : decB k s = some (c, r)) : verB s = true := by
  obtain ⟨hk, hr, hl, _⟩ := decB_some h
  unfold verB
  rw [Bool.and_eq_true, decide_eq_true_eq, decide_eq_true_eq]
  refine ⟨?_, ?_⟩
  · rw [← hl]; exact Nat.le_trans (line_len k c r hk hr) (by decide)
  · rw [← hl, line_cut k c r hr]; rfl
theorem decB_impl (k : Nat) (s : List UInt8) : (verB s && (decide (k < 60) && recB (ofText (preB 35 s)).1 (ofText (preB 35 s)).2 && decide (lineL k (ofText (preB 35 s)).1 (ofText (preB 35 s)).2 = s))) = (decB k s).isSome := by
  cases hd : decB k s with
  | some e =>
    obtain ⟨c, r⟩ := e
    obtain ⟨hk, hr, hl, he⟩ := decB_some hd
    rw [decB_verB hd, he]
    simp only [hk, hr, hl, decide_true, Bool.and_self, Option.isSome_some]
  | none =>
    unfold decB at hd
    split at hd
    · cases hd
    · rename_i h1
      rw [Bool.eq_false_iff.2 h1, Bool.and_false]
      rfl
/-- as the reference reads it: the number ahead, then what stands behind it -/
theorem decB_spec (k : Nat) (hk : k < 60) (s : List UInt8) :
    decB k s = if (Lib.decDigits k ++ [32]).isPrefixOf (preB 35 s) && (decide (64 ∈ (preB 35 s).drop ((Lib.decDigits k).length + 1)) && (recB (preB 64 ((preB 35 s).drop ((Lib.decDigits k).length + 1))) (postB 64 ((preB 35 s).drop ((Lib.decDigits k).length + 1))) && decide (lineL k (preB 64 ((preB 35 s).drop ((Lib.decDigits k).length + 1))) (postB 64 ((preB 35 s).drop ((Lib.decDigits k).length + 1))) = s))) then some (preB 64 ((preB 35 s).drop ((Lib.decDigits k).length + 1)), postB 64 ((preB 35 s).drop ((Lib.decDigits k).length + 1))) else none := by
  split
  · rename_i h
    simp only [Bool.and_eq_true, decide_eq_true_eq] at h
    exact decB_of hk h.2.2.1 h.2.2.2
  · rename_i h
    cases hd : decB k s with
    | none => rfl
    | some e =>
      exfalso
      obtain ⟨c, r⟩ := e
      obtain ⟨_, hr, hl, _⟩ := decB_some hd
      obtain ⟨_, _, _, h4, _, _⟩ := recB_parts hr
      apply h
      have e1 : preB 35 s = textL k c r := by rw [← hl, line_cut k c r hr]
      have e2 : (textL k c r).drop ((Lib.decDigits k).length + 1) = c ++ 64 :: r := by
        unfold textL
        rw [List.drop_append]
        simp
      have e3 : (Lib.decDigits k ++ [32]).isPrefixOf (textL k c r) = true := by
        rw [List.isPrefixOf_iff_prefix]
        exact ⟨c ++ 64 :: r, by unfold textL; simp⟩
      rw [e1, e2, e3, (pre_join 64 c r h4).1, (pre_join 64 c r h4).2, hr, hl]
      simp

/-- THE RECORDS AT THE BEGINNING OF BYTES, with the number of the first: n of them may still come -/
def openB : Nat → Nat → List UInt8 → List (List UInt8 × List UInt8 × Nat)
  | 0, _, _ => []
  | n + 1, k, s => if (10 : UInt8) ∈ s then
      match decB k (preB 10 s) with
      | some (c, r) => (c, r, (preB 10 s).length + 1) :: openB n (k + 1) (postB 10 s)
      | none => []
    else []
def lenB : List (List UInt8 × List UInt8 × Nat) → Nat
  | [] => 0
  | x :: l => x.2.2 + lenB l
/-- the places behind each record, those of nothing ahead -/
def endsB (from_ : Nat) : List (List UInt8 × List UInt8 × Nat) → List Nat
  | [] => []
  | x :: l => (from_ + x.2.2) :: endsB (from_ + x.2.2) l
theorem lenB_le : ∀ (n k : Nat) (s : List UInt8), lenB (openB n k s) ≤ s.length
  | 0, _, _ => Nat.zero_le _
  | n + 1, k, s => by
    unfold openB
    split
    · rename_i h
      split
      · have h1 := lenB_le n (k + 1) (postB 10 s)
        have h2 := congrArg List.length (pre_post 10 s h)
        simp only [List.length_append, List.length_cons] at h2
        simp only [lenB]
        omega
      · exact Nat.zero_le _
    · exact Nat.zero_le _
theorem openB_len : ∀ (n k : Nat) (s : List UInt8), (openB n k s).length ≤ n
  | 0, _, _ => Nat.zero_le _
  | n + 1, k, s => by
    unfold openB
    split
    · split
      · have := openB_len n (k + 1) (postB 10 s)
        simp only [List.length_cons]
        omega
      · exact Nat.zero_le _
    · exact Nat.zero_le _
theorem ends_ge : ∀ (l : List (List UInt8 × List UInt8 × Nat)) (a x : Nat), x ∈ endsB a l → a ≤ x
  | [], _, _, h => by simp [endsB] at h
  | y :: l, a, x, h => by
    simp only [endsB, List.mem_cons] at h
    rcases h with h | h
    · omega
    · have := ends_ge l _ x h
      omega
theorem ends_shift : ∀ (l : List (List UInt8 × List UInt8 × Nat)) (a b x : Nat), (b + x ∈ endsB (b + a) l) ↔ x ∈ endsB a l
  | [], _, _, _ => by simp [endsB]
  | y :: l, a, b, x => by
    simp only [endsB, List.mem_cons]
    rw [Nat.add_assoc, ends_shift l (a + y.2.2) b x]
    constructor
    · rintro (h | h)
      · exact Or.inl (by omega)
      · exact Or.inr h
    · rintro (h | h)
      · exact Or.inl (by omega)
      · exact Or.inr h
/-- WHERE THE BYTES MAY BE PARTED: the first part is read whole just if its length is one of the places behind records -/
theorem open_part : ∀ (n k : Nat) (d p : List UInt8), lenB (openB n k d) = d.length ↔ (d.length = 0 ∨ d.length ∈ endsB 0 (openB n k (d ++ p)))
  | 0, k, d, p => by
    simp only [openB, lenB, endsB, List.not_mem_nil, or_false]
    exact ⟨fun h => h.symm, fun h => h.symm⟩
  | n + 1, k, d, p => by
    by_cases hd : (10 : UInt8) ∈ d
    · have e1 : preB 10 (d ++ p) = preB 10 d ∧ postB 10 (d ++ p) = postB 10 d ++ p := by
        have e : d ++ p = preB 10 d ++ 10 :: (postB 10 d ++ p) := by
          rw [← List.cons_append, ← List.append_assoc, pre_post 10 d hd]
        rw [e]
        exact pre_join 10 _ _ (pre_notin 10 d)
      have hdp : (10 : UInt8) ∈ d ++ p := List.mem_append_left _ hd
      unfold openB
      rw [if_pos hd, if_pos hdp, e1.1, e1.2]
      have hlen := congrArg List.length (pre_post 10 d hd)
      simp only [List.length_append, List.length_cons] at hlen
      cases decB k (preB 10 d) with
      | none =>
        simp only [lenB, endsB, List.not_mem_nil, or_false]
        exact ⟨fun h => h.symm, fun h => h.symm⟩
      | some e =>
        obtain ⟨c, r⟩ := e
        have ih := open_part n (k + 1) (postB 10 d) p
        simp only [lenB, endsB, List.mem_cons, Nat.zero_add]
        have hs := ends_shift (openB n (k + 1) (postB 10 d ++ p)) 0 ((preB 10 d).length + 1) (postB 10 d).length
        rw [Nat.add_zero] at hs
        have e2 : d.length = (preB 10 d).length + 1 + (postB 10 d).length := by omega
        rw [e2, hs]
        constructor
        · intro h
          rcases ih.1 (by omega) with h1 | h1
          · exact Or.inr (Or.inl (by omega))
          · exact Or.inr (Or.inr h1)
        · rintro (h | h | h)
          · omega
          · have := ih.2 (Or.inl (by omega))
            omega
          · have := ih.2 (Or.inr h)
            omega
    · have e0 : openB (n + 1) k d = [] := by unfold openB; rw [if_neg hd]
      rw [e0]
      simp only [lenB]
      constructor
      · intro h
        exact Or.inl h.symm
      · rintro (h | h)
        · exact h.symm
        · exfalso
          unfold openB at h
          split at h
          · rename_i hdp
            split at h
            · simp only [endsB, List.mem_cons, Nat.zero_add] at h
              have hge : d.length ≤ (preB 10 (d ++ p)).length := by
                have e : preB 10 (d ++ p) = d ++ preB 10 p := by
                  unfold preB
                  rw [List.takeWhile_append_of_pos]
                  intro a ha
                  rw [bne_iff_ne]
                  intro e
                  exact hd (e ▸ ha)
                rw [e, List.length_append]
                omega
              rcases h with h | h
              · omega
              · have := ends_ge _ _ _ h
                omega
            · simp [endsB] at h
          · simp [endsB] at h

end Go.Proofs.YtmnohickmidfkaaGreatDoor

/- bytes: the checksum, bytes that stand, bytes that may stand -/
namespace Go.Proofs.YtmnohickmidfkaaGreatDoor
open Go.RowKit

theorem takeB (s : ByteArray) (k : Nat) (h : k < s.size) : s.data.toList.take (k + 1) = s.data.toList.take k ++ [s[k]] := by
  rw [List.take_succ_eq_append_getElem (by simpa using h)]; rfl
theorem sumB (s : ByteArray) (k : Nat) (h : k < s.size) : sumL (s.data.toList.take (k + 1)) = (41 * sumL (s.data.toList.take k) + s[k].toNat + 1) % 999979 := by
  rw [takeB s k h, sumL, List.foldl_append]; rfl
theorem takeAllB (s : ByteArray) (k : Nat) (h : ¬ k < s.size) : s.data.toList.take k = s.data.toList := List.take_of_length_le (by simp; omega)
theorem byteLt (b : UInt8) : (b.toNat : Int) ≤ 255 := by have := b.toNat_lt; omega
theorem vint_eq {k : IntKind} {a b : Int} (h : a = b) : Value.int k a = Value.int k b := by rw [h]
/-- bytes that may stand, all of them -/
theorem okC_iff (b : UInt8) : okC b = true ↔ 32 ≤ (b.toNat : Int) ∧ (b.toNat : Int) ≤ 126 ∧ ¬ (b.toNat : Int) = 35 := by
  unfold okC
  have e : b = 35 ↔ b.toNat = 35 := ⟨fun h => by rw [h]; rfl, fun h => UInt8.toNat_inj.1 h⟩
  simp only [Bool.and_eq_true, decide_eq_true_eq, bne_iff_ne, ne_eq, e]
  omega
theorem allB_snoc (f : UInt8 → Bool) (s : ByteArray) (k : Nat) (h : k < s.size) : (s.data.toList.take (k + 1)).all f = ((s.data.toList.take k).all f && f s[k]) := by
  rw [takeB s k h, List.all_append]; simp
theorem allB_stop (f : UInt8 → Bool) (s : ByteArray) (k : Nat) (h : k < s.size) (hf : f s[k] = false) : s.data.toList.all f = false := by
  rw [List.all_eq_false]
  exact ⟨s[k], List.getElem_mem (l := s.data.toList) (by simpa using h), by rw [hf]; decide⟩
/-- whether a byte stands in bytes; whether all may stand in a record -/
def hasL (b : UInt8) (l : List UInt8) : Bool := decide (b ∈ l)
def plainB (l : List UInt8) : Bool := l.all okC
theorem plain_snoc (s : ByteArray) (k : Nat) (h : k < s.size) (h1 : plainB (s.data.toList.take k) = true) (h2 : okC s[k] = true) : plainB (s.data.toList.take (k + 1)) = true := by
  unfold plainB at *
  rw [allB_snoc okC s k h, h1, h2]; rfl
theorem hasL_snoc (s : ByteArray) (b : UInt8) (k : Nat) (h : k < s.size) (h1 : hasL b (s.data.toList.take k) = false) (h2 : ¬ s[k] = b) : hasL b (s.data.toList.take (k + 1)) = false := by
  unfold hasL at *
  rw [decide_eq_false_iff_not] at *
  rw [takeB s k h, List.mem_append, List.mem_singleton]
  rintro (h3 | h3)
  · exact h1 h3
  · exact h2 h3.symm
theorem memB (s : ByteArray) (k : Nat) (h : k < s.size) : s[k] ∈ s.data.toList := List.getElem_mem (l := s.data.toList) (by simpa using h)

set_option maxRecDepth 100000 in
set_option maxHeartbeats 1000000 in
theorem l1Sum_any (s : ByteArray) (w : World) (hs : s.size ≤ 1152921504606846976) :
    Calls Tryz.prog 92 #[.string s] w fun e w' => e = .returned (.int .i64 (sumL s.data.toList)) ∧ w' = w := by
  go_enter Tryz.func92, Tryz.ntmps92
  go_wp2
  go_loop [3, 4] (fun n i => ∃ k : Nat, k ≤ s.size ∧ i = .int .i64 k ∧ n = .int .i64 (sumL (s.data.toList.take k))) (fun _ i => s.size - (intOf i).toNat)
  case atStart => exact ⟨0, Nat.zero_le _, rfl, rfl⟩
  case round =>
    obtain ⟨k, hk, rfl, rfl⟩ := hrel
    by_cases hlt : k < s.size
    · have hb := byteLt s[k]
      have hl := sumL_lt (s.data.toList.take k)
      have HS := Lib.hid (sumB s k hlt)
      go_wp2
      refine ⟨⟨k + 1, by omega, by go_num, vint_eq (by rw [HS.out]; omega)⟩, by simp [intOf]; omega⟩
    · go_wp2
      go_ret
      exact ⟨ret_int (by rw [takeAllB s k hlt]), rfl⟩

set_option maxRecDepth 100000 in
set_option maxHeartbeats 1000000 in
theorem checksum_any (s : ByteArray) (w : World) (hs : s.size ≤ 1152921504606846976) :
    Calls Tryz.prog 111 #[.string s] w fun e w' => e = .returned (.int .i64 (sumL s.data.toList)) ∧ w' = w := by
  go_enter Tryz.func111, Tryz.ntmps111
  go_wp2
  go_loop [3, 7] (fun n i => ∃ k : Nat, k ≤ s.size ∧ i = .int .i64 k ∧ n = .int .i64 (sumL (s.data.toList.take k))) (fun _ i => s.size - (intOf i).toNat)
  case atStart => exact ⟨0, Nat.zero_le _, rfl, rfl⟩
  case round =>
    obtain ⟨k, hk, rfl, rfl⟩ := hrel
    by_cases hlt : k < s.size
    · have hb := byteLt s[k]
      have hl := sumL_lt (s.data.toList.take k)
      have HS := Lib.hid (sumB s k hlt)
      go_wp2
      refine ⟨⟨k + 1, by omega, by go_num, vint_eq (by rw [HS.out]; omega)⟩, by simp [intOf]; omega⟩
    · go_wp2
      go_ret
      exact ⟨ret_int (by rw [takeAllB s k hlt]), rfl⟩

set_option maxRecDepth 100000 in
set_option maxHeartbeats 1000000 in
theorem l1Stands_any (s : ByteArray) (b : UInt8) (w : World) (hs : s.size ≤ 1152921504606846976) :
    Calls Tryz.prog 80 #[.string s, .int .u8 (b.toNat : Int)] w fun e w' => e = .returned (.bool (hasL b s.data.toList)) ∧ w' = w := by
  go_enter Tryz.func80, Tryz.ntmps80
  go_wp2
  go_loop [5] (fun i => ∃ k : Nat, k ≤ s.size ∧ i = .int .i64 k ∧ hasL b (s.data.toList.take k) = false) (fun i => s.size - (intOf i).toNat)
  case atStart => exact ⟨0, Nat.zero_le _, rfl, by simp [hasL]⟩
  case round =>
    obtain ⟨k, hk, rfl, HB0⟩ := hrel
    have HB := Lib.hid HB0
    clear HB0
    by_cases hlt : k < s.size
    · by_cases he : s[k] = b
      · have he1 : (s[k].toNat : Int) = (b.toNat : Int) := by rw [he]
        have HM : Hid (hasL b s.data.toList = true) := Lib.hid (by rw [hasL, decide_eq_true_eq, ← he]; exact memB s k hlt)
        go_wp2
        go_ret
        exact ⟨ret_bool HM.out.symm, rfl⟩
      · have he1 : ¬ (s[k].toNat : Int) = (b.toNat : Int) := fun h => he (UInt8.toNat_inj.1 (by omega))
        have HS := Lib.hid (hasL_snoc s b k hlt HB.out he)
        go_wp2
        refine ⟨⟨k + 1, by omega, by go_num, HS.out⟩, by simp [intOf]; omega⟩
    · go_wp2
      go_ret
      exact ⟨ret_bool (by rw [← HB.out, takeAllB s k hlt]), rfl⟩

set_option maxRecDepth 100000 in
set_option maxHeartbeats 1000000 in
theorem l12Bytes_any (s : ByteArray) (m : Int) (w : World) (hs : s.size ≤ 1152921504606846976) :
    Calls Tryz.prog 79 #[.string s, .int .i64 m] w fun e w' => e = .returned (.bool (plainB s.data.toList && decide ((s.size : Int) ≤ m))) ∧ w' = w := by
  go_enter Tryz.func79, Tryz.ntmps79
  go_wp2
  go_loop [5] (fun i => ∃ k : Nat, k ≤ s.size ∧ i = .int .i64 k ∧ plainB (s.data.toList.take k) = true) (fun i => s.size - (intOf i).toNat)
  case atStart => exact ⟨0, Nat.zero_le _, rfl, rfl⟩
  case round =>
    obtain ⟨k, hk, rfl, HB0⟩ := hrel
    have HB := Lib.hid HB0
    clear HB0
    by_cases hlt : k < s.size
    · have HO := Lib.hid (okC_iff s[k])
      have HF : Hid (okC s[k] = false → plainB s.data.toList = false) := Lib.hid (allB_stop okC s k hlt)
      have HT := Lib.hid (plain_snoc s k hlt HB.out)
      have hb := byteLt s[k]
      by_cases ho : okC s[k] = true
      · have h1 := (HO.out.1 ho)
        have h2 : inB (s[k].toNat : Int) 32 126 = true := inB_iff.2 ⟨h1.1, h1.2.1⟩
        have h3 : ((s[k].toNat : Int) == 35) = false := by rw [beq_eq_false_iff_ne]; exact h1.2.2
        have HT := Lib.hid (HT.out ho)
        clear ho h1
        go_wp2_with (first | (go_at_call 39; refine (l1In_any _ _ _ _).mono ?_; rintro e w' ⟨rfl, rfl⟩))
        refine ⟨⟨k + 1, by omega, by go_num, HT.out⟩, by simp [intOf]; omega⟩
      · have HN := Lib.hid (HF.out (Bool.eq_false_iff.2 ho))
        have HO := Lib.hid ((fun h => ho (HO.out.2 h)) : ¬ (32 ≤ (s[k].toNat : Int) ∧ (s[k].toNat : Int) ≤ 126 ∧ ¬ (s[k].toNat : Int) = 35))
        clear ho HF
        by_cases h2 : inB (s[k].toNat : Int) 32 126 = true
        · have h3 : ((s[k].toNat : Int) == 35) = true := by
            rw [beq_iff_eq]
            have := inB_iff.1 h2
            exact Classical.byContradiction fun h => HO.out ⟨this.1, this.2, h⟩
          go_wp2_with (first | (go_at_call 39; refine (l1In_any _ _ _ _).mono ?_; rintro e w' ⟨rfl, rfl⟩))
          go_ret
          exact ⟨ret_bool (by rw [HN.out]; rfl), rfl⟩
        · have h2 : inB (s[k].toNat : Int) 32 126 = false := Bool.eq_false_iff.2 h2
          go_wp2_with (first | (go_at_call 39; refine (l1In_any _ _ _ _).mono ?_; rintro e w' ⟨rfl, rfl⟩))
          go_ret
          exact ⟨ret_bool (by rw [HN.out]; rfl), rfl⟩
    · go_wp2
      go_ret
      exact ⟨ret_bool (by rw [← takeAllB s k hlt, HB.out]; simp), rfl⟩

set_option maxRecDepth 100000 in
set_option maxHeartbeats 1000000 in
theorem isPlain_any (s : ByteArray) (w : World) (hs : s.size ≤ 1152921504606846976) :
    Calls Tryz.prog 113 #[.string s] w fun e w' => e = .returned (.bool (plainB s.data.toList)) ∧ w' = w := by
  go_enter Tryz.func113, Tryz.ntmps113
  go_wp2
  go_loop [6] (fun i => ∃ k : Nat, k ≤ s.size ∧ i = .int .i64 k ∧ plainB (s.data.toList.take k) = true) (fun i => s.size - (intOf i).toNat)
  case atStart => exact ⟨0, Nat.zero_le _, rfl, rfl⟩
  case round =>
    obtain ⟨k, hk, rfl, HB0⟩ := hrel
    have HB := Lib.hid HB0
    clear HB0
    by_cases hlt : k < s.size
    · have HO := Lib.hid (okC_iff s[k])
      have HF : Hid (okC s[k] = false → plainB s.data.toList = false) := Lib.hid (allB_stop okC s k hlt)
      have HT := Lib.hid (plain_snoc s k hlt HB.out)
      have hb := byteLt s[k]
      by_cases ho : okC s[k] = true
      · have h1 := (HO.out.1 ho)
        have h2 : inB (s[k].toNat : Int) 32 126 = true := inB_iff.2 ⟨h1.1, h1.2.1⟩
        have h3 : ((s[k].toNat : Int) == 35) = false := by rw [beq_eq_false_iff_ne]; exact h1.2.2
        have HT := Lib.hid (HT.out ho)
        clear ho h1
        go_wp2_with (first | (go_at_call 27; refine (within_any _ _ _ _).mono ?_; rintro e w' ⟨rfl, rfl⟩))
        refine ⟨⟨k + 1, by omega, by go_num, HT.out⟩, by simp [intOf]; omega⟩
      · have HN := Lib.hid (HF.out (Bool.eq_false_iff.2 ho))
        have HO := Lib.hid ((fun h => ho (HO.out.2 h)) : ¬ (32 ≤ (s[k].toNat : Int) ∧ (s[k].toNat : Int) ≤ 126 ∧ ¬ (s[k].toNat : Int) = 35))
        clear ho HF
        by_cases h2 : inB (s[k].toNat : Int) 32 126 = true
        · have h3 : ((s[k].toNat : Int) == 35) = true := by
            rw [beq_iff_eq]
            have := inB_iff.1 h2
            exact Classical.byContradiction fun h => HO.out ⟨this.1, this.2, h⟩
          go_wp2_with (first | (go_at_call 27; refine (within_any _ _ _ _).mono ?_; rintro e w' ⟨rfl, rfl⟩))
          go_ret
          exact ⟨ret_bool (by rw [HN.out]), rfl⟩
        · have h2 : inB (s[k].toNat : Int) 32 126 = false := Bool.eq_false_iff.2 h2
          go_wp2_with (first | (go_at_call 27; refine (within_any _ _ _ _).mono ?_; rintro e w' ⟨rfl, rfl⟩))
          go_ret
          exact ⟨ret_bool (by rw [HN.out]), rfl⟩
    · go_wp2
      go_ret
      exact ⟨ret_bool (by rw [← takeAllB s k hlt, HB.out]), rfl⟩

end Go.Proofs.YtmnohickmidfkaaGreatDoor

/- numerals and sealed texts -/
namespace Go.Proofs.YtmnohickmidfkaaGreatDoor
open Go.RowKit

theorem digit_at (n : Nat) (h : n < 10) : (⟨#[48, 49, 50, 51, 52, 53, 54, 55, 56, 57]⟩ : ByteArray).extract n (n + 1) = ⟨[UInt8.ofNat (48 + n)].toArray⟩ := by
  have : n = 0 ∨ n = 1 ∨ n = 2 ∨ n = 3 ∨ n = 4 ∨ n = 5 ∨ n = 6 ∨ n = 7 ∨ n = 8 ∨ n = 9 := by omega
  rcases this with rfl | rfl | rfl | rfl | rfl | rfl | rfl | rfl | rfl | rfl <;> rfl
theorem cat_run {P : Program} (x y : List UInt8) (h : x.length + y.length ≤ 9223372036854775807) (w : World) : (Op.stringOp .add ⟨x.toArray⟩ ⟨y.toArray⟩).run P w = .ok (.string ⟨(x ++ y).toArray⟩) w := by
  rw [run_string_add_sum w _ _ (by simpa [ByteArray.size] using h), ByteArray.mk_append_mk]
theorem vstr_eq {a b : ByteArray} (h : a = b) : Value.string a = Value.string b := by rw [h]
theorem ret_str {a b : ByteArray} (h : a = b) : Ending.returned (.string a) = .returned (.string b) := by rw [h]
set_option maxRecDepth 100000 in
set_option maxHeartbeats 1000000 in
theorem l1Num_any : ∀ (n : Nat) (w : World), n ≤ 9223372036854775807 → Calls Tryz.prog 60 #[.int .i64 n] w fun e w' => e = .returned (.string ⟨(Lib.decDigits n).toArray⟩) ∧ ∃ m, w' = w.drewN m := by
  intro n
  induction n using Nat.strongRecOn with
  | _ n ih =>
    intro w hn
    have h0 : ¬ (n : Int) < 0 := by omega
    by_cases h : n < 10
    · have h1 : (n : Int) < 10 := by omega
      have HD : Hid (Lib.decDigits n = [UInt8.ofNat (48 + n)]) := Lib.hid (by rw [Lib.decDigits, dif_pos h])
      have HE := Lib.hid (digit_at n h)
      clear ih
      go_enter Tryz.func60, Tryz.ntmps60
      go_wp2
      go_ret
      exact ⟨ret_str (by rw [HE.out, HD.out]), 0, rfl⟩
    · have h1 : ¬ (n : Int) < 10 := by omega
      obtain ⟨D1, e1⟩ : ∃ D1, D1 = Lib.decDigits (n / 10) := ⟨_, rfl⟩
      obtain ⟨D2, e2⟩ : ∃ D2, D2 = [UInt8.ofNat (48 + n % 10)] := ⟨_, rfl⟩
      have HD : Hid (Lib.decDigits n = D1 ++ D2) := Lib.hid (by rw [Lib.decDigits, dif_neg h, e1, e2])
      have HE := digit_at (n % 10) (by omega)
      rw [← e2] at HE
      have IH : Hid (∀ W, Calls Tryz.prog 60 #[.int .i64 ((n : Int) / 10)] W fun e w' => e = .returned (.string ⟨D1.toArray⟩) ∧ ∃ m, w' = W.drewN m) := Lib.hid (fun W => by rw [e1]; exact ih (n / 10) (by omega) W (by omega))
      have hm0 : (0 : Int) ≤ (n : Int) % 10 := by omega
      have hm1 : (n : Int) % 10 < 10 := by omega
      have ht : Int.tmod (n : Int) 10 = (n : Int) % 10 := Int.tmod_eq_emod_of_nonneg (by omega)
      have hsl : ∀ W, (Instr.slice 9 (.string ⟨#[48, 49, 50, 51, 52, 53, 54, 55, 56, 57]⟩) (some (.int .i64 ((n : Int) % 10))) (some (.int .i64 ((n : Int) % 10 + 1))) none).run Tryz.prog W = .ok (.string ⟨D2.toArray⟩) W := fun W => by
        have e1 : ((n : Int) % 10).toNat = n % 10 := by omega
        have e2 : ((n : Int) % 10 + 1).toNat = n % 10 + 1 := by omega
        have e3 : ((⟨#[48, 49, 50, 51, 52, 53, 54, 55, 56, 57]⟩ : ByteArray).size : Int) = 10 := rfl
        rw [run_slice_string _ _ _ _ _ _ _ Tryz.underlying9 (by omega) (by omega) (by rw [e3]; omega), e1, e2, HE]
      have hadd := cat_run (P := Tryz.prog) D1 D2 (by
        have h2 := dec_len 19 (n / 10) (by omega)
        rw [e1, e2, List.length_singleton]; omega)
      have hw1 : IntKind.i64.wrap ((n : Int) / 10) = (n : Int) / 10 := IntWalk.i64_in _ (by omega)
      have hw2 : IntKind.i64.wrap ((n : Int) % 10) = (n : Int) % 10 := IntWalk.i64_in _ (by omega)
      have hw3 : IntKind.i64.wrap ((n : Int) % 10 + 1) = (n : Int) % 10 + 1 := IntWalk.i64_in _ (by omega)
      clear ih HE e1 e2
      go_enter Tryz.func60, Tryz.ntmps60
      go_wp2
      go_quiet ((go_at_call 60; exact Calls.quiet_of (IH.out _)))
      go_wp2
      go_ret
      exact ⟨ret_str (by rw [HD.out]), _, rfl⟩

theorem drewN_chg' (w : World) (n : Nat) : Chg No w (w.drewN n) := (Chg.refl No w).drewN n
theorem chg_grow' (w : World) (os : Array Obj) : Chg No w (Go.Sort.grow w os) :=
  ⟨rfl, rfl, rfl, by simp, fun k hk _ => by simp [Go.Sort.grow, Array.getElem?_append_left hk]⟩
/-- what the library's own variables hold: some bound on lengths, and the powers of ten -/
structure Lay (w : World) : Prop where
  max : ∃ m, w.cell? ⟨0, 0, none⟩ = some (.int .i64 m)
  tab : Lib.TabIs Tryz.prog w "internal/strconv.uint64pow10" .u64 Lib.pow10Tab
theorem Lay.keep {w w' : World} (h : Lay w) (hc : Chg No w w') : Lay w' := by
  refine ⟨?_, (Lib.tabBelow_of_tabIs h.tab) w' hc.below⟩
  obtain ⟨m, hm⟩ := h.max
  have hb : 0 < w.heap.size := by
    cases hs : w.heap[0]? with
    | some o => exact (Array.getElem?_eq_some_iff.1 hs).1
    | none => simp [World.cell?, hs] at hm
  exact ⟨m, (hc.cellD 0 0 hb (fun e => e)).trans hm⟩
theorem itoa_nat (n : Nat) : Lib.itoa (n : Int) = Lib.decDigits n := by
  unfold Lib.itoa
  rw [if_neg (by omega)]
  rfl
/-- a numeral as the program makes it -/
theorem dec_any (n : Nat) (hn : n ≤ 9223372036854775807) (w : World) (hw : Lay w) :
    Calls Tryz.prog 110 #[.int .i64 n] w fun e w' => e = .returned (.string ⟨(Lib.decDigits n).toArray⟩) ∧ Chg No w w' := by
  have HT := Lib.hid hw.tab
  clear hw
  go_enter Tryz.func110, Tryz.ntmps110
  go_wp2_with (go_at_call 119; refine (Tryz.strconv_Itoa _ (by omega) (by omega) _ HT.out).mono ?_; rintro e w' ⟨rfl, k, os, rfl⟩)
  go_ret
  exact ⟨ret_str (by rw [itoa_nat]), (drewN_chg' w k).trans (chg_grow' _ os)⟩
theorem dec_small (n : Nat) (hn : n < 100) (w : World) :
    Calls Tryz.prog 110 #[.int .i64 n] w fun e w' => e = .returned (.string ⟨(Lib.decDigits n).toArray⟩) ∧ w' = w := by
  go_enter Tryz.func110, Tryz.ntmps110
  go_wp2_with (go_at_call 119; refine (Tryz.strconv_Itoa_small n hn _).mono ?_; rintro e w' ⟨rfl, rfl⟩)
  go_ret
  exact ⟨rfl, rfl⟩

set_option maxRecDepth 100000 in
theorem l1Seal_any (l : List UInt8) (w : World) (hl : l.length ≤ 1152921504606846976) :
    Calls Tryz.prog 81 #[.string ⟨l.toArray⟩] w fun e w' => e = .returned (.string ⟨(sealL l).toArray⟩) ∧ ∃ m, w' = w.drewN m := by
  have hsz : (⟨l.toArray⟩ : ByteArray).size ≤ 1152921504606846976 := by simpa [ByteArray.size] using hl
  have h1 := Lib.hid (fun W => l1Sum_any ⟨l.toArray⟩ W hsz)
  have hsum := sumL_lt l
  have h2 := Lib.hid (fun W => l1Num_any (sumL l) W (by omega))
  obtain ⟨D, hD⟩ : ∃ D, D = Lib.decDigits (sumL l) := ⟨_, rfl⟩
  have hDl := dec_len 5 (sumL l) (Nat.lt_trans hsum (by decide))
  have e : Hid (sealL l = (l ++ [35]) ++ D) := Lib.hid (by rw [hD, sealL]; simp)
  rw [← hD] at h2 hDl
  have c1 := cat_run (P := Tryz.prog) l [35] (by simp; omega)
  have c2 := cat_run (P := Tryz.prog) (l ++ [35]) D (by simp; omega)
  clear hD
  go_enter Tryz.func81, Tryz.ntmps81
  go_wp2_with (first | (go_at_call 92; refine (h1.out _).mono ?_; rintro e w' ⟨rfl, rfl⟩) | (go_at_call 60; refine (h2.out _).mono ?_; rintro e w' ⟨rfl, m, rfl⟩))
  go_ret
  exact ⟨ret_str (by rw [e.out]; simp), _, rfl⟩

/-- the same of a sealed text in the program; false of a text that has the sign or is too long -/
def appB (l : List UInt8) : Bool := decide (l.length ≤ 4000) && !hasL 35 l && decide ((sealL l).length ≤ 4000)
def appT (l : List UInt8) : List UInt8 := if appB l then sealL l else []
set_option maxRecDepth 100000 in
theorem AppendChecksum_any (l : List UInt8) (w : World) (hl : l.length ≤ 1152921504606846976) (hw : Lay w) :
    Calls Tryz.prog 95 #[.string ⟨l.toArray⟩] w fun e w' => e = .returned (.tuple #[.string ⟨(appT l).toArray⟩, .bool (appB l)]) ∧ Chg No w w' := by
  obtain ⟨mx, hmx⟩ := hw.max
  have hsz : (⟨l.toArray⟩ : ByteArray).size ≤ 1152921504606846976 := by simpa [ByteArray.size] using hl
  have h1 := Lib.hid (fun W => checksum_any ⟨l.toArray⟩ W hsz)
  have hsum := sumL_lt l
  have h2 := Lib.hid (fun W hW => dec_any (sumL l) (by omega) W hW)
  have h3 : Hid (l.length ≤ 4000 → ∀ W, W.cell? ⟨0, 0, none⟩ = some (.int .i64 mx) → Calls Tryz.prog 109 #[.string ⟨l.toArray⟩, .string ⟨#[35]⟩] W fun e w' => e = .returned (.bool (hasL 35 l)) ∧ w' = W) := Lib.hid (fun hlt W hW => by
    refine (Tryz.strings_Contains ⟨l.toArray⟩ ⟨#[35]⟩ mx W (by simp [ByteArray.size]; omega) hW).mono ?_
    rintro e w' ⟨rfl, rfl⟩
    exact ⟨ret_bool (contains_one 35 l), rfl⟩)
  obtain ⟨D, hD⟩ : ∃ D, D = Lib.decDigits (sumL l) := ⟨_, rfl⟩
  have hDl := dec_len 5 (sumL l) (Nat.lt_trans hsum (by decide))
  have e : Hid (sealL l = l ++ 35 :: D) := Lib.hid (by rw [hD, sealL])
  have hsl : (sealL l).length = l.length + 1 + D.length := by rw [e.out]; simp; omega
  rw [← hD] at h2 hDl
  have c1 := cat_run (P := Tryz.prog) l [35] (by simp; omega)
  have c2 := cat_run (P := Tryz.prog) (l ++ [35]) D (by simp; omega)
  have HL := Lib.hid hw
  clear hD hw
  by_cases g1 : l.length ≤ 4000
  · have g1' : ¬ (4000 : Int) < (l.length : Int) := by omega
    have h3 := Lib.hid (h3.out g1)
    cases g2 : hasL 35 l with
    | true =>
      have hA : Hid (appB l = false) := Lib.hid (by simp [appB, g2])
      have hT : Hid (appT l = []) := Lib.hid (by rw [appT, hA.out]; rfl)
      rw [g2] at h3
      rw [hA.out, hT.out]
      go_enter Tryz.func95, Tryz.ntmps95
      go_wp2_with (first | (go_at_call 109; refine (h3.out _ hmx).mono ?_; rintro e w' ⟨rfl, rfl⟩))
      go_ret2
      exact ⟨rfl, Chg.refl _ _⟩
    | false =>
      rw [g2] at h3
      by_cases g4 : l.length + 1 + D.length ≤ 4000
      · have g4' : ¬ (4000 : Int) < ((l ++ 35 :: D).length : Int) := by simp; omega
        have hA : Hid (appB l = true) := Lib.hid (by simp [appB, g2, g1, hsl, g4])
        have hT : Hid (appT l = l ++ 35 :: D) := Lib.hid (by rw [appT, hA.out, ← e.out]; rfl)
        rw [hA.out, hT.out]
        obtain ⟨R, hR⟩ : ∃ R, R = l ++ 35 :: D := ⟨_, rfl⟩
        clear e hT hsl g4 g2
        have hR2 : l ++ [35] ++ D = R := by rw [hR]; simp
        rw [hR2] at c2
        rw [← hR] at g4' ⊢
        clear hR hR2
        go_enter Tryz.func95, Tryz.ntmps95
        go_wp2_with (first | (go_at_call 109; refine (h3.out _ hmx).mono ?_; rintro e w' ⟨rfl, rfl⟩) | (go_at_call 111; refine (h1.out _).mono ?_; rintro e w' ⟨rfl, rfl⟩) | (go_at_call 110; refine (h2.out _ HL.out).mono ?_; rintro e w1 ⟨rfl, hk⟩))
        go_ret2
        exact ⟨rfl, hk⟩
      · have g4' : (4000 : Int) < ((l ++ 35 :: D).length : Int) := by simp; omega
        have hA : Hid (appB l = false) := Lib.hid (by simp [appB, g2, g1, hsl, g4])
        have hT : Hid (appT l = []) := Lib.hid (by rw [appT, hA.out]; rfl)
        rw [hA.out, hT.out]
        obtain ⟨R, hR⟩ : ∃ R, R = l ++ 35 :: D := ⟨_, rfl⟩
        clear e hT hsl g4 g2
        have hR2 : l ++ [35] ++ D = R := by rw [hR]; simp
        rw [hR2] at c2
        rw [← hR] at g4'
        clear hR hR2
        go_enter Tryz.func95, Tryz.ntmps95
        go_wp2_with (first | (go_at_call 109; refine (h3.out _ hmx).mono ?_; rintro e w' ⟨rfl, rfl⟩) | (go_at_call 111; refine (h1.out _).mono ?_; rintro e w' ⟨rfl, rfl⟩) | (go_at_call 110; refine (h2.out _ HL.out).mono ?_; rintro e w1 ⟨rfl, hk⟩))
        go_ret2
        exact ⟨rfl, hk⟩
  · have g1' : (4000 : Int) < (l.length : Int) := by omega
    have hA : Hid (appB l = false) := Lib.hid (by simp [appB, g1])
    have hT : Hid (appT l = []) := Lib.hid (by rw [appT, hA.out]; rfl)
    rw [hA.out, hT.out]
    go_enter Tryz.func95, Tryz.ntmps95
    go_wp2_with fail
    go_ret2
    exact ⟨rfl, Chg.refl _ _⟩

/-- what the program reads of a line: whether it is sealed, and the text ahead of the sign -/
theorem verB_app (l : List UInt8) (h : l.length ≤ 4000) : verB l = (appB (preB 35 l) && ((appT (preB 35 l)) == l)) := by
  have h1 : hasL 35 (preB 35 l) = false := by rw [hasL, decide_eq_false_iff_not]; exact pre_notin 35 l
  have h2 := pre_le 35 l
  unfold verB
  by_cases h3 : sealL (preB 35 l) = l
  · have hA : appB (preB 35 l) = true := by
      unfold appB
      rw [h1, h3]
      simp [h]
      omega
    rw [appT, hA]
    simp [h, h3]
  · by_cases hA : appB (preB 35 l) = true
    · rw [appT, hA]
      simp [h3]
    · rw [Bool.eq_false_iff.2 hA]
      simp [h3]
set_option maxRecDepth 100000 in
theorem VerifyChecksum_any (l : List UInt8) (w : World) (hl : l.length ≤ 1152921504606846976) (hw : Lay w) :
    Calls Tryz.prog 87 #[.string ⟨l.toArray⟩] w fun e w' => e = .returned (.tuple #[.string ⟨(if verB l then preB 35 l else []).toArray⟩, .bool (verB l)]) ∧ Chg No w w' := by
  obtain ⟨mx, hmx⟩ := hw.max
  have HL := Lib.hid hw
  clear hw
  obtain ⟨X, hX⟩ : ∃ X, X = (if verB l then preB 35 l else []) := ⟨_, rfl⟩
  rw [← hX]
  by_cases g1 : l.length ≤ 4000
  · have g1' : ¬ (4000 : Int) < (l.length : Int) := by omega
    have hp := pre_le 35 l
    have HV := Lib.hid (verB_app l g1)
    have hcut : Hid (∀ W, W.cell? ⟨0, 0, none⟩ = some (.int .i64 mx) → Calls Tryz.prog 73 #[.string ⟨l.toArray⟩, .string ⟨#[35]⟩] W fun e w' => e = .returned (.tuple #[.string ⟨(preB 35 l).toArray⟩, .string ⟨(postB 35 l).toArray⟩, .bool (decide (35 ∈ l))]) ∧ Chg No W w') := Lib.hid (fun W hW => by
      refine (Tryz.strings_Cut ⟨l.toArray⟩ ⟨#[35]⟩ mx W (by simp [ByteArray.size]; omega) hW).mono ?_
      rintro e w' ⟨rfl, n, rfl⟩
      refine ⟨?_, drewN_chg' W n⟩
      rw [show Lib.cut (ByteArray.mk l.toArray).data.toList (ByteArray.mk #[35]).data.toList = (preB 35 l, postB 35 l, decide (35 ∈ l)) from cut_one 35 l])
    obtain ⟨p, hpe⟩ : ∃ p, p = preB 35 l := ⟨_, rfl⟩
    obtain ⟨q, hqe⟩ : ∃ q, q = postB 35 l := ⟨_, rfl⟩
    obtain ⟨b, hbe⟩ : ∃ b, b = decide (35 ∈ l) := ⟨_, rfl⟩
    rw [← hpe] at hX hp HV hcut
    rw [← hqe, ← hbe] at hcut
    have happ : Hid (∀ W, Lay W → Calls Tryz.prog 95 #[.string ⟨p.toArray⟩] W fun e w' => e = .returned (.tuple #[.string ⟨(appT p).toArray⟩, .bool (appB p)]) ∧ Chg No W w') := Lib.hid (fun W hW => AppendChecksum_any p W (by omega) hW)
    obtain ⟨T, hT⟩ : ∃ T, T = appT p := ⟨_, rfl⟩
    rw [← hT] at HV happ
    clear hpe hqe hbe hT
    cases g2 : appB p with
    | false =>
      have HV2 : Hid (verB l = false) := Lib.hid (by rw [HV.out, g2]; rfl)
      have HX : Hid (X = []) := Lib.hid (by rw [hX, HV2.out]; rfl)
      rw [HX.out, HV2.out]
      rw [g2] at happ
      clear g2 hX
      go_enter Tryz.func87, Tryz.ntmps87
      go_wp2_with (first | (go_at_call 73; refine (hcut.out _ hmx).mono ?_; rintro e w1 ⟨rfl, hk⟩; have HL1 := Lib.hid (HL.out.keep hk)) | (go_at_call 95; refine (happ.out _ HL1.out).mono ?_; rintro e w2 ⟨rfl, hk2⟩))
      go_ret2
      exact ⟨rfl, hk.trans hk2⟩
    | true =>
      rw [g2] at happ
      by_cases g3 : T = l
      · have HV2 : Hid (verB l = true) := Lib.hid (by rw [HV.out, g2, g3]; simp)
        have HX : Hid (X = p) := Lib.hid (by rw [hX, HV2.out]; rfl)
        rw [HX.out, HV2.out]
        have g3' : (T == l) = true := by rw [g3]; simp
        clear hX g2
        go_enter Tryz.func87, Tryz.ntmps87
        go_wp2_with (first | (go_at_call 73; refine (hcut.out _ hmx).mono ?_; rintro e w1 ⟨rfl, hk⟩; have HL1 := Lib.hid (HL.out.keep hk)) | (go_at_call 95; refine (happ.out _ HL1.out).mono ?_; rintro e w2 ⟨rfl, hk2⟩))
        go_ret2
        exact ⟨rfl, hk.trans hk2⟩
      · have HV2 : Hid (verB l = false) := Lib.hid (by rw [HV.out, g2]; simp [g3])
        have HX : Hid (X = []) := Lib.hid (by rw [hX, HV2.out]; rfl)
        rw [HX.out, HV2.out]
        have g3' : (T == l) = false := by simp [g3]
        clear hX g2
        go_enter Tryz.func87, Tryz.ntmps87
        go_wp2_with (first | (go_at_call 73; refine (hcut.out _ hmx).mono ?_; rintro e w1 ⟨rfl, hk⟩; have HL1 := Lib.hid (HL.out.keep hk)) | (go_at_call 95; refine (happ.out _ HL1.out).mono ?_; rintro e w2 ⟨rfl, hk2⟩))
        go_ret2
        exact ⟨rfl, hk.trans hk2⟩
  · have g1' : (4000 : Int) < (l.length : Int) := by omega
    have HV2 : Hid (verB l = false) := Lib.hid (by simp [verB, g1])
    have HX : Hid (X = []) := Lib.hid (by rw [hX, HV2.out]; rfl)
    rw [HX.out, HV2.out]
    clear hX
    go_enter Tryz.func87, Tryz.ntmps87
    go_wp2_with fail
    go_ret2
    exact ⟨rfl, Chg.refl _ _⟩

end Go.Proofs.YtmnohickmidfkaaGreatDoor

/- records: which are valid -/
namespace Go.Proofs.YtmnohickmidfkaaGreatDoor
open Go.RowKit

structure Box2 (w : World) (b : Nat) (v0 v1 : Value) : Prop where
  c0 : w.cell? ⟨b, 0, none⟩ = some v0
  c1 : w.cell? ⟨b, 1, none⟩ = some v1
  fr : ∀ o, w.frozen? ⟨b, o, none⟩ = false
theorem Box2.lt {w : World} {b : Nat} {v0 v1 : Value} (h : Box2 w b v0 v1) : b < w.heap.size := World.block_lt_of_cell? w _ h.c0
theorem Box2.step {S : Nat → Prop} {w w' : World} {b : Nat} {v0 v1 : Value} (h : Box2 w b v0 v1) (hc : Chg S w w') (hS : ¬ S b) : Box2 w' b v0 v1 := by
  have hb := h.lt
  exact ⟨(hc.cellD b 0 hb hS).trans h.c0, (hc.cellD b 1 hb hS).trans h.c1, fun o => (World.frozen?_of_block (hc.block b hb hS)).trans (h.fr o)⟩
theorem Box2.keep {w w' : World} {b : Nat} {v0 v1 : Value} (h : Box2 w b v0 v1) (hc : Chg No w w') : Box2 w' b v0 v1 := h.step hc (fun e => e)
theorem Box2.new (w : World) (v0 v1 : Value) (t : TypeId) : Box2 (w.alloc (.cells #[v0, v1] t)) w.heap.size v0 v1 := by
  refine ⟨?_, ?_, fun o => World.frozen?_alloc_new _ _ _ _⟩ <;> (rw [World.cell?_alloc_new]; rfl)
def sv (l : List UInt8) : Value := .string ⟨l.toArray⟩
/-- a record by value -/
def rv (c r : List UInt8) : Value := .agg #[.string ⟨c.toArray⟩, .string ⟨r.toArray⟩]
theorem recB_eq (c r : List UInt8) : recB c r = (decide (1 ≤ c.length) && (plainB c && decide ((c.length : Int) ≤ 160)) && !hasL 64 c && (plainB r && decide ((r.length : Int) ≤ 200))) := by
  unfold recB plainB hasL
  have e1 : decide ((c.length : Int) ≤ 160) = decide (c.length ≤ 160) := by rw [decide_eq_decide]; omega
  have e2 : decide ((r.length : Int) ≤ 200) = decide (r.length ≤ 200) := by rw [decide_eq_decide]; omega
  rw [e1, e2]
  cases decide (1 ≤ c.length) <;> cases decide (c.length ≤ 160) <;> cases c.all okC <;> cases decide (64 ∈ c) <;> cases decide (r.length ≤ 200) <;> cases r.all okC <;> rfl

set_option maxRecDepth 100000 in
theorem l12Record_any (c r : List UInt8) (w : World) (hc : c.length ≤ 1152921504606846976) (hr : r.length ≤ 1152921504606846976) :
    Calls Tryz.prog 61 #[rv c r] w fun e w' => e = .returned (.bool (recB c r)) ∧ Chg No w w' := by
  have b1 := Lib.hid (fun W => l12Bytes_any ⟨c.toArray⟩ 160 W (by simpa [ByteArray.size] using hc))
  have b2 := Lib.hid (fun W => l1Stands_any ⟨c.toArray⟩ 64 W (by simpa [ByteArray.size] using hc))
  have b3 := Lib.hid (fun W => l12Bytes_any ⟨r.toArray⟩ 200 W (by simpa [ByteArray.size] using hr))
  have e : Hid (recB c r = (decide (1 ≤ c.length) && (plainB c && decide (((⟨c.toArray⟩ : ByteArray).size : Int) ≤ 160)) && !hasL 64 c && (plainB r && decide (((⟨r.toArray⟩ : ByteArray).size : Int) ≤ 200)))) := Lib.hid (recB_eq c r)
  obtain ⟨B1, h1⟩ : ∃ B1, (plainB c && decide (((⟨c.toArray⟩ : ByteArray).size : Int) ≤ 160)) = B1 := ⟨_, rfl⟩
  obtain ⟨B2, h2⟩ : ∃ B2, hasL 64 c = B2 := ⟨_, rfl⟩
  obtain ⟨B3, h3⟩ : ∃ B3, (plainB r && decide (((⟨r.toArray⟩ : ByteArray).size : Int) ≤ 200)) = B3 := ⟨_, rfl⟩
  have b1 : Hid (∀ W, Calls Tryz.prog 79 #[.string ⟨c.toArray⟩, .int .i64 160] W fun e w' => e = .returned (.bool B1) ∧ w' = W) := Lib.hid (fun W => by rw [← h1]; exact b1.out W)
  have b2 : Hid (∀ W, Calls Tryz.prog 80 #[.string ⟨c.toArray⟩, .int .u8 64] W fun e w' => e = .returned (.bool B2) ∧ w' = W) := Lib.hid (fun W => by rw [← h2]; exact b2.out W)
  have b3 : Hid (∀ W, Calls Tryz.prog 79 #[.string ⟨r.toArray⟩, .int .i64 200] W fun e w' => e = .returned (.bool B3) ∧ w' = W) := Lib.hid (fun W => by rw [← h3]; exact b3.out W)
  rw [h1, h2, h3] at e
  clear h1 h2 h3 hr
  unfold rv
  cases c with
  | nil =>
    have HR : Hid (recB [] r = false) := Lib.hid (by rw [e.out]; rfl)
    clear e
    go_enter Tryz.func61, Tryz.ntmps61
    go_wp2_with fail
    go_ret
    exact ⟨ret_bool HR.out.symm, (Chg.refl No w).alloc _⟩
  | cons x c =>
    obtain ⟨C, hC⟩ : ∃ C, C = x :: c := ⟨_, rfl⟩
    have hne : (C == []) = false := by rw [hC]; rfl
    have HR : Hid (recB C r = (B1 && !B2 && B3)) := Lib.hid (by rw [hC, e.out]; simp)
    rw [← hC] at b1 b2 ⊢
    clear e hC hc
    have k0 := (Chg.refl No w).alloc (.cells #[.string ⟨C.toArray⟩, .string ⟨r.toArray⟩] 79)
    have bx := Box2.new w (.string ⟨C.toArray⟩) (.string ⟨r.toArray⟩) 79
    obtain ⟨c0, c1, fr⟩ := bx
    cases B1 <;> cases B2 <;> cases B3
    all_goals
      go_enter Tryz.func61, Tryz.ntmps61
      go_wp2_with (first | (go_at_call 79; first | (with_reducible refine (b1.out _).mono ?_; rintro e w' ⟨rfl, rfl⟩) | (with_reducible refine (b3.out _).mono ?_; rintro e w' ⟨rfl, rfl⟩)) | (go_at_call 80; refine (b2.out _).mono ?_; rintro e w' ⟨rfl, rfl⟩))
      go_ret
      exact ⟨ret_bool HR.out.symm, k0⟩

def cmdB (c : List UInt8) : Bool := inB (c.length : Int) 1 160 && plainB c && !hasL 64 c
theorem recB_cmd (c r : List UInt8) : recB c r = (cmdB c && decide ((r.length : Int) ≤ 200) && plainB r) := by
  rw [recB_eq, cmdB, inB]
  have e : decide ((1 : Int) ≤ (c.length : Int)) = decide (1 ≤ c.length) := by rw [decide_eq_decide]; omega
  rw [e]
  cases decide (1 ≤ c.length) <;> cases decide ((c.length : Int) ≤ 160) <;> cases plainB c <;> cases hasL 64 c <;> cases decide ((r.length : Int) ≤ 200) <;> cases plainB r <;> rfl
set_option maxRecDepth 100000 in
theorem isCommand_any (c : List UInt8) (w : World) (hc : c.length ≤ 1152921504606846976) (hw : Lay w) :
    Calls Tryz.prog 112 #[.string ⟨c.toArray⟩] w fun e w' => e = .returned (.bool (cmdB c)) ∧ w' = w := by
  obtain ⟨mx, hmx⟩ := hw.max
  clear hw
  have b1 := Lib.hid (fun W => isPlain_any ⟨c.toArray⟩ W (by simpa [ByteArray.size] using hc))
  cases g1 : inB (c.length : Int) 1 160 with
  | false =>
    have HR : Hid (cmdB c = false) := Lib.hid (by simp [cmdB, g1])
    go_enter Tryz.func112, Tryz.ntmps112
    go_wp2_with (go_at_call 27; refine (within_any _ _ _ _).mono ?_; rintro e w' ⟨rfl, rfl⟩)
    all_goals go_ret
    all_goals exact ⟨ret_bool HR.out.symm, rfl⟩
  | true =>
    have hlen := inB_iff.1 g1
    have b2 : Hid (∀ W, W.cell? ⟨0, 0, none⟩ = some (.int .i64 mx) → Calls Tryz.prog 109 #[.string ⟨c.toArray⟩, .string ⟨#[64]⟩] W fun e w' => e = .returned (.bool (hasL 64 c)) ∧ w' = W) := Lib.hid (fun W hW => by
      refine (Tryz.strings_Contains ⟨c.toArray⟩ ⟨#[64]⟩ mx W (by simp [ByteArray.size]; omega) hW).mono ?_
      rintro e w' ⟨rfl, rfl⟩
      exact ⟨ret_bool (contains_one 64 c), rfl⟩)
    have HR : Hid (cmdB c = (plainB c && !hasL 64 c)) := Lib.hid (by rw [cmdB, g1]; rfl)
    obtain ⟨B1, h1⟩ : ∃ B1, plainB c = B1 := ⟨_, rfl⟩
    obtain ⟨B2, h2⟩ : ∃ B2, hasL 64 c = B2 := ⟨_, rfl⟩
    have b1 : Hid (∀ W, Calls Tryz.prog 113 #[.string ⟨c.toArray⟩] W fun e w' => e = .returned (.bool B1) ∧ w' = W) := Lib.hid (fun W => by rw [← h1]; exact b1.out W)
    rw [h1, h2] at HR
    rw [h2] at b2
    clear h1 h2
    cases B1 <;> cases B2
    all_goals
      go_enter Tryz.func112, Tryz.ntmps112
      go_wp2_with (first | (go_at_call 27; refine (within_any _ _ _ _).mono ?_; rintro e w' ⟨rfl, rfl⟩) | (go_at_call 113; refine (b1.out _).mono ?_; rintro e w' ⟨rfl, rfl⟩) | (go_at_call 109; refine (b2.out _ hmx).mono ?_; rintro e w' ⟨rfl, rfl⟩))
      go_ret
      exact ⟨ret_bool HR.out.symm, rfl⟩

set_option maxRecDepth 100000 in
theorem IsValidRecord_any (c r : List UInt8) (w : World) (hc : c.length ≤ 1152921504606846976) (hr : r.length ≤ 1152921504606846976) (hw : Lay w) :
    Calls Tryz.prog 96 #[rv c r] w fun e w' => e = .returned (.bool (recB c r)) ∧ Chg No w w' := by
  have b1 := Lib.hid (fun W hW => isCommand_any c W hc hW)
  have b3 := Lib.hid (fun W => isPlain_any ⟨r.toArray⟩ W (by simpa [ByteArray.size] using hr))
  have k0 := (Chg.refl No w).alloc (.cells #[.string ⟨c.toArray⟩, .string ⟨r.toArray⟩] 79)
  have HL := Lib.hid (hw.keep k0)
  have HR := Lib.hid (recB_cmd c r)
  obtain ⟨B1, h1⟩ : ∃ B1, cmdB c = B1 := ⟨_, rfl⟩
  obtain ⟨B3, h3⟩ : ∃ B3, plainB r = B3 := ⟨_, rfl⟩
  have b3 : Hid (∀ W, Calls Tryz.prog 113 #[.string ⟨r.toArray⟩] W fun e w' => e = .returned (.bool B3) ∧ w' = W) := Lib.hid (fun W => by rw [← h3]; exact b3.out W)
  rw [h1] at b1
  rw [h1, h3] at HR
  clear h1 h3 hw
  unfold rv
  obtain ⟨c0, c1, fr⟩ := Box2.new w (.string ⟨c.toArray⟩) (.string ⟨r.toArray⟩) 79
  by_cases g2 : (r.length : Int) ≤ 200
  · have HR : Hid (recB c r = (B1 && B3)) := Lib.hid (by rw [HR.out]; simp [g2])
    cases B1 <;> cases B3
    all_goals
      go_enter Tryz.func96, Tryz.ntmps96
      go_wp2_with (first | (go_at_call 112; refine (b1.out _ HL.out).mono ?_; rintro e w' ⟨rfl, rfl⟩) | (go_at_call 113; refine (b3.out _).mono ?_; rintro e w' ⟨rfl, rfl⟩))
      go_ret
      exact ⟨ret_bool HR.out.symm, k0⟩
  · have HR2 : Hid (recB c r = false) := Lib.hid (by rw [HR.out]; simp [g2])
    clear HR
    have g2' : (200 : Int) < (r.length : Int) := by omega
    cases B1
    all_goals
      go_enter Tryz.func96, Tryz.ntmps96
      go_wp2_with (first | (go_at_call 112; refine (b1.out _ HL.out).mono ?_; rintro e w' ⟨rfl, rfl⟩) | (go_at_call 113; refine (b3.out _).mono ?_; rintro e w' ⟨rfl, rfl⟩))
      go_ret
      exact ⟨ret_bool HR2.out.symm, k0⟩

end Go.Proofs.YtmnohickmidfkaaGreatDoor

/- a record's line, on both sides -/
namespace Go.Proofs.YtmnohickmidfkaaGreatDoor
open Go.RowKit

theorem cat_to {P : Program} {x y z : List UInt8} (hz : z = x ++ y) (h : z.length ≤ 9223372036854775807) (w : World) : (Op.stringOp .add ⟨x.toArray⟩ ⟨y.toArray⟩).run P w = .ok (.string ⟨z.toArray⟩) w := by
  rw [hz] at h ⊢
  rw [List.length_append] at h
  exact cat_run x y h w
/-- the pieces of a record's text, put together one behind another -/
theorem text_parts (k : Nat) (c r : List UInt8) (hk : k ≤ 9223372036854775807) (hc : c.length ≤ 1125899906842624) (hr : r.length ≤ 1125899906842624) : ∃ D X1 X2 X3 X4 : List UInt8, Lib.decDigits k = D ∧ textL k c r = X4 ∧
    X1 = D ++ [32] ∧ X2 = X1 ++ c ∧ X3 = X2 ++ [64] ∧ X4 = X3 ++ r ∧ D.length ≤ 20 ∧ X1.length ≤ 21 ∧ X2.length ≤ 1125899906842645 ∧ X3.length ≤ 1125899906842646 ∧ X4.length ≤ 2251799813685270 := by
  have h := dec_len 19 k (by omega)
  refine ⟨_, _, _, _, textL k c r, rfl, rfl, rfl, rfl, rfl, ?_, h, ?_, ?_, ?_, ?_⟩
  · simp [textL]
  · simp; omega
  · simp; omega
  · simp; omega
  · simp [textL]; omega

set_option maxRecDepth 100000 in
set_option maxHeartbeats 1000000 in
theorem l12Line_any (k : Nat) (c r : List UInt8) (w : World) (hk : k ≤ 9223372036854775807) (hc : c.length ≤ 1125899906842624) (hr : r.length ≤ 1125899906842624) :
    Calls Tryz.prog 62 #[.int .i64 k, rv c r] w fun e w' => e = .returned (.string ⟨(lineL k c r ++ [10]).toArray⟩) ∧ Chg No w w' := by
  obtain ⟨D, X1, X2, X3, X4, eD, eX, e1, e2, e3, e4, l0, l1, l2, l3, l4⟩ := text_parts k c r hk hc hr
  have q1 := Lib.hid (fun W => l1Num_any k W hk)
  rw [eD] at q1
  have q2 := Lib.hid (fun W => l1Seal_any X4 W (by omega))
  obtain ⟨S, hS⟩ : ∃ S, S = sealL X4 := ⟨_, rfl⟩
  obtain ⟨Z, hZ⟩ : ∃ Z, Z = S ++ [10] := ⟨_, rfl⟩
  have hsl := (seal_len X4).2
  have HZ : Hid (lineL k c r ++ [10] = Z) := Lib.hid (by rw [lineL, eX, hZ, hS])
  rw [← hS] at q2 hsl
  have a1 := cat_to (P := Tryz.prog) e1 (by omega)
  have a2 := cat_to (P := Tryz.prog) e2 (by omega)
  have a3 := cat_to (P := Tryz.prog) e3 (by omega)
  have a4 := cat_to (P := Tryz.prog) e4 (by omega)
  have a5 := cat_to (P := Tryz.prog) hZ (by rw [hZ]; simp; omega)
  have k0 := (Chg.refl No w).alloc (.cells #[.string ⟨c.toArray⟩, .string ⟨r.toArray⟩] 79)
  obtain ⟨c0, c1, fr⟩ := Box2.new w (.string ⟨c.toArray⟩) (.string ⟨r.toArray⟩) 79
  rw [HZ.out]
  clear eD eX e1 e2 e3 e4 hS hZ hsl l0 l1 l2 l3 l4
  unfold rv
  go_enter Tryz.func62, Tryz.ntmps62
  go_wp2_with fail
  go_quiet ((first | (go_at_call 60; exact Calls.quiet_of (q1.out _)) | (go_at_call 81; exact Calls.quiet_of (q2.out _))))
  go_wp2_with fail
  go_ret
  exact ⟨rfl, k0.trans (drewN_chg' _ _)⟩

set_option maxRecDepth 100000 in
set_option maxHeartbeats 1000000 in
/-- of a valid record -/
theorem encoded_any (k : Nat) (c r : List UInt8) (w : World) (hk : k < 60) (hrec : recB c r = true) (hw : Lay w) :
    Calls Tryz.prog 97 #[.int .i64 k, rv c r] w fun e w' => e = .returned (.string ⟨(lineL k c r ++ [10]).toArray⟩) ∧ Chg No w w' := by
  obtain ⟨_, hc, _, _, hr, _⟩ := recB_parts hrec
  obtain ⟨D, X1, X2, X3, X4, eD, eX, e1, e2, e3, e4, l0, l1, l2, l3, l4⟩ := text_parts k c r (by omega) (by omega) (by omega)
  have q1 := Lib.hid (fun W => dec_small k (by omega) W)
  rw [eD] at q1
  have hn := text_notin k c r hrec
  have htl := text_len k c r hk hrec
  rw [eX] at hn htl
  have hsl := (seal_len X4).2
  have hA : appB X4 = true := by
    have : hasL 35 X4 = false := by rw [hasL, decide_eq_false_iff_not]; exact hn
    unfold appB
    rw [this]
    simp
    omega
  have q2 := Lib.hid (fun W hW => AppendChecksum_any X4 W (by omega) hW)
  rw [appT, hA] at q2
  simp only [if_true] at q2
  obtain ⟨S, hS⟩ : ∃ S, S = sealL X4 := ⟨_, rfl⟩
  obtain ⟨Z, hZ⟩ : ∃ Z, Z = S ++ [10] := ⟨_, rfl⟩
  have HZ : Hid (lineL k c r ++ [10] = Z) := Lib.hid (by rw [lineL, eX, hZ, hS])
  rw [← hS] at q2 hsl
  have a1 := cat_to (P := Tryz.prog) e1 (by omega)
  have a2 := cat_to (P := Tryz.prog) e2 (by omega)
  have a3 := cat_to (P := Tryz.prog) e3 (by omega)
  have a4 := cat_to (P := Tryz.prog) e4 (by omega)
  have a5 := cat_to (P := Tryz.prog) hZ (by rw [hZ]; simp; omega)
  have k0 := (Chg.refl No w).alloc (.cells #[.string ⟨c.toArray⟩, .string ⟨r.toArray⟩] 79)
  have bx := Box2.new w (.string ⟨c.toArray⟩) (.string ⟨r.toArray⟩) 79
  obtain ⟨C, hC1, hC2⟩ : ∃ C : World → Prop, (∀ W, C W → Box2 W w.heap.size (.string ⟨c.toArray⟩) (.string ⟨r.toArray⟩) ∧ Chg No w W) ∧
      (∀ W, Box2 W w.heap.size (.string ⟨c.toArray⟩) (.string ⟨r.toArray⟩) → Chg No w W → C W) := ⟨_, fun _ h => h, fun _ h h' => ⟨h, h'⟩⟩
  have HBOX := Lib.hid (fun W hW => (hC1 W hW).1)
  have HCHG := Lib.hid (fun W hW => (hC1 W hW).2)
  have HLAY := Lib.hid (fun W hW => hw.keep (hC1 W hW).2)
  have HK : Hid (∀ W W', C W → Chg No W W' → C W') := Lib.hid (fun W W' hW hk => hC2 W' ((hC1 W hW).1.keep hk) ((hC1 W hW).2.keep hk))
  have hC0 := hC2 _ (bx.keep (Chg.refl No _).drew) k0.drew
  rw [HZ.out]
  clear eD eX e1 e2 e3 e4 hS hZ hsl l0 l1 l2 l3 l4 hC1 hC2 bx hA hn htl hw hrec
  unfold rv
  go_enter Tryz.func97, Tryz.ntmps97
  go_wp2_with fail
  refine wp_region_X C (by kernel_rfl) (by kernel_rfl) hC0 ?_
  refine wpX_val (.int .i64 k) rfl (by intro W hW; obtain ⟨c0, c1, fr⟩ := HBOX.out W hW; go_simp) ?_
  simp only [Act.put, List.setIfInBounds_toArray, List.set_cons_zero, List.set_cons_succ]
  refine wpX_call (.string ⟨D.toArray⟩) (f := 110) (args := #[.int .i64 k]) rfl (by intro W hW; go_simp) (fun W hW => (q1.out W).mono (by rintro e w' ⟨rfl, rfl⟩; exact ⟨rfl, hW⟩)) ?_
  simp only [Act.put, List.setIfInBounds_toArray, List.set_cons_zero, List.set_cons_succ]
  refine wpX_val (.string ⟨X1.toArray⟩) rfl (by intro W hW; obtain ⟨c0, c1, fr⟩ := HBOX.out W hW; go_simp) ?_
  simp only [Act.put, List.setIfInBounds_toArray, List.set_cons_zero, List.set_cons_succ]
  refine wpX_val (.pointer (some ⟨w.heap.size, 0, none⟩)) rfl (by intro W hW; obtain ⟨c0, c1, fr⟩ := HBOX.out W hW; go_simp) ?_
  simp only [Act.put, List.setIfInBounds_toArray, List.set_cons_zero, List.set_cons_succ]
  refine wpX_val (.string ⟨c.toArray⟩) rfl (by intro W hW; obtain ⟨c0, c1, fr⟩ := HBOX.out W hW; go_simp) ?_
  simp only [Act.put, List.setIfInBounds_toArray, List.set_cons_zero, List.set_cons_succ]
  refine wpX_val (.string ⟨X2.toArray⟩) rfl (by intro W hW; obtain ⟨c0, c1, fr⟩ := HBOX.out W hW; go_simp) ?_
  simp only [Act.put, List.setIfInBounds_toArray, List.set_cons_zero, List.set_cons_succ]
  refine wpX_val (.string ⟨X3.toArray⟩) rfl (by intro W hW; obtain ⟨c0, c1, fr⟩ := HBOX.out W hW; go_simp) ?_
  simp only [Act.put, List.setIfInBounds_toArray, List.set_cons_zero, List.set_cons_succ]
  refine wpX_val (.pointer (some ⟨w.heap.size, 1, none⟩)) rfl (by intro W hW; obtain ⟨c0, c1, fr⟩ := HBOX.out W hW; go_simp) ?_
  simp only [Act.put, List.setIfInBounds_toArray, List.set_cons_zero, List.set_cons_succ]
  refine wpX_val (.string ⟨r.toArray⟩) rfl (by intro W hW; obtain ⟨c0, c1, fr⟩ := HBOX.out W hW; go_simp) ?_
  simp only [Act.put, List.setIfInBounds_toArray, List.set_cons_zero, List.set_cons_succ]
  refine wpX_val (.string ⟨X4.toArray⟩) rfl (by intro W hW; obtain ⟨c0, c1, fr⟩ := HBOX.out W hW; go_simp) ?_
  simp only [Act.put, List.setIfInBounds_toArray, List.set_cons_zero, List.set_cons_succ]
  refine wpX_call (.tuple #[.string ⟨S.toArray⟩, .bool true]) (f := 95) (args := #[.string ⟨X4.toArray⟩]) rfl (by intro W hW; go_simp) (fun W hW => (q2.out W (HLAY.out W hW)).mono (by rintro e w' ⟨rfl, hk⟩; exact ⟨rfl, HK.out _ _ hW hk⟩)) ?_
  simp only [Act.put, List.setIfInBounds_toArray, List.set_cons_zero, List.set_cons_succ]
  refine wpX_val (.tuple #[.string ⟨S.toArray⟩, .bool true]) rfl (by intro W hW; obtain ⟨c0, c1, fr⟩ := HBOX.out W hW; go_simp) ?_
  simp only [Act.put, List.setIfInBounds_toArray, List.set_cons_zero, List.set_cons_succ]
  refine wpX_val (.string ⟨S.toArray⟩) rfl (by intro W hW; obtain ⟨c0, c1, fr⟩ := HBOX.out W hW; go_simp) ?_
  simp only [Act.put, List.setIfInBounds_toArray, List.set_cons_zero, List.set_cons_succ]
  refine wpX_val (.bool true) rfl (by intro W hW; obtain ⟨c0, c1, fr⟩ := HBOX.out W hW; go_simp) ?_
  simp only [Act.put, List.setIfInBounds_toArray, List.set_cons_zero, List.set_cons_succ]
  refine wpX_val (.string ⟨S.toArray⟩) rfl (by intro W hW; obtain ⟨c0, c1, fr⟩ := HBOX.out W hW; go_simp) ?_
  simp only [Act.put, List.setIfInBounds_toArray, List.set_cons_zero, List.set_cons_succ]
  refine wpX_val (.bool true) rfl (by intro W hW; obtain ⟨c0, c1, fr⟩ := HBOX.out W hW; go_simp) ?_
  simp only [Act.put, List.setIfInBounds_toArray, List.set_cons_zero, List.set_cons_succ]
  refine wpX_nil (fun W hW => ?_)
  have kW := HCHG.out W hW
  go_wp2_with fail
  go_ret
  exact ⟨rfl, kW⟩

end Go.Proofs.YtmnohickmidfkaaGreatDoor

/- a record encoded and read by the program -/
namespace Go.Proofs.YtmnohickmidfkaaGreatDoor
open Go.RowKit

def encB (k : Nat) (c r : List UInt8) : Bool := inB (k : Int) 0 59 && recB c r
def encT (k : Nat) (c r : List UInt8) : List UInt8 := if encB k c r then lineL k c r ++ [10] else []
set_option maxRecDepth 100000 in
set_option maxHeartbeats 1000000 in
theorem EncodeRecord_any (k : Nat) (c r : List UInt8) (w : World) (hk : k ≤ 1152921504606846976) (hc : c.length ≤ 1125899906842624) (hr : r.length ≤ 1125899906842624) (hw : Lay w) :
    Calls Tryz.prog 88 #[.int .i64 k, rv c r] w fun e w' => e = .returned (.tuple #[.string ⟨(encT k c r).toArray⟩, .bool (encB k c r)]) ∧ Chg No w w' := by
  have k0 := (Chg.refl No w).alloc (.cells #[.string ⟨c.toArray⟩, .string ⟨r.toArray⟩] 79)
  have HL := Lib.hid (hw.keep k0)
  obtain ⟨c0, c1, fr⟩ := Box2.new w (.string ⟨c.toArray⟩) (.string ⟨r.toArray⟩) 79
  have q1 := Lib.hid (fun W hW => IsValidRecord_any c r W (by omega) (by omega) hW)
  have BX : Hid (∀ W, Chg No (w.alloc (.cells #[.string ⟨c.toArray⟩, .string ⟨r.toArray⟩] 79)) W → Box2 W w.heap.size (.string ⟨c.toArray⟩) (.string ⟨r.toArray⟩)) := Lib.hid (fun W hW => (Box2.new w (.string ⟨c.toArray⟩) (.string ⟨r.toArray⟩) 79).keep hW)
  unfold rv at q1 ⊢
  cases g1 : inB (k : Int) 0 59 with
  | false =>
    have hB : Hid (encB k c r = false) := Lib.hid (by simp [encB, g1])
    have hT : Hid (encT k c r = []) := Lib.hid (by rw [encT, hB.out]; rfl)
    rw [hB.out, hT.out]
    go_enter Tryz.func88, Tryz.ntmps88
    go_wp2_with (go_at_call 27; refine (within_any _ _ _ _).mono ?_; rintro e w' ⟨rfl, rfl⟩)
    all_goals go_ret2
    all_goals exact ⟨rfl, k0⟩
  | true =>
    cases g2 : recB c r with
    | false =>
      have hB : Hid (encB k c r = false) := Lib.hid (by simp [encB, g2])
      have hT : Hid (encT k c r = []) := Lib.hid (by rw [encT, hB.out]; rfl)
      rw [hB.out, hT.out]
      rw [g2] at q1
      go_enter Tryz.func88, Tryz.ntmps88
      go_wp2_with (first | (go_at_call 27; refine (within_any _ _ _ _).mono ?_; rintro e w' ⟨rfl, rfl⟩) | (go_at_call 96; refine (q1.out _ HL.out).mono ?_; rintro e w1 ⟨rfl, hk1⟩))
      go_ret2
      exact ⟨rfl, k0.trans hk1⟩
    | true =>
      have hB : Hid (encB k c r = true) := Lib.hid (by simp [encB, g1, g2])
      have hT : Hid (encT k c r = lineL k c r ++ [10]) := Lib.hid (by rw [encT, hB.out]; rfl)
      have hkk := inB_iff.1 g1
      have q2 := Lib.hid (fun W hW => encoded_any k c r W (by omega) g2 hW)
      obtain ⟨Z, hZ⟩ : ∃ Z, Z = lineL k c r ++ [10] := ⟨_, rfl⟩
      rw [hB.out, hT.out]
      rw [← hZ] at q2 ⊢
      unfold rv at q2
      rw [g2] at q1
      clear hZ hT hB
      go_enter Tryz.func88, Tryz.ntmps88
      go_wp2_with (first | (go_at_call 27; refine (within_any _ _ _ _).mono ?_; rintro e w' ⟨rfl, rfl⟩) | (go_at_call 96; refine (q1.out _ HL.out).mono ?_; rintro e w1 ⟨rfl, hk1⟩; obtain ⟨c0, c1, fr⟩ := BX.out w1 hk1; have HL1 := Lib.hid (HL.out.keep hk1)) | (go_at_call 97; refine (q2.out _ HL1.out).mono ?_; rintro e w2 ⟨rfl, hk2⟩))
      go_ret2
      exact ⟨rfl, (k0.trans hk1).trans hk2⟩

def cutV (x : UInt8) (l : List UInt8) : Value := .tuple #[.string ⟨(preB x l).toArray⟩, .string ⟨(postB x l).toArray⟩, .bool (hasL x l)]
theorem cut_any (x : UInt8) (l : List UInt8) (w : World) (hl : l.length ≤ 1073741824) (hw : Lay w) :
    Calls Tryz.prog 73 #[.string ⟨l.toArray⟩, .string ⟨#[x]⟩] w fun e w' => e = .returned (cutV x l) ∧ Chg No w w' := by
  obtain ⟨mx, hmx⟩ := hw.max
  refine (Tryz.strings_Cut ⟨l.toArray⟩ ⟨#[x]⟩ mx w (by simp [ByteArray.size]; omega) hmx).mono ?_
  rintro e w' ⟨rfl, n, rfl⟩
  refine ⟨?_, drewN_chg' w n⟩
  rw [show Lib.cut (ByteArray.mk l.toArray).data.toList (ByteArray.mk #[x]).data.toList = (preB x l, postB x l, decide (x ∈ l)) from cut_one x l]
  rfl
theorem Box2.put2 {w : World} {b : Nat} {v0 v1 : Value} (h : Box2 w b v0 v1) (x0 x1 : Value) : Box2 ((w.setCell ⟨b, 0, none⟩ x0).setCell ⟨b, 1, none⟩ x1) b x0 x1 := by
  obtain ⟨c0, c1, fr⟩ := h
  refine ⟨?_, ?_, fun o => ?_⟩
  · go_simp
  · go_simp
  · go_simp
theorem Chg.put2 {S : Nat → Prop} {w0 wr : World} (h : Chg S w0 wr) {b : Nat} (hb : b < w0.heap.size → S b) (x0 x1 : Value) : Chg S w0 ((wr.setCell ⟨b, 0, none⟩ x0).setCell ⟨b, 1, none⟩ x1) :=
  (h.setCell (p := ⟨b, 0, none⟩) hb x0).setCell (p := ⟨b, 1, none⟩) hb x1
/-- whether the program takes a line for the record with that number -/
def readB (k : Nat) (l : List UInt8) : Bool := verB l && encB k (ofText (preB 35 l)).1 (ofText (preB 35 l)).2 && ((encT k (ofText (preB 35 l)).1 (ofText (preB 35 l)).2) == l ++ [10])
theorem readB_eq (k : Nat) (l : List UInt8) : readB k l = (decB k l).isSome := by
  rw [← decB_impl, readB, Bool.and_assoc]
  congr 1
  have e : inB (k : Int) 0 59 = decide (k < 60) := by
    rw [inB]
    have h1 : decide ((0 : Int) ≤ (k : Int)) = true := by rw [decide_eq_true_eq]; omega
    have h2 : decide ((k : Int) ≤ 59) = decide (k < 60) := by rw [decide_eq_decide]; omega
    rw [h1, h2]; rfl
  cases hB : encB k (ofText (preB 35 l)).1 (ofText (preB 35 l)).2 with
  | false =>
    rw [encB, e] at hB
    rw [hB]; rfl
  | true =>
    have hT : encT k (ofText (preB 35 l)).1 (ofText (preB 35 l)).2 = lineL k (ofText (preB 35 l)).1 (ofText (preB 35 l)).2 ++ [10] := by rw [encT, hB]; rfl
    rw [encB, e] at hB
    rw [hT, hB, Bool.true_and, Bool.true_and]
    have : (lineL k (ofText (preB 35 l)).1 (ofText (preB 35 l)).2 ++ [10] == l ++ [10]) = decide (lineL k (ofText (preB 35 l)).1 (ofText (preB 35 l)).2 = l) := by
      rw [Bool.eq_iff_iff, beq_iff_eq, decide_eq_true_eq]
      exact List.append_left_inj _
    rw [this]
set_option maxRecDepth 100000 in
set_option maxHeartbeats 1000000 in
theorem readRecord_any (k : Nat) (l : List UInt8) (w : World) (hk : k ≤ 1152921504606846976) (hl : l.length ≤ 1048576) (hw : Lay w) :
    Calls Tryz.prog 74 #[.int .i64 k, .string ⟨l.toArray⟩] w fun e w' => ∃ c r, e = .returned (.tuple #[rv c r, .bool (readB k l)]) ∧ (readB k l = true → decB k l = some (c, r)) ∧ Chg No w w' := by
  have q1 := Lib.hid (fun W hW => VerifyChecksum_any l W (by omega) hW)
  cases g1 : verB l with
  | false =>
    have hR : Hid (readB k l = false) := Lib.hid (by rw [readB, g1]; rfl)
    obtain ⟨X, hX⟩ : ∃ X, (if verB l then preB 35 l else []) = X := ⟨_, rfl⟩
    rw [hX, g1] at q1
    rw [hR.out]
    have k0 := (Chg.refl No w).alloc (.cells #[.string ByteArray.empty, .string ByteArray.empty] 79)
    have HL := Lib.hid (hw.keep k0)
    have BX : Hid (∀ W, Chg No (w.alloc (.cells #[.string ByteArray.empty, .string ByteArray.empty] 79)) W → Box2 W w.heap.size (.string ByteArray.empty) (.string ByteArray.empty)) := Lib.hid (fun W hW => (Box2.new w (.string ByteArray.empty) (.string ByteArray.empty) 79).keep hW)
    clear hX hw
    go_enter Tryz.func74, Tryz.ntmps74
    go_wp2_with (go_at_call 87; refine (q1.out _ HL.out).mono ?_; rintro e w1 ⟨rfl, hk1⟩; obtain ⟨c0, c1, fr⟩ := BX.out w1 hk1)
    obtain ⟨z0, z1, _⟩ := (BX.out w1 hk1).put2 (.string ⟨#[]⟩) (.string ⟨#[]⟩)
    have y0 := World.cell?_setCell_same w1 _ (.string ⟨#[]⟩) c0
    refine bodyPost_ret (v := .tuple #[.agg #[.string ⟨#[]⟩, .string ⟨#[]⟩], .bool false]) (by simp [results, Tryz.results74, go_sem, z0, z1]) rfl ?_
    exact ⟨[], [], rfl, (fun h => by cases h), (k0.trans hk1).put2 (fun h => absurd h (by omega)) _ _⟩
  | true =>
    obtain ⟨mx, hmx⟩ := hw.max
    rw [g1] at q1
    simp only [if_true] at q1
    have hp1 := pre_le 35 l
    have hR : Hid (readB k l = (encB k (ofText (preB 35 l)).1 (ofText (preB 35 l)).2 && ((encT k (ofText (preB 35 l)).1 (ofText (preB 35 l)).2) == l ++ [10]))) := Lib.hid (by rw [readB, g1, Bool.true_and])
    have hD := Lib.hid (readB_eq k l)
    have hDS : Hid (∀ x, decB k l = some x → x = ofText (preB 35 l)) := Lib.hid (fun x hx => by
      obtain ⟨c, r⟩ := x
      exact (decB_some hx).2.2.2.symm)
    obtain ⟨p, hp⟩ : ∃ p, p = preB 35 l := ⟨_, rfl⟩
    rw [← hp] at q1 hp1 hR hDS
    have q2 := Lib.hid (fun W hW => cut_any 32 p W (by omega) hW)
    have hp2 : (postB 32 p).length ≤ p.length := by
      by_cases h : 32 ∈ p
      · rw [post_drop 32 p h, List.length_drop]; omega
      · rw [(pre_all 32 p h).2]; simp
    have q3 := Lib.hid (fun W hW => cut_any 64 (postB 32 p) W (by omega) hW)
    have hc := pre_le 64 (postB 32 p)
    have hr : (postB 64 (postB 32 p)).length ≤ (postB 32 p).length := by
      by_cases h : 64 ∈ postB 32 p
      · rw [post_drop 64 _ h, List.length_drop]; omega
      · rw [(pre_all 64 _ h).2]; simp
    have hof : ofText p = (preB 64 (postB 32 p), postB 64 (postB 32 p)) := rfl
    rw [hof] at hR hDS
    simp only at hR
    obtain ⟨c, hce⟩ : ∃ c, c = preB 64 (postB 32 p) := ⟨_, rfl⟩
    obtain ⟨r, hre⟩ : ∃ r, r = postB 64 (postB 32 p) := ⟨_, rfl⟩
    obtain ⟨u, hue⟩ : ∃ u, u = postB 32 p := ⟨_, rfl⟩
    rw [← hce, ← hre] at hR hDS
    rw [← hce] at hc
    rw [← hre] at hr
    rw [← hue] at hc hr hp2
    unfold cutV at q2 q3
    rw [← hce, ← hre, ← hue] at q3
    rw [← hue] at q2
    have q4 := Lib.hid (fun W hW => EncodeRecord_any k c r W hk (by omega) (by omega) hW)
    have k0 := (Chg.refl No w).alloc (.cells #[.string ByteArray.empty, .string ByteArray.empty] 79)
    have BX : Hid (∀ W, Chg No (w.alloc (.cells #[.string ByteArray.empty, .string ByteArray.empty] 79)) W → Box2 W w.heap.size (.string ByteArray.empty) (.string ByteArray.empty)) := Lib.hid (fun W hW => (Box2.new w (.string ByteArray.empty) (.string ByteArray.empty) 79).keep hW)
    have HL := Lib.hid (hw.keep k0)
    clear hp hce hre hue hof hw hmx
    obtain ⟨T, hT⟩ : ∃ T, T = encT k c r := ⟨_, rfl⟩
    obtain ⟨Y, hY⟩ : ∃ Y, Y = l ++ [10] := ⟨_, rfl⟩
    have a1 := cat_to (P := Tryz.prog) hY (by rw [hY]; simp; omega)
    have HF0 : Hid (readB k l = true → decB k l = some (c, r)) := Lib.hid (fun h => by
      cases hd : decB k l with
      | none => rw [hD.out, hd] at h; cases h
      | some x => rw [hDS.out x hd])
    rw [← hT] at hR q4
    rw [← hY] at hR
    unfold rv at q4
    clear hT hY hD hDS
    unfold rv
    cases g2 : encB k c r with
    | false =>
      have hB : Hid (readB k l = false) := Lib.hid (by rw [hR.out, g2]; rfl)
      rw [hB.out] at HF0 ⊢
      have HF := HF0
      rw [g2] at q4
      clear hR HF0
      go_enter Tryz.func74, Tryz.ntmps74
      go_wp2_with (first | (go_at_call 87; refine (q1.out _ HL.out).mono ?_; rintro e w1 ⟨rfl, hk1⟩) | (go_at_call 73; first | (with_reducible refine (q2.out _ (HL.out.keep hk1)).mono ?_; rintro e w2 ⟨rfl, hk2⟩) | (with_reducible refine (q3.out _ ((HL.out.keep hk1).keep hk2)).mono ?_; rintro e w3 ⟨rfl, hk3⟩)) | (go_at_call 88; refine (q4.out _ ((((HL.out.keep hk1).keep hk2).keep hk3).keep ((Chg.refl No w3).alloc _))).mono ?_; rintro e w4 ⟨rfl, hk4⟩; obtain ⟨c0, c1, fr⟩ := (Box2.new w3 (.string ⟨c.toArray⟩) (.string ⟨r.toArray⟩) 79).keep hk4; have kk := ((hk1.trans hk2).trans hk3).trans (((Chg.refl No w3).alloc _).trans hk4); have bb := BX.out w4 kk; obtain ⟨d0, d1, fr'⟩ := id bb))
      obtain ⟨z0, z1, _⟩ := bb.put2 (.string ⟨c.toArray⟩) (.string ⟨r.toArray⟩)
      have y0 := World.cell?_setCell_same w4 _ (.string ⟨c.toArray⟩) d0
      refine bodyPost_ret (v := .tuple #[.agg #[.string ⟨c.toArray⟩, .string ⟨r.toArray⟩], .bool false]) (by simp [results, Tryz.results74, go_sem, z0, z1]) rfl ?_
      exact ⟨c, r, rfl, HF.out, (k0.trans kk).put2 (fun h => absurd h (by omega)) _ _⟩
    | true =>
      rw [g2] at q4
      cases g3 : (T == Y) with
      | false =>
        have hB : Hid (readB k l = false) := Lib.hid (by rw [hR.out, g2, g3]; rfl)
        rw [hB.out] at HF0 ⊢
        have HF := HF0
        clear hR HF0
        go_enter Tryz.func74, Tryz.ntmps74
        go_wp2_with (first | (go_at_call 87; refine (q1.out _ HL.out).mono ?_; rintro e w1 ⟨rfl, hk1⟩) | (go_at_call 73; first | (with_reducible refine (q2.out _ (HL.out.keep hk1)).mono ?_; rintro e w2 ⟨rfl, hk2⟩) | (with_reducible refine (q3.out _ ((HL.out.keep hk1).keep hk2)).mono ?_; rintro e w3 ⟨rfl, hk3⟩)) | (go_at_call 88; refine (q4.out _ ((((HL.out.keep hk1).keep hk2).keep hk3).keep ((Chg.refl No w3).alloc _))).mono ?_; rintro e w4 ⟨rfl, hk4⟩; obtain ⟨c0, c1, fr⟩ := (Box2.new w3 (.string ⟨c.toArray⟩) (.string ⟨r.toArray⟩) 79).keep hk4; have kk := ((hk1.trans hk2).trans hk3).trans (((Chg.refl No w3).alloc _).trans hk4); have bb := BX.out w4 kk; obtain ⟨d0, d1, fr'⟩ := id bb))
        obtain ⟨z0, z1, _⟩ := bb.put2 (.string ⟨c.toArray⟩) (.string ⟨r.toArray⟩)
        have y0 := World.cell?_setCell_same w4 _ (.string ⟨c.toArray⟩) d0
        refine bodyPost_ret (v := .tuple #[.agg #[.string ⟨c.toArray⟩, .string ⟨r.toArray⟩], .bool false]) (by simp [results, Tryz.results74, go_sem, z0, z1]) rfl ?_
        exact ⟨c, r, rfl, HF.out, (k0.trans kk).put2 (fun h => absurd h (by omega)) _ _⟩
      | true =>
        have hB : Hid (readB k l = true) := Lib.hid (by rw [hR.out, g2, g3]; rfl)
        rw [hB.out] at HF0 ⊢
        have HF := HF0
        clear hR HF0
        go_enter Tryz.func74, Tryz.ntmps74
        go_wp2_with (first | (go_at_call 87; refine (q1.out _ HL.out).mono ?_; rintro e w1 ⟨rfl, hk1⟩) | (go_at_call 73; first | (with_reducible refine (q2.out _ (HL.out.keep hk1)).mono ?_; rintro e w2 ⟨rfl, hk2⟩) | (with_reducible refine (q3.out _ ((HL.out.keep hk1).keep hk2)).mono ?_; rintro e w3 ⟨rfl, hk3⟩)) | (go_at_call 88; refine (q4.out _ ((((HL.out.keep hk1).keep hk2).keep hk3).keep ((Chg.refl No w3).alloc _))).mono ?_; rintro e w4 ⟨rfl, hk4⟩; obtain ⟨c0, c1, fr⟩ := (Box2.new w3 (.string ⟨c.toArray⟩) (.string ⟨r.toArray⟩) 79).keep hk4; have kk := ((hk1.trans hk2).trans hk3).trans (((Chg.refl No w3).alloc _).trans hk4); have bb := BX.out w4 kk; obtain ⟨d0, d1, fr'⟩ := id bb))
        obtain ⟨z0, z1, _⟩ := bb.put2 (.string ⟨c.toArray⟩) (.string ⟨r.toArray⟩)
        have y0 := World.cell?_setCell_same w4 _ (.string ⟨c.toArray⟩) d0
        refine bodyPost_ret (v := .tuple #[.agg #[.string ⟨c.toArray⟩, .string ⟨r.toArray⟩], .bool true]) (by simp [results, Tryz.results74, go_sem, z0, z1]) rfl ?_
        exact ⟨c, r, rfl, HF.out, (k0.trans kk).put2 (fun h => absurd h (by omega)) _ _⟩

end Go.Proofs.YtmnohickmidfkaaGreatDoor

/- a text parted at a byte, as the reference does it -/
namespace Go.Proofs.YtmnohickmidfkaaGreatDoor
open Go.RowKit

theorem elStr : El 76 9 (.string ByteArray.empty) 1 16 := El.mk' Tryz.underlying76 (by kernel_rfl) rfl (by decide)
def headS (b : UInt8) (s : List UInt8) (n : Nat) (cs : List Value) : Prop := (0 < n → cs[0]? = some (.string ⟨(preB b s).toArray⟩) ∧ b ∈ s)
theorem pre_at (b : UInt8) (s : List UInt8) (k : Nat) (hk : k < s.length) (h : s[k] = b) (hn : b ∉ s.take k) : preB b s = s.take k := by
  have e : s = s.take k ++ b :: s.drop (k + 1) := by
    rw [← h, List.getElem_cons_drop, List.take_append_drop]
  have h1 := (pre_join b (s.take k) (s.drop (k + 1)) hn).1
  rw [← e] at h1
  exact h1
set_option maxRecDepth 100000 in
set_option maxHeartbeats 2000000 in
theorem l1Split_any (s : List UInt8) (b : UInt8) (w : World) (hs : s.length ≤ 1073741824) :
    Calls Tryz.prog 43 #[.string ⟨s.toArray⟩, .int .u8 (b.toNat : Int)] w fun e w' => ∃ g n cap, e = .returned (.slice (some ⟨g, 0, none⟩) n cap) ∧ 1 ≤ n ∧ n ≤ cap ∧ cap ≤ 9223372036854775807 ∧ w.heap.size ≤ g ∧ g < w'.heap.size ∧ w'.cell? ⟨g, 0, none⟩ = some (.string ⟨(preB b s).toArray⟩) ∧ (2 ≤ n ↔ b ∈ s) ∧ Chg No w w' := by
  go_enter Tryz.func43, Tryz.ntmps43
  go_wp2_with fail
  go_loopw [5, 6, 7] (fun o f i wr => ∃ (k n m : Nat) (cs : List Value), k ≤ s.length ∧ i = .int .i64 k ∧ f = .int .i64 m ∧ m ≤ k ∧ OS 9 1 w.heap.size wr o n cs ∧ n ≤ k ∧ Hid ((n = 0 → m = 0 ∧ b ∉ s.take k) ∧ (0 < n → cs[0]? = some (.string ⟨(preB b s).toArray⟩) ∧ b ∈ s)) ∧ Chg No w wr) (fun _ _ i _ => s.length - (intOf i).toNat)
  case atStart => exact ⟨0, 0, 0, [], Nat.zero_le _, rfl, rfl, Nat.le_refl _, OS.zero (Nat.le_refl _), Nat.le_refl _, Lib.hid ⟨fun _ => ⟨rfl, by simp⟩, fun h => absurd h (by omega)⟩, (Chg.refl No w).alloc _⟩
  case round =>
    obtain ⟨k, n, m, cs, hk, rfl, rfl, hm, ho, hn, HI, hch⟩ := hrel
    by_cases hlt : k < s.length
    · obtain ⟨x, hx⟩ : ∃ x, s[k] = x := ⟨_, rfl⟩
      have hix : ∀ W, (Instr.index 9 (.string ⟨s.toArray⟩) (.int .i64 (k : Int))).run Tryz.prog W = .ok (.int .u8 (x.toNat : Int)) W := fun W => by
        have hsz : (⟨s.toArray⟩ : ByteArray).size = s.length := by simp [ByteArray.size]
        rw [run_index_string _ _ _ _ _ Tryz.underlying9, dif_pos ⟨by omega, by rw [hsz]; omega⟩]
        have : (⟨s.toArray⟩ : ByteArray)[(k : Int).toNat]'(by rw [hsz]; omega) = s[k] := by simp; rfl
        rw [this, hx]
      by_cases hxb : x = b
      · have hq : (x.toNat : Int) = (b.toNat : Int) := by rw [hxb]
        have hsz := hch.size
        have HX := Lib.hid (hx.trans hxb)
        clear hxb hx
        go_wp2_with (at_builtin; refine wappS1 elStr (by omega) rfl (.tmp 20) (.tmp 25) rfl ho rfl (by simp [Value.oneCell']) rfl rfl (by omega) (by omega) ?_)
        intro v1 w1 o1 k1 f1
        obtain ⟨a1, q1, rfl, _⟩ := o1.view
        have hch1 := hch.step k1 (fun q hq hl => by have := (ho.lt q hq).1; omega)
        go_wp2_with fail
        refine ⟨⟨k + 1, n + 1, k + 1, _, by omega, by go_num, by go_num, Nat.le_refl _, o1, by omega, Lib.hid ⟨fun h => absurd h (by omega), fun _ => ⟨?_, ?_⟩⟩, hch1⟩, by simp [intOf]; omega⟩
        · by_cases h0 : n = 0
          · obtain ⟨rfl, hb⟩ := HI.out.1 h0
            have hcl := ho.cl
            have hc0 : cs = [] := List.eq_nil_of_length_eq_zero (by omega)
            rw [hc0, pre_at b s k hlt HX.out hb]
            simp [ByteArray.extract_mk]
          · have hh := (HI.out.2 (by omega)).1
            have hcl := ho.cl
            rw [List.getElem?_append_left (by omega)]
            exact hh
        · rw [← HX.out]; exact List.getElem_mem hlt
      · have hq : ((x.toNat : Int) == (b.toNat : Int)) = false := by
          rw [beq_eq_false_iff_ne]
          exact fun h => hxb (UInt8.toNat_inj.1 (by omega))
        have HX := Lib.hid (fun e => hxb (hx.symm.trans e) : ¬ s[k] = b)
        clear hxb hx
        go_wp2_with fail
        refine ⟨⟨k + 1, n, m, cs, by omega, by go_num, rfl, by omega, ho, by omega, Lib.hid ⟨fun h => ⟨(HI.out.1 h).1, ?_⟩, HI.out.2⟩, hch⟩, by simp [intOf]; omega⟩
        rw [List.take_succ_eq_append_getElem hlt, List.mem_append, List.mem_singleton]
        rintro (h1 | h1)
        · exact (HI.out.1 h).2 h1
        · exact HX.out h1.symm
    · have hsz := hch.size
      go_wp2_with (at_builtin; refine wappS1 elStr (by omega) rfl (.tmp 29) (.tmp 33) rfl ho rfl (by simp [Value.oneCell']) rfl rfl (by omega) (by omega) ?_)
      intro v1 w1 o1 k1 f1
      obtain ⟨a1, q1, rfl, hv1, hv2, _, hv⟩ := o1.view
      obtain ⟨g, rfl, hg1, hg2, hgc, _⟩ := hv (by omega)
      have hch1 := hch.step k1 (fun q hq hl => by have := (ho.lt q hq).1; omega)
      go_wp2_with fail
      have hkl : k = s.length := by omega
      have hcl := ho.cl
      have HJ : Hid ((cs ++ [Value.string ((⟨s.toArray⟩ : ByteArray).extract m s.length)]).getD 0 undef = .string ⟨(preB b s).toArray⟩) := Lib.hid (by
        by_cases h0 : n = 0
        · obtain ⟨rfl, hb⟩ := HI.out.1 h0
          have hc0 : cs = [] := List.eq_nil_of_length_eq_zero (by omega)
          rw [hkl, List.take_length] at hb
          rw [hc0, (pre_all b s hb).1]
          simp [ByteArray.extract_mk]
        · have hh := (HI.out.2 (by omega)).1
          rw [List.getD_eq_getElem?_getD, List.getElem?_append_left (by omega), hh]
          rfl)
      have HM : Hid (2 ≤ n + 1 ↔ b ∈ s) := Lib.hid (by
        by_cases h0 : n = 0
        · have hb := (HI.out.1 h0).2
          rw [hkl, List.take_length] at hb
          exact ⟨fun h => absurd h (by omega), fun h => absurd h hb⟩
        · exact ⟨fun _ => (HI.out.2 (by omega)).2, fun _ => by omega⟩)
      have hg0 := hgc 0 (by simp)
      rw [HJ.out] at hg0
      clear hgc hv o1 HI HJ
      go_ret
      exact ⟨g, n + 1, q1, rfl, by omega, hv1, hv2, hg1, hg2, hg0, HM.out, hch1⟩

end Go.Proofs.YtmnohickmidfkaaGreatDoor

/- guarded operations of a region whose order is drawn: taken first, skipped, entered -/
namespace Go.Proofs.YtmnohickmidfkaaGreatDoor
open Go.RowKit

section
variable {P : Program} {ops : Array Oper} {Q : Exit → Act → World → Prop} {md : Region.Mode} {S : World → Prop}
/-- an operation that is wanted, taken first -/
theorem wpAnyK_takeG (i : Nat) {k : Nat} {oi : Oper} (v : Value) {f : Nat} {listed : Array Bool} {a : Act} {w : World} (hi : ops[i]? = some oi)
    (hB : (Region.noSelect ops && Region.free md ops listed i && (Region.ready md ops listed).contains i && Region.waitsFor md ops k i && decide (k ≠ i) && !listed.getD k true) = true)
    (hQ : ∀ c a w, Q (.panic c) (a.put oi.dst v) w → Q (.panic c) a w) (hS : S w) (hg : Region.wanted oi (yielded ops a.tmps) = true) (hy : ∀ w, S w → (execOp a.eval oi).run P w = .ok (.value v) w)
    (h : wpAnyK P md ops Q S k f (listed.setIfInBounds i true) (a.put oi.dst v) w) : wpAnyK P md ops Q S k (f + 1) listed a w := by
  simp only [Bool.and_eq_true, Bool.not_eq_true', decide_eq_true_eq] at hB
  obtain ⟨⟨⟨⟨⟨h1, h2⟩, h3⟩, h4⟩, h5⟩, h6⟩ := hB
  exact wpAnyK_first hi (Region.noSelect_spec h1) hQ h4 h5 f listed a w (Region.free_spec hi h2) (by simpa using h3) h6 (.inl ⟨hg, hy⟩) hS h
/-- an operation that is not wanted, skipped first -/
theorem wpAnyK_skipG (i : Nat) {k : Nat} {oi : Oper} {f : Nat} {listed : Array Bool} {a : Act} {w : World} (hi : ops[i]? = some oi)
    (hB : (Region.noSelect ops && Region.free md ops listed i && (Region.ready md ops listed).contains i && decide (k ≠ i)) = true)
    (hQ : ∀ c a w, Q (.panic c) (a.put oi.dst undef) w → Q (.panic c) a w) (hS : S w) (hg : Region.wanted oi (yielded ops a.tmps) = false)
    (h : wpAnyK P md ops Q S k f (listed.setIfInBounds i true) (a.put oi.dst undef) w) : wpAnyK P md ops Q S k (f + 1) listed a w := by
  simp only [Bool.and_eq_true, decide_eq_true_eq] at hB
  obtain ⟨⟨⟨h1, h2⟩, h3⟩, h4⟩ := hB
  exact wpAnyK_first0 hi (Region.noSelect_spec h1) hQ h4 f listed a w (Region.free_spec hi h2) (by simpa using h3) (.inr ⟨hg, rfl⟩) (fun _ => hS) h
/-- one of those that may come up, wanted -/
theorem wpOpG {k i f : Nat} {o : Oper} {listed : Array Bool} {a : Act} {w : World} (ho : ops[i]? = some o) (hg : Region.wanted o (yielded ops a.tmps) = true)
    (h : ∀ K : Act → World → Prop, Hid (∀ a' w', S w' → wpAnyK P md ops Q S k f (listed.setIfInBounds i true) a' w' → K a' w') → Oper.wp P o a w K Q) :
    wpOp P ops Q i (fun a' w' => ((listed.setIfInBounds i true).getD k true = false → S w') ∧ wpAnyK P md ops Q S k f (listed.setIfInBounds i true) a' w') a w := by
  unfold wpOp
  rw [ho]
  show if Region.wanted o (yielded ops a.tmps) = true then _ else _
  rw [if_pos hg]
  refine .inl ?_
  exact h _ (Lib.hid (fun a' w' h1 h2 => ⟨fun _ => h1, h2⟩))
end
theorem ocallR {o : Oper} {a : Act} {K : Act → World → Prop} {Q : Exit → Act → World → Prop} {w : World} {f : FuncId} {args : Array Value} {v : Value} {φ : World → Prop}
    (ho : (execOp a.eval o).run Tryz.prog w = .ok (.enter f args) w) (h : Calls Tryz.prog f args w fun e w' => e = .returned v ∧ φ w') (hk : ∀ w', φ w' → K (a.put o.dst v) w') : Oper.wp Tryz.prog o a w K Q := by
  unfold Oper.wp
  rw [ho]
  refine h.mono (fun e w' hr => ?_)
  obtain ⟨rfl, hp⟩ := hr
  exact hk w' hp
end Go.Proofs.YtmnohickmidfkaaGreatDoor

/- a record read by the reference -/
namespace Go.Proofs.YtmnohickmidfkaaGreatDoor
open Go.RowKit

/-- whether the text stands ahead, and what the reference takes the record to be -/
def restB (k : Nat) (s : List UInt8) : List UInt8 := (preB 35 s).drop ((Lib.decDigits k).length + 1)
def aheadB (k : Nat) (s : List UInt8) : Bool := (Lib.decDigits k ++ [32]).isPrefixOf (preB 35 s)
theorem decB_spec' (k : Nat) (hk : k < 60) (s : List UInt8) :
    decB k s = if aheadB k s && (hasL 64 (restB k s) && (recB (preB 64 (restB k s)) (postB 64 (restB k s)) && decide (lineL k (preB 64 (restB k s)) (postB 64 (restB k s)) = s))) then some (preB 64 (restB k s), postB 64 (restB k s)) else none := decB_spec k hk s
/-- the head of what the reference parts at a byte -/
theorem split_any (s : List UInt8) (b : UInt8) (w : World) (hs : s.length ≤ 1073741824) :
    Calls Tryz.prog 43 #[.string ⟨s.toArray⟩, .int .u8 (b.toNat : Int)] w fun e w' => ∃ g n cap, e = .returned (.slice (some ⟨g, 0, none⟩) n cap) ∧ 1 ≤ n ∧ n ≤ cap ∧ cap ≤ 9223372036854775807 ∧ w'.cell? ⟨g, 0, none⟩ = some (.string ⟨(preB b s).toArray⟩) ∧ Chg No w w' :=
  (l1Split_any s b w hs).mono fun _ _ ⟨g, n, cap, e, h1, h2, h3, _, _, h5, _, h7⟩ => ⟨g, n, cap, e, h1, h2, h3, h5, h7⟩

set_option maxRecDepth 100000 in
set_option maxHeartbeats 4000000 in
theorem l12Decode_any (k : Nat) (s : List UInt8) (w : World) (hk : k < 60) (hs : s.length ≤ 1048576) :
    Calls Tryz.prog 44 #[.string ⟨s.toArray⟩, .int .i64 k] w fun e w' => ∃ c r, e = .returned (.tuple #[rv c r, .bool (decB k s).isSome]) ∧ ((decB k s).isSome = true → decB k s = some (c, r)) ∧ Chg No w w' := by
  have q1 := Lib.hid (fun W => l1Num_any k W (by omega))
  have q2 : Hid (∀ W, Calls Tryz.prog 43 #[.string ⟨s.toArray⟩, .int .u8 35] W fun e w' => ∃ g n cap, e = .returned (.slice (some ⟨g, 0, none⟩) n cap) ∧ 1 ≤ n ∧ n ≤ cap ∧ cap ≤ 9223372036854775807 ∧ w'.cell? ⟨g, 0, none⟩ = some (.string ⟨(preB 35 s).toArray⟩) ∧ Chg No W w') := Lib.hid (fun W => split_any s 35 W (by omega))
  obtain ⟨D, hD⟩ : ∃ D, D = Lib.decDigits k := ⟨_, rfl⟩
  have hDl := dec_len 1 k (by omega)
  rw [← hD] at q1 hDl
  obtain ⟨A, hA⟩ : ∃ A, A = D ++ [32] := ⟨_, rfl⟩
  have HAl : Hid (A.length = D.length + 1) := Lib.hid (by rw [hA]; simp)
  have a1 := cat_to (P := Tryz.prog) hA (by rw [HAl.out]; omega)
  have hp1 := pre_le 35 s
  have hag : aheadB k s = A.isPrefixOf (preB 35 s) := by rw [hA, hD]; rfl
  have hre : restB k s = (preB 35 s).drop A.length := by rw [HAl.out, hD]; rfl
  obtain ⟨p, hp⟩ : ∃ p, p = preB 35 s := ⟨_, rfl⟩
  rw [← hp] at q2 hp1 hag hre
  have k0 := (Chg.refl No w).alloc (.cells #[.string ⟨#[]⟩, .string ⟨#[]⟩] 79)
  have BX : Hid (∀ W, Chg No (w.alloc (.cells #[.string ⟨#[]⟩, .string ⟨#[]⟩] 79)) W → Box2 W w.heap.size (.string ⟨#[]⟩) (.string ⟨#[]⟩)) := Lib.hid (fun W hW => (Box2.new w (.string ⟨#[]⟩) (.string ⟨#[]⟩) 79).keep hW)
  have hDD := Lib.hid (decB_spec' k hk s)
  rw [hag, hre] at hDD
  clear hA hp hD hag hre
  by_cases g1 : p.length < A.length
  · have hn : Hid (decB k s = none) := Lib.hid (by
      rw [hDD.out]
      have : A.isPrefixOf p = false := by
        rw [Bool.eq_false_iff]
        intro h
        have := (List.isPrefixOf_iff_prefix.1 h).length_le
        omega
      rw [this]; rfl)
    have g1' : (p.length : Int) < (A.length : Int) := by omega
    rw [hn.out]
    clear hDD
    go_enter Tryz.func44, Tryz.ntmps44
    go_wp2_with (first | (go_at_call 60; refine (q1.out _).mono ?_; rintro e w1 ⟨rfl, m1, rfl⟩) | (go_at_call 43; refine (q2.out _).mono ?_; rintro e w2 ⟨g, n, cap, rfl, hn1, hn2, hn3, hg, hk2⟩; have kk := (drewN_chg' _ m1).trans hk2; obtain ⟨c0, c1, fr⟩ := BX.out w2 kk))
    obtain ⟨z0, z1, _⟩ := (BX.out w2 kk).put2 (.string ⟨#[]⟩) (.string ⟨#[]⟩)
    refine bodyPost_ret (v := .tuple #[.agg #[.string ⟨#[]⟩, .string ⟨#[]⟩], .bool false]) (by simp [results, Tryz.results44, go_sem, z0, z1]) rfl ?_
    exact ⟨[], [], rfl, (fun h => by cases h), (k0.trans kk).put2 (fun h => absurd h (by omega)) _ _⟩
  · have g1' : ¬ (p.length : Int) < (A.length : Int) := by omega
    obtain ⟨x, hx⟩ : ∃ x, x = p.take A.length := ⟨_, rfl⟩
    have hsl : ∀ W, (Instr.slice 9 (.string ⟨p.toArray⟩) none (some (.int .i64 (A.length : Int))) none).run Tryz.prog W = .ok (.string ⟨x.toArray⟩) W := fun W => by
      have hsz : (⟨p.toArray⟩ : ByteArray).size = p.length := by simp [ByteArray.size]
      rw [run_slice_string_to_if _ _ _ _ _ Tryz.underlying9, if_pos ⟨by omega, by rw [hsz]; omega⟩, ByteArray.extract_mk, hx]
      simp
    have hpre : A.isPrefixOf p = (x == A) := by
      rw [Bool.eq_iff_iff, beq_iff_eq, List.isPrefixOf_iff_prefix, List.prefix_iff_eq_take, hx]
      exact ⟨fun h => h.symm, fun h => h.symm⟩
    rw [hpre] at hDD
    clear hpre
    cases g2 : (x == A) with
    | false =>
      have hn : Hid (decB k s = none) := Lib.hid (by rw [hDD.out, g2]; rfl)
      rw [hn.out]
      clear hDD hx
      go_enter Tryz.func44, Tryz.ntmps44
      go_wp2_with (first | (go_at_call 60; refine (q1.out _).mono ?_; rintro e w1 ⟨rfl, m1, rfl⟩) | (go_at_call 43; refine (q2.out _).mono ?_; rintro e w2 ⟨g, n, cap, rfl, hn1, hn2, hn3, hg, hk2⟩; have kk := (drewN_chg' _ m1).trans hk2; obtain ⟨c0, c1, fr⟩ := BX.out w2 kk))
      obtain ⟨z0, z1, _⟩ := (BX.out w2 kk).put2 (.string ⟨#[]⟩) (.string ⟨#[]⟩)
      refine bodyPost_ret (v := .tuple #[.agg #[.string ⟨#[]⟩, .string ⟨#[]⟩], .bool false]) (by simp [results, Tryz.results44, go_sem, z0, z1]) rfl ?_
      exact ⟨[], [], rfl, (fun h => by cases h), (k0.trans kk).put2 (fun h => absurd h (by omega)) _ _⟩
    | true =>
      rw [g2, Bool.true_and] at hDD
      obtain ⟨u, hu⟩ : ∃ u, u = p.drop A.length := ⟨_, rfl⟩
      have hul : u.length ≤ p.length := by rw [hu, List.length_drop]; omega
      have hsu : ∀ W, (Instr.slice 9 (.string ⟨p.toArray⟩) (some (.int .i64 (A.length : Int))) none none).run Tryz.prog W = .ok (.string ⟨u.toArray⟩) W := fun W => by
        have hsz : (⟨p.toArray⟩ : ByteArray).size = p.length := by simp [ByteArray.size]
        rw [run_slice_string_from_if _ _ _ _ _ Tryz.underlying9, if_pos ⟨by omega, by rw [hsz]; omega⟩, ByteArray.extract_mk, hu, hsz]
        have : ((p.drop (A.length : Int).toNat).take (p.length - (A.length : Int).toNat)) = p.drop A.length := by
          rw [List.take_of_length_le (by rw [List.length_drop]; exact Nat.le_refl _)]
          simp
        rw [this]
      rw [← hu] at hDD
      have q3 : Hid (∀ W, Calls Tryz.prog 43 #[.string ⟨u.toArray⟩, .int .u8 64] W fun e w' => ∃ g n cap, e = .returned (.slice (some ⟨g, 0, none⟩) n cap) ∧ 1 ≤ n ∧ n ≤ cap ∧ cap ≤ 9223372036854775807 ∧ w'.cell? ⟨g, 0, none⟩ = some (.string ⟨(preB 64 u).toArray⟩) ∧ Chg No W w') := Lib.hid (fun W => split_any u 64 W (by omega))
      clear hu hx
      have hcl := pre_le 64 u
      by_cases g4 : (64 : UInt8) ∈ u
      · have hct := pre_lt 64 u g4
        have hdr := post_drop 64 u g4
        have hhas : hasL 64 u = true := by rw [hasL, decide_eq_true_eq]; exact g4
        rw [hhas, Bool.true_and] at hDD
        obtain ⟨c, hc⟩ : ∃ c, c = preB 64 u := ⟨_, rfl⟩
        obtain ⟨r, hr⟩ : ∃ r, r = postB 64 u := ⟨_, rfl⟩
        rw [← hc] at q3 hct hcl hdr hDD
        rw [← hr] at hdr hDD
        have hrl : r.length ≤ u.length := by rw [hdr, List.length_drop]; omega
        have g4' : ¬ (c.length : Int) = (u.length : Int) := by omega
        have hw1 : IntKind.i64.wrap ((c.length : Int) + 1) = (c.length : Int) + 1 := IntWalk.i64_in _ (by omega)
        have hsr : ∀ W, (Instr.slice 9 (.string ⟨u.toArray⟩) (some (.int .i64 ((c.length : Int) + 1))) none none).run Tryz.prog W = .ok (.string ⟨r.toArray⟩) W := fun W => by
          have hsz : (⟨u.toArray⟩ : ByteArray).size = u.length := by simp [ByteArray.size]
          have e1 : ((c.length : Int) + 1).toNat = c.length + 1 := by omega
          rw [run_slice_string_from_if _ _ _ _ _ Tryz.underlying9, if_pos ⟨by omega, by rw [hsz]; omega⟩, e1, ByteArray.extract_mk, hdr, hsz]
          rw [List.take_of_length_le (by rw [List.length_drop]; exact Nat.le_refl _)]
        have q4 := Lib.hid (fun W => l12Record_any c r W (by omega) (by omega))
        have q5 := Lib.hid (fun W => l12Line_any k c r W (by omega) (by omega) (by omega))
        unfold rv at q4 q5
        clear hc hr hdr
        cases g5 : recB c r with
        | false =>
          have hn : Hid (decB k s = none) := Lib.hid (by rw [hDD.out, g5]; rfl)
          rw [hn.out]
          rw [g5] at q4
          clear hDD q5
          have HF : Hid (false = true → (none : Option (List UInt8 × List UInt8)) = some (c, r)) := Lib.hid (fun h => by cases h)
          go_enter Tryz.func44, Tryz.ntmps44
          go_wp2_with (first | (go_at_call 60; refine (q1.out _).mono ?_; rintro e w1 ⟨rfl, m1, rfl⟩) | (go_at_call 43; first | (with_reducible refine (q2.out _).mono ?_; rintro e w2 ⟨g, n, cap, rfl, hn1, hn2, hn3, hg, hk2⟩) | (with_reducible refine (q3.out _).mono ?_; rintro e w3 ⟨g', n', cap', rfl, hn1', hn2', hn3', hg', hk3⟩; have kk := ((drewN_chg' _ m1).trans hk2).trans hk3)))
          have E0 := (Box2.new w3 (.string ⟨c.toArray⟩) (.string ⟨r.toArray⟩) 79)
          have kb := (Chg.refl No w3).alloc (.cells #[.string ⟨c.toArray⟩, .string ⟨r.toArray⟩] 79)
          have F0 := BX.out _ (kk.trans kb)
          have kall := kk.trans kb
          have hne : w.heap.size < w3.heap.size := (BX.out w3 kk).lt
          generalize w3.alloc (.cells #[.string ⟨c.toArray⟩, .string ⟨r.toArray⟩] 79) = W0 at E0 F0 kall ⊢
          obtain ⟨b1, hb1⟩ : ∃ b1, w3.heap.size = b1 := ⟨_, rfl⟩
          rw [hb1] at E0 hne ⊢
          refine wp_region_K (S := fun W => Box2 W b1 (.string ⟨c.toArray⟩) (.string ⟨r.toArray⟩)) (k := 12) (by kernel_rfl) ?_
          have hd := (Chg.refl No W0).drew
          have hS := E0.keep hd
          have F0 := F0.keep hd
          have kall := kall.keep hd
          clear E0
          generalize W0.drew = W1 at hS F0 kall ⊢
          clear hd
          refine wpAnyK_take 0 (.agg #[.string ⟨c.toArray⟩, .string ⟨r.toArray⟩]) rfl (by kernel_rfl) (fun _ _ _ h => h) hS rfl (by rintro w ⟨c0, c1, fr⟩; go_simp) ?_
          simp only [List.getElem_toArray, List.getElem_cons_zero, Act.put, List.setIfInBounds_toArray, List.set_cons_zero, List.set_cons_succ]
          refine wpAnyK_take 1 (.agg #[.string ⟨c.toArray⟩, .string ⟨r.toArray⟩]) rfl (by kernel_rfl) (fun _ _ _ h => h) hS rfl (by rintro w ⟨c0, c1, fr⟩; go_simp) ?_
          simp only [List.getElem_toArray, List.getElem_cons_succ, List.getElem_cons_zero, Act.put, List.setIfInBounds_toArray, List.set_cons_zero, List.set_cons_succ]
          refine wpAnyK_1 2 (by kernel_rfl) (wpOpK' rfl rfl ?_)
          intro K hK
          refine ocallR (f := 61) (args := #[.agg #[.string ⟨c.toArray⟩, .string ⟨r.toArray⟩]]) (by go_simp) (q4.out W1) (fun w4 h4 => hK.out _ _ (hS.keep h4) ?_)
          clear hK K
          simp only [List.getElem_toArray, List.getElem_cons_succ, List.getElem_cons_zero, Act.put, List.setIfInBounds_toArray, List.set_cons_zero, List.set_cons_succ]
          have hS := hS.keep h4
          have F0 := F0.keep h4
          have kall := kall.keep h4
          refine wpAnyK_take0 3 (.bool false) rfl (by kernel_rfl) (fun _ _ _ h => h) hS rfl (by intro w; go_simp) ?_
          simp only [List.getElem_toArray, List.getElem_cons_succ, List.getElem_cons_zero, Act.put, List.setIfInBounds_toArray, List.set_cons_zero, List.set_cons_succ]
          refine wpAnyK_skipG 4 rfl (by kernel_rfl) (fun _ _ _ h => h) hS rfl ?_
          simp only [List.getElem_toArray, List.getElem_cons_succ, List.getElem_cons_zero, Act.put, List.setIfInBounds_toArray, List.set_cons_zero, List.set_cons_succ]
          refine wpAnyK_skipG 5 rfl (by kernel_rfl) (fun _ _ _ h => h) hS rfl ?_
          simp only [List.getElem_toArray, List.getElem_cons_succ, List.getElem_cons_zero, Act.put, List.setIfInBounds_toArray, List.set_cons_zero, List.set_cons_succ]
          refine wpAnyK_skipG 6 rfl (by kernel_rfl) (fun _ _ _ h => h) hS rfl ?_
          simp only [List.getElem_toArray, List.getElem_cons_succ, List.getElem_cons_zero, Act.put, List.setIfInBounds_toArray, List.set_cons_zero, List.set_cons_succ]
          refine wpAnyK_skipG 7 rfl (by kernel_rfl) (fun _ _ _ h => h) hS rfl ?_
          simp only [List.getElem_toArray, List.getElem_cons_succ, List.getElem_cons_zero, Act.put, List.setIfInBounds_toArray, List.set_cons_zero, List.set_cons_succ]
          refine wpAnyK_skipG 8 rfl (by kernel_rfl) (fun _ _ _ h => h) hS rfl ?_
          simp only [List.getElem_toArray, List.getElem_cons_succ, List.getElem_cons_zero, Act.put, List.setIfInBounds_toArray, List.set_cons_zero, List.set_cons_succ]
          refine wpAnyK_skipG 9 rfl (by kernel_rfl) (fun _ _ _ h => h) hS rfl ?_
          simp only [List.getElem_toArray, List.getElem_cons_succ, List.getElem_cons_zero, Act.put, List.setIfInBounds_toArray, List.set_cons_zero, List.set_cons_succ]
          refine wpAnyK_take0 10 (.bool false) rfl (by kernel_rfl) (fun _ _ _ h => h) hS rfl (by intro w; go_simp) ?_
          simp only [List.getElem_toArray, List.getElem_cons_succ, List.getElem_cons_zero, Act.put, List.setIfInBounds_toArray, List.set_cons_zero, List.set_cons_succ]
          refine wpAnyK_1 11 (by kernel_rfl) (wpOpK' rfl rfl ?_)
          intro K hK
          obtain ⟨d0, d1, fr'⟩ := id F0
          have fr0 := fr' 0
          have fr1 := fr' 1
          clear fr'
          unfold Oper.wp execOp
          go_simp
          refine hK.out _ _ (hS.step ((Chg.refl (fun q => q = w.heap.size) w4).put2 (fun _ => rfl) _ _) (fun e => by omega)) ?_
          clear hK K hS
          obtain ⟨z0, z1, _⟩ := F0.put2 (.string ⟨c.toArray⟩) (.string ⟨r.toArray⟩)
          clear d0 d1 fr0 fr1
          simp only [List.setIfInBounds_toArray]
          refine wpAnyK_tail 12 rfl (by kernel_rfl) ?_
          simp only [List.drop_succ_cons, List.drop_zero]
          go_wp2_with fail
          refine bodyPost_ret (v := .tuple #[.agg #[.string ⟨c.toArray⟩, .string ⟨r.toArray⟩], .bool false]) (by simp [results, Tryz.results44, go_sem, z0, z1]) rfl ?_
          exact ⟨c, r, rfl, (fun h => by first | rfl | cases h), (k0.trans kall).put2 (fun h => absurd h (by omega)) _ _⟩
        | true =>
          rw [g5] at q4
          obtain ⟨Z, hZ⟩ : ∃ Z, Z = lineL k c r ++ [10] := ⟨_, rfl⟩
          obtain ⟨Y, hY⟩ : ∃ Y, Y = s ++ [10] := ⟨_, rfl⟩
          have a2 := cat_to (P := Tryz.prog) hY (by rw [hY]; simp; omega)
          have hZY : (Z == Y) = decide (lineL k c r = s) := by
            rw [hZ, hY, Bool.eq_iff_iff, beq_iff_eq, decide_eq_true_eq]
            exact List.append_left_inj _
          rw [← hZ] at q5
          rw [g5, ← hZY, Bool.true_and] at hDD
          clear hZ hY hZY
          cases g6 : (Z == Y) with
          | false =>
            have hn : Hid (decB k s = none) := Lib.hid (by rw [hDD.out, g6]; rfl)
            rw [hn.out]
            have HF : Hid (false = true → (none : Option (List UInt8 × List UInt8)) = some (c, r)) := Lib.hid (fun h => by cases h)
            clear hDD
            go_enter Tryz.func44, Tryz.ntmps44
            go_wp2_with (first | (go_at_call 60; refine (q1.out _).mono ?_; rintro e w1 ⟨rfl, m1, rfl⟩) | (go_at_call 43; first | (with_reducible refine (q2.out _).mono ?_; rintro e w2 ⟨g, n, cap, rfl, hn1, hn2, hn3, hg, hk2⟩) | (with_reducible refine (q3.out _).mono ?_; rintro e w3 ⟨g', n', cap', rfl, hn1', hn2', hn3', hg', hk3⟩; have kk := ((drewN_chg' _ m1).trans hk2).trans hk3)))
            have E0 := (Box2.new w3 (.string ⟨c.toArray⟩) (.string ⟨r.toArray⟩) 79)
            have kb := (Chg.refl No w3).alloc (.cells #[.string ⟨c.toArray⟩, .string ⟨r.toArray⟩] 79)
            have F0 := BX.out _ (kk.trans kb)
            have kall := kk.trans kb
            have hne : w.heap.size < w3.heap.size := (BX.out w3 kk).lt
            generalize w3.alloc (.cells #[.string ⟨c.toArray⟩, .string ⟨r.toArray⟩] 79) = W0 at E0 F0 kall ⊢
            obtain ⟨b1, hb1⟩ : ∃ b1, w3.heap.size = b1 := ⟨_, rfl⟩
            rw [hb1] at E0 hne ⊢
            refine wp_region_K (S := fun W => Box2 W b1 (.string ⟨c.toArray⟩) (.string ⟨r.toArray⟩)) (k := 12) (by kernel_rfl) ?_
            have hd := (Chg.refl No W0).drew
            have hS := E0.keep hd
            have F0 := F0.keep hd
            have kall := kall.keep hd
            clear E0
            generalize W0.drew = W1 at hS F0 kall ⊢
            clear hd
            refine wpAnyK_take 0 (.agg #[.string ⟨c.toArray⟩, .string ⟨r.toArray⟩]) rfl (by kernel_rfl) (fun _ _ _ h => h) hS rfl (by rintro w ⟨c0, c1, fr⟩; go_simp) ?_
            simp only [List.getElem_toArray, List.getElem_cons_zero, Act.put, List.setIfInBounds_toArray, List.set_cons_zero, List.set_cons_succ]
            refine wpAnyK_take 1 (.agg #[.string ⟨c.toArray⟩, .string ⟨r.toArray⟩]) rfl (by kernel_rfl) (fun _ _ _ h => h) hS rfl (by rintro w ⟨c0, c1, fr⟩; go_simp) ?_
            simp only [List.getElem_toArray, List.getElem_cons_succ, List.getElem_cons_zero, Act.put, List.setIfInBounds_toArray, List.set_cons_zero, List.set_cons_succ]
            refine wpAnyK_1 2 (by kernel_rfl) (wpOpK' rfl rfl ?_)
            intro K hK
            refine ocallR (f := 61) (args := #[.agg #[.string ⟨c.toArray⟩, .string ⟨r.toArray⟩]]) (by go_simp) (q4.out W1) (fun w4 h4 => hK.out _ _ (hS.keep h4) ?_)
            clear hK K
            simp only [List.getElem_toArray, List.getElem_cons_succ, List.getElem_cons_zero, Act.put, List.setIfInBounds_toArray, List.set_cons_zero, List.set_cons_succ]
            have hS := hS.keep h4
            have F0 := F0.keep h4
            have kall := kall.keep h4
            refine wpAnyK_take0 3 (.bool true) rfl (by kernel_rfl) (fun _ _ _ h => h) hS rfl (by intro w; go_simp) ?_
            simp only [List.getElem_toArray, List.getElem_cons_succ, List.getElem_cons_zero, Act.put, List.setIfInBounds_toArray, List.set_cons_zero, List.set_cons_succ]
            refine wpAnyK_takeG 4 (.int .i64 k) rfl (by kernel_rfl) (fun _ _ _ h => h) hS rfl (by rintro w ⟨c0, c1, fr⟩; go_simp) ?_
            simp only [List.getElem_toArray, List.getElem_cons_succ, List.getElem_cons_zero, Act.put, List.setIfInBounds_toArray, List.set_cons_zero, List.set_cons_succ]
            refine wpAnyK_takeG 5 (.agg #[.string ⟨c.toArray⟩, .string ⟨r.toArray⟩]) rfl (by kernel_rfl) (fun _ _ _ h => h) hS rfl (by rintro w ⟨c0, c1, fr⟩; go_simp) ?_
            simp only [List.getElem_toArray, List.getElem_cons_succ, List.getElem_cons_zero, Act.put, List.setIfInBounds_toArray, List.set_cons_zero, List.set_cons_succ]
            refine wpAnyK_takeG 7 (.string ⟨s.toArray⟩) rfl (by kernel_rfl) (fun _ _ _ h => h) hS rfl (by rintro w ⟨c0, c1, fr⟩; go_simp) ?_
            simp only [List.getElem_toArray, List.getElem_cons_succ, List.getElem_cons_zero, Act.put, List.setIfInBounds_toArray, List.set_cons_zero, List.set_cons_succ]
            refine wpAnyK_takeG 8 (.string ⟨Y.toArray⟩) rfl (by kernel_rfl) (fun _ _ _ h => h) hS rfl (by rintro w ⟨c0, c1, fr⟩; go_simp) ?_
            simp only [List.getElem_toArray, List.getElem_cons_succ, List.getElem_cons_zero, Act.put, List.setIfInBounds_toArray, List.set_cons_zero, List.set_cons_succ]
            refine wpAnyK_1 6 (by kernel_rfl) (wpOpG rfl rfl ?_)
            intro K hK
            refine ocallR (f := 62) (args := #[.int .i64 k, .agg #[.string ⟨c.toArray⟩, .string ⟨r.toArray⟩]]) (by go_simp) (q5.out w4) (fun w5 h5 => hK.out _ _ (hS.keep h5) ?_)
            clear hK K
            simp only [List.getElem_toArray, List.getElem_cons_succ, List.getElem_cons_zero, Act.put, List.setIfInBounds_toArray, List.set_cons_zero, List.set_cons_succ]
            have hS := hS.keep h5
            have F0 := F0.keep h5
            have kall := kall.keep h5
            refine wpAnyK_takeG 9 (.bool false) rfl (by kernel_rfl) (fun _ _ _ h => h) hS rfl (by rintro w ⟨c0, c1, fr⟩; go_simp) ?_
            simp only [List.getElem_toArray, List.getElem_cons_succ, List.getElem_cons_zero, Act.put, List.setIfInBounds_toArray, List.set_cons_zero, List.set_cons_succ]
            refine wpAnyK_take0 10 (.bool false) rfl (by kernel_rfl) (fun _ _ _ h => h) hS rfl (by intro w; go_simp) ?_
            simp only [List.getElem_toArray, List.getElem_cons_succ, List.getElem_cons_zero, Act.put, List.setIfInBounds_toArray, List.set_cons_zero, List.set_cons_succ]
            refine wpAnyK_1 11 (by kernel_rfl) (wpOpK' rfl rfl ?_)
            intro K hK
            obtain ⟨d0, d1, fr'⟩ := id F0
            have fr0 := fr' 0
            have fr1 := fr' 1
            clear fr'
            unfold Oper.wp execOp
            go_simp
            refine hK.out _ _ (hS.step ((Chg.refl (fun q => q = w.heap.size) w5).put2 (fun _ => rfl) _ _) (fun e => by omega)) ?_
            clear hK K hS
            obtain ⟨z0, z1, _⟩ := F0.put2 (.string ⟨c.toArray⟩) (.string ⟨r.toArray⟩)
            clear d0 d1 fr0 fr1
            simp only [List.setIfInBounds_toArray]
            refine wpAnyK_tail 12 rfl (by kernel_rfl) ?_
            simp only [List.drop_succ_cons, List.drop_zero]
            go_wp2_with fail
            refine bodyPost_ret (v := .tuple #[.agg #[.string ⟨c.toArray⟩, .string ⟨r.toArray⟩], .bool false]) (by simp [results, Tryz.results44, go_sem, z0, z1]) rfl ?_
            exact ⟨c, r, rfl, (fun h => by first | rfl | cases h), (k0.trans kall).put2 (fun h => absurd h (by omega)) _ _⟩
          | true =>
            have hn : Hid (decB k s = some (c, r)) := Lib.hid (by rw [hDD.out, g6]; rfl)
            rw [hn.out]
            have HF : Hid (true = true → (some (c, r) : Option (List UInt8 × List UInt8)) = some (c, r)) := Lib.hid (fun _ => rfl)
            clear hDD
            go_enter Tryz.func44, Tryz.ntmps44
            go_wp2_with (first | (go_at_call 60; refine (q1.out _).mono ?_; rintro e w1 ⟨rfl, m1, rfl⟩) | (go_at_call 43; first | (with_reducible refine (q2.out _).mono ?_; rintro e w2 ⟨g, n, cap, rfl, hn1, hn2, hn3, hg, hk2⟩) | (with_reducible refine (q3.out _).mono ?_; rintro e w3 ⟨g', n', cap', rfl, hn1', hn2', hn3', hg', hk3⟩; have kk := ((drewN_chg' _ m1).trans hk2).trans hk3)))
            have E0 := (Box2.new w3 (.string ⟨c.toArray⟩) (.string ⟨r.toArray⟩) 79)
            have kb := (Chg.refl No w3).alloc (.cells #[.string ⟨c.toArray⟩, .string ⟨r.toArray⟩] 79)
            have F0 := BX.out _ (kk.trans kb)
            have kall := kk.trans kb
            have hne : w.heap.size < w3.heap.size := (BX.out w3 kk).lt
            generalize w3.alloc (.cells #[.string ⟨c.toArray⟩, .string ⟨r.toArray⟩] 79) = W0 at E0 F0 kall ⊢
            obtain ⟨b1, hb1⟩ : ∃ b1, w3.heap.size = b1 := ⟨_, rfl⟩
            rw [hb1] at E0 hne ⊢
            refine wp_region_K (S := fun W => Box2 W b1 (.string ⟨c.toArray⟩) (.string ⟨r.toArray⟩)) (k := 12) (by kernel_rfl) ?_
            have hd := (Chg.refl No W0).drew
            have hS := E0.keep hd
            have F0 := F0.keep hd
            have kall := kall.keep hd
            clear E0
            generalize W0.drew = W1 at hS F0 kall ⊢
            clear hd
            refine wpAnyK_take 0 (.agg #[.string ⟨c.toArray⟩, .string ⟨r.toArray⟩]) rfl (by kernel_rfl) (fun _ _ _ h => h) hS rfl (by rintro w ⟨c0, c1, fr⟩; go_simp) ?_
            simp only [List.getElem_toArray, List.getElem_cons_zero, Act.put, List.setIfInBounds_toArray, List.set_cons_zero, List.set_cons_succ]
            refine wpAnyK_take 1 (.agg #[.string ⟨c.toArray⟩, .string ⟨r.toArray⟩]) rfl (by kernel_rfl) (fun _ _ _ h => h) hS rfl (by rintro w ⟨c0, c1, fr⟩; go_simp) ?_
            simp only [List.getElem_toArray, List.getElem_cons_succ, List.getElem_cons_zero, Act.put, List.setIfInBounds_toArray, List.set_cons_zero, List.set_cons_succ]
            refine wpAnyK_1 2 (by kernel_rfl) (wpOpK' rfl rfl ?_)
            intro K hK
            refine ocallR (f := 61) (args := #[.agg #[.string ⟨c.toArray⟩, .string ⟨r.toArray⟩]]) (by go_simp) (q4.out W1) (fun w4 h4 => hK.out _ _ (hS.keep h4) ?_)
            clear hK K
            simp only [List.getElem_toArray, List.getElem_cons_succ, List.getElem_cons_zero, Act.put, List.setIfInBounds_toArray, List.set_cons_zero, List.set_cons_succ]
            have hS := hS.keep h4
            have F0 := F0.keep h4
            have kall := kall.keep h4
            refine wpAnyK_take0 3 (.bool true) rfl (by kernel_rfl) (fun _ _ _ h => h) hS rfl (by intro w; go_simp) ?_
            simp only [List.getElem_toArray, List.getElem_cons_succ, List.getElem_cons_zero, Act.put, List.setIfInBounds_toArray, List.set_cons_zero, List.set_cons_succ]
            refine wpAnyK_takeG 4 (.int .i64 k) rfl (by kernel_rfl) (fun _ _ _ h => h) hS rfl (by rintro w ⟨c0, c1, fr⟩; go_simp) ?_
            simp only [List.getElem_toArray, List.getElem_cons_succ, List.getElem_cons_zero, Act.put, List.setIfInBounds_toArray, List.set_cons_zero, List.set_cons_succ]
            refine wpAnyK_takeG 5 (.agg #[.string ⟨c.toArray⟩, .string ⟨r.toArray⟩]) rfl (by kernel_rfl) (fun _ _ _ h => h) hS rfl (by rintro w ⟨c0, c1, fr⟩; go_simp) ?_
            simp only [List.getElem_toArray, List.getElem_cons_succ, List.getElem_cons_zero, Act.put, List.setIfInBounds_toArray, List.set_cons_zero, List.set_cons_succ]
            refine wpAnyK_takeG 7 (.string ⟨s.toArray⟩) rfl (by kernel_rfl) (fun _ _ _ h => h) hS rfl (by rintro w ⟨c0, c1, fr⟩; go_simp) ?_
            simp only [List.getElem_toArray, List.getElem_cons_succ, List.getElem_cons_zero, Act.put, List.setIfInBounds_toArray, List.set_cons_zero, List.set_cons_succ]
            refine wpAnyK_takeG 8 (.string ⟨Y.toArray⟩) rfl (by kernel_rfl) (fun _ _ _ h => h) hS rfl (by rintro w ⟨c0, c1, fr⟩; go_simp) ?_
            simp only [List.getElem_toArray, List.getElem_cons_succ, List.getElem_cons_zero, Act.put, List.setIfInBounds_toArray, List.set_cons_zero, List.set_cons_succ]
            refine wpAnyK_1 6 (by kernel_rfl) (wpOpG rfl rfl ?_)
            intro K hK
            refine ocallR (f := 62) (args := #[.int .i64 k, .agg #[.string ⟨c.toArray⟩, .string ⟨r.toArray⟩]]) (by go_simp) (q5.out w4) (fun w5 h5 => hK.out _ _ (hS.keep h5) ?_)
            clear hK K
            simp only [List.getElem_toArray, List.getElem_cons_succ, List.getElem_cons_zero, Act.put, List.setIfInBounds_toArray, List.set_cons_zero, List.set_cons_succ]
            have hS := hS.keep h5
            have F0 := F0.keep h5
            have kall := kall.keep h5
            refine wpAnyK_takeG 9 (.bool true) rfl (by kernel_rfl) (fun _ _ _ h => h) hS rfl (by rintro w ⟨c0, c1, fr⟩; go_simp) ?_
            simp only [List.getElem_toArray, List.getElem_cons_succ, List.getElem_cons_zero, Act.put, List.setIfInBounds_toArray, List.set_cons_zero, List.set_cons_succ]
            refine wpAnyK_take0 10 (.bool true) rfl (by kernel_rfl) (fun _ _ _ h => h) hS rfl (by intro w; go_simp) ?_
            simp only [List.getElem_toArray, List.getElem_cons_succ, List.getElem_cons_zero, Act.put, List.setIfInBounds_toArray, List.set_cons_zero, List.set_cons_succ]
            refine wpAnyK_1 11 (by kernel_rfl) (wpOpK' rfl rfl ?_)
            intro K hK
            obtain ⟨d0, d1, fr'⟩ := id F0
            have fr0 := fr' 0
            have fr1 := fr' 1
            clear fr'
            unfold Oper.wp execOp
            go_simp
            refine hK.out _ _ (hS.step ((Chg.refl (fun q => q = w.heap.size) w5).put2 (fun _ => rfl) _ _) (fun e => by omega)) ?_
            clear hK K hS
            obtain ⟨z0, z1, _⟩ := F0.put2 (.string ⟨c.toArray⟩) (.string ⟨r.toArray⟩)
            clear d0 d1 fr0 fr1
            simp only [List.setIfInBounds_toArray]
            refine wpAnyK_tail 12 rfl (by kernel_rfl) ?_
            simp only [List.drop_succ_cons, List.drop_zero]
            go_wp2_with fail
            refine bodyPost_ret (v := .tuple #[.agg #[.string ⟨c.toArray⟩, .string ⟨r.toArray⟩], .bool true]) (by simp [results, Tryz.results44, go_sem, z0, z1]) rfl ?_
            exact ⟨c, r, rfl, (fun h => by first | rfl | cases h), (k0.trans kall).put2 (fun h => absurd h (by omega)) _ _⟩
      · have g4' : ((preB 64 u).length : Int) = (u.length : Int) := by rw [(pre_all 64 u g4).1]
        have hn : Hid (decB k s = none) := Lib.hid (by rw [hDD.out, hasL, decide_eq_false g4]; rfl)
        rw [hn.out]
        obtain ⟨c, hc⟩ : ∃ c, c = preB 64 u := ⟨_, rfl⟩
        rw [← hc] at q3 g4'
        clear hDD hc hcl
        go_enter Tryz.func44, Tryz.ntmps44
        go_wp2_with (first | (go_at_call 60; refine (q1.out _).mono ?_; rintro e w1 ⟨rfl, m1, rfl⟩) | (go_at_call 43; first | (with_reducible refine (q2.out _).mono ?_; rintro e w2 ⟨g, n, cap, rfl, hn1, hn2, hn3, hg, hk2⟩) | (with_reducible refine (q3.out _).mono ?_; rintro e w3 ⟨g', n', cap', rfl, hn1', hn2', hn3', hg', hk3⟩; have kk := ((drewN_chg' _ m1).trans hk2).trans hk3; obtain ⟨c0, c1, fr⟩ := BX.out w3 kk)))
        obtain ⟨z0, z1, _⟩ := (BX.out w3 kk).put2 (.string ⟨#[]⟩) (.string ⟨#[]⟩)
        refine bodyPost_ret (v := .tuple #[.agg #[.string ⟨#[]⟩, .string ⟨#[]⟩], .bool false]) (by simp [results, Tryz.results44, go_sem, z0, z1]) rfl ?_
        exact ⟨[], [], rfl, (fun h => by cases h), (k0.trans kk).put2 (fun h => absurd h (by omega)) _ _⟩

end Go.Proofs.YtmnohickmidfkaaGreatDoor

/- records read from the beginning of bytes: the state between two of them -/
namespace Go.Proofs.YtmnohickmidfkaaGreatDoor
open Go.RowKit

/-- the cells of records in a row -/
def recC (L : List (List UInt8 × List UInt8 × Nat)) : List Value := L.flatMap (fun x => [.string ⟨x.1.toArray⟩, .string ⟨x.2.1.toArray⟩])
theorem recC_snoc (L : List (List UInt8 × List UInt8 × Nat)) (x : List UInt8 × List UInt8 × Nat) : recC (L ++ [x]) = recC L ++ [.string ⟨x.1.toArray⟩, .string ⟨x.2.1.toArray⟩] := by
  simp [recC, List.flatMap_append]
theorem recC_len (L : List (List UInt8 × List UInt8 × Nat)) : (recC L).length = L.length * 2 := by
  induction L with
  | nil => rfl
  | cons x L ih =>
    have : recC (x :: L) = [.string ⟨x.1.toArray⟩, .string ⟨x.2.1.toArray⟩] ++ recC L := by simp [recC]
    rw [this, List.length_append, ih]
    simp only [List.length_cons, List.length_nil]
    omega
theorem lenB_snoc : ∀ (L : List (List UInt8 × List UInt8 × Nat)) (x : List UInt8 × List UInt8 × Nat), lenB (L ++ [x]) = lenB L + x.2.2
  | [], x => by simp [lenB]
  | y :: L, x => by rw [List.cons_append, lenB, lenB, lenB_snoc L x]; omega
theorem endsB_snoc : ∀ (L : List (List UInt8 × List UInt8 × Nat)) (x : List UInt8 × List UInt8 × Nat) (a : Nat), endsB a (L ++ [x]) = endsB a L ++ [a + lenB L + x.2.2]
  | [], x, a => by simp [endsB, lenB]
  | y :: L, x, a => by rw [List.cons_append, endsB, endsB, endsB_snoc L x, lenB, List.cons_append, Nat.add_assoc a]
theorem endsB_len : ∀ (L : List (List UInt8 × List UInt8 × Nat)) (a : Nat), (endsB a L).length = L.length
  | [], _ => rfl
  | y :: L, a => by rw [endsB, List.length_cons, endsB_len L, List.length_cons]

/-- D are the records read so far, R those that still come -/
structure Opened (s : List UInt8) (D R : List (List UInt8 × List UInt8 × Nat)) : Prop where
  all : openB 60 0 s = D ++ R
  rest : openB (60 - D.length) D.length (s.drop (lenB D)) = R
  n : D.length ≤ 60
  le : lenB D ≤ s.length
theorem Opened.zero (s : List UInt8) : Opened s [] (openB 60 0 s) := ⟨rfl, rfl, Nat.zero_le _, Nat.zero_le _⟩
theorem Opened.next {s : List UInt8} {D R : List (List UInt8 × List UInt8 × Nat)} (h : Opened s D R) {c r : List UInt8} (h10 : (10 : UInt8) ∈ s.drop (lenB D)) (hd : decB D.length (preB 10 (s.drop (lenB D))) = some (c, r)) :
    ∃ R', Opened s (D ++ [(c, r, (preB 10 (s.drop (lenB D))).length + 1)]) R' := by
  have hk := (decB_some hd).1
  have e : 60 - D.length = (60 - (D.length + 1)) + 1 := by omega
  have h1 := h.rest
  rw [e] at h1
  unfold openB at h1
  rw [if_pos h10, hd] at h1
  simp only at h1
  refine ⟨openB (60 - (D.length + 1)) (D.length + 1) (postB 10 (s.drop (lenB D))), ?_, ?_, ?_, ?_⟩
  · rw [h.all, ← h1, List.append_assoc]; rfl
  · rw [List.length_append, List.length_singleton, lenB_snoc, post_drop 10 _ h10, List.drop_drop]
  · rw [List.length_append, List.length_singleton]; omega
  · rw [lenB_snoc]
    have := pre_lt 10 _ h10
    have h2 := h.le
    rw [List.length_drop] at this
    simp only
    omega
theorem Opened.end_ {s : List UInt8} {D R : List (List UInt8 × List UInt8 × Nat)} (h : Opened s D R) (hr : R = []) : openB 60 0 s = D := by rw [h.all, hr, List.append_nil]
theorem Opened.notin {s : List UInt8} {D R : List (List UInt8 × List UInt8 × Nat)} (h : Opened s D R) (h10 : (10 : UInt8) ∉ s.drop (lenB D)) : openB 60 0 s = D := by
  refine h.end_ ?_
  rw [← h.rest]
  cases 60 - D.length with
  | zero => rfl
  | succ n => unfold openB; rw [if_neg h10]
theorem Opened.none_ {s : List UInt8} {D R : List (List UInt8 × List UInt8 × Nat)} (h : Opened s D R) (hd : decB D.length (preB 10 (s.drop (lenB D))) = none) : openB 60 0 s = D := by
  refine h.end_ ?_
  rw [← h.rest]
  cases 60 - D.length with
  | zero => rfl
  | succ n =>
    unfold openB
    split
    · rw [hd]
    · rfl
theorem Opened.full {s : List UInt8} {D R : List (List UInt8 × List UInt8 × Nat)} (h : Opened s D R) (hd : 60 ≤ D.length) : openB 60 0 s = D := by
  refine h.end_ ?_
  rw [← h.rest]
  have : 60 - D.length = 0 := by omega
  rw [this]
  rfl
theorem Opened.past {s : List UInt8} {D R : List (List UInt8 × List UInt8 × Nat)} (h : Opened s D R) (hd : s.length ≤ lenB D) : openB 60 0 s = D := by
  refine h.notin ?_
  rw [List.drop_eq_nil_of_le hd]
  simp

end Go.Proofs.YtmnohickmidfkaaGreatDoor

/- a log opened by the reference -/
namespace Go.Proofs.YtmnohickmidfkaaGreatDoor
open Go.RowKit

theorem elRec : El 57 79 (.agg #[.string ByteArray.empty, .string ByteArray.empty]) 2 32 := El.mk' Tryz.underlying57 (by kernel_rfl) rfl (by decide)
theorem open_end {s : List UInt8} {D : List (List UInt8 × List UInt8 × Nat)} {n k base : Nat} {cs : List Value} {v : Value} {w W : World} (HE : openB 60 0 s = D) (hn : D.length = n) (hk : lenB D = k) (hc : recC D = cs)
    (ho : OS 79 2 base W v n cs) (hch : Chg No w W) :
    ∃ v', Ending.returned (.tuple #[v, .int .i64 (k : Int)]) = .returned (.tuple #[v', .int .i64 (lenB (openB 60 0 s))]) ∧ OS 79 2 base W v' (openB 60 0 s).length (recC (openB 60 0 s)) ∧ Chg No w W := by
  subst hn hk hc
  rw [HE]
  exact ⟨v, rfl, ho, hch⟩
set_option maxRecDepth 100000 in
set_option maxHeartbeats 2000000 in
theorem l12Open_any (s : List UInt8) (w : World) (hs : s.length ≤ 1048576) :
    Calls Tryz.prog 23 #[.string ⟨s.toArray⟩] w fun e w' => ∃ v, e = .returned (.tuple #[v, .int .i64 (lenB (openB 60 0 s))]) ∧ OS 79 2 w.heap.size w' v (openB 60 0 s).length (recC (openB 60 0 s)) ∧ Chg No w w' := by
  go_enter Tryz.func23, Tryz.ntmps23
  go_wp2_with fail
  go_loopw [4, 5] (fun o a wr => ∃ (D R : List (List UInt8 × List UInt8 × Nat)), Hid (Opened s D R) ∧ a = .int .i64 (lenB D) ∧ OS 79 2 w.heap.size wr o D.length (recC D) ∧ Chg No w wr) (fun _ a _ => s.length - (intOf a).toNat)
  case atStart => exact ⟨[], openB 60 0 s, Lib.hid (Opened.zero s), rfl, OS.zero (Nat.le_refl _), (Chg.refl No w).alloc _⟩
  case round =>
    obtain ⟨D, R, HO, rfl, ho, hch⟩ := hrel
    have hle := HO.out.le
    have hn60 := HO.out.n
    obtain ⟨n, hn⟩ : ∃ n, D.length = n := ⟨_, rfl⟩
    obtain ⟨k, hk⟩ : ∃ k, lenB D = k := ⟨_, rfl⟩
    obtain ⟨cs, hcs⟩ : ∃ cs, recC D = cs := ⟨_, rfl⟩
    have HN := Lib.hid hn
    have HK := Lib.hid hk
    have HC := Lib.hid hcs
    rw [hn, hcs] at ho
    rw [hn] at hn60
    rw [hk] at hle ⊢
    clear hn hk hcs
    obtain ⟨oa, oc, rfl, _⟩ := ho.view
    by_cases hlt : k < s.length
    · by_cases h60 : n < 60
      · obtain ⟨t, ht⟩ : ∃ t, t = s.drop k := ⟨_, rfl⟩
        have htl : t.length ≤ s.length := by rw [ht, List.length_drop]; omega
        have HT := Lib.hid ht
        have hsl : ∀ W, (Instr.slice 9 (.string ⟨s.toArray⟩) (some (.int .i64 (k : Int))) none none).run Tryz.prog W = .ok (.string ⟨t.toArray⟩) W := fun W => by
          have hsz : (⟨s.toArray⟩ : ByteArray).size = s.length := by simp [ByteArray.size]
          rw [run_slice_string_from_if _ _ _ _ _ Tryz.underlying9, if_pos ⟨by omega, by rw [hsz]; omega⟩, ByteArray.extract_mk, ht, hsz]
          have : ((s.drop (k : Int).toNat).take (s.length - (k : Int).toNat)) = s.drop k := by
            rw [List.take_of_length_le (by rw [List.length_drop]; exact Nat.le_refl _)]
            simp
          rw [this]
        have q1 := Lib.hid (fun W => l1Split_any t 10 W (by omega))
        have hpl := pre_le 10 t
        obtain ⟨p, hp⟩ : ∃ p, p = preB 10 t := ⟨_, rfl⟩
        have HP := Lib.hid hp
        rw [← hp] at hpl
        rw [← hp] at q1
        have q2 := Lib.hid (fun W => l12Decode_any n p W h60 (by omega))
        obtain ⟨db, hdb⟩ : ∃ db, (decB n p).isSome = db := ⟨_, rfl⟩
        rw [hdb] at q2
        unfold rv at q2
        have HD := Lib.hid hdb
        clear ht hp hdb
        have ho2 : Hid (∀ W1 W2, Chg No wr W1 → Chg No W1 W2 → OS 79 2 w.heap.size W2 (.slice oa n oc) n cs) := Lib.hid (fun W1 W2 h1 h2 => (ho.keep h1).keep h2)
        have hsz := hch.size
        by_cases h10 : (10 : UInt8) ∈ t
        · cases db with
          | false =>
            have HE : Hid (openB 60 0 s = D) := Lib.hid (HO.out.none_ (by
              rw [HK.out, HN.out, ← HT.out, ← HP.out]
              have := HD.out
              cases hd : decB n p with
              | none => rfl
              | some x => rw [hd] at this; cases this))
            go_wp2_with (first | (go_at_call 43; refine (q1.out _).mono ?_; rintro e w1 ⟨g, m, cap, rfl, hm1, hm2, hm3, hg0, hg1, hg, hm, hk1⟩; have hm4 := hm.2 h10; clear hm) | (go_at_call 44; refine (q2.out _).mono ?_; rintro e w2 ⟨c, r, rfl, hdc, hk2⟩; obtain ⟨c0, c1, fr⟩ := Box2.new w2 (.string ByteArray.empty) (.string ByteArray.empty) 79; clear hdc))
            go_ret2
            exact open_end (v := .slice oa n oc) HE.out HN.out HK.out HC.out ((ho2.out _ _ hk1 hk2).alloc _) ((hch.trans (hk1.trans hk2)).alloc _)
          | true =>
            go_wp2_with (first | (go_at_call 43; refine (q1.out _).mono ?_; rintro e w1 ⟨g, m, cap, rfl, hm1, hm2, hm3, hg0, hg1, hg, hm, hk1⟩; have hm4 := hm.2 h10; clear hm) | (go_at_call 44; refine (q2.out _).mono ?_; rintro e w2 ⟨c, r, rfl, hdc, hk2⟩; obtain ⟨c0, c1, fr⟩ := Box2.new w2 (.string ByteArray.empty) (.string ByteArray.empty) 79; have HD2 := Lib.hid (hdc trivial); clear hdc; have hs2 := hk1.size; have hs3 := hk2.size) | (at_builtin; refine wappS1 elRec (by omega) rfl (.tmp 39) (.tmp 41) rfl ((ho2.out _ _ hk1 hk2).alloc (.cells #[.string ⟨c.toArray⟩, .string ⟨r.toArray⟩] 79)) rfl (by simp [Value.oneCell']) rfl (by rw [World.size_alloc]; rfl) (by omega) (by simp; omega) ?_))
            intro v1 w3 o1 k3 f3
            obtain ⟨a1, q1', rfl, _⟩ := o1.view
            have kk := ((hk1.trans hk2).alloc (.cells #[.string ⟨c.toArray⟩, .string ⟨r.toArray⟩] 79))
            have hng : ¬ own (.slice oa n oc) g := fun h => by have := (ho.lt g h).2; omega
            have hg3 := ((k3.cellD g 0 (by simp; omega) hng).trans (((hk2.alloc (.cells #[.string ⟨c.toArray⟩, .string ⟨r.toArray⟩] 79)).cellD g 0 hg1 (fun e => e)).trans hg))
            have hch1 := (hch.trans kk).step k3 (fun q hq hl => by have := (ho.lt q hq).1; omega)
            clear hg c0 c1 fr
            go_wp2_with fail
            have HT2 := HT.out
            have hnx := HO.out.next (c := c) (r := r) (by rw [HK.out, ← HT2]; exact h10) (by rw [HK.out, HN.out, ← HT2, ← HP.out]; exact HD2.out)
            obtain ⟨R', hnx⟩ := hnx
            rw [HK.out, ← HT2, ← HP.out] at hnx
            refine ⟨⟨_, R', Lib.hid hnx, ?_, ?_, hch1⟩, ?_⟩
            · rw [lenB_snoc, HK.out]
              go_num
            · rw [List.length_append, HN.out, recC_snoc, HC.out]
              exact o1
            · simp [intOf]; omega
        · have HE := Lib.hid (HO.out.notin (by rw [HK.out, ← HT.out]; exact h10))
          cases db with
          | false =>
            go_wp2_with (first | (go_at_call 43; refine (q1.out _).mono ?_; rintro e w1 ⟨g, m, cap, rfl, hm1, hm2, hm3, hg0, hg1, hg, hm, hk1⟩; have hm4 : m < 2 := Nat.lt_of_not_le (fun h => h10 (hm.1 h)); clear hm) | (go_at_call 44; refine (q2.out _).mono ?_; rintro e w2 ⟨c, r, rfl, hdc, hk2⟩; obtain ⟨c0, c1, fr⟩ := Box2.new w2 (.string ByteArray.empty) (.string ByteArray.empty) 79; clear hdc))
            go_ret2
            exact open_end (v := .slice oa n oc) HE.out HN.out HK.out HC.out ((ho2.out _ _ hk1 hk2).alloc _) ((hch.trans (hk1.trans hk2)).alloc _)
          | true =>
            go_wp2_with (first | (go_at_call 43; refine (q1.out _).mono ?_; rintro e w1 ⟨g, m, cap, rfl, hm1, hm2, hm3, hg0, hg1, hg, hm, hk1⟩; have hm4 : m < 2 := Nat.lt_of_not_le (fun h => h10 (hm.1 h)); clear hm) | (go_at_call 44; refine (q2.out _).mono ?_; rintro e w2 ⟨c, r, rfl, hdc, hk2⟩; obtain ⟨c0, c1, fr⟩ := Box2.new w2 (.string ByteArray.empty) (.string ByteArray.empty) 79; clear hdc))
            go_ret2
            exact open_end (v := .slice oa n oc) HE.out HN.out HK.out HC.out ((ho2.out _ _ hk1 hk2).alloc _) ((hch.trans (hk1.trans hk2)).alloc _)
      · have HE := Lib.hid (HO.out.full (by rw [HN.out]; omega))
        go_wp2_with fail
        go_ret2
        exact open_end (v := .slice oa n oc) HE.out HN.out HK.out HC.out ho hch
    · have HE := Lib.hid (HO.out.past (by rw [HK.out]; omega))
      go_wp2_with fail
      go_ret2
      exact open_end (v := .slice oa n oc) HE.out HN.out HK.out HC.out ho hch
end Go.Proofs.YtmnohickmidfkaaGreatDoor

/- the records at the beginning of bytes, read by the program -/
namespace Go.Proofs.YtmnohickmidfkaaGreatDoor
open Go.RowKit

def endsI (D : List (List UInt8 × List UInt8 × Nat)) : List Int := (endsB 0 D).map (fun x : Nat => (x : Int))
theorem endsI_snoc (D : List (List UInt8 × List UInt8 × Nat)) (x : List UInt8 × List UInt8 × Nat) : endsI (D ++ [x]) = endsI D ++ [((lenB D + x.2.2 : Nat) : Int)] := by
  unfold endsI
  rw [endsB_snoc, List.map_append, Nat.zero_add]
  rfl
theorem endsI_len (D : List (List UInt8 × List UInt8 × Nat)) : (endsI D).length = D.length := by
  unfold endsI
  rw [List.length_map, endsB_len]
theorem Opened.notin' {s : List UInt8} {D R : List (List UInt8 × List UInt8 × Nat)} (h : Opened s D R) (h10 : hasL 10 (s.drop (lenB D)) = false) : openB 60 0 s = D := by
  refine h.notin ?_
  unfold hasL at h10
  simpa using h10
theorem read_end {s : List UInt8} {D : List (List UInt8 × List UInt8 × Nat)} {n base : Nat} {cs : List Value} {es : List Int} {v v2 : Value} {w W : World} (HE : openB 60 0 s = D) (hn : D.length = n) (hc : recC D = cs) (hes : endsI D = es)
    (ho : OS 79 2 base W v n cs) (h2 : OI base W v2 es) (hd : ∀ q, own v q → ¬ own v2 q) (hch : Chg No w W) :
    ∃ v' v2', Ending.returned (.tuple #[v, v2]) = .returned (.tuple #[v', v2']) ∧ OS 79 2 base W v' (openB 60 0 s).length (recC (openB 60 0 s)) ∧ OI base W v2' (endsI (openB 60 0 s)) ∧ (∀ q, own v' q → ¬ own v2' q) ∧ Chg No w W := by
  subst hn hc hes
  rw [HE]
  exact ⟨v, v2, rfl, ho, h2, hd, hch⟩
set_option maxRecDepth 100000 in
set_option maxHeartbeats 2000000 in
theorem readRecords_any (s : List UInt8) (w : World) (hs : s.length ≤ 1048576) (hw : Lay w) :
    Calls Tryz.prog 51 #[.string ⟨s.toArray⟩] w fun e w' => ∃ v v2, e = .returned (.tuple #[v, v2]) ∧ OS 79 2 w.heap.size w' v (openB 60 0 s).length (recC (openB 60 0 s)) ∧ OI w.heap.size w' v2 (endsI (openB 60 0 s)) ∧ (∀ q, own v q → ¬ own v2 q) ∧ Chg No w w' := by
  go_enter Tryz.func51, Tryz.ntmps51
  go_wp2_with fail
  go_loopw [4, 5, 6] (fun o en a wr => ∃ (D R : List (List UInt8 × List UInt8 × Nat)), Hid (Opened s D R) ∧ a = .int .i64 (lenB D) ∧ OS 79 2 w.heap.size wr o D.length (recC D) ∧ OI w.heap.size wr en (endsI D) ∧ (∀ q, own o q → ¬ own en q) ∧ Chg No w wr) (fun _ _ a _ => s.length - (intOf a).toNat)
  case atStart => exact ⟨[], openB 60 0 s, Lib.hid (Opened.zero s), rfl, (OS.zero (Nat.le_refl _)).alloc _, OI.zeroAt (by rw [World.size_alloc]) (by omega), fun q hq hq' => by (have h1 := own_slice.1 hq; have h2 := own_slice.1 hq'; omega), ((Chg.refl No w).alloc _).alloc _⟩
  case round =>
    obtain ⟨D, R, HO, rfl, ho, hen, hdis, hch⟩ := hrel
    have hle := HO.out.le
    have hn60 := HO.out.n
    have hel := endsI_len D
    obtain ⟨n, hn⟩ : ∃ n, D.length = n := ⟨_, rfl⟩
    obtain ⟨k, hk⟩ : ∃ k, lenB D = k := ⟨_, rfl⟩
    obtain ⟨cs, hcs⟩ : ∃ cs, recC D = cs := ⟨_, rfl⟩
    obtain ⟨es, hes⟩ : ∃ es, endsI D = es := ⟨_, rfl⟩
    have HN := Lib.hid hn
    have HK := Lib.hid hk
    have HC := Lib.hid hcs
    have HES := Lib.hid hes
    rw [hn, hcs] at ho
    rw [hes] at hen hel
    rw [hn] at hn60 hel
    rw [hk] at hle ⊢
    have HL := Lib.hid (hw.keep hch)
    have HEL := Lib.hid hel
    have hsz := hch.size
    clear hn hk hcs hes hel
    obtain ⟨oa, oc, rfl, _⟩ := ho.view
    obtain ⟨ea, ec, rfl, _⟩ := hen.view
    obtain ⟨t, ht⟩ : ∃ t, t = s.drop k := ⟨_, rfl⟩
    have htl : t.length ≤ s.length := by rw [ht, List.length_drop]; omega
    have HT := Lib.hid ht
    have hsl : ∀ W, (Instr.slice 9 (.string ⟨s.toArray⟩) (some (.int .i64 (k : Int))) none none).run Tryz.prog W = .ok (.string ⟨t.toArray⟩) W := fun W => by
      have hsz : (⟨s.toArray⟩ : ByteArray).size = s.length := by simp [ByteArray.size]
      rw [run_slice_string_from_if _ _ _ _ _ Tryz.underlying9, if_pos ⟨by omega, by rw [hsz]; omega⟩, ByteArray.extract_mk, ht, hsz]
      have : ((s.drop (k : Int).toNat).take (s.length - (k : Int).toNat)) = s.drop k := by
        rw [List.take_of_length_le (by rw [List.length_drop]; exact Nat.le_refl _)]
        simp
      rw [this]
    have q1 := Lib.hid (fun W hW => cut_any 10 t W (by omega) hW)
    have hpl := pre_le 10 t
    obtain ⟨p, hp⟩ : ∃ p, p = preB 10 t := ⟨_, rfl⟩
    have HP := Lib.hid hp
    unfold cutV at q1
    rw [← hp] at hpl
    rw [← hp] at q1
    have q2 := Lib.hid (fun W hW => readRecord_any n p W (by omega) (by omega) hW)
    obtain ⟨db, hdb⟩ : ∃ db, readB n p = db := ⟨_, rfl⟩
    obtain ⟨hb, hhb⟩ : ∃ hb, hasL 10 t = hb := ⟨_, rfl⟩
    obtain ⟨u, hu⟩ : ∃ u, u = postB 10 t := ⟨_, rfl⟩
    rw [hdb] at q2
    rw [← hu, hhb] at q1
    unfold rv at q2
    have HD := Lib.hid ((readB_eq n p).symm.trans hdb)
    have HB := Lib.hid hhb
    clear ht hp hdb hhb hu hw
    cases hb with
    | false =>
      have HE := Lib.hid (HO.out.notin' (by rw [HK.out, ← HT.out]; exact HB.out))
      go_wp2_with (go_at_call 73; refine (q1.out _ HL.out).mono ?_; rintro e w1 ⟨rfl, hk1⟩)
      go_ret2
      exact read_end (v := .slice oa n oc) (v2 := .slice ea es.length ec) HE.out HN.out HC.out HES.out (ho.keep hk1) (hen.keep hk1) hdis (hch.trans hk1)
    | true =>
      cases db with
      | false =>
        have HE : Hid (openB 60 0 s = D) := Lib.hid (HO.out.none_ (by
          rw [HK.out, HN.out, ← HT.out, ← HP.out]
          have := HD.out
          cases hd : decB n p with
          | none => rfl
          | some x => rw [hd] at this; cases this))
        go_wp2_with (first | (go_at_call 73; refine (q1.out _ HL.out).mono ?_; rintro e w1 ⟨rfl, hk1⟩) | (go_at_call 74; refine (q2.out _ (HL.out.keep hk1)).mono ?_; rintro e w2 ⟨c, r, rfl, hdc, hk2⟩; obtain ⟨c0, c1, fr⟩ := Box2.new w2 (.string ByteArray.empty) (.string ByteArray.empty) 79; clear hdc))
        go_ret2
        exact read_end (v := .slice oa n oc) (v2 := .slice ea es.length ec) HE.out HN.out HC.out HES.out ((ho.keep (hk1.trans hk2)).alloc _) ((hen.keep (hk1.trans hk2)).alloc _) hdis ((hch.trans (hk1.trans hk2)).alloc _)
      | true =>
        go_wp2_with (first | (go_at_call 73; refine (q1.out _ HL.out).mono ?_; rintro e w1 ⟨rfl, hk1⟩) | (go_at_call 74; refine (q2.out _ (HL.out.keep hk1)).mono ?_; rintro e w2 ⟨c, r, rfl, hdc, hk2⟩; obtain ⟨c0, c1, fr⟩ := Box2.new w2 (.string ByteArray.empty) (.string ByteArray.empty) 79; have HD2 := Lib.hid (hdc trivial); clear hdc; have hs2 := hk1.size; have hs3 := hk2.size) | (at_builtin; refine wappS1 elRec (by omega) rfl (.tmp 41) (.tmp 43) rfl ((ho.keep (hk1.trans hk2)).alloc (.cells #[.string ⟨c.toArray⟩, .string ⟨r.toArray⟩] 79)) rfl (by simp [Value.oneCell']) rfl (by rw [World.size_alloc]; rfl) (by omega) (by simp; omega) ?_))
        intro v1 w3 o1 k3 f3
        obtain ⟨a1, q1', rfl, _⟩ := o1.view
        have kk := ((hk1.trans hk2).alloc (.cells #[.string ⟨c.toArray⟩, .string ⟨r.toArray⟩] 79))
        have hs4 := kk.size
        have hs5 := k3.size
        have hen3 := (hen.keep kk).step k3 (fun q hq hq' => hdis q hq' hq)
        have hch1 := (hch.trans kk).step k3 (fun q hq hl => by have := (ho.lt q hq).1; omega)
        have hdis1 : ∀ q, own (.slice a1 (n + 1) q1') q → ¬ own (.slice ea es.length ec) q := fun q hq hq' => by
          rcases f3 q hq with h | h
          · exact hdis q h hq'
          · have := (hen.lt q hq').2
            omega
        clear c0 c1 fr
        have HPK : Hid (((k : Int) + ((p.length : Int) + 1)) = ((k + (p.length + 1) : Nat) : Int)) := Lib.hid (by push_cast; rfl)
        go_wp2_with (at_builtin; refine wapp1 rfl (.tmp 45) (.tmp 47) rfl hen3 rfl rfl (by have := HEL.out; omega) (by omega) ?_)
        intro v2 w4 o2 k4 f4
        obtain ⟨a2, q2', rfl, _⟩ := o2.view
        have ho4 := o1.step k4 (fun q hq hq' => hdis1 q hq hq')
        have hch2 := hch1.step k4 (fun q hq hl => by have := (hen.lt q hq).1; omega)
        have hdis2 : ∀ q, own (.slice a1 (n + 1) q1') q → ¬ own (.slice a2 (es ++ [((k : Int) + ((p.length : Int) + 1))]).length q2') q := fun q hq hq' => by
          rcases f4 q hq' with h | h
          · exact hdis1 q hq h
          · have := (o1.lt q hq).2
            omega
        clear q1 q2
        go_wp2_with fail
        have HT2 := HT.out
        have hnx := HO.out.next (c := c) (r := r) (by rw [HK.out, ← HT2]; simpa [hasL] using HB.out) (by rw [HK.out, HN.out, ← HT2, ← HP.out]; exact HD2.out)
        obtain ⟨R', hnx⟩ := hnx
        rw [HK.out, ← HT2, ← HP.out] at hnx
        refine ⟨⟨_, R', Lib.hid hnx, ?_, ?_, ?_, hdis2, hch2⟩, ?_⟩
        · rw [lenB_snoc, HK.out]
          go_num
        · rw [List.length_append, HN.out, recC_snoc, HC.out]
          exact ho4
        · rw [endsI_snoc, HES.out, HK.out, ← HPK.out]
          exact o2
        · have hlt := pre_lt 10 t (by simpa [hasL] using HB.out)
          rw [← HP.out, HT2, List.length_drop] at hlt
          simp [intOf]; omega
end Go.Proofs.YtmnohickmidfkaaGreatDoor

/- logs: which are valid -/
namespace Go.Proofs.YtmnohickmidfkaaGreatDoor
open Go.RowKit

/-- a log in a box -/
structure BoxL (w : World) (b : Nat) (v0 v1 v2 : Value) : Prop where
  c0 : w.cell? ⟨b, 0, none⟩ = some v0
  c1 : w.cell? ⟨b, 1, none⟩ = some v1
  c2 : w.cell? ⟨b, 2, none⟩ = some v2
  fr : ∀ o, w.frozen? ⟨b, o, none⟩ = false
theorem BoxL.lt {w : World} {b : Nat} {v0 v1 v2 : Value} (h : BoxL w b v0 v1 v2) : b < w.heap.size := World.block_lt_of_cell? w _ h.c0
theorem BoxL.step {S : Nat → Prop} {w w' : World} {b : Nat} {v0 v1 v2 : Value} (h : BoxL w b v0 v1 v2) (hc : Chg S w w') (hS : ¬ S b) : BoxL w' b v0 v1 v2 := by
  have hb := h.lt
  exact ⟨(hc.cellD b 0 hb hS).trans h.c0, (hc.cellD b 1 hb hS).trans h.c1, (hc.cellD b 2 hb hS).trans h.c2, fun o => (World.frozen?_of_block (hc.block b hb hS)).trans (h.fr o)⟩
theorem BoxL.keep {w w' : World} {b : Nat} {v0 v1 v2 : Value} (h : BoxL w b v0 v1 v2) (hc : Chg No w w') : BoxL w' b v0 v1 v2 := h.step hc (fun e => e)
theorem BoxL.new (w : World) (v0 v1 v2 : Value) (t : TypeId) : BoxL (w.alloc (.cells #[v0, v1, v2] t)) w.heap.size v0 v1 v2 := by
  refine ⟨?_, ?_, ?_, fun o => World.frozen?_alloc_new _ _ _ _⟩ <;> (rw [World.cell?_alloc_new]; rfl)
theorem BoxL.put {w : World} {b : Nat} {v0 v1 v2 : Value} (h : BoxL w b v0 v1 v2) (x0 x1 x2 : Value) : BoxL (((w.setCell ⟨b, 0, none⟩ x0).setCell ⟨b, 1, none⟩ x1).setCell ⟨b, 2, none⟩ x2) b x0 x1 x2 := by
  obtain ⟨c0, c1, c2, fr⟩ := h
  refine ⟨?_, ?_, ?_, fun o => ?_⟩
  · go_simp
  · go_simp
  · go_simp
  · go_simp
theorem BoxL.put01 {w : World} {b : Nat} {v0 v1 v2 : Value} (h : BoxL w b v0 v1 v2) (x0 x1 : Value) : (w.setCell ⟨b, 0, none⟩ x0).cell? ⟨b, 0, none⟩ = some x0 ∧ ((w.setCell ⟨b, 0, none⟩ x0).setCell ⟨b, 1, none⟩ x1).cell? ⟨b, 1, none⟩ = some x1 := by
  obtain ⟨c0, c1, c2, fr⟩ := h
  refine ⟨?_, ?_⟩
  · go_simp
  · go_simp
theorem Chg.put3 {S : Nat → Prop} {w0 wr : World} (h : Chg S w0 wr) {b : Nat} (hb : b < w0.heap.size → S b) (x0 x1 x2 : Value) : Chg S w0 (((wr.setCell ⟨b, 0, none⟩ x0).setCell ⟨b, 1, none⟩ x1).setCell ⟨b, 2, none⟩ x2) :=
  ((h.setCell (p := ⟨b, 0, none⟩) hb x0).setCell (p := ⟨b, 1, none⟩) hb x1).setCell (p := ⟨b, 2, none⟩) hb x2
/-- a log by value -/
def lv (d p : List UInt8) (n : Int) : Value := .agg #[.string ⟨d.toArray⟩, .string ⟨p.toArray⟩, .int .i64 n]
/-- which logs are valid -/
def validB (d p : List UInt8) (n : Int) : Bool :=
  decide (d.length + p.length ≤ 30000) && (decide (lenB (openB 60 0 (d ++ p)) = d.length + p.length) && (decide (lenB (openB 60 0 d) = d.length) && decide (((openB 60 0 (d ++ p)).length : Int) = n)))

set_option maxRecDepth 100000 in
set_option maxHeartbeats 2000000 in
theorem l12Valid_any (d p : List UInt8) (n : Int) (w : World) (hd : d.length ≤ 1048576) (hp : p.length ≤ 1048576) :
    Calls Tryz.prog 12 #[lv d p n] w fun e w' => e = .returned (.bool (validB d p n)) ∧ Chg No w w' := by
  have k0 := (Chg.refl No w).alloc (.cells #[.string ⟨d.toArray⟩, .string ⟨p.toArray⟩, .int .i64 n] 35)
  have bx := BoxL.new w (.string ⟨d.toArray⟩) (.string ⟨p.toArray⟩) (.int .i64 n) 35
  have HBOX : Hid (∀ W, Chg No (w.alloc (.cells #[.string ⟨d.toArray⟩, .string ⟨p.toArray⟩, .int .i64 n] 35)) W → BoxL W w.heap.size (.string ⟨d.toArray⟩) (.string ⟨p.toArray⟩) (.int .i64 n)) := Lib.hid (fun W hW => bx.keep hW)
  obtain ⟨c0, c1, c2, fr⟩ := bx
  unfold lv
  by_cases hlen : d.length + p.length ≤ 30000
  · have HV : Hid (validB d p n = (decide (lenB (openB 60 0 (d ++ p)) = d.length + p.length) && (decide (lenB (openB 60 0 d) = d.length) && decide (((openB 60 0 (d ++ p)).length : Int) = n)))) := Lib.hid (by simp [validB, hlen])
    obtain ⟨s, hs⟩ : ∃ s, s = d ++ p := ⟨_, rfl⟩
    have a1 := cat_to (P := Tryz.prog) hs (by rw [hs, List.length_append]; omega)
    have hsl : s.length = d.length + p.length := by rw [hs, List.length_append]
    rw [← hs] at HV
    have q1 := Lib.hid (fun W => l12Open_any s W (by omega))
    have q2 := Lib.hid (fun W => l12Open_any d W (by omega))
    have HL := Lib.hid hsl
    have hl2 : s.length ≤ 1048576 := by omega
    obtain ⟨m1, hm1⟩ : ∃ m, lenB (openB 60 0 s) = m := ⟨_, rfl⟩
    obtain ⟨m2, hm2⟩ : ∃ m, lenB (openB 60 0 d) = m := ⟨_, rfl⟩
    obtain ⟨m3, hm3⟩ : ∃ m, (openB 60 0 s).length = m := ⟨_, rfl⟩
    have hb1 : m1 ≤ 30000 := by have := lenB_le 60 0 s; omega
    have hb2 : m2 ≤ 30000 := by have := lenB_le 60 0 d; omega
    have hb3 : m3 ≤ 60 := by have := openB_len 60 0 s; omega
    rw [hm1, hm2, hm3] at HV
    rw [hm1, hm3] at q1
    rw [hm2] at q2
    clear hs hm1 hm2 hm3 hsl
    go_enter Tryz.func12, Tryz.ntmps12
    go_wp2_with (go_at_call 23; first | (with_reducible refine (q1.out _).mono ?_; rintro e w1 ⟨v1, rfl, o1, hk1⟩; obtain ⟨a1', q1', rfl, _⟩ := o1.view; obtain ⟨c0, c1, c2, fr⟩ := HBOX.out w1 hk1) | (with_reducible refine (q2.out _).mono ?_; rintro e w2 ⟨v2, rfl, o2, hk2⟩; obtain ⟨a2', q2', rfl, _⟩ := o2.view; obtain ⟨c0, c1, c2, fr⟩ := HBOX.out w2 (hk1.trans hk2)))
    all_goals go_ret
    all_goals
      refine ⟨ret_bool ?_, k0.trans (hk1.trans hk2)⟩
      rw [HV.out, Bool.eq_iff_iff]
      simp only [Bool.and_eq_true, beq_iff_eq, decide_eq_true_eq, Bool.false_eq_true]
      first | omega | exact ⟨fun h => h.elim, fun h => by omega⟩
  · have HV : Hid (validB d p n = false) := Lib.hid (by simp [validB, hlen])
    go_enter Tryz.func12, Tryz.ntmps12
    go_wp2_with fail
    go_ret
    exact ⟨ret_bool HV.out.symm, k0⟩

/-- the places behind the records, with the beginning -/
theorem contains_ends (d p : List UInt8) : ([(0 : Int)] ++ endsI (openB 60 0 (d ++ p))).contains (d.length : Int) = decide (lenB (openB 60 0 d) = d.length) := by
  rw [Bool.eq_iff_iff, decide_eq_true_eq, open_part 60 0 d p, List.contains_iff_mem, List.mem_append, List.mem_singleton]
  unfold endsI
  rw [List.mem_map]
  constructor
  · rintro (h | ⟨x, hx, h⟩)
    · exact .inl (by omega)
    · exact .inr (by rw [← Int.ofNat.inj h]; exact hx)
  · rintro (h | h)
    · exact .inl (by omega)
    · exact .inr ⟨_, h, rfl⟩
theorem last_ends (D : List (List UInt8 × List UInt8 × Nat)) : ([(0 : Int)] ++ endsI D).getD D.length 0 = (lenB D : Int) := by
  rcases List.eq_nil_or_concat D with rfl | ⟨D', x, rfl⟩
  · rfl
  · rw [List.concat_eq_append, endsI_snoc, lenB_snoc, List.length_append, List.length_singleton, ← List.append_assoc]
    have : ([(0 : Int)] ++ endsI D').length = D'.length + 1 := by simp [endsI_len]
    rw [← this, List.getD_eq_getElem?_getD, List.getElem?_append_right (Nat.le_refl _), Nat.sub_self]
    rfl
theorem valid_no {d p : List UInt8} {n : Int} {w W : World} {v : Value} (hv : validB d p n = false) (hch : Chg No w W) (e : v = .slice none 0 0 := by rfl) :
    ∃ v', Ending.returned (.tuple #[v, .bool false]) = .returned (.tuple #[v', .bool (validB d p n)]) ∧
      (validB d p n = true → OS 79 2 w.heap.size W v' (openB 60 0 (d ++ p)).length (recC (openB 60 0 (d ++ p)))) ∧ (validB d p n = false → v' = .slice none 0 0) ∧ Chg No w W := by
  rw [hv]
  exact ⟨v, rfl, fun h => (by cases h), fun _ => e, hch⟩
set_option maxRecDepth 100000 in
set_option maxHeartbeats 2000000 in
theorem recordsOf_any (d p : List UInt8) (n : Int) (w : World) (hd : d.length ≤ 1048576) (hp : p.length ≤ 1048576) (hw : Lay w) :
    Calls Tryz.prog 33 #[lv d p n] w fun e w' => ∃ v, e = .returned (.tuple #[v, .bool (validB d p n)]) ∧
      (validB d p n = true → OS 79 2 w.heap.size w' v (openB 60 0 (d ++ p)).length (recC (openB 60 0 (d ++ p)))) ∧ (validB d p n = false → v = .slice none 0 0) ∧ Chg No w w' := by
  have k0 := (Chg.refl No w).alloc (.cells #[.string ⟨d.toArray⟩, .string ⟨p.toArray⟩, .int .i64 n] 35)
  have bx := BoxL.new w (.string ⟨d.toArray⟩) (.string ⟨p.toArray⟩) (.int .i64 n) 35
  have HBOX : Hid (∀ W, Chg No (w.alloc (.cells #[.string ⟨d.toArray⟩, .string ⟨p.toArray⟩, .int .i64 n] 35)) W → BoxL W w.heap.size (.string ⟨d.toArray⟩) (.string ⟨p.toArray⟩) (.int .i64 n)) := Lib.hid (fun W hW => bx.keep hW)
  have HL0 := Lib.hid (hw.keep k0)
  obtain ⟨c0, c1, c2, fr⟩ := bx
  unfold lv
  by_cases hlen : d.length + p.length ≤ 30000
  · have HV : Hid (validB d p n = (decide (lenB (openB 60 0 (d ++ p)) = d.length + p.length) && (decide (lenB (openB 60 0 d) = d.length) && decide (((openB 60 0 (d ++ p)).length : Int) = n)))) := Lib.hid (by simp [validB, hlen])
    have hce := contains_ends d p
    obtain ⟨s, hs⟩ : ∃ s, s = d ++ p := ⟨_, rfl⟩
    have a1 := cat_to (P := Tryz.prog) hs (by rw [hs, List.length_append]; omega)
    have hsl : s.length = d.length + p.length := by rw [hs, List.length_append]
    rw [← hs] at HV hce ⊢
    have q1 := Lib.hid (fun W hW => readRecords_any s W (by omega) hW)
    have hl2 : s.length ≤ 30000 := by omega
    have hla := last_ends (openB 60 0 s)
    obtain ⟨D, hD⟩ : ∃ D, openB 60 0 s = D := ⟨_, rfl⟩
    have hb1 : lenB D ≤ 30000 := by have := lenB_le 60 0 s; rw [hD] at this; omega
    have hb3 : D.length ≤ 60 := by have := openB_len 60 0 s; rw [hD] at this; omega
    rw [hD] at HV hce hla q1 ⊢
    obtain ⟨m1, hm1⟩ : ∃ m, lenB D = m := ⟨_, rfl⟩
    obtain ⟨cb, hcb⟩ : ∃ b, decide (lenB (openB 60 0 d) = d.length) = b := ⟨_, rfl⟩
    rw [hm1] at HV hla hb1
    rw [hcb] at hce HV
    obtain ⟨es, hes⟩ : ∃ es, endsI D = es := ⟨_, rfl⟩
    have hel := endsI_len D
    rw [hes] at hel hla hce q1
    obtain ⟨cs, hcs⟩ : ∃ cs, recC D = cs := ⟨_, rfl⟩
    obtain ⟨m3, hm3⟩ : ∃ m, D.length = m := ⟨_, rfl⟩
    rw [hcs] at q1 ⊢
    rw [hm3] at HV hb3 hla hel q1 ⊢
    obtain ⟨fs, hfs⟩ : ∃ fs, [(0 : Int)] ++ es = fs := ⟨_, rfl⟩
    have hfl : fs.length = m3 + 1 := by rw [← hfs]; simp [hel]
    rw [hfs] at hla hce
    have HFS := Lib.hid hfs
    have HFL := Lib.hid hfl
    have HLA := Lib.hid hla
    have HCE := Lib.hid hce
    have HSL := Lib.hid hsl
    have hel2 : es.length ≤ 60 := by omega
    clear hs hD hm1 hcb hes hel hcs hm3 hfs hfl hla hce hsl hw
    go_enter Tryz.func33, Tryz.ntmps33
    go_wp2_with (first | (go_at_call 51; refine (q1.out _ HL0.out).mono ?_; rintro e w1 ⟨v1, v2, rfl, o1, o2, hdis, hk1⟩; obtain ⟨a1', q1', rfl, _⟩ := o1.view; obtain ⟨a2', q2', rfl, _⟩ := o2.view; obtain ⟨c0, c1, c2, fr⟩ := HBOX.out w1 hk1) | (at_builtin; refine wapp rfl (.tmp 25) (.tmp 26) rfl (OI.one (Nat.le_refl _)) (o2.alloc _).readNo rfl rfl (by simp; omega) (by simp) ?_))
    intro v3 w2 o3 k3 f3
    have hfs : 0 :: es = fs := HFS.out
    rw [hfs] at o3
    clear hfs
    have hs1 := hk1.size
    have hk2 : Chg No (w.alloc (.cells #[.string ⟨d.toArray⟩, .string ⟨p.toArray⟩, .int .i64 n] 35)) w2 := (hk1.alloc _).step k3 (fun q hq hl => by have := own_slice.1 hq; omega)
    have o1' := (o1.alloc (.cells #[.int .i64 0] 3)).step k3 (fun q hq hq' => by have := own_slice.1 hq'; have := (o1.lt q hq).2; omega)
    obtain ⟨c0, c1, c2, fr⟩ := HBOX.out w2 hk2
    obtain ⟨a3, q3, rfl, hq1, hq2, hq3⟩ := o3.view
    obtain ⟨g, rfl, _, _, hg, _⟩ := hq3 (by have := HFL.out; omega)
    have hcon := Lib.hid (fun W (hW : Chg No w2 W) => Tryz.slices_Contains_int g 0 fs.length q3 fs (d.length : Int) W (Nat.le_refl _) (by omega) (fun j hj => by
      rw [Nat.zero_add]
      have := hg j hj
      exact (hW.cellD g j (by assumption) (fun e => e)).trans this))
    have hlast := hg m3 (by have := HFL.out; omega)
    rw [HLA.out] at hlast
    have hN : 1 ≤ fs.length := by have := HFL.out; omega
    have hidx : fs.length - 1 = m3 := by have := HFL.out; omega
    have hcon : Hid (∀ W, Chg No w2 W → Calls Tryz.prog 52 #[.slice (some ⟨g, 0, none⟩) fs.length q3, .int .i64 (d.length : Int)] W fun e w' => e = .returned (.bool cb) ∧ w' = W) := Lib.hid (fun W hW => by
      have := hcon.out W hW
      rw [List.take_length, HCE.out] at this
      exact this)
    clear hg hq3
    obtain ⟨N, hNe⟩ : ∃ N, fs.length = N := ⟨_, rfl⟩
    rw [hNe] at hN hidx hcon hq1 ⊢
    rw [← hidx] at hlast
    clear hNe hidx
    have HFIN : Hid (∀ b : Bool, validB d p n = b → ∃ v', Ending.returned (.tuple #[if b then .slice a1' m3 q1' else .slice none 0 0, .bool b]) = .returned (.tuple #[v', .bool (validB d p n)]) ∧
      (validB d p n = true → OS 79 2 w.heap.size w2 v' m3 cs) ∧ (validB d p n = false → v' = .slice none 0 0) ∧ Chg No w w2) := Lib.hid (fun b hb => by
        rw [hb]
        refine ⟨_, rfl, fun h => ?_, fun h => ?_, k0.trans hk2⟩
        · rw [if_pos h]; exact o1'.weak (by rw [World.size_alloc]; omega)
        · rw [if_neg (by rw [h]; decide)])
    by_cases h1 : (m1 : Int) = (s.length : Int)
    · cases cb with
      | true =>
        by_cases h2 : n = (m3 : Int)
        · have HB : Hid (validB d p n = true) := Lib.hid (by rw [HV.out, h2]; have := HSL.out; simp; omega)
          go_wp2_with (go_at_call 52; refine (hcon.out _ (Chg.refl _ _)).mono ?_; rintro e w3 ⟨rfl, rfl⟩)
          go_ret2
          exact HFIN.out true HB.out
        · have HB : Hid (validB d p n = false) := Lib.hid (by rw [HV.out]; simp; omega)
          go_wp2_with (go_at_call 52; refine (hcon.out _ (Chg.refl _ _)).mono ?_; rintro e w3 ⟨rfl, rfl⟩)
          go_ret2
          exact HFIN.out false HB.out
      | false =>
        have HB : Hid (validB d p n = false) := Lib.hid (by rw [HV.out]; simp)
        go_wp2_with (go_at_call 52; refine (hcon.out _ (Chg.refl _ _)).mono ?_; rintro e w3 ⟨rfl, rfl⟩)
        go_ret2
        exact HFIN.out false HB.out
    · have HB : Hid (validB d p n = false) := Lib.hid (by rw [HV.out]; have := HSL.out; simp; omega)
      go_wp2_with fail
      go_ret2
      exact HFIN.out false HB.out
  · have HV : Hid (validB d p n = false) := Lib.hid (by simp [validB, hlen])
    go_enter Tryz.func33, Tryz.ntmps33
    go_wp2_with fail
    go_ret2
    exact valid_no (v := .slice none 0 0) HV.out k0
end Go.Proofs.YtmnohickmidfkaaGreatDoor

/- a law's log: its size, its copy, two compared; the law IsValidLog -/
namespace Go.Proofs.YtmnohickmidfkaaGreatDoor
open Go.RowKit

set_option maxRecDepth 100000 in
theorem implValid_any (d p : List UInt8) (n : Int) (w : World) (hd : d.length ≤ 1048576) (hp : p.length ≤ 1048576) (hw : Lay w) :
    Calls Tryz.prog 16 #[lv d p n] w fun e w' => e = .returned (.bool (validB d p n)) ∧ Chg No w w' := by
  have k0 := (Chg.refl No w).alloc (.cells #[.string ⟨d.toArray⟩, .string ⟨p.toArray⟩, .int .i64 n] 35)
  obtain ⟨c0, c1, c2, fr⟩ := BoxL.new w (.string ⟨d.toArray⟩) (.string ⟨p.toArray⟩) (.int .i64 n) 35
  have q1 : Hid (∀ W, Lay W → Calls Tryz.prog 33 #[lv d p n] W fun e w' => ∃ v, e = .returned (.tuple #[v, .bool (validB d p n)]) ∧ Chg No W w') := Lib.hid (fun W hW => (recordsOf_any d p n W hd hp hW).mono (fun e w' ⟨v, h1, _, _, h4⟩ => ⟨v, h1, h4⟩))
  have HL := Lib.hid (hw.keep k0)
  unfold lv at q1 ⊢
  go_enter Tryz.func16, Tryz.ntmps16
  go_wp2_with (go_at_call 33; refine (q1.out _ HL.out).mono ?_; rintro e w1 ⟨v, rfl, hk1⟩)
  go_ret
  exact ⟨rfl, k0.trans hk1⟩

set_option maxRecDepth 100000 in
theorem szLog_fit (d p : List UInt8) (n : Int) (K : Int) (w : World) (hK : K ≤ 1048576) (h : (d.length : Int) + (p.length : Int) ≤ K) :
    Calls Tryz.prog 10 #[lv d p n, .int .i64 K] w fun e w' => e = .returned (.int .i64 (K - d.length - p.length)) ∧ Chg No w w' := by
  have k0 := (Chg.refl No w).alloc (.cells #[.string ⟨d.toArray⟩, .string ⟨p.toArray⟩, .int .i64 n] 27)
  obtain ⟨c0, c1, c2, fr⟩ := BoxL.new w (.string ⟨d.toArray⟩) (.string ⟨p.toArray⟩) (.int .i64 n) 27
  unfold lv
  go_enter Tryz.func10, Tryz.ntmps10
  go_wp2_with fail
  go_ret
  exact ⟨rfl, k0⟩
set_option maxRecDepth 100000 in
theorem szLog_no (d p : List UInt8) (n : Int) (K : Int) (w : World) (h0 : 0 ≤ K) (hK : K ≤ 1048576) (h : K < (d.length : Int) + (p.length : Int)) (hd : d.length ≤ 9223372036854775807) (hp : p.length ≤ 9223372036854775807) :
    Calls Tryz.prog 10 #[lv d p n, .int .i64 K] w fun e w' => e = .returned (.int .i64 (-1)) ∧ Chg No w w' := by
  have k0 := (Chg.refl No w).alloc (.cells #[.string ⟨d.toArray⟩, .string ⟨p.toArray⟩, .int .i64 n] 27)
  obtain ⟨c0, c1, c2, fr⟩ := BoxL.new w (.string ⟨d.toArray⟩) (.string ⟨p.toArray⟩) (.int .i64 n) 27
  unfold lv
  by_cases h1 : K < (d.length : Int)
  · go_enter Tryz.func10, Tryz.ntmps10
    go_wp2_with fail
    go_ret
    exact ⟨rfl, k0⟩
  · go_enter Tryz.func10, Tryz.ntmps10
    go_wp2_with fail
    go_ret
    exact ⟨rfl, k0⟩

set_option maxRecDepth 100000 in
theorem toLog_any (d p : List UInt8) (n : Int) (w : World) :
    Calls Tryz.prog 14 #[lv d p n] w fun e w' => e = .returned (lv d p n) ∧ Chg No w w' := by
  have k0 := (Chg.refl No w).alloc (.cells #[.string ⟨d.toArray⟩, .string ⟨p.toArray⟩, .int .i64 n] 27)
  obtain ⟨c0, c1, c2, fr⟩ := BoxL.new w (.string ⟨d.toArray⟩) (.string ⟨p.toArray⟩) (.int .i64 n) 27
  unfold lv
  go_enter Tryz.func14, Tryz.ntmps14
  go_wp2_with fail
  have B1 := (BoxL.new (w.alloc (.cells #[.string ⟨d.toArray⟩, .string ⟨p.toArray⟩, .int .i64 n] 27)) (.string ⟨d.toArray⟩) (.string ⟨p.toArray⟩) (.int .i64 n) 35).keep ((Chg.refl No _).alloc (.cells #[.string ⟨d.toArray⟩, .string ⟨p.toArray⟩, .int .i64 n] 35))
  rw [World.size_alloc] at B1
  obtain ⟨z0, z1, z2, _⟩ := B1
  refine bodyPost_ret (v := .agg #[.string ⟨d.toArray⟩, .string ⟨p.toArray⟩, .int .i64 n]) (by simp [results, Tryz.results14, go_sem, z0, z1, z2]) rfl ?_
  exact ⟨rfl, (k0.alloc _).alloc _⟩

set_option maxRecDepth 100000 in
theorem eqLog_same (d p : List UInt8) (n : Int) (w : World) :
    Calls Tryz.prog 18 #[lv d p n, lv d p n] w fun e w' => e = .returned (.bool true) ∧ Chg No w w' := by
  have k0 := (Chg.refl No w).alloc (.cells #[.string ⟨d.toArray⟩, .string ⟨p.toArray⟩, .int .i64 n] 35)
  have k1 := k0.alloc (.cells #[.string ⟨d.toArray⟩, .string ⟨p.toArray⟩, .int .i64 n] 35)
  have B0 := (BoxL.new w (.string ⟨d.toArray⟩) (.string ⟨p.toArray⟩) (.int .i64 n) 35).keep ((Chg.refl No _).alloc (.cells #[.string ⟨d.toArray⟩, .string ⟨p.toArray⟩, .int .i64 n] 35))
  have B1 := (BoxL.new (w.alloc (.cells #[.string ⟨d.toArray⟩, .string ⟨p.toArray⟩, .int .i64 n] 35)) (.string ⟨d.toArray⟩) (.string ⟨p.toArray⟩) (.int .i64 n) 35)
  rw [World.size_alloc] at B1
  obtain ⟨c0, c1, c2, fr⟩ := B0
  obtain ⟨d0, d1, d2, fr'⟩ := B1
  unfold lv
  go_enter Tryz.func18, Tryz.ntmps18
  go_wp2_with fail
  go_ret
  exact ⟨rfl, k1⟩
end Go.Proofs.YtmnohickmidfkaaGreatDoor

/- a log and a record that came in, opened -/
namespace Go.Proofs.YtmnohickmidfkaaGreatDoor
open Go.RowKit Go.ChangeShapes Go.WideShapes Go.ChangeAt

theorem cells_log : Tryz.prog.cellsOf 27 = 3 := by kernel_rfl
theorem cells_str : Tryz.prog.cellsOf 9 = 1 := by kernel_rfl
theorem cells_int1 : Tryz.prog.cellsOf 3 = 1 := by kernel_rfl
theorem len3' {α : Type} {l : List α} (h : l.length = 3) : ∃ a b c, l = [a, b, c] := by
  match l, h with
  | [a, b, c], _ => exact ⟨a, b, c, rfl⟩
section
variable {H : Type} {enc : TypeId × Value → H} {W : World} {spare : Nat → Bool} {held : Bool}
theorem open_bytes {fuel : Nat} {x : Value} {y : DataW H × List MemPlace} (h : DataW.trod enc Tryz.prog W 0 spare held fuel 9 [x] = some y) : ∃ l : List UInt8, x = .string ⟨l.toArray⟩ ∧ l.length ≤ 9223372036854775807 := by
  obtain ⟨s, e, _, hs⟩ := DataW.trod_string Tryz.underlying9 h
  refine ⟨s.data.toList, by simpa using e, ?_⟩
  unfold maxLen at hs
  rw [Array.length_toList]
  exact hs
theorem open_log {fuel : Nat} {cs : List Value} {y : DataW H × List MemPlace} (h : DataW.trod enc Tryz.prog W 0 spare held fuel 27 cs = some y) :
    ∃ (d p : List UInt8) (n : Int), cs = [.string ⟨d.toArray⟩, .string ⟨p.toArray⟩, .int .i64 n] ∧ d.length ≤ 9223372036854775807 ∧ p.length ≤ 9223372036854775807 := by
  obtain ⟨xs, m, _, _, hlen, hxl, hf⟩ := DataW.trod_struct Tryz.underlying27 h
  rw [cells_log] at hlen
  obtain ⟨x0, x1, x2, rfl⟩ := len3' hlen
  obtain ⟨y0, y1, y2, rfl⟩ := len3' (l := xs) (by simpa using hxl)
  have f0 : DataW.trod enc Tryz.prog W 0 spare held m 9 (([x0, x1, x2].drop 0).take (Tryz.prog.cellsOf 9)) = some y0 := hf 0 _ rfl
  rw [cells_str] at f0
  have f1 : DataW.trod enc Tryz.prog W 0 spare held m 9 (([x0, x1, x2].drop 1).take (Tryz.prog.cellsOf 9)) = some y1 := hf 1 _ rfl
  rw [cells_str] at f1
  have f2 : DataW.trod enc Tryz.prog W 0 spare held m 3 (([x0, x1, x2].drop 2).take (Tryz.prog.cellsOf 3)) = some y2 := hf 2 _ rfl
  rw [cells_int1] at f2
  simp only [List.drop_zero, List.drop_succ_cons, List.take_succ_cons, List.take_zero] at f0 f1 f2
  obtain ⟨d, rfl, h1⟩ := open_bytes f0
  obtain ⟨p, rfl, h2⟩ := open_bytes f1
  obtain ⟨n, e, _⟩ := DataW.trod_int Tryz.underlying3 f2
  obtain rfl : x2 = .int .i64 n := by simpa using e
  exact ⟨d, p, n, rfl, h1, h2⟩
end
end Go.Proofs.YtmnohickmidfkaaGreatDoor
