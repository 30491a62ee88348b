import Derived.Test.YtndhijckbponkaaGreatDoorPkX1
import Derived.Lib.Join
import Derived.Lib.Split
import Derived.Lib.AtoiAllCases
/- Plain Lean: a text parted at a byte, joined again; numerals and their values. No program in sight. -/
namespace Go.Proofs.YtndhijckbponkaaGreatDoor

/-- the parts of bytes between a byte -/
def splitC (b : UInt8) : List UInt8 → List (List UInt8)
  | [] => [[]]
  | x :: s => if x = b then [] :: splitC b s else
    match splitC b s with
    | [] => [[x]]
    | h :: t => (x :: h) :: t
theorem splitC_ne (b : UInt8) (s : List UInt8) : splitC b s ≠ [] := by
  cases s with
  | nil => simp [splitC]
  | cons x s =>
    unfold splitC
    split
    · simp
    · split <;> simp
theorem splitC_one (b : UInt8) : ∀ s : List UInt8, b ∉ s → splitC b s = [s]
  | [], _ => rfl
  | x :: s, h => by
    have hx : ¬ x = b := fun e => h (by simp [e])
    have hs : b ∉ s := fun e => h (List.mem_cons_of_mem _ e)
    rw [splitC, if_neg hx, splitC_one b s hs]
theorem splitC_join (b : UInt8) (s : List UInt8) : ∀ a : List UInt8, b ∉ a → splitC b (a ++ b :: s) = a :: splitC b s
  | [], _ => by simp [splitC]
  | x :: a, h => by
    have hx : ¬ x = b := fun e => h (by simp [e])
    have hs : b ∉ a := fun e => h (List.mem_cons_of_mem _ e)
    rw [List.cons_append, splitC, if_neg hx, splitC_join b s a hs]
theorem joinTail_cons (sep x : List UInt8) (r : List (List UInt8)) : Lib.joinTail sep (x :: r) = sep ++ x ++ Lib.joinTail sep r := by simp [Lib.joinTail]
theorem join_split (b : UInt8) : ∀ s : List UInt8, Lib.join (splitC b s) [b] = s
  | [] => by simp [splitC, Lib.join_one]
  | x :: s => by
    have ih := join_split b s
    unfold splitC
    cases hs : splitC b s with
    | nil => exact absurd hs (splitC_ne b s)
    | cons y t =>
      rw [hs, Lib.join_cons] at ih
      by_cases hx : x = b
      · rw [if_pos hx, Lib.join_cons, joinTail_cons, hx]
        simp [ih]
      · rw [if_neg hx]
        simp only []
        rw [Lib.join_cons, List.cons_append, ih]
theorem split_join (b : UInt8) : ∀ (x : List UInt8) (r : List (List UInt8)), (∀ y, y ∈ x :: r → b ∉ y) → splitC b (Lib.join (x :: r) [b]) = x :: r
  | x, [], h => by rw [Lib.join_one]; exact splitC_one b x (h x (by simp))
  | x, y :: r, h => by
    have ih := split_join b y r (fun z hz => h z (List.mem_cons_of_mem _ hz))
    rw [Lib.join_cons, joinTail_cons]
    have e : x ++ ([b] ++ y ++ Lib.joinTail [b] r) = x ++ b :: Lib.join (y :: r) [b] := by rw [Lib.join_cons]; simp
    rw [e, splitC_join b _ x (h x (by simp)), ih]
theorem split_join2 (b c : UInt8) (hcb : ¬ c = b) : ∀ (x : List UInt8) (r : List (List UInt8)), (∀ y, y ∈ x :: r → b ∉ y) → splitC b (Lib.join (x :: r) [b, c]) = x :: r.map (c :: ·)
  | x, [], h => by rw [Lib.join_one]; exact splitC_one b x (h x (by simp))
  | x, y :: r, h => by
    have hy : ∀ z, z ∈ (c :: y) :: r → b ∉ z := by
      intro z hz
      rcases List.mem_cons.1 hz with rfl | hz
      · intro e
        rcases List.mem_cons.1 e with e | e
        · exact hcb e.symm
        · exact h y (by simp) e
      · exact h z (by simp [hz])
    have ih := split_join2 b c hcb (c :: y) r hy
    rw [Lib.join_cons, joinTail_cons]
    have e : x ++ ([b, c] ++ y ++ Lib.joinTail [b, c] r) = x ++ b :: Lib.join ((c :: y) :: r) [b, c] := by rw [Lib.join_cons]; simp
    rw [e, splitC_join b _ x (h x (by simp)), ih, List.map_cons]
theorem join_snoc (sep x : List UInt8) : ∀ (l : List (List UInt8)), l ≠ [] → Lib.join (l ++ [x]) sep = Lib.join l sep ++ sep ++ x
  | [], h => absurd rfl h
  | y :: r, _ => by
    rw [List.cons_append, Lib.join_cons, Lib.join_cons]
    simp [Lib.joinTail]
/-- the library's split at two bytes takes apart what was joined with them -/
theorem occ_first (b c : UInt8) : ∀ (x t : List UInt8), b ∉ x → Lib.index (x ++ b :: c :: t) [b, c] = (x.length : Int) := by
  intro x t hx
  refine Lib.index_first (by simp) ?_ ?_
  · rw [Lib.occAt_iff_take _ _ _ (by simp)]
    simp
  · intro j hj
    cases ho : Lib.occAt (x ++ b :: c :: t) [b, c] j with
    | false => rfl
    | true =>
      have := Lib.occAt_head (c := b) (t := [c]) rfl ho
      rw [List.getElem?_append_left hj] at this
      exact absurd (List.mem_of_getElem? this) hx
theorem occ_none (b c : UInt8) (x : List UInt8) (hx : b ∉ x) : Lib.index x [b, c] = -1 := by
  refine Lib.index_none ?_
  intro j _
  cases ho : Lib.occAt x [b, c] j with
  | false => rfl
  | true => exact absurd (List.mem_of_getElem? (Lib.occAt_head (c := b) (t := [c]) rfl ho)) hx
theorem split2_join (b c : UInt8) : ∀ (x : List UInt8) (r : List (List UInt8)), (∀ y, y ∈ x :: r → b ∉ y) → Lib.split (Lib.join (x :: r) [b, c]) [b, c] = x :: r
  | x, [], h => by
    have := occ_none b c x (h x (by simp))
    rw [Lib.join_one, Lib.split, Lib.count_miss this]
    rfl
  | x, y :: r, h => by
    have ih := split2_join b c y r (fun z hz => h z (List.mem_cons_of_mem _ hz))
    have e : Lib.join (x :: y :: r) [b, c] = x ++ b :: c :: Lib.join (y :: r) [b, c] := by rw [Lib.join_cons, joinTail_cons, Lib.join_cons]; simp
    have h1 := occ_first b c x (Lib.join (y :: r) [b, c]) (h x (by simp))
    have h2 := Lib.count_hit (by simp) h1
    have h3 : (x ++ b :: c :: Lib.join (y :: r) [b, c]).drop (x.length + [b, c].length) = Lib.join (y :: r) [b, c] := by
      rw [List.drop_append]
      simp
    rw [h3] at h2
    rw [e, Lib.split, h2, Nat.add_comm 1]
    have hne : ¬ (((x.length : Nat) : Int) == -1) = true := fun e => by have := beq_iff_eq.1 e; omega
    rw [Lib.splitK, h1, if_neg hne]
    simp only [Int.toNat_natCast, Nat.add_zero]
    rw [h3]
    have h4 : (x ++ b :: c :: Lib.join (y :: r) [b, c]).take x.length = x := by simp
    rw [h4]
    exact congrArg (x :: ·) ih

/-- THE VALUE OF DIGITS -/
def valL (l : List UInt8) : Nat := l.foldl (fun a b => 10 * a + (b.toNat - 48)) 0
theorem valL_snoc (l : List UInt8) (b : UInt8) : valL (l ++ [b]) = 10 * valL l + (b.toNat - 48) := by simp [valL, List.foldl_append]
theorem valL_dec (n : Nat) : valL (Lib.decDigits n) = n := by
  induction n using Nat.strongRecOn with
  | _ n ih =>
    have hb : ∀ d, d < 10 → (UInt8.ofNat (48 + d)).toNat = 48 + d := fun d hd => by simp; omega
    rw [Lib.decDigits]
    split
    · rename_i h
      have := hb n h
      simp only [valL, List.foldl_cons, List.foldl_nil, this]
      omega
    · rename_i h
      have := hb (n % 10) (Nat.mod_lt _ (by decide))
      rw [valL_snoc, ih (n / 10) (by omega), this]
      omega
theorem valL_lt : ∀ (k : Nat) (l : List UInt8), l.length ≤ k → (∀ b, b ∈ l → b.toNat ≤ 57) → valL l < 10 ^ l.length := by
  intro k
  induction k with
  | zero =>
    intro l h _
    have : l = [] := List.eq_nil_of_length_eq_zero (by omega)
    subst this; decide
  | succ k ih =>
    intro l h hb
    rcases List.eq_nil_or_concat l with rfl | ⟨l', b, rfl⟩
    · decide
    · simp only [List.concat_eq_append] at h hb ⊢
      have h1 := ih l' (by simp at h; omega) (fun x hx => hb x (by simp [hx]))
      have h2 := hb b (by simp)
      rw [valL_snoc, List.length_append, List.length_singleton, Nat.pow_succ]
      omega
/-- a minus ahead of something, struck -/
def stripL : List UInt8 → List UInt8
  | 45 :: c :: r => c :: r
  | s => s
def negL (s : List UInt8) : Bool := decide ((stripL s).length < s.length)
theorem strip_neg (c : UInt8) (r : List UInt8) : stripL (45 :: c :: r) = c :: r := rfl
theorem strip_pos (s : List UInt8) (h : s.head? ≠ some 45 ∨ s.length < 2) : stripL s = s := by
  unfold stripL
  split
  · rename_i c r
    rcases h with h | h
    · exact absurd rfl h
    · simp only [List.length_cons] at h; omega
  · rfl
theorem neg_iff (s : List UInt8) : negL s = true ↔ ∃ c r, s = 45 :: c :: r := by
  unfold negL
  rw [decide_eq_true_iff]
  unfold stripL
  split
  · rename_i c r
    exact ⟨fun _ => ⟨c, r, rfl⟩, fun _ => by simp⟩
  · rename_i h
    exact ⟨fun h => absurd h (Nat.lt_irrefl _), fun ⟨c, r, e⟩ => absurd e (h c r)⟩
/-- the value of bytes, as a numeral -/
def valS (s : List UInt8) : Int := if negL s then -(valL (stripL s) : Int) else (valL (stripL s) : Int)
def isNum (s : List UInt8) : Bool := decide (Lib.itoa (valS s) = s)
theorem itoa_nat' (n : Nat) : Lib.itoa (n : Int) = Lib.decDigits n := by
  unfold Lib.itoa
  rw [if_neg (by omega)]
  rfl
theorem itoa_neg' (n : Nat) (h : 1 ≤ n) : Lib.itoa (-(n : Int)) = 45 :: Lib.decDigits n := by
  unfold Lib.itoa
  rw [if_pos (by omega)]
  simp
theorem dec_cons (n : Nat) : ∃ c r, Lib.decDigits n = c :: r ∧ ¬ c = 45 := by
  cases h : Lib.decDigits n with
  | nil => have := dec_pos n; rw [h] at this; simp at this
  | cons c r =>
    refine ⟨c, r, rfl, fun e => ?_⟩
    have := dec_digit n c (by rw [h]; simp)
    rw [e] at this
    exact absurd this.1 (by decide)
theorem strip_itoa (v : Int) : stripL (Lib.itoa v) = Lib.decDigits v.natAbs ∧ negL (Lib.itoa v) = decide (v < 0) := by
  obtain ⟨c, r, hd, hc⟩ := dec_cons v.natAbs
  by_cases h : v < 0
  · have e : Lib.itoa v = 45 :: c :: r := by unfold Lib.itoa; rw [if_pos h, hd]
    rw [e, hd, decide_eq_true h]
    exact ⟨rfl, (neg_iff _).2 ⟨c, r, rfl⟩⟩
  · have e : Lib.itoa v = c :: r := by
      unfold Lib.itoa
      rw [if_neg h, ← hd]
      congr 1
      omega
    rw [e, hd, decide_eq_false h]
    refine ⟨strip_pos _ (.inl (by simp [hc])), ?_⟩
    cases hn : negL (c :: r) with
    | false => rfl
    | true =>
      obtain ⟨c', r', e'⟩ := (neg_iff _).1 hn
      exact absurd (List.cons.inj e').1 hc
theorem valS_itoa (v : Int) : valS (Lib.itoa v) = v := by
  obtain ⟨h1, h2⟩ := strip_itoa v
  unfold valS
  rw [h1, h2, valL_dec]
  by_cases h : v < 0
  · rw [decide_eq_true h, if_pos rfl]; omega
  · rw [decide_eq_false h, if_neg (by decide)]; omega
theorem isNum_itoa (v : Int) : isNum (Lib.itoa v) = true := by unfold isNum; rw [valS_itoa]; simp
theorem itoa_val {s : List UInt8} (h : isNum s = true) : Lib.itoa (valS s) = s := of_decide_eq_true h
theorem itoa_inj {a b : Int} (h : Lib.itoa a = Lib.itoa b) : a = b := by rw [← valS_itoa a, ← valS_itoa b, h]
theorem isNum_of {s : List UInt8} {v : Int} (h : Lib.itoa v = s) : isNum s = true ∧ valS s = v := by
  subst h; exact ⟨isNum_itoa v, valS_itoa v⟩
/-- a numeral's digits -/
theorem num_digits {s : List UInt8} (h : isNum s = true) : ∀ b, b ∈ stripL s → 48 ≤ b.toNat ∧ b.toNat ≤ 57 := by
  have e := itoa_val h
  rw [← e, (strip_itoa _).1]
  exact fun b hb => dec_digit _ b hb
theorem num_len {s : List UInt8} (h : isNum s = true) : 1 ≤ (stripL s).length := by
  rw [← itoa_val h, (strip_itoa _).1]; exact dec_pos _
theorem dec_len_ge : ∀ (k n : Nat), (Lib.decDigits n).length ≤ k → n < 10 ^ k := by
  intro k n h
  have h1 := valL_lt _ (Lib.decDigits n) (Nat.le_refl _) (fun b hb => (dec_digit n b hb).2)
  rw [valL_dec] at h1
  exact Nat.lt_of_lt_of_le h1 (Nat.pow_le_pow_right (by decide) h)
theorem num_len6 {s : List UInt8} (h : isNum s = true) : (stripL s).length ≤ 6 ↔ -999999 ≤ valS s ∧ valS s ≤ 999999 := by
  have e := itoa_val h
  have e1 : stripL s = Lib.decDigits (valS s).natAbs := by rw [← (strip_itoa _).1, e]
  rw [e1]
  constructor
  · intro hl
    have := dec_len_ge 6 _ hl
    omega
  · intro hl
    exact dec_len 5 _ (by omega)
/-- a numeral holds no sign but a minus -/
theorem itoa_notin (v : Int) (x : UInt8) (h : x.toNat < 45 ∨ 57 < x.toNat ∨ x.toNat = 46 ∨ x.toNat = 47) : x ∉ Lib.itoa v := by
  intro hx
  unfold Lib.itoa at hx
  split at hx
  · rcases List.mem_cons.1 hx with rfl | hx
    · revert h; decide
    · have := dec_digit _ x hx; omega
  · have := dec_digit _ x hx; omega

/-- THE LIBRARY READS A NUMERAL THAT IT WROTE -/
theorem parse_dec : ∀ (n : Nat) (r : List UInt8), n < 18446744073709551616 → Lib.parseUint10 0 (Lib.decDigits n ++ r) = Lib.parseUint10 n r := by
  intro n
  induction n using Nat.strongRecOn with
  | _ n ih =>
    intro r hn
    have hb : ∀ d, d < 10 → (UInt8.ofNat (48 + d)).toNat = 48 + d := fun d hd => by simp; omega
    rw [Lib.decDigits]
    split
    · rename_i h
      have e := hb n h
      rw [List.singleton_append, Lib.parseUint10, e, if_pos (by omega), if_neg (by omega), if_neg (by omega)]
      congr 1
      omega
    · rename_i h
      have e := hb (n % 10) (Nat.mod_lt _ (by decide))
      rw [List.append_assoc, ih (n / 10) (by omega) _ (by omega), List.singleton_append, Lib.parseUint10, e, if_pos (by omega), if_neg (by omega), if_neg (by omega)]
      congr 1
      omega
theorem parseMag_dec (n : Nat) (hn : n < 18446744073709551616) : Lib.parseMag (Lib.decDigits n) = .ok n := by
  unfold Lib.parseMag
  rw [if_neg (fun e => by have := dec_pos n; rw [e] at this; simp at this)]
  have := parse_dec n [] hn
  rw [List.append_nil] at this
  rw [this]; rfl
theorem atoi_itoa (v : Int) (h0 : -9223372036854775808 ≤ v) (h1 : v ≤ 9223372036854775807) : Lib.atoiAll (Lib.itoa v) = .ok v := by
  have hm := parseMag_dec v.natAbs (by omega)
  obtain ⟨c, r, hd, hc⟩ := dec_cons v.natAbs
  by_cases h : v < 0
  · have e : Lib.itoa v = 45 :: Lib.decDigits v.natAbs := by unfold Lib.itoa; rw [if_pos h]
    rw [e, Lib.atoiAll_minus, hm]
    unfold Lib.signed
    simp only []
    rw [if_neg (by omega)]
    congr 1
    omega
  · have e : Lib.itoa v = Lib.decDigits v.natAbs := by
      unfold Lib.itoa
      rw [if_neg h]
      congr 1
      omega
    have hc43 : c.toNat ≠ 43 := by
      have := dec_digit v.natAbs c (by rw [hd]; simp)
      omega
    have hc45 : c.toNat ≠ 45 := fun e => hc (UInt8.toNat_inj.1 (by simpa using e))
    rw [e, hd, Lib.atoiAll_plain c r hc43 hc45, ← hd, hm]
    unfold Lib.signless
    simp only []
    rw [if_neg (by omega)]
    congr 1
    omega
end Go.Proofs.YtndhijckbponkaaGreatDoor
