import Derived.Test.YtdgcohoneijleaaGreatDoorPkX9
import Derived.Lib.Join
import Derived.Lib.Split
import Derived.Lib.AtoiAllCases
import Derived.Test.YtdgcohoneijleaaGreatDoorPkX2
set_option maxRecDepth 100000
namespace Go.Proofs.YtdgcohoneijleaaGreatDoor
def splitC (b : UInt8) : List UInt8 → List (List UInt8)
 | [] => [[]]
 | x :: s => if x = b then [] :: splitC b s else
  match splitC b s with
  | [] => [[x]]
  | h :: t => (x :: h) :: t
theorem splitC_ne (b : UInt8) (s : List UInt8) : splitC b s ≠ [] := by
 cases s with
 | nil => simp [splitC]
 | cons x s =>
  unfold splitC
  split
  ·simp
  ·split <;> simp
theorem splitC_one (b : UInt8) : ∀ s : List UInt8, b ∉ s → splitC b s = [s]
 | [], _ => rfl
 | x :: s, h => by
  have hx : ¬ x = b := fun e => h (by simp [e])
  have hs : b ∉ s := fun e => h (List.mem_cons_of_mem _ e)
  rw [splitC, if_neg hx, splitC_one b s hs]
theorem splitC_join (b : UInt8) (s : List UInt8) : ∀ a : List UInt8, b ∉ a → splitC b (a ++ b :: s) = a :: splitC b s
 | [], _ => by simp [splitC]
 | x :: a, h => by
  have hx : ¬ x = b := fun e => h (by simp [e])
  have hs : b ∉ a := fun e => h (List.mem_cons_of_mem _ e)
  rw [List.cons_append, splitC, if_neg hx, splitC_join b s a hs]
theorem joinTail_cons (sep x : List UInt8) (r : List (List UInt8)) : Lib.joinTail sep (x :: r) = sep ++ x ++ Lib.joinTail sep r := by simp [Lib.joinTail]
theorem join_split (b : UInt8) : ∀ s : List UInt8, Lib.join (splitC b s) [b] = s
 | [] => by simp [splitC, Lib.join_one]
 | x :: s => by
  have ih := join_split b s
  unfold splitC
  cases hs : splitC b s with
  | nil => exact absurd hs (splitC_ne b s)
  | cons y t =>
   rw [hs, Lib.join_cons] at ih
   by_cases hx : x = b
   ·rw [if_pos hx, Lib.join_cons, joinTail_cons, hx]
    simp [ih]
   ·rw [if_neg hx]
    simp only []
    rw [Lib.join_cons, List.cons_append, ih]
theorem split_join (b : UInt8) : ∀ (x : List UInt8) (r : List (List UInt8)), (∀ y, y ∈ x :: r → b ∉ y) → splitC b (Lib.join (x :: r) [b]) = x :: r
 | x, [], h => by rw [Lib.join_one]; exact splitC_one b x (h x (by simp))
 | x, y :: r, h => by
  have ih := split_join b y r (fun z hz => h z (List.mem_cons_of_mem _ hz))
  rw [Lib.join_cons, joinTail_cons]
  have e : x ++ ([b] ++ y ++ Lib.joinTail [b] r) = x ++ b :: Lib.join (y :: r) [b] := by rw [Lib.join_cons]; simp
  rw [e, splitC_join b _ x (h x (by simp)), ih]
theorem split_join2 (b c : UInt8) (hcb : ¬ c = b) : ∀ (x : List UInt8) (r : List (List UInt8)), (∀ y, y ∈ x :: r → b ∉ y) → splitC b (Lib.join (x :: r) [b, c]) = x :: r.map (c :: ·)
 | x, [], h => by rw [Lib.join_one]; exact splitC_one b x (h x (by simp))
 | x, y :: r, h => by
  have hy : ∀ z, z ∈ (c :: y) :: r → b ∉ z := by
   intro z hz
   rcases List.mem_cons.1 hz with rfl | hz
   ·intro e
    rcases List.mem_cons.1 e with e | e
    ·exact hcb e.symm
    ·exact h y (by simp) e
   ·exact h z (by simp [hz])
  have ih := split_join2 b c hcb (c :: y) r hy
  rw [Lib.join_cons, joinTail_cons]
  have e : x ++ ([b, c] ++ y ++ Lib.joinTail [b, c] r) = x ++ b :: Lib.join ((c :: y) :: r) [b, c] := by rw [Lib.join_cons]; simp
  rw [e, splitC_join b _ x (h x (by simp)), ih, List.map_cons]
theorem join_snoc (sep x : List UInt8) : ∀ (l : List (List UInt8)), l ≠ [] → Lib.join (l ++ [x]) sep = Lib.join l sep ++ sep ++ x
 | [], h => absurd rfl h
 | y :: r, _ => by
  rw [List.cons_append, Lib.join_cons, Lib.join_cons]
  simp [Lib.joinTail]
theorem occ_first (b c : UInt8) : ∀ (x t : List UInt8), b ∉ x → Lib.index (x ++ b :: c :: t) [b, c] = (x.length : Int) := by
 intro x t hx
 refine Lib.index_first (by simp) ?_ ?_
 ·rw [Lib.occAt_iff_take _ _ _ (by simp)]
  simp
 ·intro j hj
  cases ho : Lib.occAt (x ++ b :: c :: t) [b, c] j with
  | false => rfl
  | true =>
   have := Lib.occAt_head (c := b) (t := [c]) rfl ho
   rw [List.getElem?_append_left hj] at this
   exact absurd (List.mem_of_getElem? this) hx
theorem occ_none (b c : UInt8) (x : List UInt8) (hx : b ∉ x) : Lib.index x [b, c] = -1 := by
 refine Lib.index_none ?_
 intro j _
 cases ho : Lib.occAt x [b, c] j with
 | false => rfl
 | true => exact absurd (List.mem_of_getElem? (Lib.occAt_head (c := b) (t := [c]) rfl ho)) hx
theorem split2_join (b c : UInt8) : ∀ (x : List UInt8) (r : List (List UInt8)), (∀ y, y ∈ x :: r → b ∉ y) → Lib.split (Lib.join (x :: r) [b, c]) [b, c] = x :: r
 | x, [], h => by
  have := occ_none b c x (h x (by simp))
  rw [Lib.join_one, Lib.split, Lib.count_miss this]
  rfl
 | x, y :: r, h => by
  have ih := split2_join b c y r (fun z hz => h z (List.mem_cons_of_mem _ hz))
  have e : Lib.join (x :: y :: r) [b, c] = x ++ b :: c :: Lib.join (y :: r) [b, c] := by rw [Lib.join_cons, joinTail_cons, Lib.join_cons]; simp
  have h1 := occ_first b c x (Lib.join (y :: r) [b, c]) (h x (by simp))
  have h2 := Lib.count_hit (by simp) h1
  have h3 : (x ++ b :: c :: Lib.join (y :: r) [b, c]).drop (x.length + [b, c].length) = Lib.join (y :: r) [b, c] := by
   rw [List.drop_append]
   simp
  rw [h3] at h2
  rw [e, Lib.split, h2, Nat.add_comm 1]
  have hne : ¬ (((x.length : Nat) : Int) == -1) = true := fun e => by have := beq_iff_eq.1 e; omega
  rw [Lib.splitK, h1, if_neg hne]
  simp only [Int.toNat_natCast, Nat.add_zero]
  rw [h3]
  have h4 : (x ++ b :: c :: Lib.join (y :: r) [b, c]).take x.length = x := by simp
  rw [h4]
  exact congrArg (x :: ·) ih
def valL (l : List UInt8) : Nat := l.foldl (fun a b => 10 * a + (b.toNat - 48)) 0
theorem valL_snoc (l : List UInt8) (b : UInt8) : valL (l ++ [b]) = 10 * valL l + (b.toNat - 48) := by simp [valL, List.foldl_append]
theorem valL_dec (n : Nat) : valL (Lib.decDigits n) = n := by
 induction n using Nat.strongRecOn with
 | _ n ih =>
  have hb : ∀ d, d < 10 → (UInt8.ofNat (48 + d)).toNat = 48 + d := fun d hd => by simp; omega
  rw [Lib.decDigits]
  split
  ·rename_i h
   have := hb n h
   simp only [valL, List.foldl_cons, List.foldl_nil, this]
   omega
  ·rename_i h
   have := hb (n % 10) (Nat.mod_lt _ (by decide))
   rw [valL_snoc, ih (n / 10) (by omega), this]
   omega
theorem valL_lt : ∀ (k : Nat) (l : List UInt8), l.length ≤ k → (∀ b, b ∈ l → b.toNat ≤ 57) → valL l < 10 ^ l.length := by
 intro k
 induction k with
 | zero =>
  intro l h _
  have : l = [] := List.eq_nil_of_length_eq_zero (by omega)
  subst this; decide
 | succ k ih =>
  intro l h hb
  rcases List.eq_nil_or_concat l with rfl | ⟨l', b, rfl⟩
  ·decide
  ·simp only [List.concat_eq_append] at h hb ⊢
   have h1 := ih l' (by simp at h; omega) (fun x hx => hb x (by simp [hx]))
   have h2 := hb b (by simp)
   rw [valL_snoc, List.length_append, List.length_singleton, Nat.pow_succ]
   omega
def stripL : List UInt8 → List UInt8
 | 45 :: c :: r => c :: r
 | s => s
def negL (s : List UInt8) : Bool := decide ((stripL s).length < s.length)
theorem strip_neg (c : UInt8) (r : List UInt8) : stripL (45 :: c :: r) = c :: r := rfl
theorem strip_pos (s : List UInt8) (h : s.head? ≠ some 45 ∨ s.length < 2) : stripL s = s := by
 unfold stripL
 split
 ·rename_i c r
  rcases h with h | h
  ·exact absurd rfl h
  ·simp only [List.length_cons] at h; omega
 ·rfl
theorem neg_iff (s : List UInt8) : negL s = true ↔ ∃ c r, s = 45 :: c :: r := by
 unfold negL
 rw [decide_eq_true_iff]
 unfold stripL
 split
 ·rename_i c r
  exact ⟨fun _ => ⟨c, r, rfl⟩, fun _ => by simp⟩
 ·rename_i h
  exact ⟨fun h => absurd h (Nat.lt_irrefl _), fun ⟨c, r, e⟩ => absurd e (h c r)⟩
def valS (s : List UInt8) : Int := if negL s then -(valL (stripL s) : Int) else (valL (stripL s) : Int)
def isNum (s : List UInt8) : Bool := decide (Lib.itoa (valS s) = s)
theorem itoa_nat' (n : Nat) : Lib.itoa (n : Int) = Lib.decDigits n := by
 unfold Lib.itoa
 rw [if_neg (by omega)]
 rfl
theorem itoa_neg' (n : Nat) (h : 1 ≤ n) : Lib.itoa (-(n : Int)) = 45 :: Lib.decDigits n := by
 unfold Lib.itoa
 rw [if_pos (by omega)]
 simp
theorem dec_cons (n : Nat) : ∃ c r, Lib.decDigits n = c :: r ∧ ¬ c = 45 := by
 cases h : Lib.decDigits n with
 | nil => have := dec_pos n; rw [h] at this; simp at this
 | cons c r =>
  refine ⟨c, r, rfl, fun e => ?_⟩
  have := dec_digit n c (by rw [h]; simp)
  rw [e] at this
  exact absurd this.1 (by decide)
theorem strip_itoa (v : Int) : stripL (Lib.itoa v) = Lib.decDigits v.natAbs ∧ negL (Lib.itoa v) = decide (v < 0) := by
 obtain ⟨c, r, hd, hc⟩ := dec_cons v.natAbs
 by_cases h : v < 0
 ·have e : Lib.itoa v = 45 :: c :: r := by unfold Lib.itoa; rw [if_pos h, hd]
  rw [e, hd, decide_eq_true h]
  exact ⟨rfl, (neg_iff _).2 ⟨c, r, rfl⟩⟩
 ·have e : Lib.itoa v = c :: r := by
   unfold Lib.itoa
   rw [if_neg h, ← hd]
   congr 1
   omega
  rw [e, hd, decide_eq_false h]
  refine ⟨strip_pos _ (.inl (by simp [hc])), ?_⟩
  cases hn : negL (c :: r) with
  | false => rfl
  | true =>
   obtain ⟨c', r', e'⟩ := (neg_iff _).1 hn
   exact absurd (List.cons.inj e').1 hc
theorem valS_itoa (v : Int) : valS (Lib.itoa v) = v := by
 obtain ⟨h1, h2⟩ := strip_itoa v
 unfold valS
 rw [h1, h2, valL_dec]
 by_cases h : v < 0
 ·rw [decide_eq_true h, if_pos rfl]; omega
 ·rw [decide_eq_false h, if_neg (by decide)]; omega
theorem isNum_itoa (v : Int) : isNum (Lib.itoa v) = true := by unfold isNum; rw [valS_itoa]; simp
theorem itoa_val {s : List UInt8} (h : isNum s = true) : Lib.itoa (valS s) = s := of_decide_eq_true h
theorem itoa_inj {a b : Int} (h : Lib.itoa a = Lib.itoa b) : a = b := by rw [← valS_itoa a, ← valS_itoa b, h]
theorem isNum_of {s : List UInt8} {v : Int} (h : Lib.itoa v = s) : isNum s = true ∧ valS s = v := by
 subst h; exact ⟨isNum_itoa v, valS_itoa v⟩
theorem num_digits {s : List UInt8} (h : isNum s = true) : ∀ b, b ∈ stripL s → 48 ≤ b.toNat ∧ b.toNat ≤ 57 := by
 have e := itoa_val h
 rw [← e, (strip_itoa _).1]
 exact fun b hb => dec_digit _ b hb
theorem num_len {s : List UInt8} (h : isNum s = true) : 1 ≤ (stripL s).length := by
 rw [← itoa_val h, (strip_itoa _).1]; exact dec_pos _
theorem dec_len_ge : ∀ (k n : Nat), (Lib.decDigits n).length ≤ k → n < 10 ^ k := by
 intro k n h
 have h1 := valL_lt _ (Lib.decDigits n) (Nat.le_refl _) (fun b hb => (dec_digit n b hb).2)
 rw [valL_dec] at h1
 exact Nat.lt_of_lt_of_le h1 (Nat.pow_le_pow_right (by decide) h)
theorem num_len6 {s : List UInt8} (h : isNum s = true) : (stripL s).length ≤ 6 ↔ -999999 ≤ valS s ∧ valS s ≤ 999999 := by
 have e := itoa_val h
 have e1 : stripL s = Lib.decDigits (valS s).natAbs := by rw [← (strip_itoa _).1, e]
 rw [e1]
 constructor
 ·intro hl
  have := dec_len_ge 6 _ hl
  omega
 ·intro hl
  exact dec_len 5 _ (by omega)
theorem itoa_notin (v : Int) (x : UInt8) (h : x.toNat < 45 ∨ 57 < x.toNat ∨ x.toNat = 46 ∨ x.toNat = 47) : x ∉ Lib.itoa v := by
 intro hx
 unfold Lib.itoa at hx
 split at hx
 ·rcases List.mem_cons.1 hx with rfl | hx
  ·revert h; decide
  ·have := dec_digit _ x hx; omega
 ·have := dec_digit _ x hx; omega
theorem parse_dec : ∀ (n : Nat) (r : List UInt8), n < 18446744073709551616 → Lib.parseUint10 0 (Lib.decDigits n ++ r) = Lib.parseUint10 n r := by
 intro n
 induction n using Nat.strongRecOn with
 | _ n ih =>
  intro r hn
  have hb : ∀ d, d < 10 → (UInt8.ofNat (48 + d)).toNat = 48 + d := fun d hd => by simp; omega
  rw [Lib.decDigits]
  split
  ·rename_i h
   have e := hb n h
   rw [List.singleton_append, Lib.parseUint10, e, if_pos (by omega), if_neg (by omega), if_neg (by omega)]
   congr 1
   omega
  ·rename_i h
   have e := hb (n % 10) (Nat.mod_lt _ (by decide))
   rw [List.append_assoc, ih (n / 10) (by omega) _ (by omega), List.singleton_append, Lib.parseUint10, e, if_pos (by omega), if_neg (by omega), if_neg (by omega)]
   congr 1
   omega
theorem parseMag_dec (n : Nat) (hn : n < 18446744073709551616) : Lib.parseMag (Lib.decDigits n) = .ok n := by
 unfold Lib.parseMag
 rw [if_neg (fun e => by have := dec_pos n; rw [e] at this; simp at this)]
 have := parse_dec n [] hn
 rw [List.append_nil] at this
 rw [this]; rfl
theorem atoi_itoa (v : Int) (h0 : -9223372036854775808 ≤ v) (h1 : v ≤ 9223372036854775807) : Lib.atoiAll (Lib.itoa v) = .ok v := by
 have hm := parseMag_dec v.natAbs (by omega)
 obtain ⟨c, r, hd, hc⟩ := dec_cons v.natAbs
 by_cases h : v < 0
 ·have e : Lib.itoa v = 45 :: Lib.decDigits v.natAbs := by unfold Lib.itoa; rw [if_pos h]
  rw [e, Lib.atoiAll_minus, hm]
  unfold Lib.signed
  simp only []
  rw [if_neg (by omega)]
  congr 1
  omega
 ·have e : Lib.itoa v = Lib.decDigits v.natAbs := by
   unfold Lib.itoa
   rw [if_neg h]
   congr 1
   omega
  have hc43 : c.toNat ≠ 43 := by
   have := dec_digit v.natAbs c (by rw [hd]; simp)
   omega
  have hc45 : c.toNat ≠ 45 := fun e => hc (UInt8.toNat_inj.1 (by simpa using e))
  rw [e, hd, Lib.atoiAll_plain c r hc43 hc45, ← hd, hm]
  unfold Lib.signless
  simp only []
  rw [if_neg (by omega)]
  congr 1
  omega
end Go.Proofs.YtdgcohoneijleaaGreatDoor
namespace Go.Proofs.YtdgcohoneijleaaGreatDoor
open Go.RowKit
theorem elSt : El 59 9 (.string ByteArray.empty) 1 16 := El.mk' Tryz.underlying59 (by kernel_rfl) rfl (by decide)
def SRow (base : Nat) (w : World) (v : Value) (L : List (List UInt8)) : Prop := OS 9 1 base w v L.length (L.map sv)
def SRd (w : World) (v : Value) (L : List (List UInt8)) : Prop := RF No w v 1 L.length (L.map sv)
theorem SRow.rd {base : Nat} {w : World} {v : Value} {L : List (List UInt8)} (h : SRow base w v L) : SRd w v L := h.readNo
theorem SRow.keep {base : Nat} {w w' : World} {v : Value} {L : List (List UInt8)} (h : SRow base w v L) (hc : Chg No w w') : SRow base w' v L := OS.keep h hc
theorem SRd.keep {w w' : World} {v : Value} {L : List (List UInt8)} (h : SRd w v L) (hc : Chg No w w') : SRd w' v L := RF.keep h hc
theorem SRd.view {w : World} {v : Value} {L : List (List UInt8)} (h : SRd w v L) (hn : L ≠ []) : ∃ b off cap, v = .slice (some ⟨b, off, none⟩) L.length cap ∧ L.length ≤ cap ∧ cap ≤ 9223372036854775807 ∧ b < w.heap.size ∧ ∀ i, i < L.length → w.cell? ⟨b, off + i, none⟩ = some (sv (L.getD i [])) := by
 obtain ⟨a, cap, rfl, h1, h2, h3, h0, h4⟩ := h
 have hp : 0 < L.length := by cases L with
  | nil => exact absurd rfl hn
  | cons x L => simp
 obtain ⟨b, off, rfl, _, hb, hc⟩ := h4 hp
 refine ⟨b, off, cap, rfl, h1, h2, hb, fun i hi => ?_⟩
 rw [hc i (by simpa using hi)]
 simp [List.getD_eq_getElem?_getD, hi]
theorem OS.is {E : TypeId} {sz base : Nat} {w : World} {v : Value} {n n' : Nat} {cs cs' : List Value} (h : OS E sz base w v n cs) (hn : n = n') (hc : cs = cs') : OS E sz base w v n' cs' := by subst hn; subst hc; exact h
theorem extr (l : List UInt8) (m k : Nat) : (⟨l.toArray⟩ : ByteArray).extract m k = ⟨((l.take k).drop m).toArray⟩ := by
 apply ByteArray.ext
 simp [ByteArray.data_extract, List.extract_toArray]
 rw [List.drop_take]
theorem sl_run (T : TypeId) (hT : Tryz.prog.underlying T = some .string) (s : List UInt8) (m k : Nat) (hm : m ≤ k) (hk : k ≤ s.length) : ∀ W, (Instr.slice T (.string ⟨s.toArray⟩) (some (.int .i64 (m : Int))) (some (.int .i64 (k : Int))) none).run Tryz.prog W = .ok (.string ⟨((s.take k).drop m).toArray⟩) W := fun W => by
 have hs : (⟨s.toArray⟩ : ByteArray).size = s.length := by simp [ByteArray.size]
 rw [run_slice_string _ _ _ _ _ _ _ hT (by omega) (by omega) (by rw [hs]; omega), Int.toNat_natCast, Int.toNat_natCast, extr]
theorem sl_runF (T : TypeId) (hT : Tryz.prog.underlying T = some .string) (s : List UInt8) (m : Nat) (hm : m ≤ s.length) : ∀ W, (Instr.slice T (.string ⟨s.toArray⟩) (some (.int .i64 (m : Int))) none none).run Tryz.prog W = .ok (.string ⟨(s.drop m).toArray⟩) W := fun W => by
 have hs : (⟨s.toArray⟩ : ByteArray).size = s.length := by simp [ByteArray.size]
 rw [run_slice_string_from_if (P := Tryz.prog) (w := W) (t := T) (s := ⟨s.toArray⟩) (k := .i64) (i := (m : Int)) hT, if_pos ⟨by omega, by rw [hs]; omega⟩, Int.toNat_natCast, hs, extr, List.take_length]
theorem ix_run (T : TypeId) (hT : Tryz.prog.underlying T = some .string) (s : List UInt8) (k : Nat) (hk : k < s.length) : ∀ W, (Instr.index T (.string ⟨s.toArray⟩) (.int .i64 (k : Int))).run Tryz.prog W = .ok (.int .u8 (s[k].toNat : Int)) W := fun W => by
 have hsz : (⟨s.toArray⟩ : ByteArray).size = s.length := by simp [ByteArray.size]
 rw [run_index_string _ _ _ _ _ hT, dif_pos ⟨by omega, by rw [hsz]; omega⟩]
 have : (⟨s.toArray⟩ : ByteArray)[(k : Int).toNat]'(by rw [hsz]; omega) = s[k] := by simp; rfl
 rw [this]
theorem splitC_at (b : UInt8) (s : List UInt8) (m k : Nat) (hm : m ≤ k) (hk : k < s.length) (h : s[k] = b) (hn : b ∉ (s.take k).drop m) : splitC b (s.drop m) = (s.take k).drop m :: splitC b (s.drop (k + 1)) := by
 have e : s.drop m = (s.take k).drop m ++ b :: s.drop (k + 1) := by
  conv => lhs; rw [← List.take_append_drop k s]
  rw [List.drop_append_of_le_length (by simp; omega), ← h, List.getElem_cons_drop]
 rw [e, splitC_join b _ _ hn]
theorem notin_next (b : UInt8) (s : List UInt8) (m k : Nat) (hm : m ≤ k) (hk : k < s.length) (h : ¬ s[k] = b) (hn : b ∉ (s.take k).drop m) : b ∉ (s.take (k + 1)).drop m := by
 rw [List.take_succ_eq_append_getElem hk, List.drop_append_of_le_length (by simp; omega), List.mem_append, List.mem_singleton]
 rintro (h1 | h1)
 ·exact hn h1
 ·exact h h1.symm
set_option maxHeartbeats 2000000 in
theorem l1Split_all (s : List UInt8) (b : UInt8) (w : World) (hs : s.length ≤ 1073741824) :
  Calls Tryz.prog 37 #[.string ⟨s.toArray⟩, .int .u8 (b.toNat : Int)] w fun e w' => ∃ g n cap, e = .returned (.slice (some ⟨g, 0, none⟩) n cap) ∧ SRow w.heap.size w' (.slice (some ⟨g, 0, none⟩) n cap) (splitC b s) ∧ Chg No w w' := by
 go_enter Tryz.func37, Tryz.ntmps37
 go_wp2_with fail
 go_loopw [5, 6, 7] (fun o f i wr => ∃ (k m : Nat) (D : List (List UInt8)), k ≤ s.length ∧ i = .int .i64 k ∧ f = .int .i64 m ∧ m ≤ k ∧ OS 9 1 w.heap.size wr o D.length (D.map sv) ∧ D.length ≤ k ∧ Hid (D ++ splitC b (s.drop m) = splitC b s ∧ b ∉ (s.take k).drop m) ∧ Chg No w wr)
  (fun _ _ i _ => s.length - (intOf i).toNat)
 case atStart => exact ⟨0, 0, [], Nat.zero_le _, rfl, rfl, Nat.le_refl _, OS.zero (Nat.le_refl _), Nat.le_refl _, Lib.hid ⟨by simp, by simp⟩, (Chg.refl No w).alloc _⟩
 case round =>
  obtain ⟨k, m, D, hk, rfl, rfl, hm, ho, hn, HI, hch⟩ := hrel
  obtain ⟨n, hn0⟩ : ∃ n, D.length = n := ⟨_, rfl⟩
  obtain ⟨cs, hcs⟩ : ∃ cs, D.map sv = cs := ⟨_, rfl⟩
  rw [hn0, hcs] at ho
  rw [hn0] at hn
  have HD := Lib.hid (And.intro hn0 hcs)
  clear hn0 hcs
  by_cases hlt : k < s.length
  ·have hix := ix_run 9 Tryz.underlying9 s k hlt
   obtain ⟨x, hx⟩ : ∃ x, s[k] = x := ⟨_, rfl⟩
   rw [hx] at hix
   by_cases hxb : x = b
   ·have hq : (x.toNat : Int) = (b.toNat : Int) := by rw [hxb]
    have hsz := hch.size
    have HX := Lib.hid (hx.trans hxb)
    obtain ⟨X, hX⟩ : ∃ X, (s.take k).drop m = X := ⟨_, rfl⟩
    have hsl := sl_run 9 Tryz.underlying9 s m k hm (by omega)
    rw [hX] at hsl
    have HXX := Lib.hid hX
    have hxb' : ((x.toNat : Int) == (b.toNat : Int)) = true := by rw [hq]; simp
    clear hxb hx hX hq
    go_wp2_with (at_builtin; refine wappS1 elSt (by omega) rfl (.tmp 20) (.tmp 25) rfl ho rfl (by simp [Value.oneCell']) rfl rfl (by omega) (by omega) ?_)
    intro v1 w1 o1 k1 f1
    obtain ⟨a1, q1, rfl, _⟩ := o1.view
    have hch1 := hch.step k1 (fun q hq hl => by have := (ho.lt q hq).1; omega)
    go_wp2_with fail
    refine ⟨⟨k + 1, k + 1, D ++ [X], by omega, by go_num, by go_num, Nat.le_refl _, ?_, by simp [HD.out.1]; omega, Lib.hid ⟨?_, by simp⟩, hch1⟩, by simp [intOf]; omega⟩
    ·refine o1.is (by simp [HD.out.1]) (by rw [List.map_append, HD.out.2]; rfl)
    ·rw [← HI.out.1, splitC_at b s m k hm hlt HX.out HI.out.2, HXX.out]; simp
   ·have hq : ((x.toNat : Int) == (b.toNat : Int)) = false := by
     rw [beq_eq_false_iff_ne]
     exact fun h => hxb (UInt8.toNat_inj.1 (by omega))
    have HX := Lib.hid (fun e => hxb (hx.symm.trans e) : ¬ s[k] = b)
    clear hxb hx
    go_wp2_with fail
    refine ⟨⟨k + 1, m, D, by omega, by go_num, rfl, by omega, ho.is HD.out.1.symm HD.out.2.symm, by rw [HD.out.1]; omega, Lib.hid ⟨HI.out.1, notin_next b s m k hm hlt HX.out HI.out.2⟩, hch⟩, by simp [intOf]; omega⟩
  ·have hsz := hch.size
   obtain ⟨X, hX⟩ : ∃ X, s.drop m = X := ⟨_, rfl⟩
   have hsl := sl_runF 9 Tryz.underlying9 s m (by omega)
   rw [hX] at hsl
   have HXX := Lib.hid hX
   clear hX
   go_wp2_with (at_builtin; refine wappS1 elSt (by omega) rfl (.tmp 29) (.tmp 33) rfl ho rfl (by simp [Value.oneCell']) rfl rfl (by omega) (by omega) ?_)
   intro v1 w1 o1 k1 f1
   obtain ⟨a1, q1, rfl, hv1, hv2, _, hv⟩ := o1.view
   obtain ⟨g, rfl, hg1, hg2, hgc, _⟩ := hv (by omega)
   have hch1 := hch.step k1 (fun q hq hl => by have := (ho.lt q hq).1; omega)
   have HF : Hid (D ++ [X] = splitC b s) := Lib.hid (by
    have hkl : k = s.length := by omega
    have hb := HI.out.2
    rw [hkl, List.take_length] at hb
    rw [← HI.out.1, splitC_one b _ hb, HXX.out])
   have HO : Hid (SRow w.heap.size w1 (.slice (some ⟨g, 0, none⟩) (n + 1) q1) (splitC b s)) := Lib.hid (by
    rw [← HF.out]
    exact o1.is (by simp [HD.out.1]) (by rw [List.map_append, HD.out.2]; rfl))
   clear hgc hv o1 HI
   go_wp2_with fail
   go_ret
   exact ⟨_, _, _, rfl, HO.out, hch1⟩
set_option maxHeartbeats 2000000 in
theorem splitAt_all (s : List UInt8) (b : UInt8) (w : World) (hs : s.length ≤ 1073741824) :
  Calls Tryz.prog 134 #[.string ⟨s.toArray⟩, .int .u8 (b.toNat : Int)] w fun e w' => ∃ g n cap, e = .returned (.slice (some ⟨g, 0, none⟩) n cap) ∧ SRow w.heap.size w' (.slice (some ⟨g, 0, none⟩) n cap) (splitC b s) ∧ Chg No w w' := by
 go_enter Tryz.func134, Tryz.ntmps134
 go_wp2_with fail
 go_loopw [5, 6, 11] (fun o f i wr => ∃ (k m : Nat) (D : List (List UInt8)), k ≤ s.length ∧ i = .int .i64 k ∧ f = .int .i64 m ∧ m ≤ k ∧ OS 9 1 w.heap.size wr o D.length (D.map sv) ∧ D.length ≤ k ∧ Hid (D ++ splitC b (s.drop m) = splitC b s ∧ b ∉ (s.take k).drop m) ∧ Chg No w wr)
  (fun _ _ i _ => s.length - (intOf i).toNat)
 case atStart => exact ⟨0, 0, [], Nat.zero_le _, rfl, rfl, Nat.le_refl _, OS.zero (Nat.le_refl _), Nat.le_refl _, Lib.hid ⟨by simp, by simp⟩, (Chg.refl No w).alloc _⟩
 case round =>
  obtain ⟨k, m, D, hk, rfl, rfl, hm, ho, hn, HI, hch⟩ := hrel
  obtain ⟨n, hn0⟩ : ∃ n, D.length = n := ⟨_, rfl⟩
  obtain ⟨cs, hcs⟩ : ∃ cs, D.map sv = cs := ⟨_, rfl⟩
  rw [hn0, hcs] at ho
  rw [hn0] at hn
  have HD := Lib.hid (And.intro hn0 hcs)
  clear hn0 hcs
  by_cases hlt : k < s.length
  ·have hix := ix_run 9 Tryz.underlying9 s k hlt
   obtain ⟨x, hx⟩ : ∃ x, s[k] = x := ⟨_, rfl⟩
   rw [hx] at hix
   by_cases hxb : x = b
   ·have hq : (x.toNat : Int) = (b.toNat : Int) := by rw [hxb]
    have hsz := hch.size
    have HX := Lib.hid (hx.trans hxb)
    obtain ⟨X, hX⟩ : ∃ X, (s.take k).drop m = X := ⟨_, rfl⟩
    have hsl := sl_run 9 Tryz.underlying9 s m k hm (by omega)
    rw [hX] at hsl
    have HXX := Lib.hid hX
    have hxb' : ((x.toNat : Int) == (b.toNat : Int)) = true := by rw [hq]; simp
    clear hxb hx hX hq
    go_wp2_with (at_builtin; refine wappS1 elSt (by omega) rfl (.tmp 19) (.tmp 24) rfl ho rfl (by simp [Value.oneCell']) rfl rfl (by omega) (by omega) ?_)
    intro v1 w1 o1 k1 f1
    obtain ⟨a1, q1, rfl, _⟩ := o1.view
    have hch1 := hch.step k1 (fun q hq hl => by have := (ho.lt q hq).1; omega)
    go_wp2_with fail
    refine ⟨⟨k + 1, k + 1, D ++ [X], by omega, by go_num, by go_num, Nat.le_refl _, ?_, by simp [HD.out.1]; omega, Lib.hid ⟨?_, by simp⟩, hch1⟩, by simp [intOf]; omega⟩
    ·refine o1.is (by simp [HD.out.1]) (by rw [List.map_append, HD.out.2]; rfl)
    ·rw [← HI.out.1, splitC_at b s m k hm hlt HX.out HI.out.2, HXX.out]; simp
   ·have hq : ((x.toNat : Int) == (b.toNat : Int)) = false := by
     rw [beq_eq_false_iff_ne]
     exact fun h => hxb (UInt8.toNat_inj.1 (by omega))
    have HX := Lib.hid (fun e => hxb (hx.symm.trans e) : ¬ s[k] = b)
    clear hxb hx
    go_wp2_with fail
    refine ⟨⟨k + 1, m, D, by omega, by go_num, rfl, by omega, ho.is HD.out.1.symm HD.out.2.symm, by rw [HD.out.1]; omega, Lib.hid ⟨HI.out.1, notin_next b s m k hm hlt HX.out HI.out.2⟩, hch⟩, by simp [intOf]; omega⟩
  ·have hsz := hch.size
   obtain ⟨X, hX⟩ : ∃ X, s.drop m = X := ⟨_, rfl⟩
   have hsl := sl_runF 9 Tryz.underlying9 s m (by omega)
   rw [hX] at hsl
   have HXX := Lib.hid hX
   clear hX
   go_wp2_with (at_builtin; refine wappS1 elSt (by omega) rfl (.tmp 29) (.tmp 33) rfl ho rfl (by simp [Value.oneCell']) rfl rfl (by omega) (by omega) ?_)
   intro v1 w1 o1 k1 f1
   obtain ⟨a1, q1, rfl, hv1, hv2, _, hv⟩ := o1.view
   obtain ⟨g, rfl, hg1, hg2, hgc, _⟩ := hv (by omega)
   have hch1 := hch.step k1 (fun q hq hl => by have := (ho.lt q hq).1; omega)
   have HF : Hid (D ++ [X] = splitC b s) := Lib.hid (by
    have hkl : k = s.length := by omega
    have hb := HI.out.2
    rw [hkl, List.take_length] at hb
    rw [← HI.out.1, splitC_one b _ hb, HXX.out])
   have HO : Hid (SRow w.heap.size w1 (.slice (some ⟨g, 0, none⟩) (n + 1) q1) (splitC b s)) := Lib.hid (by
    rw [← HF.out]
    exact o1.is (by simp [HD.out.1]) (by rw [List.map_append, HD.out.2]; rfl))
   clear hgc hv o1 HI
   go_wp2_with fail
   go_ret
   exact ⟨_, _, _, rfl, HO.out, hch1⟩
end Go.Proofs.YtdgcohoneijleaaGreatDoor
