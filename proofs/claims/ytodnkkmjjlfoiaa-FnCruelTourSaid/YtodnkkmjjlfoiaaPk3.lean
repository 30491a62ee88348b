import Derived.Test.YtodnkkmjjlfoiaaO
import Derived.Test.YtodnkkmjjlfoiaaC
import Derived.Test.YtodnkkmjjlfoiaaPk2
/- run of the implementation: what its callback does is a premise -/
namespace Go.Proofs.Ytodnkkmjjlfoiaa
open Go.RowKit
end Go.Proofs.Ytodnkkmjjlfoiaa

namespace Go.Proofs.Ytodnkkmjjlfoiaa
open Go.RowKit

theorem fld4 (x0 x1 x2 x3 : Value) (z : Int) (w : World) : (Instr.field 42 (.agg #[x0, x1, x2, x3, .int .i64 z]) 4).run Try.prog w = .ok (.int .i64 z) w := by kernel_rfl
end Go.Proofs.Ytodnkkmjjlfoiaa

namespace Go.Proofs.Ytodnkkmjjlfoiaa
open Go.RowKit
end Go.Proofs.Ytodnkkmjjlfoiaa

namespace Go.Proofs.Ytodnkkmjjlfoiaa
open Go.RowKit
end Go.Proofs.Ytodnkkmjjlfoiaa

namespace Go.Proofs.Ytodnkkmjjlfoiaa
open Go.RowKit
end Go.Proofs.Ytodnkkmjjlfoiaa

namespace Go.Proofs.Ytodnkkmjjlfoiaa
open Go.RowKit

theorem quiet_sym {P : Program} {f : FuncId} {args : Array Value} {w : World} {n : Nat} {v : Value}
    (h : Calls P f args (w.drewN n) fun e w' => e = .returned v ∧ w.drewN n = w') : Calls P f args (w.drewN n) fun e w'' => e = .returned v ∧ ∃ m, w'' = w.drewN m :=
  Calls.quiet_of_same (h.mono fun _ _ h => ⟨h.1, h.2.symm⟩)
end Go.Proofs.Ytodnkkmjjlfoiaa

/- FaultPlaces, both sides -/
namespace Go.Proofs.Ytodnkkmjjlfoiaa
open Go.RowKit

def JF (base bo : Nat) (c : Ca) (l : List Int) (j : Nat) (U : Nat → Prop) (w : World) : Prop :=
  ∃ ov, w.cell? ⟨bo, 0, none⟩ = some ov ∧ w.frozen? ⟨bo, 0, none⟩ = false ∧ OI base w ov (placesTo c l j) ∧ (∀ q, U q ↔ q = bo ∨ own ov q) ∧ ¬ own ov bo ∧ base ≤ bo

def askedB (n p k : Int) (l : List Int) : Bool := inB p 1 7 && inB k 1 6 && (inB n 1 8 && decide (l.length ≤ 60) && belowB n l)
theorem askedB_ok {n p k : Int} {l : List Int} (h : askedB n p k l = true) : Ok (newC p k) := by
  simp only [askedB, Bool.and_eq_true, inB_iff] at h
  exact ok_new h.1.1 h.1.2
end Go.Proofs.Ytodnkkmjjlfoiaa

/-
  Plain Lean: numbers put in order, each once; what a valid cache is. No program in sight.
-/
namespace Go.Proofs.Ytodnkkmjjlfoiaa

/-- puts a number to its place, once -/
def putL : List Int → Int → List Int
  | [], n => [n]
  | a :: l, n => if a < n then a :: putL l n else if a = n then a :: l else n :: a :: l
def diffL (l : List Int) : List Int := l.foldl putL []
def Up (l : List Int) : Prop := l.Pairwise (· < ·)
theorem putL_mem {l : List Int} {n x : Int} : x ∈ putL l n ↔ x ∈ l ∨ x = n := by
  induction l with
  | nil => simp [putL]
  | cons a l ih =>
    unfold putL
    split
    · simp [ih, or_assoc]
    · split
      · rename_i h; subst h; simp; intro e; exact .inl e
      · simp; constructor
        · rintro (h | h | h) <;> simp [h]
        · rintro ((h | h) | h) <;> simp [h]
theorem putL_up {l : List Int} (n : Int) (h : Up l) : Up (putL l n) := by
  induction l with
  | nil => simp [putL, Up]
  | cons a l ih =>
    unfold Up at h ih ⊢
    rw [List.pairwise_cons] at h
    unfold putL
    split
    · rename_i hlt
      rw [List.pairwise_cons]
      refine ⟨fun x hx => ?_, ih h.2⟩
      rcases putL_mem.1 hx with hx | hx
      · exact h.1 x hx
      · omega
    · split
      · rw [List.pairwise_cons]; exact h
      · rw [List.pairwise_cons, List.pairwise_cons]
        refine ⟨fun x hx => ?_, h⟩
        rcases List.mem_cons.1 hx with hx | hx
        · omega
        · have := h.1 x hx; omega
theorem putL_len (l : List Int) (n : Int) : (putL l n).length ≤ l.length + 1 := by
  induction l with
  | nil => simp [putL]
  | cons a l ih =>
    unfold putL
    split
    · simp; omega
    · split <;> simp
theorem foldl_put_mem (l : List Int) : ∀ (acc : List Int) (x : Int), x ∈ l.foldl putL acc ↔ x ∈ acc ∨ x ∈ l := by
  induction l with
  | nil => simp
  | cons a l ih =>
    intro acc x
    rw [List.foldl_cons, ih, putL_mem, List.mem_cons, or_assoc]
theorem foldl_put_up (l : List Int) : ∀ (acc : List Int), Up acc → Up (l.foldl putL acc) := by
  induction l with
  | nil => intro acc h; exact h
  | cons a l ih => intro acc h; exact ih _ (putL_up a h)
theorem diffL_mem {l : List Int} {x : Int} : x ∈ diffL l ↔ x ∈ l := by simp [diffL, foldl_put_mem]
theorem diffL_up (l : List Int) : Up (diffL l) := foldl_put_up l [] List.Pairwise.nil
theorem diffL_snoc (l : List Int) (k : Nat) (h : k < l.length) : diffL (l.take (k + 1)) = putL (diffL (l.take k)) l[k] := by
  rw [List.take_succ_eq_append_getElem h, diffL, List.foldl_append]; rfl
theorem diffL_append (l : List Int) (x : Int) : diffL (l ++ [x]) = putL (diffL l) x := by
  rw [diffL, List.foldl_append]; rfl
theorem up_nodup {l : List Int} (h : Up l) : l.Nodup := List.Pairwise.imp (fun h => by omega) h
theorem up_ext : ∀ {a b : List Int}, Up a → Up b → (∀ x, x ∈ a ↔ x ∈ b) → a = b
  | [], [], _, _, _ => rfl
  | [], y :: b, _, _, h => absurd ((h y).2 (by simp)) (by simp)
  | x :: a, [], _, _, h => absurd ((h x).1 (by simp)) (by simp)
  | x :: a, y :: b, ha, hb, h => by
    unfold Up at ha hb
    rw [List.pairwise_cons] at ha hb
    have hxy : x = y := by
      rcases List.mem_cons.1 ((h x).1 (by simp)) with e | e
      · exact e
      · rcases List.mem_cons.1 ((h y).2 (by simp)) with e' | e'
        · exact e'.symm
        · have := ha.1 y e'; have := hb.1 x e; omega
    subst hxy
    refine congrArg _ (up_ext ha.2 hb.2 (fun z => ⟨fun hz => ?_, fun hz => ?_⟩))
    · rcases List.mem_cons.1 ((h z).1 (by simp [hz])) with e | e
      · subst e; have := ha.1 z hz; omega
      · exact e
    · rcases List.mem_cons.1 ((h z).2 (by simp [hz])) with e | e
      · subst e; have := hb.1 z hz; omega
      · exact e
theorem up_diff {l m : List Int} (hu : Up m) (h : ∀ x, x ∈ m ↔ x ∈ l) : m = diffL l := up_ext hu (diffL_up l) (fun x => (h x).trans diffL_mem.symm)
/-- a sorted list without its repeated numbers -/
def dedup : List Int → List Int
  | [] => []
  | [a] => [a]
  | a :: b :: l => if a = b then dedup (b :: l) else a :: dedup (b :: l)
theorem dedup_mem : ∀ (l : List Int) (x : Int), x ∈ dedup l ↔ x ∈ l
  | [], _ => Iff.rfl
  | [_], _ => Iff.rfl
  | a :: b :: l, x => by
    unfold dedup
    split
    · rename_i h; subst h
      rw [dedup_mem (a :: l) x]; simp
    · rw [List.mem_cons, dedup_mem (b :: l) x, List.mem_cons (a := x) (b := a)]
theorem dedup_up : ∀ (l : List Int), l.Pairwise (· ≤ ·) → Up (dedup l)
  | [], _ => List.Pairwise.nil
  | [_], _ => by simp [dedup, Up]
  | a :: b :: l, h => by
    rw [List.pairwise_cons] at h
    unfold dedup
    split
    · exact dedup_up (b :: l) h.2
    · rename_i hne
      unfold Up
      rw [List.pairwise_cons]
      refine ⟨fun x hx => ?_, dedup_up (b :: l) h.2⟩
      rw [dedup_mem] at hx
      have h1 := h.1 b (by simp)
      rcases List.mem_cons.1 hx with e | e
      · omega
      · have := h.2
        rw [List.pairwise_cons] at this
        have := this.1 x e
        omega
theorem dedup_diff {l s : List Int} (hs : s.Pairwise (· ≤ ·)) (hm : ∀ x, x ∈ s ↔ x ∈ l) : dedup s = diffL l :=
  up_diff (dedup_up s hs) (fun x => (dedup_mem s x).trans (hm x))
theorem diffL_len_le (l : List Int) : (diffL l).length ≤ l.length := by
  have : ∀ (l acc : List Int), (l.foldl putL acc).length ≤ acc.length + l.length := by
    intro l
    induction l with
    | nil => simp
    | cons a l ih => intro acc; have := ih (putL acc a); have := putL_len acc a; simp only [List.foldl_cons, List.length_cons]; omega
  simpa [diffL] using this l []

/-- what l1Put and rising look at: the place of the first number that is not less -/
def lessTo (l : List Int) (n : Int) : Nat := (l.takeWhile (fun a => decide (a < n))).length
theorem lessTo_le (l : List Int) (n : Int) : lessTo l n ≤ l.length := by
  unfold lessTo
  induction l with
  | nil => simp
  | cons a l ih => rw [List.takeWhile_cons]; split <;> simp; omega
theorem putL_split {l : List Int} (n : Int) (k : Nat) (hk : k ≤ l.length) (hl : ∀ i, i < k → l.getD i 0 < n) (hg : k < l.length → ¬ l.getD k 0 < n) :
    putL l n = if k < l.length ∧ l.getD k 0 = n then l else l.take k ++ n :: l.drop k := by
  induction l generalizing k with
  | nil =>
    have : k = 0 := by simpa using hk
    subst this; simp [putL]
  | cons a l ih =>
    unfold putL
    cases k with
    | zero =>
      have h0 := hg (by simp)
      simp only [List.getD_cons_zero] at h0
      rw [if_neg h0]
      simp
    | succ k =>
      have h0 := hl 0 (by omega)
      simp only [List.getD_cons_zero] at h0
      rw [if_pos h0, ih k (by simpa using hk) (fun i hi => by have := hl (i + 1) (by omega); simpa using this) (fun hi => by have := hg (by simpa using hi); simpa using this)]
      simp only [List.length_cons, Nat.add_lt_add_iff_right, List.getD_cons_succ]
      split <;> simp

/-- a cache is valid for n items -/
def marksB (c : Ca) : Bool :=
  if c.pol = 5 then decide (c.marks.length = c.pages.length) && c.marks.all (fun m => inB m 1 60)
  else if c.pol = 6 then decide (c.marks.length = c.pages.length) && c.marks.all (fun m => inB m 0 1)
  else decide (c.marks.length = 0)
def handB (c : Ca) : Bool := if c.pol = 6 ∧ (c.pages.length : Int) = c.size then inB c.hand 0 (c.size - 1) else decide (c.hand = 0)
def goodC (n : Int) (c : Ca) : Bool :=
  inB n 1 8 && inB c.pol 1 7 && inB c.size 1 6 && decide ((c.pages.length : Int) ≤ c.size) && belowB n c.pages && decide ((diffL c.pages).length = c.pages.length) && marksB c && handB c
theorem goodC_ok {n : Int} {c : Ca} (h : goodC n c = true) : Ok c := by
  simp only [goodC, Bool.and_eq_true, inB_iff, decide_eq_true_eq] at h
  obtain ⟨⟨⟨⟨⟨⟨⟨h1, h2⟩, h3⟩, h4⟩, h5⟩, h6⟩, h7⟩, h8⟩ := h
  have hm : (c.pol = 5 ∨ c.pol = 6 → c.marks.length = c.pages.length) ∧ ∀ m ∈ c.marks, 0 ≤ m ∧ m ≤ 60 := by
    unfold marksB at h7
    split at h7
    · simp only [Bool.and_eq_true, decide_eq_true_eq, List.all_eq_true, inB_iff] at h7
      exact ⟨fun _ => h7.1, fun m hm => by have := h7.2 m hm; omega⟩
    · split at h7
      · simp only [Bool.and_eq_true, decide_eq_true_eq, List.all_eq_true, inB_iff] at h7
        exact ⟨fun _ => h7.1, fun m hm => by have := h7.2 m hm; omega⟩
      · have h0 : c.marks = [] := List.eq_nil_of_length_eq_zero (by simpa using h7)
        rw [h0]
        exact ⟨fun h => by omega, by simp⟩
  have hh : 0 ≤ c.hand ∧ c.hand < c.size := by
    unfold handB at h8
    split at h8
    · have := inB_iff.1 h8; omega
    · have : c.hand = 0 := by simpa using h8
      omega
  exact ⟨h2, h3, h4, hm.1, hm.2, hh⟩
theorem goodC_items {n : Int} {c : Ca} (h : goodC n c = true) : 1 ≤ n ∧ n ≤ 8 := by
  simp only [goodC, Bool.and_eq_true, inB_iff] at h
  omega
end Go.Proofs.Ytodnkkmjjlfoiaa
