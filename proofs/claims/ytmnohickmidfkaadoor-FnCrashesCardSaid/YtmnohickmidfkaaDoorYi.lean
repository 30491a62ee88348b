import Derived.Test.YtmnohickmidfkaaDoorYh
/- records read from the beginning of bytes: the state between two of them -/
namespace Go.Proofs.YtmnohickmidfkaaDoor
open Go.RowKit

/-- the cells of records in a row -/
def recC (L : List (List UInt8 × List UInt8 × Nat)) : List Value := L.flatMap (fun x => [.string ⟨x.1.toArray⟩, .string ⟨x.2.1.toArray⟩])
theorem recC_snoc (L : List (List UInt8 × List UInt8 × Nat)) (x : List UInt8 × List UInt8 × Nat) : recC (L ++ [x]) = recC L ++ [.string ⟨x.1.toArray⟩, .string ⟨x.2.1.toArray⟩] := by
  simp [recC, List.flatMap_append]
theorem recC_len (L : List (List UInt8 × List UInt8 × Nat)) : (recC L).length = L.length * 2 := by
  induction L with
  | nil => rfl
  | cons x L ih =>
    have : recC (x :: L) = [.string ⟨x.1.toArray⟩, .string ⟨x.2.1.toArray⟩] ++ recC L := by simp [recC]
    rw [this, List.length_append, ih]
    simp only [List.length_cons, List.length_nil]
    omega
theorem lenB_snoc : ∀ (L : List (List UInt8 × List UInt8 × Nat)) (x : List UInt8 × List UInt8 × Nat), lenB (L ++ [x]) = lenB L + x.2.2
  | [], x => by simp [lenB]
  | y :: L, x => by rw [List.cons_append, lenB, lenB, lenB_snoc L x]; omega
theorem endsB_snoc : ∀ (L : List (List UInt8 × List UInt8 × Nat)) (x : List UInt8 × List UInt8 × Nat) (a : Nat), endsB a (L ++ [x]) = endsB a L ++ [a + lenB L + x.2.2]
  | [], x, a => by simp [endsB, lenB]
  | y :: L, x, a => by rw [List.cons_append, endsB, endsB, endsB_snoc L x, lenB, List.cons_append, Nat.add_assoc a]
theorem endsB_len : ∀ (L : List (List UInt8 × List UInt8 × Nat)) (a : Nat), (endsB a L).length = L.length
  | [], _ => rfl
  | y :: L, a => by rw [endsB, List.length_cons, endsB_len L, List.length_cons]

/-- D are the records read so far, R those that still come -/
structure Opened (s : List UInt8) (D R : List (List UInt8 × List UInt8 × Nat)) : Prop where
  all : openB 60 0 s = D ++ R
  rest : openB (60 - D.length) D.length (s.drop (lenB D)) = R
  n : D.length ≤ 60
  le : lenB D ≤ s.length
theorem Opened.zero (s : List UInt8) : Opened s [] (openB 60 0 s) := ⟨rfl, rfl, Nat.zero_le _, Nat.zero_le _⟩
theorem Opened.next {s : List UInt8} {D R : List (List UInt8 × List UInt8 × Nat)} (h : Opened s D R) {c r : List UInt8} (h10 : (10 : UInt8) ∈ s.drop (lenB D)) (hd : decB D.length (preB 10 (s.drop (lenB D))) = some (c, r)) :
    ∃ R', Opened s (D ++ [(c, r, (preB 10 (s.drop (lenB D))).length + 1)]) R' := by
  have hk := (decB_some hd).1
  have e : 60 - D.length = (60 - (D.length + 1)) + 1 := by omega
  have h1 := h.rest
  rw [e] at h1
  unfold openB at h1
  rw [if_pos h10, hd] at h1
  simp only at h1
  refine ⟨openB (60 - (D.length + 1)) (D.length + 1) (postB 10 (s.drop (lenB D))), ?_, ?_, ?_, ?_⟩
  · rw [h.all, ← h1, List.append_assoc]; rfl
  · rw [List.length_append, List.length_singleton, lenB_snoc, post_drop 10 _ h10, List.drop_drop]
  · rw [List.length_append, List.length_singleton]; omega
  · rw [lenB_snoc]
    have := pre_lt 10 _ h10
    have h2 := h.le
    rw [List.length_drop] at this
    simp only
    omega
theorem Opened.end_ {s : List UInt8} {D R : List (List UInt8 × List UInt8 × Nat)} (h : Opened s D R) (hr : R = []) : openB 60 0 s = D := by rw [h.all, hr, List.append_nil]
theorem Opened.notin {s : List UInt8} {D R : List (List UInt8 × List UInt8 × Nat)} (h : Opened s D R) (h10 : (10 : UInt8) ∉ s.drop (lenB D)) : openB 60 0 s = D := by
  refine h.end_ ?_
  rw [← h.rest]
  cases 60 - D.length with
  | zero => rfl
  | succ n => unfold openB; rw [if_neg h10]
theorem Opened.none_ {s : List UInt8} {D R : List (List UInt8 × List UInt8 × Nat)} (h : Opened s D R) (hd : decB D.length (preB 10 (s.drop (lenB D))) = none) : openB 60 0 s = D := by
  refine h.end_ ?_
  rw [← h.rest]
  cases 60 - D.length with
  | zero => rfl
  | succ n =>
    unfold openB
    split
    · rw [hd]
    · rfl
theorem Opened.full {s : List UInt8} {D R : List (List UInt8 × List UInt8 × Nat)} (h : Opened s D R) (hd : 60 ≤ D.length) : openB 60 0 s = D := by
  refine h.end_ ?_
  rw [← h.rest]
  have : 60 - D.length = 0 := by omega
  rw [this]
  rfl
theorem Opened.past {s : List UInt8} {D R : List (List UInt8 × List UInt8 × Nat)} (h : Opened s D R) (hd : s.length ≤ lenB D) : openB 60 0 s = D := by
  refine h.notin ?_
  rw [List.drop_eq_nil_of_le hd]
  simp

end Go.Proofs.YtmnohickmidfkaaDoor
