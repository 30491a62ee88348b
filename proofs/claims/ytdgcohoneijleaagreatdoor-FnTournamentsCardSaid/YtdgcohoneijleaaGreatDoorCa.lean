import Derived.Test.YtdgcohoneijleaaGreatDoorPkX13
import Derived.Test.YtdgcohoneijleaaGreatDoorTe
namespace Go.Proofs.YtdgcohoneijleaaGreatDoor
open Go.RowKit
def plC (x : Pl) (pv mv : Value) : List Value := [.int .i64 x.frm, .int .i64 x.ca.pol, .int .i64 x.ca.size, pv, mv, .int .i64 x.ca.hand, .int .i64 x.fa]
def rowC (ls : List Pl) (pf mf : Nat → Value) : Nat → List Value
 | 0 => []
 | n + 1 => rowC ls pf mf n ++ plC (ls.getD n dPl) (pf n) (mf n)
theorem rowC_len (ls : List Pl) (pf mf : Nat → Value) (n : Nat) : (rowC ls pf mf n).length = n * 7 := by
 induction n with
 | zero => rfl
 | succ n ih => unfold rowC; rw [List.length_append, ih]; simp [plC]; omega
theorem rowC_get (ls : List Pl) (pf mf : Nat → Value) (n i r : Nat) (hi : i < n) (hr : r < 7) : (rowC ls pf mf n).getD (i * 7 + r) undef = (plC (ls.getD i dPl) (pf i) (mf i)).getD r undef := by
 induction n with
 | zero => omega
 | succ n ih =>
  unfold rowC
  rw [List.getD_eq_getElem?_getD]
  by_cases e : i = n
  ·subst e
   rw [List.getElem?_append_right (by rw [rowC_len]; omega), rowC_len, List.getD_eq_getElem?_getD]
   congr 2; omega
  ·rw [List.getElem?_append_left (by rw [rowC_len]; omega), ← List.getD_eq_getElem?_getD]
   exact ih (by omega)
theorem rowC_congr (ls ls' : List Pl) (pf mf pf' mf' : Nat → Value) (n : Nat) (h : ∀ i, i < n → ls.getD i dPl = ls'.getD i dPl ∧ pf i = pf' i ∧ mf i = mf' i) : rowC ls pf mf n = rowC ls' pf' mf' n := by
 induction n with
 | zero => rfl
 | succ n ih =>
  unfold rowC
  rw [ih (fun i hi => h i (by omega)), (h n (by omega)).1, (h n (by omega)).2.1, (h n (by omega)).2.2]
structure PA (base : Nat) (w : World) (v : Value) (ls : List Pl) (pf mf : Nat → Value) : Prop where
 os : OS 68 7 base w v ls.length (rowC ls pf mf ls.length)
 pg : ∀ i, i < ls.length → OI base w (pf i) (ls.getD i dPl).ca.pages
 mq : ∀ i, i < ls.length → OI base w (mf i) (ls.getD i dPl).ca.marks
 far : ∀ i, i < ls.length → ∀ q, (own (pf i) q ∨ own (mf i) q) → ¬ own v q
 apart : ∀ i, i < ls.length → ∀ q, own (pf i) q → ¬ own (mf i) q
 dis : ∀ i j, i < ls.length → j < ls.length → i ≠ j → ∀ q, (own (pf i) q ∨ own (mf i) q) → ¬ (own (pf j) q ∨ own (mf j) q)
def FA (v : Value) (n : Nat) (pf mf : Nat → Value) : Nat → Prop := fun q => own v q ∨ ∃ i, i < n ∧ (own (pf i) q ∨ own (mf i) q)
theorem PA.inF {base : Nat} {w : World} {v : Value} {ls : List Pl} {pf mf : Nat → Value} (h : PA base w v ls pf mf) (q : Nat) (hq : FA v ls.length pf mf q) : base ≤ q ∧ q < w.heap.size := by
 rcases hq with hq | ⟨i, hi, hq | hq⟩
 ·exact h.os.lt q hq
 ·exact (h.pg i hi).lt q hq
 ·exact (h.mq i hi).lt q hq
theorem PA.step {base : Nat} {w w' : World} {v : Value} {ls : List Pl} {pf mf : Nat → Value} {S : Nat → Prop} (h : PA base w v ls pf mf) (hc : Chg S w w') (hS : ∀ q, FA v ls.length pf mf q → ¬ S q) : PA base w' v ls pf mf :=
 ⟨h.os.step hc (fun q hq => hS q (.inl hq)), fun i hi => (h.pg i hi).step hc (fun q hq => hS q (.inr ⟨i, hi, .inl hq⟩)), fun i hi => (h.mq i hi).step hc (fun q hq => hS q (.inr ⟨i, hi, .inr hq⟩)), h.far, h.apart, h.dis⟩
theorem PA.keep {base : Nat} {w w' : World} {v : Value} {ls : List Pl} {pf mf : Nat → Value} (h : PA base w v ls pf mf) (hc : Chg No w w') : PA base w' v ls pf mf := h.step hc (fun _ _ e => e)
theorem PA.weak {base base' : Nat} {w : World} {v : Value} {ls : List Pl} {pf mf : Nat → Value} (h : PA base w v ls pf mf) (hb : base' ≤ base) : PA base' w v ls pf mf :=
 ⟨h.os.weak hb, fun i hi => (h.pg i hi).weak hb, fun i hi => (h.mq i hi).weak hb, h.far, h.apart, h.dis⟩
theorem PA.nil (base : Nat) (w : World) {v : Value} (h : OS 68 7 base w v 0 []) (pf mf : Nat → Value) : PA base w v [] pf mf :=
 ⟨h, fun i hi => absurd hi (Nat.not_lt_zero i), fun i hi => absurd hi (Nat.not_lt_zero i), fun i hi => absurd hi (Nat.not_lt_zero i), fun i hi => absurd hi (Nat.not_lt_zero i), fun i _ hi => absurd hi (Nat.not_lt_zero i)⟩
theorem getD_snocP (ls : List Pl) (x : Pl) (i : Nat) : (ls ++ [x]).getD i dPl = if i < ls.length then ls.getD i dPl else if i = ls.length then x else dPl := by
 simp only [List.getD_eq_getElem?_getD]
 by_cases h : i < ls.length
 ·rw [if_pos h, List.getElem?_append_left h]
 ·rw [if_neg h, List.getElem?_append_right (by omega)]
  by_cases e : i = ls.length
  ·subst e; simp
  ·rw [if_neg e]
   have : ∃ m, i - ls.length = m + 1 := ⟨i - ls.length - 1, by omega⟩
   obtain ⟨m, hm⟩ := this
   rw [hm]; simp
theorem PA.snoc {base : Nat} {w w1 w2 : World} {v v2 : Value} {ls : List Pl} {pf mf : Nat → Value} (h : PA base w v ls pf mf) (hb : base ≤ w.heap.size) (k1 : Chg No w w1) {x : Pl} {pv mv : Value} (hp : OI w.heap.size w1 pv x.ca.pages) (hm : OI w.heap.size w1 mv x.ca.marks) (ha : ∀ q, own pv q → ¬ own mv q)
  (ho : OS 68 7 base w2 v2 (ls.length + 1) (rowC ls pf mf ls.length ++ plC x pv mv)) (k2 : Chg (own v) w1 w2) (hn : ∀ k, own v2 k → own v k ∨ w1.heap.size ≤ k) :
  PA base w2 v2 (ls ++ [x]) (fun i => if i = ls.length then pv else pf i) (fun i => if i = ls.length then mv else mf i) := by
 have hnew : ∀ q, (own pv q ∨ own mv q) → w.heap.size ≤ q ∧ q < w1.heap.size := fun q hq => hq.elim (fun e => hp.lt q e) (fun e => hm.lt q e)
 have hold : ∀ i, i < ls.length → ∀ q, (own (pf i) q ∨ own (mf i) q) → q < w.heap.size := fun i hi q hq => hq.elim (fun e => ((h.pg i hi).lt q e).2) (fun e => ((h.mq i hi).lt q e).2)
 have hvl : ∀ q, own v q → q < w.heap.size := fun q hq => (h.os.lt q hq).2
 have hs1 := k1.size
 have hlen : (ls ++ [x]).length = ls.length + 1 := by simp
 refine ⟨?_, fun i hi => ?_, fun i hi => ?_, fun i hi q hq hq' => ?_, fun i hi q hq => ?_, fun i j hi hj hne q hq => ?_⟩
 ·rw [hlen]
  have e : rowC (ls ++ [x]) (fun i => if i = ls.length then pv else pf i) (fun i => if i = ls.length then mv else mf i) (ls.length + 1) = rowC ls pf mf ls.length ++ plC x pv mv := by
   rw [rowC]
   rw [rowC_congr (ls ++ [x]) ls _ _ pf mf ls.length (fun i hi => ⟨by rw [getD_snocP, if_pos hi], if_neg (by omega), if_neg (by omega)⟩)]
   rw [getD_snocP, if_neg (by omega), if_pos rfl]
   simp
  rw [e]; exact ho
 ·rw [hlen] at hi
  rw [getD_snocP]
  by_cases e : i = ls.length
  ·subst e; simp only [if_true, if_neg (Nat.lt_irrefl _)]
   exact (hp.step k2 (fun q hq e => by have := (hp.lt q hq).1; have := hvl q e; omega)).weak hb
  ·simp only [if_neg e, if_pos (show i < ls.length by omega)]
   exact ((h.pg i (by omega)).keep k1).step k2 (fun q hq => h.far i (by omega) q (.inl hq))
 ·rw [hlen] at hi
  rw [getD_snocP]
  by_cases e : i = ls.length
  ·subst e; simp only [if_true, if_neg (Nat.lt_irrefl _)]
   exact (hm.step k2 (fun q hq e => by have := (hm.lt q hq).1; have := hvl q e; omega)).weak hb
  ·simp only [if_neg e, if_pos (show i < ls.length by omega)]
   exact ((h.mq i (by omega)).keep k1).step k2 (fun q hq => h.far i (by omega) q (.inr hq))
 ·rw [hlen] at hi
  by_cases e : i = ls.length
  ·subst e; simp only [if_true] at hq
   have := hnew q hq
   rcases hn q hq' with h1 | h1
   ·have := hvl q h1; omega
   ·omega
  ·simp only [if_neg e] at hq
   have := hold i (by omega) q hq
   rcases hn q hq' with h1 | h1
   ·exact h.far i (by omega) q hq h1
   ·omega
 ·rw [hlen] at hi
  by_cases e : i = ls.length
  ·subst e; simp only [if_true] at hq ⊢; exact ha q hq
  ·simp only [if_neg e] at hq ⊢; exact h.apart i (by omega) q hq
 ·rw [hlen] at hi hj
  by_cases e : i = ls.length
  ·subst e
   have e' : ¬ j = ls.length := fun e => hne e.symm
   simp only [if_true, if_neg e'] at hq ⊢
   intro hq'
   have := hnew q hq
   have := hold j (by omega) q hq'
   omega
  ·by_cases e' : j = ls.length
   ·subst e'
    simp only [if_true, if_neg e] at hq ⊢
    intro hq'
    have := hnew q hq'
    have := hold i (by omega) q hq
    omega
   ·simp only [if_neg e, if_neg e'] at hq ⊢
    exact h.dis i j (by omega) (by omega) hne q hq
theorem PA.cell7 {base : Nat} {w : World} {g m cap : Nat} {ls : List Pl} {pf mf : Nat → Value} (h : PA base w (.slice (some ⟨g, 0, none⟩) m cap) ls pf mf) (i : Nat) (hi : i < ls.length) : Cell7 w g (i * 7) (ls.getD i dPl) (pf i) (mf i) := by
 have hc := h.os.at.1
 rw [rowC_len] at hc
 have hr : ∀ r, r < 7 → w.cell? ⟨g, i * 7 + r, none⟩ = some ((plC (ls.getD i dPl) (pf i) (mf i)).getD r undef) := fun r hr => by rw [hc _ (by omega), rowC_get _ _ _ _ _ _ hi hr]
 exact ⟨hr 0 (by omega), hr 1 (by omega), hr 2 (by omega), hr 3 (by omega), hr 4 (by omega), hr 5 (by omega), hr 6 (by omega)⟩
theorem PA.read {base : Nat} {w : World} {v : Value} {ls : List Pl} {pf mf : Nat → Value} (h : PA base w v ls pf mf) (hn : ls.length ≤ 1048576) {A : Nat → Prop} (hA : ∀ q, FA v ls.length pf mf q → ¬ A q) : RPS A w v ls := by
 obtain ⟨a, cap, rfl, hcap, hmax, h0, hv⟩ := h.os.view
 refine ⟨a, cap, rfl, hcap, hmax, hn, pf, mf, fun i hi => ⟨(h.pg i hi).read (fun q hq => hA q (.inr ⟨i, hi, .inl hq⟩)), (h.mq i hi).read (fun q hq => hA q (.inr ⟨i, hi, .inr hq⟩))⟩, fun hne => ?_⟩
 obtain ⟨g, rfl, hg1, hg2, _⟩ := hv (by have : 0 < ls.length := List.length_pos_iff.mpr hne; omega)
 exact ⟨g, 0, rfl, hA g (.inl (own_slice.2 rfl)), hg2, fun i hi => by rw [Nat.zero_add]; exact h.cell7 i hi⟩
end Go.Proofs.YtdgcohoneijleaaGreatDoor
