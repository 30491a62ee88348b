import Derived.Test.YtdgcohoneijleaaGreatRows
import Derived.WalkKit
import Derived.WalkSpells
import Derived.WalkLawsBesides
import Derived.Lib.Hide
import Derived.BigQuiet
import Derived.Deep.QuietTactic
import Derived.Deep.RegionHeld3
import Derived.Deep.AppendLies
import Derived.StillTailTactics
import Derived.Deep.LoopGhost
import Derived.Deep.DeepCutAuto
import Derived.Deep.DeepFit
/-
  What a walk says of worlds and of slices of int: 'Chg' (which blocks may have changed), 'RI' (a slice of int that is read), 'OI' (a slice of int that the call owns).
-/













namespace Go.Proofs.YtdgcohoneijleaaGreat
open Go.RowKit

theorem ret_int {k : IntKind} {a b : Int} (h : a = b) : Ending.returned (.int k a) = .returned (.int k b) := by rw [h]
theorem ret_bool {a b : Bool} (h : a = b) : Ending.returned (.bool a) = .returned (.bool b) := by rw [h]

/-- it returns a value of which φ holds -/
def Ret (φ : Value → World → Prop) : Ending → World → Prop := fun e w' => ∃ v, e = .returned v ∧ φ v w'
def Ret2 (φ : Value → Value → World → Prop) : Ending → World → Prop := fun e w' => ∃ v0 v1, e = .returned (.tuple #[v0, v1]) ∧ φ v0 v1 w'

/-- no block -/
def No : Nat → Prop := fun _ => False
/-- the block in which a slice lies -/
def own (v : Value) : Nat → Prop := fun k => v.ownBlock = some k
def Or2 (A B : Nat → Prop) : Nat → Prop := fun k => A k ∨ B k

/-- of the blocks that were there at most those of S have changed -/
structure Chg (S : Nat → Prop) (w w' : World) : Prop where
  os : w'.os = w.os
  tape : w'.tape = w.tape
  output : w'.output = w.output
  size : w.heap.size ≤ w'.heap.size
  block : ∀ k, k < w.heap.size → ¬ S k → w'.heap[k]? = w.heap[k]?

theorem Chg.refl (S : Nat → Prop) (w : World) : Chg S w w := ⟨rfl, rfl, rfl, Nat.le_refl _, fun _ _ _ => rfl⟩
theorem Chg.mono {S T : Nat → Prop} {w w' : World} (h : Chg S w w') (hst : ∀ k, S k → k < w.heap.size → T k) : Chg T w w' :=
  ⟨h.os, h.tape, h.output, h.size, fun k hk ht => h.block k hk (fun hs => ht (hst k hs hk))⟩
theorem Chg.step {S T : Nat → Prop} {w w1 w2 : World} (h : Chg S w w1) (h2 : Chg T w1 w2) (hT : ∀ k, T k → k < w.heap.size → S k) : Chg S w w2 :=
  ⟨h2.os.trans h.os, h2.tape.trans h.tape, h2.output.trans h.output, Nat.le_trans h.size h2.size,
   fun k hk hs => (h2.block k (Nat.lt_of_lt_of_le hk h.size) (fun ht => hs (hT k ht hk))).trans (h.block k hk hs)⟩
theorem Chg.trans {S : Nat → Prop} {w w1 w2 : World} (h : Chg S w w1) (h2 : Chg S w1 w2) : Chg S w w2 := h.step h2 (fun _ hk _ => hk)
theorem Chg.keep {S : Nat → Prop} {w w1 w2 : World} (h : Chg S w w1) (h2 : Chg No w1 w2) : Chg S w w2 := h.step h2 (fun _ hk _ => hk.elim)
theorem Chg.drew {S : Nat → Prop} {w w1 : World} (h : Chg S w w1) : Chg S w w1.drew := ⟨h.os, h.tape, h.output, h.size, h.block⟩
theorem Chg.drewN {S : Nat → Prop} {w w1 : World} (h : Chg S w w1) (n : Nat) : Chg S w (w1.drewN n) :=
  ⟨h.os, h.tape, h.output, h.size, h.block⟩
theorem Chg.alloc {S : Nat → Prop} {w w1 : World} (h : Chg S w w1) (o : Obj) : Chg S w (w1.alloc o) :=
  h.keep ⟨rfl, rfl, rfl, by simp, fun k hk _ => Below.heap_alloc w1 o k hk⟩
theorem Chg.setCell {S : Nat → Prop} {w w1 : World} (h : Chg S w w1) {p : Addr} (hp : p.block < w.heap.size → S p.block) (u : Value) : Chg S w (w1.setCell p u) :=
  h.step (T := fun k => k = p.block) ⟨rfl, rfl, rfl, by simp [World.setCell], fun k _ hk => Below.heap_setCell _ _ _ _ hk⟩ (fun k hk hl => by subst hk; exact hp hl)
theorem Chg.grown {w w' : World} {v : Value} (h : w.grownBy w' v.ownBlock) : Chg (own v) w w' :=
  ⟨h.os, h.tape, h.output, h.size, fun k hk hs => h.block k hk (fun e => hs e.symm)⟩
theorem Chg.grownNone {w w' : World} (h : w.grownBy w' none) : Chg No w w' :=
  ⟨h.os, h.tape, h.output, h.size, fun k hk _ => h.block k hk (by simp)⟩
theorem Chg.below {w w' : World} (h : Chg No w w') : Below w.heap.size w w' := ⟨h.os, h.tape, h.output, h.size, fun k hk => h.block k hk (fun e => e)⟩
theorem Chg.cellD {S : Nat → Prop} {w w' : World} (h : Chg S w w') (b o : Nat) (hb : b < w.heap.size) (hs : ¬ S b) : w'.cell? ⟨b, o, none⟩ = w.cell? ⟨b, o, none⟩ := World.cell?_of_block (h.block b hb hs)
theorem Chg.frozenD {S : Nat → Prop} {w w' : World} (h : Chg S w w') (b o : Nat) (hb : b < w.heap.size) (hs : ¬ S b) : w'.frozen? ⟨b, o, none⟩ = w.frozen? ⟨b, o, none⟩ := World.frozen?_of_block (h.block b hb hs)
theorem Chg.cells {w w' : World} (h : Chg No w w') :
    (∀ b o, b < w.heap.size → w'.cell? ⟨b, o, none⟩ = w.cell? ⟨b, o, none⟩) ∧ (∀ b o, b < w.heap.size → w'.frozen? ⟨b, o, none⟩ = w.frozen? ⟨b, o, none⟩) :=
  ⟨fun b _ hb => World.cell?_of_block (h.block b hb (fun e => e)), fun b _ hb => World.frozen?_of_block (h.block b hb (fun e => e))⟩

/-- v is a slice of int that reads as l; it lies in no block of A -/
def RI (A : Nat → Prop) (w : World) (v : Value) (l : List Int) : Prop :=
  ∃ a cap, v = .slice a l.length cap ∧ l.length ≤ cap ∧ cap ≤ 9223372036854775807 ∧ l.length ≤ 17592186044416 ∧ (a = none → cap = 0) ∧
    (l ≠ [] → ∃ b off, a = some ⟨b, off, none⟩ ∧ ¬ A b ∧ b < w.heap.size ∧ ∀ i, i < l.length → w.cell? ⟨b, off + i, none⟩ = some (.int .i64 (l.getD i 0)))

theorem RI.step {A T : Nat → Prop} {w w' : World} {v : Value} {l : List Int} (h : RI A w v l) (hc : Chg T w w') (hT : ∀ k, T k → A k) : RI A w' v l := by
  obtain ⟨a, cap, rfl, h1, h2, h3, h0, h4⟩ := h
  refine ⟨a, cap, rfl, h1, h2, h3, h0, fun hl => ?_⟩
  obtain ⟨b, off, rfl, hA, hb, hcell⟩ := h4 hl
  refine ⟨b, off, rfl, hA, Nat.lt_of_lt_of_le hb hc.size, fun i hi => ?_⟩
  rw [hc.cellD b (off + i) hb (fun ht => hA (hT b ht))]
  exact hcell i hi
theorem RI.keep {A : Nat → Prop} {w w' : World} {v : Value} {l : List Int} (h : RI A w v l) (hc : Chg No w w') : RI A w' v l := h.step hc (fun _ hk => hk.elim)
theorem RI.weak {A B : Nat → Prop} {w : World} {v : Value} {l : List Int} (h : RI A w v l) (hB : ∀ k, B k → k < w.heap.size → A k) : RI B w v l := by
  obtain ⟨a, cap, rfl, h1, h2, h3, h0, h4⟩ := h
  refine ⟨a, cap, rfl, h1, h2, h3, h0, fun hl => ?_⟩
  obtain ⟨b, off, rfl, hA, hb, hcell⟩ := h4 hl
  exact ⟨b, off, rfl, fun hk => hA (hB b hk hb), hb, hcell⟩
/-- what the call makes later is not where it lies -/
theorem RI.app {A T : Nat → Prop} {w w' : World} {v v' : Value} {l : List Int} (h : RI A w v l) (hc : Chg T w w') (hT : ∀ k, T k → A k) (hn : ∀ k, own v' k → T k ∨ w.heap.size ≤ k) : RI (Or2 A (own v')) w' v l := by
  obtain ⟨a, cap, rfl, h1, h2, h3, h0, h4⟩ := h
  refine ⟨a, cap, rfl, h1, h2, h3, h0, fun hl => ?_⟩
  obtain ⟨b, off, rfl, hA, hb, hcell⟩ := h4 hl
  refine ⟨b, off, rfl, fun hk => ?_, Nat.lt_of_lt_of_le hb hc.size, fun i hi => ?_⟩
  · rcases hk with hk | hk
    · exact hA hk
    · rcases hn b hk with h | h
      · exact hA (hT b h)
      · omega
  · rw [hc.cellD b (off + i) hb (fun ht => hA (hT b ht))]
    exact hcell i hi
theorem RI.to {A B S : Nat → Prop} {w w' : World} {v : Value} {l : List Int} (h : RI A w v l) (hc : Chg S w w') (hS : ∀ q, S q → A q) (hB : ∀ q, B q → A q ∨ w.heap.size ≤ q) : RI B w' v l := by
  obtain ⟨a, cap, rfl, h1, h2, h3, h0, h4⟩ := h
  refine ⟨a, cap, rfl, h1, h2, h3, h0, fun hl => ?_⟩
  obtain ⟨b, off, rfl, hA, hb, hcell⟩ := h4 hl
  refine ⟨b, off, rfl, fun hk => ?_, Nat.lt_of_lt_of_le hb hc.size, fun i hi => ?_⟩
  · rcases hB b hk with h | h
    · exact hA h
    · omega
  · rw [hc.cellD b (off + i) hb (fun ht => hA (hS b ht))]
    exact hcell i hi
/-- one block more that it is not in -/
def And1 (A : Nat → Prop) (b : Nat) : Nat → Prop := fun k => A k ∨ k = b
theorem RI.nil (A : Nat → Prop) (w : World) : RI A w (.slice none 0 0) [] := ⟨none, 0, rfl, Nat.le_refl _, by omega, by simp, fun _ => rfl, fun h => absurd rfl h⟩
theorem RI.len {A : Nat → Prop} {w : World} {v : Value} {l : List Int} (h : RI A w v l) : l.length ≤ 17592186044416 := by
  obtain ⟨a, cap, rfl, h1, h2, h3, h4⟩ := h; exact h3
theorem RI.empty (A : Nat → Prop) (w : World) (a : Option Addr) (cap : Nat) (h : cap ≤ 9223372036854775807) (h0 : a = none → cap = 0) : RI A w (.slice a 0 cap) [] := ⟨a, cap, rfl, Nat.zero_le _, h, by simp, h0, fun h => absurd rfl h⟩

theorem getD_drop_take (l : List Int) (i j k : Nat) (h : i + k < j) : ((l.take j).drop i).getD k 0 = l.getD (i + k) 0 := by
  simp only [List.getD_eq_getElem?_getD, List.getElem?_drop, List.getElem?_take, h, if_true]

/-- v[i:j] -/
theorem RI.slice {A : Nat → Prop} {w : World} {a : Option Addr} {cap : Nat} {l : List Int} (h : RI A w (.slice a l.length cap) l) (i j : Nat) (hij : i ≤ j) (hj : j ≤ l.length) :
    RI A w (sliced a i j cap 1) ((l.take j).drop i) := by
  obtain ⟨a', cap', he, h1, h2, h3, h0, h4⟩ := h
  simp only [Value.slice.injEq, true_and] at he
  obtain ⟨rfl, rfl⟩ := he
  have hlen : ((l.take j).drop i).length = j - i := by simp; omega
  by_cases hl : (l.take j).drop i = []
  · rw [hl]
    have h00 : j - i = 0 := by rw [← hlen, hl]; rfl
    unfold sliced
    rw [h00]
    refine RI.empty A w _ _ (by omega) (fun hn => ?_)
    by_cases hci : cap = i
    · omega
    · rw [if_neg hci] at hn
      have := h0 (by simpa using hn)
      omega
  · have hpos : i < j := by
      have : ((l.take j).drop i).length ≠ 0 := fun e => hl (List.eq_nil_of_length_eq_zero e)
      omega
    obtain ⟨b, off, rfl, hA, hb, hcell⟩ := h4 (fun e => by rw [e] at hj; simp at hj; omega)
    refine ⟨some ⟨b, off + i, none⟩, cap - i, ?_, by omega, by omega, by omega, by simp, fun _ => ⟨b, off + i, rfl, hA, hb, fun k hk => ?_⟩⟩
    · have : ¬ cap = i := by omega
      rw [hlen]
      simp [sliced, this, Addr.add]
    · rw [hlen] at hk
      rw [getD_drop_take l i j k (by omega), Nat.add_assoc]
      exact hcell (i + k) (by omega)

/-- v is a slice of int that the call owns, in a block from base on -/
def OI (base : Nat) (w : World) (v : Value) (l : List Int) : Prop :=
  l.length ≤ 17592186044416 ∧ w.ownsRow base 3 1 v l.length (l.map (Value.int .i64))

theorem OI.nil (base : Nat) (w : World) : OI base w (.slice none 0 0) [] := ⟨by simp, World.ownsRow_nil _ _ _ _⟩
theorem OI.zero {base : Nat} {w : World} (hb : base ≤ w.heap.size) : OI base (w.alloc (.cells #[] 3)) (.slice (some ⟨w.heap.size, 0, none⟩) 0 0) [] :=
  ⟨by simp, World.ownsRow_made w #[] 0 hb (by unfold maxLen; omega) rfl⟩
theorem OI.zeroAt {base n : Nat} {w : World} (hn : w.heap.size = n) (hb : base ≤ n) : OI base (w.alloc (.cells #[] 3)) (.slice (some ⟨n, 0, none⟩) 0 0) [] := by
  subst hn; exact OI.zero hb
theorem OI.one {base : Nat} {w : World} {n : Int} (hb : base ≤ w.heap.size) : OI base (w.alloc (.cells #[.int .i64 n] 3)) (.slice (some ⟨w.heap.size, 0, none⟩) 1 1) [n] :=
  ⟨by simp, World.ownsRow_lit w #[.int .i64 n] 1 hb (by unfold maxLen; omega) rfl⟩
theorem OI.len {base : Nat} {w : World} {v : Value} {l : List Int} (h : OI base w v l) : l.length ≤ 17592186044416 := h.1
theorem OI.lt {base : Nat} {w : World} {v : Value} {l : List Int} (h : OI base w v l) (k : Nat) (hk : own v k) : base ≤ k ∧ k < w.heap.size := h.2.lt k hk
theorem Chg.own {S : Nat → Prop} {w0 w w' : World} {base : Nat} {v : Value} {l : List Int} (h : Chg S w0 w) (h2 : Chg (own v) w w') (ho : OI base w v l) (hb : w0.heap.size ≤ base) : Chg S w0 w' :=
  h.step h2 (fun k hk hl => by have := (ho.lt k hk).1; omega)
theorem OI.step {base : Nat} {w w' : World} {v : Value} {l : List Int} {T : Nat → Prop} (h : OI base w v l) (hc : Chg T w w') (hT : ∀ k, own v k → ¬ T k) : OI base w' v l := by
  refine ⟨h.1, h.2.1, ?_⟩
  rcases h.2.2 with hn | ⟨g, cap, cur, rfl, hb, hg, rest⟩
  · exact .inl hn
  · refine .inr ⟨g, cap, cur, rfl, hb, ?_, rest⟩
    rw [hc.block g (Array.getElem?_eq_some_iff.1 hg).1 (hT g rfl)]
    exact hg
theorem OI.keep {base : Nat} {w w' : World} {v : Value} {l : List Int} (h : OI base w v l) (hc : Chg No w w') : OI base w' v l := h.step hc (fun _ _ hk => hk)
theorem OI.alloc {base : Nat} {w : World} {v : Value} {l : List Int} (h : OI base w v l) (o : Obj) : OI base (w.alloc o) v l := h.keep ((Chg.refl No w).alloc o)
theorem OI.weak {base base' : Nat} {w : World} {v : Value} {l : List Int} (h : OI base w v l) (hb : base' ≤ base) : OI base' w v l := by
  refine ⟨h.1, h.2.1, ?_⟩
  rcases h.2.2 with hn | ⟨g, cap, cur, rfl, hb', hg, rest⟩
  · exact .inl hn
  · exact .inr ⟨g, cap, cur, rfl, Nat.le_trans hb hb', hg, rest⟩
theorem OI.read {base : Nat} {w : World} {v : Value} {l : List Int} (h : OI base w v l) {A : Nat → Prop} (hA : ∀ k, own v k → ¬ A k) : RI A w v l := by
  obtain ⟨hl, hlen, hc⟩ := h
  rcases hc with ⟨rfl, h0⟩ | ⟨g, cap, cur, rfl, hb, hg, hn, hm, hs, ht⟩
  · have : l = [] := List.eq_nil_of_length_eq_zero h0
    subst this
    exact RI.nil _ _
  · unfold maxLen at hm
    refine ⟨_, _, rfl, hn, by omega, hl, by simp, fun _ => ⟨g, 0, rfl, hA g rfl, (Array.getElem?_eq_some_iff.1 hg).1, fun i hi => ?_⟩⟩
    rw [Nat.zero_add, World.ownsRow.cellAt (xs := l.map (Value.int .i64)) (base := base) (n := l.length) (size := 1) (e := 3) ⟨hlen, .inr ⟨g, cap, cur, rfl, hb, hg, hn, hm, hs, ht⟩⟩ i (by omega)]
    simp [List.getElem?_map, List.getElem?_eq_getElem hi]
theorem OI.readNo {base : Nat} {w : World} {v : Value} {l : List Int} (h : OI base w v l) : RI No w v l := h.read (fun _ _ e => e)
theorem OI.shape {base : Nat} {w : World} {v : Value} {l : List Int} (h : OI base w v l) : ∃ a n cap, v = .slice a n cap := by
  obtain ⟨a, cap, h, _⟩ := h.readNo; exact ⟨_, _, _, h⟩
theorem RI.n {A : Nat → Prop} {w : World} {a : Option Addr} {n cap : Nat} {l : List Int} (h : RI A w (.slice a n cap) l) : n = l.length ∧ n ≤ cap ∧ cap ≤ 9223372036854775807 := by
  obtain ⟨a', cap', he, h1, h2, _⟩ := h
  simp only [Value.slice.injEq] at he
  obtain ⟨_, rfl, rfl⟩ := he
  exact ⟨rfl, h1, h2⟩
theorem RI.shape {A : Nat → Prop} {w : World} {v : Value} {l : List Int} (h : RI A w v l) : ∃ a n cap, v = .slice a n cap := by
  obtain ⟨a, cap, h, _⟩ := h; exact ⟨_, _, _, h⟩
/-- one shape for both: for reading -/
theorem OI.view {base : Nat} {w : World} {v : Value} {l : List Int} (h : OI base w v l) : ∃ a cap, v = .slice a l.length cap ∧ l.length ≤ cap ∧ cap ≤ 9223372036854775807 ∧
    (0 < cap → ∃ g, a = some ⟨g, 0, none⟩ ∧ base ≤ g ∧ g < w.heap.size ∧ (∀ i, i < l.length → w.cell? ⟨g, i, none⟩ = some (.int .i64 (l.getD i 0))) ∧ ∀ i, w.frozen? ⟨g, i, none⟩ = false) := by
  obtain ⟨hl, hlen, hc⟩ := h
  rcases hc with ⟨rfl, h0⟩ | ⟨g, cap, cur, rfl, hb, hg, hn, hm, hs, ht⟩
  · exact ⟨none, 0, by rw [h0], by omega, by omega, fun h => absurd h (by omega)⟩
  · have hO : w.ownsRow base 3 1 (.slice (some ⟨g, 0, none⟩) l.length cap) l.length (l.map (Value.int .i64)) := ⟨hlen, .inr ⟨g, cap, cur, rfl, hb, hg, hn, hm, hs, ht⟩⟩
    unfold maxLen at hm
    refine ⟨_, _, rfl, hn, by omega, fun _ => ⟨g, rfl, hb, (Array.getElem?_eq_some_iff.1 hg).1, fun i hi => ?_, fun i => hO.frozenAt i⟩⟩
    rw [hO.cellAt i (by omega)]
    simp [List.getElem?_map, List.getElem?_eq_getElem hi]

theorem und_el : Tryz.prog.underlying 25 = some (.slice (Tryz.prog.elem 25)) := by kernel_rfl
theorem run_sz {w : World} : (sizeOf (Tryz.prog.elem 25)).run Tryz.prog w = .ok 1 w := by kernel_rfl

/-- v[i:] in the walk: one value, named -/
theorem RI.from {A : Nat → Prop} {w : World} {a : Option Addr} {cap : Nat} {l : List Int} (h : RI A w (.slice a l.length cap) l) (i : Nat) (z : Int) (hz : z = (i : Int)) (hi : i ≤ l.length) :
    ∃ x, (∀ w' : World, (Instr.slice 25 (.slice a l.length cap) (some (.int .i64 z)) none none).run Tryz.prog w' = .ok x w') ∧ RI A w x (l.drop i) := by
  subst hz
  refine ⟨sliced a i l.length cap 1, fun w' => ?_, by simpa using h.slice i l.length hi (Nat.le_refl _)⟩
  rw [run_slice_l w' 25 a l.length cap und_el .i64 i (by omega) (by omega), run_sz]
  simp [Result.andThen]
theorem OI.at {base : Nat} {w : World} {g n cap : Nat} {l : List Int} (h : OI base w (.slice (some ⟨g, 0, none⟩) n cap) l) :
    (∀ i, i < l.length → w.cell? ⟨g, i, none⟩ = some (.int .i64 (l.getD i 0))) ∧ (∀ i, w.frozen? ⟨g, i, none⟩ = false) ∧ base ≤ g ∧ g < w.heap.size ∧ n = l.length ∧ n ≤ cap ∧ cap ≤ 9223372036854775807 := by
  obtain ⟨a, cap', he, h1, h2, h3⟩ := h.view
  have hb := h.lt g (by simp [own, Value.ownBlock])
  simp only [Value.slice.injEq] at he
  obtain ⟨rfl, rfl, rfl⟩ := he
  by_cases hc : 0 < cap
  · obtain ⟨g', he, h4, h5, h6, h7⟩ := h3 hc
    simp only [Option.some.injEq, Addr.mk.injEq, and_true] at he
    subst he
    exact ⟨h6, h7, hb.1, hb.2, rfl, h1, h2⟩
  · refine ⟨fun i hi => by omega, fun i => h.2.frozenAt i, hb.1, hb.2, rfl, h1, h2⟩
theorem Tryz.infoInt : (Tryz.prog.info? 3).map (fun i => (i.zero, i.size, i.bytes)) = some (some (.int .i64 0), 1, 8) := by kernel_rfl

theorem own_slice {g n c k : Nat} : own (.slice (some ⟨g, 0, none⟩) n c) k ↔ k = g := by simp [own, Value.ownBlock, eq_comm]

/-- append(s, x...) -/
theorem run_app {w : World} (ty : TypeId) {base : Nat} {v xv : Value} {l m : List Int} (hown : OI base w v l) (hx : RI No w xv m) (hl : l.length + m.length ≤ 17592186044416) (hbase : base ≤ w.heap.size) :
    ∃ v' w', (Builtin.append_ #[25, 25] ty #[v, xv]).run Tryz.prog w = .ok v' w' ∧ OI base w' v' (l ++ m) ∧ Chg (own v) w w' ∧ (∀ k, own v' k → own v k ∨ w.heap.size ≤ k) := by
  obtain ⟨i0, hi, hz0, hz1, hz2⟩ := info_parts Tryz.infoInt
  obtain ⟨ao, c, rfl, hx1, hx2, hx3, hx0, hx4⟩ := hx
  cases ao with
  | none =>
    have hc0 := hx0 rfl
    subst hc0
    have hm0 : m = [] := List.eq_nil_of_length_eq_zero (by omega)
    subst hm0
    refine ⟨v, w, run_append_owned_none (P := Tryz.prog) w base 25 ty 3 i0 1 Tryz.underlying25 hi _ _ _ hown.2, by simpa using hown, Chg.refl _ _, fun k hk => .inl hk⟩
  | some ad =>
    have hnews : ∀ j u, (m.map (Value.int .i64))[j]? = some u → w.cell? (ad.add j) = some u := by
      intro j u hj
      have hjl : j < m.length := by simpa using (List.getElem?_eq_some_iff.1 hj).1
      obtain ⟨b, off, he, _, _, hcell⟩ := hx4 (fun e => by rw [e] at hjl; simp at hjl)
      obtain rfl := Option.some.inj he
      rw [Addr.add_lit, hcell j hjl]
      simpa [List.getElem?_map, List.getElem?_eq_getElem hjl] using hj
    have h1 : ∀ u ∈ m.map (Value.int .i64), u.oneCell' = true := ints_oneCell .i64 m
    obtain ⟨v', w', hr, ho, hg, _⟩ := run_append_own (P := Tryz.prog) w base 25 ty 3 i0 (.int .i64 0) 1 8 Tryz.underlying25 hi hz0 hz1 hz2 rfl (by decide) v l.length _ hown.2 ad m.length c (m.map (Value.int .i64)) (by simp) hnews h1 (by unfold maxLen; omega) (by omega) hbase
    refine ⟨v', w', hr, ⟨by simp; omega, by simpa using ho⟩, Chg.grown hg, fun k hk => ?_⟩
    rcases hown.2.2 with ⟨rfl, h0⟩ | ⟨g, cap, cur, rfl, hbg, hgg, hnc, hcm, hcs, htake⟩
    · have hl0 : l = [] := List.eq_nil_of_length_eq_zero h0
      subst hl0
      obtain ⟨v2, w2, hr2, ho2, _, _⟩ := run_append_own (P := Tryz.prog) w w.heap.size 25 ty 3 i0 (.int .i64 0) 1 8 Tryz.underlying25 hi hz0 hz1 hz2 rfl (by decide) _ 0 _ (World.ownsRow_nil _ _ _ _) ad m.length c (m.map (Value.int .i64)) (by simp) hnews h1 (by unfold maxLen; omega) (by omega) (Nat.le_refl _)
      rw [hr] at hr2
      simp only [Result.ok.injEq] at hr2
      obtain ⟨rfl, rfl⟩ := hr2
      exact .inr (ho2.lt k hk).1
    · by_cases hroom : l.length + m.length ≤ cap
      · obtain ⟨w2, hr2, _, _⟩ := run_append_fits (P := Tryz.prog) w base 25 ty 3 i0 1 Tryz.underlying25 hi hz1 g l.length cap _ hown.2 ad m.length c (m.map (Value.int .i64)) (by simp) hnews h1 hroom
        rw [hr] at hr2
        simp only [Result.ok.injEq] at hr2
        obtain ⟨rfl, rfl⟩ := hr2
        exact .inl (by rw [own_slice] at hk ⊢; exact hk)
      · have hr2 := run_append_grow (P := Tryz.prog) w 25 ty 3 i0 (.int .i64 0) Tryz.underlying25 hi hz0 ⟨g, 0, none⟩ l.length cap (l.map (Value.int .i64)) (by simp [hz1])
          (hown.2.cells (g := g) rfl) ad m.length c (m.map (Value.int .i64)) (by simp [hz1]) hnews (by omega) (by omega) (by rw [hz2]; exact growslice_fits (by omega) (by omega))
        rw [hr] at hr2
        simp only [Result.ok.injEq] at hr2
        obtain ⟨rfl, rfl⟩ := hr2
        rw [own_slice] at hk
        exact .inr (by omega)

theorem wapp {ops : Array Oper} {rest : List Oper} {o : Oper} {a : Act} {Q : Exit → Act → World → Prop} {w : World} (hgd : o.guard = none) (s x : Operand)
    (ho : o.op = .call { callee := .builtin .append, args := #[s, x], argTypes := #[25, 25] })
    {base : Nat} {v xv : Value} {l m : List Int} (hown : OI base w v l) (hxr : RI No w xv m) (hs : a.eval s = v) (hx : a.eval x = xv) (hl : l.length + m.length ≤ 17592186044416) (hbase : base ≤ w.heap.size)
    (h : ∀ v' w', OI base w' v' (l ++ m) → Chg (own v) w w' → (∀ k, own v' k → own v k ∨ w.heap.size ≤ k) → wpList Tryz.prog ops Q rest (a.put o.dst v') w') : wpList Tryz.prog ops Q (o :: rest) a w := by
  obtain ⟨v', w', hr, h1, h2, h3⟩ := run_app o.type hown hxr hl hbase
  refine wpList_plain hgd fun _ hK => ?_
  unfold Oper.wp execOp
  simp only [ho, resolve, invoke, builtin, Sem.run_bind, Sem.run_pure, Result.andThen_ok, List.map_toArray, List.map_cons, List.map_nil, hs, hx, hr]
  exact hK _ _ (h v' w' h1 h2 h3)

theorem RI.one {A : Nat → Prop} {w : World} {g c : Nat} {n : Int} (hc : w.cell? ⟨g, 0, none⟩ = some (.int .i64 n)) (h1 : 1 ≤ c) (h2 : c ≤ 9223372036854775807) (hA : ¬ A g) : RI A w (.slice (some ⟨g, 0, none⟩) 1 c) [n] :=
  ⟨_, _, rfl, h1, h2, by simp, by simp, fun _ => ⟨g, 0, rfl, hA, World.block_lt_of_cell? w _ hc, fun i hi => by
    have : i = 0 := by simpa using hi
    subst this; simpa using hc⟩⟩

/-- append(s, n): 's' as it stood ahead of the new block that holds n -/
theorem wapp1 {ops : Array Oper} {rest : List Oper} {o : Oper} {a : Act} {Q : Exit → Act → World → Prop} {w : World} (hgd : o.guard = none) (s x : Operand)
    (ho : o.op = .call { callee := .builtin .append, args := #[s, x], argTypes := #[25, 25] })
    {base : Nat} {v : Value} {l : List Int} {n : Int} {e : TypeId} (hown : OI base w v l) (hs : a.eval s = v) (hx : a.eval x = .slice (some ⟨w.heap.size, 0, none⟩) 1 1)
    (hl : l.length < 17592186044416) (hbase : base ≤ w.heap.size)
    (h : ∀ v' w', OI base w' v' (l ++ [n]) → Chg (own v) w w' → (∀ k, own v' k → own v k ∨ w.heap.size ≤ k) → wpList Tryz.prog ops Q rest (a.put o.dst v') w') :
    wpList Tryz.prog ops Q (o :: rest) a (w.alloc (.cells #[.int .i64 n] e)) := by
  refine wapp hgd s x ho (hown.alloc _) (RI.one (n := n) (by rw [World.cell?_alloc_new]; rfl) (Nat.le_refl _) (by omega) (fun e => e)) hs hx (by simp; omega) (by simp; omega) (fun v' w' h1 h2 h3 => ?_)
  refine h v' w' h1 (((Chg.refl (own v) w).alloc _).trans h2) (fun k hk => ?_) |> fun x => x
  rcases h3 k hk with h | h
  · exact .inl h
  · simp at h
    exact .inr (by omega)

/-- make([]int, n) -/
theorem wmake {ops : Array Oper} {rest : List Oper} {o : Oper} {a : Act} {Q : Exit → Act → World → Prop} {w : World} (hgd : o.guard = none) (x y : Operand)
    (ho : o.op = Op.makeSlice 25 x y) (n : Nat) (hx : a.eval x = .int .i64 (n : Int)) (hy : a.eval y = .int .i64 (n : Int)) (hn : n ≤ 17592186044416)
    (h : ∀ w', OI w.heap.size w' (.slice (some ⟨w.heap.size, 0, none⟩) n n) (List.replicate n 0) → Chg No w w' → wpList Tryz.prog ops Q rest (a.put o.dst (.slice (some ⟨w.heap.size, 0, none⟩) n n)) w') : wpList Tryz.prog ops Q (o :: rest) a w := by
  obtain ⟨i0, hi, hz0, hz1, hz2⟩ := info_parts Tryz.infoInt
  refine wpList_make_full w hgd x y 25 ho w.heap.size 3 i0 (.int .i64 0) 1 Tryz.underlying25 hi hz0 hz1 .i64 .i64 n n n hx hy rfl rfl (by rw [hz2]; omega) (by unfold maxLen; omega) (Nat.le_refl _) (fun w' h1 h2 => ?_)
  refine h w' ⟨by simpa using hn, ?_⟩ (Chg.grownNone h2)
  have e : (madeCells (Value.int IntKind.i64 0).cells (n * 1)).toList = (List.replicate n (0 : Int)).map (Value.int .i64) := by
    rw [Nat.mul_one, List.map_replicate]
    exact toList_madeCells_one _ _
  rw [e] at h1
  simpa using h1

/-- v[i] = x -/
theorem OI.store {base : Nat} {w : World} {g n cap : Nat} {l : List Int} (h : OI base w (.slice (some ⟨g, 0, none⟩) n cap) l) (i : Nat) (x : Int) :
    OI base (w.setCell ⟨g, i, none⟩ (.int .i64 x)) (.slice (some ⟨g, 0, none⟩) n cap) (l.set i x) ∧ Chg (fun k => k = g) w (w.setCell ⟨g, i, none⟩ (.int .i64 x)) := by
  obtain ⟨_, _, _, _, rfl, _⟩ := h.at
  obtain ⟨h1, h2⟩ := h.2.stored i (.int .i64 x)
  refine ⟨⟨by simpa using h.1, ?_⟩, ⟨h2.os, h2.tape, h2.output, h2.size, fun k hk hs => h2.block k hk (fun e => hs (Option.some.inj e))⟩⟩
  rw [List.length_set, List.map_set]
  exact h1

end Go.Proofs.YtdgcohoneijleaaGreat
