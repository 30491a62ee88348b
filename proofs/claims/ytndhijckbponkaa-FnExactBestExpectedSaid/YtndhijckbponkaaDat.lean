import Derived.Test.YtndhijckbponkaaS
import Derived.Deep.Matrix
/- slices of any cells, read ('RF') and owned ('OS'); slices of slices of int, read ('RII') and owned ('OII') -/
namespace Go.Proofs.Ytndhijckbponkaa
open Go.RowKit

/-- v is a slice of n elements of sz cells each; its cells are cs; it lies in no block of A -/
def RF (A : Nat → Prop) (w : World) (v : Value) (sz n : Nat) (cs : List Value) : Prop :=
  ∃ a cap, v = .slice a n cap ∧ n ≤ cap ∧ cap ≤ 9223372036854775807 ∧ cs.length = n * sz ∧ (a = none → cap = 0) ∧
    (0 < n → ∃ b off, a = some ⟨b, off, none⟩ ∧ ¬ A b ∧ b < w.heap.size ∧ ∀ i, i < cs.length → w.cell? ⟨b, off + i, none⟩ = some (cs.getD i undef))
theorem RF.step {A T : Nat → Prop} {w w' : World} {v : Value} {sz n : Nat} {cs : List Value} (h : RF A w v sz n cs) (hc : Chg T w w') (hT : ∀ k, T k → A k) : RF A w' v sz n cs := by
  obtain ⟨a, cap, rfl, h1, h2, h3, h0, h4⟩ := h
  refine ⟨a, cap, rfl, h1, h2, h3, h0, fun hl => ?_⟩
  obtain ⟨b, off, rfl, hA, hb, hcell⟩ := h4 hl
  exact ⟨b, off, rfl, hA, Nat.lt_of_lt_of_le hb hc.size, fun i hi => (hc.cellD b (off + i) hb (fun ht => hA (hT b ht))).trans (hcell i hi)⟩
theorem RF.keep {A : Nat → Prop} {w w' : World} {v : Value} {sz n : Nat} {cs : List Value} (h : RF A w v sz n cs) (hc : Chg No w w') : RF A w' v sz n cs := h.step hc (fun _ hk => hk.elim)
theorem RF.weak {A B : Nat → Prop} {w : World} {v : Value} {sz n : Nat} {cs : List Value} (h : RF A w v sz n cs) (hB : ∀ k, B k → k < w.heap.size → A k) : RF B w v sz n cs := by
  obtain ⟨a, cap, rfl, h1, h2, h3, h0, h4⟩ := h
  refine ⟨a, cap, rfl, h1, h2, h3, h0, fun hl => ?_⟩
  obtain ⟨b, off, rfl, hA, hb, hcell⟩ := h4 hl
  exact ⟨b, off, rfl, fun hk => hA (hB b hk hb), hb, hcell⟩
theorem RF.shape {A : Nat → Prop} {w : World} {v : Value} {sz n : Nat} {cs : List Value} (h : RF A w v sz n cs) : ∃ a cap, v = .slice a n cap := by
  obtain ⟨a, cap, h, _⟩ := h; exact ⟨_, _, h⟩
theorem RF.cellN {A : Nat → Prop} {w : World} {a : Option Addr} {m cap sz n : Nat} {cs : List Value} (h : RF A w (.slice a m cap) sz n cs) (hn : 0 < n) :
    ∃ b off, a = some ⟨b, off, none⟩ ∧ ¬ A b ∧ b < w.heap.size ∧ ∀ i, i < cs.length → w.cell? ⟨b, off + i, none⟩ = some (cs.getD i undef) := by
  obtain ⟨a', cap', he, _, _, _, _, hc⟩ := h
  simp only [Value.slice.injEq] at he
  obtain ⟨rfl, rfl, rfl⟩ := he
  exact hc hn
/-- a slice of ints with no bound on its length -/
theorem RI.ofRF {A : Nat → Prop} {w : World} {v : Value} {l : List Int} (h : RF A w v 1 l.length (l.map (Value.int .i64))) (hl : l.length ≤ 17592186044416) : RI A w v l := by
  obtain ⟨a, cap, rfl, h1, h2, h3, h0, h4⟩ := h
  refine ⟨a, cap, rfl, h1, h2, hl, h0, fun hne => ?_⟩
  obtain ⟨b, off, rfl, hA, hb, hcell⟩ := h4 (by rcases l with _ | ⟨x, l⟩ <;> simp_all)
  refine ⟨b, off, rfl, hA, hb, fun i hi => ?_⟩
  rw [hcell i (by simpa using hi)]
  simp [List.getD_eq_getElem?_getD, hi]

/-- what is known of a slice's type and of its elements' -/
structure El (T E : TypeId) (z : Value) (sz bytes : Nat) : Prop where
  und : Try.prog.underlying T = some (.slice E)
  info : ∃ i, Try.prog.info? E = some i ∧ i.zero = some z ∧ i.size = sz ∧ i.bytes = bytes
  zs : z.cells.size = sz
  pos : 0 < sz
theorem El.mk' {T E : TypeId} {z : Value} {sz bytes : Nat} (h1 : Try.prog.underlying T = some (.slice E)) (h2 : (Try.prog.info? E).map (fun i => (i.zero, i.size, i.bytes)) = some (some z, sz, bytes)) (h3 : z.cells.size = sz) (h4 : 0 < sz) : El T E z sz bytes := by
  obtain ⟨i0, hi, hz0, hz1, hz2⟩ := info_parts h2
  exact ⟨h1, ⟨i0, hi, hz0, hz1, hz2⟩, h3, h4⟩

/-- v is a slice of n elements that the call owns, in a block from base on -/
def OS (E : TypeId) (sz base : Nat) (w : World) (v : Value) (n : Nat) (cs : List Value) : Prop := n ≤ 1099511627776 ∧ w.ownsRow base E sz v n cs
theorem OS.nil (E : TypeId) (sz base : Nat) (w : World) : OS E sz base w (.slice none 0 0) 0 [] := ⟨by simp, World.ownsRow_nil _ _ _ _⟩
theorem OS.zero {E : TypeId} {sz base : Nat} {w : World} (hb : base ≤ w.heap.size) : OS E sz base (w.alloc (.cells #[] E)) (.slice (some ⟨w.heap.size, 0, none⟩) 0 0) 0 [] :=
  ⟨by simp, World.ownsRow_made w #[] 0 hb (by unfold maxLen; omega) (by simp)⟩
theorem OS.len {E : TypeId} {sz base : Nat} {w : World} {v : Value} {n : Nat} {cs : List Value} (h : OS E sz base w v n cs) : n ≤ 1099511627776 := h.1
theorem OS.cl {E : TypeId} {sz base : Nat} {w : World} {v : Value} {n : Nat} {cs : List Value} (h : OS E sz base w v n cs) : cs.length = n * sz := h.2.1
theorem OS.lt {E : TypeId} {sz base : Nat} {w : World} {v : Value} {n : Nat} {cs : List Value} (h : OS E sz base w v n cs) (k : Nat) (hk : own v k) : base ≤ k ∧ k < w.heap.size := h.2.lt k hk
theorem OS.step {E : TypeId} {sz base : Nat} {w w' : World} {v : Value} {n : Nat} {cs : List Value} {T : Nat → Prop} (h : OS E sz base w v n cs) (hc : Chg T w w') (hT : ∀ k, own v k → ¬ T k) : OS E sz base w' v n cs := by
  refine ⟨h.1, h.2.1, ?_⟩
  rcases h.2.2 with hn | ⟨g, cap, cur, rfl, hb, hg, rest⟩
  · exact .inl hn
  · refine .inr ⟨g, cap, cur, rfl, hb, ?_, rest⟩
    rw [hc.block g (Array.getElem?_eq_some_iff.1 hg).1 (hT g rfl)]
    exact hg
theorem OS.keep {E : TypeId} {sz base : Nat} {w w' : World} {v : Value} {n : Nat} {cs : List Value} (h : OS E sz base w v n cs) (hc : Chg No w w') : OS E sz base w' v n cs := h.step hc (fun _ _ hk => hk)
theorem OS.alloc {E : TypeId} {sz base : Nat} {w : World} {v : Value} {n : Nat} {cs : List Value} (h : OS E sz base w v n cs) (o : Obj) : OS E sz base (w.alloc o) v n cs := h.keep ((Chg.refl No w).alloc o)
theorem OS.weak {E : TypeId} {sz base base' : Nat} {w : World} {v : Value} {n : Nat} {cs : List Value} (h : OS E sz base w v n cs) (hb : base' ≤ base) : OS E sz base' w v n cs := by
  refine ⟨h.1, h.2.1, ?_⟩
  rcases h.2.2 with hn | ⟨g, cap, cur, rfl, hb', hg, rest⟩
  · exact .inl hn
  · exact .inr ⟨g, cap, cur, rfl, Nat.le_trans hb hb', hg, rest⟩
theorem OS.view {E : TypeId} {sz base : Nat} {w : World} {v : Value} {n : Nat} {cs : List Value} (h : OS E sz base w v n cs) : ∃ a cap, v = .slice a n cap ∧ n ≤ cap ∧ cap ≤ 9223372036854775807 ∧ (a = none → cap = 0) ∧
    (0 < cap → ∃ g, a = some ⟨g, 0, none⟩ ∧ base ≤ g ∧ g < w.heap.size ∧ (∀ i, i < cs.length → w.cell? ⟨g, i, none⟩ = some (cs.getD i undef)) ∧ ∀ i, w.frozen? ⟨g, i, none⟩ = false) := by
  obtain ⟨hl, hlen, hc⟩ := h
  rcases hc with ⟨rfl, h0⟩ | ⟨g, cap, cur, rfl, hb, hg, hn, hm, hs, ht⟩
  · exact ⟨none, 0, by rw [h0], by omega, by omega, fun _ => rfl, fun h => absurd h (by omega)⟩
  · have hO : w.ownsRow base E sz (.slice (some ⟨g, 0, none⟩) n cap) n cs := ⟨hlen, .inr ⟨g, cap, cur, rfl, hb, hg, hn, hm, hs, ht⟩⟩
    unfold maxLen at hm
    refine ⟨_, _, rfl, hn, by omega, by simp, fun _ => ⟨g, rfl, hb, (Array.getElem?_eq_some_iff.1 hg).1, fun i hi => ?_, fun i => hO.frozenAt i⟩⟩
    rw [hO.cellAt i (by omega)]
    simp [List.getD_eq_getElem?_getD, List.getElem?_eq_getElem hi]
theorem OS.read {E : TypeId} {sz base : Nat} {w : World} {v : Value} {n : Nat} {cs : List Value} (h : OS E sz base w v n cs) {A : Nat → Prop} (hA : ∀ k, own v k → ¬ A k) : RF A w v sz n cs := by
  have hcl := h.cl
  obtain ⟨a, cap, rfl, h1, h2, h3, h4⟩ := h.view
  refine ⟨a, cap, rfl, h1, h2, hcl, h3, fun hn => ?_⟩
  obtain ⟨g, rfl, _, hg, hc, _⟩ := h4 (by omega)
  exact ⟨g, 0, rfl, hA g rfl, hg, fun i hi => by rw [Nat.zero_add]; exact hc i hi⟩
theorem OS.readNo {E : TypeId} {sz base : Nat} {w : World} {v : Value} {n : Nat} {cs : List Value} (h : OS E sz base w v n cs) : RF No w v sz n cs := h.read (fun _ _ e => e)
theorem OS.at {E : TypeId} {sz base : Nat} {w : World} {g m cap n : Nat} {cs : List Value} (h : OS E sz base w (.slice (some ⟨g, 0, none⟩) m cap) n cs) :
    (∀ i, i < cs.length → w.cell? ⟨g, i, none⟩ = some (cs.getD i undef)) ∧ (∀ i, w.frozen? ⟨g, i, none⟩ = false) ∧ base ≤ g ∧ g < w.heap.size ∧ m = n ∧ n ≤ cap ∧ cap ≤ 9223372036854775807 := by
  have hb := h.lt g (by simp [own, Value.ownBlock])
  obtain ⟨hl, hlen, hc⟩ := h
  rcases hc with ⟨he, _⟩ | ⟨g', cap', cur, he, hb', hg, hn, hm, hs, ht⟩
  · simp at he
  · simp only [Value.slice.injEq, Option.some.injEq, Addr.mk.injEq, and_true] at he
    obtain ⟨rfl, rfl, rfl⟩ := he
    have hO : w.ownsRow base E sz (.slice (some ⟨g, 0, none⟩) m cap) m cs := ⟨hlen, .inr ⟨g, cap, cur, rfl, hb', hg, hn, hm, hs, ht⟩⟩
    unfold maxLen at hm
    refine ⟨fun i hi => ?_, fun i => hO.frozenAt i, hb.1, hb.2, rfl, hn, by omega⟩
    rw [hO.cellAt i (by omega)]
    simp [List.getD_eq_getElem?_getD, List.getElem?_eq_getElem hi]
theorem OS.store {E : TypeId} {sz base : Nat} {w : World} {g m cap n : Nat} {cs : List Value} (h : OS E sz base w (.slice (some ⟨g, 0, none⟩) m cap) n cs) (i : Nat) (x : Value) :
    OS E sz base (w.setCell ⟨g, i, none⟩ x) (.slice (some ⟨g, 0, none⟩) m cap) n (cs.set i x) ∧ Chg (fun k => k = g) w (w.setCell ⟨g, i, none⟩ x) := by
  obtain ⟨_, _, _, _, rfl, _⟩ := h.at
  obtain ⟨h1, h2⟩ := h.2.stored i x
  exact ⟨⟨h.1, h1⟩, ⟨h2.os, h2.tape, h2.output, h2.size, fun k hk hs => h2.block k hk (fun e => hs (Option.some.inj e))⟩⟩
theorem elInts : El 22 25 (.slice none 0 0) 1 24 := El.mk' Try.underlying22 (by kernel_rfl) rfl (by omega)

/-- v is a slice of slices of int that reads as ll; nothing of it lies in a block of A -/
def RII (A : Nat → Prop) (w : World) (v : Value) (ll : List (List Int)) : Prop :=
  ll.length ≤ 1099511627776 ∧ ∃ vs, vs.length = ll.length ∧ RF A w v 1 ll.length vs ∧ ∀ i, i < ll.length → RI A w (vs.getD i undef) (ll.getD i [])
theorem RII.step {A T : Nat → Prop} {w w' : World} {v : Value} {ll : List (List Int)} (h : RII A w v ll) (hc : Chg T w w') (hT : ∀ k, T k → A k) : RII A w' v ll := by
  obtain ⟨h0, vs, h1, h2, h3⟩ := h
  exact ⟨h0, vs, h1, h2.step hc hT, fun i hi => (h3 i hi).step hc hT⟩
theorem RII.keep {A : Nat → Prop} {w w' : World} {v : Value} {ll : List (List Int)} (h : RII A w v ll) (hc : Chg No w w') : RII A w' v ll := h.step hc (fun _ hk => hk.elim)
theorem RII.weak {A B : Nat → Prop} {w : World} {v : Value} {ll : List (List Int)} (h : RII A w v ll) (hB : ∀ k, B k → k < w.heap.size → A k) : RII B w v ll := by
  obtain ⟨h0, vs, h1, h2, h3⟩ := h
  exact ⟨h0, vs, h1, h2.weak hB, fun i hi => (h3 i hi).weak hB⟩
theorem RII.len {A : Nat → Prop} {w : World} {v : Value} {ll : List (List Int)} (h : RII A w v ll) : ll.length ≤ 1099511627776 := h.1
/-- its value, and the cell of each of its slices -/
theorem RII.view {A : Nat → Prop} {w : World} {v : Value} {ll : List (List Int)} (h : RII A w v ll) : ∃ a cap, v = .slice a ll.length cap ∧ ll.length ≤ cap ∧ cap ≤ 9223372036854775807 ∧
    ∀ i, i < ll.length → ∃ b off x, a = some ⟨b, off, none⟩ ∧ ¬ A b ∧ b < w.heap.size ∧ w.cell? ⟨b, off + i, none⟩ = some x ∧ RI A w x (ll.getD i []) := by
  obtain ⟨h0, vs, h1, ⟨a, cap, rfl, h4, h5, h6, h7, h8⟩, h3⟩ := h
  refine ⟨a, cap, rfl, h4, h5, fun i hi => ?_⟩
  obtain ⟨b, off, rfl, hA, hb, hc⟩ := h8 (by omega)
  exact ⟨b, off, _, rfl, hA, hb, hc i (by omega), h3 i hi⟩
theorem RII.nil (A : Nat → Prop) (w : World) : RII A w (.slice none 0 0) [] := ⟨by simp, [], rfl, ⟨none, 0, rfl, Nat.le_refl _, by omega, rfl, fun _ => rfl, fun h => absurd h (by simp)⟩, fun i hi => by simp at hi⟩

/-- v is a slice of slices of int that the call owns, each of them too; its blocks are those of F -/
def OII (base : Nat) (w : World) (v : Value) (ll : List (List Int)) (F : Nat → Prop) : Prop :=
  ∃ vs, vs.length = ll.length ∧ OS 25 1 base w v ll.length vs ∧ (∀ i, i < ll.length → OI base w (vs.getD i undef) (ll.getD i [])) ∧
    (∀ i, i < ll.length → ∀ q, own v q → ¬ own (vs.getD i undef) q) ∧ (∀ i j, i < j → j < ll.length → ∀ q, own (vs.getD i undef) q → ¬ own (vs.getD j undef) q) ∧
    ∀ q, F q ↔ own v q ∨ ∃ i, i < ll.length ∧ own (vs.getD i undef) q
theorem OII.lt {base : Nat} {w : World} {v : Value} {ll : List (List Int)} {F : Nat → Prop} (h : OII base w v ll F) (q : Nat) (hq : F q) : base ≤ q ∧ q < w.heap.size := by
  obtain ⟨vs, h1, h2, h3, h4, h5, h6⟩ := h
  rcases (h6 q).1 hq with h | ⟨i, hi, h⟩
  · exact h2.lt q h
  · exact (h3 i hi).lt q h
theorem OII.step {base : Nat} {w w' : World} {v : Value} {ll : List (List Int)} {F T : Nat → Prop} (h : OII base w v ll F) (hc : Chg T w w') (hT : ∀ q, F q → ¬ T q) : OII base w' v ll F := by
  obtain ⟨vs, h1, h2, h3, h4, h5, h6⟩ := h
  exact ⟨vs, h1, h2.step hc (fun q hq => hT q ((h6 q).2 (.inl hq))), fun i hi => (h3 i hi).step hc (fun q hq => hT q ((h6 q).2 (.inr ⟨i, hi, hq⟩))), h4, h5, h6⟩
theorem OII.keep {base : Nat} {w w' : World} {v : Value} {ll : List (List Int)} {F : Nat → Prop} (h : OII base w v ll F) (hc : Chg No w w') : OII base w' v ll F := h.step hc (fun _ _ e => e)
theorem OII.weak {base base' : Nat} {w : World} {v : Value} {ll : List (List Int)} {F : Nat → Prop} (h : OII base w v ll F) (hb : base' ≤ base) : OII base' w v ll F := by
  obtain ⟨vs, h1, h2, h3, h4, h5, h6⟩ := h
  exact ⟨vs, h1, h2.weak hb, fun i hi => (h3 i hi).weak hb, h4, h5, h6⟩
theorem OII.len {base : Nat} {w : World} {v : Value} {ll : List (List Int)} {F : Nat → Prop} (h : OII base w v ll F) : ll.length ≤ 1099511627776 := by
  obtain ⟨vs, h1, h2, _⟩ := h; exact h2.1
theorem OII.read {base : Nat} {w : World} {v : Value} {ll : List (List Int)} {F A : Nat → Prop} (h : OII base w v ll F) (hA : ∀ q, F q → ¬ A q) : RII A w v ll := by
  obtain ⟨vs, h1, h2, h3, h4, h5, h6⟩ := h
  exact ⟨h2.1, vs, h1, h2.read (fun q hq => hA q ((h6 q).2 (.inl hq))), fun i hi => (h3 i hi).read (fun q hq => hA q ((h6 q).2 (.inr ⟨i, hi, hq⟩)))⟩
theorem OII.readNo {base : Nat} {w : World} {v : Value} {ll : List (List Int)} {F : Nat → Prop} (h : OII base w v ll F) : RII No w v ll := h.read (fun _ _ e => e)
theorem OII.nil (base : Nat) (w : World) : OII base w (.slice none 0 0) [] No :=
  ⟨[], rfl, OS.nil _ _ _ _, fun i hi => by simp at hi, fun i hi => by simp at hi, fun i j _ hj => by simp at hj, fun q => ⟨fun e => e.elim, fun e => by rcases e with e | ⟨i, hi, _⟩ <;> simp_all [own, Value.ownBlock]⟩⟩
theorem OII.zero {base : Nat} {w : World} (hb : base ≤ w.heap.size) : OII base (w.alloc (.cells #[] 25)) (.slice (some ⟨w.heap.size, 0, none⟩) 0 0) [] (fun q => q = w.heap.size) :=
  ⟨[], rfl, OS.zero hb, fun i hi => by simp at hi, fun i hi => by simp at hi, fun i j _ hj => by simp at hj, fun q => ⟨fun e => .inl (own_slice.2 e), fun e => by
    rcases e with e | ⟨i, hi, _⟩
    · exact own_slice.1 e
    · simp at hi⟩⟩
theorem getD_snoc_lt {α : Type} (l : List α) (x d : α) {i : Nat} (h : i < l.length) : (l ++ [x]).getD i d = l.getD i d := by
  simp [List.getD_eq_getElem?_getD, List.getElem?_append_left h]
theorem getD_snoc_eq {α : Type} (l : List α) (x d : α) : (l ++ [x]).getD l.length d = x := by
  simp [List.getD_eq_getElem?_getD]
end Go.Proofs.Ytndhijckbponkaa
