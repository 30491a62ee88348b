import Derived.Test.YtndhijckbponkaaQl
/- Chances that grow in a box (for FnIndependent) -/
namespace Go.Proofs.Ytndhijckbponkaa
open Go.RowKit

theorem OI.two {base : Nat} {w : World} {a b : Int} (hb : base ≤ w.heap.size) : OI base (w.alloc (.cells #[.int .i64 a, .int .i64 b] 3)) (.slice (some ⟨w.heap.size, 0, none⟩) 2 2) [a, b] :=
  ⟨by simp, World.ownsRow_lit w #[.int .i64 a, .int .i64 b] 2 hb (by unfold maxLen; omega) rfl⟩
/-- append(s, number), the world's size named -/
theorem wapp1z {ops : Array Oper} {rest : List Oper} {o : Oper} {a : Act} {Q : Exit → Act → World → Prop} {w : World} {z : Nat} (hz : w.heap.size = z) (hgd : o.guard = none) (s x : Operand)
    (ho : o.op = .call { callee := .builtin .append, args := #[s, x], argTypes := #[25, 25] })
    {base : Nat} {v : Value} {l : List Int} {n : Int} {e : TypeId} (hown : OI base w v l) (hs : a.eval s = v) (hx : a.eval x = .slice (some ⟨z, 0, none⟩) 1 1)
    (hl : l.length < 17592186044416) (hbase : base ≤ z)
    (h : ∀ v' w', OI base w' v' (l ++ [n]) → Chg (own v) w w' → (∀ k, own v' k → own v k ∨ w.heap.size ≤ k) → wpList Try.prog ops Q rest (a.put o.dst v') w') :
    wpList Try.prog ops Q (o :: rest) a (w.alloc (.cells #[.int .i64 n] e)) := by
  subst hz
  exact wapp1 hgd s x ho hown hs hx hl hbase h
/-- the two lists in their box -/
structure ChD (Z X : Nat) (w W : World) (wv qv : Value) (qs : List (List Int)) (ws : List Int) (F : Nat → Prop) : Prop where
  bx : BoxN W X [wv, qv]
  ow : OI Z W wv ws
  oq : OII Z W qv qs F
  ap : ∀ q, own wv q → ¬ F q
  kk : Chg (fun q => q = X) w W
  lt : X < Z
  sz : w.heap.size = Z
theorem ChD.keep {Z X : Nat} {w W W' : World} {wv qv : Value} {qs : List (List Int)} {ws : List Int} {F : Nat → Prop} (h : ChD Z X w W wv qv qs ws F) (k : Chg No W W') : ChD Z X w W' wv qv qs ws F :=
  ⟨h.bx.keep k, h.ow.keep k, h.oq.keep k, h.ap, h.kk.step k (fun _ e _ => e.elim), h.lt, h.sz⟩
theorem ChD.start {Z X : Nat} {w : World} (hb : BoxN w X [.slice none 0 0, .slice none 0 0]) (hz : w.heap.size = Z) : ChD Z X w w (.slice none 0 0) (.slice none 0 0) [] [] No :=
  ⟨hb, OI.nil _ _, OII.nil _ _, fun _ _ e => e, Chg.refl _ _, hz ▸ hb.lt, hz⟩
/-- a sequence more -/
theorem ChD.row {Z X : Nat} {w W W1 W2 : World} {wv qv xv v' : Value} {qs qs' : List (List Int)} {ws : List Int} {F F3 : Nat → Prop} (h : ChD Z X w W wv qv qs ws F) (k1 : Chg No W W1) (hx : ∀ q, own xv q → W.heap.size ≤ q)
    (h3 : OII Z W2 v' qs' F3) (k2 : Chg (own qv) W1 W2) (hF3 : ∀ q, F3 q → F q ∨ own xv q ∨ W1.heap.size ≤ q) (hF : ∀ q, own qv q → F q) : ChD Z X w (W2.setCell ⟨X, 1, none⟩ v') wv v' qs' ws F3 ∧ BoxN W2 X [wv, qv] := by
  have hXl := h.lt
  have hFZ : ∀ q, F q → Z ≤ q := fun q hq => (h.oq.lt q hq).1
  have hb1 := (h.bx.keep k1).step k2 (fun e => by have := hFZ X (hF X e); omega)
  have hZW : Z ≤ W.heap.size := by have := h.kk.size; have := h.sz; omega
  refine ⟨⟨hb1.set (i := 1) (by simp) v', ((h.ow.keep k1).step k2 (fun q hq e => h.ap q hq (hF q e))).step (chg1 W2 X 1 v') (fun q hq e => by have := (h.ow.lt q hq).1; omega), h3.step (chg1 W2 X 1 v') (fun q hq e => by have := (h3.lt q hq).1; omega), fun q hq e => ?_,
    ((h.kk.step k1 (fun _ e _ => e.elim)).step k2 (fun q hq hl => by have := hFZ q (hF q hq); have := h.sz; omega)).setCell (p := ⟨X, 1, none⟩) (fun _ => rfl) v', h.lt, h.sz⟩, hb1⟩
  rcases hF3 q e with e1 | e1 | e1
  · exact h.ap q hq e1
  · have := hx q e1; have := (h.ow.lt q hq).2; omega
  · have := k1.size; have := (h.ow.lt q hq).2; omega
/-- a weight more -/
theorem ChD.num {Z X : Nat} {w W W2 : World} {wv qv v' : Value} {qs : List (List Int)} {ws ws' : List Int} {F : Nat → Prop} (h : ChD Z X w W wv qv qs ws F)
    (h3 : OI Z W2 v' ws') (k2 : Chg (own wv) W W2) (hown : ∀ q, own v' q → own wv q ∨ W.heap.size ≤ q) : ChD Z X w (W2.setCell ⟨X, 0, none⟩ v') v' qv qs ws' F ∧ BoxN W2 X [wv, qv] := by
  have hXl := h.lt
  have hZw : ∀ q, own wv q → Z ≤ q := fun q hq => (h.ow.lt q hq).1
  have hb1 := h.bx.step k2 (fun e => by have := hZw X e; omega)
  refine ⟨⟨hb1.set (i := 0) (by simp) v', h3.step (chg1 W2 X 0 v') (fun q hq e => by have := (h3.lt q hq).1; omega), (h.oq.step k2 (fun q hq e => h.ap q e hq)).step (chg1 W2 X 0 v') (fun q hq e => by have := (h.oq.lt q hq).1; omega), fun q hq e => ?_,
    (h.kk.step k2 (fun q hq hl => by have := hZw q hq; have := h.sz; omega)).setCell (p := ⟨X, 0, none⟩) (fun _ => rfl) v', h.lt, h.sz⟩, hb1⟩
  rcases hown q hq with e1 | e1
  · exact h.ap q e1 e
  · have := (h.oq.lt q e).2; omega
end Go.Proofs.Ytndhijckbponkaa
