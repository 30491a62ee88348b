import Derived.Test.YtdgcohoneijleaaGreatDoorPkX1
import Derived.Deep.Matrix
namespace Go.Proofs.YtdgcohoneijleaaGreatDoor
open Go.RowKit
def RF (A : Nat → Prop) (w : World) (v : Value) (sz n : Nat) (cs : List Value) : Prop :=
 ∃ a cap, v = .slice a n cap ∧ n ≤ cap ∧ cap ≤ 9223372036854775807 ∧ cs.length = n * sz ∧ (a = none → cap = 0) ∧
  (0 < n → ∃ b off, a = some ⟨b, off, none⟩ ∧ ¬ A b ∧ b < w.heap.size ∧ ∀ i, i < cs.length → w.cell? ⟨b, off + i, none⟩ = some (cs.getD i undef))
theorem RF.step {A T : Nat → Prop} {w w' : World} {v : Value} {sz n : Nat} {cs : List Value} (h : RF A w v sz n cs) (hc : Chg T w w') (hT : ∀ k, T k → A k) : RF A w' v sz n cs := by
 obtain ⟨a, cap, rfl, h1, h2, h3, h0, h4⟩ := h
 refine ⟨a, cap, rfl, h1, h2, h3, h0, fun hl => ?_⟩
 obtain ⟨b, off, rfl, hA, hb, hcell⟩ := h4 hl
 exact ⟨b, off, rfl, hA, Nat.lt_of_lt_of_le hb hc.size, fun i hi => (hc.cellD b (off + i) hb (fun ht => hA (hT b ht))).trans (hcell i hi)⟩
theorem RF.keep {A : Nat → Prop} {w w' : World} {v : Value} {sz n : Nat} {cs : List Value} (h : RF A w v sz n cs) (hc : Chg No w w') : RF A w' v sz n cs := h.step hc (fun _ hk => hk.elim)
theorem RF.weak {A B : Nat → Prop} {w : World} {v : Value} {sz n : Nat} {cs : List Value} (h : RF A w v sz n cs) (hB : ∀ k, B k → k < w.heap.size → A k) : RF B w v sz n cs := by
 obtain ⟨a, cap, rfl, h1, h2, h3, h0, h4⟩ := h
 refine ⟨a, cap, rfl, h1, h2, h3, h0, fun hl => ?_⟩
 obtain ⟨b, off, rfl, hA, hb, hcell⟩ := h4 hl
 exact ⟨b, off, rfl, fun hk => hA (hB b hk hb), hb, hcell⟩
theorem RF.to {A B S : Nat → Prop} {w w' : World} {v : Value} {sz n : Nat} {cs : List Value} (h : RF A w v sz n cs) (hc : Chg S w w') (hS : ∀ q, S q → A q) (hB : ∀ q, B q → A q ∨ w.heap.size ≤ q) : RF B w' v sz n cs := by
 obtain ⟨a, cap, rfl, h1, h2, h3, h0, h4⟩ := h
 refine ⟨a, cap, rfl, h1, h2, h3, h0, fun hl => ?_⟩
 obtain ⟨b, off, rfl, hA, hb, hcell⟩ := h4 hl
 refine ⟨b, off, rfl, fun hk => ?_, Nat.lt_of_lt_of_le hb hc.size, fun i hi => (hc.cellD b (off + i) hb (fun ht => hA (hS b ht))).trans (hcell i hi)⟩
 rcases hB b hk with h | h
 ·exact hA h
 ·omega
theorem RF.shape {A : Nat → Prop} {w : World} {v : Value} {sz n : Nat} {cs : List Value} (h : RF A w v sz n cs) : ∃ a cap, v = .slice a n cap := by
 obtain ⟨a, cap, h, _⟩ := h; exact ⟨_, _, h⟩
structure El (T E : TypeId) (z : Value) (sz bytes : Nat) : Prop where
 und : Tryz.prog.underlying T = some (.slice E)
 info : ∃ i, Tryz.prog.info? E = some i ∧ i.zero = some z ∧ i.size = sz ∧ i.bytes = bytes
 zs : z.cells.size = sz
 pos : 0 < sz
theorem El.mk' {T E : TypeId} {z : Value} {sz bytes : Nat} (h1 : Tryz.prog.underlying T = some (.slice E)) (h2 : (Tryz.prog.info? E).map (fun i => (i.zero, i.size, i.bytes)) = some (some z, sz, bytes)) (h3 : z.cells.size = sz) (h4 : 0 < sz) : El T E z sz bytes := by
 obtain ⟨i0, hi, hz0, hz1, hz2⟩ := info_parts h2
 exact ⟨h1, ⟨i0, hi, hz0, hz1, hz2⟩, h3, h4⟩
def OS (E : TypeId) (sz base : Nat) (w : World) (v : Value) (n : Nat) (cs : List Value) : Prop := n ≤ 1099511627776 ∧ w.ownsRow base E sz v n cs
theorem OS.nil (E : TypeId) (sz base : Nat) (w : World) : OS E sz base w (.slice none 0 0) 0 [] := ⟨by simp, World.ownsRow_nil _ _ _ _⟩
theorem OS.zero {E : TypeId} {sz base : Nat} {w : World} (hb : base ≤ w.heap.size) : OS E sz base (w.alloc (.cells #[] E)) (.slice (some ⟨w.heap.size, 0, none⟩) 0 0) 0 [] :=
 ⟨by simp, World.ownsRow_made w #[] 0 hb (by unfold maxLen; omega) (by simp)⟩
theorem OS.lit {E : TypeId} {sz base : Nat} {w : World} (cs : Array Value) (n : Nat) (hb : base ≤ w.heap.size) (hn : n ≤ 1099511627776) (hs : cs.size = n * sz) : OS E sz base (w.alloc (.cells cs E)) (.slice (some ⟨w.heap.size, 0, none⟩) n n) n cs.toList :=
 ⟨hn, World.ownsRow_lit w cs n hb (by unfold maxLen; omega) hs⟩
theorem OS.len {E : TypeId} {sz base : Nat} {w : World} {v : Value} {n : Nat} {cs : List Value} (h : OS E sz base w v n cs) : n ≤ 1099511627776 := h.1
theorem OS.cl {E : TypeId} {sz base : Nat} {w : World} {v : Value} {n : Nat} {cs : List Value} (h : OS E sz base w v n cs) : cs.length = n * sz := h.2.1
theorem OS.lt {E : TypeId} {sz base : Nat} {w : World} {v : Value} {n : Nat} {cs : List Value} (h : OS E sz base w v n cs) (k : Nat) (hk : own v k) : base ≤ k ∧ k < w.heap.size := h.2.lt k hk
theorem OS.step {E : TypeId} {sz base : Nat} {w w' : World} {v : Value} {n : Nat} {cs : List Value} {T : Nat → Prop} (h : OS E sz base w v n cs) (hc : Chg T w w') (hT : ∀ k, own v k → ¬ T k) : OS E sz base w' v n cs := by
 refine ⟨h.1, h.2.1, ?_⟩
 rcases h.2.2 with hn | ⟨g, cap, cur, rfl, hb, hg, rest⟩
 ·exact .inl hn
 ·refine .inr ⟨g, cap, cur, rfl, hb, ?_, rest⟩
  rw [hc.block g (Array.getElem?_eq_some_iff.1 hg).1 (hT g rfl)]
  exact hg
theorem OS.keep {E : TypeId} {sz base : Nat} {w w' : World} {v : Value} {n : Nat} {cs : List Value} (h : OS E sz base w v n cs) (hc : Chg No w w') : OS E sz base w' v n cs := h.step hc (fun _ _ hk => hk)
theorem OS.alloc {E : TypeId} {sz base : Nat} {w : World} {v : Value} {n : Nat} {cs : List Value} (h : OS E sz base w v n cs) (o : Obj) : OS E sz base (w.alloc o) v n cs := h.keep ((Chg.refl No w).alloc o)
theorem OS.weak {E : TypeId} {sz base base' : Nat} {w : World} {v : Value} {n : Nat} {cs : List Value} (h : OS E sz base w v n cs) (hb : base' ≤ base) : OS E sz base' w v n cs := by
 refine ⟨h.1, h.2.1, ?_⟩
 rcases h.2.2 with hn | ⟨g, cap, cur, rfl, hb', hg, rest⟩
 ·exact .inl hn
 ·exact .inr ⟨g, cap, cur, rfl, Nat.le_trans hb hb', hg, rest⟩
theorem OS.view {E : TypeId} {sz base : Nat} {w : World} {v : Value} {n : Nat} {cs : List Value} (h : OS E sz base w v n cs) : ∃ a cap, v = .slice a n cap ∧ n ≤ cap ∧ cap ≤ 9223372036854775807 ∧ (a = none → cap = 0) ∧
  (0 < cap → ∃ g, a = some ⟨g, 0, none⟩ ∧ base ≤ g ∧ g < w.heap.size ∧ (∀ i, i < cs.length → w.cell? ⟨g, i, none⟩ = some (cs.getD i undef)) ∧ ∀ i, w.frozen? ⟨g, i, none⟩ = false) := by
 obtain ⟨hl, hlen, hc⟩ := h
 rcases hc with ⟨rfl, h0⟩ | ⟨g, cap, cur, rfl, hb, hg, hn, hm, hs, ht⟩
 ·exact ⟨none, 0, by rw [h0], by omega, by omega, fun _ => rfl, fun h => absurd h (by omega)⟩
 ·have hO : w.ownsRow base E sz (.slice (some ⟨g, 0, none⟩) n cap) n cs := ⟨hlen, .inr ⟨g, cap, cur, rfl, hb, hg, hn, hm, hs, ht⟩⟩
  unfold maxLen at hm
  refine ⟨_, _, rfl, hn, by omega, by simp, fun _ => ⟨g, rfl, hb, (Array.getElem?_eq_some_iff.1 hg).1, fun i hi => ?_, fun i => hO.frozenAt i⟩⟩
  rw [hO.cellAt i (by omega)]
  simp [List.getD_eq_getElem?_getD, List.getElem?_eq_getElem hi]
theorem OS.read {E : TypeId} {sz base : Nat} {w : World} {v : Value} {n : Nat} {cs : List Value} (h : OS E sz base w v n cs) {A : Nat → Prop} (hA : ∀ k, own v k → ¬ A k) : RF A w v sz n cs := by
 have hcl := h.cl
 obtain ⟨a, cap, rfl, h1, h2, h3, h4⟩ := h.view
 refine ⟨a, cap, rfl, h1, h2, hcl, h3, fun hn => ?_⟩
 obtain ⟨g, rfl, _, hg, hc, _⟩ := h4 (by omega)
 exact ⟨g, 0, rfl, hA g rfl, hg, fun i hi => by rw [Nat.zero_add]; exact hc i hi⟩
theorem OS.readNo {E : TypeId} {sz base : Nat} {w : World} {v : Value} {n : Nat} {cs : List Value} (h : OS E sz base w v n cs) : RF No w v sz n cs := h.read (fun _ _ e => e)
theorem OS.at {E : TypeId} {sz base : Nat} {w : World} {g m cap n : Nat} {cs : List Value} (h : OS E sz base w (.slice (some ⟨g, 0, none⟩) m cap) n cs) :
  (∀ i, i < cs.length → w.cell? ⟨g, i, none⟩ = some (cs.getD i undef)) ∧ (∀ i, w.frozen? ⟨g, i, none⟩ = false) ∧ base ≤ g ∧ g < w.heap.size ∧ m = n ∧ n ≤ cap ∧ cap ≤ 9223372036854775807 := by
 have hb := h.lt g (by simp [own, Value.ownBlock])
 obtain ⟨hl, hlen, hc⟩ := h
 rcases hc with ⟨he, _⟩ | ⟨g', cap', cur, he, hb', hg, hn, hm, hs, ht⟩
 ·simp at he
 ·simp only [Value.slice.injEq, Option.some.injEq, Addr.mk.injEq, and_true] at he
  obtain ⟨rfl, rfl, rfl⟩ := he
  have hO : w.ownsRow base E sz (.slice (some ⟨g, 0, none⟩) m cap) m cs := ⟨hlen, .inr ⟨g, cap, cur, rfl, hb', hg, hn, hm, hs, ht⟩⟩
  unfold maxLen at hm
  refine ⟨fun i hi => ?_, fun i => hO.frozenAt i, hb.1, hb.2, rfl, hn, by omega⟩
  rw [hO.cellAt i (by omega)]
  simp [List.getD_eq_getElem?_getD, List.getElem?_eq_getElem hi]
theorem OS.store {E : TypeId} {sz base : Nat} {w : World} {g m cap n : Nat} {cs : List Value} (h : OS E sz base w (.slice (some ⟨g, 0, none⟩) m cap) n cs) (i : Nat) (x : Value) :
  OS E sz base (w.setCell ⟨g, i, none⟩ x) (.slice (some ⟨g, 0, none⟩) m cap) n (cs.set i x) ∧ Chg (fun k => k = g) w (w.setCell ⟨g, i, none⟩ x) := by
 obtain ⟨_, _, _, _, rfl, _⟩ := h.at
 obtain ⟨h1, h2⟩ := h.2.stored i x
 exact ⟨⟨h.1, h1⟩, ⟨h2.os, h2.tape, h2.output, h2.size, fun k hk hs => h2.block k hk (fun e => hs (Option.some.inj e))⟩⟩
theorem run_appS {w : World} {T E : TypeId} {z : Value} {sz bytes : Nat} (t : El T E z sz bytes) (hby : bytes ≤ 128) (ty : TypeId) {base : Nat} {v xv : Value} {n m : Nat} {cs ds : List Value} (hown : OS E sz base w v n cs) (hx : RF No w xv sz m ds) (h1 : ∀ u ∈ ds, u.oneCell' = true)
  (hl : n + m ≤ 1099511627776) (hbase : base ≤ w.heap.size) :
  ∃ v' w', (Builtin.append_ #[T, T] ty #[v, xv]).run Tryz.prog w = .ok v' w' ∧ OS E sz base w' v' (n + m) (cs ++ ds) ∧ Chg (own v) w w' ∧ (∀ k, own v' k → own v k ∨ w.heap.size ≤ k) := by
 obtain ⟨i0, hi, hz0, hz1, hz2⟩ := t.info
 have hb1 : (n + m) * bytes ≤ 140737488355328 := Nat.le_trans (Nat.mul_le_mul hl hby) (by omega)
 obtain ⟨ao, c, rfl, hx1, hx2, hx3, hx0, hx4⟩ := hx
 cases ao with
 | none =>
  have hc0 := hx0 rfl
  subst hc0
  have hm0 : m = 0 := by omega
  subst hm0
  have hd0 : ds = [] := List.eq_nil_of_length_eq_zero (by omega)
  subst hd0
  refine ⟨v, w, run_append_owned_none (P := Tryz.prog) w base T ty E i0 sz t.und hi _ _ _ hown.2, by simpa using hown, Chg.refl _ _, fun k hk => .inl hk⟩
 | some ad =>
  have hnews : ∀ j u, ds[j]? = some u → w.cell? (ad.add j) = some u := by
   intro j u hj
   have hjl : j < ds.length := (List.getElem?_eq_some_iff.1 hj).1
   have hm0 : 0 < m := by
    rcases Nat.eq_zero_or_pos m with h | h
    ·subst h; simp at hx3; subst hx3; simp at hjl
    ·exact h
   obtain ⟨b, off, he, _, _, hcell⟩ := hx4 hm0
   obtain rfl := Option.some.inj he
   rw [Addr.add_lit, hcell j hjl, List.getD_eq_getElem?_getD, hj]
   rfl
  obtain ⟨v', w', hr, ho, hg, _⟩ := run_append_own (P := Tryz.prog) w base T ty E i0 z sz bytes t.und hi hz0 hz1 hz2 t.zs t.pos v n _ hown.2 ad m c ds hx3 hnews h1 (by unfold maxLen; omega) hb1 hbase
  refine ⟨v', w', hr, ⟨hl, ho⟩, Chg.grown hg, fun k hk => ?_⟩
  rcases hown.2.2 with ⟨rfl, h0⟩ | ⟨g, cap, cur, rfl, hbg, hgg, hnc, hcm, hcs, htake⟩
  ·subst h0
   have hc0 : cs = [] := List.eq_nil_of_length_eq_zero (by have := hown.cl; omega)
   subst hc0
   obtain ⟨v2, w2, hr2, ho2, _, _⟩ := run_append_own (P := Tryz.prog) w w.heap.size T ty E i0 z sz bytes t.und hi hz0 hz1 hz2 t.zs t.pos _ 0 _ (World.ownsRow_nil _ _ _ _) ad m c ds hx3 hnews h1 (by unfold maxLen; omega) hb1 (Nat.le_refl _)
   rw [hr] at hr2
   simp only [Result.ok.injEq] at hr2
   obtain ⟨rfl, rfl⟩ := hr2
   exact .inr (ho2.lt k hk).1
  ·by_cases hroom : n + m ≤ cap
   ·obtain ⟨w2, hr2, _, _⟩ := run_append_fits (P := Tryz.prog) w base T ty E i0 sz t.und hi hz1 g n cap _ hown.2 ad m c ds hx3 hnews h1 hroom
    rw [hr] at hr2
    simp only [Result.ok.injEq] at hr2
    obtain ⟨rfl, rfl⟩ := hr2
    exact .inl (by rw [own_slice] at hk ⊢; exact hk)
   ·have hfit : Builtin.nextslicecap (n + m) cap * i0.bytes ≤ 281474976710656 := by rw [hz2]; exact growslice_fits (by omega) (by omega)
    have hr2 := run_append_grow (P := Tryz.prog) w T ty E i0 z t.und hi hz0 ⟨g, 0, none⟩ n cap cs (by rw [hown.cl, hz1])
     (hown.2.cells (g := g) rfl) ad m c ds (by rw [hx3, hz1]) hnews (by omega) (by omega) hfit
    rw [hr] at hr2
    simp only [Result.ok.injEq] at hr2
    obtain ⟨rfl, rfl⟩ := hr2
    rw [own_slice] at hk
    exact .inr (by omega)
theorem wappS {ops : Array Oper} {rest : List Oper} {o : Oper} {a : Act} {Q : Exit → Act → World → Prop} {w : World} {T E : TypeId} {z : Value} {sz bytes : Nat} (t : El T E z sz bytes) (hby : bytes ≤ 128) (hgd : o.guard = none) (s x : Operand)
  (ho : o.op = .call { callee := .builtin .append, args := #[s, x], argTypes := #[T, T] })
  {base : Nat} {v xv : Value} {n m : Nat} {cs ds : List Value} (hown : OS E sz base w v n cs) (hxr : RF No w xv sz m ds) (h1 : ∀ u ∈ ds, u.oneCell' = true) (hs : a.eval s = v) (hx : a.eval x = xv) (hl : n + m ≤ 1099511627776) (hbase : base ≤ w.heap.size)
  (h : ∀ v' w', OS E sz base w' v' (n + m) (cs ++ ds) → Chg (own v) w w' → (∀ k, own v' k → own v k ∨ w.heap.size ≤ k) → wpList Tryz.prog ops Q rest (a.put o.dst v') w') : wpList Tryz.prog ops Q (o :: rest) a w := by
 obtain ⟨v', w', hr, h1, h2, h3⟩ := run_appS t hby o.type hown hxr h1 hl hbase
 refine wpList_plain hgd fun _ hK => ?_
 unfold Oper.wp execOp
 simp only [ho, resolve, invoke, builtin, Sem.run_bind, Sem.run_pure, Result.andThen_ok, List.map_toArray, List.map_cons, List.map_nil, hs, hx, hr]
 exact hK _ _ (h v' w' h1 h2 h3)
theorem wappS1 {ops : Array Oper} {rest : List Oper} {o : Oper} {a : Act} {Q : Exit → Act → World → Prop} {w : World} {T E : TypeId} {z : Value} {sz bytes : Nat} (t : El T E z sz bytes) (hby : bytes ≤ 128) (hgd : o.guard = none) (s x : Operand)
  (ho : o.op = .call { callee := .builtin .append, args := #[s, x], argTypes := #[T, T] })
  {base : Nat} {v : Value} {n : Nat} {cs : List Value} {ds : Array Value} {e : TypeId} (hown : OS E sz base w v n cs) (hd : ds.size = sz) (h1 : ∀ u ∈ ds.toList, u.oneCell' = true) (hs : a.eval s = v) (hx : a.eval x = .slice (some ⟨w.heap.size, 0, none⟩) 1 1)
  (hl : n < 1099511627776) (hbase : base ≤ w.heap.size)
  (h : ∀ v' w', OS E sz base w' v' (n + 1) (cs ++ ds.toList) → Chg (own v) w w' → (∀ k, own v' k → own v k ∨ w.heap.size ≤ k) → wpList Tryz.prog ops Q rest (a.put o.dst v') w') :
  wpList Tryz.prog ops Q (o :: rest) a (w.alloc (.cells ds e)) := by
 have hr : RF No (w.alloc (.cells ds e)) (.slice (some ⟨w.heap.size, 0, none⟩) 1 1) sz 1 ds.toList :=
  ⟨_, _, rfl, Nat.le_refl _, by omega, by simp [hd], by simp, fun _ => ⟨w.heap.size, 0, rfl, fun e => e, by simp, fun i hi => by
   rw [World.cell?_alloc_new]
   have hi' : i < ds.size := by simpa using hi
   simp [List.getD_eq_getElem?_getD, hi']⟩⟩
 refine wappS t hby hgd s x ho (hown.alloc _) hr h1 hs hx (by omega) (by simp; omega) (fun v' w' h1 h2 h3 => ?_)
 refine h v' w' h1 (((Chg.refl (own v) w).alloc _).trans h2) (fun k hk => ?_) |> fun x => x
 rcases h3 k hk with h | h
 ·exact .inl h
 ·simp at h
  exact .inr (by omega)
def RII (A : Nat → Prop) (w : World) (v : Value) (ll : List (List Int)) : Prop :=
 ll.length ≤ 1099511627776 ∧ ∃ vs, vs.length = ll.length ∧ RF A w v 1 ll.length vs ∧ ∀ i, i < ll.length → RI A w (vs.getD i undef) (ll.getD i [])
theorem RII.step {A T : Nat → Prop} {w w' : World} {v : Value} {ll : List (List Int)} (h : RII A w v ll) (hc : Chg T w w') (hT : ∀ k, T k → A k) : RII A w' v ll := by
 obtain ⟨h0, vs, h1, h2, h3⟩ := h
 exact ⟨h0, vs, h1, h2.step hc hT, fun i hi => (h3 i hi).step hc hT⟩
theorem RII.keep {A : Nat → Prop} {w w' : World} {v : Value} {ll : List (List Int)} (h : RII A w v ll) (hc : Chg No w w') : RII A w' v ll := h.step hc (fun _ hk => hk.elim)
theorem RII.weak {A B : Nat → Prop} {w : World} {v : Value} {ll : List (List Int)} (h : RII A w v ll) (hB : ∀ k, B k → k < w.heap.size → A k) : RII B w v ll := by
 obtain ⟨h0, vs, h1, h2, h3⟩ := h
 exact ⟨h0, vs, h1, h2.weak hB, fun i hi => (h3 i hi).weak hB⟩
theorem RII.len {A : Nat → Prop} {w : World} {v : Value} {ll : List (List Int)} (h : RII A w v ll) : ll.length ≤ 1099511627776 := h.1
theorem RII.view {A : Nat → Prop} {w : World} {v : Value} {ll : List (List Int)} (h : RII A w v ll) : ∃ a cap, v = .slice a ll.length cap ∧ ll.length ≤ cap ∧ cap ≤ 9223372036854775807 ∧
  ∀ i, i < ll.length → ∃ b off x, a = some ⟨b, off, none⟩ ∧ ¬ A b ∧ b < w.heap.size ∧ w.cell? ⟨b, off + i, none⟩ = some x ∧ RI A w x (ll.getD i []) := by
 obtain ⟨h0, vs, h1, ⟨a, cap, rfl, h4, h5, h6, h7, h8⟩, h3⟩ := h
 refine ⟨a, cap, rfl, h4, h5, fun i hi => ?_⟩
 obtain ⟨b, off, rfl, hA, hb, hc⟩ := h8 (by omega)
 exact ⟨b, off, _, rfl, hA, hb, hc i (by omega), h3 i hi⟩
theorem RII.nil (A : Nat → Prop) (w : World) : RII A w (.slice none 0 0) [] := ⟨by simp, [], rfl, ⟨none, 0, rfl, Nat.le_refl _, by omega, rfl, fun _ => rfl, fun h => absurd h (by simp)⟩, fun i hi => by simp at hi⟩
end Go.Proofs.YtdgcohoneijleaaGreatDoor
namespace Go.Proofs.YtdgcohoneijleaaGreatDoor
def inB (x a b : Int) : Bool := decide (a ≤ x) && decide (x ≤ b)
theorem inB_iff {x a b : Int} : inB x a b = true ↔ a ≤ x ∧ x ≤ b := by simp [inB]
def hasB (l : List Int) (n : Int) : Bool := l.contains n
theorem take_snoc (l : List Int) (k : Nat) (h : k < l.length) : l.take (k + 1) = l.take k ++ [l[k]] := by
 rw [List.take_succ_eq_append_getElem h]
theorem hasB_snoc (l : List Int) (n : Int) (k : Nat) (h : k < l.length) : hasB (l.take (k + 1)) n = (hasB (l.take k) n || l[k] == n) := by
 rw [take_snoc l k h]; simp only [hasB, List.contains_append, List.contains_cons, List.contains_nil, Bool.or_false, Bool.beq_comm]
def belowB (n : Int) (l : List Int) : Bool := l.all fun a => inB a 0 (n - 1)
theorem belowB_snoc (n : Int) (l : List Int) (k : Nat) (h : k < l.length) : belowB n (l.take (k + 1)) = (belowB n (l.take k) && inB l[k] 0 (n - 1)) := by
 unfold belowB; rw [take_snoc l k h, List.all_append]; simp only [List.all_cons, List.all_nil, Bool.and_true]
theorem belowB_stop (n : Int) (l : List Int) (k : Nat) (h : k < l.length) (hk : inB l[k] 0 (n - 1) = false) : belowB n l = false := by
 rw [belowB, List.all_eq_false]
 exact ⟨l[k], List.getElem_mem h, by simp [hk]⟩
def atI (l : List Int) (n : Int) : Int := if n ∈ l then (l.idxOf n : Int) else -1
theorem atI_hit (l : List Int) (n : Int) (k : Nat) (h : k < l.length) (hk : l[k] = n) (hn : hasB (l.take k) n = false) : atI l n = k := by
 have hm : n ∈ l := hk ▸ List.getElem_mem h
 have hn' : n ∉ l.take k := by simpa [hasB] using hn
 rw [atI, if_pos hm]
 congr 1
 have hlt : l.idxOf n < l.length := List.idxOf_lt_length_of_mem hm
 have hget : l[l.idxOf n] = n := List.getElem_idxOf hlt
 rcases Nat.lt_trichotomy (l.idxOf n) k with hlt' | he | hgt
 ·exact absurd (by rw [← hget]; exact List.mem_take_iff_getElem.2 ⟨l.idxOf n, by omega, rfl⟩) hn'
 ·exact he
 ·have h2 := List.not_of_lt_findIdx (p := (· == n)) (xs := l) (i := k) hgt
  simp [hk] at h2
theorem atI_none (l : List Int) (n : Int) (h : hasB l n = false) : atI l n = -1 := by
 have hn' : n ∉ l := by simpa [hasB] using h
 rw [atI, if_neg hn']
theorem atI_spec (l : List Int) (n : Int) : (hasB l n = true ∧ ∃ k : Nat, k < l.length ∧ atI l n = k) ∨ (hasB l n = false ∧ atI l n = -1) := by
 by_cases h : n ∈ l
 ·left
  exact ⟨by simpa [hasB] using h, l.idxOf n, List.idxOf_lt_length_of_mem h, by rw [atI, if_pos h]⟩
 ·right
  have hh : hasB l n = false := by simpa [hasB] using h
  exact ⟨hh, atI_none l n hh⟩
def idxF (l : List Int) (p : Int → Bool) : Int := if l.any p then (l.findIdx p : Int) else -1
theorem any_snoc (l : List Int) (p : Int → Bool) (k : Nat) (h : k < l.length) : (l.take (k + 1)).any p = ((l.take k).any p || p l[k]) := by
 rw [take_snoc l k h, List.any_append]; simp only [List.any_cons, List.any_nil, Bool.or_false]
theorem idxF_hit (l : List Int) (p : Int → Bool) (k : Nat) (h : k < l.length) (hk : p l[k] = true) (hn : (l.take k).any p = false) : idxF l p = k := by
 have ha : l.any p = true := List.any_eq_true.2 ⟨l[k], List.getElem_mem h, hk⟩
 rw [idxF, if_pos ha]
 congr 1
 rw [List.findIdx_eq h]
 refine ⟨hk, fun j hj => ?_⟩
 have := List.any_eq_false.1 hn l[j] (List.mem_take_iff_getElem.2 ⟨j, by omega, rfl⟩)
 simpa using this
theorem idxF_none (l : List Int) (p : Int → Bool) (h : l.any p = false) : idxF l p = -1 := by rw [idxF, h]; rfl
theorem idxF_ge (l : List Int) (p : Int → Bool) : decide (0 ≤ idxF l p) = l.any p := by
 cases h : l.any p
 ·rw [idxF_none l p h]; rfl
 ·rw [idxF, if_pos h]; simp
structure Ca where
 pol : Int
 size : Int
 pages : List Int
 marks : List Int
 hand : Int
def rareTo (m : List Int) : Nat → Nat
 | 0 => 0
 | k + 1 => if m.getD k 0 ≤ m.getD (rareTo m k) 0 then k else rareTo m k
def rarest (m : List Int) : Nat := rareTo m m.length
theorem rareTo_lt (m : List Int) (k : Nat) (hk : 0 < k) : rareTo m k < k := by
 induction k with
 | zero => omega
 | succ k ih =>
  unfold rareTo
  split
  ·omega
  ·rcases Nat.eq_zero_or_pos k with rfl | hp
   ·simp [rareTo] at *
   ·have := ih hp; omega
theorem rareTo_one (m : List Int) : rareTo m 1 = 0 := by simp [rareTo]
def turn (sz : Nat) : Nat → List Int → Nat → List Int × Nat
 | 0, m, h => (m, h)
 | f + 1, m, h => if m.getD h 0 = 1 then turn sz f (m.set h 0) ((h + 1) % sz) else (m, h)
def turned (c : Ca) : List Int × Nat := turn c.size.toNat (c.marks.length + 1) c.marks c.hand.toNat
def hitC (c : Ca) (i : Nat) : Ca :=
 if c.pol = 1 ∨ c.pol = 7 then { c with pages := c.pages.getD i 0 :: c.pages.eraseIdx i }
 else if c.pol = 5 then { c with marks := c.marks.set i (min (c.marks.getD i 0 + 1) 60) }
 else if c.pol = 6 then { c with marks := c.marks.set i 1 }
 else c
def victim (c : Ca) : Nat :=
 if c.pol = 3 ∨ c.pol = 7 then 0 else if c.pol = 5 then rarest c.marks else if c.pol = 6 then (turned c).2 else c.pages.length - 1
def clockC (c : Ca) (x : Int) : Ca :=
 if (c.pages.length : Int) < c.size then { c with pages := c.pages ++ [x], marks := c.marks ++ [1] }
 else { c with pages := c.pages.set (turned c).2 x, marks := (turned c).1.set (turned c).2 1, hand := ((turned c).2 + 1 : Int) % c.size }
def faultC (c : Ca) (x : Int) : Ca :=
 if c.pol = 6 then clockC c x
 else
  { c with
   pages := x :: (if (c.pages.length : Int) = c.size then (if c.pol = 4 then [] else c.pages.eraseIdx (victim c)) else c.pages)
   marks := if c.pol = 5 then 1 :: (if (c.pages.length : Int) = c.size then c.marks.eraseIdx (victim c) else c.marks) else c.marks }
def stepC (c : Ca) (x : Int) : Ca := if hasB c.pages x then hitC c (atI c.pages x).toNat else faultC c x
def newC (p k : Int) : Ca := { pol := p, size := k, pages := [], marks := [], hand := 0 }
structure Ok (c : Ca) : Prop where
 pol : 1 ≤ c.pol ∧ c.pol ≤ 7
 size : 1 ≤ c.size ∧ c.size ≤ 6
 len : (c.pages.length : Int) ≤ c.size
 marks : c.pol = 5 ∨ c.pol = 6 → c.marks.length = c.pages.length
 small : ∀ m ∈ c.marks, 0 ≤ m ∧ m ≤ 60
 hand : 0 ≤ c.hand ∧ c.hand < c.size
def outC (c : Ca) : Ca :=
 { c with
  pages := if c.pol = 4 then [] else c.pages.eraseIdx (victim c)
  marks := if c.pol = 5 then c.marks.eraseIdx (victim c) else c.marks }
theorem faultC_out (c : Ca) (x : Int) (h6 : c.pol ≠ 6) : faultC c x = { (if (c.pages.length : Int) = c.size then outC c else c) with
  pages := x :: (if (c.pages.length : Int) = c.size then outC c else c).pages
  marks := if c.pol = 5 then 1 :: (if (c.pages.length : Int) = c.size then outC c else c).marks else (if (c.pages.length : Int) = c.size then outC c else c).marks } := by
 unfold faultC
 rw [if_neg h6]
 by_cases hf : (c.pages.length : Int) = c.size
 ·simp only [hf, if_true, outC]
  by_cases h5 : c.pol = 5 <;> simp [h5]
 ·simp only [hf, if_false]
def downTo (m : List Int) : Nat → Nat
 | 0 => m.length - 1
 | k + 1 => if m.getD (m.length - 1 - k) 0 < m.getD (downTo m k) 0 then m.length - 1 - k else downTo m k
theorem downTo_spec (m : List Int) (hm : 0 < m.length) (k : Nat) (hk : k ≤ m.length) : downTo m k < m.length ∧ (k = 0 ∨ m.length - k ≤ downTo m k) ∧
  (∀ i, m.length - k ≤ i → i < m.length → m.getD (downTo m k) 0 ≤ m.getD i 0) ∧ (∀ i, downTo m k < i → i < m.length → m.getD (downTo m k) 0 < m.getD i 0) := by
 induction k with
 | zero => exact ⟨by simp [downTo]; omega, .inl rfl, fun i h1 h2 => by omega, fun i h1 h2 => by simp [downTo] at h1; omega⟩
 | succ k ih =>
  obtain ⟨h1, h2, h3, h4⟩ := ih (by omega)
  unfold downTo
  split
  ·rename_i hlt
   refine ⟨by omega, .inr (by omega), fun i hi1 hi2 => ?_, fun i hi1 hi2 => ?_⟩
   ·rcases Nat.eq_or_lt_of_le hi1 with he | hg
    ·have : i = m.length - 1 - k := by omega
     rw [this]; exact Int.le_refl _
    ·have := h3 i (by omega) hi2; omega
   ·have := h3 i (by omega) hi2; omega
  ·rename_i hge
   rcases h2 with rfl | h2
   ·have e : m.length - 1 - 0 = downTo m 0 := by simp [downTo]
    refine ⟨h1, .inr (by simp [downTo]), fun i hi1 hi2 => ?_, h4⟩
    have : i = downTo m 0 := by simp [downTo]; omega
    rw [this]; exact Int.le_refl _
   ·refine ⟨h1, .inr (by omega), fun i hi1 hi2 => ?_, h4⟩
    rcases Nat.eq_or_lt_of_le hi1 with he | hg
    ·have : i = m.length - 1 - k := by omega
     rw [this]; omega
    ·exact h3 i (by omega) hi2
theorem rareTo_spec (m : List Int) (k : Nat) (hk : 0 < k) (hkm : k ≤ m.length) : rareTo m k < k ∧ (∀ i, i < k → m.getD (rareTo m k) 0 ≤ m.getD i 0) ∧ (∀ i, rareTo m k < i → i < k → m.getD (rareTo m k) 0 < m.getD i 0) := by
 induction k with
 | zero => omega
 | succ k ih =>
  rcases Nat.eq_zero_or_pos k with rfl | hp
  ·refine ⟨by simp [rareTo], fun i hi => ?_, fun i h1 h2 => by omega⟩
   have : i = 0 := by omega
   subst this; simp [rareTo]
  ·obtain ⟨h1, h2, h3⟩ := ih hp (by omega)
   unfold rareTo
   split
   ·rename_i hle
    refine ⟨by omega, fun i hi => ?_, fun i h1 h2 => by omega⟩
    rcases Nat.eq_or_lt_of_le (Nat.le_of_lt_succ hi) with he | hl
    ·rw [he]; exact Int.le_refl _
    ·have := h2 i hl; omega
   ·rename_i hgt
    refine ⟨by omega, fun i hi => ?_, fun i hi1 hi2 => ?_⟩
    ·rcases Nat.eq_or_lt_of_le (Nat.le_of_lt_succ hi) with he | hl
     ·rw [he]; omega
     ·exact h2 i hl
    ·rcases Nat.eq_or_lt_of_le (Nat.le_of_lt_succ hi2) with he | hl
     ·rw [he]; omega
     ·exact h3 i hi1 hl
theorem down_rarest (m : List Int) (hm : 0 < m.length) : downTo m m.length = rarest m := by
 obtain ⟨h1, h2, h3⟩ := rareTo_spec m m.length hm (Nat.le_refl _)
 obtain ⟨g1, _, g3, g4⟩ := downTo_spec m hm m.length (Nat.le_refl _)
 unfold rarest
 rcases Nat.lt_trichotomy (downTo m m.length) (rareTo m m.length) with h | h | h
 ·have := g4 _ h h1
  have := h2 _ g1
  omega
 ·exact h
 ·have := h3 _ h g1
  have := g3 (rareTo m m.length) (by omega) h1
  omega
theorem ok_new {p k : Int} (hp : 1 ≤ p ∧ p ≤ 7) (hk : 1 ≤ k ∧ k ≤ 6) : Ok (newC p k) :=
 ⟨hp, hk, by simp [newC]; omega, by simp [newC], by simp [newC], by simp [newC]; omega⟩
theorem turn_props (sz : Nat) (hsz : 0 < sz) (f : Nat) : ∀ (m : List Int) (h : Nat), h < sz → (turn sz f m h).1.length = m.length ∧ (turn sz f m h).2 < sz ∧
  ((∀ x ∈ m, 0 ≤ x ∧ x ≤ 60) → ∀ x ∈ (turn sz f m h).1, 0 ≤ x ∧ x ≤ 60) := by
 induction f with
 | zero => intro m h hh; exact ⟨rfl, hh, fun h => h⟩
 | succ f ih =>
  intro m h hh
  unfold turn
  split
  ·obtain ⟨h1, h2, h3⟩ := ih (m.set h 0) ((h + 1) % sz) (Nat.mod_lt _ hsz)
   refine ⟨by simpa using h1, h2, fun hm => h3 (fun x hx => ?_)⟩
   rcases List.mem_or_eq_of_mem_set hx with hx | rfl
   ·exact hm x hx
   ·omega
  ·exact ⟨rfl, hh, fun h => h⟩
theorem mem_set {l : List Int} {i : Nat} {y : Int} {P : Int → Prop} (h : ∀ x ∈ l, P x) (hy : P y) : ∀ x ∈ l.set i y, P x := by
 intro x hx
 rcases List.mem_or_eq_of_mem_set hx with hx | rfl
 ·exact h x hx
 ·exact hy
theorem mem_erase {l : List Int} {i : Nat} {P : Int → Prop} (h : ∀ x ∈ l, P x) : ∀ x ∈ l.eraseIdx i, P x := fun x hx => h x (List.mem_of_mem_eraseIdx hx)
theorem getD_mem {l : List Int} {i : Nat} (h : i < l.length) : l.getD i 0 ∈ l := by
 rw [List.getD_eq_getElem?_getD, List.getElem?_eq_getElem h]; exact List.getElem_mem h
theorem ok_hit {c : Ca} (h : Ok c) (i : Nat) (hi : i < c.pages.length) : Ok (hitC c i) := by
 unfold hitC
 split
 ·refine ⟨h.pol, h.size, ?_, ?_, h.small, h.hand⟩
  ·have := h.len; simp [List.length_eraseIdx_of_lt hi]; omega
  ·intro hp; rename_i hq; simp only at hp; omega
 ·split
  ·rename_i hq
   have hm := h.marks (.inl hq)
   refine ⟨h.pol, h.size, h.len, fun hp => by simpa using h.marks hp, mem_set h.small ?_, h.hand⟩
   have := h.small _ (getD_mem (l := c.marks) (i := i) (by omega))
   omega
  ·split
   ·exact ⟨h.pol, h.size, h.len, fun hp => by simpa using h.marks hp, mem_set h.small (by omega), h.hand⟩
   ·exact h
theorem victim_lt {c : Ca} (h : Ok c) (hp : 0 < c.pages.length) (h6 : c.pol ≠ 6) : victim c < c.pages.length := by
 unfold victim
 split
 ·exact hp
 ·split
  ·rename_i h5
   have := h.marks (.inl h5)
   have := rareTo_lt c.marks c.marks.length (by omega)
   unfold rarest; omega
  ·omega
theorem ok_fault {c : Ca} (h : Ok c) (x : Int) : Ok (faultC c x) := by
 have hs := h.size
 have hl := h.len
 unfold faultC
 split
 ·rename_i h6
  have hm := h.marks (.inr h6)
  unfold clockC
  split
  ·refine ⟨h.pol, h.size, by simp; omega, fun _ => by simp; omega, ?_, h.hand⟩
   intro m hm
   rcases List.mem_append.1 hm with hm | hm
   ·exact h.small m hm
   ·simp at hm; omega
  ·have hh := h.hand
   obtain ⟨t1, t2, t3⟩ := turn_props c.size.toNat (by omega) (c.marks.length + 1) c.marks c.hand.toNat (by omega)
   refine ⟨h.pol, h.size, by simpa using h.len, fun _ => by simp [turned, t1]; omega, mem_set (t3 h.small) (by omega), ?_⟩
   exact ⟨Int.emod_nonneg _ (by omega), Int.emod_lt_of_pos _ (by omega)⟩
 ·rename_i h6
  by_cases hf : (c.pages.length : Int) = c.size
  ·have hv := victim_lt h (by omega) h6
   refine ⟨h.pol, h.size, ?_, ?_, ?_, h.hand⟩
   ·simp only [hf, if_true]
    split
    ·simp; omega
    ·rw [List.length_cons, List.length_eraseIdx_of_lt hv]; omega
   ·intro hp
    have h5 : c.pol = 5 := hp.resolve_right h6
    have hm := h.marks (.inl h5)
    simp only [hf, h5, if_true]
    rw [if_neg (by omega), List.length_cons, List.length_cons, List.length_eraseIdx_of_lt hv, List.length_eraseIdx_of_lt (by omega), hm]
   ·simp only [hf, if_true]
    split
    ·intro m hm
     rcases List.mem_cons.1 hm with rfl | hm
     ·omega
     ·exact mem_erase h.small m hm
    ·exact h.small
  ·refine ⟨h.pol, h.size, ?_, ?_, ?_, h.hand⟩
   ·simp only [hf, if_false]
    rw [List.length_cons]; omega
   ·intro hp
    have h5 : c.pol = 5 := hp.resolve_right h6
    have hm := h.marks (.inl h5)
    simp only [hf, h5, if_true, if_false]
    rw [List.length_cons, List.length_cons, hm]
   ·simp only [hf, if_false]
    split
    ·intro m hm
     rcases List.mem_cons.1 hm with rfl | hm
     ·omega
     ·exact h.small m hm
    ·exact h.small
theorem ok_step {c : Ca} (h : Ok c) (x : Int) : Ok (stepC c x) := by
 unfold stepC
 split
 ·rename_i hh
  rcases atI_spec c.pages x with ⟨_, k, hk, he⟩ | ⟨hn, _⟩
  ·rw [he]; exact ok_hit h _ (by simpa using hk)
  ·rw [hn] at hh; cases hh
 ·exact ok_fault h x
def runC (c : Ca) (l : List Int) : Ca := l.foldl stepC c
theorem runC_snoc (c : Ca) (l : List Int) (k : Nat) (h : k < l.length) : runC c (l.take (k + 1)) = stepC (runC c (l.take k)) l[k] := by
 unfold runC; rw [take_snoc l k h, List.foldl_append]; rfl
theorem ok_run {c : Ca} (h : Ok c) (l : List Int) : Ok (runC c l) := by
 induction l generalizing c with
 | nil => exact h
 | cons x l ih => exact ih (ok_step h x)
def placesTo (c : Ca) (l : List Int) : Nat → List Int
 | 0 => []
 | k + 1 => if hasB (runC c (l.take k)).pages (l.getD k 0) then placesTo c l k else placesTo c l k ++ [(k : Int)]
def places (c : Ca) (l : List Int) : List Int := placesTo c l l.length
theorem placesTo_le (c : Ca) (l : List Int) (k : Nat) : (placesTo c l k).length ≤ k := by
 induction k with
 | zero => simp [placesTo]
 | succ k ih =>
  unfold placesTo
  split
  ·omega
  ·rw [List.length_append]; simp only [List.length_cons, List.length_nil]; omega
end Go.Proofs.YtdgcohoneijleaaGreatDoor
