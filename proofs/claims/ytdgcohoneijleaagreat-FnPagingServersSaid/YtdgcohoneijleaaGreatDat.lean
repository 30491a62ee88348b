import Derived.Test.YtdgcohoneijleaaGreatS
import Derived.Deep.Matrix
/- slices of any cells, read ('RF') and owned ('OS'); slices of slices of int, read ('RII') and owned ('OII') -/
namespace Go.Proofs.YtdgcohoneijleaaGreat
open Go.RowKit

/-- v is a slice of n elements of sz cells each; its cells are cs; it lies in no block of A -/
def RF (A : Nat → Prop) (w : World) (v : Value) (sz n : Nat) (cs : List Value) : Prop :=
  ∃ a cap, v = .slice a n cap ∧ n ≤ cap ∧ cap ≤ 9223372036854775807 ∧ cs.length = n * sz ∧ (a = none → cap = 0) ∧
    (0 < n → ∃ b off, a = some ⟨b, off, none⟩ ∧ ¬ A b ∧ b < w.heap.size ∧ ∀ i, i < cs.length → w.cell? ⟨b, off + i, none⟩ = some (cs.getD i undef))
theorem RF.step {A T : Nat → Prop} {w w' : World} {v : Value} {sz n : Nat} {cs : List Value} (h : RF A w v sz n cs) (hc : Chg T w w') (hT : ∀ k, T k → A k) : RF A w' v sz n cs := by
  obtain ⟨a, cap, rfl, h1, h2, h3, h0, h4⟩ := h
  refine ⟨a, cap, rfl, h1, h2, h3, h0, fun hl => ?_⟩
  obtain ⟨b, off, rfl, hA, hb, hcell⟩ := h4 hl
  exact ⟨b, off, rfl, hA, Nat.lt_of_lt_of_le hb hc.size, fun i hi => (hc.cellD b (off + i) hb (fun ht => hA (hT b ht))).trans (hcell i hi)⟩
theorem RF.keep {A : Nat → Prop} {w w' : World} {v : Value} {sz n : Nat} {cs : List Value} (h : RF A w v sz n cs) (hc : Chg No w w') : RF A w' v sz n cs := h.step hc (fun _ hk => hk.elim)
theorem RF.weak {A B : Nat → Prop} {w : World} {v : Value} {sz n : Nat} {cs : List Value} (h : RF A w v sz n cs) (hB : ∀ k, B k → k < w.heap.size → A k) : RF B w v sz n cs := by
  obtain ⟨a, cap, rfl, h1, h2, h3, h0, h4⟩ := h
  refine ⟨a, cap, rfl, h1, h2, h3, h0, fun hl => ?_⟩
  obtain ⟨b, off, rfl, hA, hb, hcell⟩ := h4 hl
  exact ⟨b, off, rfl, fun hk => hA (hB b hk hb), hb, hcell⟩
theorem RF.to {A B S : Nat → Prop} {w w' : World} {v : Value} {sz n : Nat} {cs : List Value} (h : RF A w v sz n cs) (hc : Chg S w w') (hS : ∀ q, S q → A q) (hB : ∀ q, B q → A q ∨ w.heap.size ≤ q) : RF B w' v sz n cs := by
  obtain ⟨a, cap, rfl, h1, h2, h3, h0, h4⟩ := h
  refine ⟨a, cap, rfl, h1, h2, h3, h0, fun hl => ?_⟩
  obtain ⟨b, off, rfl, hA, hb, hcell⟩ := h4 hl
  refine ⟨b, off, rfl, fun hk => ?_, Nat.lt_of_lt_of_le hb hc.size, fun i hi => (hc.cellD b (off + i) hb (fun ht => hA (hS b ht))).trans (hcell i hi)⟩
  rcases hB b hk with h | h
  · exact hA h
  · omega
theorem RF.shape {A : Nat → Prop} {w : World} {v : Value} {sz n : Nat} {cs : List Value} (h : RF A w v sz n cs) : ∃ a cap, v = .slice a n cap := by
  obtain ⟨a, cap, h, _⟩ := h; exact ⟨_, _, h⟩
theorem RF.cellN {A : Nat → Prop} {w : World} {a : Option Addr} {m cap sz n : Nat} {cs : List Value} (h : RF A w (.slice a m cap) sz n cs) (hn : 0 < n) :
    ∃ b off, a = some ⟨b, off, none⟩ ∧ ¬ A b ∧ b < w.heap.size ∧ ∀ i, i < cs.length → w.cell? ⟨b, off + i, none⟩ = some (cs.getD i undef) := by
  obtain ⟨a', cap', he, _, _, _, _, hc⟩ := h
  simp only [Value.slice.injEq] at he
  obtain ⟨rfl, rfl, rfl⟩ := he
  exact hc hn
/-- what is known of a slice's type and of its elements' -/
structure El (T E : TypeId) (z : Value) (sz bytes : Nat) : Prop where
  und : Tryz.prog.underlying T = some (.slice E)
  info : ∃ i, Tryz.prog.info? E = some i ∧ i.zero = some z ∧ i.size = sz ∧ i.bytes = bytes
  zs : z.cells.size = sz
  pos : 0 < sz
theorem El.mk' {T E : TypeId} {z : Value} {sz bytes : Nat} (h1 : Tryz.prog.underlying T = some (.slice E)) (h2 : (Tryz.prog.info? E).map (fun i => (i.zero, i.size, i.bytes)) = some (some z, sz, bytes)) (h3 : z.cells.size = sz) (h4 : 0 < sz) : El T E z sz bytes := by
  obtain ⟨i0, hi, hz0, hz1, hz2⟩ := info_parts h2
  exact ⟨h1, ⟨i0, hi, hz0, hz1, hz2⟩, h3, h4⟩

/-- v is a slice of n elements that the call owns, in a block from base on -/
def OS (E : TypeId) (sz base : Nat) (w : World) (v : Value) (n : Nat) (cs : List Value) : Prop := n ≤ 1099511627776 ∧ w.ownsRow base E sz v n cs
theorem OS.nil (E : TypeId) (sz base : Nat) (w : World) : OS E sz base w (.slice none 0 0) 0 [] := ⟨by simp, World.ownsRow_nil _ _ _ _⟩
theorem OS.zero {E : TypeId} {sz base : Nat} {w : World} (hb : base ≤ w.heap.size) : OS E sz base (w.alloc (.cells #[] E)) (.slice (some ⟨w.heap.size, 0, none⟩) 0 0) 0 [] :=
  ⟨by simp, World.ownsRow_made w #[] 0 hb (by unfold maxLen; omega) (by simp)⟩
theorem OS.lit {E : TypeId} {sz base : Nat} {w : World} (cs : Array Value) (n : Nat) (hb : base ≤ w.heap.size) (hn : n ≤ 1099511627776) (hs : cs.size = n * sz) : OS E sz base (w.alloc (.cells cs E)) (.slice (some ⟨w.heap.size, 0, none⟩) n n) n cs.toList :=
  ⟨hn, World.ownsRow_lit w cs n hb (by unfold maxLen; omega) hs⟩
theorem OS.len {E : TypeId} {sz base : Nat} {w : World} {v : Value} {n : Nat} {cs : List Value} (h : OS E sz base w v n cs) : n ≤ 1099511627776 := h.1
theorem OS.cl {E : TypeId} {sz base : Nat} {w : World} {v : Value} {n : Nat} {cs : List Value} (h : OS E sz base w v n cs) : cs.length = n * sz := h.2.1
theorem OS.lt {E : TypeId} {sz base : Nat} {w : World} {v : Value} {n : Nat} {cs : List Value} (h : OS E sz base w v n cs) (k : Nat) (hk : own v k) : base ≤ k ∧ k < w.heap.size := h.2.lt k hk
theorem OS.step {E : TypeId} {sz base : Nat} {w w' : World} {v : Value} {n : Nat} {cs : List Value} {T : Nat → Prop} (h : OS E sz base w v n cs) (hc : Chg T w w') (hT : ∀ k, own v k → ¬ T k) : OS E sz base w' v n cs := by
  refine ⟨h.1, h.2.1, ?_⟩
  rcases h.2.2 with hn | ⟨g, cap, cur, rfl, hb, hg, rest⟩
  · exact .inl hn
  · refine .inr ⟨g, cap, cur, rfl, hb, ?_, rest⟩
    rw [hc.block g (Array.getElem?_eq_some_iff.1 hg).1 (hT g rfl)]
    exact hg
theorem OS.keep {E : TypeId} {sz base : Nat} {w w' : World} {v : Value} {n : Nat} {cs : List Value} (h : OS E sz base w v n cs) (hc : Chg No w w') : OS E sz base w' v n cs := h.step hc (fun _ _ hk => hk)
theorem OS.alloc {E : TypeId} {sz base : Nat} {w : World} {v : Value} {n : Nat} {cs : List Value} (h : OS E sz base w v n cs) (o : Obj) : OS E sz base (w.alloc o) v n cs := h.keep ((Chg.refl No w).alloc o)
theorem OS.weak {E : TypeId} {sz base base' : Nat} {w : World} {v : Value} {n : Nat} {cs : List Value} (h : OS E sz base w v n cs) (hb : base' ≤ base) : OS E sz base' w v n cs := by
  refine ⟨h.1, h.2.1, ?_⟩
  rcases h.2.2 with hn | ⟨g, cap, cur, rfl, hb', hg, rest⟩
  · exact .inl hn
  · exact .inr ⟨g, cap, cur, rfl, Nat.le_trans hb hb', hg, rest⟩
theorem OS.view {E : TypeId} {sz base : Nat} {w : World} {v : Value} {n : Nat} {cs : List Value} (h : OS E sz base w v n cs) : ∃ a cap, v = .slice a n cap ∧ n ≤ cap ∧ cap ≤ 9223372036854775807 ∧ (a = none → cap = 0) ∧
    (0 < cap → ∃ g, a = some ⟨g, 0, none⟩ ∧ base ≤ g ∧ g < w.heap.size ∧ (∀ i, i < cs.length → w.cell? ⟨g, i, none⟩ = some (cs.getD i undef)) ∧ ∀ i, w.frozen? ⟨g, i, none⟩ = false) := by
  obtain ⟨hl, hlen, hc⟩ := h
  rcases hc with ⟨rfl, h0⟩ | ⟨g, cap, cur, rfl, hb, hg, hn, hm, hs, ht⟩
  · exact ⟨none, 0, by rw [h0], by omega, by omega, fun _ => rfl, fun h => absurd h (by omega)⟩
  · have hO : w.ownsRow base E sz (.slice (some ⟨g, 0, none⟩) n cap) n cs := ⟨hlen, .inr ⟨g, cap, cur, rfl, hb, hg, hn, hm, hs, ht⟩⟩
    unfold maxLen at hm
    refine ⟨_, _, rfl, hn, by omega, by simp, fun _ => ⟨g, rfl, hb, (Array.getElem?_eq_some_iff.1 hg).1, fun i hi => ?_, fun i => hO.frozenAt i⟩⟩
    rw [hO.cellAt i (by omega)]
    simp [List.getD_eq_getElem?_getD, List.getElem?_eq_getElem hi]
theorem OS.read {E : TypeId} {sz base : Nat} {w : World} {v : Value} {n : Nat} {cs : List Value} (h : OS E sz base w v n cs) {A : Nat → Prop} (hA : ∀ k, own v k → ¬ A k) : RF A w v sz n cs := by
  have hcl := h.cl
  obtain ⟨a, cap, rfl, h1, h2, h3, h4⟩ := h.view
  refine ⟨a, cap, rfl, h1, h2, hcl, h3, fun hn => ?_⟩
  obtain ⟨g, rfl, _, hg, hc, _⟩ := h4 (by omega)
  exact ⟨g, 0, rfl, hA g rfl, hg, fun i hi => by rw [Nat.zero_add]; exact hc i hi⟩
theorem OS.readNo {E : TypeId} {sz base : Nat} {w : World} {v : Value} {n : Nat} {cs : List Value} (h : OS E sz base w v n cs) : RF No w v sz n cs := h.read (fun _ _ e => e)
theorem OS.at {E : TypeId} {sz base : Nat} {w : World} {g m cap n : Nat} {cs : List Value} (h : OS E sz base w (.slice (some ⟨g, 0, none⟩) m cap) n cs) :
    (∀ i, i < cs.length → w.cell? ⟨g, i, none⟩ = some (cs.getD i undef)) ∧ (∀ i, w.frozen? ⟨g, i, none⟩ = false) ∧ base ≤ g ∧ g < w.heap.size ∧ m = n ∧ n ≤ cap ∧ cap ≤ 9223372036854775807 := by
  have hb := h.lt g (by simp [own, Value.ownBlock])
  obtain ⟨hl, hlen, hc⟩ := h
  rcases hc with ⟨he, _⟩ | ⟨g', cap', cur, he, hb', hg, hn, hm, hs, ht⟩
  · simp at he
  · simp only [Value.slice.injEq, Option.some.injEq, Addr.mk.injEq, and_true] at he
    obtain ⟨rfl, rfl, rfl⟩ := he
    have hO : w.ownsRow base E sz (.slice (some ⟨g, 0, none⟩) m cap) m cs := ⟨hlen, .inr ⟨g, cap, cur, rfl, hb', hg, hn, hm, hs, ht⟩⟩
    unfold maxLen at hm
    refine ⟨fun i hi => ?_, fun i => hO.frozenAt i, hb.1, hb.2, rfl, hn, by omega⟩
    rw [hO.cellAt i (by omega)]
    simp [List.getD_eq_getElem?_getD, List.getElem?_eq_getElem hi]
theorem OS.store {E : TypeId} {sz base : Nat} {w : World} {g m cap n : Nat} {cs : List Value} (h : OS E sz base w (.slice (some ⟨g, 0, none⟩) m cap) n cs) (i : Nat) (x : Value) :
    OS E sz base (w.setCell ⟨g, i, none⟩ x) (.slice (some ⟨g, 0, none⟩) m cap) n (cs.set i x) ∧ Chg (fun k => k = g) w (w.setCell ⟨g, i, none⟩ x) := by
  obtain ⟨_, _, _, _, rfl, _⟩ := h.at
  obtain ⟨h1, h2⟩ := h.2.stored i x
  exact ⟨⟨h.1, h1⟩, ⟨h2.os, h2.tape, h2.output, h2.size, fun k hk hs => h2.block k hk (fun e => hs (Option.some.inj e))⟩⟩
/-- append(s, x...) -/
theorem run_appS {w : World} {T E : TypeId} {z : Value} {sz bytes : Nat} (t : El T E z sz bytes) (hby : bytes ≤ 128) (ty : TypeId) {base : Nat} {v xv : Value} {n m : Nat} {cs ds : List Value} (hown : OS E sz base w v n cs) (hx : RF No w xv sz m ds) (h1 : ∀ u ∈ ds, u.oneCell' = true)
    (hl : n + m ≤ 1099511627776) (hbase : base ≤ w.heap.size) :
    ∃ v' w', (Builtin.append_ #[T, T] ty #[v, xv]).run Tryz.prog w = .ok v' w' ∧ OS E sz base w' v' (n + m) (cs ++ ds) ∧ Chg (own v) w w' ∧ (∀ k, own v' k → own v k ∨ w.heap.size ≤ k) := by
  obtain ⟨i0, hi, hz0, hz1, hz2⟩ := t.info
  have hb1 : (n + m) * bytes ≤ 140737488355328 := Nat.le_trans (Nat.mul_le_mul hl hby) (by omega)
  obtain ⟨ao, c, rfl, hx1, hx2, hx3, hx0, hx4⟩ := hx
  cases ao with
  | none =>
    have hc0 := hx0 rfl
    subst hc0
    have hm0 : m = 0 := by omega
    subst hm0
    have hd0 : ds = [] := List.eq_nil_of_length_eq_zero (by omega)
    subst hd0
    refine ⟨v, w, run_append_owned_none (P := Tryz.prog) w base T ty E i0 sz t.und hi _ _ _ hown.2, by simpa using hown, Chg.refl _ _, fun k hk => .inl hk⟩
  | some ad =>
    have hnews : ∀ j u, ds[j]? = some u → w.cell? (ad.add j) = some u := by
      intro j u hj
      have hjl : j < ds.length := (List.getElem?_eq_some_iff.1 hj).1
      have hm0 : 0 < m := by
        rcases Nat.eq_zero_or_pos m with h | h
        · subst h; simp at hx3; subst hx3; simp at hjl
        · exact h
      obtain ⟨b, off, he, _, _, hcell⟩ := hx4 hm0
      obtain rfl := Option.some.inj he
      rw [Addr.add_lit, hcell j hjl, List.getD_eq_getElem?_getD, hj]
      rfl
    obtain ⟨v', w', hr, ho, hg, _⟩ := run_append_own (P := Tryz.prog) w base T ty E i0 z sz bytes t.und hi hz0 hz1 hz2 t.zs t.pos v n _ hown.2 ad m c ds hx3 hnews h1 (by unfold maxLen; omega) hb1 hbase
    refine ⟨v', w', hr, ⟨hl, ho⟩, Chg.grown hg, fun k hk => ?_⟩
    rcases hown.2.2 with ⟨rfl, h0⟩ | ⟨g, cap, cur, rfl, hbg, hgg, hnc, hcm, hcs, htake⟩
    · subst h0
      have hc0 : cs = [] := List.eq_nil_of_length_eq_zero (by have := hown.cl; omega)
      subst hc0
      obtain ⟨v2, w2, hr2, ho2, _, _⟩ := run_append_own (P := Tryz.prog) w w.heap.size T ty E i0 z sz bytes t.und hi hz0 hz1 hz2 t.zs t.pos _ 0 _ (World.ownsRow_nil _ _ _ _) ad m c ds hx3 hnews h1 (by unfold maxLen; omega) hb1 (Nat.le_refl _)
      rw [hr] at hr2
      simp only [Result.ok.injEq] at hr2
      obtain ⟨rfl, rfl⟩ := hr2
      exact .inr (ho2.lt k hk).1
    · by_cases hroom : n + m ≤ cap
      · obtain ⟨w2, hr2, _, _⟩ := run_append_fits (P := Tryz.prog) w base T ty E i0 sz t.und hi hz1 g n cap _ hown.2 ad m c ds hx3 hnews h1 hroom
        rw [hr] at hr2
        simp only [Result.ok.injEq] at hr2
        obtain ⟨rfl, rfl⟩ := hr2
        exact .inl (by rw [own_slice] at hk ⊢; exact hk)
      · have hfit : Builtin.nextslicecap (n + m) cap * i0.bytes ≤ 281474976710656 := by rw [hz2]; exact growslice_fits (by omega) (by omega)
        have hr2 := run_append_grow (P := Tryz.prog) w T ty E i0 z t.und hi hz0 ⟨g, 0, none⟩ n cap cs (by rw [hown.cl, hz1])
          (hown.2.cells (g := g) rfl) ad m c ds (by rw [hx3, hz1]) hnews (by omega) (by omega) hfit
        rw [hr] at hr2
        simp only [Result.ok.injEq] at hr2
        obtain ⟨rfl, rfl⟩ := hr2
        rw [own_slice] at hk
        exact .inr (by omega)

theorem wappS {ops : Array Oper} {rest : List Oper} {o : Oper} {a : Act} {Q : Exit → Act → World → Prop} {w : World} {T E : TypeId} {z : Value} {sz bytes : Nat} (t : El T E z sz bytes) (hby : bytes ≤ 128) (hgd : o.guard = none) (s x : Operand)
    (ho : o.op = .call { callee := .builtin .append, args := #[s, x], argTypes := #[T, T] })
    {base : Nat} {v xv : Value} {n m : Nat} {cs ds : List Value} (hown : OS E sz base w v n cs) (hxr : RF No w xv sz m ds) (h1 : ∀ u ∈ ds, u.oneCell' = true) (hs : a.eval s = v) (hx : a.eval x = xv) (hl : n + m ≤ 1099511627776) (hbase : base ≤ w.heap.size)
    (h : ∀ v' w', OS E sz base w' v' (n + m) (cs ++ ds) → Chg (own v) w w' → (∀ k, own v' k → own v k ∨ w.heap.size ≤ k) → wpList Tryz.prog ops Q rest (a.put o.dst v') w') : wpList Tryz.prog ops Q (o :: rest) a w := by
  obtain ⟨v', w', hr, h1, h2, h3⟩ := run_appS t hby o.type hown hxr h1 hl hbase
  refine wpList_plain hgd fun _ hK => ?_
  unfold Oper.wp execOp
  simp only [ho, resolve, invoke, builtin, Sem.run_bind, Sem.run_pure, Result.andThen_ok, List.map_toArray, List.map_cons, List.map_nil, hs, hx, hr]
  exact hK _ _ (h v' w' h1 h2 h3)

/-- append(s, e): the element's cells lie in the block that was made last -/
theorem wappS1 {ops : Array Oper} {rest : List Oper} {o : Oper} {a : Act} {Q : Exit → Act → World → Prop} {w : World} {T E : TypeId} {z : Value} {sz bytes : Nat} (t : El T E z sz bytes) (hby : bytes ≤ 128) (hgd : o.guard = none) (s x : Operand)
    (ho : o.op = .call { callee := .builtin .append, args := #[s, x], argTypes := #[T, T] })
    {base : Nat} {v : Value} {n : Nat} {cs : List Value} {ds : Array Value} {e : TypeId} (hown : OS E sz base w v n cs) (hd : ds.size = sz) (h1 : ∀ u ∈ ds.toList, u.oneCell' = true) (hs : a.eval s = v) (hx : a.eval x = .slice (some ⟨w.heap.size, 0, none⟩) 1 1)
    (hl : n < 1099511627776) (hbase : base ≤ w.heap.size)
    (h : ∀ v' w', OS E sz base w' v' (n + 1) (cs ++ ds.toList) → Chg (own v) w w' → (∀ k, own v' k → own v k ∨ w.heap.size ≤ k) → wpList Tryz.prog ops Q rest (a.put o.dst v') w') :
    wpList Tryz.prog ops Q (o :: rest) a (w.alloc (.cells ds e)) := by
  have hr : RF No (w.alloc (.cells ds e)) (.slice (some ⟨w.heap.size, 0, none⟩) 1 1) sz 1 ds.toList :=
    ⟨_, _, rfl, Nat.le_refl _, by omega, by simp [hd], by simp, fun _ => ⟨w.heap.size, 0, rfl, fun e => e, by simp, fun i hi => by
      rw [World.cell?_alloc_new]
      have hi' : i < ds.size := by simpa using hi
      simp [List.getD_eq_getElem?_getD, hi']⟩⟩
  refine wappS t hby hgd s x ho (hown.alloc _) hr h1 hs hx (by omega) (by simp; omega) (fun v' w' h1 h2 h3 => ?_)
  refine h v' w' h1 (((Chg.refl (own v) w).alloc _).trans h2) (fun k hk => ?_) |> fun x => x
  rcases h3 k hk with h | h
  · exact .inl h
  · simp at h
    exact .inr (by omega)

theorem elInts : El 29 25 (.slice none 0 0) 1 24 := El.mk' Tryz.underlying29 (by kernel_rfl) rfl (by omega)

/-- v is a slice of slices of int that reads as ll; nothing of it lies in a block of A -/
def RII (A : Nat → Prop) (w : World) (v : Value) (ll : List (List Int)) : Prop :=
  ll.length ≤ 1099511627776 ∧ ∃ vs, vs.length = ll.length ∧ RF A w v 1 ll.length vs ∧ ∀ i, i < ll.length → RI A w (vs.getD i undef) (ll.getD i [])
theorem RII.step {A T : Nat → Prop} {w w' : World} {v : Value} {ll : List (List Int)} (h : RII A w v ll) (hc : Chg T w w') (hT : ∀ k, T k → A k) : RII A w' v ll := by
  obtain ⟨h0, vs, h1, h2, h3⟩ := h
  exact ⟨h0, vs, h1, h2.step hc hT, fun i hi => (h3 i hi).step hc hT⟩
theorem RII.keep {A : Nat → Prop} {w w' : World} {v : Value} {ll : List (List Int)} (h : RII A w v ll) (hc : Chg No w w') : RII A w' v ll := h.step hc (fun _ hk => hk.elim)
theorem RII.weak {A B : Nat → Prop} {w : World} {v : Value} {ll : List (List Int)} (h : RII A w v ll) (hB : ∀ k, B k → k < w.heap.size → A k) : RII B w v ll := by
  obtain ⟨h0, vs, h1, h2, h3⟩ := h
  exact ⟨h0, vs, h1, h2.weak hB, fun i hi => (h3 i hi).weak hB⟩
theorem RII.len {A : Nat → Prop} {w : World} {v : Value} {ll : List (List Int)} (h : RII A w v ll) : ll.length ≤ 1099511627776 := h.1
/-- its value, and the cell of each of its slices -/
theorem RII.view {A : Nat → Prop} {w : World} {v : Value} {ll : List (List Int)} (h : RII A w v ll) : ∃ a cap, v = .slice a ll.length cap ∧ ll.length ≤ cap ∧ cap ≤ 9223372036854775807 ∧
    ∀ i, i < ll.length → ∃ b off x, a = some ⟨b, off, none⟩ ∧ ¬ A b ∧ b < w.heap.size ∧ w.cell? ⟨b, off + i, none⟩ = some x ∧ RI A w x (ll.getD i []) := by
  obtain ⟨h0, vs, h1, ⟨a, cap, rfl, h4, h5, h6, h7, h8⟩, h3⟩ := h
  refine ⟨a, cap, rfl, h4, h5, fun i hi => ?_⟩
  obtain ⟨b, off, rfl, hA, hb, hc⟩ := h8 (by omega)
  exact ⟨b, off, _, rfl, hA, hb, hc i (by omega), h3 i hi⟩
theorem RII.nil (A : Nat → Prop) (w : World) : RII A w (.slice none 0 0) [] := ⟨by simp, [], rfl, ⟨none, 0, rfl, Nat.le_refl _, by omega, rfl, fun _ => rfl, fun h => absurd h (by simp)⟩, fun i hi => by simp at hi⟩

/-- v is a slice of slices of int that the call owns, each of them too; its blocks are those of F -/
def OII (base : Nat) (w : World) (v : Value) (ll : List (List Int)) (F : Nat → Prop) : Prop :=
  ∃ vs, vs.length = ll.length ∧ OS 25 1 base w v ll.length vs ∧ (∀ i, i < ll.length → OI base w (vs.getD i undef) (ll.getD i [])) ∧
    (∀ i, i < ll.length → ∀ q, own v q → ¬ own (vs.getD i undef) q) ∧ (∀ i j, i < j → j < ll.length → ∀ q, own (vs.getD i undef) q → ¬ own (vs.getD j undef) q) ∧
    ∀ q, F q ↔ own v q ∨ ∃ i, i < ll.length ∧ own (vs.getD i undef) q
theorem OII.lt {base : Nat} {w : World} {v : Value} {ll : List (List Int)} {F : Nat → Prop} (h : OII base w v ll F) (q : Nat) (hq : F q) : base ≤ q ∧ q < w.heap.size := by
  obtain ⟨vs, h1, h2, h3, h4, h5, h6⟩ := h
  rcases (h6 q).1 hq with h | ⟨i, hi, h⟩
  · exact h2.lt q h
  · exact (h3 i hi).lt q h
theorem OII.step {base : Nat} {w w' : World} {v : Value} {ll : List (List Int)} {F T : Nat → Prop} (h : OII base w v ll F) (hc : Chg T w w') (hT : ∀ q, F q → ¬ T q) : OII base w' v ll F := by
  obtain ⟨vs, h1, h2, h3, h4, h5, h6⟩ := h
  exact ⟨vs, h1, h2.step hc (fun q hq => hT q ((h6 q).2 (.inl hq))), fun i hi => (h3 i hi).step hc (fun q hq => hT q ((h6 q).2 (.inr ⟨i, hi, hq⟩))), h4, h5, h6⟩
theorem OII.keep {base : Nat} {w w' : World} {v : Value} {ll : List (List Int)} {F : Nat → Prop} (h : OII base w v ll F) (hc : Chg No w w') : OII base w' v ll F := h.step hc (fun _ _ e => e)
theorem OII.weak {base base' : Nat} {w : World} {v : Value} {ll : List (List Int)} {F : Nat → Prop} (h : OII base w v ll F) (hb : base' ≤ base) : OII base' w v ll F := by
  obtain ⟨vs, h1, h2, h3, h4, h5, h6⟩ := h
  exact ⟨vs, h1, h2.weak hb, fun i hi => (h3 i hi).weak hb, h4, h5, h6⟩
theorem OII.len {base : Nat} {w : World} {v : Value} {ll : List (List Int)} {F : Nat → Prop} (h : OII base w v ll F) : ll.length ≤ 1099511627776 := by
  obtain ⟨vs, h1, h2, _⟩ := h; exact h2.1
theorem OII.read {base : Nat} {w : World} {v : Value} {ll : List (List Int)} {F A : Nat → Prop} (h : OII base w v ll F) (hA : ∀ q, F q → ¬ A q) : RII A w v ll := by
  obtain ⟨vs, h1, h2, h3, h4, h5, h6⟩ := h
  exact ⟨h2.1, vs, h1, h2.read (fun q hq => hA q ((h6 q).2 (.inl hq))), fun i hi => (h3 i hi).read (fun q hq => hA q ((h6 q).2 (.inr ⟨i, hi, hq⟩)))⟩
theorem OII.readNo {base : Nat} {w : World} {v : Value} {ll : List (List Int)} {F : Nat → Prop} (h : OII base w v ll F) : RII No w v ll := h.read (fun _ _ e => e)
theorem OII.nil (base : Nat) (w : World) : OII base w (.slice none 0 0) [] No :=
  ⟨[], rfl, OS.nil _ _ _ _, fun i hi => by simp at hi, fun i hi => by simp at hi, fun i j _ hj => by simp at hj, fun q => ⟨fun e => e.elim, fun e => by rcases e with e | ⟨i, hi, _⟩ <;> simp_all [own, Value.ownBlock]⟩⟩
theorem OII.zero {base : Nat} {w : World} (hb : base ≤ w.heap.size) : OII base (w.alloc (.cells #[] 25)) (.slice (some ⟨w.heap.size, 0, none⟩) 0 0) [] (fun q => q = w.heap.size) :=
  ⟨[], rfl, OS.zero hb, fun i hi => by simp at hi, fun i hi => by simp at hi, fun i j _ hj => by simp at hj, fun q => ⟨fun e => .inl (own_slice.2 e), fun e => by
    rcases e with e | ⟨i, hi, _⟩
    · exact own_slice.1 e
    · simp at hi⟩⟩
theorem getD_snoc_lt {α : Type} (l : List α) (x d : α) {i : Nat} (h : i < l.length) : (l ++ [x]).getD i d = l.getD i d := by
  simp [List.getD_eq_getElem?_getD, List.getElem?_append_left h]
theorem getD_snoc_eq {α : Type} (l : List α) (x d : α) : (l ++ [x]).getD l.length d = x := by
  simp [List.getD_eq_getElem?_getD]
/-- what is known behind append(v, x) -/
theorem OII.app {base : Nat} {w w' : World} {v v' xv : Value} {ll : List (List Int)} {l : List Int} {F : Nat → Prop} {vs : List Value} (h1 : vs.length = ll.length) (h3 : ∀ i, i < ll.length → OI base w (vs.getD i undef) (ll.getD i []))
    (h4 : ∀ i, i < ll.length → ∀ q, own v q → ¬ own (vs.getD i undef) q) (h5 : ∀ i j, i < j → j < ll.length → ∀ q, own (vs.getD i undef) q → ¬ own (vs.getD j undef) q) (h6 : ∀ q, F q ↔ own v q ∨ ∃ i, i < ll.length ∧ own (vs.getD i undef) q)
    (hx : OI base w xv l) (hd : ∀ q, own xv q → ¬ F q) (ho : OS 25 1 base w' v' (ll.length + 1) (vs ++ [xv])) (hc : Chg (own v) w w') (hn : ∀ q, own v' q → own v q ∨ w.heap.size ≤ q) :
    ∃ F', OII base w' v' (ll ++ [l]) F' ∧ ∀ q, F' q → F q ∨ own xv q ∨ w.heap.size ≤ q := by
  have hvx : ∀ q, own v q → ¬ own xv q := fun q h h' => hd q h' ((h6 q).2 (.inl h))
  refine ⟨fun q => own v' q ∨ ∃ i, i < (ll ++ [l]).length ∧ own ((vs ++ [xv]).getD i undef) q, ⟨vs ++ [xv], by simp [h1], by simpa using ho, fun i hi => ?_, fun i hi q hq => ?_, fun i j hij hj q hq => ?_, fun q => Iff.rfl⟩, fun q hq => ?_⟩
  · by_cases hil : i < ll.length
    · rw [getD_snoc_lt _ _ _ (by omega), getD_snoc_lt _ _ _ hil]
      exact (h3 i hil).step hc (fun q hq hq' => h4 i hil q hq' hq)
    · have : i = ll.length := by simp at hi; omega
      subst this
      rw [← h1, getD_snoc_eq, h1, getD_snoc_eq]
      exact hx.step hc (fun q hq hq' => hvx q hq' hq)
  · by_cases hil : i < ll.length
    · rw [getD_snoc_lt _ _ _ (by omega)]
      intro hq'
      rcases hn q hq with h | h
      · exact h4 i hil q h hq'
      · have := ((h3 i hil).lt q hq').2; omega
    · have : i = ll.length := by simp at hi; omega
      subst this
      rw [← h1, getD_snoc_eq]
      intro hq'
      rcases hn q hq with h | h
      · exact hvx q h hq'
      · have := (hx.lt q hq').2; omega
  · have hil : i < ll.length := by simp at hj; omega
    rw [getD_snoc_lt _ _ _ (by omega)] at hq
    by_cases hjl : j < ll.length
    · rw [getD_snoc_lt _ _ _ (by omega)]
      exact h5 i j hij hjl q hq
    · have : j = ll.length := by simp at hj; omega
      subst this
      rw [← h1, getD_snoc_eq]
      exact fun hq' => hd q hq' ((h6 q).2 (.inr ⟨i, hil, hq⟩))
  · rcases hq with hq | ⟨i, hi, hq⟩
    · rcases hn q hq with h | h
      · exact .inl ((h6 q).2 (.inl h))
      · exact .inr (.inr h)
    · by_cases hil : i < ll.length
      · rw [getD_snoc_lt _ _ _ (by omega)] at hq
        exact .inl ((h6 q).2 (.inr ⟨i, hil, hq⟩))
      · have : i = ll.length := by simp at hi; omega
        subst this
        rw [← h1, getD_snoc_eq] at hq
        exact .inr (.inl hq)
end Go.Proofs.YtdgcohoneijleaaGreat
