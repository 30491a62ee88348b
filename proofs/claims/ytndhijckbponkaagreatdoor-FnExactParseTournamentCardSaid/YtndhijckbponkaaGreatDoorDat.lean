import Derived.Test.YtndhijckbponkaaGreatDoorPkX2
import Derived.Deep.Matrix
/- slices of any cells, read ('RF') and owned ('OS'); slices of slices of int, read ('RII') and owned ('OII') -/
namespace Go.Proofs.YtndhijckbponkaaGreatDoor
open Go.RowKit

/-- v is a slice of n elements of sz cells each; its cells are cs; it lies in no block of A -/
def RF (A : Nat → Prop) (w : World) (v : Value) (sz n : Nat) (cs : List Value) : Prop :=
  ∃ a cap, v = .slice a n cap ∧ n ≤ cap ∧ cap ≤ 9223372036854775807 ∧ cs.length = n * sz ∧ (a = none → cap = 0) ∧
    (0 < n → ∃ b off, a = some ⟨b, off, none⟩ ∧ ¬ A b ∧ b < w.heap.size ∧ ∀ i, i < cs.length → w.cell? ⟨b, off + i, none⟩ = some (cs.getD i undef))
theorem RF.step {A T : Nat → Prop} {w w' : World} {v : Value} {sz n : Nat} {cs : List Value} (h : RF A w v sz n cs) (hc : Chg T w w') (hT : ∀ k, T k → A k) : RF A w' v sz n cs := by
  obtain ⟨a, cap, rfl, h1, h2, h3, h0, h4⟩ := h
  refine ⟨a, cap, rfl, h1, h2, h3, h0, fun hl => ?_⟩
  obtain ⟨b, off, rfl, hA, hb, hcell⟩ := h4 hl
  exact ⟨b, off, rfl, hA, Nat.lt_of_lt_of_le hb hc.size, fun i hi => (hc.cellD b (off + i) hb (fun ht => hA (hT b ht))).trans (hcell i hi)⟩
theorem RF.keep {A : Nat → Prop} {w w' : World} {v : Value} {sz n : Nat} {cs : List Value} (h : RF A w v sz n cs) (hc : Chg No w w') : RF A w' v sz n cs := h.step hc (fun _ hk => hk.elim)
theorem RF.weak {A B : Nat → Prop} {w : World} {v : Value} {sz n : Nat} {cs : List Value} (h : RF A w v sz n cs) (hB : ∀ k, B k → k < w.heap.size → A k) : RF B w v sz n cs := by
  obtain ⟨a, cap, rfl, h1, h2, h3, h0, h4⟩ := h
  refine ⟨a, cap, rfl, h1, h2, h3, h0, fun hl => ?_⟩
  obtain ⟨b, off, rfl, hA, hb, hcell⟩ := h4 hl
  exact ⟨b, off, rfl, fun hk => hA (hB b hk hb), hb, hcell⟩
theorem RF.to {A B S : Nat → Prop} {w w' : World} {v : Value} {sz n : Nat} {cs : List Value} (h : RF A w v sz n cs) (hc : Chg S w w') (hS : ∀ q, S q → A q) (hB : ∀ q, B q → A q ∨ w.heap.size ≤ q) : RF B w' v sz n cs := by
  obtain ⟨a, cap, rfl, h1, h2, h3, h0, h4⟩ := h
  refine ⟨a, cap, rfl, h1, h2, h3, h0, fun hl => ?_⟩
  obtain ⟨b, off, rfl, hA, hb, hcell⟩ := h4 hl
  refine ⟨b, off, rfl, fun hk => ?_, Nat.lt_of_lt_of_le hb hc.size, fun i hi => (hc.cellD b (off + i) hb (fun ht => hA (hS b ht))).trans (hcell i hi)⟩
  rcases hB b hk with h | h
  · exact hA h
  · omega
theorem RF.shape {A : Nat → Prop} {w : World} {v : Value} {sz n : Nat} {cs : List Value} (h : RF A w v sz n cs) : ∃ a cap, v = .slice a n cap := by
  obtain ⟨a, cap, h, _⟩ := h; exact ⟨_, _, h⟩
/-- what is known of a slice's type and of its elements' -/
structure El (T E : TypeId) (z : Value) (sz bytes : Nat) : Prop where
  und : Tryz.prog.underlying T = some (.slice E)
  info : ∃ i, Tryz.prog.info? E = some i ∧ i.zero = some z ∧ i.size = sz ∧ i.bytes = bytes
  zs : z.cells.size = sz
  pos : 0 < sz
theorem El.mk' {T E : TypeId} {z : Value} {sz bytes : Nat} (h1 : Tryz.prog.underlying T = some (.slice E)) (h2 : (Tryz.prog.info? E).map (fun i => (i.zero, i.size, i.bytes)) = some (some z, sz, bytes)) (h3 : z.cells.size = sz) (h4 : 0 < sz) : El T E z sz bytes := by
  obtain ⟨i0, hi, hz0, hz1, hz2⟩ := info_parts h2
  exact ⟨h1, ⟨i0, hi, hz0, hz1, hz2⟩, h3, h4⟩

/-- v is a slice of n elements that the call owns, in a block from base on -/
def OS (E : TypeId) (sz base : Nat) (w : World) (v : Value) (n : Nat) (cs : List Value) : Prop := n ≤ 1099511627776 ∧ w.ownsRow base E sz v n cs
theorem OS.nil (E : TypeId) (sz base : Nat) (w : World) : OS E sz base w (.slice none 0 0) 0 [] := ⟨by simp, World.ownsRow_nil _ _ _ _⟩
theorem OS.zero {E : TypeId} {sz base : Nat} {w : World} (hb : base ≤ w.heap.size) : OS E sz base (w.alloc (.cells #[] E)) (.slice (some ⟨w.heap.size, 0, none⟩) 0 0) 0 [] :=
  ⟨by simp, World.ownsRow_made w #[] 0 hb (by unfold maxLen; omega) (by simp)⟩
theorem OS.lit {E : TypeId} {sz base : Nat} {w : World} (cs : Array Value) (n : Nat) (hb : base ≤ w.heap.size) (hn : n ≤ 1099511627776) (hs : cs.size = n * sz) : OS E sz base (w.alloc (.cells cs E)) (.slice (some ⟨w.heap.size, 0, none⟩) n n) n cs.toList :=
  ⟨hn, World.ownsRow_lit w cs n hb (by unfold maxLen; omega) hs⟩
theorem OS.len {E : TypeId} {sz base : Nat} {w : World} {v : Value} {n : Nat} {cs : List Value} (h : OS E sz base w v n cs) : n ≤ 1099511627776 := h.1
theorem OS.cl {E : TypeId} {sz base : Nat} {w : World} {v : Value} {n : Nat} {cs : List Value} (h : OS E sz base w v n cs) : cs.length = n * sz := h.2.1
theorem OS.lt {E : TypeId} {sz base : Nat} {w : World} {v : Value} {n : Nat} {cs : List Value} (h : OS E sz base w v n cs) (k : Nat) (hk : own v k) : base ≤ k ∧ k < w.heap.size := h.2.lt k hk
theorem OS.step {E : TypeId} {sz base : Nat} {w w' : World} {v : Value} {n : Nat} {cs : List Value} {T : Nat → Prop} (h : OS E sz base w v n cs) (hc : Chg T w w') (hT : ∀ k, own v k → ¬ T k) : OS E sz base w' v n cs := by
  refine ⟨h.1, h.2.1, ?_⟩
  rcases h.2.2 with hn | ⟨g, cap, cur, rfl, hb, hg, rest⟩
  · exact .inl hn
  · refine .inr ⟨g, cap, cur, rfl, hb, ?_, rest⟩
    rw [hc.block g (Array.getElem?_eq_some_iff.1 hg).1 (hT g rfl)]
    exact hg
theorem OS.keep {E : TypeId} {sz base : Nat} {w w' : World} {v : Value} {n : Nat} {cs : List Value} (h : OS E sz base w v n cs) (hc : Chg No w w') : OS E sz base w' v n cs := h.step hc (fun _ _ hk => hk)
theorem OS.alloc {E : TypeId} {sz base : Nat} {w : World} {v : Value} {n : Nat} {cs : List Value} (h : OS E sz base w v n cs) (o : Obj) : OS E sz base (w.alloc o) v n cs := h.keep ((Chg.refl No w).alloc o)
theorem OS.weak {E : TypeId} {sz base base' : Nat} {w : World} {v : Value} {n : Nat} {cs : List Value} (h : OS E sz base w v n cs) (hb : base' ≤ base) : OS E sz base' w v n cs := by
  refine ⟨h.1, h.2.1, ?_⟩
  rcases h.2.2 with hn | ⟨g, cap, cur, rfl, hb', hg, rest⟩
  · exact .inl hn
  · exact .inr ⟨g, cap, cur, rfl, Nat.le_trans hb hb', hg, rest⟩
theorem OS.view {E : TypeId} {sz base : Nat} {w : World} {v : Value} {n : Nat} {cs : List Value} (h : OS E sz base w v n cs) : ∃ a cap, v = .slice a n cap ∧ n ≤ cap ∧ cap ≤ 9223372036854775807 ∧ (a = none → cap = 0) ∧
    (0 < cap → ∃ g, a = some ⟨g, 0, none⟩ ∧ base ≤ g ∧ g < w.heap.size ∧ (∀ i, i < cs.length → w.cell? ⟨g, i, none⟩ = some (cs.getD i undef)) ∧ ∀ i, w.frozen? ⟨g, i, none⟩ = false) := by
  obtain ⟨hl, hlen, hc⟩ := h
  rcases hc with ⟨rfl, h0⟩ | ⟨g, cap, cur, rfl, hb, hg, hn, hm, hs, ht⟩
  · exact ⟨none, 0, by rw [h0], by omega, by omega, fun _ => rfl, fun h => absurd h (by omega)⟩
  · have hO : w.ownsRow base E sz (.slice (some ⟨g, 0, none⟩) n cap) n cs := ⟨hlen, .inr ⟨g, cap, cur, rfl, hb, hg, hn, hm, hs, ht⟩⟩
    unfold maxLen at hm
    refine ⟨_, _, rfl, hn, by omega, by simp, fun _ => ⟨g, rfl, hb, (Array.getElem?_eq_some_iff.1 hg).1, fun i hi => ?_, fun i => hO.frozenAt i⟩⟩
    rw [hO.cellAt i (by omega)]
    simp [List.getD_eq_getElem?_getD, List.getElem?_eq_getElem hi]
theorem OS.read {E : TypeId} {sz base : Nat} {w : World} {v : Value} {n : Nat} {cs : List Value} (h : OS E sz base w v n cs) {A : Nat → Prop} (hA : ∀ k, own v k → ¬ A k) : RF A w v sz n cs := by
  have hcl := h.cl
  obtain ⟨a, cap, rfl, h1, h2, h3, h4⟩ := h.view
  refine ⟨a, cap, rfl, h1, h2, hcl, h3, fun hn => ?_⟩
  obtain ⟨g, rfl, _, hg, hc, _⟩ := h4 (by omega)
  exact ⟨g, 0, rfl, hA g rfl, hg, fun i hi => by rw [Nat.zero_add]; exact hc i hi⟩
theorem OS.readNo {E : TypeId} {sz base : Nat} {w : World} {v : Value} {n : Nat} {cs : List Value} (h : OS E sz base w v n cs) : RF No w v sz n cs := h.read (fun _ _ e => e)
theorem OS.at {E : TypeId} {sz base : Nat} {w : World} {g m cap n : Nat} {cs : List Value} (h : OS E sz base w (.slice (some ⟨g, 0, none⟩) m cap) n cs) :
    (∀ i, i < cs.length → w.cell? ⟨g, i, none⟩ = some (cs.getD i undef)) ∧ (∀ i, w.frozen? ⟨g, i, none⟩ = false) ∧ base ≤ g ∧ g < w.heap.size ∧ m = n ∧ n ≤ cap ∧ cap ≤ 9223372036854775807 := by
  have hb := h.lt g (by simp [own, Value.ownBlock])
  obtain ⟨hl, hlen, hc⟩ := h
  rcases hc with ⟨he, _⟩ | ⟨g', cap', cur, he, hb', hg, hn, hm, hs, ht⟩
  · simp at he
  · simp only [Value.slice.injEq, Option.some.injEq, Addr.mk.injEq, and_true] at he
    obtain ⟨rfl, rfl, rfl⟩ := he
    have hO : w.ownsRow base E sz (.slice (some ⟨g, 0, none⟩) m cap) m cs := ⟨hlen, .inr ⟨g, cap, cur, rfl, hb', hg, hn, hm, hs, ht⟩⟩
    unfold maxLen at hm
    refine ⟨fun i hi => ?_, fun i => hO.frozenAt i, hb.1, hb.2, rfl, hn, by omega⟩
    rw [hO.cellAt i (by omega)]
    simp [List.getD_eq_getElem?_getD, List.getElem?_eq_getElem hi]
theorem OS.store {E : TypeId} {sz base : Nat} {w : World} {g m cap n : Nat} {cs : List Value} (h : OS E sz base w (.slice (some ⟨g, 0, none⟩) m cap) n cs) (i : Nat) (x : Value) :
    OS E sz base (w.setCell ⟨g, i, none⟩ x) (.slice (some ⟨g, 0, none⟩) m cap) n (cs.set i x) ∧ Chg (fun k => k = g) w (w.setCell ⟨g, i, none⟩ x) := by
  obtain ⟨_, _, _, _, rfl, _⟩ := h.at
  obtain ⟨h1, h2⟩ := h.2.stored i x
  exact ⟨⟨h.1, h1⟩, ⟨h2.os, h2.tape, h2.output, h2.size, fun k hk hs => h2.block k hk (fun e => hs (Option.some.inj e))⟩⟩
/-- append(s, x...) -/
theorem run_appS {w : World} {T E : TypeId} {z : Value} {sz bytes : Nat} (t : El T E z sz bytes) (hby : bytes ≤ 128) (ty : TypeId) {base : Nat} {v xv : Value} {n m : Nat} {cs ds : List Value} (hown : OS E sz base w v n cs) (hx : RF No w xv sz m ds) (h1 : ∀ u ∈ ds, u.oneCell' = true)
    (hl : n + m ≤ 1099511627776) (hbase : base ≤ w.heap.size) :
    ∃ v' w', (Builtin.append_ #[T, T] ty #[v, xv]).run Tryz.prog w = .ok v' w' ∧ OS E sz base w' v' (n + m) (cs ++ ds) ∧ Chg (own v) w w' ∧ (∀ k, own v' k → own v k ∨ w.heap.size ≤ k) := by
  obtain ⟨i0, hi, hz0, hz1, hz2⟩ := t.info
  have hb1 : (n + m) * bytes ≤ 140737488355328 := Nat.le_trans (Nat.mul_le_mul hl hby) (by omega)
  obtain ⟨ao, c, rfl, hx1, hx2, hx3, hx0, hx4⟩ := hx
  cases ao with
  | none =>
    have hc0 := hx0 rfl
    subst hc0
    have hm0 : m = 0 := by omega
    subst hm0
    have hd0 : ds = [] := List.eq_nil_of_length_eq_zero (by omega)
    subst hd0
    refine ⟨v, w, run_append_owned_none (P := Tryz.prog) w base T ty E i0 sz t.und hi _ _ _ hown.2, by simpa using hown, Chg.refl _ _, fun k hk => .inl hk⟩
  | some ad =>
    have hnews : ∀ j u, ds[j]? = some u → w.cell? (ad.add j) = some u := by
      intro j u hj
      have hjl : j < ds.length := (List.getElem?_eq_some_iff.1 hj).1
      have hm0 : 0 < m := by
        rcases Nat.eq_zero_or_pos m with h | h
        · subst h; simp at hx3; subst hx3; simp at hjl
        · exact h
      obtain ⟨b, off, he, _, _, hcell⟩ := hx4 hm0
      obtain rfl := Option.some.inj he
      rw [Addr.add_lit, hcell j hjl, List.getD_eq_getElem?_getD, hj]
      rfl
    obtain ⟨v', w', hr, ho, hg, _⟩ := run_append_own (P := Tryz.prog) w base T ty E i0 z sz bytes t.und hi hz0 hz1 hz2 t.zs t.pos v n _ hown.2 ad m c ds hx3 hnews h1 (by unfold maxLen; omega) hb1 hbase
    refine ⟨v', w', hr, ⟨hl, ho⟩, Chg.grown hg, fun k hk => ?_⟩
    rcases hown.2.2 with ⟨rfl, h0⟩ | ⟨g, cap, cur, rfl, hbg, hgg, hnc, hcm, hcs, htake⟩
    · subst h0
      have hc0 : cs = [] := List.eq_nil_of_length_eq_zero (by have := hown.cl; omega)
      subst hc0
      obtain ⟨v2, w2, hr2, ho2, _, _⟩ := run_append_own (P := Tryz.prog) w w.heap.size T ty E i0 z sz bytes t.und hi hz0 hz1 hz2 t.zs t.pos _ 0 _ (World.ownsRow_nil _ _ _ _) ad m c ds hx3 hnews h1 (by unfold maxLen; omega) hb1 (Nat.le_refl _)
      rw [hr] at hr2
      simp only [Result.ok.injEq] at hr2
      obtain ⟨rfl, rfl⟩ := hr2
      exact .inr (ho2.lt k hk).1
    · by_cases hroom : n + m ≤ cap
      · obtain ⟨w2, hr2, _, _⟩ := run_append_fits (P := Tryz.prog) w base T ty E i0 sz t.und hi hz1 g n cap _ hown.2 ad m c ds hx3 hnews h1 hroom
        rw [hr] at hr2
        simp only [Result.ok.injEq] at hr2
        obtain ⟨rfl, rfl⟩ := hr2
        exact .inl (by rw [own_slice] at hk ⊢; exact hk)
      · have hfit : Builtin.nextslicecap (n + m) cap * i0.bytes ≤ 281474976710656 := by rw [hz2]; exact growslice_fits (by omega) (by omega)
        have hr2 := run_append_grow (P := Tryz.prog) w T ty E i0 z t.und hi hz0 ⟨g, 0, none⟩ n cap cs (by rw [hown.cl, hz1])
          (hown.2.cells (g := g) rfl) ad m c ds (by rw [hx3, hz1]) hnews (by omega) (by omega) hfit
        rw [hr] at hr2
        simp only [Result.ok.injEq] at hr2
        obtain ⟨rfl, rfl⟩ := hr2
        rw [own_slice] at hk
        exact .inr (by omega)

theorem wappS {ops : Array Oper} {rest : List Oper} {o : Oper} {a : Act} {Q : Exit → Act → World → Prop} {w : World} {T E : TypeId} {z : Value} {sz bytes : Nat} (t : El T E z sz bytes) (hby : bytes ≤ 128) (hgd : o.guard = none) (s x : Operand)
    (ho : o.op = .call { callee := .builtin .append, args := #[s, x], argTypes := #[T, T] })
    {base : Nat} {v xv : Value} {n m : Nat} {cs ds : List Value} (hown : OS E sz base w v n cs) (hxr : RF No w xv sz m ds) (h1 : ∀ u ∈ ds, u.oneCell' = true) (hs : a.eval s = v) (hx : a.eval x = xv) (hl : n + m ≤ 1099511627776) (hbase : base ≤ w.heap.size)
    (h : ∀ v' w', OS E sz base w' v' (n + m) (cs ++ ds) → Chg (own v) w w' → (∀ k, own v' k → own v k ∨ w.heap.size ≤ k) → wpList Tryz.prog ops Q rest (a.put o.dst v') w') : wpList Tryz.prog ops Q (o :: rest) a w := by
  obtain ⟨v', w', hr, h1, h2, h3⟩ := run_appS t hby o.type hown hxr h1 hl hbase
  refine wpList_plain hgd fun _ hK => ?_
  unfold Oper.wp execOp
  simp only [ho, resolve, invoke, builtin, Sem.run_bind, Sem.run_pure, Result.andThen_ok, List.map_toArray, List.map_cons, List.map_nil, hs, hx, hr]
  exact hK _ _ (h v' w' h1 h2 h3)

/-- append(s, e): the element's cells lie in the block that was made last -/
theorem wappS1 {ops : Array Oper} {rest : List Oper} {o : Oper} {a : Act} {Q : Exit → Act → World → Prop} {w : World} {T E : TypeId} {z : Value} {sz bytes : Nat} (t : El T E z sz bytes) (hby : bytes ≤ 128) (hgd : o.guard = none) (s x : Operand)
    (ho : o.op = .call { callee := .builtin .append, args := #[s, x], argTypes := #[T, T] })
    {base : Nat} {v : Value} {n : Nat} {cs : List Value} {ds : Array Value} {e : TypeId} (hown : OS E sz base w v n cs) (hd : ds.size = sz) (h1 : ∀ u ∈ ds.toList, u.oneCell' = true) (hs : a.eval s = v) (hx : a.eval x = .slice (some ⟨w.heap.size, 0, none⟩) 1 1)
    (hl : n < 1099511627776) (hbase : base ≤ w.heap.size)
    (h : ∀ v' w', OS E sz base w' v' (n + 1) (cs ++ ds.toList) → Chg (own v) w w' → (∀ k, own v' k → own v k ∨ w.heap.size ≤ k) → wpList Tryz.prog ops Q rest (a.put o.dst v') w') :
    wpList Tryz.prog ops Q (o :: rest) a (w.alloc (.cells ds e)) := by
  have hr : RF No (w.alloc (.cells ds e)) (.slice (some ⟨w.heap.size, 0, none⟩) 1 1) sz 1 ds.toList :=
    ⟨_, _, rfl, Nat.le_refl _, by omega, by simp [hd], by simp, fun _ => ⟨w.heap.size, 0, rfl, fun e => e, by simp, fun i hi => by
      rw [World.cell?_alloc_new]
      have hi' : i < ds.size := by simpa using hi
      simp [List.getD_eq_getElem?_getD, hi']⟩⟩
  refine wappS t hby hgd s x ho (hown.alloc _) hr h1 hs hx (by omega) (by simp; omega) (fun v' w' h1 h2 h3 => ?_)
  refine h v' w' h1 (((Chg.refl (own v) w).alloc _).trans h2) (fun k hk => ?_) |> fun x => x
  rcases h3 k hk with h | h
  · exact .inl h
  · simp at h
    exact .inr (by omega)

end Go.Proofs.YtndhijckbponkaaGreatDoor
