import Derived.Test.YtodnkkmjjlfoiaaGreatPk7
import Derived.Test.YtodnkkmjjlfoiaaGreatDc
/- rows of Players: joined, the first overwritten -/
namespace Go.Proofs.YtodnkkmjjlfoiaaGreat
open Go.RowKit

/-- append, where the old row is still read -/
theorem run_appK {w : World} {T E : TypeId} {z : Value} {sz bytes : Nat} (t : El T E z sz bytes) (hby : bytes ≤ 128) (ty : TypeId) {base : Nat} {v xv : Value} {n m : Nat} {cs ds : List Value} (hown : OS E sz base w v n cs) (hx : RF No w xv sz m ds) (h1 : ∀ u ∈ ds, u.oneCell' = true)
    (hl : n + m ≤ 1099511627776) (hbase : base ≤ w.heap.size) :
    ∃ v' w', (Builtin.append_ #[T, T] ty #[v, xv]).run Tryz.prog w = .ok v' w' ∧ OS E sz base w' v' (n + m) (cs ++ ds) ∧ Chg (own v) w w' ∧ (∀ k, own v' k → own v k ∨ w.heap.size ≤ k) ∧ RF No w' v sz n cs := by
  obtain ⟨v', w', hr, ho, hc, hk⟩ := run_appS t hby ty hown hx h1 hl hbase
  refine ⟨v', w', hr, ho, hc, hk, ?_⟩
  obtain ⟨i0, hi, hz0, hz1, hz2⟩ := t.info
  have hb1 : (n + m) * bytes ≤ 140737488355328 := Nat.le_trans (Nat.mul_le_mul hl hby) (by omega)
  obtain ⟨ao, c, rfl, hx1, hx2, hx3, hx0, hx4⟩ := hx
  rcases hown.2.2 with ⟨rfl, h0⟩ | ⟨g, cap, cur, rfl, hbg, hgg, hnc, hcm, hcs, htake⟩
  · have hn := hown.view
    obtain ⟨a, cap, he, h2, h3, h4, _⟩ := hn
    have h5 := hown.cl
    simp only [Value.slice.injEq] at he
    obtain ⟨rfl, rfl, rfl⟩ := he
    exact ⟨_, _, rfl, h2, h3, h5, h4, fun e => absurd e (by omega)⟩
  · have hov := hown.view
    obtain ⟨a, cap', he, h2, h3, h4, h6⟩ := hov
    have h5 := hown.cl
    simp only [Value.slice.injEq, true_and] at he
    obtain ⟨rfl, rfl⟩ := he
    cases ao with
    | none =>
      have hc0 := hx0 rfl
      subst hc0
      have hm0 : m = 0 := by omega
      subst hm0
      have hr2 := run_append_owned_none (P := Tryz.prog) w base T ty E i0 sz t.und hi _ _ _ hown.2
      rw [hr] at hr2
      simp only [Result.ok.injEq] at hr2
      obtain ⟨rfl, rfl⟩ := hr2
      exact hown.readNo
    | some ad =>
      have hnews : ∀ j u, ds[j]? = some u → w.cell? (ad.add j) = some u := by
        intro j u hj
        have hjl : j < ds.length := (List.getElem?_eq_some_iff.1 hj).1
        have hm0 : 0 < m := by
          rcases Nat.eq_zero_or_pos m with h | h
          · subst h; simp at hx3; subst hx3; simp at hjl
          · exact h
        obtain ⟨b, off, he, _, _, hcell⟩ := hx4 hm0
        obtain rfl := Option.some.inj he
        rw [Addr.add_lit, hcell j hjl, List.getD_eq_getElem?_getD, hj]
        rfl
      by_cases hroom : n + m ≤ cap
      · obtain ⟨w2, hr2, _, _⟩ := run_append_fits (P := Tryz.prog) w base T ty E i0 sz t.und hi hz1 g n cap _ hown.2 ad m c ds hx3 hnews h1 hroom
        rw [hr] at hr2
        simp only [Result.ok.injEq] at hr2
        obtain ⟨rfl, rfl⟩ := hr2
        obtain ⟨ha1, _, _, ha4, _⟩ := ho.at
        refine ⟨_, _, rfl, h2, h3, h5, h4, fun _ => ⟨g, 0, rfl, fun e => e, ha4, fun i hi => ?_⟩⟩
        rw [Nat.zero_add, ha1 i (by rw [List.length_append]; omega)]
        rw [List.getD_eq_getElem?_getD, List.getD_eq_getElem?_getD, List.getElem?_append_left hi]
      · have hfit : Builtin.nextslicecap (n + m) cap * i0.bytes ≤ 281474976710656 := by rw [hz2]; exact growslice_fits (by omega) (by omega)
        have hr2 := run_append_grow (P := Tryz.prog) w T ty E i0 z t.und hi hz0 ⟨g, 0, none⟩ n cap cs (by rw [hown.cl, hz1])
          (hown.2.cells (g := g) rfl) ad m c ds (by rw [hx3, hz1]) hnews (by omega) (by omega) hfit
        rw [hr] at hr2
        simp only [Result.ok.injEq] at hr2
        obtain ⟨rfl, rfl⟩ := hr2
        exact (hown.keep (((Chg.refl No w).drew).alloc _)).readNo
theorem oappK {o : Oper} {a : Act} {K : Act → World → Prop} {Q : Exit → Act → World → Prop} {w : World} {T E : TypeId} {z : Value} {sz bytes : Nat} (t : El T E z sz bytes) (hby : bytes ≤ 128) (s x : Operand)
    (ho : o.op = .call { callee := .builtin .append, args := #[s, x], argTypes := #[T, T] })
    {base : Nat} {v xv : Value} {n m : Nat} {cs ds : List Value} (hown : OS E sz base w v n cs) (hxr : RF No w xv sz m ds) (h1 : ∀ u ∈ ds, u.oneCell' = true) (hs : a.eval s = v) (hx : a.eval x = xv) (hl : n + m ≤ 1099511627776) (hbase : base ≤ w.heap.size)
    (h : ∀ v' w', OS E sz base w' v' (n + m) (cs ++ ds) → Chg (own v) w w' → (∀ k, own v' k → own v k ∨ w.heap.size ≤ k) → RF No w' v sz n cs → K (a.put o.dst v') w') : Oper.wp Tryz.prog o a w K Q := by
  obtain ⟨v', w', hr, h1, h2, h3, h4⟩ := run_appK t hby o.type hown hxr h1 hl hbase
  unfold Oper.wp execOp
  simp only [ho, resolve, invoke, builtin, Sem.run_bind, Sem.run_pure, Result.andThen_ok, List.map_toArray, List.map_cons, List.map_nil, hs, hx, hr]
  exact h v' w' h1 h2 h3 h4
theorem getD_appL {α : Type} (l m : List α) (d : α) (i : Nat) : (l ++ m).getD i d = if i < l.length then l.getD i d else m.getD (i - l.length) d := by
  simp only [List.getD_eq_getElem?_getD]
  by_cases h : i < l.length
  · rw [if_pos h, List.getElem?_append_left h]
  · rw [if_neg h, List.getElem?_append_right (by omega)]
theorem rowC_app (ls ms : List Pl) (pf mf pf' mf' : Nat → Value) (n : Nat) : rowC ls pf mf ls.length ++ rowC ms pf' mf' n = rowC (ls ++ ms) (fun i => if i < ls.length then pf i else pf' (i - ls.length)) (fun i => if i < ls.length then mf i else mf' (i - ls.length)) (ls.length + n) := by
  induction n with
  | zero =>
    simp only [rowC, List.append_nil, Nat.add_zero]
    exact rowC_congr _ _ _ _ _ _ _ (fun i hi => ⟨by rw [getD_appL, if_pos hi], by rw [if_pos hi], by rw [if_pos hi]⟩)
  | succ n ih =>
    rw [← Nat.add_assoc]
    simp only [rowC]
    rw [← List.append_assoc, ih]
    congr 1
    rw [getD_appL, if_neg (by omega), if_neg (by omega), if_neg (by omega), Nat.add_sub_cancel_left]
/-- a row of the call's own, read -/
theorem OS.rps {base : Nat} {w : World} {v : Value} {ls : List Pl} {pf mf : Nat → Value} (h : OS 69 7 base w v ls.length (rowC ls pf mf ls.length)) (hn : ls.length ≤ 1048576) {A : Nat → Prop} (hA : ∀ q, own v q → ¬ A q)
    (hp : ∀ i, i < ls.length → RI A w (pf i) (ls.getD i dPl).ca.pages ∧ RI A w (mf i) (ls.getD i dPl).ca.marks) : RPS A w v ls := by
  obtain ⟨a, cap, rfl, hcap, hmax, h0, hv⟩ := h.view
  refine ⟨a, cap, rfl, hcap, hmax, hn, pf, mf, hp, fun hne => ?_⟩
  obtain ⟨g, rfl, hg1, hg2, _⟩ := hv (by have : 0 < ls.length := List.length_pos_iff.mpr hne; omega)
  refine ⟨g, 0, rfl, hA g (own_slice.2 rfl), hg2, fun i hi => ?_⟩
  have hc := h.at.1
  rw [rowC_len] at hc
  have hr : ∀ r, r < 7 → w.cell? ⟨g, i * 7 + r, none⟩ = some ((plC (ls.getD i dPl) (pf i) (mf i)).getD r undef) := fun r hr => by rw [hc _ (by omega), rowC_get _ _ _ _ _ _ hi hr]
  rw [Nat.zero_add]
  exact ⟨hr 0 (by omega), hr 1 (by omega), hr 2 (by omega), hr 3 (by omega), hr 4 (by omega), hr 5 (by omega), hr 6 (by omega)⟩
theorem Cell7.other {w : World} {b o : Nat} {x : Pl} {pv mv : Value} (h : Cell7 w b o x pv mv) (b' o' : Nat) (y : Value) (hp : b' ≠ b ∨ o' < o) : Cell7 (w.setCell ⟨b', o', none⟩ y) b o x pv mv := by
  have hne : ∀ r : Nat, (⟨b', o', none⟩ : Addr) ≠ ⟨b, o + r, none⟩ := fun r e => by
    simp only [Addr.mk.injEq, and_true] at e
    omega
  have h0 := hne 0
  rw [Nat.add_zero] at h0
  exact ⟨(World.cell?_setCell_other _ _ _ _ h0).trans h.c0, (World.cell?_setCell_other _ _ _ _ (hne 1)).trans h.c1, (World.cell?_setCell_other _ _ _ _ (hne 2)).trans h.c2, (World.cell?_setCell_other _ _ _ _ (hne 3)).trans h.c3,
    (World.cell?_setCell_other _ _ _ _ (hne 4)).trans h.c4, (World.cell?_setCell_other _ _ _ _ (hne 5)).trans h.c5, (World.cell?_setCell_other _ _ _ _ (hne 6)).trans h.c6⟩
/-- the first Player overwritten, the row read -/
theorem PA.put0 {base : Nat} {w w' : World} {g cap : Nat} {ls : List Pl} {pf mf : Nat → Value} (h : PA base w (.slice (some ⟨g, 0, none⟩) ls.length cap) ls pf mf) (hn : ls.length ≤ 1048576) {A : Nat → Prop} (hA : ∀ q, base ≤ q → ¬ A q)
    {x' : Pl} {pv mv : Value} (hc : Chg (fun q => q = g) w w') (hx : Cell7 w' g 0 x' pv mv) (hk : ∀ i, 0 < i → i < ls.length → Cell7 w' g (i * 7) (ls.getD i dPl) (pf i) (mf i)) (hp : RI A w' pv x'.ca.pages) (hm : RI A w' mv x'.ca.marks) :
    RPS A w' (.slice (some ⟨g, 0, none⟩) ls.length cap) (ls.set 0 x') := by
  obtain ⟨a, cap', he, hcap, hmax, h0, hv⟩ := h.os.view
  simp only [Value.slice.injEq, true_and] at he
  obtain ⟨rfl, rfl⟩ := he
  have hl : (ls.set 0 x').length = ls.length := List.length_set ..
  have hget : ∀ i, (ls.set 0 x').getD i dPl = if i = 0 ∧ 0 < ls.length then x' else ls.getD i dPl := fun i => by
    simp only [List.getD_eq_getElem?_getD, List.getElem?_set]
    by_cases e : i = 0
    · subst e
      by_cases hz : 0 < ls.length
      · simp [hz]
      · have : ls = [] := List.eq_nil_of_length_eq_zero (by omega)
        subst this; simp
    · rw [if_neg (by omega), if_neg (by omega)]
  refine ⟨_, cap, by rw [hl], by rw [hl]; exact hcap, hmax, by rw [hl]; exact hn, fun i => if i = 0 then pv else pf i, fun i => if i = 0 then mv else mf i, fun i hi => ?_, fun hne => ?_⟩
  · rw [hl] at hi
    rw [hget]
    by_cases e : i = 0
    · rw [if_pos ⟨e, by omega⟩]
      simp only [if_pos e]
      exact ⟨hp, hm⟩
    · rw [if_neg (by omega)]
      simp only [if_neg e]
      have hf := h.far i hi
      have h1 := (h.pg i hi).step hc (fun q hq e => hf q (.inl hq) (by subst e; exact own_slice.2 rfl))
      have h2 := (h.mq i hi).step hc (fun q hq e => hf q (.inr hq) (by subst e; exact own_slice.2 rfl))
      exact ⟨h1.read (fun q hq => hA q (h1.lt q hq).1), h2.read (fun q hq => hA q (h2.lt q hq).1)⟩
  · have hpos : 0 < ls.length := by
      have := List.length_pos_iff.2 hne
      rw [hl] at this; exact this
    have hg := h.os.at
    refine ⟨g, 0, rfl, hA g hg.2.2.1, Nat.lt_of_lt_of_le hg.2.2.2.1 hc.size, fun i hi => ?_⟩
    rw [hl] at hi
    rw [hget, Nat.zero_add]
    by_cases e : i = 0
    · subst e
      rw [if_pos ⟨rfl, hpos⟩]
      simpa using hx
    · rw [if_neg (by omega)]
      simp only [if_neg e]
      exact hk i (by omega) hi
end Go.Proofs.YtodnkkmjjlfoiaaGreat
