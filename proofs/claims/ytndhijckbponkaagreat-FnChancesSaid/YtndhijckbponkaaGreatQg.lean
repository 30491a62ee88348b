import Derived.Test.YtndhijckbponkaaGreatPkX10
/- rows put into an owned table, append that keeps the old row (as XNb's first unit) -/
namespace Go.Proofs.YtndhijckbponkaaGreat
open Go.RowKit

/-- append, where the old row is still read -/
theorem run_appQ {w : World} {T E : TypeId} {z : Value} {sz bytes : Nat} (t : El T E z sz bytes) (hby : bytes ≤ 128) (ty : TypeId) {base : Nat} {v xv : Value} {n m : Nat} {cs ds : List Value} (hown : OS E sz base w v n cs) (hx : RF No w xv sz m ds) (h1 : ∀ u ∈ ds, u.oneCell' = true)
    (hl : n + m ≤ 1099511627776) (hbase : base ≤ w.heap.size) :
    ∃ v' w', (Builtin.append_ #[T, T] ty #[v, xv]).run Tryz.prog w = .ok v' w' ∧ OS E sz base w' v' (n + m) (cs ++ ds) ∧ Chg (own v) w w' ∧ (∀ k, own v' k → own v k ∨ w.heap.size ≤ k) ∧ RF No w' v sz n cs := by
  obtain ⟨v', w', hr, ho, hc, hk⟩ := run_appS t hby ty hown hx h1 hl hbase
  refine ⟨v', w', hr, ho, hc, hk, ?_⟩
  obtain ⟨i0, hi, hz0, hz1, hz2⟩ := t.info
  have hb1 : (n + m) * bytes ≤ 140737488355328 := Nat.le_trans (Nat.mul_le_mul hl hby) (by omega)
  obtain ⟨ao, c, rfl, hx1, hx2, hx3, hx0, hx4⟩ := hx
  rcases hown.2.2 with ⟨rfl, h0⟩ | ⟨g, cap, cur, rfl, hbg, hgg, hnc, hcm, hcs, htake⟩
  · have hn := hown.view
    obtain ⟨a, cap, he, h2, h3, h4, _⟩ := hn
    have h5 := hown.cl
    simp only [Value.slice.injEq] at he
    obtain ⟨rfl, rfl, rfl⟩ := he
    exact ⟨_, _, rfl, h2, h3, h5, h4, fun e => absurd e (by omega)⟩
  · have hov := hown.view
    obtain ⟨a, cap', he, h2, h3, h4, h6⟩ := hov
    have h5 := hown.cl
    simp only [Value.slice.injEq, true_and] at he
    obtain ⟨rfl, rfl⟩ := he
    cases ao with
    | none =>
      have hc0 := hx0 rfl
      subst hc0
      have hm0 : m = 0 := by omega
      subst hm0
      have hr2 := run_append_owned_none (P := Tryz.prog) w base T ty E i0 sz t.und hi _ _ _ hown.2
      rw [hr] at hr2
      simp only [Result.ok.injEq] at hr2
      obtain ⟨rfl, rfl⟩ := hr2
      exact hown.readNo
    | some ad =>
      have hnews : ∀ j u, ds[j]? = some u → w.cell? (ad.add j) = some u := by
        intro j u hj
        have hjl : j < ds.length := (List.getElem?_eq_some_iff.1 hj).1
        have hm0 : 0 < m := by
          rcases Nat.eq_zero_or_pos m with h | h
          · subst h; simp at hx3; subst hx3; simp at hjl
          · exact h
        obtain ⟨b, off, he, _, _, hcell⟩ := hx4 hm0
        obtain rfl := Option.some.inj he
        rw [Addr.add_lit, hcell j hjl, List.getD_eq_getElem?_getD, hj]
        rfl
      by_cases hroom : n + m ≤ cap
      · obtain ⟨w2, hr2, _, _⟩ := run_append_fits (P := Tryz.prog) w base T ty E i0 sz t.und hi hz1 g n cap _ hown.2 ad m c ds hx3 hnews h1 hroom
        rw [hr] at hr2
        simp only [Result.ok.injEq] at hr2
        obtain ⟨rfl, rfl⟩ := hr2
        obtain ⟨ha1, _, _, ha4, _⟩ := ho.at
        refine ⟨_, _, rfl, h2, h3, h5, h4, fun _ => ⟨g, 0, rfl, fun e => e, ha4, fun i hi => ?_⟩⟩
        rw [Nat.zero_add, ha1 i (by rw [List.length_append]; omega)]
        rw [List.getD_eq_getElem?_getD, List.getD_eq_getElem?_getD, List.getElem?_append_left hi]
      · have hfit : Builtin.nextslicecap (n + m) cap * i0.bytes ≤ 281474976710656 := by rw [hz2]; exact growslice_fits (by omega) (by omega)
        have hr2 := run_append_grow (P := Tryz.prog) w T ty E i0 z t.und hi hz0 ⟨g, 0, none⟩ n cap cs (by rw [hown.cl, hz1])
          (hown.2.cells (g := g) rfl) ad m c ds (by rw [hx3, hz1]) hnews (by omega) (by omega) hfit
        rw [hr] at hr2
        simp only [Result.ok.injEq] at hr2
        obtain ⟨rfl, rfl⟩ := hr2
        exact (hown.keep (((Chg.refl No w).drew).alloc _)).readNo
theorem oappQ {o : Oper} {a : Act} {K : Act → World → Prop} {Q : Exit → Act → World → Prop} {w : World} {T E : TypeId} {z : Value} {sz bytes : Nat} (t : El T E z sz bytes) (hby : bytes ≤ 128) (s x : Operand)
    (ho : o.op = .call { callee := .builtin .append, args := #[s, x], argTypes := #[T, T] })
    {base : Nat} {v xv : Value} {n m : Nat} {cs ds : List Value} (hown : OS E sz base w v n cs) (hxr : RF No w xv sz m ds) (h1 : ∀ u ∈ ds, u.oneCell' = true) (hs : a.eval s = v) (hx : a.eval x = xv) (hl : n + m ≤ 1099511627776) (hbase : base ≤ w.heap.size)
    (h : ∀ v' w', OS E sz base w' v' (n + m) (cs ++ ds) → Chg (own v) w w' → (∀ k, own v' k → own v k ∨ w.heap.size ≤ k) → RF No w' v sz n cs → K (a.put o.dst v') w') : Oper.wp Tryz.prog o a w K Q := by
  obtain ⟨v', w', hr, h1, h2, h3, h4⟩ := run_appQ t hby o.type hown hxr h1 hl hbase
  unfold Oper.wp execOp
  simp only [ho, resolve, invoke, builtin, Sem.run_bind, Sem.run_pure, Result.andThen_ok, List.map_toArray, List.map_cons, List.map_nil, hs, hx, hr]
  exact h v' w' h1 h2 h3 h4
/-- the oldest row, behind the second append -/
theorem RF.pre {w1 w2 : World} {E : TypeId} {base g c n m : Nat} {v1 : Value} {cs ds es : List Value} (o1 : OS E 1 base w1 v1 (n + m) es) (r1 : RF No w1 (.slice (some ⟨g, 0, none⟩) n c) 1 n cs) (k2 : Chg (own v1) w1 w2) (r2 : RF No w2 v1 1 (n + m) (cs ++ ds))
    (hn : 0 < n) : RF No w2 (.slice (some ⟨g, 0, none⟩) n c) 1 n cs := by
  obtain ⟨a, cap, rfl, e1, e2, e3, e4⟩ := o1.view
  obtain ⟨g1, rfl, _⟩ := e4 (by omega)
  obtain ⟨a', cap', he, h1, h2, h3, h4, h5⟩ := id r1
  simp only [Value.slice.injEq, true_and] at he
  obtain ⟨rfl, rfl⟩ := he
  obtain ⟨b, off, hb, _, hlt, hcell⟩ := h5 hn
  simp only [Option.some.injEq, Addr.mk.injEq, and_true] at hb
  obtain ⟨rfl, rfl⟩ := hb
  by_cases e : g = g1
  · subst e
    obtain ⟨a2, cap2, he2, _, _, _, _, h6⟩ := r2
    simp only [Value.slice.injEq, true_and] at he2
    obtain ⟨rfl, rfl⟩ := he2
    obtain ⟨b2, off2, hb2, _, hlt2, hcell2⟩ := h6 (by omega)
    simp only [Option.some.injEq, Addr.mk.injEq, and_true] at hb2
    obtain ⟨rfl, rfl⟩ := hb2
    refine ⟨_, _, rfl, h1, h2, h3, h4, fun _ => ⟨g, 0, rfl, fun e => e, hlt2, fun i hi => ?_⟩⟩
    rw [hcell2 i (by rw [List.length_append]; omega), List.getD_eq_getElem?_getD, List.getD_eq_getElem?_getD, List.getElem?_append_left hi]
  · refine ⟨_, _, rfl, h1, h2, h3, h4, fun _ => ⟨g, 0, rfl, fun e => e, Nat.lt_of_lt_of_le hlt k2.size, fun i hi => ?_⟩⟩
    exact (k2.cellD g (0 + i) hlt (fun e' => e (own_slice.1 e'))).trans (hcell i hi)
/-- a table of copies of a table's rows, put into a problem -/
theorem getD_app4 {α : Type} (l m : List α) (d : α) (i : Nat) : (l ++ m).getD i d = if i < l.length then l.getD i d else m.getD (i - l.length) d := by
  simp only [List.getD_eq_getElem?_getD]
  by_cases h : i < l.length
  · rw [if_pos h, List.getElem?_append_left h]
  · rw [if_neg h, List.getElem?_append_right (by omega)]
theorem rows_app {A : Nat → Prop} {w : World} {vs us : List Value} {s t : List (List Int)} (h1 : vs.length = s.length) (_h2 : us.length = t.length) (hv : ∀ i, i < s.length → RI A w (vs.getD i undef) (s.getD i [])) (hu : ∀ i, i < t.length → RI A w (us.getD i undef) (t.getD i [])) :
    ∀ i, i < (s ++ t).length → RI A w ((vs ++ us).getD i undef) ((s ++ t).getD i []) := by
  intro i hi
  rw [List.length_append] at hi
  rw [getD_app4, getD_app4, h1]
  by_cases e : i < s.length
  · rw [if_pos e, if_pos e]; exact hv i e
  · rw [if_neg e, if_neg e]; exact hu _ (by omega)
/-- a row of an owned table that grows and is put back -/
theorem OII.putGrow {base : Nat} {w : World} {v : Value} {ll : List (List Int)} {F : Nat → Prop} (h : OII base w v ll F) {i : Nat} (hi : i < ll.length) :
    ∃ g c x, v = .slice (some ⟨g, 0, none⟩) ll.length c ∧ w.cell? ⟨g, i, none⟩ = some x ∧ w.frozen? ⟨g, i, none⟩ = false ∧ OI base w x (ll.getD i []) ∧ (∀ q, own x q → F q) ∧ ¬ own x g ∧ F g ∧
      ∀ x' w' l', OI base w' x' l' → Chg (own x) w w' → (∀ q, own x' q → own x q ∨ w.heap.size ≤ q) → ∃ F3, OII base (w'.setCell ⟨g, i, none⟩ x') v (ll.set i l') F3 ∧ ∀ q, F3 q → F q ∨ w.heap.size ≤ q := by
  obtain ⟨vs, h1, h2, h3, h4, h5, h6⟩ := h
  obtain ⟨a, cap, hv, hc1, hc2, hc3, hc4⟩ := h2.view
  obtain ⟨g, rfl, hg1, hg2, hg3, hg4⟩ := hc4 (by omega)
  have hog : own v g := by rw [hv]; exact own_slice.2 rfl
  have hlt2 : ∀ q, own v q → q < w.heap.size := fun q hq => (h2.lt q hq).2
  refine ⟨g, cap, vs.getD i undef, hv, ?_, hg4 i, h3 i hi, fun q hq => (h6 q).2 (.inr ⟨i, hi, hq⟩), h4 i hi g hog, (h6 g).2 (.inl hog), fun x' w' l' hx hch hown => ?_⟩
  · rw [hg3 i (by omega)]
  have hxg : ¬ own x' g := fun e => by
    rcases hown g e with e | e
    · exact h4 i hi g hog e
    · omega
  have h2' := h2.step hch (fun q hq e => h4 i hi q hq e)
  rw [hv] at h2'
  obtain ⟨hs1, hs2⟩ := h2'.store i x'
  rw [← hv] at hs1
  have hset : ∀ k, (vs.set i x').getD k undef = if k = i then x' else vs.getD k undef := fun k => by
    by_cases e : k = i
    · subst e
      rw [if_pos rfl, List.getD_eq_getElem?_getD, List.getElem?_set_self (by omega)]; rfl
    · rw [if_neg e, List.getD_eq_getElem?_getD, List.getElem?_set_ne (fun e' => e e'.symm), ← List.getD_eq_getElem?_getD]
  have hsl : ∀ k, k < ll.length → (ll.set i l').getD k [] = if k = i then l' else ll.getD k [] := fun k hk => by
    by_cases e : k = i
    · subst e
      rw [if_pos rfl, List.getD_eq_getElem?_getD, List.getElem?_set_self hk]; rfl
    · rw [if_neg e, List.getD_eq_getElem?_getD, List.getElem?_set_ne (fun e' => e e'.symm), ← List.getD_eq_getElem?_getD]
  have hdis : ∀ k, k < ll.length → k ≠ i → ∀ q, own (vs.getD i undef) q → ¬ own (vs.getD k undef) q := fun k hk hne q hq hq2 => by
    rcases Nat.lt_or_ge k i with hlt | hge
    · exact h5 k i hlt hi q hq2 hq
    · exact h5 i k (Nat.lt_of_le_of_ne hge (fun e' => hne e'.symm)) hk q hq hq2
  have hdis' : ∀ k, k < ll.length → k ≠ i → ∀ q, own x' q → ¬ own (vs.getD k undef) q := fun k hk hne q hq hq2 => by
    rcases hown q hq with e | e
    · exact hdis k hk hne q e hq2
    · have := ((h3 k hk).lt q hq2).2; omega
  refine ⟨fun q => own v q ∨ ∃ k, k < ll.length ∧ own ((vs.set i x').getD k undef) q, ⟨vs.set i x', by rw [List.length_set, List.length_set]; exact h1, by rw [List.length_set]; exact hs1, fun k hk => ?_, fun k hk q hq => ?_, fun k m hkm hm q hq => ?_, fun q => by rw [List.length_set]⟩, fun q hq => ?_⟩
  · rw [List.length_set] at hk
    rw [hset k, hsl k hk]
    by_cases e : k = i
    · rw [if_pos e, if_pos e]
      exact hx.step hs2 (fun q hq e' => hxg (e' ▸ hq))
    · rw [if_neg e, if_neg e]
      exact ((h3 k hk).step hch (fun q hq e' => hdis k hk e q e' hq)).step hs2 (fun q hq e' => h4 k hk g hog (e' ▸ hq))
  · rw [List.length_set] at hk
    rw [hset k]
    by_cases e : k = i
    · rw [if_pos e]
      exact fun hq' => by
        rcases hown q hq' with e2 | e2
        · exact h4 i hi q hq e2
        · have := hlt2 q hq; omega
    · rw [if_neg e]
      exact h4 k hk q hq
  · rw [List.length_set] at hm
    rw [hset k] at hq
    rw [hset m]
    by_cases e : k = i
    · rw [if_pos e] at hq
      rw [if_neg (by omega)]
      exact hdis' m hm (by omega) q hq
    · rw [if_neg e] at hq
      by_cases e2 : m = i
      · rw [if_pos e2]
        exact fun hq' => hdis' k (by omega) e q hq' hq
      · rw [if_neg e2]
        exact h5 k m hkm hm q hq
  · rcases hq with hq | ⟨k, hk, hq⟩
    · exact .inl ((h6 q).2 (.inl hq))
    · rw [hset k] at hq
      by_cases e : k = i
      · rw [if_pos e] at hq
        rcases hown q hq with e2 | e2
        · exact .inl ((h6 q).2 (.inr ⟨i, hi, e2⟩))
        · exact .inr e2
      · rw [if_neg e] at hq; exact .inl ((h6 q).2 (.inr ⟨k, hk, hq⟩))
end Go.Proofs.YtndhijckbponkaaGreat
