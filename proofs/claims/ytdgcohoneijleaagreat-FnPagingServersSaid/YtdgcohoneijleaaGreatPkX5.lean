import Derived.Test.YtdgcohoneijleaaGreatT
import Derived.Test.YtdgcohoneijleaaGreatPa
import Derived.Test.YtdgcohoneijleaaGreatPkX3
/- an operation of a region whose order is drawn, taken first, where operation k waits for it by a chain of others -/
namespace Go.Proofs.YtdgcohoneijleaaGreat
open Go.RowKit

theorem drewN0 (w : World) : Chg No w w.drew := (Chg.refl No w).drew
section
variable {P : Program} {ops : Array Oper} {Q : Exit → Act → World → Prop} {md : Region.Mode} {S : World → Prop}
/-- all of B wait, one by another, for i -/
def chainB (md : Region.Mode) (ops : Array Oper) (listed : Array Bool) (B : List Nat) (i : Nat) : Bool := B.all fun b => !listed.getD b true && (i :: B).any (fun c => Region.waitsFor md ops b c) && decide (b ≠ i)
theorem wpAnyK_firstT {k i : Nat} {oi : Oper} {v : Value} (B : List Nat) (hi : ops[i]? = some oi) (hsel : ∀ (j : Nat) (o : Oper) cs b, ops[j]? = some o → o.op ≠ .select cs b)
    (hQ : ∀ c a w, Q (.panic c) (a.put oi.dst v) w → Q (.panic c) a w) (hB : ∀ b ∈ B, b ≠ i ∧ ∃ c, (c = i ∨ c ∈ B) ∧ Region.waitsFor md ops b c = true) (hkB : k ∈ B) :
    ∀ (f : Nat) (listed : Array Bool) (a : Act) (w : World),
      (∀ j oj, ops[j]? = some oj → j ≠ i → listed.getD j true = false → (∀ e ∈ oj.after, Region.binds md e = true → e.on ≠ i) → oi.apart ops oj = true) →
      i ∈ Region.ready md ops listed → (∀ b ∈ B, listed.getD b true = false) → YieldsIf P ops S oi v a → S w →
      wpAnyK P md ops Q S k f (listed.setIfInBounds i true) (a.put oi.dst v) w → wpAnyK P md ops Q S k (f + 1) listed a w := by
  intro f
  induction f with
  | zero =>
    intro listed a w _ hr hl hy hS H
    refine ⟨fun h => (by rw [h] at hr; cases hr), fun j hj => ?_⟩
    by_cases hji : j = i
    · subst hji; exact hy.wpOp hi hS ⟨fun _ => hS, H⟩
    · have := ready_mono hj hji
      rw [H.1] at this
      cases this
  | succ f ih =>
    intro listed a w hfree hr hl hy hS H
    refine ⟨fun h => (by rw [h] at hr; cases hr), fun j hj => ?_⟩
    by_cases hji : j = i
    · subst hji; exact hy.wpOp hi hS ⟨fun _ => hS, H⟩
    · have hun : listed.getD i false = false := getD_both (mem_ready.1 hr).1
      have hjB : j ∉ B := fun hjB => by
        obtain ⟨_, oj, hoj, hall⟩ := mem_ready.1 hj
        obtain ⟨_, c, hc, hw⟩ := hB j hjB
        obtain ⟨oj', hoj', e, he, hb, hon⟩ := Region.waitsFor_spec hw
        have : oj' = oj := Option.some.inj (hoj'.symm.trans hoj)
        subst this
        have h1 := hall e he hb
        have hcu : listed.getD c false = false := by
          rcases hc with rfl | hc
          · exact hun
          · exact getD_both (hl c hc)
        rw [hon, hcu] at h1
        cases h1
      have hki : k ≠ i := (hB k hkB).1
      have hjk : j ≠ k := fun e => hjB (e ▸ hkB)
      have h1 := H.2 j (ready_mono hj hji)
      obtain ⟨hjun, oj, hoj, hall⟩ := mem_ready.1 hj
      have hnot : ∀ e ∈ oj.after, Region.binds md e = true → e.on ≠ i := fun e he hb heq => by
        have h1 := hall e he hb
        rw [heq, hun] at h1
        cases h1
      have h2 := wpOp_putIf hoj (hfree j oj hoj hji hjun hnot) (fun cs b => hsel i oi cs b hi) (fun cs b => hsel j oj cs b hoj) hQ hy h1
      have hl' : ∀ b ∈ B, (listed.setIfInBounds j true).getD b true = false := fun b hb => (getD_set_ne true (show j ≠ b from fun e => hjB (by rw [e]; exact hb))).trans (hl b hb)
      have hl2 : ((listed.setIfInBounds i true).setIfInBounds j true).getD k true = false := by rw [getD_set_ne true hjk, getD_set_ne true (Ne.symm hki)]; exact hl k hkB
      refine wpOp_mono (fun a' w' h3 => ⟨fun _ => h3.2.1 hl2, ih (listed.setIfInBounds j true) a' w' (fun m om hm hmi hmu hno => hfree m om hm hmi (getD_set_in hmu) hno) (ready_mono hr (Ne.symm hji)) hl' h3.1 (h3.2.1 hl2) ?_⟩) h2
      rw [Array.setIfInBounds_comm _ _ hji]
      exact h3.2.2
/-- all that wait for i, one by another -/
def waitersB (md : Region.Mode) (ops : Array Oper) (i : Nat) : List Nat := (List.range ops.size).foldl (fun B b => if (i :: B).any (fun c => Region.waitsFor md ops b c) && decide (b ≠ i) then b :: B else B) []
/-- take number i first; k waits for it, by a chain of others -/
theorem wpAnyK_takeT (i : Nat) {k : Nat} {oi : Oper} (v : Value) {f : Nat} {listed : Array Bool} {a : Act} {w : World} (hi : ops[i]? = some oi)
    (hB : (Region.noSelect ops && Region.free md ops listed i && (Region.ready md ops listed).contains i && chainB md ops listed (waitersB md ops i) i && (waitersB md ops i).contains k) = true)
    (hQ : ∀ c a w, Q (.panic c) (a.put oi.dst v) w → Q (.panic c) a w) (hS : S w) (hg : oi.guard = none) (hy : ∀ w, S w → (execOp a.eval oi).run P w = .ok (.value v) w)
    (h : wpAnyK P md ops Q S k f (listed.setIfInBounds i true) (a.put oi.dst v) w) : wpAnyK P md ops Q S k (f + 1) listed a w := by
  simp only [Bool.and_eq_true] at hB
  obtain ⟨⟨⟨⟨h1, h2⟩, h3⟩, h4⟩, h5⟩ := hB
  simp only [chainB, List.all_eq_true, Bool.and_eq_true, Bool.not_eq_true', decide_eq_true_eq, List.any_eq_true] at h4
  refine wpAnyK_firstT (waitersB md ops i) hi (Region.noSelect_spec h1) hQ (fun b hb => ?_) (by simpa using h5) f listed a w (Region.free_spec hi h2) (by simpa using h3) (fun b hb => (h4 b hb).1.1) (.inl ⟨by simp [Region.wanted, hg], hy⟩) hS h
  obtain ⟨⟨_, c, hc, hw⟩, hne⟩ := h4 b hb
  exact ⟨hne, c, by simpa using hc, hw⟩
end
end Go.Proofs.YtdgcohoneijleaaGreat

/- tables that are owned: a row more, a cell put, a row put -/
namespace Go.Proofs.YtdgcohoneijleaaGreat
open Go.RowKit

theorem chg1 (w : World) (b i : Nat) (x : Value) : Chg (fun q => q = b) w (w.setCell ⟨b, i, none⟩ x) := (Chg.refl (fun q => q = b) w).setCell (p := ⟨b, i, none⟩) (fun _ => rfl) x
/-- append(table, row) -/
theorem wappR {ops : Array Oper} {rest : List Oper} {o : Oper} {a : Act} {Q : Exit → Act → World → Prop} {w : World} (hgd : o.guard = none) (s x : Operand)
    (ho : o.op = .call { callee := .builtin .append, args := #[s, x], argTypes := #[29, 29] })
    {base : Nat} {v xv : Value} {ll : List (List Int)} {l : List Int} {F : Nat → Prop} {e : TypeId} (hown : OII base w v ll F) (hx : OI base w xv l) (hd : ∀ q, own xv q → ¬ F q) (hs : a.eval s = v) (hx' : a.eval x = .slice (some ⟨w.heap.size, 0, none⟩) 1 1)
    (hl : ll.length < 1099511627776) (hbase : base ≤ w.heap.size)
    (h : ∀ v' w' F', OII base w' v' (ll ++ [l]) F' → Chg (own v) w w' → (∀ q, F' q → F q ∨ own xv q ∨ w.heap.size ≤ q) → (∀ q, own v q → F q) → wpList Tryz.prog ops Q rest (a.put o.dst v') w') :
    wpList Tryz.prog ops Q (o :: rest) a (w.alloc (.cells #[xv] e)) := by
  obtain ⟨vs, h1, h2, h3, h4, h5, h6⟩ := hown
  have hone : ∀ u ∈ (#[xv] : Array Value).toList, u.oneCell' = true := fun u hu => by
    simp only [List.mem_singleton] at hu
    subst hu
    obtain ⟨_, _, rfl, _⟩ := hx.view
    rfl
  refine wappS1 elInts (by omega) hgd s x ho h2 rfl hone hs hx' hl hbase (fun v' w' h7 h8 h9 => ?_)
  obtain ⟨F', hF, hF'⟩ := OII.app h1 h3 h4 h5 h6 hx hd h7 h8 h9
  exact h v' w' F' hF h8 hF' (fun q hq => (h6 q).2 (.inl hq))
/-- a row of an owned table, its cells, and what a store there leaves -/
theorem OII.at {base : Nat} {w : World} {v : Value} {ll : List (List Int)} {F : Nat → Prop} (h : OII base w v ll F) {i : Nat} (hi : i < ll.length) (hp : 0 < (ll.getD i []).length) :
    ∃ g c r rc, v = .slice (some ⟨g, 0, none⟩) ll.length c ∧ g < w.heap.size ∧ r < w.heap.size ∧ g ≠ r ∧ base ≤ g ∧ base ≤ r ∧ w.cell? ⟨g, i, none⟩ = some (.slice (some ⟨r, 0, none⟩) (ll.getD i []).length rc) ∧ (∀ j, j < (ll.getD i []).length → w.cell? ⟨r, j, none⟩ = some (.int .i64 ((ll.getD i []).getD j 0))) ∧
      (∀ j, w.frozen? ⟨r, j, none⟩ = false) ∧ F g ∧ F r ∧ (∀ j x, OII base (w.setCell ⟨r, j, none⟩ (.int .i64 x)) v (ll.set i ((ll.getD i []).set j x)) F) := by
  obtain ⟨vs, h1, h2, h3, h4, h5, h6⟩ := h
  obtain ⟨a, cap, hv, hc1, hc2, hc3, hc4⟩ := h2.view
  obtain ⟨g, rfl, hg1, hg2, hg3, hg4⟩ := hc4 (by omega)
  have hri := h3 i hi
  obtain ⟨ra, rc, hrv, hr1, hr2, hr3⟩ := hri.view
  obtain ⟨r, rfl, hr4, hr5, hr6, hr7⟩ := hr3 (by omega)
  have hFg : F g := (h6 g).2 (.inl (by rw [hv]; exact own_slice.2 rfl))
  have hor : own (vs.getD i undef) r := by rw [hrv]; exact own_slice.2 rfl
  have hFr : F r := (h6 r).2 (.inr ⟨i, hi, hor⟩)
  have hog : own v g := by rw [hv]; exact own_slice.2 rfl
  have hgr : g ≠ r := fun e => h4 i hi g hog (e ▸ hor)
  refine ⟨g, cap, r, rc, hv, hg2, hr5, hgr, hg1, hr4, ?_, hr6, hr7, hFg, hFr, fun j x => ?_⟩
  · rw [hg3 i (by omega), hrv]
  · have hch : Chg (fun q => q = r) w (w.setCell ⟨r, j, none⟩ (.int .i64 x)) := chg1 w r j _
    refine ⟨vs, by rw [List.length_set]; exact h1, by rw [List.length_set]; exact h2.step hch (fun q hq e => h4 i hi q hq (by rw [e]; exact hor)), fun k hk => ?_, fun k hk => h4 k (by rw [List.length_set] at hk; exact hk), fun k m hkm hm => h5 k m hkm (by rw [List.length_set] at hm; exact hm), fun q => by rw [List.length_set]; exact h6 q⟩
    rw [List.length_set] at hk
    by_cases e : k = i
    · subst e
      have hs : (ll.set k ((ll.getD k []).set j x)).getD k [] = (ll.getD k []).set j x := by
        rw [List.getD_eq_getElem?_getD, List.getElem?_set_self hk]; rfl
      rw [hs, hrv]
      rw [hrv] at hri
      exact (hri.store j x).1
    · have hs : (ll.set i ((ll.getD i []).set j x)).getD k [] = ll.getD k [] := by
        rw [List.getD_eq_getElem?_getD, List.getElem?_set_ne (fun e' => e e'.symm), ← List.getD_eq_getElem?_getD]
      rw [hs]
      refine (h3 k hk).step hch (fun q hq e' => ?_)
      subst e'
      rcases Nat.lt_or_ge k i with hlt | hge
      · exact h5 k i hlt hi q hq hor
      · exact h5 i k (Nat.lt_of_le_of_ne hge (fun e' => e e'.symm)) hk q hor hq
/-- another row in the place of a row -/
theorem OII.putRow {base : Nat} {w : World} {g c : Nat} {n : Nat} {ll : List (List Int)} {l : List Int} {F : Nat → Prop} {xv : Value} (h : OII base w (.slice (some ⟨g, 0, none⟩) n c) ll F) {i : Nat} (hi : i < ll.length) (hx : OI base w xv l) (hd : ∀ q, own xv q → F q → ∃ x, w.cell? ⟨g, i, none⟩ = some x ∧ own x q) (hg : ¬ own xv g) :
    ∃ F', OII base (w.setCell ⟨g, i, none⟩ xv) (.slice (some ⟨g, 0, none⟩) n c) (ll.set i l) F' ∧ ∀ q, F' q → F q ∨ own xv q := by
  obtain ⟨vs, h1, h2, h3, h4, h5, h6⟩ := h
  have hog : own (.slice (some ⟨g, 0, none⟩) n c) g := own_slice.2 rfl
  obtain ⟨hs1, hs2⟩ := h2.store i xv
  obtain ⟨hcell, _⟩ := h2.at
  have hci := hcell i (by omega)
  have hnot : ∀ q, own xv q → ∀ k, k < ll.length → k ≠ i → ¬ own (vs.getD k undef) q := fun q hq k hk hne hk2 => by
    obtain ⟨x, hx1, hx2⟩ := hd q hq ((h6 q).2 (.inr ⟨k, hk, hk2⟩))
    rw [hci] at hx1
    cases hx1
    rcases Nat.lt_or_ge k i with hlt | hge
    · exact h5 k i hlt hi q hk2 hx2
    · exact h5 i k (Nat.lt_of_le_of_ne hge (fun e' => hne e'.symm)) hk q hx2 hk2
  have hset : ∀ k, (vs.set i xv).getD k undef = if k = i then xv else vs.getD k undef := fun k => by
    by_cases e : k = i
    · subst e
      rw [if_pos rfl, List.getD_eq_getElem?_getD, List.getElem?_set_self (by omega)]; rfl
    · rw [if_neg e, List.getD_eq_getElem?_getD, List.getElem?_set_ne (fun e' => e e'.symm), ← List.getD_eq_getElem?_getD]
  have hsl : ∀ k, k < ll.length → (ll.set i l).getD k [] = if k = i then l else ll.getD k [] := fun k hk => by
    by_cases e : k = i
    · subst e
      rw [if_pos rfl, List.getD_eq_getElem?_getD, List.getElem?_set_self hk]; rfl
    · rw [if_neg e, List.getD_eq_getElem?_getD, List.getElem?_set_ne (fun e' => e e'.symm), ← List.getD_eq_getElem?_getD]
  refine ⟨fun q => own (.slice (some ⟨g, 0, none⟩) n c) q ∨ ∃ k, k < ll.length ∧ own ((vs.set i xv).getD k undef) q, ⟨vs.set i xv, by rw [List.length_set, List.length_set]; exact h1, by rw [List.length_set]; exact hs1, fun k hk => ?_, fun k hk q hq => ?_, fun k m hkm hm q hq => ?_, fun q => by rw [List.length_set]⟩, fun q hq => ?_⟩
  · rw [List.length_set] at hk
    rw [hset k, hsl k hk]
    by_cases e : k = i
    · rw [if_pos e, if_pos e]
      exact hx.step hs2 (fun q hq e' => hg (e' ▸ hq))
    · rw [if_neg e, if_neg e]
      exact (h3 k hk).step hs2 (fun q hq e' => h4 k hk g hog (e' ▸ hq))
  · rw [List.length_set] at hk
    rw [hset k]
    by_cases e : k = i
    · rw [if_pos e]
      exact fun hq' => hg ((own_slice.1 hq) ▸ hq')
    · rw [if_neg e]
      exact h4 k hk q hq
  · rw [List.length_set] at hm
    rw [hset k] at hq
    rw [hset m]
    by_cases e : k = i
    · rw [if_pos e] at hq
      rw [if_neg (by omega)]
      exact hnot q hq m hm (by omega)
    · rw [if_neg e] at hq
      by_cases e2 : m = i
      · rw [if_pos e2]
        exact fun hq' => hnot q hq' k (by omega) e hq
      · rw [if_neg e2]
        exact h5 k m hkm hm q hq
  · rcases hq with hq | ⟨k, hk, hq⟩
    · exact .inl ((h6 q).2 (.inl hq))
    · rw [hset k] at hq
      by_cases e : k = i
      · rw [if_pos e] at hq; exact .inr hq
      · rw [if_neg e] at hq; exact .inl ((h6 q).2 (.inr ⟨k, hk, hq⟩))
end Go.Proofs.YtdgcohoneijleaaGreat
