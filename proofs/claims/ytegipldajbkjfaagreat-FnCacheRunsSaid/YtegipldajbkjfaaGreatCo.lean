import Derived.Test.YtegipldajbkjfaaGreatR
import Derived.Test.YtegipldajbkjfaaGreatSo
import Derived.Test.YtegipldajbkjfaaGreatSm
/- ContentsOf, both sides -/
namespace Go.Proofs.YtegipldajbkjfaaGreat
open Go.RowKit

/-- the pages after each of the first j requests, in ascending order -/
def pagesTo (c : Ca) (l : List Int) : Nat → List (List Int)
  | 0 => []
  | j + 1 => pagesTo c l j ++ [diffL (runC c (l.take (j + 1))).pages]
theorem pagesTo_len (c : Ca) (l : List Int) (j : Nat) : (pagesTo c l j).length = j := by
  induction j with
  | zero => rfl
  | succ j ih => simp [pagesTo, ih]
theorem pagesTo_tot {c : Ca} (hok : Ok c) (l : List Int) (j : Nat) : tot (pagesTo c l j) ≤ 6 * j := by
  induction j with
  | zero => simp [pagesTo, tot]
  | succ j ih =>
    have := ok_run hok (l.take (j + 1))
    have h1 := this.len
    have h2 := this.size
    have h3 := diffL_len_le (runC c (l.take (j + 1))).pages
    rw [pagesTo, tot_append]
    simp only [tot]
    omega
/-- a call at an operation -/
theorem ocall {o : Oper} {a : Act} {K : Act → World → Prop} {Q : Exit → Act → World → Prop} {w : World} {f : FuncId} {args : Array Value} {φ : Value → World → Prop}
    (ho : (execOp a.eval o).run Tryz.prog w = .ok (.enter f args) w) (h : Calls Tryz.prog f args w (Ret φ)) (hk : ∀ v w', φ v w' → K (a.put o.dst v) w') : Oper.wp Tryz.prog o a w K Q := by
  unfold Oper.wp
  rw [ho]
  refine h.mono (fun e w' hr => ?_)
  obtain ⟨v, rfl, hp⟩ := hr
  exact hk v w' hp
/-- a slice of one slice -/
theorem obuildS {o : Oper} {a : Act} {K : Act → World → Prop} {Q : Exit → Act → World → Prop} {w : World} (y : Operand) (xa : Option Addr) (xn xc : Nat)
    (ho : o.op = .buildSlice 47 1 #[(0, y)]) (hy : a.eval y = .slice xa xn xc)
    (h : ∀ g w', Chg No w w' → RF No w' (.slice (some ⟨g, 0, none⟩) 1 1) 1 1 [.slice xa xn xc] → K (a.put o.dst (.slice (some ⟨g, 0, none⟩) 1 1)) w') :
    Oper.wp Tryz.prog o a w K Q := by
  have h1 := h w.heap.size (w.alloc (.cells #[.slice xa xn xc] 24)) ((Chg.refl No w).alloc _)
    ⟨_, _, rfl, Nat.le_refl _, by omega, by simp, by simp, fun _ => ⟨w.heap.size, 0, rfl, fun e => e, by simp, fun i hi => by
      have : i = 0 := by simpa using hi
      subst this
      rw [World.cell?_alloc_new]; rfl⟩⟩
  unfold Oper.wp execOp
  simp only [ho, List.map_toArray, List.map_cons, List.map_nil, hy]
  go_simp
  exact h1

def JC (base bo : Nat) (c : Ca) (l : List Int) (j : Nat) (U : Nat → Prop) (w : World) : Prop :=
  ∃ ov F, w.cell? ⟨bo, 0, none⟩ = some ov ∧ w.frozen? ⟨bo, 0, none⟩ = false ∧ OII base w ov (pagesTo c l j) F ∧ (∀ q, U q ↔ q = bo ∨ F q) ∧ ¬ F bo ∧ base ≤ bo
theorem JC.keep {base bo : Nat} {c : Ca} {l : List Int} {j : Nat} {U : Nat → Prop} {w w' : World} {S : Nat → Prop} (h : JC base bo c l j U w) (hc : Chg S w w') (hs : ∀ q, U q → ¬ S q) : JC base bo c l j U w' := by
  obtain ⟨ov, F, h1, h2, h3, h4, h5, h6⟩ := h
  have hbl := World.block_lt_of_cell? w _ h1
  have hsb := hs bo ((h4 bo).2 (.inl rfl))
  exact ⟨ov, F, (hc.cellD bo 0 hbl hsb).trans h1, (hc.frozenD bo 0 hbl hsb).trans h2, h3.step hc (fun q hq => hs q ((h4 q).2 (.inr hq))), h4, h5, h6⟩
theorem JC.lt {base bo : Nat} {c : Ca} {l : List Int} {j : Nat} {U : Nat → Prop} {w : World} (h : JC base bo c l j U w) (q : Nat) (hq : U q) : q < w.heap.size := by
  obtain ⟨ov, F, h1, h2, h3, h4, h5, h6⟩ := h
  rcases (h4 q).1 hq with rfl | hq
  · exact World.block_lt_of_cell? w _ h1
  · exact (h3.lt q hq).2
theorem OII.open {base : Nat} {w : World} {v : Value} {ll : List (List Int)} {F : Nat → Prop} (h : OII base w v ll F) : ∃ vs, vs.length = ll.length ∧ OS 24 1 base w v ll.length vs ∧ (∀ i, i < ll.length → OI base w (vs.getD i undef) (ll.getD i [])) ∧
    (∀ i, i < ll.length → ∀ q, own v q → ¬ own (vs.getD i undef) q) ∧ (∀ i j, i < j → j < ll.length → ∀ q, own (vs.getD i undef) q → ¬ own (vs.getD j undef) q) ∧
    ∀ q, F q ↔ own v q ∨ ∃ i, i < ll.length ∧ own (vs.getD i undef) q := h

set_option maxRecDepth 100000 in
set_option maxHeartbeats 1000000 in
theorem contentsOf1_any (base bo : Nat) (c : Ca) (l : List Int) (j : Nat) (U : Nat → Prop) (w : World) (xb xa : Value) (fb : Bool) (hll : j < 1000000) (h : JC base bo c l j U w) (hb : base ≤ w.heap.size) (sb : ∃ a n q, xb = .slice a n q) (ra : RI U w xa (runC c (l.take (j + 1))).pages) :
    Calls Tryz.prog 146 #[.int .i64 (j : Int), xb, xa, .bool fb, .pointer (some ⟨bo, 0, none⟩)] w
      (Ret fun v' w' => v' = .tuple #[] ∧ ∃ U', JC base bo c l (j + 1) U' w' ∧ Chg U w w' ∧ ∀ q, U' q → U q ∨ w.heap.size ≤ q) := by
  obtain ⟨ov, F, hc, hf, ho, hU, hno, hbo⟩ := h
  obtain ⟨_, _, _, rfl⟩ := sb
  obtain ⟨xa', xn', xc', rfl⟩ := ra.shape
  obtain ⟨vs, z1, z2, z3, z4, z5, z6⟩ := ho.open
  obtain ⟨oa, oc, hov, _⟩ := z2.view
  subst hov
  have hbl := World.block_lt_of_cell? w _ hc
  simp only at hbl
  have hpl := pagesTo_len c l j
  have HPL := Lib.hid hpl
  obtain ⟨pg, hpg⟩ : ∃ pg, (runC c (l.take (j + 1))).pages = pg := ⟨_, rfl⟩
  have HPG := Lib.hid hpg
  rw [hpg] at ra
  clear hpl hpg
  go_enter Tryz.func146, Tryz.ntmps146
  go_wp2_with fail
  refine wp_region_K (S := fun W => W.cell? ⟨bo, 0, none⟩ = some (.slice oa (pagesTo c l j).length oc)) (k := 4) (by kernel_rfl) ?_
  have c0 : Chg No w w.drew := (Chg.refl No w).drew
  have hS : (fun W : World => W.cell? ⟨bo, 0, none⟩ = some (.slice oa (pagesTo c l j).length oc)) w.drew := hc
  generalize hWd : w.drew = W at c0 hS ⊢
  clear hWd
  refine wpAnyK_take0 1 (.slice xa' xn' xc') rfl (by kernel_rfl) (fun _ _ _ h => h) hS rfl (by intro w; go_simp) ?_
  simp only [List.getElem_toArray, List.getElem_cons_succ, List.getElem_cons_zero, Act.put, List.setIfInBounds_toArray, List.set_cons_zero, List.set_cons_succ]
  refine wpAnyK_take 0 (.slice oa (pagesTo c l j).length oc) rfl (by kernel_rfl) (fun _ _ _ h => h) hS rfl (by intro w hSw; go_simp) ?_
  simp only [List.getElem_toArray, List.getElem_cons_zero, Act.put, List.setIfInBounds_toArray, List.set_cons_zero, List.set_cons_succ]
  refine wpAnyK_1 2 (by kernel_rfl) (wpOpK' rfl rfl ?_)
  intro K hK
  refine ocall (f := 71) (args := #[.slice xa' xn' xc']) (by go_simp) (rising_any U _ pg W (ra.keep c0)) (fun v1 W1 h1 => hK.out _ _ ?_ ?_)
  · exact (h1.2.cellD bo 0 (Nat.lt_of_lt_of_le hbl c0.size) (fun e => e)).trans hS
  obtain ⟨o1, k1⟩ := h1
  obtain ⟨a1, n1, q1, rfl⟩ := o1.shape
  have hS1 := (k1.cellD bo 0 (Nat.lt_of_lt_of_le hbl c0.size) (fun e => e)).trans hS
  clear hK K
  simp only [List.getElem_toArray, List.getElem_cons_succ, List.getElem_cons_zero, Act.put, List.setIfInBounds_toArray, List.set_cons_zero, List.set_cons_succ]
  refine wpAnyK_1 3 (by kernel_rfl) (wpOpK' rfl rfl ?_)
  intro K hK
  refine obuildS (.tmp 11) a1 n1 q1 rfl rfl (fun g2 W2 k2 r2 => hK.out _ _ ?_ ?_)
  · exact (k2.cellD bo 0 (Nat.lt_of_lt_of_le (Nat.lt_of_lt_of_le hbl c0.size) k1.size) (fun e => e)).trans hS1
  have hS2 := (k2.cellD bo 0 (Nat.lt_of_lt_of_le (Nat.lt_of_lt_of_le hbl c0.size) k1.size) (fun e => e)).trans hS1
  clear hK K
  simp only [List.getElem_toArray, List.getElem_cons_succ, List.getElem_cons_zero, Act.put, List.setIfInBounds_toArray, List.set_cons_zero, List.set_cons_succ]
  have c2 := (c0.keep k1).keep k2
  have hsz := c2.size
  have hf2 := (c2.frozenD bo 0 hbl (fun e => e)).trans hf
  have zz2 := z2.keep c2
  have hx := (o1.keep k2).weak (Nat.le_trans hb c0.size)
  have hd1 : ∀ q, own (.slice a1 n1 q1) q → ¬ F q := fun q hq hF => by have := (o1.lt q hq).1; have := (ho.lt q hF).2; have := c0.size; omega
  refine wpAnyK_tail 4 rfl (by kernel_rfl) ?_
  simp only [List.drop_succ_cons, List.drop_zero]
  clear hS hS1
  go_wp2_with (at_builtin; refine wappS elInts (by omega) rfl (.tmp 9) (.tmp 12) rfl zz2 r2 (by simp [Value.oneCell']) rfl rfl (by rw [HPL.out]; omega) (by omega) ?_)
  intro v3 W3 h3 k3 f3
  obtain ⟨F', oF, hF'⟩ := OII.app (ll := pagesTo c l j) z1 (fun i hi => (z3 i hi).keep c2) z4 z5 z6 hx hd1 h3 k3 f3
  obtain ⟨a3, c3, rfl, _⟩ := h3.view
  have hno3 : ¬ own (.slice oa (pagesTo c l j).length oc) bo := fun e => hno ((z6 bo).2 (.inl e))
  have g1 := (k3.cellD bo 0 (by omega) hno3).trans hS2
  have g2 := (k3.frozenD bo 0 (by omega) hno3).trans hf2
  have hF'b : ¬ F' bo := fun hq => by
    rcases hF' bo hq with h | h | h
    · exact hno h
    · have := (o1.lt bo h).1; have := c0.size; omega
    · omega
  go_wp2_with fail
  go_end0
  refine ⟨_, rfl, rfl, fun q => q = bo ∨ F' q, ⟨_, F', World.cell?_setCell_same _ _ _ g1, (World.frozen?_setCell _ _ _ _).trans g2, ?_, fun q => Iff.rfl, hF'b, hbo⟩, ?_, fun q hq => ?_⟩
  · rw [pagesTo, HPG.out]
    exact oF.step ((Chg.refl (fun q => q = bo) _).setCell (fun _ => rfl) _) (fun q hq e => hF'b (e ▸ hq))
  · exact ((c2.mono (fun q e _ => e.elim)).step k3 (fun q hq _ => (hU q).2 (.inr ((z6 q).2 (.inl hq))))).setCell (fun _ => (hU bo).2 (.inl rfl)) _
  · rcases hq with rfl | hq
    · exact .inl ((hU _).2 (.inl rfl))
    · rcases hF' q hq with h | h | h
      · exact .inl ((hU _).2 (.inr h))
      · exact .inr (by have := (o1.lt q h).1; have := c0.size; omega)
      · exact .inr (by omega)

theorem JC.each (base bo : Nat) (c : Ca) (l : List Int) (hll : l.length ≤ 1000000) : Each 146 (.pointer (some ⟨bo, 0, none⟩)) c l (JC base bo c l) :=
  ⟨fun _ _ _ h => h.lt, fun _ _ _ _ _ h hc hs => h.keep hc hs, fun j U w xb xa hj h hb ha => by
    refine contentsOf1_any base bo c l j U w xb xa _ (by omega) h ?_ hb.shape ha
    obtain ⟨ov, F, h1, _, _, _, _, h6⟩ := h
    exact Nat.le_trans h6 (Nat.le_of_lt (World.block_lt_of_cell? w _ h1))⟩
theorem cfContents (x0 x1 x2 x3 cv : Value) (w : World) : (callFunc 146 #[x0, x1, x2, x3, cv]).run Tryz.prog w = .ok (.enter 146 #[x0, x1, x2, x3, cv]) w := by kernel_rfl

set_option maxRecDepth 100000 in
set_option maxHeartbeats 1000000 in
theorem contentsOf_any (A : Nat → Prop) (p k : Int) (v : Value) (l : List Int) (w : World) (hv : RI A w v l) (hok : Ok (newC p k)) (hll : l.length ≤ 1000000) :
    Calls Tryz.prog 88 #[.int .i64 p, .int .i64 k, v] w (Ret fun v' w' => (∃ F, OII w.heap.size w' v' (pagesTo (newC p k) l l.length) F) ∧ Chg No w w') := by
  have hvk := fun w' (h : Chg No w w') => hv.to (B := fun q => w.heap.size ≤ q) h (fun _ e => e.elim) (fun q hq => .inr hq)
  obtain ⟨a, n, q, rfl⟩ := hv.shape
  go_enter Tryz.func88, Tryz.ntmps88
  go_wp2_with fail
  have hsz : w.heap.size + 1 = (w.alloc (.cells #[] 24)).heap.size := (World.size_alloc ..).symm
  have hJ0 : JC w.heap.size (w.heap.size + 1) (newC p k) l 0 (fun q => q = w.heap.size + 1 ∨ q = w.heap.size) ((w.alloc (.cells #[] 24)).alloc (.cells #[.slice (some ⟨w.heap.size, 0, none⟩) 0 0] 47)) := by
    refine ⟨.slice (some ⟨w.heap.size, 0, none⟩) 0 0, _, ?_, ?_, (OII.zero (Nat.le_refl _)).keep ((Chg.refl No _).alloc _), fun q => Iff.rfl, fun hq => ?_, by omega⟩
    · rw [hsz, World.cell?_alloc_new]; rfl
    · rw [hsz]; exact World.frozen?_alloc_new _ _ _ _
    · omega
  refine (run_any 146 (.pointer (some ⟨w.heap.size + 1, 0, none⟩)) p k _ l _ _ _ (JC.each w.heap.size (w.heap.size + 1) (newC p k) l hll) hJ0 (fun x0 x1 x2 x3 w => cfContents x0 x1 x2 x3 _ w) ((hvk _ (((Chg.refl No w).alloc _).alloc _)).weak (fun q hq _ => ?_)) hok).mono ?_
  · rcases hq with rfl | rfl
    · exact Nat.le_succ _
    · exact Nat.le_refl _
  rintro e w1 ⟨v1, rfl, rfl, U1, ⟨ov, F, h1, h2, h3, h4, h5, h6⟩, hch, hU1⟩
  obtain ⟨a1, c1, rfl, _⟩ := h3.view
  have hch' : Chg No w w1 := (((Chg.refl No w).alloc _).alloc _).step hch (fun q hq hl => by
    rcases hq with rfl | rfl
    · omega
    · omega)
  clear hJ0 hsz hch hvk
  go_wp2
  go_ret
  exact ⟨_, rfl, ⟨F, h3⟩, hch'⟩

set_option maxHeartbeats 1000000 in
theorem implContentsOf_any (A : Nat → Prop) (n p k : Int) (v : Value) (l : List Int) (w : World) (hv : RI A w v l) :
    Calls Tryz.prog 27 #[.int .i64 n, .int .i64 p, .int .i64 k, v] w (Ret2 fun v0 v1 w' => v1 = .bool (askedB n p k l) ∧ (∃ F, OII w.heap.size w' v0 (if askedB n p k l then pagesTo (newC p k) l l.length else []) F) ∧ Chg No w w') := by
  cases hh : askedB n p k l
  · have HH := Lib.hid hh
    clear hh
    go_enter Tryz.func27, Tryz.ntmps27
    go_wp2_with fail
    refine (isRun_any A v l n p k w hv).mono ?_
    rintro e w1 ⟨v1, rfl, rfl, k1⟩
    rw [show (inB p 1 7 && inB k 1 6 && (inB n 1 8 && decide (l.length ≤ 60) && belowB n l)) = false from HH.out]
    go_wp2
    go_ret2
    exact ⟨_, _, rfl, rfl, ⟨No, OII.nil _ _⟩, k1⟩
  · have HH := Lib.hid hh
    have hl60 : l.length ≤ 1000000 := by
      simp only [askedB, Bool.and_eq_true, decide_eq_true_eq] at hh
      omega
    clear hh
    go_enter Tryz.func27, Tryz.ntmps27
    go_wp2_with fail
    refine (isRun_any A v l n p k w hv).mono ?_
    rintro e w1 ⟨v1, rfl, rfl, k1⟩
    rw [show (inB p 1 7 && inB k 1 6 && (inB n 1 8 && decide (l.length ≤ 60) && belowB n l)) = true from HH.out]
    go_wp2_with fail
    refine (contentsOf_any A p k v l w1 (hv.keep k1) (askedB_ok HH.out) hl60).mono ?_
    rintro e w2 ⟨v2, rfl, ⟨F, o2⟩, k2⟩
    go_wp2
    go_ret2
    exact ⟨_, _, rfl, rfl, ⟨F, o2.weak k1.size⟩, k1.keep k2⟩
end Go.Proofs.YtegipldajbkjfaaGreat
