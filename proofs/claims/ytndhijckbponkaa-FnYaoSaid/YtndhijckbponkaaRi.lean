import Derived.Test.YtndhijckbponkaaRh
import Derived.Test.YtndhijckbponkaaTy
/- a mixture drawn -/
namespace Go.Proofs.Ytndhijckbponkaa
open Go.RowKit

theorem elTabs : El 57 22 (.slice none 0 0) 1 24 := El.mk' Try.underlying57 (by kernel_rfl) rfl (by omega)
/-- v is a slice of tables that reads as ns; nothing of it lies in a block of A -/
def RIII (A : Nat → Prop) (w : World) (v : Value) (ns : List (List (List Int))) : Prop :=
  ns.length ≤ 1099511627776 ∧ ∃ vs, vs.length = ns.length ∧ RF A w v 1 ns.length vs ∧ ∀ i, i < ns.length → RII A w (vs.getD i undef) (ns.getD i [])
theorem RIII.step {A T : Nat → Prop} {w w' : World} {v : Value} {ns : List (List (List Int))} (h : RIII A w v ns) (hc : Chg T w w') (hT : ∀ k, T k → A k) : RIII A w' v ns := by
  obtain ⟨h0, vs, h1, h2, h3⟩ := h
  exact ⟨h0, vs, h1, h2.step hc hT, fun i hi => (h3 i hi).step hc hT⟩
theorem RIII.keep {A : Nat → Prop} {w w' : World} {v : Value} {ns : List (List (List Int))} (h : RIII A w v ns) (hc : Chg No w w') : RIII A w' v ns := h.step hc (fun _ hk => hk.elim)
theorem RIII.weak {A B : Nat → Prop} {w : World} {v : Value} {ns : List (List (List Int))} (h : RIII A w v ns) (hB : ∀ k, B k → k < w.heap.size → A k) : RIII B w v ns := by
  obtain ⟨h0, vs, h1, h2, h3⟩ := h
  exact ⟨h0, vs, h1, h2.weak hB, fun i hi => (h3 i hi).weak hB⟩
theorem RIII.shape {A : Nat → Prop} {w : World} {v : Value} {ns : List (List (List Int))} (h : RIII A w v ns) : ∃ a cap, v = .slice a ns.length cap := by
  obtain ⟨_, vs, _, h2, _⟩ := h
  exact h2.shape
theorem RIII.row {A : Nat → Prop} {w : World} {a : Option Addr} {n cap : Nat} {ns : List (List (List Int))} (h : RIII A w (.slice a n cap) ns) {i : Nat} (hi : i < ns.length) :
    ∃ b off xa xc, a = some ⟨b, off, none⟩ ∧ b < w.heap.size ∧ w.cell? ⟨b, off + i, none⟩ = some (.slice xa (ns.getD i []).length xc) ∧ RII A w (.slice xa (ns.getD i []).length xc) (ns.getD i []) := by
  obtain ⟨h0, vs, h1, ⟨a', cap', e, h4, h5, h6, h7, h8⟩, h3⟩ := h
  simp only [Value.slice.injEq] at e
  obtain ⟨rfl, rfl, rfl⟩ := e
  obtain ⟨b, off, rfl, hA, hb, hc⟩ := h8 (by omega)
  have h9 := h3 i hi
  obtain ⟨xa, xc, hx⟩ := h9.shape
  have hci := hc i (by omega)
  rw [hx] at h9 hci
  exact ⟨b, off, xa, xc, rfl, hb, hci, h9⟩
/-- a Mixture as a value -/
def RMx (A : Nat → Prop) (w : World) (v : Value) (ns : List (List (List Int))) (ws : List Int) : Prop := ∃ wv qv, v = .agg #[wv, qv] ∧ RI A w wv ws ∧ RIII A w qv ns
theorem RMx.step {A T : Nat → Prop} {w w' : World} {v : Value} {ns : List (List (List Int))} {ws : List Int} (h : RMx A w v ns ws) (hc : Chg T w w') (hT : ∀ k, T k → A k) : RMx A w' v ns ws := by
  obtain ⟨wv, qv, rfl, h1, h2⟩ := h
  exact ⟨wv, qv, rfl, h1.step hc hT, h2.step hc hT⟩
theorem RMx.keep {A : Nat → Prop} {w w' : World} {v : Value} {ns : List (List (List Int))} {ws : List Int} (h : RMx A w v ns ws) (hc : Chg No w w') : RMx A w' v ns ws := h.step hc (fun _ hk => hk.elim)
theorem RMx.weak {A B : Nat → Prop} {w : World} {v : Value} {ns : List (List (List Int))} {ws : List Int} (h : RMx A w v ns ws) (hB : ∀ k, B k → k < w.heap.size → A k) : RMx B w v ns ws := by
  obtain ⟨wv, qv, rfl, h1, h2⟩ := h
  exact ⟨wv, qv, rfl, h1.weak hB, h2.weak hB⟩
theorem RMx.rows {A : Nat → Prop} {w : World} {wv qv : Value} {ns : List (List (List Int))} {ws : List Int} (h : RMx A w (.agg #[wv, qv]) ns ws) : RI A w wv ws ∧ RIII A w qv ns := by
  obtain ⟨a, c, e, h1, h2⟩ := h
  simp only [Value.agg.injEq, Array.mk.injEq, List.cons.injEq, and_true] at e
  obtain ⟨rfl, rfl⟩ := e
  exact ⟨h1, h2⟩
/-- a Mixture that grows while it is drawn -/
structure MxD (b B K G R X : Nat) (w W : World) (mv sv : Value) (m s : List (List Int)) (qv : Value) (ns : List (List (List Int))) (vs : List Value) (F : Nat → Prop) : Prop where
  cur : Cur W b B K
  chg : Chg (fun q => q = b) w W
  bp : BoxN W G [mv, sv]
  br : BoxN W R [.slice none 0 0, .slice none 0 0]
  bx : BoxN W X [.slice none 0 0, qv]
  oq : OS 22 1 (X + 1) W qv ns.length vs
  vl : vs.length = ns.length
  tb : ∀ i, i < ns.length → RII (fun q => ¬ F q) W (vs.getD i undef) (ns.getD i [])
  fo : ∀ q, F q → X < q ∧ q < W.heap.size ∧ ¬ own qv q
  pr : RPr (fun q => q = b ∨ G < q) W (.agg #[mv, sv]) ⟨m, s⟩
  lt : b < B ∧ B ≤ G ∧ G < R ∧ R < X
  sz : w.heap.size = G
section
variable {b B K K' G R X : Nat} {w W W' : World} {mv sv qv : Value} {m s : List (List Int)} {ns : List (List (List Int))} {vs : List Value} {F : Nat → Prop}
theorem MxD.call (h : MxD b B K G R X w W mv sv m s qv ns vs F) (hc : Cur W' b B K') (hk : Chg (fun q => q = b) W W') : MxD b B K' G R X w W' mv sv m s qv ns vs F := by
  have hl := h.lt
  exact ⟨hc, h.chg.trans hk, h.bp.step hk (by omega), h.br.step hk (by omega), h.bx.step hk (by omega), h.oq.step hk (fun q hq e => by have := (h.oq.lt q hq).1; omega), h.vl,
    fun i hi => (h.tb i hi).step hk (fun q e hf => by have := (h.fo q hf).1; omega), fun q hq => ⟨(h.fo q hq).1, Nat.lt_of_lt_of_le (h.fo q hq).2.1 hk.size, (h.fo q hq).2.2⟩, h.pr.step hk (fun q e => .inl e), h.lt, h.sz⟩
theorem MxD.keep (h : MxD b B K G R X w W mv sv m s qv ns vs F) (hk : Chg No W W') : MxD b B K G R X w W' mv sv m s qv ns vs F :=
  h.call (h.cur.keep hk) ((Chg.refl (fun q => q = b) W).step hk (fun _ e _ => e.elim))
theorem MxD.more (h : MxD b B K G R X w W mv sv m s qv ns vs F) (hK : K ≤ K') : MxD b B K' G R X w W mv sv m s qv ns vs F := ⟨h.cur.more hK, h.chg, h.bp, h.br, h.bx, h.oq, h.vl, h.tb, h.fo, h.pr, h.lt, h.sz⟩
/-- a table more: made by a call (from W0 on), the row grown in W2, stored -/
theorem MxD.app (h : MxD b B K G R X w W mv sv m s qv ns vs F) {W2 : World} {nv v' : Value} {nx : List (List Int)} (hc : Cur W' b B K') (hk : Chg (fun q => q = b) W W') (hn : RII (fun q => q < W.heap.size) W' nv nx)
    (h2 : OS 22 1 (X + 1) W2 v' (ns.length + 1) (vs ++ [nv])) (k2 : Chg (own qv) W' W2) (f2 : ∀ q, own v' q → own qv q ∨ W'.heap.size ≤ q) :
    ∃ F', MxD b B K' G R X w (W2.setCell ⟨X, 1, none⟩ v') mv sv m s v' (ns ++ [nx]) (vs ++ [nv]) F' := by
  have hl := h.lt
  have hXl := h.bx.lt
  have h' := h.call hc hk
  have hR : ∀ q, own qv q → X < q := fun q hq => (h'.oq.lt q hq).1
  have hq1 : ∀ q, own qv q → q < W.heap.size := fun q hq => (h.oq.lt q hq).2
  have hbx := h'.bx.step k2 (fun e => by have := hR X e; omega)
  have hs2 := k2.size
  have hs1 := hk.size
  have hlen : (ns ++ [nx]).length = ns.length + 1 := by rw [List.length_append]; rfl
  have hX : Chg (fun q => own qv q ∨ q = X) W' (W2.setCell ⟨X, 1, none⟩ v') := (k2.mono (fun q hq _ => .inl hq)).setCell (p := ⟨X, 1, none⟩) (fun _ => .inr rfl) v'
  refine ⟨fun q => F q ∨ (W.heap.size ≤ q ∧ q < W'.heap.size), (h'.cur.step k2 (fun q hq => by have := hR q hq; omega)).step (chg1 W2 X 1 v') (fun q e => by omega), (h'.chg.step k2 (fun q hq hlt => by have := hR q hq; have := h.sz; omega)).setCell (p := ⟨X, 1, none⟩) (fun e => by have := h.sz; simp at e; omega) _,
    (h'.bp.step k2 (fun e => by have := hR _ e; omega)).far ⟨X, 1, none⟩ _ (by simp; omega), (h'.br.step k2 (fun e => by have := hR _ e; omega)).far ⟨X, 1, none⟩ _ (by simp; omega), hbx.set (i := 1) (by simp) v', ?_, by rw [List.length_append, hlen, h.vl]; rfl, fun i hi => ?_, fun q hq => ?_,
    h'.pr.step hX (fun q e => .inr (by rcases e with e | e; (have := hR q e; omega); omega)), h.lt, h.sz⟩
  · rw [hlen]
    exact h2.step (chg1 W2 X 1 v') (fun q hq e => by have := (h2.lt q hq).1; omega)
  · rw [hlen] at hi
    by_cases e : i < ns.length
    · have e1 := (h'.tb i e).weak (B := fun q => ¬ (F q ∨ (W.heap.size ≤ q ∧ q < W'.heap.size))) (fun q hq _ hf => hq (.inl hf))
      rw [List.getD_eq_getElem?_getD, List.getD_eq_getElem?_getD, List.getElem?_append_left e, List.getElem?_append_left (by rw [h.vl]; exact e), ← List.getD_eq_getElem?_getD, ← List.getD_eq_getElem?_getD]
      refine e1.step hX (fun q hq hf => ?_)
      rcases hf with hf | hf
      · rcases hq with hq | hq
        · exact (h.fo q hf).2.2 hq
        · have := (h.fo q hf).1; omega
      · rcases hq with hq | hq
        · have := hq1 q hq; omega
        · omega
    · have ei : i = ns.length := by omega
      subst ei
      have e1 : (ns ++ [nx]).getD ns.length [] = nx := by rw [List.getD_eq_getElem?_getD, List.getElem?_append_right (Nat.le_refl _), Nat.sub_self]; rfl
      have e2 : (vs ++ [nv]).getD ns.length undef = nv := by rw [List.getD_eq_getElem?_getD, List.getElem?_append_right (by rw [h.vl]; exact Nat.le_refl _), h.vl, Nat.sub_self]; rfl
      rw [e1, e2]
      refine (hn.weak (B := fun q => ¬ (F q ∨ (W.heap.size ≤ q ∧ q < W'.heap.size))) (fun q hq hlt => ?_)).step hX (fun q hq hf => ?_)
      · show q < W.heap.size
        rcases Nat.lt_or_ge q W.heap.size with h1 | h1
        · exact h1
        · exact absurd (Or.inr ⟨h1, hlt⟩) hq
      · rcases hf with hf | hf
        · rcases hq with hq | hq
          · exact (h.fo q hf).2.2 hq
          · have := (h.fo q hf).1; omega
        · rcases hq with hq | hq
          · have := hq1 q hq; omega
          · omega
  · have hsz : (W2.setCell ⟨X, 1, none⟩ v').heap.size = W2.heap.size := by simp
    rw [hsz]
    rcases hq with hq | hq
    · obtain ⟨q1, q2, q3⟩ := h.fo q hq
      refine ⟨q1, by omega, fun e => ?_⟩
      rcases f2 q e with e | e
      · exact q3 e
      · omega
    · refine ⟨by omega, by omega, fun e => ?_⟩
      rcases f2 q e with e | e
      · have := hq1 q e; omega
      · omega
theorem MxD.fin (h : MxD b B K G R X w W mv sv m s qv ns vs F) {wv : Value} {ws : List Int} (hc : Cur W' b B K') (hk : Chg (fun q => q = b) W W') (h3 : OI W.heap.size W' wv ws) {Wf : World} (hf : Wf = ((W'.setCell ⟨X, 0, none⟩ wv).setCell ⟨R, 0, none⟩ wv).setCell ⟨R, 1, none⟩ qv) :
    (RMx (fun q => q < G) Wf (.agg #[wv, qv]) ns ws ∧ Cur Wf b B K' ∧ Chg (fun q => q = b) w Wf) ∧ BoxN Wf R [wv, qv] := by
  have hl := h.lt
  have hXl := h.bx.lt
  have h' := h.call hc hk
  have k : Chg (fun q => q = X ∨ q = R) W' Wf := by
    rw [hf]
    exact (((Chg.refl (fun q => q = X ∨ q = R) W').setCell (p := ⟨X, 0, none⟩) (fun _ => .inl rfl) wv).setCell (p := ⟨R, 0, none⟩) (fun _ => .inr rfl) wv).setCell (p := ⟨R, 1, none⟩) (fun _ => .inr rfl) qv
  have hb : BoxN Wf R [wv, qv] := by
    rw [hf]
    exact ((h'.br.far ⟨X, 0, none⟩ wv (by simp; omega)).set (i := 0) (by simp) wv).set (i := 1) (by simp) qv
  clear hf
  refine ⟨⟨⟨wv, qv, rfl, (h3.step k (fun q hq e => by have := (h3.lt q hq).1; omega)).read (fun q hq e => by have := (h3.lt q hq).1; have e : q < G := e; omega), ?_⟩, h'.cur.step k (fun q e => by omega), h'.chg.step k (fun q e hlt => by have := h.sz; omega)⟩, hb⟩
  refine ⟨h'.oq.1, vs, h.vl, (h'.oq.step k (fun q hq e => by have := (h'.oq.lt q hq).1; omega)).read (fun q hq e => by have := (h'.oq.lt q hq).1; have e : q < G := e; omega), fun i hi => ?_⟩
  exact ((h'.tb i hi).step k (fun q e hq => by have := (h'.fo q hq).1; omega)).weak (fun q e _ hq => by have := (h'.fo q hq).1; have e : q < G := e; omega)
end
end Go.Proofs.Ytndhijckbponkaa
