import Derived.Test.YtndhijckbponkaaQh
import Derived.Test.YtndhijckbponkaaPf
/- chances drawn: their memory -/
namespace Go.Proofs.Ytndhijckbponkaa
open Go.RowKit

/-- Chances that grow while they are drawn -/
structure CsD (b B K G R X : Nat) (w W : World) (pv : List Value) (wv qv : Value) (ws : List Int) (qs : List (List Int)) (F : Nat → Prop) : Prop where
  cur : Cur W b B K
  chg : Chg (fun q => q = b) w W
  bp : BoxN W G pv
  br : BoxN W R [.slice none 0 0, .slice none 0 0]
  bx : BoxN W X [wv, qv]
  ow : OI (X + 1) W wv ws
  oq : OII (X + 1) W qv qs F
  ap : ∀ q, own wv q → ¬ F q
  lt : b < B ∧ B ≤ G ∧ G < R ∧ R < X
  sz : w.heap.size = G
section
variable {b B K K' G R X : Nat} {w W W' : World} {pv : List Value} {wv qv : Value} {ws : List Int} {qs : List (List Int)} {F : Nat → Prop}
theorem CsD.call (h : CsD b B K G R X w W pv wv qv ws qs F) (hc : Cur W' b B K') (hk : Chg (fun q => q = b) W W') : CsD b B K' G R X w W' pv wv qv ws qs F := by
  have hl := h.lt
  exact ⟨hc, h.chg.trans hk, h.bp.step hk (by omega), h.br.step hk (by omega), h.bx.step hk (by omega), h.ow.step hk (fun q hq e => by have := (h.ow.lt q hq).1; omega), h.oq.step hk (fun q hq e => by have := (h.oq.lt q hq).1; omega), h.ap, h.lt, h.sz⟩
theorem CsD.keep (h : CsD b B K G R X w W pv wv qv ws qs F) (hk : Chg No W W') : CsD b B K G R X w W' pv wv qv ws qs F :=
  h.call (h.cur.keep hk) ((Chg.refl (fun q => q = b) W).step hk (fun _ e _ => e.elim))
theorem CsD.more (h : CsD b B K G R X w W pv wv qv ws qs F) (hK : K ≤ K') : CsD b B K' G R X w W pv wv qv ws qs F := ⟨h.cur.more hK, h.chg, h.bp, h.br, h.bx, h.ow, h.oq, h.ap, h.lt, h.sz⟩
theorem CsD.far (h : CsD b B K G R X w W pv wv qv ws qs F) {T : Nat → Prop} {Z : Nat} (k : Chg T W W') (hT : ∀ q, T q → Z ≤ q) (hF : ∀ q, F q → q < Z) (hw : ∀ q, own wv q → q < Z) (hX : X < Z) : CsD b B K G R X w W' pv wv qv ws qs F := by
  have hl := h.lt
  exact ⟨h.cur.step k (fun q e => by have := hT q e; omega), h.chg.step k (fun q e hlt => by have := hT q e; have := h.sz; omega), h.bp.step k (fun e => by have := hT _ e; omega), h.br.step k (fun e => by have := hT _ e; omega), h.bx.step k (fun e => by have := hT _ e; omega),
    h.ow.step k (fun q hq e => by have := hw q hq; have := hT q e; omega), h.oq.step k (fun q hq e => by have := hF q hq; have := hT q e; omega), h.ap, h.lt, h.sz⟩
/-- a sequence more -/
theorem CsD.app (h : CsD b B K G R X w W pv wv qv ws qs F) {v' sv : Value} {qs' : List (List Int)} {F3 : Nat → Prop} (h3 : OII (X + 1) W' v' qs' F3) (k3 : Chg (own qv) W W') (hF3 : ∀ q, F3 q → F q ∨ own sv q ∨ W.heap.size ≤ q) (hF : ∀ q, own qv q → F q) (hs : ∀ q, own sv q → ¬ own wv q) :
    CsD b B K G R X w (W'.setCell ⟨X, 1, none⟩ v') pv wv v' ws qs' F3 ∧ BoxN W' X [wv, qv] := by
  have hl := h.lt
  have hXl := h.bx.lt
  have hR : ∀ q, own qv q → X + 1 ≤ q := fun q hq => (h.oq.lt q (hF q hq)).1
  have hbx : BoxN W' X [wv, qv] := h.bx.step k3 (fun e => by have := hR X e; omega)
  refine ⟨⟨(h.cur.step k3 (fun q hq => by have := hR q hq; omega)).step (chg1 W' X 1 v') (fun q e => by omega), (h.chg.step k3 (fun q hq hlt => by have := hR q hq; have := h.sz; omega)).setCell (p := ⟨X, 1, none⟩) (fun e => by have := h.sz; simp at e; omega) _,
    (h.bp.step k3 (fun e => by have := hR _ e; omega)).far ⟨X, 1, none⟩ _ (by simp; omega), (h.br.step k3 (fun e => by have := hR _ e; omega)).far ⟨X, 1, none⟩ _ (by simp; omega), hbx.set (i := 1) (by simp) v',
    (h.ow.step k3 (fun q hq e => h.ap q hq (hF q e))).step (chg1 W' X 1 v') (fun q hq e => by have := (h.ow.lt q hq).1; omega), h3.step (chg1 W' X 1 v') (fun q hq e => by have := (h3.lt q hq).1; omega), fun q hq e => ?_, h.lt, h.sz⟩, hbx⟩
  rcases hF3 q e with e | e | e
  · exact h.ap q hq e
  · exact hs q e hq
  · have := (h.ow.lt q hq).2; omega
/-- the weights -/
theorem CsD.setw (h : CsD b B K G R X w W pv wv qv ws qs F) (hc : Cur W' b B K') (hk : Chg (fun q => q = b) W W') {v' : Value} {ws' : List Int} (h3 : OI W.heap.size W' v' ws') :
    CsD b B K' G R X w (W'.setCell ⟨X, 0, none⟩ v') pv v' qv ws' qs F ∧ BoxN W' X [wv, qv] := by
  have hl := h.lt
  have hXl := h.bx.lt
  have h' := h.call hc hk
  refine ⟨⟨h'.cur.step (chg1 W' X 0 v') (fun q e => by omega), h'.chg.setCell (p := ⟨X, 0, none⟩) (fun e => by have := h.sz; simp at e; omega) _,
    h'.bp.far ⟨X, 0, none⟩ _ (by simp; omega), h'.br.far ⟨X, 0, none⟩ _ (by simp; omega), h'.bx.set (i := 0) (by simp) v',
    (h3.weak (by omega)).step (chg1 W' X 0 v') (fun q hq e => by have := (h3.lt q hq).1; omega), h'.oq.step (chg1 W' X 0 v') (fun q hq e => by have := (h'.oq.lt q hq).1; omega), fun q hq e => ?_, h.lt, h.sz⟩, h'.bx⟩
  have e1 := (h3.lt q hq).1
  have e2 := (h.oq.lt q e).2
  omega
/-- another first sequence -/
theorem CsD.put0 (h : CsD b B K G R X w W pv wv qv ws qs F) (hq : 0 < qs.length) : ∃ g c ra rc, qv = .slice (some ⟨g, 0, none⟩) qs.length c ∧ g < W.heap.size ∧ ¬ g = b ∧ X + 1 ≤ g ∧ W.cell? ⟨g, 0, none⟩ = some (.slice ra (qs.getD 0 []).length rc) ∧ W.frozen? ⟨g, 0, none⟩ = false ∧ OI (X + 1) W (.slice ra (qs.getD 0 []).length rc) (qs.getD 0 []) ∧
    ∀ (K' : Nat) (W' : World) (xv : Value) (l' : List Int), Cur W' b B K' → Chg (fun q => q = b) W W' → OI W.heap.size W' xv l' → ∃ F3, CsD b B K' G R X w (W'.setCell ⟨g, 0, none⟩ xv) pv wv (.slice (some ⟨g, 0, none⟩) qs.length c) ws (qs.set 0 l') F3 := by
  have hl := h.lt
  obtain ⟨g, c, x, rfl, hgc, hgf, hx, _, _, hFg, _⟩ := h.oq.putGrow hq
  obtain ⟨ra, rc, rfl, _⟩ := hx.view
  obtain ⟨hg1, hg2⟩ := h.oq.lt g hFg
  refine ⟨g, c, ra, rc, rfl, hg2, by omega, hg1, hgc, hgf, hx, fun K' W' xv l' hc hk hv => ?_⟩
  have h' := h.call hc hk
  have hxl : ∀ q, own xv q → W.heap.size ≤ q := fun q e => (hv.lt q e).1
  have hXl := h.bx.lt
  obtain ⟨F3, h3, h4⟩ := h'.oq.putRow hq (hv.weak (by omega)) (fun q e e' => by have e1 := hxl q e; have e2 := (h.oq.lt q e').2; omega) (fun e => by have := hxl g e; omega)
  refine ⟨F3, h'.cur.step (chg1 W' g 0 xv) (fun q e => by omega), h'.chg.setCell (p := ⟨g, 0, none⟩) (fun e => by have := h.sz; simp at e; omega) _,
    h'.bp.far ⟨g, 0, none⟩ _ (by simp; omega), h'.br.far ⟨g, 0, none⟩ _ (by simp; omega), h'.bx.far ⟨g, 0, none⟩ _ (by simp; omega),
    h'.ow.step (chg1 W' g 0 xv) (fun q hq e => h.ap q hq (e ▸ hFg)), h3, fun q hq e => ?_, h.lt, h.sz⟩
  rcases h4 q e with e1 | e1
  · exact h.ap q hq e1
  · have := (h.ow.lt q hq).2; have := hxl q e1; omega
theorem CsD.fin (h : CsD b B K G R X w W pv wv qv ws qs F) :
    (RCh (fun q => q < G) ((W.setCell ⟨R, 0, none⟩ wv).setCell ⟨R, 1, none⟩ qv) (.agg #[wv, qv]) qs ws ∧ Cur ((W.setCell ⟨R, 0, none⟩ wv).setCell ⟨R, 1, none⟩ qv) b B K ∧ Chg (fun q => q = b) w ((W.setCell ⟨R, 0, none⟩ wv).setCell ⟨R, 1, none⟩ qv)) ∧ BoxN ((W.setCell ⟨R, 0, none⟩ wv).setCell ⟨R, 1, none⟩ qv) R [wv, qv] := by
  have k := (chg1 W R 0 wv).trans (chg1 (W.setCell ⟨R, 0, none⟩ wv) R 1 qv)
  have hl := h.lt
  refine ⟨⟨⟨wv, qv, rfl, (h.ow.step k (fun q hq e => by have := (h.ow.lt q hq).1; omega)).read (fun q hq e => ?_), (h.oq.step k (fun q hq e => by have := (h.oq.lt q hq).1; omega)).read (fun q hq e => ?_)⟩, h.cur.step k (fun q e => by omega), h.chg.step k (fun q e hlt => by have := h.sz; omega)⟩, (h.br.set (i := 0) (by simp) wv).set (i := 1) (by simp) qv⟩
  · have := (h.ow.lt q hq).1; omega
  · have := (h.oq.lt q hq).1; omega
end
end Go.Proofs.Ytndhijckbponkaa
