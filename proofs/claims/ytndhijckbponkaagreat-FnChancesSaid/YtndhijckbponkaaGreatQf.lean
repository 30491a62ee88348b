import Derived.Test.YtndhijckbponkaaGreatQg
/- a problem drawn -/
namespace Go.Proofs.YtndhijckbponkaaGreat
open Go.RowKit

/-- append(table, row), the world's size named -/
theorem wappRz {ops : Array Oper} {rest : List Oper} {o : Oper} {a : Act} {Q : Exit → Act → World → Prop} {w : World} {z : Nat} (hz : w.heap.size = z) (hgd : o.guard = none) (s x : Operand)
    (ho : o.op = .call { callee := .builtin .append, args := #[s, x], argTypes := #[24, 24] })
    {base : Nat} {v xv : Value} {ll : List (List Int)} {l : List Int} {F : Nat → Prop} {e : TypeId} (hown : OII base w v ll F) (hx : OI base w xv l) (hd : ∀ q, own xv q → ¬ F q) (hs : a.eval s = v) (hx' : a.eval x = .slice (some ⟨z, 0, none⟩) 1 1)
    (hl : ll.length < 1099511627776) (hbase : base ≤ z)
    (h : ∀ v' w' F', OII base w' v' (ll ++ [l]) F' → Chg (own v) w w' → (∀ q, F' q → F q ∨ own xv q ∨ w.heap.size ≤ q) → (∀ q, own v q → F q) → wpList Tryz.prog ops Q rest (a.put o.dst v') w') :
    wpList Tryz.prog ops Q (o :: rest) a (w.alloc (.cells #[xv] e)) := by
  subst hz
  exact wappR hgd s x ho hown hx hd hs hx' hl hbase h
structure PdD (b B K R X : Nat) (w W : World) (mv sv : Value) (m s : List (List Int)) (F F' : Nat → Prop) : Prop where
  cur : Cur W b B K
  chg : Chg (fun q => q = b) w W
  br : BoxN W R [.slice none 0 0, .slice none 0 0]
  bx : BoxN W X [mv, sv]
  om : OII (R + 1) W mv m F
  os : OII (R + 1) W sv s F'
  ap : ∀ q, F q → F' q → False
  fx : ∀ q, F q → ¬ q = X
  sx : ∀ q, F' q → ¬ q = X
  lt : b < B ∧ B ≤ R ∧ R < X
  sz : w.heap.size = R
theorem PdD.call {b B K K' R X : Nat} {w W W' : World} {mv sv : Value} {m s : List (List Int)} {F F' : Nat → Prop} (h : PdD b B K R X w W mv sv m s F F') (hc : Cur W' b B K') (hk : Chg (fun q => q = b) W W') : PdD b B K' R X w W' mv sv m s F F' :=
  ⟨hc, h.chg.trans hk, h.br.step hk (by have := h.lt; omega), h.bx.step hk (by have := h.lt; omega), h.om.step hk (fun q hq e => by have := (h.om.lt q hq).1; have := h.lt; omega), h.os.step hk (fun q hq e => by have := (h.os.lt q hq).1; have := h.lt; omega), h.ap, h.fx, h.sx, h.lt, h.sz⟩
theorem PdD.keep {b B K R X : Nat} {w W W' : World} {mv sv : Value} {m s : List (List Int)} {F F' : Nat → Prop} (h : PdD b B K R X w W mv sv m s F F') (hk : Chg No W W') : PdD b B K R X w W' mv sv m s F F' :=
  h.call (h.cur.keep hk) (((Chg.refl (fun q => q = b) W).step hk (fun _ e _ => e.elim)))
/-- another table in the place of the requests -/
theorem PdD.app {b B K R X : Nat} {w W W' : World} {mv sv v' : Value} {m s s' : List (List Int)} {F F' F3 T Z : Nat → Prop} (h : PdD b B K R X w W mv sv m s F F') (h3 : OII (R + 1) W' v' s' F3) (k3 : Chg T W W') (hT : ∀ q, T q → F' q)
    (hF3 : ∀ q, F3 q → F' q ∨ Z q ∨ W.heap.size ≤ q) (hZ : ∀ q, Z q → ¬ F q ∧ ¬ q = X) : PdD b B K R X w (W'.setCell ⟨X, 1, none⟩ v') mv v' m s' F F3 ∧ BoxN W' X [mv, sv] := by
  have hl := h.lt
  have hXl := h.bx.lt
  have hTR : ∀ q, T q → R + 1 ≤ q := fun q hq => (h.os.lt q (hT q hq)).1
  have hbx : BoxN W' X [mv, sv] := h.bx.step k3 (fun e => h.sx X (hT X e) rfl)
  have hF3X : ∀ q, F3 q → ¬ q = X := fun q hq => by
    rcases hF3 q hq with e | e | e
    · exact h.sx q e
    · exact (hZ q e).2
    · omega
  refine ⟨⟨(h.cur.step k3 (fun q hq => by have := hTR q hq; omega)).step (chg1 W' X 1 v') (fun q e => by omega), (h.chg.step k3 (fun q hq hlt => by have := hTR q hq; have := h.sz; omega)).setCell (p := ⟨X, 1, none⟩) (fun e => by have := h.sz; simp at e; omega) _,
    (h.br.step k3 (fun e => by have := hTR _ e; omega)).far ⟨X, 1, none⟩ _ (by simp; omega), hbx.set (i := 1) (by simp) v',
    (h.om.step k3 (fun q hq e => h.ap q hq (hT q e))).step (chg1 W' X 1 v') (fun q hq e => h.fx q hq e), h3.step (chg1 W' X 1 v') (fun q hq e => hF3X q hq e), fun q hq e => ?_, h.fx, hF3X, h.lt, h.sz⟩, hbx⟩
  rcases hF3 q e with e | e | e
  · exact h.ap q hq e
  · exact (hZ q e).1 hq
  · have := (h.om.lt q hq).2; omega
theorem PdD.rowput {b B K R X : Nat} {w W : World} {mv sv : Value} {m s : List (List Int)} {F F' : Nat → Prop} (h : PdD b B K R X w W mv sv m s F F') {g i : Nat} {x : Value} (hg : ¬ F' g ∧ ¬ F g ∧ ¬ g = X ∧ ¬ g = b) (hR : R + 1 ≤ g) : PdD b B K R X w (W.setCell ⟨g, i, none⟩ x) mv sv m s F F' :=
  ⟨h.cur.step (chg1 W g i x) (fun q e => by have := h.lt; omega), h.chg.setCell (p := ⟨g, i, none⟩) (fun e => by have := h.sz; simp at e; omega) _, h.br.far ⟨g, i, none⟩ _ (by simp; omega), h.bx.far ⟨g, i, none⟩ _ (by simp; exact hg.2.2.1),
    h.om.step (chg1 W g i x) (fun q hq e => hg.2.1 (e ▸ hq)), h.os.step (chg1 W g i x) (fun q hq e => hg.1 (e ▸ hq)), h.ap, h.fx, h.sx, h.lt, h.sz⟩
theorem PdD.cell {b B K R X : Nat} {w W : World} {mv sv : Value} {m s : List (List Int)} {F F' : Nat → Prop} (h : PdD b B K R X w W mv sv m s F F') {k : Nat} (hk : k < s.length) (hp : 0 < (s.getD k []).length) :
    ∃ g c r rc, sv = .slice (some ⟨g, 0, none⟩) s.length c ∧ W.cell? ⟨g, k, none⟩ = some (.slice (some ⟨r, 0, none⟩) (s.getD k []).length rc) ∧ (∀ j, j < (s.getD k []).length → W.cell? ⟨r, j, none⟩ = some (.int .i64 ((s.getD k []).getD j 0))) ∧ (∀ j, W.frozen? ⟨r, j, none⟩ = false) ∧
      (¬ r = X ∧ ¬ X = r ∧ ¬ r = R ∧ ¬ R = r ∧ ¬ r = g ∧ ¬ g = r ∧ ¬ g = b) ∧ ∀ j x, PdD b B K R X w (W.setCell ⟨r, j, none⟩ (.int .i64 x)) mv sv m (s.set k ((s.getD k []).set j x)) F F' := by
  have hl := h.lt
  obtain ⟨g, c, r, rc, hv, hg, hr, hgr, hgb, hrb, hgc, hrc, hrf, hFg, hFr, hput⟩ := h.os.at hk hp
  have hrX := h.sx r hFr
  refine ⟨g, c, r, rc, hv, hgc, hrc, hrf, ⟨hrX, fun e => hrX e.symm, by omega, by omega, fun e => hgr e.symm, hgr, by omega⟩, fun j x => ?_⟩
  exact ⟨h.cur.step (chg1 W r j _) (fun q e => by omega), h.chg.setCell (p := ⟨r, j, none⟩) (fun e => by have := h.sz; simp at e; omega) _, h.br.far ⟨r, j, none⟩ _ (by simp; omega), h.bx.far ⟨r, j, none⟩ _ (by simp; exact hrX),
    h.om.step (chg1 W r j _) (fun q hq e => h.ap r (e ▸ hq) hFr), hput j x, h.ap, h.fx, h.sx, h.lt, h.sz⟩
theorem PdD.cellm {b B K R X : Nat} {w W : World} {mv sv : Value} {m s : List (List Int)} {F F' : Nat → Prop} (h : PdD b B K R X w W mv sv m s F F') {k : Nat} (hk : k < m.length) (hp : 0 < (m.getD k []).length) :
    ∃ g c r rc, mv = .slice (some ⟨g, 0, none⟩) m.length c ∧ W.cell? ⟨g, k, none⟩ = some (.slice (some ⟨r, 0, none⟩) (m.getD k []).length rc) ∧ (∀ j, j < (m.getD k []).length → W.cell? ⟨r, j, none⟩ = some (.int .i64 ((m.getD k []).getD j 0))) ∧ (∀ j, W.frozen? ⟨r, j, none⟩ = false) ∧
      (¬ r = X ∧ ¬ X = r ∧ ¬ r = R ∧ ¬ R = r ∧ ¬ r = g ∧ ¬ g = r ∧ ¬ g = b) ∧ ∀ j x, PdD b B K R X w (W.setCell ⟨r, j, none⟩ (.int .i64 x)) mv sv (m.set k ((m.getD k []).set j x)) s F F' := by
  have hl := h.lt
  obtain ⟨g, c, r, rc, hv, hg, hr, hgr, hgb, hrb, hgc, hrc, hrf, hFg, hFr, hput⟩ := h.om.at hk hp
  have hrX := h.fx r hFr
  refine ⟨g, c, r, rc, hv, hgc, hrc, hrf, ⟨hrX, fun e => hrX e.symm, by omega, by omega, fun e => hgr e.symm, hgr, by omega⟩, fun j x => ?_⟩
  exact ⟨h.cur.step (chg1 W r j _) (fun q e => by omega), h.chg.setCell (p := ⟨r, j, none⟩) (fun e => by have := h.sz; simp at e; omega) _, h.br.far ⟨r, j, none⟩ _ (by simp; omega), h.bx.far ⟨r, j, none⟩ _ (by simp; exact hrX),
    hput j x, h.os.step (chg1 W r j _) (fun q hq e => h.ap r hFr (e ▸ hq)), h.ap, h.fx, h.sx, h.lt, h.sz⟩
theorem PdD.rowgrow {b B K R X : Nat} {w W : World} {mv sv : Value} {m s : List (List Int)} {F F' : Nat → Prop} (h : PdD b B K R X w W mv sv m s F F') {k : Nat} (hk : k < s.length) :
    ∃ g c x, sv = .slice (some ⟨g, 0, none⟩) s.length c ∧ W.cell? ⟨g, k, none⟩ = some x ∧ W.frozen? ⟨g, k, none⟩ = false ∧ OI (R + 1) W x (s.getD k []) ∧ ¬ own x g ∧ (¬ g = X ∧ ¬ X = g ∧ ¬ g = R ∧ ¬ R = g ∧ ¬ own x X ∧ ¬ own x R) ∧
      ∀ x' W' l', OI (R + 1) W' x' l' → Chg (own x) W W' → (∀ q, own x' q → own x q ∨ W.heap.size ≤ q) → ∃ F3, PdD b B K R X w (W'.setCell ⟨g, k, none⟩ x') mv sv m (s.set k l') F F3 := by
  have hl := h.lt
  have hXl := h.bx.lt
  obtain ⟨g, c, x, hv, hgc, hgf, hx, hxF, hxg, hFg, hput⟩ := h.os.putGrow hk
  have hgX := h.sx g hFg
  have hgR := (h.os.lt g hFg).1
  have hxR : ∀ q, own x q → R + 1 ≤ q := fun q hq => (hx.lt q hq).1
  refine ⟨g, c, x, hv, hgc, hgf, hx, hxg, ⟨hgX, fun e => hgX e.symm, by omega, by omega, fun e => h.sx X (hxF X e) rfl, fun e => by have := hxR R e; omega⟩, fun x' W' l' h1 h2 h3 => ?_⟩
  obtain ⟨F3, h4, h5⟩ := hput x' W' l' h1 h2 h3
  refine ⟨F3, (h.cur.step h2 (fun q hq => by have := hxR q hq; omega)).step (chg1 W' g k _) (fun q e => by omega), (h.chg.step h2 (fun q hq e => by have := hxR q hq; have := h.sz; omega)).setCell (p := ⟨g, k, none⟩) (fun e => by have := h.sz; simp at e; omega) _,
    (h.br.step h2 (fun e => by have := hxR R e; omega)).far ⟨g, k, none⟩ _ (by simp; omega), (h.bx.step h2 (fun e => h.sx X (hxF X e) rfl)).far ⟨g, k, none⟩ _ (by simp; exact hgX),
    (h.om.step h2 (fun q hq e => h.ap q hq (hxF q e))).step (chg1 W' g k _) (fun q hq e => h.ap g (e ▸ hq) hFg), h4, fun q hq e => ?_, h.fx, fun q hq => ?_, h.lt, h.sz⟩
  · rcases h5 q e with e2 | e2
    · exact h.ap q hq e2
    · have := (h.om.lt q hq).2; omega
  · rcases h5 q hq with e2 | e2
    · exact h.sx q e2
    · omega
/-- another table of moves -/
theorem PdD.appm {b B K R X : Nat} {w W W' : World} {mv sv v' : Value} {m m' s : List (List Int)} {F F' F3 : Nat → Prop} (h : PdD b B K R X w W mv sv m s F F') (h3 : OII W.heap.size W' v' m' F3) (k3 : Chg No W W') :
    PdD b B K R X w (W'.setCell ⟨X, 0, none⟩ v') v' sv m' s F3 F' ∧ BoxN W' X [mv, sv] := by
  have hl := h.lt
  have hXl := h.bx.lt
  have hbx : BoxN W' X [mv, sv] := h.bx.keep k3
  have hF : ∀ q, F3 q → W.heap.size ≤ q := fun q hq => (h3.lt q hq).1
  refine ⟨⟨(h.cur.keep k3).step (chg1 W' X 0 v') (fun q e => by omega), (h.chg.step k3 (fun q hq _ => hq.elim)).setCell (p := ⟨X, 0, none⟩) (fun e => by have := h.sz; simp at e; omega) _,
    (h.br.keep k3).far ⟨X, 0, none⟩ _ (by simp; omega), hbx.set (i := 0) (by simp) v', (h3.weak (by omega)).step (chg1 W' X 0 v') (fun q hq e => by have := hF q hq; omega),
    (h.os.keep k3).step (chg1 W' X 0 v') (fun q hq e => h.sx q hq e), fun q hq e => by have := hF q hq; have := (h.os.lt q e).2; omega, fun q hq e => by have := hF q hq; omega, h.sx, h.lt, h.sz⟩, hbx⟩
theorem rows_one {base : Nat} {w : World} {vs : List Value} {s : List (List Int)} (h1 : vs.length = s.length) (h : ∀ i, i < s.length → OI base w (vs.getD i undef) (s.getD i [])) : ∀ u ∈ vs, u.oneCell' = true := by
  intro u hu
  obtain ⟨i, hi, rfl⟩ := List.mem_iff_getElem.1 hu
  have := h i (by omega)
  obtain ⟨a, c, e, _⟩ := this.view
  rw [List.getD_eq_getElem?_getD, List.getElem?_eq_getElem hi] at e
  simp only [Option.getD_some] at e
  rw [e]; rfl
theorem PdD.fin4 {b B K R X : Nat} {w W W3 : World} {mv sv v3 : Value} {m s : List (List Int)} {F F' : Nat → Prop} {vs : List Value} (h : PdD b B K R X w W mv sv m s F F') (q1 : vs.length = s.length) (q2 : OS 27 1 (R + 1) W sv s.length vs)
    (q3 : ∀ i, i < s.length → OI (R + 1) W (vs.getD i undef) (s.getD i [])) (q4 : ∀ i, i < s.length → ∀ q, own sv q → ¬ own (vs.getD i undef) q) (kt : Chg (fun q => own sv q) W W3) (o3 : OS 27 1 (R + 1) W3 v3 (s.length + s.length + s.length + s.length) (vs ++ vs ++ vs ++ vs)) (hm : m.length ≤ 8) (hs : s.length ≤ 8) (hsX : ∀ q, own v3 q → ¬ q = X) (hoF : ∀ q, own sv q → ¬ F q) (hvX : ∀ i, i < s.length → ∀ q, own (vs.getD i undef) q → ¬ q = X) :
    (∃ P : Pr, RPr (fun q => q < R) (((W3.setCell ⟨X, 1, none⟩ v3).setCell ⟨R, 0, none⟩ mv).setCell ⟨R, 1, none⟩ v3) (.agg #[mv, v3]) P ∧ P.mv.length ≤ 8 ∧ P.sv.length ≤ 40 ∧ Cur (((W3.setCell ⟨X, 1, none⟩ v3).setCell ⟨R, 0, none⟩ mv).setCell ⟨R, 1, none⟩ v3) b B K ∧ Chg (fun q => q = b) w (((W3.setCell ⟨X, 1, none⟩ v3).setCell ⟨R, 0, none⟩ mv).setCell ⟨R, 1, none⟩ v3)) ∧ BoxN (((W3.setCell ⟨X, 1, none⟩ v3).setCell ⟨R, 0, none⟩ mv).setCell ⟨R, 1, none⟩ v3) R [mv, v3] := by
  have hl := h.lt
  have hXl := h.bx.lt
  have hoR : ∀ q, own sv q → R + 1 ≤ q := fun q hq => (q2.lt q hq).1
  have k5 : Chg (fun q => q = X ∨ q = R) W3 (((W3.setCell ⟨X, 1, none⟩ v3).setCell ⟨R, 0, none⟩ mv).setCell ⟨R, 1, none⟩ v3) :=
    (((Chg.refl (fun q => q = X ∨ q = R) W3).setCell (p := ⟨X, 1, none⟩) (fun _ => .inl rfl) v3).setCell (p := ⟨R, 0, none⟩) (fun _ => .inr rfl) mv).setCell (p := ⟨R, 1, none⟩) (fun _ => .inr rfl) v3
  have hbx : BoxN (((W3.setCell ⟨X, 1, none⟩ v3).setCell ⟨R, 0, none⟩ mv).setCell ⟨R, 1, none⟩ v3) R [mv, v3] := (((h.br.step kt (fun e => by have := hoR R e; omega)).far ⟨X, 1, none⟩ v3 (by simp; omega)).set (i := 0) (by simp) mv).set (i := 1) (by simp) v3
  generalize ((W3.setCell ⟨X, 1, none⟩ v3).setCell ⟨R, 0, none⟩ mv).setCell ⟨R, 1, none⟩ v3 = Wf at k5 hbx ⊢
  have o5 := o3.step k5 (fun q hq e => by
    rcases e with e | e
    · exact hsX q hq e
    · have := (o3.lt q hq).1; omega)
  have hr : ∀ i, i < s.length → RI (fun q => q < R) Wf (vs.getD i undef) (s.getD i []) := fun i hi => (((q3 i hi).step kt (fun q hq e => q4 i hi q e hq)).step k5 (fun q hq e => by
    rcases e with e | e
    · exact hvX i hi q hq e
    · have := ((q3 i hi).lt q hq).1; omega)).read (fun q hq e => by have := ((q3 i hi).lt q hq).1; omega)
  have hlen : (s ++ s ++ s ++ s).length = s.length + s.length + s.length + s.length := by simp only [List.length_append]
  have hlenv : (vs ++ vs ++ vs ++ vs).length = s.length + s.length + s.length + s.length := by simp only [List.length_append, q1]
  refine ⟨⟨⟨m, s ++ s ++ s ++ s⟩, ⟨mv, v3, rfl, ((h.om.step kt (fun q hq e => hoF q e hq)).step k5 (fun q hq e => ?_)).read (fun q hq e => ?_), ⟨by rw [hlen]; omega, vs ++ vs ++ vs ++ vs, by rw [hlenv, hlen], ?_, ?_⟩⟩, hm, by rw [hlen]; omega, ?_, ?_⟩, hbx⟩
  · rcases e with e | e
    · exact h.fx q hq e
    · have := (h.om.lt q hq).1; omega
  · have := (h.om.lt q hq).1; omega
  · rw [hlen]
    exact o5.read (fun q hq e => by have := (o5.lt q hq).1; omega)
  · have h2 := rows_app (s := s) (t := s) q1 q1 hr hr
    have h3 := rows_app (s := s ++ s) (t := s) (by simp only [List.length_append, q1]) q1 h2 hr
    exact rows_app (s := s ++ s ++ s) (t := s) (by simp only [List.length_append, q1]) q1 h3 hr
  · exact (h.cur.step kt (fun q hq => by have := hoR q hq; omega)).step k5 (fun q e => by rcases e with e | e <;> omega)
  · exact (h.chg.step kt (fun q hq hlt => by have := hoR q hq; have := h.sz; omega)).step k5 (fun q e hlt => by have := h.sz; rcases e with e | e <;> omega)
theorem fldM (a : Option Addr) (n c : Nat) (w : World) : (Instr.field 49 (.agg #[.slice a n c]) 0).run Tryz.prog w = .ok (.slice a n c) w := by kernel_rfl
theorem PdD.fin {b B K R X : Nat} {w W : World} {mv sv : Value} {m s : List (List Int)} {F F' : Nat → Prop} (h : PdD b B K R X w W mv sv m s F F') (hm : m.length ≤ 8) (hs : s.length ≤ 40) :
    (∃ P : Pr, RPr (fun q => q < R) ((W.setCell ⟨R, 0, none⟩ mv).setCell ⟨R, 1, none⟩ sv) (.agg #[mv, sv]) P ∧ P.mv.length ≤ 8 ∧ P.sv.length ≤ 40 ∧ Cur ((W.setCell ⟨R, 0, none⟩ mv).setCell ⟨R, 1, none⟩ sv) b B K ∧ Chg (fun q => q = b) w ((W.setCell ⟨R, 0, none⟩ mv).setCell ⟨R, 1, none⟩ sv)) ∧ BoxN ((W.setCell ⟨R, 0, none⟩ mv).setCell ⟨R, 1, none⟩ sv) R [mv, sv] := by
  have k := (chg1 W R 0 mv).trans (chg1 (W.setCell ⟨R, 0, none⟩ mv) R 1 sv)
  have hl := h.lt
  refine ⟨⟨⟨m, s⟩, ⟨mv, sv, rfl, (h.om.step k (fun q hq e => by have := (h.om.lt q hq).1; omega)).read (fun q hq e => ?_), (h.os.step k (fun q hq e => by have := (h.os.lt q hq).1; omega)).read (fun q hq e => ?_)⟩, hm, hs, h.cur.step k (fun q e => by omega), h.chg.step k (fun q e hlt => by have := h.sz; omega)⟩, (h.br.set (i := 0) (by simp) mv).set (i := 1) (by simp) sv⟩
  · have := (h.om.lt q hq).1; omega
  · have := (h.os.lt q hq).1; omega
theorem rows_snoc {s : List (List Int)} {l : List Int} {j : Nat} (hs : (s ++ [l]).length = s.length + 1) (h : ∀ i, i < s.length → (s.getD i []).length = j) (hl : l.length = j) : ∀ i, i < (s ++ [l]).length → ((s ++ [l]).getD i []).length = j := by
  intro i hi
  rw [hs] at hi
  by_cases e : i < s.length
  · rw [getD_snoc_lt _ _ _ e]; exact h i e
  · have : i = s.length := by omega
    rw [this, getD_snoc_eq]; exact hl
/-- behind the first choice of a table -/
def Pre (b B K R X4 N : Nat) (w W : World) (ma : Option Addr) (mc : Nat) (m : List (List Int)) (F : Nat → Prop) : Prop :=
  Cur W b B K ∧ Chg (fun q => q = b) w W ∧ BoxN W R [.slice none 0 0, .slice none 0 0] ∧ BoxN W X4 [.slice ma N mc] ∧ OII (R + 1) W (.slice ma N mc) m F ∧ Sq N m ∧ (∀ q, F q → ¬ q = X4) ∧ R < X4
theorem wp_cut2 {P : Program} {c : Go.Code} {Q : Exit → Act → World → Prop} {a : Act} {w : World} (R : Act → World → Prop) (h : c.wp P (fun e a' w' => match e with | .normal => R a' w' | e => Q e a' w') a w) (hq : ∀ a' w', R a' w' → Q .normal a' w') : c.wp P Q a w := by
  refine Go.Code.wp_mono (fun e a' w' h => ?_) h
  cases e with
  | normal => exact hq a' w' h
  | _ => exact h
set_option maxRecDepth 100000 in
set_option maxHeartbeats 8000000 in
theorem problem_any (b B K : Nat) (w : World) (h : Cur w b B K) (hB : B ≤ w.heap.size) (hK : K ≤ 700000000) :
    Calls Tryz.prog 28 #[.pointer (some ⟨b, 0, none⟩)] w fun e w' => ∃ (v : Value) (P : Pr), e = .returned v ∧ RPr (fun q => q < w.heap.size) w' v P ∧ P.mv.length ≤ 8 ∧ P.sv.length ≤ 40 ∧ Cur w' b B (K + 1000) ∧ Chg (fun q => q = b) w w' := by
  have hb := h.lt
  have hbB := h.ltB
  obtain ⟨R, hR⟩ : ∃ R, w.heap.size = R := ⟨_, rfl⟩
  have k0 := (Chg.refl No w).alloc (.cells #[.slice none 0 0, .slice none 0 0] 26)
  have b0 := BoxN.new w #[.slice none 0 0, .slice none 0 0] 26
  have z0 : (w.alloc (.cells #[.slice none 0 0, .slice none 0 0] 26)).heap.size = R + 1 := by rw [World.size_alloc, hR]
  rw [hR] at b0 hB ⊢
  have hc := h.keep k0
  have HR := Lib.hid hR
  go_enter Tryz.func28, Tryz.ntmps28
  go_wp2_with fail
  clear h hR
  generalize w.alloc (.cells #[.slice none 0 0, .slice none 0 0] 26) = W0 at k0 b0 hc z0 ⊢
  refine (among_lit b B K W0 [1, 2, 2, 3, 3, 4] _ _ _ _ _ z0 rfl rfl rfl hc (by omega) (by decide) (by decide)).mono ?_
  rintro e w1 ⟨n, rfl, hn, hc1, hk1⟩
  have hn' : 1 ≤ n ∧ n ≤ 4 := by simp only [List.mem_cons, List.not_mem_nil, or_false] at hn; omega
  obtain ⟨N, rfl⟩ : ∃ N : Nat, n = (N : Int) := ⟨n.toNat, by omega⟩
  have b1 := b0.step hk1 (by omega)
  have ch1 := ((Chg.refl (fun q => q = b) w).step k0 (fun _ e _ => e.elim)).trans hk1
  have z1 := hk1.size
  clear k0 b0 hc hk1 hn
  go_wp2_with fail
  refine (pick_any b B (K + 2) 4 w1 hc1 (by omega) (by omega)).mono ?_
  rintro e w2 ⟨x, rfl, hx0, hx1, _, hc2, hk2⟩
  have hx2 := hx1 (by omega)
  have hw : IntKind.i64.wrap (1 + x) = 1 + x := IntWalk.i64_in _ (by omega)
  have b2 := b1.step hk2 (by omega)
  have ch2 := ch1.trans hk2
  have z2 := hk2.size
  clear b1 ch1 hc1 hk2 hx1
  go_wp2_with fail
  refine (l6Uniform_any N (1 + x) w2 (by omega)).mono ?_
  rintro e w3 ⟨_, rfl, ⟨mv, m, F, rfl, hsq, ho⟩, k3⟩
  have b3 := b2.keep k3
  have ch3 := ch2.step k3 (fun _ e _ => e.elim)
  have hc3 := hc2.keep k3
  have z3 := k3.size
  have hO := ho.weak (base' := R + 1) (by omega)
  have hFX : ∀ q, F q → ¬ q = w3.heap.size := fun q hq => by have := hO.lt q hq; omega
  obtain ⟨ma, mc, rfl⟩ := hO.readNo.shape
  clear ho b2 ch2 hc2 hx0 hx2 hw
  rw [hsq.1] at hO ⊢
  go_wp2_with fail
  refine bx1 (R := fun W => Calls _ _ _ W _) (fun W4 k4 b4 => ?_)
  obtain ⟨X4, hX4⟩ : ∃ X, w3.heap.size = X := ⟨_, rfl⟩
  rw [hX4] at b4 hFX ⊢
  refine (one_any b B (K + 2 + 2) 2 W4 (hc3.keep k4) (by omega) (by omega)).mono ?_
  rintro e w5 ⟨r, rfl, hc5, k5⟩
  have hX4b : ¬ X4 = b := by omega
  have b4' := b4.step k5 hX4b
  have b5 := (b3.keep k4).step k5 (by omega)
  have ch5 := (ch3.step k4 (fun _ e _ => e.elim)).trans k5
  have hO5 := (hO.keep k4).step k5 (fun q hq e => by have := (hO.lt q hq).1; omega)
  have hRX : R < X4 := by omega
  clear b4 b3 ch3 hc3 hO k3 k4 k5
  obtain ⟨v, hv⟩ : ∃ v, Value.bool r = v := ⟨_, rfl⟩
  rw [hv]
  have HV := Lib.hid hv
  clear hv
  go_wp2_with fail
  refine wp_cut2 (fun a' W => ∃ (X4 : Nat) (ma : Option Addr) (mc : Nat) (m : List (List Int)) (F : Nat → Prop) (u11 u12 u13 u14 u15 u16 u17 u18 u19 u20 u21 u22 u23 u24 u25 u26 u27 u28 u29 u30 u31 u32 : Value), a' = { tmps := #[.pointer (some ⟨b, 0, none⟩), undef, .pointer (some ⟨R, 0, none⟩), .int .i64 (N : Int), .pointer (some ⟨X4, 0, none⟩), undef, undef, undef, undef, undef, undef, u11, u12, u13, u14, u15, u16, u17, u18, u19, u20, u21, u22, u23, u24, u25, u26, u27, u28, u29, u30, u31, u32, undef, undef, undef, undef, undef, undef, undef, undef, undef, undef, undef, undef, undef, undef, undef, undef, undef, undef, undef, undef, undef, undef, undef, undef, undef, undef, undef, undef, undef, undef, undef, undef, undef, undef, undef, undef, undef, undef, undef, undef, undef, undef, undef, undef, undef, undef, undef, undef, undef, undef, undef, undef, undef, undef, undef, undef, undef, undef, undef, undef, undef, undef, undef, undef, undef, undef, undef, undef, undef, undef, undef, undef, undef, undef, undef, undef, undef, undef, undef, undef, undef, undef, undef, undef, undef, undef, undef, undef, undef, undef, undef, undef, undef, undef, undef, undef, undef, undef, undef, undef, undef, undef, undef, undef, undef, undef, undef, undef, undef, undef, undef, undef, undef, undef, undef, undef, undef, undef, undef, undef, undef, undef, undef], defers := [] } ∧ Pre b B (K + 20) R X4 N w W ma mc m F) ?_ ?_
  · have hv := HV.out
    clear HV
    subst hv
    cases r
    · have hP : Hid (Pre b B (K + 20) R X4 N w w5 ma mc m F) := Lib.hid ⟨hc5.more (by omega), ch5, b5, b4', hO5, hsq, hFX, hRX⟩
      clear hc5 ch5 b5 b4' hO5 hsq hFX hX4
      go_wp2_with fail
      exact ⟨_, _, _, _, hP.out⟩
    · go_wp2_with fail
      refine (pick_any b B (K + 2 + 2 + 2) 2 w5 hc5 (by omega) (by omega)).mono ?_
      rintro e w6 ⟨y1, rfl, _, _, _, hc6, k6⟩
      replace b4' := b4'.step k6 hX4b
      replace b5 := b5.step k6 (by omega)
      replace ch5 := ch5.trans k6
      clear k6 hc5
      go_wp2_with fail
      refine (pick_any b B (K + 2 + 2 + 2 + 2) 2 w6 hc6 (by omega) (by omega)).mono ?_
      rintro e w7 ⟨y2, rfl, hy0, hy1, _, hc7, k7⟩
      have hy3 := hy1 (by omega)
      have hw2 : IntKind.i64.wrap (2 + y2) = 2 + y2 := IntWalk.i64_in _ (by omega)
      replace b4' := b4'.step k7 hX4b
      replace b5 := b5.step k7 (by omega)
      replace ch5 := ch5.trans k7
      clear k7 hc6 hy1
      go_wp2_with fail
      refine (pick_any b B (K + 2 + 2 + 2 + 2 + 2) 3 w7 hc7 (by omega) (by omega)).mono ?_
      rintro e w8 ⟨y3, rfl, hq0, hq1, _, hc8, k8⟩
      have hq3 := hq1 (by omega)
      have hw3 : IntKind.i64.wrap (6 + y3) = 6 + y3 := IntWalk.i64_in _ (by omega)
      replace b4' := b4'.step k8 hX4b
      replace b5 := b5.step k8 (by omega)
      replace ch5 := ch5.trans k8
      clear k8 hc7 hq1
      have hN0 : (0 : Int) ≤ (N : Int) := by omega
      have hN4 : (N : Int) ≤ 4 := by omega
      go_wp2_with fail
      have k9 := (Chg.refl No w8).alloc (.cells #[.int .i64 y1, .int .i64 (2 + y2), .int .i64 5, .int .i64 (6 + y3)] 3)
      have hri := RI.lit No w8 [y1, 2 + y2, 5, 6 + y3] #[.int .i64 y1, .int .i64 (2 + y2), .int .i64 5, .int .i64 (6 + y3)] 3 w8.heap.size N 4 rfl rfl rfl (by omega) (fun e => e) (by simp)
      replace b4' := b4'.keep k9
      replace b5 := b5.keep k9
      replace ch5 := ch5.step k9 (fun _ e _ => e.elim)
      have hc9 := hc8.keep k9
      have hz9 := k9.size
      obtain ⟨G, hG⟩ : ∃ G, w8.heap.size = G := ⟨_, rfl⟩
      rw [hG] at hri ⊢
      clear k9 hc8
      generalize w8.alloc _ = w9 at hri b4' b5 ch5 hc9 hz9 ⊢
      have hl9 : ([y1, 2 + y2, 5, 6 + y3].take N).length = N := by rw [List.length_take]; simp; omega
      refine (l6Line_any _ _ w9 hri (by rw [hl9]; omega)).mono ?_
      rintro e w10 ⟨_, rfl, ⟨mv2, m2, F2, rfl, hsq2, ho2⟩, k10⟩
      rw [hl9] at hsq2
      have hz4 := b4'.lt
      have hFX2 : ∀ q, F2 q → ¬ q = X4 := fun q hq => by have := (ho2.lt q hq).1; omega
      have hz5 := b5.lt
      replace ho2 := ho2.weak (base' := R + 1) (by omega)
      replace b4' := b4'.keep k10
      replace b5 := b5.keep k10
      replace ch5 := ch5.step k10 (fun _ e _ => e.elim)
      replace hc9 := hc9.keep k10
      obtain ⟨na, nc, rfl⟩ := ho2.readNo.shape
      rw [hsq2.1] at ho2 ⊢
      have g4 := b4'.c 0 _ rfl
      have f4 := b4'.fr 0
      have hP : Hid (Pre b B (K + 20) R X4 N w (w10.setCell ⟨X4, 0, none⟩ (.slice na N nc)) na nc m2 F2) := Lib.hid ⟨(hc9.more (by omega)).step (chg1 w10 X4 0 _) (fun q e => by omega), ch5.setCell (p := ⟨X4, 0, none⟩) (fun h => by have := HR.out; simp at h; omega) _, b5.far ⟨X4, 0, none⟩ _ (by simp; omega), b4'.set (i := 0) (by simp) _, ho2.step (chg1 w10 X4 0 _) (fun q hq e => hFX2 q hq e), hsq2, hFX2, hRX⟩
      clear hc9 ch5 b5 hO5 hsq hFX hX4 ho2 b4' hri k10 hsq2 hFX2
      go_wp2_with fail
      exact ⟨_, _, _, _, hP.out⟩
  · clear HV b4' b5 ch5 hO5 hFX hX4 hX4b hRX hc5 hsq
    rintro a' w6 ⟨X4, ma, mc, m, F, u11, u12, u13, u14, u15, u16, u17, u18, u19, u20, u21, u22, u23, u24, u25, u26, u27, u28, u29, u30, u31, u32, rfl, hc, ch, b0, b4, hO, hsq, hFX, hRX⟩
    dsimp only
    have g4 := b4.c 0 _ rfl
    obtain ⟨KK, hKK⟩ : ∃ KK, K + 20 = KK := ⟨_, rfl⟩
    rw [hKK] at hc
    have HKK := Lib.hid hKK
    clear hKK
    go_wp2_with fail
    have k7 := (Chg.refl No w6).alloc (.cells #[.slice ma N mc, .slice none 0 0] 26)
    have b5 := BoxN.new w6 #[.slice ma N mc, .slice none 0 0] 26
    have z7 : (w6.alloc (.cells #[.slice ma N mc, .slice none 0 0] 26)).heap.size = w6.heap.size + 1 := by rw [World.size_alloc]
    obtain ⟨X, hX⟩ : ∃ X, w6.heap.size = X := ⟨_, rfl⟩
    have z6 := b4.lt
    rw [hX] at b5 z7 z6 ⊢
    have h : PdD b B KK R X w (w6.alloc (.cells #[.slice ma N mc, .slice none 0 0] 26)) (.slice ma N mc) (.slice none 0 0) m [] F No :=
      ⟨hc.keep k7, ch.step k7 (fun _ e _ => e.elim), b0.keep k7, b5, hO.keep k7, OII.nil _ _, fun _ _ e => e, fun q hq => by have := (hO.lt q hq).2; omega, fun _ e => e.elim, ⟨hbB, hB, by omega⟩, HR.out⟩
    clear hc ch b0 b4 hO g4 k7 b5 z6 hX hFX
    generalize w6.alloc _ = w7 at h z7 ⊢
    refine (among_lit b B KK w7 [1, 2, 2, 3, 4] _ _ _ _ _ z7 rfl rfl rfl h.cur (by have := HKK.out; omega) (by decide) (by decide)).mono ?_
    rintro e w8 ⟨r0, rfl, hr0, hc8, k8⟩
    have hr1 : 1 ≤ r0 ∧ r0 ≤ 4 := by simp only [List.mem_cons, List.not_mem_nil, or_false] at hr0; omega
    replace h := h.call hc8 k8
    have HKX : Hid (KK ≤ 700000020) := Lib.hid (by have := HKK.out; omega)
    clear hc8 k8 hr0
    go_wp2_with fail
    go_loopw [6] (fun z wr => ∃ (r : Int) (s : List (List Int)) (sv : Value) (F' : Nat → Prop), z = .int .i64 r ∧ 0 ≤ r ∧ (s.length : Int) + r ≤ 4 ∧ 1 ≤ (s.length : Int) + r ∧ Hid (∀ i, i < s.length → (s.getD i []).length = N) ∧ PdD b B (KK + 2 + 20 * s.length) R X w wr (.slice ma N mc) sv m s F F') (fun z _ => (intOf z).toNat)
    case atStart => exact ⟨r0, [], _, _, rfl, by omega, by simp; omega, by simp; omega, Lib.hid (fun i hi => absurd hi (Nat.not_lt_zero _)), h⟩
    case round =>
      clear h hr1
      obtain ⟨r, s, sv, F', rfl, hr0, hr1, hr2, HL, h⟩ := hrel
      by_cases hrp : 0 < r
      · have hwr : IntKind.i64.wrap (r - 1) = r - 1 := IntWalk.i64_in _ (by omega)
        have hrz := OI.zero (base := wr.heap.size) (w := wr) (Nat.le_refl _)
        have ka := (Chg.refl No wr).alloc (.cells #[] 3)
        have hca := h.cur.keep ka
        have kb := (Chg.refl (fun q => q = b) wr).alloc (.cells #[] 3)
        obtain ⟨wo, hwo⟩ : ∃ wo : World, wo = wr := ⟨_, rfl⟩
        go_wp2_with fail
        rw [← hwo] at hrz ka hca kb h ⊢
        clear hwo
        go_loopw [7, 8] (fun o z wr => ∃ (j : Nat) (l : List Int), j ≤ N ∧ z = .int .i64 (j : Int) ∧ l.length = j ∧ OI wo.heap.size wr o l ∧ Cur wr b B (KK + 2 + 20 * s.length + 2 * j) ∧ Chg (fun q => q = b) wo wr) (fun _ z _ => N - (intOf z).toNat)
        case atStart => exact ⟨0, [], Nat.zero_le _, rfl, rfl, hrz, hca, kb⟩
        case round =>
          clear hrz ka hca kb
          obtain ⟨j, l, hj, rfl, hlj, ho, hcu, hch⟩ := hrel
          have hj0 : (0 : Int) ≤ (j : Int) := Int.natCast_nonneg _
          by_cases hltj : j < N
          · have hj1 : (j : Int) < (N : Int) := by omega
            have hwj : IntKind.i64.wrap ((j : Int) + 1) = (j : Int) + 1 := IntWalk.i64_in _ (by omega)
            go_wp2_with fail
            refine (among_lit b B (KK + 2 + 20 * s.length + 2 * j) wr [0, 0, 1, 2, 3, -1, 5] _ _ _ _ _ rfl rfl rfl rfl hcu (by have := HKX.out; omega) (by decide) (by decide)).mono ?_
            rintro e w9 ⟨c, rfl, hc, hc9, k9⟩
            have hl9 : l.length < 17592186044416 := by omega
            have ho9 := ho.step k9 (fun q hq e => by have := (ho.lt q hq).1; have := h.cur.lt; omega)
            have hch9 := hch.trans k9
            have hz9 := hch9.size
            have HLJ := Lib.hid hlj
            clear hc k9 hcu hch ho hlj
            go_wp2_with (at_builtin; refine wapp1 rfl (.tmp 49) (.tmp 53) rfl ho9 rfl rfl hl9 hz9 ?_)
            intro v2 w2 h2 k2 f2
            have hch10 := hch9.own k2 ho9 (Nat.le_refl _)
            have hc10 := hc9.step k2 (fun q hq => by have := (ho9.lt q hq).1; have := h.cur.lt; have := h.lt; have := h.br.lt; omega)
            clear ho9 hch9 k2 f2 hc9
            go_wp2_with fail
            go_round
            case rel => exact ⟨j + 1, l ++ [c], by omega, by go_num, by rw [List.length_append, HLJ.out]; rfl, h2, hc10.more (by omega), hch10⟩
            case measure => simp [intOf]; omega
          · have hje : j = N := by omega
            subst hje
            have h2 := h.call hcu hch
            have hd : ∀ q, own u7 q → ¬ F' q ∧ ¬ F q ∧ ¬ q = X ∧ ¬ q = b := fun q hq => by
              have e := (ho.lt q hq).1
              exact ⟨fun e2 => by have := (h.os.lt q e2).2; omega, fun e2 => by have := (h.om.lt q e2).2; omega, fun e2 => by have := h.bx.lt; omega, fun e2 => by have := h.cur.lt; omega⟩
            have hRo : R + 1 ≤ wo.heap.size := by have := h.br.lt; omega
            replace ho := ho.weak (base' := R + 1) hRo
            obtain ⟨oa, oc, rfl, _⟩ := ho.view
            rw [hlj] at ho hd ⊢
            have HLJ := Lib.hid hlj
            clear hlj h hcu hch
            go_wp2_with fail
            refine (l8Least_any No _ l _ ho.readNo (by rw [HLJ.out]; omega)).mono ?_
            rintro e w9 ⟨y, rfl, rfl⟩
            have hq := Lib.hid (fun (W : World) (k : Chg (fun q => q = b) wr W) => l8Request_any No (.slice oa j oc) l (j : Int) W (ho.step k (fun q hq => (hd q hq).2.2.2)).readNo)
            obtain ⟨rq, hrq⟩ : ∃ rq, (((l.length : Int) == (j : Int)) && (l.all (fun c => inB c (-1) 20) && l.any (fun c => decide (0 ≤ c)))) = rq := ⟨_, rfl⟩
            rw [hrq] at hq
            clear hrq
            have hsl : s.length < 4 := by omega
            by_cases hy : y < 0
            · go_wp2_with fail
              refine (one_any b B _ 3 wr h2.cur (by have := HKX.out; omega) (by omega)).mono ?_
              rintro e w10 ⟨z, rfl, hc10, k10⟩
              cases z
              · go_wp2_with fail
                refine (hq.out w10 k10).mono ?_
                rintro e w11 ⟨rfl, rfl⟩
                replace h2 := h2.call hc10 k10
                replace ho := ho.step k10 (fun q hq => (hd q hq).2.2.2)
                clear hq k10 hc10 hy
                cases rq
                · go_wp2_with fail
                  refine (pick_any b B (KK + 2 + 20 * s.length + 2 * j + 2) (j : Int) w10 h2.cur (by have := HKX.out; omega) (by omega)).mono ?_
                  rintro e w12 ⟨i0, rfl, hi0, hi1, hi2, hc12, k12⟩
                  have hi3 : i0 < (j : Int) := by
                    by_cases e : (1 : Int) < (j : Int)
                    · exact hi1 e
                    · have := hi2 (by omega); omega
                  obtain ⟨i, rfl⟩ : ∃ i : Nat, i0 = (i : Int) := ⟨i0.toNat, by omega⟩
                  replace h2 := h2.call hc12 k12
                  replace ho := ho.step k12 (fun q hq => (hd q hq).2.2.2)
                  obtain ⟨oa', oc', he, hle, _, hcl⟩ := id ho.view
                  rw [HLJ.out] at he hcl hle
                  simp only [Value.slice.injEq] at he
                  obtain ⟨rfl, hjj, rfl⟩ := he
                  obtain ⟨g, rfl, hgR, hgl, hcell, hfr⟩ := hcl (by omega)
                  have hci := hcell i (by omega)
                  have hfi := hfr i
                  obtain ⟨hst, kst⟩ := ho.store i 0
                  have hg := hd g rfl
                  obtain ⟨va, vc, rfl⟩ := h2.os.readNo.shape
                  have gX0 := h2.bx.c 1 _ rfl
                  have hgX1 : ¬ g = X := hg.2.2.1
                  have hgX2 : ¬ X = g := fun e => hgX1 e.symm
                  replace h2 := (h2.rowput (g := g) (i := i) (x := .int .i64 0) hg (by omega))
                  clear hcell hfr hcl hi1 hi2 k12 hc12 ho
                  have HLJ : Hid ((l.set i 0).length = j) := Lib.hid (by rw [List.length_set]; exact HLJ.out)
                  generalize l.set i 0 = l at hst HLJ
                  have ho := hst
                  clear hst kst
                  have hlen : s.length < 1099511627776 := by omega
                  have hbase : R + 1 ≤ w12.heap.size := by have e1 := h2.bx.lt; have e2 := h2.lt; have e3 : (w12.setCell ⟨g, i, none⟩ (.int .i64 0)).heap.size = w12.heap.size := (by first | rfl | simp only [World.size_setCell]); omega
                  have hd1 : ∀ q, own (.slice (some ⟨g, 0, none⟩) j oc) q → ¬ F' q := fun q hq => (hd q hq).1
                  go_wp2_with (at_builtin; refine wappRz (z := w12.heap.size) (by first | rfl | simp only [World.size_setCell]) rfl (.tmp 74) (.tmp 76) rfl h2.os ho hd1 rfl rfl hlen hbase ?_)
                  intro v3 w3 F3 h3 k3 hF3 hFo
                  obtain ⟨hN, hbx3⟩ := h2.app (Z := own (.slice (some ⟨g, 0, none⟩) j oc)) h3 k3 hFo (fun q hq => (hF3 q hq).imp id (Or.imp id (fun e => Nat.le_trans (Nat.le_of_eq (by first | rfl | simp only [World.size_setCell])) e))) (fun q hq => ⟨(hd q hq).2.1, (hd q hq).2.2.1⟩)
                  have g3 := hbx3.c 1 _ rfl
                  have f3 := hbx3.fr 1
                  obtain ⟨v3a, v3c, rfl⟩ := h3.readNo.shape
                  have hL1 : (s ++ [l]).length = s.length + 1 := by rw [List.length_append]; rfl
                  rw [hL1] at hN ⊢
                  have HN := Lib.hid hN
                  have HSL := Lib.hid hL1
                  clear hN hbx3 h3 k3 hF3 hFo gX0 h2 ho hL1
                  go_wp2_with fail
                  go_round
                  case rel => exact ⟨r - 1, s ++ [l], _, F3, rfl, by omega, by rw [HSL.out]; omega, by rw [HSL.out]; omega, Lib.hid (rows_snoc HSL.out HL.out HLJ.out), by rw [HSL.out]; exact HN.out.call (HN.out.cur.more (by omega)) (Chg.refl _ _)⟩
                  case measure => simp [intOf]; omega
                · skip
                  obtain ⟨va, vc, rfl⟩ := h2.os.readNo.shape
                  have gX0 := h2.bx.c 1 _ rfl
                  have hlen : s.length < 1099511627776 := by omega
                  have hbase : R + 1 ≤ w10.heap.size := by have e1 := h2.bx.lt; have e2 := h2.lt; have e3 : w10.heap.size = w10.heap.size := (by first | rfl | simp only [World.size_setCell]); omega
                  have hd1 : ∀ q, own (.slice oa j oc) q → ¬ F' q := fun q hq => (hd q hq).1
                  go_wp2_with (at_builtin; refine wappRz (z := w10.heap.size) (by first | rfl | simp only [World.size_setCell]) rfl (.tmp 74) (.tmp 76) rfl h2.os ho hd1 rfl rfl hlen hbase ?_)
                  intro v3 w3 F3 h3 k3 hF3 hFo
                  obtain ⟨hN, hbx3⟩ := h2.app (Z := own (.slice oa j oc)) h3 k3 hFo (fun q hq => (hF3 q hq).imp id (Or.imp id (fun e => Nat.le_trans (Nat.le_of_eq (by first | rfl | simp only [World.size_setCell])) e))) (fun q hq => ⟨(hd q hq).2.1, (hd q hq).2.2.1⟩)
                  have g3 := hbx3.c 1 _ rfl
                  have f3 := hbx3.fr 1
                  obtain ⟨v3a, v3c, rfl⟩ := h3.readNo.shape
                  have hL1 : (s ++ [l]).length = s.length + 1 := by rw [List.length_append]; rfl
                  rw [hL1] at hN ⊢
                  have HN := Lib.hid hN
                  have HSL := Lib.hid hL1
                  clear hN hbx3 h3 k3 hF3 hFo gX0 h2 ho hL1
                  go_wp2_with fail
                  go_round
                  case rel => exact ⟨r - 1, s ++ [l], _, F3, rfl, by omega, by rw [HSL.out]; omega, by rw [HSL.out]; omega, Lib.hid (rows_snoc HSL.out HL.out HLJ.out), by rw [HSL.out]; exact HN.out.call (HN.out.cur.more (by omega)) (Chg.refl _ _)⟩
                  case measure => simp [intOf]; omega
              · replace h2 := h2.call hc10 k10
                replace ho := ho.step k10 (fun q hq => (hd q hq).2.2.2)
                clear hq k10 hc10 hy
                go_wp2_with fail
                refine (pick_any b B (KK + 2 + 20 * s.length + 2 * j + 2) (j : Int) w10 h2.cur (by have := HKX.out; omega) (by omega)).mono ?_
                rintro e w12 ⟨i0, rfl, hi0, hi1, hi2, hc12, k12⟩
                have hi3 : i0 < (j : Int) := by
                  by_cases e : (1 : Int) < (j : Int)
                  · exact hi1 e
                  · have := hi2 (by omega); omega
                obtain ⟨i, rfl⟩ : ∃ i : Nat, i0 = (i : Int) := ⟨i0.toNat, by omega⟩
                replace h2 := h2.call hc12 k12
                replace ho := ho.step k12 (fun q hq => (hd q hq).2.2.2)
                obtain ⟨oa', oc', he, hle, _, hcl⟩ := id ho.view
                rw [HLJ.out] at he hcl hle
                simp only [Value.slice.injEq] at he
                obtain ⟨rfl, hjj, rfl⟩ := he
                obtain ⟨g, rfl, hgR, hgl, hcell, hfr⟩ := hcl (by omega)
                have hci := hcell i (by omega)
                have hfi := hfr i
                obtain ⟨hst, kst⟩ := ho.store i 0
                have hg := hd g rfl
                obtain ⟨va, vc, rfl⟩ := h2.os.readNo.shape
                have gX0 := h2.bx.c 1 _ rfl
                have hgX1 : ¬ g = X := hg.2.2.1
                have hgX2 : ¬ X = g := fun e => hgX1 e.symm
                replace h2 := (h2.rowput (g := g) (i := i) (x := .int .i64 0) hg (by omega))
                clear hcell hfr hcl hi1 hi2 k12 hc12 ho
                have HLJ : Hid ((l.set i 0).length = j) := Lib.hid (by rw [List.length_set]; exact HLJ.out)
                generalize l.set i 0 = l at hst HLJ
                have ho := hst
                clear hst kst
                have hlen : s.length < 1099511627776 := by omega
                have hbase : R + 1 ≤ w12.heap.size := by have e1 := h2.bx.lt; have e2 := h2.lt; have e3 : (w12.setCell ⟨g, i, none⟩ (.int .i64 0)).heap.size = w12.heap.size := (by first | rfl | simp only [World.size_setCell]); omega
                have hd1 : ∀ q, own (.slice (some ⟨g, 0, none⟩) j oc) q → ¬ F' q := fun q hq => (hd q hq).1
                go_wp2_with (at_builtin; refine wappRz (z := w12.heap.size) (by first | rfl | simp only [World.size_setCell]) rfl (.tmp 74) (.tmp 76) rfl h2.os ho hd1 rfl rfl hlen hbase ?_)
                intro v3 w3 F3 h3 k3 hF3 hFo
                obtain ⟨hN, hbx3⟩ := h2.app (Z := own (.slice (some ⟨g, 0, none⟩) j oc)) h3 k3 hFo (fun q hq => (hF3 q hq).imp id (Or.imp id (fun e => Nat.le_trans (Nat.le_of_eq (by first | rfl | simp only [World.size_setCell])) e))) (fun q hq => ⟨(hd q hq).2.1, (hd q hq).2.2.1⟩)
                have g3 := hbx3.c 1 _ rfl
                have f3 := hbx3.fr 1
                obtain ⟨v3a, v3c, rfl⟩ := h3.readNo.shape
                have hL1 : (s ++ [l]).length = s.length + 1 := by rw [List.length_append]; rfl
                rw [hL1] at hN ⊢
                have HN := Lib.hid hN
                have HSL := Lib.hid hL1
                clear hN hbx3 h3 k3 hF3 hFo gX0 h2 ho hL1
                go_wp2_with fail
                go_round
                case rel => exact ⟨r - 1, s ++ [l], _, F3, rfl, by omega, by rw [HSL.out]; omega, by rw [HSL.out]; omega, Lib.hid (rows_snoc HSL.out HL.out HLJ.out), by rw [HSL.out]; exact HN.out.call (HN.out.cur.more (by omega)) (Chg.refl _ _)⟩
                case measure => simp [intOf]; omega
            · go_wp2_with fail
              refine (hq.out wr (Chg.refl _ wr)).mono ?_
              rintro e w11 ⟨rfl, rfl⟩
              clear hq hy
              cases rq
              · go_wp2_with fail
                refine (pick_any b B (KK + 2 + 20 * s.length + 2 * j) (j : Int) wr h2.cur (by have := HKX.out; omega) (by omega)).mono ?_
                rintro e w12 ⟨i0, rfl, hi0, hi1, hi2, hc12, k12⟩
                have hi3 : i0 < (j : Int) := by
                  by_cases e : (1 : Int) < (j : Int)
                  · exact hi1 e
                  · have := hi2 (by omega); omega
                obtain ⟨i, rfl⟩ : ∃ i : Nat, i0 = (i : Int) := ⟨i0.toNat, by omega⟩
                replace h2 := h2.call hc12 k12
                replace ho := ho.step k12 (fun q hq => (hd q hq).2.2.2)
                obtain ⟨oa', oc', he, hle, _, hcl⟩ := id ho.view
                rw [HLJ.out] at he hcl hle
                simp only [Value.slice.injEq] at he
                obtain ⟨rfl, hjj, rfl⟩ := he
                obtain ⟨g, rfl, hgR, hgl, hcell, hfr⟩ := hcl (by omega)
                have hci := hcell i (by omega)
                have hfi := hfr i
                obtain ⟨hst, kst⟩ := ho.store i 0
                have hg := hd g rfl
                obtain ⟨va, vc, rfl⟩ := h2.os.readNo.shape
                have gX0 := h2.bx.c 1 _ rfl
                have hgX1 : ¬ g = X := hg.2.2.1
                have hgX2 : ¬ X = g := fun e => hgX1 e.symm
                replace h2 := (h2.rowput (g := g) (i := i) (x := .int .i64 0) hg (by omega))
                clear hcell hfr hcl hi1 hi2 k12 hc12 ho
                have HLJ : Hid ((l.set i 0).length = j) := Lib.hid (by rw [List.length_set]; exact HLJ.out)
                generalize l.set i 0 = l at hst HLJ
                have ho := hst
                clear hst kst
                have hlen : s.length < 1099511627776 := by omega
                have hbase : R + 1 ≤ w12.heap.size := by have e1 := h2.bx.lt; have e2 := h2.lt; have e3 : (w12.setCell ⟨g, i, none⟩ (.int .i64 0)).heap.size = w12.heap.size := (by first | rfl | simp only [World.size_setCell]); omega
                have hd1 : ∀ q, own (.slice (some ⟨g, 0, none⟩) j oc) q → ¬ F' q := fun q hq => (hd q hq).1
                go_wp2_with (at_builtin; refine wappRz (z := w12.heap.size) (by first | rfl | simp only [World.size_setCell]) rfl (.tmp 74) (.tmp 76) rfl h2.os ho hd1 rfl rfl hlen hbase ?_)
                intro v3 w3 F3 h3 k3 hF3 hFo
                obtain ⟨hN, hbx3⟩ := h2.app (Z := own (.slice (some ⟨g, 0, none⟩) j oc)) h3 k3 hFo (fun q hq => (hF3 q hq).imp id (Or.imp id (fun e => Nat.le_trans (Nat.le_of_eq (by first | rfl | simp only [World.size_setCell])) e))) (fun q hq => ⟨(hd q hq).2.1, (hd q hq).2.2.1⟩)
                have g3 := hbx3.c 1 _ rfl
                have f3 := hbx3.fr 1
                obtain ⟨v3a, v3c, rfl⟩ := h3.readNo.shape
                have hL1 : (s ++ [l]).length = s.length + 1 := by rw [List.length_append]; rfl
                rw [hL1] at hN ⊢
                have HN := Lib.hid hN
                have HSL := Lib.hid hL1
                clear hN hbx3 h3 k3 hF3 hFo gX0 h2 ho hL1
                go_wp2_with fail
                go_round
                case rel => exact ⟨r - 1, s ++ [l], _, F3, rfl, by omega, by rw [HSL.out]; omega, by rw [HSL.out]; omega, Lib.hid (rows_snoc HSL.out HL.out HLJ.out), by rw [HSL.out]; exact HN.out.call (HN.out.cur.more (by omega)) (Chg.refl _ _)⟩
                case measure => simp [intOf]; omega
              · skip
                obtain ⟨va, vc, rfl⟩ := h2.os.readNo.shape
                have gX0 := h2.bx.c 1 _ rfl
                have hlen : s.length < 1099511627776 := by omega
                have hbase : R + 1 ≤ wr.heap.size := by have e1 := h2.bx.lt; have e2 := h2.lt; have e3 : wr.heap.size = wr.heap.size := (by first | rfl | simp only [World.size_setCell]); omega
                have hd1 : ∀ q, own (.slice oa j oc) q → ¬ F' q := fun q hq => (hd q hq).1
                go_wp2_with (at_builtin; refine wappRz (z := wr.heap.size) (by first | rfl | simp only [World.size_setCell]) rfl (.tmp 74) (.tmp 76) rfl h2.os ho hd1 rfl rfl hlen hbase ?_)
                intro v3 w3 F3 h3 k3 hF3 hFo
                obtain ⟨hN, hbx3⟩ := h2.app (Z := own (.slice oa j oc)) h3 k3 hFo (fun q hq => (hF3 q hq).imp id (Or.imp id (fun e => Nat.le_trans (Nat.le_of_eq (by first | rfl | simp only [World.size_setCell])) e))) (fun q hq => ⟨(hd q hq).2.1, (hd q hq).2.2.1⟩)
                have g3 := hbx3.c 1 _ rfl
                have f3 := hbx3.fr 1
                obtain ⟨v3a, v3c, rfl⟩ := h3.readNo.shape
                have hL1 : (s ++ [l]).length = s.length + 1 := by rw [List.length_append]; rfl
                rw [hL1] at hN ⊢
                have HN := Lib.hid hN
                have HSL := Lib.hid hL1
                clear hN hbx3 h3 k3 hF3 hFo gX0 h2 ho hL1
                go_wp2_with fail
                go_round
                case rel => exact ⟨r - 1, s ++ [l], _, F3, rfl, by omega, by rw [HSL.out]; omega, by rw [HSL.out]; omega, Lib.hid (rows_snoc HSL.out HL.out HLJ.out), by rw [HSL.out]; exact HN.out.call (HN.out.cur.more (by omega)) (Chg.refl _ _)⟩
                case measure => simp [intOf]; omega
      · have hr3 : r = 0 := by omega
        subst hr3
        have hs1 : 1 ≤ s.length := by omega
        have hs4 : s.length ≤ 4 := by omega
        obtain ⟨sa, sc, rfl⟩ := h.os.readNo.shape
        have g1 := h.bx.c 1 _ rfl
        clear hr0 hr1 hr2 hrp
        go_wp2_with fail
        refine (pick_any b B _ (s.length : Int) wr h.cur (by have := HKX.out; omega) (by omega)).mono ?_
        rintro e w9 ⟨k0, rfl, hk0, hk1, hk2, hc9, k9⟩
        have hk3 : k0 < (s.length : Int) := by
          by_cases e : (1 : Int) < (s.length : Int)
          · exact hk1 e
          · have := hk2 (by omega); omega
        obtain ⟨k, rfl⟩ : ∃ k : Nat, k0 = (k : Int) := ⟨k0.toNat, by omega⟩
        have hks : k < s.length := by omega
        replace h := h.call hc9 k9
        clear hk1 hk2 hc9 k9 g1
        go_wp2_with fail
        refine (pick_any b B _ 32 w9 h.cur (by have := HKX.out; omega) (by omega)).mono ?_
        rintro e w10 ⟨x0, rfl, _, _, _, hc10, k10⟩
        replace h := h.call hc10 k10
        clear hc10 k10
        have g0 := h.bx.c 0 _ rfl
        have g1 := h.bx.c 1 _ rfl
        have e0 := h.br.c 0 _ rfl
        have e1 := h.br.c 1 _ rfl
        have f0 := h.br.fr 0
        have f1 := h.br.fr 1
        by_cases h0 : x0 = 0
        · subst h0
          obtain ⟨g, gc, r, rc, hv, hgq, _, _, ⟨_, _, _, _, _, _, hgb⟩, _⟩ := h.cell hks (by rw [HL.out k hks]; omega)
          rw [HL.out k hks] at hgq
          simp only [Value.slice.injEq] at hv
          obtain ⟨rfl, hvv, rfl⟩ := hv
          clear hvv g0 e0 e1 f0 f1
          go_wp2_with fail
          refine wp_region_K (S := fun W => W.cell? ⟨X, 1, none⟩ = some (.slice (some ⟨g, 0, none⟩) s.length sc) ∧ W.cell? ⟨g, k, none⟩ = some (.slice (some ⟨r, 0, none⟩) N rc)) (k := 8) (by kernel_rfl) ?_
          replace h := h.keep (drewN0 _)
          replace hgq := ((drewN0 w10).cellD g k (World.block_lt_of_cell? _ _ hgq) (fun e => e)).trans hgq
          generalize World.drew _ = WQ at h hgq ⊢
          clear g1
          have hS : WQ.cell? ⟨X, 1, none⟩ = some (.slice (some ⟨g, 0, none⟩) s.length sc) ∧ WQ.cell? ⟨g, k, none⟩ = some (.slice (some ⟨r, 0, none⟩) N rc) := ⟨h.bx.c 1 _ rfl, hgq⟩
          refine wpAnyK_take0 0 (.pointer (some ⟨X, 1, none⟩)) rfl (by kernel_rfl) (fun _ _ _ h => h) hS rfl (by intro w; go_simp) ?_
          simp only [List.getElem_toArray, List.getElem_cons_zero, Act.put, List.setIfInBounds_toArray, List.set_cons_zero, List.set_cons_succ]
          refine wpAnyK_take 1 (.slice (some ⟨g, 0, none⟩) s.length sc) rfl (by kernel_rfl) (fun _ _ _ h => h) hS rfl (by intro w hSw; go_simp) ?_
          simp only [List.getElem_toArray, List.getElem_cons_succ, List.getElem_cons_zero, Act.put, List.setIfInBounds_toArray, List.set_cons_zero, List.set_cons_succ]
          refine wpAnyK_take0 2 (.int .i64 (k : Int)) rfl (by kernel_rfl) (fun _ _ _ h => h) hS rfl (by intro w; go_simp) ?_
          simp only [List.getElem_toArray, List.getElem_cons_succ, List.getElem_cons_zero, Act.put, List.setIfInBounds_toArray, List.set_cons_zero, List.set_cons_succ]
          refine wpAnyK_take0 3 (.pointer (some ⟨g, k, none⟩)) rfl (by kernel_rfl) (fun _ _ _ h => h) hS rfl (by intro w; go_simp) ?_
          simp only [List.getElem_toArray, List.getElem_cons_succ, List.getElem_cons_zero, Act.put, List.setIfInBounds_toArray, List.set_cons_zero, List.set_cons_succ]
          refine wpAnyK_take 4 (.slice (some ⟨r, 0, none⟩) N rc) rfl (by kernel_rfl) (fun _ _ _ h => h) hS rfl (by intro w hSw; go_simp) ?_
          simp only [List.getElem_toArray, List.getElem_cons_succ, List.getElem_cons_zero, Act.put, List.setIfInBounds_toArray, List.set_cons_zero, List.set_cons_succ]
          refine wpAnyK_take0 5 (.pointer (some ⟨b, 0, none⟩)) rfl (by kernel_rfl) (fun _ _ _ h => h) hS rfl (by intro w; go_simp) ?_
          simp only [List.getElem_toArray, List.getElem_cons_succ, List.getElem_cons_zero, Act.put, List.setIfInBounds_toArray, List.set_cons_zero, List.set_cons_succ]
          refine wpAnyK_1 6 (by kernel_rfl) (wpOpK' rfl rfl ?_)
          intro K0 hK0
          have ka := (Chg.refl No WQ).alloc (.cells #[.int .i64 (-2), .int .i64 20, .int .i64 21] 3)
          have rl : RI (fun q => q = b) (WQ.alloc (.cells #[.int .i64 (-2), .int .i64 20, .int .i64 21] 3)) (.slice (some ⟨WQ.heap.size, 0, none⟩) 3 3) [-2, 20, 21] := RI.lit (fun q => q = b) WQ [-2, 20, 21] _ _ _ 3 3 rfl rfl rfl (Nat.le_refl _) (fun e => by have := h.cur.lt; have e : WQ.heap.size = b := e; omega) (by decide)
          replace hgq := (ka.cellD g k (World.block_lt_of_cell? _ _ hgq) (fun e => e)).trans hgq
          replace h := h.keep ka
          unfold Oper.wp execOp
          go_simp
          refine hK0.out _ _ ⟨h.bx.c 1 _ rfl, hgq⟩ ?_
          clear hK0 K0 hS ka
          simp only [List.setIfInBounds_toArray]
          obtain ⟨G, hG⟩ : ∃ G, WQ.heap.size = G := ⟨_, rfl⟩
          rw [hG] at rl ⊢
          clear hG
          generalize WQ.alloc (.cells #[.int .i64 (-2), .int .i64 20, .int .i64 21] 3) = WQ at *
          have hS : WQ.cell? ⟨X, 1, none⟩ = some (.slice (some ⟨g, 0, none⟩) s.length sc) ∧ WQ.cell? ⟨g, k, none⟩ = some (.slice (some ⟨r, 0, none⟩) N rc) := ⟨h.bx.c 1 _ rfl, hgq⟩
          refine wpAnyK_1 7 (by kernel_rfl) (wpOpK' rfl rfl ?_)
          intro K0 hK0
          refine ocallE (f := 76) (args := #[.pointer (some ⟨b, 0, none⟩), .slice (some ⟨G, 0, none⟩) 3 3]) (φ := fun v W' => ∃ y : Int, v = .int .i64 y ∧ Cur W' b B ((KK + 2 + 20 * s.length + 2 + 2) + 2) ∧ Chg (fun q => q = b) WQ W') (by go_simp) ((among_any b B (KK + 2 + 20 * s.length + 2 + 2) _ _ WQ h.cur (by have := HKX.out; omega) rl (by decide) (by decide)).mono (fun e W' ⟨x, h1, _, h5, h6⟩ => ⟨_, h1, x, rfl, h5, h6⟩)) (fun v2 W2 h2 => hK0.out _ _ (by obtain ⟨x, _, q1, q2⟩ := h2; exact ⟨(h.call q1 q2).bx.c 1 _ rfl, (q2.cellD g k (World.block_lt_of_cell? _ _ hgq) hgb).trans hgq⟩) ?_)
          obtain ⟨y, rfl, hc2, k2⟩ := h2
          replace hgq := (k2.cellD g k (World.block_lt_of_cell? _ _ hgq) hgb).trans hgq
          replace h := h.call hc2 k2
          clear hK0 K0 hS hc2 k2 rl
          simp only [List.getElem_toArray, List.getElem_cons_succ, List.getElem_cons_zero, Act.put, List.setIfInBounds_toArray, List.set_cons_zero, List.set_cons_succ]
          generalize W2 = WQ at *
          refine wpAnyK_tail 8 rfl (by kernel_rfl) ?_
          simp only [List.drop_succ_cons, List.drop_zero]
          have hbx := h.bx
          have hbr := h.br
          have hKL := HL.out k hks
          obtain ⟨g', gc', r', rc', hv, hgc, hrc, hrf, ⟨n1, n2, n3, n4, n5, n6, _⟩, hput⟩ := h.cell (k := k) hks (by rw [hKL]; omega)
          rw [hKL] at hgc hrc
          simp only [Value.slice.injEq, Option.some.injEq, Addr.mk.injEq, and_true] at hv
          obtain ⟨rfl, hvv, rfl⟩ := hv
          clear hvv
          rw [hgc] at hgq
          simp only [Option.some.injEq, Value.slice.injEq, Addr.mk.injEq, and_true, true_and] at hgq
          obtain ⟨rfl, rfl⟩ := hgq
          have hcj := hrc 0 (by omega)
          have hfj := hrf 0
          replace h := hput 0 y
          have g0 := hbx.c 0 _ rfl
          have g1 := hbx.c 1 _ rfl
          have e0 := hbr.c 0 _ rfl
          have e1 := hbr.c 1 _ rfl
          have f0 := hbr.fr 0
          have f1 := hbr.fr 1
          have hF := h.fin (by rw [hsq.1]; omega) (by rw [List.length_set]; omega)
          have z0 := hF.2.c 0 _ rfl
          have z1 := hF.2.c 1 _ rfl
          have HF := Lib.hid hF.1
          have HB := Lib.hid (show (KK + 2 + 20 * s.length + 2 + 2 + 2) ≤ K + 1000 by have e1 := HKK.out; omega)
          clear hF
          go_wp2_with fail
          skip
          refine bodyPost_ret (v := .agg #[.slice ma N mc, .slice (some ⟨g, 0, none⟩) s.length sc]) (by simp [results, Tryz.results28, go_sem, z0, z1]) rfl ?_
          obtain ⟨P, q1, q2, q3, q4, q5⟩ := HF.out
          first
            | exact ⟨_, P, rfl, q1, q2, q3, q4.more HB.out, q5⟩
            | exact ⟨_, rfl, P, q1, q2, q3, q4.more HB.out, q5⟩
        · by_cases h1 : x0 = 1
          · subst h1
            replace h := h.keep (drewN0 w10)
            obtain ⟨g, gc, x, hv, hgq, hgf, hx, hxg, ⟨n1, n2, n3, n4, n5, n6⟩, hput⟩ := h.rowgrow hks
            simp only [Value.slice.injEq] at hv
            obtain ⟨rfl, hvv, rfl⟩ := hv
            obtain ⟨xa, xc, rfl, _⟩ := hx.view
            rw [HL.out k hks] at hgq hx hxg n5 n6 hput
            have HRL := Lib.hid (HL.out k hks)
            clear hvv g0 g1 e0 e1 f0 f1
            go_wp2_with fail
            refine wp_region_K (S := fun W => W.cell? ⟨X, 1, none⟩ = some (.slice (some ⟨g, 0, none⟩) s.length sc) ∧ W.cell? ⟨g, k, none⟩ = some (.slice xa N xc)) (k := 10) (by kernel_rfl) ?_
            generalize World.drew _ = WQ at h hgq hgf hx hput ⊢
            have hS : WQ.cell? ⟨X, 1, none⟩ = some (.slice (some ⟨g, 0, none⟩) s.length sc) ∧ WQ.cell? ⟨g, k, none⟩ = some (.slice xa N xc) := ⟨h.bx.c 1 _ rfl, hgq⟩
            refine wpAnyK_take0 0 (.pointer (some ⟨X, 1, none⟩)) rfl (by kernel_rfl) (fun _ _ _ h => h) hS rfl (by intro w; go_simp) ?_
            simp only [List.getElem_toArray, List.getElem_cons_zero, Act.put, List.setIfInBounds_toArray, List.set_cons_zero, List.set_cons_succ]
            refine wpAnyK_take 1 (.slice (some ⟨g, 0, none⟩) s.length sc) rfl (by kernel_rfl) (fun _ _ _ h => h) hS rfl (by intro w hSw; go_simp) ?_
            simp only [List.getElem_toArray, List.getElem_cons_succ, List.getElem_cons_zero, Act.put, List.setIfInBounds_toArray, List.set_cons_zero, List.set_cons_succ]
            refine wpAnyK_take0 2 (.int .i64 (k : Int)) rfl (by kernel_rfl) (fun _ _ _ h => h) hS rfl (by intro w; go_simp) ?_
            simp only [List.getElem_toArray, List.getElem_cons_succ, List.getElem_cons_zero, Act.put, List.setIfInBounds_toArray, List.set_cons_zero, List.set_cons_succ]
            refine wpAnyK_take0 3 (.pointer (some ⟨X, 1, none⟩)) rfl (by kernel_rfl) (fun _ _ _ h => h) hS rfl (by intro w; go_simp) ?_
            simp only [List.getElem_toArray, List.getElem_cons_succ, List.getElem_cons_zero, Act.put, List.setIfInBounds_toArray, List.set_cons_zero, List.set_cons_succ]
            refine wpAnyK_take 4 (.slice (some ⟨g, 0, none⟩) s.length sc) rfl (by kernel_rfl) (fun _ _ _ h => h) hS rfl (by intro w hSw; go_simp) ?_
            simp only [List.getElem_toArray, List.getElem_cons_succ, List.getElem_cons_zero, Act.put, List.setIfInBounds_toArray, List.set_cons_zero, List.set_cons_succ]
            refine wpAnyK_take0 5 (.int .i64 (k : Int)) rfl (by kernel_rfl) (fun _ _ _ h => h) hS rfl (by intro w; go_simp) ?_
            simp only [List.getElem_toArray, List.getElem_cons_succ, List.getElem_cons_zero, Act.put, List.setIfInBounds_toArray, List.set_cons_zero, List.set_cons_succ]
            refine wpAnyK_take0 6 (.pointer (some ⟨g, k, none⟩)) rfl (by kernel_rfl) (fun _ _ _ h => h) hS rfl (by intro w; go_simp) ?_
            simp only [List.getElem_toArray, List.getElem_cons_succ, List.getElem_cons_zero, Act.put, List.setIfInBounds_toArray, List.set_cons_zero, List.set_cons_succ]
            refine wpAnyK_take 7 (.slice xa N xc) rfl (by kernel_rfl) (fun _ _ _ h => h) hS rfl (by intro w hSw; go_simp) ?_
            simp only [List.getElem_toArray, List.getElem_cons_succ, List.getElem_cons_zero, Act.put, List.setIfInBounds_toArray, List.set_cons_zero, List.set_cons_succ]
            have hl9 : (s.getD k []).length + [(0 : Int)].length ≤ 17592186044416 := by rw [HRL.out]; simp; omega
            have hbz : R + 1 ≤ WQ.heap.size := by have e1 := h.bx.lt; have e2 := h.lt; omega
            have hgl := World.block_lt_of_cell? _ _ hgq
            have ka := (Chg.refl (own (Value.slice xa N xc)) WQ).alloc (.cells #[.int .i64 0] 3)
            have hx1 := hx.alloc (.cells #[.int .i64 0] 3)
            have h01 := (OI.one (base := R + 1) (n := 0) hbz).readNo
            refine wpAnyK_1 8 (by kernel_rfl) (wpOpK' rfl rfl ?_)
            intro K0 hK0
            unfold Oper.wp execOp
            go_simp
            refine hK0.out _ _ ⟨(h.bx.step ka n5).c 1 _ rfl, (ka.cellD g k hgl hxg).trans hgq⟩ ?_
            clear hK0 K0 hS
            simp only [List.setIfInBounds_toArray]
            refine wpAnyK_1 9 (by kernel_rfl) (wpOpK' rfl rfl ?_)
            intro K0 hK0
            refine oapp (.tmp 106) (.tmp 107) rfl hx1 h01 rfl rfl hl9 (Nat.le_trans hbz ka.size) (fun v2 w2 h2 k2 f2 => ?_)
            replace k2 := ka.trans k2
            replace f2 : ∀ q, own v2 q → own (Value.slice xa N xc) q ∨ WQ.heap.size ≤ q := fun q hq => (f2 q hq).imp id (fun e => Nat.le_trans ka.size e)
            refine hK0.out _ _ ⟨(h.bx.step k2 n5).c 1 _ rfl, (k2.cellD g k hgl hxg).trans hgq⟩ ?_
            clear hK0 K0 hx1 h01 ka
            simp only [List.getElem_toArray, List.getElem_cons_succ, List.getElem_cons_zero, Act.put, List.setIfInBounds_toArray, List.set_cons_zero, List.set_cons_succ]
            refine wpAnyK_tail 10 rfl (by kernel_rfl) ?_
            simp only [List.drop_succ_cons, List.drop_zero]
            obtain ⟨a2, n2, c2, rfl⟩ := h2.shape
            obtain ⟨F3, hN⟩ := hput _ w2 _ h2 k2 f2
            have hbx := h.bx.step k2 n5
            have hbr := h.br.step k2 n6
            have gg := (k2.cellD g k hgl hxg).trans hgq
            have gf := (k2.frozenD g k hgl hxg).trans hgf
            clear h hgq hgf hx hput h2 k2 f2
            have h := hN
            clear hN
            have g0 := hbx.c 0 _ rfl
            have g1 := hbx.c 1 _ rfl
            have e0 := hbr.c 0 _ rfl
            have e1 := hbr.c 1 _ rfl
            have f0 := hbr.fr 0
            have f1 := hbr.fr 1
            have hF := h.fin (by rw [hsq.1]; omega) (by rw [List.length_set]; omega)
            have z0 := hF.2.c 0 _ rfl
            have z1 := hF.2.c 1 _ rfl
            have HF := Lib.hid hF.1
            have HB := Lib.hid (show (KK + 2 + 20 * s.length + 2 + 2) ≤ K + 1000 by have e1 := HKK.out; omega)
            clear hF
            go_wp2_with fail
            skip
            refine bodyPost_ret (v := .agg #[.slice ma N mc, .slice (some ⟨g, 0, none⟩) s.length sc]) (by simp [results, Tryz.results28, go_sem, z0, z1]) rfl ?_
            obtain ⟨P, q1, q2, q3, q4, q5⟩ := HF.out
            first
              | exact ⟨_, P, rfl, q1, q2, q3, q4.more HB.out, q5⟩
              | exact ⟨_, rfl, P, q1, q2, q3, q4.more HB.out, q5⟩
          · by_cases h2 : x0 = 2
            · subst h2
              have HM := Lib.hid hsq
              have h2e : ∀ (s' : List (List Int)), s'.length = s.length → s'.length ≤ 40 := fun s' e => by omega
              have hn4 : N ≤ 4 := by omega
              clear g0 g1 e0 e1 f0 f1 hsq
              obtain ⟨s0, hs0⟩ : ∃ s0, s = s0 := ⟨_, rfl⟩
              obtain ⟨n0, hn0⟩ : ∃ n0, s.length = n0 := ⟨_, rfl⟩
              rw [hn0] at h hs4 hks hk3 h2e HL ⊢
              clear hs0 s0 hs1
              go_wp2_with fail
              go_loopw [10] (fun z wr => ∃ (j : Nat) (s : List (List Int)), j ≤ N ∧ z = .int .i64 (j : Int) ∧ Hid (s.length = n0) ∧ Hid ((s.getD k []).length = N) ∧ PdD b B (KK + 2 + 20 * n0 + 2 + 2) R X w wr (.slice ma N mc) (.slice sa n0 sc) m s F F') (fun z _ => N - (intOf z).toNat)
              case atStart => exact ⟨0, s, Nat.zero_le _, rfl, Lib.hid hn0, Lib.hid (HL.out k hks), h⟩
              case round =>
                clear h hn0 HL s
                obtain ⟨j, s, hj, rfl, HN0, HK0, h⟩ := hrel
                have hj0 : (0 : Int) ≤ (j : Int) := Int.natCast_nonneg _
                have g0 := h.bx.c 0 _ rfl
                have g1 := h.bx.c 1 _ rfl
                by_cases hlt : j < N
                · have hj1 : (j : Int) < (N : Int) := by omega
                  have hwj : IntKind.i64.wrap ((j : Int) + 1) = (j : Int) + 1 := IntWalk.i64_in _ (by omega)
                  obtain ⟨g, gc, r, rc, hv, hgq, hrc, hrf, ⟨n1, n2, n3, n4, n5, n6, _⟩, hput⟩ := h.cell (k := k) (by rw [HN0.out]; exact hks) (by rw [HK0.out]; omega)
                  rw [HK0.out] at hgq hrc
                  simp only [Value.slice.injEq] at hv
                  obtain ⟨rfl, hvv, rfl⟩ := hv
                  have hcj := hrc j hlt
                  have hfj := hrf j
                  replace h := hput j (-1)
                  clear hvv hput hrc hrf
                  go_wp2_with fail
                  go_round
                  case rel => exact ⟨j + 1, _, by omega, by go_num, Lib.hid (by rw [List.length_set]; exact HN0.out), Lib.hid (by rw [List.getD_eq_getElem?_getD, List.getElem?_set_self (by rw [HN0.out]; exact hks)]; exact (List.length_set ..).trans HK0.out), h⟩
                  case measure => simp [intOf]; omega
                · have e0 := h.br.c 0 _ rfl
                  have e1 := h.br.c 1 _ rfl
                  have f0 := h.br.fr 0
                  have f1 := h.br.fr 1
                  have hF := h.fin (by rw [HM.out.1]; omega) (by rw [HN0.out]; omega)
                  have z0 := hF.2.c 0 _ rfl
                  have z1 := hF.2.c 1 _ rfl
                  have HF := Lib.hid hF.1
                  have HB := Lib.hid (show (KK + 2 + 20 * n0 + 2 + 2) ≤ K + 1000 by have e1 := HKK.out; omega)
                  clear hF
                  go_wp2_with fail
                  skip
                  refine bodyPost_ret (v := .agg #[.slice ma N mc, .slice sa n0 sc]) (by simp [results, Tryz.results28, go_sem, z0, z1]) rfl ?_
                  obtain ⟨P, q1, q2, q3, q4, q5⟩ := HF.out
                  first
                    | exact ⟨_, P, rfl, q1, q2, q3, q4.more HB.out, q5⟩
                    | exact ⟨_, rfl, P, q1, q2, q3, q4.more HB.out, q5⟩
            · by_cases h3 : x0 = 3
              · subst h3
                have hm0 : 0 < m.length := by rw [hsq.1]; omega
                have hK0 : (m.getD 0 []).length = N := hsq.2 0 (by omega)
                obtain ⟨g, gc, r, rc, hv, hgq, _, _, ⟨_, _, _, _, _, _, hgb⟩, _⟩ := h.cellm hm0 (by rw [hK0]; omega)
                rw [hK0] at hgq
                simp only [Value.slice.injEq] at hv
                obtain ⟨rfl, hvv, rfl⟩ := hv
                have hw1 : IntKind.i64.wrap ((N : Int) - 1) = (N : Int) - 1 := IntWalk.i64_in _ (by omega)
                obtain ⟨J, hJ⟩ : ∃ J : Nat, (N : Int) - 1 = (J : Int) := ⟨N - 1, by omega⟩
                have hJN : J < N := by omega
                have hNp : (0 : Int) < (N : Int) := by omega
                have hNq : 0 < N := by omega
                have hJ0 : (0 : Int) ≤ (J : Int) := by omega
                have hJ1 : (J : Int) < (N : Int) := by omega
                clear hvv g0 g1 e0 e1 f0 f1
                rw [hJ] at hw1
                go_wp2_with fail
                refine wp_region_K (S := fun W => W.cell? ⟨X, 0, none⟩ = some (.slice (some ⟨g, 0, none⟩) N mc) ∧ W.cell? ⟨g, 0, none⟩ = some (.slice (some ⟨r, 0, none⟩) N rc)) (k := 9) (by kernel_rfl) ?_
                replace h := h.keep (drewN0 _)
                replace hgq := ((drewN0 w10).cellD g 0 (World.block_lt_of_cell? _ _ hgq) (fun e => e)).trans hgq
                generalize World.drew _ = WQ at h hgq ⊢
                have hS : WQ.cell? ⟨X, 0, none⟩ = some (.slice (some ⟨g, 0, none⟩) N mc) ∧ WQ.cell? ⟨g, 0, none⟩ = some (.slice (some ⟨r, 0, none⟩) N rc) := ⟨h.bx.c 0 _ rfl, hgq⟩
                refine wpAnyK_take0 0 (.pointer (some ⟨X, 0, none⟩)) rfl (by kernel_rfl) (fun _ _ _ h => h) hS rfl (by intro w; go_simp) ?_
                simp only [List.getElem_toArray, List.getElem_cons_zero, Act.put, List.setIfInBounds_toArray, List.set_cons_zero, List.set_cons_succ]
                refine wpAnyK_take 1 (.slice (some ⟨g, 0, none⟩) N mc) rfl (by kernel_rfl) (fun _ _ _ h => h) hS rfl (by intro w hSw; go_simp) ?_
                simp only [List.getElem_toArray, List.getElem_cons_succ, List.getElem_cons_zero, Act.put, List.setIfInBounds_toArray, List.set_cons_zero, List.set_cons_succ]
                refine wpAnyK_take0 2 (.pointer (some ⟨g, 0, none⟩)) rfl (by kernel_rfl) (fun _ _ _ h => h) hS rfl (by intro w; go_simp) ?_
                simp only [List.getElem_toArray, List.getElem_cons_succ, List.getElem_cons_zero, Act.put, List.setIfInBounds_toArray, List.set_cons_zero, List.set_cons_succ]
                refine wpAnyK_take 3 (.slice (some ⟨r, 0, none⟩) N rc) rfl (by kernel_rfl) (fun _ _ _ h => h) hS rfl (by intro w hSw; go_simp) ?_
                simp only [List.getElem_toArray, List.getElem_cons_succ, List.getElem_cons_zero, Act.put, List.setIfInBounds_toArray, List.set_cons_zero, List.set_cons_succ]
                refine wpAnyK_take0 4 (.int .i64 (N : Int)) rfl (by kernel_rfl) (fun _ _ _ h => h) hS rfl (by intro w; go_simp) ?_
                simp only [List.getElem_toArray, List.getElem_cons_succ, List.getElem_cons_zero, Act.put, List.setIfInBounds_toArray, List.set_cons_zero, List.set_cons_succ]
                refine wpAnyK_take0 5 (.int .i64 (J : Int)) rfl (by kernel_rfl) (fun _ _ _ h => h) hS rfl (by intro w; go_simp) ?_
                simp only [List.getElem_toArray, List.getElem_cons_succ, List.getElem_cons_zero, Act.put, List.setIfInBounds_toArray, List.set_cons_zero, List.set_cons_succ]
                refine wpAnyK_take0 6 (.pointer (some ⟨b, 0, none⟩)) rfl (by kernel_rfl) (fun _ _ _ h => h) hS rfl (by intro w; go_simp) ?_
                simp only [List.getElem_toArray, List.getElem_cons_succ, List.getElem_cons_zero, Act.put, List.setIfInBounds_toArray, List.set_cons_zero, List.set_cons_succ]
                refine wpAnyK_1 7 (by kernel_rfl) (wpOpK' rfl rfl ?_)
                intro K0 hK0
                have ka := (Chg.refl No WQ).alloc (.cells #[.int .i64 0, .int .i64 99, .int .i64 (-1)] 3)
                have rl : RI (fun q => q = b) (WQ.alloc (.cells #[.int .i64 0, .int .i64 99, .int .i64 (-1)] 3)) (.slice (some ⟨WQ.heap.size, 0, none⟩) 3 3) [0, 99, -1] := RI.lit (fun q => q = b) WQ [0, 99, -1] _ _ _ 3 3 rfl rfl rfl (Nat.le_refl _) (fun e => by have := h.cur.lt; have e : WQ.heap.size = b := e; omega) (by decide)
                replace hgq := (ka.cellD g 0 (World.block_lt_of_cell? _ _ hgq) (fun e => e)).trans hgq
                replace h := h.keep ka
                unfold Oper.wp execOp
                go_simp
                refine hK0.out _ _ ⟨h.bx.c 0 _ rfl, hgq⟩ ?_
                clear hK0 K0 hS ka
                simp only [List.setIfInBounds_toArray]
                obtain ⟨G, hG⟩ : ∃ G, WQ.heap.size = G := ⟨_, rfl⟩
                rw [hG] at rl ⊢
                clear hG
                generalize WQ.alloc (.cells #[.int .i64 0, .int .i64 99, .int .i64 (-1)] 3) = WQ at *
                have hS : WQ.cell? ⟨X, 0, none⟩ = some (.slice (some ⟨g, 0, none⟩) N mc) ∧ WQ.cell? ⟨g, 0, none⟩ = some (.slice (some ⟨r, 0, none⟩) N rc) := ⟨h.bx.c 0 _ rfl, hgq⟩
                refine wpAnyK_1 8 (by kernel_rfl) (wpOpK' rfl rfl ?_)
                intro K0 hK0
                refine ocallE (f := 76) (args := #[.pointer (some ⟨b, 0, none⟩), .slice (some ⟨G, 0, none⟩) 3 3]) (φ := fun v W' => ∃ y : Int, v = .int .i64 y ∧ Cur W' b B ((KK + 2 + 20 * s.length + 2 + 2) + 2) ∧ Chg (fun q => q = b) WQ W') (by go_simp) ((among_any b B (KK + 2 + 20 * s.length + 2 + 2) _ _ WQ h.cur (by have := HKX.out; omega) rl (by decide) (by decide)).mono (fun e W' ⟨x, h1, _, h5, h6⟩ => ⟨_, h1, x, rfl, h5, h6⟩)) (fun v2 W2 h2 => hK0.out _ _ (by obtain ⟨x, _, q1, q2⟩ := h2; exact ⟨(h.call q1 q2).bx.c 0 _ rfl, (q2.cellD g 0 (World.block_lt_of_cell? _ _ hgq) hgb).trans hgq⟩) ?_)
                obtain ⟨y, rfl, hc2, k2⟩ := h2
                replace hgq := (k2.cellD g 0 (World.block_lt_of_cell? _ _ hgq) hgb).trans hgq
                replace h := h.call hc2 k2
                clear hK0 K0 hS hc2 k2 rl
                simp only [List.getElem_toArray, List.getElem_cons_succ, List.getElem_cons_zero, Act.put, List.setIfInBounds_toArray, List.set_cons_zero, List.set_cons_succ]
                generalize W2 = WQ at *
                refine wpAnyK_tail 9 rfl (by kernel_rfl) ?_
                simp only [List.drop_succ_cons, List.drop_zero]
                have hbx := h.bx
                have hbr := h.br
                obtain ⟨g', gc', r', rc', hv, hgc, hrc, hrf, ⟨n1, n2, n3, n4, n5, n6, _⟩, hput⟩ := h.cellm (k := 0) hm0 (by rw [hK0]; omega)
                rw [hK0] at hgc hrc
                simp only [Value.slice.injEq, Option.some.injEq, Addr.mk.injEq, and_true] at hv
                obtain ⟨rfl, hvv, rfl⟩ := hv
                clear hvv
                rw [hgc] at hgq
                simp only [Option.some.injEq, Value.slice.injEq, Addr.mk.injEq, and_true, true_and] at hgq
                obtain ⟨rfl, rfl⟩ := hgq
                have hcj := hrc J (by omega)
                have hfj := hrf J
                replace h := hput J y
                have g0 := hbx.c 0 _ rfl
                have g1 := hbx.c 1 _ rfl
                have e0 := hbr.c 0 _ rfl
                have e1 := hbr.c 1 _ rfl
                have f0 := hbr.fr 0
                have f1 := hbr.fr 1
                have hF := h.fin (by rw [List.length_set, hsq.1]; omega) (by omega)
                have z0 := hF.2.c 0 _ rfl
                have z1 := hF.2.c 1 _ rfl
                have HF := Lib.hid hF.1
                have HB := Lib.hid (show (KK + 2 + 20 * s.length + 2 + 2 + 2) ≤ K + 1000 by have e1 := HKK.out; omega)
                clear hF
                go_wp2_with fail
                skip
                refine bodyPost_ret (v := .agg #[.slice (some ⟨g, 0, none⟩) N mc, .slice sa s.length sc]) (by simp [results, Tryz.results28, go_sem, z0, z1]) rfl ?_
                obtain ⟨P, q1, q2, q3, q4, q5⟩ := HF.out
                first
                  | exact ⟨_, P, rfl, q1, q2, q3, q4.more HB.out, q5⟩
                  | exact ⟨_, rfl, P, q1, q2, q3, q4.more HB.out, q5⟩
              · by_cases h4 : x0 = 4
                · subst h4
                  replace h := h.keep (drewN0 w10)
                  obtain ⟨vs, q1, q2, q3, q4, q5, q6⟩ := id h.os
                  clear g0 g1 e0 e1 f0 f1
                  go_wp2_with fail
                  refine wp_region_K (S := fun W => W.cell? ⟨X, 1, none⟩ = some (.slice sa s.length sc)) (k := 11) (by kernel_rfl) ?_
                  generalize World.drew _ = WQ at h q2 q3 ⊢
                  have hS : WQ.cell? ⟨X, 1, none⟩ = some (.slice sa s.length sc) := h.bx.c 1 _ rfl
                  refine wpAnyK_take0 0 (.pointer (some ⟨X, 1, none⟩)) rfl (by kernel_rfl) (fun _ _ _ h => h) hS rfl (by intro w; go_simp) ?_
                  simp only [List.getElem_toArray, List.getElem_cons_zero, Act.put, List.setIfInBounds_toArray, List.set_cons_zero, List.set_cons_succ]
                  refine wpAnyK_take 1 (.slice sa s.length sc) rfl (by kernel_rfl) (fun _ _ _ h => h) hS rfl (by intro w hSw; go_simp) ?_
                  simp only [List.getElem_toArray, List.getElem_cons_succ, List.getElem_cons_zero, Act.put, List.setIfInBounds_toArray, List.set_cons_zero, List.set_cons_succ]
                  refine wpAnyK_take0 2 (.pointer (some ⟨X, 1, none⟩)) rfl (by kernel_rfl) (fun _ _ _ h => h) hS rfl (by intro w; go_simp) ?_
                  simp only [List.getElem_toArray, List.getElem_cons_succ, List.getElem_cons_zero, Act.put, List.setIfInBounds_toArray, List.set_cons_zero, List.set_cons_succ]
                  refine wpAnyK_take 3 (.slice sa s.length sc) rfl (by kernel_rfl) (fun _ _ _ h => h) hS rfl (by intro w hSw; go_simp) ?_
                  simp only [List.getElem_toArray, List.getElem_cons_succ, List.getElem_cons_zero, Act.put, List.setIfInBounds_toArray, List.set_cons_zero, List.set_cons_succ]
                  refine wpAnyK_take0 5 (.pointer (some ⟨X, 1, none⟩)) rfl (by kernel_rfl) (fun _ _ _ h => h) hS rfl (by intro w; go_simp) ?_
                  simp only [List.getElem_toArray, List.getElem_cons_succ, List.getElem_cons_zero, Act.put, List.setIfInBounds_toArray, List.set_cons_zero, List.set_cons_succ]
                  refine wpAnyK_take 6 (.slice sa s.length sc) rfl (by kernel_rfl) (fun _ _ _ h => h) hS rfl (by intro w hSw; go_simp) ?_
                  simp only [List.getElem_toArray, List.getElem_cons_succ, List.getElem_cons_zero, Act.put, List.setIfInBounds_toArray, List.set_cons_zero, List.set_cons_succ]
                  refine wpAnyK_take0 8 (.pointer (some ⟨X, 1, none⟩)) rfl (by kernel_rfl) (fun _ _ _ h => h) hS rfl (by intro w; go_simp) ?_
                  simp only [List.getElem_toArray, List.getElem_cons_succ, List.getElem_cons_zero, Act.put, List.setIfInBounds_toArray, List.set_cons_zero, List.set_cons_succ]
                  refine wpAnyK_take 9 (.slice sa s.length sc) rfl (by kernel_rfl) (fun _ _ _ h => h) hS rfl (by intro w hSw; go_simp) ?_
                  simp only [List.getElem_toArray, List.getElem_cons_succ, List.getElem_cons_zero, Act.put, List.setIfInBounds_toArray, List.set_cons_zero, List.set_cons_succ]
                  have hone : ∀ u ∈ vs, u.oneCell' = true := rows_one q1 q3
                  have hbz : R + 1 ≤ WQ.heap.size := by have e1 := h.bx.lt; have e2 := h.lt; omega
                  have q2r := q2.readNo
                  have hNQ : (s.length + s.length ≤ 1099511627776) ∧ (s.length + s.length + s.length ≤ 1099511627776) ∧ (s.length + s.length + s.length + s.length ≤ 1099511627776) := by omega
                  obtain ⟨g, rfl⟩ : ∃ g, sa = some ⟨g, 0, none⟩ := by
                    obtain ⟨a, cap, he, e1, e2, e3, e4⟩ := q2.view
                    simp only [Value.slice.injEq] at he
                    obtain ⟨rfl, _, rfl⟩ := he
                    obtain ⟨g, rfl, _⟩ := e4 (by omega)
                    exact ⟨g, rfl⟩
                  have hbx := h.bx
                  refine wpAnyK_1 4 (by kernel_rfl) (wpOpK' rfl rfl ?_)
                  intro K0 hK0
                  refine oappQ elInts (by omega) (.tmp 139) (.tmp 141) rfl q2 q2r hone rfl rfl hNQ.1 hbz (fun v1 w1 o1 k1 f1 r1 => ?_)
                  have hoX : ¬ own (Value.slice (some ⟨g, 0, none⟩) s.length sc) X := fun e => h.sx X ((q6 X).2 (.inl e)) rfl
                  have hoR : ¬ own (Value.slice (some ⟨g, 0, none⟩) s.length sc) R := fun e => by have := (q2.lt R e).1; omega
                  replace hbx := hbx.step k1 hoX
                  refine hK0.out _ _ (hbx.c 1 _ rfl) ?_
                  clear hK0 K0 hS
                  simp only [List.getElem_toArray, List.getElem_cons_succ, List.getElem_cons_zero, Act.put, List.setIfInBounds_toArray, List.set_cons_zero, List.set_cons_succ]
                  refine wpAnyK_1 7 (by kernel_rfl) (wpOpK' rfl rfl ?_)
                  intro K0 hK0
                  refine oappQ elInts (by omega) (.tmp 142) (.tmp 144) rfl o1 r1 hone rfl rfl hNQ.2.1 (Nat.le_trans hbz k1.size) (fun v2 w2 o2 k2 f2 r2 => ?_)
                  replace hbx := hbx.step k2 (fun e => by
                    rcases f1 X e with e1 | e1
                    · exact hoX e1
                    · have := h.bx.lt; omega)
                  refine hK0.out _ _ (hbx.c 1 _ rfl) ?_
                  clear hK0 K0
                  simp only [List.getElem_toArray, List.getElem_cons_succ, List.getElem_cons_zero, Act.put, List.setIfInBounds_toArray, List.set_cons_zero, List.set_cons_succ]
                  have r3 : RF No w2 (.slice (some ⟨g, 0, none⟩) s.length sc) 1 s.length vs := RF.pre o1 r1 k2 r2 (by omega)
                  refine wpAnyK_1 10 (by kernel_rfl) (wpOpK' rfl rfl ?_)
                  intro K0 hK0
                  refine oappQ elInts (by omega) (.tmp 145) (.tmp 147) rfl o2 r3 hone rfl rfl hNQ.2.2 (Nat.le_trans hbz (Nat.le_trans k1.size k2.size)) (fun v3 w3 o3 k3 f3 r4 => ?_)
                  have f2' : ∀ q, own v2 q → own (Value.slice (some ⟨g, 0, none⟩) s.length sc) q ∨ WQ.heap.size ≤ q := fun q hq => by
                    rcases f2 q hq with e | e
                    · exact f1 q e
                    · exact .inr (Nat.le_trans k1.size e)
                  replace hbx := hbx.step k3 (fun e => by
                    rcases f2' X e with e1 | e1
                    · exact hoX e1
                    · have := h.bx.lt; omega)
                  have kt : Chg (fun q => own (Value.slice (some ⟨g, 0, none⟩) s.length sc) q) WQ w3 := (k1.step k2 (fun q hq hl => (f1 q hq).elim id (fun e => by omega))).step k3 (fun q hq hl => (f2' q hq).elim id (fun e => by omega))
                  have hFin := h.fin4 q1 q2 q3 q4 kt o3 (by rw [hsq.1]; omega) (by omega) (fun q hq => by
                    rcases f3 q hq with e | e
                    · rcases f2' q e with e1 | e1
                      · exact h.sx q ((q6 q).2 (.inl e1))
                      · have := h.bx.lt; omega
                    · have := h.bx.lt; have := k1.size; have := k2.size; omega) (fun q hq e => h.ap q e ((q6 q).2 (.inl hq))) (fun i hi q hq => h.sx q ((q6 q).2 (.inr ⟨i, hi, hq⟩)))
                  have hbr := h.br.step kt hoR
                  have hXR : ¬ X = R := by have := h.lt; omega
                  have hXR' : ¬ R = X := by have := h.lt; omega
                  refine hK0.out _ _ (hbx.c 1 _ rfl) ?_
                  clear hK0 K0 r1 r2 r3 r4 o1 o2 k1 k2 k3 f1 f2 f3 f2' q1 q2 q2r q3 q4 q5 q6 hone hNQ kt h
                  simp only [List.getElem_toArray, List.getElem_cons_succ, List.getElem_cons_zero, Act.put, List.setIfInBounds_toArray, List.set_cons_zero, List.set_cons_succ]
                  refine wpAnyK_tail 11 rfl (by kernel_rfl) ?_
                  simp only [List.drop_succ_cons, List.drop_zero]
                  obtain ⟨a3, n3, c3, rfl⟩ : ∃ a n c, v3 = .slice a n c := by obtain ⟨a, c, e, _⟩ := o3.view; exact ⟨_, _, _, e⟩
                  have g0 := hbx.c 0 _ rfl
                  have g1 := hbx.c 1 _ rfl
                  have gf := hbx.fr 1
                  have e0 := hbr.c 0 _ rfl
                  have e1 := hbr.c 1 _ rfl
                  have f0 := hbr.fr 0
                  have f1 := hbr.fr 1
                  clear o3
                  have z0 := hFin.2.c 0 _ rfl
                  have z1 := hFin.2.c 1 _ rfl
                  have HF := Lib.hid hFin.1
                  have HB := Lib.hid (show (KK + 2 + 20 * s.length + 2 + 2) ≤ K + 1000 by have e1 := HKK.out; omega)
                  clear hFin
                  go_wp2_with fail
                  refine bodyPost_ret (v := .agg #[.slice ma N mc, .slice a3 n3 c3]) (by simp [results, Tryz.results28, go_sem, z0, z1]) rfl ?_
                  obtain ⟨P, q1, q2, q3, q4, q5⟩ := HF.out
                  first
                    | exact ⟨_, P, rfl, q1, q2, q3, q4.more HB.out, q5⟩
                    | exact ⟨_, rfl, P, q1, q2, q3, q4.more HB.out, q5⟩
                · by_cases h5 : x0 = 5
                  · subst h5
                    go_wp2_with fail
                    refine (l6Uniform_any 5 1 w10 (by omega)).mono ?_
                    rintro e w11 ⟨_, rfl, ⟨v5, m5, F5, rfl, hsq5, ho5⟩, k11⟩
                    obtain ⟨na, nc, rfl⟩ := ho5.readNo.shape
                    rw [hsq5.1] at ho5 ⊢
                    obtain ⟨h6, hbx6⟩ := h.appm ho5 k11
                    have hbr6 := h.br.keep k11
                    clear g0 g1 e0 e1 f0 f1 h ho5 k11
                    have g0 := hbx6.c 0 _ rfl
                    have g1 := hbx6.c 1 _ rfl
                    have g2 := hbx6.fr 0
                    have e0 := hbr6.c 0 _ rfl
                    have e1 := hbr6.c 1 _ rfl
                    have f0 := hbr6.fr 0
                    have f1 := hbr6.fr 1
                    have h := h6
                    have hXR : ¬ X = R := by have := h.lt; omega
                    have hXR' : ¬ R = X := by have := h.lt; omega
                    clear h6 hbx6 hbr6
                    have hfl := fldM na 5 nc w11
                    have hF := h.fin (by rw [hsq5.1]; omega) (by omega)
                    have z0 := hF.2.c 0 _ rfl
                    have z1 := hF.2.c 1 _ rfl
                    have HF := Lib.hid hF.1
                    have HB := Lib.hid (show (KK + 2 + 20 * s.length + 2 + 2) ≤ K + 1000 by have e1 := HKK.out; omega)
                    clear hF
                    go_wp2_with fail
                    skip
                    refine bodyPost_ret (v := .agg #[.slice na 5 nc, .slice sa s.length sc]) (by simp [results, Tryz.results28, go_sem, z0, z1]) rfl ?_
                    obtain ⟨P, q1, q2, q3, q4, q5⟩ := HF.out
                    first
                      | exact ⟨_, P, rfl, q1, q2, q3, q4.more HB.out, q5⟩
                      | exact ⟨_, rfl, P, q1, q2, q3, q4.more HB.out, q5⟩
                  · skip
                    have hF := h.fin (by rw [hsq.1]; omega) (by omega)
                    have z0 := hF.2.c 0 _ rfl
                    have z1 := hF.2.c 1 _ rfl
                    have HF := Lib.hid hF.1
                    have HB := Lib.hid (show (KK + 2 + 20 * s.length + 2 + 2) ≤ K + 1000 by have e1 := HKK.out; omega)
                    clear hF
                    go_wp2_with fail
                    skip
                    refine bodyPost_ret (v := .agg #[.slice ma N mc, .slice sa s.length sc]) (by simp [results, Tryz.results28, go_sem, z0, z1]) rfl ?_
                    obtain ⟨P, q1, q2, q3, q4, q5⟩ := HF.out
                    first
                      | exact ⟨_, P, rfl, q1, q2, q3, q4.more HB.out, q5⟩
                      | exact ⟨_, rfl, P, q1, q2, q3, q4.more HB.out, q5⟩
end Go.Proofs.YtndhijckbponkaaGreat
