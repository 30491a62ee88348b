import Derived.Test.YtdgcohoneijleaaGreatBase
/-
  A region that draws its order, each operation of which yields, in every world of a class, a value of a set (laid ahead, one set an operation) and leaves a world of the class: one walk of the lexical order serves every order.
-/

namespace Go.Proofs.YtdgcohoneijleaaGreat
open Go.RowKit

section
variable {P : Program} {ops : Array Oper} {md : Region.Mode} {C : World → Prop}

def uponV (P : Program) (C : World → Prop) (V : Value → Prop) : Result Next → Prop
  | .ok (.value u) w' => C w' ∧ V u
  | .ok .skip w' => C w' ∧ V undef
  | .ok (.enter f args) w' => Calls P f args w' (fun e w'' => ∃ v, e = .returned v ∧ V v ∧ C w'')
  | _ => False
def atV (P : Program) (o : Oper) (a : Act) (C : World → Prop) (V : Value → Prop) : Prop := ∀ w, C w → uponV P C V ((execOp a.eval o).run P w)
def goV (P : Program) (ops : Array Oper) (C : World → Prop) (V : Value → Prop) (o : Oper) (K : Act → Prop) (a : Act) : Prop :=
  if Region.wanted o (yielded ops a.tmps) = true then (∃ v, V v) ∧ atV P o a C V ∧ ∀ v, V v → K (a.put o.dst v) else K (a.put o.dst undef)
def wpV (P : Program) (ops : Array Oper) (C : World → Prop) (Q : Act → Prop) : List Oper → List (Value → Prop) → Act → Prop
  | [], _, a => Q a
  | o :: rest, Vs, a => goV P ops C (Vs.headD fun _ => True) o (wpV P ops C Q rest Vs.tail) a
def opV (P : Program) (ops : Array Oper) (C : World → Prop) (S : Nat → Value → Prop) (i : Nat) (K : Act → Prop) (a : Act) : Prop :=
  match ops[i]? with
  | none => K a
  | some o => goV P ops C (S i) o K a
def wpAnyV (P : Program) (md : Region.Mode) (ops : Array Oper) (C : World → Prop) (S : Nat → Value → Prop) (Q : Act → Prop) : Nat → Array Bool → Act → Prop
  | 0, listed, a => Region.ready md ops listed = [] ∧ Q a
  | fuel + 1, listed, a =>
    (Region.ready md ops listed = [] → Q a) ∧
    ∀ i ∈ Region.ready md ops listed, opV P ops C S i (wpAnyV P md ops C S Q fuel (listed.setIfInBounds i true)) a

theorem wp_of_V {o : Oper} {a : Act} {V : Value → Prop} {K : Act → Prop} {K' : Act → World → Prop} {Q' : Exit → Act → World → Prop} {w : World} (hw : C w) (h : ∀ a w', C w' → K a → K' a w')
    (h1 : atV P o a C V) (h2 : ∀ v, V v → K (a.put o.dst v)) : o.wp P a w K' Q' := by
  have h3 := h1 w hw
  unfold Oper.wp
  generalize (execOp a.eval o).run P w = r at *
  cases r with
  | ok n w' =>
    cases n <;> simp only [uponV] at h3 <;> simp only [Oper.upon]
    case value u => exact h _ _ h3.1 (h2 _ h3.2)
    case skip => exact h _ _ h3.1 (h2 _ h3.2)
    case enter f args => exact h3.mono fun e w'' ⟨v, he, hv, hc⟩ => by subst he; exact h _ _ hc (h2 _ hv)
  | halt x w' => simp only [uponV] at h3

theorem wpOp_of_V {S : Nat → Value → Prop} {i : Nat} {a : Act} {K : Act → Prop} {K' : Act → World → Prop} {Q' : Exit → Act → World → Prop} {w : World} (hC : C w) (h : ∀ a w', C w' → K a → K' a w')
    (hh : opV P ops C S i K a) : wpOp P ops Q' i K' a w := by
  unfold opV at hh
  unfold wpOp
  split
  · rename_i ho; simp only [ho] at hh; exact h _ _ hC hh
  · rename_i o ho
    simp only [ho, goV] at hh
    split
    · rename_i hw; simp only [hw, if_true] at hh; exact .inl (wp_of_V hC h hh.2.1 hh.2.2)
    · rename_i hw; simp only [hw] at hh; exact h _ _ hC hh

theorem wpAny_of_V {S : Nat → Value → Prop} {Q : Act → Prop} {Q' : Exit → Act → World → Prop} (hQ : ∀ a w, C w → Q a → Q' .normal a w) : ∀ (fuel : Nat) (listed : Array Bool) (a : Act) (w : World), C w →
    wpAnyV P md ops C S Q fuel listed a → wpAny P md ops Q' fuel listed a w
  | 0, _, _, _, hw, h => ⟨h.1, hQ _ _ hw h.2⟩
  | fuel + 1, _, _, _, hw, h => ⟨fun h0 => hQ _ _ hw (h.1 h0), fun i hi => wpOp_of_V hw (fun a' w' hw' => wpAny_of_V hQ fuel _ a' w' hw') (h.2 i hi)⟩

theorem wpAnyV_first {S : Nat → Value → Prop} {Q : Act → Prop} {i : Nat} {oi : Oper} (hi : ops[i]? = some oi) (hsel : ∀ (j : Nat) (o : Oper) cs b, ops[j]? = some o → o.op ≠ .select cs b) :
    ∀ (fuel : Nat) (listed : Array Bool) (a : Act),
      (∀ j oj, ops[j]? = some oj → j ≠ i → listed.getD j true = false → (∀ e ∈ oj.after, Region.binds md e = true → e.on ≠ i) → oi.apart ops oj = true) →
      i ∈ Region.ready md ops listed →
      goV P ops C (S i) oi (wpAnyV P md ops C S Q fuel (listed.setIfInBounds i true)) a → wpAnyV P md ops C S Q (fuel + 1) listed a := by
  have hI : ∀ {a : Act} {K : Act → Prop}, goV P ops C (S i) oi K a → opV P ops C S i K a := fun h => by unfold opV; rw [hi]; exact h
  have hE : ∀ {a : Act} {K : Act → Prop}, goV P ops C (S i) oi K a → ∃ v, K (a.put oi.dst v) := fun {a} {K} h => by
    unfold goV at h
    by_cases hw : Region.wanted oi (yielded ops a.tmps) = true
    · rw [if_pos hw] at h
      obtain ⟨⟨v, hv⟩, _, h2⟩ := h
      exact ⟨v, h2 v hv⟩
    · rw [if_neg hw] at h
      exact ⟨_, h⟩
  intro fuel
  induction fuel with
  | zero =>
    intro listed a _ hr H
    refine ⟨fun h => (by rw [h] at hr; cases hr), fun j hj => ?_⟩
    by_cases hji : j = i
    · subst hji; exact hI H
    · obtain ⟨v, hv⟩ := hE H
      have := ready_mono hj hji
      rw [hv.1] at this
      cases this
  | succ fuel ih =>
    intro listed a hfree hr H
    refine ⟨fun h => (by rw [h] at hr; cases hr), fun j hj => ?_⟩
    by_cases hji : j = i
    · subst hji; exact hI H
    · obtain ⟨hjun, oj, hoj, hall⟩ := mem_ready.1 hj
      have hnot : ∀ e ∈ oj.after, Region.binds md e = true → e.on ≠ i := fun e he hb heq => by
        have h1 := hall e he hb
        have h0 := (mem_ready.1 hr).1
        rw [heq] at h1
        rcases Nat.lt_or_ge i listed.size with h' | h'
        · simp [h'] at h0 h1; rw [h0] at h1; cases h1
        · simp [Array.getElem?_eq_none h'] at h1
      obtain ⟨a1, a2, a3⟩ := Oper.apart_spec (hfree j oj hoj hji hjun hnot)
      have hsi : ∀ cs b, oi.op ≠ .select cs b := fun cs b => hsel i oi cs b hi
      have hsj : ∀ cs b, oj.op ≠ .select cs b := fun cs b => hsel j oj cs b hoj
      have hfree' : ∀ k ok, ops[k]? = some ok → k ≠ i → (listed.setIfInBounds j true).getD k true = false →
          (∀ e ∈ ok.after, Region.binds md e = true → e.on ≠ i) → oi.apart ops ok = true := fun k ok hk hki hun hno => by
        refine hfree k ok hk hki ?_ hno
        by_cases hjk : j = k
        · subst hjk; exact hjun
        · rw [getD_set_ne true hjk] at hun; exact hun
      -- what i leaves, then j
      have step : ∀ v, wpAnyV P md ops C S Q (fuel + 1) (listed.setIfInBounds i true) (a.put oi.dst v) →
          goV P ops C (S j) oj (wpAnyV P md ops C S Q fuel ((listed.setIfInBounds i true).setIfInBounds j true)) (a.put oi.dst v) := fun v h => by
        have h1 := h.2 j (ready_mono hj hji)
        unfold opV at h1
        rw [hoj] at h1
        exact h1
      -- at a, put u at j: i goes as it did
      have back : ∀ u, (∀ v, wpAnyV P md ops C S Q (fuel + 1) (listed.setIfInBounds i true) (a.put oi.dst v) → wpAnyV P md ops C S Q fuel ((listed.setIfInBounds i true).setIfInBounds j true) ((a.put oi.dst v).put oj.dst u)) →
          wpAnyV P md ops C S Q (fuel + 1) (listed.setIfInBounds j true) (a.put oj.dst u) := fun u hu => by
        refine ih (listed.setIfInBounds j true) (a.put oj.dst u) hfree' (ready_mono hr (Ne.symm hji)) ?_
        unfold goV at H ⊢
        rw [wanted_put oi a oj.dst u a3]
        rw [Array.setIfInBounds_comm _ _ hji]
        by_cases hw : Region.wanted oi (yielded ops a.tmps) = true
        · rw [if_pos hw] at H ⊢
          obtain ⟨g1, g2, g3⟩ := H
          refine ⟨g1, fun w hw' => ?_, fun v hv => ?_⟩
          · rw [execOp_put oi hsi a oj.dst u a3]; exact g2 w hw'
          · rw [← Act.put_comm a v u a2]; exact hu v (g3 v hv)
        · rw [if_neg hw] at H ⊢
          rw [← Act.put_comm a undef u a2]; exact hu _ H
      obtain ⟨v0, hv0⟩ := hE H
      have h0 := step v0 hv0
      unfold opV
      rw [hoj]
      show goV P ops C (S j) oj (wpAnyV P md ops C S Q (fuel + 1) (listed.setIfInBounds j true)) a
      unfold goV at h0 ⊢
      rw [wanted_put oj a oi.dst v0 a1] at h0
      by_cases hw : Region.wanted oj (yielded ops a.tmps) = true
      · rw [if_pos hw] at h0 ⊢
        obtain ⟨g1, g2, _⟩ := h0
        refine ⟨g1, fun w hw' => ?_, fun u hu => back u (fun v hv => ?_)⟩
        · have := g2 w hw'
          rwa [execOp_put oj hsj a oi.dst v0 a1] at this
        · have h1 := step v hv
          unfold goV at h1
          rw [wanted_put oj a oi.dst v a1, if_pos hw] at h1
          exact h1.2.2 u hu
      · rw [if_neg hw] at h0 ⊢
        refine back undef (fun v hv => ?_)
        have h1 := step v hv
        unfold goV at h1
        rw [wanted_put oj a oi.dst v a1, if_neg hw] at h1
        exact h1

theorem wpAnyV_lex {Q : Act → Prop} (S : Nat → Value → Prop) (hs : Region.noSelect ops = true) : ∀ (l : List Oper) (Vs : List (Value → Prop)) (k : Nat) (listed : Array Bool) (a : Act), (∀ j, l[j]? = ops[k + j]?) →
    (∀ j, Vs.getD j (fun _ => True) = S (k + j)) → Region.lexFrom md ops l.length k listed = true → wpV P ops C Q l Vs a → wpAnyV P md ops C S Q l.length listed a
  | [], _, _, _, _, _, _, hB, h => ⟨by simpa [Region.lexFrom] using hB, h⟩
  | o :: l, Vs, k, listed, a, hl, hS, hB, h => by
    have h0 : ops[k]? = some o := by simpa using (hl 0).symm
    simp only [List.length_cons, Region.lexFrom, Bool.and_eq_true] at hB
    obtain ⟨⟨hr, hf⟩, hB'⟩ := hB
    have hS0 : Vs.headD (fun _ => True) = S k := by have := hS 0; cases Vs <;> simpa using this
    refine wpAnyV_first h0 (Region.noSelect_spec hs) l.length listed a (Region.free_spec h0 hf) (by simpa using hr) ?_
    have ih : ∀ a', wpV P ops C Q l Vs.tail a' → wpAnyV P md ops C S Q l.length (listed.setIfInBounds k true) a' := fun a' h' =>
      wpAnyV_lex S hs l Vs.tail (k + 1) _ a' (fun j => by have := hl (j + 1); simpa [Nat.add_assoc, Nat.add_comm 1 j] using this)
        (fun j => by have := hS (j + 1); cases Vs <;> simp [Nat.add_assoc, Nat.add_comm 1 j] at this ⊢ <;> exact this) hB' h'
    unfold wpV goV at h
    unfold goV
    rw [hS0] at h
    by_cases hw : Region.wanted o (yielded ops a.tmps) = true
    · rw [if_pos hw] at h ⊢
      exact ⟨h.1, h.2.1, fun v hv => ih _ (h.2.2 v hv)⟩
    · rw [if_neg hw] at h ⊢
      exact ih _ h

/-- the region -/
theorem wp_region_V {id : Nat} {Q : Exit → Act → World → Prop} {a : Act} {w : World} {l : List Oper} (C : World → Prop) (Vs : List (Value → Prop)) (hm : P.follows .mixedOrders = true) (hB : Region.lexB .any l.toArray = true) (hC : C w.drew)
    (h : wpV P l.toArray C (fun a' => ∀ w', C w' → Q .normal a' w') l Vs a) : (Code.region id l.toArray true).wp P Q a w := by
  simp only [Region.lexB, Bool.and_eq_true] at hB
  refine wp_region_any hm (wpAny_of_V (S := fun i => Vs.getD i (fun _ => True)) (Q := fun a' => ∀ w', C w' → Q .normal a' w') (fun _ w' hw' h => h w' hw') _ _ _ _ hC ?_)
  have := wpAnyV_lex (P := P) (C := C) (md := .any) (fun i => Vs.getD i (fun _ => True)) hB.1 l Vs 0 (Array.replicate l.length false) a (by simp) (fun j => by simp) (by simpa using hB.2) h
  simpa using this

theorem wpV_nil {Q : Act → Prop} {a : Act} (h : Q a) : wpV P ops C Q [] [] a := h
/-- a set -/
theorem wpV_set {Q : Act → Prop} {o : Oper} {rest : List Oper} {V : Value → Prop} {Vs : List (Value → Prop)} {a : Act} (hw : Region.wanted o (yielded ops a.tmps) = true) (hv : ∃ v, V v)
    (h : ∀ w, C w → uponV P C V ((execOp a.eval o).run P w)) (hn : ∀ v, V v → wpV P ops C Q rest Vs (a.put o.dst v)) : wpV P ops C Q (o :: rest) (V :: Vs) a := by
  unfold wpV goV
  rw [if_pos hw]
  exact ⟨hv, h, hn⟩
/-- one value -/
theorem wpV_one {Q : Act → Prop} {o : Oper} {rest : List Oper} (v : Value) {Vs : List (Value → Prop)} {a : Act} (hw : Region.wanted o (yielded ops a.tmps) = true)
    (h : ∀ w, C w → uponV P C (fun x => x = v) ((execOp a.eval o).run P w)) (hn : wpV P ops C Q rest Vs (a.put o.dst v)) : wpV P ops C Q (o :: rest) ((fun x => x = v) :: Vs) a :=
  wpV_set hw ⟨v, rfl⟩ h (fun u hu => by rw [hu]; exact hn)
/-- none -/
theorem wpV_skip {Q : Act → Prop} {o : Oper} {rest : List Oper} {Vs : List (Value → Prop)} {a : Act} (hw : Region.wanted o (yielded ops a.tmps) = false)
    (hn : wpV P ops C Q rest Vs (a.put o.dst undef)) : wpV P ops C Q (o :: rest) ((fun x => x = undef) :: Vs) a := by
  unfold wpV goV
  rw [if_neg (by rw [hw]; decide)]
  exact hn
/-- some sets -/
def wpX (P : Program) (ops : Array Oper) (C : World → Prop) (Q : Act → Prop) (l : List Oper) (a : Act) : Prop := ∃ Vs, wpV P ops C Q l Vs a
/-- some sets, the same for a family of states -/
def wpF (P : Program) (ops : Array Oper) (C : World → Prop) (Q : Act → Prop) (l : List Oper) (V : Value → Prop) (a : Value → Act) : Prop := ∃ Vs, ∀ x, V x → wpV P ops C Q l Vs (a x)
theorem wp_region_X {id : Nat} {Q : Exit → Act → World → Prop} {a : Act} {w : World} {l : List Oper} (C : World → Prop) (hm : P.follows .mixedOrders = true) (hB : Region.lexB .any l.toArray = true) (hC : C w.drew)
    (h : wpX P l.toArray C (fun a' => ∀ w', C w' → Q .normal a' w') l a) : (Code.region id l.toArray true).wp P Q a w := h.elim fun Vs h => wp_region_V C Vs hm hB hC h
section
variable {Q : Act → Prop} {o : Oper} {rest : List Oper} {a : Act}
theorem wpX_nil (h : Q a) : wpX P ops C Q [] a := ⟨[], wpV_nil h⟩
theorem wpX_skip (hw : Region.wanted o (yielded ops a.tmps) = false) (hn : wpX P ops C Q rest (a.put o.dst undef)) : wpX P ops C Q (o :: rest) a := hn.elim fun _ h => ⟨_, wpV_skip hw h⟩
/-- one value, the world left as it is -/
theorem wpX_val (v : Value) (hw : Region.wanted o (yielded ops a.tmps) = true) (h : ∀ w, C w → (execOp a.eval o).run P w = .ok (.value v) w) (hn : wpX P ops C Q rest (a.put o.dst v)) : wpX P ops C Q (o :: rest) a :=
  hn.elim fun Vs hn => ⟨_, wpV_one v hw (fun w hC => by rw [h w hC]; exact ⟨hC, rfl⟩) hn⟩
/-- a call that hands back one value and leaves a world of the class -/
theorem wpX_call (v : Value) {f : FuncId} {args : Array Value} (hw : Region.wanted o (yielded ops a.tmps) = true)
    (h : ∀ w, C w → (execOp a.eval o).run P w = .ok (.enter f args) w) (hc : ∀ w, C w → Calls P f args w fun e w' => e = .returned v ∧ C w') (hn : wpX P ops C Q rest (a.put o.dst v)) : wpX P ops C Q (o :: rest) a :=
  hn.elim fun Vs hn => ⟨_, wpV_one v hw (fun w hC => by rw [h w hC]; exact (hc w hC).mono fun e w' h => ⟨v, h.1, rfl, h.2⟩) hn⟩
/-- a call that hands back a value of a set -/
theorem wpX_calls (V : Value → Prop) {f : FuncId} {args : Array Value} (hw : Region.wanted o (yielded ops a.tmps) = true) (hv : ∃ v, V v)
    (h : ∀ w, C w → (execOp a.eval o).run P w = .ok (.enter f args) w) (hc : ∀ w, C w → Calls P f args w fun e w' => ∃ v, e = .returned v ∧ V v ∧ C w') (hn : wpF P ops C Q rest V (fun v => a.put o.dst v)) : wpX P ops C Q (o :: rest) a :=
  hn.elim fun Vs hn => ⟨_, wpV_set hw hv (fun w hC => by rw [h w hC]; exact hc w hC) hn⟩
end
section
variable {Q : Act → Prop} {o : Oper} {rest : List Oper} {V : Value → Prop} {a : Value → Act}
theorem wpF_nil (h : ∀ x, V x → Q (a x)) : wpF P ops C Q [] V a := ⟨[], fun x hx => wpV_nil (h x hx)⟩
theorem wpF_skip (hw : ∀ x, V x → Region.wanted o (yielded ops (a x).tmps) = false) (hn : wpF P ops C Q rest V (fun x => (a x).put o.dst undef)) : wpF P ops C Q (o :: rest) V a := hn.elim fun _ h => ⟨_, fun x hx => wpV_skip (hw x hx) (h x hx)⟩
theorem wpF_val (v : Value) (hw : ∀ x, V x → Region.wanted o (yielded ops (a x).tmps) = true) (h : ∀ x, V x → ∀ w, C w → (execOp (a x).eval o).run P w = .ok (.value v) w) (hn : wpF P ops C Q rest V (fun x => (a x).put o.dst v)) : wpF P ops C Q (o :: rest) V a :=
  hn.elim fun Vs hn => ⟨_, fun x hx => wpV_one v (hw x hx) (fun w hC => by rw [h x hx w hC]; exact ⟨hC, rfl⟩) (hn x hx)⟩
theorem wpF_call (v : Value) {f : FuncId} {args : Array Value} (hw : ∀ x, V x → Region.wanted o (yielded ops (a x).tmps) = true)
    (h : ∀ x, V x → ∀ w, C w → (execOp (a x).eval o).run P w = .ok (.enter f args) w) (hc : ∀ w, C w → Calls P f args w fun e w' => e = .returned v ∧ C w') (hn : wpF P ops C Q rest V (fun x => (a x).put o.dst v)) : wpF P ops C Q (o :: rest) V a :=
  hn.elim fun Vs hn => ⟨_, fun x hx => wpV_one v (hw x hx) (fun w hC => by rw [h x hx w hC]; exact (hc w hC).mono fun e w' h => ⟨v, h.1, rfl, h.2⟩) (hn x hx)⟩
end
end
end Go.Proofs.YtdgcohoneijleaaGreat
