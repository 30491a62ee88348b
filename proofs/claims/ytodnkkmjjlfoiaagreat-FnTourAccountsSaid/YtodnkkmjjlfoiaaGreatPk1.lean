import Derived.Test.YtodnkkmjjlfoiaaGreatBase
import Derived.Deep.Matrix
/-
  A region that draws its order and ends in stores to cells that it has loaded: the loads are taken first, under a condition on the world that is asked only till operation k (which waits for them) has come up.
-/
namespace Go.Proofs.YtodnkkmjjlfoiaaGreat
open Go.RowKit

section
variable {P : Program} {ops : Array Oper} {Q : Exit → Act → World → Prop} {md : Region.Mode} {S : World → Prop}

def wpAnyK (P : Program) (md : Region.Mode) (ops : Array Oper) (Q : Exit → Act → World → Prop) (S : World → Prop) (k : Nat) : Nat → Array Bool → Act → World → Prop
  | 0, listed, a, w => Region.ready md ops listed = [] ∧ Q .normal a w
  | f + 1, listed, a, w => (Region.ready md ops listed = [] → Q .normal a w) ∧
    ∀ i ∈ Region.ready md ops listed, wpOp P ops Q i (fun a' w' => ((listed.setIfInBounds i true).getD k true = false → S w') ∧ wpAnyK P md ops Q S k f (listed.setIfInBounds i true) a' w') a w

theorem wpAny_of_K {k : Nat} : ∀ (f : Nat) (listed : Array Bool) (a : Act) (w : World), wpAnyK P md ops Q S k f listed a w → wpAny P md ops Q f listed a w
  | 0, _, _, _, h => h
  | f + 1, _, _, _, h => ⟨h.1, fun i hi => wpOp_mono (fun a' w' h' => wpAny_of_K f _ a' w' h'.2) (h.2 i hi)⟩

theorem getD_set_in {listed : Array Bool} {i k : Nat} (h : (listed.setIfInBounds i true).getD k true = false) : listed.getD k true = false := by
  by_cases hik : i = k
  · subst hik
    by_cases hs : i < listed.size
    · simp [hs] at h
    · simp [Array.setIfInBounds, hs] at h
  · rwa [getD_set_ne true hik] at h

/-- behind k nothing is asked -/
theorem wpAnyK_of_any {k : Nat} : ∀ (f : Nat) (listed : Array Bool) (a : Act) (w : World), listed.getD k true = true → wpAny P md ops Q f listed a w → wpAnyK P md ops Q S k f listed a w
  | 0, _, _, _, _, h => h
  | f + 1, listed, _, _, hl, h => ⟨h.1, fun i hi => wpOp_mono (fun a' w' h' => by
      have e : (listed.setIfInBounds i true).getD k true = true := by
        cases hc : (listed.setIfInBounds i true).getD k true with
        | true => rfl
        | false => rw [getD_set_in hc] at hl; cases hl
      exact ⟨fun h0 => by (rw [e] at h0; cases h0), wpAnyK_of_any f _ a' w' e h'⟩) (h.2 i hi)⟩

theorem wpAnyK_first {k i : Nat} {oi : Oper} {v : Value} (hi : ops[i]? = some oi) (hsel : ∀ (j : Nat) (o : Oper) cs b, ops[j]? = some o → o.op ≠ .select cs b)
    (hQ : ∀ c a w, Q (.panic c) (a.put oi.dst v) w → Q (.panic c) a w) (hk : Region.waitsFor md ops k i = true) (hki : k ≠ i) :
    ∀ (f : Nat) (listed : Array Bool) (a : Act) (w : World),
      (∀ j oj, ops[j]? = some oj → j ≠ i → listed.getD j true = false → (∀ e ∈ oj.after, Region.binds md e = true → e.on ≠ i) → oi.apart ops oj = true) →
      i ∈ Region.ready md ops listed → listed.getD k true = false → YieldsIf P ops S oi v a → S w →
      wpAnyK P md ops Q S k f (listed.setIfInBounds i true) (a.put oi.dst v) w → wpAnyK P md ops Q S k (f + 1) listed a w := by
  intro f
  induction f with
  | zero =>
    intro listed a w _ hr hl hy hS H
    refine ⟨fun h => (by rw [h] at hr; cases hr), fun j hj => ?_⟩
    by_cases hji : j = i
    · subst hji; exact hy.wpOp hi hS ⟨fun _ => hS, H⟩
    · have := ready_mono hj hji
      rw [H.1] at this
      cases this
  | succ f ih =>
    intro listed a w hfree hr hl hy hS H
    refine ⟨fun h => (by rw [h] at hr; cases hr), fun j hj => ?_⟩
    by_cases hji : j = i
    · subst hji; exact hy.wpOp hi hS ⟨fun _ => hS, H⟩
    · have hun : listed.getD i false = false := getD_both (mem_ready.1 hr).1
      have hjk : j ≠ k := fun e => by
        subst e
        obtain ⟨_, oj, hoj, hall⟩ := mem_ready.1 hj
        obtain ⟨oj', hoj', e, he, hb, hon⟩ := Region.waitsFor_spec hk
        have : oj' = oj := Option.some.inj (hoj'.symm.trans hoj)
        subst this
        have h1 := hall e he hb
        rw [hon, hun] at h1
        cases h1
      have h1 := H.2 j (ready_mono hj hji)
      obtain ⟨hjun, oj, hoj, hall⟩ := mem_ready.1 hj
      have hnot : ∀ e ∈ oj.after, Region.binds md e = true → e.on ≠ i := fun e he hb heq => by
        have h1 := hall e he hb
        rw [heq, hun] at h1
        cases h1
      have h2 := wpOp_putIf hoj (hfree j oj hoj hji hjun hnot) (fun cs b => hsel i oi cs b hi) (fun cs b => hsel j oj cs b hoj) hQ hy h1
      have hl' : (listed.setIfInBounds j true).getD k true = false := by rw [getD_set_ne true hjk]; exact hl
      have hl2 : ((listed.setIfInBounds i true).setIfInBounds j true).getD k true = false := by rw [getD_set_ne true hjk, getD_set_ne true (Ne.symm hki)]; exact hl
      refine wpOp_mono (fun a' w' h3 => ⟨fun _ => h3.2.1 hl2, ih (listed.setIfInBounds j true) a' w' (fun m om hm hmi hmu hno => hfree m om hm hmi (getD_set_in hmu) hno) (ready_mono hr (Ne.symm hji)) hl' h3.1 (h3.2.1 hl2) ?_⟩) h2
      rw [Array.setIfInBounds_comm _ _ hji]
      exact h3.2.2

/-- what yields in whatever world -/
theorem wpAnyK_first0 {k i : Nat} {oi : Oper} {v : Value} (hi : ops[i]? = some oi) (hsel : ∀ (j : Nat) (o : Oper) cs b, ops[j]? = some o → o.op ≠ .select cs b)
    (hQ : ∀ c a w, Q (.panic c) (a.put oi.dst v) w → Q (.panic c) a w) (hki : k ≠ i) :
    ∀ (f : Nat) (listed : Array Bool) (a : Act) (w : World),
      (∀ j oj, ops[j]? = some oj → j ≠ i → listed.getD j true = false → (∀ e ∈ oj.after, Region.binds md e = true → e.on ≠ i) → oi.apart ops oj = true) →
      i ∈ Region.ready md ops listed → YieldsIf P ops (fun _ => True) oi v a → (listed.getD k true = false → S w) →
      wpAnyK P md ops Q S k f (listed.setIfInBounds i true) (a.put oi.dst v) w → wpAnyK P md ops Q S k (f + 1) listed a w := by
  intro f
  induction f with
  | zero =>
    intro listed a w _ hr hy hS H
    refine ⟨fun h => (by rw [h] at hr; cases hr), fun j hj => ?_⟩
    by_cases hji : j = i
    · subst hji; exact hy.wpOp hi trivial ⟨fun h0 => hS (by rwa [getD_set_ne true (Ne.symm hki)] at h0), H⟩
    · have := ready_mono hj hji
      rw [H.1] at this
      cases this
  | succ f ih =>
    intro listed a w hfree hr hy hS H
    refine ⟨fun h => (by rw [h] at hr; cases hr), fun j hj => ?_⟩
    by_cases hji : j = i
    · subst hji; exact hy.wpOp hi trivial ⟨fun h0 => hS (by rwa [getD_set_ne true (Ne.symm hki)] at h0), H⟩
    · have hun : listed.getD i false = false := getD_both (mem_ready.1 hr).1
      have h1 := H.2 j (ready_mono hj hji)
      obtain ⟨hjun, oj, hoj, hall⟩ := mem_ready.1 hj
      have hnot : ∀ e ∈ oj.after, Region.binds md e = true → e.on ≠ i := fun e he hb heq => by
        have h1 := hall e he hb
        rw [heq, hun] at h1
        cases h1
      have h2 := wpOp_putIf hoj (hfree j oj hoj hji hjun hnot) (fun cs b => hsel i oi cs b hi) (fun cs b => hsel j oj cs b hoj) hQ hy h1
      have e : ((listed.setIfInBounds i true).setIfInBounds j true).getD k true = (listed.setIfInBounds j true).getD k true := by
        rw [Array.setIfInBounds_comm _ _ (Ne.symm hji), getD_set_ne true (Ne.symm hki)]
      refine wpOp_mono (fun a' w' h3 => ⟨fun h0 => h3.2.1 (e.trans h0), ih (listed.setIfInBounds j true) a' w' (fun m om hm hmi hmu hno => hfree m om hm hmi (getD_set_in hmu) hno) (ready_mono hr (Ne.symm hji)) h3.1 (fun h0 => h3.2.1 (e.trans h0)) ?_⟩) h2
      rw [Array.setIfInBounds_comm _ _ hji]
      exact h3.2.2
theorem wpAnyK_take0 (i : Nat) {k : Nat} {oi : Oper} (v : Value) {f : Nat} {listed : Array Bool} {a : Act} {w : World} (hi : ops[i]? = some oi)
    (hB : (Region.noSelect ops && Region.free md ops listed i && (Region.ready md ops listed).contains i && decide (k ≠ i)) = true)
    (hQ : ∀ c a w, Q (.panic c) (a.put oi.dst v) w → Q (.panic c) a w) (hS : S w) (hg : oi.guard = none) (hy : ∀ w, (execOp a.eval oi).run P w = .ok (.value v) w)
    (h : wpAnyK P md ops Q S k f (listed.setIfInBounds i true) (a.put oi.dst v) w) : wpAnyK P md ops Q S k (f + 1) listed a w := by
  simp only [Bool.and_eq_true, decide_eq_true_eq] at hB
  obtain ⟨⟨⟨h1, h2⟩, h3⟩, h4⟩ := hB
  exact wpAnyK_first0 hi (Region.noSelect_spec h1) hQ h4 f listed a w (Region.free_spec hi h2) (by simpa using h3) (.inl ⟨by simp [Region.wanted, hg], fun w _ => hy w⟩) (fun _ => hS) h

/-- take number i first -/
theorem wpAnyK_take (i : Nat) {k : Nat} {oi : Oper} (v : Value) {f : Nat} {listed : Array Bool} {a : Act} {w : World} (hi : ops[i]? = some oi)
    (hB : (Region.noSelect ops && Region.free md ops listed i && (Region.ready md ops listed).contains i && Region.waitsFor md ops k i && decide (k ≠ i) && !listed.getD k true) = true)
    (hQ : ∀ c a w, Q (.panic c) (a.put oi.dst v) w → Q (.panic c) a w) (hS : S w) (hg : oi.guard = none) (hy : ∀ w, S w → (execOp a.eval oi).run P w = .ok (.value v) w)
    (h : wpAnyK P md ops Q S k f (listed.setIfInBounds i true) (a.put oi.dst v) w) : wpAnyK P md ops Q S k (f + 1) listed a w := by
  simp only [Bool.and_eq_true, Bool.not_eq_true', decide_eq_true_eq] at hB
  obtain ⟨⟨⟨⟨⟨h1, h2⟩, h3⟩, h4⟩, h5⟩, h6⟩ := hB
  exact wpAnyK_first hi (Region.noSelect_spec h1) hQ h4 h5 f listed a w (Region.free_spec hi h2) (by simpa using h3) h6 (.inl ⟨by simp [Region.wanted, hg], hy⟩) hS h

/-- one of those that may come up -/
theorem wpOpK {k i f : Nat} {o : Oper} {listed : Array Bool} {a : Act} {w : World} (ho : ops[i]? = some o) (hg : o.guard = none)
    (h : Oper.wp P o a w (fun a' w' => S w' ∧ wpAnyK P md ops Q S k f (listed.setIfInBounds i true) a' w') Q) :
    wpOp P ops Q i (fun a' w' => ((listed.setIfInBounds i true).getD k true = false → S w') ∧ wpAnyK P md ops Q S k f (listed.setIfInBounds i true) a' w') a w := by
  unfold wpOp
  rw [ho]
  show if Region.wanted o (yielded ops a.tmps) = true then _ else _
  rw [if_pos (by simp [Region.wanted, hg])]
  exact .inl (Oper.wp_mono (fun _ _ h => ⟨fun _ => h.1, h.2⟩) h)
theorem wpOpK' {k i f : Nat} {o : Oper} {listed : Array Bool} {a : Act} {w : World} (ho : ops[i]? = some o) (hg : o.guard = none)
    (h : ∀ K : Act → World → Prop, Hid (∀ a' w', S w' → wpAnyK P md ops Q S k f (listed.setIfInBounds i true) a' w' → K a' w') → Oper.wp P o a w K Q) :
    wpOp P ops Q i (fun a' w' => ((listed.setIfInBounds i true).getD k true = false → S w') ∧ wpAnyK P md ops Q S k f (listed.setIfInBounds i true) a' w') a w :=
  wpOpK ho hg (h _ (Lib.hid (fun _ _ h1 h2 => ⟨h1, h2⟩)))
theorem wpAnyK_1 {k f : Nat} (i : Nat) {listed : Array Bool} {a : Act} {w : World} (hr : Region.ready md ops listed = [i])
    (h : wpOp P ops Q i (fun a' w' => ((listed.setIfInBounds i true).getD k true = false → S w') ∧ wpAnyK P md ops Q S k f (listed.setIfInBounds i true) a' w') a w) : wpAnyK P md ops Q S k (f + 1) listed a w :=
  ⟨fun e => by (rw [hr] at e; cases e), fun j hj => by
    rw [hr] at hj
    have e : j = i := by simpa using hj
    subst e; exact h⟩
theorem wpAnyK_2 {k f : Nat} (i i' : Nat) {listed : Array Bool} {a : Act} {w : World} (hr : Region.ready md ops listed = [i, i'])
    (h : wpOp P ops Q i (fun a' w' => ((listed.setIfInBounds i true).getD k true = false → S w') ∧ wpAnyK P md ops Q S k f (listed.setIfInBounds i true) a' w') a w)
    (h' : wpOp P ops Q i' (fun a' w' => ((listed.setIfInBounds i' true).getD k true = false → S w') ∧ wpAnyK P md ops Q S k f (listed.setIfInBounds i' true) a' w') a w) : wpAnyK P md ops Q S k (f + 1) listed a w :=
  ⟨fun e => by (rw [hr] at e; cases e), fun j hj => by
    rw [hr] at hj
    have e : j = i ∨ j = i' := by simpa using hj
    rcases e with rfl | rfl
    · exact h
    · exact h'⟩
/-- the stores at the end, in their one order -/
theorem wpAnyK_tail (n : Nat) {f : Nat} {l : List Oper} {listed : Array Bool} {a : Act} {w : World} (hf : (l.drop n).length = f) (hB : (Region.seqB md l.toArray f n listed && decide (n < listed.size)) = true)
    (h : wpList P l.toArray Q (l.drop n) a w) : wpAnyK P md l.toArray Q S n f listed a w := by
  subst hf
  simp only [Bool.and_eq_true, decide_eq_true_eq] at hB
  have h' := wpAny_of_seq (P := P) (md := md) (Q' := Q) (l.drop n) n listed a w (fun j => by simp [List.getElem?_drop]) hB.1 h
  have hB1 := hB.1
  generalize (l.drop n).length = f at h' hB1
  cases f with
  | zero => exact h'
  | succ f =>
    simp only [Region.seqB, Bool.and_eq_true, decide_eq_true_eq] at hB1
    refine ⟨h'.1, fun i hi => ?_⟩
    have e := hi
    rw [hB1.1] at e
    have e : i = n := by simpa using e
    subst e
    have e : (listed.setIfInBounds i true).getD i true = true := by simp [hB.2]
    exact wpOp_mono (fun a' w' h2 => ⟨fun h0 => by (rw [e] at h0; cases h0), wpAnyK_of_any f _ a' w' e h2⟩) (h'.2 i hi)
theorem wp_region_K {id k : Nat} {l : List Oper} {a : Act} {w : World} (hm : P.follows .mixedOrders = true) (h : wpAnyK P .any l.toArray Q S k l.length (List.replicate l.length false).toArray a w.drew) : (Code.region id l.toArray true).wp P Q a w :=
  wp_region_any hm (wpAny_of_K _ _ _ _ (by simpa using h))
end

/-- append, and a slice of one int, at an operation -/
theorem oapp {o : Oper} {a : Act} {K : Act → World → Prop} {Q : Exit → Act → World → Prop} {w : World} (s x : Operand)
    (ho : o.op = .call { callee := .builtin .append, args := #[s, x], argTypes := #[23, 23] })
    {base : Nat} {v xv : Value} {l m : List Int} (hown : OI base w v l) (hxr : RI No w xv m) (hs : a.eval s = v) (hx : a.eval x = xv) (hl : l.length + m.length ≤ 17592186044416) (hbase : base ≤ w.heap.size)
    (h : ∀ v' w', OI base w' v' (l ++ m) → Chg (own v) w w' → (∀ k, own v' k → own v k ∨ w.heap.size ≤ k) → K (a.put o.dst v') w') :
    Oper.wp Tryz.prog o a w K Q := by
  obtain ⟨v', w', hr, h1, h2, h3⟩ := run_app o.type hown hxr hl hbase
  unfold Oper.wp execOp
  simp only [ho, resolve, invoke, builtin, Sem.run_bind, Sem.run_pure, Result.andThen_ok, List.map_toArray, List.map_cons, List.map_nil, hs, hx, hr]
  exact h v' w' h1 h2 h3
theorem obuild {o : Oper} {a : Act} {K : Act → World → Prop} {Q : Exit → Act → World → Prop} {w : World} (y : Operand) (n : Int)
    (ho : o.op = .buildSlice 23 1 #[(0, y)]) (hy : a.eval y = .int .i64 n)
    (h : ∀ g w', Chg No w w' → w'.cell? ⟨g, 0, none⟩ = some (.int .i64 n) → w.heap.size ≤ g → K (a.put o.dst (.slice (some ⟨g, 0, none⟩) 1 1)) w') :
    Oper.wp Tryz.prog o a w K Q := by
  have h1 := h w.heap.size (w.alloc (.cells #[.int .i64 n] 3)) ((Chg.refl No w).alloc _) (by rw [World.cell?_alloc_new]; rfl) (Nat.le_refl _)
  unfold Oper.wp execOp
  simp only [ho, List.map_toArray, List.map_cons, List.map_nil, hy]
  go_simp
  exact h1
end Go.Proofs.YtodnkkmjjlfoiaaGreat

/- guarded operations of a region whose order is drawn: taken first, skipped, entered -/
namespace Go.Proofs.YtodnkkmjjlfoiaaGreat
open Go.RowKit

section
variable {P : Program} {ops : Array Oper} {Q : Exit → Act → World → Prop} {md : Region.Mode} {S : World → Prop}
end
theorem ocallR {o : Oper} {a : Act} {K : Act → World → Prop} {Q : Exit → Act → World → Prop} {w : World} {f : FuncId} {args : Array Value} {v : Value} {φ : World → Prop}
    (ho : (execOp a.eval o).run Tryz.prog w = .ok (.enter f args) w) (h : Calls Tryz.prog f args w fun e w' => e = .returned v ∧ φ w') (hk : ∀ w', φ w' → K (a.put o.dst v) w') : Oper.wp Tryz.prog o a w K Q := by
  unfold Oper.wp
  rw [ho]
  refine h.mono (fun e w' hr => ?_)
  obtain ⟨rfl, hp⟩ := hr
  exact hk w' hp
end Go.Proofs.YtodnkkmjjlfoiaaGreat

/-
  A region that draws its order, each operation of which yields, in every world of a class, a value of a set (laid ahead, one set an operation) and leaves a world of the class: one walk of the lexical order serves every order.
-/
namespace Go.Proofs.YtodnkkmjjlfoiaaGreat
open Go.RowKit

section
variable {P : Program} {ops : Array Oper} {md : Region.Mode} {C : World → Prop}

def uponV (P : Program) (C : World → Prop) (V : Value → Prop) : Result Next → Prop
  | .ok (.value u) w' => C w' ∧ V u
  | .ok .skip w' => C w' ∧ V undef
  | .ok (.enter f args) w' => Calls P f args w' (fun e w'' => ∃ v, e = .returned v ∧ V v ∧ C w'')
  | _ => False
def atV (P : Program) (o : Oper) (a : Act) (C : World → Prop) (V : Value → Prop) : Prop := ∀ w, C w → uponV P C V ((execOp a.eval o).run P w)
def goV (P : Program) (ops : Array Oper) (C : World → Prop) (V : Value → Prop) (o : Oper) (K : Act → Prop) (a : Act) : Prop :=
  if Region.wanted o (yielded ops a.tmps) = true then (∃ v, V v) ∧ atV P o a C V ∧ ∀ v, V v → K (a.put o.dst v) else K (a.put o.dst undef)
def wpV (P : Program) (ops : Array Oper) (C : World → Prop) (Q : Act → Prop) : List Oper → List (Value → Prop) → Act → Prop
  | [], _, a => Q a
  | o :: rest, Vs, a => goV P ops C (Vs.headD fun _ => True) o (wpV P ops C Q rest Vs.tail) a
def opV (P : Program) (ops : Array Oper) (C : World → Prop) (S : Nat → Value → Prop) (i : Nat) (K : Act → Prop) (a : Act) : Prop :=
  match ops[i]? with
  | none => K a
  | some o => goV P ops C (S i) o K a
def wpAnyV (P : Program) (md : Region.Mode) (ops : Array Oper) (C : World → Prop) (S : Nat → Value → Prop) (Q : Act → Prop) : Nat → Array Bool → Act → Prop
  | 0, listed, a => Region.ready md ops listed = [] ∧ Q a
  | fuel + 1, listed, a =>
    (Region.ready md ops listed = [] → Q a) ∧
    ∀ i ∈ Region.ready md ops listed, opV P ops C S i (wpAnyV P md ops C S Q fuel (listed.setIfInBounds i true)) a

theorem wp_of_V {o : Oper} {a : Act} {V : Value → Prop} {K : Act → Prop} {K' : Act → World → Prop} {Q' : Exit → Act → World → Prop} {w : World} (hw : C w) (h : ∀ a w', C w' → K a → K' a w')
    (h1 : atV P o a C V) (h2 : ∀ v, V v → K (a.put o.dst v)) : o.wp P a w K' Q' := by
  have h3 := h1 w hw
  unfold Oper.wp
  generalize (execOp a.eval o).run P w = r at *
  cases r with
  | ok n w' =>
    cases n <;> simp only [uponV] at h3 <;> simp only [Oper.upon]
    case value u => exact h _ _ h3.1 (h2 _ h3.2)
    case skip => exact h _ _ h3.1 (h2 _ h3.2)
    case enter f args => exact h3.mono fun e w'' ⟨v, he, hv, hc⟩ => by subst he; exact h _ _ hc (h2 _ hv)
  | halt x w' => simp only [uponV] at h3

theorem wpOp_of_V {S : Nat → Value → Prop} {i : Nat} {a : Act} {K : Act → Prop} {K' : Act → World → Prop} {Q' : Exit → Act → World → Prop} {w : World} (hC : C w) (h : ∀ a w', C w' → K a → K' a w')
    (hh : opV P ops C S i K a) : wpOp P ops Q' i K' a w := by
  unfold opV at hh
  unfold wpOp
  split
  · rename_i ho; simp only [ho] at hh; exact h _ _ hC hh
  · rename_i o ho
    simp only [ho, goV] at hh
    split
    · rename_i hw; simp only [hw, if_true] at hh; exact .inl (wp_of_V hC h hh.2.1 hh.2.2)
    · rename_i hw; simp only [hw] at hh; exact h _ _ hC hh

theorem wpAny_of_V {S : Nat → Value → Prop} {Q : Act → Prop} {Q' : Exit → Act → World → Prop} (hQ : ∀ a w, C w → Q a → Q' .normal a w) : ∀ (fuel : Nat) (listed : Array Bool) (a : Act) (w : World), C w →
    wpAnyV P md ops C S Q fuel listed a → wpAny P md ops Q' fuel listed a w
  | 0, _, _, _, hw, h => ⟨h.1, hQ _ _ hw h.2⟩
  | fuel + 1, _, _, _, hw, h => ⟨fun h0 => hQ _ _ hw (h.1 h0), fun i hi => wpOp_of_V hw (fun a' w' hw' => wpAny_of_V hQ fuel _ a' w' hw') (h.2 i hi)⟩

theorem wpAnyV_first {S : Nat → Value → Prop} {Q : Act → Prop} {i : Nat} {oi : Oper} (hi : ops[i]? = some oi) (hsel : ∀ (j : Nat) (o : Oper) cs b, ops[j]? = some o → o.op ≠ .select cs b) :
    ∀ (fuel : Nat) (listed : Array Bool) (a : Act),
      (∀ j oj, ops[j]? = some oj → j ≠ i → listed.getD j true = false → (∀ e ∈ oj.after, Region.binds md e = true → e.on ≠ i) → oi.apart ops oj = true) →
      i ∈ Region.ready md ops listed →
      goV P ops C (S i) oi (wpAnyV P md ops C S Q fuel (listed.setIfInBounds i true)) a → wpAnyV P md ops C S Q (fuel + 1) listed a := by
  have hI : ∀ {a : Act} {K : Act → Prop}, goV P ops C (S i) oi K a → opV P ops C S i K a := fun h => by unfold opV; rw [hi]; exact h
  have hE : ∀ {a : Act} {K : Act → Prop}, goV P ops C (S i) oi K a → ∃ v, K (a.put oi.dst v) := fun {a} {K} h => by
    unfold goV at h
    by_cases hw : Region.wanted oi (yielded ops a.tmps) = true
    · rw [if_pos hw] at h
      obtain ⟨⟨v, hv⟩, _, h2⟩ := h
      exact ⟨v, h2 v hv⟩
    · rw [if_neg hw] at h
      exact ⟨_, h⟩
  intro fuel
  induction fuel with
  | zero =>
    intro listed a _ hr H
    refine ⟨fun h => (by rw [h] at hr; cases hr), fun j hj => ?_⟩
    by_cases hji : j = i
    · subst hji; exact hI H
    · obtain ⟨v, hv⟩ := hE H
      have := ready_mono hj hji
      rw [hv.1] at this
      cases this
  | succ fuel ih =>
    intro listed a hfree hr H
    refine ⟨fun h => (by rw [h] at hr; cases hr), fun j hj => ?_⟩
    by_cases hji : j = i
    · subst hji; exact hI H
    · obtain ⟨hjun, oj, hoj, hall⟩ := mem_ready.1 hj
      have hnot : ∀ e ∈ oj.after, Region.binds md e = true → e.on ≠ i := fun e he hb heq => by
        have h1 := hall e he hb
        have h0 := (mem_ready.1 hr).1
        rw [heq] at h1
        rcases Nat.lt_or_ge i listed.size with h' | h'
        · simp [h'] at h0 h1; rw [h0] at h1; cases h1
        · simp [Array.getElem?_eq_none h'] at h1
      obtain ⟨a1, a2, a3⟩ := Oper.apart_spec (hfree j oj hoj hji hjun hnot)
      have hsi : ∀ cs b, oi.op ≠ .select cs b := fun cs b => hsel i oi cs b hi
      have hsj : ∀ cs b, oj.op ≠ .select cs b := fun cs b => hsel j oj cs b hoj
      have hfree' : ∀ k ok, ops[k]? = some ok → k ≠ i → (listed.setIfInBounds j true).getD k true = false →
          (∀ e ∈ ok.after, Region.binds md e = true → e.on ≠ i) → oi.apart ops ok = true := fun k ok hk hki hun hno => by
        refine hfree k ok hk hki ?_ hno
        by_cases hjk : j = k
        · subst hjk; exact hjun
        · rw [getD_set_ne true hjk] at hun; exact hun
      -- what i leaves, then j
      have step : ∀ v, wpAnyV P md ops C S Q (fuel + 1) (listed.setIfInBounds i true) (a.put oi.dst v) →
          goV P ops C (S j) oj (wpAnyV P md ops C S Q fuel ((listed.setIfInBounds i true).setIfInBounds j true)) (a.put oi.dst v) := fun v h => by
        have h1 := h.2 j (ready_mono hj hji)
        unfold opV at h1
        rw [hoj] at h1
        exact h1
      -- at a, put u at j: i goes as it did
      have back : ∀ u, (∀ v, wpAnyV P md ops C S Q (fuel + 1) (listed.setIfInBounds i true) (a.put oi.dst v) → wpAnyV P md ops C S Q fuel ((listed.setIfInBounds i true).setIfInBounds j true) ((a.put oi.dst v).put oj.dst u)) →
          wpAnyV P md ops C S Q (fuel + 1) (listed.setIfInBounds j true) (a.put oj.dst u) := fun u hu => by
        refine ih (listed.setIfInBounds j true) (a.put oj.dst u) hfree' (ready_mono hr (Ne.symm hji)) ?_
        unfold goV at H ⊢
        rw [wanted_put oi a oj.dst u a3]
        rw [Array.setIfInBounds_comm _ _ hji]
        by_cases hw : Region.wanted oi (yielded ops a.tmps) = true
        · rw [if_pos hw] at H ⊢
          obtain ⟨g1, g2, g3⟩ := H
          refine ⟨g1, fun w hw' => ?_, fun v hv => ?_⟩
          · rw [execOp_put oi hsi a oj.dst u a3]; exact g2 w hw'
          · rw [← Act.put_comm a v u a2]; exact hu v (g3 v hv)
        · rw [if_neg hw] at H ⊢
          rw [← Act.put_comm a undef u a2]; exact hu _ H
      obtain ⟨v0, hv0⟩ := hE H
      have h0 := step v0 hv0
      unfold opV
      rw [hoj]
      show goV P ops C (S j) oj (wpAnyV P md ops C S Q (fuel + 1) (listed.setIfInBounds j true)) a
      unfold goV at h0 ⊢
      rw [wanted_put oj a oi.dst v0 a1] at h0
      by_cases hw : Region.wanted oj (yielded ops a.tmps) = true
      · rw [if_pos hw] at h0 ⊢
        obtain ⟨g1, g2, _⟩ := h0
        refine ⟨g1, fun w hw' => ?_, fun u hu => back u (fun v hv => ?_)⟩
        · have := g2 w hw'
          rwa [execOp_put oj hsj a oi.dst v0 a1] at this
        · have h1 := step v hv
          unfold goV at h1
          rw [wanted_put oj a oi.dst v a1, if_pos hw] at h1
          exact h1.2.2 u hu
      · rw [if_neg hw] at h0 ⊢
        refine back undef (fun v hv => ?_)
        have h1 := step v hv
        unfold goV at h1
        rw [wanted_put oj a oi.dst v a1, if_neg hw] at h1
        exact h1

theorem wpAnyV_lex {Q : Act → Prop} (S : Nat → Value → Prop) (hs : Region.noSelect ops = true) : ∀ (l : List Oper) (Vs : List (Value → Prop)) (k : Nat) (listed : Array Bool) (a : Act), (∀ j, l[j]? = ops[k + j]?) →
    (∀ j, Vs.getD j (fun _ => True) = S (k + j)) → Region.lexFrom md ops l.length k listed = true → wpV P ops C Q l Vs a → wpAnyV P md ops C S Q l.length listed a
  | [], _, _, _, _, _, _, hB, h => ⟨by simpa [Region.lexFrom] using hB, h⟩
  | o :: l, Vs, k, listed, a, hl, hS, hB, h => by
    have h0 : ops[k]? = some o := by simpa using (hl 0).symm
    simp only [List.length_cons, Region.lexFrom, Bool.and_eq_true] at hB
    obtain ⟨⟨hr, hf⟩, hB'⟩ := hB
    have hS0 : Vs.headD (fun _ => True) = S k := by have := hS 0; cases Vs <;> simpa using this
    refine wpAnyV_first h0 (Region.noSelect_spec hs) l.length listed a (Region.free_spec h0 hf) (by simpa using hr) ?_
    have ih : ∀ a', wpV P ops C Q l Vs.tail a' → wpAnyV P md ops C S Q l.length (listed.setIfInBounds k true) a' := fun a' h' =>
      wpAnyV_lex S hs l Vs.tail (k + 1) _ a' (fun j => by have := hl (j + 1); simpa [Nat.add_assoc, Nat.add_comm 1 j] using this)
        (fun j => by have := hS (j + 1); cases Vs <;> simp [Nat.add_assoc, Nat.add_comm 1 j] at this ⊢ <;> exact this) hB' h'
    unfold wpV goV at h
    unfold goV
    rw [hS0] at h
    by_cases hw : Region.wanted o (yielded ops a.tmps) = true
    · rw [if_pos hw] at h ⊢
      exact ⟨h.1, h.2.1, fun v hv => ih _ (h.2.2 v hv)⟩
    · rw [if_neg hw] at h ⊢
      exact ih _ h

/-- the region -/
theorem wp_region_V {id : Nat} {Q : Exit → Act → World → Prop} {a : Act} {w : World} {l : List Oper} (C : World → Prop) (Vs : List (Value → Prop)) (hm : P.follows .mixedOrders = true) (hB : Region.lexB .any l.toArray = true) (hC : C w.drew)
    (h : wpV P l.toArray C (fun a' => ∀ w', C w' → Q .normal a' w') l Vs a) : (Code.region id l.toArray true).wp P Q a w := by
  simp only [Region.lexB, Bool.and_eq_true] at hB
  refine wp_region_any hm (wpAny_of_V (S := fun i => Vs.getD i (fun _ => True)) (Q := fun a' => ∀ w', C w' → Q .normal a' w') (fun _ w' hw' h => h w' hw') _ _ _ _ hC ?_)
  have := wpAnyV_lex (P := P) (C := C) (md := .any) (fun i => Vs.getD i (fun _ => True)) hB.1 l Vs 0 (Array.replicate l.length false) a (by simp) (fun j => by simp) (by simpa using hB.2) h
  simpa using this

theorem wpV_nil {Q : Act → Prop} {a : Act} (h : Q a) : wpV P ops C Q [] [] a := h
/-- a set -/
theorem wpV_set {Q : Act → Prop} {o : Oper} {rest : List Oper} {V : Value → Prop} {Vs : List (Value → Prop)} {a : Act} (hw : Region.wanted o (yielded ops a.tmps) = true) (hv : ∃ v, V v)
    (h : ∀ w, C w → uponV P C V ((execOp a.eval o).run P w)) (hn : ∀ v, V v → wpV P ops C Q rest Vs (a.put o.dst v)) : wpV P ops C Q (o :: rest) (V :: Vs) a := by
  unfold wpV goV
  rw [if_pos hw]
  exact ⟨hv, h, hn⟩
/-- one value -/
theorem wpV_one {Q : Act → Prop} {o : Oper} {rest : List Oper} (v : Value) {Vs : List (Value → Prop)} {a : Act} (hw : Region.wanted o (yielded ops a.tmps) = true)
    (h : ∀ w, C w → uponV P C (fun x => x = v) ((execOp a.eval o).run P w)) (hn : wpV P ops C Q rest Vs (a.put o.dst v)) : wpV P ops C Q (o :: rest) ((fun x => x = v) :: Vs) a :=
  wpV_set hw ⟨v, rfl⟩ h (fun u hu => by rw [hu]; exact hn)
/-- none -/
theorem wpV_skip {Q : Act → Prop} {o : Oper} {rest : List Oper} {Vs : List (Value → Prop)} {a : Act} (hw : Region.wanted o (yielded ops a.tmps) = false)
    (hn : wpV P ops C Q rest Vs (a.put o.dst undef)) : wpV P ops C Q (o :: rest) ((fun x => x = undef) :: Vs) a := by
  unfold wpV goV
  rw [if_neg (by rw [hw]; decide)]
  exact hn
/-- some sets -/
def wpX (P : Program) (ops : Array Oper) (C : World → Prop) (Q : Act → Prop) (l : List Oper) (a : Act) : Prop := ∃ Vs, wpV P ops C Q l Vs a
theorem wp_region_X {id : Nat} {Q : Exit → Act → World → Prop} {a : Act} {w : World} {l : List Oper} (C : World → Prop) (hm : P.follows .mixedOrders = true) (hB : Region.lexB .any l.toArray = true) (hC : C w.drew)
    (h : wpX P l.toArray C (fun a' => ∀ w', C w' → Q .normal a' w') l a) : (Code.region id l.toArray true).wp P Q a w := h.elim fun Vs h => wp_region_V C Vs hm hB hC h
section
variable {Q : Act → Prop} {o : Oper} {rest : List Oper} {a : Act}
theorem wpX_nil (h : Q a) : wpX P ops C Q [] a := ⟨[], wpV_nil h⟩
theorem wpX_skip (hw : Region.wanted o (yielded ops a.tmps) = false) (hn : wpX P ops C Q rest (a.put o.dst undef)) : wpX P ops C Q (o :: rest) a := hn.elim fun _ h => ⟨_, wpV_skip hw h⟩
/-- one value, the world left as it is -/
theorem wpX_val (v : Value) (hw : Region.wanted o (yielded ops a.tmps) = true) (h : ∀ w, C w → (execOp a.eval o).run P w = .ok (.value v) w) (hn : wpX P ops C Q rest (a.put o.dst v)) : wpX P ops C Q (o :: rest) a :=
  hn.elim fun Vs hn => ⟨_, wpV_one v hw (fun w hC => by rw [h w hC]; exact ⟨hC, rfl⟩) hn⟩
/-- a call that hands back one value and leaves a world of the class -/
theorem wpX_call (v : Value) {f : FuncId} {args : Array Value} (hw : Region.wanted o (yielded ops a.tmps) = true)
    (h : ∀ w, C w → (execOp a.eval o).run P w = .ok (.enter f args) w) (hc : ∀ w, C w → Calls P f args w fun e w' => e = .returned v ∧ C w') (hn : wpX P ops C Q rest (a.put o.dst v)) : wpX P ops C Q (o :: rest) a :=
  hn.elim fun Vs hn => ⟨_, wpV_one v hw (fun w hC => by rw [h w hC]; exact (hc w hC).mono fun e w' h => ⟨v, h.1, rfl, h.2⟩) hn⟩
end
section
variable {Q : Act → Prop} {o : Oper} {rest : List Oper} {V : Value → Prop} {a : Value → Act}
end
end
end Go.Proofs.YtodnkkmjjlfoiaaGreat

/- what the laws' helpers do: copy, compare, mark, look whether the mark is held -/
namespace Go.Proofs.YtodnkkmjjlfoiaaGreat
open Go.RowKit

def marks (k : Int) (n : Nat) : List Int := (List.range n).map (fun i : Nat => k + (i : Int))
theorem RI.cellAt {A : Nat → Prop} {w : World} {a : Option Addr} {n cap : Nat} {l : List Int} (h : RI A w (.slice a n cap) l) (hl : l ≠ []) :
    ∃ b off, a = some ⟨b, off, none⟩ ∧ ¬ A b ∧ b < w.heap.size ∧ ∀ i, i < l.length → w.cell? ⟨b, off + i, none⟩ = some (.int .i64 (l.getD i 0)) := by
  obtain ⟨a', cap', he, _, _, _, _, hc⟩ := h
  simp only [Value.slice.injEq] at he
  obtain ⟨rfl, rfl, rfl⟩ := he
  exact hc hl

end Go.Proofs.YtodnkkmjjlfoiaaGreat

/- slices of any cells, read ('RF') and owned ('OS'); slices of slices of int, read ('RII') and owned ('OII') -/
namespace Go.Proofs.YtodnkkmjjlfoiaaGreat
open Go.RowKit

/-- v is a slice of n elements of sz cells each; its cells are cs; it lies in no block of A -/
def RF (A : Nat → Prop) (w : World) (v : Value) (sz n : Nat) (cs : List Value) : Prop :=
  ∃ a cap, v = .slice a n cap ∧ n ≤ cap ∧ cap ≤ 9223372036854775807 ∧ cs.length = n * sz ∧ (a = none → cap = 0) ∧
    (0 < n → ∃ b off, a = some ⟨b, off, none⟩ ∧ ¬ A b ∧ b < w.heap.size ∧ ∀ i, i < cs.length → w.cell? ⟨b, off + i, none⟩ = some (cs.getD i undef))
theorem RF.step {A T : Nat → Prop} {w w' : World} {v : Value} {sz n : Nat} {cs : List Value} (h : RF A w v sz n cs) (hc : Chg T w w') (hT : ∀ k, T k → A k) : RF A w' v sz n cs := by
  obtain ⟨a, cap, rfl, h1, h2, h3, h0, h4⟩ := h
  refine ⟨a, cap, rfl, h1, h2, h3, h0, fun hl => ?_⟩
  obtain ⟨b, off, rfl, hA, hb, hcell⟩ := h4 hl
  exact ⟨b, off, rfl, hA, Nat.lt_of_lt_of_le hb hc.size, fun i hi => (hc.cellD b (off + i) hb (fun ht => hA (hT b ht))).trans (hcell i hi)⟩
theorem RF.keep {A : Nat → Prop} {w w' : World} {v : Value} {sz n : Nat} {cs : List Value} (h : RF A w v sz n cs) (hc : Chg No w w') : RF A w' v sz n cs := h.step hc (fun _ hk => hk.elim)
theorem RF.weak {A B : Nat → Prop} {w : World} {v : Value} {sz n : Nat} {cs : List Value} (h : RF A w v sz n cs) (hB : ∀ k, B k → k < w.heap.size → A k) : RF B w v sz n cs := by
  obtain ⟨a, cap, rfl, h1, h2, h3, h0, h4⟩ := h
  refine ⟨a, cap, rfl, h1, h2, h3, h0, fun hl => ?_⟩
  obtain ⟨b, off, rfl, hA, hb, hcell⟩ := h4 hl
  exact ⟨b, off, rfl, fun hk => hA (hB b hk hb), hb, hcell⟩
theorem RF.to {A B S : Nat → Prop} {w w' : World} {v : Value} {sz n : Nat} {cs : List Value} (h : RF A w v sz n cs) (hc : Chg S w w') (hS : ∀ q, S q → A q) (hB : ∀ q, B q → A q ∨ w.heap.size ≤ q) : RF B w' v sz n cs := by
  obtain ⟨a, cap, rfl, h1, h2, h3, h0, h4⟩ := h
  refine ⟨a, cap, rfl, h1, h2, h3, h0, fun hl => ?_⟩
  obtain ⟨b, off, rfl, hA, hb, hcell⟩ := h4 hl
  refine ⟨b, off, rfl, fun hk => ?_, Nat.lt_of_lt_of_le hb hc.size, fun i hi => (hc.cellD b (off + i) hb (fun ht => hA (hS b ht))).trans (hcell i hi)⟩
  rcases hB b hk with h | h
  · exact hA h
  · omega
theorem RF.shape {A : Nat → Prop} {w : World} {v : Value} {sz n : Nat} {cs : List Value} (h : RF A w v sz n cs) : ∃ a cap, v = .slice a n cap := by
  obtain ⟨a, cap, h, _⟩ := h; exact ⟨_, _, h⟩
/-- what is known of a slice's type and of its elements' -/
structure El (T E : TypeId) (z : Value) (sz bytes : Nat) : Prop where
  und : Tryz.prog.underlying T = some (.slice E)
  info : ∃ i, Tryz.prog.info? E = some i ∧ i.zero = some z ∧ i.size = sz ∧ i.bytes = bytes
  zs : z.cells.size = sz
  pos : 0 < sz
theorem El.mk' {T E : TypeId} {z : Value} {sz bytes : Nat} (h1 : Tryz.prog.underlying T = some (.slice E)) (h2 : (Tryz.prog.info? E).map (fun i => (i.zero, i.size, i.bytes)) = some (some z, sz, bytes)) (h3 : z.cells.size = sz) (h4 : 0 < sz) : El T E z sz bytes := by
  obtain ⟨i0, hi, hz0, hz1, hz2⟩ := info_parts h2
  exact ⟨h1, ⟨i0, hi, hz0, hz1, hz2⟩, h3, h4⟩

/-- v is a slice of n elements that the call owns, in a block from base on -/
def OS (E : TypeId) (sz base : Nat) (w : World) (v : Value) (n : Nat) (cs : List Value) : Prop := n ≤ 1099511627776 ∧ w.ownsRow base E sz v n cs
theorem OS.nil (E : TypeId) (sz base : Nat) (w : World) : OS E sz base w (.slice none 0 0) 0 [] := ⟨by simp, World.ownsRow_nil _ _ _ _⟩
theorem OS.zero {E : TypeId} {sz base : Nat} {w : World} (hb : base ≤ w.heap.size) : OS E sz base (w.alloc (.cells #[] E)) (.slice (some ⟨w.heap.size, 0, none⟩) 0 0) 0 [] :=
  ⟨by simp, World.ownsRow_made w #[] 0 hb (by unfold maxLen; omega) (by simp)⟩
theorem OS.lit {E : TypeId} {sz base : Nat} {w : World} (cs : Array Value) (n : Nat) (hb : base ≤ w.heap.size) (hn : n ≤ 1099511627776) (hs : cs.size = n * sz) : OS E sz base (w.alloc (.cells cs E)) (.slice (some ⟨w.heap.size, 0, none⟩) n n) n cs.toList :=
  ⟨hn, World.ownsRow_lit w cs n hb (by unfold maxLen; omega) hs⟩
theorem OS.len {E : TypeId} {sz base : Nat} {w : World} {v : Value} {n : Nat} {cs : List Value} (h : OS E sz base w v n cs) : n ≤ 1099511627776 := h.1
theorem OS.cl {E : TypeId} {sz base : Nat} {w : World} {v : Value} {n : Nat} {cs : List Value} (h : OS E sz base w v n cs) : cs.length = n * sz := h.2.1
theorem OS.lt {E : TypeId} {sz base : Nat} {w : World} {v : Value} {n : Nat} {cs : List Value} (h : OS E sz base w v n cs) (k : Nat) (hk : own v k) : base ≤ k ∧ k < w.heap.size := h.2.lt k hk
theorem OS.step {E : TypeId} {sz base : Nat} {w w' : World} {v : Value} {n : Nat} {cs : List Value} {T : Nat → Prop} (h : OS E sz base w v n cs) (hc : Chg T w w') (hT : ∀ k, own v k → ¬ T k) : OS E sz base w' v n cs := by
  refine ⟨h.1, h.2.1, ?_⟩
  rcases h.2.2 with hn | ⟨g, cap, cur, rfl, hb, hg, rest⟩
  · exact .inl hn
  · refine .inr ⟨g, cap, cur, rfl, hb, ?_, rest⟩
    rw [hc.block g (Array.getElem?_eq_some_iff.1 hg).1 (hT g rfl)]
    exact hg
theorem OS.keep {E : TypeId} {sz base : Nat} {w w' : World} {v : Value} {n : Nat} {cs : List Value} (h : OS E sz base w v n cs) (hc : Chg No w w') : OS E sz base w' v n cs := h.step hc (fun _ _ hk => hk)
theorem OS.alloc {E : TypeId} {sz base : Nat} {w : World} {v : Value} {n : Nat} {cs : List Value} (h : OS E sz base w v n cs) (o : Obj) : OS E sz base (w.alloc o) v n cs := h.keep ((Chg.refl No w).alloc o)
theorem OS.weak {E : TypeId} {sz base base' : Nat} {w : World} {v : Value} {n : Nat} {cs : List Value} (h : OS E sz base w v n cs) (hb : base' ≤ base) : OS E sz base' w v n cs := by
  refine ⟨h.1, h.2.1, ?_⟩
  rcases h.2.2 with hn | ⟨g, cap, cur, rfl, hb', hg, rest⟩
  · exact .inl hn
  · exact .inr ⟨g, cap, cur, rfl, Nat.le_trans hb hb', hg, rest⟩
theorem OS.view {E : TypeId} {sz base : Nat} {w : World} {v : Value} {n : Nat} {cs : List Value} (h : OS E sz base w v n cs) : ∃ a cap, v = .slice a n cap ∧ n ≤ cap ∧ cap ≤ 9223372036854775807 ∧ (a = none → cap = 0) ∧
    (0 < cap → ∃ g, a = some ⟨g, 0, none⟩ ∧ base ≤ g ∧ g < w.heap.size ∧ (∀ i, i < cs.length → w.cell? ⟨g, i, none⟩ = some (cs.getD i undef)) ∧ ∀ i, w.frozen? ⟨g, i, none⟩ = false) := by
  obtain ⟨hl, hlen, hc⟩ := h
  rcases hc with ⟨rfl, h0⟩ | ⟨g, cap, cur, rfl, hb, hg, hn, hm, hs, ht⟩
  · exact ⟨none, 0, by rw [h0], by omega, by omega, fun _ => rfl, fun h => absurd h (by omega)⟩
  · have hO : w.ownsRow base E sz (.slice (some ⟨g, 0, none⟩) n cap) n cs := ⟨hlen, .inr ⟨g, cap, cur, rfl, hb, hg, hn, hm, hs, ht⟩⟩
    unfold maxLen at hm
    refine ⟨_, _, rfl, hn, by omega, by simp, fun _ => ⟨g, rfl, hb, (Array.getElem?_eq_some_iff.1 hg).1, fun i hi => ?_, fun i => hO.frozenAt i⟩⟩
    rw [hO.cellAt i (by omega)]
    simp [List.getD_eq_getElem?_getD, List.getElem?_eq_getElem hi]
theorem OS.read {E : TypeId} {sz base : Nat} {w : World} {v : Value} {n : Nat} {cs : List Value} (h : OS E sz base w v n cs) {A : Nat → Prop} (hA : ∀ k, own v k → ¬ A k) : RF A w v sz n cs := by
  have hcl := h.cl
  obtain ⟨a, cap, rfl, h1, h2, h3, h4⟩ := h.view
  refine ⟨a, cap, rfl, h1, h2, hcl, h3, fun hn => ?_⟩
  obtain ⟨g, rfl, _, hg, hc, _⟩ := h4 (by omega)
  exact ⟨g, 0, rfl, hA g rfl, hg, fun i hi => by rw [Nat.zero_add]; exact hc i hi⟩
theorem OS.readNo {E : TypeId} {sz base : Nat} {w : World} {v : Value} {n : Nat} {cs : List Value} (h : OS E sz base w v n cs) : RF No w v sz n cs := h.read (fun _ _ e => e)
theorem OS.at {E : TypeId} {sz base : Nat} {w : World} {g m cap n : Nat} {cs : List Value} (h : OS E sz base w (.slice (some ⟨g, 0, none⟩) m cap) n cs) :
    (∀ i, i < cs.length → w.cell? ⟨g, i, none⟩ = some (cs.getD i undef)) ∧ (∀ i, w.frozen? ⟨g, i, none⟩ = false) ∧ base ≤ g ∧ g < w.heap.size ∧ m = n ∧ n ≤ cap ∧ cap ≤ 9223372036854775807 := by
  have hb := h.lt g (by simp [own, Value.ownBlock])
  obtain ⟨hl, hlen, hc⟩ := h
  rcases hc with ⟨he, _⟩ | ⟨g', cap', cur, he, hb', hg, hn, hm, hs, ht⟩
  · simp at he
  · simp only [Value.slice.injEq, Option.some.injEq, Addr.mk.injEq, and_true] at he
    obtain ⟨rfl, rfl, rfl⟩ := he
    have hO : w.ownsRow base E sz (.slice (some ⟨g, 0, none⟩) m cap) m cs := ⟨hlen, .inr ⟨g, cap, cur, rfl, hb', hg, hn, hm, hs, ht⟩⟩
    unfold maxLen at hm
    refine ⟨fun i hi => ?_, fun i => hO.frozenAt i, hb.1, hb.2, rfl, hn, by omega⟩
    rw [hO.cellAt i (by omega)]
    simp [List.getD_eq_getElem?_getD, List.getElem?_eq_getElem hi]
theorem OS.store {E : TypeId} {sz base : Nat} {w : World} {g m cap n : Nat} {cs : List Value} (h : OS E sz base w (.slice (some ⟨g, 0, none⟩) m cap) n cs) (i : Nat) (x : Value) :
    OS E sz base (w.setCell ⟨g, i, none⟩ x) (.slice (some ⟨g, 0, none⟩) m cap) n (cs.set i x) ∧ Chg (fun k => k = g) w (w.setCell ⟨g, i, none⟩ x) := by
  obtain ⟨_, _, _, _, rfl, _⟩ := h.at
  obtain ⟨h1, h2⟩ := h.2.stored i x
  exact ⟨⟨h.1, h1⟩, ⟨h2.os, h2.tape, h2.output, h2.size, fun k hk hs => h2.block k hk (fun e => hs (Option.some.inj e))⟩⟩
theorem chg_ownS {S : Nat → Prop} {w0 w w' : World} {E : TypeId} {sz base : Nat} {v : Value} {n : Nat} {cs : List Value} (h : Chg S w0 w) (h2 : Chg (own v) w w') (ho : OS E sz base w v n cs) (hb : w0.heap.size ≤ base) : Chg S w0 w' :=
  h.step h2 (fun k hk hl => by have := (ho.lt k hk).1; omega)

/-- append(s, x...) -/
theorem run_appS {w : World} {T E : TypeId} {z : Value} {sz bytes : Nat} (t : El T E z sz bytes) (hby : bytes ≤ 128) (ty : TypeId) {base : Nat} {v xv : Value} {n m : Nat} {cs ds : List Value} (hown : OS E sz base w v n cs) (hx : RF No w xv sz m ds) (h1 : ∀ u ∈ ds, u.oneCell' = true)
    (hl : n + m ≤ 1099511627776) (hbase : base ≤ w.heap.size) :
    ∃ v' w', (Builtin.append_ #[T, T] ty #[v, xv]).run Tryz.prog w = .ok v' w' ∧ OS E sz base w' v' (n + m) (cs ++ ds) ∧ Chg (own v) w w' ∧ (∀ k, own v' k → own v k ∨ w.heap.size ≤ k) := by
  obtain ⟨i0, hi, hz0, hz1, hz2⟩ := t.info
  have hb1 : (n + m) * bytes ≤ 140737488355328 := Nat.le_trans (Nat.mul_le_mul hl hby) (by omega)
  obtain ⟨ao, c, rfl, hx1, hx2, hx3, hx0, hx4⟩ := hx
  cases ao with
  | none =>
    have hc0 := hx0 rfl
    subst hc0
    have hm0 : m = 0 := by omega
    subst hm0
    have hd0 : ds = [] := List.eq_nil_of_length_eq_zero (by omega)
    subst hd0
    refine ⟨v, w, run_append_owned_none (P := Tryz.prog) w base T ty E i0 sz t.und hi _ _ _ hown.2, by simpa using hown, Chg.refl _ _, fun k hk => .inl hk⟩
  | some ad =>
    have hnews : ∀ j u, ds[j]? = some u → w.cell? (ad.add j) = some u := by
      intro j u hj
      have hjl : j < ds.length := (List.getElem?_eq_some_iff.1 hj).1
      have hm0 : 0 < m := by
        rcases Nat.eq_zero_or_pos m with h | h
        · subst h; simp at hx3; subst hx3; simp at hjl
        · exact h
      obtain ⟨b, off, he, _, _, hcell⟩ := hx4 hm0
      obtain rfl := Option.some.inj he
      rw [Addr.add_lit, hcell j hjl, List.getD_eq_getElem?_getD, hj]
      rfl
    obtain ⟨v', w', hr, ho, hg, _⟩ := run_append_own (P := Tryz.prog) w base T ty E i0 z sz bytes t.und hi hz0 hz1 hz2 t.zs t.pos v n _ hown.2 ad m c ds hx3 hnews h1 (by unfold maxLen; omega) hb1 hbase
    refine ⟨v', w', hr, ⟨hl, ho⟩, Chg.grown hg, fun k hk => ?_⟩
    rcases hown.2.2 with ⟨rfl, h0⟩ | ⟨g, cap, cur, rfl, hbg, hgg, hnc, hcm, hcs, htake⟩
    · subst h0
      have hc0 : cs = [] := List.eq_nil_of_length_eq_zero (by have := hown.cl; omega)
      subst hc0
      obtain ⟨v2, w2, hr2, ho2, _, _⟩ := run_append_own (P := Tryz.prog) w w.heap.size T ty E i0 z sz bytes t.und hi hz0 hz1 hz2 t.zs t.pos _ 0 _ (World.ownsRow_nil _ _ _ _) ad m c ds hx3 hnews h1 (by unfold maxLen; omega) hb1 (Nat.le_refl _)
      rw [hr] at hr2
      simp only [Result.ok.injEq] at hr2
      obtain ⟨rfl, rfl⟩ := hr2
      exact .inr (ho2.lt k hk).1
    · by_cases hroom : n + m ≤ cap
      · obtain ⟨w2, hr2, _, _⟩ := run_append_fits (P := Tryz.prog) w base T ty E i0 sz t.und hi hz1 g n cap _ hown.2 ad m c ds hx3 hnews h1 hroom
        rw [hr] at hr2
        simp only [Result.ok.injEq] at hr2
        obtain ⟨rfl, rfl⟩ := hr2
        exact .inl (by rw [own_slice] at hk ⊢; exact hk)
      · have hfit : Builtin.nextslicecap (n + m) cap * i0.bytes ≤ 281474976710656 := by rw [hz2]; exact growslice_fits (by omega) (by omega)
        have hr2 := run_append_grow (P := Tryz.prog) w T ty E i0 z t.und hi hz0 ⟨g, 0, none⟩ n cap cs (by rw [hown.cl, hz1])
          (hown.2.cells (g := g) rfl) ad m c ds (by rw [hx3, hz1]) hnews (by omega) (by omega) hfit
        rw [hr] at hr2
        simp only [Result.ok.injEq] at hr2
        obtain ⟨rfl, rfl⟩ := hr2
        rw [own_slice] at hk
        exact .inr (by omega)

theorem wappS {ops : Array Oper} {rest : List Oper} {o : Oper} {a : Act} {Q : Exit → Act → World → Prop} {w : World} {T E : TypeId} {z : Value} {sz bytes : Nat} (t : El T E z sz bytes) (hby : bytes ≤ 128) (hgd : o.guard = none) (s x : Operand)
    (ho : o.op = .call { callee := .builtin .append, args := #[s, x], argTypes := #[T, T] })
    {base : Nat} {v xv : Value} {n m : Nat} {cs ds : List Value} (hown : OS E sz base w v n cs) (hxr : RF No w xv sz m ds) (h1 : ∀ u ∈ ds, u.oneCell' = true) (hs : a.eval s = v) (hx : a.eval x = xv) (hl : n + m ≤ 1099511627776) (hbase : base ≤ w.heap.size)
    (h : ∀ v' w', OS E sz base w' v' (n + m) (cs ++ ds) → Chg (own v) w w' → (∀ k, own v' k → own v k ∨ w.heap.size ≤ k) → wpList Tryz.prog ops Q rest (a.put o.dst v') w') : wpList Tryz.prog ops Q (o :: rest) a w := by
  obtain ⟨v', w', hr, h1, h2, h3⟩ := run_appS t hby o.type hown hxr h1 hl hbase
  refine wpList_plain hgd fun _ hK => ?_
  unfold Oper.wp execOp
  simp only [ho, resolve, invoke, builtin, Sem.run_bind, Sem.run_pure, Result.andThen_ok, List.map_toArray, List.map_cons, List.map_nil, hs, hx, hr]
  exact hK _ _ (h v' w' h1 h2 h3)

/-- append(s, e): the element's cells lie in the block that was made last -/
theorem wappS1 {ops : Array Oper} {rest : List Oper} {o : Oper} {a : Act} {Q : Exit → Act → World → Prop} {w : World} {T E : TypeId} {z : Value} {sz bytes : Nat} (t : El T E z sz bytes) (hby : bytes ≤ 128) (hgd : o.guard = none) (s x : Operand)
    (ho : o.op = .call { callee := .builtin .append, args := #[s, x], argTypes := #[T, T] })
    {base : Nat} {v : Value} {n : Nat} {cs : List Value} {ds : Array Value} {e : TypeId} (hown : OS E sz base w v n cs) (hd : ds.size = sz) (h1 : ∀ u ∈ ds.toList, u.oneCell' = true) (hs : a.eval s = v) (hx : a.eval x = .slice (some ⟨w.heap.size, 0, none⟩) 1 1)
    (hl : n < 1099511627776) (hbase : base ≤ w.heap.size)
    (h : ∀ v' w', OS E sz base w' v' (n + 1) (cs ++ ds.toList) → Chg (own v) w w' → (∀ k, own v' k → own v k ∨ w.heap.size ≤ k) → wpList Tryz.prog ops Q rest (a.put o.dst v') w') :
    wpList Tryz.prog ops Q (o :: rest) a (w.alloc (.cells ds e)) := by
  have hr : RF No (w.alloc (.cells ds e)) (.slice (some ⟨w.heap.size, 0, none⟩) 1 1) sz 1 ds.toList :=
    ⟨_, _, rfl, Nat.le_refl _, by omega, by simp [hd], by simp, fun _ => ⟨w.heap.size, 0, rfl, fun e => e, by simp, fun i hi => by
      rw [World.cell?_alloc_new]
      have hi' : i < ds.size := by simpa using hi
      simp [List.getD_eq_getElem?_getD, hi']⟩⟩
  refine wappS t hby hgd s x ho (hown.alloc _) hr h1 hs hx (by omega) (by simp; omega) (fun v' w' h1 h2 h3 => ?_)
  refine h v' w' h1 (((Chg.refl (own v) w).alloc _).trans h2) (fun k hk => ?_) |> fun x => x
  rcases h3 k hk with h | h
  · exact .inl h
  · simp at h
    exact .inr (by omega)

end Go.Proofs.YtodnkkmjjlfoiaaGreat
