import Derived.Test.YtdgcohoneijleaaGreatDoorBase
namespace Go.Proofs.YtdgcohoneijleaaGreatDoor
open Go.RowKit
section
variable {P : Program} {ops : Array Oper} {Q : Exit → Act → World → Prop} {md : Region.Mode} {S : World → Prop}
def wpAnyK (P : Program) (md : Region.Mode) (ops : Array Oper) (Q : Exit → Act → World → Prop) (S : World → Prop) (k : Nat) : Nat → Array Bool → Act → World → Prop
 | 0, listed, a, w => Region.ready md ops listed = [] ∧ Q .normal a w
 | f + 1, listed, a, w => (Region.ready md ops listed = [] → Q .normal a w) ∧
  ∀ i ∈ Region.ready md ops listed, wpOp P ops Q i (fun a' w' => ((listed.setIfInBounds i true).getD k true = false → S w') ∧ wpAnyK P md ops Q S k f (listed.setIfInBounds i true) a' w') a w
theorem wpAny_of_K {k : Nat} : ∀ (f : Nat) (listed : Array Bool) (a : Act) (w : World), wpAnyK P md ops Q S k f listed a w → wpAny P md ops Q f listed a w
 | 0, _, _, _, h => h
 | f + 1, _, _, _, h => ⟨h.1, fun i hi => wpOp_mono (fun a' w' h' => wpAny_of_K f _ a' w' h'.2) (h.2 i hi)⟩
theorem getD_set_in {listed : Array Bool} {i k : Nat} (h : (listed.setIfInBounds i true).getD k true = false) : listed.getD k true = false := by
 by_cases hik : i = k
 ·subst hik
  by_cases hs : i < listed.size
  ·simp [hs] at h
  ·simp [Array.setIfInBounds, hs] at h
 ·rwa [getD_set_ne true hik] at h
theorem wpAnyK_of_any {k : Nat} : ∀ (f : Nat) (listed : Array Bool) (a : Act) (w : World), listed.getD k true = true → wpAny P md ops Q f listed a w → wpAnyK P md ops Q S k f listed a w
 | 0, _, _, _, _, h => h
 | f + 1, listed, _, _, hl, h => ⟨h.1, fun i hi => wpOp_mono (fun a' w' h' => by
   have e : (listed.setIfInBounds i true).getD k true = true := by
    cases hc : (listed.setIfInBounds i true).getD k true with
    | true => rfl
    | false => rw [getD_set_in hc] at hl; cases hl
   exact ⟨fun h0 => by (rw [e] at h0; cases h0), wpAnyK_of_any f _ a' w' e h'⟩) (h.2 i hi)⟩
theorem wpAnyK_first {k i : Nat} {oi : Oper} {v : Value} (hi : ops[i]? = some oi) (hsel : ∀ (j : Nat) (o : Oper) cs b, ops[j]? = some o → o.op ≠ .select cs b)
  (hQ : ∀ c a w, Q (.panic c) (a.put oi.dst v) w → Q (.panic c) a w) (hk : Region.waitsFor md ops k i = true) (hki : k ≠ i) :
  ∀ (f : Nat) (listed : Array Bool) (a : Act) (w : World),
   (∀ j oj, ops[j]? = some oj → j ≠ i → listed.getD j true = false → (∀ e ∈ oj.after, Region.binds md e = true → e.on ≠ i) → oi.apart ops oj = true) →
   i ∈ Region.ready md ops listed → listed.getD k true = false → YieldsIf P ops S oi v a → S w →
   wpAnyK P md ops Q S k f (listed.setIfInBounds i true) (a.put oi.dst v) w → wpAnyK P md ops Q S k (f + 1) listed a w := by
 intro f
 induction f with
 | zero =>
  intro listed a w _ hr hl hy hS H
  refine ⟨fun h => (by rw [h] at hr; cases hr), fun j hj => ?_⟩
  by_cases hji : j = i
  ·subst hji; exact hy.wpOp hi hS ⟨fun _ => hS, H⟩
  ·have := ready_mono hj hji
   rw [H.1] at this
   cases this
 | succ f ih =>
  intro listed a w hfree hr hl hy hS H
  refine ⟨fun h => (by rw [h] at hr; cases hr), fun j hj => ?_⟩
  by_cases hji : j = i
  ·subst hji; exact hy.wpOp hi hS ⟨fun _ => hS, H⟩
  ·have hun : listed.getD i false = false := getD_both (mem_ready.1 hr).1
   have hjk : j ≠ k := fun e => by
    subst e
    obtain ⟨_, oj, hoj, hall⟩ := mem_ready.1 hj
    obtain ⟨oj', hoj', e, he, hb, hon⟩ := Region.waitsFor_spec hk
    have : oj' = oj := Option.some.inj (hoj'.symm.trans hoj)
    subst this
    have h1 := hall e he hb
    rw [hon, hun] at h1
    cases h1
   have h1 := H.2 j (ready_mono hj hji)
   obtain ⟨hjun, oj, hoj, hall⟩ := mem_ready.1 hj
   have hnot : ∀ e ∈ oj.after, Region.binds md e = true → e.on ≠ i := fun e he hb heq => by
    have h1 := hall e he hb
    rw [heq, hun] at h1
    cases h1
   have h2 := wpOp_putIf hoj (hfree j oj hoj hji hjun hnot) (fun cs b => hsel i oi cs b hi) (fun cs b => hsel j oj cs b hoj) hQ hy h1
   have hl' : (listed.setIfInBounds j true).getD k true = false := by rw [getD_set_ne true hjk]; exact hl
   have hl2 : ((listed.setIfInBounds i true).setIfInBounds j true).getD k true = false := by rw [getD_set_ne true hjk, getD_set_ne true (Ne.symm hki)]; exact hl
   refine wpOp_mono (fun a' w' h3 => ⟨fun _ => h3.2.1 hl2, ih (listed.setIfInBounds j true) a' w' (fun m om hm hmi hmu hno => hfree m om hm hmi (getD_set_in hmu) hno) (ready_mono hr (Ne.symm hji)) hl' h3.1 (h3.2.1 hl2) ?_⟩) h2
   rw [Array.setIfInBounds_comm _ _ hji]
   exact h3.2.2
theorem wpAnyK_first0 {k i : Nat} {oi : Oper} {v : Value} (hi : ops[i]? = some oi) (hsel : ∀ (j : Nat) (o : Oper) cs b, ops[j]? = some o → o.op ≠ .select cs b)
  (hQ : ∀ c a w, Q (.panic c) (a.put oi.dst v) w → Q (.panic c) a w) (hki : k ≠ i) :
  ∀ (f : Nat) (listed : Array Bool) (a : Act) (w : World),
   (∀ j oj, ops[j]? = some oj → j ≠ i → listed.getD j true = false → (∀ e ∈ oj.after, Region.binds md e = true → e.on ≠ i) → oi.apart ops oj = true) →
   i ∈ Region.ready md ops listed → YieldsIf P ops (fun _ => True) oi v a → (listed.getD k true = false → S w) →
   wpAnyK P md ops Q S k f (listed.setIfInBounds i true) (a.put oi.dst v) w → wpAnyK P md ops Q S k (f + 1) listed a w := by
 intro f
 induction f with
 | zero =>
  intro listed a w _ hr hy hS H
  refine ⟨fun h => (by rw [h] at hr; cases hr), fun j hj => ?_⟩
  by_cases hji : j = i
  ·subst hji; exact hy.wpOp hi trivial ⟨fun h0 => hS (by rwa [getD_set_ne true (Ne.symm hki)] at h0), H⟩
  ·have := ready_mono hj hji
   rw [H.1] at this
   cases this
 | succ f ih =>
  intro listed a w hfree hr hy hS H
  refine ⟨fun h => (by rw [h] at hr; cases hr), fun j hj => ?_⟩
  by_cases hji : j = i
  ·subst hji; exact hy.wpOp hi trivial ⟨fun h0 => hS (by rwa [getD_set_ne true (Ne.symm hki)] at h0), H⟩
  ·have hun : listed.getD i false = false := getD_both (mem_ready.1 hr).1
   have h1 := H.2 j (ready_mono hj hji)
   obtain ⟨hjun, oj, hoj, hall⟩ := mem_ready.1 hj
   have hnot : ∀ e ∈ oj.after, Region.binds md e = true → e.on ≠ i := fun e he hb heq => by
    have h1 := hall e he hb
    rw [heq, hun] at h1
    cases h1
   have h2 := wpOp_putIf hoj (hfree j oj hoj hji hjun hnot) (fun cs b => hsel i oi cs b hi) (fun cs b => hsel j oj cs b hoj) hQ hy h1
   have e : ((listed.setIfInBounds i true).setIfInBounds j true).getD k true = (listed.setIfInBounds j true).getD k true := by
    rw [Array.setIfInBounds_comm _ _ (Ne.symm hji), getD_set_ne true (Ne.symm hki)]
   refine wpOp_mono (fun a' w' h3 => ⟨fun h0 => h3.2.1 (e.trans h0), ih (listed.setIfInBounds j true) a' w' (fun m om hm hmi hmu hno => hfree m om hm hmi (getD_set_in hmu) hno) (ready_mono hr (Ne.symm hji)) h3.1 (fun h0 => h3.2.1 (e.trans h0)) ?_⟩) h2
   rw [Array.setIfInBounds_comm _ _ hji]
   exact h3.2.2
theorem wpAnyK_take0 (i : Nat) {k : Nat} {oi : Oper} (v : Value) {f : Nat} {listed : Array Bool} {a : Act} {w : World} (hi : ops[i]? = some oi)
  (hB : (Region.noSelect ops && Region.free md ops listed i && (Region.ready md ops listed).contains i && decide (k ≠ i)) = true)
  (hQ : ∀ c a w, Q (.panic c) (a.put oi.dst v) w → Q (.panic c) a w) (hS : S w) (hg : oi.guard = none) (hy : ∀ w, (execOp a.eval oi).run P w = .ok (.value v) w)
  (h : wpAnyK P md ops Q S k f (listed.setIfInBounds i true) (a.put oi.dst v) w) : wpAnyK P md ops Q S k (f + 1) listed a w := by
 simp only [Bool.and_eq_true, decide_eq_true_eq] at hB
 obtain ⟨⟨⟨h1, h2⟩, h3⟩, h4⟩ := hB
 exact wpAnyK_first0 hi (Region.noSelect_spec h1) hQ h4 f listed a w (Region.free_spec hi h2) (by simpa using h3) (.inl ⟨by simp [Region.wanted, hg], fun w _ => hy w⟩) (fun _ => hS) h
theorem wpAnyK_take (i : Nat) {k : Nat} {oi : Oper} (v : Value) {f : Nat} {listed : Array Bool} {a : Act} {w : World} (hi : ops[i]? = some oi)
  (hB : (Region.noSelect ops && Region.free md ops listed i && (Region.ready md ops listed).contains i && Region.waitsFor md ops k i && decide (k ≠ i) && !listed.getD k true) = true)
  (hQ : ∀ c a w, Q (.panic c) (a.put oi.dst v) w → Q (.panic c) a w) (hS : S w) (hg : oi.guard = none) (hy : ∀ w, S w → (execOp a.eval oi).run P w = .ok (.value v) w)
  (h : wpAnyK P md ops Q S k f (listed.setIfInBounds i true) (a.put oi.dst v) w) : wpAnyK P md ops Q S k (f + 1) listed a w := by
 simp only [Bool.and_eq_true, Bool.not_eq_true', decide_eq_true_eq] at hB
 obtain ⟨⟨⟨⟨⟨h1, h2⟩, h3⟩, h4⟩, h5⟩, h6⟩ := hB
 exact wpAnyK_first hi (Region.noSelect_spec h1) hQ h4 h5 f listed a w (Region.free_spec hi h2) (by simpa using h3) h6 (.inl ⟨by simp [Region.wanted, hg], hy⟩) hS h
theorem wpOpK {k i f : Nat} {o : Oper} {listed : Array Bool} {a : Act} {w : World} (ho : ops[i]? = some o) (hg : o.guard = none)
  (h : Oper.wp P o a w (fun a' w' => S w' ∧ wpAnyK P md ops Q S k f (listed.setIfInBounds i true) a' w') Q) :
  wpOp P ops Q i (fun a' w' => ((listed.setIfInBounds i true).getD k true = false → S w') ∧ wpAnyK P md ops Q S k f (listed.setIfInBounds i true) a' w') a w := by
 unfold wpOp
 rw [ho]
 show if Region.wanted o (yielded ops a.tmps) = true then _ else _
 rw [if_pos (by simp [Region.wanted, hg])]
 exact .inl (Oper.wp_mono (fun _ _ h => ⟨fun _ => h.1, h.2⟩) h)
theorem wpOpK' {k i f : Nat} {o : Oper} {listed : Array Bool} {a : Act} {w : World} (ho : ops[i]? = some o) (hg : o.guard = none)
  (h : ∀ K : Act → World → Prop, Hid (∀ a' w', S w' → wpAnyK P md ops Q S k f (listed.setIfInBounds i true) a' w' → K a' w') → Oper.wp P o a w K Q) :
  wpOp P ops Q i (fun a' w' => ((listed.setIfInBounds i true).getD k true = false → S w') ∧ wpAnyK P md ops Q S k f (listed.setIfInBounds i true) a' w') a w :=
 wpOpK ho hg (h _ (Lib.hid (fun _ _ h1 h2 => ⟨h1, h2⟩)))
theorem wpAnyK_1 {k f : Nat} (i : Nat) {listed : Array Bool} {a : Act} {w : World} (hr : Region.ready md ops listed = [i])
  (h : wpOp P ops Q i (fun a' w' => ((listed.setIfInBounds i true).getD k true = false → S w') ∧ wpAnyK P md ops Q S k f (listed.setIfInBounds i true) a' w') a w) : wpAnyK P md ops Q S k (f + 1) listed a w :=
 ⟨fun e => by (rw [hr] at e; cases e), fun j hj => by
  rw [hr] at hj
  have e : j = i := by simpa using hj
  subst e; exact h⟩
theorem wpAnyK_2 {k f : Nat} (i i' : Nat) {listed : Array Bool} {a : Act} {w : World} (hr : Region.ready md ops listed = [i, i'])
  (h : wpOp P ops Q i (fun a' w' => ((listed.setIfInBounds i true).getD k true = false → S w') ∧ wpAnyK P md ops Q S k f (listed.setIfInBounds i true) a' w') a w)
  (h' : wpOp P ops Q i' (fun a' w' => ((listed.setIfInBounds i' true).getD k true = false → S w') ∧ wpAnyK P md ops Q S k f (listed.setIfInBounds i' true) a' w') a w) : wpAnyK P md ops Q S k (f + 1) listed a w :=
 ⟨fun e => by (rw [hr] at e; cases e), fun j hj => by
  rw [hr] at hj
  have e : j = i ∨ j = i' := by simpa using hj
  rcases e with rfl | rfl
  ·exact h
  ·exact h'⟩
theorem wpAnyK_tail (n : Nat) {f : Nat} {l : List Oper} {listed : Array Bool} {a : Act} {w : World} (hf : (l.drop n).length = f) (hB : (Region.seqB md l.toArray f n listed && decide (n < listed.size)) = true)
  (h : wpList P l.toArray Q (l.drop n) a w) : wpAnyK P md l.toArray Q S n f listed a w := by
 subst hf
 simp only [Bool.and_eq_true, decide_eq_true_eq] at hB
 have h' := wpAny_of_seq (P := P) (md := md) (Q' := Q) (l.drop n) n listed a w (fun j => by simp [List.getElem?_drop]) hB.1 h
 have hB1 := hB.1
 generalize (l.drop n).length = f at h' hB1
 cases f with
 | zero => exact h'
 | succ f =>
  simp only [Region.seqB, Bool.and_eq_true, decide_eq_true_eq] at hB1
  refine ⟨h'.1, fun i hi => ?_⟩
  have e := hi
  rw [hB1.1] at e
  have e : i = n := by simpa using e
  subst e
  have e : (listed.setIfInBounds i true).getD i true = true := by simp [hB.2]
  exact wpOp_mono (fun a' w' h2 => ⟨fun h0 => by (rw [e] at h0; cases h0), wpAnyK_of_any f _ a' w' e h2⟩) (h'.2 i hi)
theorem wp_region_K {id k : Nat} {l : List Oper} {a : Act} {w : World} (hm : P.follows .mixedOrders = true) (h : wpAnyK P .any l.toArray Q S k l.length (List.replicate l.length false).toArray a w.drew) : (Code.region id l.toArray true).wp P Q a w :=
 wp_region_any hm (wpAny_of_K _ _ _ _ (by simpa using h))
end
theorem oapp {o : Oper} {a : Act} {K : Act → World → Prop} {Q : Exit → Act → World → Prop} {w : World} (s x : Operand)
  (ho : o.op = .call { callee := .builtin .append, args := #[s, x], argTypes := #[23, 23] })
  {base : Nat} {v xv : Value} {l m : List Int} (hown : OI base w v l) (hxr : RI No w xv m) (hs : a.eval s = v) (hx : a.eval x = xv) (hl : l.length + m.length ≤ 17592186044416) (hbase : base ≤ w.heap.size)
  (h : ∀ v' w', OI base w' v' (l ++ m) → Chg (own v) w w' → (∀ k, own v' k → own v k ∨ w.heap.size ≤ k) → K (a.put o.dst v') w') :
  Oper.wp Tryz.prog o a w K Q := by
 obtain ⟨v', w', hr, h1, h2, h3⟩ := run_app o.type hown hxr hl hbase
 unfold Oper.wp execOp
 simp only [ho, resolve, invoke, builtin, Sem.run_bind, Sem.run_pure, Result.andThen_ok, List.map_toArray, List.map_cons, List.map_nil, hs, hx, hr]
 exact h v' w' h1 h2 h3
theorem obuild {o : Oper} {a : Act} {K : Act → World → Prop} {Q : Exit → Act → World → Prop} {w : World} (y : Operand) (n : Int)
  (ho : o.op = .buildSlice 23 1 #[(0, y)]) (hy : a.eval y = .int .i64 n)
  (h : ∀ g w', Chg No w w' → w'.cell? ⟨g, 0, none⟩ = some (.int .i64 n) → w.heap.size ≤ g → K (a.put o.dst (.slice (some ⟨g, 0, none⟩) 1 1)) w') :
  Oper.wp Tryz.prog o a w K Q := by
 have h1 := h w.heap.size (w.alloc (.cells #[.int .i64 n] 3)) ((Chg.refl No w).alloc _) (by rw [World.cell?_alloc_new]; rfl) (Nat.le_refl _)
 unfold Oper.wp execOp
 simp only [ho, List.map_toArray, List.map_cons, List.map_nil, hy]
 go_simp
 exact h1
end Go.Proofs.YtdgcohoneijleaaGreatDoor
namespace Go.Proofs.YtdgcohoneijleaaGreatDoor
open Go.RowKit
section
variable {P : Program} {ops : Array Oper} {Q : Exit → Act → World → Prop} {md : Region.Mode} {S : World → Prop}
end
theorem ocallR {o : Oper} {a : Act} {K : Act → World → Prop} {Q : Exit → Act → World → Prop} {w : World} {f : FuncId} {args : Array Value} {v : Value} {φ : World → Prop}
  (ho : (execOp a.eval o).run Tryz.prog w = .ok (.enter f args) w) (h : Calls Tryz.prog f args w fun e w' => e = .returned v ∧ φ w') (hk : ∀ w', φ w' → K (a.put o.dst v) w') : Oper.wp Tryz.prog o a w K Q := by
 unfold Oper.wp
 rw [ho]
 refine h.mono (fun e w' hr => ?_)
 obtain ⟨rfl, hp⟩ := hr
 exact hk w' hp
end Go.Proofs.YtdgcohoneijleaaGreatDoor
namespace Go.Proofs.YtdgcohoneijleaaGreatDoor
open Go.RowKit
section
variable {P : Program} {ops : Array Oper} {md : Region.Mode} {C : World → Prop}
def uponV (P : Program) (C : World → Prop) (V : Value → Prop) : Result Next → Prop
 | .ok (.value u) w' => C w' ∧ V u
 | .ok .skip w' => C w' ∧ V undef
 | .ok (.enter f args) w' => Calls P f args w' (fun e w'' => ∃ v, e = .returned v ∧ V v ∧ C w'')
 | _ => False
def atV (P : Program) (o : Oper) (a : Act) (C : World → Prop) (V : Value → Prop) : Prop := ∀ w, C w → uponV P C V ((execOp a.eval o).run P w)
def goV (P : Program) (ops : Array Oper) (C : World → Prop) (V : Value → Prop) (o : Oper) (K : Act → Prop) (a : Act) : Prop :=
 if Region.wanted o (yielded ops a.tmps) = true then (∃ v, V v) ∧ atV P o a C V ∧ ∀ v, V v → K (a.put o.dst v) else K (a.put o.dst undef)
def wpV (P : Program) (ops : Array Oper) (C : World → Prop) (Q : Act → Prop) : List Oper → List (Value → Prop) → Act → Prop
 | [], _, a => Q a
 | o :: rest, Vs, a => goV P ops C (Vs.headD fun _ => True) o (wpV P ops C Q rest Vs.tail) a
def opV (P : Program) (ops : Array Oper) (C : World → Prop) (S : Nat → Value → Prop) (i : Nat) (K : Act → Prop) (a : Act) : Prop :=
 match ops[i]? with
 | none => K a
 | some o => goV P ops C (S i) o K a
def wpAnyV (P : Program) (md : Region.Mode) (ops : Array Oper) (C : World → Prop) (S : Nat → Value → Prop) (Q : Act → Prop) : Nat → Array Bool → Act → Prop
 | 0, listed, a => Region.ready md ops listed = [] ∧ Q a
 | fuel + 1, listed, a =>
  (Region.ready md ops listed = [] → Q a) ∧
  ∀ i ∈ Region.ready md ops listed, opV P ops C S i (wpAnyV P md ops C S Q fuel (listed.setIfInBounds i true)) a
theorem wp_of_V {o : Oper} {a : Act} {V : Value → Prop} {K : Act → Prop} {K' : Act → World → Prop} {Q' : Exit → Act → World → Prop} {w : World} (hw : C w) (h : ∀ a w', C w' → K a → K' a w')
  (h1 : atV P o a C V) (h2 : ∀ v, V v → K (a.put o.dst v)) : o.wp P a w K' Q' := by
 have h3 := h1 w hw
 unfold Oper.wp
 generalize (execOp a.eval o).run P w = r at *
 cases r with
 | ok n w' =>
  cases n <;> simp only [uponV] at h3 <;> simp only [Oper.upon]
  case value u => exact h _ _ h3.1 (h2 _ h3.2)
  case skip => exact h _ _ h3.1 (h2 _ h3.2)
  case enter f args => exact h3.mono fun e w'' ⟨v, he, hv, hc⟩ => by subst he; exact h _ _ hc (h2 _ hv)
 | halt x w' => simp only [uponV] at h3
theorem wpOp_of_V {S : Nat → Value → Prop} {i : Nat} {a : Act} {K : Act → Prop} {K' : Act → World → Prop} {Q' : Exit → Act → World → Prop} {w : World} (hC : C w) (h : ∀ a w', C w' → K a → K' a w')
  (hh : opV P ops C S i K a) : wpOp P ops Q' i K' a w := by
 unfold opV at hh
 unfold wpOp
 split
 ·rename_i ho; simp only [ho] at hh; exact h _ _ hC hh
 ·rename_i o ho
  simp only [ho, goV] at hh
  split
  ·rename_i hw; simp only [hw, if_true] at hh; exact .inl (wp_of_V hC h hh.2.1 hh.2.2)
  ·rename_i hw; simp only [hw] at hh; exact h _ _ hC hh
theorem wpAny_of_V {S : Nat → Value → Prop} {Q : Act → Prop} {Q' : Exit → Act → World → Prop} (hQ : ∀ a w, C w → Q a → Q' .normal a w) : ∀ (fuel : Nat) (listed : Array Bool) (a : Act) (w : World), C w →
  wpAnyV P md ops C S Q fuel listed a → wpAny P md ops Q' fuel listed a w
 | 0, _, _, _, hw, h => ⟨h.1, hQ _ _ hw h.2⟩
 | fuel + 1, _, _, _, hw, h => ⟨fun h0 => hQ _ _ hw (h.1 h0), fun i hi => wpOp_of_V hw (fun a' w' hw' => wpAny_of_V hQ fuel _ a' w' hw') (h.2 i hi)⟩
theorem wpAnyV_first {S : Nat → Value → Prop} {Q : Act → Prop} {i : Nat} {oi : Oper} (hi : ops[i]? = some oi) (hsel : ∀ (j : Nat) (o : Oper) cs b, ops[j]? = some o → o.op ≠ .select cs b) :
  ∀ (fuel : Nat) (listed : Array Bool) (a : Act),
   (∀ j oj, ops[j]? = some oj → j ≠ i → listed.getD j true = false → (∀ e ∈ oj.after, Region.binds md e = true → e.on ≠ i) → oi.apart ops oj = true) →
   i ∈ Region.ready md ops listed →
   goV P ops C (S i) oi (wpAnyV P md ops C S Q fuel (listed.setIfInBounds i true)) a → wpAnyV P md ops C S Q (fuel + 1) listed a := by
 have hI : ∀ {a : Act} {K : Act → Prop}, goV P ops C (S i) oi K a → opV P ops C S i K a := fun h => by unfold opV; rw [hi]; exact h
 have hE : ∀ {a : Act} {K : Act → Prop}, goV P ops C (S i) oi K a → ∃ v, K (a.put oi.dst v) := fun {a} {K} h => by
  unfold goV at h
  by_cases hw : Region.wanted oi (yielded ops a.tmps) = true
  ·rw [if_pos hw] at h
   obtain ⟨⟨v, hv⟩, _, h2⟩ := h
   exact ⟨v, h2 v hv⟩
  ·rw [if_neg hw] at h
   exact ⟨_, h⟩
 intro fuel
 induction fuel with
 | zero =>
  intro listed a _ hr H
  refine ⟨fun h => (by rw [h] at hr; cases hr), fun j hj => ?_⟩
  by_cases hji : j = i
  ·subst hji; exact hI H
  ·obtain ⟨v, hv⟩ := hE H
   have := ready_mono hj hji
   rw [hv.1] at this
   cases this
 | succ fuel ih =>
  intro listed a hfree hr H
  refine ⟨fun h => (by rw [h] at hr; cases hr), fun j hj => ?_⟩
  by_cases hji : j = i
  ·subst hji; exact hI H
  ·obtain ⟨hjun, oj, hoj, hall⟩ := mem_ready.1 hj
   have hnot : ∀ e ∈ oj.after, Region.binds md e = true → e.on ≠ i := fun e he hb heq => by
    have h1 := hall e he hb
    have h0 := (mem_ready.1 hr).1
    rw [heq] at h1
    rcases Nat.lt_or_ge i listed.size with h' | h'
    ·simp [h'] at h0 h1; rw [h0] at h1; cases h1
    ·simp [Array.getElem?_eq_none h'] at h1
   obtain ⟨a1, a2, a3⟩ := Oper.apart_spec (hfree j oj hoj hji hjun hnot)
   have hsi : ∀ cs b, oi.op ≠ .select cs b := fun cs b => hsel i oi cs b hi
   have hsj : ∀ cs b, oj.op ≠ .select cs b := fun cs b => hsel j oj cs b hoj
   have hfree' : ∀ k ok, ops[k]? = some ok → k ≠ i → (listed.setIfInBounds j true).getD k true = false →
     (∀ e ∈ ok.after, Region.binds md e = true → e.on ≠ i) → oi.apart ops ok = true := fun k ok hk hki hun hno => by
    refine hfree k ok hk hki ?_ hno
    by_cases hjk : j = k
    ·subst hjk; exact hjun
    ·rw [getD_set_ne true hjk] at hun; exact hun
   -- what i leaves, then j
   have step : ∀ v, wpAnyV P md ops C S Q (fuel + 1) (listed.setIfInBounds i true) (a.put oi.dst v) →
     goV P ops C (S j) oj (wpAnyV P md ops C S Q fuel ((listed.setIfInBounds i true).setIfInBounds j true)) (a.put oi.dst v) := fun v h => by
    have h1 := h.2 j (ready_mono hj hji)
    unfold opV at h1
    rw [hoj] at h1
    exact h1
   -- at a, put u at j: i goes as it did
   have back : ∀ u, (∀ v, wpAnyV P md ops C S Q (fuel + 1) (listed.setIfInBounds i true) (a.put oi.dst v) → wpAnyV P md ops C S Q fuel ((listed.setIfInBounds i true).setIfInBounds j true) ((a.put oi.dst v).put oj.dst u)) →
     wpAnyV P md ops C S Q (fuel + 1) (listed.setIfInBounds j true) (a.put oj.dst u) := fun u hu => by
    refine ih (listed.setIfInBounds j true) (a.put oj.dst u) hfree' (ready_mono hr (Ne.symm hji)) ?_
    unfold goV at H ⊢
    rw [wanted_put oi a oj.dst u a3]
    rw [Array.setIfInBounds_comm _ _ hji]
    by_cases hw : Region.wanted oi (yielded ops a.tmps) = true
    ·rw [if_pos hw] at H ⊢
     obtain ⟨g1, g2, g3⟩ := H
     refine ⟨g1, fun w hw' => ?_, fun v hv => ?_⟩
     ·rw [execOp_put oi hsi a oj.dst u a3]; exact g2 w hw'
     ·rw [← Act.put_comm a v u a2]; exact hu v (g3 v hv)
    ·rw [if_neg hw] at H ⊢
     rw [← Act.put_comm a undef u a2]; exact hu _ H
   obtain ⟨v0, hv0⟩ := hE H
   have h0 := step v0 hv0
   unfold opV
   rw [hoj]
   show goV P ops C (S j) oj (wpAnyV P md ops C S Q (fuel + 1) (listed.setIfInBounds j true)) a
   unfold goV at h0 ⊢
   rw [wanted_put oj a oi.dst v0 a1] at h0
   by_cases hw : Region.wanted oj (yielded ops a.tmps) = true
   ·rw [if_pos hw] at h0 ⊢
    obtain ⟨g1, g2, _⟩ := h0
    refine ⟨g1, fun w hw' => ?_, fun u hu => back u (fun v hv => ?_)⟩
    ·have := g2 w hw'
     rwa [execOp_put oj hsj a oi.dst v0 a1] at this
    ·have h1 := step v hv
     unfold goV at h1
     rw [wanted_put oj a oi.dst v a1, if_pos hw] at h1
     exact h1.2.2 u hu
   ·rw [if_neg hw] at h0 ⊢
    refine back undef (fun v hv => ?_)
    have h1 := step v hv
    unfold goV at h1
    rw [wanted_put oj a oi.dst v a1, if_neg hw] at h1
    exact h1
theorem wpAnyV_lex {Q : Act → Prop} (S : Nat → Value → Prop) (hs : Region.noSelect ops = true) : ∀ (l : List Oper) (Vs : List (Value → Prop)) (k : Nat) (listed : Array Bool) (a : Act), (∀ j, l[j]? = ops[k + j]?) →
  (∀ j, Vs.getD j (fun _ => True) = S (k + j)) → Region.lexFrom md ops l.length k listed = true → wpV P ops C Q l Vs a → wpAnyV P md ops C S Q l.length listed a
 | [], _, _, _, _, _, _, hB, h => ⟨by simpa [Region.lexFrom] using hB, h⟩
 | o :: l, Vs, k, listed, a, hl, hS, hB, h => by
  have h0 : ops[k]? = some o := by simpa using (hl 0).symm
  simp only [List.length_cons, Region.lexFrom, Bool.and_eq_true] at hB
  obtain ⟨⟨hr, hf⟩, hB'⟩ := hB
  have hS0 : Vs.headD (fun _ => True) = S k := by have := hS 0; cases Vs <;> simpa using this
  refine wpAnyV_first h0 (Region.noSelect_spec hs) l.length listed a (Region.free_spec h0 hf) (by simpa using hr) ?_
  have ih : ∀ a', wpV P ops C Q l Vs.tail a' → wpAnyV P md ops C S Q l.length (listed.setIfInBounds k true) a' := fun a' h' =>
   wpAnyV_lex S hs l Vs.tail (k + 1) _ a' (fun j => by have := hl (j + 1); simpa [Nat.add_assoc, Nat.add_comm 1 j] using this)
    (fun j => by have := hS (j + 1); cases Vs <;> simp [Nat.add_assoc, Nat.add_comm 1 j] at this ⊢ <;> exact this) hB' h'
  unfold wpV goV at h
  unfold goV
  rw [hS0] at h
  by_cases hw : Region.wanted o (yielded ops a.tmps) = true
  ·rw [if_pos hw] at h ⊢
   exact ⟨h.1, h.2.1, fun v hv => ih _ (h.2.2 v hv)⟩
  ·rw [if_neg hw] at h ⊢
   exact ih _ h
theorem wp_region_V {id : Nat} {Q : Exit → Act → World → Prop} {a : Act} {w : World} {l : List Oper} (C : World → Prop) (Vs : List (Value → Prop)) (hm : P.follows .mixedOrders = true) (hB : Region.lexB .any l.toArray = true) (hC : C w.drew)
  (h : wpV P l.toArray C (fun a' => ∀ w', C w' → Q .normal a' w') l Vs a) : (Code.region id l.toArray true).wp P Q a w := by
 simp only [Region.lexB, Bool.and_eq_true] at hB
 refine wp_region_any hm (wpAny_of_V (S := fun i => Vs.getD i (fun _ => True)) (Q := fun a' => ∀ w', C w' → Q .normal a' w') (fun _ w' hw' h => h w' hw') _ _ _ _ hC ?_)
 have := wpAnyV_lex (P := P) (C := C) (md := .any) (fun i => Vs.getD i (fun _ => True)) hB.1 l Vs 0 (Array.replicate l.length false) a (by simp) (fun j => by simp) (by simpa using hB.2) h
 simpa using this
theorem wpV_nil {Q : Act → Prop} {a : Act} (h : Q a) : wpV P ops C Q [] [] a := h
theorem wpV_set {Q : Act → Prop} {o : Oper} {rest : List Oper} {V : Value → Prop} {Vs : List (Value → Prop)} {a : Act} (hw : Region.wanted o (yielded ops a.tmps) = true) (hv : ∃ v, V v)
  (h : ∀ w, C w → uponV P C V ((execOp a.eval o).run P w)) (hn : ∀ v, V v → wpV P ops C Q rest Vs (a.put o.dst v)) : wpV P ops C Q (o :: rest) (V :: Vs) a := by
 unfold wpV goV
 rw [if_pos hw]
 exact ⟨hv, h, hn⟩
theorem wpV_one {Q : Act → Prop} {o : Oper} {rest : List Oper} (v : Value) {Vs : List (Value → Prop)} {a : Act} (hw : Region.wanted o (yielded ops a.tmps) = true)
  (h : ∀ w, C w → uponV P C (fun x => x = v) ((execOp a.eval o).run P w)) (hn : wpV P ops C Q rest Vs (a.put o.dst v)) : wpV P ops C Q (o :: rest) ((fun x => x = v) :: Vs) a :=
 wpV_set hw ⟨v, rfl⟩ h (fun u hu => by rw [hu]; exact hn)
theorem wpV_skip {Q : Act → Prop} {o : Oper} {rest : List Oper} {Vs : List (Value → Prop)} {a : Act} (hw : Region.wanted o (yielded ops a.tmps) = false)
  (hn : wpV P ops C Q rest Vs (a.put o.dst undef)) : wpV P ops C Q (o :: rest) ((fun x => x = undef) :: Vs) a := by
 unfold wpV goV
 rw [if_neg (by rw [hw]; decide)]
 exact hn
def wpX (P : Program) (ops : Array Oper) (C : World → Prop) (Q : Act → Prop) (l : List Oper) (a : Act) : Prop := ∃ Vs, wpV P ops C Q l Vs a
theorem wp_region_X {id : Nat} {Q : Exit → Act → World → Prop} {a : Act} {w : World} {l : List Oper} (C : World → Prop) (hm : P.follows .mixedOrders = true) (hB : Region.lexB .any l.toArray = true) (hC : C w.drew)
  (h : wpX P l.toArray C (fun a' => ∀ w', C w' → Q .normal a' w') l a) : (Code.region id l.toArray true).wp P Q a w := h.elim fun Vs h => wp_region_V C Vs hm hB hC h
section
variable {Q : Act → Prop} {o : Oper} {rest : List Oper} {a : Act}
theorem wpX_nil (h : Q a) : wpX P ops C Q [] a := ⟨[], wpV_nil h⟩
theorem wpX_skip (hw : Region.wanted o (yielded ops a.tmps) = false) (hn : wpX P ops C Q rest (a.put o.dst undef)) : wpX P ops C Q (o :: rest) a := hn.elim fun _ h => ⟨_, wpV_skip hw h⟩
theorem wpX_val (v : Value) (hw : Region.wanted o (yielded ops a.tmps) = true) (h : ∀ w, C w → (execOp a.eval o).run P w = .ok (.value v) w) (hn : wpX P ops C Q rest (a.put o.dst v)) : wpX P ops C Q (o :: rest) a :=
 hn.elim fun Vs hn => ⟨_, wpV_one v hw (fun w hC => by rw [h w hC]; exact ⟨hC, rfl⟩) hn⟩
theorem wpX_call (v : Value) {f : FuncId} {args : Array Value} (hw : Region.wanted o (yielded ops a.tmps) = true)
  (h : ∀ w, C w → (execOp a.eval o).run P w = .ok (.enter f args) w) (hc : ∀ w, C w → Calls P f args w fun e w' => e = .returned v ∧ C w') (hn : wpX P ops C Q rest (a.put o.dst v)) : wpX P ops C Q (o :: rest) a :=
 hn.elim fun Vs hn => ⟨_, wpV_one v hw (fun w hC => by rw [h w hC]; exact (hc w hC).mono fun e w' h => ⟨v, h.1, rfl, h.2⟩) hn⟩
end
section
variable {Q : Act → Prop} {o : Oper} {rest : List Oper} {V : Value → Prop} {a : Value → Act}
end
end
end Go.Proofs.YtdgcohoneijleaaGreatDoor
namespace Go.Proofs.YtdgcohoneijleaaGreatDoor
open Go.RowKit
def marks (k : Int) (n : Nat) : List Int := (List.range n).map (fun i : Nat => k + (i : Int))
theorem RI.cellAt {A : Nat → Prop} {w : World} {a : Option Addr} {n cap : Nat} {l : List Int} (h : RI A w (.slice a n cap) l) (hl : l ≠ []) :
  ∃ b off, a = some ⟨b, off, none⟩ ∧ ¬ A b ∧ b < w.heap.size ∧ ∀ i, i < l.length → w.cell? ⟨b, off + i, none⟩ = some (.int .i64 (l.getD i 0)) := by
 obtain ⟨a', cap', he, _, _, _, _, hc⟩ := h
 simp only [Value.slice.injEq] at he
 obtain ⟨rfl, rfl, rfl⟩ := he
 exact hc hl
end Go.Proofs.YtdgcohoneijleaaGreatDoor
