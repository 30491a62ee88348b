import Derived.Test.YtndhijckbponkaaGreatPkX2
import Derived.Lib.Overlaps
import Derived.Lib.AppendZeros
import Derived.Laws.CopyOwn
import Derived.Lib.SliceRun
namespace Go.Proofs.YtndhijckbponkaaGreat
open Go.RowKit

theorem eql_nil (w : World) (a : Option Addr) (n c : Nat) : (binOp .eql 27 (.slice a n c) (.slice none 0 0)).run Tryz.prog w = .ok (.bool a.isNone) w := by
  simp only [binOp]
  simp [Op.equal, Op.maxDepth, Lib.run_equalIn_slice_nil w 9999 27 3 a n c 0 0 Tryz.underlying27]

/-- the row in which an owned slice lies -/
theorem OI.row {base : Nat} {w : World} {g n cap : Nat} {l : List Int} (h : OI base w (.slice (some ⟨g, 0, none⟩) n cap) l) :
    ∃ cur : Array Value, w.heap[g]? = some (.cells cur 3 (0, 0)) ∧ cur.size = cap ∧ cur.toList.take l.length = l.map (Value.int .i64) ∧ n = l.length ∧ n ≤ cap ∧ cap ≤ maxLen ∧ base ≤ g ∧ g < w.heap.size := by
  have ha := h.at
  rcases h.2.2 with ⟨hv, _⟩ | ⟨g', cap', cur, hv, hb, hg, hn, hm, hs, ht⟩
  · simp at hv
  · simp only [Value.slice.injEq, Option.some.injEq, Addr.mk.injEq, and_true] at hv
    obtain ⟨rfl, h2, rfl⟩ := hv
    exact ⟨cur, hg, by simpa using hs, by simpa using ht, h2, by omega, hm, hb, ha.2.2.2.1⟩
theorem OI.ofRow {base : Nat} {w : World} {g n cap : Nat} {l : List Int} {cur : Array Value} (hg : w.heap[g]? = some (.cells cur 3 (0, 0))) (hs : cur.size = cap) (ht : cur.toList.take l.length = l.map (Value.int .i64))
    (hn : n = l.length) (hc : n ≤ cap) (hm : cap ≤ maxLen) (hb : base ≤ g) (hl : l.length ≤ 17592186044416) : OI base w (.slice (some ⟨g, 0, none⟩) n cap) l := by
  subst hn
  exact ⟨hl, by simp, .inr ⟨g, cap, cur, rfl, hb, hg, hc, hm, by simpa using hs, by simpa using ht⟩⟩
theorem OI.pre {base : Nat} {w : World} {g n cap : Nat} {l : List Int} (h : OI base w (.slice (some ⟨g, 0, none⟩) n cap) l) (i : Nat) (hi : i ≤ l.length) : OI base w (.slice (some ⟨g, 0, none⟩) i cap) (l.take i) := by
  obtain ⟨cur, h1, h2, h3, h4, h5, h6, h7, _⟩ := h.row
  have hL := h.len
  refine OI.ofRow h1 h2 ?_ (by simp; omega) (by omega) h6 h7 (by simp; omega)
  rw [List.map_take, ← h3, List.take_take, List.length_take]
theorem OI.spare {base : Nat} {w : World} {g n cap : Nat} {l : List Int} (h : OI base w (.slice (some ⟨g, 0, none⟩) n cap) l) (j : Nat) (hj : n ≤ j) (u : Value) :
    OI base (w.setCell ⟨g, j, none⟩ u) (.slice (some ⟨g, 0, none⟩) n cap) l ∧ Chg (fun k => k = g) w (w.setCell ⟨g, j, none⟩ u) := by
  obtain ⟨cur, h1, h2, h3, h4, h5, h6, h7, h8⟩ := h.row
  refine ⟨OI.ofRow (heap_setCell_same w g j cur 3 u h1) (by simpa using h2) ?_ h4 h5 h6 h7 h.len, (Chg.refl (fun k => k = g) w).setCell (p := ⟨g, j, none⟩) (fun _ => rfl) u⟩
  rw [Array.toList_setIfInBounds, List.take_set_of_le (by omega), h3]
set_option maxRecDepth 100000 in
set_option maxHeartbeats 400000 in
theorem Clone_any (A : Nat → Prop) (v : Value) (l : List Int) (w : World) (h : RI A w v l) :
    Calls Tryz.prog 69 #[v] w (Ret fun v' w' => OI w.heap.size w' v' l ∧ Chg No w w') := by
  have hL := h.len
  have h' := h
  obtain ⟨a, cap, rfl, hcap, hmax, hlen, h0, hc⟩ := h
  have he := eql_nil
  cases a with
  | none =>
    have hc0 := h0 rfl
    have hl0 : l = [] := List.eq_nil_of_length_eq_zero (by omega)
    subst hl0
    subst hc0
    go_enter Tryz.func69, Tryz.ntmps69
    go_wp2
    go_ret
    exact ⟨_, rfl, OI.nil _ _, Chg.refl _ _⟩
  | some ad =>
    go_enter Tryz.func69, Tryz.ntmps69
    go_wp2_with (at_builtin; refine wapp rfl (.tmp 5) (.tmp 6) rfl (OI.zero (Nat.le_refl w.heap.size)) ((h'.weak (fun _ hk _ => hk.elim)).keep ((Chg.refl No w).alloc _)) rfl rfl (by simpa using hL) (by simp) ?_; intro v1 w1 h1 h2 h3)
    go_ret
    exact ⟨_, rfl, by simpa using h1, ((Chg.refl No w).alloc _).own h2 (OI.zero (Nat.le_refl _)) (Nat.le_refl _)⟩

end Go.Proofs.YtndhijckbponkaaGreat

namespace Go.Proofs.YtndhijckbponkaaGreat
open Go.RowKit

theorem run_copyI (w : World) {g : Nat} {cur : List Value} (hg : w.heap[g]? = some (.cells cur.toArray 3 (0, 0))) (o dLen dCap : Nat) (a : Addr) (sLen sCap : Nat) (m : List Int) (hm : m.length ≤ sLen ∧ m.length ≤ dLen ∧ (sLen ≤ m.length ∨ dLen ≤ m.length))
    (hsrc : ∀ j, j < m.length → w.cell? (a.add j) = some (.int .i64 (m.getD j 0))) (hfit : o + m.length ≤ cur.length) :
    ∃ w', (∀ ty, (Builtin.copy_ #[27, 27] ty #[.slice (some ⟨g, o, none⟩) dLen dCap, .slice (some a) sLen sCap]).run Tryz.prog w = .ok (goInt m.length) w') ∧
      w'.heap[g]? = some (.cells (cur.take o ++ m.map (Value.int .i64) ++ cur.drop (o + m.length)).toArray 3 (0, 0)) ∧ Chg (fun k => k = g) w w' := by
  obtain ⟨i0, hi, hz0, hz1, hz2⟩ := info_parts Tryz.infoInt
  have hr := fun ty => run_copy_row (P := Tryz.prog) w 27 27 ty 3 g o dLen dCap a sLen sCap cur.toArray 3 (m.map (Value.int .i64)) Tryz.underlying27 (by rw [hi]; simp [hz1]) hg (by rw [List.length_map]; show m.length = min sLen dLen; omega) (by
    intro j u hj
    have hjl : j < m.length := by simpa using (List.getElem?_eq_some_iff.1 hj).1
    rw [hsrc j hjl]
    simpa [List.getElem?_map, List.getElem?_eq_getElem hjl] using hj) (by simpa using hfit) (ints_oneCell .i64 m)
  refine ⟨w.setRow g (cur.take o ++ m.map (Value.int .i64) ++ cur.drop (o + m.length)).toArray, fun ty => by simpa using hr ty, setRow_heap w g cur.toArray _ 3 (0, 0) hg, ⟨rfl, rfl, rfl, by simp [World.setRow], fun k hk hne => setRow_other w g k _ hne⟩⟩
theorem wcopy_run {ops : Array Oper} {rest : List Oper} {o : Oper} {a : Act} {Q : Exit → Act → World → Prop} {w : World} (hgd : o.guard = none) (s x : Operand) (t tn : TypeId)
    (ho : o.op = .call { callee := .builtin .copy, args := #[s, x], argTypes := #[t, tn] }) {vs vx v' : Value} {w' : World} (hr : ∀ ty, (Builtin.copy_ #[t, tn] ty #[vs, vx]).run Tryz.prog w = .ok v' w') (hs : a.eval s = vs) (hx : a.eval x = vx)
    (h : wpList Tryz.prog ops Q rest (a.put o.dst v') w') : wpList Tryz.prog ops Q (o :: rest) a w := by
  refine wpList_plain hgd fun _ hK => ?_
  unfold Oper.wp execOp
  simp only [ho, resolve, invoke, builtin, Sem.run_bind, Sem.run_pure, Result.andThen_ok, List.map_toArray, List.map_cons, List.map_nil, hs, hx, hr]
  exact hK _ _ h
end Go.Proofs.YtndhijckbponkaaGreat

namespace Go.Proofs.YtndhijckbponkaaGreat
open Go.RowKit

theorem OI.set {base : Nat} {w : World} {v : Value} {l : List Int} (h : OI base w v l) (b o : Nat) (x : Value) (hb : ¬ own v b) : OI base (w.setCell ⟨b, o, none⟩ x) v l :=
  h.step (T := fun k => k = b) ((Chg.refl (fun k => k = b) w).setCell (p := ⟨b, o, none⟩) (fun _ => rfl) x) (fun _ hk e => hb (e ▸ hk))
theorem OI.fin {base : Nat} {A : Nat → Prop} {w w1 w2 : World} {v : Value} {l : List Int} (h : OI base w1 v l) {T : Nat → Prop} (hc : Chg T w1 w2) (hT : ∀ k, own v k → ¬ T k) (hA : Bd A w) (hb : w.heap.size ≤ base) : RI A w2 v l :=
  (h.step hc hT).readBd hA hb
end Go.Proofs.YtndhijckbponkaaGreat

namespace Go.Proofs.YtndhijckbponkaaGreat
open Go.RowKit

theorem quiet_sym {P : Program} {f : FuncId} {args : Array Value} {w : World} {n : Nat} {v : Value}
    (h : Calls P f args (w.drewN n) fun e w' => e = .returned v ∧ w.drewN n = w') : Calls P f args (w.drewN n) fun e w'' => e = .returned v ∧ ∃ m, w'' = w.drewN m :=
  Calls.quiet_of_same (h.mono fun _ _ h => ⟨h.1, h.2.symm⟩)
end Go.Proofs.YtndhijckbponkaaGreat
