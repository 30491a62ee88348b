import Derived.Test.YtdgcohoneijleaaGreatDoorPkX3
import Derived.Lib.Overlaps
import Derived.Lib.AppendZeros
import Derived.Laws.CopyOwn
import Derived.Lib.SliceRun
set_option maxRecDepth 100000
namespace Go.Proofs.YtdgcohoneijleaaGreatDoor
open Go.RowKit
theorem eql_nil (w : World) (a : Option Addr) (n c : Nat) : (binOp .eql 23 (.slice a n c) (.slice none 0 0)).run Tryz.prog w = .ok (.bool a.isNone) w := by
 simp only [binOp]
 simp [Op.equal, Op.maxDepth, Lib.run_equalIn_slice_nil w 9999 23 3 a n c 0 0 Tryz.underlying23]
theorem OI.row {base : Nat} {w : World} {g n cap : Nat} {l : List Int} (h : OI base w (.slice (some ⟨g, 0, none⟩) n cap) l) :
  ∃ cur : Array Value, w.heap[g]? = some (.cells cur 3 (0, 0)) ∧ cur.size = cap ∧ cur.toList.take l.length = l.map (Value.int .i64) ∧ n = l.length ∧ n ≤ cap ∧ cap ≤ maxLen ∧ base ≤ g ∧ g < w.heap.size := by
 have ha := h.at
 rcases h.2.2 with ⟨hv, _⟩ | ⟨g', cap', cur, hv, hb, hg, hn, hm, hs, ht⟩
 ·simp at hv
 ·simp only [Value.slice.injEq, Option.some.injEq, Addr.mk.injEq, and_true] at hv
  obtain ⟨rfl, h2, rfl⟩ := hv
  exact ⟨cur, hg, by simpa using hs, by simpa using ht, h2, by omega, hm, hb, ha.2.2.2.1⟩
theorem OI.ofRow {base : Nat} {w : World} {g n cap : Nat} {l : List Int} {cur : Array Value} (hg : w.heap[g]? = some (.cells cur 3 (0, 0))) (hs : cur.size = cap) (ht : cur.toList.take l.length = l.map (Value.int .i64))
  (hn : n = l.length) (hc : n ≤ cap) (hm : cap ≤ maxLen) (hb : base ≤ g) (hl : l.length ≤ 17592186044416) : OI base w (.slice (some ⟨g, 0, none⟩) n cap) l := by
 subst hn
 exact ⟨hl, by simp, .inr ⟨g, cap, cur, rfl, hb, hg, hc, hm, by simpa using hs, by simpa using ht⟩⟩
theorem OI.pre {base : Nat} {w : World} {g n cap : Nat} {l : List Int} (h : OI base w (.slice (some ⟨g, 0, none⟩) n cap) l) (i : Nat) (hi : i ≤ l.length) : OI base w (.slice (some ⟨g, 0, none⟩) i cap) (l.take i) := by
 obtain ⟨cur, h1, h2, h3, h4, h5, h6, h7, _⟩ := h.row
 have hL := h.len
 refine OI.ofRow h1 h2 ?_ (by simp; omega) (by omega) h6 h7 (by simp; omega)
 rw [List.map_take, ← h3, List.take_take, List.length_take]
theorem OI.spare {base : Nat} {w : World} {g n cap : Nat} {l : List Int} (h : OI base w (.slice (some ⟨g, 0, none⟩) n cap) l) (j : Nat) (hj : n ≤ j) (u : Value) :
  OI base (w.setCell ⟨g, j, none⟩ u) (.slice (some ⟨g, 0, none⟩) n cap) l ∧ Chg (fun k => k = g) w (w.setCell ⟨g, j, none⟩ u) := by
 obtain ⟨cur, h1, h2, h3, h4, h5, h6, h7, h8⟩ := h.row
 refine ⟨OI.ofRow (heap_setCell_same w g j cur 3 u h1) (by simpa using h2) ?_ h4 h5 h6 h7 h.len, (Chg.refl (fun k => k = g) w).setCell (p := ⟨g, j, none⟩) (fun _ => rfl) u⟩
 rw [Array.toList_setIfInBounds, List.take_set_of_le (by omega), h3]
theorem OI.cellAny {base : Nat} {w : World} {g n cap : Nat} {l : List Int} (h : OI base w (.slice (some ⟨g, 0, none⟩) n cap) l) (j : Nat) (hj : j < cap) : ∃ u, w.cell? ⟨g, j, none⟩ = some u := by
 obtain ⟨cur, h1, h2, _⟩ := h.row
 refine ⟨cur[j]'(by omega), ?_⟩
 rw [cell_of_row w g j cur 3 (0, 0) h1]
 simp [h2, hj]
theorem run_app_room (w : World) {base : Nat} {g n cap : Nat} {xv : Value} {l m : List Int} (hown : OI base w (.slice (some ⟨g, 0, none⟩) n cap) l) (hx : RI No w xv m) (hroom : l.length + m.length ≤ cap) (hl : l.length + m.length ≤ 17592186044416) :
  ∃ w', (∀ ty, (Builtin.append_ #[23, 23] ty #[.slice (some ⟨g, 0, none⟩) n cap, xv]).run Tryz.prog w = .ok (.slice (some ⟨g, 0, none⟩) (l.length + m.length) cap) w') ∧ OI base w' (.slice (some ⟨g, 0, none⟩) (l.length + m.length) cap) (l ++ m) ∧ Chg (fun k => k = g) w w' := by
 obtain ⟨i0, hi, hz0, hz1, hz2⟩ := info_parts Tryz.infoInt
 have hb := hown.at
 obtain ⟨_, _, hbase, hlt, hn, _, _⟩ := hb
 obtain ⟨v', w', hr, h1, h2, h3⟩ := run_app 0 hown hx hl (Nat.le_trans hbase (Nat.le_of_lt hlt))
 have hv : v' = .slice (some ⟨g, 0, none⟩) (l.length + m.length) cap := by
  obtain ⟨ao, c, rfl, hx1, hx2, hx3, hx0, hx4⟩ := hx
  cases ao with
  | none =>
   have hc0 := hx0 rfl
   subst hc0
   have hm0 : m = [] := List.eq_nil_of_length_eq_zero (by omega)
   subst hm0
   have hr2 := run_append_owned_none (P := Tryz.prog) w base 23 0 3 i0 1 Tryz.underlying23 hi _ _ _ hown.2
   rw [List.length_nil] at hr
   rw [hr] at hr2
   simp only [Result.ok.injEq] at hr2
   rw [hr2.1, hn]; rfl
  | some ad =>
   have hnews : ∀ j u, (m.map (Value.int .i64))[j]? = some u → w.cell? (ad.add j) = some u := by
    intro j u hj
    have hjl : j < m.length := by simpa using (List.getElem?_eq_some_iff.1 hj).1
    obtain ⟨b, off, he, _, _, hcell⟩ := hx4 (fun e => by rw [e] at hjl; simp at hjl)
    obtain rfl := Option.some.inj he
    rw [Addr.add_lit, hcell j hjl]
    simpa [List.getElem?_map, List.getElem?_eq_getElem hjl] using hj
   subst hn
   obtain ⟨w2, hr2, _, _⟩ := run_append_fits (P := Tryz.prog) w base 23 0 3 i0 1 Tryz.underlying23 hi hz1 g l.length cap _ hown.2 ad m.length c (m.map (Value.int .i64)) (by simp) hnews (ints_oneCell .i64 m) hroom
   rw [hr] at hr2
   simp only [Result.ok.injEq] at hr2
   exact hr2.1
 subst hv
 exact ⟨w', fun _ => hr, h1, h2.mono (fun k hk _ => own_slice.1 hk)⟩
theorem sapp_run {ops : Array Oper} {o : Oper} {a : Act} {K : Act → World → Prop} {Q : Exit → Act → World → Prop} {E : Prop} {w : World} (hgd : o.guard = none) (s x : Operand) (t tn : TypeId)
  (ho : o.op = .call { callee := .builtin .append, args := #[s, x], argTypes := #[t, tn] }) {vs vx v' : Value} {w' : World} (hr : ∀ ty, (Builtin.append_ #[t, tn] ty #[vs, vx]).run Tryz.prog w = .ok v' w') (hs : a.eval s = vs) (hx : a.eval x = vx)
  (h : K (a.put o.dst v') w') : if Region.wanted o (yielded ops a.tmps) = true then Oper.wp Tryz.prog o a w K Q else E := by
 have hw : Region.wanted o (yielded ops a.tmps) = true := by simp [Region.wanted, hgd]
 rw [if_pos hw]
 unfold Oper.wp execOp
 simp only [ho, resolve, invoke, builtin, Sem.run_bind, Sem.run_pure, Result.andThen_ok, List.map_toArray, List.map_cons, List.map_nil, hs, hx, hr]
 exact h
theorem run_clear1 (w : World) (ty : TypeId) (g o c : Nat) (u : Value) (hc : w.cell? ⟨g, o, none⟩ = some u) (hf : w.frozen? ⟨g, o, none⟩ = false) :
  (Builtin.clear_ #[23] ty #[.slice (some ⟨g, o, none⟩) 1 c]).run Tryz.prog w = .ok (.tuple #[]) (w.setCell ⟨g, o, none⟩ (.int .i64 0)) := by
 have hz : ∀ w : World, (zeroValue 3).run Tryz.prog w = .ok (.int .i64 0) w := fun w => by kernel_rfl
 have h := Lib.run_clear_slice (P := Tryz.prog) w 23 3 ty (.int .i64 0) Tryz.underlying23 hz rfl rfl g o 1 c (by omega) (fun j hj => by
  have : j = 0 := by omega
  subst this; rw [Nat.add_zero, hc]; rfl) (fun j hj => by
  have : j = 0 := by omega
  subst this; rw [Nat.add_zero]; exact hf)
 simpa [World.setCells] using h
set_option maxHeartbeats 400000 in
theorem Clone_any (A : Nat → Prop) (v : Value) (l : List Int) (w : World) (h : RI A w v l) :
  Calls Tryz.prog 90 #[v] w (Ret fun v' w' => OI w.heap.size w' v' l ∧ Chg No w w') := by
 have hL := h.len
 have h' := h
 obtain ⟨a, cap, rfl, hcap, hmax, hlen, h0, hc⟩ := h
 have he := eql_nil
 cases a with
 | none =>
  have hc0 := h0 rfl
  have hl0 : l = [] := List.eq_nil_of_length_eq_zero (by omega)
  subst hl0
  subst hc0
  go_enter Tryz.func90, Tryz.ntmps90
  go_wp2
  go_ret
  exact ⟨_, rfl, OI.nil _ _, Chg.refl _ _⟩
 | some ad =>
  go_enter Tryz.func90, Tryz.ntmps90
  go_wp2_with (at_builtin; refine wapp rfl (.tmp 5) (.tmp 6) rfl (OI.zero (Nat.le_refl w.heap.size)) ((h'.weak (fun _ hk _ => hk.elim)).keep ((Chg.refl No w).alloc _)) rfl rfl (by simpa using hL) (by simp) ?_; intro v1 w1 h1 h2 h3)
  go_ret
  exact ⟨_, rfl, by simpa using h1, ((Chg.refl No w).alloc _).own h2 (OI.zero (Nat.le_refl _)) (Nat.le_refl _)⟩
set_option maxHeartbeats 1000000 in
theorem Delete1_any (base : Nat) (v : Value) (l : List Int) (i : Nat) (j : Int) (w : World) (h : OI base w v l) (hi : i < l.length) (hj : j = (i : Int) + 1) :
  Calls Tryz.prog 170 #[v, .int .i64 i, .int .i64 j] w (Ret fun v' w' => OI base w' v' (l.eraseIdx i) ∧ Chg (own v) w w' ∧ ∀ q, own v' q → own v q) := by
 have hL := h.len
 obtain ⟨a, cap, rfl, hcap, hmax, hv⟩ := h.view
 obtain ⟨g, rfl, hg1, hg2, hcell, hfr⟩ := hv (by omega)
 have hread : RI No w (.slice (some ⟨g, 0, none⟩) l.length cap) l := h.readNo
 obtain ⟨x2, hx2, hR2⟩ := hread.from (i + 1) j (by omega) (by omega)
 have hpre := h.pre i (by omega)
 have hnn : Hid ((l.take i).length + (l.drop (i + 1)).length = l.length - 1) := Lib.hid (by simp; omega)
 obtain ⟨w1, hr, ho, hch⟩ := run_app_room w.drew (hpre.keep (Chg.refl No w).drew) (hR2.keep (Chg.refl No w).drew) (by have := hnn.out; omega) (by have := hnn.out; omega)
 rw [hnn.out] at hr ho
 obtain ⟨u, hu⟩ := ho.cellAny (l.length - 1) (by omega)
 have hfu := (ho.at).2.1 (l.length - 1)
 obtain ⟨ho2, hch2⟩ := ho.spare (l.length - 1) (Nat.le_refl _) (.int .i64 0)
 have hcl : ∀ ty c, (Builtin.clear_ #[23] ty #[.slice (some ⟨g, l.length - 1, none⟩) (l.length - (l.length - 1)) c]).run Tryz.prog w1 = .ok (.tuple #[]) (w1.setCell ⟨g, l.length - 1, none⟩ (.int .i64 0)) := fun ty c => by
  rw [show l.length - (l.length - 1) = 1 by omega]
  exact run_clear1 w1 ty g (l.length - 1) c u hu hfu
 have hne : ¬ (l.length = i) := by omega
 have hi1 : (i : Int) < (l.length : Int) := by omega
 have hji : (i : Int) < j := by omega
 have hjl : j ≤ (l.length : Int) := by omega
 have hj0 : (0 : Int) ≤ j := by omega
 have hi0 : (0 : Int) ≤ (i : Int) := by omega
 have hic : (i : Int) ≤ (cap : Int) := by omega
 have hij : ((i : Int) == j) = false := by simp; omega
 have hnl : ((l.length - 1 : Nat) : Int) = (l.length : Int) - 1 := by omega
 have HNL := Lib.hid hnl
 clear hcell hv hpre hj hnl
 go_enter Tryz.func170, Tryz.ntmps170
 go_wp2_with fail
 go_region_held3 (fun w' => Hid True) (exact trivial) (first | (refine sapp_run rfl (.tmp 22) (.tmp 25) _ _ rfl hr rfl rfl ?_) | fail)
 go_wp2
 go_ret
 refine ⟨_, rfl, ?_, ((Chg.refl _ w).drew.step hch (fun k hk _ => own_slice.2 hk)).step hch2 (fun k hk _ => own_slice.2 hk), fun q hq => own_slice.2 (own_slice.1 hq)⟩
 rw [List.eraseIdx_eq_take_drop_succ]
 exact ho2
end Go.Proofs.YtdgcohoneijleaaGreatDoor
namespace Go.Proofs.YtdgcohoneijleaaGreatDoor
open Go.RowKit
theorem run_copyI (w : World) {g : Nat} {cur : List Value} (hg : w.heap[g]? = some (.cells cur.toArray 3 (0, 0))) (o dLen dCap : Nat) (a : Addr) (sLen sCap : Nat) (m : List Int) (hm : m.length ≤ sLen ∧ m.length ≤ dLen ∧ (sLen ≤ m.length ∨ dLen ≤ m.length))
  (hsrc : ∀ j, j < m.length → w.cell? (a.add j) = some (.int .i64 (m.getD j 0))) (hfit : o + m.length ≤ cur.length) :
  ∃ w', (∀ ty, (Builtin.copy_ #[23, 23] ty #[.slice (some ⟨g, o, none⟩) dLen dCap, .slice (some a) sLen sCap]).run Tryz.prog w = .ok (goInt m.length) w') ∧
   w'.heap[g]? = some (.cells (cur.take o ++ m.map (Value.int .i64) ++ cur.drop (o + m.length)).toArray 3 (0, 0)) ∧ Chg (fun k => k = g) w w' := by
 obtain ⟨i0, hi, hz0, hz1, hz2⟩ := info_parts Tryz.infoInt
 have hr := fun ty => run_copy_row (P := Tryz.prog) w 23 23 ty 3 g o dLen dCap a sLen sCap cur.toArray 3 (m.map (Value.int .i64)) Tryz.underlying23 (by rw [hi]; simp [hz1]) hg (by rw [List.length_map]; show m.length = min sLen dLen; omega) (by
  intro j u hj
  have hjl : j < m.length := by simpa using (List.getElem?_eq_some_iff.1 hj).1
  rw [hsrc j hjl]
  simpa [List.getElem?_map, List.getElem?_eq_getElem hjl] using hj) (by simpa using hfit) (ints_oneCell .i64 m)
 refine ⟨w.setRow g (cur.take o ++ m.map (Value.int .i64) ++ cur.drop (o + m.length)).toArray, fun ty => by simpa using hr ty, setRow_heap w g cur.toArray _ 3 (0, 0) hg, ⟨rfl, rfl, rfl, by simp [World.setRow], fun k hk hne => setRow_other w g k _ hne⟩⟩
theorem wcopy_run {ops : Array Oper} {rest : List Oper} {o : Oper} {a : Act} {Q : Exit → Act → World → Prop} {w : World} (hgd : o.guard = none) (s x : Operand) (t tn : TypeId)
  (ho : o.op = .call { callee := .builtin .copy, args := #[s, x], argTypes := #[t, tn] }) {vs vx v' : Value} {w' : World} (hr : ∀ ty, (Builtin.copy_ #[t, tn] ty #[vs, vx]).run Tryz.prog w = .ok v' w') (hs : a.eval s = vs) (hx : a.eval x = vx)
  (h : wpList Tryz.prog ops Q rest (a.put o.dst v') w') : wpList Tryz.prog ops Q (o :: rest) a w := by
 refine wpList_plain hgd fun _ hK => ?_
 unfold Oper.wp execOp
 simp only [ho, resolve, invoke, builtin, Sem.run_bind, Sem.run_pure, Result.andThen_ok, List.map_toArray, List.map_cons, List.map_nil, hs, hx, hr]
 exact hK _ _ h
theorem scopy_run {ops : Array Oper} {o : Oper} {a : Act} {K : Act → World → Prop} {Q : Exit → Act → World → Prop} {E : Prop} {w : World} (hgd : o.guard = none) (s x : Operand) (t tn : TypeId)
  (ho : o.op = .call { callee := .builtin .copy, args := #[s, x], argTypes := #[t, tn] }) {vs vx v' : Value} {w' : World} (hr : ∀ ty, (Builtin.copy_ #[t, tn] ty #[vs, vx]).run Tryz.prog w = .ok v' w') (hs : a.eval s = vs) (hx : a.eval x = vx)
  (h : K (a.put o.dst v') w') : if Region.wanted o (yielded ops a.tmps) = true then Oper.wp Tryz.prog o a w K Q else E := by
 have hw : Region.wanted o (yielded ops a.tmps) = true := by simp [Region.wanted, hgd]
 rw [if_pos hw]
 unfold Oper.wp execOp
 simp only [ho, resolve, invoke, builtin, Sem.run_bind, Sem.run_pure, Result.andThen_ok, List.map_toArray, List.map_cons, List.map_nil, hs, hx, hr]
 exact h
theorem run_ov (w : World) (g gv n c nv cv : Nat) (hne : gv ≠ g) (x : Value) (t : TypeId) (hv : w.heap[gv]? = some (.cells #[x] t (0, 0))) (cur : Array Value) (hg : w.heap[g]? = some (.cells cur 3 (0, 0))) (hc : 0 < cur.size) :
  (callFunc 171 #[.slice (some ⟨gv, 0, none⟩) nv cv, .slice (some ⟨g, 1, none⟩) n c]).run Tryz.prog w = .ok (.value (.bool false)) w := by
 have hz : ∀ w : World, (sizeOf 3).run Tryz.prog w = .ok 1 w := fun w => by kernel_rfl
 rw [run_callFunc_extern (P := Tryz.prog) Tryz.func171 (by kernel_rfl) (by kernel_rfl) (by kernel_rfl) (e := Extern.SlicesOverlaps.overlaps #[23, 23] #[4]) (by kernel_rfl),
  Lib.run_overlaps_apart w 23 4 3 Tryz.underlying23 1 hz ⟨gv, 0, none⟩ ⟨g, 1, none⟩ nv cv n c hne t 3 1 cur.size (by simp [World.shape?, hv]) (by simp [World.shape?, hg]) (by omega) (by simp [World.frozen?, hv]) (by simp [World.frozen?, hv])]
 rfl
set_option maxHeartbeats 1000000 in
theorem Insert0_nil (base : Nat) (v : Value) (gv : Nat) (x : Int) (t : TypeId) (w : World) (h : OI base w v []) (hb : base ≤ w.heap.size) (hv : w.heap[gv]? = some (.cells #[.int .i64 x] t (0, 0))) :
  Calls Tryz.prog 146 #[v, .int .i64 0, .slice (some ⟨gv, 0, none⟩) 1 1] w (Ret fun v' w' => OI base w' v' [x] ∧ Chg (own v) w w' ∧ ∀ q, own v' q → own v q ∨ w.heap.size ≤ q) := by
 have hr := h.readNo
 have hc : w.cell? ⟨gv, 0, none⟩ = some (.int .i64 x) := by simp [World.cell?, hv]
 obtain ⟨a, cap, rfl, _, hcm, _⟩ := h.view
 obtain ⟨x2, hx2, _⟩ := hr.from 0 0 rfl (by simp)
 clear hr
 simp only [List.length_nil] at *
 go_enter Tryz.func146, Tryz.ntmps146
 go_wp2_with (at_builtin; refine wapp rfl (.tmp 23) (.tmp 24) rfl h (RI.one hc (Nat.le_refl _) (by omega) (fun e => e)) rfl rfl (by simp) hb ?_; intro v1 w1 h1 h2 h3)
 go_ret
 exact ⟨_, rfl, by simpa using h1, h2, h3⟩
theorem ins_row (c1 rest : List Value) (l : List Int) (x : Int) (hc : c1.length = 1) :
  ((c1 ++ l.map (Value.int .i64) ++ rest).take 0 ++ [x].map (Value.int .i64) ++ (c1 ++ l.map (Value.int .i64) ++ rest).drop (0 + [x].length)).toArray.toList.take (x :: l).length = (x :: l).map (Value.int .i64) := by
 match c1, hc with
 | [a], _ => simp
theorem run_from (w : World) (g n cap i : Nat) (z : Int) (hz : z = (i : Int)) (hi : i ≤ n) (hc : i < cap) :
  (Instr.slice 23 (.slice (some ⟨g, 0, none⟩) n cap) (some (.int .i64 z)) none none).run Tryz.prog w = .ok (.slice (some ⟨g, i, none⟩) (n - i) (cap - i)) w := by
 subst hz
 rw [run_slice_l w 23 _ n cap und_el .i64 i (by omega) (by omega), run_sz]
 have : ¬ cap = i := by omega
 simp [Result.andThen, sliced, this, Addr.add, eq_comm]
set_option maxHeartbeats 1000000 in
theorem Insert0_room (base g n cap : Nat) (l : List Int) (gv : Nat) (x : Int) (t : TypeId) (w : World) (h : OI base w (.slice (some ⟨g, 0, none⟩) n cap) l) (hl0 : 0 < l.length) (hl : l.length < 17592186044416) (hroom : l.length + 1 ≤ cap) (hv : w.heap[gv]? = some (.cells #[.int .i64 x] t (0, 0))) (hne : gv ≠ g) :
  Calls Tryz.prog 146 #[.slice (some ⟨g, 0, none⟩) n cap, .int .i64 0, .slice (some ⟨gv, 0, none⟩) 1 1] w (Ret fun v' w' => v' = .slice (some ⟨g, 0, none⟩) (l.length + 1) cap ∧ OI base w' v' (x :: l) ∧ Chg (fun k => k = g) w w') := by
 obtain ⟨cur, h1, h2, h3, hn, h5, h6, h7, h8⟩ := h.row
 have hov := run_ov w g gv l.length (cap - 1) 1 1 hne _ t hv cur h1 (by omega)
 have hcv : w.cell? ⟨gv, 0, none⟩ = some (.int .i64 x) := by simp [World.cell?, hv]
 have hgl := lt_of_block hv
 have hcell := h.at.1
 have hcl : cur.toList.length = cap := by simpa using h2
 -- copy(s[1:], s)
 obtain ⟨W1, hr1, hW1, hch1⟩ := run_copyI w.drew (cur := cur.toList) (by rw [Array.toArray_toList]; exact h1) 1 l.length (cap - 1) ⟨g, 0, none⟩ (l.length + 1) cap l (by omega)
  (fun j hj => by rw [Addr.add_lit, Nat.zero_add]; exact hcell j hj) (by omega)
 -- copy(s, v)
 obtain ⟨W2, hr2, hW2, hch2⟩ := run_copyI W1 hW1 0 (l.length + 1) cap ⟨gv, 0, none⟩ 1 1 [x] (by simp)
  (fun j hj => by
   have : j = 0 := by simpa using hj
   subst this
   rw [Addr.add_lit]
   exact (hch1.cellD gv 0 hgl hne).trans hcv) (by simp; omega)
 have hfin : OI base W2 (.slice (some ⟨g, 0, none⟩) (l.length + 1) cap) (x :: l) := by
  refine OI.ofRow hW2 ?_ ?_ rfl hroom h6 h7 (by simp; omega)
  ·simp [hcl]; omega
  ·exact ins_row _ _ _ _ (by simp [hcl]; omega)
 have hcc : Chg (fun k => k = g) w W2 := ((Chg.refl _ w).drew.trans hch1).trans hch2
 have hlen1 : (l.length : Int) + 1 ≤ (cap : Int) := by omega
 have hn1 : ((l.length : Int) == 0) = false := beq_eq_false_iff_ne.2 (by omega)
 have hn2 : ((0 : Int) == (l.length : Int)) = false := beq_eq_false_iff_ne.2 (by omega)
 have hgt : ¬ ((cap : Int) < (l.length : Int) + 1) := by omega
 have hb1 : (1 : Int) ≤ (l.length : Int) + 1 := by omega
 have hb0 : (0 : Int) ≤ (l.length : Int) + 1 := by omega
 have hs1 := fun w' => run_from w' g (l.length + 1) cap 1 1 rfl (by omega) (by omega)
 have hs0 := fun w' => run_from w' g (l.length + 1) cap 0 0 rfl (by omega) (by omega)
 simp only [Nat.add_sub_cancel, Nat.sub_zero] at hs1 hs0
 have hw01 : IntKind.i64.wrap (1 : Int) = 1 := by decide
 unfold maxLen at h6
 have HF := Lib.hid hfin
 have HC := Lib.hid hcc
 subst hn
 clear hfin hcc hcell hW1 hW2 hch1 hch2 hcl h1 h2 h3 h
 go_enter Tryz.func146, Tryz.ntmps146
 go_wp2_with fail
 go_region_held3 (fun w' => Hid True) (exact trivial) (first | (refine scopy_run rfl (.tmp 73) (.tmp 76) _ _ rfl hr1 rfl rfl ?_) | fail)
 go_wp2_with (first | (refine wcopy_run rfl (.tmp 80) (.tmp 81) _ _ rfl hr2 rfl rfl ?_) | fail)
 go_ret
 exact ⟨_, rfl, rfl, HF.out, HC.out⟩
theorem zeros_int (n : Nat) : Builtin.zeroCells (Value.int .i64 0).cells n = Array.replicate n (Value.int .i64 0) := by
 have hz : (Value.int .i64 0).cells = #[Value.int .i64 0] := rfl
 rw [hz]
 apply Array.ext
 ·simp [Builtin.zeroCells]
 ·intro i h1 h2
  simp [Builtin.zeroCells, Nat.mod_one]
theorem run_app_zeros (w : World) (g cap n : Nat) (hn : cap < n) (hl : n ≤ 17592186044416) :
  ∃ C, n ≤ C ∧ C ≤ maxLen ∧ ∀ ty, (Builtin.append_ #[23, 3] ty #[.slice (some ⟨g, 0, none⟩) 0 cap, .int .i64 (n : Int)]).run Tryz.prog w =
   .ok (.slice (some ⟨w.heap.size, 0, none⟩) n C) (w.drew.alloc (.cells (Array.replicate C (Value.int .i64 0)) 3)) := by
 obtain ⟨i, hi, hz, hz1, hz2⟩ := info_parts Tryz.infoInt
 have htn : Tryz.prog.underlying 3 = some (.int .i64) := Tryz.underlying3
 have hw : IntKind.i64.wrap (n : Int) = n := by rw [IntKind.wrap_i64]; omega
 have h63' : ¬ (9223372036854775807 < (n : Int)) := by omega
 have h48' : ¬ (281474976710656 < Builtin.nextslicecap n cap * i.bytes) := by
  have := growslice_fits (need := n) (old := cap) (bytes := i.bytes) hn (by rw [hz2]; omega)
  omega
 have h48i : ¬ (281474976710656 < (n : Int) * (i.bytes : Int)) := by rw [hz2]; omega
 have hneg : ¬ ((n : Int) < 0) := by omega
 have hns : ¬ (n * i.size = 0) := by rw [hz1]; omega
 have hnc : ¬ (n ≤ cap) := by omega
 have hge := grownCap_ge w n cap 3
 have hf := run_firstCells_some (P := Tryz.prog) w.drew i.size 0 ⟨g, 0, none⟩ 0 cap [] (by simp) (by simp)
 refine ⟨grownCap w n cap 3, hge, grownCap_le_maxLen w n cap 3 (by unfold maxLen; omega), fun ty => ?_⟩
 simp [Builtin.append_, run_underlying Tryz.underlying23, run_underlying htn, sizeOf, typeInfo, zeroValue, hi, hz, asInt, asIntOf, hw, hneg, hns, hnc, h63', h48', h48i, Question.forced, newRow, grownCap, hf]
 rw [zeros_int, zeros_int, Array.replicate_append_replicate]
 have hge' := hge
 unfold grownCap at hge'
 rw [Nat.add_sub_of_le hge']
set_option maxHeartbeats 1000000 in
theorem Insert0_grow (base g n cap : Nat) (l : List Int) (gv : Nat) (x : Int) (t : TypeId) (w : World) (h : OI base w (.slice (some ⟨g, 0, none⟩) n cap) l) (hl0 : 0 < l.length) (hl : l.length < 17592186044416) (hroom : cap < l.length + 1) (hv : w.heap[gv]? = some (.cells #[.int .i64 x] t (0, 0))) :
  Calls Tryz.prog 146 #[.slice (some ⟨g, 0, none⟩) n cap, .int .i64 0, .slice (some ⟨gv, 0, none⟩) 1 1] w (Ret fun v' w' => OI w.heap.size w' v' (x :: l) ∧ Chg No w w') := by
 have hcell := h.at.1
 have hgl := h.at.2.2.2.1
 have hn := h.at.2.2.2.2.1
 have hnc := h.at.2.2.2.2.2.1
 have hgv := lt_of_block hv
 have hcv : w.cell? ⟨gv, 0, none⟩ = some (.int .i64 x) := by simp [World.cell?, hv]
 obtain ⟨C, hC1, hC2, hr0⟩ := run_app_zeros w g cap (l.length + 1) (by omega) (by omega)
 have hW0 : (w.drew.alloc (.cells (Array.replicate C (Value.int .i64 0)) 3)).heap[w.heap.size]? = some (.cells (List.replicate C (Value.int .i64 0)).toArray 3 (0, 0)) := by
  rw [List.toArray_replicate]
  exact heap_alloc_new w.drew _
 have hch0 : Chg No w (w.drew.alloc (.cells (Array.replicate C (Value.int .i64 0)) 3)) := (Chg.refl No w).drew.alloc _
 generalize w.drew.alloc (.cells (Array.replicate C (Value.int .i64 0)) 3) = W0 at hr0 hW0 hch0
 -- copy(s2, v)
 obtain ⟨W1, hr1, hW1, hch1⟩ := run_copyI W0 hW0 0 (l.length + 1) C ⟨gv, 0, none⟩ 1 1 [x] (by simp)
  (fun j hj => by
   have : j = 0 := by simpa using hj
   subst this
   rw [Addr.add_lit]
   exact (hch0.cellD gv 0 hgv (fun e => e)).trans hcv) (by simp; omega)
 have hk1 : Chg No w W1 := hch0.step hch1 (fun k hk hl => by omega)
 -- copy(s2[1:], s)
 obtain ⟨W2, hr2, hW2, hch2⟩ := run_copyI W1.drew hW1 1 l.length (C - 1) ⟨g, 0, none⟩ l.length cap l (by omega)
  (fun j hj => by
   rw [Addr.add_lit, Nat.zero_add]
   exact (hk1.cellD g j hgl (fun e => e)).trans (hcell j hj)) (by simp; omega)
 have hk2 : Chg No w W2 := hk1.drew.step hch2 (fun k hk hl => by omega)
 have hfin : OI w.heap.size W2 (.slice (some ⟨w.heap.size, 0, none⟩) (l.length + 1) C) (x :: l) := by
  refine OI.ofRow hW2 ?_ ?_ rfl hC1 hC2 (Nat.le_refl _) (by simp; omega)
  ·simp; omega
  ·simp
 have HF := Lib.hid hfin
 have HK := Lib.hid hk2
 have hn1 : ((l.length : Int) == 0) = false := beq_eq_false_iff_ne.2 (by omega)
 have hn2 : ((0 : Int) == (l.length : Int)) = false := beq_eq_false_iff_ne.2 (by omega)
 have hgt : (cap : Int) < (l.length : Int) + 1 := by omega
 have hs0 := fun w' => run_from w' w.heap.size (l.length + 1) C 0 0 rfl (by omega) (by omega)
 have hs1 := fun w' => run_from w' w.heap.size (l.length + 1) C 1 1 rfl (by omega) (by omega)
 have hs2 := fun w' => run_from w' g l.length cap 0 0 rfl (by omega) (by omega)
 simp only [Nat.add_sub_cancel, Nat.sub_zero] at hs0 hs1 hs2
 have hw1 : IntKind.i64.wrap (1 : Int) = 1 := by decide
 subst hn
 clear hfin hk2 hk1 hch0 hch1 hch2 hW0 hW1 hW2 hcell hC1 h
 unfold maxLen at hC2
 go_enter Tryz.func146, Tryz.ntmps146
 go_wp2_with (at_builtin; refine Lib.wpList_append_run _ rfl (.tmp 34) (.tmp 39) _ _ rfl _ _ rfl rfl _ _ (hr0 _) ?_)
 go_region_held3 (fun w' => Hid True) (exact trivial) (first | (refine scopy_run rfl (.tmp 50) (.tmp 53) _ _ rfl hr2 rfl rfl ?_) | fail)
 go_wp2
 go_ret
 exact ⟨_, rfl, HF.out, HK.out⟩
theorem Insert0_any (base : Nat) (v : Value) (l : List Int) (gv : Nat) (x : Int) (t : TypeId) (w : World) (h : OI base w v l) (hb : base ≤ w.heap.size) (hl : l.length < 17592186044416) (hv : w.heap[gv]? = some (.cells #[.int .i64 x] t (0, 0))) (hne : ¬ own v gv) :
  Calls Tryz.prog 146 #[v, .int .i64 0, .slice (some ⟨gv, 0, none⟩) 1 1] w (Ret fun v' w' => OI base w' v' (x :: l) ∧ Chg (own v) w w' ∧ ∀ q, own v' q → own v q ∨ w.heap.size ≤ q) := by
 by_cases hl0 : l = []
 ·subst hl0
  exact Insert0_nil base v gv x t w h hb hv
 ·have hl1 : 0 < l.length := List.length_pos_iff.2 hl0
  obtain ⟨a, cap, rfl, hcap, _, hvw⟩ := h.view
  obtain ⟨g, rfl, _⟩ := hvw (by omega)
  by_cases hroom : l.length + 1 ≤ cap
  ·refine (Insert0_room base g _ cap l gv x t w h hl1 hl hroom hv (fun e => hne (own_slice.2 e))).mono ?_
   rintro e w' ⟨v', rfl, rfl, h1, h2⟩
   exact ⟨_, rfl, h1, h2.mono (fun k hk _ => own_slice.2 hk), fun q hq => .inl (own_slice.2 (own_slice.1 hq))⟩
  ·refine (Insert0_grow base g _ cap l gv x t w h hl1 hl (by omega) hv).mono ?_
   rintro e w' ⟨v', rfl, h1, h2⟩
   exact ⟨_, rfl, h1.weak hb, h2.mono (fun k hk _ => hk.elim), fun q hq => .inr (h1.lt q hq).1⟩
end Go.Proofs.YtdgcohoneijleaaGreatDoor
