import Derived.Test.YtdgcohoneijleaaGreatJ
namespace Go.Proofs.YtdgcohoneijleaaGreat
open Go.RowKit

theorem run_copyI (w : World) {g : Nat} {cur : List Value} (hg : w.heap[g]? = some (.cells cur.toArray 3 (0, 0))) (o dLen dCap : Nat) (a : Addr) (sLen sCap : Nat) (m : List Int) (hm : m.length ≤ sLen ∧ m.length ≤ dLen ∧ (sLen ≤ m.length ∨ dLen ≤ m.length))
    (hsrc : ∀ j, j < m.length → w.cell? (a.add j) = some (.int .i64 (m.getD j 0))) (hfit : o + m.length ≤ cur.length) :
    ∃ w', (∀ ty, (Builtin.copy_ #[25, 25] ty #[.slice (some ⟨g, o, none⟩) dLen dCap, .slice (some a) sLen sCap]).run Tryz.prog w = .ok (goInt m.length) w') ∧
      w'.heap[g]? = some (.cells (cur.take o ++ m.map (Value.int .i64) ++ cur.drop (o + m.length)).toArray 3 (0, 0)) ∧ Chg (fun k => k = g) w w' := by
  obtain ⟨i0, hi, hz0, hz1, hz2⟩ := info_parts Tryz.infoInt
  have hr := fun ty => run_copy_row (P := Tryz.prog) w 25 25 ty 3 g o dLen dCap a sLen sCap cur.toArray 3 (m.map (Value.int .i64)) Tryz.underlying25 (by rw [hi]; simp [hz1]) hg (by rw [List.length_map]; show m.length = min sLen dLen; omega) (by
    intro j u hj
    have hjl : j < m.length := by simpa using (List.getElem?_eq_some_iff.1 hj).1
    rw [hsrc j hjl]
    simpa [List.getElem?_map, List.getElem?_eq_getElem hjl] using hj) (by simpa using hfit) (ints_oneCell .i64 m)
  refine ⟨w.setRow g (cur.take o ++ m.map (Value.int .i64) ++ cur.drop (o + m.length)).toArray, fun ty => by simpa using hr ty, setRow_heap w g cur.toArray _ 3 (0, 0) hg, ⟨rfl, rfl, rfl, by simp [World.setRow], fun k hk hne => setRow_other w g k _ hne⟩⟩
theorem wcopy_run {ops : Array Oper} {rest : List Oper} {o : Oper} {a : Act} {Q : Exit → Act → World → Prop} {w : World} (hgd : o.guard = none) (s x : Operand) (t tn : TypeId)
    (ho : o.op = .call { callee := .builtin .copy, args := #[s, x], argTypes := #[t, tn] }) {vs vx v' : Value} {w' : World} (hr : ∀ ty, (Builtin.copy_ #[t, tn] ty #[vs, vx]).run Tryz.prog w = .ok v' w') (hs : a.eval s = vs) (hx : a.eval x = vx)
    (h : wpList Tryz.prog ops Q rest (a.put o.dst v') w') : wpList Tryz.prog ops Q (o :: rest) a w := by
  refine wpList_plain hgd fun _ hK => ?_
  unfold Oper.wp execOp
  simp only [ho, resolve, invoke, builtin, Sem.run_bind, Sem.run_pure, Result.andThen_ok, List.map_toArray, List.map_cons, List.map_nil, hs, hx, hr]
  exact hK _ _ h
theorem scopy_run {ops : Array Oper} {o : Oper} {a : Act} {K : Act → World → Prop} {Q : Exit → Act → World → Prop} {E : Prop} {w : World} (hgd : o.guard = none) (s x : Operand) (t tn : TypeId)
    (ho : o.op = .call { callee := .builtin .copy, args := #[s, x], argTypes := #[t, tn] }) {vs vx v' : Value} {w' : World} (hr : ∀ ty, (Builtin.copy_ #[t, tn] ty #[vs, vx]).run Tryz.prog w = .ok v' w') (hs : a.eval s = vs) (hx : a.eval x = vx)
    (h : K (a.put o.dst v') w') : if Region.wanted o (yielded ops a.tmps) = true then Oper.wp Tryz.prog o a w K Q else E := by
  have hw : Region.wanted o (yielded ops a.tmps) = true := by simp [Region.wanted, hgd]
  rw [if_pos hw]
  unfold Oper.wp execOp
  simp only [ho, resolve, invoke, builtin, Sem.run_bind, Sem.run_pure, Result.andThen_ok, List.map_toArray, List.map_cons, List.map_nil, hs, hx, hr]
  exact h

theorem run_ov (w : World) (g gv n c nv cv : Nat) (hne : gv ≠ g) (x : Value) (t : TypeId) (hv : w.heap[gv]? = some (.cells #[x] t (0, 0))) (cur : Array Value) (hg : w.heap[g]? = some (.cells cur 3 (0, 0))) (hc : 0 < cur.size) :
    (callFunc 83 #[.slice (some ⟨gv, 0, none⟩) nv cv, .slice (some ⟨g, 1, none⟩) n c]).run Tryz.prog w = .ok (.value (.bool false)) w := by
  have hz : ∀ w : World, (sizeOf 3).run Tryz.prog w = .ok 1 w := fun w => by kernel_rfl
  rw [run_callFunc_extern (P := Tryz.prog) Tryz.func83 (by kernel_rfl) (by kernel_rfl) (by kernel_rfl) (e := Extern.SlicesOverlaps.overlaps #[25, 25] #[4]) (by kernel_rfl),
    Lib.run_overlaps_apart w 25 4 3 Tryz.underlying25 1 hz ⟨gv, 0, none⟩ ⟨g, 1, none⟩ nv cv n c hne t 3 1 cur.size (by simp [World.shape?, hv]) (by simp [World.shape?, hg]) (by omega) (by simp [World.frozen?, hv]) (by simp [World.frozen?, hv])]
  rfl

set_option maxRecDepth 100000 in
set_option maxHeartbeats 1000000 in
theorem Insert0_nil (base : Nat) (v : Value) (gv : Nat) (x : Int) (t : TypeId) (w : World) (h : OI base w v []) (hb : base ≤ w.heap.size) (hv : w.heap[gv]? = some (.cells #[.int .i64 x] t (0, 0))) :
    Calls Tryz.prog 63 #[v, .int .i64 0, .slice (some ⟨gv, 0, none⟩) 1 1] w (Ret fun v' w' => OI base w' v' [x] ∧ Chg (own v) w w' ∧ ∀ q, own v' q → own v q ∨ w.heap.size ≤ q) := by
  have hr := h.readNo
  have hc : w.cell? ⟨gv, 0, none⟩ = some (.int .i64 x) := by simp [World.cell?, hv]
  obtain ⟨a, cap, rfl, _, hcm, _⟩ := h.view
  obtain ⟨x2, hx2, _⟩ := hr.from 0 0 rfl (by simp)
  clear hr
  simp only [List.length_nil] at *
  go_enter Tryz.func63, Tryz.ntmps63
  go_wp2_with (at_builtin; refine wapp rfl (.tmp 23) (.tmp 24) rfl h (RI.one hc (Nat.le_refl _) (by omega) (fun e => e)) rfl rfl (by simp) hb ?_; intro v1 w1 h1 h2 h3)
  go_ret
  exact ⟨_, rfl, by simpa using h1, h2, h3⟩

theorem ins_row (c1 rest : List Value) (l : List Int) (x : Int) (hc : c1.length = 1) :
    ((c1 ++ l.map (Value.int .i64) ++ rest).take 0 ++ [x].map (Value.int .i64) ++ (c1 ++ l.map (Value.int .i64) ++ rest).drop (0 + [x].length)).toArray.toList.take (x :: l).length = (x :: l).map (Value.int .i64) := by
  match c1, hc with
  | [a], _ => simp

theorem run_from (w : World) (g n cap i : Nat) (z : Int) (hz : z = (i : Int)) (hi : i ≤ n) (hc : i < cap) :
    (Instr.slice 25 (.slice (some ⟨g, 0, none⟩) n cap) (some (.int .i64 z)) none none).run Tryz.prog w = .ok (.slice (some ⟨g, i, none⟩) (n - i) (cap - i)) w := by
  subst hz
  rw [run_slice_l w 25 _ n cap und_el .i64 i (by omega) (by omega), run_sz]
  have : ¬ cap = i := by omega
  simp [Result.andThen, sliced, this, Addr.add, eq_comm]

set_option maxRecDepth 100000 in
set_option maxHeartbeats 1000000 in
theorem Insert0_room (base g n cap : Nat) (l : List Int) (gv : Nat) (x : Int) (t : TypeId) (w : World) (h : OI base w (.slice (some ⟨g, 0, none⟩) n cap) l) (hl0 : 0 < l.length) (hl : l.length < 17592186044416) (hroom : l.length + 1 ≤ cap) (hv : w.heap[gv]? = some (.cells #[.int .i64 x] t (0, 0))) (hne : gv ≠ g) :
    Calls Tryz.prog 63 #[.slice (some ⟨g, 0, none⟩) n cap, .int .i64 0, .slice (some ⟨gv, 0, none⟩) 1 1] w (Ret fun v' w' => v' = .slice (some ⟨g, 0, none⟩) (l.length + 1) cap ∧ OI base w' v' (x :: l) ∧ Chg (fun k => k = g) w w') := by
  obtain ⟨cur, h1, h2, h3, hn, h5, h6, h7, h8⟩ := h.row
  have hov := run_ov w g gv l.length (cap - 1) 1 1 hne _ t hv cur h1 (by omega)
  have hcv : w.cell? ⟨gv, 0, none⟩ = some (.int .i64 x) := by simp [World.cell?, hv]
  have hgl := lt_of_block hv
  have hcell := h.at.1
  have hcl : cur.toList.length = cap := by simpa using h2
  -- copy(s[1:], s)
  obtain ⟨W1, hr1, hW1, hch1⟩ := run_copyI w.drew (cur := cur.toList) (by rw [Array.toArray_toList]; exact h1) 1 l.length (cap - 1) ⟨g, 0, none⟩ (l.length + 1) cap l (by omega)
    (fun j hj => by rw [Addr.add_lit, Nat.zero_add]; exact hcell j hj) (by omega)
  -- copy(s, v)
  obtain ⟨W2, hr2, hW2, hch2⟩ := run_copyI W1 hW1 0 (l.length + 1) cap ⟨gv, 0, none⟩ 1 1 [x] (by simp)
    (fun j hj => by
      have : j = 0 := by simpa using hj
      subst this
      rw [Addr.add_lit]
      exact (hch1.cellD gv 0 hgl hne).trans hcv) (by simp; omega)
  have hfin : OI base W2 (.slice (some ⟨g, 0, none⟩) (l.length + 1) cap) (x :: l) := by
    refine OI.ofRow hW2 ?_ ?_ rfl hroom h6 h7 (by simp; omega)
    · simp [hcl]; omega
    · exact ins_row _ _ _ _ (by simp [hcl]; omega)
  have hcc : Chg (fun k => k = g) w W2 := ((Chg.refl _ w).drew.trans hch1).trans hch2
  have hlen1 : (l.length : Int) + 1 ≤ (cap : Int) := by omega
  have hn1 : ((l.length : Int) == 0) = false := beq_eq_false_iff_ne.2 (by omega)
  have hn2 : ((0 : Int) == (l.length : Int)) = false := beq_eq_false_iff_ne.2 (by omega)
  have hgt : ¬ ((cap : Int) < (l.length : Int) + 1) := by omega
  have hb1 : (1 : Int) ≤ (l.length : Int) + 1 := by omega
  have hb0 : (0 : Int) ≤ (l.length : Int) + 1 := by omega
  have hs1 := fun w' => run_from w' g (l.length + 1) cap 1 1 rfl (by omega) (by omega)
  have hs0 := fun w' => run_from w' g (l.length + 1) cap 0 0 rfl (by omega) (by omega)
  simp only [Nat.add_sub_cancel, Nat.sub_zero] at hs1 hs0
  have hw01 : IntKind.i64.wrap (1 : Int) = 1 := by decide
  unfold maxLen at h6
  have HF := Lib.hid hfin
  have HC := Lib.hid hcc
  subst hn
  clear hfin hcc hcell hW1 hW2 hch1 hch2 hcl h1 h2 h3 h
  go_enter Tryz.func63, Tryz.ntmps63
  go_wp2_with fail
  go_region_held3 (fun w' => Hid True) (exact trivial) (first | (refine scopy_run rfl (.tmp 73) (.tmp 76) _ _ rfl hr1 rfl rfl ?_) | fail)
  go_wp2_with (first | (refine wcopy_run rfl (.tmp 80) (.tmp 81) _ _ rfl hr2 rfl rfl ?_) | fail)
  go_ret
  exact ⟨_, rfl, rfl, HF.out, HC.out⟩

theorem zeros_int (n : Nat) : Builtin.zeroCells (Value.int .i64 0).cells n = Array.replicate n (Value.int .i64 0) := by
  have hz : (Value.int .i64 0).cells = #[Value.int .i64 0] := rfl
  rw [hz]
  apply Array.ext
  · simp [Builtin.zeroCells]
  · intro i h1 h2
    simp [Builtin.zeroCells, Nat.mod_one]
theorem run_app_zeros (w : World) (g cap n : Nat) (hn : cap < n) (hl : n ≤ 17592186044416) :
    ∃ C, n ≤ C ∧ C ≤ maxLen ∧ ∀ ty, (Builtin.append_ #[25, 3] ty #[.slice (some ⟨g, 0, none⟩) 0 cap, .int .i64 (n : Int)]).run Tryz.prog w =
      .ok (.slice (some ⟨w.heap.size, 0, none⟩) n C) (w.drew.alloc (.cells (Array.replicate C (Value.int .i64 0)) 3)) := by
  obtain ⟨i, hi, hz, hz1, hz2⟩ := info_parts Tryz.infoInt
  have htn : Tryz.prog.underlying 3 = some (.int .i64) := Tryz.underlying3
  have hw : IntKind.i64.wrap (n : Int) = n := by rw [IntKind.wrap_i64]; omega
  have h63' : ¬ (9223372036854775807 < (n : Int)) := by omega
  have h48' : ¬ (281474976710656 < Builtin.nextslicecap n cap * i.bytes) := by
    have := growslice_fits (need := n) (old := cap) (bytes := i.bytes) hn (by rw [hz2]; omega)
    omega
  have h48i : ¬ (281474976710656 < (n : Int) * (i.bytes : Int)) := by rw [hz2]; omega
  have hneg : ¬ ((n : Int) < 0) := by omega
  have hns : ¬ (n * i.size = 0) := by rw [hz1]; omega
  have hnc : ¬ (n ≤ cap) := by omega
  have hge := grownCap_ge w n cap 3
  have hf := run_firstCells_some (P := Tryz.prog) w.drew i.size 0 ⟨g, 0, none⟩ 0 cap [] (by simp) (by simp)
  refine ⟨grownCap w n cap 3, hge, grownCap_le_maxLen w n cap 3 (by unfold maxLen; omega), fun ty => ?_⟩
  simp [Builtin.append_, run_underlying Tryz.underlying25, run_underlying htn, sizeOf, typeInfo, zeroValue, hi, hz, asInt, asIntOf, hw, hneg, hns, hnc, h63', h48', h48i, Question.forced, newRow, grownCap, hf]
  rw [zeros_int, zeros_int, Array.replicate_append_replicate]
  have hge' := hge
  unfold grownCap at hge'
  rw [Nat.add_sub_of_le hge']

set_option maxRecDepth 100000 in
set_option maxHeartbeats 1000000 in
theorem Insert0_grow (base g n cap : Nat) (l : List Int) (gv : Nat) (x : Int) (t : TypeId) (w : World) (h : OI base w (.slice (some ⟨g, 0, none⟩) n cap) l) (hl0 : 0 < l.length) (hl : l.length < 17592186044416) (hroom : cap < l.length + 1) (hv : w.heap[gv]? = some (.cells #[.int .i64 x] t (0, 0))) :
    Calls Tryz.prog 63 #[.slice (some ⟨g, 0, none⟩) n cap, .int .i64 0, .slice (some ⟨gv, 0, none⟩) 1 1] w (Ret fun v' w' => OI w.heap.size w' v' (x :: l) ∧ Chg No w w') := by
  have hcell := h.at.1
  have hgl := h.at.2.2.2.1
  have hn := h.at.2.2.2.2.1
  have hnc := h.at.2.2.2.2.2.1
  have hgv := lt_of_block hv
  have hcv : w.cell? ⟨gv, 0, none⟩ = some (.int .i64 x) := by simp [World.cell?, hv]
  obtain ⟨C, hC1, hC2, hr0⟩ := run_app_zeros w g cap (l.length + 1) (by omega) (by omega)
  have hW0 : (w.drew.alloc (.cells (Array.replicate C (Value.int .i64 0)) 3)).heap[w.heap.size]? = some (.cells (List.replicate C (Value.int .i64 0)).toArray 3 (0, 0)) := by
    rw [List.toArray_replicate]
    exact heap_alloc_new w.drew _
  have hch0 : Chg No w (w.drew.alloc (.cells (Array.replicate C (Value.int .i64 0)) 3)) := (Chg.refl No w).drew.alloc _
  generalize w.drew.alloc (.cells (Array.replicate C (Value.int .i64 0)) 3) = W0 at hr0 hW0 hch0
  -- copy(s2, v)
  obtain ⟨W1, hr1, hW1, hch1⟩ := run_copyI W0 hW0 0 (l.length + 1) C ⟨gv, 0, none⟩ 1 1 [x] (by simp)
    (fun j hj => by
      have : j = 0 := by simpa using hj
      subst this
      rw [Addr.add_lit]
      exact (hch0.cellD gv 0 hgv (fun e => e)).trans hcv) (by simp; omega)
  have hk1 : Chg No w W1 := hch0.step hch1 (fun k hk hl => by omega)
  -- copy(s2[1:], s)
  obtain ⟨W2, hr2, hW2, hch2⟩ := run_copyI W1.drew hW1 1 l.length (C - 1) ⟨g, 0, none⟩ l.length cap l (by omega)
    (fun j hj => by
      rw [Addr.add_lit, Nat.zero_add]
      exact (hk1.cellD g j hgl (fun e => e)).trans (hcell j hj)) (by simp; omega)
  have hk2 : Chg No w W2 := hk1.drew.step hch2 (fun k hk hl => by omega)
  have hfin : OI w.heap.size W2 (.slice (some ⟨w.heap.size, 0, none⟩) (l.length + 1) C) (x :: l) := by
    refine OI.ofRow hW2 ?_ ?_ rfl hC1 hC2 (Nat.le_refl _) (by simp; omega)
    · simp; omega
    · simp
  have HF := Lib.hid hfin
  have HK := Lib.hid hk2
  have hn1 : ((l.length : Int) == 0) = false := beq_eq_false_iff_ne.2 (by omega)
  have hn2 : ((0 : Int) == (l.length : Int)) = false := beq_eq_false_iff_ne.2 (by omega)
  have hgt : (cap : Int) < (l.length : Int) + 1 := by omega
  have hs0 := fun w' => run_from w' w.heap.size (l.length + 1) C 0 0 rfl (by omega) (by omega)
  have hs1 := fun w' => run_from w' w.heap.size (l.length + 1) C 1 1 rfl (by omega) (by omega)
  have hs2 := fun w' => run_from w' g l.length cap 0 0 rfl (by omega) (by omega)
  simp only [Nat.add_sub_cancel, Nat.sub_zero] at hs0 hs1 hs2
  have hw1 : IntKind.i64.wrap (1 : Int) = 1 := by decide
  subst hn
  clear hfin hk2 hk1 hch0 hch1 hch2 hW0 hW1 hW2 hcell hC1 h
  unfold maxLen at hC2
  go_enter Tryz.func63, Tryz.ntmps63
  go_wp2_with (at_builtin; refine Lib.wpList_append_run _ rfl (.tmp 34) (.tmp 39) _ _ rfl _ _ rfl rfl _ _ (hr0 _) ?_)
  go_region_held3 (fun w' => Hid True) (exact trivial) (first | (refine scopy_run rfl (.tmp 50) (.tmp 53) _ _ rfl hr2 rfl rfl ?_) | fail)
  go_wp2
  go_ret
  exact ⟨_, rfl, HF.out, HK.out⟩

theorem Insert0_any (base : Nat) (v : Value) (l : List Int) (gv : Nat) (x : Int) (t : TypeId) (w : World) (h : OI base w v l) (hb : base ≤ w.heap.size) (hl : l.length < 17592186044416) (hv : w.heap[gv]? = some (.cells #[.int .i64 x] t (0, 0))) (hne : ¬ own v gv) :
    Calls Tryz.prog 63 #[v, .int .i64 0, .slice (some ⟨gv, 0, none⟩) 1 1] w (Ret fun v' w' => OI base w' v' (x :: l) ∧ Chg (own v) w w' ∧ ∀ q, own v' q → own v q ∨ w.heap.size ≤ q) := by
  by_cases hl0 : l = []
  · subst hl0
    exact Insert0_nil base v gv x t w h hb hv
  · have hl1 : 0 < l.length := List.length_pos_iff.2 hl0
    obtain ⟨a, cap, rfl, hcap, _, hvw⟩ := h.view
    obtain ⟨g, rfl, _⟩ := hvw (by omega)
    by_cases hroom : l.length + 1 ≤ cap
    · refine (Insert0_room base g _ cap l gv x t w h hl1 hl hroom hv (fun e => hne (own_slice.2 e))).mono ?_
      rintro e w' ⟨v', rfl, rfl, h1, h2⟩
      exact ⟨_, rfl, h1, h2.mono (fun k hk _ => own_slice.2 hk), fun q hq => .inl (own_slice.2 (own_slice.1 hq))⟩
    · refine (Insert0_grow base g _ cap l gv x t w h hl1 hl (by omega) hv).mono ?_
      rintro e w' ⟨v', rfl, h1, h2⟩
      exact ⟨_, rfl, h1.weak hb, h2.mono (fun k hk _ => hk.elim), fun q hq => .inr (h1.lt q hq).1⟩
end Go.Proofs.YtdgcohoneijleaaGreat
