import Derived.Test.YtdgcohoneijleaaGreatPkX1
import Derived.Lib.Overlaps
import Derived.Lib.AppendZeros
import Derived.Laws.CopyOwn
import Derived.Lib.SliceRun
namespace Go.Proofs.YtdgcohoneijleaaGreat
open Go.RowKit

theorem eql_nil (w : World) (a : Option Addr) (n c : Nat) : (binOp .eql 25 (.slice a n c) (.slice none 0 0)).run Tryz.prog w = .ok (.bool a.isNone) w := by
  simp only [binOp]
  simp [Op.equal, Op.maxDepth, Lib.run_equalIn_slice_nil w 9999 25 3 a n c 0 0 Tryz.underlying25]

/-- the row in which an owned slice lies -/
theorem OI.row {base : Nat} {w : World} {g n cap : Nat} {l : List Int} (h : OI base w (.slice (some ⟨g, 0, none⟩) n cap) l) :
    ∃ cur : Array Value, w.heap[g]? = some (.cells cur 3 (0, 0)) ∧ cur.size = cap ∧ cur.toList.take l.length = l.map (Value.int .i64) ∧ n = l.length ∧ n ≤ cap ∧ cap ≤ maxLen ∧ base ≤ g ∧ g < w.heap.size := by
  have ha := h.at
  rcases h.2.2 with ⟨hv, _⟩ | ⟨g', cap', cur, hv, hb, hg, hn, hm, hs, ht⟩
  · simp at hv
  · simp only [Value.slice.injEq, Option.some.injEq, Addr.mk.injEq, and_true] at hv
    obtain ⟨rfl, h2, rfl⟩ := hv
    exact ⟨cur, hg, by simpa using hs, by simpa using ht, h2, by omega, hm, hb, ha.2.2.2.1⟩
theorem OI.ofRow {base : Nat} {w : World} {g n cap : Nat} {l : List Int} {cur : Array Value} (hg : w.heap[g]? = some (.cells cur 3 (0, 0))) (hs : cur.size = cap) (ht : cur.toList.take l.length = l.map (Value.int .i64))
    (hn : n = l.length) (hc : n ≤ cap) (hm : cap ≤ maxLen) (hb : base ≤ g) (hl : l.length ≤ 17592186044416) : OI base w (.slice (some ⟨g, 0, none⟩) n cap) l := by
  subst hn
  exact ⟨hl, by simp, .inr ⟨g, cap, cur, rfl, hb, hg, hc, hm, by simpa using hs, by simpa using ht⟩⟩
theorem OI.pre {base : Nat} {w : World} {g n cap : Nat} {l : List Int} (h : OI base w (.slice (some ⟨g, 0, none⟩) n cap) l) (i : Nat) (hi : i ≤ l.length) : OI base w (.slice (some ⟨g, 0, none⟩) i cap) (l.take i) := by
  obtain ⟨cur, h1, h2, h3, h4, h5, h6, h7, _⟩ := h.row
  have hL := h.len
  refine OI.ofRow h1 h2 ?_ (by simp; omega) (by omega) h6 h7 (by simp; omega)
  rw [List.map_take, ← h3, List.take_take, List.length_take]
theorem OI.spare {base : Nat} {w : World} {g n cap : Nat} {l : List Int} (h : OI base w (.slice (some ⟨g, 0, none⟩) n cap) l) (j : Nat) (hj : n ≤ j) (u : Value) :
    OI base (w.setCell ⟨g, j, none⟩ u) (.slice (some ⟨g, 0, none⟩) n cap) l ∧ Chg (fun k => k = g) w (w.setCell ⟨g, j, none⟩ u) := by
  obtain ⟨cur, h1, h2, h3, h4, h5, h6, h7, h8⟩ := h.row
  refine ⟨OI.ofRow (heap_setCell_same w g j cur 3 u h1) (by simpa using h2) ?_ h4 h5 h6 h7 h.len, (Chg.refl (fun k => k = g) w).setCell (p := ⟨g, j, none⟩) (fun _ => rfl) u⟩
  rw [Array.toList_setIfInBounds, List.take_set_of_le (by omega), h3]
theorem OI.cellAny {base : Nat} {w : World} {g n cap : Nat} {l : List Int} (h : OI base w (.slice (some ⟨g, 0, none⟩) n cap) l) (j : Nat) (hj : j < cap) : ∃ u, w.cell? ⟨g, j, none⟩ = some u := by
  obtain ⟨cur, h1, h2, _⟩ := h.row
  refine ⟨cur[j]'(by omega), ?_⟩
  rw [cell_of_row w g j cur 3 (0, 0) h1]
  simp [h2, hj]

/-- append within the capacity -/
theorem run_app_room (w : World) {base : Nat} {g n cap : Nat} {xv : Value} {l m : List Int} (hown : OI base w (.slice (some ⟨g, 0, none⟩) n cap) l) (hx : RI No w xv m) (hroom : l.length + m.length ≤ cap) (hl : l.length + m.length ≤ 17592186044416) :
    ∃ w', (∀ ty, (Builtin.append_ #[25, 25] ty #[.slice (some ⟨g, 0, none⟩) n cap, xv]).run Tryz.prog w = .ok (.slice (some ⟨g, 0, none⟩) (l.length + m.length) cap) w') ∧ OI base w' (.slice (some ⟨g, 0, none⟩) (l.length + m.length) cap) (l ++ m) ∧ Chg (fun k => k = g) w w' := by
  obtain ⟨i0, hi, hz0, hz1, hz2⟩ := info_parts Tryz.infoInt
  have hb := hown.at
  obtain ⟨_, _, hbase, hlt, hn, _, _⟩ := hb
  obtain ⟨v', w', hr, h1, h2, h3⟩ := run_app 0 hown hx hl (Nat.le_trans hbase (Nat.le_of_lt hlt))
  have hv : v' = .slice (some ⟨g, 0, none⟩) (l.length + m.length) cap := by
    obtain ⟨ao, c, rfl, hx1, hx2, hx3, hx0, hx4⟩ := hx
    cases ao with
    | none =>
      have hc0 := hx0 rfl
      subst hc0
      have hm0 : m = [] := List.eq_nil_of_length_eq_zero (by omega)
      subst hm0
      have hr2 := run_append_owned_none (P := Tryz.prog) w base 25 0 3 i0 1 Tryz.underlying25 hi _ _ _ hown.2
      rw [List.length_nil] at hr
      rw [hr] at hr2
      simp only [Result.ok.injEq] at hr2
      rw [hr2.1, hn]; rfl
    | some ad =>
      have hnews : ∀ j u, (m.map (Value.int .i64))[j]? = some u → w.cell? (ad.add j) = some u := by
        intro j u hj
        have hjl : j < m.length := by simpa using (List.getElem?_eq_some_iff.1 hj).1
        obtain ⟨b, off, he, _, _, hcell⟩ := hx4 (fun e => by rw [e] at hjl; simp at hjl)
        obtain rfl := Option.some.inj he
        rw [Addr.add_lit, hcell j hjl]
        simpa [List.getElem?_map, List.getElem?_eq_getElem hjl] using hj
      subst hn
      obtain ⟨w2, hr2, _, _⟩ := run_append_fits (P := Tryz.prog) w base 25 0 3 i0 1 Tryz.underlying25 hi hz1 g l.length cap _ hown.2 ad m.length c (m.map (Value.int .i64)) (by simp) hnews (ints_oneCell .i64 m) hroom
      rw [hr] at hr2
      simp only [Result.ok.injEq] at hr2
      exact hr2.1
  subst hv
  exact ⟨w', fun _ => hr, h1, h2.mono (fun k hk _ => own_slice.1 hk)⟩

/-- an append whose run is known, at a step of a region that draws -/
theorem sapp_run {ops : Array Oper} {o : Oper} {a : Act} {K : Act → World → Prop} {Q : Exit → Act → World → Prop} {E : Prop} {w : World} (hgd : o.guard = none) (s x : Operand) (t tn : TypeId)
    (ho : o.op = .call { callee := .builtin .append, args := #[s, x], argTypes := #[t, tn] }) {vs vx v' : Value} {w' : World} (hr : ∀ ty, (Builtin.append_ #[t, tn] ty #[vs, vx]).run Tryz.prog w = .ok v' w') (hs : a.eval s = vs) (hx : a.eval x = vx)
    (h : K (a.put o.dst v') w') : if Region.wanted o (yielded ops a.tmps) = true then Oper.wp Tryz.prog o a w K Q else E := by
  have hw : Region.wanted o (yielded ops a.tmps) = true := by simp [Region.wanted, hgd]
  rw [if_pos hw]
  unfold Oper.wp execOp
  simp only [ho, resolve, invoke, builtin, Sem.run_bind, Sem.run_pure, Result.andThen_ok, List.map_toArray, List.map_cons, List.map_nil, hs, hx, hr]
  exact h

theorem run_clear1 (w : World) (ty : TypeId) (g o c : Nat) (u : Value) (hc : w.cell? ⟨g, o, none⟩ = some u) (hf : w.frozen? ⟨g, o, none⟩ = false) :
    (Builtin.clear_ #[25] ty #[.slice (some ⟨g, o, none⟩) 1 c]).run Tryz.prog w = .ok (.tuple #[]) (w.setCell ⟨g, o, none⟩ (.int .i64 0)) := by
  have hz : ∀ w : World, (zeroValue 3).run Tryz.prog w = .ok (.int .i64 0) w := fun w => by kernel_rfl
  have h := Lib.run_clear_slice (P := Tryz.prog) w 25 3 ty (.int .i64 0) Tryz.underlying25 hz rfl rfl g o 1 c (by omega) (fun j hj => by
    have : j = 0 := by omega
    subst this; rw [Nat.add_zero, hc]; rfl) (fun j hj => by
    have : j = 0 := by omega
    subst this; rw [Nat.add_zero]; exact hf)
  simpa [World.setCells] using h

set_option maxRecDepth 100000 in
set_option maxHeartbeats 400000 in
theorem Clone_any (A : Nat → Prop) (v : Value) (l : List Int) (w : World) (h : RI A w v l) :
    Calls Tryz.prog 29 #[v] w (Ret fun v' w' => OI w.heap.size w' v' l ∧ Chg No w w') := by
  have hL := h.len
  have h' := h
  obtain ⟨a, cap, rfl, hcap, hmax, hlen, h0, hc⟩ := h
  have he := eql_nil
  cases a with
  | none =>
    have hc0 := h0 rfl
    have hl0 : l = [] := List.eq_nil_of_length_eq_zero (by omega)
    subst hl0
    subst hc0
    go_enter Tryz.func29, Tryz.ntmps29
    go_wp2
    go_ret
    exact ⟨_, rfl, OI.nil _ _, Chg.refl _ _⟩
  | some ad =>
    go_enter Tryz.func29, Tryz.ntmps29
    go_wp2_with (at_builtin; refine wapp rfl (.tmp 5) (.tmp 6) rfl (OI.zero (Nat.le_refl w.heap.size)) ((h'.weak (fun _ hk _ => hk.elim)).keep ((Chg.refl No w).alloc _)) rfl rfl (by simpa using hL) (by simp) ?_; intro v1 w1 h1 h2 h3)
    go_ret
    exact ⟨_, rfl, by simpa using h1, ((Chg.refl No w).alloc _).own h2 (OI.zero (Nat.le_refl _)) (Nat.le_refl _)⟩

set_option maxRecDepth 100000 in
set_option maxHeartbeats 1000000 in
theorem Delete1_any (base : Nat) (v : Value) (l : List Int) (i : Nat) (j : Int) (w : World) (h : OI base w v l) (hi : i < l.length) (hj : j = (i : Int) + 1) :
    Calls Tryz.prog 70 #[v, .int .i64 i, .int .i64 j] w (Ret fun v' w' => OI base w' v' (l.eraseIdx i) ∧ Chg (own v) w w' ∧ ∀ q, own v' q → own v q) := by
  have hL := h.len
  obtain ⟨a, cap, rfl, hcap, hmax, hv⟩ := h.view
  obtain ⟨g, rfl, hg1, hg2, hcell, hfr⟩ := hv (by omega)
  have hread : RI No w (.slice (some ⟨g, 0, none⟩) l.length cap) l := h.readNo
  obtain ⟨x2, hx2, hR2⟩ := hread.from (i + 1) j (by omega) (by omega)
  have hpre := h.pre i (by omega)
  have hnn : Hid ((l.take i).length + (l.drop (i + 1)).length = l.length - 1) := Lib.hid (by simp; omega)
  obtain ⟨w1, hr, ho, hch⟩ := run_app_room w.drew (hpre.keep (Chg.refl No w).drew) (hR2.keep (Chg.refl No w).drew) (by have := hnn.out; omega) (by have := hnn.out; omega)
  rw [hnn.out] at hr ho
  obtain ⟨u, hu⟩ := ho.cellAny (l.length - 1) (by omega)
  have hfu := (ho.at).2.1 (l.length - 1)
  obtain ⟨ho2, hch2⟩ := ho.spare (l.length - 1) (Nat.le_refl _) (.int .i64 0)
  have hcl : ∀ ty c, (Builtin.clear_ #[25] ty #[.slice (some ⟨g, l.length - 1, none⟩) (l.length - (l.length - 1)) c]).run Tryz.prog w1 = .ok (.tuple #[]) (w1.setCell ⟨g, l.length - 1, none⟩ (.int .i64 0)) := fun ty c => by
    rw [show l.length - (l.length - 1) = 1 by omega]
    exact run_clear1 w1 ty g (l.length - 1) c u hu hfu
  have hne : ¬ (l.length = i) := by omega
  have hi1 : (i : Int) < (l.length : Int) := by omega
  have hji : (i : Int) < j := by omega
  have hjl : j ≤ (l.length : Int) := by omega
  have hj0 : (0 : Int) ≤ j := by omega
  have hi0 : (0 : Int) ≤ (i : Int) := by omega
  have hic : (i : Int) ≤ (cap : Int) := by omega
  have hij : ((i : Int) == j) = false := by simp; omega
  have hnl : ((l.length - 1 : Nat) : Int) = (l.length : Int) - 1 := by omega
  have HNL := Lib.hid hnl
  clear hcell hv hpre hj hnl
  go_enter Tryz.func70, Tryz.ntmps70
  go_wp2_with fail
  go_region_held3 (fun w' => Hid True) (exact trivial) (first | (refine sapp_run rfl (.tmp 22) (.tmp 25) _ _ rfl hr rfl rfl ?_) | fail)
  go_wp2
  go_ret
  refine ⟨_, rfl, ?_, ((Chg.refl _ w).drew.step hch (fun k hk _ => own_slice.2 hk)).step hch2 (fun k hk _ => own_slice.2 hk), fun q hq => own_slice.2 (own_slice.1 hq)⟩
  rw [List.eraseIdx_eq_take_drop_succ]
  exact ho2
end Go.Proofs.YtdgcohoneijleaaGreat
