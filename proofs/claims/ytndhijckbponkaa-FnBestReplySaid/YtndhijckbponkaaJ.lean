import Derived.Test.YtndhijckbponkaaI
import Derived.Lib.Overlaps
import Derived.Lib.AppendZeros
import Derived.Laws.CopyOwn
import Derived.Lib.SliceRun
namespace Go.Proofs.Ytndhijckbponkaa
open Go.RowKit

theorem eql_nil (w : World) (a : Option Addr) (n c : Nat) : (binOp .eql 25 (.slice a n c) (.slice none 0 0)).run Try.prog w = .ok (.bool a.isNone) w := by
  simp only [binOp]
  simp [Op.equal, Op.maxDepth, Lib.run_equalIn_slice_nil w 9999 25 3 a n c 0 0 Try.underlying25]

/-- the row in which an owned slice lies -/
theorem OI.row {base : Nat} {w : World} {g n cap : Nat} {l : List Int} (h : OI base w (.slice (some ⟨g, 0, none⟩) n cap) l) :
    ∃ cur : Array Value, w.heap[g]? = some (.cells cur 3 (0, 0)) ∧ cur.size = cap ∧ cur.toList.take l.length = l.map (Value.int .i64) ∧ n = l.length ∧ n ≤ cap ∧ cap ≤ maxLen ∧ base ≤ g ∧ g < w.heap.size := by
  have ha := h.at
  rcases h.2.2 with ⟨hv, _⟩ | ⟨g', cap', cur, hv, hb, hg, hn, hm, hs, ht⟩
  · simp at hv
  · simp only [Value.slice.injEq, Option.some.injEq, Addr.mk.injEq, and_true] at hv
    obtain ⟨rfl, h2, rfl⟩ := hv
    exact ⟨cur, hg, by simpa using hs, by simpa using ht, h2, by omega, hm, hb, ha.2.2.2.1⟩
theorem OI.ofRow {base : Nat} {w : World} {g n cap : Nat} {l : List Int} {cur : Array Value} (hg : w.heap[g]? = some (.cells cur 3 (0, 0))) (hs : cur.size = cap) (ht : cur.toList.take l.length = l.map (Value.int .i64))
    (hn : n = l.length) (hc : n ≤ cap) (hm : cap ≤ maxLen) (hb : base ≤ g) (hl : l.length ≤ 17592186044416) : OI base w (.slice (some ⟨g, 0, none⟩) n cap) l := by
  subst hn
  exact ⟨hl, by simp, .inr ⟨g, cap, cur, rfl, hb, hg, hc, hm, by simpa using hs, by simpa using ht⟩⟩
theorem OI.pre {base : Nat} {w : World} {g n cap : Nat} {l : List Int} (h : OI base w (.slice (some ⟨g, 0, none⟩) n cap) l) (i : Nat) (hi : i ≤ l.length) : OI base w (.slice (some ⟨g, 0, none⟩) i cap) (l.take i) := by
  obtain ⟨cur, h1, h2, h3, h4, h5, h6, h7, _⟩ := h.row
  have hL := h.len
  refine OI.ofRow h1 h2 ?_ (by simp; omega) (by omega) h6 h7 (by simp; omega)
  rw [List.map_take, ← h3, List.take_take, List.length_take]
theorem OI.spare {base : Nat} {w : World} {g n cap : Nat} {l : List Int} (h : OI base w (.slice (some ⟨g, 0, none⟩) n cap) l) (j : Nat) (hj : n ≤ j) (u : Value) :
    OI base (w.setCell ⟨g, j, none⟩ u) (.slice (some ⟨g, 0, none⟩) n cap) l ∧ Chg (fun k => k = g) w (w.setCell ⟨g, j, none⟩ u) := by
  obtain ⟨cur, h1, h2, h3, h4, h5, h6, h7, h8⟩ := h.row
  refine ⟨OI.ofRow (heap_setCell_same w g j cur 3 u h1) (by simpa using h2) ?_ h4 h5 h6 h7 h.len, (Chg.refl (fun k => k = g) w).setCell (p := ⟨g, j, none⟩) (fun _ => rfl) u⟩
  rw [Array.toList_setIfInBounds, List.take_set_of_le (by omega), h3]
set_option maxRecDepth 100000 in
set_option maxHeartbeats 400000 in
theorem Clone_any (A : Nat → Prop) (v : Value) (l : List Int) (w : World) (h : RI A w v l) :
    Calls Try.prog 80 #[v] w (Ret fun v' w' => OI w.heap.size w' v' l ∧ Chg No w w') := by
  have hL := h.len
  have h' := h
  obtain ⟨a, cap, rfl, hcap, hmax, hlen, h0, hc⟩ := h
  have he := eql_nil
  cases a with
  | none =>
    have hc0 := h0 rfl
    have hl0 : l = [] := List.eq_nil_of_length_eq_zero (by omega)
    subst hl0
    subst hc0
    go_enter Try.func80, Try.ntmps80
    go_wp2
    go_ret
    exact ⟨_, rfl, OI.nil _ _, Chg.refl _ _⟩
  | some ad =>
    go_enter Try.func80, Try.ntmps80
    go_wp2_with (at_builtin; refine wapp rfl (.tmp 5) (.tmp 6) rfl (OI.zero (Nat.le_refl w.heap.size)) ((h'.weak (fun _ hk _ => hk.elim)).keep ((Chg.refl No w).alloc _)) rfl rfl (by simpa using hL) (by simp) ?_; intro v1 w1 h1 h2 h3)
    go_ret
    exact ⟨_, rfl, by simpa using h1, ((Chg.refl No w).alloc _).own h2 (OI.zero (Nat.le_refl _)) (Nat.le_refl _)⟩
end Go.Proofs.Ytndhijckbponkaa
