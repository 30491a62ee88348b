import Derived.Test.YtndhijckbponkaaPkX1
import Derived.Lib.Overlaps
import Derived.Lib.AppendZeros
import Derived.Laws.CopyOwn
import Derived.Lib.SliceRun
import Derived.Shelf.Slices.Turned
import Derived.Shelf.Slices.Equal
import Derived.Ground.Names2Prog
import Derived.Shelf.Slices.Clone
import Derived.Shelf.Slices.Empties2
import Derived.Test.YtndhijckbponkaaProg
namespace Go.Proofs.Ytndhijckbponkaa
open Go.RowKit

theorem eql_nil (w : World) (a : Option Addr) (n c : Nat) : (binOp .eql 25 (.slice a n c) (.slice none 0 0)).run Try.prog w = .ok (.bool a.isNone) w := by
  simp only [binOp]
  simp [Op.equal, Op.maxDepth, Lib.run_equalIn_slice_nil w 9999 25 3 a n c 0 0 Try.underlying25]

/-- the row in which an owned slice lies -/
theorem OI.row {base : Nat} {w : World} {g n cap : Nat} {l : List Int} (h : OI base w (.slice (some ⟨g, 0, none⟩) n cap) l) :
    ∃ cur : Array Value, w.heap[g]? = some (.cells cur 3 (0, 0)) ∧ cur.size = cap ∧ cur.toList.take l.length = l.map (Value.int .i64) ∧ n = l.length ∧ n ≤ cap ∧ cap ≤ maxLen ∧ base ≤ g ∧ g < w.heap.size := by
  have ha := h.at
  rcases h.2.2 with ⟨hv, _⟩ | ⟨g', cap', cur, hv, hb, hg, hn, hm, hs, ht⟩
  · simp at hv
  · simp only [Value.slice.injEq, Option.some.injEq, Addr.mk.injEq, and_true] at hv
    obtain ⟨rfl, h2, rfl⟩ := hv
    exact ⟨cur, hg, by simpa using hs, by simpa using ht, h2, by omega, hm, hb, ha.2.2.2.1⟩
theorem OI.ofRow {base : Nat} {w : World} {g n cap : Nat} {l : List Int} {cur : Array Value} (hg : w.heap[g]? = some (.cells cur 3 (0, 0))) (hs : cur.size = cap) (ht : cur.toList.take l.length = l.map (Value.int .i64))
    (hn : n = l.length) (hc : n ≤ cap) (hm : cap ≤ maxLen) (hb : base ≤ g) (hl : l.length ≤ 17592186044416) : OI base w (.slice (some ⟨g, 0, none⟩) n cap) l := by
  subst hn
  exact ⟨hl, by simp, .inr ⟨g, cap, cur, rfl, hb, hg, hc, hm, by simpa using hs, by simpa using ht⟩⟩
theorem OI.pre {base : Nat} {w : World} {g n cap : Nat} {l : List Int} (h : OI base w (.slice (some ⟨g, 0, none⟩) n cap) l) (i : Nat) (hi : i ≤ l.length) : OI base w (.slice (some ⟨g, 0, none⟩) i cap) (l.take i) := by
  obtain ⟨cur, h1, h2, h3, h4, h5, h6, h7, _⟩ := h.row
  have hL := h.len
  refine OI.ofRow h1 h2 ?_ (by simp; omega) (by omega) h6 h7 (by simp; omega)
  rw [List.map_take, ← h3, List.take_take, List.length_take]
theorem OI.spare {base : Nat} {w : World} {g n cap : Nat} {l : List Int} (h : OI base w (.slice (some ⟨g, 0, none⟩) n cap) l) (j : Nat) (hj : n ≤ j) (u : Value) :
    OI base (w.setCell ⟨g, j, none⟩ u) (.slice (some ⟨g, 0, none⟩) n cap) l ∧ Chg (fun k => k = g) w (w.setCell ⟨g, j, none⟩ u) := by
  obtain ⟨cur, h1, h2, h3, h4, h5, h6, h7, h8⟩ := h.row
  refine ⟨OI.ofRow (heap_setCell_same w g j cur 3 u h1) (by simpa using h2) ?_ h4 h5 h6 h7 h.len, (Chg.refl (fun k => k = g) w).setCell (p := ⟨g, j, none⟩) (fun _ => rfl) u⟩
  rw [Array.toList_setIfInBounds, List.take_set_of_le (by omega), h3]
set_option maxRecDepth 100000 in
set_option maxHeartbeats 400000 in
theorem Clone_any (A : Nat → Prop) (v : Value) (l : List Int) (w : World) (h : RI A w v l) :
    Calls Try.prog 80 #[v] w (Ret fun v' w' => OI w.heap.size w' v' l ∧ Chg No w w') := by
  have hL := h.len
  have h' := h
  obtain ⟨a, cap, rfl, hcap, hmax, hlen, h0, hc⟩ := h
  have he := eql_nil
  cases a with
  | none =>
    have hc0 := h0 rfl
    have hl0 : l = [] := List.eq_nil_of_length_eq_zero (by omega)
    subst hl0
    subst hc0
    go_enter Try.func80, Try.ntmps80
    go_wp2
    go_ret
    exact ⟨_, rfl, OI.nil _ _, Chg.refl _ _⟩
  | some ad =>
    go_enter Try.func80, Try.ntmps80
    go_wp2_with (at_builtin; refine wapp rfl (.tmp 5) (.tmp 6) rfl (OI.zero (Nat.le_refl w.heap.size)) ((h'.weak (fun _ hk _ => hk.elim)).keep ((Chg.refl No w).alloc _)) rfl rfl (by simpa using hL) (by simp) ?_; intro v1 w1 h1 h2 h3)
    go_ret
    exact ⟨_, rfl, by simpa using h1, ((Chg.refl No w).alloc _).own h2 (OI.zero (Nat.le_refl _)) (Nat.le_refl _)⟩
end Go.Proofs.Ytndhijckbponkaa

namespace Go.Proofs.Ytndhijckbponkaa
open Go.RowKit

theorem OI.set {base : Nat} {w : World} {v : Value} {l : List Int} (h : OI base w v l) (b o : Nat) (x : Value) (hb : ¬ own v b) : OI base (w.setCell ⟨b, o, none⟩ x) v l :=
  h.step (T := fun k => k = b) ((Chg.refl (fun k => k = b) w).setCell (p := ⟨b, o, none⟩) (fun _ => rfl) x) (fun _ hk e => hb (e ▸ hk))
theorem OI.fin {base : Nat} {A : Nat → Prop} {w w1 w2 : World} {v : Value} {l : List Int} (h : OI base w1 v l) {T : Nat → Prop} (hc : Chg T w1 w2) (hT : ∀ k, own v k → ¬ T k) (hA : Bd A w) (hb : w.heap.size ≤ base) : RI A w2 v l :=
  (h.step hc hT).readBd hA hb
end Go.Proofs.Ytndhijckbponkaa

namespace Go.Proofs.Ytndhijckbponkaa
open Go.RowKit

theorem quiet_sym {P : Program} {f : FuncId} {args : Array Value} {w : World} {n : Nat} {v : Value}
    (h : Calls P f args (w.drewN n) fun e w' => e = .returned v ∧ w.drewN n = w') : Calls P f args (w.drewN n) fun e w'' => e = .returned v ∧ ∃ m, w'' = w.drewN m :=
  Calls.quiet_of_same (h.mono fun _ _ h => ⟨h.1, h.2.symm⟩)
end Go.Proofs.Ytndhijckbponkaa

/-
  The library contracts of this dump, laid by the kit's tools.
-/






namespace Go.Proofs
open Go.Shelf
def Try.lays113_ren : Go.Shelf.Ren := ⟨fun | 113 => 106 | n => n, fun | 28 => 25 | 3 => 3 | 4 => 4 | 9 => 9 | 20 => 20 | 0 => 0 | n => n, fun | n => n⟩
theorem Try.lays113 : Go.Proofs.Lays.n113 Try.prog Try.lays113_ren := {
  mixed := by kernel_rfl
  f113 := Try.func106.trans (congrArg some (by kernel_rfl))
  t0 := Try.underlying0
  a0 := Try.isAgg0
  z0 := Try.sizeOf0
  v0 := Try.zeroValue0
  t3 := Try.underlying3
  a3 := Try.isAgg3
  z3 := Try.sizeOf3
  v3 := Try.zeroValue3
  t4 := Try.underlying4
  a4 := Try.isAgg4
  z4 := Try.sizeOf4
  v4 := Try.zeroValue4
  t9 := Try.underlying9
  a9 := Try.isAgg9
  z9 := Try.sizeOf9
  v9 := Try.zeroValue9
  t20 := Try.underlying20
  a20 := Try.isAgg20
  z20 := Try.sizeOf20
  v20 := Try.zeroValue20
  t28 := Try.underlying25
  a28 := Try.isAgg25
  z28 := Try.sizeOf25
  v28 := Try.zeroValue25 }
open Go.Lib in
theorem Try.slices_Max_int (b off n c : Nat) (zs : List Int) (w : World) (hn : 0 < n) (hz : n ≤ zs.length) (hbig : n ≤ 9223372036854775807) (hc : ∀ j, j < zs.length → w.cell? ⟨b, off + j, none⟩ = some (.int .i64 (zs.getD j 0))) :
    Calls Try.prog 106 #[.slice (some ⟨b, off, none⟩) n c] w fun e w' => e = .returned (.int .i64 (Lib.maxOf (zs.take n))) ∧ w' = w := Any.slices_Max_int Try.lays113 b off n c zs w hn hz hbig hc
def Try.lays111_ren : Go.Shelf.Ren := ⟨fun | 111 => 82 | n => n, fun | 28 => 25 | 3 => 3 | 4 => 4 | 0 => 0 | n => n, fun | n => n⟩
theorem Try.lays111 : Go.Proofs.Lays.n111 Try.prog Try.lays111_ren := {
  mixed := by kernel_rfl
  f111 := Try.func82.trans (congrArg some (by kernel_rfl))
  t0 := Try.underlying0
  a0 := Try.isAgg0
  z0 := Try.sizeOf0
  v0 := Try.zeroValue0
  t3 := Try.underlying3
  a3 := Try.isAgg3
  z3 := Try.sizeOf3
  v3 := Try.zeroValue3
  t4 := Try.underlying4
  a4 := Try.isAgg4
  z4 := Try.sizeOf4
  v4 := Try.zeroValue4
  t28 := Try.underlying25
  a28 := Try.isAgg25
  z28 := Try.sizeOf25
  v28 := Try.zeroValue25 }
open Go.RowKit Go.Lib in
theorem Try.slices_Equal_int (b1 o1 n c b2 o2 m d : Nat) (xs ys : List Int) (w : World) (hx : n ≤ xs.length) (hy : m ≤ ys.length) (hbig : n ≤ 9223372036854775807) (hbig2 : m ≤ 9223372036854775807) (hc1 : ∀ j, j < xs.length → w.cell? ⟨b1, o1 + j, none⟩ = some (.int .i64 (xs.getD j 0))) (hc2 : ∀ j, j < ys.length → w.cell? ⟨b2, o2 + j, none⟩ = some (.int .i64 (ys.getD j 0))) :
    Calls Try.prog 82 #[.slice (some ⟨b1, o1, none⟩) n c, .slice (some ⟨b2, o2, none⟩) m d] w fun e w' => e = .returned (.bool (xs.take n == ys.take m)) ∧ ∃ q, w' = w.drewN q := Any.slices_Equal_int Try.lays111 b1 o1 n c b2 o2 m d xs ys w hx hy hbig hbig2 hc1 hc2
open Go.RowKit Go.Lib in
theorem Try.slices_Equal_int_empty (a1 a2 : Option Addr) (c m d : Nat) (w : World) (hbig2 : m ≤ 9223372036854775807) :
    Calls Try.prog 82 #[.slice a1 0 c, .slice a2 m d] w fun e w' => e = .returned (.bool (decide (m = 0))) ∧ w' = w := Any.slices_Equal_int_empty Try.lays111 a1 a2 c m d w hbig2
open Go.RowKit Go.Lib in
open Go.RowKit Go.Lib in
open Go.RowKit Go.Lib in
open Go.RowKit Go.Lib in
theorem Try.slices_Equal_int_lens (a1 a2 : Option Addr) (n c m d : Nat) (w : World) (hnm : n ≠ m) :
    Calls Try.prog 82 #[.slice a1 n c, .slice a2 m d] w fun e w' => e = .returned (.bool false) ∧ w' = w := Any.slices_Equal_int_lens Try.lays111 a1 a2 n c m d w hnm
end Go.Proofs
