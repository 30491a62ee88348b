import Derived.Test.YtfdmghohmohmpaaRb
import Derived.Test.YtfdmghohmohmpaaGo
import Derived.RangeFuncNested
import Derived.RangeFuncBound
import Derived.RangeFuncCalls
import Derived.RangeFuncLeaves
import Derived.Shelf.Abstract
import Derived.Shelf.RegionOpen
import Derived.WalkKit
import Derived.OwnWalkIn
import Derived.TacticsInMore
import Derived.LoopNIn
import Derived.LoopIn
import Derived.Maps.AppendAt
/- the program's LastOrder: a range over slices.Backward -/
namespace Go.Proofs.Ytfdmghohmohmpaa
open Go.RowKit Go.Shelf
attribute [local go_sem] Oper.semAt_some

/-- what Backward has handed out when m are left -/
def backL (zs : List Int) (m : Nat) : List (Int × Int) := (List.range (zs.length - m)).map fun k => (((zs.length - 1 - k : Nat) : Int), zs.getD (zs.length - 1 - k) 0)
theorem backL_all (zs : List Int) : backL zs zs.length = [] := by simp [backL]
theorem backL_step (zs : List Int) (m : Nat) (h : m < zs.length) : backL zs m = backL zs (m + 1) ++ [((m : Int), zs.getD m 0)] := by
  unfold backL
  rw [show zs.length - m = (zs.length - (m + 1)) + 1 by omega, List.range_succ, List.map_append, List.map_singleton, show zs.length - 1 - (zs.length - (m + 1)) = m by omega]
theorem backL_len (zs : List Int) (m : Nat) : (backL zs m).length = zs.length - m := by simp [backL]
/-- the items that have come, each once -/
def ordB (pre : List (Int × Int)) : List Int := pre.foldl (fun o x => if hasB o x.2 then o else o ++ [x.2]) []
theorem ordB_snoc (pre : List (Int × Int)) (x : Int × Int) : ordB (pre ++ [x]) = if hasB (ordB pre) x.2 then ordB pre else ordB pre ++ [x.2] := by
  unfold ordB; rw [List.foldl_append]; rfl
theorem ordB_lenA : ∀ (pre : List (Int × Int)) (o : List Int), (pre.foldl (fun o x => if hasB o x.2 then o else o ++ [x.2]) o).length ≤ o.length + pre.length
  | [], o => by simp
  | x :: pre, o => by
    rw [List.foldl_cons]
    refine Nat.le_trans (ordB_lenA pre _) ?_
    split <;> simp <;> omega
theorem ordB_len (pre : List (Int × Int)) : (ordB pre).length ≤ pre.length := by
  have := ordB_lenA pre []
  rw [List.length_nil, Nat.zero_add] at this
  exact this
theorem ordB_back (zs : List Int) : ∀ k, k ≤ zs.length → ordB (backL zs (zs.length - k)) = ordL (zs.drop (zs.length - k))
  | 0, _ => by rw [Nat.sub_zero, backL_all, List.drop_length]; rfl
  | k + 1, hk => by
    have ih := ordB_back zs k (by omega)
    have e : zs.length - (k + 1) + 1 = zs.length - k := by omega
    rw [backL_step zs _ (by omega), ordB_snoc, e, ih, ordL_drop zs (zs.length - (k + 1)) (by omega), e]
/-- what a round keeps: what lay below n₀, and the box of the slice that is walked -/
def Kpl (n₀ Bs : Nat) (X Y : World) : Prop := Below n₀ X Y ∧ ∀ v, Boxed X Bs 24 v → Boxed Y Bs 24 v

set_option maxRecDepth 100000 in
set_option maxHeartbeats 2000000 in
theorem back1_in (F : Fence) (n : Nat) (hF : F.fn 49) (hro : F.round = none) (hn : 1 ≤ n) (l Bs n₀ : Nat) (a : Option Addr) (cap : Nat) (zs : List Int) (hlen : zs.length ≤ 60) (J Jx : List (Int × Int) → World → Prop)
    (hY : ∀ pre x W, J pre W → pre.length < zs.length → YieldAt F (n - 1) Try.prog l #[.int .i64 x.1, .int .i64 x.2] W fun e W' =>
      (e = .returned (.bool true) ∧ J (pre ++ [x]) W' ∧ Kpl n₀ Bs W W') ∨ (e = .returned (.bool false) ∧ Jx (pre ++ [x]) W'))
    (W : World) (hBs : Boxed W Bs 24 (.slice a zs.length cap)) (hc : zs ≠ [] → ∃ b off, a = some ⟨b, off, none⟩ ∧ b < n₀ ∧ ∀ j, j < zs.length → W.cell? ⟨b, off + j, none⟩ = some (.int .i64 (zs.getD j 0))) (h0 : J [] W) :
    CallsIn F n Try.prog 49 #[.func (.yield l) #[] #[], .pointer (some ⟨Bs, 0, none⟩)] W fun e W' => (∃ v, e = .returned v) ∧
      ((∃ ys, ys = backL zs 0 ∧ J ys W') ∨ (∃ pre, True ∧ Jx pre W')) := by
  have hbc := hBs.cell
  have hw0 : IntKind.i64.wrap ((zs.length : Int) - 1) = (zs.length : Int) - 1 := IntWalk.i64_in _ (by omega)
  refine callsIn_of_wp Try.func49 rfl hF ?_ hro
  simp only [Try.ntmps49, List.size_toArray, List.length_cons, List.length_nil, Nat.reduceAdd, Nat.reduceSub, Array.replicate_succ, Array.replicate_zero, List.push_toArray, List.append_toArray, List.nil_append, List.cons_append]
  gi_wp2
  gi_loopw [3] (fun i wr => ∃ m : Nat, m ≤ zs.length ∧ i = .int .i64 ((m : Int) - 1) ∧ J (backL zs m) wr ∧ Kpl n₀ Bs W wr) (fun i _ => (intOf i + 1).toNat)
  case atStart => exact ⟨zs.length, Nat.le_refl _, rfl, by rw [backL_all]; exact h0, Below.refl _ _, fun _ h => h⟩
  case round =>
    obtain ⟨m, hm, rfl, hJs, hk⟩ := hrel
    have hbr := (hk.2 _ hBs).cell
    cases m with
    | zero =>
      rw [show ((0 : Nat) : Int) - 1 = -1 from rfl]
      gi_wp2
      go_end0
      exact ⟨⟨_, rfl⟩, .inl ⟨_, rfl, hJs⟩⟩
    | succ q =>
      obtain ⟨b, off, rfl, hb, hcs⟩ := hc (by intro e; rw [e] at hm; simp at hm)
      have hcl := (hk.1.cell (p := ⟨b, off + q, none⟩) hb).trans (hcs q (by omega))
      have hstep := backL_step zs q (by omega)
      obtain ⟨x, hx⟩ : ∃ x, zs.getD q 0 = x := ⟨_, rfl⟩
      rw [hx] at hcl hstep
      have HST := Lib.hid hstep
      rw [show ((q + 1 : Nat) : Int) - 1 = (q : Int) by omega]
      have hq0 : (0 : Int) ≤ (q : Int) := Int.natCast_nonneg _
      have hql : (q : Int) < (zs.length : Int) := by omega
      have hqw : IntKind.i64.wrap ((q : Int) - 1) = (q : Int) - 1 := IntWalk.i64_in _ (by omega)
      obtain ⟨fn, tmps, assign, body, hy, hR⟩ := hY _ ((q : Int), x) wr hJs (by rw [backL_len]; omega)
      dsimp only at hy
      clear hstep hcs hx
      gi_wp2
      refine hR.mono ?_
      rintro e W3 (⟨rfl, hJ3, hk3⟩ | ⟨rfl, hJx3⟩)
      · rw [← HST.out] at hJ3
        gi_wp2
        go_roundw
        case rel => exact ⟨q, by omega, rfl, hJ3, hk.1.trans hk3.1, fun v hv => hk3.2 v (hk.2 v hv)⟩
        case measure => show ((q : Int) - 1 + 1).toNat < ((q : Int) + 1).toNat; omega
      · gi_wp2
        refine bodyPost_ret (results_none rfl _ _ _) rfl ?_
        exact ⟨⟨_, rfl⟩, .inr ⟨_, trivial, hJx3⟩⟩

set_option maxHeartbeats 1000000 in
theorem back_in (F : Fence) (n : Nat) (hF : F.fn 28) (hro : F.round = none) (a : Option Addr) (len cap : Nat) (w : World) :
    CallsIn F n Try.prog 28 #[.slice a len cap] w fun e w' => e = .returned (.func (.func 49) #[] #[.pointer (some ⟨w.heap.size, 0, none⟩)]) ∧ w' = w.alloc (.cells #[.slice a len cap] 24) := by
  refine callsIn_of_wp Try.func28 rfl hF ?_ hro
  simp only [Try.ntmps28, List.size_toArray, List.length_cons, List.length_nil, Nat.reduceAdd, Nat.reduceSub, Array.replicate_succ, Array.replicate_zero, List.push_toArray, List.append_toArray, List.nil_append, List.cons_append]
  gi_wp2
  go_ret
  exact ⟨rfl, rfl⟩

theorem back_stops (F : Fence) (n : Nat) (hF : F.fn 49) (hro : F.round = none) (hn : 1 ≤ n) (Bs n₀ : Nat) (a : Option Addr) (cap : Nat) (zs : List Int) (hlen : zs.length ≤ 60) (w : World) (hn₀ : n₀ ≤ w.heap.size)
    (hBs : Boxed w Bs 24 (.slice a zs.length cap)) (hc : zs ≠ [] → ∃ b off, a = some ⟨b, off, none⟩ ∧ b < n₀ ∧ ∀ j, j < zs.length → w.cell? ⟨b, off + j, none⟩ = some (.int .i64 (zs.getD j 0))) :
    SeqStopsK F n Try.prog 49 #[.pointer (some ⟨Bs, 0, none⟩)] (fun x : Int × Int => #[Value.int .i64 x.1, Value.int .i64 x.2]) (Kpl n₀ Bs) (fun ys => ys = backL zs 0) (fun _ => True) zs.length w := fun l J Jx W hW _ _ hY h0 =>
  back1_in F n hF hro hn l Bs n₀ a cap zs hlen J Jx hY W ((hW.block Bs hBs.lt).trans hBs)
    (fun hz => by
      obtain ⟨b, off, e, hb, hcs⟩ := hc hz
      exact ⟨b, off, e, hb, fun j hj => (hW.cell (p := ⟨b, off + j, none⟩) (show b < w.heap.size by omega)).trans (hcs j hj)⟩) h0

set_option maxRecDepth 100000 in
set_option maxHeartbeats 2000000 in
theorem implLastOrder_any (n : Int) (v : Value) (l : List Int) (w : World) (h : RI No w v l) :
    Calls Try.prog 12 #[.int .i64 n, v] w (Ret2 fun v0 v1 w' => v1 = .bool (reqB n l) ∧ OI w.heap.size w' v0 (if reqB n l then ordL l else []) ∧ Chg No w w') := by
  have q1 := Lib.hid (IsRequests_any No v l n w h)
  obtain ⟨a, cap, rfl, _, _, _, _, hc⟩ := id h
  have hr : (inB n 1 8 && decide (l.length ≤ 60) && belowB n l) = reqB n l := rfl
  rw [hr] at q1
  clear hr
  refine (callsIn_wide (n := 4)).1 ?_
  refine callsIn_of_wp_marks Try.func12 rfl trivial ?_ rfl
  simp only [Try.ntmps12, List.size_toArray, List.length_cons, List.length_nil, Nat.reduceAdd, Nat.reduceSub, Array.replicate_succ, Array.replicate_zero, List.push_toArray, List.append_toArray, List.nil_append, List.cons_append]
  cases hq : reqB n l
  · rw [hq] at q1
    gi_wp2_with (refine ⟨trivial, ?_⟩; gi_at_call 23; refine (callsIn_wide.2 q1.out).mono ?_; rintro e w1 ⟨_, rfl, rfl, k1⟩)
    exact ⟨.tuple #[.slice none 0 0, .bool false], by simp [results, Try.results12, go_sem], _, _, rfl, rfl, OI.nil _ _, k1⟩
  · have hlen := (reqB_len hq).1
    rw [hq] at q1
    gi_wp2_with (first
      | (refine ⟨trivial, ?_⟩; gi_at_call 23; refine (callsIn_wide.2 q1.out).mono ?_; rintro e w1 ⟨_, rfl, rfl, k1⟩)
      | (refine ⟨trivial, ?_⟩; gi_at_call 28; refine (back_in Fence.wide _ trivial rfl _ _ _ _).mono ?_; rintro e w' ⟨rfl, rfl⟩))
    have b0 : Boxed ((w1.alloc (.cells #[] 3)).alloc (.cells #[.slice (some ⟨w1.heap.size, 0, none⟩) 0 0] 24)) (w1.heap.size + 1) 24 (.slice (some ⟨w1.heap.size, 0, none⟩) 0 0) := by
      have := Boxed.new (w1.alloc (.cells #[] 3)) 24 (.slice (some ⟨w1.heap.size, 0, none⟩) 0 0)
      rwa [World.size_alloc] at this
    have bN : Boxed (((w1.alloc (.cells #[] 3)).alloc (.cells #[.slice (some ⟨w1.heap.size, 0, none⟩) 0 0] 24)).alloc (.cells #[.slice a l.length cap] 24)) (w1.heap.size + 1 + 1) 24 (.slice a l.length cap) := by
      have := Boxed.new ((w1.alloc (.cells #[] 3)).alloc (.cells #[.slice (some ⟨w1.heap.size, 0, none⟩) 0 0] 24)) 24 (.slice a l.length cap)
      rwa [World.size_alloc, World.size_alloc] at this
    have o0 : OI w1.heap.size (w1.alloc (.cells #[] 3)) (.slice (some ⟨w1.heap.size, 0, none⟩) 0 0) [] := OI.zero (Nat.le_refl _)
    have hB0 : Below w1.heap.size w1 (((w1.alloc (.cells #[] 3)).alloc (.cells #[.slice (some ⟨w1.heap.size, 0, none⟩) 0 0] 24)).alloc (.cells #[.slice a l.length cap] 24)) :=
      (((Below.refl _ w1).alloc (Nat.le_refl _) _).alloc (by simp) _).alloc (by simp; omega) _
    have hsz := k1.size
    obtain ⟨i0, hi, hz0, hz1, hz2⟩ := info_parts Try.infoInt
    have hc1 : l ≠ [] → ∃ b off, a = some ⟨b, off, none⟩ ∧ b < w1.heap.size ∧ ∀ j, j < l.length → (((w1.alloc (.cells #[] 3)).alloc (.cells #[.slice (some ⟨w1.heap.size, 0, none⟩) 0 0] 24)).alloc (.cells #[.slice a l.length cap] 24)).cell? ⟨b, off + j, none⟩ = some (.int .i64 (l.getD j 0)) := fun hz => by
      obtain ⟨b, off, e, _, hb, hcs⟩ := hc hz
      exact ⟨b, off, e, by omega, fun j hj => ((hB0.cell (p := ⟨b, off + j, none⟩) (show b < w1.heap.size by omega)).trans (k1.cellD b (off + j) hb (fun e => e))).trans (hcs j hj)⟩
    refine wpIn_rangeFunc_ownG rfl (by omega) (gf := 49) (lb := #[.pointer (some ⟨w1.heap.size + 1 + 1, 0, none⟩)]) rfl trivial (enters_of Try.func49 (by kernel_rfl) rfl)
      (back_stops Fence.wide _ trivial rfl (by omega) (w1.heap.size + 1 + 1) w1.heap.size a cap l hlen _ (by simp; omega) bN hc1)
      (fun h k => ⟨h.1.trans k.1, fun v hv => k.2 v (h.2 v hv)⟩)
      (fun W q o o' hl h hc hw => ⟨belowK_b (w := w1) (Nat.le_refl _) W q o o' (by simp at hl; omega) h hc hw, fun v hv => hv.kept (grownBy_putObj' W q o') (fun e => by cases e; simp at hl; omega)⟩)
      (Below.refl _ _) (fun _ => rfl)
      (fun pre W => (∃ v, Boxed W (w1.heap.size + 1) 24 v ∧ W.ownsRow w1.heap.size 3 1 v (ordB pre).length ((ordB pre).map (Value.int .i64)) ∧ True) ∧ Below w1.heap.size w1 W)
      (fun _ _ _ => False)
      (OwnFrom.and (Own.from (holdsRow_own w1.heap.size (w1.heap.size + 1) 24 3 1 (fun pre => (ordB pre).length) (fun pre => (ordB pre).map (Value.int .i64)) (fun _ _ => True)) _) (ownFrom_below (Nat.le_refl _) (by simp; omega)))
      (fun _ _ _ _ _ hs _ _ => hs)
      ⟨⟨_, b0.alloc _, ((o0.alloc _).alloc _).2, trivial⟩, hB0⟩
      (fun x => { tmps := #[.int .i64 n, .slice a l.length cap, undef, undef, .slice none 0 0, .bool false, .pointer (some ⟨w1.heap.size + 1, 0, none⟩), undef, .int .i64 x.2, .int .i64 n, .slice a l.length cap, .bool true, .bool false, .slice (some ⟨w1.heap.size, 0, none⟩) 0 0, .slice a l.length cap, .func (.func 49) #[] #[.pointer (some ⟨w1.heap.size + 1 + 1, 0, none⟩)], .int .i64 x.1, .int .i64 x.2, undef, undef, undef, undef, undef, undef, undef, undef, undef], defers := [] }) ?assign ?body ?done ?stop
    case assign =>
      intro lp x W K hK
      gi_wp2
      exact hK
    case body =>
      rintro lp pre x W ⟨⟨v, hv, hrow, _⟩, hB⟩ hlt
      have hcv := hv.cell
      have hpl : (ordB pre).length ≤ pre.length := ordB_len pre
      have oi : OI w1.heap.size W v (ordB pre) := ⟨by omega, hrow⟩
      have hcon := Lib.hid (Contains_any No v (ordB pre) x.2 W oi.readNo)
      have hbig : n = n := rfl
      clear b0 bN o0 hB0 hc1 hc q1 h k1 hbig
      cases hh : hasB (ordB pre) x.2
      · rw [hh] at hcon
        gi_wp2_with (first
          | (refine ⟨trivial, ?_⟩; gi_at_call 29; refine (CallsIn.inRound lp (callsIn_wide.2 hcon.out)).mono ?_; rintro e w' ⟨rfl, hww⟩; subst hww)
          | (gi_at_builtin; refine wpListIn_append_own _ rfl _ _ 24 rfl w1.heap.size 3 i0 (.int .i64 0) 1 8 Try.underlying24 hi hz0 hz1 hz2 rfl (by decide) _ _ _ rfl (hrow.alloc _) ⟨W.heap.size, 0, none⟩ 1 1 [.int .i64 x.2] rfl rfl (cell_one_new _ _ _) (by simp [Value.oneCell']) (by unfold maxLen; omega) (by omega) (by have := hB.size; simp; omega) ?_; intro v' w2 hown' hgrow _; obtain ⟨g', cap', rfl⟩ := ownsRow_succ hown'; obtain ⟨hv1, hv2, hr2, hk2, hb2⟩ := hv.appended (by decide) hrow hB.size (by omega) hown' hgrow; have hc1 := hv1.cell; have hf1 := hv1.frozen))
        exact ⟨hk2.from _, ⟨hb2, fun u hu => (((hu.alloc _).kept hgrow (hu.not_row (by decide) hrow)).kept (grownBy_setCell' _ _ _) (by simp))⟩, ⟨_, hv2, by rw [ordB_snoc, hh, if_neg (by decide), List.length_append, List.map_append]; exact hr2, trivial⟩, hB.trans hb2⟩
      · rw [hh] at hcon
        gi_wp2_with (refine ⟨trivial, ?_⟩; gi_at_call 29; refine (CallsIn.inRound lp (callsIn_wide.2 hcon.out)).mono ?_; rintro e w' ⟨rfl, hww⟩; subst hww)
        exact ⟨KeepsFrom.refl _ _, ⟨Below.refl _ _, fun _ h => h⟩, ⟨v, hv, by rw [ordB_snoc, if_pos hh]; exact hrow, trivial⟩, hB⟩
    case done =>
      rintro D ys W hD rfl ⟨⟨v, hv, hrow, _⟩, hB⟩ hK
      have hcv := hv.cell
      gi_wp2
      refine ⟨by simp, .inl ⟨_, _, rfl, run_takeDeferred hK, ?_⟩⟩
      have hlast : ordB (backL l 0) = ordL l := by
        have := ordB_back l l.length (Nat.le_refl _)
        rwa [Nat.sub_self, List.drop_zero] at this
      rw [hlast] at hrow
      have hk3 := k1.keep (Chg.ofBelow (hB.trans (belowK_b (w := w1) (Nat.le_refl _) W D _ (.deferred none) (by simp at hD; omega) hK rfl rfl)))
      have hol := ordL_len l
      have o3 : OI w1.heap.size (W.putObj D (.deferred none)) v (ordL l) := ⟨by omega, ownsRow_putObj hrow _ hK rfl⟩
      exact ⟨.tuple #[v, .bool true], by simp [results, Try.results12, go_sem], _, _, rfl, rfl, o3.weak hsz, hk3⟩
    case stop =>
      rintro D c pre W _ _ h _
      exact h.elim
end Go.Proofs.Ytfdmghohmohmpaa
