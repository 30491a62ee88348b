import Derived.Test.YtegipldajbkjfaaGreatUi
import Derived.Test.YtegipldajbkjfaaGreatVo
import Derived.Test.YtegipldajbkjfaaGreatSt
/- caches drawn for steps and runs; IsHit -/
namespace Go.Proofs.YtegipldajbkjfaaGreat
open Go.RowKit

theorem RCO.shape {base : Nat} {w : World} {v : Value} {c : Ca} (h : RCO base w v c) : ∃ pa pn pc ma mn mc, v = .agg #[.int .i64 c.pol, .int .i64 c.size, .slice pa pn pc, .slice ma mn mc, .int .i64 c.hand] := by
  obtain ⟨pv, mv, rfl, hp, hm, _⟩ := h
  obtain ⟨pa, pn, pc, rfl⟩ := hp.shape
  obtain ⟨ma, mn, mc, rfl⟩ := hm.shape
  exact ⟨pa, pn, pc, ma, mn, mc, rfl⟩
set_option maxRecDepth 100000 in
set_option maxHeartbeats 1000000 in
theorem DrawIsHit_any (v : Value) (n : Nat) (w : World) (h : Code w v n) (hn : n ≤ 70001) :
    Calls Tryz.prog 55 #[v] w fun e w' => ∃ (m x : Int) (cv : Value) (c : Ca), e = .returned (.tuple #[.int .i64 m, cv, .int .i64 x]) ∧ RCO w.heap.size w' cv c ∧ Chg No w w' := by
  obtain ⟨a, cp, rfl⟩ := h.shape
  have k0 := (Chg.refl No w).alloc (.cells #[.int .i64 0, .int .i64 0, .slice none 0 0, .slice none 0 0, .int .i64 0] 26)
  have b0 := Box.new w (.int .i64 0) (.int .i64 0) (.slice none 0 0) (.slice none 0 0) (.int .i64 0) 26
  have hz0 := World.size_alloc w (.cells #[.int .i64 0, .int .i64 0, .slice none 0 0, .slice none 0 0, .int .i64 0] 26)
  generalize hW0 : w.alloc (.cells #[.int .i64 0, .int .i64 0, .slice none 0 0, .slice none 0 0, .int .i64 0] 26) = W0 at k0 b0 hz0
  have k1 := (Chg.refl No W0).alloc (.cells #[.slice a n cp, .int .i64 0, .int .u64 0] 101)
  have hc := Cur.new (h.keep k0) (by omega) 101
  have hz1 := World.size_alloc W0 (.cells #[.slice a n cp, .int .i64 0, .int .u64 0] 101)
  have q1 := Lib.hid (items_any _ _ _ _ hc (by omega))
  have b1 := Lib.hid (b0.keep k1)
  have kk1 := Lib.hid (k0.keep k1)
  rw [hz0] at q1 hz1
  subst hW0
  have hz := Lib.hid hz1
  clear h hc hz0 hz1 k0 k1 b0
  go_enter Tryz.func55, Tryz.ntmps55
  go_wp2_with (first
    | (go_at_call 75; refine (q1.out).mono ?_; rintro e w1 ⟨m, rfl, _, _, hc1, hk1⟩)
    | (go_at_call 76; refine (cache_any _ _ _ m w1 hc1 (by have := hk1.size; have := hz.out; omega) (by omega)).mono ?_; rintro e w2 ⟨cv, c, rfl, rco, hc2, hk2⟩; obtain ⟨pa, pn, pc, ma, mn, mc, rfl⟩ := rco.shape)
    | (go_at_call 117; refine (item_any _ _ _ m w2 hc2 (by omega)).mono ?_; rintro e w3 ⟨x, rfl, hc3, hk3⟩; have hs1 := hk1.size; have hz1 := hz.out; have bx := ((b1.out.step hk1 (by omega)).step hk2 (by omega)).step hk3 (by omega); obtain ⟨c0, c1, c2, c3, c4, fr⟩ := id bx))
  obtain ⟨z0, z1, z2, z3, z4, _⟩ := bx.put5 (.int .i64 c.pol) (.int .i64 c.size) (.slice pa pn pc) (.slice ma mn mc) (.int .i64 c.hand)
  refine bodyPost_ret (v := .tuple #[.int .i64 m, .agg #[.int .i64 c.pol, .int .i64 c.size, .slice pa pn pc, .slice ma mn mc, .int .i64 c.hand], .int .i64 x]) (by simp [results, Tryz.results55, go_sem, z0, z1, z2, z3, z4]) rfl ?_
  have kk := kk1.out.step ((hk1.trans hk2).trans hk3) (fun q hq hl => by omega)
  exact ⟨m, x, _, c, rfl, ((rco.step hk3 (fun q hq e => by have := (rco.lt q hq).1; omega)).put5 (by omega) _ _ _ _ _).weak (by omega), kk.put5 (fun hl => by omega) _ _ _ _ _⟩

set_option maxRecDepth 100000 in
set_option maxHeartbeats 1000000 in
theorem DrawRunCache_any (v : Value) (n : Nat) (w : World) (h : Code w v n) (hn : n ≤ 70001) :
    Calls Tryz.prog 20 #[v] w fun e w' => ∃ (m : Int) (cv rv : Value) (c : Ca) (l : List Int), e = .returned (.tuple #[.int .i64 m, cv, rv]) ∧ RCO w.heap.size w' cv c ∧ OI w.heap.size w' rv l ∧ l.length ≤ 62 ∧ Chg No w w' := by
  obtain ⟨a, cp, rfl⟩ := h.shape
  have k0 := (Chg.refl No w).alloc (.cells #[.int .i64 0, .int .i64 0, .slice none 0 0, .slice none 0 0, .int .i64 0] 26)
  have b0 := Box.new w (.int .i64 0) (.int .i64 0) (.slice none 0 0) (.slice none 0 0) (.int .i64 0) 26
  have hz0 := World.size_alloc w (.cells #[.int .i64 0, .int .i64 0, .slice none 0 0, .slice none 0 0, .int .i64 0] 26)
  generalize hW0 : w.alloc (.cells #[.int .i64 0, .int .i64 0, .slice none 0 0, .slice none 0 0, .int .i64 0] 26) = W0 at k0 b0 hz0
  have k1 := (Chg.refl No W0).alloc (.cells #[.slice a n cp, .int .i64 0, .int .u64 0] 101)
  have hc := Cur.new (h.keep k0) (by omega) 101
  have hz1 := World.size_alloc W0 (.cells #[.slice a n cp, .int .i64 0, .int .u64 0] 101)
  have q1 := Lib.hid (items_any _ _ _ _ hc (by omega))
  have b1 := Lib.hid (b0.keep k1)
  have kk1 := Lib.hid (k0.keep k1)
  rw [hz0] at q1 hz1
  subst hW0
  have hz := Lib.hid hz1
  clear h hc hz0 hz1 k0 k1 b0
  go_enter Tryz.func20, Tryz.ntmps20
  go_wp2_with (first
    | (go_at_call 75; refine (q1.out).mono ?_; rintro e w1 ⟨m, rfl, _, _, hc1, hk1⟩)
    | (go_at_call 76; refine (cache_any _ _ _ m w1 hc1 (by have := hk1.size; have := hz.out; omega) (by omega)).mono ?_; rintro e w2 ⟨cv, c, rfl, rco, hc2, hk2⟩; obtain ⟨pa, pn, pc, ma, mn, mc, rfl⟩ := rco.shape; have hs1 := hk1.size; have hs2 := hk2.size; have hz1 := hz.out)
    | (go_at_call 77; refine (requests_any _ _ _ m w2 hc2 (by omega) (by omega)).mono ?_; rintro e w3 ⟨rv, l, rfl, ho, hl, hc3, hk3⟩; have bx := ((b1.out.step hk1 (by omega)).step hk2 (by omega)).step hk3 (by omega); obtain ⟨c0, c1, c2, c3, c4, fr⟩ := id bx))
  obtain ⟨z0, z1, z2, z3, z4, _⟩ := bx.put5 (.int .i64 c.pol) (.int .i64 c.size) (.slice pa pn pc) (.slice ma mn mc) (.int .i64 c.hand)
  refine bodyPost_ret (v := .tuple #[.int .i64 m, .agg #[.int .i64 c.pol, .int .i64 c.size, .slice pa pn pc, .slice ma mn mc, .int .i64 c.hand], rv]) (by simp [results, Tryz.results20, go_sem, z0, z1, z2, z3, z4]) rfl ?_
  have kk := kk1.out.step ((hk1.trans hk2).trans hk3) (fun q hq hl => by omega)
  exact ⟨m, _, rv, c, l, rfl, ((rco.step hk3 (fun q hq e => by have := (rco.lt q hq).1; omega)).put5 (by omega) _ _ _ _ _).weak (by omega), (ho.weak (show w.heap.size ≤ w2.heap.size by omega)).step ((Chg.refl (fun k => k = w.heap.size) w3).put5 (b := w.heap.size) (fun _ => rfl) _ _ _ _ _) (fun q hq e => by have := (ho.lt q hq).1; omega), hl, kk.put5 (fun hl => by omega) _ _ _ _ _⟩

set_option maxRecDepth 100000 in
set_option maxHeartbeats 1000000 in
theorem DrawStep_any (v : Value) (n : Nat) (w : World) (h : Code w v n) (hn : n ≤ 70001) :
    Calls Tryz.prog 9 #[v] w fun e w' => ∃ (m x : Int) (cv : Value) (c : Ca), e = .returned (.tuple #[.int .i64 m, cv, .int .i64 x]) ∧ RCO w.heap.size w' cv c ∧ Chg No w w' := by
  obtain ⟨a, cp, rfl⟩ := h.shape
  have k0 := (Chg.refl No w).alloc (.cells #[.int .i64 0, .int .i64 0, .slice none 0 0, .slice none 0 0, .int .i64 0] 26)
  have b0 := Box.new w (.int .i64 0) (.int .i64 0) (.slice none 0 0) (.slice none 0 0) (.int .i64 0) 26
  have q1 := Lib.hid (DrawIsHit_any _ n _ (h.keep k0) hn)
  have hz := Lib.hid (World.size_alloc w (.cells #[.int .i64 0, .int .i64 0, .slice none 0 0, .slice none 0 0, .int .i64 0] 26))
  have B0 := Lib.hid b0
  have K0 := Lib.hid k0
  clear h k0 b0
  go_enter Tryz.func9, Tryz.ntmps9
  go_wp2_with (go_at_call 55; refine (q1.out).mono ?_; rintro e w1 ⟨m, x, cv, c, rfl, rco, hk1⟩; obtain ⟨pa, pn, pc, ma, mn, mc, rfl⟩ := rco.shape; have bx := B0.out.keep hk1; obtain ⟨c0, c1, c2, c3, c4, fr⟩ := id bx)
  have hz1 := hz.out
  obtain ⟨z0, z1, z2, z3, z4, _⟩ := bx.put5 (.int .i64 c.pol) (.int .i64 c.size) (.slice pa pn pc) (.slice ma mn mc) (.int .i64 c.hand)
  refine bodyPost_ret (v := .tuple #[.int .i64 m, .agg #[.int .i64 c.pol, .int .i64 c.size, .slice pa pn pc, .slice ma mn mc, .int .i64 c.hand], .int .i64 x]) (by simp [results, Tryz.results9, go_sem, z0, z1, z2, z3, z4]) rfl ?_
  exact ⟨m, x, _, c, rfl, (rco.put5 (by omega) _ _ _ _ _).weak (by omega), (K0.out.keep hk1).put5 (fun hl => by omega) _ _ _ _ _⟩

def hitB (n : Int) (c : Ca) (x : Int) : Bool := okB n c x && hasB c.pages x
set_option maxRecDepth 100000 in
set_option maxHeartbeats 1000000 in
theorem specIsHit_any (n x : Int) (v : Value) (c : Ca) (w : World) (h : RC No w v c) :
    Calls Tryz.prog 13 #[.int .i64 n, v, .int .i64 x] w (Ret2 fun v0 v1 w' => v0 = .bool (hitB n c x) ∧ v1 = .bool (okB n c x) ∧ Chg No w w') := by
  have hv := h
  obtain ⟨pv, mv, rfl, hp, hmk⟩ := h
  obtain ⟨pa, pn, pc, rfl⟩ := hp.shape
  obtain ⟨ma, mn, mc, rfl⟩ := hmk.shape
  have k0 := (Chg.refl No w).alloc (.cells #[.int .i64 c.pol, .int .i64 c.size, .slice pa pn pc, .slice ma mn mc, .int .i64 c.hand] 26)
  have bx := Box.new w (.int .i64 c.pol) (.int .i64 c.size) (.slice pa pn pc) (.slice ma mn mc) (.int .i64 c.hand) 26
  cases hg : goodC n c
  · have HO : Hid (okB n c x = false) := Lib.hid (by simp [okB, hg])
    have HG := Lib.hid hg
    clear hg
    go_enter Tryz.func13, Tryz.ntmps13
    go_wp2_with fail
    refine (l4Good_any No n _ c _ (hv.keep k0)).mono ?_
    rintro e w1 ⟨_, rfl, rfl, k1⟩
    rw [HG.out]
    go_wp2_with fail
    go_ret2
    exact ⟨_, _, rfl, by rw [hitB, HO.out]; rfl, by rw [HO.out]; rfl, k0.keep k1⟩
  · have hn := goodC_items hg
    have hw1 : IntKind.i64.wrap (n - 1) = n - 1 := IntWalk.i64_in _ (by omega)
    have HO : Hid (okB n c x = inB x 0 (n - 1)) := Lib.hid (by simp [okB, hg])
    have HG := Lib.hid hg
    clear hg hn
    go_enter Tryz.func13, Tryz.ntmps13
    go_wp2_with fail
    refine (l4Good_any No n _ c _ (hv.keep k0)).mono ?_
    rintro e w1 ⟨_, rfl, rfl, k1⟩
    rw [HG.out]
    obtain ⟨c0, c1, c2, c3, c4, fr⟩ := bx.keep k1
    cases hi : inB x 0 (n - 1)
    · have HI := Lib.hid hi
      clear hi
      go_wp2_with fail
      refine (l1In_any _ _ _ _).mono ?_
      rintro e w2 ⟨rfl, rfl⟩
      rw [HI.out]
      go_wp2_with fail
      go_ret2
      exact ⟨_, _, rfl, by rw [hitB, HO.out, HI.out]; rfl, by rw [HO.out, HI.out]; rfl, k0.keep k1⟩
    · have HI := Lib.hid hi
      clear hi
      go_wp2_with fail
      refine (l1In_any _ _ _ _).mono ?_
      rintro e w2 ⟨rfl, rfl⟩
      rw [HI.out]
      go_wp2_with fail
      refine (l1Has_any No _ _ _ _ ((hp.keep k0).keep k1)).mono ?_
      rintro e w3 ⟨rfl, rfl⟩
      go_wp2_with fail
      go_ret2
      exact ⟨_, _, rfl, by rw [hitB, HO.out, HI.out]; rfl, by rw [HO.out, HI.out]; rfl, k0.keep k1⟩

set_option maxRecDepth 100000 in
set_option maxHeartbeats 1000000 in
theorem implIsHit_any (n x : Int) (v : Value) (c : Ca) (w : World) (h : RC No w v c) :
    Calls Tryz.prog 12 #[.int .i64 n, v, .int .i64 x] w (Ret2 fun v0 v1 w' => v0 = .bool (hitB n c x) ∧ v1 = .bool (okB n c x) ∧ Chg No w w') := by
  have hv := h
  obtain ⟨pv, mv, rfl, hp, hmk⟩ := h
  obtain ⟨pa, pn, pc, rfl⟩ := hp.shape
  obtain ⟨ma, mn, mc, rfl⟩ := hmk.shape
  have k0 := (Chg.refl No w).alloc (.cells #[.int .i64 c.pol, .int .i64 c.size, .slice pa pn pc, .slice ma mn mc, .int .i64 c.hand] 26)
  have bx := Box.new w (.int .i64 c.pol) (.int .i64 c.size) (.slice pa pn pc) (.slice ma mn mc) (.int .i64 c.hand) 26
  go_enter Tryz.func12, Tryz.ntmps12
  go_wp2_with fail
  refine (isCached_any No n x _ c _ (hv.keep k0)).mono ?_
  rintro e w1 ⟨_, rfl, rfl, k1⟩
  cases ho : okB n c x
  · have HO := Lib.hid ho
    clear ho
    go_wp2_with fail
    go_ret2
    exact ⟨_, _, rfl, by rw [hitB, HO.out]; rfl, by rw [HO.out]; rfl, k0.keep k1⟩
  · have HO := Lib.hid ho
    clear ho
    obtain ⟨c0, c1, c2, c3, c4, fr⟩ := bx.keep k1
    go_wp2_with fail
    refine (Contains_any No _ _ _ _ ((hp.keep k0).keep k1)).mono ?_
    rintro e w3 ⟨rfl, rfl⟩
    go_wp2_with fail
    go_ret2
    exact ⟨_, _, rfl, by rw [hitB, HO.out]; rfl, by rw [HO.out]; rfl, k0.keep k1⟩
end Go.Proofs.YtegipldajbkjfaaGreat
