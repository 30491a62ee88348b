import Derived.Test.YtodnkkmjjlfoiaaGreatDm
/- a row of TourSteps: its size, copy, compare, mark -/
namespace Go.Proofs.YtodnkkmjjlfoiaaGreat
open Go.RowKit

structure St3 where
  k : Int
  a : Int
  b : Int
def dSt : St3 := ⟨0, 0, 0⟩
structure Cell3 (w : World) (b o : Nat) (s : St3) : Prop where
  c0 : w.cell? ⟨b, o, none⟩ = some (.int .i64 s.k)
  c1 : w.cell? ⟨b, o + 1, none⟩ = some (.int .i64 s.a)
  c2 : w.cell? ⟨b, o + 2, none⟩ = some (.int .i64 s.b)
theorem Cell3.step {S : Nat → Prop} {w w' : World} {b o : Nat} {s : St3} (h : Cell3 w b o s) (hc : Chg S w w') (hb : b < w.heap.size) (hS : ¬ S b) : Cell3 w' b o s :=
  ⟨(hc.cellD b _ hb hS).trans h.c0, (hc.cellD b _ hb hS).trans h.c1, (hc.cellD b _ hb hS).trans h.c2⟩
/-- a row of steps that is read -/
def RSS (A : Nat → Prop) (w : World) (v : Value) (ss : List St3) : Prop :=
  ∃ a cap, v = .slice a ss.length cap ∧ ss.length ≤ cap ∧ cap ≤ 9223372036854775807 ∧ ss.length ≤ 1048576 ∧ (ss ≠ [] → ∃ b off, a = some ⟨b, off, none⟩ ∧ ¬ A b ∧ b < w.heap.size ∧ ∀ i, i < ss.length → Cell3 w b (off + i * 3) (ss.getD i dSt))
theorem RSS.step {A T : Nat → Prop} {w w' : World} {v : Value} {ss : List St3} (h : RSS A w v ss) (hc : Chg T w w') (hT : ∀ k, T k → A k) : RSS A w' v ss := by
  obtain ⟨a, cap, rfl, h1, h2, h3, h4⟩ := h
  refine ⟨a, cap, rfl, h1, h2, h3, fun hne => ?_⟩
  obtain ⟨b, off, rfl, hA, hb, hcell⟩ := h4 hne
  exact ⟨b, off, rfl, hA, Nat.lt_of_lt_of_le hb hc.size, fun i hi => (hcell i hi).step hc hb (fun ht => hA (hT b ht))⟩
theorem RSS.keep {A : Nat → Prop} {w w' : World} {v : Value} {ss : List St3} (h : RSS A w v ss) (hc : Chg No w w') : RSS A w' v ss := h.step hc (fun _ e => e.elim)
theorem RSS.weak {A B : Nat → Prop} {w : World} {v : Value} {ss : List St3} (h : RSS A w v ss) (hB : ∀ k, B k → k < w.heap.size → A k) : RSS B w v ss := by
  obtain ⟨a, cap, rfl, h1, h2, h3, h4⟩ := h
  refine ⟨a, cap, rfl, h1, h2, h3, fun hne => ?_⟩
  obtain ⟨b, off, rfl, hA, hb, hcell⟩ := h4 hne
  exact ⟨b, off, rfl, fun e => hA (hB b e hb), hb, hcell⟩
theorem RSS.shape {A : Nat → Prop} {w : World} {v : Value} {ss : List St3} (h : RSS A w v ss) : ∃ a c, v = .slice a ss.length c := by
  obtain ⟨a, cap, rfl, _⟩ := h; exact ⟨_, _, rfl⟩
theorem elSteps : El 35 49 (.agg #[.int .i64 0, .int .i64 0, .int .i64 0]) 3 24 := El.mk' Tryz.underlying35 (by kernel_rfl) rfl (by omega)
/-- a row of steps of the call's own -/
def OSS (base : Nat) (w : World) (v : Value) (ss : List St3) : Prop := ∃ cs, OS 49 3 base w v ss.length cs ∧ ss.length ≤ 1048576 ∧ ∀ i, i < ss.length → cs.getD (i * 3) undef = .int .i64 (ss.getD i dSt).k ∧ cs.getD (i * 3 + 1) undef = .int .i64 (ss.getD i dSt).a ∧ cs.getD (i * 3 + 2) undef = .int .i64 (ss.getD i dSt).b
theorem OSS.read {base : Nat} {w : World} {v : Value} {ss : List St3} (h : OSS base w v ss) {A : Nat → Prop} (hA : ∀ q, own v q → ¬ A q) : RSS A w v ss := by
  obtain ⟨cs, ho, hn, hc⟩ := h
  have hcl := ho.cl
  obtain ⟨a, cap, rfl, h1, h2, h3, h4⟩ := ho.view
  refine ⟨a, cap, rfl, h1, h2, hn, fun hne => ?_⟩
  have hp := List.length_pos_iff.2 hne
  obtain ⟨g, rfl, _, hg, hcell, _⟩ := h4 (by omega)
  refine ⟨g, 0, rfl, hA g (own_slice.2 rfl), hg, fun i hi => ?_⟩
  obtain ⟨e0, e1, e2⟩ := hc i hi
  rw [Nat.zero_add]
  exact ⟨by rw [hcell _ (by omega), e0], by rw [hcell _ (by omega), e1], by rw [hcell _ (by omega), e2]⟩
theorem OSS.step {base : Nat} {w w' : World} {v : Value} {ss : List St3} {S : Nat → Prop} (h : OSS base w v ss) (hc : Chg S w w') (hS : ∀ q, own v q → ¬ S q) : OSS base w' v ss := by
  obtain ⟨cs, ho, h1, h2⟩ := h
  exact ⟨cs, ho.step hc hS, h1, h2⟩
theorem OSS.keep {base : Nat} {w w' : World} {v : Value} {ss : List St3} (h : OSS base w v ss) (hc : Chg No w w') : OSS base w' v ss := h.step hc (fun _ _ e => e)
theorem OSS.lt {base : Nat} {w : World} {v : Value} {ss : List St3} (h : OSS base w v ss) (q : Nat) (hq : own v q) : base ≤ q ∧ q < w.heap.size := by
  obtain ⟨cs, ho, _⟩ := h; exact ho.lt q hq

set_option maxHeartbeats 400000 in
theorem szTourStepS_any (a : Option Addr) (n c : Nat) (left : Int) (w : World) (hn : n ≤ 9223372036854775807) (h0 : 0 ≤ left) (h1 : left ≤ 1048576) :
    Calls Tryz.prog 7 #[.slice a n c, .int .i64 left] w fun e w' => e = .returned (.int .i64 (szN n left)) ∧ w = w' := by
  have hw : IntKind.i64.wrap (left - (n : Int)) = left - (n : Int) := IntWalk.i64_in _ (by omega)
  have hn0 : (0 : Int) ≤ (n : Int) := Int.natCast_nonneg _
  by_cases hl : (n : Int) ≤ left
  · have hlt : ¬ left - (n : Int) < 0 := by omega
    have H : Hid (szN n left = left - (n : Int)) := Lib.hid (if_pos hl)
    clear hl
    go_enter Tryz.func7, Tryz.ntmps7
    go_wp2
    go_ret
    exact ⟨ret_int H.out.symm, rfl⟩
  · have hlt : left - (n : Int) < 0 := by omega
    have H : Hid (szN n left = -1) := Lib.hid (if_neg hl)
    clear hl
    go_enter Tryz.func7, Tryz.ntmps7
    go_wp2
    go_ret
    exact ⟨ret_int H.out.symm, rfl⟩
set_option maxHeartbeats 400000 in
theorem eqTourStep_same (k a b : Int) (w : World) :
    Calls Tryz.prog 51 #[.agg #[.int .i64 k, .int .i64 a, .int .i64 b], .agg #[.int .i64 k, .int .i64 a, .int .i64 b]] w (Ret fun r w' => r = .bool true ∧ Chg No w w') := by
  have hW0 := boxes32 (w := w) (t := 49) (t' := 49) (x0 := .int .i64 k) (x1 := .int .i64 a) (x2 := .int .i64 b) (y0 := .int .i64 k) (y1 := .int .i64 a) (y2 := .int .i64 b)
    (R := fun W => Chg No w W ∧ Box3 W w.heap.size (.int .i64 k) (.int .i64 a) (.int .i64 b) ∧ Box3 W (w.heap.size + 1) (.int .i64 k) (.int .i64 a) (.int .i64 b)) (fun W k b0 b1 => ⟨k, b0, b1⟩)
  obtain ⟨kk, b0, b1⟩ := hW0
  obtain ⟨c0, c1, c2, _⟩ := id b0
  obtain ⟨d0, d1, d2, _⟩ := id b1
  go_enter Tryz.func51, Tryz.ntmps51
  go_wp2_with fail
  go_ret
  exact ⟨_, rfl, rfl, kk⟩

theorem set3_get (cs : List Value) (i : Nat) (x0 x1 x2 : Value) (h : i * 3 + 2 < cs.length) (j r : Nat) (hr : r < 3) : (((cs.set (i * 3) x0).set (i * 3 + 1) x1).set (i * 3 + 2) x2).getD (j * 3 + r) undef = if j = i then (if r = 0 then x0 else if r = 1 then x1 else x2) else cs.getD (j * 3 + r) undef := by
  simp only [List.getD_eq_getElem?_getD, List.getElem?_set, List.length_set]
  by_cases hj : j = i
  · subst hj
    have : r = 0 ∨ r = 1 ∨ r = 2 := by omega
    rcases this with rfl | rfl | rfl
    · rw [if_neg (by omega), if_neg (by omega), if_pos (by omega), if_pos (by omega)]; simp
    · rw [if_neg (by omega), if_pos (by omega), if_pos (by omega)]; simp
    · rw [if_pos (by omega), if_pos (by omega)]; simp
  · rw [if_neg (by omega), if_neg (by omega), if_neg (by omega), if_neg hj]
theorem OS.store3 {E : TypeId} {sz base : Nat} {w : World} {g m cap n : Nat} {cs : List Value} (h : OS E sz base w (.slice (some ⟨g, 0, none⟩) m cap) n cs) (i : Nat) (x0 x1 x2 : Value) :
    OS E sz base (((w.setCell ⟨g, i, none⟩ x0).setCell ⟨g, i + 1, none⟩ x1).setCell ⟨g, i + 2, none⟩ x2) (.slice (some ⟨g, 0, none⟩) m cap) n (((cs.set i x0).set (i + 1) x1).set (i + 2) x2) ∧
    Chg (fun k => k = g) w (((w.setCell ⟨g, i, none⟩ x0).setCell ⟨g, i + 1, none⟩ x1).setCell ⟨g, i + 2, none⟩ x2) := by
  obtain ⟨h1, k1⟩ := h.store i x0
  obtain ⟨h2, k2⟩ := h1.store (i + 1) x1
  obtain ⟨h3, k3⟩ := h2.store (i + 2) x2
  exact ⟨h3, (k1.trans k2).trans k3⟩
set_option maxRecDepth 100000 in
set_option maxHeartbeats 2000000 in
theorem toTourStepS_any (v : Value) (ss : List St3) (w : World) (h : RSS No w v ss) :
    Calls Tryz.prog 10 #[v] w (Ret fun r w' => OSS w.heap.size w' r ss ∧ Chg No w w') := by
  obtain ⟨a, cap, rfl, hcap, hmax, hlen, hcl⟩ := id h
  obtain ⟨i0, hi, hz0, hz1, hz2⟩ := elSteps.info
  have hL : ss.length ≤ 1099511627776 := by omega
  go_enter Tryz.func10, Tryz.ntmps10
  go_wp2_with (refine wpList_make_full _ rfl (.tmp 6) (.tmp 6) 35 rfl w.heap.size 49 i0 (.agg #[.int .i64 0, .int .i64 0, .int .i64 0]) 3 elSteps.und hi hz0 hz1 .i64 .i64 _ _ ss.length rfl rfl rfl rfl (by rw [hz2]; omega) (by unfold maxLen; omega) (Nat.le_refl _) ?_)
  intro W hW hg
  have hch0 := Chg.grownNone hg
  have hO : ∃ cs, OS 49 3 w.heap.size W (.slice (some ⟨w.heap.size, 0, none⟩) ss.length ss.length) ss.length cs := ⟨_, hL, hW⟩
  obtain ⟨cs0, hO0⟩ := hO
  have HC := Lib.hid hcl
  clear hg hW hz0 hz1 hz2 hi hcl
  go_wp2_with fail
  go_loopw [4] (fun i wr => ∃ (j : Nat) (cs : List Value), j ≤ ss.length ∧ i = .int .i64 j ∧ OS 49 3 w.heap.size wr (.slice (some ⟨w.heap.size, 0, none⟩) ss.length ss.length) ss.length cs ∧
    (∀ q, q < j → cs.getD (q * 3) undef = .int .i64 (ss.getD q dSt).k ∧ cs.getD (q * 3 + 1) undef = .int .i64 (ss.getD q dSt).a ∧ cs.getD (q * 3 + 2) undef = .int .i64 (ss.getD q dSt).b) ∧ Chg No w wr) (fun i _ => ss.length - (intOf i).toNat)
  case atStart => exact ⟨0, cs0, Nat.zero_le _, rfl, hO0, fun q hq => absurd hq (Nat.not_lt_zero _), hch0⟩
  case round =>
    clear hO0 hch0
    obtain ⟨j, cs, hj, rfl, hO, hP, hch⟩ := hrel
    by_cases hlt : j < ss.length
    · obtain ⟨b, off, rfl, _, hb, hcell⟩ := HC.out (by intro e; simp [e] at hlt)
      have h3 := (hcell j hlt).step hch hb (fun e => e)
      obtain ⟨y, hy⟩ : ∃ y, ss.getD j dSt = y := ⟨_, rfl⟩
      rw [hy] at h3
      have HY := Lib.hid hy
      have HP := Lib.hid hP
      clear hcell hy hP
      have hj0 : (0 : Int) ≤ (j : Int) := Int.natCast_nonneg _
      have hj1 : (j : Int) < (ss.length : Int) := by omega
      have hw1 : IntKind.i64.wrap ((j : Int) + 1) = (j : Int) + 1 := IntWalk.i64_in _ (by omega)
      obtain ⟨g0, g1, g2⟩ := id h3
      go_wp2_with fail
      refine (toTourStep_any y.k y.a y.b wr).mono ?_
      rintro e w1 ⟨_, rfl, rfl, k1⟩
      unfold stV
      have hO1 := hO.keep k1
      have hch1 := hch.keep k1
      have hcl3 := hO1.cl
      have hcells : ∀ r, r < 3 → ∃ u, w1.cell? ⟨w.heap.size, j * 3 + r, none⟩ = some u := fun r hr => ⟨_, hO1.at.1 (j * 3 + r) (by rw [hcl3]; omega)⟩
      have hfz := hO1.at.2.1
      clear g0 g1 g2 h3 hO
      obtain ⟨u0, hu0⟩ := hcells 0 (by omega)
      have fz0 := hfz (j * 3 + 0)
      rw [Nat.add_zero] at hu0 fz0
      obtain ⟨u1, hu1⟩ := hcells 1 (by omega)
      have fz1 := hfz (j * 3 + 1)
      obtain ⟨u2, hu2⟩ := hcells 2 (by omega)
      have fz2 := hfz (j * 3 + 2)
      obtain ⟨oN, kN⟩ := hO1.store3 (j * 3) (.int .i64 y.k) (.int .i64 y.a) (.int .i64 y.b)
      have hkN := hch1.step kN (fun q e hl => by have e : q = w.heap.size := e; omega)
      have HEND := Lib.hid (And.intro oN hkN)
      have HCL := Lib.hid hcl3
      clear oN kN hkN hcells hfz hO1 hch1 hch k1 hcl3
      go_wp2_with fail
      go_round
      case measure => simp [intOf]; omega
      case rel =>
        refine ⟨j + 1, _, by omega, by go_num, HEND.out.1, fun q hq => ?_, HEND.out.2⟩
        have hcl := HCL.out
        have e0 := set3_get cs j (.int .i64 y.k) (.int .i64 y.a) (.int .i64 y.b) (by omega) q 0 (by omega)
        have e1 := set3_get cs j (.int .i64 y.k) (.int .i64 y.a) (.int .i64 y.b) (by omega) q 1 (by omega)
        have e2 := set3_get cs j (.int .i64 y.k) (.int .i64 y.a) (.int .i64 y.b) (by omega) q 2 (by omega)
        simp only [Nat.add_zero] at e0
        by_cases hqj : q = j
        · rw [if_pos hqj] at e0 e1 e2
          rw [hqj, HY.out] 
          subst hqj
          exact ⟨e0, e1, e2⟩
        · rw [if_neg hqj] at e0 e1 e2
          rw [e0, e1, e2]
          exact HP.out q (by omega)
    · have hje : j = ss.length := by omega
      subst hje
      go_wp2_with fail
      go_ret
      exact ⟨_, rfl, ⟨cs, hO, by omega, hP⟩, hch⟩
end Go.Proofs.YtodnkkmjjlfoiaaGreat
