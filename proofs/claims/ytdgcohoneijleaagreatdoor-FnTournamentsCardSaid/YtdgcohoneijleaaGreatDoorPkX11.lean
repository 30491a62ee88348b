import Derived.Test.YtdgcohoneijleaaGreatDoorPkX1
import Derived.Test.YtdgcohoneijleaaGreatDoorPkX8
import Derived.Test.YtdgcohoneijleaaGreatDoorL
import Derived.Test.YtdgcohoneijleaaGreatDoorPkX4
import Derived.Test.YtdgcohoneijleaaGreatDoorPkX2
import Derived.Test.YtdgcohoneijleaaGreatDoorPkX7
set_option maxRecDepth 100000
namespace Go.Proofs.YtdgcohoneijleaaGreatDoor
open Go.RowKit
def zeroC : Ca := ⟨0, 0, [], [], 0⟩
def RCO (base : Nat) (w : World) (v : Value) (c : Ca) : Prop :=
 ∃ pv mv, v = .agg #[.int .i64 c.pol, .int .i64 c.size, pv, mv, .int .i64 c.hand] ∧ OI base w pv c.pages ∧ OI base w mv c.marks ∧ ∀ q, own pv q → ¬ own mv q
def ownC : Value → Nat → Prop
 | .agg xs, q => own (xs.getD 2 undef) q ∨ own (xs.getD 3 undef) q
 | _, _ => False
theorem RCO.lt {base : Nat} {w : World} {v : Value} {c : Ca} (h : RCO base w v c) (q : Nat) (hq : ownC v q) : base ≤ q ∧ q < w.heap.size := by
 obtain ⟨pv, mv, rfl, h1, h2, _⟩ := h
 rcases hq with hq | hq
 ·exact h1.lt q hq
 ·exact h2.lt q hq
theorem RCO.step {base : Nat} {w w' : World} {v : Value} {c : Ca} {T : Nat → Prop} (h : RCO base w v c) (hc : Chg T w w') (hT : ∀ q, ownC v q → ¬ T q) : RCO base w' v c := by
 obtain ⟨pv, mv, rfl, h1, h2, h3⟩ := h
 exact ⟨pv, mv, rfl, h1.step hc (fun q hq => hT q (.inl hq)), h2.step hc (fun q hq => hT q (.inr hq)), h3⟩
theorem RCO.keep {base : Nat} {w w' : World} {v : Value} {c : Ca} (h : RCO base w v c) (hc : Chg No w w') : RCO base w' v c := h.step hc (fun _ _ e => e)
theorem RCO.weak {base base' : Nat} {w : World} {v : Value} {c : Ca} (h : RCO base w v c) (hb : base' ≤ base) : RCO base' w v c := by
 obtain ⟨pv, mv, rfl, h1, h2, h3⟩ := h
 exact ⟨pv, mv, rfl, h1.weak hb, h2.weak hb, h3⟩
theorem RCO.read {base : Nat} {w : World} {v : Value} {c : Ca} (h : RCO base w v c) {A : Nat → Prop} (hA : ∀ q, ownC v q → ¬ A q) : RC A w v c := by
 obtain ⟨pv, mv, rfl, h1, h2, h3⟩ := h
 exact ⟨pv, mv, rfl, h1.read (fun q hq => hA q (.inl hq)), h2.read (fun q hq => hA q (.inr hq))⟩
theorem RCO.readNo {base : Nat} {w : World} {v : Value} {c : Ca} (h : RCO base w v c) : RC No w v c := h.read (fun _ _ e => e)
theorem RCO.zero (base : Nat) (w : World) : RCO base w (.agg #[.int .i64 0, .int .i64 0, .slice none 0 0, .slice none 0 0, .int .i64 0]) ⟨0, 0, [], [], 0⟩ :=
 ⟨_, _, rfl, OI.nil base w, OI.nil base w, fun q h => by simp [own, Value.ownBlock] at h⟩
theorem boxes3 {w : World} {t t' t'' : TypeId} {x0 x1 x2 x3 x4 y0 y1 y2 y3 y4 z0 z1 z2 z3 z4 : Value} {R : World → Prop} (h : ∀ W, Chg No w W → Box W w.heap.size x0 x1 x2 x3 x4 → Box W (w.heap.size + 1) y0 y1 y2 y3 y4 → Box W (w.heap.size + 1 + 1) z0 z1 z2 z3 z4 → R W) :
  R (((w.alloc (.cells #[x0, x1, x2, x3, x4] t)).alloc (.cells #[y0, y1, y2, y3, y4] t')).alloc (.cells #[z0, z1, z2, z3, z4] t'')) :=
 h _ ((((Chg.refl No w).alloc _).alloc _).alloc _) ((Box.new w x0 x1 x2 x3 x4 t).keep (((Chg.refl No _).alloc _).alloc _))
  (((Box.new (w.alloc (.cells #[x0, x1, x2, x3, x4] t)) y0 y1 y2 y3 y4 t').keep ((Chg.refl No _).alloc _)).at (by simp)) ((Box.new ((w.alloc (.cells #[x0, x1, x2, x3, x4] t)).alloc (.cells #[y0, y1, y2, y3, y4] t')) z0 z1 z2 z3 z4 t'').at (by simp))
theorem box1 {w : World} {t : TypeId} {x0 x1 x2 x3 x4 : Value} {R : World → Prop} (h : ∀ W, Chg No w W → Box W w.heap.size x0 x1 x2 x3 x4 → R W) : R (w.alloc (.cells #[x0, x1, x2, x3, x4] t)) :=
 h _ ((Chg.refl No w).alloc _) (Box.new w x0 x1 x2 x3 x4 t)
theorem boxes2 {w : World} {t t' : TypeId} {x0 x1 x2 x3 x4 y0 y1 y2 y3 y4 : Value} {R : World → Prop} (h : ∀ W, Chg No w W → Box W w.heap.size x0 x1 x2 x3 x4 → Box W (w.heap.size + 1) y0 y1 y2 y3 y4 → R W) :
  R ((w.alloc (.cells #[x0, x1, x2, x3, x4] t)).alloc (.cells #[y0, y1, y2, y3, y4] t')) :=
 h _ (((Chg.refl No w).alloc _).alloc _) ((Box.new w x0 x1 x2 x3 x4 t).keep ((Chg.refl No _).alloc _))
  ((Box.new (w.alloc (.cells #[x0, x1, x2, x3, x4] t)) y0 y1 y2 y3 y4 t').at (by simp))
theorem OI.far {base : Nat} {w : World} {v : Value} {l : List Int} (h : OI base w v l) {b : Nat} (hb : b < base) (o : Nat) (x : Value) : OI base (w.setCell ⟨b, o, none⟩ x) v l :=
 h.set b o x (fun hq => by have := (h.lt b hq).1; omega)
end Go.Proofs.YtdgcohoneijleaaGreatDoor
namespace Go.Proofs.YtdgcohoneijleaaGreatDoor
open Go.RowKit
theorem drewN_chg (w : World) (n : Nat) : Chg No w (w.drewN n) := (Chg.refl No w).drewN n
theorem Equal_any (A B : Nat → Prop) (v v' : Value) (l l' : List Int) (w : World) (h : RI A w v l) (h' : RI B w v' l') :
  Calls Tryz.prog 99 #[v, v'] w (Ret fun r w' => r = .bool (l == l') ∧ Chg No w w') := by
 have hL := h.len
 have hL' := h'.len
 obtain ⟨a, cap, rfl, hcap, hmax, hlen, _, hc⟩ := id h
 obtain ⟨a', cap', rfl, hcap', hmax', hlen', _, hc'⟩ := id h'
 by_cases hll : l.length = l'.length
 ·by_cases hl0 : l = []
  ·subst hl0
   have hl' : l' = [] := List.eq_nil_of_length_eq_zero (by simpa using hll.symm)
   subst hl'
   refine (Tryz.slices_Equal_int_empty a a' cap 0 cap' w (by omega)).mono ?_
   rintro e w' ⟨rfl, rfl⟩
   exact ⟨_, rfl, rfl, Chg.refl _ _⟩
  ·have hl0' : l' ≠ [] := fun e => hl0 (List.eq_nil_of_length_eq_zero (by rw [hll, e]; rfl))
   obtain ⟨b, off, rfl, _, _, hcell⟩ := hc hl0
   obtain ⟨b', off', rfl, _, _, hcell'⟩ := hc' hl0'
   refine (Tryz.slices_Equal_int b off l.length cap b' off' l'.length cap' l l' w (Nat.le_refl _) (Nat.le_refl _) (by omega) (by omega) hcell hcell').mono ?_
   rintro e w' ⟨rfl, q, rfl⟩
   exact ⟨_, rfl, by rw [List.take_length, List.take_length], drewN_chg w q⟩
 ·refine (Tryz.slices_Equal_int_lens a a' l.length cap l'.length cap' w hll).mono ?_
  rintro e w' ⟨rfl, rfl⟩
  refine ⟨_, rfl, ?_, Chg.refl _ _⟩
  have : (l == l') = false := by rw [beq_eq_false_iff_ne]; exact fun e => hll (by rw [e])
  rw [this]
set_option maxHeartbeats 1000000 in
theorem l1Same_any (A B : Nat → Prop) (v v' : Value) (l l' : List Int) (w : World) (h : RI A w v l) (h' : RI B w v' l') :
  Calls Tryz.prog 153 #[v, v'] w (Ret fun r w' => r = .bool (l == l') ∧ Chg No w w') := by
 have hL := h.len
 have hL' := h'.len
 obtain ⟨a, cap, rfl, hcap, hmax, hlen, _, hc⟩ := id h
 obtain ⟨a', cap', rfl, hcap', hmax', hlen', _, hc'⟩ := id h'
 by_cases hll : l.length = l'.length
 ·have HL := Lib.hid hll
  rw [← hll] at hc' ⊢
  clear hll hcap' hmax' hlen' hL' h h'
  go_enter Tryz.func153, Tryz.ntmps153
  go_wp2_with fail
  go_loopw [5] (fun i wr => ∃ j : Nat, j ≤ l.length ∧ i = .int .i64 j ∧ Hid (∀ q, q < j → l.getD q 0 = l'.getD q 0) ∧ Chg No w wr) (fun i _ => l.length - (intOf i).toNat)
  case atStart => exact ⟨0, Nat.zero_le _, rfl, Lib.hid (fun q hq => absurd hq (Nat.not_lt_zero _)), Chg.refl No w⟩
  case round =>
   obtain ⟨j, hj, rfl, HS, hch⟩ := hrel
   by_cases hlt : j < l.length
   ·obtain ⟨b, off, rfl, _, hb, hcell⟩ := hc (by intro e; simp [e] at hlt)
    obtain ⟨b', off', rfl, _, hb', hcell'⟩ := hc' (by intro e; have := HL.out; rw [e] at this; simp only [List.length_nil] at this; omega)
    have hcl := (hch.cellD b (off + j) hb (fun e => e)).trans (hcell j hlt)
    have hcl' := (hch.cellD b' (off' + j) hb' (fun e => e)).trans (hcell' j hlt)
    obtain ⟨y, hy⟩ : ∃ y, l.getD j 0 = y := ⟨_, rfl⟩
    obtain ⟨z, hz⟩ : ∃ z, l'.getD j 0 = z := ⟨_, rfl⟩
    rw [hy] at hcl
    rw [hz] at hcl'
    have HY := Lib.hid hy
    have HZ := Lib.hid hz
    have hj0 : (0 : Int) ≤ (j : Int) := Int.natCast_nonneg _
    have hj1 : (j : Int) < (l.length : Int) := by omega
    have hw1 : IntKind.i64.wrap ((j : Int) + 1) = (j : Int) + 1 := IntWalk.i64_in _ (by omega)
    clear hcell hcell' hc hc' hy hz
    by_cases hyz : y = z
    ·subst hyz
     go_wp2_with fail
     go_quiet (fail)
     have hd := (Chg.refl No wr).drewN nq
     have hch := hch.keep hd
     clear hcl hcl'
     generalize wr.drewN nq = W at hd hch ⊢
     go_wp2_with fail
     go_round
     case rel =>
      refine ⟨j + 1, hlt, by go_num, Lib.hid (fun q hq => ?_), hch⟩
      by_cases hqj : q = j
      ·rw [hqj, HY.out, HZ.out]
      ·exact HS.out q (by omega)
     case measure => simp [intOf]; omega
    ·go_wp2_with fail
     go_quiet (fail)
     have hd := (Chg.refl No wr).drewN nq
     have hch := hch.keep hd
     clear hcl hcl'
     generalize wr.drewN nq = W at hd hch ⊢
     go_wp2_with fail
     go_ret
     refine ⟨_, rfl, ?_, hch⟩
     have : (l == l') = false := by
      rw [beq_eq_false_iff_ne]
      exact fun e => hyz (by rw [← HY.out, ← HZ.out, e])
     rw [this]
     rfl
   ·have hj' : j = l.length := by omega
    subst hj'
    clear hc hc'
    go_wp2_with fail
    go_ret
    refine ⟨_, rfl, ?_, hch⟩
    have : l = l' := List.ext_getElem HL.out (fun q h1 h2 => by
     have := HS.out q h1
     rwa [List.getD_eq_getElem?_getD, List.getD_eq_getElem?_getD, List.getElem?_eq_getElem h1, List.getElem?_eq_getElem h2] at this)
    rw [this]
    simp
 ·have hne : ¬ ((l.length : Int) = (l'.length : Int)) := by omega
  have HE : Hid ((l == l') = false) := Lib.hid (by rw [beq_eq_false_iff_ne]; exact fun e => hll (by rw [e]))
  clear hll hc hc'
  go_enter Tryz.func153, Tryz.ntmps153
  go_wp2_with fail
  go_ret
  exact ⟨_, rfl, by rw [HE.out]; rfl, Chg.refl _ _⟩
def sameB (a b : Ca) : Bool := a.pol == b.pol && (a.size == b.size && (a.hand == b.hand && (a.pages == b.pages && a.marks == b.marks)))
set_option maxHeartbeats 1000000 in
theorem sameCaches_any (A B : Nat → Prop) (v v' : Value) (c c' : Ca) (w : World) (h : RC A w v c) (h' : RC B w v' c') :
  Calls Tryz.prog 60 #[v, v'] w (Ret fun r w' => r = .bool (sameB c c') ∧ Chg No w w') := by
 obtain ⟨pv, mv, rfl, hp, hmk⟩ := h
 obtain ⟨pv', mv', rfl, hp', hmk'⟩ := h'
 obtain ⟨pa, pn, pc, rfl⟩ := hp.shape
 obtain ⟨ma, mn, mc, rfl⟩ := hmk.shape
 obtain ⟨pa', pn', pc', rfl⟩ := hp'.shape
 obtain ⟨ma', mn', mc', rfl⟩ := hmk'.shape
 have k0 := ((Chg.refl No w).alloc (.cells #[.int .i64 c.pol, .int .i64 c.size, .slice pa pn pc, .slice ma mn mc, .int .i64 c.hand] 66)).alloc (.cells #[.int .i64 c'.pol, .int .i64 c'.size, .slice pa' pn' pc', .slice ma' mn' mc', .int .i64 c'.hand] 66)
 cases h1 : c.pol == c'.pol
 ·have HS : Hid (sameB c c' = false) := Lib.hid (by simp [sameB, h1])
  go_enter Tryz.func60, Tryz.ntmps60
  go_wp2_with fail
  go_ret
  exact ⟨_, rfl, by rw [HS.out]; rfl, k0⟩
 ·cases h2 : c.size == c'.size
  ·have HS : Hid (sameB c c' = false) := Lib.hid (by simp [sameB, h2])
   go_enter Tryz.func60, Tryz.ntmps60
   go_wp2_with fail
   go_ret
   exact ⟨_, rfl, by rw [HS.out]; rfl, k0⟩
  ·cases h3 : c.hand == c'.hand
   ·have HS : Hid (sameB c c' = false) := Lib.hid (by simp [sameB, h3])
    go_enter Tryz.func60, Tryz.ntmps60
    go_wp2_with fail
    go_ret
    exact ⟨_, rfl, by rw [HS.out]; rfl, k0⟩
   ·cases h4 : c.pages == c'.pages
    ·have HS : Hid (sameB c c' = false) := Lib.hid (by simp only [sameB, h4, Bool.false_and, Bool.and_false])
     have H4 := Lib.hid h4
     clear h4 k0
     go_enter Tryz.func60, Tryz.ntmps60
     go_wp2_with fail
     refine boxes2 (R := fun W => Calls _ _ _ W _) (fun W hW b0 b1 => ?_)
     refine (Equal_any A B _ _ _ _ W (hp.keep hW) (hp'.keep hW)).mono ?_
     rintro e w1 ⟨_, rfl, rfl, k1⟩
     rw [H4.out]
     go_wp2_with fail
     go_ret
     exact ⟨_, rfl, by rw [HS.out]; rfl, hW.keep k1⟩
    ·have HS : Hid (sameB c c' = (c.marks == c'.marks)) := Lib.hid (by simp only [sameB, h1, h2, h3, h4, Bool.true_and])
     have H4 := Lib.hid h4
     clear h4 k0
     go_enter Tryz.func60, Tryz.ntmps60
     go_wp2_with fail
     refine boxes2 (R := fun W => Calls _ _ _ W _) (fun W hW b0 b1 => ?_)
     refine (Equal_any A B _ _ _ _ W (hp.keep hW) (hp'.keep hW)).mono ?_
     rintro e w1 ⟨_, rfl, rfl, k1⟩
     rw [H4.out]
     have hW := hW.keep k1
     obtain ⟨c0, c1, c2, c3, c4, _⟩ := b0.keep k1
     obtain ⟨d0, d1, d2, d3, d4, _⟩ := b1.keep k1
     go_wp2_with fail
     refine (Equal_any A B _ _ _ _ w1 (hmk.keep hW) (hmk'.keep hW)).mono ?_
     rintro e w2 ⟨_, rfl, rfl, k2⟩
     go_wp2_with fail
     go_ret
     exact ⟨_, rfl, by rw [HS.out]; rfl, hW.keep k2⟩
set_option maxHeartbeats 1000000 in
theorem l12SameCache_any (A B : Nat → Prop) (v v' : Value) (c c' : Ca) (w : World) (h : RC A w v c) (h' : RC B w v' c') :
  Calls Tryz.prog 120 #[v, v'] w (Ret fun r w' => r = .bool (sameB c c') ∧ Chg No w w') := by
 obtain ⟨pv, mv, rfl, hp, hmk⟩ := h
 obtain ⟨pv', mv', rfl, hp', hmk'⟩ := h'
 obtain ⟨pa, pn, pc, rfl⟩ := hp.shape
 obtain ⟨ma, mn, mc, rfl⟩ := hmk.shape
 obtain ⟨pa', pn', pc', rfl⟩ := hp'.shape
 obtain ⟨ma', mn', mc', rfl⟩ := hmk'.shape
 have k0 := ((Chg.refl No w).alloc (.cells #[.int .i64 c.pol, .int .i64 c.size, .slice pa pn pc, .slice ma mn mc, .int .i64 c.hand] 66)).alloc (.cells #[.int .i64 c'.pol, .int .i64 c'.size, .slice pa' pn' pc', .slice ma' mn' mc', .int .i64 c'.hand] 66)
 cases h1 : c.pol == c'.pol
 ·have HS : Hid (sameB c c' = false) := Lib.hid (by simp [sameB, h1])
  go_enter Tryz.func120, Tryz.ntmps120
  go_wp2_with fail
  go_ret
  exact ⟨_, rfl, by rw [HS.out]; rfl, k0⟩
 ·cases h2 : c.size == c'.size
  ·have HS : Hid (sameB c c' = false) := Lib.hid (by simp [sameB, h2])
   go_enter Tryz.func120, Tryz.ntmps120
   go_wp2_with fail
   go_ret
   exact ⟨_, rfl, by rw [HS.out]; rfl, k0⟩
  ·cases h4 : c.pages == c'.pages
   ·have HS : Hid (sameB c c' = false) := Lib.hid (by simp only [sameB, h4, Bool.false_and, Bool.and_false])
    have H4 := Lib.hid h4
    clear h4 k0
    go_enter Tryz.func120, Tryz.ntmps120
    go_wp2_with fail
    refine boxes2 (R := fun W => Calls _ _ _ W _) (fun W hW b0 b1 => ?_)
    refine (l1Same_any A B _ _ _ _ W (hp.keep hW) (hp'.keep hW)).mono ?_
    rintro e w1 ⟨_, rfl, rfl, k1⟩
    rw [H4.out]
    go_wp2_with fail
    go_ret
    exact ⟨_, rfl, by rw [HS.out]; rfl, hW.keep k1⟩
   ·cases h5 : c.marks == c'.marks
    ·have HS : Hid (sameB c c' = false) := Lib.hid (by simp only [sameB, h5, Bool.and_false])
     have H4 := Lib.hid h4
     have H5 := Lib.hid h5
     clear h4 h5 k0
     go_enter Tryz.func120, Tryz.ntmps120
     go_wp2_with fail
     refine boxes2 (R := fun W => Calls _ _ _ W _) (fun W hW b0 b1 => ?_)
     refine (l1Same_any A B _ _ _ _ W (hp.keep hW) (hp'.keep hW)).mono ?_
     rintro e w1 ⟨_, rfl, rfl, k1⟩
     rw [H4.out]
     have hW := hW.keep k1
     obtain ⟨c0, c1, c2, c3, c4, _⟩ := b0.keep k1
     obtain ⟨d0, d1, d2, d3, d4, _⟩ := b1.keep k1
     go_wp2_with fail
     refine (l1Same_any A B _ _ _ _ w1 (hmk.keep hW) (hmk'.keep hW)).mono ?_
     rintro e w2 ⟨_, rfl, rfl, k2⟩
     rw [H5.out]
     go_wp2_with fail
     go_ret
     exact ⟨_, rfl, by rw [HS.out]; rfl, hW.keep k2⟩
    ·have HS : Hid (sameB c c' = (c.hand == c'.hand)) := Lib.hid (by simp only [sameB, h1, h2, h4, h5, Bool.true_and, Bool.and_true])
     have H4 := Lib.hid h4
     have H5 := Lib.hid h5
     clear h4 h5 k0
     go_enter Tryz.func120, Tryz.ntmps120
     go_wp2_with fail
     refine boxes2 (R := fun W => Calls _ _ _ W _) (fun W hW b0 b1 => ?_)
     refine (l1Same_any A B _ _ _ _ W (hp.keep hW) (hp'.keep hW)).mono ?_
     rintro e w1 ⟨_, rfl, rfl, k1⟩
     rw [H4.out]
     have hW := hW.keep k1
     have b0 := b0.keep k1
     have b1 := b1.keep k1
     obtain ⟨c0, c1, c2, c3, c4, _⟩ := id b0
     obtain ⟨d0, d1, d2, d3, d4, _⟩ := id b1
     go_wp2_with fail
     refine (l1Same_any A B _ _ _ _ w1 (hmk.keep hW) (hmk'.keep hW)).mono ?_
     rintro e w2 ⟨_, rfl, rfl, k2⟩
     rw [H5.out]
     clear c0 c1 c2 c3 c4 d0 d1 d2 d3 d4
     obtain ⟨c0, c1, c2, c3, c4, _⟩ := b0.keep k2
     obtain ⟨d0, d1, d2, d3, d4, _⟩ := b1.keep k2
     go_wp2_with fail
     go_ret
     exact ⟨_, rfl, by rw [HS.out]; rfl, hW.keep k2⟩
end Go.Proofs.YtdgcohoneijleaaGreatDoor
namespace Go.Proofs.YtdgcohoneijleaaGreatDoor
open Go.RowKit
def reqB (n : Int) (l : List Int) : Bool := inB n 1 8 && decide (l.length ≤ 60) && belowB n l
theorem wpAnyK_tailK {P : Program} {Q : Exit → Act → World → Prop} {md : Region.Mode} {S : World → Prop} {k : Nat} (n : Nat) {f : Nat} {l : List Oper} {listed : Array Bool} {a : Act} {w : World} (hf : (l.drop n).length = f) (hB : (Region.seqB md l.toArray f n listed && listed.getD k true) = true)
  (h : wpList P l.toArray Q (l.drop n) a w) : wpAnyK P md l.toArray Q S k f listed a w := by
 subst hf
 simp only [Bool.and_eq_true] at hB
 exact wpAnyK_of_any _ _ _ _ hB.2 (wpAny_of_seq (P := P) (md := md) (Q' := Q) (l.drop n) n listed a w (fun j => by simp [List.getElem?_drop]) hB.1 h)
set_option maxHeartbeats 2000000 in
theorem l4Run_any (v rv : Value) (c : Ca) (l : List Int) (w : World) (hv : RC No w v c) (hr : RI No w rv l) (hok : Ok c) :
  Calls Tryz.prog 127 #[v, rv] w (Ret fun v' w' => RC No w' v' (runC c l) ∧ Chg No w w') := by
 obtain ⟨pv, mv, rfl, hp, hmk⟩ := hv
 obtain ⟨pa, pn, pc, rfl⟩ := hp.shape
 obtain ⟨ma, mn, mc, rfl⟩ := hmk.shape
 obtain ⟨a, cap, rfl, hcap, hmax, hlen, _, hc⟩ := id hr
 go_enter Tryz.func127, Tryz.ntmps127
 go_wp2
 go_loopw [5] (fun i wr => ∃ (k : Nat) (pv mv : Value), k ≤ l.length ∧ i = .int .i64 k ∧ Bd (fun q => q = w.heap.size ∨ q = w.heap.size + 1) wr ∧
   Box wr w.heap.size (.int .i64 (runC c (l.take k)).pol) (.int .i64 (runC c (l.take k)).size) pv mv (.int .i64 (runC c (l.take k)).hand) ∧
   Box wr (w.heap.size + 1) (.int .i64 0) (.int .i64 0) (.slice none 0 0) (.slice none 0 0) (.int .i64 0) ∧
   RI (fun q => q = w.heap.size ∨ q = w.heap.size + 1) wr pv (runC c (l.take k)).pages ∧ RI (fun q => q = w.heap.size ∨ q = w.heap.size + 1) wr mv (runC c (l.take k)).marks ∧ Chg No w wr) (fun i _ => l.length - (intOf i).toNat)
 case atStart =>
  refine ⟨0, .slice pa pn pc, .slice ma mn mc, Nat.zero_le _, rfl, fun q hq => ?_, (Box.new w _ _ _ _ _ _).keep ((Chg.refl No _).alloc _), (Box.new (w.alloc _) _ _ _ _ _ _).at (by simp), ?_, ?_, ((Chg.refl No w).alloc _).alloc _⟩
  ·rw [World.size_alloc, World.size_alloc]
   rcases hq with h | h <;> omega
  ·exact hp.to (((Chg.refl No w).alloc _).alloc _) (fun _ e => e.elim) (fun q hq => .inr (by omega))
  ·exact hmk.to (((Chg.refl No w).alloc _).alloc _) (fun _ e => e.elim) (fun q hq => .inr (by omega))
 case round =>
  obtain ⟨k, pv, mv, hk, rfl, hB, hbox, hb1, hp', hm', hch⟩ := hrel
  obtain ⟨pa', pn', pc', rfl⟩ := hp'.shape
  obtain ⟨ma', mn', mc', rfl⟩ := hm'.shape
  obtain ⟨ck, hck⟩ : ∃ ck, runC c (l.take k) = ck := ⟨_, rfl⟩
  have hokk : Ok ck := hck ▸ ok_run hok _
  by_cases hlt : k < l.length
  ·rw [hck] at hbox hp' hm'
   obtain ⟨b, off, rfl, _, hb, hcell⟩ := hc (by intro e; simp [e] at hlt)
   have hrun := runC_snoc c l k hlt
   rw [hck] at hrun
   obtain ⟨y, hy⟩ : ∃ y, l[k] = y := ⟨_, rfl⟩
   have hcl := (hch.cellD b (off + k) hb (fun e => e)).trans (hcell k hlt)
   have hgy : l.getD k 0 = y := by rw [← hy, List.getD_eq_getElem?_getD, List.getElem?_eq_getElem hlt]; rfl
   rw [hgy] at hcl
   rw [hy] at hrun
   have HR := Lib.hid hrun
   clear hcell hc hrun hck hgy hy
   have hk0 : (0 : Int) ≤ (k : Int) := Int.natCast_nonneg _
   have hk1 : (k : Int) < (l.length : Int) := by omega
   obtain ⟨B1, hBB⟩ : ∃ B1 : Nat → Prop, (fun q => q = w.heap.size ∨ q = w.heap.size + 1) = B1 := ⟨_, rfl⟩
   have hN0 : B1 w.heap.size := by rw [← hBB]; exact .inl rfl
   have HBB := Lib.hid hBB
   rw [hBB] at hB hp' hm'
   clear hBB
   obtain ⟨c0, c1, c2, c3, c4, hfr⟩ := id hbox
   go_wp2_with fail
   go_still_tail 5, (by kernel_rfl)
   have hd1 : Chg No wr wr.drew := (Chg.refl No wr).drew
   change wpList _ _ _ _ _ wr.drew
   have hbox1 := hbox.keep hd1
   have hb11 := hb1.keep hd1
   have hp1 := hp'.keep hd1
   have hm1 := hm'.keep hd1
   have hch1 := hch.keep hd1
   have hB1 := hB.keep hd1
   clear c0 c1 c2 c3 c4 hfr hcl hbox hb1 hp' hm' hch hB
   generalize wr.drew = W2 at hbox1 hb11 hp1 hm1 hch1 hB1 ⊢
   clear hd1
   go_wp2_with fail
   refine (l4Step_any B1 _ ck y W2 ⟨_, _, rfl, hp1, hm1⟩ hB1 hokk).mono ?_
   rintro e w3 ⟨v3, rfl, ⟨pv3, mv3, rfl, hp3, hm3⟩, hk3⟩
   rw [← HR.out] at hp3 hm3
   obtain ⟨pa3, pn3, pc3, rfl⟩ := hp3.shape
   obtain ⟨ma3, mn3, mc3, rfl⟩ := hm3.shape
   have hbox3 := hbox1.keep hk3
   obtain ⟨c0, c1, c2, c3, c4, hfr⟩ := id hbox3
   have hfr0 := hfr 0
   have hfr1 := hfr 1
   have hfr2 := hfr 2
   have hfr3 := hfr 3
   have hfr4 := hfr 4
   go_wp2
   go_roundw
   case measure => simp [intOf]; omega
   case rel =>
    rw [HBB.out]
    refine ⟨k + 1, .slice pa3 pn3 pc3, .slice ma3 mn3 mc3, by omega, by go_num, ?_, ?_, ?_, ?_, ?_, (hch1.keep hk3).put5 (fun h => by omega) _ _ _ _ _⟩
    ·exact (hB1.keep hk3).keep ((Chg.refl (fun q => q = w.heap.size) _).put5 (fun _ => rfl) _ _ _ _ _)
    ·have := hbox3.put5 (.int .i64 (stepC ck y).pol) (.int .i64 (stepC ck y).size) (.slice pa3 pn3 pc3) (.slice ma3 mn3 mc3) (.int .i64 (stepC ck y).hand)
     rw [HR.out]
     exact this
    ·exact (hb11.keep hk3).far5 w.heap.size (by omega) _ _ _ _ _
    ·exact hp3.step ((Chg.refl (fun q => q = w.heap.size) _).put5 (fun _ => rfl) _ _ _ _ _) (fun q hq => hq ▸ hN0)
    ·exact hm3.step ((Chg.refl (fun q => q = w.heap.size) _).put5 (fun _ => rfl) _ _ _ _ _) (fun q hq => hq ▸ hN0)
  ·have hkl : k = l.length := by omega
   subst hkl
   rw [List.take_length] at hbox hp' hm' hck
   obtain ⟨cc, hcc⟩ : ∃ cc, runC c l = cc := ⟨_, rfl⟩
   rw [hcc] at hbox hp' hm'
   have HCC := Lib.hid hcc
   clear hck hokk hcc
   obtain ⟨c0, c1, c2, c3, c4, hfr⟩ := id hbox
   obtain ⟨s0, s1, s2, s3, s4, sf⟩ := id hb1
   have sf0 := sf 0
   have sf1 := sf 1
   have sf2 := sf 2
   have sf3 := sf 3
   have sf4 := sf 4
   clear sf hfr
   go_wp2
   obtain ⟨z0, z1, z2, z3, z4, _⟩ := hb1.put5 (.int .i64 cc.pol) (.int .i64 cc.size) (.slice pa' pn' pc') (.slice ma' mn' mc') (.int .i64 cc.hand)
   refine bodyPost_ret (v := .agg #[.int .i64 cc.pol, .int .i64 cc.size, .slice pa' pn' pc', .slice ma' mn' mc', .int .i64 cc.hand]) (by simp [results, Tryz.results127, go_sem, z0, z1, z2, z3, z4]) rfl ?_
   rw [HCC.out]
   refine ⟨_, rfl, ⟨_, _, rfl, ?_, ?_⟩, hch.put5 (fun h => by omega) _ _ _ _ _⟩
   ·exact (hp'.step ((Chg.refl (fun q => q = w.heap.size + 1) _).put5 (fun _ => rfl) _ _ _ _ _) (fun q hq => .inr hq)).weak (fun _ e _ => e.elim)
   ·exact (hm'.step ((Chg.refl (fun q => q = w.heap.size + 1) _).put5 (fun _ => rfl) _ _ _ _ _) (fun q hq => .inr hq)).weak (fun _ e _ => e.elim)
end Go.Proofs.YtdgcohoneijleaaGreatDoor
namespace Go.Proofs.YtdgcohoneijleaaGreatDoor
open Go.RowKit
set_option maxHeartbeats 1000000 in
theorem l4Copy_any (A : Nat → Prop) (v : Value) (c : Ca) (w : World) (h : RC A w v c) :
  Calls Tryz.prog 126 #[v] w (Ret fun r w' => RCO w.heap.size w' r c ∧ Chg No w w') := by
 obtain ⟨pv, mv, rfl, hp, hmk⟩ := h
 obtain ⟨pa, pn, pc, rfl⟩ := hp.shape
 obtain ⟨ma, mn, mc, rfl⟩ := hmk.shape
 go_enter Tryz.func126, Tryz.ntmps126
 go_wp2_with fail
 refine boxes3 (R := fun W => Calls _ _ _ W _) (fun W hW b0 b1 b2 => ?_)
 have hsz := hW.size
 have hl2 := b2.lt
 refine (l1Own_any A _ _ W (hp.keep hW)).mono ?_
 rintro e w1 ⟨v1, rfl, o1, k1⟩
 obtain ⟨a1, n1, q1, rfl⟩ := o1.shape
 have b0 := b0.keep k1
 have b1 := b1.keep k1
 have b2 := b2.keep k1
 have hW1 := hW.keep k1
 have g22 := b2.c2
 have g22f := b2.fr 2
 obtain ⟨c0, c1, c2, c3, c4, fr⟩ := id (b0.far ⟨w.heap.size + 1 + 1, 2, none⟩ (.slice a1 n1 q1) (by simp <;> omega))
 go_wp2_with fail
 have b0 := b0.far ⟨w.heap.size + 1 + 1, 2, none⟩ (.slice a1 n1 q1) (by simp <;> omega)
 have b1 := b1.far ⟨w.heap.size + 1 + 1, 2, none⟩ (.slice a1 n1 q1) (by simp <;> omega)
 have b2 := b2.set2 (.slice a1 n1 q1)
 have o1 := o1.far (b := w.heap.size + 1 + 1) (by omega) 2 (.slice a1 n1 q1)
 have hW1 := hW1.setCell (p := ⟨w.heap.size + 1 + 1, 2, none⟩) (fun h => by simp at h; omega) (.slice a1 n1 q1)
 clear c0 c1 c2 c3 c4 fr g22 g22f
 have hsW1 : W.heap.size ≤ (w1.setCell ⟨w.heap.size + 1 + 1, 2, none⟩ (.slice a1 n1 q1)).heap.size := by have := k1.size; simpa [World.setCell] using this
 have o1L := o1.lt
 generalize w1.setCell ⟨w.heap.size + 1 + 1, 2, none⟩ (.slice a1 n1 q1) = W1 at *
 refine (l1Own_any A _ _ W1 (hmk.keep hW1)).mono ?_
 rintro e w2 ⟨v2, rfl, o2, k2⟩
 obtain ⟨a2, n2, q2, rfl⟩ := o2.shape
 have b1 := b1.keep k2
 have b2 := b2.keep k2
 have o1 := o1.keep k2
 have hW2 := hW1.keep k2
 have hs1 := hW1.size
 have hs2 := hW2.size
 obtain ⟨_, _, _, g3, _, gf⟩ := id b2
 have gf3 := gf 3
 obtain ⟨r0, r1, r2, r3, r4, _⟩ := b2.set3 (.slice a2 n2 q2)
 have B1 := b1.far ⟨w.heap.size + 1 + 1, 3, none⟩ (.slice a2 n2 q2) (by simp <;> omega)
 obtain ⟨s0, s1, s2, s3, s4, sf⟩ := id B1
 have sf0 := sf 0
 have sf1 := sf 1
 have sf2 := sf 2
 have sf3 := sf 3
 have sf4 := sf 4
 clear sf gf
 go_wp2_with fail
 obtain ⟨z0, z1, z2, z3, z4, _⟩ := B1.put5 (.int .i64 c.pol) (.int .i64 c.size) (.slice a1 n1 q1) (.slice a2 n2 q2) (.int .i64 c.hand)
 refine bodyPost_ret (v := .agg #[.int .i64 c.pol, .int .i64 c.size, .slice a1 n1 q1, .slice a2 n2 q2, .int .i64 c.hand]) (by simp [results, Tryz.results126, go_sem, z0, z1, z2, z3, z4]) rfl ?_
 have hk := (hW2.setCell (p := ⟨w.heap.size + 1 + 1, 3, none⟩) (fun h => by simp at h; omega) (.slice a2 n2 q2)).put5 (b := w.heap.size + 1) (fun h => by omega) (.int .i64 c.pol) (.int .i64 c.size) (.slice a1 n1 q1) (.slice a2 n2 q2) (.int .i64 c.hand)
 have far : ∀ {v : Value} {l : List Int} {base : Nat}, OI base w2 v l → W.heap.size ≤ base → OI w.heap.size _ v l := fun {v l base} h hb =>
  ((h.far (b := w.heap.size + 1 + 1) (by omega) 3 (.slice a2 n2 q2)).put5 (b := w.heap.size + 1) (fun q hq e => by have := (h.lt q hq).1; omega) (.int .i64 c.pol) (.int .i64 c.size) (.slice a1 n1 q1) (.slice a2 n2 q2) (.int .i64 c.hand)).weak (by omega)
 exact ⟨_, rfl, ⟨_, _, rfl, far o1 (Nat.le_refl _), far o2 hsW1, fun q h1 h2 => by have := (o1L q h1).2; have := (o2.lt q h2).1; omega⟩, hk⟩
set_option maxHeartbeats 1000000 in
theorem ownCache_any (A : Nat → Prop) (v : Value) (c : Ca) (w : World) (h : RC A w v c) :
  Calls Tryz.prog 98 #[v] w (Ret fun r w' => RCO w.heap.size w' r c ∧ Chg No w w') := by
 obtain ⟨pv, mv, rfl, hp, hmk⟩ := h
 obtain ⟨pa, pn, pc, rfl⟩ := hp.shape
 obtain ⟨ma, mn, mc, rfl⟩ := hmk.shape
 go_enter Tryz.func98, Tryz.ntmps98
 go_wp2_with fail
 refine boxes2 (R := fun W => Code.wp _ _ _ _ W) (fun W hW b0 b1 => ?_)
 refine wp_region_K (S := fun W => W.cell? ⟨w.heap.size, 2, none⟩ = some (.slice pa pn pc) ∧ W.cell? ⟨w.heap.size, 3, none⟩ = some (.slice ma mn mc)) (k := 7) (by kernel_rfl) ?_
 have hl1 := b1.lt
 have hW := hW.drew
 have b0 := b0.keep (Chg.refl No W).drew
 have b1 := b1.keep (Chg.refl No W).drew
 have hl1 : w.heap.size + 1 < W.drew.heap.size := hl1
 generalize W.drew = W at hW b0 b1 hl1 ⊢
 have hS : (fun W : World => W.cell? ⟨w.heap.size, 2, none⟩ = some (.slice pa pn pc) ∧ W.cell? ⟨w.heap.size, 3, none⟩ = some (.slice ma mn mc)) W := ⟨b0.c2, b0.c3⟩
 refine wpAnyK_take0 0 (.pointer (some ⟨w.heap.size, 2, none⟩)) rfl (by kernel_rfl) (fun _ _ _ h => h) hS rfl (by intro w; go_simp) ?_
 simp only [zA, zC, zD, zE, zF, zG]
 refine wpAnyK_take 1 (.slice pa pn pc) rfl (by kernel_rfl) (fun _ _ _ h => h) hS rfl (by rintro w ⟨s2, s3⟩; go_simp) ?_
 simp only [zA, zB, zC, zD, zE, zF, zG]
 refine wpAnyK_take0 3 (.pointer (some ⟨w.heap.size, 3, none⟩)) rfl (by kernel_rfl) (fun _ _ _ h => h) hS rfl (by intro w; go_simp) ?_
 simp only [zA, zB, zC, zD, zE, zF, zG]
 refine wpAnyK_take 4 (.slice ma mn mc) rfl (by kernel_rfl) (fun _ _ _ h => h) hS rfl (by rintro w ⟨s2, s3⟩; go_simp) ?_
 simp only [zA, zB, zC, zD, zE, zF, zG]
 refine wpAnyK_1 2 (by kernel_rfl) (wpOpK' rfl rfl ?_)
 intro K hK
 refine ocall (f := 90) (args := #[.slice pa pn pc]) (by go_simp) (Clone_any A _ _ W (hp.keep hW)) (fun v1 w1 h1 => hK.out _ _ ⟨(b0.keep h1.2).c2, (b0.keep h1.2).c3⟩ ?_)
 obtain ⟨o1, k1⟩ := h1
 clear hK K
 simp only [zA, zB, zC, zD, zE, zF, zG]
 have b0 := b0.keep k1
 have b1 := b1.keep k1
 have hW1 := hW.keep k1
 have hz1 := k1.size
 have hS : (fun W : World => W.cell? ⟨w.heap.size, 2, none⟩ = some (.slice pa pn pc) ∧ W.cell? ⟨w.heap.size, 3, none⟩ = some (.slice ma mn mc)) w1 := ⟨b0.c2, b0.c3⟩
 refine wpAnyK_take0 6 (.pointer (some ⟨w.heap.size, 2, none⟩)) rfl (by kernel_rfl) (fun _ _ _ h => h) hS rfl (by intro w; go_simp) ?_
 simp only [zA, zB, zC, zD, zE, zF, zG]
 refine wpAnyK_1 5 (by kernel_rfl) (wpOpK' rfl rfl ?_)
 intro K hK
 refine ocall (f := 90) (args := #[.slice ma mn mc]) (by go_simp) (Clone_any A _ _ w1 (hmk.keep hW1)) (fun v2 w2 h2 => hK.out _ _ ⟨(b0.keep h2.2).c2, (b0.keep h2.2).c3⟩ ?_)
 obtain ⟨o2, k2⟩ := h2
 clear hK K hS
 simp only [zA, zB, zC, zD, zE, zF, zG]
 have b0 := b0.keep k2
 have b1 := b1.keep k2
 have o1L := o1.lt
 have o1 := o1.keep k2
 have hW2 := hW1.keep k2
 obtain ⟨a1, n1, q1, rfl⟩ := o1.shape
 obtain ⟨a2, n2, q2, rfl⟩ := o2.shape
 have hs2 := hW2.size
 have z2 := b0.c2
 have y2 := b0.fr 2
 have B2 := b0.set2 (.slice a1 n1 q1)
 have z3 := B2.c3
 have y3 := B2.fr 3
 have B3 := B2.set3 (.slice a2 n2 q2)
 refine wpAnyK_tail 7 rfl (by kernel_rfl) ?_
 simp only [List.drop_succ_cons, List.drop_zero]
 obtain ⟨r0, r1, r2, r3, r4, _⟩ := id B3
 have B1 := (b1.far ⟨w.heap.size, 2, none⟩ (.slice a1 n1 q1) (by simp)).far ⟨w.heap.size, 3, none⟩ (.slice a2 n2 q2) (by simp)
 obtain ⟨s0, s1, s2, s3, s4, sf⟩ := id B1
 have sf0 := sf 0
 have sf1 := sf 1
 have sf2 := sf 2
 have sf3 := sf 3
 have sf4 := sf 4
 clear sf
 go_wp2_with fail
 obtain ⟨z0, z1, z2, z3, z4, _⟩ := B1.put5 (.int .i64 c.pol) (.int .i64 c.size) (.slice a1 n1 q1) (.slice a2 n2 q2) (.int .i64 c.hand)
 refine bodyPost_ret (v := .agg #[.int .i64 c.pol, .int .i64 c.size, .slice a1 n1 q1, .slice a2 n2 q2, .int .i64 c.hand]) (by simp [results, Tryz.results98, go_sem, z0, z1, z2, z3, z4]) rfl ?_
 have hk := ((hW2.setCell (p := ⟨w.heap.size, 2, none⟩) (fun h => by simp at h) (.slice a1 n1 q1)).setCell (p := ⟨w.heap.size, 3, none⟩) (fun h => by simp at h) (.slice a2 n2 q2)).put5 (b := w.heap.size + 1) (fun h => by omega) (.int .i64 c.pol) (.int .i64 c.size) (.slice a1 n1 q1) (.slice a2 n2 q2) (.int .i64 c.hand)
 have far : ∀ {v : Value} {l : List Int} {base : Nat}, OI base w2 v l → W.heap.size ≤ base → OI w.heap.size _ v l := fun {v l base} h hb =>
  (((h.far (b := w.heap.size) (by omega) 2 (.slice a1 n1 q1)).far (b := w.heap.size) (by omega) 3 (.slice a2 n2 q2)).put5 (b := w.heap.size + 1) (fun q hq e => by have := (h.lt q hq).1; omega) (.int .i64 c.pol) (.int .i64 c.size) (.slice a1 n1 q1) (.slice a2 n2 q2) (.int .i64 c.hand)).weak (by omega)
 exact ⟨_, rfl, ⟨_, _, rfl, far o1 (Nat.le_refl _), far o2 hz1, fun q h1 h2 => by have := (o1L q h1).2; have := (o2.lt q h2).1; omega⟩, hk⟩
end Go.Proofs.YtdgcohoneijleaaGreatDoor
