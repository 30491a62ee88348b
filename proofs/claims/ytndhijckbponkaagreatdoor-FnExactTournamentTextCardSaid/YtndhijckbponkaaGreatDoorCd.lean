import Derived.Test.YtndhijckbponkaaGreatDoorS
import Derived.Test.YtndhijckbponkaaGreatDoorSs
import Derived.Test.YtndhijckbponkaaGreatDoorL
/- what the laws' helpers do with a Cache: its size, copy, compare, mark, look whether the mark is held -/
namespace Go.Proofs.YtndhijckbponkaaGreatDoor
open Go.RowKit

def zeroC : Ca := ⟨0, 0, [], [], 0⟩
/-- a Cache by value whose lists are the call's own -/
def RCO (base : Nat) (w : World) (v : Value) (c : Ca) : Prop :=
  ∃ pv mv, v = .agg #[.int .i64 c.pol, .int .i64 c.size, pv, mv, .int .i64 c.hand] ∧ OI base w pv c.pages ∧ OI base w mv c.marks ∧ ∀ q, own pv q → ¬ own mv q
/-- the blocks of a Cache by value -/
def ownC : Value → Nat → Prop
  | .agg xs, q => own (xs.getD 2 undef) q ∨ own (xs.getD 3 undef) q
  | _, _ => False
theorem RCO.lt {base : Nat} {w : World} {v : Value} {c : Ca} (h : RCO base w v c) (q : Nat) (hq : ownC v q) : base ≤ q ∧ q < w.heap.size := by
  obtain ⟨pv, mv, rfl, h1, h2, _⟩ := h
  rcases hq with hq | hq
  · exact h1.lt q hq
  · exact h2.lt q hq
theorem RCO.step {base : Nat} {w w' : World} {v : Value} {c : Ca} {T : Nat → Prop} (h : RCO base w v c) (hc : Chg T w w') (hT : ∀ q, ownC v q → ¬ T q) : RCO base w' v c := by
  obtain ⟨pv, mv, rfl, h1, h2, h3⟩ := h
  exact ⟨pv, mv, rfl, h1.step hc (fun q hq => hT q (.inl hq)), h2.step hc (fun q hq => hT q (.inr hq)), h3⟩
theorem RCO.keep {base : Nat} {w w' : World} {v : Value} {c : Ca} (h : RCO base w v c) (hc : Chg No w w') : RCO base w' v c := h.step hc (fun _ _ e => e)
theorem RCO.weak {base base' : Nat} {w : World} {v : Value} {c : Ca} (h : RCO base w v c) (hb : base' ≤ base) : RCO base' w v c := by
  obtain ⟨pv, mv, rfl, h1, h2, h3⟩ := h
  exact ⟨pv, mv, rfl, h1.weak hb, h2.weak hb, h3⟩
theorem RCO.read {base : Nat} {w : World} {v : Value} {c : Ca} (h : RCO base w v c) {A : Nat → Prop} (hA : ∀ q, ownC v q → ¬ A q) : RC A w v c := by
  obtain ⟨pv, mv, rfl, h1, h2, h3⟩ := h
  exact ⟨pv, mv, rfl, h1.read (fun q hq => hA q (.inl hq)), h2.read (fun q hq => hA q (.inr hq))⟩
theorem RCO.readNo {base : Nat} {w : World} {v : Value} {c : Ca} (h : RCO base w v c) : RC No w v c := h.read (fun _ _ e => e)
theorem RCO.zero (base : Nat) (w : World) : RCO base w (.agg #[.int .i64 0, .int .i64 0, .slice none 0 0, .slice none 0 0, .int .i64 0]) ⟨0, 0, [], [], 0⟩ :=
  ⟨_, _, rfl, OI.nil base w, OI.nil base w, fun q h => by simp [own, Value.ownBlock] at h⟩

/-- what szCache leaves -/
def szC (n m : Nat) (left : Int) : Int := if (n : Int) + m ≤ left then left - n - m else -1
set_option maxRecDepth 100000 in
set_option maxHeartbeats 1000000 in
theorem szCache_any (p k hd : Int) (a a' : Option Addr) (n n' c c' : Nat) (left : Int) (w : World) (hn : n ≤ 9223372036854775807) (hn' : n' ≤ 9223372036854775807) (h0 : 0 ≤ left) (h1 : left ≤ 1048576) :
    Calls Tryz.prog 118 #[.agg #[.int .i64 p, .int .i64 k, .slice a n c, .slice a' n' c', .int .i64 hd], .int .i64 left] w (Ret fun r w' => r = .int .i64 (szC n n' left) ∧ Chg No w w') := by
  have z0 : (0 : Int) ≤ (n : Int) := Int.natCast_nonneg _
  have z1 : (0 : Int) ≤ (n' : Int) := Int.natCast_nonneg _
  by_cases hl : (n : Int) ≤ left
  · have hnl : ¬ (szN n left < 0) := by unfold szN; rw [if_pos hl]; omega
    by_cases hl' : (n : Int) + n' ≤ left
    · have e2 : szN n' (szN n left) = szC n n' left := by unfold szN szC; rw [if_pos hl, if_pos (by omega), if_pos hl']
      have hnl' : ¬ (szN n' (szN n left) < 0) := by rw [e2]; unfold szC; rw [if_pos hl']; omega
      have E2 := Lib.hid e2
      have b0 : 0 ≤ szN n left := by omega
      have b1 : szN n left ≤ 1048576 := by unfold szN; rw [if_pos hl]; omega
      clear e2 hl hl'
      go_enter Tryz.func118, Tryz.ntmps118
      go_wp2_with fail
      refine (szIntS_any a n c left _ hn h0 h1).mono ?_
      rintro e w1 ⟨rfl, rfl⟩
      go_wp2_with fail
      refine (szIntS_any a' n' c' _ _ hn' b0 b1).mono ?_
      rintro e w1 ⟨rfl, rfl⟩
      go_wp2_with fail
      go_ret
      exact ⟨_, rfl, by rw [E2.out]; rfl, (Chg.refl No w).alloc _⟩
    · have e2 : szN n' (szN n left) = -1 := by unfold szN; rw [if_pos hl, if_neg (by omega)]
      have E2 : Hid (szC n n' left = -1) := Lib.hid (if_neg hl')
      have b0 : 0 ≤ szN n left := by omega
      have b1 : szN n left ≤ 1048576 := by unfold szN; rw [if_pos hl]; omega
      have E3 := Lib.hid e2
      clear hl hl' e2
      go_enter Tryz.func118, Tryz.ntmps118
      go_wp2_with fail
      refine (szIntS_any a n c left _ hn h0 h1).mono ?_
      rintro e w1 ⟨rfl, rfl⟩
      go_wp2_with fail
      refine (szIntS_any a' n' c' _ _ hn' b0 b1).mono ?_
      rintro e w1 ⟨rfl, rfl⟩
      rw [E3.out]
      go_wp2_with fail
      go_ret
      exact ⟨_, rfl, by rw [E2.out]; rfl, (Chg.refl No w).alloc _⟩
  · have e1 : szN n left = -1 := by unfold szN; rw [if_neg hl]
    have E2 : Hid (szC n n' left = -1) := Lib.hid (if_neg (by omega))
    have E1 := Lib.hid e1
    clear hl e1
    go_enter Tryz.func118, Tryz.ntmps118
    go_wp2_with fail
    refine (szIntS_any a n c left _ hn h0 h1).mono ?_
    rintro e w1 ⟨rfl, rfl⟩
    rw [E1.out]
    go_wp2_with fail
    go_ret
    exact ⟨_, rfl, by rw [E2.out]; rfl, (Chg.refl No w).alloc _⟩

theorem boxes3 {w : World} {t t' t'' : TypeId} {x0 x1 x2 x3 x4 y0 y1 y2 y3 y4 z0 z1 z2 z3 z4 : Value} {R : World → Prop} (h : ∀ W, Chg No w W → Box W w.heap.size x0 x1 x2 x3 x4 → Box W (w.heap.size + 1) y0 y1 y2 y3 y4 → Box W (w.heap.size + 1 + 1) z0 z1 z2 z3 z4 → R W) :
    R (((w.alloc (.cells #[x0, x1, x2, x3, x4] t)).alloc (.cells #[y0, y1, y2, y3, y4] t')).alloc (.cells #[z0, z1, z2, z3, z4] t'')) :=
  h _ ((((Chg.refl No w).alloc _).alloc _).alloc _) ((Box.new w x0 x1 x2 x3 x4 t).keep (((Chg.refl No _).alloc _).alloc _))
    (((Box.new (w.alloc (.cells #[x0, x1, x2, x3, x4] t)) y0 y1 y2 y3 y4 t').keep ((Chg.refl No _).alloc _)).at (by simp)) ((Box.new ((w.alloc (.cells #[x0, x1, x2, x3, x4] t)).alloc (.cells #[y0, y1, y2, y3, y4] t')) z0 z1 z2 z3 z4 t'').at (by simp))
theorem box1 {w : World} {t : TypeId} {x0 x1 x2 x3 x4 : Value} {R : World → Prop} (h : ∀ W, Chg No w W → Box W w.heap.size x0 x1 x2 x3 x4 → R W) : R (w.alloc (.cells #[x0, x1, x2, x3, x4] t)) :=
  h _ ((Chg.refl No w).alloc _) (Box.new w x0 x1 x2 x3 x4 t)
theorem boxes2 {w : World} {t t' : TypeId} {x0 x1 x2 x3 x4 y0 y1 y2 y3 y4 : Value} {R : World → Prop} (h : ∀ W, Chg No w W → Box W w.heap.size x0 x1 x2 x3 x4 → Box W (w.heap.size + 1) y0 y1 y2 y3 y4 → R W) :
    R ((w.alloc (.cells #[x0, x1, x2, x3, x4] t)).alloc (.cells #[y0, y1, y2, y3, y4] t')) :=
  h _ (((Chg.refl No w).alloc _).alloc _) ((Box.new w x0 x1 x2 x3 x4 t).keep ((Chg.refl No _).alloc _))
    ((Box.new (w.alloc (.cells #[x0, x1, x2, x3, x4] t)) y0 y1 y2 y3 y4 t').at (by simp))
/-- the new lists behind a store to a box of one's own -/
theorem OI.far {base : Nat} {w : World} {v : Value} {l : List Int} (h : OI base w v l) {b : Nat} (hb : b < base) (o : Nat) (x : Value) : OI base (w.setCell ⟨b, o, none⟩ x) v l :=
  h.set b o x (fun hq => by have := (h.lt b hq).1; omega)

set_option maxRecDepth 100000 in
set_option maxHeartbeats 1000000 in
theorem toCache_any (A : Nat → Prop) (v : Value) (c : Ca) (w : World) (h : RC A w v c) :
    Calls Tryz.prog 121 #[v] w (Ret fun r w' => RCO w.heap.size w' r c ∧ Chg No w w') := by
  obtain ⟨pv, mv, rfl, hp, hmk⟩ := h
  obtain ⟨pa, pn, pc, rfl⟩ := hp.shape
  obtain ⟨ma, mn, mc, rfl⟩ := hmk.shape
  go_enter Tryz.func121, Tryz.ntmps121
  go_wp2_with fail
  refine boxes3 (R := fun W => Calls _ _ _ W _) (fun W hW b0 b1 b2 => ?_)
  have hsz := hW.size
  have hl2 := b2.lt
  refine (toIntS_any A _ _ W (hp.keep hW)).mono ?_
  rintro e w1 ⟨v1, rfl, o1, k1⟩
  obtain ⟨a1, n1, q1, rfl⟩ := o1.shape
  have b0 := b0.keep k1
  have b1 := b1.keep k1
  have b2 := b2.keep k1
  have hW1 := hW.keep k1
  have g22 := b2.c2
  have g22f := b2.fr 2
  obtain ⟨c0, c1, c2, c3, c4, fr⟩ := id (b0.far ⟨w.heap.size + 1 + 1, 2, none⟩ (.slice a1 n1 q1) (by simp <;> omega))
  go_wp2_with fail
  have b0 := b0.far ⟨w.heap.size + 1 + 1, 2, none⟩ (.slice a1 n1 q1) (by simp <;> omega)
  have b1 := b1.far ⟨w.heap.size + 1 + 1, 2, none⟩ (.slice a1 n1 q1) (by simp <;> omega)
  have b2 := b2.set2 (.slice a1 n1 q1)
  have o1 := o1.far (b := w.heap.size + 1 + 1) (by omega) 2 (.slice a1 n1 q1)
  have hW1 := hW1.setCell (p := ⟨w.heap.size + 1 + 1, 2, none⟩) (fun h => by simp at h; omega) (.slice a1 n1 q1)
  clear c0 c1 c2 c3 c4 fr g22 g22f
  have hsW1 : W.heap.size ≤ (w1.setCell ⟨w.heap.size + 1 + 1, 2, none⟩ (.slice a1 n1 q1)).heap.size := by have := k1.size; simpa [World.setCell] using this
  have o1L := o1.lt
  generalize w1.setCell ⟨w.heap.size + 1 + 1, 2, none⟩ (.slice a1 n1 q1) = W1 at *
  refine (toIntS_any A _ _ W1 (hmk.keep hW1)).mono ?_
  rintro e w2 ⟨v2, rfl, o2, k2⟩
  obtain ⟨a2, n2, q2, rfl⟩ := o2.shape
  have b0 := b0.keep k2
  have b1 := b1.keep k2
  have b2 := b2.keep k2
  have o1 := o1.keep k2
  have hW2 := hW1.keep k2
  have hs1 := hW1.size
  have hs2 := hW2.size
  obtain ⟨_, _, _, g3, _, gf⟩ := id b2
  have gf3 := gf 3
  have gf4 := gf 4
  obtain ⟨_, _, _, _, p4, _⟩ := b0.far ⟨w.heap.size + 1 + 1, 3, none⟩ (.slice a2 n2 q2) (by simp <;> omega)
  obtain ⟨_, _, _, _, q4, _⟩ := b2.set3 (.slice a2 n2 q2)
  obtain ⟨r0, r1, r2, r3, r4, _⟩ := (b2.set3 (.slice a2 n2 q2)).set4 (.int .i64 c.hand)
  have B1 := (b1.far ⟨w.heap.size + 1 + 1, 3, none⟩ (.slice a2 n2 q2) (by simp <;> omega)).far ⟨w.heap.size + 1 + 1, 4, none⟩ (.int .i64 c.hand) (by simp <;> omega)
  obtain ⟨s0, s1, s2, s3, s4, sf⟩ := id B1
  have sf0 := sf 0
  have sf1 := sf 1
  have sf2 := sf 2
  have sf3 := sf 3
  have sf4 := sf 4
  clear sf gf
  go_wp2_with fail
  obtain ⟨z0, z1, z2, z3, z4, _⟩ := B1.put5 (.int .i64 c.pol) (.int .i64 c.size) (.slice a1 n1 q1) (.slice a2 n2 q2) (.int .i64 c.hand)
  refine bodyPost_ret (v := .agg #[.int .i64 c.pol, .int .i64 c.size, .slice a1 n1 q1, .slice a2 n2 q2, .int .i64 c.hand]) (by simp [results, Tryz.results121, go_sem, z0, z1, z2, z3, z4]) rfl ?_
  have hk := ((hW2.setCell (p := ⟨w.heap.size + 1 + 1, 3, none⟩) (fun h => by simp at h; omega) (.slice a2 n2 q2)).setCell (p := ⟨w.heap.size + 1 + 1, 4, none⟩) (fun h => by simp at h; omega) (.int .i64 c.hand)).put5 (b := w.heap.size + 1) (fun h => by omega) (.int .i64 c.pol) (.int .i64 c.size) (.slice a1 n1 q1) (.slice a2 n2 q2) (.int .i64 c.hand)
  have far : ∀ {v : Value} {l : List Int} {base : Nat}, OI base w2 v l → W.heap.size ≤ base → OI w.heap.size _ v l := fun {v l base} h hb =>
    (((h.far (b := w.heap.size + 1 + 1) (by omega) 3 (.slice a2 n2 q2)).far (b := w.heap.size + 1 + 1) (by omega) 4 (.int .i64 c.hand)).put5 (b := w.heap.size + 1) (fun q hq e => by have := (h.lt q hq).1; omega) (.int .i64 c.pol) (.int .i64 c.size) (.slice a1 n1 q1) (.slice a2 n2 q2) (.int .i64 c.hand)).weak (by omega)
  exact ⟨_, rfl, ⟨_, _, rfl, far o1 (Nat.le_refl _), far o2 hsW1, fun q h1 h2 => by have := (o1L q h1).2; have := (o2.lt q h2).1; omega⟩, hk⟩

set_option maxRecDepth 100000 in
set_option maxHeartbeats 1000000 in
theorem eqCache_same (A B : Nat → Prop) (v v' : Value) (c : Ca) (w : World) (h : RC A w v c) (h' : RC B w v' c) :
    Calls Tryz.prog 124 #[v, v'] w (Ret fun r w' => r = .bool true ∧ Chg No w w') := by
  obtain ⟨pv, mv, rfl, hp, hmk⟩ := h
  obtain ⟨pv', mv', rfl, hp', hmk'⟩ := h'
  obtain ⟨pa, pn, pc, rfl⟩ := hp.shape
  obtain ⟨ma, mn, mc, rfl⟩ := hmk.shape
  obtain ⟨pa', pn', pc', rfl⟩ := hp'.shape
  obtain ⟨ma', mn', mc', rfl⟩ := hmk'.shape
  go_enter Tryz.func124, Tryz.ntmps124
  go_wp2_with fail
  refine boxes2 (R := fun W => Calls _ _ _ W _) (fun W hW b0 b1 => ?_)
  refine (eqIntS_same A B _ _ _ W (hp.keep hW) (hp'.keep hW)).mono ?_
  rintro e w1 ⟨_, rfl, rfl, k1⟩
  have b0 := b0.keep k1
  have b1 := b1.keep k1
  have hW := hW.keep k1
  obtain ⟨c0, c1, c2, c3, c4, _⟩ := id b0
  obtain ⟨d0, d1, d2, d3, d4, _⟩ := id b1
  go_wp2_with fail
  refine (eqIntS_same A B _ _ _ _ (hmk.keep hW) (hmk'.keep hW)).mono ?_
  rintro e w2 ⟨_, rfl, rfl, k2⟩
  have b0 := b0.keep k2
  have b1 := b1.keep k2
  have hW := hW.keep k2
  clear c0 c1 c2 c3 c4 d0 d1 d2 d3 d4
  obtain ⟨c0, c1, c2, c3, c4, _⟩ := id b0
  obtain ⟨d0, d1, d2, d3, d4, _⟩ := id b1
  go_wp2_with fail
  go_ret
  exact ⟨_, rfl, rfl, hW⟩
end Go.Proofs.YtndhijckbponkaaGreatDoor
