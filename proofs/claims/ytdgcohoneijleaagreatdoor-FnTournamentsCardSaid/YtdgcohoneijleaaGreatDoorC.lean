import Derived.Test.YtdgcohoneijleaaGreatDoorPkX3
set_option maxRecDepth 100000
namespace Go.Proofs.YtdgcohoneijleaaGreatDoor
open Go.RowKit
def RC (A : Nat → Prop) (w : World) (v : Value) (c : Ca) : Prop :=
  ∃ pv mv, v = .agg #[.int .i64 c.pol, .int .i64 c.size, pv, mv, .int .i64 c.hand] ∧ RI A w pv c.pages ∧ RI A w mv c.marks
theorem RC.step {A T : Nat → Prop} {w w' : World} {v : Value} {c : Ca} (h : RC A w v c) (hc : Chg T w w') (hT : ∀ k, T k → A k) : RC A w' v c := by
  obtain ⟨pv, mv, rfl, h1, h2⟩ := h
  exact ⟨pv, mv, rfl, h1.step hc hT, h2.step hc hT⟩
theorem RC.keep {A : Nat → Prop} {w w' : World} {v : Value} {c : Ca} (h : RC A w v c) (hc : Chg No w w') : RC A w' v c := h.step hc (fun _ hk => hk.elim)
theorem RC.and1 {A : Nat → Prop} {w w' : World} {v : Value} {c : Ca} (h : RC A w v c) (hc : Chg No w w') {b : Nat} (hb : w.heap.size ≤ b) : RC (And1 A b) w' v c := by
  obtain ⟨pv, mv, rfl, h1, h2⟩ := h
  exact ⟨pv, mv, rfl, h1.and1 hc (fun _ e => e.elim) hb, h2.and1 hc (fun _ e => e.elim) hb⟩
theorem RC.weak {A B : Nat → Prop} {w : World} {v : Value} {c : Ca} (h : RC A w v c) (hB : ∀ k, B k → k < w.heap.size → A k) : RC B w v c := by
  obtain ⟨pv, mv, rfl, h1, h2⟩ := h
  exact ⟨pv, mv, rfl, h1.weak hB, h2.weak hB⟩
structure Box (w : World) (b : Nat) (v0 v1 v2 v3 v4 : Value) : Prop where
  c0 : w.cell? ⟨b, 0, none⟩ = some v0
  c1 : w.cell? ⟨b, 1, none⟩ = some v1
  c2 : w.cell? ⟨b, 2, none⟩ = some v2
  c3 : w.cell? ⟨b, 3, none⟩ = some v3
  c4 : w.cell? ⟨b, 4, none⟩ = some v4
  fr : ∀ o, w.frozen? ⟨b, o, none⟩ = false
theorem Box.lt {w : World} {b : Nat} {v0 v1 v2 v3 v4 : Value} (h : Box w b v0 v1 v2 v3 v4) : b < w.heap.size := World.block_lt_of_cell? w _ h.c0
theorem Box.step {S : Nat → Prop} {w w' : World} {b : Nat} {v0 v1 v2 v3 v4 : Value} (h : Box w b v0 v1 v2 v3 v4) (hc : Chg S w w') (hS : ¬ S b) : Box w' b v0 v1 v2 v3 v4 := by
  have hb := h.lt
  exact ⟨(hc.cellD b 0 hb hS).trans h.c0, (hc.cellD b 1 hb hS).trans h.c1, (hc.cellD b 2 hb hS).trans h.c2, (hc.cellD b 3 hb hS).trans h.c3, (hc.cellD b 4 hb hS).trans h.c4,
    fun o => (World.frozen?_of_block (hc.block b hb hS)).trans (h.fr o)⟩
theorem Box.keep {w w' : World} {b : Nat} {v0 v1 v2 v3 v4 : Value} (h : Box w b v0 v1 v2 v3 v4) (hc : Chg No w w') : Box w' b v0 v1 v2 v3 v4 := h.step hc (fun e => e)
theorem Box.new (w : World) (v0 v1 v2 v3 v4 : Value) (t : TypeId) : Box (w.alloc (.cells #[v0, v1, v2, v3, v4] t)) w.heap.size v0 v1 v2 v3 v4 := by
  refine ⟨?_, ?_, ?_, ?_, ?_, fun o => World.frozen?_alloc_new _ _ _ _⟩ <;> (rw [World.cell?_alloc_new]; rfl)
set_option maxHeartbeats 400000 in
theorem l4At_any (A : Nat → Prop) (v : Value) (l : List Int) (n : Int) (w : World) (h : RI A w v l) :
    Calls Tryz.prog 166 #[v, .int .i64 n] w fun e w' => e = .returned (.int .i64 (atI l n)) ∧ w = w' := by
  obtain ⟨a, cap, rfl, hcap, hmax, hlen, _, hc⟩ := h
  go_enter Tryz.func166, Tryz.ntmps166
  go_wp2
  go_loop [4, 5] (fun r i => ∃ k : Nat, k ≤ l.length ∧ i = .int .i64 k ∧ r = .int .i64 0 ∧ hasB (l.take k) n = false) (fun _ i => l.length - (intOf i).toNat)
  case atStart => exact ⟨0, Nat.zero_le _, rfl, rfl, rfl⟩
  case round =>
    obtain ⟨k, hk, rfl, rfl, hh⟩ := hrel
    have H := Lib.hid hh
    clear hh
    by_cases hlt : k < l.length
    · obtain ⟨b, off, rfl, _, _, hcell⟩ := hc (by intro e; simp [e] at hlt)
      have hck := hcell k hlt
      have hs := Lib.hid (hasB_snoc l n k hlt)
      have ht := Lib.hid (atI_hit l n k hlt)
      go_wp2
      · go_ret
        have h : (l[k] == n) = true := by assumption
        exact ⟨ret_int (ht.out (beq_iff_eq.1 h) H.out).symm, rfl⟩
      · have h : (l[k] == n) = false := by assumption
        go_round
        case rel => exact ⟨k + 1, by omega, by go_num, rfl, by rw [hs.out, H.out, h]; rfl⟩
        case measure => simp [intOf]; omega
    · have hkl : k = l.length := by omega
      go_wp2
      go_ret
      subst hkl
      exact ⟨ret_int (by have := H.out; rw [List.take_length] at this; exact (atI_none l n this).symm), rfl⟩
set_option maxHeartbeats 400000 in
theorem l4Rarest_any (A : Nat → Prop) (v : Value) (l : List Int) (w : World) (h : RI A w v l) (hl : 0 < l.length) :
    Calls Tryz.prog 204 #[v] w (Ret fun v' w' => v' = .int .i64 (rarest l) ∧ Chg No w w') := by
  obtain ⟨a, cap, rfl, hcap, hmax, hlen, _, hc⟩ := h
  obtain ⟨b, off, rfl, _, hb, hcell⟩ := hc (by intro e; simp [e] at hl)
  go_enter Tryz.func204, Tryz.ntmps204
  go_wp2
  go_loopw [3, 4] (fun r i wr => ∃ k : Nat, 1 ≤ k ∧ k ≤ l.length ∧ i = .int .i64 k ∧ r = .int .i64 (rareTo l k) ∧ Chg No w wr) (fun _ i _ => l.length - (intOf i).toNat)
  case atStart => exact ⟨1, by omega, hl, rfl, by rw [rareTo_one]; rfl, Chg.refl _ _⟩
  case round =>
    obtain ⟨k, hk1, hk, rfl, rfl, hch⟩ := hrel
    by_cases hlt : k < l.length
    · have hr := rareTo_lt l k hk1
      have hck := (hch.cellD b (off + k) hb (fun e => e)).trans (hcell k hlt)
      have hcr := (hch.cellD b (off + rareTo l k) hb (fun e => e)).trans (hcell (rareTo l k) (by omega))
      have hs : Hid (rareTo l (k + 1) = if l[k] ≤ l[rareTo l k]?.getD 0 then k else rareTo l k) := by
        show rareTo l (k + 1) = _
        simp [rareTo, hlt]
      go_wp2_with fail
      go_quiet (fail)
      go_wp2
      · go_roundw
        case rel => exact ⟨k + 1, by omega, by omega, by go_num, by rw [hs.out, if_pos (by assumption)], hch.drewN _⟩
        case measure => simp [intOf]; omega
      · go_roundw
        case rel => exact ⟨k + 1, by omega, by omega, by go_num, by rw [hs.out, if_neg (by omega)], hch.drewN _⟩
        case measure => simp [intOf]; omega
    · have hkl : k = l.length := by omega
      go_wp2
      go_ret
      subst hkl
      exact ⟨_, rfl, rfl, hch⟩
theorem Chg.put5 {S : Nat → Prop} {w0 wr : World} (h : Chg S w0 wr) {b : Nat} (hb : b < w0.heap.size → S b) (x0 x1 x2 x3 x4 : Value) :
    Chg S w0 (((((wr.setCell ⟨b, 0, none⟩ x0).setCell ⟨b, 1, none⟩ x1).setCell ⟨b, 2, none⟩ x2).setCell ⟨b, 3, none⟩ x3).setCell ⟨b, 4, none⟩ x4) :=
  ((((h.setCell (p := ⟨b, 0, none⟩) hb x0).setCell (p := ⟨b, 1, none⟩) hb x1).setCell (p := ⟨b, 2, none⟩) hb x2).setCell (p := ⟨b, 3, none⟩) hb x3).setCell (p := ⟨b, 4, none⟩) hb x4
theorem OI.set {base : Nat} {w : World} {v : Value} {l : List Int} (h : OI base w v l) (b o : Nat) (x : Value) (hb : ¬ own v b) : OI base (w.setCell ⟨b, o, none⟩ x) v l :=
  h.step (T := fun k => k = b) ((Chg.refl (fun k => k = b) w).setCell (p := ⟨b, o, none⟩) (fun _ => rfl) x) (fun _ hk e => hb (e ▸ hk))
theorem OI.put5 {base : Nat} {wr : World} {v : Value} {l : List Int} (h : OI base wr v l) {b : Nat} (hb : ∀ k, own v k → k ≠ b) (x0 x1 x2 x3 x4 : Value) :
    OI base (((((wr.setCell ⟨b, 0, none⟩ x0).setCell ⟨b, 1, none⟩ x1).setCell ⟨b, 2, none⟩ x2).setCell ⟨b, 3, none⟩ x3).setCell ⟨b, 4, none⟩ x4) v l :=
  h.step ((Chg.refl (fun k => k = b) wr).put5 (fun _ => rfl) x0 x1 x2 x3 x4) hb
theorem Box.put5 {w : World} {b : Nat} {v0 v1 v2 v3 v4 : Value} (h : Box w b v0 v1 v2 v3 v4) (x0 x1 x2 x3 x4 : Value) :
    Box (((((w.setCell ⟨b, 0, none⟩ x0).setCell ⟨b, 1, none⟩ x1).setCell ⟨b, 2, none⟩ x2).setCell ⟨b, 3, none⟩ x3).setCell ⟨b, 4, none⟩ x4) b x0 x1 x2 x3 x4 := by
  obtain ⟨c0, c1, c2, c3, c4, fr⟩ := h
  have o : ∀ (w : World) (i j : Nat) (x : Value), i ≠ j → (w.setCell ⟨b, i, none⟩ x).cell? ⟨b, j, none⟩ = w.cell? ⟨b, j, none⟩ := fun w i j x hij => World.cell?_setCell_other _ _ _ _ (by simp)
  refine ⟨?_, ?_, ?_, ?_, ?_, fun i => ?_⟩
  · rw [o _ 4 0 _ (by omega), o _ 3 0 _ (by omega), o _ 2 0 _ (by omega), o _ 1 0 _ (by omega)]; exact World.cell?_setCell_same _ _ _ c0
  · rw [o _ 4 1 _ (by omega), o _ 3 1 _ (by omega), o _ 2 1 _ (by omega)]; exact World.cell?_setCell_same _ _ _ ((o _ 0 1 _ (by omega)).trans c1)
  · rw [o _ 4 2 _ (by omega), o _ 3 2 _ (by omega)]; exact World.cell?_setCell_same _ _ _ ((o _ 1 2 _ (by omega)).trans ((o _ 0 2 _ (by omega)).trans c2))
  · rw [o _ 4 3 _ (by omega)]; exact World.cell?_setCell_same _ _ _ ((o _ 2 3 _ (by omega)).trans ((o _ 1 3 _ (by omega)).trans ((o _ 0 3 _ (by omega)).trans c3)))
  · exact World.cell?_setCell_same _ _ _ ((o _ 3 4 _ (by omega)).trans ((o _ 2 4 _ (by omega)).trans ((o _ 1 4 _ (by omega)).trans ((o _ 0 4 _ (by omega)).trans c4))))
  · simp only [World.frozen?_setCell]; exact fr i
theorem Box.far5 {w : World} {b' : Nat} {v0 v1 v2 v3 v4 : Value} (h : Box w b' v0 v1 v2 v3 v4) (b : Nat) (hb : b ≠ b') (x0 x1 x2 x3 x4 : Value) :
    Box (((((w.setCell ⟨b, 0, none⟩ x0).setCell ⟨b, 1, none⟩ x1).setCell ⟨b, 2, none⟩ x2).setCell ⟨b, 3, none⟩ x3).setCell ⟨b, 4, none⟩ x4) b' v0 v1 v2 v3 v4 :=
  h.step ((Chg.refl (fun k => k = b) w).put5 (fun _ => rfl) x0 x1 x2 x3 x4) (fun e => hb e.symm)
theorem RI.put5 {A : Nat → Prop} {wr : World} {v : Value} {l : List Int} {b : Nat} (h : RI (And1 A b) wr v l) (x0 x1 x2 x3 x4 : Value) :
    RI A (((((wr.setCell ⟨b, 0, none⟩ x0).setCell ⟨b, 1, none⟩ x1).setCell ⟨b, 2, none⟩ x2).setCell ⟨b, 3, none⟩ x3).setCell ⟨b, 4, none⟩ x4) v l :=
  (h.step (T := fun k => k = b) ((Chg.refl (fun k => k = b) wr).put5 (fun _ => rfl) x0 x1 x2 x3 x4) (fun _ hk => .inr hk)).weak (fun _ hk _ => .inl hk)
theorem Box.at {w : World} {b n : Nat} {v0 v1 v2 v3 v4 : Value} (h : Box w b v0 v1 v2 v3 v4) (e : b = n) : Box w n v0 v1 v2 v3 v4 := e ▸ h
theorem Box.set2 {w : World} {b : Nat} {v0 v1 v2 v3 v4 : Value} (h : Box w b v0 v1 v2 v3 v4) (x : Value) : Box (w.setCell ⟨b, 2, none⟩ x) b v0 v1 x v3 v4 :=
  ⟨(World.cell?_setCell_other _ _ _ _ (by simp)).trans h.c0, (World.cell?_setCell_other _ _ _ _ (by simp)).trans h.c1, World.cell?_setCell_same _ _ _ h.c2,
   (World.cell?_setCell_other _ _ _ _ (by simp)).trans h.c3, (World.cell?_setCell_other _ _ _ _ (by simp)).trans h.c4, fun o => (World.frozen?_setCell _ _ _ _).trans (h.fr o)⟩
theorem Box.set3 {w : World} {b : Nat} {v0 v1 v2 v3 v4 : Value} (h : Box w b v0 v1 v2 v3 v4) (x : Value) : Box (w.setCell ⟨b, 3, none⟩ x) b v0 v1 v2 x v4 :=
  ⟨(World.cell?_setCell_other _ _ _ _ (by simp)).trans h.c0, (World.cell?_setCell_other _ _ _ _ (by simp)).trans h.c1, (World.cell?_setCell_other _ _ _ _ (by simp)).trans h.c2,
   World.cell?_setCell_same _ _ _ h.c3, (World.cell?_setCell_other _ _ _ _ (by simp)).trans h.c4, fun o => (World.frozen?_setCell _ _ _ _).trans (h.fr o)⟩
theorem Box.set4 {w : World} {b : Nat} {v0 v1 v2 v3 v4 : Value} (h : Box w b v0 v1 v2 v3 v4) (x : Value) : Box (w.setCell ⟨b, 4, none⟩ x) b v0 v1 v2 v3 x :=
  ⟨(World.cell?_setCell_other _ _ _ _ (by simp)).trans h.c0, (World.cell?_setCell_other _ _ _ _ (by simp)).trans h.c1, (World.cell?_setCell_other _ _ _ _ (by simp)).trans h.c2,
   (World.cell?_setCell_other _ _ _ _ (by simp)).trans h.c3, World.cell?_setCell_same _ _ _ h.c4, fun o => (World.frozen?_setCell _ _ _ _).trans (h.fr o)⟩
theorem Box.far {w : World} {b : Nat} {v0 v1 v2 v3 v4 : Value} (h : Box w b v0 v1 v2 v3 v4) (p : Addr) (x : Value) (hp : p.block ≠ b) : Box (w.setCell p x) b v0 v1 v2 v3 v4 :=
  h.step (S := fun k => k = p.block) ((Chg.refl (fun k => k = p.block) w).setCell (p := p) (fun _ => rfl) x) (fun e => hp e.symm)
theorem box3 {w : World} {t : TypeId} {x0 x1 x2 x3 x4 y0 y1 y2 y3 y4 z0 z1 z2 z3 z4 : Value} {R : World → Prop} (h : ∀ W, Chg No w W → Box W w.heap.size x0 x1 x2 x3 x4 → Box W (w.heap.size + 1) y0 y1 y2 y3 y4 → Box W (w.heap.size + 1 + 1) z0 z1 z2 z3 z4 → R W) :
    R (((w.alloc (.cells #[x0, x1, x2, x3, x4] t)).alloc (.cells #[y0, y1, y2, y3, y4] t)).alloc (.cells #[z0, z1, z2, z3, z4] t)) :=
  h _ ((((Chg.refl No w).alloc _).alloc _).alloc _) ((Box.new w x0 x1 x2 x3 x4 t).keep (((Chg.refl No _).alloc _).alloc _))
    (((Box.new (w.alloc (.cells #[x0, x1, x2, x3, x4] t)) y0 y1 y2 y3 y4 t).keep ((Chg.refl No _).alloc _)).at (by simp)) ((Box.new ((w.alloc (.cells #[x0, x1, x2, x3, x4] t)).alloc (.cells #[y0, y1, y2, y3, y4] t)) z0 z1 z2 z3 z4 t).at (by simp))
set_option maxHeartbeats 1000000 in
theorem l4Turn_any (A : Nat → Prop) (pv mv : Value) (c : Ca) (w : World) (hp : RI A w pv c.pages) (hmk : RI A w mv c.marks) (hok : Ok c) (hm : Hid (c.marks.length = c.size.toNat)) :
    Calls Tryz.prog 203 #[.agg #[.int .i64 c.pol, .int .i64 c.size, pv, mv, .int .i64 c.hand]] w
      (Ret fun v' w' => ∃ mv', v' = .agg #[.int .i64 c.pol, .int .i64 c.size, pv, mv', .int .i64 (turned c).2] ∧ OI w.heap.size w' mv' (turned c).1 ∧ Chg No w w') := by
  obtain ⟨pa, pc, rfl, _⟩ := id hp
  obtain ⟨ma, mc, rfl, _⟩ := id hmk
  have hs := hok.size
  have hh := hok.hand
  go_enter Tryz.func203, Tryz.ntmps203
  go_wp2_with fail
  refine (l1Own_any A _ _ _ (RI.keep hmk ((((Chg.refl No w).alloc _).alloc _).alloc _))).mono ?_
  rintro e w1 ⟨v1, rfl, h1, h2⟩
  have b0 := ((Box.new w _ _ _ _ _ _).keep (((Chg.refl No _).alloc _).alloc _)).keep h2
  have b1 := (((Box.new (w.alloc _) _ _ _ _ _ _).keep ((Chg.refl No _).alloc _)).keep h2).at (n := w.heap.size + 1) (by simp)
  have b2 := ((Box.new ((w.alloc _).alloc _) _ _ _ _ _ _).keep h2).at (n := w.heap.size + 2) (by simp)
  have hk1 := ((((Chg.refl No w).alloc _).alloc _).alloc _).keep h2
  obtain ⟨a1, c1, rfl, hv1, hv2, hv3⟩ := h1.view
  obtain ⟨g, rfl, hg1, hg2, _⟩ := hv3 (by have := hm.out; omega)
  obtain ⟨q0, q1, q2, q3, q4, qf⟩ := id b0
  obtain ⟨r0, r1, r2, r3, r4, rf⟩ := id b1
  obtain ⟨s0, s1, s2, s3, s4, sf⟩ := id b2
  have z := b2.lt
  have b2' := b2.set3 (.slice (some ⟨g, 0, none⟩) c.marks.length c1)
  have b0' := b0.far ⟨w.heap.size + 1 + 1, 3, none⟩ (.slice (some ⟨g, 0, none⟩) c.marks.length c1) (by simp; omega)
  have b1' := b1.far ⟨w.heap.size + 1 + 1, 3, none⟩ (.slice (some ⟨g, 0, none⟩) c.marks.length c1) (by simp)
  have hne : ∀ k, own (.slice (some ⟨g, 0, none⟩) c.marks.length c1) k → w.heap.size + 3 ≤ k := fun k hk => by have := (h1.lt k hk).1; simpa using this
  have h1' := h1.step ((Chg.refl (fun k => k = w.heap.size + 1 + 1) w1).setCell (p := ⟨w.heap.size + 1 + 1, 3, none⟩) (fun _ => rfl) (.slice (some ⟨g, 0, none⟩) c.marks.length c1)) (fun k hk e => by have := hne k hk; omega)
  have hk1' := hk1.setCell (p := ⟨w.heap.size + 1 + 1, 3, none⟩) (fun h => by simp at h; omega) (.slice (some ⟨g, 0, none⟩) c.marks.length c1)
  go_wp2
  clear q0 q1 q2 q3 q4 qf r0 r1 r2 r3 r4 rf s0 s1 s2 s3 s4 sf
  go_loopg [] (c.marks.length + 1) (fun f wr => ∃ (m : List Int) (h : Nat), turn c.size.toNat f m h = turned c ∧ m.count 1 < f ∧ (h : Int) < c.size ∧ m.length = c.marks.length ∧ Chg No w wr ∧
    OI (w.heap.size + 3) wr (.slice (some ⟨g, 0, none⟩) c.marks.length c1) m ∧
    Box wr w.heap.size (.int .i64 c.pol) (.int .i64 c.size) (.slice pa c.pages.length pc) (.slice ma c.marks.length mc) (.int .i64 c.hand) ∧
    Box wr (w.heap.size + 1) (.int .i64 0) (.int .i64 0) (.slice none 0 0) (.slice none 0 0) (.int .i64 0) ∧
    Box wr (w.heap.size + 1 + 1) (.int .i64 c.pol) (.int .i64 c.size) (.slice pa c.pages.length pc) (.slice (some ⟨g, 0, none⟩) c.marks.length c1) (.int .i64 h))
  case atStart =>
    refine ⟨c.marks, c.hand.toNat, rfl, by have := List.count_le_length (a := (1 : Int)) (l := c.marks); omega, by omega, rfl, hk1', h1'.weak (by simp), b0', b1', ?_⟩
    rw [Int.toNat_of_nonneg hh.1]
    exact b2'
  case round =>
    obtain ⟨m, h, ht, hcnt, hlt, hlen, hch, ho, B0, B1, B2⟩ := hrel
    have HT := Lib.hid ht
    have HL := Lib.hid hlen
    clear ht hlen
    have hhm : h < m.length := by have := HL.out; have := hm.out; omega
    obtain ⟨hoc, hof, hob, hog, _, _, _⟩ := ho.at
    have hfg := hof h
    obtain ⟨q0, q1, q2, q3, q4, qf⟩ := id B0
    obtain ⟨r0, r1, r2, r3, r4, rf⟩ := id B1
    obtain ⟨s0, s1, s2, s3, s4, sf⟩ := id B2
    have sf4 := sf 4
    by_cases h1m : m.getD h 0 = 1
    · have hcc : wr.cell? ⟨g, h, none⟩ = some (.int .i64 1) := by rw [← h1m]; exact hoc h hhm
      have hpos : 0 < m.count 1 := List.count_pos_iff.2 (by rw [← h1m]; exact getD_mem hhm)
      have HM := Lib.hid h1m
      clear h1m hoc hof
      obtain ⟨f', hf'⟩ : ∃ f', gk = f' + 1 := ⟨gk - 1, by omega⟩
      have HF := Lib.hid hf'
      clear hf'
      have e1 : (((h + 1) % c.size.toNat : Nat) : Int) = ((h : Int) + 1) % c.size := by rw [Int.natCast_emod, Int.toNat_of_nonneg (by omega)]; rfl
      have E1 := Lib.hid e1
      clear e1
      have hbl : g ≠ w.heap.size + 1 + 1 := by omega
      go_wp2
      go_roundg f'
      case measure => have := HF.out; omega
      case rel =>
        obtain ⟨o1, o2⟩ := ho.store h 0
        have hS : ∀ k, k = g → k = g := fun k hk => hk
        have y0 := B0.step o2 (fun hk => by have := hS _ hk; omega)
        have y1 := B1.step o2 (fun hk => by have := hS _ hk; omega)
        have y2 := B2.step o2 (fun hk => by have := hS _ hk; omega)
        refine ⟨m.set h 0, (h + 1) % c.size.toNat, ?_, ?_, ?_, by rw [List.length_set]; exact HL.out, ?_, ?_, ?_, ?_, ?_⟩
        · rw [← HT.out, HF.out]
          conv => rhs; unfold turn
          rw [if_pos HM.out]
        · have e : (m.set h 0).count 1 + 1 = m.count 1 := by
            rw [List.count_set hhm]
            have : m[h] = 1 := by rw [← HM.out, List.getD_eq_getElem?_getD, List.getElem?_eq_getElem hhm]; rfl
            simp [this]; omega
          have := HF.out; omega
        · rw [E1.out]; exact Int.emod_lt_of_pos _ (by omega)
        · exact (hch.step o2 (fun k hk hl => by have := hS _ hk; omega)).setCell (fun h => by simp at h; omega) _
        · exact o1.step ((Chg.refl (fun k => k = w.heap.size + 1 + 1) _).setCell (p := ⟨w.heap.size + 1 + 1, 4, none⟩) (fun _ => rfl) _) (fun k hk e => by have := own_slice.1 hk; omega)
        · exact y0.far _ _ (by simp; omega)
        · exact y1.far _ _ (by simp)
        · rw [E1.out]; exact y2.set4 _
    · have hfin : turn c.size.toNat gk m h = (m, h) := by
        cases gk with
        | zero => rfl
        | succ f => unfold turn; rw [if_neg h1m]
      have hcc := hoc h hhm
      obtain ⟨y, hy⟩ : ∃ y, m.getD h 0 = y := ⟨_, rfl⟩
      rw [hy] at hcc h1m
      have hne1 : (y == 1) = false := by simpa using h1m
      have HFin := Lib.hid hfin
      clear hfin h1m hoc hof hy
      go_wp2
      refine bodyPost_ret (v := .agg #[.int .i64 c.pol, .int .i64 c.size, .slice pa c.pages.length pc, .slice (some ⟨g, 0, none⟩) c.marks.length c1, .int .i64 h]) ?_ rfl ?_
      · simp [results, Tryz.results203, go_sem, r0, r1, r2, r3, r4]
        exact HL.out
      · have ht : turned c = (m, h) := by rw [← HT.out, HFin.out]
        rw [ht]
        exact ⟨_, rfl, ⟨_, rfl, (ho.put5 (fun k hk => by have := own_slice.1 hk; omega) _ _ _ _ _).weak (by omega), hch.put5 (fun h => by omega) _ _ _ _ _⟩⟩
theorem OI.fin {base : Nat} {A : Nat → Prop} {w w1 w2 : World} {v : Value} {l : List Int} (h : OI base w1 v l) {T : Nat → Prop} (hc : Chg T w1 w2) (hT : ∀ k, own v k → ¬ T k) (hA : Bd A w) (hb : w.heap.size ≤ base) : RI A w2 v l :=
  (h.step hc hT).readBd hA hb
set_option maxHeartbeats 1000000 in
theorem l4Hit_17 (A : Nat → Prop) (v : Value) (p k : Int) (ps ms : List Int) (hd : Int) (i : Nat) (w : World) (hv : RC A w v ⟨p, k, ps, ms, hd⟩) (hA : Bd A w) (hpp : p = 1 ∨ p = 7) (hi : i < ps.length) :
    Calls Tryz.prog 167 #[v, .int .i64 i] w (Ret fun v' w' => RC A w' v' (hitC ⟨p, k, ps, ms, hd⟩ i) ∧ Chg No w w') := by
  have e : hitC ⟨p, k, ps, ms, hd⟩ i = ⟨p, k, ps.getD i 0 :: ps.eraseIdx i, ms, hd⟩ := by simp [hitC, hpp]
  rw [e]; clear e
  obtain ⟨pv, mv, rfl, hp, hmk⟩ := hv
  simp only at hp hmk ⊢
  obtain ⟨pa, pc, rfl, _, _, _, _, hpc⟩ := id hp
  obtain ⟨ma, mn, mc, rfl⟩ := hmk.shape
  obtain ⟨b, off, rfl, _, hb, hcell⟩ := hpc (fun e => by simp [e] at hi)
  obtain ⟨y, hy⟩ : ∃ y, ps.getD i 0 = y := ⟨_, rfl⟩
  have hci := hcell i hi
  rw [hy] at hci ⊢
  clear hcell hpc hy
  have hi0 : (0 : Int) ≤ (i : Int) := Int.natCast_nonneg _
  have hi1 : (i : Int) < (ps.length : Int) := by omega
  rcases hpp with rfl | rfl
  all_goals
    go_enter Tryz.func167, Tryz.ntmps167
    go_wp2_with fail
    refine box3 (R := fun W => Code.wp _ _ _ _ W) (fun W hW b0 b1 b2 => ?_)
    have hciW := (hW.cellD b (off + i) hb (fun e => e)).trans hci
    have hl0 := b0.lt
    have hbW : b < W.heap.size := Nat.lt_of_lt_of_le hb hW.size
    have hl2 := b2.lt
    have c02 := b0.c2
    have c22 := b2.c2
    have f22 := b2.fr 2
    go_region_held3 (fun w' => w'.cell? ⟨w.heap.size, 2, none⟩ = some (.slice (some ⟨b, off, none⟩) ps.length pc) ∧ w'.cell? ⟨b, off + i, none⟩ = some (.int .i64 y))
      (first | exact ⟨p02, pci⟩ | exact ⟨q02, qci⟩ | exact ⟨(World.cell?_setCell_far _ _ _ _ (by simp; omega)).trans q02, (World.cell?_setCell_far _ _ _ _ (by simp; omega)).trans qci⟩ | go_keep)
      (first | (go_at_call 188; refine (l4Without_any A _ ps i _ (hp.keep hW.drew) hi).mono ?_; rintro e w1 ⟨v1, rfl, h1, h2⟩; have p02 := (h2.cellD _ _ hl0 (fun e => e)).trans c02; have pci := (h2.cellD _ _ hbW (fun e => e)).trans hciW) | (go_at_call 187; refine (l4Front_any No _ _ _ _ h1.readNo (by have := h1.len; rw [List.length_eraseIdx_of_lt hi] at *; omega)).mono ?_; rintro e w2 ⟨v2, rfl, h3, h4⟩; obtain ⟨a2, n2, cc2, rfl⟩ := h3.shape; have B2 := (b2.keep ((Chg.refl No W).drew.keep h2)).keep h4; have g22 := B2.c2; have gf2 := B2.fr 2; have q02 := (h4.cellD _ _ (Nat.lt_of_lt_of_le hl0 h2.size) (fun e => e)).trans p02; have qci := (h4.cellD _ _ (Nat.lt_of_lt_of_le hbW h2.size) (fun e => e)).trans pci) | fail)
    have k2 := (hW.drew.keep h2).keep h4
    obtain ⟨r0, r1, r2, r3, r4, rf⟩ := ((b1.keep ((Chg.refl No W).drew.keep h2)).keep h4).far ⟨w.heap.size + 1 + 1, 2, none⟩ (.slice a2 n2 cc2) (by simp)
    obtain ⟨q0, q1, q2, q3, q4, qf⟩ := B2.set2 (.slice a2 n2 cc2)
    have k3 := k2.setCell (p := ⟨w.heap.size + 1 + 1, 2, none⟩) (fun h => by simp at h; omega) (.slice a2 n2 cc2)
    go_wp2
    refine bodyPost_ret (v := .agg #[_, .int .i64 k, .slice a2 n2 cc2, .slice ma mn mc, .int .i64 hd]) (by simp [results, Tryz.results167, go_sem, r0, r1, r2, r3, r4]; rfl) rfl ?_
    refine ⟨_, rfl, ⟨_, _, rfl, ?_, ?_⟩, k3.put5 (fun h => by omega) _ _ _ _ _⟩
    · have z1 : W.heap.size ≤ w1.heap.size := h2.size
      refine (h3.step (T := fun k => k = w.heap.size + 1 ∨ k = w.heap.size + 1 + 1) (((Chg.refl _ w2).setCell (p := ⟨w.heap.size + 1 + 1, 2, none⟩) (fun _ => .inr rfl) _).put5 (fun _ => .inl rfl) _ _ _ _ _) (fun q hq e => ?_)).readBd hA (by omega)
      have := (h3.lt q hq).1
      omega
    · exact hmk.keep (k3.put5 (fun h => by omega) _ _ _ _ _)
set_option maxHeartbeats 1000000 in
theorem l4Hit_5 (A : Nat → Prop) (v : Value) (k : Int) (ps ms : List Int) (hd : Int) (i : Nat) (w : World) (hv : RC A w v ⟨5, k, ps, ms, hd⟩) (hA : Bd A w) (hi : i < ms.length) (hsm : 0 ≤ ms.getD i 0 ∧ ms.getD i 0 ≤ 60) :
    Calls Tryz.prog 167 #[v, .int .i64 i] w (Ret fun v' w' => RC A w' v' (hitC ⟨5, k, ps, ms, hd⟩ i) ∧ Chg No w w') := by
  have e : hitC ⟨5, k, ps, ms, hd⟩ i = ⟨5, k, ps, ms.set i (min (ms.getD i 0 + 1) 60), hd⟩ := by simp [hitC]
  rw [e]; clear e
  obtain ⟨pv, mv, rfl, hp, hmk⟩ := hv
  simp only at hp hmk ⊢
  obtain ⟨pa, pn, pc, rfl⟩ := hp.shape
  obtain ⟨ma, mc, rfl, _, _, _, _, hmc⟩ := id hmk
  obtain ⟨b, off, rfl, _, hb, hcell⟩ := hmc (fun e => by simp [e] at hi)
  obtain ⟨y, hy⟩ : ∃ y, ms.getD i 0 = y := ⟨_, rfl⟩
  have hci := hcell i hi
  rw [hy] at hci hsm ⊢
  clear hcell hmc hy
  have hi0 : (0 : Int) ≤ (i : Int) := Int.natCast_nonneg _
  have hi1 : (i : Int) < (ms.length : Int) := by omega
  have hwr : IntKind.i64.wrap (y + 1) = y + 1 := IntWalk.i64_in _ (by omega)
  go_enter Tryz.func167, Tryz.ntmps167
  go_wp2_with fail
  refine box3 (R := fun W => Code.wp _ _ _ _ W) (fun W hW b0 b1 b2 => ?_)
  have hciW := (hW.cellD b (off + i) hb (fun e => e)).trans hci
  have hl0 := b0.lt
  have hbW : b < W.heap.size := Nat.lt_of_lt_of_le hb hW.size
  have hl2 := b2.lt
  have c03 := b0.c3
  go_region_held3 (fun w' => w'.cell? ⟨w.heap.size, 3, none⟩ = some (.slice (some ⟨b, off, none⟩) ms.length mc) ∧ w'.cell? ⟨b, off + i, none⟩ = some (.int .i64 y))
    (first | exact ⟨q02, qci⟩ | exact ⟨(World.cell?_setCell_far _ _ _ _ (by simp; omega)).trans q02, (World.cell?_setCell_far _ _ _ _ (by simp; omega)).trans qci⟩ | go_keep)
    (first | (go_at_call 137; refine (l1Least_any _ _ _).mono ?_; rintro e w1 ⟨rfl, rfl⟩) | (go_at_call 189; refine (l4With_any A _ ms i _ _ (hmk.keep hW.drew) hi).mono ?_; rintro e w2 ⟨v2, rfl, h3, h4⟩; obtain ⟨a2, n2, cc2, rfl⟩ := h3.shape; have B2 := b2.keep ((Chg.refl No W).drew.keep h4); have g22 := B2.c3; have gf2 := B2.fr 3; have q02 := (h4.cellD _ _ hl0 (fun e => e)).trans c03; have qci := (h4.cellD _ _ hbW (fun e => e)).trans hciW) | fail)
  have k2 := hW.drew.keep h4
  obtain ⟨r0, r1, r2, r3, r4, rf⟩ := (b1.keep ((Chg.refl No W).drew.keep h4)).far ⟨w.heap.size + 1 + 1, 3, none⟩ (.slice a2 n2 cc2) (by simp)
  obtain ⟨q0, q1, q2, q3, q4, qf⟩ := B2.set3 (.slice a2 n2 cc2)
  have k3 := k2.setCell (p := ⟨w.heap.size + 1 + 1, 3, none⟩) (fun h => by simp at h; omega) (.slice a2 n2 cc2)
  go_wp2
  refine bodyPost_ret (v := .agg #[_, .int .i64 k, .slice pa pn pc, .slice a2 n2 cc2, .int .i64 hd]) (by simp [results, Tryz.results167, go_sem, r0, r1, r2, r3, r4]; rfl) rfl ?_
  refine ⟨_, rfl, ⟨_, _, rfl, ?_, ?_⟩, k3.put5 (fun h => by omega) _ _ _ _ _⟩
  · exact hp.keep (k3.put5 (fun h => by omega) _ _ _ _ _)
  · have z1 : W.heap.size ≤ w2.heap.size := h4.size
    refine (h3.step (T := fun k => k = w.heap.size + 1 ∨ k = w.heap.size + 1 + 1) (((Chg.refl _ w2).setCell (p := ⟨w.heap.size + 1 + 1, 3, none⟩) (fun _ => .inr rfl) _).put5 (fun _ => .inl rfl) _ _ _ _ _) (fun q hq e => ?_)).readBd hA (Nat.le_trans (Nat.le_add_right _ 2) (Nat.le_of_lt hl2))
    have : W.heap.size ≤ q := (h3.lt q hq).1
    omega
set_option maxHeartbeats 1000000 in
theorem l4Hit_6 (A : Nat → Prop) (v : Value) (k : Int) (ps ms : List Int) (hd : Int) (i : Nat) (w : World) (hv : RC A w v ⟨6, k, ps, ms, hd⟩) (hA : Bd A w) (hi : i < ms.length) :
    Calls Tryz.prog 167 #[v, .int .i64 i] w (Ret fun v' w' => RC A w' v' (hitC ⟨6, k, ps, ms, hd⟩ i) ∧ Chg No w w') := by
  have e : hitC ⟨6, k, ps, ms, hd⟩ i = ⟨6, k, ps, ms.set i 1, hd⟩ := by simp [hitC]
  rw [e]; clear e
  obtain ⟨pv, mv, rfl, hp, hmk⟩ := hv
  simp only at hp hmk ⊢
  obtain ⟨pa, pn, pc, rfl⟩ := hp.shape
  obtain ⟨ma, mn, mc, rfl⟩ := hmk.shape
  go_enter Tryz.func167, Tryz.ntmps167
  go_wp2_with fail
  refine box3 (R := fun W => Calls _ _ _ W _) (fun W hW b0 b1 b2 => ?_)
  have hl2 := b2.lt
  refine (l4With_any A _ ms i _ _ (hmk.keep hW) hi).mono ?_
  rintro e w2 ⟨v2, rfl, h3, h4⟩
  obtain ⟨a2, n2, cc2, rfl⟩ := h3.shape
  have k2 := hW.keep h4
  have B2 := b2.keep h4
  have g22 := B2.c3
  have gf2 := B2.fr 3
  obtain ⟨r0, r1, r2, r3, r4, rf⟩ := (b1.keep h4).far ⟨w.heap.size + 1 + 1, 3, none⟩ (.slice a2 n2 cc2) (by simp)
  obtain ⟨q0, q1, q2, q3, q4, qf⟩ := B2.set3 (.slice a2 n2 cc2)
  have k3 := k2.setCell (p := ⟨w.heap.size + 1 + 1, 3, none⟩) (fun h => by simp at h; omega) (.slice a2 n2 cc2)
  go_wp2
  refine bodyPost_ret (v := .agg #[_, .int .i64 k, .slice pa pn pc, .slice a2 n2 cc2, .int .i64 hd]) (by simp [results, Tryz.results167, go_sem, r0, r1, r2, r3, r4]; rfl) rfl ?_
  refine ⟨_, rfl, ⟨_, _, rfl, ?_, ?_⟩, k3.put5 (fun h => by omega) _ _ _ _ _⟩
  · exact hp.keep (k3.put5 (fun h => by omega) _ _ _ _ _)
  · refine (h3.step (T := fun k => k = w.heap.size + 1 ∨ k = w.heap.size + 1 + 1) (((Chg.refl _ w2).setCell (p := ⟨w.heap.size + 1 + 1, 3, none⟩) (fun _ => .inr rfl) _).put5 (fun _ => .inl rfl) _ _ _ _ _) (fun q hq e => ?_)).readBd hA (Nat.le_trans (Nat.le_add_right _ 2) (Nat.le_of_lt hl2))
    have : W.heap.size ≤ q := (h3.lt q hq).1
    omega
set_option maxHeartbeats 1000000 in
theorem l4Hit_234 (A : Nat → Prop) (v : Value) (p k : Int) (ps ms : List Int) (hd : Int) (i : Nat) (w : World) (hv : RC A w v ⟨p, k, ps, ms, hd⟩) (hpp : p = 2 ∨ p = 3 ∨ p = 4) :
    Calls Tryz.prog 167 #[v, .int .i64 i] w (Ret fun v' w' => RC A w' v' (hitC ⟨p, k, ps, ms, hd⟩ i) ∧ Chg No w w') := by
  have e : hitC ⟨p, k, ps, ms, hd⟩ i = ⟨p, k, ps, ms, hd⟩ := by
    unfold hitC
    rw [if_neg (by simp only; omega), if_neg (by simp only; omega), if_neg (by simp only; omega)]
  rw [e]; clear e
  obtain ⟨pv, mv, rfl, hp, hmk⟩ := hv
  simp only at hp hmk ⊢
  obtain ⟨pa, pn, pc, rfl⟩ := hp.shape
  obtain ⟨ma, mn, mc, rfl⟩ := hmk.shape
  rcases hpp with rfl | rfl | rfl
  all_goals
    go_enter Tryz.func167, Tryz.ntmps167
    go_wp2_with fail
    refine bodyPost_ret (v := .agg #[_, .int .i64 k, .slice pa pn pc, .slice ma mn mc, .int .i64 hd]) (by simp [results, Tryz.results167, go_sem]; rfl) rfl ?_
    have hch := fun o1 o2 o3 => (((Chg.refl No w).alloc o1).alloc o2).alloc o3
    exact ⟨_, rfl, ⟨_, _, rfl, hp.keep (hch _ _ _), hmk.keep (hch _ _ _)⟩, hch _ _ _⟩
theorem l4Hit_any (A : Nat → Prop) (v : Value) (c : Ca) (i : Nat) (w : World) (hv : RC A w v c) (hA : Bd A w) (hok : Ok c) (hi : i < c.pages.length) :
    Calls Tryz.prog 167 #[v, .int .i64 i] w (Ret fun v' w' => RC A w' v' (hitC c i) ∧ Chg No w w') := by
  have hpol := hok.pol
  have hm := hok.marks
  have hsm := hok.small
  obtain ⟨p, k, ps, ms, hd⟩ := c
  simp only at *
  have hcase : (p = 1 ∨ p = 7) ∨ p = 5 ∨ p = 6 ∨ (p = 2 ∨ p = 3 ∨ p = 4) := by omega
  rcases hcase with h | rfl | rfl | h
  · exact l4Hit_17 A v p k ps ms hd i w hv hA h hi
  · have := hm (.inl rfl)
    exact l4Hit_5 A v k ps ms hd i w hv hA (by omega) (hsm _ (getD_mem (by omega)))
  · have := hm (.inr rfl)
    exact l4Hit_6 A v k ps ms hd i w hv hA (by omega)
  · exact l4Hit_234 A v p k ps ms hd i w hv h
end Go.Proofs.YtdgcohoneijleaaGreatDoor
