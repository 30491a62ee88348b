import Derived.Test.YtndhijckbponkaaGreatDoorTd
import Derived.Test.YtndhijckbponkaaGreatDoorCd
/- what the laws' helpers do with a Player -/
namespace Go.Proofs.YtndhijckbponkaaGreatDoor
open Go.RowKit

theorem Box7.set0 {w : World} {b : Nat} {v0 v1 v2 v3 v4 v5 v6 : Value} (h : Box7 w b v0 v1 v2 v3 v4 v5 v6) (x : Value) : Box7 (w.setCell ⟨b, 0, none⟩ x) b x v1 v2 v3 v4 v5 v6 :=
  ⟨World.cell?_setCell_same _ _ _ h.c0, (World.cell?_setCell_other _ _ _ _ (by simp)).trans h.c1, (World.cell?_setCell_other _ _ _ _ (by simp)).trans h.c2, (World.cell?_setCell_other _ _ _ _ (by simp)).trans h.c3, (World.cell?_setCell_other _ _ _ _ (by simp)).trans h.c4, (World.cell?_setCell_other _ _ _ _ (by simp)).trans h.c5, (World.cell?_setCell_other _ _ _ _ (by simp)).trans h.c6, fun o => (World.frozen?_setCell _ _ _ _).trans (h.fr o)⟩
theorem Box7.set1 {w : World} {b : Nat} {v0 v1 v2 v3 v4 v5 v6 : Value} (h : Box7 w b v0 v1 v2 v3 v4 v5 v6) (x : Value) : Box7 (w.setCell ⟨b, 1, none⟩ x) b v0 x v2 v3 v4 v5 v6 :=
  ⟨(World.cell?_setCell_other _ _ _ _ (by simp)).trans h.c0, World.cell?_setCell_same _ _ _ h.c1, (World.cell?_setCell_other _ _ _ _ (by simp)).trans h.c2, (World.cell?_setCell_other _ _ _ _ (by simp)).trans h.c3, (World.cell?_setCell_other _ _ _ _ (by simp)).trans h.c4, (World.cell?_setCell_other _ _ _ _ (by simp)).trans h.c5, (World.cell?_setCell_other _ _ _ _ (by simp)).trans h.c6, fun o => (World.frozen?_setCell _ _ _ _).trans (h.fr o)⟩
theorem Box7.set2 {w : World} {b : Nat} {v0 v1 v2 v3 v4 v5 v6 : Value} (h : Box7 w b v0 v1 v2 v3 v4 v5 v6) (x : Value) : Box7 (w.setCell ⟨b, 2, none⟩ x) b v0 v1 x v3 v4 v5 v6 :=
  ⟨(World.cell?_setCell_other _ _ _ _ (by simp)).trans h.c0, (World.cell?_setCell_other _ _ _ _ (by simp)).trans h.c1, World.cell?_setCell_same _ _ _ h.c2, (World.cell?_setCell_other _ _ _ _ (by simp)).trans h.c3, (World.cell?_setCell_other _ _ _ _ (by simp)).trans h.c4, (World.cell?_setCell_other _ _ _ _ (by simp)).trans h.c5, (World.cell?_setCell_other _ _ _ _ (by simp)).trans h.c6, fun o => (World.frozen?_setCell _ _ _ _).trans (h.fr o)⟩
theorem Box7.set3 {w : World} {b : Nat} {v0 v1 v2 v3 v4 v5 v6 : Value} (h : Box7 w b v0 v1 v2 v3 v4 v5 v6) (x : Value) : Box7 (w.setCell ⟨b, 3, none⟩ x) b v0 v1 v2 x v4 v5 v6 :=
  ⟨(World.cell?_setCell_other _ _ _ _ (by simp)).trans h.c0, (World.cell?_setCell_other _ _ _ _ (by simp)).trans h.c1, (World.cell?_setCell_other _ _ _ _ (by simp)).trans h.c2, World.cell?_setCell_same _ _ _ h.c3, (World.cell?_setCell_other _ _ _ _ (by simp)).trans h.c4, (World.cell?_setCell_other _ _ _ _ (by simp)).trans h.c5, (World.cell?_setCell_other _ _ _ _ (by simp)).trans h.c6, fun o => (World.frozen?_setCell _ _ _ _).trans (h.fr o)⟩
theorem Box7.set4 {w : World} {b : Nat} {v0 v1 v2 v3 v4 v5 v6 : Value} (h : Box7 w b v0 v1 v2 v3 v4 v5 v6) (x : Value) : Box7 (w.setCell ⟨b, 4, none⟩ x) b v0 v1 v2 v3 x v5 v6 :=
  ⟨(World.cell?_setCell_other _ _ _ _ (by simp)).trans h.c0, (World.cell?_setCell_other _ _ _ _ (by simp)).trans h.c1, (World.cell?_setCell_other _ _ _ _ (by simp)).trans h.c2, (World.cell?_setCell_other _ _ _ _ (by simp)).trans h.c3, World.cell?_setCell_same _ _ _ h.c4, (World.cell?_setCell_other _ _ _ _ (by simp)).trans h.c5, (World.cell?_setCell_other _ _ _ _ (by simp)).trans h.c6, fun o => (World.frozen?_setCell _ _ _ _).trans (h.fr o)⟩
theorem Box7.set5 {w : World} {b : Nat} {v0 v1 v2 v3 v4 v5 v6 : Value} (h : Box7 w b v0 v1 v2 v3 v4 v5 v6) (x : Value) : Box7 (w.setCell ⟨b, 5, none⟩ x) b v0 v1 v2 v3 v4 x v6 :=
  ⟨(World.cell?_setCell_other _ _ _ _ (by simp)).trans h.c0, (World.cell?_setCell_other _ _ _ _ (by simp)).trans h.c1, (World.cell?_setCell_other _ _ _ _ (by simp)).trans h.c2, (World.cell?_setCell_other _ _ _ _ (by simp)).trans h.c3, (World.cell?_setCell_other _ _ _ _ (by simp)).trans h.c4, World.cell?_setCell_same _ _ _ h.c5, (World.cell?_setCell_other _ _ _ _ (by simp)).trans h.c6, fun o => (World.frozen?_setCell _ _ _ _).trans (h.fr o)⟩
theorem Box7.set6 {w : World} {b : Nat} {v0 v1 v2 v3 v4 v5 v6 : Value} (h : Box7 w b v0 v1 v2 v3 v4 v5 v6) (x : Value) : Box7 (w.setCell ⟨b, 6, none⟩ x) b v0 v1 v2 v3 v4 v5 x :=
  ⟨(World.cell?_setCell_other _ _ _ _ (by simp)).trans h.c0, (World.cell?_setCell_other _ _ _ _ (by simp)).trans h.c1, (World.cell?_setCell_other _ _ _ _ (by simp)).trans h.c2, (World.cell?_setCell_other _ _ _ _ (by simp)).trans h.c3, (World.cell?_setCell_other _ _ _ _ (by simp)).trans h.c4, (World.cell?_setCell_other _ _ _ _ (by simp)).trans h.c5, World.cell?_setCell_same _ _ _ h.c6, fun o => (World.frozen?_setCell _ _ _ _).trans (h.fr o)⟩
theorem boxes73 {w : World} {t t' t'' : TypeId} {x0 x1 x2 x3 x4 x5 x6 y0 y1 y2 y3 y4 y5 y6 z0 z1 z2 z3 z4 z5 z6 : Value} {R : World → Prop} (h : ∀ W, Chg No w W → Box7 W w.heap.size x0 x1 x2 x3 x4 x5 x6 → Box7 W (w.heap.size + 1) y0 y1 y2 y3 y4 y5 y6 → Box7 W (w.heap.size + 1 + 1) z0 z1 z2 z3 z4 z5 z6 → R W) :
    R (((w.alloc (.cells #[x0, x1, x2, x3, x4, x5, x6] t)).alloc (.cells #[y0, y1, y2, y3, y4, y5, y6] t')).alloc (.cells #[z0, z1, z2, z3, z4, z5, z6] t'')) :=
  h _ ((((Chg.refl No w).alloc _).alloc _).alloc _) ((Box7.new w _ _ _ _ _ _ _ t).keep (((Chg.refl No _).alloc _).alloc _))
    (((Box7.new (w.alloc (.cells #[x0, x1, x2, x3, x4, x5, x6] t)) _ _ _ _ _ _ _ t').keep ((Chg.refl No _).alloc _)).at (by simp)) ((Box7.new ((w.alloc (.cells #[x0, x1, x2, x3, x4, x5, x6] t)).alloc (.cells #[y0, y1, y2, y3, y4, y5, y6] t')) _ _ _ _ _ _ _ t'').at (by simp))
theorem boxes72 {w : World} {t t' : TypeId} {x0 x1 x2 x3 x4 x5 x6 y0 y1 y2 y3 y4 y5 y6 : Value} {R : World → Prop} (h : ∀ W, Chg No w W → Box7 W w.heap.size x0 x1 x2 x3 x4 x5 x6 → Box7 W (w.heap.size + 1) y0 y1 y2 y3 y4 y5 y6 → R W) :
    R ((w.alloc (.cells #[x0, x1, x2, x3, x4, x5, x6] t)).alloc (.cells #[y0, y1, y2, y3, y4, y5, y6] t')) :=
  h _ (((Chg.refl No w).alloc _).alloc _) ((Box7.new w _ _ _ _ _ _ _ t).keep ((Chg.refl No _).alloc _))
    ((Box7.new (w.alloc (.cells #[x0, x1, x2, x3, x4, x5, x6] t)) _ _ _ _ _ _ _ t').at (by simp))

set_option maxRecDepth 100000 in
set_option maxHeartbeats 1000000 in
theorem szPlayer_any (f p k hd fa : Int) (a a' : Option Addr) (n n' c c' : Nat) (left : Int) (w : World) (hn : n ≤ 9223372036854775807) (hn' : n' ≤ 9223372036854775807) (h0 : 0 ≤ left) (h1 : left ≤ 1048576) :
    Calls Tryz.prog 69 #[.agg #[.int .i64 f, .int .i64 p, .int .i64 k, .slice a n c, .slice a' n' c', .int .i64 hd, .int .i64 fa], .int .i64 left] w (Ret fun r w' => r = .int .i64 (szC n n' left) ∧ Chg No w w') := by
  have k0 := (Chg.refl No w).alloc (.cells #[.int .i64 f, .int .i64 p, .int .i64 k, .slice a n c, .slice a' n' c', .int .i64 hd, .int .i64 fa] 95)
  by_cases hl : (n : Int) + n' ≤ left
  · have E : Hid (szC n n' left = left - n - n') := Lib.hid (if_pos hl)
    have hneg : ¬ (left - (n : Int) - (n' : Int) < 0) := by omega
    clear hl
    go_enter Tryz.func69, Tryz.ntmps69
    go_wp2_with fail
    refine (szCache_any p k hd a a' n n' c c' left _ hn hn' h0 h1).mono ?_
    rintro e w1 ⟨_, rfl, rfl, k1⟩
    rw [E.out]
    go_wp2_with fail
    go_ret
    exact ⟨_, rfl, by rw [E.out]; rfl, k0.keep k1⟩
  · have E : Hid (szC n n' left = -1) := Lib.hid (if_neg hl)
    clear hl
    go_enter Tryz.func69, Tryz.ntmps69
    go_wp2_with fail
    refine (szCache_any p k hd a a' n n' c c' left _ hn hn' h0 h1).mono ?_
    rintro e w1 ⟨_, rfl, rfl, k1⟩
    rw [E.out]
    go_wp2_with fail
    go_ret
    exact ⟨_, rfl, by rw [E.out]; rfl, k0.keep k1⟩

set_option maxRecDepth 100000 in
set_option maxHeartbeats 1000000 in
theorem eqPlayer_same (A B : Nat → Prop) (v v' : Value) (x : Pl) (w : World) (h : RP A w v x) (h' : RP B w v' x) :
    Calls Tryz.prog 79 #[v, v'] w (Ret fun r w' => r = .bool true ∧ Chg No w w') := by
  have h0 := h
  have h0' := h'
  obtain ⟨pv, mv, rfl, hp, hmk⟩ := h
  obtain ⟨pv', mv', rfl, hp', hmk'⟩ := h'
  obtain ⟨pa, pn, pc, rfl⟩ := hp.shape
  obtain ⟨ma, mn, mc, rfl⟩ := hmk.shape
  obtain ⟨pa', pn', pc', rfl⟩ := hp'.shape
  obtain ⟨ma', mn', mc', rfl⟩ := hmk'.shape
  go_enter Tryz.func79, Tryz.ntmps79
  go_wp2_with fail
  refine boxes72 (R := fun W => Calls _ _ _ W _) (fun W hW b0 b1 => ?_)
  refine (eqCache_same A B _ _ x.ca W (h0.keep hW).cache (h0'.keep hW).cache).mono ?_
  rintro e w1 ⟨_, rfl, rfl, k1⟩
  obtain ⟨c0, c1, c2, c3, c4, c5, c6, _⟩ := b0.keep k1
  obtain ⟨d0, d1, d2, d3, d4, d5, d6, _⟩ := b1.keep k1
  go_wp2_with fail
  go_ret
  exact ⟨_, rfl, rfl, hW.keep k1⟩

set_option maxRecDepth 100000 in
set_option maxHeartbeats 1000000 in
theorem toPlayer_any (A : Nat → Prop) (v : Value) (x : Pl) (w : World) (h : RP A w v x) :
    Calls Tryz.prog 75 #[v] w (Ret fun r w' => RPO w.heap.size w' r x ∧ Chg No w w') := by
  have h0 := h
  obtain ⟨pv, mv, rfl, hp, hmk⟩ := h
  obtain ⟨pa, pn, pc, rfl⟩ := hp.shape
  obtain ⟨ma, mn, mc, rfl⟩ := hmk.shape
  go_enter Tryz.func75, Tryz.ntmps75
  go_wp2_with fail
  refine boxes73 (R := fun W => Calls _ _ _ W _) (fun W hW b0 b1 b2 => ?_)
  have hsz := hW.size
  have hl2 := b2.lt
  refine (toCache_any A _ x.ca W (h0.keep hW).cache).mono ?_
  rintro e w1 ⟨v1, rfl, o1, k1⟩
  obtain ⟨xp, xm, rfl, hxp, hxm, hxa⟩ := o1
  obtain ⟨ya, yn, yc, rfl⟩ := hxp.shape
  obtain ⟨za, zn, zc, rfl⟩ := hxm.shape
  have b0 := b0.keep k1
  have b1 := b1.keep k1
  have b2 := b2.keep k1
  have hW1 := hW.keep k1
  have hs1 := hW1.size
  obtain ⟨_, g1, g2, g3, g4, g5, _, gf⟩ := id b2
  have gf1 := gf 1
  have gf2 := gf 2
  have gf3 := gf 3
  have gf4 := gf 4
  have gf5 := gf 5
  clear gf
  have ch : Chg (fun q => q = w.heap.size + 1 + 1) w1 (((((w1.setCell ⟨w.heap.size + 1 + 1, 1, none⟩ (.int .i64 x.ca.pol)).setCell ⟨w.heap.size + 1 + 1, 2, none⟩ (.int .i64 x.ca.size)).setCell ⟨w.heap.size + 1 + 1, 3, none⟩ (.slice ya yn yc)).setCell ⟨w.heap.size + 1 + 1, 4, none⟩ (.slice za zn zc)).setCell ⟨w.heap.size + 1 + 1, 5, none⟩ (.int .i64 x.ca.hand)) :=
    ((((((Chg.refl (fun q => q = w.heap.size + 1 + 1) w1).setCell (p := ⟨w.heap.size + 1 + 1, 1, none⟩) (fun _ => rfl) _).setCell (p := ⟨w.heap.size + 1 + 1, 2, none⟩) (fun _ => rfl) _).setCell (p := ⟨w.heap.size + 1 + 1, 3, none⟩) (fun _ => rfl) _).setCell (p := ⟨w.heap.size + 1 + 1, 4, none⟩) (fun _ => rfl) _).setCell (p := ⟨w.heap.size + 1 + 1, 5, none⟩) (fun _ => rfl) _)
  have B2 := ((((b2.set1 (.int .i64 x.ca.pol)).set2 (.int .i64 x.ca.size)).set3 (.slice ya yn yc)).set4 (.slice za zn zc)).set5 (.int .i64 x.ca.hand)
  have B0 := b0.step ch (by show ¬ _ = _; omega)
  have B1 := b1.step ch (by show ¬ _ = _; omega)
  have q6 := B0.c6
  have q2 := B2.c6
  have q2f := B2.fr 6
  have C2 := B2.set6 (.int .i64 x.fa)
  have C1 := B1.far ⟨w.heap.size + 1 + 1, 6, none⟩ (.int .i64 x.fa) (by simp <;> omega)
  have ch2 := ch.setCell (p := ⟨w.heap.size + 1 + 1, 6, none⟩) (fun _ => rfl) (.int .i64 x.fa)
  obtain ⟨r0, r1, r2, r3, r4, r5, r6, _⟩ := id C2
  obtain ⟨s0, s1, s2, s3, s4, s5, s6, sf⟩ := id C1
  have sf0 := sf 0
  have sf1 := sf 1
  have sf2 := sf 2
  have sf3 := sf 3
  have sf4 := sf 4
  have sf5 := sf 5
  have sf6 := sf 6
  clear sf
  have hxp2 := (hxp.step ch2 (fun q hq e => by have := (hxp.lt q hq).1; omega)).put7 (b := w.heap.size + 1) (fun q hq e => by have := (hxp.lt q hq).1; omega) (.int .i64 x.frm) (.int .i64 x.ca.pol) (.int .i64 x.ca.size) (.slice ya yn yc) (.slice za zn zc) (.int .i64 x.ca.hand) (.int .i64 x.fa)
  have hxm2 := (hxm.step ch2 (fun q hq e => by have := (hxm.lt q hq).1; omega)).put7 (b := w.heap.size + 1) (fun q hq e => by have := (hxm.lt q hq).1; omega) (.int .i64 x.frm) (.int .i64 x.ca.pol) (.int .i64 x.ca.size) (.slice ya yn yc) (.slice za zn zc) (.int .i64 x.ca.hand) (.int .i64 x.fa)
  have hk := (hW1.step ch2 (fun q hq hl => by omega)).put7 (b := w.heap.size + 1) (fun h => by omega) (.int .i64 x.frm) (.int .i64 x.ca.pol) (.int .i64 x.ca.size) (.slice ya yn yc) (.slice za zn zc) (.int .i64 x.ca.hand) (.int .i64 x.fa)
  obtain ⟨z0, z1, z2, z3, z4, z5, z6, _⟩ := C1.put7 (.int .i64 x.frm) (.int .i64 x.ca.pol) (.int .i64 x.ca.size) (.slice ya yn yc) (.slice za zn zc) (.int .i64 x.ca.hand) (.int .i64 x.fa)
  clear ch ch2 B0 B1 B2 C1 C2 b0 b1 b2
  go_wp2_with fail
  refine bodyPost_ret (v := .agg #[.int .i64 x.frm, .int .i64 x.ca.pol, .int .i64 x.ca.size, .slice ya yn yc, .slice za zn zc, .int .i64 x.ca.hand, .int .i64 x.fa]) (by simp [results, Tryz.results75, go_sem, z0, z1, z2, z3, z4, z5, z6]) rfl ?_
  exact ⟨_, rfl, ⟨_, _, rfl, hxp2.weak (by omega), hxm2.weak (by omega), hxa⟩, hk⟩
end Go.Proofs.YtndhijckbponkaaGreatDoor
