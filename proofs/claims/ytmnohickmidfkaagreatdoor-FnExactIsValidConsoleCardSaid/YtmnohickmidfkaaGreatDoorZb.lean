import Derived.Test.YtmnohickmidfkaaGreatDoorZa
/- consoles copied by the law -/
namespace Go.Proofs.YtmnohickmidfkaaGreatDoor
open Go.RowKit

set_option maxRecDepth 100000 in
set_option maxHeartbeats 2000000 in
theorem toConsole_any (v : Value) (t : To) (d p : List UInt8) (n : Int) (w : World) (h : RCon w v t d p n) :
    Calls Tryz.prog 6 #[v] w fun e w' => ∃ v', e = .returned v' ∧ RCon w' v' t d p n ∧ Chg No w w' := by
  obtain ⟨pv, rv, rfl, hps, hrq⟩ := h
  obtain ⟨pa, pn, pc, rfl⟩ := hps.shape
  obtain ⟨ra, rn, rc, rfl⟩ := hrq.shape
  have hT : RT No w (.agg #[.int .i64 t.items, .slice pa pn pc, .slice ra rn rc]) t := ⟨_, _, rfl, hps, hrq⟩
  obtain ⟨A0, hA0⟩ : ∃ A0, A0 = w.alloc (.cells #[.int .i64 t.items, .slice pa pn pc, .slice ra rn rc, .string ⟨d.toArray⟩, .string ⟨p.toArray⟩, .int .i64 n] 29) := ⟨_, rfl⟩
  have hz0 : A0.heap.size = w.heap.size + 1 := by rw [hA0, World.size_alloc]
  obtain ⟨A1, hA1⟩ : ∃ A1, A1 = A0.alloc (.cells #[.int .i64 0, .slice none 0 0, .slice none 0 0, .string ByteArray.empty, .string ByteArray.empty, .int .i64 0] 37) := ⟨_, rfl⟩
  have hz1 : A1.heap.size = w.heap.size + 1 + 1 := by rw [hA1, World.size_alloc, hz0]
  obtain ⟨A2, hA2⟩ : ∃ A2, A2 = A1.alloc (.cells #[.int .i64 0, .slice none 0 0, .slice none 0 0, .string ByteArray.empty, .string ByteArray.empty, .int .i64 0] 37) := ⟨_, rfl⟩
  have hz2 : A2.heap.size = w.heap.size + 1 + 1 + 1 := by rw [hA2, World.size_alloc, hz1]
  have k0 : Chg No w A2 := by rw [hA2, hA1, hA0]; exact (((Chg.refl No w).alloc _).alloc _).alloc _
  have bx0 : Box6 A2 w.heap.size (.int .i64 t.items) (.slice pa pn pc) (.slice ra rn rc) (.string ⟨d.toArray⟩) (.string ⟨p.toArray⟩) (.int .i64 n) := by
    rw [hA2, hA1, hA0]; exact (Box6.new w _ _ _ _ _ _ _).keep (((Chg.refl No _).alloc _).alloc _)
  have bx1 : Box6 A2 (w.heap.size + 1) (.int .i64 0) (.slice none 0 0) (.slice none 0 0) (.string ByteArray.empty) (.string ByteArray.empty) (.int .i64 0) := by
    rw [hA2, hA1, ← hz0]; exact (Box6.new A0 _ _ _ _ _ _ _).keep ((Chg.refl No _).alloc _)
  have bx2 : Box6 A2 (w.heap.size + 1 + 1) (.int .i64 0) (.slice none 0 0) (.slice none 0 0) (.string ByteArray.empty) (.string ByteArray.empty) (.int .i64 0) := by
    rw [hA2, ← hz1]; exact Box6.new A1 _ _ _ _ _ _ _
  have HBOX : Hid (∀ W, Chg No A2 W → Box6 W w.heap.size (.int .i64 t.items) (.slice pa pn pc) (.slice ra rn rc) (.string ⟨d.toArray⟩) (.string ⟨p.toArray⟩) (.int .i64 n) ∧ Box6 W (w.heap.size + 1) (.int .i64 0) (.slice none 0 0) (.slice none 0 0) (.string ByteArray.empty) (.string ByteArray.empty) (.int .i64 0) ∧ Box6 W (w.heap.size + 1 + 1) (.int .i64 0) (.slice none 0 0) (.slice none 0 0) (.string ByteArray.empty) (.string ByteArray.empty) (.int .i64 0)) := Lib.hid (fun W hW => ⟨bx0.keep hW, bx1.keep hW, bx2.keep hW⟩)
  have HA2 : Hid (A2 = ((w.alloc (.cells #[.int .i64 t.items, .slice pa pn pc, .slice ra rn rc, .string ⟨d.toArray⟩, .string ⟨p.toArray⟩, .int .i64 n] 29)).alloc (.cells #[.int .i64 0, .slice none 0 0, .slice none 0 0, .string ByteArray.empty, .string ByteArray.empty, .int .i64 0] 37)).alloc (.cells #[.int .i64 0, .slice none 0 0, .slice none 0 0, .string ByteArray.empty, .string ByteArray.empty, .int .i64 0] 37)) := Lib.hid (by rw [hA2, hA1, hA0])
  have q1 := Lib.hid (toTournament_fresh _ t A2 (hT.keep k0))
  have q2 := Lib.hid (fun W => toLog_any d p n W)
  have HZ := Lib.hid hz2
  unfold lv at q2
  rw [HA2.out] at HBOX k0 bx0 q1 HZ
  obtain ⟨c0, c1, c2, c3, c4, c5, fr⟩ := bx0
  clear HA2 bx1 bx2 hA2 hA1 hA0 hz2 hz1 hz0 hT hps hrq
  go_enter Tryz.func6, Tryz.ntmps6
  go_wp2_with (first
    | (go_at_call 13; refine (q1.out).mono ?_; rintro e w1 ⟨v1, rfl, r1, hk1⟩; obtain ⟨xp, xr, rfl, hxp, hxr⟩ := r1; obtain ⟨xa, xn, xc, rfl⟩ := hxp.shape; obtain ⟨ya, yn, yc, rfl⟩ := hxr.shape; obtain ⟨b0, b1, b2⟩ := HBOX.out w1 hk1; have kst := Chg.putAt (S := fun q => q = w.heap.size + 1 + 1) (Chg.refl _ w1) (b := w.heap.size + 1 + 1) 0 1 2 (fun _ => rfl) (.int .i64 t.items) (.slice xa xn xc) (.slice ya yn yc); have HB := Lib.hid (And.intro (b0.step kst (by omega)) (And.intro (b1.step kst (by omega)) (b2.put012 (.int .i64 t.items) (.slice xa xn xc) (.slice ya yn yc)))); obtain ⟨d0, d1, d2, d3, d4, d5, fd⟩ := b2; obtain ⟨c0, c1, c2, c3, c4, c5, fr⟩ := HB.out.1; clear b0 b1)
    | (go_at_call 14; refine (q2.out _).mono ?_; rintro e w2 ⟨rfl, hk2⟩; obtain ⟨d0, d1, d2, d3, d4, d5, fd⟩ := HB.out.2.2.keep hk2; obtain ⟨e0, e1, e2, e3, e4, e5, fe⟩ := HB.out.2.1.keep hk2))
  have kst2 := Chg.putAt (S := fun q => q = w.heap.size + 1 + 1) (Chg.refl _ w2) (b := w.heap.size + 1 + 1) 3 4 5 (fun _ => rfl) (.string ⟨d.toArray⟩) (.string ⟨p.toArray⟩) (.int .i64 n)
  have B1 := (HB.out.2.1.keep hk2).step kst2 (by omega)
  obtain ⟨z0, z1, z2, z3, z4, z5, _⟩ := (B1.put012 (.int .i64 t.items) (.slice xa xn xc) (.slice ya yn yc)).put345 (.string ⟨d.toArray⟩) (.string ⟨p.toArray⟩) (.int .i64 n)
  refine bodyPost_ret (v := .agg #[.int .i64 t.items, .slice xa xn xc, .slice ya yn yc, .string ⟨d.toArray⟩, .string ⟨p.toArray⟩, .int .i64 n]) (by simp [results, Tryz.results6, go_sem, z0, z1, z2, z3, z4, z5]) rfl ?_
  have hz := HZ.out
  clear z0 z1 z2 z3 z4 z5 c0 c1 c2 c3 c4 c5 fr d0 d1 d2 d3 d4 d5 fd e0 e1 e2 e3 e4 e5 fe
  generalize ((w2.setCell ⟨w.heap.size + 1 + 1, 3, none⟩ (.string ⟨d.toArray⟩)).setCell ⟨w.heap.size + 1 + 1, 4, none⟩ (.string ⟨p.toArray⟩)).setCell ⟨w.heap.size + 1 + 1, 5, none⟩ (.int .i64 n) = W3 at kst2 ⊢
  have kst3 := Chg.putAt (S := fun q => q = w.heap.size + 1) (Chg.putAt (S := fun q => q = w.heap.size + 1) (Chg.refl _ W3) (b := w.heap.size + 1) 0 1 2 (fun _ => rfl) (.int .i64 t.items) (.slice xa xn xc) (.slice ya yn yc)) (b := w.heap.size + 1) 3 4 5 (fun _ => rfl) (.string ⟨d.toArray⟩) (.string ⟨p.toArray⟩) (.int .i64 n)
  refine ⟨_, rfl, ⟨_, _, rfl, ?_, ?_⟩, ?_⟩
  · exact ((((hxp.step kst (fun q hq => by omega)).keep hk2).step kst2 (fun q hq => by omega)).step kst3 (fun q hq => by omega)).weakNo
  · exact ((((hxr.step kst (fun q hq => by omega)).keep hk2).step kst2 (fun q hq => by omega)).step kst3 (fun q hq => by omega)).weak (fun _ e _ => e.elim)
  · exact ((((k0.trans hk1).step kst (fun q hq hl => by omega)).trans hk2).step kst2 (fun q hq hl => by omega)).step kst3 (fun q hq hl => by omega)

theorem cells_con : Tryz.prog.cellsOf 29 = 6 := by kernel_rfl
theorem cells_tour' : Tryz.prog.cellsOf 25 = 3 := by kernel_rfl
theorem cells_log' : Tryz.prog.cellsOf 27 = 3 := by kernel_rfl
end Go.Proofs.YtmnohickmidfkaaGreatDoor
