import Derived.Test.YtmnohickmidfkaaDoorYl
/- a law's log: its size, its copy, two compared; the law IsValidLog -/
namespace Go.Proofs.YtmnohickmidfkaaDoor
open Go.RowKit

set_option maxRecDepth 100000 in
theorem implValid_any (d p : List UInt8) (n : Int) (w : World) (hd : d.length ≤ 1048576) (hp : p.length ≤ 1048576) (hw : Lay w) :
    Calls Tryd.prog 17 #[lv d p n] w fun e w' => e = .returned (.bool (validB d p n)) ∧ Chg No w w' := by
  have k0 := (Chg.refl No w).alloc (.cells #[.string ⟨d.toArray⟩, .string ⟨p.toArray⟩, .int .i64 n] 23)
  obtain ⟨c0, c1, c2, fr⟩ := BoxL.new w (.string ⟨d.toArray⟩) (.string ⟨p.toArray⟩) (.int .i64 n) 23
  have q1 : Hid (∀ W, Lay W → Calls Tryd.prog 47 #[lv d p n] W fun e w' => ∃ v, e = .returned (.tuple #[v, .bool (validB d p n)]) ∧ Chg No W w') := Lib.hid (fun W hW => (recordsOf_any d p n W hd hp hW).mono (fun e w' ⟨v, h1, _, _, h4⟩ => ⟨v, h1, h4⟩))
  have HL := Lib.hid (hw.keep k0)
  unfold lv at q1 ⊢
  go_enter Tryd.func17, Tryd.ntmps17
  go_wp2_with (go_at_call 47; refine (q1.out _ HL.out).mono ?_; rintro e w1 ⟨v, rfl, hk1⟩)
  go_ret
  exact ⟨rfl, k0.trans hk1⟩

set_option maxRecDepth 100000 in
theorem szLog_fit (d p : List UInt8) (n : Int) (K : Int) (w : World) (hK : K ≤ 1048576) (h : (d.length : Int) + (p.length : Int) ≤ K) :
    Calls Tryd.prog 14 #[lv d p n, .int .i64 K] w fun e w' => e = .returned (.int .i64 (K - d.length - p.length)) ∧ Chg No w w' := by
  have k0 := (Chg.refl No w).alloc (.cells #[.string ⟨d.toArray⟩, .string ⟨p.toArray⟩, .int .i64 n] 28)
  obtain ⟨c0, c1, c2, fr⟩ := BoxL.new w (.string ⟨d.toArray⟩) (.string ⟨p.toArray⟩) (.int .i64 n) 28
  unfold lv
  go_enter Tryd.func14, Tryd.ntmps14
  go_wp2_with fail
  go_ret
  exact ⟨rfl, k0⟩
set_option maxRecDepth 100000 in
theorem szLog_no (d p : List UInt8) (n : Int) (K : Int) (w : World) (h0 : 0 ≤ K) (hK : K ≤ 1048576) (h : K < (d.length : Int) + (p.length : Int)) (hd : d.length ≤ 9223372036854775807) (hp : p.length ≤ 9223372036854775807) :
    Calls Tryd.prog 14 #[lv d p n, .int .i64 K] w fun e w' => e = .returned (.int .i64 (-1)) ∧ Chg No w w' := by
  have k0 := (Chg.refl No w).alloc (.cells #[.string ⟨d.toArray⟩, .string ⟨p.toArray⟩, .int .i64 n] 28)
  obtain ⟨c0, c1, c2, fr⟩ := BoxL.new w (.string ⟨d.toArray⟩) (.string ⟨p.toArray⟩) (.int .i64 n) 28
  unfold lv
  by_cases h1 : K < (d.length : Int)
  · go_enter Tryd.func14, Tryd.ntmps14
    go_wp2_with fail
    go_ret
    exact ⟨rfl, k0⟩
  · go_enter Tryd.func14, Tryd.ntmps14
    go_wp2_with fail
    go_ret
    exact ⟨rfl, k0⟩

set_option maxRecDepth 100000 in
theorem toLog_any (d p : List UInt8) (n : Int) (w : World) :
    Calls Tryd.prog 16 #[lv d p n] w fun e w' => e = .returned (lv d p n) ∧ Chg No w w' := by
  have k0 := (Chg.refl No w).alloc (.cells #[.string ⟨d.toArray⟩, .string ⟨p.toArray⟩, .int .i64 n] 28)
  obtain ⟨c0, c1, c2, fr⟩ := BoxL.new w (.string ⟨d.toArray⟩) (.string ⟨p.toArray⟩) (.int .i64 n) 28
  unfold lv
  go_enter Tryd.func16, Tryd.ntmps16
  go_wp2_with fail
  have B1 := (BoxL.new (w.alloc (.cells #[.string ⟨d.toArray⟩, .string ⟨p.toArray⟩, .int .i64 n] 28)) (.string ⟨d.toArray⟩) (.string ⟨p.toArray⟩) (.int .i64 n) 23).keep ((Chg.refl No _).alloc (.cells #[.string ⟨d.toArray⟩, .string ⟨p.toArray⟩, .int .i64 n] 23))
  rw [World.size_alloc] at B1
  obtain ⟨z0, z1, z2, _⟩ := B1
  refine bodyPost_ret (v := .agg #[.string ⟨d.toArray⟩, .string ⟨p.toArray⟩, .int .i64 n]) (by simp [results, Tryd.results16, go_sem, z0, z1, z2]) rfl ?_
  exact ⟨rfl, (k0.alloc _).alloc _⟩

set_option maxRecDepth 100000 in
theorem eqLog_same (d p : List UInt8) (n : Int) (w : World) :
    Calls Tryd.prog 13 #[lv d p n, lv d p n] w fun e w' => e = .returned (.bool true) ∧ Chg No w w' := by
  have k0 := (Chg.refl No w).alloc (.cells #[.string ⟨d.toArray⟩, .string ⟨p.toArray⟩, .int .i64 n] 23)
  have k1 := k0.alloc (.cells #[.string ⟨d.toArray⟩, .string ⟨p.toArray⟩, .int .i64 n] 23)
  have B0 := (BoxL.new w (.string ⟨d.toArray⟩) (.string ⟨p.toArray⟩) (.int .i64 n) 23).keep ((Chg.refl No _).alloc (.cells #[.string ⟨d.toArray⟩, .string ⟨p.toArray⟩, .int .i64 n] 23))
  have B1 := (BoxL.new (w.alloc (.cells #[.string ⟨d.toArray⟩, .string ⟨p.toArray⟩, .int .i64 n] 23)) (.string ⟨d.toArray⟩) (.string ⟨p.toArray⟩) (.int .i64 n) 23)
  rw [World.size_alloc] at B1
  obtain ⟨c0, c1, c2, fr⟩ := B0
  obtain ⟨d0, d1, d2, fr'⟩ := B1
  unfold lv
  go_enter Tryd.func13, Tryd.ntmps13
  go_wp2_with fail
  go_ret
  exact ⟨rfl, k1⟩

set_option maxRecDepth 100000 in
theorem law_IsValidLog (d p : List UInt8) (n : Int) (w : World) (hd : d.length ≤ 9223372036854775807) (hp : p.length ≤ 9223372036854775807) (hw : Lay w) :
    Calls Tryd.prog 4 #[lv d p n] w fun e w' => e = .returned (.bool true) ∧ Chg No w w' := by
  have k0 := (Chg.refl No w).alloc (.cells #[.string ⟨d.toArray⟩, .string ⟨p.toArray⟩, .int .i64 n] 28)
  have bx := BoxL.new w (.string ⟨d.toArray⟩) (.string ⟨p.toArray⟩) (.int .i64 n) 28
  have HBOX : Hid (∀ W, Chg No (w.alloc (.cells #[.string ⟨d.toArray⟩, .string ⟨p.toArray⟩, .int .i64 n] 28)) W → BoxL W w.heap.size (.string ⟨d.toArray⟩) (.string ⟨p.toArray⟩) (.int .i64 n)) := Lib.hid (fun W hW => bx.keep hW)
  obtain ⟨c0, c1, c2, fr⟩ := bx
  have HL := Lib.hid (hw.keep k0)
  by_cases h : (d.length : Int) + (p.length : Int) ≤ 1048576
  · have q0 := Lib.hid (fun W => szLog_fit d p n 1048576 W (by omega) h)
    have q1 := Lib.hid (fun W => toLog_any d p n W)
    have q2 := Lib.hid (fun W => specValid_any d p n W (by omega) (by omega))
    have q3 := Lib.hid (fun W hW => implValid_any d p n W (by omega) (by omega) hW)
    obtain ⟨b, hb⟩ : ∃ b, validB d p n = b := ⟨_, rfl⟩
    rw [hb] at q2 q3
    unfold lv at q0 q1 q2 q3 ⊢
    clear hb
    go_enter Tryd.func4, Tryd.ntmps4
    go_wp2_with (first | (go_at_call 14; refine (q0.out _).mono ?_; rintro e w1 ⟨rfl, hk1⟩; obtain ⟨c0, c1, c2, fr⟩ := HBOX.out w1 hk1) | (go_at_call 16; first | (have k5 := hk3; refine (q1.out _).mono ?_; rintro e w4 ⟨rfl, hk4⟩; obtain ⟨c0, c1, c2, fr⟩ := HBOX.out w4 ((hk1.trans (hk2.trans hk3)).trans hk4)) | (refine (q1.out _).mono ?_; rintro e w2 ⟨rfl, hk2⟩; obtain ⟨c0, c1, c2, fr⟩ := HBOX.out w2 (hk1.trans hk2))) | (go_at_call 15; refine (q2.out _).mono ?_; rintro e w3 ⟨rfl, hk3⟩; obtain ⟨c0, c1, c2, fr⟩ := HBOX.out w3 (hk1.trans (hk2.trans hk3))) | (go_at_call 17; refine (q3.out _ (HL.out.keep ((hk1.trans (hk2.trans hk3)).trans hk4))).mono ?_; rintro e w5 ⟨rfl, hk5⟩))
    all_goals go_ret
    all_goals exact ⟨rfl, k0.trans (((hk1.trans (hk2.trans hk3)).trans hk4).trans hk5)⟩
  · have q0 := Lib.hid (fun W => szLog_no d p n 1048576 W (by omega) (by omega) (by omega) hd hp)
    unfold lv at q0 ⊢
    go_enter Tryd.func4, Tryd.ntmps4
    go_wp2_with (go_at_call 14; refine (q0.out _).mono ?_; rintro e w1 ⟨rfl, hk1⟩)
    go_ret
    exact ⟨rfl, k0.trans hk1⟩
end Go.Proofs.YtmnohickmidfkaaDoor
