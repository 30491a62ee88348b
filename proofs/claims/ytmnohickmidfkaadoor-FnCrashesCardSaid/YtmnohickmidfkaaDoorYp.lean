import Derived.Test.YtmnohickmidfkaaDoorYn
/- SyncLog: both sides and the law -/
namespace Go.Proofs.YtmnohickmidfkaaDoor
open Go.RowKit

/-- what SyncLog returns -/
def syncD (d p : List UInt8) (n : Int) : List UInt8 := if validB d p n then d ++ p else []
def syncN (d p : List UInt8) (n : Int) : Int := if validB d p n then n else 0
set_option maxRecDepth 100000 in
set_option maxHeartbeats 1000000 in
theorem specSync_any (d p : List UInt8) (n : Int) (w : World) (hd : d.length ≤ 1048576) (hp : p.length ≤ 1048576) :
    Calls Tryd.prog 20 #[lv d p n] w fun e w' => e = .returned (.tuple #[lv (syncD d p n) [] (syncN d p n), .bool (validB d p n)]) ∧ Chg No w w' := by
  have q1 := Lib.hid (fun W (_ : True) => l12Valid_any d p n W hd hp)
  unfold lv at q1 ⊢
  have k0 := ((Chg.refl No w).alloc (.cells #[.string ⟨d.toArray⟩, .string ⟨p.toArray⟩, .int .i64 n] 23)).alloc (.cells #[.string ByteArray.empty, .string ByteArray.empty, .int .i64 0] 23)
  have bx0 := (BoxL.new w (.string ⟨d.toArray⟩) (.string ⟨p.toArray⟩) (.int .i64 n) 23).keep ((Chg.refl No _).alloc (.cells #[.string ByteArray.empty, .string ByteArray.empty, .int .i64 0] 23))
  have bx1 := BoxL.new (w.alloc (.cells #[.string ⟨d.toArray⟩, .string ⟨p.toArray⟩, .int .i64 n] 23)) (.string ByteArray.empty) (.string ByteArray.empty) (.int .i64 0) 23
  rw [World.size_alloc] at bx1
  have HBOX : Hid (∀ W, Chg No ((w.alloc (.cells #[.string ⟨d.toArray⟩, .string ⟨p.toArray⟩, .int .i64 n] 23)).alloc (.cells #[.string ByteArray.empty, .string ByteArray.empty, .int .i64 0] 23)) W → BoxL W w.heap.size (.string ⟨d.toArray⟩) (.string ⟨p.toArray⟩) (.int .i64 n)) := Lib.hid (fun W hW => bx0.keep hW)
  have HRES : Hid (∀ W, Chg No ((w.alloc (.cells #[.string ⟨d.toArray⟩, .string ⟨p.toArray⟩, .int .i64 n] 23)).alloc (.cells #[.string ByteArray.empty, .string ByteArray.empty, .int .i64 0] 23)) W → BoxL W (w.heap.size + 1) (.string ByteArray.empty) (.string ByteArray.empty) (.int .i64 0)) := Lib.hid (fun W hW => bx1.keep hW)
  obtain ⟨c0, c1, c2, fr⟩ := bx0
  clear bx1
  cases hv : validB d p n with
  | true =>
    have hlen : d.length + p.length ≤ 30000 := by
      unfold validB at hv
      rw [Bool.and_eq_true, decide_eq_true_eq] at hv
      exact hv.1
    rw [hv] at q1
    have HD : Hid (syncD d p n = d ++ p) := Lib.hid (by rw [syncD, hv]; rfl)
    have HN : Hid (syncN d p n = n) := Lib.hid (by rw [syncN, hv]; rfl)
    obtain ⟨s, hs⟩ : ∃ s, s = d ++ p := ⟨_, rfl⟩
    have a1 := cat_to (P := Tryd.prog) hs (by rw [hs, List.length_append]; omega)
    rw [HD.out, HN.out, ← hs]
    clear hv hs
    go_enter Tryd.func20, Tryd.ntmps20
    go_wp2_with (go_at_call 46; refine (q1.out _ trivial).mono ?_; rintro e w1 ⟨rfl, hk1⟩; obtain ⟨c0, c1, c2, fr⟩ := HBOX.out w1 hk1; obtain ⟨d0, d1, d2, fr'⟩ := HRES.out w1 hk1)
    obtain ⟨z0, z1, z2, _⟩ := (HRES.out w1 hk1).put (.string ⟨s.toArray⟩) (.string ⟨#[]⟩) (.int .i64 n)
    refine bodyPost_ret (v := .tuple #[.agg #[.string ⟨s.toArray⟩, .string ⟨#[]⟩, .int .i64 n], .bool true]) (by simp [results, Tryd.results20, go_sem, z0, z1, z2]) rfl ?_
    exact ⟨rfl, (k0.trans hk1).put3 (fun h => absurd h (by omega)) _ _ _⟩
  | false =>
    rw [hv] at q1
    have HD : Hid (syncD d p n = []) := Lib.hid (by rw [syncD, hv]; rfl)
    have HN : Hid (syncN d p n = 0) := Lib.hid (by rw [syncN, hv]; rfl)
    rw [HD.out, HN.out]
    clear hv
    go_enter Tryd.func20, Tryd.ntmps20
    go_wp2_with (go_at_call 46; refine (q1.out _ trivial).mono ?_; rintro e w1 ⟨rfl, hk1⟩; obtain ⟨c0, c1, c2, fr⟩ := HBOX.out w1 hk1; obtain ⟨d0, d1, d2, fr'⟩ := HRES.out w1 hk1)
    obtain ⟨z0, z1, z2, _⟩ := (HRES.out w1 hk1).put (.string ⟨#[]⟩) (.string ⟨#[]⟩) (.int .i64 0)
    refine bodyPost_ret (v := .tuple #[.agg #[.string ⟨#[]⟩, .string ⟨#[]⟩, .int .i64 0], .bool false]) (by simp [results, Tryd.results20, go_sem, z0, z1, z2]) rfl ?_
    exact ⟨rfl, (k0.trans hk1).put3 (fun h => absurd h (by omega)) _ _ _⟩
set_option maxRecDepth 100000 in
set_option maxHeartbeats 1000000 in
theorem implSync_any (d p : List UInt8) (n : Int) (w : World) (hd : d.length ≤ 1048576) (hp : p.length ≤ 1048576) (hw : Lay w) :
    Calls Tryd.prog 21 #[lv d p n] w fun e w' => e = .returned (.tuple #[lv (syncD d p n) [] (syncN d p n), .bool (validB d p n)]) ∧ Chg No w w' := by
  have q1 := Lib.hid (fun W hW => implValid_any d p n W hd hp hW)
  unfold lv at q1 ⊢
  have k0 := ((Chg.refl No w).alloc (.cells #[.string ⟨d.toArray⟩, .string ⟨p.toArray⟩, .int .i64 n] 23)).alloc (.cells #[.string ByteArray.empty, .string ByteArray.empty, .int .i64 0] 23)
  have bx0 := (BoxL.new w (.string ⟨d.toArray⟩) (.string ⟨p.toArray⟩) (.int .i64 n) 23).keep ((Chg.refl No _).alloc (.cells #[.string ByteArray.empty, .string ByteArray.empty, .int .i64 0] 23))
  have bx1 := BoxL.new (w.alloc (.cells #[.string ⟨d.toArray⟩, .string ⟨p.toArray⟩, .int .i64 n] 23)) (.string ByteArray.empty) (.string ByteArray.empty) (.int .i64 0) 23
  rw [World.size_alloc] at bx1
  have HBOX : Hid (∀ W, Chg No ((w.alloc (.cells #[.string ⟨d.toArray⟩, .string ⟨p.toArray⟩, .int .i64 n] 23)).alloc (.cells #[.string ByteArray.empty, .string ByteArray.empty, .int .i64 0] 23)) W → BoxL W w.heap.size (.string ⟨d.toArray⟩) (.string ⟨p.toArray⟩) (.int .i64 n)) := Lib.hid (fun W hW => bx0.keep hW)
  have HRES : Hid (∀ W, Chg No ((w.alloc (.cells #[.string ⟨d.toArray⟩, .string ⟨p.toArray⟩, .int .i64 n] 23)).alloc (.cells #[.string ByteArray.empty, .string ByteArray.empty, .int .i64 0] 23)) W → BoxL W (w.heap.size + 1) (.string ByteArray.empty) (.string ByteArray.empty) (.int .i64 0)) := Lib.hid (fun W hW => bx1.keep hW)
  obtain ⟨c0, c1, c2, fr⟩ := bx0
  clear bx1
  have HL := Lib.hid (hw.keep k0)
  clear hw
  cases hv : validB d p n with
  | true =>
    have hlen : d.length + p.length ≤ 30000 := by
      unfold validB at hv
      rw [Bool.and_eq_true, decide_eq_true_eq] at hv
      exact hv.1
    rw [hv] at q1
    have HD : Hid (syncD d p n = d ++ p) := Lib.hid (by rw [syncD, hv]; rfl)
    have HN : Hid (syncN d p n = n) := Lib.hid (by rw [syncN, hv]; rfl)
    obtain ⟨s, hs⟩ : ∃ s, s = d ++ p := ⟨_, rfl⟩
    have a1 := cat_to (P := Tryd.prog) hs (by rw [hs, List.length_append]; omega)
    rw [HD.out, HN.out, ← hs]
    clear hv hs
    go_enter Tryd.func21, Tryd.ntmps21
    go_wp2_with (go_at_call 17; refine (q1.out _ HL.out).mono ?_; rintro e w1 ⟨rfl, hk1⟩; obtain ⟨c0, c1, c2, fr⟩ := HBOX.out w1 hk1; obtain ⟨d0, d1, d2, fr'⟩ := HRES.out w1 hk1)
    obtain ⟨z0, z1, z2, _⟩ := (HRES.out w1 hk1).put (.string ⟨s.toArray⟩) (.string ⟨#[]⟩) (.int .i64 n)
    refine bodyPost_ret (v := .tuple #[.agg #[.string ⟨s.toArray⟩, .string ⟨#[]⟩, .int .i64 n], .bool true]) (by simp [results, Tryd.results21, go_sem, z0, z1, z2]) rfl ?_
    exact ⟨rfl, (k0.trans hk1).put3 (fun h => absurd h (by omega)) _ _ _⟩
  | false =>
    rw [hv] at q1
    have HD : Hid (syncD d p n = []) := Lib.hid (by rw [syncD, hv]; rfl)
    have HN : Hid (syncN d p n = 0) := Lib.hid (by rw [syncN, hv]; rfl)
    rw [HD.out, HN.out]
    clear hv
    go_enter Tryd.func21, Tryd.ntmps21
    go_wp2_with (go_at_call 17; refine (q1.out _ HL.out).mono ?_; rintro e w1 ⟨rfl, hk1⟩; obtain ⟨c0, c1, c2, fr⟩ := HBOX.out w1 hk1; obtain ⟨d0, d1, d2, fr'⟩ := HRES.out w1 hk1)
    obtain ⟨z0, z1, z2, _⟩ := (HRES.out w1 hk1).put (.string ⟨#[]⟩) (.string ⟨#[]⟩) (.int .i64 0)
    refine bodyPost_ret (v := .tuple #[.agg #[.string ⟨#[]⟩, .string ⟨#[]⟩, .int .i64 0], .bool false]) (by simp [results, Tryd.results21, go_sem, z0, z1, z2]) rfl ?_
    exact ⟨rfl, (k0.trans hk1).put3 (fun h => absurd h (by omega)) _ _ _⟩

set_option maxRecDepth 100000 in
set_option maxHeartbeats 1000000 in
theorem law_SyncLog (d p : List UInt8) (n : Int) (w : World) (hd : d.length ≤ 9223372036854775807) (hp : p.length ≤ 9223372036854775807) (hw : Lay w) :
    Calls Tryd.prog 6 #[lv d p n] w fun e w' => e = .returned (.bool true) ∧ Chg No w w' := by
  have k0 := (Chg.refl No w).alloc (.cells #[.string ⟨d.toArray⟩, .string ⟨p.toArray⟩, .int .i64 n] 28)
  have bx := BoxL.new w (.string ⟨d.toArray⟩) (.string ⟨p.toArray⟩) (.int .i64 n) 28
  have HBOX : Hid (∀ W, Chg No (w.alloc (.cells #[.string ⟨d.toArray⟩, .string ⟨p.toArray⟩, .int .i64 n] 28)) W → BoxL W w.heap.size (.string ⟨d.toArray⟩) (.string ⟨p.toArray⟩) (.int .i64 n)) := Lib.hid (fun W hW => bx.keep hW)
  obtain ⟨c0, c1, c2, fr⟩ := bx
  have HL := Lib.hid (hw.keep k0)
  clear hw
  by_cases h : (d.length : Int) + (p.length : Int) ≤ 1048576
  · have q0 := Lib.hid (fun W => szLog_fit d p n 1048576 W (by omega) h)
    have q1 := Lib.hid (fun W => toLog_any d p n W)
    have q2 := Lib.hid (fun W => specSync_any d p n W (by omega) (by omega))
    have q3 := Lib.hid (fun W hW => implSync_any d p n W (by omega) (by omega) hW)
    obtain ⟨b, hb⟩ : ∃ b, validB d p n = b := ⟨_, rfl⟩
    obtain ⟨x, hx⟩ : ∃ x, syncD d p n = x := ⟨_, rfl⟩
    obtain ⟨y, hy⟩ : ∃ y, syncN d p n = y := ⟨_, rfl⟩
    rw [hb, hx, hy] at q2 q3
    have q4 := Lib.hid (fun W => eqLog_same x [] y W)
    unfold lv at q0 q1 q2 q3 q4 ⊢
    clear hb hx hy
    go_enter Tryd.func6, Tryd.ntmps6
    go_wp2_with (first | (go_at_call 14; refine (q0.out _).mono ?_; rintro e w1 ⟨rfl, hk1⟩; obtain ⟨c0, c1, c2, fr⟩ := HBOX.out w1 hk1) | (go_at_call 16; first | (have k5 := hk3; refine (q1.out _).mono ?_; rintro e w4 ⟨rfl, hk4⟩) | (refine (q1.out _).mono ?_; rintro e w2 ⟨rfl, hk2⟩)) | (go_at_call 20; refine (q2.out _).mono ?_; rintro e w3 ⟨rfl, hk3⟩; have kA := hk1.trans (hk2.trans hk3); have kB := kA.alloc (.cells #[.string ⟨x.toArray⟩, .string ⟨#[]⟩, .int .i64 y] 23); have bxA := Lib.hid (BoxL.new w3 (.string ⟨x.toArray⟩) (.string ⟨#[]⟩) (.int .i64 y) 23); obtain ⟨c0, c1, c2, fr⟩ := HBOX.out _ kB; obtain ⟨d0, d1, d2, fr'⟩ := BoxL.new w3 (.string ByteArray.empty) (.string ByteArray.empty) (.int .i64 0) 23) | (go_at_call 21; refine (q3.out _ ((HL.out.keep kB).keep hk4)).mono ?_; rintro e w5 ⟨rfl, hk5⟩; have kC := kB.trans (hk4.trans hk5); have bxB := (bxA.out.keep (hk4.trans hk5)).keep ((Chg.refl No _).alloc (.cells #[.string ⟨x.toArray⟩, .string ⟨#[]⟩, .int .i64 y] 23)); obtain ⟨d0, d1, d2, fr'⟩ := bxB; obtain ⟨c0, c1, c2, fr⟩ := BoxL.new w5 (.string ⟨x.toArray⟩) (.string ⟨#[]⟩) (.int .i64 y) 23) | (go_at_call 13; refine (q4.out _).mono ?_; rintro e w6 ⟨rfl, hk6⟩))
    all_goals go_ret
    all_goals exact ⟨rfl, k0.trans ((kC.alloc _).trans hk6)⟩
  · have q0 := Lib.hid (fun W => szLog_no d p n 1048576 W (by omega) (by omega) (by omega) hd hp)
    unfold lv at q0 ⊢
    go_enter Tryd.func6, Tryd.ntmps6
    go_wp2_with (go_at_call 14; refine (q0.out _).mono ?_; rintro e w1 ⟨rfl, hk1⟩)
    go_ret
    exact ⟨rfl, k0.trans hk1⟩
end Go.Proofs.YtmnohickmidfkaaDoor
