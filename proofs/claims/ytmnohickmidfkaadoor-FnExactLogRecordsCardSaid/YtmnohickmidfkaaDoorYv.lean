import Derived.Test.YtmnohickmidfkaaDoorYu
/- LogRecords: the law -/
namespace Go.Proofs.YtmnohickmidfkaaDoor
open Go.RowKit

set_option maxRecDepth 100000 in
set_option maxHeartbeats 2000000 in
theorem law_LogRecords (d p : List UInt8) (n : Int) (w : World) (hd : d.length ≤ 9223372036854775807) (hp : p.length ≤ 9223372036854775807) (hw : Lay w) :
    Calls Tryd.prog 8 #[lv d p n] w fun e w' => e = .returned (.bool true) ∧ Chg No w w' := by
  have k0 := (Chg.refl No w).alloc (.cells #[.string ⟨d.toArray⟩, .string ⟨p.toArray⟩, .int .i64 n] 28)
  have bx := BoxL.new w (.string ⟨d.toArray⟩) (.string ⟨p.toArray⟩) (.int .i64 n) 28
  have HBOX : Hid (∀ W, Chg No (w.alloc (.cells #[.string ⟨d.toArray⟩, .string ⟨p.toArray⟩, .int .i64 n] 28)) W → BoxL W w.heap.size (.string ⟨d.toArray⟩) (.string ⟨p.toArray⟩) (.int .i64 n)) := Lib.hid (fun W hW => bx.keep hW)
  obtain ⟨c0, c1, c2, fr⟩ := bx
  have HL := Lib.hid (hw.keep k0)
  clear hw
  by_cases h : (d.length : Int) + (p.length : Int) ≤ 1048576
  · have q0 := Lib.hid (fun W => szLog_fit d p n 1048576 W (by omega) h)
    have q1 := Lib.hid (fun W => toLog_any d p n W)
    have q2 := Lib.hid (fun W => specRecords_any d p n W (by omega) (by omega))
    have q3 := Lib.hid (fun W hW => implRecords_any d p n W (by omega) (by omega) hW)
    have hl60 := recL_len d p n
    have q4 := Lib.hid (fun v v' W h h' => eqRecS_same v v' (recL d p n) W hl60 h h')
    obtain ⟨b, hb⟩ : ∃ b, validB d p n = b := ⟨_, rfl⟩
    obtain ⟨cs, hcs⟩ : ∃ cs, recC (recL d p n) = cs := ⟨_, rfl⟩
    obtain ⟨m, hm⟩ : ∃ m, (recL d p n).length = m := ⟨_, rfl⟩
    rw [hb] at q2 q3
    rw [hcs, hm] at q2 q3 q4
    rw [hm] at hl60
    have q5 := Lib.hid (fun base v cs W h => markRecS_any base v m cs 1 W h hl60 ⟨by omega, by omega⟩)
    have q6 := Lib.hid (fun v ms W h hM => heldRecS_any v m ms 1 W h hM hl60 ⟨by omega, by omega⟩)
    obtain ⟨M, hM⟩ : ∃ M, 1 + 2 * m = M := ⟨_, rfl⟩
    rw [hM] at q5 q6
    have hM0 : ¬ ((M : Int) < 0) := by omega
    have q5 : Hid (∀ base v cs W, OS 43 2 base W v m cs → Calls Tryd.prog 29 #[v, .int .i64 1] W fun e w' => e = .returned (.int .i64 (M : Int)) ∧ ∃ ms, OS 43 2 base w' v m ms ∧ Marked ms 1 m ∧ Chg (own v) W w') := Lib.hid (fun base v cs W h => by have := q5.out base v cs W h; exact this)
    have q6 : Hid (∀ v ms W, RF No W v 2 m ms → Marked ms 1 m → Calls Tryd.prog 30 #[v, .int .i64 1] W fun e w' => e = .returned (.int .i64 (M : Int)) ∧ Chg No W w') := Lib.hid (fun v ms W h hM => by have := q6.out v ms W h hM; exact this)
    unfold lv at q0 q1 q2 q3 ⊢
    clear hb hcs hm hM
    have hs0 := k0.size
    go_enter Tryd.func8, Tryd.ntmps8
    go_wp2_with (first
      | (go_at_call 14; refine (q0.out _).mono ?_; rintro e w1 ⟨rfl, hk1⟩; obtain ⟨c0, c1, c2, fr⟩ := HBOX.out w1 hk1)
      | (go_at_call 16; first
        | (have k8 := hk8; refine (q1.out _).mono ?_; rintro e w9 ⟨rfl, hk9⟩)
        | (have k3 := hk3; refine (q1.out _).mono ?_; rintro e w4 ⟨rfl, hk4⟩)
        | (refine (q1.out _).mono ?_; rintro e w2 ⟨rfl, hk2⟩))
      | (go_at_call 26; refine (q2.out _).mono ?_; rintro e w3 ⟨v0, rfl, o0, hk3⟩; have kA := hk1.trans (hk2.trans hk3); obtain ⟨c0, c1, c2, fr⟩ := HBOX.out _ kA)
      | (go_at_call 27; first
        | (have k9 := hk9; refine (q3.out _ (HL.out.keep (kD.trans hk9))).mono ?_; rintro e w10 ⟨v2, rfl, o10, hk10⟩; have kE := kD.trans (hk9.trans hk10))
        | (refine (q3.out _ (HL.out.keep (kA.trans hk4))).mono ?_; rintro e w5 ⟨v1, rfl, o1, hk5⟩; have kB := kA.trans (hk4.trans hk5); have o0' := o0.keep (hk4.trans hk5)))
      | (go_at_call 28; first
        | (have k10 := hk10; refine (q4.out _ _ _ o10.readNo (o0D.keep (hk9.trans hk10)).readNo).mono ?_; rintro e w11 ⟨rfl, hk11⟩)
        | (refine (q4.out _ _ _ o1.readNo o0'.readNo).mono ?_; rintro e w6 ⟨rfl, hk6⟩; have kC := kB.trans hk6))
      | (go_at_call 29; refine (q5.out _ _ _ _ (o1.keep hk6)).mono ?_; rintro e w7 ⟨rfl, ms, o7, hMk, hkM⟩; have HMK := Lib.hid hMk; clear hMk; have s4 := hk4.size; have s3 := kA.size; have kD0 := kC.step hkM (fun q hq hl => by have := (o1.lt q hq).1; omega); have o0D0 := (o0'.keep hk6).step hkM (fun q hq hq' => by have := (o1.lt q hq').1; have := (o0.lt q hq).2; omega))
      | (go_at_call 30; first
        | (have k11 := hk11; refine (q6.out _ _ _ ((o7.keep (hk8.trans (hk9.trans hk10))).keep hk11).readNo HMK.out).mono ?_; rintro e w12 ⟨rfl, hk12⟩)
        | (refine (q6.out _ _ _ o7.readNo HMK.out).mono ?_; rintro e w8 ⟨rfl, hk8⟩; have kD := kD0.trans hk8; have o0D := o0D0.keep hk8; obtain ⟨c0, c1, c2, fr⟩ := HBOX.out _ kD)))
    all_goals go_ret
    all_goals exact ⟨rfl, k0.trans (kE.trans (hk11.trans hk12))⟩
  · have q0 := Lib.hid (fun W => szLog_no d p n 1048576 W (by omega) (by omega) (by omega) hd hp)
    unfold lv at q0 ⊢
    go_enter Tryd.func8, Tryd.ntmps8
    go_wp2_with (go_at_call 14; refine (q0.out _).mono ?_; rintro e w1 ⟨rfl, hk1⟩)
    go_ret
    exact ⟨rfl, k0.trans hk1⟩
end Go.Proofs.YtmnohickmidfkaaDoor
