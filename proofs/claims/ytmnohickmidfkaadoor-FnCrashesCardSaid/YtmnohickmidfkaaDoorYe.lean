import Derived.Test.YtmnohickmidfkaaDoorYd
/- a record's line, on both sides -/
namespace Go.Proofs.YtmnohickmidfkaaDoor
open Go.RowKit

theorem cat_to {P : Program} {x y z : List UInt8} (hz : z = x ++ y) (h : z.length ≤ 9223372036854775807) (w : World) : (Op.stringOp .add ⟨x.toArray⟩ ⟨y.toArray⟩).run P w = .ok (.string ⟨z.toArray⟩) w := by
  rw [hz] at h ⊢
  rw [List.length_append] at h
  exact cat_run x y h w
/-- the pieces of a record's text, put together one behind another -/
theorem text_parts (k : Nat) (c r : List UInt8) (hk : k ≤ 9223372036854775807) (hc : c.length ≤ 1125899906842624) (hr : r.length ≤ 1125899906842624) : ∃ D X1 X2 X3 X4 : List UInt8, Lib.decDigits k = D ∧ textL k c r = X4 ∧
    X1 = D ++ [32] ∧ X2 = X1 ++ c ∧ X3 = X2 ++ [64] ∧ X4 = X3 ++ r ∧ D.length ≤ 20 ∧ X1.length ≤ 21 ∧ X2.length ≤ 1125899906842645 ∧ X3.length ≤ 1125899906842646 ∧ X4.length ≤ 2251799813685270 := by
  have h := dec_len 19 k (by omega)
  refine ⟨_, _, _, _, textL k c r, rfl, rfl, rfl, rfl, rfl, ?_, h, ?_, ?_, ?_, ?_⟩
  · simp [textL]
  · simp; omega
  · simp; omega
  · simp; omega
  · simp [textL]; omega

set_option maxRecDepth 100000 in
set_option maxHeartbeats 1000000 in
theorem l12Line_any (k : Nat) (c r : List UInt8) (w : World) (hk : k ≤ 9223372036854775807) (hc : c.length ≤ 1125899906842624) (hr : r.length ≤ 1125899906842624) :
    Calls Tryd.prog 51 #[.int .i64 k, rv c r] w fun e w' => e = .returned (.string ⟨(lineL k c r ++ [10]).toArray⟩) ∧ Chg No w w' := by
  obtain ⟨D, X1, X2, X3, X4, eD, eX, e1, e2, e3, e4, l0, l1, l2, l3, l4⟩ := text_parts k c r hk hc hr
  have q1 := Lib.hid (fun W => l1Num_any k W hk)
  rw [eD] at q1
  have q2 := Lib.hid (fun W => l1Seal_any X4 W (by omega))
  obtain ⟨S, hS⟩ : ∃ S, S = sealL X4 := ⟨_, rfl⟩
  obtain ⟨Z, hZ⟩ : ∃ Z, Z = S ++ [10] := ⟨_, rfl⟩
  have hsl := (seal_len X4).2
  have HZ : Hid (lineL k c r ++ [10] = Z) := Lib.hid (by rw [lineL, eX, hZ, hS])
  rw [← hS] at q2 hsl
  have a1 := cat_to (P := Tryd.prog) e1 (by omega)
  have a2 := cat_to (P := Tryd.prog) e2 (by omega)
  have a3 := cat_to (P := Tryd.prog) e3 (by omega)
  have a4 := cat_to (P := Tryd.prog) e4 (by omega)
  have a5 := cat_to (P := Tryd.prog) hZ (by rw [hZ]; simp; omega)
  have k0 := (Chg.refl No w).alloc (.cells #[.string ⟨c.toArray⟩, .string ⟨r.toArray⟩] 43)
  obtain ⟨c0, c1, fr⟩ := Box2.new w (.string ⟨c.toArray⟩) (.string ⟨r.toArray⟩) 43
  rw [HZ.out]
  clear eD eX e1 e2 e3 e4 hS hZ hsl l0 l1 l2 l3 l4
  unfold rv
  go_enter Tryd.func51, Tryd.ntmps51
  go_wp2_with fail
  go_quiet ((first | (go_at_call 72; exact Calls.quiet_of (q1.out _)) | (go_at_call 71; exact Calls.quiet_of (q2.out _))))
  go_wp2_with fail
  go_ret
  exact ⟨rfl, k0.trans (drewN_chg' _ _)⟩

set_option maxRecDepth 100000 in
set_option maxHeartbeats 1000000 in
/-- of a valid record -/
theorem encoded_any (k : Nat) (c r : List UInt8) (w : World) (hk : k < 60) (hrec : recB c r = true) (hw : Lay w) :
    Calls Tryd.prog 52 #[.int .i64 k, rv c r] w fun e w' => e = .returned (.string ⟨(lineL k c r ++ [10]).toArray⟩) ∧ Chg No w w' := by
  obtain ⟨_, hc, _, _, hr, _⟩ := recB_parts hrec
  obtain ⟨D, X1, X2, X3, X4, eD, eX, e1, e2, e3, e4, l0, l1, l2, l3, l4⟩ := text_parts k c r (by omega) (by omega) (by omega)
  have q1 := Lib.hid (fun W => dec_small k (by omega) W)
  rw [eD] at q1
  have hn := text_notin k c r hrec
  have htl := text_len k c r hk hrec
  rw [eX] at hn htl
  have hsl := (seal_len X4).2
  have hA : appB X4 = true := by
    have : hasL 35 X4 = false := by rw [hasL, decide_eq_false_iff_not]; exact hn
    unfold appB
    rw [this]
    simp
    omega
  have q2 := Lib.hid (fun W hW => AppendChecksum_any X4 W (by omega) hW)
  rw [appT, hA] at q2
  simp only [if_true] at q2
  obtain ⟨S, hS⟩ : ∃ S, S = sealL X4 := ⟨_, rfl⟩
  obtain ⟨Z, hZ⟩ : ∃ Z, Z = S ++ [10] := ⟨_, rfl⟩
  have HZ : Hid (lineL k c r ++ [10] = Z) := Lib.hid (by rw [lineL, eX, hZ, hS])
  rw [← hS] at q2 hsl
  have a1 := cat_to (P := Tryd.prog) e1 (by omega)
  have a2 := cat_to (P := Tryd.prog) e2 (by omega)
  have a3 := cat_to (P := Tryd.prog) e3 (by omega)
  have a4 := cat_to (P := Tryd.prog) e4 (by omega)
  have a5 := cat_to (P := Tryd.prog) hZ (by rw [hZ]; simp; omega)
  have k0 := (Chg.refl No w).alloc (.cells #[.string ⟨c.toArray⟩, .string ⟨r.toArray⟩] 43)
  have bx := Box2.new w (.string ⟨c.toArray⟩) (.string ⟨r.toArray⟩) 43
  obtain ⟨C, hC1, hC2⟩ : ∃ C : World → Prop, (∀ W, C W → Box2 W w.heap.size (.string ⟨c.toArray⟩) (.string ⟨r.toArray⟩) ∧ Chg No w W) ∧
      (∀ W, Box2 W w.heap.size (.string ⟨c.toArray⟩) (.string ⟨r.toArray⟩) → Chg No w W → C W) := ⟨_, fun _ h => h, fun _ h h' => ⟨h, h'⟩⟩
  have HBOX := Lib.hid (fun W hW => (hC1 W hW).1)
  have HCHG := Lib.hid (fun W hW => (hC1 W hW).2)
  have HLAY := Lib.hid (fun W hW => hw.keep (hC1 W hW).2)
  have HK : Hid (∀ W W', C W → Chg No W W' → C W') := Lib.hid (fun W W' hW hk => hC2 W' ((hC1 W hW).1.keep hk) ((hC1 W hW).2.keep hk))
  have hC0 := hC2 _ (bx.keep (Chg.refl No _).drew) k0.drew
  rw [HZ.out]
  clear eD eX e1 e2 e3 e4 hS hZ hsl l0 l1 l2 l3 l4 hC1 hC2 bx hA hn htl hw hrec
  unfold rv
  go_enter Tryd.func52, Tryd.ntmps52
  go_wp2_with fail
  refine wp_region_X C (by kernel_rfl) (by kernel_rfl) hC0 ?_
  refine wpX_val (.int .i64 k) rfl (by intro W hW; obtain ⟨c0, c1, fr⟩ := HBOX.out W hW; go_simp) ?_
  simp only [Act.put, List.setIfInBounds_toArray, List.set_cons_zero, List.set_cons_succ]
  refine wpX_call (.string ⟨D.toArray⟩) (f := 74) (args := #[.int .i64 k]) rfl (by intro W hW; go_simp) (fun W hW => (q1.out W).mono (by rintro e w' ⟨rfl, rfl⟩; exact ⟨rfl, hW⟩)) ?_
  simp only [Act.put, List.setIfInBounds_toArray, List.set_cons_zero, List.set_cons_succ]
  refine wpX_val (.string ⟨X1.toArray⟩) rfl (by intro W hW; obtain ⟨c0, c1, fr⟩ := HBOX.out W hW; go_simp) ?_
  simp only [Act.put, List.setIfInBounds_toArray, List.set_cons_zero, List.set_cons_succ]
  refine wpX_val (.pointer (some ⟨w.heap.size, 0, none⟩)) rfl (by intro W hW; obtain ⟨c0, c1, fr⟩ := HBOX.out W hW; go_simp) ?_
  simp only [Act.put, List.setIfInBounds_toArray, List.set_cons_zero, List.set_cons_succ]
  refine wpX_val (.string ⟨c.toArray⟩) rfl (by intro W hW; obtain ⟨c0, c1, fr⟩ := HBOX.out W hW; go_simp) ?_
  simp only [Act.put, List.setIfInBounds_toArray, List.set_cons_zero, List.set_cons_succ]
  refine wpX_val (.string ⟨X2.toArray⟩) rfl (by intro W hW; obtain ⟨c0, c1, fr⟩ := HBOX.out W hW; go_simp) ?_
  simp only [Act.put, List.setIfInBounds_toArray, List.set_cons_zero, List.set_cons_succ]
  refine wpX_val (.string ⟨X3.toArray⟩) rfl (by intro W hW; obtain ⟨c0, c1, fr⟩ := HBOX.out W hW; go_simp) ?_
  simp only [Act.put, List.setIfInBounds_toArray, List.set_cons_zero, List.set_cons_succ]
  refine wpX_val (.pointer (some ⟨w.heap.size, 1, none⟩)) rfl (by intro W hW; obtain ⟨c0, c1, fr⟩ := HBOX.out W hW; go_simp) ?_
  simp only [Act.put, List.setIfInBounds_toArray, List.set_cons_zero, List.set_cons_succ]
  refine wpX_val (.string ⟨r.toArray⟩) rfl (by intro W hW; obtain ⟨c0, c1, fr⟩ := HBOX.out W hW; go_simp) ?_
  simp only [Act.put, List.setIfInBounds_toArray, List.set_cons_zero, List.set_cons_succ]
  refine wpX_val (.string ⟨X4.toArray⟩) rfl (by intro W hW; obtain ⟨c0, c1, fr⟩ := HBOX.out W hW; go_simp) ?_
  simp only [Act.put, List.setIfInBounds_toArray, List.set_cons_zero, List.set_cons_succ]
  refine wpX_call (.tuple #[.string ⟨S.toArray⟩, .bool true]) (f := 73) (args := #[.string ⟨X4.toArray⟩]) rfl (by intro W hW; go_simp) (fun W hW => (q2.out W (HLAY.out W hW)).mono (by rintro e w' ⟨rfl, hk⟩; exact ⟨rfl, HK.out _ _ hW hk⟩)) ?_
  simp only [Act.put, List.setIfInBounds_toArray, List.set_cons_zero, List.set_cons_succ]
  refine wpX_val (.tuple #[.string ⟨S.toArray⟩, .bool true]) rfl (by intro W hW; obtain ⟨c0, c1, fr⟩ := HBOX.out W hW; go_simp) ?_
  simp only [Act.put, List.setIfInBounds_toArray, List.set_cons_zero, List.set_cons_succ]
  refine wpX_val (.string ⟨S.toArray⟩) rfl (by intro W hW; obtain ⟨c0, c1, fr⟩ := HBOX.out W hW; go_simp) ?_
  simp only [Act.put, List.setIfInBounds_toArray, List.set_cons_zero, List.set_cons_succ]
  refine wpX_val (.bool true) rfl (by intro W hW; obtain ⟨c0, c1, fr⟩ := HBOX.out W hW; go_simp) ?_
  simp only [Act.put, List.setIfInBounds_toArray, List.set_cons_zero, List.set_cons_succ]
  refine wpX_val (.string ⟨S.toArray⟩) rfl (by intro W hW; obtain ⟨c0, c1, fr⟩ := HBOX.out W hW; go_simp) ?_
  simp only [Act.put, List.setIfInBounds_toArray, List.set_cons_zero, List.set_cons_succ]
  refine wpX_val (.bool true) rfl (by intro W hW; obtain ⟨c0, c1, fr⟩ := HBOX.out W hW; go_simp) ?_
  simp only [Act.put, List.setIfInBounds_toArray, List.set_cons_zero, List.set_cons_succ]
  refine wpX_nil (fun W hW => ?_)
  have kW := HCHG.out W hW
  go_wp2_with fail
  go_ret
  exact ⟨rfl, kW⟩

end Go.Proofs.YtmnohickmidfkaaDoor
