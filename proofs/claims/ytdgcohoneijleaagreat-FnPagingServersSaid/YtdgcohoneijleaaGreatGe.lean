import Derived.Test.YtdgcohoneijleaaGreatPkX10
/- whether a Cache is valid, both sides: the statements that draw their order -/
namespace Go.Proofs.YtdgcohoneijleaaGreat
open Go.RowKit

set_option maxRecDepth 100000 in
set_option maxHeartbeats 8000000 in
theorem IsCache_any (A : Nat → Prop) (n : Int) (v : Value) (c : Ca) (w : World) (h : RC A w v c) :
    Calls Tryz.prog 33 #[.int .i64 n, v] w (Ret fun r w' => r = .bool (goodC n c) ∧ Chg No w w') := by
  obtain ⟨p, k, ps, m, hd⟩ := c
  have hv := h
  obtain ⟨pv, mv, rfl, hp, hmk⟩ := h
  simp only at hp hmk hv ⊢
  obtain ⟨pa, pc, rfl, _⟩ := id hp
  obtain ⟨ma, mc, rfl, _⟩ := id hmk
  have k0 := (Chg.refl No w).alloc (.cells #[.int .i64 p, .int .i64 k, .slice pa ps.length pc, .slice ma m.length mc, .int .i64 hd] 42)
  have bx := Box.new w (.int .i64 p) (.int .i64 k) (.slice pa ps.length pc) (.slice ma m.length mc) (.int .i64 hd) 42
  obtain ⟨C, hC1, hC2⟩ : ∃ C : World → Prop, (∀ W, C W → Box W w.heap.size (.int .i64 p) (.int .i64 k) (.slice pa ps.length pc) (.slice ma m.length mc) (.int .i64 hd) ∧ Chg No w W) ∧
      (∀ W, Box W w.heap.size (.int .i64 p) (.int .i64 k) (.slice pa ps.length pc) (.slice ma m.length mc) (.int .i64 hd) → Chg No w W → C W) := ⟨_, fun _ h => h, fun _ h h' => ⟨h, h'⟩⟩
  have HBOX := Lib.hid (fun W hW => (hC1 W hW).1)
  have HCHG := Lib.hid (fun W hW => (hC1 W hW).2)
  have HK : Hid (∀ W W', C W → Chg No W W' → C W') := Lib.hid (fun W W' hW hk => hC2 W' ((hC1 W hW).1.keep hk) ((hC1 W hW).2.keep hk))
  have hC0 := hC2 _ (bx.keep (Chg.refl No _).drew) k0.drew
  clear hC1 hC2 bx
  cases h1 : inB n 1 8
  · skip
    have HG : Hid (goodC n ⟨p, k, ps, m, hd⟩ = false) := Lib.hid (by simp [goodC, h1])
    have H1 := Lib.hid h1
    clear h1
    go_enter Tryz.func33, Tryz.ntmps33
    go_wp2_with fail
    refine wp_region_X C (by kernel_rfl) (by kernel_rfl) hC0 ?_
    refine wpX_val (.int .i64 n) rfl (by intro W hW; obtain ⟨c0, c1, c2, c3, c4, fr⟩ := HBOX.out W hW; go_simp) ?_
    simp only [Act.put, List.setIfInBounds_toArray, List.set_cons_zero, List.set_cons_succ]
    refine wpX_call (.bool false) (f := 30) (args := #[.int .i64 n]) rfl (by intro W hW; obtain ⟨c0, c1, c2, c3, c4, fr⟩ := HBOX.out W hW; go_simp) (fun W hW => (isItems_any n W).mono (by rintro e w' ⟨rfl, rfl⟩; exact ⟨by rw [H1.out], hW⟩)) ?_
    simp only [Act.put, List.setIfInBounds_toArray, List.set_cons_zero, List.set_cons_succ]
    refine wpX_val (.bool true) rfl (by intro W hW; obtain ⟨c0, c1, c2, c3, c4, fr⟩ := HBOX.out W hW; go_simp) ?_
    simp only [Act.put, List.setIfInBounds_toArray, List.set_cons_zero, List.set_cons_succ]
    refine wpX_val (.bool true) rfl (by intro W hW; obtain ⟨c0, c1, c2, c3, c4, fr⟩ := HBOX.out W hW; go_simp) ?_
    simp only [Act.put, List.setIfInBounds_toArray, List.set_cons_zero, List.set_cons_succ]
    repeat (first | (refine wpX_skip rfl ?_; simp only [Act.put, List.setIfInBounds_toArray, List.set_cons_zero, List.set_cons_succ]) | (refine wpX_val (.bool true) rfl (by intro W hW; go_simp) ?_; simp only [Act.put, List.setIfInBounds_toArray, List.set_cons_zero, List.set_cons_succ]))
    refine wpX_nil (fun W hW => ?_)
    have kW := HCHG.out W hW
    go_wp2_with fail
    go_ret
    exact ⟨_, rfl, by rw [HG.out]; rfl, kW⟩
  · skip
    have H1 := Lib.hid h1
    have hnb := inB_iff.1 h1
    have hn1 : -9223372036854775807 ≤ n := by omega
    have hn2 : n ≤ 9223372036854775807 := by omega
    clear hnb
    clear h1
    cases h2 : inB p 1 7
    · skip
      have HG : Hid (goodC n ⟨p, k, ps, m, hd⟩ = false) := Lib.hid (by simp [goodC, h2])
      have H2 := Lib.hid h2
      clear h2
      go_enter Tryz.func33, Tryz.ntmps33
      go_wp2_with fail
      refine wp_region_X C (by kernel_rfl) (by kernel_rfl) hC0 ?_
      refine wpX_val (.int .i64 n) rfl (by intro W hW; obtain ⟨c0, c1, c2, c3, c4, fr⟩ := HBOX.out W hW; go_simp) ?_
      simp only [Act.put, List.setIfInBounds_toArray, List.set_cons_zero, List.set_cons_succ]
      refine wpX_call (.bool true) (f := 30) (args := #[.int .i64 n]) rfl (by intro W hW; obtain ⟨c0, c1, c2, c3, c4, fr⟩ := HBOX.out W hW; go_simp) (fun W hW => (isItems_any n W).mono (by rintro e w' ⟨rfl, rfl⟩; exact ⟨by rw [H1.out], hW⟩)) ?_
      simp only [Act.put, List.setIfInBounds_toArray, List.set_cons_zero, List.set_cons_succ]
      refine wpX_val (.bool false) rfl (by intro W hW; obtain ⟨c0, c1, c2, c3, c4, fr⟩ := HBOX.out W hW; go_simp) ?_
      simp only [Act.put, List.setIfInBounds_toArray, List.set_cons_zero, List.set_cons_succ]
      refine wpX_val (.bool false) rfl (by intro W hW; obtain ⟨c0, c1, c2, c3, c4, fr⟩ := HBOX.out W hW; go_simp) ?_
      simp only [Act.put, List.setIfInBounds_toArray, List.set_cons_zero, List.set_cons_succ]
      refine wpX_val (.pointer (some ⟨w.heap.size, 0, none⟩)) rfl (by intro W hW; obtain ⟨c0, c1, c2, c3, c4, fr⟩ := HBOX.out W hW; go_simp) ?_
      simp only [Act.put, List.setIfInBounds_toArray, List.set_cons_zero, List.set_cons_succ]
      refine wpX_val (.int .i64 p) rfl (by intro W hW; obtain ⟨c0, c1, c2, c3, c4, fr⟩ := HBOX.out W hW; go_simp) ?_
      simp only [Act.put, List.setIfInBounds_toArray, List.set_cons_zero, List.set_cons_succ]
      refine wpX_call (.bool false) (f := 31) (args := #[.int .i64 p]) rfl (by intro W hW; obtain ⟨c0, c1, c2, c3, c4, fr⟩ := HBOX.out W hW; go_simp) (fun W hW => (isPolicy_any p W).mono (by rintro e w' ⟨rfl, rfl⟩; exact ⟨by rw [H2.out], hW⟩)) ?_
      simp only [Act.put, List.setIfInBounds_toArray, List.set_cons_zero, List.set_cons_succ]
      refine wpX_val (.bool true) rfl (by intro W hW; obtain ⟨c0, c1, c2, c3, c4, fr⟩ := HBOX.out W hW; go_simp) ?_
      simp only [Act.put, List.setIfInBounds_toArray, List.set_cons_zero, List.set_cons_succ]
      refine wpX_val (.bool true) rfl (by intro W hW; obtain ⟨c0, c1, c2, c3, c4, fr⟩ := HBOX.out W hW; go_simp) ?_
      simp only [Act.put, List.setIfInBounds_toArray, List.set_cons_zero, List.set_cons_succ]
      refine wpX_val (.bool true) rfl (by intro W hW; obtain ⟨c0, c1, c2, c3, c4, fr⟩ := HBOX.out W hW; go_simp) ?_
      simp only [Act.put, List.setIfInBounds_toArray, List.set_cons_zero, List.set_cons_succ]
      repeat (first | (refine wpX_skip rfl ?_; simp only [Act.put, List.setIfInBounds_toArray, List.set_cons_zero, List.set_cons_succ]) | (refine wpX_val (.bool true) rfl (by intro W hW; go_simp) ?_; simp only [Act.put, List.setIfInBounds_toArray, List.set_cons_zero, List.set_cons_succ]))
      refine wpX_nil (fun W hW => ?_)
      have kW := HCHG.out W hW
      go_wp2_with fail
      go_ret
      exact ⟨_, rfl, by rw [HG.out]; rfl, kW⟩
    · skip
      have H2 := Lib.hid h2
      clear h2
      cases h2b : inB k 1 6
      · skip
        have HG : Hid (goodC n ⟨p, k, ps, m, hd⟩ = false) := Lib.hid (by simp [goodC, h2b])
        have H2b := Lib.hid h2b
        clear h2b
        go_enter Tryz.func33, Tryz.ntmps33
        go_wp2_with fail
        refine wp_region_X C (by kernel_rfl) (by kernel_rfl) hC0 ?_
        refine wpX_val (.int .i64 n) rfl (by intro W hW; obtain ⟨c0, c1, c2, c3, c4, fr⟩ := HBOX.out W hW; go_simp) ?_
        simp only [Act.put, List.setIfInBounds_toArray, List.set_cons_zero, List.set_cons_succ]
        refine wpX_call (.bool true) (f := 30) (args := #[.int .i64 n]) rfl (by intro W hW; obtain ⟨c0, c1, c2, c3, c4, fr⟩ := HBOX.out W hW; go_simp) (fun W hW => (isItems_any n W).mono (by rintro e w' ⟨rfl, rfl⟩; exact ⟨by rw [H1.out], hW⟩)) ?_
        simp only [Act.put, List.setIfInBounds_toArray, List.set_cons_zero, List.set_cons_succ]
        refine wpX_val (.bool false) rfl (by intro W hW; obtain ⟨c0, c1, c2, c3, c4, fr⟩ := HBOX.out W hW; go_simp) ?_
        simp only [Act.put, List.setIfInBounds_toArray, List.set_cons_zero, List.set_cons_succ]
        refine wpX_val (.bool false) rfl (by intro W hW; obtain ⟨c0, c1, c2, c3, c4, fr⟩ := HBOX.out W hW; go_simp) ?_
        simp only [Act.put, List.setIfInBounds_toArray, List.set_cons_zero, List.set_cons_succ]
        refine wpX_val (.pointer (some ⟨w.heap.size, 0, none⟩)) rfl (by intro W hW; obtain ⟨c0, c1, c2, c3, c4, fr⟩ := HBOX.out W hW; go_simp) ?_
        simp only [Act.put, List.setIfInBounds_toArray, List.set_cons_zero, List.set_cons_succ]
        refine wpX_val (.int .i64 p) rfl (by intro W hW; obtain ⟨c0, c1, c2, c3, c4, fr⟩ := HBOX.out W hW; go_simp) ?_
        simp only [Act.put, List.setIfInBounds_toArray, List.set_cons_zero, List.set_cons_succ]
        refine wpX_call (.bool true) (f := 31) (args := #[.int .i64 p]) rfl (by intro W hW; obtain ⟨c0, c1, c2, c3, c4, fr⟩ := HBOX.out W hW; go_simp) (fun W hW => (isPolicy_any p W).mono (by rintro e w' ⟨rfl, rfl⟩; exact ⟨by rw [H2.out], hW⟩)) ?_
        simp only [Act.put, List.setIfInBounds_toArray, List.set_cons_zero, List.set_cons_succ]
        refine wpX_val (.bool false) rfl (by intro W hW; obtain ⟨c0, c1, c2, c3, c4, fr⟩ := HBOX.out W hW; go_simp) ?_
        simp only [Act.put, List.setIfInBounds_toArray, List.set_cons_zero, List.set_cons_succ]
        refine wpX_val (.bool false) rfl (by intro W hW; obtain ⟨c0, c1, c2, c3, c4, fr⟩ := HBOX.out W hW; go_simp) ?_
        simp only [Act.put, List.setIfInBounds_toArray, List.set_cons_zero, List.set_cons_succ]
        refine wpX_val (.bool false) rfl (by intro W hW; obtain ⟨c0, c1, c2, c3, c4, fr⟩ := HBOX.out W hW; go_simp) ?_
        simp only [Act.put, List.setIfInBounds_toArray, List.set_cons_zero, List.set_cons_succ]
        refine wpX_val (.pointer (some ⟨w.heap.size, 1, none⟩)) rfl (by intro W hW; obtain ⟨c0, c1, c2, c3, c4, fr⟩ := HBOX.out W hW; go_simp) ?_
        simp only [Act.put, List.setIfInBounds_toArray, List.set_cons_zero, List.set_cons_succ]
        refine wpX_val (.int .i64 k) rfl (by intro W hW; obtain ⟨c0, c1, c2, c3, c4, fr⟩ := HBOX.out W hW; go_simp) ?_
        simp only [Act.put, List.setIfInBounds_toArray, List.set_cons_zero, List.set_cons_succ]
        refine wpX_call (.bool false) (f := 32) (args := #[.int .i64 k]) rfl (by intro W hW; obtain ⟨c0, c1, c2, c3, c4, fr⟩ := HBOX.out W hW; go_simp) (fun W hW => (isSize_any k W).mono (by rintro e w' ⟨rfl, rfl⟩; exact ⟨by rw [H2b.out], hW⟩)) ?_
        simp only [Act.put, List.setIfInBounds_toArray, List.set_cons_zero, List.set_cons_succ]
        refine wpX_val (.bool true) rfl (by intro W hW; obtain ⟨c0, c1, c2, c3, c4, fr⟩ := HBOX.out W hW; go_simp) ?_
        simp only [Act.put, List.setIfInBounds_toArray, List.set_cons_zero, List.set_cons_succ]
        refine wpX_val (.bool true) rfl (by intro W hW; obtain ⟨c0, c1, c2, c3, c4, fr⟩ := HBOX.out W hW; go_simp) ?_
        simp only [Act.put, List.setIfInBounds_toArray, List.set_cons_zero, List.set_cons_succ]
        refine wpX_val (.bool true) rfl (by intro W hW; obtain ⟨c0, c1, c2, c3, c4, fr⟩ := HBOX.out W hW; go_simp) ?_
        simp only [Act.put, List.setIfInBounds_toArray, List.set_cons_zero, List.set_cons_succ]
        repeat (first | (refine wpX_skip rfl ?_; simp only [Act.put, List.setIfInBounds_toArray, List.set_cons_zero, List.set_cons_succ]) | (refine wpX_val (.bool true) rfl (by intro W hW; go_simp) ?_; simp only [Act.put, List.setIfInBounds_toArray, List.set_cons_zero, List.set_cons_succ]))
        refine wpX_nil (fun W hW => ?_)
        have kW := HCHG.out W hW
        go_wp2_with fail
        go_ret
        exact ⟨_, rfl, by rw [HG.out]; rfl, kW⟩
      · skip
        have H2b := Lib.hid h2b
        clear h2b
        by_cases h3 : k < (ps.length : Int)
        · skip
          have HG : Hid (goodC n ⟨p, k, ps, m, hd⟩ = false) := Lib.hid (by have : ¬ ((ps.length : Int) ≤ k) := (by omega); simp [goodC, this])
          go_enter Tryz.func33, Tryz.ntmps33
          go_wp2_with fail
          refine wp_region_X C (by kernel_rfl) (by kernel_rfl) hC0 ?_
          refine wpX_val (.int .i64 n) rfl (by intro W hW; obtain ⟨c0, c1, c2, c3, c4, fr⟩ := HBOX.out W hW; go_simp) ?_
          simp only [Act.put, List.setIfInBounds_toArray, List.set_cons_zero, List.set_cons_succ]
          refine wpX_call (.bool true) (f := 30) (args := #[.int .i64 n]) rfl (by intro W hW; obtain ⟨c0, c1, c2, c3, c4, fr⟩ := HBOX.out W hW; go_simp) (fun W hW => (isItems_any n W).mono (by rintro e w' ⟨rfl, rfl⟩; exact ⟨by rw [H1.out], hW⟩)) ?_
          simp only [Act.put, List.setIfInBounds_toArray, List.set_cons_zero, List.set_cons_succ]
          refine wpX_val (.bool false) rfl (by intro W hW; obtain ⟨c0, c1, c2, c3, c4, fr⟩ := HBOX.out W hW; go_simp) ?_
          simp only [Act.put, List.setIfInBounds_toArray, List.set_cons_zero, List.set_cons_succ]
          refine wpX_val (.bool false) rfl (by intro W hW; obtain ⟨c0, c1, c2, c3, c4, fr⟩ := HBOX.out W hW; go_simp) ?_
          simp only [Act.put, List.setIfInBounds_toArray, List.set_cons_zero, List.set_cons_succ]
          refine wpX_val (.pointer (some ⟨w.heap.size, 0, none⟩)) rfl (by intro W hW; obtain ⟨c0, c1, c2, c3, c4, fr⟩ := HBOX.out W hW; go_simp) ?_
          simp only [Act.put, List.setIfInBounds_toArray, List.set_cons_zero, List.set_cons_succ]
          refine wpX_val (.int .i64 p) rfl (by intro W hW; obtain ⟨c0, c1, c2, c3, c4, fr⟩ := HBOX.out W hW; go_simp) ?_
          simp only [Act.put, List.setIfInBounds_toArray, List.set_cons_zero, List.set_cons_succ]
          refine wpX_call (.bool true) (f := 31) (args := #[.int .i64 p]) rfl (by intro W hW; obtain ⟨c0, c1, c2, c3, c4, fr⟩ := HBOX.out W hW; go_simp) (fun W hW => (isPolicy_any p W).mono (by rintro e w' ⟨rfl, rfl⟩; exact ⟨by rw [H2.out], hW⟩)) ?_
          simp only [Act.put, List.setIfInBounds_toArray, List.set_cons_zero, List.set_cons_succ]
          refine wpX_val (.bool false) rfl (by intro W hW; obtain ⟨c0, c1, c2, c3, c4, fr⟩ := HBOX.out W hW; go_simp) ?_
          simp only [Act.put, List.setIfInBounds_toArray, List.set_cons_zero, List.set_cons_succ]
          refine wpX_val (.bool false) rfl (by intro W hW; obtain ⟨c0, c1, c2, c3, c4, fr⟩ := HBOX.out W hW; go_simp) ?_
          simp only [Act.put, List.setIfInBounds_toArray, List.set_cons_zero, List.set_cons_succ]
          refine wpX_val (.bool false) rfl (by intro W hW; obtain ⟨c0, c1, c2, c3, c4, fr⟩ := HBOX.out W hW; go_simp) ?_
          simp only [Act.put, List.setIfInBounds_toArray, List.set_cons_zero, List.set_cons_succ]
          refine wpX_val (.pointer (some ⟨w.heap.size, 1, none⟩)) rfl (by intro W hW; obtain ⟨c0, c1, c2, c3, c4, fr⟩ := HBOX.out W hW; go_simp) ?_
          simp only [Act.put, List.setIfInBounds_toArray, List.set_cons_zero, List.set_cons_succ]
          refine wpX_val (.int .i64 k) rfl (by intro W hW; obtain ⟨c0, c1, c2, c3, c4, fr⟩ := HBOX.out W hW; go_simp) ?_
          simp only [Act.put, List.setIfInBounds_toArray, List.set_cons_zero, List.set_cons_succ]
          refine wpX_call (.bool true) (f := 32) (args := #[.int .i64 k]) rfl (by intro W hW; obtain ⟨c0, c1, c2, c3, c4, fr⟩ := HBOX.out W hW; go_simp) (fun W hW => (isSize_any k W).mono (by rintro e w' ⟨rfl, rfl⟩; exact ⟨by rw [H2b.out], hW⟩)) ?_
          simp only [Act.put, List.setIfInBounds_toArray, List.set_cons_zero, List.set_cons_succ]
          refine wpX_val (.bool false) rfl (by intro W hW; obtain ⟨c0, c1, c2, c3, c4, fr⟩ := HBOX.out W hW; go_simp) ?_
          simp only [Act.put, List.setIfInBounds_toArray, List.set_cons_zero, List.set_cons_succ]
          refine wpX_val (.bool false) rfl (by intro W hW; obtain ⟨c0, c1, c2, c3, c4, fr⟩ := HBOX.out W hW; go_simp) ?_
          simp only [Act.put, List.setIfInBounds_toArray, List.set_cons_zero, List.set_cons_succ]
          refine wpX_val (.bool false) rfl (by intro W hW; obtain ⟨c0, c1, c2, c3, c4, fr⟩ := HBOX.out W hW; go_simp) ?_
          simp only [Act.put, List.setIfInBounds_toArray, List.set_cons_zero, List.set_cons_succ]
          refine wpX_val (.pointer (some ⟨w.heap.size, 2, none⟩)) rfl (by intro W hW; obtain ⟨c0, c1, c2, c3, c4, fr⟩ := HBOX.out W hW; go_simp) ?_
          simp only [Act.put, List.setIfInBounds_toArray, List.set_cons_zero, List.set_cons_succ]
          refine wpX_val (.slice pa ps.length pc) rfl (by intro W hW; obtain ⟨c0, c1, c2, c3, c4, fr⟩ := HBOX.out W hW; go_simp) ?_
          simp only [Act.put, List.setIfInBounds_toArray, List.set_cons_zero, List.set_cons_succ]
          refine wpX_val (.int .i64 ps.length) rfl (by intro W hW; obtain ⟨c0, c1, c2, c3, c4, fr⟩ := HBOX.out W hW; go_simp) ?_
          simp only [Act.put, List.setIfInBounds_toArray, List.set_cons_zero, List.set_cons_succ]
          refine wpX_val (.pointer (some ⟨w.heap.size, 1, none⟩)) rfl (by intro W hW; obtain ⟨c0, c1, c2, c3, c4, fr⟩ := HBOX.out W hW; go_simp) ?_
          simp only [Act.put, List.setIfInBounds_toArray, List.set_cons_zero, List.set_cons_succ]
          refine wpX_val (.int .i64 k) rfl (by intro W hW; obtain ⟨c0, c1, c2, c3, c4, fr⟩ := HBOX.out W hW; go_simp) ?_
          simp only [Act.put, List.setIfInBounds_toArray, List.set_cons_zero, List.set_cons_succ]
          refine wpX_val (.bool true) rfl (by intro W hW; obtain ⟨c0, c1, c2, c3, c4, fr⟩ := HBOX.out W hW; go_simp) ?_
          simp only [Act.put, List.setIfInBounds_toArray, List.set_cons_zero, List.set_cons_succ]
          refine wpX_val (.bool true) rfl (by intro W hW; obtain ⟨c0, c1, c2, c3, c4, fr⟩ := HBOX.out W hW; go_simp) ?_
          simp only [Act.put, List.setIfInBounds_toArray, List.set_cons_zero, List.set_cons_succ]
          refine wpX_val (.bool true) rfl (by intro W hW; obtain ⟨c0, c1, c2, c3, c4, fr⟩ := HBOX.out W hW; go_simp) ?_
          simp only [Act.put, List.setIfInBounds_toArray, List.set_cons_zero, List.set_cons_succ]
          repeat (first | (refine wpX_skip rfl ?_; simp only [Act.put, List.setIfInBounds_toArray, List.set_cons_zero, List.set_cons_succ]) | (refine wpX_val (.bool true) rfl (by intro W hW; go_simp) ?_; simp only [Act.put, List.setIfInBounds_toArray, List.set_cons_zero, List.set_cons_succ]))
          refine wpX_nil (fun W hW => ?_)
          have kW := HCHG.out W hW
          go_wp2_with fail
          go_ret
          exact ⟨_, rfl, by rw [HG.out]; rfl, kW⟩
        · skip
          cases h4 : belowB n ps
          · skip
            have HG : Hid (goodC n ⟨p, k, ps, m, hd⟩ = false) := Lib.hid (by simp [goodC, h4])
            have H4 := Lib.hid h4
            clear h4
            go_enter Tryz.func33, Tryz.ntmps33
            go_wp2_with fail
            refine wp_region_X C (by kernel_rfl) (by kernel_rfl) hC0 ?_
            refine wpX_val (.int .i64 n) rfl (by intro W hW; obtain ⟨c0, c1, c2, c3, c4, fr⟩ := HBOX.out W hW; go_simp) ?_
            simp only [Act.put, List.setIfInBounds_toArray, List.set_cons_zero, List.set_cons_succ]
            refine wpX_call (.bool true) (f := 30) (args := #[.int .i64 n]) rfl (by intro W hW; obtain ⟨c0, c1, c2, c3, c4, fr⟩ := HBOX.out W hW; go_simp) (fun W hW => (isItems_any n W).mono (by rintro e w' ⟨rfl, rfl⟩; exact ⟨by rw [H1.out], hW⟩)) ?_
            simp only [Act.put, List.setIfInBounds_toArray, List.set_cons_zero, List.set_cons_succ]
            refine wpX_val (.bool false) rfl (by intro W hW; obtain ⟨c0, c1, c2, c3, c4, fr⟩ := HBOX.out W hW; go_simp) ?_
            simp only [Act.put, List.setIfInBounds_toArray, List.set_cons_zero, List.set_cons_succ]
            refine wpX_val (.bool false) rfl (by intro W hW; obtain ⟨c0, c1, c2, c3, c4, fr⟩ := HBOX.out W hW; go_simp) ?_
            simp only [Act.put, List.setIfInBounds_toArray, List.set_cons_zero, List.set_cons_succ]
            refine wpX_val (.pointer (some ⟨w.heap.size, 0, none⟩)) rfl (by intro W hW; obtain ⟨c0, c1, c2, c3, c4, fr⟩ := HBOX.out W hW; go_simp) ?_
            simp only [Act.put, List.setIfInBounds_toArray, List.set_cons_zero, List.set_cons_succ]
            refine wpX_val (.int .i64 p) rfl (by intro W hW; obtain ⟨c0, c1, c2, c3, c4, fr⟩ := HBOX.out W hW; go_simp) ?_
            simp only [Act.put, List.setIfInBounds_toArray, List.set_cons_zero, List.set_cons_succ]
            refine wpX_call (.bool true) (f := 31) (args := #[.int .i64 p]) rfl (by intro W hW; obtain ⟨c0, c1, c2, c3, c4, fr⟩ := HBOX.out W hW; go_simp) (fun W hW => (isPolicy_any p W).mono (by rintro e w' ⟨rfl, rfl⟩; exact ⟨by rw [H2.out], hW⟩)) ?_
            simp only [Act.put, List.setIfInBounds_toArray, List.set_cons_zero, List.set_cons_succ]
            refine wpX_val (.bool false) rfl (by intro W hW; obtain ⟨c0, c1, c2, c3, c4, fr⟩ := HBOX.out W hW; go_simp) ?_
            simp only [Act.put, List.setIfInBounds_toArray, List.set_cons_zero, List.set_cons_succ]
            refine wpX_val (.bool false) rfl (by intro W hW; obtain ⟨c0, c1, c2, c3, c4, fr⟩ := HBOX.out W hW; go_simp) ?_
            simp only [Act.put, List.setIfInBounds_toArray, List.set_cons_zero, List.set_cons_succ]
            refine wpX_val (.bool false) rfl (by intro W hW; obtain ⟨c0, c1, c2, c3, c4, fr⟩ := HBOX.out W hW; go_simp) ?_
            simp only [Act.put, List.setIfInBounds_toArray, List.set_cons_zero, List.set_cons_succ]
            refine wpX_val (.pointer (some ⟨w.heap.size, 1, none⟩)) rfl (by intro W hW; obtain ⟨c0, c1, c2, c3, c4, fr⟩ := HBOX.out W hW; go_simp) ?_
            simp only [Act.put, List.setIfInBounds_toArray, List.set_cons_zero, List.set_cons_succ]
            refine wpX_val (.int .i64 k) rfl (by intro W hW; obtain ⟨c0, c1, c2, c3, c4, fr⟩ := HBOX.out W hW; go_simp) ?_
            simp only [Act.put, List.setIfInBounds_toArray, List.set_cons_zero, List.set_cons_succ]
            refine wpX_call (.bool true) (f := 32) (args := #[.int .i64 k]) rfl (by intro W hW; obtain ⟨c0, c1, c2, c3, c4, fr⟩ := HBOX.out W hW; go_simp) (fun W hW => (isSize_any k W).mono (by rintro e w' ⟨rfl, rfl⟩; exact ⟨by rw [H2b.out], hW⟩)) ?_
            simp only [Act.put, List.setIfInBounds_toArray, List.set_cons_zero, List.set_cons_succ]
            refine wpX_val (.bool false) rfl (by intro W hW; obtain ⟨c0, c1, c2, c3, c4, fr⟩ := HBOX.out W hW; go_simp) ?_
            simp only [Act.put, List.setIfInBounds_toArray, List.set_cons_zero, List.set_cons_succ]
            refine wpX_val (.bool false) rfl (by intro W hW; obtain ⟨c0, c1, c2, c3, c4, fr⟩ := HBOX.out W hW; go_simp) ?_
            simp only [Act.put, List.setIfInBounds_toArray, List.set_cons_zero, List.set_cons_succ]
            refine wpX_val (.bool false) rfl (by intro W hW; obtain ⟨c0, c1, c2, c3, c4, fr⟩ := HBOX.out W hW; go_simp) ?_
            simp only [Act.put, List.setIfInBounds_toArray, List.set_cons_zero, List.set_cons_succ]
            refine wpX_val (.pointer (some ⟨w.heap.size, 2, none⟩)) rfl (by intro W hW; obtain ⟨c0, c1, c2, c3, c4, fr⟩ := HBOX.out W hW; go_simp) ?_
            simp only [Act.put, List.setIfInBounds_toArray, List.set_cons_zero, List.set_cons_succ]
            refine wpX_val (.slice pa ps.length pc) rfl (by intro W hW; obtain ⟨c0, c1, c2, c3, c4, fr⟩ := HBOX.out W hW; go_simp) ?_
            simp only [Act.put, List.setIfInBounds_toArray, List.set_cons_zero, List.set_cons_succ]
            refine wpX_val (.int .i64 ps.length) rfl (by intro W hW; obtain ⟨c0, c1, c2, c3, c4, fr⟩ := HBOX.out W hW; go_simp) ?_
            simp only [Act.put, List.setIfInBounds_toArray, List.set_cons_zero, List.set_cons_succ]
            refine wpX_val (.pointer (some ⟨w.heap.size, 1, none⟩)) rfl (by intro W hW; obtain ⟨c0, c1, c2, c3, c4, fr⟩ := HBOX.out W hW; go_simp) ?_
            simp only [Act.put, List.setIfInBounds_toArray, List.set_cons_zero, List.set_cons_succ]
            refine wpX_val (.int .i64 k) rfl (by intro W hW; obtain ⟨c0, c1, c2, c3, c4, fr⟩ := HBOX.out W hW; go_simp) ?_
            simp only [Act.put, List.setIfInBounds_toArray, List.set_cons_zero, List.set_cons_succ]
            refine wpX_val (.bool false) rfl (by intro W hW; obtain ⟨c0, c1, c2, c3, c4, fr⟩ := HBOX.out W hW; go_simp) ?_
            simp only [Act.put, List.setIfInBounds_toArray, List.set_cons_zero, List.set_cons_succ]
            refine wpX_val (.bool false) rfl (by intro W hW; obtain ⟨c0, c1, c2, c3, c4, fr⟩ := HBOX.out W hW; go_simp) ?_
            simp only [Act.put, List.setIfInBounds_toArray, List.set_cons_zero, List.set_cons_succ]
            refine wpX_val (.bool false) rfl (by intro W hW; obtain ⟨c0, c1, c2, c3, c4, fr⟩ := HBOX.out W hW; go_simp) ?_
            simp only [Act.put, List.setIfInBounds_toArray, List.set_cons_zero, List.set_cons_succ]
            refine wpX_val (.int .i64 n) rfl (by intro W hW; obtain ⟨c0, c1, c2, c3, c4, fr⟩ := HBOX.out W hW; go_simp) ?_
            simp only [Act.put, List.setIfInBounds_toArray, List.set_cons_zero, List.set_cons_succ]
            refine wpX_val (.pointer (some ⟨w.heap.size, 2, none⟩)) rfl (by intro W hW; obtain ⟨c0, c1, c2, c3, c4, fr⟩ := HBOX.out W hW; go_simp) ?_
            simp only [Act.put, List.setIfInBounds_toArray, List.set_cons_zero, List.set_cons_succ]
            refine wpX_val (.slice pa ps.length pc) rfl (by intro W hW; obtain ⟨c0, c1, c2, c3, c4, fr⟩ := HBOX.out W hW; go_simp) ?_
            simp only [Act.put, List.setIfInBounds_toArray, List.set_cons_zero, List.set_cons_succ]
            refine wpX_call (.bool false) (f := 44) (args := #[.int .i64 n, .slice pa ps.length pc]) rfl (by intro W hW; obtain ⟨c0, c1, c2, c3, c4, fr⟩ := HBOX.out W hW; go_simp) (fun W hW => (areBelow_any A _ ps n W (hp.keep (HCHG.out W hW)) hn1 hn2).mono (by rintro e w' ⟨_, rfl, rfl, hk⟩; exact ⟨by rw [H4.out], HK.out _ _ hW hk⟩)) ?_
            simp only [Act.put, List.setIfInBounds_toArray, List.set_cons_zero, List.set_cons_succ]
            refine wpX_val (.bool true) rfl (by intro W hW; obtain ⟨c0, c1, c2, c3, c4, fr⟩ := HBOX.out W hW; go_simp) ?_
            simp only [Act.put, List.setIfInBounds_toArray, List.set_cons_zero, List.set_cons_succ]
            refine wpX_val (.bool true) rfl (by intro W hW; obtain ⟨c0, c1, c2, c3, c4, fr⟩ := HBOX.out W hW; go_simp) ?_
            simp only [Act.put, List.setIfInBounds_toArray, List.set_cons_zero, List.set_cons_succ]
            refine wpX_val (.bool true) rfl (by intro W hW; obtain ⟨c0, c1, c2, c3, c4, fr⟩ := HBOX.out W hW; go_simp) ?_
            simp only [Act.put, List.setIfInBounds_toArray, List.set_cons_zero, List.set_cons_succ]
            repeat (first | (refine wpX_skip rfl ?_; simp only [Act.put, List.setIfInBounds_toArray, List.set_cons_zero, List.set_cons_succ]) | (refine wpX_val (.bool true) rfl (by intro W hW; go_simp) ?_; simp only [Act.put, List.setIfInBounds_toArray, List.set_cons_zero, List.set_cons_succ]))
            refine wpX_nil (fun W hW => ?_)
            have kW := HCHG.out W hW
            go_wp2_with fail
            go_ret
            exact ⟨_, rfl, by rw [HG.out]; rfl, kW⟩
          · skip
            have H4 := Lib.hid h4
            clear h4
            by_cases h5 : (diffL ps).length = ps.length
            rotate_left
            · skip
              have HG : Hid (goodC n ⟨p, k, ps, m, hd⟩ = false) := Lib.hid (by simp [goodC, h5])
              have h5e : ¬ (((diffL ps).length : Nat) : Int) = (ps.length : Int) := by omega
              clear h5
              go_enter Tryz.func33, Tryz.ntmps33
              go_wp2_with fail
              refine wp_region_X C (by kernel_rfl) (by kernel_rfl) hC0 ?_
              refine wpX_val (.int .i64 n) rfl (by intro W hW; obtain ⟨c0, c1, c2, c3, c4, fr⟩ := HBOX.out W hW; go_simp) ?_
              simp only [Act.put, List.setIfInBounds_toArray, List.set_cons_zero, List.set_cons_succ]
              refine wpX_call (.bool true) (f := 30) (args := #[.int .i64 n]) rfl (by intro W hW; obtain ⟨c0, c1, c2, c3, c4, fr⟩ := HBOX.out W hW; go_simp) (fun W hW => (isItems_any n W).mono (by rintro e w' ⟨rfl, rfl⟩; exact ⟨by rw [H1.out], hW⟩)) ?_
              simp only [Act.put, List.setIfInBounds_toArray, List.set_cons_zero, List.set_cons_succ]
              refine wpX_val (.bool false) rfl (by intro W hW; obtain ⟨c0, c1, c2, c3, c4, fr⟩ := HBOX.out W hW; go_simp) ?_
              simp only [Act.put, List.setIfInBounds_toArray, List.set_cons_zero, List.set_cons_succ]
              refine wpX_val (.bool false) rfl (by intro W hW; obtain ⟨c0, c1, c2, c3, c4, fr⟩ := HBOX.out W hW; go_simp) ?_
              simp only [Act.put, List.setIfInBounds_toArray, List.set_cons_zero, List.set_cons_succ]
              refine wpX_val (.pointer (some ⟨w.heap.size, 0, none⟩)) rfl (by intro W hW; obtain ⟨c0, c1, c2, c3, c4, fr⟩ := HBOX.out W hW; go_simp) ?_
              simp only [Act.put, List.setIfInBounds_toArray, List.set_cons_zero, List.set_cons_succ]
              refine wpX_val (.int .i64 p) rfl (by intro W hW; obtain ⟨c0, c1, c2, c3, c4, fr⟩ := HBOX.out W hW; go_simp) ?_
              simp only [Act.put, List.setIfInBounds_toArray, List.set_cons_zero, List.set_cons_succ]
              refine wpX_call (.bool true) (f := 31) (args := #[.int .i64 p]) rfl (by intro W hW; obtain ⟨c0, c1, c2, c3, c4, fr⟩ := HBOX.out W hW; go_simp) (fun W hW => (isPolicy_any p W).mono (by rintro e w' ⟨rfl, rfl⟩; exact ⟨by rw [H2.out], hW⟩)) ?_
              simp only [Act.put, List.setIfInBounds_toArray, List.set_cons_zero, List.set_cons_succ]
              refine wpX_val (.bool false) rfl (by intro W hW; obtain ⟨c0, c1, c2, c3, c4, fr⟩ := HBOX.out W hW; go_simp) ?_
              simp only [Act.put, List.setIfInBounds_toArray, List.set_cons_zero, List.set_cons_succ]
              refine wpX_val (.bool false) rfl (by intro W hW; obtain ⟨c0, c1, c2, c3, c4, fr⟩ := HBOX.out W hW; go_simp) ?_
              simp only [Act.put, List.setIfInBounds_toArray, List.set_cons_zero, List.set_cons_succ]
              refine wpX_val (.bool false) rfl (by intro W hW; obtain ⟨c0, c1, c2, c3, c4, fr⟩ := HBOX.out W hW; go_simp) ?_
              simp only [Act.put, List.setIfInBounds_toArray, List.set_cons_zero, List.set_cons_succ]
              refine wpX_val (.pointer (some ⟨w.heap.size, 1, none⟩)) rfl (by intro W hW; obtain ⟨c0, c1, c2, c3, c4, fr⟩ := HBOX.out W hW; go_simp) ?_
              simp only [Act.put, List.setIfInBounds_toArray, List.set_cons_zero, List.set_cons_succ]
              refine wpX_val (.int .i64 k) rfl (by intro W hW; obtain ⟨c0, c1, c2, c3, c4, fr⟩ := HBOX.out W hW; go_simp) ?_
              simp only [Act.put, List.setIfInBounds_toArray, List.set_cons_zero, List.set_cons_succ]
              refine wpX_call (.bool true) (f := 32) (args := #[.int .i64 k]) rfl (by intro W hW; obtain ⟨c0, c1, c2, c3, c4, fr⟩ := HBOX.out W hW; go_simp) (fun W hW => (isSize_any k W).mono (by rintro e w' ⟨rfl, rfl⟩; exact ⟨by rw [H2b.out], hW⟩)) ?_
              simp only [Act.put, List.setIfInBounds_toArray, List.set_cons_zero, List.set_cons_succ]
              refine wpX_val (.bool false) rfl (by intro W hW; obtain ⟨c0, c1, c2, c3, c4, fr⟩ := HBOX.out W hW; go_simp) ?_
              simp only [Act.put, List.setIfInBounds_toArray, List.set_cons_zero, List.set_cons_succ]
              refine wpX_val (.bool false) rfl (by intro W hW; obtain ⟨c0, c1, c2, c3, c4, fr⟩ := HBOX.out W hW; go_simp) ?_
              simp only [Act.put, List.setIfInBounds_toArray, List.set_cons_zero, List.set_cons_succ]
              refine wpX_val (.bool false) rfl (by intro W hW; obtain ⟨c0, c1, c2, c3, c4, fr⟩ := HBOX.out W hW; go_simp) ?_
              simp only [Act.put, List.setIfInBounds_toArray, List.set_cons_zero, List.set_cons_succ]
              refine wpX_val (.pointer (some ⟨w.heap.size, 2, none⟩)) rfl (by intro W hW; obtain ⟨c0, c1, c2, c3, c4, fr⟩ := HBOX.out W hW; go_simp) ?_
              simp only [Act.put, List.setIfInBounds_toArray, List.set_cons_zero, List.set_cons_succ]
              refine wpX_val (.slice pa ps.length pc) rfl (by intro W hW; obtain ⟨c0, c1, c2, c3, c4, fr⟩ := HBOX.out W hW; go_simp) ?_
              simp only [Act.put, List.setIfInBounds_toArray, List.set_cons_zero, List.set_cons_succ]
              refine wpX_val (.int .i64 ps.length) rfl (by intro W hW; obtain ⟨c0, c1, c2, c3, c4, fr⟩ := HBOX.out W hW; go_simp) ?_
              simp only [Act.put, List.setIfInBounds_toArray, List.set_cons_zero, List.set_cons_succ]
              refine wpX_val (.pointer (some ⟨w.heap.size, 1, none⟩)) rfl (by intro W hW; obtain ⟨c0, c1, c2, c3, c4, fr⟩ := HBOX.out W hW; go_simp) ?_
              simp only [Act.put, List.setIfInBounds_toArray, List.set_cons_zero, List.set_cons_succ]
              refine wpX_val (.int .i64 k) rfl (by intro W hW; obtain ⟨c0, c1, c2, c3, c4, fr⟩ := HBOX.out W hW; go_simp) ?_
              simp only [Act.put, List.setIfInBounds_toArray, List.set_cons_zero, List.set_cons_succ]
              refine wpX_val (.bool false) rfl (by intro W hW; obtain ⟨c0, c1, c2, c3, c4, fr⟩ := HBOX.out W hW; go_simp) ?_
              simp only [Act.put, List.setIfInBounds_toArray, List.set_cons_zero, List.set_cons_succ]
              refine wpX_val (.bool false) rfl (by intro W hW; obtain ⟨c0, c1, c2, c3, c4, fr⟩ := HBOX.out W hW; go_simp) ?_
              simp only [Act.put, List.setIfInBounds_toArray, List.set_cons_zero, List.set_cons_succ]
              refine wpX_val (.bool false) rfl (by intro W hW; obtain ⟨c0, c1, c2, c3, c4, fr⟩ := HBOX.out W hW; go_simp) ?_
              simp only [Act.put, List.setIfInBounds_toArray, List.set_cons_zero, List.set_cons_succ]
              refine wpX_val (.int .i64 n) rfl (by intro W hW; obtain ⟨c0, c1, c2, c3, c4, fr⟩ := HBOX.out W hW; go_simp) ?_
              simp only [Act.put, List.setIfInBounds_toArray, List.set_cons_zero, List.set_cons_succ]
              refine wpX_val (.pointer (some ⟨w.heap.size, 2, none⟩)) rfl (by intro W hW; obtain ⟨c0, c1, c2, c3, c4, fr⟩ := HBOX.out W hW; go_simp) ?_
              simp only [Act.put, List.setIfInBounds_toArray, List.set_cons_zero, List.set_cons_succ]
              refine wpX_val (.slice pa ps.length pc) rfl (by intro W hW; obtain ⟨c0, c1, c2, c3, c4, fr⟩ := HBOX.out W hW; go_simp) ?_
              simp only [Act.put, List.setIfInBounds_toArray, List.set_cons_zero, List.set_cons_succ]
              refine wpX_call (.bool true) (f := 44) (args := #[.int .i64 n, .slice pa ps.length pc]) rfl (by intro W hW; obtain ⟨c0, c1, c2, c3, c4, fr⟩ := HBOX.out W hW; go_simp) (fun W hW => (areBelow_any A _ ps n W (hp.keep (HCHG.out W hW)) hn1 hn2).mono (by rintro e w' ⟨_, rfl, rfl, hk⟩; exact ⟨by rw [H4.out], HK.out _ _ hW hk⟩)) ?_
              simp only [Act.put, List.setIfInBounds_toArray, List.set_cons_zero, List.set_cons_succ]
              refine wpX_val (.bool false) rfl (by intro W hW; obtain ⟨c0, c1, c2, c3, c4, fr⟩ := HBOX.out W hW; go_simp) ?_
              simp only [Act.put, List.setIfInBounds_toArray, List.set_cons_zero, List.set_cons_succ]
              refine wpX_val (.bool false) rfl (by intro W hW; obtain ⟨c0, c1, c2, c3, c4, fr⟩ := HBOX.out W hW; go_simp) ?_
              simp only [Act.put, List.setIfInBounds_toArray, List.set_cons_zero, List.set_cons_succ]
              refine wpX_val (.bool false) rfl (by intro W hW; obtain ⟨c0, c1, c2, c3, c4, fr⟩ := HBOX.out W hW; go_simp) ?_
              simp only [Act.put, List.setIfInBounds_toArray, List.set_cons_zero, List.set_cons_succ]
              refine wpX_val (.pointer (some ⟨w.heap.size, 2, none⟩)) rfl (by intro W hW; obtain ⟨c0, c1, c2, c3, c4, fr⟩ := HBOX.out W hW; go_simp) ?_
              simp only [Act.put, List.setIfInBounds_toArray, List.set_cons_zero, List.set_cons_succ]
              refine wpX_val (.slice pa ps.length pc) rfl (by intro W hW; obtain ⟨c0, c1, c2, c3, c4, fr⟩ := HBOX.out W hW; go_simp) ?_
              simp only [Act.put, List.setIfInBounds_toArray, List.set_cons_zero, List.set_cons_succ]
              refine wpX_calls (fun x => ∃ a q, x = .slice a (diffL ps).length q) (f := 56) (args := #[.slice pa ps.length pc]) rfl ⟨.slice none (diffL ps).length 0, none, 0, rfl⟩ (by intro W hW; obtain ⟨c0, c1, c2, c3, c4, fr⟩ := HBOX.out W hW; go_simp) (fun W hW => (rising_any A _ ps W (hp.keep (HCHG.out W hW))).mono (by rintro e w' ⟨r, rfl, o, hk⟩; obtain ⟨a, q, e, _⟩ := o.view; exact ⟨r, rfl, ⟨a, q, e⟩, HK.out _ _ hW hk⟩)) ?_
              simp only [Act.put, List.setIfInBounds_toArray, List.set_cons_zero, List.set_cons_succ]
              refine wpF_val (.int .i64 (diffL ps).length) (fun x hx => by (obtain ⟨a5, q5, rfl⟩ := hx); rfl) (by rintro _ ⟨a5, q5, rfl⟩ W hW; obtain ⟨c0, c1, c2, c3, c4, fr⟩ := HBOX.out W hW; go_simp) ?_
              simp only [Act.put, List.setIfInBounds_toArray, List.set_cons_zero, List.set_cons_succ]
              refine wpF_val (.pointer (some ⟨w.heap.size, 2, none⟩)) (fun x hx => by (obtain ⟨a5, q5, rfl⟩ := hx); rfl) (by rintro _ ⟨a5, q5, rfl⟩ W hW; obtain ⟨c0, c1, c2, c3, c4, fr⟩ := HBOX.out W hW; go_simp) ?_
              simp only [Act.put, List.setIfInBounds_toArray, List.set_cons_zero, List.set_cons_succ]
              refine wpF_val (.slice pa ps.length pc) (fun x hx => by (obtain ⟨a5, q5, rfl⟩ := hx); rfl) (by rintro _ ⟨a5, q5, rfl⟩ W hW; obtain ⟨c0, c1, c2, c3, c4, fr⟩ := HBOX.out W hW; go_simp) ?_
              simp only [Act.put, List.setIfInBounds_toArray, List.set_cons_zero, List.set_cons_succ]
              refine wpF_val (.int .i64 ps.length) (fun x hx => by (obtain ⟨a5, q5, rfl⟩ := hx); rfl) (by rintro _ ⟨a5, q5, rfl⟩ W hW; obtain ⟨c0, c1, c2, c3, c4, fr⟩ := HBOX.out W hW; go_simp) ?_
              simp only [Act.put, List.setIfInBounds_toArray, List.set_cons_zero, List.set_cons_succ]
              refine wpF_val (.bool true) (fun x hx => by (obtain ⟨a5, q5, rfl⟩ := hx); rfl) (by rintro _ ⟨a5, q5, rfl⟩ W hW; obtain ⟨c0, c1, c2, c3, c4, fr⟩ := HBOX.out W hW; go_simp) ?_
              simp only [Act.put, List.setIfInBounds_toArray, List.set_cons_zero, List.set_cons_succ]
              refine wpF_val (.bool true) (fun x hx => by (obtain ⟨a5, q5, rfl⟩ := hx); rfl) (by rintro _ ⟨a5, q5, rfl⟩ W hW; obtain ⟨c0, c1, c2, c3, c4, fr⟩ := HBOX.out W hW; go_simp) ?_
              simp only [Act.put, List.setIfInBounds_toArray, List.set_cons_zero, List.set_cons_succ]
              refine wpF_val (.bool true) (fun x hx => by (obtain ⟨a5, q5, rfl⟩ := hx); rfl) (by rintro _ ⟨a5, q5, rfl⟩ W hW; obtain ⟨c0, c1, c2, c3, c4, fr⟩ := HBOX.out W hW; go_simp) ?_
              simp only [Act.put, List.setIfInBounds_toArray, List.set_cons_zero, List.set_cons_succ]
              repeat (first | (refine wpF_skip (fun x hx => by (obtain ⟨a5, q5, rfl⟩ := hx); rfl) ?_; simp only [Act.put, List.setIfInBounds_toArray, List.set_cons_zero, List.set_cons_succ]) | (refine wpF_val (.bool true) (fun x hx => by (obtain ⟨a5, q5, rfl⟩ := hx); rfl) (by rintro _ ⟨a5, q5, rfl⟩ W hW; go_simp) ?_; simp only [Act.put, List.setIfInBounds_toArray, List.set_cons_zero, List.set_cons_succ]))
              refine wpF_nil ?_
              rintro _ ⟨a5, q5, rfl⟩ W hW
              have kW := HCHG.out W hW
              go_wp2_with fail
              go_ret
              exact ⟨_, rfl, by rw [HG.out]; rfl, kW⟩
            · skip
              have h5e : (((diffL ps).length : Nat) : Int) = (ps.length : Int) := by omega
              have H5 := Lib.hid h5
              clear h5
              cases h6 : marksB ⟨p, k, ps, m, hd⟩
              · skip
                have HG : Hid (goodC n ⟨p, k, ps, m, hd⟩ = false) := Lib.hid (by simp [goodC, h6])
                have H6 := Lib.hid h6
                clear h6
                go_enter Tryz.func33, Tryz.ntmps33
                go_wp2_with fail
                refine wp_region_X C (by kernel_rfl) (by kernel_rfl) hC0 ?_
                refine wpX_val (.int .i64 n) rfl (by intro W hW; obtain ⟨c0, c1, c2, c3, c4, fr⟩ := HBOX.out W hW; go_simp) ?_
                simp only [Act.put, List.setIfInBounds_toArray, List.set_cons_zero, List.set_cons_succ]
                refine wpX_call (.bool true) (f := 30) (args := #[.int .i64 n]) rfl (by intro W hW; obtain ⟨c0, c1, c2, c3, c4, fr⟩ := HBOX.out W hW; go_simp) (fun W hW => (isItems_any n W).mono (by rintro e w' ⟨rfl, rfl⟩; exact ⟨by rw [H1.out], hW⟩)) ?_
                simp only [Act.put, List.setIfInBounds_toArray, List.set_cons_zero, List.set_cons_succ]
                refine wpX_val (.bool false) rfl (by intro W hW; obtain ⟨c0, c1, c2, c3, c4, fr⟩ := HBOX.out W hW; go_simp) ?_
                simp only [Act.put, List.setIfInBounds_toArray, List.set_cons_zero, List.set_cons_succ]
                refine wpX_val (.bool false) rfl (by intro W hW; obtain ⟨c0, c1, c2, c3, c4, fr⟩ := HBOX.out W hW; go_simp) ?_
                simp only [Act.put, List.setIfInBounds_toArray, List.set_cons_zero, List.set_cons_succ]
                refine wpX_val (.pointer (some ⟨w.heap.size, 0, none⟩)) rfl (by intro W hW; obtain ⟨c0, c1, c2, c3, c4, fr⟩ := HBOX.out W hW; go_simp) ?_
                simp only [Act.put, List.setIfInBounds_toArray, List.set_cons_zero, List.set_cons_succ]
                refine wpX_val (.int .i64 p) rfl (by intro W hW; obtain ⟨c0, c1, c2, c3, c4, fr⟩ := HBOX.out W hW; go_simp) ?_
                simp only [Act.put, List.setIfInBounds_toArray, List.set_cons_zero, List.set_cons_succ]
                refine wpX_call (.bool true) (f := 31) (args := #[.int .i64 p]) rfl (by intro W hW; obtain ⟨c0, c1, c2, c3, c4, fr⟩ := HBOX.out W hW; go_simp) (fun W hW => (isPolicy_any p W).mono (by rintro e w' ⟨rfl, rfl⟩; exact ⟨by rw [H2.out], hW⟩)) ?_
                simp only [Act.put, List.setIfInBounds_toArray, List.set_cons_zero, List.set_cons_succ]
                refine wpX_val (.bool false) rfl (by intro W hW; obtain ⟨c0, c1, c2, c3, c4, fr⟩ := HBOX.out W hW; go_simp) ?_
                simp only [Act.put, List.setIfInBounds_toArray, List.set_cons_zero, List.set_cons_succ]
                refine wpX_val (.bool false) rfl (by intro W hW; obtain ⟨c0, c1, c2, c3, c4, fr⟩ := HBOX.out W hW; go_simp) ?_
                simp only [Act.put, List.setIfInBounds_toArray, List.set_cons_zero, List.set_cons_succ]
                refine wpX_val (.bool false) rfl (by intro W hW; obtain ⟨c0, c1, c2, c3, c4, fr⟩ := HBOX.out W hW; go_simp) ?_
                simp only [Act.put, List.setIfInBounds_toArray, List.set_cons_zero, List.set_cons_succ]
                refine wpX_val (.pointer (some ⟨w.heap.size, 1, none⟩)) rfl (by intro W hW; obtain ⟨c0, c1, c2, c3, c4, fr⟩ := HBOX.out W hW; go_simp) ?_
                simp only [Act.put, List.setIfInBounds_toArray, List.set_cons_zero, List.set_cons_succ]
                refine wpX_val (.int .i64 k) rfl (by intro W hW; obtain ⟨c0, c1, c2, c3, c4, fr⟩ := HBOX.out W hW; go_simp) ?_
                simp only [Act.put, List.setIfInBounds_toArray, List.set_cons_zero, List.set_cons_succ]
                refine wpX_call (.bool true) (f := 32) (args := #[.int .i64 k]) rfl (by intro W hW; obtain ⟨c0, c1, c2, c3, c4, fr⟩ := HBOX.out W hW; go_simp) (fun W hW => (isSize_any k W).mono (by rintro e w' ⟨rfl, rfl⟩; exact ⟨by rw [H2b.out], hW⟩)) ?_
                simp only [Act.put, List.setIfInBounds_toArray, List.set_cons_zero, List.set_cons_succ]
                refine wpX_val (.bool false) rfl (by intro W hW; obtain ⟨c0, c1, c2, c3, c4, fr⟩ := HBOX.out W hW; go_simp) ?_
                simp only [Act.put, List.setIfInBounds_toArray, List.set_cons_zero, List.set_cons_succ]
                refine wpX_val (.bool false) rfl (by intro W hW; obtain ⟨c0, c1, c2, c3, c4, fr⟩ := HBOX.out W hW; go_simp) ?_
                simp only [Act.put, List.setIfInBounds_toArray, List.set_cons_zero, List.set_cons_succ]
                refine wpX_val (.bool false) rfl (by intro W hW; obtain ⟨c0, c1, c2, c3, c4, fr⟩ := HBOX.out W hW; go_simp) ?_
                simp only [Act.put, List.setIfInBounds_toArray, List.set_cons_zero, List.set_cons_succ]
                refine wpX_val (.pointer (some ⟨w.heap.size, 2, none⟩)) rfl (by intro W hW; obtain ⟨c0, c1, c2, c3, c4, fr⟩ := HBOX.out W hW; go_simp) ?_
                simp only [Act.put, List.setIfInBounds_toArray, List.set_cons_zero, List.set_cons_succ]
                refine wpX_val (.slice pa ps.length pc) rfl (by intro W hW; obtain ⟨c0, c1, c2, c3, c4, fr⟩ := HBOX.out W hW; go_simp) ?_
                simp only [Act.put, List.setIfInBounds_toArray, List.set_cons_zero, List.set_cons_succ]
                refine wpX_val (.int .i64 ps.length) rfl (by intro W hW; obtain ⟨c0, c1, c2, c3, c4, fr⟩ := HBOX.out W hW; go_simp) ?_
                simp only [Act.put, List.setIfInBounds_toArray, List.set_cons_zero, List.set_cons_succ]
                refine wpX_val (.pointer (some ⟨w.heap.size, 1, none⟩)) rfl (by intro W hW; obtain ⟨c0, c1, c2, c3, c4, fr⟩ := HBOX.out W hW; go_simp) ?_
                simp only [Act.put, List.setIfInBounds_toArray, List.set_cons_zero, List.set_cons_succ]
                refine wpX_val (.int .i64 k) rfl (by intro W hW; obtain ⟨c0, c1, c2, c3, c4, fr⟩ := HBOX.out W hW; go_simp) ?_
                simp only [Act.put, List.setIfInBounds_toArray, List.set_cons_zero, List.set_cons_succ]
                refine wpX_val (.bool false) rfl (by intro W hW; obtain ⟨c0, c1, c2, c3, c4, fr⟩ := HBOX.out W hW; go_simp) ?_
                simp only [Act.put, List.setIfInBounds_toArray, List.set_cons_zero, List.set_cons_succ]
                refine wpX_val (.bool false) rfl (by intro W hW; obtain ⟨c0, c1, c2, c3, c4, fr⟩ := HBOX.out W hW; go_simp) ?_
                simp only [Act.put, List.setIfInBounds_toArray, List.set_cons_zero, List.set_cons_succ]
                refine wpX_val (.bool false) rfl (by intro W hW; obtain ⟨c0, c1, c2, c3, c4, fr⟩ := HBOX.out W hW; go_simp) ?_
                simp only [Act.put, List.setIfInBounds_toArray, List.set_cons_zero, List.set_cons_succ]
                refine wpX_val (.int .i64 n) rfl (by intro W hW; obtain ⟨c0, c1, c2, c3, c4, fr⟩ := HBOX.out W hW; go_simp) ?_
                simp only [Act.put, List.setIfInBounds_toArray, List.set_cons_zero, List.set_cons_succ]
                refine wpX_val (.pointer (some ⟨w.heap.size, 2, none⟩)) rfl (by intro W hW; obtain ⟨c0, c1, c2, c3, c4, fr⟩ := HBOX.out W hW; go_simp) ?_
                simp only [Act.put, List.setIfInBounds_toArray, List.set_cons_zero, List.set_cons_succ]
                refine wpX_val (.slice pa ps.length pc) rfl (by intro W hW; obtain ⟨c0, c1, c2, c3, c4, fr⟩ := HBOX.out W hW; go_simp) ?_
                simp only [Act.put, List.setIfInBounds_toArray, List.set_cons_zero, List.set_cons_succ]
                refine wpX_call (.bool true) (f := 44) (args := #[.int .i64 n, .slice pa ps.length pc]) rfl (by intro W hW; obtain ⟨c0, c1, c2, c3, c4, fr⟩ := HBOX.out W hW; go_simp) (fun W hW => (areBelow_any A _ ps n W (hp.keep (HCHG.out W hW)) hn1 hn2).mono (by rintro e w' ⟨_, rfl, rfl, hk⟩; exact ⟨by rw [H4.out], HK.out _ _ hW hk⟩)) ?_
                simp only [Act.put, List.setIfInBounds_toArray, List.set_cons_zero, List.set_cons_succ]
                refine wpX_val (.bool false) rfl (by intro W hW; obtain ⟨c0, c1, c2, c3, c4, fr⟩ := HBOX.out W hW; go_simp) ?_
                simp only [Act.put, List.setIfInBounds_toArray, List.set_cons_zero, List.set_cons_succ]
                refine wpX_val (.bool false) rfl (by intro W hW; obtain ⟨c0, c1, c2, c3, c4, fr⟩ := HBOX.out W hW; go_simp) ?_
                simp only [Act.put, List.setIfInBounds_toArray, List.set_cons_zero, List.set_cons_succ]
                refine wpX_val (.bool false) rfl (by intro W hW; obtain ⟨c0, c1, c2, c3, c4, fr⟩ := HBOX.out W hW; go_simp) ?_
                simp only [Act.put, List.setIfInBounds_toArray, List.set_cons_zero, List.set_cons_succ]
                refine wpX_val (.pointer (some ⟨w.heap.size, 2, none⟩)) rfl (by intro W hW; obtain ⟨c0, c1, c2, c3, c4, fr⟩ := HBOX.out W hW; go_simp) ?_
                simp only [Act.put, List.setIfInBounds_toArray, List.set_cons_zero, List.set_cons_succ]
                refine wpX_val (.slice pa ps.length pc) rfl (by intro W hW; obtain ⟨c0, c1, c2, c3, c4, fr⟩ := HBOX.out W hW; go_simp) ?_
                simp only [Act.put, List.setIfInBounds_toArray, List.set_cons_zero, List.set_cons_succ]
                refine wpX_calls (fun x => ∃ a q, x = .slice a (diffL ps).length q) (f := 56) (args := #[.slice pa ps.length pc]) rfl ⟨.slice none (diffL ps).length 0, none, 0, rfl⟩ (by intro W hW; obtain ⟨c0, c1, c2, c3, c4, fr⟩ := HBOX.out W hW; go_simp) (fun W hW => (rising_any A _ ps W (hp.keep (HCHG.out W hW))).mono (by rintro e w' ⟨r, rfl, o, hk⟩; obtain ⟨a, q, e, _⟩ := o.view; exact ⟨r, rfl, ⟨a, q, e⟩, HK.out _ _ hW hk⟩)) ?_
                simp only [Act.put, List.setIfInBounds_toArray, List.set_cons_zero, List.set_cons_succ]
                refine wpF_val (.int .i64 (diffL ps).length) (fun x hx => by (obtain ⟨a5, q5, rfl⟩ := hx); rfl) (by rintro _ ⟨a5, q5, rfl⟩ W hW; obtain ⟨c0, c1, c2, c3, c4, fr⟩ := HBOX.out W hW; go_simp) ?_
                simp only [Act.put, List.setIfInBounds_toArray, List.set_cons_zero, List.set_cons_succ]
                refine wpF_val (.pointer (some ⟨w.heap.size, 2, none⟩)) (fun x hx => by (obtain ⟨a5, q5, rfl⟩ := hx); rfl) (by rintro _ ⟨a5, q5, rfl⟩ W hW; obtain ⟨c0, c1, c2, c3, c4, fr⟩ := HBOX.out W hW; go_simp) ?_
                simp only [Act.put, List.setIfInBounds_toArray, List.set_cons_zero, List.set_cons_succ]
                refine wpF_val (.slice pa ps.length pc) (fun x hx => by (obtain ⟨a5, q5, rfl⟩ := hx); rfl) (by rintro _ ⟨a5, q5, rfl⟩ W hW; obtain ⟨c0, c1, c2, c3, c4, fr⟩ := HBOX.out W hW; go_simp) ?_
                simp only [Act.put, List.setIfInBounds_toArray, List.set_cons_zero, List.set_cons_succ]
                refine wpF_val (.int .i64 ps.length) (fun x hx => by (obtain ⟨a5, q5, rfl⟩ := hx); rfl) (by rintro _ ⟨a5, q5, rfl⟩ W hW; obtain ⟨c0, c1, c2, c3, c4, fr⟩ := HBOX.out W hW; go_simp) ?_
                simp only [Act.put, List.setIfInBounds_toArray, List.set_cons_zero, List.set_cons_succ]
                refine wpF_val (.bool false) (fun x hx => by (obtain ⟨a5, q5, rfl⟩ := hx); rfl) (by rintro _ ⟨a5, q5, rfl⟩ W hW; obtain ⟨c0, c1, c2, c3, c4, fr⟩ := HBOX.out W hW; go_simp) ?_
                simp only [Act.put, List.setIfInBounds_toArray, List.set_cons_zero, List.set_cons_succ]
                refine wpF_val (.bool false) (fun x hx => by (obtain ⟨a5, q5, rfl⟩ := hx); rfl) (by rintro _ ⟨a5, q5, rfl⟩ W hW; obtain ⟨c0, c1, c2, c3, c4, fr⟩ := HBOX.out W hW; go_simp) ?_
                simp only [Act.put, List.setIfInBounds_toArray, List.set_cons_zero, List.set_cons_succ]
                refine wpF_val (.bool false) (fun x hx => by (obtain ⟨a5, q5, rfl⟩ := hx); rfl) (by rintro _ ⟨a5, q5, rfl⟩ W hW; obtain ⟨c0, c1, c2, c3, c4, fr⟩ := HBOX.out W hW; go_simp) ?_
                simp only [Act.put, List.setIfInBounds_toArray, List.set_cons_zero, List.set_cons_succ]
                refine wpF_val (.agg #[.int .i64 p, .int .i64 k, .slice pa ps.length pc, .slice ma m.length mc, .int .i64 hd]) (fun x hx => by (obtain ⟨a5, q5, rfl⟩ := hx); rfl) (by rintro _ ⟨a5, q5, rfl⟩ W hW; obtain ⟨c0, c1, c2, c3, c4, fr⟩ := HBOX.out W hW; go_simp) ?_
                simp only [Act.put, List.setIfInBounds_toArray, List.set_cons_zero, List.set_cons_succ]
                refine wpF_call (.bool false) (f := 57) (args := #[.agg #[.int .i64 p, .int .i64 k, .slice pa ps.length pc, .slice ma m.length mc, .int .i64 hd]]) (fun x hx => by (obtain ⟨a5, q5, rfl⟩ := hx); rfl) (by rintro _ ⟨a5, q5, rfl⟩ W hW; obtain ⟨c0, c1, c2, c3, c4, fr⟩ := HBOX.out W hW; go_simp) (fun W hW => (areMarks_any A _ ⟨p, k, ps, m, hd⟩ W (hv.keep (HCHG.out W hW))).mono (by rintro e w' ⟨_, rfl, rfl, hk⟩; exact ⟨by rw [H6.out], HK.out _ _ hW hk⟩)) ?_
                simp only [Act.put, List.setIfInBounds_toArray, List.set_cons_zero, List.set_cons_succ]
                refine wpF_val (.bool true) (fun x hx => by (obtain ⟨a5, q5, rfl⟩ := hx); rfl) (by rintro _ ⟨a5, q5, rfl⟩ W hW; obtain ⟨c0, c1, c2, c3, c4, fr⟩ := HBOX.out W hW; go_simp) ?_
                simp only [Act.put, List.setIfInBounds_toArray, List.set_cons_zero, List.set_cons_succ]
                refine wpF_val (.bool true) (fun x hx => by (obtain ⟨a5, q5, rfl⟩ := hx); rfl) (by rintro _ ⟨a5, q5, rfl⟩ W hW; obtain ⟨c0, c1, c2, c3, c4, fr⟩ := HBOX.out W hW; go_simp) ?_
                simp only [Act.put, List.setIfInBounds_toArray, List.set_cons_zero, List.set_cons_succ]
                repeat (first | (refine wpF_skip (fun x hx => by (obtain ⟨a5, q5, rfl⟩ := hx); rfl) ?_; simp only [Act.put, List.setIfInBounds_toArray, List.set_cons_zero, List.set_cons_succ]) | (refine wpF_val (.bool true) (fun x hx => by (obtain ⟨a5, q5, rfl⟩ := hx); rfl) (by rintro _ ⟨a5, q5, rfl⟩ W hW; go_simp) ?_; simp only [Act.put, List.setIfInBounds_toArray, List.set_cons_zero, List.set_cons_succ]))
                refine wpF_nil ?_
                rintro _ ⟨a5, q5, rfl⟩ W hW
                have kW := HCHG.out W hW
                go_wp2_with fail
                go_ret
                exact ⟨_, rfl, by rw [HG.out]; rfl, kW⟩
              · skip
                have H6 := Lib.hid h6
                clear h6
                obtain ⟨HG⟩ : Nonempty (Hid (goodC n ⟨p, k, ps, m, hd⟩ = handB ⟨p, k, ps, m, hd⟩)) := ⟨Lib.hid (by
                  have : (ps.length : Int) ≤ k := by omega
                  simp [goodC, H1.out, H2.out, H2b.out, this, H4.out, H5.out, H6.out])⟩
                have HKB := H2b
                go_enter Tryz.func33, Tryz.ntmps33
                go_wp2_with fail
                refine wp_region_X C (by kernel_rfl) (by kernel_rfl) hC0 ?_
                refine wpX_val (.int .i64 n) rfl (by intro W hW; obtain ⟨c0, c1, c2, c3, c4, fr⟩ := HBOX.out W hW; go_simp) ?_
                simp only [Act.put, List.setIfInBounds_toArray, List.set_cons_zero, List.set_cons_succ]
                refine wpX_call (.bool true) (f := 30) (args := #[.int .i64 n]) rfl (by intro W hW; obtain ⟨c0, c1, c2, c3, c4, fr⟩ := HBOX.out W hW; go_simp) (fun W hW => (isItems_any n W).mono (by rintro e w' ⟨rfl, rfl⟩; exact ⟨by rw [H1.out], hW⟩)) ?_
                simp only [Act.put, List.setIfInBounds_toArray, List.set_cons_zero, List.set_cons_succ]
                refine wpX_val (.bool false) rfl (by intro W hW; obtain ⟨c0, c1, c2, c3, c4, fr⟩ := HBOX.out W hW; go_simp) ?_
                simp only [Act.put, List.setIfInBounds_toArray, List.set_cons_zero, List.set_cons_succ]
                refine wpX_val (.bool false) rfl (by intro W hW; obtain ⟨c0, c1, c2, c3, c4, fr⟩ := HBOX.out W hW; go_simp) ?_
                simp only [Act.put, List.setIfInBounds_toArray, List.set_cons_zero, List.set_cons_succ]
                refine wpX_val (.pointer (some ⟨w.heap.size, 0, none⟩)) rfl (by intro W hW; obtain ⟨c0, c1, c2, c3, c4, fr⟩ := HBOX.out W hW; go_simp) ?_
                simp only [Act.put, List.setIfInBounds_toArray, List.set_cons_zero, List.set_cons_succ]
                refine wpX_val (.int .i64 p) rfl (by intro W hW; obtain ⟨c0, c1, c2, c3, c4, fr⟩ := HBOX.out W hW; go_simp) ?_
                simp only [Act.put, List.setIfInBounds_toArray, List.set_cons_zero, List.set_cons_succ]
                refine wpX_call (.bool true) (f := 31) (args := #[.int .i64 p]) rfl (by intro W hW; obtain ⟨c0, c1, c2, c3, c4, fr⟩ := HBOX.out W hW; go_simp) (fun W hW => (isPolicy_any p W).mono (by rintro e w' ⟨rfl, rfl⟩; exact ⟨by rw [H2.out], hW⟩)) ?_
                simp only [Act.put, List.setIfInBounds_toArray, List.set_cons_zero, List.set_cons_succ]
                refine wpX_val (.bool false) rfl (by intro W hW; obtain ⟨c0, c1, c2, c3, c4, fr⟩ := HBOX.out W hW; go_simp) ?_
                simp only [Act.put, List.setIfInBounds_toArray, List.set_cons_zero, List.set_cons_succ]
                refine wpX_val (.bool false) rfl (by intro W hW; obtain ⟨c0, c1, c2, c3, c4, fr⟩ := HBOX.out W hW; go_simp) ?_
                simp only [Act.put, List.setIfInBounds_toArray, List.set_cons_zero, List.set_cons_succ]
                refine wpX_val (.bool false) rfl (by intro W hW; obtain ⟨c0, c1, c2, c3, c4, fr⟩ := HBOX.out W hW; go_simp) ?_
                simp only [Act.put, List.setIfInBounds_toArray, List.set_cons_zero, List.set_cons_succ]
                refine wpX_val (.pointer (some ⟨w.heap.size, 1, none⟩)) rfl (by intro W hW; obtain ⟨c0, c1, c2, c3, c4, fr⟩ := HBOX.out W hW; go_simp) ?_
                simp only [Act.put, List.setIfInBounds_toArray, List.set_cons_zero, List.set_cons_succ]
                refine wpX_val (.int .i64 k) rfl (by intro W hW; obtain ⟨c0, c1, c2, c3, c4, fr⟩ := HBOX.out W hW; go_simp) ?_
                simp only [Act.put, List.setIfInBounds_toArray, List.set_cons_zero, List.set_cons_succ]
                refine wpX_call (.bool true) (f := 32) (args := #[.int .i64 k]) rfl (by intro W hW; obtain ⟨c0, c1, c2, c3, c4, fr⟩ := HBOX.out W hW; go_simp) (fun W hW => (isSize_any k W).mono (by rintro e w' ⟨rfl, rfl⟩; exact ⟨by rw [H2b.out], hW⟩)) ?_
                simp only [Act.put, List.setIfInBounds_toArray, List.set_cons_zero, List.set_cons_succ]
                refine wpX_val (.bool false) rfl (by intro W hW; obtain ⟨c0, c1, c2, c3, c4, fr⟩ := HBOX.out W hW; go_simp) ?_
                simp only [Act.put, List.setIfInBounds_toArray, List.set_cons_zero, List.set_cons_succ]
                refine wpX_val (.bool false) rfl (by intro W hW; obtain ⟨c0, c1, c2, c3, c4, fr⟩ := HBOX.out W hW; go_simp) ?_
                simp only [Act.put, List.setIfInBounds_toArray, List.set_cons_zero, List.set_cons_succ]
                refine wpX_val (.bool false) rfl (by intro W hW; obtain ⟨c0, c1, c2, c3, c4, fr⟩ := HBOX.out W hW; go_simp) ?_
                simp only [Act.put, List.setIfInBounds_toArray, List.set_cons_zero, List.set_cons_succ]
                refine wpX_val (.pointer (some ⟨w.heap.size, 2, none⟩)) rfl (by intro W hW; obtain ⟨c0, c1, c2, c3, c4, fr⟩ := HBOX.out W hW; go_simp) ?_
                simp only [Act.put, List.setIfInBounds_toArray, List.set_cons_zero, List.set_cons_succ]
                refine wpX_val (.slice pa ps.length pc) rfl (by intro W hW; obtain ⟨c0, c1, c2, c3, c4, fr⟩ := HBOX.out W hW; go_simp) ?_
                simp only [Act.put, List.setIfInBounds_toArray, List.set_cons_zero, List.set_cons_succ]
                refine wpX_val (.int .i64 ps.length) rfl (by intro W hW; obtain ⟨c0, c1, c2, c3, c4, fr⟩ := HBOX.out W hW; go_simp) ?_
                simp only [Act.put, List.setIfInBounds_toArray, List.set_cons_zero, List.set_cons_succ]
                refine wpX_val (.pointer (some ⟨w.heap.size, 1, none⟩)) rfl (by intro W hW; obtain ⟨c0, c1, c2, c3, c4, fr⟩ := HBOX.out W hW; go_simp) ?_
                simp only [Act.put, List.setIfInBounds_toArray, List.set_cons_zero, List.set_cons_succ]
                refine wpX_val (.int .i64 k) rfl (by intro W hW; obtain ⟨c0, c1, c2, c3, c4, fr⟩ := HBOX.out W hW; go_simp) ?_
                simp only [Act.put, List.setIfInBounds_toArray, List.set_cons_zero, List.set_cons_succ]
                refine wpX_val (.bool false) rfl (by intro W hW; obtain ⟨c0, c1, c2, c3, c4, fr⟩ := HBOX.out W hW; go_simp) ?_
                simp only [Act.put, List.setIfInBounds_toArray, List.set_cons_zero, List.set_cons_succ]
                refine wpX_val (.bool false) rfl (by intro W hW; obtain ⟨c0, c1, c2, c3, c4, fr⟩ := HBOX.out W hW; go_simp) ?_
                simp only [Act.put, List.setIfInBounds_toArray, List.set_cons_zero, List.set_cons_succ]
                refine wpX_val (.bool false) rfl (by intro W hW; obtain ⟨c0, c1, c2, c3, c4, fr⟩ := HBOX.out W hW; go_simp) ?_
                simp only [Act.put, List.setIfInBounds_toArray, List.set_cons_zero, List.set_cons_succ]
                refine wpX_val (.int .i64 n) rfl (by intro W hW; obtain ⟨c0, c1, c2, c3, c4, fr⟩ := HBOX.out W hW; go_simp) ?_
                simp only [Act.put, List.setIfInBounds_toArray, List.set_cons_zero, List.set_cons_succ]
                refine wpX_val (.pointer (some ⟨w.heap.size, 2, none⟩)) rfl (by intro W hW; obtain ⟨c0, c1, c2, c3, c4, fr⟩ := HBOX.out W hW; go_simp) ?_
                simp only [Act.put, List.setIfInBounds_toArray, List.set_cons_zero, List.set_cons_succ]
                refine wpX_val (.slice pa ps.length pc) rfl (by intro W hW; obtain ⟨c0, c1, c2, c3, c4, fr⟩ := HBOX.out W hW; go_simp) ?_
                simp only [Act.put, List.setIfInBounds_toArray, List.set_cons_zero, List.set_cons_succ]
                refine wpX_call (.bool true) (f := 44) (args := #[.int .i64 n, .slice pa ps.length pc]) rfl (by intro W hW; obtain ⟨c0, c1, c2, c3, c4, fr⟩ := HBOX.out W hW; go_simp) (fun W hW => (areBelow_any A _ ps n W (hp.keep (HCHG.out W hW)) hn1 hn2).mono (by rintro e w' ⟨_, rfl, rfl, hk⟩; exact ⟨by rw [H4.out], HK.out _ _ hW hk⟩)) ?_
                simp only [Act.put, List.setIfInBounds_toArray, List.set_cons_zero, List.set_cons_succ]
                refine wpX_val (.bool false) rfl (by intro W hW; obtain ⟨c0, c1, c2, c3, c4, fr⟩ := HBOX.out W hW; go_simp) ?_
                simp only [Act.put, List.setIfInBounds_toArray, List.set_cons_zero, List.set_cons_succ]
                refine wpX_val (.bool false) rfl (by intro W hW; obtain ⟨c0, c1, c2, c3, c4, fr⟩ := HBOX.out W hW; go_simp) ?_
                simp only [Act.put, List.setIfInBounds_toArray, List.set_cons_zero, List.set_cons_succ]
                refine wpX_val (.bool false) rfl (by intro W hW; obtain ⟨c0, c1, c2, c3, c4, fr⟩ := HBOX.out W hW; go_simp) ?_
                simp only [Act.put, List.setIfInBounds_toArray, List.set_cons_zero, List.set_cons_succ]
                refine wpX_val (.pointer (some ⟨w.heap.size, 2, none⟩)) rfl (by intro W hW; obtain ⟨c0, c1, c2, c3, c4, fr⟩ := HBOX.out W hW; go_simp) ?_
                simp only [Act.put, List.setIfInBounds_toArray, List.set_cons_zero, List.set_cons_succ]
                refine wpX_val (.slice pa ps.length pc) rfl (by intro W hW; obtain ⟨c0, c1, c2, c3, c4, fr⟩ := HBOX.out W hW; go_simp) ?_
                simp only [Act.put, List.setIfInBounds_toArray, List.set_cons_zero, List.set_cons_succ]
                refine wpX_calls (fun x => ∃ a q, x = .slice a (diffL ps).length q) (f := 56) (args := #[.slice pa ps.length pc]) rfl ⟨.slice none (diffL ps).length 0, none, 0, rfl⟩ (by intro W hW; obtain ⟨c0, c1, c2, c3, c4, fr⟩ := HBOX.out W hW; go_simp) (fun W hW => (rising_any A _ ps W (hp.keep (HCHG.out W hW))).mono (by rintro e w' ⟨r, rfl, o, hk⟩; obtain ⟨a, q, e, _⟩ := o.view; exact ⟨r, rfl, ⟨a, q, e⟩, HK.out _ _ hW hk⟩)) ?_
                simp only [Act.put, List.setIfInBounds_toArray, List.set_cons_zero, List.set_cons_succ]
                refine wpF_val (.int .i64 (diffL ps).length) (fun x hx => by (obtain ⟨a5, q5, rfl⟩ := hx); rfl) (by rintro _ ⟨a5, q5, rfl⟩ W hW; obtain ⟨c0, c1, c2, c3, c4, fr⟩ := HBOX.out W hW; go_simp) ?_
                simp only [Act.put, List.setIfInBounds_toArray, List.set_cons_zero, List.set_cons_succ]
                refine wpF_val (.pointer (some ⟨w.heap.size, 2, none⟩)) (fun x hx => by (obtain ⟨a5, q5, rfl⟩ := hx); rfl) (by rintro _ ⟨a5, q5, rfl⟩ W hW; obtain ⟨c0, c1, c2, c3, c4, fr⟩ := HBOX.out W hW; go_simp) ?_
                simp only [Act.put, List.setIfInBounds_toArray, List.set_cons_zero, List.set_cons_succ]
                refine wpF_val (.slice pa ps.length pc) (fun x hx => by (obtain ⟨a5, q5, rfl⟩ := hx); rfl) (by rintro _ ⟨a5, q5, rfl⟩ W hW; obtain ⟨c0, c1, c2, c3, c4, fr⟩ := HBOX.out W hW; go_simp) ?_
                simp only [Act.put, List.setIfInBounds_toArray, List.set_cons_zero, List.set_cons_succ]
                refine wpF_val (.int .i64 ps.length) (fun x hx => by (obtain ⟨a5, q5, rfl⟩ := hx); rfl) (by rintro _ ⟨a5, q5, rfl⟩ W hW; obtain ⟨c0, c1, c2, c3, c4, fr⟩ := HBOX.out W hW; go_simp) ?_
                simp only [Act.put, List.setIfInBounds_toArray, List.set_cons_zero, List.set_cons_succ]
                refine wpF_val (.bool false) (fun x hx => by (obtain ⟨a5, q5, rfl⟩ := hx); rfl) (by rintro _ ⟨a5, q5, rfl⟩ W hW; obtain ⟨c0, c1, c2, c3, c4, fr⟩ := HBOX.out W hW; go_simp) ?_
                simp only [Act.put, List.setIfInBounds_toArray, List.set_cons_zero, List.set_cons_succ]
                refine wpF_val (.bool false) (fun x hx => by (obtain ⟨a5, q5, rfl⟩ := hx); rfl) (by rintro _ ⟨a5, q5, rfl⟩ W hW; obtain ⟨c0, c1, c2, c3, c4, fr⟩ := HBOX.out W hW; go_simp) ?_
                simp only [Act.put, List.setIfInBounds_toArray, List.set_cons_zero, List.set_cons_succ]
                refine wpF_val (.bool false) (fun x hx => by (obtain ⟨a5, q5, rfl⟩ := hx); rfl) (by rintro _ ⟨a5, q5, rfl⟩ W hW; obtain ⟨c0, c1, c2, c3, c4, fr⟩ := HBOX.out W hW; go_simp) ?_
                simp only [Act.put, List.setIfInBounds_toArray, List.set_cons_zero, List.set_cons_succ]
                refine wpF_val (.agg #[.int .i64 p, .int .i64 k, .slice pa ps.length pc, .slice ma m.length mc, .int .i64 hd]) (fun x hx => by (obtain ⟨a5, q5, rfl⟩ := hx); rfl) (by rintro _ ⟨a5, q5, rfl⟩ W hW; obtain ⟨c0, c1, c2, c3, c4, fr⟩ := HBOX.out W hW; go_simp) ?_
                simp only [Act.put, List.setIfInBounds_toArray, List.set_cons_zero, List.set_cons_succ]
                refine wpF_call (.bool true) (f := 57) (args := #[.agg #[.int .i64 p, .int .i64 k, .slice pa ps.length pc, .slice ma m.length mc, .int .i64 hd]]) (fun x hx => by (obtain ⟨a5, q5, rfl⟩ := hx); rfl) (by rintro _ ⟨a5, q5, rfl⟩ W hW; obtain ⟨c0, c1, c2, c3, c4, fr⟩ := HBOX.out W hW; go_simp) (fun W hW => (areMarks_any A _ ⟨p, k, ps, m, hd⟩ W (hv.keep (HCHG.out W hW))).mono (by rintro e w' ⟨_, rfl, rfl, hk⟩; exact ⟨by rw [H6.out], HK.out _ _ hW hk⟩)) ?_
                simp only [Act.put, List.setIfInBounds_toArray, List.set_cons_zero, List.set_cons_succ]
                refine wpF_val (.bool false) (fun x hx => by (obtain ⟨a5, q5, rfl⟩ := hx); rfl) (by rintro _ ⟨a5, q5, rfl⟩ W hW; obtain ⟨c0, c1, c2, c3, c4, fr⟩ := HBOX.out W hW; go_simp) ?_
                simp only [Act.put, List.setIfInBounds_toArray, List.set_cons_zero, List.set_cons_succ]
                refine wpF_val (.bool false) (fun x hx => by (obtain ⟨a5, q5, rfl⟩ := hx); rfl) (by rintro _ ⟨a5, q5, rfl⟩ W hW; obtain ⟨c0, c1, c2, c3, c4, fr⟩ := HBOX.out W hW; go_simp) ?_
                simp only [Act.put, List.setIfInBounds_toArray, List.set_cons_zero, List.set_cons_succ]
                refine wpF_nil ?_
                rintro _ ⟨a5, q5, rfl⟩ W hW
                have kW := HCHG.out W hW
                have hb := HBOX.out W hW
                obtain ⟨c0, c1, c2, c3, c4, fr⟩ := id hb
                have hkb := inB_iff.1 HKB.out
                have hkw : IntKind.i64.wrap (k - 1) = k - 1 := IntWalk.i64_in _ (by omega)
                clear hkb h5e
                by_cases h6 : p = 6
                · subst h6
                  by_cases hf : (ps.length : Int) = k
                  · have HH : Hid (handB ⟨6, k, ps, m, hd⟩ = inB hd 0 (k - 1)) := Lib.hid (by simp [handB, hf])
                    have hf' : ((ps.length : Int) == k) = true := by simp [hf]
                    go_wp2_with fail
                    refine (isFull_any 6 k _ _ hd ps A _ (hp.keep kW) ⟨_, _, _, rfl⟩).mono ?_
                    rintro e w1 ⟨_, rfl, rfl, k1⟩
                    rw [hf']
                    have kW := kW.keep k1
                    obtain ⟨c0, c1, c2, c3, c4, fr⟩ := hb.keep k1
                    have hkw2 : IntKind.i64.wrap ((ps.length : Int) - 1) = (ps.length : Int) - 1 := IntWalk.i64_in _ (by have := inB_iff.1 HKB.out; omega)
                    have HF := Lib.hid hf
                    clear hf
                    go_wp2_with fail
                    refine (within_any _ _ _ _).mono ?_
                    rintro e w2 ⟨rfl, rfl⟩
                    go_wp2_with fail
                    go_ret
                    exact ⟨_, rfl, by rw [HG.out, HH.out, ← HF.out]; rfl, kW⟩
                  · have HH : Hid (handB ⟨6, k, ps, m, hd⟩ = (hd == 0)) := Lib.hid (by simp only [handB, hf, and_false, if_false]; rfl)
                    have hf' : ((ps.length : Int) == k) = false := by simp [hf]
                    clear hf
                    go_wp2_with fail
                    refine (isFull_any 6 k _ _ hd ps A _ (hp.keep kW) ⟨_, _, _, rfl⟩).mono ?_
                    rintro e w1 ⟨_, rfl, rfl, k1⟩
                    rw [hf']
                    have kW := kW.keep k1
                    obtain ⟨c0, c1, c2, c3, c4, fr⟩ := hb.keep k1
                    go_wp2_with fail
                    go_ret
                    exact ⟨_, rfl, by rw [HG.out, HH.out]; rfl, kW⟩
                · have HH : Hid (handB ⟨p, k, ps, m, hd⟩ = (hd == 0)) := Lib.hid (by simp only [handB, h6, false_and, if_false]; rfl)
                  have h6' : (p == 6) = false := by simp [h6]
                  go_wp2_with fail
                  go_ret
                  exact ⟨_, rfl, by rw [HG.out, HH.out]; rfl, kW⟩
end Go.Proofs.YtdgcohoneijleaaGreat
