import Derived.Test.YtmnohickmidfkaaDoorYr
import Derived.Deep.CutRange
/- AppendRecord: the law -/
namespace Go.Proofs.YtmnohickmidfkaaDoor
open Go.RowKit

set_option maxRecDepth 100000 in
set_option maxHeartbeats 2000000 in
theorem law_AppendRecord (d p : List UInt8) (n : Int) (c r : List UInt8) (w : World) (hd : d.length ≤ 9223372036854775807) (hp : p.length ≤ 9223372036854775807) (hc : c.length ≤ 9223372036854775807) (hr : r.length ≤ 9223372036854775807) (hw : Lay w) :
    Calls Tryd.prog 7 #[lv d p n, rv c r] w fun e w' => e = .returned (.bool true) ∧ Chg No w w' := by
  obtain ⟨A0, hA0⟩ : ∃ A0, A0 = w.alloc (.cells #[.string ⟨d.toArray⟩, .string ⟨p.toArray⟩, .int .i64 n] 28) := ⟨_, rfl⟩
  have hz0 : A0.heap.size = w.heap.size + 1 := by rw [hA0, World.size_alloc]
  obtain ⟨A1, hA1⟩ : ∃ A1, A1 = A0.alloc (.cells #[.string ⟨c.toArray⟩, .string ⟨r.toArray⟩] 39) := ⟨_, rfl⟩
  have k0 : Chg No w A1 := by rw [hA1, hA0]; exact ((Chg.refl No w).alloc _).alloc _
  have bx0 : BoxL A1 w.heap.size (.string ⟨d.toArray⟩) (.string ⟨p.toArray⟩) (.int .i64 n) := by
    rw [hA1, hA0]; exact (BoxL.new w _ _ _ _).keep ((Chg.refl No _).alloc _)
  have bx1 : Box2 A1 (w.heap.size + 1) (.string ⟨c.toArray⟩) (.string ⟨r.toArray⟩) := by
    rw [hA1, ← hz0]; exact Box2.new A0 _ _ _
  have HBOX : Hid (∀ W, Chg No A1 W → BoxL W w.heap.size (.string ⟨d.toArray⟩) (.string ⟨p.toArray⟩) (.int .i64 n) ∧ Box2 W (w.heap.size + 1) (.string ⟨c.toArray⟩) (.string ⟨r.toArray⟩)) := Lib.hid (fun W hW => ⟨bx0.keep hW, bx1.keep hW⟩)
  have HA1 : Hid (A1 = (w.alloc (.cells #[.string ⟨d.toArray⟩, .string ⟨p.toArray⟩, .int .i64 n] 28)).alloc (.cells #[.string ⟨c.toArray⟩, .string ⟨r.toArray⟩] 39)) := Lib.hid (by rw [hA1, hA0])
  have HL := Lib.hid (hw.keep k0)
  have HK0 := Lib.hid k0
  clear hw k0
  rw [HA1.out] at HBOX HL bx0 bx1 HK0
  obtain ⟨c0, c1, c2, fr⟩ := bx0
  obtain ⟨d0, d1, fd⟩ := bx1
  clear HA1 hA1 hA0 hz0
  by_cases h : (d.length : Int) + (p.length : Int) ≤ 1048576
  ·
    have q0 := Lib.hid (fun W => szLog_fit d p n 1048576 W (by omega) h)
    by_cases h' : (c.length : Int) + (r.length : Int) ≤ 1048576 - d.length - p.length
    ·
      have q9 := Lib.hid (fun W => szRec_fit c r (1048576 - d.length - p.length) W (by omega) h')
      have q1 := Lib.hid (fun W => toLog_any d p n W)
      have q2 := Lib.hid (fun W => toRec_any c r W)
      have q3 := Lib.hid (fun W => specAppend_any d p n c r W (by omega) (by omega) (by omega) (by omega))
      have q4 := Lib.hid (fun W hW => implAppend_any d p n c r W (by omega) (by omega) (by omega) (by omega) hW)
      obtain ⟨P, hP⟩ : ∃ P, appP d p n c r = P := ⟨_, rfl⟩
      obtain ⟨N, hN⟩ : ∃ N, appN d p n c r = N := ⟨_, rfl⟩
      obtain ⟨s, hs⟩ : ∃ s, appS d p n c r = s := ⟨_, rfl⟩
      rw [hP, hN, hs] at q3 q4
      have q5 := Lib.hid (fun W => eqLog_same d P N W)
      unfold lv at q0 q1 q3 q4 q5 ⊢
      unfold rv at q9 q2 q3 q4 ⊢
      clear hP hN hs
      go_enter Tryd.func7, Tryd.ntmps7
      go_upto_region 8 with (first | (go_at_call 14; refine (q0.out _).mono ?_; rintro e w1 ⟨rfl, hk1⟩; obtain ⟨⟨c0, c1, c2, fr⟩, ⟨d0, d1, fd⟩⟩ := HBOX.out w1 hk1) | (go_at_call 22; refine (q9.out _).mono ?_; rintro e w2 ⟨rfl, hk2⟩; obtain ⟨⟨c0, c1, c2, fr⟩, ⟨d0, d1, fd⟩⟩ := HBOX.out w2 (hk1.trans hk2)))
      go_cut [6, 7] from 20 to 27 (fun s6 s7 wx => ∃ b, s6 = .pointer (some ⟨b, 0, none⟩) ∧ s7 = .int .i64 s ∧ BoxL wx b (.string ⟨d.toArray⟩) (.string ⟨P.toArray⟩) (.int .i64 N) ∧ Chg No w2 wx)
      case first =>
        have HBX : Hid (∀ W, Chg No w2 W → BoxL W w.heap.size (.string ⟨d.toArray⟩) (.string ⟨p.toArray⟩) (.int .i64 n) ∧ Box2 W (w.heap.size + 1) (.string ⟨c.toArray⟩) (.string ⟨r.toArray⟩)) := Lib.hid (fun W hW => HBOX.out W ((hk1.trans hk2).trans hW))
        clear c0 c1 c2 fr d0 d1 fd
        refine wp_region_K (S := fun W => Chg No w2 W) (k := 10) (by kernel_rfl) ?_
        have h0 : Chg No w2 w2.drew := (Chg.refl No w2).drew
        generalize w2.drew = W0 at h0 ⊢
        refine wpAnyK_take 0 (.agg #[.string ⟨d.toArray⟩, .string ⟨p.toArray⟩, .int .i64 n]) rfl (by kernel_rfl) (fun _ _ _ h => h) h0 rfl (by intro w hw; obtain ⟨⟨c0, c1, c2, fr⟩, ⟨d0, d1, fd⟩⟩ := HBX.out w hw; go_simp) ?_
        simp only [List.getElem_toArray, List.getElem_cons_zero, Act.put, List.setIfInBounds_toArray, List.set_cons_zero, List.set_cons_succ]
        refine wpAnyK_take 2 (.agg #[.string ⟨c.toArray⟩, .string ⟨r.toArray⟩]) rfl (by kernel_rfl) (fun _ _ _ h => h) h0 rfl (by intro w hw; obtain ⟨⟨c0, c1, c2, fr⟩, ⟨d0, d1, fd⟩⟩ := HBX.out w hw; go_simp) ?_
        simp only [List.getElem_toArray, List.getElem_cons_succ, List.getElem_cons_zero, Act.put, List.setIfInBounds_toArray, List.set_cons_zero, List.set_cons_succ]
        refine wpAnyK_2 1 8 (by kernel_rfl) (wpOpK' rfl rfl ?_) (wpOpK' rfl rfl ?_)
        ·
          intro K hK
          refine ocallR (f := 16) (args := #[.agg #[.string ⟨d.toArray⟩, .string ⟨p.toArray⟩, .int .i64 n]]) (by go_simp) (q1.out W0) (fun W1 x1 => hK.out _ _ (h0.trans x1) ?_)
          clear hK K
          simp only [List.getElem_toArray, List.getElem_cons_succ, List.getElem_cons_zero, Act.put, List.setIfInBounds_toArray, List.set_cons_zero, List.set_cons_succ]
          have h1 := h0.trans x1
          refine wpAnyK_2 3 8 (by kernel_rfl) (wpOpK' rfl rfl ?_) (wpOpK' rfl rfl ?_)
          ·
            intro K hK
            refine ocallR (f := 24) (args := #[.agg #[.string ⟨c.toArray⟩, .string ⟨r.toArray⟩]]) (by go_simp) (q2.out W1) (fun W2 x2 => hK.out _ _ (h1.trans x2) ?_)
            clear hK K
            simp only [List.getElem_toArray, List.getElem_cons_succ, List.getElem_cons_zero, Act.put, List.setIfInBounds_toArray, List.set_cons_zero, List.set_cons_succ]
            have h2 := h1.trans x2
            refine wpAnyK_2 4 8 (by kernel_rfl) (wpOpK' rfl rfl ?_) (wpOpK' rfl rfl ?_)
            ·
              intro K hK
              refine ocallR (f := 23) (args := #[.agg #[.string ⟨d.toArray⟩, .string ⟨p.toArray⟩, .int .i64 n], .agg #[.string ⟨c.toArray⟩, .string ⟨r.toArray⟩]]) (by go_simp) (q3.out W2 ) (fun W3 x3 => hK.out _ _ (h2.trans x3) ?_)
              clear hK K
              simp only [List.getElem_toArray, List.getElem_cons_succ, List.getElem_cons_zero, Act.put, List.setIfInBounds_toArray, List.set_cons_zero, List.set_cons_succ]
              have h3 := h2.trans x3
              refine wpAnyK_take 5 (.tuple #[.agg #[.string ⟨d.toArray⟩, .string ⟨P.toArray⟩, .int .i64 N], .int .i64 s]) rfl (by kernel_rfl) (fun _ _ _ h => h) h3 rfl (by intro w hw; go_simp) ?_
              simp only [List.getElem_toArray, List.getElem_cons_succ, List.getElem_cons_zero, Act.put, List.setIfInBounds_toArray, List.set_cons_zero, List.set_cons_succ]
              refine wpAnyK_take 6 (.agg #[.string ⟨d.toArray⟩, .string ⟨P.toArray⟩, .int .i64 N]) rfl (by kernel_rfl) (fun _ _ _ h => h) h3 rfl (by intro w hw; go_simp) ?_
              simp only [List.getElem_toArray, List.getElem_cons_succ, List.getElem_cons_zero, Act.put, List.setIfInBounds_toArray, List.set_cons_zero, List.set_cons_succ]
              refine wpAnyK_take 7 (.int .i64 s) rfl (by kernel_rfl) (fun _ _ _ h => h) h3 rfl (by intro w hw; go_simp) ?_
              simp only [List.getElem_toArray, List.getElem_cons_succ, List.getElem_cons_zero, Act.put, List.setIfInBounds_toArray, List.set_cons_zero, List.set_cons_succ]
              refine wpAnyK_1 8 (by kernel_rfl) (wpOpK' rfl rfl ?_)
              intro K hK
              have hsA := h3.size
              unfold Oper.wp execOp
              go_simp
              have bx := BoxL.new W3 (.string ⟨#[]⟩) (.string ⟨#[]⟩) (.int .i64 0) 23
              have h4 := h3.alloc (.cells #[.string ⟨#[]⟩, .string ⟨#[]⟩, .int .i64 0] 23)
              obtain ⟨bb, hbb⟩ : ∃ bb, W3.heap.size = bb := ⟨_, rfl⟩
              rw [hbb] at bx hsA ⊢
              generalize W3.alloc (.cells #[.string ⟨#[]⟩, .string ⟨#[]⟩, .int .i64 0] 23) = W4 at bx h4 ⊢
              refine hK.out _ _ h4 ?_
              clear hK K hbb
              simp only [List.setIfInBounds_toArray]
              refine wpAnyK_1 9 (by kernel_rfl) (wpOpK' rfl rfl ?_)
              intro K hK
              have hF := h4.put3 (fun h => absurd h (by omega)) (b := bb) (.string ⟨d.toArray⟩) (.string ⟨P.toArray⟩) (.int .i64 N)
              have hbF := bx.put (.string ⟨d.toArray⟩) (.string ⟨P.toArray⟩) (.int .i64 N)
              obtain ⟨g0, g1, g2, fg⟩ := id bx
              have fg0 := fg 0
              have fg1 := fg 1
              have fg2 := fg 2
              clear fg
              unfold Oper.wp execOp
              go_simp
              refine hK.out _ _ hF ?_
              clear hK K g0 g1 g2 fg0 fg1 fg2
              simp only [List.setIfInBounds_toArray]
              refine wpAnyK_tail 10 rfl (by kernel_rfl) ?_
              simp only [List.drop_succ_cons, List.drop_zero]
              go_wp2_with fail
              go_meet
              case rel => exact ⟨bb, rfl, rfl, hbF, hF⟩
            ·
              intro K hK
              have hsA := h2.size
              unfold Oper.wp execOp
              go_simp
              have bx := BoxL.new W2 (.string ⟨#[]⟩) (.string ⟨#[]⟩) (.int .i64 0) 23
              have h3 := h2.alloc (.cells #[.string ⟨#[]⟩, .string ⟨#[]⟩, .int .i64 0] 23)
              obtain ⟨bb, hbb⟩ : ∃ bb, W2.heap.size = bb := ⟨_, rfl⟩
              rw [hbb] at bx hsA ⊢
              generalize W2.alloc (.cells #[.string ⟨#[]⟩, .string ⟨#[]⟩, .int .i64 0] 23) = W3 at bx h3 ⊢
              refine hK.out _ _ h3 ?_
              clear hK K hbb
              simp only [List.setIfInBounds_toArray]
              refine wpAnyK_1 4 (by kernel_rfl) (wpOpK' rfl rfl ?_)
              intro K hK
              refine ocallR (f := 23) (args := #[.agg #[.string ⟨d.toArray⟩, .string ⟨p.toArray⟩, .int .i64 n], .agg #[.string ⟨c.toArray⟩, .string ⟨r.toArray⟩]]) (by go_simp) (q3.out W3 ) (fun W4 x4 => hK.out _ _ (h3.trans x4) ?_)
              clear hK K
              simp only [List.getElem_toArray, List.getElem_cons_succ, List.getElem_cons_zero, Act.put, List.setIfInBounds_toArray, List.set_cons_zero, List.set_cons_succ]
              have h4 := h3.trans x4
              have bx := bx.keep x4
              refine wpAnyK_take 5 (.tuple #[.agg #[.string ⟨d.toArray⟩, .string ⟨P.toArray⟩, .int .i64 N], .int .i64 s]) rfl (by kernel_rfl) (fun _ _ _ h => h) h4 rfl (by intro w hw; go_simp) ?_
              simp only [List.getElem_toArray, List.getElem_cons_succ, List.getElem_cons_zero, Act.put, List.setIfInBounds_toArray, List.set_cons_zero, List.set_cons_succ]
              refine wpAnyK_take 6 (.agg #[.string ⟨d.toArray⟩, .string ⟨P.toArray⟩, .int .i64 N]) rfl (by kernel_rfl) (fun _ _ _ h => h) h4 rfl (by intro w hw; go_simp) ?_
              simp only [List.getElem_toArray, List.getElem_cons_succ, List.getElem_cons_zero, Act.put, List.setIfInBounds_toArray, List.set_cons_zero, List.set_cons_succ]
              refine wpAnyK_take 7 (.int .i64 s) rfl (by kernel_rfl) (fun _ _ _ h => h) h4 rfl (by intro w hw; go_simp) ?_
              simp only [List.getElem_toArray, List.getElem_cons_succ, List.getElem_cons_zero, Act.put, List.setIfInBounds_toArray, List.set_cons_zero, List.set_cons_succ]
              refine wpAnyK_1 9 (by kernel_rfl) (wpOpK' rfl rfl ?_)
              intro K hK
              have hF := h4.put3 (fun h => absurd h (by omega)) (b := bb) (.string ⟨d.toArray⟩) (.string ⟨P.toArray⟩) (.int .i64 N)
              have hbF := bx.put (.string ⟨d.toArray⟩) (.string ⟨P.toArray⟩) (.int .i64 N)
              obtain ⟨g0, g1, g2, fg⟩ := id bx
              have fg0 := fg 0
              have fg1 := fg 1
              have fg2 := fg 2
              clear fg
              unfold Oper.wp execOp
              go_simp
              refine hK.out _ _ hF ?_
              clear hK K g0 g1 g2 fg0 fg1 fg2
              simp only [List.setIfInBounds_toArray]
              refine wpAnyK_tail 10 rfl (by kernel_rfl) ?_
              simp only [List.drop_succ_cons, List.drop_zero]
              go_wp2_with fail
              go_meet
              case rel => exact ⟨bb, rfl, rfl, hbF, hF⟩
          ·
            intro K hK
            have hsA := h1.size
            unfold Oper.wp execOp
            go_simp
            have bx := BoxL.new W1 (.string ⟨#[]⟩) (.string ⟨#[]⟩) (.int .i64 0) 23
            have h2 := h1.alloc (.cells #[.string ⟨#[]⟩, .string ⟨#[]⟩, .int .i64 0] 23)
            obtain ⟨bb, hbb⟩ : ∃ bb, W1.heap.size = bb := ⟨_, rfl⟩
            rw [hbb] at bx hsA ⊢
            generalize W1.alloc (.cells #[.string ⟨#[]⟩, .string ⟨#[]⟩, .int .i64 0] 23) = W2 at bx h2 ⊢
            refine hK.out _ _ h2 ?_
            clear hK K hbb
            simp only [List.setIfInBounds_toArray]
            refine wpAnyK_1 3 (by kernel_rfl) (wpOpK' rfl rfl ?_)
            intro K hK
            refine ocallR (f := 24) (args := #[.agg #[.string ⟨c.toArray⟩, .string ⟨r.toArray⟩]]) (by go_simp) (q2.out W2) (fun W3 x3 => hK.out _ _ (h2.trans x3) ?_)
            clear hK K
            simp only [List.getElem_toArray, List.getElem_cons_succ, List.getElem_cons_zero, Act.put, List.setIfInBounds_toArray, List.set_cons_zero, List.set_cons_succ]
            have h3 := h2.trans x3
            have bx := bx.keep x3
            refine wpAnyK_1 4 (by kernel_rfl) (wpOpK' rfl rfl ?_)
            intro K hK
            refine ocallR (f := 23) (args := #[.agg #[.string ⟨d.toArray⟩, .string ⟨p.toArray⟩, .int .i64 n], .agg #[.string ⟨c.toArray⟩, .string ⟨r.toArray⟩]]) (by go_simp) (q3.out W3 ) (fun W4 x4 => hK.out _ _ (h3.trans x4) ?_)
            clear hK K
            simp only [List.getElem_toArray, List.getElem_cons_succ, List.getElem_cons_zero, Act.put, List.setIfInBounds_toArray, List.set_cons_zero, List.set_cons_succ]
            have h4 := h3.trans x4
            have bx := bx.keep x4
            refine wpAnyK_take 5 (.tuple #[.agg #[.string ⟨d.toArray⟩, .string ⟨P.toArray⟩, .int .i64 N], .int .i64 s]) rfl (by kernel_rfl) (fun _ _ _ h => h) h4 rfl (by intro w hw; go_simp) ?_
            simp only [List.getElem_toArray, List.getElem_cons_succ, List.getElem_cons_zero, Act.put, List.setIfInBounds_toArray, List.set_cons_zero, List.set_cons_succ]
            refine wpAnyK_take 6 (.agg #[.string ⟨d.toArray⟩, .string ⟨P.toArray⟩, .int .i64 N]) rfl (by kernel_rfl) (fun _ _ _ h => h) h4 rfl (by intro w hw; go_simp) ?_
            simp only [List.getElem_toArray, List.getElem_cons_succ, List.getElem_cons_zero, Act.put, List.setIfInBounds_toArray, List.set_cons_zero, List.set_cons_succ]
            refine wpAnyK_take 7 (.int .i64 s) rfl (by kernel_rfl) (fun _ _ _ h => h) h4 rfl (by intro w hw; go_simp) ?_
            simp only [List.getElem_toArray, List.getElem_cons_succ, List.getElem_cons_zero, Act.put, List.setIfInBounds_toArray, List.set_cons_zero, List.set_cons_succ]
            refine wpAnyK_1 9 (by kernel_rfl) (wpOpK' rfl rfl ?_)
            intro K hK
            have hF := h4.put3 (fun h => absurd h (by omega)) (b := bb) (.string ⟨d.toArray⟩) (.string ⟨P.toArray⟩) (.int .i64 N)
            have hbF := bx.put (.string ⟨d.toArray⟩) (.string ⟨P.toArray⟩) (.int .i64 N)
            obtain ⟨g0, g1, g2, fg⟩ := id bx
            have fg0 := fg 0
            have fg1 := fg 1
            have fg2 := fg 2
            clear fg
            unfold Oper.wp execOp
            go_simp
            refine hK.out _ _ hF ?_
            clear hK K g0 g1 g2 fg0 fg1 fg2
            simp only [List.setIfInBounds_toArray]
            refine wpAnyK_tail 10 rfl (by kernel_rfl) ?_
            simp only [List.drop_succ_cons, List.drop_zero]
            go_wp2_with fail
            go_meet
            case rel => exact ⟨bb, rfl, rfl, hbF, hF⟩
        ·
          intro K hK
          have hsA := h0.size
          unfold Oper.wp execOp
          go_simp
          have bx := BoxL.new W0 (.string ⟨#[]⟩) (.string ⟨#[]⟩) (.int .i64 0) 23
          have h1 := h0.alloc (.cells #[.string ⟨#[]⟩, .string ⟨#[]⟩, .int .i64 0] 23)
          obtain ⟨bb, hbb⟩ : ∃ bb, W0.heap.size = bb := ⟨_, rfl⟩
          rw [hbb] at bx hsA ⊢
          generalize W0.alloc (.cells #[.string ⟨#[]⟩, .string ⟨#[]⟩, .int .i64 0] 23) = W1 at bx h1 ⊢
          refine hK.out _ _ h1 ?_
          clear hK K hbb
          simp only [List.setIfInBounds_toArray]
          refine wpAnyK_1 1 (by kernel_rfl) (wpOpK' rfl rfl ?_)
          intro K hK
          refine ocallR (f := 16) (args := #[.agg #[.string ⟨d.toArray⟩, .string ⟨p.toArray⟩, .int .i64 n]]) (by go_simp) (q1.out W1) (fun W2 x2 => hK.out _ _ (h1.trans x2) ?_)
          clear hK K
          simp only [List.getElem_toArray, List.getElem_cons_succ, List.getElem_cons_zero, Act.put, List.setIfInBounds_toArray, List.set_cons_zero, List.set_cons_succ]
          have h2 := h1.trans x2
          have bx := bx.keep x2
          refine wpAnyK_1 3 (by kernel_rfl) (wpOpK' rfl rfl ?_)
          intro K hK
          refine ocallR (f := 24) (args := #[.agg #[.string ⟨c.toArray⟩, .string ⟨r.toArray⟩]]) (by go_simp) (q2.out W2) (fun W3 x3 => hK.out _ _ (h2.trans x3) ?_)
          clear hK K
          simp only [List.getElem_toArray, List.getElem_cons_succ, List.getElem_cons_zero, Act.put, List.setIfInBounds_toArray, List.set_cons_zero, List.set_cons_succ]
          have h3 := h2.trans x3
          have bx := bx.keep x3
          refine wpAnyK_1 4 (by kernel_rfl) (wpOpK' rfl rfl ?_)
          intro K hK
          refine ocallR (f := 23) (args := #[.agg #[.string ⟨d.toArray⟩, .string ⟨p.toArray⟩, .int .i64 n], .agg #[.string ⟨c.toArray⟩, .string ⟨r.toArray⟩]]) (by go_simp) (q3.out W3 ) (fun W4 x4 => hK.out _ _ (h3.trans x4) ?_)
          clear hK K
          simp only [List.getElem_toArray, List.getElem_cons_succ, List.getElem_cons_zero, Act.put, List.setIfInBounds_toArray, List.set_cons_zero, List.set_cons_succ]
          have h4 := h3.trans x4
          have bx := bx.keep x4
          refine wpAnyK_take 5 (.tuple #[.agg #[.string ⟨d.toArray⟩, .string ⟨P.toArray⟩, .int .i64 N], .int .i64 s]) rfl (by kernel_rfl) (fun _ _ _ h => h) h4 rfl (by intro w hw; go_simp) ?_
          simp only [List.getElem_toArray, List.getElem_cons_succ, List.getElem_cons_zero, Act.put, List.setIfInBounds_toArray, List.set_cons_zero, List.set_cons_succ]
          refine wpAnyK_take 6 (.agg #[.string ⟨d.toArray⟩, .string ⟨P.toArray⟩, .int .i64 N]) rfl (by kernel_rfl) (fun _ _ _ h => h) h4 rfl (by intro w hw; go_simp) ?_
          simp only [List.getElem_toArray, List.getElem_cons_succ, List.getElem_cons_zero, Act.put, List.setIfInBounds_toArray, List.set_cons_zero, List.set_cons_succ]
          refine wpAnyK_take 7 (.int .i64 s) rfl (by kernel_rfl) (fun _ _ _ h => h) h4 rfl (by intro w hw; go_simp) ?_
          simp only [List.getElem_toArray, List.getElem_cons_succ, List.getElem_cons_zero, Act.put, List.setIfInBounds_toArray, List.set_cons_zero, List.set_cons_succ]
          refine wpAnyK_1 9 (by kernel_rfl) (wpOpK' rfl rfl ?_)
          intro K hK
          have hF := h4.put3 (fun h => absurd h (by omega)) (b := bb) (.string ⟨d.toArray⟩) (.string ⟨P.toArray⟩) (.int .i64 N)
          have hbF := bx.put (.string ⟨d.toArray⟩) (.string ⟨P.toArray⟩) (.int .i64 N)
          obtain ⟨g0, g1, g2, fg⟩ := id bx
          have fg0 := fg 0
          have fg1 := fg 1
          have fg2 := fg 2
          clear fg
          unfold Oper.wp execOp
          go_simp
          refine hK.out _ _ hF ?_
          clear hK K g0 g1 g2 fg0 fg1 fg2
          simp only [List.setIfInBounds_toArray]
          refine wpAnyK_tail 10 rfl (by kernel_rfl) ?_
          simp only [List.drop_succ_cons, List.drop_zero]
          go_wp2_with fail
          go_meet
          case rel => exact ⟨bb, rfl, rfl, hbF, hF⟩
      case rest =>
        obtain ⟨wA, hwA⟩ : ∃ wA, wA = wc := ⟨_, rfl⟩
        rw [← hwA] at hcut ⊢
        clear hwA
        obtain ⟨b1, rfl, rfl, bxA, kA⟩ := hcut
        have HBX : Hid (∀ W, Chg No wA W → BoxL W w.heap.size (.string ⟨d.toArray⟩) (.string ⟨p.toArray⟩) (.int .i64 n) ∧ Box2 W (w.heap.size + 1) (.string ⟨c.toArray⟩) (.string ⟨r.toArray⟩)) := Lib.hid (fun W hW => HBOX.out W ((hk1.trans hk2).trans (kA.trans hW)))
        clear c0 c1 c2 fr d0 d1 fd
        go_upto_region 9 with fail
        go_cut [8, 9] from 28 to 35 (fun s8 s9 wx => ∃ b, s8 = .pointer (some ⟨b, 0, none⟩) ∧ s9 = .int .i64 s ∧ BoxL wx b (.string ⟨d.toArray⟩) (.string ⟨P.toArray⟩) (.int .i64 N) ∧ Chg No wA wx)
        case first =>
          refine wp_region_K (S := fun W => Chg No wA W) (k := 10) (by kernel_rfl) ?_
          have h0 : Chg No wA wA.drew := (Chg.refl No wA).drew
          generalize wA.drew = W0 at h0 ⊢
          refine wpAnyK_take 0 (.agg #[.string ⟨d.toArray⟩, .string ⟨p.toArray⟩, .int .i64 n]) rfl (by kernel_rfl) (fun _ _ _ h => h) h0 rfl (by intro w hw; obtain ⟨⟨c0, c1, c2, fr⟩, ⟨d0, d1, fd⟩⟩ := HBX.out w hw; go_simp) ?_
          simp only [List.getElem_toArray, List.getElem_cons_zero, Act.put, List.setIfInBounds_toArray, List.set_cons_zero, List.set_cons_succ]
          refine wpAnyK_take 2 (.agg #[.string ⟨c.toArray⟩, .string ⟨r.toArray⟩]) rfl (by kernel_rfl) (fun _ _ _ h => h) h0 rfl (by intro w hw; obtain ⟨⟨c0, c1, c2, fr⟩, ⟨d0, d1, fd⟩⟩ := HBX.out w hw; go_simp) ?_
          simp only [List.getElem_toArray, List.getElem_cons_succ, List.getElem_cons_zero, Act.put, List.setIfInBounds_toArray, List.set_cons_zero, List.set_cons_succ]
          refine wpAnyK_2 1 8 (by kernel_rfl) (wpOpK' rfl rfl ?_) (wpOpK' rfl rfl ?_)
          ·
            intro K hK
            refine ocallR (f := 16) (args := #[.agg #[.string ⟨d.toArray⟩, .string ⟨p.toArray⟩, .int .i64 n]]) (by go_simp) (q1.out W0) (fun W1 x1 => hK.out _ _ (h0.trans x1) ?_)
            clear hK K
            simp only [List.getElem_toArray, List.getElem_cons_succ, List.getElem_cons_zero, Act.put, List.setIfInBounds_toArray, List.set_cons_zero, List.set_cons_succ]
            have h1 := h0.trans x1
            refine wpAnyK_2 3 8 (by kernel_rfl) (wpOpK' rfl rfl ?_) (wpOpK' rfl rfl ?_)
            ·
              intro K hK
              refine ocallR (f := 24) (args := #[.agg #[.string ⟨c.toArray⟩, .string ⟨r.toArray⟩]]) (by go_simp) (q2.out W1) (fun W2 x2 => hK.out _ _ (h1.trans x2) ?_)
              clear hK K
              simp only [List.getElem_toArray, List.getElem_cons_succ, List.getElem_cons_zero, Act.put, List.setIfInBounds_toArray, List.set_cons_zero, List.set_cons_succ]
              have h2 := h1.trans x2
              refine wpAnyK_2 4 8 (by kernel_rfl) (wpOpK' rfl rfl ?_) (wpOpK' rfl rfl ?_)
              ·
                intro K hK
                refine ocallR (f := 25) (args := #[.agg #[.string ⟨d.toArray⟩, .string ⟨p.toArray⟩, .int .i64 n], .agg #[.string ⟨c.toArray⟩, .string ⟨r.toArray⟩]]) (by go_simp) (q4.out W2 (HL.out.keep ((hk1.trans hk2).trans (kA.trans h2)))) (fun W3 x3 => hK.out _ _ (h2.trans x3) ?_)
                clear hK K
                simp only [List.getElem_toArray, List.getElem_cons_succ, List.getElem_cons_zero, Act.put, List.setIfInBounds_toArray, List.set_cons_zero, List.set_cons_succ]
                have h3 := h2.trans x3
                refine wpAnyK_take 5 (.tuple #[.agg #[.string ⟨d.toArray⟩, .string ⟨P.toArray⟩, .int .i64 N], .int .i64 s]) rfl (by kernel_rfl) (fun _ _ _ h => h) h3 rfl (by intro w hw; go_simp) ?_
                simp only [List.getElem_toArray, List.getElem_cons_succ, List.getElem_cons_zero, Act.put, List.setIfInBounds_toArray, List.set_cons_zero, List.set_cons_succ]
                refine wpAnyK_take 6 (.agg #[.string ⟨d.toArray⟩, .string ⟨P.toArray⟩, .int .i64 N]) rfl (by kernel_rfl) (fun _ _ _ h => h) h3 rfl (by intro w hw; go_simp) ?_
                simp only [List.getElem_toArray, List.getElem_cons_succ, List.getElem_cons_zero, Act.put, List.setIfInBounds_toArray, List.set_cons_zero, List.set_cons_succ]
                refine wpAnyK_take 7 (.int .i64 s) rfl (by kernel_rfl) (fun _ _ _ h => h) h3 rfl (by intro w hw; go_simp) ?_
                simp only [List.getElem_toArray, List.getElem_cons_succ, List.getElem_cons_zero, Act.put, List.setIfInBounds_toArray, List.set_cons_zero, List.set_cons_succ]
                refine wpAnyK_1 8 (by kernel_rfl) (wpOpK' rfl rfl ?_)
                intro K hK
                have hsA := h3.size
                unfold Oper.wp execOp
                go_simp
                have bx := BoxL.new W3 (.string ⟨#[]⟩) (.string ⟨#[]⟩) (.int .i64 0) 23
                have h4 := h3.alloc (.cells #[.string ⟨#[]⟩, .string ⟨#[]⟩, .int .i64 0] 23)
                obtain ⟨bb, hbb⟩ : ∃ bb, W3.heap.size = bb := ⟨_, rfl⟩
                rw [hbb] at bx hsA ⊢
                generalize W3.alloc (.cells #[.string ⟨#[]⟩, .string ⟨#[]⟩, .int .i64 0] 23) = W4 at bx h4 ⊢
                refine hK.out _ _ h4 ?_
                clear hK K hbb
                simp only [List.setIfInBounds_toArray]
                refine wpAnyK_1 9 (by kernel_rfl) (wpOpK' rfl rfl ?_)
                intro K hK
                have hF := h4.put3 (fun h => absurd h (by omega)) (b := bb) (.string ⟨d.toArray⟩) (.string ⟨P.toArray⟩) (.int .i64 N)
                have hbF := bx.put (.string ⟨d.toArray⟩) (.string ⟨P.toArray⟩) (.int .i64 N)
                obtain ⟨g0, g1, g2, fg⟩ := id bx
                have fg0 := fg 0
                have fg1 := fg 1
                have fg2 := fg 2
                clear fg
                unfold Oper.wp execOp
                go_simp
                refine hK.out _ _ hF ?_
                clear hK K g0 g1 g2 fg0 fg1 fg2
                simp only [List.setIfInBounds_toArray]
                refine wpAnyK_tail 10 rfl (by kernel_rfl) ?_
                simp only [List.drop_succ_cons, List.drop_zero]
                go_wp2_with fail
                go_meet
                case rel => exact ⟨bb, rfl, rfl, hbF, hF⟩
              ·
                intro K hK
                have hsA := h2.size
                unfold Oper.wp execOp
                go_simp
                have bx := BoxL.new W2 (.string ⟨#[]⟩) (.string ⟨#[]⟩) (.int .i64 0) 23
                have h3 := h2.alloc (.cells #[.string ⟨#[]⟩, .string ⟨#[]⟩, .int .i64 0] 23)
                obtain ⟨bb, hbb⟩ : ∃ bb, W2.heap.size = bb := ⟨_, rfl⟩
                rw [hbb] at bx hsA ⊢
                generalize W2.alloc (.cells #[.string ⟨#[]⟩, .string ⟨#[]⟩, .int .i64 0] 23) = W3 at bx h3 ⊢
                refine hK.out _ _ h3 ?_
                clear hK K hbb
                simp only [List.setIfInBounds_toArray]
                refine wpAnyK_1 4 (by kernel_rfl) (wpOpK' rfl rfl ?_)
                intro K hK
                refine ocallR (f := 25) (args := #[.agg #[.string ⟨d.toArray⟩, .string ⟨p.toArray⟩, .int .i64 n], .agg #[.string ⟨c.toArray⟩, .string ⟨r.toArray⟩]]) (by go_simp) (q4.out W3 (HL.out.keep ((hk1.trans hk2).trans (kA.trans h3)))) (fun W4 x4 => hK.out _ _ (h3.trans x4) ?_)
                clear hK K
                simp only [List.getElem_toArray, List.getElem_cons_succ, List.getElem_cons_zero, Act.put, List.setIfInBounds_toArray, List.set_cons_zero, List.set_cons_succ]
                have h4 := h3.trans x4
                have bx := bx.keep x4
                refine wpAnyK_take 5 (.tuple #[.agg #[.string ⟨d.toArray⟩, .string ⟨P.toArray⟩, .int .i64 N], .int .i64 s]) rfl (by kernel_rfl) (fun _ _ _ h => h) h4 rfl (by intro w hw; go_simp) ?_
                simp only [List.getElem_toArray, List.getElem_cons_succ, List.getElem_cons_zero, Act.put, List.setIfInBounds_toArray, List.set_cons_zero, List.set_cons_succ]
                refine wpAnyK_take 6 (.agg #[.string ⟨d.toArray⟩, .string ⟨P.toArray⟩, .int .i64 N]) rfl (by kernel_rfl) (fun _ _ _ h => h) h4 rfl (by intro w hw; go_simp) ?_
                simp only [List.getElem_toArray, List.getElem_cons_succ, List.getElem_cons_zero, Act.put, List.setIfInBounds_toArray, List.set_cons_zero, List.set_cons_succ]
                refine wpAnyK_take 7 (.int .i64 s) rfl (by kernel_rfl) (fun _ _ _ h => h) h4 rfl (by intro w hw; go_simp) ?_
                simp only [List.getElem_toArray, List.getElem_cons_succ, List.getElem_cons_zero, Act.put, List.setIfInBounds_toArray, List.set_cons_zero, List.set_cons_succ]
                refine wpAnyK_1 9 (by kernel_rfl) (wpOpK' rfl rfl ?_)
                intro K hK
                have hF := h4.put3 (fun h => absurd h (by omega)) (b := bb) (.string ⟨d.toArray⟩) (.string ⟨P.toArray⟩) (.int .i64 N)
                have hbF := bx.put (.string ⟨d.toArray⟩) (.string ⟨P.toArray⟩) (.int .i64 N)
                obtain ⟨g0, g1, g2, fg⟩ := id bx
                have fg0 := fg 0
                have fg1 := fg 1
                have fg2 := fg 2
                clear fg
                unfold Oper.wp execOp
                go_simp
                refine hK.out _ _ hF ?_
                clear hK K g0 g1 g2 fg0 fg1 fg2
                simp only [List.setIfInBounds_toArray]
                refine wpAnyK_tail 10 rfl (by kernel_rfl) ?_
                simp only [List.drop_succ_cons, List.drop_zero]
                go_wp2_with fail
                go_meet
                case rel => exact ⟨bb, rfl, rfl, hbF, hF⟩
            ·
              intro K hK
              have hsA := h1.size
              unfold Oper.wp execOp
              go_simp
              have bx := BoxL.new W1 (.string ⟨#[]⟩) (.string ⟨#[]⟩) (.int .i64 0) 23
              have h2 := h1.alloc (.cells #[.string ⟨#[]⟩, .string ⟨#[]⟩, .int .i64 0] 23)
              obtain ⟨bb, hbb⟩ : ∃ bb, W1.heap.size = bb := ⟨_, rfl⟩
              rw [hbb] at bx hsA ⊢
              generalize W1.alloc (.cells #[.string ⟨#[]⟩, .string ⟨#[]⟩, .int .i64 0] 23) = W2 at bx h2 ⊢
              refine hK.out _ _ h2 ?_
              clear hK K hbb
              simp only [List.setIfInBounds_toArray]
              refine wpAnyK_1 3 (by kernel_rfl) (wpOpK' rfl rfl ?_)
              intro K hK
              refine ocallR (f := 24) (args := #[.agg #[.string ⟨c.toArray⟩, .string ⟨r.toArray⟩]]) (by go_simp) (q2.out W2) (fun W3 x3 => hK.out _ _ (h2.trans x3) ?_)
              clear hK K
              simp only [List.getElem_toArray, List.getElem_cons_succ, List.getElem_cons_zero, Act.put, List.setIfInBounds_toArray, List.set_cons_zero, List.set_cons_succ]
              have h3 := h2.trans x3
              have bx := bx.keep x3
              refine wpAnyK_1 4 (by kernel_rfl) (wpOpK' rfl rfl ?_)
              intro K hK
              refine ocallR (f := 25) (args := #[.agg #[.string ⟨d.toArray⟩, .string ⟨p.toArray⟩, .int .i64 n], .agg #[.string ⟨c.toArray⟩, .string ⟨r.toArray⟩]]) (by go_simp) (q4.out W3 (HL.out.keep ((hk1.trans hk2).trans (kA.trans h3)))) (fun W4 x4 => hK.out _ _ (h3.trans x4) ?_)
              clear hK K
              simp only [List.getElem_toArray, List.getElem_cons_succ, List.getElem_cons_zero, Act.put, List.setIfInBounds_toArray, List.set_cons_zero, List.set_cons_succ]
              have h4 := h3.trans x4
              have bx := bx.keep x4
              refine wpAnyK_take 5 (.tuple #[.agg #[.string ⟨d.toArray⟩, .string ⟨P.toArray⟩, .int .i64 N], .int .i64 s]) rfl (by kernel_rfl) (fun _ _ _ h => h) h4 rfl (by intro w hw; go_simp) ?_
              simp only [List.getElem_toArray, List.getElem_cons_succ, List.getElem_cons_zero, Act.put, List.setIfInBounds_toArray, List.set_cons_zero, List.set_cons_succ]
              refine wpAnyK_take 6 (.agg #[.string ⟨d.toArray⟩, .string ⟨P.toArray⟩, .int .i64 N]) rfl (by kernel_rfl) (fun _ _ _ h => h) h4 rfl (by intro w hw; go_simp) ?_
              simp only [List.getElem_toArray, List.getElem_cons_succ, List.getElem_cons_zero, Act.put, List.setIfInBounds_toArray, List.set_cons_zero, List.set_cons_succ]
              refine wpAnyK_take 7 (.int .i64 s) rfl (by kernel_rfl) (fun _ _ _ h => h) h4 rfl (by intro w hw; go_simp) ?_
              simp only [List.getElem_toArray, List.getElem_cons_succ, List.getElem_cons_zero, Act.put, List.setIfInBounds_toArray, List.set_cons_zero, List.set_cons_succ]
              refine wpAnyK_1 9 (by kernel_rfl) (wpOpK' rfl rfl ?_)
              intro K hK
              have hF := h4.put3 (fun h => absurd h (by omega)) (b := bb) (.string ⟨d.toArray⟩) (.string ⟨P.toArray⟩) (.int .i64 N)
              have hbF := bx.put (.string ⟨d.toArray⟩) (.string ⟨P.toArray⟩) (.int .i64 N)
              obtain ⟨g0, g1, g2, fg⟩ := id bx
              have fg0 := fg 0
              have fg1 := fg 1
              have fg2 := fg 2
              clear fg
              unfold Oper.wp execOp
              go_simp
              refine hK.out _ _ hF ?_
              clear hK K g0 g1 g2 fg0 fg1 fg2
              simp only [List.setIfInBounds_toArray]
              refine wpAnyK_tail 10 rfl (by kernel_rfl) ?_
              simp only [List.drop_succ_cons, List.drop_zero]
              go_wp2_with fail
              go_meet
              case rel => exact ⟨bb, rfl, rfl, hbF, hF⟩
          ·
            intro K hK
            have hsA := h0.size
            unfold Oper.wp execOp
            go_simp
            have bx := BoxL.new W0 (.string ⟨#[]⟩) (.string ⟨#[]⟩) (.int .i64 0) 23
            have h1 := h0.alloc (.cells #[.string ⟨#[]⟩, .string ⟨#[]⟩, .int .i64 0] 23)
            obtain ⟨bb, hbb⟩ : ∃ bb, W0.heap.size = bb := ⟨_, rfl⟩
            rw [hbb] at bx hsA ⊢
            generalize W0.alloc (.cells #[.string ⟨#[]⟩, .string ⟨#[]⟩, .int .i64 0] 23) = W1 at bx h1 ⊢
            refine hK.out _ _ h1 ?_
            clear hK K hbb
            simp only [List.setIfInBounds_toArray]
            refine wpAnyK_1 1 (by kernel_rfl) (wpOpK' rfl rfl ?_)
            intro K hK
            refine ocallR (f := 16) (args := #[.agg #[.string ⟨d.toArray⟩, .string ⟨p.toArray⟩, .int .i64 n]]) (by go_simp) (q1.out W1) (fun W2 x2 => hK.out _ _ (h1.trans x2) ?_)
            clear hK K
            simp only [List.getElem_toArray, List.getElem_cons_succ, List.getElem_cons_zero, Act.put, List.setIfInBounds_toArray, List.set_cons_zero, List.set_cons_succ]
            have h2 := h1.trans x2
            have bx := bx.keep x2
            refine wpAnyK_1 3 (by kernel_rfl) (wpOpK' rfl rfl ?_)
            intro K hK
            refine ocallR (f := 24) (args := #[.agg #[.string ⟨c.toArray⟩, .string ⟨r.toArray⟩]]) (by go_simp) (q2.out W2) (fun W3 x3 => hK.out _ _ (h2.trans x3) ?_)
            clear hK K
            simp only [List.getElem_toArray, List.getElem_cons_succ, List.getElem_cons_zero, Act.put, List.setIfInBounds_toArray, List.set_cons_zero, List.set_cons_succ]
            have h3 := h2.trans x3
            have bx := bx.keep x3
            refine wpAnyK_1 4 (by kernel_rfl) (wpOpK' rfl rfl ?_)
            intro K hK
            refine ocallR (f := 25) (args := #[.agg #[.string ⟨d.toArray⟩, .string ⟨p.toArray⟩, .int .i64 n], .agg #[.string ⟨c.toArray⟩, .string ⟨r.toArray⟩]]) (by go_simp) (q4.out W3 (HL.out.keep ((hk1.trans hk2).trans (kA.trans h3)))) (fun W4 x4 => hK.out _ _ (h3.trans x4) ?_)
            clear hK K
            simp only [List.getElem_toArray, List.getElem_cons_succ, List.getElem_cons_zero, Act.put, List.setIfInBounds_toArray, List.set_cons_zero, List.set_cons_succ]
            have h4 := h3.trans x4
            have bx := bx.keep x4
            refine wpAnyK_take 5 (.tuple #[.agg #[.string ⟨d.toArray⟩, .string ⟨P.toArray⟩, .int .i64 N], .int .i64 s]) rfl (by kernel_rfl) (fun _ _ _ h => h) h4 rfl (by intro w hw; go_simp) ?_
            simp only [List.getElem_toArray, List.getElem_cons_succ, List.getElem_cons_zero, Act.put, List.setIfInBounds_toArray, List.set_cons_zero, List.set_cons_succ]
            refine wpAnyK_take 6 (.agg #[.string ⟨d.toArray⟩, .string ⟨P.toArray⟩, .int .i64 N]) rfl (by kernel_rfl) (fun _ _ _ h => h) h4 rfl (by intro w hw; go_simp) ?_
            simp only [List.getElem_toArray, List.getElem_cons_succ, List.getElem_cons_zero, Act.put, List.setIfInBounds_toArray, List.set_cons_zero, List.set_cons_succ]
            refine wpAnyK_take 7 (.int .i64 s) rfl (by kernel_rfl) (fun _ _ _ h => h) h4 rfl (by intro w hw; go_simp) ?_
            simp only [List.getElem_toArray, List.getElem_cons_succ, List.getElem_cons_zero, Act.put, List.setIfInBounds_toArray, List.set_cons_zero, List.set_cons_succ]
            refine wpAnyK_1 9 (by kernel_rfl) (wpOpK' rfl rfl ?_)
            intro K hK
            have hF := h4.put3 (fun h => absurd h (by omega)) (b := bb) (.string ⟨d.toArray⟩) (.string ⟨P.toArray⟩) (.int .i64 N)
            have hbF := bx.put (.string ⟨d.toArray⟩) (.string ⟨P.toArray⟩) (.int .i64 N)
            obtain ⟨g0, g1, g2, fg⟩ := id bx
            have fg0 := fg 0
            have fg1 := fg 1
            have fg2 := fg 2
            clear fg
            unfold Oper.wp execOp
            go_simp
            refine hK.out _ _ hF ?_
            clear hK K g0 g1 g2 fg0 fg1 fg2
            simp only [List.setIfInBounds_toArray]
            refine wpAnyK_tail 10 rfl (by kernel_rfl) ?_
            simp only [List.drop_succ_cons, List.drop_zero]
            go_wp2_with fail
            go_meet
            case rel => exact ⟨bb, rfl, rfl, hbF, hF⟩
        case rest =>
          obtain ⟨b2, rfl, rfl, bxB, kB⟩ := hcut
          obtain ⟨c0, c1, c2, fr⟩ := bxA.keep kB
          obtain ⟨d0, d1, d2, fd⟩ := bxB
          go_wp2_with (go_at_call 13; refine (q5.out _).mono ?_; rintro e w6 ⟨rfl, hk6⟩)
          go_ret
          exact ⟨rfl, HK0.out.trans ((hk1.trans hk2).trans (kA.trans (kB.trans hk6)))⟩
    · have q9 := Lib.hid (fun W => szRec_no c r (1048576 - d.length - p.length) W (by omega) (by omega) (by omega) hc hr)
      unfold lv at q0 ⊢
      unfold rv at q9 ⊢
      go_enter Tryd.func7, Tryd.ntmps7
      go_wp2_with (first | (go_at_call 14; refine (q0.out _).mono ?_; rintro e w1 ⟨rfl, hk1⟩; obtain ⟨⟨c0, c1, c2, fr⟩, ⟨d0, d1, fd⟩⟩ := HBOX.out w1 hk1) | (go_at_call 22; refine (q9.out _).mono ?_; rintro e w2 ⟨rfl, hk2⟩))
      go_ret
      exact ⟨rfl, HK0.out.trans (hk1.trans hk2)⟩
  · have q0 := Lib.hid (fun W => szLog_no d p n 1048576 W (by omega) (by omega) (by omega) hd hp)
    unfold lv at q0 ⊢
    unfold rv
    go_enter Tryd.func7, Tryd.ntmps7
    go_wp2_with (go_at_call 14; refine (q0.out _).mono ?_; rintro e w1 ⟨rfl, hk1⟩)
    go_ret
    exact ⟨rfl, HK0.out.trans hk1⟩
end Go.Proofs.YtmnohickmidfkaaDoor
