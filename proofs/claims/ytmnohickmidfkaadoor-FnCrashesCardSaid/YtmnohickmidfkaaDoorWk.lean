import Derived.Test.YtmnohickmidfkaaDoorWj
/- a crash drawn over codes -/
namespace Go.Proofs.YtmnohickmidfkaaDoor
open Go.RowKit

set_option maxRecDepth 100000 in
set_option maxHeartbeats 4000000 in
theorem DrawCrash_any (v : Value) (m : Nat) (w : World) (h : Code w v m) (hn : m ≤ 70001) :
    Calls Tryd.prog 42 #[v] w fun e w' => ∃ (d p : List UInt8) (n K : Int) (t : Bool), e = .returned (.tuple #[lv d p n, .int .i64 K, .bool t]) ∧ d.length + p.length ≤ 61000 ∧ Chg No w w' := by
  obtain ⟨a, cp, rfl⟩ := h.shape
  have k0 := (Chg.refl No w).alloc (.cells #[.string ⟨#[]⟩, .string ⟨#[]⟩, .int .i64 0] 23)
  have bx := BoxL.new w (.string ⟨#[]⟩) (.string ⟨#[]⟩) (.int .i64 0) 23
  have k1 := k0.alloc (.cells #[.slice a m cp, .int .i64 0, .int .u64 0] 76)
  have hc := Cur.new (h.keep k0) (by omega) 76
  rw [World.size_alloc] at hc
  have hsz : ((w.alloc (.cells #[.string ⟨#[]⟩, .string ⟨#[]⟩, .int .i64 0] 23)).alloc (.cells #[.slice a m cp, .int .i64 0, .int .u64 0] 76)).heap.size = w.heap.size + 1 + 1 := by rw [World.size_alloc, World.size_alloc]
  have HZ := Lib.hid hsz
  have HB0 := Lib.hid (bx.keep ((Chg.refl No _).alloc (.cells #[.slice a m cp, .int .i64 0, .int .u64 0] 76)))
  have q1 := Lib.hid (anyLog_any _ _ _ _ hc (by omega) (by omega))
  clear h hc bx k0 hsz
  unfold lv at q1 ⊢
  go_enter Tryd.func42, Tryd.ntmps42
  go_upto_region 4 with (first
    | (go_at_call 57; refine (q1.out).mono ?_; rintro e w1 ⟨d, p, n, rfl, hlen, hc1, hk1⟩; have hs1 := hk1.size; have hz := HZ.out; have kL := (Chg.refl No w1).alloc (.cells #[.string ⟨d.toArray⟩, .string ⟨p.toArray⟩, .int .i64 n] 23); have hbL := BoxL.new w1 (.string ⟨d.toArray⟩) (.string ⟨p.toArray⟩) (.int .i64 n) 23; have hbx := id hbL; obtain ⟨c0, c1, c2, fr⟩ := hbL; have kk1 := (k1.step hk1 (fun q hq hl => by omega)).trans kL; have hr0 := (HB0.out.step hk1 (by omega)).keep kL; have hwp : IntKind.i64.wrap ((p.length : Int) + 3) = (p.length : Int) + 3 := IntWalk.i64_in _ (by omega))
    | (go_at_call 59; refine (pick_any _ _ (0 + 120) ((p.length : Int) + 3) _ (hc1.keep kL) (by omega) (by omega)).mono ?_; rintro e w2 ⟨x, rfl, hx0, hx1, _, hc2, hk2⟩; have hbx := hbx.step hk2 (by omega); have kk2 := kk1.step hk2 (fun q hq hl => by omega); have hr0 := hr0.step hk2 (by omega); have hx2 := hx1 (by omega); have hwx : IntKind.i64.wrap (x - 1) = x - 1 := IntWalk.i64_in _ (by omega); clear c0 c1 c2 fr))
  have hwl : w.heap.size + 1 + 1 ≤ w1.heap.size := by omega
  generalize w1.heap.size = bL at hbx hwl ⊢
  refine wp_region_K (S := fun W => BoxL W bL (.string ⟨d.toArray⟩) (.string ⟨p.toArray⟩) (.int .i64 n)) (k := 6) (by kernel_rfl) ?_
  have hS := hbx.keep (Chg.refl No w2).drew
  have hcur1 := hc2.keep (Chg.refl No w2).drew
  have kk1 := kk2.keep (Chg.refl No w2).drew
  have hr0 := hr0.keep (Chg.refl No w2).drew
  generalize w2.drew = W1 at hS hcur1 kk1 hr0 ⊢
  refine wpAnyK_take 0 (.agg #[.string ⟨d.toArray⟩, .string ⟨p.toArray⟩, .int .i64 n]) rfl (by kernel_rfl) (fun _ _ _ h => h) hS rfl (by rintro w ⟨c0, c1, c2, fr⟩; go_simp) ?_
  simp only [List.getElem_toArray, List.getElem_cons_zero, Act.put, List.setIfInBounds_toArray, List.set_cons_zero, List.set_cons_succ]
  refine wpAnyK_take 1 (.int .i64 (x - 1)) rfl (by kernel_rfl) (fun _ _ _ h => h) hS rfl (by rintro w ⟨c0, c1, c2, fr⟩; go_simp) ?_
  simp only [List.getElem_toArray, List.getElem_cons_succ, List.getElem_cons_zero, Act.put, List.setIfInBounds_toArray, List.set_cons_zero, List.set_cons_succ]
  refine wpAnyK_take 2 (.pointer (some ⟨w.heap.size + 1, 0, none⟩)) rfl (by kernel_rfl) (fun _ _ _ h => h) hS rfl (by rintro w ⟨c0, c1, c2, fr⟩; go_simp) ?_
  simp only [List.getElem_toArray, List.getElem_cons_succ, List.getElem_cons_zero, Act.put, List.setIfInBounds_toArray, List.set_cons_zero, List.set_cons_succ]
  have hs1 := kk1.size
  have hltb := hS.lt
  refine wpAnyK_1 3 (by kernel_rfl) (wpOpK' rfl rfl ?_)
  intro K0 hK0
  refine ocallE (f := 58) (args := #[.pointer (some ⟨w.heap.size + 1, 0, none⟩), .int .i64 2]) (φ := fun v W' => ∃ t : Bool, v = .bool t ∧ Chg (fun q => q = w.heap.size + 1) W1 W') (by go_simp) ((one_any _ _ (0 + 120 + 2) 2 W1 hcur1 (by omega) (by omega)).mono (fun e W' ⟨t, h1, _, h3⟩ => ⟨_, h1, t, rfl, h3⟩)) (fun v2 W2 h2 => ?_)
  obtain ⟨t, rfl, k2⟩ := h2
  have hS := hS.step k2 (by omega)
  have hr0 := hr0.step k2 (by omega)
  have kk2 := kk1.step k2 (fun q hq hl => by omega)
  refine hK0.out _ _ hS ?_
  clear hK0 K0
  simp only [List.getElem_toArray, List.getElem_cons_succ, List.getElem_cons_zero, Act.put, List.setIfInBounds_toArray, List.set_cons_zero, List.set_cons_succ]
  obtain ⟨e0, e1, e2, fe⟩ := id hr0
  have fe0 := fe 0
  have fe1 := fe 1
  have fe2 := fe 2
  clear fe
  have hltL := hS.lt
  refine wpAnyK_1 4 (by kernel_rfl) (wpOpK' rfl rfl ?_)
  intro K0 hK0
  have kst := Chg.put3 (S := fun q => q = w.heap.size) (Chg.refl _ W2) (b := w.heap.size) (fun _ => rfl) (.string ⟨d.toArray⟩) (.string ⟨p.toArray⟩) (.int .i64 n)
  unfold Oper.wp execOp
  go_simp
  have hS := hS.step kst (by omega)
  refine hK0.out _ _ hS ?_
  clear hK0 K0 e0 e1 e2 fe0 fe1 fe2
  simp only [List.setIfInBounds_toArray]
  obtain ⟨z0, z1, z2, _⟩ := hr0.put (.string ⟨d.toArray⟩) (.string ⟨p.toArray⟩) (.int .i64 n)
  generalize ((W2.setCell ⟨w.heap.size, 0, none⟩ (.string ⟨d.toArray⟩)).setCell ⟨w.heap.size, 1, none⟩ (.string ⟨p.toArray⟩)).setCell ⟨w.heap.size, 2, none⟩ (.int .i64 n) = W3 at kst hS z0 z1 z2 ⊢
  refine wpAnyK_take 5 (.int .i64 (x - 1)) rfl (by kernel_rfl) (fun _ _ _ h => h) hS rfl (by rintro w ⟨c0, c1, c2, fr⟩; go_simp) ?_
  simp only [List.getElem_toArray, List.getElem_cons_succ, List.getElem_cons_zero, Act.put, List.setIfInBounds_toArray, List.set_cons_zero, List.set_cons_succ]
  refine wpAnyK_tail 6 rfl (by kernel_rfl) ?_
  simp only [List.drop_succ_cons, List.drop_zero]
  go_wp2_with fail
  refine bodyPost_ret (v := .tuple #[.agg #[.string ⟨d.toArray⟩, .string ⟨p.toArray⟩, .int .i64 n], .int .i64 (x - 1), .bool t]) (by simp [results, Tryd.results42, go_sem, z0, z1, z2]) rfl ?_
  exact ⟨d, p, n, x - 1, t, rfl, hlen, kk2.step kst (fun q hq hl => by omega)⟩
end Go.Proofs.YtmnohickmidfkaaDoor
