import Derived.Test.YtndhijckbponkaaGreatRk
import Derived.Test.YtndhijckbponkaaGreatRh
import Derived.Test.YtndhijckbponkaaGreatPkX11
/- what DrawExpectedCost draws -/
namespace Go.Proofs.YtndhijckbponkaaGreat
open Go.RowKit

set_option maxRecDepth 100000 in
set_option maxHeartbeats 4000000 in
theorem DrawExpectedCost_any (v : Value) (n : Nat) (w : World) (hco : Code w v n) (hn : n ≤ 70001) :
    Calls Tryz.prog 9 #[v] w fun e w' => ∃ (pv nv cv : Value) (st : Int) (P : Pr) (nx : List (List Int)) (qs : List (List Int)) (ws : List Int), e = .returned (.tuple #[pv, nv, .int .i64 st, cv]) ∧ RPr No w' pv P ∧ RII No w' nv nx ∧ RCh No w' cv qs ws ∧ Chg No w w' := by
  obtain ⟨a, cp, rfl⟩ := hco.shape
  go_enter Tryz.func9, Tryz.ntmps9
  go_wp2_with fail
  have hc0 := Cur.new (hco.keep (((Chg.refl No w).alloc (.cells #[.slice none 0 0, .slice none 0 0] 26)).trans ((Chg.refl No _).alloc (.cells #[.slice none 0 0, .slice none 0 0] 29)))) (by omega) 68
  rw [show ((w.alloc (.cells #[.slice none 0 0, .slice none 0 0] 26)).alloc (.cells #[.slice none 0 0, .slice none 0 0] 29)).heap.size = w.heap.size + 1 + 1 by simp] at hc0
  revert hc0
  refine bx3z (R := fun W => Cur W (w.heap.size + 1 + 1) (w.heap.size + 1 + 1 + 1) 0 → Calls _ _ _ W _) (fun W0 k0 hz b0 b1 _ hc => ?_)
  obtain ⟨R, hR⟩ : ∃ R, w.heap.size = R := ⟨_, rfl⟩
  rw [hR] at b0 b1 hz hc ⊢
  have HR := Lib.hid hR
  clear hco hR
  refine (problem_any (R + 2) (R + 3) 0 W0 hc (by omega) (by omega)).mono ?_
  rintro e w1 ⟨pv, P, rfl, hP, hm8, hs40, hc1, hk1⟩
  obtain ⟨m, s⟩ := P
  dsimp only at hm8 hs40
  have hs1 := hk1.size
  have kk := k0.step hk1 (fun q e hl => by have := HR.out; omega)
  replace b0 := b0.step hk1 (by omega)
  replace b1 := b1.step hk1 (by omega)
  rw [hz] at hP
  obtain ⟨mv, sv, rfl, hpm, hps⟩ := id hP
  dsimp only at hpm hps
  obtain ⟨ma, mc, rfl, _⟩ := hpm.view
  obtain ⟨sa, sc, rfl, _⟩ := hps.view
  clear hpm hps hc k0 hk1
  have b7 := BoxN.new w1 #[.slice ma m.length mc, .slice sa s.length sc] 26
  have ka := (Chg.refl No w1).alloc (.cells #[.slice ma m.length mc, .slice sa s.length sc] 26)
  obtain ⟨X7, hX7⟩ : ∃ X, w1.heap.size = X := ⟨_, rfl⟩
  rw [hX7] at b7
  have hX : R + 2 < X7 := by omega
  replace kk := kk.keep ka
  replace hP := hP.keep ka
  replace hc1 := hc1.keep ka
  replace b0 := b0.keep ka
  replace b1 := b1.keep ka
  have z2 : (w1.alloc (.cells #[.slice ma m.length mc, .slice sa s.length sc] 26)).heap.size = X7 + 1 := by rw [World.size_alloc, hX7]
  go_wp2_with fail
  clear ka hX7 hs1 hz
  generalize w1.alloc (.cells #[.slice ma m.length mc, .slice sa s.length sc] 26) = w2 at *
  refine wp_region_K (S := fun W => W.cell? ⟨X7, 0, none⟩ = some (.slice ma m.length mc) ∧ W.cell? ⟨X7, 1, none⟩ = some (.slice sa s.length sc)) (k := 13) (by kernel_rfl) ?_
  have kd := drewN0 w2
  replace kk := kk.keep kd
  replace hP := hP.keep kd
  replace hc1 := hc1.keep kd
  replace b0 := b0.keep kd
  replace b1 := b1.keep kd
  replace b7 := b7.keep kd
  have z3 : X7 + 1 ≤ (World.drew w2).heap.size := by have := kd.size; omega
  clear kd z2
  generalize World.drew w2 = WQ at *
  have hS : WQ.cell? ⟨X7, 0, none⟩ = some (.slice ma m.length mc) ∧ WQ.cell? ⟨X7, 1, none⟩ = some (.slice sa s.length sc) := ⟨b7.c 0 _ rfl, b7.c 1 _ rfl⟩
  refine wpAnyK_takeT 0 (.agg #[.slice ma m.length mc, .slice sa s.length sc]) rfl (by kernel_rfl) (fun _ _ _ h => h) hS rfl (by intro w hSw; go_simp) ?_
  simp only [List.getElem_toArray, List.getElem_cons_zero, Act.put, List.setIfInBounds_toArray, List.set_cons_zero, List.set_cons_succ]
  refine wpAnyK_take0 1 (.pointer (some ⟨R + 2, 0, none⟩)) rfl (by kernel_rfl) (fun _ _ _ h => h) hS rfl (by intro w; go_simp) ?_
  simp only [List.getElem_toArray, List.getElem_cons_succ, List.getElem_cons_zero, Act.put, List.setIfInBounds_toArray, List.set_cons_zero, List.set_cons_succ]
  refine wpAnyK_takeT 2 (.agg #[.slice ma m.length mc, .slice sa s.length sc]) rfl (by kernel_rfl) (fun _ _ _ h => h) hS rfl (by intro w hSw; go_simp) ?_
  simp only [List.getElem_toArray, List.getElem_cons_succ, List.getElem_cons_zero, Act.put, List.setIfInBounds_toArray, List.set_cons_zero, List.set_cons_succ]
  refine wpAnyK_take0 4 (.pointer (some ⟨R + 2, 0, none⟩)) rfl (by kernel_rfl) (fun _ _ _ h => h) hS rfl (by intro w; go_simp) ?_
  simp only [List.getElem_toArray, List.getElem_cons_succ, List.getElem_cons_zero, Act.put, List.setIfInBounds_toArray, List.set_cons_zero, List.set_cons_succ]
  refine wpAnyK_takeT 5 (.agg #[.slice ma m.length mc, .slice sa s.length sc]) rfl (by kernel_rfl) (fun _ _ _ h => h) hS rfl (by intro w hSw; go_simp) ?_
  simp only [List.getElem_toArray, List.getElem_cons_succ, List.getElem_cons_zero, Act.put, List.setIfInBounds_toArray, List.set_cons_zero, List.set_cons_succ]
  refine wpAnyK_take0 7 (.pointer (some ⟨R + 2, 0, none⟩)) rfl (by kernel_rfl) (fun _ _ _ h => h) hS rfl (by intro w; go_simp) ?_
  simp only [List.getElem_toArray, List.getElem_cons_succ, List.getElem_cons_zero, Act.put, List.setIfInBounds_toArray, List.set_cons_zero, List.set_cons_succ]
  refine wpAnyK_takeT 8 (.agg #[.slice ma m.length mc, .slice sa s.length sc]) rfl (by kernel_rfl) (fun _ _ _ h => h) hS rfl (by intro w hSw; go_simp) ?_
  simp only [List.getElem_toArray, List.getElem_cons_succ, List.getElem_cons_zero, Act.put, List.setIfInBounds_toArray, List.set_cons_zero, List.set_cons_succ]
  refine wpAnyK_1 3 (by kernel_rfl) (wpOpK' rfl rfl ?_)
  intro K0 hK0
  refine ocallE (f := 34) (args := #[.pointer (some ⟨R + 2, 0, none⟩), .agg #[.slice ma m.length mc, .slice sa s.length sc]]) (φ := fun v W' => ∃ nx : List (List Int), RII (fun q => q < WQ.heap.size) W' v nx ∧ Cur W' (R + 2) (R + 3) 2000 ∧ Chg (fun q => q = R + 2) WQ W') (by go_simp) ((algorithm_any (R + 2) (R + 3) 1000 _ ⟨m, s⟩ WQ (hc1.more (by omega)) (by omega) (hP.weakA (fun q e _ => by show q < R + 3; omega)) hm8 hs40 (by omega)).mono (fun e W' ⟨nv, nx, h1, h2, _, h4, h5⟩ => ⟨_, h1, nx, h2, h4.more (by omega), h5⟩)) (fun v2 W2 h2 => hK0.out _ _ (by obtain ⟨_, _, _, q2⟩ := h2; exact ⟨(b7.step q2 (by omega)).c 0 _ rfl, (b7.step q2 (by omega)).c 1 _ rfl⟩) ?_)
  obtain ⟨nx, hN, hc2, k3⟩ := h2
  replace kk := kk.step k3 (fun q e hl => by have := HR.out; omega)
  replace hP := hP.step k3 (fun q e => by show q < R + 3; omega)
  replace b0 := b0.step k3 (by omega)
  replace b1 := b1.step k3 (by omega)
  replace b7 := b7.step k3 (by omega)
  have z4 := Nat.le_trans z3 k3.size
  clear hK0 K0 hS
  simp only [List.getElem_toArray, List.getElem_cons_succ, List.getElem_cons_zero, Act.put, List.setIfInBounds_toArray, List.set_cons_zero, List.set_cons_succ]
  replace hN := hN.weak (B := fun q => q < R + 3) (fun q e hl => by have e : q < R + 3 := e; show q < WQ.heap.size; omega)
  obtain ⟨na, nc, rfl⟩ := hN.shape
  clear k3 hc1 z3
  refine wpAnyK_1 6 (by kernel_rfl) (wpOpK' rfl rfl ?_)
  intro K0 hK0
  refine ocallE (f := 35) (args := #[.pointer (some ⟨R + 2, 0, none⟩), .agg #[.slice ma m.length mc, .slice sa s.length sc]]) (φ := fun v W' => ∃ st : Int, v = .int .i64 st ∧ Cur W' (R + 2) (R + 3) 3000 ∧ Chg (fun q => q = R + 2) W2 W') (by go_simp) ((state8_any (R + 2) (R + 3) 2000 _ ⟨m, s⟩ W2 hc2 (hP.weakA (fun _ e _ => e.elim)) (by show m.length ≤ 100; omega) (by omega)).mono (fun e W' ⟨st, h1, _, _, h4, h5⟩ => ⟨_, h1, st, rfl, h4.more (by omega), h5⟩)) (fun v2 W3 h2 => hK0.out _ _ (by obtain ⟨_, _, _, q2⟩ := h2; exact ⟨(b7.step q2 (by omega)).c 0 _ rfl, (b7.step q2 (by omega)).c 1 _ rfl⟩) ?_)
  obtain ⟨st, rfl, hc3, k3⟩ := h2
  replace kk := kk.step k3 (fun q e hl => by have := HR.out; omega)
  replace hP := hP.step k3 (fun q e => by show q < R + 3; omega)
  replace hN := hN.step k3 (fun q e => by show q < R + 3; omega)
  replace b0 := b0.step k3 (by omega)
  replace b1 := b1.step k3 (by omega)
  replace b7 := b7.step k3 (by omega)
  have z5 := Nat.le_trans z4 k3.size
  clear hK0 K0 k3 hc2 z4
  simp only [List.getElem_toArray, List.getElem_cons_succ, List.getElem_cons_zero, Act.put, List.setIfInBounds_toArray, List.set_cons_zero, List.set_cons_succ]
  refine wpAnyK_1 9 (by kernel_rfl) (wpOpK' rfl rfl ?_)
  intro K0 hK0
  refine ocallE (f := 29) (args := #[.pointer (some ⟨R + 2, 0, none⟩), .agg #[.slice ma m.length mc, .slice sa s.length sc]]) (φ := fun v W' => ∃ (qs : List (List Int)) (ws : List Int), RCh (fun q => q < W3.heap.size) W' v qs ws ∧ Chg (fun q => q = R + 2) W3 W') (by go_simp) ((chances_any (R + 2) (R + 3) 3000 _ ⟨m, s⟩ W3 hc3 (by omega) (hP.weakA (fun _ e _ => e.elim)) hs40 (by omega)).mono (fun e W' ⟨cv, qs, ws, h1, h2, _, _, _, _, h5⟩ => ⟨_, h1, qs, ws, h2, h5⟩)) (fun v2 W4 h2 => hK0.out _ _ (by obtain ⟨_, _, _, q2⟩ := h2; exact ⟨(b7.step q2 (by omega)).c 0 _ rfl, (b7.step q2 (by omega)).c 1 _ rfl⟩) ?_)
  obtain ⟨qs, ws, hC, k3⟩ := h2
  replace kk := kk.step k3 (fun q e hl => by have := HR.out; omega)
  replace hP := hP.step k3 (fun q e => by show q < R + 3; omega)
  replace hN := hN.step k3 (fun q e => by show q < R + 3; omega)
  replace b0 := b0.step k3 (by omega)
  replace b1 := b1.step k3 (by omega)
  replace b7 := b7.step k3 (by omega)
  clear hK0 K0
  simp only [List.getElem_toArray, List.getElem_cons_succ, List.getElem_cons_zero, Act.put, List.setIfInBounds_toArray, List.set_cons_zero, List.set_cons_succ]
  replace hC := hC.weakA (B := fun q => q < R + 3) (fun q e hl => by have e : q < R + 3 := e; show q < W3.heap.size; omega)
  obtain ⟨cw, cq, rfl, hcw, hcq⟩ := id hC
  obtain ⟨ca, cc, rfl⟩ := hcq.shape
  obtain ⟨wa, wc, rfl, _⟩ := id hcw
  clear hcw hcq k3 hc3 z5
  have e0 := b0.c 0 _ rfl
  have e1 := b0.c 1 _ rfl
  have f0 := b0.fr 0
  have f1 := b0.fr 1
  have d0 := b1.c 0 _ rfl
  have d1 := b1.c 1 _ rfl
  have c0 := b1.fr 0
  have c1 := b1.fr 1
  refine wpAnyK_1 10 (by kernel_rfl) (wpOpK' rfl rfl ?_)
  intro K0 hK0
  unfold Oper.wp execOp
  go_simp
  have hb7 := ((b7.far ⟨R, 0, none⟩ (.slice ma m.length mc) (by simp; omega)).far ⟨R, 1, none⟩ (.slice sa s.length sc) (by simp; omega))
  refine hK0.out _ _ ⟨hb7.c 0 _ rfl, hb7.c 1 _ rfl⟩ ?_
  clear hK0 K0
  simp only [List.setIfInBounds_toArray]
  have hS := (⟨hb7.c 0 _ rfl, hb7.c 1 _ rfl⟩ : _ ∧ _)
  refine wpAnyK_take0 11 (.slice na nx.length nc) rfl (by kernel_rfl) (fun _ _ _ h => h) hS rfl (by intro w; go_simp) ?_
  simp only [List.getElem_toArray, List.getElem_cons_succ, List.getElem_cons_zero, Act.put, List.setIfInBounds_toArray, List.set_cons_zero, List.set_cons_succ]
  refine wpAnyK_take0 12 (.int .i64 st) rfl (by kernel_rfl) (fun _ _ _ h => h) hS rfl (by intro w; go_simp) ?_
  simp only [List.getElem_toArray, List.getElem_cons_succ, List.getElem_cons_zero, Act.put, List.setIfInBounds_toArray, List.set_cons_zero, List.set_cons_succ]
  clear hS hb7
  refine wpAnyK_tail 13 rfl (by kernel_rfl) ?_
  simp only [List.drop_succ_cons, List.drop_zero]
  have hF := pc_fin (mv := .slice ma m.length mc) (sv := .slice sa s.length sc) (cw := (.slice wa ws.length wc)) (cq := (.slice ca qs.length cc)) HR.out b0 b1 kk (Wf := _) rfl
  have z0 := hF.2.2.1.c 0 _ rfl
  have z1 := hF.2.2.1.c 1 _ rfl
  have z2 := hF.2.2.2.c 0 _ rfl
  have z3 := hF.2.2.2.c 1 _ rfl
  have HF := Lib.hid (And.intro ((hN.step hF.1 (fun q e => by show q < R + 3; omega)).weak (B := No) (fun _ e _ => e.elim)) <| And.intro ((hP.step hF.1 (fun q e => by show q < R + 3; omega)).weakA (B := No) (fun _ e _ => e.elim)) (And.intro ((hC.step hF.1 (fun q e => by show q < R + 3; omega)).weakA (B := No) (fun _ e _ => e.elim)) hF.2.1))
  clear hF hP hN hC kk b0 b1 b7
  go_wp2_with fail
  refine bodyPost_ret (v := .tuple #[.agg #[.slice ma m.length mc, .slice sa s.length sc], .slice na nx.length nc, .int .i64 st, .agg #[.slice wa ws.length wc, .slice ca qs.length cc]]) (by simp [results, Tryz.results9, go_sem, z0, z1, z2, z3]) rfl ?_
  first
    | exact ⟨_, _, _, st, ⟨m, s⟩, nx, qs, ws, rfl, HF.out.2.1, HF.out.1, HF.out.2.2.1, HF.out.2.2.2⟩
    | exact ⟨_, _, _, ⟨st, rfl⟩, ⟨⟨m, s⟩, HF.out.2.1⟩, ⟨nx, HF.out.1⟩, ⟨qs, ws, HF.out.2.2.1⟩, HF.out.2.2.2⟩
end Go.Proofs.YtndhijckbponkaaGreat
