import Derived.Test.YtndhijckbponkaaRi
import Derived.ChangeKeysEq
/- a mixture drawn: the walk -/
namespace Go.Proofs.Ytndhijckbponkaa
open Go.RowKit

set_option maxRecDepth 100000 in
set_option maxHeartbeats 4000000 in
theorem mixture_any (b B K : Nat) (v : Value) (P : Pr) (w : World) (h : Cur w b B K) (hB : B ≤ w.heap.size) (hP : RPr (fun q => q = b) w v P) (hm : P.mv.length ≤ 8) (hs : P.sv.length ≤ 40) (hK : K ≤ 500000000) :
    Calls Try.prog 70 #[.pointer (some ⟨b, 0, none⟩), v] w fun e w' => ∃ (cv : Value) (ns : List (List (List Int))) (ws : List Int), e = .returned cv ∧ RMx (fun q => q < w.heap.size) w' cv ns ws ∧ Cur w' b B (K + 7000) ∧ Chg (fun q => q = b) w w' := by
  obtain ⟨m, s⟩ := P
  obtain ⟨mv, sv, rfl, hmv, hsv⟩ := id hP
  obtain ⟨ma, mc, rfl⟩ := hmv.shape
  obtain ⟨sa, sc, rfl⟩ := hsv.shape
  have hb := h.lt
  have hbB := h.ltB
  dsimp only at hs hm hmv hsv ⊢
  clear hmv hsv
  go_enter Try.func70, Try.ntmps70
  go_wp2_with fail
  refine bx3z (R := fun W => Calls _ _ _ (W.alloc _) _) (fun W0 k0 hz b0 b1 b2 => ?_)
  obtain ⟨G, hG⟩ : ∃ G, w.heap.size = G := ⟨_, rfl⟩
  rw [hG] at b0 b1 b2 hz ⊢
  have hD0 : MxD b B K G (G + 1) (G + 1 + 1) w W0 (.slice ma m.length mc) (.slice sa s.length sc) m s (.slice none 0 0) [] [] No :=
    ⟨h.keep k0, (Chg.refl (fun q => q = b) w).step k0 (fun _ e _ => e.elim), b0, b1, b2, OS.nil _ _ _ _, rfl, fun i hi => absurd hi (Nat.not_lt_zero i), fun q e => e.elim, (hP.weakA (fun q e hlt => by
      rcases e with e | e
      · exact e
      · omega)).keep k0, by omega, hG⟩
  obtain ⟨R, hR⟩ : ∃ R, G + 1 = R := ⟨_, rfl⟩
  rw [hR] at hD0 hz ⊢
  obtain ⟨X, hX⟩ : ∃ X, R + 1 = X := ⟨_, rfl⟩
  rw [hX] at hD0 hz ⊢
  have HG := Lib.hid hG
  clear k0 b0 b1 b2 hR hX hG h hB hP
  have q1 := Lib.hid (pick_any b B K 16 _ (hD0.cur.keep ((Chg.refl No W0).alloc (.cells #[.int .i64 1, .int .i64 2, .int .i64 2, .int .i64 3, .int .i64 4, .int .i64 2, .int .i64 3, .int .i64 5, .int .i64 0] 3))) (by omega) (by omega))
  have HR : Hid (∀ n, n ≤ 9 → RI (fun q => q = b) (W0.alloc (.cells #[.int .i64 1, .int .i64 2, .int .i64 2, .int .i64 3, .int .i64 4, .int .i64 2, .int .i64 3, .int .i64 5, .int .i64 0] 3)) (.slice (some ⟨X + 1, 0, none⟩) n 9) (([1, 2, 2, 3, 4, 2, 3, 5, 0] : List Int).take n)) := Lib.hid (fun n hn => RI.lit _ W0 [1, 2, 2, 3, 4, 2, 3, 5, 0] _ _ _ n 9 hz rfl rfl hn (by have := hD0.lt; omega) (by decide))
  refine (q1.out).mono ?_
  rintro e w2 ⟨x, rfl, hx0, hx1, _, hc2, hk2⟩
  have hx2 := hx1 (by omega)
  have ht := Int.tdiv_eq_ediv_of_nonneg (a := x) (b := 6) hx0
  obtain ⟨y, hy⟩ : ∃ y, x / 6 = y := ⟨_, rfl⟩
  have hy0 : 0 ≤ y := (by omega)
  have hy1 : y ≤ 2 := (by omega)
  rw [hy] at ht
  have hw1 : IntKind.i64.wrap y = y := IntWalk.i64_in _ (by omega)
  obtain ⟨mm, hmm⟩ : ∃ m : Nat, 7 + y = (m : Int) := ⟨(7 + y).toNat, by omega⟩
  have hw2 : IntKind.i64.wrap (7 + y) = (mm : Int) := (IntWalk.i64_in _ (by omega)).trans hmm
  have hm10 : mm ≤ 9 := (by omega)
  have hm1 : 1 ≤ mm := (by omega)
  have hsl : ∀ w' : World, (Instr.slice 25 (.slice (some ⟨X + 1, 0, none⟩) 9 9) none (some (.int .i64 (mm : Int))) none).run Try.prog w' = .ok (.slice (some ⟨X + 1, 0, none⟩) mm 9) w' := (fun w' => by rw [run_slice_h w' 25 _ 9 9 und_el .i64 _ (by omega) (by omega), run_sz]; simp [Result.andThen, sliced, Addr.add])
  clear hmm hy hx1 hx2
  go_wp2_with fail
  refine (among_any b B (K + 2) _ (([1, 2, 2, 3, 4, 2, 3, 5, 0] : List Int).take mm) _ hc2 (by omega) ((HR.out mm hm10).step hk2 (fun _ h => h)) (by rw [List.length_take]; simp; omega) (by rw [List.length_take]; simp; omega)).mono ?_
  rintro e w3 ⟨r, rfl, hr, hc3, hk3⟩
  have hr13 : 0 ≤ r ∧ r ≤ 5 := by
    have hr' := List.mem_of_mem_take hr
    simp only [List.mem_cons, List.not_mem_nil, or_false] at hr'
    omega
  have hD := hD0.call hc3 (((Chg.refl (fun q => q = b) W0).alloc _).trans (hk2.trans hk3))
  clear hr hc3 hk3 hsl hw2 hw1 ht hx0 hk2 hc2 q1 HR hD0 hy0 hy1 hm10 hm1 hz
  have HK := Lib.hid (And.intro hK (And.intro hm hs))
  clear hK hb
  go_wp2_with fail
  go_loopw [6] (fun z wr => ∃ (r : Int) (ns : List (List (List Int))) (qv : Value) (vs : List Value) (F : Nat → Prop), z = .int .i64 r ∧ 0 ≤ r ∧ r ≤ 5 ∧ (ns.length : Int) + r ≤ 5 ∧ MxD b B (K + 2 + 2 + 1000 * ns.length) G R X w wr (.slice ma m.length mc) (.slice sa s.length sc) m s qv ns vs F) (fun z _ => (intOf z).toNat)
  case atStart => exact ⟨r, [], _, _, _, rfl, hr13.1, hr13.2, by simpa using hr13.2, hD⟩
  case round =>
    clear hD hr13
    obtain ⟨i0, hi0⟩ : ∃ i0, r = i0 := ⟨_, rfl⟩
    rw [hi0]
    clear hi0 r
    obtain ⟨r, ns, qv, vs, F, rfl, hr0, hr1, hqr, hD⟩ := hrel
    have hq13 : ns.length ≤ 5 := by omega
    obtain ⟨qa, qc, rfl, _⟩ := hD.oq.view
    by_cases hrp : 0 < r
    · have hwr1 : IntKind.i64.wrap (r - 1) = r - 1 := IntWalk.i64_in _ (by omega)
      go_wp2_with fail
      refine wp_region_K (S := fun W => W.cell? ⟨X, 1, none⟩ = some (.slice qa ns.length qc) ∧ W.cell? ⟨G, 0, none⟩ = some (.slice ma m.length mc) ∧ W.cell? ⟨G, 1, none⟩ = some (.slice sa s.length sc)) (k := 7) (by kernel_rfl) ?_
      replace hD := hD.keep (drewN0 _)
      generalize World.drew _ = WQ at hD ⊢
      have hS : WQ.cell? ⟨X, 1, none⟩ = some (.slice qa ns.length qc) ∧ WQ.cell? ⟨G, 0, none⟩ = some (.slice ma m.length mc) ∧ WQ.cell? ⟨G, 1, none⟩ = some (.slice sa s.length sc) := ⟨hD.bx.c 1 _ rfl, hD.bp.c 0 _ rfl, hD.bp.c 1 _ rfl⟩
      refine wpAnyK_take0 0 (.pointer (some ⟨X, 1, none⟩)) rfl (by kernel_rfl) (fun _ _ _ h => h) hS rfl (by intro w; go_simp) ?_
      simp only [List.getElem_toArray, List.getElem_cons_zero, Act.put, List.setIfInBounds_toArray, List.set_cons_zero, List.set_cons_succ]
      refine wpAnyK_take 1 (.slice qa ns.length qc) rfl (by kernel_rfl) (fun _ _ _ h => h) hS rfl (by intro w hSw; go_simp) ?_
      simp only [List.getElem_toArray, List.getElem_cons_succ, List.getElem_cons_zero, Act.put, List.setIfInBounds_toArray, List.set_cons_zero, List.set_cons_succ]
      refine wpAnyK_take0 2 (.pointer (some ⟨b, 0, none⟩)) rfl (by kernel_rfl) (fun _ _ _ h => h) hS rfl (by intro w; go_simp) ?_
      simp only [List.getElem_toArray, List.getElem_cons_succ, List.getElem_cons_zero, Act.put, List.setIfInBounds_toArray, List.set_cons_zero, List.set_cons_succ]
      refine wpAnyK_takeT 3 (.agg #[.slice ma m.length mc, .slice sa s.length sc]) rfl (by kernel_rfl) (fun _ _ _ h => h) hS rfl (by intro w hSw; go_simp) ?_
      simp only [List.getElem_toArray, List.getElem_cons_succ, List.getElem_cons_zero, Act.put, List.setIfInBounds_toArray, List.set_cons_zero, List.set_cons_succ]
      refine wpAnyK_1 4 (by kernel_rfl) (wpOpK' rfl rfl ?_)
      intro K0 hK0
      refine ocallE (f := 100) (args := #[.pointer (some ⟨b, 0, none⟩), .agg #[.slice ma m.length mc, .slice sa s.length sc]]) (φ := fun v W' => ∃ nx, RII (fun q => q < WQ.heap.size) W' v nx ∧ Cur W' b B (K + 2 + 2 + 1000 * ns.length + 1000) ∧ Chg (fun q => q = b) WQ W') (by go_simp) ((algorithm_any b B (K + 2 + 2 + 1000 * ns.length) _ ⟨m, s⟩ WQ hD.cur (by have := hD.lt; have := hD.bx.lt; omega) (hD.pr.weakA (fun q e _ => .inl e)) HK.out.2.1 HK.out.2.2 (by have := HK.out.1; omega)).mono (fun e W' ⟨nv, nx, h1, h2, _, h4, h5⟩ => ⟨_, h1, nx, h2, h4, h5⟩)) (fun v2 W2 h2 => hK0.out _ _ (by obtain ⟨_, _, q1, q2⟩ := h2; have g := hD.call q1 q2; exact ⟨g.bx.c 1 _ rfl, g.bp.c 0 _ rfl, g.bp.c 1 _ rfl⟩) ?_)
      obtain ⟨nx, hnx, hc2, k2⟩ := h2
      have hE := hD.call hc2 k2
      clear hK0 K0 hS
      simp only [List.getElem_toArray, List.getElem_cons_succ, List.getElem_cons_zero, Act.put, List.setIfInBounds_toArray, List.set_cons_zero, List.set_cons_succ]
      obtain ⟨na, nc, rfl⟩ := hnx.shape
      refine wpAnyK_1 5 (by kernel_rfl) (wpOpK' rfl rfl ?_)
      intro K0 hK0
      have ka := (Chg.refl No W2).alloc (.cells #[.slice na nx.length nc] 22)
      have ka2 := (Chg.refl (own (Value.slice qa ns.length qc)) W2).alloc (.cells #[.slice na nx.length nc] 22)
      have hA := hE.keep ka
      have hlit := (OS.lit (E := 22) (sz := 1) (base := 0) (w := W2) #[.slice na nx.length nc] 1 (Nat.zero_le _) (by omega) rfl).readNo
      unfold Oper.wp execOp
      go_simp
      refine hK0.out _ _ ⟨hA.bx.c 1 _ rfl, hA.bp.c 0 _ rfl, hA.bp.c 1 _ rfl⟩ ?_
      clear hK0 K0
      simp only [List.setIfInBounds_toArray]
      refine wpAnyK_1 6 (by kernel_rfl) (wpOpK' rfl rfl ?_)
      intro K0 hK0
      refine oappQ elTabs (by omega) (.tmp 21) (.tmp 25) rfl hA.oq hlit (fun u hu => by simp only [List.mem_singleton] at hu; subst hu; rfl) rfl rfl (by omega) (by have := hA.bx.lt; omega) (fun v3 w3 h3 k3 f3 _ => ?_)
      have kk := ka2.trans k3
      have ff : ∀ q, own v3 q → own (Value.slice qa ns.length qc) q ∨ W2.heap.size ≤ q := fun q hq => (f3 q hq).imp id (fun e => Nat.le_trans ka.size e)
      have hoX : ¬ own (Value.slice qa ns.length qc) X := fun e => by have := (hE.oq.lt X e).1; omega
      have hoG : ¬ own (Value.slice qa ns.length qc) G := fun e => by have := (hE.oq.lt G e).1; have := hE.lt; omega
      have hbx := hE.bx.step kk hoX
      have hbp := hE.bp.step kk hoG
      refine hK0.out _ _ ⟨hbx.c 1 _ rfl, hbp.c 0 _ rfl, hbp.c 1 _ rfl⟩ ?_
      clear hK0 K0
      simp only [List.getElem_toArray, List.getElem_cons_succ, List.getElem_cons_zero, Act.put, List.setIfInBounds_toArray, List.set_cons_zero, List.set_cons_succ]
      obtain ⟨F', hN⟩ := hD.app hc2 k2 hnx h3 kk ff
      obtain ⟨qa3, qc3, rfl, _⟩ := h3.view
      have hL1 : (ns ++ [nx]).length = ns.length + 1 := by rw [List.length_append]; rfl
      refine wpAnyK_tail 7 rfl (by kernel_rfl) ?_
      simp only [List.drop_succ_cons, List.drop_zero]
      have z1 := hbx.c 1 _ rfl
      have f1 := hbx.fr 1
      have HN := Lib.hid hN
      have HL := Lib.hid hL1
      clear hN hD hE hA ka ka2 hlit h3 k3 f3 kk ff hbx hbp hnx hc2 k2 hL1
      go_wp2_with fail
      go_round
      case rel => exact ⟨r - 1, ns ++ [nx], _, _, F', rfl, by omega, by omega, by rw [HL.out]; omega, HN.out.more (by rw [HL.out]; omega)⟩
      case measure => simp [intOf]; omega
    · have hr00 : r = 0 := by omega
      subst hr00
      have hBW : B ≤ wr.heap.size := by have := hD.lt; have := hD.bp.lt; omega
      have hq0 : (0 : Int) ≤ (ns.length : Int) := Int.natCast_nonneg _
      replace hD := hD.more (show _ ≤ K + 6000 by omega)
      have g1 := hD.bx.c 1 _ rfl
      go_wp2_with fail
      refine (weights11_any b B (K + 6000) ns.length 1 wr hD.cur hBW (by omega) (by have := HK.out.1; omega)).mono ?_
      rintro e w5 ⟨wv, ws, rfl, how, hwl, hc5, k5⟩
      obtain ⟨ua, un, uc, rfl⟩ := how.shape
      have h5 := hD.call hc5 k5
      have hF := hD.fin (hc5.more (show _ ≤ K + 7000 by omega)) k5 how rfl
      have c0 := h5.bx.c 0 _ rfl
      have c1 := h5.bx.c 1 _ rfl
      have f0 := h5.bx.fr 0
      have r0 := h5.br.c 0 _ rfl
      have r1 := h5.br.c 1 _ rfl
      have s0 := h5.br.fr 0
      have s1 := h5.br.fr 1
      have hXR : ¬ X = R := by have := h5.lt; omega
      have hXR' : ¬ R = X := by have := h5.lt; omega
      have z0 := hF.2.c 0 _ rfl
      have z1 := hF.2.c 1 _ rfl
      have HF := Lib.hid hF.1
      clear hD h5 how hc5 k5 hF g1
      go_wp2_with fail
      refine bodyPost_ret (v := .agg #[.slice ua un uc, .slice qa ns.length qc]) (by simp [results, Try.results70, go_sem, z0, z1]) rfl ?_
      exact ⟨_, ns, ws, rfl, by rw [HG.out]; exact HF.out.1, HF.out.2.1, HF.out.2.2⟩
end Go.Proofs.Ytndhijckbponkaa
