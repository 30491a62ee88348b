import Derived.Test.YtndhijckbponkaaRc
import Derived.Test.YtndhijckbponkaaQi
/- what DrawBestReply draws -/
namespace Go.Proofs.Ytndhijckbponkaa
open Go.RowKit

theorem RCh.weak {A B : Nat → Prop} {w : World} {v : Value} {qs : List (List Int)} {ws : List Int} (h : RCh A w v qs ws) (hB : ∀ k, B k → k < w.heap.size → A k) : RCh B w v qs ws := by
  obtain ⟨wv, qv, rfl, h1, h2⟩ := h
  exact ⟨wv, qv, rfl, h1.weak hB, h2.weak hB⟩
/-- a problem and chances, drawn, in their boxes -/
structure BrD (R X7 X8 K : Nat) (w W : World) (mv sv cw cq : Value) (m s : List (List Int)) (qs : List (List Int)) (ws : List Int) : Prop where
  cur : Cur W (R + 2) (R + 3) K
  b7 : BoxN W X7 [mv, sv]
  b8 : BoxN W X8 [cw, cq]
  r0 : BoxN W R [.slice none 0 0, .slice none 0 0]
  r1 : BoxN W (R + 1) [.slice none 0 0, .slice none 0 0]
  pr : RPr (fun q => q < R + 3 ∨ X8 < q) W (.agg #[mv, sv]) ⟨m, s⟩
  ch : RCh (fun q => q < R + 3 ∨ X8 < q) W (.agg #[cw, cq]) qs ws
  kk : Chg No w W
  lt : R + 2 < X7 ∧ X7 < X8
  mlen : m.length ≤ 8
  sz : w.heap.size = R
section
variable {R X7 X8 K K' : Nat} {w W W' : World} {mv sv cw cq : Value} {m s qs : List (List Int)} {ws : List Int}
theorem BrD.call (h : BrD R X7 X8 K w W mv sv cw cq m s qs ws) (hc : Cur W' (R + 2) (R + 3) K') (k : Chg (fun q => q = R + 2) W W') : BrD R X7 X8 K' w W' mv sv cw cq m s qs ws := by
  have hl := h.lt
  exact ⟨hc, h.b7.step k (by omega), h.b8.step k (by omega), h.r0.step k (by omega), h.r1.step k (by omega), h.pr.step k (fun q e => .inl (by omega)), h.ch.step k (fun q e => .inl (by omega)), h.kk.step k (fun q e hl => by have := h.sz; omega), h.lt, h.mlen, h.sz⟩
theorem BrD.rows (h : BrD R X7 X8 K w W mv sv cw cq m s qs ws) : RII (fun q => q < R + 3 ∨ X8 < q) W cq qs := by
  obtain ⟨a, c, e, _, h2⟩ := h.ch
  simp only [Value.agg.injEq, Array.mk.injEq, List.cons.injEq, and_true] at e
  obtain ⟨rfl, rfl⟩ := e
  exact h2
theorem BrD.keep (h : BrD R X7 X8 K w W mv sv cw cq m s qs ws) (k : Chg No W W') : BrD R X7 X8 K w W' mv sv cw cq m s qs ws :=
  h.call (h.cur.keep k) ((Chg.refl (fun q => q = R + 2) W).step k (fun _ e _ => e.elim))
theorem BrD.far (h : BrD R X7 X8 K w W mv sv cw cq m s qs ws) {T : Nat → Prop} (k : Chg T W W') (hT : ∀ q, T q → X8 < q) : BrD R X7 X8 K w W' mv sv cw cq m s qs ws := by
  have hl := h.lt
  exact ⟨h.cur.step k (fun q e => by have := hT q e; omega), h.b7.step k (fun e => by have := hT _ e; omega), h.b8.step k (fun e => by have := hT _ e; omega), h.r0.step k (fun e => by have := hT _ e; omega), h.r1.step k (fun e => by have := hT _ e; omega),
    h.pr.step k (fun q e => .inr (hT q e)), h.ch.step k (fun q e => .inr (hT q e)), h.kk.step k (fun q e hl => by have := hT q e; have := h.sz; omega), h.lt, h.mlen, h.sz⟩
theorem BrD.fin (h : BrD R X7 X8 K w W mv sv cw cq m s qs ws) {Wf : World} (hf : Wf = (((W.setCell ⟨R, 0, none⟩ mv).setCell ⟨R, 1, none⟩ sv).setCell ⟨R + 1, 0, none⟩ cw).setCell ⟨R + 1, 1, none⟩ cq) :
    (RPr No Wf (.agg #[mv, sv]) ⟨m, s⟩ ∧ RCh No Wf (.agg #[cw, cq]) qs ws ∧ Chg No w Wf ∧ ∀ (v : Value) (l : List Int), OI (X8 + 1) W v l → RI No Wf v l) ∧ BoxN Wf R [mv, sv] ∧ BoxN Wf (R + 1) [cw, cq] := by
  have hl := h.lt
  have k : Chg (fun q => q = R ∨ q = R + 1) W Wf := by
    rw [hf]
    exact ((((Chg.refl (fun q => q = R ∨ q = R + 1) W).setCell (p := ⟨R, 0, none⟩) (fun _ => .inl rfl) mv).setCell (p := ⟨R, 1, none⟩) (fun _ => .inl rfl) sv).setCell (p := ⟨R + 1, 0, none⟩) (fun _ => .inr rfl) cw).setCell (p := ⟨R + 1, 1, none⟩) (fun _ => .inr rfl) cq
  have hb : BoxN Wf R [mv, sv] ∧ BoxN Wf (R + 1) [cw, cq] := by
    rw [hf]
    exact ⟨((((h.r0.set (i := 0) (by simp) mv).set (i := 1) (by simp) sv).far ⟨R + 1, 0, none⟩ cw (by simp)).far ⟨R + 1, 1, none⟩ cq (by simp)),
      (((h.r1.far ⟨R, 0, none⟩ mv (by simp)).far ⟨R, 1, none⟩ sv (by simp)).set (i := 0) (by simp) cw).set (i := 1) (by simp) cq⟩
  clear hf
  refine ⟨⟨(h.pr.step k (fun q e => .inl (by omega))).weak (fun _ e _ => e.elim), (h.ch.step k (fun q e => .inl (by omega))).weak (fun _ e _ => e.elim), h.kk.step k (fun q e hl => by have := h.sz; omega), fun v l hv => (hv.step k (fun q hq e => by have := (hv.lt q hq).1; omega)).readNo⟩, hb⟩
theorem BrD.more (h : BrD R X7 X8 K w W mv sv cw cq m s qs ws) (hK : K ≤ K') : BrD R X7 X8 K' w W mv sv cw cq m s qs ws := ⟨h.cur.more hK, h.b7, h.b8, h.r0, h.r1, h.pr, h.ch, h.kk, h.lt, h.mlen, h.sz⟩
end
set_option maxRecDepth 100000 in
set_option maxHeartbeats 8000000 in
theorem DrawBestReply_any (v : Value) (n : Nat) (w : World) (hco : Code w v n) (hn : n ≤ 70001) :
    Calls Try.prog 25 #[v] w fun e w' => ∃ (pv cv sv : Value) (st : Int) (P : Pr) (qs : List (List Int)) (ws l : List Int), e = .returned (.tuple #[pv, .int .i64 st, cv, sv]) ∧ RPr No w' pv P ∧ RCh No w' cv qs ws ∧ RI No w' sv l ∧ qs.length ≤ 13 ∧ (∀ q ∈ qs, q.length ≤ 7) ∧ Chg No w w' := by
  obtain ⟨a, cp, rfl⟩ := hco.shape
  go_enter Try.func25, Try.ntmps25
  go_wp2_with fail
  have hc0 := Cur.new (hco.keep (((Chg.refl No w).alloc (.cells #[.slice none 0 0, .slice none 0 0] 32)).trans ((Chg.refl No _).alloc (.cells #[.slice none 0 0, .slice none 0 0] 34)))) (by omega) 80
  rw [show ((w.alloc (.cells #[.slice none 0 0, .slice none 0 0] 32)).alloc (.cells #[.slice none 0 0, .slice none 0 0] 34)).heap.size = w.heap.size + 1 + 1 by simp] at hc0
  revert hc0
  refine bx3z (R := fun W => Cur W (w.heap.size + 1 + 1) (w.heap.size + 1 + 1 + 1) 0 → Calls _ _ _ W _) (fun W0 k0 hz b0 b1 _ hc => ?_)
  obtain ⟨R, hR⟩ : ∃ R, w.heap.size = R := ⟨_, rfl⟩
  rw [hR] at b0 b1 hz hc ⊢
  have HR := Lib.hid hR
  clear hco hR
  refine (problem_any (R + 2) (R + 3) 0 W0 hc (by omega) (by omega)).mono ?_
  rintro e w1 ⟨pv, P, rfl, hP, hm8, hs40, hc1, hk1⟩
  obtain ⟨m, s⟩ := P
  dsimp only at hm8 hs40
  have hs1 := hk1.size
  have kk1 := k0.step hk1 (fun q e hl => by have := HR.out; omega)
  replace b0 := b0.step hk1 (by omega)
  replace b1 := b1.step hk1 (by omega)
  rw [hz] at hP
  obtain ⟨mv, sv, rfl, hpm, hps⟩ := id hP
  dsimp only at hpm hps
  obtain ⟨ma, mc, rfl, _⟩ := hpm.view
  obtain ⟨sa, sc, rfl, _⟩ := hps.view
  clear hpm hps hc k0 hk1
  have b7 := BoxN.new w1 #[.slice ma m.length mc, .slice sa s.length sc] 32
  have ka := (Chg.refl No w1).alloc (.cells #[.slice ma m.length mc, .slice sa s.length sc] 32)
  obtain ⟨X7, hX7⟩ : ∃ X, w1.heap.size = X := ⟨_, rfl⟩
  rw [hX7] at b7
  have hX : R + 2 < X7 := by omega
  replace kk1 := kk1.keep ka
  replace hP := hP.keep ka
  replace hc1 := hc1.keep ka
  replace b0 := b0.keep ka
  replace b1 := b1.keep ka
  have z2 : (w1.alloc (.cells #[.slice ma m.length mc, .slice sa s.length sc] 32)).heap.size = X7 + 1 := by rw [World.size_alloc, hX7]
  go_wp2_with fail
  clear ka hX7 hs1 hz
  generalize w1.alloc (.cells #[.slice ma m.length mc, .slice sa s.length sc] 32) = w2 at *
  refine (chances_any (R + 2) (R + 3) (0 + 1000) _ ⟨m, s⟩ w2 hc1 (by omega) (hP.weakN) hs40 (by omega)).mono ?_
  rintro e w3 ⟨cv, qs, ws, rfl, hC, hq13, hw14, hq7, hc3, k3⟩
  replace kk1 := kk1.step k3 (fun q e hl => by have := HR.out; omega)
  replace hP := hP.step k3 (fun q e => by show q < R + 3; omega)
  replace b0 := b0.step k3 (by omega)
  replace b1 := b1.step k3 (by omega)
  replace b7 := b7.step k3 (by omega)
  obtain ⟨cw, cq, rfl, hcw, hcq⟩ := id hC
  obtain ⟨ca, cc, rfl⟩ := hcq.shape
  obtain ⟨wa, wc, rfl, _⟩ := id hcw
  have hs3 := k3.size
  clear hcw hcq k3 hc1
  have b8 := BoxN.new w3 #[.slice wa ws.length wc, .slice ca qs.length cc] 34
  have ka := (Chg.refl No w3).alloc (.cells #[.slice wa ws.length wc, .slice ca qs.length cc] 34)
  obtain ⟨X8, hX8⟩ : ∃ X, w3.heap.size = X := ⟨_, rfl⟩
  rw [hX8] at b8
  replace hC := hC.weak (B := fun q => q < R + 3 ∨ X8 < q) (fun q e hl => by have e : q < R + 3 ∨ X8 < q := e; show q < w2.heap.size; omega)
  replace hP := hP.weak (B := fun q => q < R + 3 ∨ X8 < q) (fun q e hl => by have e : q < R + 3 ∨ X8 < q := e; show q < R + 3; omega)
  have h : BrD R X7 X8 2000 w _ (.slice ma m.length mc) (.slice sa s.length sc) (.slice wa ws.length wc) (.slice ca qs.length cc) m s qs ws :=
    ⟨(hc3.keep ka).more (by omega), b7.keep ka, b8, b0.keep ka, b1.keep ka, hP.keep ka, hC.keep ka, kk1.keep ka, by omega, hm8, HR.out⟩
  have HQ := Lib.hid (show qs.length ≤ 13 ∧ ∀ q ∈ qs, q.length ≤ 7 from ⟨hq13, hq7⟩)
  have hz3 : (w3.alloc (.cells #[.slice wa ws.length wc, .slice ca qs.length cc] 34)).heap.size = X8 + 1 := by rw [World.size_alloc, hX8]
  clear b0 b1 b7 b8 hP hC kk1 hc3 ka z2 hs3 hq7 hw14
  have hq0 : (0 : Int) ≤ (qs.length : Int) := Int.natCast_nonneg _
  obtain ⟨w4, hw4⟩ : ∃ w4, w3.alloc (.cells #[.slice wa ws.length wc, .slice ca qs.length cc] 34) = w4 := ⟨_, rfl⟩
  rw [hw4] at h hz3
  have g1 := h.b8.c 1 _ rfl
  by_cases hqp : 0 < qs.length
  · have hqp1 : (0 : Int) < (qs.length : Int) := by omega
    go_wp2_with fail
    replace h := h.keep ((Chg.refl No w4).alloc (.cells #[] 3))
    generalize w4.alloc _ = w5 at h ⊢
    refine wp_region_K (S := fun W => W.cell? ⟨X8, 1, none⟩ = some (.slice ca qs.length cc)) (k := 9) (by kernel_rfl) ?_
    replace h := h.keep (drewN0 _)
    generalize World.drew _ = WQ at h ⊢
    have hS : WQ.cell? ⟨X8, 1, none⟩ = some (.slice ca qs.length cc) := h.b8.c 1 _ rfl
    refine wpAnyK_take0 0 (.pointer (some ⟨X8, 1, none⟩)) rfl (by kernel_rfl) (fun _ _ _ h => h) hS rfl (by intro w; go_simp) ?_
    simp only [List.getElem_toArray, List.getElem_cons_zero, Act.put, List.setIfInBounds_toArray, List.set_cons_zero, List.set_cons_succ]
    refine wpAnyK_take 1 (.slice ca qs.length cc) rfl (by kernel_rfl) (fun _ _ _ h => h) hS rfl (by intro w hSw; go_simp) ?_
    simp only [List.getElem_toArray, List.getElem_cons_succ, List.getElem_cons_zero, Act.put, List.setIfInBounds_toArray, List.set_cons_zero, List.set_cons_succ]
    refine wpAnyK_take0 2 (.pointer (some ⟨R + 2, 0, none⟩)) rfl (by kernel_rfl) (fun _ _ _ h => h) hS rfl (by intro w; go_simp) ?_
    simp only [List.getElem_toArray, List.getElem_cons_succ, List.getElem_cons_zero, Act.put, List.setIfInBounds_toArray, List.set_cons_zero, List.set_cons_succ]
    refine wpAnyK_take0 3 (.pointer (some ⟨X8, 1, none⟩)) rfl (by kernel_rfl) (fun _ _ _ h => h) hS rfl (by intro w; go_simp) ?_
    simp only [List.getElem_toArray, List.getElem_cons_succ, List.getElem_cons_zero, Act.put, List.setIfInBounds_toArray, List.set_cons_zero, List.set_cons_succ]
    refine wpAnyK_take 4 (.slice ca qs.length cc) rfl (by kernel_rfl) (fun _ _ _ h => h) hS rfl (by intro w hSw; go_simp) ?_
    simp only [List.getElem_toArray, List.getElem_cons_succ, List.getElem_cons_zero, Act.put, List.setIfInBounds_toArray, List.set_cons_zero, List.set_cons_succ]
    refine wpAnyK_take0 5 (.int .i64 (qs.length : Int)) rfl (by kernel_rfl) (fun _ _ _ h => h) hS rfl (by intro w; go_simp) ?_
    simp only [List.getElem_toArray, List.getElem_cons_succ, List.getElem_cons_zero, Act.put, List.setIfInBounds_toArray, List.set_cons_zero, List.set_cons_succ]
    refine wpAnyK_1 6 (by kernel_rfl) (wpOpK' rfl rfl ?_)
    intro K0 hK0
    refine ocallE (f := 51) (args := #[.pointer (some ⟨R + 2, 0, none⟩), .int .i64 (qs.length : Int)]) (φ := fun v W' => ∃ J : Nat, v = .int .i64 (J : Int) ∧ J < qs.length ∧ Cur W' (R + 2) (R + 3) (2000 + 2) ∧ Chg (fun q => q = R + 2) WQ W') (by go_simp) ((pick_any (R + 2) (R + 3) 2000 (qs.length : Int) WQ h.cur (by omega) (by omega)).mono (fun e W' ⟨x, h1, h2, h3, h4, h5, h6⟩ => ⟨_, h1, x.toNat, by rw [Int.toNat_of_nonneg h2], by
      by_cases e : (1 : Int) < (qs.length : Int)
      · have := h3 e; omega
      · have := h4 (by omega); omega, h5, h6⟩)) (fun v2 W2 h2 => hK0.out _ _ (by obtain ⟨x, _, _, q1, q2⟩ := h2; exact (h.call q1 q2).b8.c 1 _ rfl) ?_)
    obtain ⟨J, rfl, hJ, hc2, k2⟩ := h2
    replace h := h.call hc2 k2
    clear hK0 K0 hS hc2 k2
    simp only [List.getElem_toArray, List.getElem_cons_succ, List.getElem_cons_zero, Act.put, List.setIfInBounds_toArray, List.set_cons_zero, List.set_cons_succ]
    generalize W2 = WQ at *
    obtain ⟨cb, cf, xa, xc, rfl, _, hcell, hrow⟩ := h.rows.row hJ
    have hS : WQ.cell? ⟨X8, 1, none⟩ = some (.slice (some ⟨cb, cf, none⟩) qs.length cc) := h.b8.c 1 _ rfl
    have hJ0 : (0 : Int) ≤ (J : Int) := Int.natCast_nonneg _
    have hJ1 : (J : Int) < (qs.length : Int) := by omega
    have HR7 : Hid ((qs.getD J []).length ≤ 7) := Lib.hid (HQ.out.2 _ (by rw [List.getD_eq_getElem?_getD, List.getElem?_eq_getElem hJ]; exact List.getElem_mem _))
    obtain ⟨row, hrw⟩ : ∃ row, qs.getD J [] = row := ⟨_, rfl⟩
    rw [hrw] at hcell hrow HR7
    clear hrw
    refine wpAnyK_take0 7 (.pointer (some ⟨cb, cf + J, none⟩)) rfl (by kernel_rfl) (fun _ _ _ h => h) hS rfl (by intro w; go_simp) ?_
    simp only [List.getElem_toArray, List.getElem_cons_succ, List.getElem_cons_zero, Act.put, List.setIfInBounds_toArray, List.set_cons_zero, List.set_cons_succ]
    refine wpAnyK_1 8 (by kernel_rfl) (wpOpK' rfl rfl ?_)
    intro K0 hK0
    unfold Oper.wp execOp
    go_simp
    refine hK0.out _ _ hS ?_
    clear hK0 K0 hS hcell
    simp only [List.setIfInBounds_toArray]
    refine wpAnyK_tail 9 rfl (by kernel_rfl) ?_
    simp only [List.drop_succ_cons, List.drop_zero]
    have hl0 : (0 : Int) ≤ (row.length : Int) := Int.natCast_nonneg _
    have hwl : IntKind.i64.wrap ((row.length : Int) + 1) = (row.length : Int) + 1 := IntWalk.i64_in _ (by have := HR7.out; omega)
    go_wp2_with fail
    refine (pick_any (R + 2) (R + 3) 2002 ((row.length : Int) + 1) WQ h.cur (by omega) (by have := HR7.out; omega)).mono ?_
    rintro e w6 ⟨y, rfl, hy0, hy1, hy2, hc6, k6⟩
    obtain ⟨Y, rfl⟩ : ∃ Y : Nat, y = (Y : Int) := ⟨y.toNat, by omega⟩
    have hYl : Y ≤ row.length := by
      by_cases e : (1 : Int) < (row.length : Int) + 1
      · have := hy1 e; omega
      · have := hy2 (by omega); omega
    replace hrow := hrow.step k6 (fun q e => .inl (by omega))
    replace h := h.call hc6 k6
    obtain ⟨xv, hxv, hxr⟩ := hrow.upto Y (Y : Int) rfl hYl
    clear hc6 k6 hy1 hy2
    go_wp2_with fail
    refine (l1Own_any _ xv (row.take Y) w6 hxr).mono ?_
    rintro e w7 ⟨_, rfl, ho7, k7⟩
    have ho := ho7.weak (show X8 + 1 ≤ w6.heap.size by have := h.b8.lt; omega)
    replace h := (h.keep k7).more (show _ ≤ 2100 by omega)
    obtain ⟨ea, en, ec, rfl⟩ := ho.shape
    have HLL : Hid ((row.take Y).length < 17592186044416) := Lib.hid (by have := HR7.out; rw [List.length_take]; omega)
    clear ho7 k7 hrow hxr hxv
    go_wp2_with fail
    generalize (some (⟨cb, cf, none⟩ : Addr)) = ca at h ⊢
    refine (one_any (R + 2) (R + 3) 2100 8 _ h.cur (by omega) (by omega)).mono ?_
    rintro e w7 ⟨t, rfl, hc7, k7⟩
    replace ho := ho.step k7 (fun q hq e => by have := (ho.lt q hq).1; have := h.lt; omega)
    replace h := (h.call hc7 k7).more (show _ ≤ 2900 by omega)
    clear hc7 k7
    cases t
    · go_wp2_with fail
      have hS : True := trivial
      refine wp_region_K (S := fun W => W.cell? ⟨X7, 0, none⟩ = some (.slice ma m.length mc) ∧ W.cell? ⟨X7, 1, none⟩ = some (.slice sa s.length sc) ∧ W.cell? ⟨X8, 0, none⟩ = some (.slice wa ws.length wc) ∧ W.cell? ⟨X8, 1, none⟩ = some (.slice ca qs.length cc)) (k := 8) (by kernel_rfl) ?_
      replace h := h.keep (drewN0 _)
      replace ho := ho.keep (drewN0 _)
      clear hS
      generalize World.drew _ = WQ at h ho ⊢
      have hS : WQ.cell? ⟨X7, 0, none⟩ = some (.slice ma m.length mc) ∧ WQ.cell? ⟨X7, 1, none⟩ = some (.slice sa s.length sc) ∧ WQ.cell? ⟨X8, 0, none⟩ = some (.slice wa ws.length wc) ∧ WQ.cell? ⟨X8, 1, none⟩ = some (.slice ca qs.length cc) := ⟨h.b7.c 0 _ rfl, h.b7.c 1 _ rfl, h.b8.c 0 _ rfl, h.b8.c 1 _ rfl⟩
      refine wpAnyK_takeT 0 (.agg #[.slice ma m.length mc, .slice sa s.length sc]) rfl (by kernel_rfl) (fun _ _ _ h => h) hS rfl (by intro w hSw; go_simp) ?_
      simp only [List.getElem_toArray, List.getElem_cons_zero, Act.put, List.setIfInBounds_toArray, List.set_cons_zero, List.set_cons_succ]
      refine wpAnyK_take0 1 (.pointer (some ⟨R + 2, 0, none⟩)) rfl (by kernel_rfl) (fun _ _ _ h => h) hS rfl (by intro w; go_simp) ?_
      simp only [List.getElem_toArray, List.getElem_cons_succ, List.getElem_cons_zero, Act.put, List.setIfInBounds_toArray, List.set_cons_zero, List.set_cons_succ]
      refine wpAnyK_takeT 2 (.agg #[.slice ma m.length mc, .slice sa s.length sc]) rfl (by kernel_rfl) (fun _ _ _ h => h) hS rfl (by intro w hSw; go_simp) ?_
      simp only [List.getElem_toArray, List.getElem_cons_succ, List.getElem_cons_zero, Act.put, List.setIfInBounds_toArray, List.set_cons_zero, List.set_cons_succ]
      refine wpAnyK_takeT 4 (.agg #[.slice wa ws.length wc, .slice ca qs.length cc]) rfl (by kernel_rfl) (fun _ _ _ h => h) hS rfl (by intro w hSw; go_simp) ?_
      simp only [List.getElem_toArray, List.getElem_cons_succ, List.getElem_cons_zero, Act.put, List.setIfInBounds_toArray, List.set_cons_zero, List.set_cons_succ]
      refine wpAnyK_take0 5 (.slice ea en ec) rfl (by kernel_rfl) (fun _ _ _ h => h) hS rfl (by intro w; go_simp) ?_
      simp only [List.getElem_toArray, List.getElem_cons_succ, List.getElem_cons_zero, Act.put, List.setIfInBounds_toArray, List.set_cons_zero, List.set_cons_succ]
      refine wpAnyK_1 3 (by kernel_rfl) (wpOpK' rfl rfl ?_)
      intro K0 hK0
      refine ocallE (f := 49) (args := #[.pointer (some ⟨R + 2, 0, none⟩), .agg #[.slice ma m.length mc, .slice sa s.length sc]]) (φ := fun v W' => ∃ st : Int, v = .int .i64 st ∧ Cur W' (R + 2) (R + 3) (3000 + 10) ∧ Chg (fun q => q = R + 2) WQ W') (by go_simp) ((state8_any (R + 2) (R + 3) 3000 _ ⟨m, s⟩ WQ (h.cur.more (by omega)) (h.pr.weak (fun _ e _ => e.elim)) (Nat.le_trans h.mlen (by omega)) (by omega)).mono (fun e W' ⟨x, h1, _, _, h5, h6⟩ => ⟨_, h1, x, rfl, h5, h6⟩)) (fun v2 W2 h2 => hK0.out _ _ (by obtain ⟨x, _, q1, q2⟩ := h2; have g := h.call q1 q2; exact ⟨g.b7.c 0 _ rfl, g.b7.c 1 _ rfl, g.b8.c 0 _ rfl, g.b8.c 1 _ rfl⟩) ?_)
      obtain ⟨st, rfl, hc2, k2⟩ := h2
      replace ho := ho.step k2 (fun q hq e => by have := (ho.lt q hq).1; have := h.lt; omega)
      replace h := h.call hc2 k2
      clear hK0 K0 hS hc2 k2
      simp only [List.getElem_toArray, List.getElem_cons_succ, List.getElem_cons_zero, Act.put, List.setIfInBounds_toArray, List.set_cons_zero, List.set_cons_succ]
      generalize W2 = WQ at *
      have e0 := h.r0.c 0 _ rfl
      have e1 := h.r0.c 1 _ rfl
      have f0 := h.r0.fr 0
      have f1 := h.r0.fr 1
      have d0 := h.r1.c 0 _ rfl
      have d1 := h.r1.c 1 _ rfl
      have c0 := h.r1.fr 0
      have c1 := h.r1.fr 1
      refine wpAnyK_1 6 (by kernel_rfl) (wpOpK' rfl rfl ?_)
      intro K0 hK0
      unfold Oper.wp execOp
      go_simp
      have hb7 := ((h.b7.far ⟨R, 0, none⟩ (.slice ma m.length mc) (by have := h.lt; simp; omega)).far ⟨R, 1, none⟩ (.slice sa s.length sc) (by have := h.lt; simp; omega))
      have hb8 := ((h.b8.far ⟨R, 0, none⟩ (.slice ma m.length mc) (by have := h.lt; simp; omega)).far ⟨R, 1, none⟩ (.slice sa s.length sc) (by have := h.lt; simp; omega))
      have hS : ((WQ.setCell ⟨R, 0, none⟩ (.slice ma m.length mc)).setCell ⟨R, 1, none⟩ (.slice sa s.length sc)).cell? ⟨X7, 0, none⟩ = some (.slice ma m.length mc) ∧ ((WQ.setCell ⟨R, 0, none⟩ (.slice ma m.length mc)).setCell ⟨R, 1, none⟩ (.slice sa s.length sc)).cell? ⟨X7, 1, none⟩ = some (.slice sa s.length sc) ∧ ((WQ.setCell ⟨R, 0, none⟩ (.slice ma m.length mc)).setCell ⟨R, 1, none⟩ (.slice sa s.length sc)).cell? ⟨X8, 0, none⟩ = some (.slice wa ws.length wc) ∧ ((WQ.setCell ⟨R, 0, none⟩ (.slice ma m.length mc)).setCell ⟨R, 1, none⟩ (.slice sa s.length sc)).cell? ⟨X8, 1, none⟩ = some (.slice ca qs.length cc) := ⟨hb7.c 0 _ rfl, hb7.c 1 _ rfl, hb8.c 0 _ rfl, hb8.c 1 _ rfl⟩
      refine hK0.out _ _ hS ?_
      clear hK0 K0 hb7 hb8
      refine wpAnyK_take0 7 (.int .i64 st) rfl (by kernel_rfl) (fun _ _ _ h => h) hS rfl (by intro w; go_simp) ?_
      simp only [List.getElem_toArray, List.getElem_cons_succ, List.getElem_cons_zero, Act.put, List.setIfInBounds_toArray, List.set_cons_zero, List.set_cons_succ]
      clear hS
      refine wpAnyK_tail 8 rfl (by kernel_rfl) ?_
      simp only [List.drop_succ_cons, List.drop_zero]
      have hF := h.fin rfl
      have z0 := hF.2.1.c 0 _ rfl
      have z1 := hF.2.1.c 1 _ rfl
      have z2 := hF.2.2.c 0 _ rfl
      have z3 := hF.2.2.c 1 _ rfl
      have HF := Lib.hid (And.intro hF.1 (hF.1.2.2.2 _ _ ho))
      clear hF h ho
      go_wp2_with fail
      refine bodyPost_ret (v := .tuple #[.agg #[.slice ma m.length mc, .slice sa s.length sc], .int .i64 st, .agg #[.slice wa ws.length wc, .slice ca qs.length cc], .slice ea en ec]) (by simp [results, Try.results25, go_sem, z0, z1, z2, z3]) rfl ?_
      exact ⟨_, _, _, st, ⟨m, s⟩, qs, ws, _, rfl, HF.out.1.1, HF.out.1.2.1, HF.out.2, HQ.out.1, HQ.out.2, HF.out.1.2.2.1⟩
    · go_wp2_with fail
      refine (pick_any (R + 2) (R + 3) 2900 3 w7 h.cur (by omega) (by omega)).mono ?_
      rintro e w8 ⟨y8, rfl, _, _, _, hc8, k8⟩
      replace ho := ho.step k8 (fun q hq e => by have := (ho.lt q hq).1; have := h.lt; omega)
      replace h := (h.call hc8 k8).more (show _ ≤ 3000 by omega)
      have hbz : X8 + 1 ≤ w8.heap.size := by have := h.b8.lt; omega
      have hl9 := HLL.out
      clear hc8 k8
      go_wp2_with (at_builtin; refine wapp1 rfl (.tmp 43) (.tmp 46) rfl ho rfl rfl hl9 hbz ?_)
      intro v9 w9 h9 k9 f9
      replace h := h.far k9 (fun q hq => by have := (ho.lt q hq).1; omega)
      replace ho := h9
      obtain ⟨fa, fn, fc, rfl⟩ := h9.shape
      clear h9 k9 f9 hbz hl9
      go_wp2_with fail
      have hS : True := trivial
      refine wp_region_K (S := fun W => W.cell? ⟨X7, 0, none⟩ = some (.slice ma m.length mc) ∧ W.cell? ⟨X7, 1, none⟩ = some (.slice sa s.length sc) ∧ W.cell? ⟨X8, 0, none⟩ = some (.slice wa ws.length wc) ∧ W.cell? ⟨X8, 1, none⟩ = some (.slice ca qs.length cc)) (k := 8) (by kernel_rfl) ?_
      replace h := h.keep (drewN0 _)
      replace ho := ho.keep (drewN0 _)
      clear hS
      generalize World.drew _ = WQ at h ho ⊢
      have hS : WQ.cell? ⟨X7, 0, none⟩ = some (.slice ma m.length mc) ∧ WQ.cell? ⟨X7, 1, none⟩ = some (.slice sa s.length sc) ∧ WQ.cell? ⟨X8, 0, none⟩ = some (.slice wa ws.length wc) ∧ WQ.cell? ⟨X8, 1, none⟩ = some (.slice ca qs.length cc) := ⟨h.b7.c 0 _ rfl, h.b7.c 1 _ rfl, h.b8.c 0 _ rfl, h.b8.c 1 _ rfl⟩
      refine wpAnyK_takeT 0 (.agg #[.slice ma m.length mc, .slice sa s.length sc]) rfl (by kernel_rfl) (fun _ _ _ h => h) hS rfl (by intro w hSw; go_simp) ?_
      simp only [List.getElem_toArray, List.getElem_cons_zero, Act.put, List.setIfInBounds_toArray, List.set_cons_zero, List.set_cons_succ]
      refine wpAnyK_take0 1 (.pointer (some ⟨R + 2, 0, none⟩)) rfl (by kernel_rfl) (fun _ _ _ h => h) hS rfl (by intro w; go_simp) ?_
      simp only [List.getElem_toArray, List.getElem_cons_succ, List.getElem_cons_zero, Act.put, List.setIfInBounds_toArray, List.set_cons_zero, List.set_cons_succ]
      refine wpAnyK_takeT 2 (.agg #[.slice ma m.length mc, .slice sa s.length sc]) rfl (by kernel_rfl) (fun _ _ _ h => h) hS rfl (by intro w hSw; go_simp) ?_
      simp only [List.getElem_toArray, List.getElem_cons_succ, List.getElem_cons_zero, Act.put, List.setIfInBounds_toArray, List.set_cons_zero, List.set_cons_succ]
      refine wpAnyK_takeT 4 (.agg #[.slice wa ws.length wc, .slice ca qs.length cc]) rfl (by kernel_rfl) (fun _ _ _ h => h) hS rfl (by intro w hSw; go_simp) ?_
      simp only [List.getElem_toArray, List.getElem_cons_succ, List.getElem_cons_zero, Act.put, List.setIfInBounds_toArray, List.set_cons_zero, List.set_cons_succ]
      refine wpAnyK_take0 5 (.slice fa fn fc) rfl (by kernel_rfl) (fun _ _ _ h => h) hS rfl (by intro w; go_simp) ?_
      simp only [List.getElem_toArray, List.getElem_cons_succ, List.getElem_cons_zero, Act.put, List.setIfInBounds_toArray, List.set_cons_zero, List.set_cons_succ]
      refine wpAnyK_1 3 (by kernel_rfl) (wpOpK' rfl rfl ?_)
      intro K0 hK0
      refine ocallE (f := 49) (args := #[.pointer (some ⟨R + 2, 0, none⟩), .agg #[.slice ma m.length mc, .slice sa s.length sc]]) (φ := fun v W' => ∃ st : Int, v = .int .i64 st ∧ Cur W' (R + 2) (R + 3) (3000 + 10) ∧ Chg (fun q => q = R + 2) WQ W') (by go_simp) ((state8_any (R + 2) (R + 3) 3000 _ ⟨m, s⟩ WQ (h.cur.more (by omega)) (h.pr.weak (fun _ e _ => e.elim)) (Nat.le_trans h.mlen (by omega)) (by omega)).mono (fun e W' ⟨x, h1, _, _, h5, h6⟩ => ⟨_, h1, x, rfl, h5, h6⟩)) (fun v2 W2 h2 => hK0.out _ _ (by obtain ⟨x, _, q1, q2⟩ := h2; have g := h.call q1 q2; exact ⟨g.b7.c 0 _ rfl, g.b7.c 1 _ rfl, g.b8.c 0 _ rfl, g.b8.c 1 _ rfl⟩) ?_)
      obtain ⟨st, rfl, hc2, k2⟩ := h2
      replace ho := ho.step k2 (fun q hq e => by have := (ho.lt q hq).1; have := h.lt; omega)
      replace h := h.call hc2 k2
      clear hK0 K0 hS hc2 k2
      simp only [List.getElem_toArray, List.getElem_cons_succ, List.getElem_cons_zero, Act.put, List.setIfInBounds_toArray, List.set_cons_zero, List.set_cons_succ]
      generalize W2 = WQ at *
      have e0 := h.r0.c 0 _ rfl
      have e1 := h.r0.c 1 _ rfl
      have f0 := h.r0.fr 0
      have f1 := h.r0.fr 1
      have d0 := h.r1.c 0 _ rfl
      have d1 := h.r1.c 1 _ rfl
      have c0 := h.r1.fr 0
      have c1 := h.r1.fr 1
      refine wpAnyK_1 6 (by kernel_rfl) (wpOpK' rfl rfl ?_)
      intro K0 hK0
      unfold Oper.wp execOp
      go_simp
      have hb7 := ((h.b7.far ⟨R, 0, none⟩ (.slice ma m.length mc) (by have := h.lt; simp; omega)).far ⟨R, 1, none⟩ (.slice sa s.length sc) (by have := h.lt; simp; omega))
      have hb8 := ((h.b8.far ⟨R, 0, none⟩ (.slice ma m.length mc) (by have := h.lt; simp; omega)).far ⟨R, 1, none⟩ (.slice sa s.length sc) (by have := h.lt; simp; omega))
      have hS : ((WQ.setCell ⟨R, 0, none⟩ (.slice ma m.length mc)).setCell ⟨R, 1, none⟩ (.slice sa s.length sc)).cell? ⟨X7, 0, none⟩ = some (.slice ma m.length mc) ∧ ((WQ.setCell ⟨R, 0, none⟩ (.slice ma m.length mc)).setCell ⟨R, 1, none⟩ (.slice sa s.length sc)).cell? ⟨X7, 1, none⟩ = some (.slice sa s.length sc) ∧ ((WQ.setCell ⟨R, 0, none⟩ (.slice ma m.length mc)).setCell ⟨R, 1, none⟩ (.slice sa s.length sc)).cell? ⟨X8, 0, none⟩ = some (.slice wa ws.length wc) ∧ ((WQ.setCell ⟨R, 0, none⟩ (.slice ma m.length mc)).setCell ⟨R, 1, none⟩ (.slice sa s.length sc)).cell? ⟨X8, 1, none⟩ = some (.slice ca qs.length cc) := ⟨hb7.c 0 _ rfl, hb7.c 1 _ rfl, hb8.c 0 _ rfl, hb8.c 1 _ rfl⟩
      refine hK0.out _ _ hS ?_
      clear hK0 K0 hb7 hb8
      refine wpAnyK_take0 7 (.int .i64 st) rfl (by kernel_rfl) (fun _ _ _ h => h) hS rfl (by intro w; go_simp) ?_
      simp only [List.getElem_toArray, List.getElem_cons_succ, List.getElem_cons_zero, Act.put, List.setIfInBounds_toArray, List.set_cons_zero, List.set_cons_succ]
      clear hS
      refine wpAnyK_tail 8 rfl (by kernel_rfl) ?_
      simp only [List.drop_succ_cons, List.drop_zero]
      have hF := h.fin rfl
      have z0 := hF.2.1.c 0 _ rfl
      have z1 := hF.2.1.c 1 _ rfl
      have z2 := hF.2.2.c 0 _ rfl
      have z3 := hF.2.2.c 1 _ rfl
      have HF := Lib.hid (And.intro hF.1 (hF.1.2.2.2 _ _ ho))
      clear hF h ho
      go_wp2_with fail
      refine bodyPost_ret (v := .tuple #[.agg #[.slice ma m.length mc, .slice sa s.length sc], .int .i64 st, .agg #[.slice wa ws.length wc, .slice ca qs.length cc], .slice fa fn fc]) (by simp [results, Try.results25, go_sem, z0, z1, z2, z3]) rfl ?_
      exact ⟨_, _, _, st, ⟨m, s⟩, qs, ws, _, rfl, HF.out.1.1, HF.out.1.2.1, HF.out.2, HQ.out.1, HQ.out.2, HF.out.1.2.2.1⟩
  · have hqp1 : ¬ (0 : Int) < (qs.length : Int) := by omega
    go_wp2_with fail
    have ho := OI.zeroAt (base := X8 + 1) hz3 (Nat.le_refl _)
    replace h := h.keep ((Chg.refl No w4).alloc (.cells #[] 3))
    generalize w4.alloc _ = w5 at h ho ⊢
    have HLL : Hid (([] : List Int).length < 17592186044416) := Lib.hid (by simp)
    refine (one_any (R + 2) (R + 3) 2000 8 _ h.cur (by omega) (by omega)).mono ?_
    rintro e w7 ⟨t, rfl, hc7, k7⟩
    replace ho := ho.step k7 (fun q hq e => by have := (ho.lt q hq).1; have := h.lt; omega)
    replace h := (h.call hc7 k7).more (show _ ≤ 2900 by omega)
    clear hc7 k7
    cases t
    · go_wp2_with fail
      have hS : True := trivial
      refine wp_region_K (S := fun W => W.cell? ⟨X7, 0, none⟩ = some (.slice ma m.length mc) ∧ W.cell? ⟨X7, 1, none⟩ = some (.slice sa s.length sc) ∧ W.cell? ⟨X8, 0, none⟩ = some (.slice wa ws.length wc) ∧ W.cell? ⟨X8, 1, none⟩ = some (.slice ca qs.length cc)) (k := 8) (by kernel_rfl) ?_
      replace h := h.keep (drewN0 _)
      replace ho := ho.keep (drewN0 _)
      clear hS
      generalize World.drew _ = WQ at h ho ⊢
      have hS : WQ.cell? ⟨X7, 0, none⟩ = some (.slice ma m.length mc) ∧ WQ.cell? ⟨X7, 1, none⟩ = some (.slice sa s.length sc) ∧ WQ.cell? ⟨X8, 0, none⟩ = some (.slice wa ws.length wc) ∧ WQ.cell? ⟨X8, 1, none⟩ = some (.slice ca qs.length cc) := ⟨h.b7.c 0 _ rfl, h.b7.c 1 _ rfl, h.b8.c 0 _ rfl, h.b8.c 1 _ rfl⟩
      refine wpAnyK_takeT 0 (.agg #[.slice ma m.length mc, .slice sa s.length sc]) rfl (by kernel_rfl) (fun _ _ _ h => h) hS rfl (by intro w hSw; go_simp) ?_
      simp only [List.getElem_toArray, List.getElem_cons_zero, Act.put, List.setIfInBounds_toArray, List.set_cons_zero, List.set_cons_succ]
      refine wpAnyK_take0 1 (.pointer (some ⟨R + 2, 0, none⟩)) rfl (by kernel_rfl) (fun _ _ _ h => h) hS rfl (by intro w; go_simp) ?_
      simp only [List.getElem_toArray, List.getElem_cons_succ, List.getElem_cons_zero, Act.put, List.setIfInBounds_toArray, List.set_cons_zero, List.set_cons_succ]
      refine wpAnyK_takeT 2 (.agg #[.slice ma m.length mc, .slice sa s.length sc]) rfl (by kernel_rfl) (fun _ _ _ h => h) hS rfl (by intro w hSw; go_simp) ?_
      simp only [List.getElem_toArray, List.getElem_cons_succ, List.getElem_cons_zero, Act.put, List.setIfInBounds_toArray, List.set_cons_zero, List.set_cons_succ]
      refine wpAnyK_takeT 4 (.agg #[.slice wa ws.length wc, .slice ca qs.length cc]) rfl (by kernel_rfl) (fun _ _ _ h => h) hS rfl (by intro w hSw; go_simp) ?_
      simp only [List.getElem_toArray, List.getElem_cons_succ, List.getElem_cons_zero, Act.put, List.setIfInBounds_toArray, List.set_cons_zero, List.set_cons_succ]
      refine wpAnyK_take0 5 (.slice (some ⟨X8 + 1, 0, none⟩) 0 0) rfl (by kernel_rfl) (fun _ _ _ h => h) hS rfl (by intro w; go_simp) ?_
      simp only [List.getElem_toArray, List.getElem_cons_succ, List.getElem_cons_zero, Act.put, List.setIfInBounds_toArray, List.set_cons_zero, List.set_cons_succ]
      refine wpAnyK_1 3 (by kernel_rfl) (wpOpK' rfl rfl ?_)
      intro K0 hK0
      refine ocallE (f := 49) (args := #[.pointer (some ⟨R + 2, 0, none⟩), .agg #[.slice ma m.length mc, .slice sa s.length sc]]) (φ := fun v W' => ∃ st : Int, v = .int .i64 st ∧ Cur W' (R + 2) (R + 3) (3000 + 10) ∧ Chg (fun q => q = R + 2) WQ W') (by go_simp) ((state8_any (R + 2) (R + 3) 3000 _ ⟨m, s⟩ WQ (h.cur.more (by omega)) (h.pr.weak (fun _ e _ => e.elim)) (Nat.le_trans h.mlen (by omega)) (by omega)).mono (fun e W' ⟨x, h1, _, _, h5, h6⟩ => ⟨_, h1, x, rfl, h5, h6⟩)) (fun v2 W2 h2 => hK0.out _ _ (by obtain ⟨x, _, q1, q2⟩ := h2; have g := h.call q1 q2; exact ⟨g.b7.c 0 _ rfl, g.b7.c 1 _ rfl, g.b8.c 0 _ rfl, g.b8.c 1 _ rfl⟩) ?_)
      obtain ⟨st, rfl, hc2, k2⟩ := h2
      replace ho := ho.step k2 (fun q hq e => by have := (ho.lt q hq).1; have := h.lt; omega)
      replace h := h.call hc2 k2
      clear hK0 K0 hS hc2 k2
      simp only [List.getElem_toArray, List.getElem_cons_succ, List.getElem_cons_zero, Act.put, List.setIfInBounds_toArray, List.set_cons_zero, List.set_cons_succ]
      generalize W2 = WQ at *
      have e0 := h.r0.c 0 _ rfl
      have e1 := h.r0.c 1 _ rfl
      have f0 := h.r0.fr 0
      have f1 := h.r0.fr 1
      have d0 := h.r1.c 0 _ rfl
      have d1 := h.r1.c 1 _ rfl
      have c0 := h.r1.fr 0
      have c1 := h.r1.fr 1
      refine wpAnyK_1 6 (by kernel_rfl) (wpOpK' rfl rfl ?_)
      intro K0 hK0
      unfold Oper.wp execOp
      go_simp
      have hb7 := ((h.b7.far ⟨R, 0, none⟩ (.slice ma m.length mc) (by have := h.lt; simp; omega)).far ⟨R, 1, none⟩ (.slice sa s.length sc) (by have := h.lt; simp; omega))
      have hb8 := ((h.b8.far ⟨R, 0, none⟩ (.slice ma m.length mc) (by have := h.lt; simp; omega)).far ⟨R, 1, none⟩ (.slice sa s.length sc) (by have := h.lt; simp; omega))
      have hS : ((WQ.setCell ⟨R, 0, none⟩ (.slice ma m.length mc)).setCell ⟨R, 1, none⟩ (.slice sa s.length sc)).cell? ⟨X7, 0, none⟩ = some (.slice ma m.length mc) ∧ ((WQ.setCell ⟨R, 0, none⟩ (.slice ma m.length mc)).setCell ⟨R, 1, none⟩ (.slice sa s.length sc)).cell? ⟨X7, 1, none⟩ = some (.slice sa s.length sc) ∧ ((WQ.setCell ⟨R, 0, none⟩ (.slice ma m.length mc)).setCell ⟨R, 1, none⟩ (.slice sa s.length sc)).cell? ⟨X8, 0, none⟩ = some (.slice wa ws.length wc) ∧ ((WQ.setCell ⟨R, 0, none⟩ (.slice ma m.length mc)).setCell ⟨R, 1, none⟩ (.slice sa s.length sc)).cell? ⟨X8, 1, none⟩ = some (.slice ca qs.length cc) := ⟨hb7.c 0 _ rfl, hb7.c 1 _ rfl, hb8.c 0 _ rfl, hb8.c 1 _ rfl⟩
      refine hK0.out _ _ hS ?_
      clear hK0 K0 hb7 hb8
      refine wpAnyK_take0 7 (.int .i64 st) rfl (by kernel_rfl) (fun _ _ _ h => h) hS rfl (by intro w; go_simp) ?_
      simp only [List.getElem_toArray, List.getElem_cons_succ, List.getElem_cons_zero, Act.put, List.setIfInBounds_toArray, List.set_cons_zero, List.set_cons_succ]
      clear hS
      refine wpAnyK_tail 8 rfl (by kernel_rfl) ?_
      simp only [List.drop_succ_cons, List.drop_zero]
      have hF := h.fin rfl
      have z0 := hF.2.1.c 0 _ rfl
      have z1 := hF.2.1.c 1 _ rfl
      have z2 := hF.2.2.c 0 _ rfl
      have z3 := hF.2.2.c 1 _ rfl
      have HF := Lib.hid (And.intro hF.1 (hF.1.2.2.2 _ _ ho))
      clear hF h ho
      go_wp2_with fail
      refine bodyPost_ret (v := .tuple #[.agg #[.slice ma m.length mc, .slice sa s.length sc], .int .i64 st, .agg #[.slice wa ws.length wc, .slice ca qs.length cc], .slice (some ⟨X8 + 1, 0, none⟩) 0 0]) (by simp [results, Try.results25, go_sem, z0, z1, z2, z3]) rfl ?_
      exact ⟨_, _, _, st, ⟨m, s⟩, qs, ws, _, rfl, HF.out.1.1, HF.out.1.2.1, HF.out.2, HQ.out.1, HQ.out.2, HF.out.1.2.2.1⟩
    · go_wp2_with fail
      refine (pick_any (R + 2) (R + 3) 2900 3 w7 h.cur (by omega) (by omega)).mono ?_
      rintro e w8 ⟨y8, rfl, _, _, _, hc8, k8⟩
      replace ho := ho.step k8 (fun q hq e => by have := (ho.lt q hq).1; have := h.lt; omega)
      replace h := (h.call hc8 k8).more (show _ ≤ 3000 by omega)
      have hbz : X8 + 1 ≤ w8.heap.size := by have := h.b8.lt; omega
      have hl9 := HLL.out
      clear hc8 k8
      go_wp2_with (at_builtin; refine wapp1 rfl (.tmp 43) (.tmp 46) rfl ho rfl rfl hl9 hbz ?_)
      intro v9 w9 h9 k9 f9
      replace h := h.far k9 (fun q hq => by have := (ho.lt q hq).1; omega)
      replace ho := h9
      obtain ⟨fa, fn, fc, rfl⟩ := h9.shape
      clear h9 k9 f9 hbz hl9
      go_wp2_with fail
      have hS : True := trivial
      refine wp_region_K (S := fun W => W.cell? ⟨X7, 0, none⟩ = some (.slice ma m.length mc) ∧ W.cell? ⟨X7, 1, none⟩ = some (.slice sa s.length sc) ∧ W.cell? ⟨X8, 0, none⟩ = some (.slice wa ws.length wc) ∧ W.cell? ⟨X8, 1, none⟩ = some (.slice ca qs.length cc)) (k := 8) (by kernel_rfl) ?_
      replace h := h.keep (drewN0 _)
      replace ho := ho.keep (drewN0 _)
      clear hS
      generalize World.drew _ = WQ at h ho ⊢
      have hS : WQ.cell? ⟨X7, 0, none⟩ = some (.slice ma m.length mc) ∧ WQ.cell? ⟨X7, 1, none⟩ = some (.slice sa s.length sc) ∧ WQ.cell? ⟨X8, 0, none⟩ = some (.slice wa ws.length wc) ∧ WQ.cell? ⟨X8, 1, none⟩ = some (.slice ca qs.length cc) := ⟨h.b7.c 0 _ rfl, h.b7.c 1 _ rfl, h.b8.c 0 _ rfl, h.b8.c 1 _ rfl⟩
      refine wpAnyK_takeT 0 (.agg #[.slice ma m.length mc, .slice sa s.length sc]) rfl (by kernel_rfl) (fun _ _ _ h => h) hS rfl (by intro w hSw; go_simp) ?_
      simp only [List.getElem_toArray, List.getElem_cons_zero, Act.put, List.setIfInBounds_toArray, List.set_cons_zero, List.set_cons_succ]
      refine wpAnyK_take0 1 (.pointer (some ⟨R + 2, 0, none⟩)) rfl (by kernel_rfl) (fun _ _ _ h => h) hS rfl (by intro w; go_simp) ?_
      simp only [List.getElem_toArray, List.getElem_cons_succ, List.getElem_cons_zero, Act.put, List.setIfInBounds_toArray, List.set_cons_zero, List.set_cons_succ]
      refine wpAnyK_takeT 2 (.agg #[.slice ma m.length mc, .slice sa s.length sc]) rfl (by kernel_rfl) (fun _ _ _ h => h) hS rfl (by intro w hSw; go_simp) ?_
      simp only [List.getElem_toArray, List.getElem_cons_succ, List.getElem_cons_zero, Act.put, List.setIfInBounds_toArray, List.set_cons_zero, List.set_cons_succ]
      refine wpAnyK_takeT 4 (.agg #[.slice wa ws.length wc, .slice ca qs.length cc]) rfl (by kernel_rfl) (fun _ _ _ h => h) hS rfl (by intro w hSw; go_simp) ?_
      simp only [List.getElem_toArray, List.getElem_cons_succ, List.getElem_cons_zero, Act.put, List.setIfInBounds_toArray, List.set_cons_zero, List.set_cons_succ]
      refine wpAnyK_take0 5 (.slice fa fn fc) rfl (by kernel_rfl) (fun _ _ _ h => h) hS rfl (by intro w; go_simp) ?_
      simp only [List.getElem_toArray, List.getElem_cons_succ, List.getElem_cons_zero, Act.put, List.setIfInBounds_toArray, List.set_cons_zero, List.set_cons_succ]
      refine wpAnyK_1 3 (by kernel_rfl) (wpOpK' rfl rfl ?_)
      intro K0 hK0
      refine ocallE (f := 49) (args := #[.pointer (some ⟨R + 2, 0, none⟩), .agg #[.slice ma m.length mc, .slice sa s.length sc]]) (φ := fun v W' => ∃ st : Int, v = .int .i64 st ∧ Cur W' (R + 2) (R + 3) (3000 + 10) ∧ Chg (fun q => q = R + 2) WQ W') (by go_simp) ((state8_any (R + 2) (R + 3) 3000 _ ⟨m, s⟩ WQ (h.cur.more (by omega)) (h.pr.weak (fun _ e _ => e.elim)) (Nat.le_trans h.mlen (by omega)) (by omega)).mono (fun e W' ⟨x, h1, _, _, h5, h6⟩ => ⟨_, h1, x, rfl, h5, h6⟩)) (fun v2 W2 h2 => hK0.out _ _ (by obtain ⟨x, _, q1, q2⟩ := h2; have g := h.call q1 q2; exact ⟨g.b7.c 0 _ rfl, g.b7.c 1 _ rfl, g.b8.c 0 _ rfl, g.b8.c 1 _ rfl⟩) ?_)
      obtain ⟨st, rfl, hc2, k2⟩ := h2
      replace ho := ho.step k2 (fun q hq e => by have := (ho.lt q hq).1; have := h.lt; omega)
      replace h := h.call hc2 k2
      clear hK0 K0 hS hc2 k2
      simp only [List.getElem_toArray, List.getElem_cons_succ, List.getElem_cons_zero, Act.put, List.setIfInBounds_toArray, List.set_cons_zero, List.set_cons_succ]
      generalize W2 = WQ at *
      have e0 := h.r0.c 0 _ rfl
      have e1 := h.r0.c 1 _ rfl
      have f0 := h.r0.fr 0
      have f1 := h.r0.fr 1
      have d0 := h.r1.c 0 _ rfl
      have d1 := h.r1.c 1 _ rfl
      have c0 := h.r1.fr 0
      have c1 := h.r1.fr 1
      refine wpAnyK_1 6 (by kernel_rfl) (wpOpK' rfl rfl ?_)
      intro K0 hK0
      unfold Oper.wp execOp
      go_simp
      have hb7 := ((h.b7.far ⟨R, 0, none⟩ (.slice ma m.length mc) (by have := h.lt; simp; omega)).far ⟨R, 1, none⟩ (.slice sa s.length sc) (by have := h.lt; simp; omega))
      have hb8 := ((h.b8.far ⟨R, 0, none⟩ (.slice ma m.length mc) (by have := h.lt; simp; omega)).far ⟨R, 1, none⟩ (.slice sa s.length sc) (by have := h.lt; simp; omega))
      have hS : ((WQ.setCell ⟨R, 0, none⟩ (.slice ma m.length mc)).setCell ⟨R, 1, none⟩ (.slice sa s.length sc)).cell? ⟨X7, 0, none⟩ = some (.slice ma m.length mc) ∧ ((WQ.setCell ⟨R, 0, none⟩ (.slice ma m.length mc)).setCell ⟨R, 1, none⟩ (.slice sa s.length sc)).cell? ⟨X7, 1, none⟩ = some (.slice sa s.length sc) ∧ ((WQ.setCell ⟨R, 0, none⟩ (.slice ma m.length mc)).setCell ⟨R, 1, none⟩ (.slice sa s.length sc)).cell? ⟨X8, 0, none⟩ = some (.slice wa ws.length wc) ∧ ((WQ.setCell ⟨R, 0, none⟩ (.slice ma m.length mc)).setCell ⟨R, 1, none⟩ (.slice sa s.length sc)).cell? ⟨X8, 1, none⟩ = some (.slice ca qs.length cc) := ⟨hb7.c 0 _ rfl, hb7.c 1 _ rfl, hb8.c 0 _ rfl, hb8.c 1 _ rfl⟩
      refine hK0.out _ _ hS ?_
      clear hK0 K0 hb7 hb8
      refine wpAnyK_take0 7 (.int .i64 st) rfl (by kernel_rfl) (fun _ _ _ h => h) hS rfl (by intro w; go_simp) ?_
      simp only [List.getElem_toArray, List.getElem_cons_succ, List.getElem_cons_zero, Act.put, List.setIfInBounds_toArray, List.set_cons_zero, List.set_cons_succ]
      clear hS
      refine wpAnyK_tail 8 rfl (by kernel_rfl) ?_
      simp only [List.drop_succ_cons, List.drop_zero]
      have hF := h.fin rfl
      have z0 := hF.2.1.c 0 _ rfl
      have z1 := hF.2.1.c 1 _ rfl
      have z2 := hF.2.2.c 0 _ rfl
      have z3 := hF.2.2.c 1 _ rfl
      have HF := Lib.hid (And.intro hF.1 (hF.1.2.2.2 _ _ ho))
      clear hF h ho
      go_wp2_with fail
      refine bodyPost_ret (v := .tuple #[.agg #[.slice ma m.length mc, .slice sa s.length sc], .int .i64 st, .agg #[.slice wa ws.length wc, .slice ca qs.length cc], .slice fa fn fc]) (by simp [results, Try.results25, go_sem, z0, z1, z2, z3]) rfl ?_
      exact ⟨_, _, _, st, ⟨m, s⟩, qs, ws, _, rfl, HF.out.1.1, HF.out.1.2.1, HF.out.2, HQ.out.1, HQ.out.2, HF.out.1.2.2.1⟩
end Go.Proofs.Ytndhijckbponkaa
