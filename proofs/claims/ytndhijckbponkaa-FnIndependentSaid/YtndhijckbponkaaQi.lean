import Derived.Test.YtndhijckbponkaaQh
/- what DrawIndependentBest draws -/
namespace Go.Proofs.Ytndhijckbponkaa
open Go.RowKit

/-- the literal, cut -/
def ARl (R G : Nat) (W : World) : Prop := ∀ n, n ≤ 6 → RI (fun q => q = R + 1) W (.slice (some ⟨G, 0, none⟩) n 6) (([0, 1, 2, 3, 4, -1] : List Int).take n)
theorem ARl.step {R G : Nat} {W W' : World} (h : ARl R G W) (k : Chg (fun q => q = R + 1) W W') : ARl R G W' := fun n hn => (h n hn).step k (fun _ e => e)
theorem RPr.weak {A B : Nat → Prop} {w : World} {v : Value} {P : Pr} (h : RPr A w v P) (hB : ∀ k, B k → k < w.heap.size → A k) : RPr B w v P := by
  obtain ⟨m, s, rfl, h1, h2⟩ := h
  exact ⟨m, s, rfl, h1.weak hB, h2.weak hB⟩
theorem RPr.weakN {A : Nat → Prop} {w : World} {v : Value} {P : Pr} (h : RPr A w v P) : RPr No w v P := h.weak (fun _ e _ => e.elim)
/-- what the last region of DrawIndependentBest stands in -/
structure IbD (R X7 K : Nat) (w W : World) (ma : Option Addr) (mc : Nat) (sa : Option Addr) (sc : Nat) (m s : List (List Int)) (v : Value) (l : List Int) : Prop where
  cur : Cur W (R + 1) (R + 2) K
  bx : BoxN W X7 [.slice ma m.length mc, .slice sa s.length sc]
  br : BoxN W R [.slice none 0 0, .slice none 0 0]
  pr : RPr (fun q => q < R + 2) W (.agg #[.slice ma m.length mc, .slice sa s.length sc]) ⟨m, s⟩
  ow : OI (R + 2) W v l
  kk : Chg No w W
  lt : R + 1 < X7
  mlen : m.length ≤ 8
  sz : w.heap.size = R
theorem IbD.call {R X7 K K' : Nat} {w W W' : World} {ma : Option Addr} {mc : Nat} {sa : Option Addr} {sc : Nat} {m s : List (List Int)} {v : Value} {l : List Int} (h : IbD R X7 K w W ma mc sa sc m s v l) (hc : Cur W' (R + 1) (R + 2) K') (k : Chg (fun q => q = R + 1) W W') : IbD R X7 K' w W' ma mc sa sc m s v l :=
  ⟨hc, h.bx.step k (by have := h.lt; omega), h.br.step k (by omega), h.pr.step k (fun q e => by show q < R + 2; omega), h.ow.step k (fun q hq e => by have := (h.ow.lt q hq).1; omega), h.kk.step k (fun q e hl => by have := h.sz; omega), h.lt, h.mlen, h.sz⟩
theorem IbD.keep {R X7 K : Nat} {w W W' : World} {ma : Option Addr} {mc : Nat} {sa : Option Addr} {sc : Nat} {m s : List (List Int)} {v : Value} {l : List Int} (h : IbD R X7 K w W ma mc sa sc m s v l) (k : Chg No W W') : IbD R X7 K w W' ma mc sa sc m s v l :=
  h.call (h.cur.keep k) ((Chg.refl (fun q => q = R + 1) W).step k (fun _ e _ => e.elim))
theorem IbD.fin {R X7 K : Nat} {w W : World} {ma : Option Addr} {mc : Nat} {sa : Option Addr} {sc : Nat} {m s : List (List Int)} {v : Value} {l : List Int} (h : IbD R X7 K w W ma mc sa sc m s v l) :
    (RPr No ((W.setCell ⟨R, 0, none⟩ (.slice ma m.length mc)).setCell ⟨R, 1, none⟩ (.slice sa s.length sc)) (.agg #[.slice ma m.length mc, .slice sa s.length sc]) ⟨m, s⟩ ∧ RI No ((W.setCell ⟨R, 0, none⟩ (.slice ma m.length mc)).setCell ⟨R, 1, none⟩ (.slice sa s.length sc)) v l ∧
      Chg No w ((W.setCell ⟨R, 0, none⟩ (.slice ma m.length mc)).setCell ⟨R, 1, none⟩ (.slice sa s.length sc))) ∧ BoxN ((W.setCell ⟨R, 0, none⟩ (.slice ma m.length mc)).setCell ⟨R, 1, none⟩ (.slice sa s.length sc)) R [.slice ma m.length mc, .slice sa s.length sc] := by
  have k := (chg1 W R 0 (.slice ma m.length mc)).trans (chg1 _ R 1 (.slice sa s.length sc))
  refine ⟨⟨(h.pr.step k (fun q e => by show q < R + 2; omega)).weakN, (h.ow.step k (fun q hq e => by have := (h.ow.lt q hq).1; omega)).readNo, h.kk.step k (fun q e hl => by have := h.sz; omega)⟩, (h.br.set (i := 0) (by simp) _).set (i := 1) (by simp) _⟩
set_option maxRecDepth 100000 in
set_option maxHeartbeats 8000000 in
theorem DrawIndep_any (v : Value) (n : Nat) (w : World) (hco : Code w v n) (hn : n ≤ 70001) :
    Calls Try.prog 19 #[v] w fun e w' => ∃ (pv wv : Value) (st L : Int) (P : Pr) (l : List Int), e = .returned (.tuple #[pv, .int .i64 st, wv, .int .i64 L]) ∧ RPr No w' pv P ∧ RI No w' wv l ∧ l.length ≤ 41 ∧ -1 ≤ L ∧ L ≤ 4 ∧ Chg No w w' := by
  obtain ⟨a, cp, rfl⟩ := hco.shape
  have b0 := BoxN.new w #[.slice none 0 0, .slice none 0 0] 32
  have k0 := (Chg.refl No w).alloc (.cells #[.slice none 0 0, .slice none 0 0] 32)
  have hc := Cur.new (hco.keep k0) (by omega) 80
  have k1 := (Chg.refl No (w.alloc (.cells #[.slice none 0 0, .slice none 0 0] 32))).alloc (.cells #[.slice a n cp, .int .i64 0, .int .u64 0] 80)
  have hz : (w.alloc (.cells #[.slice none 0 0, .slice none 0 0] 32)).heap.size = w.heap.size + 1 := World.size_alloc _ _
  have hz1 := World.size_alloc (w.alloc (.cells #[.slice none 0 0, .slice none 0 0] 32)) (.cells #[.slice a n cp, .int .i64 0, .int .u64 0] 80)
  obtain ⟨R, hR⟩ : ∃ R, w.heap.size = R := ⟨_, rfl⟩
  rw [hz, hR] at hc hz1
  rw [hR] at b0
  replace b0 := b0.keep k1
  have kk := k0.trans k1
  have HR := Lib.hid hR
  go_enter Try.func19, Try.ntmps19
  go_wp2_with fail
  clear hco k0 k1 hz hR
  generalize (w.alloc (.cells #[.slice none 0 0, .slice none 0 0] 32)).alloc (.cells #[.slice a n cp, .int .i64 0, .int .u64 0] 80) = W0 at hc kk b0 hz1 ⊢
  refine (problem_any (R + 1) (R + 1 + 1) 0 W0 hc (by omega) (by omega)).mono ?_
  rintro e w1 ⟨pv, P, rfl, hP, hm8, hs40, hc1, hk1⟩
  obtain ⟨m, s⟩ := P
  dsimp only at hm8 hs40
  have hs1 := hk1.size
  have kk1 := kk.step hk1 (fun q e hl => by have := HR.out; omega)
  replace b0 := b0.step hk1 (by omega)
  rw [hz1] at hP
  obtain ⟨mv, sv, rfl, hpm, hps⟩ := id hP
  dsimp only at hpm hps
  obtain ⟨ma, mc, rfl, _⟩ := hpm.view
  obtain ⟨sa, sc, rfl, _⟩ := hps.view
  clear hpm hps hc kk hk1
  have bx := BoxN.new w1 #[.slice ma m.length mc, .slice sa s.length sc] 32
  have ka := (Chg.refl No w1).alloc (.cells #[.slice ma m.length mc, .slice sa s.length sc] 32)
  obtain ⟨X7, hX7⟩ : ∃ X, w1.heap.size = X := ⟨_, rfl⟩
  rw [hX7] at bx
  have hX : R + 1 < X7 := by omega
  have kk2 := kk1.keep ka
  have hP2 := hP.keep ka
  have hc2 := hc1.keep ka
  replace b0 := b0.keep ka
  have z2 : (w1.alloc (.cells #[.slice ma m.length mc, .slice sa s.length sc] 32)).heap.size = X7 + 1 := by rw [World.size_alloc, hX7]
  go_wp2_with fail
  clear hP kk1 hc1 ka hX7
  generalize w1.alloc (.cells #[.slice ma m.length mc, .slice sa s.length sc] 32) = w2 at bx kk2 hP2 hc2 b0 z2 ⊢
  refine (weights11_any (R + 1) (R + 1 + 1) (0 + 1000) s.length 0 w2 hc2 (by omega) (by omega) (by omega)).mono ?_
  rintro e w3 ⟨wv, l, rfl, ho, hl, hc3, k3⟩
  have hRX : ¬ X7 = R + 1 := by omega
  have bx3 := bx.step k3 hRX
  have b03 := b0.step k3 (by omega)
  have hP3 := hP2.step k3 (fun q e => by show q < R + 1 + 1; omega)
  have kk3 := kk2.step k3 (fun q e hl => by have := HR.out; omega)
  have ho3 := ho.weak (base' := R + 2) (by omega)
  clear bx kk2 hP2 hc2 b0 k3 ho
  go_wp2_with fail
  refine (one_any (R + 1) (R + 1 + 1) _ 24 w3 hc3 (by omega) (by omega)).mono ?_
  rintro e w4 ⟨r, rfl, hc4, k4⟩
  have bx4 := bx3.step k4 hRX
  have b04 := b03.step k4 (by omega)
  have hP4 := hP3.step k4 (fun q e => by show q < R + 1 + 1; omega)
  have kk4 := kk3.step k4 (fun q e hl => by have := HR.out; omega)
  have ho4 := ho3.step k4 (fun q hq e => by have := (ho3.lt q hq).1; omega)
  replace hc4 := hc4.more (show 0 + 1000 + 2 * s.length + 10 + 2 ≤ 2000 by omega)
  clear bx3 b03 hP3 kk3 ho3 hc3 k4
  cases r
  · have h : IbD R X7 2000 w w4 ma mc sa sc m s wv l := ⟨hc4, bx4, b04, hP4, ho4, kk4, hX, hm8, HR.out⟩
    have HL3 := Lib.hid (show l.length ≤ 41 by omega)
    have hml := Lib.hid hm8
    obtain ⟨va, vn, vc, rfl⟩ := ho4.shape
    clear hc4 bx4 b04 hP4 ho4 kk4
    go_wp2_with fail
    refine wp_region_K (S := fun W => W.cell? ⟨X7, 0, none⟩ = some (.slice ma m.length mc) ∧ W.cell? ⟨X7, 1, none⟩ = some (.slice sa s.length sc)) (k := 13) (by kernel_rfl) ?_
    replace h := h.keep (drewN0 _)
    generalize World.drew _ = WQ at h ⊢
    have hS : WQ.cell? ⟨X7, 0, none⟩ = some (.slice ma m.length mc) ∧ WQ.cell? ⟨X7, 1, none⟩ = some (.slice sa s.length sc) := ⟨h.bx.c 0 _ rfl, h.bx.c 1 _ rfl⟩
    refine wpAnyK_takeT 0 (.agg #[.slice ma m.length mc, .slice sa s.length sc]) rfl (by kernel_rfl) (fun _ _ _ h => h) hS rfl (by intro w hSw; go_simp) ?_
    simp only [List.getElem_toArray, List.getElem_cons_zero, Act.put, List.setIfInBounds_toArray, List.set_cons_zero, List.set_cons_succ]
    refine wpAnyK_take0 1 (.pointer (some ⟨R + 1, 0, none⟩)) rfl (by kernel_rfl) (fun _ _ _ h => h) hS rfl (by intro w; go_simp) ?_
    simp only [List.getElem_toArray, List.getElem_cons_succ, List.getElem_cons_zero, Act.put, List.setIfInBounds_toArray, List.set_cons_zero, List.set_cons_succ]
    refine wpAnyK_takeT 2 (.agg #[.slice ma m.length mc, .slice sa s.length sc]) rfl (by kernel_rfl) (fun _ _ _ h => h) hS rfl (by intro w hSw; go_simp) ?_
    simp only [List.getElem_toArray, List.getElem_cons_succ, List.getElem_cons_zero, Act.put, List.setIfInBounds_toArray, List.set_cons_zero, List.set_cons_succ]
    refine wpAnyK_take0 4 (.slice va vn vc) rfl (by kernel_rfl) (fun _ _ _ h => h) hS rfl (by intro w; go_simp) ?_
    simp only [List.getElem_toArray, List.getElem_cons_succ, List.getElem_cons_zero, Act.put, List.setIfInBounds_toArray, List.set_cons_zero, List.set_cons_succ]
    refine wpAnyK_take0 5 (.pointer (some ⟨R + 1, 0, none⟩)) rfl (by kernel_rfl) (fun _ _ _ h => h) hS rfl (by intro w; go_simp) ?_
    simp only [List.getElem_toArray, List.getElem_cons_succ, List.getElem_cons_zero, Act.put, List.setIfInBounds_toArray, List.set_cons_zero, List.set_cons_succ]
    refine wpAnyK_take0 7 (.pointer (some ⟨R + 1, 0, none⟩)) rfl (by kernel_rfl) (fun _ _ _ h => h) hS rfl (by intro w; go_simp) ?_
    simp only [List.getElem_toArray, List.getElem_cons_succ, List.getElem_cons_zero, Act.put, List.setIfInBounds_toArray, List.set_cons_zero, List.set_cons_succ]
    refine wpAnyK_2 3 6 (by kernel_rfl) (wpOpK' rfl rfl ?_) (wpOpK' rfl rfl ?_)
    · skip
      intro K0 hK0
      refine ocallE (f := 49) (args := #[.pointer (some ⟨R + 1, 0, none⟩), .agg #[.slice ma m.length mc, .slice sa s.length sc]]) (φ := fun v W' => ∃ st : Int, v = .int .i64 st ∧ Cur W' (R + 1) (R + 2) (2000 + 10) ∧ Chg (fun q => q = R + 1) WQ W') (by go_simp) ((state8_any (R + 1) (R + 2) 2000 _ ⟨m, s⟩ WQ h.cur (h.pr.weakN) (Nat.le_trans h.mlen (by omega)) (by omega)).mono (fun e W' ⟨x, h1, _, _, h5, h6⟩ => ⟨_, h1, x, rfl, h5, h6⟩)) (fun v2 W2 h2 => hK0.out _ _ (by obtain ⟨x, _, q1, q2⟩ := h2; exact ⟨(h.call q1 q2).bx.c 0 _ rfl, (h.call q1 q2).bx.c 1 _ rfl⟩) ?_)
      obtain ⟨st, rfl, hc2, k2⟩ := h2
      replace h := h.call hc2 k2
      try replace rl := rl.step k2
      clear hK0 K0 hS hc2 k2
      simp only [List.getElem_toArray, List.getElem_cons_succ, List.getElem_cons_zero, Act.put, List.setIfInBounds_toArray, List.set_cons_zero, List.set_cons_succ]
      generalize W2 = WQ at *
      have hS : WQ.cell? ⟨X7, 0, none⟩ = some (.slice ma m.length mc) ∧ WQ.cell? ⟨X7, 1, none⟩ = some (.slice sa s.length sc) := ⟨h.bx.c 0 _ rfl, h.bx.c 1 _ rfl⟩
      refine wpAnyK_2 6 8 (by kernel_rfl) (wpOpK' rfl rfl ?_) (wpOpK' rfl rfl ?_)
      · skip
        intro K0 hK0
        have ka := (Chg.refl No WQ).alloc (.cells #[.int .i64 0, .int .i64 1, .int .i64 2, .int .i64 3, .int .i64 4, .int .i64 (-1)] 3)
        have rl : ∀ n, n ≤ 6 → RI (fun q => q = R + 1) (WQ.alloc (.cells #[.int .i64 0, .int .i64 1, .int .i64 2, .int .i64 3, .int .i64 4, .int .i64 (-1)] 3)) (.slice (some ⟨WQ.heap.size, 0, none⟩) n 6) (([0, 1, 2, 3, 4, -1] : List Int).take n) := fun n hn => RI.lit (fun q => q = R + 1) WQ [0, 1, 2, 3, 4, -1] _ _ _ n 6 rfl rfl rfl hn (fun e => by have := h.cur.lt; have e : WQ.heap.size = R + 1 := e; omega) (by decide)
        replace h := h.keep ka
        unfold Oper.wp execOp
        go_simp
        refine hK0.out _ _ ⟨h.bx.c 0 _ rfl, h.bx.c 1 _ rfl⟩ ?_
        clear hK0 K0 hS ka
        simp only [List.setIfInBounds_toArray]
        obtain ⟨G, hG⟩ : ∃ G, WQ.heap.size = G := ⟨_, rfl⟩
        rw [hG] at rl ⊢
        clear hG
        replace rl : ARl R G (WQ.alloc (.cells #[.int .i64 0, .int .i64 1, .int .i64 2, .int .i64 3, .int .i64 4, .int .i64 (-1)] 3)) := rl
        generalize WQ.alloc (.cells #[.int .i64 0, .int .i64 1, .int .i64 2, .int .i64 3, .int .i64 4, .int .i64 (-1)] 3) = WQ at *
        have hS : WQ.cell? ⟨X7, 0, none⟩ = some (.slice ma m.length mc) ∧ WQ.cell? ⟨X7, 1, none⟩ = some (.slice sa s.length sc) := ⟨h.bx.c 0 _ rfl, h.bx.c 1 _ rfl⟩
        refine wpAnyK_1 8 (by kernel_rfl) (wpOpK' rfl rfl ?_)
        intro K0 hK0
        refine ocallE (f := 51) (args := #[.pointer (some ⟨R + 1, 0, none⟩), .int .i64 16]) (φ := fun v W' => ∃ x : Int, v = .int .i64 x ∧ 0 ≤ x ∧ x ≤ 15 ∧ Cur W' (R + 1) (R + 2) ((2000 + 10) + 2) ∧ Chg (fun q => q = R + 1) WQ W') (by go_simp) ((pick_any (R + 1) (R + 2) (2000 + 10) 16 WQ h.cur (by omega) (by omega)).mono (fun e W' ⟨x, h1, h2, h3, _, h5, h6⟩ => ⟨_, h1, x, rfl, h2, by have := h3 (by omega); omega, h5, h6⟩)) (fun v2 W2 h2 => hK0.out _ _ (by obtain ⟨x, _, _, _, q1, q2⟩ := h2; exact ⟨(h.call q1 q2).bx.c 0 _ rfl, (h.call q1 q2).bx.c 1 _ rfl⟩) ?_)
        obtain ⟨x, rfl, hx0, hx1, hc2, k2⟩ := h2
        replace h := h.call hc2 k2
        try replace rl := rl.step k2
        clear hK0 K0 hS hc2 k2
        simp only [List.getElem_toArray, List.getElem_cons_succ, List.getElem_cons_zero, Act.put, List.setIfInBounds_toArray, List.set_cons_zero, List.set_cons_succ]
        generalize W2 = WQ at *
        have hS : WQ.cell? ⟨X7, 0, none⟩ = some (.slice ma m.length mc) ∧ WQ.cell? ⟨X7, 1, none⟩ = some (.slice sa s.length sc) := ⟨h.bx.c 0 _ rfl, h.bx.c 1 _ rfl⟩
        have ht := Int.tdiv_eq_ediv_of_nonneg (a := x) (b := 6) hx0
        obtain ⟨y, hy⟩ : ∃ y, x / 6 = y := ⟨_, rfl⟩
        have hy0 : 0 ≤ y := by omega
        have hy1 : y ≤ 2 := by omega
        rw [hy] at ht
        have hw1 : IntKind.i64.wrap y = y := IntWalk.i64_in _ (by omega)
        obtain ⟨Y, hY⟩ : ∃ Y : Nat, 4 + y = (Y : Int) := ⟨(4 + y).toNat, by omega⟩
        have hw2 : IntKind.i64.wrap (4 + y) = (Y : Int) := (IntWalk.i64_in _ (by omega)).trans hY
        have hY0 : (0 : Int) ≤ (Y : Int) := by omega
        have hY6 : (Y : Int) ≤ 6 := by omega
        have hYn : Y ≤ 6 := by omega
        have hY1 : 1 ≤ Y := by omega
        clear hy hY hy0 hy1 hx0 hx1
        refine wpAnyK_take0 9 (.int .i64 y) rfl (by kernel_rfl) (fun _ _ _ h => h) hS rfl (by intro w; go_simp) ?_
        simp only [List.getElem_toArray, List.getElem_cons_succ, List.getElem_cons_zero, Act.put, List.setIfInBounds_toArray, List.set_cons_zero, List.set_cons_succ]
        refine wpAnyK_take0 10 (.int .i64 (Y : Int)) rfl (by kernel_rfl) (fun _ _ _ h => h) hS rfl (by intro w; go_simp) ?_
        simp only [List.getElem_toArray, List.getElem_cons_succ, List.getElem_cons_zero, Act.put, List.setIfInBounds_toArray, List.set_cons_zero, List.set_cons_succ]
        refine wpAnyK_take0 11 (.slice (some ⟨G, 0, none⟩) Y 6) rfl (by kernel_rfl) (fun _ _ _ h => h) hS rfl (by intro w; go_simp) ?_
        simp only [List.getElem_toArray, List.getElem_cons_succ, List.getElem_cons_zero, Act.put, List.setIfInBounds_toArray, List.set_cons_zero, List.set_cons_succ]
        refine wpAnyK_1 12 (by kernel_rfl) (wpOpK' rfl rfl ?_)
        intro K0 hK0
        refine ocallE (f := 50) (args := #[.pointer (some ⟨R + 1, 0, none⟩), .slice (some ⟨G, 0, none⟩) Y 6]) (φ := fun v W' => ∃ L : Int, v = .int .i64 L ∧ -1 ≤ L ∧ L ≤ 4 ∧ Cur W' (R + 1) (R + 2) ((2000 + 10 + 2) + 2) ∧ Chg (fun q => q = R + 1) WQ W') (by go_simp) ((among_any (R + 1) (R + 2) (2000 + 10 + 2) _ _ WQ h.cur (by omega) (rl Y hYn) (by rw [List.length_take]; simp; omega) (by rw [List.length_take]; simp; omega)).mono (fun e W' ⟨x, h1, h2, h5, h6⟩ => ⟨_, h1, x, rfl, by have := List.mem_of_mem_take h2; simp only [List.mem_cons, List.not_mem_nil, or_false] at this; omega, by have := List.mem_of_mem_take h2; simp only [List.mem_cons, List.not_mem_nil, or_false] at this; omega, h5, h6⟩)) (fun v2 W2 h2 => hK0.out _ _ (by obtain ⟨x, _, _, _, q1, q2⟩ := h2; exact ⟨(h.call q1 q2).bx.c 0 _ rfl, (h.call q1 q2).bx.c 1 _ rfl⟩) ?_)
        obtain ⟨L, rfl, hL0, hL1, hc2, k2⟩ := h2
        replace h := h.call hc2 k2
        clear hK0 K0 hS hc2 k2 rl
        simp only [List.getElem_toArray, List.getElem_cons_succ, List.getElem_cons_zero, Act.put, List.setIfInBounds_toArray, List.set_cons_zero, List.set_cons_succ]
        generalize W2 = WQ at *
        refine wpAnyK_tail 13 rfl (by kernel_rfl) ?_
        simp only [List.drop_succ_cons, List.drop_zero]
        have e0 := h.br.c 0 _ rfl
        have e1 := h.br.c 1 _ rfl
        have f0 := h.br.fr 0
        have f1 := h.br.fr 1
        have hF := h.fin
        have z0 := hF.2.c 0 _ rfl
        have z1 := hF.2.c 1 _ rfl
        have HF := Lib.hid hF.1
        clear hF h
        go_wp2_with fail
        refine bodyPost_ret (v := .tuple #[.agg #[.slice ma m.length mc, .slice sa s.length sc], .int .i64 st, .slice va vn vc, .int .i64 L]) (by simp [results, Try.results19, go_sem, z0, z1]) rfl ?_
        exact ⟨_, _, st, L, ⟨m, s⟩, _, rfl, HF.out.1, HF.out.2.1, HL3.out, hL0, hL1, HF.out.2.2⟩
      · skip
        intro K0 hK0
        refine ocallE (f := 51) (args := #[.pointer (some ⟨R + 1, 0, none⟩), .int .i64 16]) (φ := fun v W' => ∃ x : Int, v = .int .i64 x ∧ 0 ≤ x ∧ x ≤ 15 ∧ Cur W' (R + 1) (R + 2) ((2000 + 10) + 2) ∧ Chg (fun q => q = R + 1) WQ W') (by go_simp) ((pick_any (R + 1) (R + 2) (2000 + 10) 16 WQ h.cur (by omega) (by omega)).mono (fun e W' ⟨x, h1, h2, h3, _, h5, h6⟩ => ⟨_, h1, x, rfl, h2, by have := h3 (by omega); omega, h5, h6⟩)) (fun v2 W2 h2 => hK0.out _ _ (by obtain ⟨x, _, _, _, q1, q2⟩ := h2; exact ⟨(h.call q1 q2).bx.c 0 _ rfl, (h.call q1 q2).bx.c 1 _ rfl⟩) ?_)
        obtain ⟨x, rfl, hx0, hx1, hc2, k2⟩ := h2
        replace h := h.call hc2 k2
        try replace rl := rl.step k2
        clear hK0 K0 hS hc2 k2
        simp only [List.getElem_toArray, List.getElem_cons_succ, List.getElem_cons_zero, Act.put, List.setIfInBounds_toArray, List.set_cons_zero, List.set_cons_succ]
        generalize W2 = WQ at *
        have hS : WQ.cell? ⟨X7, 0, none⟩ = some (.slice ma m.length mc) ∧ WQ.cell? ⟨X7, 1, none⟩ = some (.slice sa s.length sc) := ⟨h.bx.c 0 _ rfl, h.bx.c 1 _ rfl⟩
        have ht := Int.tdiv_eq_ediv_of_nonneg (a := x) (b := 6) hx0
        obtain ⟨y, hy⟩ : ∃ y, x / 6 = y := ⟨_, rfl⟩
        have hy0 : 0 ≤ y := by omega
        have hy1 : y ≤ 2 := by omega
        rw [hy] at ht
        have hw1 : IntKind.i64.wrap y = y := IntWalk.i64_in _ (by omega)
        obtain ⟨Y, hY⟩ : ∃ Y : Nat, 4 + y = (Y : Int) := ⟨(4 + y).toNat, by omega⟩
        have hw2 : IntKind.i64.wrap (4 + y) = (Y : Int) := (IntWalk.i64_in _ (by omega)).trans hY
        have hY0 : (0 : Int) ≤ (Y : Int) := by omega
        have hY6 : (Y : Int) ≤ 6 := by omega
        have hYn : Y ≤ 6 := by omega
        have hY1 : 1 ≤ Y := by omega
        clear hy hY hy0 hy1 hx0 hx1
        refine wpAnyK_take0 9 (.int .i64 y) rfl (by kernel_rfl) (fun _ _ _ h => h) hS rfl (by intro w; go_simp) ?_
        simp only [List.getElem_toArray, List.getElem_cons_succ, List.getElem_cons_zero, Act.put, List.setIfInBounds_toArray, List.set_cons_zero, List.set_cons_succ]
        refine wpAnyK_take0 10 (.int .i64 (Y : Int)) rfl (by kernel_rfl) (fun _ _ _ h => h) hS rfl (by intro w; go_simp) ?_
        simp only [List.getElem_toArray, List.getElem_cons_succ, List.getElem_cons_zero, Act.put, List.setIfInBounds_toArray, List.set_cons_zero, List.set_cons_succ]
        refine wpAnyK_1 6 (by kernel_rfl) (wpOpK' rfl rfl ?_)
        intro K0 hK0
        have ka := (Chg.refl No WQ).alloc (.cells #[.int .i64 0, .int .i64 1, .int .i64 2, .int .i64 3, .int .i64 4, .int .i64 (-1)] 3)
        have rl : ∀ n, n ≤ 6 → RI (fun q => q = R + 1) (WQ.alloc (.cells #[.int .i64 0, .int .i64 1, .int .i64 2, .int .i64 3, .int .i64 4, .int .i64 (-1)] 3)) (.slice (some ⟨WQ.heap.size, 0, none⟩) n 6) (([0, 1, 2, 3, 4, -1] : List Int).take n) := fun n hn => RI.lit (fun q => q = R + 1) WQ [0, 1, 2, 3, 4, -1] _ _ _ n 6 rfl rfl rfl hn (fun e => by have := h.cur.lt; have e : WQ.heap.size = R + 1 := e; omega) (by decide)
        replace h := h.keep ka
        unfold Oper.wp execOp
        go_simp
        refine hK0.out _ _ ⟨h.bx.c 0 _ rfl, h.bx.c 1 _ rfl⟩ ?_
        clear hK0 K0 hS ka
        simp only [List.setIfInBounds_toArray]
        obtain ⟨G, hG⟩ : ∃ G, WQ.heap.size = G := ⟨_, rfl⟩
        rw [hG] at rl ⊢
        clear hG
        replace rl : ARl R G (WQ.alloc (.cells #[.int .i64 0, .int .i64 1, .int .i64 2, .int .i64 3, .int .i64 4, .int .i64 (-1)] 3)) := rl
        generalize WQ.alloc (.cells #[.int .i64 0, .int .i64 1, .int .i64 2, .int .i64 3, .int .i64 4, .int .i64 (-1)] 3) = WQ at *
        have hS : WQ.cell? ⟨X7, 0, none⟩ = some (.slice ma m.length mc) ∧ WQ.cell? ⟨X7, 1, none⟩ = some (.slice sa s.length sc) := ⟨h.bx.c 0 _ rfl, h.bx.c 1 _ rfl⟩
        refine wpAnyK_take0 11 (.slice (some ⟨G, 0, none⟩) Y 6) rfl (by kernel_rfl) (fun _ _ _ h => h) hS rfl (by intro w; go_simp) ?_
        simp only [List.getElem_toArray, List.getElem_cons_succ, List.getElem_cons_zero, Act.put, List.setIfInBounds_toArray, List.set_cons_zero, List.set_cons_succ]
        refine wpAnyK_1 12 (by kernel_rfl) (wpOpK' rfl rfl ?_)
        intro K0 hK0
        refine ocallE (f := 50) (args := #[.pointer (some ⟨R + 1, 0, none⟩), .slice (some ⟨G, 0, none⟩) Y 6]) (φ := fun v W' => ∃ L : Int, v = .int .i64 L ∧ -1 ≤ L ∧ L ≤ 4 ∧ Cur W' (R + 1) (R + 2) ((2000 + 10 + 2) + 2) ∧ Chg (fun q => q = R + 1) WQ W') (by go_simp) ((among_any (R + 1) (R + 2) (2000 + 10 + 2) _ _ WQ h.cur (by omega) (rl Y hYn) (by rw [List.length_take]; simp; omega) (by rw [List.length_take]; simp; omega)).mono (fun e W' ⟨x, h1, h2, h5, h6⟩ => ⟨_, h1, x, rfl, by have := List.mem_of_mem_take h2; simp only [List.mem_cons, List.not_mem_nil, or_false] at this; omega, by have := List.mem_of_mem_take h2; simp only [List.mem_cons, List.not_mem_nil, or_false] at this; omega, h5, h6⟩)) (fun v2 W2 h2 => hK0.out _ _ (by obtain ⟨x, _, _, _, q1, q2⟩ := h2; exact ⟨(h.call q1 q2).bx.c 0 _ rfl, (h.call q1 q2).bx.c 1 _ rfl⟩) ?_)
        obtain ⟨L, rfl, hL0, hL1, hc2, k2⟩ := h2
        replace h := h.call hc2 k2
        clear hK0 K0 hS hc2 k2 rl
        simp only [List.getElem_toArray, List.getElem_cons_succ, List.getElem_cons_zero, Act.put, List.setIfInBounds_toArray, List.set_cons_zero, List.set_cons_succ]
        generalize W2 = WQ at *
        refine wpAnyK_tail 13 rfl (by kernel_rfl) ?_
        simp only [List.drop_succ_cons, List.drop_zero]
        have e0 := h.br.c 0 _ rfl
        have e1 := h.br.c 1 _ rfl
        have f0 := h.br.fr 0
        have f1 := h.br.fr 1
        have hF := h.fin
        have z0 := hF.2.c 0 _ rfl
        have z1 := hF.2.c 1 _ rfl
        have HF := Lib.hid hF.1
        clear hF h
        go_wp2_with fail
        refine bodyPost_ret (v := .tuple #[.agg #[.slice ma m.length mc, .slice sa s.length sc], .int .i64 st, .slice va vn vc, .int .i64 L]) (by simp [results, Try.results19, go_sem, z0, z1]) rfl ?_
        exact ⟨_, _, st, L, ⟨m, s⟩, _, rfl, HF.out.1, HF.out.2.1, HL3.out, hL0, hL1, HF.out.2.2⟩
    · skip
      intro K0 hK0
      have ka := (Chg.refl No WQ).alloc (.cells #[.int .i64 0, .int .i64 1, .int .i64 2, .int .i64 3, .int .i64 4, .int .i64 (-1)] 3)
      have rl : ∀ n, n ≤ 6 → RI (fun q => q = R + 1) (WQ.alloc (.cells #[.int .i64 0, .int .i64 1, .int .i64 2, .int .i64 3, .int .i64 4, .int .i64 (-1)] 3)) (.slice (some ⟨WQ.heap.size, 0, none⟩) n 6) (([0, 1, 2, 3, 4, -1] : List Int).take n) := fun n hn => RI.lit (fun q => q = R + 1) WQ [0, 1, 2, 3, 4, -1] _ _ _ n 6 rfl rfl rfl hn (fun e => by have := h.cur.lt; have e : WQ.heap.size = R + 1 := e; omega) (by decide)
      replace h := h.keep ka
      unfold Oper.wp execOp
      go_simp
      refine hK0.out _ _ ⟨h.bx.c 0 _ rfl, h.bx.c 1 _ rfl⟩ ?_
      clear hK0 K0 hS ka
      simp only [List.setIfInBounds_toArray]
      obtain ⟨G, hG⟩ : ∃ G, WQ.heap.size = G := ⟨_, rfl⟩
      rw [hG] at rl ⊢
      clear hG
      replace rl : ARl R G (WQ.alloc (.cells #[.int .i64 0, .int .i64 1, .int .i64 2, .int .i64 3, .int .i64 4, .int .i64 (-1)] 3)) := rl
      generalize WQ.alloc (.cells #[.int .i64 0, .int .i64 1, .int .i64 2, .int .i64 3, .int .i64 4, .int .i64 (-1)] 3) = WQ at *
      have hS : WQ.cell? ⟨X7, 0, none⟩ = some (.slice ma m.length mc) ∧ WQ.cell? ⟨X7, 1, none⟩ = some (.slice sa s.length sc) := ⟨h.bx.c 0 _ rfl, h.bx.c 1 _ rfl⟩
      refine wpAnyK_1 3 (by kernel_rfl) (wpOpK' rfl rfl ?_)
      intro K0 hK0
      refine ocallE (f := 49) (args := #[.pointer (some ⟨R + 1, 0, none⟩), .agg #[.slice ma m.length mc, .slice sa s.length sc]]) (φ := fun v W' => ∃ st : Int, v = .int .i64 st ∧ Cur W' (R + 1) (R + 2) (2000 + 10) ∧ Chg (fun q => q = R + 1) WQ W') (by go_simp) ((state8_any (R + 1) (R + 2) 2000 _ ⟨m, s⟩ WQ h.cur (h.pr.weakN) (Nat.le_trans h.mlen (by omega)) (by omega)).mono (fun e W' ⟨x, h1, _, _, h5, h6⟩ => ⟨_, h1, x, rfl, h5, h6⟩)) (fun v2 W2 h2 => hK0.out _ _ (by obtain ⟨x, _, q1, q2⟩ := h2; exact ⟨(h.call q1 q2).bx.c 0 _ rfl, (h.call q1 q2).bx.c 1 _ rfl⟩) ?_)
      obtain ⟨st, rfl, hc2, k2⟩ := h2
      replace h := h.call hc2 k2
      try replace rl := rl.step k2
      clear hK0 K0 hS hc2 k2
      simp only [List.getElem_toArray, List.getElem_cons_succ, List.getElem_cons_zero, Act.put, List.setIfInBounds_toArray, List.set_cons_zero, List.set_cons_succ]
      generalize W2 = WQ at *
      have hS : WQ.cell? ⟨X7, 0, none⟩ = some (.slice ma m.length mc) ∧ WQ.cell? ⟨X7, 1, none⟩ = some (.slice sa s.length sc) := ⟨h.bx.c 0 _ rfl, h.bx.c 1 _ rfl⟩
      refine wpAnyK_1 8 (by kernel_rfl) (wpOpK' rfl rfl ?_)
      intro K0 hK0
      refine ocallE (f := 51) (args := #[.pointer (some ⟨R + 1, 0, none⟩), .int .i64 16]) (φ := fun v W' => ∃ x : Int, v = .int .i64 x ∧ 0 ≤ x ∧ x ≤ 15 ∧ Cur W' (R + 1) (R + 2) ((2000 + 10) + 2) ∧ Chg (fun q => q = R + 1) WQ W') (by go_simp) ((pick_any (R + 1) (R + 2) (2000 + 10) 16 WQ h.cur (by omega) (by omega)).mono (fun e W' ⟨x, h1, h2, h3, _, h5, h6⟩ => ⟨_, h1, x, rfl, h2, by have := h3 (by omega); omega, h5, h6⟩)) (fun v2 W2 h2 => hK0.out _ _ (by obtain ⟨x, _, _, _, q1, q2⟩ := h2; exact ⟨(h.call q1 q2).bx.c 0 _ rfl, (h.call q1 q2).bx.c 1 _ rfl⟩) ?_)
      obtain ⟨x, rfl, hx0, hx1, hc2, k2⟩ := h2
      replace h := h.call hc2 k2
      try replace rl := rl.step k2
      clear hK0 K0 hS hc2 k2
      simp only [List.getElem_toArray, List.getElem_cons_succ, List.getElem_cons_zero, Act.put, List.setIfInBounds_toArray, List.set_cons_zero, List.set_cons_succ]
      generalize W2 = WQ at *
      have hS : WQ.cell? ⟨X7, 0, none⟩ = some (.slice ma m.length mc) ∧ WQ.cell? ⟨X7, 1, none⟩ = some (.slice sa s.length sc) := ⟨h.bx.c 0 _ rfl, h.bx.c 1 _ rfl⟩
      have ht := Int.tdiv_eq_ediv_of_nonneg (a := x) (b := 6) hx0
      obtain ⟨y, hy⟩ : ∃ y, x / 6 = y := ⟨_, rfl⟩
      have hy0 : 0 ≤ y := by omega
      have hy1 : y ≤ 2 := by omega
      rw [hy] at ht
      have hw1 : IntKind.i64.wrap y = y := IntWalk.i64_in _ (by omega)
      obtain ⟨Y, hY⟩ : ∃ Y : Nat, 4 + y = (Y : Int) := ⟨(4 + y).toNat, by omega⟩
      have hw2 : IntKind.i64.wrap (4 + y) = (Y : Int) := (IntWalk.i64_in _ (by omega)).trans hY
      have hY0 : (0 : Int) ≤ (Y : Int) := by omega
      have hY6 : (Y : Int) ≤ 6 := by omega
      have hYn : Y ≤ 6 := by omega
      have hY1 : 1 ≤ Y := by omega
      clear hy hY hy0 hy1 hx0 hx1
      refine wpAnyK_take0 9 (.int .i64 y) rfl (by kernel_rfl) (fun _ _ _ h => h) hS rfl (by intro w; go_simp) ?_
      simp only [List.getElem_toArray, List.getElem_cons_succ, List.getElem_cons_zero, Act.put, List.setIfInBounds_toArray, List.set_cons_zero, List.set_cons_succ]
      refine wpAnyK_take0 10 (.int .i64 (Y : Int)) rfl (by kernel_rfl) (fun _ _ _ h => h) hS rfl (by intro w; go_simp) ?_
      simp only [List.getElem_toArray, List.getElem_cons_succ, List.getElem_cons_zero, Act.put, List.setIfInBounds_toArray, List.set_cons_zero, List.set_cons_succ]
      refine wpAnyK_take0 11 (.slice (some ⟨G, 0, none⟩) Y 6) rfl (by kernel_rfl) (fun _ _ _ h => h) hS rfl (by intro w; go_simp) ?_
      simp only [List.getElem_toArray, List.getElem_cons_succ, List.getElem_cons_zero, Act.put, List.setIfInBounds_toArray, List.set_cons_zero, List.set_cons_succ]
      refine wpAnyK_1 12 (by kernel_rfl) (wpOpK' rfl rfl ?_)
      intro K0 hK0
      refine ocallE (f := 50) (args := #[.pointer (some ⟨R + 1, 0, none⟩), .slice (some ⟨G, 0, none⟩) Y 6]) (φ := fun v W' => ∃ L : Int, v = .int .i64 L ∧ -1 ≤ L ∧ L ≤ 4 ∧ Cur W' (R + 1) (R + 2) ((2000 + 10 + 2) + 2) ∧ Chg (fun q => q = R + 1) WQ W') (by go_simp) ((among_any (R + 1) (R + 2) (2000 + 10 + 2) _ _ WQ h.cur (by omega) (rl Y hYn) (by rw [List.length_take]; simp; omega) (by rw [List.length_take]; simp; omega)).mono (fun e W' ⟨x, h1, h2, h5, h6⟩ => ⟨_, h1, x, rfl, by have := List.mem_of_mem_take h2; simp only [List.mem_cons, List.not_mem_nil, or_false] at this; omega, by have := List.mem_of_mem_take h2; simp only [List.mem_cons, List.not_mem_nil, or_false] at this; omega, h5, h6⟩)) (fun v2 W2 h2 => hK0.out _ _ (by obtain ⟨x, _, _, _, q1, q2⟩ := h2; exact ⟨(h.call q1 q2).bx.c 0 _ rfl, (h.call q1 q2).bx.c 1 _ rfl⟩) ?_)
      obtain ⟨L, rfl, hL0, hL1, hc2, k2⟩ := h2
      replace h := h.call hc2 k2
      clear hK0 K0 hS hc2 k2 rl
      simp only [List.getElem_toArray, List.getElem_cons_succ, List.getElem_cons_zero, Act.put, List.setIfInBounds_toArray, List.set_cons_zero, List.set_cons_succ]
      generalize W2 = WQ at *
      refine wpAnyK_tail 13 rfl (by kernel_rfl) ?_
      simp only [List.drop_succ_cons, List.drop_zero]
      have e0 := h.br.c 0 _ rfl
      have e1 := h.br.c 1 _ rfl
      have f0 := h.br.fr 0
      have f1 := h.br.fr 1
      have hF := h.fin
      have z0 := hF.2.c 0 _ rfl
      have z1 := hF.2.c 1 _ rfl
      have HF := Lib.hid hF.1
      clear hF h
      go_wp2_with fail
      refine bodyPost_ret (v := .tuple #[.agg #[.slice ma m.length mc, .slice sa s.length sc], .int .i64 st, .slice va vn vc, .int .i64 L]) (by simp [results, Try.results19, go_sem, z0, z1]) rfl ?_
      exact ⟨_, _, st, L, ⟨m, s⟩, _, rfl, HF.out.1, HF.out.2.1, HL3.out, hL0, hL1, HF.out.2.2⟩
  · have g1 := bx4.c 1 _ rfl
    go_wp2_with (refine wmake rfl (.tmp 23) (.tmp 23) rfl s.length rfl rfl (by omega) ?_)
    intro w5 ho5 k5
    have hs4 := bx4.lt
    have h : IbD R X7 2000 w w5 ma mc sa sc m s _ (List.replicate s.length 0) := ⟨hc4.keep k5, bx4.keep k5, b04.keep k5, hP4.keep k5, ho5.weak (by omega), kk4.keep k5, hX, hm8, HR.out⟩
    have HL3 : Hid ((List.replicate s.length (0 : Int)).length ≤ 41) := Lib.hid (by rw [List.length_replicate]; omega)
    generalize List.replicate s.length (0 : Int) = l at h HL3
    clear hc4 bx4 b04 hP4 ho4 kk4 g1 ho5 k5
    go_wp2_with fail
    refine wp_region_K (S := fun W => W.cell? ⟨X7, 0, none⟩ = some (.slice ma m.length mc) ∧ W.cell? ⟨X7, 1, none⟩ = some (.slice sa s.length sc)) (k := 13) (by kernel_rfl) ?_
    replace h := h.keep (drewN0 _)
    generalize World.drew _ = WQ at h ⊢
    have hS : WQ.cell? ⟨X7, 0, none⟩ = some (.slice ma m.length mc) ∧ WQ.cell? ⟨X7, 1, none⟩ = some (.slice sa s.length sc) := ⟨h.bx.c 0 _ rfl, h.bx.c 1 _ rfl⟩
    refine wpAnyK_takeT 0 (.agg #[.slice ma m.length mc, .slice sa s.length sc]) rfl (by kernel_rfl) (fun _ _ _ h => h) hS rfl (by intro w hSw; go_simp) ?_
    simp only [List.getElem_toArray, List.getElem_cons_zero, Act.put, List.setIfInBounds_toArray, List.set_cons_zero, List.set_cons_succ]
    refine wpAnyK_take0 1 (.pointer (some ⟨R + 1, 0, none⟩)) rfl (by kernel_rfl) (fun _ _ _ h => h) hS rfl (by intro w; go_simp) ?_
    simp only [List.getElem_toArray, List.getElem_cons_succ, List.getElem_cons_zero, Act.put, List.setIfInBounds_toArray, List.set_cons_zero, List.set_cons_succ]
    refine wpAnyK_takeT 2 (.agg #[.slice ma m.length mc, .slice sa s.length sc]) rfl (by kernel_rfl) (fun _ _ _ h => h) hS rfl (by intro w hSw; go_simp) ?_
    simp only [List.getElem_toArray, List.getElem_cons_succ, List.getElem_cons_zero, Act.put, List.setIfInBounds_toArray, List.set_cons_zero, List.set_cons_succ]
    refine wpAnyK_take0 4 (.slice (some ⟨w4.heap.size, 0, none⟩) s.length s.length) rfl (by kernel_rfl) (fun _ _ _ h => h) hS rfl (by intro w; go_simp) ?_
    simp only [List.getElem_toArray, List.getElem_cons_succ, List.getElem_cons_zero, Act.put, List.setIfInBounds_toArray, List.set_cons_zero, List.set_cons_succ]
    refine wpAnyK_take0 5 (.pointer (some ⟨R + 1, 0, none⟩)) rfl (by kernel_rfl) (fun _ _ _ h => h) hS rfl (by intro w; go_simp) ?_
    simp only [List.getElem_toArray, List.getElem_cons_succ, List.getElem_cons_zero, Act.put, List.setIfInBounds_toArray, List.set_cons_zero, List.set_cons_succ]
    refine wpAnyK_take0 7 (.pointer (some ⟨R + 1, 0, none⟩)) rfl (by kernel_rfl) (fun _ _ _ h => h) hS rfl (by intro w; go_simp) ?_
    simp only [List.getElem_toArray, List.getElem_cons_succ, List.getElem_cons_zero, Act.put, List.setIfInBounds_toArray, List.set_cons_zero, List.set_cons_succ]
    refine wpAnyK_2 3 6 (by kernel_rfl) (wpOpK' rfl rfl ?_) (wpOpK' rfl rfl ?_)
    · skip
      intro K0 hK0
      refine ocallE (f := 49) (args := #[.pointer (some ⟨R + 1, 0, none⟩), .agg #[.slice ma m.length mc, .slice sa s.length sc]]) (φ := fun v W' => ∃ st : Int, v = .int .i64 st ∧ Cur W' (R + 1) (R + 2) (2000 + 10) ∧ Chg (fun q => q = R + 1) WQ W') (by go_simp) ((state8_any (R + 1) (R + 2) 2000 _ ⟨m, s⟩ WQ h.cur (h.pr.weakN) (Nat.le_trans h.mlen (by omega)) (by omega)).mono (fun e W' ⟨x, h1, _, _, h5, h6⟩ => ⟨_, h1, x, rfl, h5, h6⟩)) (fun v2 W2 h2 => hK0.out _ _ (by obtain ⟨x, _, q1, q2⟩ := h2; exact ⟨(h.call q1 q2).bx.c 0 _ rfl, (h.call q1 q2).bx.c 1 _ rfl⟩) ?_)
      obtain ⟨st, rfl, hc2, k2⟩ := h2
      replace h := h.call hc2 k2
      try replace rl := rl.step k2
      clear hK0 K0 hS hc2 k2
      simp only [List.getElem_toArray, List.getElem_cons_succ, List.getElem_cons_zero, Act.put, List.setIfInBounds_toArray, List.set_cons_zero, List.set_cons_succ]
      generalize W2 = WQ at *
      have hS : WQ.cell? ⟨X7, 0, none⟩ = some (.slice ma m.length mc) ∧ WQ.cell? ⟨X7, 1, none⟩ = some (.slice sa s.length sc) := ⟨h.bx.c 0 _ rfl, h.bx.c 1 _ rfl⟩
      refine wpAnyK_2 6 8 (by kernel_rfl) (wpOpK' rfl rfl ?_) (wpOpK' rfl rfl ?_)
      · skip
        intro K0 hK0
        have ka := (Chg.refl No WQ).alloc (.cells #[.int .i64 0, .int .i64 1, .int .i64 2, .int .i64 3, .int .i64 4, .int .i64 (-1)] 3)
        have rl : ∀ n, n ≤ 6 → RI (fun q => q = R + 1) (WQ.alloc (.cells #[.int .i64 0, .int .i64 1, .int .i64 2, .int .i64 3, .int .i64 4, .int .i64 (-1)] 3)) (.slice (some ⟨WQ.heap.size, 0, none⟩) n 6) (([0, 1, 2, 3, 4, -1] : List Int).take n) := fun n hn => RI.lit (fun q => q = R + 1) WQ [0, 1, 2, 3, 4, -1] _ _ _ n 6 rfl rfl rfl hn (fun e => by have := h.cur.lt; have e : WQ.heap.size = R + 1 := e; omega) (by decide)
        replace h := h.keep ka
        unfold Oper.wp execOp
        go_simp
        refine hK0.out _ _ ⟨h.bx.c 0 _ rfl, h.bx.c 1 _ rfl⟩ ?_
        clear hK0 K0 hS ka
        simp only [List.setIfInBounds_toArray]
        obtain ⟨G, hG⟩ : ∃ G, WQ.heap.size = G := ⟨_, rfl⟩
        rw [hG] at rl ⊢
        clear hG
        replace rl : ARl R G (WQ.alloc (.cells #[.int .i64 0, .int .i64 1, .int .i64 2, .int .i64 3, .int .i64 4, .int .i64 (-1)] 3)) := rl
        generalize WQ.alloc (.cells #[.int .i64 0, .int .i64 1, .int .i64 2, .int .i64 3, .int .i64 4, .int .i64 (-1)] 3) = WQ at *
        have hS : WQ.cell? ⟨X7, 0, none⟩ = some (.slice ma m.length mc) ∧ WQ.cell? ⟨X7, 1, none⟩ = some (.slice sa s.length sc) := ⟨h.bx.c 0 _ rfl, h.bx.c 1 _ rfl⟩
        refine wpAnyK_1 8 (by kernel_rfl) (wpOpK' rfl rfl ?_)
        intro K0 hK0
        refine ocallE (f := 51) (args := #[.pointer (some ⟨R + 1, 0, none⟩), .int .i64 16]) (φ := fun v W' => ∃ x : Int, v = .int .i64 x ∧ 0 ≤ x ∧ x ≤ 15 ∧ Cur W' (R + 1) (R + 2) ((2000 + 10) + 2) ∧ Chg (fun q => q = R + 1) WQ W') (by go_simp) ((pick_any (R + 1) (R + 2) (2000 + 10) 16 WQ h.cur (by omega) (by omega)).mono (fun e W' ⟨x, h1, h2, h3, _, h5, h6⟩ => ⟨_, h1, x, rfl, h2, by have := h3 (by omega); omega, h5, h6⟩)) (fun v2 W2 h2 => hK0.out _ _ (by obtain ⟨x, _, _, _, q1, q2⟩ := h2; exact ⟨(h.call q1 q2).bx.c 0 _ rfl, (h.call q1 q2).bx.c 1 _ rfl⟩) ?_)
        obtain ⟨x, rfl, hx0, hx1, hc2, k2⟩ := h2
        replace h := h.call hc2 k2
        try replace rl := rl.step k2
        clear hK0 K0 hS hc2 k2
        simp only [List.getElem_toArray, List.getElem_cons_succ, List.getElem_cons_zero, Act.put, List.setIfInBounds_toArray, List.set_cons_zero, List.set_cons_succ]
        generalize W2 = WQ at *
        have hS : WQ.cell? ⟨X7, 0, none⟩ = some (.slice ma m.length mc) ∧ WQ.cell? ⟨X7, 1, none⟩ = some (.slice sa s.length sc) := ⟨h.bx.c 0 _ rfl, h.bx.c 1 _ rfl⟩
        have ht := Int.tdiv_eq_ediv_of_nonneg (a := x) (b := 6) hx0
        obtain ⟨y, hy⟩ : ∃ y, x / 6 = y := ⟨_, rfl⟩
        have hy0 : 0 ≤ y := by omega
        have hy1 : y ≤ 2 := by omega
        rw [hy] at ht
        have hw1 : IntKind.i64.wrap y = y := IntWalk.i64_in _ (by omega)
        obtain ⟨Y, hY⟩ : ∃ Y : Nat, 4 + y = (Y : Int) := ⟨(4 + y).toNat, by omega⟩
        have hw2 : IntKind.i64.wrap (4 + y) = (Y : Int) := (IntWalk.i64_in _ (by omega)).trans hY
        have hY0 : (0 : Int) ≤ (Y : Int) := by omega
        have hY6 : (Y : Int) ≤ 6 := by omega
        have hYn : Y ≤ 6 := by omega
        have hY1 : 1 ≤ Y := by omega
        clear hy hY hy0 hy1 hx0 hx1
        refine wpAnyK_take0 9 (.int .i64 y) rfl (by kernel_rfl) (fun _ _ _ h => h) hS rfl (by intro w; go_simp) ?_
        simp only [List.getElem_toArray, List.getElem_cons_succ, List.getElem_cons_zero, Act.put, List.setIfInBounds_toArray, List.set_cons_zero, List.set_cons_succ]
        refine wpAnyK_take0 10 (.int .i64 (Y : Int)) rfl (by kernel_rfl) (fun _ _ _ h => h) hS rfl (by intro w; go_simp) ?_
        simp only [List.getElem_toArray, List.getElem_cons_succ, List.getElem_cons_zero, Act.put, List.setIfInBounds_toArray, List.set_cons_zero, List.set_cons_succ]
        refine wpAnyK_take0 11 (.slice (some ⟨G, 0, none⟩) Y 6) rfl (by kernel_rfl) (fun _ _ _ h => h) hS rfl (by intro w; go_simp) ?_
        simp only [List.getElem_toArray, List.getElem_cons_succ, List.getElem_cons_zero, Act.put, List.setIfInBounds_toArray, List.set_cons_zero, List.set_cons_succ]
        refine wpAnyK_1 12 (by kernel_rfl) (wpOpK' rfl rfl ?_)
        intro K0 hK0
        refine ocallE (f := 50) (args := #[.pointer (some ⟨R + 1, 0, none⟩), .slice (some ⟨G, 0, none⟩) Y 6]) (φ := fun v W' => ∃ L : Int, v = .int .i64 L ∧ -1 ≤ L ∧ L ≤ 4 ∧ Cur W' (R + 1) (R + 2) ((2000 + 10 + 2) + 2) ∧ Chg (fun q => q = R + 1) WQ W') (by go_simp) ((among_any (R + 1) (R + 2) (2000 + 10 + 2) _ _ WQ h.cur (by omega) (rl Y hYn) (by rw [List.length_take]; simp; omega) (by rw [List.length_take]; simp; omega)).mono (fun e W' ⟨x, h1, h2, h5, h6⟩ => ⟨_, h1, x, rfl, by have := List.mem_of_mem_take h2; simp only [List.mem_cons, List.not_mem_nil, or_false] at this; omega, by have := List.mem_of_mem_take h2; simp only [List.mem_cons, List.not_mem_nil, or_false] at this; omega, h5, h6⟩)) (fun v2 W2 h2 => hK0.out _ _ (by obtain ⟨x, _, _, _, q1, q2⟩ := h2; exact ⟨(h.call q1 q2).bx.c 0 _ rfl, (h.call q1 q2).bx.c 1 _ rfl⟩) ?_)
        obtain ⟨L, rfl, hL0, hL1, hc2, k2⟩ := h2
        replace h := h.call hc2 k2
        clear hK0 K0 hS hc2 k2 rl
        simp only [List.getElem_toArray, List.getElem_cons_succ, List.getElem_cons_zero, Act.put, List.setIfInBounds_toArray, List.set_cons_zero, List.set_cons_succ]
        generalize W2 = WQ at *
        refine wpAnyK_tail 13 rfl (by kernel_rfl) ?_
        simp only [List.drop_succ_cons, List.drop_zero]
        have e0 := h.br.c 0 _ rfl
        have e1 := h.br.c 1 _ rfl
        have f0 := h.br.fr 0
        have f1 := h.br.fr 1
        have hF := h.fin
        have z0 := hF.2.c 0 _ rfl
        have z1 := hF.2.c 1 _ rfl
        have HF := Lib.hid hF.1
        clear hF h
        go_wp2_with fail
        refine bodyPost_ret (v := .tuple #[.agg #[.slice ma m.length mc, .slice sa s.length sc], .int .i64 st, .slice (some ⟨w4.heap.size, 0, none⟩) s.length s.length, .int .i64 L]) (by simp [results, Try.results19, go_sem, z0, z1]) rfl ?_
        exact ⟨_, _, st, L, ⟨m, s⟩, _, rfl, HF.out.1, HF.out.2.1, HL3.out, hL0, hL1, HF.out.2.2⟩
      · skip
        intro K0 hK0
        refine ocallE (f := 51) (args := #[.pointer (some ⟨R + 1, 0, none⟩), .int .i64 16]) (φ := fun v W' => ∃ x : Int, v = .int .i64 x ∧ 0 ≤ x ∧ x ≤ 15 ∧ Cur W' (R + 1) (R + 2) ((2000 + 10) + 2) ∧ Chg (fun q => q = R + 1) WQ W') (by go_simp) ((pick_any (R + 1) (R + 2) (2000 + 10) 16 WQ h.cur (by omega) (by omega)).mono (fun e W' ⟨x, h1, h2, h3, _, h5, h6⟩ => ⟨_, h1, x, rfl, h2, by have := h3 (by omega); omega, h5, h6⟩)) (fun v2 W2 h2 => hK0.out _ _ (by obtain ⟨x, _, _, _, q1, q2⟩ := h2; exact ⟨(h.call q1 q2).bx.c 0 _ rfl, (h.call q1 q2).bx.c 1 _ rfl⟩) ?_)
        obtain ⟨x, rfl, hx0, hx1, hc2, k2⟩ := h2
        replace h := h.call hc2 k2
        try replace rl := rl.step k2
        clear hK0 K0 hS hc2 k2
        simp only [List.getElem_toArray, List.getElem_cons_succ, List.getElem_cons_zero, Act.put, List.setIfInBounds_toArray, List.set_cons_zero, List.set_cons_succ]
        generalize W2 = WQ at *
        have hS : WQ.cell? ⟨X7, 0, none⟩ = some (.slice ma m.length mc) ∧ WQ.cell? ⟨X7, 1, none⟩ = some (.slice sa s.length sc) := ⟨h.bx.c 0 _ rfl, h.bx.c 1 _ rfl⟩
        have ht := Int.tdiv_eq_ediv_of_nonneg (a := x) (b := 6) hx0
        obtain ⟨y, hy⟩ : ∃ y, x / 6 = y := ⟨_, rfl⟩
        have hy0 : 0 ≤ y := by omega
        have hy1 : y ≤ 2 := by omega
        rw [hy] at ht
        have hw1 : IntKind.i64.wrap y = y := IntWalk.i64_in _ (by omega)
        obtain ⟨Y, hY⟩ : ∃ Y : Nat, 4 + y = (Y : Int) := ⟨(4 + y).toNat, by omega⟩
        have hw2 : IntKind.i64.wrap (4 + y) = (Y : Int) := (IntWalk.i64_in _ (by omega)).trans hY
        have hY0 : (0 : Int) ≤ (Y : Int) := by omega
        have hY6 : (Y : Int) ≤ 6 := by omega
        have hYn : Y ≤ 6 := by omega
        have hY1 : 1 ≤ Y := by omega
        clear hy hY hy0 hy1 hx0 hx1
        refine wpAnyK_take0 9 (.int .i64 y) rfl (by kernel_rfl) (fun _ _ _ h => h) hS rfl (by intro w; go_simp) ?_
        simp only [List.getElem_toArray, List.getElem_cons_succ, List.getElem_cons_zero, Act.put, List.setIfInBounds_toArray, List.set_cons_zero, List.set_cons_succ]
        refine wpAnyK_take0 10 (.int .i64 (Y : Int)) rfl (by kernel_rfl) (fun _ _ _ h => h) hS rfl (by intro w; go_simp) ?_
        simp only [List.getElem_toArray, List.getElem_cons_succ, List.getElem_cons_zero, Act.put, List.setIfInBounds_toArray, List.set_cons_zero, List.set_cons_succ]
        refine wpAnyK_1 6 (by kernel_rfl) (wpOpK' rfl rfl ?_)
        intro K0 hK0
        have ka := (Chg.refl No WQ).alloc (.cells #[.int .i64 0, .int .i64 1, .int .i64 2, .int .i64 3, .int .i64 4, .int .i64 (-1)] 3)
        have rl : ∀ n, n ≤ 6 → RI (fun q => q = R + 1) (WQ.alloc (.cells #[.int .i64 0, .int .i64 1, .int .i64 2, .int .i64 3, .int .i64 4, .int .i64 (-1)] 3)) (.slice (some ⟨WQ.heap.size, 0, none⟩) n 6) (([0, 1, 2, 3, 4, -1] : List Int).take n) := fun n hn => RI.lit (fun q => q = R + 1) WQ [0, 1, 2, 3, 4, -1] _ _ _ n 6 rfl rfl rfl hn (fun e => by have := h.cur.lt; have e : WQ.heap.size = R + 1 := e; omega) (by decide)
        replace h := h.keep ka
        unfold Oper.wp execOp
        go_simp
        refine hK0.out _ _ ⟨h.bx.c 0 _ rfl, h.bx.c 1 _ rfl⟩ ?_
        clear hK0 K0 hS ka
        simp only [List.setIfInBounds_toArray]
        obtain ⟨G, hG⟩ : ∃ G, WQ.heap.size = G := ⟨_, rfl⟩
        rw [hG] at rl ⊢
        clear hG
        replace rl : ARl R G (WQ.alloc (.cells #[.int .i64 0, .int .i64 1, .int .i64 2, .int .i64 3, .int .i64 4, .int .i64 (-1)] 3)) := rl
        generalize WQ.alloc (.cells #[.int .i64 0, .int .i64 1, .int .i64 2, .int .i64 3, .int .i64 4, .int .i64 (-1)] 3) = WQ at *
        have hS : WQ.cell? ⟨X7, 0, none⟩ = some (.slice ma m.length mc) ∧ WQ.cell? ⟨X7, 1, none⟩ = some (.slice sa s.length sc) := ⟨h.bx.c 0 _ rfl, h.bx.c 1 _ rfl⟩
        refine wpAnyK_take0 11 (.slice (some ⟨G, 0, none⟩) Y 6) rfl (by kernel_rfl) (fun _ _ _ h => h) hS rfl (by intro w; go_simp) ?_
        simp only [List.getElem_toArray, List.getElem_cons_succ, List.getElem_cons_zero, Act.put, List.setIfInBounds_toArray, List.set_cons_zero, List.set_cons_succ]
        refine wpAnyK_1 12 (by kernel_rfl) (wpOpK' rfl rfl ?_)
        intro K0 hK0
        refine ocallE (f := 50) (args := #[.pointer (some ⟨R + 1, 0, none⟩), .slice (some ⟨G, 0, none⟩) Y 6]) (φ := fun v W' => ∃ L : Int, v = .int .i64 L ∧ -1 ≤ L ∧ L ≤ 4 ∧ Cur W' (R + 1) (R + 2) ((2000 + 10 + 2) + 2) ∧ Chg (fun q => q = R + 1) WQ W') (by go_simp) ((among_any (R + 1) (R + 2) (2000 + 10 + 2) _ _ WQ h.cur (by omega) (rl Y hYn) (by rw [List.length_take]; simp; omega) (by rw [List.length_take]; simp; omega)).mono (fun e W' ⟨x, h1, h2, h5, h6⟩ => ⟨_, h1, x, rfl, by have := List.mem_of_mem_take h2; simp only [List.mem_cons, List.not_mem_nil, or_false] at this; omega, by have := List.mem_of_mem_take h2; simp only [List.mem_cons, List.not_mem_nil, or_false] at this; omega, h5, h6⟩)) (fun v2 W2 h2 => hK0.out _ _ (by obtain ⟨x, _, _, _, q1, q2⟩ := h2; exact ⟨(h.call q1 q2).bx.c 0 _ rfl, (h.call q1 q2).bx.c 1 _ rfl⟩) ?_)
        obtain ⟨L, rfl, hL0, hL1, hc2, k2⟩ := h2
        replace h := h.call hc2 k2
        clear hK0 K0 hS hc2 k2 rl
        simp only [List.getElem_toArray, List.getElem_cons_succ, List.getElem_cons_zero, Act.put, List.setIfInBounds_toArray, List.set_cons_zero, List.set_cons_succ]
        generalize W2 = WQ at *
        refine wpAnyK_tail 13 rfl (by kernel_rfl) ?_
        simp only [List.drop_succ_cons, List.drop_zero]
        have e0 := h.br.c 0 _ rfl
        have e1 := h.br.c 1 _ rfl
        have f0 := h.br.fr 0
        have f1 := h.br.fr 1
        have hF := h.fin
        have z0 := hF.2.c 0 _ rfl
        have z1 := hF.2.c 1 _ rfl
        have HF := Lib.hid hF.1
        clear hF h
        go_wp2_with fail
        refine bodyPost_ret (v := .tuple #[.agg #[.slice ma m.length mc, .slice sa s.length sc], .int .i64 st, .slice (some ⟨w4.heap.size, 0, none⟩) s.length s.length, .int .i64 L]) (by simp [results, Try.results19, go_sem, z0, z1]) rfl ?_
        exact ⟨_, _, st, L, ⟨m, s⟩, _, rfl, HF.out.1, HF.out.2.1, HL3.out, hL0, hL1, HF.out.2.2⟩
    · skip
      intro K0 hK0
      have ka := (Chg.refl No WQ).alloc (.cells #[.int .i64 0, .int .i64 1, .int .i64 2, .int .i64 3, .int .i64 4, .int .i64 (-1)] 3)
      have rl : ∀ n, n ≤ 6 → RI (fun q => q = R + 1) (WQ.alloc (.cells #[.int .i64 0, .int .i64 1, .int .i64 2, .int .i64 3, .int .i64 4, .int .i64 (-1)] 3)) (.slice (some ⟨WQ.heap.size, 0, none⟩) n 6) (([0, 1, 2, 3, 4, -1] : List Int).take n) := fun n hn => RI.lit (fun q => q = R + 1) WQ [0, 1, 2, 3, 4, -1] _ _ _ n 6 rfl rfl rfl hn (fun e => by have := h.cur.lt; have e : WQ.heap.size = R + 1 := e; omega) (by decide)
      replace h := h.keep ka
      unfold Oper.wp execOp
      go_simp
      refine hK0.out _ _ ⟨h.bx.c 0 _ rfl, h.bx.c 1 _ rfl⟩ ?_
      clear hK0 K0 hS ka
      simp only [List.setIfInBounds_toArray]
      obtain ⟨G, hG⟩ : ∃ G, WQ.heap.size = G := ⟨_, rfl⟩
      rw [hG] at rl ⊢
      clear hG
      replace rl : ARl R G (WQ.alloc (.cells #[.int .i64 0, .int .i64 1, .int .i64 2, .int .i64 3, .int .i64 4, .int .i64 (-1)] 3)) := rl
      generalize WQ.alloc (.cells #[.int .i64 0, .int .i64 1, .int .i64 2, .int .i64 3, .int .i64 4, .int .i64 (-1)] 3) = WQ at *
      have hS : WQ.cell? ⟨X7, 0, none⟩ = some (.slice ma m.length mc) ∧ WQ.cell? ⟨X7, 1, none⟩ = some (.slice sa s.length sc) := ⟨h.bx.c 0 _ rfl, h.bx.c 1 _ rfl⟩
      refine wpAnyK_1 3 (by kernel_rfl) (wpOpK' rfl rfl ?_)
      intro K0 hK0
      refine ocallE (f := 49) (args := #[.pointer (some ⟨R + 1, 0, none⟩), .agg #[.slice ma m.length mc, .slice sa s.length sc]]) (φ := fun v W' => ∃ st : Int, v = .int .i64 st ∧ Cur W' (R + 1) (R + 2) (2000 + 10) ∧ Chg (fun q => q = R + 1) WQ W') (by go_simp) ((state8_any (R + 1) (R + 2) 2000 _ ⟨m, s⟩ WQ h.cur (h.pr.weakN) (Nat.le_trans h.mlen (by omega)) (by omega)).mono (fun e W' ⟨x, h1, _, _, h5, h6⟩ => ⟨_, h1, x, rfl, h5, h6⟩)) (fun v2 W2 h2 => hK0.out _ _ (by obtain ⟨x, _, q1, q2⟩ := h2; exact ⟨(h.call q1 q2).bx.c 0 _ rfl, (h.call q1 q2).bx.c 1 _ rfl⟩) ?_)
      obtain ⟨st, rfl, hc2, k2⟩ := h2
      replace h := h.call hc2 k2
      try replace rl := rl.step k2
      clear hK0 K0 hS hc2 k2
      simp only [List.getElem_toArray, List.getElem_cons_succ, List.getElem_cons_zero, Act.put, List.setIfInBounds_toArray, List.set_cons_zero, List.set_cons_succ]
      generalize W2 = WQ at *
      have hS : WQ.cell? ⟨X7, 0, none⟩ = some (.slice ma m.length mc) ∧ WQ.cell? ⟨X7, 1, none⟩ = some (.slice sa s.length sc) := ⟨h.bx.c 0 _ rfl, h.bx.c 1 _ rfl⟩
      refine wpAnyK_1 8 (by kernel_rfl) (wpOpK' rfl rfl ?_)
      intro K0 hK0
      refine ocallE (f := 51) (args := #[.pointer (some ⟨R + 1, 0, none⟩), .int .i64 16]) (φ := fun v W' => ∃ x : Int, v = .int .i64 x ∧ 0 ≤ x ∧ x ≤ 15 ∧ Cur W' (R + 1) (R + 2) ((2000 + 10) + 2) ∧ Chg (fun q => q = R + 1) WQ W') (by go_simp) ((pick_any (R + 1) (R + 2) (2000 + 10) 16 WQ h.cur (by omega) (by omega)).mono (fun e W' ⟨x, h1, h2, h3, _, h5, h6⟩ => ⟨_, h1, x, rfl, h2, by have := h3 (by omega); omega, h5, h6⟩)) (fun v2 W2 h2 => hK0.out _ _ (by obtain ⟨x, _, _, _, q1, q2⟩ := h2; exact ⟨(h.call q1 q2).bx.c 0 _ rfl, (h.call q1 q2).bx.c 1 _ rfl⟩) ?_)
      obtain ⟨x, rfl, hx0, hx1, hc2, k2⟩ := h2
      replace h := h.call hc2 k2
      try replace rl := rl.step k2
      clear hK0 K0 hS hc2 k2
      simp only [List.getElem_toArray, List.getElem_cons_succ, List.getElem_cons_zero, Act.put, List.setIfInBounds_toArray, List.set_cons_zero, List.set_cons_succ]
      generalize W2 = WQ at *
      have hS : WQ.cell? ⟨X7, 0, none⟩ = some (.slice ma m.length mc) ∧ WQ.cell? ⟨X7, 1, none⟩ = some (.slice sa s.length sc) := ⟨h.bx.c 0 _ rfl, h.bx.c 1 _ rfl⟩
      have ht := Int.tdiv_eq_ediv_of_nonneg (a := x) (b := 6) hx0
      obtain ⟨y, hy⟩ : ∃ y, x / 6 = y := ⟨_, rfl⟩
      have hy0 : 0 ≤ y := by omega
      have hy1 : y ≤ 2 := by omega
      rw [hy] at ht
      have hw1 : IntKind.i64.wrap y = y := IntWalk.i64_in _ (by omega)
      obtain ⟨Y, hY⟩ : ∃ Y : Nat, 4 + y = (Y : Int) := ⟨(4 + y).toNat, by omega⟩
      have hw2 : IntKind.i64.wrap (4 + y) = (Y : Int) := (IntWalk.i64_in _ (by omega)).trans hY
      have hY0 : (0 : Int) ≤ (Y : Int) := by omega
      have hY6 : (Y : Int) ≤ 6 := by omega
      have hYn : Y ≤ 6 := by omega
      have hY1 : 1 ≤ Y := by omega
      clear hy hY hy0 hy1 hx0 hx1
      refine wpAnyK_take0 9 (.int .i64 y) rfl (by kernel_rfl) (fun _ _ _ h => h) hS rfl (by intro w; go_simp) ?_
      simp only [List.getElem_toArray, List.getElem_cons_succ, List.getElem_cons_zero, Act.put, List.setIfInBounds_toArray, List.set_cons_zero, List.set_cons_succ]
      refine wpAnyK_take0 10 (.int .i64 (Y : Int)) rfl (by kernel_rfl) (fun _ _ _ h => h) hS rfl (by intro w; go_simp) ?_
      simp only [List.getElem_toArray, List.getElem_cons_succ, List.getElem_cons_zero, Act.put, List.setIfInBounds_toArray, List.set_cons_zero, List.set_cons_succ]
      refine wpAnyK_take0 11 (.slice (some ⟨G, 0, none⟩) Y 6) rfl (by kernel_rfl) (fun _ _ _ h => h) hS rfl (by intro w; go_simp) ?_
      simp only [List.getElem_toArray, List.getElem_cons_succ, List.getElem_cons_zero, Act.put, List.setIfInBounds_toArray, List.set_cons_zero, List.set_cons_succ]
      refine wpAnyK_1 12 (by kernel_rfl) (wpOpK' rfl rfl ?_)
      intro K0 hK0
      refine ocallE (f := 50) (args := #[.pointer (some ⟨R + 1, 0, none⟩), .slice (some ⟨G, 0, none⟩) Y 6]) (φ := fun v W' => ∃ L : Int, v = .int .i64 L ∧ -1 ≤ L ∧ L ≤ 4 ∧ Cur W' (R + 1) (R + 2) ((2000 + 10 + 2) + 2) ∧ Chg (fun q => q = R + 1) WQ W') (by go_simp) ((among_any (R + 1) (R + 2) (2000 + 10 + 2) _ _ WQ h.cur (by omega) (rl Y hYn) (by rw [List.length_take]; simp; omega) (by rw [List.length_take]; simp; omega)).mono (fun e W' ⟨x, h1, h2, h5, h6⟩ => ⟨_, h1, x, rfl, by have := List.mem_of_mem_take h2; simp only [List.mem_cons, List.not_mem_nil, or_false] at this; omega, by have := List.mem_of_mem_take h2; simp only [List.mem_cons, List.not_mem_nil, or_false] at this; omega, h5, h6⟩)) (fun v2 W2 h2 => hK0.out _ _ (by obtain ⟨x, _, _, _, q1, q2⟩ := h2; exact ⟨(h.call q1 q2).bx.c 0 _ rfl, (h.call q1 q2).bx.c 1 _ rfl⟩) ?_)
      obtain ⟨L, rfl, hL0, hL1, hc2, k2⟩ := h2
      replace h := h.call hc2 k2
      clear hK0 K0 hS hc2 k2 rl
      simp only [List.getElem_toArray, List.getElem_cons_succ, List.getElem_cons_zero, Act.put, List.setIfInBounds_toArray, List.set_cons_zero, List.set_cons_succ]
      generalize W2 = WQ at *
      refine wpAnyK_tail 13 rfl (by kernel_rfl) ?_
      simp only [List.drop_succ_cons, List.drop_zero]
      have e0 := h.br.c 0 _ rfl
      have e1 := h.br.c 1 _ rfl
      have f0 := h.br.fr 0
      have f1 := h.br.fr 1
      have hF := h.fin
      have z0 := hF.2.c 0 _ rfl
      have z1 := hF.2.c 1 _ rfl
      have HF := Lib.hid hF.1
      clear hF h
      go_wp2_with fail
      refine bodyPost_ret (v := .tuple #[.agg #[.slice ma m.length mc, .slice sa s.length sc], .int .i64 st, .slice (some ⟨w4.heap.size, 0, none⟩) s.length s.length, .int .i64 L]) (by simp [results, Try.results19, go_sem, z0, z1]) rfl ?_
      exact ⟨_, _, st, L, ⟨m, s⟩, _, rfl, HF.out.1, HF.out.2.1, HL3.out, hL0, hL1, HF.out.2.2⟩
end Go.Proofs.Ytndhijckbponkaa
