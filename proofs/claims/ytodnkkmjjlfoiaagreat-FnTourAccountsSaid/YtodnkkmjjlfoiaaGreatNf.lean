import Derived.Test.YtodnkkmjjlfoiaaGreatNd
import Derived.Test.YtodnkkmjjlfoiaaGreatNx
import Derived.Test.YtodnkkmjjlfoiaaGreatPkA
import Derived.Test.YtodnkkmjjlfoiaaGreatPkC
import Derived.Test.YtodnkkmjjlfoiaaGreatPkD
/- what is drawn for FnTourAccounts; pairs compared; plain facts -/
namespace Go.Proofs.YtodnkkmjjlfoiaaGreat
open Go.RowKit

theorem asked_pag {k n p : Int} {l : List Int} (hp : 1 ≤ p ∧ p ≤ 7) : askedB n p k l = pagB k n l := by
  unfold askedB pagB reqB
  have : inB p 1 7 = true := inB_iff.2 hp
  simp [this, Bool.and_assoc]
theorem few_places {k n p : Int} {l : List Int} (hp : pagB k n l = true) (h7 : 1 ≤ p ∧ p ≤ 7) : fewN k n l ≤ ((places (newC p k) l).length : Int) := by
  obtain ⟨h1, _⟩ := pagB_facts hp
  obtain ⟨g1, g2⟩ := fewN_ok hp
  have := fewest_run (p := p) (ok_new h7 h1) g2
  rw [places_nf]; omega
theorem bestTo_least (f : Nat → Int) {j : Nat} (i : Nat) (hi : i < j) : f (bestTo f j) ≤ f i := by
  induction j with
  | zero => omega
  | succ j ih =>
    unfold bestTo
    by_cases h : f j < f (bestTo f j)
    · rw [if_pos h]
      by_cases e : i = j
      · subst e; omega
      · have := ih (by omega); omega
    · rw [if_neg h]
      by_cases e : i = j
      · subst e; omega
      · exact ih (by omega)
theorem miss_no {l : List Int} {m : Nat} (h : IsMiss l m) : hasB l (m : Int) = false := by
  have := h.1
  unfold hasB
  simpa using this
set_option maxRecDepth 100000 in
set_option maxHeartbeats 2000000 in
theorem vPairs_same (v v' : Value) (n : Nat) (l : List Int) (w : World) (h : RF No w v 2 n (l.map (Value.int .i64))) (h' : RF No w v' 2 n (l.map (Value.int .i64))) (hn : n ≤ 1000) :
    Calls Tryz.prog 33 #[v, v'] w (Ret fun r w' => r = .bool true ∧ Chg No w w') := by
  obtain ⟨a, cap, rfl, hcap, hmax, hlen, hnone, hc⟩ := id h
  obtain ⟨a', cap', rfl, hcap', hmax', _, _, hc'⟩ := id h'
  rw [List.length_map] at hlen
  have HC := Lib.hid hc
  have HC' := Lib.hid hc'
  clear hc hc'
  go_enter Tryz.func33, Tryz.ntmps33
  go_wp2_with fail
  go_loopw [5] (fun i wr => ∃ j : Nat, j ≤ n ∧ i = .int .i64 j ∧ Chg No w wr) (fun i _ => n - (intOf i).toNat)
  case atStart => exact ⟨0, Nat.zero_le _, rfl, Chg.refl No w⟩
  case round =>
    obtain ⟨j, hj, rfl, hch⟩ := hrel
    by_cases hlt : j < n
    · obtain ⟨b, off, rfl, _, hb, hcell⟩ := HC.out (by omega)
      obtain ⟨b', off', rfl, _, hb', hcell'⟩ := HC'.out (by omega)
      rw [List.length_map] at hcell hcell'
      have g0 := (hch.cellD b (off + j * 2) hb (fun e => e)).trans (hcell (j * 2) (by omega))
      have q1 := hcell (j * 2 + 1) (by omega)
      rw [← Nat.add_assoc] at q1
      have g1 := (hch.cellD b (off + j * 2 + 1) hb (fun e => e)).trans q1
      have g0' := (hch.cellD b' (off' + j * 2) hb' (fun e => e)).trans (hcell' (j * 2) (by omega))
      have q1' := hcell' (j * 2 + 1) (by omega)
      rw [← Nat.add_assoc] at q1'
      have g1' := (hch.cellD b' (off' + j * 2 + 1) hb' (fun e => e)).trans q1'
      have hget : ∀ k, k < l.length → (l.map (Value.int .i64)).getD k undef = .int .i64 (l.getD k 0) := fun k hk => by
        simp only [List.getD_eq_getElem?_getD, List.getElem?_map, List.getElem?_eq_getElem hk]; rfl
      rw [hget _ (by omega)] at g0 g1 g0' g1'
      obtain ⟨x0, hx0⟩ : ∃ x0, l.getD (j * 2) 0 = x0 := ⟨_, rfl⟩
      obtain ⟨x1, hx1⟩ : ∃ x1, l.getD (j * 2 + 1) 0 = x1 := ⟨_, rfl⟩
      rw [hx0] at g0 g0'
      rw [hx1] at g1 g1'
      have hj0 : (0 : Int) ≤ (j : Int) := Int.natCast_nonneg _
      have hj1 : (j : Int) < (n : Int) := by omega
      have hw1 : IntKind.i64.wrap ((j : Int) + 1) = (j : Int) + 1 := IntWalk.i64_in _ (by omega)
      clear hcell hcell' hget hx0 hx1 q1 q1'
      obtain ⟨C, hC1, hC2⟩ : ∃ C : World → Prop, (∀ W, C W → Chg No wr W) ∧ (∀ W, Chg No wr W → C W) := ⟨_, fun _ h => h, fun _ h => h⟩
      have hbr := Nat.lt_of_lt_of_le hb hch.size
      have hbr' := Nat.lt_of_lt_of_le hb' hch.size
      have HCELL : Hid (∀ W, C W → W.cell? ⟨b, off + j * 2, none⟩ = some (.int .i64 x0) ∧ W.cell? ⟨b, off + j * 2 + 1, none⟩ = some (.int .i64 x1) ∧ W.cell? ⟨b', off' + j * 2, none⟩ = some (.int .i64 x0) ∧ W.cell? ⟨b', off' + j * 2 + 1, none⟩ = some (.int .i64 x1)) := Lib.hid (fun W hW => by
        have g := hC1 W hW
        exact ⟨(g.cellD b _ hbr (fun e => e)).trans g0, (g.cellD b _ hbr (fun e => e)).trans g1, (g.cellD b' _ hbr' (fun e => e)).trans g0', (g.cellD b' _ hbr' (fun e => e)).trans g1'⟩)
      have HX := Lib.hid hC1
      have hC0 := hC2 _ (Chg.refl No wr).drew
      clear hC1 hC2 g0 g1 g0' g1'
      go_wp2_with fail
      refine wp_region_X C (by kernel_rfl) (by kernel_rfl) hC0 ?_
      clear hC0
      refine wpX_val (.slice (some ⟨b, off, none⟩) n cap) rfl (by intro W hW; obtain ⟨a0, a1, a2, a3⟩ := HCELL.out W hW; go_simp) ?_
      simp only [Act.put, List.setIfInBounds_toArray, List.set_cons_zero, List.set_cons_succ]
      refine wpX_val (.int .i64 j) rfl (by intro W hW; obtain ⟨a0, a1, a2, a3⟩ := HCELL.out W hW; go_simp) ?_
      simp only [Act.put, List.setIfInBounds_toArray, List.set_cons_zero, List.set_cons_succ]
      refine wpX_val (.pointer (some ⟨b, off + j * 2, none⟩)) rfl (by intro W hW; obtain ⟨a0, a1, a2, a3⟩ := HCELL.out W hW; go_simp) ?_
      simp only [Act.put, List.setIfInBounds_toArray, List.set_cons_zero, List.set_cons_succ]
      refine wpX_val (.agg #[.int .i64 x0, .int .i64 x1]) rfl (by intro W hW; obtain ⟨a0, a1, a2, a3⟩ := HCELL.out W hW; go_simp) ?_
      simp only [Act.put, List.setIfInBounds_toArray, List.set_cons_zero, List.set_cons_succ]
      refine wpX_val (.slice (some ⟨b', off', none⟩) n cap') rfl (by intro W hW; obtain ⟨a0, a1, a2, a3⟩ := HCELL.out W hW; go_simp) ?_
      simp only [Act.put, List.setIfInBounds_toArray, List.set_cons_zero, List.set_cons_succ]
      refine wpX_val (.int .i64 j) rfl (by intro W hW; obtain ⟨a0, a1, a2, a3⟩ := HCELL.out W hW; go_simp) ?_
      simp only [Act.put, List.setIfInBounds_toArray, List.set_cons_zero, List.set_cons_succ]
      refine wpX_val (.pointer (some ⟨b', off' + j * 2, none⟩)) rfl (by intro W hW; obtain ⟨a0, a1, a2, a3⟩ := HCELL.out W hW; go_simp) ?_
      simp only [Act.put, List.setIfInBounds_toArray, List.set_cons_zero, List.set_cons_succ]
      refine wpX_val (.agg #[.int .i64 x0, .int .i64 x1]) rfl (by intro W hW; obtain ⟨a0, a1, a2, a3⟩ := HCELL.out W hW; go_simp) ?_
      simp only [Act.put, List.setIfInBounds_toArray, List.set_cons_zero, List.set_cons_succ]
      refine wpX_val (.bool false) rfl (by intro W hW; go_simp; rw [eqA2_run]; rfl) ?_
      simp only [Act.put, List.setIfInBounds_toArray, List.set_cons_zero, List.set_cons_succ]
      refine wpX_nil (fun W hW => ?_)
      replace hch := hch.keep (HX.out W hW)
      go_wp2_with fail
      go_round
      case rel => exact ⟨j + 1, hlt, by go_num, hch⟩
      case measure => simp [intOf]; omega
    · have hj' : j = n := by omega
      subst hj'
      go_wp2_with fail
      go_ret
      exact ⟨_, rfl, rfl, hch⟩
set_option maxRecDepth 100000 in
set_option maxHeartbeats 2000000 in
theorem DrawIs_any (v : Value) (n : Nat) (w : World) (h : Code w v n) (hn : n ≤ 70001) :
    Calls Tryz.prog 61 #[v] w fun e w' => ∃ (v0 : Value) (t : To), e = .returned v0 ∧ RT (fun q => q < w.heap.size) w' v0 t ∧ Chg No w w' := by
  obtain ⟨a, cp, rfl⟩ := h.shape
  have b0 := Box3.new w (.int .i64 0) (.slice none 0 0) (.slice none 0 0) 31
  have k0 := (Chg.refl No w).alloc (.cells #[.int .i64 0, .slice none 0 0, .slice none 0 0] 31)
  have h1 := h.keep k0
  have hc := Cur.new h1 (by omega) 94
  have k1 := (Chg.refl No (w.alloc (.cells #[.int .i64 0, .slice none 0 0, .slice none 0 0] 31))).alloc (.cells #[.slice a n cp, .int .i64 0, .int .u64 0] 94)
  have hz : (w.alloc (.cells #[.int .i64 0, .slice none 0 0, .slice none 0 0] 31)).heap.size = w.heap.size + 1 := World.size_alloc _ _
  have hz1 := World.size_alloc (w.alloc (.cells #[.int .i64 0, .slice none 0 0, .slice none 0 0] 31)) (.cells #[.slice a n cp, .int .i64 0, .int .u64 0] 94)
  rw [hz] at hc hz1
  replace b0 := b0.keep k1
  have kk := k0.trans k1
  clear h h1 k0 k1 hz
  go_enter Tryz.func61, Tryz.ntmps61
  go_wp2_with fail
  generalize (w.alloc (.cells #[.int .i64 0, .slice none 0 0, .slice none 0 0] 31)).alloc (.cells #[.slice a n cp, .int .i64 0, .int .u64 0] 94) = W0 at hc kk b0 hz1 ⊢
  refine (tour_any (w.heap.size + 1) (w.heap.size + 1 + 1) 0 W0 hc (by omega) (by omega)).mono ?_
  rintro e w1 ⟨v0, t, rfl, hT, ht12, ht61, hc1, hk1⟩
  have hs1 := hk1.size
  have kk1 := kk.step hk1 (fun q e hl => by have e : q = w.heap.size + 1 := e; omega)
  replace b0 := b0.step hk1 (fun e => by have e : w.heap.size = w.heap.size + 1 := e; omega)
  obtain ⟨pv, rv, hv0, hps, hrq⟩ := id hT
  obtain ⟨p1, p3, rfl, _⟩ := id hps
  obtain ⟨r1, r3, rfl, _⟩ := id hrq
  subst hv0
  clear hps hrq hc kk
  have ch := (Chg.refl (fun q => q = w.heap.size) w1).put3 (b := w.heap.size) (fun _ => rfl) (.int .i64 t.items) (.slice p1 t.ps.length p3) (.slice r1 t.reqs.length r3)
  obtain ⟨e0, e1, e2, ef⟩ := id b0
  have ef0 := ef 0
  have ef1 := ef 1
  have ef2 := ef 2
  clear ef
  obtain ⟨z0, z1, z2, _⟩ := ((b0.set0 (.int .i64 t.items)).set1 (.slice p1 t.ps.length p3)).set2 (.slice r1 t.reqs.length r3)
  have HE := Lib.hid (And.intro ((hT.step ch (fun q e => by have e : q = w.heap.size := e; show q < _; omega)).weakS (B := fun q => q < w.heap.size) (fun q e _ => by have e : q < w.heap.size := e; show q < _; omega)) (kk1.step ch (fun q e hl => by have e : q = w.heap.size := e; omega)))
  clear hT ch b0 kk1 hc1 hk1
  go_wp2_with fail
  exact bodyPost_ret (v := .agg #[.int .i64 t.items, .slice p1 t.ps.length p3, .slice r1 t.reqs.length r3]) (by simp [results, Tryz.results61, go_sem, z0, z1, z2]) rfl ⟨_, t, rfl, HE.out.1, HE.out.2⟩
set_option maxRecDepth 100000 in
set_option maxHeartbeats 2000000 in
theorem DrawAccount_any (v : Value) (n : Nat) (w : World) (h : Code w v n) (hn : n ≤ 70001) :
    Calls Tryz.prog 22 #[v] w fun e w' => ∃ (v0 : Value) (t : To), e = .returned v0 ∧ RT No w' v0 t ∧ Chg No w w' := by
  obtain ⟨a, cp, rfl⟩ := h.shape
  have b0 := Box3.new w (.int .i64 0) (.slice none 0 0) (.slice none 0 0) 31
  have k0 := (Chg.refl No w).alloc (.cells #[.int .i64 0, .slice none 0 0, .slice none 0 0] 31)
  have h1 := h.keep k0
  have hz : (w.alloc (.cells #[.int .i64 0, .slice none 0 0, .slice none 0 0] 31)).heap.size = w.heap.size + 1 := World.size_alloc _ _
  have q1 := DrawIs_any _ n _ h1 hn
  rw [hz] at q1
  clear h h1
  go_enter Tryz.func22, Tryz.ntmps22
  go_wp2_with fail
  refine q1.mono ?_
  rintro e w1 ⟨v0, t, rfl, hT, k1⟩
  obtain ⟨pv, rv, hv0, hps, hrq⟩ := id hT
  obtain ⟨p1, p3, rfl, _⟩ := id hps
  obtain ⟨r1, r3, rfl, _⟩ := id hrq
  subst hv0
  replace b0 := b0.keep k1
  have kk1 := k0.keep k1
  have ch := (Chg.refl (fun q => q = w.heap.size) w1).put3 (b := w.heap.size) (fun _ => rfl) (.int .i64 t.items) (.slice p1 t.ps.length p3) (.slice r1 t.reqs.length r3)
  obtain ⟨e0, e1, e2, ef⟩ := id b0
  have ef0 := ef 0
  have ef1 := ef 1
  have ef2 := ef 2
  clear ef
  obtain ⟨z0, z1, z2, _⟩ := ((b0.set0 (.int .i64 t.items)).set1 (.slice p1 t.ps.length p3)).set2 (.slice r1 t.reqs.length r3)
  have HE := Lib.hid (And.intro ((hT.step ch (fun q e => by have e : q = w.heap.size := e; show q < _; omega)).no) (kk1.step ch (fun q e hl => by have e : q = w.heap.size := e; omega)))
  clear hT ch b0 kk1 hps hrq q1 k0 k1
  go_wp2_with fail
  exact bodyPost_ret (v := .agg #[.int .i64 t.items, .slice p1 t.ps.length p3, .slice r1 t.reqs.length r3]) (by simp [results, Tryz.results22, go_sem, z0, z1, z2]) rfl ⟨_, t, rfl, HE.out.1, HE.out.2⟩
set_option maxRecDepth 100000 in
set_option maxHeartbeats 4000000 in
theorem DrawRatio_any (v : Value) (n : Nat) (w : World) (h : Code w v n) (hn : n ≤ 70001) :
    Calls Tryz.prog 27 #[v] w fun e w' => ∃ (v0 : Value) (t : To) (i : Int), e = .returned (.tuple #[v0, .int .i64 i]) ∧ RT No w' v0 t ∧ Chg No w w' := by
  obtain ⟨a, cp, rfl⟩ := h.shape
  have b0 := Box3.new w (.int .i64 0) (.slice none 0 0) (.slice none 0 0) 31
  have k0 := (Chg.refl No w).alloc (.cells #[.int .i64 0, .slice none 0 0, .slice none 0 0] 31)
  have h1 := h.keep k0
  have hc := Cur.new h1 (by omega) 94
  have k1 := (Chg.refl No (w.alloc (.cells #[.int .i64 0, .slice none 0 0, .slice none 0 0] 31))).alloc (.cells #[.slice a n cp, .int .i64 0, .int .u64 0] 94)
  have hz : (w.alloc (.cells #[.int .i64 0, .slice none 0 0, .slice none 0 0] 31)).heap.size = w.heap.size + 1 := World.size_alloc _ _
  have hz1 := World.size_alloc (w.alloc (.cells #[.int .i64 0, .slice none 0 0, .slice none 0 0] 31)) (.cells #[.slice a n cp, .int .i64 0, .int .u64 0] 94)
  rw [hz] at hc hz1
  replace b0 := b0.keep k1
  have kk := k0.trans k1
  clear h h1 k0 k1 hz
  go_enter Tryz.func27, Tryz.ntmps27
  go_wp2_with fail
  generalize (w.alloc (.cells #[.int .i64 0, .slice none 0 0, .slice none 0 0] 31)).alloc (.cells #[.slice a n cp, .int .i64 0, .int .u64 0] 94) = W0 at hc kk b0 hz1 ⊢
  refine (tour_any (w.heap.size + 1) (w.heap.size + 1 + 1) 0 W0 hc (by omega) (by omega)).mono ?_
  rintro e w1 ⟨v0, t, rfl, hT, ht12, ht61, hc1, hk1⟩
  have hs1 := hk1.size
  have kk1 := kk.step hk1 (fun q e hl => by have e : q = w.heap.size + 1 := e; omega)
  replace b0 := b0.step hk1 (fun e => by have e : w.heap.size = w.heap.size + 1 := e; omega)
  obtain ⟨pv, rv, hv0, hps, hrq⟩ := id hT
  obtain ⟨p1, p3, rfl, _⟩ := id hps
  obtain ⟨r1, r3, rfl, _⟩ := id hrq
  subst hv0
  clear hps hrq hc kk
  have hT1 := hT.fresh
  clear hT
  have bT := Box3.new w1 (.int .i64 t.items) (.slice p1 t.ps.length p3) (.slice r1 t.reqs.length r3) 31
  have ka := (Chg.refl No w1).alloc (.cells #[.int .i64 t.items, .slice p1 t.ps.length p3, .slice r1 t.reqs.length r3] 31)
  replace b0 := b0.keep ka
  replace kk1 := kk1.keep ka
  replace hc1 := hc1.keep ka
  replace hT1 := hT1.keep ka
  clear ka
  go_wp2_with fail
  generalize w1.alloc (.cells #[.int .i64 t.items, .slice p1 t.ps.length p3, .slice r1 t.reqs.length r3] 31) = W1 at bT b0 kk1 hc1 hT1 ⊢
  obtain ⟨M, hM⟩ : ∃ M, w1.heap.size = M := ⟨_, rfl⟩
  rw [hM] at bT hT1 hs1 ⊢
  clear hM hk1
  refine wp_region_K (S := fun W => W.cell? ⟨M, 0, none⟩ = some (.int .i64 t.items) ∧ W.cell? ⟨M, 1, none⟩ = some (.slice p1 t.ps.length p3) ∧ W.cell? ⟨M, 2, none⟩ = some (.slice r1 t.reqs.length r3)) (k := 4) (by kernel_rfl) ?_
  replace b0 := b0.keep (drewN0 _)
  replace kk1 := kk1.keep (drewN0 _)
  replace hc1 := hc1.keep (drewN0 _)
  replace hT1 := hT1.keep (drewN0 _)
  replace bT := bT.keep (drewN0 _)
  generalize W1.drew = WQ at bT b0 kk1 hc1 hT1 ⊢
  have hS : WQ.cell? ⟨M, 0, none⟩ = some (.int .i64 t.items) ∧ WQ.cell? ⟨M, 1, none⟩ = some (.slice p1 t.ps.length p3) ∧ WQ.cell? ⟨M, 2, none⟩ = some (.slice r1 t.reqs.length r3) := ⟨bT.c0, bT.c1, bT.c2⟩
  refine wpAnyK_takeT 0 (.agg #[.int .i64 t.items, .slice p1 t.ps.length p3, .slice r1 t.reqs.length r3]) rfl (by kernel_rfl) (fun _ _ _ h => h) hS rfl (by intro w hSw; go_simp) ?_
  simp only [List.getElem_toArray, List.getElem_cons_zero, Act.put, List.setIfInBounds_toArray, List.set_cons_zero, List.set_cons_succ]
  refine wpAnyK_take0 1 (.pointer (some ⟨w.heap.size + 1, 0, none⟩)) rfl (by kernel_rfl) (fun _ _ _ h => h) hS rfl (by intro w; go_simp) ?_
  simp only [List.getElem_toArray, List.getElem_cons_succ, List.getElem_cons_zero, Act.put, List.setIfInBounds_toArray, List.set_cons_zero, List.set_cons_succ]
  refine wpAnyK_takeT 2 (.agg #[.int .i64 t.items, .slice p1 t.ps.length p3, .slice r1 t.reqs.length r3]) rfl (by kernel_rfl) (fun _ _ _ h => h) hS rfl (by intro w hSw; go_simp) ?_
  simp only [List.getElem_toArray, List.getElem_cons_succ, List.getElem_cons_zero, Act.put, List.setIfInBounds_toArray, List.set_cons_zero, List.set_cons_succ]
  refine wpAnyK_1 3 (by kernel_rfl) (wpOpK' rfl rfl ?_)
  intro K0 hK0
  refine ocallE (f := 64) (args := #[.pointer (some ⟨w.heap.size + 1, 0, none⟩), .agg #[.int .i64 t.items, .slice p1 t.ps.length p3, .slice r1 t.reqs.length r3]]) (φ := fun v W' => ∃ y : Int, v = .int .i64 y ∧ Cur W' (w.heap.size + 1) (w.heap.size + 1 + 1) (0 + 3000 + 10) ∧ Chg (fun q => q = w.heap.size + 1) WQ W') (by go_simp) ((number12_any _ _ _ _ t WQ hc1 (by omega) (hT1.weakS (fun q e hl => .inl (by have e : q = w.heap.size + 1 := e; show q < _; omega)))).mono (fun e W' ⟨x, h1, h5, h6⟩ => ⟨_, h1, x, rfl, h5, h6⟩)) (fun v2 W2 h2 => hK0.out _ _ (by obtain ⟨y, _, _, kx⟩ := h2; have g := bT.step kx (fun e => by have e : M = w.heap.size + 1 := e; omega); exact ⟨g.c0, g.c1, g.c2⟩) ?_)
  obtain ⟨y, rfl, hc2, k2⟩ := h2
  clear hK0 K0 hS
  simp only [List.getElem_toArray, List.getElem_cons_succ, List.getElem_cons_zero, Act.put, List.setIfInBounds_toArray, List.set_cons_zero, List.set_cons_succ]
  replace b0 := b0.step k2 (fun e => by have e : w.heap.size = w.heap.size + 1 := e; omega)
  replace kk1 := kk1.step k2 (fun q e hl => by have e : q = w.heap.size + 1 := e; omega)
  replace hT1 := hT1.step k2 (fun q e => .inl (by have e : q = w.heap.size + 1 := e; show q < _; omega))
  have ch := (Chg.refl (fun q => q = w.heap.size) W2).put3 (b := w.heap.size) (fun _ => rfl) (.int .i64 t.items) (.slice p1 t.ps.length p3) (.slice r1 t.reqs.length r3)
  obtain ⟨e0, e1, e2, ef⟩ := id b0
  have ef0 := ef 0
  have ef1 := ef 1
  have ef2 := ef 2
  clear ef
  obtain ⟨z0, z1, z2, _⟩ := ((b0.set0 (.int .i64 t.items)).set1 (.slice p1 t.ps.length p3)).set2 (.slice r1 t.reqs.length r3)
  have HE := Lib.hid (And.intro ((hT1.step ch (fun q e => .inl (by have e : q = w.heap.size := e; show q < _; omega))).no) (kk1.step ch (fun q e hl => by have e : q = w.heap.size := e; omega)))
  clear hT1 ch b0 kk1 hc1 hc2 k2 bT
  refine wpAnyK_tail 4 rfl (by kernel_rfl) ?_
  simp only [List.drop_succ_cons, List.drop_zero]
  go_wp2_with fail
  exact bodyPost_ret (v := .tuple #[.agg #[.int .i64 t.items, .slice p1 t.ps.length p3, .slice r1 t.reqs.length r3], .int .i64 y]) (by simp [results, Tryz.results27, go_sem, z0, z1, z2]) rfl ⟨_, t, y, rfl, HE.out.1, HE.out.2⟩
end Go.Proofs.YtodnkkmjjlfoiaaGreat
