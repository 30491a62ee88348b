import Derived.Test.YtdgcohoneijleaaGreatDoorPkX14
namespace Go.Proofs.YtdgcohoneijleaaGreatDoor
open Go.RowKit
def okJoin (t : To) (p k : Int) : Bool := inB p 1 7 && (inB k 1 6 && decide (t.ps.length < 4))
def joinT (t : To) (p k : Int) : To := ⟨t.items, againP t.ps t.reqs ++ [servedP (t.reqs.length : Int) p k []], t.reqs⟩
def zeroT : To := ⟨0, [], []⟩
theorem TA.zero (base : Nat) (w : World) : TA base w (.agg #[.int .i64 0, .slice none 0 0, .slice none 0 0]) zeroT :=
 ⟨_, fun _ => undef, fun _ => undef, _, rfl, PA.nil base w (OS.nil _ _ _ _) _ _, OI.nil _ _, fun q _ e => own_none q e⟩
set_option maxRecDepth 100000 in
set_option maxHeartbeats 4000000 in
theorem join_any (v : Value) (t : To) (p k : Int) (w : World) (h : RT No w v t) (hs : Sv t.ps t.reqs) :
  Calls Tryz.prog 104 #[v, .int .i64 p, .int .i64 k] w (Ret2 fun v0 v1 w' => v1 = .bool (okJoin t p k) ∧ TA w.heap.size w' v0 (if okJoin t p k then joinT t p k else zeroT) ∧ Chg No w w') := by
 have h0 := h
 obtain ⟨it, ps, rq⟩ := t
 obtain ⟨pv, qv, rfl, hps, hrq⟩ := h
 simp only at hps hrq hs
 obtain ⟨qa, qc, rfl, _⟩ := id hrq
 obtain ⟨a, cap, rfl, hcap, hmax, hlen, pf, mf, hl, hcl⟩ := id hps
 have HS := Lib.hid hs
 clear hl hcl hs
 have hW0 : ∀ W, W = (w.alloc (.cells #[.int .i64 it, .slice a ps.length cap, .slice qa rq.length qc] 31)).alloc (.cells #[.int .i64 0, .slice none 0 0, .slice none 0 0] 31) → Chg No w W ∧ Box3 W w.heap.size (.int .i64 it) (.slice a ps.length cap) (.slice qa rq.length qc) ∧ Box3 W (w.heap.size + 1) (.int .i64 0) (.slice none 0 0) (.slice none 0 0) := fun W e => by
  subst e
  exact boxes32 (R := fun W => Chg No w W ∧ Box3 W w.heap.size (.int .i64 it) (.slice a ps.length cap) (.slice qa rq.length qc) ∧ Box3 W (w.heap.size + 1) (.int .i64 0) (.slice none 0 0) (.slice none 0 0)) (fun W k b0 b1 => ⟨k, b0, b1⟩)
 have HW0 := Lib.hid hW0
 clear hW0
 have hok : okJoin ⟨it, ps, rq⟩ p k = (inB p 1 7 && (inB k 1 6 && decide (ps.length < 4))) := rfl
 cases hp : inB p 1 7
 ·rw [hp, Bool.false_and] at hok
  rw [hok]
  have HP := Lib.hid hp
  clear hp hok
  go_enter Tryz.func104, Tryz.ntmps104
  go_wp2_with fail
  generalize hWW : (w.alloc _).alloc _ = W1
  obtain ⟨kk, b2, b4⟩ := HW0.out W1 hWW.symm
  clear hWW HW0
  refine (isPolicy_any p W1).mono ?_
  rintro e w1 ⟨rfl, rfl⟩
  rw [HP.out]
  obtain ⟨e0, e1, e2, cf⟩ := id b4
  have cf0 := cf 0
  have cf1 := cf 1
  have cf2 := cf 2
  clear cf
  obtain ⟨z0, z1, z2, _⟩ := ((b4.set0 (.int .i64 0)).set1 (.slice none 0 0)).set2 (.slice none 0 0)
  have ch : Chg (fun q => q = w.heap.size + 1) W1 (((W1.setCell ⟨w.heap.size + 1, 0, none⟩ (.int .i64 0)).setCell ⟨w.heap.size + 1, 1, none⟩ (.slice none 0 0)).setCell ⟨w.heap.size + 1, 2, none⟩ (.slice none 0 0)) :=
   (((Chg.refl (fun q => q = w.heap.size + 1) W1).setCell (p := ⟨w.heap.size + 1, 0, none⟩) (fun _ => rfl) _).setCell (p := ⟨w.heap.size + 1, 1, none⟩) (fun _ => rfl) _).setCell (p := ⟨w.heap.size + 1, 2, none⟩) (fun _ => rfl) _
  have hk := Lib.hid (kk.step ch (fun q hq hl => by omega))
  clear kk ch b4
  go_wp2_with fail
  exact bodyPost_ret (v := .tuple #[.agg #[.int .i64 0, .slice none 0 0, .slice none 0 0], .bool false]) (by simp [results, Tryz.results104, go_sem, z0, z1, z2]) rfl ⟨_, _, rfl, rfl, TA.zero _ _, hk.out⟩
 ·have HP := Lib.hid hp
  cases hk6 : inB k 1 6
  ·rw [hp, hk6, Bool.false_and, Bool.and_false] at hok
   rw [hok]
   have HK6 := Lib.hid hk6
   clear hp hok hk6
   go_enter Tryz.func104, Tryz.ntmps104
   go_wp2_with fail
   generalize hWW : (w.alloc _).alloc _ = W1
   obtain ⟨kk, b2, b4⟩ := HW0.out W1 hWW.symm
   clear hWW HW0
   refine (isPolicy_any p W1).mono ?_
   rintro e w1 ⟨rfl, rfl⟩
   rw [HP.out]
   go_wp2_with fail
   refine (isSize_any k W1).mono ?_
   rintro e w1 ⟨rfl, rfl⟩
   rw [HK6.out]
   obtain ⟨e0, e1, e2, cf⟩ := id b4
   have cf0 := cf 0
   have cf1 := cf 1
   have cf2 := cf 2
   clear cf
   obtain ⟨z0, z1, z2, _⟩ := ((b4.set0 (.int .i64 0)).set1 (.slice none 0 0)).set2 (.slice none 0 0)
   have ch : Chg (fun q => q = w.heap.size + 1) W1 (((W1.setCell ⟨w.heap.size + 1, 0, none⟩ (.int .i64 0)).setCell ⟨w.heap.size + 1, 1, none⟩ (.slice none 0 0)).setCell ⟨w.heap.size + 1, 2, none⟩ (.slice none 0 0)) :=
    (((Chg.refl (fun q => q = w.heap.size + 1) W1).setCell (p := ⟨w.heap.size + 1, 0, none⟩) (fun _ => rfl) _).setCell (p := ⟨w.heap.size + 1, 1, none⟩) (fun _ => rfl) _).setCell (p := ⟨w.heap.size + 1, 2, none⟩) (fun _ => rfl) _
   have hk := Lib.hid (kk.step ch (fun q hq hl => by omega))
   clear kk ch b4
   go_wp2_with fail
   exact bodyPost_ret (v := .tuple #[.agg #[.int .i64 0, .slice none 0 0, .slice none 0 0], .bool false]) (by simp [results, Tryz.results104, go_sem, z0, z1, z2]) rfl ⟨_, _, rfl, rfl, TA.zero _ _, hk.out⟩
  ·have HK6 := Lib.hid hk6
   by_cases hl4 : ps.length < 4
   ·rw [hp, hk6, decide_eq_true hl4] at hok
    rw [hok]
    have hOk : Ok (newC p k) := ok_new (inB_iff.1 hp) (inB_iff.1 hk6)
    have hn4 : ¬ (4 : Int) ≤ (ps.length : Int) := by omega
    clear hp hok hk6
    go_enter Tryz.func104, Tryz.ntmps104
    go_wp2_with fail
    generalize hWW : (w.alloc _).alloc _ = W1
    obtain ⟨kk, b2, b4⟩ := HW0.out W1 hWW.symm
    clear hWW HW0
    refine (isPolicy_any p W1).mono ?_
    rintro e w1 ⟨rfl, rfl⟩
    rw [HP.out]
    obtain ⟨c0, c1, c2, _⟩ := id b2
    go_wp2_with fail
    refine (isSize_any k W1).mono ?_
    rintro e w1 ⟨rfl, rfl⟩
    rw [HK6.out]
    go_wp2_with fail
    refine (again_any _ _ ⟨it, ps, rq⟩ rq W1 (h0.keep kk) (hrq.keep kk) HS.out).mono ?_
    rintro e w2 ⟨v2, rfl, ⟨pv2, pg, mg, rv2, rfl, hP, hR, hd⟩, k2⟩
    simp only at hP hR hd ⊢
    obtain ⟨L0, hL0⟩ : ∃ L0, againP ps rq = L0 := ⟨_, rfl⟩
    have HL0 := Lib.hid hL0
    rw [hL0] at hP hd
    clear c0 c1 c2 hL0
    obtain ⟨oa, oc, rfl, _⟩ := hP.os.view
    obtain ⟨ya, yn, yc, rfl⟩ := hR.shape
    obtain ⟨n0, hn0⟩ : ∃ n0, L0.length = n0 := ⟨_, rfl⟩
    have hn4' : n0 ≤ 4 := by rw [← hn0, ← HL0.out]; unfold againP; rw [List.length_map]; omega
    have HN0 := Lib.hid hn0
    have hsz1 := b4.lt
    replace kk := kk.keep k2
    replace b2 := b2.keep k2
    replace b4 := b4.keep k2
    obtain ⟨c0, c1, c2, _⟩ := id b2
    rw [hn0] at hP hd ⊢
    go_wp2_with fail
    clear c0 c1 c2
    have b8 := Box3.new w2 (.int .i64 it) (.slice oa n0 oc) (.slice ya yn yc) 31
    have ka := (Chg.refl No w2).alloc (.cells #[.int .i64 it, .slice oa n0 oc, .slice ya yn yc] 31)
    obtain ⟨B8, hB8⟩ : ∃ B8, w2.heap.size = B8 := ⟨_, rfl⟩
    have hB1 : W1.heap.size ≤ B8 := hB8 ▸ k2.size
    have hcl : ∀ q, own (.slice ya yn yc) q → q < B8 := fun q hq => hB8 ▸ (hR.lt q hq).2
    have hfl : ∀ i, i < n0 → ∀ q, (own (pg i) q ∨ own (mg i) q) → q < B8 := fun i hi q hq => hB8 ▸ (hP.inF q (.inr ⟨i, by omega, hq⟩)).2
    have hrl : ∀ q, own (.slice oa n0 oc) q → W1.heap.size ≤ q ∧ q < B8 := fun q hq => hB8 ▸ hP.os.lt q hq
    generalize w2.alloc (.cells #[.int .i64 it, .slice oa n0 oc, .slice ya yn yc] 31) = W3 at b8 ka ⊢
    rw [hB8] at b8 ⊢
    replace kk := kk.keep ka
    replace b2 := b2.keep ka
    replace b4 := b4.keep ka
    replace hP := hP.keep ka
    replace hR := hR.keep ka
    clear ka hB8
    refine wp_region_K (S := fun W => W.cell? ⟨B8, 1, none⟩ = some (.slice oa n0 oc) ∧ W.cell? ⟨w.heap.size, 2, none⟩ = some (.slice qa rq.length qc)) (k := 9) (by kernel_rfl) ?_
    replace kk := kk.keep (drewN0 _)
    replace b2 := b2.keep (drewN0 _)
    replace b4 := b4.keep (drewN0 _)
    replace b8 := b8.keep (drewN0 _)
    replace hP := hP.keep (drewN0 _)
    replace hR := hR.keep (drewN0 _)
    generalize W3.drew = WR at kk b2 b4 b8 hP hR ⊢
    have hS : WR.cell? ⟨B8, 1, none⟩ = some (.slice oa n0 oc) ∧ WR.cell? ⟨w.heap.size, 2, none⟩ = some (.slice qa rq.length qc) := ⟨b8.c1, b2.c2⟩
    refine wpAnyK_take0 0 (.pointer (some ⟨B8, 1, none⟩)) rfl (by kernel_rfl) (fun _ _ _ h => h) hS rfl (by intro w; go_simp) ?_
    simp only [zA, zC, zD, zE, zF, zG]
    refine wpAnyK_takeT 1 (.slice oa n0 oc) rfl (by kernel_rfl) (fun _ _ _ h => h) hS rfl (by intro w hSw; go_simp) ?_
    simp only [zA, zB, zC, zD, zE, zF, zG]
    refine wpAnyK_take0 2 (.pointer (some ⟨w.heap.size, 2, none⟩)) rfl (by kernel_rfl) (fun _ _ _ h => h) hS rfl (by intro w; go_simp) ?_
    simp only [zA, zB, zC, zD, zE, zF, zG]
    refine wpAnyK_takeT 3 (.slice qa rq.length qc) rfl (by kernel_rfl) (fun _ _ _ h => h) hS rfl (by intro w hSw; go_simp) ?_
    simp only [zA, zB, zC, zD, zE, zF, zG]
    refine wpAnyK_take0 4 (.int .i64 (rq.length : Int)) rfl (by kernel_rfl) (fun _ _ _ h => h) hS rfl (by intro w; go_simp) ?_
    simp only [zA, zB, zC, zD, zE, zF, zG]
    refine wpAnyK_take0 5 (.int .i64 p) rfl (by kernel_rfl) (fun _ _ _ h => h) hS rfl (by intro w; go_simp) ?_
    simp only [zA, zB, zC, zD, zE, zF, zG]
    refine wpAnyK_take0 6 (.int .i64 k) rfl (by kernel_rfl) (fun _ _ _ h => h) hS rfl (by intro w; go_simp) ?_
    simp only [zA, zB, zC, zD, zE, zF, zG]
    refine wpAnyK_1 7 (by kernel_rfl) (wpOpK' rfl rfl ?_)
    intro K hK
    refine ocall (f := 58) (args := #[.int .i64 (rq.length : Int), .int .i64 p, .int .i64 k, .slice none 0 0]) (by go_simp) (playerOf_any (rq.length : Int) p k _ [] WR (RI.nil No WR) hOk) (fun v8 w8 h8 => hK.out _ _ ⟨(b8.keep h8.2).c1, (b2.keep h8.2).c2⟩ ?_)
    obtain ⟨⟨pv, mv, rfl, op, om, oap⟩, k8⟩ := h8
    clear hK K hS
    simp only [zA, zB, zC, zD, zE, zF, zG]
    have hWR : B8 < WR.heap.size := b8.lt
    replace kk := kk.keep k8
    replace b2 := b2.keep k8
    replace b4 := b4.keep k8
    replace b8 := b8.keep k8
    replace hR := hR.keep k8
    have hPos := hP.os.keep k8
    obtain ⟨x1, x2, x3, rfl⟩ := op.shape
    obtain ⟨x4, x5, x6, rfl⟩ := om.shape
    obtain ⟨X, hX⟩ : ∃ X, servedP (rq.length : Int) p k [] = X := ⟨_, rfl⟩
    rw [hX] at op om ⊢
    have HX := Lib.hid hX
    clear hX
    refine wpAnyK_1 8 (by kernel_rfl) (wpOpK' rfl rfl ?_)
    intro K hK
    unfold Oper.wp execOp
    go_simp
    have ka := (Chg.refl No w8).alloc (.cells #[.int .i64 X.frm, .int .i64 X.ca.pol, .int .i64 X.ca.size, .slice x1 x2 x3, .slice x4 x5 x6, .int .i64 X.ca.hand, .int .i64 X.fa] 68)
    refine hK.out _ _ ⟨(b8.keep ka).c1, (b2.keep ka).c2⟩ ?_
    clear hK K ka
    simp only [zE]
    refine wpAnyK_tail 9 rfl (by kernel_rfl) ?_
    simp only [List.drop_succ_cons, List.drop_zero]
    have hs8 := k8.size
    go_wp2_with (at_builtin; refine wappS1 elPlayers (by omega) rfl (.tmp 29) (.tmp 36) rfl hPos rfl (by simp [Value.oneCell']) rfl rfl (by omega) (by omega) ?_)
    intro v' wN oN kN hnN
    rw [← hn0] at oN
    have HPN := Lib.hid (hP.snoc (by omega) k8 op om oap oN kN hnN)
    have HFN : Hid (∀ q, FA v' (L0.length + 1) (fun i => if i = L0.length then .slice x1 x2 x3 else pg i) (fun i => if i = L0.length then .slice x4 x5 x6 else mg i) q → q ≠ B8 ∧ ¬ own (.slice ya yn yc) q) := Lib.hid (fun q hq => by
     rcases PA.snocF (b := WR.heap.size) (fun q hq => (op.lt q hq).1) (fun q hq => (om.lt q hq).1) hs8 hnN q hq with h | h
     ·rw [hn0] at h
      refine ⟨fun e => ?_, hd q h⟩
      rcases h with h | ⟨i, hi, h⟩
      ·have := (hrl q h).2; omega
      ·have := hfl i hi q h; omega
     ·exact ⟨by omega, fun e => by have := hcl q e; omega⟩)
    replace kk := kk.step kN (fun q hq hl => by have := (hrl q hq).1; omega)
    replace b4 := b4.step kN (fun hq => by have := (hrl _ hq).1; omega)
    replace b8 := b8.step kN (fun hq => by have := (hrl _ hq).2; omega)
    replace hR := hR.step kN (fun q hq hq' => hd q (.inl hq') hq)
    obtain ⟨na, nc, rfl, _⟩ := oN.view
    have hb81 := b8.c1
    have hb8f := b8.fr 1
    have cN : Chg (fun q => q = B8) wN (wN.setCell ⟨B8, 1, none⟩ (.slice na (L0.length + 1) nc)) := (Chg.refl (fun q => q = B8) wN).setCell (p := ⟨B8, 1, none⟩) (fun _ => rfl) _
    obtain ⟨d0, d1, d2, _⟩ := b8.set1 (.slice na (L0.length + 1) nc)
    have hlx : (L0 ++ [X]).length = L0.length + 1 := by simp
    have HP9 := HPN.out.step cN (fun q hq e => (HFN.out q (by rw [hlx] at hq; exact hq)).1 e)
    replace kk := kk.step cN (fun q hq hl => by omega)
    replace b4 := b4.step cN (by omega)
    replace hR := hR.step cN (fun q hq e => by have := hcl q hq; omega)
    obtain ⟨WS, hWS⟩ : ∃ WS, wN.setCell ⟨B8, 1, none⟩ (.slice na (L0.length + 1) nc) = WS := ⟨_, rfl⟩
    have HWS := Lib.hid hWS
    rw [hWS] at HP9 kk b4 hR d0 d1 d2
    obtain ⟨e0, e1, e2, cf⟩ := id b4
    have cf0 := cf 0
    have cf1 := cf 1
    have cf2 := cf 2
    clear cf
    obtain ⟨z0, z1, z2, _⟩ := ((b4.set0 (.int .i64 it)).set1 (.slice na (L0.length + 1) nc)).set2 (.slice ya yn yc)
    have ch : Chg (fun q => q = w.heap.size + 1) WS (((WS.setCell ⟨w.heap.size + 1, 0, none⟩ (.int .i64 it)).setCell ⟨w.heap.size + 1, 1, none⟩ (.slice na (L0.length + 1) nc)).setCell ⟨w.heap.size + 1, 2, none⟩ (.slice ya yn yc)) :=
     (((Chg.refl (fun q => q = w.heap.size + 1) WS).setCell (p := ⟨w.heap.size + 1, 0, none⟩) (fun _ => rfl) _).setCell (p := ⟨w.heap.size + 1, 1, none⟩) (fun _ => rfl) _).setCell (p := ⟨w.heap.size + 1, 2, none⟩) (fun _ => rfl) _
    have hsz3 : w.heap.size ≤ W1.heap.size := by omega
    have f1 := (HP9.step ch (fun q hq e => by have := (HP9.inF q hq).1; omega)).weak (base' := w.heap.size) hsz3
    have f2 := (hR.step ch (fun q hq e => by have := (hR.lt q hq).1; omega)).weak (base' := w.heap.size) hsz3
    have f3 : ∀ q, FA (.slice na (L0.length + 1) nc) (L0 ++ [X]).length (fun i => if i = L0.length then .slice x1 x2 x3 else pg i) (fun i => if i = L0.length then .slice x4 x5 x6 else mg i) q → ¬ own (.slice ya yn yc) q := fun q hq => (HFN.out q (by rw [hlx] at hq; exact hq)).2
    have hk := kk.step ch (fun q hq hl => by omega)
    have HEND := Lib.hid (And.intro f1 (And.intro f2 (And.intro f3 hk)))
    clear f1 f2 f3 hk HP9 kk ch b2 b4 b8 hR hP hd hfl hrl hcl cN oN kN hnN HPN HFN op om oap k8 hPos hn0 hlx
    go_wp2_with fail
    exact bodyPost_ret (v := .tuple #[.agg #[.int .i64 it, .slice na (L0.length + 1) nc, .slice ya yn yc], .bool true]) (by simp [results, Tryz.results104, go_sem, z0, z1, z2]) rfl ⟨_, _, rfl, rfl, by
     show TA _ _ _ ⟨it, againP ps rq ++ [servedP (rq.length : Int) p k []], rq⟩
     rw [HL0.out, HX.out]
     exact ⟨_, _, _, _, rfl, HEND.out.1, HEND.out.2.1, HEND.out.2.2.1⟩, HEND.out.2.2.2⟩
   ·rw [hp, hk6, decide_eq_false hl4] at hok
    rw [hok]
    have hn4 : (4 : Int) ≤ (ps.length : Int) := by omega
    clear hp hok hk6
    go_enter Tryz.func104, Tryz.ntmps104
    go_wp2_with fail
    generalize hWW : (w.alloc _).alloc _ = W1
    obtain ⟨kk, b2, b4⟩ := HW0.out W1 hWW.symm
    clear hWW HW0
    refine (isPolicy_any p W1).mono ?_
    rintro e w1 ⟨rfl, rfl⟩
    rw [HP.out]
    obtain ⟨c0, c1, c2, _⟩ := id b2
    go_wp2_with fail
    refine (isSize_any k W1).mono ?_
    rintro e w1 ⟨rfl, rfl⟩
    rw [HK6.out]
    obtain ⟨e0, e1, e2, cf⟩ := id b4
    have cf0 := cf 0
    have cf1 := cf 1
    have cf2 := cf 2
    clear cf
    obtain ⟨z0, z1, z2, _⟩ := ((b4.set0 (.int .i64 0)).set1 (.slice none 0 0)).set2 (.slice none 0 0)
    have ch : Chg (fun q => q = w.heap.size + 1) W1 (((W1.setCell ⟨w.heap.size + 1, 0, none⟩ (.int .i64 0)).setCell ⟨w.heap.size + 1, 1, none⟩ (.slice none 0 0)).setCell ⟨w.heap.size + 1, 2, none⟩ (.slice none 0 0)) :=
     (((Chg.refl (fun q => q = w.heap.size + 1) W1).setCell (p := ⟨w.heap.size + 1, 0, none⟩) (fun _ => rfl) _).setCell (p := ⟨w.heap.size + 1, 1, none⟩) (fun _ => rfl) _).setCell (p := ⟨w.heap.size + 1, 2, none⟩) (fun _ => rfl) _
    have hk := Lib.hid (kk.step ch (fun q hq hl => by omega))
    clear kk ch b4
    go_wp2_with fail
    exact bodyPost_ret (v := .tuple #[.agg #[.int .i64 0, .slice none 0 0, .slice none 0 0], .bool false]) (by simp [results, Tryz.results104, go_sem, z0, z1, z2]) rfl ⟨_, _, rfl, rfl, TA.zero _ _, hk.out⟩
end Go.Proofs.YtdgcohoneijleaaGreatDoor
