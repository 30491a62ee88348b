import Derived.Test.YtdgcohoneijleaaGreatDoorCg
import Derived.Test.YtdgcohoneijleaaGreatDoorPkX12
import Derived.Test.YtdgcohoneijleaaGreatDoorIc
namespace Go.Proofs.YtdgcohoneijleaaGreatDoor
open Go.RowKit
set_option maxRecDepth 100000 in
set_option maxHeartbeats 4000000 in
theorem l12Join_any (v : Value) (t : To) (p k : Int) (w : World) (h : RT No w v t) (hs : Sv t.ps t.reqs) :
  Calls Tryz.prog 93 #[v, .int .i64 p, .int .i64 k] w (Ret fun r w' => TA w.heap.size w' r (joinT t p k) ∧ Chg No w w') := by
 have h0 := h
 obtain ⟨it, ps, rq⟩ := t
 obtain ⟨pv, qv, rfl, hps, hrq⟩ := h
 simp only at hps hrq hs
 obtain ⟨qa, qc, rfl, _⟩ := id hrq
 obtain ⟨a, cap, rfl, hcap, hmax, hlen, pf, mf, hl, hcl⟩ := id hps
 have HS := Lib.hid hs
 clear hl hcl hs
 have hW0 : ∀ W, W = (w.alloc (.cells #[.int .i64 it, .slice a ps.length cap, .slice qa rq.length qc] 31)).alloc (.cells #[.int .i64 0, .slice none 0 0, .slice none 0 0] 31) → Chg No w W ∧ Box3 W w.heap.size (.int .i64 it) (.slice a ps.length cap) (.slice qa rq.length qc) ∧ Box3 W (w.heap.size + 1) (.int .i64 0) (.slice none 0 0) (.slice none 0 0) := fun W e => by
  subst e
  exact boxes32 (R := fun W => Chg No w W ∧ Box3 W w.heap.size (.int .i64 it) (.slice a ps.length cap) (.slice qa rq.length qc) ∧ Box3 W (w.heap.size + 1) (.int .i64 0) (.slice none 0 0) (.slice none 0 0)) (fun W k b0 b1 => ⟨k, b0, b1⟩)
 have HW0 := Lib.hid hW0
 clear hW0
 go_enter Tryz.func93, Tryz.ntmps93
 go_wp2_with fail
 generalize hWW : (w.alloc _).alloc _ = W1
 obtain ⟨kk, b2, b4⟩ := HW0.out W1 hWW.symm
 clear hWW HW0
 obtain ⟨c0, c1, c2, _⟩ := id b2
 go_wp2_with fail
 refine (l12With_any _ _ ⟨it, ps, rq⟩ rq W1 (h0.keep kk) (hrq.keep kk) HS.out).mono ?_
 rintro e w2 ⟨v2, rfl, ⟨pv2, pg, mg, rv2, rfl, hP, hR, hd⟩, k2⟩
 simp only at hP hR hd ⊢
 obtain ⟨L0, hL0⟩ : ∃ L0, againP ps rq = L0 := ⟨_, rfl⟩
 have HL0 := Lib.hid hL0
 rw [hL0] at hP hd
 clear c0 c1 c2 hL0
 obtain ⟨oa, oc, rfl, _⟩ := hP.os.view
 obtain ⟨ya, yn, yc, rfl⟩ := hR.shape
 obtain ⟨n0, hn0⟩ : ∃ n0, L0.length = n0 := ⟨_, rfl⟩
 have hn4' : n0 ≤ 1048576 := by rw [← hn0, ← HL0.out]; unfold againP; rw [List.length_map]; exact hlen
 have HN0 := Lib.hid hn0
 have hsz1 := b4.lt
 replace kk := kk.keep k2
 replace b2 := b2.keep k2
 replace b4 := b4.keep k2
 obtain ⟨c0, c1, c2, _⟩ := id b2
 rw [hn0] at hP hd ⊢
 go_wp2_with fail
 clear c0 c1 c2
 have b8 := Box3.new w2 (.int .i64 it) (.slice oa n0 oc) (.slice ya yn yc) 31
 have ka := (Chg.refl No w2).alloc (.cells #[.int .i64 it, .slice oa n0 oc, .slice ya yn yc] 31)
 obtain ⟨B8, hB8⟩ : ∃ B8, w2.heap.size = B8 := ⟨_, rfl⟩
 have hB1 : W1.heap.size ≤ B8 := hB8 ▸ k2.size
 have hcl : ∀ q, own (.slice ya yn yc) q → q < B8 := fun q hq => hB8 ▸ (hR.lt q hq).2
 have hfl : ∀ i, i < n0 → ∀ q, (own (pg i) q ∨ own (mg i) q) → q < B8 := fun i hi q hq => hB8 ▸ (hP.inF q (.inr ⟨i, by omega, hq⟩)).2
 have hrl : ∀ q, own (.slice oa n0 oc) q → W1.heap.size ≤ q ∧ q < B8 := fun q hq => hB8 ▸ hP.os.lt q hq
 generalize w2.alloc (.cells #[.int .i64 it, .slice oa n0 oc, .slice ya yn yc] 31) = W3 at b8 ka ⊢
 rw [hB8] at b8 ⊢
 replace kk := kk.keep ka
 replace b2 := b2.keep ka
 replace b4 := b4.keep ka
 replace hP := hP.keep ka
 replace hR := hR.keep ka
 clear ka hB8
 refine wp_region_K (S := fun W => W.cell? ⟨B8, 1, none⟩ = some (.slice oa n0 oc) ∧ W.cell? ⟨w.heap.size, 2, none⟩ = some (.slice qa rq.length qc)) (k := 10) (by kernel_rfl) ?_
 replace kk := kk.keep (drewN0 _)
 replace b2 := b2.keep (drewN0 _)
 replace b4 := b4.keep (drewN0 _)
 replace b8 := b8.keep (drewN0 _)
 replace hP := hP.keep (drewN0 _)
 replace hR := hR.keep (drewN0 _)
 generalize W3.drew = WR at kk b2 b4 b8 hP hR ⊢
 have hS : WR.cell? ⟨B8, 1, none⟩ = some (.slice oa n0 oc) ∧ WR.cell? ⟨w.heap.size, 2, none⟩ = some (.slice qa rq.length qc) := ⟨b8.c1, b2.c2⟩
 refine wpAnyK_take0 0 (.pointer (some ⟨B8, 1, none⟩)) rfl (by kernel_rfl) (fun _ _ _ h => h) hS rfl (by intro w; go_simp) ?_
 simp only [zA, zC, zD, zE, zF, zG]
 refine wpAnyK_takeT 1 (.slice oa n0 oc) rfl (by kernel_rfl) (fun _ _ _ h => h) hS rfl (by intro w hSw; go_simp) ?_
 simp only [zA, zB, zC, zD, zE, zF, zG]
 refine wpAnyK_take0 2 (.pointer (some ⟨w.heap.size, 2, none⟩)) rfl (by kernel_rfl) (fun _ _ _ h => h) hS rfl (by intro w; go_simp) ?_
 simp only [zA, zB, zC, zD, zE, zF, zG]
 refine wpAnyK_takeT 3 (.slice qa rq.length qc) rfl (by kernel_rfl) (fun _ _ _ h => h) hS rfl (by intro w hSw; go_simp) ?_
 simp only [zA, zB, zC, zD, zE, zF, zG]
 refine wpAnyK_take0 4 (.int .i64 (rq.length : Int)) rfl (by kernel_rfl) (fun _ _ _ h => h) hS rfl (by intro w; go_simp) ?_
 simp only [zA, zB, zC, zD, zE, zF, zG]
 refine wpAnyK_take0 5 (.int .i64 p) rfl (by kernel_rfl) (fun _ _ _ h => h) hS rfl (by intro w; go_simp) ?_
 simp only [zA, zB, zC, zD, zE, zF, zG]
 refine wpAnyK_take0 6 (.int .i64 k) rfl (by kernel_rfl) (fun _ _ _ h => h) hS rfl (by intro w; go_simp) ?_
 simp only [zA, zB, zC, zD, zE, zF, zG]
 refine wpAnyK_1 7 (by kernel_rfl) (wpOpK' rfl rfl ?_)
 intro K hK
 refine ocall (f := 125) (args := #[.int .i64 p, .int .i64 k]) (by go_simp) (l4NewO_any p k WR) (fun v8 w8 h8 => hK.out _ _ ⟨(b8.keep h8.2).c1, (b2.keep h8.2).c2⟩ ?_)
 obtain ⟨⟨x1, x4, rfl, op, om, oap⟩, k8⟩ := h8
 clear hK K hS
 simp only [zA, zB, zC, zD, zE, zF, zG]
 have hWR : B8 < WR.heap.size := b8.lt
 replace kk := kk.keep k8
 replace b2 := b2.keep k8
 replace b4 := b4.keep k8
 replace b8 := b8.keep k8
 replace hR := hR.keep k8
 have hPos := hP.os.keep k8
 have hS : w8.cell? ⟨B8, 1, none⟩ = some (.slice oa n0 oc) ∧ w8.cell? ⟨w.heap.size, 2, none⟩ = some (.slice qa rq.length qc) := ⟨b8.c1, b2.c2⟩
 refine wpAnyK_take0 8 (.agg #[.int .i64 (rq.length : Int), .int .i64 p, .int .i64 k, .slice (some ⟨x1, 0, none⟩) 0 0, .slice (some ⟨x4, 0, none⟩) 0 0, .int .i64 0, .int .i64 0]) rfl (by kernel_rfl) (fun _ _ _ h => h) hS rfl (by intro w; go_simp) ?_
 simp only [zA, zB, zC, zD, zE, zF, zG]
 clear hS
 refine wpAnyK_1 9 (by kernel_rfl) (wpOpK' rfl rfl ?_)
 intro K hK
 unfold Oper.wp execOp
 go_simp
 have ka := (Chg.refl No w8).alloc (.cells #[.int .i64 (rq.length : Int), .int .i64 p, .int .i64 k, .slice (some ⟨x1, 0, none⟩) 0 0, .slice (some ⟨x4, 0, none⟩) 0 0, .int .i64 0, .int .i64 0] 68)
 refine hK.out _ _ ⟨(b8.keep ka).c1, (b2.keep ka).c2⟩ ?_
 clear hK K ka
 simp only [zE]
 refine wpAnyK_tail 10 rfl (by kernel_rfl) ?_
 simp only [List.drop_succ_cons, List.drop_zero]
 have hs8 := k8.size
 go_wp2_with (at_builtin; refine wappS1 elPlayers (by omega) rfl (.tmp 13) (.tmp 21) rfl hPos rfl (by simp [Value.oneCell']) rfl rfl (by omega) (by omega) ?_)
 intro v' wN oN kN hnN
 rw [← hn0] at oN
 have HPN := Lib.hid (hP.snoc (x := ⟨(rq.length : Int), newC p k, 0⟩) (by omega) k8 op om oap oN kN hnN)
 have HFN : Hid (∀ q, FA v' (L0.length + 1) (fun i => if i = L0.length then .slice (some ⟨x1, 0, none⟩) 0 0 else pg i) (fun i => if i = L0.length then .slice (some ⟨x4, 0, none⟩) 0 0 else mg i) q → q ≠ B8 ∧ ¬ own (.slice ya yn yc) q) := Lib.hid (fun q hq => by
  rcases PA.snocF (b := WR.heap.size) (fun q hq => (op.lt q hq).1) (fun q hq => (om.lt q hq).1) hs8 hnN q hq with h | h
  ·rw [hn0] at h
   refine ⟨fun e => ?_, hd q h⟩
   rcases h with h | ⟨i, hi, h⟩
   ·have := (hrl q h).2; omega
   ·have := hfl i hi q h; omega
  ·exact ⟨by omega, fun e => by have := hcl q e; omega⟩)
 replace kk := kk.step kN (fun q hq hl => by have := (hrl q hq).1; omega)
 replace b4 := b4.step kN (fun hq => by have := (hrl _ hq).1; omega)
 replace b8 := b8.step kN (fun hq => by have := (hrl _ hq).2; omega)
 replace hR := hR.step kN (fun q hq hq' => hd q (.inl hq') hq)
 obtain ⟨na, nc, rfl, _⟩ := oN.view
 have hb81 := b8.c1
 have hb8f := b8.fr 1
 have cN : Chg (fun q => q = B8) wN (wN.setCell ⟨B8, 1, none⟩ (.slice na (L0.length + 1) nc)) := (Chg.refl (fun q => q = B8) wN).setCell (p := ⟨B8, 1, none⟩) (fun _ => rfl) _
 obtain ⟨d0, d1, d2, _⟩ := b8.set1 (.slice na (L0.length + 1) nc)
 have hlx : (L0 ++ [(⟨(rq.length : Int), newC p k, 0⟩ : Pl)]).length = L0.length + 1 := by simp
 have HP9 := HPN.out.step cN (fun q hq e => (HFN.out q (by rw [hlx] at hq; exact hq)).1 e)
 replace kk := kk.step cN (fun q hq hl => by omega)
 replace b4 := b4.step cN (by omega)
 replace hR := hR.step cN (fun q hq e => by have := hcl q hq; omega)
 obtain ⟨WS, hWS⟩ : ∃ WS, wN.setCell ⟨B8, 1, none⟩ (.slice na (L0.length + 1) nc) = WS := ⟨_, rfl⟩
 have HWS := Lib.hid hWS
 rw [hWS] at HP9 kk b4 hR d0 d1 d2
 obtain ⟨e0, e1, e2, cf⟩ := id b4
 have cf0 := cf 0
 have cf1 := cf 1
 have cf2 := cf 2
 clear cf
 obtain ⟨z0, z1, z2, _⟩ := ((b4.set0 (.int .i64 it)).set1 (.slice na (L0.length + 1) nc)).set2 (.slice ya yn yc)
 have ch : Chg (fun q => q = w.heap.size + 1) WS (((WS.setCell ⟨w.heap.size + 1, 0, none⟩ (.int .i64 it)).setCell ⟨w.heap.size + 1, 1, none⟩ (.slice na (L0.length + 1) nc)).setCell ⟨w.heap.size + 1, 2, none⟩ (.slice ya yn yc)) :=
  (((Chg.refl (fun q => q = w.heap.size + 1) WS).setCell (p := ⟨w.heap.size + 1, 0, none⟩) (fun _ => rfl) _).setCell (p := ⟨w.heap.size + 1, 1, none⟩) (fun _ => rfl) _).setCell (p := ⟨w.heap.size + 1, 2, none⟩) (fun _ => rfl) _
 have hsz3 : w.heap.size ≤ W1.heap.size := by omega
 have f1 := (HP9.step ch (fun q hq e => by have := (HP9.inF q hq).1; omega)).weak (base' := w.heap.size) hsz3
 have f2 := (hR.step ch (fun q hq e => by have := (hR.lt q hq).1; omega)).weak (base' := w.heap.size) hsz3
 have f3 : ∀ q, FA (.slice na (L0.length + 1) nc) (L0 ++ [(⟨(rq.length : Int), newC p k, 0⟩ : Pl)]).length (fun i => if i = L0.length then .slice (some ⟨x1, 0, none⟩) 0 0 else pg i) (fun i => if i = L0.length then .slice (some ⟨x4, 0, none⟩) 0 0 else mg i) q → ¬ own (.slice ya yn yc) q := fun q hq => (HFN.out q (by rw [hlx] at hq; exact hq)).2
 have hk := kk.step ch (fun q hq hl => by omega)
 have HEND := Lib.hid (And.intro f1 (And.intro f2 (And.intro f3 hk)))
 clear f1 f2 f3 hk HP9 kk ch b2 b4 b8 hR hP hd hfl hrl hcl cN oN kN hnN HPN HFN op om oap k8 hPos hn0 hlx
 go_wp2_with fail
 exact bodyPost_ret (v := .agg #[.int .i64 it, .slice na (L0.length + 1) nc, .slice ya yn yc]) (by simp [results, Tryz.results93, go_sem, z0, z1, z2]) rfl ⟨_, rfl, by
  show TA _ _ _ ⟨it, againP ps rq ++ [(⟨(rq.length : Int), newC p k, 0⟩ : Pl)], rq⟩
  rw [HL0.out]
  exact ⟨_, _, _, _, rfl, HEND.out.1, HEND.out.2.1, HEND.out.2.2.1⟩, HEND.out.2.2.2⟩
end Go.Proofs.YtdgcohoneijleaaGreatDoor
namespace Go.Proofs.YtdgcohoneijleaaGreatDoor
open Go.RowKit
theorem TA.lt {base : Nat} {w : World} {v : Value} {t : To} (h : TA base w v t) : ∃ pv rv, v = .agg #[.int .i64 t.items, pv, rv] := by
 obtain ⟨pv, pf, mf, rv, h1, _⟩ := h; exact ⟨_, _, h1⟩
end Go.Proofs.YtdgcohoneijleaaGreatDoor
namespace Go.Proofs.YtdgcohoneijleaaGreatDoor
open Go.RowKit
theorem runC_app (c : Ca) (l m : List Int) : runC c (l ++ m) = runC (runC c l) m := by unfold runC; rw [List.foldl_append]
theorem tour_pl {t : To} (ht : tourB t = true) {i : Nat} (hi : i < t.ps.length) : playB (t.ps.getD i dPl) t.reqs = true := by
 unfold tourB at ht
 simp only [Bool.and_eq_true, List.all_eq_true] at ht
 refine ht.2.2 _ ?_
 rw [List.getD_eq_getElem?_getD, List.getElem?_eq_getElem hi]
 exact List.getElem_mem hi
theorem tour_at {t : To} (ht : tourB t = true) {i : Nat} (hi : i < t.ps.length) : (0 ≤ (t.ps.getD i dPl).frm ∧ (t.ps.getD i dPl).frm ≤ t.reqs.length) ∧ (1 ≤ (t.ps.getD i dPl).ca.pol ∧ (t.ps.getD i dPl).ca.pol ≤ 7) ∧ (1 ≤ (t.ps.getD i dPl).ca.size ∧ (t.ps.getD i dPl).ca.size ≤ 6) := by
 have h1 := tour_pl ht hi
 unfold playB at h1
 simp only [Bool.and_eq_true, inB_iff] at h1
 exact ⟨h1.1.1, h1.1.2.1, h1.1.2.2⟩
end Go.Proofs.YtdgcohoneijleaaGreatDoor
namespace Go.Proofs.YtdgcohoneijleaaGreatDoor
open Go.RowKit
theorem sv_of {t : To} (ht : tourB t = true) : Sv t.ps t.reqs := fun i hi => by
 obtain ⟨h1, h2, g1⟩ := tour_at ht hi
 exact ⟨h1, ok_new h2 g1⟩
theorem stepP_const (c : Ca) (x : Int) : (stepC c x).pol = c.pol ∧ (stepC c x).size = c.size := by
 unfold stepC hitC faultC clockC
 repeat' split
 all_goals exact ⟨rfl, rfl⟩
theorem runP_const (c : Ca) (l : List Int) : (runC c l).pol = c.pol ∧ (runC c l).size = c.size := by
 induction l generalizing c with
 | nil => exact ⟨rfl, rfl⟩
 | cons x l ih =>
  obtain ⟨h1, h2⟩ := ih (stepC c x)
  obtain ⟨h3, h4⟩ := stepP_const c x
  exact ⟨h1.trans h3, h2.trans h4⟩
theorem sameB_self (c : Ca) : sameB c c = true := by simp [sameB]
theorem wantP_want (x : Pl) (l l' : List Int) : wantP (wantP x l) l' = wantP x l' := by
 unfold wantP servedP
 simp only [(runP_const (newC x.ca.pol x.ca.size) (l.drop x.frm.toNat)).1, (runP_const (newC x.ca.pol x.ca.size) (l.drop x.frm.toNat)).2]
 rfl
theorem play_want {x : Pl} {l : List Int} (h1 : inB x.frm 0 l.length = true) (h2 : inB x.ca.pol 1 7 = true) (h3 : inB x.ca.size 1 6 = true) : playB (wantP x l) l = true := by
 have e := wantP_want x l l
 have hc := runP_const (newC x.ca.pol x.ca.size) (l.drop x.frm.toNat)
 have f1 : (wantP x l).frm = x.frm := rfl
 have f2 : (wantP x l).ca.pol = x.ca.pol := hc.1
 have f3 : (wantP x l).ca.size = x.ca.size := hc.2
 unfold playB
 rw [e, f1, f2, f3, h1, h2, h3, sameB_self]
 simp
theorem tour_again {t : To} {l : List Int} (ht : tourB t = true) (hr : reqB t.items l = true) (hf : ∀ i, i < t.ps.length → (t.ps.getD i dPl).frm ≤ l.length) : tourB ⟨t.items, againP t.ps l, l⟩ = true := by
 have ht' := ht
 unfold tourB at ht ⊢
 simp only [Bool.and_eq_true, decide_eq_true_eq, List.all_eq_true] at ht ⊢
 refine ⟨hr, by unfold againP; rw [List.length_map]; exact ht.2.1, fun y hy => ?_⟩
 obtain ⟨x, hx, rfl⟩ := List.mem_map.1 hy
 obtain ⟨i, hi, rfl⟩ := List.getElem_of_mem hx
 obtain ⟨⟨h1, _⟩, h2, g1⟩ := tour_at ht' hi
 have h4 := hf i hi
 have e : t.ps.getD i dPl = t.ps[i] := by rw [List.getD_eq_getElem?_getD, List.getElem?_eq_getElem hi]; rfl
 rw [e] at h1 h2 g1 h4
 exact play_want (inB_iff.2 ⟨h1, h4⟩) (inB_iff.2 h2) (inB_iff.2 g1)
theorem sameB_eq {a b : Ca} (h : sameB a b = true) : a = b := by
 obtain ⟨a1, a2, a3, a4, a5⟩ := a
 obtain ⟨b1, b2, b3, b4, b5⟩ := b
 simp only [sameB, Bool.and_eq_true, beq_iff_eq] at h
 obtain ⟨rfl, rfl, rfl, rfl, rfl⟩ := h
 rfl
theorem want_self {x : Pl} {l : List Int} (h : playB x l = true) : wantP x l = x := by
 unfold playB at h
 simp only [Bool.and_eq_true, beq_iff_eq] at h
 have h3 := sameB_eq h.2.1
 have h2 := h.2.2
 have h4 : (wantP x l).frm = x.frm := rfl
 have e : ∀ a b : Pl, a.frm = b.frm → a.ca = b.ca → a.fa = b.fa → a = b := fun a b p q r => by
  obtain ⟨a1, a2, a3⟩ := a
  obtain ⟨b1, b2, b3⟩ := b
  simp only at p q r
  subst p; subst q; subst r; rfl
 exact e _ _ h4 h3 h2
theorem again_self {t : To} (ht : tourB t = true) : againP t.ps t.reqs = t.ps := by
 unfold tourB at ht
 simp only [Bool.and_eq_true, decide_eq_true_eq, List.all_eq_true] at ht
 unfold againP
 have : ∀ x ∈ t.ps, wantP x t.reqs = x := fun x hx => want_self (ht.2.2 x hx)
 calc t.ps.map (fun x => wantP x t.reqs) = t.ps.map id := List.map_congr_left this
  _ = t.ps := by simp
end Go.Proofs.YtdgcohoneijleaaGreatDoor
namespace Go.Proofs.YtdgcohoneijleaaGreatDoor
open Go.RowKit
def noneT : List UInt8 := [110, 111, 110, 101]
def spT (l : List Int) : List UInt8 := Lib.join (l.map Lib.itoa) [32]
def reqT : List Int → List UInt8
 | [] => noneT
 | x :: l => spT (x :: l)
theorem reqT_ne {l : List Int} (h : l ≠ []) : reqT l = spT l := by
 cases l with
 | nil => exact absurd rfl h
 | cons x l => rfl
theorem itoa_32 (v : Int) : (32 : UInt8) ∉ Lib.itoa v := itoa_notin v 32 (.inl (by decide))
theorem sp_words (x : Int) (l : List Int) : splitC 32 (spT (x :: l)) = (x :: l).map Lib.itoa := by
 refine split_join 32 (Lib.itoa x) (l.map Lib.itoa) (fun y hy => ?_)
 rw [← List.map_cons] at hy
 obtain ⟨z, _, rfl⟩ := List.mem_map.1 hy
 exact itoa_32 z
theorem mem_join {sep : List UInt8} {b : UInt8} : ∀ {L : List (List UInt8)}, b ∈ Lib.join L sep → (∃ x, x ∈ L ∧ b ∈ x) ∨ b ∈ sep
 | [], h => by simp [Lib.join_nil] at h
 | x :: r, h => by
  rw [Lib.join_cons] at h
  rcases List.mem_append.1 h with h | h
  ·exact .inl ⟨x, by simp, h⟩
  ·simp only [Lib.joinTail, List.mem_flatten, List.mem_map] at h
   obtain ⟨z, ⟨y, hy, rfl⟩, hz⟩ := h
   rcases List.mem_append.1 hz with hz | hz
   ·exact .inr hz
   ·exact .inl ⟨y, by simp [hy], hz⟩
theorem sp_mem {l : List Int} {b : UInt8} (h : b ∈ spT l) : b = 32 ∨ ∃ v, b ∈ Lib.itoa v := by
 rcases mem_join h with ⟨x, hx, hb⟩ | h
 ·obtain ⟨v, _, rfl⟩ := List.mem_map.1 hx
  exact .inr ⟨v, hb⟩
 ·exact .inl (by simpa using h)
theorem none_sp (l : List Int) : spT l ≠ noneT := fun e => by
 have h : (110 : UInt8) ∈ spT l := by rw [e]; decide
 rcases sp_mem h with h | ⟨v, h⟩
 ·exact absurd h (by decide)
 ·exact itoa_notin v 110 (.inr (.inl (by decide))) h
theorem map_inj {α β : Type} {f : α → β} (hf : ∀ a b, f a = f b → a = b) : ∀ {l m : List α}, l.map f = m.map f → l = m
 | [], [], _ => rfl
 | [], _ :: _, h => by simp at h
 | _ :: _, [], h => by simp at h
 | a :: l, b :: m, h => by
  simp only [List.map_cons, List.cons.injEq] at h
  rw [hf a b h.1, map_inj hf h.2]
theorem reqT_inj {l m : List Int} (h : reqT l = reqT m) : l = m := by
 cases l with
 | nil =>
  cases m with
  | nil => rfl
  | cons y m => exact absurd h.symm (none_sp _)
 | cons x l =>
  cases m with
  | nil => exact absurd h (none_sp _)
  | cons y m =>
   have h1 := sp_words x l
   rw [show spT (x :: l) = spT (y :: m) from h, sp_words] at h1
   exact (map_inj (fun _ _ => itoa_inj) h1).symm
theorem req_words {l : List Int} {s : List UInt8} (h : reqT l = s) (hs : s ≠ noneT) : l ≠ [] ∧ splitC 32 s = l.map Lib.itoa := by
 subst h
 cases l with
 | nil => exact absurd rfl hs
 | cons x l => exact ⟨by simp, sp_words x l⟩
theorem req_notin (l : List Int) (b : UInt8) (h : 57 < b.toNat ∧ b.toNat < 97) : b ∉ reqT l := fun hb => by
 cases l with
 | nil =>
  have : b ∈ noneT := hb
  simp only [noneT, List.mem_cons, List.not_mem_nil, or_false] at this
  rcases this with rfl | rfl | rfl | rfl <;> revert h <;> decide
 | cons x l =>
  rcases sp_mem hb with rfl | ⟨v, hv⟩
  ·revert h; decide
  ·exact itoa_notin v b (.inr (.inl h.1)) hv
theorem spT_snoc (l : List Int) (x : Int) (h : l ≠ []) : spT (l ++ [x]) = spT l ++ [32] ++ Lib.itoa x := by
 unfold spT
 rw [List.map_append, List.map_cons, List.map_nil, join_snoc _ _ _ (by simpa using h)]
theorem words_sp {s : List UInt8} (h : ∀ x, x ∈ splitC 32 s → isNum x = true) : spT ((splitC 32 s).map valS) = s := by
 have e : ((splitC 32 s).map valS).map Lib.itoa = splitC 32 s := by
  rw [List.map_map]
  calc (splitC 32 s).map (Lib.itoa ∘ valS) = (splitC 32 s).map id := List.map_congr_left (fun x hx => itoa_val (h x hx))
   _ = splitC 32 s := by simp
 unfold spT
 rw [e, join_split]
open Classical in
noncomputable def parR (n : Int) (s : List UInt8) : Option (List Int) := if h : ∃ l, reqB n l = true ∧ reqT l = s then some h.choose else none
theorem parR_some {n : Int} {s : List UInt8} {l : List Int} : parR n s = some l ↔ reqB n l = true ∧ reqT l = s := by
 unfold parR
 split
 ·rename_i h
  constructor
  ·intro e
   have := h.choose_spec
   rw [Option.some.inj e] at this
   exact this
  ·intro e
   rw [reqT_inj (h.choose_spec.2.trans e.2.symm)]
 ·rename_i h
  constructor
  ·intro e; cases e
  ·intro e; exact absurd ⟨l, e⟩ h
theorem parR_none {n : Int} {s : List UInt8} (h : ∀ l, reqB n l = true → reqT l = s → False) : parR n s = none := by
 cases e : parR n s with
 | none => rfl
 | some l => exact (h l (parR_some.1 e).1 (parR_some.1 e).2).elim
def polL : List (List UInt8) := [[108, 114, 117], [102, 105, 102, 111], [108, 105, 102, 111], [102, 108, 117, 115, 104], [108, 102, 117], [99, 108, 111, 99, 107], [109, 114, 117]]
def polT (p : Int) : List UInt8 := polL.getD (p - 1).toNat []
def polOf (s : List UInt8) : Int := if s ∈ polL then (polL.idxOf s : Int) + 1 else 0
theorem seven {p : Int} (h : 1 ≤ p ∧ p ≤ 7) : p = 1 ∨ p = 2 ∨ p = 3 ∨ p = 4 ∨ p = 5 ∨ p = 6 ∨ p = 7 := by omega
theorem polOf_T {p : Int} (h : 1 ≤ p ∧ p ≤ 7) : polOf (polT p) = p := by
 rcases seven h with rfl | rfl | rfl | rfl | rfl | rfl | rfl <;> decide
theorem polOf_in (s : List UInt8) : polOf s = 0 ∨ (1 ≤ polOf s ∧ polOf s ≤ 7 ∧ polT (polOf s) = s) := by
 by_cases h : s ∈ polL
 ·refine .inr ?_
  simp only [polL, List.mem_cons, List.not_mem_nil, or_false] at h
  rcases h with rfl | rfl | rfl | rfl | rfl | rfl | rfl <;> decide
 ·exact .inl (by rw [polOf, if_neg h])
theorem polT_notin {p : Int} (h : 1 ≤ p ∧ p ≤ 7) {b : UInt8} (hb : b.toNat < 97) : b ∉ polT p := by
 have key : ∀ x ∈ polL, ∀ y ∈ x, 97 ≤ y.toNat := by decide
 intro hm
 have hin : polT p ∈ polL := by rcases seven h with rfl | rfl | rfl | rfl | rfl | rfl | rfl <;> decide
 have := key _ hin b hm
 omega
def plT (x : Pl) : List UInt8 := polT x.ca.pol ++ 47 :: (Lib.itoa x.ca.size ++ 32 :: Lib.itoa x.frm)
def touW (t : To) : List (List UInt8) := Lib.itoa t.items :: reqT t.reqs :: t.ps.map plT
def touT (t : To) : List UInt8 := Lib.join (touW t) [59, 32]
theorem tour_ps {t : To} (ht : tourB t = true) {x : Pl} (hx : x ∈ t.ps) : playB x t.reqs = true := by
 unfold tourB at ht
 simp only [Bool.and_eq_true, List.all_eq_true] at ht
 exact ht.2.2 x hx
theorem play_parts {x : Pl} {l : List Int} (h : playB x l = true) : (0 ≤ x.frm ∧ x.frm ≤ l.length) ∧ (1 ≤ x.ca.pol ∧ x.ca.pol ≤ 7) ∧ 1 ≤ x.ca.size ∧ x.ca.size ≤ 6 := by
 unfold playB at h
 simp only [Bool.and_eq_true, inB_iff] at h
 exact ⟨h.1.1, h.1.2.1, h.1.2.2⟩
theorem tour_req {t : To} (ht : tourB t = true) : (1 ≤ t.items ∧ t.items ≤ 8) ∧ t.reqs.length ≤ 60 ∧ (∀ x ∈ t.reqs, 0 ≤ x ∧ x ≤ 7) ∧ reqB t.items t.reqs = true ∧ t.ps.length ≤ 4 := by
 unfold tourB at ht
 simp only [Bool.and_eq_true, decide_eq_true_eq] at ht
 have h := ht.1
 have h' := h
 unfold reqB at h
 simp only [Bool.and_eq_true, decide_eq_true_eq, inB_iff] at h
 refine ⟨h.1.1, h.1.2, fun x hx => ?_, h', ht.2.1⟩
 have := h.2
 unfold belowB at this
 rw [List.all_eq_true] at this
 have := inB_iff.1 (this x hx)
 omega
theorem plT_notin {x : Pl} {l : List Int} (h : playB x l = true) : (59 : UInt8) ∉ plT x := fun hm => by
 obtain ⟨_, hp, _⟩ := play_parts h
 unfold plT at hm
 rcases List.mem_append.1 hm with hm | hm
 ·exact polT_notin hp (by decide) hm
 ·rcases List.mem_cons.1 hm with hm | hm
  ·exact absurd hm (by decide)
  ·rcases List.mem_append.1 hm with hm | hm
   ·exact itoa_notin _ 59 (.inr (.inl (by decide))) hm
   ·rcases List.mem_cons.1 hm with hm | hm
    ·exact absurd hm (by decide)
    ·exact itoa_notin _ 59 (.inr (.inl (by decide))) hm
theorem touW_notin {t : To} (ht : tourB t = true) : ∀ y, y ∈ touW t → (59 : UInt8) ∉ y := fun y hy => by
 unfold touW at hy
 rcases List.mem_cons.1 hy with rfl | hy
 ·exact itoa_notin _ 59 (.inr (.inl (by decide)))
 ·rcases List.mem_cons.1 hy with rfl | hy
  ·exact req_notin _ 59 (by decide)
  ·obtain ⟨x, hx, rfl⟩ := List.mem_map.1 hy
   exact plT_notin (tour_ps ht hx)
theorem tou_split2 {t : To} (ht : tourB t = true) : Lib.split (touT t) [59, 32] = touW t := split2_join 59 32 _ _ (touW_notin ht)
theorem tou_split {t : To} (ht : tourB t = true) : splitC 59 (touT t) = Lib.itoa t.items :: (32 :: reqT t.reqs) :: t.ps.map (fun x => 32 :: plT x) := by
 have := split_join2 59 32 (by decide) _ _ (touW_notin ht)
 show splitC 59 (Lib.join (Lib.itoa t.items :: (reqT t.reqs :: t.ps.map plT)) [59, 32]) = _
 rw [this]
 simp
theorem plT_cut {x : Pl} {l : List Int} (h : playB x l = true) : preB 47 (plT x) = polT x.ca.pol ∧ postB 47 (plT x) = Lib.itoa x.ca.size ++ 32 :: Lib.itoa x.frm :=
 pre_join 47 _ _ (polT_notin (play_parts h).2.1 (by decide))
theorem plT_cut2 (x : Pl) : preB 32 (Lib.itoa x.ca.size ++ 32 :: Lib.itoa x.frm) = Lib.itoa x.ca.size ∧ postB 32 (Lib.itoa x.ca.size ++ 32 :: Lib.itoa x.frm) = Lib.itoa x.frm :=
 pre_join 32 _ _ (itoa_32 _)
theorem plT_cut3 {x : Pl} {l : List Int} (h : playB x l = true) : preB 32 (plT x) = polT x.ca.pol ++ 47 :: Lib.itoa x.ca.size ∧ postB 32 (plT x) = Lib.itoa x.frm := by
 have hn : (32 : UInt8) ∉ polT x.ca.pol ++ 47 :: Lib.itoa x.ca.size := fun hm => by
  rcases List.mem_append.1 hm with hm | hm
  ·exact polT_notin (play_parts h).2.1 (by decide) hm
  ·rcases List.mem_cons.1 hm with hm | hm
   ·exact absurd hm (by decide)
   ·exact itoa_32 _ hm
 have e : plT x = (polT x.ca.pol ++ 47 :: Lib.itoa x.ca.size) ++ 32 :: Lib.itoa x.frm := by simp [plT]
 rw [e]
 exact pre_join 32 _ _ hn
theorem plT_cut4 {x : Pl} {l : List Int} (h : playB x l = true) : preB 47 (polT x.ca.pol ++ 47 :: Lib.itoa x.ca.size) = polT x.ca.pol ∧ postB 47 (polT x.ca.pol ++ 47 :: Lib.itoa x.ca.size) = Lib.itoa x.ca.size :=
 pre_join 47 _ _ (polT_notin (play_parts h).2.1 (by decide))
theorem plT_inj {x y : Pl} {l : List Int} (hx : playB x l = true) (hy : playB y l = true) (h : plT x = plT y) : x = y := by
 have h1 := plT_cut hx
 have h2 := plT_cut hy
 rw [h] at h1
 have hp : polT x.ca.pol = polT y.ca.pol := h1.1.symm.trans h2.1
 have hq := h1.2.symm.trans h2.2
 have h3 := plT_cut2 x
 have h4 := plT_cut2 y
 rw [hq] at h3
 have hs := itoa_inj (h3.1.symm.trans h4.1)
 have hf := itoa_inj (h3.2.symm.trans h4.2)
 have hpp : x.ca.pol = y.ca.pol := by rw [← polOf_T (play_parts hx).2.1, ← polOf_T (play_parts hy).2.1, hp]
 have e1 := want_self hx
 have e2 := want_self hy
 rw [← e1, ← e2]
 unfold wantP
 rw [hpp, hs, hf]
theorem touT_inj {t u : To} (ht : tourB t = true) (hu : tourB u = true) (h : touT t = touT u) : t = u := by
 have hw : touW t = touW u := by rw [← tou_split2 ht, ← tou_split2 hu, h]
 unfold touW at hw
 simp only [List.cons.injEq] at hw
 obtain ⟨h1, h2, h3⟩ := hw
 have e1 := itoa_inj h1
 have e2 := reqT_inj h2
 obtain ⟨i, ps, rs⟩ := t
 obtain ⟨i', ps', rs'⟩ := u
 simp only at e1 e2 h3
 subst e1; subst e2
 have hps : ∀ (a b : List Pl), (∀ x ∈ a, playB x rs = true) → (∀ x ∈ b, playB x rs = true) → a.map plT = b.map plT → a = b := by
  intro a
  induction a with
  | nil => intro b _ _ h; cases b with
   | nil => rfl
   | cons y b => simp at h
  | cons x a ih => intro b ha hb h; cases b with
   | nil => simp at h
   | cons y b =>
    simp only [List.map_cons, List.cons.injEq] at h
    rw [plT_inj (ha x (by simp)) (hb y (by simp)) h.1, ih b (fun z hz => ha z (by simp [hz])) (fun z hz => hb z (by simp [hz])) h.2]
 rw [hps ps ps' (fun x hx => tour_ps ht hx) (fun x hx => tour_ps hu hx) h3]
open Classical in
noncomputable def parT (s : List UInt8) : Option To := if h : ∃ t, tourB t = true ∧ touT t = s then some h.choose else none
theorem parT_some {s : List UInt8} {t : To} : parT s = some t ↔ tourB t = true ∧ touT t = s := by
 unfold parT
 split
 ·rename_i h
  constructor
  ·intro e
   have := h.choose_spec
   rw [Option.some.inj e] at this
   exact this
  ·intro e
   rw [touT_inj h.choose_spec.1 e.1 (h.choose_spec.2.trans e.2.symm)]
 ·rename_i h
  constructor
  ·intro e; cases e
  ·intro e; exact absurd ⟨t, e⟩ h
def entN (s : List UInt8) : Int × Int × Int := (polOf (preB 47 s), valS (preB 32 (postB 47 s)), valS (postB 32 (postB 47 s)))
def entB (s : List UInt8) (n : Nat) : Bool := numB (preB 32 (postB 47 s)) && numB (postB 32 (postB 47 s)) && (inB (polOf (preB 47 s)) 1 7 && inB (valS (preB 32 (postB 47 s))) 1 6) && inB (valS (postB 32 (postB 47 s))) 0 n
theorem ent_plT {x : Pl} {l : List Int} (h : playB x l = true) (hl : l.length ≤ 60) : entN (plT x) = (x.ca.pol, x.ca.size, x.frm) ∧ entB (plT x) l.length = true := by
 obtain ⟨h1, h2, h3⟩ := play_parts h
 have c := plT_cut h
 have c2 := plT_cut2 x
 have n1 := numB_itoa (v := x.ca.size) (by omega)
 have n2 := numB_itoa (v := x.frm) (by omega)
 unfold entN entB
 rw [c.1, c.2, c2.1, c2.2, polOf_T h2, n1.1, n1.2, n2.1, n2.2, inB_iff.2 h1, inB_iff.2 h2, inB_iff.2 h3]
 exact ⟨rfl, rfl⟩
end Go.Proofs.YtdgcohoneijleaaGreatDoor
