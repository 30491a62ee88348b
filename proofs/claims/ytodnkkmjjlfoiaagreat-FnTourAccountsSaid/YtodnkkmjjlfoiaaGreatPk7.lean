import Derived.Test.YtodnkkmjjlfoiaaGreatCg
import Derived.Test.YtodnkkmjjlfoiaaGreatPk6
import Derived.Test.YtodnkkmjjlfoiaaGreatPk4
/- one more Player (reference) -/
namespace Go.Proofs.YtodnkkmjjlfoiaaGreat
open Go.RowKit

set_option maxRecDepth 100000 in
set_option maxHeartbeats 4000000 in
theorem l12Join_any (v : Value) (t : To) (p k : Int) (w : World) (h : RT No w v t) (hs : Sv t.ps t.reqs) :
    Calls Tryz.prog 84 #[v, .int .i64 p, .int .i64 k] w (Ret fun r w' => TA w.heap.size w' r (joinT t p k) ∧ Chg No w w') := by
  have h0 := h
  obtain ⟨it, ps, rq⟩ := t
  obtain ⟨pv, qv, rfl, hps, hrq⟩ := h
  simp only at hps hrq hs
  obtain ⟨qa, qc, rfl, _⟩ := id hrq
  obtain ⟨a, cap, rfl, hcap, hmax, hlen, pf, mf, hl, hcl⟩ := id hps
  have HS := Lib.hid hs
  clear hl hcl hs
  have hW0 : ∀ W, W = (w.alloc (.cells #[.int .i64 it, .slice a ps.length cap, .slice qa rq.length qc] 31)).alloc (.cells #[.int .i64 0, .slice none 0 0, .slice none 0 0] 31) → Chg No w W ∧ Box3 W w.heap.size (.int .i64 it) (.slice a ps.length cap) (.slice qa rq.length qc) ∧ Box3 W (w.heap.size + 1) (.int .i64 0) (.slice none 0 0) (.slice none 0 0) := fun W e => by
    subst e
    exact boxes32 (R := fun W => Chg No w W ∧ Box3 W w.heap.size (.int .i64 it) (.slice a ps.length cap) (.slice qa rq.length qc) ∧ Box3 W (w.heap.size + 1) (.int .i64 0) (.slice none 0 0) (.slice none 0 0)) (fun W k b0 b1 => ⟨k, b0, b1⟩)
  have HW0 := Lib.hid hW0
  clear hW0
  go_enter Tryz.func84, Tryz.ntmps84
  go_wp2_with fail
  generalize hWW : (w.alloc _).alloc _ = W1
  obtain ⟨kk, b2, b4⟩ := HW0.out W1 hWW.symm
  clear hWW HW0
  obtain ⟨c0, c1, c2, _⟩ := id b2
  go_wp2_with fail
  refine (l12With_any _ _ ⟨it, ps, rq⟩ rq W1 (h0.keep kk) (hrq.keep kk) HS.out).mono ?_
  rintro e w2 ⟨v2, rfl, ⟨pv2, pg, mg, rv2, rfl, hP, hR, hd⟩, k2⟩
  simp only at hP hR hd ⊢
  obtain ⟨L0, hL0⟩ : ∃ L0, againP ps rq = L0 := ⟨_, rfl⟩
  have HL0 := Lib.hid hL0
  rw [hL0] at hP hd
  clear c0 c1 c2 hL0
  obtain ⟨oa, oc, rfl, _⟩ := hP.os.view
  obtain ⟨ya, yn, yc, rfl⟩ := hR.shape
  obtain ⟨n0, hn0⟩ : ∃ n0, L0.length = n0 := ⟨_, rfl⟩
  have hn4' : n0 ≤ 1048576 := by rw [← hn0, ← HL0.out]; unfold againP; rw [List.length_map]; exact hlen
  have HN0 := Lib.hid hn0
  have hsz1 := b4.lt
  replace kk := kk.keep k2
  replace b2 := b2.keep k2
  replace b4 := b4.keep k2
  obtain ⟨c0, c1, c2, _⟩ := id b2
  rw [hn0] at hP hd ⊢
  go_wp2_with fail
  clear c0 c1 c2
  have b8 := Box3.new w2 (.int .i64 it) (.slice oa n0 oc) (.slice ya yn yc) 31
  have ka := (Chg.refl No w2).alloc (.cells #[.int .i64 it, .slice oa n0 oc, .slice ya yn yc] 31)
  obtain ⟨B8, hB8⟩ : ∃ B8, w2.heap.size = B8 := ⟨_, rfl⟩
  have hB1 : W1.heap.size ≤ B8 := hB8 ▸ k2.size
  have hcl : ∀ q, own (.slice ya yn yc) q → q < B8 := fun q hq => hB8 ▸ (hR.lt q hq).2
  have hfl : ∀ i, i < n0 → ∀ q, (own (pg i) q ∨ own (mg i) q) → q < B8 := fun i hi q hq => hB8 ▸ (hP.inF q (.inr ⟨i, by omega, hq⟩)).2
  have hrl : ∀ q, own (.slice oa n0 oc) q → W1.heap.size ≤ q ∧ q < B8 := fun q hq => hB8 ▸ hP.os.lt q hq
  generalize w2.alloc (.cells #[.int .i64 it, .slice oa n0 oc, .slice ya yn yc] 31) = W3 at b8 ka ⊢
  rw [hB8] at b8 ⊢
  replace kk := kk.keep ka
  replace b2 := b2.keep ka
  replace b4 := b4.keep ka
  replace hP := hP.keep ka
  replace hR := hR.keep ka
  clear ka hB8
  refine wp_region_K (S := fun W => W.cell? ⟨B8, 1, none⟩ = some (.slice oa n0 oc) ∧ W.cell? ⟨w.heap.size, 2, none⟩ = some (.slice qa rq.length qc)) (k := 10) (by kernel_rfl) ?_
  replace kk := kk.keep (drewN0 _)
  replace b2 := b2.keep (drewN0 _)
  replace b4 := b4.keep (drewN0 _)
  replace b8 := b8.keep (drewN0 _)
  replace hP := hP.keep (drewN0 _)
  replace hR := hR.keep (drewN0 _)
  generalize W3.drew = WR at kk b2 b4 b8 hP hR ⊢
  have hS : WR.cell? ⟨B8, 1, none⟩ = some (.slice oa n0 oc) ∧ WR.cell? ⟨w.heap.size, 2, none⟩ = some (.slice qa rq.length qc) := ⟨b8.c1, b2.c2⟩
  refine wpAnyK_take0 0 (.pointer (some ⟨B8, 1, none⟩)) rfl (by kernel_rfl) (fun _ _ _ h => h) hS rfl (by intro w; go_simp) ?_
  simp only [List.getElem_toArray, List.getElem_cons_zero, Act.put, List.setIfInBounds_toArray, List.set_cons_zero, List.set_cons_succ]
  refine wpAnyK_takeT 1 (.slice oa n0 oc) rfl (by kernel_rfl) (fun _ _ _ h => h) hS rfl (by intro w hSw; go_simp) ?_
  simp only [List.getElem_toArray, List.getElem_cons_succ, List.getElem_cons_zero, Act.put, List.setIfInBounds_toArray, List.set_cons_zero, List.set_cons_succ]
  refine wpAnyK_take0 2 (.pointer (some ⟨w.heap.size, 2, none⟩)) rfl (by kernel_rfl) (fun _ _ _ h => h) hS rfl (by intro w; go_simp) ?_
  simp only [List.getElem_toArray, List.getElem_cons_succ, List.getElem_cons_zero, Act.put, List.setIfInBounds_toArray, List.set_cons_zero, List.set_cons_succ]
  refine wpAnyK_takeT 3 (.slice qa rq.length qc) rfl (by kernel_rfl) (fun _ _ _ h => h) hS rfl (by intro w hSw; go_simp) ?_
  simp only [List.getElem_toArray, List.getElem_cons_succ, List.getElem_cons_zero, Act.put, List.setIfInBounds_toArray, List.set_cons_zero, List.set_cons_succ]
  refine wpAnyK_take0 4 (.int .i64 (rq.length : Int)) rfl (by kernel_rfl) (fun _ _ _ h => h) hS rfl (by intro w; go_simp) ?_
  simp only [List.getElem_toArray, List.getElem_cons_succ, List.getElem_cons_zero, Act.put, List.setIfInBounds_toArray, List.set_cons_zero, List.set_cons_succ]
  refine wpAnyK_take0 5 (.int .i64 p) rfl (by kernel_rfl) (fun _ _ _ h => h) hS rfl (by intro w; go_simp) ?_
  simp only [List.getElem_toArray, List.getElem_cons_succ, List.getElem_cons_zero, Act.put, List.setIfInBounds_toArray, List.set_cons_zero, List.set_cons_succ]
  refine wpAnyK_take0 6 (.int .i64 k) rfl (by kernel_rfl) (fun _ _ _ h => h) hS rfl (by intro w; go_simp) ?_
  simp only [List.getElem_toArray, List.getElem_cons_succ, List.getElem_cons_zero, Act.put, List.setIfInBounds_toArray, List.set_cons_zero, List.set_cons_succ]
  refine wpAnyK_1 7 (by kernel_rfl) (wpOpK' rfl rfl ?_)
  intro K hK
  refine ocall (f := 129) (args := #[.int .i64 p, .int .i64 k]) (by go_simp) (l4NewO_any p k WR) (fun v8 w8 h8 => hK.out _ _ ⟨(b8.keep h8.2).c1, (b2.keep h8.2).c2⟩ ?_)
  obtain ⟨⟨x1, x4, rfl, op, om, oap⟩, k8⟩ := h8
  clear hK K hS
  simp only [List.getElem_toArray, List.getElem_cons_succ, List.getElem_cons_zero, Act.put, List.setIfInBounds_toArray, List.set_cons_zero, List.set_cons_succ]
  have hWR : B8 < WR.heap.size := b8.lt
  replace kk := kk.keep k8
  replace b2 := b2.keep k8
  replace b4 := b4.keep k8
  replace b8 := b8.keep k8
  replace hR := hR.keep k8
  have hPos := hP.os.keep k8
  have hS : w8.cell? ⟨B8, 1, none⟩ = some (.slice oa n0 oc) ∧ w8.cell? ⟨w.heap.size, 2, none⟩ = some (.slice qa rq.length qc) := ⟨b8.c1, b2.c2⟩
  refine wpAnyK_take0 8 (.agg #[.int .i64 (rq.length : Int), .int .i64 p, .int .i64 k, .slice (some ⟨x1, 0, none⟩) 0 0, .slice (some ⟨x4, 0, none⟩) 0 0, .int .i64 0, .int .i64 0]) rfl (by kernel_rfl) (fun _ _ _ h => h) hS rfl (by intro w; go_simp) ?_
  simp only [List.getElem_toArray, List.getElem_cons_succ, List.getElem_cons_zero, Act.put, List.setIfInBounds_toArray, List.set_cons_zero, List.set_cons_succ]
  clear hS
  refine wpAnyK_1 9 (by kernel_rfl) (wpOpK' rfl rfl ?_)
  intro K hK
  unfold Oper.wp execOp
  go_simp
  have ka := (Chg.refl No w8).alloc (.cells #[.int .i64 (rq.length : Int), .int .i64 p, .int .i64 k, .slice (some ⟨x1, 0, none⟩) 0 0, .slice (some ⟨x4, 0, none⟩) 0 0, .int .i64 0, .int .i64 0] 69)
  refine hK.out _ _ ⟨(b8.keep ka).c1, (b2.keep ka).c2⟩ ?_
  clear hK K ka
  simp only [List.setIfInBounds_toArray]
  refine wpAnyK_tail 10 rfl (by kernel_rfl) ?_
  simp only [List.drop_succ_cons, List.drop_zero]
  have hs8 := k8.size
  go_wp2_with (at_builtin; refine wappS1 elPlayers (by omega) rfl (.tmp 13) (.tmp 21) rfl hPos rfl (by simp [Value.oneCell']) rfl rfl (by omega) (by omega) ?_)
  intro v' wN oN kN hnN
  rw [← hn0] at oN
  have HPN := Lib.hid (hP.snoc (x := ⟨(rq.length : Int), newC p k, 0⟩) (by omega) k8 op om oap oN kN hnN)
  have HFN : Hid (∀ q, FA v' (L0.length + 1) (fun i => if i = L0.length then .slice (some ⟨x1, 0, none⟩) 0 0 else pg i) (fun i => if i = L0.length then .slice (some ⟨x4, 0, none⟩) 0 0 else mg i) q → q ≠ B8 ∧ ¬ own (.slice ya yn yc) q) := Lib.hid (fun q hq => by
    rcases PA.snocF (b := WR.heap.size) (fun q hq => (op.lt q hq).1) (fun q hq => (om.lt q hq).1) hs8 hnN q hq with h | h
    · rw [hn0] at h
      refine ⟨fun e => ?_, hd q h⟩
      rcases h with h | ⟨i, hi, h⟩
      · have := (hrl q h).2; omega
      · have := hfl i hi q h; omega
    · exact ⟨by omega, fun e => by have := hcl q e; omega⟩)
  replace kk := kk.step kN (fun q hq hl => by have := (hrl q hq).1; omega)
  replace b4 := b4.step kN (fun hq => by have := (hrl _ hq).1; omega)
  replace b8 := b8.step kN (fun hq => by have := (hrl _ hq).2; omega)
  replace hR := hR.step kN (fun q hq hq' => hd q (.inl hq') hq)
  obtain ⟨na, nc, rfl, _⟩ := oN.view
  have hb81 := b8.c1
  have hb8f := b8.fr 1
  have cN : Chg (fun q => q = B8) wN (wN.setCell ⟨B8, 1, none⟩ (.slice na (L0.length + 1) nc)) := (Chg.refl (fun q => q = B8) wN).setCell (p := ⟨B8, 1, none⟩) (fun _ => rfl) _
  obtain ⟨d0, d1, d2, _⟩ := b8.set1 (.slice na (L0.length + 1) nc)
  have hlx : (L0 ++ [(⟨(rq.length : Int), newC p k, 0⟩ : Pl)]).length = L0.length + 1 := by simp
  have HP9 := HPN.out.step cN (fun q hq e => (HFN.out q (by rw [hlx] at hq; exact hq)).1 e)
  replace kk := kk.step cN (fun q hq hl => by omega)
  replace b4 := b4.step cN (by omega)
  replace hR := hR.step cN (fun q hq e => by have := hcl q hq; omega)
  obtain ⟨WS, hWS⟩ : ∃ WS, wN.setCell ⟨B8, 1, none⟩ (.slice na (L0.length + 1) nc) = WS := ⟨_, rfl⟩
  have HWS := Lib.hid hWS
  rw [hWS] at HP9 kk b4 hR d0 d1 d2
  obtain ⟨e0, e1, e2, cf⟩ := id b4
  have cf0 := cf 0
  have cf1 := cf 1
  have cf2 := cf 2
  clear cf
  obtain ⟨z0, z1, z2, _⟩ := ((b4.set0 (.int .i64 it)).set1 (.slice na (L0.length + 1) nc)).set2 (.slice ya yn yc)
  have ch : Chg (fun q => q = w.heap.size + 1) WS (((WS.setCell ⟨w.heap.size + 1, 0, none⟩ (.int .i64 it)).setCell ⟨w.heap.size + 1, 1, none⟩ (.slice na (L0.length + 1) nc)).setCell ⟨w.heap.size + 1, 2, none⟩ (.slice ya yn yc)) :=
    (((Chg.refl (fun q => q = w.heap.size + 1) WS).setCell (p := ⟨w.heap.size + 1, 0, none⟩) (fun _ => rfl) _).setCell (p := ⟨w.heap.size + 1, 1, none⟩) (fun _ => rfl) _).setCell (p := ⟨w.heap.size + 1, 2, none⟩) (fun _ => rfl) _
  have hsz3 : w.heap.size ≤ W1.heap.size := by omega
  have f1 := (HP9.step ch (fun q hq e => by have := (HP9.inF q hq).1; omega)).weak (base' := w.heap.size) hsz3
  have f2 := (hR.step ch (fun q hq e => by have := (hR.lt q hq).1; omega)).weak (base' := w.heap.size) hsz3
  have f3 : ∀ q, FA (.slice na (L0.length + 1) nc) (L0 ++ [(⟨(rq.length : Int), newC p k, 0⟩ : Pl)]).length (fun i => if i = L0.length then .slice (some ⟨x1, 0, none⟩) 0 0 else pg i) (fun i => if i = L0.length then .slice (some ⟨x4, 0, none⟩) 0 0 else mg i) q → ¬ own (.slice ya yn yc) q := fun q hq => (HFN.out q (by rw [hlx] at hq; exact hq)).2
  have hk := kk.step ch (fun q hq hl => by omega)
  have HEND := Lib.hid (And.intro f1 (And.intro f2 (And.intro f3 hk)))
  clear f1 f2 f3 hk HP9 kk ch b2 b4 b8 hR hP hd hfl hrl hcl cN oN kN hnN HPN HFN op om oap k8 hPos hn0 hlx
  go_wp2_with fail
  exact bodyPost_ret (v := .agg #[.int .i64 it, .slice na (L0.length + 1) nc, .slice ya yn yc]) (by simp [results, Tryz.results84, go_sem, z0, z1, z2]) rfl ⟨_, rfl, by
    show TA _ _ _ ⟨it, againP ps rq ++ [(⟨(rq.length : Int), newC p k, 0⟩ : Pl)], rq⟩
    rw [HL0.out]
    exact ⟨_, _, _, _, rfl, HEND.out.1, HEND.out.2.1, HEND.out.2.2.1⟩, HEND.out.2.2.2⟩
end Go.Proofs.YtodnkkmjjlfoiaaGreat

/- an owned Tournament marked -/
namespace Go.Proofs.YtodnkkmjjlfoiaaGreat
open Go.RowKit

theorem TA.lt {base : Nat} {w : World} {v : Value} {t : To} (h : TA base w v t) : ∃ pv rv, v = .agg #[.int .i64 t.items, pv, rv] := by
  obtain ⟨pv, pf, mf, rv, h1, _⟩ := h; exact ⟨_, _, h1⟩
end Go.Proofs.YtodnkkmjjlfoiaaGreat

/- what a valid Tournament says of its Players (plain) -/
namespace Go.Proofs.YtodnkkmjjlfoiaaGreat
open Go.RowKit

theorem runC_app (c : Ca) (l m : List Int) : runC c (l ++ m) = runC (runC c l) m := by unfold runC; rw [List.foldl_append]
theorem tour_pl {t : To} (ht : tourB t = true) {i : Nat} (hi : i < t.ps.length) : playB (t.ps.getD i dPl) t.reqs = true := by
  unfold tourB at ht
  simp only [Bool.and_eq_true, List.all_eq_true] at ht
  refine ht.2.2 _ ?_
  rw [List.getD_eq_getElem?_getD, List.getElem?_eq_getElem hi]
  exact List.getElem_mem hi
theorem tour_at {t : To} (ht : tourB t = true) {i : Nat} (hi : i < t.ps.length) : (0 ≤ (t.ps.getD i dPl).frm ∧ (t.ps.getD i dPl).frm ≤ t.reqs.length) ∧ (1 ≤ (t.ps.getD i dPl).ca.pol ∧ (t.ps.getD i dPl).ca.pol ≤ 7) ∧ (1 ≤ (t.ps.getD i dPl).ca.size ∧ (t.ps.getD i dPl).ca.size ≤ 6) := by
  have h1 := tour_pl ht hi
  unfold playB at h1
  simp only [Bool.and_eq_true, inB_iff] at h1
  exact ⟨h1.1.1, h1.1.2.1, h1.1.2.2⟩
end Go.Proofs.YtodnkkmjjlfoiaaGreat

/- a valid Tournament served again is valid (plain) -/
namespace Go.Proofs.YtodnkkmjjlfoiaaGreat
open Go.RowKit

theorem sv_of {t : To} (ht : tourB t = true) : Sv t.ps t.reqs := fun i hi => by
  obtain ⟨h1, h2, g1⟩ := tour_at ht hi
  exact ⟨h1, ok_new h2 g1⟩
theorem stepP_const (c : Ca) (x : Int) : (stepC c x).pol = c.pol ∧ (stepC c x).size = c.size := by
  unfold stepC hitC faultC clockC
  repeat' split
  all_goals exact ⟨rfl, rfl⟩
theorem runP_const (c : Ca) (l : List Int) : (runC c l).pol = c.pol ∧ (runC c l).size = c.size := by
  induction l generalizing c with
  | nil => exact ⟨rfl, rfl⟩
  | cons x l ih =>
    obtain ⟨h1, h2⟩ := ih (stepC c x)
    obtain ⟨h3, h4⟩ := stepP_const c x
    exact ⟨h1.trans h3, h2.trans h4⟩
theorem sameB_self (c : Ca) : sameB c c = true := by simp [sameB]
theorem wantP_want (x : Pl) (l l' : List Int) : wantP (wantP x l) l' = wantP x l' := by
  unfold wantP servedP
  simp only [(runP_const (newC x.ca.pol x.ca.size) (l.drop x.frm.toNat)).1, (runP_const (newC x.ca.pol x.ca.size) (l.drop x.frm.toNat)).2]
  rfl
theorem play_want {x : Pl} {l : List Int} (h1 : inB x.frm 0 l.length = true) (h2 : inB x.ca.pol 1 7 = true) (h3 : inB x.ca.size 1 6 = true) : playB (wantP x l) l = true := by
  have e := wantP_want x l l
  have hc := runP_const (newC x.ca.pol x.ca.size) (l.drop x.frm.toNat)
  have f1 : (wantP x l).frm = x.frm := rfl
  have f2 : (wantP x l).ca.pol = x.ca.pol := hc.1
  have f3 : (wantP x l).ca.size = x.ca.size := hc.2
  unfold playB
  rw [e, f1, f2, f3, h1, h2, h3, sameB_self]
  simp
/-- a valid Tournament with other good requests is valid -/
theorem tour_again {t : To} {l : List Int} (ht : tourB t = true) (hr : reqB t.items l = true) (hf : ∀ i, i < t.ps.length → (t.ps.getD i dPl).frm ≤ l.length) : tourB ⟨t.items, againP t.ps l, l⟩ = true := by
  have ht' := ht
  unfold tourB at ht ⊢
  simp only [Bool.and_eq_true, decide_eq_true_eq, List.all_eq_true] at ht ⊢
  refine ⟨hr, by unfold againP; rw [List.length_map]; exact ht.2.1, fun y hy => ?_⟩
  obtain ⟨x, hx, rfl⟩ := List.mem_map.1 hy
  obtain ⟨i, hi, rfl⟩ := List.getElem_of_mem hx
  obtain ⟨⟨h1, _⟩, h2, g1⟩ := tour_at ht' hi
  have h4 := hf i hi
  have e : t.ps.getD i dPl = t.ps[i] := by rw [List.getD_eq_getElem?_getD, List.getElem?_eq_getElem hi]; rfl
  rw [e] at h1 h2 g1 h4
  exact play_want (inB_iff.2 ⟨h1, h4⟩) (inB_iff.2 h2) (inB_iff.2 g1)
theorem sameB_eq {a b : Ca} (h : sameB a b = true) : a = b := by
  obtain ⟨a1, a2, a3, a4, a5⟩ := a
  obtain ⟨b1, b2, b3, b4, b5⟩ := b
  simp only [sameB, Bool.and_eq_true, beq_iff_eq] at h
  obtain ⟨rfl, rfl, rfl, rfl, rfl⟩ := h
  rfl
theorem want_self {x : Pl} {l : List Int} (h : playB x l = true) : wantP x l = x := by
  unfold playB at h
  simp only [Bool.and_eq_true, beq_iff_eq] at h
  have h3 := sameB_eq h.2.1
  have h2 := h.2.2
  have h4 : (wantP x l).frm = x.frm := rfl
  have e : ∀ a b : Pl, a.frm = b.frm → a.ca = b.ca → a.fa = b.fa → a = b := fun a b p q r => by
    obtain ⟨a1, a2, a3⟩ := a
    obtain ⟨b1, b2, b3⟩ := b
    simp only at p q r
    subst p; subst q; subst r; rfl
  exact e _ _ h4 h3 h2
/-- a valid Tournament served again is itself -/
theorem again_self {t : To} (ht : tourB t = true) : againP t.ps t.reqs = t.ps := by
  unfold tourB at ht
  simp only [Bool.and_eq_true, decide_eq_true_eq, List.all_eq_true] at ht
  unfold againP
  have : ∀ x ∈ t.ps, wantP x t.reqs = x := fun x hx => want_self (ht.2.2 x hx)
  calc t.ps.map (fun x => wantP x t.reqs) = t.ps.map id := List.map_congr_left this
    _ = t.ps := by simp
end Go.Proofs.YtodnkkmjjlfoiaaGreat

/- the greatest beginning -/
namespace Go.Proofs.YtodnkkmjjlfoiaaGreat
open Go.RowKit

/-- the greatest place from which one of the first j serves -/
def latT (ps : List Pl) : Nat → Int
  | 0 => 0
  | j + 1 => max (latT ps j) (ps.getD j dPl).frm
theorem latT_lt (ps : List Pl) (n : Int) (hn : 0 < n) (j : Nat) : latT ps j < n ↔ ∀ i, i < j → (ps.getD i dPl).frm < n := by
  induction j with
  | zero => simp [latT]; exact hn
  | succ j ih =>
    unfold latT
    rw [Int.max_lt, ih]
    constructor
    · rintro ⟨h1, h2⟩ i hi
      by_cases e : i = j
      · subst e; exact h2
      · exact h1 i (by omega)
    · intro h
      exact ⟨fun i hi => h i (by omega), h j (by omega)⟩
set_option maxRecDepth 100000 in
set_option maxHeartbeats 2000000 in
theorem l12Latest_any (v : Value) (t : To) (w : World) (h : RT No w v t) :
    Calls Tryz.prog 133 #[v] w (Ret fun r w' => r = .int .i64 (latT t.ps t.ps.length) ∧ Chg No w w') := by
  obtain ⟨it, ps, rq⟩ := t
  obtain ⟨pv, rv, rfl, hps, hrq⟩ := h
  simp only at hps hrq ⊢
  obtain ⟨ra, rn, rc, rfl⟩ := hrq.shape
  obtain ⟨a, cap, rfl, hcap, hmax, hlen, pf, mf, hl, hcl⟩ := id hps
  have HC := Lib.hid hcl
  clear hl hcl
  go_enter Tryz.func133, Tryz.ntmps133
  go_wp2_with fail
  refine box31 (R := fun W => Code.wp _ _ _ _ W) (fun W kW b0 => ?_)
  go_loopw [3, 4] (fun s z wr => ∃ j : Nat, j ≤ ps.length ∧ z = .int .i64 (j : Int) ∧ s = .int .i64 (latT ps j) ∧ Chg No w wr ∧ Box3 wr w.heap.size (.int .i64 it) (.slice a ps.length cap) (.slice ra rn rc)) (fun _ z _ => ps.length - (intOf z).toNat)
  case atStart => exact ⟨0, Nat.zero_le _, rfl, rfl, kW, b0⟩
  case round =>
    clear kW b0
    obtain ⟨j, hj, rfl, rfl, kk, b0⟩ := hrel
    have hj0 : (0 : Int) ≤ (j : Int) := Int.natCast_nonneg _
    obtain ⟨c0, c1, c2, _⟩ := id b0
    by_cases hlt : j < ps.length
    · obtain ⟨b, off, rfl, _, hb, hcell⟩ := HC.out (by intro e; simp [e] at hlt)
      have h7 := (hcell j hlt).step kk hb (fun e => e)
      have g0 := h7.c0
      have hj1 : (j : Int) < (ps.length : Int) := by omega
      have hwj : IntKind.i64.wrap ((j : Int) + 1) = (j : Int) + 1 := IntWalk.i64_in _ (by omega)
      obtain ⟨y, hy⟩ : ∃ y, (ps.getD j dPl).frm = y := ⟨_, rfl⟩
      rw [hy] at g0
      have HS : Hid (latT ps (j + 1) = max (latT ps j) y) := Lib.hid (by rw [← hy]; rfl)
      clear h7 hcell hy
      go_wp2_with fail
      refine (l1Most_any _ _ wr).mono ?_
      rintro e w1 ⟨rfl, rfl⟩
      go_wp2_with fail
      go_round
      case measure => simp [intOf]; omega
      case rel => exact ⟨j + 1, by omega, by go_num, by rw [HS.out], kk, b0⟩
    · have hje : j = ps.length := by omega
      subst hje
      go_wp2_with fail
      go_ret
      exact ⟨_, rfl, rfl, kk⟩
end Go.Proofs.YtodnkkmjjlfoiaaGreat

/- a Player looked for by a function -/
namespace Go.Proofs.YtodnkkmjjlfoiaaGreat
open Go.RowKit

end Go.Proofs.YtodnkkmjjlfoiaaGreat
