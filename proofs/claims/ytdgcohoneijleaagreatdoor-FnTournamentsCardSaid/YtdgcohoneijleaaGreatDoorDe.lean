import Derived.Test.YtdgcohoneijleaaGreatDoorDd
namespace Go.Proofs.YtdgcohoneijleaaGreatDoor
open Go.RowKit
def okUndo (t : To) : Bool := decide (0 < t.reqs.length) && decide (latT t.ps t.ps.length < (t.reqs.length : Int))
def undoV (t : To) : To := if okUndo t then againT t (t.reqs.take (t.reqs.length - 1)) else zeroT
set_option maxRecDepth 100000 in
set_option maxHeartbeats 4000000 in
theorem undo_any (v : Value) (t : To) (w : World) (h : RT No w v t) (ht : tourB t = true) :
  Calls Tryz.prog 109 #[v] w (Ret2 fun v0 v1 w' => v1 = .bool (okUndo t) ∧ TA w.heap.size w' v0 (undoV t) ∧ Chg No w w') := by
 obtain ⟨hl1, hl2, hl3, hl4⟩ := tour_len ht
 have h0 := h
 have HSV := Lib.hid (Sv.again ht (l := t.reqs.take (t.reqs.length - 1)))
 obtain ⟨it, ps, rq⟩ := t
 obtain ⟨pv, qv, rfl, hps, hrq⟩ := h
 simp only at hps hrq hl1 hl2 hl3 hl4 HSV
 obtain ⟨qa, qc, rfl, _⟩ := id hrq
 obtain ⟨pa, cap, rfl, hcap, hmax, hlen, pf, mf, hl, hcl⟩ := id hps
 obtain ⟨n, hn⟩ : ∃ n, rq.length = n := ⟨_, rfl⟩
 have hn0 : (0 : Int) ≤ (n : Int) := Int.natCast_nonneg _
 have hw1 : IntKind.i64.wrap ((n : Int) - 1) = (n : Int) - 1 := IntWalk.i64_in _ (by omega)
 have hU : okUndo ⟨it, ps, rq⟩ = (decide (0 < n) && decide (latT ps ps.length < (n : Int))) := by rw [← hn]; rfl
 obtain ⟨ok, hok⟩ : ∃ ok, okUndo ⟨it, ps, rq⟩ = ok := ⟨_, rfl⟩
 obtain ⟨tv, htv⟩ : ∃ tv, undoV ⟨it, ps, rq⟩ = tv := ⟨_, rfl⟩
 have hV : tv = if ok then againT ⟨it, ps, rq⟩ (rq.take (n - 1)) else zeroT := by rw [← htv, ← hn, ← hok]; rfl
 rw [hok] at hU ⊢
 rw [htv]
 have HV := Lib.hid hV
 have HN := Lib.hid hn
 clear hV htv
 rw [hn] at h0 hrq hl2 HSV ⊢
 have hW0 : ∀ W, W = ((w.alloc (.cells #[.int .i64 it, .slice pa ps.length cap, .slice qa n qc] 31)).alloc (.cells #[.int .i64 0, .slice none 0 0, .slice none 0 0] 31)).alloc (.cells #[.int .i64 ((n : Int) - 1)] 3) →
   Chg No w W ∧ Box3 W w.heap.size (.int .i64 it) (.slice pa ps.length cap) (.slice qa n qc) ∧ Box3 W (w.heap.size + 1) (.int .i64 0) (.slice none 0 0) (.slice none 0 0) ∧ W.cell? ⟨w.heap.size + 1 + 1, 0, none⟩ = some (.int .i64 ((n : Int) - 1)) := fun W e => by
  subst e
  have f := boxes32 (w := w) (t := 31) (t' := 31) (x0 := .int .i64 it) (x1 := .slice pa ps.length cap) (x2 := .slice qa n qc) (y0 := .int .i64 0) (y1 := .slice none 0 0) (y2 := .slice none 0 0) (R := fun W => Chg No w W ∧ Box3 W w.heap.size (.int .i64 it) (.slice pa ps.length cap) (.slice qa n qc) ∧ Box3 W (w.heap.size + 1) (.int .i64 0) (.slice none 0 0) (.slice none 0 0)) (fun W k b0 b1 => ⟨k, b0, b1⟩)
  have ka := (Chg.refl No ((w.alloc (.cells #[.int .i64 it, .slice pa ps.length cap, .slice qa n qc] 31)).alloc (.cells #[.int .i64 0, .slice none 0 0, .slice none 0 0] 31))).alloc (.cells #[.int .i64 ((n : Int) - 1)] 3)
  refine ⟨f.1.keep ka, f.2.1.keep ka, f.2.2.keep ka, ?_⟩
  have e : w.heap.size + 1 + 1 = ((w.alloc (.cells #[.int .i64 it, .slice pa ps.length cap, .slice qa n qc] 31)).alloc (.cells #[.int .i64 0, .slice none 0 0, .slice none 0 0] 31)).heap.size := by simp
  rw [e, World.cell?_alloc_new]; rfl
 obtain ⟨kk, b0, b2, bi⟩ := hW0 _ rfl
 obtain ⟨c0, c1, c2, _⟩ := id b0
 have HO := Lib.hid hU
 clear hl hcl ht hn hok hU
 by_cases hz : n = 0
 ·have HO : Hid (ok = false) := Lib.hid (by rw [HO.out]; simp [hz])
  have hlt : (n : Int) - 1 < 0 := by omega
  obtain ⟨z0, z1, z2, _⟩ := id b2
  clear hz
  go_enter Tryz.func109, Tryz.ntmps109
  go_wp2_with fail
  exact bodyPost_ret (v := .tuple #[.agg #[.int .i64 0, .slice none 0 0, .slice none 0 0], .bool false]) (by simp [results, Tryz.results109, go_sem, z0, z1, z2]) rfl ⟨_, _, rfl, by rw [HO.out], by rw [HV.out, HO.out]; exact TA.zero _ _, kk⟩
 ·have hlt : ¬ ((n : Int) - 1 < 0) := by omega
  obtain ⟨m, rfl⟩ : ∃ m, n = m + 1 := ⟨n - 1, by omega⟩
  have hm1 : ((m + 1 : Nat) : Int) - 1 = (m : Int) := by omega
  rw [hm1] at hw1 hlt
  rw [hm1] at hW0 kk b0 b2 bi
  rw [hm1] at c0 c1 c2
  have HW0 := Lib.hid hW0
  have HO : Hid (ok = decide (latT ps ps.length < ((m + 1 : Nat) : Int))) := Lib.hid (by rw [HO.out, decide_eq_true (show 0 < m + 1 by omega)]; rfl)
  have hw2 : IntKind.i64.wrap (m : Int) = (m : Int) := IntWalk.i64_in _ (by omega)
  clear hz hm1 hW0
  go_enter Tryz.func109, Tryz.ntmps109
  go_wp2_with fail
  generalize hWW : ((w.alloc _).alloc _).alloc _ = W1
  rw [hWW] at kk b0 b2 bi
  clear c0 c1 c2 hWW HW0
  have hb2 := World.block_lt_of_cell? W1 _ bi
  refine (ContainsFuncP_any _ ps W1 (hps.keep kk) 150 (.pointer (some ⟨w.heap.size + 1 + 1, 0, none⟩)) (fun x => decide ((m : Int) < x.frm)) (fun x w => by kernel_rfl) (fun x pv mv W hk => undo1_any x pv mv (w.heap.size + 1 + 1) (m : Int) W ((hk.cellD _ 0 hb2 (fun e => e)).trans bi))).mono ?_
  rintro e w3 ⟨_, rfl, ⟨bb, rfl, hbb⟩, k3⟩
  have hlat := latT_lt ps ((m + 1 : Nat) : Int) (by omega) ps.length
  replace kk := kk.keep k3
  replace b0 := b0.keep k3
  replace b2 := b2.keep k3
  replace bi := (k3.cellD _ 0 hb2 (fun e => e)).trans bi
  clear k3
  obtain ⟨c0, c1, c2, _⟩ := id b0
  cases bb
  ·have hall : ∀ i, i < ps.length → (ps.getD i dPl).frm < ((m + 1 : Nat) : Int) := fun i hi => by
    by_cases h : (m : Int) < (ps.getD i dPl).frm
    ·have := hbb.2 ⟨i, hi, decide_eq_true h⟩; cases this
    ·omega
   have HO : Hid (ok = true) := Lib.hid (by rw [HO.out]; exact decide_eq_true (hlat.2 hall))
   have HSV := Lib.hid (HSV.out (fun i hi => by have := hall i hi; rw [List.length_take, HN.out]; omega))
   have hrq' : RI No w (.slice qa rq.length qc) rq := by rw [HN.out]; exact hrq
   obtain ⟨x, hx, hrx⟩ := hrq'.upto m (m : Int) rfl (by rw [HN.out]; omega)
   rw [HN.out] at hx
   obtain ⟨xa, xn, xc, rfl⟩ := hrx.shape
   clear hall hlat hbb hrq' hrq
   go_wp2_with fail
   clear c0 c1 c2
   refine wp_region_K (S := fun W => W.cell? ⟨w.heap.size, 0, none⟩ = some (.int .i64 it) ∧ W.cell? ⟨w.heap.size, 1, none⟩ = some (.slice pa ps.length cap) ∧ W.cell? ⟨w.heap.size, 2, none⟩ = some (.slice qa (m + 1) qc) ∧ W.cell? ⟨w.heap.size + 1 + 1, 0, none⟩ = some (.int .i64 (m : Int))) (k := 6) (by kernel_rfl) ?_
   replace kk := kk.keep (drewN0 _)
   replace b0 := b0.keep (drewN0 _)
   replace b2 := b2.keep (drewN0 _)
   replace bi := ((drewN0 w3).cellD _ 0 (World.block_lt_of_cell? w3 _ bi) (fun e => e)).trans bi
   generalize w3.drew = WR at kk b0 b2 bi ⊢
   have hS : WR.cell? ⟨w.heap.size, 0, none⟩ = some (.int .i64 it) ∧ WR.cell? ⟨w.heap.size, 1, none⟩ = some (.slice pa ps.length cap) ∧ WR.cell? ⟨w.heap.size, 2, none⟩ = some (.slice qa (m + 1) qc) ∧ WR.cell? ⟨w.heap.size + 1 + 1, 0, none⟩ = some (.int .i64 (m : Int)) := ⟨b0.c0, b0.c1, b0.c2, bi⟩
   refine wpAnyK_takeT 0 (.agg #[.int .i64 it, .slice pa ps.length cap, .slice qa (m + 1) qc]) rfl (by kernel_rfl) (fun _ _ _ h => h) hS rfl (by intro w hSw; go_simp) ?_
   simp only [zA, zC, zD, zE, zF, zG]
   refine wpAnyK_take0 1 (.pointer (some ⟨w.heap.size, 2, none⟩)) rfl (by kernel_rfl) (fun _ _ _ h => h) hS rfl (by intro w; go_simp) ?_
   simp only [zA, zB, zC, zD, zE, zF, zG]
   refine wpAnyK_takeT 2 (.slice qa (m + 1) qc) rfl (by kernel_rfl) (fun _ _ _ h => h) hS rfl (by intro w hSw; go_simp) ?_
   simp only [zA, zB, zC, zD, zE, zF, zG]
   refine wpAnyK_takeT 3 (.int .i64 (m : Int)) rfl (by kernel_rfl) (fun _ _ _ h => h) hS rfl (by intro w hSw; go_simp) ?_
   simp only [zA, zB, zC, zD, zE, zF, zG]
   refine wpAnyK_take0 4 (.slice xa xn xc) rfl (by kernel_rfl) (fun _ _ _ h => h) hS rfl (by intro w; go_simp) ?_
   simp only [zA, zB, zC, zD, zE, zF, zG]
   refine wpAnyK_1 5 (by kernel_rfl) (wpOpK' rfl rfl ?_)
   intro K hK
   refine ocall (f := 47) (args := #[.agg #[.int .i64 it, .slice pa ps.length cap, .slice qa (m + 1) qc], .slice xa xn xc]) (by go_simp) (again_any _ _ ⟨it, ps, rq⟩ _ WR (h0.keep kk) (hrx.keep kk) HSV.out) (fun v3 w3 h3 => hK.out _ _ ⟨(b0.keep h3.2).c0, (b0.keep h3.2).c1, (b0.keep h3.2).c2, (h3.2.cellD _ 0 (World.block_lt_of_cell? WR _ bi) (fun e => e)).trans bi⟩ ?_)
   obtain ⟨hTA, k3⟩ := h3
   clear hK K hS
   simp only [zA, zB, zC, zD, zE, zF, zG]
   refine wpAnyK_tail 6 rfl (by kernel_rfl) ?_
   simp only [List.drop_succ_cons, List.drop_zero]
   have hs0 := b2.lt
   replace b2 := b2.keep k3
   replace kk := kk.keep k3
   clear b0 bi
   obtain ⟨e0, e1, e2, cf⟩ := id b2
   have cf0 := cf 0
   have cf1 := cf 1
   have cf2 := cf 2
   clear cf
   have hb2l := b2.lt
   obtain ⟨iN, p1, p2, p3, r1, r2, r3, rfl, hTN⟩ := hTA.put3 (b := w.heap.size + 1) (by omega)
   obtain ⟨z0, z1, z2, _⟩ := ((b2.set0 (.int .i64 iN)).set1 (.slice p1 p2 p3)).set2 (.slice r1 r2 r3)
   have HK := Lib.hid (kk.put3 (b := w.heap.size + 1) (fun h => by omega) (.int .i64 iN) (.slice p1 p2 p3) (.slice r1 r2 r3))
   have HTN := Lib.hid (hTN.weak (base' := w.heap.size) (by omega))
   clear hTA hTN kk b2
   go_wp2_with fail
   exact bodyPost_ret (v := .tuple #[.agg #[.int .i64 iN, .slice p1 p2 p3, .slice r1 r2 r3], .bool true]) (by simp [results, Tryz.results109, go_sem, z0, z1, z2]) rfl ⟨_, _, rfl, by rw [HO.out], by rw [HV.out, HO.out]; exact HTN.out, HK.out⟩
  ·have hex : ¬ latT ps ps.length < ((m + 1 : Nat) : Int) := fun h => by
    obtain ⟨j, hj, hp⟩ := hbb.1 rfl
    have := hlat.1 h j hj
    have hp' := of_decide_eq_true hp
    omega
   have HO : Hid (ok = false) := Lib.hid (by rw [HO.out]; exact decide_eq_false hex)
   clear hex hlat hbb
   obtain ⟨e0, e1, e2, cf⟩ := id b2
   have cf0 := cf 0
   have cf1 := cf 1
   have cf2 := cf 2
   clear cf
   have hb2l := b2.lt
   obtain ⟨z0, z1, z2, _⟩ := ((b2.set0 (.int .i64 0)).set1 (.slice none 0 0)).set2 (.slice none 0 0)
   have HK := Lib.hid (kk.put3 (b := w.heap.size + 1) (fun h => by omega) (.int .i64 0) (.slice none 0 0) (.slice none 0 0))
   clear kk b2
   go_wp2_with fail
   exact bodyPost_ret (v := .tuple #[.agg #[.int .i64 0, .slice none 0 0, .slice none 0 0], .bool false]) (by simp [results, Tryz.results109, go_sem, z0, z1, z2]) rfl ⟨_, _, rfl, by rw [HO.out], by rw [HV.out, HO.out]; exact TA.zero _ _, HK.out⟩
end Go.Proofs.YtdgcohoneijleaaGreatDoor
