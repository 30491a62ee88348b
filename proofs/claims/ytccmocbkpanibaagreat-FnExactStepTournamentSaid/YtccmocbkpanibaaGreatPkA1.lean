import Derived.Test.YtccmocbkpanibaaGreatCe
import Derived.Test.YtccmocbkpanibaaGreatTd
import Derived.Test.YtccmocbkpanibaaGreatFr
import Derived.Test.YtccmocbkpanibaaGreatCo
import Derived.Test.YtccmocbkpanibaaGreatH
import Derived.Test.YtccmocbkpanibaaGreatBase
import Derived.Test.YtccmocbkpanibaaGreatK
import Derived.Test.YtccmocbkpanibaaGreatTe
import Derived.Test.YtccmocbkpanibaaGreatCa
/- a Tournament begun again (reference) -/
namespace Go.Proofs.YtccmocbkpanibaaGreat
open Go.RowKit

set_option maxHeartbeats 400000 in
theorem l4NewO_any (p k : Int) (w : World) :
    Calls Tryz.prog 132 #[.int .i64 p, .int .i64 k] w (Ret fun v' w' => (∃ g h, v' = .agg #[.int .i64 p, .int .i64 k, .slice (some ⟨g, 0, none⟩) 0 0, .slice (some ⟨h, 0, none⟩) 0 0, .int .i64 0] ∧ OI w.heap.size w' (.slice (some ⟨g, 0, none⟩) 0 0) [] ∧ OI w.heap.size w' (.slice (some ⟨h, 0, none⟩) 0 0) [] ∧ ∀ q, own (.slice (some ⟨g, 0, none⟩) 0 0) q → ¬ own (.slice (some ⟨h, 0, none⟩) 0 0) q) ∧ Chg No w w') := by
  go_enter Tryz.func132, Tryz.ntmps132
  go_wp2
  refine bodyPost_ret (v := .agg #[.int .i64 p, .int .i64 k, .slice (some ⟨w.heap.size + 1, 0, none⟩) 0 0, .slice (some ⟨w.heap.size + 1 + 1, 0, none⟩) 0 0, .int .i64 0]) (by simp [results, Tryz.results132, go_sem]) rfl ?_
  exact ⟨_, rfl, ⟨_, _, rfl, (OI.zeroAt (by simp) (by omega)).keep ((Chg.refl No _).alloc _), OI.zeroAt (by simp) (by omega), fun q hq e => by have h1 := own_slice.1 hq; have h2 := own_slice.1 e; omega⟩, (((Chg.refl No w).alloc _).alloc _).alloc _⟩
set_option maxRecDepth 100000 in
set_option maxHeartbeats 4000000 in
theorem l12Begun_any (v : Value) (t : To) (w : World) (h : RT No w v t) (hs : ∀ i, i < t.ps.length → Ok (newC (t.ps.getD i dPl).ca.pol (t.ps.getD i dPl).ca.size)) :
    Calls Tryz.prog 88 #[v] w (Ret fun r w' => TA w.heap.size w' r ⟨t.items, clearP t.ps, []⟩ ∧ Chg No w w') := by
  obtain ⟨it, ps, rq⟩ := t
  obtain ⟨pv, qv, rfl, hps, hrq⟩ := h
  simp only at hps hrq hs ⊢
  obtain ⟨qa, qn, qc, rfl⟩ := hrq.shape
  obtain ⟨a, cap, rfl, hcap, hmax, hlen, pf, mf, hl, hcl⟩ := id hps
  have HL := Lib.hid hl
  have HC := Lib.hid hcl
  have HS := Lib.hid hs
  clear hl hcl hs hrq
  have hW0 : ∀ W, W = ((((w.alloc (.cells #[.int .i64 it, .slice a ps.length cap, .slice qa qn qc] 31)).alloc (.cells #[.int .i64 0, .slice none 0 0, .slice none 0 0] 31)).alloc (.cells #[] 72)).alloc (.cells #[] 3)).alloc (.cells #[.int .i64 it, .slice (some ⟨w.heap.size + 1 + 1, 0, none⟩) 0 0, .slice (some ⟨w.heap.size + 1 + 1 + 1, 0, none⟩) 0 0] 31) →
      Chg No w W ∧ Box3 W w.heap.size (.int .i64 it) (.slice a ps.length cap) (.slice qa qn qc) ∧ Box3 W (w.heap.size + 1) (.int .i64 0) (.slice none 0 0) (.slice none 0 0) ∧ OS 72 7 (w.heap.size + 2) W (.slice (some ⟨w.heap.size + 1 + 1, 0, none⟩) 0 0) 0 [] ∧ OI (w.heap.size + 2) W (.slice (some ⟨w.heap.size + 1 + 1 + 1, 0, none⟩) 0 0) [] ∧
      Box3 W (w.heap.size + 1 + 1 + 1 + 1) (.int .i64 it) (.slice (some ⟨w.heap.size + 1 + 1, 0, none⟩) 0 0) (.slice (some ⟨w.heap.size + 1 + 1 + 1, 0, none⟩) 0 0) := fun W e => by
    subst e
    obtain ⟨W2, hW2⟩ : ∃ W2, (w.alloc (.cells #[.int .i64 it, .slice a ps.length cap, .slice qa qn qc] 31)).alloc (.cells #[.int .i64 0, .slice none 0 0, .slice none 0 0] 31) = W2 := ⟨_, rfl⟩
    have hz : W2.heap.size = w.heap.size + 1 + 1 := by rw [← hW2]; simp
    have f0 : Chg No w W2 ∧ Box3 W2 w.heap.size (.int .i64 it) (.slice a ps.length cap) (.slice qa qn qc) ∧ Box3 W2 (w.heap.size + 1) (.int .i64 0) (.slice none 0 0) (.slice none 0 0) := by
      rw [← hW2]; exact boxes32 (R := fun W => Chg No w W ∧ Box3 W w.heap.size (.int .i64 it) (.slice a ps.length cap) (.slice qa qn qc) ∧ Box3 W (w.heap.size + 1) (.int .i64 0) (.slice none 0 0) (.slice none 0 0)) (fun W k b0 b1 => ⟨k, b0, b1⟩)
    rw [hW2]
    have k3 := (((Chg.refl No W2).alloc (.cells #[] 72)).alloc (.cells #[] 3)).alloc (.cells #[.int .i64 it, .slice (some ⟨w.heap.size + 1 + 1, 0, none⟩) 0 0, .slice (some ⟨w.heap.size + 1 + 1 + 1, 0, none⟩) 0 0] 31)
    have g1 := OS.zero (E := 72) (sz := 7) (base := w.heap.size + 2) (w := W2) (by omega)
    rw [hz] at g1
    refine ⟨f0.1.trans (k3.mono (fun _ e _ => e.elim)), f0.2.1.keep k3, f0.2.2.keep k3, g1.keep (((Chg.refl No _).alloc _).alloc _), (OI.zeroAt (by simp [hz]) (by omega)).keep ((Chg.refl No _).alloc _), ?_⟩
    exact (Box3.new ((W2.alloc (.cells #[] 72)).alloc (.cells #[] 3)) _ _ _ 31).at (by simp [hz])
  have HW0 := Lib.hid hW0
  clear hW0
  go_enter Tryz.func88, Tryz.ntmps88
  go_wp2_with fail
  generalize hWW : ((((w.alloc _).alloc _).alloc _).alloc _).alloc _ = W9
  obtain ⟨kk, b2, b4, oG, o1, bN⟩ := HW0.out W9 hWW.symm
  clear hWW HW0
  obtain ⟨B5, hB5⟩ : ∃ B5, w.heap.size + 1 + 1 + 1 + 1 = B5 := ⟨_, rfl⟩
  rw [hB5] at bN ⊢
  obtain ⟨H, hH⟩ : ∃ H, w.heap.size + 1 + 1 + 1 = H := ⟨_, rfl⟩
  rw [hH] at bN o1 ⊢
  obtain ⟨G, hG⟩ : ∃ G, w.heap.size + 1 + 1 = G := ⟨_, rfl⟩
  rw [hG] at bN oG ⊢
  replace oG := oG.weak (base' := w.heap.size + 2) (by omega)
  have hB4 : w.heap.size + 1 < B5 := by omega
  have hGB : G ≠ B5 := by omega
  have hGc : G ≠ H := by omega
  have hHB : H ≠ B5 := by omega
  clear hB5 hH hG
  obtain ⟨base, hbase⟩ : ∃ base, W9.heap.size = base := ⟨_, rfl⟩
  have hB5b : B5 < base := hbase ▸ bN.lt
  have hHb : H < base := hbase ▸ (o1.lt H (own_slice.2 rfl)).2
  have hp0 : PA (w.heap.size + 2) W9 (.slice (some ⟨G, 0, none⟩) 0 0) (clearP (ps.take 0)) pf mf := by
    rw [List.take_zero]; exact PA.nil _ W9 oG pf mf
  have hf0 : ∀ q, FA (.slice (some ⟨G, 0, none⟩) 0 0) (clearP (ps.take 0)).length pf mf q → q ≠ B5 ∧ q ≠ H := fun q hq => by
    rcases hq with hq | ⟨i, hi, _⟩
    · have e := own_slice.1 hq
      subst e; exact ⟨hGB, hGc⟩
    · rw [List.take_zero] at hi; exact absurd hi (Nat.not_lt_zero i)
  go_loopw [4] (fun z wr => ∃ (j : Nat) (ov : Value) (pg mg : Nat → Value), j ≤ ps.length ∧ z = .int .i64 (j : Int) ∧ Chg No w wr ∧ base ≤ wr.heap.size ∧ Box3 wr w.heap.size (.int .i64 it) (.slice a ps.length cap) (.slice qa qn qc) ∧ Box3 wr (w.heap.size + 1) (.int .i64 0) (.slice none 0 0) (.slice none 0 0) ∧
      Box3 wr B5 (.int .i64 it) ov (.slice (some ⟨H, 0, none⟩) 0 0) ∧ PA (w.heap.size + 2) wr ov (clearP (ps.take j)) pg mg ∧ OI (w.heap.size + 2) wr (.slice (some ⟨H, 0, none⟩) 0 0) [] ∧ (∀ q, FA ov (clearP (ps.take j)).length pg mg q → q ≠ B5 ∧ q ≠ H)) (fun z _ => ps.length - (intOf z).toNat)
  case atStart => exact ⟨0, _, _, _, Nat.zero_le _, rfl, kk, by omega, b2, b4, bN, hp0, o1, hf0⟩
  case round =>
    clear kk b2 b4 bN hp0 hbase oG o1 hf0 hGB hGc
    obtain ⟨j, ov, pg, mg, hj, rfl, kk, hbw, b2, b4, b5, hP, o1, hF⟩ := hrel
    have hj0 : (0 : Int) ≤ (j : Int) := Int.natCast_nonneg _
    obtain ⟨c0, c1, c2, _⟩ := id b2
    by_cases hlt : j < ps.length
    · obtain ⟨b, off, rfl, _, hb, hcell⟩ := HC.out (by intro e; simp [e] at hlt)
      have h7 := (hcell j hlt).step kk hb (fun e => e)
      obtain ⟨hpj, hmj⟩ := HL.out j hlt
      have hok := HS.out j hlt
      have hsn := clearP_snoc ps j hlt
      have hlg : (clearP (ps.take j)).length = j := by unfold clearP; rw [List.length_map, List.length_take]; omega
      obtain ⟨y, hy⟩ : ∃ y, ps.getD j dPl = y := ⟨_, rfl⟩
      rw [hy] at h7 hpj hmj hok hsn
      generalize pf j = pj at hpj h7
      generalize mf j = mj at hmj h7
      obtain ⟨ya, yn, yc, rfl⟩ := hpj.shape
      obtain ⟨ua, un, uc, rfl⟩ := hmj.shape
      obtain ⟨R0, hR0⟩ : ∃ R0, clearP (ps.take j) = R0 := ⟨_, rfl⟩
      rw [hR0] at hsn hP hlg hF
      obtain ⟨oa, oc, rfl, _⟩ := hP.os.view
      rw [hlg] at hP b5 hF
      have HF0 := Lib.hid hF
      have HSN := Lib.hid hsn
      have HOK := Lib.hid hok
      have hj1 : (j : Int) < (ps.length : Int) := by omega
      have hwj : IntKind.i64.wrap ((j : Int) + 1) = (j : Int) + 1 := IntWalk.i64_in _ (by omega)
      obtain ⟨g0, g1, g2, g3, g4, g5, g6⟩ := id h7
      clear h7 hcell hy hsn hpj hmj hok hR0 hF
      go_wp2_with fail
      clear g0 g1 g2 g3 g4 g5 g6 c0 c1 c2
      have bp := Box.new wr (.int .i64 y.ca.pol) (.int .i64 y.ca.size) (.slice ya yn yc) (.slice ua un uc) (.int .i64 y.ca.hand) 70
      have kp := (Chg.refl No wr).alloc (.cells #[.int .i64 y.ca.pol, .int .i64 y.ca.size, .slice ya yn yc, .slice ua un uc, .int .i64 y.ca.hand] 70)
      obtain ⟨B7, hB7⟩ : ∃ B7, wr.heap.size = B7 := ⟨_, rfl⟩
      rw [hB7] at bp
      have hB57 : B5 < B7 := hB7 ▸ b5.lt
      have hown : ∀ q, own (.slice oa j oc) q → q < B7 := fun q hq => hB7 ▸ (hP.os.lt q hq).2
      rw [hB7] at hbw
      generalize wr.alloc (.cells #[.int .i64 y.ca.pol, .int .i64 y.ca.size, .slice ya yn yc, .slice ua un uc, .int .i64 y.ca.hand] 70) = W2 at bp kp ⊢
      replace kk := kk.keep kp
      replace b2 := b2.keep kp
      replace b4 := b4.keep kp
      replace b5 := b5.keep kp
      replace hP := hP.keep kp
      replace o1 := o1.keep kp
      rw [hB7]
      clear kp hB7
      refine wp_region_K (S := fun W => W.cell? ⟨B5, 1, none⟩ = some (.slice oa j oc) ∧ W.cell? ⟨B7, 0, none⟩ = some (.int .i64 y.ca.pol) ∧ W.cell? ⟨B7, 1, none⟩ = some (.int .i64 y.ca.size)) (k := 9) (by kernel_rfl) ?_
      replace kk := kk.keep (drewN0 _)
      replace b2 := b2.keep (drewN0 _)
      replace b4 := b4.keep (drewN0 _)
      replace b5 := b5.keep (drewN0 _)
      replace hP := hP.keep (drewN0 _)
      replace o1 := o1.keep (drewN0 _)
      replace bp := bp.keep (drewN0 _)
      generalize W2.drew = WR at kk b2 b4 b5 hP o1 bp ⊢
      have hS : WR.cell? ⟨B5, 1, none⟩ = some (.slice oa j oc) ∧ WR.cell? ⟨B7, 0, none⟩ = some (.int .i64 y.ca.pol) ∧ WR.cell? ⟨B7, 1, none⟩ = some (.int .i64 y.ca.size) := ⟨b5.c1, bp.c0, bp.c1⟩
      refine wpAnyK_take0 0 (.pointer (some ⟨B5, 1, none⟩)) rfl (by kernel_rfl) (fun _ _ _ h => h) hS rfl (by intro w; go_simp) ?_
      simp only [List.getElem_toArray, List.getElem_cons_zero, Act.put, List.setIfInBounds_toArray, List.set_cons_zero, List.set_cons_succ]
      refine wpAnyK_takeT 1 (.slice oa j oc) rfl (by kernel_rfl) (fun _ _ _ h => h) hS rfl (by intro w hSw; go_simp) ?_
      simp only [List.getElem_toArray, List.getElem_cons_succ, List.getElem_cons_zero, Act.put, List.setIfInBounds_toArray, List.set_cons_zero, List.set_cons_succ]
      refine wpAnyK_take0 2 (.pointer (some ⟨B7, 0, none⟩)) rfl (by kernel_rfl) (fun _ _ _ h => h) hS rfl (by intro w; go_simp) ?_
      simp only [List.getElem_toArray, List.getElem_cons_succ, List.getElem_cons_zero, Act.put, List.setIfInBounds_toArray, List.set_cons_zero, List.set_cons_succ]
      refine wpAnyK_takeT 3 (.int .i64 y.ca.pol) rfl (by kernel_rfl) (fun _ _ _ h => h) hS rfl (by intro w hSw; go_simp) ?_
      simp only [List.getElem_toArray, List.getElem_cons_succ, List.getElem_cons_zero, Act.put, List.setIfInBounds_toArray, List.set_cons_zero, List.set_cons_succ]
      refine wpAnyK_take0 4 (.pointer (some ⟨B7, 1, none⟩)) rfl (by kernel_rfl) (fun _ _ _ h => h) hS rfl (by intro w; go_simp) ?_
      simp only [List.getElem_toArray, List.getElem_cons_succ, List.getElem_cons_zero, Act.put, List.setIfInBounds_toArray, List.set_cons_zero, List.set_cons_succ]
      refine wpAnyK_takeT 5 (.int .i64 y.ca.size) rfl (by kernel_rfl) (fun _ _ _ h => h) hS rfl (by intro w hSw; go_simp) ?_
      simp only [List.getElem_toArray, List.getElem_cons_succ, List.getElem_cons_zero, Act.put, List.setIfInBounds_toArray, List.set_cons_zero, List.set_cons_succ]
      refine wpAnyK_1 6 (by kernel_rfl) (wpOpK' rfl rfl ?_)
      intro K hK
      refine ocall (f := 132) (args := #[.int .i64 y.ca.pol, .int .i64 y.ca.size]) (by go_simp) (l4NewO_any y.ca.pol y.ca.size WR) (fun v8 w8 h8 => hK.out _ _ ⟨(b5.keep h8.2).c1, (bp.keep h8.2).c0, (bp.keep h8.2).c1⟩ ?_)
      obtain ⟨⟨x1, x4, rfl, op, om, oap⟩, k8⟩ := h8
      clear hK K hS
      simp only [List.getElem_toArray, List.getElem_cons_succ, List.getElem_cons_zero, Act.put, List.setIfInBounds_toArray, List.set_cons_zero, List.set_cons_succ]
      have hsz := kk.size
      have hszR := b5.lt
      have hWR : base ≤ WR.heap.size := by have := bp.lt; omega
      replace kk := kk.keep k8
      replace b2 := b2.keep k8
      replace b4 := b4.keep k8
      replace b5 := b5.keep k8
      replace bp := bp.keep k8
      replace o1 := o1.keep k8
      have hPos := hP.os.keep k8
      have hsn2 : clearP (ps.take (j + 1)) = R0 ++ [⟨0, newC y.ca.pol y.ca.size, 0⟩] := by rw [HSN.out]; rfl
      have HSN2 := Lib.hid hsn2
      clear hsn2
      have hS : w8.cell? ⟨B5, 1, none⟩ = some (.slice oa j oc) ∧ w8.cell? ⟨B7, 0, none⟩ = some (.int .i64 y.ca.pol) ∧ w8.cell? ⟨B7, 1, none⟩ = some (.int .i64 y.ca.size) := ⟨b5.c1, bp.c0, bp.c1⟩
      refine wpAnyK_take0 7 (.agg #[.int .i64 0, .int .i64 y.ca.pol, .int .i64 y.ca.size, .slice (some ⟨x1, 0, none⟩) 0 0, .slice (some ⟨x4, 0, none⟩) 0 0, .int .i64 0, .int .i64 0]) rfl (by kernel_rfl) (fun _ _ _ h => h) hS rfl (by intro w; go_simp) ?_
      simp only [List.getElem_toArray, List.getElem_cons_succ, List.getElem_cons_zero, Act.put, List.setIfInBounds_toArray, List.set_cons_zero, List.set_cons_succ]
      refine wpAnyK_1 8 (by kernel_rfl) (wpOpK' rfl rfl ?_)
      intro K hK
      unfold Oper.wp execOp
      go_simp
      have ka := (Chg.refl No w8).alloc (.cells #[.int .i64 0, .int .i64 y.ca.pol, .int .i64 y.ca.size, .slice (some ⟨x1, 0, none⟩) 0 0, .slice (some ⟨x4, 0, none⟩) 0 0, .int .i64 0, .int .i64 0] 72)
      refine hK.out _ _ ⟨(b5.keep ka).c1, (bp.keep ka).c0, (bp.keep ka).c1⟩ ?_
      clear hK K ka
      simp only [List.getElem_toArray, List.getElem_cons_succ, List.getElem_cons_zero, Act.put, List.setIfInBounds_toArray, List.set_cons_zero, List.set_cons_succ]
      refine wpAnyK_tail 9 rfl (by kernel_rfl) ?_
      simp only [List.drop_succ_cons, List.drop_zero]
      have hs8 := k8.size
      have hgeq : ∀ q, own (.slice oa j oc) q → w.heap.size + 2 ≤ q ∧ q ≠ B5 ∧ q ≠ H := fun q hq => ⟨(hP.os.lt q hq).1, HF0.out q (.inl hq)⟩
      have hS1 : True := trivial
      go_wp2_with (at_builtin; refine wappS1 elPlayers (by omega) rfl (.tmp 25) (.tmp 32) rfl hPos rfl (by simp [Value.oneCell']) rfl rfl (by omega) (by omega) ?_)
      intro v' wN oN kN hnN
      rw [← hlg] at oN
      have HPN := Lib.hid (hP.snoc (x := ⟨0, newC y.ca.pol y.ca.size, 0⟩) (by omega) k8 op om oap oN kN hnN)
      have hlx : (R0 ++ [(⟨0, newC y.ca.pol y.ca.size, 0⟩ : Pl)]).length = R0.length + 1 := by simp
      have HLX := Lib.hid hlx
      have HFN : Hid (∀ q, FA v' (R0.length + 1) (fun i => if i = R0.length then .slice (some ⟨x1, 0, none⟩) 0 0 else pg i) (fun i => if i = R0.length then .slice (some ⟨x4, 0, none⟩) 0 0 else mg i) q → q ≠ B5 ∧ q ≠ H) := Lib.hid (fun q hq => by
        rcases PA.snocF (b := WR.heap.size) (fun q hq => (op.lt q hq).1) (fun q hq => (om.lt q hq).1) hs8 hnN q hq with h | h
        · exact HF0.out q (by rw [hlg] at h; exact h)
        · omega)
      have HBN := Lib.hid (oN.lt)
      replace kk := kk.step kN (fun q hq hl => by have := (hgeq q hq).1; omega)
      replace b2 := b2.step kN (fun hq => by have := (hgeq _ hq).1; omega)
      replace b4 := b4.step kN (fun hq => by have := (hgeq _ hq).1; omega)
      replace b5 := b5.step kN (fun hq => (hgeq _ hq).2.1 rfl)
      replace o1 := o1.step kN (fun q hq hq' => (hgeq _ hq').2.2 (own_slice.1 hq))
      obtain ⟨na, nc, rfl, _⟩ := oN.view
      have hszN := kN.size
      have cN : Chg (fun q => q = B5) wN (wN.setCell ⟨B5, 1, none⟩ (.slice na (R0.length + 1) nc)) := (Chg.refl (fun q => q = B5) wN).setCell (p := ⟨B5, 1, none⟩) (fun _ => rfl) _
      have HEND := Lib.hid (And.intro (kk.step cN (fun q hq hl => by omega)) (And.intro (b2.step cN (by omega)) (And.intro (b4.step cN (by omega)) (And.intro (b5.set1 (.slice na (R0.length + 1) nc)) (And.intro (HPN.out.step cN (fun q hq e => (HFN.out q (by rw [hlx] at hq; exact hq)).1 e)) (And.intro (o1.step cN (fun q hq e => hHB ((own_slice.1 hq).symm.trans e))) cN.size))))))
      have hb51 := b5.c1
      have hb53 := b5.fr 1
      clear kk b2 b4 b5 hP hPos o1 oN kN hnN HPN cN k8 op om bp hgeq hlg hlx
      go_wp2_with fail
      go_round
      case measure => simp [intOf]; omega
      case rel =>
        obtain ⟨e1, e2, e3, e4, e5, e6, e7⟩ := HEND.out
        exact ⟨j + 1, _, _, _, by omega, by go_num, e1, by omega, e2, e3, e4, by rw [HSN2.out]; exact e5, e6, by rw [HSN2.out, HLX.out]; exact HFN.out⟩
    · have hje : j = ps.length := by omega
      subst hje
      rw [List.take_length] at hP hF
      obtain ⟨oa, oc, rfl, _⟩ := hP.os.view
      obtain ⟨n5, hn5⟩ : ∃ n5, (clearP ps).length = n5 := ⟨_, rfl⟩
      rw [hn5] at hP b5 hF
      clear HL HC HS
      obtain ⟨d0, d1, d2, _⟩ := id b5
      obtain ⟨e0, e1, e2, cf⟩ := id b4
      have cf0 := cf 0
      have cf1 := cf 1
      have cf2 := cf 2
      clear cf
      obtain ⟨z0, z1, z2, _⟩ := ((b4.set0 (.int .i64 it)).set1 (.slice oa n5 oc)).set2 (.slice (some ⟨H, 0, none⟩) 0 0)
      have ch : Chg (fun q => q = w.heap.size + 1) wr (((wr.setCell ⟨w.heap.size + 1, 0, none⟩ (.int .i64 it)).setCell ⟨w.heap.size + 1, 1, none⟩ (.slice oa n5 oc)).setCell ⟨w.heap.size + 1, 2, none⟩ (.slice (some ⟨H, 0, none⟩) 0 0)) :=
        (((Chg.refl (fun q => q = w.heap.size + 1) wr).setCell (p := ⟨w.heap.size + 1, 0, none⟩) (fun _ => rfl) _).setCell (p := ⟨w.heap.size + 1, 1, none⟩) (fun _ => rfl) _).setCell (p := ⟨w.heap.size + 1, 2, none⟩) (fun _ => rfl) _
      have f1 := (hP.step ch (fun q hq e => by have := (hP.inF q hq).1; omega)).weak (base' := w.heap.size) (by omega)
      have hk := kk.step ch (fun q hq hl => by omega)
      have f3 : ∀ q, FA (.slice oa n5 oc) (clearP ps).length pg mg q → ¬ own (.slice (some ⟨H, 0, none⟩) 0 0) q := fun q hq e => (hF q (by rw [hn5] at hq; exact hq)).2 (own_slice.1 e)
      have HEND := Lib.hid (And.intro f1 (And.intro f3 hk))
      have HO := Lib.hid ((o1.step ch (fun q hq e => by have := (o1.lt q hq).1; omega)).weak (base' := w.heap.size) (by omega))
      have HCH := Lib.hid ch
      clear f1 f3 hk hP hF o1 kk ch b2 b4 b5 hn5
      go_wp2_with fail
      exact bodyPost_ret (v := .agg #[.int .i64 it, .slice oa n5 oc, .slice (some ⟨H, 0, none⟩) 0 0]) (by simp [results, Tryz.results88, go_sem, z0, z1, z2]) rfl ⟨_, rfl, ⟨_, _, _, _, rfl, HEND.out.1, HO.out, HEND.out.2.1⟩, HEND.out.2.2⟩
end Go.Proofs.YtccmocbkpanibaaGreat

/- one more Player (program) -/
namespace Go.Proofs.YtccmocbkpanibaaGreat
open Go.RowKit

def okJoin (t : To) (p k : Int) : Bool := inB p 1 7 && (inB k 1 6 && decide (t.ps.length < 4))
def joinT (t : To) (p k : Int) : To := ⟨t.items, againP t.ps t.reqs ++ [servedP (t.reqs.length : Int) p k []], t.reqs⟩
def zeroT : To := ⟨0, [], []⟩
theorem TA.zero (base : Nat) (w : World) : TA base w (.agg #[.int .i64 0, .slice none 0 0, .slice none 0 0]) zeroT :=
  ⟨_, fun _ => undef, fun _ => undef, _, rfl, PA.nil base w (OS.nil _ _ _ _) _ _, OI.nil _ _, fun q _ e => own_none q e⟩
set_option maxRecDepth 100000 in
set_option maxHeartbeats 4000000 in
theorem join_any (v : Value) (t : To) (p k : Int) (w : World) (h : RT No w v t) (hs : Sv t.ps t.reqs) :
    Calls Tryz.prog 96 #[v, .int .i64 p, .int .i64 k] w (Ret2 fun v0 v1 w' => v1 = .bool (okJoin t p k) ∧ TA w.heap.size w' v0 (if okJoin t p k then joinT t p k else zeroT) ∧ Chg No w w') := by
  have h0 := h
  obtain ⟨it, ps, rq⟩ := t
  obtain ⟨pv, qv, rfl, hps, hrq⟩ := h
  simp only at hps hrq hs
  obtain ⟨qa, qc, rfl, _⟩ := id hrq
  obtain ⟨a, cap, rfl, hcap, hmax, hlen, pf, mf, hl, hcl⟩ := id hps
  have HS := Lib.hid hs
  clear hl hcl hs
  have hW0 : ∀ W, W = (w.alloc (.cells #[.int .i64 it, .slice a ps.length cap, .slice qa rq.length qc] 31)).alloc (.cells #[.int .i64 0, .slice none 0 0, .slice none 0 0] 31) → Chg No w W ∧ Box3 W w.heap.size (.int .i64 it) (.slice a ps.length cap) (.slice qa rq.length qc) ∧ Box3 W (w.heap.size + 1) (.int .i64 0) (.slice none 0 0) (.slice none 0 0) := fun W e => by
    subst e
    exact boxes32 (R := fun W => Chg No w W ∧ Box3 W w.heap.size (.int .i64 it) (.slice a ps.length cap) (.slice qa rq.length qc) ∧ Box3 W (w.heap.size + 1) (.int .i64 0) (.slice none 0 0) (.slice none 0 0)) (fun W k b0 b1 => ⟨k, b0, b1⟩)
  have HW0 := Lib.hid hW0
  clear hW0
  have hok : okJoin ⟨it, ps, rq⟩ p k = (inB p 1 7 && (inB k 1 6 && decide (ps.length < 4))) := rfl
  cases hp : inB p 1 7
  · rw [hp, Bool.false_and] at hok
    rw [hok]
    have HP := Lib.hid hp
    clear hp hok
    go_enter Tryz.func96, Tryz.ntmps96
    go_wp2_with fail
    generalize hWW : (w.alloc _).alloc _ = W1
    obtain ⟨kk, b2, b4⟩ := HW0.out W1 hWW.symm
    clear hWW HW0
    refine (isPolicy_any p W1).mono ?_
    rintro e w1 ⟨rfl, rfl⟩
    rw [HP.out]
    obtain ⟨e0, e1, e2, cf⟩ := id b4
    have cf0 := cf 0
    have cf1 := cf 1
    have cf2 := cf 2
    clear cf
    obtain ⟨z0, z1, z2, _⟩ := ((b4.set0 (.int .i64 0)).set1 (.slice none 0 0)).set2 (.slice none 0 0)
    have ch : Chg (fun q => q = w.heap.size + 1) W1 (((W1.setCell ⟨w.heap.size + 1, 0, none⟩ (.int .i64 0)).setCell ⟨w.heap.size + 1, 1, none⟩ (.slice none 0 0)).setCell ⟨w.heap.size + 1, 2, none⟩ (.slice none 0 0)) :=
      (((Chg.refl (fun q => q = w.heap.size + 1) W1).setCell (p := ⟨w.heap.size + 1, 0, none⟩) (fun _ => rfl) _).setCell (p := ⟨w.heap.size + 1, 1, none⟩) (fun _ => rfl) _).setCell (p := ⟨w.heap.size + 1, 2, none⟩) (fun _ => rfl) _
    have hk := Lib.hid (kk.step ch (fun q hq hl => by omega))
    clear kk ch b4
    go_wp2_with fail
    exact bodyPost_ret (v := .tuple #[.agg #[.int .i64 0, .slice none 0 0, .slice none 0 0], .bool false]) (by simp [results, Tryz.results96, go_sem, z0, z1, z2]) rfl ⟨_, _, rfl, rfl, TA.zero _ _, hk.out⟩
  · have HP := Lib.hid hp
    cases hk6 : inB k 1 6
    · rw [hp, hk6, Bool.false_and, Bool.and_false] at hok
      rw [hok]
      have HK6 := Lib.hid hk6
      clear hp hok hk6
      go_enter Tryz.func96, Tryz.ntmps96
      go_wp2_with fail
      generalize hWW : (w.alloc _).alloc _ = W1
      obtain ⟨kk, b2, b4⟩ := HW0.out W1 hWW.symm
      clear hWW HW0
      refine (isPolicy_any p W1).mono ?_
      rintro e w1 ⟨rfl, rfl⟩
      rw [HP.out]
      go_wp2_with fail
      refine (isSize_any k W1).mono ?_
      rintro e w1 ⟨rfl, rfl⟩
      rw [HK6.out]
      obtain ⟨e0, e1, e2, cf⟩ := id b4
      have cf0 := cf 0
      have cf1 := cf 1
      have cf2 := cf 2
      clear cf
      obtain ⟨z0, z1, z2, _⟩ := ((b4.set0 (.int .i64 0)).set1 (.slice none 0 0)).set2 (.slice none 0 0)
      have ch : Chg (fun q => q = w.heap.size + 1) W1 (((W1.setCell ⟨w.heap.size + 1, 0, none⟩ (.int .i64 0)).setCell ⟨w.heap.size + 1, 1, none⟩ (.slice none 0 0)).setCell ⟨w.heap.size + 1, 2, none⟩ (.slice none 0 0)) :=
        (((Chg.refl (fun q => q = w.heap.size + 1) W1).setCell (p := ⟨w.heap.size + 1, 0, none⟩) (fun _ => rfl) _).setCell (p := ⟨w.heap.size + 1, 1, none⟩) (fun _ => rfl) _).setCell (p := ⟨w.heap.size + 1, 2, none⟩) (fun _ => rfl) _
      have hk := Lib.hid (kk.step ch (fun q hq hl => by omega))
      clear kk ch b4
      go_wp2_with fail
      exact bodyPost_ret (v := .tuple #[.agg #[.int .i64 0, .slice none 0 0, .slice none 0 0], .bool false]) (by simp [results, Tryz.results96, go_sem, z0, z1, z2]) rfl ⟨_, _, rfl, rfl, TA.zero _ _, hk.out⟩
    · have HK6 := Lib.hid hk6
      by_cases hl4 : ps.length < 4
      · rw [hp, hk6, decide_eq_true hl4] at hok
        rw [hok]
        have hOk : Ok (newC p k) := ok_new (inB_iff.1 hp) (inB_iff.1 hk6)
        have hn4 : ¬ (4 : Int) ≤ (ps.length : Int) := by omega
        clear hp hok hk6
        go_enter Tryz.func96, Tryz.ntmps96
        go_wp2_with fail
        generalize hWW : (w.alloc _).alloc _ = W1
        obtain ⟨kk, b2, b4⟩ := HW0.out W1 hWW.symm
        clear hWW HW0
        refine (isPolicy_any p W1).mono ?_
        rintro e w1 ⟨rfl, rfl⟩
        rw [HP.out]
        obtain ⟨c0, c1, c2, _⟩ := id b2
        go_wp2_with fail
        refine (isSize_any k W1).mono ?_
        rintro e w1 ⟨rfl, rfl⟩
        rw [HK6.out]
        go_wp2_with fail
        refine (again_any _ _ ⟨it, ps, rq⟩ rq W1 (h0.keep kk) (hrq.keep kk) HS.out).mono ?_
        rintro e w2 ⟨v2, rfl, ⟨pv2, pg, mg, rv2, rfl, hP, hR, hd⟩, k2⟩
        simp only at hP hR hd ⊢
        obtain ⟨L0, hL0⟩ : ∃ L0, againP ps rq = L0 := ⟨_, rfl⟩
        have HL0 := Lib.hid hL0
        rw [hL0] at hP hd
        clear c0 c1 c2 hL0
        obtain ⟨oa, oc, rfl, _⟩ := hP.os.view
        obtain ⟨ya, yn, yc, rfl⟩ := hR.shape
        obtain ⟨n0, hn0⟩ : ∃ n0, L0.length = n0 := ⟨_, rfl⟩
        have hn4' : n0 ≤ 4 := by rw [← hn0, ← HL0.out]; unfold againP; rw [List.length_map]; omega
        have HN0 := Lib.hid hn0
        have hsz1 := b4.lt
        replace kk := kk.keep k2
        replace b2 := b2.keep k2
        replace b4 := b4.keep k2
        obtain ⟨c0, c1, c2, _⟩ := id b2
        rw [hn0] at hP hd ⊢
        go_wp2_with fail
        clear c0 c1 c2
        have b8 := Box3.new w2 (.int .i64 it) (.slice oa n0 oc) (.slice ya yn yc) 31
        have ka := (Chg.refl No w2).alloc (.cells #[.int .i64 it, .slice oa n0 oc, .slice ya yn yc] 31)
        obtain ⟨B8, hB8⟩ : ∃ B8, w2.heap.size = B8 := ⟨_, rfl⟩
        have hB1 : W1.heap.size ≤ B8 := hB8 ▸ k2.size
        have hcl : ∀ q, own (.slice ya yn yc) q → q < B8 := fun q hq => hB8 ▸ (hR.lt q hq).2
        have hfl : ∀ i, i < n0 → ∀ q, (own (pg i) q ∨ own (mg i) q) → q < B8 := fun i hi q hq => hB8 ▸ (hP.inF q (.inr ⟨i, by omega, hq⟩)).2
        have hrl : ∀ q, own (.slice oa n0 oc) q → W1.heap.size ≤ q ∧ q < B8 := fun q hq => hB8 ▸ hP.os.lt q hq
        generalize w2.alloc (.cells #[.int .i64 it, .slice oa n0 oc, .slice ya yn yc] 31) = W3 at b8 ka ⊢
        rw [hB8] at b8 ⊢
        replace kk := kk.keep ka
        replace b2 := b2.keep ka
        replace b4 := b4.keep ka
        replace hP := hP.keep ka
        replace hR := hR.keep ka
        clear ka hB8
        refine wp_region_K (S := fun W => W.cell? ⟨B8, 1, none⟩ = some (.slice oa n0 oc) ∧ W.cell? ⟨w.heap.size, 2, none⟩ = some (.slice qa rq.length qc)) (k := 9) (by kernel_rfl) ?_
        replace kk := kk.keep (drewN0 _)
        replace b2 := b2.keep (drewN0 _)
        replace b4 := b4.keep (drewN0 _)
        replace b8 := b8.keep (drewN0 _)
        replace hP := hP.keep (drewN0 _)
        replace hR := hR.keep (drewN0 _)
        generalize W3.drew = WR at kk b2 b4 b8 hP hR ⊢
        have hS : WR.cell? ⟨B8, 1, none⟩ = some (.slice oa n0 oc) ∧ WR.cell? ⟨w.heap.size, 2, none⟩ = some (.slice qa rq.length qc) := ⟨b8.c1, b2.c2⟩
        refine wpAnyK_take0 0 (.pointer (some ⟨B8, 1, none⟩)) rfl (by kernel_rfl) (fun _ _ _ h => h) hS rfl (by intro w; go_simp) ?_
        simp only [List.getElem_toArray, List.getElem_cons_zero, Act.put, List.setIfInBounds_toArray, List.set_cons_zero, List.set_cons_succ]
        refine wpAnyK_takeT 1 (.slice oa n0 oc) rfl (by kernel_rfl) (fun _ _ _ h => h) hS rfl (by intro w hSw; go_simp) ?_
        simp only [List.getElem_toArray, List.getElem_cons_succ, List.getElem_cons_zero, Act.put, List.setIfInBounds_toArray, List.set_cons_zero, List.set_cons_succ]
        refine wpAnyK_take0 2 (.pointer (some ⟨w.heap.size, 2, none⟩)) rfl (by kernel_rfl) (fun _ _ _ h => h) hS rfl (by intro w; go_simp) ?_
        simp only [List.getElem_toArray, List.getElem_cons_succ, List.getElem_cons_zero, Act.put, List.setIfInBounds_toArray, List.set_cons_zero, List.set_cons_succ]
        refine wpAnyK_takeT 3 (.slice qa rq.length qc) rfl (by kernel_rfl) (fun _ _ _ h => h) hS rfl (by intro w hSw; go_simp) ?_
        simp only [List.getElem_toArray, List.getElem_cons_succ, List.getElem_cons_zero, Act.put, List.setIfInBounds_toArray, List.set_cons_zero, List.set_cons_succ]
        refine wpAnyK_take0 4 (.int .i64 (rq.length : Int)) rfl (by kernel_rfl) (fun _ _ _ h => h) hS rfl (by intro w; go_simp) ?_
        simp only [List.getElem_toArray, List.getElem_cons_succ, List.getElem_cons_zero, Act.put, List.setIfInBounds_toArray, List.set_cons_zero, List.set_cons_succ]
        refine wpAnyK_take0 5 (.int .i64 p) rfl (by kernel_rfl) (fun _ _ _ h => h) hS rfl (by intro w; go_simp) ?_
        simp only [List.getElem_toArray, List.getElem_cons_succ, List.getElem_cons_zero, Act.put, List.setIfInBounds_toArray, List.set_cons_zero, List.set_cons_succ]
        refine wpAnyK_take0 6 (.int .i64 k) rfl (by kernel_rfl) (fun _ _ _ h => h) hS rfl (by intro w; go_simp) ?_
        simp only [List.getElem_toArray, List.getElem_cons_succ, List.getElem_cons_zero, Act.put, List.setIfInBounds_toArray, List.set_cons_zero, List.set_cons_succ]
        refine wpAnyK_1 7 (by kernel_rfl) (wpOpK' rfl rfl ?_)
        intro K hK
        refine ocall (f := 94) (args := #[.int .i64 (rq.length : Int), .int .i64 p, .int .i64 k, .slice none 0 0]) (by go_simp) (playerOf_any (rq.length : Int) p k _ [] WR (RI.nil No WR) hOk) (fun v8 w8 h8 => hK.out _ _ ⟨(b8.keep h8.2).c1, (b2.keep h8.2).c2⟩ ?_)
        obtain ⟨⟨pv, mv, rfl, op, om, oap⟩, k8⟩ := h8
        clear hK K hS
        simp only [List.getElem_toArray, List.getElem_cons_succ, List.getElem_cons_zero, Act.put, List.setIfInBounds_toArray, List.set_cons_zero, List.set_cons_succ]
        have hWR : B8 < WR.heap.size := b8.lt
        replace kk := kk.keep k8
        replace b2 := b2.keep k8
        replace b4 := b4.keep k8
        replace b8 := b8.keep k8
        replace hR := hR.keep k8
        have hPos := hP.os.keep k8
        obtain ⟨x1, x2, x3, rfl⟩ := op.shape
        obtain ⟨x4, x5, x6, rfl⟩ := om.shape
        obtain ⟨X, hX⟩ : ∃ X, servedP (rq.length : Int) p k [] = X := ⟨_, rfl⟩
        rw [hX] at op om ⊢
        have HX := Lib.hid hX
        clear hX
        refine wpAnyK_1 8 (by kernel_rfl) (wpOpK' rfl rfl ?_)
        intro K hK
        unfold Oper.wp execOp
        go_simp
        have ka := (Chg.refl No w8).alloc (.cells #[.int .i64 X.frm, .int .i64 X.ca.pol, .int .i64 X.ca.size, .slice x1 x2 x3, .slice x4 x5 x6, .int .i64 X.ca.hand, .int .i64 X.fa] 72)
        refine hK.out _ _ ⟨(b8.keep ka).c1, (b2.keep ka).c2⟩ ?_
        clear hK K ka
        simp only [List.getElem_toArray, List.getElem_cons_succ, List.getElem_cons_zero, Act.put, List.setIfInBounds_toArray, List.set_cons_zero, List.set_cons_succ]
        refine wpAnyK_tail 9 rfl (by kernel_rfl) ?_
        simp only [List.drop_succ_cons, List.drop_zero]
        have hs8 := k8.size
        go_wp2_with (at_builtin; refine wappS1 elPlayers (by omega) rfl (.tmp 29) (.tmp 36) rfl hPos rfl (by simp [Value.oneCell']) rfl rfl (by omega) (by omega) ?_)
        intro v' wN oN kN hnN
        rw [← hn0] at oN
        have HPN := Lib.hid (hP.snoc (by omega) k8 op om oap oN kN hnN)
        have HFN : Hid (∀ q, FA v' (L0.length + 1) (fun i => if i = L0.length then .slice x1 x2 x3 else pg i) (fun i => if i = L0.length then .slice x4 x5 x6 else mg i) q → q ≠ B8 ∧ ¬ own (.slice ya yn yc) q) := Lib.hid (fun q hq => by
          rcases PA.snocF (b := WR.heap.size) (fun q hq => (op.lt q hq).1) (fun q hq => (om.lt q hq).1) hs8 hnN q hq with h | h
          · rw [hn0] at h
            refine ⟨fun e => ?_, hd q h⟩
            rcases h with h | ⟨i, hi, h⟩
            · have := (hrl q h).2; omega
            · have := hfl i hi q h; omega
          · exact ⟨by omega, fun e => by have := hcl q e; omega⟩)
        replace kk := kk.step kN (fun q hq hl => by have := (hrl q hq).1; omega)
        replace b4 := b4.step kN (fun hq => by have := (hrl _ hq).1; omega)
        replace b8 := b8.step kN (fun hq => by have := (hrl _ hq).2; omega)
        replace hR := hR.step kN (fun q hq hq' => hd q (.inl hq') hq)
        obtain ⟨na, nc, rfl, _⟩ := oN.view
        have hb81 := b8.c1
        have hb8f := b8.fr 1
        have cN : Chg (fun q => q = B8) wN (wN.setCell ⟨B8, 1, none⟩ (.slice na (L0.length + 1) nc)) := (Chg.refl (fun q => q = B8) wN).setCell (p := ⟨B8, 1, none⟩) (fun _ => rfl) _
        obtain ⟨d0, d1, d2, _⟩ := b8.set1 (.slice na (L0.length + 1) nc)
        have hlx : (L0 ++ [X]).length = L0.length + 1 := by simp
        have HP9 := HPN.out.step cN (fun q hq e => (HFN.out q (by rw [hlx] at hq; exact hq)).1 e)
        replace kk := kk.step cN (fun q hq hl => by omega)
        replace b4 := b4.step cN (by omega)
        replace hR := hR.step cN (fun q hq e => by have := hcl q hq; omega)
        obtain ⟨WS, hWS⟩ : ∃ WS, wN.setCell ⟨B8, 1, none⟩ (.slice na (L0.length + 1) nc) = WS := ⟨_, rfl⟩
        have HWS := Lib.hid hWS
        rw [hWS] at HP9 kk b4 hR d0 d1 d2
        obtain ⟨e0, e1, e2, cf⟩ := id b4
        have cf0 := cf 0
        have cf1 := cf 1
        have cf2 := cf 2
        clear cf
        obtain ⟨z0, z1, z2, _⟩ := ((b4.set0 (.int .i64 it)).set1 (.slice na (L0.length + 1) nc)).set2 (.slice ya yn yc)
        have ch : Chg (fun q => q = w.heap.size + 1) WS (((WS.setCell ⟨w.heap.size + 1, 0, none⟩ (.int .i64 it)).setCell ⟨w.heap.size + 1, 1, none⟩ (.slice na (L0.length + 1) nc)).setCell ⟨w.heap.size + 1, 2, none⟩ (.slice ya yn yc)) :=
          (((Chg.refl (fun q => q = w.heap.size + 1) WS).setCell (p := ⟨w.heap.size + 1, 0, none⟩) (fun _ => rfl) _).setCell (p := ⟨w.heap.size + 1, 1, none⟩) (fun _ => rfl) _).setCell (p := ⟨w.heap.size + 1, 2, none⟩) (fun _ => rfl) _
        have hsz3 : w.heap.size ≤ W1.heap.size := by omega
        have f1 := (HP9.step ch (fun q hq e => by have := (HP9.inF q hq).1; omega)).weak (base' := w.heap.size) hsz3
        have f2 := (hR.step ch (fun q hq e => by have := (hR.lt q hq).1; omega)).weak (base' := w.heap.size) hsz3
        have f3 : ∀ q, FA (.slice na (L0.length + 1) nc) (L0 ++ [X]).length (fun i => if i = L0.length then .slice x1 x2 x3 else pg i) (fun i => if i = L0.length then .slice x4 x5 x6 else mg i) q → ¬ own (.slice ya yn yc) q := fun q hq => (HFN.out q (by rw [hlx] at hq; exact hq)).2
        have hk := kk.step ch (fun q hq hl => by omega)
        have HEND := Lib.hid (And.intro f1 (And.intro f2 (And.intro f3 hk)))
        clear f1 f2 f3 hk HP9 kk ch b2 b4 b8 hR hP hd hfl hrl hcl cN oN kN hnN HPN HFN op om oap k8 hPos hn0 hlx
        go_wp2_with fail
        exact bodyPost_ret (v := .tuple #[.agg #[.int .i64 it, .slice na (L0.length + 1) nc, .slice ya yn yc], .bool true]) (by simp [results, Tryz.results96, go_sem, z0, z1, z2]) rfl ⟨_, _, rfl, rfl, by
          show TA _ _ _ ⟨it, againP ps rq ++ [servedP (rq.length : Int) p k []], rq⟩
          rw [HL0.out, HX.out]
          exact ⟨_, _, _, _, rfl, HEND.out.1, HEND.out.2.1, HEND.out.2.2.1⟩, HEND.out.2.2.2⟩
      · rw [hp, hk6, decide_eq_false hl4] at hok
        rw [hok]
        have hn4 : (4 : Int) ≤ (ps.length : Int) := by omega
        clear hp hok hk6
        go_enter Tryz.func96, Tryz.ntmps96
        go_wp2_with fail
        generalize hWW : (w.alloc _).alloc _ = W1
        obtain ⟨kk, b2, b4⟩ := HW0.out W1 hWW.symm
        clear hWW HW0
        refine (isPolicy_any p W1).mono ?_
        rintro e w1 ⟨rfl, rfl⟩
        rw [HP.out]
        obtain ⟨c0, c1, c2, _⟩ := id b2
        go_wp2_with fail
        refine (isSize_any k W1).mono ?_
        rintro e w1 ⟨rfl, rfl⟩
        rw [HK6.out]
        obtain ⟨e0, e1, e2, cf⟩ := id b4
        have cf0 := cf 0
        have cf1 := cf 1
        have cf2 := cf 2
        clear cf
        obtain ⟨z0, z1, z2, _⟩ := ((b4.set0 (.int .i64 0)).set1 (.slice none 0 0)).set2 (.slice none 0 0)
        have ch : Chg (fun q => q = w.heap.size + 1) W1 (((W1.setCell ⟨w.heap.size + 1, 0, none⟩ (.int .i64 0)).setCell ⟨w.heap.size + 1, 1, none⟩ (.slice none 0 0)).setCell ⟨w.heap.size + 1, 2, none⟩ (.slice none 0 0)) :=
          (((Chg.refl (fun q => q = w.heap.size + 1) W1).setCell (p := ⟨w.heap.size + 1, 0, none⟩) (fun _ => rfl) _).setCell (p := ⟨w.heap.size + 1, 1, none⟩) (fun _ => rfl) _).setCell (p := ⟨w.heap.size + 1, 2, none⟩) (fun _ => rfl) _
        have hk := Lib.hid (kk.step ch (fun q hq hl => by omega))
        clear kk ch b4
        go_wp2_with fail
        exact bodyPost_ret (v := .tuple #[.agg #[.int .i64 0, .slice none 0 0, .slice none 0 0], .bool false]) (by simp [results, Tryz.results96, go_sem, z0, z1, z2]) rfl ⟨_, _, rfl, rfl, TA.zero _ _, hk.out⟩
end Go.Proofs.YtccmocbkpanibaaGreat

/- one more Player (reference) -/
namespace Go.Proofs.YtccmocbkpanibaaGreat
open Go.RowKit

set_option maxRecDepth 100000 in
set_option maxHeartbeats 4000000 in
theorem l12Join_any (v : Value) (t : To) (p k : Int) (w : World) (h : RT No w v t) (hs : Sv t.ps t.reqs) :
    Calls Tryz.prog 84 #[v, .int .i64 p, .int .i64 k] w (Ret fun r w' => TA w.heap.size w' r (joinT t p k) ∧ Chg No w w') := by
  have h0 := h
  obtain ⟨it, ps, rq⟩ := t
  obtain ⟨pv, qv, rfl, hps, hrq⟩ := h
  simp only at hps hrq hs
  obtain ⟨qa, qc, rfl, _⟩ := id hrq
  obtain ⟨a, cap, rfl, hcap, hmax, hlen, pf, mf, hl, hcl⟩ := id hps
  have HS := Lib.hid hs
  clear hl hcl hs
  have hW0 : ∀ W, W = (w.alloc (.cells #[.int .i64 it, .slice a ps.length cap, .slice qa rq.length qc] 31)).alloc (.cells #[.int .i64 0, .slice none 0 0, .slice none 0 0] 31) → Chg No w W ∧ Box3 W w.heap.size (.int .i64 it) (.slice a ps.length cap) (.slice qa rq.length qc) ∧ Box3 W (w.heap.size + 1) (.int .i64 0) (.slice none 0 0) (.slice none 0 0) := fun W e => by
    subst e
    exact boxes32 (R := fun W => Chg No w W ∧ Box3 W w.heap.size (.int .i64 it) (.slice a ps.length cap) (.slice qa rq.length qc) ∧ Box3 W (w.heap.size + 1) (.int .i64 0) (.slice none 0 0) (.slice none 0 0)) (fun W k b0 b1 => ⟨k, b0, b1⟩)
  have HW0 := Lib.hid hW0
  clear hW0
  go_enter Tryz.func84, Tryz.ntmps84
  go_wp2_with fail
  generalize hWW : (w.alloc _).alloc _ = W1
  obtain ⟨kk, b2, b4⟩ := HW0.out W1 hWW.symm
  clear hWW HW0
  obtain ⟨c0, c1, c2, _⟩ := id b2
  go_wp2_with fail
  refine (l12With_any _ _ ⟨it, ps, rq⟩ rq W1 (h0.keep kk) (hrq.keep kk) HS.out).mono ?_
  rintro e w2 ⟨v2, rfl, ⟨pv2, pg, mg, rv2, rfl, hP, hR, hd⟩, k2⟩
  simp only at hP hR hd ⊢
  obtain ⟨L0, hL0⟩ : ∃ L0, againP ps rq = L0 := ⟨_, rfl⟩
  have HL0 := Lib.hid hL0
  rw [hL0] at hP hd
  clear c0 c1 c2 hL0
  obtain ⟨oa, oc, rfl, _⟩ := hP.os.view
  obtain ⟨ya, yn, yc, rfl⟩ := hR.shape
  obtain ⟨n0, hn0⟩ : ∃ n0, L0.length = n0 := ⟨_, rfl⟩
  have hn4' : n0 ≤ 1048576 := by rw [← hn0, ← HL0.out]; unfold againP; rw [List.length_map]; exact hlen
  have HN0 := Lib.hid hn0
  have hsz1 := b4.lt
  replace kk := kk.keep k2
  replace b2 := b2.keep k2
  replace b4 := b4.keep k2
  obtain ⟨c0, c1, c2, _⟩ := id b2
  rw [hn0] at hP hd ⊢
  go_wp2_with fail
  clear c0 c1 c2
  have b8 := Box3.new w2 (.int .i64 it) (.slice oa n0 oc) (.slice ya yn yc) 31
  have ka := (Chg.refl No w2).alloc (.cells #[.int .i64 it, .slice oa n0 oc, .slice ya yn yc] 31)
  obtain ⟨B8, hB8⟩ : ∃ B8, w2.heap.size = B8 := ⟨_, rfl⟩
  have hB1 : W1.heap.size ≤ B8 := hB8 ▸ k2.size
  have hcl : ∀ q, own (.slice ya yn yc) q → q < B8 := fun q hq => hB8 ▸ (hR.lt q hq).2
  have hfl : ∀ i, i < n0 → ∀ q, (own (pg i) q ∨ own (mg i) q) → q < B8 := fun i hi q hq => hB8 ▸ (hP.inF q (.inr ⟨i, by omega, hq⟩)).2
  have hrl : ∀ q, own (.slice oa n0 oc) q → W1.heap.size ≤ q ∧ q < B8 := fun q hq => hB8 ▸ hP.os.lt q hq
  generalize w2.alloc (.cells #[.int .i64 it, .slice oa n0 oc, .slice ya yn yc] 31) = W3 at b8 ka ⊢
  rw [hB8] at b8 ⊢
  replace kk := kk.keep ka
  replace b2 := b2.keep ka
  replace b4 := b4.keep ka
  replace hP := hP.keep ka
  replace hR := hR.keep ka
  clear ka hB8
  refine wp_region_K (S := fun W => W.cell? ⟨B8, 1, none⟩ = some (.slice oa n0 oc) ∧ W.cell? ⟨w.heap.size, 2, none⟩ = some (.slice qa rq.length qc)) (k := 10) (by kernel_rfl) ?_
  replace kk := kk.keep (drewN0 _)
  replace b2 := b2.keep (drewN0 _)
  replace b4 := b4.keep (drewN0 _)
  replace b8 := b8.keep (drewN0 _)
  replace hP := hP.keep (drewN0 _)
  replace hR := hR.keep (drewN0 _)
  generalize W3.drew = WR at kk b2 b4 b8 hP hR ⊢
  have hS : WR.cell? ⟨B8, 1, none⟩ = some (.slice oa n0 oc) ∧ WR.cell? ⟨w.heap.size, 2, none⟩ = some (.slice qa rq.length qc) := ⟨b8.c1, b2.c2⟩
  refine wpAnyK_take0 0 (.pointer (some ⟨B8, 1, none⟩)) rfl (by kernel_rfl) (fun _ _ _ h => h) hS rfl (by intro w; go_simp) ?_
  simp only [List.getElem_toArray, List.getElem_cons_zero, Act.put, List.setIfInBounds_toArray, List.set_cons_zero, List.set_cons_succ]
  refine wpAnyK_takeT 1 (.slice oa n0 oc) rfl (by kernel_rfl) (fun _ _ _ h => h) hS rfl (by intro w hSw; go_simp) ?_
  simp only [List.getElem_toArray, List.getElem_cons_succ, List.getElem_cons_zero, Act.put, List.setIfInBounds_toArray, List.set_cons_zero, List.set_cons_succ]
  refine wpAnyK_take0 2 (.pointer (some ⟨w.heap.size, 2, none⟩)) rfl (by kernel_rfl) (fun _ _ _ h => h) hS rfl (by intro w; go_simp) ?_
  simp only [List.getElem_toArray, List.getElem_cons_succ, List.getElem_cons_zero, Act.put, List.setIfInBounds_toArray, List.set_cons_zero, List.set_cons_succ]
  refine wpAnyK_takeT 3 (.slice qa rq.length qc) rfl (by kernel_rfl) (fun _ _ _ h => h) hS rfl (by intro w hSw; go_simp) ?_
  simp only [List.getElem_toArray, List.getElem_cons_succ, List.getElem_cons_zero, Act.put, List.setIfInBounds_toArray, List.set_cons_zero, List.set_cons_succ]
  refine wpAnyK_take0 4 (.int .i64 (rq.length : Int)) rfl (by kernel_rfl) (fun _ _ _ h => h) hS rfl (by intro w; go_simp) ?_
  simp only [List.getElem_toArray, List.getElem_cons_succ, List.getElem_cons_zero, Act.put, List.setIfInBounds_toArray, List.set_cons_zero, List.set_cons_succ]
  refine wpAnyK_take0 5 (.int .i64 p) rfl (by kernel_rfl) (fun _ _ _ h => h) hS rfl (by intro w; go_simp) ?_
  simp only [List.getElem_toArray, List.getElem_cons_succ, List.getElem_cons_zero, Act.put, List.setIfInBounds_toArray, List.set_cons_zero, List.set_cons_succ]
  refine wpAnyK_take0 6 (.int .i64 k) rfl (by kernel_rfl) (fun _ _ _ h => h) hS rfl (by intro w; go_simp) ?_
  simp only [List.getElem_toArray, List.getElem_cons_succ, List.getElem_cons_zero, Act.put, List.setIfInBounds_toArray, List.set_cons_zero, List.set_cons_succ]
  refine wpAnyK_1 7 (by kernel_rfl) (wpOpK' rfl rfl ?_)
  intro K hK
  refine ocall (f := 132) (args := #[.int .i64 p, .int .i64 k]) (by go_simp) (l4NewO_any p k WR) (fun v8 w8 h8 => hK.out _ _ ⟨(b8.keep h8.2).c1, (b2.keep h8.2).c2⟩ ?_)
  obtain ⟨⟨x1, x4, rfl, op, om, oap⟩, k8⟩ := h8
  clear hK K hS
  simp only [List.getElem_toArray, List.getElem_cons_succ, List.getElem_cons_zero, Act.put, List.setIfInBounds_toArray, List.set_cons_zero, List.set_cons_succ]
  have hWR : B8 < WR.heap.size := b8.lt
  replace kk := kk.keep k8
  replace b2 := b2.keep k8
  replace b4 := b4.keep k8
  replace b8 := b8.keep k8
  replace hR := hR.keep k8
  have hPos := hP.os.keep k8
  have hS : w8.cell? ⟨B8, 1, none⟩ = some (.slice oa n0 oc) ∧ w8.cell? ⟨w.heap.size, 2, none⟩ = some (.slice qa rq.length qc) := ⟨b8.c1, b2.c2⟩
  refine wpAnyK_take0 8 (.agg #[.int .i64 (rq.length : Int), .int .i64 p, .int .i64 k, .slice (some ⟨x1, 0, none⟩) 0 0, .slice (some ⟨x4, 0, none⟩) 0 0, .int .i64 0, .int .i64 0]) rfl (by kernel_rfl) (fun _ _ _ h => h) hS rfl (by intro w; go_simp) ?_
  simp only [List.getElem_toArray, List.getElem_cons_succ, List.getElem_cons_zero, Act.put, List.setIfInBounds_toArray, List.set_cons_zero, List.set_cons_succ]
  clear hS
  refine wpAnyK_1 9 (by kernel_rfl) (wpOpK' rfl rfl ?_)
  intro K hK
  unfold Oper.wp execOp
  go_simp
  have ka := (Chg.refl No w8).alloc (.cells #[.int .i64 (rq.length : Int), .int .i64 p, .int .i64 k, .slice (some ⟨x1, 0, none⟩) 0 0, .slice (some ⟨x4, 0, none⟩) 0 0, .int .i64 0, .int .i64 0] 72)
  refine hK.out _ _ ⟨(b8.keep ka).c1, (b2.keep ka).c2⟩ ?_
  clear hK K ka
  simp only [List.getElem_toArray, List.getElem_cons_succ, List.getElem_cons_zero, Act.put, List.setIfInBounds_toArray, List.set_cons_zero, List.set_cons_succ]
  refine wpAnyK_tail 10 rfl (by kernel_rfl) ?_
  simp only [List.drop_succ_cons, List.drop_zero]
  have hs8 := k8.size
  go_wp2_with (at_builtin; refine wappS1 elPlayers (by omega) rfl (.tmp 13) (.tmp 21) rfl hPos rfl (by simp [Value.oneCell']) rfl rfl (by omega) (by omega) ?_)
  intro v' wN oN kN hnN
  rw [← hn0] at oN
  have HPN := Lib.hid (hP.snoc (x := ⟨(rq.length : Int), newC p k, 0⟩) (by omega) k8 op om oap oN kN hnN)
  have HFN : Hid (∀ q, FA v' (L0.length + 1) (fun i => if i = L0.length then .slice (some ⟨x1, 0, none⟩) 0 0 else pg i) (fun i => if i = L0.length then .slice (some ⟨x4, 0, none⟩) 0 0 else mg i) q → q ≠ B8 ∧ ¬ own (.slice ya yn yc) q) := Lib.hid (fun q hq => by
    rcases PA.snocF (b := WR.heap.size) (fun q hq => (op.lt q hq).1) (fun q hq => (om.lt q hq).1) hs8 hnN q hq with h | h
    · rw [hn0] at h
      refine ⟨fun e => ?_, hd q h⟩
      rcases h with h | ⟨i, hi, h⟩
      · have := (hrl q h).2; omega
      · have := hfl i hi q h; omega
    · exact ⟨by omega, fun e => by have := hcl q e; omega⟩)
  replace kk := kk.step kN (fun q hq hl => by have := (hrl q hq).1; omega)
  replace b4 := b4.step kN (fun hq => by have := (hrl _ hq).1; omega)
  replace b8 := b8.step kN (fun hq => by have := (hrl _ hq).2; omega)
  replace hR := hR.step kN (fun q hq hq' => hd q (.inl hq') hq)
  obtain ⟨na, nc, rfl, _⟩ := oN.view
  have hb81 := b8.c1
  have hb8f := b8.fr 1
  have cN : Chg (fun q => q = B8) wN (wN.setCell ⟨B8, 1, none⟩ (.slice na (L0.length + 1) nc)) := (Chg.refl (fun q => q = B8) wN).setCell (p := ⟨B8, 1, none⟩) (fun _ => rfl) _
  obtain ⟨d0, d1, d2, _⟩ := b8.set1 (.slice na (L0.length + 1) nc)
  have hlx : (L0 ++ [(⟨(rq.length : Int), newC p k, 0⟩ : Pl)]).length = L0.length + 1 := by simp
  have HP9 := HPN.out.step cN (fun q hq e => (HFN.out q (by rw [hlx] at hq; exact hq)).1 e)
  replace kk := kk.step cN (fun q hq hl => by omega)
  replace b4 := b4.step cN (by omega)
  replace hR := hR.step cN (fun q hq e => by have := hcl q hq; omega)
  obtain ⟨WS, hWS⟩ : ∃ WS, wN.setCell ⟨B8, 1, none⟩ (.slice na (L0.length + 1) nc) = WS := ⟨_, rfl⟩
  have HWS := Lib.hid hWS
  rw [hWS] at HP9 kk b4 hR d0 d1 d2
  obtain ⟨e0, e1, e2, cf⟩ := id b4
  have cf0 := cf 0
  have cf1 := cf 1
  have cf2 := cf 2
  clear cf
  obtain ⟨z0, z1, z2, _⟩ := ((b4.set0 (.int .i64 it)).set1 (.slice na (L0.length + 1) nc)).set2 (.slice ya yn yc)
  have ch : Chg (fun q => q = w.heap.size + 1) WS (((WS.setCell ⟨w.heap.size + 1, 0, none⟩ (.int .i64 it)).setCell ⟨w.heap.size + 1, 1, none⟩ (.slice na (L0.length + 1) nc)).setCell ⟨w.heap.size + 1, 2, none⟩ (.slice ya yn yc)) :=
    (((Chg.refl (fun q => q = w.heap.size + 1) WS).setCell (p := ⟨w.heap.size + 1, 0, none⟩) (fun _ => rfl) _).setCell (p := ⟨w.heap.size + 1, 1, none⟩) (fun _ => rfl) _).setCell (p := ⟨w.heap.size + 1, 2, none⟩) (fun _ => rfl) _
  have hsz3 : w.heap.size ≤ W1.heap.size := by omega
  have f1 := (HP9.step ch (fun q hq e => by have := (HP9.inF q hq).1; omega)).weak (base' := w.heap.size) hsz3
  have f2 := (hR.step ch (fun q hq e => by have := (hR.lt q hq).1; omega)).weak (base' := w.heap.size) hsz3
  have f3 : ∀ q, FA (.slice na (L0.length + 1) nc) (L0 ++ [(⟨(rq.length : Int), newC p k, 0⟩ : Pl)]).length (fun i => if i = L0.length then .slice (some ⟨x1, 0, none⟩) 0 0 else pg i) (fun i => if i = L0.length then .slice (some ⟨x4, 0, none⟩) 0 0 else mg i) q → ¬ own (.slice ya yn yc) q := fun q hq => (HFN.out q (by rw [hlx] at hq; exact hq)).2
  have hk := kk.step ch (fun q hq hl => by omega)
  have HEND := Lib.hid (And.intro f1 (And.intro f2 (And.intro f3 hk)))
  clear f1 f2 f3 hk HP9 kk ch b2 b4 b8 hR hP hd hfl hrl hcl cN oN kN hnN HPN HFN op om oap k8 hPos hn0 hlx
  go_wp2_with fail
  exact bodyPost_ret (v := .agg #[.int .i64 it, .slice na (L0.length + 1) nc, .slice ya yn yc]) (by simp [results, Tryz.results84, go_sem, z0, z1, z2]) rfl ⟨_, rfl, by
    show TA _ _ _ ⟨it, againP ps rq ++ [(⟨(rq.length : Int), newC p k, 0⟩ : Pl)], rq⟩
    rw [HL0.out]
    exact ⟨_, _, _, _, rfl, HEND.out.1, HEND.out.2.1, HEND.out.2.2.1⟩, HEND.out.2.2.2⟩
end Go.Proofs.YtccmocbkpanibaaGreat

/- an owned Tournament marked -/
namespace Go.Proofs.YtccmocbkpanibaaGreat
open Go.RowKit

set_option maxRecDepth 100000 in
set_option maxHeartbeats 1000000 in
theorem markPlayerS_nil (a : Option Addr) (cap : Nat) (k : Int) (w : World) :
    Calls Tryz.prog 51 #[.slice a 0 cap, .int .i64 k] w (Ret fun r w' => r = .int .i64 k ∧ Chg No w w') := by
  go_enter Tryz.func51, Tryz.ntmps51
  go_wp2_with fail
  go_loopw [1, 5] (fun s z wr => s = .int .i64 k ∧ z = .int .i64 0 ∧ wr = w) (fun _ _ _ => 0)
  case atStart => exact ⟨rfl, rfl, rfl⟩
  case round =>
    obtain ⟨rfl, rfl, rfl⟩ := hrel
    go_wp2_with fail
    go_ret
    exact ⟨_, rfl, rfl, Chg.refl _ _⟩

theorem TA.lt {base : Nat} {w : World} {v : Value} {t : To} (h : TA base w v t) : ∃ pv rv, v = .agg #[.int .i64 t.items, pv, rv] := by
  obtain ⟨pv, pf, mf, rv, h1, _⟩ := h; exact ⟨_, _, h1⟩
set_option maxRecDepth 100000 in
set_option maxHeartbeats 1000000 in
theorem markTA_any (base : Nat) (v : Value) (t : To) (k : Int) (w : World) (h : TA base w v t) (hn : t.ps.length ≤ 1048576) (hk : 0 ≤ k) (hk' : k + totPl t.ps ≤ 100000000) :
    Calls Tryz.prog 13 #[v, .int .i64 k] w (Ret fun r w' => r = .int .i64 (k + totPl t.ps + t.reqs.length) ∧ RT No w' v (markT k t) ∧ Chg (fun q => base ≤ q ∧ q < w.heap.size) w w') := by
  obtain ⟨it, ps, rq⟩ := t
  obtain ⟨pv, pf, mf, rv, rfl, hP, hR, hd⟩ := h
  simp only at hP hR hd hn hk' ⊢
  have hml := mkTo_len k ps ps.length
  obtain ⟨ra, rn, rc, rfl⟩ := hR.shape
  have hRl := hR.lt
  by_cases h0 : ps = []
  · subst h0
    obtain ⟨a, cap, rfl, hcap, hmax, _⟩ := hP.os.view
    have k0 := (Chg.refl No w).alloc (.cells #[.int .i64 it, .slice a 0 cap, .slice ra rn rc] 31)
    have b0 := Box3.new w (.int .i64 it) (.slice a 0 cap) (.slice ra rn rc) 31
    obtain ⟨c0, c1, c2, _⟩ := id b0
    have hrps : RPS No w (.slice a 0 cap) [] := hP.read (by simp) (fun _ _ e => e)
    simp only [List.length_nil] at *
    go_enter Tryz.func13, Tryz.ntmps13
    go_wp2_with fail
    refine (markPlayerS_nil a cap k _).mono ?_
    rintro e w1 ⟨_, rfl, rfl, k1⟩
    have b0 := b0.keep k1
    clear c0 c1 c2
    obtain ⟨c0, c1, c2, _⟩ := id b0
    have hR1 := (hR.keep k0).keep k1
    go_wp2_with fail
    refine (markIntS_any base _ rq k w1 hR1 (by omega)).mono ?_
    rintro e w2 ⟨_, rfl, rfl, o2, k2⟩
    go_wp2_with fail
    go_ret
    have kk : Chg (own (.slice ra rn rc)) w w2 := ((k0.keep k1).mono (fun _ e _ => e.elim)).trans k2
    refine ⟨_, rfl, by simp [totPl], ⟨_, _, rfl, ?_, (by simp only [markT, totPl, Int.natCast_zero, Int.add_zero]; exact o2.read (A := No) (fun _ _ e => e))⟩, kk.mono (fun q e _ => hRl q e)⟩
    exact ⟨a, cap, rfl, Nat.zero_le _, hmax, by simp [markT, mkTo], fun _ => undef, fun _ => undef, fun i hi => by simp [markT, mkTo] at hi, fun hne => by simp [markT, mkTo] at hne⟩
  · obtain ⟨g, cap, rfl, hO⟩ := hP.po h0
    obtain ⟨_, _, _, hcap, hmax, _⟩ := hP.os.view
    have k0 := (Chg.refl No w).alloc (.cells #[.int .i64 it, .slice (some ⟨g, 0, none⟩) ps.length cap, .slice ra rn rc] 31)
    have b0 := Box3.new w (.int .i64 it) (.slice (some ⟨g, 0, none⟩) ps.length cap) (.slice ra rn rc) 31
    obtain ⟨c0, c1, c2, _⟩ := id b0
    have hb : ¬ FP g ps.length pf mf w.heap.size := fun hq => by have := (hO.inF _ hq).2; omega
    have hfp : ∀ q, FP g ps.length pf mf q → ¬ own (.slice ra rn rc) q := fun q hq => hd q (hq.elim (fun e => .inl (own_slice.2 e)) .inr)
    have hcc := hP.os.at.2.2.2.2.2
    go_enter Tryz.func13, Tryz.ntmps13
    go_wp2_with fail
    refine (markPlayerS_any base g ps.length cap ps pf mf k _ (hO.keep k0) hn hk hk').mono ?_
    rintro e w1 ⟨_, rfl, rfl, o1, k1⟩
    have b0 := b0.step k1 hb
    clear c0 c1 c2
    obtain ⟨c0, c1, c2, _⟩ := id b0
    have hR1 := (hR.keep k0).step k1 (fun q hq e => hfp q e hq)
    go_wp2_with fail
    refine (markIntS_any base _ rq (k + totPl ps) w1 hR1 (by omega)).mono ?_
    rintro e w2 ⟨_, rfl, rfl, o2, k2⟩
    go_wp2_with fail
    go_ret
    have o1' := o1.step k2 (fun q hq e => hfp q hq e)
    refine ⟨_, rfl, rfl, ⟨_, _, rfl, ?_, o2.read (A := No) (fun _ _ e => e)⟩, ?_⟩
    · simp only [markT]; exact o1'.read hcc.1 hcc.2 hn (fun _ _ e => e)
    · exact ((k0.mono (fun _ e _ => e.elim)).trans (k1.mono (fun q e hq => ⟨(hO.inF q e).1, (hO.inF q e).2⟩))).trans (k2.mono (fun q e hq => hRl q e))
end Go.Proofs.YtccmocbkpanibaaGreat

/- what a valid Tournament says of its Players (plain) -/
namespace Go.Proofs.YtccmocbkpanibaaGreat
open Go.RowKit

theorem runC_app (c : Ca) (l m : List Int) : runC c (l ++ m) = runC (runC c l) m := by unfold runC; rw [List.foldl_append]
theorem tour_pl {t : To} (ht : tourB t = true) {i : Nat} (hi : i < t.ps.length) : playB (t.ps.getD i dPl) t.reqs = true := by
  unfold tourB at ht
  simp only [Bool.and_eq_true, List.all_eq_true] at ht
  refine ht.2.2 _ ?_
  rw [List.getD_eq_getElem?_getD, List.getElem?_eq_getElem hi]
  exact List.getElem_mem hi
theorem tour_at {t : To} (ht : tourB t = true) {i : Nat} (hi : i < t.ps.length) : (0 ≤ (t.ps.getD i dPl).frm ∧ (t.ps.getD i dPl).frm ≤ t.reqs.length) ∧ (1 ≤ (t.ps.getD i dPl).ca.pol ∧ (t.ps.getD i dPl).ca.pol ≤ 7) ∧ (1 ≤ (t.ps.getD i dPl).ca.size ∧ (t.ps.getD i dPl).ca.size ≤ 6) := by
  have h1 := tour_pl ht hi
  unfold playB at h1
  simp only [Bool.and_eq_true, inB_iff] at h1
  exact ⟨h1.1.1, h1.1.2.1, h1.1.2.2⟩
end Go.Proofs.YtccmocbkpanibaaGreat

/- a valid Tournament served again is valid (plain) -/
namespace Go.Proofs.YtccmocbkpanibaaGreat
open Go.RowKit

theorem sv_of {t : To} (ht : tourB t = true) : Sv t.ps t.reqs := fun i hi => by
  obtain ⟨h1, h2, g1⟩ := tour_at ht hi
  exact ⟨h1, ok_new h2 g1⟩
theorem servedP_nil (f p k : Int) : servedP f p k [] = ⟨f, newC p k, 0⟩ := rfl
theorem stepP_const (c : Ca) (x : Int) : (stepC c x).pol = c.pol ∧ (stepC c x).size = c.size := by
  unfold stepC hitC faultC clockC
  repeat' split
  all_goals exact ⟨rfl, rfl⟩
theorem runP_const (c : Ca) (l : List Int) : (runC c l).pol = c.pol ∧ (runC c l).size = c.size := by
  induction l generalizing c with
  | nil => exact ⟨rfl, rfl⟩
  | cons x l ih =>
    obtain ⟨h1, h2⟩ := ih (stepC c x)
    obtain ⟨h3, h4⟩ := stepP_const c x
    exact ⟨h1.trans h3, h2.trans h4⟩
theorem sameB_self (c : Ca) : sameB c c = true := by simp [sameB]
theorem wantP_want (x : Pl) (l l' : List Int) : wantP (wantP x l) l' = wantP x l' := by
  unfold wantP servedP
  simp only [(runP_const (newC x.ca.pol x.ca.size) (l.drop x.frm.toNat)).1, (runP_const (newC x.ca.pol x.ca.size) (l.drop x.frm.toNat)).2]
  rfl
theorem play_want {x : Pl} {l : List Int} (h1 : inB x.frm 0 l.length = true) (h2 : inB x.ca.pol 1 7 = true) (h3 : inB x.ca.size 1 6 = true) : playB (wantP x l) l = true := by
  have e := wantP_want x l l
  have hc := runP_const (newC x.ca.pol x.ca.size) (l.drop x.frm.toNat)
  have f1 : (wantP x l).frm = x.frm := rfl
  have f2 : (wantP x l).ca.pol = x.ca.pol := hc.1
  have f3 : (wantP x l).ca.size = x.ca.size := hc.2
  unfold playB
  rw [e, f1, f2, f3, h1, h2, h3, sameB_self]
  simp
/-- a valid Tournament with other good requests is valid -/
theorem tour_again {t : To} {l : List Int} (ht : tourB t = true) (hr : reqB t.items l = true) (hf : ∀ i, i < t.ps.length → (t.ps.getD i dPl).frm ≤ l.length) : tourB ⟨t.items, againP t.ps l, l⟩ = true := by
  have ht' := ht
  unfold tourB at ht ⊢
  simp only [Bool.and_eq_true, decide_eq_true_eq, List.all_eq_true] at ht ⊢
  refine ⟨hr, by unfold againP; rw [List.length_map]; exact ht.2.1, fun y hy => ?_⟩
  obtain ⟨x, hx, rfl⟩ := List.mem_map.1 hy
  obtain ⟨i, hi, rfl⟩ := List.getElem_of_mem hx
  obtain ⟨⟨h1, _⟩, h2, g1⟩ := tour_at ht' hi
  have h4 := hf i hi
  have e : t.ps.getD i dPl = t.ps[i] := by rw [List.getD_eq_getElem?_getD, List.getElem?_eq_getElem hi]; rfl
  rw [e] at h1 h2 g1 h4
  exact play_want (inB_iff.2 ⟨h1, h4⟩) (inB_iff.2 h2) (inB_iff.2 g1)
theorem sameB_eq {a b : Ca} (h : sameB a b = true) : a = b := by
  obtain ⟨a1, a2, a3, a4, a5⟩ := a
  obtain ⟨b1, b2, b3, b4, b5⟩ := b
  simp only [sameB, Bool.and_eq_true, beq_iff_eq] at h
  obtain ⟨rfl, rfl, rfl, rfl, rfl⟩ := h
  rfl
theorem want_self {x : Pl} {l : List Int} (h : playB x l = true) : wantP x l = x := by
  unfold playB at h
  simp only [Bool.and_eq_true, beq_iff_eq] at h
  have h3 := sameB_eq h.2.1
  have h2 := h.2.2
  have h4 : (wantP x l).frm = x.frm := rfl
  have e : ∀ a b : Pl, a.frm = b.frm → a.ca = b.ca → a.fa = b.fa → a = b := fun a b p q r => by
    obtain ⟨a1, a2, a3⟩ := a
    obtain ⟨b1, b2, b3⟩ := b
    simp only at p q r
    subst p; subst q; subst r; rfl
  exact e _ _ h4 h3 h2
/-- a valid Tournament served again is itself -/
theorem again_self {t : To} (ht : tourB t = true) : againP t.ps t.reqs = t.ps := by
  unfold tourB at ht
  simp only [Bool.and_eq_true, decide_eq_true_eq, List.all_eq_true] at ht
  unfold againP
  have : ∀ x ∈ t.ps, wantP x t.reqs = x := fun x hx => want_self (ht.2.2 x hx)
  calc t.ps.map (fun x => wantP x t.reqs) = t.ps.map id := List.map_congr_left this
    _ = t.ps := by simp
end Go.Proofs.YtccmocbkpanibaaGreat

/- the greatest beginning -/
namespace Go.Proofs.YtccmocbkpanibaaGreat
open Go.RowKit

/-- the greatest place from which one of the first j serves -/
def latT (ps : List Pl) : Nat → Int
  | 0 => 0
  | j + 1 => max (latT ps j) (ps.getD j dPl).frm
theorem latT_lt (ps : List Pl) (n : Int) (hn : 0 < n) (j : Nat) : latT ps j < n ↔ ∀ i, i < j → (ps.getD i dPl).frm < n := by
  induction j with
  | zero => simp [latT]; exact hn
  | succ j ih =>
    unfold latT
    rw [Int.max_lt, ih]
    constructor
    · rintro ⟨h1, h2⟩ i hi
      by_cases e : i = j
      · subst e; exact h2
      · exact h1 i (by omega)
    · intro h
      exact ⟨fun i hi => h i (by omega), h j (by omega)⟩
set_option maxRecDepth 100000 in
set_option maxHeartbeats 2000000 in
theorem l12Latest_any (v : Value) (t : To) (w : World) (h : RT No w v t) :
    Calls Tryz.prog 131 #[v] w (Ret fun r w' => r = .int .i64 (latT t.ps t.ps.length) ∧ Chg No w w') := by
  obtain ⟨it, ps, rq⟩ := t
  obtain ⟨pv, rv, rfl, hps, hrq⟩ := h
  simp only at hps hrq ⊢
  obtain ⟨ra, rn, rc, rfl⟩ := hrq.shape
  obtain ⟨a, cap, rfl, hcap, hmax, hlen, pf, mf, hl, hcl⟩ := id hps
  have HC := Lib.hid hcl
  clear hl hcl
  go_enter Tryz.func131, Tryz.ntmps131
  go_wp2_with fail
  refine box31 (R := fun W => Code.wp _ _ _ _ W) (fun W kW b0 => ?_)
  go_loopw [3, 4] (fun s z wr => ∃ j : Nat, j ≤ ps.length ∧ z = .int .i64 (j : Int) ∧ s = .int .i64 (latT ps j) ∧ Chg No w wr ∧ Box3 wr w.heap.size (.int .i64 it) (.slice a ps.length cap) (.slice ra rn rc)) (fun _ z _ => ps.length - (intOf z).toNat)
  case atStart => exact ⟨0, Nat.zero_le _, rfl, rfl, kW, b0⟩
  case round =>
    clear kW b0
    obtain ⟨j, hj, rfl, rfl, kk, b0⟩ := hrel
    have hj0 : (0 : Int) ≤ (j : Int) := Int.natCast_nonneg _
    obtain ⟨c0, c1, c2, _⟩ := id b0
    by_cases hlt : j < ps.length
    · obtain ⟨b, off, rfl, _, hb, hcell⟩ := HC.out (by intro e; simp [e] at hlt)
      have h7 := (hcell j hlt).step kk hb (fun e => e)
      have g0 := h7.c0
      have hj1 : (j : Int) < (ps.length : Int) := by omega
      have hwj : IntKind.i64.wrap ((j : Int) + 1) = (j : Int) + 1 := IntWalk.i64_in _ (by omega)
      obtain ⟨y, hy⟩ : ∃ y, (ps.getD j dPl).frm = y := ⟨_, rfl⟩
      rw [hy] at g0
      have HS : Hid (latT ps (j + 1) = max (latT ps j) y) := Lib.hid (by rw [← hy]; rfl)
      clear h7 hcell hy
      go_wp2_with fail
      refine (l1Most_any _ _ wr).mono ?_
      rintro e w1 ⟨rfl, rfl⟩
      go_wp2_with fail
      go_round
      case measure => simp [intOf]; omega
      case rel => exact ⟨j + 1, by omega, by go_num, by rw [HS.out], kk, b0⟩
    · have hje : j = ps.length := by omega
      subst hje
      go_wp2_with fail
      go_ret
      exact ⟨_, rfl, rfl, kk⟩
end Go.Proofs.YtccmocbkpanibaaGreat

/- a Player looked for by a function -/
namespace Go.Proofs.YtccmocbkpanibaaGreat
open Go.RowKit

set_option maxRecDepth 100000 in
set_option maxHeartbeats 2000000 in
theorem IndexFuncP_any (v : Value) (ls : List Pl) (w : World) (h : RPS No w v ls) (f : FuncId) (c0 : Value) (p : Pl → Bool)
    (hcf : ∀ x (w : World), (callFunc f #[x, c0]).run Tryz.prog w = .ok (.enter f #[x, c0]) w)
    (hp : ∀ (x : Pl) pv mv (W : World), Chg No w W → Calls Tryz.prog f #[.agg #[.int .i64 x.frm, .int .i64 x.ca.pol, .int .i64 x.ca.size, pv, mv, .int .i64 x.ca.hand, .int .i64 x.fa], c0] W (Ret fun r w' => r = .bool (p x) ∧ Chg No W w')) :
    Calls Tryz.prog 166 #[v, .func (.func f) #[] #[c0]] w (Ret fun r w' => (∃ i : Int, r = .int .i64 i ∧ (0 ≤ i ↔ ∃ j, j < ls.length ∧ p (ls.getD j dPl) = true)) ∧ Chg No w w') := by
  obtain ⟨a, cap, rfl, hcap, hmax, hlen, pf, mf, hl, hcl⟩ := id h
  have HP := Lib.hid hp
  have HC := Lib.hid hcl
  have HL := Lib.hid hl
  clear hp hcl hl
  go_enter Tryz.func166, Tryz.ntmps166
  go_wp2_with fail
  go_loopw [4, 8] (fun r z wr => ∃ j : Nat, j ≤ ls.length ∧ z = .int .i64 (j : Int) ∧ r = .int .i64 0 ∧ (∀ i, i < j → p (ls.getD i dPl) = false) ∧ Chg No w wr) (fun _ z _ => ls.length - (intOf z).toNat)
  case atStart => exact ⟨0, Nat.zero_le _, rfl, rfl, fun i hi => absurd hi (Nat.not_lt_zero i), Chg.refl _ _⟩
  case round =>
    obtain ⟨j, hj, rfl, rfl, hno, kk⟩ := hrel
    have HNO := Lib.hid hno
    clear hno
    have hj0 : (0 : Int) ≤ (j : Int) := Int.natCast_nonneg _
    by_cases hlt : j < ls.length
    · obtain ⟨b, off, rfl, _, hb, hcell⟩ := HC.out (by intro e; simp [e] at hlt)
      have h7 := (hcell j hlt).step kk hb (fun e => e)
      obtain ⟨hpj, hmj⟩ := HL.out j hlt
      have hj1 : (j : Int) < (ls.length : Int) := by omega
      have hwj : IntKind.i64.wrap ((j : Int) + 1) = (j : Int) + 1 := IntWalk.i64_in _ (by omega)
      obtain ⟨y, hy⟩ : ∃ y, ls.getD j dPl = y := ⟨_, rfl⟩
      rw [hy] at h7 hpj hmj
      have HY := Lib.hid hy
      generalize pf j = pj at hpj h7
      generalize mf j = mj at hmj h7
      obtain ⟨ya, yn, yc, rfl⟩ := hpj.shape
      obtain ⟨ua, un, uc, rfl⟩ := hmj.shape
      obtain ⟨g0, g1, g2, g3, g4, g5, g6⟩ := id h7
      clear h7 hcell hy hpj hmj
      go_wp2_with fail
      refine (HP.out y _ _ wr kk).mono ?_
      rintro e w' ⟨_, rfl, rfl, k1⟩
      have kk1 := kk.keep k1
      cases hpy : p y
      · have HPY := Lib.hid hpy
        clear hpy
        go_wp2_with fail
        go_round
        case measure => simp [intOf]; omega
        case rel =>
          refine ⟨j + 1, by omega, by go_num, rfl, fun i hi => ?_, kk1⟩
          by_cases e : i = j
          · subst e; rw [HY.out]; exact HPY.out
          · exact HNO.out i (by omega)
      · have HPY := Lib.hid hpy
        clear hpy
        go_wp2_with fail
        go_ret
        exact ⟨_, rfl, ⟨_, rfl, ⟨fun _ => ⟨j, hlt, by rw [HY.out]; exact HPY.out⟩, fun _ => hj0⟩⟩, kk1⟩
    · have hje : j = ls.length := by omega
      subst hje
      go_wp2_with fail
      go_ret
      exact ⟨_, rfl, ⟨_, rfl, ⟨fun e => absurd e (by omega), fun ⟨i, hi, hpi⟩ => absurd hpi (by rw [HNO.out i hi]; simp)⟩⟩, kk⟩

set_option maxRecDepth 100000 in
set_option maxHeartbeats 1000000 in
theorem ContainsFuncP_any (v : Value) (ls : List Pl) (w : World) (h : RPS No w v ls) (f : FuncId) (c0 : Value) (p : Pl → Bool)
    (hcf : ∀ x (w : World), (callFunc f #[x, c0]).run Tryz.prog w = .ok (.enter f #[x, c0]) w)
    (hp : ∀ (x : Pl) pv mv (W : World), Chg No w W → Calls Tryz.prog f #[.agg #[.int .i64 x.frm, .int .i64 x.ca.pol, .int .i64 x.ca.size, pv, mv, .int .i64 x.ca.hand, .int .i64 x.fa], c0] W (Ret fun r w' => r = .bool (p x) ∧ Chg No W w')) :
    Calls Tryz.prog 141 #[v, .func (.func f) #[] #[c0]] w (Ret fun r w' => (∃ b : Bool, r = .bool b ∧ (b = true ↔ ∃ j, j < ls.length ∧ p (ls.getD j dPl) = true)) ∧ Chg No w w') := by
  have HP := Lib.hid hp
  clear hp
  have HC := Lib.hid hcf
  clear hcf
  obtain ⟨pa, pn, pc, rfl⟩ := h.shape
  go_enter Tryz.func141, Tryz.ntmps141
  go_wp2_with fail
  refine (IndexFuncP_any _ ls w h f c0 p HC.out HP.out).mono ?_
  rintro e w' ⟨_, rfl, ⟨i, rfl, hi⟩, k1⟩
  by_cases h0 : 0 ≤ i
  · have H := Lib.hid (hi.1 h0)
    clear hi
    go_wp2_with fail
    go_ret
    exact ⟨_, rfl, ⟨true, by simp [h0], ⟨fun _ => H.out, fun _ => rfl⟩⟩, k1⟩
  · have H := Lib.hid (fun e => h0 (hi.2 e))
    clear hi
    go_wp2_with fail
    go_ret
    exact ⟨_, rfl, ⟨false, by simp [h0], ⟨fun e => absurd e (by simp), fun e => absurd e H.out⟩⟩, k1⟩
set_option maxRecDepth 100000 in
set_option maxHeartbeats 1000000 in
theorem undo1_any (x : Pl) (pv mv : Value) (b : Nat) (left : Int) (w : World) (h : w.cell? ⟨b, 0, none⟩ = some (.int .i64 left)) :
    Calls Tryz.prog 142 #[.agg #[.int .i64 x.frm, .int .i64 x.ca.pol, .int .i64 x.ca.size, pv, mv, .int .i64 x.ca.hand, .int .i64 x.fa], .pointer (some ⟨b, 0, none⟩)] w (Ret fun r w' => r = .bool (decide (left < x.frm)) ∧ Chg No w w') := by
  have hb := World.block_lt_of_cell? w _ h
  have k0 := (Chg.refl No w).alloc (.cells #[.int .i64 x.frm, .int .i64 x.ca.pol, .int .i64 x.ca.size, pv, mv, .int .i64 x.ca.hand, .int .i64 x.fa] 72)
  have h1 := (k0.cellD b 0 hb (fun e => e)).trans h
  have bp := Box7.new w (.int .i64 x.frm) (.int .i64 x.ca.pol) (.int .i64 x.ca.size) pv mv (.int .i64 x.ca.hand) (.int .i64 x.fa) 72
  have g0 := bp.c0
  go_enter Tryz.func142, Tryz.ntmps142
  go_wp2_with fail
  go_ret
  exact ⟨_, rfl, rfl, k0⟩
end Go.Proofs.YtccmocbkpanibaaGreat

/- ContentsOf of the reference -/
namespace Go.Proofs.YtccmocbkpanibaaGreat
open Go.RowKit
end Go.Proofs.YtccmocbkpanibaaGreat

/- the first index at which something holds -/
namespace Go.Proofs.YtccmocbkpanibaaGreat

/-- no index below j at which p holds -/
def NoneTo (p : Nat → Bool) (j : Nat) : Prop := ∀ i, i < j → p i = false
theorem NoneTo.zero (p : Nat → Bool) : NoneTo p 0 := fun i h => absurd h (Nat.not_lt_zero i)
theorem NoneTo.succ {p : Nat → Bool} {j : Nat} (h : NoneTo p j) (hj : p j = false) : NoneTo p (j + 1) := fun i hi => by
  by_cases e : i = j
  · rw [e]; exact hj
  · exact h i (by omega)
/-- the first index below n at which p holds -/
def firstN (p : Nat → Bool) : Nat → Option Nat
  | 0 => none
  | n + 1 => match firstN p n with
    | some i => some i
    | none => if p n then some n else none
theorem firstN_none {p : Nat → Bool} {n : Nat} (h : NoneTo p n) : firstN p n = none := by
  induction n with
  | zero => rfl
  | succ n ih => simp [firstN, ih (fun i hi => h i (by omega)), h n (by omega)]
theorem firstN_hit {p : Nat → Bool} {n j : Nat} (h : NoneTo p j) (hj : j < n) (hp : p j = true) : firstN p n = some j := by
  induction n with
  | zero => omega
  | succ n ih =>
    by_cases e : j = n
    · subst e; simp [firstN, firstN_none h, hp]
    · simp [firstN, ih (by omega)]
def oneUp : Option Nat → Int
  | some i => (i : Int) + 1
  | none => 0
def idxOr0 : Option Nat → Int
  | some i => (i : Int)
  | none => 0
end Go.Proofs.YtccmocbkpanibaaGreat

/- goneBy, InclusionBreak -/
namespace Go.Proofs.YtccmocbkpanibaaGreat
open Go.RowKit

set_option maxHeartbeats 400000 in
theorem Contains_any (A : Nat → Prop) (v : Value) (l : List Int) (n : Int) (w : World) (h : RI A w v l) :
    Calls Tryz.prog 121 #[v, .int .i64 n] w fun e w' => e = .returned (.bool (hasB l n)) ∧ w = w' := by
  have H : Hid (decide (0 ≤ atI l n) = hasB l n) := Lib.hid (by
    rcases atI_spec l n with ⟨h1, k, _, h2⟩ | ⟨h1, h2⟩
    · rw [h1, h2]; simp
    · rw [h1, h2]; rfl)
  go_enter Tryz.func121, Tryz.ntmps121
  go_wp2_with fail
  refine (Index_any A v l n w h).mono ?_
  rintro e w' ⟨rfl, rfl⟩
  go_wp2_with fail
  go_ret
  exact ⟨ret_bool H.out, rfl⟩

/-- what stays of a list -/
def stay (p : Int → Bool) (l : List Int) : List Int := l.filter fun x => !p x
theorem stay_len (p : Int → Bool) (l : List Int) : (stay p l).length ≤ l.length := List.length_filter_le _ _
theorem stay_snoc (p : Int → Bool) (l : List Int) (k : Nat) (h : k < l.length) : stay p (l.take (k + 1)) = if p l[k] then stay p (l.take k) else stay p (l.take k) ++ [l[k]] := by
  rw [List.take_succ_eq_append_getElem h, stay, List.filter_append]
  cases hp : p l[k] <;> simp [stay, hp]
theorem stay_none (p : Int → Bool) (l : List Int) (h : l.any p = false) : stay p l = l := by
  unfold stay
  rw [List.filter_eq_self]
  intro x hx
  have := List.any_eq_false.1 h x hx
  simpa using this
/-- the cells behind the first i are written -/
theorem OI.cleared {base : Nat} (g cap : Nat) (l : List Int) : ∀ (vs : List Value) (w : World) (o : Nat), OI base w (.slice (some ⟨g, 0, none⟩) l.length cap) l → l.length ≤ o →
    OI base (w.setCells g o vs) (.slice (some ⟨g, 0, none⟩) l.length cap) l ∧ Chg (fun k => k = g) w (w.setCells g o vs)
  | [], w, o, h, _ => ⟨h, Chg.refl _ w⟩
  | u :: vs, w, o, h, ho => by
    obtain ⟨h1, h2⟩ := h.spare o ho u
    obtain ⟨h3, h4⟩ := OI.cleared g cap l vs _ (o + 1) h1 (by omega)
    exact ⟨h3, h2.trans h4⟩
theorem run_clearN (w : World) {base g n cap : Nat} {l : List Int} (h : OI base w (.slice (some ⟨g, 0, none⟩) n cap) l) (i : Nat) (hi : i ≤ l.length) :
    ∃ x w', (∀ w0 : World, (Instr.slice 23 (.slice (some ⟨g, 0, none⟩) n cap) (some (.int .i64 (i : Int))) none none).run Tryz.prog w0 = .ok x w0) ∧
      (∀ ty, (Builtin.clear_ #[23] ty #[x]).run Tryz.prog w = .ok (.tuple #[]) w') ∧ OI base w' (.slice (some ⟨g, 0, none⟩) i cap) (l.take i) ∧ Chg (fun k => k = g) w w' := by
  obtain ⟨hc, hf, _, _, hn, hnc, hm⟩ := h.at
  subst hn
  have hz : ∀ w : World, (zeroValue 3).run Tryz.prog w = .ok (.int .i64 0) w := fun w => by kernel_rfl
  have hp := h.pre i hi
  have hpl : (l.take i).length = i := by rw [List.length_take]; omega
  by_cases hil : i < l.length
  · refine ⟨.slice (some ⟨g, i, none⟩) (l.length - i) (cap - i), _, fun w0 => run_from w0 g l.length cap i _ rfl hi (by omega), fun ty => Lib.run_clear_slice (P := Tryz.prog) w 23 3 ty (.int .i64 0) Tryz.underlying23 hz rfl rfl g i (l.length - i) _ (by omega) (fun j hj => by rw [hc (i + j) (by omega)]; rfl) (fun j hj => hf _), ?_⟩
    have := OI.cleared (base := base) g cap (l.take i) (List.replicate (l.length - i) (Value.int .i64 0)) w i (by rw [hpl]; exact hp) (by omega)
    rw [hpl] at this
    exact this
  · have hil : i = l.length := by omega
    subst hil
    have hrd : RI No w (.slice (some ⟨g, 0, none⟩) l.length cap) l := h.readNo
    obtain ⟨a, c, hsl⟩ : ∃ a c, sliced (some ⟨g, 0, none⟩) l.length l.length cap 1 = .slice a 0 c := ⟨_, _, by unfold sliced; rw [Nat.sub_self]⟩
    have hx : ∀ w0 : World, (Instr.slice 23 (.slice (some ⟨g, 0, none⟩) l.length cap) (some (.int .i64 (l.length : Int))) none none).run Tryz.prog w0 = .ok (.slice a 0 c) w0 := fun w0 => by
      rw [run_slice_l w0 23 _ l.length cap und_el .i64 l.length (by omega) (by omega), run_sz]
      simp only [Result.andThen, Int.toNat_natCast, hsl]
    refine ⟨.slice a 0 c, w, hx, fun ty => ?_, by simpa using h, Chg.refl _ w⟩
    cases a <;> kernel_rfl
theorem wclear_run {ops : Array Oper} {rest : List Oper} {o : Oper} {a : Act} {Q : Exit → Act → World → Prop} {w w' : World} {v : Value} (hgd : o.guard = none) (s : Operand) (t : TypeId)
    (ho : o.op = .call { callee := .builtin .clear, args := #[s], argTypes := #[t] }) (hr : (Builtin.clear_ #[t] o.type #[a.eval s]).run Tryz.prog w = .ok v w')
    (h : wpList Tryz.prog ops Q rest (a.put o.dst v) w') : wpList Tryz.prog ops Q (o :: rest) a w := by
  refine wpList_plain hgd fun _ hK => ?_
  unfold Oper.wp execOp
  simp only [ho, resolve, invoke, builtin, Sem.run_bind, Sem.run_pure, Result.andThen_ok, List.map_toArray, List.map_cons, List.map_nil, hr]
  exact hK _ _ h

set_option maxRecDepth 100000 in
set_option maxHeartbeats 2000000 in
theorem DeleteFunc_any (base : Nat) (v : Value) (l : List Int) (w : World) (h : OI base w v l) (f : FuncId) (c0 : Value) (p : Int → Bool)
    (hcf : ∀ x (w : World), (callFunc f #[.int .i64 x, c0]).run Tryz.prog w = .ok (.enter f #[.int .i64 x, c0]) w)
    (hp : ∀ w1, Chg (own v) w w1 → ∀ x, Calls Tryz.prog f #[.int .i64 x, c0] w1 fun e w' => e = .returned (.bool (p x)) ∧ w1 = w') :
    Calls Tryz.prog 173 #[v, .func (.func f) #[] #[c0]] w (Ret fun r w' => OI base w' r (stay p l) ∧ Chg (own v) w w' ∧ ∀ q, own r q → own v q) := by
  have hL := h.len
  have hp0 := hp w (Chg.refl _ w)
  obtain ⟨a, cap, rfl, hcap, hmax, hvw⟩ := h.view
  cases hany : l.any p
  · have HI : Hid (idxF l p = -1) := Lib.hid (idxF_none l p hany)
    have HS := Lib.hid (stay_none p l hany)
    clear hany hp hvw
    have HP0 := Lib.hid hp0
    have HCF := Lib.hid hcf
    clear hp0 hcf
    go_enter Tryz.func173, Tryz.ntmps173
    go_wp2_with fail
    refine (IndexFunc_any No _ l w h.readNo f c0 p HCF.out (fun x _ => HP0.out x)).mono ?_
    rintro e w' ⟨rfl, rfl⟩
    rw [HI.out]
    go_wp2_with fail
    go_ret
    exact ⟨_, rfl, by rw [HS.out]; exact h, Chg.refl _ _, fun q hq => hq⟩
  · have hlen0 : 0 < l.length := by
      rcases l with _ | ⟨x, l⟩
      · simp at hany
      · simp
    obtain ⟨g, rfl, hg1, hg2, _, _⟩ := hvw (by omega)
    obtain ⟨i0, hi0⟩ : ∃ i0, l.findIdx p = i0 := ⟨_, rfl⟩
    have hi0l : i0 < l.length := by rw [← hi0]; exact List.findIdx_lt_length_of_exists (by simpa using hany)
    have hidx : idxF l p = (i0 : Int) := by rw [idxF, hany, hi0]; rfl
    have hst0 : stay p (l.take i0) = l.take i0 := stay_none p _ (by
      rw [List.any_eq_false]
      intro x hx
      obtain ⟨j, hj, rfl⟩ := List.mem_iff_getElem.1 hx
      rw [List.length_take] at hj
      rw [List.getElem_take]
      have hnl := List.not_of_lt_findIdx (xs := l) (p := p) (i := j) (by omega)
      simpa using hnl)
    have hpi : p l[i0] = true := by
      have := List.findIdx_getElem (xs := l) (p := p) (w := by omega)
      simpa [hi0] using this
    have HI := Lib.hid hidx
    have hst1 : stay p (l.take (i0 + 1)) = l.take i0 := by rw [stay_snoc p l i0 hi0l, hpi, if_pos rfl, hst0]
    have HP := Lib.hid hp
    have HP0 := Lib.hid hp0
    have HCF := Lib.hid hcf
    have hne : ((i0 : Int) == -1) = false := by rw [beq_eq_false_iff_ne]; omega
    have hi00 : (0 : Int) ≤ (i0 : Int) := Int.natCast_nonneg _
    have hwi : IntKind.i64.wrap ((i0 : Int) + 1) = (i0 : Int) + 1 := IntWalk.i64_in _ (by omega)
    clear hany hp hvw hp0 hcf hidx hi0 hpi hst0
    have HST1 := Lib.hid hst1
    clear hst1
    go_enter Tryz.func173, Tryz.ntmps173
    go_wp2_with fail
    refine (IndexFunc_any No _ l w h.readNo f c0 p HCF.out (fun x _ => HP0.out x)).mono ?_
    rintro e w' ⟨rfl, rfl⟩
    rw [HI.out]
    go_wp2_with fail
    go_loopw [5, 6] (fun i j wr => ∃ (k c : Nat) (m : List Int), k ≤ l.length ∧ j = .int .i64 (k : Int) ∧ i = .int .i64 (c : Int) ∧ c < k ∧ m.length = l.length ∧ Hid (c = (stay p (l.take k)).length) ∧ Hid (m.take c = stay p (l.take k)) ∧ Hid (m.drop k = l.drop k) ∧
        OI base wr (.slice (some ⟨g, 0, none⟩) l.length cap) m ∧ Chg (own (.slice (some ⟨g, 0, none⟩) l.length cap)) w wr) (fun _ j _ => l.length - (intOf j).toNat)
    case atStart => exact ⟨i0 + 1, i0, l, by omega, by go_num, rfl, by omega, rfl, Lib.hid (by rw [HST1.out, List.length_take]; omega), Lib.hid HST1.out.symm, Lib.hid rfl, h, Chg.refl _ _⟩
    case round =>
      obtain ⟨k, c, m, hk, rfl, rfl, hck, hml, HC, HT, HD, ho, hch⟩ := hrel
      have hk0 : (0 : Int) ≤ (k : Int) := Int.natCast_nonneg _
      have hc0 : (0 : Int) ≤ (c : Int) := Int.natCast_nonneg _
      by_cases hlt : k < l.length
      · have hcl := ho.at.1 k (by omega)
        obtain ⟨y, hy⟩ : ∃ y, m.getD k 0 = y := ⟨_, rfl⟩
        rw [hy] at hcl
        have hly : l[k] = y := by
          have h1 := congrArg (fun z => z.getD 0 0) HD.out
          simp only [List.getD_eq_getElem?_getD, List.getElem?_drop, Nat.add_zero] at h1
          rw [← hy, List.getD_eq_getElem?_getD, h1, List.getElem?_eq_getElem hlt]; rfl
        have hsn := stay_snoc p l k hlt
        rw [hly] at hsn
        have HML := Lib.hid hml
        have HY := Lib.hid hy
        have hk1 : (k : Int) < (l.length : Int) := by omega
        have hw1 : IntKind.i64.wrap ((k : Int) + 1) = (k : Int) + 1 := IntWalk.i64_in _ (by omega)
        have hw2 : IntKind.i64.wrap ((c : Int) + 1) = (c : Int) + 1 := IntWalk.i64_in _ (by omega)
        have hc1 : (c : Int) < (l.length : Int) := by omega
        have hD1 : m.drop (k + 1) = l.drop (k + 1) := by
          have := congrArg (List.drop 1) HD.out
          rwa [List.drop_drop, List.drop_drop] at this
        have hcc := ho.at.1 c (by omega)
        have hcf' := ho.at.2.1 c
        obtain ⟨s1, s2⟩ := ho.store c y
        have HSN := Lib.hid hsn
        have HD1 := Lib.hid hD1
        have HCF1 := HCF.out
        clear hml hy hly hsn hD1
        go_wp2_with fail
        clear HCF1
        refine (HP.out wr hch y).mono ?_
        rintro e w' ⟨rfl, rfl⟩
        cases hpy : p y
        · go_wp2_with fail
          go_round
          case rel =>
            have hs := HSN.out
            rw [hpy] at hs
            simp only [Bool.false_eq_true, if_false] at hs
            have hml := HML.out
            exact ⟨k + 1, c + 1, m.set c y, by omega, by go_num, by go_num, by omega, by simpa using hml, Lib.hid (by rw [hs, List.length_append, List.length_singleton, ← HC.out]), Lib.hid (by
              rw [hs, ← HT.out, List.take_set, List.take_succ_eq_append_getElem (by omega), List.set_append_right _ _ (by simp; omega)]
              simp [show c - min c m.length = 0 by omega]), Lib.hid (by rw [List.drop_set_of_lt (by omega), HD1.out]), s1, hch.step s2 (fun q hq _ => own_slice.2 hq)⟩
          case measure => simp [intOf]; omega
        · go_wp2_with fail
          go_round
          case rel =>
            have hs := HSN.out
            rw [hpy] at hs
            simp only [if_true] at hs
            exact ⟨k + 1, c, m, by omega, by go_num, rfl, by omega, HML.out, Lib.hid (by rw [hs]; exact HC.out), Lib.hid (by rw [hs]; exact HT.out), HD1, ho, hch⟩
          case measure => simp [intOf]; omega
      · have hkl : k = l.length := by omega
        subst hkl
        have hcl : c ≤ m.length := by omega
        have hT := HT.out
        rw [List.take_length] at hT
        obtain ⟨x, wc, hx1, hx2, oc, kc⟩ := run_clearN wr ho c hcl
        have HTT := Lib.hid hT
        clear hT
        have HX2 := Lib.hid hx2
        clear hx2
        go_wp2_with (refine wclear_run rfl (.tmp 38) 23 rfl (HX2.out _) ?_)
        go_ret
        exact ⟨_, rfl, by rw [← HTT.out]; exact oc, hch.step kc (fun q hq _ => own_slice.2 hq), fun q hq => own_slice.2 (own_slice.1 hq)⟩
/-- all numbers of one list are in another one -/
def partB (a b : List Int) : Bool := a.all (hasB b)
theorem partB_snoc (a b : List Int) (k : Nat) (h : k < a.length) : partB (a.take (k + 1)) b = (partB (a.take k) b && hasB b a[k]) := by
  rw [List.take_succ_eq_append_getElem h, partB, List.all_append]; simp [partB]
theorem partB_stop (a b : List Int) (k : Nat) (h : k < a.length) (hk : hasB b a[k] = false) : partB a b = false := by
  unfold partB
  rw [List.all_eq_false]
  exact ⟨a[k], List.getElem_mem h, by simp [hk]⟩
theorem gone_part (a b : List Int) : decide (0 < ((diffL (stay (hasB b) a)).length : Int)) = !partB a b := by
  have : (diffL (stay (hasB b) a)).length = 0 ↔ partB a b = true := by
    rw [List.length_eq_zero_iff, partB, List.all_eq_true]
    constructor
    · intro h x hx
      cases hb : hasB b x
      · have : x ∈ diffL (stay (hasB b) a) := diffL_mem.2 (List.mem_filter.2 ⟨hx, by simp [hb]⟩)
        rw [h] at this; simp at this
      · rfl
    · intro h
      have hs : stay (hasB b) a = [] := by
        unfold stay
        rw [List.filter_eq_nil_iff]
        intro x hx
        simp [h x hx]
      rw [hs]; rfl
  cases hp : partB a b
  · have : ¬ (diffL (stay (hasB b) a)).length = 0 := fun e => by rw [this.1 e] at hp; cases hp
    simp; omega
  · have := this.2 hp
    simp [this]

def inclTo (p k : Int) (l : List Int) (i : Nat) : Bool := !partB ((pagesTo (newC p k) l l.length).getD i []) ((pagesTo (newC p (k + 1)) l l.length).getD i [])
/-- the first place where the smaller cache holds what the greater one does not -/
def inclV (n p k : Int) (l : List Int) : Option Nat := if askedB n p k l && !(k == 6) then firstN (inclTo p k l) l.length else none
theorem asked_next {n p k : Int} {l : List Int} (h : askedB n p k l = true) (h6 : (k == 6) = false) : Ok (newC p (k + 1)) := by
  simp only [askedB, Bool.and_eq_true, inB_iff] at h
  rw [beq_eq_false_iff_ne] at h6
  exact ok_new h.1.1 ⟨by omega, by omega⟩
end Go.Proofs.YtccmocbkpanibaaGreat

/- phases, and what leaves a cache: plain -/
namespace Go.Proofs.YtccmocbkpanibaaGreat

/-- after j requests: where the phase of the last of them begins -/
def startP (k : Int) (l : List Int) : Nat → Nat
  | 0 => 0
  | j + 1 => if decide (j = 0) || decide (k < ((diffL ((l.take (j + 1)).drop (startP k l j))).length : Int)) then j else startP k l j
/-- a phase begins at place j -/
def newB (k : Int) (l : List Int) (j : Nat) : Bool := decide (j = 0) || decide (k < ((diffL ((l.take (j + 1)).drop (startP k l j))).length : Int))
theorem startP_succ (k : Int) (l : List Int) (j : Nat) : startP k l (j + 1) = if newB k l j then j else startP k l j := rfl
/-- the places below j at which a phase begins -/
def phF (k : Int) (l : List Int) : Nat → List Int
  | 0 => []
  | j + 1 => if newB k l j then phF k l j ++ [(j : Int)] else phF k l j
theorem phF_succ (k : Int) (l : List Int) (j : Nat) : phF k l (j + 1) = if newB k l j then phF k l j ++ [(j : Int)] else phF k l j := rfl
theorem startP_le (k : Int) (l : List Int) (j : Nat) : startP k l j ≤ j := by
  induction j with
  | zero => exact Nat.le_refl _
  | succ j ih => rw [startP_succ]; split <;> omega
theorem startP_lt (k : Int) (l : List Int) (j : Nat) : startP k l (j + 1) ≤ j := by
  rw [startP_succ]; split
  · exact Nat.le_refl _
  · exact startP_le k l j
theorem phF_len (k : Int) (l : List Int) (j : Nat) : (phF k l j).length ≤ j := by
  induction j with
  | zero => exact Nat.le_refl _
  | succ j ih =>
    rw [phF_succ]
    split
    · simp; omega
    · omega
theorem phF_pos (k : Int) (l : List Int) (j : Nat) : 0 < (phF k l (j + 1)).length := by
  induction j with
  | zero => simp [phF, newB]
  | succ j ih =>
    rw [phF_succ]
    split
    · simp
    · exact ih
theorem phF_last (k : Int) (l : List Int) (j : Nat) : (phF k l (j + 1)).getD ((phF k l (j + 1)).length - 1) 0 = (startP k l (j + 1) : Int) := by
  induction j with
  | zero => simp [phF, newB, startP]
  | succ j ih =>
    rw [phF_succ k l (j + 1), startP_succ k l (j + 1)]
    split
    · rw [List.getD_eq_getElem?_getD, List.length_append, List.length_singleton, Nat.add_sub_cancel, List.getElem?_append_right (Nat.le_refl _)]
      simp
    · exact ih
theorem phF_has (k : Int) (l : List Int) (n i : Nat) : hasB (phF k l n) (i : Int) = (decide (i < n) && newB k l i) := by
  induction n with
  | zero => simp [phF, hasB]
  | succ n ih =>
    rw [phF_succ]
    by_cases hb : newB k l n = true
    · rw [if_pos hb]
      have e : hasB (phF k l n ++ [(n : Int)]) (i : Int) = (hasB (phF k l n) (i : Int) || decide (i = n)) := by
        unfold hasB
        rw [List.contains_append]
        congr 1
        by_cases h : i = n
        · subst h; simp
        · simp [h]; omega
      rw [e, ih]
      by_cases h : i = n
      · subst h; simp [hb]
      · have : decide (i < n + 1) = decide (i < n) := by
          by_cases h2 : i < n
          · simp [h2]; omega
          · simp [h2]; omega
        rw [this]; simp [h]
    · rw [if_neg hb, ih]
      by_cases h : i = n
      · subst h; simp [hb]
      · have : decide (i < n + 1) = decide (i < n) := by
          by_cases h2 : i < n
          · simp [h2]; omega
          · simp [h2]; omega
        rw [this]
/-- the last of the numbers that is at most i -/
def lastLE (i : Int) (a : List Int) : Int := a.foldl (fun f x => if x ≤ i then x else f) 0
theorem lastLE_snoc (i : Int) (a : List Int) (x : Int) : lastLE i (a ++ [x]) = if x ≤ i then x else lastLE i a := by simp [lastLE, List.foldl_append]
theorem lastLE_take (i : Int) (a : List Int) (q : Nat) (h : q < a.length) : lastLE i (a.take (q + 1)) = if a[q] ≤ i then a[q] else lastLE i (a.take q) := by
  rw [List.take_succ_eq_append_getElem h, lastLE_snoc]
theorem lastLE_full (k : Int) (l : List Int) (i : Nat) : ∀ n : Nat, n ≤ i + 1 → lastLE i (phF k l n) = startP k l n := by
  intro n
  induction n with
  | zero => intro _; rfl
  | succ n ih =>
    intro h
    rw [phF_succ, startP_succ]
    split
    · rw [lastLE_snoc, if_pos (by omega)]
    · exact ih (by omega)
theorem lastLE_phF (k : Int) (l : List Int) (i : Nat) : ∀ n : Nat, i < n → lastLE i (phF k l n) = startP k l (i + 1) := by
  intro n
  induction n with
  | zero => intro h; omega
  | succ n ih =>
    intro h
    by_cases hi : i = n
    · subst hi; exact lastLE_full k l i (i + 1) (Nat.le_refl _)
    · rw [phF_succ]
      split
      · rw [lastLE_snoc, if_neg (by omega)]; exact ih (by omega)
      · exact ih (by omega)
/-- what the reference keeps of a phase -/
theorem items_succ (k : Int) (l : List Int) (j : Nat) (hj : j < l.length) :
    putL (diffL ((l.take j).drop (startP k l j))) l[j] = diffL ((l.take (j + 1)).drop (startP k l j)) := by
  rw [List.take_succ_eq_append_getElem hj, List.drop_append_of_le_length (by rw [List.length_take]; have := startP_le k l j; omega), diffL_append]
theorem items_new (l : List Int) (j : Nat) (hj : j < l.length) : diffL ((l.take (j + 1)).drop j) = [l[j]] := by
  rw [List.take_succ_eq_append_getElem hj, List.drop_append_of_le_length (by rw [List.length_take]; omega), List.drop_of_length_le (by rw [List.length_take]; omega)]
  rfl

theorem nod_inj {l : List Int} (h : l.Nodup) {i j : Nat} (hi : i < l.length) (hj : j < l.length) (e : l[i] = l[j]) : i = j := by
  have hp := List.pairwise_iff_getElem.1 h
  rcases Nat.lt_trichotomy i j with h1 | h1 | h1
  · exact absurd e (hp i j hi hj h1)
  · exact h1
  · exact absurd e.symm (hp j i hj hi h1)
theorem gone_erase {l : List Int} (h : l.Nodup) {v : Nat} (hv : v < l.length) (y : Int) : (y ∈ l ∧ y ∉ l.eraseIdx v) ↔ y = l[v] := by
  rw [List.mem_eraseIdx_iff_getElem]
  constructor
  · rintro ⟨h1, h2⟩
    obtain ⟨i, hi, rfl⟩ := List.mem_iff_getElem.1 h1
    by_cases e : i = v
    · subst e; rfl
    · exact absurd ⟨i, hi, e, rfl⟩ h2
  · rintro rfl
    refine ⟨List.getElem_mem hv, ?_⟩
    rintro ⟨i, hi, hne, he⟩
    exact hne (nod_inj h hi hv he)
theorem gone_set {l : List Int} (h : l.Nodup) {v : Nat} (hv : v < l.length) {x : Int} (hx : x ∉ l) (y : Int) : (y ∈ l ∧ y ∉ l.set v x) ↔ y = l[v] := by
  constructor
  · rintro ⟨h1, h2⟩
    obtain ⟨i, hi, rfl⟩ := List.mem_iff_getElem.1 h1
    by_cases e : i = v
    · subst e; rfl
    · refine absurd (List.mem_iff_getElem.2 ⟨i, by simpa using hi, ?_⟩) h2
      rw [List.getElem_set_ne (fun h => e h.symm)]
  · rintro rfl
    refine ⟨List.getElem_mem hv, fun hm => ?_⟩
    obtain ⟨i, hi, he⟩ := List.mem_iff_getElem.1 hm
    rw [List.getElem_set] at he
    split at he
    · exact hx (he ▸ List.getElem_mem hv)
    · rename_i hne
      exact hne (nod_inj h (by simpa using hi) hv he).symm
theorem nod_set {l : List Int} (h : l.Nodup) (v : Nat) {x : Int} (hx : x ∉ l) : (l.set v x).Nodup := by
  refine List.pairwise_iff_getElem.2 (fun i j hi hj hij => ?_)
  rw [List.length_set] at hi hj
  rw [List.getElem_set, List.getElem_set]
  split
  · split
    · omega
    · exact fun e => hx (e ▸ List.getElem_mem hj)
  · split
    · exact fun e => hx (e ▸ List.getElem_mem hi)
    · exact fun e => absurd (nod_inj h hi hj e) (by omega)
theorem nod_erase {l : List Int} (h : l.Nodup) (v : Nat) : (l.eraseIdx v).Nodup := h.sublist (List.eraseIdx_sublist l v)
theorem nod_front {l : List Int} (h : l.Nodup) (v : Nat) (hv : v < l.length) : (l[v] :: l.eraseIdx v).Nodup :=
  List.nodup_cons.2 ⟨((gone_erase h hv l[v]).2 rfl).2, nod_erase h v⟩
theorem hasB_false {l : List Int} {x : Int} : hasB l x = false ↔ x ∉ l := by simp [hasB]
theorem hasB_true {l : List Int} {x : Int} : hasB l x = true ↔ x ∈ l := by simp [hasB]
theorem nod_step {c : Ca} (h : c.pages.Nodup) (x : Int) : (stepC c x).pages.Nodup := by
  unfold stepC
  split
  · rename_i hh
    rcases atI_spec c.pages x with ⟨_, k, hk, he⟩ | ⟨hn, _⟩
    · rw [he]
      unfold hitC
      split
      · simp only [Int.toNat_natCast, List.getD_eq_getElem?_getD, List.getElem?_eq_getElem hk, Option.getD_some]
        exact nod_front h k hk
      · split
        · exact h
        · split <;> exact h
    · rw [hn] at hh; cases hh
  · rename_i hh
    have hx : x ∉ c.pages := hasB_false.1 (by simpa using hh)
    unfold faultC
    split
    · unfold clockC
      split
      · rw [List.nodup_append]
        exact ⟨h, by simp, fun a ha b hb => by
          rw [List.mem_singleton] at hb
          subst hb
          exact fun e => hx (e ▸ ha)⟩
      · exact nod_set h _ hx
    · refine List.nodup_cons.2 ⟨?_, ?_⟩
      · split
        · split
          · simp
          · exact fun hm => hx (List.mem_of_mem_eraseIdx hm)
        · exact hx
      · split
        · split
          · simp
          · exact nod_erase h _
        · exact h
theorem nod_run {c : Ca} (h : c.pages.Nodup) (l : List Int) : (runC c l).pages.Nodup := by
  induction l generalizing c with
  | nil => exact h
  | cons x l ih => exact ih (nod_step h x)
/-- what a request puts out -/
def victL (c : Ca) (x : Int) : List Int := if hasB c.pages x || decide ((c.pages.length : Int) < c.size) then [] else if c.pol = 4 then diffL c.pages else [c.pages.getD (victim c) 0]
theorem victim_in {c : Ca} (h : Ok c) (hf : ¬ (c.pages.length : Int) < c.size) : victim c < c.pages.length := by
  have hs := h.size
  have hl := h.len
  by_cases h6 : c.pol = 6
  · have hh := h.hand
    obtain ⟨_, t2, _⟩ := turn_props c.size.toNat (by omega) (c.marks.length + 1) c.marks c.hand.toNat (by omega)
    unfold victim
    rw [if_neg (by omega), if_neg (by omega), if_pos h6]
    unfold turned
    omega
  · exact victim_lt h (by omega) h6
theorem gone_mem {c : Ca} (h : Ok c) (hn : c.pages.Nodup) (x y : Int) : y ∈ diffL (stay (hasB (stepC c x).pages) c.pages) ↔ y ∈ victL c x := by
  have hs := h.size
  have hl := h.len
  have hst : y ∈ diffL (stay (hasB (stepC c x).pages) c.pages) ↔ y ∈ c.pages ∧ y ∉ (stepC c x).pages := by
    rw [diffL_mem, stay, List.mem_filter]
    simp [hasB]
  rw [hst]
  unfold victL stepC
  cases hh : hasB c.pages x
  · have hx := hasB_false.1 hh
    simp only [Bool.false_or, Bool.false_eq_true, if_false]
    by_cases hf : (c.pages.length : Int) < c.size
    · rw [if_pos (by simpa using hf)]
      simp only [List.not_mem_nil, iff_false, not_and, Classical.not_not]
      intro hy
      unfold faultC
      split
      · unfold clockC; rw [if_pos hf]; exact List.mem_append_left _ hy
      · rw [if_neg (by omega)]; exact List.mem_cons_of_mem _ hy
    · rw [if_neg (by simpa using hf)]
      have hv := victim_in h hf
      have hfe : (c.pages.length : Int) = c.size := by omega
      have hne : ∀ {m : List Int}, (y ∈ c.pages ∧ y ∉ x :: m) ↔ (y ∈ c.pages ∧ y ∉ m) := fun {m} => by
        constructor
        · rintro ⟨h1, h2⟩; exact ⟨h1, fun h => h2 (List.mem_cons_of_mem _ h)⟩
        · rintro ⟨h1, h2⟩
          refine ⟨h1, fun h => ?_⟩
          rcases List.mem_cons.1 h with rfl | h
          · exact hx h1
          · exact h2 h
      have hgd : c.pages.getD (victim c) 0 = c.pages[victim c] := by rw [List.getD_eq_getElem?_getD, List.getElem?_eq_getElem hv]; rfl
      by_cases h4 : c.pol = 4
      · rw [if_pos h4, diffL_mem]
        unfold faultC
        rw [if_neg (by omega), if_pos hfe, if_pos h4]
        simp only [hne]
        simp
      · rw [if_neg h4, List.mem_singleton, hgd]
        unfold faultC
        by_cases h6 : c.pol = 6
        · rw [if_pos h6]
          unfold clockC
          rw [if_neg hf]
          have e : (turned c).2 = victim c := by unfold victim; rw [if_neg (by omega), if_neg (by omega), if_pos h6]
          simp only [e]
          exact gone_set hn hv hx y
        · rw [if_neg h6, if_pos hfe, if_neg h4]
          simp only [hne]
          exact gone_erase hn hv y
  · simp only [Bool.true_or, if_true, List.not_mem_nil, iff_false, not_and, Classical.not_not]
    intro hy
    rcases atI_spec c.pages x with ⟨_, k, hk, he⟩ | ⟨hn', _⟩
    · rw [he]
      unfold hitC
      split
      · simp only [Int.toNat_natCast, List.getD_eq_getElem?_getD, List.getElem?_eq_getElem hk, Option.getD_some]
        by_cases e : y = c.pages[k]
        · rw [e]; exact List.mem_cons_self
        · refine List.mem_cons_of_mem _ (Classical.byContradiction fun hm => e ((gone_erase hn hk y).1 ⟨hy, hm⟩))
      · split
        · exact hy
        · split <;> exact hy
    · rw [hn'] at hh; cases hh
/-- two lists have a number in common -/
def comB (a b : List Int) : Bool := a.any (hasB b)
theorem comB_same {a a' : List Int} (b : List Int) (h : ∀ y, y ∈ a ↔ y ∈ a') : comB a b = comB a' b := by
  unfold comB
  rw [Bool.eq_iff_iff, List.any_eq_true, List.any_eq_true]
  constructor
  · rintro ⟨y, h1, h2⟩; exact ⟨y, (h y).1 h1, h2⟩
  · rintro ⟨y, h1, h2⟩; exact ⟨y, (h y).2 h1, h2⟩
theorem comB_snoc (a b : List Int) (k : Nat) (h : k < a.length) : comB (a.take (k + 1)) b = (comB (a.take k) b || hasB b a[k]) := by
  rw [List.take_succ_eq_append_getElem h, comB, List.any_append]; simp [comB]
theorem comB_hit (a b : List Int) (k : Nat) (h : k < a.length) (hk : hasB b a[k] = true) : comB a b = true := List.any_eq_true.2 ⟨a[k], List.getElem_mem h, hk⟩
/-- place j breaks the rule of marking -/
def breakB (p k : Int) (l : List Int) (j : Nat) : Bool := comB (victL (runC (newC p k) (l.take j)) (l.getD j 0)) ((l.take j).drop (startP k l (j + 1)))
def markV (n p k : Int) (l : List Int) : Option Nat := if askedB n p k l then firstN (breakB p k l) l.length else none
theorem break_gone {p k : Int} (hok : Ok (newC p k)) (l : List Int) (j : Nat) (hj : j < l.length) :
    comB (diffL (stay (hasB (runC (newC p k) (l.take (j + 1))).pages) (runC (newC p k) (l.take j)).pages)) ((l.take j).drop (startP k l (j + 1))) = breakB p k l j := by
  rw [runC_snoc _ _ _ hj, breakB]
  have e : l.getD j 0 = l[j] := by rw [List.getD_eq_getElem?_getD, List.getElem?_eq_getElem hj]; rfl
  rw [e]
  exact comB_same _ (fun y => gone_mem (ok_run hok _) (nod_run (by simp [newC]) _) _ y)
end Go.Proofs.YtccmocbkpanibaaGreat

/- CruelItem, both sides -/
namespace Go.Proofs.YtccmocbkpanibaaGreat
open Go.RowKit

theorem sub_len : ∀ (l m : List Int), l.Nodup → (∀ x, x ∈ l → x ∈ m) → l.length ≤ m.length
  | [], _, _, _ => Nat.zero_le _
  | x :: l, m, hn, h => by
    rw [List.nodup_cons] at hn
    have hx := h x (by simp)
    have h1 := sub_len l (m.erase x) hn.2 (fun y hy => (List.mem_erase_of_ne (fun e => hn.1 (by rw [← e]; exact hy))).2 (h y (by simp [hy])))
    rw [List.length_erase_of_mem hx] at h1
    have := List.length_pos_of_mem hx
    simp only [List.length_cons]
    omega
def upTo (n : Nat) : List Int := (List.range n).map (fun k : Nat => (k : Int))
theorem upTo_mem {n : Nat} {x : Int} : x ∈ upTo n ↔ 0 ≤ x ∧ x < n := by
  simp only [upTo, List.mem_map, List.mem_range]
  constructor
  · rintro ⟨k, hk, rfl⟩; omega
  · intro h; exact ⟨x.toNat, by omega, by omega⟩
theorem upTo_nod (n : Nat) : (upTo n).Nodup := by
  unfold upTo
  rw [List.nodup_iff_pairwise_ne, List.pairwise_map]
  exact (List.nodup_iff_pairwise_ne.1 List.nodup_range).imp (fun h e => h (by omega))
theorem upTo_len (n : Nat) : (upTo n).length = n := by simp [upTo]
/-- the least number that is not in a list -/
def IsMiss (l : List Int) (m : Nat) : Prop := (m : Int) ∉ l ∧ ∀ q : Nat, q < m → (q : Int) ∈ l
theorem miss_to (l : List Int) (n : Nat) : (∀ q : Nat, q < n → (q : Int) ∈ l) ∨ ∃ m, m < n ∧ IsMiss l m := by
  induction n with
  | zero => exact .inl (fun q h => absurd h (Nat.not_lt_zero q))
  | succ n ih =>
    rcases ih with h | ⟨m, h1, h2⟩
    · by_cases hn : (n : Int) ∈ l
      · refine .inl (fun q hq => ?_)
        by_cases e : q = n
        · rw [e]; exact hn
        · exact h q (by omega)
      · exact .inr ⟨n, by omega, hn, h⟩
    · exact .inr ⟨m, by omega, h2⟩
theorem miss_le {l : List Int} {n : Nat} (h : ∀ q : Nat, q < n → (q : Int) ∈ l) : n ≤ l.length := by
  have := sub_len (upTo n) l (upTo_nod n) (fun x hx => by
    have := upTo_mem.1 hx
    have := h x.toNat (by omega)
    rwa [show ((x.toNat : Nat) : Int) = x by omega] at this)
  rwa [upTo_len] at this
theorem miss_ex (l : List Int) : ∃ m, m ≤ l.length ∧ IsMiss l m := by
  rcases miss_to l (l.length + 1) with h | ⟨m, h1, h2⟩
  · have := miss_le h; omega
  · exact ⟨m, by omega, h2⟩
theorem step_pages_in {c : Ca} (x y : Int) (h : y ∈ (stepC c x).pages) : y ∈ c.pages ∨ y = x := by
  have he : ∀ (l : List Int) (i : Nat), y ∈ l.eraseIdx i → y ∈ l := fun l i h => List.mem_of_mem_eraseIdx h
  unfold stepC at h
  split at h
  · unfold hitC at h
    split at h
    · simp only at h
      rcases List.mem_cons.1 h with e | e
      · left
        by_cases hi : (atI c.pages x).toNat < c.pages.length
        · rw [e]; exact getD_mem hi
        · rename_i hh _
          rcases atI_spec c.pages x with ⟨_, k, hk, hk2⟩ | ⟨h1, _⟩
          · rw [hk2] at hi; omega
          · rw [h1] at hh; cases hh
      · exact .inl (he _ _ e)
    · split at h
      · exact .inl h
      · split at h
        · exact .inl h
        · exact .inl h
  · unfold faultC at h
    split at h
    · unfold clockC at h
      split at h
      · simp only [List.mem_append, List.mem_singleton] at h; exact h
      · simp only at h
        rcases List.mem_or_eq_of_mem_set h with e | e
        · exact .inl e
        · exact .inr e
    · simp only at h
      rcases List.mem_cons.1 h with e | e
      · exact .inr e
      · left
        split at e
        · split at e
          · cases e
          · exact he _ _ e
        · exact e
theorem run_mem (l : List Int) : ∀ (c : Ca) (y : Int), y ∈ (runC c l).pages → y ∈ c.pages ∨ y ∈ l := by
  induction l with
  | nil => intro c y h; exact .inl h
  | cons x l ih =>
    intro c y h
    rcases ih (stepC c x) y h with e | e
    · rcases step_pages_in x y e with e | e
      · exact .inl e
      · exact .inr (by simp [e])
    · exact .inr (by simp [e])
/-- what a valid Tournament's Players hold -/
theorem tour_pages {t : To} (ht : tourB t = true) {i : Nat} (hi : i < t.ps.length) : (t.ps.getD i dPl).ca.pages.Nodup ∧ ∀ x ∈ (t.ps.getD i dPl).ca.pages, 0 ≤ x ∧ x < t.items := by
  simp only [tourB, reqB, Bool.and_eq_true, decide_eq_true_eq] at ht
  obtain ⟨⟨⟨_, _⟩, hbel⟩, _, hall⟩ := ht
  have hp : playB (t.ps.getD i dPl) t.reqs = true := by
    rw [List.all_eq_true] at hall
    have := hall t.ps[i] (List.getElem_mem hi)
    rwa [List.getD_eq_getElem?_getD, List.getElem?_eq_getElem hi]
  generalize t.ps.getD i dPl = x at hp
  simp only [playB, sameB, Bool.and_eq_true, beq_iff_eq] at hp
  have hpg := hp.2.1.2.2.2.1
  rw [← hpg]
  show (runC (newC x.ca.pol x.ca.size) (t.reqs.drop x.frm.toNat)).pages.Nodup ∧ _
  refine ⟨nod_run (c := newC x.ca.pol x.ca.size) List.nodup_nil _, fun y hy => ?_⟩
  have hy : y ∈ (runC (newC x.ca.pol x.ca.size) (t.reqs.drop x.frm.toNat)).pages := hy
  rcases run_mem _ _ y hy with e | e
  · cases e
  · have hm := List.mem_of_mem_drop e
    simp only [belowB, List.all_eq_true] at hbel
    have := inB_iff.1 (hbel y hm)
    omega
def hasP (t : To) (i : Int) : Bool := inB i 0 ((t.ps.length : Int) - 1)
def okCruel (t : To) (i : Int) : Bool := tourB t && hasP t i && !(((t.ps.getD i.toNat dPl).ca.pages.length : Int) == t.items)
theorem miss_lt {t : To} (ht : tourB t = true) {i : Nat} (hi : i < t.ps.length) {m : Nat} (hm : IsMiss (t.ps.getD i dPl).ca.pages m) : ((m : Int) < t.items) ↔ ¬ (((t.ps.getD i dPl).ca.pages.length : Int) = t.items) := by
  obtain ⟨h1, h2⟩ := tour_pages ht hi
  have hit : 1 ≤ t.items ∧ t.items ≤ 8 := by
    simp only [tourB, reqB, Bool.and_eq_true, inB_iff] at ht; exact ht.1.1.1
  generalize (t.ps.getD i dPl).ca.pages = l at h1 h2 hm
  have hsub : ∀ x, x ∈ l → x ∈ upTo t.items.toNat := fun x hx => upTo_mem.2 (by have := h2 x hx; omega)
  constructor
  · intro hlt e
    have := sub_len ((m : Int) :: l) (upTo t.items.toNat) (List.nodup_cons.2 ⟨hm.1, h1⟩) (fun x hx => by
      rcases List.mem_cons.1 hx with e | e
      · rw [e]; exact upTo_mem.2 (by omega)
      · exact hsub x e)
    rw [upTo_len, List.length_cons] at this
    omega
  · intro hne
    have h3 := sub_len l (upTo t.items.toNat) h1 hsub
    rw [upTo_len] at h3
    by_cases hlt : (m : Int) < t.items
    · exact hlt
    · have := miss_le (l := l) (n := t.items.toNat) (fun q hq => hm.2 q (by omega))
      omega

set_option maxHeartbeats 400000 in
theorem l12Has_any (v : Value) (t : To) (i : Int) (w : World) (h : RT No w v t) :
    Calls Tryz.prog 70 #[v, .int .i64 i] w (Ret fun r w' => r = .bool (hasP t i) ∧ Chg No w w') := by
  obtain ⟨it, ps, rq⟩ := t
  obtain ⟨pv, rv, rfl, hps, hrq⟩ := h
  simp only at hps hrq ⊢
  obtain ⟨ra, rn, rc, rfl⟩ := hrq.shape
  obtain ⟨a, cap, rfl, hcap, hmax, hlen, _⟩ := id hps
  have k0 := (Chg.refl No w).alloc (.cells #[.int .i64 it, .slice a ps.length cap, .slice ra rn rc] 31)
  have hw1 : IntKind.i64.wrap ((ps.length : Int) - 1) = (ps.length : Int) - 1 := IntWalk.i64_in _ (by omega)
  go_enter Tryz.func70, Tryz.ntmps70
  go_wp2_with fail
  refine (l1In_any _ _ _ _).mono ?_
  rintro e w1 ⟨rfl, rfl⟩
  go_wp2_with fail
  go_ret
  exact ⟨_, rfl, rfl, k0⟩

set_option maxHeartbeats 400000 in
theorem isPlayer_any (v : Value) (t : To) (i : Int) (w : World) (h : RT No w v t) :
    Calls Tryz.prog 67 #[v, .int .i64 i] w (Ret fun r w' => r = .bool (hasP t i) ∧ Chg No w w') := by
  obtain ⟨it, ps, rq⟩ := t
  obtain ⟨pv, rv, rfl, hps, hrq⟩ := h
  simp only at hps hrq ⊢
  obtain ⟨ra, rn, rc, rfl⟩ := hrq.shape
  obtain ⟨a, cap, rfl, hcap, hmax, hlen, _⟩ := id hps
  have k0 := (Chg.refl No w).alloc (.cells #[.int .i64 it, .slice a ps.length cap, .slice ra rn rc] 31)
  have hw1 : IntKind.i64.wrap ((ps.length : Int) - 1) = (ps.length : Int) - 1 := IntWalk.i64_in _ (by omega)
  go_enter Tryz.func67, Tryz.ntmps67
  go_wp2_with fail
  refine (within_any _ _ _ _).mono ?_
  rintro e w1 ⟨rfl, rfl⟩
  go_wp2_with fail
  go_ret
  exact ⟨_, rfl, rfl, k0⟩

set_option maxRecDepth 100000 in
set_option maxHeartbeats 1000000 in
theorem l7Missing_any (v : Value) (l : List Int) (m : Nat) (w : World) (h : RI No w v l) (hm : IsMiss l m) :
    Calls Tryz.prog 73 #[v] w fun e w' => e = .returned (.int .i64 (m : Int)) ∧ w = w' := by
  have hml := miss_le hm.2
  have hL := h.len
  obtain ⟨a, n, cap, rfl⟩ := h.shape
  have HM := Lib.hid hm
  clear hm
  go_enter Tryz.func73, Tryz.ntmps73
  go_wp2_with fail
  go_loop [3] (fun i => ∃ j : Nat, j ≤ m ∧ i = .int .i64 j) (fun i => m - (intOf i).toNat)
  case atStart => exact ⟨0, Nat.zero_le _, rfl⟩
  case round =>
    obtain ⟨j, hj, rfl⟩ := hrel
    have hw1 : IntKind.i64.wrap ((j : Int) + 1) = (j : Int) + 1 := IntWalk.i64_in _ (by omega)
    by_cases hlt : j < m
    · have hh : hasB l (j : Int) = true := hasB_true.2 (HM.out.2 j hlt)
      go_wp2_with fail
      refine (l1Has_any No _ l _ _ h).mono ?_
      rintro e w1 ⟨rfl, rfl⟩
      rw [hh]
      go_wp2_with fail
      go_round
      case rel => exact ⟨j + 1, by omega, by go_num⟩
      case measure => simp [intOf]; omega
    · have hjm : j = m := by omega
      subst hjm
      have hh : hasB l (j : Int) = false := hasB_false.2 HM.out.1
      go_wp2_with fail
      refine (l1Has_any No _ l _ _ h).mono ?_
      rintro e w1 ⟨rfl, rfl⟩
      rw [hh]
      go_wp2_with fail
      go_ret
      exact ⟨rfl, rfl⟩

set_option maxRecDepth 100000 in
set_option maxHeartbeats 1000000 in
theorem cruel_any (v : Value) (t : To) (i : Nat) (m : Nat) (w : World) (h : RT No w v t) (hi : i < t.ps.length) (hm : IsMiss (t.ps.getD i dPl).ca.pages m) (hit : 1 ≤ t.items ∧ t.items ≤ 8) :
    Calls Tryz.prog 72 #[v, .int .i64 (i : Int)] w (Ret fun r w' => r = .int .i64 (if (m : Int) < t.items then (m : Int) else -1) ∧ Chg No w w') := by
  obtain ⟨it, ps, rq⟩ := t
  obtain ⟨pv, rv, rfl, hps, hrq⟩ := h
  simp only at hps hrq hi hm hit ⊢
  obtain ⟨ra, rn, rc, rfl⟩ := hrq.shape
  obtain ⟨a, cap, rfl, hcap, hmax, hlen, pf, mf, hl, hcl⟩ := id hps
  obtain ⟨b, off, rfl, _, hb, hcell⟩ := hcl (by intro e; simp [e] at hi)
  have h7 := hcell i hi
  obtain ⟨hpj, _⟩ := hl i hi
  obtain ⟨l, hl2⟩ : ∃ l, (ps.getD i dPl).ca.pages = l := ⟨_, rfl⟩
  rw [hl2] at hm hpj
  have d3 := h7.c3
  generalize pf i = pj at hpj d3
  obtain ⟨ya, yn, yc, rfl⟩ := hpj.shape
  have hi0 : (0 : Int) ≤ (i : Int) := Int.natCast_nonneg _
  have hi1 : (i : Int) < (ps.length : Int) := by omega
  have k0 := (Chg.refl No w).alloc (.cells #[.int .i64 it, .slice (some ⟨b, off, none⟩) ps.length cap, .slice ra rn rc] 31)
  have b0 := Box3.new w (.int .i64 it) (.slice (some ⟨b, off, none⟩) ps.length cap) (.slice ra rn rc) 31
  have HM := Lib.hid hm
  obtain ⟨R, hR⟩ : ∃ R, (if (m : Int) < it then (m : Int) else -1) = R := ⟨_, rfl⟩
  rw [hR]
  have HR := Lib.hid hR
  clear hm h7 hcell hcl hl hl2 hR
  go_enter Tryz.func72, Tryz.ntmps72
  go_wp2_with fail
  go_loopw [8] (fun k wr => ∃ j : Nat, (j : Int) ≤ it ∧ j ≤ m ∧ k = .int .i64 j ∧ Box3 wr w.heap.size (.int .i64 it) (.slice (some ⟨b, off, none⟩) ps.length cap) (.slice ra rn rc) ∧ Chg No w wr) (fun k _ => 9 - (intOf k).toNat)
  case atStart => exact ⟨0, by omega, Nat.zero_le _, rfl, b0, k0⟩
  case round =>
    clear b0 k0
    obtain ⟨j, hj, hjm, rfl, hb3, hch⟩ := hrel
    have hw1 : IntKind.i64.wrap ((j : Int) + 1) = (j : Int) + 1 := IntWalk.i64_in _ (by omega)
    by_cases hlt : (j : Int) < it
    · obtain ⟨c0, c1, c2, _⟩ := id hb3
      have d3 := (hch.cellD b _ hb (fun e => e)).trans d3
      by_cases hjl : j < m
      · have hh : hasB l (j : Int) = true := hasB_true.2 (HM.out.2 j hjl)
        go_wp2_with fail
        refine (Contains_any No _ l _ _ (hpj.keep hch)).mono ?_
        rintro e w1 ⟨rfl, rfl⟩
        rw [hh]
        go_wp2_with fail
        go_round
        case rel => exact ⟨j + 1, by omega, by omega, by go_num, hb3, hch⟩
        case measure => simp [intOf]; omega
      · have hje : j = m := by omega
        subst hje
        have hh : hasB l (j : Int) = false := hasB_false.2 HM.out.1
        have HR2 : Hid (R = (j : Int)) := Lib.hid (by rw [← HR.out, if_pos hlt])
        go_wp2_with fail
        refine (Contains_any No _ l _ _ (hpj.keep hch)).mono ?_
        rintro e w1 ⟨rfl, rfl⟩
        rw [hh]
        go_wp2_with fail
        go_ret
        exact ⟨_, rfl, by rw [HR2.out]; rfl, hch⟩
    · have HR2 : Hid (R = -1) := Lib.hid (by rw [← HR.out, if_neg (by omega)])
      go_wp2_with fail
      go_ret
      exact ⟨_, rfl, by rw [HR2.out]; rfl, hch⟩
end Go.Proofs.YtccmocbkpanibaaGreat

/- a step of a Tournament (plain) -/
namespace Go.Proofs.YtccmocbkpanibaaGreat
open Go.RowKit

noncomputable def missOf (l : List Int) : Nat := Classical.choose (miss_ex l)
theorem missOf_spec (l : List Int) : IsMiss l (missOf l) := (Classical.choose_spec (miss_ex l)).2
theorem missOf_le (l : List Int) : missOf l ≤ l.length := (Classical.choose_spec (miss_ex l)).1
/-- what a cruel asker asks of a Cache -/
noncomputable def cruelI (c : Ca) : Nat → List Int
  | 0 => []
  | n + 1 => cruelI c n ++ [(missOf (runC c (cruelI c n)).pages : Int)]
theorem cruelI_len (c : Ca) (n : Nat) : (cruelI c n).length = n := by
  induction n with
  | zero => rfl
  | succ n ih => simp [cruelI, ih]
theorem runC_one (c : Ca) (l : List Int) (x : Int) : runC c (l ++ [x]) = stepC (runC c l) x := by rw [runC_app]; rfl
def againT (t : To) (l : List Int) : To := ⟨t.items, againP t.ps l, l⟩
theorem againP_len (ps : List Pl) (l : List Int) : (againP ps l).length = ps.length := by simp [againP]
theorem againP_get (ps : List Pl) (l : List Int) (i : Nat) (hi : i < ps.length) : (againP ps l).getD i dPl = wantP (ps.getD i dPl) l := by
  unfold againP
  simp only [List.getD_eq_getElem?_getD, List.getElem?_map, List.getElem?_eq_getElem hi]; rfl
theorem againP_again (ps : List Pl) (l l' : List Int) : againP (againP ps l) l' = againP ps l' := by
  unfold againP
  rw [List.map_map]
  exact List.map_congr_left (fun x _ => wantP_want x l l')
theorem againT_again (t : To) (l l' : List Int) : againT (againT t l) l' = againT t l' := by
  unfold againT; simp only [againP_again]
theorem againT_self {t : To} (ht : tourB t = true) : againT t t.reqs = t := by
  unfold againT; rw [again_self ht]
/-- the Cache of a Player behind more requests -/
theorem ca_again {t : To} (ht : tourB t = true) {i : Nat} (hi : i < t.ps.length) (l : List Int) : ((againT t (t.reqs ++ l)).ps.getD i dPl).ca = runC (t.ps.getD i dPl).ca l := by
  obtain ⟨⟨h1, h2⟩, _⟩ := tour_at ht hi
  have e0 : ((againT t t.reqs).ps.getD i dPl).ca = (t.ps.getD i dPl).ca := by rw [againT_self ht]
  simp only [againT] at e0 ⊢
  rw [againP_get _ _ _ hi] at e0 ⊢
  unfold wantP servedP at e0 ⊢
  simp only at e0 ⊢
  rw [List.drop_append_of_le_length (by omega), runC_app, e0]
theorem again_frm (t : To) (l : List Int) {i : Nat} (hi : i < t.ps.length) : ((againT t l).ps.getD i dPl).frm = (t.ps.getD i dPl).frm := by
  simp only [againT]; rw [againP_get _ _ _ hi]; rfl
theorem again_size {t : To} (l : List Int) {i : Nat} (hi : i < t.ps.length) : ((againT t l).ps.getD i dPl).ca.size = (t.ps.getD i dPl).ca.size := by
  simp only [againT]; rw [againP_get _ _ _ hi]; unfold wantP servedP; exact (runP_const _ _).2
theorem reqB_snoc {n : Int} {l m : List Int} (h : reqB n l = true) (hl : l.length + m.length ≤ 60) (hm : ∀ x ∈ m, 0 ≤ x ∧ x < n) : reqB n (l ++ m) = true := by
  unfold reqB at h ⊢
  simp only [Bool.and_eq_true, decide_eq_true_eq, belowB, List.all_eq_true] at h ⊢
  refine ⟨⟨h.1.1, by simp; omega⟩, fun x hx => ?_⟩
  rcases List.mem_append.1 hx with hx | hx
  · exact h.2 x hx
  · have := hm x hx
    exact inB_iff.2 ⟨this.1, by omega⟩
theorem tour_reqB {t : To} (ht : tourB t = true) : reqB t.items t.reqs = true := by
  unfold tourB at ht; simp only [Bool.and_eq_true] at ht; exact ht.1
theorem tour_len {t : To} (ht : tourB t = true) : t.ps.length ≤ 4 ∧ t.reqs.length ≤ 60 ∧ 1 ≤ t.items ∧ t.items ≤ 8 := by
  unfold tourB reqB at ht; simp only [Bool.and_eq_true, decide_eq_true_eq, inB_iff] at ht
  exact ⟨ht.2.1, ht.1.1.2, ht.1.1.1⟩
theorem tour_ok {t : To} (ht : tourB t = true) {i : Nat} (hi : i < t.ps.length) : Ok (t.ps.getD i dPl).ca := by
  have h1 := want_self (tour_pl ht hi)
  obtain ⟨_, h2, g1⟩ := tour_at ht hi
  rw [← h1]
  exact ok_run (ok_new h2 g1) _
theorem cruel_facts {t : To} (ht : tourB t = true) {i : Nat} (hi : i < t.ps.length) (hs : (t.ps.getD i dPl).ca.size < t.items) (n : Nat) (hn : t.reqs.length + n ≤ 60) :
    (∀ x ∈ cruelI (t.ps.getD i dPl).ca n, 0 ≤ x ∧ x < t.items) ∧ tourB (againT t (t.reqs ++ cruelI (t.ps.getD i dPl).ca n)) = true := by
  induction n with
  | zero =>
    refine ⟨fun x hx => absurd hx (List.not_mem_nil), ?_⟩
    simp only [cruelI, List.append_nil]
    rw [againT_self ht]; exact ht
  | succ n ih =>
    obtain ⟨h1, h2⟩ := ih (by omega)
    have hi' : i < (againT t (t.reqs ++ cruelI (t.ps.getD i dPl).ca n)).ps.length := by simp only [againT]; rw [againP_len]; exact hi
    have hca := ca_again ht hi (cruelI (t.ps.getD i dPl).ca n)
    have hm := miss_lt h2 hi' (missOf_spec _)
    have hok := (tour_ok h2 hi').len
    rw [again_size _ hi] at hok
    have hit : (againT t (t.reqs ++ cruelI (t.ps.getD i dPl).ca n)).items = t.items := rfl
    rw [hit] at hm
    have hlt := hm.2 (by omega)
    rw [hca] at hlt
    have h3 : ∀ x ∈ cruelI (t.ps.getD i dPl).ca (n + 1), 0 ≤ x ∧ x < t.items := fun x hx => by
      simp only [cruelI] at hx
      rcases List.mem_append.1 hx with hx | hx
      · exact h1 x hx
      · rw [List.mem_singleton.1 hx]
        exact ⟨Int.natCast_nonneg _, hlt⟩
    refine ⟨h3, tour_again ht (reqB_snoc (tour_reqB ht) (by rw [cruelI_len]; omega) h3) (fun k hk => ?_)⟩
    have := (tour_at ht hk).1.2
    rw [List.length_append]; omega

/-- a step with one number at most is possible -/
def okPlain (t : To) (k a b : Int) : Bool := (b == 0) && (
    if k = 2 then inB a 0 (t.items - 1) && decide (t.reqs.length < 60)
    else if k = 3 then hasP t a
    else if k = 4 then (a == 0) && (decide (0 < t.reqs.length) && decide (latT t.ps t.ps.length < (t.reqs.length : Int)))
    else if k = 5 then inB a 1 t.reqs.length && decide ((t.reqs.length : Int) + a ≤ 60)
    else (k == 7) && (a == 0))
/-- a step is possible -/
def okStep (t : To) (k a b : Int) : Bool :=
  if k = 1 then okJoin t a b
  else if k = 6 then hasP t a && (decide ((t.ps.getD a.toNat dPl).ca.size < t.items) && inB b 1 (60 - (t.reqs.length : Int)))
  else okPlain t k a b
def leaveT (t : To) (a : Int) : To := ⟨t.items, (againP t.ps t.reqs).eraseIdx a.toNat, t.reqs⟩
/-- behind it -/
noncomputable def stepT (t : To) (k a b : Int) : To :=
  if k = 1 then joinT t a b
  else if k = 6 then againT t (t.reqs ++ cruelI (t.ps.getD a.toNat dPl).ca b.toNat)
  else if k = 2 then againT t (t.reqs ++ [a])
  else if k = 3 then leaveT t a
  else if k = 4 then againT t (t.reqs.take (t.reqs.length - 1))
  else if k = 5 then againT t (t.reqs ++ t.reqs.drop (t.reqs.length - a.toNat))
  else ⟨t.items, clearP t.ps, []⟩
theorem tour_mk {n : Int} {ps : List Pl} {l : List Int} (h1 : reqB n l = true) (h2 : ps.length ≤ 4) (h3 : ∀ x ∈ ps, playB x l = true) : tourB ⟨n, ps, l⟩ = true := by
  unfold tourB
  simp only [Bool.and_eq_true, decide_eq_true_eq, List.all_eq_true]
  exact ⟨h1, h2, h3⟩
theorem tour_again_self {t : To} (ht : tourB t = true) : tourB (againT t t.reqs) = true := by rw [againT_self ht]; exact ht
theorem tour_all {t : To} (ht : tourB t = true) : ∀ x ∈ t.ps, playB x t.reqs = true := by
  unfold tourB at ht; simp only [Bool.and_eq_true, List.all_eq_true] at ht; exact ht.2.2
theorem play_served {f p k : Int} {l : List Int} (hf : 0 ≤ f ∧ f ≤ l.length) (hp : 1 ≤ p ∧ p ≤ 7) (hk : 1 ≤ k ∧ k ≤ 6) (hd : l.drop f.toNat = []) : playB (servedP f p k []) l = true := by
  have := play_want (x := ⟨f, newC p k, 0⟩) (l := l) (inB_iff.2 hf) (inB_iff.2 hp) (inB_iff.2 hk)
  unfold wantP at this
  simp only [hd] at this
  exact this
theorem tour_step {t : To} (ht : tourB t = true) (k a b : Int) (hok : okStep t k a b = true) : tourB (stepT t k a b) = true := by
  obtain ⟨hl1, hl2, hl3, hl4⟩ := tour_len ht
  unfold okStep at hok
  unfold stepT
  by_cases e1 : k = 1
  · rw [if_pos e1] at hok ⊢
    unfold okJoin at hok
    simp only [Bool.and_eq_true, decide_eq_true_eq, inB_iff] at hok
    unfold joinT
    refine tour_mk (tour_reqB ht) (by rw [List.length_append, againP_len]; simp; omega) (fun x hx => ?_)
    rcases List.mem_append.1 hx with hx | hx
    · exact tour_all (tour_again_self ht) x hx
    · rw [List.mem_singleton.1 hx]
      exact play_served ⟨Int.natCast_nonneg _, Int.le_refl _⟩ hok.1 hok.2.1 (by simp)
  rw [if_neg e1] at hok ⊢
  by_cases e6 : k = 6
  · rw [if_pos e6] at hok ⊢
    unfold hasP at hok
    simp only [Bool.and_eq_true, decide_eq_true_eq, inB_iff] at hok
    exact (cruel_facts ht (i := a.toNat) (by omega) hok.2.1 b.toNat (by omega)).2
  rw [if_neg e6] at hok ⊢
  unfold okPlain at hok
  simp only [Bool.and_eq_true, beq_iff_eq] at hok
  obtain ⟨_, hok⟩ := hok
  by_cases e2 : k = 2
  · rw [if_pos e2] at hok ⊢
    simp only [Bool.and_eq_true, decide_eq_true_eq, inB_iff] at hok
    exact tour_again ht (reqB_snoc (tour_reqB ht) (by simp; omega) (fun x hx => by rw [List.mem_singleton.1 hx]; omega)) (fun i hi => by have := (tour_at ht hi).1.2; rw [List.length_append]; omega)
  rw [if_neg e2] at hok ⊢
  by_cases e3 : k = 3
  · rw [if_pos e3] at hok ⊢
    unfold leaveT
    refine tour_mk (tour_reqB ht) ?_ (fun x hx => tour_all (tour_again_self ht) x (List.mem_of_mem_eraseIdx hx))
    rw [List.length_eraseIdx, againP_len]; split <;> omega
  rw [if_neg e3] at hok ⊢
  by_cases e4 : k = 4
  · rw [if_pos e4] at hok ⊢
    simp only [Bool.and_eq_true, decide_eq_true_eq] at hok
    refine tour_again ht ?_ (fun i hi => ?_)
    · have h := tour_reqB ht
      unfold reqB at h ⊢
      simp only [Bool.and_eq_true, decide_eq_true_eq, belowB, List.all_eq_true] at h ⊢
      exact ⟨⟨h.1.1, by rw [List.length_take]; omega⟩, fun x hx => h.2 x (List.mem_of_mem_take hx)⟩
    · have := (latT_lt t.ps _ (by omega) t.ps.length).1 hok.2.2 i hi
      rw [List.length_take]; omega
  rw [if_neg e4] at hok ⊢
  by_cases e5 : k = 5
  · rw [if_pos e5] at hok ⊢
    simp only [Bool.and_eq_true, decide_eq_true_eq, inB_iff] at hok
    refine tour_again ht (reqB_snoc (tour_reqB ht) (by rw [List.length_drop]; omega) (fun x hx => ?_)) (fun i hi => by have := (tour_at ht hi).1.2; rw [List.length_append]; omega)
    have h := tour_reqB ht
    unfold reqB at h
    simp only [Bool.and_eq_true, decide_eq_true_eq, belowB, List.all_eq_true] at h
    have := inB_iff.1 (h.2 x (List.mem_of_mem_drop hx))
    omega
  rw [if_neg e5] at hok ⊢
  refine tour_mk ?_ (by unfold clearP; rw [List.length_map]; omega) (fun x hx => ?_)
  · unfold reqB belowB
    simp only [Bool.and_eq_true, inB_iff, decide_eq_true_eq]
    exact ⟨⟨⟨hl3, hl4⟩, by simp⟩, by simp⟩
  · unfold clearP at hx
    obtain ⟨y, hy, rfl⟩ := List.mem_map.1 hx
    obtain ⟨i, hi, rfl⟩ := List.getElem_of_mem hy
    obtain ⟨_, h2, g1⟩ := tour_at ht hi
    have e : t.ps.getD i dPl = t.ps[i] := by rw [List.getD_eq_getElem?_getD, List.getElem?_eq_getElem hi]; rfl
    rw [e] at h2 g1
    unfold clrP
    exact play_served (by simp) h2 g1 (by simp)
end Go.Proofs.YtccmocbkpanibaaGreat

/- may a step be made (reference) -/
namespace Go.Proofs.YtccmocbkpanibaaGreat
open Go.RowKit

def stV (k a b : Int) : Value := .agg #[.int .i64 k, .int .i64 a, .int .i64 b]
set_option maxRecDepth 100000 in
set_option maxHeartbeats 4000000 in
theorem l12Plain_any (v : Value) (t : To) (k a b : Int) (w : World) (h : RT No w v t) (ht : tourB t = true) :
    Calls Tryz.prog 83 #[v, stV k a b] w (Ret fun r w' => r = .bool (okPlain t k a b) ∧ Chg No w w') := by
  obtain ⟨hl1, hl2, hl3, hl4⟩ := tour_len ht
  have h0 := h
  obtain ⟨it, ps, rq⟩ := t
  obtain ⟨pv, qv, rfl, hps, hrq⟩ := h
  simp only at hps hrq hl1 hl2 hl3 hl4
  obtain ⟨qa, qc, rfl, _⟩ := id hrq
  obtain ⟨pa, cap, rfl, hcap, hmax, hlen, pf, mf, hl, hcl⟩ := id hps
  clear hl hcl ht hps hrq
  obtain ⟨n, hn⟩ : ∃ n, rq.length = n := ⟨_, rfl⟩
  have hW0 := boxes32 (w := w) (t := 31) (t' := 35) (x0 := .int .i64 it) (x1 := .slice pa ps.length cap) (x2 := .slice qa n qc) (y0 := .int .i64 k) (y1 := .int .i64 a) (y2 := .int .i64 b)
    (R := fun W => Chg No w W ∧ Box3 W w.heap.size (.int .i64 it) (.slice pa ps.length cap) (.slice qa n qc) ∧ Box3 W (w.heap.size + 1) (.int .i64 k) (.int .i64 a) (.int .i64 b)) (fun W k b0 b1 => ⟨k, b0, b1⟩)
  obtain ⟨kk, b0, b1⟩ := hW0
  have hO : okPlain ⟨it, ps, rq⟩ k a b = ((b == 0) && (
    if k = 2 then inB a 0 (it - 1) && decide (n < 60)
    else if k = 3 then hasP ⟨it, ps, rq⟩ a
    else if k = 4 then (a == 0) && (decide (0 < n) && decide (latT ps ps.length < (n : Int)))
    else if k = 5 then inB a 1 n && decide ((n : Int) + a ≤ 60)
    else (k == 7) && (a == 0))) := by rw [← hn]; rfl
  obtain ⟨ok, hok⟩ : ∃ ok, okPlain ⟨it, ps, rq⟩ k a b = ok := ⟨_, rfl⟩
  rw [hok] at hO ⊢
  have HN := Lib.hid hn
  obtain ⟨c0, c1, c2, _⟩ := id b0
  obtain ⟨d0, d1, d2, _⟩ := id b1
  have hn0 : (0 : Int) ≤ (n : Int) := Int.natCast_nonneg _
  rw [hn] at h0 hl2 ⊢
  have h0k := h0.keep kk
  clear hn hok
  unfold stV
  by_cases hb : b = 0
  · subst hb
    simp only [beq_self_eq_true, Bool.true_and] at hO
    by_cases e2 : k = 2
    · subst e2
      rw [if_pos rfl] at hO
      have hw1 : IntKind.i64.wrap (it - 1) = it - 1 := IntWalk.i64_in _ (by omega)
      have HO := Lib.hid hO
      clear hO
      go_enter Tryz.func83, Tryz.ntmps83
      go_wp2_with fail
      refine (l1In_any _ _ _ _).mono ?_
      rintro e w1 ⟨rfl, rfl⟩
      cases hi : inB a 0 (it - 1)
      · have HI := Lib.hid hi
        clear hi
        go_wp2_with fail
        go_ret
        exact ⟨_, rfl, by rw [HO.out, HI.out]; rfl, kk⟩
      · have HI := Lib.hid hi
        clear hi
        go_wp2_with fail
        go_ret
        exact ⟨_, rfl, by rw [HO.out, HI.out, Bool.true_and]; simp; omega, kk⟩
    · rw [if_neg e2] at hO
      by_cases e3 : k = 3
      · subst e3
        rw [if_pos rfl] at hO
        have HO := Lib.hid hO
        clear hO
        go_enter Tryz.func83, Tryz.ntmps83
        go_wp2_with fail
        refine (l12Has_any _ _ a _ h0k).mono ?_
        rintro e w1 ⟨_, rfl, rfl, k1⟩
        go_wp2_with fail
        go_ret
        exact ⟨_, rfl, by rw [HO.out]; rfl, kk.keep k1⟩
      · rw [if_neg e3] at hO
        by_cases e4 : k = 4
        · subst e4
          rw [if_pos rfl] at hO
          by_cases ha : a = 0
          · subst ha
            simp only [beq_self_eq_true, Bool.true_and] at hO
            by_cases hp : 0 < n
            · have hp' : (0 : Int) < (n : Int) := by omega
              rw [decide_eq_true hp, Bool.true_and] at hO
              have HO := Lib.hid hO
              clear hO hp
              go_enter Tryz.func83, Tryz.ntmps83
              go_wp2_with fail
              refine (l12Latest_any _ _ _ h0k).mono ?_
              rintro e w1 ⟨_, rfl, rfl, k1⟩
              go_wp2_with fail
              go_ret
              exact ⟨_, rfl, by rw [HO.out]; rfl, kk.keep k1⟩
            · have hp' : ¬ (0 : Int) < (n : Int) := by omega
              rw [decide_eq_false hp, Bool.false_and] at hO
              have HO := Lib.hid hO
              clear hO hp
              go_enter Tryz.func83, Tryz.ntmps83
              go_wp2_with fail
              go_ret
              exact ⟨_, rfl, by rw [HO.out]; rfl, kk⟩
          · have ha' : (a == 0) = false := by simpa using ha
            rw [ha', Bool.false_and] at hO
            have HO := Lib.hid hO
            clear hO
            go_enter Tryz.func83, Tryz.ntmps83
            go_wp2_with fail
            go_ret
            exact ⟨_, rfl, by rw [HO.out]; rfl, kk⟩
        · rw [if_neg e4] at hO
          by_cases e5 : k = 5
          · subst e5
            rw [if_pos rfl] at hO
            have HO := Lib.hid hO
            clear hO
            cases hi : inB a 1 n
            · have HI := Lib.hid hi
              clear hi
              go_enter Tryz.func83, Tryz.ntmps83
              go_wp2_with fail
              refine (l1In_any _ _ _ _).mono ?_
              rintro e w1 ⟨rfl, rfl⟩
              rw [HI.out]
              go_wp2_with fail
              go_ret
              exact ⟨_, rfl, by rw [HO.out, HI.out]; rfl, kk⟩
            · have hin := inB_iff.1 hi
              have HI := Lib.hid hi
              have hw1 : IntKind.i64.wrap ((n : Int) + a) = (n : Int) + a := IntWalk.i64_in _ (by omega)
              clear hi hin
              go_enter Tryz.func83, Tryz.ntmps83
              go_wp2_with fail
              refine (l1In_any _ _ _ _).mono ?_
              rintro e w1 ⟨rfl, rfl⟩
              rw [HI.out]
              go_wp2_with fail
              go_ret
              exact ⟨_, rfl, by rw [HO.out, HI.out, Bool.true_and]; rfl, kk⟩
          · rw [if_neg e5] at hO
            by_cases e7 : k = 7
            · subst e7
              have HO := Lib.hid hO
              clear hO
              go_enter Tryz.func83, Tryz.ntmps83
              go_wp2_with fail
              go_ret
              exact ⟨_, rfl, by rw [HO.out]; rfl, kk⟩
            · have e7' : (k == 7) = false := by simpa using e7
              rw [e7', Bool.false_and] at hO
              have HO := Lib.hid hO
              clear hO e7'
              go_enter Tryz.func83, Tryz.ntmps83
              go_wp2_with fail
              go_ret
              exact ⟨_, rfl, by rw [HO.out]; rfl, kk⟩
  · have hb' : (b == 0) = false := by simpa using hb
    rw [hb', Bool.false_and] at hO
    have HO := Lib.hid hO
    clear hO
    go_enter Tryz.func83, Tryz.ntmps83
    go_wp2_with fail
    go_ret
    exact ⟨_, rfl, by rw [HO.out]; rfl, kk⟩
end Go.Proofs.YtccmocbkpanibaaGreat

/- may a step be made (reference): the whole -/
namespace Go.Proofs.YtccmocbkpanibaaGreat
open Go.RowKit

set_option maxRecDepth 100000 in
set_option maxHeartbeats 4000000 in
theorem l12May1_any (v : Value) (t : To) (a b : Int) (w : World) (h : RT No w v t) (ht : tourB t = true) :
    Calls Tryz.prog 43 #[v, stV 1 a b] w (Ret fun r w' => r = .bool (okStep t 1 a b) ∧ Chg No w w') := by
  obtain ⟨k, hk⟩ : ∃ k : Int, k = 1 := ⟨_, rfl⟩
  rw [← hk]
  obtain ⟨hl1, hl2, hl3, hl4⟩ := tour_len ht
  have h0 := h
  obtain ⟨it, ps, rq⟩ := t
  obtain ⟨pv, qv, rfl, hps, hrq⟩ := h
  simp only at hps hrq hl1 hl2 hl3 hl4
  obtain ⟨qa, qc, rfl, _⟩ := id hrq
  obtain ⟨pa, cap, rfl, hcap, hmax, hlen, pf, mf, hl, hcl⟩ := id hps
  obtain ⟨n, hn⟩ : ∃ n, rq.length = n := ⟨_, rfl⟩
  have hW0 := boxes32 (w := w) (t := 31) (t' := 35) (x0 := .int .i64 it) (x1 := .slice pa ps.length cap) (x2 := .slice qa n qc) (y0 := .int .i64 k) (y1 := .int .i64 a) (y2 := .int .i64 b)
    (R := fun W => Chg No w W ∧ Box3 W w.heap.size (.int .i64 it) (.slice pa ps.length cap) (.slice qa n qc) ∧ Box3 W (w.heap.size + 1) (.int .i64 k) (.int .i64 a) (.int .i64 b)) (fun W k b0 b1 => ⟨k, b0, b1⟩)
  obtain ⟨kk, b0, b1⟩ := hW0
  have hn0 : (0 : Int) ≤ (n : Int) := Int.natCast_nonneg _
  rw [hn] at h0 hl2 ⊢
  have h0k := h0.keep kk
  have hO : okStep ⟨it, ps, rq⟩ k a b = (inB a 1 7 && (inB b 1 6 && decide (ps.length < 4))) := by rw [hk]; rfl
  subst hk
  have HO := Lib.hid hO
  obtain ⟨c0, c1, c2, _⟩ := id b0
  obtain ⟨d0, d1, d2, _⟩ := id b1
  clear hO hl hcl hps hrq ht
  unfold stV
  go_enter Tryz.func43, Tryz.ntmps43
  go_wp2_with fail
  refine (l4Sizes_any a b _).mono ?_
  rintro e w1 ⟨rfl, rfl⟩
  cases hi : (inB a 1 7 && inB b 1 6)
  · have HI := Lib.hid hi
    clear hi
    go_wp2_with fail
    go_ret
    exact ⟨_, rfl, by rw [HO.out, ← Bool.and_assoc, HI.out]; rfl, kk⟩
  · have HI := Lib.hid hi
    clear hi
    go_wp2_with fail
    go_ret
    exact ⟨_, rfl, by rw [HO.out, ← Bool.and_assoc, HI.out]; simp; omega, kk⟩
set_option maxRecDepth 100000 in
set_option maxHeartbeats 4000000 in
theorem l12May0_any (v : Value) (t : To) (k a b : Int) (w : World) (h : RT No w v t) (ht : tourB t = true) (e1 : ¬ k = 1) (e6 : ¬ k = 6) :
    Calls Tryz.prog 43 #[v, stV k a b] w (Ret fun r w' => r = .bool (okStep t k a b) ∧ Chg No w w') := by
  have HT := Lib.hid ht
  obtain ⟨hl1, hl2, hl3, hl4⟩ := tour_len ht
  have h0 := h
  obtain ⟨it, ps, rq⟩ := t
  obtain ⟨pv, qv, rfl, hps, hrq⟩ := h
  simp only at hps hrq hl1 hl2 hl3 hl4
  obtain ⟨qa, qc, rfl, _⟩ := id hrq
  obtain ⟨pa, cap, rfl, hcap, hmax, hlen, pf, mf, hl, hcl⟩ := id hps
  obtain ⟨n, hn⟩ : ∃ n, rq.length = n := ⟨_, rfl⟩
  have hW0 := boxes32 (w := w) (t := 31) (t' := 35) (x0 := .int .i64 it) (x1 := .slice pa ps.length cap) (x2 := .slice qa n qc) (y0 := .int .i64 k) (y1 := .int .i64 a) (y2 := .int .i64 b)
    (R := fun W => Chg No w W ∧ Box3 W w.heap.size (.int .i64 it) (.slice pa ps.length cap) (.slice qa n qc) ∧ Box3 W (w.heap.size + 1) (.int .i64 k) (.int .i64 a) (.int .i64 b)) (fun W k b0 b1 => ⟨k, b0, b1⟩)
  obtain ⟨kk, b0, b1⟩ := hW0
  have hn0 : (0 : Int) ≤ (n : Int) := Int.natCast_nonneg _
  rw [hn] at h0 hl2 ⊢
  have h0k := h0.keep kk
  have hO : okStep ⟨it, ps, rq⟩ k a b = okPlain ⟨it, ps, rq⟩ k a b := by unfold okStep; rw [if_neg e1, if_neg e6]
  have HO := Lib.hid hO
  obtain ⟨c0, c1, c2, _⟩ := id b0
  obtain ⟨d0, d1, d2, _⟩ := id b1
  clear hO hl hcl hps hrq ht
  unfold stV
  go_enter Tryz.func43, Tryz.ntmps43
  go_wp2_with fail
  refine (l12Plain_any _ _ k a b _ h0k HT.out).mono ?_
  rintro e w1 ⟨_, rfl, rfl, k1⟩
  go_wp2_with fail
  go_ret
  exact ⟨_, rfl, by rw [HO.out]; rfl, kk.keep k1⟩

set_option maxRecDepth 100000 in
set_option maxHeartbeats 4000000 in
theorem l12May6_any (v : Value) (t : To) (a b : Int) (w : World) (h : RT No w v t) (ht : tourB t = true) :
    Calls Tryz.prog 43 #[v, stV 6 a b] w (Ret fun r w' => r = .bool (okStep t 6 a b) ∧ Chg No w w') := by
  obtain ⟨k, hk⟩ : ∃ k : Int, k = 6 := ⟨_, rfl⟩
  rw [← hk]
  obtain ⟨hl1, hl2, hl3, hl4⟩ := tour_len ht
  have h0 := h
  obtain ⟨it, ps, rq⟩ := t
  obtain ⟨pv, qv, rfl, hps, hrq⟩ := h
  simp only at hps hrq hl1 hl2 hl3 hl4
  obtain ⟨qa, qc, rfl, _⟩ := id hrq
  obtain ⟨pa, cap, rfl, hcap, hmax, hlen, pf, mf, hl, hcl⟩ := id hps
  obtain ⟨n, hn⟩ : ∃ n, rq.length = n := ⟨_, rfl⟩
  have hW0 := boxes32 (w := w) (t := 31) (t' := 35) (x0 := .int .i64 it) (x1 := .slice pa ps.length cap) (x2 := .slice qa n qc) (y0 := .int .i64 k) (y1 := .int .i64 a) (y2 := .int .i64 b)
    (R := fun W => Chg No w W ∧ Box3 W w.heap.size (.int .i64 it) (.slice pa ps.length cap) (.slice qa n qc) ∧ Box3 W (w.heap.size + 1) (.int .i64 k) (.int .i64 a) (.int .i64 b)) (fun W k b0 b1 => ⟨k, b0, b1⟩)
  obtain ⟨kk, b0, b1⟩ := hW0
  have hn0 : (0 : Int) ≤ (n : Int) := Int.natCast_nonneg _
  rw [hn] at h0 hl2 ⊢
  have h0k := h0.keep kk
  have hO : okStep ⟨it, ps, rq⟩ k a b = (hasP ⟨it, ps, rq⟩ a && (decide ((ps.getD a.toNat dPl).ca.size < it) && inB b 1 (60 - (n : Int)))) := by rw [hk, ← hn]; rfl
  subst hk
  cases hh : hasP ⟨it, ps, rq⟩ a
  · rw [hh, Bool.false_and] at hO
    have HH := Lib.hid hh
    have HO := Lib.hid hO
    obtain ⟨C, hC1, hC2⟩ : ∃ C : World → Prop, (∀ W, C W → Box3 W w.heap.size (.int .i64 it) (.slice pa ps.length cap) (.slice qa n qc) ∧ Box3 W (w.heap.size + 1) (.int .i64 6) (.int .i64 a) (.int .i64 b) ∧ Chg No w W) ∧ (∀ W, Box3 W w.heap.size (.int .i64 it) (.slice pa ps.length cap) (.slice qa n qc) → Box3 W (w.heap.size + 1) (.int .i64 6) (.int .i64 a) (.int .i64 b) → Chg No w W → C W) := ⟨_, fun _ h => h, fun _ h h' h2 => ⟨h, h', h2⟩⟩
    have HK : Hid (∀ W W', C W → Chg No W W' → C W') := Lib.hid (fun W W' hW hk => hC2 W' ((hC1 W hW).1.keep hk) ((hC1 W hW).2.1.keep hk) ((hC1 W hW).2.2.keep hk))
    have HX := Lib.hid hC1
    have hC0 := hC2 _ (b0.keep (Chg.refl No _).drew) (b1.keep (Chg.refl No _).drew) kk.drew
    have HCELL : Hid (∀ W, C W → W.cell? ⟨w.heap.size, 0, none⟩ = some (.int .i64 it) ∧ W.cell? ⟨w.heap.size, 1, none⟩ = some (.slice pa ps.length cap) ∧ W.cell? ⟨w.heap.size, 2, none⟩ = some (.slice qa n qc) ∧ W.cell? ⟨w.heap.size + 1, 0, none⟩ = some (.int .i64 6) ∧ W.cell? ⟨w.heap.size + 1, 1, none⟩ = some (.int .i64 a) ∧ W.cell? ⟨w.heap.size + 1, 2, none⟩ = some (.int .i64 b) ∧ True) := Lib.hid (fun W hW => by
      obtain ⟨g1, g2, _⟩ := hC1 W hW
      exact ⟨g1.c0, g1.c1, g1.c2, g2.c0, g2.c1, g2.c2, trivial⟩)
    obtain ⟨c0, c1, c2, _⟩ := id b0
    obtain ⟨d0, d1, d2, _⟩ := id b1
    clear hO hl hcl hps hrq ht hh hC1 hC2 b0 b1
    unfold stV
    go_enter Tryz.func43, Tryz.ntmps43
    go_wp2_with fail
    refine wp_region_X C (by kernel_rfl) (by kernel_rfl) hC0 ?_
    clear hC0
    refine wpX_val (.agg #[.int .i64 it, .slice pa ps.length cap, .slice qa n qc]) rfl (by intro W hW; obtain ⟨c0, c1, c2, d0, d1, d2, p2⟩ := HCELL.out W hW; go_simp) ?_
    simp only [Act.put, List.setIfInBounds_toArray, List.set_cons_zero, List.set_cons_succ]
    refine wpX_val (.pointer (some ⟨w.heap.size + 1, 1, none⟩)) rfl (by intro W hW; obtain ⟨c0, c1, c2, d0, d1, d2, p2⟩ := HCELL.out W hW; go_simp) ?_
    simp only [Act.put, List.setIfInBounds_toArray, List.set_cons_zero, List.set_cons_succ]
    refine wpX_val (.int .i64 a) rfl (by intro W hW; obtain ⟨c0, c1, c2, d0, d1, d2, p2⟩ := HCELL.out W hW; go_simp) ?_
    simp only [Act.put, List.setIfInBounds_toArray, List.set_cons_zero, List.set_cons_succ]
    refine wpX_call (.bool false) (f := 70) (args := #[.agg #[.int .i64 it, .slice pa ps.length cap, .slice qa n qc], .int .i64 a]) rfl (by intro W hW; obtain ⟨c0, c1, c2, d0, d1, d2, p2⟩ := HCELL.out W hW; go_simp) (fun W hW => (l12Has_any _ ⟨it, ps, rq⟩ a W (h0.keep (HX.out W hW).2.2)).mono (by rintro e w' ⟨_, rfl, rfl, hk⟩; exact ⟨by rw [HH.out], HK.out _ _ hW hk⟩)) ?_
    simp only [Act.put, List.setIfInBounds_toArray, List.set_cons_zero, List.set_cons_succ]
    refine wpX_val (.bool false) rfl (by intro W hW; obtain ⟨c0, c1, c2, d0, d1, d2, p2⟩ := HCELL.out W hW; go_simp) ?_
    simp only [Act.put, List.setIfInBounds_toArray, List.set_cons_zero, List.set_cons_succ]
    repeat (first | (refine wpX_skip rfl ?_; simp only [Act.put, List.setIfInBounds_toArray, List.set_cons_zero, List.set_cons_succ]) | (refine wpX_val (.bool false) rfl (by intro W hW; go_simp) ?_; simp only [Act.put, List.setIfInBounds_toArray, List.set_cons_zero, List.set_cons_succ]))
    refine wpX_nil (fun W hW => ?_)
    have kW := (HX.out W hW).2.2
    go_wp2_with fail
    go_ret
    exact ⟨_, rfl, by rw [HO.out]; rfl, kW⟩
  · rw [hh, Bool.true_and] at hO
    have hik : 0 ≤ a ∧ a ≤ (ps.length : Int) - 1 := inB_iff.1 hh
    obtain ⟨x, rfl⟩ : ∃ x : Nat, a = (x : Int) := ⟨a.toNat, by omega⟩
    have hx : x < ps.length := by omega
    obtain ⟨bb, off, rfl, _, hbb, hcell⟩ := hcl (by intro e; simp [e] at hx)
    have d2p := (hcell x hx).c2
    rw [show (x : Int).toNat = x by omega] at hO
    obtain ⟨sz, hsz⟩ : ∃ sz, (ps.getD x dPl).ca.size = sz := ⟨_, rfl⟩
    rw [hsz] at hO d2p
    have hx0 : (0 : Int) ≤ (x : Int) := Int.natCast_nonneg _
    have hx1 : (x : Int) < (ps.length : Int) := by omega
    have hw1 : IntKind.i64.wrap (60 - (n : Int)) = 60 - (n : Int) := IntWalk.i64_in _ (by omega)
    obtain ⟨a, ha⟩ : ∃ a : Int, a = (x : Int) := ⟨_, rfl⟩
    have HA := Lib.hid ha
    have HH := Lib.hid hh
    have HO := Lib.hid hO
    have HBB := Lib.hid hbb
    have HP2 := Lib.hid d2p
    obtain ⟨C, hC1, hC2⟩ : ∃ C : World → Prop, (∀ W, C W → Box3 W w.heap.size (.int .i64 it) (.slice (some ⟨bb, off, none⟩) ps.length cap) (.slice qa n qc) ∧ Box3 W (w.heap.size + 1) (.int .i64 6) (.int .i64 (x : Int)) (.int .i64 b) ∧ Chg No w W) ∧ (∀ W, Box3 W w.heap.size (.int .i64 it) (.slice (some ⟨bb, off, none⟩) ps.length cap) (.slice qa n qc) → Box3 W (w.heap.size + 1) (.int .i64 6) (.int .i64 (x : Int)) (.int .i64 b) → Chg No w W → C W) := ⟨_, fun _ h => h, fun _ h h' h2 => ⟨h, h', h2⟩⟩
    have HK : Hid (∀ W W', C W → Chg No W W' → C W') := Lib.hid (fun W W' hW hk => hC2 W' ((hC1 W hW).1.keep hk) ((hC1 W hW).2.1.keep hk) ((hC1 W hW).2.2.keep hk))
    have HX := Lib.hid hC1
    have hC0 := hC2 _ (b0.keep (Chg.refl No _).drew) (b1.keep (Chg.refl No _).drew) kk.drew
    have HCELL : Hid (∀ W, C W → W.cell? ⟨w.heap.size, 0, none⟩ = some (.int .i64 it) ∧ W.cell? ⟨w.heap.size, 1, none⟩ = some (.slice (some ⟨bb, off, none⟩) ps.length cap) ∧ W.cell? ⟨w.heap.size, 2, none⟩ = some (.slice qa n qc) ∧ W.cell? ⟨w.heap.size + 1, 0, none⟩ = some (.int .i64 6) ∧ W.cell? ⟨w.heap.size + 1, 1, none⟩ = some (.int .i64 (x : Int)) ∧ W.cell? ⟨w.heap.size + 1, 2, none⟩ = some (.int .i64 b) ∧ W.cell? ⟨bb, off + x * 7 + 2, none⟩ = some (.int .i64 sz)) := Lib.hid (fun W hW => by
      obtain ⟨g1, g2, g3⟩ := hC1 W hW
      exact ⟨g1.c0, g1.c1, g1.c2, g2.c0, g2.c1, g2.c2, (g3.cellD bb _ HBB.out (fun e => e)).trans HP2.out⟩)
    obtain ⟨c0, c1, c2, _⟩ := id b0
    obtain ⟨d0, d1, d2, _⟩ := id b1
    clear hO hl hcl hps hrq ht hh hC1 hC2 b0 b1 hcell d2p hik ha hsz hbb
    unfold stV
    go_enter Tryz.func43, Tryz.ntmps43
    go_wp2_with fail
    refine wp_region_X C (by kernel_rfl) (by kernel_rfl) hC0 ?_
    clear hC0
    refine wpX_val (.agg #[.int .i64 it, .slice (some ⟨bb, off, none⟩) ps.length cap, .slice qa n qc]) rfl (by intro W hW; obtain ⟨c0, c1, c2, d0, d1, d2, p2⟩ := HCELL.out W hW; go_simp) ?_
    simp only [Act.put, List.setIfInBounds_toArray, List.set_cons_zero, List.set_cons_succ]
    refine wpX_val (.pointer (some ⟨w.heap.size + 1, 1, none⟩)) rfl (by intro W hW; obtain ⟨c0, c1, c2, d0, d1, d2, p2⟩ := HCELL.out W hW; go_simp) ?_
    simp only [Act.put, List.setIfInBounds_toArray, List.set_cons_zero, List.set_cons_succ]
    refine wpX_val (.int .i64 (x : Int)) rfl (by intro W hW; obtain ⟨c0, c1, c2, d0, d1, d2, p2⟩ := HCELL.out W hW; go_simp) ?_
    simp only [Act.put, List.setIfInBounds_toArray, List.set_cons_zero, List.set_cons_succ]
    refine wpX_call (.bool true) (f := 70) (args := #[.agg #[.int .i64 it, .slice (some ⟨bb, off, none⟩) ps.length cap, .slice qa n qc], .int .i64 (x : Int)]) rfl (by intro W hW; obtain ⟨c0, c1, c2, d0, d1, d2, p2⟩ := HCELL.out W hW; go_simp) (fun W hW => (l12Has_any _ ⟨it, ps, rq⟩ (x : Int) W (h0.keep (HX.out W hW).2.2)).mono (by rintro e w' ⟨_, rfl, rfl, hk⟩; exact ⟨by rw [HH.out], HK.out _ _ hW hk⟩)) ?_
    simp only [Act.put, List.setIfInBounds_toArray, List.set_cons_zero, List.set_cons_succ]
    refine wpX_val (.bool true) rfl (by intro W hW; obtain ⟨c0, c1, c2, d0, d1, d2, p2⟩ := HCELL.out W hW; go_simp) ?_
    simp only [Act.put, List.setIfInBounds_toArray, List.set_cons_zero, List.set_cons_succ]
    refine wpX_val (.pointer (some ⟨w.heap.size, 1, none⟩)) rfl (by intro W hW; obtain ⟨c0, c1, c2, d0, d1, d2, p2⟩ := HCELL.out W hW; go_simp) ?_
    simp only [Act.put, List.setIfInBounds_toArray, List.set_cons_zero, List.set_cons_succ]
    refine wpX_val (.slice (some ⟨bb, off, none⟩) ps.length cap) rfl (by intro W hW; obtain ⟨c0, c1, c2, d0, d1, d2, p2⟩ := HCELL.out W hW; go_simp) ?_
    simp only [Act.put, List.setIfInBounds_toArray, List.set_cons_zero, List.set_cons_succ]
    refine wpX_val (.pointer (some ⟨w.heap.size + 1, 1, none⟩)) rfl (by intro W hW; obtain ⟨c0, c1, c2, d0, d1, d2, p2⟩ := HCELL.out W hW; go_simp) ?_
    simp only [Act.put, List.setIfInBounds_toArray, List.set_cons_zero, List.set_cons_succ]
    refine wpX_val (.int .i64 (x : Int)) rfl (by intro W hW; obtain ⟨c0, c1, c2, d0, d1, d2, p2⟩ := HCELL.out W hW; go_simp) ?_
    simp only [Act.put, List.setIfInBounds_toArray, List.set_cons_zero, List.set_cons_succ]
    refine wpX_val (.pointer (some ⟨bb, off + x * 7, none⟩)) rfl (by intro W hW; obtain ⟨c0, c1, c2, d0, d1, d2, p2⟩ := HCELL.out W hW; go_simp) ?_
    simp only [Act.put, List.setIfInBounds_toArray, List.set_cons_zero, List.set_cons_succ]
    refine wpX_val (.pointer (some ⟨bb, off + x * 7 + 1, none⟩)) rfl (by intro W hW; obtain ⟨c0, c1, c2, d0, d1, d2, p2⟩ := HCELL.out W hW; go_simp) ?_
    simp only [Act.put, List.setIfInBounds_toArray, List.set_cons_zero, List.set_cons_succ]
    refine wpX_val (.pointer (some ⟨bb, off + x * 7 + 2, none⟩)) rfl (by intro W hW; obtain ⟨c0, c1, c2, d0, d1, d2, p2⟩ := HCELL.out W hW; go_simp) ?_
    simp only [Act.put, List.setIfInBounds_toArray, List.set_cons_zero, List.set_cons_succ]
    refine wpX_val (.int .i64 sz) rfl (by intro W hW; obtain ⟨c0, c1, c2, d0, d1, d2, p2⟩ := HCELL.out W hW; go_simp) ?_
    simp only [Act.put, List.setIfInBounds_toArray, List.set_cons_zero, List.set_cons_succ]
    refine wpX_val (.pointer (some ⟨w.heap.size, 0, none⟩)) rfl (by intro W hW; obtain ⟨c0, c1, c2, d0, d1, d2, p2⟩ := HCELL.out W hW; go_simp) ?_
    simp only [Act.put, List.setIfInBounds_toArray, List.set_cons_zero, List.set_cons_succ]
    refine wpX_val (.int .i64 it) rfl (by intro W hW; obtain ⟨c0, c1, c2, d0, d1, d2, p2⟩ := HCELL.out W hW; go_simp) ?_
    simp only [Act.put, List.setIfInBounds_toArray, List.set_cons_zero, List.set_cons_succ]
    refine wpX_val (.bool (decide (sz < it))) rfl (by intro W hW; obtain ⟨c0, c1, c2, d0, d1, d2, p2⟩ := HCELL.out W hW; go_simp) ?_
    simp only [Act.put, List.setIfInBounds_toArray, List.set_cons_zero, List.set_cons_succ]
    cases hlt : decide (sz < it)
    · have HLT := Lib.hid hlt
      clear hlt
      repeat (first | (refine wpX_skip rfl ?_; simp only [Act.put, List.setIfInBounds_toArray, List.set_cons_zero, List.set_cons_succ]) | (refine wpX_val (.bool false) rfl (by intro W hW; go_simp) ?_; simp only [Act.put, List.setIfInBounds_toArray, List.set_cons_zero, List.set_cons_succ]))
      refine wpX_nil (fun W hW => ?_)
      have kW := (HX.out W hW).2.2
      go_wp2_with fail
      go_ret
      exact ⟨_, rfl, by rw [HO.out, HLT.out]; rfl, kW⟩
    · have HLT := Lib.hid hlt
      clear hlt
      refine wpX_val (.bool true) rfl (by intro W hW; obtain ⟨c0, c1, c2, d0, d1, d2, p2⟩ := HCELL.out W hW; go_simp) ?_
      simp only [Act.put, List.setIfInBounds_toArray, List.set_cons_zero, List.set_cons_succ]
      refine wpX_val (.bool true) rfl (by intro W hW; obtain ⟨c0, c1, c2, d0, d1, d2, p2⟩ := HCELL.out W hW; go_simp) ?_
      simp only [Act.put, List.setIfInBounds_toArray, List.set_cons_zero, List.set_cons_succ]
      refine wpX_val (.pointer (some ⟨w.heap.size + 1, 2, none⟩)) rfl (by intro W hW; obtain ⟨c0, c1, c2, d0, d1, d2, p2⟩ := HCELL.out W hW; go_simp) ?_
      simp only [Act.put, List.setIfInBounds_toArray, List.set_cons_zero, List.set_cons_succ]
      refine wpX_val (.int .i64 b) rfl (by intro W hW; obtain ⟨c0, c1, c2, d0, d1, d2, p2⟩ := HCELL.out W hW; go_simp) ?_
      simp only [Act.put, List.setIfInBounds_toArray, List.set_cons_zero, List.set_cons_succ]
      refine wpX_val (.pointer (some ⟨w.heap.size, 2, none⟩)) rfl (by intro W hW; obtain ⟨c0, c1, c2, d0, d1, d2, p2⟩ := HCELL.out W hW; go_simp) ?_
      simp only [Act.put, List.setIfInBounds_toArray, List.set_cons_zero, List.set_cons_succ]
      refine wpX_val (.slice qa n qc) rfl (by intro W hW; obtain ⟨c0, c1, c2, d0, d1, d2, p2⟩ := HCELL.out W hW; go_simp) ?_
      simp only [Act.put, List.setIfInBounds_toArray, List.set_cons_zero, List.set_cons_succ]
      refine wpX_val (.int .i64 (n : Int)) rfl (by intro W hW; obtain ⟨c0, c1, c2, d0, d1, d2, p2⟩ := HCELL.out W hW; go_simp) ?_
      simp only [Act.put, List.setIfInBounds_toArray, List.set_cons_zero, List.set_cons_succ]
      refine wpX_val (.int .i64 (60 - (n : Int))) rfl (by intro W hW; obtain ⟨c0, c1, c2, d0, d1, d2, p2⟩ := HCELL.out W hW; go_simp) ?_
      simp only [Act.put, List.setIfInBounds_toArray, List.set_cons_zero, List.set_cons_succ]
      refine wpX_call (.bool (inB b 1 (60 - (n : Int)))) (f := 82) (args := #[.int .i64 b, .int .i64 1, .int .i64 (60 - (n : Int))]) rfl (by intro W hW; obtain ⟨c0, c1, c2, d0, d1, d2, p2⟩ := HCELL.out W hW; go_simp) (fun W hW => (l1In_any _ _ _ W).mono (by rintro e w' ⟨rfl, rfl⟩; exact ⟨rfl, hW⟩)) ?_
      simp only [Act.put, List.setIfInBounds_toArray, List.set_cons_zero, List.set_cons_succ]
      refine wpX_val (.bool (inB b 1 (60 - (n : Int)))) rfl (by intro W hW; obtain ⟨c0, c1, c2, d0, d1, d2, p2⟩ := HCELL.out W hW; go_simp) ?_
      simp only [Act.put, List.setIfInBounds_toArray, List.set_cons_zero, List.set_cons_succ]
      refine wpX_val (.bool (inB b 1 (60 - (n : Int)))) rfl (by intro W hW; obtain ⟨c0, c1, c2, d0, d1, d2, p2⟩ := HCELL.out W hW; go_simp) ?_
      simp only [Act.put, List.setIfInBounds_toArray, List.set_cons_zero, List.set_cons_succ]
      refine wpX_nil (fun W hW => ?_)
      have kW := (HX.out W hW).2.2
      go_wp2_with fail
      go_ret
      exact ⟨_, rfl, by rw [HO.out, HLT.out, Bool.true_and]; rfl, kW⟩
theorem l12May_any (v : Value) (t : To) (k a b : Int) (w : World) (h : RT No w v t) (ht : tourB t = true) :
    Calls Tryz.prog 43 #[v, stV k a b] w (Ret fun r w' => r = .bool (okStep t k a b) ∧ Chg No w w') := by
  by_cases e1 : k = 1
  · subst e1; exact l12May1_any v t a b w h ht
  by_cases e6 : k = 6
  · subst e6; exact l12May6_any v t a b w h ht
  exact l12May0_any v t k a b w h ht e1 e6
end Go.Proofs.YtccmocbkpanibaaGreat

/- the cruel asker's requests (reference) -/
namespace Go.Proofs.YtccmocbkpanibaaGreat
open Go.RowKit

set_option maxRecDepth 100000 in
set_option maxHeartbeats 4000000 in
theorem l12Cruel_any (v : Value) (t : To) (i n : Nat) (w : World) (h : RT No w v t) (ht : tourB t = true) (hi : i < t.ps.length) (hn : t.reqs.length + n ≤ 60) :
    Calls Tryz.prog 87 #[v, .int .i64 (i : Int), .int .i64 (n : Int)] w (Ret fun r w' => OI w.heap.size w' r (t.reqs ++ cruelI (t.ps.getD i dPl).ca n) ∧ Chg No w w') := by
  have hok := tour_ok ht hi
  obtain ⟨it, ps, rq⟩ := t
  obtain ⟨pv, qv, rfl, hps, hrq⟩ := h
  simp only at hps hrq hi hn hok ⊢
  obtain ⟨qa, qn, qc, rfl⟩ := hrq.shape
  obtain ⟨pa, cap, rfl, hcap, hmax, hlen, pf, mf, hl, hcl⟩ := id hps
  obtain ⟨bb, off, rfl, _, hbb, hcell⟩ := hcl (by intro e; simp [e] at hi)
  have h7 := hcell i hi
  obtain ⟨hpj, hmj⟩ := hl i hi
  obtain ⟨y, hy⟩ : ∃ y, ps.getD i dPl = y := ⟨_, rfl⟩
  rw [hy] at h7 hpj hmj hok ⊢
  obtain ⟨frm, c, fa⟩ := y
  simp only at hpj hmj hok ⊢
  generalize pf i = pj at hpj h7
  generalize mf i = mj at hmj h7
  obtain ⟨ya, yn, yc, rfl⟩ := hpj.shape
  obtain ⟨ua, un, uc, rfl⟩ := hmj.shape
  have hi0 : (0 : Int) ≤ (i : Int) := Int.natCast_nonneg _
  have hi1 : (i : Int) < (ps.length : Int) := by omega
  have hn0 : (0 : Int) ≤ (n : Int) := Int.natCast_nonneg _
  obtain ⟨g0, g1, g2, g3, g4, g5, g6⟩ := id h7
  simp only at g0 g1 g2 g3 g4 g5 g6
  have hW0 : ∀ W, W = (w.alloc (.cells #[.int .i64 it, .slice (some ⟨bb, off, none⟩) ps.length cap, .slice qa qn qc] 31)).alloc (.cells #[.int .i64 c.pol, .int .i64 c.size, .slice ya yn yc, .slice ua un uc, .int .i64 c.hand] 70) →
      Chg No w W ∧ Box W (w.heap.size + 1) (.int .i64 c.pol) (.int .i64 c.size) (.slice ya yn yc) (.slice ua un uc) (.int .i64 c.hand) := fun W e => by
    subst e
    exact ⟨((Chg.refl No w).alloc _).alloc _, (Box.new (w.alloc (.cells #[.int .i64 it, .slice (some ⟨bb, off, none⟩) ps.length cap, .slice qa qn qc] 31)) _ _ _ _ _ 70).at (by simp)⟩
  have HW0 := Lib.hid hW0
  clear hW0 hcell hcl hl h7 hy ht
  go_enter Tryz.func87, Tryz.ntmps87
  go_wp2_with fail
  clear g0 g1 g2 g3 g4 g5 g6
  generalize hWW : (w.alloc _).alloc _ = W1
  obtain ⟨kk, bx⟩ := HW0.out W1 hWW.symm
  clear hWW HW0
  have hbx := bx.lt
  refine (l1Own_any No _ rq W1 (hrq.keep kk)).mono ?_
  rintro e w2 ⟨v2, rfl, o2, k2⟩
  have hs2 := k2.size
  have hk2 := kk.keep k2
  have bx2 := bx.keep k2
  have hs1 := kk.size
  have hB2 : ∀ q, (q = w.heap.size + 1 ∨ own v2 q) → No q ∨ w.heap.size ≤ q := fun q hq => .inr (by
    rcases hq with e | e
    · omega
    · have := (o2.lt q e).1; omega)
  have hp2 := hpj.to (B := fun q => q = w.heap.size + 1 ∨ own v2 q) hk2 (fun _ e => e.elim) hB2
  have hm2 := hmj.to (B := fun q => q = w.heap.size + 1 ∨ own v2 q) hk2 (fun _ e => e.elim) hB2
  have o2' := o2.weak (base' := w.heap.size + 2) (by omega)
  have HOK := Lib.hid hok
  clear bx k2 o2 kk hB2 hpj hmj hok
  obtain ⟨B7, hB7⟩ : ∃ B7, w.heap.size + 1 = B7 := ⟨_, rfl⟩
  rw [hB7] at bx2 hp2 hm2 hbx ⊢
  go_wp2_with fail
  go_loopw [8, 9] (fun o z wr => ∃ (j : Nat) (pv mv : Value), j ≤ n ∧ z = .int .i64 (j : Int) ∧ OI (w.heap.size + 2) wr o (rq ++ cruelI c j) ∧
      Box wr B7 (.int .i64 (runC c (cruelI c j)).pol) (.int .i64 (runC c (cruelI c j)).size) pv mv (.int .i64 (runC c (cruelI c j)).hand) ∧
      RI (fun q => q = B7 ∨ own o q) wr pv (runC c (cruelI c j)).pages ∧ RI (fun q => q = B7 ∨ own o q) wr mv (runC c (cruelI c j)).marks ∧ Chg No w wr) (fun _ z _ => n - (intOf z).toNat)
  case atStart => exact ⟨0, _, _, Nat.zero_le _, rfl, by simp only [cruelI, List.append_nil]; exact o2', bx2, hp2, hm2, hk2⟩
  case round =>
    clear bx2 hp2 hm2 o2' hk2
    obtain ⟨j, pv, mv, hj, rfl, ho, hbox, hp, hm, hch⟩ := hrel
    have hj0 : (0 : Int) ≤ (j : Int) := Int.natCast_nonneg _
    obtain ⟨ck, hck⟩ : ∃ ck, runC c (cruelI c j) = ck := ⟨_, rfl⟩
    have hokk : Ok ck := hck ▸ ok_run HOK.out _
    rw [hck] at hbox hp hm
    obtain ⟨xa, xn, xc, rfl⟩ := hp.shape
    obtain ⟨za, zn, zc, rfl⟩ := hm.shape
    obtain ⟨oa, on, oc, rfl⟩ := ho.shape
    obtain ⟨L, hL⟩ : ∃ L, rq ++ cruelI c j = L := ⟨_, rfl⟩
    have hLL : L.length = rq.length + j := by rw [← hL, List.length_append, cruelI_len]
    rw [hL] at ho
    obtain ⟨c0, c1, c2, c3, c4, hfr⟩ := id hbox
    by_cases hlt : j < n
    · have hj1 : (j : Int) < (n : Int) := by omega
      have hw1 : IntKind.i64.wrap ((j : Int) + 1) = (j : Int) + 1 := IntWalk.i64_in _ (by omega)
      obtain ⟨m, hmm⟩ : ∃ m, missOf ck.pages = m := ⟨_, rfl⟩
      have hmiss : IsMiss ck.pages m := hmm ▸ missOf_spec _
      have hS1 : cruelI c (j + 1) = cruelI c j ++ [(m : Int)] := by rw [← hmm, ← hck]; rfl
      have hS2 : runC c (cruelI c (j + 1)) = stepC ck (m : Int) := by rw [hS1, runC_one, hck]
      have hS3 : rq ++ cruelI c (j + 1) = L ++ [(m : Int)] := by rw [hS1, ← List.append_assoc, hL]
      have HS2 := Lib.hid hS2
      have HS3 := Lib.hid hS3
      have HLL := Lib.hid hLL
      clear hS1 hS2 hS3 hmm hck hL hLL
      go_wp2_with fail
      refine (l7Missing_any _ _ m wr (hp.weak (fun _ e _ => e.elim)) hmiss).mono ?_
      rintro e w3 ⟨rfl, rfl⟩
      go_wp2_with fail
      have hBd : Bd (fun q => q = B7 ∨ own (.slice oa on oc) q) wr := fun q hq => by
        rcases hq with e | e
        · subst e; exact hbox.lt
        · exact (ho.lt q e).2
      refine (l4Step_any (fun q => q = B7 ∨ own (.slice oa on oc) q) _ ck (m : Int) wr ⟨_, _, rfl, hp, hm⟩ hBd hokk).mono ?_
      rintro e w4 ⟨v4, rfl, ⟨pv3, mv3, rfl, hp3, hm3⟩, hk3⟩
      clear c0 c1 c2 c3 c4 hfr
      obtain ⟨pa3, pn3, pc3, rfl⟩ := hp3.shape
      obtain ⟨ma3, mn3, mc3, rfl⟩ := hm3.shape
      have hbox3 := hbox.keep hk3
      obtain ⟨c0, c1, c2, c3, c4, hfr⟩ := id hbox3
      have hfr0 := hfr 0
      have hfr1 := hfr 1
      have hfr2 := hfr 2
      have hfr3 := hfr 3
      have hfr4 := hfr 4
      have hbox5 := hbox3.put5 (.int .i64 (stepC ck m).pol) (.int .i64 (stepC ck m).size) (.slice pa3 pn3 pc3) (.slice ma3 mn3 mc3) (.int .i64 (stepC ck m).hand)
      have hcb := (Chg.refl (fun q => q = B7) w4).put5 (b := B7) (fun _ => rfl) (.int .i64 (stepC ck m).pol) (.int .i64 (stepC ck m).size) (.slice pa3 pn3 pc3) (.slice ma3 mn3 mc3) (.int .i64 (stepC ck m).hand)
      have hp5 := hp3.step hcb (fun q hq => .inl hq)
      have hm5 := hm3.step hcb (fun q hq => .inl hq)
      have ho5 := (ho.keep hk3).step hcb (fun q hq e => by have := (ho.lt q hq).1; omega)
      have hch5 := (hch.keep hk3).step hcb (fun q hq hl => by omega)
      have HCB := Lib.hid hcb
      have hl17 : L.length < 17592186044416 := by rw [HLL.out]; omega
      obtain ⟨w5, hw5⟩ : ∃ w5, (((((w4.setCell ⟨B7, 0, none⟩ (.int .i64 (stepC ck m).pol)).setCell ⟨B7, 1, none⟩ (.int .i64 (stepC ck m).size)).setCell ⟨B7, 2, none⟩ (.slice pa3 pn3 pc3)).setCell ⟨B7, 3, none⟩ (.slice ma3 mn3 mc3)).setCell ⟨B7, 4, none⟩ (.int .i64 (stepC ck m).hand)) = w5 := ⟨_, rfl⟩
      have hz5 : w4.heap.size = w5.heap.size := by rw [← hw5]; simp
      rw [hw5] at hbox5 hp5 hm5 ho5 hch5
      have hb7 := hbox5.lt
      have hs2 : w.heap.size + 2 ≤ w5.heap.size := by omega
      have HW5 := Lib.hid hw5
      have HZ5 := Lib.hid hz5
      have HS2' := Lib.hid hs2
      have HH5 := Lib.hid (And.intro hbox5 (And.intro hp5 (And.intro hm5 hch5)))
      clear hbox hp hm hch ho hp3 hm3 hbox3 hk3 hcb hbox5 hp5 hm5 hch5 hBd hb7 hw5 hz5 hs2
      go_wp2_with (at_builtin; rw [HW5.out, HZ5.out]; refine wapp1 rfl (.tmp 31) (.tmp 33) rfl ho5 rfl rfl hl17 HS2'.out ?_)
      intro v7 w7 h7 k7 f7
      obtain ⟨hbox5, hp5, hm5, hch5⟩ := HH5.out
      have hA : ∀ q, own (.slice oa on oc) q → w.heap.size + 2 ≤ q := fun q hq => (ho5.lt q hq).1
      have hto : ∀ q, (q = B7 ∨ own v7 q) → (q = B7 ∨ own (.slice oa on oc) q) ∨ w5.heap.size ≤ q := fun q hq => by
        rcases hq with e | e
        · exact .inl (.inl e)
        · rcases f7 q e with e | e
          · exact .inl (.inr e)
          · exact .inr e
      have hp7 := hp5.to (B := fun q => q = B7 ∨ own v7 q) k7 (fun q hq => .inr hq) hto
      have hm7 := hm5.to (B := fun q => q = B7 ∨ own v7 q) k7 (fun q hq => .inr hq) hto
      have hbox7 := hbox5.step k7 (fun e => by have := hA _ e; omega)
      have hch7 := hch5.step k7 (fun q hq hl => by have := hA q hq; omega)
      have HEND := Lib.hid (And.intro h7 (And.intro hbox7 (And.intro hp7 (And.intro hm7 hch7))))
      obtain ⟨na, nn, nc, rfl⟩ := h7.shape
      clear h7 k7 f7 hbox5 hp5 hm5 hch5 hto hA hp7 hm7 hbox7 hch7 ho5 c0 c1 c2 c3 c4 hfr hfr0 hfr1 hfr2 hfr3 hfr4
      go_wp2_with fail
      go_round
      case measure => simp [intOf]; omega
      case rel =>
        obtain ⟨e1, e2, e3, e4, e5⟩ := HEND.out
        refine ⟨j + 1, .slice pa3 pn3 pc3, .slice ma3 mn3 mc3, by omega, by go_num, by rw [HS3.out]; exact e1, by rw [HS2.out]; exact e2, by rw [HS2.out]; exact e3, by rw [HS2.out]; exact e4, e5⟩
    · have hje : j = n := by omega
      subst hje
      have HE := Lib.hid (And.intro ho hch)
      have HL := Lib.hid hL
      clear hp hm hbox c0 c1 c2 c3 c4 hfr ho hch hck hL hLL
      go_wp2_with fail
      go_ret
      exact ⟨_, rfl, by rw [HL.out]; exact HE.out.1.weak (by omega), HE.out.2⟩
end Go.Proofs.YtccmocbkpanibaaGreat

/- slices.Delete at a row of Players: one is taken out -/
namespace Go.Proofs.YtccmocbkpanibaaGreat
open Go.RowKit

theorem OS.front {E : TypeId} {sz base : Nat} {w : World} {g m cap n : Nat} {cs : List Value} (h : OS E sz base w (.slice (some ⟨g, 0, none⟩) m cap) n cs) (i : Nat) (hi : i ≤ n) : OS E sz base w (.slice (some ⟨g, 0, none⟩) i cap) i (cs.take (i * sz)) := by
  have hcl := h.cl
  have hle : i * sz ≤ n * sz := Nat.mul_le_mul_right _ hi
  obtain ⟨hl, hlen, hc⟩ := h
  rcases hc with ⟨he, _⟩ | ⟨g', cap', cur, he, hb', hg, hn, hm, hs, ht⟩
  · simp at he
  · simp only [Value.slice.injEq, Option.some.injEq, Addr.mk.injEq, and_true] at he
    obtain ⟨rfl, rfl, rfl⟩ := he
    refine ⟨by omega, by rw [List.length_take]; omega, .inr ⟨g, cap, cur, rfl, hb', hg, by omega, hm, hs, ?_⟩⟩
    rw [← ht, List.take_take, Nat.min_eq_left hle]
theorem OS.setCells {E : TypeId} {sz base g m cap n : Nat} {cs : List Value} : ∀ (ds : List Value) (o : Nat) (w : World), OS E sz base w (.slice (some ⟨g, 0, none⟩) m cap) n cs → n * sz ≤ o → OS E sz base (w.setCells g o ds) (.slice (some ⟨g, 0, none⟩) m cap) n cs ∧ Chg (fun k => k = g) w (w.setCells g o ds)
  | [], _, w, h, _ => ⟨h, Chg.refl _ w⟩
  | d :: ds, o, w, h, ho => by
    obtain ⟨h1, h2⟩ := h.store o d
    rw [List.set_eq_of_length_le (by rw [h.cl]; exact ho)] at h1
    obtain ⟨h3, h4⟩ := OS.setCells ds (o + 1) _ h1 (by omega)
    exact ⟨h3, h2.trans h4⟩
theorem OS.room {E : TypeId} {sz base : Nat} {w : World} {g m cap n : Nat} {cs : List Value} (h : OS E sz base w (.slice (some ⟨g, 0, none⟩) m cap) n cs) (j : Nat) (hj : j < cap * sz) : (w.cell? ⟨g, j, none⟩).isSome = true := by
  obtain ⟨hl, hlen, hc⟩ := h
  rcases hc with ⟨he, _⟩ | ⟨g', cap', cur, he, hb', hg, hn, hm, hs, ht⟩
  · simp at he
  · simp only [Value.slice.injEq, Option.some.injEq, Addr.mk.injEq, and_true] at he
    obtain ⟨rfl, rfl, rfl⟩ := he
    rw [cell_of_row w g j cur E (0, 0) hg, Array.getElem?_eq_getElem (by omega)]; rfl
theorem wappF {ops : Array Oper} {rest : List Oper} {o : Oper} {a : Act} {Q : Exit → Act → World → Prop} {w : World} {T E : TypeId} {z : Value} {sz bytes : Nat} (t : El T E z sz bytes) (hgd : o.guard = none) (s x : Operand)
    (ho : o.op = .call { callee := .builtin .append, args := #[s, x], argTypes := #[T, T] })
    {base g n cap m c N : Nat} {cs ds : List Value} {ad : Addr} (hown : OS E sz base w (.slice (some ⟨g, 0, none⟩) n cap) n cs) (hl : ds.length = m * sz) (hnews : ∀ j u, ds[j]? = some u → w.cell? (ad.add j) = some u) (h1 : ∀ u ∈ ds, u.oneCell' = true)
    (hs : a.eval s = .slice (some ⟨g, 0, none⟩) n cap) (hx : a.eval x = .slice (some ad) m c) (hroom : N ≤ cap) (hN : n + m = N) (hN2 : N ≤ 1099511627776)
    (h : ∀ w', OS E sz base w' (.slice (some ⟨g, 0, none⟩) N cap) N (cs ++ ds) → Chg (fun k => k = g) w w' → wpList Tryz.prog ops Q rest (a.put o.dst (.slice (some ⟨g, 0, none⟩) N cap)) w') : wpList Tryz.prog ops Q (o :: rest) a w := by
  subst hN
  obtain ⟨i0, hi, hz0, hz1, hz2⟩ := t.info
  obtain ⟨w', hr, h2, h3⟩ := run_append_fits (P := Tryz.prog) w base T o.type E i0 sz t.und hi hz1 g n cap cs hown.2 ad m c ds hl hnews h1 hroom
  refine wpList_plain hgd fun _ hK => ?_
  unfold Oper.wp execOp
  simp only [ho, resolve, invoke, builtin, Sem.run_bind, Sem.run_pure, Result.andThen_ok, List.map_toArray, List.map_cons, List.map_nil, hs, hx, hr]
  exact hK _ _ (h w' ⟨hN2, h2⟩ (Chg.grown (v := .slice (some ⟨g, 0, none⟩) n cap) h3 |>.mono (fun k e _ => own_slice.1 e)))
def zPl : List Value := [.int .i64 0, .int .i64 0, .int .i64 0, .slice none 0 0, .slice none 0 0, .int .i64 0, .int .i64 0]
theorem run_zeroP (w : World) : (zeroValue 72).run Tryz.prog w = .ok (.agg #[.int .i64 0, .int .i64 0, .int .i64 0, .slice none 0 0, .slice none 0 0, .int .i64 0, .int .i64 0]) w := by kernel_rfl
theorem und_players : Tryz.prog.underlying 29 = some (.slice 72) := by kernel_rfl
theorem run_szP (w : World) : (sizeOf (Tryz.prog.elem 29)).run Tryz.prog w = .ok 7 w := by kernel_rfl
theorem und_playersE : Tryz.prog.underlying 29 = some (.slice (Tryz.prog.elem 29)) := by kernel_rfl
theorem run_clearP (w : World) (b o c : Nat) (ty : TypeId) (hc : ∀ j, j < 7 → (w.cell? ⟨b, o + j, none⟩).isSome = true) (hf : ∀ j, j < 7 → w.frozen? ⟨b, o + j, none⟩ = false) :
    (Builtin.clear_ #[29] ty #[.slice (some ⟨b, o, none⟩) 1 c]).run Tryz.prog w = .ok (.tuple #[]) (w.setCells b o zPl) := by
  have hst := run_storeCells_cells (P := Tryz.prog) b o zPl 0 w (by simpa [zPl] using hc) (by simpa [zPl] using hf) (by decide)
  have hz : (Builtin.zeroCells (Value.agg #[.int .i64 0, .int .i64 0, .int .i64 0, .slice none 0 0, .slice none 0 0, .int .i64 0, .int .i64 0]).cells 1).toList = zPl := by kernel_rfl
  simp only [Nat.add_zero] at hst
  simp [Builtin.clear_, run_underlying und_players, run_zeroP, hz, hst]

set_option maxRecDepth 100000 in
set_option maxHeartbeats 2000000 in
theorem DeleteP_os (base g m cap i : Nat) (cs : List Value) (w : World) (h : OS 72 7 base w (.slice (some ⟨g, 0, none⟩) (m + 1) cap) (m + 1) cs) (hi : i ≤ m) (hm : m ≤ 1048576) (h1 : ∀ u ∈ cs, u.oneCell' = true) :
    Calls Tryz.prog 99 #[.slice (some ⟨g, 0, none⟩) (m + 1) cap, .int .i64 (i : Int), .int .i64 ((i : Int) + 1)] w (Ret fun r w' => r = .slice (some ⟨g, 0, none⟩) m cap ∧ OS 72 7 base w' r m (cs.take (i * 7) ++ cs.drop ((i + 1) * 7)) ∧ Chg (fun q => q = g) w w') := by
  obtain ⟨hcell, hfroz, hbg, hgl, _, hncap, hcapmax⟩ := h.at
  have hcl := h.cl
  have hi0 : (0 : Int) ≤ (i : Int) := Int.natCast_nonneg _
  have hi1 : (i : Int) + 1 ≤ ((m + 1 : Nat) : Int) := by omega
  have hi2 : ((m + 1 : Nat) : Int) ≤ (cap : Int) := by omega
  have hie : ¬ ((i : Int) = (i : Int) + 1) := by omega
  obtain ⟨X, c3, hX, hXn⟩ : ∃ (X : Addr) (c3 : Nat), (∀ w' : World, (Instr.slice 29 (.slice (some ⟨g, 0, none⟩) (m + 1) cap) (some (.int .i64 ((i : Int) + 1))) none none).run Tryz.prog w' = .ok (.slice (some X) (m - i) c3) w') ∧ Hid (∀ (W : World), Chg No w W → ∀ j u, (cs.drop ((i + 1) * 7))[j]? = some u → W.cell? (X.add j) = some u) := by
    by_cases hc : cap = i + 1
    · refine ⟨⟨g, 0, none⟩, cap - (i + 1), fun w' => ?_, Lib.hid fun W hW j u hu => ?_⟩
      · rw [run_slice_l w' _ _ (m + 1) cap und_playersE .i64 ((i : Int) + 1) (by omega) (by omega), run_szP]
        have : ((i : Int) + 1).toNat = i + 1 := by omega
        simp [Result.andThen, sliced, this, hc]
      · have : cs.length ≤ (i + 1) * 7 := by rw [hcl]; omega
        rw [List.drop_eq_nil_of_le this] at hu; simp at hu
    · refine ⟨⟨g, (i + 1) * 7, none⟩, cap - (i + 1), fun w' => ?_, Lib.hid fun W hW j u hu => ?_⟩
      · rw [run_slice_l w' _ _ (m + 1) cap und_playersE .i64 ((i : Int) + 1) (by omega) (by omega), run_szP]
        have : ((i : Int) + 1).toNat = i + 1 := by omega
        simp [Result.andThen, sliced, this, hc, Addr.add]
      · rw [List.getElem?_drop] at hu
        rw [Addr.add_lit, hW.cellD g _ hgl (fun e => e), hcell _ (List.getElem?_eq_some_iff.1 hu).1, List.getD_eq_getElem?_getD, hu]; rfl
  have hF : ∀ w' : World, (Instr.slice 29 (.slice (some ⟨g, 0, none⟩) (m + 1) cap) none (some (.int .i64 (i : Int))) none).run Tryz.prog w' = .ok (.slice (some ⟨g, 0, none⟩) i cap) w' := fun w' => by
    rw [run_slice_h w' _ _ (m + 1) cap und_playersE .i64 (i : Int) (by omega) (by omega), run_szP]
    simp [Result.andThen, sliced, Addr.add]
  have HXN := hXn
  have HO := Lib.hid h
  have H1 := Lib.hid h1
  have HCL := Lib.hid hcl
  have hcm : ¬ cap = m := by omega
  clear h hcell h1 hcl hfroz hXn
  go_enter Tryz.func99, Tryz.ntmps99
  go_wp2_with fail
  refine wp_region_K (S := fun _ => True) (k := 6) (by kernel_rfl) ?_
  have hS : (fun _ : World => True) w.drew := trivial
  have k0 := (Chg.refl No w).drew
  generalize w.drew = W at k0 hS ⊢
  refine wpAnyK_take0 0 (.slice (some ⟨g, 0, none⟩) (m + 1) cap) rfl (by kernel_rfl) (fun _ _ _ h => h) hS rfl (by intro w; go_simp) ?_
  simp only [List.getElem_toArray, List.getElem_cons_zero, Act.put, List.setIfInBounds_toArray, List.set_cons_zero, List.set_cons_succ]
  refine wpAnyK_take0 1 (.int .i64 (i : Int)) rfl (by kernel_rfl) (fun _ _ _ h => h) hS rfl (by intro w; go_simp) ?_
  simp only [List.getElem_toArray, List.getElem_cons_succ, List.getElem_cons_zero, Act.put, List.setIfInBounds_toArray, List.set_cons_zero, List.set_cons_succ]
  refine wpAnyK_take0 2 (.slice (some ⟨g, 0, none⟩) i cap) rfl (by kernel_rfl) (fun _ _ _ h => h) hS rfl (by intro w; go_simp) ?_
  simp only [List.getElem_toArray, List.getElem_cons_succ, List.getElem_cons_zero, Act.put, List.setIfInBounds_toArray, List.set_cons_zero, List.set_cons_succ]
  refine wpAnyK_take0 3 (.slice (some ⟨g, 0, none⟩) (m + 1) cap) rfl (by kernel_rfl) (fun _ _ _ h => h) hS rfl (by intro w; go_simp) ?_
  simp only [List.getElem_toArray, List.getElem_cons_succ, List.getElem_cons_zero, Act.put, List.setIfInBounds_toArray, List.set_cons_zero, List.set_cons_succ]
  refine wpAnyK_take0 4 (.int .i64 ((i : Int) + 1)) rfl (by kernel_rfl) (fun _ _ _ h => h) hS rfl (by intro w; go_simp) ?_
  simp only [List.getElem_toArray, List.getElem_cons_succ, List.getElem_cons_zero, Act.put, List.setIfInBounds_toArray, List.set_cons_zero, List.set_cons_succ]
  refine wpAnyK_take0 5 (.slice (some X) (m - i) c3) rfl (by kernel_rfl) (fun _ _ _ h => h) hS rfl (by intro w; go_simp) ?_
  simp only [List.getElem_toArray, List.getElem_cons_succ, List.getElem_cons_zero, Act.put, List.setIfInBounds_toArray, List.set_cons_zero, List.set_cons_succ]
  refine wpAnyK_tail 6 rfl (by kernel_rfl) ?_
  simp only [List.drop_succ_cons, List.drop_zero]
  clear hS
  go_wp2_with (at_builtin; refine wappF elPlayers rfl (.tmp 22) (.tmp 25) rfl ((HO.out.keep k0).front i (by omega)) (ds := cs.drop ((i + 1) * 7)) (m := m - i) (N := m) (by rw [List.length_drop, HCL.out]; omega) (HXN.out _ k0) (fun u hu => H1.out u (List.mem_of_mem_drop hu)) rfl rfl (by omega) (by omega) (by omega) ?_)
  intro W1 o1 k1
  have hclr : ∀ ty, (Builtin.clear_ #[29] ty #[.slice (some ⟨g, m * 7, none⟩) 1 (cap - m)]).run Tryz.prog W1 = .ok (.tuple #[]) (W1.setCells g (m * 7) zPl) := fun ty =>
    run_clearP W1 g (m * 7) (cap - m) ty (fun j hj => o1.room _ (by omega)) (fun j _ => o1.at.2.1 _)
  obtain ⟨o2, k2⟩ := OS.setCells zPl (m * 7) W1 o1 (Nat.le_refl _)
  have HEND := Lib.hid (And.intro o2 (((k0.mono (fun _ e _ => e.elim)).trans k1).trans k2))
  clear o1 k1 o2 k2 hX hF
  go_wp2_with fail
  go_ret
  exact ⟨_, rfl, rfl, HEND.out.1, HEND.out.2⟩

/-- where the k-th lay before number i was taken out -/
def sg (i k : Nat) : Nat := if k < i then k else k + 1
theorem getD_erase (ls : List Pl) (i k : Nat) : (ls.eraseIdx i).getD k dPl = ls.getD (sg i k) dPl := by
  simp only [List.getD_eq_getElem?_getD, List.getElem?_eraseIdx, sg]
  split <;> rfl
theorem rowC_erase (ls : List Pl) (pf mf : Nat → Value) (i d : Nat) : (rowC ls pf mf (i + d + 1)).take (i * 7) ++ (rowC ls pf mf (i + d + 1)).drop ((i + 1) * 7) = rowC (ls.eraseIdx i) (fun k => pf (sg i k)) (fun k => mf (sg i k)) (i + d) := by
  induction d with
  | zero =>
    rw [List.drop_eq_nil_of_le (by rw [rowC_len]; omega), List.append_nil]
    simp only [Nat.add_zero]
    rw [rowC, List.take_append_of_le_length (by rw [rowC_len]; omega), List.take_of_length_le (by rw [rowC_len]; omega)]
    exact rowC_congr _ _ _ _ _ _ i (fun k hk => by rw [getD_erase]; simp [sg, hk])
  | succ d ih =>
    have e : i + (d + 1) + 1 = (i + d + 1) + 1 := by omega
    rw [e, rowC, List.take_append_of_le_length (by rw [rowC_len]; omega), List.drop_append_of_le_length (by rw [rowC_len]; omega), ← List.append_assoc, ih]
    have e2 : i + (d + 1) = (i + d) + 1 := by omega
    rw [e2, rowC]
    have e3 : sg i (i + d) = i + d + 1 := by unfold sg; rw [if_neg (by omega)]
    rw [getD_erase, e3]
theorem PA.one {base : Nat} {w : World} {v : Value} {ls : List Pl} {pf mf : Nat → Value} (h : PA base w v ls pf mf) : ∀ n, n ≤ ls.length → ∀ u ∈ rowC ls pf mf n, u.oneCell' = true
  | 0, _, u, hu => by cases hu
  | n + 1, hn, u, hu => by
    rw [rowC] at hu
    rcases List.mem_append.1 hu with hu | hu
    · exact h.one n (by omega) u hu
    · obtain ⟨a1, n1, c1, e1⟩ := (h.pg n hn).shape
      obtain ⟨a2, n2, c2, e2⟩ := (h.mq n hn).shape
      rw [e1, e2] at hu
      simp only [plC, List.mem_cons, List.not_mem_nil, or_false] at hu
      rcases hu with rfl | rfl | rfl | rfl | rfl | rfl | rfl <;> rfl
theorem sg_lt {i m k : Nat} (hk : k < m) : sg i k < m + 1 := by unfold sg; split <;> omega
theorem sg_inj {i j k : Nat} (h : j ≠ k) : sg i j ≠ sg i k := by unfold sg; split <;> split <;> omega
/-- one Player taken out -/
theorem PA.erase {base : Nat} {w w' : World} {v v' : Value} {ls : List Pl} {pf mf : Nat → Value} {S : Nat → Prop} (h : PA base w v ls pf mf) {i m : Nat} (hl : ls.length = m + 1) (hi : i ≤ m)
    (o : OS 72 7 base w' v' m ((rowC ls pf mf (m + 1)).take (i * 7) ++ (rowC ls pf mf (m + 1)).drop ((i + 1) * 7))) (hc : Chg S w w') (hS : ∀ q, S q → own v q ∨ w.heap.size ≤ q) (hn : ∀ q, own v' q → own v q ∨ w.heap.size ≤ q) :
    PA base w' v' (ls.eraseIdx i) (fun k => pf (sg i k)) (fun k => mf (sg i k)) := by
  have hle : (ls.eraseIdx i).length = m := by rw [List.length_eraseIdx, if_pos (by omega)]; omega
  have hno : ∀ k, k < ls.length → ∀ q, (own (pf k) q ∨ own (mf k) q) → ¬ S q := fun k hk q hq hs => by
    rcases hS q hs with h1 | h1
    · exact h.far k hk q hq h1
    · have := (h.inF q (.inr ⟨k, hk, hq⟩)).2; omega
  refine ⟨?_, fun k hk => ?_, fun k hk => ?_, fun k hk q hq hq' => ?_, fun k hk => ?_, fun j k hj hk hne => ?_⟩
  · rw [hle]
    obtain ⟨d, rfl⟩ : ∃ d, m = i + d := ⟨m - i, by omega⟩
    rw [← rowC_erase]; exact o
  · rw [hle] at hk
    rw [getD_erase]
    exact (h.pg (sg i k) (by rw [hl]; exact sg_lt hk)).step hc (fun q hq => hno _ (by rw [hl]; exact sg_lt hk) q (.inl hq))
  · rw [hle] at hk
    rw [getD_erase]
    exact (h.mq (sg i k) (by rw [hl]; exact sg_lt hk)).step hc (fun q hq => hno _ (by rw [hl]; exact sg_lt hk) q (.inr hq))
  · rw [hle] at hk
    rcases hn q hq' with h1 | h1
    · exact h.far _ (by rw [hl]; exact sg_lt hk) q hq h1
    · have := (h.inF q (.inr ⟨_, by rw [hl]; exact sg_lt hk, hq⟩)).2; omega
  · rw [hle] at hk
    exact h.apart _ (by rw [hl]; exact sg_lt hk)
  · rw [hle] at hj hk
    exact h.dis _ _ (by rw [hl]; exact sg_lt hj) (by rw [hl]; exact sg_lt hk) (sg_inj hne)
theorem FA.erase {v v' : Value} {m i : Nat} {pf mf : Nat → Value} {q b : Nat} (hn : own v' q → own v q ∨ b ≤ q) (h : FA v' m (fun k => pf (sg i k)) (fun k => mf (sg i k)) q) : FA v (m + 1) pf mf q ∨ b ≤ q := by
  rcases h with h | ⟨k, hk, h⟩
  · rcases hn h with h | h
    · exact .inl (.inl h)
    · exact .inr h
  · exact .inl (.inr ⟨sg i k, sg_lt hk, h⟩)
end Go.Proofs.YtccmocbkpanibaaGreat

/- a Player leaves (reference) -/
namespace Go.Proofs.YtccmocbkpanibaaGreat
open Go.RowKit

theorem RF.uptoG {A : Nat → Prop} {w : World} {a : Option Addr} {n cap sz : Nat} {cs : List Value} (T : TypeId) (hu : Tryz.prog.underlying T = some (.slice (Tryz.prog.elem T))) (hz : ∀ w, (sizeOf (Tryz.prog.elem T)).run Tryz.prog w = .ok sz w) (h : RF A w (.slice a n cap) sz n cs) (i : Nat) (hi : i ≤ n) :
    ∃ a' c', (∀ w' : World, (Instr.slice T (.slice a n cap) none (some (.int .i64 (i : Int))) none).run Tryz.prog w' = .ok (.slice a' i c') w') ∧ RF A w (.slice a' i c') sz i (cs.take (i * sz)) := by
  obtain ⟨a0, cap0, he, h1, h2, h3, h0, h4⟩ := h
  simp only [Value.slice.injEq, true_and] at he
  obtain ⟨rfl, rfl⟩ := he
  refine ⟨if cap = 0 then a else a.map (·.add (0 * sz)), cap - 0, fun w' => ?_, ?_⟩
  · rw [run_slice_h w' T a n cap hu .i64 i (by omega) (by omega), hz]
    simp [Result.andThen, sliced]
  · have hm : i * sz ≤ n * sz := Nat.mul_le_mul_right _ hi
    refine ⟨_, _, rfl, by omega, by omega, by rw [List.length_take, h3]; omega, fun hn => ?_, fun hp => ?_⟩
    · by_cases hc : cap = 0
      · omega
      · rw [if_neg hc] at hn
        have := h0 (by simpa using hn)
        omega
    · obtain ⟨b, off, rfl, hA, hb, hcell⟩ := h4 (by omega)
      refine ⟨b, off, ?_, hA, hb, fun k hk => ?_⟩
      · have : ¬ cap = 0 := by omega
        simp [this, Addr.add]
      · rw [List.length_take] at hk
        rw [hcell k (by omega), List.getD_eq_getElem?_getD, List.getD_eq_getElem?_getD, List.getElem?_take_of_lt (by omega)]
theorem RF.fromG {A : Nat → Prop} {w : World} {a : Option Addr} {n cap sz : Nat} {cs : List Value} (T : TypeId) (hu : Tryz.prog.underlying T = some (.slice (Tryz.prog.elem T))) (hz : ∀ w, (sizeOf (Tryz.prog.elem T)).run Tryz.prog w = .ok sz w) (h : RF A w (.slice a n cap) sz n cs) (i : Nat) (hi : i ≤ n) :
    ∃ a' c', (∀ w' : World, (Instr.slice T (.slice a n cap) (some (.int .i64 (i : Int))) none none).run Tryz.prog w' = .ok (.slice a' (n - i) c') w') ∧ RF A w (.slice a' (n - i) c') sz (n - i) (cs.drop (i * sz)) := by
  obtain ⟨a0, cap0, he, h1, h2, h3, h0, h4⟩ := h
  simp only [Value.slice.injEq, true_and] at he
  obtain ⟨rfl, rfl⟩ := he
  refine ⟨if cap = i then a else a.map (·.add (i * sz)), cap - i, fun w' => ?_, ?_⟩
  · rw [run_slice_l w' T a n cap hu .i64 i (by omega) (by omega), hz]
    simp [Result.andThen, sliced]
  · refine ⟨_, _, rfl, by omega, by omega, by rw [List.length_drop, h3, ← Nat.sub_mul], fun hn => ?_, fun hp => ?_⟩
    · by_cases hc : cap = i
      · omega
      · rw [if_neg hc] at hn
        have := h0 (by simpa using hn)
        omega
    · obtain ⟨b, off, rfl, hA, hb, hcell⟩ := h4 (by omega)
      refine ⟨b, off + i * sz, ?_, hA, hb, fun k hk => ?_⟩
      · have : ¬ cap = i := by omega
        simp [this, Addr.add]
      · rw [List.length_drop] at hk
        rw [Nat.add_assoc, hcell (i * sz + k) (by omega), List.getD_eq_getElem?_getD, List.getD_eq_getElem?_getD, List.getElem?_drop]
/-- append at an operation -/
theorem oappS {o : Oper} {a : Act} {K : Act → World → Prop} {Q : Exit → Act → World → Prop} {w : World} {T E : TypeId} {z : Value} {sz bytes : Nat} (t : El T E z sz bytes) (hby : bytes ≤ 128) (s x : Operand)
    (ho : o.op = .call { callee := .builtin .append, args := #[s, x], argTypes := #[T, T] })
    {base : Nat} {v xv : Value} {n m : Nat} {cs ds : List Value} (hown : OS E sz base w v n cs) (hxr : RF No w xv sz m ds) (h1 : ∀ u ∈ ds, u.oneCell' = true) (hs : a.eval s = v) (hx : a.eval x = xv) (hl : n + m ≤ 1099511627776) (hbase : base ≤ w.heap.size)
    (h : ∀ v' w', OS E sz base w' v' (n + m) (cs ++ ds) → Chg (own v) w w' → (∀ k, own v' k → own v k ∨ w.heap.size ≤ k) → K (a.put o.dst v') w') : Oper.wp Tryz.prog o a w K Q := by
  obtain ⟨v', w', hr, h1, h2, h3⟩ := run_appS t hby o.type hown hxr h1 hl hbase
  unfold Oper.wp execOp
  simp only [ho, resolve, invoke, builtin, Sem.run_bind, Sem.run_pure, Result.andThen_ok, List.map_toArray, List.map_cons, List.map_nil, hs, hx, hr]
  exact h v' w' h1 h2 h3

set_option maxRecDepth 100000 in
set_option maxHeartbeats 4000000 in
theorem l12Leave_any (v : Value) (t : To) (i : Nat) (w : World) (h : RT No w v t) (ht : tourB t = true) (hi : i < t.ps.length) :
    Calls Tryz.prog 86 #[v, .int .i64 (i : Int)] w (Ret fun r w' => TA w.heap.size w' r (leaveT t (i : Int)) ∧ Chg No w w') := by
  have h0 := h
  have hs := sv_of ht
  obtain ⟨hl1, _⟩ := tour_len ht
  obtain ⟨it, ps, rq⟩ := t
  obtain ⟨pv, qv, rfl, hps, hrq⟩ := h
  simp only at hps hrq hs hi hl1
  obtain ⟨qa, qc, rfl, _⟩ := id hrq
  obtain ⟨a, cap, rfl, hcap, hmax, hlen, pf, mf, hl, hcl⟩ := id hps
  have HS := Lib.hid hs
  clear hl hcl hs ht
  have hW0 : ∀ W, W = (w.alloc (.cells #[.int .i64 it, .slice a ps.length cap, .slice qa rq.length qc] 31)).alloc (.cells #[.int .i64 0, .slice none 0 0, .slice none 0 0] 31) → Chg No w W ∧ Box3 W w.heap.size (.int .i64 it) (.slice a ps.length cap) (.slice qa rq.length qc) ∧ Box3 W (w.heap.size + 1) (.int .i64 0) (.slice none 0 0) (.slice none 0 0) := fun W e => by
    subst e
    exact boxes32 (R := fun W => Chg No w W ∧ Box3 W w.heap.size (.int .i64 it) (.slice a ps.length cap) (.slice qa rq.length qc) ∧ Box3 W (w.heap.size + 1) (.int .i64 0) (.slice none 0 0) (.slice none 0 0)) (fun W k b0 b1 => ⟨k, b0, b1⟩)
  have HW0 := Lib.hid hW0
  clear hW0
  go_enter Tryz.func86, Tryz.ntmps86
  go_wp2_with fail
  generalize hWW : (w.alloc _).alloc _ = W1
  obtain ⟨kk, b2, b4⟩ := HW0.out W1 hWW.symm
  clear hWW HW0
  obtain ⟨c0, c1, c2, _⟩ := id b2
  go_wp2_with fail
  refine (l12With_any _ _ ⟨it, ps, rq⟩ rq W1 (h0.keep kk) (hrq.keep kk) HS.out).mono ?_
  rintro e w2 ⟨v2, rfl, ⟨pv2, pg, mg, rv2, rfl, hP, hR, hd⟩, k2⟩
  simp only at hP hR hd ⊢
  obtain ⟨L0, hL0⟩ : ∃ L0, againP ps rq = L0 := ⟨_, rfl⟩
  have hLn : L0.length = ps.length := by rw [← hL0, againP_len]
  have HL0 := Lib.hid hL0
  rw [hL0] at hP hd
  clear c0 c1 c2 hL0
  obtain ⟨oa, oc, rfl, _⟩ := hP.os.view
  obtain ⟨ya, yn, yc, rfl⟩ := hR.shape
  obtain ⟨m, hm⟩ : ∃ m, L0.length = m + 1 := ⟨L0.length - 1, by omega⟩
  have him : i ≤ m := by omega
  have hm4 : m ≤ 4 := by omega
  have HLM := Lib.hid hm
  have hsz1 := b4.lt
  replace kk := kk.keep k2
  replace b2 := b2.keep k2
  replace b4 := b4.keep k2
  have hone := hP.one (m + 1) (by omega)
  obtain ⟨cs, hcs⟩ : ∃ cs, rowC L0 pg mg (m + 1) = cs := ⟨_, rfl⟩
  have hos := hP.os
  rw [hm, hcs] at hos
  rw [hcs] at hone
  rw [hm] at hd hP ⊢
  obtain ⟨p1, q1, hF1, hRF1⟩ := hos.readNo.uptoG 29 und_playersE run_szP i (by omega)
  obtain ⟨p2, q2, hF2, hRF2⟩ := hos.readNo.fromG 29 und_playersE run_szP (i + 1) (by omega)
  have hie : ((i + 1 : Nat) : Int) = (i : Int) + 1 := by omega
  rw [hie] at hF2
  have hmi : m + 1 - (i + 1) = m - i := by omega
  rw [hmi] at hF2 hRF2
  have hw1 : IntKind.i64.wrap ((i : Int) + 1) = (i : Int) + 1 := IntWalk.i64_in _ (by omega)
  have HCS := Lib.hid hcs
  have HONE := Lib.hid hone
  have HPX := Lib.hid hP
  clear hcs hone hie hmi hLn hm hl1 hi
  obtain ⟨c0, c1, c2, _⟩ := id b2
  go_wp2_with fail
  clear c0 c1 c2
  have b8 := Box3.new w2 (.int .i64 it) (.slice oa (m + 1) oc) (.slice ya yn yc) 31
  have ka := (Chg.refl No w2).alloc (.cells #[.int .i64 it, .slice oa (m + 1) oc, .slice ya yn yc] 31)
  obtain ⟨B8, hB8⟩ : ∃ B8, w2.heap.size = B8 := ⟨_, rfl⟩
  have hB1 : W1.heap.size ≤ B8 := hB8 ▸ k2.size
  have hcl : ∀ q, own (.slice ya yn yc) q → q < B8 := fun q hq => hB8 ▸ (hR.lt q hq).2
  have hFl : ∀ q, FA (.slice oa (m + 1) oc) L0.length pg mg q → q < B8 := fun q hq => hB8 ▸ (hP.inF q hq).2
  generalize w2.alloc (.cells #[.int .i64 it, .slice oa (m + 1) oc, .slice ya yn yc] 31) = W3 at b8 ka ⊢
  rw [hB8] at b8 ⊢
  replace kk := kk.keep ka
  replace b4 := b4.keep ka
  replace hP := hP.keep ka
  replace hR := hR.keep ka
  replace hRF1 := hRF1.keep ka
  replace hRF2 := hRF2.keep ka
  clear ka hB8 b2 hos
  refine wp_region_K (S := fun W => W.cell? ⟨B8, 1, none⟩ = some (.slice oa (m + 1) oc)) (k := 11) (by kernel_rfl) ?_
  replace kk := kk.keep (drewN0 _)
  replace b4 := b4.keep (drewN0 _)
  replace b8 := b8.keep (drewN0 _)
  replace hP := hP.keep (drewN0 _)
  replace hR := hR.keep (drewN0 _)
  replace hRF1 := hRF1.keep (drewN0 _)
  replace hRF2 := hRF2.keep (drewN0 _)
  generalize W3.drew = WR at kk b4 b8 hP hR hRF1 hRF2 ⊢
  have hS : WR.cell? ⟨B8, 1, none⟩ = some (.slice oa (m + 1) oc) := b8.c1
  have hb8l := b8.lt
  refine wpAnyK_take0 1 (.pointer (some ⟨B8, 1, none⟩)) rfl (by kernel_rfl) (fun _ _ _ h => h) hS rfl (by intro w; go_simp) ?_
  simp only [List.getElem_toArray, List.getElem_cons_succ, List.getElem_cons_zero, Act.put, List.setIfInBounds_toArray, List.set_cons_zero, List.set_cons_succ]
  refine wpAnyK_takeT 2 (.slice oa (m + 1) oc) rfl (by kernel_rfl) (fun _ _ _ h => h) hS rfl (by intro w hSw; go_simp) ?_
  simp only [List.getElem_toArray, List.getElem_cons_succ, List.getElem_cons_zero, Act.put, List.setIfInBounds_toArray, List.set_cons_zero, List.set_cons_succ]
  refine wpAnyK_take0 3 (.int .i64 (i : Int)) rfl (by kernel_rfl) (fun _ _ _ h => h) hS rfl (by intro w; go_simp) ?_
  simp only [List.getElem_toArray, List.getElem_cons_succ, List.getElem_cons_zero, Act.put, List.setIfInBounds_toArray, List.set_cons_zero, List.set_cons_succ]
  refine wpAnyK_take0 4 (.slice p1 i q1) rfl (by kernel_rfl) (fun _ _ _ h => h) hS rfl (by intro w; go_simp) ?_
  simp only [List.getElem_toArray, List.getElem_cons_succ, List.getElem_cons_zero, Act.put, List.setIfInBounds_toArray, List.set_cons_zero, List.set_cons_succ]
  refine wpAnyK_take0 6 (.pointer (some ⟨B8, 1, none⟩)) rfl (by kernel_rfl) (fun _ _ _ h => h) hS rfl (by intro w; go_simp) ?_
  simp only [List.getElem_toArray, List.getElem_cons_succ, List.getElem_cons_zero, Act.put, List.setIfInBounds_toArray, List.set_cons_zero, List.set_cons_succ]
  refine wpAnyK_takeT 7 (.slice oa (m + 1) oc) rfl (by kernel_rfl) (fun _ _ _ h => h) hS rfl (by intro w hSw; go_simp) ?_
  simp only [List.getElem_toArray, List.getElem_cons_succ, List.getElem_cons_zero, Act.put, List.setIfInBounds_toArray, List.set_cons_zero, List.set_cons_succ]
  refine wpAnyK_take0 8 (.int .i64 (i : Int)) rfl (by kernel_rfl) (fun _ _ _ h => h) hS rfl (by intro w; go_simp) ?_
  simp only [List.getElem_toArray, List.getElem_cons_succ, List.getElem_cons_zero, Act.put, List.setIfInBounds_toArray, List.set_cons_zero, List.set_cons_succ]
  refine wpAnyK_take0 9 (.int .i64 ((i : Int) + 1)) rfl (by kernel_rfl) (fun _ _ _ h => h) hS rfl (by intro w; go_simp) ?_
  simp only [List.getElem_toArray, List.getElem_cons_succ, List.getElem_cons_zero, Act.put, List.setIfInBounds_toArray, List.set_cons_zero, List.set_cons_succ]
  refine wpAnyK_take0 10 (.slice p2 (m - i) q2) rfl (by kernel_rfl) (fun _ _ _ h => h) hS rfl (by intro w; go_simp) ?_
  simp only [List.getElem_toArray, List.getElem_cons_succ, List.getElem_cons_zero, Act.put, List.setIfInBounds_toArray, List.set_cons_zero, List.set_cons_succ]
  refine wpAnyK_1 0 (by kernel_rfl) (wpOpK' rfl rfl ?_)
  intro K hK
  unfold Oper.wp execOp
  go_simp
  have kx := (Chg.refl No WR).alloc (.cells #[] 72)
  refine hK.out _ _ (b8.keep kx).c1 ?_
  clear hK K hS
  simp only [List.getElem_toArray, List.getElem_cons_zero, Act.put, List.setIfInBounds_toArray, List.set_cons_zero, List.set_cons_succ]
  have oG := OS.zero (E := 72) (sz := 7) (base := WR.heap.size) (w := WR) (Nat.le_refl _)
  obtain ⟨G, hG⟩ : ∃ G, WR.heap.size = G := ⟨_, rfl⟩
  rw [hG] at oG
  have hGown : ∀ q, own (.slice (some ⟨G, 0, none⟩) 0 0) q → G ≤ q := fun q hq => (oG.lt q hq).1
  have b8x := b8.keep kx
  have r1x := hRF1.keep kx
  have r2x := (hRF2.weak (B := fun q => G ≤ q) (fun q e hl => by omega)).keep kx
  rw [hG]
  generalize WR.alloc (.cells #[] 72) = WX at kx oG b8x r1x r2x ⊢
  refine wpAnyK_1 5 (by kernel_rfl) (wpOpK' rfl rfl ?_)
  intro K hK
  refine oappS elPlayers (by omega) (.tmp 10) (.tmp 14) rfl oG r1x (fun u hu => HONE.out u (List.mem_of_mem_take hu)) rfl rfl (by omega) (by have := kx.size; omega) (fun v15 W15 o15 k15 f15 => hK.out _ _ (b8x.step k15 (fun e => by have := hGown _ e; omega)).c1 ?_)
  clear hK K
  simp only [List.getElem_toArray, List.getElem_cons_succ, List.getElem_cons_zero, Act.put, List.setIfInBounds_toArray, List.set_cons_zero, List.set_cons_succ]
  have h15 : ∀ q, own v15 q → G ≤ q := fun q hq => by
    rcases f15 q hq with e | e
    · exact hGown q e
    · have := kx.size; omega
  have r2y := (r2x.step k15 (fun q e => hGown q e)).weak (B := No) (fun q e _ => e.elim)
  have b8y := b8x.step k15 (fun e => by have := hGown _ e; omega)
  have k15' : Chg No WR W15 := kx.step k15 (fun q e hl => by have := hGown q e; omega)
  refine wpAnyK_tail 11 rfl (by kernel_rfl) ?_
  simp only [List.drop_succ_cons, List.drop_zero]
  go_wp2_with (at_builtin; refine wappS elPlayers (by omega) rfl (.tmp 15) (.tmp 20) rfl o15 r2y (fun u hu => HONE.out u (List.mem_of_mem_drop hu)) rfl rfl (by omega) (by have := k15'.size; omega) ?_)
  intro vN wN oN kN fN
  have hmm : 0 + i + (m - i) = m := by omega
  have oN : OS 72 7 G wN vN m (List.take (i * 7) cs ++ List.drop ((i + 1) * 7) cs) := by first | exact oN | (rw [hmm, List.nil_append] at oN; exact oN)
  have hN : ∀ q, own vN q → G ≤ q := fun q hq => by
    rcases fN q hq with e | e
    · exact h15 q e
    · have := k15'.size; omega
  have kN' : Chg No WR wN := k15'.step kN (fun q e hl => by have := h15 q e; omega)
  have hPe := hP.erase (i := i) HLM.out him (oN.weak (base' := W1.heap.size) (by omega) |> fun x => by rw [HCS.out]; exact x) kN' (fun q e => e.elim) (fun q e => .inr (by have := hN q e; omega))
  have hFe : ∀ q, FA vN m (fun k => pg (sg i k)) (fun k => mg (sg i k)) q → q ≠ B8 ∧ ¬ own (.slice ya yn yc) q := fun q hq => by
    rcases FA.erase (v := .slice oa (m + 1) oc) (b := G) (fun e => .inr (hN q e)) hq with e | e
    · refine ⟨fun e2 => ?_, hd q e⟩
      have := hFl q (by rw [HLM.out]; exact e)
      omega
    · exact ⟨by omega, fun e2 => by have := hcl q e2; omega⟩
  have b8N := b8.keep kN'
  replace kk := kk.keep kN'
  replace b4 := b4.keep kN'
  replace hR := hR.keep kN'
  obtain ⟨na, nc, rfl, _⟩ := oN.view
  have hb81 := b8N.c1
  have hb8f := b8N.fr 1
  have cN : Chg (fun q => q = B8) wN (wN.setCell ⟨B8, 1, none⟩ (.slice na m nc)) := (Chg.refl (fun q => q = B8) wN).setCell (p := ⟨B8, 1, none⟩) (fun _ => rfl) _
  obtain ⟨d0, d1, d2, _⟩ := b8N.set1 (.slice na m nc)
  have hle : (L0.eraseIdx i).length = m := by rw [List.length_eraseIdx, HLM.out, if_pos (by omega)]; omega
  have HP9 := hPe.step cN (fun q hq e => (hFe q (by rw [hle] at hq; exact hq)).1 e)
  replace kk := kk.step cN (fun q hq hl => by omega)
  replace b4 := b4.step cN (by omega)
  replace hR := hR.step cN (fun q hq e => by have := hcl q hq; omega)
  obtain ⟨WS, hWS⟩ : ∃ WS, wN.setCell ⟨B8, 1, none⟩ (.slice na m nc) = WS := ⟨_, rfl⟩
  have HWS := Lib.hid hWS
  rw [hWS] at HP9 kk b4 hR d0 d1 d2
  obtain ⟨e0, e1, e2, cf⟩ := id b4
  have cf0 := cf 0
  have cf1 := cf 1
  have cf2 := cf 2
  clear cf
  obtain ⟨z0, z1, z2, _⟩ := ((b4.set0 (.int .i64 it)).set1 (.slice na m nc)).set2 (.slice ya yn yc)
  have ch : Chg (fun q => q = w.heap.size + 1) WS (((WS.setCell ⟨w.heap.size + 1, 0, none⟩ (.int .i64 it)).setCell ⟨w.heap.size + 1, 1, none⟩ (.slice na m nc)).setCell ⟨w.heap.size + 1, 2, none⟩ (.slice ya yn yc)) :=
    (((Chg.refl (fun q => q = w.heap.size + 1) WS).setCell (p := ⟨w.heap.size + 1, 0, none⟩) (fun _ => rfl) _).setCell (p := ⟨w.heap.size + 1, 1, none⟩) (fun _ => rfl) _).setCell (p := ⟨w.heap.size + 1, 2, none⟩) (fun _ => rfl) _
  have hsz3 : w.heap.size ≤ W1.heap.size := by omega
  have f1 := (HP9.step ch (fun q hq e => by have := (HP9.inF q hq).1; omega)).weak (base' := w.heap.size) hsz3
  have f2 := (hR.step ch (fun q hq e => by have := (hR.lt q hq).1; omega)).weak (base' := w.heap.size) hsz3
  have f3 : ∀ q, FA (.slice na m nc) (L0.eraseIdx i).length (fun k => pg (sg i k)) (fun k => mg (sg i k)) q → ¬ own (.slice ya yn yc) q := fun q hq => (hFe q (by rw [hle] at hq; exact hq)).2
  have hk := kk.step ch (fun q hq hl => by omega)
  have HEND := Lib.hid (And.intro f1 (And.intro f2 (And.intro f3 hk)))
  have HLI : Hid (leaveT ⟨it, ps, rq⟩ (i : Int) = ⟨it, L0.eraseIdx i, rq⟩) := Lib.hid (by unfold leaveT; simp only [HL0.out]; rw [show (i : Int).toNat = i by omega])
  clear f1 f2 f3 hk HP9 kk ch b4 b8 b8x b8y b8N hR hP hd hFl hcl cN oN kN fN hPe hFe kN' k15 k15' f15 r1x r2x r2y oG kx hRF1 hRF2 o15 hF1 hF2 hN h15 hGown hle
  go_wp2_with fail
  exact bodyPost_ret (v := .agg #[.int .i64 it, .slice na m nc, .slice ya yn yc]) (by simp [results, Tryz.results86, go_sem, z0, z1, z2]) rfl ⟨_, rfl, by
    rw [HLI.out]
    exact ⟨_, _, _, _, rfl, HEND.out.1, HEND.out.2.1, HEND.out.2.2.1⟩, HEND.out.2.2.2⟩
end Go.Proofs.YtccmocbkpanibaaGreat

/- a step made (reference) -/
namespace Go.Proofs.YtccmocbkpanibaaGreat
open Go.RowKit

theorem TA.put3 {base : Nat} {w : World} {v : Value} {t : To} (h : TA base w v t) {b : Nat} (hb : b < base) : ∃ it pa pn pc ra rn rc, v = .agg #[.int .i64 it, .slice pa pn pc, .slice ra rn rc] ∧
    TA base (((w.setCell ⟨b, 0, none⟩ (.int .i64 it)).setCell ⟨b, 1, none⟩ (.slice pa pn pc)).setCell ⟨b, 2, none⟩ (.slice ra rn rc)) v t := by
  obtain ⟨pv, pf, mf, rv, rfl, h2, h3, h4⟩ := h
  obtain ⟨pa, pc, rfl, _⟩ := h2.os.view
  obtain ⟨ra, rn, rc, rfl⟩ := h3.shape
  have ch : Chg (fun q => q = b) w (((w.setCell ⟨b, 0, none⟩ (.int .i64 t.items)).setCell ⟨b, 1, none⟩ (.slice pa t.ps.length pc)).setCell ⟨b, 2, none⟩ (.slice ra rn rc)) :=
    (((Chg.refl (fun q => q = b) w).setCell (p := ⟨b, 0, none⟩) (fun _ => rfl) _).setCell (p := ⟨b, 1, none⟩) (fun _ => rfl) _).setCell (p := ⟨b, 2, none⟩) (fun _ => rfl) _
  exact ⟨_, _, _, _, _, _, _, rfl, _, _, _, _, rfl, h2.step ch (fun q hq e => by have := (h2.inF q hq).1; omega), h3.step ch (fun q hq e => by have := (h3.lt q hq).1; omega), h4⟩
theorem Chg.put3 {S : Nat → Prop} {w0 w : World} (h : Chg S w0 w) {b : Nat} (hb : b < w0.heap.size → S b) (x0 x1 x2 : Value) : Chg S w0 (((w.setCell ⟨b, 0, none⟩ x0).setCell ⟨b, 1, none⟩ x1).setCell ⟨b, 2, none⟩ x2) :=
  ((h.setCell (p := ⟨b, 0, none⟩) hb x0).setCell (p := ⟨b, 1, none⟩) hb x1).setCell (p := ⟨b, 2, none⟩) hb x2
set_option maxRecDepth 100000 in
set_option maxHeartbeats 4000000 in
theorem l12Make1_any (v : Value) (t : To) (a b : Int) (w : World) (h : RT No w v t) (ht : tourB t = true) :
    Calls Tryz.prog 44 #[v, stV 1 a b] w (Ret fun r w' => TA w.heap.size w' r (joinT t a b) ∧ Chg No w w') := by
  obtain ⟨k, hk⟩ : ∃ k : Int, k = 1 := ⟨_, rfl⟩
  rw [← hk]
  obtain ⟨hl1, hl2, hl3, hl4⟩ := tour_len ht
  have h0 := h
  have HT := Lib.hid ht
  obtain ⟨it, ps, rq⟩ := t
  obtain ⟨pv, qv, rfl, hps, hrq⟩ := h
  simp only at hps hrq hl1 hl2 hl3 hl4
  obtain ⟨qa, qc, rfl, _⟩ := id hrq
  obtain ⟨pa, cap, rfl, hcap, hmax, hlen, pf, mf, hl, hcl⟩ := id hps
  obtain ⟨n, hn⟩ : ∃ n, rq.length = n := ⟨_, rfl⟩
  have hW0 := boxes33 (w := w) (t := 31) (t' := 35) (t'' := 31) (x0 := .int .i64 it) (x1 := .slice pa ps.length cap) (x2 := .slice qa n qc) (y0 := .int .i64 k) (y1 := .int .i64 a) (y2 := .int .i64 b) (z0 := .int .i64 0) (z1 := .slice none 0 0) (z2 := .slice none 0 0)
    (R := fun W => Chg No w W ∧ Box3 W w.heap.size (.int .i64 it) (.slice pa ps.length cap) (.slice qa n qc) ∧ Box3 W (w.heap.size + 1) (.int .i64 k) (.int .i64 a) (.int .i64 b) ∧ Box3 W (w.heap.size + 1 + 1) (.int .i64 0) (.slice none 0 0) (.slice none 0 0)) (fun W k b0 b1 b2 => ⟨k, b0, b1, b2⟩)
  obtain ⟨kk, b0, b1, b2⟩ := hW0
  have hn0 : (0 : Int) ≤ (n : Int) := Int.natCast_nonneg _
  rw [hn] at h0 hl2 hrq ⊢
  have HN := Lib.hid hn
  obtain ⟨c0, c1, c2, _⟩ := id b0
  obtain ⟨d0, d1, d2, _⟩ := id b1
  clear hl hcl hps ht hn
  subst hk
  unfold stV
  have HSV := Lib.hid (sv_of HT.out)
  go_enter Tryz.func44, Tryz.ntmps44
  go_wp2_with fail
  refine (l12Join_any _ _ a b _ (h0.keep kk) HSV.out).mono ?_
  rintro e w3 ⟨v3, rfl, hTA, k3⟩
  clear c0 c1 c2 d0 d1 d2
  have hs0 := b2.lt
  replace b2 := b2.keep k3
  replace kk := kk.keep k3
  obtain ⟨e0, e1, e2, cf⟩ := id b2
  have cf0 := cf 0
  have cf1 := cf 1
  have cf2 := cf 2
  clear cf
  have hb2l := b2.lt
  obtain ⟨iN, p1, p2, p3, r1, r2, r3, rfl, hTN⟩ := hTA.put3 (b := w.heap.size + 1 + 1) (by omega)
  obtain ⟨z0, z1, z2, _⟩ := ((b2.set0 (.int .i64 iN)).set1 (.slice p1 p2 p3)).set2 (.slice r1 r2 r3)
  have HK := Lib.hid (kk.put3 (b := w.heap.size + 1 + 1) (fun h => by omega) (.int .i64 iN) (.slice p1 p2 p3) (.slice r1 r2 r3))
  have HTN := Lib.hid (hTN.weak (base' := w.heap.size) (by omega))
  clear hTA hTN kk b2
  go_wp2_with fail
  exact bodyPost_ret (v := .agg #[.int .i64 iN, .slice p1 p2 p3, .slice r1 r2 r3]) (by simp [results, Tryz.results44, go_sem, z0, z1, z2]) rfl ⟨_, rfl, HTN.out, HK.out⟩
set_option maxRecDepth 100000 in
set_option maxHeartbeats 4000000 in
theorem l12Make3_any (v : Value) (t : To) (a b : Int) (w : World) (h : RT No w v t) (ht : tourB t = true) (ha : hasP t a = true) :
    Calls Tryz.prog 44 #[v, stV 3 a b] w (Ret fun r w' => TA w.heap.size w' r (leaveT t a) ∧ Chg No w w') := by
  have hik := inB_iff.1 ha
  obtain ⟨x, rfl⟩ : ∃ x : Nat, a = (x : Int) := ⟨a.toNat, by omega⟩
  have hx : x < t.ps.length := by omega
  obtain ⟨a, hax⟩ : ∃ a : Int, a = (x : Int) := ⟨_, rfl⟩
  rw [← hax]
  have HXX := Lib.hid hx
  clear hik ha hx
  obtain ⟨k, hk⟩ : ∃ k : Int, k = 3 := ⟨_, rfl⟩
  rw [← hk]
  obtain ⟨hl1, hl2, hl3, hl4⟩ := tour_len ht
  have h0 := h
  have HT := Lib.hid ht
  obtain ⟨it, ps, rq⟩ := t
  obtain ⟨pv, qv, rfl, hps, hrq⟩ := h
  simp only at hps hrq hl1 hl2 hl3 hl4
  obtain ⟨qa, qc, rfl, _⟩ := id hrq
  obtain ⟨pa, cap, rfl, hcap, hmax, hlen, pf, mf, hl, hcl⟩ := id hps
  obtain ⟨n, hn⟩ : ∃ n, rq.length = n := ⟨_, rfl⟩
  have hW0 := boxes33 (w := w) (t := 31) (t' := 35) (t'' := 31) (x0 := .int .i64 it) (x1 := .slice pa ps.length cap) (x2 := .slice qa n qc) (y0 := .int .i64 k) (y1 := .int .i64 a) (y2 := .int .i64 b) (z0 := .int .i64 0) (z1 := .slice none 0 0) (z2 := .slice none 0 0)
    (R := fun W => Chg No w W ∧ Box3 W w.heap.size (.int .i64 it) (.slice pa ps.length cap) (.slice qa n qc) ∧ Box3 W (w.heap.size + 1) (.int .i64 k) (.int .i64 a) (.int .i64 b) ∧ Box3 W (w.heap.size + 1 + 1) (.int .i64 0) (.slice none 0 0) (.slice none 0 0)) (fun W k b0 b1 b2 => ⟨k, b0, b1, b2⟩)
  obtain ⟨kk, b0, b1, b2⟩ := hW0
  have hn0 : (0 : Int) ≤ (n : Int) := Int.natCast_nonneg _
  rw [hn] at h0 hl2 hrq ⊢
  have HN := Lib.hid hn
  obtain ⟨c0, c1, c2, _⟩ := id b0
  obtain ⟨d0, d1, d2, _⟩ := id b1
  clear hl hcl hps ht hn
  subst hk
  unfold stV
  subst hax
  go_enter Tryz.func44, Tryz.ntmps44
  go_wp2_with fail
  refine (l12Leave_any _ _ x _ (h0.keep kk) HT.out HXX.out).mono ?_
  rintro e w3 ⟨v3, rfl, hTA, k3⟩
  clear c0 c1 c2 d0 d1 d2
  have hs0 := b2.lt
  replace b2 := b2.keep k3
  replace kk := kk.keep k3
  obtain ⟨e0, e1, e2, cf⟩ := id b2
  have cf0 := cf 0
  have cf1 := cf 1
  have cf2 := cf 2
  clear cf
  have hb2l := b2.lt
  obtain ⟨iN, p1, p2, p3, r1, r2, r3, rfl, hTN⟩ := hTA.put3 (b := w.heap.size + 1 + 1) (by omega)
  obtain ⟨z0, z1, z2, _⟩ := ((b2.set0 (.int .i64 iN)).set1 (.slice p1 p2 p3)).set2 (.slice r1 r2 r3)
  have HK := Lib.hid (kk.put3 (b := w.heap.size + 1 + 1) (fun h => by omega) (.int .i64 iN) (.slice p1 p2 p3) (.slice r1 r2 r3))
  have HTN := Lib.hid (hTN.weak (base' := w.heap.size) (by omega))
  clear hTA hTN kk b2
  go_wp2_with fail
  exact bodyPost_ret (v := .agg #[.int .i64 iN, .slice p1 p2 p3, .slice r1 r2 r3]) (by simp [results, Tryz.results44, go_sem, z0, z1, z2]) rfl ⟨_, rfl, HTN.out, HK.out⟩
set_option maxRecDepth 100000 in
set_option maxHeartbeats 4000000 in
theorem l12Make7_any (v : Value) (t : To) (k a b : Int) (w : World) (h : RT No w v t) (ht : tourB t = true) (e1 : ¬ k = 1) (e2 : ¬ k = 2) (e3 : ¬ k = 3) (e4 : ¬ k = 4) (e5 : ¬ k = 5) (e6 : ¬ k = 6) :
    Calls Tryz.prog 44 #[v, stV k a b] w (Ret fun r w' => TA w.heap.size w' r ⟨t.items, clearP t.ps, []⟩ ∧ Chg No w w') := by
  obtain ⟨hl1, hl2, hl3, hl4⟩ := tour_len ht
  have h0 := h
  have HT := Lib.hid ht
  obtain ⟨it, ps, rq⟩ := t
  obtain ⟨pv, qv, rfl, hps, hrq⟩ := h
  simp only at hps hrq hl1 hl2 hl3 hl4
  obtain ⟨qa, qc, rfl, _⟩ := id hrq
  obtain ⟨pa, cap, rfl, hcap, hmax, hlen, pf, mf, hl, hcl⟩ := id hps
  obtain ⟨n, hn⟩ : ∃ n, rq.length = n := ⟨_, rfl⟩
  have hW0 := boxes33 (w := w) (t := 31) (t' := 35) (t'' := 31) (x0 := .int .i64 it) (x1 := .slice pa ps.length cap) (x2 := .slice qa n qc) (y0 := .int .i64 k) (y1 := .int .i64 a) (y2 := .int .i64 b) (z0 := .int .i64 0) (z1 := .slice none 0 0) (z2 := .slice none 0 0)
    (R := fun W => Chg No w W ∧ Box3 W w.heap.size (.int .i64 it) (.slice pa ps.length cap) (.slice qa n qc) ∧ Box3 W (w.heap.size + 1) (.int .i64 k) (.int .i64 a) (.int .i64 b) ∧ Box3 W (w.heap.size + 1 + 1) (.int .i64 0) (.slice none 0 0) (.slice none 0 0)) (fun W k b0 b1 b2 => ⟨k, b0, b1, b2⟩)
  obtain ⟨kk, b0, b1, b2⟩ := hW0
  have hn0 : (0 : Int) ≤ (n : Int) := Int.natCast_nonneg _
  rw [hn] at h0 hl2 hrq ⊢
  have HN := Lib.hid hn
  obtain ⟨c0, c1, c2, _⟩ := id b0
  obtain ⟨d0, d1, d2, _⟩ := id b1
  clear hl hcl hps ht hn
  unfold stV
  have HSV := Lib.hid (fun i hi => (sv_of HT.out i hi).2)
  go_enter Tryz.func44, Tryz.ntmps44
  go_wp2_with fail
  refine (l12Begun_any _ _ _ (h0.keep kk) HSV.out).mono ?_
  rintro e w3 ⟨v3, rfl, hTA, k3⟩
  clear c0 c1 c2 d0 d1 d2
  have hs0 := b2.lt
  replace b2 := b2.keep k3
  replace kk := kk.keep k3
  obtain ⟨e0, e1, e2, cf⟩ := id b2
  have cf0 := cf 0
  have cf1 := cf 1
  have cf2 := cf 2
  clear cf
  have hb2l := b2.lt
  obtain ⟨iN, p1, p2, p3, r1, r2, r3, rfl, hTN⟩ := hTA.put3 (b := w.heap.size + 1 + 1) (by omega)
  obtain ⟨z0, z1, z2, _⟩ := ((b2.set0 (.int .i64 iN)).set1 (.slice p1 p2 p3)).set2 (.slice r1 r2 r3)
  have HK := Lib.hid (kk.put3 (b := w.heap.size + 1 + 1) (fun h => by omega) (.int .i64 iN) (.slice p1 p2 p3) (.slice r1 r2 r3))
  have HTN := Lib.hid (hTN.weak (base' := w.heap.size) (by omega))
  clear hTA hTN kk b2
  go_wp2_with fail
  exact bodyPost_ret (v := .agg #[.int .i64 iN, .slice p1 p2 p3, .slice r1 r2 r3]) (by simp [results, Tryz.results44, go_sem, z0, z1, z2]) rfl ⟨_, rfl, HTN.out, HK.out⟩
theorem Sv.again {t : To} (ht : tourB t = true) {l : List Int} (hl : ∀ i, i < t.ps.length → (t.ps.getD i dPl).frm ≤ l.length) : Sv t.ps l := fun i hi => ⟨⟨(sv_of ht i hi).1.1, hl i hi⟩, (sv_of ht i hi).2⟩

set_option maxRecDepth 100000 in
set_option maxHeartbeats 4000000 in
theorem l12Make4_any (v : Value) (t : To) (a b : Int) (w : World) (h : RT No w v t) (ht : tourB t = true) (hp : 0 < t.reqs.length) (hf : ∀ i, i < t.ps.length → (t.ps.getD i dPl).frm < t.reqs.length) :
    Calls Tryz.prog 44 #[v, stV 4 a b] w (Ret fun r w' => TA w.heap.size w' r (againT t (t.reqs.take (t.reqs.length - 1))) ∧ Chg No w w') := by
  obtain ⟨k, hk⟩ : ∃ k : Int, k = 4 := ⟨_, rfl⟩
  rw [← hk]
  have HSV := Lib.hid (Sv.again ht (l := t.reqs.take (t.reqs.length - 1)) (fun i hi => by have := hf i hi; rw [List.length_take]; omega))
  clear hf
  obtain ⟨m, hm⟩ : ∃ m, t.reqs.length = m + 1 := ⟨t.reqs.length - 1, by omega⟩
  have hm1 : t.reqs.length - 1 = m := by omega
  rw [hm1] at HSV ⊢
  obtain ⟨hl1, hl2, hl3, hl4⟩ := tour_len ht
  have h0 := h
  have HT := Lib.hid ht
  obtain ⟨it, ps, rq⟩ := t
  obtain ⟨pv, qv, rfl, hps, hrq⟩ := h
  simp only at hps hrq hl1 hl2 hl3 hl4
  obtain ⟨qa, qc, rfl, _⟩ := id hrq
  obtain ⟨pa, cap, rfl, hcap, hmax, hlen, pf, mf, hl, hcl⟩ := id hps
  obtain ⟨n, hn⟩ : ∃ n, rq.length = n := ⟨_, rfl⟩
  have hW0 := boxes33 (w := w) (t := 31) (t' := 35) (t'' := 31) (x0 := .int .i64 it) (x1 := .slice pa ps.length cap) (x2 := .slice qa n qc) (y0 := .int .i64 k) (y1 := .int .i64 a) (y2 := .int .i64 b) (z0 := .int .i64 0) (z1 := .slice none 0 0) (z2 := .slice none 0 0)
    (R := fun W => Chg No w W ∧ Box3 W w.heap.size (.int .i64 it) (.slice pa ps.length cap) (.slice qa n qc) ∧ Box3 W (w.heap.size + 1) (.int .i64 k) (.int .i64 a) (.int .i64 b) ∧ Box3 W (w.heap.size + 1 + 1) (.int .i64 0) (.slice none 0 0) (.slice none 0 0)) (fun W k b0 b1 b2 => ⟨k, b0, b1, b2⟩)
  obtain ⟨kk, b0, b1, b2⟩ := hW0
  have hn0 : (0 : Int) ≤ (n : Int) := Int.natCast_nonneg _
  rw [hn] at h0 hl2 hrq ⊢
  have HN := Lib.hid hn
  obtain ⟨c0, c1, c2, _⟩ := id b0
  obtain ⟨d0, d1, d2, _⟩ := id b1
  clear hl hcl hps ht hn
  simp only at hm
  have hnm : n = m + 1 := by rw [← HN.out]; exact hm
  subst hnm
  subst hk
  unfold stV
  have hrq' : RI No w (.slice qa rq.length qc) rq := by rw [HN.out]; exact hrq
  obtain ⟨x, hx, hrx⟩ := hrq'.upto m (m : Int) rfl (by rw [HN.out]; omega)
  rw [HN.out] at hx
  obtain ⟨xa, xn, xc, rfl⟩ := hrx.shape
  have hw1 : IntKind.i64.wrap (((m + 1 : Nat) : Int) - 1) = (m : Int) := by rw [show ((m + 1 : Nat) : Int) - 1 = (m : Int) by omega]; exact IntWalk.i64_in _ (by omega)
  have hw2 : IntKind.i64.wrap (m : Int) = (m : Int) := IntWalk.i64_in _ (by omega)
  clear hrq hrq' hm hm1 hp
  go_enter Tryz.func44, Tryz.ntmps44
  go_wp2_with fail
  generalize hWW : ((w.alloc _).alloc _).alloc _ = W1
  rw [hWW] at kk b0 b1 b2
  clear c0 c1 c2 d0 d1 d2 hWW
  refine wp_region_K (S := fun W => W.cell? ⟨w.heap.size, 0, none⟩ = some (.int .i64 it) ∧ W.cell? ⟨w.heap.size, 1, none⟩ = some (.slice pa ps.length cap) ∧ W.cell? ⟨w.heap.size, 2, none⟩ = some (.slice qa (m + 1) qc) ∧ W.cell? ⟨w.heap.size + 1, 1, none⟩ = some (.int .i64 a) ∧ W.cell? ⟨w.heap.size + 1, 2, none⟩ = some (.int .i64 b)) (k := 7) (by kernel_rfl) ?_
  replace kk := kk.keep (drewN0 _)
  replace b0 := b0.keep (drewN0 _)
  replace b1 := b1.keep (drewN0 _)
  replace b2 := b2.keep (drewN0 _)
  generalize W1.drew = WR at kk b0 b1 b2 ⊢
  have hS : WR.cell? ⟨w.heap.size, 0, none⟩ = some (.int .i64 it) ∧ WR.cell? ⟨w.heap.size, 1, none⟩ = some (.slice pa ps.length cap) ∧ WR.cell? ⟨w.heap.size, 2, none⟩ = some (.slice qa (m+1) qc) ∧ WR.cell? ⟨w.heap.size + 1, 1, none⟩ = some (.int .i64 a) ∧ WR.cell? ⟨w.heap.size + 1, 2, none⟩ = some (.int .i64 b) := ⟨b0.c0, b0.c1, b0.c2, b1.c1, b1.c2⟩
  refine wpAnyK_takeT 0 (.agg #[.int .i64 it, .slice pa ps.length cap, .slice qa (m + 1) qc]) rfl (by kernel_rfl) (fun _ _ _ h => h) hS rfl (by intro w hSw; go_simp) ?_
  simp only [List.getElem_toArray, List.getElem_cons_zero, Act.put, List.setIfInBounds_toArray, List.set_cons_zero, List.set_cons_succ]
  refine wpAnyK_take0 1 (.pointer (some ⟨w.heap.size, 2, none⟩)) rfl (by kernel_rfl) (fun _ _ _ h => h) hS rfl (by intro w; go_simp) ?_
  simp only [List.getElem_toArray, List.getElem_cons_succ, List.getElem_cons_zero, Act.put, List.setIfInBounds_toArray, List.set_cons_zero, List.set_cons_succ]
  refine wpAnyK_takeT 2 (.slice qa (m + 1) qc) rfl (by kernel_rfl) (fun _ _ _ h => h) hS rfl (by intro w hSw; go_simp) ?_
  simp only [List.getElem_toArray, List.getElem_cons_succ, List.getElem_cons_zero, Act.put, List.setIfInBounds_toArray, List.set_cons_zero, List.set_cons_succ]
  refine wpAnyK_take0 3 (.int .i64 ((m + 1 : Nat) : Int)) rfl (by kernel_rfl) (fun _ _ _ h => h) hS rfl (by intro w; go_simp) ?_
  simp only [List.getElem_toArray, List.getElem_cons_succ, List.getElem_cons_zero, Act.put, List.setIfInBounds_toArray, List.set_cons_zero, List.set_cons_succ]
  refine wpAnyK_take0 4 (.int .i64 (m : Int)) rfl (by kernel_rfl) (fun _ _ _ h => h) hS rfl (by intro w; go_simp) ?_
  simp only [List.getElem_toArray, List.getElem_cons_succ, List.getElem_cons_zero, Act.put, List.setIfInBounds_toArray, List.set_cons_zero, List.set_cons_succ]
  refine wpAnyK_take0 5 (.slice xa xn xc) rfl (by kernel_rfl) (fun _ _ _ h => h) hS rfl (by intro w; go_simp) ?_
  simp only [List.getElem_toArray, List.getElem_cons_succ, List.getElem_cons_zero, Act.put, List.setIfInBounds_toArray, List.set_cons_zero, List.set_cons_succ]
  refine wpAnyK_1 6 (by kernel_rfl) (wpOpK' rfl rfl ?_)
  intro K hK
  refine ocall (f := 55) (args := #[.agg #[.int .i64 it, .slice pa ps.length cap, .slice qa (m + 1) qc], .slice xa xn xc]) (by go_simp) (l12With_any _ _ ⟨it, ps, rq⟩ _ WR (h0.keep kk) (hrx.keep kk) HSV.out) (fun v3 w3 h3 => hK.out _ _ ⟨(b0.keep h3.2).c0, (b0.keep h3.2).c1, (b0.keep h3.2).c2, (b1.keep h3.2).c1, (b1.keep h3.2).c2⟩ ?_)
  obtain ⟨hTA, k3⟩ := h3
  clear hS
  clear hK K
  simp only [List.getElem_toArray, List.getElem_cons_succ, List.getElem_cons_zero, Act.put, List.setIfInBounds_toArray, List.set_cons_zero, List.set_cons_succ]
  refine wpAnyK_tail 7 rfl (by kernel_rfl) ?_
  simp only [List.drop_succ_cons, List.drop_zero]
  have hs0 := b2.lt
  replace b2 := b2.keep k3
  replace kk := kk.keep k3
  clear b0 b1
  obtain ⟨e0, e1, e2, cf⟩ := id b2
  have cf0 := cf 0
  have cf1 := cf 1
  have cf2 := cf 2
  clear cf
  have hb2l := b2.lt
  obtain ⟨iN, p1, p2, p3, r1, r2, r3, rfl, hTN⟩ := hTA.put3 (b := w.heap.size + 1 + 1) (by omega)
  obtain ⟨z0, z1, z2, _⟩ := ((b2.set0 (.int .i64 iN)).set1 (.slice p1 p2 p3)).set2 (.slice r1 r2 r3)
  have HK := Lib.hid (kk.put3 (b := w.heap.size + 1 + 1) (fun h => by omega) (.int .i64 iN) (.slice p1 p2 p3) (.slice r1 r2 r3))
  have HTN := Lib.hid (hTN.weak (base' := w.heap.size) (by omega))
  clear hTA hTN kk b2
  go_wp2_with fail
  exact bodyPost_ret (v := .agg #[.int .i64 iN, .slice p1 p2 p3, .slice r1 r2 r3]) (by simp [results, Tryz.results44, go_sem, z0, z1, z2]) rfl ⟨_, rfl, HTN.out, HK.out⟩

set_option maxRecDepth 100000 in
set_option maxHeartbeats 4000000 in
theorem l12Make2_any (v : Value) (t : To) (a b : Int) (w : World) (h : RT No w v t) (ht : tourB t = true) :
    Calls Tryz.prog 44 #[v, stV 2 a b] w (Ret fun r w' => TA w.heap.size w' r (againT t (t.reqs ++ [a])) ∧ Chg No w w') := by
  obtain ⟨k, hk⟩ : ∃ k : Int, k = 2 := ⟨_, rfl⟩
  rw [← hk]
  have HSV := Lib.hid (Sv.again ht (l := t.reqs ++ [a]) (fun i hi => by have := (tour_at ht hi).1.2; rw [List.length_append]; omega))
  obtain ⟨hl1, hl2, hl3, hl4⟩ := tour_len ht
  have h0 := h
  have HT := Lib.hid ht
  obtain ⟨it, ps, rq⟩ := t
  obtain ⟨pv, qv, rfl, hps, hrq⟩ := h
  simp only at hps hrq hl1 hl2 hl3 hl4
  obtain ⟨qa, qc, rfl, _⟩ := id hrq
  obtain ⟨pa, cap, rfl, hcap, hmax, hlen, pf, mf, hl, hcl⟩ := id hps
  obtain ⟨n, hn⟩ : ∃ n, rq.length = n := ⟨_, rfl⟩
  have hW0 := boxes33 (w := w) (t := 31) (t' := 35) (t'' := 31) (x0 := .int .i64 it) (x1 := .slice pa ps.length cap) (x2 := .slice qa n qc) (y0 := .int .i64 k) (y1 := .int .i64 a) (y2 := .int .i64 b) (z0 := .int .i64 0) (z1 := .slice none 0 0) (z2 := .slice none 0 0)
    (R := fun W => Chg No w W ∧ Box3 W w.heap.size (.int .i64 it) (.slice pa ps.length cap) (.slice qa n qc) ∧ Box3 W (w.heap.size + 1) (.int .i64 k) (.int .i64 a) (.int .i64 b) ∧ Box3 W (w.heap.size + 1 + 1) (.int .i64 0) (.slice none 0 0) (.slice none 0 0)) (fun W k b0 b1 b2 => ⟨k, b0, b1, b2⟩)
  obtain ⟨kk, b0, b1, b2⟩ := hW0
  have hn0 : (0 : Int) ≤ (n : Int) := Int.natCast_nonneg _
  rw [hn] at h0 hl2 hrq ⊢
  have HN := Lib.hid hn
  obtain ⟨c0, c1, c2, _⟩ := id b0
  obtain ⟨d0, d1, d2, _⟩ := id b1
  clear hl hcl hps ht hn
  subst hk
  unfold stV
  have hrq' : RI No w (.slice qa n qc) rq := hrq
  go_enter Tryz.func44, Tryz.ntmps44
  go_wp2_with fail
  generalize hWW : ((w.alloc _).alloc _).alloc _ = W1
  rw [hWW] at kk b0 b1 b2
  clear c0 c1 c2 d0 d1 d2 hWW
  refine wp_region_K (S := fun W => W.cell? ⟨w.heap.size, 0, none⟩ = some (.int .i64 it) ∧ W.cell? ⟨w.heap.size, 1, none⟩ = some (.slice pa ps.length cap) ∧ W.cell? ⟨w.heap.size, 2, none⟩ = some (.slice qa n qc) ∧ W.cell? ⟨w.heap.size + 1, 1, none⟩ = some (.int .i64 a) ∧ W.cell? ⟨w.heap.size + 1, 2, none⟩ = some (.int .i64 b)) (k := 9) (by kernel_rfl) ?_
  replace kk := kk.keep (drewN0 _)
  replace b0 := b0.keep (drewN0 _)
  replace b1 := b1.keep (drewN0 _)
  replace b2 := b2.keep (drewN0 _)
  generalize W1.drew = WR at kk b0 b1 b2 ⊢
  have hS : WR.cell? ⟨w.heap.size, 0, none⟩ = some (.int .i64 it) ∧ WR.cell? ⟨w.heap.size, 1, none⟩ = some (.slice pa ps.length cap) ∧ WR.cell? ⟨w.heap.size, 2, none⟩ = some (.slice qa n qc) ∧ WR.cell? ⟨w.heap.size + 1, 1, none⟩ = some (.int .i64 a) ∧ WR.cell? ⟨w.heap.size + 1, 2, none⟩ = some (.int .i64 b) := ⟨b0.c0, b0.c1, b0.c2, b1.c1, b1.c2⟩
  refine wpAnyK_takeT 0 (.agg #[.int .i64 it, .slice pa ps.length cap, .slice qa n qc]) rfl (by kernel_rfl) (fun _ _ _ h => h) hS rfl (by intro w hSw; go_simp) ?_
  simp only [List.getElem_toArray, List.getElem_cons_zero, Act.put, List.setIfInBounds_toArray, List.set_cons_zero, List.set_cons_succ]
  refine wpAnyK_take0 1 (.pointer (some ⟨w.heap.size, 2, none⟩)) rfl (by kernel_rfl) (fun _ _ _ h => h) hS rfl (by intro w; go_simp) ?_
  simp only [List.getElem_toArray, List.getElem_cons_succ, List.getElem_cons_zero, Act.put, List.setIfInBounds_toArray, List.set_cons_zero, List.set_cons_succ]
  refine wpAnyK_takeT 2 (.slice qa n qc) rfl (by kernel_rfl) (fun _ _ _ h => h) hS rfl (by intro w hSw; go_simp) ?_
  simp only [List.getElem_toArray, List.getElem_cons_succ, List.getElem_cons_zero, Act.put, List.setIfInBounds_toArray, List.set_cons_zero, List.set_cons_succ]
  refine wpAnyK_take0 4 (.pointer (some ⟨w.heap.size + 1, 1, none⟩)) rfl (by kernel_rfl) (fun _ _ _ h => h) hS rfl (by intro w; go_simp) ?_
  simp only [List.getElem_toArray, List.getElem_cons_succ, List.getElem_cons_zero, Act.put, List.setIfInBounds_toArray, List.set_cons_zero, List.set_cons_succ]
  refine wpAnyK_takeT 5 (.int .i64 a) rfl (by kernel_rfl) (fun _ _ _ h => h) hS rfl (by intro w hSw; go_simp) ?_
  simp only [List.getElem_toArray, List.getElem_cons_succ, List.getElem_cons_zero, Act.put, List.setIfInBounds_toArray, List.set_cons_zero, List.set_cons_succ]
  refine wpAnyK_2 3 6 (by kernel_rfl) (wpOpK' rfl rfl ?_) (wpOpK' rfl rfl ?_)
  · skip
    intro K hK
    refine ocall (f := 85) (args := #[.slice qa n qc]) (by go_simp) (l1Own_any No _ rq WR (hrq'.keep kk)) (fun v1 WQ h1 => hK.out _ _ ⟨(b0.keep h1.2).c0, (b0.keep h1.2).c1, (b0.keep h1.2).c2, (b1.keep h1.2).c1, (b1.keep h1.2).c2⟩ ?_)
    obtain ⟨o1, kx⟩ := h1
    clear hK K
    try clear hS
    simp only [List.getElem_toArray, List.getElem_cons_succ, List.getElem_cons_zero, Act.put, List.setIfInBounds_toArray, List.set_cons_zero, List.set_cons_succ]
    have hb := b2.lt
    obtain ⟨za, zn, zc, rfl⟩ := o1.shape
    replace o1 := o1.weak (base' := w.heap.size + 3) (by omega)
    try replace hg := (kx.cellD g 0 (World.block_lt_of_cell? WR _ hg) (fun e => e)).trans hg
    replace kk := kk.keep kx
    replace b0 := b0.keep kx
    replace b1 := b1.keep kx
    replace b2 := b2.keep kx
    clear kx hb
    generalize WQ = WR at *
    refine wpAnyK_1 6 (by kernel_rfl) (wpOpK' rfl rfl ?_)
    intro K hK
    refine obuild (.tmp 26) a rfl rfl (fun g WQ kx hg hge => hK.out _ _ ⟨(b0.keep kx).c0, (b0.keep kx).c1, (b0.keep kx).c2, (b1.keep kx).c1, (b1.keep kx).c2⟩ ?_)
    clear hK K
    simp only [List.getElem_toArray, List.getElem_cons_succ, List.getElem_cons_zero, Act.put, List.setIfInBounds_toArray, List.set_cons_zero, List.set_cons_succ]
    try replace o1 := o1.keep kx
    replace kk := kk.keep kx
    replace b0 := b0.keep kx
    replace b1 := b1.keep kx
    replace b2 := b2.keep kx
    clear kx hge
    try clear hS
    generalize WQ = WR at *
    refine wpAnyK_1 7 (by kernel_rfl) (wpOpK' rfl rfl ?_)
    intro K hK
    have hne : ∀ q, own (.slice za zn zc) q → w.heap.size + 3 ≤ q := fun q hq => (o1.lt q hq).1
    refine oapp (.tmp 24) (.tmp 27) rfl o1 (RI.one (A := No) (n := a) hg (Nat.le_refl 1) (by omega) (fun e => e)) rfl rfl (by have := HN.out; simp; omega) (by have := b2.lt; omega) (fun v7 WQ o7 kx fx => hK.out _ _ ⟨(b0.step kx (fun e => by have := hne _ e; omega)).c0, (b0.step kx (fun e => by have := hne _ e; omega)).c1, (b0.step kx (fun e => by have := hne _ e; omega)).c2, (b1.step kx (fun e => by have := hne _ e; omega)).c1, (b1.step kx (fun e => by have := hne _ e; omega)).c2⟩ ?_)
    clear hK K
    simp only [List.getElem_toArray, List.getElem_cons_succ, List.getElem_cons_zero, Act.put, List.setIfInBounds_toArray, List.set_cons_zero, List.set_cons_succ]
    replace kk := kk.step kx (fun q e hl => by have := hne q e; omega)
    replace b0 := b0.step kx (fun e => by have := hne _ e; omega)
    replace b1 := b1.step kx (fun e => by have := hne _ e; omega)
    replace b2 := b2.step kx (fun e => by have := hne _ e; omega)
    clear kx fx o1 hne
    obtain ⟨ya, yn, yc, rfl⟩ := o7.shape
    generalize WQ = WR at *
    refine wpAnyK_1 8 (by kernel_rfl) (wpOpK' rfl rfl ?_)
    intro K hK
    refine ocall (f := 55) (args := #[.agg #[.int .i64 it, .slice pa ps.length cap, .slice qa n qc], .slice ya yn yc]) (by go_simp) (l12With_any _ _ ⟨it, ps, rq⟩ _ WR (h0.keep kk) o7.readNo HSV.out) (fun v3 w3 h3 => hK.out _ _ ⟨(b0.keep h3.2).c0, (b0.keep h3.2).c1, (b0.keep h3.2).c2, (b1.keep h3.2).c1, (b1.keep h3.2).c2⟩ ?_)
    obtain ⟨hTA, k3⟩ := h3
    clear hK K
    simp only [List.getElem_toArray, List.getElem_cons_succ, List.getElem_cons_zero, Act.put, List.setIfInBounds_toArray, List.set_cons_zero, List.set_cons_succ]
    refine wpAnyK_tail 9 rfl (by kernel_rfl) ?_
    simp only [List.drop_succ_cons, List.drop_zero]
    have hs0 := b2.lt
    replace b2 := b2.keep k3
    replace kk := kk.keep k3
    clear b0 b1
    obtain ⟨e0, e1, e2, cf⟩ := id b2
    have cf0 := cf 0
    have cf1 := cf 1
    have cf2 := cf 2
    clear cf
    have hb2l := b2.lt
    obtain ⟨iN, p1, p2, p3, r1, r2, r3, rfl, hTN⟩ := hTA.put3 (b := w.heap.size + 1 + 1) (by omega)
    obtain ⟨z0, z1, z2, _⟩ := ((b2.set0 (.int .i64 iN)).set1 (.slice p1 p2 p3)).set2 (.slice r1 r2 r3)
    have HK := Lib.hid (kk.put3 (b := w.heap.size + 1 + 1) (fun h => by omega) (.int .i64 iN) (.slice p1 p2 p3) (.slice r1 r2 r3))
    have HTN := Lib.hid (hTN.weak (base' := w.heap.size) (by omega))
    clear hTA hTN kk b2
    go_wp2_with fail
    exact bodyPost_ret (v := .agg #[.int .i64 iN, .slice p1 p2 p3, .slice r1 r2 r3]) (by simp [results, Tryz.results44, go_sem, z0, z1, z2]) rfl ⟨_, rfl, HTN.out, HK.out⟩
  · skip
    intro K hK
    refine obuild (.tmp 26) a rfl rfl (fun g WQ kx hg hge => hK.out _ _ ⟨(b0.keep kx).c0, (b0.keep kx).c1, (b0.keep kx).c2, (b1.keep kx).c1, (b1.keep kx).c2⟩ ?_)
    clear hK K
    simp only [List.getElem_toArray, List.getElem_cons_succ, List.getElem_cons_zero, Act.put, List.setIfInBounds_toArray, List.set_cons_zero, List.set_cons_succ]
    try replace o1 := o1.keep kx
    replace kk := kk.keep kx
    replace b0 := b0.keep kx
    replace b1 := b1.keep kx
    replace b2 := b2.keep kx
    clear kx hge
    try clear hS
    generalize WQ = WR at *
    refine wpAnyK_1 3 (by kernel_rfl) (wpOpK' rfl rfl ?_)
    intro K hK
    refine ocall (f := 85) (args := #[.slice qa n qc]) (by go_simp) (l1Own_any No _ rq WR (hrq'.keep kk)) (fun v1 WQ h1 => hK.out _ _ ⟨(b0.keep h1.2).c0, (b0.keep h1.2).c1, (b0.keep h1.2).c2, (b1.keep h1.2).c1, (b1.keep h1.2).c2⟩ ?_)
    obtain ⟨o1, kx⟩ := h1
    clear hK K
    try clear hS
    simp only [List.getElem_toArray, List.getElem_cons_succ, List.getElem_cons_zero, Act.put, List.setIfInBounds_toArray, List.set_cons_zero, List.set_cons_succ]
    have hb := b2.lt
    obtain ⟨za, zn, zc, rfl⟩ := o1.shape
    replace o1 := o1.weak (base' := w.heap.size + 3) (by omega)
    try replace hg := (kx.cellD g 0 (World.block_lt_of_cell? WR _ hg) (fun e => e)).trans hg
    replace kk := kk.keep kx
    replace b0 := b0.keep kx
    replace b1 := b1.keep kx
    replace b2 := b2.keep kx
    clear kx hb
    generalize WQ = WR at *
    refine wpAnyK_1 7 (by kernel_rfl) (wpOpK' rfl rfl ?_)
    intro K hK
    have hne : ∀ q, own (.slice za zn zc) q → w.heap.size + 3 ≤ q := fun q hq => (o1.lt q hq).1
    refine oapp (.tmp 24) (.tmp 27) rfl o1 (RI.one (A := No) (n := a) hg (Nat.le_refl 1) (by omega) (fun e => e)) rfl rfl (by have := HN.out; simp; omega) (by have := b2.lt; omega) (fun v7 WQ o7 kx fx => hK.out _ _ ⟨(b0.step kx (fun e => by have := hne _ e; omega)).c0, (b0.step kx (fun e => by have := hne _ e; omega)).c1, (b0.step kx (fun e => by have := hne _ e; omega)).c2, (b1.step kx (fun e => by have := hne _ e; omega)).c1, (b1.step kx (fun e => by have := hne _ e; omega)).c2⟩ ?_)
    clear hK K
    simp only [List.getElem_toArray, List.getElem_cons_succ, List.getElem_cons_zero, Act.put, List.setIfInBounds_toArray, List.set_cons_zero, List.set_cons_succ]
    replace kk := kk.step kx (fun q e hl => by have := hne q e; omega)
    replace b0 := b0.step kx (fun e => by have := hne _ e; omega)
    replace b1 := b1.step kx (fun e => by have := hne _ e; omega)
    replace b2 := b2.step kx (fun e => by have := hne _ e; omega)
    clear kx fx o1 hne
    obtain ⟨ya, yn, yc, rfl⟩ := o7.shape
    generalize WQ = WR at *
    refine wpAnyK_1 8 (by kernel_rfl) (wpOpK' rfl rfl ?_)
    intro K hK
    refine ocall (f := 55) (args := #[.agg #[.int .i64 it, .slice pa ps.length cap, .slice qa n qc], .slice ya yn yc]) (by go_simp) (l12With_any _ _ ⟨it, ps, rq⟩ _ WR (h0.keep kk) o7.readNo HSV.out) (fun v3 w3 h3 => hK.out _ _ ⟨(b0.keep h3.2).c0, (b0.keep h3.2).c1, (b0.keep h3.2).c2, (b1.keep h3.2).c1, (b1.keep h3.2).c2⟩ ?_)
    obtain ⟨hTA, k3⟩ := h3
    clear hK K
    simp only [List.getElem_toArray, List.getElem_cons_succ, List.getElem_cons_zero, Act.put, List.setIfInBounds_toArray, List.set_cons_zero, List.set_cons_succ]
    refine wpAnyK_tail 9 rfl (by kernel_rfl) ?_
    simp only [List.drop_succ_cons, List.drop_zero]
    have hs0 := b2.lt
    replace b2 := b2.keep k3
    replace kk := kk.keep k3
    clear b0 b1
    obtain ⟨e0, e1, e2, cf⟩ := id b2
    have cf0 := cf 0
    have cf1 := cf 1
    have cf2 := cf 2
    clear cf
    have hb2l := b2.lt
    obtain ⟨iN, p1, p2, p3, r1, r2, r3, rfl, hTN⟩ := hTA.put3 (b := w.heap.size + 1 + 1) (by omega)
    obtain ⟨z0, z1, z2, _⟩ := ((b2.set0 (.int .i64 iN)).set1 (.slice p1 p2 p3)).set2 (.slice r1 r2 r3)
    have HK := Lib.hid (kk.put3 (b := w.heap.size + 1 + 1) (fun h => by omega) (.int .i64 iN) (.slice p1 p2 p3) (.slice r1 r2 r3))
    have HTN := Lib.hid (hTN.weak (base' := w.heap.size) (by omega))
    clear hTA hTN kk b2
    go_wp2_with fail
    exact bodyPost_ret (v := .agg #[.int .i64 iN, .slice p1 p2 p3, .slice r1 r2 r3]) (by simp [results, Tryz.results44, go_sem, z0, z1, z2]) rfl ⟨_, rfl, HTN.out, HK.out⟩
set_option maxRecDepth 100000 in
set_option maxHeartbeats 4000000 in
theorem l12Make5_any (v : Value) (t : To) (a b : Int) (w : World) (h : RT No w v t) (ht : tourB t = true) (ha : 1 ≤ a ∧ a ≤ t.reqs.length) :
    Calls Tryz.prog 44 #[v, stV 5 a b] w (Ret fun r w' => TA w.heap.size w' r (againT t (t.reqs ++ t.reqs.drop (t.reqs.length - a.toNat))) ∧ Chg No w w') := by
  obtain ⟨k, hk⟩ : ∃ k : Int, k = 5 := ⟨_, rfl⟩
  rw [← hk]
  have HSV := Lib.hid (Sv.again ht (l := t.reqs ++ t.reqs.drop (t.reqs.length - a.toNat)) (fun i hi => by have := (tour_at ht hi).1.2; rw [List.length_append]; omega))
  obtain ⟨hl1, hl2, hl3, hl4⟩ := tour_len ht
  have h0 := h
  have HT := Lib.hid ht
  obtain ⟨it, ps, rq⟩ := t
  obtain ⟨pv, qv, rfl, hps, hrq⟩ := h
  simp only at hps hrq hl1 hl2 hl3 hl4
  obtain ⟨qa, qc, rfl, _⟩ := id hrq
  obtain ⟨pa, cap, rfl, hcap, hmax, hlen, pf, mf, hl, hcl⟩ := id hps
  obtain ⟨n, hn⟩ : ∃ n, rq.length = n := ⟨_, rfl⟩
  have hW0 := boxes33 (w := w) (t := 31) (t' := 35) (t'' := 31) (x0 := .int .i64 it) (x1 := .slice pa ps.length cap) (x2 := .slice qa n qc) (y0 := .int .i64 k) (y1 := .int .i64 a) (y2 := .int .i64 b) (z0 := .int .i64 0) (z1 := .slice none 0 0) (z2 := .slice none 0 0)
    (R := fun W => Chg No w W ∧ Box3 W w.heap.size (.int .i64 it) (.slice pa ps.length cap) (.slice qa n qc) ∧ Box3 W (w.heap.size + 1) (.int .i64 k) (.int .i64 a) (.int .i64 b) ∧ Box3 W (w.heap.size + 1 + 1) (.int .i64 0) (.slice none 0 0) (.slice none 0 0)) (fun W k b0 b1 b2 => ⟨k, b0, b1, b2⟩)
  obtain ⟨kk, b0, b1, b2⟩ := hW0
  have hn0 : (0 : Int) ≤ (n : Int) := Int.natCast_nonneg _
  rw [hn] at h0 hl2 hrq ⊢
  have HN := Lib.hid hn
  obtain ⟨c0, c1, c2, _⟩ := id b0
  obtain ⟨d0, d1, d2, _⟩ := id b1
  clear hl hcl hps ht hn
  subst hk
  simp only at ha HSV
  rw [HN.out] at ha HSV
  unfold stV
  have hrq' : RI No w (.slice qa n qc) rq := hrq
  have hrq2 : RI No w (.slice qa rq.length qc) rq := by rw [HN.out]; exact hrq
  obtain ⟨x, hx, hrx⟩ := hrq2.from (n - a.toNat) ((n : Int) - a) (by omega) (by rw [HN.out]; omega)
  rw [HN.out] at hx
  obtain ⟨xa, xn, xc, rfl⟩ := hrx.shape
  have hw1 : IntKind.i64.wrap ((n : Int) - a) = (n : Int) - a := IntWalk.i64_in _ (by omega)
  go_enter Tryz.func44, Tryz.ntmps44
  go_wp2_with fail
  generalize hWW : ((w.alloc _).alloc _).alloc _ = W1
  rw [hWW] at kk b0 b1 b2
  clear c0 c1 c2 d0 d1 d2 hWW
  refine wp_region_K (S := fun W => W.cell? ⟨w.heap.size, 0, none⟩ = some (.int .i64 it) ∧ W.cell? ⟨w.heap.size, 1, none⟩ = some (.slice pa ps.length cap) ∧ W.cell? ⟨w.heap.size, 2, none⟩ = some (.slice qa n qc) ∧ W.cell? ⟨w.heap.size + 1, 1, none⟩ = some (.int .i64 a) ∧ W.cell? ⟨w.heap.size + 1, 2, none⟩ = some (.int .i64 b)) (k := 13) (by kernel_rfl) ?_
  replace kk := kk.keep (drewN0 _)
  replace b0 := b0.keep (drewN0 _)
  replace b1 := b1.keep (drewN0 _)
  replace b2 := b2.keep (drewN0 _)
  generalize W1.drew = WR at kk b0 b1 b2 ⊢
  have hS : WR.cell? ⟨w.heap.size, 0, none⟩ = some (.int .i64 it) ∧ WR.cell? ⟨w.heap.size, 1, none⟩ = some (.slice pa ps.length cap) ∧ WR.cell? ⟨w.heap.size, 2, none⟩ = some (.slice qa n qc) ∧ WR.cell? ⟨w.heap.size + 1, 1, none⟩ = some (.int .i64 a) ∧ WR.cell? ⟨w.heap.size + 1, 2, none⟩ = some (.int .i64 b) := ⟨b0.c0, b0.c1, b0.c2, b1.c1, b1.c2⟩
  refine wpAnyK_takeT 0 (.agg #[.int .i64 it, .slice pa ps.length cap, .slice qa n qc]) rfl (by kernel_rfl) (fun _ _ _ h => h) hS rfl (by intro w hSw; go_simp) ?_
  simp only [List.getElem_toArray, List.getElem_cons_zero, Act.put, List.setIfInBounds_toArray, List.set_cons_zero, List.set_cons_succ]
  refine wpAnyK_take0 1 (.pointer (some ⟨w.heap.size, 2, none⟩)) rfl (by kernel_rfl) (fun _ _ _ h => h) hS rfl (by intro w; go_simp) ?_
  simp only [List.getElem_toArray, List.getElem_cons_succ, List.getElem_cons_zero, Act.put, List.setIfInBounds_toArray, List.set_cons_zero, List.set_cons_succ]
  refine wpAnyK_takeT 2 (.slice qa n qc) rfl (by kernel_rfl) (fun _ _ _ h => h) hS rfl (by intro w hSw; go_simp) ?_
  simp only [List.getElem_toArray, List.getElem_cons_succ, List.getElem_cons_zero, Act.put, List.setIfInBounds_toArray, List.set_cons_zero, List.set_cons_succ]
  refine wpAnyK_take0 4 (.pointer (some ⟨w.heap.size, 2, none⟩)) rfl (by kernel_rfl) (fun _ _ _ h => h) hS rfl (by intro w; go_simp) ?_
  simp only [List.getElem_toArray, List.getElem_cons_succ, List.getElem_cons_zero, Act.put, List.setIfInBounds_toArray, List.set_cons_zero, List.set_cons_succ]
  refine wpAnyK_takeT 5 (.slice qa n qc) rfl (by kernel_rfl) (fun _ _ _ h => h) hS rfl (by intro w hSw; go_simp) ?_
  simp only [List.getElem_toArray, List.getElem_cons_succ, List.getElem_cons_zero, Act.put, List.setIfInBounds_toArray, List.set_cons_zero, List.set_cons_succ]
  refine wpAnyK_take0 6 (.int .i64 (n : Int)) rfl (by kernel_rfl) (fun _ _ _ h => h) hS rfl (by intro w; go_simp) ?_
  simp only [List.getElem_toArray, List.getElem_cons_succ, List.getElem_cons_zero, Act.put, List.setIfInBounds_toArray, List.set_cons_zero, List.set_cons_succ]
  refine wpAnyK_take0 7 (.pointer (some ⟨w.heap.size + 1, 1, none⟩)) rfl (by kernel_rfl) (fun _ _ _ h => h) hS rfl (by intro w; go_simp) ?_
  simp only [List.getElem_toArray, List.getElem_cons_succ, List.getElem_cons_zero, Act.put, List.setIfInBounds_toArray, List.set_cons_zero, List.set_cons_succ]
  refine wpAnyK_takeT 8 (.int .i64 a) rfl (by kernel_rfl) (fun _ _ _ h => h) hS rfl (by intro w hSw; go_simp) ?_
  simp only [List.getElem_toArray, List.getElem_cons_succ, List.getElem_cons_zero, Act.put, List.setIfInBounds_toArray, List.set_cons_zero, List.set_cons_succ]
  refine wpAnyK_take0 9 (.int .i64 ((n : Int) - a)) rfl (by kernel_rfl) (fun _ _ _ h => h) hS rfl (by intro w; go_simp) ?_
  simp only [List.getElem_toArray, List.getElem_cons_succ, List.getElem_cons_zero, Act.put, List.setIfInBounds_toArray, List.set_cons_zero, List.set_cons_succ]
  refine wpAnyK_take0 10 (.slice xa xn xc) rfl (by kernel_rfl) (fun _ _ _ h => h) hS rfl (by intro w; go_simp) ?_
  simp only [List.getElem_toArray, List.getElem_cons_succ, List.getElem_cons_zero, Act.put, List.setIfInBounds_toArray, List.set_cons_zero, List.set_cons_succ]
  refine wpAnyK_1 3 (by kernel_rfl) (wpOpK' rfl rfl ?_)
  intro K hK
  refine ocall (f := 85) (args := #[.slice qa n qc]) (by go_simp) (l1Own_any No _ rq WR (hrq'.keep kk)) (fun v1 WQ h1 => hK.out _ _ ⟨(b0.keep h1.2).c0, (b0.keep h1.2).c1, (b0.keep h1.2).c2, (b1.keep h1.2).c1, (b1.keep h1.2).c2⟩ ?_)
  obtain ⟨o1, kx⟩ := h1
  clear hK K
  try clear hS
  simp only [List.getElem_toArray, List.getElem_cons_succ, List.getElem_cons_zero, Act.put, List.setIfInBounds_toArray, List.set_cons_zero, List.set_cons_succ]
  have hb := b2.lt
  obtain ⟨za, zn, zc, rfl⟩ := o1.shape
  replace o1 := o1.weak (base' := w.heap.size + 3) (by omega)
  try replace hg := (kx.cellD g 0 (World.block_lt_of_cell? WR _ hg) (fun e => e)).trans hg
  replace kk := kk.keep kx
  replace b0 := b0.keep kx
  replace b1 := b1.keep kx
  replace b2 := b2.keep kx
  clear kx hb
  generalize WQ = WR at *
  refine wpAnyK_1 11 (by kernel_rfl) (wpOpK' rfl rfl ?_)
  intro K hK
  have hne : ∀ q, own (.slice za zn zc) q → w.heap.size + 3 ≤ q := fun q hq => (o1.lt q hq).1
  refine oapp (.tmp 50) (.tmp 57) rfl o1 (hrx.keep kk) rfl rfl (by have := HN.out; rw [List.length_drop]; omega) (by have := b2.lt; omega) (fun v7 WQ o7 kx fx => hK.out _ _ ⟨(b0.step kx (fun e => by have := hne _ e; omega)).c0, (b0.step kx (fun e => by have := hne _ e; omega)).c1, (b0.step kx (fun e => by have := hne _ e; omega)).c2, (b1.step kx (fun e => by have := hne _ e; omega)).c1, (b1.step kx (fun e => by have := hne _ e; omega)).c2⟩ ?_)
  clear hK K
  simp only [List.getElem_toArray, List.getElem_cons_succ, List.getElem_cons_zero, Act.put, List.setIfInBounds_toArray, List.set_cons_zero, List.set_cons_succ]
  replace kk := kk.step kx (fun q e hl => by have := hne q e; omega)
  replace b0 := b0.step kx (fun e => by have := hne _ e; omega)
  replace b1 := b1.step kx (fun e => by have := hne _ e; omega)
  replace b2 := b2.step kx (fun e => by have := hne _ e; omega)
  clear kx fx o1 hne
  obtain ⟨ya, yn, yc, rfl⟩ := o7.shape
  generalize WQ = WR at *
  refine wpAnyK_1 12 (by kernel_rfl) (wpOpK' rfl rfl ?_)
  intro K hK
  refine ocall (f := 55) (args := #[.agg #[.int .i64 it, .slice pa ps.length cap, .slice qa n qc], .slice ya yn yc]) (by go_simp) (l12With_any _ _ ⟨it, ps, rq⟩ _ WR (h0.keep kk) o7.readNo HSV.out) (fun v3 w3 h3 => hK.out _ _ ⟨(b0.keep h3.2).c0, (b0.keep h3.2).c1, (b0.keep h3.2).c2, (b1.keep h3.2).c1, (b1.keep h3.2).c2⟩ ?_)
  obtain ⟨hTA, k3⟩ := h3
  clear hK K
  simp only [List.getElem_toArray, List.getElem_cons_succ, List.getElem_cons_zero, Act.put, List.setIfInBounds_toArray, List.set_cons_zero, List.set_cons_succ]
  refine wpAnyK_tail 13 rfl (by kernel_rfl) ?_
  simp only [List.drop_succ_cons, List.drop_zero]
  have hs0 := b2.lt
  replace b2 := b2.keep k3
  replace kk := kk.keep k3
  clear b0 b1
  obtain ⟨e0, e1, e2, cf⟩ := id b2
  have cf0 := cf 0
  have cf1 := cf 1
  have cf2 := cf 2
  clear cf
  have hb2l := b2.lt
  obtain ⟨iN, p1, p2, p3, r1, r2, r3, rfl, hTN⟩ := hTA.put3 (b := w.heap.size + 1 + 1) (by omega)
  obtain ⟨z0, z1, z2, _⟩ := ((b2.set0 (.int .i64 iN)).set1 (.slice p1 p2 p3)).set2 (.slice r1 r2 r3)
  have HK := Lib.hid (kk.put3 (b := w.heap.size + 1 + 1) (fun h => by omega) (.int .i64 iN) (.slice p1 p2 p3) (.slice r1 r2 r3))
  have HTN := Lib.hid (hTN.weak (base' := w.heap.size) (by omega))
  clear hTA hTN kk b2
  go_wp2_with fail
  exact bodyPost_ret (v := .agg #[.int .i64 iN, .slice p1 p2 p3, .slice r1 r2 r3]) (by simp [results, Tryz.results44, go_sem, z0, z1, z2]) rfl ⟨_, rfl, HTN.out, HK.out⟩
set_option maxRecDepth 100000 in
set_option maxHeartbeats 4000000 in
theorem l12Make6_any (v : Value) (t : To) (a b : Int) (w : World) (h : RT No w v t) (ht : tourB t = true) (ha : hasP t a = true) (hs : (t.ps.getD a.toNat dPl).ca.size < t.items) (hb : inB b 1 (60 - (t.reqs.length : Int)) = true) :
    Calls Tryz.prog 44 #[v, stV 6 a b] w (Ret fun r w' => TA w.heap.size w' r (againT t (t.reqs ++ cruelI (t.ps.getD a.toNat dPl).ca b.toNat)) ∧ Chg No w w') := by
  have hik := inB_iff.1 ha
  have hbk := inB_iff.1 hb
  obtain ⟨x, rfl⟩ : ∃ x : Nat, a = (x : Int) := ⟨a.toNat, by omega⟩
  obtain ⟨z, rfl⟩ : ∃ z : Nat, b = (z : Int) := ⟨b.toNat, by omega⟩
  have hx : x < t.ps.length := by omega
  have hz : t.reqs.length + z ≤ 60 := by omega
  rw [show (x : Int).toNat = x by omega] at hs ⊢
  rw [show (z : Int).toNat = z by omega]
  obtain ⟨a, hax⟩ : ∃ a : Int, a = (x : Int) := ⟨_, rfl⟩
  obtain ⟨b, hbx⟩ : ∃ b : Int, b = (z : Int) := ⟨_, rfl⟩
  rw [← hax, ← hbx]
  have HXX := Lib.hid hx
  have HZZ := Lib.hid hz
  have HSV := Lib.hid (Sv.again ht (l := t.reqs ++ cruelI (t.ps.getD x dPl).ca z) (fun i hi => by have := (tour_at ht hi).1.2; rw [List.length_append]; omega))
  clear hik hbk ha hb hs hx hz
  obtain ⟨k, hk⟩ : ∃ k : Int, k = 6 := ⟨_, rfl⟩
  rw [← hk]
  obtain ⟨hl1, hl2, hl3, hl4⟩ := tour_len ht
  have h0 := h
  have HT := Lib.hid ht
  obtain ⟨it, ps, rq⟩ := t
  obtain ⟨pv, qv, rfl, hps, hrq⟩ := h
  simp only at hps hrq hl1 hl2 hl3 hl4
  obtain ⟨qa, qc, rfl, _⟩ := id hrq
  obtain ⟨pa, cap, rfl, hcap, hmax, hlen, pf, mf, hl, hcl⟩ := id hps
  obtain ⟨n, hn⟩ : ∃ n, rq.length = n := ⟨_, rfl⟩
  have hW0 := boxes33 (w := w) (t := 31) (t' := 35) (t'' := 31) (x0 := .int .i64 it) (x1 := .slice pa ps.length cap) (x2 := .slice qa n qc) (y0 := .int .i64 k) (y1 := .int .i64 a) (y2 := .int .i64 b) (z0 := .int .i64 0) (z1 := .slice none 0 0) (z2 := .slice none 0 0)
    (R := fun W => Chg No w W ∧ Box3 W w.heap.size (.int .i64 it) (.slice pa ps.length cap) (.slice qa n qc) ∧ Box3 W (w.heap.size + 1) (.int .i64 k) (.int .i64 a) (.int .i64 b) ∧ Box3 W (w.heap.size + 1 + 1) (.int .i64 0) (.slice none 0 0) (.slice none 0 0)) (fun W k b0 b1 b2 => ⟨k, b0, b1, b2⟩)
  obtain ⟨kk, b0, b1, b2⟩ := hW0
  have hn0 : (0 : Int) ≤ (n : Int) := Int.natCast_nonneg _
  rw [hn] at h0 hl2 hrq ⊢
  have HN := Lib.hid hn
  obtain ⟨c0, c1, c2, _⟩ := id b0
  obtain ⟨d0, d1, d2, _⟩ := id b1
  clear hl hcl hps ht hn
  subst hk
  unfold stV
  subst hax
  subst hbx
  go_enter Tryz.func44, Tryz.ntmps44
  go_wp2_with fail
  generalize hWW : ((w.alloc _).alloc _).alloc _ = W1
  rw [hWW] at kk b0 b1 b2
  clear c0 c1 c2 d0 d1 d2 hWW
  refine wp_region_K (S := fun W => W.cell? ⟨w.heap.size, 0, none⟩ = some (.int .i64 it) ∧ W.cell? ⟨w.heap.size, 1, none⟩ = some (.slice pa ps.length cap) ∧ W.cell? ⟨w.heap.size, 2, none⟩ = some (.slice qa n qc) ∧ W.cell? ⟨w.heap.size + 1, 1, none⟩ = some (.int .i64 (x:Int)) ∧ W.cell? ⟨w.heap.size + 1, 2, none⟩ = some (.int .i64 (z:Int))) (k := 8) (by kernel_rfl) ?_
  replace kk := kk.keep (drewN0 _)
  replace b0 := b0.keep (drewN0 _)
  replace b1 := b1.keep (drewN0 _)
  replace b2 := b2.keep (drewN0 _)
  generalize W1.drew = WR at kk b0 b1 b2 ⊢
  have hS : WR.cell? ⟨w.heap.size, 0, none⟩ = some (.int .i64 it) ∧ WR.cell? ⟨w.heap.size, 1, none⟩ = some (.slice pa ps.length cap) ∧ WR.cell? ⟨w.heap.size, 2, none⟩ = some (.slice qa n qc) ∧ WR.cell? ⟨w.heap.size + 1, 1, none⟩ = some (.int .i64 (x:Int)) ∧ WR.cell? ⟨w.heap.size + 1, 2, none⟩ = some (.int .i64 (z:Int)) := ⟨b0.c0, b0.c1, b0.c2, b1.c1, b1.c2⟩
  refine wpAnyK_takeT 0 (.agg #[.int .i64 it, .slice pa ps.length cap, .slice qa n qc]) rfl (by kernel_rfl) (fun _ _ _ h => h) hS rfl (by intro w hSw; go_simp) ?_
  simp only [List.getElem_toArray, List.getElem_cons_zero, Act.put, List.setIfInBounds_toArray, List.set_cons_zero, List.set_cons_succ]
  refine wpAnyK_takeT 1 (.agg #[.int .i64 it, .slice pa ps.length cap, .slice qa n qc]) rfl (by kernel_rfl) (fun _ _ _ h => h) hS rfl (by intro w hSw; go_simp) ?_
  simp only [List.getElem_toArray, List.getElem_cons_succ, List.getElem_cons_zero, Act.put, List.setIfInBounds_toArray, List.set_cons_zero, List.set_cons_succ]
  refine wpAnyK_take0 2 (.pointer (some ⟨w.heap.size + 1, 1, none⟩)) rfl (by kernel_rfl) (fun _ _ _ h => h) hS rfl (by intro w; go_simp) ?_
  simp only [List.getElem_toArray, List.getElem_cons_succ, List.getElem_cons_zero, Act.put, List.setIfInBounds_toArray, List.set_cons_zero, List.set_cons_succ]
  refine wpAnyK_takeT 3 (.int .i64 (x : Int)) rfl (by kernel_rfl) (fun _ _ _ h => h) hS rfl (by intro w hSw; go_simp) ?_
  simp only [List.getElem_toArray, List.getElem_cons_succ, List.getElem_cons_zero, Act.put, List.setIfInBounds_toArray, List.set_cons_zero, List.set_cons_succ]
  refine wpAnyK_take0 4 (.pointer (some ⟨w.heap.size + 1, 2, none⟩)) rfl (by kernel_rfl) (fun _ _ _ h => h) hS rfl (by intro w; go_simp) ?_
  simp only [List.getElem_toArray, List.getElem_cons_succ, List.getElem_cons_zero, Act.put, List.setIfInBounds_toArray, List.set_cons_zero, List.set_cons_succ]
  refine wpAnyK_takeT 5 (.int .i64 (z : Int)) rfl (by kernel_rfl) (fun _ _ _ h => h) hS rfl (by intro w hSw; go_simp) ?_
  simp only [List.getElem_toArray, List.getElem_cons_succ, List.getElem_cons_zero, Act.put, List.setIfInBounds_toArray, List.set_cons_zero, List.set_cons_succ]
  refine wpAnyK_1 6 (by kernel_rfl) (wpOpK' rfl rfl ?_)
  intro K hK
  refine ocall (f := 87) (args := #[.agg #[.int .i64 it, .slice pa ps.length cap, .slice qa n qc], .int .i64 (x : Int), .int .i64 (z : Int)]) (by go_simp) (l12Cruel_any _ ⟨it, ps, rq⟩ x z WR (h0.keep kk) HT.out HXX.out HZZ.out) (fun v1 WQ h1 => hK.out _ _ ⟨(b0.keep h1.2).c0, (b0.keep h1.2).c1, (b0.keep h1.2).c2, (b1.keep h1.2).c1, (b1.keep h1.2).c2⟩ ?_)
  obtain ⟨o1, kx⟩ := h1
  clear hK K hS
  simp only [List.getElem_toArray, List.getElem_cons_succ, List.getElem_cons_zero, Act.put, List.setIfInBounds_toArray, List.set_cons_zero, List.set_cons_succ]
  have hb := b2.lt
  obtain ⟨za, zn, zc, rfl⟩ := o1.shape
  replace kk := kk.keep kx
  replace b0 := b0.keep kx
  replace b1 := b1.keep kx
  replace b2 := b2.keep kx
  clear kx hb
  generalize WQ = WR at *
  refine wpAnyK_1 7 (by kernel_rfl) (wpOpK' rfl rfl ?_)
  intro K hK
  refine ocall (f := 55) (args := #[.agg #[.int .i64 it, .slice pa ps.length cap, .slice qa n qc], .slice za zn zc]) (by go_simp) (l12With_any _ _ ⟨it, ps, rq⟩ _ WR (h0.keep kk) o1.readNo HSV.out) (fun v3 w3 h3 => hK.out _ _ ⟨(b0.keep h3.2).c0, (b0.keep h3.2).c1, (b0.keep h3.2).c2, (b1.keep h3.2).c1, (b1.keep h3.2).c2⟩ ?_)
  obtain ⟨hTA, k3⟩ := h3
  clear hK K
  simp only [List.getElem_toArray, List.getElem_cons_succ, List.getElem_cons_zero, Act.put, List.setIfInBounds_toArray, List.set_cons_zero, List.set_cons_succ]
  refine wpAnyK_tail 8 rfl (by kernel_rfl) ?_
  simp only [List.drop_succ_cons, List.drop_zero]
  have hs0 := b2.lt
  replace b2 := b2.keep k3
  replace kk := kk.keep k3
  clear b0 b1
  obtain ⟨e0, e1, e2, cf⟩ := id b2
  have cf0 := cf 0
  have cf1 := cf 1
  have cf2 := cf 2
  clear cf
  have hb2l := b2.lt
  obtain ⟨iN, p1, p2, p3, r1, r2, r3, rfl, hTN⟩ := hTA.put3 (b := w.heap.size + 1 + 1) (by omega)
  obtain ⟨z0, z1, z2, _⟩ := ((b2.set0 (.int .i64 iN)).set1 (.slice p1 p2 p3)).set2 (.slice r1 r2 r3)
  have HK := Lib.hid (kk.put3 (b := w.heap.size + 1 + 1) (fun h => by omega) (.int .i64 iN) (.slice p1 p2 p3) (.slice r1 r2 r3))
  have HTN := Lib.hid (hTN.weak (base' := w.heap.size) (by omega))
  clear hTA hTN kk b2
  go_wp2_with fail
  exact bodyPost_ret (v := .agg #[.int .i64 iN, .slice p1 p2 p3, .slice r1 r2 r3]) (by simp [results, Tryz.results44, go_sem, z0, z1, z2]) rfl ⟨_, rfl, HTN.out, HK.out⟩
theorem l12Make_any (v : Value) (t : To) (k a b : Int) (w : World) (h : RT No w v t) (ht : tourB t = true) (hok : okStep t k a b = true) :
    Calls Tryz.prog 44 #[v, stV k a b] w (Ret fun r w' => TA w.heap.size w' r (stepT t k a b) ∧ Chg No w w') := by
  unfold okStep at hok
  unfold stepT
  by_cases e1 : k = 1
  · rw [if_pos e1]; subst e1; exact l12Make1_any v t a b w h ht
  rw [if_neg e1] at hok ⊢
  by_cases e6 : k = 6
  · rw [if_pos e6] at hok ⊢
    simp only [Bool.and_eq_true, decide_eq_true_eq] at hok
    subst e6
    exact l12Make6_any v t a b w h ht hok.1 hok.2.1 hok.2.2
  rw [if_neg e6] at hok ⊢
  unfold okPlain at hok
  simp only [Bool.and_eq_true, beq_iff_eq] at hok
  obtain ⟨_, hok⟩ := hok
  by_cases e2 : k = 2
  · rw [if_pos e2]; subst e2; exact l12Make2_any v t a b w h ht
  rw [if_neg e2] at hok ⊢
  by_cases e3 : k = 3
  · rw [if_pos e3] at hok ⊢; subst e3; exact l12Make3_any v t a b w h ht hok
  rw [if_neg e3] at hok ⊢
  by_cases e4 : k = 4
  · rw [if_pos e4] at hok ⊢
    subst e4
    simp only [Bool.and_eq_true, decide_eq_true_eq] at hok
    exact l12Make4_any v t a b w h ht hok.2.1 (fun i hi => by have := (latT_lt t.ps _ (by omega) t.ps.length).1 hok.2.2 i hi; omega)
  rw [if_neg e4] at hok ⊢
  by_cases e5 : k = 5
  · rw [if_pos e5] at hok ⊢
    subst e5
    simp only [Bool.and_eq_true, decide_eq_true_eq, inB_iff] at hok
    exact l12Make5_any v t a b w h ht hok.1
  rw [if_neg e5]
  exact l12Make7_any v t k a b w h ht e1 e2 e3 e4 e5 e6
end Go.Proofs.YtccmocbkpanibaaGreat
