import Derived.Test.YtdgcohoneijleaaGreatDoorCc
set_option maxRecDepth 100000
namespace Go.Proofs.YtdgcohoneijleaaGreatDoor
open Go.RowKit
def clrP (x : Pl) : Pl := servedP 0 x.ca.pol x.ca.size []
def clearP (ps : List Pl) : List Pl := ps.map clrP
theorem clearP_snoc (ps : List Pl) (j : Nat) (hj : j < ps.length) : clearP (ps.take (j + 1)) = clearP (ps.take j) ++ [clrP (ps.getD j dPl)] := by
 unfold clearP
 rw [List.take_succ_eq_append_getElem hj, List.map_append, List.getD_eq_getElem?_getD, List.getElem?_eq_getElem hj]; rfl
theorem own_none (q : Nat) : ¬ own (.slice none 0 0) q := fun e => by simp [own, Value.ownBlock] at e
set_option maxHeartbeats 4000000 in
theorem cleared_any (v : Value) (t : To) (w : World) (h : RT No w v t) (hs : ∀ i, i < t.ps.length → Ok (newC (t.ps.getD i dPl).ca.pol (t.ps.getD i dPl).ca.size)) :
  Calls Tryz.prog 110 #[v] w (Ret fun r w' => TA w.heap.size w' r ⟨t.items, clearP t.ps, []⟩ ∧ Chg No w w') := by
 obtain ⟨it, ps, rq⟩ := t
 obtain ⟨pv, qv, rfl, hps, hrq⟩ := h
 simp only at hps hrq hs ⊢
 obtain ⟨qa, qn, qc, rfl⟩ := hrq.shape
 obtain ⟨a, cap, rfl, hcap, hmax, hlen, pf, mf, hl, hcl⟩ := id hps
 have HL := Lib.hid hl
 have HC := Lib.hid hcl
 have HS := Lib.hid hs
 clear hl hcl hs hrq
 go_enter Tryz.func110, Tryz.ntmps110
 go_wp2_with fail
 refine boxes33 (R := fun W => Code.wp _ _ _ _ W) (fun W9 kk b2 b4 bN => ?_)
 obtain ⟨B5, hB5⟩ : ∃ B5, w.heap.size + 1 + 1 = B5 := ⟨_, rfl⟩
 rw [hB5] at bN ⊢
 have hB4 : w.heap.size + 1 < B5 := by omega
 clear hB5
 obtain ⟨base, hbase⟩ : ∃ base, W9.heap.size = base := ⟨_, rfl⟩
 have hB5b : B5 < base := hbase ▸ bN.lt
 have hp0 : PA base W9 (.slice none 0 0) (clearP (ps.take 0)) pf mf := by
  rw [List.take_zero]; exact PA.nil base W9 (OS.nil _ _ _ _) pf mf
 go_loopw [12] (fun z wr => ∃ (j : Nat) (ov : Value) (pg mg : Nat → Value), j ≤ ps.length ∧ z = .int .i64 (j : Int) ∧ Chg No w wr ∧ base ≤ wr.heap.size ∧ Box3 wr w.heap.size (.int .i64 it) (.slice a ps.length cap) (.slice qa qn qc) ∧ Box3 wr (w.heap.size + 1) (.int .i64 0) (.slice none 0 0) (.slice none 0 0) ∧
   Box3 wr B5 (.int .i64 it) ov (.slice none 0 0) ∧ PA base wr ov (clearP (ps.take j)) pg mg) (fun z _ => ps.length - (intOf z).toNat)
 case atStart => exact ⟨0, _, _, _, Nat.zero_le _, rfl, kk, by omega, b2, b4, bN, hp0⟩
 case round =>
  clear kk b2 b4 bN hp0 hbase
  obtain ⟨j, ov, pg, mg, hj, rfl, kk, hbw, b2, b4, b5, hP⟩ := hrel
  have hj0 : (0 : Int) ≤ (j : Int) := Int.natCast_nonneg _
  by_cases hlt : j < ps.length
  ·obtain ⟨b, off, rfl, _, hb, hcell⟩ := HC.out (by intro e; simp [e] at hlt)
   have h7 := (hcell j hlt).step kk hb (fun e => e)
   obtain ⟨hpj, hmj⟩ := HL.out j hlt
   have hok := HS.out j hlt
   have hsn := clearP_snoc ps j hlt
   have hlg : (clearP (ps.take j)).length = j := by unfold clearP; rw [List.length_map, List.length_take]; omega
   obtain ⟨y, hy⟩ : ∃ y, ps.getD j dPl = y := ⟨_, rfl⟩
   rw [hy] at h7 hpj hmj hok hsn
   generalize pf j = pj at hpj h7
   generalize mf j = mj at hmj h7
   obtain ⟨ya, yn, yc, rfl⟩ := hpj.shape
   obtain ⟨ua, un, uc, rfl⟩ := hmj.shape
   obtain ⟨R0, hR0⟩ : ∃ R0, clearP (ps.take j) = R0 := ⟨_, rfl⟩
   rw [hR0] at hsn hP hlg
   obtain ⟨oa, oc, rfl, _⟩ := hP.os.view
   rw [hlg] at hP b5
   have HSN := Lib.hid hsn
   have HOK := Lib.hid hok
   have hj1 : (j : Int) < (ps.length : Int) := by omega
   have hwj : IntKind.i64.wrap ((j : Int) + 1) = (j : Int) + 1 := IntWalk.i64_in _ (by omega)
   obtain ⟨g0, g1, g2, g3, g4, g5, g6⟩ := id h7
   clear h7 hcell hy hsn hpj hmj hok hR0
   go_wp2_with fail
   clear g0 g1 g2 g3 g4 g5 g6
   have bp := Box7.new wr (.int .i64 y.frm) (.int .i64 y.ca.pol) (.int .i64 y.ca.size) (.slice ya yn yc) (.slice ua un uc) (.int .i64 y.ca.hand) (.int .i64 y.fa) 68
   have kp := (Chg.refl No wr).alloc (.cells #[.int .i64 y.frm, .int .i64 y.ca.pol, .int .i64 y.ca.size, .slice ya yn yc, .slice ua un uc, .int .i64 y.ca.hand, .int .i64 y.fa] 68)
   obtain ⟨B7, hB7⟩ : ∃ B7, wr.heap.size = B7 := ⟨_, rfl⟩
   rw [hB7] at bp
   have hB57 : B5 < B7 := hB7 ▸ b5.lt
   have hown : ∀ q, own (.slice oa j oc) q → q < B7 := fun q hq => hB7 ▸ (hP.os.lt q hq).2
   rw [hB7] at hbw
   generalize wr.alloc (.cells #[.int .i64 y.frm, .int .i64 y.ca.pol, .int .i64 y.ca.size, .slice ya yn yc, .slice ua un uc, .int .i64 y.ca.hand, .int .i64 y.fa] 68) = W2 at bp kp ⊢
   replace kk := kk.keep kp
   replace b2 := b2.keep kp
   replace b4 := b4.keep kp
   replace b5 := b5.keep kp
   replace hP := hP.keep kp
   rw [hB7]
   clear kp hB7
   refine wp_region_K (S := fun W => W.cell? ⟨B5, 1, none⟩ = some (.slice oa j oc) ∧ W.cell? ⟨B7, 1, none⟩ = some (.int .i64 y.ca.pol) ∧ W.cell? ⟨B7, 2, none⟩ = some (.int .i64 y.ca.size)) (k := 10) (by kernel_rfl) ?_
   replace kk := kk.keep (drewN0 _)
   replace b2 := b2.keep (drewN0 _)
   replace b4 := b4.keep (drewN0 _)
   replace b5 := b5.keep (drewN0 _)
   replace hP := hP.keep (drewN0 _)
   replace bp := bp.keep (drewN0 _)
   generalize W2.drew = WR at kk b2 b4 b5 hP bp ⊢
   have hS : WR.cell? ⟨B5, 1, none⟩ = some (.slice oa j oc) ∧ WR.cell? ⟨B7, 1, none⟩ = some (.int .i64 y.ca.pol) ∧ WR.cell? ⟨B7, 2, none⟩ = some (.int .i64 y.ca.size) := ⟨b5.c1, bp.c1, bp.c2⟩
   refine wpAnyK_take0 0 (.pointer (some ⟨B5, 1, none⟩)) rfl (by kernel_rfl) (fun _ _ _ h => h) hS rfl (by intro w; go_simp) ?_
   simp only [zA, zC, zD, zE, zF, zG]
   refine wpAnyK_takeT 1 (.slice oa j oc) rfl (by kernel_rfl) (fun _ _ _ h => h) hS rfl (by intro w hSw; go_simp) ?_
   simp only [zA, zB, zC, zD, zE, zF, zG]
   refine wpAnyK_take0 2 (.pointer (some ⟨B7, 1, none⟩)) rfl (by kernel_rfl) (fun _ _ _ h => h) hS rfl (by intro w; go_simp) ?_
   simp only [zA, zB, zC, zD, zE, zF, zG]
   refine wpAnyK_take0 3 (.pointer (some ⟨B7, 1, none⟩)) rfl (by kernel_rfl) (fun _ _ _ h => h) hS rfl (by intro w; go_simp) ?_
   simp only [zA, zB, zC, zD, zE, zF, zG]
   refine wpAnyK_takeT 4 (.int .i64 y.ca.pol) rfl (by kernel_rfl) (fun _ _ _ h => h) hS rfl (by intro w hSw; go_simp) ?_
   simp only [zA, zB, zC, zD, zE, zF, zG]
   refine wpAnyK_take0 5 (.pointer (some ⟨B7, 1, none⟩)) rfl (by kernel_rfl) (fun _ _ _ h => h) hS rfl (by intro w; go_simp) ?_
   simp only [zA, zB, zC, zD, zE, zF, zG]
   refine wpAnyK_take0 6 (.pointer (some ⟨B7, 2, none⟩)) rfl (by kernel_rfl) (fun _ _ _ h => h) hS rfl (by intro w; go_simp) ?_
   simp only [zA, zB, zC, zD, zE, zF, zG]
   refine wpAnyK_takeT 7 (.int .i64 y.ca.size) rfl (by kernel_rfl) (fun _ _ _ h => h) hS rfl (by intro w hSw; go_simp) ?_
   simp only [zA, zB, zC, zD, zE, zF, zG]
   refine wpAnyK_1 8 (by kernel_rfl) (wpOpK' rfl rfl ?_)
   intro K hK
   refine ocall (f := 58) (args := #[.int .i64 0, .int .i64 y.ca.pol, .int .i64 y.ca.size, .slice none 0 0]) (by go_simp) (playerOf_any 0 y.ca.pol y.ca.size _ [] WR (RI.nil No WR) HOK.out) (fun v8 w8 h8 => hK.out _ _ ⟨(b5.keep h8.2).c1, (bp.keep h8.2).c1, (bp.keep h8.2).c2⟩ ?_)
   obtain ⟨⟨pv, mv, rfl, op, om, oap⟩, k8⟩ := h8
   clear hK K hS
   simp only [zA, zB, zC, zD, zE, zF, zG]
   have hsz := kk.size
   have hszR := b5.lt
   have hWR : base ≤ WR.heap.size := by have := bp.lt; omega
   replace kk := kk.keep k8
   replace b2 := b2.keep k8
   replace b4 := b4.keep k8
   replace b5 := b5.keep k8
   replace bp := bp.keep k8
   have hPos := hP.os.keep k8
   obtain ⟨x1, x2, x3, rfl⟩ := op.shape
   obtain ⟨x4, x5, x6, rfl⟩ := om.shape
   obtain ⟨X, hX⟩ : ∃ X, servedP 0 y.ca.pol y.ca.size [] = X := ⟨_, rfl⟩
   have hsn2 : clearP (ps.take (j + 1)) = R0 ++ [X] := by rw [HSN.out]; unfold clrP; rw [hX]
   rw [hX] at op om ⊢
   have HSN2 := Lib.hid hsn2
   clear hX hsn2
   refine wpAnyK_1 9 (by kernel_rfl) (wpOpK' rfl rfl ?_)
   intro K hK
   unfold Oper.wp execOp
   go_simp
   have ka := (Chg.refl No w8).alloc (.cells #[.int .i64 X.frm, .int .i64 X.ca.pol, .int .i64 X.ca.size, .slice x1 x2 x3, .slice x4 x5 x6, .int .i64 X.ca.hand, .int .i64 X.fa] 68)
   refine hK.out _ _ ⟨(b5.keep ka).c1, (bp.keep ka).c1, (bp.keep ka).c2⟩ ?_
   clear hK K ka
   simp only [zE]
   refine wpAnyK_tail 10 rfl (by kernel_rfl) ?_
   simp only [List.drop_succ_cons, List.drop_zero]
   have hs8 := k8.size
   have hgeq : ∀ q, own (.slice oa j oc) q → base ≤ q := fun q hq => (hP.os.lt q hq).1
   go_wp2_with (at_builtin; refine wappS1 elPlayers (by omega) rfl (.tmp 17) (.tmp 25) rfl hPos rfl (by simp [Value.oneCell']) rfl rfl (by omega) (by omega) ?_)
   intro v' wN oN kN hnN
   rw [← hlg] at oN
   have HPN := Lib.hid (hP.snoc hWR k8 op om oap oN kN hnN)
   have HBN := Lib.hid (oN.lt)
   replace kk := kk.step kN (fun q hq hl => by have := hgeq q hq; omega)
   replace b2 := b2.step kN (fun hq => by have := hgeq _ hq; omega)
   replace b4 := b4.step kN (fun hq => by have := hgeq _ hq; omega)
   replace b5 := b5.step kN (fun hq => by have := hgeq _ hq; omega)
   obtain ⟨na, nc, rfl, _⟩ := oN.view
   have hszN := kN.size
   have cN : Chg (fun q => q = B5) wN (wN.setCell ⟨B5, 1, none⟩ (.slice na (R0.length + 1) nc)) := (Chg.refl (fun q => q = B5) wN).setCell (p := ⟨B5, 1, none⟩) (fun _ => rfl) _
   have HEND := Lib.hid (And.intro (kk.step cN (fun q hq hl => by omega)) (And.intro (b2.step cN (by omega)) (And.intro (b4.step cN (by omega)) (And.intro (b5.set1 (.slice na (R0.length + 1) nc)) (And.intro (HPN.out.step cN (fun q hq e => by have := (HPN.out.inF q hq).1; omega)) cN.size)))))
   have hb51 := b5.c1
   have hb53 := b5.fr 1
   clear kk b2 b4 b5 hP hPos oN kN hnN HPN cN k8 op om bp hgeq hlg
   go_wp2_with fail
   go_round
   case measure => simp [intOf]; omega
   case rel =>
    obtain ⟨e1, e2, e3, e4, e5, e7⟩ := HEND.out
    exact ⟨j + 1, _, _, _, by omega, by go_num, e1, by omega, e2, e3, e4, by rw [HSN2.out]; exact e5⟩
  ·have hje : j = ps.length := by omega
   subst hje
   rw [List.take_length] at hP
   obtain ⟨oa, oc, rfl, _⟩ := hP.os.view
   obtain ⟨n5, hn5⟩ : ∃ n5, (clearP ps).length = n5 := ⟨_, rfl⟩
   rw [hn5] at hP b5
   clear HL HC HS
   obtain ⟨d0, d1, d2, _⟩ := id b5
   obtain ⟨c0, c1, c2, cf⟩ := id b4
   have cf0 := cf 0
   have cf1 := cf 1
   have cf2 := cf 2
   clear cf
   obtain ⟨z0, z1, z2, _⟩ := ((b4.set0 (.int .i64 it)).set1 (.slice oa n5 oc)).set2 (.slice none 0 0)
   have ch : Chg (fun q => q = w.heap.size + 1) wr (((wr.setCell ⟨w.heap.size + 1, 0, none⟩ (.int .i64 it)).setCell ⟨w.heap.size + 1, 1, none⟩ (.slice oa n5 oc)).setCell ⟨w.heap.size + 1, 2, none⟩ (.slice none 0 0)) :=
    (((Chg.refl (fun q => q = w.heap.size + 1) wr).setCell (p := ⟨w.heap.size + 1, 0, none⟩) (fun _ => rfl) _).setCell (p := ⟨w.heap.size + 1, 1, none⟩) (fun _ => rfl) _).setCell (p := ⟨w.heap.size + 1, 2, none⟩) (fun _ => rfl) _
   have f1 := (hP.step ch (fun q hq e => by have := (hP.inF q hq).1; omega)).weak (base' := w.heap.size) (by omega)
   have hk := kk.step ch (fun q hq hl => by omega)
   have HEND := Lib.hid (And.intro f1 hk)
   have HCH := Lib.hid ch
   clear f1 hk hP kk ch b2 b4 b5 hn5
   go_wp2_with fail
   exact bodyPost_ret (v := .agg #[.int .i64 it, .slice oa n5 oc, .slice none 0 0]) (by simp [results, Tryz.results110, go_sem, z0, z1, z2]) rfl ⟨_, rfl, ⟨_, _, _, _, rfl, HEND.out.1, OI.nil _ _, fun q _ e => own_none q e⟩, HEND.out.2⟩
end Go.Proofs.YtdgcohoneijleaaGreatDoor
namespace Go.Proofs.YtdgcohoneijleaaGreatDoor
open Go.RowKit
set_option maxHeartbeats 400000 in
theorem l4NewO_any (p k : Int) (w : World) :
  Calls Tryz.prog 125 #[.int .i64 p, .int .i64 k] w (Ret fun v' w' => (∃ g h, v' = .agg #[.int .i64 p, .int .i64 k, .slice (some ⟨g, 0, none⟩) 0 0, .slice (some ⟨h, 0, none⟩) 0 0, .int .i64 0] ∧ OI w.heap.size w' (.slice (some ⟨g, 0, none⟩) 0 0) [] ∧ OI w.heap.size w' (.slice (some ⟨h, 0, none⟩) 0 0) [] ∧ ∀ q, own (.slice (some ⟨g, 0, none⟩) 0 0) q → ¬ own (.slice (some ⟨h, 0, none⟩) 0 0) q) ∧ Chg No w w') := by
 go_enter Tryz.func125, Tryz.ntmps125
 go_wp2
 refine bodyPost_ret (v := .agg #[.int .i64 p, .int .i64 k, .slice (some ⟨w.heap.size + 1, 0, none⟩) 0 0, .slice (some ⟨w.heap.size + 1 + 1, 0, none⟩) 0 0, .int .i64 0]) (by simp [results, Tryz.results125, go_sem]) rfl ?_
 exact ⟨_, rfl, ⟨_, _, rfl, (OI.zeroAt (by simp) (by omega)).keep ((Chg.refl No _).alloc _), OI.zeroAt (by simp) (by omega), fun q hq e => by have h1 := own_slice.1 hq; have h2 := own_slice.1 e; omega⟩, (((Chg.refl No w).alloc _).alloc _).alloc _⟩
set_option maxHeartbeats 4000000 in
theorem l12Begun_any (v : Value) (t : To) (w : World) (h : RT No w v t) (hs : ∀ i, i < t.ps.length → Ok (newC (t.ps.getD i dPl).ca.pol (t.ps.getD i dPl).ca.size)) :
  Calls Tryz.prog 117 #[v] w (Ret fun r w' => TA w.heap.size w' r ⟨t.items, clearP t.ps, []⟩ ∧ Chg No w w') := by
 obtain ⟨it, ps, rq⟩ := t
 obtain ⟨pv, qv, rfl, hps, hrq⟩ := h
 simp only at hps hrq hs ⊢
 obtain ⟨qa, qn, qc, rfl⟩ := hrq.shape
 obtain ⟨a, cap, rfl, hcap, hmax, hlen, pf, mf, hl, hcl⟩ := id hps
 have HL := Lib.hid hl
 have HC := Lib.hid hcl
 have HS := Lib.hid hs
 clear hl hcl hs hrq
 have hW0 : ∀ W, W = ((((w.alloc (.cells #[.int .i64 it, .slice a ps.length cap, .slice qa qn qc] 31)).alloc (.cells #[.int .i64 0, .slice none 0 0, .slice none 0 0] 31)).alloc (.cells #[] 68)).alloc (.cells #[] 3)).alloc (.cells #[.int .i64 it, .slice (some ⟨w.heap.size + 1 + 1, 0, none⟩) 0 0, .slice (some ⟨w.heap.size + 1 + 1 + 1, 0, none⟩) 0 0] 31) →
   Chg No w W ∧ Box3 W w.heap.size (.int .i64 it) (.slice a ps.length cap) (.slice qa qn qc) ∧ Box3 W (w.heap.size + 1) (.int .i64 0) (.slice none 0 0) (.slice none 0 0) ∧ OS 68 7 (w.heap.size + 2) W (.slice (some ⟨w.heap.size + 1 + 1, 0, none⟩) 0 0) 0 [] ∧ OI (w.heap.size + 2) W (.slice (some ⟨w.heap.size + 1 + 1 + 1, 0, none⟩) 0 0) [] ∧
   Box3 W (w.heap.size + 1 + 1 + 1 + 1) (.int .i64 it) (.slice (some ⟨w.heap.size + 1 + 1, 0, none⟩) 0 0) (.slice (some ⟨w.heap.size + 1 + 1 + 1, 0, none⟩) 0 0) := fun W e => by
  subst e
  obtain ⟨W2, hW2⟩ : ∃ W2, (w.alloc (.cells #[.int .i64 it, .slice a ps.length cap, .slice qa qn qc] 31)).alloc (.cells #[.int .i64 0, .slice none 0 0, .slice none 0 0] 31) = W2 := ⟨_, rfl⟩
  have hz : W2.heap.size = w.heap.size + 1 + 1 := by rw [← hW2]; simp
  have f0 : Chg No w W2 ∧ Box3 W2 w.heap.size (.int .i64 it) (.slice a ps.length cap) (.slice qa qn qc) ∧ Box3 W2 (w.heap.size + 1) (.int .i64 0) (.slice none 0 0) (.slice none 0 0) := by
   rw [← hW2]; exact boxes32 (R := fun W => Chg No w W ∧ Box3 W w.heap.size (.int .i64 it) (.slice a ps.length cap) (.slice qa qn qc) ∧ Box3 W (w.heap.size + 1) (.int .i64 0) (.slice none 0 0) (.slice none 0 0)) (fun W k b0 b1 => ⟨k, b0, b1⟩)
  rw [hW2]
  have k3 := (((Chg.refl No W2).alloc (.cells #[] 68)).alloc (.cells #[] 3)).alloc (.cells #[.int .i64 it, .slice (some ⟨w.heap.size + 1 + 1, 0, none⟩) 0 0, .slice (some ⟨w.heap.size + 1 + 1 + 1, 0, none⟩) 0 0] 31)
  have g1 := OS.zero (E := 68) (sz := 7) (base := w.heap.size + 2) (w := W2) (by omega)
  rw [hz] at g1
  refine ⟨f0.1.trans (k3.mono (fun _ e _ => e.elim)), f0.2.1.keep k3, f0.2.2.keep k3, g1.keep (((Chg.refl No _).alloc _).alloc _), (OI.zeroAt (by simp [hz]) (by omega)).keep ((Chg.refl No _).alloc _), ?_⟩
  exact (Box3.new ((W2.alloc (.cells #[] 68)).alloc (.cells #[] 3)) _ _ _ 31).at (by simp [hz])
 have HW0 := Lib.hid hW0
 clear hW0
 go_enter Tryz.func117, Tryz.ntmps117
 go_wp2_with fail
 generalize hWW : ((((w.alloc _).alloc _).alloc _).alloc _).alloc _ = W9
 obtain ⟨kk, b2, b4, oG, o1, bN⟩ := HW0.out W9 hWW.symm
 clear hWW HW0
 obtain ⟨B5, hB5⟩ : ∃ B5, w.heap.size + 1 + 1 + 1 + 1 = B5 := ⟨_, rfl⟩
 rw [hB5] at bN ⊢
 obtain ⟨H, hH⟩ : ∃ H, w.heap.size + 1 + 1 + 1 = H := ⟨_, rfl⟩
 rw [hH] at bN o1 ⊢
 obtain ⟨G, hG⟩ : ∃ G, w.heap.size + 1 + 1 = G := ⟨_, rfl⟩
 rw [hG] at bN oG ⊢
 replace oG := oG.weak (base' := w.heap.size + 2) (by omega)
 have hB4 : w.heap.size + 1 < B5 := by omega
 have hGB : G ≠ B5 := by omega
 have hGc : G ≠ H := by omega
 have hHB : H ≠ B5 := by omega
 clear hB5 hH hG
 obtain ⟨base, hbase⟩ : ∃ base, W9.heap.size = base := ⟨_, rfl⟩
 have hB5b : B5 < base := hbase ▸ bN.lt
 have hHb : H < base := hbase ▸ (o1.lt H (own_slice.2 rfl)).2
 have hp0 : PA (w.heap.size + 2) W9 (.slice (some ⟨G, 0, none⟩) 0 0) (clearP (ps.take 0)) pf mf := by
  rw [List.take_zero]; exact PA.nil _ W9 oG pf mf
 have hf0 : ∀ q, FA (.slice (some ⟨G, 0, none⟩) 0 0) (clearP (ps.take 0)).length pf mf q → q ≠ B5 ∧ q ≠ H := fun q hq => by
  rcases hq with hq | ⟨i, hi, _⟩
  ·have e := own_slice.1 hq
   subst e; exact ⟨hGB, hGc⟩
  ·rw [List.take_zero] at hi; exact absurd hi (Nat.not_lt_zero i)
 go_loopw [4] (fun z wr => ∃ (j : Nat) (ov : Value) (pg mg : Nat → Value), j ≤ ps.length ∧ z = .int .i64 (j : Int) ∧ Chg No w wr ∧ base ≤ wr.heap.size ∧ Box3 wr w.heap.size (.int .i64 it) (.slice a ps.length cap) (.slice qa qn qc) ∧ Box3 wr (w.heap.size + 1) (.int .i64 0) (.slice none 0 0) (.slice none 0 0) ∧
   Box3 wr B5 (.int .i64 it) ov (.slice (some ⟨H, 0, none⟩) 0 0) ∧ PA (w.heap.size + 2) wr ov (clearP (ps.take j)) pg mg ∧ OI (w.heap.size + 2) wr (.slice (some ⟨H, 0, none⟩) 0 0) [] ∧ (∀ q, FA ov (clearP (ps.take j)).length pg mg q → q ≠ B5 ∧ q ≠ H)) (fun z _ => ps.length - (intOf z).toNat)
 case atStart => exact ⟨0, _, _, _, Nat.zero_le _, rfl, kk, by omega, b2, b4, bN, hp0, o1, hf0⟩
 case round =>
  clear kk b2 b4 bN hp0 hbase oG o1 hf0 hGB hGc
  obtain ⟨j, ov, pg, mg, hj, rfl, kk, hbw, b2, b4, b5, hP, o1, hF⟩ := hrel
  have hj0 : (0 : Int) ≤ (j : Int) := Int.natCast_nonneg _
  obtain ⟨c0, c1, c2, _⟩ := id b2
  by_cases hlt : j < ps.length
  ·obtain ⟨b, off, rfl, _, hb, hcell⟩ := HC.out (by intro e; simp [e] at hlt)
   have h7 := (hcell j hlt).step kk hb (fun e => e)
   obtain ⟨hpj, hmj⟩ := HL.out j hlt
   have hok := HS.out j hlt
   have hsn := clearP_snoc ps j hlt
   have hlg : (clearP (ps.take j)).length = j := by unfold clearP; rw [List.length_map, List.length_take]; omega
   obtain ⟨y, hy⟩ : ∃ y, ps.getD j dPl = y := ⟨_, rfl⟩
   rw [hy] at h7 hpj hmj hok hsn
   generalize pf j = pj at hpj h7
   generalize mf j = mj at hmj h7
   obtain ⟨ya, yn, yc, rfl⟩ := hpj.shape
   obtain ⟨ua, un, uc, rfl⟩ := hmj.shape
   obtain ⟨R0, hR0⟩ : ∃ R0, clearP (ps.take j) = R0 := ⟨_, rfl⟩
   rw [hR0] at hsn hP hlg hF
   obtain ⟨oa, oc, rfl, _⟩ := hP.os.view
   rw [hlg] at hP b5 hF
   have HF0 := Lib.hid hF
   have HSN := Lib.hid hsn
   have HOK := Lib.hid hok
   have hj1 : (j : Int) < (ps.length : Int) := by omega
   have hwj : IntKind.i64.wrap ((j : Int) + 1) = (j : Int) + 1 := IntWalk.i64_in _ (by omega)
   obtain ⟨g0, g1, g2, g3, g4, g5, g6⟩ := id h7
   clear h7 hcell hy hsn hpj hmj hok hR0 hF
   go_wp2_with fail
   clear g0 g1 g2 g3 g4 g5 g6 c0 c1 c2
   have bp := Box.new wr (.int .i64 y.ca.pol) (.int .i64 y.ca.size) (.slice ya yn yc) (.slice ua un uc) (.int .i64 y.ca.hand) 66
   have kp := (Chg.refl No wr).alloc (.cells #[.int .i64 y.ca.pol, .int .i64 y.ca.size, .slice ya yn yc, .slice ua un uc, .int .i64 y.ca.hand] 66)
   obtain ⟨B7, hB7⟩ : ∃ B7, wr.heap.size = B7 := ⟨_, rfl⟩
   rw [hB7] at bp
   have hB57 : B5 < B7 := hB7 ▸ b5.lt
   have hown : ∀ q, own (.slice oa j oc) q → q < B7 := fun q hq => hB7 ▸ (hP.os.lt q hq).2
   rw [hB7] at hbw
   generalize wr.alloc (.cells #[.int .i64 y.ca.pol, .int .i64 y.ca.size, .slice ya yn yc, .slice ua un uc, .int .i64 y.ca.hand] 66) = W2 at bp kp ⊢
   replace kk := kk.keep kp
   replace b2 := b2.keep kp
   replace b4 := b4.keep kp
   replace b5 := b5.keep kp
   replace hP := hP.keep kp
   replace o1 := o1.keep kp
   rw [hB7]
   clear kp hB7
   refine wp_region_K (S := fun W => W.cell? ⟨B5, 1, none⟩ = some (.slice oa j oc) ∧ W.cell? ⟨B7, 0, none⟩ = some (.int .i64 y.ca.pol) ∧ W.cell? ⟨B7, 1, none⟩ = some (.int .i64 y.ca.size)) (k := 9) (by kernel_rfl) ?_
   replace kk := kk.keep (drewN0 _)
   replace b2 := b2.keep (drewN0 _)
   replace b4 := b4.keep (drewN0 _)
   replace b5 := b5.keep (drewN0 _)
   replace hP := hP.keep (drewN0 _)
   replace o1 := o1.keep (drewN0 _)
   replace bp := bp.keep (drewN0 _)
   generalize W2.drew = WR at kk b2 b4 b5 hP o1 bp ⊢
   have hS : WR.cell? ⟨B5, 1, none⟩ = some (.slice oa j oc) ∧ WR.cell? ⟨B7, 0, none⟩ = some (.int .i64 y.ca.pol) ∧ WR.cell? ⟨B7, 1, none⟩ = some (.int .i64 y.ca.size) := ⟨b5.c1, bp.c0, bp.c1⟩
   refine wpAnyK_take0 0 (.pointer (some ⟨B5, 1, none⟩)) rfl (by kernel_rfl) (fun _ _ _ h => h) hS rfl (by intro w; go_simp) ?_
   simp only [zA, zC, zD, zE, zF, zG]
   refine wpAnyK_takeT 1 (.slice oa j oc) rfl (by kernel_rfl) (fun _ _ _ h => h) hS rfl (by intro w hSw; go_simp) ?_
   simp only [zA, zB, zC, zD, zE, zF, zG]
   refine wpAnyK_take0 2 (.pointer (some ⟨B7, 0, none⟩)) rfl (by kernel_rfl) (fun _ _ _ h => h) hS rfl (by intro w; go_simp) ?_
   simp only [zA, zB, zC, zD, zE, zF, zG]
   refine wpAnyK_takeT 3 (.int .i64 y.ca.pol) rfl (by kernel_rfl) (fun _ _ _ h => h) hS rfl (by intro w hSw; go_simp) ?_
   simp only [zA, zB, zC, zD, zE, zF, zG]
   refine wpAnyK_take0 4 (.pointer (some ⟨B7, 1, none⟩)) rfl (by kernel_rfl) (fun _ _ _ h => h) hS rfl (by intro w; go_simp) ?_
   simp only [zA, zB, zC, zD, zE, zF, zG]
   refine wpAnyK_takeT 5 (.int .i64 y.ca.size) rfl (by kernel_rfl) (fun _ _ _ h => h) hS rfl (by intro w hSw; go_simp) ?_
   simp only [zA, zB, zC, zD, zE, zF, zG]
   refine wpAnyK_1 6 (by kernel_rfl) (wpOpK' rfl rfl ?_)
   intro K hK
   refine ocall (f := 125) (args := #[.int .i64 y.ca.pol, .int .i64 y.ca.size]) (by go_simp) (l4NewO_any y.ca.pol y.ca.size WR) (fun v8 w8 h8 => hK.out _ _ ⟨(b5.keep h8.2).c1, (bp.keep h8.2).c0, (bp.keep h8.2).c1⟩ ?_)
   obtain ⟨⟨x1, x4, rfl, op, om, oap⟩, k8⟩ := h8
   clear hK K hS
   simp only [zA, zB, zC, zD, zE, zF, zG]
   have hsz := kk.size
   have hszR := b5.lt
   have hWR : base ≤ WR.heap.size := by have := bp.lt; omega
   replace kk := kk.keep k8
   replace b2 := b2.keep k8
   replace b4 := b4.keep k8
   replace b5 := b5.keep k8
   replace bp := bp.keep k8
   replace o1 := o1.keep k8
   have hPos := hP.os.keep k8
   have hsn2 : clearP (ps.take (j + 1)) = R0 ++ [⟨0, newC y.ca.pol y.ca.size, 0⟩] := by rw [HSN.out]; rfl
   have HSN2 := Lib.hid hsn2
   clear hsn2
   have hS : w8.cell? ⟨B5, 1, none⟩ = some (.slice oa j oc) ∧ w8.cell? ⟨B7, 0, none⟩ = some (.int .i64 y.ca.pol) ∧ w8.cell? ⟨B7, 1, none⟩ = some (.int .i64 y.ca.size) := ⟨b5.c1, bp.c0, bp.c1⟩
   refine wpAnyK_take0 7 (.agg #[.int .i64 0, .int .i64 y.ca.pol, .int .i64 y.ca.size, .slice (some ⟨x1, 0, none⟩) 0 0, .slice (some ⟨x4, 0, none⟩) 0 0, .int .i64 0, .int .i64 0]) rfl (by kernel_rfl) (fun _ _ _ h => h) hS rfl (by intro w; go_simp) ?_
   simp only [zA, zB, zC, zD, zE, zF, zG]
   refine wpAnyK_1 8 (by kernel_rfl) (wpOpK' rfl rfl ?_)
   intro K hK
   unfold Oper.wp execOp
   go_simp
   have ka := (Chg.refl No w8).alloc (.cells #[.int .i64 0, .int .i64 y.ca.pol, .int .i64 y.ca.size, .slice (some ⟨x1, 0, none⟩) 0 0, .slice (some ⟨x4, 0, none⟩) 0 0, .int .i64 0, .int .i64 0] 68)
   refine hK.out _ _ ⟨(b5.keep ka).c1, (bp.keep ka).c0, (bp.keep ka).c1⟩ ?_
   clear hK K ka
   simp only [zE]
   refine wpAnyK_tail 9 rfl (by kernel_rfl) ?_
   simp only [List.drop_succ_cons, List.drop_zero]
   have hs8 := k8.size
   have hgeq : ∀ q, own (.slice oa j oc) q → w.heap.size + 2 ≤ q ∧ q ≠ B5 ∧ q ≠ H := fun q hq => ⟨(hP.os.lt q hq).1, HF0.out q (.inl hq)⟩
   have hS1 : True := trivial
   go_wp2_with (at_builtin; refine wappS1 elPlayers (by omega) rfl (.tmp 25) (.tmp 32) rfl hPos rfl (by simp [Value.oneCell']) rfl rfl (by omega) (by omega) ?_)
   intro v' wN oN kN hnN
   rw [← hlg] at oN
   have HPN := Lib.hid (hP.snoc (x := ⟨0, newC y.ca.pol y.ca.size, 0⟩) (by omega) k8 op om oap oN kN hnN)
   have hlx : (R0 ++ [(⟨0, newC y.ca.pol y.ca.size, 0⟩ : Pl)]).length = R0.length + 1 := by simp
   have HLX := Lib.hid hlx
   have HFN : Hid (∀ q, FA v' (R0.length + 1) (fun i => if i = R0.length then .slice (some ⟨x1, 0, none⟩) 0 0 else pg i) (fun i => if i = R0.length then .slice (some ⟨x4, 0, none⟩) 0 0 else mg i) q → q ≠ B5 ∧ q ≠ H) := Lib.hid (fun q hq => by
    rcases PA.snocF (b := WR.heap.size) (fun q hq => (op.lt q hq).1) (fun q hq => (om.lt q hq).1) hs8 hnN q hq with h | h
    ·exact HF0.out q (by rw [hlg] at h; exact h)
    ·omega)
   have HBN := Lib.hid (oN.lt)
   replace kk := kk.step kN (fun q hq hl => by have := (hgeq q hq).1; omega)
   replace b2 := b2.step kN (fun hq => by have := (hgeq _ hq).1; omega)
   replace b4 := b4.step kN (fun hq => by have := (hgeq _ hq).1; omega)
   replace b5 := b5.step kN (fun hq => (hgeq _ hq).2.1 rfl)
   replace o1 := o1.step kN (fun q hq hq' => (hgeq _ hq').2.2 (own_slice.1 hq))
   obtain ⟨na, nc, rfl, _⟩ := oN.view
   have hszN := kN.size
   have cN : Chg (fun q => q = B5) wN (wN.setCell ⟨B5, 1, none⟩ (.slice na (R0.length + 1) nc)) := (Chg.refl (fun q => q = B5) wN).setCell (p := ⟨B5, 1, none⟩) (fun _ => rfl) _
   have HEND := Lib.hid (And.intro (kk.step cN (fun q hq hl => by omega)) (And.intro (b2.step cN (by omega)) (And.intro (b4.step cN (by omega)) (And.intro (b5.set1 (.slice na (R0.length + 1) nc)) (And.intro (HPN.out.step cN (fun q hq e => (HFN.out q (by rw [hlx] at hq; exact hq)).1 e)) (And.intro (o1.step cN (fun q hq e => hHB ((own_slice.1 hq).symm.trans e))) cN.size))))))
   have hb51 := b5.c1
   have hb53 := b5.fr 1
   clear kk b2 b4 b5 hP hPos o1 oN kN hnN HPN cN k8 op om bp hgeq hlg hlx
   go_wp2_with fail
   go_round
   case measure => simp [intOf]; omega
   case rel =>
    obtain ⟨e1, e2, e3, e4, e5, e6, e7⟩ := HEND.out
    exact ⟨j + 1, _, _, _, by omega, by go_num, e1, by omega, e2, e3, e4, by rw [HSN2.out]; exact e5, e6, by rw [HSN2.out, HLX.out]; exact HFN.out⟩
  ·have hje : j = ps.length := by omega
   subst hje
   rw [List.take_length] at hP hF
   obtain ⟨oa, oc, rfl, _⟩ := hP.os.view
   obtain ⟨n5, hn5⟩ : ∃ n5, (clearP ps).length = n5 := ⟨_, rfl⟩
   rw [hn5] at hP b5 hF
   clear HL HC HS
   obtain ⟨d0, d1, d2, _⟩ := id b5
   obtain ⟨e0, e1, e2, cf⟩ := id b4
   have cf0 := cf 0
   have cf1 := cf 1
   have cf2 := cf 2
   clear cf
   obtain ⟨z0, z1, z2, _⟩ := ((b4.set0 (.int .i64 it)).set1 (.slice oa n5 oc)).set2 (.slice (some ⟨H, 0, none⟩) 0 0)
   have ch : Chg (fun q => q = w.heap.size + 1) wr (((wr.setCell ⟨w.heap.size + 1, 0, none⟩ (.int .i64 it)).setCell ⟨w.heap.size + 1, 1, none⟩ (.slice oa n5 oc)).setCell ⟨w.heap.size + 1, 2, none⟩ (.slice (some ⟨H, 0, none⟩) 0 0)) :=
    (((Chg.refl (fun q => q = w.heap.size + 1) wr).setCell (p := ⟨w.heap.size + 1, 0, none⟩) (fun _ => rfl) _).setCell (p := ⟨w.heap.size + 1, 1, none⟩) (fun _ => rfl) _).setCell (p := ⟨w.heap.size + 1, 2, none⟩) (fun _ => rfl) _
   have f1 := (hP.step ch (fun q hq e => by have := (hP.inF q hq).1; omega)).weak (base' := w.heap.size) (by omega)
   have hk := kk.step ch (fun q hq hl => by omega)
   have f3 : ∀ q, FA (.slice oa n5 oc) (clearP ps).length pg mg q → ¬ own (.slice (some ⟨H, 0, none⟩) 0 0) q := fun q hq e => (hF q (by rw [hn5] at hq; exact hq)).2 (own_slice.1 e)
   have HEND := Lib.hid (And.intro f1 (And.intro f3 hk))
   have HO := Lib.hid ((o1.step ch (fun q hq e => by have := (o1.lt q hq).1; omega)).weak (base' := w.heap.size) (by omega))
   have HCH := Lib.hid ch
   clear f1 f3 hk hP hF o1 kk ch b2 b4 b5 hn5
   go_wp2_with fail
   exact bodyPost_ret (v := .agg #[.int .i64 it, .slice oa n5 oc, .slice (some ⟨H, 0, none⟩) 0 0]) (by simp [results, Tryz.results117, go_sem, z0, z1, z2]) rfl ⟨_, rfl, ⟨_, _, _, _, rfl, HEND.out.1, HO.out, HEND.out.2.1⟩, HEND.out.2.2⟩
end Go.Proofs.YtdgcohoneijleaaGreatDoor
