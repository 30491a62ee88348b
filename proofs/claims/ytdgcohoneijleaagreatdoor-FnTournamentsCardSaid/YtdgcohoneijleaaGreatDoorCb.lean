import Derived.Test.YtdgcohoneijleaaGreatDoorCa
namespace Go.Proofs.YtdgcohoneijleaaGreatDoor
open Go.RowKit
def TA (base : Nat) (w : World) (v : Value) (t : To) : Prop :=
 ∃ pv pf mf rv, v = .agg #[.int .i64 t.items, pv, rv] ∧ PA base w pv t.ps pf mf ∧ OI base w rv t.reqs ∧ ∀ q, FA pv t.ps.length pf mf q → ¬ own rv q
theorem TA.keep {base : Nat} {w w' : World} {v : Value} {t : To} (h : TA base w v t) (hc : Chg No w w') : TA base w' v t := by
 obtain ⟨pv, pf, mf, rv, h1, h2, h3, h4⟩ := h
 exact ⟨pv, pf, mf, rv, h1, h2.keep hc, h3.keep hc, h4⟩
theorem TA.weak {base base' : Nat} {w : World} {v : Value} {t : To} (h : TA base w v t) (hb : base' ≤ base) : TA base' w v t := by
 obtain ⟨pv, pf, mf, rv, h1, h2, h3, h4⟩ := h
 exact ⟨pv, pf, mf, rv, h1, h2.weak hb, h3.weak hb, h4⟩
theorem TA.rt {base : Nat} {w : World} {v : Value} {t : To} (h : TA base w v t) (hn : t.ps.length ≤ 1048576) {A : Nat → Prop} (hA : ∀ q, base ≤ q → ¬ A q) : RT A w v t := by
 obtain ⟨pv, pf, mf, rv, h1, h2, h3, h4⟩ := h
 exact ⟨_, _, h1, h2.read hn (fun q hq => hA q (h2.inF q hq).1), h3.read (fun q hq => hA q (h3.lt q hq).1)⟩
def Sv (ps : List Pl) (l : List Int) : Prop := ∀ i, i < ps.length → (0 ≤ (ps.getD i dPl).frm ∧ (ps.getD i dPl).frm ≤ l.length) ∧ Ok (newC (ps.getD i dPl).ca.pol (ps.getD i dPl).ca.size)
def againP (ps : List Pl) (l : List Int) : List Pl := ps.map fun x => wantP x l
theorem againP_snoc (ps : List Pl) (l : List Int) (j : Nat) (hj : j < ps.length) : againP (ps.take (j + 1)) l = againP (ps.take j) l ++ [wantP (ps.getD j dPl) l] := by
 unfold againP
 rw [List.take_succ_eq_append_getElem hj, List.map_append, List.getD_eq_getElem?_getD, List.getElem?_eq_getElem hj]; rfl
set_option maxRecDepth 100000 in
set_option maxHeartbeats 4000000 in
theorem again_any (v rv : Value) (t : To) (l : List Int) (w : World) (h : RT No w v t) (hr : RI No w rv l) (hs : Sv t.ps l) :
  Calls Tryz.prog 47 #[v, rv] w (Ret fun r w' => TA w.heap.size w' r ⟨t.items, againP t.ps l, l⟩ ∧ Chg No w w') := by
 obtain ⟨it, ps, rq⟩ := t
 obtain ⟨pv, qv, rfl, hps, hrq⟩ := h
 simp only at hps hrq hs ⊢
 obtain ⟨qa, qn, qc, rfl⟩ := hrq.shape
 obtain ⟨ra, rc, rfl, _⟩ := id hr
 obtain ⟨a, cap, rfl, hcap, hmax, hlen, pf, mf, hl, hcl⟩ := id hps
 have HL := Lib.hid hl
 have HC := Lib.hid hcl
 have HS := Lib.hid hs
 clear hl hcl hs hrq
 go_enter Tryz.func47, Tryz.ntmps47
 go_wp2_with fail
 refine boxes32 (R := fun W => Code.wp _ _ _ _ W) (fun W kk b2 b4 => ?_)
 refine wp_region_K (S := fun W => Box3 W w.heap.size (.int .i64 it) (.slice a ps.length cap) (.slice qa qn qc)) (k := 6) (by kernel_rfl) ?_
 replace kk := kk.keep (drewN0 _)
 replace b2 := b2.keep (drewN0 _)
 replace b4 := b4.keep (drewN0 _)
 generalize W.drew = WR at kk b2 b4 ⊢
 have hS := b2
 refine wpAnyK_take0 0 (.pointer (some ⟨w.heap.size, 0, none⟩)) rfl (by kernel_rfl) (fun _ _ _ h => h) hS rfl (by intro w; go_simp) ?_
 simp only [zA, zC, zD, zE, zF, zG]
 refine wpAnyK_take 1 (.int .i64 it) rfl (by kernel_rfl) (fun _ _ _ h => h) hS rfl (by rintro w ⟨c0, c1, c2, fr⟩; go_simp) ?_
 simp only [zA, zB, zC, zD, zE, zF, zG]
 refine wpAnyK_take0 2 (.slice ra l.length rc) rfl (by kernel_rfl) (fun _ _ _ h => h) hS rfl (by intro w; go_simp) ?_
 simp only [zA, zB, zC, zD, zE, zF, zG]
 have hl3 := b4.lt
 refine wpAnyK_2 3 5 (by kernel_rfl) (wpOpK' rfl rfl ?_) (wpOpK' rfl rfl ?_)
 ·intro K hK
  refine ocall (f := 90) (args := #[.slice ra l.length rc]) (by go_simp) (Clone_any No _ l WR (hr.keep kk)) (fun v1 w1 h1 => hK.out _ _ (b2.keep h1.2) ?_)
  obtain ⟨o1, k1⟩ := h1
  clear hK K
  simp only [zA, zB, zC, zD, zE, zF, zG]
  have hsz := kk.size
  replace kk := kk.keep k1
  replace b2 := b2.keep k1
  replace b4 := b4.keep k1
  obtain ⟨za, zn, zc, rfl⟩ := o1.shape
  clear hS
  have hS := b2
  refine wpAnyK_take0 4 (.agg #[.int .i64 it, .slice none 0 0, .slice za zn zc]) rfl (by kernel_rfl) (fun _ _ _ h => h) hS rfl (by intro w; go_simp) ?_
  simp only [zA, zB, zC, zD, zE, zF, zG]
  refine wpAnyK_1 5 (by kernel_rfl) (wpOpK' rfl rfl ?_)
  intro K hK
  unfold Oper.wp execOp
  go_simp
  have k5 := (Chg.refl No w1).alloc (.cells #[.int .i64 0, .slice none 0 0, .slice none 0 0] 31)
  refine hK.out _ _ (b2.keep k5) ?_
  clear hK K
  simp only [zE]
  have b5 := Box3.new w1 (.int .i64 0) (.slice none 0 0) (.slice none 0 0) 31
  replace kk := kk.keep k5
  replace b2 := b2.keep k5
  have hl4 := b4.lt
  replace b4 := b4.keep k5
  have hne : ∀ q, own (.slice za zn zc) q → q ≠ w1.heap.size := fun q hq e => by have := (o1.lt q hq).2; omega
  replace o1 := (o1.keep k5).weak (base' := w.heap.size + 2) (by omega)
  refine wpAnyK_tail 6 rfl (by kernel_rfl) ?_
  simp only [List.drop_succ_cons, List.drop_zero]
  obtain ⟨B5, hB5⟩ : ∃ B5, w1.heap.size = B5 := ⟨_, rfl⟩
  have hB4 : w.heap.size + 1 < B5 := by omega
  generalize w1.alloc (.cells #[.int .i64 0, .slice none 0 0, .slice none 0 0] 31) = W5 at b5 b2 b4 kk o1 ⊢
  rw [hB5] at b5 hne ⊢
  clear k5 hsz hl4 hS hB5
  have bN := ((b5.set0 (.int .i64 it)).set1 (.slice none 0 0)).set2 (.slice za zn zc)
  have cN : Chg (fun q => q = B5) W5 (((W5.setCell ⟨B5, 0, none⟩ (.int .i64 it)).setCell ⟨B5, 1, none⟩ (.slice none 0 0)).setCell ⟨B5, 2, none⟩ (.slice za zn zc)) :=
   (((Chg.refl (fun q => q = B5) W5).setCell (p := ⟨B5, 0, none⟩) (fun _ => rfl) _).setCell (p := ⟨B5, 1, none⟩) (fun _ => rfl) _).setCell (p := ⟨B5, 2, none⟩) (fun _ => rfl) _
  have hb50 := b5.c0
  have hb51 := b5.c1
  have hb52 := b5.c2
  have hb53 := b5.fr
  replace kk := kk.step cN (fun q hq hl => by omega)
  replace b2 := b2.step cN (by omega)
  replace b4 := b4.step cN (by omega)
  replace o1 := o1.step cN hne
  clear cN b5
  obtain ⟨c0, c1, c2, _⟩ := id b2
  go_wp2_with fail
  clear c0 c1 c2 hb50 hb51 hb52 hb53
  generalize (((W5.setCell ⟨B5, 0, none⟩ (.int .i64 it)).setCell ⟨B5, 1, none⟩ (.slice none 0 0)).setCell ⟨B5, 2, none⟩ (.slice za zn zc)) = W9 at bN kk b2 b4 o1 ⊢
  obtain ⟨base, hbase⟩ : ∃ base, W9.heap.size = base := ⟨_, rfl⟩
  have hB5b : B5 < base := hbase ▸ bN.lt
  have hcl : ∀ q, own (.slice za zn zc) q → q < base := fun q hq => hbase ▸ (o1.lt q hq).2
  have hp0 : PA base W9 (.slice none 0 0) (againP (ps.take 0) l) pf mf := by
   rw [List.take_zero]; exact PA.nil base W9 (OS.nil _ _ _ _) pf mf
  go_loopw [16] (fun z wr => ∃ (j : Nat) (ov : Value) (pg mg : Nat → Value), j ≤ ps.length ∧ z = .int .i64 (j : Int) ∧ Chg No w wr ∧ base ≤ wr.heap.size ∧ Box3 wr w.heap.size (.int .i64 it) (.slice a ps.length cap) (.slice qa qn qc) ∧ Box3 wr (w.heap.size + 1) (.int .i64 0) (.slice none 0 0) (.slice none 0 0) ∧
    Box3 wr B5 (.int .i64 it) ov (.slice za zn zc) ∧ PA base wr ov (againP (ps.take j) l) pg mg ∧ OI (w.heap.size + 2) wr (.slice za zn zc) l) (fun z _ => ps.length - (intOf z).toNat)
  case atStart => exact ⟨0, _, _, _, Nat.zero_le _, rfl, kk, by omega, b2, b4, bN, hp0, o1⟩
  case round =>
   clear kk b2 b4 bN hp0 o1 hbase
   obtain ⟨j, ov, pg, mg, hj, rfl, kk, hbw, b2, b4, b5, hP, o1⟩ := hrel
   have hj0 : (0 : Int) ≤ (j : Int) := Int.natCast_nonneg _
   by_cases hlt : j < ps.length
   ·obtain ⟨b, off, rfl, _, hb, hcell⟩ := HC.out (by intro e; simp [e] at hlt)
    have h7 := (hcell j hlt).step kk hb (fun e => e)
    obtain ⟨hpj, hmj⟩ := HL.out j hlt
    obtain ⟨⟨hfr1, hfr2⟩, hok⟩ := HS.out j hlt
    have hsn := againP_snoc ps l j hlt
    have hlg : (againP (ps.take j) l).length = j := by unfold againP; rw [List.length_map, List.length_take]; omega
    obtain ⟨y, hy⟩ : ∃ y, ps.getD j dPl = y := ⟨_, rfl⟩
    rw [hy] at h7 hpj hmj hfr1 hfr2 hok hsn
    obtain ⟨xs, hx, hrx⟩ := hr.from y.frm.toNat y.frm (by omega) (by omega)
    obtain ⟨xa, xn, xc, rfl⟩ := hrx.shape
    generalize pf j = pj at hpj h7
    generalize mf j = mj at hmj h7
    obtain ⟨ya, yn, yc, rfl⟩ := hpj.shape
    obtain ⟨ua, un, uc, rfl⟩ := hmj.shape
    obtain ⟨R0, hR0⟩ : ∃ R0, againP (ps.take j) l = R0 := ⟨_, rfl⟩
    rw [hR0] at hsn hP hlg
    obtain ⟨oa, oc, rfl, _⟩ := hP.os.view
    rw [hlg] at hP b5
    have HSN := Lib.hid hsn
    have HOK := Lib.hid hok
    have HRX := Lib.hid hrx
    have hj1 : (j : Int) < (ps.length : Int) := by omega
    have hwj : IntKind.i64.wrap ((j : Int) + 1) = (j : Int) + 1 := IntWalk.i64_in _ (by omega)
    obtain ⟨g0, g1, g2, g3, g4, g5, g6⟩ := id h7
    clear h7 hcell hy hsn hpj hmj hok hrx hR0
    go_wp2_with fail
    clear g0 g1 g2 g3 g4 g5 g6
    have bp := Box7.new wr (.int .i64 y.frm) (.int .i64 y.ca.pol) (.int .i64 y.ca.size) (.slice ya yn yc) (.slice ua un uc) (.int .i64 y.ca.hand) (.int .i64 y.fa) 68
    have kp := (Chg.refl No wr).alloc (.cells #[.int .i64 y.frm, .int .i64 y.ca.pol, .int .i64 y.ca.size, .slice ya yn yc, .slice ua un uc, .int .i64 y.ca.hand, .int .i64 y.fa] 68)
    obtain ⟨B7, hB7⟩ : ∃ B7, wr.heap.size = B7 := ⟨_, rfl⟩
    rw [hB7] at bp
    have hB57 : B5 < B7 := hB7 ▸ b5.lt
    have hown : ∀ q, own (.slice oa j oc) q → q < B7 := fun q hq => hB7 ▸ (hP.os.lt q hq).2
    rw [hB7] at hbw
    generalize wr.alloc (.cells #[.int .i64 y.frm, .int .i64 y.ca.pol, .int .i64 y.ca.size, .slice ya yn yc, .slice ua un uc, .int .i64 y.ca.hand, .int .i64 y.fa] 68) = W2 at bp kp ⊢
    replace kk := kk.keep kp
    replace b2 := b2.keep kp
    replace b4 := b4.keep kp
    replace b5 := b5.keep kp
    replace hP := hP.keep kp
    replace o1 := o1.keep kp
    rw [hB7]
    clear kp hB7
    refine wp_region_K (S := fun W => W.cell? ⟨B5, 1, none⟩ = some (.slice oa j oc) ∧ W.cell? ⟨B7, 0, none⟩ = some (.int .i64 y.frm) ∧ W.cell? ⟨B7, 1, none⟩ = some (.int .i64 y.ca.pol) ∧ W.cell? ⟨B7, 2, none⟩ = some (.int .i64 y.ca.size)) (k := 16) (by kernel_rfl) ?_
    replace kk := kk.keep (drewN0 _)
    replace b2 := b2.keep (drewN0 _)
    replace b4 := b4.keep (drewN0 _)
    replace b5 := b5.keep (drewN0 _)
    replace hP := hP.keep (drewN0 _)
    replace o1 := o1.keep (drewN0 _)
    replace bp := bp.keep (drewN0 _)
    generalize W2.drew = WR at kk b2 b4 b5 hP o1 bp ⊢
    have hS : WR.cell? ⟨B5, 1, none⟩ = some (.slice oa j oc) ∧ WR.cell? ⟨B7, 0, none⟩ = some (.int .i64 y.frm) ∧ WR.cell? ⟨B7, 1, none⟩ = some (.int .i64 y.ca.pol) ∧ WR.cell? ⟨B7, 2, none⟩ = some (.int .i64 y.ca.size) := ⟨b5.c1, bp.c0, bp.c1, bp.c2⟩
    refine wpAnyK_take0 0 (.pointer (some ⟨B5, 1, none⟩)) rfl (by kernel_rfl) (fun _ _ _ h => h) hS rfl (by intro w; go_simp) ?_
    simp only [zA, zC, zD, zE, zF, zG]
    refine wpAnyK_takeT 1 (.slice oa j oc) rfl (by kernel_rfl) (fun _ _ _ h => h) hS rfl (by intro w hSw; go_simp) ?_
    simp only [zA, zB, zC, zD, zE, zF, zG]
    refine wpAnyK_take0 2 (.pointer (some ⟨B7, 0, none⟩)) rfl (by kernel_rfl) (fun _ _ _ h => h) hS rfl (by intro w; go_simp) ?_
    simp only [zA, zB, zC, zD, zE, zF, zG]
    refine wpAnyK_takeT 3 (.int .i64 y.frm) rfl (by kernel_rfl) (fun _ _ _ h => h) hS rfl (by intro w hSw; go_simp) ?_
    simp only [zA, zB, zC, zD, zE, zF, zG]
    refine wpAnyK_take0 4 (.pointer (some ⟨B7, 1, none⟩)) rfl (by kernel_rfl) (fun _ _ _ h => h) hS rfl (by intro w; go_simp) ?_
    simp only [zA, zB, zC, zD, zE, zF, zG]
    refine wpAnyK_take0 5 (.pointer (some ⟨B7, 1, none⟩)) rfl (by kernel_rfl) (fun _ _ _ h => h) hS rfl (by intro w; go_simp) ?_
    simp only [zA, zB, zC, zD, zE, zF, zG]
    refine wpAnyK_takeT 6 (.int .i64 y.ca.pol) rfl (by kernel_rfl) (fun _ _ _ h => h) hS rfl (by intro w hSw; go_simp) ?_
    simp only [zA, zB, zC, zD, zE, zF, zG]
    refine wpAnyK_take0 7 (.pointer (some ⟨B7, 1, none⟩)) rfl (by kernel_rfl) (fun _ _ _ h => h) hS rfl (by intro w; go_simp) ?_
    simp only [zA, zB, zC, zD, zE, zF, zG]
    refine wpAnyK_take0 8 (.pointer (some ⟨B7, 2, none⟩)) rfl (by kernel_rfl) (fun _ _ _ h => h) hS rfl (by intro w; go_simp) ?_
    simp only [zA, zB, zC, zD, zE, zF, zG]
    refine wpAnyK_takeT 9 (.int .i64 y.ca.size) rfl (by kernel_rfl) (fun _ _ _ h => h) hS rfl (by intro w hSw; go_simp) ?_
    simp only [zA, zB, zC, zD, zE, zF, zG]
    refine wpAnyK_take0 10 (.slice ra l.length rc) rfl (by kernel_rfl) (fun _ _ _ h => h) hS rfl (by intro w; go_simp) ?_
    simp only [zA, zB, zC, zD, zE, zF, zG]
    refine wpAnyK_take0 11 (.pointer (some ⟨B7, 0, none⟩)) rfl (by kernel_rfl) (fun _ _ _ h => h) hS rfl (by intro w; go_simp) ?_
    simp only [zA, zB, zC, zD, zE, zF, zG]
    refine wpAnyK_takeT 12 (.int .i64 y.frm) rfl (by kernel_rfl) (fun _ _ _ h => h) hS rfl (by intro w hSw; go_simp) ?_
    simp only [zA, zB, zC, zD, zE, zF, zG]
    refine wpAnyK_take0 13 (.slice xa xn xc) rfl (by kernel_rfl) (fun _ _ _ h => h) hS rfl (by intro w; go_simp) ?_
    simp only [zA, zB, zC, zD, zE, zF, zG]
    refine wpAnyK_1 14 (by kernel_rfl) (wpOpK' rfl rfl ?_)
    intro K hK
    refine ocall (f := 58) (args := #[.int .i64 y.frm, .int .i64 y.ca.pol, .int .i64 y.ca.size, .slice xa xn xc]) (by go_simp) (playerOf_any y.frm y.ca.pol y.ca.size _ _ WR (HRX.out.keep kk) HOK.out) (fun v8 w8 h8 => hK.out _ _ ⟨(b5.keep h8.2).c1, (bp.keep h8.2).c0, (bp.keep h8.2).c1, (bp.keep h8.2).c2⟩ ?_)
    obtain ⟨⟨pv, mv, rfl, op, om, oap⟩, k8⟩ := h8
    clear hK K hS
    simp only [zA, zB, zC, zD, zE, zF, zG]
    have hsz := kk.size
    have hszR := b5.lt
    have hWR : base ≤ WR.heap.size := by have := bp.lt; omega
    replace kk := kk.keep k8
    replace b2 := b2.keep k8
    replace b4 := b4.keep k8
    replace b5 := b5.keep k8
    replace bp := bp.keep k8
    replace o1 := o1.keep k8
    have hPos := hP.os.keep k8
    obtain ⟨x1, x2, x3, rfl⟩ := op.shape
    obtain ⟨x4, x5, x6, rfl⟩ := om.shape
    obtain ⟨X, hX⟩ : ∃ X, servedP y.frm y.ca.pol y.ca.size (List.drop y.frm.toNat l) = X := ⟨_, rfl⟩
    have hsn2 : againP (ps.take (j + 1)) l = R0 ++ [X] := by rw [HSN.out]; unfold wantP; rw [hX]
    rw [hX] at op om ⊢
    have HSN2 := Lib.hid hsn2
    clear hX hsn2
    refine wpAnyK_1 15 (by kernel_rfl) (wpOpK' rfl rfl ?_)
    intro K hK
    unfold Oper.wp execOp
    go_simp
    have ka := (Chg.refl No w8).alloc (.cells #[.int .i64 X.frm, .int .i64 X.ca.pol, .int .i64 X.ca.size, .slice x1 x2 x3, .slice x4 x5 x6, .int .i64 X.ca.hand, .int .i64 X.fa] 68)
    refine hK.out _ _ ⟨(b5.keep ka).c1, (bp.keep ka).c0, (bp.keep ka).c1, (bp.keep ka).c2⟩ ?_
    clear hK K ka
    simp only [zE]
    refine wpAnyK_tail 16 rfl (by kernel_rfl) ?_
    simp only [List.drop_succ_cons, List.drop_zero]
    have hs8 := k8.size
    have hgeq : ∀ q, own (.slice oa j oc) q → base ≤ q := fun q hq => (hP.os.lt q hq).1
    go_wp2_with (at_builtin; refine wappS1 elPlayers (by omega) rfl (.tmp 21) (.tmp 35) rfl hPos rfl (by simp [Value.oneCell']) rfl rfl (by omega) (by omega) ?_)
    intro v' wN oN kN hnN
    rw [← hlg] at oN
    have HPN := Lib.hid (hP.snoc hWR k8 op om oap oN kN hnN)
    have HBN := Lib.hid (oN.lt)
    replace kk := kk.step kN (fun q hq hl => by have := hgeq q hq; omega)
    replace b2 := b2.step kN (fun hq => by have := hgeq _ hq; omega)
    replace b4 := b4.step kN (fun hq => by have := hgeq _ hq; omega)
    replace b5 := b5.step kN (fun hq => by have := hgeq _ hq; omega)
    replace o1 := o1.step kN (fun q hq hq' => by have := hgeq _ hq'; have := hcl q hq; omega)
    obtain ⟨na, nc, rfl, _⟩ := oN.view
    have hszN := kN.size
    have cN : Chg (fun q => q = B5) wN (wN.setCell ⟨B5, 1, none⟩ (.slice na (R0.length + 1) nc)) := (Chg.refl (fun q => q = B5) wN).setCell (p := ⟨B5, 1, none⟩) (fun _ => rfl) _
    have HEND := Lib.hid (And.intro (kk.step cN (fun q hq hl => by omega)) (And.intro (b2.step cN (by omega)) (And.intro (b4.step cN (by omega)) (And.intro (b5.set1 (.slice na (R0.length + 1) nc)) (And.intro (HPN.out.step cN (fun q hq e => by have := (HPN.out.inF q hq).1; omega)) (And.intro (o1.step cN hne) cN.size))))))
    have hb51 := b5.c1
    have hb53 := b5.fr 1
    clear kk b2 b4 b5 hP hPos o1 oN kN hnN HPN cN k8 op om bp hgeq hlg
    go_wp2_with fail
    go_round
    case measure => simp [intOf]; omega
    case rel =>
     obtain ⟨e1, e2, e3, e4, e5, e6, e7⟩ := HEND.out
     exact ⟨j + 1, _, _, _, by omega, by go_num, e1, by omega, e2, e3, e4, by rw [HSN2.out]; exact e5, e6⟩
   ·have hje : j = ps.length := by omega
    subst hje
    rw [List.take_length] at hP
    obtain ⟨oa, oc, rfl, _⟩ := hP.os.view
    obtain ⟨n5, hn5⟩ : ∃ n5, (againP ps l).length = n5 := ⟨_, rfl⟩
    rw [hn5] at hP b5
    clear HL HC HS
    obtain ⟨d0, d1, d2, _⟩ := id b5
    obtain ⟨c0, c1, c2, cf⟩ := id b4
    have cf0 := cf 0
    have cf1 := cf 1
    have cf2 := cf 2
    clear cf
    obtain ⟨z0, z1, z2, _⟩ := ((b4.set0 (.int .i64 it)).set1 (.slice oa n5 oc)).set2 (.slice za zn zc)
    have ch : Chg (fun q => q = w.heap.size + 1) wr (((wr.setCell ⟨w.heap.size + 1, 0, none⟩ (.int .i64 it)).setCell ⟨w.heap.size + 1, 1, none⟩ (.slice oa n5 oc)).setCell ⟨w.heap.size + 1, 2, none⟩ (.slice za zn zc)) :=
     (((Chg.refl (fun q => q = w.heap.size + 1) wr).setCell (p := ⟨w.heap.size + 1, 0, none⟩) (fun _ => rfl) _).setCell (p := ⟨w.heap.size + 1, 1, none⟩) (fun _ => rfl) _).setCell (p := ⟨w.heap.size + 1, 2, none⟩) (fun _ => rfl) _
    have f1 := (hP.step ch (fun q hq e => by have := (hP.inF q hq).1; omega)).weak (base' := w.heap.size) (by omega)
    have f3 : ∀ q, FA (.slice oa n5 oc) (againP ps l).length pg mg q → ¬ own (.slice za zn zc) q := fun q hq e => by
     have := (hP.inF q hq).1
     have := hcl q e
     omega
    have hk := kk.step ch (fun q hq hl => by omega)
    have HEND := Lib.hid (And.intro f1 (And.intro f3 hk))
    have HO := Lib.hid ((o1.step ch (fun q hq e => by have := (o1.lt q hq).1; omega)).weak (base' := w.heap.size) (by omega))
    have HCH := Lib.hid ch
    clear f1 f3 hk hP o1 kk ch b2 b4 b5 hn5
    go_wp2_with fail
    exact bodyPost_ret (v := .agg #[.int .i64 it, .slice oa n5 oc, .slice za zn zc]) (by simp [results, Tryz.results47, go_sem, z0, z1, z2]) rfl ⟨_, rfl, ⟨_, _, _, _, rfl, HEND.out.1, HO.out, HEND.out.2.1⟩, HEND.out.2.2⟩
 ·intro K hK
  unfold Oper.wp execOp
  go_simp
  have k5 := (Chg.refl No WR).alloc (.cells #[.int .i64 0, .slice none 0 0, .slice none 0 0] 31)
  refine hK.out _ _ (b2.keep k5) ?_
  clear hK K hS
  simp only [zE]
  have b5 := Box3.new WR (.int .i64 0) (.slice none 0 0) (.slice none 0 0) 31
  have hsz := kk.size
  have hl4 := b4.lt
  replace kk := kk.keep k5
  replace b2 := b2.keep k5
  replace b4 := b4.keep k5
  obtain ⟨B5, hB5⟩ : ∃ B5, WR.heap.size = B5 := ⟨_, rfl⟩
  have hB4 : w.heap.size + 1 < B5 := by omega
  have hB6 : B5 < (WR.alloc (.cells #[.int .i64 0, .slice none 0 0, .slice none 0 0] 31)).heap.size := by simp; omega
  generalize WR.alloc (.cells #[.int .i64 0, .slice none 0 0, .slice none 0 0] 31) = W4 at b5 b2 b4 kk hB6 ⊢
  rw [hB5] at b5 ⊢
  clear k5 hsz hl4 hB5
  refine wpAnyK_1 3 (by kernel_rfl) (wpOpK' rfl rfl ?_)
  intro K hK
  refine ocall (f := 90) (args := #[.slice ra l.length rc]) (by go_simp) (Clone_any No _ l W4 (hr.keep kk)) (fun v1 W5 h1 => hK.out _ _ (b2.keep h1.2) ?_)
  obtain ⟨o1, k1⟩ := h1
  clear hK K
  simp only [zA, zB, zC, zD, zE, zF, zG]
  replace kk := kk.keep k1
  replace b2 := b2.keep k1
  replace b4 := b4.keep k1
  replace b5 := b5.keep k1
  obtain ⟨za, zn, zc, rfl⟩ := o1.shape
  have hS := b2
  refine wpAnyK_take0 4 (.agg #[.int .i64 it, .slice none 0 0, .slice za zn zc]) rfl (by kernel_rfl) (fun _ _ _ h => h) hS rfl (by intro w; go_simp) ?_
  simp only [zA, zB, zC, zD, zE, zF, zG]
  have hne : ∀ q, own (.slice za zn zc) q → q ≠ B5 := fun q hq e => by have := (o1.lt q hq).1; omega
  replace o1 := o1.weak (base' := w.heap.size + 2) (by omega)
  refine wpAnyK_tail 6 rfl (by kernel_rfl) ?_
  simp only [List.drop_succ_cons, List.drop_zero]
  clear hS k1 hB6
  have bN := ((b5.set0 (.int .i64 it)).set1 (.slice none 0 0)).set2 (.slice za zn zc)
  have cN : Chg (fun q => q = B5) W5 (((W5.setCell ⟨B5, 0, none⟩ (.int .i64 it)).setCell ⟨B5, 1, none⟩ (.slice none 0 0)).setCell ⟨B5, 2, none⟩ (.slice za zn zc)) :=
   (((Chg.refl (fun q => q = B5) W5).setCell (p := ⟨B5, 0, none⟩) (fun _ => rfl) _).setCell (p := ⟨B5, 1, none⟩) (fun _ => rfl) _).setCell (p := ⟨B5, 2, none⟩) (fun _ => rfl) _
  have hb50 := b5.c0
  have hb51 := b5.c1
  have hb52 := b5.c2
  have hb53 := b5.fr
  replace kk := kk.step cN (fun q hq hl => by omega)
  replace b2 := b2.step cN (by omega)
  replace b4 := b4.step cN (by omega)
  replace o1 := o1.step cN hne
  clear cN b5
  obtain ⟨c0, c1, c2, _⟩ := id b2
  go_wp2_with fail
  clear c0 c1 c2 hb50 hb51 hb52 hb53
  generalize (((W5.setCell ⟨B5, 0, none⟩ (.int .i64 it)).setCell ⟨B5, 1, none⟩ (.slice none 0 0)).setCell ⟨B5, 2, none⟩ (.slice za zn zc)) = W9 at bN kk b2 b4 o1 ⊢
  obtain ⟨base, hbase⟩ : ∃ base, W9.heap.size = base := ⟨_, rfl⟩
  have hB5b : B5 < base := hbase ▸ bN.lt
  have hcl : ∀ q, own (.slice za zn zc) q → q < base := fun q hq => hbase ▸ (o1.lt q hq).2
  have hp0 : PA base W9 (.slice none 0 0) (againP (ps.take 0) l) pf mf := by
   rw [List.take_zero]; exact PA.nil base W9 (OS.nil _ _ _ _) pf mf
  go_loopw [16] (fun z wr => ∃ (j : Nat) (ov : Value) (pg mg : Nat → Value), j ≤ ps.length ∧ z = .int .i64 (j : Int) ∧ Chg No w wr ∧ base ≤ wr.heap.size ∧ Box3 wr w.heap.size (.int .i64 it) (.slice a ps.length cap) (.slice qa qn qc) ∧ Box3 wr (w.heap.size + 1) (.int .i64 0) (.slice none 0 0) (.slice none 0 0) ∧
    Box3 wr B5 (.int .i64 it) ov (.slice za zn zc) ∧ PA base wr ov (againP (ps.take j) l) pg mg ∧ OI (w.heap.size + 2) wr (.slice za zn zc) l) (fun z _ => ps.length - (intOf z).toNat)
  case atStart => exact ⟨0, _, _, _, Nat.zero_le _, rfl, kk, by omega, b2, b4, bN, hp0, o1⟩
  case round =>
   clear kk b2 b4 bN hp0 o1 hbase
   obtain ⟨j, ov, pg, mg, hj, rfl, kk, hbw, b2, b4, b5, hP, o1⟩ := hrel
   have hj0 : (0 : Int) ≤ (j : Int) := Int.natCast_nonneg _
   by_cases hlt : j < ps.length
   ·obtain ⟨b, off, rfl, _, hb, hcell⟩ := HC.out (by intro e; simp [e] at hlt)
    have h7 := (hcell j hlt).step kk hb (fun e => e)
    obtain ⟨hpj, hmj⟩ := HL.out j hlt
    obtain ⟨⟨hfr1, hfr2⟩, hok⟩ := HS.out j hlt
    have hsn := againP_snoc ps l j hlt
    have hlg : (againP (ps.take j) l).length = j := by unfold againP; rw [List.length_map, List.length_take]; omega
    obtain ⟨y, hy⟩ : ∃ y, ps.getD j dPl = y := ⟨_, rfl⟩
    rw [hy] at h7 hpj hmj hfr1 hfr2 hok hsn
    obtain ⟨xs, hx, hrx⟩ := hr.from y.frm.toNat y.frm (by omega) (by omega)
    obtain ⟨xa, xn, xc, rfl⟩ := hrx.shape
    generalize pf j = pj at hpj h7
    generalize mf j = mj at hmj h7
    obtain ⟨ya, yn, yc, rfl⟩ := hpj.shape
    obtain ⟨ua, un, uc, rfl⟩ := hmj.shape
    obtain ⟨R0, hR0⟩ : ∃ R0, againP (ps.take j) l = R0 := ⟨_, rfl⟩
    rw [hR0] at hsn hP hlg
    obtain ⟨oa, oc, rfl, _⟩ := hP.os.view
    rw [hlg] at hP b5
    have HSN := Lib.hid hsn
    have HOK := Lib.hid hok
    have HRX := Lib.hid hrx
    have hj1 : (j : Int) < (ps.length : Int) := by omega
    have hwj : IntKind.i64.wrap ((j : Int) + 1) = (j : Int) + 1 := IntWalk.i64_in _ (by omega)
    obtain ⟨g0, g1, g2, g3, g4, g5, g6⟩ := id h7
    clear h7 hcell hy hsn hpj hmj hok hrx hR0
    go_wp2_with fail
    clear g0 g1 g2 g3 g4 g5 g6
    have bp := Box7.new wr (.int .i64 y.frm) (.int .i64 y.ca.pol) (.int .i64 y.ca.size) (.slice ya yn yc) (.slice ua un uc) (.int .i64 y.ca.hand) (.int .i64 y.fa) 68
    have kp := (Chg.refl No wr).alloc (.cells #[.int .i64 y.frm, .int .i64 y.ca.pol, .int .i64 y.ca.size, .slice ya yn yc, .slice ua un uc, .int .i64 y.ca.hand, .int .i64 y.fa] 68)
    obtain ⟨B7, hB7⟩ : ∃ B7, wr.heap.size = B7 := ⟨_, rfl⟩
    rw [hB7] at bp
    have hB57 : B5 < B7 := hB7 ▸ b5.lt
    have hown : ∀ q, own (.slice oa j oc) q → q < B7 := fun q hq => hB7 ▸ (hP.os.lt q hq).2
    rw [hB7] at hbw
    generalize wr.alloc (.cells #[.int .i64 y.frm, .int .i64 y.ca.pol, .int .i64 y.ca.size, .slice ya yn yc, .slice ua un uc, .int .i64 y.ca.hand, .int .i64 y.fa] 68) = W2 at bp kp ⊢
    replace kk := kk.keep kp
    replace b2 := b2.keep kp
    replace b4 := b4.keep kp
    replace b5 := b5.keep kp
    replace hP := hP.keep kp
    replace o1 := o1.keep kp
    rw [hB7]
    clear kp hB7
    refine wp_region_K (S := fun W => W.cell? ⟨B5, 1, none⟩ = some (.slice oa j oc) ∧ W.cell? ⟨B7, 0, none⟩ = some (.int .i64 y.frm) ∧ W.cell? ⟨B7, 1, none⟩ = some (.int .i64 y.ca.pol) ∧ W.cell? ⟨B7, 2, none⟩ = some (.int .i64 y.ca.size)) (k := 16) (by kernel_rfl) ?_
    replace kk := kk.keep (drewN0 _)
    replace b2 := b2.keep (drewN0 _)
    replace b4 := b4.keep (drewN0 _)
    replace b5 := b5.keep (drewN0 _)
    replace hP := hP.keep (drewN0 _)
    replace o1 := o1.keep (drewN0 _)
    replace bp := bp.keep (drewN0 _)
    generalize W2.drew = WR at kk b2 b4 b5 hP o1 bp ⊢
    have hS : WR.cell? ⟨B5, 1, none⟩ = some (.slice oa j oc) ∧ WR.cell? ⟨B7, 0, none⟩ = some (.int .i64 y.frm) ∧ WR.cell? ⟨B7, 1, none⟩ = some (.int .i64 y.ca.pol) ∧ WR.cell? ⟨B7, 2, none⟩ = some (.int .i64 y.ca.size) := ⟨b5.c1, bp.c0, bp.c1, bp.c2⟩
    refine wpAnyK_take0 0 (.pointer (some ⟨B5, 1, none⟩)) rfl (by kernel_rfl) (fun _ _ _ h => h) hS rfl (by intro w; go_simp) ?_
    simp only [zA, zC, zD, zE, zF, zG]
    refine wpAnyK_takeT 1 (.slice oa j oc) rfl (by kernel_rfl) (fun _ _ _ h => h) hS rfl (by intro w hSw; go_simp) ?_
    simp only [zA, zB, zC, zD, zE, zF, zG]
    refine wpAnyK_take0 2 (.pointer (some ⟨B7, 0, none⟩)) rfl (by kernel_rfl) (fun _ _ _ h => h) hS rfl (by intro w; go_simp) ?_
    simp only [zA, zB, zC, zD, zE, zF, zG]
    refine wpAnyK_takeT 3 (.int .i64 y.frm) rfl (by kernel_rfl) (fun _ _ _ h => h) hS rfl (by intro w hSw; go_simp) ?_
    simp only [zA, zB, zC, zD, zE, zF, zG]
    refine wpAnyK_take0 4 (.pointer (some ⟨B7, 1, none⟩)) rfl (by kernel_rfl) (fun _ _ _ h => h) hS rfl (by intro w; go_simp) ?_
    simp only [zA, zB, zC, zD, zE, zF, zG]
    refine wpAnyK_take0 5 (.pointer (some ⟨B7, 1, none⟩)) rfl (by kernel_rfl) (fun _ _ _ h => h) hS rfl (by intro w; go_simp) ?_
    simp only [zA, zB, zC, zD, zE, zF, zG]
    refine wpAnyK_takeT 6 (.int .i64 y.ca.pol) rfl (by kernel_rfl) (fun _ _ _ h => h) hS rfl (by intro w hSw; go_simp) ?_
    simp only [zA, zB, zC, zD, zE, zF, zG]
    refine wpAnyK_take0 7 (.pointer (some ⟨B7, 1, none⟩)) rfl (by kernel_rfl) (fun _ _ _ h => h) hS rfl (by intro w; go_simp) ?_
    simp only [zA, zB, zC, zD, zE, zF, zG]
    refine wpAnyK_take0 8 (.pointer (some ⟨B7, 2, none⟩)) rfl (by kernel_rfl) (fun _ _ _ h => h) hS rfl (by intro w; go_simp) ?_
    simp only [zA, zB, zC, zD, zE, zF, zG]
    refine wpAnyK_takeT 9 (.int .i64 y.ca.size) rfl (by kernel_rfl) (fun _ _ _ h => h) hS rfl (by intro w hSw; go_simp) ?_
    simp only [zA, zB, zC, zD, zE, zF, zG]
    refine wpAnyK_take0 10 (.slice ra l.length rc) rfl (by kernel_rfl) (fun _ _ _ h => h) hS rfl (by intro w; go_simp) ?_
    simp only [zA, zB, zC, zD, zE, zF, zG]
    refine wpAnyK_take0 11 (.pointer (some ⟨B7, 0, none⟩)) rfl (by kernel_rfl) (fun _ _ _ h => h) hS rfl (by intro w; go_simp) ?_
    simp only [zA, zB, zC, zD, zE, zF, zG]
    refine wpAnyK_takeT 12 (.int .i64 y.frm) rfl (by kernel_rfl) (fun _ _ _ h => h) hS rfl (by intro w hSw; go_simp) ?_
    simp only [zA, zB, zC, zD, zE, zF, zG]
    refine wpAnyK_take0 13 (.slice xa xn xc) rfl (by kernel_rfl) (fun _ _ _ h => h) hS rfl (by intro w; go_simp) ?_
    simp only [zA, zB, zC, zD, zE, zF, zG]
    refine wpAnyK_1 14 (by kernel_rfl) (wpOpK' rfl rfl ?_)
    intro K hK
    refine ocall (f := 58) (args := #[.int .i64 y.frm, .int .i64 y.ca.pol, .int .i64 y.ca.size, .slice xa xn xc]) (by go_simp) (playerOf_any y.frm y.ca.pol y.ca.size _ _ WR (HRX.out.keep kk) HOK.out) (fun v8 w8 h8 => hK.out _ _ ⟨(b5.keep h8.2).c1, (bp.keep h8.2).c0, (bp.keep h8.2).c1, (bp.keep h8.2).c2⟩ ?_)
    obtain ⟨⟨pv, mv, rfl, op, om, oap⟩, k8⟩ := h8
    clear hK K hS
    simp only [zA, zB, zC, zD, zE, zF, zG]
    have hsz := kk.size
    have hszR := b5.lt
    have hWR : base ≤ WR.heap.size := by have := bp.lt; omega
    replace kk := kk.keep k8
    replace b2 := b2.keep k8
    replace b4 := b4.keep k8
    replace b5 := b5.keep k8
    replace bp := bp.keep k8
    replace o1 := o1.keep k8
    have hPos := hP.os.keep k8
    obtain ⟨x1, x2, x3, rfl⟩ := op.shape
    obtain ⟨x4, x5, x6, rfl⟩ := om.shape
    obtain ⟨X, hX⟩ : ∃ X, servedP y.frm y.ca.pol y.ca.size (List.drop y.frm.toNat l) = X := ⟨_, rfl⟩
    have hsn2 : againP (ps.take (j + 1)) l = R0 ++ [X] := by rw [HSN.out]; unfold wantP; rw [hX]
    rw [hX] at op om ⊢
    have HSN2 := Lib.hid hsn2
    clear hX hsn2
    refine wpAnyK_1 15 (by kernel_rfl) (wpOpK' rfl rfl ?_)
    intro K hK
    unfold Oper.wp execOp
    go_simp
    have ka := (Chg.refl No w8).alloc (.cells #[.int .i64 X.frm, .int .i64 X.ca.pol, .int .i64 X.ca.size, .slice x1 x2 x3, .slice x4 x5 x6, .int .i64 X.ca.hand, .int .i64 X.fa] 68)
    refine hK.out _ _ ⟨(b5.keep ka).c1, (bp.keep ka).c0, (bp.keep ka).c1, (bp.keep ka).c2⟩ ?_
    clear hK K ka
    simp only [zE]
    refine wpAnyK_tail 16 rfl (by kernel_rfl) ?_
    simp only [List.drop_succ_cons, List.drop_zero]
    have hs8 := k8.size
    have hgeq : ∀ q, own (.slice oa j oc) q → base ≤ q := fun q hq => (hP.os.lt q hq).1
    go_wp2_with (at_builtin; refine wappS1 elPlayers (by omega) rfl (.tmp 21) (.tmp 35) rfl hPos rfl (by simp [Value.oneCell']) rfl rfl (by omega) (by omega) ?_)
    intro v' wN oN kN hnN
    rw [← hlg] at oN
    have HPN := Lib.hid (hP.snoc hWR k8 op om oap oN kN hnN)
    have HBN := Lib.hid (oN.lt)
    replace kk := kk.step kN (fun q hq hl => by have := hgeq q hq; omega)
    replace b2 := b2.step kN (fun hq => by have := hgeq _ hq; omega)
    replace b4 := b4.step kN (fun hq => by have := hgeq _ hq; omega)
    replace b5 := b5.step kN (fun hq => by have := hgeq _ hq; omega)
    replace o1 := o1.step kN (fun q hq hq' => by have := hgeq _ hq'; have := hcl q hq; omega)
    obtain ⟨na, nc, rfl, _⟩ := oN.view
    have hszN := kN.size
    have cN : Chg (fun q => q = B5) wN (wN.setCell ⟨B5, 1, none⟩ (.slice na (R0.length + 1) nc)) := (Chg.refl (fun q => q = B5) wN).setCell (p := ⟨B5, 1, none⟩) (fun _ => rfl) _
    have HEND := Lib.hid (And.intro (kk.step cN (fun q hq hl => by omega)) (And.intro (b2.step cN (by omega)) (And.intro (b4.step cN (by omega)) (And.intro (b5.set1 (.slice na (R0.length + 1) nc)) (And.intro (HPN.out.step cN (fun q hq e => by have := (HPN.out.inF q hq).1; omega)) (And.intro (o1.step cN hne) cN.size))))))
    have hb51 := b5.c1
    have hb53 := b5.fr 1
    clear kk b2 b4 b5 hP hPos o1 oN kN hnN HPN cN k8 op om bp hgeq hlg
    go_wp2_with fail
    go_round
    case measure => simp [intOf]; omega
    case rel =>
     obtain ⟨e1, e2, e3, e4, e5, e6, e7⟩ := HEND.out
     exact ⟨j + 1, _, _, _, by omega, by go_num, e1, by omega, e2, e3, e4, by rw [HSN2.out]; exact e5, e6⟩
   ·have hje : j = ps.length := by omega
    subst hje
    rw [List.take_length] at hP
    obtain ⟨oa, oc, rfl, _⟩ := hP.os.view
    obtain ⟨n5, hn5⟩ : ∃ n5, (againP ps l).length = n5 := ⟨_, rfl⟩
    rw [hn5] at hP b5
    clear HL HC HS
    obtain ⟨d0, d1, d2, _⟩ := id b5
    obtain ⟨c0, c1, c2, cf⟩ := id b4
    have cf0 := cf 0
    have cf1 := cf 1
    have cf2 := cf 2
    clear cf
    obtain ⟨z0, z1, z2, _⟩ := ((b4.set0 (.int .i64 it)).set1 (.slice oa n5 oc)).set2 (.slice za zn zc)
    have ch : Chg (fun q => q = w.heap.size + 1) wr (((wr.setCell ⟨w.heap.size + 1, 0, none⟩ (.int .i64 it)).setCell ⟨w.heap.size + 1, 1, none⟩ (.slice oa n5 oc)).setCell ⟨w.heap.size + 1, 2, none⟩ (.slice za zn zc)) :=
     (((Chg.refl (fun q => q = w.heap.size + 1) wr).setCell (p := ⟨w.heap.size + 1, 0, none⟩) (fun _ => rfl) _).setCell (p := ⟨w.heap.size + 1, 1, none⟩) (fun _ => rfl) _).setCell (p := ⟨w.heap.size + 1, 2, none⟩) (fun _ => rfl) _
    have f1 := (hP.step ch (fun q hq e => by have := (hP.inF q hq).1; omega)).weak (base' := w.heap.size) (by omega)
    have f3 : ∀ q, FA (.slice oa n5 oc) (againP ps l).length pg mg q → ¬ own (.slice za zn zc) q := fun q hq e => by
     have := (hP.inF q hq).1
     have := hcl q e
     omega
    have hk := kk.step ch (fun q hq hl => by omega)
    have HEND := Lib.hid (And.intro f1 (And.intro f3 hk))
    have HO := Lib.hid ((o1.step ch (fun q hq e => by have := (o1.lt q hq).1; omega)).weak (base' := w.heap.size) (by omega))
    have HCH := Lib.hid ch
    clear f1 f3 hk hP o1 kk ch b2 b4 b5 hn5
    go_wp2_with fail
    exact bodyPost_ret (v := .agg #[.int .i64 it, .slice oa n5 oc, .slice za zn zc]) (by simp [results, Tryz.results47, go_sem, z0, z1, z2]) rfl ⟨_, rfl, ⟨_, _, _, _, rfl, HEND.out.1, HO.out, HEND.out.2.1⟩, HEND.out.2.2⟩
end Go.Proofs.YtdgcohoneijleaaGreatDoor
