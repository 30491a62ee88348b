import Derived.Test.YtdgcohoneijleaaGreatDoorPkX12
import Derived.Test.YtdgcohoneijleaaGreatDoorPkX3
set_option maxRecDepth 100000
namespace Go.Proofs.YtdgcohoneijleaaGreatDoor
open Go.RowKit
set_option maxHeartbeats 1000000 in
theorem part_any (v : Value) (t : To) (i : Nat) (w : World) (h : RT No w v t) (hi : i < t.ps.length) (hf : 0 ≤ (t.ps.getD i dPl).frm ∧ (t.ps.getD i dPl).frm ≤ t.reqs.length) :
  Calls Tryz.prog 59 #[v, .int .i64 (i : Int)] w (Ret fun r w' => RI No w' r (t.reqs.drop (t.ps.getD i dPl).frm.toNat) ∧ Chg No w w') := by
 obtain ⟨it, ps, rq⟩ := t
 obtain ⟨pv, rv, rfl, hps, hrq⟩ := h
 simp only at hps hrq hi hf ⊢
 obtain ⟨ra, rc, rfl, _⟩ := id hrq
 obtain ⟨a, cap, rfl, hcap, hmax, hlen, pf, mf, hl, hcl⟩ := id hps
 obtain ⟨b, off, rfl, _, hb, hcell⟩ := hcl (by intro e; simp [e] at hi)
 have h7 := hcell i hi
 obtain ⟨y, hy⟩ : ∃ y, ps.getD i dPl = y := ⟨_, rfl⟩
 rw [hy] at h7 hf ⊢
 obtain ⟨xs, hx, hrx⟩ := hrq.from y.frm.toNat y.frm (by omega) (by omega)
 obtain ⟨xa, xn, xc, rfl⟩ := hrx.shape
 have hi0 : (0 : Int) ≤ (i : Int) := Int.natCast_nonneg _
 have hi1 : (i : Int) < (ps.length : Int) := by omega
 have k0 := (Chg.refl No w).alloc (.cells #[.int .i64 it, .slice (some ⟨b, off, none⟩) ps.length cap, .slice ra rq.length rc] 31)
 have b0 := Box3.new w (.int .i64 it) (.slice (some ⟨b, off, none⟩) ps.length cap) (.slice ra rq.length rc) 31
 obtain ⟨C, hC1, hC2⟩ : ∃ C : World → Prop, (∀ W, C W → Box3 W w.heap.size (.int .i64 it) (.slice (some ⟨b, off, none⟩) ps.length cap) (.slice ra rq.length rc) ∧ Chg No w W) ∧
   (∀ W, Box3 W w.heap.size (.int .i64 it) (.slice (some ⟨b, off, none⟩) ps.length cap) (.slice ra rq.length rc) → Chg No w W → C W) := ⟨_, fun _ h => h, fun _ h h' => ⟨h, h'⟩⟩
 have HCELL : Hid (∀ W, C W → W.cell? ⟨w.heap.size, 0, none⟩ = some (.int .i64 it) ∧ W.cell? ⟨w.heap.size, 1, none⟩ = some (.slice (some ⟨b, off, none⟩) ps.length cap) ∧ W.cell? ⟨w.heap.size, 2, none⟩ = some (.slice ra rq.length rc) ∧
   W.cell? ⟨b, off + i * 7, none⟩ = some (.int .i64 y.frm) ∧ True) := Lib.hid (fun W hW => by
  obtain ⟨g1, g2⟩ := hC1 W hW
  have g3 := h7.step g2 hb (fun e => e)
  exact ⟨g1.c0, g1.c1, g1.c2, g3.c0, trivial⟩)
 have HX := Lib.hid hC1
 have hC0 := hC2 _ (b0.keep (Chg.refl No _).drew) k0.drew
 have HH := Lib.hid hrx
 clear hC1 hC2 h7 hcell hcl hl hps hrq hy hf hrx b0 k0
 go_enter Tryz.func59, Tryz.ntmps59
 go_wp2_with fail
 refine wp_region_X C (by kernel_rfl) (by kernel_rfl) hC0 ?_
 clear hC0
 refine wpX_val (.pointer (some ⟨w.heap.size, 2, none⟩)) rfl (by intro W hW; obtain ⟨c0, c1, c2, d0, _⟩ := HCELL.out W hW; go_simp) ?_
 simp only [zD, zE, zF, zG]
 refine wpX_val (.slice ra rq.length rc) rfl (by intro W hW; obtain ⟨c0, c1, c2, d0, _⟩ := HCELL.out W hW; go_simp) ?_
 simp only [zD, zE, zF, zG]
 refine wpX_val (.pointer (some ⟨w.heap.size, 1, none⟩)) rfl (by intro W hW; obtain ⟨c0, c1, c2, d0, _⟩ := HCELL.out W hW; go_simp) ?_
 simp only [zD, zE, zF, zG]
 refine wpX_val (.slice (some ⟨b, off, none⟩) ps.length cap) rfl (by intro W hW; obtain ⟨c0, c1, c2, d0, _⟩ := HCELL.out W hW; go_simp) ?_
 simp only [zD, zE, zF, zG]
 refine wpX_val (.int .i64 i) rfl (by intro W hW; obtain ⟨c0, c1, c2, d0, _⟩ := HCELL.out W hW; go_simp) ?_
 simp only [zD, zE, zF, zG]
 refine wpX_val (.pointer (some ⟨b, off + i * 7, none⟩)) rfl (by intro W hW; obtain ⟨c0, c1, c2, d0, _⟩ := HCELL.out W hW; go_simp) ?_
 simp only [zD, zE, zF, zG]
 refine wpX_val (.pointer (some ⟨b, off + i * 7, none⟩)) rfl (by intro W hW; obtain ⟨c0, c1, c2, d0, _⟩ := HCELL.out W hW; go_simp) ?_
 simp only [zD, zE, zF, zG]
 refine wpX_val (.int .i64 y.frm) rfl (by intro W hW; obtain ⟨c0, c1, c2, d0, _⟩ := HCELL.out W hW; go_simp) ?_
 simp only [zD, zE, zF, zG]
 refine wpX_val (.slice xa xn xc) rfl (by intro W hW; obtain ⟨c0, c1, c2, d0, _⟩ := HCELL.out W hW; go_simp) ?_
 simp only [zD, zE, zF, zG]
 refine wpX_val (.slice xa xn xc) rfl (by intro W hW; obtain ⟨c0, c1, c2, d0, _⟩ := HCELL.out W hW; go_simp) ?_
 simp only [zD, zE, zF, zG]
 refine wpX_nil (fun W hW => ?_)
 go_wp2_with fail
 go_ret
 exact ⟨_, rfl, HH.out.keep (HX.out W hW).2, (HX.out W hW).2⟩
def ownP : Value → Nat → Prop
 | .agg xs, q => own (xs.getD 3 undef) q ∨ own (xs.getD 4 undef) q
 | _, _ => False
theorem RPO.lt {base : Nat} {w : World} {v : Value} {x : Pl} (h : RPO base w v x) (q : Nat) (hq : ownP v q) : base ≤ q ∧ q < w.heap.size := by
 obtain ⟨pv, mv, rfl, h1, h2, _⟩ := h
 rcases hq with hq | hq
 ·exact h1.lt q hq
 ·exact h2.lt q hq
theorem Box7.far7 {w : World} {b' : Nat} {v0 v1 v2 v3 v4 v5 v6 : Value} (h : Box7 w b' v0 v1 v2 v3 v4 v5 v6) (b : Nat) (hb : b ≠ b') (x0 x1 x2 x3 x4 x5 x6 : Value) :
  Box7 (((((((w.setCell ⟨b, 0, none⟩ x0).setCell ⟨b, 1, none⟩ x1).setCell ⟨b, 2, none⟩ x2).setCell ⟨b, 3, none⟩ x3).setCell ⟨b, 4, none⟩ x4).setCell ⟨b, 5, none⟩ x5).setCell ⟨b, 6, none⟩ x6) b' v0 v1 v2 v3 v4 v5 v6 :=
 h.step ((Chg.refl (fun k => k = b) w).put7 (fun _ => rfl) x0 x1 x2 x3 x4 x5 x6) (fun e => hb e.symm)
theorem Box3.far7 {w : World} {b' : Nat} {v0 v1 v2 : Value} (h : Box3 w b' v0 v1 v2) (b : Nat) (hb : b ≠ b') (x0 x1 x2 x3 x4 x5 x6 : Value) :
  Box3 (((((((w.setCell ⟨b, 0, none⟩ x0).setCell ⟨b, 1, none⟩ x1).setCell ⟨b, 2, none⟩ x2).setCell ⟨b, 3, none⟩ x3).setCell ⟨b, 4, none⟩ x4).setCell ⟨b, 5, none⟩ x5).setCell ⟨b, 6, none⟩ x6) b' v0 v1 v2 :=
 h.step ((Chg.refl (fun k => k = b) w).put7 (fun _ => rfl) x0 x1 x2 x3 x4 x5 x6) (fun e => hb e.symm)
set_option maxHeartbeats 4000000 in
theorem IsTournament_any (v : Value) (t : To) (w : World) (h : RT No w v t) :
  Calls Tryz.prog 21 #[v] w (Ret fun r w' => r = .bool (tourB t) ∧ Chg No w w') := by
 obtain ⟨it, ps, rq⟩ := t
 obtain ⟨pv, rv, rfl, hps, hrq⟩ := h
 simp only at hps hrq ⊢
 obtain ⟨ra, rc, rfl, _⟩ := id hrq
 obtain ⟨a, cap, rfl, hcap, hmax, hlen, pf, mf, hl, hcl⟩ := id hps
 have k0 := (Chg.refl No w).alloc (.cells #[.int .i64 it, .slice a ps.length cap, .slice ra rq.length rc] 31)
 have b0 := Box3.new w (.int .i64 it) (.slice a ps.length cap) (.slice ra rq.length rc) 31
 cases h1 : reqB it rq
 ·have HT : Hid (tourB ⟨it, ps, rq⟩ = false) := Lib.hid (by simp [tourB, h1])
  have H1 : Hid ((inB it 1 8 && decide (rq.length ≤ 60) && belowB it rq) = false) := Lib.hid h1
  clear h1 hl hcl
  go_enter Tryz.func21, Tryz.ntmps21
  go_wp2_with fail
  refine (IsRequests_any No _ rq it _ (hrq.keep k0)).mono ?_
  rintro e w1 ⟨_, rfl, rfl, k1⟩
  rw [H1.out]
  go_wp2_with fail
  go_ret
  exact ⟨_, rfl, by rw [HT.out]; rfl, k0.keep k1⟩
 ·have H1 : Hid ((inB it 1 8 && decide (rq.length ≤ 60) && belowB it rq) = true) := Lib.hid h1
  by_cases h4 : ps.length ≤ 4
  ·have HT : Hid (tourB ⟨it, ps, rq⟩ = ps.all fun x => playB x rq) := Lib.hid (by simp [tourB, h1, h4])
   have h4i : ¬ (4 : Int) < (ps.length : Int) := by omega
   have HL := Lib.hid hl
   have HC := Lib.hid hcl
   clear h1 h4 hl hcl
   go_enter Tryz.func21, Tryz.ntmps21
   go_wp2_with fail
   refine (IsRequests_any No _ rq it _ (hrq.keep k0)).mono ?_
   rintro e w1 ⟨_, rfl, rfl, k1⟩
   rw [H1.out]
   have b0 := b0.keep k1
   have k0 := k0.keep k1
   obtain ⟨c0, c1, c2, _⟩ := id b0
   go_wp2_with fail
   clear c0 c1 c2
   go_loopw [21] (fun i wr => ∃ j : Nat, j ≤ ps.length ∧ i = .int .i64 j ∧ Hid (AllTo (fun x => playB x rq) ps j) ∧ Box3 wr w.heap.size (.int .i64 it) (.slice a ps.length cap) (.slice ra rq.length rc) ∧ Chg No w wr) (fun i _ => ps.length - (intOf i).toNat)
   case atStart => exact ⟨0, Nat.zero_le _, rfl, Lib.hid (fun i hi => absurd hi (Nat.not_lt_zero _)), b0, k0⟩
   case round =>
    clear b0 k0 k1
    obtain ⟨j, hj, rfl, HA, hb3, hch⟩ := hrel
    by_cases hlt : j < ps.length
    ·obtain ⟨b, off, rfl, _, hb, hcell⟩ := HC.out (by intro e; simp [e] at hlt)
     have h7 := (hcell j hlt).step hch hb (fun e => e)
     obtain ⟨hpj, hmj⟩ := HL.out j hlt
     have hno := all_no (p := fun x => playB x rq) hlt
     have hsu := HA.out.succ (p := fun x => playB x rq)
     obtain ⟨y, hy⟩ : ∃ y, ps.getD j dPl = y := ⟨_, rfl⟩
     rw [hy] at h7 hpj hmj hno hsu
     have HN := Lib.hid hno
     have HS := Lib.hid hsu
     have HY := Lib.hid hy
     clear hcell hno hsu hy
     have hj0 : (0 : Int) ≤ (j : Int) := Int.natCast_nonneg _
     have hj1 : (j : Int) < (ps.length : Int) := by omega
     have hw1 : IntKind.i64.wrap ((j : Int) + 1) = (j : Int) + 1 := IntWalk.i64_in _ (by omega)
     obtain ⟨pj, hpe⟩ : ∃ pj, pf j = pj := ⟨_, rfl⟩
     obtain ⟨mj, hme⟩ : ∃ mj, mf j = mj := ⟨_, rfl⟩
     rw [hpe] at hpj h7
     rw [hme] at hmj h7
     clear hpe hme
     obtain ⟨ya, yn, yc, rfl⟩ := hpj.shape
     obtain ⟨za, zn, zc, rfl⟩ := hmj.shape
     obtain ⟨g0, g1, g2, g3, g4, g5, g6⟩ := id h7
     have kal := (Chg.refl No wr).alloc (.cells #[.int .i64 y.frm, .int .i64 y.ca.pol, .int .i64 y.ca.size, .slice ya yn yc, .slice za zn zc, .int .i64 y.ca.hand, .int .i64 y.fa] 68)
     have bp := Box7.new wr (.int .i64 y.frm) (.int .i64 y.ca.pol) (.int .i64 y.ca.size) (.slice ya yn yc) (.slice za zn zc) (.int .i64 y.ca.hand) (.int .i64 y.fa) 68
     have bt := hb3.keep kal
     have kk := hch.keep kal
     have hNN : w.heap.size < wr.heap.size := hb3.lt
     obtain ⟨t0, t1, t2, _⟩ := id bt
     cases hB1 : inB y.frm 0 rq.length
     ·have HB1 := Lib.hid hB1
      have HB : Hid (playB y rq = false) := Lib.hid (by simp [playB, hB1])
      clear hB1
      go_wp2_with fail
      refine (within_any _ _ _ _).mono ?_
      rintro e w2 ⟨rfl, rfl⟩
      rw [HB1.out]
      go_wp2_with fail
      go_ret
      exact ⟨_, rfl, by rw [HT.out, HN.out HB.out]; rfl, kk⟩
     ·cases hB2 : inB y.ca.pol 1 7
      ·have HB1 := Lib.hid hB1
       have HB2 := Lib.hid hB2
       have HB : Hid (playB y rq = false) := Lib.hid (by simp [playB, hB2])
       clear hB1 hB2
       go_wp2_with fail
       refine (within_any _ _ _ _).mono ?_
       rintro e w2 ⟨rfl, rfl⟩
       rw [HB1.out]
       go_wp2_with fail
       refine (isPolicy_any _ _).mono ?_
       rintro e w2 ⟨rfl, rfl⟩
       rw [HB2.out]
       go_wp2_with fail
       go_ret
       exact ⟨_, rfl, by rw [HT.out, HN.out HB.out]; rfl, kk⟩
      ·cases hB3 : inB y.ca.size 1 6
       ·have HB1 := Lib.hid hB1
        have HB2 := Lib.hid hB2
        have HB3 := Lib.hid hB3
        have HB : Hid (playB y rq = false) := Lib.hid (by simp [playB, hB3])
        clear hB1 hB2 hB3
        go_wp2_with fail
        refine (within_any _ _ _ _).mono ?_
        rintro e w2 ⟨rfl, rfl⟩
        rw [HB1.out]
        go_wp2_with fail
        refine (isPolicy_any _ _).mono ?_
        rintro e w2 ⟨rfl, rfl⟩
        rw [HB2.out]
        go_wp2_with fail
        refine (isSize_any _ _).mono ?_
        rintro e w2 ⟨rfl, rfl⟩
        rw [HB3.out]
        go_wp2_with fail
        go_ret
        exact ⟨_, rfl, by rw [HT.out, HN.out HB.out]; rfl, kk⟩
       ·have HOK : Hid (Ok (newC y.ca.pol y.ca.size)) := Lib.hid (ok_new (inB_iff.1 hB2) (inB_iff.1 hB3))
        have HFR : Hid (0 ≤ (ps.getD j dPl).frm ∧ (ps.getD j dPl).frm ≤ (rq.length : Int)) := Lib.hid (by rw [HY.out]; exact inB_iff.1 hB1)
        have HB1 := Lib.hid hB1
        have HB2 := Lib.hid hB2
        have HB3 := Lib.hid hB3
        clear hB1 hB2 hB3
        go_wp2_with fail
        refine (within_any _ _ _ _).mono ?_
        rintro e w2 ⟨rfl, rfl⟩
        rw [HB1.out]
        go_wp2_with fail
        refine (isPolicy_any _ _).mono ?_
        rintro e w2 ⟨rfl, rfl⟩
        rw [HB2.out]
        go_wp2_with fail
        refine (isSize_any _ _).mono ?_
        rintro e w2 ⟨rfl, rfl⟩
        rw [HB3.out]
        go_wp2_with fail
        refine wp_region_K (S := fun W => Box7 W wr.heap.size (.int .i64 y.frm) (.int .i64 y.ca.pol) (.int .i64 y.ca.size) (.slice ya yn yc) (.slice za zn zc) (.int .i64 y.ca.hand) (.int .i64 y.fa) ∧ Box3 W w.heap.size (.int .i64 it) (.slice (some ⟨b, off, none⟩) ps.length cap) (.slice ra rq.length rc)) (k := 11) (by kernel_rfl) ?_
        have hlp := bp.lt
        have hd := (Chg.refl No (wr.alloc (.cells #[.int .i64 y.frm, .int .i64 y.ca.pol, .int .i64 y.ca.size, .slice ya yn yc, .slice za zn zc, .int .i64 y.ca.hand, .int .i64 y.fa] 68))).drew
        have bp := bp.keep hd
        have bt := bt.keep hd
        have kk := kk.keep hd
        have hlp : wr.heap.size < (wr.alloc (.cells #[.int .i64 y.frm, .int .i64 y.ca.pol, .int .i64 y.ca.size, .slice ya yn yc, .slice za zn zc, .int .i64 y.ca.hand, .int .i64 y.fa] 68)).drew.heap.size := hlp
        clear t0 t1 t2 g0 g1 g2 g3 g4 g5 g6 h7 hd kal hch hb3
        generalize (wr.alloc (.cells #[.int .i64 y.frm, .int .i64 y.ca.pol, .int .i64 y.ca.size, .slice ya yn yc, .slice za zn zc, .int .i64 y.ca.hand, .int .i64 y.fa] 68)).drew = W at bp bt kk hlp ⊢
        have hS : (fun W : World => Box7 W wr.heap.size (.int .i64 y.frm) (.int .i64 y.ca.pol) (.int .i64 y.ca.size) (.slice ya yn yc) (.slice za zn zc) (.int .i64 y.ca.hand) (.int .i64 y.fa) ∧ Box3 W w.heap.size (.int .i64 it) (.slice (some ⟨b, off, none⟩) ps.length cap) (.slice ra rq.length rc)) W := ⟨bp, bt⟩
        refine wpAnyK_take0 0 (.pointer (some ⟨wr.heap.size, 0, none⟩)) rfl (by kernel_rfl) (fun _ _ _ h => h) hS rfl (by intro w; go_simp) ?_
        simp only [zA, zC, zD, zE, zF, zG]
        refine wpAnyK_take 1 (.int .i64 y.frm) rfl (by kernel_rfl) (fun _ _ _ h => h) hS rfl (by rintro w ⟨⟨d0, d1, d2, d3, d4, d5, d6, _⟩, _⟩; go_simp) ?_
        simp only [zA, zB, zC, zD, zE, zF, zG]
        refine wpAnyK_take0 2 (.pointer (some ⟨wr.heap.size, 1, none⟩)) rfl (by kernel_rfl) (fun _ _ _ h => h) hS rfl (by intro w; go_simp) ?_
        simp only [zA, zB, zC, zD, zE, zF, zG]
        refine wpAnyK_take0 3 (.pointer (some ⟨wr.heap.size, 1, none⟩)) rfl (by kernel_rfl) (fun _ _ _ h => h) hS rfl (by intro w; go_simp) ?_
        simp only [zA, zB, zC, zD, zE, zF, zG]
        refine wpAnyK_take 4 (.int .i64 y.ca.pol) rfl (by kernel_rfl) (fun _ _ _ h => h) hS rfl (by rintro w ⟨⟨d0, d1, d2, d3, d4, d5, d6, _⟩, _⟩; go_simp) ?_
        simp only [zA, zB, zC, zD, zE, zF, zG]
        refine wpAnyK_take0 5 (.pointer (some ⟨wr.heap.size, 1, none⟩)) rfl (by kernel_rfl) (fun _ _ _ h => h) hS rfl (by intro w; go_simp) ?_
        simp only [zA, zB, zC, zD, zE, zF, zG]
        refine wpAnyK_take0 6 (.pointer (some ⟨wr.heap.size, 2, none⟩)) rfl (by kernel_rfl) (fun _ _ _ h => h) hS rfl (by intro w; go_simp) ?_
        simp only [zA, zB, zC, zD, zE, zF, zG]
        refine wpAnyK_take 7 (.int .i64 y.ca.size) rfl (by kernel_rfl) (fun _ _ _ h => h) hS rfl (by rintro w ⟨⟨d0, d1, d2, d3, d4, d5, d6, _⟩, _⟩; go_simp) ?_
        simp only [zA, zB, zC, zD, zE, zF, zG]
        refine wpAnyK_take0 9 (.int .i64 j) rfl (by kernel_rfl) (fun _ _ _ h => h) hS rfl (by intro w; go_simp) ?_
        simp only [zA, zB, zC, zD, zE, zF, zG]
        clear hS
        refine wpAnyK_2 8 12 (by kernel_rfl) (wpOpK' rfl rfl ?_) (wpOpK' rfl rfl ?_)
        ·intro K hK
         obtain ⟨t0, t1, t2, _⟩ := id bt
         unfold Oper.wp execOp
         go_simp
         refine hK.out _ _ ⟨bp, bt⟩ ?_
         clear hK K t0 t1 t2
         simp only [List.setIfInBounds_toArray]
         refine wpAnyK_2 10 12 (by kernel_rfl) (wpOpK' rfl rfl ?_) (wpOpK' rfl rfl ?_)
         ·intro K hK
          refine ocall (f := 59) (args := #[.agg #[.int .i64 it, .slice (some ⟨b, off, none⟩) ps.length cap, .slice ra rq.length rc], .int .i64 (j : Int)]) (by go_simp) (part_any _ ⟨it, ps, rq⟩ j W ⟨_, _, rfl, hps.keep kk, hrq.keep kk⟩ hlt HFR.out) (fun vq W hq => hK.out _ _ ⟨bp.keep hq.2, bt.keep hq.2⟩ ?_)
          obtain ⟨rq2, kq⟩ := hq
          simp only at rq2
          rw [HY.out] at rq2
          clear hK K
          simp only [zA, zB, zC, zD, zE, zF, zG]
          have bp := bp.keep kq
          have bt := bt.keep kq
          have kk := kk.keep kq
          have hlp := Nat.lt_of_lt_of_le hlp kq.size
          refine wpAnyK_2 11 12 (by kernel_rfl) (wpOpK' rfl rfl ?_) (wpOpK' rfl rfl ?_)
          ·intro K hK
           refine ocall (f := 58) (args := #[.int .i64 y.frm, .int .i64 y.ca.pol, .int .i64 y.ca.size, vq]) (by go_simp) (playerOf_any y.frm y.ca.pol y.ca.size vq _ W rq2 HOK.out) (fun vo W ho => hK.out _ _ ⟨bp.keep ho.2, bt.keep ho.2⟩ ?_)
           obtain ⟨oo, ko⟩ := ho
           clear hK K
           simp only [zA, zB, zC, zD, zE, zF, zG]
           have bp := bp.keep ko
           have bt := bt.keep ko
           have kk := kk.keep ko
           have hlp := Nat.lt_of_lt_of_le hlp ko.size
           refine wpAnyK_1 12 (by kernel_rfl) (wpOpK' rfl rfl ?_)
           intro K hK
           have holt := oo.lt
           unfold Oper.wp execOp
           go_simp
           refine hK.out _ _ ⟨bp.keep ((Chg.refl No W).alloc _), bt.keep ((Chg.refl No W).alloc _)⟩ ?_
           clear hK K
           have ka := (Chg.refl No W).alloc (.cells #[.int .i64 0, .int .i64 0, .int .i64 0, .slice none 0 0, .slice none 0 0, .int .i64 0, .int .i64 0] 68)
           have bg := Box7.new W (.int .i64 0) (.int .i64 0) (.int .i64 0) (.slice none 0 0) (.slice none 0 0) (.int .i64 0) (.int .i64 0) 68
           have bp := bp.keep ka
           have bt := bt.keep ka
           have kk := kk.keep ka
           obtain ⟨GG, hGG⟩ : ∃ GG, W.heap.size = GG := ⟨_, rfl⟩
           rw [hGG] at bg ⊢
           have hg1 : wr.heap.size < GG := hGG ▸ hlp
           have HGP : Hid (GG ≠ wr.heap.size) := Lib.hid (by omega)
           have HGT : Hid (GG ≠ w.heap.size) := Lib.hid (by omega)
           have HGN : Hid (GG < w.heap.size → No GG) := Lib.hid (fun h => by omega)
           have hlp := Nat.lt_of_lt_of_le hlp ka.size
           have hgl := bg.lt
           generalize W.alloc _ = W at bp bt kk bg hlp hgl ka ⊢
           simp only [List.setIfInBounds_toArray]
           have oo := oo.keep ka
           have HGO : Hid (¬ ownP vo GG) := Lib.hid (fun h => by have := (holt _ h).2; omega)
           clear holt
           have HWANT : Hid (servedP y.frm y.ca.pol y.ca.size (rq.drop y.frm.toNat) = wantP y rq) := Lib.hid rfl
           rw [HWANT.out] at oo
           obtain ⟨z, hz⟩ : ∃ z, wantP y rq = z := ⟨_, rfl⟩
           rw [hz] at oo
           have HZ := Lib.hid hz
           clear hz
           have oo' := oo
           obtain ⟨xp, xm, rfl, hxp, hxm, hxa⟩ := oo
           obtain ⟨oa, on, oc, rfl⟩ := hxp.shape
           obtain ⟨qa, qn, qc, rfl⟩ := hxm.shape
           obtain ⟨s0, s1, s2, s3, s4, s5, s6, sf⟩ := id bg
           have sf0 := sf 0
           have sf1 := sf 1
           have sf2 := sf 2
           have sf3 := sf 3
           have sf4 := sf 4
           have sf5 := sf 5
           have sf6 := sf 6
           clear sf
           have bg2 := bg.put7 (.int .i64 z.frm) (.int .i64 z.ca.pol) (.int .i64 z.ca.size) (.slice oa on oc) (.slice qa qn qc) (.int .i64 z.ca.hand) (.int .i64 z.fa)
           have bp2 := bp.far7 GG HGP.out (.int .i64 z.frm) (.int .i64 z.ca.pol) (.int .i64 z.ca.size) (.slice oa on oc) (.slice qa qn qc) (.int .i64 z.ca.hand) (.int .i64 z.fa)
           have bt2 := bt.far7 GG HGT.out (.int .i64 z.frm) (.int .i64 z.ca.pol) (.int .i64 z.ca.size) (.slice oa on oc) (.slice qa qn qc) (.int .i64 z.ca.hand) (.int .i64 z.fa)
           have kk2 := kk.put7 (b := GG) HGN.out (.int .i64 z.frm) (.int .i64 z.ca.pol) (.int .i64 z.ca.size) (.slice oa on oc) (.slice qa qn qc) (.int .i64 z.ca.hand) (.int .i64 z.fa)
           have hxp2 := hxp.put7 (b := GG) (fun q hq e => HGO.out (.inl (e ▸ hq))) (.int .i64 z.frm) (.int .i64 z.ca.pol) (.int .i64 z.ca.size) (.slice oa on oc) (.slice qa qn qc) (.int .i64 z.ca.hand) (.int .i64 z.fa)
           have hxm2 := hxm.put7 (b := GG) (fun q hq e => HGO.out (.inr (e ▸ hq))) (.int .i64 z.frm) (.int .i64 z.ca.pol) (.int .i64 z.ca.size) (.slice oa on oc) (.slice qa qn qc) (.int .i64 z.ca.hand) (.int .i64 z.fa)
           refine wpAnyK_tailK 13 rfl (by kernel_rfl) ?_
           simp only [List.drop_succ_cons, List.drop_zero]
           obtain ⟨d0, d1, d2, d3, d4, d5, d6, _⟩ := id bg2
           obtain ⟨e0, e1, e2, e3, e4, e5, e6, _⟩ := id bp2
           clear oo' hxp hxm bg bp bt kk
           cases hfa : z.fa == y.fa
           ·have hne : ¬ y.fa = z.fa := fun e => by rw [e] at hfa; simp at hfa
            have HB : Hid (playB y rq = false) := Lib.hid (by rw [playB, HZ.out, hfa]; simp)
            clear hfa
            go_wp2_with fail
            go_ret
            exact ⟨_, rfl, by rw [HT.out, HN.out HB.out]; rfl, kk2⟩
           ·have hne : y.fa = z.fa := (by simpa using hfa : z.fa = y.fa).symm
            have HB : Hid (playB y rq = sameB y.ca z.ca) := Lib.hid (by
             have g1 := HB1.out
             have g2 := HB2.out
             have g3 := HB3.out
             rw [playB, HZ.out, hfa, g1, g2, g3, sameB_comm z.ca y.ca]; simp)
            clear hfa
            go_wp2_with fail
            refine (sameCaches_any No No _ _ y.ca z.ca _ (RP.cache (x0 := .int .i64 y.frm) (x6 := .int .i64 y.fa) ⟨_, _, rfl, hpj.keep kk2, hmj.keep kk2⟩) ⟨_, _, rfl, hxp2.readNo, hxm2.readNo⟩).mono ?_
            rintro e w9 ⟨_, rfl, rfl, k9⟩
            have kk9 := kk2.keep k9
            have bt9 := bt2.keep k9
            clear d0 d1 d2 d3 d4 d5 d6 e0 e1 e2 e3 e4 e5 e6 hne
            cases hsb : sameB y.ca z.ca
            ·dsimp only
             go_wp2_with fail
             go_ret
             exact ⟨_, rfl, by rw [HT.out, HN.out (by rw [HB.out, hsb])]; rfl, kk9⟩
            ·dsimp only
             go_wp2_with fail
             go_round
             case rel => exact ⟨j + 1, by omega, by go_num, Lib.hid (HS.out (by rw [HB.out, hsb])), bt9, kk9⟩
             case measure => simp [intOf]; omega
          ·intro K hK
           unfold Oper.wp execOp
           go_simp
           refine hK.out _ _ ⟨bp.keep ((Chg.refl No W).alloc _), bt.keep ((Chg.refl No W).alloc _)⟩ ?_
           clear hK K
           have ka := (Chg.refl No W).alloc (.cells #[.int .i64 0, .int .i64 0, .int .i64 0, .slice none 0 0, .slice none 0 0, .int .i64 0, .int .i64 0] 68)
           have bg := Box7.new W (.int .i64 0) (.int .i64 0) (.int .i64 0) (.slice none 0 0) (.slice none 0 0) (.int .i64 0) (.int .i64 0) 68
           have bp := bp.keep ka
           have bt := bt.keep ka
           have kk := kk.keep ka
           obtain ⟨GG, hGG⟩ : ∃ GG, W.heap.size = GG := ⟨_, rfl⟩
           rw [hGG] at bg ⊢
           have hg1 : wr.heap.size < GG := hGG ▸ hlp
           have HGP : Hid (GG ≠ wr.heap.size) := Lib.hid (by omega)
           have HGT : Hid (GG ≠ w.heap.size) := Lib.hid (by omega)
           have HGN : Hid (GG < w.heap.size → No GG) := Lib.hid (fun h => by omega)
           have hlp := Nat.lt_of_lt_of_le hlp ka.size
           have hgl := bg.lt
           generalize W.alloc _ = W at bp bt kk bg hlp hgl ka ⊢
           simp only [List.setIfInBounds_toArray]
           have rq2 := rq2.keep ka
           refine wpAnyK_1 11 (by kernel_rfl) (wpOpK' rfl rfl ?_)
           intro K hK
           refine ocall (f := 58) (args := #[.int .i64 y.frm, .int .i64 y.ca.pol, .int .i64 y.ca.size, vq]) (by go_simp) (playerOf_any y.frm y.ca.pol y.ca.size vq _ W rq2 HOK.out) (fun vo W ho => hK.out _ _ ⟨bp.keep ho.2, bt.keep ho.2⟩ ?_)
           obtain ⟨oo, ko⟩ := ho
           clear hK K
           simp only [zA, zB, zC, zD, zE, zF, zG]
           have bp := bp.keep ko
           have bt := bt.keep ko
           have kk := kk.keep ko
           have hlp := Nat.lt_of_lt_of_le hlp ko.size
           have bg := bg.keep ko
           have HGO : Hid (¬ ownP vo GG) := Lib.hid (fun h => by have := (oo.lt _ h).1; omega)
           have HWANT : Hid (servedP y.frm y.ca.pol y.ca.size (rq.drop y.frm.toNat) = wantP y rq) := Lib.hid rfl
           rw [HWANT.out] at oo
           obtain ⟨z, hz⟩ : ∃ z, wantP y rq = z := ⟨_, rfl⟩
           rw [hz] at oo
           have HZ := Lib.hid hz
           clear hz
           have oo' := oo
           obtain ⟨xp, xm, rfl, hxp, hxm, hxa⟩ := oo
           obtain ⟨oa, on, oc, rfl⟩ := hxp.shape
           obtain ⟨qa, qn, qc, rfl⟩ := hxm.shape
           obtain ⟨s0, s1, s2, s3, s4, s5, s6, sf⟩ := id bg
           have sf0 := sf 0
           have sf1 := sf 1
           have sf2 := sf 2
           have sf3 := sf 3
           have sf4 := sf 4
           have sf5 := sf 5
           have sf6 := sf 6
           clear sf
           have bg2 := bg.put7 (.int .i64 z.frm) (.int .i64 z.ca.pol) (.int .i64 z.ca.size) (.slice oa on oc) (.slice qa qn qc) (.int .i64 z.ca.hand) (.int .i64 z.fa)
           have bp2 := bp.far7 GG HGP.out (.int .i64 z.frm) (.int .i64 z.ca.pol) (.int .i64 z.ca.size) (.slice oa on oc) (.slice qa qn qc) (.int .i64 z.ca.hand) (.int .i64 z.fa)
           have bt2 := bt.far7 GG HGT.out (.int .i64 z.frm) (.int .i64 z.ca.pol) (.int .i64 z.ca.size) (.slice oa on oc) (.slice qa qn qc) (.int .i64 z.ca.hand) (.int .i64 z.fa)
           have kk2 := kk.put7 (b := GG) HGN.out (.int .i64 z.frm) (.int .i64 z.ca.pol) (.int .i64 z.ca.size) (.slice oa on oc) (.slice qa qn qc) (.int .i64 z.ca.hand) (.int .i64 z.fa)
           have hxp2 := hxp.put7 (b := GG) (fun q hq e => HGO.out (.inl (e ▸ hq))) (.int .i64 z.frm) (.int .i64 z.ca.pol) (.int .i64 z.ca.size) (.slice oa on oc) (.slice qa qn qc) (.int .i64 z.ca.hand) (.int .i64 z.fa)
           have hxm2 := hxm.put7 (b := GG) (fun q hq e => HGO.out (.inr (e ▸ hq))) (.int .i64 z.frm) (.int .i64 z.ca.pol) (.int .i64 z.ca.size) (.slice oa on oc) (.slice qa qn qc) (.int .i64 z.ca.hand) (.int .i64 z.fa)
           refine wpAnyK_tailK 13 rfl (by kernel_rfl) ?_
           simp only [List.drop_succ_cons, List.drop_zero]
           obtain ⟨d0, d1, d2, d3, d4, d5, d6, _⟩ := id bg2
           obtain ⟨e0, e1, e2, e3, e4, e5, e6, _⟩ := id bp2
           clear oo' hxp hxm bg bp bt kk
           cases hfa : z.fa == y.fa
           ·have hne : ¬ y.fa = z.fa := fun e => by rw [e] at hfa; simp at hfa
            have HB : Hid (playB y rq = false) := Lib.hid (by rw [playB, HZ.out, hfa]; simp)
            clear hfa
            go_wp2_with fail
            go_ret
            exact ⟨_, rfl, by rw [HT.out, HN.out HB.out]; rfl, kk2⟩
           ·have hne : y.fa = z.fa := (by simpa using hfa : z.fa = y.fa).symm
            have HB : Hid (playB y rq = sameB y.ca z.ca) := Lib.hid (by
             have g1 := HB1.out
             have g2 := HB2.out
             have g3 := HB3.out
             rw [playB, HZ.out, hfa, g1, g2, g3, sameB_comm z.ca y.ca]; simp)
            clear hfa
            go_wp2_with fail
            refine (sameCaches_any No No _ _ y.ca z.ca _ (RP.cache (x0 := .int .i64 y.frm) (x6 := .int .i64 y.fa) ⟨_, _, rfl, hpj.keep kk2, hmj.keep kk2⟩) ⟨_, _, rfl, hxp2.readNo, hxm2.readNo⟩).mono ?_
            rintro e w9 ⟨_, rfl, rfl, k9⟩
            have kk9 := kk2.keep k9
            have bt9 := bt2.keep k9
            clear d0 d1 d2 d3 d4 d5 d6 e0 e1 e2 e3 e4 e5 e6 hne
            cases hsb : sameB y.ca z.ca
            ·dsimp only
             go_wp2_with fail
             go_ret
             exact ⟨_, rfl, by rw [HT.out, HN.out (by rw [HB.out, hsb])]; rfl, kk9⟩
            ·dsimp only
             go_wp2_with fail
             go_round
             case rel => exact ⟨j + 1, by omega, by go_num, Lib.hid (HS.out (by rw [HB.out, hsb])), bt9, kk9⟩
             case measure => simp [intOf]; omega
         ·intro K hK
          unfold Oper.wp execOp
          go_simp
          refine hK.out _ _ ⟨bp.keep ((Chg.refl No W).alloc _), bt.keep ((Chg.refl No W).alloc _)⟩ ?_
          clear hK K
          have ka := (Chg.refl No W).alloc (.cells #[.int .i64 0, .int .i64 0, .int .i64 0, .slice none 0 0, .slice none 0 0, .int .i64 0, .int .i64 0] 68)
          have bg := Box7.new W (.int .i64 0) (.int .i64 0) (.int .i64 0) (.slice none 0 0) (.slice none 0 0) (.int .i64 0) (.int .i64 0) 68
          have bp := bp.keep ka
          have bt := bt.keep ka
          have kk := kk.keep ka
          obtain ⟨GG, hGG⟩ : ∃ GG, W.heap.size = GG := ⟨_, rfl⟩
          rw [hGG] at bg ⊢
          have hg1 : wr.heap.size < GG := hGG ▸ hlp
          have HGP : Hid (GG ≠ wr.heap.size) := Lib.hid (by omega)
          have HGT : Hid (GG ≠ w.heap.size) := Lib.hid (by omega)
          have HGN : Hid (GG < w.heap.size → No GG) := Lib.hid (fun h => by omega)
          have hlp := Nat.lt_of_lt_of_le hlp ka.size
          have hgl := bg.lt
          generalize W.alloc _ = W at bp bt kk bg hlp hgl ka ⊢
          simp only [List.setIfInBounds_toArray]
          refine wpAnyK_1 10 (by kernel_rfl) (wpOpK' rfl rfl ?_)
          intro K hK
          refine ocall (f := 59) (args := #[.agg #[.int .i64 it, .slice (some ⟨b, off, none⟩) ps.length cap, .slice ra rq.length rc], .int .i64 (j : Int)]) (by go_simp) (part_any _ ⟨it, ps, rq⟩ j W ⟨_, _, rfl, hps.keep kk, hrq.keep kk⟩ hlt HFR.out) (fun vq W hq => hK.out _ _ ⟨bp.keep hq.2, bt.keep hq.2⟩ ?_)
          obtain ⟨rq2, kq⟩ := hq
          simp only at rq2
          rw [HY.out] at rq2
          clear hK K
          simp only [zA, zB, zC, zD, zE, zF, zG]
          have bp := bp.keep kq
          have bt := bt.keep kq
          have kk := kk.keep kq
          have hlp := Nat.lt_of_lt_of_le hlp kq.size
          have bg := bg.keep kq
          have hgl := Nat.lt_of_lt_of_le hgl kq.size
          refine wpAnyK_1 11 (by kernel_rfl) (wpOpK' rfl rfl ?_)
          intro K hK
          refine ocall (f := 58) (args := #[.int .i64 y.frm, .int .i64 y.ca.pol, .int .i64 y.ca.size, vq]) (by go_simp) (playerOf_any y.frm y.ca.pol y.ca.size vq _ W rq2 HOK.out) (fun vo W ho => hK.out _ _ ⟨bp.keep ho.2, bt.keep ho.2⟩ ?_)
          obtain ⟨oo, ko⟩ := ho
          clear hK K
          simp only [zA, zB, zC, zD, zE, zF, zG]
          have bp := bp.keep ko
          have bt := bt.keep ko
          have kk := kk.keep ko
          have hlp := Nat.lt_of_lt_of_le hlp ko.size
          have bg := bg.keep ko
          have HGO : Hid (¬ ownP vo GG) := Lib.hid (fun h => by have := (oo.lt _ h).1; omega)
          have HWANT : Hid (servedP y.frm y.ca.pol y.ca.size (rq.drop y.frm.toNat) = wantP y rq) := Lib.hid rfl
          rw [HWANT.out] at oo
          obtain ⟨z, hz⟩ : ∃ z, wantP y rq = z := ⟨_, rfl⟩
          rw [hz] at oo
          have HZ := Lib.hid hz
          clear hz
          have oo' := oo
          obtain ⟨xp, xm, rfl, hxp, hxm, hxa⟩ := oo
          obtain ⟨oa, on, oc, rfl⟩ := hxp.shape
          obtain ⟨qa, qn, qc, rfl⟩ := hxm.shape
          obtain ⟨s0, s1, s2, s3, s4, s5, s6, sf⟩ := id bg
          have sf0 := sf 0
          have sf1 := sf 1
          have sf2 := sf 2
          have sf3 := sf 3
          have sf4 := sf 4
          have sf5 := sf 5
          have sf6 := sf 6
          clear sf
          have bg2 := bg.put7 (.int .i64 z.frm) (.int .i64 z.ca.pol) (.int .i64 z.ca.size) (.slice oa on oc) (.slice qa qn qc) (.int .i64 z.ca.hand) (.int .i64 z.fa)
          have bp2 := bp.far7 GG HGP.out (.int .i64 z.frm) (.int .i64 z.ca.pol) (.int .i64 z.ca.size) (.slice oa on oc) (.slice qa qn qc) (.int .i64 z.ca.hand) (.int .i64 z.fa)
          have bt2 := bt.far7 GG HGT.out (.int .i64 z.frm) (.int .i64 z.ca.pol) (.int .i64 z.ca.size) (.slice oa on oc) (.slice qa qn qc) (.int .i64 z.ca.hand) (.int .i64 z.fa)
          have kk2 := kk.put7 (b := GG) HGN.out (.int .i64 z.frm) (.int .i64 z.ca.pol) (.int .i64 z.ca.size) (.slice oa on oc) (.slice qa qn qc) (.int .i64 z.ca.hand) (.int .i64 z.fa)
          have hxp2 := hxp.put7 (b := GG) (fun q hq e => HGO.out (.inl (e ▸ hq))) (.int .i64 z.frm) (.int .i64 z.ca.pol) (.int .i64 z.ca.size) (.slice oa on oc) (.slice qa qn qc) (.int .i64 z.ca.hand) (.int .i64 z.fa)
          have hxm2 := hxm.put7 (b := GG) (fun q hq e => HGO.out (.inr (e ▸ hq))) (.int .i64 z.frm) (.int .i64 z.ca.pol) (.int .i64 z.ca.size) (.slice oa on oc) (.slice qa qn qc) (.int .i64 z.ca.hand) (.int .i64 z.fa)
          refine wpAnyK_tailK 13 rfl (by kernel_rfl) ?_
          simp only [List.drop_succ_cons, List.drop_zero]
          obtain ⟨d0, d1, d2, d3, d4, d5, d6, _⟩ := id bg2
          obtain ⟨e0, e1, e2, e3, e4, e5, e6, _⟩ := id bp2
          clear oo' hxp hxm bg bp bt kk
          cases hfa : z.fa == y.fa
          ·have hne : ¬ y.fa = z.fa := fun e => by rw [e] at hfa; simp at hfa
           have HB : Hid (playB y rq = false) := Lib.hid (by rw [playB, HZ.out, hfa]; simp)
           clear hfa
           go_wp2_with fail
           go_ret
           exact ⟨_, rfl, by rw [HT.out, HN.out HB.out]; rfl, kk2⟩
          ·have hne : y.fa = z.fa := (by simpa using hfa : z.fa = y.fa).symm
           have HB : Hid (playB y rq = sameB y.ca z.ca) := Lib.hid (by
            have g1 := HB1.out
            have g2 := HB2.out
            have g3 := HB3.out
            rw [playB, HZ.out, hfa, g1, g2, g3, sameB_comm z.ca y.ca]; simp)
           clear hfa
           go_wp2_with fail
           refine (sameCaches_any No No _ _ y.ca z.ca _ (RP.cache (x0 := .int .i64 y.frm) (x6 := .int .i64 y.fa) ⟨_, _, rfl, hpj.keep kk2, hmj.keep kk2⟩) ⟨_, _, rfl, hxp2.readNo, hxm2.readNo⟩).mono ?_
           rintro e w9 ⟨_, rfl, rfl, k9⟩
           have kk9 := kk2.keep k9
           have bt9 := bt2.keep k9
           clear d0 d1 d2 d3 d4 d5 d6 e0 e1 e2 e3 e4 e5 e6 hne
           cases hsb : sameB y.ca z.ca
           ·dsimp only
            go_wp2_with fail
            go_ret
            exact ⟨_, rfl, by rw [HT.out, HN.out (by rw [HB.out, hsb])]; rfl, kk9⟩
           ·dsimp only
            go_wp2_with fail
            go_round
            case rel => exact ⟨j + 1, by omega, by go_num, Lib.hid (HS.out (by rw [HB.out, hsb])), bt9, kk9⟩
            case measure => simp [intOf]; omega
        ·intro K hK
         unfold Oper.wp execOp
         go_simp
         refine hK.out _ _ ⟨bp.keep ((Chg.refl No W).alloc _), bt.keep ((Chg.refl No W).alloc _)⟩ ?_
         clear hK K
         have ka := (Chg.refl No W).alloc (.cells #[.int .i64 0, .int .i64 0, .int .i64 0, .slice none 0 0, .slice none 0 0, .int .i64 0, .int .i64 0] 68)
         have bg := Box7.new W (.int .i64 0) (.int .i64 0) (.int .i64 0) (.slice none 0 0) (.slice none 0 0) (.int .i64 0) (.int .i64 0) 68
         have bp := bp.keep ka
         have bt := bt.keep ka
         have kk := kk.keep ka
         obtain ⟨GG, hGG⟩ : ∃ GG, W.heap.size = GG := ⟨_, rfl⟩
         rw [hGG] at bg ⊢
         have hg1 : wr.heap.size < GG := hGG ▸ hlp
         have HGP : Hid (GG ≠ wr.heap.size) := Lib.hid (by omega)
         have HGT : Hid (GG ≠ w.heap.size) := Lib.hid (by omega)
         have HGN : Hid (GG < w.heap.size → No GG) := Lib.hid (fun h => by omega)
         have hlp := Nat.lt_of_lt_of_le hlp ka.size
         have hgl := bg.lt
         generalize W.alloc _ = W at bp bt kk bg hlp hgl ka ⊢
         simp only [List.setIfInBounds_toArray]
         refine wpAnyK_1 8 (by kernel_rfl) (wpOpK' rfl rfl ?_)
         intro K hK
         obtain ⟨t0, t1, t2, _⟩ := id bt
         unfold Oper.wp execOp
         go_simp
         refine hK.out _ _ ⟨bp, bt⟩ ?_
         clear hK K t0 t1 t2
         simp only [List.setIfInBounds_toArray]
         refine wpAnyK_1 10 (by kernel_rfl) (wpOpK' rfl rfl ?_)
         intro K hK
         refine ocall (f := 59) (args := #[.agg #[.int .i64 it, .slice (some ⟨b, off, none⟩) ps.length cap, .slice ra rq.length rc], .int .i64 (j : Int)]) (by go_simp) (part_any _ ⟨it, ps, rq⟩ j W ⟨_, _, rfl, hps.keep kk, hrq.keep kk⟩ hlt HFR.out) (fun vq W hq => hK.out _ _ ⟨bp.keep hq.2, bt.keep hq.2⟩ ?_)
         obtain ⟨rq2, kq⟩ := hq
         simp only at rq2
         rw [HY.out] at rq2
         clear hK K
         simp only [zA, zB, zC, zD, zE, zF, zG]
         have bp := bp.keep kq
         have bt := bt.keep kq
         have kk := kk.keep kq
         have hlp := Nat.lt_of_lt_of_le hlp kq.size
         have bg := bg.keep kq
         have hgl := Nat.lt_of_lt_of_le hgl kq.size
         refine wpAnyK_1 11 (by kernel_rfl) (wpOpK' rfl rfl ?_)
         intro K hK
         refine ocall (f := 58) (args := #[.int .i64 y.frm, .int .i64 y.ca.pol, .int .i64 y.ca.size, vq]) (by go_simp) (playerOf_any y.frm y.ca.pol y.ca.size vq _ W rq2 HOK.out) (fun vo W ho => hK.out _ _ ⟨bp.keep ho.2, bt.keep ho.2⟩ ?_)
         obtain ⟨oo, ko⟩ := ho
         clear hK K
         simp only [zA, zB, zC, zD, zE, zF, zG]
         have bp := bp.keep ko
         have bt := bt.keep ko
         have kk := kk.keep ko
         have hlp := Nat.lt_of_lt_of_le hlp ko.size
         have bg := bg.keep ko
         have HGO : Hid (¬ ownP vo GG) := Lib.hid (fun h => by have := (oo.lt _ h).1; omega)
         have HWANT : Hid (servedP y.frm y.ca.pol y.ca.size (rq.drop y.frm.toNat) = wantP y rq) := Lib.hid rfl
         rw [HWANT.out] at oo
         obtain ⟨z, hz⟩ : ∃ z, wantP y rq = z := ⟨_, rfl⟩
         rw [hz] at oo
         have HZ := Lib.hid hz
         clear hz
         have oo' := oo
         obtain ⟨xp, xm, rfl, hxp, hxm, hxa⟩ := oo
         obtain ⟨oa, on, oc, rfl⟩ := hxp.shape
         obtain ⟨qa, qn, qc, rfl⟩ := hxm.shape
         obtain ⟨s0, s1, s2, s3, s4, s5, s6, sf⟩ := id bg
         have sf0 := sf 0
         have sf1 := sf 1
         have sf2 := sf 2
         have sf3 := sf 3
         have sf4 := sf 4
         have sf5 := sf 5
         have sf6 := sf 6
         clear sf
         have bg2 := bg.put7 (.int .i64 z.frm) (.int .i64 z.ca.pol) (.int .i64 z.ca.size) (.slice oa on oc) (.slice qa qn qc) (.int .i64 z.ca.hand) (.int .i64 z.fa)
         have bp2 := bp.far7 GG HGP.out (.int .i64 z.frm) (.int .i64 z.ca.pol) (.int .i64 z.ca.size) (.slice oa on oc) (.slice qa qn qc) (.int .i64 z.ca.hand) (.int .i64 z.fa)
         have bt2 := bt.far7 GG HGT.out (.int .i64 z.frm) (.int .i64 z.ca.pol) (.int .i64 z.ca.size) (.slice oa on oc) (.slice qa qn qc) (.int .i64 z.ca.hand) (.int .i64 z.fa)
         have kk2 := kk.put7 (b := GG) HGN.out (.int .i64 z.frm) (.int .i64 z.ca.pol) (.int .i64 z.ca.size) (.slice oa on oc) (.slice qa qn qc) (.int .i64 z.ca.hand) (.int .i64 z.fa)
         have hxp2 := hxp.put7 (b := GG) (fun q hq e => HGO.out (.inl (e ▸ hq))) (.int .i64 z.frm) (.int .i64 z.ca.pol) (.int .i64 z.ca.size) (.slice oa on oc) (.slice qa qn qc) (.int .i64 z.ca.hand) (.int .i64 z.fa)
         have hxm2 := hxm.put7 (b := GG) (fun q hq e => HGO.out (.inr (e ▸ hq))) (.int .i64 z.frm) (.int .i64 z.ca.pol) (.int .i64 z.ca.size) (.slice oa on oc) (.slice qa qn qc) (.int .i64 z.ca.hand) (.int .i64 z.fa)
         refine wpAnyK_tailK 13 rfl (by kernel_rfl) ?_
         simp only [List.drop_succ_cons, List.drop_zero]
         obtain ⟨d0, d1, d2, d3, d4, d5, d6, _⟩ := id bg2
         obtain ⟨e0, e1, e2, e3, e4, e5, e6, _⟩ := id bp2
         clear oo' hxp hxm bg bp bt kk
         cases hfa : z.fa == y.fa
         ·have hne : ¬ y.fa = z.fa := fun e => by rw [e] at hfa; simp at hfa
          have HB : Hid (playB y rq = false) := Lib.hid (by rw [playB, HZ.out, hfa]; simp)
          clear hfa
          go_wp2_with fail
          go_ret
          exact ⟨_, rfl, by rw [HT.out, HN.out HB.out]; rfl, kk2⟩
         ·have hne : y.fa = z.fa := (by simpa using hfa : z.fa = y.fa).symm
          have HB : Hid (playB y rq = sameB y.ca z.ca) := Lib.hid (by
           have g1 := HB1.out
           have g2 := HB2.out
           have g3 := HB3.out
           rw [playB, HZ.out, hfa, g1, g2, g3, sameB_comm z.ca y.ca]; simp)
          clear hfa
          go_wp2_with fail
          refine (sameCaches_any No No _ _ y.ca z.ca _ (RP.cache (x0 := .int .i64 y.frm) (x6 := .int .i64 y.fa) ⟨_, _, rfl, hpj.keep kk2, hmj.keep kk2⟩) ⟨_, _, rfl, hxp2.readNo, hxm2.readNo⟩).mono ?_
          rintro e w9 ⟨_, rfl, rfl, k9⟩
          have kk9 := kk2.keep k9
          have bt9 := bt2.keep k9
          clear d0 d1 d2 d3 d4 d5 d6 e0 e1 e2 e3 e4 e5 e6 hne
          cases hsb : sameB y.ca z.ca
          ·dsimp only
           go_wp2_with fail
           go_ret
           exact ⟨_, rfl, by rw [HT.out, HN.out (by rw [HB.out, hsb])]; rfl, kk9⟩
          ·dsimp only
           go_wp2_with fail
           go_round
           case rel => exact ⟨j + 1, by omega, by go_num, Lib.hid (HS.out (by rw [HB.out, hsb])), bt9, kk9⟩
           case measure => simp [intOf]; omega
    ·have hjl : j = ps.length := by omega
     subst hjl
     go_wp2_with fail
     go_ret
     exact ⟨_, rfl, by rw [HT.out, HA.out.full]; rfl, hch⟩
  ·have HT : Hid (tourB ⟨it, ps, rq⟩ = false) := Lib.hid (by simp [tourB, h4])
   have h4i : (4 : Int) < (ps.length : Int) := by omega
   clear h1 h4 hl hcl
   go_enter Tryz.func21, Tryz.ntmps21
   go_wp2_with fail
   refine (IsRequests_any No _ rq it _ (hrq.keep k0)).mono ?_
   rintro e w1 ⟨_, rfl, rfl, k1⟩
   rw [H1.out]
   obtain ⟨c0, c1, c2, _⟩ := b0.keep k1
   go_wp2_with fail
   go_ret
   exact ⟨_, rfl, by rw [HT.out]; rfl, k0.keep k1⟩
end Go.Proofs.YtdgcohoneijleaaGreatDoor
