import Derived.Test.YtodnkkmjjlfoiaaGreatPk8
import Derived.Test.YtodnkkmjjlfoiaaGreatPkB
import Derived.Test.YtodnkkmjjlfoiaaGreatPk4
import Derived.Test.YtodnkkmjjlfoiaaGreatPk1
import Derived.Test.YtodnkkmjjlfoiaaGreatPk5
/- a Player's part and the fewest faults of it, both sides -/
namespace Go.Proofs.YtodnkkmjjlfoiaaGreat
open Go.RowKit

/-- the part of a Player, and the fewest faults of it -/
def partL (t : To) (i : Nat) : List Int := t.reqs.drop (t.ps.getD i dPl).frm.toNat
def fewT (t : To) (i : Nat) : Int := fewN (t.ps.getD i dPl).ca.size t.items (partL t i)
theorem tour_player {t : To} (ht : tourB t = true) {i : Nat} (hi : i < t.ps.length) : playB (t.ps.getD i dPl) t.reqs = true := by
  unfold tourB at ht
  simp only [Bool.and_eq_true, List.all_eq_true] at ht
  refine ht.2.2 _ ?_
  rw [List.getD_eq_getElem?_getD, List.getElem?_eq_getElem hi]
  exact List.getElem_mem hi
theorem tour_facts {t : To} (ht : tourB t = true) {i : Nat} (hi : i < t.ps.length) : (0 ≤ (t.ps.getD i dPl).frm ∧ (t.ps.getD i dPl).frm ≤ t.reqs.length) ∧ (1 ≤ (t.ps.getD i dPl).ca.pol ∧ (t.ps.getD i dPl).ca.pol ≤ 7) ∧
    pagB (t.ps.getD i dPl).ca.size t.items (partL t i) = true ∧ (t.ps.getD i dPl).fa = ((places (newC (t.ps.getD i dPl).ca.pol (t.ps.getD i dPl).ca.size) (partL t i)).length : Int) := by
  have h1 := tour_player ht hi
  unfold playB at h1
  simp only [Bool.and_eq_true, inB_iff, beq_iff_eq] at h1
  obtain ⟨⟨h2, h3, h4⟩, _, h6⟩ := h1
  refine ⟨h2, h3, ?_, h6.symm⟩
  unfold tourB reqB at ht
  simp only [Bool.and_eq_true, inB_iff, decide_eq_true_eq] at ht
  unfold pagB reqB partL
  simp only [Bool.and_eq_true, inB_iff, decide_eq_true_eq]
  refine ⟨h4, ⟨ht.1.1.1, ?_⟩, ?_⟩
  · rw [List.length_drop]; have := ht.1.1.2; omega
  · have hb := ht.1.2
    unfold belowB at hb ⊢
    rw [List.all_eq_true] at hb ⊢
    exact fun x hx => hb x (List.mem_of_mem_drop hx)

set_option maxRecDepth 100000 in
set_option maxHeartbeats 1000000 in
theorem part_at (v : Value) (t : To) (i : Nat) (w : World) (h : RT No w v t) (hi : i < t.ps.length) (hf : 0 ≤ (t.ps.getD i dPl).frm ∧ (t.ps.getD i dPl).frm ≤ t.reqs.length) :
    ∃ a n c, RI No w (.slice a n c) (partL t i) ∧ ∀ W0, Chg No w W0 → Calls Tryz.prog 66 #[v, .int .i64 (i : Int)] W0 (fun e w' => e = .returned (.slice a n c) ∧ Chg No W0 w') := by
  obtain ⟨it, ps, rq⟩ := t
  obtain ⟨pv, rv, rfl, hps, hrq⟩ := h
  unfold partL
  simp only at hps hrq hi hf ⊢
  obtain ⟨ra, rc, rfl, _⟩ := id hrq
  obtain ⟨a, cap, rfl, hcap, hmax, hlen, pf, mf, hl, hcl⟩ := id hps
  obtain ⟨b, off, rfl, _, hb, hcell⟩ := hcl (by intro e; simp [e] at hi)
  have h7' := hcell i hi
  obtain ⟨y, hy⟩ : ∃ y, ps.getD i dPl = y := ⟨_, rfl⟩
  rw [hy] at h7' hf ⊢
  obtain ⟨xs, hx, hrx⟩ := hrq.from y.frm.toNat y.frm (by omega) (by omega)
  obtain ⟨xa, xn, xc, rfl⟩ := hrx.shape
  refine ⟨xa, xn, xc, hrx, fun W0 k => ?_⟩
  have h7 := h7'.step k hb (fun e => e)
  have hb0 : b < W0.heap.size := Nat.lt_of_lt_of_le hb k.size
  have hi0 : (0 : Int) ≤ (i : Int) := Int.natCast_nonneg _
  have hi1 : (i : Int) < (ps.length : Int) := by omega
  have k0 := (Chg.refl No W0).alloc (.cells #[.int .i64 it, .slice (some ⟨b, off, none⟩) ps.length cap, .slice ra rq.length rc] 31)
  have b0 := Box3.new W0 (.int .i64 it) (.slice (some ⟨b, off, none⟩) ps.length cap) (.slice ra rq.length rc) 31
  obtain ⟨C, hC1, hC2⟩ : ∃ C : World → Prop, (∀ W, C W → Box3 W W0.heap.size (.int .i64 it) (.slice (some ⟨b, off, none⟩) ps.length cap) (.slice ra rq.length rc) ∧ Chg No W0 W) ∧
      (∀ W, Box3 W W0.heap.size (.int .i64 it) (.slice (some ⟨b, off, none⟩) ps.length cap) (.slice ra rq.length rc) → Chg No W0 W → C W) := ⟨_, fun _ h => h, fun _ h h' => ⟨h, h'⟩⟩
  have HCELL : Hid (∀ W, C W → W.cell? ⟨W0.heap.size, 0, none⟩ = some (.int .i64 it) ∧ W.cell? ⟨W0.heap.size, 1, none⟩ = some (.slice (some ⟨b, off, none⟩) ps.length cap) ∧ W.cell? ⟨W0.heap.size, 2, none⟩ = some (.slice ra rq.length rc) ∧
      W.cell? ⟨b, off + i * 7, none⟩ = some (.int .i64 y.frm) ∧ True) := Lib.hid (fun W hW => by
    obtain ⟨g1, g2⟩ := hC1 W hW
    have g3 := h7.step g2 hb0 (fun e => e)
    exact ⟨g1.c0, g1.c1, g1.c2, g3.c0, trivial⟩)
  have HX := Lib.hid hC1
  have hC0 := hC2 _ (b0.keep (Chg.refl No _).drew) k0.drew
  clear hC1 hC2 h7 h7' hcell hcl hl hps hrq hy hf hrx b0 k0
  go_enter Tryz.func66, Tryz.ntmps66
  go_wp2_with fail
  refine wp_region_X C (by kernel_rfl) (by kernel_rfl) hC0 ?_
  clear hC0
  refine wpX_val (.pointer (some ⟨W0.heap.size, 2, none⟩)) rfl (by intro W hW; obtain ⟨c0, c1, c2, d0, _⟩ := HCELL.out W hW; go_simp) ?_
  simp only [Act.put, List.setIfInBounds_toArray, List.set_cons_zero, List.set_cons_succ]
  refine wpX_val (.slice ra rq.length rc) rfl (by intro W hW; obtain ⟨c0, c1, c2, d0, _⟩ := HCELL.out W hW; go_simp) ?_
  simp only [Act.put, List.setIfInBounds_toArray, List.set_cons_zero, List.set_cons_succ]
  refine wpX_val (.pointer (some ⟨W0.heap.size, 1, none⟩)) rfl (by intro W hW; obtain ⟨c0, c1, c2, d0, _⟩ := HCELL.out W hW; go_simp) ?_
  simp only [Act.put, List.setIfInBounds_toArray, List.set_cons_zero, List.set_cons_succ]
  refine wpX_val (.slice (some ⟨b, off, none⟩) ps.length cap) rfl (by intro W hW; obtain ⟨c0, c1, c2, d0, _⟩ := HCELL.out W hW; go_simp) ?_
  simp only [Act.put, List.setIfInBounds_toArray, List.set_cons_zero, List.set_cons_succ]
  refine wpX_val (.int .i64 i) rfl (by intro W hW; obtain ⟨c0, c1, c2, d0, _⟩ := HCELL.out W hW; go_simp) ?_
  simp only [Act.put, List.setIfInBounds_toArray, List.set_cons_zero, List.set_cons_succ]
  refine wpX_val (.pointer (some ⟨b, off + i * 7, none⟩)) rfl (by intro W hW; obtain ⟨c0, c1, c2, d0, _⟩ := HCELL.out W hW; go_simp) ?_
  simp only [Act.put, List.setIfInBounds_toArray, List.set_cons_zero, List.set_cons_succ]
  refine wpX_val (.pointer (some ⟨b, off + i * 7, none⟩)) rfl (by intro W hW; obtain ⟨c0, c1, c2, d0, _⟩ := HCELL.out W hW; go_simp) ?_
  simp only [Act.put, List.setIfInBounds_toArray, List.set_cons_zero, List.set_cons_succ]
  refine wpX_val (.int .i64 y.frm) rfl (by intro W hW; obtain ⟨c0, c1, c2, d0, _⟩ := HCELL.out W hW; go_simp) ?_
  simp only [Act.put, List.setIfInBounds_toArray, List.set_cons_zero, List.set_cons_succ]
  refine wpX_val (.slice xa xn xc) rfl (by intro W hW; obtain ⟨c0, c1, c2, d0, _⟩ := HCELL.out W hW; go_simp) ?_
  simp only [Act.put, List.setIfInBounds_toArray, List.set_cons_zero, List.set_cons_succ]
  refine wpX_val (.slice xa xn xc) rfl (by intro W hW; obtain ⟨c0, c1, c2, d0, _⟩ := HCELL.out W hW; go_simp) ?_
  simp only [Act.put, List.setIfInBounds_toArray, List.set_cons_zero, List.set_cons_succ]
  refine wpX_nil (fun W hW => ?_)
  go_wp2_with fail
  go_ret
  exact ⟨rfl, (HX.out W hW).2⟩

set_option maxRecDepth 100000 in
set_option maxHeartbeats 1000000 in
theorem fewest_any (v : Value) (t : To) (i : Nat) (w : World) (h : RT No w v t) (ht : tourB t = true) (hi : i < t.ps.length) :
    Calls Tryz.prog 62 #[v, .int .i64 (i : Int)] w (fun e w' => e = .returned (.int .i64 (fewT t i)) ∧ Chg No w w') := by
  obtain ⟨hfr, hpo, hpg, _⟩ := tour_facts ht hi
  obtain ⟨hsz, _, hl60, hbelow⟩ := pagB_facts hpg
  have hfw := fewN_ok hpg
  obtain ⟨f, hf⟩ : ∃ f : Nat, fewT t i = (f : Int) := ⟨(fewT t i).toNat, by have := hfw.1; unfold fewT; omega⟩
  have hfN : Fewest (t.ps.getD i dPl).ca.size.toNat (partL t i) f := by
    have := hfw.2
    unfold fewT at hf
    rw [hf, Int.toNat_natCast] at this
    exact this
  have hT := h
  obtain ⟨pa0, pn0, pc0, hpr, hpc⟩ := part_at v t i w h hi hfr
  have HPC := Lib.hid hpc
  have hneg : ∀ x ∈ partL t i, 0 ≤ x := fun x hx => (hbelow x hx).1
  have HNEG := Lib.hid hneg
  have HF := Lib.hid hf
  have HFN := Lib.hid hfN
  have HL := Lib.hid hl60
  obtain ⟨L, hL⟩ : ∃ L, partL t i = L := ⟨_, rfl⟩
  rw [hL] at hpr HNEG HFN HL
  clear hpc hneg hf hfN hl60 hbelow hpg hfw hpo hL ht hfr
  rw [HF.out]
  obtain ⟨it, ps, rq⟩ := t
  obtain ⟨pv, rv, rfl, hps, hrq⟩ := h
  simp only at hps hrq hi hsz HFN
  obtain ⟨ra, rc, rfl, _⟩ := id hrq
  obtain ⟨a, cap, rfl, hcap, hmax, hlen, pf, mf, hl, hcl⟩ := id hps
  obtain ⟨b, off, rfl, _, hb, hcell⟩ := hcl (by intro e; simp [e] at hi)
  have h7 := hcell i hi
  obtain ⟨y, hy⟩ : ∃ y, ps.getD i dPl = y := ⟨_, rfl⟩
  rw [hy] at h7 hsz HFN
  obtain ⟨K, hK⟩ : ∃ K : Nat, y.ca.size = (K : Int) := ⟨y.ca.size.toNat, by omega⟩
  have d2 := h7.c2
  rw [hK] at d2 hsz HFN
  have hi0 : (0 : Int) ≤ (i : Int) := Int.natCast_nonneg _
  have hi1 : (i : Int) < (ps.length : Int) := by omega
  have k0 := (Chg.refl No w).alloc (.cells #[.int .i64 it, .slice (some ⟨b, off, none⟩) ps.length cap, .slice ra rq.length rc] 31)
  have b0 := Box3.new w (.int .i64 it) (.slice (some ⟨b, off, none⟩) ps.length cap) (.slice ra rq.length rc) 31
  obtain ⟨C, hC1, hC2⟩ : ∃ C : World → Prop, (∀ W, C W → Box3 W w.heap.size (.int .i64 it) (.slice (some ⟨b, off, none⟩) ps.length cap) (.slice ra rq.length rc) ∧ Chg No w W) ∧
      (∀ W, Box3 W w.heap.size (.int .i64 it) (.slice (some ⟨b, off, none⟩) ps.length cap) (.slice ra rq.length rc) → Chg No w W → C W) := ⟨_, fun _ h => h, fun _ h h' => ⟨h, h'⟩⟩
  have HCELL : Hid (∀ W, C W → W.cell? ⟨w.heap.size, 0, none⟩ = some (.int .i64 it) ∧ W.cell? ⟨w.heap.size, 1, none⟩ = some (.slice (some ⟨b, off, none⟩) ps.length cap) ∧ W.cell? ⟨w.heap.size, 2, none⟩ = some (.slice ra rq.length rc) ∧
      W.cell? ⟨b, off + i * 7 + 2, none⟩ = some (.int .i64 (K : Int)) ∧ True) := Lib.hid (fun W hW => by
    obtain ⟨g1, g2⟩ := hC1 W hW
    exact ⟨g1.c0, g1.c1, g1.c2, (g2.cellD b _ hb (fun e => e)).trans d2, trivial⟩)
  have HK : Hid (∀ W W', C W → Chg No W W' → C W') := Lib.hid (fun W W' hW hk => hC2 W' ((hC1 W hW).1.keep hk) ((hC1 W hW).2.keep hk))
  have HX := Lib.hid hC1
  have hC0 := hC2 _ (b0.keep (Chg.refl No _).drew) k0.drew
  clear hC1 hC2 h7 hcell hcl hl hps hrq hy b0 k0 hT d2 HF
  go_enter Tryz.func62, Tryz.ntmps62
  go_wp2_with fail
  refine wp_region_X C (by kernel_rfl) (by kernel_rfl) hC0 ?_
  clear hC0
  refine wpX_val (.pointer (some ⟨w.heap.size, 1, none⟩)) rfl (by intro W hW; obtain ⟨c0, c1, c2, d2, _⟩ := HCELL.out W hW; go_simp) ?_
  simp only [Act.put, List.setIfInBounds_toArray, List.set_cons_zero, List.set_cons_succ]
  refine wpX_val (.slice (some ⟨b, off, none⟩) ps.length cap) rfl (by intro W hW; obtain ⟨c0, c1, c2, d2, _⟩ := HCELL.out W hW; go_simp) ?_
  simp only [Act.put, List.setIfInBounds_toArray, List.set_cons_zero, List.set_cons_succ]
  refine wpX_val (.int .i64 i) rfl (by intro W hW; obtain ⟨c0, c1, c2, d2, _⟩ := HCELL.out W hW; go_simp) ?_
  simp only [Act.put, List.setIfInBounds_toArray, List.set_cons_zero, List.set_cons_succ]
  refine wpX_val (.pointer (some ⟨b, off + i * 7, none⟩)) rfl (by intro W hW; obtain ⟨c0, c1, c2, d2, _⟩ := HCELL.out W hW; go_simp) ?_
  simp only [Act.put, List.setIfInBounds_toArray, List.set_cons_zero, List.set_cons_succ]
  refine wpX_val (.pointer (some ⟨b, off + i * 7 + 1, none⟩)) rfl (by intro W hW; obtain ⟨c0, c1, c2, d2, _⟩ := HCELL.out W hW; go_simp) ?_
  simp only [Act.put, List.setIfInBounds_toArray, List.set_cons_zero, List.set_cons_succ]
  refine wpX_val (.pointer (some ⟨b, off + i * 7 + 2, none⟩)) rfl (by intro W hW; obtain ⟨c0, c1, c2, d2, _⟩ := HCELL.out W hW; go_simp) ?_
  simp only [Act.put, List.setIfInBounds_toArray, List.set_cons_zero, List.set_cons_succ]
  refine wpX_val (.int .i64 (K : Int)) rfl (by intro W hW; obtain ⟨c0, c1, c2, d2, _⟩ := HCELL.out W hW; go_simp) ?_
  simp only [Act.put, List.setIfInBounds_toArray, List.set_cons_zero, List.set_cons_succ]
  refine wpX_val (.agg #[.int .i64 it, .slice (some ⟨b, off, none⟩) ps.length cap, .slice ra rq.length rc]) rfl (by intro W hW; obtain ⟨c0, c1, c2, d2, _⟩ := HCELL.out W hW; go_simp) ?_
  simp only [Act.put, List.setIfInBounds_toArray, List.set_cons_zero, List.set_cons_succ]
  refine wpX_val (.int .i64 i) rfl (by intro W hW; obtain ⟨c0, c1, c2, d2, _⟩ := HCELL.out W hW; go_simp) ?_
  simp only [Act.put, List.setIfInBounds_toArray, List.set_cons_zero, List.set_cons_succ]
  refine wpX_call (.slice pa0 pn0 pc0) (f := 66) (args := #[.agg #[.int .i64 it, .slice (some ⟨b, off, none⟩) ps.length cap, .slice ra rq.length rc], .int .i64 (i : Int)]) rfl (by intro W hW; go_simp) (fun W hW => (HPC.out W (HX.out W hW).2).mono (fun e w' h => ⟨h.1, HK.out _ _ hW h.2⟩)) ?_
  simp only [Act.put, List.setIfInBounds_toArray, List.set_cons_zero, List.set_cons_succ]
  refine wpX_call (.int .i64 (f : Int)) (f := 75) (args := #[.int .i64 (K : Int), .slice pa0 pn0 pc0]) rfl (by intro W hW; go_simp) (fun W hW => (fewestFaults_any K (by omega) _ L W (hpr.keep (HX.out W hW).2) HNEG.out HL.out f HFN.out).mono (by rintro e w' ⟨_, rfl, rfl, hk⟩; exact ⟨rfl, HK.out _ _ hW hk⟩)) ?_
  simp only [Act.put, List.setIfInBounds_toArray, List.set_cons_zero, List.set_cons_succ]
  refine wpX_val (.int .i64 (f : Int)) rfl (by intro W hW; obtain ⟨c0, c1, c2, d2, _⟩ := HCELL.out W hW; go_simp) ?_
  simp only [Act.put, List.setIfInBounds_toArray, List.set_cons_zero, List.set_cons_succ]
  refine wpX_nil (fun W hW => ?_)
  go_wp2_with fail
  go_ret
  exact ⟨rfl, (HX.out W hW).2⟩

set_option maxRecDepth 100000 in
set_option maxHeartbeats 1000000 in
theorem l12Fewest_any (v : Value) (t : To) (i : Nat) (w : World) (h : RT No w v t) (ht : tourB t = true) (hi : i < t.ps.length) :
    Calls Tryz.prog 63 #[v, .int .i64 (i : Int)] w (fun e w' => e = .returned (.int .i64 (fewT t i)) ∧ Chg No w w') := by
  obtain ⟨hfr, hpo, hpg, _⟩ := tour_facts ht hi
  obtain ⟨hsz, _, hl60, hbelow⟩ := pagB_facts hpg
  have hfw := fewN_ok hpg
  obtain ⟨f, hf⟩ : ∃ f : Nat, fewT t i = (f : Int) := ⟨(fewT t i).toNat, by have := hfw.1; unfold fewT; omega⟩
  have hfN : Fewest (t.ps.getD i dPl).ca.size.toNat (partL t i) f := by
    have := hfw.2
    unfold fewT at hf
    rw [hf, Int.toNat_natCast] at this
    exact this
  have HF : Hid (fewT t i = fewN (t.ps.getD i dPl).ca.size t.items (partL t i)) := Lib.hid rfl
  have HPG := Lib.hid hpg
  unfold partL at HF HPG
  clear hf hfN hl60 hbelow hpg hfw hpo ht
  obtain ⟨it, ps, rq⟩ := t
  obtain ⟨pv, rv, rfl, hps, hrq⟩ := h
  simp only at hps hrq hi hsz HF HPG hfr
  obtain ⟨ra, rc, rfl, _⟩ := id hrq
  obtain ⟨a, cap, rfl, hcap, hmax, hlen, pf, mf, hl, hcl⟩ := id hps
  obtain ⟨b, off, rfl, _, hb, hcell⟩ := hcl (by intro e; simp [e] at hi)
  have h7 := hcell i hi
  obtain ⟨hpj, hmj⟩ := hl i hi
  obtain ⟨y, hy⟩ : ∃ y, ps.getD i dPl = y := ⟨_, rfl⟩
  rw [hy] at h7 hsz HF HPG hfr hpj hmj
  obtain ⟨xs, hx, hrx⟩ := hrq.from y.frm.toNat y.frm (by omega) (by omega)
  obtain ⟨xa, xn, xc, rfl⟩ := hrx.shape
  generalize pf i = pj at hpj h7
  generalize mf i = mj at hmj h7
  obtain ⟨ya, yn, yc, rfl⟩ := hpj.shape
  obtain ⟨za, zn, zc, rfl⟩ := hmj.shape
  obtain ⟨L, hL⟩ : ∃ L, rq.drop y.frm.toNat = L := ⟨_, rfl⟩
  rw [hL] at hrx HF HPG
  rw [HF.out]
  have hi0 : (0 : Int) ≤ (i : Int) := Int.natCast_nonneg _
  have hi1 : (i : Int) < (ps.length : Int) := by omega
  have k0 := (Chg.refl No w).alloc (.cells #[.int .i64 it, .slice (some ⟨b, off, none⟩) ps.length cap, .slice ra rq.length rc] 31)
  have b0 := Box3.new w (.int .i64 it) (.slice (some ⟨b, off, none⟩) ps.length cap) (.slice ra rq.length rc) 31
  have h70 := h7.step k0 hb (fun e => e)
  obtain ⟨g0, g1, g2, g3, g4, g5, g6⟩ := id h70
  obtain ⟨c0, c1, c2, _⟩ := id b0
  go_enter Tryz.func63, Tryz.ntmps63
  go_wp2_with fail
  clear c0 c1 c2 g0 g1 g2 g3 g4 g5 g6
  obtain ⟨W1, hW1⟩ : ∃ W1, w.alloc (.cells #[.int .i64 it, .slice (some ⟨b, off, none⟩) ps.length cap, .slice ra rq.length rc] 31) = W1 := ⟨_, rfl⟩
  have hz1 : W1.heap.size = w.heap.size + 1 := by rw [← hW1]; simp
  rw [hW1] at k0 b0 ⊢
  clear hW1
  have b1 := (Box7.new W1 (.int .i64 y.frm) (.int .i64 y.ca.pol) (.int .i64 y.ca.size) (.slice ya yn yc) (.slice za zn zc) (.int .i64 y.ca.hand) (.int .i64 y.fa) 69).at hz1
  have k1 := (Chg.refl No W1).alloc (.cells #[.int .i64 y.frm, .int .i64 y.ca.pol, .int .i64 y.ca.size, .slice ya yn yc, .slice za zn zc, .int .i64 y.ca.hand, .int .i64 y.fa] 69)
  generalize W1.alloc (.cells #[.int .i64 y.frm, .int .i64 y.ca.pol, .int .i64 y.ca.size, .slice ya yn yc, .slice za zn zc, .int .i64 y.ca.hand, .int .i64 y.fa] 69) = W2 at b1 k1 ⊢
  replace b0 := b0.keep k1
  replace k0 := k0.keep k1
  obtain ⟨C, hC1, hC2⟩ : ∃ C : World → Prop, (∀ W, C W → Box3 W w.heap.size (.int .i64 it) (.slice (some ⟨b, off, none⟩) ps.length cap) (.slice ra rq.length rc) ∧ Box7 W (w.heap.size + 1) (.int .i64 y.frm) (.int .i64 y.ca.pol) (.int .i64 y.ca.size) (.slice ya yn yc) (.slice za zn zc) (.int .i64 y.ca.hand) (.int .i64 y.fa) ∧ Chg No w W) ∧
      (∀ W W', Chg No W W' → Chg No w W → Box3 W w.heap.size (.int .i64 it) (.slice (some ⟨b, off, none⟩) ps.length cap) (.slice ra rq.length rc) → Box7 W (w.heap.size + 1) (.int .i64 y.frm) (.int .i64 y.ca.pol) (.int .i64 y.ca.size) (.slice ya yn yc) (.slice za zn zc) (.int .i64 y.ca.hand) (.int .i64 y.fa) → C W') :=
    ⟨_, fun _ h => h, fun W W' k h1 h2 h3 => ⟨h2.keep k, h3.keep k, h1.keep k⟩⟩
  have HCELL : Hid (∀ W, C W → W.cell? ⟨w.heap.size, 0, none⟩ = some (.int .i64 it) ∧ W.cell? ⟨w.heap.size, 1, none⟩ = some (.slice (some ⟨b, off, none⟩) ps.length cap) ∧ W.cell? ⟨w.heap.size, 2, none⟩ = some (.slice ra rq.length rc) ∧
      W.cell? ⟨w.heap.size + 1, 0, none⟩ = some (.int .i64 y.frm) ∧ W.cell? ⟨w.heap.size + 1, 2, none⟩ = some (.int .i64 y.ca.size) ∧ True) := Lib.hid (fun W hW => by
    obtain ⟨g1, g2, _⟩ := hC1 W hW
    exact ⟨g1.c0, g1.c1, g1.c2, g2.c0, g2.c2, trivial⟩)
  have HK : Hid (∀ W W', C W → Chg No W W' → C W') := Lib.hid (fun W W' hW hk => hC2 W W' hk (hC1 W hW).2.2 (hC1 W hW).1 (hC1 W hW).2.1)
  have HX := Lib.hid (fun W hW => (hC1 W hW).2.2)
  have hC0 := hC2 _ _ (drewNo W2) k0 b0 b1
  clear hC1 hC2 h7 h70 hcell hcl hl hps hy b0 b1 k0 k1 HF hpj hmj
  refine wp_region_X C (by kernel_rfl) (by kernel_rfl) hC0 ?_
  clear hC0
  refine wpX_val (.pointer (some ⟨w.heap.size + 1, 1, none⟩)) rfl (by intro W hW; obtain ⟨c0, c1, c2, d0, d2, _⟩ := HCELL.out W hW; go_simp) ?_
  simp only [Act.put, List.setIfInBounds_toArray, List.set_cons_zero, List.set_cons_succ]
  refine wpX_val (.pointer (some ⟨w.heap.size + 1, 2, none⟩)) rfl (by intro W hW; obtain ⟨c0, c1, c2, d0, d2, _⟩ := HCELL.out W hW; go_simp) ?_
  simp only [Act.put, List.setIfInBounds_toArray, List.set_cons_zero, List.set_cons_succ]
  refine wpX_val (.int .i64 y.ca.size) rfl (by intro W hW; obtain ⟨c0, c1, c2, d0, d2, _⟩ := HCELL.out W hW; go_simp) ?_
  simp only [Act.put, List.setIfInBounds_toArray, List.set_cons_zero, List.set_cons_succ]
  refine wpX_val (.pointer (some ⟨w.heap.size, 0, none⟩)) rfl (by intro W hW; obtain ⟨c0, c1, c2, d0, d2, _⟩ := HCELL.out W hW; go_simp) ?_
  simp only [Act.put, List.setIfInBounds_toArray, List.set_cons_zero, List.set_cons_succ]
  refine wpX_val (.int .i64 it) rfl (by intro W hW; obtain ⟨c0, c1, c2, d0, d2, _⟩ := HCELL.out W hW; go_simp) ?_
  simp only [Act.put, List.setIfInBounds_toArray, List.set_cons_zero, List.set_cons_succ]
  refine wpX_val (.pointer (some ⟨w.heap.size, 2, none⟩)) rfl (by intro W hW; obtain ⟨c0, c1, c2, d0, d2, _⟩ := HCELL.out W hW; go_simp) ?_
  simp only [Act.put, List.setIfInBounds_toArray, List.set_cons_zero, List.set_cons_succ]
  refine wpX_val (.slice ra rq.length rc) rfl (by intro W hW; obtain ⟨c0, c1, c2, d0, d2, _⟩ := HCELL.out W hW; go_simp) ?_
  simp only [Act.put, List.setIfInBounds_toArray, List.set_cons_zero, List.set_cons_succ]
  refine wpX_val (.pointer (some ⟨w.heap.size + 1, 0, none⟩)) rfl (by intro W hW; obtain ⟨c0, c1, c2, d0, d2, _⟩ := HCELL.out W hW; go_simp) ?_
  simp only [Act.put, List.setIfInBounds_toArray, List.set_cons_zero, List.set_cons_succ]
  refine wpX_val (.int .i64 y.frm) rfl (by intro W hW; obtain ⟨c0, c1, c2, d0, d2, _⟩ := HCELL.out W hW; go_simp) ?_
  simp only [Act.put, List.setIfInBounds_toArray, List.set_cons_zero, List.set_cons_succ]
  refine wpX_val (.slice xa xn xc) rfl (by intro W hW; obtain ⟨c0, c1, c2, d0, d2, _⟩ := HCELL.out W hW; go_simp) ?_
  simp only [Act.put, List.setIfInBounds_toArray, List.set_cons_zero, List.set_cons_succ]
  refine wpX_call (.int .i64 (fewN y.ca.size it L)) (f := 112) (args := #[.int .i64 y.ca.size, .int .i64 it, .slice xa xn xc]) rfl (by intro W hW; go_simp) (fun W hW => (l5Opt_any y.ca.size it _ L W (hrx.keep (HX.out W hW)) HPG.out).mono (by rintro e w' ⟨_, rfl, rfl, hk⟩; exact ⟨rfl, HK.out _ _ hW hk⟩)) ?_
  simp only [Act.put, List.setIfInBounds_toArray, List.set_cons_zero, List.set_cons_succ]
  refine wpX_val (.int .i64 (fewN y.ca.size it L)) rfl (by intro W hW; obtain ⟨c0, c1, c2, d0, d2, _⟩ := HCELL.out W hW; go_simp) ?_
  simp only [Act.put, List.setIfInBounds_toArray, List.set_cons_zero, List.set_cons_succ]
  refine wpX_nil (fun W hW => ?_)
  go_wp2_with fail
  go_ret
  exact ⟨rfl, HX.out W hW⟩
end Go.Proofs.YtodnkkmjjlfoiaaGreat

/- RatioOf, both sides -/
namespace Go.Proofs.YtodnkkmjjlfoiaaGreat
open Go.RowKit

def okRat (t : To) (i : Int) : Bool := tourB t && hasP t i && !((t.ps.getD i.toNat dPl).frm == (t.reqs.length : Int))
def ratV (t : To) (i : Int) : Fr := if okRat t i then mkFr (t.ps.getD i.toNat dPl).fa (fewT t i.toNat) else ⟨0, 0, false⟩
theorem fewest_pos {k : Nat} {l : List Int} {f : Nat} (h : Fewest k l f) (hl : 0 < l.length) : 1 ≤ f := by
  cases l with
  | nil => simp at hl
  | cons r l =>
    obtain ⟨⟨S1, _, _, _, c1, _, h5⟩, _⟩ := h
    rcases h5 with ⟨h, _⟩ | ⟨_, h⟩
    · exact h.elim
    · omega
theorem rat_facts {t : To} (ht : tourB t = true) {i : Nat} (hi : i < t.ps.length) : (0 ≤ (t.ps.getD i dPl).fa ∧ (t.ps.getD i dPl).fa ≤ 60) ∧ (0 ≤ fewT t i ∧ fewT t i ≤ 60) ∧ ((t.ps.getD i dPl).frm ≠ (t.reqs.length : Int) → 1 ≤ fewT t i) := by
  obtain ⟨h1, h2, h3, h4⟩ := tour_facts ht hi
  obtain ⟨g1, _, g3, _⟩ := pagB_facts h3
  have hfw := fewN_ok h3
  have hlen := placesTo_le (newC (t.ps.getD i dPl).ca.pol (t.ps.getD i dPl).ca.size) (partL t i) (partL t i).length
  have hle : fewT t i ≤ 60 := by
    have := dpM_spec (k := (t.ps.getD i dPl).ca.size.toNat) (n := t.items.toNat) (by omega) (by have := (pagB_facts h3).2.1; omega) ((partL t i).map Int.toNat) 0 (fun x hx => by
      obtain ⟨y, hy, rfl⟩ := List.mem_map.1 hx
      have := (pagB_facts h3).2.2.2 y hy
      omega) (Nat.two_pow_pos _) (by rw [szM_zero]; omega)
    have h5 := this.2.1
    rw [List.length_map] at h5
    unfold fewT fewN
    omega
  refine ⟨⟨by omega, ?_⟩, ⟨hfw.1, hle⟩, fun hne => ?_⟩
  · rw [h4]; unfold places; omega
  · have hl : 0 < (partL t i).length := by unfold partL; rw [List.length_drop]; omega
    have := fewest_pos hfw.2 hl
    unfold fewT; omega

set_option maxRecDepth 100000 in
set_option maxHeartbeats 4000000 in
theorem implRatio_any (v : Value) (t : To) (i : Int) (w : World) (h : RT No w v t) :
    Calls Tryz.prog 29 #[v, .int .i64 i] w (Ret2 fun v0 v1 w' => v0 = .agg #[.int .i64 (ratV t i).num, .int .i64 (ratV t i).den] ∧ v1 = .bool (ratV t i).ok ∧ Chg No w w') := by
  have h0 := h
  obtain ⟨it, ps, rq⟩ := t
  obtain ⟨pv, rv, rfl, hps, hrq⟩ := h
  simp only at hps hrq
  obtain ⟨ra, rc, rfl, _⟩ := id hrq
  obtain ⟨a, cap, rfl, hcap, hmax, hlen, pf, mf, hl, hcl⟩ := id hps
  have hW0 : ∀ W, W = (w.alloc (.cells #[.int .i64 it, .slice a ps.length cap, .slice ra rq.length rc] 31)).alloc (.cells #[.int .i64 0, .int .i64 0] 61) → Chg No w W ∧ Box3 W w.heap.size (.int .i64 it) (.slice a ps.length cap) (.slice ra rq.length rc) ∧ BoxN W (w.heap.size + 1) [.int .i64 0, .int .i64 0] := fun W e => by
    subst e
    have hz : (w.alloc (.cells #[.int .i64 it, .slice a ps.length cap, .slice ra rq.length rc] 31)).heap.size = w.heap.size + 1 := by simp
    have hb := BoxN.new (w.alloc (.cells #[.int .i64 it, .slice a ps.length cap, .slice ra rq.length rc] 31)) #[.int .i64 0, .int .i64 0] 61
    rw [hz] at hb
    exact ⟨((Chg.refl No w).alloc _).alloc _, (Box3.new w _ _ _ _).keep ((Chg.refl No _).alloc _), hb⟩
  have HW0 := Lib.hid hW0
  clear hW0
  cases ht : tourB ⟨it, ps, rq⟩
  · have HV : Hid (ratV ⟨it, ps, rq⟩ i = ⟨0, 0, false⟩) := Lib.hid (by simp [ratV, okRat, ht])
    have HT := Lib.hid ht
    clear ht hl hcl
    go_enter Tryz.func29, Tryz.ntmps29
    go_wp2_with fail
    generalize hWW : (w.alloc _).alloc _ = WW
    obtain ⟨kk, b0, bR⟩ := HW0.out WW hWW.symm
    clear hWW
    refine (IsTournament_any _ ⟨it, ps, rq⟩ WW (h0.keep kk)).mono ?_
    rintro e w1 ⟨_, rfl, rfl, k1⟩
    rw [HT.out]
    replace kk := kk.keep k1
    replace bR := bR.keep k1
    have c00 := bR.c 0 _ rfl
    have c01 := bR.c 1 _ rfl
    have f0 := bR.fr 0
    have f1 := bR.fr 1
    have hl1 := bR.lt
    go_wp2_with fail
    exact bodyPost_ret (v := .tuple #[.agg #[.int .i64 0, .int .i64 0], .bool false]) (by simp [results, Tryz.results29, go_sem, *]) rfl ⟨_, _, rfl, by rw [HV.out], by rw [HV.out], (kk.setCell (p := ⟨w.heap.size + 1, 0, none⟩) (fun h => by simp at h; omega) _).setCell (p := ⟨w.heap.size + 1, 1, none⟩) (fun h => by simp at h; omega) _⟩
  · cases hh : hasP ⟨it, ps, rq⟩ i
    · have HV : Hid (ratV ⟨it, ps, rq⟩ i = ⟨0, 0, false⟩) := Lib.hid (by simp [ratV, okRat, hh])
      have HT := Lib.hid ht
      have HH := Lib.hid hh
      clear ht hh hl hcl
      go_enter Tryz.func29, Tryz.ntmps29
      go_wp2_with fail
      generalize hWW : (w.alloc _).alloc _ = WW
      obtain ⟨kk, b0, bR⟩ := HW0.out WW hWW.symm
      clear hWW
      refine (IsTournament_any _ ⟨it, ps, rq⟩ WW (h0.keep kk)).mono ?_
      rintro e w1 ⟨_, rfl, rfl, k1⟩
      rw [HT.out]
      replace kk := kk.keep k1
      replace bR := bR.keep k1
      obtain ⟨c0, c1, c2, _⟩ := b0.keep k1
      go_wp2_with fail
      refine (isPlayer_any _ ⟨it, ps, rq⟩ i _ (h0.keep kk)).mono ?_
      rintro e w2 ⟨_, rfl, rfl, k2⟩
      rw [HH.out]
      replace kk := kk.keep k2
      replace bR := bR.keep k2
      clear c0 c1 c2
      have c00 := bR.c 0 _ rfl
      have c01 := bR.c 1 _ rfl
      have f0 := bR.fr 0
      have f1 := bR.fr 1
      have hl1 := bR.lt
      go_wp2_with fail
      exact bodyPost_ret (v := .tuple #[.agg #[.int .i64 0, .int .i64 0], .bool false]) (by simp [results, Tryz.results29, go_sem, *]) rfl ⟨_, _, rfl, by rw [HV.out], by rw [HV.out], (kk.setCell (p := ⟨w.heap.size + 1, 0, none⟩) (fun h => by simp at h; omega) _).setCell (p := ⟨w.heap.size + 1, 1, none⟩) (fun h => by simp at h; omega) _⟩
    · have hik : 0 ≤ i ∧ i ≤ (ps.length : Int) - 1 := inB_iff.1 hh
      obtain ⟨k, rfl⟩ : ∃ k : Nat, i = (k : Int) := ⟨i.toNat, by omega⟩
      have hk : k < ps.length := by omega
      obtain ⟨b, off, rfl, _, hb, hcell⟩ := hcl (by intro e; simp [e] at hk)
      have h7 := hcell k hk
      have hfac := rat_facts (t := ⟨it, ps, rq⟩) ht (i := k) hk
      obtain ⟨hfr, _, _, _⟩ := tour_facts (t := ⟨it, ps, rq⟩) ht (i := k) hk
      have hok : okRat ⟨it, ps, rq⟩ (k : Int) = !((ps.getD k dPl).frm == (rq.length : Int)) := by simp only [okRat, ht, hh, Bool.true_and]; rfl
      have hrat : okRat ⟨it, ps, rq⟩ (k : Int) = true → ratV ⟨it, ps, rq⟩ (k : Int) = mkFr (ps.getD k dPl).fa (fewT ⟨it, ps, rq⟩ k) := fun h => by unfold ratV; rw [h]; rfl
      simp only at hfac hfr
      obtain ⟨y, hy⟩ : ∃ y, ps.getD k dPl = y := ⟨_, rfl⟩
      obtain ⟨fw, hfw⟩ : ∃ fw, fewT ⟨it, ps, rq⟩ k = fw := ⟨_, rfl⟩
      rw [hy] at h7 hfac hok hrat hfr
      rw [hfw] at hfac hrat
      have D6 := Lib.hid h7.c6
      have HT := Lib.hid ht
      have HH := Lib.hid hh
      have HFW := Lib.hid hfw
      have HY := Lib.hid hy
      have HOK := Lib.hid hok
      have HRAT := Lib.hid hrat
      obtain ⟨⟨hf1, hf2⟩, ⟨hf3, hf4⟩, hf5⟩ := hfac
      have hk0 : (0 : Int) ≤ (k : Int) := Int.natCast_nonneg _
      have hk1 : (k : Int) < (ps.length : Int) := by omega
      obtain ⟨pa0, pn0, pc0, hpr, hpc⟩ := part_at _ ⟨it, ps, rq⟩ k w h0 hk (by simp only [hy]; exact hfr)
      have hpn : pn0 = rq.length - y.frm.toNat := by
        have := hpr.n.1
        rw [this]; unfold partL; rw [List.length_drop]
        simp only [hy]
      have HPC := Lib.hid hpc
      clear ht hh hok hrat hfw hl hcl h7 hcell hik hy hpc hpr
      by_cases hle : y.frm = (rq.length : Int)
      · have HV : Hid (ratV ⟨it, ps, rq⟩ (k : Int) = ⟨0, 0, false⟩) := Lib.hid (by
          have : okRat ⟨it, ps, rq⟩ (k : Int) = false := by rw [HOK.out, hle]; simp
          unfold ratV; rw [this]; rfl)
        have hpn0 : pn0 = 0 := by omega
        subst hpn0
        clear hpn hle hfr hf5 HRAT
        go_enter Tryz.func29, Tryz.ntmps29
        go_wp2_with fail
        generalize hWW : (w.alloc _).alloc _ = WW
        obtain ⟨kk, b0, bR⟩ := HW0.out WW hWW.symm
        clear hWW
        refine (IsTournament_any _ ⟨it, ps, rq⟩ WW (h0.keep kk)).mono ?_
        rintro e w1 ⟨_, rfl, rfl, k1⟩
        rw [HT.out]
        replace kk := kk.keep k1
        replace bR := bR.keep k1
        replace b0 := b0.keep k1
        obtain ⟨c0, c1, c2, _⟩ := id b0
        go_wp2_with fail
        refine (isPlayer_any _ ⟨it, ps, rq⟩ _ _ (h0.keep kk)).mono ?_
        rintro e w2 ⟨_, rfl, rfl, k2⟩
        rw [HH.out]
        replace kk := kk.keep k2
        replace bR := bR.keep k2
        replace b0 := b0.keep k2
        clear c0 c1 c2
        obtain ⟨c0, c1, c2, _⟩ := id b0
        go_wp2_with fail
        refine (HPC.out w2 kk).mono ?_
        rintro e w3 ⟨rfl, k3⟩
        replace kk := kk.keep k3
        replace bR := bR.keep k3
        clear c0 c1 c2
        have c00 := bR.c 0 _ rfl
        have c01 := bR.c 1 _ rfl
        have f0 := bR.fr 0
        have f1 := bR.fr 1
        have hl1 := bR.lt
        go_wp2_with fail
        exact bodyPost_ret (v := .tuple #[.agg #[.int .i64 0, .int .i64 0], .bool false]) (by simp [results, Tryz.results29, go_sem, *]) rfl ⟨_, _, rfl, by rw [HV.out], by rw [HV.out], (kk.setCell (p := ⟨w.heap.size + 1, 0, none⟩) (fun h => by simp at h; omega) _).setCell (p := ⟨w.heap.size + 1, 1, none⟩) (fun h => by simp at h; omega) _⟩
      · have hf6 := hf5 hle
        have hokt : okRat ⟨it, ps, rq⟩ (k : Int) = true := by rw [HOK.out]; simpa using hle
        have hval := HRAT.out hokt
        obtain ⟨r, hr⟩ : ∃ r, mkFr y.fa fw = r := ⟨_, rfl⟩
        rw [hr] at hval
        have HV := Lib.hid hval
        have HR := Lib.hid hr
        have hpn0 : ¬ ((pn0 : Int) = 0) := by omega
        have hpn1 : ((pn0 : Int) == 0) = false := by rw [beq_eq_false_iff_ne]; exact hpn0
        have hpn2 : (pn0 == 0) = false := by rw [beq_eq_false_iff_ne]; omega
        clear hpn hle hfr hf5 HRAT hokt hval hr
        go_enter Tryz.func29, Tryz.ntmps29
        go_wp2_with fail
        generalize hWW : (w.alloc _).alloc _ = WW
        obtain ⟨kk, b0, bR⟩ := HW0.out WW hWW.symm
        clear hWW
        refine (IsTournament_any _ ⟨it, ps, rq⟩ WW (h0.keep kk)).mono ?_
        rintro e w1 ⟨_, rfl, rfl, k1⟩
        rw [HT.out]
        replace kk := kk.keep k1
        replace bR := bR.keep k1
        replace b0 := b0.keep k1
        obtain ⟨c0, c1, c2, _⟩ := id b0
        go_wp2_with fail
        refine (isPlayer_any _ ⟨it, ps, rq⟩ _ _ (h0.keep kk)).mono ?_
        rintro e w2 ⟨_, rfl, rfl, k2⟩
        rw [HH.out]
        replace kk := kk.keep k2
        replace bR := bR.keep k2
        replace b0 := b0.keep k2
        clear c0 c1 c2
        obtain ⟨c0, c1, c2, _⟩ := id b0
        go_wp2_with fail
        refine (HPC.out w2 kk).mono ?_
        rintro e w3 ⟨rfl, k3⟩
        replace kk := kk.keep k3
        replace bR := bR.keep k3
        replace b0 := b0.keep k3
        clear c0 c1 c2 hpn0
        go_wp2_with fail
        refine wp_region_K (S := fun W => (W.cell? ⟨w.heap.size, 0, none⟩ = some (.int .i64 it) ∧ W.cell? ⟨w.heap.size, 1, none⟩ = some (.slice (some ⟨b, off, none⟩) ps.length cap) ∧ W.cell? ⟨w.heap.size, 2, none⟩ = some (.slice ra rq.length rc)) ∧ W.cell? ⟨b, off + k * 7 + 6, none⟩ = some (.int .i64 y.fa)) (k := 12) (by kernel_rfl) ?_
        replace kk := kk.keep (drewNo _)
        replace b0 := b0.keep (drewNo _)
        replace bR := bR.keep (drewNo _)
        generalize w3.drew = WR at kk b0 bR ⊢
        have hS : (WR.cell? ⟨w.heap.size, 0, none⟩ = some (.int .i64 it) ∧ WR.cell? ⟨w.heap.size, 1, none⟩ = some (.slice (some ⟨b, off, none⟩) ps.length cap) ∧ WR.cell? ⟨w.heap.size, 2, none⟩ = some (.slice ra rq.length rc)) ∧ WR.cell? ⟨b, off + k * 7 + 6, none⟩ = some (.int .i64 y.fa) := ⟨⟨b0.c0, b0.c1, b0.c2⟩, (kk.cellD b _ hb (fun e => e)).trans D6.out⟩
        refine wpAnyK_take0 0 (.pointer (some ⟨w.heap.size, 1, none⟩)) rfl (by kernel_rfl) (fun _ _ _ h => h) hS rfl (by intro w; go_simp) ?_
        simp only [List.getElem_toArray, List.getElem_cons_zero, Act.put, List.setIfInBounds_toArray, List.set_cons_zero, List.set_cons_succ]
        refine wpAnyK_take0 2 (.int .i64 (k : Int)) rfl (by kernel_rfl) (fun _ _ _ h => h) hS rfl (by intro w; go_simp) ?_
        simp only [List.getElem_toArray, List.getElem_cons_succ, List.getElem_cons_zero, Act.put, List.setIfInBounds_toArray, List.set_cons_zero, List.set_cons_succ]
        refine wpAnyK_take 1 (.slice (some ⟨b, off, none⟩) ps.length cap) rfl (by kernel_rfl) (fun _ _ _ h => h) hS rfl (by intro w hSw; go_simp) ?_
        simp only [List.getElem_toArray, List.getElem_cons_succ, List.getElem_cons_zero, Act.put, List.setIfInBounds_toArray, List.set_cons_zero, List.set_cons_succ]
        refine wpAnyK_take0 3 (.pointer (some ⟨b, off + k * 7, none⟩)) rfl (by kernel_rfl) (fun _ _ _ h => h) hS rfl (by intro w; go_simp) ?_
        simp only [List.getElem_toArray, List.getElem_cons_succ, List.getElem_cons_zero, Act.put, List.setIfInBounds_toArray, List.set_cons_zero, List.set_cons_succ]
        refine wpAnyK_take0 4 (.pointer (some ⟨b, off + k * 7 + 6, none⟩)) rfl (by kernel_rfl) (fun _ _ _ h => h) hS rfl (by intro w; go_simp) ?_
        simp only [List.getElem_toArray, List.getElem_cons_succ, List.getElem_cons_zero, Act.put, List.setIfInBounds_toArray, List.set_cons_zero, List.set_cons_succ]
        refine wpAnyK_take 5 (.int .i64 y.fa) rfl (by kernel_rfl) (fun _ _ _ h => h) hS rfl (by intro w hSw; go_simp) ?_
        simp only [List.getElem_toArray, List.getElem_cons_succ, List.getElem_cons_zero, Act.put, List.setIfInBounds_toArray, List.set_cons_zero, List.set_cons_succ]
        refine wpAnyK_take 6 (.agg #[.int .i64 it, .slice (some ⟨b, off, none⟩) ps.length cap, .slice ra rq.length rc]) rfl (by kernel_rfl) (fun _ _ _ h => h) hS rfl (by intro w hSw; go_simp) ?_
        simp only [List.getElem_toArray, List.getElem_cons_succ, List.getElem_cons_zero, Act.put, List.setIfInBounds_toArray, List.set_cons_zero, List.set_cons_succ]
        refine wpAnyK_take0 7 (.int .i64 (k : Int)) rfl (by kernel_rfl) (fun _ _ _ h => h) hS rfl (by intro w; go_simp) ?_
        simp only [List.getElem_toArray, List.getElem_cons_succ, List.getElem_cons_zero, Act.put, List.setIfInBounds_toArray, List.set_cons_zero, List.set_cons_succ]
        refine wpAnyK_1 8 (by kernel_rfl) (wpOpK' rfl rfl ?_)
        intro K hK
        refine ocallR (f := 62) (args := #[.agg #[.int .i64 it, .slice (some ⟨b, off, none⟩) ps.length cap, .slice ra rq.length rc], .int .i64 (k : Int)]) (by go_simp) (fewest_any _ ⟨it, ps, rq⟩ k WR (h0.keep kk) HT.out hk) (fun w8 k8 => hK.out _ _ ⟨⟨(b0.keep k8).c0, (b0.keep k8).c1, (b0.keep k8).c2⟩, ((kk.keep k8).cellD b _ hb (fun e => e)).trans D6.out⟩ ?_)
        rw [HFW.out]
        replace kk := kk.keep k8
        replace b0 := b0.keep k8
        replace bR := bR.keep k8
        clear hK K hS k8
        simp only [List.getElem_toArray, List.getElem_cons_succ, List.getElem_cons_zero, Act.put, List.setIfInBounds_toArray, List.set_cons_zero, List.set_cons_succ]
        refine wpAnyK_1 9 (by kernel_rfl) (wpOpK' rfl rfl ?_)
        intro K hK
        refine ocallR (f := 67) (args := #[.int .i64 y.fa, .int .i64 fw]) (v := .tuple #[.agg #[.int .i64 r.num, .int .i64 r.den], .bool r.ok]) (φ := fun w' => Chg No w8 w') (by go_simp) ((makeFrac_any y.fa fw w8 (by omega) (by omega) (by omega) (by omega)).mono (by rintro e w' ⟨_, _, rfl, rfl, rfl, hk⟩; rw [HR.out]; exact ⟨rfl, hk⟩)) (fun w9 k9 => hK.out _ _ ⟨⟨(b0.keep k9).c0, (b0.keep k9).c1, (b0.keep k9).c2⟩, ((kk.keep k9).cellD b _ hb (fun e => e)).trans D6.out⟩ ?_)
        replace kk := kk.keep k9
        replace b0 := b0.keep k9
        replace bR := bR.keep k9
        clear hK K k9
        simp only [List.getElem_toArray, List.getElem_cons_succ, List.getElem_cons_zero, Act.put, List.setIfInBounds_toArray, List.set_cons_zero, List.set_cons_succ]
        have hS : (w9.cell? ⟨w.heap.size, 0, none⟩ = some (.int .i64 it) ∧ w9.cell? ⟨w.heap.size, 1, none⟩ = some (.slice (some ⟨b, off, none⟩) ps.length cap) ∧ w9.cell? ⟨w.heap.size, 2, none⟩ = some (.slice ra rq.length rc)) ∧ w9.cell? ⟨b, off + k * 7 + 6, none⟩ = some (.int .i64 y.fa) := ⟨⟨b0.c0, b0.c1, b0.c2⟩, (kk.cellD b _ hb (fun e => e)).trans D6.out⟩
        refine wpAnyK_take0 10 (.agg #[.int .i64 r.num, .int .i64 r.den]) rfl (by kernel_rfl) (fun _ _ _ h => h) hS rfl (by intro w; go_simp) ?_
        simp only [List.getElem_toArray, List.getElem_cons_succ, List.getElem_cons_zero, Act.put, List.setIfInBounds_toArray, List.set_cons_zero, List.set_cons_succ]
        refine wpAnyK_take0 11 (.bool r.ok) rfl (by kernel_rfl) (fun _ _ _ h => h) hS rfl (by intro w; go_simp) ?_
        simp only [List.getElem_toArray, List.getElem_cons_succ, List.getElem_cons_zero, Act.put, List.setIfInBounds_toArray, List.set_cons_zero, List.set_cons_succ]
        refine wpAnyK_tail 12 rfl (by kernel_rfl) ?_
        simp only [List.drop_succ_cons, List.drop_zero]
        have c00 := bR.c 0 _ rfl
        have c01 := bR.c 1 _ rfl
        have f0 := bR.fr 0
        have f1 := bR.fr 1
        have hl1 := bR.lt
        go_wp2_with fail
        exact bodyPost_ret (v := .tuple #[.agg #[.int .i64 r.num, .int .i64 r.den], .bool r.ok]) (by simp [results, Tryz.results29, go_sem, *]) rfl ⟨_, _, rfl, by rw [HV.out], by rw [HV.out], (kk.setCell (p := ⟨w.heap.size + 1, 0, none⟩) (fun h => by simp at h; omega) _).setCell (p := ⟨w.heap.size + 1, 1, none⟩) (fun h => by simp at h; omega) _⟩

set_option maxRecDepth 100000 in
set_option maxHeartbeats 4000000 in
theorem specRatio_any (v : Value) (t : To) (i : Int) (w : World) (h : RT No w v t) :
    Calls Tryz.prog 30 #[v, .int .i64 i] w (Ret2 fun v0 v1 w' => v0 = .agg #[.int .i64 (ratV t i).num, .int .i64 (ratV t i).den] ∧ v1 = .bool (ratV t i).ok ∧ Chg No w w') := by
  have h0 := h
  obtain ⟨it, ps, rq⟩ := t
  obtain ⟨pv, rv, rfl, hps, hrq⟩ := h
  simp only at hps hrq
  obtain ⟨ra, rc, rfl, _⟩ := id hrq
  obtain ⟨a, cap, rfl, hcap, hmax, hlen, pf, mf, hl, hcl⟩ := id hps
  have hW0 : ∀ W, W = (w.alloc (.cells #[.int .i64 it, .slice a ps.length cap, .slice ra rq.length rc] 31)).alloc (.cells #[.int .i64 0, .int .i64 0] 61) → Chg No w W ∧ Box3 W w.heap.size (.int .i64 it) (.slice a ps.length cap) (.slice ra rq.length rc) ∧ BoxN W (w.heap.size + 1) [.int .i64 0, .int .i64 0] := fun W e => by
    subst e
    have hz : (w.alloc (.cells #[.int .i64 it, .slice a ps.length cap, .slice ra rq.length rc] 31)).heap.size = w.heap.size + 1 := by simp
    have hb := BoxN.new (w.alloc (.cells #[.int .i64 it, .slice a ps.length cap, .slice ra rq.length rc] 31)) #[.int .i64 0, .int .i64 0] 61
    rw [hz] at hb
    exact ⟨((Chg.refl No w).alloc _).alloc _, (Box3.new w _ _ _ _).keep ((Chg.refl No _).alloc _), hb⟩
  have HW0 := Lib.hid hW0
  clear hW0
  cases ht : tourB ⟨it, ps, rq⟩
  · have HV : Hid (ratV ⟨it, ps, rq⟩ i = ⟨0, 0, false⟩) := Lib.hid (by simp [ratV, okRat, ht])
    have HT := Lib.hid ht
    clear ht hl hcl
    go_enter Tryz.func30, Tryz.ntmps30
    go_wp2_with fail
    generalize hWW : (w.alloc _).alloc _ = WW
    obtain ⟨kk, b0, bR⟩ := HW0.out WW hWW.symm
    clear hWW
    obtain ⟨C, hC1, hC2⟩ : ∃ C : World → Prop, (∀ W, C W → Chg No w W ∧ Box3 W w.heap.size (.int .i64 it) (.slice a ps.length cap) (.slice ra rq.length rc) ∧ BoxN W (w.heap.size + 1) [.int .i64 0, .int .i64 0]) ∧
        (∀ W W', Chg No W W' → Chg No w W → Box3 W w.heap.size (.int .i64 it) (.slice a ps.length cap) (.slice ra rq.length rc) → BoxN W (w.heap.size + 1) [.int .i64 0, .int .i64 0] → C W') :=
      ⟨_, fun _ h => h, fun W W' k h1 h2 h3 => ⟨h1.keep k, h2.keep k, h3.keep k⟩⟩
    have HCELL : Hid (∀ W, C W → W.cell? ⟨w.heap.size, 0, none⟩ = some (.int .i64 it) ∧ W.cell? ⟨w.heap.size, 1, none⟩ = some (.slice a ps.length cap) ∧ W.cell? ⟨w.heap.size, 2, none⟩ = some (.slice ra rq.length rc) ∧  True) := Lib.hid (fun W hW => by
      obtain ⟨g0, g1, _⟩ := hC1 W hW
      exact ⟨g1.c0, g1.c1, g1.c2,  trivial⟩)
    have HK : Hid (∀ W W', C W → Chg No W W' → C W') := Lib.hid (fun W W' hW hk => hC2 W W' hk (hC1 W hW).1 (hC1 W hW).2.1 (hC1 W hW).2.2)
    have HX := Lib.hid hC1
    refine wp_region_X C (by kernel_rfl) (by kernel_rfl) (hC2 _ _ (drewNo WW) kk b0 bR) ?_
    refine wpX_val (.agg #[.int .i64 it, .slice a ps.length cap, .slice ra rq.length rc]) rfl (by intro W hW; obtain ⟨c0, c1, c2, _⟩ := HCELL.out W hW; go_simp) ?_
    simp only [Act.put, List.setIfInBounds_toArray, List.set_cons_zero, List.set_cons_succ]
    refine wpX_call (.bool false) (f := 39) (args := #[.agg #[.int .i64 it, .slice a ps.length cap, .slice ra rq.length rc]]) rfl (by intro W hW; obtain ⟨c0, c1, c2, _⟩ := HCELL.out W hW; go_simp) (fun W hW => (l12Tour_any _ ⟨it, ps, rq⟩ W (h0.keep (HX.out W hW).1)).mono (by rintro e w' ⟨_, rfl, rfl, hk⟩; rw [HT.out]; exact ⟨rfl, HK.out _ _ hW hk⟩)) ?_
    simp only [Act.put, List.setIfInBounds_toArray, List.set_cons_zero, List.set_cons_succ]
    refine wpX_val (.bool (!false)) rfl (by intro W hW; obtain ⟨c0, c1, c2, _⟩ := HCELL.out W hW; go_simp) ?_
    simp only [Act.put, List.setIfInBounds_toArray, List.set_cons_zero, List.set_cons_succ]
    refine wpX_val (.bool (!false)) rfl (by intro W hW; obtain ⟨c0, c1, c2, _⟩ := HCELL.out W hW; go_simp) ?_
    simp only [Act.put, List.setIfInBounds_toArray, List.set_cons_zero, List.set_cons_succ]
    repeat (refine wpX_skip rfl ?_; simp only [Act.put, List.setIfInBounds_toArray, List.set_cons_zero, List.set_cons_succ])
    refine wpX_val (.bool true) rfl (by intro W hW; obtain ⟨c0, c1, c2, _⟩ := HCELL.out W hW; go_simp) ?_
    simp only [Act.put, List.setIfInBounds_toArray, List.set_cons_zero, List.set_cons_succ]
    refine wpX_val (.bool true) rfl (by intro W hW; obtain ⟨c0, c1, c2, _⟩ := HCELL.out W hW; go_simp) ?_
    simp only [Act.put, List.setIfInBounds_toArray, List.set_cons_zero, List.set_cons_succ]
    repeat (refine wpX_skip rfl ?_; simp only [Act.put, List.setIfInBounds_toArray, List.set_cons_zero, List.set_cons_succ])
    refine wpX_val (.bool true) rfl (by intro W hW; obtain ⟨c0, c1, c2, _⟩ := HCELL.out W hW; go_simp) ?_
    simp only [Act.put, List.setIfInBounds_toArray, List.set_cons_zero, List.set_cons_succ]
    refine wpX_nil (fun W hW => ?_)
    obtain ⟨kk, b0, bR⟩ := HX.out W hW
    have c00 := bR.c 0 _ rfl
    have c01 := bR.c 1 _ rfl
    have f0 := bR.fr 0
    have f1 := bR.fr 1
    have hl1 := bR.lt
    go_wp2_with fail
    exact bodyPost_ret (v := .tuple #[.agg #[.int .i64 0, .int .i64 0], .bool false]) (by simp [results, Tryz.results30, go_sem, *]) rfl ⟨_, _, rfl, by rw [HV.out], by rw [HV.out], (kk.setCell (p := ⟨w.heap.size + 1, 0, none⟩) (fun h => by simp at h; omega) _).setCell (p := ⟨w.heap.size + 1, 1, none⟩) (fun h => by simp at h; omega) _⟩
  · cases hh : hasP ⟨it, ps, rq⟩ i
    · have HV : Hid (ratV ⟨it, ps, rq⟩ i = ⟨0, 0, false⟩) := Lib.hid (by simp [ratV, okRat, hh])
      have HT := Lib.hid ht
      have HH := Lib.hid hh
      clear ht hh hl hcl
      go_enter Tryz.func30, Tryz.ntmps30
      go_wp2_with fail
      generalize hWW : (w.alloc _).alloc _ = WW
      obtain ⟨kk, b0, bR⟩ := HW0.out WW hWW.symm
      clear hWW
      obtain ⟨C, hC1, hC2⟩ : ∃ C : World → Prop, (∀ W, C W → Chg No w W ∧ Box3 W w.heap.size (.int .i64 it) (.slice a ps.length cap) (.slice ra rq.length rc) ∧ BoxN W (w.heap.size + 1) [.int .i64 0, .int .i64 0]) ∧
          (∀ W W', Chg No W W' → Chg No w W → Box3 W w.heap.size (.int .i64 it) (.slice a ps.length cap) (.slice ra rq.length rc) → BoxN W (w.heap.size + 1) [.int .i64 0, .int .i64 0] → C W') :=
        ⟨_, fun _ h => h, fun W W' k h1 h2 h3 => ⟨h1.keep k, h2.keep k, h3.keep k⟩⟩
      have HCELL : Hid (∀ W, C W → W.cell? ⟨w.heap.size, 0, none⟩ = some (.int .i64 it) ∧ W.cell? ⟨w.heap.size, 1, none⟩ = some (.slice a ps.length cap) ∧ W.cell? ⟨w.heap.size, 2, none⟩ = some (.slice ra rq.length rc) ∧  True) := Lib.hid (fun W hW => by
        obtain ⟨g0, g1, _⟩ := hC1 W hW
        exact ⟨g1.c0, g1.c1, g1.c2,  trivial⟩)
      have HK : Hid (∀ W W', C W → Chg No W W' → C W') := Lib.hid (fun W W' hW hk => hC2 W W' hk (hC1 W hW).1 (hC1 W hW).2.1 (hC1 W hW).2.2)
      have HX := Lib.hid hC1
      refine wp_region_X C (by kernel_rfl) (by kernel_rfl) (hC2 _ _ (drewNo WW) kk b0 bR) ?_
      refine wpX_val (.agg #[.int .i64 it, .slice a ps.length cap, .slice ra rq.length rc]) rfl (by intro W hW; obtain ⟨c0, c1, c2, _⟩ := HCELL.out W hW; go_simp) ?_
      simp only [Act.put, List.setIfInBounds_toArray, List.set_cons_zero, List.set_cons_succ]
      refine wpX_call (.bool true) (f := 39) (args := #[.agg #[.int .i64 it, .slice a ps.length cap, .slice ra rq.length rc]]) rfl (by intro W hW; obtain ⟨c0, c1, c2, _⟩ := HCELL.out W hW; go_simp) (fun W hW => (l12Tour_any _ ⟨it, ps, rq⟩ W (h0.keep (HX.out W hW).1)).mono (by rintro e w' ⟨_, rfl, rfl, hk⟩; rw [HT.out]; exact ⟨rfl, HK.out _ _ hW hk⟩)) ?_
      simp only [Act.put, List.setIfInBounds_toArray, List.set_cons_zero, List.set_cons_succ]
      refine wpX_val (.bool (!true)) rfl (by intro W hW; obtain ⟨c0, c1, c2, _⟩ := HCELL.out W hW; go_simp) ?_
      simp only [Act.put, List.setIfInBounds_toArray, List.set_cons_zero, List.set_cons_succ]
      refine wpX_val (.bool (!true)) rfl (by intro W hW; obtain ⟨c0, c1, c2, _⟩ := HCELL.out W hW; go_simp) ?_
      simp only [Act.put, List.setIfInBounds_toArray, List.set_cons_zero, List.set_cons_succ]
      refine wpX_val (.agg #[.int .i64 it, .slice a ps.length cap, .slice ra rq.length rc]) rfl (by intro W hW; obtain ⟨c0, c1, c2, _⟩ := HCELL.out W hW; go_simp) ?_
      simp only [Act.put, List.setIfInBounds_toArray, List.set_cons_zero, List.set_cons_succ]
      refine wpX_val (.int .i64 i) rfl (by intro W hW; obtain ⟨c0, c1, c2, _⟩ := HCELL.out W hW; go_simp) ?_
      simp only [Act.put, List.setIfInBounds_toArray, List.set_cons_zero, List.set_cons_succ]
      refine wpX_call (.bool false) (f := 68) (args := #[.agg #[.int .i64 it, .slice a ps.length cap, .slice ra rq.length rc], .int .i64 i]) rfl (by intro W hW; obtain ⟨c0, c1, c2, _⟩ := HCELL.out W hW; go_simp) (fun W hW => (l12Has_any _ ⟨it, ps, rq⟩ i W (h0.keep (HX.out W hW).1)).mono (by rintro e w' ⟨_, rfl, rfl, hk⟩; rw [HH.out]; exact ⟨rfl, HK.out _ _ hW hk⟩)) ?_
      simp only [Act.put, List.setIfInBounds_toArray, List.set_cons_zero, List.set_cons_succ]
      refine wpX_val (.bool (!false)) rfl (by intro W hW; obtain ⟨c0, c1, c2, _⟩ := HCELL.out W hW; go_simp) ?_
      simp only [Act.put, List.setIfInBounds_toArray, List.set_cons_zero, List.set_cons_succ]
      refine wpX_val (.bool (!false)) rfl (by intro W hW; obtain ⟨c0, c1, c2, _⟩ := HCELL.out W hW; go_simp) ?_
      simp only [Act.put, List.setIfInBounds_toArray, List.set_cons_zero, List.set_cons_succ]
      refine wpX_val (.bool (!false)) rfl (by intro W hW; obtain ⟨c0, c1, c2, _⟩ := HCELL.out W hW; go_simp) ?_
      simp only [Act.put, List.setIfInBounds_toArray, List.set_cons_zero, List.set_cons_succ]
      repeat (refine wpX_skip rfl ?_; simp only [Act.put, List.setIfInBounds_toArray, List.set_cons_zero, List.set_cons_succ])
      refine wpX_val (.bool true) rfl (by intro W hW; obtain ⟨c0, c1, c2, _⟩ := HCELL.out W hW; go_simp) ?_
      simp only [Act.put, List.setIfInBounds_toArray, List.set_cons_zero, List.set_cons_succ]
      refine wpX_nil (fun W hW => ?_)
      obtain ⟨kk, b0, bR⟩ := HX.out W hW
      have c00 := bR.c 0 _ rfl
      have c01 := bR.c 1 _ rfl
      have f0 := bR.fr 0
      have f1 := bR.fr 1
      have hl1 := bR.lt
      go_wp2_with fail
      exact bodyPost_ret (v := .tuple #[.agg #[.int .i64 0, .int .i64 0], .bool false]) (by simp [results, Tryz.results30, go_sem, *]) rfl ⟨_, _, rfl, by rw [HV.out], by rw [HV.out], (kk.setCell (p := ⟨w.heap.size + 1, 0, none⟩) (fun h => by simp at h; omega) _).setCell (p := ⟨w.heap.size + 1, 1, none⟩) (fun h => by simp at h; omega) _⟩
    · have hik : 0 ≤ i ∧ i ≤ (ps.length : Int) - 1 := inB_iff.1 hh
      obtain ⟨k, rfl⟩ : ∃ k : Nat, i = (k : Int) := ⟨i.toNat, by omega⟩
      have hk : k < ps.length := by omega
      obtain ⟨b, off, rfl, _, hb, hcell⟩ := hcl (by intro e; simp [e] at hk)
      have h7 := hcell k hk
      have hfac := rat_facts (t := ⟨it, ps, rq⟩) ht (i := k) hk
      obtain ⟨hfr, _, _, _⟩ := tour_facts (t := ⟨it, ps, rq⟩) ht (i := k) hk
      have hok : okRat ⟨it, ps, rq⟩ (k : Int) = !((ps.getD k dPl).frm == (rq.length : Int)) := by simp only [okRat, ht, hh, Bool.true_and]; rfl
      have hrat : okRat ⟨it, ps, rq⟩ (k : Int) = true → ratV ⟨it, ps, rq⟩ (k : Int) = mkFr (ps.getD k dPl).fa (fewT ⟨it, ps, rq⟩ k) := fun h => by unfold ratV; rw [h]; rfl
      simp only at hfac hfr
      obtain ⟨y, hy⟩ : ∃ y, ps.getD k dPl = y := ⟨_, rfl⟩
      obtain ⟨fw, hfw⟩ : ∃ fw, fewT ⟨it, ps, rq⟩ k = fw := ⟨_, rfl⟩
      rw [hy] at h7 hfac hok hrat hfr
      rw [hfw] at hfac hrat
      have D6 := Lib.hid h7.c6
      have HT := Lib.hid ht
      have HH := Lib.hid hh
      have HFW := Lib.hid hfw
      have HY := Lib.hid hy
      have HOK := Lib.hid hok
      have HRAT := Lib.hid hrat
      obtain ⟨⟨hf1, hf2⟩, ⟨hf3, hf4⟩, hf5⟩ := hfac
      have hk0 : (0 : Int) ≤ (k : Int) := Int.natCast_nonneg _
      have hk1 : (k : Int) < (ps.length : Int) := by omega
      have D0 := Lib.hid h7.c0
      clear ht hh hok hrat hfw hl hcl h7 hcell hik hy
      have go : ∀ eqb : Bool, (y.frm == (rq.length : Int)) = eqb → Calls Tryz.prog 30 #[.agg #[.int .i64 it, .slice (some ⟨b, off, none⟩) ps.length cap, .slice ra rq.length rc], .int .i64 (k : Int)] w (Ret2 fun v0 v1 w' => v0 = .agg #[.int .i64 (ratV ⟨it, ps, rq⟩ (k : Int)).num, .int .i64 (ratV ⟨it, ps, rq⟩ (k : Int)).den] ∧ v1 = .bool (ratV ⟨it, ps, rq⟩ (k : Int)).ok ∧ Chg No w w') := fun eqb heqb => by
        have HEQB := Lib.hid heqb
        go_enter Tryz.func30, Tryz.ntmps30
        go_wp2_with fail
        generalize hWW : (w.alloc _).alloc _ = WW
        obtain ⟨kk, b0, bR⟩ := HW0.out WW hWW.symm
        clear hWW
        obtain ⟨C, hC1, hC2⟩ : ∃ C : World → Prop, (∀ W, C W → Chg No w W ∧ Box3 W w.heap.size (.int .i64 it) (.slice (some ⟨b, off, none⟩) ps.length cap) (.slice ra rq.length rc) ∧ BoxN W (w.heap.size + 1) [.int .i64 0, .int .i64 0]) ∧
            (∀ W W', Chg No W W' → Chg No w W → Box3 W w.heap.size (.int .i64 it) (.slice (some ⟨b, off, none⟩) ps.length cap) (.slice ra rq.length rc) → BoxN W (w.heap.size + 1) [.int .i64 0, .int .i64 0] → C W') :=
          ⟨_, fun _ h => h, fun W W' k h1 h2 h3 => ⟨h1.keep k, h2.keep k, h3.keep k⟩⟩
        have HCELL : Hid (∀ W, C W → W.cell? ⟨w.heap.size, 0, none⟩ = some (.int .i64 it) ∧ W.cell? ⟨w.heap.size, 1, none⟩ = some (.slice (some ⟨b, off, none⟩) ps.length cap) ∧ W.cell? ⟨w.heap.size, 2, none⟩ = some (.slice ra rq.length rc) ∧ W.cell? ⟨b, off + k * 7, none⟩ = some (.int .i64 y.frm) ∧  True) := Lib.hid (fun W hW => by
          obtain ⟨g0, g1, _⟩ := hC1 W hW
          exact ⟨g1.c0, g1.c1, g1.c2, (g0.cellD b _ hb (fun e => e)).trans D0.out,  trivial⟩)
        have HK : Hid (∀ W W', C W → Chg No W W' → C W') := Lib.hid (fun W W' hW hk => hC2 W W' hk (hC1 W hW).1 (hC1 W hW).2.1 (hC1 W hW).2.2)
        have HX := Lib.hid hC1
        refine wp_region_X C (by kernel_rfl) (by kernel_rfl) (hC2 _ _ (drewNo WW) kk b0 bR) ?_
        refine wpX_val (.agg #[.int .i64 it, .slice (some ⟨b, off, none⟩) ps.length cap, .slice ra rq.length rc]) rfl (by intro W hW; obtain ⟨c0, c1, c2, d0, _⟩ := HCELL.out W hW; go_simp) ?_
        simp only [Act.put, List.setIfInBounds_toArray, List.set_cons_zero, List.set_cons_succ]
        refine wpX_call (.bool true) (f := 39) (args := #[.agg #[.int .i64 it, .slice (some ⟨b, off, none⟩) ps.length cap, .slice ra rq.length rc]]) rfl (by intro W hW; obtain ⟨c0, c1, c2, _⟩ := HCELL.out W hW; go_simp) (fun W hW => (l12Tour_any _ ⟨it, ps, rq⟩ W (h0.keep (HX.out W hW).1)).mono (by rintro e w' ⟨_, rfl, rfl, hk⟩; rw [HT.out]; exact ⟨rfl, HK.out _ _ hW hk⟩)) ?_
        simp only [Act.put, List.setIfInBounds_toArray, List.set_cons_zero, List.set_cons_succ]
        refine wpX_val (.bool (!true)) rfl (by intro W hW; obtain ⟨c0, c1, c2, d0, _⟩ := HCELL.out W hW; go_simp) ?_
        simp only [Act.put, List.setIfInBounds_toArray, List.set_cons_zero, List.set_cons_succ]
        refine wpX_val (.bool (!true)) rfl (by intro W hW; obtain ⟨c0, c1, c2, d0, _⟩ := HCELL.out W hW; go_simp) ?_
        simp only [Act.put, List.setIfInBounds_toArray, List.set_cons_zero, List.set_cons_succ]
        refine wpX_val (.agg #[.int .i64 it, .slice (some ⟨b, off, none⟩) ps.length cap, .slice ra rq.length rc]) rfl (by intro W hW; obtain ⟨c0, c1, c2, d0, _⟩ := HCELL.out W hW; go_simp) ?_
        simp only [Act.put, List.setIfInBounds_toArray, List.set_cons_zero, List.set_cons_succ]
        refine wpX_val (.int .i64 (k : Int)) rfl (by intro W hW; obtain ⟨c0, c1, c2, d0, _⟩ := HCELL.out W hW; go_simp) ?_
        simp only [Act.put, List.setIfInBounds_toArray, List.set_cons_zero, List.set_cons_succ]
        refine wpX_call (.bool true) (f := 68) (args := #[.agg #[.int .i64 it, .slice (some ⟨b, off, none⟩) ps.length cap, .slice ra rq.length rc], .int .i64 (k : Int)]) rfl (by intro W hW; obtain ⟨c0, c1, c2, _⟩ := HCELL.out W hW; go_simp) (fun W hW => (l12Has_any _ ⟨it, ps, rq⟩ (k : Int) W (h0.keep (HX.out W hW).1)).mono (by rintro e w' ⟨_, rfl, rfl, hk⟩; rw [HH.out]; exact ⟨rfl, HK.out _ _ hW hk⟩)) ?_
        simp only [Act.put, List.setIfInBounds_toArray, List.set_cons_zero, List.set_cons_succ]
        refine wpX_val (.bool (!true)) rfl (by intro W hW; obtain ⟨c0, c1, c2, d0, _⟩ := HCELL.out W hW; go_simp) ?_
        simp only [Act.put, List.setIfInBounds_toArray, List.set_cons_zero, List.set_cons_succ]
        refine wpX_val (.bool (!true)) rfl (by intro W hW; obtain ⟨c0, c1, c2, d0, _⟩ := HCELL.out W hW; go_simp) ?_
        simp only [Act.put, List.setIfInBounds_toArray, List.set_cons_zero, List.set_cons_succ]
        refine wpX_val (.bool (!true)) rfl (by intro W hW; obtain ⟨c0, c1, c2, d0, _⟩ := HCELL.out W hW; go_simp) ?_
        simp only [Act.put, List.setIfInBounds_toArray, List.set_cons_zero, List.set_cons_succ]
        refine wpX_val (.pointer (some ⟨w.heap.size, 1, none⟩)) rfl (by intro W hW; obtain ⟨c0, c1, c2, d0, _⟩ := HCELL.out W hW; go_simp) ?_
        simp only [Act.put, List.setIfInBounds_toArray, List.set_cons_zero, List.set_cons_succ]
        refine wpX_val (.slice (some ⟨b, off, none⟩) ps.length cap) rfl (by intro W hW; obtain ⟨c0, c1, c2, d0, _⟩ := HCELL.out W hW; go_simp) ?_
        simp only [Act.put, List.setIfInBounds_toArray, List.set_cons_zero, List.set_cons_succ]
        refine wpX_val (.int .i64 (k : Int)) rfl (by intro W hW; obtain ⟨c0, c1, c2, d0, _⟩ := HCELL.out W hW; go_simp) ?_
        simp only [Act.put, List.setIfInBounds_toArray, List.set_cons_zero, List.set_cons_succ]
        refine wpX_val (.pointer (some ⟨b, off + k * 7, none⟩)) rfl (by intro W hW; obtain ⟨c0, c1, c2, d0, _⟩ := HCELL.out W hW; go_simp) ?_
        simp only [Act.put, List.setIfInBounds_toArray, List.set_cons_zero, List.set_cons_succ]
        refine wpX_val (.pointer (some ⟨b, off + k * 7, none⟩)) rfl (by intro W hW; obtain ⟨c0, c1, c2, d0, _⟩ := HCELL.out W hW; go_simp) ?_
        simp only [Act.put, List.setIfInBounds_toArray, List.set_cons_zero, List.set_cons_succ]
        refine wpX_val (.int .i64 y.frm) rfl (by intro W hW; obtain ⟨c0, c1, c2, d0, _⟩ := HCELL.out W hW; go_simp) ?_
        simp only [Act.put, List.setIfInBounds_toArray, List.set_cons_zero, List.set_cons_succ]
        refine wpX_val (.pointer (some ⟨w.heap.size, 2, none⟩)) rfl (by intro W hW; obtain ⟨c0, c1, c2, d0, _⟩ := HCELL.out W hW; go_simp) ?_
        simp only [Act.put, List.setIfInBounds_toArray, List.set_cons_zero, List.set_cons_succ]
        refine wpX_val (.slice ra rq.length rc) rfl (by intro W hW; obtain ⟨c0, c1, c2, d0, _⟩ := HCELL.out W hW; go_simp) ?_
        simp only [Act.put, List.setIfInBounds_toArray, List.set_cons_zero, List.set_cons_succ]
        refine wpX_val (.int .i64 (rq.length : Int)) rfl (by intro W hW; obtain ⟨c0, c1, c2, d0, _⟩ := HCELL.out W hW; go_simp) ?_
        simp only [Act.put, List.setIfInBounds_toArray, List.set_cons_zero, List.set_cons_succ]
        refine wpX_val (.bool eqb) rfl (by intro W hW; obtain ⟨c0, c1, c2, d0, _⟩ := HCELL.out W hW; go_simp) ?_
        simp only [Act.put, List.setIfInBounds_toArray, List.set_cons_zero, List.set_cons_succ]
        refine wpX_val (.bool eqb) rfl (by intro W hW; obtain ⟨c0, c1, c2, d0, _⟩ := HCELL.out W hW; go_simp) ?_
        simp only [Act.put, List.setIfInBounds_toArray, List.set_cons_zero, List.set_cons_succ]
        cases eqb
        · have hle : y.frm ≠ (rq.length : Int) := by simpa using heqb
          have hf6 := hf5 hle
          have hokt : okRat ⟨it, ps, rq⟩ (k : Int) = true := by rw [HOK.out]; simpa using hle
          have hval := HRAT.out hokt
          obtain ⟨r, hr⟩ : ∃ r, mkFr y.fa fw = r := ⟨_, rfl⟩
          rw [hr] at hval
          have HV := Lib.hid hval
          have HR := Lib.hid hr
          clear hle hfr hf5 HRAT hokt hval hr heqb
          refine wpX_nil (fun W hW => ?_)
          obtain ⟨kk, b0, bR⟩ := HX.out W hW
          go_wp2_with fail
          refine wp_region_K (S := fun W => (W.cell? ⟨w.heap.size, 0, none⟩ = some (.int .i64 it) ∧ W.cell? ⟨w.heap.size, 1, none⟩ = some (.slice (some ⟨b, off, none⟩) ps.length cap) ∧ W.cell? ⟨w.heap.size, 2, none⟩ = some (.slice ra rq.length rc)) ∧ W.cell? ⟨b, off + k * 7 + 6, none⟩ = some (.int .i64 y.fa)) (k := 12) (by kernel_rfl) ?_
          replace kk := kk.keep (drewNo _)
          replace b0 := b0.keep (drewNo _)
          replace bR := bR.keep (drewNo _)
          generalize W.drew = WR at kk b0 bR ⊢
          have hS : (WR.cell? ⟨w.heap.size, 0, none⟩ = some (.int .i64 it) ∧ WR.cell? ⟨w.heap.size, 1, none⟩ = some (.slice (some ⟨b, off, none⟩) ps.length cap) ∧ WR.cell? ⟨w.heap.size, 2, none⟩ = some (.slice ra rq.length rc)) ∧ WR.cell? ⟨b, off + k * 7 + 6, none⟩ = some (.int .i64 y.fa) := ⟨⟨b0.c0, b0.c1, b0.c2⟩, (kk.cellD b _ hb (fun e => e)).trans D6.out⟩
          refine wpAnyK_take0 0 (.pointer (some ⟨w.heap.size, 1, none⟩)) rfl (by kernel_rfl) (fun _ _ _ h => h) hS rfl (by intro w; go_simp) ?_
          simp only [List.getElem_toArray, List.getElem_cons_zero, Act.put, List.setIfInBounds_toArray, List.set_cons_zero, List.set_cons_succ]
          refine wpAnyK_take0 2 (.int .i64 (k : Int)) rfl (by kernel_rfl) (fun _ _ _ h => h) hS rfl (by intro w; go_simp) ?_
          simp only [List.getElem_toArray, List.getElem_cons_succ, List.getElem_cons_zero, Act.put, List.setIfInBounds_toArray, List.set_cons_zero, List.set_cons_succ]
          refine wpAnyK_take 1 (.slice (some ⟨b, off, none⟩) ps.length cap) rfl (by kernel_rfl) (fun _ _ _ h => h) hS rfl (by intro w hSw; go_simp) ?_
          simp only [List.getElem_toArray, List.getElem_cons_succ, List.getElem_cons_zero, Act.put, List.setIfInBounds_toArray, List.set_cons_zero, List.set_cons_succ]
          refine wpAnyK_take0 3 (.pointer (some ⟨b, off + k * 7, none⟩)) rfl (by kernel_rfl) (fun _ _ _ h => h) hS rfl (by intro w; go_simp) ?_
          simp only [List.getElem_toArray, List.getElem_cons_succ, List.getElem_cons_zero, Act.put, List.setIfInBounds_toArray, List.set_cons_zero, List.set_cons_succ]
          refine wpAnyK_take0 4 (.pointer (some ⟨b, off + k * 7 + 6, none⟩)) rfl (by kernel_rfl) (fun _ _ _ h => h) hS rfl (by intro w; go_simp) ?_
          simp only [List.getElem_toArray, List.getElem_cons_succ, List.getElem_cons_zero, Act.put, List.setIfInBounds_toArray, List.set_cons_zero, List.set_cons_succ]
          refine wpAnyK_take 5 (.int .i64 y.fa) rfl (by kernel_rfl) (fun _ _ _ h => h) hS rfl (by intro w hSw; go_simp) ?_
          simp only [List.getElem_toArray, List.getElem_cons_succ, List.getElem_cons_zero, Act.put, List.setIfInBounds_toArray, List.set_cons_zero, List.set_cons_succ]
          refine wpAnyK_take 6 (.agg #[.int .i64 it, .slice (some ⟨b, off, none⟩) ps.length cap, .slice ra rq.length rc]) rfl (by kernel_rfl) (fun _ _ _ h => h) hS rfl (by intro w hSw; go_simp) ?_
          simp only [List.getElem_toArray, List.getElem_cons_succ, List.getElem_cons_zero, Act.put, List.setIfInBounds_toArray, List.set_cons_zero, List.set_cons_succ]
          refine wpAnyK_take0 7 (.int .i64 (k : Int)) rfl (by kernel_rfl) (fun _ _ _ h => h) hS rfl (by intro w; go_simp) ?_
          simp only [List.getElem_toArray, List.getElem_cons_succ, List.getElem_cons_zero, Act.put, List.setIfInBounds_toArray, List.set_cons_zero, List.set_cons_succ]
          refine wpAnyK_1 8 (by kernel_rfl) (wpOpK' rfl rfl ?_)
          intro K hK
          refine ocallR (f := 63) (args := #[.agg #[.int .i64 it, .slice (some ⟨b, off, none⟩) ps.length cap, .slice ra rq.length rc], .int .i64 (k : Int)]) (by go_simp) (l12Fewest_any _ ⟨it, ps, rq⟩ k WR (h0.keep kk) HT.out hk) (fun w8 k8 => hK.out _ _ ⟨⟨(b0.keep k8).c0, (b0.keep k8).c1, (b0.keep k8).c2⟩, ((kk.keep k8).cellD b _ hb (fun e => e)).trans D6.out⟩ ?_)
          rw [HFW.out]
          replace kk := kk.keep k8
          replace b0 := b0.keep k8
          replace bR := bR.keep k8
          clear hK K hS k8
          simp only [List.getElem_toArray, List.getElem_cons_succ, List.getElem_cons_zero, Act.put, List.setIfInBounds_toArray, List.set_cons_zero, List.set_cons_succ]
          refine wpAnyK_1 9 (by kernel_rfl) (wpOpK' rfl rfl ?_)
          intro K hK
          refine ocallR (f := 69) (args := #[.int .i64 y.fa, .int .i64 fw]) (v := .tuple #[.agg #[.int .i64 r.num, .int .i64 r.den], .bool r.ok]) (φ := fun w' => Chg No w8 w') (by go_simp) ((l2Make_any y.fa fw w8 (by omega) (by omega) (by omega) (by omega)).mono (by rintro e w' ⟨_, _, rfl, rfl, rfl, hk⟩; rw [HR.out]; exact ⟨rfl, hk⟩)) (fun w9 k9 => hK.out _ _ ⟨⟨(b0.keep k9).c0, (b0.keep k9).c1, (b0.keep k9).c2⟩, ((kk.keep k9).cellD b _ hb (fun e => e)).trans D6.out⟩ ?_)
          replace kk := kk.keep k9
          replace b0 := b0.keep k9
          replace bR := bR.keep k9
          clear hK K k9
          simp only [List.getElem_toArray, List.getElem_cons_succ, List.getElem_cons_zero, Act.put, List.setIfInBounds_toArray, List.set_cons_zero, List.set_cons_succ]
          have hS : (w9.cell? ⟨w.heap.size, 0, none⟩ = some (.int .i64 it) ∧ w9.cell? ⟨w.heap.size, 1, none⟩ = some (.slice (some ⟨b, off, none⟩) ps.length cap) ∧ w9.cell? ⟨w.heap.size, 2, none⟩ = some (.slice ra rq.length rc)) ∧ w9.cell? ⟨b, off + k * 7 + 6, none⟩ = some (.int .i64 y.fa) := ⟨⟨b0.c0, b0.c1, b0.c2⟩, (kk.cellD b _ hb (fun e => e)).trans D6.out⟩
          refine wpAnyK_take0 10 (.agg #[.int .i64 r.num, .int .i64 r.den]) rfl (by kernel_rfl) (fun _ _ _ h => h) hS rfl (by intro w; go_simp) ?_
          simp only [List.getElem_toArray, List.getElem_cons_succ, List.getElem_cons_zero, Act.put, List.setIfInBounds_toArray, List.set_cons_zero, List.set_cons_succ]
          refine wpAnyK_take0 11 (.bool r.ok) rfl (by kernel_rfl) (fun _ _ _ h => h) hS rfl (by intro w; go_simp) ?_
          simp only [List.getElem_toArray, List.getElem_cons_succ, List.getElem_cons_zero, Act.put, List.setIfInBounds_toArray, List.set_cons_zero, List.set_cons_succ]
          refine wpAnyK_tail 12 rfl (by kernel_rfl) ?_
          simp only [List.drop_succ_cons, List.drop_zero]
          have c00 := bR.c 0 _ rfl
          have c01 := bR.c 1 _ rfl
          have f0 := bR.fr 0
          have f1 := bR.fr 1
          have hl1 := bR.lt
          go_wp2_with fail
          exact bodyPost_ret (v := .tuple #[.agg #[.int .i64 r.num, .int .i64 r.den], .bool r.ok]) (by simp [results, Tryz.results30, go_sem, *]) rfl ⟨_, _, rfl, by rw [HV.out], by rw [HV.out], (kk.setCell (p := ⟨w.heap.size + 1, 0, none⟩) (fun h => by simp at h; omega) _).setCell (p := ⟨w.heap.size + 1, 1, none⟩) (fun h => by simp at h; omega) _⟩
        · have hle : y.frm = (rq.length : Int) := by simpa using heqb
          have HV : Hid (ratV ⟨it, ps, rq⟩ (k : Int) = ⟨0, 0, false⟩) := Lib.hid (by
            have : okRat ⟨it, ps, rq⟩ (k : Int) = false := by rw [HOK.out, hle]; simp
            unfold ratV; rw [this]; rfl)
          clear hle hfr hf5 HRAT heqb
          refine wpX_nil (fun W hW => ?_)
          obtain ⟨kk, b0, bR⟩ := HX.out W hW
          have c00 := bR.c 0 _ rfl
          have c01 := bR.c 1 _ rfl
          have f0 := bR.fr 0
          have f1 := bR.fr 1
          have hl1 := bR.lt
          go_wp2_with fail
          exact bodyPost_ret (v := .tuple #[.agg #[.int .i64 0, .int .i64 0], .bool false]) (by simp [results, Tryz.results30, go_sem, *]) rfl ⟨_, _, rfl, by rw [HV.out], by rw [HV.out], (kk.setCell (p := ⟨w.heap.size + 1, 0, none⟩) (fun h => by simp at h; omega) _).setCell (p := ⟨w.heap.size + 1, 1, none⟩) (fun h => by simp at h; omega) _⟩
      exact go _ rfl
end Go.Proofs.YtodnkkmjjlfoiaaGreat

/- AccountOf, both sides -/
namespace Go.Proofs.YtodnkkmjjlfoiaaGreat
open Go.RowKit

theorem elA2 : El 52 73 (.agg #[.int .i64 0, .int .i64 0]) 2 16 := El.mk' Tryz.underlying52 (by kernel_rfl) rfl (by omega)
/-- the account's numbers, of the first j Players -/
def accL (t : To) (j : Nat) : List Int := (List.range j).flatMap fun i => [(t.ps.getD i dPl).fa, fewT t i]
theorem accL_succ (t : To) (j : Nat) : (accL t (j + 1)).map (Value.int .i64) = (accL t j).map (Value.int .i64) ++ [.int .i64 (t.ps.getD j dPl).fa, .int .i64 (fewT t j)] := by
  unfold accL
  rw [List.range_succ, List.flatMap_append]
  simp
theorem accL_len (t : To) (j : Nat) : (accL t j).length = j * 2 := by
  induction j with
  | zero => rfl
  | succ j ih =>
    have h := congrArg List.length (accL_succ t j)
    simp only [List.length_map, List.length_append, List.length_cons, List.length_nil] at h
    omega
def accN (t : To) : Nat := if tourB t then t.ps.length else 0

set_option maxRecDepth 100000 in
set_option maxHeartbeats 4000000 in
theorem specAccount_any (v : Value) (t : To) (w : World) (h : RT No w v t) :
    Calls Tryz.prog 24 #[v] w (Ret2 fun v0 v1 w' => v1 = .bool (tourB t) ∧ OS 73 2 w.heap.size w' v0 (accN t) ((accL t (accN t)).map (Value.int .i64)) ∧ Chg No w w') := by
  have h0 := h
  obtain ⟨it, ps, rq⟩ := t
  obtain ⟨pv, rv, rfl, hps, hrq⟩ := h
  simp only at hps hrq
  obtain ⟨ra, rc, rfl, _⟩ := id hrq
  obtain ⟨a, cap, rfl, hcap, hmax, hlen, pf, mf, hl, hcl⟩ := id hps
  obtain ⟨W0, hW0⟩ : ∃ W0, (w.alloc (.cells #[.int .i64 it, .slice a ps.length cap, .slice ra rq.length rc] 31)) = W0 := ⟨_, rfl⟩
  have k0 : Chg No w W0 := hW0 ▸ (Chg.refl No w).alloc _
  have b0 : Box3 W0 w.heap.size (.int .i64 it) (.slice a ps.length cap) (.slice ra rq.length rc) := hW0 ▸ Box3.new w _ _ _ 31
  have hz0 : W0.heap.size = w.heap.size + 1 := by rw [← hW0]; simp
  have HC := Lib.hid hcl
  have HW0 := Lib.hid hW0
  have hO := OS.zero (E := 73) (sz := 2) (base := w.heap.size + 1) (w := W0) (by omega)
  have k1 := k0.alloc (.cells #[] 73)
  have b1 := b0.keep ((Chg.refl No W0).alloc (.cells #[] 73))
  obtain ⟨c0, c1, c2, _⟩ := id b1
  clear hl hcl hW0
  go_enter Tryz.func24, Tryz.ntmps24
  go_wp2_with fail
  rw [HW0.out]
  refine (l12Tour_any _ ⟨it, ps, rq⟩ _ (h0.keep k1)).mono ?_
  rintro e w1 ⟨_, rfl, rfl, k2⟩
  replace k1 := k1.keep k2
  replace b1 := b1.keep k2
  replace hO := hO.keep k2
  clear c0 c1 c2 b0 k0 k2
  rw [hz0] at hO
  cases ht : tourB ⟨it, ps, rq⟩
  · have hn : accN ⟨it, ps, rq⟩ = 0 := by simp [accN, ht]
    have HN := Lib.hid hn
    have HT := Lib.hid ht
    clear hn ht
    go_wp2_with fail
    exact bodyPost_ret (v := .tuple #[.slice (some ⟨w.heap.size + 1, 0, none⟩) 0 0, .bool false]) (by simp [results, Tryz.results24, go_sem]) rfl ⟨_, _, rfl, by rw [HT.out], by rw [HN.out]; exact hO.weak (by omega), k1⟩
  · have hn : accN ⟨it, ps, rq⟩ = ps.length := by simp [accN, ht]
    have HN := Lib.hid hn
    have HT := Lib.hid ht
    have hfac := fun j (hj : j < ps.length) => rat_facts (t := ⟨it, ps, rq⟩) ht (i := j) hj
    have HF := Lib.hid hfac
    clear hn ht hfac
    go_wp2_with fail
    go_loopw [4, 5] (fun o z wr => ∃ j : Nat, j ≤ ps.length ∧ z = .int .i64 (j : Int) ∧ OS 73 2 (w.heap.size + 1) wr o j ((accL ⟨it, ps, rq⟩ j).map (Value.int .i64)) ∧ Box3 wr w.heap.size (.int .i64 it) (.slice a ps.length cap) (.slice ra rq.length rc) ∧ Chg No w wr) (fun _ z _ => ps.length - (intOf z).toNat)
    case atStart => exact ⟨0, Nat.zero_le _, rfl, hO, b1, k1⟩
    case round =>
      clear hO b1 k1
      obtain ⟨j, hj, rfl, hO, b0, kk⟩ := hrel
      obtain ⟨oa, oc, rfl, _⟩ := hO.view
      obtain ⟨c0, c1, c2, _⟩ := id b0
      have hj0 : (0 : Int) ≤ (j : Int) := Int.natCast_nonneg _
      by_cases hlt : j < ps.length
      · obtain ⟨b, off, rfl, _, hb, hcell⟩ := HC.out (by intro e; simp [e] at hlt)
        have h7 := hcell j hlt
        have hsn := accL_succ ⟨it, ps, rq⟩ j
        simp only at hsn
        obtain ⟨y, hy⟩ : ∃ y, ps.getD j dPl = y := ⟨_, rfl⟩
        obtain ⟨fw, hfw⟩ : ∃ fw, fewT ⟨it, ps, rq⟩ j = fw := ⟨_, rfl⟩
        rw [hy] at h7 hsn
        rw [hfw] at hsn
        have D6 := Lib.hid h7.c6
        have HFW := Lib.hid hfw
        have HSN := Lib.hid hsn
        have hj1 : (j : Int) < (ps.length : Int) := by omega
        have hwj : IntKind.i64.wrap ((j : Int) + 1) = (j : Int) + 1 := IntWalk.i64_in _ (by omega)
        have hlo := hO.len
        clear h7 hcell hy hfw hsn
        go_wp2_with fail
        clear c0 c1 c2
        refine wp_region_K (S := fun W => (W.cell? ⟨w.heap.size, 0, none⟩ = some (.int .i64 it) ∧ W.cell? ⟨w.heap.size, 1, none⟩ = some (.slice (some ⟨b, off, none⟩) ps.length cap) ∧ W.cell? ⟨w.heap.size, 2, none⟩ = some (.slice ra rq.length rc)) ∧ W.cell? ⟨b, off + j * 7 + 6, none⟩ = some (.int .i64 y.fa)) (k := 10) (by kernel_rfl) ?_
        replace kk := kk.keep (drewNo _)
        replace b0 := b0.keep (drewNo _)
        replace hO := hO.keep (drewNo _)
        generalize wr.drew = WR at kk b0 hO ⊢
        have hS : (WR.cell? ⟨w.heap.size, 0, none⟩ = some (.int .i64 it) ∧ WR.cell? ⟨w.heap.size, 1, none⟩ = some (.slice (some ⟨b, off, none⟩) ps.length cap) ∧ WR.cell? ⟨w.heap.size, 2, none⟩ = some (.slice ra rq.length rc)) ∧ WR.cell? ⟨b, off + j * 7 + 6, none⟩ = some (.int .i64 y.fa) := ⟨⟨b0.c0, b0.c1, b0.c2⟩, (kk.cellD b _ hb (fun e => e)).trans D6.out⟩
        refine wpAnyK_take0 0 (.slice oa j oc) rfl (by kernel_rfl) (fun _ _ _ h => h) hS rfl (by intro w; go_simp) ?_
        simp only [List.getElem_toArray, List.getElem_cons_zero, Act.put, List.setIfInBounds_toArray, List.set_cons_zero, List.set_cons_succ]
        refine wpAnyK_take0 1 (.pointer (some ⟨w.heap.size, 1, none⟩)) rfl (by kernel_rfl) (fun _ _ _ h => h) hS rfl (by intro w; go_simp) ?_
        simp only [List.getElem_toArray, List.getElem_cons_succ, List.getElem_cons_zero, Act.put, List.setIfInBounds_toArray, List.set_cons_zero, List.set_cons_succ]
        refine wpAnyK_take0 3 (.int .i64 (j : Int)) rfl (by kernel_rfl) (fun _ _ _ h => h) hS rfl (by intro w; go_simp) ?_
        simp only [List.getElem_toArray, List.getElem_cons_succ, List.getElem_cons_zero, Act.put, List.setIfInBounds_toArray, List.set_cons_zero, List.set_cons_succ]
        refine wpAnyK_take0 8 (.int .i64 (j : Int)) rfl (by kernel_rfl) (fun _ _ _ h => h) hS rfl (by intro w; go_simp) ?_
        simp only [List.getElem_toArray, List.getElem_cons_succ, List.getElem_cons_zero, Act.put, List.setIfInBounds_toArray, List.set_cons_zero, List.set_cons_succ]
        refine wpAnyK_2 2 7 (by kernel_rfl) (wpOpK' rfl rfl ?_) (wpOpK' rfl rfl ?_)
        · skip
          intro K hK
          obtain ⟨⟨c0, c1, c2⟩, d6⟩ := id hS
          unfold Oper.wp execOp
          go_simp
          refine hK.out _ _ hS ?_
          clear hK K c0 c1 c2 d6
          simp only [List.setIfInBounds_toArray]
          refine wpAnyK_take0 4 (.pointer (some ⟨b, off + j * 7, none⟩)) rfl (by kernel_rfl) (fun _ _ _ h => h) hS rfl (by intro w; go_simp) ?_
          simp only [List.getElem_toArray, List.getElem_cons_succ, List.getElem_cons_zero, Act.put, List.setIfInBounds_toArray, List.set_cons_zero, List.set_cons_succ]
          refine wpAnyK_take0 5 (.pointer (some ⟨b, off + j * 7 + 6, none⟩)) rfl (by kernel_rfl) (fun _ _ _ h => h) hS rfl (by intro w; go_simp) ?_
          simp only [List.getElem_toArray, List.getElem_cons_succ, List.getElem_cons_zero, Act.put, List.setIfInBounds_toArray, List.set_cons_zero, List.set_cons_succ]
          refine wpAnyK_take 6 (.int .i64 y.fa) rfl (by kernel_rfl) (fun _ _ _ h => h) hS rfl (by intro w hSw; go_simp) ?_
          simp only [List.getElem_toArray, List.getElem_cons_succ, List.getElem_cons_zero, Act.put, List.setIfInBounds_toArray, List.set_cons_zero, List.set_cons_succ]
          refine wpAnyK_1 7 (by kernel_rfl) (wpOpK' rfl rfl ?_)
          intro K hK
          obtain ⟨⟨c0, c1, c2⟩, d6⟩ := id hS
          unfold Oper.wp execOp
          go_simp
          refine hK.out _ _ hS ?_
          clear hK K c0 c1 c2 d6
          simp only [List.setIfInBounds_toArray]
          refine wpAnyK_1 9 (by kernel_rfl) (wpOpK' rfl rfl ?_)
          intro K hK
          refine ocallR (f := 63) (args := #[.agg #[.int .i64 it, .slice (some ⟨b, off, none⟩) ps.length cap, .slice ra rq.length rc], .int .i64 (j : Int)]) (by go_simp) (l12Fewest_any _ ⟨it, ps, rq⟩ j WR (h0.keep kk) HT.out hlt) (fun w8 k8 => hK.out _ _ ⟨⟨(b0.keep k8).c0, (b0.keep k8).c1, (b0.keep k8).c2⟩, ((kk.keep k8).cellD b _ hb (fun e => e)).trans D6.out⟩ ?_)
          rw [HFW.out]
          replace kk := kk.keep k8
          replace b0 := b0.keep k8
          replace hO := hO.keep k8
          clear hK K hS k8
          have hS : (w8.cell? ⟨w.heap.size, 0, none⟩ = some (.int .i64 it) ∧ w8.cell? ⟨w.heap.size, 1, none⟩ = some (.slice (some ⟨b, off, none⟩) ps.length cap) ∧ w8.cell? ⟨w.heap.size, 2, none⟩ = some (.slice ra rq.length rc)) ∧ w8.cell? ⟨b, off + j * 7 + 6, none⟩ = some (.int .i64 y.fa) := ⟨⟨b0.c0, b0.c1, b0.c2⟩, (kk.cellD b _ hb (fun e => e)).trans D6.out⟩
          simp only [List.getElem_toArray, List.getElem_cons_succ, List.getElem_cons_zero, Act.put, List.setIfInBounds_toArray, List.set_cons_zero, List.set_cons_succ]
          refine wpAnyK_tail 10 rfl (by kernel_rfl) ?_
          simp only [List.drop_succ_cons, List.drop_zero]
          clear hS
          have hlt8 := b0.lt
          go_wp2_with (at_builtin; refine wappS1 elA2 (by omega) rfl (.tmp 18) (.tmp 29) rfl hO rfl (by simp [Value.oneCell']) rfl rfl (by omega) (by omega) ?_)
          intro v' wN o2 k2 _
          have bN := b0.step k2 (fun hq => by have := (hO.lt _ hq).1; omega)
          have kN := chg_ownS kk k2 hO (by omega)
          obtain ⟨na, nc, rfl, _⟩ := o2.view
          have HN2 := Lib.hid o2
          have HKN := Lib.hid (And.intro bN kN)
          clear o2 bN kN k2 hO kk b0
          go_wp2_with fail
          go_round
          case measure => simp [intOf]; omega
          case rel => exact ⟨j + 1, by omega, by go_num, by rw [HSN.out]; exact HN2.out, HKN.out.1, HKN.out.2⟩
        · skip
          intro K hK
          obtain ⟨⟨c0, c1, c2⟩, d6⟩ := id hS
          unfold Oper.wp execOp
          go_simp
          refine hK.out _ _ hS ?_
          clear hK K c0 c1 c2 d6
          simp only [List.setIfInBounds_toArray]
          refine wpAnyK_2 2 9 (by kernel_rfl) (wpOpK' rfl rfl ?_) (wpOpK' rfl rfl ?_)
          · skip
            intro K hK
            obtain ⟨⟨c0, c1, c2⟩, d6⟩ := id hS
            unfold Oper.wp execOp
            go_simp
            refine hK.out _ _ hS ?_
            clear hK K c0 c1 c2 d6
            simp only [List.setIfInBounds_toArray]
            refine wpAnyK_take0 4 (.pointer (some ⟨b, off + j * 7, none⟩)) rfl (by kernel_rfl) (fun _ _ _ h => h) hS rfl (by intro w; go_simp) ?_
            simp only [List.getElem_toArray, List.getElem_cons_succ, List.getElem_cons_zero, Act.put, List.setIfInBounds_toArray, List.set_cons_zero, List.set_cons_succ]
            refine wpAnyK_take0 5 (.pointer (some ⟨b, off + j * 7 + 6, none⟩)) rfl (by kernel_rfl) (fun _ _ _ h => h) hS rfl (by intro w; go_simp) ?_
            simp only [List.getElem_toArray, List.getElem_cons_succ, List.getElem_cons_zero, Act.put, List.setIfInBounds_toArray, List.set_cons_zero, List.set_cons_succ]
            refine wpAnyK_take 6 (.int .i64 y.fa) rfl (by kernel_rfl) (fun _ _ _ h => h) hS rfl (by intro w hSw; go_simp) ?_
            simp only [List.getElem_toArray, List.getElem_cons_succ, List.getElem_cons_zero, Act.put, List.setIfInBounds_toArray, List.set_cons_zero, List.set_cons_succ]
            refine wpAnyK_1 9 (by kernel_rfl) (wpOpK' rfl rfl ?_)
            intro K hK
            refine ocallR (f := 63) (args := #[.agg #[.int .i64 it, .slice (some ⟨b, off, none⟩) ps.length cap, .slice ra rq.length rc], .int .i64 (j : Int)]) (by go_simp) (l12Fewest_any _ ⟨it, ps, rq⟩ j WR (h0.keep kk) HT.out hlt) (fun w8 k8 => hK.out _ _ ⟨⟨(b0.keep k8).c0, (b0.keep k8).c1, (b0.keep k8).c2⟩, ((kk.keep k8).cellD b _ hb (fun e => e)).trans D6.out⟩ ?_)
            rw [HFW.out]
            replace kk := kk.keep k8
            replace b0 := b0.keep k8
            replace hO := hO.keep k8
            clear hK K hS k8
            have hS : (w8.cell? ⟨w.heap.size, 0, none⟩ = some (.int .i64 it) ∧ w8.cell? ⟨w.heap.size, 1, none⟩ = some (.slice (some ⟨b, off, none⟩) ps.length cap) ∧ w8.cell? ⟨w.heap.size, 2, none⟩ = some (.slice ra rq.length rc)) ∧ w8.cell? ⟨b, off + j * 7 + 6, none⟩ = some (.int .i64 y.fa) := ⟨⟨b0.c0, b0.c1, b0.c2⟩, (kk.cellD b _ hb (fun e => e)).trans D6.out⟩
            simp only [List.getElem_toArray, List.getElem_cons_succ, List.getElem_cons_zero, Act.put, List.setIfInBounds_toArray, List.set_cons_zero, List.set_cons_succ]
            refine wpAnyK_tail 10 rfl (by kernel_rfl) ?_
            simp only [List.drop_succ_cons, List.drop_zero]
            clear hS
            have hlt8 := b0.lt
            go_wp2_with (at_builtin; refine wappS1 elA2 (by omega) rfl (.tmp 18) (.tmp 29) rfl hO rfl (by simp [Value.oneCell']) rfl rfl (by omega) (by omega) ?_)
            intro v' wN o2 k2 _
            have bN := b0.step k2 (fun hq => by have := (hO.lt _ hq).1; omega)
            have kN := chg_ownS kk k2 hO (by omega)
            obtain ⟨na, nc, rfl, _⟩ := o2.view
            have HN2 := Lib.hid o2
            have HKN := Lib.hid (And.intro bN kN)
            clear o2 bN kN k2 hO kk b0
            go_wp2_with fail
            go_round
            case measure => simp [intOf]; omega
            case rel => exact ⟨j + 1, by omega, by go_num, by rw [HSN.out]; exact HN2.out, HKN.out.1, HKN.out.2⟩
          · skip
            intro K hK
            refine ocallR (f := 63) (args := #[.agg #[.int .i64 it, .slice (some ⟨b, off, none⟩) ps.length cap, .slice ra rq.length rc], .int .i64 (j : Int)]) (by go_simp) (l12Fewest_any _ ⟨it, ps, rq⟩ j WR (h0.keep kk) HT.out hlt) (fun w8 k8 => hK.out _ _ ⟨⟨(b0.keep k8).c0, (b0.keep k8).c1, (b0.keep k8).c2⟩, ((kk.keep k8).cellD b _ hb (fun e => e)).trans D6.out⟩ ?_)
            rw [HFW.out]
            replace kk := kk.keep k8
            replace b0 := b0.keep k8
            replace hO := hO.keep k8
            clear hK K hS k8
            have hS : (w8.cell? ⟨w.heap.size, 0, none⟩ = some (.int .i64 it) ∧ w8.cell? ⟨w.heap.size, 1, none⟩ = some (.slice (some ⟨b, off, none⟩) ps.length cap) ∧ w8.cell? ⟨w.heap.size, 2, none⟩ = some (.slice ra rq.length rc)) ∧ w8.cell? ⟨b, off + j * 7 + 6, none⟩ = some (.int .i64 y.fa) := ⟨⟨b0.c0, b0.c1, b0.c2⟩, (kk.cellD b _ hb (fun e => e)).trans D6.out⟩
            simp only [List.getElem_toArray, List.getElem_cons_succ, List.getElem_cons_zero, Act.put, List.setIfInBounds_toArray, List.set_cons_zero, List.set_cons_succ]
            refine wpAnyK_1 2 (by kernel_rfl) (wpOpK' rfl rfl ?_)
            intro K hK
            obtain ⟨⟨c0, c1, c2⟩, d6⟩ := id hS
            unfold Oper.wp execOp
            go_simp
            refine hK.out _ _ hS ?_
            clear hK K c0 c1 c2 d6
            simp only [List.setIfInBounds_toArray]
            refine wpAnyK_take0 4 (.pointer (some ⟨b, off + j * 7, none⟩)) rfl (by kernel_rfl) (fun _ _ _ h => h) hS rfl (by intro w; go_simp) ?_
            simp only [List.getElem_toArray, List.getElem_cons_succ, List.getElem_cons_zero, Act.put, List.setIfInBounds_toArray, List.set_cons_zero, List.set_cons_succ]
            refine wpAnyK_take0 5 (.pointer (some ⟨b, off + j * 7 + 6, none⟩)) rfl (by kernel_rfl) (fun _ _ _ h => h) hS rfl (by intro w; go_simp) ?_
            simp only [List.getElem_toArray, List.getElem_cons_succ, List.getElem_cons_zero, Act.put, List.setIfInBounds_toArray, List.set_cons_zero, List.set_cons_succ]
            refine wpAnyK_take 6 (.int .i64 y.fa) rfl (by kernel_rfl) (fun _ _ _ h => h) hS rfl (by intro w hSw; go_simp) ?_
            simp only [List.getElem_toArray, List.getElem_cons_succ, List.getElem_cons_zero, Act.put, List.setIfInBounds_toArray, List.set_cons_zero, List.set_cons_succ]
            refine wpAnyK_tail 10 rfl (by kernel_rfl) ?_
            simp only [List.drop_succ_cons, List.drop_zero]
            clear hS
            have hlt8 := b0.lt
            go_wp2_with (at_builtin; refine wappS1 elA2 (by omega) rfl (.tmp 18) (.tmp 29) rfl hO rfl (by simp [Value.oneCell']) rfl rfl (by omega) (by omega) ?_)
            intro v' wN o2 k2 _
            have bN := b0.step k2 (fun hq => by have := (hO.lt _ hq).1; omega)
            have kN := chg_ownS kk k2 hO (by omega)
            obtain ⟨na, nc, rfl, _⟩ := o2.view
            have HN2 := Lib.hid o2
            have HKN := Lib.hid (And.intro bN kN)
            clear o2 bN kN k2 hO kk b0
            go_wp2_with fail
            go_round
            case measure => simp [intOf]; omega
            case rel => exact ⟨j + 1, by omega, by go_num, by rw [HSN.out]; exact HN2.out, HKN.out.1, HKN.out.2⟩
      · have hje : j = ps.length := by omega
        subst hje
        go_wp2_with fail
        exact bodyPost_ret (v := .tuple #[.slice oa ps.length oc, .bool true]) (by simp [results, Tryz.results24, go_sem]) rfl ⟨_, _, rfl, by rw [HT.out], by rw [HN.out]; exact hO.weak (by omega), kk⟩

set_option maxRecDepth 100000 in
set_option maxHeartbeats 4000000 in
theorem implAccount_any (v : Value) (t : To) (w : World) (h : RT No w v t) :
    Calls Tryz.prog 23 #[v] w (Ret2 fun v0 v1 w' => v1 = .bool (tourB t) ∧ OS 73 2 w.heap.size w' v0 (accN t) ((accL t (accN t)).map (Value.int .i64)) ∧ Chg No w w') := by
  have h0 := h
  obtain ⟨it, ps, rq⟩ := t
  obtain ⟨pv, rv, rfl, hps, hrq⟩ := h
  simp only at hps hrq
  obtain ⟨ra, rc, rfl, _⟩ := id hrq
  obtain ⟨a, cap, rfl, hcap, hmax, hlen, pf, mf, hl, hcl⟩ := id hps
  obtain ⟨W0, hW0⟩ : ∃ W0, (w.alloc (.cells #[.int .i64 it, .slice a ps.length cap, .slice ra rq.length rc] 31)) = W0 := ⟨_, rfl⟩
  have k0 : Chg No w W0 := hW0 ▸ (Chg.refl No w).alloc _
  have b0 : Box3 W0 w.heap.size (.int .i64 it) (.slice a ps.length cap) (.slice ra rq.length rc) := hW0 ▸ Box3.new w _ _ _ 31
  have HC := Lib.hid hcl
  have HL := Lib.hid hl
  have HW0 := Lib.hid hW0
  obtain ⟨c0, c1, c2, _⟩ := id b0
  clear hl hcl hW0
  go_enter Tryz.func23, Tryz.ntmps23
  go_wp2_with fail
  rw [HW0.out]
  refine (IsTournament_any _ ⟨it, ps, rq⟩ _ (h0.keep k0)).mono ?_
  rintro e w1 ⟨_, rfl, rfl, k2⟩
  have k1 := k0.keep k2
  have b1 := b0.keep k2
  clear c0 c1 c2 b0 k0 k2
  cases ht : tourB ⟨it, ps, rq⟩
  · have hn : accN ⟨it, ps, rq⟩ = 0 := by simp [accN, ht]
    have HN := Lib.hid hn
    have HT := Lib.hid ht
    clear hn ht
    go_wp2_with fail
    exact bodyPost_ret (v := .tuple #[.slice none 0 0, .bool false]) (by simp [results, Tryz.results23, go_sem]) rfl ⟨_, _, rfl, by rw [HT.out], by rw [HN.out]; exact OS.nil _ _ _ _, k1⟩
  · have hn : accN ⟨it, ps, rq⟩ = ps.length := by simp [accN, ht]
    have HN := Lib.hid hn
    have HT := Lib.hid ht
    have hfac := fun j (hj : j < ps.length) => rat_facts (t := ⟨it, ps, rq⟩) ht (i := j) hj
    have HF := Lib.hid hfac
    clear hn ht hfac
    have hl1 := b1.lt
    have hO := OS.zero (E := 73) (sz := 2) (base := w.heap.size + 1) (w := w1) (by omega)
    replace k1 := k1.alloc (.cells #[] 73)
    replace b1 := b1.keep ((Chg.refl No w1).alloc (.cells #[] 73))
    obtain ⟨c0, c1, c2, _⟩ := id b1
    go_wp2_with fail
    clear c0 c1 c2
    go_loopw [4, 14] (fun o z wr => ∃ j : Nat, j ≤ ps.length ∧ z = .int .i64 (j : Int) ∧ OS 73 2 (w.heap.size + 1) wr o j ((accL ⟨it, ps, rq⟩ j).map (Value.int .i64)) ∧ Box3 wr w.heap.size (.int .i64 it) (.slice a ps.length cap) (.slice ra rq.length rc) ∧ Chg No w wr) (fun _ z _ => ps.length - (intOf z).toNat)
    case atStart => exact ⟨0, Nat.zero_le _, rfl, hO, b1, k1⟩
    case round =>
      clear hO b1 k1
      obtain ⟨j, hj, rfl, hO, b0, kk⟩ := hrel
      obtain ⟨oa, oc, rfl, _⟩ := hO.view
      have hj0 : (0 : Int) ≤ (j : Int) := Int.natCast_nonneg _
      by_cases hlt : j < ps.length
      · obtain ⟨b, off, rfl, _, hb, hcell⟩ := HC.out (by intro e; simp [e] at hlt)
        have h7 := (hcell j hlt).step kk hb (fun e => e)
        obtain ⟨hpj, hmj⟩ := HL.out j hlt
        have hsn := accL_succ ⟨it, ps, rq⟩ j
        simp only at hsn
        obtain ⟨y, hy⟩ : ∃ y, ps.getD j dPl = y := ⟨_, rfl⟩
        obtain ⟨fw, hfw⟩ : ∃ fw, fewT ⟨it, ps, rq⟩ j = fw := ⟨_, rfl⟩
        rw [hy] at h7 hsn hpj hmj
        rw [hfw] at hsn
        generalize pf j = pj at hpj h7
        generalize mf j = mj at hmj h7
        obtain ⟨ya, yn, yc, rfl⟩ := hpj.shape
        obtain ⟨za, zn, zc, rfl⟩ := hmj.shape
        have HFW := Lib.hid hfw
        have HSN := Lib.hid hsn
        have hj1 : (j : Int) < (ps.length : Int) := by omega
        have hwj : IntKind.i64.wrap ((j : Int) + 1) = (j : Int) + 1 := IntWalk.i64_in _ (by omega)
        have hlo := hO.len
        obtain ⟨g0, g1, g2, g3, g4, g5, g6⟩ := id h7
        clear h7 hcell hy hfw hsn hpj hmj
        go_wp2_with fail
        clear g0 g1 g2 g3 g4 g5 g6
        have bp := Box7.new wr (.int .i64 y.frm) (.int .i64 y.ca.pol) (.int .i64 y.ca.size) (.slice ya yn yc) (.slice za zn zc) (.int .i64 y.ca.hand) (.int .i64 y.fa) 69
        have kp := (Chg.refl No wr).alloc (.cells #[.int .i64 y.frm, .int .i64 y.ca.pol, .int .i64 y.ca.size, .slice ya yn yc, .slice za zn zc, .int .i64 y.ca.hand, .int .i64 y.fa] 69)
        obtain ⟨B, hB⟩ : ∃ B, wr.heap.size = B := ⟨_, rfl⟩
        rw [hB] at bp
        have hBw : w.heap.size < B := hB ▸ b0.lt
        have hBo : ∀ q, own (.slice oa j oc) q → q < B := fun q hq => hB ▸ (hO.lt q hq).2
        generalize wr.alloc (.cells #[.int .i64 y.frm, .int .i64 y.ca.pol, .int .i64 y.ca.size, .slice ya yn yc, .slice za zn zc, .int .i64 y.ca.hand, .int .i64 y.fa] 69) = W2 at bp kp ⊢
        replace kk := kk.keep kp
        replace b0 := b0.keep kp
        replace hO := hO.keep kp
        rw [hB]
        clear kp hB
        refine wp_region_K (S := fun W => (W.cell? ⟨w.heap.size, 0, none⟩ = some (.int .i64 it) ∧ W.cell? ⟨w.heap.size, 1, none⟩ = some (.slice (some ⟨b, off, none⟩) ps.length cap) ∧ W.cell? ⟨w.heap.size, 2, none⟩ = some (.slice ra rq.length rc)) ∧ W.cell? ⟨B, 6, none⟩ = some (.int .i64 y.fa)) (k := 6) (by kernel_rfl) ?_
        replace kk := kk.keep (drewNo _)
        replace b0 := b0.keep (drewNo _)
        replace hO := hO.keep (drewNo _)
        replace bp := bp.keep (drewNo _)
        generalize W2.drew = WR at kk b0 hO bp ⊢
        have hS : (WR.cell? ⟨w.heap.size, 0, none⟩ = some (.int .i64 it) ∧ WR.cell? ⟨w.heap.size, 1, none⟩ = some (.slice (some ⟨b, off, none⟩) ps.length cap) ∧ WR.cell? ⟨w.heap.size, 2, none⟩ = some (.slice ra rq.length rc)) ∧ WR.cell? ⟨B, 6, none⟩ = some (.int .i64 y.fa) := ⟨⟨b0.c0, b0.c1, b0.c2⟩, bp.c6⟩
        refine wpAnyK_take0 0 (.slice oa j oc) rfl (by kernel_rfl) (fun _ _ _ h => h) hS rfl (by intro w; go_simp) ?_
        simp only [List.getElem_toArray, List.getElem_cons_zero, Act.put, List.setIfInBounds_toArray, List.set_cons_zero, List.set_cons_succ]
        refine wpAnyK_take0 1 (.pointer (some ⟨B, 6, none⟩)) rfl (by kernel_rfl) (fun _ _ _ h => h) hS rfl (by intro w; go_simp) ?_
        simp only [List.getElem_toArray, List.getElem_cons_succ, List.getElem_cons_zero, Act.put, List.setIfInBounds_toArray, List.set_cons_zero, List.set_cons_succ]
        refine wpAnyK_take 2 (.int .i64 y.fa) rfl (by kernel_rfl) (fun _ _ _ h => h) hS rfl (by intro w hSw; go_simp) ?_
        simp only [List.getElem_toArray, List.getElem_cons_succ, List.getElem_cons_zero, Act.put, List.setIfInBounds_toArray, List.set_cons_zero, List.set_cons_succ]
        refine wpAnyK_take0 4 (.int .i64 (j : Int)) rfl (by kernel_rfl) (fun _ _ _ h => h) hS rfl (by intro w; go_simp) ?_
        simp only [List.getElem_toArray, List.getElem_cons_succ, List.getElem_cons_zero, Act.put, List.setIfInBounds_toArray, List.set_cons_zero, List.set_cons_succ]
        refine wpAnyK_1 3 (by kernel_rfl) (wpOpK' rfl rfl ?_)
        intro K hK
        obtain ⟨⟨c0, c1, c2⟩, d6⟩ := id hS
        unfold Oper.wp execOp
        go_simp
        refine hK.out _ _ hS ?_
        clear hK K c0 c1 c2 d6
        simp only [List.setIfInBounds_toArray]
        refine wpAnyK_1 5 (by kernel_rfl) (wpOpK' rfl rfl ?_)
        intro K hK
        refine ocallR (f := 62) (args := #[.agg #[.int .i64 it, .slice (some ⟨b, off, none⟩) ps.length cap, .slice ra rq.length rc], .int .i64 (j : Int)]) (by go_simp) (fewest_any _ ⟨it, ps, rq⟩ j WR (h0.keep kk) HT.out hlt) (fun w8 k8 => hK.out _ _ ⟨⟨(b0.keep k8).c0, (b0.keep k8).c1, (b0.keep k8).c2⟩, (bp.keep k8).c6⟩ ?_)
        rw [HFW.out]
        replace kk := kk.keep k8
        replace b0 := b0.keep k8
        replace hO := hO.keep k8
        clear hK K hS k8 bp
        have hS : True := trivial
        simp only [List.getElem_toArray, List.getElem_cons_succ, List.getElem_cons_zero, Act.put, List.setIfInBounds_toArray, List.set_cons_zero, List.set_cons_succ]
        refine wpAnyK_tail 6 rfl (by kernel_rfl) ?_
        simp only [List.drop_succ_cons, List.drop_zero]
        clear hS
        have hlt8 := b0.lt
        go_wp2_with (at_builtin; refine wappS1 elA2 (by omega) rfl (.tmp 19) (.tmp 26) rfl hO rfl (by simp [Value.oneCell']) rfl rfl (by omega) (by omega) ?_)
        intro v' wN o2 k2 _
        have bN := b0.step k2 (fun hq => by have := (hO.lt _ hq).1; omega)
        have kN := chg_ownS kk k2 hO (by omega)
        obtain ⟨na, nc, rfl, _⟩ := o2.view
        have HN2 := Lib.hid o2
        have HKN := Lib.hid (And.intro bN kN)
        clear o2 bN kN k2 hO kk b0
        go_wp2_with fail
        go_round
        case measure => simp [intOf]; omega
        case rel => exact ⟨j + 1, by omega, by go_num, by rw [HSN.out]; exact HN2.out, HKN.out.1, HKN.out.2⟩
      · have hje : j = ps.length := by omega
        subst hje
        go_wp2_with fail
        exact bodyPost_ret (v := .tuple #[.slice oa ps.length oc, .bool true]) (by simp [results, Tryz.results23, go_sem]) rfl ⟨_, _, rfl, by rw [HT.out], by rw [HN.out]; exact hO.weak (by omega), kk⟩
end Go.Proofs.YtodnkkmjjlfoiaaGreat
