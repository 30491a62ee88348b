import Derived.Test.YtodnkkmjjlfoiaaPk9
import Derived.Test.YtodnkkmjjlfoiaaBj
import Derived.Test.YtodnkkmjjlfoiaaPk4
/- a Player's part and the fewest faults of it, both sides -/
namespace Go.Proofs.Ytodnkkmjjlfoiaa
open Go.RowKit

/-- the part of a Player, and the fewest faults of it -/
def partL (t : To) (i : Nat) : List Int := t.reqs.drop (t.ps.getD i dPl).frm.toNat
def fewT (t : To) (i : Nat) : Int := fewN (t.ps.getD i dPl).ca.size t.items (partL t i)
theorem tour_player {t : To} (ht : tourB t = true) {i : Nat} (hi : i < t.ps.length) : playB (t.ps.getD i dPl) t.reqs = true := by
  unfold tourB at ht
  simp only [Bool.and_eq_true, List.all_eq_true] at ht
  refine ht.2.2 _ ?_
  rw [List.getD_eq_getElem?_getD, List.getElem?_eq_getElem hi]
  exact List.getElem_mem hi
theorem tour_facts {t : To} (ht : tourB t = true) {i : Nat} (hi : i < t.ps.length) : (0 ≤ (t.ps.getD i dPl).frm ∧ (t.ps.getD i dPl).frm ≤ t.reqs.length) ∧ (1 ≤ (t.ps.getD i dPl).ca.pol ∧ (t.ps.getD i dPl).ca.pol ≤ 7) ∧
    pagB (t.ps.getD i dPl).ca.size t.items (partL t i) = true ∧ (t.ps.getD i dPl).fa = ((places (newC (t.ps.getD i dPl).ca.pol (t.ps.getD i dPl).ca.size) (partL t i)).length : Int) := by
  have h1 := tour_player ht hi
  unfold playB at h1
  simp only [Bool.and_eq_true, inB_iff, beq_iff_eq] at h1
  obtain ⟨⟨h2, h3, h4⟩, _, h6⟩ := h1
  refine ⟨h2, h3, ?_, h6.symm⟩
  unfold tourB reqB at ht
  simp only [Bool.and_eq_true, inB_iff, decide_eq_true_eq] at ht
  unfold pagB reqB partL
  simp only [Bool.and_eq_true, inB_iff, decide_eq_true_eq]
  refine ⟨h4, ⟨ht.1.1.1, ?_⟩, ?_⟩
  · rw [List.length_drop]; have := ht.1.1.2; omega
  · have hb := ht.1.2
    unfold belowB at hb ⊢
    rw [List.all_eq_true] at hb ⊢
    exact fun x hx => hb x (List.mem_of_mem_drop hx)

set_option maxRecDepth 100000 in
set_option maxHeartbeats 1000000 in
theorem part_at (v : Value) (t : To) (i : Nat) (w : World) (h : RT No w v t) (hi : i < t.ps.length) (hf : 0 ≤ (t.ps.getD i dPl).frm ∧ (t.ps.getD i dPl).frm ≤ t.reqs.length) :
    ∃ a n c, RI No w (.slice a n c) (partL t i) ∧ ∀ W0, Chg No w W0 → Calls Try.prog 18 #[v, .int .i64 (i : Int)] W0 (fun e w' => e = .returned (.slice a n c) ∧ Chg No W0 w') := by
  obtain ⟨it, ps, rq⟩ := t
  obtain ⟨pv, rv, rfl, hps, hrq⟩ := h
  unfold partL
  simp only at hps hrq hi hf ⊢
  obtain ⟨ra, rc, rfl, _⟩ := id hrq
  obtain ⟨a, cap, rfl, hcap, hmax, hlen, pf, mf, hl, hcl⟩ := id hps
  obtain ⟨b, off, rfl, _, hb, hcell⟩ := hcl (by intro e; simp [e] at hi)
  have h7' := hcell i hi
  obtain ⟨y, hy⟩ : ∃ y, ps.getD i dPl = y := ⟨_, rfl⟩
  rw [hy] at h7' hf ⊢
  obtain ⟨xs, hx, hrx⟩ := hrq.from y.frm.toNat y.frm (by omega) (by omega)
  obtain ⟨xa, xn, xc, rfl⟩ := hrx.shape
  refine ⟨xa, xn, xc, hrx, fun W0 k => ?_⟩
  have h7 := h7'.step k hb (fun e => e)
  have hb0 : b < W0.heap.size := Nat.lt_of_lt_of_le hb k.size
  have hi0 : (0 : Int) ≤ (i : Int) := Int.natCast_nonneg _
  have hi1 : (i : Int) < (ps.length : Int) := by omega
  have k0 := (Chg.refl No W0).alloc (.cells #[.int .i64 it, .slice (some ⟨b, off, none⟩) ps.length cap, .slice ra rq.length rc] 28)
  have b0 := Box3.new W0 (.int .i64 it) (.slice (some ⟨b, off, none⟩) ps.length cap) (.slice ra rq.length rc) 28
  obtain ⟨C, hC1, hC2⟩ : ∃ C : World → Prop, (∀ W, C W → Box3 W W0.heap.size (.int .i64 it) (.slice (some ⟨b, off, none⟩) ps.length cap) (.slice ra rq.length rc) ∧ Chg No W0 W) ∧
      (∀ W, Box3 W W0.heap.size (.int .i64 it) (.slice (some ⟨b, off, none⟩) ps.length cap) (.slice ra rq.length rc) → Chg No W0 W → C W) := ⟨_, fun _ h => h, fun _ h h' => ⟨h, h'⟩⟩
  have HCELL : Hid (∀ W, C W → W.cell? ⟨W0.heap.size, 0, none⟩ = some (.int .i64 it) ∧ W.cell? ⟨W0.heap.size, 1, none⟩ = some (.slice (some ⟨b, off, none⟩) ps.length cap) ∧ W.cell? ⟨W0.heap.size, 2, none⟩ = some (.slice ra rq.length rc) ∧
      W.cell? ⟨b, off + i * 7, none⟩ = some (.int .i64 y.frm) ∧ True) := Lib.hid (fun W hW => by
    obtain ⟨g1, g2⟩ := hC1 W hW
    have g3 := h7.step g2 hb0 (fun e => e)
    exact ⟨g1.c0, g1.c1, g1.c2, g3.c0, trivial⟩)
  have HX := Lib.hid hC1
  have hC0 := hC2 _ (b0.keep (Chg.refl No _).drew) k0.drew
  clear hC1 hC2 h7 h7' hcell hcl hl hps hrq hy hf hrx b0 k0
  go_enter Try.func18, Try.ntmps18
  go_wp2_with fail
  refine wp_region_X C (by kernel_rfl) (by kernel_rfl) hC0 ?_
  clear hC0
  refine wpX_val (.pointer (some ⟨W0.heap.size, 2, none⟩)) rfl (by intro W hW; obtain ⟨c0, c1, c2, d0, _⟩ := HCELL.out W hW; go_simp) ?_
  simp only [Act.put, List.setIfInBounds_toArray, List.set_cons_zero, List.set_cons_succ]
  refine wpX_val (.slice ra rq.length rc) rfl (by intro W hW; obtain ⟨c0, c1, c2, d0, _⟩ := HCELL.out W hW; go_simp) ?_
  simp only [Act.put, List.setIfInBounds_toArray, List.set_cons_zero, List.set_cons_succ]
  refine wpX_val (.pointer (some ⟨W0.heap.size, 1, none⟩)) rfl (by intro W hW; obtain ⟨c0, c1, c2, d0, _⟩ := HCELL.out W hW; go_simp) ?_
  simp only [Act.put, List.setIfInBounds_toArray, List.set_cons_zero, List.set_cons_succ]
  refine wpX_val (.slice (some ⟨b, off, none⟩) ps.length cap) rfl (by intro W hW; obtain ⟨c0, c1, c2, d0, _⟩ := HCELL.out W hW; go_simp) ?_
  simp only [Act.put, List.setIfInBounds_toArray, List.set_cons_zero, List.set_cons_succ]
  refine wpX_val (.int .i64 i) rfl (by intro W hW; obtain ⟨c0, c1, c2, d0, _⟩ := HCELL.out W hW; go_simp) ?_
  simp only [Act.put, List.setIfInBounds_toArray, List.set_cons_zero, List.set_cons_succ]
  refine wpX_val (.pointer (some ⟨b, off + i * 7, none⟩)) rfl (by intro W hW; obtain ⟨c0, c1, c2, d0, _⟩ := HCELL.out W hW; go_simp) ?_
  simp only [Act.put, List.setIfInBounds_toArray, List.set_cons_zero, List.set_cons_succ]
  refine wpX_val (.pointer (some ⟨b, off + i * 7, none⟩)) rfl (by intro W hW; obtain ⟨c0, c1, c2, d0, _⟩ := HCELL.out W hW; go_simp) ?_
  simp only [Act.put, List.setIfInBounds_toArray, List.set_cons_zero, List.set_cons_succ]
  refine wpX_val (.int .i64 y.frm) rfl (by intro W hW; obtain ⟨c0, c1, c2, d0, _⟩ := HCELL.out W hW; go_simp) ?_
  simp only [Act.put, List.setIfInBounds_toArray, List.set_cons_zero, List.set_cons_succ]
  refine wpX_val (.slice xa xn xc) rfl (by intro W hW; obtain ⟨c0, c1, c2, d0, _⟩ := HCELL.out W hW; go_simp) ?_
  simp only [Act.put, List.setIfInBounds_toArray, List.set_cons_zero, List.set_cons_succ]
  refine wpX_val (.slice xa xn xc) rfl (by intro W hW; obtain ⟨c0, c1, c2, d0, _⟩ := HCELL.out W hW; go_simp) ?_
  simp only [Act.put, List.setIfInBounds_toArray, List.set_cons_zero, List.set_cons_succ]
  refine wpX_nil (fun W hW => ?_)
  go_wp2_with fail
  go_ret
  exact ⟨rfl, (HX.out W hW).2⟩

set_option maxRecDepth 100000 in
set_option maxHeartbeats 1000000 in
theorem fewest_any (v : Value) (t : To) (i : Nat) (w : World) (h : RT No w v t) (ht : tourB t = true) (hi : i < t.ps.length) :
    Calls Try.prog 12 #[v, .int .i64 (i : Int)] w (fun e w' => e = .returned (.int .i64 (fewT t i)) ∧ Chg No w w') := by
  obtain ⟨hfr, hpo, hpg, _⟩ := tour_facts ht hi
  obtain ⟨hsz, _, hl60, hbelow⟩ := pagB_facts hpg
  have hfw := fewN_ok hpg
  obtain ⟨f, hf⟩ : ∃ f : Nat, fewT t i = (f : Int) := ⟨(fewT t i).toNat, by have := hfw.1; unfold fewT; omega⟩
  have hfN : Fewest (t.ps.getD i dPl).ca.size.toNat (partL t i) f := by
    have := hfw.2
    unfold fewT at hf
    rw [hf, Int.toNat_natCast] at this
    exact this
  have hT := h
  obtain ⟨pa0, pn0, pc0, hpr, hpc⟩ := part_at v t i w h hi hfr
  have HPC := Lib.hid hpc
  have hneg : ∀ x ∈ partL t i, 0 ≤ x := fun x hx => (hbelow x hx).1
  have HNEG := Lib.hid hneg
  have HF := Lib.hid hf
  have HFN := Lib.hid hfN
  have HL := Lib.hid hl60
  obtain ⟨L, hL⟩ : ∃ L, partL t i = L := ⟨_, rfl⟩
  rw [hL] at hpr HNEG HFN HL
  clear hpc hneg hf hfN hl60 hbelow hpg hfw hpo hL ht hfr
  rw [HF.out]
  obtain ⟨it, ps, rq⟩ := t
  obtain ⟨pv, rv, rfl, hps, hrq⟩ := h
  simp only at hps hrq hi hsz HFN
  obtain ⟨ra, rc, rfl, _⟩ := id hrq
  obtain ⟨a, cap, rfl, hcap, hmax, hlen, pf, mf, hl, hcl⟩ := id hps
  obtain ⟨b, off, rfl, _, hb, hcell⟩ := hcl (by intro e; simp [e] at hi)
  have h7 := hcell i hi
  obtain ⟨y, hy⟩ : ∃ y, ps.getD i dPl = y := ⟨_, rfl⟩
  rw [hy] at h7 hsz HFN
  obtain ⟨K, hK⟩ : ∃ K : Nat, y.ca.size = (K : Int) := ⟨y.ca.size.toNat, by omega⟩
  have d2 := h7.c2
  rw [hK] at d2 hsz HFN
  have hi0 : (0 : Int) ≤ (i : Int) := Int.natCast_nonneg _
  have hi1 : (i : Int) < (ps.length : Int) := by omega
  have k0 := (Chg.refl No w).alloc (.cells #[.int .i64 it, .slice (some ⟨b, off, none⟩) ps.length cap, .slice ra rq.length rc] 28)
  have b0 := Box3.new w (.int .i64 it) (.slice (some ⟨b, off, none⟩) ps.length cap) (.slice ra rq.length rc) 28
  obtain ⟨C, hC1, hC2⟩ : ∃ C : World → Prop, (∀ W, C W → Box3 W w.heap.size (.int .i64 it) (.slice (some ⟨b, off, none⟩) ps.length cap) (.slice ra rq.length rc) ∧ Chg No w W) ∧
      (∀ W, Box3 W w.heap.size (.int .i64 it) (.slice (some ⟨b, off, none⟩) ps.length cap) (.slice ra rq.length rc) → Chg No w W → C W) := ⟨_, fun _ h => h, fun _ h h' => ⟨h, h'⟩⟩
  have HCELL : Hid (∀ W, C W → W.cell? ⟨w.heap.size, 0, none⟩ = some (.int .i64 it) ∧ W.cell? ⟨w.heap.size, 1, none⟩ = some (.slice (some ⟨b, off, none⟩) ps.length cap) ∧ W.cell? ⟨w.heap.size, 2, none⟩ = some (.slice ra rq.length rc) ∧
      W.cell? ⟨b, off + i * 7 + 2, none⟩ = some (.int .i64 (K : Int)) ∧ True) := Lib.hid (fun W hW => by
    obtain ⟨g1, g2⟩ := hC1 W hW
    exact ⟨g1.c0, g1.c1, g1.c2, (g2.cellD b _ hb (fun e => e)).trans d2, trivial⟩)
  have HK : Hid (∀ W W', C W → Chg No W W' → C W') := Lib.hid (fun W W' hW hk => hC2 W' ((hC1 W hW).1.keep hk) ((hC1 W hW).2.keep hk))
  have HX := Lib.hid hC1
  have hC0 := hC2 _ (b0.keep (Chg.refl No _).drew) k0.drew
  clear hC1 hC2 h7 hcell hcl hl hps hrq hy b0 k0 hT d2 HF
  go_enter Try.func12, Try.ntmps12
  go_wp2_with fail
  refine wp_region_X C (by kernel_rfl) (by kernel_rfl) hC0 ?_
  clear hC0
  refine wpX_val (.pointer (some ⟨w.heap.size, 1, none⟩)) rfl (by intro W hW; obtain ⟨c0, c1, c2, d2, _⟩ := HCELL.out W hW; go_simp) ?_
  simp only [Act.put, List.setIfInBounds_toArray, List.set_cons_zero, List.set_cons_succ]
  refine wpX_val (.slice (some ⟨b, off, none⟩) ps.length cap) rfl (by intro W hW; obtain ⟨c0, c1, c2, d2, _⟩ := HCELL.out W hW; go_simp) ?_
  simp only [Act.put, List.setIfInBounds_toArray, List.set_cons_zero, List.set_cons_succ]
  refine wpX_val (.int .i64 i) rfl (by intro W hW; obtain ⟨c0, c1, c2, d2, _⟩ := HCELL.out W hW; go_simp) ?_
  simp only [Act.put, List.setIfInBounds_toArray, List.set_cons_zero, List.set_cons_succ]
  refine wpX_val (.pointer (some ⟨b, off + i * 7, none⟩)) rfl (by intro W hW; obtain ⟨c0, c1, c2, d2, _⟩ := HCELL.out W hW; go_simp) ?_
  simp only [Act.put, List.setIfInBounds_toArray, List.set_cons_zero, List.set_cons_succ]
  refine wpX_val (.pointer (some ⟨b, off + i * 7 + 1, none⟩)) rfl (by intro W hW; obtain ⟨c0, c1, c2, d2, _⟩ := HCELL.out W hW; go_simp) ?_
  simp only [Act.put, List.setIfInBounds_toArray, List.set_cons_zero, List.set_cons_succ]
  refine wpX_val (.pointer (some ⟨b, off + i * 7 + 2, none⟩)) rfl (by intro W hW; obtain ⟨c0, c1, c2, d2, _⟩ := HCELL.out W hW; go_simp) ?_
  simp only [Act.put, List.setIfInBounds_toArray, List.set_cons_zero, List.set_cons_succ]
  refine wpX_val (.int .i64 (K : Int)) rfl (by intro W hW; obtain ⟨c0, c1, c2, d2, _⟩ := HCELL.out W hW; go_simp) ?_
  simp only [Act.put, List.setIfInBounds_toArray, List.set_cons_zero, List.set_cons_succ]
  refine wpX_val (.agg #[.int .i64 it, .slice (some ⟨b, off, none⟩) ps.length cap, .slice ra rq.length rc]) rfl (by intro W hW; obtain ⟨c0, c1, c2, d2, _⟩ := HCELL.out W hW; go_simp) ?_
  simp only [Act.put, List.setIfInBounds_toArray, List.set_cons_zero, List.set_cons_succ]
  refine wpX_val (.int .i64 i) rfl (by intro W hW; obtain ⟨c0, c1, c2, d2, _⟩ := HCELL.out W hW; go_simp) ?_
  simp only [Act.put, List.setIfInBounds_toArray, List.set_cons_zero, List.set_cons_succ]
  refine wpX_call (.slice pa0 pn0 pc0) (f := 18) (args := #[.agg #[.int .i64 it, .slice (some ⟨b, off, none⟩) ps.length cap, .slice ra rq.length rc], .int .i64 (i : Int)]) rfl (by intro W hW; go_simp) (fun W hW => (HPC.out W (HX.out W hW).2).mono (fun e w' h => ⟨h.1, HK.out _ _ hW h.2⟩)) ?_
  simp only [Act.put, List.setIfInBounds_toArray, List.set_cons_zero, List.set_cons_succ]
  refine wpX_call (.int .i64 (f : Int)) (f := 29) (args := #[.int .i64 (K : Int), .slice pa0 pn0 pc0]) rfl (by intro W hW; go_simp) (fun W hW => (fewestFaults_any K (by omega) _ L W (hpr.keep (HX.out W hW).2) HNEG.out HL.out f HFN.out).mono (by rintro e w' ⟨_, rfl, rfl, hk⟩; exact ⟨rfl, HK.out _ _ hW hk⟩)) ?_
  simp only [Act.put, List.setIfInBounds_toArray, List.set_cons_zero, List.set_cons_succ]
  refine wpX_val (.int .i64 (f : Int)) rfl (by intro W hW; obtain ⟨c0, c1, c2, d2, _⟩ := HCELL.out W hW; go_simp) ?_
  simp only [Act.put, List.setIfInBounds_toArray, List.set_cons_zero, List.set_cons_succ]
  refine wpX_nil (fun W hW => ?_)
  go_wp2_with fail
  go_ret
  exact ⟨rfl, (HX.out W hW).2⟩
end Go.Proofs.Ytodnkkmjjlfoiaa
