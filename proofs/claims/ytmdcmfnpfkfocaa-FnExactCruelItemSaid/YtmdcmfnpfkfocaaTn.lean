import Derived.Test.YtmdcmfnpfkfocaaTm
/- CruelItem, both sides: the whole -/
namespace Go.Proofs.Ytmdcmfnpfkfocaa
open Go.RowKit

theorem miss_uni {l : List Int} {m m' : Nat} (h : IsMiss l m) (h' : IsMiss l m') : m = m' := by
  rcases Nat.lt_trichotomy m m' with e | e | e
  · exact absurd (h'.2 m e) h.1
  · exact e
  · exact absurd (h.2 m' e) h'.1
noncomputable def missC (t : To) (i : Int) : Nat := Classical.choose (miss_ex (t.ps.getD i.toNat dPl).ca.pages)
theorem missC_spec (t : To) (i : Int) : IsMiss (t.ps.getD i.toNat dPl).ca.pages (missC t i) := (Classical.choose_spec (miss_ex (t.ps.getD i.toNat dPl).ca.pages)).2
noncomputable def cruelV (t : To) (i : Int) : Int := if okCruel t i then (missC t i : Int) else 0

set_option maxRecDepth 100000 in
set_option maxHeartbeats 4000000 in
theorem specCruelItem_any (v : Value) (t : To) (i : Int) (w : World) (h : RT No w v t) :
    Calls Try.prog 31 #[v, .int .i64 i] w (Ret2 fun v0 v1 w' => v0 = .int .i64 (cruelV t i) ∧ v1 = .bool (okCruel t i) ∧ Chg No w w') := by
  have h0 := h
  obtain ⟨it, ps, rq⟩ := t
  obtain ⟨pv, rv, rfl, hps, hrq⟩ := h
  simp only at hps hrq
  obtain ⟨ra, rn, rc, rfl⟩ := hrq.shape
  obtain ⟨a, cap, rfl, hcap, hmax, hlen, pf, mf, hl, hcl⟩ := id hps
  cases ht : tourB ⟨it, ps, rq⟩
  · have HO : Hid (okCruel ⟨it, ps, rq⟩ i = false) := Lib.hid (by simp [okCruel, ht])
    have HV : Hid (cruelV ⟨it, ps, rq⟩ i = 0) := Lib.hid (by simp [cruelV, okCruel, ht])
    have HT := Lib.hid ht
    have k0 := (Chg.refl No w).alloc (.cells #[.int .i64 it, .slice a ps.length cap, .slice ra rn rc] 48)
    have b0 := Box3.new w (.int .i64 it) (.slice a ps.length cap) (.slice ra rn rc) 48
    obtain ⟨C, hC1, hC2⟩ : ∃ C : World → Prop, (∀ W, C W → Box3 W w.heap.size (.int .i64 it) (.slice a ps.length cap) (.slice ra rn rc) ∧ Chg No w W) ∧ (∀ W, Box3 W w.heap.size (.int .i64 it) (.slice a ps.length cap) (.slice ra rn rc) → Chg No w W → C W) := ⟨_, fun _ h => h, fun _ h h' => ⟨h, h'⟩⟩
    have HCELL : Hid (∀ W, C W → W.cell? ⟨w.heap.size, 0, none⟩ = some (.int .i64 it) ∧ W.cell? ⟨w.heap.size, 1, none⟩ = some (.slice a ps.length cap) ∧ W.cell? ⟨w.heap.size, 2, none⟩ = some (.slice ra rn rc) ∧ True) := Lib.hid (fun W hW => by
      obtain ⟨g1, g2⟩ := hC1 W hW
      exact ⟨g1.c0, g1.c1, g1.c2, trivial⟩)
    have HK : Hid (∀ W W', C W → Chg No W W' → C W') := Lib.hid (fun W W' hW hk => hC2 W' ((hC1 W hW).1.keep hk) ((hC1 W hW).2.keep hk))
    have HX := Lib.hid hC1
    have hC0 := hC2 _ (b0.keep (Chg.refl No _).drew) k0.drew
    clear hC1 hC2 b0 k0
    clear ht hl hcl
    go_enter Try.func31, Try.ntmps31
    go_wp2_with fail
    refine wp_region_X C (by kernel_rfl) (by kernel_rfl) hC0 ?_
    clear hC0
    refine wpX_val (.agg #[.int .i64 it, .slice a ps.length cap, .slice ra rn rc]) rfl (by intro W hW; obtain ⟨c0, c1, c2, d3⟩ := HCELL.out W hW; go_simp) ?_
    simp only [Act.put, List.setIfInBounds_toArray, List.set_cons_zero, List.set_cons_succ]
    refine wpX_call (.bool false) (f := 49) (args := #[.agg #[.int .i64 it, .slice a ps.length cap, .slice ra rn rc]]) rfl (by intro W hW; obtain ⟨c0, c1, c2, d3⟩ := HCELL.out W hW; go_simp) (fun W hW => (l12Tour_any _ ⟨it, ps, rq⟩ W (h0.keep (HX.out W hW).2)).mono (by rintro e w' ⟨_, rfl, rfl, hk⟩; exact ⟨by rw [HT.out], HK.out _ _ hW hk⟩)) ?_
    simp only [Act.put, List.setIfInBounds_toArray, List.set_cons_zero, List.set_cons_succ]
    refine wpX_val (.bool true) rfl (by intro W hW; obtain ⟨c0, c1, c2, d3⟩ := HCELL.out W hW; go_simp) ?_
    simp only [Act.put, List.setIfInBounds_toArray, List.set_cons_zero, List.set_cons_succ]
    refine wpX_val (.bool true) rfl (by intro W hW; obtain ⟨c0, c1, c2, d3⟩ := HCELL.out W hW; go_simp) ?_
    simp only [Act.put, List.setIfInBounds_toArray, List.set_cons_zero, List.set_cons_succ]
    repeat (first | (refine wpX_skip rfl ?_; simp only [Act.put, List.setIfInBounds_toArray, List.set_cons_zero, List.set_cons_succ]) | (refine wpX_val (.bool true) rfl (by intro W hW; go_simp) ?_; simp only [Act.put, List.setIfInBounds_toArray, List.set_cons_zero, List.set_cons_succ]))
    refine wpX_nil (fun W hW => ?_)
    have kW := (HX.out W hW).2
    go_wp2_with fail
    go_ret2
    exact ⟨_, _, rfl, by rw [HV.out]; rfl, by rw [HO.out]; rfl, kW⟩
  · cases hh : hasP ⟨it, ps, rq⟩ i
    · have HO : Hid (okCruel ⟨it, ps, rq⟩ i = false) := Lib.hid (by simp [okCruel, hh])
      have HV : Hid (cruelV ⟨it, ps, rq⟩ i = 0) := Lib.hid (by simp [cruelV, okCruel, hh])
      have HT := Lib.hid ht
      have HH := Lib.hid hh
      have k0 := (Chg.refl No w).alloc (.cells #[.int .i64 it, .slice a ps.length cap, .slice ra rn rc] 48)
      have b0 := Box3.new w (.int .i64 it) (.slice a ps.length cap) (.slice ra rn rc) 48
      obtain ⟨C, hC1, hC2⟩ : ∃ C : World → Prop, (∀ W, C W → Box3 W w.heap.size (.int .i64 it) (.slice a ps.length cap) (.slice ra rn rc) ∧ Chg No w W) ∧ (∀ W, Box3 W w.heap.size (.int .i64 it) (.slice a ps.length cap) (.slice ra rn rc) → Chg No w W → C W) := ⟨_, fun _ h => h, fun _ h h' => ⟨h, h'⟩⟩
      have HCELL : Hid (∀ W, C W → W.cell? ⟨w.heap.size, 0, none⟩ = some (.int .i64 it) ∧ W.cell? ⟨w.heap.size, 1, none⟩ = some (.slice a ps.length cap) ∧ W.cell? ⟨w.heap.size, 2, none⟩ = some (.slice ra rn rc) ∧ True) := Lib.hid (fun W hW => by
        obtain ⟨g1, g2⟩ := hC1 W hW
        exact ⟨g1.c0, g1.c1, g1.c2, trivial⟩)
      have HK : Hid (∀ W W', C W → Chg No W W' → C W') := Lib.hid (fun W W' hW hk => hC2 W' ((hC1 W hW).1.keep hk) ((hC1 W hW).2.keep hk))
      have HX := Lib.hid hC1
      have hC0 := hC2 _ (b0.keep (Chg.refl No _).drew) k0.drew
      clear hC1 hC2 b0 k0
      clear ht hh hl hcl
      go_enter Try.func31, Try.ntmps31
      go_wp2_with fail
      refine wp_region_X C (by kernel_rfl) (by kernel_rfl) hC0 ?_
      clear hC0
      refine wpX_val (.agg #[.int .i64 it, .slice a ps.length cap, .slice ra rn rc]) rfl (by intro W hW; obtain ⟨c0, c1, c2, d3⟩ := HCELL.out W hW; go_simp) ?_
      simp only [Act.put, List.setIfInBounds_toArray, List.set_cons_zero, List.set_cons_succ]
      refine wpX_call (.bool true) (f := 49) (args := #[.agg #[.int .i64 it, .slice a ps.length cap, .slice ra rn rc]]) rfl (by intro W hW; obtain ⟨c0, c1, c2, d3⟩ := HCELL.out W hW; go_simp) (fun W hW => (l12Tour_any _ ⟨it, ps, rq⟩ W (h0.keep (HX.out W hW).2)).mono (by rintro e w' ⟨_, rfl, rfl, hk⟩; exact ⟨by rw [HT.out], HK.out _ _ hW hk⟩)) ?_
      simp only [Act.put, List.setIfInBounds_toArray, List.set_cons_zero, List.set_cons_succ]
      refine wpX_val (.bool false) rfl (by intro W hW; obtain ⟨c0, c1, c2, d3⟩ := HCELL.out W hW; go_simp) ?_
      simp only [Act.put, List.setIfInBounds_toArray, List.set_cons_zero, List.set_cons_succ]
      refine wpX_val (.bool false) rfl (by intro W hW; obtain ⟨c0, c1, c2, d3⟩ := HCELL.out W hW; go_simp) ?_
      simp only [Act.put, List.setIfInBounds_toArray, List.set_cons_zero, List.set_cons_succ]
      refine wpX_val (.agg #[.int .i64 it, .slice a ps.length cap, .slice ra rn rc]) rfl (by intro W hW; obtain ⟨c0, c1, c2, d3⟩ := HCELL.out W hW; go_simp) ?_
      simp only [Act.put, List.setIfInBounds_toArray, List.set_cons_zero, List.set_cons_succ]
      refine wpX_val (.int .i64 i) rfl (by intro W hW; obtain ⟨c0, c1, c2, d3⟩ := HCELL.out W hW; go_simp) ?_
      simp only [Act.put, List.setIfInBounds_toArray, List.set_cons_zero, List.set_cons_succ]
      refine wpX_call (.bool false) (f := 58) (args := #[.agg #[.int .i64 it, .slice a ps.length cap, .slice ra rn rc], .int .i64 i]) rfl (by intro W hW; obtain ⟨c0, c1, c2, d3⟩ := HCELL.out W hW; go_simp) (fun W hW => (l12Has_any _ ⟨it, ps, rq⟩ i W (h0.keep (HX.out W hW).2)).mono (by rintro e w' ⟨_, rfl, rfl, hk⟩; exact ⟨by rw [HH.out], HK.out _ _ hW hk⟩)) ?_
      simp only [Act.put, List.setIfInBounds_toArray, List.set_cons_zero, List.set_cons_succ]
      refine wpX_val (.bool true) rfl (by intro W hW; obtain ⟨c0, c1, c2, d3⟩ := HCELL.out W hW; go_simp) ?_
      simp only [Act.put, List.setIfInBounds_toArray, List.set_cons_zero, List.set_cons_succ]
      refine wpX_val (.bool true) rfl (by intro W hW; obtain ⟨c0, c1, c2, d3⟩ := HCELL.out W hW; go_simp) ?_
      simp only [Act.put, List.setIfInBounds_toArray, List.set_cons_zero, List.set_cons_succ]
      refine wpX_val (.bool true) rfl (by intro W hW; obtain ⟨c0, c1, c2, d3⟩ := HCELL.out W hW; go_simp) ?_
      simp only [Act.put, List.setIfInBounds_toArray, List.set_cons_zero, List.set_cons_succ]
      repeat (first | (refine wpX_skip rfl ?_; simp only [Act.put, List.setIfInBounds_toArray, List.set_cons_zero, List.set_cons_succ]) | (refine wpX_val (.bool true) rfl (by intro W hW; go_simp) ?_; simp only [Act.put, List.setIfInBounds_toArray, List.set_cons_zero, List.set_cons_succ]))
      refine wpX_nil (fun W hW => ?_)
      have kW := (HX.out W hW).2
      go_wp2_with fail
      go_ret2
      exact ⟨_, _, rfl, by rw [HV.out]; rfl, by rw [HO.out]; rfl, kW⟩
    · skip
      have hik : 0 ≤ i ∧ i ≤ (ps.length : Int) - 1 := inB_iff.1 hh
      obtain ⟨k, rfl⟩ : ∃ k : Nat, i = (k : Int) := ⟨i.toNat, by omega⟩
      have hk : k < ps.length := by omega
      obtain ⟨b, off, rfl, _, hb, hcell⟩ := hcl (by intro e; simp [e] at hk)
      have h7 := hcell k hk
      obtain ⟨hpj, _⟩ := hl k hk
      obtain ⟨m, hmle, hm⟩ := miss_ex (ps.getD k dPl).ca.pages
      have hmc : missC ⟨it, ps, rq⟩ (k : Int) = m := miss_uni (missC_spec ⟨it, ps, rq⟩ (k : Int)) hm
      have hml := miss_lt (t := ⟨it, ps, rq⟩) ht (i := k) hk hm
      have hok : okCruel ⟨it, ps, rq⟩ (k : Int) = !(((ps.getD k dPl).ca.pages.length : Int) == it) := by simp only [okCruel, ht, hh, Bool.true_and]; rfl
      obtain ⟨l, hl2⟩ : ∃ l, (ps.getD k dPl).ca.pages = l := ⟨_, rfl⟩
      simp only at hml
      rw [hl2] at hm hpj hml hok hmle
      have d3 := h7.c3
      generalize pf k = pj at hpj d3
      obtain ⟨ya, yc, rfl, _⟩ := id hpj
      have hk0 : (0 : Int) ≤ (k : Int) := Int.natCast_nonneg _
      have hk1 : (k : Int) < (ps.length : Int) := by omega
      have HT := Lib.hid ht
      have HH := Lib.hid hh
      have HM := Lib.hid hm
      have HMC := Lib.hid hmc
      have HML := Lib.hid hml
      have HOK := Lib.hid hok
      have D3 := Lib.hid d3
      have hbb := hb
      clear h7 hcell hcl hl hl2 hm hmc hml hok hik hh ht hmle
      have k0 := (Chg.refl No w).alloc (.cells #[.int .i64 it, .slice (some ⟨b, off, none⟩) ps.length cap, .slice ra rn rc] 48)
      have b0 := Box3.new w (.int .i64 it) (.slice (some ⟨b, off, none⟩) ps.length cap) (.slice ra rn rc) 48
      obtain ⟨C, hC1, hC2⟩ : ∃ C : World → Prop, (∀ W, C W → Box3 W w.heap.size (.int .i64 it) (.slice (some ⟨b, off, none⟩) ps.length cap) (.slice ra rn rc) ∧ Chg No w W) ∧ (∀ W, Box3 W w.heap.size (.int .i64 it) (.slice (some ⟨b, off, none⟩) ps.length cap) (.slice ra rn rc) → Chg No w W → C W) := ⟨_, fun _ h => h, fun _ h h' => ⟨h, h'⟩⟩
      have HCELL : Hid (∀ W, C W → W.cell? ⟨w.heap.size, 0, none⟩ = some (.int .i64 it) ∧ W.cell? ⟨w.heap.size, 1, none⟩ = some (.slice (some ⟨b, off, none⟩) ps.length cap) ∧ W.cell? ⟨w.heap.size, 2, none⟩ = some (.slice ra rn rc) ∧ W.cell? ⟨b, off + k * 7 + 3, none⟩ = some (.slice ya l.length yc)) := Lib.hid (fun W hW => by
        obtain ⟨g1, g2⟩ := hC1 W hW
        exact ⟨g1.c0, g1.c1, g1.c2, (g2.cellD b _ hbb (fun e => e)).trans D3.out⟩)
      have HK : Hid (∀ W W', C W → Chg No W W' → C W') := Lib.hid (fun W W' hW hk => hC2 W' ((hC1 W hW).1.keep hk) ((hC1 W hW).2.keep hk))
      have HX := Lib.hid hC1
      have hC0 := hC2 _ (b0.keep (Chg.refl No _).drew) k0.drew
      clear hC1 hC2 b0 k0
      go_enter Try.func31, Try.ntmps31
      go_wp2_with fail
      refine wp_region_X C (by kernel_rfl) (by kernel_rfl) hC0 ?_
      clear hC0
      refine wpX_val (.agg #[.int .i64 it, .slice (some ⟨b, off, none⟩) ps.length cap, .slice ra rn rc]) rfl (by intro W hW; obtain ⟨c0, c1, c2, d3⟩ := HCELL.out W hW; go_simp) ?_
      simp only [Act.put, List.setIfInBounds_toArray, List.set_cons_zero, List.set_cons_succ]
      refine wpX_call (.bool true) (f := 49) (args := #[.agg #[.int .i64 it, .slice (some ⟨b, off, none⟩) ps.length cap, .slice ra rn rc]]) rfl (by intro W hW; obtain ⟨c0, c1, c2, d3⟩ := HCELL.out W hW; go_simp) (fun W hW => (l12Tour_any _ ⟨it, ps, rq⟩ W (h0.keep (HX.out W hW).2)).mono (by rintro e w' ⟨_, rfl, rfl, hk⟩; exact ⟨by rw [HT.out], HK.out _ _ hW hk⟩)) ?_
      simp only [Act.put, List.setIfInBounds_toArray, List.set_cons_zero, List.set_cons_succ]
      refine wpX_val (.bool false) rfl (by intro W hW; obtain ⟨c0, c1, c2, d3⟩ := HCELL.out W hW; go_simp) ?_
      simp only [Act.put, List.setIfInBounds_toArray, List.set_cons_zero, List.set_cons_succ]
      refine wpX_val (.bool false) rfl (by intro W hW; obtain ⟨c0, c1, c2, d3⟩ := HCELL.out W hW; go_simp) ?_
      simp only [Act.put, List.setIfInBounds_toArray, List.set_cons_zero, List.set_cons_succ]
      refine wpX_val (.agg #[.int .i64 it, .slice (some ⟨b, off, none⟩) ps.length cap, .slice ra rn rc]) rfl (by intro W hW; obtain ⟨c0, c1, c2, d3⟩ := HCELL.out W hW; go_simp) ?_
      simp only [Act.put, List.setIfInBounds_toArray, List.set_cons_zero, List.set_cons_succ]
      refine wpX_val (.int .i64 (k : Int)) rfl (by intro W hW; obtain ⟨c0, c1, c2, d3⟩ := HCELL.out W hW; go_simp) ?_
      simp only [Act.put, List.setIfInBounds_toArray, List.set_cons_zero, List.set_cons_succ]
      refine wpX_call (.bool true) (f := 58) (args := #[.agg #[.int .i64 it, .slice (some ⟨b, off, none⟩) ps.length cap, .slice ra rn rc], .int .i64 (k : Int)]) rfl (by intro W hW; obtain ⟨c0, c1, c2, d3⟩ := HCELL.out W hW; go_simp) (fun W hW => (l12Has_any _ ⟨it, ps, rq⟩ (k : Int) W (h0.keep (HX.out W hW).2)).mono (by rintro e w' ⟨_, rfl, rfl, hk⟩; exact ⟨by rw [HH.out], HK.out _ _ hW hk⟩)) ?_
      simp only [Act.put, List.setIfInBounds_toArray, List.set_cons_zero, List.set_cons_succ]
      refine wpX_val (.bool false) rfl (by intro W hW; obtain ⟨c0, c1, c2, d3⟩ := HCELL.out W hW; go_simp) ?_
      simp only [Act.put, List.setIfInBounds_toArray, List.set_cons_zero, List.set_cons_succ]
      refine wpX_val (.bool false) rfl (by intro W hW; obtain ⟨c0, c1, c2, d3⟩ := HCELL.out W hW; go_simp) ?_
      simp only [Act.put, List.setIfInBounds_toArray, List.set_cons_zero, List.set_cons_succ]
      refine wpX_val (.bool false) rfl (by intro W hW; obtain ⟨c0, c1, c2, d3⟩ := HCELL.out W hW; go_simp) ?_
      simp only [Act.put, List.setIfInBounds_toArray, List.set_cons_zero, List.set_cons_succ]
      refine wpX_val (.pointer (some ⟨w.heap.size, 1, none⟩)) rfl (by intro W hW; obtain ⟨c0, c1, c2, d3⟩ := HCELL.out W hW; go_simp) ?_
      simp only [Act.put, List.setIfInBounds_toArray, List.set_cons_zero, List.set_cons_succ]
      refine wpX_val (.slice (some ⟨b, off, none⟩) ps.length cap) rfl (by intro W hW; obtain ⟨c0, c1, c2, d3⟩ := HCELL.out W hW; go_simp) ?_
      simp only [Act.put, List.setIfInBounds_toArray, List.set_cons_zero, List.set_cons_succ]
      refine wpX_val (.int .i64 (k : Int)) rfl (by intro W hW; obtain ⟨c0, c1, c2, d3⟩ := HCELL.out W hW; go_simp) ?_
      simp only [Act.put, List.setIfInBounds_toArray, List.set_cons_zero, List.set_cons_succ]
      refine wpX_val (.pointer (some ⟨b, off + k * 7, none⟩)) rfl (by intro W hW; obtain ⟨c0, c1, c2, d3⟩ := HCELL.out W hW; go_simp) ?_
      simp only [Act.put, List.setIfInBounds_toArray, List.set_cons_zero, List.set_cons_succ]
      refine wpX_val (.pointer (some ⟨b, off + k * 7 + 1, none⟩)) rfl (by intro W hW; obtain ⟨c0, c1, c2, d3⟩ := HCELL.out W hW; go_simp) ?_
      simp only [Act.put, List.setIfInBounds_toArray, List.set_cons_zero, List.set_cons_succ]
      refine wpX_val (.pointer (some ⟨b, off + k * 7 + 3, none⟩)) rfl (by intro W hW; obtain ⟨c0, c1, c2, d3⟩ := HCELL.out W hW; go_simp) ?_
      simp only [Act.put, List.setIfInBounds_toArray, List.set_cons_zero, List.set_cons_succ]
      refine wpX_val (.slice ya l.length yc) rfl (by intro W hW; obtain ⟨c0, c1, c2, d3⟩ := HCELL.out W hW; go_simp) ?_
      simp only [Act.put, List.setIfInBounds_toArray, List.set_cons_zero, List.set_cons_succ]
      refine wpX_val (.int .i64 l.length) rfl (by intro W hW; obtain ⟨c0, c1, c2, d3⟩ := HCELL.out W hW; go_simp) ?_
      simp only [Act.put, List.setIfInBounds_toArray, List.set_cons_zero, List.set_cons_succ]
      refine wpX_val (.pointer (some ⟨w.heap.size, 0, none⟩)) rfl (by intro W hW; obtain ⟨c0, c1, c2, d3⟩ := HCELL.out W hW; go_simp) ?_
      simp only [Act.put, List.setIfInBounds_toArray, List.set_cons_zero, List.set_cons_succ]
      refine wpX_val (.int .i64 it) rfl (by intro W hW; obtain ⟨c0, c1, c2, d3⟩ := HCELL.out W hW; go_simp) ?_
      simp only [Act.put, List.setIfInBounds_toArray, List.set_cons_zero, List.set_cons_succ]
      refine wpX_val (.bool ((l.length : Int) == it)) rfl (by intro W hW; obtain ⟨c0, c1, c2, d3⟩ := HCELL.out W hW; go_simp) ?_
      simp only [Act.put, List.setIfInBounds_toArray, List.set_cons_zero, List.set_cons_succ]
      refine wpX_val (.bool ((l.length : Int) == it)) rfl (by intro W hW; obtain ⟨c0, c1, c2, d3⟩ := HCELL.out W hW; go_simp) ?_
      simp only [Act.put, List.setIfInBounds_toArray, List.set_cons_zero, List.set_cons_succ]
      refine wpX_nil (fun W hW => ?_)
      have kW := (HX.out W hW).2
      obtain ⟨c0, c1, c2, d3⟩ := HCELL.out W hW
      by_cases hle : (l.length : Int) = it
      · have HO : Hid (okCruel ⟨it, ps, rq⟩ (k : Int) = false) := Lib.hid (by rw [HOK.out]; simp [hle])
        have HV : Hid (cruelV ⟨it, ps, rq⟩ (k : Int) = 0) := Lib.hid (by rw [cruelV, HO.out]; rfl)
        have hlb : ((l.length : Int) == it) = true := by simp [hle]
        clear hle
        go_wp2_with fail
        go_ret2
        exact ⟨_, _, rfl, by rw [HV.out]; rfl, by rw [HO.out]; rfl, kW⟩
      · have HO : Hid (okCruel ⟨it, ps, rq⟩ (k : Int) = true) := Lib.hid (by rw [HOK.out]; simp [hle])
        have HV : Hid (cruelV ⟨it, ps, rq⟩ (k : Int) = (m : Int)) := Lib.hid (by rw [cruelV, HO.out, HMC.out]; rfl)
        have hlb : ((l.length : Int) == it) = false := by simp [hle]
        clear hle
        go_wp2_with fail
        refine (l7Missing_any _ l m W (hpj.keep kW) HM.out).mono ?_
        rintro e w1 ⟨rfl, rfl⟩
        go_wp2_with fail
        go_ret2
        exact ⟨_, _, rfl, by rw [HV.out]; rfl, by rw [HO.out]; rfl, kW⟩

set_option maxRecDepth 100000 in
set_option maxHeartbeats 4000000 in
theorem implCruelItem_any (v : Value) (t : To) (i : Int) (w : World) (h : RT No w v t) :
    Calls Try.prog 32 #[v, .int .i64 i] w (Ret2 fun v0 v1 w' => v0 = .int .i64 (cruelV t i) ∧ v1 = .bool (okCruel t i) ∧ Chg No w w') := by
  have h0 := h
  obtain ⟨it, ps, rq⟩ := t
  obtain ⟨pv, rv, rfl, hps, hrq⟩ := h
  simp only at hps hrq
  obtain ⟨ra, rn, rc, rfl⟩ := hrq.shape
  obtain ⟨a, cap, rfl, hcap, hmax, hlen, pf, mf, hl, hcl⟩ := id hps
  cases ht : tourB ⟨it, ps, rq⟩
  · have HO : Hid (okCruel ⟨it, ps, rq⟩ i = false) := Lib.hid (by simp [okCruel, ht])
    have HV : Hid (cruelV ⟨it, ps, rq⟩ i = 0) := Lib.hid (by simp [cruelV, okCruel, ht])
    have HT := Lib.hid ht
    clear ht hl hcl
    go_enter Try.func32, Try.ntmps32
    go_wp2_with fail
    refine box31 (R := fun W => Calls _ _ _ W _) (fun W kW b0 => ?_)
    refine (IsTournament_any _ ⟨it, ps, rq⟩ W (h0.keep kW)).mono ?_
    rintro e w1 ⟨_, rfl, rfl, k1⟩
    rw [HT.out]
    go_wp2_with fail
    go_ret2
    exact ⟨_, _, rfl, by rw [HV.out]; rfl, by rw [HO.out]; rfl, kW.keep k1⟩
  · cases hh : hasP ⟨it, ps, rq⟩ i
    · have HO : Hid (okCruel ⟨it, ps, rq⟩ i = false) := Lib.hid (by simp [okCruel, hh])
      have HV : Hid (cruelV ⟨it, ps, rq⟩ i = 0) := Lib.hid (by simp [cruelV, okCruel, hh])
      have HT := Lib.hid ht
      have HH := Lib.hid hh
      clear ht hh hl hcl
      go_enter Try.func32, Try.ntmps32
      go_wp2_with fail
      refine box31 (R := fun W => Calls _ _ _ W _) (fun W kW b0 => ?_)
      refine (IsTournament_any _ ⟨it, ps, rq⟩ W (h0.keep kW)).mono ?_
      rintro e w1 ⟨_, rfl, rfl, k1⟩
      rw [HT.out]
      have kk := kW.keep k1
      obtain ⟨c0, c1, c2, _⟩ := b0.keep k1
      go_wp2_with fail
      refine (isPlayer_any _ ⟨it, ps, rq⟩ i _ (h0.keep kk)).mono ?_
      rintro e w2 ⟨_, rfl, rfl, k2⟩
      rw [HH.out]
      go_wp2_with fail
      go_ret2
      exact ⟨_, _, rfl, by rw [HV.out]; rfl, by rw [HO.out]; rfl, kk.keep k2⟩
    · have hit : 1 ≤ it ∧ it ≤ 8 := by
        simp only [tourB, reqB, Bool.and_eq_true, inB_iff] at ht; exact ht.1.1.1
      have hik : 0 ≤ i ∧ i ≤ (ps.length : Int) - 1 := inB_iff.1 hh
      obtain ⟨k, rfl⟩ : ∃ k : Nat, i = (k : Int) := ⟨i.toNat, by omega⟩
      have hk : k < ps.length := by omega
      obtain ⟨b, off, rfl, _, hb, hcell⟩ := hcl (by intro e; simp [e] at hk)
      have h7 := hcell k hk
      obtain ⟨hpj, _⟩ := hl k hk
      obtain ⟨m, hmle, hm⟩ := miss_ex (ps.getD k dPl).ca.pages
      have hmc : missC ⟨it, ps, rq⟩ (k : Int) = m := miss_uni (missC_spec ⟨it, ps, rq⟩ (k : Int)) hm
      have hml := miss_lt (t := ⟨it, ps, rq⟩) ht (i := k) hk hm
      have hok : okCruel ⟨it, ps, rq⟩ (k : Int) = !(((ps.getD k dPl).ca.pages.length : Int) == it) := by simp only [okCruel, ht, hh, Bool.true_and]; rfl
      obtain ⟨l, hl2⟩ : ∃ l, (ps.getD k dPl).ca.pages = l := ⟨_, rfl⟩
      simp only at hml
      rw [hl2] at hm hpj hml hok hmle
      have d3 := h7.c3
      generalize pf k = pj at hpj d3
      obtain ⟨ya, yc, rfl, _⟩ := id hpj
      have hk0 : (0 : Int) ≤ (k : Int) := Int.natCast_nonneg _
      have hk1 : (k : Int) < (ps.length : Int) := by omega
      have HT := Lib.hid ht
      have HH := Lib.hid hh
      have HM := Lib.hid hm
      have HMC := Lib.hid hmc
      have HML := Lib.hid hml
      have HOK := Lib.hid hok
      have D3 := Lib.hid d3
      have hbb := hb
      clear h7 hcell hcl hl hl2 hm hmc hml hok hik hh ht hmle
      have HPG : Hid (IsMiss (ps.getD k dPl).ca.pages m) := Lib.hid (by have := missC_spec ⟨it, ps, rq⟩ (k : Int); rw [HMC.out] at this; exact this)
      by_cases hle : (l.length : Int) = it
      · have HO : Hid (okCruel ⟨it, ps, rq⟩ (k : Int) = false) := Lib.hid (by rw [HOK.out]; simp [hle])
        have HV : Hid (cruelV ⟨it, ps, rq⟩ (k : Int) = 0) := Lib.hid (by rw [cruelV, HO.out]; rfl)
        have HR : Hid ((if (m : Int) < it then (m : Int) else -1) = -1) := Lib.hid (if_neg (fun e => HML.out.1 e hle))
        clear hle
        go_enter Try.func32, Try.ntmps32
        go_wp2_with fail
        refine box31 (R := fun W => Calls _ _ _ W _) (fun W kW b0 => ?_)
        refine (IsTournament_any _ ⟨it, ps, rq⟩ W (h0.keep kW)).mono ?_
        rintro e w1 ⟨_, rfl, rfl, k1⟩
        rw [HT.out]
        have b0 := b0.keep k1
        have kk := kW.keep k1
        obtain ⟨c0, c1, c2, _⟩ := id b0
        go_wp2_with fail
        refine (isPlayer_any _ ⟨it, ps, rq⟩ _ _ (h0.keep kk)).mono ?_
        rintro e w2 ⟨_, rfl, rfl, k2⟩
        rw [HH.out]
        have b0 := b0.keep k2
        have kk := kk.keep k2
        clear c0 c1 c2
        obtain ⟨c0, c1, c2, _⟩ := id b0
        go_wp2_with fail
        refine (cruel_any _ ⟨it, ps, rq⟩ k m _ (h0.keep kk) hk HPG.out hit).mono ?_
        rintro e w3 ⟨_, rfl, rfl, k3⟩
        rw [HR.out]
        go_wp2_with fail
        go_ret2
        exact ⟨_, _, rfl, by rw [HV.out]; rfl, by rw [HO.out]; rfl, kk.keep k3⟩
      · have HO : Hid (okCruel ⟨it, ps, rq⟩ (k : Int) = true) := Lib.hid (by rw [HOK.out]; simp [hle])
        have HV : Hid (cruelV ⟨it, ps, rq⟩ (k : Int) = (m : Int)) := Lib.hid (by rw [cruelV, HO.out, HMC.out]; rfl)
        have HR : Hid ((if (m : Int) < it then (m : Int) else -1) = (m : Int)) := Lib.hid (if_pos (HML.out.2 hle))
        have hm0 : (0 : Int) ≤ (m : Int) := Int.natCast_nonneg _
        have hmn : ¬ (m : Int) < 0 := by omega
        clear hle
        go_enter Try.func32, Try.ntmps32
        go_wp2_with fail
        refine box31 (R := fun W => Calls _ _ _ W _) (fun W kW b0 => ?_)
        refine (IsTournament_any _ ⟨it, ps, rq⟩ W (h0.keep kW)).mono ?_
        rintro e w1 ⟨_, rfl, rfl, k1⟩
        rw [HT.out]
        have b0 := b0.keep k1
        have kk := kW.keep k1
        obtain ⟨c0, c1, c2, _⟩ := id b0
        go_wp2_with fail
        refine (isPlayer_any _ ⟨it, ps, rq⟩ _ _ (h0.keep kk)).mono ?_
        rintro e w2 ⟨_, rfl, rfl, k2⟩
        rw [HH.out]
        have b0 := b0.keep k2
        have kk := kk.keep k2
        clear c0 c1 c2
        obtain ⟨c0, c1, c2, _⟩ := id b0
        go_wp2_with fail
        refine (cruel_any _ ⟨it, ps, rq⟩ k m _ (h0.keep kk) hk HPG.out hit).mono ?_
        rintro e w3 ⟨_, rfl, rfl, k3⟩
        rw [HR.out]
        have b0 := b0.keep k3
        have kk := kk.keep k3
        clear c0 c1 c2
        obtain ⟨c0, c1, c2, _⟩ := id b0
        go_wp2_with fail
        refine (cruel_any _ ⟨it, ps, rq⟩ k m _ (h0.keep kk) hk HPG.out hit).mono ?_
        rintro e w4 ⟨_, rfl, rfl, k4⟩
        rw [HR.out]
        go_wp2_with fail
        go_ret2
        exact ⟨_, _, rfl, by rw [HV.out]; rfl, by rw [HO.out]; rfl, kk.keep k4⟩
end Go.Proofs.Ytmdcmfnpfkfocaa
