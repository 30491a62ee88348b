import Derived.Test.YtdgcohoneijleaaGreatDoorDe
set_option maxRecDepth 100000
namespace Go.Proofs.YtdgcohoneijleaaGreatDoor
open Go.RowKit
theorem cruel_next {t : To} (ht : tourB t = true) {i : Nat} (hi : i < t.ps.length) (hs : (t.ps.getD i dPl).ca.size < t.items) (j : Nat) (hn : t.reqs.length + j + 1 ≤ 60) {tj : To} (hj : tj = againT t (t.reqs ++ cruelI (t.ps.getD i dPl).ca j)) :
  tourB tj = true ∧ i < tj.ps.length ∧ ∃ m : Nat, IsMiss (tj.ps.getD i dPl).ca.pages m ∧ (m : Int) < tj.items ∧ againT tj (tj.reqs ++ [(m : Int)]) = againT t (t.reqs ++ cruelI (t.ps.getD i dPl).ca (j + 1)) := by
 obtain ⟨h1, h2⟩ := cruel_facts ht hi hs j (by omega)
 obtain ⟨h3, _⟩ := cruel_facts ht hi hs (j + 1) (by omega)
 have hca := ca_again ht hi (cruelI (t.ps.getD i dPl).ca j)
 subst hj
 refine ⟨h2, by simp only [againT]; rw [againP_len]; exact hi, missOf (runC (t.ps.getD i dPl).ca (cruelI (t.ps.getD i dPl).ca j)).pages, ?_, ?_, ?_⟩
 ·rw [hca]; exact missOf_spec _
 ·exact (h3 _ (by simp [cruelI])).2
 ·rw [againT_again]
  show againT t ((t.reqs ++ cruelI _ j) ++ [_]) = _
  rw [List.append_assoc]; rfl
theorem RT.wk {A B : Nat → Prop} {w : World} {v : Value} {t : To} (h : RT A w v t) (hB : ∀ k, B k → k < w.heap.size → A k) : RT B w v t := by
 obtain ⟨pv, rv, rfl, h1, h2⟩ := h
 exact ⟨_, _, rfl, h1.weak hB, h2.weak hB⟩
theorem RT.stp {A T : Nat → Prop} {w w' : World} {v : Value} {t : To} (h : RT A w v t) (hc : Chg T w w') (hT : ∀ k, T k → A k) : RT A w' v t := by
 obtain ⟨pv, rv, rfl, h1, h2⟩ := h
 exact ⟨_, _, rfl, h1.step hc hT, h2.step hc hT⟩
theorem TA.stepB {base : Nat} {w : World} {v : Value} {t : To} (h : TA base w v t) {b : Nat} (hb : b < base) (x0 x1 x2 : Value) : TA base (((w.setCell ⟨b, 0, none⟩ x0).setCell ⟨b, 1, none⟩ x1).setCell ⟨b, 2, none⟩ x2) v t := by
 obtain ⟨pv, pf, mf, rv, rfl, h2, h3, h4⟩ := h
 have ch := (Chg.refl (fun q => q = b) w).put3 (b := b) (fun _ => rfl) x0 x1 x2
 exact ⟨_, _, _, _, rfl, h2.step ch (fun q hq e => by have := (h2.inF q hq).1; omega), h3.step ch (fun q hq e => by have := (h3.lt q hq).1; omega), h4⟩
theorem TA.put3i {base : Nat} {w : World} {v : Value} {t : To} (h : TA base w v t) {b : Nat} (hb : b < base) : ∃ pa pn pc ra rn rc, v = .agg #[.int .i64 t.items, .slice pa pn pc, .slice ra rn rc] ∧
  TA base (((w.setCell ⟨b, 0, none⟩ (.int .i64 t.items)).setCell ⟨b, 1, none⟩ (.slice pa pn pc)).setCell ⟨b, 2, none⟩ (.slice ra rn rc)) v t := by
 obtain ⟨pv, pf, mf, rv, rfl, h2, h3, h4⟩ := h
 obtain ⟨pa, pc, rfl, _⟩ := h2.os.view
 obtain ⟨ra, rn, rc, rfl⟩ := h3.shape
 have ch : Chg (fun q => q = b) w (((w.setCell ⟨b, 0, none⟩ (.int .i64 t.items)).setCell ⟨b, 1, none⟩ (.slice pa t.ps.length pc)).setCell ⟨b, 2, none⟩ (.slice ra rn rc)) :=
  (((Chg.refl (fun q => q = b) w).setCell (p := ⟨b, 0, none⟩) (fun _ => rfl) _).setCell (p := ⟨b, 1, none⟩) (fun _ => rfl) _).setCell (p := ⟨b, 2, none⟩) (fun _ => rfl) _
 exact ⟨_, _, _, _, _, _, rfl, _, _, _, _, rfl, h2.step ch (fun q hq e => by have := (h2.inF q hq).1; omega), h3.step ch (fun q hq e => by have := (h3.lt q hq).1; omega), h4⟩
def okCr (t : To) (a b : Int) : Bool := hasP t a && (decide ((t.ps.getD a.toNat dPl).ca.size < t.items) && inB b 1 (60 - (t.reqs.length : Int)))
noncomputable def crV (t : To) (a b : Int) : To := if okCr t a b then againT t (t.reqs ++ cruelI (t.ps.getD a.toNat dPl).ca b.toNat) else zeroT
set_option maxHeartbeats 4000000 in
theorem cruelly0_any (v : Value) (t : To) (a b : Int) (w : World) (h : RT No w v t) (ht : tourB t = true) (ha : hasP t a = false) :
  Calls Tryz.prog 105 #[v, .int .i64 a, .int .i64 b] w (Ret2 fun v0 v1 w' => v1 = .bool (okCr t a b) ∧ TA w.heap.size w' v0 (crV t a b) ∧ Chg No w w') := by
 obtain ⟨hl1, hl2, hl3, hl4⟩ := tour_len ht
 have h0 := h
 have HT := Lib.hid ht
 obtain ⟨it, ps, rq⟩ := t
 obtain ⟨pv, qv, rfl, hps, hrq⟩ := h
 simp only at hps hrq hl1 hl2 hl3 hl4
 obtain ⟨qa, qc, rfl, _⟩ := id hrq
 obtain ⟨pa, cap, rfl, hcap, hmax, hlen, pf, mf, hl, hcl⟩ := id hps
 obtain ⟨n, hn⟩ : ∃ n, rq.length = n := ⟨_, rfl⟩
 have hn0 : (0 : Int) ≤ (n : Int) := Int.natCast_nonneg _
 have hw1 : IntKind.i64.wrap (60 - (n : Int)) = 60 - (n : Int) := IntWalk.i64_in _ (by omega)
 obtain ⟨ok, hok⟩ : ∃ ok, okCr ⟨it, ps, rq⟩ a b = ok := ⟨_, rfl⟩
 have hO : ok = (hasP ⟨it, ps, rq⟩ a && (decide ((ps.getD a.toNat dPl).ca.size < it) && inB b 1 (60 - (n : Int)))) := by rw [← hok, ← hn]; rfl
 obtain ⟨tv, htv⟩ : ∃ tv, crV ⟨it, ps, rq⟩ a b = tv := ⟨_, rfl⟩
 have hV : tv = if ok then againT ⟨it, ps, rq⟩ (rq ++ cruelI (ps.getD a.toNat dPl).ca b.toNat) else zeroT := by rw [← htv, ← hok]; rfl
 rw [hok, htv]
 have HV := Lib.hid hV
 have HN := Lib.hid hn
 rw [hn] at h0 hrq hl2 ⊢
 obtain ⟨kk, b0, b2⟩ := boxes32 (w := w) (t := 31) (t' := 31) (x0 := .int .i64 it) (x1 := .slice pa ps.length cap) (x2 := .slice qa n qc) (y0 := .int .i64 0) (y1 := .slice none 0 0) (y2 := .slice none 0 0) (R := fun W => Chg No w W ∧ Box3 W w.heap.size (.int .i64 it) (.slice pa ps.length cap) (.slice qa n qc) ∧ Box3 W (w.heap.size + 1) (.int .i64 0) (.slice none 0 0) (.slice none 0 0)) (fun W k b0 b1 => ⟨k, b0, b1⟩)
 clear hV htv hok ht
 rw [ha, Bool.false_and] at hO
 have HH := Lib.hid ha
 have HO := Lib.hid hO
 obtain ⟨C, hC1, hC2⟩ : ∃ C : World → Prop, (∀ W, C W → Box3 W w.heap.size (.int .i64 it) (.slice pa ps.length cap) (.slice qa n qc) ∧ Box3 W (w.heap.size + 1) (.int .i64 0) (.slice none 0 0) (.slice none 0 0) ∧ Chg No w W) ∧ (∀ W, Box3 W w.heap.size (.int .i64 it) (.slice pa ps.length cap) (.slice qa n qc) → Box3 W (w.heap.size + 1) (.int .i64 0) (.slice none 0 0) (.slice none 0 0) → Chg No w W → C W) := ⟨_, fun _ h => h, fun _ h h' h2 => ⟨h, h', h2⟩⟩
 have HK : Hid (∀ W W', C W → Chg No W W' → C W') := Lib.hid (fun W W' hW hk => hC2 W' ((hC1 W hW).1.keep hk) ((hC1 W hW).2.1.keep hk) ((hC1 W hW).2.2.keep hk))
 have HX := Lib.hid hC1
 have hC0 := hC2 _ (b0.keep (Chg.refl No _).drew) (b2.keep (Chg.refl No _).drew) kk.drew
 have HCELL : Hid (∀ W, C W → W.cell? ⟨w.heap.size, 0, none⟩ = some (.int .i64 it) ∧ W.cell? ⟨w.heap.size, 1, none⟩ = some (.slice pa ps.length cap) ∧ W.cell? ⟨w.heap.size, 2, none⟩ = some (.slice qa n qc) ∧ True) := Lib.hid (fun W hW => by
  obtain ⟨g1, g2, _⟩ := hC1 W hW
  exact ⟨g1.c0, g1.c1, g1.c2, trivial⟩)
 clear hO hl hcl hps hrq hC1 hC2 b0 b2 ha
 go_enter Tryz.func105, Tryz.ntmps105
 go_wp2_with fail
 refine wp_region_X C (by kernel_rfl) (by kernel_rfl) hC0 ?_
 clear hC0
 refine wpX_val (.agg #[.int .i64 it, .slice pa ps.length cap, .slice qa n qc]) rfl (by intro W hW; obtain ⟨c0, c1, c2, p2⟩ := HCELL.out W hW; go_simp) ?_
 simp only [zD, zE, zF, zG]
 refine wpX_val (.int .i64 a) rfl (by intro W hW; obtain ⟨c0, c1, c2, p2⟩ := HCELL.out W hW; go_simp) ?_
 simp only [zD, zE, zF, zG]
 refine wpX_call (.bool false) (f := 106) (args := #[.agg #[.int .i64 it, .slice pa ps.length cap, .slice qa n qc], .int .i64 a]) rfl (by intro W hW; obtain ⟨c0, c1, c2, p2⟩ := HCELL.out W hW; go_simp) (fun W hW => (isPlayer_any _ ⟨it, ps, rq⟩ a W (h0.keep (HX.out W hW).2.2)).mono (by rintro e w' ⟨_, rfl, rfl, hk⟩; exact ⟨by rw [HH.out], HK.out _ _ hW hk⟩)) ?_
 simp only [zD, zE, zF, zG]
 refine wpX_val (.bool true) rfl (by intro W hW; obtain ⟨c0, c1, c2, p2⟩ := HCELL.out W hW; go_simp) ?_
 simp only [zD, zE, zF, zG]
 refine wpX_val (.bool true) rfl (by intro W hW; obtain ⟨c0, c1, c2, p2⟩ := HCELL.out W hW; go_simp) ?_
 simp only [zD, zE, zF, zG]
 repeat (first | (refine wpX_skip rfl ?_; simp only [zD, zE, zF, zG]) | (refine wpX_val (.bool true) rfl (by intro W hW; go_simp) ?_; simp only [zD, zE, zF, zG]))
 refine wpX_nil (fun W hW => ?_)
 obtain ⟨_, b2, kk⟩ := HX.out W hW
 obtain ⟨e0, e1, e2, cf⟩ := id b2
 have cf0 := cf 0
 have cf1 := cf 1
 have cf2 := cf 2
 clear cf
 have hb2l := b2.lt
 obtain ⟨z0, z1, z2, _⟩ := ((b2.set0 (.int .i64 0)).set1 (.slice none 0 0)).set2 (.slice none 0 0)
 have HKK := Lib.hid (kk.put3 (b := w.heap.size + 1) (fun h => by omega) (.int .i64 0) (.slice none 0 0) (.slice none 0 0))
 clear kk b2
 go_wp2_with fail
 exact bodyPost_ret (v := .tuple #[.agg #[.int .i64 0, .slice none 0 0, .slice none 0 0], .bool false]) (by simp [results, Tryz.results105, go_sem, z0, z1, z2]) rfl ⟨_, _, rfl, by rw [HO.out], by rw [HV.out, HO.out]; exact TA.zero _ _, HKK.out⟩
set_option maxHeartbeats 8000000 in
theorem cruelly1_any (v : Value) (t : To) (a b : Int) (w : World) (h : RT No w v t) (ht : tourB t = true) (ha : hasP t a = true) :
  Calls Tryz.prog 105 #[v, .int .i64 a, .int .i64 b] w (Ret2 fun v0 v1 w' => v1 = .bool (okCr t a b) ∧ TA w.heap.size w' v0 (crV t a b) ∧ Chg No w w') := by
 obtain ⟨hl1, hl2, hl3, hl4⟩ := tour_len ht
 have h0 := h
 have HT := Lib.hid ht
 obtain ⟨it, ps, rq⟩ := t
 obtain ⟨pv, qv, rfl, hps, hrq⟩ := h
 simp only at hps hrq hl1 hl2 hl3 hl4
 obtain ⟨qa, qc, rfl, _⟩ := id hrq
 obtain ⟨pa, cap, rfl, hcap, hmax, hlen, pf, mf, hl, hcl⟩ := id hps
 obtain ⟨n, hn⟩ : ∃ n, rq.length = n := ⟨_, rfl⟩
 have hn0 : (0 : Int) ≤ (n : Int) := Int.natCast_nonneg _
 have hw1 : IntKind.i64.wrap (60 - (n : Int)) = 60 - (n : Int) := IntWalk.i64_in _ (by omega)
 obtain ⟨ok, hok⟩ : ∃ ok, okCr ⟨it, ps, rq⟩ a b = ok := ⟨_, rfl⟩
 have hO : ok = (hasP ⟨it, ps, rq⟩ a && (decide ((ps.getD a.toNat dPl).ca.size < it) && inB b 1 (60 - (n : Int)))) := by rw [← hok, ← hn]; rfl
 obtain ⟨tv, htv⟩ : ∃ tv, crV ⟨it, ps, rq⟩ a b = tv := ⟨_, rfl⟩
 have hV : tv = if ok then againT ⟨it, ps, rq⟩ (rq ++ cruelI (ps.getD a.toNat dPl).ca b.toNat) else zeroT := by rw [← htv, ← hok]; rfl
 rw [hok, htv]
 have HV := Lib.hid hV
 have HN := Lib.hid hn
 rw [hn] at h0 hrq hl2 ⊢
 obtain ⟨kk, b0, b2⟩ := boxes32 (w := w) (t := 31) (t' := 31) (x0 := .int .i64 it) (x1 := .slice pa ps.length cap) (x2 := .slice qa n qc) (y0 := .int .i64 0) (y1 := .slice none 0 0) (y2 := .slice none 0 0) (R := fun W => Chg No w W ∧ Box3 W w.heap.size (.int .i64 it) (.slice pa ps.length cap) (.slice qa n qc) ∧ Box3 W (w.heap.size + 1) (.int .i64 0) (.slice none 0 0) (.slice none 0 0)) (fun W k b0 b1 => ⟨k, b0, b1⟩)
 clear hV htv hok ht
 rw [ha, Bool.true_and] at hO
 have HH := Lib.hid ha
 have hik : 0 ≤ a ∧ a ≤ (ps.length : Int) - 1 := inB_iff.1 ha
 obtain ⟨x, rfl⟩ : ∃ x : Nat, a = (x : Int) := ⟨a.toNat, by omega⟩
 have hx : x < ps.length := by omega
 obtain ⟨bb, off, rfl, _, hbb, hcell⟩ := hcl (by intro e; simp [e] at hx)
 have d2p := (hcell x hx).c2
 rw [show (x : Int).toNat = x by omega] at hO HV
 obtain ⟨sz, hsz⟩ : ∃ sz, (ps.getD x dPl).ca.size = sz := ⟨_, rfl⟩
 rw [hsz] at hO d2p
 have hx0 : (0 : Int) ≤ (x : Int) := Int.natCast_nonneg _
 have hx1 : (x : Int) < (ps.length : Int) := by omega
 have HO := Lib.hid hO
 have HBB := Lib.hid hbb
 have HP2 := Lib.hid d2p
 have HSZ := Lib.hid hsz
 have HXX := Lib.hid hx
 obtain ⟨C, hC1, hC2⟩ : ∃ C : World → Prop, (∀ W, C W → Box3 W w.heap.size (.int .i64 it) (.slice (some ⟨bb, off, none⟩) ps.length cap) (.slice qa n qc) ∧ Box3 W (w.heap.size + 1) (.int .i64 0) (.slice none 0 0) (.slice none 0 0) ∧ Chg No w W) ∧ (∀ W, Box3 W w.heap.size (.int .i64 it) (.slice (some ⟨bb, off, none⟩) ps.length cap) (.slice qa n qc) → Box3 W (w.heap.size + 1) (.int .i64 0) (.slice none 0 0) (.slice none 0 0) → Chg No w W → C W) := ⟨_, fun _ h => h, fun _ h h' h2 => ⟨h, h', h2⟩⟩
 have HK : Hid (∀ W W', C W → Chg No W W' → C W') := Lib.hid (fun W W' hW hk => hC2 W' ((hC1 W hW).1.keep hk) ((hC1 W hW).2.1.keep hk) ((hC1 W hW).2.2.keep hk))
 have HX := Lib.hid hC1
 have hC0 := hC2 _ (b0.keep (Chg.refl No _).drew) (b2.keep (Chg.refl No _).drew) kk.drew
 have HCELL : Hid (∀ W, C W → W.cell? ⟨w.heap.size, 0, none⟩ = some (.int .i64 it) ∧ W.cell? ⟨w.heap.size, 1, none⟩ = some (.slice (some ⟨bb, off, none⟩) ps.length cap) ∧ W.cell? ⟨w.heap.size, 2, none⟩ = some (.slice qa n qc) ∧ W.cell? ⟨bb, off + x * 7 + 2, none⟩ = some (.int .i64 sz)) := Lib.hid (fun W hW => by
  obtain ⟨g1, g2, g3⟩ := hC1 W hW
  exact ⟨g1.c0, g1.c1, g1.c2, (g3.cellD bb _ HBB.out (fun e => e)).trans HP2.out⟩)
 clear hO hl hcl hps hrq hC1 hC2 b0 b2 ha hcell d2p hik hsz hbb hx
 by_cases hlt : sz < it
 ·have hge : ¬ (it ≤ sz) := by omega
  have HO2 := Lib.hid (by have := HO.out; rw [decide_eq_true hlt, Bool.true_and] at this; exact this : ok = inB b 1 (60 - (n : Int)))
  have HLT := Lib.hid hlt
  clear hlt
  cases hi : inB b 1 (60 - (n : Int))
  ·have HI := Lib.hid hi
   have HO : Hid (ok = false) := Lib.hid (by rw [HO2.out, hi])
   clear hi
   go_enter Tryz.func105, Tryz.ntmps105
   go_wp2_with fail
   refine wp_region_X C (by kernel_rfl) (by kernel_rfl) hC0 ?_
   clear hC0
   refine wpX_val (.agg #[.int .i64 it, .slice (some ⟨bb, off, none⟩) ps.length cap, .slice qa n qc]) rfl (by intro W hW; obtain ⟨c0, c1, c2, p2⟩ := HCELL.out W hW; go_simp) ?_
   simp only [zD, zE, zF, zG]
   refine wpX_val (.int .i64 (x : Int)) rfl (by intro W hW; obtain ⟨c0, c1, c2, p2⟩ := HCELL.out W hW; go_simp) ?_
   simp only [zD, zE, zF, zG]
   refine wpX_call (.bool true) (f := 106) (args := #[.agg #[.int .i64 it, .slice (some ⟨bb, off, none⟩) ps.length cap, .slice qa n qc], .int .i64 (x : Int)]) rfl (by intro W hW; obtain ⟨c0, c1, c2, p2⟩ := HCELL.out W hW; go_simp) (fun W hW => (isPlayer_any _ ⟨it, ps, rq⟩ (x : Int) W (h0.keep (HX.out W hW).2.2)).mono (by rintro e w' ⟨_, rfl, rfl, hk⟩; exact ⟨by rw [HH.out], HK.out _ _ hW hk⟩)) ?_
   simp only [zD, zE, zF, zG]
   refine wpX_val (.bool false) rfl (by intro W hW; obtain ⟨c0, c1, c2, p2⟩ := HCELL.out W hW; go_simp) ?_
   simp only [zD, zE, zF, zG]
   refine wpX_val (.bool false) rfl (by intro W hW; obtain ⟨c0, c1, c2, p2⟩ := HCELL.out W hW; go_simp) ?_
   simp only [zD, zE, zF, zG]
   refine wpX_val (.pointer (some ⟨w.heap.size, 1, none⟩)) rfl (by intro W hW; obtain ⟨c0, c1, c2, p2⟩ := HCELL.out W hW; go_simp) ?_
   simp only [zD, zE, zF, zG]
   refine wpX_val (.slice (some ⟨bb, off, none⟩) ps.length cap) rfl (by intro W hW; obtain ⟨c0, c1, c2, p2⟩ := HCELL.out W hW; go_simp) ?_
   simp only [zD, zE, zF, zG]
   refine wpX_val (.int .i64 (x : Int)) rfl (by intro W hW; obtain ⟨c0, c1, c2, p2⟩ := HCELL.out W hW; go_simp) ?_
   simp only [zD, zE, zF, zG]
   refine wpX_val (.pointer (some ⟨bb, off + x * 7, none⟩)) rfl (by intro W hW; obtain ⟨c0, c1, c2, p2⟩ := HCELL.out W hW; go_simp) ?_
   simp only [zD, zE, zF, zG]
   refine wpX_val (.pointer (some ⟨bb, off + x * 7 + 1, none⟩)) rfl (by intro W hW; obtain ⟨c0, c1, c2, p2⟩ := HCELL.out W hW; go_simp) ?_
   simp only [zD, zE, zF, zG]
   refine wpX_val (.pointer (some ⟨bb, off + x * 7 + 2, none⟩)) rfl (by intro W hW; obtain ⟨c0, c1, c2, p2⟩ := HCELL.out W hW; go_simp) ?_
   simp only [zD, zE, zF, zG]
   refine wpX_val (.int .i64 sz) rfl (by intro W hW; obtain ⟨c0, c1, c2, p2⟩ := HCELL.out W hW; go_simp) ?_
   simp only [zD, zE, zF, zG]
   refine wpX_val (.pointer (some ⟨w.heap.size, 0, none⟩)) rfl (by intro W hW; obtain ⟨c0, c1, c2, p2⟩ := HCELL.out W hW; go_simp) ?_
   simp only [zD, zE, zF, zG]
   refine wpX_val (.int .i64 it) rfl (by intro W hW; obtain ⟨c0, c1, c2, p2⟩ := HCELL.out W hW; go_simp) ?_
   simp only [zD, zE, zF, zG]
   refine wpX_val (.bool false) rfl (by intro W hW; obtain ⟨c0, c1, c2, p2⟩ := HCELL.out W hW; go_simp) ?_
   simp only [zD, zE, zF, zG]
   refine wpX_val (.bool false) rfl (by intro W hW; obtain ⟨c0, c1, c2, p2⟩ := HCELL.out W hW; go_simp) ?_
   simp only [zD, zE, zF, zG]
   refine wpX_val (.bool false) rfl (by intro W hW; obtain ⟨c0, c1, c2, p2⟩ := HCELL.out W hW; go_simp) ?_
   simp only [zD, zE, zF, zG]
   refine wpX_val (.int .i64 b) rfl (by intro W hW; obtain ⟨c0, c1, c2, p2⟩ := HCELL.out W hW; go_simp) ?_
   simp only [zD, zE, zF, zG]
   refine wpX_val (.pointer (some ⟨w.heap.size, 2, none⟩)) rfl (by intro W hW; obtain ⟨c0, c1, c2, p2⟩ := HCELL.out W hW; go_simp) ?_
   simp only [zD, zE, zF, zG]
   refine wpX_val (.slice qa n qc) rfl (by intro W hW; obtain ⟨c0, c1, c2, p2⟩ := HCELL.out W hW; go_simp) ?_
   simp only [zD, zE, zF, zG]
   refine wpX_val (.int .i64 (n : Int)) rfl (by intro W hW; obtain ⟨c0, c1, c2, p2⟩ := HCELL.out W hW; go_simp) ?_
   simp only [zD, zE, zF, zG]
   refine wpX_val (.int .i64 (60 - (n : Int))) rfl (by intro W hW; obtain ⟨c0, c1, c2, p2⟩ := HCELL.out W hW; go_simp) ?_
   simp only [zD, zE, zF, zG]
   refine wpX_call (.bool false) (f := 45) (args := #[.int .i64 b, .int .i64 1, .int .i64 (60 - (n : Int))]) rfl (by intro W hW; go_simp) (fun W hW => (within_any _ _ _ W).mono (by rintro e w' ⟨rfl, rfl⟩; exact ⟨by rw [HI.out], hW⟩)) ?_
   simp only [zD, zE, zF, zG]
   refine wpX_val (.bool true) rfl (by intro W hW; obtain ⟨c0, c1, c2, p2⟩ := HCELL.out W hW; go_simp) ?_
   simp only [zD, zE, zF, zG]
   refine wpX_val (.bool true) rfl (by intro W hW; obtain ⟨c0, c1, c2, p2⟩ := HCELL.out W hW; go_simp) ?_
   simp only [zD, zE, zF, zG]
   refine wpX_nil (fun W hW => ?_)
   obtain ⟨_, b2, kk⟩ := HX.out W hW
   obtain ⟨e0, e1, e2, cf⟩ := id b2
   have cf0 := cf 0
   have cf1 := cf 1
   have cf2 := cf 2
   clear cf
   have hb2l := b2.lt
   obtain ⟨z0, z1, z2, _⟩ := ((b2.set0 (.int .i64 0)).set1 (.slice none 0 0)).set2 (.slice none 0 0)
   have HKK := Lib.hid (kk.put3 (b := w.heap.size + 1) (fun h => by omega) (.int .i64 0) (.slice none 0 0) (.slice none 0 0))
   clear kk b2
   go_wp2_with fail
   exact bodyPost_ret (v := .tuple #[.agg #[.int .i64 0, .slice none 0 0, .slice none 0 0], .bool false]) (by simp [results, Tryz.results105, go_sem, z0, z1, z2]) rfl ⟨_, _, rfl, by rw [HO.out], by rw [HV.out, HO.out]; exact TA.zero _ _, HKK.out⟩
  ·have hbk := inB_iff.1 hi
   have HI := Lib.hid hi
   have HOT : Hid (ok = true) := Lib.hid (by rw [HO2.out, hi])
   obtain ⟨z, rfl⟩ : ∃ z : Nat, b = (z : Int) := ⟨b.toNat, by omega⟩
   have hz1 : 1 ≤ z ∧ rq.length + z ≤ 60 := by have := HN.out; omega
   rw [show (z : Int).toNat = z by omega] at HV
   have hz0 : (0 : Int) ≤ (z : Int) := Int.natCast_nonneg _
   have HZ1 := Lib.hid hz1
   clear hi hbk hz1
   go_enter Tryz.func105, Tryz.ntmps105
   go_wp2_with fail
   refine wp_region_X C (by kernel_rfl) (by kernel_rfl) hC0 ?_
   clear hC0
   refine wpX_val (.agg #[.int .i64 it, .slice (some ⟨bb, off, none⟩) ps.length cap, .slice qa n qc]) rfl (by intro W hW; obtain ⟨c0, c1, c2, p2⟩ := HCELL.out W hW; go_simp) ?_
   simp only [zD, zE, zF, zG]
   refine wpX_val (.int .i64 (x : Int)) rfl (by intro W hW; obtain ⟨c0, c1, c2, p2⟩ := HCELL.out W hW; go_simp) ?_
   simp only [zD, zE, zF, zG]
   refine wpX_call (.bool true) (f := 106) (args := #[.agg #[.int .i64 it, .slice (some ⟨bb, off, none⟩) ps.length cap, .slice qa n qc], .int .i64 (x : Int)]) rfl (by intro W hW; obtain ⟨c0, c1, c2, p2⟩ := HCELL.out W hW; go_simp) (fun W hW => (isPlayer_any _ ⟨it, ps, rq⟩ (x : Int) W (h0.keep (HX.out W hW).2.2)).mono (by rintro e w' ⟨_, rfl, rfl, hk⟩; exact ⟨by rw [HH.out], HK.out _ _ hW hk⟩)) ?_
   simp only [zD, zE, zF, zG]
   refine wpX_val (.bool false) rfl (by intro W hW; obtain ⟨c0, c1, c2, p2⟩ := HCELL.out W hW; go_simp) ?_
   simp only [zD, zE, zF, zG]
   refine wpX_val (.bool false) rfl (by intro W hW; obtain ⟨c0, c1, c2, p2⟩ := HCELL.out W hW; go_simp) ?_
   simp only [zD, zE, zF, zG]
   refine wpX_val (.pointer (some ⟨w.heap.size, 1, none⟩)) rfl (by intro W hW; obtain ⟨c0, c1, c2, p2⟩ := HCELL.out W hW; go_simp) ?_
   simp only [zD, zE, zF, zG]
   refine wpX_val (.slice (some ⟨bb, off, none⟩) ps.length cap) rfl (by intro W hW; obtain ⟨c0, c1, c2, p2⟩ := HCELL.out W hW; go_simp) ?_
   simp only [zD, zE, zF, zG]
   refine wpX_val (.int .i64 (x : Int)) rfl (by intro W hW; obtain ⟨c0, c1, c2, p2⟩ := HCELL.out W hW; go_simp) ?_
   simp only [zD, zE, zF, zG]
   refine wpX_val (.pointer (some ⟨bb, off + x * 7, none⟩)) rfl (by intro W hW; obtain ⟨c0, c1, c2, p2⟩ := HCELL.out W hW; go_simp) ?_
   simp only [zD, zE, zF, zG]
   refine wpX_val (.pointer (some ⟨bb, off + x * 7 + 1, none⟩)) rfl (by intro W hW; obtain ⟨c0, c1, c2, p2⟩ := HCELL.out W hW; go_simp) ?_
   simp only [zD, zE, zF, zG]
   refine wpX_val (.pointer (some ⟨bb, off + x * 7 + 2, none⟩)) rfl (by intro W hW; obtain ⟨c0, c1, c2, p2⟩ := HCELL.out W hW; go_simp) ?_
   simp only [zD, zE, zF, zG]
   refine wpX_val (.int .i64 sz) rfl (by intro W hW; obtain ⟨c0, c1, c2, p2⟩ := HCELL.out W hW; go_simp) ?_
   simp only [zD, zE, zF, zG]
   refine wpX_val (.pointer (some ⟨w.heap.size, 0, none⟩)) rfl (by intro W hW; obtain ⟨c0, c1, c2, p2⟩ := HCELL.out W hW; go_simp) ?_
   simp only [zD, zE, zF, zG]
   refine wpX_val (.int .i64 it) rfl (by intro W hW; obtain ⟨c0, c1, c2, p2⟩ := HCELL.out W hW; go_simp) ?_
   simp only [zD, zE, zF, zG]
   refine wpX_val (.bool false) rfl (by intro W hW; obtain ⟨c0, c1, c2, p2⟩ := HCELL.out W hW; go_simp) ?_
   simp only [zD, zE, zF, zG]
   refine wpX_val (.bool false) rfl (by intro W hW; obtain ⟨c0, c1, c2, p2⟩ := HCELL.out W hW; go_simp) ?_
   simp only [zD, zE, zF, zG]
   refine wpX_val (.bool false) rfl (by intro W hW; obtain ⟨c0, c1, c2, p2⟩ := HCELL.out W hW; go_simp) ?_
   simp only [zD, zE, zF, zG]
   refine wpX_val (.int .i64 (z : Int)) rfl (by intro W hW; obtain ⟨c0, c1, c2, p2⟩ := HCELL.out W hW; go_simp) ?_
   simp only [zD, zE, zF, zG]
   refine wpX_val (.pointer (some ⟨w.heap.size, 2, none⟩)) rfl (by intro W hW; obtain ⟨c0, c1, c2, p2⟩ := HCELL.out W hW; go_simp) ?_
   simp only [zD, zE, zF, zG]
   refine wpX_val (.slice qa n qc) rfl (by intro W hW; obtain ⟨c0, c1, c2, p2⟩ := HCELL.out W hW; go_simp) ?_
   simp only [zD, zE, zF, zG]
   refine wpX_val (.int .i64 (n : Int)) rfl (by intro W hW; obtain ⟨c0, c1, c2, p2⟩ := HCELL.out W hW; go_simp) ?_
   simp only [zD, zE, zF, zG]
   refine wpX_val (.int .i64 (60 - (n : Int))) rfl (by intro W hW; obtain ⟨c0, c1, c2, p2⟩ := HCELL.out W hW; go_simp) ?_
   simp only [zD, zE, zF, zG]
   refine wpX_call (.bool true) (f := 45) (args := #[.int .i64 (z : Int), .int .i64 1, .int .i64 (60 - (n : Int))]) rfl (by intro W hW; go_simp) (fun W hW => (within_any _ _ _ W).mono (by rintro e w' ⟨rfl, rfl⟩; exact ⟨by rw [HI.out], hW⟩)) ?_
   simp only [zD, zE, zF, zG]
   refine wpX_val (.bool false) rfl (by intro W hW; obtain ⟨c0, c1, c2, p2⟩ := HCELL.out W hW; go_simp) ?_
   simp only [zD, zE, zF, zG]
   refine wpX_val (.bool false) rfl (by intro W hW; obtain ⟨c0, c1, c2, p2⟩ := HCELL.out W hW; go_simp) ?_
   simp only [zD, zE, zF, zG]
   refine wpX_nil (fun W hW => ?_)
   obtain ⟨b0, b2, kk⟩ := HX.out W hW
   clear hW HX HK HCELL
   have h0W := h0.keep kk
   obtain ⟨c, hc⟩ : ∃ c, (ps.getD x dPl).ca = c := ⟨_, rfl⟩
   rw [hc] at HV
   have HC := Lib.hid hc
   have hself : againT ⟨it, ps, rq⟩ (rq ++ cruelI c 0) = ⟨it, ps, rq⟩ := by simp only [cruelI, List.append_nil]; exact againT_self HT.out
   have hP0 : RT No W (.agg #[.int .i64 it, .slice (some ⟨bb, off, none⟩) ps.length cap, .slice qa n qc]) (againT ⟨it, ps, rq⟩ (rq ++ cruelI c 0)) ∧ (0 < 0 → TA (w.heap.size + 2) W (.agg #[.int .i64 it, .slice (some ⟨bb, off, none⟩) ps.length cap, .slice qa n qc]) (againT ⟨it, ps, rq⟩ (rq ++ cruelI c 0))) := ⟨by rw [hself]; exact h0W, fun e => absurd e (Nat.lt_irrefl 0)⟩
   have HP0 := Lib.hid hP0
   clear hself hc hP0
   go_wp2_with fail
   go_loopw [35] (fun zz wr => ∃ (j : Nat) (va : Option Addr) (n1 c1 : Nat) (rb : Option Addr) (n2 c2 : Nat), j ≤ z ∧ zz = .int .i64 (j : Int) ∧ (RT No wr (.agg #[.int .i64 it, .slice va n1 c1, .slice rb n2 c2]) (againT ⟨it, ps, rq⟩ (rq ++ cruelI c j)) ∧
    (0 < j → TA (w.heap.size + 2) wr (.agg #[.int .i64 it, .slice va n1 c1, .slice rb n2 c2]) (againT ⟨it, ps, rq⟩ (rq ++ cruelI c j)))) ∧ Box3 wr w.heap.size (.int .i64 it) (.slice va n1 c1) (.slice rb n2 c2) ∧ Box3 wr (w.heap.size + 1) (.int .i64 0) (.slice none 0 0) (.slice none 0 0) ∧ Chg No w wr) (fun zz _ => z - (intOf zz).toNat)
   case atStart => exact ⟨0, _, _, _, _, _, _, Nat.zero_le _, rfl, HP0.out, b0, b2, kk⟩
   case round =>
    clear b0 b2 kk h0W HP0
    obtain ⟨j, va, n1, k1, rb, n2, k2, hj, rfl, hPj, b0, b2, kk⟩ := hrel
    have hj0 : (0 : Int) ≤ (j : Int) := Int.natCast_nonneg _
    by_cases hjz : j < z
    ·have hj1 : (j : Int) < (z : Int) := by omega
     have hwj : IntKind.i64.wrap ((j : Int) + 1) = (j : Int) + 1 := IntWalk.i64_in _ (by have := HZ1.out; omega)
     obtain ⟨tj, htj⟩ : ∃ tj, againT ⟨it, ps, rq⟩ (rq ++ cruelI c j) = tj := ⟨_, rfl⟩
     have htji : tj.items = it := by rw [← htj]; rfl
     have hcn := cruel_next HT.out (i := x) HXX.out (by have := HSZ.out; have := HLT.out; simp only; omega) j (by have := HZ1.out; simp only; omega) (tj := tj) (by rw [← htj, ← HC.out])
     simp only at hcn
     rw [HC.out] at hcn
     obtain ⟨hT, hxj, m, hm, hmlt, hnext⟩ := hcn
     obtain ⟨g1, g2, g3, g4⟩ := tour_len hT
     have hRT := hPj.1
     rw [htj] at hRT
     have hRI : RI No wr (.slice rb n2 k2) tj.reqs := by
      obtain ⟨q1, q2, he, _, hq⟩ := id hRT
      simp only [Value.agg.injEq, Array.mk.injEq, List.cons.injEq, and_true] at he
      rw [he.2.2]; exact hq
     have HSV := Lib.hid (Sv.again hT (l := tj.reqs ++ [(m : Int)]) (fun i hi => by have := (tour_at hT hi).1.2; rw [List.length_append]; omega))
     have HM := Lib.hid (And.intro hm hmlt)
     have HNX := Lib.hid hnext
     have HXJ := Lib.hid hxj
     have HIT := Lib.hid htji
     clear htj hPj hm hmlt hnext hxj hT htji
     go_wp2_with fail
     refine wp_region_K (S := fun W => W.cell? ⟨w.heap.size, 0, none⟩ = some (.int .i64 it) ∧ W.cell? ⟨w.heap.size, 1, none⟩ = some (.slice va n1 k1) ∧ W.cell? ⟨w.heap.size, 2, none⟩ = some (.slice rb n2 k2)) (k := 10) (by kernel_rfl) ?_
     replace kk := kk.keep (drewN0 _)
     replace b0 := b0.keep (drewN0 _)
     replace b2 := b2.keep (drewN0 _)
     replace hRT := hRT.keep (drewN0 _)
     replace hRI := hRI.keep (drewN0 _)
     generalize wr.drew = WR at kk b0 b2 hRT hRI ⊢
     have hS : WR.cell? ⟨w.heap.size, 0, none⟩ = some (.int .i64 it) ∧ WR.cell? ⟨w.heap.size, 1, none⟩ = some (.slice va n1 k1) ∧ WR.cell? ⟨w.heap.size, 2, none⟩ = some (.slice rb n2 k2) := ⟨b0.c0, b0.c1, b0.c2⟩
     refine wpAnyK_takeT 0 (.agg #[.int .i64 it, .slice va n1 k1, .slice rb n2 k2]) rfl (by kernel_rfl) (fun _ _ _ h => h) hS rfl (by intro w hSw; go_simp) ?_
     simp only [zA, zC, zD, zE, zF, zG]
     refine wpAnyK_take0 1 (.pointer (some ⟨w.heap.size, 2, none⟩)) rfl (by kernel_rfl) (fun _ _ _ h => h) hS rfl (by intro w; go_simp) ?_
     simp only [zA, zB, zC, zD, zE, zF, zG]
     refine wpAnyK_takeT 2 (.slice rb n2 k2) rfl (by kernel_rfl) (fun _ _ _ h => h) hS rfl (by intro w hSw; go_simp) ?_
     simp only [zA, zB, zC, zD, zE, zF, zG]
     refine wpAnyK_takeT 4 (.agg #[.int .i64 it, .slice va n1 k1, .slice rb n2 k2]) rfl (by kernel_rfl) (fun _ _ _ h => h) hS rfl (by intro w hSw; go_simp) ?_
     simp only [zA, zB, zC, zD, zE, zF, zG]
     refine wpAnyK_take0 5 (.int .i64 (x : Int)) rfl (by kernel_rfl) (fun _ _ _ h => h) hS rfl (by intro w; go_simp) ?_
     simp only [zA, zB, zC, zD, zE, zF, zG]
     refine wpAnyK_1 3 (by kernel_rfl) (wpOpK' rfl rfl ?_)
     intro K hK
     refine ocall (f := 90) (args := #[.slice rb n2 k2]) (by go_simp) (Clone_any No _ tj.reqs WR hRI) (fun v1 WQ h1 => hK.out _ _ ⟨(b0.keep h1.2).c0, (b0.keep h1.2).c1, (b0.keep h1.2).c2⟩ ?_)
     obtain ⟨o1, kx⟩ := h1
     clear hK K hS
     simp only [zA, zB, zC, zD, zE, zF, zG]
     obtain ⟨za, zn, zc, rfl⟩ := o1.shape
     have hb := b2.lt
     obtain ⟨S0, hS0⟩ : ∃ S0, WR.heap.size = S0 := ⟨_, rfl⟩
     replace hRT : RT (fun q => S0 ≤ q) WQ (.agg #[.int .i64 it, .slice va n1 k1, .slice rb n2 k2]) tj := (hRT.wk (fun q e hl => by omega)).keep kx
     rw [hS0] at o1 hb
     replace kk := kk.keep kx
     replace b0 := b0.keep kx
     replace b2 := b2.keep kx
     have hsS : S0 ≤ WQ.heap.size := by have := kx.size; omega
     clear kx hRI hS0
     generalize WQ = WR at *
     refine wpAnyK_1 6 (by kernel_rfl) (wpOpK' rfl rfl ?_)
     intro K hK
     refine ocall (f := 147) (args := #[.agg #[.int .i64 it, .slice va n1 k1, .slice rb n2 k2], .int .i64 (x : Int)]) (by go_simp) (cruel_any _ tj x m WR (hRT.wk (fun q e _ => e.elim)) HXJ.out HM.out.1 ⟨g3, g4⟩) (fun v1 WQ h1 => hK.out _ _ ⟨(b0.keep h1.2).c0, (b0.keep h1.2).c1, (b0.keep h1.2).c2⟩ ?_)
     obtain ⟨rfl, kx⟩ := h1
     rw [if_pos HM.out.2]
     clear hK K
     simp only [zA, zB, zC, zD, zE, zF, zG]
     replace o1 := o1.keep kx
     replace kk := kk.keep kx
     replace b0 := b0.keep kx
     replace b2 := b2.keep kx
     replace hRT := hRT.keep kx
     replace hsS : S0 ≤ WQ.heap.size := by have := kx.size; omega
     clear kx
     generalize WQ = WR at *
     refine wpAnyK_1 7 (by kernel_rfl) (wpOpK' rfl rfl ?_)
     intro K hK
     refine obuild (.tmp 43) (m : Int) rfl rfl (fun g WQ kx hg hge => hK.out _ _ ⟨(b0.keep kx).c0, (b0.keep kx).c1, (b0.keep kx).c2⟩ ?_)
     clear hK K
     simp only [zA, zB, zC, zD, zE, zF, zG]
     replace o1 := o1.keep kx
     replace kk := kk.keep kx
     replace b0 := b0.keep kx
     replace b2 := b2.keep kx
     replace hRT := hRT.keep kx
     replace hsS : S0 ≤ WQ.heap.size := by have := kx.size; omega
     clear kx hge
     generalize WQ = WR at *
     refine wpAnyK_1 8 (by kernel_rfl) (wpOpK' rfl rfl ?_)
     intro K hK
     have hne : ∀ q, own (.slice za zn zc) q → S0 ≤ q := fun q hq => (o1.lt q hq).1
     refine oapp (.tmp 40) (.tmp 44) rfl o1 (RI.one (A := No) (n := (m : Int)) hg (Nat.le_refl 1) (by omega) (fun e => e)) rfl rfl (by simp; omega) hsS (fun v7 WQ o7 kx fx => hK.out _ _ ⟨(b0.step kx (fun e => by have := hne _ e; omega)).c0, (b0.step kx (fun e => by have := hne _ e; omega)).c1, (b0.step kx (fun e => by have := hne _ e; omega)).c2⟩ ?_)
     clear hK K
     simp only [zA, zB, zC, zD, zE, zF, zG]
     replace kk := kk.step kx (fun q e hl => by have := hne q e; omega)
     replace b0 := b0.step kx (fun e => by have := hne _ e; omega)
     replace b2 := b2.step kx (fun e => by have := hne _ e; omega)
     replace hRT := (hRT.stp kx hne).wk (B := No) (fun q e _ => e.elim)
     clear kx fx o1 hne hg
     obtain ⟨ya, yn, yc, rfl⟩ := o7.shape
     generalize WQ = WR at *
     refine wpAnyK_1 9 (by kernel_rfl) (wpOpK' rfl rfl ?_)
     intro K hK
     refine ocall (f := 47) (args := #[.agg #[.int .i64 it, .slice va n1 k1, .slice rb n2 k2], .slice ya yn yc]) (by go_simp) (again_any _ _ tj _ WR hRT o7.readNo HSV.out) (fun v3 w3 h3 => hK.out _ _ ⟨(b0.keep h3.2).c0, (b0.keep h3.2).c1, (b0.keep h3.2).c2⟩ ?_)
     obtain ⟨hTA, k3⟩ := h3
     clear hK K
     simp only [zA, zB, zC, zD, zE, zF, zG]
     refine wpAnyK_tail 10 rfl (by kernel_rfl) ?_
     simp only [List.drop_succ_cons, List.drop_zero]
     have hs0 := b2.lt
     replace b0 := b0.keep k3
     replace b2 := b2.keep k3
     replace kk := kk.keep k3
     have hTA' : TA WR.heap.size w3 v3 (againT ⟨it, ps, rq⟩ (rq ++ cruelI c (j + 1))) := by rw [← HNX.out]; exact hTA
     obtain ⟨e0, e1, e2, cf⟩ := id b0
     have cf0 := cf 0
     have cf1 := cf 1
     have cf2 := cf 2
     clear cf
     obtain ⟨p1, p2, p3, r1, r2, r3, rfl, hTN⟩ := hTA'.put3i (b := w.heap.size) (by omega)
     have hit : (againT ⟨it, ps, rq⟩ (rq ++ cruelI c (j + 1))).items = it := rfl
     rw [hit] at hTN ⊢
     have b0N := ((b0.set0 (.int .i64 it)).set1 (.slice p1 p2 p3)).set2 (.slice r1 r2 r3)
     have b2N := ((b2.far ⟨w.heap.size, 0, none⟩ (.int .i64 it) (by simp <;> omega)).far ⟨w.heap.size, 1, none⟩ (.slice p1 p2 p3) (by simp <;> omega)).far ⟨w.heap.size, 2, none⟩ (.slice r1 r2 r3) (by simp <;> omega)
     have kN := kk.put3 (b := w.heap.size) (fun h => by omega) (.int .i64 it) (.slice p1 p2 p3) (.slice r1 r2 r3)
     have hlen : (againT ⟨it, ps, rq⟩ (rq ++ cruelI c (j + 1))).ps.length ≤ 1048576 := by simp only [againT]; rw [againP_len]; exact hlen
     have hTN2 := hTN.weak (base' := w.heap.size + 2) (by omega)
     have hRN := hTN2.rt hlen (A := No) (fun _ _ e => e)
     have HEND := Lib.hid (And.intro (And.intro hRN (fun _ : 0 < j + 1 => hTN2)) (And.intro b0N (And.intro b2N kN)))
     clear hTA hTA' hTN hTN2 hRN b0N b2N kN kk b0 b2 k3 hlen hit hRT o7 hsS
     go_wp2_with fail
     go_round
     case measure => simp [intOf]; omega
     case rel =>
      obtain ⟨⟨e1, e2⟩, e3, e4, e5⟩ := HEND.out
      exact ⟨j + 1, _, _, _, _, _, _, by omega, by go_num, ⟨e1, e2⟩, e3, e4, e5⟩
    ·have hje : j = z := by omega
     subst hje
     have hTN := hPj.2 (by have := HZ1.out; omega)
     clear hPj
     obtain ⟨c0, c1, c2, _⟩ := id b0
     obtain ⟨e0, e1, e2, cf⟩ := id b2
     have cf0 := cf 0
     have cf1 := cf 1
     have cf2 := cf 2
     clear cf
     have hb2l := b2.lt
     obtain ⟨z0, z1, z2, _⟩ := ((b2.set0 (.int .i64 it)).set1 (.slice va n1 k1)).set2 (.slice rb n2 k2)
     have hTE := hTN.stepB (b := w.heap.size + 1) (by omega) (.int .i64 it) (.slice va n1 k1) (.slice rb n2 k2)
     have HKK := Lib.hid (kk.put3 (b := w.heap.size + 1) (fun h => by omega) (.int .i64 it) (.slice va n1 k1) (.slice rb n2 k2))
     have HTN := Lib.hid (hTE.weak (base' := w.heap.size) (by omega))
     clear hTN hTE kk b0 b2
     go_wp2_with fail
     exact bodyPost_ret (v := .tuple #[.agg #[.int .i64 it, .slice va n1 k1, .slice rb n2 k2], .bool true]) (by simp [results, Tryz.results105, go_sem, z0, z1, z2]) rfl ⟨_, _, rfl, by rw [HOT.out], by rw [HV.out, HOT.out]; exact HTN.out, HKK.out⟩
 ·have hge : it ≤ sz := by omega
  have HO : Hid (ok = false) := Lib.hid (by rw [HO.out, decide_eq_false hlt]; rfl)
  clear hlt
  go_enter Tryz.func105, Tryz.ntmps105
  go_wp2_with fail
  refine wp_region_X C (by kernel_rfl) (by kernel_rfl) hC0 ?_
  clear hC0
  refine wpX_val (.agg #[.int .i64 it, .slice (some ⟨bb, off, none⟩) ps.length cap, .slice qa n qc]) rfl (by intro W hW; obtain ⟨c0, c1, c2, p2⟩ := HCELL.out W hW; go_simp) ?_
  simp only [zD, zE, zF, zG]
  refine wpX_val (.int .i64 (x : Int)) rfl (by intro W hW; obtain ⟨c0, c1, c2, p2⟩ := HCELL.out W hW; go_simp) ?_
  simp only [zD, zE, zF, zG]
  refine wpX_call (.bool true) (f := 106) (args := #[.agg #[.int .i64 it, .slice (some ⟨bb, off, none⟩) ps.length cap, .slice qa n qc], .int .i64 (x : Int)]) rfl (by intro W hW; obtain ⟨c0, c1, c2, p2⟩ := HCELL.out W hW; go_simp) (fun W hW => (isPlayer_any _ ⟨it, ps, rq⟩ (x : Int) W (h0.keep (HX.out W hW).2.2)).mono (by rintro e w' ⟨_, rfl, rfl, hk⟩; exact ⟨by rw [HH.out], HK.out _ _ hW hk⟩)) ?_
  simp only [zD, zE, zF, zG]
  refine wpX_val (.bool false) rfl (by intro W hW; obtain ⟨c0, c1, c2, p2⟩ := HCELL.out W hW; go_simp) ?_
  simp only [zD, zE, zF, zG]
  refine wpX_val (.bool false) rfl (by intro W hW; obtain ⟨c0, c1, c2, p2⟩ := HCELL.out W hW; go_simp) ?_
  simp only [zD, zE, zF, zG]
  refine wpX_val (.pointer (some ⟨w.heap.size, 1, none⟩)) rfl (by intro W hW; obtain ⟨c0, c1, c2, p2⟩ := HCELL.out W hW; go_simp) ?_
  simp only [zD, zE, zF, zG]
  refine wpX_val (.slice (some ⟨bb, off, none⟩) ps.length cap) rfl (by intro W hW; obtain ⟨c0, c1, c2, p2⟩ := HCELL.out W hW; go_simp) ?_
  simp only [zD, zE, zF, zG]
  refine wpX_val (.int .i64 (x : Int)) rfl (by intro W hW; obtain ⟨c0, c1, c2, p2⟩ := HCELL.out W hW; go_simp) ?_
  simp only [zD, zE, zF, zG]
  refine wpX_val (.pointer (some ⟨bb, off + x * 7, none⟩)) rfl (by intro W hW; obtain ⟨c0, c1, c2, p2⟩ := HCELL.out W hW; go_simp) ?_
  simp only [zD, zE, zF, zG]
  refine wpX_val (.pointer (some ⟨bb, off + x * 7 + 1, none⟩)) rfl (by intro W hW; obtain ⟨c0, c1, c2, p2⟩ := HCELL.out W hW; go_simp) ?_
  simp only [zD, zE, zF, zG]
  refine wpX_val (.pointer (some ⟨bb, off + x * 7 + 2, none⟩)) rfl (by intro W hW; obtain ⟨c0, c1, c2, p2⟩ := HCELL.out W hW; go_simp) ?_
  simp only [zD, zE, zF, zG]
  refine wpX_val (.int .i64 sz) rfl (by intro W hW; obtain ⟨c0, c1, c2, p2⟩ := HCELL.out W hW; go_simp) ?_
  simp only [zD, zE, zF, zG]
  refine wpX_val (.pointer (some ⟨w.heap.size, 0, none⟩)) rfl (by intro W hW; obtain ⟨c0, c1, c2, p2⟩ := HCELL.out W hW; go_simp) ?_
  simp only [zD, zE, zF, zG]
  refine wpX_val (.int .i64 it) rfl (by intro W hW; obtain ⟨c0, c1, c2, p2⟩ := HCELL.out W hW; go_simp) ?_
  simp only [zD, zE, zF, zG]
  refine wpX_val (.bool true) rfl (by intro W hW; obtain ⟨c0, c1, c2, p2⟩ := HCELL.out W hW; go_simp) ?_
  simp only [zD, zE, zF, zG]
  refine wpX_val (.bool true) rfl (by intro W hW; obtain ⟨c0, c1, c2, p2⟩ := HCELL.out W hW; go_simp) ?_
  simp only [zD, zE, zF, zG]
  repeat (first | (refine wpX_skip rfl ?_; simp only [zD, zE, zF, zG]) | (refine wpX_val (.bool true) rfl (by intro W hW; go_simp) ?_; simp only [zD, zE, zF, zG]))
  refine wpX_nil (fun W hW => ?_)
  obtain ⟨_, b2, kk⟩ := HX.out W hW
  obtain ⟨e0, e1, e2, cf⟩ := id b2
  have cf0 := cf 0
  have cf1 := cf 1
  have cf2 := cf 2
  clear cf
  have hb2l := b2.lt
  obtain ⟨z0, z1, z2, _⟩ := ((b2.set0 (.int .i64 0)).set1 (.slice none 0 0)).set2 (.slice none 0 0)
  have HKK := Lib.hid (kk.put3 (b := w.heap.size + 1) (fun h => by omega) (.int .i64 0) (.slice none 0 0) (.slice none 0 0))
  clear kk b2
  go_wp2_with fail
  exact bodyPost_ret (v := .tuple #[.agg #[.int .i64 0, .slice none 0 0, .slice none 0 0], .bool false]) (by simp [results, Tryz.results105, go_sem, z0, z1, z2]) rfl ⟨_, _, rfl, by rw [HO.out], by rw [HV.out, HO.out]; exact TA.zero _ _, HKK.out⟩
end Go.Proofs.YtdgcohoneijleaaGreatDoor
