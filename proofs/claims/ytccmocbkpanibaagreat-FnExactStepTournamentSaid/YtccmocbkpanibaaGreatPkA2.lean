import Derived.Test.YtccmocbkpanibaaGreatPkA1
import Derived.Test.YtccmocbkpanibaaGreatSs
import Derived.Test.YtccmocbkpanibaaGreatK
import Derived.Test.YtccmocbkpanibaaGreatTe
import Derived.Test.YtccmocbkpanibaaGreatBt
import Derived.Test.YtccmocbkpanibaaGreatTi
import Derived.Test.YtccmocbkpanibaaGreatSi
/- a request taken back (program) -/
namespace Go.Proofs.YtccmocbkpanibaaGreat
open Go.RowKit

def okUndo (t : To) : Bool := decide (0 < t.reqs.length) && decide (latT t.ps t.ps.length < (t.reqs.length : Int))
def undoV (t : To) : To := if okUndo t then againT t (t.reqs.take (t.reqs.length - 1)) else zeroT
set_option maxRecDepth 100000 in
set_option maxHeartbeats 4000000 in
theorem undo_any (v : Value) (t : To) (w : World) (h : RT No w v t) (ht : tourB t = true) :
    Calls Tryz.prog 101 #[v] w (Ret2 fun v0 v1 w' => v1 = .bool (okUndo t) ∧ TA w.heap.size w' v0 (undoV t) ∧ Chg No w w') := by
  obtain ⟨hl1, hl2, hl3, hl4⟩ := tour_len ht
  have h0 := h
  have HSV := Lib.hid (Sv.again ht (l := t.reqs.take (t.reqs.length - 1)))
  obtain ⟨it, ps, rq⟩ := t
  obtain ⟨pv, qv, rfl, hps, hrq⟩ := h
  simp only at hps hrq hl1 hl2 hl3 hl4 HSV
  obtain ⟨qa, qc, rfl, _⟩ := id hrq
  obtain ⟨pa, cap, rfl, hcap, hmax, hlen, pf, mf, hl, hcl⟩ := id hps
  obtain ⟨n, hn⟩ : ∃ n, rq.length = n := ⟨_, rfl⟩
  have hn0 : (0 : Int) ≤ (n : Int) := Int.natCast_nonneg _
  have hw1 : IntKind.i64.wrap ((n : Int) - 1) = (n : Int) - 1 := IntWalk.i64_in _ (by omega)
  have hU : okUndo ⟨it, ps, rq⟩ = (decide (0 < n) && decide (latT ps ps.length < (n : Int))) := by rw [← hn]; rfl
  obtain ⟨ok, hok⟩ : ∃ ok, okUndo ⟨it, ps, rq⟩ = ok := ⟨_, rfl⟩
  obtain ⟨tv, htv⟩ : ∃ tv, undoV ⟨it, ps, rq⟩ = tv := ⟨_, rfl⟩
  have hV : tv = if ok then againT ⟨it, ps, rq⟩ (rq.take (n - 1)) else zeroT := by rw [← htv, ← hn, ← hok]; rfl
  rw [hok] at hU ⊢
  rw [htv]
  have HV := Lib.hid hV
  have HN := Lib.hid hn
  clear hV htv
  rw [hn] at h0 hrq hl2 HSV ⊢
  have hW0 : ∀ W, W = ((w.alloc (.cells #[.int .i64 it, .slice pa ps.length cap, .slice qa n qc] 31)).alloc (.cells #[.int .i64 0, .slice none 0 0, .slice none 0 0] 31)).alloc (.cells #[.int .i64 ((n : Int) - 1)] 3) →
      Chg No w W ∧ Box3 W w.heap.size (.int .i64 it) (.slice pa ps.length cap) (.slice qa n qc) ∧ Box3 W (w.heap.size + 1) (.int .i64 0) (.slice none 0 0) (.slice none 0 0) ∧ W.cell? ⟨w.heap.size + 1 + 1, 0, none⟩ = some (.int .i64 ((n : Int) - 1)) := fun W e => by
    subst e
    have f := boxes32 (w := w) (t := 31) (t' := 31) (x0 := .int .i64 it) (x1 := .slice pa ps.length cap) (x2 := .slice qa n qc) (y0 := .int .i64 0) (y1 := .slice none 0 0) (y2 := .slice none 0 0) (R := fun W => Chg No w W ∧ Box3 W w.heap.size (.int .i64 it) (.slice pa ps.length cap) (.slice qa n qc) ∧ Box3 W (w.heap.size + 1) (.int .i64 0) (.slice none 0 0) (.slice none 0 0)) (fun W k b0 b1 => ⟨k, b0, b1⟩)
    have ka := (Chg.refl No ((w.alloc (.cells #[.int .i64 it, .slice pa ps.length cap, .slice qa n qc] 31)).alloc (.cells #[.int .i64 0, .slice none 0 0, .slice none 0 0] 31))).alloc (.cells #[.int .i64 ((n : Int) - 1)] 3)
    refine ⟨f.1.keep ka, f.2.1.keep ka, f.2.2.keep ka, ?_⟩
    have e : w.heap.size + 1 + 1 = ((w.alloc (.cells #[.int .i64 it, .slice pa ps.length cap, .slice qa n qc] 31)).alloc (.cells #[.int .i64 0, .slice none 0 0, .slice none 0 0] 31)).heap.size := by simp
    rw [e, World.cell?_alloc_new]; rfl
  obtain ⟨kk, b0, b2, bi⟩ := hW0 _ rfl
  obtain ⟨c0, c1, c2, _⟩ := id b0
  have HO := Lib.hid hU
  clear hl hcl ht hn hok hU
  by_cases hz : n = 0
  · have HO : Hid (ok = false) := Lib.hid (by rw [HO.out]; simp [hz])
    have hlt : (n : Int) - 1 < 0 := by omega
    obtain ⟨z0, z1, z2, _⟩ := id b2
    clear hz
    go_enter Tryz.func101, Tryz.ntmps101
    go_wp2_with fail
    exact bodyPost_ret (v := .tuple #[.agg #[.int .i64 0, .slice none 0 0, .slice none 0 0], .bool false]) (by simp [results, Tryz.results101, go_sem, z0, z1, z2]) rfl ⟨_, _, rfl, by rw [HO.out], by rw [HV.out, HO.out]; exact TA.zero _ _, kk⟩
  · have hlt : ¬ ((n : Int) - 1 < 0) := by omega
    obtain ⟨m, rfl⟩ : ∃ m, n = m + 1 := ⟨n - 1, by omega⟩
    have hm1 : ((m + 1 : Nat) : Int) - 1 = (m : Int) := by omega
    rw [hm1] at hw1 hlt
    rw [hm1] at hW0 kk b0 b2 bi
    rw [hm1] at c0 c1 c2
    have HW0 := Lib.hid hW0
    have HO : Hid (ok = decide (latT ps ps.length < ((m + 1 : Nat) : Int))) := Lib.hid (by rw [HO.out, decide_eq_true (show 0 < m + 1 by omega)]; rfl)
    have hw2 : IntKind.i64.wrap (m : Int) = (m : Int) := IntWalk.i64_in _ (by omega)
    clear hz hm1 hW0
    go_enter Tryz.func101, Tryz.ntmps101
    go_wp2_with fail
    generalize hWW : ((w.alloc _).alloc _).alloc _ = W1
    rw [hWW] at kk b0 b2 bi
    clear c0 c1 c2 hWW HW0
    have hb2 := World.block_lt_of_cell? W1 _ bi
    refine (ContainsFuncP_any _ ps W1 (hps.keep kk) 142 (.pointer (some ⟨w.heap.size + 1 + 1, 0, none⟩)) (fun x => decide ((m : Int) < x.frm)) (fun x w => by kernel_rfl) (fun x pv mv W hk => undo1_any x pv mv (w.heap.size + 1 + 1) (m : Int) W ((hk.cellD _ 0 hb2 (fun e => e)).trans bi))).mono ?_
    rintro e w3 ⟨_, rfl, ⟨bb, rfl, hbb⟩, k3⟩
    have hlat := latT_lt ps ((m + 1 : Nat) : Int) (by omega) ps.length
    replace kk := kk.keep k3
    replace b0 := b0.keep k3
    replace b2 := b2.keep k3
    replace bi := (k3.cellD _ 0 hb2 (fun e => e)).trans bi
    clear k3
    obtain ⟨c0, c1, c2, _⟩ := id b0
    cases bb
    · have hall : ∀ i, i < ps.length → (ps.getD i dPl).frm < ((m + 1 : Nat) : Int) := fun i hi => by
        by_cases h : (m : Int) < (ps.getD i dPl).frm
        · have := hbb.2 ⟨i, hi, decide_eq_true h⟩; cases this
        · omega
      have HO : Hid (ok = true) := Lib.hid (by rw [HO.out]; exact decide_eq_true (hlat.2 hall))
      have HSV := Lib.hid (HSV.out (fun i hi => by have := hall i hi; rw [List.length_take, HN.out]; omega))
      have hrq' : RI No w (.slice qa rq.length qc) rq := by rw [HN.out]; exact hrq
      obtain ⟨x, hx, hrx⟩ := hrq'.upto m (m : Int) rfl (by rw [HN.out]; omega)
      rw [HN.out] at hx
      obtain ⟨xa, xn, xc, rfl⟩ := hrx.shape
      clear hall hlat hbb hrq' hrq
      go_wp2_with fail
      clear c0 c1 c2
      refine wp_region_K (S := fun W => W.cell? ⟨w.heap.size, 0, none⟩ = some (.int .i64 it) ∧ W.cell? ⟨w.heap.size, 1, none⟩ = some (.slice pa ps.length cap) ∧ W.cell? ⟨w.heap.size, 2, none⟩ = some (.slice qa (m + 1) qc) ∧ W.cell? ⟨w.heap.size + 1 + 1, 0, none⟩ = some (.int .i64 (m : Int))) (k := 6) (by kernel_rfl) ?_
      replace kk := kk.keep (drewN0 _)
      replace b0 := b0.keep (drewN0 _)
      replace b2 := b2.keep (drewN0 _)
      replace bi := ((drewN0 w3).cellD _ 0 (World.block_lt_of_cell? w3 _ bi) (fun e => e)).trans bi
      generalize w3.drew = WR at kk b0 b2 bi ⊢
      have hS : WR.cell? ⟨w.heap.size, 0, none⟩ = some (.int .i64 it) ∧ WR.cell? ⟨w.heap.size, 1, none⟩ = some (.slice pa ps.length cap) ∧ WR.cell? ⟨w.heap.size, 2, none⟩ = some (.slice qa (m + 1) qc) ∧ WR.cell? ⟨w.heap.size + 1 + 1, 0, none⟩ = some (.int .i64 (m : Int)) := ⟨b0.c0, b0.c1, b0.c2, bi⟩
      refine wpAnyK_takeT 0 (.agg #[.int .i64 it, .slice pa ps.length cap, .slice qa (m + 1) qc]) rfl (by kernel_rfl) (fun _ _ _ h => h) hS rfl (by intro w hSw; go_simp) ?_
      simp only [List.getElem_toArray, List.getElem_cons_zero, Act.put, List.setIfInBounds_toArray, List.set_cons_zero, List.set_cons_succ]
      refine wpAnyK_take0 1 (.pointer (some ⟨w.heap.size, 2, none⟩)) rfl (by kernel_rfl) (fun _ _ _ h => h) hS rfl (by intro w; go_simp) ?_
      simp only [List.getElem_toArray, List.getElem_cons_succ, List.getElem_cons_zero, Act.put, List.setIfInBounds_toArray, List.set_cons_zero, List.set_cons_succ]
      refine wpAnyK_takeT 2 (.slice qa (m + 1) qc) rfl (by kernel_rfl) (fun _ _ _ h => h) hS rfl (by intro w hSw; go_simp) ?_
      simp only [List.getElem_toArray, List.getElem_cons_succ, List.getElem_cons_zero, Act.put, List.setIfInBounds_toArray, List.set_cons_zero, List.set_cons_succ]
      refine wpAnyK_takeT 3 (.int .i64 (m : Int)) rfl (by kernel_rfl) (fun _ _ _ h => h) hS rfl (by intro w hSw; go_simp) ?_
      simp only [List.getElem_toArray, List.getElem_cons_succ, List.getElem_cons_zero, Act.put, List.setIfInBounds_toArray, List.set_cons_zero, List.set_cons_succ]
      refine wpAnyK_take0 4 (.slice xa xn xc) rfl (by kernel_rfl) (fun _ _ _ h => h) hS rfl (by intro w; go_simp) ?_
      simp only [List.getElem_toArray, List.getElem_cons_succ, List.getElem_cons_zero, Act.put, List.setIfInBounds_toArray, List.set_cons_zero, List.set_cons_succ]
      refine wpAnyK_1 5 (by kernel_rfl) (wpOpK' rfl rfl ?_)
      intro K hK
      refine ocall (f := 56) (args := #[.agg #[.int .i64 it, .slice pa ps.length cap, .slice qa (m + 1) qc], .slice xa xn xc]) (by go_simp) (again_any _ _ ⟨it, ps, rq⟩ _ WR (h0.keep kk) (hrx.keep kk) HSV.out) (fun v3 w3 h3 => hK.out _ _ ⟨(b0.keep h3.2).c0, (b0.keep h3.2).c1, (b0.keep h3.2).c2, (h3.2.cellD _ 0 (World.block_lt_of_cell? WR _ bi) (fun e => e)).trans bi⟩ ?_)
      obtain ⟨hTA, k3⟩ := h3
      clear hK K hS
      simp only [List.getElem_toArray, List.getElem_cons_succ, List.getElem_cons_zero, Act.put, List.setIfInBounds_toArray, List.set_cons_zero, List.set_cons_succ]
      refine wpAnyK_tail 6 rfl (by kernel_rfl) ?_
      simp only [List.drop_succ_cons, List.drop_zero]
      have hs0 := b2.lt
      replace b2 := b2.keep k3
      replace kk := kk.keep k3
      clear b0 bi
      obtain ⟨e0, e1, e2, cf⟩ := id b2
      have cf0 := cf 0
      have cf1 := cf 1
      have cf2 := cf 2
      clear cf
      have hb2l := b2.lt
      obtain ⟨iN, p1, p2, p3, r1, r2, r3, rfl, hTN⟩ := hTA.put3 (b := w.heap.size + 1) (by omega)
      obtain ⟨z0, z1, z2, _⟩ := ((b2.set0 (.int .i64 iN)).set1 (.slice p1 p2 p3)).set2 (.slice r1 r2 r3)
      have HK := Lib.hid (kk.put3 (b := w.heap.size + 1) (fun h => by omega) (.int .i64 iN) (.slice p1 p2 p3) (.slice r1 r2 r3))
      have HTN := Lib.hid (hTN.weak (base' := w.heap.size) (by omega))
      clear hTA hTN kk b2
      go_wp2_with fail
      exact bodyPost_ret (v := .tuple #[.agg #[.int .i64 iN, .slice p1 p2 p3, .slice r1 r2 r3], .bool true]) (by simp [results, Tryz.results101, go_sem, z0, z1, z2]) rfl ⟨_, _, rfl, by rw [HO.out], by rw [HV.out, HO.out]; exact HTN.out, HK.out⟩
    · have hex : ¬ latT ps ps.length < ((m + 1 : Nat) : Int) := fun h => by
        obtain ⟨j, hj, hp⟩ := hbb.1 rfl
        have := hlat.1 h j hj
        have hp' := of_decide_eq_true hp
        omega
      have HO : Hid (ok = false) := Lib.hid (by rw [HO.out]; exact decide_eq_false hex)
      clear hex hlat hbb
      obtain ⟨e0, e1, e2, cf⟩ := id b2
      have cf0 := cf 0
      have cf1 := cf 1
      have cf2 := cf 2
      clear cf
      have hb2l := b2.lt
      obtain ⟨z0, z1, z2, _⟩ := ((b2.set0 (.int .i64 0)).set1 (.slice none 0 0)).set2 (.slice none 0 0)
      have HK := Lib.hid (kk.put3 (b := w.heap.size + 1) (fun h => by omega) (.int .i64 0) (.slice none 0 0) (.slice none 0 0))
      clear kk b2
      go_wp2_with fail
      exact bodyPost_ret (v := .tuple #[.agg #[.int .i64 0, .slice none 0 0, .slice none 0 0], .bool false]) (by simp [results, Tryz.results101, go_sem, z0, z1, z2]) rfl ⟨_, _, rfl, by rw [HO.out], by rw [HV.out, HO.out]; exact TA.zero _ _, HK.out⟩
end Go.Proofs.YtccmocbkpanibaaGreat

/- the cruel asker (program) -/
namespace Go.Proofs.YtccmocbkpanibaaGreat
open Go.RowKit

theorem cruel_next {t : To} (ht : tourB t = true) {i : Nat} (hi : i < t.ps.length) (hs : (t.ps.getD i dPl).ca.size < t.items) (j : Nat) (hn : t.reqs.length + j + 1 ≤ 60) {tj : To} (hj : tj = againT t (t.reqs ++ cruelI (t.ps.getD i dPl).ca j)) :
    tourB tj = true ∧ i < tj.ps.length ∧ ∃ m : Nat, IsMiss (tj.ps.getD i dPl).ca.pages m ∧ (m : Int) < tj.items ∧ againT tj (tj.reqs ++ [(m : Int)]) = againT t (t.reqs ++ cruelI (t.ps.getD i dPl).ca (j + 1)) := by
  obtain ⟨h1, h2⟩ := cruel_facts ht hi hs j (by omega)
  obtain ⟨h3, _⟩ := cruel_facts ht hi hs (j + 1) (by omega)
  have hca := ca_again ht hi (cruelI (t.ps.getD i dPl).ca j)
  subst hj
  refine ⟨h2, by simp only [againT]; rw [againP_len]; exact hi, missOf (runC (t.ps.getD i dPl).ca (cruelI (t.ps.getD i dPl).ca j)).pages, ?_, ?_, ?_⟩
  · rw [hca]; exact missOf_spec _
  · exact (h3 _ (by simp [cruelI])).2
  · rw [againT_again]
    show againT t ((t.reqs ++ cruelI _ j) ++ [_]) = _
    rw [List.append_assoc]; rfl
theorem RT.wk {A B : Nat → Prop} {w : World} {v : Value} {t : To} (h : RT A w v t) (hB : ∀ k, B k → k < w.heap.size → A k) : RT B w v t := by
  obtain ⟨pv, rv, rfl, h1, h2⟩ := h
  exact ⟨_, _, rfl, h1.weak hB, h2.weak hB⟩
theorem RT.stp {A T : Nat → Prop} {w w' : World} {v : Value} {t : To} (h : RT A w v t) (hc : Chg T w w') (hT : ∀ k, T k → A k) : RT A w' v t := by
  obtain ⟨pv, rv, rfl, h1, h2⟩ := h
  exact ⟨_, _, rfl, h1.step hc hT, h2.step hc hT⟩
theorem TA.stepB {base : Nat} {w : World} {v : Value} {t : To} (h : TA base w v t) {b : Nat} (hb : b < base) (x0 x1 x2 : Value) : TA base (((w.setCell ⟨b, 0, none⟩ x0).setCell ⟨b, 1, none⟩ x1).setCell ⟨b, 2, none⟩ x2) v t := by
  obtain ⟨pv, pf, mf, rv, rfl, h2, h3, h4⟩ := h
  have ch := (Chg.refl (fun q => q = b) w).put3 (b := b) (fun _ => rfl) x0 x1 x2
  exact ⟨_, _, _, _, rfl, h2.step ch (fun q hq e => by have := (h2.inF q hq).1; omega), h3.step ch (fun q hq e => by have := (h3.lt q hq).1; omega), h4⟩
theorem TA.put3i {base : Nat} {w : World} {v : Value} {t : To} (h : TA base w v t) {b : Nat} (hb : b < base) : ∃ pa pn pc ra rn rc, v = .agg #[.int .i64 t.items, .slice pa pn pc, .slice ra rn rc] ∧
    TA base (((w.setCell ⟨b, 0, none⟩ (.int .i64 t.items)).setCell ⟨b, 1, none⟩ (.slice pa pn pc)).setCell ⟨b, 2, none⟩ (.slice ra rn rc)) v t := by
  obtain ⟨pv, pf, mf, rv, rfl, h2, h3, h4⟩ := h
  obtain ⟨pa, pc, rfl, _⟩ := h2.os.view
  obtain ⟨ra, rn, rc, rfl⟩ := h3.shape
  have ch : Chg (fun q => q = b) w (((w.setCell ⟨b, 0, none⟩ (.int .i64 t.items)).setCell ⟨b, 1, none⟩ (.slice pa t.ps.length pc)).setCell ⟨b, 2, none⟩ (.slice ra rn rc)) :=
    (((Chg.refl (fun q => q = b) w).setCell (p := ⟨b, 0, none⟩) (fun _ => rfl) _).setCell (p := ⟨b, 1, none⟩) (fun _ => rfl) _).setCell (p := ⟨b, 2, none⟩) (fun _ => rfl) _
  exact ⟨_, _, _, _, _, _, rfl, _, _, _, _, rfl, h2.step ch (fun q hq e => by have := (h2.inF q hq).1; omega), h3.step ch (fun q hq e => by have := (h3.lt q hq).1; omega), h4⟩
def okCr (t : To) (a b : Int) : Bool := hasP t a && (decide ((t.ps.getD a.toNat dPl).ca.size < t.items) && inB b 1 (60 - (t.reqs.length : Int)))
noncomputable def crV (t : To) (a b : Int) : To := if okCr t a b then againT t (t.reqs ++ cruelI (t.ps.getD a.toNat dPl).ca b.toNat) else zeroT
set_option maxRecDepth 100000 in
set_option maxHeartbeats 4000000 in
theorem cruelly0_any (v : Value) (t : To) (a b : Int) (w : World) (h : RT No w v t) (ht : tourB t = true) (ha : hasP t a = false) :
    Calls Tryz.prog 97 #[v, .int .i64 a, .int .i64 b] w (Ret2 fun v0 v1 w' => v1 = .bool (okCr t a b) ∧ TA w.heap.size w' v0 (crV t a b) ∧ Chg No w w') := by
  obtain ⟨hl1, hl2, hl3, hl4⟩ := tour_len ht
  have h0 := h
  have HT := Lib.hid ht
  obtain ⟨it, ps, rq⟩ := t
  obtain ⟨pv, qv, rfl, hps, hrq⟩ := h
  simp only at hps hrq hl1 hl2 hl3 hl4
  obtain ⟨qa, qc, rfl, _⟩ := id hrq
  obtain ⟨pa, cap, rfl, hcap, hmax, hlen, pf, mf, hl, hcl⟩ := id hps
  obtain ⟨n, hn⟩ : ∃ n, rq.length = n := ⟨_, rfl⟩
  have hn0 : (0 : Int) ≤ (n : Int) := Int.natCast_nonneg _
  have hw1 : IntKind.i64.wrap (60 - (n : Int)) = 60 - (n : Int) := IntWalk.i64_in _ (by omega)
  obtain ⟨ok, hok⟩ : ∃ ok, okCr ⟨it, ps, rq⟩ a b = ok := ⟨_, rfl⟩
  have hO : ok = (hasP ⟨it, ps, rq⟩ a && (decide ((ps.getD a.toNat dPl).ca.size < it) && inB b 1 (60 - (n : Int)))) := by rw [← hok, ← hn]; rfl
  obtain ⟨tv, htv⟩ : ∃ tv, crV ⟨it, ps, rq⟩ a b = tv := ⟨_, rfl⟩
  have hV : tv = if ok then againT ⟨it, ps, rq⟩ (rq ++ cruelI (ps.getD a.toNat dPl).ca b.toNat) else zeroT := by rw [← htv, ← hok]; rfl
  rw [hok, htv]
  have HV := Lib.hid hV
  have HN := Lib.hid hn
  rw [hn] at h0 hrq hl2 ⊢
  obtain ⟨kk, b0, b2⟩ := boxes32 (w := w) (t := 31) (t' := 31) (x0 := .int .i64 it) (x1 := .slice pa ps.length cap) (x2 := .slice qa n qc) (y0 := .int .i64 0) (y1 := .slice none 0 0) (y2 := .slice none 0 0) (R := fun W => Chg No w W ∧ Box3 W w.heap.size (.int .i64 it) (.slice pa ps.length cap) (.slice qa n qc) ∧ Box3 W (w.heap.size + 1) (.int .i64 0) (.slice none 0 0) (.slice none 0 0)) (fun W k b0 b1 => ⟨k, b0, b1⟩)
  clear hV htv hok ht
  rw [ha, Bool.false_and] at hO
  have HH := Lib.hid ha
  have HO := Lib.hid hO
  obtain ⟨C, hC1, hC2⟩ : ∃ C : World → Prop, (∀ W, C W → Box3 W w.heap.size (.int .i64 it) (.slice pa ps.length cap) (.slice qa n qc) ∧ Box3 W (w.heap.size + 1) (.int .i64 0) (.slice none 0 0) (.slice none 0 0) ∧ Chg No w W) ∧ (∀ W, Box3 W w.heap.size (.int .i64 it) (.slice pa ps.length cap) (.slice qa n qc) → Box3 W (w.heap.size + 1) (.int .i64 0) (.slice none 0 0) (.slice none 0 0) → Chg No w W → C W) := ⟨_, fun _ h => h, fun _ h h' h2 => ⟨h, h', h2⟩⟩
  have HK : Hid (∀ W W', C W → Chg No W W' → C W') := Lib.hid (fun W W' hW hk => hC2 W' ((hC1 W hW).1.keep hk) ((hC1 W hW).2.1.keep hk) ((hC1 W hW).2.2.keep hk))
  have HX := Lib.hid hC1
  have hC0 := hC2 _ (b0.keep (Chg.refl No _).drew) (b2.keep (Chg.refl No _).drew) kk.drew
  have HCELL : Hid (∀ W, C W → W.cell? ⟨w.heap.size, 0, none⟩ = some (.int .i64 it) ∧ W.cell? ⟨w.heap.size, 1, none⟩ = some (.slice pa ps.length cap) ∧ W.cell? ⟨w.heap.size, 2, none⟩ = some (.slice qa n qc) ∧ True) := Lib.hid (fun W hW => by
    obtain ⟨g1, g2, _⟩ := hC1 W hW
    exact ⟨g1.c0, g1.c1, g1.c2, trivial⟩)
  clear hO hl hcl hps hrq hC1 hC2 b0 b2 ha
  go_enter Tryz.func97, Tryz.ntmps97
  go_wp2_with fail
  refine wp_region_X C (by kernel_rfl) (by kernel_rfl) hC0 ?_
  clear hC0
  refine wpX_val (.agg #[.int .i64 it, .slice pa ps.length cap, .slice qa n qc]) rfl (by intro W hW; obtain ⟨c0, c1, c2, p2⟩ := HCELL.out W hW; go_simp) ?_
  simp only [Act.put, List.setIfInBounds_toArray, List.set_cons_zero, List.set_cons_succ]
  refine wpX_val (.int .i64 a) rfl (by intro W hW; obtain ⟨c0, c1, c2, p2⟩ := HCELL.out W hW; go_simp) ?_
  simp only [Act.put, List.setIfInBounds_toArray, List.set_cons_zero, List.set_cons_succ]
  refine wpX_call (.bool false) (f := 67) (args := #[.agg #[.int .i64 it, .slice pa ps.length cap, .slice qa n qc], .int .i64 a]) rfl (by intro W hW; obtain ⟨c0, c1, c2, p2⟩ := HCELL.out W hW; go_simp) (fun W hW => (isPlayer_any _ ⟨it, ps, rq⟩ a W (h0.keep (HX.out W hW).2.2)).mono (by rintro e w' ⟨_, rfl, rfl, hk⟩; exact ⟨by rw [HH.out], HK.out _ _ hW hk⟩)) ?_
  simp only [Act.put, List.setIfInBounds_toArray, List.set_cons_zero, List.set_cons_succ]
  refine wpX_val (.bool true) rfl (by intro W hW; obtain ⟨c0, c1, c2, p2⟩ := HCELL.out W hW; go_simp) ?_
  simp only [Act.put, List.setIfInBounds_toArray, List.set_cons_zero, List.set_cons_succ]
  refine wpX_val (.bool true) rfl (by intro W hW; obtain ⟨c0, c1, c2, p2⟩ := HCELL.out W hW; go_simp) ?_
  simp only [Act.put, List.setIfInBounds_toArray, List.set_cons_zero, List.set_cons_succ]
  repeat (first | (refine wpX_skip rfl ?_; simp only [Act.put, List.setIfInBounds_toArray, List.set_cons_zero, List.set_cons_succ]) | (refine wpX_val (.bool true) rfl (by intro W hW; go_simp) ?_; simp only [Act.put, List.setIfInBounds_toArray, List.set_cons_zero, List.set_cons_succ]))
  refine wpX_nil (fun W hW => ?_)
  obtain ⟨_, b2, kk⟩ := HX.out W hW
  obtain ⟨e0, e1, e2, cf⟩ := id b2
  have cf0 := cf 0
  have cf1 := cf 1
  have cf2 := cf 2
  clear cf
  have hb2l := b2.lt
  obtain ⟨z0, z1, z2, _⟩ := ((b2.set0 (.int .i64 0)).set1 (.slice none 0 0)).set2 (.slice none 0 0)
  have HKK := Lib.hid (kk.put3 (b := w.heap.size + 1) (fun h => by omega) (.int .i64 0) (.slice none 0 0) (.slice none 0 0))
  clear kk b2
  go_wp2_with fail
  exact bodyPost_ret (v := .tuple #[.agg #[.int .i64 0, .slice none 0 0, .slice none 0 0], .bool false]) (by simp [results, Tryz.results97, go_sem, z0, z1, z2]) rfl ⟨_, _, rfl, by rw [HO.out], by rw [HV.out, HO.out]; exact TA.zero _ _, HKK.out⟩

set_option maxRecDepth 100000 in
set_option maxHeartbeats 8000000 in
theorem cruelly1_any (v : Value) (t : To) (a b : Int) (w : World) (h : RT No w v t) (ht : tourB t = true) (ha : hasP t a = true) :
    Calls Tryz.prog 97 #[v, .int .i64 a, .int .i64 b] w (Ret2 fun v0 v1 w' => v1 = .bool (okCr t a b) ∧ TA w.heap.size w' v0 (crV t a b) ∧ Chg No w w') := by
  obtain ⟨hl1, hl2, hl3, hl4⟩ := tour_len ht
  have h0 := h
  have HT := Lib.hid ht
  obtain ⟨it, ps, rq⟩ := t
  obtain ⟨pv, qv, rfl, hps, hrq⟩ := h
  simp only at hps hrq hl1 hl2 hl3 hl4
  obtain ⟨qa, qc, rfl, _⟩ := id hrq
  obtain ⟨pa, cap, rfl, hcap, hmax, hlen, pf, mf, hl, hcl⟩ := id hps
  obtain ⟨n, hn⟩ : ∃ n, rq.length = n := ⟨_, rfl⟩
  have hn0 : (0 : Int) ≤ (n : Int) := Int.natCast_nonneg _
  have hw1 : IntKind.i64.wrap (60 - (n : Int)) = 60 - (n : Int) := IntWalk.i64_in _ (by omega)
  obtain ⟨ok, hok⟩ : ∃ ok, okCr ⟨it, ps, rq⟩ a b = ok := ⟨_, rfl⟩
  have hO : ok = (hasP ⟨it, ps, rq⟩ a && (decide ((ps.getD a.toNat dPl).ca.size < it) && inB b 1 (60 - (n : Int)))) := by rw [← hok, ← hn]; rfl
  obtain ⟨tv, htv⟩ : ∃ tv, crV ⟨it, ps, rq⟩ a b = tv := ⟨_, rfl⟩
  have hV : tv = if ok then againT ⟨it, ps, rq⟩ (rq ++ cruelI (ps.getD a.toNat dPl).ca b.toNat) else zeroT := by rw [← htv, ← hok]; rfl
  rw [hok, htv]
  have HV := Lib.hid hV
  have HN := Lib.hid hn
  rw [hn] at h0 hrq hl2 ⊢
  obtain ⟨kk, b0, b2⟩ := boxes32 (w := w) (t := 31) (t' := 31) (x0 := .int .i64 it) (x1 := .slice pa ps.length cap) (x2 := .slice qa n qc) (y0 := .int .i64 0) (y1 := .slice none 0 0) (y2 := .slice none 0 0) (R := fun W => Chg No w W ∧ Box3 W w.heap.size (.int .i64 it) (.slice pa ps.length cap) (.slice qa n qc) ∧ Box3 W (w.heap.size + 1) (.int .i64 0) (.slice none 0 0) (.slice none 0 0)) (fun W k b0 b1 => ⟨k, b0, b1⟩)
  clear hV htv hok ht
  rw [ha, Bool.true_and] at hO
  have HH := Lib.hid ha
  have hik : 0 ≤ a ∧ a ≤ (ps.length : Int) - 1 := inB_iff.1 ha
  obtain ⟨x, rfl⟩ : ∃ x : Nat, a = (x : Int) := ⟨a.toNat, by omega⟩
  have hx : x < ps.length := by omega
  obtain ⟨bb, off, rfl, _, hbb, hcell⟩ := hcl (by intro e; simp [e] at hx)
  have d2p := (hcell x hx).c2
  rw [show (x : Int).toNat = x by omega] at hO HV
  obtain ⟨sz, hsz⟩ : ∃ sz, (ps.getD x dPl).ca.size = sz := ⟨_, rfl⟩
  rw [hsz] at hO d2p
  have hx0 : (0 : Int) ≤ (x : Int) := Int.natCast_nonneg _
  have hx1 : (x : Int) < (ps.length : Int) := by omega
  have HO := Lib.hid hO
  have HBB := Lib.hid hbb
  have HP2 := Lib.hid d2p
  have HSZ := Lib.hid hsz
  have HXX := Lib.hid hx
  obtain ⟨C, hC1, hC2⟩ : ∃ C : World → Prop, (∀ W, C W → Box3 W w.heap.size (.int .i64 it) (.slice (some ⟨bb, off, none⟩) ps.length cap) (.slice qa n qc) ∧ Box3 W (w.heap.size + 1) (.int .i64 0) (.slice none 0 0) (.slice none 0 0) ∧ Chg No w W) ∧ (∀ W, Box3 W w.heap.size (.int .i64 it) (.slice (some ⟨bb, off, none⟩) ps.length cap) (.slice qa n qc) → Box3 W (w.heap.size + 1) (.int .i64 0) (.slice none 0 0) (.slice none 0 0) → Chg No w W → C W) := ⟨_, fun _ h => h, fun _ h h' h2 => ⟨h, h', h2⟩⟩
  have HK : Hid (∀ W W', C W → Chg No W W' → C W') := Lib.hid (fun W W' hW hk => hC2 W' ((hC1 W hW).1.keep hk) ((hC1 W hW).2.1.keep hk) ((hC1 W hW).2.2.keep hk))
  have HX := Lib.hid hC1
  have hC0 := hC2 _ (b0.keep (Chg.refl No _).drew) (b2.keep (Chg.refl No _).drew) kk.drew
  have HCELL : Hid (∀ W, C W → W.cell? ⟨w.heap.size, 0, none⟩ = some (.int .i64 it) ∧ W.cell? ⟨w.heap.size, 1, none⟩ = some (.slice (some ⟨bb, off, none⟩) ps.length cap) ∧ W.cell? ⟨w.heap.size, 2, none⟩ = some (.slice qa n qc) ∧ W.cell? ⟨bb, off + x * 7 + 2, none⟩ = some (.int .i64 sz)) := Lib.hid (fun W hW => by
    obtain ⟨g1, g2, g3⟩ := hC1 W hW
    exact ⟨g1.c0, g1.c1, g1.c2, (g3.cellD bb _ HBB.out (fun e => e)).trans HP2.out⟩)
  clear hO hl hcl hps hrq hC1 hC2 b0 b2 ha hcell d2p hik hsz hbb hx
  by_cases hlt : sz < it
  · have hge : ¬ (it ≤ sz) := by omega
    have HO2 := Lib.hid (by have := HO.out; rw [decide_eq_true hlt, Bool.true_and] at this; exact this : ok = inB b 1 (60 - (n : Int)))
    have HLT := Lib.hid hlt
    clear hlt
    cases hi : inB b 1 (60 - (n : Int))
    · have HI := Lib.hid hi
      have HO : Hid (ok = false) := Lib.hid (by rw [HO2.out, hi])
      clear hi
      go_enter Tryz.func97, Tryz.ntmps97
      go_wp2_with fail
      refine wp_region_X C (by kernel_rfl) (by kernel_rfl) hC0 ?_
      clear hC0
      refine wpX_val (.agg #[.int .i64 it, .slice (some ⟨bb, off, none⟩) ps.length cap, .slice qa n qc]) rfl (by intro W hW; obtain ⟨c0, c1, c2, p2⟩ := HCELL.out W hW; go_simp) ?_
      simp only [Act.put, List.setIfInBounds_toArray, List.set_cons_zero, List.set_cons_succ]
      refine wpX_val (.int .i64 (x : Int)) rfl (by intro W hW; obtain ⟨c0, c1, c2, p2⟩ := HCELL.out W hW; go_simp) ?_
      simp only [Act.put, List.setIfInBounds_toArray, List.set_cons_zero, List.set_cons_succ]
      refine wpX_call (.bool true) (f := 67) (args := #[.agg #[.int .i64 it, .slice (some ⟨bb, off, none⟩) ps.length cap, .slice qa n qc], .int .i64 (x : Int)]) rfl (by intro W hW; obtain ⟨c0, c1, c2, p2⟩ := HCELL.out W hW; go_simp) (fun W hW => (isPlayer_any _ ⟨it, ps, rq⟩ (x : Int) W (h0.keep (HX.out W hW).2.2)).mono (by rintro e w' ⟨_, rfl, rfl, hk⟩; exact ⟨by rw [HH.out], HK.out _ _ hW hk⟩)) ?_
      simp only [Act.put, List.setIfInBounds_toArray, List.set_cons_zero, List.set_cons_succ]
      refine wpX_val (.bool false) rfl (by intro W hW; obtain ⟨c0, c1, c2, p2⟩ := HCELL.out W hW; go_simp) ?_
      simp only [Act.put, List.setIfInBounds_toArray, List.set_cons_zero, List.set_cons_succ]
      refine wpX_val (.bool false) rfl (by intro W hW; obtain ⟨c0, c1, c2, p2⟩ := HCELL.out W hW; go_simp) ?_
      simp only [Act.put, List.setIfInBounds_toArray, List.set_cons_zero, List.set_cons_succ]
      refine wpX_val (.pointer (some ⟨w.heap.size, 1, none⟩)) rfl (by intro W hW; obtain ⟨c0, c1, c2, p2⟩ := HCELL.out W hW; go_simp) ?_
      simp only [Act.put, List.setIfInBounds_toArray, List.set_cons_zero, List.set_cons_succ]
      refine wpX_val (.slice (some ⟨bb, off, none⟩) ps.length cap) rfl (by intro W hW; obtain ⟨c0, c1, c2, p2⟩ := HCELL.out W hW; go_simp) ?_
      simp only [Act.put, List.setIfInBounds_toArray, List.set_cons_zero, List.set_cons_succ]
      refine wpX_val (.int .i64 (x : Int)) rfl (by intro W hW; obtain ⟨c0, c1, c2, p2⟩ := HCELL.out W hW; go_simp) ?_
      simp only [Act.put, List.setIfInBounds_toArray, List.set_cons_zero, List.set_cons_succ]
      refine wpX_val (.pointer (some ⟨bb, off + x * 7, none⟩)) rfl (by intro W hW; obtain ⟨c0, c1, c2, p2⟩ := HCELL.out W hW; go_simp) ?_
      simp only [Act.put, List.setIfInBounds_toArray, List.set_cons_zero, List.set_cons_succ]
      refine wpX_val (.pointer (some ⟨bb, off + x * 7 + 1, none⟩)) rfl (by intro W hW; obtain ⟨c0, c1, c2, p2⟩ := HCELL.out W hW; go_simp) ?_
      simp only [Act.put, List.setIfInBounds_toArray, List.set_cons_zero, List.set_cons_succ]
      refine wpX_val (.pointer (some ⟨bb, off + x * 7 + 2, none⟩)) rfl (by intro W hW; obtain ⟨c0, c1, c2, p2⟩ := HCELL.out W hW; go_simp) ?_
      simp only [Act.put, List.setIfInBounds_toArray, List.set_cons_zero, List.set_cons_succ]
      refine wpX_val (.int .i64 sz) rfl (by intro W hW; obtain ⟨c0, c1, c2, p2⟩ := HCELL.out W hW; go_simp) ?_
      simp only [Act.put, List.setIfInBounds_toArray, List.set_cons_zero, List.set_cons_succ]
      refine wpX_val (.pointer (some ⟨w.heap.size, 0, none⟩)) rfl (by intro W hW; obtain ⟨c0, c1, c2, p2⟩ := HCELL.out W hW; go_simp) ?_
      simp only [Act.put, List.setIfInBounds_toArray, List.set_cons_zero, List.set_cons_succ]
      refine wpX_val (.int .i64 it) rfl (by intro W hW; obtain ⟨c0, c1, c2, p2⟩ := HCELL.out W hW; go_simp) ?_
      simp only [Act.put, List.setIfInBounds_toArray, List.set_cons_zero, List.set_cons_succ]
      refine wpX_val (.bool false) rfl (by intro W hW; obtain ⟨c0, c1, c2, p2⟩ := HCELL.out W hW; go_simp) ?_
      simp only [Act.put, List.setIfInBounds_toArray, List.set_cons_zero, List.set_cons_succ]
      refine wpX_val (.bool false) rfl (by intro W hW; obtain ⟨c0, c1, c2, p2⟩ := HCELL.out W hW; go_simp) ?_
      simp only [Act.put, List.setIfInBounds_toArray, List.set_cons_zero, List.set_cons_succ]
      refine wpX_val (.bool false) rfl (by intro W hW; obtain ⟨c0, c1, c2, p2⟩ := HCELL.out W hW; go_simp) ?_
      simp only [Act.put, List.setIfInBounds_toArray, List.set_cons_zero, List.set_cons_succ]
      refine wpX_val (.int .i64 b) rfl (by intro W hW; obtain ⟨c0, c1, c2, p2⟩ := HCELL.out W hW; go_simp) ?_
      simp only [Act.put, List.setIfInBounds_toArray, List.set_cons_zero, List.set_cons_succ]
      refine wpX_val (.pointer (some ⟨w.heap.size, 2, none⟩)) rfl (by intro W hW; obtain ⟨c0, c1, c2, p2⟩ := HCELL.out W hW; go_simp) ?_
      simp only [Act.put, List.setIfInBounds_toArray, List.set_cons_zero, List.set_cons_succ]
      refine wpX_val (.slice qa n qc) rfl (by intro W hW; obtain ⟨c0, c1, c2, p2⟩ := HCELL.out W hW; go_simp) ?_
      simp only [Act.put, List.setIfInBounds_toArray, List.set_cons_zero, List.set_cons_succ]
      refine wpX_val (.int .i64 (n : Int)) rfl (by intro W hW; obtain ⟨c0, c1, c2, p2⟩ := HCELL.out W hW; go_simp) ?_
      simp only [Act.put, List.setIfInBounds_toArray, List.set_cons_zero, List.set_cons_succ]
      refine wpX_val (.int .i64 (60 - (n : Int))) rfl (by intro W hW; obtain ⟨c0, c1, c2, p2⟩ := HCELL.out W hW; go_simp) ?_
      simp only [Act.put, List.setIfInBounds_toArray, List.set_cons_zero, List.set_cons_succ]
      refine wpX_call (.bool false) (f := 91) (args := #[.int .i64 b, .int .i64 1, .int .i64 (60 - (n : Int))]) rfl (by intro W hW; go_simp) (fun W hW => (within_any _ _ _ W).mono (by rintro e w' ⟨rfl, rfl⟩; exact ⟨by rw [HI.out], hW⟩)) ?_
      simp only [Act.put, List.setIfInBounds_toArray, List.set_cons_zero, List.set_cons_succ]
      refine wpX_val (.bool true) rfl (by intro W hW; obtain ⟨c0, c1, c2, p2⟩ := HCELL.out W hW; go_simp) ?_
      simp only [Act.put, List.setIfInBounds_toArray, List.set_cons_zero, List.set_cons_succ]
      refine wpX_val (.bool true) rfl (by intro W hW; obtain ⟨c0, c1, c2, p2⟩ := HCELL.out W hW; go_simp) ?_
      simp only [Act.put, List.setIfInBounds_toArray, List.set_cons_zero, List.set_cons_succ]
      refine wpX_nil (fun W hW => ?_)
      obtain ⟨_, b2, kk⟩ := HX.out W hW
      obtain ⟨e0, e1, e2, cf⟩ := id b2
      have cf0 := cf 0
      have cf1 := cf 1
      have cf2 := cf 2
      clear cf
      have hb2l := b2.lt
      obtain ⟨z0, z1, z2, _⟩ := ((b2.set0 (.int .i64 0)).set1 (.slice none 0 0)).set2 (.slice none 0 0)
      have HKK := Lib.hid (kk.put3 (b := w.heap.size + 1) (fun h => by omega) (.int .i64 0) (.slice none 0 0) (.slice none 0 0))
      clear kk b2
      go_wp2_with fail
      exact bodyPost_ret (v := .tuple #[.agg #[.int .i64 0, .slice none 0 0, .slice none 0 0], .bool false]) (by simp [results, Tryz.results97, go_sem, z0, z1, z2]) rfl ⟨_, _, rfl, by rw [HO.out], by rw [HV.out, HO.out]; exact TA.zero _ _, HKK.out⟩
    · have hbk := inB_iff.1 hi
      have HI := Lib.hid hi
      have HOT : Hid (ok = true) := Lib.hid (by rw [HO2.out, hi])
      obtain ⟨z, rfl⟩ : ∃ z : Nat, b = (z : Int) := ⟨b.toNat, by omega⟩
      have hz1 : 1 ≤ z ∧ rq.length + z ≤ 60 := by have := HN.out; omega
      rw [show (z : Int).toNat = z by omega] at HV
      have hz0 : (0 : Int) ≤ (z : Int) := Int.natCast_nonneg _
      have HZ1 := Lib.hid hz1
      clear hi hbk hz1
      go_enter Tryz.func97, Tryz.ntmps97
      go_wp2_with fail
      refine wp_region_X C (by kernel_rfl) (by kernel_rfl) hC0 ?_
      clear hC0
      refine wpX_val (.agg #[.int .i64 it, .slice (some ⟨bb, off, none⟩) ps.length cap, .slice qa n qc]) rfl (by intro W hW; obtain ⟨c0, c1, c2, p2⟩ := HCELL.out W hW; go_simp) ?_
      simp only [Act.put, List.setIfInBounds_toArray, List.set_cons_zero, List.set_cons_succ]
      refine wpX_val (.int .i64 (x : Int)) rfl (by intro W hW; obtain ⟨c0, c1, c2, p2⟩ := HCELL.out W hW; go_simp) ?_
      simp only [Act.put, List.setIfInBounds_toArray, List.set_cons_zero, List.set_cons_succ]
      refine wpX_call (.bool true) (f := 67) (args := #[.agg #[.int .i64 it, .slice (some ⟨bb, off, none⟩) ps.length cap, .slice qa n qc], .int .i64 (x : Int)]) rfl (by intro W hW; obtain ⟨c0, c1, c2, p2⟩ := HCELL.out W hW; go_simp) (fun W hW => (isPlayer_any _ ⟨it, ps, rq⟩ (x : Int) W (h0.keep (HX.out W hW).2.2)).mono (by rintro e w' ⟨_, rfl, rfl, hk⟩; exact ⟨by rw [HH.out], HK.out _ _ hW hk⟩)) ?_
      simp only [Act.put, List.setIfInBounds_toArray, List.set_cons_zero, List.set_cons_succ]
      refine wpX_val (.bool false) rfl (by intro W hW; obtain ⟨c0, c1, c2, p2⟩ := HCELL.out W hW; go_simp) ?_
      simp only [Act.put, List.setIfInBounds_toArray, List.set_cons_zero, List.set_cons_succ]
      refine wpX_val (.bool false) rfl (by intro W hW; obtain ⟨c0, c1, c2, p2⟩ := HCELL.out W hW; go_simp) ?_
      simp only [Act.put, List.setIfInBounds_toArray, List.set_cons_zero, List.set_cons_succ]
      refine wpX_val (.pointer (some ⟨w.heap.size, 1, none⟩)) rfl (by intro W hW; obtain ⟨c0, c1, c2, p2⟩ := HCELL.out W hW; go_simp) ?_
      simp only [Act.put, List.setIfInBounds_toArray, List.set_cons_zero, List.set_cons_succ]
      refine wpX_val (.slice (some ⟨bb, off, none⟩) ps.length cap) rfl (by intro W hW; obtain ⟨c0, c1, c2, p2⟩ := HCELL.out W hW; go_simp) ?_
      simp only [Act.put, List.setIfInBounds_toArray, List.set_cons_zero, List.set_cons_succ]
      refine wpX_val (.int .i64 (x : Int)) rfl (by intro W hW; obtain ⟨c0, c1, c2, p2⟩ := HCELL.out W hW; go_simp) ?_
      simp only [Act.put, List.setIfInBounds_toArray, List.set_cons_zero, List.set_cons_succ]
      refine wpX_val (.pointer (some ⟨bb, off + x * 7, none⟩)) rfl (by intro W hW; obtain ⟨c0, c1, c2, p2⟩ := HCELL.out W hW; go_simp) ?_
      simp only [Act.put, List.setIfInBounds_toArray, List.set_cons_zero, List.set_cons_succ]
      refine wpX_val (.pointer (some ⟨bb, off + x * 7 + 1, none⟩)) rfl (by intro W hW; obtain ⟨c0, c1, c2, p2⟩ := HCELL.out W hW; go_simp) ?_
      simp only [Act.put, List.setIfInBounds_toArray, List.set_cons_zero, List.set_cons_succ]
      refine wpX_val (.pointer (some ⟨bb, off + x * 7 + 2, none⟩)) rfl (by intro W hW; obtain ⟨c0, c1, c2, p2⟩ := HCELL.out W hW; go_simp) ?_
      simp only [Act.put, List.setIfInBounds_toArray, List.set_cons_zero, List.set_cons_succ]
      refine wpX_val (.int .i64 sz) rfl (by intro W hW; obtain ⟨c0, c1, c2, p2⟩ := HCELL.out W hW; go_simp) ?_
      simp only [Act.put, List.setIfInBounds_toArray, List.set_cons_zero, List.set_cons_succ]
      refine wpX_val (.pointer (some ⟨w.heap.size, 0, none⟩)) rfl (by intro W hW; obtain ⟨c0, c1, c2, p2⟩ := HCELL.out W hW; go_simp) ?_
      simp only [Act.put, List.setIfInBounds_toArray, List.set_cons_zero, List.set_cons_succ]
      refine wpX_val (.int .i64 it) rfl (by intro W hW; obtain ⟨c0, c1, c2, p2⟩ := HCELL.out W hW; go_simp) ?_
      simp only [Act.put, List.setIfInBounds_toArray, List.set_cons_zero, List.set_cons_succ]
      refine wpX_val (.bool false) rfl (by intro W hW; obtain ⟨c0, c1, c2, p2⟩ := HCELL.out W hW; go_simp) ?_
      simp only [Act.put, List.setIfInBounds_toArray, List.set_cons_zero, List.set_cons_succ]
      refine wpX_val (.bool false) rfl (by intro W hW; obtain ⟨c0, c1, c2, p2⟩ := HCELL.out W hW; go_simp) ?_
      simp only [Act.put, List.setIfInBounds_toArray, List.set_cons_zero, List.set_cons_succ]
      refine wpX_val (.bool false) rfl (by intro W hW; obtain ⟨c0, c1, c2, p2⟩ := HCELL.out W hW; go_simp) ?_
      simp only [Act.put, List.setIfInBounds_toArray, List.set_cons_zero, List.set_cons_succ]
      refine wpX_val (.int .i64 (z : Int)) rfl (by intro W hW; obtain ⟨c0, c1, c2, p2⟩ := HCELL.out W hW; go_simp) ?_
      simp only [Act.put, List.setIfInBounds_toArray, List.set_cons_zero, List.set_cons_succ]
      refine wpX_val (.pointer (some ⟨w.heap.size, 2, none⟩)) rfl (by intro W hW; obtain ⟨c0, c1, c2, p2⟩ := HCELL.out W hW; go_simp) ?_
      simp only [Act.put, List.setIfInBounds_toArray, List.set_cons_zero, List.set_cons_succ]
      refine wpX_val (.slice qa n qc) rfl (by intro W hW; obtain ⟨c0, c1, c2, p2⟩ := HCELL.out W hW; go_simp) ?_
      simp only [Act.put, List.setIfInBounds_toArray, List.set_cons_zero, List.set_cons_succ]
      refine wpX_val (.int .i64 (n : Int)) rfl (by intro W hW; obtain ⟨c0, c1, c2, p2⟩ := HCELL.out W hW; go_simp) ?_
      simp only [Act.put, List.setIfInBounds_toArray, List.set_cons_zero, List.set_cons_succ]
      refine wpX_val (.int .i64 (60 - (n : Int))) rfl (by intro W hW; obtain ⟨c0, c1, c2, p2⟩ := HCELL.out W hW; go_simp) ?_
      simp only [Act.put, List.setIfInBounds_toArray, List.set_cons_zero, List.set_cons_succ]
      refine wpX_call (.bool true) (f := 91) (args := #[.int .i64 (z : Int), .int .i64 1, .int .i64 (60 - (n : Int))]) rfl (by intro W hW; go_simp) (fun W hW => (within_any _ _ _ W).mono (by rintro e w' ⟨rfl, rfl⟩; exact ⟨by rw [HI.out], hW⟩)) ?_
      simp only [Act.put, List.setIfInBounds_toArray, List.set_cons_zero, List.set_cons_succ]
      refine wpX_val (.bool false) rfl (by intro W hW; obtain ⟨c0, c1, c2, p2⟩ := HCELL.out W hW; go_simp) ?_
      simp only [Act.put, List.setIfInBounds_toArray, List.set_cons_zero, List.set_cons_succ]
      refine wpX_val (.bool false) rfl (by intro W hW; obtain ⟨c0, c1, c2, p2⟩ := HCELL.out W hW; go_simp) ?_
      simp only [Act.put, List.setIfInBounds_toArray, List.set_cons_zero, List.set_cons_succ]
      refine wpX_nil (fun W hW => ?_)
      obtain ⟨b0, b2, kk⟩ := HX.out W hW
      clear hW HX HK HCELL
      have h0W := h0.keep kk
      obtain ⟨c, hc⟩ : ∃ c, (ps.getD x dPl).ca = c := ⟨_, rfl⟩
      rw [hc] at HV
      have HC := Lib.hid hc
      have hself : againT ⟨it, ps, rq⟩ (rq ++ cruelI c 0) = ⟨it, ps, rq⟩ := by simp only [cruelI, List.append_nil]; exact againT_self HT.out
      have hP0 : RT No W (.agg #[.int .i64 it, .slice (some ⟨bb, off, none⟩) ps.length cap, .slice qa n qc]) (againT ⟨it, ps, rq⟩ (rq ++ cruelI c 0)) ∧ (0 < 0 → TA (w.heap.size + 2) W (.agg #[.int .i64 it, .slice (some ⟨bb, off, none⟩) ps.length cap, .slice qa n qc]) (againT ⟨it, ps, rq⟩ (rq ++ cruelI c 0))) := ⟨by rw [hself]; exact h0W, fun e => absurd e (Nat.lt_irrefl 0)⟩
      have HP0 := Lib.hid hP0
      clear hself hc hP0
      go_wp2_with fail
      go_loopw [35] (fun zz wr => ∃ (j : Nat) (va : Option Addr) (n1 c1 : Nat) (rb : Option Addr) (n2 c2 : Nat), j ≤ z ∧ zz = .int .i64 (j : Int) ∧ (RT No wr (.agg #[.int .i64 it, .slice va n1 c1, .slice rb n2 c2]) (againT ⟨it, ps, rq⟩ (rq ++ cruelI c j)) ∧
        (0 < j → TA (w.heap.size + 2) wr (.agg #[.int .i64 it, .slice va n1 c1, .slice rb n2 c2]) (againT ⟨it, ps, rq⟩ (rq ++ cruelI c j)))) ∧ Box3 wr w.heap.size (.int .i64 it) (.slice va n1 c1) (.slice rb n2 c2) ∧ Box3 wr (w.heap.size + 1) (.int .i64 0) (.slice none 0 0) (.slice none 0 0) ∧ Chg No w wr) (fun zz _ => z - (intOf zz).toNat)
      case atStart => exact ⟨0, _, _, _, _, _, _, Nat.zero_le _, rfl, HP0.out, b0, b2, kk⟩
      case round =>
        clear b0 b2 kk h0W HP0
        obtain ⟨j, va, n1, k1, rb, n2, k2, hj, rfl, hPj, b0, b2, kk⟩ := hrel
        have hj0 : (0 : Int) ≤ (j : Int) := Int.natCast_nonneg _
        by_cases hjz : j < z
        · have hj1 : (j : Int) < (z : Int) := by omega
          have hwj : IntKind.i64.wrap ((j : Int) + 1) = (j : Int) + 1 := IntWalk.i64_in _ (by have := HZ1.out; omega)
          obtain ⟨tj, htj⟩ : ∃ tj, againT ⟨it, ps, rq⟩ (rq ++ cruelI c j) = tj := ⟨_, rfl⟩
          have htji : tj.items = it := by rw [← htj]; rfl
          have hcn := cruel_next HT.out (i := x) HXX.out (by have := HSZ.out; have := HLT.out; simp only; omega) j (by have := HZ1.out; simp only; omega) (tj := tj) (by rw [← htj, ← HC.out])
          simp only at hcn
          rw [HC.out] at hcn
          obtain ⟨hT, hxj, m, hm, hmlt, hnext⟩ := hcn
          obtain ⟨g1, g2, g3, g4⟩ := tour_len hT
          have hRT := hPj.1
          rw [htj] at hRT
          have hRI : RI No wr (.slice rb n2 k2) tj.reqs := by
            obtain ⟨q1, q2, he, _, hq⟩ := id hRT
            simp only [Value.agg.injEq, Array.mk.injEq, List.cons.injEq, and_true] at he
            rw [he.2.2]; exact hq
          have HSV := Lib.hid (Sv.again hT (l := tj.reqs ++ [(m : Int)]) (fun i hi => by have := (tour_at hT hi).1.2; rw [List.length_append]; omega))
          have HM := Lib.hid (And.intro hm hmlt)
          have HNX := Lib.hid hnext
          have HXJ := Lib.hid hxj
          have HIT := Lib.hid htji
          clear htj hPj hm hmlt hnext hxj hT htji
          go_wp2_with fail
          refine wp_region_K (S := fun W => W.cell? ⟨w.heap.size, 0, none⟩ = some (.int .i64 it) ∧ W.cell? ⟨w.heap.size, 1, none⟩ = some (.slice va n1 k1) ∧ W.cell? ⟨w.heap.size, 2, none⟩ = some (.slice rb n2 k2)) (k := 10) (by kernel_rfl) ?_
          replace kk := kk.keep (drewN0 _)
          replace b0 := b0.keep (drewN0 _)
          replace b2 := b2.keep (drewN0 _)
          replace hRT := hRT.keep (drewN0 _)
          replace hRI := hRI.keep (drewN0 _)
          generalize wr.drew = WR at kk b0 b2 hRT hRI ⊢
          have hS : WR.cell? ⟨w.heap.size, 0, none⟩ = some (.int .i64 it) ∧ WR.cell? ⟨w.heap.size, 1, none⟩ = some (.slice va n1 k1) ∧ WR.cell? ⟨w.heap.size, 2, none⟩ = some (.slice rb n2 k2) := ⟨b0.c0, b0.c1, b0.c2⟩
          refine wpAnyK_takeT 0 (.agg #[.int .i64 it, .slice va n1 k1, .slice rb n2 k2]) rfl (by kernel_rfl) (fun _ _ _ h => h) hS rfl (by intro w hSw; go_simp) ?_
          simp only [List.getElem_toArray, List.getElem_cons_zero, Act.put, List.setIfInBounds_toArray, List.set_cons_zero, List.set_cons_succ]
          refine wpAnyK_take0 1 (.pointer (some ⟨w.heap.size, 2, none⟩)) rfl (by kernel_rfl) (fun _ _ _ h => h) hS rfl (by intro w; go_simp) ?_
          simp only [List.getElem_toArray, List.getElem_cons_succ, List.getElem_cons_zero, Act.put, List.setIfInBounds_toArray, List.set_cons_zero, List.set_cons_succ]
          refine wpAnyK_takeT 2 (.slice rb n2 k2) rfl (by kernel_rfl) (fun _ _ _ h => h) hS rfl (by intro w hSw; go_simp) ?_
          simp only [List.getElem_toArray, List.getElem_cons_succ, List.getElem_cons_zero, Act.put, List.setIfInBounds_toArray, List.set_cons_zero, List.set_cons_succ]
          refine wpAnyK_takeT 4 (.agg #[.int .i64 it, .slice va n1 k1, .slice rb n2 k2]) rfl (by kernel_rfl) (fun _ _ _ h => h) hS rfl (by intro w hSw; go_simp) ?_
          simp only [List.getElem_toArray, List.getElem_cons_succ, List.getElem_cons_zero, Act.put, List.setIfInBounds_toArray, List.set_cons_zero, List.set_cons_succ]
          refine wpAnyK_take0 5 (.int .i64 (x : Int)) rfl (by kernel_rfl) (fun _ _ _ h => h) hS rfl (by intro w; go_simp) ?_
          simp only [List.getElem_toArray, List.getElem_cons_succ, List.getElem_cons_zero, Act.put, List.setIfInBounds_toArray, List.set_cons_zero, List.set_cons_succ]
          refine wpAnyK_1 3 (by kernel_rfl) (wpOpK' rfl rfl ?_)
          intro K hK
          refine ocall (f := 98) (args := #[.slice rb n2 k2]) (by go_simp) (Clone_any No _ tj.reqs WR hRI) (fun v1 WQ h1 => hK.out _ _ ⟨(b0.keep h1.2).c0, (b0.keep h1.2).c1, (b0.keep h1.2).c2⟩ ?_)
          obtain ⟨o1, kx⟩ := h1
          clear hK K hS
          simp only [List.getElem_toArray, List.getElem_cons_succ, List.getElem_cons_zero, Act.put, List.setIfInBounds_toArray, List.set_cons_zero, List.set_cons_succ]
          obtain ⟨za, zn, zc, rfl⟩ := o1.shape
          have hb := b2.lt
          obtain ⟨S0, hS0⟩ : ∃ S0, WR.heap.size = S0 := ⟨_, rfl⟩
          replace hRT : RT (fun q => S0 ≤ q) WQ (.agg #[.int .i64 it, .slice va n1 k1, .slice rb n2 k2]) tj := (hRT.wk (fun q e hl => by omega)).keep kx
          rw [hS0] at o1 hb
          replace kk := kk.keep kx
          replace b0 := b0.keep kx
          replace b2 := b2.keep kx
          have hsS : S0 ≤ WQ.heap.size := by have := kx.size; omega
          clear kx hRI hS0
          generalize WQ = WR at *
          refine wpAnyK_1 6 (by kernel_rfl) (wpOpK' rfl rfl ?_)
          intro K hK
          refine ocall (f := 72) (args := #[.agg #[.int .i64 it, .slice va n1 k1, .slice rb n2 k2], .int .i64 (x : Int)]) (by go_simp) (cruel_any _ tj x m WR (hRT.wk (fun q e _ => e.elim)) HXJ.out HM.out.1 ⟨g3, g4⟩) (fun v1 WQ h1 => hK.out _ _ ⟨(b0.keep h1.2).c0, (b0.keep h1.2).c1, (b0.keep h1.2).c2⟩ ?_)
          obtain ⟨rfl, kx⟩ := h1
          rw [if_pos HM.out.2]
          clear hK K
          simp only [List.getElem_toArray, List.getElem_cons_succ, List.getElem_cons_zero, Act.put, List.setIfInBounds_toArray, List.set_cons_zero, List.set_cons_succ]
          replace o1 := o1.keep kx
          replace kk := kk.keep kx
          replace b0 := b0.keep kx
          replace b2 := b2.keep kx
          replace hRT := hRT.keep kx
          replace hsS : S0 ≤ WQ.heap.size := by have := kx.size; omega
          clear kx
          generalize WQ = WR at *
          refine wpAnyK_1 7 (by kernel_rfl) (wpOpK' rfl rfl ?_)
          intro K hK
          refine obuild (.tmp 43) (m : Int) rfl rfl (fun g WQ kx hg hge => hK.out _ _ ⟨(b0.keep kx).c0, (b0.keep kx).c1, (b0.keep kx).c2⟩ ?_)
          clear hK K
          simp only [List.getElem_toArray, List.getElem_cons_succ, List.getElem_cons_zero, Act.put, List.setIfInBounds_toArray, List.set_cons_zero, List.set_cons_succ]
          replace o1 := o1.keep kx
          replace kk := kk.keep kx
          replace b0 := b0.keep kx
          replace b2 := b2.keep kx
          replace hRT := hRT.keep kx
          replace hsS : S0 ≤ WQ.heap.size := by have := kx.size; omega
          clear kx hge
          generalize WQ = WR at *
          refine wpAnyK_1 8 (by kernel_rfl) (wpOpK' rfl rfl ?_)
          intro K hK
          have hne : ∀ q, own (.slice za zn zc) q → S0 ≤ q := fun q hq => (o1.lt q hq).1
          refine oapp (.tmp 40) (.tmp 44) rfl o1 (RI.one (A := No) (n := (m : Int)) hg (Nat.le_refl 1) (by omega) (fun e => e)) rfl rfl (by simp; omega) hsS (fun v7 WQ o7 kx fx => hK.out _ _ ⟨(b0.step kx (fun e => by have := hne _ e; omega)).c0, (b0.step kx (fun e => by have := hne _ e; omega)).c1, (b0.step kx (fun e => by have := hne _ e; omega)).c2⟩ ?_)
          clear hK K
          simp only [List.getElem_toArray, List.getElem_cons_succ, List.getElem_cons_zero, Act.put, List.setIfInBounds_toArray, List.set_cons_zero, List.set_cons_succ]
          replace kk := kk.step kx (fun q e hl => by have := hne q e; omega)
          replace b0 := b0.step kx (fun e => by have := hne _ e; omega)
          replace b2 := b2.step kx (fun e => by have := hne _ e; omega)
          replace hRT := (hRT.stp kx hne).wk (B := No) (fun q e _ => e.elim)
          clear kx fx o1 hne hg
          obtain ⟨ya, yn, yc, rfl⟩ := o7.shape
          generalize WQ = WR at *
          refine wpAnyK_1 9 (by kernel_rfl) (wpOpK' rfl rfl ?_)
          intro K hK
          refine ocall (f := 56) (args := #[.agg #[.int .i64 it, .slice va n1 k1, .slice rb n2 k2], .slice ya yn yc]) (by go_simp) (again_any _ _ tj _ WR hRT o7.readNo HSV.out) (fun v3 w3 h3 => hK.out _ _ ⟨(b0.keep h3.2).c0, (b0.keep h3.2).c1, (b0.keep h3.2).c2⟩ ?_)
          obtain ⟨hTA, k3⟩ := h3
          clear hK K
          simp only [List.getElem_toArray, List.getElem_cons_succ, List.getElem_cons_zero, Act.put, List.setIfInBounds_toArray, List.set_cons_zero, List.set_cons_succ]
          refine wpAnyK_tail 10 rfl (by kernel_rfl) ?_
          simp only [List.drop_succ_cons, List.drop_zero]
          have hs0 := b2.lt
          replace b0 := b0.keep k3
          replace b2 := b2.keep k3
          replace kk := kk.keep k3
          have hTA' : TA WR.heap.size w3 v3 (againT ⟨it, ps, rq⟩ (rq ++ cruelI c (j + 1))) := by rw [← HNX.out]; exact hTA
          obtain ⟨e0, e1, e2, cf⟩ := id b0
          have cf0 := cf 0
          have cf1 := cf 1
          have cf2 := cf 2
          clear cf
          obtain ⟨p1, p2, p3, r1, r2, r3, rfl, hTN⟩ := hTA'.put3i (b := w.heap.size) (by omega)
          have hit : (againT ⟨it, ps, rq⟩ (rq ++ cruelI c (j + 1))).items = it := rfl
          rw [hit] at hTN ⊢
          have b0N := ((b0.set0 (.int .i64 it)).set1 (.slice p1 p2 p3)).set2 (.slice r1 r2 r3)
          have b2N := ((b2.far ⟨w.heap.size, 0, none⟩ (.int .i64 it) (by simp <;> omega)).far ⟨w.heap.size, 1, none⟩ (.slice p1 p2 p3) (by simp <;> omega)).far ⟨w.heap.size, 2, none⟩ (.slice r1 r2 r3) (by simp <;> omega)
          have kN := kk.put3 (b := w.heap.size) (fun h => by omega) (.int .i64 it) (.slice p1 p2 p3) (.slice r1 r2 r3)
          have hlen : (againT ⟨it, ps, rq⟩ (rq ++ cruelI c (j + 1))).ps.length ≤ 1048576 := by simp only [againT]; rw [againP_len]; exact hlen
          have hTN2 := hTN.weak (base' := w.heap.size + 2) (by omega)
          have hRN := hTN2.rt hlen (A := No) (fun _ _ e => e)
          have HEND := Lib.hid (And.intro (And.intro hRN (fun _ : 0 < j + 1 => hTN2)) (And.intro b0N (And.intro b2N kN)))
          clear hTA hTA' hTN hTN2 hRN b0N b2N kN kk b0 b2 k3 hlen hit hRT o7 hsS
          go_wp2_with fail
          go_round
          case measure => simp [intOf]; omega
          case rel =>
            obtain ⟨⟨e1, e2⟩, e3, e4, e5⟩ := HEND.out
            exact ⟨j + 1, _, _, _, _, _, _, by omega, by go_num, ⟨e1, e2⟩, e3, e4, e5⟩
        · have hje : j = z := by omega
          subst hje
          have hTN := hPj.2 (by have := HZ1.out; omega)
          clear hPj
          obtain ⟨c0, c1, c2, _⟩ := id b0
          obtain ⟨e0, e1, e2, cf⟩ := id b2
          have cf0 := cf 0
          have cf1 := cf 1
          have cf2 := cf 2
          clear cf
          have hb2l := b2.lt
          obtain ⟨z0, z1, z2, _⟩ := ((b2.set0 (.int .i64 it)).set1 (.slice va n1 k1)).set2 (.slice rb n2 k2)
          have hTE := hTN.stepB (b := w.heap.size + 1) (by omega) (.int .i64 it) (.slice va n1 k1) (.slice rb n2 k2)
          have HKK := Lib.hid (kk.put3 (b := w.heap.size + 1) (fun h => by omega) (.int .i64 it) (.slice va n1 k1) (.slice rb n2 k2))
          have HTN := Lib.hid (hTE.weak (base' := w.heap.size) (by omega))
          clear hTN hTE kk b0 b2
          go_wp2_with fail
          exact bodyPost_ret (v := .tuple #[.agg #[.int .i64 it, .slice va n1 k1, .slice rb n2 k2], .bool true]) (by simp [results, Tryz.results97, go_sem, z0, z1, z2]) rfl ⟨_, _, rfl, by rw [HOT.out], by rw [HV.out, HOT.out]; exact HTN.out, HKK.out⟩
  · have hge : it ≤ sz := by omega
    have HO : Hid (ok = false) := Lib.hid (by rw [HO.out, decide_eq_false hlt]; rfl)
    clear hlt
    go_enter Tryz.func97, Tryz.ntmps97
    go_wp2_with fail
    refine wp_region_X C (by kernel_rfl) (by kernel_rfl) hC0 ?_
    clear hC0
    refine wpX_val (.agg #[.int .i64 it, .slice (some ⟨bb, off, none⟩) ps.length cap, .slice qa n qc]) rfl (by intro W hW; obtain ⟨c0, c1, c2, p2⟩ := HCELL.out W hW; go_simp) ?_
    simp only [Act.put, List.setIfInBounds_toArray, List.set_cons_zero, List.set_cons_succ]
    refine wpX_val (.int .i64 (x : Int)) rfl (by intro W hW; obtain ⟨c0, c1, c2, p2⟩ := HCELL.out W hW; go_simp) ?_
    simp only [Act.put, List.setIfInBounds_toArray, List.set_cons_zero, List.set_cons_succ]
    refine wpX_call (.bool true) (f := 67) (args := #[.agg #[.int .i64 it, .slice (some ⟨bb, off, none⟩) ps.length cap, .slice qa n qc], .int .i64 (x : Int)]) rfl (by intro W hW; obtain ⟨c0, c1, c2, p2⟩ := HCELL.out W hW; go_simp) (fun W hW => (isPlayer_any _ ⟨it, ps, rq⟩ (x : Int) W (h0.keep (HX.out W hW).2.2)).mono (by rintro e w' ⟨_, rfl, rfl, hk⟩; exact ⟨by rw [HH.out], HK.out _ _ hW hk⟩)) ?_
    simp only [Act.put, List.setIfInBounds_toArray, List.set_cons_zero, List.set_cons_succ]
    refine wpX_val (.bool false) rfl (by intro W hW; obtain ⟨c0, c1, c2, p2⟩ := HCELL.out W hW; go_simp) ?_
    simp only [Act.put, List.setIfInBounds_toArray, List.set_cons_zero, List.set_cons_succ]
    refine wpX_val (.bool false) rfl (by intro W hW; obtain ⟨c0, c1, c2, p2⟩ := HCELL.out W hW; go_simp) ?_
    simp only [Act.put, List.setIfInBounds_toArray, List.set_cons_zero, List.set_cons_succ]
    refine wpX_val (.pointer (some ⟨w.heap.size, 1, none⟩)) rfl (by intro W hW; obtain ⟨c0, c1, c2, p2⟩ := HCELL.out W hW; go_simp) ?_
    simp only [Act.put, List.setIfInBounds_toArray, List.set_cons_zero, List.set_cons_succ]
    refine wpX_val (.slice (some ⟨bb, off, none⟩) ps.length cap) rfl (by intro W hW; obtain ⟨c0, c1, c2, p2⟩ := HCELL.out W hW; go_simp) ?_
    simp only [Act.put, List.setIfInBounds_toArray, List.set_cons_zero, List.set_cons_succ]
    refine wpX_val (.int .i64 (x : Int)) rfl (by intro W hW; obtain ⟨c0, c1, c2, p2⟩ := HCELL.out W hW; go_simp) ?_
    simp only [Act.put, List.setIfInBounds_toArray, List.set_cons_zero, List.set_cons_succ]
    refine wpX_val (.pointer (some ⟨bb, off + x * 7, none⟩)) rfl (by intro W hW; obtain ⟨c0, c1, c2, p2⟩ := HCELL.out W hW; go_simp) ?_
    simp only [Act.put, List.setIfInBounds_toArray, List.set_cons_zero, List.set_cons_succ]
    refine wpX_val (.pointer (some ⟨bb, off + x * 7 + 1, none⟩)) rfl (by intro W hW; obtain ⟨c0, c1, c2, p2⟩ := HCELL.out W hW; go_simp) ?_
    simp only [Act.put, List.setIfInBounds_toArray, List.set_cons_zero, List.set_cons_succ]
    refine wpX_val (.pointer (some ⟨bb, off + x * 7 + 2, none⟩)) rfl (by intro W hW; obtain ⟨c0, c1, c2, p2⟩ := HCELL.out W hW; go_simp) ?_
    simp only [Act.put, List.setIfInBounds_toArray, List.set_cons_zero, List.set_cons_succ]
    refine wpX_val (.int .i64 sz) rfl (by intro W hW; obtain ⟨c0, c1, c2, p2⟩ := HCELL.out W hW; go_simp) ?_
    simp only [Act.put, List.setIfInBounds_toArray, List.set_cons_zero, List.set_cons_succ]
    refine wpX_val (.pointer (some ⟨w.heap.size, 0, none⟩)) rfl (by intro W hW; obtain ⟨c0, c1, c2, p2⟩ := HCELL.out W hW; go_simp) ?_
    simp only [Act.put, List.setIfInBounds_toArray, List.set_cons_zero, List.set_cons_succ]
    refine wpX_val (.int .i64 it) rfl (by intro W hW; obtain ⟨c0, c1, c2, p2⟩ := HCELL.out W hW; go_simp) ?_
    simp only [Act.put, List.setIfInBounds_toArray, List.set_cons_zero, List.set_cons_succ]
    refine wpX_val (.bool true) rfl (by intro W hW; obtain ⟨c0, c1, c2, p2⟩ := HCELL.out W hW; go_simp) ?_
    simp only [Act.put, List.setIfInBounds_toArray, List.set_cons_zero, List.set_cons_succ]
    refine wpX_val (.bool true) rfl (by intro W hW; obtain ⟨c0, c1, c2, p2⟩ := HCELL.out W hW; go_simp) ?_
    simp only [Act.put, List.setIfInBounds_toArray, List.set_cons_zero, List.set_cons_succ]
    repeat (first | (refine wpX_skip rfl ?_; simp only [Act.put, List.setIfInBounds_toArray, List.set_cons_zero, List.set_cons_succ]) | (refine wpX_val (.bool true) rfl (by intro W hW; go_simp) ?_; simp only [Act.put, List.setIfInBounds_toArray, List.set_cons_zero, List.set_cons_succ]))
    refine wpX_nil (fun W hW => ?_)
    obtain ⟨_, b2, kk⟩ := HX.out W hW
    obtain ⟨e0, e1, e2, cf⟩ := id b2
    have cf0 := cf 0
    have cf1 := cf 1
    have cf2 := cf 2
    clear cf
    have hb2l := b2.lt
    obtain ⟨z0, z1, z2, _⟩ := ((b2.set0 (.int .i64 0)).set1 (.slice none 0 0)).set2 (.slice none 0 0)
    have HKK := Lib.hid (kk.put3 (b := w.heap.size + 1) (fun h => by omega) (.int .i64 0) (.slice none 0 0) (.slice none 0 0))
    clear kk b2
    go_wp2_with fail
    exact bodyPost_ret (v := .tuple #[.agg #[.int .i64 0, .slice none 0 0, .slice none 0 0], .bool false]) (by simp [results, Tryz.results97, go_sem, z0, z1, z2]) rfl ⟨_, _, rfl, by rw [HO.out], by rw [HV.out, HO.out]; exact TA.zero _ _, HKK.out⟩
end Go.Proofs.YtccmocbkpanibaaGreat

/- slices.Grow of nil, slices.Concat -/
namespace Go.Proofs.YtccmocbkpanibaaGreat
open Go.RowKit

set_option maxRecDepth 100000 in
set_option maxHeartbeats 1000000 in
theorem GrowNil_any (n : Nat) (w : World) (hn : n ≤ 1048576) :
    Calls Tryz.prog 140 #[.slice none 0 0, .int .i64 (n : Int)] w (Ret fun r w' => OI w.heap.size w' r [] ∧ Chg No w w') := by
  have hn0 : (0 : Int) ≤ (n : Int) := Int.natCast_nonneg _
  have hw1 : IntKind.i64.wrap (n : Int) = (n : Int) := IntWalk.i64_in _ (by omega)
  by_cases hz : n = 0
  · subst hz
    go_enter Tryz.func140, Tryz.ntmps140
    go_wp2_with fail
    go_ret
    exact ⟨_, rfl, OI.nil _ _, Chg.refl _ _⟩
  · obtain ⟨i, hi, hz0, hz1, hz2⟩ := info_parts Tryz.infoInt
    have hpos : (0 : Int) < (n : Int) := by omega
    have hr := fun ty => Lib.run_append_nil_zeros (P := Tryz.prog) w 23 3 ty 3 i (.int .i64 0) .i64 .i64 Tryz.underlying23 Tryz.underlying3 hi hz0 n (by omega) (by rw [hz1]; omega) (by omega) (by rw [hz2]; omega)
    obtain ⟨C, hC⟩ : ∃ C, grownCap w n 0 3 = C := ⟨_, rfl⟩
    have hC1 := grownCap_ge w n 0 3
    have hC2 := grownCap_le_maxLen w n 0 3 (by unfold maxLen; omega)
    rw [hC] at hr hC1 hC2
    rw [zeros_int, zeros_int, Array.replicate_append_replicate, Nat.add_sub_of_le hC1] at hr
    have hO : OI w.heap.size (w.drew.alloc (.cells (Array.replicate C (Value.int .i64 0)) 3)) (.slice (some ⟨w.heap.size, 0, none⟩) 0 C) [] :=
      ⟨by simp, World.ownsRow_made w.drew (Array.replicate C (Value.int .i64 0)) C (Nat.le_refl _) hC2 (by simp)⟩
    have hK := (Chg.refl No w).drew.alloc (.cells (Array.replicate C (Value.int .i64 0)) 3)
    generalize w.drew.alloc (.cells (Array.replicate C (Value.int .i64 0)) 3) = W0 at hr hO hK
    have HO := Lib.hid hO
    have HK := Lib.hid hK
    unfold maxLen at hC2
    clear hO hK hz hC hz0 hz1 hz2
    go_enter Tryz.func140, Tryz.ntmps140
    go_wp2_with (at_builtin; refine Lib.wpList_append_run _ rfl (.tmp 20) (.tmp 21) _ _ rfl _ _ rfl rfl _ _ (hr _) ?_)
    go_wp2_with fail
    go_ret
    exact ⟨_, rfl, HO.out, HK.out⟩

theorem flat_succ (ll : List (List Int)) (k : Nat) (h : k < ll.length) : (ll.take (k + 1)).flatten = (ll.take k).flatten ++ ll.getD k [] := by
  rw [List.take_succ_eq_append_getElem h, List.flatten_append]
  simp [List.getD_eq_getElem?_getD, List.getElem?_eq_getElem h]
theorem tot_flat (ll : List (List Int)) : ll.flatten.length = tot ll := by
  induction ll with
  | nil => rfl
  | cons l ll ih => simp [tot, ih]
set_option maxRecDepth 100000 in
set_option maxHeartbeats 2000000 in
theorem Concat_any (v : Value) (ll : List (List Int)) (w : World) (h : RII No w v ll) (ht : tot ll ≤ 1048576) (hl : ll.length ≤ 1048576) :
    Calls Tryz.prog 100 #[v] w (Ret fun r w' => OI w.heap.size w' r ll.flatten ∧ Chg No w w') := by
  obtain ⟨_, vs, hvl, ⟨a, cap, rfl, hcap, hmax, hcl, _, hc⟩, hin⟩ := h
  have HI := Lib.hid hin
  have HV := Lib.hid hvl
  have HCL := Lib.hid hcl
  have HC := Lib.hid hc
  have HT := Lib.hid ht
  have hn0 : (0 : Int) ≤ (ll.length : Int) := Int.natCast_nonneg _
  clear hin hvl hcl hc ht
  go_enter Tryz.func100, Tryz.ntmps100
  go_wp2_with fail
  go_loopw [3, 11] (fun s z wr => ∃ k : Nat, k ≤ ll.length ∧ z = .int .i64 (k : Int) ∧ s = .int .i64 (tot (ll.take k) : Int) ∧ wr = w) (fun _ z _ => ll.length - (intOf z).toNat)
  case atStart => exact ⟨0, Nat.zero_le _, rfl, by simp [tot], rfl⟩
  case round =>
    obtain ⟨k, hk, rfl, rfl, rfl⟩ := hrel
    obtain ⟨m, hm⟩ : ∃ m, tot (ll.take k) = m := ⟨_, rfl⟩
    rw [hm]
    have hk0 : (0 : Int) ≤ (k : Int) := Int.natCast_nonneg _
    have hm0 : (0 : Int) ≤ (m : Int) := Int.natCast_nonneg _
    by_cases hlt : k < ll.length
    · obtain ⟨b, off, rfl, _, hb, hcell⟩ := HC.out (by omega)
      have hck := hcell k (by rw [HCL.out]; omega)
      have hin := HI.out k hlt
      have hs := tot_succ ll k hlt
      have hle := tot_take ll (k + 1)
      generalize vs.getD k undef = x at hck hin
      obtain ⟨xa, xn, xc, rfl⟩ := hin.shape
      have hxn := hin.n.1
      rw [hm, ← hxn] at hs
      have hsum : m + xn ≤ 1048576 := by have := HT.out; omega
      have HS := Lib.hid hs
      have hw1 : IntKind.i64.wrap ((k : Int) + 1) = (k : Int) + 1 := IntWalk.i64_in _ (by omega)
      have hw2 : IntKind.i64.wrap ((m : Int) + (xn : Int)) = (m : Int) + (xn : Int) := IntWalk.i64_in _ (by omega)
      have hk1 : (k : Int) < (ll.length : Int) := by omega
      have hnn : ¬ (m : Int) + (xn : Int) < 0 := by omega
      clear hcell hm hs hle hin hxn
      go_wp2_with fail
      go_round
      case measure => simp [intOf]; omega
      case rel => exact ⟨k + 1, by omega, by go_num, by rw [HS.out]; exact congrArg (Value.int .i64) (by omega), by first | rfl | trivial⟩
    · have hkl : k = ll.length := by omega
      subst hkl
      rw [List.take_length] at hm
      have hm1 : m ≤ 1048576 := by have := HT.out; omega
      clear hm
      go_wp2_with fail
      refine (GrowNil_any m wr hm1).mono ?_
      rintro e w1 ⟨v1, rfl, o1, k1⟩
      go_wp2_with fail
      go_loopw [6, 27] (fun o z wq => ∃ k : Nat, k ≤ ll.length ∧ z = .int .i64 (k : Int) ∧ OI wr.heap.size wq o (ll.take k).flatten ∧ Chg No wr wq) (fun _ z _ => ll.length - (intOf z).toNat)
      case atStart => exact ⟨0, Nat.zero_le _, rfl, by simpa using o1, k1⟩
      case round =>
        clear o1 k1
        obtain ⟨k, hk, rfl, ho, kk⟩ := hrel
        have hk0 : (0 : Int) ≤ (k : Int) := Int.natCast_nonneg _
        by_cases hlt : k < ll.length
        · obtain ⟨b, off, rfl, _, hb, hcell⟩ := HC.out (by omega)
          have hck := (kk.cellD b _ hb (fun e => e)).trans (hcell k (by rw [HCL.out]; omega))
          have hin := (HI.out k hlt).keep kk
          have hs := flat_succ ll k hlt
          have hle := tot_take ll (k + 1)
          have htf := tot_flat (ll.take (k + 1))
          rw [hs, List.length_append] at htf
          generalize vs.getD k undef = x at hck hin
          obtain ⟨xa, xn, xc, rfl⟩ := hin.shape
          obtain ⟨oa, on, oc, rfl⟩ := ho.shape
          have hsum : (ll.take k).flatten.length + (ll.getD k []).length ≤ 17592186044416 := by have := HT.out; omega
          obtain ⟨lk, hlk⟩ : ∃ lk, ll.getD k [] = lk := ⟨_, rfl⟩
          rw [hlk] at hs hin hsum
          have HS := Lib.hid hs
          have HIN := Lib.hid hin
          have hw1 : IntKind.i64.wrap ((k : Int) + 1) = (k : Int) + 1 := IntWalk.i64_in _ (by omega)
          have hk1 : (k : Int) < (ll.length : Int) := by omega
          have hsz := kk.size
          obtain ⟨L, hL⟩ : ∃ L, (ll.take k).flatten = L := ⟨_, rfl⟩
          rw [hL] at ho hsum HS
          have HO := Lib.hid ho
          clear hcell hs hle hin htf hL ho hlk
          go_wp2_with (at_builtin; refine wapp rfl (.tmp 31) (.tmp 32) rfl HO.out HIN.out rfl rfl hsum hsz ?_)
          intro v7 w7 h7 k7 f7
          have hk7 := kk.step k7 (fun q e hl => by have := (HO.out.lt q e).1; omega)
          have HEND := Lib.hid (And.intro h7 hk7)
          obtain ⟨na, nn, nc, rfl⟩ := h7.shape
          clear h7 hk7 k7 f7 kk
          go_wp2_with fail
          go_round
          case measure => simp [intOf]; omega
          case rel => exact ⟨k + 1, by omega, by go_num, by rw [HS.out]; exact HEND.out.1, HEND.out.2⟩
        · have hkl : k = ll.length := by omega
          subst hkl
          rw [List.take_length] at ho
          obtain ⟨oa, on, oc, rfl⟩ := ho.shape
          go_wp2_with fail
          go_ret
          exact ⟨_, rfl, ho, kk⟩
end Go.Proofs.YtccmocbkpanibaaGreat

/- a step (program) -/
namespace Go.Proofs.YtccmocbkpanibaaGreat
open Go.RowKit

noncomputable def resT (t : To) (k a b : Int) : To := if okStep t k a b then stepT t k a b else zeroT
theorem resT_no {t : To} {k a b : Int} (h : okStep t k a b = false) : resT t k a b = zeroT := by unfold resT; rw [h]; rfl
theorem resT_yes {t : To} {k a b : Int} (h : okStep t k a b = true) : resT t k a b = stepT t k a b := by unfold resT; rw [h]; rfl
set_option maxRecDepth 100000 in
set_option maxHeartbeats 4000000 in
theorem step1_any (v : Value) (t : To) (a b : Int) (w : World) (h : RT No w v t) (ht : tourB t = true) (ok : Bool) (hO : okJoin t a b = ok) (tv : To) (hV : (if okJoin t a b then joinT t a b else zeroT) = tv) :
    Calls Tryz.prog 48 #[v, stV 1 a b] w (Ret2 fun v0 v1 w' => v1 = .bool ok ∧ TA w.heap.size w' v0 tv ∧ Chg No w w') := by
  obtain ⟨k, hk⟩ : ∃ k : Int, k = 1 := ⟨_, rfl⟩
  rw [← hk]
  have HO := Lib.hid hO
  have HV := Lib.hid hV
  clear hO hV
  obtain ⟨hl1, hl2, hl3, hl4⟩ := tour_len ht
  have h0 := h
  have HT := Lib.hid ht
  obtain ⟨it, ps, rq⟩ := t
  obtain ⟨pv, qv, rfl, hps, hrq⟩ := h
  simp only at hps hrq hl1 hl2 hl3 hl4
  obtain ⟨qa, qc, rfl, _⟩ := id hrq
  obtain ⟨pa, cap, rfl, hcap, hmax, hlen, pf, mf, hl, hcl⟩ := id hps
  obtain ⟨n, hn⟩ : ∃ n, rq.length = n := ⟨_, rfl⟩
  have hW0 := boxes33 (w := w) (t := 31) (t' := 35) (t'' := 31) (x0 := .int .i64 it) (x1 := .slice pa ps.length cap) (x2 := .slice qa n qc) (y0 := .int .i64 k) (y1 := .int .i64 a) (y2 := .int .i64 b) (z0 := .int .i64 0) (z1 := .slice none 0 0) (z2 := .slice none 0 0)
    (R := fun W => Chg No w W ∧ Box3 W w.heap.size (.int .i64 it) (.slice pa ps.length cap) (.slice qa n qc) ∧ Box3 W (w.heap.size + 1) (.int .i64 k) (.int .i64 a) (.int .i64 b) ∧ Box3 W (w.heap.size + 1 + 1) (.int .i64 0) (.slice none 0 0) (.slice none 0 0)) (fun W k b0 b1 b2 => ⟨k, b0, b1, b2⟩)
  obtain ⟨kk, b0, b1, b2⟩ := hW0
  have hn0 : (0 : Int) ≤ (n : Int) := Int.natCast_nonneg _
  rw [hn] at h0 hl2 hrq ⊢
  have HN := Lib.hid hn
  obtain ⟨c0, c1, c2, _⟩ := id b0
  obtain ⟨d0, d1, d2, _⟩ := id b1
  clear hl hcl hps ht hn
  subst hk
  unfold stV
  have HSV := Lib.hid (sv_of HT.out)
  go_enter Tryz.func48, Tryz.ntmps48
  go_wp2_with fail
  refine (join_any _ _ a b _ (h0.keep kk) HSV.out).mono ?_
  rintro e w3 ⟨v3, v4, rfl, rfl, hTA, k3⟩
  rw [HV.out] at hTA
  rw [HO.out]
  clear c0 c1 c2 d0 d1 d2
  have hs0 := b2.lt
  replace b2 := b2.keep k3
  replace kk := kk.keep k3
  obtain ⟨e0, e1, e2, cf⟩ := id b2
  have cf0 := cf 0
  have cf1 := cf 1
  have cf2 := cf 2
  clear cf
  have hb2l := b2.lt
  obtain ⟨iN, p1, p2, p3, r1, r2, r3, rfl, hTN⟩ := hTA.put3 (b := w.heap.size + 1 + 1) (by omega)
  obtain ⟨z0, z1, z2, _⟩ := ((b2.set0 (.int .i64 iN)).set1 (.slice p1 p2 p3)).set2 (.slice r1 r2 r3)
  have HK := Lib.hid (kk.put3 (b := w.heap.size + 1 + 1) (fun h => by omega) (.int .i64 iN) (.slice p1 p2 p3) (.slice r1 r2 r3))
  have HTN := Lib.hid (hTN.weak (base' := w.heap.size) (by omega))
  clear hTA hTN kk b2
  go_wp2_with fail
  exact bodyPost_ret (v := .tuple #[.agg #[.int .i64 iN, .slice p1 p2 p3, .slice r1 r2 r3], .bool ok]) (by simp [results, Tryz.results48, go_sem, z0, z1, z2]) rfl ⟨_, _, rfl, rfl, HTN.out, HK.out⟩
set_option maxRecDepth 100000 in
set_option maxHeartbeats 4000000 in
theorem step6_any (v : Value) (t : To) (a b : Int) (w : World) (h : RT No w v t) (ht : tourB t = true) (ok : Bool) (hO : okCr t a b = ok) (tv : To) (hV : crV t a b = tv) :
    Calls Tryz.prog 48 #[v, stV 6 a b] w (Ret2 fun v0 v1 w' => v1 = .bool ok ∧ TA w.heap.size w' v0 tv ∧ Chg No w w') := by
  obtain ⟨k, hk⟩ : ∃ k : Int, k = 6 := ⟨_, rfl⟩
  rw [← hk]
  have HO := Lib.hid hO
  have HV := Lib.hid hV
  clear hO hV
  obtain ⟨hl1, hl2, hl3, hl4⟩ := tour_len ht
  have h0 := h
  have HT := Lib.hid ht
  obtain ⟨it, ps, rq⟩ := t
  obtain ⟨pv, qv, rfl, hps, hrq⟩ := h
  simp only at hps hrq hl1 hl2 hl3 hl4
  obtain ⟨qa, qc, rfl, _⟩ := id hrq
  obtain ⟨pa, cap, rfl, hcap, hmax, hlen, pf, mf, hl, hcl⟩ := id hps
  obtain ⟨n, hn⟩ : ∃ n, rq.length = n := ⟨_, rfl⟩
  have hW0 := boxes33 (w := w) (t := 31) (t' := 35) (t'' := 31) (x0 := .int .i64 it) (x1 := .slice pa ps.length cap) (x2 := .slice qa n qc) (y0 := .int .i64 k) (y1 := .int .i64 a) (y2 := .int .i64 b) (z0 := .int .i64 0) (z1 := .slice none 0 0) (z2 := .slice none 0 0)
    (R := fun W => Chg No w W ∧ Box3 W w.heap.size (.int .i64 it) (.slice pa ps.length cap) (.slice qa n qc) ∧ Box3 W (w.heap.size + 1) (.int .i64 k) (.int .i64 a) (.int .i64 b) ∧ Box3 W (w.heap.size + 1 + 1) (.int .i64 0) (.slice none 0 0) (.slice none 0 0)) (fun W k b0 b1 b2 => ⟨k, b0, b1, b2⟩)
  obtain ⟨kk, b0, b1, b2⟩ := hW0
  have hn0 : (0 : Int) ≤ (n : Int) := Int.natCast_nonneg _
  rw [hn] at h0 hl2 hrq ⊢
  have HN := Lib.hid hn
  obtain ⟨c0, c1, c2, _⟩ := id b0
  obtain ⟨d0, d1, d2, _⟩ := id b1
  clear hl hcl hps ht hn
  subst hk
  unfold stV
  go_enter Tryz.func48, Tryz.ntmps48
  go_wp2_with fail
  have hR := h0.keep kk
  have hC : ∀ ww, RT No ww _ ⟨it, ps, rq⟩ → Calls Tryz.prog 97 #[.agg #[.int .i64 it, .slice pa ps.length cap, .slice qa n qc], .int .i64 a, .int .i64 b] ww (Ret2 fun v0 v1 w' => v1 = .bool (okCr ⟨it, ps, rq⟩ a b) ∧ TA ww.heap.size w' v0 (crV ⟨it, ps, rq⟩ a b) ∧ Chg No ww w') := fun ww hw => by
    cases hh : hasP ⟨it, ps, rq⟩ a
    · exact cruelly0_any _ ⟨it, ps, rq⟩ a b ww hw HT.out hh
    · exact cruelly1_any _ ⟨it, ps, rq⟩ a b ww hw HT.out hh
  refine (hC _ hR).mono ?_
  rintro e w3 ⟨v3, v4, rfl, rfl, hTA, k3⟩
  clear hC hR
  rw [HV.out] at hTA
  rw [HO.out]
  clear c0 c1 c2 d0 d1 d2
  have hs0 := b2.lt
  replace b2 := b2.keep k3
  replace kk := kk.keep k3
  obtain ⟨e0, e1, e2, cf⟩ := id b2
  have cf0 := cf 0
  have cf1 := cf 1
  have cf2 := cf 2
  clear cf
  have hb2l := b2.lt
  obtain ⟨iN, p1, p2, p3, r1, r2, r3, rfl, hTN⟩ := hTA.put3 (b := w.heap.size + 1 + 1) (by omega)
  obtain ⟨z0, z1, z2, _⟩ := ((b2.set0 (.int .i64 iN)).set1 (.slice p1 p2 p3)).set2 (.slice r1 r2 r3)
  have HK := Lib.hid (kk.put3 (b := w.heap.size + 1 + 1) (fun h => by omega) (.int .i64 iN) (.slice p1 p2 p3) (.slice r1 r2 r3))
  have HTN := Lib.hid (hTN.weak (base' := w.heap.size) (by omega))
  clear hTA hTN kk b2
  go_wp2_with fail
  exact bodyPost_ret (v := .tuple #[.agg #[.int .i64 iN, .slice p1 p2 p3, .slice r1 r2 r3], .bool ok]) (by simp [results, Tryz.results48, go_sem, z0, z1, z2]) rfl ⟨_, _, rfl, rfl, HTN.out, HK.out⟩
set_option maxRecDepth 100000 in
set_option maxHeartbeats 4000000 in
theorem stepB_any (v : Value) (t : To) (k a b : Int) (w : World) (h : RT No w v t) (ht : tourB t = true) (e1 : ¬ k = 1) (e6 : ¬ k = 6) (hb : ¬ b = 0) :
    Calls Tryz.prog 48 #[v, stV k a b] w (Ret2 fun v0 v1 w' => v1 = .bool false ∧ TA w.heap.size w' v0 zeroT ∧ Chg No w w') := by
  obtain ⟨hl1, hl2, hl3, hl4⟩ := tour_len ht
  have h0 := h
  have HT := Lib.hid ht
  obtain ⟨it, ps, rq⟩ := t
  obtain ⟨pv, qv, rfl, hps, hrq⟩ := h
  simp only at hps hrq hl1 hl2 hl3 hl4
  obtain ⟨qa, qc, rfl, _⟩ := id hrq
  obtain ⟨pa, cap, rfl, hcap, hmax, hlen, pf, mf, hl, hcl⟩ := id hps
  obtain ⟨n, hn⟩ : ∃ n, rq.length = n := ⟨_, rfl⟩
  have hW0 := boxes33 (w := w) (t := 31) (t' := 35) (t'' := 31) (x0 := .int .i64 it) (x1 := .slice pa ps.length cap) (x2 := .slice qa n qc) (y0 := .int .i64 k) (y1 := .int .i64 a) (y2 := .int .i64 b) (z0 := .int .i64 0) (z1 := .slice none 0 0) (z2 := .slice none 0 0)
    (R := fun W => Chg No w W ∧ Box3 W w.heap.size (.int .i64 it) (.slice pa ps.length cap) (.slice qa n qc) ∧ Box3 W (w.heap.size + 1) (.int .i64 k) (.int .i64 a) (.int .i64 b) ∧ Box3 W (w.heap.size + 1 + 1) (.int .i64 0) (.slice none 0 0) (.slice none 0 0)) (fun W k b0 b1 b2 => ⟨k, b0, b1, b2⟩)
  obtain ⟨kk, b0, b1, b2⟩ := hW0
  have hn0 : (0 : Int) ≤ (n : Int) := Int.natCast_nonneg _
  rw [hn] at h0 hl2 hrq ⊢
  have HN := Lib.hid hn
  obtain ⟨c0, c1, c2, _⟩ := id b0
  obtain ⟨d0, d1, d2, _⟩ := id b1
  clear hl hcl hps ht hn
  unfold stV
  go_enter Tryz.func48, Tryz.ntmps48
  go_wp2_with fail
  obtain ⟨z0, z1, z2, _⟩ := id b2
  exact bodyPost_ret (v := .tuple #[.agg #[.int .i64 0, .slice none 0 0, .slice none 0 0], .bool false]) (by simp [results, Tryz.results48, go_sem, z0, z1, z2]) rfl ⟨_, _, rfl, rfl, TA.zero _ _, kk⟩
set_option maxRecDepth 100000 in
set_option maxHeartbeats 4000000 in
theorem step2f_any (v : Value) (t : To) (a : Int) (w : World) (h : RT No w v t) (ht : tourB t = true) (hc : (inB a 0 (t.items - 1) && decide (t.reqs.length < 60)) = false) :
    Calls Tryz.prog 48 #[v, stV 2 a 0] w (Ret2 fun v0 v1 w' => v1 = .bool false ∧ TA w.heap.size w' v0 zeroT ∧ Chg No w w') := by
  obtain ⟨k, hk⟩ : ∃ k : Int, k = 2 := ⟨_, rfl⟩
  obtain ⟨b, hb⟩ : ∃ b : Int, b = 0 := ⟨_, rfl⟩
  rw [← hk, ← hb]
  have HC := Lib.hid hc
  clear hc
  obtain ⟨hl1, hl2, hl3, hl4⟩ := tour_len ht
  have h0 := h
  have HT := Lib.hid ht
  obtain ⟨it, ps, rq⟩ := t
  obtain ⟨pv, qv, rfl, hps, hrq⟩ := h
  simp only at hps hrq hl1 hl2 hl3 hl4
  obtain ⟨qa, qc, rfl, _⟩ := id hrq
  obtain ⟨pa, cap, rfl, hcap, hmax, hlen, pf, mf, hl, hcl⟩ := id hps
  obtain ⟨n, hn⟩ : ∃ n, rq.length = n := ⟨_, rfl⟩
  have hW0 := boxes33 (w := w) (t := 31) (t' := 35) (t'' := 31) (x0 := .int .i64 it) (x1 := .slice pa ps.length cap) (x2 := .slice qa n qc) (y0 := .int .i64 k) (y1 := .int .i64 a) (y2 := .int .i64 b) (z0 := .int .i64 0) (z1 := .slice none 0 0) (z2 := .slice none 0 0)
    (R := fun W => Chg No w W ∧ Box3 W w.heap.size (.int .i64 it) (.slice pa ps.length cap) (.slice qa n qc) ∧ Box3 W (w.heap.size + 1) (.int .i64 k) (.int .i64 a) (.int .i64 b) ∧ Box3 W (w.heap.size + 1 + 1) (.int .i64 0) (.slice none 0 0) (.slice none 0 0)) (fun W k b0 b1 b2 => ⟨k, b0, b1, b2⟩)
  obtain ⟨kk, b0, b1, b2⟩ := hW0
  have hn0 : (0 : Int) ≤ (n : Int) := Int.natCast_nonneg _
  rw [hn] at h0 hl2 hrq ⊢
  have HN := Lib.hid hn
  obtain ⟨c0, c1, c2, _⟩ := id b0
  obtain ⟨d0, d1, d2, _⟩ := id b1
  clear hl hcl hps ht hn
  subst hk
  subst hb
  have hw1 : IntKind.i64.wrap (it - 1) = it - 1 := IntWalk.i64_in _ (by omega)
  unfold stV
  have hC := HC.out
  simp only at hC
  rw [HN.out] at hC
  cases hi : inB a 0 (it - 1)
  · have HI := Lib.hid hi
    clear hi hC
    go_enter Tryz.func48, Tryz.ntmps48
    go_wp2_with fail
    refine (within_any _ _ _ _).mono ?_
    rintro e w1 ⟨rfl, rfl⟩
    rw [HI.out]
    go_wp2_with fail
    obtain ⟨z0, z1, z2, _⟩ := id b2
    exact bodyPost_ret (v := .tuple #[.agg #[.int .i64 0, .slice none 0 0, .slice none 0 0], .bool false]) (by simp [results, Tryz.results48, go_sem, z0, z1, z2]) rfl ⟨_, _, rfl, rfl, TA.zero _ _, kk⟩
  · have HI := Lib.hid hi
    rw [hi, Bool.true_and] at hC
    have hn6 : ¬ (n : Int) < 60 := by have := of_decide_eq_false hC; omega
    clear hi hC
    go_enter Tryz.func48, Tryz.ntmps48
    go_wp2_with fail
    refine (within_any _ _ _ _).mono ?_
    rintro e w1 ⟨rfl, rfl⟩
    rw [HI.out]
    go_wp2_with fail
    obtain ⟨z0, z1, z2, _⟩ := id b2
    exact bodyPost_ret (v := .tuple #[.agg #[.int .i64 0, .slice none 0 0, .slice none 0 0], .bool false]) (by simp [results, Tryz.results48, go_sem, z0, z1, z2]) rfl ⟨_, _, rfl, rfl, TA.zero _ _, kk⟩
end Go.Proofs.YtccmocbkpanibaaGreat

/- a step (program): more requests -/
namespace Go.Proofs.YtccmocbkpanibaaGreat
open Go.RowKit

set_option maxRecDepth 100000 in
set_option maxHeartbeats 4000000 in
theorem step2t_any (v : Value) (t : To) (a : Int) (w : World) (h : RT No w v t) (ht : tourB t = true) (hc : (inB a 0 (t.items - 1) && decide (t.reqs.length < 60)) = true) :
    Calls Tryz.prog 48 #[v, stV 2 a 0] w (Ret2 fun v0 v1 w' => v1 = .bool true ∧ TA w.heap.size w' v0 (againT t (t.reqs ++ [a])) ∧ Chg No w w') := by
  obtain ⟨k, hk⟩ : ∃ k : Int, k = 2 := ⟨_, rfl⟩
  obtain ⟨b, hb⟩ : ∃ b : Int, b = 0 := ⟨_, rfl⟩
  rw [← hk, ← hb]
  have HSV := Lib.hid (Sv.again ht (l := t.reqs ++ [a]) (fun i hi => by have := (tour_at ht hi).1.2; rw [List.length_append]; omega))
  have HC := Lib.hid hc
  clear hc
  obtain ⟨hl1, hl2, hl3, hl4⟩ := tour_len ht
  have h0 := h
  have HT := Lib.hid ht
  obtain ⟨it, ps, rq⟩ := t
  obtain ⟨pv, qv, rfl, hps, hrq⟩ := h
  simp only at hps hrq hl1 hl2 hl3 hl4
  obtain ⟨qa, qc, rfl, _⟩ := id hrq
  obtain ⟨pa, cap, rfl, hcap, hmax, hlen, pf, mf, hl, hcl⟩ := id hps
  obtain ⟨n, hn⟩ : ∃ n, rq.length = n := ⟨_, rfl⟩
  have hW0 := boxes33 (w := w) (t := 31) (t' := 35) (t'' := 31) (x0 := .int .i64 it) (x1 := .slice pa ps.length cap) (x2 := .slice qa n qc) (y0 := .int .i64 k) (y1 := .int .i64 a) (y2 := .int .i64 b) (z0 := .int .i64 0) (z1 := .slice none 0 0) (z2 := .slice none 0 0)
    (R := fun W => Chg No w W ∧ Box3 W w.heap.size (.int .i64 it) (.slice pa ps.length cap) (.slice qa n qc) ∧ Box3 W (w.heap.size + 1) (.int .i64 k) (.int .i64 a) (.int .i64 b) ∧ Box3 W (w.heap.size + 1 + 1) (.int .i64 0) (.slice none 0 0) (.slice none 0 0)) (fun W k b0 b1 b2 => ⟨k, b0, b1, b2⟩)
  obtain ⟨kk, b0, b1, b2⟩ := hW0
  have hn0 : (0 : Int) ≤ (n : Int) := Int.natCast_nonneg _
  rw [hn] at h0 hl2 hrq ⊢
  have HN := Lib.hid hn
  obtain ⟨c0, c1, c2, _⟩ := id b0
  obtain ⟨d0, d1, d2, _⟩ := id b1
  clear hl hcl hps ht hn
  subst hk
  subst hb
  have hw1 : IntKind.i64.wrap (it - 1) = it - 1 := IntWalk.i64_in _ (by omega)
  unfold stV
  have hC := HC.out
  simp only at hC
  rw [HN.out] at hC
  simp only [Bool.and_eq_true, decide_eq_true_eq] at hC
  have HI := Lib.hid hC.1
  have hn6 : (n : Int) < 60 := by omega
  clear hC
  go_enter Tryz.func48, Tryz.ntmps48
  go_wp2_with fail
  refine (within_any _ _ _ _).mono ?_
  rintro e w1 ⟨rfl, rfl⟩
  rw [HI.out]
  go_wp2_with fail
  generalize hWW : ((w.alloc _).alloc _).alloc _ = W1
  rw [hWW] at kk b0 b1 b2
  clear c0 c1 c2 d0 d1 d2 hWW
  refine wp_region_K (S := fun W => W.cell? ⟨w.heap.size, 0, none⟩ = some (.int .i64 it) ∧ W.cell? ⟨w.heap.size, 1, none⟩ = some (.slice pa ps.length cap) ∧ W.cell? ⟨w.heap.size, 2, none⟩ = some (.slice qa n qc) ∧ W.cell? ⟨w.heap.size + 1, 1, none⟩ = some (.int .i64 a) ∧ W.cell? ⟨w.heap.size + 1, 2, none⟩ = some (.int .i64 0)) (k := 9) (by kernel_rfl) ?_
  replace kk := kk.keep (drewN0 _)
  replace b0 := b0.keep (drewN0 _)
  replace b1 := b1.keep (drewN0 _)
  replace b2 := b2.keep (drewN0 _)
  generalize W1.drew = WR at kk b0 b1 b2 ⊢
  have hS : WR.cell? ⟨w.heap.size, 0, none⟩ = some (.int .i64 it) ∧ WR.cell? ⟨w.heap.size, 1, none⟩ = some (.slice pa ps.length cap) ∧ WR.cell? ⟨w.heap.size, 2, none⟩ = some (.slice qa n qc) ∧ WR.cell? ⟨w.heap.size + 1, 1, none⟩ = some (.int .i64 a) ∧ WR.cell? ⟨w.heap.size + 1, 2, none⟩ = some (.int .i64 0) := ⟨b0.c0, b0.c1, b0.c2, b1.c1, b1.c2⟩
  refine wpAnyK_takeT 0 (.agg #[.int .i64 it, .slice pa ps.length cap, .slice qa n qc]) rfl (by kernel_rfl) (fun _ _ _ h => h) hS rfl (by intro w hSw; go_simp) ?_
  simp only [List.getElem_toArray, List.getElem_cons_zero, Act.put, List.setIfInBounds_toArray, List.set_cons_zero, List.set_cons_succ]
  refine wpAnyK_take0 1 (.pointer (some ⟨w.heap.size, 2, none⟩)) rfl (by kernel_rfl) (fun _ _ _ h => h) hS rfl (by intro w; go_simp) ?_
  simp only [List.getElem_toArray, List.getElem_cons_succ, List.getElem_cons_zero, Act.put, List.setIfInBounds_toArray, List.set_cons_zero, List.set_cons_succ]
  refine wpAnyK_takeT 2 (.slice qa n qc) rfl (by kernel_rfl) (fun _ _ _ h => h) hS rfl (by intro w hSw; go_simp) ?_
  simp only [List.getElem_toArray, List.getElem_cons_succ, List.getElem_cons_zero, Act.put, List.setIfInBounds_toArray, List.set_cons_zero, List.set_cons_succ]
  refine wpAnyK_take0 4 (.pointer (some ⟨w.heap.size + 1, 1, none⟩)) rfl (by kernel_rfl) (fun _ _ _ h => h) hS rfl (by intro w; go_simp) ?_
  simp only [List.getElem_toArray, List.getElem_cons_succ, List.getElem_cons_zero, Act.put, List.setIfInBounds_toArray, List.set_cons_zero, List.set_cons_succ]
  refine wpAnyK_takeT 5 (.int .i64 a) rfl (by kernel_rfl) (fun _ _ _ h => h) hS rfl (by intro w hSw; go_simp) ?_
  simp only [List.getElem_toArray, List.getElem_cons_succ, List.getElem_cons_zero, Act.put, List.setIfInBounds_toArray, List.set_cons_zero, List.set_cons_succ]
  refine wpAnyK_2 3 6 (by kernel_rfl) (wpOpK' rfl rfl ?_) (wpOpK' rfl rfl ?_)
  · skip
    intro K hK
    refine ocall (f := 98) (args := #[.slice qa n qc]) (by go_simp) (Clone_any No _ rq WR (hrq.keep kk)) (fun v1 WQ h1 => hK.out _ _ ⟨(b0.keep h1.2).c0, (b0.keep h1.2).c1, (b0.keep h1.2).c2, (b1.keep h1.2).c1, (b1.keep h1.2).c2⟩ ?_)
    obtain ⟨o1, kx⟩ := h1
    clear hK K
    try clear hS
    simp only [List.getElem_toArray, List.getElem_cons_succ, List.getElem_cons_zero, Act.put, List.setIfInBounds_toArray, List.set_cons_zero, List.set_cons_succ]
    have hb := b2.lt
    obtain ⟨za, zn, zc, rfl⟩ := o1.shape
    replace o1 := o1.weak (base' := w.heap.size + 3) (by omega)
    try replace hg := (kx.cellD g 0 (World.block_lt_of_cell? WR _ hg) (fun e => e)).trans hg
    replace kk := kk.keep kx
    replace b0 := b0.keep kx
    replace b1 := b1.keep kx
    replace b2 := b2.keep kx
    clear kx hb
    generalize WQ = WR at *
    refine wpAnyK_1 6 (by kernel_rfl) (wpOpK' rfl rfl ?_)
    intro K hK
    refine obuild (.tmp 61) a rfl rfl (fun g WQ kx hg hge => hK.out _ _ ⟨(b0.keep kx).c0, (b0.keep kx).c1, (b0.keep kx).c2, (b1.keep kx).c1, (b1.keep kx).c2⟩ ?_)
    clear hK K
    simp only [List.getElem_toArray, List.getElem_cons_succ, List.getElem_cons_zero, Act.put, List.setIfInBounds_toArray, List.set_cons_zero, List.set_cons_succ]
    try replace o1 := o1.keep kx
    replace kk := kk.keep kx
    replace b0 := b0.keep kx
    replace b1 := b1.keep kx
    replace b2 := b2.keep kx
    clear kx hge
    try clear hS
    generalize WQ = WR at *
    refine wpAnyK_1 7 (by kernel_rfl) (wpOpK' rfl rfl ?_)
    intro K hK
    have hne : ∀ q, own (.slice za zn zc) q → w.heap.size + 3 ≤ q := fun q hq => (o1.lt q hq).1
    refine oapp (.tmp 59) (.tmp 62) rfl o1 (RI.one (A := No) (n := a) hg (Nat.le_refl 1) (by omega) (fun e => e)) rfl rfl (by have := HN.out; simp; omega) (by have := b2.lt; omega) (fun v7 WQ o7 kx fx => hK.out _ _ ⟨(b0.step kx (fun e => by have := hne _ e; omega)).c0, (b0.step kx (fun e => by have := hne _ e; omega)).c1, (b0.step kx (fun e => by have := hne _ e; omega)).c2, (b1.step kx (fun e => by have := hne _ e; omega)).c1, (b1.step kx (fun e => by have := hne _ e; omega)).c2⟩ ?_)
    clear hK K
    simp only [List.getElem_toArray, List.getElem_cons_succ, List.getElem_cons_zero, Act.put, List.setIfInBounds_toArray, List.set_cons_zero, List.set_cons_succ]
    replace kk := kk.step kx (fun q e hl => by have := hne q e; omega)
    replace b0 := b0.step kx (fun e => by have := hne _ e; omega)
    replace b1 := b1.step kx (fun e => by have := hne _ e; omega)
    replace b2 := b2.step kx (fun e => by have := hne _ e; omega)
    clear kx fx o1 hne
    obtain ⟨ya, yn, yc, rfl⟩ := o7.shape
    generalize WQ = WR at *
    refine wpAnyK_1 8 (by kernel_rfl) (wpOpK' rfl rfl ?_)
    intro K hK
    refine ocall (f := 56) (args := #[.agg #[.int .i64 it, .slice pa ps.length cap, .slice qa n qc], .slice ya yn yc]) (by go_simp) (again_any _ _ ⟨it, ps, rq⟩ _ WR (h0.keep kk) o7.readNo HSV.out) (fun v3 w3 h3 => hK.out _ _ ⟨(b0.keep h3.2).c0, (b0.keep h3.2).c1, (b0.keep h3.2).c2, (b1.keep h3.2).c1, (b1.keep h3.2).c2⟩ ?_)
    obtain ⟨hTA, k3⟩ := h3
    clear hK K
    simp only [List.getElem_toArray, List.getElem_cons_succ, List.getElem_cons_zero, Act.put, List.setIfInBounds_toArray, List.set_cons_zero, List.set_cons_succ]
    refine wpAnyK_tail 9 rfl (by kernel_rfl) ?_
    simp only [List.drop_succ_cons, List.drop_zero]
    have hs0 := b2.lt
    replace b2 := b2.keep k3
    replace kk := kk.keep k3
    clear b0 b1
    obtain ⟨e0, e1, e2, cf⟩ := id b2
    have cf0 := cf 0
    have cf1 := cf 1
    have cf2 := cf 2
    clear cf
    have hb2l := b2.lt
    obtain ⟨iN, p1, p2, p3, r1, r2, r3, rfl, hTN⟩ := hTA.put3 (b := w.heap.size + 1 + 1) (by omega)
    obtain ⟨z0, z1, z2, _⟩ := ((b2.set0 (.int .i64 iN)).set1 (.slice p1 p2 p3)).set2 (.slice r1 r2 r3)
    have HK := Lib.hid (kk.put3 (b := w.heap.size + 1 + 1) (fun h => by omega) (.int .i64 iN) (.slice p1 p2 p3) (.slice r1 r2 r3))
    have HTN := Lib.hid (hTN.weak (base' := w.heap.size) (by omega))
    clear hTA hTN kk b2
    go_wp2_with fail
    exact bodyPost_ret (v := .tuple #[.agg #[.int .i64 iN, .slice p1 p2 p3, .slice r1 r2 r3], .bool true]) (by simp [results, Tryz.results48, go_sem, z0, z1, z2]) rfl ⟨_, _, rfl, rfl, HTN.out, HK.out⟩
  · skip
    intro K hK
    refine obuild (.tmp 61) a rfl rfl (fun g WQ kx hg hge => hK.out _ _ ⟨(b0.keep kx).c0, (b0.keep kx).c1, (b0.keep kx).c2, (b1.keep kx).c1, (b1.keep kx).c2⟩ ?_)
    clear hK K
    simp only [List.getElem_toArray, List.getElem_cons_succ, List.getElem_cons_zero, Act.put, List.setIfInBounds_toArray, List.set_cons_zero, List.set_cons_succ]
    try replace o1 := o1.keep kx
    replace kk := kk.keep kx
    replace b0 := b0.keep kx
    replace b1 := b1.keep kx
    replace b2 := b2.keep kx
    clear kx hge
    try clear hS
    generalize WQ = WR at *
    refine wpAnyK_1 3 (by kernel_rfl) (wpOpK' rfl rfl ?_)
    intro K hK
    refine ocall (f := 98) (args := #[.slice qa n qc]) (by go_simp) (Clone_any No _ rq WR (hrq.keep kk)) (fun v1 WQ h1 => hK.out _ _ ⟨(b0.keep h1.2).c0, (b0.keep h1.2).c1, (b0.keep h1.2).c2, (b1.keep h1.2).c1, (b1.keep h1.2).c2⟩ ?_)
    obtain ⟨o1, kx⟩ := h1
    clear hK K
    try clear hS
    simp only [List.getElem_toArray, List.getElem_cons_succ, List.getElem_cons_zero, Act.put, List.setIfInBounds_toArray, List.set_cons_zero, List.set_cons_succ]
    have hb := b2.lt
    obtain ⟨za, zn, zc, rfl⟩ := o1.shape
    replace o1 := o1.weak (base' := w.heap.size + 3) (by omega)
    try replace hg := (kx.cellD g 0 (World.block_lt_of_cell? WR _ hg) (fun e => e)).trans hg
    replace kk := kk.keep kx
    replace b0 := b0.keep kx
    replace b1 := b1.keep kx
    replace b2 := b2.keep kx
    clear kx hb
    generalize WQ = WR at *
    refine wpAnyK_1 7 (by kernel_rfl) (wpOpK' rfl rfl ?_)
    intro K hK
    have hne : ∀ q, own (.slice za zn zc) q → w.heap.size + 3 ≤ q := fun q hq => (o1.lt q hq).1
    refine oapp (.tmp 59) (.tmp 62) rfl o1 (RI.one (A := No) (n := a) hg (Nat.le_refl 1) (by omega) (fun e => e)) rfl rfl (by have := HN.out; simp; omega) (by have := b2.lt; omega) (fun v7 WQ o7 kx fx => hK.out _ _ ⟨(b0.step kx (fun e => by have := hne _ e; omega)).c0, (b0.step kx (fun e => by have := hne _ e; omega)).c1, (b0.step kx (fun e => by have := hne _ e; omega)).c2, (b1.step kx (fun e => by have := hne _ e; omega)).c1, (b1.step kx (fun e => by have := hne _ e; omega)).c2⟩ ?_)
    clear hK K
    simp only [List.getElem_toArray, List.getElem_cons_succ, List.getElem_cons_zero, Act.put, List.setIfInBounds_toArray, List.set_cons_zero, List.set_cons_succ]
    replace kk := kk.step kx (fun q e hl => by have := hne q e; omega)
    replace b0 := b0.step kx (fun e => by have := hne _ e; omega)
    replace b1 := b1.step kx (fun e => by have := hne _ e; omega)
    replace b2 := b2.step kx (fun e => by have := hne _ e; omega)
    clear kx fx o1 hne
    obtain ⟨ya, yn, yc, rfl⟩ := o7.shape
    generalize WQ = WR at *
    refine wpAnyK_1 8 (by kernel_rfl) (wpOpK' rfl rfl ?_)
    intro K hK
    refine ocall (f := 56) (args := #[.agg #[.int .i64 it, .slice pa ps.length cap, .slice qa n qc], .slice ya yn yc]) (by go_simp) (again_any _ _ ⟨it, ps, rq⟩ _ WR (h0.keep kk) o7.readNo HSV.out) (fun v3 w3 h3 => hK.out _ _ ⟨(b0.keep h3.2).c0, (b0.keep h3.2).c1, (b0.keep h3.2).c2, (b1.keep h3.2).c1, (b1.keep h3.2).c2⟩ ?_)
    obtain ⟨hTA, k3⟩ := h3
    clear hK K
    simp only [List.getElem_toArray, List.getElem_cons_succ, List.getElem_cons_zero, Act.put, List.setIfInBounds_toArray, List.set_cons_zero, List.set_cons_succ]
    refine wpAnyK_tail 9 rfl (by kernel_rfl) ?_
    simp only [List.drop_succ_cons, List.drop_zero]
    have hs0 := b2.lt
    replace b2 := b2.keep k3
    replace kk := kk.keep k3
    clear b0 b1
    obtain ⟨e0, e1, e2, cf⟩ := id b2
    have cf0 := cf 0
    have cf1 := cf 1
    have cf2 := cf 2
    clear cf
    have hb2l := b2.lt
    obtain ⟨iN, p1, p2, p3, r1, r2, r3, rfl, hTN⟩ := hTA.put3 (b := w.heap.size + 1 + 1) (by omega)
    obtain ⟨z0, z1, z2, _⟩ := ((b2.set0 (.int .i64 iN)).set1 (.slice p1 p2 p3)).set2 (.slice r1 r2 r3)
    have HK := Lib.hid (kk.put3 (b := w.heap.size + 1 + 1) (fun h => by omega) (.int .i64 iN) (.slice p1 p2 p3) (.slice r1 r2 r3))
    have HTN := Lib.hid (hTN.weak (base' := w.heap.size) (by omega))
    clear hTA hTN kk b2
    go_wp2_with fail
    exact bodyPost_ret (v := .tuple #[.agg #[.int .i64 iN, .slice p1 p2 p3, .slice r1 r2 r3], .bool true]) (by simp [results, Tryz.results48, go_sem, z0, z1, z2]) rfl ⟨_, _, rfl, rfl, HTN.out, HK.out⟩

/-- a slice of two slices -/
theorem obuildS2 {o : Oper} {a : Act} {K : Act → World → Prop} {Q : Exit → Act → World → Prop} {w : World} (y y' : Operand) (xa xa' : Option Addr) (xn xc xn' xc' : Nat)
    (ho : o.op = .buildSlice 136 2 #[(0, y), (1, y')]) (hy : a.eval y = .slice xa xn xc) (hy' : a.eval y' = .slice xa' xn' xc')
    (h : ∀ g w', Chg No w w' → RF No w' (.slice (some ⟨g, 0, none⟩) 2 2) 1 2 [.slice xa xn xc, .slice xa' xn' xc'] → K (a.put o.dst (.slice (some ⟨g, 0, none⟩) 2 2)) w') :
    Oper.wp Tryz.prog o a w K Q := by
  have h1 := h w.heap.size (w.alloc (.cells #[.slice xa xn xc, .slice xa' xn' xc'] 23)) ((Chg.refl No w).alloc _)
    ⟨_, _, rfl, Nat.le_refl _, by omega, by simp, by simp, fun _ => ⟨w.heap.size, 0, rfl, fun e => e, by simp, fun i hi => by
      have : i = 0 ∨ i = 1 := by simp at hi; omega
      rcases this with rfl | rfl <;> (rw [World.cell?_alloc_new]; rfl)⟩⟩
  unfold Oper.wp execOp
  simp only [ho, List.map_toArray, List.map_cons, List.map_nil, hy, hy']
  go_simp
  exact h1
set_option maxRecDepth 100000 in
set_option maxHeartbeats 4000000 in
theorem step5t_any (v : Value) (t : To) (a : Int) (w : World) (h : RT No w v t) (ht : tourB t = true) (ha : 1 ≤ a ∧ a ≤ t.reqs.length) (ha2 : (t.reqs.length : Int) + a ≤ 60) :
    Calls Tryz.prog 48 #[v, stV 5 a 0] w (Ret2 fun v0 v1 w' => v1 = .bool true ∧ TA w.heap.size w' v0 (againT t (t.reqs ++ t.reqs.drop (t.reqs.length - a.toNat))) ∧ Chg No w w') := by
  obtain ⟨k, hk⟩ : ∃ k : Int, k = 5 := ⟨_, rfl⟩
  obtain ⟨b, hb⟩ : ∃ b : Int, b = 0 := ⟨_, rfl⟩
  rw [← hk, ← hb]
  have HSV := Lib.hid (Sv.again ht (l := t.reqs ++ t.reqs.drop (t.reqs.length - a.toNat)) (fun i hi => by have := (tour_at ht hi).1.2; rw [List.length_append]; omega))
  obtain ⟨hl1, hl2, hl3, hl4⟩ := tour_len ht
  have h0 := h
  have HT := Lib.hid ht
  obtain ⟨it, ps, rq⟩ := t
  obtain ⟨pv, qv, rfl, hps, hrq⟩ := h
  simp only at hps hrq hl1 hl2 hl3 hl4
  obtain ⟨qa, qc, rfl, _⟩ := id hrq
  obtain ⟨pa, cap, rfl, hcap, hmax, hlen, pf, mf, hl, hcl⟩ := id hps
  obtain ⟨n, hn⟩ : ∃ n, rq.length = n := ⟨_, rfl⟩
  have hW0 := boxes33 (w := w) (t := 31) (t' := 35) (t'' := 31) (x0 := .int .i64 it) (x1 := .slice pa ps.length cap) (x2 := .slice qa n qc) (y0 := .int .i64 k) (y1 := .int .i64 a) (y2 := .int .i64 b) (z0 := .int .i64 0) (z1 := .slice none 0 0) (z2 := .slice none 0 0)
    (R := fun W => Chg No w W ∧ Box3 W w.heap.size (.int .i64 it) (.slice pa ps.length cap) (.slice qa n qc) ∧ Box3 W (w.heap.size + 1) (.int .i64 k) (.int .i64 a) (.int .i64 b) ∧ Box3 W (w.heap.size + 1 + 1) (.int .i64 0) (.slice none 0 0) (.slice none 0 0)) (fun W k b0 b1 b2 => ⟨k, b0, b1, b2⟩)
  obtain ⟨kk, b0, b1, b2⟩ := hW0
  have hn0 : (0 : Int) ≤ (n : Int) := Int.natCast_nonneg _
  rw [hn] at h0 hl2 hrq ⊢
  have HN := Lib.hid hn
  obtain ⟨c0, c1, c2, _⟩ := id b0
  obtain ⟨d0, d1, d2, _⟩ := id b1
  clear hl hcl hps ht hn
  subst hk
  subst hb
  simp only at ha ha2 HSV
  rw [HN.out] at ha ha2 HSV
  have HI : Hid (inB a 1 n = true) := Lib.hid (inB_iff.2 ha)
  have hrq2 : RI No w (.slice qa rq.length qc) rq := by rw [HN.out]; exact hrq
  obtain ⟨x, hx, hrx⟩ := hrq2.from (n - a.toNat) ((n : Int) - a) (by omega) (by rw [HN.out]; omega)
  rw [HN.out] at hx
  obtain ⟨xa, xn, xc, rfl⟩ := hrx.shape
  have hw1 : IntKind.i64.wrap ((n : Int) - a) = (n : Int) - a := IntWalk.i64_in _ (by omega)
  have hw2 : IntKind.i64.wrap ((n : Int) + a) = (n : Int) + a := IntWalk.i64_in _ (by omega)
  have HA := Lib.hid ha
  clear ha hrq2
  unfold stV
  go_enter Tryz.func48, Tryz.ntmps48
  go_wp2_with fail
  refine (within_any _ _ _ _).mono ?_
  rintro e w1 ⟨rfl, rfl⟩
  rw [HI.out]
  go_wp2_with fail
  generalize hWW : ((w.alloc _).alloc _).alloc _ = W1
  rw [hWW] at kk b0 b1 b2
  clear c0 c1 c2 d0 d1 d2 hWW
  refine wp_region_K (S := fun W => W.cell? ⟨w.heap.size, 0, none⟩ = some (.int .i64 it) ∧ W.cell? ⟨w.heap.size, 1, none⟩ = some (.slice pa ps.length cap) ∧ W.cell? ⟨w.heap.size, 2, none⟩ = some (.slice qa n qc) ∧ W.cell? ⟨w.heap.size + 1, 1, none⟩ = some (.int .i64 a) ∧ W.cell? ⟨w.heap.size + 1, 2, none⟩ = some (.int .i64 0)) (k := 13) (by kernel_rfl) ?_
  replace kk := kk.keep (drewN0 _)
  replace b0 := b0.keep (drewN0 _)
  replace b1 := b1.keep (drewN0 _)
  replace b2 := b2.keep (drewN0 _)
  generalize W1.drew = WR at kk b0 b1 b2 ⊢
  have hS : WR.cell? ⟨w.heap.size, 0, none⟩ = some (.int .i64 it) ∧ WR.cell? ⟨w.heap.size, 1, none⟩ = some (.slice pa ps.length cap) ∧ WR.cell? ⟨w.heap.size, 2, none⟩ = some (.slice qa n qc) ∧ WR.cell? ⟨w.heap.size + 1, 1, none⟩ = some (.int .i64 a) ∧ WR.cell? ⟨w.heap.size + 1, 2, none⟩ = some (.int .i64 0) := ⟨b0.c0, b0.c1, b0.c2, b1.c1, b1.c2⟩
  refine wpAnyK_takeT 0 (.agg #[.int .i64 it, .slice pa ps.length cap, .slice qa n qc]) rfl (by kernel_rfl) (fun _ _ _ h => h) hS rfl (by intro w hSw; go_simp) ?_
  simp only [List.getElem_toArray, List.getElem_cons_zero, Act.put, List.setIfInBounds_toArray, List.set_cons_zero, List.set_cons_succ]
  refine wpAnyK_take0 1 (.pointer (some ⟨w.heap.size, 2, none⟩)) rfl (by kernel_rfl) (fun _ _ _ h => h) hS rfl (by intro w; go_simp) ?_
  simp only [List.getElem_toArray, List.getElem_cons_succ, List.getElem_cons_zero, Act.put, List.setIfInBounds_toArray, List.set_cons_zero, List.set_cons_succ]
  refine wpAnyK_takeT 2 (.slice qa n qc) rfl (by kernel_rfl) (fun _ _ _ h => h) hS rfl (by intro w hSw; go_simp) ?_
  simp only [List.getElem_toArray, List.getElem_cons_succ, List.getElem_cons_zero, Act.put, List.setIfInBounds_toArray, List.set_cons_zero, List.set_cons_succ]
  refine wpAnyK_take0 3 (.pointer (some ⟨w.heap.size, 2, none⟩)) rfl (by kernel_rfl) (fun _ _ _ h => h) hS rfl (by intro w; go_simp) ?_
  simp only [List.getElem_toArray, List.getElem_cons_succ, List.getElem_cons_zero, Act.put, List.setIfInBounds_toArray, List.set_cons_zero, List.set_cons_succ]
  refine wpAnyK_takeT 4 (.slice qa n qc) rfl (by kernel_rfl) (fun _ _ _ h => h) hS rfl (by intro w hSw; go_simp) ?_
  simp only [List.getElem_toArray, List.getElem_cons_succ, List.getElem_cons_zero, Act.put, List.setIfInBounds_toArray, List.set_cons_zero, List.set_cons_succ]
  refine wpAnyK_take0 5 (.int .i64 (n : Int)) rfl (by kernel_rfl) (fun _ _ _ h => h) hS rfl (by intro w; go_simp) ?_
  simp only [List.getElem_toArray, List.getElem_cons_succ, List.getElem_cons_zero, Act.put, List.setIfInBounds_toArray, List.set_cons_zero, List.set_cons_succ]
  refine wpAnyK_take0 6 (.pointer (some ⟨w.heap.size + 1, 1, none⟩)) rfl (by kernel_rfl) (fun _ _ _ h => h) hS rfl (by intro w; go_simp) ?_
  simp only [List.getElem_toArray, List.getElem_cons_succ, List.getElem_cons_zero, Act.put, List.setIfInBounds_toArray, List.set_cons_zero, List.set_cons_succ]
  refine wpAnyK_takeT 7 (.int .i64 a) rfl (by kernel_rfl) (fun _ _ _ h => h) hS rfl (by intro w hSw; go_simp) ?_
  simp only [List.getElem_toArray, List.getElem_cons_succ, List.getElem_cons_zero, Act.put, List.setIfInBounds_toArray, List.set_cons_zero, List.set_cons_succ]
  refine wpAnyK_take0 8 (.int .i64 ((n : Int) - a)) rfl (by kernel_rfl) (fun _ _ _ h => h) hS rfl (by intro w; go_simp) ?_
  simp only [List.getElem_toArray, List.getElem_cons_succ, List.getElem_cons_zero, Act.put, List.setIfInBounds_toArray, List.set_cons_zero, List.set_cons_succ]
  refine wpAnyK_take0 9 (.slice xa xn xc) rfl (by kernel_rfl) (fun _ _ _ h => h) hS rfl (by intro w; go_simp) ?_
  simp only [List.getElem_toArray, List.getElem_cons_succ, List.getElem_cons_zero, Act.put, List.setIfInBounds_toArray, List.set_cons_zero, List.set_cons_succ]
  refine wpAnyK_1 10 (by kernel_rfl) (wpOpK' rfl rfl ?_)
  intro K hK
  refine obuildS2 (.tmp 108) (.tmp 115) qa xa n qc xn xc rfl rfl rfl (fun g WQ kx hg => hK.out _ _ ⟨(b0.keep kx).c0, (b0.keep kx).c1, (b0.keep kx).c2, (b1.keep kx).c1, (b1.keep kx).c2⟩ ?_)
  clear hK K hS
  simp only [List.getElem_toArray, List.getElem_cons_succ, List.getElem_cons_zero, Act.put, List.setIfInBounds_toArray, List.set_cons_zero, List.set_cons_succ]
  replace kk := kk.keep kx
  replace b0 := b0.keep kx
  replace b1 := b1.keep kx
  replace b2 := b2.keep kx
  clear kx
  generalize WQ = WR at *
  have hRII : RII No WR (.slice (some ⟨g, 0, none⟩) 2 2) [rq, rq.drop (n - a.toNat)] := ⟨by simp, _, by simp, hg, fun i hi => by
    have : i = 0 ∨ i = 1 := by simp at hi; omega
    rcases this with rfl | rfl
    · exact hrq.keep kk
    · exact hrx.keep kk⟩
  refine wpAnyK_1 11 (by kernel_rfl) (wpOpK' rfl rfl ?_)
  intro K hK
  refine ocall (f := 100) (args := #[.slice (some ⟨g, 0, none⟩) 2 2]) (by go_simp) (Concat_any _ _ WR hRII (by have := HN.out; simp [tot]; omega) (by simp)) (fun v1 WQ h1 => hK.out _ _ ⟨(b0.keep h1.2).c0, (b0.keep h1.2).c1, (b0.keep h1.2).c2, (b1.keep h1.2).c1, (b1.keep h1.2).c2⟩ ?_)
  obtain ⟨o1, kx⟩ := h1
  clear hK K hRII hg
  simp only [List.getElem_toArray, List.getElem_cons_succ, List.getElem_cons_zero, Act.put, List.setIfInBounds_toArray, List.set_cons_zero, List.set_cons_succ]
  obtain ⟨ya, yn, yc, rfl⟩ := o1.shape
  replace kk := kk.keep kx
  replace b0 := b0.keep kx
  replace b1 := b1.keep kx
  replace b2 := b2.keep kx
  clear kx
  generalize WQ = WR at *
  have o1' : RI No WR (.slice ya yn yc) (rq ++ rq.drop (n - a.toNat)) := by have := o1.readNo; simp only [List.flatten_cons, List.flatten_nil, List.append_nil] at this; exact this
  refine wpAnyK_1 12 (by kernel_rfl) (wpOpK' rfl rfl ?_)
  intro K hK
  refine ocall (f := 56) (args := #[.agg #[.int .i64 it, .slice pa ps.length cap, .slice qa n qc], .slice ya yn yc]) (by go_simp) (again_any _ _ ⟨it, ps, rq⟩ _ WR (h0.keep kk) o1' HSV.out) (fun v3 w3 h3 => hK.out _ _ ⟨(b0.keep h3.2).c0, (b0.keep h3.2).c1, (b0.keep h3.2).c2, (b1.keep h3.2).c1, (b1.keep h3.2).c2⟩ ?_)
  obtain ⟨hTA, k3⟩ := h3
  clear o1 o1'
  clear hK K
  simp only [List.getElem_toArray, List.getElem_cons_succ, List.getElem_cons_zero, Act.put, List.setIfInBounds_toArray, List.set_cons_zero, List.set_cons_succ]
  refine wpAnyK_tail 13 rfl (by kernel_rfl) ?_
  simp only [List.drop_succ_cons, List.drop_zero]
  have hs0 := b2.lt
  replace b2 := b2.keep k3
  replace kk := kk.keep k3
  clear b0 b1
  obtain ⟨e0, e1, e2, cf⟩ := id b2
  have cf0 := cf 0
  have cf1 := cf 1
  have cf2 := cf 2
  clear cf
  have hb2l := b2.lt
  obtain ⟨iN, p1, p2, p3, r1, r2, r3, rfl, hTN⟩ := hTA.put3 (b := w.heap.size + 1 + 1) (by omega)
  obtain ⟨z0, z1, z2, _⟩ := ((b2.set0 (.int .i64 iN)).set1 (.slice p1 p2 p3)).set2 (.slice r1 r2 r3)
  have HK := Lib.hid (kk.put3 (b := w.heap.size + 1 + 1) (fun h => by omega) (.int .i64 iN) (.slice p1 p2 p3) (.slice r1 r2 r3))
  have HTN := Lib.hid (hTN.weak (base' := w.heap.size) (by omega))
  clear hTA hTN kk b2
  go_wp2_with fail
  exact bodyPost_ret (v := .tuple #[.agg #[.int .i64 iN, .slice p1 p2 p3, .slice r1 r2 r3], .bool true]) (by simp [results, Tryz.results48, go_sem, z0, z1, z2]) rfl ⟨_, _, rfl, rfl, HTN.out, HK.out⟩
end Go.Proofs.YtccmocbkpanibaaGreat

/- a step (program): the rest -/
namespace Go.Proofs.YtccmocbkpanibaaGreat
open Go.RowKit

set_option maxRecDepth 100000 in
set_option maxHeartbeats 4000000 in
theorem step3f_any (v : Value) (t : To) (a : Int) (w : World) (h : RT No w v t) (ht : tourB t = true) (hc : hasP t a = false) :
    Calls Tryz.prog 48 #[v, stV 3 a 0] w (Ret2 fun v0 v1 w' => v1 = .bool false ∧ TA w.heap.size w' v0 zeroT ∧ Chg No w w') := by
  obtain ⟨k, hk⟩ : ∃ k : Int, k = 3 := ⟨_, rfl⟩
  obtain ⟨b, hb⟩ : ∃ b : Int, b = 0 := ⟨_, rfl⟩
  rw [← hk, ← hb]
  have HC := Lib.hid hc
  clear hc
  obtain ⟨hl1, hl2, hl3, hl4⟩ := tour_len ht
  have h0 := h
  have HT := Lib.hid ht
  obtain ⟨it, ps, rq⟩ := t
  obtain ⟨pv, qv, rfl, hps, hrq⟩ := h
  simp only at hps hrq hl1 hl2 hl3 hl4
  obtain ⟨qa, qc, rfl, _⟩ := id hrq
  obtain ⟨pa, cap, rfl, hcap, hmax, hlen, pf, mf, hl, hcl⟩ := id hps
  obtain ⟨n, hn⟩ : ∃ n, rq.length = n := ⟨_, rfl⟩
  have hW0 := boxes33 (w := w) (t := 31) (t' := 35) (t'' := 31) (x0 := .int .i64 it) (x1 := .slice pa ps.length cap) (x2 := .slice qa n qc) (y0 := .int .i64 k) (y1 := .int .i64 a) (y2 := .int .i64 b) (z0 := .int .i64 0) (z1 := .slice none 0 0) (z2 := .slice none 0 0)
    (R := fun W => Chg No w W ∧ Box3 W w.heap.size (.int .i64 it) (.slice pa ps.length cap) (.slice qa n qc) ∧ Box3 W (w.heap.size + 1) (.int .i64 k) (.int .i64 a) (.int .i64 b) ∧ Box3 W (w.heap.size + 1 + 1) (.int .i64 0) (.slice none 0 0) (.slice none 0 0)) (fun W k b0 b1 b2 => ⟨k, b0, b1, b2⟩)
  obtain ⟨kk, b0, b1, b2⟩ := hW0
  have hn0 : (0 : Int) ≤ (n : Int) := Int.natCast_nonneg _
  rw [hn] at h0 hl2 hrq ⊢
  have HN := Lib.hid hn
  obtain ⟨c0, c1, c2, _⟩ := id b0
  obtain ⟨d0, d1, d2, _⟩ := id b1
  clear hl hcl hps ht hn
  subst hk
  subst hb
  unfold stV
  go_enter Tryz.func48, Tryz.ntmps48
  go_wp2_with fail
  refine (isPlayer_any _ _ a _ (h0.keep kk)).mono ?_
  rintro e w1 ⟨_, rfl, rfl, k3⟩
  rw [HC.out]
  clear c0 c1 c2 d0 d1 d2
  replace b1 := b1.keep k3
  replace b2 := b2.keep k3
  replace kk := kk.keep k3
  obtain ⟨d0, d1, d2, _⟩ := id b1
  obtain ⟨e0, e1, e2, cf⟩ := id b2
  have cf0 := cf 0
  have cf1 := cf 1
  have cf2 := cf 2
  clear cf
  have hb2l := b2.lt
  obtain ⟨z0, z1, z2, _⟩ := ((b2.set0 (.int .i64 0)).set1 (.slice none 0 0)).set2 (.slice none 0 0)
  have HK := Lib.hid (kk.put3 (b := w.heap.size + 1 + 1) (fun h => by omega) (.int .i64 0) (.slice none 0 0) (.slice none 0 0))
  clear kk b2
  go_wp2_with fail
  exact bodyPost_ret (v := .tuple #[.agg #[.int .i64 0, .slice none 0 0, .slice none 0 0], .bool false]) (by simp [results, Tryz.results48, go_sem, z0, z1, z2]) rfl ⟨_, _, rfl, rfl, TA.zero _ _, HK.out⟩
set_option maxRecDepth 100000 in
set_option maxHeartbeats 4000000 in
theorem step5f_any (v : Value) (t : To) (a : Int) (w : World) (h : RT No w v t) (ht : tourB t = true) (hc : (inB a 1 t.reqs.length && decide ((t.reqs.length : Int) + a ≤ 60)) = false) :
    Calls Tryz.prog 48 #[v, stV 5 a 0] w (Ret2 fun v0 v1 w' => v1 = .bool false ∧ TA w.heap.size w' v0 zeroT ∧ Chg No w w') := by
  obtain ⟨k, hk⟩ : ∃ k : Int, k = 5 := ⟨_, rfl⟩
  obtain ⟨b, hb⟩ : ∃ b : Int, b = 0 := ⟨_, rfl⟩
  rw [← hk, ← hb]
  have HC := Lib.hid hc
  clear hc
  obtain ⟨hl1, hl2, hl3, hl4⟩ := tour_len ht
  have h0 := h
  have HT := Lib.hid ht
  obtain ⟨it, ps, rq⟩ := t
  obtain ⟨pv, qv, rfl, hps, hrq⟩ := h
  simp only at hps hrq hl1 hl2 hl3 hl4
  obtain ⟨qa, qc, rfl, _⟩ := id hrq
  obtain ⟨pa, cap, rfl, hcap, hmax, hlen, pf, mf, hl, hcl⟩ := id hps
  obtain ⟨n, hn⟩ : ∃ n, rq.length = n := ⟨_, rfl⟩
  have hW0 := boxes33 (w := w) (t := 31) (t' := 35) (t'' := 31) (x0 := .int .i64 it) (x1 := .slice pa ps.length cap) (x2 := .slice qa n qc) (y0 := .int .i64 k) (y1 := .int .i64 a) (y2 := .int .i64 b) (z0 := .int .i64 0) (z1 := .slice none 0 0) (z2 := .slice none 0 0)
    (R := fun W => Chg No w W ∧ Box3 W w.heap.size (.int .i64 it) (.slice pa ps.length cap) (.slice qa n qc) ∧ Box3 W (w.heap.size + 1) (.int .i64 k) (.int .i64 a) (.int .i64 b) ∧ Box3 W (w.heap.size + 1 + 1) (.int .i64 0) (.slice none 0 0) (.slice none 0 0)) (fun W k b0 b1 b2 => ⟨k, b0, b1, b2⟩)
  obtain ⟨kk, b0, b1, b2⟩ := hW0
  have hn0 : (0 : Int) ≤ (n : Int) := Int.natCast_nonneg _
  rw [hn] at h0 hl2 hrq ⊢
  have HN := Lib.hid hn
  obtain ⟨c0, c1, c2, _⟩ := id b0
  obtain ⟨d0, d1, d2, _⟩ := id b1
  clear hl hcl hps ht hn
  subst hk
  subst hb
  unfold stV
  have hC := HC.out
  simp only at hC
  rw [HN.out] at hC
  cases hi : inB a 1 n
  · have HI := Lib.hid hi
    clear hi hC
    go_enter Tryz.func48, Tryz.ntmps48
    go_wp2_with fail
    refine (within_any _ _ _ _).mono ?_
    rintro e w1 ⟨rfl, rfl⟩
    rw [HI.out]
    go_wp2_with fail
    obtain ⟨z0, z1, z2, _⟩ := id b2
    exact bodyPost_ret (v := .tuple #[.agg #[.int .i64 0, .slice none 0 0, .slice none 0 0], .bool false]) (by simp [results, Tryz.results48, go_sem, z0, z1, z2]) rfl ⟨_, _, rfl, rfl, TA.zero _ _, kk⟩
  · have HI := Lib.hid hi
    have hin := inB_iff.1 hi
    rw [hi, Bool.true_and] at hC
    have hw1 : IntKind.i64.wrap ((n : Int) + a) = (n : Int) + a := IntWalk.i64_in _ (by omega)
    have hn6 : ¬ (n : Int) + a ≤ 60 := of_decide_eq_false hC
    clear hi hC hin
    go_enter Tryz.func48, Tryz.ntmps48
    go_wp2_with fail
    refine (within_any _ _ _ _).mono ?_
    rintro e w1 ⟨rfl, rfl⟩
    rw [HI.out]
    go_wp2_with fail
    obtain ⟨z0, z1, z2, _⟩ := id b2
    exact bodyPost_ret (v := .tuple #[.agg #[.int .i64 0, .slice none 0 0, .slice none 0 0], .bool false]) (by simp [results, Tryz.results48, go_sem, z0, z1, z2]) rfl ⟨_, _, rfl, rfl, TA.zero _ _, kk⟩
set_option maxRecDepth 100000 in
set_option maxHeartbeats 4000000 in
theorem step4_any (v : Value) (t : To) (a : Int) (w : World) (h : RT No w v t) (ht : tourB t = true) (ha : ¬ a = 0) :
    Calls Tryz.prog 48 #[v, stV 4 a 0] w (Ret2 fun v0 v1 w' => v1 = .bool false ∧ TA w.heap.size w' v0 zeroT ∧ Chg No w w') := by
  obtain ⟨k, hk⟩ : ∃ k : Int, k = 4 := ⟨_, rfl⟩
  obtain ⟨b, hb⟩ : ∃ b : Int, b = 0 := ⟨_, rfl⟩
  rw [← hk, ← hb]
  obtain ⟨hl1, hl2, hl3, hl4⟩ := tour_len ht
  have h0 := h
  have HT := Lib.hid ht
  obtain ⟨it, ps, rq⟩ := t
  obtain ⟨pv, qv, rfl, hps, hrq⟩ := h
  simp only at hps hrq hl1 hl2 hl3 hl4
  obtain ⟨qa, qc, rfl, _⟩ := id hrq
  obtain ⟨pa, cap, rfl, hcap, hmax, hlen, pf, mf, hl, hcl⟩ := id hps
  obtain ⟨n, hn⟩ : ∃ n, rq.length = n := ⟨_, rfl⟩
  have hW0 := boxes33 (w := w) (t := 31) (t' := 35) (t'' := 31) (x0 := .int .i64 it) (x1 := .slice pa ps.length cap) (x2 := .slice qa n qc) (y0 := .int .i64 k) (y1 := .int .i64 a) (y2 := .int .i64 b) (z0 := .int .i64 0) (z1 := .slice none 0 0) (z2 := .slice none 0 0)
    (R := fun W => Chg No w W ∧ Box3 W w.heap.size (.int .i64 it) (.slice pa ps.length cap) (.slice qa n qc) ∧ Box3 W (w.heap.size + 1) (.int .i64 k) (.int .i64 a) (.int .i64 b) ∧ Box3 W (w.heap.size + 1 + 1) (.int .i64 0) (.slice none 0 0) (.slice none 0 0)) (fun W k b0 b1 b2 => ⟨k, b0, b1, b2⟩)
  obtain ⟨kk, b0, b1, b2⟩ := hW0
  have hn0 : (0 : Int) ≤ (n : Int) := Int.natCast_nonneg _
  rw [hn] at h0 hl2 hrq ⊢
  have HN := Lib.hid hn
  obtain ⟨c0, c1, c2, _⟩ := id b0
  obtain ⟨d0, d1, d2, _⟩ := id b1
  clear hl hcl hps ht hn
  subst hk
  subst hb
  unfold stV
  go_enter Tryz.func48, Tryz.ntmps48
  go_wp2_with fail
  obtain ⟨z0, z1, z2, _⟩ := id b2
  exact bodyPost_ret (v := .tuple #[.agg #[.int .i64 0, .slice none 0 0, .slice none 0 0], .bool false]) (by simp [results, Tryz.results48, go_sem, z0, z1, z2]) rfl ⟨_, _, rfl, rfl, TA.zero _ _, kk⟩
set_option maxRecDepth 100000 in
set_option maxHeartbeats 4000000 in
theorem step4u_any (v : Value) (t : To) (w : World) (h : RT No w v t) (ht : tourB t = true) (ok : Bool) (hO : okUndo t = ok) (tv : To) (hV : undoV t = tv) :
    Calls Tryz.prog 48 #[v, stV 4 0 0] w (Ret2 fun v0 v1 w' => v1 = .bool ok ∧ TA w.heap.size w' v0 tv ∧ Chg No w w') := by
  obtain ⟨k, hk⟩ : ∃ k : Int, k = 4 := ⟨_, rfl⟩
  obtain ⟨a, ha⟩ : ∃ a : Int, a = 0 := ⟨_, rfl⟩
  obtain ⟨b, hb⟩ : ∃ b : Int, b = 0 := ⟨_, rfl⟩
  rw [← hk]
  have HO := Lib.hid hO
  have HV := Lib.hid hV
  clear hO hV
  have hst : stV k 0 0 = stV k a b := by rw [ha, hb]
  rw [hst]
  clear hst
  obtain ⟨hl1, hl2, hl3, hl4⟩ := tour_len ht
  have h0 := h
  have HT := Lib.hid ht
  obtain ⟨it, ps, rq⟩ := t
  obtain ⟨pv, qv, rfl, hps, hrq⟩ := h
  simp only at hps hrq hl1 hl2 hl3 hl4
  obtain ⟨qa, qc, rfl, _⟩ := id hrq
  obtain ⟨pa, cap, rfl, hcap, hmax, hlen, pf, mf, hl, hcl⟩ := id hps
  obtain ⟨n, hn⟩ : ∃ n, rq.length = n := ⟨_, rfl⟩
  have hW0 := boxes33 (w := w) (t := 31) (t' := 35) (t'' := 31) (x0 := .int .i64 it) (x1 := .slice pa ps.length cap) (x2 := .slice qa n qc) (y0 := .int .i64 k) (y1 := .int .i64 a) (y2 := .int .i64 b) (z0 := .int .i64 0) (z1 := .slice none 0 0) (z2 := .slice none 0 0)
    (R := fun W => Chg No w W ∧ Box3 W w.heap.size (.int .i64 it) (.slice pa ps.length cap) (.slice qa n qc) ∧ Box3 W (w.heap.size + 1) (.int .i64 k) (.int .i64 a) (.int .i64 b) ∧ Box3 W (w.heap.size + 1 + 1) (.int .i64 0) (.slice none 0 0) (.slice none 0 0)) (fun W k b0 b1 b2 => ⟨k, b0, b1, b2⟩)
  obtain ⟨kk, b0, b1, b2⟩ := hW0
  have hn0 : (0 : Int) ≤ (n : Int) := Int.natCast_nonneg _
  rw [hn] at h0 hl2 hrq ⊢
  have HN := Lib.hid hn
  obtain ⟨c0, c1, c2, _⟩ := id b0
  obtain ⟨d0, d1, d2, _⟩ := id b1
  clear hl hcl hps ht hn
  subst hk
  subst hb
  subst ha
  unfold stV
  go_enter Tryz.func48, Tryz.ntmps48
  go_wp2_with fail
  refine (undo_any _ _ _ (h0.keep kk) HT.out).mono ?_
  rintro e w3 ⟨v3, v4, rfl, rfl, hTA, k3⟩
  rw [HV.out] at hTA
  rw [HO.out]
  clear c0 c1 c2 d0 d1 d2
  have hs0 := b2.lt
  replace b2 := b2.keep k3
  replace kk := kk.keep k3
  obtain ⟨e0, e1, e2, cf⟩ := id b2
  have cf0 := cf 0
  have cf1 := cf 1
  have cf2 := cf 2
  clear cf
  have hb2l := b2.lt
  obtain ⟨iN, p1, p2, p3, r1, r2, r3, rfl, hTN⟩ := hTA.put3 (b := w.heap.size + 1 + 1) (by omega)
  obtain ⟨z0, z1, z2, _⟩ := ((b2.set0 (.int .i64 iN)).set1 (.slice p1 p2 p3)).set2 (.slice r1 r2 r3)
  have HK := Lib.hid (kk.put3 (b := w.heap.size + 1 + 1) (fun h => by omega) (.int .i64 iN) (.slice p1 p2 p3) (.slice r1 r2 r3))
  have HTN := Lib.hid (hTN.weak (base' := w.heap.size) (by omega))
  clear hTA hTN kk b2
  go_wp2_with fail
  exact bodyPost_ret (v := .tuple #[.agg #[.int .i64 iN, .slice p1 p2 p3, .slice r1 r2 r3], .bool ok]) (by simp [results, Tryz.results48, go_sem, z0, z1, z2]) rfl ⟨_, _, rfl, rfl, HTN.out, HK.out⟩
set_option maxRecDepth 100000 in
set_option maxHeartbeats 4000000 in
theorem step7_any (v : Value) (t : To) (a : Int) (w : World) (h : RT No w v t) (ht : tourB t = true) (ha : ¬ a = 0) :
    Calls Tryz.prog 48 #[v, stV 7 a 0] w (Ret2 fun v0 v1 w' => v1 = .bool false ∧ TA w.heap.size w' v0 zeroT ∧ Chg No w w') := by
  obtain ⟨k, hk⟩ : ∃ k : Int, k = 7 := ⟨_, rfl⟩
  obtain ⟨b, hb⟩ : ∃ b : Int, b = 0 := ⟨_, rfl⟩
  rw [← hk, ← hb]
  obtain ⟨hl1, hl2, hl3, hl4⟩ := tour_len ht
  have h0 := h
  have HT := Lib.hid ht
  obtain ⟨it, ps, rq⟩ := t
  obtain ⟨pv, qv, rfl, hps, hrq⟩ := h
  simp only at hps hrq hl1 hl2 hl3 hl4
  obtain ⟨qa, qc, rfl, _⟩ := id hrq
  obtain ⟨pa, cap, rfl, hcap, hmax, hlen, pf, mf, hl, hcl⟩ := id hps
  obtain ⟨n, hn⟩ : ∃ n, rq.length = n := ⟨_, rfl⟩
  have hW0 := boxes33 (w := w) (t := 31) (t' := 35) (t'' := 31) (x0 := .int .i64 it) (x1 := .slice pa ps.length cap) (x2 := .slice qa n qc) (y0 := .int .i64 k) (y1 := .int .i64 a) (y2 := .int .i64 b) (z0 := .int .i64 0) (z1 := .slice none 0 0) (z2 := .slice none 0 0)
    (R := fun W => Chg No w W ∧ Box3 W w.heap.size (.int .i64 it) (.slice pa ps.length cap) (.slice qa n qc) ∧ Box3 W (w.heap.size + 1) (.int .i64 k) (.int .i64 a) (.int .i64 b) ∧ Box3 W (w.heap.size + 1 + 1) (.int .i64 0) (.slice none 0 0) (.slice none 0 0)) (fun W k b0 b1 b2 => ⟨k, b0, b1, b2⟩)
  obtain ⟨kk, b0, b1, b2⟩ := hW0
  have hn0 : (0 : Int) ≤ (n : Int) := Int.natCast_nonneg _
  rw [hn] at h0 hl2 hrq ⊢
  have HN := Lib.hid hn
  obtain ⟨c0, c1, c2, _⟩ := id b0
  obtain ⟨d0, d1, d2, _⟩ := id b1
  clear hl hcl hps ht hn
  subst hk
  subst hb
  unfold stV
  go_enter Tryz.func48, Tryz.ntmps48
  go_wp2_with fail
  obtain ⟨z0, z1, z2, _⟩ := id b2
  exact bodyPost_ret (v := .tuple #[.agg #[.int .i64 0, .slice none 0 0, .slice none 0 0], .bool false]) (by simp [results, Tryz.results48, go_sem, z0, z1, z2]) rfl ⟨_, _, rfl, rfl, TA.zero _ _, kk⟩
set_option maxRecDepth 100000 in
set_option maxHeartbeats 4000000 in
theorem step7c_any (v : Value) (t : To) (w : World) (h : RT No w v t) (ht : tourB t = true) :
    Calls Tryz.prog 48 #[v, stV 7 0 0] w (Ret2 fun v0 v1 w' => v1 = .bool true ∧ TA w.heap.size w' v0 ⟨t.items, clearP t.ps, []⟩ ∧ Chg No w w') := by
  obtain ⟨k, hk⟩ : ∃ k : Int, k = 7 := ⟨_, rfl⟩
  obtain ⟨a, ha⟩ : ∃ a : Int, a = 0 := ⟨_, rfl⟩
  obtain ⟨b, hb⟩ : ∃ b : Int, b = 0 := ⟨_, rfl⟩
  rw [← hk]
  have hst : stV k 0 0 = stV k a b := by rw [ha, hb]
  rw [hst]
  clear hst
  obtain ⟨hl1, hl2, hl3, hl4⟩ := tour_len ht
  have h0 := h
  have HT := Lib.hid ht
  obtain ⟨it, ps, rq⟩ := t
  obtain ⟨pv, qv, rfl, hps, hrq⟩ := h
  simp only at hps hrq hl1 hl2 hl3 hl4
  obtain ⟨qa, qc, rfl, _⟩ := id hrq
  obtain ⟨pa, cap, rfl, hcap, hmax, hlen, pf, mf, hl, hcl⟩ := id hps
  obtain ⟨n, hn⟩ : ∃ n, rq.length = n := ⟨_, rfl⟩
  have hW0 := boxes33 (w := w) (t := 31) (t' := 35) (t'' := 31) (x0 := .int .i64 it) (x1 := .slice pa ps.length cap) (x2 := .slice qa n qc) (y0 := .int .i64 k) (y1 := .int .i64 a) (y2 := .int .i64 b) (z0 := .int .i64 0) (z1 := .slice none 0 0) (z2 := .slice none 0 0)
    (R := fun W => Chg No w W ∧ Box3 W w.heap.size (.int .i64 it) (.slice pa ps.length cap) (.slice qa n qc) ∧ Box3 W (w.heap.size + 1) (.int .i64 k) (.int .i64 a) (.int .i64 b) ∧ Box3 W (w.heap.size + 1 + 1) (.int .i64 0) (.slice none 0 0) (.slice none 0 0)) (fun W k b0 b1 b2 => ⟨k, b0, b1, b2⟩)
  obtain ⟨kk, b0, b1, b2⟩ := hW0
  have hn0 : (0 : Int) ≤ (n : Int) := Int.natCast_nonneg _
  rw [hn] at h0 hl2 hrq ⊢
  have HN := Lib.hid hn
  obtain ⟨c0, c1, c2, _⟩ := id b0
  obtain ⟨d0, d1, d2, _⟩ := id b1
  clear hl hcl hps ht hn
  subst hk
  subst hb
  subst ha
  unfold stV
  have HSV := Lib.hid (fun i hi => (sv_of HT.out i hi).2)
  go_enter Tryz.func48, Tryz.ntmps48
  go_wp2_with fail
  refine (cleared_any _ _ _ (h0.keep kk) HSV.out).mono ?_
  rintro e w3 ⟨v3, rfl, hTA, k3⟩
  clear c0 c1 c2 d0 d1 d2
  have hs0 := b2.lt
  replace b2 := b2.keep k3
  replace kk := kk.keep k3
  obtain ⟨e0, e1, e2, cf⟩ := id b2
  have cf0 := cf 0
  have cf1 := cf 1
  have cf2 := cf 2
  clear cf
  have hb2l := b2.lt
  obtain ⟨iN, p1, p2, p3, r1, r2, r3, rfl, hTN⟩ := hTA.put3 (b := w.heap.size + 1 + 1) (by omega)
  obtain ⟨z0, z1, z2, _⟩ := ((b2.set0 (.int .i64 iN)).set1 (.slice p1 p2 p3)).set2 (.slice r1 r2 r3)
  have HK := Lib.hid (kk.put3 (b := w.heap.size + 1 + 1) (fun h => by omega) (.int .i64 iN) (.slice p1 p2 p3) (.slice r1 r2 r3))
  have HTN := Lib.hid (hTN.weak (base' := w.heap.size) (by omega))
  clear hTA hTN kk b2
  go_wp2_with fail
  exact bodyPost_ret (v := .tuple #[.agg #[.int .i64 iN, .slice p1 p2 p3, .slice r1 r2 r3], .bool true]) (by simp [results, Tryz.results48, go_sem, z0, z1, z2]) rfl ⟨_, _, rfl, rfl, HTN.out, HK.out⟩
set_option maxRecDepth 100000 in
set_option maxHeartbeats 4000000 in
theorem step0_any (v : Value) (t : To) (k a : Int) (w : World) (h : RT No w v t) (ht : tourB t = true) (e1 : ¬ k = 1) (e2 : ¬ k = 2) (e3 : ¬ k = 3) (e4 : ¬ k = 4) (e5 : ¬ k = 5) (e6 : ¬ k = 6) (e7 : ¬ k = 7) :
    Calls Tryz.prog 48 #[v, stV k a 0] w (Ret2 fun v0 v1 w' => v1 = .bool false ∧ TA w.heap.size w' v0 zeroT ∧ Chg No w w') := by
  obtain ⟨b, hb⟩ : ∃ b : Int, b = 0 := ⟨_, rfl⟩
  rw [← hb]
  obtain ⟨hl1, hl2, hl3, hl4⟩ := tour_len ht
  have h0 := h
  have HT := Lib.hid ht
  obtain ⟨it, ps, rq⟩ := t
  obtain ⟨pv, qv, rfl, hps, hrq⟩ := h
  simp only at hps hrq hl1 hl2 hl3 hl4
  obtain ⟨qa, qc, rfl, _⟩ := id hrq
  obtain ⟨pa, cap, rfl, hcap, hmax, hlen, pf, mf, hl, hcl⟩ := id hps
  obtain ⟨n, hn⟩ : ∃ n, rq.length = n := ⟨_, rfl⟩
  have hW0 := boxes33 (w := w) (t := 31) (t' := 35) (t'' := 31) (x0 := .int .i64 it) (x1 := .slice pa ps.length cap) (x2 := .slice qa n qc) (y0 := .int .i64 k) (y1 := .int .i64 a) (y2 := .int .i64 b) (z0 := .int .i64 0) (z1 := .slice none 0 0) (z2 := .slice none 0 0)
    (R := fun W => Chg No w W ∧ Box3 W w.heap.size (.int .i64 it) (.slice pa ps.length cap) (.slice qa n qc) ∧ Box3 W (w.heap.size + 1) (.int .i64 k) (.int .i64 a) (.int .i64 b) ∧ Box3 W (w.heap.size + 1 + 1) (.int .i64 0) (.slice none 0 0) (.slice none 0 0)) (fun W k b0 b1 b2 => ⟨k, b0, b1, b2⟩)
  obtain ⟨kk, b0, b1, b2⟩ := hW0
  have hn0 : (0 : Int) ≤ (n : Int) := Int.natCast_nonneg _
  rw [hn] at h0 hl2 hrq ⊢
  have HN := Lib.hid hn
  obtain ⟨c0, c1, c2, _⟩ := id b0
  obtain ⟨d0, d1, d2, _⟩ := id b1
  clear hl hcl hps ht hn
  subst hb
  unfold stV
  go_enter Tryz.func48, Tryz.ntmps48
  go_wp2_with fail
  obtain ⟨z0, z1, z2, _⟩ := id b2
  exact bodyPost_ret (v := .tuple #[.agg #[.int .i64 0, .slice none 0 0, .slice none 0 0], .bool false]) (by simp [results, Tryz.results48, go_sem, z0, z1, z2]) rfl ⟨_, _, rfl, rfl, TA.zero _ _, kk⟩
end Go.Proofs.YtccmocbkpanibaaGreat

/- a step (program): a Player leaves; the whole -/
namespace Go.Proofs.YtccmocbkpanibaaGreat
open Go.RowKit

set_option maxRecDepth 100000 in
set_option maxHeartbeats 4000000 in
theorem step3t_any (v : Value) (t : To) (x : Nat) (w : World) (h : RT No w v t) (ht : tourB t = true) (hx : x < t.ps.length) (hc : hasP t (x : Int) = true) :
    Calls Tryz.prog 48 #[v, stV 3 (x : Int) 0] w (Ret2 fun v0 v1 w' => v1 = .bool true ∧ TA w.heap.size w' v0 (leaveT t (x : Int)) ∧ Chg No w w') := by
  obtain ⟨k, hk⟩ : ∃ k : Int, k = 3 := ⟨_, rfl⟩
  obtain ⟨b, hb⟩ : ∃ b : Int, b = 0 := ⟨_, rfl⟩
  obtain ⟨a, ha⟩ : ∃ a : Int, a = (x : Int) := ⟨_, rfl⟩
  rw [← ha] at hc
  rw [← hk, ← hb, ← ha]
  have HC := Lib.hid hc
  have HS := Lib.hid (sv_of ht)
  clear hc
  obtain ⟨hl1, hl2, hl3, hl4⟩ := tour_len ht
  have h0 := h
  have HT := Lib.hid ht
  obtain ⟨it, ps, rq⟩ := t
  obtain ⟨pv, qv, rfl, hps, hrq⟩ := h
  simp only at hps hrq hl1 hl2 hl3 hl4
  obtain ⟨qa, qc, rfl, _⟩ := id hrq
  obtain ⟨pa, cap, rfl, hcap, hmax, hlen, pf, mf, hl, hcl⟩ := id hps
  obtain ⟨n, hn⟩ : ∃ n, rq.length = n := ⟨_, rfl⟩
  have hW0 := boxes33 (w := w) (t := 31) (t' := 35) (t'' := 31) (x0 := .int .i64 it) (x1 := .slice pa ps.length cap) (x2 := .slice qa n qc) (y0 := .int .i64 k) (y1 := .int .i64 a) (y2 := .int .i64 b) (z0 := .int .i64 0) (z1 := .slice none 0 0) (z2 := .slice none 0 0)
    (R := fun W => Chg No w W ∧ Box3 W w.heap.size (.int .i64 it) (.slice pa ps.length cap) (.slice qa n qc) ∧ Box3 W (w.heap.size + 1) (.int .i64 k) (.int .i64 a) (.int .i64 b) ∧ Box3 W (w.heap.size + 1 + 1) (.int .i64 0) (.slice none 0 0) (.slice none 0 0)) (fun W k b0 b1 b2 => ⟨k, b0, b1, b2⟩)
  obtain ⟨kk, b0, b1, b2⟩ := hW0
  have hn0 : (0 : Int) ≤ (n : Int) := Int.natCast_nonneg _
  rw [hn] at h0 hl2 hrq ⊢
  have HN := Lib.hid hn
  obtain ⟨c0, c1, c2, _⟩ := id b0
  obtain ⟨d0, d1, d2, _⟩ := id b1
  clear hl hcl hps ht hn
  subst hk
  subst hb
  subst ha
  simp only at hx HS
  unfold stV
  have hw1 : IntKind.i64.wrap ((x : Int) + 1) = (x : Int) + 1 := IntWalk.i64_in _ (by omega)
  have hrqw : RI No w (.slice qa n qc) rq := hrq
  go_enter Tryz.func48, Tryz.ntmps48
  go_wp2_with fail
  refine (isPlayer_any _ _ (x : Int) _ (h0.keep kk)).mono ?_
  rintro e w1 ⟨_, rfl, rfl, k3⟩
  rw [HC.out]
  clear c0 c1 c2 d0 d1 d2
  replace b0 := b0.keep k3
  replace b1 := b1.keep k3
  replace b2 := b2.keep k3
  replace kk := kk.keep k3
  clear k3
  obtain ⟨c0, c1, c2, _⟩ := id b0
  obtain ⟨d0, d1, d2, _⟩ := id b1
  go_wp2_with fail
  refine (again_any _ _ ⟨it, ps, rq⟩ rq w1 (h0.keep kk) (hrqw.keep kk) HS.out).mono ?_
  rintro e w2 ⟨v2, rfl, ⟨pv2, pg, mg, rv2, rfl, hP, hR, hd⟩, k2⟩
  simp only at hP hR hd ⊢
  obtain ⟨L0, hL0⟩ : ∃ L0, againP ps rq = L0 := ⟨_, rfl⟩
  have hLn : L0.length = ps.length := by rw [← hL0, againP_len]
  have HL0 := Lib.hid hL0
  rw [hL0] at hP hd
  clear c0 c1 c2 d0 d1 d2 hL0
  obtain ⟨oa, oc, rfl, hcp, _, _, hv⟩ := hP.os.view
  obtain ⟨ya, yn, yc, rfl⟩ := hR.shape
  obtain ⟨m, hm⟩ : ∃ m, L0.length = m + 1 := ⟨L0.length - 1, by omega⟩
  have him : x ≤ m := by omega
  have hm4 : m ≤ 4 := by omega
  have HLM := Lib.hid hm
  obtain ⟨g, rfl, hg1, hg2, _⟩ := hv (by omega)
  clear hv
  have hsz1 := b2.lt
  replace kk := kk.keep k2
  replace b1 := b1.keep k2
  replace b2 := b2.keep k2
  have hone := hP.one (m + 1) (by omega)
  rw [hm] at hd ⊢
  have hP' := hP
  have hos := hP.os
  rw [hm] at hos hP
  obtain ⟨d0, d1, d2, _⟩ := id b1
  have hB7 := Box3.new w2 (.int .i64 it) (.slice (some ⟨g, 0, none⟩) (m + 1) oc) (.slice ya yn yc) 31
  have ka := (Chg.refl No w2).alloc (.cells #[.int .i64 it, .slice (some ⟨g, 0, none⟩) (m + 1) oc, .slice ya yn yc] 31)
  obtain ⟨d0, d1, d2, _⟩ := b1.keep ka
  obtain ⟨f0, f1, f2, _⟩ := id hB7
  go_wp2_with fail
  clear d0 d1 d2 f0 f1 f2
  obtain ⟨B7, hB⟩ : ∃ B7, w2.heap.size = B7 := ⟨_, rfl⟩
  have hb2' := b2.keep ka
  have kk' := kk.keep ka
  have hR' := hR.keep ka
  have hos' := hos.keep ka
  have hsz2 := k2.size
  generalize w2.alloc (.cells #[.int .i64 it, .slice (some ⟨g, 0, none⟩) (m + 1) oc, .slice ya yn yc] 31) = W3 at ka hB7 hb2' kk' hR' hos' ⊢
  refine (DeleteP_os _ g m oc x _ W3 hos' him (by omega) hone).mono ?_
  rintro e w4 ⟨_, rfl, rfl, o4, k4⟩
  have kx : Chg (fun q => q = g) w2 w4 := (ka.mono (fun q e _ => e.elim)).trans k4
  have hPe := hP'.erase (i := x) HLM.out him o4 kx (fun q e => .inl (own_slice.2 e)) (fun q e => .inl (own_slice.2 (own_slice.1 e)))
  have hle : (L0.eraseIdx x).length = m := by rw [List.length_eraseIdx, HLM.out, if_pos (by omega)]; omega
  have hgR : ¬ own (.slice ya yn yc) g := hd g (.inl (own_slice.2 rfl))
  have hFe : ∀ q, FA (.slice (some ⟨g, 0, none⟩) m oc) m (fun k => pg (sg x k)) (fun k => mg (sg x k)) q → ¬ own (.slice ya yn yc) q := fun q hq => by
    rcases FA.erase (v := .slice (some ⟨g, 0, none⟩) (m + 1) oc) (b := q + 1) (fun e => .inl (own_slice.2 (own_slice.1 e))) hq with e | e
    · exact hd q e
    · omega
  have b7 := hB7.step k4 (fun e => by have e : w2.heap.size = g := e; omega)
  replace hb2' := hb2'.step k4 (fun e => by have e : w.heap.size + 1 + 1 = g := e; have := b2.lt; omega)
  replace kk' := kk'.step k4 (fun q e hl => by have e : q = g := e; omega)
  replace hR' := hR'.step k4 (fun q hq e => hgR (by have e : q = g := e; exact e ▸ hq))
  rw [hB] at b7 ⊢
  have cN : Chg (fun q => q = B7) w4 (w4.setCell ⟨B7, 1, none⟩ (.slice (some ⟨g, 0, none⟩) m oc)) := (Chg.refl (fun q => q = B7) w4).setCell (p := ⟨B7, 1, none⟩) (fun _ => rfl) _
  have hb71 := b7.c1
  have hb7f := b7.fr 1
  obtain ⟨d0, d1, d2, _⟩ := b7.set1 (.slice (some ⟨g, 0, none⟩) m oc)
  have hHP := hPe.step cN (fun q hq e => by
    have e : q = B7 := e
    rcases FA.erase (v := .slice (some ⟨g, 0, none⟩) (m + 1) oc) (b := q + 1) (fun e => .inl (own_slice.2 (own_slice.1 e))) (by rw [hle] at hq; exact hq) with e2 | e2
    · have := (hP.inF q (by rw [HLM.out]; exact e2)).2; omega
    · omega)
  replace hb2' := hb2'.step cN (fun e => by have e : w.heap.size + 1 + 1 = B7 := e; have := b2.lt; omega)
  replace kk' := kk'.step cN (fun q e hl => by have e : q = B7 := e; omega)
  replace hR' := hR'.step cN (fun q hq e => by have e : q = B7 := e; have := (hR.lt q hq).2; omega)
  obtain ⟨WS, hWS⟩ : ∃ WS, w4.setCell ⟨B7, 1, none⟩ (.slice (some ⟨g, 0, none⟩) m oc) = WS := ⟨_, rfl⟩
  have HWS := Lib.hid hWS
  rw [hWS] at hHP kk' hb2' hR' d0 d1 d2
  have hTA : TA w1.heap.size WS (.agg #[.int .i64 it, .slice (some ⟨g, 0, none⟩) m oc, .slice ya yn yc]) (leaveT ⟨it, ps, rq⟩ (x : Int)) := by
    unfold leaveT
    simp only [HL0.out]
    rw [show (x : Int).toNat = x by omega]
    exact ⟨_, _, _, _, rfl, hHP, hR', fun q hq => hFe q (by rw [hle] at hq; exact hq)⟩
  have hTS := hTA.stepB (b := w.heap.size + 1 + 1) (by omega) (.int .i64 it) (.slice (some ⟨g, 0, none⟩) m oc) (.slice ya yn yc)
  obtain ⟨e0, e1, e2, cf⟩ := id hb2'
  have cf0 := cf 0
  have cf1 := cf 1
  have cf2 := cf 2
  clear cf
  obtain ⟨z0, z1, z2, _⟩ := ((hb2'.set0 (.int .i64 it)).set1 (.slice (some ⟨g, 0, none⟩) m oc)).set2 (.slice ya yn yc)
  have HK := Lib.hid (kk'.put3 (b := w.heap.size + 1 + 1) (fun h => by omega) (.int .i64 it) (.slice (some ⟨g, 0, none⟩) m oc) (.slice ya yn yc))
  have HTN := Lib.hid (hTS.weak (base' := w.heap.size) (by omega))
  clear hTA hTS hHP hPe o4 k4 kx ka hB7 b7 hb2' kk' hR' hos' hos hP hP' hR hd hone hFe hgR b0 b1 b2 kk k2 hle cN
  go_wp2_with fail
  exact bodyPost_ret (v := .tuple #[.agg #[.int .i64 it, .slice (some ⟨g, 0, none⟩) m oc, .slice ya yn yc], .bool true]) (by simp [results, Tryz.results48, go_sem, z0, z1, z2]) rfl ⟨_, _, rfl, rfl, HTN.out, HK.out⟩
end Go.Proofs.YtccmocbkpanibaaGreat

/- a step: the whole, both sides -/
namespace Go.Proofs.YtccmocbkpanibaaGreat
open Go.RowKit

theorem tourStep_any (v : Value) (t : To) (k a b : Int) (w : World) (h : RT No w v t) (ht : tourB t = true) :
    Calls Tryz.prog 48 #[v, stV k a b] w (Ret2 fun v0 v1 w' => v1 = .bool (okStep t k a b) ∧ TA w.heap.size w' v0 (resT t k a b) ∧ Chg No w w') := by
  have fin : ∀ {ok : Bool} {tv : To}, okStep t k a b = ok → resT t k a b = tv → Calls Tryz.prog 48 #[v, stV k a b] w (Ret2 fun v0 v1 w' => v1 = .bool ok ∧ TA w.heap.size w' v0 tv ∧ Chg No w w') →
      Calls Tryz.prog 48 #[v, stV k a b] w (Ret2 fun v0 v1 w' => v1 = .bool (okStep t k a b) ∧ TA w.heap.size w' v0 (resT t k a b) ∧ Chg No w w') := fun e1 e2 h => by rw [e1, e2]; exact h
  by_cases e1 : k = 1
  · subst e1
    have hs : stepT t 1 a b = joinT t a b := by unfold stepT; rw [if_pos rfl]
    have ho : okStep t 1 a b = okJoin t a b := by unfold okStep; rw [if_pos rfl]
    refine fin ho ?_ (step1_any v t a b w h ht _ rfl _ rfl)
    unfold resT; rw [ho, hs]
  by_cases e6 : k = 6
  · subst e6
    have hs : stepT t 6 a b = againT t (t.reqs ++ cruelI (t.ps.getD a.toNat dPl).ca b.toNat) := by unfold stepT; rw [if_neg (by omega), if_pos rfl]
    have ho : okStep t 6 a b = okCr t a b := by unfold okStep; rw [if_neg (by omega), if_pos rfl]; rfl
    refine fin ho ?_ (step6_any v t a b w h ht _ rfl _ rfl)
    unfold resT crV; rw [ho, hs]
  have hok : okStep t k a b = okPlain t k a b := by unfold okStep; rw [if_neg e1, if_neg e6]
  have no : okPlain t k a b = false → Calls Tryz.prog 48 #[v, stV k a b] w (Ret2 fun v0 v1 w' => v1 = .bool false ∧ TA w.heap.size w' v0 zeroT ∧ Chg No w w') →
      Calls Tryz.prog 48 #[v, stV k a b] w (Ret2 fun v0 v1 w' => v1 = .bool (okStep t k a b) ∧ TA w.heap.size w' v0 (resT t k a b) ∧ Chg No w w') := fun e h => fin (hok.trans e) (resT_no (hok.trans e)) h
  by_cases hb : b = 0
  · subst hb
    have hp : okPlain t k a 0 = (
        if k = 2 then inB a 0 (t.items - 1) && decide (t.reqs.length < 60)
        else if k = 3 then hasP t a
        else if k = 4 then (a == 0) && (decide (0 < t.reqs.length) && decide (latT t.ps t.ps.length < (t.reqs.length : Int)))
        else if k = 5 then inB a 1 t.reqs.length && decide ((t.reqs.length : Int) + a ≤ 60)
        else (k == 7) && (a == 0)) := rfl
    by_cases e2 : k = 2
    · subst e2
      rw [if_pos rfl] at hp
      cases hc : (inB a 0 (t.items - 1) && decide (t.reqs.length < 60))
      · exact no (hp.trans hc) (step2f_any v t a w h ht hc)
      · have hk := hok.trans (hp.trans hc)
        exact fin hk ((resT_yes hk).trans (by unfold stepT; rw [if_neg (by omega), if_neg (by omega), if_pos rfl])) (step2t_any v t a w h ht hc)
    rw [if_neg e2] at hp
    by_cases e3 : k = 3
    · subst e3
      rw [if_pos rfl] at hp
      cases hc : hasP t a
      · exact no (hp.trans hc) (step3f_any v t a w h ht hc)
      · have hk := hok.trans (hp.trans hc)
        have hi := inB_iff.1 hc
        obtain ⟨x, rfl⟩ : ∃ x : Nat, a = (x : Int) := ⟨a.toNat, by omega⟩
        exact fin hk ((resT_yes hk).trans (by unfold stepT; rw [if_neg (by omega), if_neg (by omega), if_neg (by omega), if_pos rfl])) (step3t_any v t x w h ht (by omega) hc)
    rw [if_neg e3] at hp
    by_cases e4 : k = 4
    · subst e4
      rw [if_pos rfl] at hp
      by_cases ha : a = 0
      · subst ha
        have ho : okStep t 4 0 0 = okUndo t := hok.trans (hp.trans (by simp [okUndo]))
        refine fin ho ?_ (step4u_any v t w h ht _ rfl _ rfl)
        unfold resT undoV; rw [ho]
        have hs : stepT t 4 0 0 = againT t (t.reqs.take (t.reqs.length - 1)) := by unfold stepT; rw [if_neg (by omega), if_neg (by omega), if_neg (by omega), if_neg (by omega), if_pos rfl]
        rw [hs]
      · have ha' : (a == 0) = false := by simpa using ha
        exact no (hp.trans (by rw [ha']; rfl)) (step4_any v t a w h ht ha)
    rw [if_neg e4] at hp
    by_cases e5 : k = 5
    · subst e5
      rw [if_pos rfl] at hp
      cases hc : (inB a 1 t.reqs.length && decide ((t.reqs.length : Int) + a ≤ 60))
      · exact no (hp.trans hc) (step5f_any v t a w h ht hc)
      · have hk := hok.trans (hp.trans hc)
        simp only [Bool.and_eq_true, decide_eq_true_eq, inB_iff] at hc
        exact fin hk ((resT_yes hk).trans (by unfold stepT; rw [if_neg (by omega), if_neg (by omega), if_neg (by omega), if_neg (by omega), if_neg (by omega), if_pos rfl])) (step5t_any v t a w h ht hc.1 hc.2)
    rw [if_neg e5] at hp
    by_cases e7 : k = 7
    · subst e7
      by_cases ha : a = 0
      · subst ha
        have hk : okStep t 7 0 0 = true := hok.trans (hp.trans rfl)
        exact fin hk ((resT_yes hk).trans (by unfold stepT; rw [if_neg (by omega), if_neg (by omega), if_neg (by omega), if_neg (by omega), if_neg (by omega), if_neg (by omega)])) (step7c_any v t w h ht)
      · have ha' : (a == 0) = false := by simpa using ha
        exact no (hp.trans (by rw [ha']; rfl)) (step7_any v t a w h ht ha)
    · have e7' : (k == 7) = false := by simpa using e7
      exact no (hp.trans (by rw [e7']; rfl)) (step0_any v t k a w h ht e1 e2 e3 e4 e5 e6 e7)
  · have hb' : (b == 0) = false := by simpa using hb
    exact no (by unfold okPlain; rw [hb']; rfl) (stepB_any v t k a b w h ht e1 e6 hb)

def okS (t : To) (k a b : Int) : Bool := tourB t && okStep t k a b
noncomputable def stS (t : To) (k a b : Int) : To := if okS t k a b then stepT t k a b else zeroT
set_option maxRecDepth 100000 in
set_option maxHeartbeats 4000000 in
theorem implStep_any (v : Value) (t : To) (k a b : Int) (w : World) (h : RT No w v t) (ok : Bool) (hO : okS t k a b = ok) (tv : To) (hV : stS t k a b = tv) :
    Calls Tryz.prog 11 #[v, stV k a b] w (Ret2 fun v0 v1 w' => v1 = .bool ok ∧ TA w.heap.size w' v0 tv ∧ Chg No w w') := by
  have h0 := h
  cases ht : tourB t
  · have HO : Hid (ok = false) := Lib.hid (by rw [← hO, okS, ht]; rfl)
    have HV : Hid (tv = zeroT) := Lib.hid (by rw [← hV, stS, okS, ht]; rfl)
    have HT := Lib.hid ht
    clear hO hV ht
    obtain ⟨it, ps, rq⟩ := t
    obtain ⟨pv, qv, rfl, hps, hrq⟩ := h
    simp only at hps hrq
    obtain ⟨qa, n, qc, rfl⟩ := hrq.shape
    obtain ⟨pa, cap, rfl, hcap, hmax, hlen, pf, mf, hl, hcl⟩ := id hps
    obtain ⟨kk, b0, b1, b2⟩ := boxes33 (w := w) (t := 31) (t' := 35) (t'' := 31) (x0 := .int .i64 it) (x1 := .slice pa ps.length cap) (x2 := .slice qa n qc) (y0 := .int .i64 k) (y1 := .int .i64 a) (y2 := .int .i64 b) (z0 := .int .i64 0) (z1 := .slice none 0 0) (z2 := .slice none 0 0)
      (R := fun W => Chg No w W ∧ Box3 W w.heap.size (.int .i64 it) (.slice pa ps.length cap) (.slice qa n qc) ∧ Box3 W (w.heap.size + 1) (.int .i64 k) (.int .i64 a) (.int .i64 b) ∧ Box3 W (w.heap.size + 1 + 1) (.int .i64 0) (.slice none 0 0) (.slice none 0 0)) (fun W k b0 b1 b2 => ⟨k, b0, b1, b2⟩)
    obtain ⟨c0, c1, c2, _⟩ := id b0
    obtain ⟨d0, d1, d2, _⟩ := id b1
    clear hl hcl hps hrq
    unfold stV
    go_enter Tryz.func11, Tryz.ntmps11
    go_wp2_with fail
    refine (IsTournament_any _ _ _ (h0.keep kk)).mono ?_
    rintro e w3 ⟨_, rfl, rfl, k3⟩
    rw [HT.out]
    clear c0 c1 c2 d0 d1 d2
    replace b0 := b0.keep k3
    replace b1 := b1.keep k3
    replace b2 := b2.keep k3
    replace kk := kk.keep k3
    obtain ⟨e0, e1, e2, cf⟩ := id b2
    have cf0 := cf 0
    have cf1 := cf 1
    have cf2 := cf 2
    clear cf
    have hb2l := b2.lt
    obtain ⟨z0, z1, z2, _⟩ := ((b2.set0 (.int .i64 0)).set1 (.slice none 0 0)).set2 (.slice none 0 0)
    have HK := Lib.hid (kk.put3 (b := w.heap.size + 1 + 1) (fun h => by omega) (.int .i64 0) (.slice none 0 0) (.slice none 0 0))
    clear kk b2
    go_wp2_with fail
    exact bodyPost_ret (v := .tuple #[.agg #[.int .i64 0, .slice none 0 0, .slice none 0 0], .bool false]) (by simp [results, Tryz.results11, go_sem, z0, z1, z2]) rfl ⟨_, _, rfl, by rw [HO.out], by rw [HV.out]; exact TA.zero _ _, HK.out⟩
  · have HO : Hid (okStep t k a b = ok) := Lib.hid (by rw [← hO, okS, ht]; rfl)
    have HV : Hid (resT t k a b = tv) := Lib.hid (by rw [← hV, stS, okS, ht]; rfl)
    have HT := Lib.hid ht
    clear hO hV ht
    obtain ⟨it, ps, rq⟩ := t
    obtain ⟨pv, qv, rfl, hps, hrq⟩ := h
    simp only at hps hrq
    obtain ⟨qa, n, qc, rfl⟩ := hrq.shape
    obtain ⟨pa, cap, rfl, hcap, hmax, hlen, pf, mf, hl, hcl⟩ := id hps
    obtain ⟨kk, b0, b1, b2⟩ := boxes33 (w := w) (t := 31) (t' := 35) (t'' := 31) (x0 := .int .i64 it) (x1 := .slice pa ps.length cap) (x2 := .slice qa n qc) (y0 := .int .i64 k) (y1 := .int .i64 a) (y2 := .int .i64 b) (z0 := .int .i64 0) (z1 := .slice none 0 0) (z2 := .slice none 0 0)
      (R := fun W => Chg No w W ∧ Box3 W w.heap.size (.int .i64 it) (.slice pa ps.length cap) (.slice qa n qc) ∧ Box3 W (w.heap.size + 1) (.int .i64 k) (.int .i64 a) (.int .i64 b) ∧ Box3 W (w.heap.size + 1 + 1) (.int .i64 0) (.slice none 0 0) (.slice none 0 0)) (fun W k b0 b1 b2 => ⟨k, b0, b1, b2⟩)
    obtain ⟨c0, c1, c2, _⟩ := id b0
    obtain ⟨d0, d1, d2, _⟩ := id b1
    clear hl hcl hps hrq
    unfold stV
    go_enter Tryz.func11, Tryz.ntmps11
    go_wp2_with fail
    refine (IsTournament_any _ _ _ (h0.keep kk)).mono ?_
    rintro e w3 ⟨_, rfl, rfl, k3⟩
    rw [HT.out]
    have hs0 := b2.lt
    clear c0 c1 c2 d0 d1 d2
    replace b0 := b0.keep k3
    replace b1 := b1.keep k3
    replace b2 := b2.keep k3
    replace kk := kk.keep k3
    clear k3
    have hs0 := b2.lt
    obtain ⟨c0, c1, c2, _⟩ := id b0
    obtain ⟨d0, d1, d2, _⟩ := id b1
    go_wp2_with fail
    refine (tourStep_any _ ⟨it, ps, rq⟩ k a b w3 (h0.keep kk) HT.out).mono ?_
    rintro e w4 ⟨v3, v4, rfl, rfl, hTA, k3⟩
    rw [HV.out] at hTA
    rw [HO.out]
    clear c0 c1 c2 d0 d1 d2
    replace b0 := b0.keep k3
    replace b1 := b1.keep k3
    replace b2 := b2.keep k3
    replace kk := kk.keep k3
    obtain ⟨e0, e1, e2, cf⟩ := id b2
    have cf0 := cf 0
    have cf1 := cf 1
    have cf2 := cf 2
    clear cf
    have hb2l := b2.lt
    obtain ⟨iN, p1, p2, p3, r1, r2, r3, rfl, hTN⟩ := hTA.put3 (b := w.heap.size + 1 + 1) (by omega)
    obtain ⟨z0, z1, z2, _⟩ := ((b2.set0 (.int .i64 iN)).set1 (.slice p1 p2 p3)).set2 (.slice r1 r2 r3)
    have HK := Lib.hid (kk.put3 (b := w.heap.size + 1 + 1) (fun h => by omega) (.int .i64 iN) (.slice p1 p2 p3) (.slice r1 r2 r3))
    have HTN := Lib.hid (hTN.weak (base' := w.heap.size) (by omega))
    clear hTA hTN kk b2
    go_wp2_with fail
    exact bodyPost_ret (v := .tuple #[.agg #[.int .i64 iN, .slice p1 p2 p3, .slice r1 r2 r3], .bool ok]) (by simp [results, Tryz.results11, go_sem, z0, z1, z2]) rfl ⟨_, _, rfl, rfl, HTN.out, HK.out⟩

set_option maxRecDepth 100000 in
set_option maxHeartbeats 4000000 in
theorem specStep_any (v : Value) (t : To) (k a b : Int) (w : World) (h : RT No w v t) (ok : Bool) (hO : okS t k a b = ok) (tv : To) (hV : stS t k a b = tv) :
    Calls Tryz.prog 8 #[v, stV k a b] w (Ret2 fun v0 v1 w' => v1 = .bool ok ∧ TA w.heap.size w' v0 tv ∧ Chg No w w') := by
  have h0 := h
  cases ht : tourB t
  · have HO : Hid (ok = false) := Lib.hid (by rw [← hO, okS, ht]; rfl)
    have HV : Hid (tv = zeroT) := Lib.hid (by rw [← hV, stS, okS, ht]; rfl)
    have HT := Lib.hid ht
    clear hO hV ht
    obtain ⟨it, ps, rq⟩ := t
    obtain ⟨pv, qv, rfl, hps, hrq⟩ := h
    simp only at hps hrq
    obtain ⟨qa, n, qc, rfl⟩ := hrq.shape
    obtain ⟨pa, cap, rfl, hcap, hmax, hlen, pf, mf, hl, hcl⟩ := id hps
    obtain ⟨kk, b0, b1, b2⟩ := boxes33 (w := w) (t := 31) (t' := 35) (t'' := 31) (x0 := .int .i64 it) (x1 := .slice pa ps.length cap) (x2 := .slice qa n qc) (y0 := .int .i64 k) (y1 := .int .i64 a) (y2 := .int .i64 b) (z0 := .int .i64 0) (z1 := .slice none 0 0) (z2 := .slice none 0 0)
      (R := fun W => Chg No w W ∧ Box3 W w.heap.size (.int .i64 it) (.slice pa ps.length cap) (.slice qa n qc) ∧ Box3 W (w.heap.size + 1) (.int .i64 k) (.int .i64 a) (.int .i64 b) ∧ Box3 W (w.heap.size + 1 + 1) (.int .i64 0) (.slice none 0 0) (.slice none 0 0)) (fun W k b0 b1 b2 => ⟨k, b0, b1, b2⟩)
    obtain ⟨c0, c1, c2, _⟩ := id b0
    obtain ⟨d0, d1, d2, _⟩ := id b1
    clear hl hcl hps hrq
    unfold stV
    go_enter Tryz.func8, Tryz.ntmps8
    go_wp2_with fail
    refine (l12Tour_any _ _ _ (h0.keep kk)).mono ?_
    rintro e w3 ⟨_, rfl, rfl, k3⟩
    rw [HT.out]
    clear c0 c1 c2 d0 d1 d2
    replace b0 := b0.keep k3
    replace b1 := b1.keep k3
    replace b2 := b2.keep k3
    replace kk := kk.keep k3
    obtain ⟨e0, e1, e2, cf⟩ := id b2
    have cf0 := cf 0
    have cf1 := cf 1
    have cf2 := cf 2
    clear cf
    have hb2l := b2.lt
    obtain ⟨z0, z1, z2, _⟩ := ((b2.set0 (.int .i64 0)).set1 (.slice none 0 0)).set2 (.slice none 0 0)
    have HK := Lib.hid (kk.put3 (b := w.heap.size + 1 + 1) (fun h => by omega) (.int .i64 0) (.slice none 0 0) (.slice none 0 0))
    clear kk b2
    go_wp2_with fail
    exact bodyPost_ret (v := .tuple #[.agg #[.int .i64 0, .slice none 0 0, .slice none 0 0], .bool false]) (by simp [results, Tryz.results8, go_sem, z0, z1, z2]) rfl ⟨_, _, rfl, by rw [HO.out], by rw [HV.out]; exact TA.zero _ _, HK.out⟩
  · cases hs : okStep t k a b
    · have HO : Hid (ok = false) := Lib.hid (by rw [← hO, okS, ht, hs]; rfl)
      have HV : Hid (tv = zeroT) := Lib.hid (by rw [← hV, stS, okS, ht, hs]; rfl)
      have HT := Lib.hid ht
      have HS := Lib.hid hs
      clear hO hV ht hs
      obtain ⟨it, ps, rq⟩ := t
      obtain ⟨pv, qv, rfl, hps, hrq⟩ := h
      simp only at hps hrq
      obtain ⟨qa, n, qc, rfl⟩ := hrq.shape
      obtain ⟨pa, cap, rfl, hcap, hmax, hlen, pf, mf, hl, hcl⟩ := id hps
      obtain ⟨kk, b0, b1, b2⟩ := boxes33 (w := w) (t := 31) (t' := 35) (t'' := 31) (x0 := .int .i64 it) (x1 := .slice pa ps.length cap) (x2 := .slice qa n qc) (y0 := .int .i64 k) (y1 := .int .i64 a) (y2 := .int .i64 b) (z0 := .int .i64 0) (z1 := .slice none 0 0) (z2 := .slice none 0 0)
        (R := fun W => Chg No w W ∧ Box3 W w.heap.size (.int .i64 it) (.slice pa ps.length cap) (.slice qa n qc) ∧ Box3 W (w.heap.size + 1) (.int .i64 k) (.int .i64 a) (.int .i64 b) ∧ Box3 W (w.heap.size + 1 + 1) (.int .i64 0) (.slice none 0 0) (.slice none 0 0)) (fun W k b0 b1 b2 => ⟨k, b0, b1, b2⟩)
      obtain ⟨c0, c1, c2, _⟩ := id b0
      obtain ⟨d0, d1, d2, _⟩ := id b1
      clear hl hcl hps hrq
      unfold stV
      go_enter Tryz.func8, Tryz.ntmps8
      go_wp2_with fail
      refine (l12Tour_any _ _ _ (h0.keep kk)).mono ?_
      rintro e w3 ⟨_, rfl, rfl, k3⟩
      rw [HT.out]
      clear c0 c1 c2 d0 d1 d2
      replace b0 := b0.keep k3
      replace b1 := b1.keep k3
      replace b2 := b2.keep k3
      replace kk := kk.keep k3
      clear k3
      obtain ⟨c0, c1, c2, _⟩ := id b0
      obtain ⟨d0, d1, d2, _⟩ := id b1
      go_wp2_with fail
      refine (l12May_any _ ⟨it, ps, rq⟩ k a b w3 (h0.keep kk) HT.out).mono ?_
      rintro e w4 ⟨_, rfl, rfl, k3⟩
      rw [HS.out]
      clear c0 c1 c2 d0 d1 d2
      replace b0 := b0.keep k3
      replace b1 := b1.keep k3
      replace b2 := b2.keep k3
      replace kk := kk.keep k3
      obtain ⟨e0, e1, e2, cf⟩ := id b2
      have cf0 := cf 0
      have cf1 := cf 1
      have cf2 := cf 2
      clear cf
      have hb2l := b2.lt
      obtain ⟨z0, z1, z2, _⟩ := ((b2.set0 (.int .i64 0)).set1 (.slice none 0 0)).set2 (.slice none 0 0)
      have HK := Lib.hid (kk.put3 (b := w.heap.size + 1 + 1) (fun h => by omega) (.int .i64 0) (.slice none 0 0) (.slice none 0 0))
      clear kk b2
      go_wp2_with fail
      exact bodyPost_ret (v := .tuple #[.agg #[.int .i64 0, .slice none 0 0, .slice none 0 0], .bool false]) (by simp [results, Tryz.results8, go_sem, z0, z1, z2]) rfl ⟨_, _, rfl, by rw [HO.out], by rw [HV.out]; exact TA.zero _ _, HK.out⟩
    · have HO : Hid (ok = true) := Lib.hid (by rw [← hO, okS, ht, hs]; rfl)
      have HV : Hid (stepT t k a b = tv) := Lib.hid (by rw [← hV, stS, okS, ht, hs]; rfl)
      have HT := Lib.hid ht
      have HS := Lib.hid hs
      clear hO hV ht hs
      obtain ⟨it, ps, rq⟩ := t
      obtain ⟨pv, qv, rfl, hps, hrq⟩ := h
      simp only at hps hrq
      obtain ⟨qa, n, qc, rfl⟩ := hrq.shape
      obtain ⟨pa, cap, rfl, hcap, hmax, hlen, pf, mf, hl, hcl⟩ := id hps
      obtain ⟨kk, b0, b1, b2⟩ := boxes33 (w := w) (t := 31) (t' := 35) (t'' := 31) (x0 := .int .i64 it) (x1 := .slice pa ps.length cap) (x2 := .slice qa n qc) (y0 := .int .i64 k) (y1 := .int .i64 a) (y2 := .int .i64 b) (z0 := .int .i64 0) (z1 := .slice none 0 0) (z2 := .slice none 0 0)
        (R := fun W => Chg No w W ∧ Box3 W w.heap.size (.int .i64 it) (.slice pa ps.length cap) (.slice qa n qc) ∧ Box3 W (w.heap.size + 1) (.int .i64 k) (.int .i64 a) (.int .i64 b) ∧ Box3 W (w.heap.size + 1 + 1) (.int .i64 0) (.slice none 0 0) (.slice none 0 0)) (fun W k b0 b1 b2 => ⟨k, b0, b1, b2⟩)
      obtain ⟨c0, c1, c2, _⟩ := id b0
      obtain ⟨d0, d1, d2, _⟩ := id b1
      clear hl hcl hps hrq
      unfold stV
      go_enter Tryz.func8, Tryz.ntmps8
      go_wp2_with fail
      refine (l12Tour_any _ _ _ (h0.keep kk)).mono ?_
      rintro e w3 ⟨_, rfl, rfl, k3⟩
      rw [HT.out]
      clear c0 c1 c2 d0 d1 d2
      replace b0 := b0.keep k3
      replace b1 := b1.keep k3
      replace b2 := b2.keep k3
      replace kk := kk.keep k3
      clear k3
      obtain ⟨c0, c1, c2, _⟩ := id b0
      obtain ⟨d0, d1, d2, _⟩ := id b1
      go_wp2_with fail
      refine (l12May_any _ ⟨it, ps, rq⟩ k a b w3 (h0.keep kk) HT.out).mono ?_
      rintro e w4 ⟨_, rfl, rfl, k3⟩
      rw [HS.out]
      clear c0 c1 c2 d0 d1 d2
      replace b0 := b0.keep k3
      replace b1 := b1.keep k3
      replace b2 := b2.keep k3
      replace kk := kk.keep k3
      clear k3
      have hs0 := b2.lt
      obtain ⟨c0, c1, c2, _⟩ := id b0
      obtain ⟨d0, d1, d2, _⟩ := id b1
      go_wp2_with fail
      refine (l12Make_any _ ⟨it, ps, rq⟩ k a b w4 (h0.keep kk) HT.out HS.out).mono ?_
      rintro e w5 ⟨v3, rfl, hTA, k3⟩
      rw [HV.out] at hTA
      clear c0 c1 c2 d0 d1 d2
      replace b0 := b0.keep k3
      replace b1 := b1.keep k3
      replace b2 := b2.keep k3
      replace kk := kk.keep k3
      obtain ⟨e0, e1, e2, cf⟩ := id b2
      have cf0 := cf 0
      have cf1 := cf 1
      have cf2 := cf 2
      clear cf
      have hb2l := b2.lt
      obtain ⟨iN, p1, p2, p3, r1, r2, r3, rfl, hTN⟩ := hTA.put3 (b := w.heap.size + 1 + 1) (by omega)
      obtain ⟨z0, z1, z2, _⟩ := ((b2.set0 (.int .i64 iN)).set1 (.slice p1 p2 p3)).set2 (.slice r1 r2 r3)
      have HK := Lib.hid (kk.put3 (b := w.heap.size + 1 + 1) (fun h => by omega) (.int .i64 iN) (.slice p1 p2 p3) (.slice r1 r2 r3))
      have HTN := Lib.hid (hTN.weak (base' := w.heap.size) (by omega))
      clear hTA hTN kk b2
      go_wp2_with fail
      exact bodyPost_ret (v := .tuple #[.agg #[.int .i64 iN, .slice p1 p2 p3, .slice r1 r2 r3], .bool true]) (by simp [results, Tryz.results8, go_sem, z0, z1, z2]) rfl ⟨_, _, rfl, (by rw [HO.out]), HTN.out, HK.out⟩
end Go.Proofs.YtccmocbkpanibaaGreat

/- an argument read, its total known -/
namespace Go.Proofs.YtccmocbkpanibaaGreat
open Go.RowKit

theorem totPl_eq (ls : List Pl) (f : Nat → Nat) (h : ∀ i, i < ls.length → szPl (ls.getD i dPl) = 5 + f i) : totPl ls = 5 * ls.length + totN f ls.length := by
  have : ∀ j, j ≤ ls.length → totPl (ls.take j) = 5 * j + totN f j := by
    intro j
    induction j with
    | zero => intro _; simp [totPl, totN]
    | succ j ih =>
      intro hj
      rw [totPl_snoc ls j (by omega), ih (by omega), h j (by omega)]
      simp only [totN]; omega
  have := this ls.length (Nat.le_refl _)
  rwa [List.take_length] at this
theorem RawPS.readT {w : World} {v : Value} {m : Nat} {pn mn : Nat → Nat} (h : RawPS w v m pn mn) (hm : m ≤ 1048576) (ht : totN (fun i => pn i + mn i) m ≤ 1048576) : ∃ ls : List Pl, ls.length = m ∧ RPS No w v ls ∧ totPl ls = 5 * m + totN (fun i => pn i + mn i) m := by
  obtain ⟨a, cap, rfl, h1, h2, h3, h4⟩ := h
  by_cases h0 : 0 < m
  · obtain ⟨b, off, rfl, hb, hP⟩ := h4 h0
    have h' : ∀ i : Nat, ∃ p : Pl × Value × Value, i < m → (Cell7 w b (off + i * 7) p.1 p.2.1 p.2.2 ∧ RI No w p.2.1 p.1.ca.pages ∧ RI No w p.2.2 p.1.ca.marks) ∧ szPl p.1 = 5 + (pn i + mn i) := fun i => by
      by_cases hi : i < m
      · obtain ⟨f, p, k, a1, q1, a2, q2, hd, fa, ⟨c0, c1, c2, c3, c4, c5, c6⟩, _, _, g1, g2⟩ := hP i hi
        have := totN_get (fun i => pn i + mn i) hi
        obtain ⟨l1, e1, r1⟩ := g1 (by omega)
        obtain ⟨l2, e2, r2⟩ := g2 (by omega)
        exact ⟨(⟨f, ⟨p, k, l1, l2, hd⟩, fa⟩, _, _), fun _ => ⟨⟨⟨c0, c1, c2, c3, c4, c5, c6⟩, r1, r2⟩, by simp only [szPl]; omega⟩⟩
      · exact ⟨(dPl, undef, undef), fun e => absurd e hi⟩
    obtain ⟨f, hf⟩ := Classical.axiomOfChoice h'
    have hg : ∀ i, i < m → ((List.range m).map (fun i => (f i).1)).getD i dPl = (f i).1 := fun i hi => by
      rw [List.getD_eq_getElem?_getD]; simp [hi]
    refine ⟨(List.range m).map (fun i => (f i).1), by simp, ⟨some ⟨b, off, none⟩, cap, by simp, by simpa using h1, h2, by simpa using hm, fun i => (f i).2.1, fun i => (f i).2.2, fun i hi => ?_, fun _ => ⟨b, off, rfl, fun e => e, hb, fun i hi => ?_⟩⟩, ?_⟩
    · have hi : i < m := by simpa using hi
      rw [hg i hi]; exact (hf i hi).1.2
    · have hi : i < m := by simpa using hi
      rw [hg i hi]; exact (hf i hi).1.1
    · have e := totPl_eq ((List.range m).map (fun i => (f i).1)) (fun i => pn i + mn i) (fun i hi => by
        have hi : i < m := by simpa using hi
        rw [hg i hi]; exact (hf i hi).2)
      simpa using e
  · have : m = 0 := by omega
    subst this
    exact ⟨[], rfl, ⟨a, cap, rfl, Nat.zero_le _, h2, by simp, fun _ => undef, fun _ => undef, fun i hi => by simp at hi, fun h => absurd rfl h⟩, rfl⟩
end Go.Proofs.YtccmocbkpanibaaGreat

/- the law of StepTournament returns true -/
namespace Go.Proofs.YtccmocbkpanibaaGreat
open Go.RowKit

/-- a Tournament of the call's own, all of it in blocks from lo on and below hi -/
def TAU (lo hi : Nat) (w : World) (v : Value) (t : To) : Prop :=
  ∃ pv pf mf rv, v = .agg #[.int .i64 t.items, pv, rv] ∧ PA lo w pv t.ps pf mf ∧ OI lo w rv t.reqs ∧ (∀ q, FA pv t.ps.length pf mf q → ¬ own rv q) ∧ (∀ q, FA pv t.ps.length pf mf q → q < hi) ∧ ∀ q, own rv q → q < hi
theorem TA.u {base : Nat} {w : World} {v : Value} {t : To} (h : TA base w v t) : TAU base w.heap.size w v t := by
  obtain ⟨pv, pf, mf, rv, h1, h2, h3, h4⟩ := h
  exact ⟨pv, pf, mf, rv, h1, h2, h3, h4, fun q hq => (h2.inF q hq).2, fun q hq => (h3.lt q hq).2⟩
theorem TAU.step {lo hi : Nat} {w w' : World} {v : Value} {t : To} {S : Nat → Prop} (h : TAU lo hi w v t) (hc : Chg S w w') (hS : ∀ q, lo ≤ q → q < hi → ¬ S q) : TAU lo hi w' v t := by
  obtain ⟨pv, pf, mf, rv, h1, h2, h3, h4, h5, h6⟩ := h
  exact ⟨pv, pf, mf, rv, h1, h2.step hc (fun q hq => hS q (h2.inF q hq).1 (h5 q hq)), h3.step hc (fun q hq => hS q (h3.lt q hq).1 (h6 q hq)), h4, h5, h6⟩
theorem TAU.keep {lo hi : Nat} {w w' : World} {v : Value} {t : To} (h : TAU lo hi w v t) (hc : Chg No w w') : TAU lo hi w' v t := h.step hc (fun _ _ _ e => e)
theorem TAU.rt {lo hi : Nat} {w : World} {v : Value} {t : To} (h : TAU lo hi w v t) (hn : t.ps.length ≤ 1048576) : RT No w v t := by
  obtain ⟨pv, pf, mf, rv, h1, h2, h3, h4, _⟩ := h
  exact ⟨_, _, h1, h2.read hn (fun _ _ e => e), h3.read (fun _ _ e => e)⟩
theorem TAU.shape {lo hi : Nat} {w : World} {v : Value} {t : To} (h : TAU lo hi w v t) : ∃ pa pn pc ra rn rc, v = .agg #[.int .i64 t.items, .slice pa pn pc, .slice ra rn rc] := by
  obtain ⟨pv, pf, mf, rv, rfl, h2, h3, _⟩ := h
  obtain ⟨pa, pc, rfl, _⟩ := h2.os.view
  obtain ⟨ra, rn, rc, rfl⟩ := h3.shape
  exact ⟨_, _, _, _, _, _, rfl⟩
set_option maxRecDepth 100000 in
set_option maxHeartbeats 1000000 in
theorem markTAU_any (base hi : Nat) (v : Value) (t : To) (k : Int) (w : World) (h : TAU base hi w v t) (hn : t.ps.length ≤ 1048576) (hk : 0 ≤ k) (hk' : k + totPl t.ps ≤ 100000000) :
    Calls Tryz.prog 13 #[v, .int .i64 k] w (Ret fun r w' => r = .int .i64 (k + totPl t.ps + t.reqs.length) ∧ RT No w' v (markT k t) ∧ Chg (fun q => base ≤ q ∧ q < hi) w w') := by
  obtain ⟨it, ps, rq⟩ := t
  obtain ⟨pv, pf, mf, rv, rfl, hP, hR, hd, hu1, hu2⟩ := h
  simp only at hP hR hd hu1 hu2 hn hk' ⊢
  have hml := mkTo_len k ps ps.length
  obtain ⟨ra, rn, rc, rfl⟩ := hR.shape
  have hRl : ∀ q, own (.slice ra rn rc) q → base ≤ q ∧ q < hi := fun q hq => ⟨(hR.lt q hq).1, hu2 q hq⟩
  by_cases h0 : ps = []
  · subst h0
    obtain ⟨a, cap, rfl, hcap, hmax, _⟩ := hP.os.view
    have k0 := (Chg.refl No w).alloc (.cells #[.int .i64 it, .slice a 0 cap, .slice ra rn rc] 31)
    have b0 := Box3.new w (.int .i64 it) (.slice a 0 cap) (.slice ra rn rc) 31
    obtain ⟨c0, c1, c2, _⟩ := id b0
    have hrps : RPS No w (.slice a 0 cap) [] := hP.read (by simp) (fun _ _ e => e)
    simp only [List.length_nil] at *
    go_enter Tryz.func13, Tryz.ntmps13
    go_wp2_with fail
    refine (markPlayerS_nil a cap k _).mono ?_
    rintro e w1 ⟨_, rfl, rfl, k1⟩
    have b0 := b0.keep k1
    clear c0 c1 c2
    obtain ⟨c0, c1, c2, _⟩ := id b0
    have hR1 := (hR.keep k0).keep k1
    go_wp2_with fail
    refine (markIntS_any base _ rq k w1 hR1 (by omega)).mono ?_
    rintro e w2 ⟨_, rfl, rfl, o2, k2⟩
    go_wp2_with fail
    go_ret
    have kk : Chg (own (.slice ra rn rc)) w w2 := ((k0.keep k1).mono (fun _ e _ => e.elim)).trans k2
    refine ⟨_, rfl, by simp [totPl], ⟨_, _, rfl, ?_, (by simp only [markT, totPl, Int.natCast_zero, Int.add_zero]; exact o2.read (A := No) (fun _ _ e => e))⟩, kk.mono (fun q e _ => hRl q e)⟩
    exact ⟨a, cap, rfl, Nat.zero_le _, hmax, by simp [markT, mkTo], fun _ => undef, fun _ => undef, fun i hi => by simp [markT, mkTo] at hi, fun hne => by simp [markT, mkTo] at hne⟩
  · obtain ⟨g, cap, rfl, hO⟩ := hP.po h0
    obtain ⟨_, _, _, hcap, hmax, _⟩ := hP.os.view
    have k0 := (Chg.refl No w).alloc (.cells #[.int .i64 it, .slice (some ⟨g, 0, none⟩) ps.length cap, .slice ra rn rc] 31)
    have b0 := Box3.new w (.int .i64 it) (.slice (some ⟨g, 0, none⟩) ps.length cap) (.slice ra rn rc) 31
    obtain ⟨c0, c1, c2, _⟩ := id b0
    have hb : ¬ FP g ps.length pf mf w.heap.size := fun hq => by have := (hO.inF _ hq).2; omega
    have hfp : ∀ q, FP g ps.length pf mf q → ¬ own (.slice ra rn rc) q := fun q hq => hd q (hq.elim (fun e => .inl (own_slice.2 e)) .inr)
    have hcc := hP.os.at.2.2.2.2.2
    go_enter Tryz.func13, Tryz.ntmps13
    go_wp2_with fail
    refine (markPlayerS_any base g ps.length cap ps pf mf k _ (hO.keep k0) hn hk hk').mono ?_
    rintro e w1 ⟨_, rfl, rfl, o1, k1⟩
    have b0 := b0.step k1 hb
    clear c0 c1 c2
    obtain ⟨c0, c1, c2, _⟩ := id b0
    have hR1 := (hR.keep k0).step k1 (fun q hq e => hfp q e hq)
    go_wp2_with fail
    refine (markIntS_any base _ rq (k + totPl ps) w1 hR1 (by omega)).mono ?_
    rintro e w2 ⟨_, rfl, rfl, o2, k2⟩
    go_wp2_with fail
    go_ret
    have o1' := o1.step k2 (fun q hq e => hfp q hq e)
    refine ⟨_, rfl, rfl, ⟨_, _, rfl, ?_, o2.read (A := No) (fun _ _ e => e)⟩, ?_⟩
    · simp only [markT]; exact o1'.read hcc.1 hcc.2 hn (fun _ _ e => e)
    · exact ((k0.mono (fun _ e _ => e.elim)).trans (k1.mono (fun q e hq => ⟨(hO.inF q e).1, hu1 q (e.elim (fun e => .inl (own_slice.2 e)) .inr)⟩))).trans (k2.mono (fun q e hq => hRl q e))
set_option maxHeartbeats 400000 in
theorem toTourStep_any (k a b : Int) (w : World) :
    Calls Tryz.prog 10 #[stV k a b] w (Ret fun r w' => r = stV k a b ∧ Chg No w w') := by
  unfold stV
  go_enter Tryz.func10, Tryz.ntmps10
  go_wp2_with fail
  exact bodyPost_ret (v := .agg #[.int .i64 k, .int .i64 a, .int .i64 b]) (by simp [results, Tryz.results10, go_sem]) rfl ⟨_, rfl, rfl, (((Chg.refl No w).alloc _).alloc _).alloc _⟩
/-- a call of two results at an operation -/
theorem ret2_ret {f : FuncId} {args : Array Value} {w : World} {φ : Value → Value → World → Prop} (h : Calls Tryz.prog f args w (Ret2 φ)) : Calls Tryz.prog f args w (Ret fun v w' => ∃ v0 v1, v = .tuple #[v0, v1] ∧ φ v0 v1 w') :=
  h.mono (fun _ _ ⟨v0, v1, he, hp⟩ => ⟨_, he, v0, v1, rfl, hp⟩)

theorem stS_len (t : To) (k a b : Int) : (stS t k a b).ps.length ≤ 4 := by
  unfold stS
  cases h : okS t k a b
  · simp [zeroT]
  · unfold okS at h
    simp only [Bool.and_eq_true] at h
    have := (tour_len (tour_step h.1 k a b h.2)).1
    rw [if_pos rfl]; omega
theorem stepMk_no {c : Ca} (h5 : c.pol ≠ 5) (h6 : c.pol ≠ 6) (x : Int) : (stepC c x).marks = c.marks := by
  unfold stepC hitC faultC clockC
  repeat' split
  all_goals first | rfl | contradiction
theorem runMk_no {c : Ca} (h5 : c.pol ≠ 5) (h6 : c.pol ≠ 6) (l : List Int) : (runC c l).marks = c.marks := by
  induction l generalizing c with
  | nil => rfl
  | cons x l ih =>
    show (runC (stepC c x) l).marks = _
    rw [ih (by rw [(stepP_const c x).1]; exact h5) (by rw [(stepP_const c x).1]; exact h6), stepMk_no h5 h6]
theorem tour_small {t : To} (ht : tourB t = true) {i : Nat} (hi : i < t.ps.length) : (t.ps.getD i dPl).ca.pages.length ≤ 6 ∧ (t.ps.getD i dPl).ca.marks.length ≤ 6 := by
  have hok := tour_ok ht hi
  have h1 := hok.len
  have h2 := hok.size
  refine ⟨by omega, ?_⟩
  by_cases h56 : (t.ps.getD i dPl).ca.pol = 5 ∨ (t.ps.getD i dPl).ca.pol = 6
  · have := hok.marks h56; omega
  · have hs := want_self (tour_pl ht hi)
    have hm : (wantP (t.ps.getD i dPl) t.reqs).ca.marks = [] := by
      unfold wantP servedP
      simp only
      rw [runMk_no (c := newC _ _) (fun e => h56 (.inl e)) (fun e => h56 (.inr e))]; rfl
    rw [hs] at hm
    rw [hm]; simp
theorem totPl_small : ∀ (ls : List Pl), (∀ i, i < ls.length → szPl (ls.getD i dPl) ≤ 17) → totPl ls ≤ 17 * ls.length
  | [], _ => by simp [totPl]
  | x :: ls, h => by
    have h0 := h 0 (by simp)
    have ih := totPl_small ls (fun i hi => by have := h (i + 1) (by simp; omega); simpa using this)
    simp only [totPl, List.length_cons]
    have : szPl x ≤ 17 := by simpa using h0
    omega
theorem tour_tot {t : To} (ht : tourB t = true) : totPl t.ps ≤ 100 := by
  have h1 := totPl_small t.ps (fun i hi => by have := tour_small ht hi; unfold szPl; omega)
  have := (tour_len ht).1
  omega
theorem stS_tot (t : To) (k a b : Int) : totPl (stS t k a b).ps ≤ 100 := by
  unfold stS
  cases h : okS t k a b
  · simp [zeroT, totPl]
  · unfold okS at h
    simp only [Bool.and_eq_true] at h
    rw [if_pos rfl]; exact tour_tot (tour_step h.1 k a b h.2)
theorem stS_reqs (t : To) (k a b : Int) : (stS t k a b).reqs.length ≤ 60 := by
  unfold stS
  cases h : okS t k a b
  · simp [zeroT]
  · unfold okS at h
    simp only [Bool.and_eq_true] at h
    rw [if_pos rfl]; exact (tour_len (tour_step h.1 k a b h.2)).2.1

set_option maxRecDepth 100000 in
set_option maxHeartbeats 16000000 in
theorem lawStep_all (it : Int) (v : Value) (m : Nat) (pn mn : Nat → Nat) (ra : Option Addr) (rn rc : Nat) (k a b : Int) (w : World) (h : RawPS w v m pn mn) (hrn : rn ≤ 9223372036854775807) (hr : rn ≤ 17592186044416 → ∃ l : List Int, l.length = rn ∧ RI No w (.slice ra rn rc) l) :
    Calls Tryz.prog 3 #[.agg #[.int .i64 it, v, .slice ra rn rc], stV k a b] w fun e w' => e = .returned (.bool true) ∧ Chg No w w' := by
  obtain ⟨pa, pc, rfl, hpc, hpc2, _⟩ := id h
  obtain ⟨k0, b0, bS⟩ := boxes32 (w := w) (t := 25) (t' := 27) (x0 := .int .i64 it) (x1 := .slice pa m pc) (x2 := .slice ra rn rc) (y0 := .int .i64 k) (y1 := .int .i64 a) (y2 := .int .i64 b)
    (R := fun W => Chg No w W ∧ Box3 W w.heap.size (.int .i64 it) (.slice pa m pc) (.slice ra rn rc) ∧ Box3 W (w.heap.size + 1) (.int .i64 k) (.int .i64 a) (.int .i64 b)) (fun W k b0 b1 => ⟨k, b0, b1⟩)
  have hP := h.keep k0
  obtain ⟨f, hf⟩ : ∃ f, (fun i => pn i + mn i) = f := ⟨_, rfl⟩
  obtain ⟨c0, c1, c2, _⟩ := id b0
  by_cases hfit : m + totN f m + rn ≤ 1048576
  · obtain ⟨L0, hL0⟩ : ∃ L0 : Int, L0 = 1048576 - m - totN f m - rn := ⟨_, rfl⟩
    have E1 : Hid (szTo m (fun i => pn i + mn i) rn 1048576 = L0) := Lib.hid (by rw [hf, hL0]; unfold szTo; rw [if_pos (by omega)])
    have hn1 : ¬ L0 < 0 := by omega
    obtain ⟨rq, hrl, hrq⟩ := hr (by omega)
    obtain ⟨ps, hpl, hps, hpt⟩ := h.readT (by omega) (by rw [hf]; omega)
    rw [hf] at hpt
    have hT : RT No w (.agg #[.int .i64 it, .slice pa m pc, .slice ra rn rc]) ⟨it, ps, rq⟩ := ⟨_, _, rfl, hps, hrq⟩
    have hpn : (⟨it, ps, rq⟩ : To).ps.length ≤ 1048576 := by show ps.length ≤ _; omega
    have hpt : (1 : Int) + totPl (⟨it, ps, rq⟩ : To).ps ≤ 100000000 := by show (1 : Int) + totPl ps ≤ _; omega
    generalize (⟨it, ps, rq⟩ : To) = t at hT hpn hpt
    have HT := Lib.hid hT
    obtain ⟨ok, hok⟩ : ∃ ok, okS t k a b = ok := ⟨_, rfl⟩
    obtain ⟨tv, htv⟩ : ∃ tv, stS t k a b = tv := ⟨_, rfl⟩
    have HS := Lib.hid (And.intro hok htv)
    have htvn : tv.ps.length ≤ 4 := by rw [← htv]; exact stS_len t k a b
    have htvt : totPl tv.ps ≤ 100 := by rw [← htv]; exact stS_tot t k a b
    have htvr : tv.reqs.length ≤ 60 := by rw [← htv]; exact stS_reqs t k a b
    clear hfit h hr hf hrl hpl hrq hps hT hok htv hL0
    unfold stV
    go_enter Tryz.func3, Tryz.ntmps3
    go_wp2_with fail
    refine (szTournament_any it _ m pn mn ra rn rc _ _ hP hrn (by omega) (by omega)).mono ?_
    rintro e w1 ⟨_, rfl, rfl, k1⟩
    rw [E1.out]
    replace b0 := b0.keep k1
    replace bS := bS.keep k1
    have kk := k0.keep k1
    clear c0 c1 c2 k1 k0 hP
    obtain ⟨c0, c1, c2, _⟩ := id b0
    obtain ⟨d0, d1, d2, _⟩ := id bS
    go_wp2_with fail
    clear c0 c1 c2 d0 d1 d2
    refine wp_cut (fun a' w' => ∃ (B6 lo hi : Nat) (v2 : Value) (w1a : Option Addr) (w1n w1c : Nat) (w2a : Option Addr) (w2n w2c : Nat), a' = { tmps := #[.agg #[.int .i64 it, .slice pa m pc, .slice ra rn rc], .agg #[.int .i64 k, .int .i64 a, .int .i64 b], .pointer (some ⟨w.heap.size, 0, none⟩), .pointer (some ⟨w.heap.size + 1, 0, none⟩), .bool false, .int .i64 L0, .pointer (some ⟨B6, 0, none⟩), .bool ok, undef, undef, undef, undef, undef, undef, undef, undef, .agg #[.int .i64 it, .slice pa m pc, .slice ra rn rc], .int .i64 1048576, .int .i64 L0, .int .i64 L0, .bool (decide (L0 < 0)), .tuple #[.agg #[.int .i64 tv.items, .slice w1a w1n w1c, .slice w2a w2n w2c], .bool ok], .agg #[.int .i64 it, .slice pa m pc, .slice ra rn rc], v2, .agg #[.int .i64 k, .int .i64 a, .int .i64 b], .agg #[.int .i64 k, .int .i64 a, .int .i64 b], .tuple #[.agg #[.int .i64 tv.items, .slice w1a w1n w1c, .slice w2a w2n w2c], .bool ok], .agg #[.int .i64 tv.items, .slice w1a w1n w1c, .slice w2a w2n w2c], .bool ok, undef, undef, undef, undef, undef, undef, undef, undef, undef, undef, undef, undef, undef, undef, undef, undef, undef, undef, undef, undef, undef, undef, undef, undef, undef, undef, undef, undef, undef, undef, undef, undef, undef, undef, undef, undef, undef, undef, undef, undef, undef, undef, undef, undef, undef, undef, undef, undef, undef, undef, undef, undef, undef, undef, undef, undef, undef, undef, undef, undef, undef, undef, undef, undef, undef, undef, undef, undef, undef, undef, undef, undef, undef, undef, undef], defers := [] } ∧
      Chg No w w' ∧ Box3 w' w.heap.size (.int .i64 it) (.slice pa m pc) (.slice ra rn rc) ∧ Box3 w' (w.heap.size + 1) (.int .i64 k) (.int .i64 a) (.int .i64 b) ∧ Box3 w' B6 (.int .i64 tv.items) (.slice w1a w1n w1c) (.slice w2a w2n w2c) ∧
      TAU lo hi w' (.agg #[.int .i64 tv.items, .slice w1a w1n w1c, .slice w2a w2n w2c]) tv ∧ hi ≤ w'.heap.size ∧ lo ≤ hi ∧ w.heap.size + 1 < lo ∧ (B6 < lo ∨ hi ≤ B6) ∧ w.heap.size + 1 < B6) ?_ ?_
    · refine wp_region_K (S := fun W => W.cell? ⟨w.heap.size, 0, none⟩ = some (.int .i64 it) ∧ W.cell? ⟨w.heap.size, 1, none⟩ = some (.slice pa m pc) ∧ W.cell? ⟨w.heap.size, 2, none⟩ = some (.slice ra rn rc) ∧ W.cell? ⟨w.heap.size + 1, 0, none⟩ = some (.int .i64 k) ∧ W.cell? ⟨w.heap.size + 1, 1, none⟩ = some (.int .i64 a) ∧ W.cell? ⟨w.heap.size + 1, 2, none⟩ = some (.int .i64 b)) (k := 9) (by kernel_rfl) ?_
      replace kk := kk.keep (drewN0 _)
      replace b0 := b0.keep (drewN0 _)
      replace bS := bS.keep (drewN0 _)
      generalize w1.drew = WR at kk b0 bS ⊢
      have hS : WR.cell? ⟨w.heap.size, 0, none⟩ = some (.int .i64 it) ∧ WR.cell? ⟨w.heap.size, 1, none⟩ = some (.slice pa m pc) ∧ WR.cell? ⟨w.heap.size, 2, none⟩ = some (.slice ra rn rc) ∧ WR.cell? ⟨w.heap.size + 1, 0, none⟩ = some (.int .i64 k) ∧ WR.cell? ⟨w.heap.size + 1, 1, none⟩ = some (.int .i64 a) ∧ WR.cell? ⟨w.heap.size + 1, 2, none⟩ = some (.int .i64 b) := ⟨b0.c0, b0.c1, b0.c2, bS.c0, bS.c1, bS.c2⟩
      refine wpAnyK_takeT 0 (.agg #[.int .i64 it, .slice pa m pc, .slice ra rn rc]) rfl (by kernel_rfl) (fun _ _ _ h => h) hS rfl (by intro w hSw; go_simp) ?_
      simp only [List.getElem_toArray, List.getElem_cons_zero, Act.put, List.setIfInBounds_toArray, List.set_cons_zero, List.set_cons_succ]
      refine wpAnyK_takeT 2 (.agg #[.int .i64 k, .int .i64 a, .int .i64 b]) rfl (by kernel_rfl) (fun _ _ _ h => h) hS rfl (by intro w hSw; go_simp) ?_
      simp only [List.getElem_toArray, List.getElem_cons_succ, List.getElem_cons_zero, Act.put, List.setIfInBounds_toArray, List.set_cons_zero, List.set_cons_succ]
      refine wpAnyK_2 1 8 (by kernel_rfl) (wpOpK' rfl rfl ?_) (wpOpK' rfl rfl ?_)
      · skip
        intro K hK
        refine ocall (f := 9) (args := #[.agg #[.int .i64 it, .slice pa m pc, .slice ra rn rc]]) (by go_simp) (toTournament_any _ t WR (HT.out.keep kk)) (fun v2 WQ h1 => hK.out _ _ ⟨(b0.keep h1.2).c0, (b0.keep h1.2).c1, (b0.keep h1.2).c2, (bS.keep h1.2).c0, (bS.keep h1.2).c1, (bS.keep h1.2).c2⟩ ?_)
        obtain ⟨r2, kx⟩ := h1
        clear hK K
        try clear hS
        simp only [List.getElem_toArray, List.getElem_cons_succ, List.getElem_cons_zero, Act.put, List.setIfInBounds_toArray, List.set_cons_zero, List.set_cons_succ]
        replace kk := kk.keep kx
        replace b0 := b0.keep kx
        replace bS := bS.keep kx
        try replace b6 := b6.keep kx
        clear kx
        generalize WQ = WR at *
        refine wpAnyK_2 3 8 (by kernel_rfl) (wpOpK' rfl rfl ?_) (wpOpK' rfl rfl ?_)
        · skip
          intro K hK
          refine ocall (f := 10) (args := #[.agg #[.int .i64 k, .int .i64 a, .int .i64 b]]) (by go_simp) (toTourStep_any k a b WR) (fun v3 WQ h1 => hK.out _ _ ⟨(b0.keep h1.2).c0, (b0.keep h1.2).c1, (b0.keep h1.2).c2, (bS.keep h1.2).c0, (bS.keep h1.2).c1, (bS.keep h1.2).c2⟩ ?_)
          obtain ⟨rfl, kx⟩ := h1
          unfold stV
          clear hK K
          try clear hS
          simp only [List.getElem_toArray, List.getElem_cons_succ, List.getElem_cons_zero, Act.put, List.setIfInBounds_toArray, List.set_cons_zero, List.set_cons_succ]
          replace kk := kk.keep kx
          replace b0 := b0.keep kx
          replace bS := bS.keep kx
          try replace b6 := b6.keep kx
          try replace r2 := r2.keep kx
          clear kx
          generalize WQ = WR at *
          refine wpAnyK_2 4 8 (by kernel_rfl) (wpOpK' rfl rfl ?_) (wpOpK' rfl rfl ?_)
          · skip
            intro K hK
            refine ocall (f := 8) (args := #[v2, .agg #[.int .i64 k, .int .i64 a, .int .i64 b]]) (by go_simp) (ret2_ret (specStep_any v2 t k a b WR r2 ok HS.out.1 tv HS.out.2)) (fun v4 WQ h1 => hK.out _ _ (by obtain ⟨_, _, _, _, _, kx⟩ := h1; exact ⟨(b0.keep kx).c0, (b0.keep kx).c1, (b0.keep kx).c2, (bS.keep kx).c0, (bS.keep kx).c1, (bS.keep kx).c2⟩) ?_)
            obtain ⟨vw, _, rfl, rfl, hTA, kx⟩ := h1
            clear hK K
            try clear hS
            simp only [List.getElem_toArray, List.getElem_cons_succ, List.getElem_cons_zero, Act.put, List.setIfInBounds_toArray, List.set_cons_zero, List.set_cons_succ]
            have hTU := hTA.u
            clear hTA r2
            obtain ⟨w1a, w1n, w1c, w2a, w2n, w2c, rfl⟩ := hTU.shape
            obtain ⟨lo, hlo⟩ : ∃ lo, WR.heap.size = lo := ⟨_, rfl⟩
            obtain ⟨hi, hhi⟩ : ∃ hi, WQ.heap.size = hi := ⟨_, rfl⟩
            rw [hlo, hhi] at hTU
            have hlh : lo ≤ hi := by have := kx.size; omega
            have hbS : w.heap.size + 1 < lo := by have := bS.lt; omega
            try have hB6l : B6 < lo ∨ hi ≤ B6 := .inl (by have := b6.lt; omega)
            replace kk := kk.keep kx
            replace b0 := b0.keep kx
            replace bS := bS.keep kx
            try replace b6 := b6.keep kx
            have hhi' : hi ≤ WQ.heap.size := by omega
            clear kx hlo hhi
            generalize WQ = WR at *
            have hS : WR.cell? ⟨w.heap.size, 0, none⟩ = some (.int .i64 it) ∧ WR.cell? ⟨w.heap.size, 1, none⟩ = some (.slice pa m pc) ∧ WR.cell? ⟨w.heap.size, 2, none⟩ = some (.slice ra rn rc) ∧ WR.cell? ⟨w.heap.size + 1, 0, none⟩ = some (.int .i64 k) ∧ WR.cell? ⟨w.heap.size + 1, 1, none⟩ = some (.int .i64 a) ∧ WR.cell? ⟨w.heap.size + 1, 2, none⟩ = some (.int .i64 b) := ⟨b0.c0, b0.c1, b0.c2, bS.c0, bS.c1, bS.c2⟩
            refine wpAnyK_take0 5 (.tuple #[.agg #[.int .i64 tv.items, .slice w1a w1n w1c, .slice w2a w2n w2c], .bool ok]) rfl (by kernel_rfl) (fun _ _ _ h => h) hS rfl (by intro w; go_simp) ?_
            simp only [List.getElem_toArray, List.getElem_cons_succ, List.getElem_cons_zero, Act.put, List.setIfInBounds_toArray, List.set_cons_zero, List.set_cons_succ]
            refine wpAnyK_take0 6 (.agg #[.int .i64 tv.items, .slice w1a w1n w1c, .slice w2a w2n w2c]) rfl (by kernel_rfl) (fun _ _ _ h => h) hS rfl (by intro w; go_simp) ?_
            simp only [List.getElem_toArray, List.getElem_cons_succ, List.getElem_cons_zero, Act.put, List.setIfInBounds_toArray, List.set_cons_zero, List.set_cons_succ]
            refine wpAnyK_take0 7 (.bool ok) rfl (by kernel_rfl) (fun _ _ _ h => h) hS rfl (by intro w; go_simp) ?_
            simp only [List.getElem_toArray, List.getElem_cons_succ, List.getElem_cons_zero, Act.put, List.setIfInBounds_toArray, List.set_cons_zero, List.set_cons_succ]
            refine wpAnyK_1 8 (by kernel_rfl) (wpOpK' rfl rfl ?_)
            intro K hK
            unfold Oper.wp execOp
            go_simp
            have kx := (Chg.refl No WR).alloc (.cells #[.int .i64 0, .slice none 0 0, .slice none 0 0] 31)
            refine hK.out _ _ ⟨(b0.keep kx).c0, (b0.keep kx).c1, (b0.keep kx).c2, (bS.keep kx).c0, (bS.keep kx).c1, (bS.keep kx).c2⟩ ?_
            clear hK K
            try clear hS
            simp only [List.getElem_toArray, List.getElem_cons_succ, List.getElem_cons_zero, Act.put, List.setIfInBounds_toArray, List.set_cons_zero, List.set_cons_succ]
            have b6 := Box3.new WR (.int .i64 0) (.slice none 0 0) (.slice none 0 0) 31
            obtain ⟨B6, hB6⟩ : ∃ B6, WR.heap.size = B6 := ⟨_, rfl⟩
            have hB6h : w.heap.size + 1 < B6 := by have := bS.lt; omega
            try have hB6l : B6 < lo ∨ hi ≤ B6 := .inr (by omega)
            try replace hhi' : hi ≤ (WR.alloc (.cells #[.int .i64 0, .slice none 0 0, .slice none 0 0] 31)).heap.size := by simp; omega
            rw [hB6] at b6 ⊢
            replace kk := kk.keep kx
            replace b0 := b0.keep kx
            replace bS := bS.keep kx
            try replace r2 := r2.keep kx
            try replace hTU := hTU.keep kx
            clear kx hB6
            generalize WR.alloc (.cells #[.int .i64 0, .slice none 0 0, .slice none 0 0] 31) = WR at *
            refine wpAnyK_tail 9 rfl (by kernel_rfl) ?_
            simp only [List.drop_succ_cons, List.drop_zero]
            obtain ⟨e0, e1, e2, cf⟩ := id b6
            have cf0 := cf 0
            have cf1 := cf 1
            have cf2 := cf 2
            clear cf
            have b6N := ((b6.set0 (.int .i64 tv.items)).set1 (.slice w1a w1n w1c)).set2 (.slice w2a w2n w2c)
            have cN := (Chg.refl (fun q => q = B6) WR).put3 (b := B6) (fun _ => rfl) (.int .i64 tv.items) (.slice w1a w1n w1c) (.slice w2a w2n w2c)
            have HEND := Lib.hid (And.intro (kk.step cN (fun q e hl => by have e : q = B6 := e; omega)) (And.intro (b0.step cN (fun e => by have e : w.heap.size = B6 := e; omega)) (And.intro (bS.step cN (fun e => by have e : w.heap.size + 1 = B6 := e; omega)) (And.intro b6N (And.intro (hTU.step cN (fun q h1 h2 e => by have e : q = B6 := e; omega)) hhi')))))
            clear b6N cN b0 bS b6 hTU kk
            go_wp2_with fail
            exact ⟨B6, lo, hi, v2, w1a, w1n, w1c, w2a, w2n, w2c, by first | rfl | simp, HEND.out.1, HEND.out.2.1, HEND.out.2.2.1, HEND.out.2.2.2.1, HEND.out.2.2.2.2.1, HEND.out.2.2.2.2.2, hlh, hbS, hB6l, hB6h⟩
          · skip
            intro K hK
            unfold Oper.wp execOp
            go_simp
            have kx := (Chg.refl No WR).alloc (.cells #[.int .i64 0, .slice none 0 0, .slice none 0 0] 31)
            refine hK.out _ _ ⟨(b0.keep kx).c0, (b0.keep kx).c1, (b0.keep kx).c2, (bS.keep kx).c0, (bS.keep kx).c1, (bS.keep kx).c2⟩ ?_
            clear hK K
            try clear hS
            simp only [List.getElem_toArray, List.getElem_cons_succ, List.getElem_cons_zero, Act.put, List.setIfInBounds_toArray, List.set_cons_zero, List.set_cons_succ]
            have b6 := Box3.new WR (.int .i64 0) (.slice none 0 0) (.slice none 0 0) 31
            obtain ⟨B6, hB6⟩ : ∃ B6, WR.heap.size = B6 := ⟨_, rfl⟩
            have hB6h : w.heap.size + 1 < B6 := by have := bS.lt; omega
            try have hB6l : B6 < lo ∨ hi ≤ B6 := .inr (by omega)
            try replace hhi' : hi ≤ (WR.alloc (.cells #[.int .i64 0, .slice none 0 0, .slice none 0 0] 31)).heap.size := by simp; omega
            rw [hB6] at b6 ⊢
            replace kk := kk.keep kx
            replace b0 := b0.keep kx
            replace bS := bS.keep kx
            try replace r2 := r2.keep kx
            try replace hTU := hTU.keep kx
            clear kx hB6
            generalize WR.alloc (.cells #[.int .i64 0, .slice none 0 0, .slice none 0 0] 31) = WR at *
            refine wpAnyK_1 4 (by kernel_rfl) (wpOpK' rfl rfl ?_)
            intro K hK
            refine ocall (f := 8) (args := #[v2, .agg #[.int .i64 k, .int .i64 a, .int .i64 b]]) (by go_simp) (ret2_ret (specStep_any v2 t k a b WR r2 ok HS.out.1 tv HS.out.2)) (fun v4 WQ h1 => hK.out _ _ (by obtain ⟨_, _, _, _, _, kx⟩ := h1; exact ⟨(b0.keep kx).c0, (b0.keep kx).c1, (b0.keep kx).c2, (bS.keep kx).c0, (bS.keep kx).c1, (bS.keep kx).c2⟩) ?_)
            obtain ⟨vw, _, rfl, rfl, hTA, kx⟩ := h1
            clear hK K
            try clear hS
            simp only [List.getElem_toArray, List.getElem_cons_succ, List.getElem_cons_zero, Act.put, List.setIfInBounds_toArray, List.set_cons_zero, List.set_cons_succ]
            have hTU := hTA.u
            clear hTA r2
            obtain ⟨w1a, w1n, w1c, w2a, w2n, w2c, rfl⟩ := hTU.shape
            obtain ⟨lo, hlo⟩ : ∃ lo, WR.heap.size = lo := ⟨_, rfl⟩
            obtain ⟨hi, hhi⟩ : ∃ hi, WQ.heap.size = hi := ⟨_, rfl⟩
            rw [hlo, hhi] at hTU
            have hlh : lo ≤ hi := by have := kx.size; omega
            have hbS : w.heap.size + 1 < lo := by have := bS.lt; omega
            try have hB6l : B6 < lo ∨ hi ≤ B6 := .inl (by have := b6.lt; omega)
            replace kk := kk.keep kx
            replace b0 := b0.keep kx
            replace bS := bS.keep kx
            try replace b6 := b6.keep kx
            have hhi' : hi ≤ WQ.heap.size := by omega
            clear kx hlo hhi
            generalize WQ = WR at *
            have hS : WR.cell? ⟨w.heap.size, 0, none⟩ = some (.int .i64 it) ∧ WR.cell? ⟨w.heap.size, 1, none⟩ = some (.slice pa m pc) ∧ WR.cell? ⟨w.heap.size, 2, none⟩ = some (.slice ra rn rc) ∧ WR.cell? ⟨w.heap.size + 1, 0, none⟩ = some (.int .i64 k) ∧ WR.cell? ⟨w.heap.size + 1, 1, none⟩ = some (.int .i64 a) ∧ WR.cell? ⟨w.heap.size + 1, 2, none⟩ = some (.int .i64 b) := ⟨b0.c0, b0.c1, b0.c2, bS.c0, bS.c1, bS.c2⟩
            refine wpAnyK_take0 5 (.tuple #[.agg #[.int .i64 tv.items, .slice w1a w1n w1c, .slice w2a w2n w2c], .bool ok]) rfl (by kernel_rfl) (fun _ _ _ h => h) hS rfl (by intro w; go_simp) ?_
            simp only [List.getElem_toArray, List.getElem_cons_succ, List.getElem_cons_zero, Act.put, List.setIfInBounds_toArray, List.set_cons_zero, List.set_cons_succ]
            refine wpAnyK_take0 6 (.agg #[.int .i64 tv.items, .slice w1a w1n w1c, .slice w2a w2n w2c]) rfl (by kernel_rfl) (fun _ _ _ h => h) hS rfl (by intro w; go_simp) ?_
            simp only [List.getElem_toArray, List.getElem_cons_succ, List.getElem_cons_zero, Act.put, List.setIfInBounds_toArray, List.set_cons_zero, List.set_cons_succ]
            refine wpAnyK_take0 7 (.bool ok) rfl (by kernel_rfl) (fun _ _ _ h => h) hS rfl (by intro w; go_simp) ?_
            simp only [List.getElem_toArray, List.getElem_cons_succ, List.getElem_cons_zero, Act.put, List.setIfInBounds_toArray, List.set_cons_zero, List.set_cons_succ]
            refine wpAnyK_tail 9 rfl (by kernel_rfl) ?_
            simp only [List.drop_succ_cons, List.drop_zero]
            obtain ⟨e0, e1, e2, cf⟩ := id b6
            have cf0 := cf 0
            have cf1 := cf 1
            have cf2 := cf 2
            clear cf
            have b6N := ((b6.set0 (.int .i64 tv.items)).set1 (.slice w1a w1n w1c)).set2 (.slice w2a w2n w2c)
            have cN := (Chg.refl (fun q => q = B6) WR).put3 (b := B6) (fun _ => rfl) (.int .i64 tv.items) (.slice w1a w1n w1c) (.slice w2a w2n w2c)
            have HEND := Lib.hid (And.intro (kk.step cN (fun q e hl => by have e : q = B6 := e; omega)) (And.intro (b0.step cN (fun e => by have e : w.heap.size = B6 := e; omega)) (And.intro (bS.step cN (fun e => by have e : w.heap.size + 1 = B6 := e; omega)) (And.intro b6N (And.intro (hTU.step cN (fun q h1 h2 e => by have e : q = B6 := e; omega)) hhi')))))
            clear b6N cN b0 bS b6 hTU kk
            go_wp2_with fail
            exact ⟨B6, lo, hi, v2, w1a, w1n, w1c, w2a, w2n, w2c, by first | rfl | simp, HEND.out.1, HEND.out.2.1, HEND.out.2.2.1, HEND.out.2.2.2.1, HEND.out.2.2.2.2.1, HEND.out.2.2.2.2.2, hlh, hbS, hB6l, hB6h⟩
        · skip
          intro K hK
          unfold Oper.wp execOp
          go_simp
          have kx := (Chg.refl No WR).alloc (.cells #[.int .i64 0, .slice none 0 0, .slice none 0 0] 31)
          refine hK.out _ _ ⟨(b0.keep kx).c0, (b0.keep kx).c1, (b0.keep kx).c2, (bS.keep kx).c0, (bS.keep kx).c1, (bS.keep kx).c2⟩ ?_
          clear hK K
          try clear hS
          simp only [List.getElem_toArray, List.getElem_cons_succ, List.getElem_cons_zero, Act.put, List.setIfInBounds_toArray, List.set_cons_zero, List.set_cons_succ]
          have b6 := Box3.new WR (.int .i64 0) (.slice none 0 0) (.slice none 0 0) 31
          obtain ⟨B6, hB6⟩ : ∃ B6, WR.heap.size = B6 := ⟨_, rfl⟩
          have hB6h : w.heap.size + 1 < B6 := by have := bS.lt; omega
          try have hB6l : B6 < lo ∨ hi ≤ B6 := .inr (by omega)
          try replace hhi' : hi ≤ (WR.alloc (.cells #[.int .i64 0, .slice none 0 0, .slice none 0 0] 31)).heap.size := by simp; omega
          rw [hB6] at b6 ⊢
          replace kk := kk.keep kx
          replace b0 := b0.keep kx
          replace bS := bS.keep kx
          try replace r2 := r2.keep kx
          try replace hTU := hTU.keep kx
          clear kx hB6
          generalize WR.alloc (.cells #[.int .i64 0, .slice none 0 0, .slice none 0 0] 31) = WR at *
          refine wpAnyK_1 3 (by kernel_rfl) (wpOpK' rfl rfl ?_)
          intro K hK
          refine ocall (f := 10) (args := #[.agg #[.int .i64 k, .int .i64 a, .int .i64 b]]) (by go_simp) (toTourStep_any k a b WR) (fun v3 WQ h1 => hK.out _ _ ⟨(b0.keep h1.2).c0, (b0.keep h1.2).c1, (b0.keep h1.2).c2, (bS.keep h1.2).c0, (bS.keep h1.2).c1, (bS.keep h1.2).c2⟩ ?_)
          obtain ⟨rfl, kx⟩ := h1
          unfold stV
          clear hK K
          try clear hS
          simp only [List.getElem_toArray, List.getElem_cons_succ, List.getElem_cons_zero, Act.put, List.setIfInBounds_toArray, List.set_cons_zero, List.set_cons_succ]
          replace kk := kk.keep kx
          replace b0 := b0.keep kx
          replace bS := bS.keep kx
          try replace b6 := b6.keep kx
          try replace r2 := r2.keep kx
          clear kx
          generalize WQ = WR at *
          refine wpAnyK_1 4 (by kernel_rfl) (wpOpK' rfl rfl ?_)
          intro K hK
          refine ocall (f := 8) (args := #[v2, .agg #[.int .i64 k, .int .i64 a, .int .i64 b]]) (by go_simp) (ret2_ret (specStep_any v2 t k a b WR r2 ok HS.out.1 tv HS.out.2)) (fun v4 WQ h1 => hK.out _ _ (by obtain ⟨_, _, _, _, _, kx⟩ := h1; exact ⟨(b0.keep kx).c0, (b0.keep kx).c1, (b0.keep kx).c2, (bS.keep kx).c0, (bS.keep kx).c1, (bS.keep kx).c2⟩) ?_)
          obtain ⟨vw, _, rfl, rfl, hTA, kx⟩ := h1
          clear hK K
          try clear hS
          simp only [List.getElem_toArray, List.getElem_cons_succ, List.getElem_cons_zero, Act.put, List.setIfInBounds_toArray, List.set_cons_zero, List.set_cons_succ]
          have hTU := hTA.u
          clear hTA r2
          obtain ⟨w1a, w1n, w1c, w2a, w2n, w2c, rfl⟩ := hTU.shape
          obtain ⟨lo, hlo⟩ : ∃ lo, WR.heap.size = lo := ⟨_, rfl⟩
          obtain ⟨hi, hhi⟩ : ∃ hi, WQ.heap.size = hi := ⟨_, rfl⟩
          rw [hlo, hhi] at hTU
          have hlh : lo ≤ hi := by have := kx.size; omega
          have hbS : w.heap.size + 1 < lo := by have := bS.lt; omega
          try have hB6l : B6 < lo ∨ hi ≤ B6 := .inl (by have := b6.lt; omega)
          replace kk := kk.keep kx
          replace b0 := b0.keep kx
          replace bS := bS.keep kx
          try replace b6 := b6.keep kx
          have hhi' : hi ≤ WQ.heap.size := by omega
          clear kx hlo hhi
          generalize WQ = WR at *
          have hS : WR.cell? ⟨w.heap.size, 0, none⟩ = some (.int .i64 it) ∧ WR.cell? ⟨w.heap.size, 1, none⟩ = some (.slice pa m pc) ∧ WR.cell? ⟨w.heap.size, 2, none⟩ = some (.slice ra rn rc) ∧ WR.cell? ⟨w.heap.size + 1, 0, none⟩ = some (.int .i64 k) ∧ WR.cell? ⟨w.heap.size + 1, 1, none⟩ = some (.int .i64 a) ∧ WR.cell? ⟨w.heap.size + 1, 2, none⟩ = some (.int .i64 b) := ⟨b0.c0, b0.c1, b0.c2, bS.c0, bS.c1, bS.c2⟩
          refine wpAnyK_take0 5 (.tuple #[.agg #[.int .i64 tv.items, .slice w1a w1n w1c, .slice w2a w2n w2c], .bool ok]) rfl (by kernel_rfl) (fun _ _ _ h => h) hS rfl (by intro w; go_simp) ?_
          simp only [List.getElem_toArray, List.getElem_cons_succ, List.getElem_cons_zero, Act.put, List.setIfInBounds_toArray, List.set_cons_zero, List.set_cons_succ]
          refine wpAnyK_take0 6 (.agg #[.int .i64 tv.items, .slice w1a w1n w1c, .slice w2a w2n w2c]) rfl (by kernel_rfl) (fun _ _ _ h => h) hS rfl (by intro w; go_simp) ?_
          simp only [List.getElem_toArray, List.getElem_cons_succ, List.getElem_cons_zero, Act.put, List.setIfInBounds_toArray, List.set_cons_zero, List.set_cons_succ]
          refine wpAnyK_take0 7 (.bool ok) rfl (by kernel_rfl) (fun _ _ _ h => h) hS rfl (by intro w; go_simp) ?_
          simp only [List.getElem_toArray, List.getElem_cons_succ, List.getElem_cons_zero, Act.put, List.setIfInBounds_toArray, List.set_cons_zero, List.set_cons_succ]
          refine wpAnyK_tail 9 rfl (by kernel_rfl) ?_
          simp only [List.drop_succ_cons, List.drop_zero]
          obtain ⟨e0, e1, e2, cf⟩ := id b6
          have cf0 := cf 0
          have cf1 := cf 1
          have cf2 := cf 2
          clear cf
          have b6N := ((b6.set0 (.int .i64 tv.items)).set1 (.slice w1a w1n w1c)).set2 (.slice w2a w2n w2c)
          have cN := (Chg.refl (fun q => q = B6) WR).put3 (b := B6) (fun _ => rfl) (.int .i64 tv.items) (.slice w1a w1n w1c) (.slice w2a w2n w2c)
          have HEND := Lib.hid (And.intro (kk.step cN (fun q e hl => by have e : q = B6 := e; omega)) (And.intro (b0.step cN (fun e => by have e : w.heap.size = B6 := e; omega)) (And.intro (bS.step cN (fun e => by have e : w.heap.size + 1 = B6 := e; omega)) (And.intro b6N (And.intro (hTU.step cN (fun q h1 h2 e => by have e : q = B6 := e; omega)) hhi')))))
          clear b6N cN b0 bS b6 hTU kk
          go_wp2_with fail
          exact ⟨B6, lo, hi, v2, w1a, w1n, w1c, w2a, w2n, w2c, by first | rfl | simp, HEND.out.1, HEND.out.2.1, HEND.out.2.2.1, HEND.out.2.2.2.1, HEND.out.2.2.2.2.1, HEND.out.2.2.2.2.2, hlh, hbS, hB6l, hB6h⟩
      · skip
        intro K hK
        unfold Oper.wp execOp
        go_simp
        have kx := (Chg.refl No WR).alloc (.cells #[.int .i64 0, .slice none 0 0, .slice none 0 0] 31)
        refine hK.out _ _ ⟨(b0.keep kx).c0, (b0.keep kx).c1, (b0.keep kx).c2, (bS.keep kx).c0, (bS.keep kx).c1, (bS.keep kx).c2⟩ ?_
        clear hK K
        try clear hS
        simp only [List.getElem_toArray, List.getElem_cons_succ, List.getElem_cons_zero, Act.put, List.setIfInBounds_toArray, List.set_cons_zero, List.set_cons_succ]
        have b6 := Box3.new WR (.int .i64 0) (.slice none 0 0) (.slice none 0 0) 31
        obtain ⟨B6, hB6⟩ : ∃ B6, WR.heap.size = B6 := ⟨_, rfl⟩
        have hB6h : w.heap.size + 1 < B6 := by have := bS.lt; omega
        try have hB6l : B6 < lo ∨ hi ≤ B6 := .inr (by omega)
        try replace hhi' : hi ≤ (WR.alloc (.cells #[.int .i64 0, .slice none 0 0, .slice none 0 0] 31)).heap.size := by simp; omega
        rw [hB6] at b6 ⊢
        replace kk := kk.keep kx
        replace b0 := b0.keep kx
        replace bS := bS.keep kx
        try replace r2 := r2.keep kx
        try replace hTU := hTU.keep kx
        clear kx hB6
        generalize WR.alloc (.cells #[.int .i64 0, .slice none 0 0, .slice none 0 0] 31) = WR at *
        refine wpAnyK_1 1 (by kernel_rfl) (wpOpK' rfl rfl ?_)
        intro K hK
        refine ocall (f := 9) (args := #[.agg #[.int .i64 it, .slice pa m pc, .slice ra rn rc]]) (by go_simp) (toTournament_any _ t WR (HT.out.keep kk)) (fun v2 WQ h1 => hK.out _ _ ⟨(b0.keep h1.2).c0, (b0.keep h1.2).c1, (b0.keep h1.2).c2, (bS.keep h1.2).c0, (bS.keep h1.2).c1, (bS.keep h1.2).c2⟩ ?_)
        obtain ⟨r2, kx⟩ := h1
        clear hK K
        try clear hS
        simp only [List.getElem_toArray, List.getElem_cons_succ, List.getElem_cons_zero, Act.put, List.setIfInBounds_toArray, List.set_cons_zero, List.set_cons_succ]
        replace kk := kk.keep kx
        replace b0 := b0.keep kx
        replace bS := bS.keep kx
        try replace b6 := b6.keep kx
        clear kx
        generalize WQ = WR at *
        refine wpAnyK_1 3 (by kernel_rfl) (wpOpK' rfl rfl ?_)
        intro K hK
        refine ocall (f := 10) (args := #[.agg #[.int .i64 k, .int .i64 a, .int .i64 b]]) (by go_simp) (toTourStep_any k a b WR) (fun v3 WQ h1 => hK.out _ _ ⟨(b0.keep h1.2).c0, (b0.keep h1.2).c1, (b0.keep h1.2).c2, (bS.keep h1.2).c0, (bS.keep h1.2).c1, (bS.keep h1.2).c2⟩ ?_)
        obtain ⟨rfl, kx⟩ := h1
        unfold stV
        clear hK K
        try clear hS
        simp only [List.getElem_toArray, List.getElem_cons_succ, List.getElem_cons_zero, Act.put, List.setIfInBounds_toArray, List.set_cons_zero, List.set_cons_succ]
        replace kk := kk.keep kx
        replace b0 := b0.keep kx
        replace bS := bS.keep kx
        try replace b6 := b6.keep kx
        try replace r2 := r2.keep kx
        clear kx
        generalize WQ = WR at *
        refine wpAnyK_1 4 (by kernel_rfl) (wpOpK' rfl rfl ?_)
        intro K hK
        refine ocall (f := 8) (args := #[v2, .agg #[.int .i64 k, .int .i64 a, .int .i64 b]]) (by go_simp) (ret2_ret (specStep_any v2 t k a b WR r2 ok HS.out.1 tv HS.out.2)) (fun v4 WQ h1 => hK.out _ _ (by obtain ⟨_, _, _, _, _, kx⟩ := h1; exact ⟨(b0.keep kx).c0, (b0.keep kx).c1, (b0.keep kx).c2, (bS.keep kx).c0, (bS.keep kx).c1, (bS.keep kx).c2⟩) ?_)
        obtain ⟨vw, _, rfl, rfl, hTA, kx⟩ := h1
        clear hK K
        try clear hS
        simp only [List.getElem_toArray, List.getElem_cons_succ, List.getElem_cons_zero, Act.put, List.setIfInBounds_toArray, List.set_cons_zero, List.set_cons_succ]
        have hTU := hTA.u
        clear hTA r2
        obtain ⟨w1a, w1n, w1c, w2a, w2n, w2c, rfl⟩ := hTU.shape
        obtain ⟨lo, hlo⟩ : ∃ lo, WR.heap.size = lo := ⟨_, rfl⟩
        obtain ⟨hi, hhi⟩ : ∃ hi, WQ.heap.size = hi := ⟨_, rfl⟩
        rw [hlo, hhi] at hTU
        have hlh : lo ≤ hi := by have := kx.size; omega
        have hbS : w.heap.size + 1 < lo := by have := bS.lt; omega
        try have hB6l : B6 < lo ∨ hi ≤ B6 := .inl (by have := b6.lt; omega)
        replace kk := kk.keep kx
        replace b0 := b0.keep kx
        replace bS := bS.keep kx
        try replace b6 := b6.keep kx
        have hhi' : hi ≤ WQ.heap.size := by omega
        clear kx hlo hhi
        generalize WQ = WR at *
        have hS : WR.cell? ⟨w.heap.size, 0, none⟩ = some (.int .i64 it) ∧ WR.cell? ⟨w.heap.size, 1, none⟩ = some (.slice pa m pc) ∧ WR.cell? ⟨w.heap.size, 2, none⟩ = some (.slice ra rn rc) ∧ WR.cell? ⟨w.heap.size + 1, 0, none⟩ = some (.int .i64 k) ∧ WR.cell? ⟨w.heap.size + 1, 1, none⟩ = some (.int .i64 a) ∧ WR.cell? ⟨w.heap.size + 1, 2, none⟩ = some (.int .i64 b) := ⟨b0.c0, b0.c1, b0.c2, bS.c0, bS.c1, bS.c2⟩
        refine wpAnyK_take0 5 (.tuple #[.agg #[.int .i64 tv.items, .slice w1a w1n w1c, .slice w2a w2n w2c], .bool ok]) rfl (by kernel_rfl) (fun _ _ _ h => h) hS rfl (by intro w; go_simp) ?_
        simp only [List.getElem_toArray, List.getElem_cons_succ, List.getElem_cons_zero, Act.put, List.setIfInBounds_toArray, List.set_cons_zero, List.set_cons_succ]
        refine wpAnyK_take0 6 (.agg #[.int .i64 tv.items, .slice w1a w1n w1c, .slice w2a w2n w2c]) rfl (by kernel_rfl) (fun _ _ _ h => h) hS rfl (by intro w; go_simp) ?_
        simp only [List.getElem_toArray, List.getElem_cons_succ, List.getElem_cons_zero, Act.put, List.setIfInBounds_toArray, List.set_cons_zero, List.set_cons_succ]
        refine wpAnyK_take0 7 (.bool ok) rfl (by kernel_rfl) (fun _ _ _ h => h) hS rfl (by intro w; go_simp) ?_
        simp only [List.getElem_toArray, List.getElem_cons_succ, List.getElem_cons_zero, Act.put, List.setIfInBounds_toArray, List.set_cons_zero, List.set_cons_succ]
        refine wpAnyK_tail 9 rfl (by kernel_rfl) ?_
        simp only [List.drop_succ_cons, List.drop_zero]
        obtain ⟨e0, e1, e2, cf⟩ := id b6
        have cf0 := cf 0
        have cf1 := cf 1
        have cf2 := cf 2
        clear cf
        have b6N := ((b6.set0 (.int .i64 tv.items)).set1 (.slice w1a w1n w1c)).set2 (.slice w2a w2n w2c)
        have cN := (Chg.refl (fun q => q = B6) WR).put3 (b := B6) (fun _ => rfl) (.int .i64 tv.items) (.slice w1a w1n w1c) (.slice w2a w2n w2c)
        have HEND := Lib.hid (And.intro (kk.step cN (fun q e hl => by have e : q = B6 := e; omega)) (And.intro (b0.step cN (fun e => by have e : w.heap.size = B6 := e; omega)) (And.intro (bS.step cN (fun e => by have e : w.heap.size + 1 = B6 := e; omega)) (And.intro b6N (And.intro (hTU.step cN (fun q h1 h2 e => by have e : q = B6 := e; omega)) hhi')))))
        clear b6N cN b0 bS b6 hTU kk
        go_wp2_with fail
        exact ⟨B6, lo, hi, v2, w1a, w1n, w1c, w2a, w2n, w2c, by first | rfl | simp, HEND.out.1, HEND.out.2.1, HEND.out.2.2.1, HEND.out.2.2.2.1, HEND.out.2.2.2.2.1, HEND.out.2.2.2.2.2, hlh, hbS, hB6l, hB6h⟩
    · rintro _ W5 ⟨B6, lo, hi, v2, w1a, w1n, w1c, w2a, w2n, w2c, rfl, kk, b0, bS, b6, hTU, hhi, hlh, hlo, hB6l, hB6h⟩
      dsimp only
      obtain ⟨c0, c1, c2, _⟩ := id b0
      go_wp2_with fail
      refine (toTournament_own _ t _ (HT.out.keep kk)).mono ?_
      rintro e w6 ⟨v6, rfl, ⟨g, pf, mf, rv, r4⟩, k6⟩
      have hv6 := r4.1
      obtain ⟨ya, yn, yc, rfl⟩ := r4.2.2.1.shape
      obtain rfl := hv6
      have hb6s := b6.lt
      have hb6k := k6.size
      have HIN0 := r4.inF
      have b8 := Box3.new w6 (.int .i64 t.items) (.slice (some ⟨g, 0, none⟩) t.ps.length t.ps.length) (.slice ya yn yc) 31
      have ka := (Chg.refl No w6).alloc (.cells #[.int .i64 t.items, .slice (some ⟨g, 0, none⟩) t.ps.length t.ps.length, .slice ya yn yc] 31)
      clear c0 c1 c2
      obtain ⟨c0, c1, c2, _⟩ := (b0.keep k6).keep ka
      go_wp2_with fail
      clear c0 c1 c2
      obtain ⟨B8, hB8⟩ : ∃ B8, w6.heap.size = B8 := ⟨_, rfl⟩
      obtain ⟨s5, hs5⟩ : ∃ s5, W5.heap.size = s5 := ⟨_, rfl⟩
      rw [hB8] at HIN0
      rw [hs5] at HIN0 r4
      have HIN := Lib.hid HIN0
      have hB6B8 : B6 < s5 ∧ s5 ≤ B8 ∧ hi ≤ s5 := ⟨by omega, by omega, by omega⟩
      replace kk := (kk.keep k6).keep ka
      replace b0 := (b0.keep k6).keep ka
      replace bS := (bS.keep k6).keep ka
      replace b6 := (b6.keep k6).keep ka
      replace hTU := (hTU.keep k6).keep ka
      replace r4 := r4.keep ka
      replace hhi : hi ≤ (w6.alloc (.cells #[.int .i64 t.items, .slice (some ⟨g, 0, none⟩) t.ps.length t.ps.length, .slice ya yn yc] 31)).heap.size := by have := ka.size; omega
      generalize w6.alloc (.cells #[.int .i64 t.items, .slice (some ⟨g, 0, none⟩) t.ps.length t.ps.length, .slice ya yn yc] 31) = W7 at kk b0 bS b6 hTU r4 b8 hhi ⊢
      rw [hB8] at b8 ⊢
      clear k6 ka hB8 hs5 HIN0 hb6s hb6k
      refine wp_cut (fun a' w' => ∃ (B9 lo9 hi9 : Nat) (g1a : Option Addr) (g1n g1c : Nat) (g2a : Option Addr) (g2n g2c : Nat), a' = { tmps := #[.agg #[.int .i64 it, .slice pa m pc, .slice ra rn rc], .agg #[.int .i64 k, .int .i64 a, .int .i64 b], .pointer (some ⟨w.heap.size, 0, none⟩), .pointer (some ⟨w.heap.size + 1, 0, none⟩), .bool false, .int .i64 L0, .pointer (some ⟨B6, 0, none⟩), .bool ok, .pointer (some ⟨B8, 0, none⟩), .pointer (some ⟨B9, 0, none⟩), .bool ok, undef, undef, undef, undef, undef, .agg #[.int .i64 it, .slice pa m pc, .slice ra rn rc], .int .i64 1048576, .int .i64 L0, .int .i64 L0, .bool (decide (L0 < 0)), .tuple #[.agg #[.int .i64 tv.items, .slice w1a w1n w1c, .slice w2a w2n w2c], .bool ok], .agg #[.int .i64 it, .slice pa m pc, .slice ra rn rc], v2, .agg #[.int .i64 k, .int .i64 a, .int .i64 b], .agg #[.int .i64 k, .int .i64 a, .int .i64 b], .tuple #[.agg #[.int .i64 tv.items, .slice w1a w1n w1c, .slice w2a w2n w2c], .bool ok], .agg #[.int .i64 tv.items, .slice w1a w1n w1c, .slice w2a w2n w2c], .bool ok, .agg #[.int .i64 it, .slice pa m pc, .slice ra rn rc], .agg #[.int .i64 t.items, .slice (some ⟨g, 0, none⟩) t.ps.length t.ps.length, .slice ya yn yc], .tuple #[.agg #[.int .i64 tv.items, .slice g1a g1n g1c, .slice g2a g2n g2c], .bool ok], .agg #[.int .i64 t.items, .slice (some ⟨g, 0, none⟩) t.ps.length t.ps.length, .slice ya yn yc], .agg #[.int .i64 k, .int .i64 a, .int .i64 b], .agg #[.int .i64 k, .int .i64 a, .int .i64 b], .tuple #[.agg #[.int .i64 tv.items, .slice g1a g1n g1c, .slice g2a g2n g2c], .bool ok], .agg #[.int .i64 tv.items, .slice g1a g1n g1c, .slice g2a g2n g2c], .bool ok, undef, undef, undef, undef, undef, undef, undef, undef, undef, undef, undef, undef, undef, undef, undef, undef, undef, undef, undef, undef, undef, undef, undef, undef, undef, undef, undef, undef, undef, undef, undef, undef, undef, undef, undef, undef, undef, undef, undef, undef, undef, undef, undef, undef, undef, undef, undef, undef, undef, undef, undef, undef, undef, undef, undef, undef, undef, undef, undef, undef, undef, undef, undef, undef, undef, undef], defers := [] } ∧
        Chg No w w' ∧ Box3 w' w.heap.size (.int .i64 it) (.slice pa m pc) (.slice ra rn rc) ∧ Box3 w' (w.heap.size + 1) (.int .i64 k) (.int .i64 a) (.int .i64 b) ∧ Box3 w' B6 (.int .i64 tv.items) (.slice w1a w1n w1c) (.slice w2a w2n w2c) ∧
        TAU lo hi w' (.agg #[.int .i64 tv.items, .slice w1a w1n w1c, .slice w2a w2n w2c]) tv ∧ Box3 w' B8 (.int .i64 t.items) (.slice (some ⟨g, 0, none⟩) t.ps.length t.ps.length) (.slice ya yn yc) ∧ TOwn s5 w' (.agg #[.int .i64 t.items, .slice (some ⟨g, 0, none⟩) t.ps.length t.ps.length, .slice ya yn yc]) t g pf mf (.slice ya yn yc) ∧ Box3 w' B9 (.int .i64 tv.items) (.slice g1a g1n g1c) (.slice g2a g2n g2c) ∧
        TAU lo9 hi9 w' (.agg #[.int .i64 tv.items, .slice g1a g1n g1c, .slice g2a g2n g2c]) tv ∧ hi9 ≤ w'.heap.size ∧ lo9 ≤ hi9 ∧ B8 < lo9 ∧ (B9 < lo9 ∨ hi9 ≤ B9) ∧ B8 < B9) ?_ ?_
      · refine wp_region_K (S := fun W => W.cell? ⟨B8, 0, none⟩ = some (.int .i64 t.items) ∧ W.cell? ⟨B8, 1, none⟩ = some (.slice (some ⟨g, 0, none⟩) t.ps.length t.ps.length) ∧ W.cell? ⟨B8, 2, none⟩ = some (.slice ya yn yc) ∧ W.cell? ⟨w.heap.size + 1, 0, none⟩ = some (.int .i64 k) ∧ W.cell? ⟨w.heap.size + 1, 1, none⟩ = some (.int .i64 a) ∧ W.cell? ⟨w.heap.size + 1, 2, none⟩ = some (.int .i64 b)) (k := 8) (by kernel_rfl) ?_
        replace kk := kk.keep (drewN0 _)
        replace b0 := b0.keep (drewN0 _)
        replace bS := bS.keep (drewN0 _)
        replace b6 := b6.keep (drewN0 _)
        replace b8 := b8.keep (drewN0 _)
        replace hTU := hTU.keep (drewN0 _)
        replace r4 := r4.keep (drewN0 _)
        replace hhi : hi ≤ W7.drew.heap.size := hhi
        generalize W7.drew = WR at kk b0 bS b6 b8 hTU r4 hhi ⊢
        have hS : WR.cell? ⟨B8, 0, none⟩ = some (.int .i64 t.items) ∧ WR.cell? ⟨B8, 1, none⟩ = some (.slice (some ⟨g, 0, none⟩) t.ps.length t.ps.length) ∧ WR.cell? ⟨B8, 2, none⟩ = some (.slice ya yn yc) ∧ WR.cell? ⟨w.heap.size + 1, 0, none⟩ = some (.int .i64 k) ∧ WR.cell? ⟨w.heap.size + 1, 1, none⟩ = some (.int .i64 a) ∧ WR.cell? ⟨w.heap.size + 1, 2, none⟩ = some (.int .i64 b) := ⟨b8.c0, b8.c1, b8.c2, bS.c0, bS.c1, bS.c2⟩
        refine wpAnyK_takeT 0 (.agg #[.int .i64 t.items, .slice (some ⟨g, 0, none⟩) t.ps.length t.ps.length, .slice ya yn yc]) rfl (by kernel_rfl) (fun _ _ _ h => h) hS rfl (by intro w hSw; go_simp) ?_
        simp only [List.getElem_toArray, List.getElem_cons_zero, Act.put, List.setIfInBounds_toArray, List.set_cons_zero, List.set_cons_succ]
        refine wpAnyK_takeT 1 (.agg #[.int .i64 k, .int .i64 a, .int .i64 b]) rfl (by kernel_rfl) (fun _ _ _ h => h) hS rfl (by intro w hSw; go_simp) ?_
        simp only [List.getElem_toArray, List.getElem_cons_succ, List.getElem_cons_zero, Act.put, List.setIfInBounds_toArray, List.set_cons_zero, List.set_cons_succ]
        refine wpAnyK_2 2 7 (by kernel_rfl) (wpOpK' rfl rfl ?_) (wpOpK' rfl rfl ?_)
        · skip
          intro K hK
          refine ocall (f := 10) (args := #[.agg #[.int .i64 k, .int .i64 a, .int .i64 b]]) (by go_simp) (toTourStep_any k a b WR) (fun v3 WQ h1 => hK.out _ _ ⟨(b8.keep h1.2).c0, (b8.keep h1.2).c1, (b8.keep h1.2).c2, (bS.keep h1.2).c0, (bS.keep h1.2).c1, (bS.keep h1.2).c2⟩ ?_)
          obtain ⟨rfl, kx⟩ := h1
          unfold stV
          clear hK K
          try clear hS
          simp only [List.getElem_toArray, List.getElem_cons_succ, List.getElem_cons_zero, Act.put, List.setIfInBounds_toArray, List.set_cons_zero, List.set_cons_succ]
          replace kk := kk.keep kx
          replace b0 := b0.keep kx
          replace bS := bS.keep kx
          replace b6 := b6.keep kx
          replace b8 := b8.keep kx
          replace hTU := hTU.keep kx
          replace r4 := r4.keep kx
          try replace b9 := b9.keep kx
          replace hhi : hi ≤ WQ.heap.size := Nat.le_trans hhi kx.size
          clear kx
          generalize WQ = WR at *
          refine wpAnyK_2 3 7 (by kernel_rfl) (wpOpK' rfl rfl ?_) (wpOpK' rfl rfl ?_)
          · skip
            intro K hK
            refine ocall (f := 11) (args := #[.agg #[.int .i64 t.items, .slice (some ⟨g, 0, none⟩) t.ps.length t.ps.length, .slice ya yn yc], .agg #[.int .i64 k, .int .i64 a, .int .i64 b]]) (by go_simp) (ret2_ret (implStep_any _ t k a b WR (r4.rt hpn) ok HS.out.1 tv HS.out.2)) (fun v4 WQ h1 => hK.out _ _ (by obtain ⟨_, _, _, _, _, kx⟩ := h1; exact ⟨(b8.keep kx).c0, (b8.keep kx).c1, (b8.keep kx).c2, (bS.keep kx).c0, (bS.keep kx).c1, (bS.keep kx).c2⟩) ?_)
            obtain ⟨vg, _, rfl, rfl, hTA, kx⟩ := h1
            clear hK K
            try clear hS
            simp only [List.getElem_toArray, List.getElem_cons_succ, List.getElem_cons_zero, Act.put, List.setIfInBounds_toArray, List.set_cons_zero, List.set_cons_succ]
            have hT9 := hTA.u
            clear hTA
            obtain ⟨g1a, g1n, g1c, g2a, g2n, g2c, rfl⟩ := hT9.shape
            obtain ⟨lo9, hlo9⟩ : ∃ lo9, WR.heap.size = lo9 := ⟨_, rfl⟩
            obtain ⟨hi9, hhi9⟩ : ∃ hi9, WQ.heap.size = hi9 := ⟨_, rfl⟩
            rw [hlo9, hhi9] at hT9
            have hlh9 : lo9 ≤ hi9 := by have := kx.size; omega
            have hb8l : B8 < lo9 := by have := b8.lt; omega
            try have hB9l : B9 < lo9 ∨ hi9 ≤ B9 := .inl (by have := b9.lt; omega)
            replace kk := kk.keep kx
            replace b0 := b0.keep kx
            replace bS := bS.keep kx
            replace b6 := b6.keep kx
            replace b8 := b8.keep kx
            replace hTU := hTU.keep kx
            replace r4 := r4.keep kx
            try replace b9 := b9.keep kx
            have hhi9' : hi9 ≤ WQ.heap.size := by omega
            clear kx hlo9 hhi9
            generalize WQ = WR at *
            have hS : WR.cell? ⟨B8, 0, none⟩ = some (.int .i64 t.items) ∧ WR.cell? ⟨B8, 1, none⟩ = some (.slice (some ⟨g, 0, none⟩) t.ps.length t.ps.length) ∧ WR.cell? ⟨B8, 2, none⟩ = some (.slice ya yn yc) ∧ WR.cell? ⟨w.heap.size + 1, 0, none⟩ = some (.int .i64 k) ∧ WR.cell? ⟨w.heap.size + 1, 1, none⟩ = some (.int .i64 a) ∧ WR.cell? ⟨w.heap.size + 1, 2, none⟩ = some (.int .i64 b) := ⟨b8.c0, b8.c1, b8.c2, bS.c0, bS.c1, bS.c2⟩
            refine wpAnyK_take0 4 (.tuple #[.agg #[.int .i64 tv.items, .slice g1a g1n g1c, .slice g2a g2n g2c], .bool ok]) rfl (by kernel_rfl) (fun _ _ _ h => h) hS rfl (by intro w; go_simp) ?_
            simp only [List.getElem_toArray, List.getElem_cons_succ, List.getElem_cons_zero, Act.put, List.setIfInBounds_toArray, List.set_cons_zero, List.set_cons_succ]
            refine wpAnyK_take0 5 (.agg #[.int .i64 tv.items, .slice g1a g1n g1c, .slice g2a g2n g2c]) rfl (by kernel_rfl) (fun _ _ _ h => h) hS rfl (by intro w; go_simp) ?_
            simp only [List.getElem_toArray, List.getElem_cons_succ, List.getElem_cons_zero, Act.put, List.setIfInBounds_toArray, List.set_cons_zero, List.set_cons_succ]
            refine wpAnyK_take0 6 (.bool ok) rfl (by kernel_rfl) (fun _ _ _ h => h) hS rfl (by intro w; go_simp) ?_
            simp only [List.getElem_toArray, List.getElem_cons_succ, List.getElem_cons_zero, Act.put, List.setIfInBounds_toArray, List.set_cons_zero, List.set_cons_succ]
            refine wpAnyK_1 7 (by kernel_rfl) (wpOpK' rfl rfl ?_)
            intro K hK
            unfold Oper.wp execOp
            go_simp
            have kx := (Chg.refl No WR).alloc (.cells #[.int .i64 0, .slice none 0 0, .slice none 0 0] 31)
            refine hK.out _ _ ⟨(b8.keep kx).c0, (b8.keep kx).c1, (b8.keep kx).c2, (bS.keep kx).c0, (bS.keep kx).c1, (bS.keep kx).c2⟩ ?_
            clear hK K
            try clear hS
            simp only [List.getElem_toArray, List.getElem_cons_succ, List.getElem_cons_zero, Act.put, List.setIfInBounds_toArray, List.set_cons_zero, List.set_cons_succ]
            have b9 := Box3.new WR (.int .i64 0) (.slice none 0 0) (.slice none 0 0) 31
            obtain ⟨B9, hB9⟩ : ∃ B9, WR.heap.size = B9 := ⟨_, rfl⟩
            have hB9h : B8 < B9 := by have := b8.lt; omega
            try have hB9l : B9 < lo9 ∨ hi9 ≤ B9 := .inr (by omega)
            try replace hhi9' : hi9 ≤ (WR.alloc (.cells #[.int .i64 0, .slice none 0 0, .slice none 0 0] 31)).heap.size := by simp; omega
            replace hhi : hi ≤ (WR.alloc (.cells #[.int .i64 0, .slice none 0 0, .slice none 0 0] 31)).heap.size := by simp; omega
            rw [hB9] at b9 ⊢
            replace kk := kk.keep kx
            replace b0 := b0.keep kx
            replace bS := bS.keep kx
            replace b6 := b6.keep kx
            replace b8 := b8.keep kx
            replace hTU := hTU.keep kx
            replace r4 := r4.keep kx
            try replace hT9 := hT9.keep kx
            clear kx hB9
            generalize WR.alloc (.cells #[.int .i64 0, .slice none 0 0, .slice none 0 0] 31) = WR at *
            refine wpAnyK_tail 8 rfl (by kernel_rfl) ?_
            simp only [List.drop_succ_cons, List.drop_zero]
            obtain ⟨e0, e1, e2, cf⟩ := id b9
            have cf0 := cf 0
            have cf1 := cf 1
            have cf2 := cf 2
            clear cf
            have b9N := ((b9.set0 (.int .i64 tv.items)).set1 (.slice g1a g1n g1c)).set2 (.slice g2a g2n g2c)
            have cN := (Chg.refl (fun q => q = B9) WR).put3 (b := B9) (fun _ => rfl) (.int .i64 tv.items) (.slice g1a g1n g1c) (.slice g2a g2n g2c)
            have HEND := Lib.hid (And.intro (kk.step cN (fun q e hl => by have e : q = B9 := e; omega)) (And.intro (b0.step cN (fun e => by have e : w.heap.size = B9 := e; omega)) (And.intro (bS.step cN (fun e => by have e : w.heap.size + 1 = B9 := e; omega)) (And.intro (b6.step cN (fun e => by have e : B6 = B9 := e; omega)) (And.intro (hTU.step cN (fun q h1 h2 e => by have e : q = B9 := e; omega)) (And.intro (b8.step cN (fun e => by have e : B8 = B9 := e; omega)) (And.intro (r4.step cN (fun q hq e => by have e : q = B9 := e; have := (HIN.out q hq).2; omega)) (And.intro b9N (hT9.step cN (fun q h1 h2 e => by have e : q = B9 := e; omega))))))))))
            clear b9N cN b0 bS b6 hTU kk b8 b9 hT9 r4
            go_wp2_with fail
            exact ⟨B9, lo9, hi9, g1a, g1n, g1c, g2a, g2n, g2c, by first | rfl | simp, HEND.out.1, HEND.out.2.1, HEND.out.2.2.1, HEND.out.2.2.2.1, HEND.out.2.2.2.2.1, HEND.out.2.2.2.2.2.1, HEND.out.2.2.2.2.2.2.1, HEND.out.2.2.2.2.2.2.2.1, HEND.out.2.2.2.2.2.2.2.2, hhi9', hlh9, hb8l, hB9l, hB9h⟩
          · skip
            intro K hK
            unfold Oper.wp execOp
            go_simp
            have kx := (Chg.refl No WR).alloc (.cells #[.int .i64 0, .slice none 0 0, .slice none 0 0] 31)
            refine hK.out _ _ ⟨(b8.keep kx).c0, (b8.keep kx).c1, (b8.keep kx).c2, (bS.keep kx).c0, (bS.keep kx).c1, (bS.keep kx).c2⟩ ?_
            clear hK K
            try clear hS
            simp only [List.getElem_toArray, List.getElem_cons_succ, List.getElem_cons_zero, Act.put, List.setIfInBounds_toArray, List.set_cons_zero, List.set_cons_succ]
            have b9 := Box3.new WR (.int .i64 0) (.slice none 0 0) (.slice none 0 0) 31
            obtain ⟨B9, hB9⟩ : ∃ B9, WR.heap.size = B9 := ⟨_, rfl⟩
            have hB9h : B8 < B9 := by have := b8.lt; omega
            try have hB9l : B9 < lo9 ∨ hi9 ≤ B9 := .inr (by omega)
            try replace hhi9' : hi9 ≤ (WR.alloc (.cells #[.int .i64 0, .slice none 0 0, .slice none 0 0] 31)).heap.size := by simp; omega
            replace hhi : hi ≤ (WR.alloc (.cells #[.int .i64 0, .slice none 0 0, .slice none 0 0] 31)).heap.size := by simp; omega
            rw [hB9] at b9 ⊢
            replace kk := kk.keep kx
            replace b0 := b0.keep kx
            replace bS := bS.keep kx
            replace b6 := b6.keep kx
            replace b8 := b8.keep kx
            replace hTU := hTU.keep kx
            replace r4 := r4.keep kx
            try replace hT9 := hT9.keep kx
            clear kx hB9
            generalize WR.alloc (.cells #[.int .i64 0, .slice none 0 0, .slice none 0 0] 31) = WR at *
            refine wpAnyK_1 3 (by kernel_rfl) (wpOpK' rfl rfl ?_)
            intro K hK
            refine ocall (f := 11) (args := #[.agg #[.int .i64 t.items, .slice (some ⟨g, 0, none⟩) t.ps.length t.ps.length, .slice ya yn yc], .agg #[.int .i64 k, .int .i64 a, .int .i64 b]]) (by go_simp) (ret2_ret (implStep_any _ t k a b WR (r4.rt hpn) ok HS.out.1 tv HS.out.2)) (fun v4 WQ h1 => hK.out _ _ (by obtain ⟨_, _, _, _, _, kx⟩ := h1; exact ⟨(b8.keep kx).c0, (b8.keep kx).c1, (b8.keep kx).c2, (bS.keep kx).c0, (bS.keep kx).c1, (bS.keep kx).c2⟩) ?_)
            obtain ⟨vg, _, rfl, rfl, hTA, kx⟩ := h1
            clear hK K
            try clear hS
            simp only [List.getElem_toArray, List.getElem_cons_succ, List.getElem_cons_zero, Act.put, List.setIfInBounds_toArray, List.set_cons_zero, List.set_cons_succ]
            have hT9 := hTA.u
            clear hTA
            obtain ⟨g1a, g1n, g1c, g2a, g2n, g2c, rfl⟩ := hT9.shape
            obtain ⟨lo9, hlo9⟩ : ∃ lo9, WR.heap.size = lo9 := ⟨_, rfl⟩
            obtain ⟨hi9, hhi9⟩ : ∃ hi9, WQ.heap.size = hi9 := ⟨_, rfl⟩
            rw [hlo9, hhi9] at hT9
            have hlh9 : lo9 ≤ hi9 := by have := kx.size; omega
            have hb8l : B8 < lo9 := by have := b8.lt; omega
            try have hB9l : B9 < lo9 ∨ hi9 ≤ B9 := .inl (by have := b9.lt; omega)
            replace kk := kk.keep kx
            replace b0 := b0.keep kx
            replace bS := bS.keep kx
            replace b6 := b6.keep kx
            replace b8 := b8.keep kx
            replace hTU := hTU.keep kx
            replace r4 := r4.keep kx
            try replace b9 := b9.keep kx
            have hhi9' : hi9 ≤ WQ.heap.size := by omega
            clear kx hlo9 hhi9
            generalize WQ = WR at *
            have hS : WR.cell? ⟨B8, 0, none⟩ = some (.int .i64 t.items) ∧ WR.cell? ⟨B8, 1, none⟩ = some (.slice (some ⟨g, 0, none⟩) t.ps.length t.ps.length) ∧ WR.cell? ⟨B8, 2, none⟩ = some (.slice ya yn yc) ∧ WR.cell? ⟨w.heap.size + 1, 0, none⟩ = some (.int .i64 k) ∧ WR.cell? ⟨w.heap.size + 1, 1, none⟩ = some (.int .i64 a) ∧ WR.cell? ⟨w.heap.size + 1, 2, none⟩ = some (.int .i64 b) := ⟨b8.c0, b8.c1, b8.c2, bS.c0, bS.c1, bS.c2⟩
            refine wpAnyK_take0 4 (.tuple #[.agg #[.int .i64 tv.items, .slice g1a g1n g1c, .slice g2a g2n g2c], .bool ok]) rfl (by kernel_rfl) (fun _ _ _ h => h) hS rfl (by intro w; go_simp) ?_
            simp only [List.getElem_toArray, List.getElem_cons_succ, List.getElem_cons_zero, Act.put, List.setIfInBounds_toArray, List.set_cons_zero, List.set_cons_succ]
            refine wpAnyK_take0 5 (.agg #[.int .i64 tv.items, .slice g1a g1n g1c, .slice g2a g2n g2c]) rfl (by kernel_rfl) (fun _ _ _ h => h) hS rfl (by intro w; go_simp) ?_
            simp only [List.getElem_toArray, List.getElem_cons_succ, List.getElem_cons_zero, Act.put, List.setIfInBounds_toArray, List.set_cons_zero, List.set_cons_succ]
            refine wpAnyK_take0 6 (.bool ok) rfl (by kernel_rfl) (fun _ _ _ h => h) hS rfl (by intro w; go_simp) ?_
            simp only [List.getElem_toArray, List.getElem_cons_succ, List.getElem_cons_zero, Act.put, List.setIfInBounds_toArray, List.set_cons_zero, List.set_cons_succ]
            refine wpAnyK_tail 8 rfl (by kernel_rfl) ?_
            simp only [List.drop_succ_cons, List.drop_zero]
            obtain ⟨e0, e1, e2, cf⟩ := id b9
            have cf0 := cf 0
            have cf1 := cf 1
            have cf2 := cf 2
            clear cf
            have b9N := ((b9.set0 (.int .i64 tv.items)).set1 (.slice g1a g1n g1c)).set2 (.slice g2a g2n g2c)
            have cN := (Chg.refl (fun q => q = B9) WR).put3 (b := B9) (fun _ => rfl) (.int .i64 tv.items) (.slice g1a g1n g1c) (.slice g2a g2n g2c)
            have HEND := Lib.hid (And.intro (kk.step cN (fun q e hl => by have e : q = B9 := e; omega)) (And.intro (b0.step cN (fun e => by have e : w.heap.size = B9 := e; omega)) (And.intro (bS.step cN (fun e => by have e : w.heap.size + 1 = B9 := e; omega)) (And.intro (b6.step cN (fun e => by have e : B6 = B9 := e; omega)) (And.intro (hTU.step cN (fun q h1 h2 e => by have e : q = B9 := e; omega)) (And.intro (b8.step cN (fun e => by have e : B8 = B9 := e; omega)) (And.intro (r4.step cN (fun q hq e => by have e : q = B9 := e; have := (HIN.out q hq).2; omega)) (And.intro b9N (hT9.step cN (fun q h1 h2 e => by have e : q = B9 := e; omega))))))))))
            clear b9N cN b0 bS b6 hTU kk b8 b9 hT9 r4
            go_wp2_with fail
            exact ⟨B9, lo9, hi9, g1a, g1n, g1c, g2a, g2n, g2c, by first | rfl | simp, HEND.out.1, HEND.out.2.1, HEND.out.2.2.1, HEND.out.2.2.2.1, HEND.out.2.2.2.2.1, HEND.out.2.2.2.2.2.1, HEND.out.2.2.2.2.2.2.1, HEND.out.2.2.2.2.2.2.2.1, HEND.out.2.2.2.2.2.2.2.2, hhi9', hlh9, hb8l, hB9l, hB9h⟩
        · skip
          intro K hK
          unfold Oper.wp execOp
          go_simp
          have kx := (Chg.refl No WR).alloc (.cells #[.int .i64 0, .slice none 0 0, .slice none 0 0] 31)
          refine hK.out _ _ ⟨(b8.keep kx).c0, (b8.keep kx).c1, (b8.keep kx).c2, (bS.keep kx).c0, (bS.keep kx).c1, (bS.keep kx).c2⟩ ?_
          clear hK K
          try clear hS
          simp only [List.getElem_toArray, List.getElem_cons_succ, List.getElem_cons_zero, Act.put, List.setIfInBounds_toArray, List.set_cons_zero, List.set_cons_succ]
          have b9 := Box3.new WR (.int .i64 0) (.slice none 0 0) (.slice none 0 0) 31
          obtain ⟨B9, hB9⟩ : ∃ B9, WR.heap.size = B9 := ⟨_, rfl⟩
          have hB9h : B8 < B9 := by have := b8.lt; omega
          try have hB9l : B9 < lo9 ∨ hi9 ≤ B9 := .inr (by omega)
          try replace hhi9' : hi9 ≤ (WR.alloc (.cells #[.int .i64 0, .slice none 0 0, .slice none 0 0] 31)).heap.size := by simp; omega
          replace hhi : hi ≤ (WR.alloc (.cells #[.int .i64 0, .slice none 0 0, .slice none 0 0] 31)).heap.size := by simp; omega
          rw [hB9] at b9 ⊢
          replace kk := kk.keep kx
          replace b0 := b0.keep kx
          replace bS := bS.keep kx
          replace b6 := b6.keep kx
          replace b8 := b8.keep kx
          replace hTU := hTU.keep kx
          replace r4 := r4.keep kx
          try replace hT9 := hT9.keep kx
          clear kx hB9
          generalize WR.alloc (.cells #[.int .i64 0, .slice none 0 0, .slice none 0 0] 31) = WR at *
          refine wpAnyK_1 2 (by kernel_rfl) (wpOpK' rfl rfl ?_)
          intro K hK
          refine ocall (f := 10) (args := #[.agg #[.int .i64 k, .int .i64 a, .int .i64 b]]) (by go_simp) (toTourStep_any k a b WR) (fun v3 WQ h1 => hK.out _ _ ⟨(b8.keep h1.2).c0, (b8.keep h1.2).c1, (b8.keep h1.2).c2, (bS.keep h1.2).c0, (bS.keep h1.2).c1, (bS.keep h1.2).c2⟩ ?_)
          obtain ⟨rfl, kx⟩ := h1
          unfold stV
          clear hK K
          try clear hS
          simp only [List.getElem_toArray, List.getElem_cons_succ, List.getElem_cons_zero, Act.put, List.setIfInBounds_toArray, List.set_cons_zero, List.set_cons_succ]
          replace kk := kk.keep kx
          replace b0 := b0.keep kx
          replace bS := bS.keep kx
          replace b6 := b6.keep kx
          replace b8 := b8.keep kx
          replace hTU := hTU.keep kx
          replace r4 := r4.keep kx
          try replace b9 := b9.keep kx
          replace hhi : hi ≤ WQ.heap.size := Nat.le_trans hhi kx.size
          clear kx
          generalize WQ = WR at *
          refine wpAnyK_1 3 (by kernel_rfl) (wpOpK' rfl rfl ?_)
          intro K hK
          refine ocall (f := 11) (args := #[.agg #[.int .i64 t.items, .slice (some ⟨g, 0, none⟩) t.ps.length t.ps.length, .slice ya yn yc], .agg #[.int .i64 k, .int .i64 a, .int .i64 b]]) (by go_simp) (ret2_ret (implStep_any _ t k a b WR (r4.rt hpn) ok HS.out.1 tv HS.out.2)) (fun v4 WQ h1 => hK.out _ _ (by obtain ⟨_, _, _, _, _, kx⟩ := h1; exact ⟨(b8.keep kx).c0, (b8.keep kx).c1, (b8.keep kx).c2, (bS.keep kx).c0, (bS.keep kx).c1, (bS.keep kx).c2⟩) ?_)
          obtain ⟨vg, _, rfl, rfl, hTA, kx⟩ := h1
          clear hK K
          try clear hS
          simp only [List.getElem_toArray, List.getElem_cons_succ, List.getElem_cons_zero, Act.put, List.setIfInBounds_toArray, List.set_cons_zero, List.set_cons_succ]
          have hT9 := hTA.u
          clear hTA
          obtain ⟨g1a, g1n, g1c, g2a, g2n, g2c, rfl⟩ := hT9.shape
          obtain ⟨lo9, hlo9⟩ : ∃ lo9, WR.heap.size = lo9 := ⟨_, rfl⟩
          obtain ⟨hi9, hhi9⟩ : ∃ hi9, WQ.heap.size = hi9 := ⟨_, rfl⟩
          rw [hlo9, hhi9] at hT9
          have hlh9 : lo9 ≤ hi9 := by have := kx.size; omega
          have hb8l : B8 < lo9 := by have := b8.lt; omega
          try have hB9l : B9 < lo9 ∨ hi9 ≤ B9 := .inl (by have := b9.lt; omega)
          replace kk := kk.keep kx
          replace b0 := b0.keep kx
          replace bS := bS.keep kx
          replace b6 := b6.keep kx
          replace b8 := b8.keep kx
          replace hTU := hTU.keep kx
          replace r4 := r4.keep kx
          try replace b9 := b9.keep kx
          have hhi9' : hi9 ≤ WQ.heap.size := by omega
          clear kx hlo9 hhi9
          generalize WQ = WR at *
          have hS : WR.cell? ⟨B8, 0, none⟩ = some (.int .i64 t.items) ∧ WR.cell? ⟨B8, 1, none⟩ = some (.slice (some ⟨g, 0, none⟩) t.ps.length t.ps.length) ∧ WR.cell? ⟨B8, 2, none⟩ = some (.slice ya yn yc) ∧ WR.cell? ⟨w.heap.size + 1, 0, none⟩ = some (.int .i64 k) ∧ WR.cell? ⟨w.heap.size + 1, 1, none⟩ = some (.int .i64 a) ∧ WR.cell? ⟨w.heap.size + 1, 2, none⟩ = some (.int .i64 b) := ⟨b8.c0, b8.c1, b8.c2, bS.c0, bS.c1, bS.c2⟩
          refine wpAnyK_take0 4 (.tuple #[.agg #[.int .i64 tv.items, .slice g1a g1n g1c, .slice g2a g2n g2c], .bool ok]) rfl (by kernel_rfl) (fun _ _ _ h => h) hS rfl (by intro w; go_simp) ?_
          simp only [List.getElem_toArray, List.getElem_cons_succ, List.getElem_cons_zero, Act.put, List.setIfInBounds_toArray, List.set_cons_zero, List.set_cons_succ]
          refine wpAnyK_take0 5 (.agg #[.int .i64 tv.items, .slice g1a g1n g1c, .slice g2a g2n g2c]) rfl (by kernel_rfl) (fun _ _ _ h => h) hS rfl (by intro w; go_simp) ?_
          simp only [List.getElem_toArray, List.getElem_cons_succ, List.getElem_cons_zero, Act.put, List.setIfInBounds_toArray, List.set_cons_zero, List.set_cons_succ]
          refine wpAnyK_take0 6 (.bool ok) rfl (by kernel_rfl) (fun _ _ _ h => h) hS rfl (by intro w; go_simp) ?_
          simp only [List.getElem_toArray, List.getElem_cons_succ, List.getElem_cons_zero, Act.put, List.setIfInBounds_toArray, List.set_cons_zero, List.set_cons_succ]
          refine wpAnyK_tail 8 rfl (by kernel_rfl) ?_
          simp only [List.drop_succ_cons, List.drop_zero]
          obtain ⟨e0, e1, e2, cf⟩ := id b9
          have cf0 := cf 0
          have cf1 := cf 1
          have cf2 := cf 2
          clear cf
          have b9N := ((b9.set0 (.int .i64 tv.items)).set1 (.slice g1a g1n g1c)).set2 (.slice g2a g2n g2c)
          have cN := (Chg.refl (fun q => q = B9) WR).put3 (b := B9) (fun _ => rfl) (.int .i64 tv.items) (.slice g1a g1n g1c) (.slice g2a g2n g2c)
          have HEND := Lib.hid (And.intro (kk.step cN (fun q e hl => by have e : q = B9 := e; omega)) (And.intro (b0.step cN (fun e => by have e : w.heap.size = B9 := e; omega)) (And.intro (bS.step cN (fun e => by have e : w.heap.size + 1 = B9 := e; omega)) (And.intro (b6.step cN (fun e => by have e : B6 = B9 := e; omega)) (And.intro (hTU.step cN (fun q h1 h2 e => by have e : q = B9 := e; omega)) (And.intro (b8.step cN (fun e => by have e : B8 = B9 := e; omega)) (And.intro (r4.step cN (fun q hq e => by have e : q = B9 := e; have := (HIN.out q hq).2; omega)) (And.intro b9N (hT9.step cN (fun q h1 h2 e => by have e : q = B9 := e; omega))))))))))
          clear b9N cN b0 bS b6 hTU kk b8 b9 hT9 r4
          go_wp2_with fail
          exact ⟨B9, lo9, hi9, g1a, g1n, g1c, g2a, g2n, g2c, by first | rfl | simp, HEND.out.1, HEND.out.2.1, HEND.out.2.2.1, HEND.out.2.2.2.1, HEND.out.2.2.2.2.1, HEND.out.2.2.2.2.2.1, HEND.out.2.2.2.2.2.2.1, HEND.out.2.2.2.2.2.2.2.1, HEND.out.2.2.2.2.2.2.2.2, hhi9', hlh9, hb8l, hB9l, hB9h⟩
      · rintro _ W8 ⟨B9, lo9, hi9, g1a, g1n, g1c, g2a, g2n, g2c, rfl, kk, b0, bS, b6, hTU, b8, r4, b9, hT9, hhi9, hlh9, hb8l, hB9l, hB9h⟩
        dsimp only
        obtain ⟨c0, c1, c2, _⟩ := id b9
        obtain ⟨d0, d1, d2, _⟩ := id b6
        go_wp2_with fail
        refine (eqTournament_same _ _ tv W8 (hT9.rt (by omega)) (hTU.rt (by omega))).mono ?_
        rintro e w9 ⟨_, rfl, rfl, k9⟩
        clear c0 c1 c2 d0 d1 d2
        replace kk := kk.keep k9
        replace b0 := b0.keep k9
        replace bS := bS.keep k9
        replace b6 := b6.keep k9
        replace hTU := hTU.keep k9
        replace b8 := b8.keep k9
        replace r4 := r4.keep k9
        replace b9 := b9.keep k9
        replace hT9 := hT9.keep k9
        have hz9 : hi ≤ w9.heap.size ∧ hi9 ≤ w9.heap.size := by have := k9.size; have := b8.lt; omega
        clear k9
        go_wp2_with fail
        refine wp_region_K (S := fun W => W.cell? ⟨B8, 0, none⟩ = some (.int .i64 t.items) ∧ W.cell? ⟨B8, 1, none⟩ = some (.slice (some ⟨g, 0, none⟩) t.ps.length t.ps.length) ∧ W.cell? ⟨B8, 2, none⟩ = some (.slice ya yn yc) ∧ W.cell? ⟨w.heap.size, 0, none⟩ = some (.int .i64 it) ∧ W.cell? ⟨w.heap.size, 1, none⟩ = some (.slice pa m pc) ∧ W.cell? ⟨w.heap.size, 2, none⟩ = some (.slice ra rn rc)) (k := 3) (by kernel_rfl) ?_
        replace kk := kk.keep (drewN0 _)
        replace b0 := b0.keep (drewN0 _)
        replace bS := bS.keep (drewN0 _)
        replace b6 := b6.keep (drewN0 _)
        replace hTU := hTU.keep (drewN0 _)
        replace b8 := b8.keep (drewN0 _)
        replace r4 := r4.keep (drewN0 _)
        replace b9 := b9.keep (drewN0 _)
        replace hT9 := hT9.keep (drewN0 _)
        replace hz9 : hi ≤ w9.drew.heap.size ∧ hi9 ≤ w9.drew.heap.size := hz9
        generalize w9.drew = WR at kk b0 bS b6 hTU b8 r4 b9 hT9 hz9 ⊢
        have hS : WR.cell? ⟨B8, 0, none⟩ = some (.int .i64 t.items) ∧ WR.cell? ⟨B8, 1, none⟩ = some (.slice (some ⟨g, 0, none⟩) t.ps.length t.ps.length) ∧ WR.cell? ⟨B8, 2, none⟩ = some (.slice ya yn yc) ∧ WR.cell? ⟨w.heap.size, 0, none⟩ = some (.int .i64 it) ∧ WR.cell? ⟨w.heap.size, 1, none⟩ = some (.slice pa m pc) ∧ WR.cell? ⟨w.heap.size, 2, none⟩ = some (.slice ra rn rc) := ⟨b8.c0, b8.c1, b8.c2, b0.c0, b0.c1, b0.c2⟩
        refine wpAnyK_takeT 0 (.agg #[.int .i64 t.items, .slice (some ⟨g, 0, none⟩) t.ps.length t.ps.length, .slice ya yn yc]) rfl (by kernel_rfl) (fun _ _ _ h => h) hS rfl (by intro w hSw; go_simp) ?_
        simp only [List.getElem_toArray, List.getElem_cons_zero, Act.put, List.setIfInBounds_toArray, List.set_cons_zero, List.set_cons_succ]
        refine wpAnyK_takeT 1 (.agg #[.int .i64 it, .slice pa m pc, .slice ra rn rc]) rfl (by kernel_rfl) (fun _ _ _ h => h) hS rfl (by intro w hSw; go_simp) ?_
        simp only [List.getElem_toArray, List.getElem_cons_succ, List.getElem_cons_zero, Act.put, List.setIfInBounds_toArray, List.set_cons_zero, List.set_cons_succ]
        refine wpAnyK_1 2 (by kernel_rfl) (wpOpK' rfl rfl ?_)
        intro K hK
        refine ocall (f := 9) (args := #[.agg #[.int .i64 it, .slice pa m pc, .slice ra rn rc]]) (by go_simp) (toTournament_any _ t WR (HT.out.keep kk)) (fun v10 w10 h1 => hK.out _ _ ⟨(b8.keep h1.2).c0, (b8.keep h1.2).c1, (b8.keep h1.2).c2, (b0.keep h1.2).c0, (b0.keep h1.2).c1, (b0.keep h1.2).c2⟩ ?_)
        obtain ⟨r10, k10⟩ := h1
        clear hK K hS
        simp only [List.getElem_toArray, List.getElem_cons_succ, List.getElem_cons_zero, Act.put, List.setIfInBounds_toArray, List.set_cons_zero, List.set_cons_succ]
        replace kk := kk.keep k10
        replace b0 := b0.keep k10
        replace bS := bS.keep k10
        replace b6 := b6.keep k10
        replace hTU := hTU.keep k10
        replace b8 := b8.keep k10
        replace r4 := r4.keep k10
        replace b9 := b9.keep k10
        replace hT9 := hT9.keep k10
        replace hz9 : hi ≤ w10.heap.size ∧ hi9 ≤ w10.heap.size := by have := k10.size; omega
        clear k10
        refine wpAnyK_tail 3 rfl (by kernel_rfl) ?_
        simp only [List.drop_succ_cons, List.drop_zero]
        go_wp2_with fail
        refine (eqTournament_same _ _ t w10 (r4.rt hpn) r10).mono ?_
        rintro e w11 ⟨_, rfl, rfl, k11⟩
        replace kk := kk.keep k11
        replace b0 := b0.keep k11
        replace bS := bS.keep k11
        replace b6 := b6.keep k11
        replace hTU := hTU.keep k11
        replace b8 := b8.keep k11
        replace r4 := r4.keep k11
        replace b9 := b9.keep k11
        replace hT9 := hT9.keep k11
        replace hz9 : hi ≤ w11.heap.size ∧ hi9 ≤ w11.heap.size := by have := k11.size; omega
        clear k11 r10
        obtain ⟨c0, c1, c2, _⟩ := id b8
        go_wp2_with fail
        clear c0 c1 c2
        refine (markTournament_any _ _ t 1 w11 r4 hpn (by omega) hpt).mono ?_
        rintro e w12 ⟨_, rfl, rfl, _, k12⟩
        have hown : ∀ q, ownT g t.ps.length pf mf (.slice ya yn yc) q → s5 ≤ q ∧ q < B8 := fun q hq => HIN.out q hq
        replace kk := kk.step k12 (fun q e hl => by have := hown q e; omega)
        replace b0 := b0.step k12 (fun e => by have := hown _ e; omega)
        replace bS := bS.step k12 (fun e => by have := hown _ e; omega)
        replace b6 := b6.step k12 (fun e => by have := hown _ e; omega)
        replace hTU := hTU.step k12 (fun q h1 h2 e => by have := hown q e; omega)
        replace b9 := b9.step k12 (fun e => by have := hown _ e; omega)
        replace hT9 := hT9.step k12 (fun q h1 h2 e => by have := hown q e; omega)
        replace hz9 : hi ≤ w12.heap.size ∧ hi9 ≤ w12.heap.size := by have := k12.size; omega
        clear k12 r4 b8 hown
        have hneg : ¬ (1 : Int) + totPl t.ps + t.reqs.length < 0 := by omega
        obtain ⟨c0, c1, c2, _⟩ := id b9
        obtain ⟨d0, d1, d2, _⟩ := id b6
        go_wp2_with fail
        refine (eqTournament_same _ _ tv w12 (hT9.rt (by omega)) (hTU.rt (by omega))).mono ?_
        rintro e w13 ⟨_, rfl, rfl, k13⟩
        clear c0 c1 c2 d0 d1 d2
        replace kk := kk.keep k13
        replace b0 := b0.keep k13
        replace bS := bS.keep k13
        replace b6 := b6.keep k13
        replace hTU := hTU.keep k13
        replace b9 := b9.keep k13
        replace hT9 := hT9.keep k13
        replace hz9 : hi ≤ w13.heap.size ∧ hi9 ≤ w13.heap.size := by have := k13.size; omega
        clear k13
        obtain ⟨c0, c1, c2, _⟩ := id b9
        go_wp2_with fail
        clear hneg c0 c1 c2
        refine (markTAU_any lo9 hi9 _ tv 1 w13 hT9 (by omega) (by omega) (by omega)).mono ?_
        rintro e w14 ⟨_, rfl, rfl, hM, k14⟩
        replace kk := kk.step k14 (fun q e hl => by have := e.1; omega)
        replace b0 := b0.step k14 (fun e => by have := e.1; omega)
        replace bS := bS.step k14 (fun e => by have := e.1; omega)
        replace b6 := b6.step k14 (fun e => by have := e.1; omega)
        replace hTU := hTU.step k14 (fun q h1 h2 e => by have := e.1; omega)
        replace b9 := b9.step k14 (fun e => by have := e.1; have := e.2; omega)
        replace hz9 : hi ≤ w14.heap.size ∧ hi9 ≤ w14.heap.size := by have := k14.size; omega
        clear k14 hT9
        have hnq : ¬ (1 : Int) + totPl tv.ps + tv.reqs.length < 0 := by omega
        have hk1 : (1 : Int) + totPl tv.ps ≤ 100000000 := by omega
        obtain ⟨c0, c1, c2, _⟩ := id b9
        go_wp2_with fail
        refine (heldTournament_any _ tv 1 w14 hM (by omega) hk1).mono ?_
        rintro e w15 ⟨_, rfl, rfl, k15⟩
        clear c0 c1 c2
        replace kk := kk.keep k15
        replace b0 := b0.keep k15
        replace bS := bS.keep k15
        replace b6 := b6.keep k15
        replace hTU := hTU.keep k15
        replace b9 := b9.keep k15
        replace hM := hM.keep k15
        replace hz9 : hi ≤ w15.heap.size ∧ hi9 ≤ w15.heap.size := by have := k15.size; omega
        clear k15
        obtain ⟨S24, hS24⟩ : ∃ S24, w15.heap.size = S24 := ⟨_, rfl⟩
        replace hM := hM.wk (B := fun q => S24 ≤ q) (fun q e hl => by have e : S24 ≤ q := e; omega)
        have hz24 : S24 ≤ w15.heap.size := by omega
        rw [hS24] at hz9
        clear hS24
        go_wp2_with fail
        refine wp_region_K (S := fun W => W.cell? ⟨w.heap.size, 0, none⟩ = some (.int .i64 it) ∧ W.cell? ⟨w.heap.size, 1, none⟩ = some (.slice pa m pc) ∧ W.cell? ⟨w.heap.size, 2, none⟩ = some (.slice ra rn rc) ∧ W.cell? ⟨w.heap.size + 1, 0, none⟩ = some (.int .i64 k) ∧ W.cell? ⟨w.heap.size + 1, 1, none⟩ = some (.int .i64 a) ∧ W.cell? ⟨w.heap.size + 1, 2, none⟩ = some (.int .i64 b)) (k := 9) (by kernel_rfl) ?_
        replace kk := kk.keep (drewN0 _)
        replace b0 := b0.keep (drewN0 _)
        replace bS := bS.keep (drewN0 _)
        replace b6 := b6.keep (drewN0 _)
        replace hTU := hTU.keep (drewN0 _)
        replace b9 := b9.keep (drewN0 _)
        replace hM := hM.keep (drewN0 _)
        replace hz24 : S24 ≤ w15.drew.heap.size := hz24
        generalize w15.drew = WR at kk b0 bS b6 hTU b9 hM hz24 ⊢
        have hS : WR.cell? ⟨w.heap.size, 0, none⟩ = some (.int .i64 it) ∧ WR.cell? ⟨w.heap.size, 1, none⟩ = some (.slice pa m pc) ∧ WR.cell? ⟨w.heap.size, 2, none⟩ = some (.slice ra rn rc) ∧ WR.cell? ⟨w.heap.size + 1, 0, none⟩ = some (.int .i64 k) ∧ WR.cell? ⟨w.heap.size + 1, 1, none⟩ = some (.int .i64 a) ∧ WR.cell? ⟨w.heap.size + 1, 2, none⟩ = some (.int .i64 b) := ⟨b0.c0, b0.c1, b0.c2, bS.c0, bS.c1, bS.c2⟩
        refine wpAnyK_takeT 0 (.agg #[.int .i64 it, .slice pa m pc, .slice ra rn rc]) rfl (by kernel_rfl) (fun _ _ _ h => h) hS rfl (by intro w hSw; go_simp) ?_
        simp only [List.getElem_toArray, List.getElem_cons_zero, Act.put, List.setIfInBounds_toArray, List.set_cons_zero, List.set_cons_succ]
        refine wpAnyK_takeT 2 (.agg #[.int .i64 k, .int .i64 a, .int .i64 b]) rfl (by kernel_rfl) (fun _ _ _ h => h) hS rfl (by intro w hSw; go_simp) ?_
        simp only [List.getElem_toArray, List.getElem_cons_succ, List.getElem_cons_zero, Act.put, List.setIfInBounds_toArray, List.set_cons_zero, List.set_cons_succ]
        refine wpAnyK_2 1 8 (by kernel_rfl) (wpOpK' rfl rfl ?_) (wpOpK' rfl rfl ?_)
        · skip
          intro K hK
          refine ocall (f := 9) (args := #[.agg #[.int .i64 it, .slice pa m pc, .slice ra rn rc]]) (by go_simp) (toTournament_any _ t WR (HT.out.keep kk)) (fun v2 WQ h1 => hK.out _ _ ⟨(b0.keep h1.2).c0, (b0.keep h1.2).c1, (b0.keep h1.2).c2, (bS.keep h1.2).c0, (bS.keep h1.2).c1, (bS.keep h1.2).c2⟩ ?_)
          obtain ⟨r2, kx⟩ := h1
          clear hK K
          try clear hS
          simp only [List.getElem_toArray, List.getElem_cons_succ, List.getElem_cons_zero, Act.put, List.setIfInBounds_toArray, List.set_cons_zero, List.set_cons_succ]
          replace kk := kk.keep kx
          replace b0 := b0.keep kx
          replace bS := bS.keep kx
          replace b6 := b6.keep kx
          replace hTU := hTU.keep kx
          replace b9 := b9.keep kx
          replace hM := hM.keep kx
          try replace b14 := b14.keep kx
          replace hz24 : S24 ≤ WQ.heap.size := Nat.le_trans hz24 kx.size
          clear kx
          generalize WQ = WR at *
          refine wpAnyK_2 3 8 (by kernel_rfl) (wpOpK' rfl rfl ?_) (wpOpK' rfl rfl ?_)
          · skip
            intro K hK
            refine ocall (f := 10) (args := #[.agg #[.int .i64 k, .int .i64 a, .int .i64 b]]) (by go_simp) (toTourStep_any k a b WR) (fun v3 WQ h1 => hK.out _ _ ⟨(b0.keep h1.2).c0, (b0.keep h1.2).c1, (b0.keep h1.2).c2, (bS.keep h1.2).c0, (bS.keep h1.2).c1, (bS.keep h1.2).c2⟩ ?_)
            obtain ⟨rfl, kx⟩ := h1
            unfold stV
            clear hK K
            try clear hS
            simp only [List.getElem_toArray, List.getElem_cons_succ, List.getElem_cons_zero, Act.put, List.setIfInBounds_toArray, List.set_cons_zero, List.set_cons_succ]
            replace kk := kk.keep kx
            replace b0 := b0.keep kx
            replace bS := bS.keep kx
            replace b6 := b6.keep kx
            replace hTU := hTU.keep kx
            replace b9 := b9.keep kx
            replace hM := hM.keep kx
            try replace b14 := b14.keep kx
            try replace r2 := r2.keep kx
            replace hz24 : S24 ≤ WQ.heap.size := Nat.le_trans hz24 kx.size
            clear kx
            generalize WQ = WR at *
            refine wpAnyK_2 4 8 (by kernel_rfl) (wpOpK' rfl rfl ?_) (wpOpK' rfl rfl ?_)
            · skip
              intro K hK
              refine ocall (f := 11) (args := #[v2, .agg #[.int .i64 k, .int .i64 a, .int .i64 b]]) (by go_simp) (ret2_ret (implStep_any v2 t k a b WR r2 ok HS.out.1 tv HS.out.2)) (fun v4 WQ h1 => hK.out _ _ (by obtain ⟨_, _, _, _, _, kx⟩ := h1; exact ⟨(b0.keep kx).c0, (b0.keep kx).c1, (b0.keep kx).c2, (bS.keep kx).c0, (bS.keep kx).c1, (bS.keep kx).c2⟩) ?_)
              obtain ⟨vh, _, rfl, rfl, hTA, kx⟩ := h1
              clear hK K
              try clear hS
              simp only [List.getElem_toArray, List.getElem_cons_succ, List.getElem_cons_zero, Act.put, List.setIfInBounds_toArray, List.set_cons_zero, List.set_cons_succ]
              have hRH := hTA.rt (by omega) (A := No) (fun _ _ e => e)
              have hTUH := hTA.u
              obtain ⟨h1a, h1n, h1c, h2a, h2n, h2c, rfl⟩ := hTUH.shape
              clear hTUH
              have hHlo : WR.heap.size ≤ WQ.heap.size := kx.size
              have hTB := hTA
              clear hTA r2
              try have hB14l : B14 < WR.heap.size := by have := b14.lt; omega
              obtain ⟨sH, hsH⟩ : ∃ sH, WR.heap.size = sH := ⟨_, rfl⟩
              try rw [hsH] at hB14l
              rw [hsH] at hTB
              obtain ⟨sI, hsI⟩ : ∃ sI, WQ.heap.size = sI := ⟨_, rfl⟩
              have hTB := hTB.u
              rw [hsI] at hTB
              try have hB14l : B14 < sH ∨ sI ≤ B14 := .inl hB14l
              have hsI2 : sI ≤ WQ.heap.size := by omega
              clear hsI
              replace kk := kk.keep kx
              replace b0 := b0.keep kx
              replace bS := bS.keep kx
              replace b6 := b6.keep kx
              replace hTU := hTU.keep kx
              replace b9 := b9.keep kx
              replace hM := hM.keep kx
              try replace b14 := b14.keep kx
              replace hz24 : S24 ≤ WQ.heap.size := Nat.le_trans hz24 kx.size
              clear kx hsH hHlo hRH
              generalize WQ = WR at *
              have hS : WR.cell? ⟨w.heap.size, 0, none⟩ = some (.int .i64 it) ∧ WR.cell? ⟨w.heap.size, 1, none⟩ = some (.slice pa m pc) ∧ WR.cell? ⟨w.heap.size, 2, none⟩ = some (.slice ra rn rc) ∧ WR.cell? ⟨w.heap.size + 1, 0, none⟩ = some (.int .i64 k) ∧ WR.cell? ⟨w.heap.size + 1, 1, none⟩ = some (.int .i64 a) ∧ WR.cell? ⟨w.heap.size + 1, 2, none⟩ = some (.int .i64 b) := ⟨b0.c0, b0.c1, b0.c2, bS.c0, bS.c1, bS.c2⟩
              refine wpAnyK_take0 5 (.tuple #[.agg #[.int .i64 tv.items, .slice h1a h1n h1c, .slice h2a h2n h2c], .bool ok]) rfl (by kernel_rfl) (fun _ _ _ h => h) hS rfl (by intro w; go_simp) ?_
              simp only [List.getElem_toArray, List.getElem_cons_succ, List.getElem_cons_zero, Act.put, List.setIfInBounds_toArray, List.set_cons_zero, List.set_cons_succ]
              refine wpAnyK_take0 6 (.agg #[.int .i64 tv.items, .slice h1a h1n h1c, .slice h2a h2n h2c]) rfl (by kernel_rfl) (fun _ _ _ h => h) hS rfl (by intro w; go_simp) ?_
              simp only [List.getElem_toArray, List.getElem_cons_succ, List.getElem_cons_zero, Act.put, List.setIfInBounds_toArray, List.set_cons_zero, List.set_cons_succ]
              refine wpAnyK_take0 7 (.bool ok) rfl (by kernel_rfl) (fun _ _ _ h => h) hS rfl (by intro w; go_simp) ?_
              simp only [List.getElem_toArray, List.getElem_cons_succ, List.getElem_cons_zero, Act.put, List.setIfInBounds_toArray, List.set_cons_zero, List.set_cons_succ]
              refine wpAnyK_1 8 (by kernel_rfl) (wpOpK' rfl rfl ?_)
              intro K hK
              unfold Oper.wp execOp
              go_simp
              have kx := (Chg.refl No WR).alloc (.cells #[.int .i64 0, .slice none 0 0, .slice none 0 0] 31)
              refine hK.out _ _ ⟨(b0.keep kx).c0, (b0.keep kx).c1, (b0.keep kx).c2, (bS.keep kx).c0, (bS.keep kx).c1, (bS.keep kx).c2⟩ ?_
              clear hK K
              try clear hS
              simp only [List.getElem_toArray, List.getElem_cons_succ, List.getElem_cons_zero, Act.put, List.setIfInBounds_toArray, List.set_cons_zero, List.set_cons_succ]
              have b14 := Box3.new WR (.int .i64 0) (.slice none 0 0) (.slice none 0 0) 31
              obtain ⟨B14, hB14⟩ : ∃ B14, WR.heap.size = B14 := ⟨_, rfl⟩
              have hB14h : B9 < B14 ∧ B6 < B14 ∧ w.heap.size + 1 < B14 ∧ hi ≤ B14 := by have := b9.lt; have := b6.lt; have := bS.lt; omega
              have hB14s : S24 ≤ B14 := by omega
              try have hB14l : B14 < sH ∨ sI ≤ B14 := .inr (by omega)
              rw [hB14] at b14 ⊢
              replace kk := kk.keep kx
              replace b0 := b0.keep kx
              replace bS := bS.keep kx
              replace b6 := b6.keep kx
              replace hTU := hTU.keep kx
              replace b9 := b9.keep kx
              replace hM := hM.keep kx
              try replace r2 := r2.keep kx
              try replace hTB := hTB.keep kx
              replace hz24 : S24 ≤ (WR.alloc (.cells #[.int .i64 0, .slice none 0 0, .slice none 0 0] 31)).heap.size := Nat.le_trans hz24 kx.size
              clear kx hB14
              generalize WR.alloc (.cells #[.int .i64 0, .slice none 0 0, .slice none 0 0] 31) = WR at *
              refine wpAnyK_tail 9 rfl (by kernel_rfl) ?_
              simp only [List.drop_succ_cons, List.drop_zero]
              obtain ⟨e0, e1, e2, cf⟩ := id b14
              have cf0 := cf 0
              have cf1 := cf 1
              have cf2 := cf 2
              clear cf
              have b14N := ((b14.set0 (.int .i64 tv.items)).set1 (.slice h1a h1n h1c)).set2 (.slice h2a h2n h2c)
              have cN := (Chg.refl (fun q => q = B14) WR).put3 (b := B14) (fun _ => rfl) (.int .i64 tv.items) (.slice h1a h1n h1c) (.slice h2a h2n h2c)
              obtain ⟨WN, hWN⟩ : ∃ WN, (((WR.setCell ⟨B14, 0, none⟩ (.int .i64 tv.items)).setCell ⟨B14, 1, none⟩ (.slice h1a h1n h1c)).setCell ⟨B14, 2, none⟩ (.slice h2a h2n h2c)) = WN := ⟨_, rfl⟩
              rw [hWN] at b14N cN
              replace kk := kk.step cN (fun q e hl => by have e : q = B14 := e; omega)
              replace b6 := b6.step cN (fun e => by have e : B6 = B14 := e; omega)
              replace b9 := b9.step cN (fun e => by have e : B9 = B14 := e; omega)
              replace hTU := hTU.step cN (fun q h1 h2 e => by have e : q = B14 := e; omega)
              replace hTB := hTB.step cN (fun q h1 h2 e => by have e : q = B14 := e; omega)
              replace hM := hM.stp cN (fun q e => by have e : q = B14 := e; show S24 ≤ q; omega)
              clear cN b0 bS b14
              obtain ⟨c0, c1, c2, _⟩ := id b14N
              obtain ⟨d0, d1, d2, _⟩ := id b6
              go_wp2_with fail
              refine (eqTournament_same _ _ tv WN (hTB.rt (by omega)) (hTU.rt (by omega))).mono ?_
              rintro e w20 ⟨_, rfl, rfl, k20⟩
              clear c0 c1 c2 d0 d1 d2 e0 e1 e2 cf0 cf1 cf2
              replace kk := kk.keep k20
              replace b9 := b9.keep k20
              replace hM := hM.keep k20
              clear k20
              obtain ⟨c0, c1, c2, _⟩ := id b9
              go_wp2_with fail
              refine (heldTournament_any _ tv 1 w20 (hM.wk (fun q e _ => e.elim)) (by omega) hk1).mono ?_
              rintro e w21 ⟨_, rfl, rfl, k21⟩
              clear c0 c1 c2
              replace kk := kk.keep k21
              go_wp2_with fail
              go_ret
              exact ⟨rfl, kk⟩
            · skip
              intro K hK
              unfold Oper.wp execOp
              go_simp
              have kx := (Chg.refl No WR).alloc (.cells #[.int .i64 0, .slice none 0 0, .slice none 0 0] 31)
              refine hK.out _ _ ⟨(b0.keep kx).c0, (b0.keep kx).c1, (b0.keep kx).c2, (bS.keep kx).c0, (bS.keep kx).c1, (bS.keep kx).c2⟩ ?_
              clear hK K
              try clear hS
              simp only [List.getElem_toArray, List.getElem_cons_succ, List.getElem_cons_zero, Act.put, List.setIfInBounds_toArray, List.set_cons_zero, List.set_cons_succ]
              have b14 := Box3.new WR (.int .i64 0) (.slice none 0 0) (.slice none 0 0) 31
              obtain ⟨B14, hB14⟩ : ∃ B14, WR.heap.size = B14 := ⟨_, rfl⟩
              have hB14h : B9 < B14 ∧ B6 < B14 ∧ w.heap.size + 1 < B14 ∧ hi ≤ B14 := by have := b9.lt; have := b6.lt; have := bS.lt; omega
              have hB14s : S24 ≤ B14 := by omega
              try have hB14l : B14 < sH ∨ sI ≤ B14 := .inr (by omega)
              rw [hB14] at b14 ⊢
              replace kk := kk.keep kx
              replace b0 := b0.keep kx
              replace bS := bS.keep kx
              replace b6 := b6.keep kx
              replace hTU := hTU.keep kx
              replace b9 := b9.keep kx
              replace hM := hM.keep kx
              try replace r2 := r2.keep kx
              try replace hTB := hTB.keep kx
              replace hz24 : S24 ≤ (WR.alloc (.cells #[.int .i64 0, .slice none 0 0, .slice none 0 0] 31)).heap.size := Nat.le_trans hz24 kx.size
              clear kx hB14
              generalize WR.alloc (.cells #[.int .i64 0, .slice none 0 0, .slice none 0 0] 31) = WR at *
              refine wpAnyK_1 4 (by kernel_rfl) (wpOpK' rfl rfl ?_)
              intro K hK
              refine ocall (f := 11) (args := #[v2, .agg #[.int .i64 k, .int .i64 a, .int .i64 b]]) (by go_simp) (ret2_ret (implStep_any v2 t k a b WR r2 ok HS.out.1 tv HS.out.2)) (fun v4 WQ h1 => hK.out _ _ (by obtain ⟨_, _, _, _, _, kx⟩ := h1; exact ⟨(b0.keep kx).c0, (b0.keep kx).c1, (b0.keep kx).c2, (bS.keep kx).c0, (bS.keep kx).c1, (bS.keep kx).c2⟩) ?_)
              obtain ⟨vh, _, rfl, rfl, hTA, kx⟩ := h1
              clear hK K
              try clear hS
              simp only [List.getElem_toArray, List.getElem_cons_succ, List.getElem_cons_zero, Act.put, List.setIfInBounds_toArray, List.set_cons_zero, List.set_cons_succ]
              have hRH := hTA.rt (by omega) (A := No) (fun _ _ e => e)
              have hTUH := hTA.u
              obtain ⟨h1a, h1n, h1c, h2a, h2n, h2c, rfl⟩ := hTUH.shape
              clear hTUH
              have hHlo : WR.heap.size ≤ WQ.heap.size := kx.size
              have hTB := hTA
              clear hTA r2
              try have hB14l : B14 < WR.heap.size := by have := b14.lt; omega
              obtain ⟨sH, hsH⟩ : ∃ sH, WR.heap.size = sH := ⟨_, rfl⟩
              try rw [hsH] at hB14l
              rw [hsH] at hTB
              obtain ⟨sI, hsI⟩ : ∃ sI, WQ.heap.size = sI := ⟨_, rfl⟩
              have hTB := hTB.u
              rw [hsI] at hTB
              try have hB14l : B14 < sH ∨ sI ≤ B14 := .inl hB14l
              have hsI2 : sI ≤ WQ.heap.size := by omega
              clear hsI
              replace kk := kk.keep kx
              replace b0 := b0.keep kx
              replace bS := bS.keep kx
              replace b6 := b6.keep kx
              replace hTU := hTU.keep kx
              replace b9 := b9.keep kx
              replace hM := hM.keep kx
              try replace b14 := b14.keep kx
              replace hz24 : S24 ≤ WQ.heap.size := Nat.le_trans hz24 kx.size
              clear kx hsH hHlo hRH
              generalize WQ = WR at *
              have hS : WR.cell? ⟨w.heap.size, 0, none⟩ = some (.int .i64 it) ∧ WR.cell? ⟨w.heap.size, 1, none⟩ = some (.slice pa m pc) ∧ WR.cell? ⟨w.heap.size, 2, none⟩ = some (.slice ra rn rc) ∧ WR.cell? ⟨w.heap.size + 1, 0, none⟩ = some (.int .i64 k) ∧ WR.cell? ⟨w.heap.size + 1, 1, none⟩ = some (.int .i64 a) ∧ WR.cell? ⟨w.heap.size + 1, 2, none⟩ = some (.int .i64 b) := ⟨b0.c0, b0.c1, b0.c2, bS.c0, bS.c1, bS.c2⟩
              refine wpAnyK_take0 5 (.tuple #[.agg #[.int .i64 tv.items, .slice h1a h1n h1c, .slice h2a h2n h2c], .bool ok]) rfl (by kernel_rfl) (fun _ _ _ h => h) hS rfl (by intro w; go_simp) ?_
              simp only [List.getElem_toArray, List.getElem_cons_succ, List.getElem_cons_zero, Act.put, List.setIfInBounds_toArray, List.set_cons_zero, List.set_cons_succ]
              refine wpAnyK_take0 6 (.agg #[.int .i64 tv.items, .slice h1a h1n h1c, .slice h2a h2n h2c]) rfl (by kernel_rfl) (fun _ _ _ h => h) hS rfl (by intro w; go_simp) ?_
              simp only [List.getElem_toArray, List.getElem_cons_succ, List.getElem_cons_zero, Act.put, List.setIfInBounds_toArray, List.set_cons_zero, List.set_cons_succ]
              refine wpAnyK_take0 7 (.bool ok) rfl (by kernel_rfl) (fun _ _ _ h => h) hS rfl (by intro w; go_simp) ?_
              simp only [List.getElem_toArray, List.getElem_cons_succ, List.getElem_cons_zero, Act.put, List.setIfInBounds_toArray, List.set_cons_zero, List.set_cons_succ]
              refine wpAnyK_tail 9 rfl (by kernel_rfl) ?_
              simp only [List.drop_succ_cons, List.drop_zero]
              obtain ⟨e0, e1, e2, cf⟩ := id b14
              have cf0 := cf 0
              have cf1 := cf 1
              have cf2 := cf 2
              clear cf
              have b14N := ((b14.set0 (.int .i64 tv.items)).set1 (.slice h1a h1n h1c)).set2 (.slice h2a h2n h2c)
              have cN := (Chg.refl (fun q => q = B14) WR).put3 (b := B14) (fun _ => rfl) (.int .i64 tv.items) (.slice h1a h1n h1c) (.slice h2a h2n h2c)
              obtain ⟨WN, hWN⟩ : ∃ WN, (((WR.setCell ⟨B14, 0, none⟩ (.int .i64 tv.items)).setCell ⟨B14, 1, none⟩ (.slice h1a h1n h1c)).setCell ⟨B14, 2, none⟩ (.slice h2a h2n h2c)) = WN := ⟨_, rfl⟩
              rw [hWN] at b14N cN
              replace kk := kk.step cN (fun q e hl => by have e : q = B14 := e; omega)
              replace b6 := b6.step cN (fun e => by have e : B6 = B14 := e; omega)
              replace b9 := b9.step cN (fun e => by have e : B9 = B14 := e; omega)
              replace hTU := hTU.step cN (fun q h1 h2 e => by have e : q = B14 := e; omega)
              replace hTB := hTB.step cN (fun q h1 h2 e => by have e : q = B14 := e; omega)
              replace hM := hM.stp cN (fun q e => by have e : q = B14 := e; show S24 ≤ q; omega)
              clear cN b0 bS b14
              obtain ⟨c0, c1, c2, _⟩ := id b14N
              obtain ⟨d0, d1, d2, _⟩ := id b6
              go_wp2_with fail
              refine (eqTournament_same _ _ tv WN (hTB.rt (by omega)) (hTU.rt (by omega))).mono ?_
              rintro e w20 ⟨_, rfl, rfl, k20⟩
              clear c0 c1 c2 d0 d1 d2 e0 e1 e2 cf0 cf1 cf2
              replace kk := kk.keep k20
              replace b9 := b9.keep k20
              replace hM := hM.keep k20
              clear k20
              obtain ⟨c0, c1, c2, _⟩ := id b9
              go_wp2_with fail
              refine (heldTournament_any _ tv 1 w20 (hM.wk (fun q e _ => e.elim)) (by omega) hk1).mono ?_
              rintro e w21 ⟨_, rfl, rfl, k21⟩
              clear c0 c1 c2
              replace kk := kk.keep k21
              go_wp2_with fail
              go_ret
              exact ⟨rfl, kk⟩
          · skip
            intro K hK
            unfold Oper.wp execOp
            go_simp
            have kx := (Chg.refl No WR).alloc (.cells #[.int .i64 0, .slice none 0 0, .slice none 0 0] 31)
            refine hK.out _ _ ⟨(b0.keep kx).c0, (b0.keep kx).c1, (b0.keep kx).c2, (bS.keep kx).c0, (bS.keep kx).c1, (bS.keep kx).c2⟩ ?_
            clear hK K
            try clear hS
            simp only [List.getElem_toArray, List.getElem_cons_succ, List.getElem_cons_zero, Act.put, List.setIfInBounds_toArray, List.set_cons_zero, List.set_cons_succ]
            have b14 := Box3.new WR (.int .i64 0) (.slice none 0 0) (.slice none 0 0) 31
            obtain ⟨B14, hB14⟩ : ∃ B14, WR.heap.size = B14 := ⟨_, rfl⟩
            have hB14h : B9 < B14 ∧ B6 < B14 ∧ w.heap.size + 1 < B14 ∧ hi ≤ B14 := by have := b9.lt; have := b6.lt; have := bS.lt; omega
            have hB14s : S24 ≤ B14 := by omega
            try have hB14l : B14 < sH ∨ sI ≤ B14 := .inr (by omega)
            rw [hB14] at b14 ⊢
            replace kk := kk.keep kx
            replace b0 := b0.keep kx
            replace bS := bS.keep kx
            replace b6 := b6.keep kx
            replace hTU := hTU.keep kx
            replace b9 := b9.keep kx
            replace hM := hM.keep kx
            try replace r2 := r2.keep kx
            try replace hTB := hTB.keep kx
            replace hz24 : S24 ≤ (WR.alloc (.cells #[.int .i64 0, .slice none 0 0, .slice none 0 0] 31)).heap.size := Nat.le_trans hz24 kx.size
            clear kx hB14
            generalize WR.alloc (.cells #[.int .i64 0, .slice none 0 0, .slice none 0 0] 31) = WR at *
            refine wpAnyK_1 3 (by kernel_rfl) (wpOpK' rfl rfl ?_)
            intro K hK
            refine ocall (f := 10) (args := #[.agg #[.int .i64 k, .int .i64 a, .int .i64 b]]) (by go_simp) (toTourStep_any k a b WR) (fun v3 WQ h1 => hK.out _ _ ⟨(b0.keep h1.2).c0, (b0.keep h1.2).c1, (b0.keep h1.2).c2, (bS.keep h1.2).c0, (bS.keep h1.2).c1, (bS.keep h1.2).c2⟩ ?_)
            obtain ⟨rfl, kx⟩ := h1
            unfold stV
            clear hK K
            try clear hS
            simp only [List.getElem_toArray, List.getElem_cons_succ, List.getElem_cons_zero, Act.put, List.setIfInBounds_toArray, List.set_cons_zero, List.set_cons_succ]
            replace kk := kk.keep kx
            replace b0 := b0.keep kx
            replace bS := bS.keep kx
            replace b6 := b6.keep kx
            replace hTU := hTU.keep kx
            replace b9 := b9.keep kx
            replace hM := hM.keep kx
            try replace b14 := b14.keep kx
            try replace r2 := r2.keep kx
            replace hz24 : S24 ≤ WQ.heap.size := Nat.le_trans hz24 kx.size
            clear kx
            generalize WQ = WR at *
            refine wpAnyK_1 4 (by kernel_rfl) (wpOpK' rfl rfl ?_)
            intro K hK
            refine ocall (f := 11) (args := #[v2, .agg #[.int .i64 k, .int .i64 a, .int .i64 b]]) (by go_simp) (ret2_ret (implStep_any v2 t k a b WR r2 ok HS.out.1 tv HS.out.2)) (fun v4 WQ h1 => hK.out _ _ (by obtain ⟨_, _, _, _, _, kx⟩ := h1; exact ⟨(b0.keep kx).c0, (b0.keep kx).c1, (b0.keep kx).c2, (bS.keep kx).c0, (bS.keep kx).c1, (bS.keep kx).c2⟩) ?_)
            obtain ⟨vh, _, rfl, rfl, hTA, kx⟩ := h1
            clear hK K
            try clear hS
            simp only [List.getElem_toArray, List.getElem_cons_succ, List.getElem_cons_zero, Act.put, List.setIfInBounds_toArray, List.set_cons_zero, List.set_cons_succ]
            have hRH := hTA.rt (by omega) (A := No) (fun _ _ e => e)
            have hTUH := hTA.u
            obtain ⟨h1a, h1n, h1c, h2a, h2n, h2c, rfl⟩ := hTUH.shape
            clear hTUH
            have hHlo : WR.heap.size ≤ WQ.heap.size := kx.size
            have hTB := hTA
            clear hTA r2
            try have hB14l : B14 < WR.heap.size := by have := b14.lt; omega
            obtain ⟨sH, hsH⟩ : ∃ sH, WR.heap.size = sH := ⟨_, rfl⟩
            try rw [hsH] at hB14l
            rw [hsH] at hTB
            obtain ⟨sI, hsI⟩ : ∃ sI, WQ.heap.size = sI := ⟨_, rfl⟩
            have hTB := hTB.u
            rw [hsI] at hTB
            try have hB14l : B14 < sH ∨ sI ≤ B14 := .inl hB14l
            have hsI2 : sI ≤ WQ.heap.size := by omega
            clear hsI
            replace kk := kk.keep kx
            replace b0 := b0.keep kx
            replace bS := bS.keep kx
            replace b6 := b6.keep kx
            replace hTU := hTU.keep kx
            replace b9 := b9.keep kx
            replace hM := hM.keep kx
            try replace b14 := b14.keep kx
            replace hz24 : S24 ≤ WQ.heap.size := Nat.le_trans hz24 kx.size
            clear kx hsH hHlo hRH
            generalize WQ = WR at *
            have hS : WR.cell? ⟨w.heap.size, 0, none⟩ = some (.int .i64 it) ∧ WR.cell? ⟨w.heap.size, 1, none⟩ = some (.slice pa m pc) ∧ WR.cell? ⟨w.heap.size, 2, none⟩ = some (.slice ra rn rc) ∧ WR.cell? ⟨w.heap.size + 1, 0, none⟩ = some (.int .i64 k) ∧ WR.cell? ⟨w.heap.size + 1, 1, none⟩ = some (.int .i64 a) ∧ WR.cell? ⟨w.heap.size + 1, 2, none⟩ = some (.int .i64 b) := ⟨b0.c0, b0.c1, b0.c2, bS.c0, bS.c1, bS.c2⟩
            refine wpAnyK_take0 5 (.tuple #[.agg #[.int .i64 tv.items, .slice h1a h1n h1c, .slice h2a h2n h2c], .bool ok]) rfl (by kernel_rfl) (fun _ _ _ h => h) hS rfl (by intro w; go_simp) ?_
            simp only [List.getElem_toArray, List.getElem_cons_succ, List.getElem_cons_zero, Act.put, List.setIfInBounds_toArray, List.set_cons_zero, List.set_cons_succ]
            refine wpAnyK_take0 6 (.agg #[.int .i64 tv.items, .slice h1a h1n h1c, .slice h2a h2n h2c]) rfl (by kernel_rfl) (fun _ _ _ h => h) hS rfl (by intro w; go_simp) ?_
            simp only [List.getElem_toArray, List.getElem_cons_succ, List.getElem_cons_zero, Act.put, List.setIfInBounds_toArray, List.set_cons_zero, List.set_cons_succ]
            refine wpAnyK_take0 7 (.bool ok) rfl (by kernel_rfl) (fun _ _ _ h => h) hS rfl (by intro w; go_simp) ?_
            simp only [List.getElem_toArray, List.getElem_cons_succ, List.getElem_cons_zero, Act.put, List.setIfInBounds_toArray, List.set_cons_zero, List.set_cons_succ]
            refine wpAnyK_tail 9 rfl (by kernel_rfl) ?_
            simp only [List.drop_succ_cons, List.drop_zero]
            obtain ⟨e0, e1, e2, cf⟩ := id b14
            have cf0 := cf 0
            have cf1 := cf 1
            have cf2 := cf 2
            clear cf
            have b14N := ((b14.set0 (.int .i64 tv.items)).set1 (.slice h1a h1n h1c)).set2 (.slice h2a h2n h2c)
            have cN := (Chg.refl (fun q => q = B14) WR).put3 (b := B14) (fun _ => rfl) (.int .i64 tv.items) (.slice h1a h1n h1c) (.slice h2a h2n h2c)
            obtain ⟨WN, hWN⟩ : ∃ WN, (((WR.setCell ⟨B14, 0, none⟩ (.int .i64 tv.items)).setCell ⟨B14, 1, none⟩ (.slice h1a h1n h1c)).setCell ⟨B14, 2, none⟩ (.slice h2a h2n h2c)) = WN := ⟨_, rfl⟩
            rw [hWN] at b14N cN
            replace kk := kk.step cN (fun q e hl => by have e : q = B14 := e; omega)
            replace b6 := b6.step cN (fun e => by have e : B6 = B14 := e; omega)
            replace b9 := b9.step cN (fun e => by have e : B9 = B14 := e; omega)
            replace hTU := hTU.step cN (fun q h1 h2 e => by have e : q = B14 := e; omega)
            replace hTB := hTB.step cN (fun q h1 h2 e => by have e : q = B14 := e; omega)
            replace hM := hM.stp cN (fun q e => by have e : q = B14 := e; show S24 ≤ q; omega)
            clear cN b0 bS b14
            obtain ⟨c0, c1, c2, _⟩ := id b14N
            obtain ⟨d0, d1, d2, _⟩ := id b6
            go_wp2_with fail
            refine (eqTournament_same _ _ tv WN (hTB.rt (by omega)) (hTU.rt (by omega))).mono ?_
            rintro e w20 ⟨_, rfl, rfl, k20⟩
            clear c0 c1 c2 d0 d1 d2 e0 e1 e2 cf0 cf1 cf2
            replace kk := kk.keep k20
            replace b9 := b9.keep k20
            replace hM := hM.keep k20
            clear k20
            obtain ⟨c0, c1, c2, _⟩ := id b9
            go_wp2_with fail
            refine (heldTournament_any _ tv 1 w20 (hM.wk (fun q e _ => e.elim)) (by omega) hk1).mono ?_
            rintro e w21 ⟨_, rfl, rfl, k21⟩
            clear c0 c1 c2
            replace kk := kk.keep k21
            go_wp2_with fail
            go_ret
            exact ⟨rfl, kk⟩
        · skip
          intro K hK
          unfold Oper.wp execOp
          go_simp
          have kx := (Chg.refl No WR).alloc (.cells #[.int .i64 0, .slice none 0 0, .slice none 0 0] 31)
          refine hK.out _ _ ⟨(b0.keep kx).c0, (b0.keep kx).c1, (b0.keep kx).c2, (bS.keep kx).c0, (bS.keep kx).c1, (bS.keep kx).c2⟩ ?_
          clear hK K
          try clear hS
          simp only [List.getElem_toArray, List.getElem_cons_succ, List.getElem_cons_zero, Act.put, List.setIfInBounds_toArray, List.set_cons_zero, List.set_cons_succ]
          have b14 := Box3.new WR (.int .i64 0) (.slice none 0 0) (.slice none 0 0) 31
          obtain ⟨B14, hB14⟩ : ∃ B14, WR.heap.size = B14 := ⟨_, rfl⟩
          have hB14h : B9 < B14 ∧ B6 < B14 ∧ w.heap.size + 1 < B14 ∧ hi ≤ B14 := by have := b9.lt; have := b6.lt; have := bS.lt; omega
          have hB14s : S24 ≤ B14 := by omega
          try have hB14l : B14 < sH ∨ sI ≤ B14 := .inr (by omega)
          rw [hB14] at b14 ⊢
          replace kk := kk.keep kx
          replace b0 := b0.keep kx
          replace bS := bS.keep kx
          replace b6 := b6.keep kx
          replace hTU := hTU.keep kx
          replace b9 := b9.keep kx
          replace hM := hM.keep kx
          try replace r2 := r2.keep kx
          try replace hTB := hTB.keep kx
          replace hz24 : S24 ≤ (WR.alloc (.cells #[.int .i64 0, .slice none 0 0, .slice none 0 0] 31)).heap.size := Nat.le_trans hz24 kx.size
          clear kx hB14
          generalize WR.alloc (.cells #[.int .i64 0, .slice none 0 0, .slice none 0 0] 31) = WR at *
          refine wpAnyK_1 1 (by kernel_rfl) (wpOpK' rfl rfl ?_)
          intro K hK
          refine ocall (f := 9) (args := #[.agg #[.int .i64 it, .slice pa m pc, .slice ra rn rc]]) (by go_simp) (toTournament_any _ t WR (HT.out.keep kk)) (fun v2 WQ h1 => hK.out _ _ ⟨(b0.keep h1.2).c0, (b0.keep h1.2).c1, (b0.keep h1.2).c2, (bS.keep h1.2).c0, (bS.keep h1.2).c1, (bS.keep h1.2).c2⟩ ?_)
          obtain ⟨r2, kx⟩ := h1
          clear hK K
          try clear hS
          simp only [List.getElem_toArray, List.getElem_cons_succ, List.getElem_cons_zero, Act.put, List.setIfInBounds_toArray, List.set_cons_zero, List.set_cons_succ]
          replace kk := kk.keep kx
          replace b0 := b0.keep kx
          replace bS := bS.keep kx
          replace b6 := b6.keep kx
          replace hTU := hTU.keep kx
          replace b9 := b9.keep kx
          replace hM := hM.keep kx
          try replace b14 := b14.keep kx
          replace hz24 : S24 ≤ WQ.heap.size := Nat.le_trans hz24 kx.size
          clear kx
          generalize WQ = WR at *
          refine wpAnyK_1 3 (by kernel_rfl) (wpOpK' rfl rfl ?_)
          intro K hK
          refine ocall (f := 10) (args := #[.agg #[.int .i64 k, .int .i64 a, .int .i64 b]]) (by go_simp) (toTourStep_any k a b WR) (fun v3 WQ h1 => hK.out _ _ ⟨(b0.keep h1.2).c0, (b0.keep h1.2).c1, (b0.keep h1.2).c2, (bS.keep h1.2).c0, (bS.keep h1.2).c1, (bS.keep h1.2).c2⟩ ?_)
          obtain ⟨rfl, kx⟩ := h1
          unfold stV
          clear hK K
          try clear hS
          simp only [List.getElem_toArray, List.getElem_cons_succ, List.getElem_cons_zero, Act.put, List.setIfInBounds_toArray, List.set_cons_zero, List.set_cons_succ]
          replace kk := kk.keep kx
          replace b0 := b0.keep kx
          replace bS := bS.keep kx
          replace b6 := b6.keep kx
          replace hTU := hTU.keep kx
          replace b9 := b9.keep kx
          replace hM := hM.keep kx
          try replace b14 := b14.keep kx
          try replace r2 := r2.keep kx
          replace hz24 : S24 ≤ WQ.heap.size := Nat.le_trans hz24 kx.size
          clear kx
          generalize WQ = WR at *
          refine wpAnyK_1 4 (by kernel_rfl) (wpOpK' rfl rfl ?_)
          intro K hK
          refine ocall (f := 11) (args := #[v2, .agg #[.int .i64 k, .int .i64 a, .int .i64 b]]) (by go_simp) (ret2_ret (implStep_any v2 t k a b WR r2 ok HS.out.1 tv HS.out.2)) (fun v4 WQ h1 => hK.out _ _ (by obtain ⟨_, _, _, _, _, kx⟩ := h1; exact ⟨(b0.keep kx).c0, (b0.keep kx).c1, (b0.keep kx).c2, (bS.keep kx).c0, (bS.keep kx).c1, (bS.keep kx).c2⟩) ?_)
          obtain ⟨vh, _, rfl, rfl, hTA, kx⟩ := h1
          clear hK K
          try clear hS
          simp only [List.getElem_toArray, List.getElem_cons_succ, List.getElem_cons_zero, Act.put, List.setIfInBounds_toArray, List.set_cons_zero, List.set_cons_succ]
          have hRH := hTA.rt (by omega) (A := No) (fun _ _ e => e)
          have hTUH := hTA.u
          obtain ⟨h1a, h1n, h1c, h2a, h2n, h2c, rfl⟩ := hTUH.shape
          clear hTUH
          have hHlo : WR.heap.size ≤ WQ.heap.size := kx.size
          have hTB := hTA
          clear hTA r2
          try have hB14l : B14 < WR.heap.size := by have := b14.lt; omega
          obtain ⟨sH, hsH⟩ : ∃ sH, WR.heap.size = sH := ⟨_, rfl⟩
          try rw [hsH] at hB14l
          rw [hsH] at hTB
          obtain ⟨sI, hsI⟩ : ∃ sI, WQ.heap.size = sI := ⟨_, rfl⟩
          have hTB := hTB.u
          rw [hsI] at hTB
          try have hB14l : B14 < sH ∨ sI ≤ B14 := .inl hB14l
          have hsI2 : sI ≤ WQ.heap.size := by omega
          clear hsI
          replace kk := kk.keep kx
          replace b0 := b0.keep kx
          replace bS := bS.keep kx
          replace b6 := b6.keep kx
          replace hTU := hTU.keep kx
          replace b9 := b9.keep kx
          replace hM := hM.keep kx
          try replace b14 := b14.keep kx
          replace hz24 : S24 ≤ WQ.heap.size := Nat.le_trans hz24 kx.size
          clear kx hsH hHlo hRH
          generalize WQ = WR at *
          have hS : WR.cell? ⟨w.heap.size, 0, none⟩ = some (.int .i64 it) ∧ WR.cell? ⟨w.heap.size, 1, none⟩ = some (.slice pa m pc) ∧ WR.cell? ⟨w.heap.size, 2, none⟩ = some (.slice ra rn rc) ∧ WR.cell? ⟨w.heap.size + 1, 0, none⟩ = some (.int .i64 k) ∧ WR.cell? ⟨w.heap.size + 1, 1, none⟩ = some (.int .i64 a) ∧ WR.cell? ⟨w.heap.size + 1, 2, none⟩ = some (.int .i64 b) := ⟨b0.c0, b0.c1, b0.c2, bS.c0, bS.c1, bS.c2⟩
          refine wpAnyK_take0 5 (.tuple #[.agg #[.int .i64 tv.items, .slice h1a h1n h1c, .slice h2a h2n h2c], .bool ok]) rfl (by kernel_rfl) (fun _ _ _ h => h) hS rfl (by intro w; go_simp) ?_
          simp only [List.getElem_toArray, List.getElem_cons_succ, List.getElem_cons_zero, Act.put, List.setIfInBounds_toArray, List.set_cons_zero, List.set_cons_succ]
          refine wpAnyK_take0 6 (.agg #[.int .i64 tv.items, .slice h1a h1n h1c, .slice h2a h2n h2c]) rfl (by kernel_rfl) (fun _ _ _ h => h) hS rfl (by intro w; go_simp) ?_
          simp only [List.getElem_toArray, List.getElem_cons_succ, List.getElem_cons_zero, Act.put, List.setIfInBounds_toArray, List.set_cons_zero, List.set_cons_succ]
          refine wpAnyK_take0 7 (.bool ok) rfl (by kernel_rfl) (fun _ _ _ h => h) hS rfl (by intro w; go_simp) ?_
          simp only [List.getElem_toArray, List.getElem_cons_succ, List.getElem_cons_zero, Act.put, List.setIfInBounds_toArray, List.set_cons_zero, List.set_cons_succ]
          refine wpAnyK_tail 9 rfl (by kernel_rfl) ?_
          simp only [List.drop_succ_cons, List.drop_zero]
          obtain ⟨e0, e1, e2, cf⟩ := id b14
          have cf0 := cf 0
          have cf1 := cf 1
          have cf2 := cf 2
          clear cf
          have b14N := ((b14.set0 (.int .i64 tv.items)).set1 (.slice h1a h1n h1c)).set2 (.slice h2a h2n h2c)
          have cN := (Chg.refl (fun q => q = B14) WR).put3 (b := B14) (fun _ => rfl) (.int .i64 tv.items) (.slice h1a h1n h1c) (.slice h2a h2n h2c)
          obtain ⟨WN, hWN⟩ : ∃ WN, (((WR.setCell ⟨B14, 0, none⟩ (.int .i64 tv.items)).setCell ⟨B14, 1, none⟩ (.slice h1a h1n h1c)).setCell ⟨B14, 2, none⟩ (.slice h2a h2n h2c)) = WN := ⟨_, rfl⟩
          rw [hWN] at b14N cN
          replace kk := kk.step cN (fun q e hl => by have e : q = B14 := e; omega)
          replace b6 := b6.step cN (fun e => by have e : B6 = B14 := e; omega)
          replace b9 := b9.step cN (fun e => by have e : B9 = B14 := e; omega)
          replace hTU := hTU.step cN (fun q h1 h2 e => by have e : q = B14 := e; omega)
          replace hTB := hTB.step cN (fun q h1 h2 e => by have e : q = B14 := e; omega)
          replace hM := hM.stp cN (fun q e => by have e : q = B14 := e; show S24 ≤ q; omega)
          clear cN b0 bS b14
          obtain ⟨c0, c1, c2, _⟩ := id b14N
          obtain ⟨d0, d1, d2, _⟩ := id b6
          go_wp2_with fail
          refine (eqTournament_same _ _ tv WN (hTB.rt (by omega)) (hTU.rt (by omega))).mono ?_
          rintro e w20 ⟨_, rfl, rfl, k20⟩
          clear c0 c1 c2 d0 d1 d2 e0 e1 e2 cf0 cf1 cf2
          replace kk := kk.keep k20
          replace b9 := b9.keep k20
          replace hM := hM.keep k20
          clear k20
          obtain ⟨c0, c1, c2, _⟩ := id b9
          go_wp2_with fail
          refine (heldTournament_any _ tv 1 w20 (hM.wk (fun q e _ => e.elim)) (by omega) hk1).mono ?_
          rintro e w21 ⟨_, rfl, rfl, k21⟩
          clear c0 c1 c2
          replace kk := kk.keep k21
          go_wp2_with fail
          go_ret
          exact ⟨rfl, kk⟩
  · have E1 : Hid (szTo m (fun i => pn i + mn i) rn 1048576 = -1) := Lib.hid (by rw [hf]; unfold szTo; rw [if_neg (by omega)])
    clear hfit h hr hf
    unfold stV
    obtain ⟨d0, d1, d2, _⟩ := id bS
    go_enter Tryz.func3, Tryz.ntmps3
    go_wp2_with fail
    refine (szTournament_any it _ m pn mn ra rn rc _ _ hP hrn (by omega) (by omega)).mono ?_
    rintro e w1 ⟨_, rfl, rfl, k1⟩
    rw [E1.out]
    go_wp2_with fail
    go_ret
    exact ⟨rfl, k0.keep k1⟩
end Go.Proofs.YtccmocbkpanibaaGreat

/- a TourStep that came in, opened -/
namespace Go.Proofs.YtccmocbkpanibaaGreat
open Go.RowKit Go.ChangeShapes Go.WideShapes Go.ChangeAt

theorem cells_tstep : Tryz.prog.cellsOf 27 = 3 := by kernel_rfl
section
variable {H : Type} {enc : TypeId × Value → H} {W : World} {spare : Nat → Bool} {held : Bool}
theorem open_tstep {fuel : Nat} {cs : List Value} {y : DataW H × List MemPlace} (h : DataW.trod enc Tryz.prog W 0 spare held fuel 27 cs = some y) :
    ∃ k a b, cs = [.int .i64 k, .int .i64 a, .int .i64 b] := by
  obtain ⟨xs, m, _, _, hlen, hxl, hf⟩ := DataW.trod_struct Tryz.underlying27 h
  rw [cells_tstep] at hlen
  obtain ⟨x0, x1, x2, rfl⟩ := len3 hlen
  obtain ⟨y0, y1, y2, rfl⟩ := len3 (l := xs) (by simpa using hxl)
  have f0 : DataW.trod enc Tryz.prog W 0 spare held m 3 (([x0, x1, x2].drop 0).take (Tryz.prog.cellsOf 3)) = some y0 := hf 0 _ rfl
  have f1 : DataW.trod enc Tryz.prog W 0 spare held m 3 (([x0, x1, x2].drop 1).take (Tryz.prog.cellsOf 3)) = some y1 := hf 1 _ rfl
  have f2 : DataW.trod enc Tryz.prog W 0 spare held m 3 (([x0, x1, x2].drop 2).take (Tryz.prog.cellsOf 3)) = some y2 := hf 2 _ rfl
  rw [cells_int] at f0 f1 f2
  simp only [List.drop_zero, List.drop_succ_cons, List.take_succ_cons, List.take_zero] at f0 f1 f2
  obtain ⟨k, rfl⟩ := open_i64 f0
  obtain ⟨a, rfl⟩ := open_i64 f1
  obtain ⟨b, rfl⟩ := open_i64 f2
  exact ⟨k, a, b, rfl⟩
end
end Go.Proofs.YtccmocbkpanibaaGreat
