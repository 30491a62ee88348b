import Derived.Test.YtdgcohoneijleaaGreatDoorPkX28
import Derived.Test.YtdgcohoneijleaaGreatDoorIg
import Derived.Test.YtdgcohoneijleaaGreatDoorPkX24
namespace Go.Proofs.YtdgcohoneijleaaGreatDoor
open Go.RowKit
def plsI (L : List (List UInt8)) (j : Nat) : List Pl := ((L.drop 2).take j).map rawP
theorem plsI_succ (L : List (List UInt8)) (j : Nat) (h : j + 2 < L.length) : plsI L (j + 1) = plsI L j ++ [rawP (L.getD (2 + j) [])] := by
 unfold plsI
 have hj : j < (L.drop 2).length := by simp; omega
 rw [List.take_succ_eq_append_getElem hj, List.map_append, List.map_cons, List.map_nil, List.getElem_drop, List.getD_eq_getElem?_getD, List.getElem?_eq_getElem (by omega)]
 rfl
theorem plsI_len (L : List (List UInt8)) (j : Nat) (h : j + 2 ≤ L.length) : (plsI L j).length = j := by
 unfold plsI; simp; omega
theorem plsI_full (L : List (List UInt8)) (j : Nat) (h : j + 2 = L.length) : plsI L j = (L.drop 2).map rawP := by
 unfold plsI
 rw [List.take_of_length_le (by simp; omega)]
theorem drop2_memI {L : List (List UInt8)} {j : Nat} (h : j + 2 < L.length) : L.getD (2 + j) [] ∈ L.drop 2 := by
 have hj : j < (L.drop 2).length := by simp; omega
 have e : (L.drop 2)[j] = L.getD (2 + j) [] := by
  rw [List.getElem_drop, List.getD_eq_getElem?_getD, List.getElem?_eq_getElem (by omega)]; rfl
 rw [← e]; exact List.getElem_mem hj
def OkW (L : List (List UInt8)) (j n : Nat) : Prop := ∀ x ∈ (L.drop 2).take j, okP x n = true
theorem OkW.succ {L : List (List UInt8)} {j n : Nat} (h : OkW L j n) (hj : j + 2 < L.length) (hx : okP (L.getD (2 + j) []) n = true) : OkW L (j + 1) n := fun x hm => by
 have hj' : j < (L.drop 2).length := by simp; omega
 rw [List.take_succ_eq_append_getElem hj', List.mem_append, List.mem_singleton] at hm
 rcases hm with hm | rfl
 ·exact h x hm
 ·rw [List.getElem_drop]
  rw [List.getD_eq_getElem?_getD, List.getElem?_eq_getElem (by omega)] at hx
  exact hx
theorem OkW.sv {L : List (List UInt8)} {j : Nat} {l : List Int} (h : OkW L j l.length) : Sv (plsI L j) l := fun i hi => by
 unfold plsI at hi ⊢
 rw [List.length_map] at hi
 rw [List.getD_eq_getElem?_getD, List.getElem?_map, List.getElem?_eq_getElem hi]
 exact raw_sv (h _ (List.getElem_mem hi))
theorem ret2_P {f : FuncId} {args : Array Value} {w : World} {φ : Value → Value → World → Prop} (h : Calls Tryz.prog f args w (Ret2 φ)) : Calls Tryz.prog f args w (Ret fun v w' => ∃ v0 v1, v = .tuple #[v0, v1] ∧ φ v0 v1 w') :=
 h.mono (fun _ _ ⟨v0, v1, he, hp⟩ => ⟨_, he, v0, v1, rfl, hp⟩)
set_option maxRecDepth 100000 in
set_option maxHeartbeats 4000000 in
theorem implParse_any (s : List UInt8) (w : World) (hs : s.length ≤ 1048576) (hw : LayE w) :
  Calls Tryz.prog 12 #[.string ⟨s.toArray⟩] w (Ret2 fun v0 v1 w' => v1 = .bool (parT s).isSome ∧ TA w.heap.size w' v0 ((parT s).getD zeroT) ∧ Chg No w w') := by
 have k0 := (Chg.refl No w).alloc (.cells #[.int .i64 0, .slice none 0 0, .slice none 0 0] 31)
 have b0 := Box3.new w (.int .i64 0) (.slice none 0 0) (.slice none 0 0) 31
 have HLE := Lib.hid (fun W (h : Chg No w W) => hw.keep h)
 have HSP := Lib.hid (fun u h => @parT_im s u h)
 have HEN := Lib.hid (fun n rq h1 h2 => @parT_imend s n rq h1 h2)
 have q1 := Lib.hid (fun W (h : LayE W) => split2_any s W hs h.lay)
 have HPL : Hid (∀ x ∈ Lib.split s [59, 32], x.length ≤ 1048576) := Lib.hid (fun x hx => Nat.le_trans (splitK_len _ _ _ x hx) hs)
 obtain ⟨L, hL⟩ : ∃ L, Lib.split s [59, 32] = L := ⟨_, rfl⟩
 rw [hL] at q1 HSP HEN HPL
 clear hL hw
 by_cases h2 : L.length < 2
 ·have HNONE : Hid (parT s = none) := Lib.hid (by
   cases e : parT s with
   | none => rfl
   | some u => have := (HSP.out u e).1; omega)
  go_enter Tryz.func12, Tryz.ntmps12
  go_wp2_with fail
  refine (q1.out _ (HLE.out _ k0)).mono ?_
  rintro e w1 ⟨m, rfl, hwa, hk1, hm1, hm2⟩
  have hgw : w.heap.size < (w.alloc (.cells #[.int .i64 0, .slice none 0 0, .slice none 0 0] 31)).heap.size := by simp
  obtain ⟨g, hg⟩ : ∃ g, (w.alloc (.cells #[.int .i64 0, .slice none 0 0, .slice none 0 0] 31)).heap.size = g := ⟨_, rfl⟩
  rw [hg] at hwa hgw ⊢
  clear hg
  have bR := b0.keep hk1
  have kR := k0.keep hk1
  have HML : Hid (m = L.length) := Lib.hid hwa.1.symm
  clear hk1
  have hml := HML.out
  have hm2i : (m : Int) < 2 := by omega
  clear hml
  obtain ⟨s0, s1, s2, sf⟩ := id bR
  have sf0 := sf 0
  have sf1 := sf 1
  have sf2 := sf 2
  clear sf
  have bz2 := ((bR.set0 (.int .i64 0)).set1 (.slice none 0 0)).set2 (.slice none 0 0)
  have kz2 := kR.put3 (b := w.heap.size) (fun h => absurd h (Nat.lt_irrefl _)) (.int .i64 0) (.slice none 0 0) (.slice none 0 0)
  obtain ⟨z0, z1, z2, _⟩ := id bz2
  clear bz2
  go_wp2_with fail
  refine bodyPost_ret (v := .tuple #[.agg #[.int .i64 0, .slice none 0 0, .slice none 0 0], .bool false]) (by simp [results, Tryz.results12, go_sem, z0, z1, z2]) rfl ?_
  exact ⟨_, _, rfl, by rw [HNONE.out]; rfl, by rw [HNONE.out]; exact TA.zero _ _, kz2⟩
 ·obtain ⟨L0, hL0⟩ : ∃ L0, L.getD 0 [] = L0 := ⟨_, rfl⟩
  obtain ⟨L1, hL1⟩ : ∃ L1, L.getD 1 [] = L1 := ⟨_, rfl⟩
  rw [hL1] at HSP HEN
  have q2 := Lib.hid (fun W (h : LayE W) => readDec_any L0 W (by have := HPL.out _ (getD_mem' (l := L) (k := 0) (by omega) []); rw [hL0] at this; omega) h)
  obtain ⟨n, hn⟩ : ∃ n, decN L0 = n := ⟨_, rfl⟩
  obtain ⟨tn, htn⟩ : ∃ tn, decM L0 = tn := ⟨_, rfl⟩
  rw [hn, htn] at q2
  have HN : Hid (decN (L.getD 0 []) = n) := Lib.hid (by rw [hL0]; exact hn)
  have q3 := Lib.hid (fun W (h : LayE W) => implParseRequests_any n L1 W (by have := HPL.out _ (getD_mem' (l := L) (k := 1) (by omega) []); rw [hL1] at this; omega) h)
  clear hn htn
  obtain ⟨pr, hpr⟩ : ∃ pr, parR n L1 = pr := ⟨_, rfl⟩
  have HPR := Lib.hid hpr
  rw [hpr] at q3
  clear hpr
  cases pr with
  | none =>
   have HNONE : Hid (parT s = none) := Lib.hid (by
    cases e : parT s with
    | none => rfl
    | some u =>
     have h1 := (HSP.out u e)
     have h3 := h1.2.1
     rw [HN.out] at h3
     have h2 := h1.2.2.1
     rw [← h3, HPR.out] at h2
     cases h2)
   go_enter Tryz.func12, Tryz.ntmps12
   go_wp2_with fail
   refine (q1.out _ (HLE.out _ k0)).mono ?_
   rintro e w1 ⟨m, rfl, hwa, hk1, hm1, hm2⟩
   have hgw : w.heap.size < (w.alloc (.cells #[.int .i64 0, .slice none 0 0, .slice none 0 0] 31)).heap.size := by simp
   obtain ⟨g, hg⟩ : ∃ g, (w.alloc (.cells #[.int .i64 0, .slice none 0 0, .slice none 0 0] 31)).heap.size = g := ⟨_, rfl⟩
   rw [hg] at hwa hgw ⊢
   clear hg
   have bR := b0.keep hk1
   have kR := k0.keep hk1
   have HML : Hid (m = L.length) := Lib.hid hwa.1.symm
   clear hk1
   have hml := HML.out
   have hm2i : ¬ (m : Int) < 2 := by omega
   have hm0i : (0 : Int) < (m : Int) := by omega
   have hm1i : (1 : Int) < (m : Int) := by omega
   have hm22 : (2 : Int) ≤ (m : Int) := by omega
   clear hml
   have b5 := Box3.new w1 (.int .i64 0) (.slice none 0 0) (.slice none 0 0) 31
   have ka := (Chg.refl No w1).alloc (.cells #[.int .i64 0, .slice none 0 0, .slice none 0 0] 31)
   have hwa2 := hwa.step ka (fun e => e)
   have hc0 := hwa2.2.2 0 (by omega)
   rw [hL0] at hc0
   go_wp2_with fail
   have hg1 : g < w1.heap.size := hwa.2.1
   obtain ⟨B5, hB5⟩ : ∃ B5, w1.heap.size = B5 := ⟨_, rfl⟩
   rw [hB5] at b5 hg1 ⊢
   clear hB5 hc0 hwa2
   have bR := bR.keep ka
   have kR := kR.trans ka
   have hwa := hwa.step ka (fun e => e)
   refine (q2.out _ (HLE.out _ kR)).mono ?_
   rintro e w2 ⟨rfl, k2⟩
   have bR := bR.keep k2
   have kR := kR.trans k2
   have b5 := b5.keep k2
   have hwa := hwa.step k2 (fun e => e)
   clear ka k2
   obtain ⟨d0, d1, d2, df⟩ := id b5
   have df0 := df 0
   clear df
   go_wp2_with fail
   have cS : Chg (fun q => q = B5) w2 (w2.setCell ⟨B5, 0, none⟩ (.int .i64 n)) := (Chg.refl (fun q => q = B5) w2).setCell (p := ⟨B5, 0, none⟩) (fun _ => rfl) _
   replace bR := bR.step cS (fun e => by omega)
   replace kR := kR.step cS (fun q hq hl => by omega)
   replace b5 := b5.set0 (.int .i64 n)
   replace hwa := hwa.step cS (by omega)
   clear cS d0 d1 d2 df0
   refine wp_region_K (S := fun W => W.cell? ⟨B5, 0, none⟩ = some (.int .i64 n) ∧ W.cell? ⟨g, 1, none⟩ = some (.string ⟨L1.toArray⟩)) (k := 10) (by kernel_rfl) ?_
   replace bR := bR.keep (drewN0 _)
   replace kR := kR.keep (drewN0 _)
   replace b5 := b5.keep (drewN0 _)
   replace hwa := hwa.step (drewN0 _) (fun e => e)
   generalize (w2.setCell ⟨B5, 0, none⟩ (.int .i64 n)).drew = WR at bR kR b5 hwa ⊢
   have hc1 := hwa.2.2 1 (by omega)
   rw [hL1] at hc1
   have hS : WR.cell? ⟨B5, 0, none⟩ = some (.int .i64 n) ∧ WR.cell? ⟨g, 1, none⟩ = some (.string ⟨L1.toArray⟩) := ⟨b5.c0, hc1⟩
   refine wpAnyK_take0 0 (.pointer (some ⟨B5, 0, none⟩)) rfl (by kernel_rfl) (fun _ _ _ h => h) hS rfl (by intro w; go_simp) ?_
   simp only [zA, zC, zD, zE, zF, zG]
   refine wpAnyK_takeT 1 (.int .i64 n) rfl (by kernel_rfl) (fun _ _ _ h => h) hS rfl (by intro w hSw; go_simp) ?_
   simp only [zA, zB, zC, zD, zE, zF, zG]
   refine wpAnyK_take0 2 (.slice (some ⟨g, 0, none⟩) m m) rfl (by kernel_rfl) (fun _ _ _ h => h) hS rfl (by intro w; go_simp) ?_
   simp only [zA, zB, zC, zD, zE, zF, zG]
   refine wpAnyK_take0 3 (.pointer (some ⟨g, 1, none⟩)) rfl (by kernel_rfl) (fun _ _ _ h => h) hS rfl (by intro w; go_simp) ?_
   simp only [zA, zB, zC, zD, zE, zF, zG]
   refine wpAnyK_takeT 4 (.string ⟨L1.toArray⟩) rfl (by kernel_rfl) (fun _ _ _ h => h) hS rfl (by intro w hSw; go_simp) ?_
   simp only [zA, zB, zC, zD, zE, zF, zG]
   refine wpAnyK_1 5 (by kernel_rfl) (wpOpK' rfl rfl ?_)
   intro K hK
   refine ocall (f := 43) (args := #[.int .i64 n, .string ⟨L1.toArray⟩]) (by go_simp) (ret2_P (q3.out _ (HLE.out _ kR))) (fun v8 w8 h8 => hK.out _ _ (by obtain ⟨_, _, _, _, _, k8⟩ := h8; exact ⟨(b5.keep k8).c0, (hwa.step k8 (fun e => e)).2.2 1 (by omega) |>.trans (by rw [hL1])⟩) ?_)
   obtain ⟨v0, v1, rfl, hv1, o3, k3⟩ := h8
   have hv1 : v1 = .bool false := hv1
   subst hv1
   obtain ⟨oa, on, oq, rfl⟩ := o3.shape
   clear hK K hS hc1
   simp only [zA, zB, zC, zD, zE, zF, zG]
   have hS : w8.cell? ⟨B5, 0, none⟩ = some (.int .i64 n) ∧ w8.cell? ⟨g, 1, none⟩ = some (.string ⟨L1.toArray⟩) := ⟨(b5.keep k3).c0, (hwa.step k3 (fun e => e)).2.2 1 (by omega) |>.trans (by rw [hL1])⟩
   refine wpAnyK_take0 6 (.tuple #[.slice oa on oq, .bool false]) rfl (by kernel_rfl) (fun _ _ _ h => h) hS rfl (by intro w; go_simp) ?_
   simp only [zA, zB, zC, zD, zE, zF, zG]
   refine wpAnyK_take0 7 (.slice oa on oq) rfl (by kernel_rfl) (fun _ _ _ h => h) hS rfl (by intro w; go_simp) ?_
   simp only [zA, zB, zC, zD, zE, zF, zG]
   refine wpAnyK_take0 8 (.bool false) rfl (by kernel_rfl) (fun _ _ _ h => h) hS rfl (by intro w; go_simp) ?_
   simp only [zA, zB, zC, zD, zE, zF, zG]
   refine wpAnyK_take0 9 (.pointer (some ⟨B5, 2, none⟩)) rfl (by kernel_rfl) (fun _ _ _ h => h) hS rfl (by intro w; go_simp) ?_
   simp only [zA, zB, zC, zD, zE, zF, zG]
   clear hS
   have hsz3 : B5 < WR.heap.size := b5.lt
   have bR := bR.keep k3
   have kR := kR.trans k3
   have b5 := b5.keep k3
   have hwa := hwa.step k3 (fun e => e)
   refine wpAnyK_tail 10 rfl (by kernel_rfl) ?_
   simp only [List.drop_succ_cons, List.drop_zero]
   obtain ⟨d0, d1, d2, df⟩ := id b5
   have df2 := df 2
   clear df
   have cS : Chg (fun q => q = B5) w8 (w8.setCell ⟨B5, 2, none⟩ (.slice oa on oq)) := (Chg.refl (fun q => q = B5) w8).setCell (p := ⟨B5, 2, none⟩) (fun _ => rfl) _
   have hob : ∀ q, own (.slice oa on oq) q → q ≠ B5 ∧ B5 < q := fun q hq => by have := (o3.lt q hq).1; omega
   replace bR := bR.step cS (fun e => by omega)
   replace kR := kR.step cS (fun q hq hl => by omega)
   replace b5 := b5.set2 (.slice oa on oq)
   replace hwa := hwa.step cS (by omega)
   have o3 := o3.step cS (fun q hq e => (hob q hq).1 e)
   clear cS k3
   obtain ⟨s0, s1, s2, sf⟩ := id bR
   have sf0 := sf 0
   have sf1 := sf 1
   have sf2 := sf 2
   clear sf
   have bz2 := ((bR.set0 (.int .i64 0)).set1 (.slice none 0 0)).set2 (.slice none 0 0)
   have kz2 := kR.put3 (b := w.heap.size) (fun h => absurd h (Nat.lt_irrefl _)) (.int .i64 0) (.slice none 0 0) (.slice none 0 0)
   obtain ⟨z0, z1, z2, _⟩ := id bz2
   clear bz2
   go_wp2_with fail
   refine bodyPost_ret (v := .tuple #[.agg #[.int .i64 0, .slice none 0 0, .slice none 0 0], .bool false]) (by simp [results, Tryz.results12, go_sem, z0, z1, z2]) rfl ?_
   exact ⟨_, _, rfl, by rw [HNONE.out]; rfl, by rw [HNONE.out]; exact TA.zero _ _, kz2⟩
  | some rq =>
   go_enter Tryz.func12, Tryz.ntmps12
   go_wp2_with fail
   refine (q1.out _ (HLE.out _ k0)).mono ?_
   rintro e w1 ⟨m, rfl, hwa, hk1, hm1, hm2⟩
   have hgw : w.heap.size < (w.alloc (.cells #[.int .i64 0, .slice none 0 0, .slice none 0 0] 31)).heap.size := by simp
   obtain ⟨g, hg⟩ : ∃ g, (w.alloc (.cells #[.int .i64 0, .slice none 0 0, .slice none 0 0] 31)).heap.size = g := ⟨_, rfl⟩
   rw [hg] at hwa hgw ⊢
   clear hg
   have bR := b0.keep hk1
   have kR := k0.keep hk1
   have HML : Hid (m = L.length) := Lib.hid hwa.1.symm
   clear hk1
   have hml := HML.out
   have hm2i : ¬ (m : Int) < 2 := by omega
   have hm0i : (0 : Int) < (m : Int) := by omega
   have hm1i : (1 : Int) < (m : Int) := by omega
   have hm22 : (2 : Int) ≤ (m : Int) := by omega
   clear hml
   have b5 := Box3.new w1 (.int .i64 0) (.slice none 0 0) (.slice none 0 0) 31
   have ka := (Chg.refl No w1).alloc (.cells #[.int .i64 0, .slice none 0 0, .slice none 0 0] 31)
   have hwa2 := hwa.step ka (fun e => e)
   have hc0 := hwa2.2.2 0 (by omega)
   rw [hL0] at hc0
   go_wp2_with fail
   have hg1 : g < w1.heap.size := hwa.2.1
   obtain ⟨B5, hB5⟩ : ∃ B5, w1.heap.size = B5 := ⟨_, rfl⟩
   rw [hB5] at b5 hg1 ⊢
   clear hB5 hc0 hwa2
   have bR := bR.keep ka
   have kR := kR.trans ka
   have hwa := hwa.step ka (fun e => e)
   refine (q2.out _ (HLE.out _ kR)).mono ?_
   rintro e w2 ⟨rfl, k2⟩
   have bR := bR.keep k2
   have kR := kR.trans k2
   have b5 := b5.keep k2
   have hwa := hwa.step k2 (fun e => e)
   clear ka k2
   obtain ⟨d0, d1, d2, df⟩ := id b5
   have df0 := df 0
   clear df
   go_wp2_with fail
   have cS : Chg (fun q => q = B5) w2 (w2.setCell ⟨B5, 0, none⟩ (.int .i64 n)) := (Chg.refl (fun q => q = B5) w2).setCell (p := ⟨B5, 0, none⟩) (fun _ => rfl) _
   replace bR := bR.step cS (fun e => by omega)
   replace kR := kR.step cS (fun q hq hl => by omega)
   replace b5 := b5.set0 (.int .i64 n)
   replace hwa := hwa.step cS (by omega)
   clear cS d0 d1 d2 df0
   refine wp_region_K (S := fun W => W.cell? ⟨B5, 0, none⟩ = some (.int .i64 n) ∧ W.cell? ⟨g, 1, none⟩ = some (.string ⟨L1.toArray⟩)) (k := 10) (by kernel_rfl) ?_
   replace bR := bR.keep (drewN0 _)
   replace kR := kR.keep (drewN0 _)
   replace b5 := b5.keep (drewN0 _)
   replace hwa := hwa.step (drewN0 _) (fun e => e)
   generalize (w2.setCell ⟨B5, 0, none⟩ (.int .i64 n)).drew = WR at bR kR b5 hwa ⊢
   have hc1 := hwa.2.2 1 (by omega)
   rw [hL1] at hc1
   have hS : WR.cell? ⟨B5, 0, none⟩ = some (.int .i64 n) ∧ WR.cell? ⟨g, 1, none⟩ = some (.string ⟨L1.toArray⟩) := ⟨b5.c0, hc1⟩
   refine wpAnyK_take0 0 (.pointer (some ⟨B5, 0, none⟩)) rfl (by kernel_rfl) (fun _ _ _ h => h) hS rfl (by intro w; go_simp) ?_
   simp only [zA, zC, zD, zE, zF, zG]
   refine wpAnyK_takeT 1 (.int .i64 n) rfl (by kernel_rfl) (fun _ _ _ h => h) hS rfl (by intro w hSw; go_simp) ?_
   simp only [zA, zB, zC, zD, zE, zF, zG]
   refine wpAnyK_take0 2 (.slice (some ⟨g, 0, none⟩) m m) rfl (by kernel_rfl) (fun _ _ _ h => h) hS rfl (by intro w; go_simp) ?_
   simp only [zA, zB, zC, zD, zE, zF, zG]
   refine wpAnyK_take0 3 (.pointer (some ⟨g, 1, none⟩)) rfl (by kernel_rfl) (fun _ _ _ h => h) hS rfl (by intro w; go_simp) ?_
   simp only [zA, zB, zC, zD, zE, zF, zG]
   refine wpAnyK_takeT 4 (.string ⟨L1.toArray⟩) rfl (by kernel_rfl) (fun _ _ _ h => h) hS rfl (by intro w hSw; go_simp) ?_
   simp only [zA, zB, zC, zD, zE, zF, zG]
   refine wpAnyK_1 5 (by kernel_rfl) (wpOpK' rfl rfl ?_)
   intro K hK
   refine ocall (f := 43) (args := #[.int .i64 n, .string ⟨L1.toArray⟩]) (by go_simp) (ret2_P (q3.out _ (HLE.out _ kR))) (fun v8 w8 h8 => hK.out _ _ (by obtain ⟨_, _, _, _, _, k8⟩ := h8; exact ⟨(b5.keep k8).c0, (hwa.step k8 (fun e => e)).2.2 1 (by omega) |>.trans (by rw [hL1])⟩) ?_)
   obtain ⟨v0, v1, rfl, hv1, o3, k3⟩ := h8
   have hv1 : v1 = .bool true := hv1
   subst hv1
   obtain ⟨oa, on, oq, rfl⟩ := o3.shape
   clear hK K hS hc1
   simp only [zA, zB, zC, zD, zE, zF, zG]
   have hS : w8.cell? ⟨B5, 0, none⟩ = some (.int .i64 n) ∧ w8.cell? ⟨g, 1, none⟩ = some (.string ⟨L1.toArray⟩) := ⟨(b5.keep k3).c0, (hwa.step k3 (fun e => e)).2.2 1 (by omega) |>.trans (by rw [hL1])⟩
   refine wpAnyK_take0 6 (.tuple #[.slice oa on oq, .bool true]) rfl (by kernel_rfl) (fun _ _ _ h => h) hS rfl (by intro w; go_simp) ?_
   simp only [zA, zB, zC, zD, zE, zF, zG]
   refine wpAnyK_take0 7 (.slice oa on oq) rfl (by kernel_rfl) (fun _ _ _ h => h) hS rfl (by intro w; go_simp) ?_
   simp only [zA, zB, zC, zD, zE, zF, zG]
   refine wpAnyK_take0 8 (.bool true) rfl (by kernel_rfl) (fun _ _ _ h => h) hS rfl (by intro w; go_simp) ?_
   simp only [zA, zB, zC, zD, zE, zF, zG]
   refine wpAnyK_take0 9 (.pointer (some ⟨B5, 2, none⟩)) rfl (by kernel_rfl) (fun _ _ _ h => h) hS rfl (by intro w; go_simp) ?_
   simp only [zA, zB, zC, zD, zE, zF, zG]
   clear hS
   have hsz3 : B5 < WR.heap.size := b5.lt
   have bR := bR.keep k3
   have kR := kR.trans k3
   have b5 := b5.keep k3
   have hwa := hwa.step k3 (fun e => e)
   refine wpAnyK_tail 10 rfl (by kernel_rfl) ?_
   simp only [List.drop_succ_cons, List.drop_zero]
   obtain ⟨d0, d1, d2, df⟩ := id b5
   have df2 := df 2
   clear df
   have cS : Chg (fun q => q = B5) w8 (w8.setCell ⟨B5, 2, none⟩ (.slice oa on oq)) := (Chg.refl (fun q => q = B5) w8).setCell (p := ⟨B5, 2, none⟩) (fun _ => rfl) _
   have hob : ∀ q, own (.slice oa on oq) q → q ≠ B5 ∧ B5 < q := fun q hq => by have := (o3.lt q hq).1; omega
   replace bR := bR.step cS (fun e => by omega)
   replace kR := kR.step cS (fun q hq hl => by omega)
   replace b5 := b5.set2 (.slice oa on oq)
   replace hwa := hwa.step cS (by omega)
   have o3 := o3.step cS (fun q hq e => (hob q hq).1 e)
   clear cS k3
   have hsl : ∃ pw, (∀ w', (Instr.slice 59 (.slice (some ⟨g, 0, none⟩) m m) (some (.int .i64 2)) none none).run Tryz.prog w' = .ok (.slice pw (m - 2) (m - 2)) w') ∧ (2 < m → pw = some ⟨g, 2, none⟩) := by
    by_cases e : m = 2
    ·subst e; exact ⟨some ⟨g, 0, none⟩, fun w' => by go_simp, fun h => absurd h (Nat.lt_irrefl _)⟩
    ·exact ⟨some ⟨g, 2, none⟩, fun w' => by go_simp, fun _ => rfl⟩
   obtain ⟨pw, hsl, hpw⟩ := hsl
   have HPW := Lib.hid hpw
   clear hpw
   have hon : on = rq.length := (o3.readNo).n.1
   subst hon
   have ho0 : OI B5 _ (.slice oa rq.length oq) rq := o3.weak (by omega)
   clear o3
   go_wp2_with fail
   obtain ⟨W0, hW0⟩ : ∃ W0, w8.setCell ⟨B5, 2, none⟩ (.slice oa rq.length oq) = W0 := ⟨_, rfl⟩
   rw [hW0] at bR kR b5 hwa ho0 ⊢
   clear hW0 d0 d1 d2 df2
   obtain ⟨S3, hS3⟩ : ∃ S3, W0.heap.size = S3 := ⟨_, rfl⟩
   have hcl : ∀ q, own (.slice oa rq.length oq) q → q < S3 := fun q hq => hS3 ▸ (ho0.lt q hq).2
   have hBS : B5 < S3 := hS3 ▸ b5.lt
   have hp0 : PA S3 W0 (.slice none 0 0) (plsI L 0) (fun _ => undef) (fun _ => undef) := PA.nil S3 W0 (OS.nil _ _ _ _) _ _
   have hm2 : 2 ≤ m := by omega
   clear hsz3
   go_loopw [43] (fun z wr => ∃ (j : Nat) (ov : Value) (pg mg : Nat → Value), j + 2 ≤ m ∧ z = .int .i64 (j : Int) ∧ S3 ≤ wr.heap.size ∧ Chg No w wr ∧ Box3 wr w.heap.size (.int .i64 0) (.slice none 0 0) (.slice none 0 0) ∧ Box3 wr B5 (.int .i64 n) ov (.slice oa rq.length oq) ∧ WordsAt wr g m L ∧
    PA S3 wr ov (plsI L j) pg mg ∧ OI B5 wr (.slice oa rq.length oq) rq ∧ Hid (OkW L j rq.length)) (fun z _ => m - (intOf z).toNat)
   case atStart => exact ⟨0, _, _, _, by omega, rfl, by omega, kR, bR, b5, hwa, hp0, ho0, Lib.hid (fun x hx => by simp at hx)⟩
   case round =>
    clear bR kR b5 hwa hp0 ho0 hS3
    obtain ⟨j, ov, pg, mg, hj2, rfl, hSw, kR, bR, b5, hwa, hP, ho, HOK⟩ := hrel
    have hj0 : (0 : Int) ≤ (j : Int) := Int.natCast_nonneg _
    have hmL := HML.out
    have hlp := plsI_len L j (by omega)
    by_cases hlt : j + 2 < m
    ·have hji : (j : Int) < ((m - 2 : Nat) : Int) := by omega
     have hpe := HPW.out (by omega)
     subst hpe
     have hcK := hwa.2.2 (2 + j) (by omega)
     have hxm : L.getD (2 + j) [] ∈ L := getD_mem' (by omega) []
     have hxl := HPL.out _ hxm
     have hd2 := drop2_memI (L := L) (j := j) (by omega)
     have hsn := plsI_succ L j (by omega)
     have HSU := Lib.hid (fun h => HOK.out.succ (by omega : j + 2 < L.length) h)
     have HBAD : Hid (okP (L.getD (2 + j) []) rq.length = false → parT s = none) := Lib.hid (fun h => by
      cases e : parT s with
      | none => rfl
      | some u =>
       have h1 := HSP.out u e
       have h3 := h1.2.1
       rw [HN.out] at h3
       have h2 := h1.2.2.1
       rw [← h3, HPR.out] at h2
       have h4 : rq = u.reqs := by injection h2
       have h5 := h1.2.2.2.1 _ hd2
       rw [← h4, h] at h5
       cases h5)
     obtain ⟨x, hx⟩ : ∃ x, L.getD (2 + j) [] = x := ⟨_, rfl⟩
     rw [hx] at hcK hxl hsn HBAD HSU
     have q4 := Lib.hid (readPlayer_any x wr hxl (HLE.out _ kR))
     clear hxm hx hd2 hmL
     obtain ⟨R0, hR0⟩ : ∃ R0, plsI L j = R0 := ⟨_, rfl⟩
     rw [hR0] at hP hlp hsn
     have hlb : R0.length ≤ 1048576 := by omega
     clear hlp hR0
     have hokx : okP x rq.length = (rawB x && inB (rawP x).frm 0 rq.length && inB (rawP x).ca.size 1 6) := rfl
     have hpg : (rawP x).ca.pages = [] ∧ (rawP x).ca.marks = [] ∧ (rawP x).ca.hand = 0 ∧ (rawP x).fa = 0 := ⟨rfl, rfl, rfl, rfl⟩
     obtain ⟨y, hy⟩ : ∃ y, rawP x = y := ⟨_, rfl⟩
     rw [hy] at q4 hsn hokx hpg
     have HSN := Lib.hid hsn
     have HPG := Lib.hid hpg
     obtain ⟨ra, rc, rfl, _⟩ := hP.os.view
     clear hy hsn hpg
     cases htb : rawB x with
     | false =>
      have HNONE := Lib.hid (HBAD.out (by rw [hokx, htb]; rfl))
      rw [htb] at q4
      clear hokx htb HSU HBAD
      go_wp2_with fail
      refine q4.out.mono ?_
      rintro e w5 ⟨v0, _, rfl, rfl, rfl, k5⟩
      have ka := (Chg.refl No w5).alloc (.cells #[.int .i64 y.frm, .int .i64 y.ca.pol, .int .i64 y.ca.size, .slice none 0 0, .slice none 0 0, .int .i64 0, .int .i64 0] 68)
      have bp := Box7.new w5 (.int .i64 y.frm) (.int .i64 y.ca.pol) (.int .i64 y.ca.size) (.slice none 0 0) (.slice none 0 0) (.int .i64 0) (.int .i64 0) 68
      have k5a := k5.trans ka
      replace bR := bR.keep k5a
      replace kR := kR.trans k5a
      replace b5 := b5.keep k5a
      replace hwa := hwa.step k5a (fun e => e)
      obtain ⟨d0, d1, d2, _⟩ := id b5
      obtain ⟨y0, y1, y2, y3, y4, y5, y6, _⟩ := id bp
      clear ka k5 hcK
      clear hP ho
      obtain ⟨s0, s1, s2, sf⟩ := id bR
      have sf0 := sf 0
      have sf1 := sf 1
      have sf2 := sf 2
      clear sf
      have bz2 := ((bR.set0 (.int .i64 0)).set1 (.slice none 0 0)).set2 (.slice none 0 0)
      have kz2 := kR.put3 (b := w.heap.size) (fun h => absurd h (Nat.lt_irrefl _)) (.int .i64 0) (.slice none 0 0) (.slice none 0 0)
      obtain ⟨z0, z1, z2, _⟩ := id bz2
      clear bz2
      go_wp2_with fail
      refine bodyPost_ret (v := .tuple #[.agg #[.int .i64 0, .slice none 0 0, .slice none 0 0], .bool false]) (by simp [results, Tryz.results12, go_sem, z0, z1, z2]) rfl ?_
      exact ⟨_, _, rfl, by rw [HNONE.out]; rfl, by rw [HNONE.out]; exact TA.zero _ _, kz2⟩
     | true =>
      rw [htb] at q4 hokx
      rw [Bool.true_and] at hokx
      clear htb
      cases hin : inB y.frm 0 rq.length with
      | false =>
       have HNONE := Lib.hid (HBAD.out (by rw [hokx, hin]; rfl))
       have HIN := Lib.hid hin
       clear hokx hin HSU HBAD
       go_wp2_with fail
       refine q4.out.mono ?_
       rintro e w5 ⟨v0, _, rfl, rfl, rfl, k5⟩
       have ka := (Chg.refl No w5).alloc (.cells #[.int .i64 y.frm, .int .i64 y.ca.pol, .int .i64 y.ca.size, .slice none 0 0, .slice none 0 0, .int .i64 0, .int .i64 0] 68)
       have bp := Box7.new w5 (.int .i64 y.frm) (.int .i64 y.ca.pol) (.int .i64 y.ca.size) (.slice none 0 0) (.slice none 0 0) (.int .i64 0) (.int .i64 0) 68
       have k5a := k5.trans ka
       replace bR := bR.keep k5a
       replace kR := kR.trans k5a
       replace b5 := b5.keep k5a
       replace hwa := hwa.step k5a (fun e => e)
       obtain ⟨d0, d1, d2, _⟩ := id b5
       obtain ⟨y0, y1, y2, y3, y4, y5, y6, _⟩ := id bp
       clear ka k5 hcK
       clear hP ho
       go_wp2_with fail
       refine (within_any _ _ _ _).mono ?_
       rintro e w' ⟨rfl, rfl⟩
       rw [HIN.out]
       obtain ⟨s0, s1, s2, sf⟩ := id bR
       have sf0 := sf 0
       have sf1 := sf 1
       have sf2 := sf 2
       clear sf
       have bz2 := ((bR.set0 (.int .i64 0)).set1 (.slice none 0 0)).set2 (.slice none 0 0)
       have kz2 := kR.put3 (b := w.heap.size) (fun h => absurd h (Nat.lt_irrefl _)) (.int .i64 0) (.slice none 0 0) (.slice none 0 0)
       obtain ⟨z0, z1, z2, _⟩ := id bz2
       clear bz2
       go_wp2_with fail
       refine bodyPost_ret (v := .tuple #[.agg #[.int .i64 0, .slice none 0 0, .slice none 0 0], .bool false]) (by simp [results, Tryz.results12, go_sem, z0, z1, z2]) rfl ?_
       exact ⟨_, _, rfl, by rw [HNONE.out]; rfl, by rw [HNONE.out]; exact TA.zero _ _, kz2⟩
      | true =>
       have HIN := Lib.hid hin
       rw [hin, Bool.true_and] at hokx
       clear hin
       cases hsz : inB y.ca.size 1 6 with
       | false =>
        have HNONE := Lib.hid (HBAD.out (by rw [hokx, hsz]))
        have HSZ := Lib.hid hsz
        clear hokx hsz HSU HBAD
        go_wp2_with fail
        refine q4.out.mono ?_
        rintro e w5 ⟨v0, _, rfl, rfl, rfl, k5⟩
        have ka := (Chg.refl No w5).alloc (.cells #[.int .i64 y.frm, .int .i64 y.ca.pol, .int .i64 y.ca.size, .slice none 0 0, .slice none 0 0, .int .i64 0, .int .i64 0] 68)
        have bp := Box7.new w5 (.int .i64 y.frm) (.int .i64 y.ca.pol) (.int .i64 y.ca.size) (.slice none 0 0) (.slice none 0 0) (.int .i64 0) (.int .i64 0) 68
        have k5a := k5.trans ka
        replace bR := bR.keep k5a
        replace kR := kR.trans k5a
        replace b5 := b5.keep k5a
        replace hwa := hwa.step k5a (fun e => e)
        obtain ⟨d0, d1, d2, _⟩ := id b5
        obtain ⟨y0, y1, y2, y3, y4, y5, y6, _⟩ := id bp
        clear ka k5 hcK
        clear hP ho
        go_wp2_with fail
        refine (within_any _ _ _ _).mono ?_
        rintro e w' ⟨rfl, rfl⟩
        rw [HIN.out]
        go_wp2_with fail
        refine (isSize_any _ _).mono ?_
        rintro e w' ⟨rfl, rfl⟩
        rw [HSZ.out]
        obtain ⟨s0, s1, s2, sf⟩ := id bR
        have sf0 := sf 0
        have sf1 := sf 1
        have sf2 := sf 2
        clear sf
        have bz2 := ((bR.set0 (.int .i64 0)).set1 (.slice none 0 0)).set2 (.slice none 0 0)
        have kz2 := kR.put3 (b := w.heap.size) (fun h => absurd h (Nat.lt_irrefl _)) (.int .i64 0) (.slice none 0 0) (.slice none 0 0)
        obtain ⟨z0, z1, z2, _⟩ := id bz2
        clear bz2
        go_wp2_with fail
        refine bodyPost_ret (v := .tuple #[.agg #[.int .i64 0, .slice none 0 0, .slice none 0 0], .bool false]) (by simp [results, Tryz.results12, go_sem, z0, z1, z2]) rfl ?_
        exact ⟨_, _, rfl, by rw [HNONE.out]; rfl, by rw [HNONE.out]; exact TA.zero _ _, kz2⟩
       | true =>
        have HSZ := Lib.hid hsz
        have HOK2 := Lib.hid (HSU.out (by rw [hokx, hsz]))
        clear hokx hsz HSU HBAD
        go_wp2_with fail
        refine q4.out.mono ?_
        rintro e w5 ⟨v0, _, rfl, rfl, rfl, k5⟩
        have ka := (Chg.refl No w5).alloc (.cells #[.int .i64 y.frm, .int .i64 y.ca.pol, .int .i64 y.ca.size, .slice none 0 0, .slice none 0 0, .int .i64 0, .int .i64 0] 68)
        have bp := Box7.new w5 (.int .i64 y.frm) (.int .i64 y.ca.pol) (.int .i64 y.ca.size) (.slice none 0 0) (.slice none 0 0) (.int .i64 0) (.int .i64 0) 68
        have k5a := k5.trans ka
        replace bR := bR.keep k5a
        replace kR := kR.trans k5a
        replace b5 := b5.keep k5a
        replace hwa := hwa.step k5a (fun e => e)
        obtain ⟨d0, d1, d2, _⟩ := id b5
        obtain ⟨y0, y1, y2, y3, y4, y5, y6, _⟩ := id bp
        clear ka k5 hcK
        go_wp2_with fail
        refine (within_any _ _ _ _).mono ?_
        rintro e w' ⟨rfl, rfl⟩
        rw [HIN.out]
        go_wp2_with fail
        refine (isSize_any _ _).mono ?_
        rintro e w' ⟨rfl, rfl⟩
        rw [HSZ.out]
        have hPos := hP.os.keep k5a
        have hs5 := k5a.size
        have HSZ2 : Hid ((w5.alloc (.cells #[.int .i64 y.frm, .int .i64 y.ca.pol, .int .i64 y.ca.size, .slice none 0 0, .slice none 0 0, .int .i64 0, .int .i64 0] 68)).heap.size = w5.heap.size + 1) := Lib.hid (by simp)
        have hgeq : ∀ q, own (.slice ra R0.length rc) q → S3 ≤ q := fun q hq => (hP.os.lt q hq).1
        go_wp2_with (at_builtin; refine wappS1 elPlayers (by omega) rfl (.tmp 72) (.tmp 74) rfl hPos rfl (by simp [Value.oneCell']) rfl (by rw [HSZ2.out]; rfl) (by omega) (by omega) ?_)
        intro v' wN oN kN hnN
        rw [← HSZ2.out] at hnN
        obtain ⟨y', hy'⟩ : ∃ y' : Pl, y' = y := ⟨_, rfl⟩
        have hop : OI wr.heap.size (w5.alloc (.cells #[.int .i64 y.frm, .int .i64 y.ca.pol, .int .i64 y.ca.size, .slice none 0 0, .slice none 0 0, .int .i64 0, .int .i64 0] 68)) (.slice none 0 0) y.ca.pages := by rw [HPG.out.1]; exact OI.nil _ _
        have hom : OI wr.heap.size (w5.alloc (.cells #[.int .i64 y.frm, .int .i64 y.ca.pol, .int .i64 y.ca.size, .slice none 0 0, .slice none 0 0, .int .i64 0, .int .i64 0] 68)) (.slice none 0 0) y.ca.marks := by rw [HPG.out.2.1]; exact OI.nil _ _
        have HPN := Lib.hid (hP.snoc (x := y) (by omega) k5a hop hom (fun q hq => absurd hq (own_none q)) (by rw [plC, HPG.out.2.2.1, HPG.out.2.2.2]; exact oN) kN hnN)
        replace kR := kR.step kN (fun q hq hl => by have := hgeq q hq; omega)
        replace bR := bR.step kN (fun hq => by have := hgeq _ hq; omega)
        replace b5 := b5.step kN (fun hq => by have := hgeq _ hq; omega)
        replace hwa := hwa.step kN (fun hq => by have := hgeq _ hq; omega)
        replace ho := (ho.keep k5a).step kN (fun q hq hq' => by have := hgeq _ hq'; have := hcl q hq; omega)
        obtain ⟨na, nc, rfl, _⟩ := oN.view
        have cN : Chg (fun q => q = B5) wN (wN.setCell ⟨B5, 1, none⟩ (.slice na (R0.length + 1) nc)) := (Chg.refl (fun q => q = B5) wN).setCell (p := ⟨B5, 1, none⟩) (fun _ => rfl) _
        have hszN := kN.size
        have HEND := Lib.hid (And.intro (kR.step cN (fun q hq hl => by omega)) (And.intro (bR.step cN (by omega)) (And.intro (b5.set1 (.slice na (R0.length + 1) nc)) (And.intro (hwa.step cN (by omega)) (And.intro (HPN.out.step cN (fun q hq e => by have := (HPN.out.inF q hq).1; omega)) (And.intro (ho.step cN (fun q hq e => by exact (hob q hq).1 e)) (Nat.le_trans (Nat.le_trans hSw hs5) (Nat.le_trans hszN cN.size))))))))
        have hb91 := b5.c1
        have hb9f := b5.fr 1
        have hw1 : IntKind.i64.wrap ((j : Int) + 1) = (j : Int) + 1 := IntWalk.i64_in _ (by omega)
        clear kR bR b5 hwa hP hPos ho oN kN hnN HPN cN hop hom bp hgeq d0 d1 d2 y0 y1 y2 y3 y4 y5 y6 hy'
        go_wp2_with fail
        go_round
        case measure => simp [intOf]; omega
        case rel =>
         obtain ⟨e1, e2, e3, e4, e5, e6, e7⟩ := HEND.out
         exact ⟨j + 1, _, _, _, by omega, by go_num, e7, e1, e2, e3, e4, by rw [HSN.out]; exact e5, e6, HOK2⟩
    ·have hji : ¬ (j : Int) < ((m - 2 : Nat) : Int) := by omega
     have hfull := plsI_full L j (by omega)
     have HE2 := Lib.hid (HEN.out n rq HN.out HPR.out)
     rw [← hfull] at HE2
     clear hfull hmL
     obtain ⟨R0, hR0⟩ : ∃ R0, plsI L j = R0 := ⟨_, rfl⟩
     have HSV := Lib.hid HOK.out.sv
     rw [hR0] at hP hlp HE2 HSV
     have hlb : R0.length ≤ 1048576 := by omega
     clear hlp hR0
     obtain ⟨ra, rc, rfl, _⟩ := hP.os.view
     have hbl := bR.lt
     have hRT : RT No wr (.agg #[.int .i64 n, .slice ra R0.length rc, .slice oa rq.length oq]) ⟨n, R0, rq⟩ := ⟨_, _, rfl, hP.read hlb (fun _ _ e => e), ho.readNo⟩
     have q6 := Lib.hid (again_any _ _ ⟨n, R0, rq⟩ rq wr hRT ho.readNo HSV.out)
     have hlb2 : (againP R0 rq).length ≤ 1048576 := by unfold againP; rw [List.length_map]; exact hlb
     simp only at q6
     obtain ⟨A0, hA0⟩ : ∃ A0, againP R0 rq = A0 := ⟨_, rfl⟩
     rw [hA0] at q6 HE2 hlb2
     clear hA0 hRT hP
     obtain ⟨d0, d1, d2, _⟩ := id b5
     go_wp2_with fail
     refine q6.out.mono ?_
     rintro e w6 ⟨v2, rfl, hTA, k6⟩
     have hTA0 := hTA
     obtain ⟨pv2, pg2, mg2, rv2, rfl, hP2, hR2, hd2⟩ := hTA
     simp only at hP2 hR2
     obtain ⟨xa, xc, rfl, _⟩ := hP2.os.view
     obtain ⟨ya, yn, yc, rfl⟩ := hR2.shape
     simp only at hTA0
     have hTA1 := hTA0.weak (base' := w.heap.size + 1) (by omega)
     clear hTA0 hP2 hR2 hd2 d0 d1 d2
     have ka := (Chg.refl No w6).alloc (.cells #[.int .i64 n, .slice xa A0.length xc, .slice ya yn yc] 31)
     have b9 := Box3.new w6 (.int .i64 n) (.slice xa A0.length xc) (.slice ya yn yc) 31
     replace bR := (bR.keep k6).keep ka
     replace kR := (kR.trans k6).trans ka
     have hTA2 := hTA1.keep ka
     clear hTA1 k6 b5 hwa
     obtain ⟨d0, d1, d2, _⟩ := id b9
     have HRT := Lib.hid (hTA2.rt hlb2 (A := No) (fun _ _ e => e))
     have HTA := Lib.hid hTA2
     have q7 := Lib.hid (IsTournament_any _ _ _ HRT.out)
     clear hTA2
     cases htb : tourB ⟨n, A0, rq⟩ with
     | false =>
      have HNONE := Lib.hid (HE2.out.2 (fun h => by rw [htb] at h; cases h.1))
      rw [htb] at q7
      clear HE2 htb
      go_wp2_with fail
      refine q7.out.mono ?_
      rintro e w7 ⟨_, rfl, rfl, k7⟩
      replace bR := bR.keep k7
      replace kR := kR.trans k7
      clear d0 d1 d2
      obtain ⟨s0, s1, s2, sf⟩ := id bR
      have sf0 := sf 0
      have sf1 := sf 1
      have sf2 := sf 2
      clear sf
      have bz2 := ((bR.set0 (.int .i64 0)).set1 (.slice none 0 0)).set2 (.slice none 0 0)
      have kz2 := kR.put3 (b := w.heap.size) (fun h => absurd h (Nat.lt_irrefl _)) (.int .i64 0) (.slice none 0 0) (.slice none 0 0)
      obtain ⟨z0, z1, z2, _⟩ := id bz2
      clear bz2
      go_wp2_with fail
      refine bodyPost_ret (v := .tuple #[.agg #[.int .i64 0, .slice none 0 0, .slice none 0 0], .bool false]) (by simp [results, Tryz.results12, go_sem, z0, z1, z2]) rfl ?_
      exact ⟨_, _, rfl, by rw [HNONE.out]; rfl, by rw [HNONE.out]; exact TA.zero _ _, kz2⟩
     | true =>
      obtain ⟨Z, hZ⟩ : ∃ Z, touT ⟨n, A0, rq⟩ = Z := ⟨_, rfl⟩
      have q8 := Lib.hid (fun W (h : RT No W (.agg #[.int .i64 n, .slice xa A0.length xc, .slice ya yn yc]) ⟨n, A0, rq⟩) (h' : Lay W) => tournamentText_any _ _ W h htb h')
      rw [htb] at q7
      rw [hZ] at HE2
      have HZ := Lib.hid hZ
      have HTB := Lib.hid htb
      clear hZ htb
      go_wp2_with fail
      refine q7.out.mono ?_
      rintro e w7 ⟨_, rfl, rfl, k7⟩
      have b9 := b9.keep k7
      replace bR := bR.keep k7
      replace kR := kR.trans k7
      clear d0 d1 d2
      obtain ⟨d0, d1, d2, _⟩ := id b9
      have q8 := Lib.hid (q8.out w7 (HRT.out.keep k7) (HLE.out _ kR).lay)
      rw [HZ.out] at q8
      go_wp2_with fail
      refine q8.out.mono ?_
      rintro e w8 ⟨rfl, k8⟩
      have b9 := b9.keep k8
      replace bR := bR.keep k8
      replace kR := kR.trans k8
      have HTA := Lib.hid (HTA.out.keep (k7.trans k8))
      clear d0 d1 d2
      obtain ⟨d0, d1, d2, _⟩ := id b9
      by_cases hzs : Z = s
      ·have HSOME := Lib.hid (HE2.out.1 ⟨HTB.out, hzs⟩)
       have hzq : (Z == s) = true := beq_iff_eq.2 hzs
       clear hzs HE2
       obtain ⟨s0, s1, s2, sf⟩ := id bR
       have sf0 := sf 0
       have sf1 := sf 1
       have sf2 := sf 2
       clear sf
       have bz2 := ((bR.set0 (.int .i64 n)).set1 (.slice xa A0.length xc)).set2 (.slice ya yn yc)
       have kz2 := kR.put3 (b := w.heap.size) (fun h => absurd h (Nat.lt_irrefl _)) (.int .i64 n) (.slice xa A0.length xc) (.slice ya yn yc)
       have HTA2 := Lib.hid (HTA.out.stepB (b := w.heap.size) (by omega) (.int .i64 n) (.slice xa A0.length xc) (.slice ya yn yc))
       obtain ⟨z0, z1, z2, _⟩ := id bz2
       clear bz2
       go_wp2_with fail
       refine bodyPost_ret (v := .tuple #[.agg #[.int .i64 n, .slice xa A0.length xc, .slice ya yn yc], .bool true]) (by simp [results, Tryz.results12, go_sem, z0, z1, z2]) rfl ?_
       exact ⟨_, _, rfl, by rw [HSOME.out]; rfl, by rw [HSOME.out]; exact HTA2.out.weak (by omega), kz2⟩
      ·have HNONE := Lib.hid (HE2.out.2 (fun h => hzs h.2))
       have hzq : (Z == s) = false := beq_eq_false_iff_ne.2 hzs
       clear hzs HE2
       obtain ⟨s0, s1, s2, sf⟩ := id bR
       have sf0 := sf 0
       have sf1 := sf 1
       have sf2 := sf 2
       clear sf
       have bz2 := ((bR.set0 (.int .i64 0)).set1 (.slice none 0 0)).set2 (.slice none 0 0)
       have kz2 := kR.put3 (b := w.heap.size) (fun h => absurd h (Nat.lt_irrefl _)) (.int .i64 0) (.slice none 0 0) (.slice none 0 0)
       obtain ⟨z0, z1, z2, _⟩ := id bz2
       clear bz2
       go_wp2_with fail
       refine bodyPost_ret (v := .tuple #[.agg #[.int .i64 0, .slice none 0 0, .slice none 0 0], .bool false]) (by simp [results, Tryz.results12, go_sem, z0, z1, z2]) rfl ?_
       exact ⟨_, _, rfl, by rw [HNONE.out]; rfl, by rw [HNONE.out]; exact TA.zero _ _, kz2⟩
end Go.Proofs.YtdgcohoneijleaaGreatDoor
