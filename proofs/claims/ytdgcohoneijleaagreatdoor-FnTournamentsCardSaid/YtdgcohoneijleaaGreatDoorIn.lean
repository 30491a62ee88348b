import Derived.Test.YtdgcohoneijleaaGreatDoorPkX28
import Derived.Test.YtdgcohoneijleaaGreatDoorIg
import Derived.Test.YtdgcohoneijleaaGreatDoorDf
namespace Go.Proofs.YtdgcohoneijleaaGreatDoor
open Go.RowKit
def plsS (L : List (List UInt8)) (rq : List Int) (j : Nat) : List Pl := ((L.drop 2).take j).map (fun x => entP (x.drop 1) rq)
theorem plsS_succ (L : List (List UInt8)) (rq : List Int) (j : Nat) (h : j + 2 < L.length) : plsS L rq (j + 1) = plsS L rq j ++ [entP ((L.getD (j + 2) []).drop 1) rq] := by
 unfold plsS
 have hj : j < (L.drop 2).length := by simp; omega
 rw [List.take_succ_eq_append_getElem hj, List.map_append, List.map_cons, List.map_nil, List.getElem_drop, List.getD_eq_getElem?_getD, List.getElem?_eq_getElem (by omega)]
 have : 2 + j = j + 2 := by omega
 simp only [this]
 rfl
theorem plsS_len (L : List (List UInt8)) (rq : List Int) (j : Nat) (h : j + 2 ≤ L.length) : (plsS L rq j).length = j := by
 unfold plsS; simp; omega
theorem plsS_full (L : List (List UInt8)) (rq : List Int) (j : Nat) (h : j + 2 = L.length) : plsS L rq j = (L.drop 2).map (fun x => entP (x.drop 1) rq) := by
 unfold plsS
 rw [List.take_of_length_le (by simp; omega)]
theorem drop2_mem {α : Type} {L : List α} {j : Nat} (h : j + 2 < L.length) (d : α) : L.getD (j + 2) d ∈ L.drop 2 := by
 have hj : j < (L.drop 2).length := by simp; omega
 have e : (L.drop 2)[j] = L.getD (j + 2) d := by
  rw [List.getElem_drop, List.getD_eq_getElem?_getD, List.getElem?_eq_getElem (by omega)]
  have : 2 + j = j + 2 := by omega
  simp only [this]; rfl
 rw [← e]; exact List.getElem_mem hj
set_option maxRecDepth 100000 in
set_option maxHeartbeats 4000000 in
theorem specParse_any (s : List UInt8) (w : World) (hs : s.length ≤ 1048576) :
  Calls Tryz.prog 11 #[.string ⟨s.toArray⟩] w (Ret2 fun v0 v1 w' => v1 = .bool (parT s).isSome ∧ TA w.heap.size w' v0 ((parT s).getD zeroT) ∧ Chg No w w') := by
 have k0 := (Chg.refl No w).alloc (.cells #[.int .i64 0, .slice none 0 0, .slice none 0 0] 31)
 have b0 := Box3.new w (.int .i64 0) (.slice none 0 0) (.slice none 0 0) 31
 have HSP := Lib.hid (fun u h => @parT_sp s u h)
 have HEN := Lib.hid (fun n rq h1 h2 => @parT_end s n rq h1 h2)
 have q1 := Lib.hid (fun W => (l1Split_all s 59 W (by omega) : Calls Tryz.prog 37 #[.string ⟨s.toArray⟩, .int .u8 59] W _))
 have hpl : ∀ x ∈ splitC 59 s, x.length ≤ 1048576 := fun x hx => Nat.le_trans (split_part_len 59 s x hx) hs
 have hne := splitC_ne 59 s
 obtain ⟨L, hL⟩ : ∃ L, splitC 59 s = L := ⟨_, rfl⟩
 rw [hL] at q1 HSP HEN hpl hne
 clear hL
 have hLp : 1 ≤ L.length := by cases L with
  | nil => exact absurd rfl hne
  | cons x L => simp
 obtain ⟨L0, hL0⟩ : ∃ L0, L.getD 0 [] = L0 := ⟨_, rfl⟩
 have hl0 : L0.length ≤ 1048576 := by rw [← hL0]; exact hpl _ (getD_mem' (by omega) _)
 have q2 := Lib.hid (fun W => l1Read_any L0 W (by omega))
 have HL0 := Lib.hid hL0
 have HPL := Lib.hid hpl
 clear hpl hne hl0
 cases hnb : numB L0 with
 | false =>
  have HNONE : Hid (parT s = none) := Lib.hid (by
   cases e : parT s with
   | none => rfl
   | some u => have := (HSP.out u e).1; rw [hL0, hnb] at this; cases this)
  rw [hnb] at q2
  clear hnb hL0
  go_enter Tryz.func11, Tryz.ntmps11
  go_wp2_with fail
  refine (q1.out _).mono ?_
  rintro e w1 ⟨g, m, cap, rfl, hsr, hk1⟩
  obtain ⟨hm0, hg, hmc, hcm, hwa⟩ := hsr.words
  have bR := b0.keep hk1
  have kR := k0.keep hk1
  have hgw : w.heap.size < g := by have := hg; simp at this; omega
  have hmL : m = L.length := hm0
  have hc0 := hwa.2.2 0 (by omega)
  rw [HL0.out] at hc0
  have hm1i : (0 : Int) < (m : Int) := by omega
  have HML := Lib.hid hmL
  clear hsr hm0 hg hmL
  go_wp2_with fail
  refine (q2.out _).mono ?_
  rintro e w2 ⟨rfl, m2, rfl⟩
  have bR := bR.keep (drewN_chg' w1 m2)
  have kR := kR.trans (drewN_chg' w1 m2)
  obtain ⟨s0, s1, s2, sf⟩ := id bR
  have sf0 := sf 0
  have sf1 := sf 1
  have sf2 := sf 2
  clear sf
  have bz2 := ((bR.set0 (.int .i64 0)).set1 (.slice none 0 0)).set2 (.slice none 0 0)
  have kz2 := kR.put3 (b := w.heap.size) (fun h => absurd h (Nat.lt_irrefl _)) (.int .i64 0) (.slice none 0 0) (.slice none 0 0)
  obtain ⟨z0, z1, z2, _⟩ := id bz2
  clear bz2
  go_wp2_with fail
  refine bodyPost_ret (v := .tuple #[.agg #[.int .i64 0, .slice none 0 0, .slice none 0 0], .bool false]) (by simp [results, Tryz.results11, go_sem, z0, z1, z2]) rfl ?_
  exact ⟨_, _, rfl, by rw [HNONE.out]; rfl, by rw [HNONE.out]; exact TA.zero _ _, kz2⟩
 | true =>
  have hrd : rdN L0 = valS L0 := by unfold rdN; rw [hnb]; rfl
  rw [hnb, hrd] at q2
  obtain ⟨n, hn⟩ : ∃ n, valS L0 = n := ⟨_, rfl⟩
  rw [hn] at q2
  have HN : Hid (valS (L.getD 0 []) = n) := Lib.hid (by rw [hL0]; exact hn)
  clear hnb hL0 hrd hn
  by_cases h2 : L.length < 2
  ·have HNONE : Hid (parT s = none) := Lib.hid (by
    cases e : parT s with
    | none => rfl
    | some u => have := (HSP.out u e).2.2.1; omega)
   go_enter Tryz.func11, Tryz.ntmps11
   go_wp2_with fail
   refine (q1.out _).mono ?_
   rintro e w1 ⟨g, m, cap, rfl, hsr, hk1⟩
   obtain ⟨hm0, hg, hmc, hcm, hwa⟩ := hsr.words
   have bR := b0.keep hk1
   have kR := k0.keep hk1
   have hgw : w.heap.size < g := by have := hg; simp at this; omega
   have hmL : m = L.length := hm0
   have hc0 := hwa.2.2 0 (by omega)
   rw [HL0.out] at hc0
   have hm1i : (0 : Int) < (m : Int) := by omega
   have HML := Lib.hid hmL
   clear hsr hm0 hg hmL
   go_wp2_with fail
   refine (q2.out _).mono ?_
   rintro e w2 ⟨rfl, m2, rfl⟩
   have bR := bR.keep (drewN_chg' w1 m2)
   have kR := kR.trans (drewN_chg' w1 m2)
   have hml := HML.out
   have hlt2 : (m : Int) < 2 := by omega
   clear hml
   obtain ⟨s0, s1, s2, sf⟩ := id bR
   have sf0 := sf 0
   have sf1 := sf 1
   have sf2 := sf 2
   clear sf
   have bz2 := ((bR.set0 (.int .i64 0)).set1 (.slice none 0 0)).set2 (.slice none 0 0)
   have kz2 := kR.put3 (b := w.heap.size) (fun h => absurd h (Nat.lt_irrefl _)) (.int .i64 0) (.slice none 0 0) (.slice none 0 0)
   obtain ⟨z0, z1, z2, _⟩ := id bz2
   clear bz2
   go_wp2_with fail
   refine bodyPost_ret (v := .tuple #[.agg #[.int .i64 0, .slice none 0 0, .slice none 0 0], .bool false]) (by simp [results, Tryz.results11, go_sem, z0, z1, z2]) rfl ?_
   exact ⟨_, _, rfl, by rw [HNONE.out]; rfl, by rw [HNONE.out]; exact TA.zero _ _, kz2⟩
  ·by_cases h6 : 6 < L.length
   ·have HNONE : Hid (parT s = none) := Lib.hid (by
     cases e : parT s with
     | none => rfl
     | some u => have := (HSP.out u e).2.2.2.1; omega)
    go_enter Tryz.func11, Tryz.ntmps11
    go_wp2_with fail
    refine (q1.out _).mono ?_
    rintro e w1 ⟨g, m, cap, rfl, hsr, hk1⟩
    obtain ⟨hm0, hg, hmc, hcm, hwa⟩ := hsr.words
    have bR := b0.keep hk1
    have kR := k0.keep hk1
    have hgw : w.heap.size < g := by have := hg; simp at this; omega
    have hmL : m = L.length := hm0
    have hc0 := hwa.2.2 0 (by omega)
    rw [HL0.out] at hc0
    have hm1i : (0 : Int) < (m : Int) := by omega
    have HML := Lib.hid hmL
    clear hsr hm0 hg hmL
    go_wp2_with fail
    refine (q2.out _).mono ?_
    rintro e w2 ⟨rfl, m2, rfl⟩
    have bR := bR.keep (drewN_chg' w1 m2)
    have kR := kR.trans (drewN_chg' w1 m2)
    have hml := HML.out
    have hlt2 : ¬ (m : Int) < 2 := by omega
    have hlt6 : 6 < (m : Int) := by omega
    clear hml
    obtain ⟨s0, s1, s2, sf⟩ := id bR
    have sf0 := sf 0
    have sf1 := sf 1
    have sf2 := sf 2
    clear sf
    have bz2 := ((bR.set0 (.int .i64 0)).set1 (.slice none 0 0)).set2 (.slice none 0 0)
    have kz2 := kR.put3 (b := w.heap.size) (fun h => absurd h (Nat.lt_irrefl _)) (.int .i64 0) (.slice none 0 0) (.slice none 0 0)
    obtain ⟨z0, z1, z2, _⟩ := id bz2
    clear bz2
    go_wp2_with fail
    refine bodyPost_ret (v := .tuple #[.agg #[.int .i64 0, .slice none 0 0, .slice none 0 0], .bool false]) (by simp [results, Tryz.results11, go_sem, z0, z1, z2]) rfl ?_
    exact ⟨_, _, rfl, by rw [HNONE.out]; rfl, by rw [HNONE.out]; exact TA.zero _ _, kz2⟩
   ·obtain ⟨L1, hL1⟩ : ∃ L1, L.getD 1 [] = L1 := ⟨_, rfl⟩
    rw [hL1] at HSP HEN
    have hl1 : L1.length ≤ 1048576 := by rw [← hL1]; exact HPL.out _ (getD_mem' (by omega) _)
    by_cases hz : L1.length = 0
    ·have HNONE : Hid (parT s = none) := Lib.hid (by
      cases e : parT s with
      | none => rfl
      | some u => exact absurd (List.length_eq_zero_iff.1 hz) (HSP.out u e).2.2.2.2.1)
     go_enter Tryz.func11, Tryz.ntmps11
     go_wp2_with fail
     refine (q1.out _).mono ?_
     rintro e w1 ⟨g, m, cap, rfl, hsr, hk1⟩
     obtain ⟨hm0, hg, hmc, hcm, hwa⟩ := hsr.words
     have bR := b0.keep hk1
     have kR := k0.keep hk1
     have hgw : w.heap.size < g := by have := hg; simp at this; omega
     have hmL : m = L.length := hm0
     have hc0 := hwa.2.2 0 (by omega)
     rw [HL0.out] at hc0
     have hm1i : (0 : Int) < (m : Int) := by omega
     have HML := Lib.hid hmL
     clear hsr hm0 hg hmL
     go_wp2_with fail
     refine (q2.out _).mono ?_
     rintro e w2 ⟨rfl, m2, rfl⟩
     have bR := bR.keep (drewN_chg' w1 m2)
     have kR := kR.trans (drewN_chg' w1 m2)
     have hml := HML.out
     have hlt2 : ¬ (m : Int) < 2 := by omega
     have hlt6 : ¬ 6 < (m : Int) := by omega
     have hm1m : (1 : Int) < (m : Int) := by omega
     have hc1 := hwa.2.2 1 (by omega)
     rw [hL1] at hc1
     clear hml
     have hzi : ((L1.length : Nat) : Int) = 0 := by omega
     obtain ⟨s0, s1, s2, sf⟩ := id bR
     have sf0 := sf 0
     have sf1 := sf 1
     have sf2 := sf 2
     clear sf
     have bz2 := ((bR.set0 (.int .i64 0)).set1 (.slice none 0 0)).set2 (.slice none 0 0)
     have kz2 := kR.put3 (b := w.heap.size) (fun h => absurd h (Nat.lt_irrefl _)) (.int .i64 0) (.slice none 0 0) (.slice none 0 0)
     obtain ⟨z0, z1, z2, _⟩ := id bz2
     clear bz2
     go_wp2_with fail
     refine bodyPost_ret (v := .tuple #[.agg #[.int .i64 0, .slice none 0 0, .slice none 0 0], .bool false]) (by simp [results, Tryz.results11, go_sem, z0, z1, z2]) rfl ?_
     exact ⟨_, _, rfl, by rw [HNONE.out]; rfl, by rw [HNONE.out]; exact TA.zero _ _, kz2⟩
    ·obtain ⟨D1, hD1⟩ : ∃ D1, L1.drop 1 = D1 := ⟨_, rfl⟩
     have q3 := Lib.hid (fun W => specParseRequests_any n D1 W (by rw [← hD1, List.length_drop]; omega))
     rw [hD1] at HSP HEN
     obtain ⟨pr, hpr⟩ : ∃ pr, parR n D1 = pr := ⟨_, rfl⟩
     have HPR := Lib.hid hpr
     rw [hpr] at q3
     clear hpr
     cases pr with
     | none =>
      have HNONE : Hid (parT s = none) := Lib.hid (by
       cases e : parT s with
       | none => rfl
       | some u =>
        have h1 := (HSP.out u e)
        have h3 := h1.2.1
        rw [HN.out] at h3
        have h2 := h1.2.2.2.2.2.1
        rw [← h3, HPR.out] at h2
        cases h2)
      go_enter Tryz.func11, Tryz.ntmps11
      go_wp2_with fail
      refine (q1.out _).mono ?_
      rintro e w1 ⟨g, m, cap, rfl, hsr, hk1⟩
      obtain ⟨hm0, hg, hmc, hcm, hwa⟩ := hsr.words
      have bR := b0.keep hk1
      have kR := k0.keep hk1
      have hgw : w.heap.size < g := by have := hg; simp at this; omega
      have hmL : m = L.length := hm0
      have hc0 := hwa.2.2 0 (by omega)
      rw [HL0.out] at hc0
      have hm1i : (0 : Int) < (m : Int) := by omega
      have HML := Lib.hid hmL
      clear hsr hm0 hg hmL
      go_wp2_with fail
      refine (q2.out _).mono ?_
      rintro e w2 ⟨rfl, m2, rfl⟩
      have bR := bR.keep (drewN_chg' w1 m2)
      have kR := kR.trans (drewN_chg' w1 m2)
      have hml := HML.out
      have hlt2 : ¬ (m : Int) < 2 := by omega
      have hlt6 : ¬ 6 < (m : Int) := by omega
      have hm1m : (1 : Int) < (m : Int) := by omega
      have hc1 := hwa.2.2 1 (by omega)
      rw [hL1] at hc1
      clear hml
      have hs1 := sl_runF 9 Tryz.underlying9 L1 1 (by omega)
      rw [show ((1 : Nat) : Int) = 1 from rfl, hD1] at hs1
      have hzq : (((L1.length : Nat) : Int) == 0) = false := beq_eq_false_iff_ne.2 (by omega)
      go_wp2_with fail
      refine (q3.out _).mono ?_
      rintro e w3 ⟨v0, _, rfl, rfl, o3, k3⟩
      obtain ⟨oa, on, oq, rfl⟩ := o3.shape
      have bR := bR.keep k3
      have kR := kR.trans k3
      clear hs1
      obtain ⟨s0, s1, s2, sf⟩ := id bR
      have sf0 := sf 0
      have sf1 := sf 1
      have sf2 := sf 2
      clear sf
      have bz2 := ((bR.set0 (.int .i64 0)).set1 (.slice none 0 0)).set2 (.slice none 0 0)
      have kz2 := kR.put3 (b := w.heap.size) (fun h => absurd h (Nat.lt_irrefl _)) (.int .i64 0) (.slice none 0 0) (.slice none 0 0)
      obtain ⟨z0, z1, z2, _⟩ := id bz2
      clear bz2
      go_wp2_with fail
      refine bodyPost_ret (v := .tuple #[.agg #[.int .i64 0, .slice none 0 0, .slice none 0 0], .bool false]) (by simp [results, Tryz.results11, go_sem, z0, z1, z2]) rfl ?_
      exact ⟨_, _, rfl, by rw [HNONE.out]; rfl, by rw [HNONE.out]; exact TA.zero _ _, kz2⟩
     | some rq =>
      go_enter Tryz.func11, Tryz.ntmps11
      go_wp2_with fail
      refine (q1.out _).mono ?_
      rintro e w1 ⟨g, m, cap, rfl, hsr, hk1⟩
      obtain ⟨hm0, hg, hmc, hcm, hwa⟩ := hsr.words
      have bR := b0.keep hk1
      have kR := k0.keep hk1
      have hgw : w.heap.size < g := by have := hg; simp at this; omega
      have hmL : m = L.length := hm0
      have hc0 := hwa.2.2 0 (by omega)
      rw [HL0.out] at hc0
      have hm1i : (0 : Int) < (m : Int) := by omega
      have HML := Lib.hid hmL
      clear hsr hm0 hg hmL
      go_wp2_with fail
      refine (q2.out _).mono ?_
      rintro e w2 ⟨rfl, m2, rfl⟩
      have bR := bR.keep (drewN_chg' w1 m2)
      have kR := kR.trans (drewN_chg' w1 m2)
      have hml := HML.out
      have hlt2 : ¬ (m : Int) < 2 := by omega
      have hlt6 : ¬ 6 < (m : Int) := by omega
      have hm1m : (1 : Int) < (m : Int) := by omega
      have hc1 := hwa.2.2 1 (by omega)
      rw [hL1] at hc1
      clear hml
      have hs1 := sl_runF 9 Tryz.underlying9 L1 1 (by omega)
      rw [show ((1 : Nat) : Int) = 1 from rfl, hD1] at hs1
      have hzq : (((L1.length : Nat) : Int) == 0) = false := beq_eq_false_iff_ne.2 (by omega)
      go_wp2_with fail
      refine (q3.out _).mono ?_
      rintro e w3 ⟨v0, _, rfl, rfl, o3, k3⟩
      obtain ⟨oa, on, oq, rfl⟩ := o3.shape
      have bR := bR.keep k3
      have kR := kR.trans k3
      clear hs1
      go_wp2_with fail
      have hg1 : g < w1.heap.size := hwa.2.1
      obtain ⟨S3, hS3⟩ : ∃ S3, w3.heap.size = S3 := ⟨_, rfl⟩
      have hgS : g < S3 := by have := k3.size; simp at this; omega
      have ho0 : OI (w.heap.size + 1) w3 (.slice oa on oq) rq := o3.weak (by have := (bR.keep (Chg.refl No _)).lt; simp; omega)
      have hcl : ∀ q, own (.slice oa on oq) q → q < S3 := fun q hq => hS3 ▸ (ho0.lt q hq).2
      have ka := (Chg.refl No w3).alloc (.cells #[] 68)
      have oG := OS.zero (E := 68) (sz := 7) (base := S3) (w := w3) (by omega)
      have kb := ka.alloc (.cells #[.int .i64 n, .slice (some ⟨w3.heap.size, 0, none⟩) 0 0, .slice oa on oq] 31)
      have b9 := Box3.new (w3.alloc (.cells #[] 68)) (.int .i64 n) (.slice (some ⟨w3.heap.size, 0, none⟩) 0 0) (.slice oa on oq) 31
      have hp9 := oG.alloc (.cells #[.int .i64 n, .slice (some ⟨w3.heap.size, 0, none⟩) 0 0, .slice oa on oq] 31)
      have hb9 : (w3.alloc (.cells #[] 68)).heap.size = S3 + 1 := by simp [hS3]
      rw [hb9] at b9
      rw [hS3] at b9 kb hp9
      rw [hS3]
      replace bR := bR.keep kb
      replace kR := kR.trans kb
      have hwa9 := (hwa.step (drewN_chg' w1 m2) (fun e => e)).step k3 (fun e => e) |>.step kb (fun e => e)
      replace ho0 := ho0.keep kb
      have hp0 : PA S3 _ _ (plsS L rq (2 - 2)) (fun _ => undef) (fun _ => undef) := PA.nil S3 _ hp9 _ _
      have hf0 : ∀ q, FA (.slice (some ⟨S3, 0, none⟩) 0 0) (plsS L rq (2 - 2)).length (fun _ => undef) (fun _ => undef) q → q ≠ S3 + 1 := fun q hq => by
       rcases hq with hq | ⟨i, hi, _⟩
       ·have e := own_slice.1 hq
        omega
       ·exact absurd hi (Nat.not_lt_zero i)
      have hm2 : 2 ≤ m := by omega
      clear ka kb oG hp9 o3 hwa hb9 hc0 hc1 k3 hzq
      obtain ⟨W0, hW0⟩ : ∃ W0, ((w3.alloc (.cells #[] 68)).alloc (.cells #[.int .i64 n, .slice (some ⟨S3, 0, none⟩) 0 0, .slice oa on oq] 31)) = W0 := ⟨_, rfl⟩
      rw [hW0] at b9 bR kR hwa9 ho0 hp0 ⊢
      clear hW0 hS3
      go_loopw [10] (fun z wr => ∃ (K : Nat) (ov : Value) (pg mg : Nat → Value), 2 ≤ K ∧ K ≤ m ∧ z = .int .i64 (K : Int) ∧ Chg No w wr ∧ Box3 wr w.heap.size (.int .i64 0) (.slice none 0 0) (.slice none 0 0) ∧ Box3 wr (S3 + 1) (.int .i64 n) ov (.slice oa on oq) ∧ WordsAt wr g m L ∧
       PA S3 wr ov (plsS L rq (K - 2)) pg mg ∧ OI (w.heap.size + 1) wr (.slice oa on oq) rq ∧ (∀ q, FA ov (plsS L rq (K - 2)).length pg mg q → q ≠ S3 + 1)) (fun z _ => m - (intOf z).toNat)
      case atStart => exact ⟨2, _, _, _, Nat.le_refl _, hm2, rfl, kR, bR, b9, hwa9, hp0, ho0, hf0⟩
      case round =>
       clear bR kR b9 hwa9 hp0 ho0 hf0
       obtain ⟨K, ov, pg, mg, hK2, hKm, rfl, kR, bR, b9, hwa, hP, ho, hF⟩ := hrel
       have hK0 : (0 : Int) ≤ (K : Int) := Int.natCast_nonneg _
       have hmL := HML.out
       have hlp := plsS_len L rq (K - 2) (by omega)
       by_cases hlt : K < m
       ·have hKi : (K : Int) < (m : Int) := by omega
        have hcK := hwa.2.2 K hlt
        have hxm : L.getD K [] ∈ L := getD_mem' (by omega) []
        have hxl := HPL.out _ hxm
        have hd2 : L.getD (K - 2 + 2) [] ∈ L.drop 2 := drop2_mem (by omega) []
        have hsn := plsS_succ L rq (K - 2) (by omega)
        have e22 : K - 2 + 2 = K := by omega
        have e12 : K - 2 + 1 = K + 1 - 2 := by omega
        rw [e22] at hsn hd2
        rw [e12] at hsn
        have HBAD : Hid (¬ (L.getD K [] ≠ [] ∧ entB ((L.getD K []).drop 1) rq.length = true) → parT s = none) := Lib.hid (fun h => by
         cases e : parT s with
         | none => rfl
         | some u =>
          have h1 := HSP.out u e
          have h3 := h1.2.1
          rw [HN.out] at h3
          have h2 := h1.2.2.2.2.2.1
          rw [← h3, HPR.out] at h2
          have h4 : rq = u.reqs := by injection h2
          have h5 := h1.2.2.2.2.2.2.1 _ hd2
          rw [← h4] at h5
          exact absurd h5 h)
        obtain ⟨x, hx⟩ : ∃ x, L.getD K [] = x := ⟨_, rfl⟩
        rw [hx] at hcK hxl hsn HBAD
        clear hxm hx hd2 e22 e12 hmL
        by_cases hx0 : x.length = 0
        ·have HNONE := Lib.hid (HBAD.out (fun h => h.1 (List.length_eq_zero_iff.1 hx0)))
         have hxq : (((x.length : Nat) : Int) == 0) = true := beq_iff_eq.2 (by omega)
         clear hP ho hF hsn b9 HBAD hx0
         obtain ⟨s0, s1, s2, sf⟩ := id bR
         have sf0 := sf 0
         have sf1 := sf 1
         have sf2 := sf 2
         clear sf
         have bz2 := ((bR.set0 (.int .i64 0)).set1 (.slice none 0 0)).set2 (.slice none 0 0)
         have kz2 := kR.put3 (b := w.heap.size) (fun h => absurd h (Nat.lt_irrefl _)) (.int .i64 0) (.slice none 0 0) (.slice none 0 0)
         obtain ⟨z0, z1, z2, _⟩ := id bz2
         clear bz2
         go_wp2_with fail
         refine bodyPost_ret (v := .tuple #[.agg #[.int .i64 0, .slice none 0 0, .slice none 0 0], .bool false]) (by simp [results, Tryz.results11, go_sem, z0, z1, z2]) rfl ?_
         exact ⟨_, _, rfl, by rw [HNONE.out]; rfl, by rw [HNONE.out]; exact TA.zero _ _, kz2⟩
        ·have hxq : (((x.length : Nat) : Int) == 0) = false := beq_eq_false_iff_ne.2 (by omega)
         have hs2 := sl_runF 9 Tryz.underlying9 x 1 (by omega)
         obtain ⟨D, hD⟩ : ∃ D, x.drop 1 = D := ⟨_, rfl⟩
         rw [show ((1 : Nat) : Int) = 1 from rfl, hD] at hs2
         rw [hD] at hsn HBAD
         have q4 := Lib.hid (l12Entry_any D (.slice oa on oq) rq wr (by rw [← hD, List.length_drop]; omega) ho.readNo)
         obtain ⟨Q, hQ⟩ : ∃ Q, entQ D rq = Q := ⟨_, rfl⟩
         rw [hQ] at q4
         have HQ := Lib.hid hQ
         clear hQ hD hx0
         cases heb : entB D rq.length with
         | false =>
          have HNONE := Lib.hid (HBAD.out (fun h => by rw [heb] at h; cases h.2))
          rw [heb] at q4
          clear HBAD heb hsn hP ho hF b9
          go_wp2_with fail
          refine q4.out.mono ?_
          rintro e w5 ⟨v0, _, rfl, rfl, ⟨pv, mv, rfl, hxp, hxm, hxa⟩, k5⟩
          obtain ⟨x1, x2, x3, rfl⟩ := hxp.shape
          obtain ⟨x4, x5, x6, rfl⟩ := hxm.shape
          have ka := k5.alloc (.cells #[.int .i64 Q.frm, .int .i64 Q.ca.pol, .int .i64 Q.ca.size, .slice x1 x2 x3, .slice x4 x5 x6, .int .i64 Q.ca.hand, .int .i64 Q.fa] 68)
          replace bR := bR.keep ka
          replace kR := kR.trans ka
          clear ka hxp hxm hxa k5 hs2 hcK hwa
          obtain ⟨s0, s1, s2, sf⟩ := id bR
          have sf0 := sf 0
          have sf1 := sf 1
          have sf2 := sf 2
          clear sf
          have bz2 := ((bR.set0 (.int .i64 0)).set1 (.slice none 0 0)).set2 (.slice none 0 0)
          have kz2 := kR.put3 (b := w.heap.size) (fun h => absurd h (Nat.lt_irrefl _)) (.int .i64 0) (.slice none 0 0) (.slice none 0 0)
          obtain ⟨z0, z1, z2, _⟩ := id bz2
          clear bz2
          go_wp2_with fail
          refine bodyPost_ret (v := .tuple #[.agg #[.int .i64 0, .slice none 0 0, .slice none 0 0], .bool false]) (by simp [results, Tryz.results11, go_sem, z0, z1, z2]) rfl ?_
          exact ⟨_, _, rfl, by rw [HNONE.out]; rfl, by rw [HNONE.out]; exact TA.zero _ _, kz2⟩
         | true =>
          rw [heb] at q4
          have HQ2 : Hid (entP D rq = Q) := Lib.hid (by rw [← HQ.out]; unfold entQ; rw [heb]; rfl)
          rw [HQ2.out] at hsn
          have HSN := Lib.hid hsn
          clear HBAD heb hsn
          obtain ⟨R0, hR0⟩ : ∃ R0, plsS L rq (K - 2) = R0 := ⟨_, rfl⟩
          rw [hR0] at hP hF hlp HSN
          have hlb : R0.length ≤ 4 := by omega
          clear hlp
          obtain ⟨ra, rc, rfl, _⟩ := hP.os.view
          clear hR0
          have hSw : S3 + 1 < wr.heap.size := b9.lt
          go_wp2_with fail
          refine q4.out.mono ?_
          rintro e w5 ⟨v0, _, rfl, rfl, ⟨pv, mv, rfl, op, om, oap⟩, k5⟩
          obtain ⟨x1, x2, x3, rfl⟩ := op.shape
          obtain ⟨x4, x5, x6, rfl⟩ := om.shape
          have ka := (Chg.refl No w5).alloc (.cells #[.int .i64 Q.frm, .int .i64 Q.ca.pol, .int .i64 Q.ca.size, .slice x1 x2 x3, .slice x4 x5 x6, .int .i64 Q.ca.hand, .int .i64 Q.fa] 68)
          have bp := Box7.new w5 (.int .i64 Q.frm) (.int .i64 Q.ca.pol) (.int .i64 Q.ca.size) (.slice x1 x2 x3) (.slice x4 x5 x6) (.int .i64 Q.ca.hand) (.int .i64 Q.fa) 68
          have k5a := k5.trans ka
          have op := op.keep ka
          have om := om.keep ka
          replace bR := bR.keep k5a
          replace kR := kR.trans k5a
          replace b9 := b9.keep k5a
          replace hwa := hwa.step k5a (fun e => e)
          replace ho := ho.keep k5a
          have hPos := hP.os.keep k5a
          have hs5 := k5a.size
          have HSZ : Hid ((w5.alloc (.cells #[.int .i64 Q.frm, .int .i64 Q.ca.pol, .int .i64 Q.ca.size, .slice x1 x2 x3, .slice x4 x5 x6, .int .i64 Q.ca.hand, .int .i64 Q.fa] 68)).heap.size = w5.heap.size + 1) := Lib.hid (by simp)
          have hgeq : ∀ q, own (.slice ra R0.length rc) q → S3 ≤ q ∧ q ≠ S3 + 1 := fun q hq => ⟨(hP.os.lt q hq).1, hF q (.inl hq)⟩
          obtain ⟨d0, d1, d2, _⟩ := id b9
          obtain ⟨y0, y1, y2, y3, y4, y5, y6, _⟩ := id bp
          clear ka k5 hs2 hcK
          go_wp2_with (at_builtin; refine wappS1 elPlayers (by omega) rfl (.tmp 85) (.tmp 87) rfl hPos rfl (by simp [Value.oneCell']) rfl (by rw [HSZ.out]; rfl) (by omega) (by omega) ?_)
          intro v' wN oN kN hnN
          rw [← HSZ.out] at hnN
          have HPN := Lib.hid (hP.snoc (by omega) k5a op om oap oN kN hnN)
          have HFN : Hid (∀ q, FA v' (R0.length + 1) (fun i => if i = R0.length then .slice x1 x2 x3 else pg i) (fun i => if i = R0.length then .slice x4 x5 x6 else mg i) q → q ≠ S3 + 1) := Lib.hid (fun q hq => by
           rcases PA.snocF (b := wr.heap.size) (fun q hq => (op.lt q hq).1) (fun q hq => (om.lt q hq).1) hs5 hnN q hq with h | h
           ·exact hF q h
           ·omega)
          replace kR := kR.step kN (fun q hq hl => by have := (hgeq q hq).1; omega)
          replace bR := bR.step kN (fun hq => by have := (hgeq _ hq).1; omega)
          replace b9 := b9.step kN (fun hq => (hgeq _ hq).2 rfl)
          replace hwa := hwa.step kN (fun hq => by have := (hgeq _ hq).1; omega)
          replace ho := ho.step kN (fun q hq hq' => by have := (hgeq _ hq').1; have := hcl q hq; omega)
          obtain ⟨na, nc, rfl, _⟩ := oN.view
          have cN : Chg (fun q => q = S3 + 1) wN (wN.setCell ⟨S3 + 1, 1, none⟩ (.slice na (R0.length + 1) nc)) := (Chg.refl (fun q => q = S3 + 1) wN).setCell (p := ⟨S3 + 1, 1, none⟩) (fun _ => rfl) _
          have hlx : (R0 ++ [Q]).length = R0.length + 1 := by simp
          have HEND := Lib.hid (And.intro (kR.step cN (fun q hq hl => by omega)) (And.intro (bR.step cN (by omega)) (And.intro (b9.set1 (.slice na (R0.length + 1) nc)) (And.intro (hwa.step cN (by omega)) (And.intro (HPN.out.step cN (fun q hq e => HFN.out q (by rw [hlx] at hq; exact hq) e)) (ho.step cN (fun q hq e => by have := hcl q hq; omega)))))))
          have hb91 := b9.c1
          have hb9f := b9.fr 1
          have hw1 : IntKind.i64.wrap ((K : Int) + 1) = (K : Int) + 1 := IntWalk.i64_in _ (by omega)
          clear kR bR b9 hwa hP hPos ho oN kN hnN HPN cN op om bp hgeq d0 d1 d2 y0 y1 y2 y3 y4 y5 y6 hF
          go_wp2_with fail
          go_round
          case measure => simp [intOf]; omega
          case rel =>
           obtain ⟨e1, e2, e3, e4, e5, e6⟩ := HEND.out
           exact ⟨K + 1, _, _, _, by omega, by omega, by go_num, e1, e2, e3, e4, by rw [HSN.out]; exact e5, e6, by rw [HSN.out, hlx]; exact HFN.out⟩
       ·have hKe : K = m := by omega
        subst hKe
        have hKi : ¬ (K : Int) < (K : Int) := by omega
        have hfull := plsS_full L rq (K - 2) (by omega)
        have HE2 := Lib.hid (HEN.out n rq HN.out HPR.out)
        rw [← hfull] at HE2
        clear hfull hmL
        obtain ⟨R0, hR0⟩ : ∃ R0, plsS L rq (K - 2) = R0 := ⟨_, rfl⟩
        rw [hR0] at hP hF hlp HE2
        have hlb : R0.length ≤ 4 := by omega
        clear hlp
        obtain ⟨ra, rc, rfl, _⟩ := hP.os.view
        clear hR0
        have hbl := bR.lt
        have hSw : S3 + 1 < wr.heap.size := b9.lt
        have hTA : TA (w.heap.size + 1) wr (.agg #[.int .i64 n, .slice ra R0.length rc, .slice oa on oq]) ⟨n, R0, rq⟩ := ⟨_, _, _, _, rfl, hP.weak (by omega), ho, fun q hq hq' => by have := (hP.inF q hq).1; have := hcl q hq'; omega⟩
        have hRT := hTA.rt (by show R0.length ≤ 1048576; omega) (A := No) (fun _ _ e => e)
        have q6 := Lib.hid (l12Tour_any _ _ wr hRT)
        obtain ⟨d0, d1, d2, _⟩ := id b9
        cases htb : tourB ⟨n, R0, rq⟩ with
        | false =>
         have HNONE := Lib.hid (HE2.out.2 (fun h => by rw [htb] at h; cases h.1))
         rw [htb] at q6
         clear HE2 htb hTA hRT hP hF ho
         go_wp2_with fail
         refine q6.out.mono ?_
         rintro e w6 ⟨_, rfl, rfl, k6⟩
         replace bR := bR.keep k6
         replace kR := kR.trans k6
         clear d0 d1 d2
         obtain ⟨s0, s1, s2, sf⟩ := id bR
         have sf0 := sf 0
         have sf1 := sf 1
         have sf2 := sf 2
         clear sf
         have bz2 := ((bR.set0 (.int .i64 0)).set1 (.slice none 0 0)).set2 (.slice none 0 0)
         have kz2 := kR.put3 (b := w.heap.size) (fun h => absurd h (Nat.lt_irrefl _)) (.int .i64 0) (.slice none 0 0) (.slice none 0 0)
         obtain ⟨z0, z1, z2, _⟩ := id bz2
         clear bz2
         go_wp2_with fail
         refine bodyPost_ret (v := .tuple #[.agg #[.int .i64 0, .slice none 0 0, .slice none 0 0], .bool false]) (by simp [results, Tryz.results11, go_sem, z0, z1, z2]) rfl ?_
         exact ⟨_, _, rfl, by rw [HNONE.out]; rfl, by rw [HNONE.out]; exact TA.zero _ _, kz2⟩
        | true =>
         obtain ⟨Z, hZ⟩ : ∃ Z, touT ⟨n, R0, rq⟩ = Z := ⟨_, rfl⟩
         have q7 := Lib.hid (fun W (h : RT No W (.agg #[.int .i64 n, .slice ra R0.length rc, .slice oa on oq]) ⟨n, R0, rq⟩) => l12Text_any _ _ W h htb)
         rw [htb] at q6
         rw [hZ] at HE2
         have HRT := Lib.hid hRT
         have HTA := Lib.hid hTA
         have HZ := Lib.hid hZ
         have HTB := Lib.hid htb
         clear hTA hRT hP hF ho hZ htb
         go_wp2_with fail
         refine q6.out.mono ?_
         rintro e w6 ⟨_, rfl, rfl, k6⟩
         have b9 := b9.keep k6
         replace bR := bR.keep k6
         replace kR := kR.trans k6
         clear d0 d1 d2
         obtain ⟨d0, d1, d2, _⟩ := id b9
         have q7 := Lib.hid (q7.out w6 (HRT.out.keep k6))
         rw [HZ.out] at q7
         go_wp2_with fail
         refine q7.out.mono ?_
         rintro e w7 ⟨rfl, k7⟩
         have b9 := b9.keep k7
         replace bR := bR.keep k7
         replace kR := kR.trans k7
         have HTA := Lib.hid (HTA.out.keep (k6.trans k7))
         clear d0 d1 d2
         obtain ⟨d0, d1, d2, _⟩ := id b9
         by_cases hzs : Z = s
         ·have HSOME := Lib.hid (HE2.out.1 ⟨HTB.out, hzs⟩)
          have hzq : (Z == s) = true := beq_iff_eq.2 hzs
          clear hzs HE2
          obtain ⟨s0, s1, s2, sf⟩ := id bR
          have sf0 := sf 0
          have sf1 := sf 1
          have sf2 := sf 2
          clear sf
          have bz2 := ((bR.set0 (.int .i64 n)).set1 (.slice ra R0.length rc)).set2 (.slice oa on oq)
          have kz2 := kR.put3 (b := w.heap.size) (fun h => absurd h (Nat.lt_irrefl _)) (.int .i64 n) (.slice ra R0.length rc) (.slice oa on oq)
          have HTA2 := Lib.hid (HTA.out.stepB (b := w.heap.size) (by omega) (.int .i64 n) (.slice ra R0.length rc) (.slice oa on oq))
          obtain ⟨z0, z1, z2, _⟩ := id bz2
          clear bz2
          go_wp2_with fail
          refine bodyPost_ret (v := .tuple #[.agg #[.int .i64 n, .slice ra R0.length rc, .slice oa on oq], .bool true]) (by simp [results, Tryz.results11, go_sem, z0, z1, z2]) rfl ?_
          exact ⟨_, _, rfl, by rw [HSOME.out]; rfl, by rw [HSOME.out]; exact HTA2.out.weak (by omega), kz2⟩
         ·have HNONE := Lib.hid (HE2.out.2 (fun h => hzs h.2))
          have hzq : (Z == s) = false := beq_eq_false_iff_ne.2 hzs
          clear hzs HE2
          obtain ⟨s0, s1, s2, sf⟩ := id bR
          have sf0 := sf 0
          have sf1 := sf 1
          have sf2 := sf 2
          clear sf
          have bz2 := ((bR.set0 (.int .i64 0)).set1 (.slice none 0 0)).set2 (.slice none 0 0)
          have kz2 := kR.put3 (b := w.heap.size) (fun h => absurd h (Nat.lt_irrefl _)) (.int .i64 0) (.slice none 0 0) (.slice none 0 0)
          obtain ⟨z0, z1, z2, _⟩ := id bz2
          clear bz2
          go_wp2_with fail
          refine bodyPost_ret (v := .tuple #[.agg #[.int .i64 0, .slice none 0 0, .slice none 0 0], .bool false]) (by simp [results, Tryz.results11, go_sem, z0, z1, z2]) rfl ?_
          exact ⟨_, _, rfl, by rw [HNONE.out]; rfl, by rw [HNONE.out]; exact TA.zero _ _, kz2⟩
end Go.Proofs.YtdgcohoneijleaaGreatDoor
