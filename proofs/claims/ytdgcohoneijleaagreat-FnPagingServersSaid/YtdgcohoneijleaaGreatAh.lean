import Derived.Test.YtdgcohoneijleaaGreatAf
import Derived.Test.YtdgcohoneijleaaGreatGo
import Derived.Test.YtdgcohoneijleaaGreatJ
/- orders: the program's walk -/
namespace Go.Proofs.YtdgcohoneijleaaGreat
open Go.RowKit

def orG (l : List Int) (i : Nat) : List (List Int) := ((List.range i).filter fun (y : Nat) => !(l.contains (y : Int))).map fun (y : Nat) => l ++ [(y : Int)]
theorem orG_zero (l : List Int) : orG l 0 = [] := rfl
theorem orG_yes {l : List Int} {i : Nat} (h : hasB l (i : Int) = true) : orG l (i + 1) = orG l i := by
  unfold hasB at h
  unfold orG
  rw [List.range_succ, List.filter_append]
  simp only [List.filter_cons, List.filter_nil, h, Bool.not_true, Bool.false_eq_true, if_false, List.append_nil]
theorem orG_no {l : List Int} {i : Nat} (h : hasB l (i : Int) = false) : orG l (i + 1) = orG l i ++ [l ++ [(i : Int)]] := by
  unfold hasB at h
  unfold orG
  rw [List.range_succ, List.filter_append]
  simp only [List.filter_cons, List.filter_nil, h, Bool.not_false, if_true, List.map_append, List.map_cons, List.map_nil]
def orP (k : Nat) (L : List (List Int)) (j : Nat) : List (List Int) := (L.take j).flatMap fun l => orG l k
theorem orP_succ (k : Nat) (L : List (List Int)) {j : Nat} (h : j < L.length) : orP k L (j + 1) = orP k L j ++ orG (L.getD j []) k := by
  unfold orP
  rw [List.take_add_one, List.getElem?_eq_getElem h, List.flatMap_append, List.getD_eq_getElem?_getD, List.getElem?_eq_getElem h]
  simp
theorem orP_full (k : Nat) (L : List (List Int)) : orP k L L.length = orN k L := by unfold orP orN orG; rw [List.take_length]
theorem orI_len : ∀ k, k ≤ 3 → ∀ i, i ≤ 3 → (orI k i).length ≤ 27 ∧ ∀ l ∈ orI k i, l.length ≤ 3 := by decide
set_option maxRecDepth 100000 in
set_option maxHeartbeats 4000000 in
theorem orders_any (k : Nat) (w : World) (hk : k ≤ 3) :
    Calls Tryz.prog 91 #[.int .i64 (k : Int)] w (Ret fun v w' => (∃ F, OII w.heap.size w' v (ors k) F) ∧ Chg No w w') := by
  have h1 := OII.one (OI.zero (base := w.heap.size) (w := w) (Nat.le_refl _)) (by simp)
  rw [show (w.alloc (.cells #[] 3)).heap.size = w.heap.size + 1 by simp] at h1
  have k1 := ((Chg.refl No w).alloc (.cells #[] 3)).alloc (.cells #[.slice (some ⟨w.heap.size, 0, none⟩) 0 0] 25)
  have HK := Lib.hid (fun i (hi : i ≤ k) => orI_len k hk i (by omega))
  go_enter Tryz.func91, Tryz.ntmps91
  go_wp2_with fail
  go_loopw [3, 11] (fun o z wr => ∃ (i : Nat) (L : List (List Int)) (F : Nat → Prop), i ≤ k ∧ z = .int .i64 (i : Int) ∧ OII w.heap.size wr o L F ∧ Hid (L = orI k i) ∧ Chg No w wr) (fun _ z _ => k - (intOf z).toNat)
  case atStart => exact ⟨0, _, _, Nat.zero_le _, rfl, h1, Lib.hid rfl, k1⟩
  case round =>
    clear h1 k1
    obtain ⟨i, L, F, hi, rfl, hO, HL, kr⟩ := hrel
    have hi0 : (0 : Int) ≤ (i : Int) := Int.natCast_nonneg _
    obtain ⟨la, lc, rfl⟩ := hO.readNo.shape
    by_cases hlt : i < k
    · have hi1 : (i : Int) < (k : Int) := by omega
      have hwi : IntKind.i64.wrap ((i : Int) + 1) = (i : Int) + 1 := IntWalk.i64_in _ (by omega)
      have hbz := kr.size
      have hn0 := OII.zero (base := wr.heap.size) (w := wr) (Nat.le_refl _)
      have ka := kr.alloc (.cells #[] 25)
      have hoa := hO.keep ((Chg.refl No wr).alloc (.cells #[] 25))
      obtain ⟨Z0, hZ0⟩ : ∃ Z, wr.heap.size = Z := ⟨_, rfl⟩
      have HLR := Lib.hid (hoa.read (A := fun q => Z0 ≤ q) (fun q hq => by have := (hO.lt q hq).2; omega))
      have HZ : Hid (w.heap.size ≤ Z0) := Lib.hid (by omega)
      have HZ1 : Hid (Z0 ≤ (wr.alloc (.cells #[] 25)).heap.size) := Lib.hid (by simp; omega)
      have hLl : L.length ≤ 27 := by rw [HL.out]; exact (HK.out i hi).1
      rw [hZ0] at hn0
      clear hO kr hoa hbz
      go_wp2_with fail
      try rw [hZ0]
      clear hZ0
      go_loopw [4, 16] (fun o z wq => ∃ (j : Nat) (M : List (List Int)) (G : Nat → Prop), j ≤ L.length ∧ z = .int .i64 (j : Int) ∧ OII Z0 wq o M G ∧ Hid (M = orP k L j ∧ M.length ≤ 3 * j) ∧ Hid (RII (fun q => Z0 ≤ q) wq (.slice la L.length lc) L) ∧ Hid (Z0 ≤ wq.heap.size) ∧ Chg No w wq) (fun _ z _ => L.length - (intOf z).toNat)
      case atStart => exact ⟨0, [], _, Nat.zero_le _, rfl, hn0, Lib.hid ⟨rfl, by simp⟩, HLR, HZ1, ka⟩
      case round =>
        clear hn0 ka HLR HZ1
        obtain ⟨j, M, G, hj, rfl, hO, HM, HR, HW, kq⟩ := hrel
        have hj0 : (0 : Int) ≤ (j : Int) := Int.natCast_nonneg _
        obtain ⟨oa, oc, rfl⟩ := hO.readNo.shape
        by_cases hltj : j < L.length
        · have hj1 : (j : Int) < (L.length : Int) := by omega
          have hwj : IntKind.i64.wrap ((j : Int) + 1) = (j : Int) + 1 := IntWalk.i64_in _ (by omega)
          obtain ⟨rb, ro, xa, xc, rfl, hrb, hcr, hrow⟩ := HR.out.row hltj
          obtain ⟨row, hrw⟩ : ∃ row, L.getD j [] = row := ⟨_, rfl⟩
          have hrl : row.length ≤ 3 := by
            rw [← hrw]
            have hm : L.getD j [] ∈ orI k i := by rw [← HL.out, List.getD_eq_getElem?_getD, List.getElem?_eq_getElem hltj]; exact List.getElem_mem _
            exact (HK.out i hi).2 _ hm
          rw [hrw] at hcr hrow
          have HRW := Lib.hid hrw
          have hrow0 := hrow
          clear hrw
          go_wp2_with fail
          clear hcr
          go_loopw [4, 21] (fun o z wp => ∃ (y : Nat) (M2 : List (List Int)) (G2 : Nat → Prop), y ≤ k ∧ z = .int .i64 (y : Int) ∧ OII Z0 wp o M2 G2 ∧ Hid (M2 = M ++ orG row y ∧ M2.length ≤ 3 * j + y) ∧ Hid (RII (fun q => Z0 ≤ q) wp (.slice (some ⟨rb, ro, none⟩) L.length lc) L) ∧ RI (fun q => Z0 ≤ q) wp (.slice xa row.length xc) row ∧ Hid (Z0 ≤ wp.heap.size) ∧ Chg No w wp) (fun _ z _ => k - (intOf z).toNat)
          case atStart => exact ⟨0, M, G, Nat.zero_le _, rfl, hO, Lib.hid ⟨by rw [orG_zero, List.append_nil], HM.out.2⟩, HR, hrow0, HW, kq⟩
          case round =>
            clear hO HR hrow hrow0 HW kq
            obtain ⟨y, M2, G2, hy, rfl, hO, HM2, HR, hrow, HW, kq⟩ := hrel
            have hy0 : (0 : Int) ≤ (y : Int) := Int.natCast_nonneg _
            obtain ⟨oa, oc, rfl⟩ := hO.readNo.shape
            by_cases hlty : y < k
            · have hy1 : (y : Int) < (k : Int) := by omega
              have hwy : IntKind.i64.wrap ((y : Int) + 1) = (y : Int) + 1 := IntWalk.i64_in _ (by omega)
              go_wp2_with fail
              refine (Contains_any _ _ row (y : Int) wr hrow).mono ?_
              rintro e w1 ⟨rfl, rfl⟩
              cases hh : hasB row (y : Int)
              · have HS := Lib.hid (orG_no hh)
                clear hh
                go_wp2_with fail
                refine (Clone_any _ _ row wr hrow).mono ?_
                rintro e w1 ⟨cv, rfl, hc, kc⟩
                obtain ⟨ca, cc, rfl, _⟩ := hc.view
                have hO1 := hO.keep kc
                have kq1 := kq.keep kc
                have HR1 := Lib.hid (HR.out.keep kc)
                have hrow1 := hrow.keep kc
                have hz1 := kc.size
                have hl9 : row.length < 17592186044416 := by omega
                have hZw : Hid (Z0 ≤ wr.heap.size) := HW
                clear HR hrow kq
                go_wp2_with (at_builtin; refine wapp1 rfl (.tmp 30) (.tmp 32) rfl hc rfl rfl hl9 hz1 ?_)
                intro v2 w2 h2 k2 f2
                obtain ⟨nr, hnr⟩ : ∃ nr, row ++ [(y : Int)] = nr := ⟨_, rfl⟩
                rw [hnr] at h2
                have HNR := Lib.hid hnr
                clear hnr
                obtain ⟨a2, c2, rfl, _⟩ := h2.view
                have hzz := hZw.out
                have hO2 := hO1.step k2 (fun q hq e => by have := (hc.lt q e).1; have := (hO.lt q hq).2; omega)
                have kq2 := kq1.step k2 (fun q e hlt => by have := (hc.lt q e).1; have := HZ.out; omega)
                have HR2 := Lib.hid (HR1.out.step k2 (fun q e => by show Z0 ≤ q; have := (hc.lt q e).1; omega))
                have hrow2 := hrow1.step k2 (fun q e => by show Z0 ≤ q; have := (hc.lt q e).1; omega)
                have hz2 := k2.size
                have hd : ∀ q, own (.slice a2 nr.length c2) q → ¬ G2 q := fun q hq hF => by
                  have h8 := (hO.lt q hF).2
                  have := (h2.lt q hq).1
                  omega
                have hlen : M2.length < 1099511627776 := by have := HM2.out.2; omega
                have hbase : Z0 ≤ w2.heap.size := by omega
                have h2w := h2.weak hzz
                clear HR1 hrow1 kq1 hO1 hzz
                go_wp2_with (at_builtin; refine wappR rfl (.tmp 28) (.tmp 34) rfl hO2 h2w hd rfl rfl hlen hbase ?_)
                intro v3 w3 G3 h3 k3 hG3 hGo
                obtain ⟨v3a, v3c, rfl⟩ := h3.readNo.shape
                have kq3 := kq2.step k3 (fun q e hlt => by have := (hO2.lt q (hGo q e)).1; have := HZ.out; omega)
                have HR3 := Lib.hid (HR2.out.step k3 (fun q e => (hO2.lt q (hGo q e)).1))
                have hrow3 := hrow2.step k3 (fun q e => (hO2.lt q (hGo q e)).1)
                have hz3 := k3.size
                clear hd hrow2 HR2
                go_wp2_with fail
                go_round
                case rel =>
                  refine ⟨y + 1, M2 ++ [nr], G3, hlty, by go_num, h3, Lib.hid ⟨?_, ?_⟩, HR3, hrow3, Lib.hid (by omega), kq3⟩
                  · rw [HM2.out.1, HS.out, List.append_assoc, ← HNR.out]
                  · have := HM2.out.2
                    rw [List.length_append]; simp; omega
                case measure => simp [intOf]; omega
              · have HS := Lib.hid (orG_yes hh)
                clear hh
                go_wp2_with fail
                go_round
                case rel => exact ⟨y + 1, M2, G2, hlty, by go_num, hO, Lib.hid ⟨by rw [HM2.out.1, HS.out], by have := HM2.out.2; omega⟩, HR, hrow, HW, kq⟩
                case measure => simp [intOf]; omega
            · have hye : y = k := by omega
              have hy1 : ¬ (y : Int) < (k : Int) := by omega
              go_wp2_with fail
              go_round
              case rel =>
                refine ⟨j + 1, M2, G2, hltj, by go_num, hO, Lib.hid ⟨?_, by have := HM2.out.2; omega⟩, HR, HW, kq⟩
                rw [HM2.out.1, HM.out.1, orP_succ k L hltj, HRW.out, hye]
              case measure => simp [intOf]; omega
        · have hje : j = L.length := by omega
          have hj1 : ¬ (j : Int) < (L.length : Int) := by omega
          have hO' := hO.weak HZ.out
          clear hO
          go_wp2_with fail
          go_round
          case rel =>
            refine ⟨i + 1, M, G, hlt, by go_num, hO', Lib.hid ?_, kq⟩
            rw [HM.out.1, hje, orP_full, HL.out]; rfl
          case measure => simp [intOf]; omega
    · have hie : i = k := by omega
      have hi1 : ¬ (i : Int) < (k : Int) := by omega
      have HFN := Lib.hid (And.intro hO kr)
      have HE : Hid (L = ors k) := Lib.hid (by rw [HL.out, hie]; rfl)
      clear hO kr
      go_wp2_with fail
      go_ret
      exact ⟨_, rfl, ⟨F, by have := HFN.out.1; rw [← HE.out]; exact this⟩, HFN.out.2⟩
end Go.Proofs.YtdgcohoneijleaaGreat
