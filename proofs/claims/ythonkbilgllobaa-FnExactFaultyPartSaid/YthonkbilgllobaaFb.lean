import Derived.Test.YthonkbilgllobaaFa
import Derived.Test.YthonkbilgllobaaS
/- FaultyPart: the program's side -/
namespace Go.Proofs.Ythonkbilgllobaa
open Go.RowKit

set_option maxRecDepth 100000 in
set_option maxHeartbeats 2000000 in
theorem implFaultyPart_any (n p k : Int) (v : Value) (l : List Int) (w : World) (hv : RI No w v l) :
    Calls Try.prog 31 #[.int .i64 n, .int .i64 p, .int .i64 k, v] w (Ret2 fun v0 v1 w' => v0 = .agg #[.int .i64 (prA (faultyV n p k l)), .int .i64 (prB (faultyV n p k l))] ∧ v1 = .bool (faultyV n p k l).isSome ∧ Chg No w w') := by
  have b0 := BoxN.new w #[.int .i64 0, .int .i64 0] 44
  have kk := (Chg.refl No w).alloc (.cells #[.int .i64 0, .int .i64 0] 44)
  have hv1 := hv.keep kk
  cases hh : askedB n p k l
  · have HA : Hid (faultyV n p k l = none) := Lib.hid (by unfold faultyV; rw [hh]; rfl)
    have HH := Lib.hid hh
    clear hh
    go_enter Try.func31, Try.ntmps31
    go_wp2_with fail
    refine (isRun_any No _ l n p k _ hv1).mono ?_
    rintro e w1 ⟨vv, rfl, rfl, k1⟩
    have kk := kk.keep k1
    have b0 := b0.keep k1
    rw [show (inB p 1 7 && inB k 1 6 && (inB n 1 8 && decide (l.length ≤ 60) && belowB n l)) = false from HH.out]
    have c00 := b0.c 0 _ rfl
    have c01 := b0.c 1 _ rfl
    have f0 := b0.fr 0
    have f1 := b0.fr 1
    go_wp2_with fail
    exact bodyPost_ret (v := .tuple #[.agg #[.int .i64 0, .int .i64 0], .bool false]) (by simp [results, Try.results31, go_sem, *]) rfl ⟨_, _, rfl, by rw [HA.out]; rfl, by rw [HA.out]; rfl, by first | exact kk | exact (kk.setCell (fun h => absurd h (Nat.lt_irrefl _)) _).setCell (fun h => absurd h (Nat.lt_irrefl _)) _⟩
  · obtain ⟨pl, hpl⟩ : ∃ pl, places (newC p k) l = pl := ⟨_, rfl⟩
    have hpll : pl.length ≤ l.length := by rw [← hpl]; exact placesTo_le _ _ _
    have HA : Hid (faultyV n p k l = firstS (fun j => scanF k l pl j (j + 1)) l.length) := Lib.hid (by unfold faultyV; rw [hh, ← hpl]; rfl)
    have hok := askedB_ok hh
    have hkb : (1 ≤ k ∧ k ≤ 6) ∧ l.length ≤ 60 := by
      simp only [askedB, Bool.and_eq_true, inB_iff, decide_eq_true_eq] at hh
      exact ⟨hh.1.2, hh.2.1.2⟩
    obtain ⟨⟨hk1, hk6⟩, hl60⟩ := hkb
    have HH := Lib.hid hh
    have HPL := Lib.hid hpl
    clear hh hpl
    obtain ⟨la, lc, rfl, hlc1, hlc2, hl44, hla0, hcv⟩ := id hv
    clear hcv hla0
    go_enter Try.func31, Try.ntmps31
    go_wp2_with fail
    refine (isRun_any No _ l n p k _ hv1).mono ?_
    rintro e w1 ⟨vv, rfl, rfl, k1⟩
    have kk := kk.keep k1
    have b0 := b0.keep k1
    rw [show (inB p 1 7 && inB k 1 6 && (inB n 1 8 && decide (l.length ≤ 60) && belowB n l)) = true from HH.out]
    go_wp2_with fail
    refine (faultPlaces_any No p k _ l w1 (hv.keep kk) hok).mono ?_
    rintro e w2 ⟨v2, rfl, o2, k2⟩
    rw [HPL.out] at o2
    have kk := kk.keep k2
    have b0 := b0.keep k2
    have hp2 := o2.readNo
    have hpL := hp2.len
    have hl0 : (0 : Int) ≤ (l.length : Int) := Int.natCast_nonneg _
    have hpl0 : (0 : Int) ≤ (pl.length : Int) := Int.natCast_nonneg _
    obtain ⟨pa, pc, rfl, _⟩ := id hp2
    go_wp2_with fail
    go_loopw [29] (fun i wr => ∃ j : Nat, j ≤ l.length ∧ i = .int .i64 j ∧ NoS (fun j => scanF k l pl j (j + 1)) j ∧ Chg No w2 wr) (fun i _ => l.length - (intOf i).toNat)
    case atStart => exact ⟨0, Nat.zero_le _, rfl, NoS.zero _, Chg.refl _ _⟩
    case round =>
      obtain ⟨j, hj, rfl, hno, hch⟩ := hrel
      have hj0 : (0 : Int) ≤ (j : Int) := Int.natCast_nonneg _
      by_cases hlt : j < l.length
      · have hj1 : (j : Int) < (l.length : Int) := by omega
        have hw1 : IntKind.i64.wrap ((j : Int) + 1) = (j : Int) + 1 := IntWalk.i64_in _ (by omega)
        go_wp2_with fail
        go_loopw [12] (fun i wr => ∃ (m : Nat) (fi : Int), m ≤ j + 1 ∧ i = .int .i64 fi ∧ Hid (fi = (m : Int) - 1) ∧ Hid (scanF k l pl j (j + 1) = scanF k l pl j m) ∧ Chg No w2 wr) (fun i _ => (intOf i + 1).toNat)
        case atStart => exact ⟨j + 1, (j : Int), Nat.le_refl _, rfl, Lib.hid (by omega), Lib.hid rfl, hch⟩
        case round =>
          obtain ⟨m, fi, hm, rfl, HFI, HSC, hch⟩ := hrel
          cases m with
          | zero =>
            have e := HFI.out
            obtain rfl : fi = -1 := by omega
            clear e
            have HN : Hid (scanF k l pl j (j + 1) = none) := Lib.hid (by rw [HSC.out]; rfl)
            go_wp2_with fail
            go_round
            case rel => exact ⟨j + 1, hlt, by go_num, hno.succ HN.out, hch⟩
            case measure => simp [intOf]; omega
          | succ m =>
            have e := HFI.out
            obtain rfl : fi = (m : Int) := by omega
            clear e
            have hm0 : (0 : Int) ≤ (m : Int) := Int.natCast_nonneg _
            have hm1 : (m : Int) ≤ (j : Int) := by omega
            have hwm : IntKind.i64.wrap ((m : Int) - 1) = (m : Int) - 1 := IntWalk.i64_in _ (by omega)
            obtain ⟨x, hx, hRx⟩ := ((hv.keep kk).keep hch).mid m (j + 1) (m : Int) ((j : Int) + 1) rfl (by omega) (by omega) (by omega)
            obtain ⟨d, hd⟩ : ∃ d, diffL ((l.take (j + 1)).drop m) = d := ⟨_, rfl⟩
            have hsc := HSC.out
            simp only [scanF] at hsc
            have hsc0 : scanF k l pl j (m + 1) = if (d.length : Int) ≤ k then (if k < (betw pl m j : Int) then some m else scanF k l pl j m) else none := by rw [← hd]; rfl
            rw [HSC.out.symm] at hsc0
            have HS0 := Lib.hid hsc0
            have HD := Lib.hid hd
            clear hsc hsc0 hd
            go_wp2_with fail
            refine (rising_any No x _ _ hRx).mono ?_
            rintro e w4 ⟨v4, rfl, o4, k4⟩
            rw [HD.out] at o4
            obtain ⟨a4, c4, rfl, _⟩ := o4.view
            have hch4 := hch.keep k4
            by_cases hle : (d.length : Int) ≤ k
            · have hpz := hp2.keep hch4
              go_wp2_with fail
              go_loop [13, 50] (fun s i => ∃ q : Nat, q ≤ pl.length ∧ i = .int .i64 q ∧ s = .int .i64 (betw (pl.take q) m j : Int)) (fun _ i => pl.length - (intOf i).toNat)
              case atStart => exact ⟨0, Nat.zero_le _, rfl, rfl⟩
              case round =>
                obtain ⟨q, hq, rfl, rfl⟩ := hrel
                have hq0 : (0 : Int) ≤ (q : Int) := Int.natCast_nonneg _
                by_cases hqt : q < pl.length
                · have hq1 : (q : Int) < (pl.length : Int) := by omega
                  obtain ⟨b, off, rfl, _, _, hcell⟩ := hpz.cellAt (by intro e; simp [e] at hqt)
                  have hck := hcell q hqt
                  have hsn := betw_snoc pl m j q hqt
                  have hgy : pl.getD q 0 = pl[q] := by rw [List.getD_eq_getElem?_getD, List.getElem?_eq_getElem hqt]; rfl
                  obtain ⟨z, hz⟩ : ∃ z, pl[q] = z := ⟨_, rfl⟩
                  rw [hgy, hz] at hck
                  rw [hz] at hsn
                  obtain ⟨c, hc⟩ : ∃ c, betw (pl.take q) m j = c := ⟨_, rfl⟩
                  have hcl : c ≤ q := by rw [← hc]; have := betw_le (pl.take q) m j; rw [List.length_take] at this; omega
                  rw [hc] at hsn ⊢
                  have HS := Lib.hid hsn
                  have hc0 : (0 : Int) ≤ (c : Int) := Int.natCast_nonneg _
                  have hw2 : IntKind.i64.wrap ((c : Int) + 1) = (c : Int) + 1 := IntWalk.i64_in _ (by omega)
                  have hw3 : IntKind.i64.wrap ((q : Int) + 1) = (q : Int) + 1 := IntWalk.i64_in _ (by omega)
                  clear hcell hsn hgy hz hc
                  cases hin : inB z m j
                  · have HSS : Hid (betw (pl.take (q + 1)) m j = c) := Lib.hid (by rw [HS.out, hin]; rfl)
                    go_wp2_with (go_at_call 68; refine (within_any _ _ _ _).mono ?_; rintro e w' ⟨rfl, rfl⟩)
                    go_round
                    case rel => exact ⟨q + 1, by omega, by go_num, by rw [HSS.out]⟩
                    case measure => simp [intOf]; omega
                  · have HSS : Hid (betw (pl.take (q + 1)) m j = c + 1) := Lib.hid (by rw [HS.out, hin]; rfl)
                    go_wp2_with (go_at_call 68; refine (within_any _ _ _ _).mono ?_; rintro e w' ⟨rfl, rfl⟩)
                    go_round
                    case rel => exact ⟨q + 1, by omega, by go_num, by rw [HSS.out]; go_num⟩
                    case measure => simp [intOf]; omega
                · have hqe : q = pl.length := by omega
                  subst hqe
                  rw [List.take_length]
                  obtain ⟨bt, hbt⟩ : ∃ bt, betw pl (m : Int) (j : Int) = bt := ⟨_, rfl⟩
                  have hbl : bt ≤ pl.length := by rw [← hbt]; exact betw_le _ _ _
                  have hs := HS0.out
                  rw [if_pos hle, hbt] at hs
                  rw [hbt]
                  by_cases hgt : k < (bt : Int)
                  · rw [if_pos hgt] at hs
                    have HS := Lib.hid hs
                    have b5 := b0.keep hch4
                    have kk5 := kk.keep hch4
                    have c00 := b5.c 0 _ rfl
                    have c01 := b5.c 1 _ rfl
                    have f0 := b5.fr 0
                    have f1 := b5.fr 1
                    clear hs hbt
                    go_wp2_with fail
                    have e := firstS_hit (n := l.length) hno hlt HS.out
                    exact bodyPost_ret (v := .tuple #[.agg #[.int .i64 (m : Int), .int .i64 (j : Int)], .bool true]) (by simp [results, Try.results31, go_sem, *]) rfl ⟨_, _, rfl, by rw [HA.out, e]; rfl, by rw [HA.out, e]; rfl, (kk5.setCell (fun h => absurd h (Nat.lt_irrefl _)) _).setCell (fun h => absurd h (Nat.lt_irrefl _)) _⟩
                  · rw [if_neg hgt] at hs
                    have HS := Lib.hid hs
                    clear hs hbt
                    go_wp2_with fail
                    go_round
                    case rel => exact ⟨m, (m : Int) - 1, by omega, rfl, Lib.hid rfl, Lib.hid HS.out, hch4⟩
                    case measure => simp [intOf]
            · have HN : Hid (scanF k l pl j (j + 1) = none) := Lib.hid (by rw [HS0.out, if_neg hle])
              go_wp2_with fail
              go_round
              case rel => exact ⟨j + 1, hlt, by go_num, hno.succ HN.out, hch4⟩
              case measure => simp [intOf]; omega
      · have hj' : j = l.length := by omega
        subst hj'
        have e := firstS_none (n := l.length) hno
        have HA : Hid (faultyV n p k l = none) := Lib.hid (by rw [HA.out, e])
        have kk := kk.keep hch
        have b0 := b0.keep hch
        clear e
        have c00 := b0.c 0 _ rfl
        have c01 := b0.c 1 _ rfl
        have f0 := b0.fr 0
        have f1 := b0.fr 1
        go_wp2_with fail
        exact bodyPost_ret (v := .tuple #[.agg #[.int .i64 0, .int .i64 0], .bool false]) (by simp [results, Try.results31, go_sem, *]) rfl ⟨_, _, rfl, by rw [HA.out]; rfl, by rw [HA.out]; rfl, by first | exact kk | exact (kk.setCell (fun h => absurd h (Nat.lt_irrefl _)) _).setCell (fun h => absurd h (Nat.lt_irrefl _)) _⟩
end Go.Proofs.Ythonkbilgllobaa
