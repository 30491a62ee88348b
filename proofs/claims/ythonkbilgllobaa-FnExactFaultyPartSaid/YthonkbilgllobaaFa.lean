import Derived.Test.YthonkbilgllobaaSo
import Derived.Test.YthonkbilgllobaaR
import Derived.Test.YthonkbilgllobaaH
import Derived.Test.YthonkbilgllobaaFi
import Derived.Test.YthonkbilgllobaaFr
/- FaultyPart, both sides, and its law -/
namespace Go.Proofs.Ythonkbilgllobaa
open Go.RowKit

/-- how many numbers lie between two -/
def betw (pl : List Int) (a b : Int) : Nat := (pl.filter fun x => inB x a b).length
theorem betw_snoc (pl : List Int) (a b : Int) (k : Nat) (h : k < pl.length) : betw (pl.take (k + 1)) a b = if inB pl[k] a b then betw (pl.take k) a b + 1 else betw (pl.take k) a b := by
  rw [List.take_succ_eq_append_getElem h, betw, List.filter_append]
  cases hb : inB pl[k] a b <;> simp [betw, hb]
theorem betw_le (pl : List Int) (a b : Int) : betw pl a b ≤ pl.length := List.length_filter_le _ _
/-- from a last place back: the first beginning with too many faults -/
def scanF (k : Int) (l pl : List Int) (j : Nat) : Nat → Option Nat
  | 0 => none
  | m + 1 => if ((diffL ((l.take (j + 1)).drop m)).length : Int) ≤ k then (if k < (betw pl m j : Int) then some m else scanF k l pl j m) else none
/-- the first place at which there is one -/
def firstS (f : Nat → Option Nat) : Nat → Option (Nat × Nat)
  | 0 => none
  | n + 1 => match firstS f n with
    | some x => some x
    | none => match f n with
      | some m => some (m, n)
      | none => none
def NoS (f : Nat → Option Nat) (j : Nat) : Prop := ∀ i, i < j → f i = none
theorem NoS.zero (f : Nat → Option Nat) : NoS f 0 := fun i h => absurd h (Nat.not_lt_zero i)
theorem NoS.succ {f : Nat → Option Nat} {j : Nat} (h : NoS f j) (hj : f j = none) : NoS f (j + 1) := fun i hi => by
  by_cases e : i = j
  · rw [e]; exact hj
  · exact h i (by omega)
theorem firstS_none {f : Nat → Option Nat} {n : Nat} (h : NoS f n) : firstS f n = none := by
  induction n with
  | zero => rfl
  | succ n ih => simp [firstS, ih (fun i hi => h i (by omega)), h n (by omega)]
theorem firstS_hit {f : Nat → Option Nat} {n j m : Nat} (h : NoS f j) (hj : j < n) (hf : f j = some m) : firstS f n = some (m, j) := by
  induction n with
  | zero => omega
  | succ n ih =>
    by_cases e : j = n
    · subst e; simp [firstS, firstS_none h, hf]
    · simp [firstS, ih (by omega)]
def faultyF (p k : Int) (l : List Int) (j : Nat) : Option Nat := scanF k l (places (newC p k) l) j (j + 1)
def faultyV (n p k : Int) (l : List Int) : Option (Nat × Nat) := if askedB n p k l then firstS (faultyF p k l) l.length else none
def prA : Option (Nat × Nat) → Int
  | some x => (x.1 : Int)
  | none => 0
def prB : Option (Nat × Nat) → Int
  | some x => (x.2 : Int)
  | none => 0

set_option maxHeartbeats 400000 in
theorem l4Between_any (A : Nat → Prop) (v : Value) (l : List Int) (x y : Int) (w : World) (h : RI A w v l) :
    Calls Try.prog 65 #[v, .int .i64 x, .int .i64 y] w fun e w' => e = .returned (.int .i64 (betw l x y : Int)) ∧ w = w' := by
  have hL := h.len
  obtain ⟨a, cap, rfl, hcap, hmax, hlen, _, hc⟩ := h
  go_enter Try.func65, Try.ntmps65
  go_wp2
  go_loop [7, 8] (fun s i => ∃ k : Nat, k ≤ l.length ∧ i = .int .i64 k ∧ s = .int .i64 (betw (l.take k) x y : Int)) (fun _ i => l.length - (intOf i).toNat)
  case atStart => exact ⟨0, Nat.zero_le _, rfl, rfl⟩
  case round =>
    obtain ⟨k, hk, rfl, rfl⟩ := hrel
    by_cases hlt : k < l.length
    · obtain ⟨b, off, rfl, _, _, hcell⟩ := hc (by intro e; simp [e] at hlt)
      have hck := hcell k hlt
      have hsn := betw_snoc l x y k hlt
      have hgy : l.getD k 0 = l[k] := by rw [List.getD_eq_getElem?_getD, List.getElem?_eq_getElem hlt]; rfl
      obtain ⟨z, hz⟩ : ∃ z, l[k] = z := ⟨_, rfl⟩
      rw [hgy, hz] at hck
      rw [hz] at hsn
      obtain ⟨m, hm⟩ : ∃ m, betw (l.take k) x y = m := ⟨_, rfl⟩
      have hml : m ≤ k := by rw [← hm]; have := betw_le (l.take k) x y; rw [List.length_take] at this; omega
      rw [hm] at hsn ⊢
      have HS := Lib.hid hsn
      have hk0 : (0 : Int) ≤ (k : Int) := Int.natCast_nonneg _
      have hm0 : (0 : Int) ≤ (m : Int) := Int.natCast_nonneg _
      have hw2 : IntKind.i64.wrap ((m : Int) + 1) = (m : Int) + 1 := IntWalk.i64_in _ (by omega)
      clear hcell hc hsn hgy hz hm
      cases hin : inB z x y
      · have HSS : Hid (betw (l.take (k + 1)) x y = m) := Lib.hid (by rw [HS.out, hin]; rfl)
        go_wp2_with (go_at_call 55; refine (l1In_any _ _ _ _).mono ?_; rintro e w' ⟨rfl, rfl⟩)
        go_round
        case rel => exact ⟨k + 1, by omega, by go_num, by rw [HSS.out]⟩
        case measure => simp [intOf]; omega
      · have HSS : Hid (betw (l.take (k + 1)) x y = m + 1) := Lib.hid (by rw [HS.out, hin]; rfl)
        go_wp2_with (go_at_call 55; refine (l1In_any _ _ _ _).mono ?_; rintro e w' ⟨rfl, rfl⟩)
        go_round
        case rel => exact ⟨k + 1, by omega, by go_num, by rw [HSS.out]; go_num⟩
        case measure => simp [intOf]; omega
    · have hkl : k = l.length := by omega
      subst hkl
      rw [List.take_length]
      go_wp2
      go_ret
      exact ⟨rfl, rfl⟩

set_option maxRecDepth 100000 in
set_option maxHeartbeats 2000000 in
theorem specFaultyPart_any (n p k : Int) (v : Value) (l : List Int) (w : World) (hv : RI No w v l) :
    Calls Try.prog 30 #[.int .i64 n, .int .i64 p, .int .i64 k, v] w (Ret2 fun v0 v1 w' => v0 = .agg #[.int .i64 (prA (faultyV n p k l)), .int .i64 (prB (faultyV n p k l))] ∧ v1 = .bool (faultyV n p k l).isSome ∧ Chg No w w') := by
  have b0 := BoxN.new w #[.int .i64 0, .int .i64 0] 44
  have kk := (Chg.refl No w).alloc (.cells #[.int .i64 0, .int .i64 0] 44)
  have hv1 := hv.keep kk
  cases hh : askedB n p k l
  · have HA : Hid (faultyV n p k l = none) := Lib.hid (by unfold faultyV; rw [hh]; rfl)
    have HH := Lib.hid hh
    clear hh
    go_enter Try.func30, Try.ntmps30
    go_wp2_with fail
    refine (l4Asked_any No _ l n p k _ hv1).mono ?_
    rintro e w1 ⟨rfl, rfl⟩
    rw [show (inB p 1 7 && inB k 1 6 && (inB n 1 8 && decide (l.length ≤ 60) && belowB n l)) = false from HH.out]
    have c00 := b0.c 0 _ rfl
    have c01 := b0.c 1 _ rfl
    have f0 := b0.fr 0
    have f1 := b0.fr 1
    go_wp2_with fail
    exact bodyPost_ret (v := .tuple #[.agg #[.int .i64 0, .int .i64 0], .bool false]) (by simp [results, Try.results30, go_sem, *]) rfl ⟨_, _, rfl, by rw [HA.out]; rfl, by rw [HA.out]; rfl, by first | exact kk | exact (kk.setCell (fun h => absurd h (Nat.lt_irrefl _)) _).setCell (fun h => absurd h (Nat.lt_irrefl _)) _⟩
  · obtain ⟨pl, hpl⟩ : ∃ pl, places (newC p k) l = pl := ⟨_, rfl⟩
    have hpll : pl.length ≤ l.length := by rw [← hpl]; exact placesTo_le _ _ _
    have HA : Hid (faultyV n p k l = firstS (fun j => scanF k l pl j (j + 1)) l.length) := Lib.hid (by unfold faultyV; rw [hh, ← hpl]; rfl)
    have hok := askedB_ok hh
    have hkb : (1 ≤ k ∧ k ≤ 6) ∧ l.length ≤ 60 := by
      simp only [askedB, Bool.and_eq_true, inB_iff, decide_eq_true_eq] at hh
      exact ⟨hh.1.2, hh.2.1.2⟩
    obtain ⟨⟨hk1, hk6⟩, hl60⟩ := hkb
    have HH := Lib.hid hh
    have HPL := Lib.hid hpl
    clear hh hpl
    obtain ⟨la, lc, rfl, hlc1, hlc2, hl44, hla0, hcv⟩ := id hv
    clear hcv hla0
    go_enter Try.func30, Try.ntmps30
    go_wp2_with fail
    refine (l4Asked_any No _ l n p k _ hv1).mono ?_
    rintro e w1 ⟨rfl, rfl⟩
    rw [show (inB p 1 7 && inB k 1 6 && (inB n 1 8 && decide (l.length ≤ 60) && belowB n l)) = true from HH.out]
    go_wp2_with fail
    refine (l4New_any p k _).mono ?_
    rintro e w3 ⟨v1, rfl, hrc, k1⟩
    have hrcA := hrc No (Bd.no _)
    have kk := kk.keep k1
    have b0 := b0.keep k1
    have hv3 := hv.keep kk
    go_wp2_with fail
    refine (l4Places_any No v1 _ (newC p k) l w3 hrcA hv3 (Bd.no _) hok).mono ?_
    rintro e w2 ⟨v2, rfl, o2, k2⟩
    rw [HPL.out] at o2
    have kk := kk.keep k2
    have b0 := b0.keep k2
    have hp2 := o2.readNo
    obtain ⟨pa, pc, rfl, _⟩ := o2.view
    have hl0 : (0 : Int) ≤ (l.length : Int) := Int.natCast_nonneg _
    clear hrc hrcA
    go_wp2_with fail
    go_loopw [11] (fun i wr => ∃ j : Nat, j ≤ l.length ∧ i = .int .i64 j ∧ NoS (fun j => scanF k l pl j (j + 1)) j ∧ Chg No w2 wr) (fun i _ => l.length - (intOf i).toNat)
    case atStart => exact ⟨0, Nat.zero_le _, rfl, NoS.zero _, Chg.refl _ _⟩
    case round =>
      obtain ⟨j, hj, rfl, hno, hch⟩ := hrel
      have hj0 : (0 : Int) ≤ (j : Int) := Int.natCast_nonneg _
      by_cases hlt : j < l.length
      · have hj1 : (j : Int) < (l.length : Int) := by omega
        have hw1 : IntKind.i64.wrap ((j : Int) + 1) = (j : Int) + 1 := IntWalk.i64_in _ (by omega)
        obtain ⟨wo, hwo⟩ : ∃ wo : World, wr = wo := ⟨_, rfl⟩
        subst hwo
        go_wp2_with fail
        go_loopw [12] (fun i wr => ∃ (m : Nat) (fi : Int), m ≤ j + 1 ∧ i = .int .i64 fi ∧ Hid (fi = (m : Int) - 1) ∧ Hid (scanF k l pl j (j + 1) = scanF k l pl j m) ∧ Chg No w2 wr) (fun i _ => (intOf i + 1).toNat)
        case atStart => exact ⟨j + 1, (j : Int), Nat.le_refl _, rfl, Lib.hid (by omega), Lib.hid rfl, hch⟩
        case round =>
          obtain ⟨m, fi, hm, rfl, HFI, HSC, hch⟩ := hrel
          cases m with
          | zero =>
            have e := HFI.out
            obtain rfl : fi = -1 := by omega
            clear e
            have HN : Hid (scanF k l pl j (j + 1) = none) := Lib.hid (by rw [HSC.out]; rfl)
            go_wp2_with fail
            go_round
            case rel => exact ⟨j + 1, hlt, by go_num, hno.succ HN.out, hch⟩
            case measure => simp [intOf]; omega
          | succ m =>
            have e := HFI.out
            obtain rfl : fi = (m : Int) := by omega
            clear e
            have hm0 : (0 : Int) ≤ (m : Int) := Int.natCast_nonneg _
            have hm1 : (m : Int) ≤ (j : Int) := by omega
            have hwm : IntKind.i64.wrap ((m : Int) - 1) = (m : Int) - 1 := IntWalk.i64_in _ (by omega)
            obtain ⟨x, hx, hRx⟩ := ((hv.keep kk).keep hch).mid m (j + 1) (m : Int) ((j : Int) + 1) rfl (by omega) (by omega) (by omega)
            obtain ⟨d, hd⟩ : ∃ d, diffL ((l.take (j + 1)).drop m) = d := ⟨_, rfl⟩
            have hsc := HSC.out
            simp only [scanF] at hsc
            have hsc0 : scanF k l pl j (m + 1) = if (d.length : Int) ≤ k then (if k < (betw pl m j : Int) then some m else scanF k l pl j m) else none := by rw [← hd]; rfl
            rw [HSC.out.symm] at hsc0
            have HS0 := Lib.hid hsc0
            have HD := Lib.hid hd
            clear hsc hsc0 hd
            go_wp2_with fail
            refine (l3Different_any No x _ _ hRx).mono ?_
            rintro e w4 ⟨v4, rfl, o4, k4⟩
            rw [HD.out] at o4
            obtain ⟨a4, c4, rfl, _⟩ := o4.view
            have hch4 := hch.keep k4
            by_cases hle : (d.length : Int) ≤ k
            · go_wp2_with fail
              refine (l4Between_any No _ pl (m : Int) (j : Int) w4 (hp2.keep hch4)).mono ?_
              rintro e w5 ⟨rfl, rfl⟩
              obtain ⟨bt, hbt⟩ : ∃ bt, betw pl (m : Int) (j : Int) = bt := ⟨_, rfl⟩
              have hbl : bt ≤ pl.length := by rw [← hbt]; exact betw_le _ _ _
              have hs := HS0.out
              rw [if_pos hle, hbt] at hs
              rw [hbt]
              by_cases hgt : k < (bt : Int)
              · rw [if_pos hgt] at hs
                have HS := Lib.hid hs
                have b5 := b0.keep hch4
                have kk5 := kk.keep hch4
                have c00 := b5.c 0 _ rfl
                have c01 := b5.c 1 _ rfl
                have f0 := b5.fr 0
                have f1 := b5.fr 1
                clear hs hbt
                go_wp2_with fail
                have e := firstS_hit (n := l.length) hno hlt HS.out
                exact bodyPost_ret (v := .tuple #[.agg #[.int .i64 (m : Int), .int .i64 (j : Int)], .bool true]) (by simp [results, Try.results30, go_sem, *]) rfl ⟨_, _, rfl, by rw [HA.out, e]; rfl, by rw [HA.out, e]; rfl, (kk5.setCell (fun h => absurd h (Nat.lt_irrefl _)) _).setCell (fun h => absurd h (Nat.lt_irrefl _)) _⟩
              · rw [if_neg hgt] at hs
                have HS := Lib.hid hs
                clear hs hbt
                go_wp2_with fail
                go_round
                case rel => exact ⟨m, (m : Int) - 1, by omega, rfl, Lib.hid rfl, Lib.hid HS.out, hch4⟩
                case measure => simp [intOf]
            · have HN : Hid (scanF k l pl j (j + 1) = none) := Lib.hid (by rw [HS0.out, if_neg hle])
              go_wp2_with fail
              go_round
              case rel => exact ⟨j + 1, hlt, by go_num, hno.succ HN.out, hch4⟩
              case measure => simp [intOf]; omega
      · have hj' : j = l.length := by omega
        subst hj'
        have e := firstS_none (n := l.length) hno
        have HA : Hid (faultyV n p k l = none) := Lib.hid (by rw [HA.out, e])
        have kk := kk.keep hch
        have b0 := b0.keep hch
        clear e
        have c00 := b0.c 0 _ rfl
        have c01 := b0.c 1 _ rfl
        have f0 := b0.fr 0
        have f1 := b0.fr 1
        go_wp2_with fail
        exact bodyPost_ret (v := .tuple #[.agg #[.int .i64 0, .int .i64 0], .bool false]) (by simp [results, Try.results30, go_sem, *]) rfl ⟨_, _, rfl, by rw [HA.out]; rfl, by rw [HA.out]; rfl, by first | exact kk | exact (kk.setCell (fun h => absurd h (Nat.lt_irrefl _)) _).setCell (fun h => absurd h (Nat.lt_irrefl _)) _⟩
end Go.Proofs.Ythonkbilgllobaa
