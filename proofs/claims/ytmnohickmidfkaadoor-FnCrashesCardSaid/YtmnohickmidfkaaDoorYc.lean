import Derived.Test.YtmnohickmidfkaaDoorYb
import Derived.Test.YtmnohickmidfkaaDoorQv
import Derived.Test.YtmnohickmidfkaaDoorShelf
import Derived.Lib.AppendIntMem
/- numerals and sealed texts -/
namespace Go.Proofs.YtmnohickmidfkaaDoor
open Go.RowKit

theorem digit_at (n : Nat) (h : n < 10) : (⟨#[48, 49, 50, 51, 52, 53, 54, 55, 56, 57]⟩ : ByteArray).extract n (n + 1) = ⟨[UInt8.ofNat (48 + n)].toArray⟩ := by
  have : n = 0 ∨ n = 1 ∨ n = 2 ∨ n = 3 ∨ n = 4 ∨ n = 5 ∨ n = 6 ∨ n = 7 ∨ n = 8 ∨ n = 9 := by omega
  rcases this with rfl | rfl | rfl | rfl | rfl | rfl | rfl | rfl | rfl | rfl <;> rfl
theorem cat_run {P : Program} (x y : List UInt8) (h : x.length + y.length ≤ 9223372036854775807) (w : World) : (Op.stringOp .add ⟨x.toArray⟩ ⟨y.toArray⟩).run P w = .ok (.string ⟨(x ++ y).toArray⟩) w := by
  rw [run_string_add_sum w _ _ (by simpa [ByteArray.size] using h), ByteArray.mk_append_mk]
theorem vstr_eq {a b : ByteArray} (h : a = b) : Value.string a = Value.string b := by rw [h]
theorem ret_str {a b : ByteArray} (h : a = b) : Ending.returned (.string a) = .returned (.string b) := by rw [h]
set_option maxRecDepth 100000 in
set_option maxHeartbeats 1000000 in
theorem l1Num_any : ∀ (n : Nat) (w : World), n ≤ 9223372036854775807 → Calls Tryd.prog 72 #[.int .i64 n] w fun e w' => e = .returned (.string ⟨(Lib.decDigits n).toArray⟩) ∧ ∃ m, w' = w.drewN m := by
  intro n
  induction n using Nat.strongRecOn with
  | _ n ih =>
    intro w hn
    have h0 : ¬ (n : Int) < 0 := by omega
    by_cases h : n < 10
    · have h1 : (n : Int) < 10 := by omega
      have HD : Hid (Lib.decDigits n = [UInt8.ofNat (48 + n)]) := Lib.hid (by rw [Lib.decDigits, dif_pos h])
      have HE := Lib.hid (digit_at n h)
      clear ih
      go_enter Tryd.func72, Tryd.ntmps72
      go_wp2
      go_ret
      exact ⟨ret_str (by rw [HE.out, HD.out]), 0, rfl⟩
    · have h1 : ¬ (n : Int) < 10 := by omega
      obtain ⟨D1, e1⟩ : ∃ D1, D1 = Lib.decDigits (n / 10) := ⟨_, rfl⟩
      obtain ⟨D2, e2⟩ : ∃ D2, D2 = [UInt8.ofNat (48 + n % 10)] := ⟨_, rfl⟩
      have HD : Hid (Lib.decDigits n = D1 ++ D2) := Lib.hid (by rw [Lib.decDigits, dif_neg h, e1, e2])
      have HE := digit_at (n % 10) (by omega)
      rw [← e2] at HE
      have IH : Hid (∀ W, Calls Tryd.prog 72 #[.int .i64 ((n : Int) / 10)] W fun e w' => e = .returned (.string ⟨D1.toArray⟩) ∧ ∃ m, w' = W.drewN m) := Lib.hid (fun W => by rw [e1]; exact ih (n / 10) (by omega) W (by omega))
      have hm0 : (0 : Int) ≤ (n : Int) % 10 := by omega
      have hm1 : (n : Int) % 10 < 10 := by omega
      have ht : Int.tmod (n : Int) 10 = (n : Int) % 10 := Int.tmod_eq_emod_of_nonneg (by omega)
      have hsl : ∀ W, (Instr.slice 9 (.string ⟨#[48, 49, 50, 51, 52, 53, 54, 55, 56, 57]⟩) (some (.int .i64 ((n : Int) % 10))) (some (.int .i64 ((n : Int) % 10 + 1))) none).run Tryd.prog W = .ok (.string ⟨D2.toArray⟩) W := fun W => by
        have e1 : ((n : Int) % 10).toNat = n % 10 := by omega
        have e2 : ((n : Int) % 10 + 1).toNat = n % 10 + 1 := by omega
        have e3 : ((⟨#[48, 49, 50, 51, 52, 53, 54, 55, 56, 57]⟩ : ByteArray).size : Int) = 10 := rfl
        rw [run_slice_string _ _ _ _ _ _ _ Tryd.underlying9 (by omega) (by omega) (by rw [e3]; omega), e1, e2, HE]
      have hadd := cat_run (P := Tryd.prog) D1 D2 (by
        have h2 := dec_len 19 (n / 10) (by omega)
        rw [e1, e2, List.length_singleton]; omega)
      have hw1 : IntKind.i64.wrap ((n : Int) / 10) = (n : Int) / 10 := IntWalk.i64_in _ (by omega)
      have hw2 : IntKind.i64.wrap ((n : Int) % 10) = (n : Int) % 10 := IntWalk.i64_in _ (by omega)
      have hw3 : IntKind.i64.wrap ((n : Int) % 10 + 1) = (n : Int) % 10 + 1 := IntWalk.i64_in _ (by omega)
      clear ih HE e1 e2
      go_enter Tryd.func72, Tryd.ntmps72
      go_wp2
      go_quiet ((go_at_call 72; exact Calls.quiet_of (IH.out _)))
      go_wp2
      go_ret
      exact ⟨ret_str (by rw [HD.out]), _, rfl⟩

theorem drewN_chg' (w : World) (n : Nat) : Chg No w (w.drewN n) := (Chg.refl No w).drewN n
theorem chg_grow' (w : World) (os : Array Obj) : Chg No w (Go.Sort.grow w os) :=
  ⟨rfl, rfl, rfl, by simp, fun k hk _ => by simp [Go.Sort.grow, Array.getElem?_append_left hk]⟩
/-- what the library's own variables hold: some bound on lengths, and the powers of ten -/
structure Lay (w : World) : Prop where
  max : ∃ m, w.cell? ⟨0, 0, none⟩ = some (.int .i64 m)
  tab : Lib.TabIs Tryd.prog w "internal/strconv.uint64pow10" .u64 Lib.pow10Tab
theorem Lay.keep {w w' : World} (h : Lay w) (hc : Chg No w w') : Lay w' := by
  refine ⟨?_, (Lib.tabBelow_of_tabIs h.tab) w' hc.below⟩
  obtain ⟨m, hm⟩ := h.max
  have hb : 0 < w.heap.size := by
    cases hs : w.heap[0]? with
    | some o => exact (Array.getElem?_eq_some_iff.1 hs).1
    | none => simp [World.cell?, hs] at hm
  exact ⟨m, (hc.cellD 0 0 hb (fun e => e)).trans hm⟩
theorem itoa_nat (n : Nat) : Lib.itoa (n : Int) = Lib.decDigits n := by
  unfold Lib.itoa
  rw [if_neg (by omega)]
  rfl
/-- a numeral as the program makes it -/
theorem dec_any (n : Nat) (hn : n ≤ 9223372036854775807) (w : World) (hw : Lay w) :
    Calls Tryd.prog 74 #[.int .i64 n] w fun e w' => e = .returned (.string ⟨(Lib.decDigits n).toArray⟩) ∧ Chg No w w' := by
  have HT := Lib.hid hw.tab
  clear hw
  go_enter Tryd.func74, Tryd.ntmps74
  go_wp2_with (go_at_call 83; refine (Tryd.strconv_Itoa _ (by omega) (by omega) _ HT.out).mono ?_; rintro e w' ⟨rfl, k, os, rfl⟩)
  go_ret
  exact ⟨ret_str (by rw [itoa_nat]), (drewN_chg' w k).trans (chg_grow' _ os)⟩
theorem dec_small (n : Nat) (hn : n < 100) (w : World) :
    Calls Tryd.prog 74 #[.int .i64 n] w fun e w' => e = .returned (.string ⟨(Lib.decDigits n).toArray⟩) ∧ w' = w := by
  go_enter Tryd.func74, Tryd.ntmps74
  go_wp2_with (go_at_call 83; refine (Tryd.strconv_Itoa_small n hn _).mono ?_; rintro e w' ⟨rfl, rfl⟩)
  go_ret
  exact ⟨rfl, rfl⟩

set_option maxRecDepth 100000 in
theorem l1Seal_any (l : List UInt8) (w : World) (hl : l.length ≤ 1152921504606846976) :
    Calls Tryd.prog 71 #[.string ⟨l.toArray⟩] w fun e w' => e = .returned (.string ⟨(sealL l).toArray⟩) ∧ ∃ m, w' = w.drewN m := by
  have hsz : (⟨l.toArray⟩ : ByteArray).size ≤ 1152921504606846976 := by simpa [ByteArray.size] using hl
  have h1 := Lib.hid (fun W => l1Sum_any ⟨l.toArray⟩ W hsz)
  have hsum := sumL_lt l
  have h2 := Lib.hid (fun W => l1Num_any (sumL l) W (by omega))
  obtain ⟨D, hD⟩ : ∃ D, D = Lib.decDigits (sumL l) := ⟨_, rfl⟩
  have hDl := dec_len 5 (sumL l) (Nat.lt_trans hsum (by decide))
  have e : Hid (sealL l = (l ++ [35]) ++ D) := Lib.hid (by rw [hD, sealL]; simp)
  rw [← hD] at h2 hDl
  have c1 := cat_run (P := Tryd.prog) l [35] (by simp; omega)
  have c2 := cat_run (P := Tryd.prog) (l ++ [35]) D (by simp; omega)
  clear hD
  go_enter Tryd.func71, Tryd.ntmps71
  go_wp2_with (first | (go_at_call 81; refine (h1.out _).mono ?_; rintro e w' ⟨rfl, rfl⟩) | (go_at_call 72; refine (h2.out _).mono ?_; rintro e w' ⟨rfl, m, rfl⟩))
  go_ret
  exact ⟨ret_str (by rw [e.out]; simp), _, rfl⟩

/-- the same of a sealed text in the program; false of a text that has the sign or is too long -/
def appB (l : List UInt8) : Bool := decide (l.length ≤ 4000) && !hasL 35 l && decide ((sealL l).length ≤ 4000)
def appT (l : List UInt8) : List UInt8 := if appB l then sealL l else []
set_option maxRecDepth 100000 in
theorem AppendChecksum_any (l : List UInt8) (w : World) (hl : l.length ≤ 1152921504606846976) (hw : Lay w) :
    Calls Tryd.prog 73 #[.string ⟨l.toArray⟩] w fun e w' => e = .returned (.tuple #[.string ⟨(appT l).toArray⟩, .bool (appB l)]) ∧ Chg No w w' := by
  obtain ⟨mx, hmx⟩ := hw.max
  have hsz : (⟨l.toArray⟩ : ByteArray).size ≤ 1152921504606846976 := by simpa [ByteArray.size] using hl
  have h1 := Lib.hid (fun W => checksum_any ⟨l.toArray⟩ W hsz)
  have hsum := sumL_lt l
  have h2 := Lib.hid (fun W hW => dec_any (sumL l) (by omega) W hW)
  have h3 : Hid (l.length ≤ 4000 → ∀ W, W.cell? ⟨0, 0, none⟩ = some (.int .i64 mx) → Calls Tryd.prog 77 #[.string ⟨l.toArray⟩, .string ⟨#[35]⟩] W fun e w' => e = .returned (.bool (hasL 35 l)) ∧ w' = W) := Lib.hid (fun hlt W hW => by
    refine (Tryd.strings_Contains ⟨l.toArray⟩ ⟨#[35]⟩ mx W (by simp [ByteArray.size]; omega) hW).mono ?_
    rintro e w' ⟨rfl, rfl⟩
    exact ⟨ret_bool (contains_one 35 l), rfl⟩)
  obtain ⟨D, hD⟩ : ∃ D, D = Lib.decDigits (sumL l) := ⟨_, rfl⟩
  have hDl := dec_len 5 (sumL l) (Nat.lt_trans hsum (by decide))
  have e : Hid (sealL l = l ++ 35 :: D) := Lib.hid (by rw [hD, sealL])
  have hsl : (sealL l).length = l.length + 1 + D.length := by rw [e.out]; simp; omega
  rw [← hD] at h2 hDl
  have c1 := cat_run (P := Tryd.prog) l [35] (by simp; omega)
  have c2 := cat_run (P := Tryd.prog) (l ++ [35]) D (by simp; omega)
  have HL := Lib.hid hw
  clear hD hw
  by_cases g1 : l.length ≤ 4000
  · have g1' : ¬ (4000 : Int) < (l.length : Int) := by omega
    have h3 := Lib.hid (h3.out g1)
    cases g2 : hasL 35 l with
    | true =>
      have hA : Hid (appB l = false) := Lib.hid (by simp [appB, g2])
      have hT : Hid (appT l = []) := Lib.hid (by rw [appT, hA.out]; rfl)
      rw [g2] at h3
      rw [hA.out, hT.out]
      go_enter Tryd.func73, Tryd.ntmps73
      go_wp2_with (first | (go_at_call 77; refine (h3.out _ hmx).mono ?_; rintro e w' ⟨rfl, rfl⟩))
      go_ret2
      exact ⟨rfl, Chg.refl _ _⟩
    | false =>
      rw [g2] at h3
      by_cases g4 : l.length + 1 + D.length ≤ 4000
      · have g4' : ¬ (4000 : Int) < ((l ++ 35 :: D).length : Int) := by simp; omega
        have hA : Hid (appB l = true) := Lib.hid (by simp [appB, g2, g1, hsl, g4])
        have hT : Hid (appT l = l ++ 35 :: D) := Lib.hid (by rw [appT, hA.out, ← e.out]; rfl)
        rw [hA.out, hT.out]
        obtain ⟨R, hR⟩ : ∃ R, R = l ++ 35 :: D := ⟨_, rfl⟩
        clear e hT hsl g4 g2
        have hR2 : l ++ [35] ++ D = R := by rw [hR]; simp
        rw [hR2] at c2
        rw [← hR] at g4' ⊢
        clear hR hR2
        go_enter Tryd.func73, Tryd.ntmps73
        go_wp2_with (first | (go_at_call 77; refine (h3.out _ hmx).mono ?_; rintro e w' ⟨rfl, rfl⟩) | (go_at_call 82; refine (h1.out _).mono ?_; rintro e w' ⟨rfl, rfl⟩) | (go_at_call 74; refine (h2.out _ HL.out).mono ?_; rintro e w1 ⟨rfl, hk⟩))
        go_ret2
        exact ⟨rfl, hk⟩
      · have g4' : (4000 : Int) < ((l ++ 35 :: D).length : Int) := by simp; omega
        have hA : Hid (appB l = false) := Lib.hid (by simp [appB, g2, g1, hsl, g4])
        have hT : Hid (appT l = []) := Lib.hid (by rw [appT, hA.out]; rfl)
        rw [hA.out, hT.out]
        obtain ⟨R, hR⟩ : ∃ R, R = l ++ 35 :: D := ⟨_, rfl⟩
        clear e hT hsl g4 g2
        have hR2 : l ++ [35] ++ D = R := by rw [hR]; simp
        rw [hR2] at c2
        rw [← hR] at g4'
        clear hR hR2
        go_enter Tryd.func73, Tryd.ntmps73
        go_wp2_with (first | (go_at_call 77; refine (h3.out _ hmx).mono ?_; rintro e w' ⟨rfl, rfl⟩) | (go_at_call 82; refine (h1.out _).mono ?_; rintro e w' ⟨rfl, rfl⟩) | (go_at_call 74; refine (h2.out _ HL.out).mono ?_; rintro e w1 ⟨rfl, hk⟩))
        go_ret2
        exact ⟨rfl, hk⟩
  · have g1' : (4000 : Int) < (l.length : Int) := by omega
    have hA : Hid (appB l = false) := Lib.hid (by simp [appB, g1])
    have hT : Hid (appT l = []) := Lib.hid (by rw [appT, hA.out]; rfl)
    rw [hA.out, hT.out]
    go_enter Tryd.func73, Tryd.ntmps73
    go_wp2_with fail
    go_ret2
    exact ⟨rfl, Chg.refl _ _⟩

/-- what the program reads of a line: whether it is sealed, and the text ahead of the sign -/
theorem verB_app (l : List UInt8) (h : l.length ≤ 4000) : verB l = (appB (preB 35 l) && ((appT (preB 35 l)) == l)) := by
  have h1 : hasL 35 (preB 35 l) = false := by rw [hasL, decide_eq_false_iff_not]; exact pre_notin 35 l
  have h2 := pre_le 35 l
  unfold verB
  by_cases h3 : sealL (preB 35 l) = l
  · have hA : appB (preB 35 l) = true := by
      unfold appB
      rw [h1, h3]
      simp [h]
      omega
    rw [appT, hA]
    simp [h, h3]
  · by_cases hA : appB (preB 35 l) = true
    · rw [appT, hA]
      simp [h3]
    · rw [Bool.eq_false_iff.2 hA]
      simp [h3]
set_option maxRecDepth 100000 in
theorem VerifyChecksum_any (l : List UInt8) (w : World) (hl : l.length ≤ 1152921504606846976) (hw : Lay w) :
    Calls Tryd.prog 79 #[.string ⟨l.toArray⟩] w fun e w' => e = .returned (.tuple #[.string ⟨(if verB l then preB 35 l else []).toArray⟩, .bool (verB l)]) ∧ Chg No w w' := by
  obtain ⟨mx, hmx⟩ := hw.max
  have HL := Lib.hid hw
  clear hw
  obtain ⟨X, hX⟩ : ∃ X, X = (if verB l then preB 35 l else []) := ⟨_, rfl⟩
  rw [← hX]
  by_cases g1 : l.length ≤ 4000
  · have g1' : ¬ (4000 : Int) < (l.length : Int) := by omega
    have hp := pre_le 35 l
    have HV := Lib.hid (verB_app l g1)
    have hcut : Hid (∀ W, W.cell? ⟨0, 0, none⟩ = some (.int .i64 mx) → Calls Tryd.prog 66 #[.string ⟨l.toArray⟩, .string ⟨#[35]⟩] W fun e w' => e = .returned (.tuple #[.string ⟨(preB 35 l).toArray⟩, .string ⟨(postB 35 l).toArray⟩, .bool (decide (35 ∈ l))]) ∧ Chg No W w') := Lib.hid (fun W hW => by
      refine (Tryd.strings_Cut ⟨l.toArray⟩ ⟨#[35]⟩ mx W (by simp [ByteArray.size]; omega) hW).mono ?_
      rintro e w' ⟨rfl, n, rfl⟩
      refine ⟨?_, drewN_chg' W n⟩
      rw [show Lib.cut (ByteArray.mk l.toArray).data.toList (ByteArray.mk #[35]).data.toList = (preB 35 l, postB 35 l, decide (35 ∈ l)) from cut_one 35 l])
    obtain ⟨p, hpe⟩ : ∃ p, p = preB 35 l := ⟨_, rfl⟩
    obtain ⟨q, hqe⟩ : ∃ q, q = postB 35 l := ⟨_, rfl⟩
    obtain ⟨b, hbe⟩ : ∃ b, b = decide (35 ∈ l) := ⟨_, rfl⟩
    rw [← hpe] at hX hp HV hcut
    rw [← hqe, ← hbe] at hcut
    have happ : Hid (∀ W, Lay W → Calls Tryd.prog 73 #[.string ⟨p.toArray⟩] W fun e w' => e = .returned (.tuple #[.string ⟨(appT p).toArray⟩, .bool (appB p)]) ∧ Chg No W w') := Lib.hid (fun W hW => AppendChecksum_any p W (by omega) hW)
    obtain ⟨T, hT⟩ : ∃ T, T = appT p := ⟨_, rfl⟩
    rw [← hT] at HV happ
    clear hpe hqe hbe hT
    cases g2 : appB p with
    | false =>
      have HV2 : Hid (verB l = false) := Lib.hid (by rw [HV.out, g2]; rfl)
      have HX : Hid (X = []) := Lib.hid (by rw [hX, HV2.out]; rfl)
      rw [HX.out, HV2.out]
      rw [g2] at happ
      clear g2 hX
      go_enter Tryd.func79, Tryd.ntmps79
      go_wp2_with (first | (go_at_call 66; refine (hcut.out _ hmx).mono ?_; rintro e w1 ⟨rfl, hk⟩; have HL1 := Lib.hid (HL.out.keep hk)) | (go_at_call 73; refine (happ.out _ HL1.out).mono ?_; rintro e w2 ⟨rfl, hk2⟩))
      go_ret2
      exact ⟨rfl, hk.trans hk2⟩
    | true =>
      rw [g2] at happ
      by_cases g3 : T = l
      · have HV2 : Hid (verB l = true) := Lib.hid (by rw [HV.out, g2, g3]; simp)
        have HX : Hid (X = p) := Lib.hid (by rw [hX, HV2.out]; rfl)
        rw [HX.out, HV2.out]
        have g3' : (T == l) = true := by rw [g3]; simp
        clear hX g2
        go_enter Tryd.func79, Tryd.ntmps79
        go_wp2_with (first | (go_at_call 66; refine (hcut.out _ hmx).mono ?_; rintro e w1 ⟨rfl, hk⟩; have HL1 := Lib.hid (HL.out.keep hk)) | (go_at_call 73; refine (happ.out _ HL1.out).mono ?_; rintro e w2 ⟨rfl, hk2⟩))
        go_ret2
        exact ⟨rfl, hk.trans hk2⟩
      · have HV2 : Hid (verB l = false) := Lib.hid (by rw [HV.out, g2]; simp [g3])
        have HX : Hid (X = []) := Lib.hid (by rw [hX, HV2.out]; rfl)
        rw [HX.out, HV2.out]
        have g3' : (T == l) = false := by simp [g3]
        clear hX g2
        go_enter Tryd.func79, Tryd.ntmps79
        go_wp2_with (first | (go_at_call 66; refine (hcut.out _ hmx).mono ?_; rintro e w1 ⟨rfl, hk⟩; have HL1 := Lib.hid (HL.out.keep hk)) | (go_at_call 73; refine (happ.out _ HL1.out).mono ?_; rintro e w2 ⟨rfl, hk2⟩))
        go_ret2
        exact ⟨rfl, hk.trans hk2⟩
  · have g1' : (4000 : Int) < (l.length : Int) := by omega
    have HV2 : Hid (verB l = false) := Lib.hid (by simp [verB, g1])
    have HX : Hid (X = []) := Lib.hid (by rw [hX, HV2.out]; rfl)
    rw [HX.out, HV2.out]
    clear hX
    go_enter Tryd.func79, Tryd.ntmps79
    go_wp2_with fail
    go_ret2
    exact ⟨rfl, Chg.refl _ _⟩

end Go.Proofs.YtmnohickmidfkaaDoor
