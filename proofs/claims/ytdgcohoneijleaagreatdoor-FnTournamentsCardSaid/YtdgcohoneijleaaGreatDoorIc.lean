import Derived.Test.YtdgcohoneijleaaGreatDoorPkX10
set_option maxRecDepth 100000
namespace Go.Proofs.YtdgcohoneijleaaGreatDoor
open Go.RowKit
def numB (s : List UInt8) : Bool := isNum s && inB (valS s) (-999999) 999999
theorem numB_itoa {v : Int} (h : -999999 ≤ v ∧ v ≤ 999999) : numB (Lib.itoa v) = true ∧ valS (Lib.itoa v) = v := by
 refine ⟨?_, valS_itoa v⟩
 unfold numB
 rw [isNum_itoa, valS_itoa, inB_iff.2 h]; rfl
theorem numB_parts {s : List UInt8} (h : numB s = true) : isNum s = true ∧ -999999 ≤ valS s ∧ valS s ≤ 999999 := by
 unfold numB at h
 rw [Bool.and_eq_true, inB_iff] at h
 exact h
theorem numB_len {s : List UInt8} (h : inB ((stripL s).length : Int) 1 6 = false) : numB s = false := by
 cases hn : numB s with
 | false => rfl
 | true =>
  obtain ⟨h1, h2⟩ := numB_parts hn
  have h3 := num_len h1
  have h4 := (num_len6 h1).2 h2
  rw [inB_iff.2 ⟨by omega, by omega⟩] at h
  cases h
theorem numB_digit {s : List UInt8} {b : UInt8} (hb : b ∈ stripL s) (h : ¬ (48 ≤ b.toNat ∧ b.toNat ≤ 57)) : numB s = false := by
 cases hn : numB s with
 | false => rfl
 | true => exact absurd (num_digits (numB_parts hn).1 b hb) h
theorem numB_is {s : List UInt8} (h : inB ((stripL s).length : Int) 1 6 = true) : numB s = isNum s := by
 cases hn : isNum s with
 | false => rw [numB, hn]; rfl
 | true =>
  have := (num_len6 hn).1 (by have := (inB_iff.1 h).2; omega)
  rw [numB, hn, inB_iff.2 this]; rfl
theorem strip_none {s : List UInt8} (h : negL s = false) : stripL s = s := by
 unfold stripL
 split
 ·rw [(neg_iff _).2 ⟨_, _, rfl⟩] at h; cases h
 ·rfl
theorem head_neg {s : List UInt8} (h1 : 1 < s.length) (h : s[0] = 45) : negL s = true := by
 match s, h1, h with
 | a :: c :: r, _, h => exact (neg_iff _).2 ⟨c, r, by have : a = 45 := h; rw [this]⟩
def rdN (s : List UInt8) : Int := if numB s then valS s else 0
theorem valL_bound {l : List UInt8} (h : ∀ b, b ∈ l → b.toNat ≤ 57) (hl : l.length ≤ 6) : valL l ≤ 999999 := by
 have h1 := valL_lt _ l (Nat.le_refl _) h
 have h2 : 10 ^ l.length ≤ 10 ^ 6 := Nat.pow_le_pow_right (by decide) hl
 omega
theorem ret2_eq {a b : Value} {a' b' : Value} (h1 : a = a') (h2 : b = b') : Ending.returned (.tuple #[a, b]) = .returned (.tuple #[a', b']) := by rw [h1, h2]
theorem l1NumI_any (v : Int) (w : World) (h0 : -9223372036854775807 ≤ v) (h1 : v ≤ 9223372036854775807) :
  Calls Tryz.prog 72 #[.int .i64 v] w fun e w' => e = .returned (.string ⟨(Lib.itoa v).toArray⟩) ∧ ∃ m, w' = w.drewN m := by
 by_cases hv : v < 0
 ·obtain ⟨n, rfl⟩ : ∃ n : Nat, v = -(n : Int) := ⟨v.natAbs, by omega⟩
  have h3 := Lib.hid (fun W => l1Num_any n W (by omega))
  obtain ⟨D, hD⟩ : ∃ D, D = Lib.decDigits n := ⟨_, rfl⟩
  have hDl := dec_len 19 n (by omega)
  have HE : Hid (Lib.itoa (-(n : Int)) = [45] ++ D) := Lib.hid (by rw [itoa_neg' n (by omega), hD]; rfl)
  rw [← hD] at h3 hDl
  have c1 := cat_run (P := Tryz.prog) [45] D (by simp; omega)
  have hw1 : IntKind.i64.wrap (-(-(n : Int))) = (n : Int) := by rw [Int.neg_neg]; exact IntWalk.i64_in _ (by omega)
  clear hD
  go_enter Tryz.func72, Tryz.ntmps72
  go_wp2_with (go_at_call 72; refine (h3.out _).mono ?_; rintro e w' ⟨rfl, m, rfl⟩)
  go_ret
  exact ⟨ret_str (by rw [HE.out]; rfl), _, rfl⟩
 ·obtain ⟨n, rfl⟩ : ∃ n : Nat, v = (n : Int) := ⟨v.natAbs, by omega⟩
  rw [itoa_nat']
  exact l1Num_any n w (by omega)
set_option maxHeartbeats 4000000 in
theorem l1Read_any (s : List UInt8) (w : World) (hs : s.length ≤ 1073741824) :
  Calls Tryz.prog 38 #[.string ⟨s.toArray⟩] w fun e w' => e = .returned (.tuple #[.int .i64 (rdN s), .bool (numB s)]) ∧ ∃ m, w' = w.drewN m := by
 by_cases hneg : negL s = true
 ·obtain ⟨c, r, hs'⟩ := (neg_iff s).1 hneg
  obtain ⟨t, ht⟩ : ∃ t, c :: r = t := ⟨_, rfl⟩
  have HT : Hid (stripL s = t) := Lib.hid (by rw [hs', strip_neg, ht])
  have HG : Hid (negL s = true) := Lib.hid hneg
  have hlen : s.length = t.length + 1 := by rw [hs', ← ht]; simp
  have hsl := sl_runF 9 Tryz.underlying9 s 1 (by omega)
  have e1 : s.drop 1 = t := by rw [hs', ← ht]; rfl
  rw [e1] at hsl
  have hpos : 1 ≤ t.length := by rw [← ht]; simp
  have hix := ix_run 9 Tryz.underlying9 s 0 (by omega)
  have e2 : s[0]'(by omega) = 45 := by simp [hs']
  rw [e2] at hix
  have hix : ∀ W, (Instr.index 9 (.string ⟨s.toArray⟩) (.int .i64 0)).run Tryz.prog W = .ok (.int .u8 45) W := hix
  have hsl : ∀ W, (Instr.slice 9 (.string ⟨s.toArray⟩) (some (.int .i64 1)) none none).run Tryz.prog W = .ok (.string ⟨t.toArray⟩) W := hsl
  have hl1 : (1 : Int) < (s.length : Int) := by omega
  have hl2 : (t.length : Int) < (s.length : Int) := by omega
  clear e1 e2 ht hs' hneg
  go_enter Tryz.func38, Tryz.ntmps38
  go_wp2_with fail
  by_cases hin : inB (t.length : Int) 1 6 = true
  ·have hin2 := inB_iff.1 hin
   go_wp2_with (first | (go_at_call 80; refine (l1In_any _ _ _ _).mono ?_; rintro e w' ⟨rfl, rfl⟩))
   go_loop [5, 6] (fun n i => ∃ k : Nat, k ≤ t.length ∧ i = .int .i64 k ∧ n = .int .i64 (valL (t.take k) : Int) ∧ ∀ b, b ∈ t.take k → 48 ≤ b.toNat ∧ b.toNat ≤ 57) (fun _ i => t.length - (intOf i).toNat)
   case atStart => exact ⟨0, Nat.zero_le _, rfl, rfl, by simp⟩
   case round =>
    obtain ⟨k, hk, rfl, rfl, hdg⟩ := hrel
    have HV : Hid (valL (t.take k) ≤ 999999) := Lib.hid (valL_bound (fun b hb => (hdg b hb).2) (by simp; omega))
    have HDG := Lib.hid hdg
    clear hdg
    obtain ⟨N, hN⟩ : ∃ N, valL (t.take k) = N := ⟨_, rfl⟩
    rw [hN] at HV
    have hNN := HV.out
    have HNN := Lib.hid hN
    rw [hN]
    clear hN
    by_cases hlt : k < t.length
    ·have hix := ix_run 9 Tryz.underlying9 t k hlt
     obtain ⟨x, hx⟩ : ∃ x, t[k] = x := ⟨_, rfl⟩
     rw [hx] at hix
     have hb := byteLt x
     have HX := Lib.hid hx
     clear hx
     by_cases hd : 48 ≤ x.toNat ∧ x.toNat ≤ 57
     ·have h3 : ¬ (x.toNat : Int) < 48 := by omega
      have h4 : ¬ (57 : Int) < (x.toNat : Int) := by omega
      have hw1 : IntKind.u8.wrap ((x.toNat : Int) - 48) = (x.toNat : Int) - 48 := IntWalk.u8_in _ (by omega)
      go_wp2
      refine ⟨⟨k + 1, by omega, by go_num, vint_eq ?_, fun b hb => ?_⟩, by simp [intOf]; omega⟩
      ·have e : valL (t.take (k + 1)) = 10 * N + (x.toNat - 48) := by
        rw [List.take_succ_eq_append_getElem hlt, valL_snoc, HNN.out, HX.out]
       rw [e]
       omega
      ·rw [List.take_succ_eq_append_getElem hlt, HX.out, List.mem_append, List.mem_singleton] at hb
       rcases hb with hb | rfl
       ·exact HDG.out b hb
       ·exact hd
     ·have HF : Hid (numB s = false) := Lib.hid (numB_digit (b := x) (by rw [HT.out, ← HX.out]; exact List.getElem_mem hlt) hd)
      by_cases hd1 : x.toNat < 48
      ·have h3 : (x.toNat : Int) < 48 := by omega
       go_wp2
       go_ret2
       exact ⟨ret2_eq (by rw [rdN, HF.out]; rfl) (by rw [HF.out]; rfl), 0, rfl⟩
      ·have h3 : ¬ (x.toNat : Int) < 48 := by omega
       have h4 : (57 : Int) < (x.toNat : Int) := by omega
       go_wp2
       go_ret2
       exact ⟨ret2_eq (by rw [rdN, HF.out]; rfl) (by rw [HF.out]; rfl), 0, rfl⟩
    ·have HK : Hid (N = valL t) := Lib.hid (by rw [← HNN.out, List.take_of_length_le (by omega)])
     have HI := Lib.hid (numB_is (s := s) (by rw [HT.out]; exact hin))
     have HVS : Hid (valS s = -(N : Int)) := Lib.hid (by unfold valS; rw [HG.out, HT.out, ← HK.out]; simp)
     have hcall := Lib.hid (fun W => l1NumI_any (-(N : Int)) W (by omega) (by omega))
     obtain ⟨Z, hZ⟩ : ∃ Z, Lib.itoa (-(N : Int)) = Z := ⟨_, rfl⟩
     rw [hZ] at hcall
     have HZ := Lib.hid hZ
     clear hZ
     by_cases hq : Z = s
     ·have HR : Hid (numB s = true) := Lib.hid (by rw [HI.out, isNum, HVS.out, HZ.out, hq]; simp)
      subst hq
      go_wp2_with (go_at_call 72; refine (hcall.out _).mono ?_; rintro e w' ⟨rfl, m, rfl⟩)
      go_ret2
      exact ⟨ret2_eq (by rw [rdN, HR.out, HVS.out]; rfl) (by rw [HR.out]; rfl), _, rfl⟩
     ·have HR : Hid (numB s = false) := Lib.hid (by rw [HI.out, isNum, HVS.out, HZ.out]; simpa using hq)
      have hqq : (Z == s) = false := by simpa using hq
      go_wp2_with (go_at_call 72; refine (hcall.out _).mono ?_; rintro e w' ⟨rfl, m, rfl⟩)
      go_ret2
      exact ⟨ret2_eq (by rw [rdN, HR.out]; rfl) (by rw [HR.out]; rfl), _, rfl⟩
  ·have hin : inB (t.length : Int) 1 6 = false := Bool.eq_false_iff.2 hin
   have HF : Hid (numB s = false) := Lib.hid (numB_len (by rw [HT.out]; exact hin))
   go_wp2_with (first | (go_at_call 80; refine (l1In_any _ _ _ _).mono ?_; rintro e w' ⟨rfl, rfl⟩))
   go_ret2
   exact ⟨ret2_eq (by rw [rdN, HF.out]; rfl) (by rw [HF.out]; rfl), 0, rfl⟩
 ·have hneg : negL s = false := Bool.eq_false_iff.2 hneg
  have HT : Hid (stripL s = s) := Lib.hid (strip_none hneg)
  have HG : Hid (negL s = false) := Lib.hid hneg
  by_cases hone : s.length ≤ 1
  ·have hl1 : ¬ (1 : Int) < (s.length : Int) := by omega
   clear hneg
   go_enter Tryz.func38, Tryz.ntmps38
   go_wp2_with fail
   by_cases hin : inB (s.length : Int) 1 6 = true
   ·have hin2 := inB_iff.1 hin
    go_wp2_with (first | (go_at_call 80; refine (l1In_any _ _ _ _).mono ?_; rintro e w' ⟨rfl, rfl⟩))
    go_loop [5, 6] (fun n i => ∃ k : Nat, k ≤ s.length ∧ i = .int .i64 k ∧ n = .int .i64 (valL (s.take k) : Int) ∧ ∀ b, b ∈ s.take k → 48 ≤ b.toNat ∧ b.toNat ≤ 57) (fun _ i => s.length - (intOf i).toNat)
    case atStart => exact ⟨0, Nat.zero_le _, rfl, rfl, by simp⟩
    case round =>
     obtain ⟨k, hk, rfl, rfl, hdg⟩ := hrel
     have HV : Hid (valL (s.take k) ≤ 999999) := Lib.hid (valL_bound (fun b hb => (hdg b hb).2) (by simp; omega))
     have HDG := Lib.hid hdg
     clear hdg
     obtain ⟨N, hN⟩ : ∃ N, valL (s.take k) = N := ⟨_, rfl⟩
     rw [hN] at HV
     have hNN := HV.out
     have HNN := Lib.hid hN
     rw [hN]
     clear hN
     by_cases hlt : k < s.length
     ·have hix := ix_run 9 Tryz.underlying9 s k hlt
      obtain ⟨x, hx⟩ : ∃ x, s[k] = x := ⟨_, rfl⟩
      rw [hx] at hix
      have hb := byteLt x
      have HX := Lib.hid hx
      clear hx
      by_cases hd : 48 ≤ x.toNat ∧ x.toNat ≤ 57
      ·have h3 : ¬ (x.toNat : Int) < 48 := by omega
       have h4 : ¬ (57 : Int) < (x.toNat : Int) := by omega
       have hw1 : IntKind.u8.wrap ((x.toNat : Int) - 48) = (x.toNat : Int) - 48 := IntWalk.u8_in _ (by omega)
       go_wp2
       refine ⟨⟨k + 1, by omega, by go_num, vint_eq ?_, fun b hb => ?_⟩, by simp [intOf]; omega⟩
       ·have e : valL (s.take (k + 1)) = 10 * N + (x.toNat - 48) := by
         rw [List.take_succ_eq_append_getElem hlt, valL_snoc, HNN.out, HX.out]
        rw [e]
        omega
       ·rw [List.take_succ_eq_append_getElem hlt, HX.out, List.mem_append, List.mem_singleton] at hb
        rcases hb with hb | rfl
        ·exact HDG.out b hb
        ·exact hd
      ·have HF : Hid (numB s = false) := Lib.hid (numB_digit (b := x) (by rw [HT.out, ← HX.out]; exact List.getElem_mem hlt) hd)
       by_cases hd1 : x.toNat < 48
       ·have h3 : (x.toNat : Int) < 48 := by omega
        go_wp2
        go_ret2
        exact ⟨ret2_eq (by rw [rdN, HF.out]; rfl) (by rw [HF.out]; rfl), 0, rfl⟩
       ·have h3 : ¬ (x.toNat : Int) < 48 := by omega
        have h4 : (57 : Int) < (x.toNat : Int) := by omega
        go_wp2
        go_ret2
        exact ⟨ret2_eq (by rw [rdN, HF.out]; rfl) (by rw [HF.out]; rfl), 0, rfl⟩
     ·have HK : Hid (N = valL s) := Lib.hid (by rw [← HNN.out, List.take_of_length_le (by omega)])
      have HI := Lib.hid (numB_is (s := s) (by rw [HT.out]; exact hin))
      have HVS : Hid (valS s = (N : Int)) := Lib.hid (by unfold valS; rw [HG.out, HT.out, ← HK.out]; simp)
      have hcall := Lib.hid (fun W => l1NumI_any ((N : Int)) W (by omega) (by omega))
      obtain ⟨Z, hZ⟩ : ∃ Z, Lib.itoa ((N : Int)) = Z := ⟨_, rfl⟩
      rw [hZ] at hcall
      have HZ := Lib.hid hZ
      clear hZ
      by_cases hq : Z = s
      ·have HR : Hid (numB s = true) := Lib.hid (by rw [HI.out, isNum, HVS.out, HZ.out, hq]; simp)
       subst hq
       go_wp2_with (go_at_call 72; refine (hcall.out _).mono ?_; rintro e w' ⟨rfl, m, rfl⟩)
       go_ret2
       exact ⟨ret2_eq (by rw [rdN, HR.out, HVS.out]; rfl) (by rw [HR.out]; rfl), _, rfl⟩
      ·have HR : Hid (numB s = false) := Lib.hid (by rw [HI.out, isNum, HVS.out, HZ.out]; simpa using hq)
       have hqq : (Z == s) = false := by simpa using hq
       go_wp2_with (go_at_call 72; refine (hcall.out _).mono ?_; rintro e w' ⟨rfl, m, rfl⟩)
       go_ret2
       exact ⟨ret2_eq (by rw [rdN, HR.out]; rfl) (by rw [HR.out]; rfl), _, rfl⟩
   ·have hin : inB (s.length : Int) 1 6 = false := Bool.eq_false_iff.2 hin
    have HF : Hid (numB s = false) := Lib.hid (numB_len (by rw [HT.out]; exact hin))
    go_wp2_with (first | (go_at_call 80; refine (l1In_any _ _ _ _).mono ?_; rintro e w' ⟨rfl, rfl⟩))
    go_ret2
    exact ⟨ret2_eq (by rw [rdN, HF.out]; rfl) (by rw [HF.out]; rfl), 0, rfl⟩
  ·have hl1 : (1 : Int) < (s.length : Int) := by omega
   have hix := ix_run 9 Tryz.underlying9 s 0 (by omega)
   obtain ⟨x, hx⟩ : ∃ x, s[0]'(by omega) = x := ⟨_, rfl⟩
   rw [hx] at hix
   have hb := byteLt x
   have hx45 : ((x.toNat : Int) == 45) = false := by
    rw [beq_eq_false_iff_ne]
    intro e
    have e2 : x = 45 := UInt8.toNat_inj.1 (by simpa using (by omega : x.toNat = 45))
    have : negL s = true := head_neg (by omega) (hx.trans e2)
    rw [this] at hneg; cases hneg
   clear hneg hx hone
   have hix : ∀ W, (Instr.index 9 (.string ⟨s.toArray⟩) (.int .i64 0)).run Tryz.prog W = .ok (.int .u8 (x.toNat : Int)) W := hix
   go_enter Tryz.func38, Tryz.ntmps38
   go_wp2_with fail
   by_cases hin : inB (s.length : Int) 1 6 = true
   ·have hin2 := inB_iff.1 hin
    go_wp2_with (first | (go_at_call 80; refine (l1In_any _ _ _ _).mono ?_; rintro e w' ⟨rfl, rfl⟩))
    go_loop [5, 6] (fun n i => ∃ k : Nat, k ≤ s.length ∧ i = .int .i64 k ∧ n = .int .i64 (valL (s.take k) : Int) ∧ ∀ b, b ∈ s.take k → 48 ≤ b.toNat ∧ b.toNat ≤ 57) (fun _ i => s.length - (intOf i).toNat)
    case atStart => exact ⟨0, Nat.zero_le _, rfl, rfl, by simp⟩
    case round =>
     obtain ⟨k, hk, rfl, rfl, hdg⟩ := hrel
     have HV : Hid (valL (s.take k) ≤ 999999) := Lib.hid (valL_bound (fun b hb => (hdg b hb).2) (by simp; omega))
     have HDG := Lib.hid hdg
     clear hdg
     obtain ⟨N, hN⟩ : ∃ N, valL (s.take k) = N := ⟨_, rfl⟩
     rw [hN] at HV
     have hNN := HV.out
     have HNN := Lib.hid hN
     rw [hN]
     clear hN
     by_cases hlt : k < s.length
     ·have hix := ix_run 9 Tryz.underlying9 s k hlt
      obtain ⟨x, hx⟩ : ∃ x, s[k] = x := ⟨_, rfl⟩
      rw [hx] at hix
      have hb := byteLt x
      have HX := Lib.hid hx
      clear hx
      by_cases hd : 48 ≤ x.toNat ∧ x.toNat ≤ 57
      ·have h3 : ¬ (x.toNat : Int) < 48 := by omega
       have h4 : ¬ (57 : Int) < (x.toNat : Int) := by omega
       have hw1 : IntKind.u8.wrap ((x.toNat : Int) - 48) = (x.toNat : Int) - 48 := IntWalk.u8_in _ (by omega)
       go_wp2
       refine ⟨⟨k + 1, by omega, by go_num, vint_eq ?_, fun b hb => ?_⟩, by simp [intOf]; omega⟩
       ·have e : valL (s.take (k + 1)) = 10 * N + (x.toNat - 48) := by
         rw [List.take_succ_eq_append_getElem hlt, valL_snoc, HNN.out, HX.out]
        rw [e]
        omega
       ·rw [List.take_succ_eq_append_getElem hlt, HX.out, List.mem_append, List.mem_singleton] at hb
        rcases hb with hb | rfl
        ·exact HDG.out b hb
        ·exact hd
      ·have HF : Hid (numB s = false) := Lib.hid (numB_digit (b := x) (by rw [HT.out, ← HX.out]; exact List.getElem_mem hlt) hd)
       by_cases hd1 : x.toNat < 48
       ·have h3 : (x.toNat : Int) < 48 := by omega
        go_wp2
        go_ret2
        exact ⟨ret2_eq (by rw [rdN, HF.out]; rfl) (by rw [HF.out]; rfl), 0, rfl⟩
       ·have h3 : ¬ (x.toNat : Int) < 48 := by omega
        have h4 : (57 : Int) < (x.toNat : Int) := by omega
        go_wp2
        go_ret2
        exact ⟨ret2_eq (by rw [rdN, HF.out]; rfl) (by rw [HF.out]; rfl), 0, rfl⟩
     ·have HK : Hid (N = valL s) := Lib.hid (by rw [← HNN.out, List.take_of_length_le (by omega)])
      have HI := Lib.hid (numB_is (s := s) (by rw [HT.out]; exact hin))
      have HVS : Hid (valS s = (N : Int)) := Lib.hid (by unfold valS; rw [HG.out, HT.out, ← HK.out]; simp)
      have hcall := Lib.hid (fun W => l1NumI_any ((N : Int)) W (by omega) (by omega))
      obtain ⟨Z, hZ⟩ : ∃ Z, Lib.itoa ((N : Int)) = Z := ⟨_, rfl⟩
      rw [hZ] at hcall
      have HZ := Lib.hid hZ
      clear hZ
      by_cases hq : Z = s
      ·have HR : Hid (numB s = true) := Lib.hid (by rw [HI.out, isNum, HVS.out, HZ.out, hq]; simp)
       subst hq
       go_wp2_with (go_at_call 72; refine (hcall.out _).mono ?_; rintro e w' ⟨rfl, m, rfl⟩)
       go_ret2
       exact ⟨ret2_eq (by rw [rdN, HR.out, HVS.out]; rfl) (by rw [HR.out]; rfl), _, rfl⟩
      ·have HR : Hid (numB s = false) := Lib.hid (by rw [HI.out, isNum, HVS.out, HZ.out]; simpa using hq)
       have hqq : (Z == s) = false := by simpa using hq
       go_wp2_with (go_at_call 72; refine (hcall.out _).mono ?_; rintro e w' ⟨rfl, m, rfl⟩)
       go_ret2
       exact ⟨ret2_eq (by rw [rdN, HR.out]; rfl) (by rw [HR.out]; rfl), _, rfl⟩
   ·have hin : inB (s.length : Int) 1 6 = false := Bool.eq_false_iff.2 hin
    have HF : Hid (numB s = false) := Lib.hid (numB_len (by rw [HT.out]; exact hin))
    go_wp2_with (first | (go_at_call 80; refine (l1In_any _ _ _ _).mono ?_; rintro e w' ⟨rfl, rfl⟩))
    go_ret2
    exact ⟨ret2_eq (by rw [rdN, HF.out]; rfl) (by rw [HF.out]; rfl), 0, rfl⟩
end Go.Proofs.YtdgcohoneijleaaGreatDoor
