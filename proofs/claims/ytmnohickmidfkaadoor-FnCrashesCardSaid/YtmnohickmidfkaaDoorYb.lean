import Derived.Test.YtmnohickmidfkaaDoorI
import Derived.Test.YtmnohickmidfkaaDoorYa
/- bytes: the checksum, bytes that stand, bytes that may stand -/
namespace Go.Proofs.YtmnohickmidfkaaDoor
open Go.RowKit

theorem takeB (s : ByteArray) (k : Nat) (h : k < s.size) : s.data.toList.take (k + 1) = s.data.toList.take k ++ [s[k]] := by
  rw [List.take_succ_eq_append_getElem (by simpa using h)]; rfl
theorem sumB (s : ByteArray) (k : Nat) (h : k < s.size) : sumL (s.data.toList.take (k + 1)) = (41 * sumL (s.data.toList.take k) + s[k].toNat + 1) % 999979 := by
  rw [takeB s k h, sumL, List.foldl_append]; rfl
theorem takeAllB (s : ByteArray) (k : Nat) (h : ¬ k < s.size) : s.data.toList.take k = s.data.toList := List.take_of_length_le (by simp; omega)
theorem byteLt (b : UInt8) : (b.toNat : Int) ≤ 255 := by have := b.toNat_lt; omega
theorem vint_eq {k : IntKind} {a b : Int} (h : a = b) : Value.int k a = Value.int k b := by rw [h]
/-- bytes that may stand, all of them -/
theorem okC_iff (b : UInt8) : okC b = true ↔ 32 ≤ (b.toNat : Int) ∧ (b.toNat : Int) ≤ 126 ∧ ¬ (b.toNat : Int) = 35 := by
  unfold okC
  have e : b = 35 ↔ b.toNat = 35 := ⟨fun h => by rw [h]; rfl, fun h => UInt8.toNat_inj.1 h⟩
  simp only [Bool.and_eq_true, decide_eq_true_eq, bne_iff_ne, ne_eq, e]
  omega
theorem allB_snoc (f : UInt8 → Bool) (s : ByteArray) (k : Nat) (h : k < s.size) : (s.data.toList.take (k + 1)).all f = ((s.data.toList.take k).all f && f s[k]) := by
  rw [takeB s k h, List.all_append]; simp
theorem allB_stop (f : UInt8 → Bool) (s : ByteArray) (k : Nat) (h : k < s.size) (hf : f s[k] = false) : s.data.toList.all f = false := by
  rw [List.all_eq_false]
  exact ⟨s[k], List.getElem_mem (l := s.data.toList) (by simpa using h), by rw [hf]; decide⟩
/-- whether a byte stands in bytes; whether all may stand in a record -/
def hasL (b : UInt8) (l : List UInt8) : Bool := decide (b ∈ l)
def plainB (l : List UInt8) : Bool := l.all okC
theorem plain_snoc (s : ByteArray) (k : Nat) (h : k < s.size) (h1 : plainB (s.data.toList.take k) = true) (h2 : okC s[k] = true) : plainB (s.data.toList.take (k + 1)) = true := by
  unfold plainB at *
  rw [allB_snoc okC s k h, h1, h2]; rfl
theorem hasL_snoc (s : ByteArray) (b : UInt8) (k : Nat) (h : k < s.size) (h1 : hasL b (s.data.toList.take k) = false) (h2 : ¬ s[k] = b) : hasL b (s.data.toList.take (k + 1)) = false := by
  unfold hasL at *
  rw [decide_eq_false_iff_not] at *
  rw [takeB s k h, List.mem_append, List.mem_singleton]
  rintro (h3 | h3)
  · exact h1 h3
  · exact h2 h3.symm
theorem memB (s : ByteArray) (k : Nat) (h : k < s.size) : s[k] ∈ s.data.toList := List.getElem_mem (l := s.data.toList) (by simpa using h)

set_option maxRecDepth 100000 in
set_option maxHeartbeats 1000000 in
theorem l1Sum_any (s : ByteArray) (w : World) (hs : s.size ≤ 1152921504606846976) :
    Calls Tryd.prog 81 #[.string s] w fun e w' => e = .returned (.int .i64 (sumL s.data.toList)) ∧ w' = w := by
  go_enter Tryd.func81, Tryd.ntmps81
  go_wp2
  go_loop [3, 4] (fun n i => ∃ k : Nat, k ≤ s.size ∧ i = .int .i64 k ∧ n = .int .i64 (sumL (s.data.toList.take k))) (fun _ i => s.size - (intOf i).toNat)
  case atStart => exact ⟨0, Nat.zero_le _, rfl, rfl⟩
  case round =>
    obtain ⟨k, hk, rfl, rfl⟩ := hrel
    by_cases hlt : k < s.size
    · have hb := byteLt s[k]
      have hl := sumL_lt (s.data.toList.take k)
      have HS := Lib.hid (sumB s k hlt)
      go_wp2
      refine ⟨⟨k + 1, by omega, by go_num, vint_eq (by rw [HS.out]; omega)⟩, by simp [intOf]; omega⟩
    · go_wp2
      go_ret
      exact ⟨ret_int (by rw [takeAllB s k hlt]), rfl⟩

set_option maxRecDepth 100000 in
set_option maxHeartbeats 1000000 in
theorem checksum_any (s : ByteArray) (w : World) (hs : s.size ≤ 1152921504606846976) :
    Calls Tryd.prog 82 #[.string s] w fun e w' => e = .returned (.int .i64 (sumL s.data.toList)) ∧ w' = w := by
  go_enter Tryd.func82, Tryd.ntmps82
  go_wp2
  go_loop [3, 7] (fun n i => ∃ k : Nat, k ≤ s.size ∧ i = .int .i64 k ∧ n = .int .i64 (sumL (s.data.toList.take k))) (fun _ i => s.size - (intOf i).toNat)
  case atStart => exact ⟨0, Nat.zero_le _, rfl, rfl⟩
  case round =>
    obtain ⟨k, hk, rfl, rfl⟩ := hrel
    by_cases hlt : k < s.size
    · have hb := byteLt s[k]
      have hl := sumL_lt (s.data.toList.take k)
      have HS := Lib.hid (sumB s k hlt)
      go_wp2
      refine ⟨⟨k + 1, by omega, by go_num, vint_eq (by rw [HS.out]; omega)⟩, by simp [intOf]; omega⟩
    · go_wp2
      go_ret
      exact ⟨ret_int (by rw [takeAllB s k hlt]), rfl⟩

set_option maxRecDepth 100000 in
set_option maxHeartbeats 1000000 in
theorem l1Stands_any (s : ByteArray) (b : UInt8) (w : World) (hs : s.size ≤ 1152921504606846976) :
    Calls Tryd.prog 70 #[.string s, .int .u8 (b.toNat : Int)] w fun e w' => e = .returned (.bool (hasL b s.data.toList)) ∧ w' = w := by
  go_enter Tryd.func70, Tryd.ntmps70
  go_wp2
  go_loop [5] (fun i => ∃ k : Nat, k ≤ s.size ∧ i = .int .i64 k ∧ hasL b (s.data.toList.take k) = false) (fun i => s.size - (intOf i).toNat)
  case atStart => exact ⟨0, Nat.zero_le _, rfl, by simp [hasL]⟩
  case round =>
    obtain ⟨k, hk, rfl, HB0⟩ := hrel
    have HB := Lib.hid HB0
    clear HB0
    by_cases hlt : k < s.size
    · by_cases he : s[k] = b
      · have he1 : (s[k].toNat : Int) = (b.toNat : Int) := by rw [he]
        have HM : Hid (hasL b s.data.toList = true) := Lib.hid (by rw [hasL, decide_eq_true_eq, ← he]; exact memB s k hlt)
        go_wp2
        go_ret
        exact ⟨ret_bool HM.out.symm, rfl⟩
      · have he1 : ¬ (s[k].toNat : Int) = (b.toNat : Int) := fun h => he (UInt8.toNat_inj.1 (by omega))
        have HS := Lib.hid (hasL_snoc s b k hlt HB.out he)
        go_wp2
        refine ⟨⟨k + 1, by omega, by go_num, HS.out⟩, by simp [intOf]; omega⟩
    · go_wp2
      go_ret
      exact ⟨ret_bool (by rw [← HB.out, takeAllB s k hlt]), rfl⟩

set_option maxRecDepth 100000 in
set_option maxHeartbeats 1000000 in
theorem l12Bytes_any (s : ByteArray) (m : Int) (w : World) (hs : s.size ≤ 1152921504606846976) :
    Calls Tryd.prog 69 #[.string s, .int .i64 m] w fun e w' => e = .returned (.bool (plainB s.data.toList && decide ((s.size : Int) ≤ m))) ∧ w' = w := by
  go_enter Tryd.func69, Tryd.ntmps69
  go_wp2
  go_loop [5] (fun i => ∃ k : Nat, k ≤ s.size ∧ i = .int .i64 k ∧ plainB (s.data.toList.take k) = true) (fun i => s.size - (intOf i).toNat)
  case atStart => exact ⟨0, Nat.zero_le _, rfl, rfl⟩
  case round =>
    obtain ⟨k, hk, rfl, HB0⟩ := hrel
    have HB := Lib.hid HB0
    clear HB0
    by_cases hlt : k < s.size
    · have HO := Lib.hid (okC_iff s[k])
      have HF : Hid (okC s[k] = false → plainB s.data.toList = false) := Lib.hid (allB_stop okC s k hlt)
      have HT := Lib.hid (plain_snoc s k hlt HB.out)
      have hb := byteLt s[k]
      by_cases ho : okC s[k] = true
      · have h1 := (HO.out.1 ho)
        have h2 : inB (s[k].toNat : Int) 32 126 = true := inB_iff.2 ⟨h1.1, h1.2.1⟩
        have h3 : ((s[k].toNat : Int) == 35) = false := by rw [beq_eq_false_iff_ne]; exact h1.2.2
        have HT := Lib.hid (HT.out ho)
        clear ho h1
        go_wp2_with (first | (go_at_call 48; refine (l1In_any _ _ _ _).mono ?_; rintro e w' ⟨rfl, rfl⟩))
        refine ⟨⟨k + 1, by omega, by go_num, HT.out⟩, by simp [intOf]; omega⟩
      · have HN := Lib.hid (HF.out (Bool.eq_false_iff.2 ho))
        have HO := Lib.hid ((fun h => ho (HO.out.2 h)) : ¬ (32 ≤ (s[k].toNat : Int) ∧ (s[k].toNat : Int) ≤ 126 ∧ ¬ (s[k].toNat : Int) = 35))
        clear ho HF
        by_cases h2 : inB (s[k].toNat : Int) 32 126 = true
        · have h3 : ((s[k].toNat : Int) == 35) = true := by
            rw [beq_iff_eq]
            have := inB_iff.1 h2
            exact Classical.byContradiction fun h => HO.out ⟨this.1, this.2, h⟩
          go_wp2_with (first | (go_at_call 48; refine (l1In_any _ _ _ _).mono ?_; rintro e w' ⟨rfl, rfl⟩))
          go_ret
          exact ⟨ret_bool (by rw [HN.out]; rfl), rfl⟩
        · have h2 : inB (s[k].toNat : Int) 32 126 = false := Bool.eq_false_iff.2 h2
          go_wp2_with (first | (go_at_call 48; refine (l1In_any _ _ _ _).mono ?_; rintro e w' ⟨rfl, rfl⟩))
          go_ret
          exact ⟨ret_bool (by rw [HN.out]; rfl), rfl⟩
    · go_wp2
      go_ret
      exact ⟨ret_bool (by rw [← takeAllB s k hlt, HB.out]; simp), rfl⟩

set_option maxRecDepth 100000 in
set_option maxHeartbeats 1000000 in
theorem isPlain_any (s : ByteArray) (w : World) (hs : s.size ≤ 1152921504606846976) :
    Calls Tryd.prog 61 #[.string s] w fun e w' => e = .returned (.bool (plainB s.data.toList)) ∧ w' = w := by
  go_enter Tryd.func61, Tryd.ntmps61
  go_wp2
  go_loop [6] (fun i => ∃ k : Nat, k ≤ s.size ∧ i = .int .i64 k ∧ plainB (s.data.toList.take k) = true) (fun i => s.size - (intOf i).toNat)
  case atStart => exact ⟨0, Nat.zero_le _, rfl, rfl⟩
  case round =>
    obtain ⟨k, hk, rfl, HB0⟩ := hrel
    have HB := Lib.hid HB0
    clear HB0
    by_cases hlt : k < s.size
    · have HO := Lib.hid (okC_iff s[k])
      have HF : Hid (okC s[k] = false → plainB s.data.toList = false) := Lib.hid (allB_stop okC s k hlt)
      have HT := Lib.hid (plain_snoc s k hlt HB.out)
      have hb := byteLt s[k]
      by_cases ho : okC s[k] = true
      · have h1 := (HO.out.1 ho)
        have h2 : inB (s[k].toNat : Int) 32 126 = true := inB_iff.2 ⟨h1.1, h1.2.1⟩
        have h3 : ((s[k].toNat : Int) == 35) = false := by rw [beq_eq_false_iff_ne]; exact h1.2.2
        have HT := Lib.hid (HT.out ho)
        clear ho h1
        go_wp2_with (first | (go_at_call 49; refine (within_any _ _ _ _).mono ?_; rintro e w' ⟨rfl, rfl⟩))
        refine ⟨⟨k + 1, by omega, by go_num, HT.out⟩, by simp [intOf]; omega⟩
      · have HN := Lib.hid (HF.out (Bool.eq_false_iff.2 ho))
        have HO := Lib.hid ((fun h => ho (HO.out.2 h)) : ¬ (32 ≤ (s[k].toNat : Int) ∧ (s[k].toNat : Int) ≤ 126 ∧ ¬ (s[k].toNat : Int) = 35))
        clear ho HF
        by_cases h2 : inB (s[k].toNat : Int) 32 126 = true
        · have h3 : ((s[k].toNat : Int) == 35) = true := by
            rw [beq_iff_eq]
            have := inB_iff.1 h2
            exact Classical.byContradiction fun h => HO.out ⟨this.1, this.2, h⟩
          go_wp2_with (first | (go_at_call 49; refine (within_any _ _ _ _).mono ?_; rintro e w' ⟨rfl, rfl⟩))
          go_ret
          exact ⟨ret_bool (by rw [HN.out]), rfl⟩
        · have h2 : inB (s[k].toNat : Int) 32 126 = false := Bool.eq_false_iff.2 h2
          go_wp2_with (first | (go_at_call 49; refine (within_any _ _ _ _).mono ?_; rintro e w' ⟨rfl, rfl⟩))
          go_ret
          exact ⟨ret_bool (by rw [HN.out]), rfl⟩
    · go_wp2
      go_ret
      exact ⟨ret_bool (by rw [← takeAllB s k hlt, HB.out]), rfl⟩

end Go.Proofs.YtmnohickmidfkaaDoor
