import Derived.Test.YtfdmghohmohmpaaBase
import Derived.Test.YtfdmghohmohmpaaP
namespace Go.Proofs.Ytfdmghohmohmpaa
open Go.RowKit

set_option maxHeartbeats 400000 in
theorem l1In_any (x a b : Int) (w : World) :
    Calls Try.prog 70 #[.int .i64 x, .int .i64 a, .int .i64 b] w fun e w' => e = .returned (.bool (inB x a b)) ∧ w = w' := by
  by_cases h1 : a ≤ x <;> by_cases h2 : x ≤ b
  all_goals
    have H : Hid (inB x a b = (decide (a ≤ x) && decide (x ≤ b))) := rfl
    go_enter Try.func70, Try.ntmps70
    go_wp2
    go_ret
    exact ⟨ret_bool (by rw [H.out]; simp [h1, h2]), rfl⟩

set_option maxHeartbeats 400000 in
theorem l3Items_any (x : Int) (w : World) :
    Calls Try.prog 45 #[.int .i64 x] w fun e w' => e = .returned (.bool (inB x 1 8)) ∧ w = w' := by
  go_enter Try.func45, Try.ntmps45
  go_wp2_with (go_at_call 70; refine (l1In_any _ _ _ _).mono ?_; rintro e w' ⟨rfl, rfl⟩)
  go_ret
  exact ⟨rfl, rfl⟩

set_option maxHeartbeats 400000 in
theorem l1Has_any (A : Nat → Prop) (v : Value) (l : List Int) (n : Int) (w : World) (h : RI A w v l) :
    Calls Try.prog 51 #[v, .int .i64 n] w fun e w' => e = .returned (.bool (hasB l n)) ∧ w = w' := by
  obtain ⟨a, cap, rfl, hcap, hmax, hlen, _, hc⟩ := h
  go_enter Try.func51, Try.ntmps51
  go_wp2
  go_loop [4, 5] (fun r i => ∃ k : Nat, k ≤ l.length ∧ i = .int .i64 k ∧ r = .bool false ∧ hasB (l.take k) n = false) (fun _ i => l.length - (intOf i).toNat)
  case atStart => exact ⟨0, Nat.zero_le _, rfl, rfl, rfl⟩
  case round =>
    obtain ⟨k, hk, rfl, rfl, hh⟩ := hrel
    have H := Lib.hid hh
    clear hh
    by_cases hlt : k < l.length
    · obtain ⟨b, off, rfl, _, _, hcell⟩ := hc (by intro e; simp [e] at hlt)
      have hck := hcell k hlt
      have hs := Lib.hid (hasB_snoc l n k hlt)
      go_wp2
      · go_ret
        have h : (l[k] == n) = true := by assumption
        have h1 : hasB l n = true := by
          unfold hasB
          rw [List.contains_iff_mem, ← beq_iff_eq.1 h]
          exact List.getElem_mem hlt
        exact ⟨ret_bool h1.symm, rfl⟩
      · have h : (l[k] == n) = false := by assumption
        go_round
        case rel => exact ⟨k + 1, by omega, by go_num, rfl, by rw [hs.out, H.out, h]; rfl⟩
        case measure => simp [intOf]; omega
    · have hkl : k = l.length := by omega
      go_wp2
      go_ret
      subst hkl
      exact ⟨ret_bool (by have := H.out; rw [List.take_length] at this; exact this.symm), rfl⟩

set_option maxHeartbeats 400000 in
theorem l3List_any (A : Nat → Prop) (v : Value) (l : List Int) (n : Int) (w : World) (h : RI A w v l) (hn : -9223372036854775807 ≤ n) (hn' : n ≤ 9223372036854775807) :
    Calls Try.prog 46 #[.int .i64 n, v] w fun e w' => e = .returned (.bool (belowB n l)) ∧ w = w' := by
  obtain ⟨a, cap, rfl, hcap, hmax, hlen, _, hc⟩ := h
  go_enter Try.func46, Try.ntmps46
  go_wp2
  go_loop [4, 5] (fun r i => ∃ k : Nat, k ≤ l.length ∧ i = .int .i64 k ∧ r = .bool false ∧ belowB n (l.take k) = true) (fun _ i => l.length - (intOf i).toNat)
  case atStart => exact ⟨0, Nat.zero_le _, rfl, rfl, rfl⟩
  case round =>
    obtain ⟨k, hk, rfl, rfl, hh⟩ := hrel
    have H := Lib.hid hh
    clear hh
    by_cases hlt : k < l.length
    · obtain ⟨b, off, rfl, _, _, hcell⟩ := hc (by intro e; simp [e] at hlt)
      have hck := hcell k hlt
      have hs := Lib.hid (belowB_snoc n l k hlt)
      have ht := Lib.hid (belowB_stop n l k hlt)
      go_wp2_with (go_at_call 70; refine (l1In_any _ _ _ _).mono ?_; rintro e w' ⟨rfl, rfl⟩)
      · go_ret
        have h : (!inB l[k] 0 (n - 1)) = true := by assumption
        have h : inB l[k] 0 (n - 1) = false := by simpa using h
        exact ⟨ret_bool (ht.out h).symm, rfl⟩
      · have h : (!inB l[k] 0 (n - 1)) = false := by assumption
        have h : inB l[k] 0 (n - 1) = true := by simpa using h
        go_round
        case rel => exact ⟨k + 1, by omega, by go_num, rfl, by rw [hs.out, H.out, h]; rfl⟩
        case measure => simp [intOf]; omega
    · have hkl : k = l.length := by omega
      go_wp2
      go_ret
      subst hkl
      exact ⟨ret_bool (by have := H.out; rw [List.take_length] at this; exact this.symm), rfl⟩

set_option maxHeartbeats 400000 in
theorem l3Good_any (A : Nat → Prop) (v : Value) (l : List Int) (n : Int) (w : World) (h : RI A w v l) :
    Calls Try.prog 25 #[.int .i64 n, v] w fun e w' => e = .returned (.bool (inB n 1 8 && decide (l.length ≤ 60) && belowB n l)) ∧ w = w' := by
  have h' := h
  obtain ⟨a, cap, rfl, hcap, hmax, hlen, _, hc⟩ := h
  go_enter Try.func25, Try.ntmps25
  by_cases h8 : inB n 1 8 = true
  · have hb := inB_iff.1 h8
    by_cases h60 : l.length ≤ 60
    · go_wp2_with (first | (go_at_call 45; refine (l3Items_any _ _).mono ?_; rintro e w' ⟨rfl, rfl⟩) | (go_at_call 46; refine (l3List_any _ _ _ _ _ h' (by omega) (by omega)).mono ?_; rintro e w' ⟨rfl, rfl⟩))
      go_ret
      exact ⟨ret_bool (by simp [*]), rfl⟩
    · go_wp2_with (first | (go_at_call 45; refine (l3Items_any _ _).mono ?_; rintro e w' ⟨rfl, rfl⟩) | (go_at_call 46; refine (l3List_any _ _ _ _ _ h' (by omega) (by omega)).mono ?_; rintro e w' ⟨rfl, rfl⟩))
      go_ret
      exact ⟨ret_bool (by simp [*]), rfl⟩
  · have h8 : inB n 1 8 = false := by simpa using h8
    go_wp2_with (first | (go_at_call 45; refine (l3Items_any _ _).mono ?_; rintro e w' ⟨rfl, rfl⟩) | (go_at_call 46; refine (l3List_any _ _ _ _ _ h' (by omega) (by omega)).mono ?_; rintro e w' ⟨rfl, rfl⟩))
    go_ret
    exact ⟨ret_bool (by simp [*]), rfl⟩

set_option maxHeartbeats 400000 in
theorem l1Least_any (a b : Int) (w : World) :
    Calls Try.prog 66 #[.int .i64 a, .int .i64 b] w fun e w' => e = .returned (.int .i64 (min a b)) ∧ w = w' := by
  by_cases h : a < b
  all_goals
    go_enter Try.func66, Try.ntmps66
    go_wp2
    go_ret
    exact ⟨ret_int (by omega), rfl⟩
end Go.Proofs.Ytfdmghohmohmpaa
