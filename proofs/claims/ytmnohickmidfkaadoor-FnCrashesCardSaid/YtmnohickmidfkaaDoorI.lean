import Derived.Test.YtmnohickmidfkaaDoorA
namespace Go.Proofs.YtmnohickmidfkaaDoor
open Go.RowKit

set_option maxHeartbeats 400000 in
theorem within_any (x a b : Int) (w : World) :
    Calls Tryd.prog 49 #[.int .i64 x, .int .i64 a, .int .i64 b] w fun e w' => e = .returned (.bool (inB x a b)) ∧ w = w' := by
  by_cases h1 : a ≤ x <;> by_cases h2 : x ≤ b
  all_goals
    have H : Hid (inB x a b = (decide (a ≤ x) && decide (x ≤ b))) := rfl
    go_enter Tryd.func49, Tryd.ntmps49
    go_wp2
    go_ret
    exact ⟨ret_bool (by rw [H.out]; simp [h1, h2]), rfl⟩

set_option maxHeartbeats 400000 in
theorem Index_any (A : Nat → Prop) (v : Value) (l : List Int) (n : Int) (w : World) (h : RI A w v l) :
    Calls Tryd.prog 80 #[v, .int .i64 n] w fun e w' => e = .returned (.int .i64 (atI l n)) ∧ w = w' := by
  obtain ⟨a, cap, rfl, hcap, hmax, hlen, _, hc⟩ := h
  go_enter Tryd.func80, Tryd.ntmps80
  go_wp2
  go_loop [4, 8] (fun r i => ∃ k : Nat, k ≤ l.length ∧ i = .int .i64 k ∧ r = .int .i64 0 ∧ hasB (l.take k) n = false) (fun _ i => l.length - (intOf i).toNat)
  case atStart => exact ⟨0, Nat.zero_le _, rfl, rfl, rfl⟩
  case round =>
    obtain ⟨k, hk, rfl, rfl, hh⟩ := hrel
    have H := Lib.hid hh
    clear hh
    by_cases hlt : k < l.length
    · obtain ⟨b, off, rfl, _, _, hcell⟩ := hc (by intro e; simp [e] at hlt)
      have hck := hcell k hlt
      have hs := Lib.hid (hasB_snoc l n k hlt)
      have ht := Lib.hid (atI_hit l n k hlt)
      go_wp2
      · go_ret
        have h : (n == l[k]) = true := by assumption
        exact ⟨ret_int (ht.out (beq_iff_eq.1 h).symm H.out).symm, rfl⟩
      · have h : (n == l[k]) = false := by assumption
        go_round
        case rel => exact ⟨k + 1, by omega, by go_num, rfl, by rw [hs.out, H.out, BEq.comm, h]; rfl⟩
        case measure => simp [intOf]; omega
    · have hkl : k = l.length := by omega
      go_wp2
      go_ret
      subst hkl
      exact ⟨ret_int (by have := H.out; rw [List.take_length] at this; exact (atI_none l n this).symm), rfl⟩
end Go.Proofs.YtmnohickmidfkaaDoor
