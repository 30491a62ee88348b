import Derived.Test.YtdgcohoneijleaaGreatBase
import Derived.Test.YtdgcohoneijleaaGreatP
namespace Go.Proofs.YtdgcohoneijleaaGreat
open Go.RowKit

set_option maxHeartbeats 400000 in
theorem l1Least_any (a b : Int) (w : World) :
    Calls Tryz.prog 39 #[.int .i64 a, .int .i64 b] w fun e w' => e = .returned (.int .i64 (min a b)) ∧ w = w' := by
  by_cases h : a < b
  all_goals
    go_enter Tryz.func39, Tryz.ntmps39
    go_wp2
    go_ret
    exact ⟨ret_int (by omega), rfl⟩
end Go.Proofs.YtdgcohoneijleaaGreat

namespace Go.Proofs.YtdgcohoneijleaaGreat
open Go.RowKit

set_option maxHeartbeats 400000 in
theorem within_any (x a b : Int) (w : World) :
    Calls Tryz.prog 17 #[.int .i64 x, .int .i64 a, .int .i64 b] w fun e w' => e = .returned (.bool (inB x a b)) ∧ w = w' := by
  by_cases h1 : a ≤ x <;> by_cases h2 : x ≤ b
  all_goals
    have H : Hid (inB x a b = (decide (a ≤ x) && decide (x ≤ b))) := rfl
    go_enter Tryz.func17, Tryz.ntmps17
    go_wp2
    go_ret
    exact ⟨ret_bool (by rw [H.out]; simp [h1, h2]), rfl⟩

set_option maxHeartbeats 400000 in
theorem isItems_any (x : Int) (w : World) :
    Calls Tryz.prog 30 #[.int .i64 x] w fun e w' => e = .returned (.bool (inB x 1 8)) ∧ w = w' := by
  go_enter Tryz.func30, Tryz.ntmps30
  go_wp2_with (go_at_call 17; refine (within_any _ _ _ _).mono ?_; rintro e w' ⟨rfl, rfl⟩)
  go_ret
  exact ⟨rfl, rfl⟩

set_option maxHeartbeats 400000 in
theorem isPolicy_any (x : Int) (w : World) :
    Calls Tryz.prog 31 #[.int .i64 x] w fun e w' => e = .returned (.bool (inB x 1 7)) ∧ w = w' := by
  go_enter Tryz.func31, Tryz.ntmps31
  go_wp2_with (go_at_call 17; refine (within_any _ _ _ _).mono ?_; rintro e w' ⟨rfl, rfl⟩)
  go_ret
  exact ⟨rfl, rfl⟩

set_option maxHeartbeats 400000 in
theorem isSize_any (x : Int) (w : World) :
    Calls Tryz.prog 32 #[.int .i64 x] w fun e w' => e = .returned (.bool (inB x 1 6)) ∧ w = w' := by
  go_enter Tryz.func32, Tryz.ntmps32
  go_wp2_with (go_at_call 17; refine (within_any _ _ _ _).mono ?_; rintro e w' ⟨rfl, rfl⟩)
  go_ret
  exact ⟨rfl, rfl⟩

set_option maxRecDepth 100000 in
set_option maxHeartbeats 400000 in
theorem IndexFunc_any (A : Nat → Prop) (v : Value) (l : List Int) (w : World) (h : RI A w v l) (f : FuncId) (c0 : Value) (p : Int → Bool)
    (hcf : ∀ x (w : World), (callFunc f #[.int .i64 x, c0]).run Tryz.prog w = .ok (.enter f #[.int .i64 x, c0]) w)
    (hp : ∀ x, x ∈ l → Calls Tryz.prog f #[.int .i64 x, c0] w fun e w' => e = .returned (.bool (p x)) ∧ w = w') :
    Calls Tryz.prog 88 #[v, .func (.func f) #[] #[c0]] w fun e w' => e = .returned (.int .i64 (idxF l p)) ∧ w = w' := by
  obtain ⟨a, cap, rfl, hcap, hmax, hlen, _, hc⟩ := h
  have HP := Lib.hid hp
  clear hp
  go_enter Tryz.func88, Tryz.ntmps88
  go_wp2
  go_loop [4, 8] (fun r i => ∃ k : Nat, k ≤ l.length ∧ i = .int .i64 k ∧ r = .int .i64 0 ∧ (l.take k).any p = false) (fun _ i => l.length - (intOf i).toNat)
  case atStart => exact ⟨0, Nat.zero_le _, rfl, rfl, rfl⟩
  case round =>
    obtain ⟨k, hk, rfl, rfl, hh⟩ := hrel
    have H := Lib.hid hh
    clear hh
    by_cases hlt : k < l.length
    · obtain ⟨b, off, rfl, _, _, hcell⟩ := hc (by intro e; simp [e] at hlt)
      have hck := hcell k hlt
      have hs := Lib.hid (any_snoc l p k hlt)
      have ht := Lib.hid (idxF_hit l p k hlt)
      have hm : l[k] ∈ l := List.getElem_mem hlt
      go_wp2_with fail
      refine (HP.out _ hm).mono ?_
      rintro e w' ⟨rfl, rfl⟩
      go_wp2
      · go_ret
        have h : p l[k] = true := by assumption
        exact ⟨ret_int (ht.out h H.out).symm, rfl⟩
      · have h : p l[k] = false := by assumption
        go_round
        case rel => exact ⟨k + 1, by omega, by go_num, rfl, by rw [hs.out, H.out, h]; rfl⟩
        case measure => simp [intOf]; omega
    · have hkl : k = l.length := by omega
      go_wp2
      go_ret
      subst hkl
      exact ⟨ret_int (by have := H.out; rw [List.take_length] at this; exact (idxF_none l p this).symm), rfl⟩

set_option maxRecDepth 100000 in
set_option maxHeartbeats 400000 in
theorem ContainsFunc_any (A : Nat → Prop) (v : Value) (l : List Int) (w : World) (h : RI A w v l) (f : FuncId) (c0 : Value) (p : Int → Bool)
    (hcf : ∀ x (w : World), (callFunc f #[.int .i64 x, c0]).run Tryz.prog w = .ok (.enter f #[.int .i64 x, c0]) w)
    (hp : ∀ x, x ∈ l → Calls Tryz.prog f #[.int .i64 x, c0] w fun e w' => e = .returned (.bool (p x)) ∧ w = w') :
    Calls Tryz.prog 68 #[v, .func (.func f) #[] #[c0]] w fun e w' => e = .returned (.bool (l.any p)) ∧ w = w' := by
  have hge := idxF_ge l p
  have H := Lib.hid hge
  have HP := Lib.hid hp
  clear hge hp
  have HC := Lib.hid hcf
  clear hcf
  go_enter Tryz.func68, Tryz.ntmps68
  go_wp2_with fail
  refine (IndexFunc_any A v l w h f c0 p HC.out HP.out).mono ?_
  rintro e w' ⟨rfl, rfl⟩
  go_wp2_with fail
  go_ret
  exact ⟨ret_bool H.out, rfl⟩

theorem cfBelow (x : Int) (c0 : Value) (w : World) : (callFunc 69 #[.int .i64 x, c0]).run Tryz.prog w = .ok (.enter 69 #[.int .i64 x, c0]) w := by kernel_rfl
set_option maxHeartbeats 400000 in
theorem areBelow1_any (x n : Int) (b : Nat) (w : World) (h : w.cell? ⟨b, 0, none⟩ = some (.int .i64 n)) (hn : -9223372036854775807 ≤ n) (hn' : n ≤ 9223372036854775807) :
    Calls Tryz.prog 69 #[.int .i64 x, .pointer (some ⟨b, 0, none⟩)] w fun e w' => e = .returned (.bool (!inB x 0 (n - 1))) ∧ w = w' := by
  go_enter Tryz.func69, Tryz.ntmps69
  go_wp2_with (go_at_call 17; refine (within_any _ _ _ _).mono ?_; rintro e w' ⟨rfl, rfl⟩)
  go_ret
  exact ⟨rfl, rfl⟩

theorem belowB_any (n : Int) (l : List Int) : (!l.any fun x => !inB x 0 (n - 1)) = belowB n l := by
  unfold belowB
  induction l with
  | nil => rfl
  | cons a l ih => simp only [List.any_cons, List.all_cons, Bool.not_or, Bool.not_not, ih]
set_option maxHeartbeats 400000 in
theorem areBelow_any (A : Nat → Prop) (v : Value) (l : List Int) (n : Int) (w : World) (h : RI A w v l) (hn : -9223372036854775807 ≤ n) (hn' : n ≤ 9223372036854775807) :
    Calls Tryz.prog 44 #[.int .i64 n, v] w (Ret fun v' w' => v' = .bool (belowB n l) ∧ Chg No w w') := by
  have H := Lib.hid (belowB_any n l)
  go_enter Tryz.func44, Tryz.ntmps44
  go_wp2_with fail
  refine (ContainsFunc_any A v l _ (h.keep ((Chg.refl No w).alloc _)) _ _ (fun x => !inB x 0 (n - 1)) (fun x w => cfBelow x _ w) (fun x _ => areBelow1_any x n _ _ (by rw [World.cell?_alloc_new]; rfl) hn hn')).mono ?_
  rintro e w1 ⟨rfl, rfl⟩
  go_wp2_with fail
  go_ret
  exact ⟨_, rfl, by rw [H.out]; rfl, (Chg.refl No w).alloc _⟩

set_option maxHeartbeats 400000 in
theorem IsRequests_any (A : Nat → Prop) (v : Value) (l : List Int) (n : Int) (w : World) (h : RI A w v l) :
    Calls Tryz.prog 22 #[.int .i64 n, v] w (Ret fun v' w' => v' = .bool (inB n 1 8 && decide (l.length ≤ 60) && belowB n l) ∧ Chg No w w') := by
  have h' := h
  obtain ⟨a, cap, rfl, hcap, hmax, hlen, _, hc⟩ := h
  clear hc
  go_enter Tryz.func22, Tryz.ntmps22
  by_cases h8 : inB n 1 8 = true
  · have hb := inB_iff.1 h8
    by_cases h60 : l.length ≤ 60
    · go_wp2_with (first | (go_at_call 30; refine (isItems_any _ _).mono ?_; rintro e w' ⟨rfl, rfl⟩) | (go_at_call 44; refine (areBelow_any _ _ _ _ _ h' (by omega) (by omega)).mono ?_; rintro e w' ⟨v', rfl, rfl, hch⟩))
      go_ret
      exact ⟨_, rfl, by simp [*], hch⟩
    · go_wp2_with (first | (go_at_call 30; refine (isItems_any _ _).mono ?_; rintro e w' ⟨rfl, rfl⟩))
      go_ret
      exact ⟨_, rfl, by simp [*], Chg.refl _ _⟩
  · have h8 : inB n 1 8 = false := by simpa using h8
    go_wp2_with (first | (go_at_call 30; refine (isItems_any _ _).mono ?_; rintro e w' ⟨rfl, rfl⟩))
    go_ret
    exact ⟨_, rfl, by simp [*], Chg.refl _ _⟩

set_option maxHeartbeats 400000 in
theorem Index_any (A : Nat → Prop) (v : Value) (l : List Int) (n : Int) (w : World) (h : RI A w v l) :
    Calls Tryz.prog 59 #[v, .int .i64 n] w fun e w' => e = .returned (.int .i64 (atI l n)) ∧ w = w' := by
  obtain ⟨a, cap, rfl, hcap, hmax, hlen, _, hc⟩ := h
  go_enter Tryz.func59, Tryz.ntmps59
  go_wp2
  go_loop [4, 8] (fun r i => ∃ k : Nat, k ≤ l.length ∧ i = .int .i64 k ∧ r = .int .i64 0 ∧ hasB (l.take k) n = false) (fun _ i => l.length - (intOf i).toNat)
  case atStart => exact ⟨0, Nat.zero_le _, rfl, rfl, rfl⟩
  case round =>
    obtain ⟨k, hk, rfl, rfl, hh⟩ := hrel
    have H := Lib.hid hh
    clear hh
    by_cases hlt : k < l.length
    · obtain ⟨b, off, rfl, _, _, hcell⟩ := hc (by intro e; simp [e] at hlt)
      have hck := hcell k hlt
      have hs := Lib.hid (hasB_snoc l n k hlt)
      have ht := Lib.hid (atI_hit l n k hlt)
      go_wp2
      · go_ret
        have h : (n == l[k]) = true := by assumption
        exact ⟨ret_int (ht.out (beq_iff_eq.1 h).symm H.out).symm, rfl⟩
      · have h : (n == l[k]) = false := by assumption
        go_round
        case rel => exact ⟨k + 1, by omega, by go_num, rfl, by rw [hs.out, H.out, BEq.comm, h]; rfl⟩
        case measure => simp [intOf]; omega
    · have hkl : k = l.length := by omega
      go_wp2
      go_ret
      subst hkl
      exact ⟨ret_int (by have := H.out; rw [List.take_length] at this; exact (atI_none l n this).symm), rfl⟩
end Go.Proofs.YtdgcohoneijleaaGreat
