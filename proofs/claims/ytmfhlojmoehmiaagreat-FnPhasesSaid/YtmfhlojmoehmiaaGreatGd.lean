import Derived.Test.YtmfhlojmoehmiaaGreatSo
import Derived.Test.YtmfhlojmoehmiaaGreatQv
import Derived.Test.YtmfhlojmoehmiaaGreatL
/- whether a Cache is valid, both sides -/
namespace Go.Proofs.YtmfhlojmoehmiaaGreat
open Go.RowKit

theorem all_snoc (l : List Int) (p : Int → Bool) (k : Nat) (h : k < l.length) : (l.take (k + 1)).all p = ((l.take k).all p && p l[k]) := by
  rw [List.take_succ_eq_append_getElem h, List.all_append]; simp
theorem all_stop (l : List Int) (p : Int → Bool) (k : Nat) (h : k < l.length) (hk : p l[k] = false) : l.all p = false := by
  rw [List.all_eq_false]; exact ⟨l[k], List.getElem_mem h, by simp [hk]⟩
theorem len0 (n : Nat) : ((n : Int) == 0) = decide (n = 0) := by
  by_cases h : n = 0
  · simp [h]
  · have : ¬ (n : Int) = 0 := by omega
    simp [h]
theorem marksB_5 {c : Ca} (h : c.pol = 5) : marksB c = (decide (c.marks.length = c.pages.length) && c.marks.all fun m => inB m 1 60) := by unfold marksB; rw [if_pos h]
theorem marksB_6 {c : Ca} (h : c.pol = 6) : marksB c = (decide (c.marks.length = c.pages.length) && c.marks.all fun m => inB m 0 1) := by unfold marksB; rw [if_neg (by omega), if_pos h]
theorem marksB_no {c : Ca} (h5 : c.pol ≠ 5) (h6 : c.pol ≠ 6) : marksB c = decide (c.marks.length = 0) := by unfold marksB; rw [if_neg h5, if_neg h6]

set_option maxRecDepth 100000 in
set_option maxHeartbeats 400000 in
theorem IndexFunc2_any (A : Nat → Prop) (v : Value) (l : List Int) (w : World) (h : RI A w v l) (f : FuncId) (c0 c1 : Value) (p : Int → Bool)
    (hcf : ∀ x (w : World), (callFunc f #[.int .i64 x, c0, c1]).run Tryz.prog w = .ok (.enter f #[.int .i64 x, c0, c1]) w)
    (hp : ∀ x, x ∈ l → Calls Tryz.prog f #[.int .i64 x, c0, c1] w fun e w' => e = .returned (.bool (p x)) ∧ w = w') :
    Calls Tryz.prog 168 #[v, .func (.func f) #[] #[c0, c1]] w fun e w' => e = .returned (.int .i64 (idxF l p)) ∧ w = w' := by
  obtain ⟨a, cap, rfl, hcap, hmax, hlen, _, hc⟩ := h
  have HP := Lib.hid hp
  clear hp
  go_enter Tryz.func168, Tryz.ntmps168
  go_wp2
  go_loop [4, 8] (fun r i => ∃ k : Nat, k ≤ l.length ∧ i = .int .i64 k ∧ r = .int .i64 0 ∧ (l.take k).any p = false) (fun _ i => l.length - (intOf i).toNat)
  case atStart => exact ⟨0, Nat.zero_le _, rfl, rfl, rfl⟩
  case round =>
    obtain ⟨k, hk, rfl, rfl, hh⟩ := hrel
    have H := Lib.hid hh
    clear hh
    by_cases hlt : k < l.length
    · obtain ⟨b, off, rfl, _, _, hcell⟩ := hc (by intro e; simp [e] at hlt)
      have hck := hcell k hlt
      have hs := Lib.hid (any_snoc l p k hlt)
      have ht := Lib.hid (idxF_hit l p k hlt)
      have hm : l[k] ∈ l := List.getElem_mem hlt
      go_wp2_with fail
      refine (HP.out _ hm).mono ?_
      rintro e w' ⟨rfl, rfl⟩
      go_wp2
      · go_ret
        have h : p l[k] = true := by assumption
        exact ⟨ret_int (ht.out h H.out).symm, rfl⟩
      · have h : p l[k] = false := by assumption
        go_round
        case rel => exact ⟨k + 1, by omega, by go_num, rfl, by rw [hs.out, H.out, h]; rfl⟩
        case measure => simp [intOf]; omega
    · have hkl : k = l.length := by omega
      go_wp2
      go_ret
      subst hkl
      exact ⟨ret_int (by have := H.out; rw [List.take_length] at this; exact (idxF_none l p this).symm), rfl⟩

set_option maxRecDepth 100000 in
set_option maxHeartbeats 400000 in
theorem ContainsFunc2_any (A : Nat → Prop) (v : Value) (l : List Int) (w : World) (h : RI A w v l) (f : FuncId) (c0 c1 : Value) (p : Int → Bool)
    (hcf : ∀ x (w : World), (callFunc f #[.int .i64 x, c0, c1]).run Tryz.prog w = .ok (.enter f #[.int .i64 x, c0, c1]) w)
    (hp : ∀ x, x ∈ l → Calls Tryz.prog f #[.int .i64 x, c0, c1] w fun e w' => e = .returned (.bool (p x)) ∧ w = w') :
    Calls Tryz.prog 103 #[v, .func (.func f) #[] #[c0, c1]] w fun e w' => e = .returned (.bool (l.any p)) ∧ w = w' := by
  have hge := idxF_ge l p
  have H := Lib.hid hge
  have HP := Lib.hid hp
  clear hge hp
  have HC := Lib.hid hcf
  clear hcf
  go_enter Tryz.func103, Tryz.ntmps103
  go_wp2_with fail
  refine (IndexFunc2_any A v l w h f c0 c1 p HC.out HP.out).mono ?_
  rintro e w' ⟨rfl, rfl⟩
  go_wp2_with fail
  go_ret
  exact ⟨ret_bool H.out, rfl⟩
end Go.Proofs.YtmfhlojmoehmiaaGreat
