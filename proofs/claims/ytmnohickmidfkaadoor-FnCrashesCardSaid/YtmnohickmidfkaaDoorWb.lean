import Derived.Test.YtmnohickmidfkaaDoorWa
/- the draws' choices -/
namespace Go.Proofs.YtmnohickmidfkaaDoor
open Go.RowKit

set_option maxRecDepth 100000 in
set_option maxHeartbeats 2000000 in
theorem pick_any (b B K : Nat) (n : Int) (w : World) (h : Cur w b B K) (hK : K ≤ 1000000000) (hn : n ≤ 1099511627776) :
    Calls Tryd.prog 59 #[.pointer (some ⟨b, 0, none⟩), .int .i64 n] w fun e w' => ∃ r : Int, e = .returned (.int .i64 r) ∧ 0 ≤ r ∧ (1 < n → r < n) ∧ (n ≤ 1 → r = 0) ∧ Cur w' b B (K + 2) ∧ Chg (fun q => q = b) w w' := by
  by_cases h1 : n ≤ 1
  · go_enter Tryd.func59, Tryd.ntmps59
    go_wp2_with fail
    go_ret
    exact ⟨0, rfl, Int.le_refl _, fun h => absurd h (by omega), fun _ => rfl, h.more (by omega), Chg.refl _ w⟩
  · have hn0 : ¬ n = 0 := by omega
    have q1 := Lib.hid (next_any b B K w h (by omega))
    have q2 := Lib.hid (fun W (hW : Cur W b B (K + 1)) => next_any b B (K + 1) W hW (by omega))
    by_cases h2 : 200 < n
    · go_enter Tryd.func59, Tryd.ntmps59
      go_wp2_with (go_at_call 76; first | (with_reducible refine (q1.out).mono ?_; rintro e w1 ⟨x, rfl, hx0, hx1, hc1, hk1⟩; have hw1 : IntKind.i64.wrap (x * 256) = x * 256 := IntWalk.i64_in _ (by omega)) | (refine (q2.out _ hc1).mono ?_; rintro e w2 ⟨y, rfl, hy0, hy1, hc2, hk2⟩; have hw2 : IntKind.i64.wrap (x * 256 + y) = x * 256 + y := IntWalk.i64_in _ (by omega); have ht := Int.tmod_eq_emod_of_nonneg (a := x * 256 + y) (b := n) (by omega); have hm0 := Int.emod_nonneg (x * 256 + y) hn0; have hm1 := Int.emod_lt_of_pos (x * 256 + y) (show 0 < n by omega); have hw3 : IntKind.i64.wrap ((x * 256 + y) % n) = (x * 256 + y) % n := IntWalk.i64_in _ (by omega)))
      go_ret
      exact ⟨_, rfl, hm0, fun _ => hm1, fun h => by omega, hc2, hk1.trans hk2⟩
    · go_enter Tryd.func59, Tryd.ntmps59
      go_wp2_with (go_at_call 76; refine (q1.out).mono ?_; rintro e w1 ⟨x, rfl, hx0, hx1, hc1, hk1⟩; have ht := Int.tmod_eq_emod_of_nonneg (a := x) (b := n) (by omega); have hm0 := Int.emod_nonneg x hn0; have hm1 := Int.emod_lt_of_pos x (show 0 < n by omega); have hw3 : IntKind.i64.wrap (x % n) = x % n := IntWalk.i64_in _ (by omega))
      go_ret
      exact ⟨_, rfl, hm0, fun _ => hm1, fun h => by omega, hc1.more (by omega), hk1⟩

set_option maxRecDepth 100000 in
theorem one_any (b B K : Nat) (n : Int) (w : World) (h : Cur w b B K) (hK : K ≤ 1000000000) (hn : n ≤ 1099511627776) :
    Calls Tryd.prog 58 #[.pointer (some ⟨b, 0, none⟩), .int .i64 n] w fun e w' => ∃ r : Bool, e = .returned (.bool r) ∧ Cur w' b B (K + 2) ∧ Chg (fun q => q = b) w w' := by
  have q1 := Lib.hid (pick_any b B K n w h hK hn)
  go_enter Tryd.func58, Tryd.ntmps58
  go_wp2_with (go_at_call 59; refine (q1.out).mono ?_; rintro e w1 ⟨x, rfl, hx0, hx1, hx2, hc1, hk1⟩)
  go_ret
  exact ⟨_, rfl, hc1, hk1⟩

set_option maxRecDepth 100000 in
theorem among_any (b B K : Nat) (v : Value) (l : List Int) (w : World) (h : Cur w b B K) (hK : K ≤ 1000000000) (hv : RI (fun q => q = b) w v l) (hl : 1 ≤ l.length) (hl2 : l.length ≤ 1000) :
    Calls Tryd.prog 56 #[.pointer (some ⟨b, 0, none⟩), v] w fun e w' => ∃ r : Int, e = .returned (.int .i64 r) ∧ r ∈ l ∧ Cur w' b B (K + 2) ∧ Chg (fun q => q = b) w w' := by
  have q1 := Lib.hid (pick_any b B K l.length w h hK (by omega))
  obtain ⟨a, cap, rfl, hc1, hc2, hlen, _, hcell⟩ := id hv
  obtain ⟨cb, off, rfl, hA, hcb, hcl⟩ := hcell (fun e => by rw [e] at hl; simp at hl)
  have HCL := Lib.hid hcl
  clear hcell hcl
  go_enter Tryd.func56, Tryd.ntmps56
  go_wp2_with (go_at_call 59; refine (q1.out).mono ?_; rintro e w1 ⟨x, rfl, hx0, hx1, hx2, hc1, hk1⟩; have hxl : x < (l.length : Int) := (by by_cases h1 : 1 < (l.length : Int) <;> omega); have hx := HCL.out x.toNat (by omega); have hx' := (hk1.cellD cb (off + x.toNat) hcb hA).trans hx; obtain ⟨y, hy⟩ : ∃ y, l.getD x.toNat 0 = y := ⟨_, rfl⟩; rw [hy] at hx'; have HY := Lib.hid hy; clear hy hx)
  go_ret
  refine ⟨y, rfl, ?_, hc1, hk1⟩
  rw [← HY.out, List.getD_eq_getElem?_getD, List.getElem?_eq_getElem (by omega : x.toNat < l.length)]
  exact List.getElem_mem _

set_option maxRecDepth 100000 in
theorem of_any (b B K : Nat) (v : Value) (n : Nat) (cs : List Value) (w : World) (h : Cur w b B K) (hK : K ≤ 1000000000) (hv : RF (fun q => q = b) w v 1 n cs) (hn : 1 ≤ n) (hn2 : n ≤ 1000) (hs : ∀ x ∈ cs, ∃ l : List UInt8, x = .string ⟨l.toArray⟩ ∧ l.length ≤ 64) :
    Calls Tryd.prog 75 #[.pointer (some ⟨b, 0, none⟩), v] w fun e w' => ∃ l : List UInt8, e = .returned (.string ⟨l.toArray⟩) ∧ l.length ≤ 64 ∧ Cur w' b B (K + 2) ∧ Chg (fun q => q = b) w w' := by
  have q1 := Lib.hid (pick_any b B K n w h hK (by omega))
  obtain ⟨a, cap, rfl, hc1, hc2, hlen, _, hcell⟩ := id hv
  obtain ⟨cb, off, rfl, hA, hcb, hcl⟩ := hcell (by omega)
  have HCL := Lib.hid hcl
  have HS := Lib.hid hs
  have HLN := Lib.hid hlen
  clear hcell hcl hs hlen
  go_enter Tryd.func75, Tryd.ntmps75
  go_wp2_with (go_at_call 59; refine (q1.out).mono ?_; rintro e w1 ⟨x, rfl, hx0, hx1, hx2, hc1, hk1⟩; have hxl : x < (n : Int) := (by by_cases h1 : 1 < (n : Int) <;> omega); have hln := HLN.out; have hx := HCL.out x.toNat (by omega); have hx' := (hk1.cellD cb (off + x.toNat) hcb hA).trans hx; have hm : cs.getD x.toNat undef ∈ cs := (by rw [List.getD_eq_getElem?_getD, List.getElem?_eq_getElem (by omega : x.toNat < cs.length)]; exact List.getElem_mem _); obtain ⟨l, hl, hl2⟩ := HS.out _ hm; rw [hl] at hx'; clear hm hx hl)
  go_ret
  exact ⟨l, rfl, hl2, hc1, hk1⟩
end Go.Proofs.YtmnohickmidfkaaDoor
