import Derived.Test.YtodnkkmjjlfoiaaGreatPk4
import Derived.Test.YtodnkkmjjlfoiaaGreatK
/- slices.Grow of nil, slices.Concat -/
namespace Go.Proofs.YtodnkkmjjlfoiaaGreat
open Go.RowKit

set_option maxRecDepth 100000 in
set_option maxHeartbeats 1000000 in
theorem GrowNil_any (n : Nat) (w : World) (hn : n ≤ 1048576) :
    Calls Tryz.prog 141 #[.slice none 0 0, .int .i64 (n : Int)] w (Ret fun r w' => OI w.heap.size w' r [] ∧ Chg No w w') := by
  have hn0 : (0 : Int) ≤ (n : Int) := Int.natCast_nonneg _
  have hw1 : IntKind.i64.wrap (n : Int) = (n : Int) := IntWalk.i64_in _ (by omega)
  by_cases hz : n = 0
  · subst hz
    go_enter Tryz.func141, Tryz.ntmps141
    go_wp2_with fail
    go_ret
    exact ⟨_, rfl, OI.nil _ _, Chg.refl _ _⟩
  · obtain ⟨i, hi, hz0, hz1, hz2⟩ := info_parts Tryz.infoInt
    have hpos : (0 : Int) < (n : Int) := by omega
    have hr := fun ty => Lib.run_append_nil_zeros (P := Tryz.prog) w 23 3 ty 3 i (.int .i64 0) .i64 .i64 Tryz.underlying23 Tryz.underlying3 hi hz0 n (by omega) (by rw [hz1]; omega) (by omega) (by rw [hz2]; omega)
    obtain ⟨C, hC⟩ : ∃ C, grownCap w n 0 3 = C := ⟨_, rfl⟩
    have hC1 := grownCap_ge w n 0 3
    have hC2 := grownCap_le_maxLen w n 0 3 (by unfold maxLen; omega)
    rw [hC] at hr hC1 hC2
    rw [zeros_int, zeros_int, Array.replicate_append_replicate, Nat.add_sub_of_le hC1] at hr
    have hO : OI w.heap.size (w.drew.alloc (.cells (Array.replicate C (Value.int .i64 0)) 3)) (.slice (some ⟨w.heap.size, 0, none⟩) 0 C) [] :=
      ⟨by simp, World.ownsRow_made w.drew (Array.replicate C (Value.int .i64 0)) C (Nat.le_refl _) hC2 (by simp)⟩
    have hK := (Chg.refl No w).drew.alloc (.cells (Array.replicate C (Value.int .i64 0)) 3)
    generalize w.drew.alloc (.cells (Array.replicate C (Value.int .i64 0)) 3) = W0 at hr hO hK
    have HO := Lib.hid hO
    have HK := Lib.hid hK
    unfold maxLen at hC2
    clear hO hK hz hC hz0 hz1 hz2
    go_enter Tryz.func141, Tryz.ntmps141
    go_wp2_with (at_builtin; refine Lib.wpList_append_run _ rfl (.tmp 20) (.tmp 21) _ _ rfl _ _ rfl rfl _ _ (hr _) ?_)
    go_wp2_with fail
    go_ret
    exact ⟨_, rfl, HO.out, HK.out⟩

theorem flat_succ (ll : List (List Int)) (k : Nat) (h : k < ll.length) : (ll.take (k + 1)).flatten = (ll.take k).flatten ++ ll.getD k [] := by
  rw [List.take_succ_eq_append_getElem h, List.flatten_append]
  simp [List.getD_eq_getElem?_getD, List.getElem?_eq_getElem h]
theorem tot_flat (ll : List (List Int)) : ll.flatten.length = tot ll := by
  induction ll with
  | nil => rfl
  | cons l ll ih => simp [tot, ih]
set_option maxRecDepth 100000 in
set_option maxHeartbeats 2000000 in
theorem Concat_any (v : Value) (ll : List (List Int)) (w : World) (h : RII No w v ll) (ht : tot ll ≤ 1048576) (hl : ll.length ≤ 1048576) :
    Calls Tryz.prog 99 #[v] w (Ret fun r w' => OI w.heap.size w' r ll.flatten ∧ Chg No w w') := by
  obtain ⟨_, vs, hvl, ⟨a, cap, rfl, hcap, hmax, hcl, _, hc⟩, hin⟩ := h
  have HI := Lib.hid hin
  have HV := Lib.hid hvl
  have HCL := Lib.hid hcl
  have HC := Lib.hid hc
  have HT := Lib.hid ht
  have hn0 : (0 : Int) ≤ (ll.length : Int) := Int.natCast_nonneg _
  clear hin hvl hcl hc ht
  go_enter Tryz.func99, Tryz.ntmps99
  go_wp2_with fail
  go_loopw [3, 11] (fun s z wr => ∃ k : Nat, k ≤ ll.length ∧ z = .int .i64 (k : Int) ∧ s = .int .i64 (tot (ll.take k) : Int) ∧ wr = w) (fun _ z _ => ll.length - (intOf z).toNat)
  case atStart => exact ⟨0, Nat.zero_le _, rfl, by simp [tot], rfl⟩
  case round =>
    obtain ⟨k, hk, rfl, rfl, rfl⟩ := hrel
    obtain ⟨m, hm⟩ : ∃ m, tot (ll.take k) = m := ⟨_, rfl⟩
    rw [hm]
    have hk0 : (0 : Int) ≤ (k : Int) := Int.natCast_nonneg _
    have hm0 : (0 : Int) ≤ (m : Int) := Int.natCast_nonneg _
    by_cases hlt : k < ll.length
    · obtain ⟨b, off, rfl, _, hb, hcell⟩ := HC.out (by omega)
      have hck := hcell k (by rw [HCL.out]; omega)
      have hin := HI.out k hlt
      have hs := tot_succ ll k hlt
      have hle := tot_take ll (k + 1)
      generalize vs.getD k undef = x at hck hin
      obtain ⟨xa, xn, xc, rfl⟩ := hin.shape
      have hxn := hin.n.1
      rw [hm, ← hxn] at hs
      have hsum : m + xn ≤ 1048576 := by have := HT.out; omega
      have HS := Lib.hid hs
      have hw1 : IntKind.i64.wrap ((k : Int) + 1) = (k : Int) + 1 := IntWalk.i64_in _ (by omega)
      have hw2 : IntKind.i64.wrap ((m : Int) + (xn : Int)) = (m : Int) + (xn : Int) := IntWalk.i64_in _ (by omega)
      have hk1 : (k : Int) < (ll.length : Int) := by omega
      have hnn : ¬ (m : Int) + (xn : Int) < 0 := by omega
      clear hcell hm hs hle hin hxn
      go_wp2_with fail
      go_round
      case measure => simp [intOf]; omega
      case rel => exact ⟨k + 1, by omega, by go_num, by rw [HS.out]; exact congrArg (Value.int .i64) (by omega), by first | rfl | trivial⟩
    · have hkl : k = ll.length := by omega
      subst hkl
      rw [List.take_length] at hm
      have hm1 : m ≤ 1048576 := by have := HT.out; omega
      clear hm
      go_wp2_with fail
      refine (GrowNil_any m wr hm1).mono ?_
      rintro e w1 ⟨v1, rfl, o1, k1⟩
      go_wp2_with fail
      go_loopw [6, 27] (fun o z wq => ∃ k : Nat, k ≤ ll.length ∧ z = .int .i64 (k : Int) ∧ OI wr.heap.size wq o (ll.take k).flatten ∧ Chg No wr wq) (fun _ z _ => ll.length - (intOf z).toNat)
      case atStart => exact ⟨0, Nat.zero_le _, rfl, by simpa using o1, k1⟩
      case round =>
        clear o1 k1
        obtain ⟨k, hk, rfl, ho, kk⟩ := hrel
        have hk0 : (0 : Int) ≤ (k : Int) := Int.natCast_nonneg _
        by_cases hlt : k < ll.length
        · obtain ⟨b, off, rfl, _, hb, hcell⟩ := HC.out (by omega)
          have hck := (kk.cellD b _ hb (fun e => e)).trans (hcell k (by rw [HCL.out]; omega))
          have hin := (HI.out k hlt).keep kk
          have hs := flat_succ ll k hlt
          have hle := tot_take ll (k + 1)
          have htf := tot_flat (ll.take (k + 1))
          rw [hs, List.length_append] at htf
          generalize vs.getD k undef = x at hck hin
          obtain ⟨xa, xn, xc, rfl⟩ := hin.shape
          obtain ⟨oa, on, oc, rfl⟩ := ho.shape
          have hsum : (ll.take k).flatten.length + (ll.getD k []).length ≤ 17592186044416 := by have := HT.out; omega
          obtain ⟨lk, hlk⟩ : ∃ lk, ll.getD k [] = lk := ⟨_, rfl⟩
          rw [hlk] at hs hin hsum
          have HS := Lib.hid hs
          have HIN := Lib.hid hin
          have hw1 : IntKind.i64.wrap ((k : Int) + 1) = (k : Int) + 1 := IntWalk.i64_in _ (by omega)
          have hk1 : (k : Int) < (ll.length : Int) := by omega
          have hsz := kk.size
          obtain ⟨L, hL⟩ : ∃ L, (ll.take k).flatten = L := ⟨_, rfl⟩
          rw [hL] at ho hsum HS
          have HO := Lib.hid ho
          clear hcell hs hle hin htf hL ho hlk
          go_wp2_with (at_builtin; refine wapp rfl (.tmp 31) (.tmp 32) rfl HO.out HIN.out rfl rfl hsum hsz ?_)
          intro v7 w7 h7 k7 f7
          have hk7 := kk.step k7 (fun q e hl => by have := (HO.out.lt q e).1; omega)
          have HEND := Lib.hid (And.intro h7 hk7)
          obtain ⟨na, nn, nc, rfl⟩ := h7.shape
          clear h7 hk7 k7 f7 kk
          go_wp2_with fail
          go_round
          case measure => simp [intOf]; omega
          case rel => exact ⟨k + 1, by omega, by go_num, by rw [HS.out]; exact HEND.out.1, HEND.out.2⟩
        · have hkl : k = ll.length := by omega
          subst hkl
          rw [List.take_length] at ho
          obtain ⟨oa, on, oc, rfl⟩ := ho.shape
          go_wp2_with fail
          go_ret
          exact ⟨_, rfl, ho, kk⟩
end Go.Proofs.YtodnkkmjjlfoiaaGreat
