import Derived.Test.YtndhijckbponkaaJ
import Derived.Test.YtndhijckbponkaaT
import Derived.Test.YtndhijckbponkaaP
import Derived.Test.YtndhijckbponkaaDat
import Derived.Test.YtndhijckbponkaaShelf
import Derived.Test.YtndhijckbponkaaCd
/- lists that are the same; caches that are the same -/
namespace Go.Proofs.Ytndhijckbponkaa
open Go.RowKit

theorem drewN_chg (w : World) (n : Nat) : Chg No w (w.drewN n) := (Chg.refl No w).drewN n
theorem Equal_any (A B : Nat → Prop) (v v' : Value) (l l' : List Int) (w : World) (h : RI A w v l) (h' : RI B w v' l') :
    Calls Try.prog 82 #[v, v'] w (Ret fun r w' => r = .bool (l == l') ∧ Chg No w w') := by
  have hL := h.len
  have hL' := h'.len
  obtain ⟨a, cap, rfl, hcap, hmax, hlen, _, hc⟩ := id h
  obtain ⟨a', cap', rfl, hcap', hmax', hlen', _, hc'⟩ := id h'
  by_cases hll : l.length = l'.length
  · by_cases hl0 : l = []
    · subst hl0
      have hl' : l' = [] := List.eq_nil_of_length_eq_zero (by simpa using hll.symm)
      subst hl'
      refine (Try.slices_Equal_int_empty a a' cap 0 cap' w (by omega)).mono ?_
      rintro e w' ⟨rfl, rfl⟩
      exact ⟨_, rfl, rfl, Chg.refl _ _⟩
    · have hl0' : l' ≠ [] := fun e => hl0 (List.eq_nil_of_length_eq_zero (by rw [hll, e]; rfl))
      obtain ⟨b, off, rfl, _, _, hcell⟩ := hc hl0
      obtain ⟨b', off', rfl, _, _, hcell'⟩ := hc' hl0'
      refine (Try.slices_Equal_int b off l.length cap b' off' l'.length cap' l l' w (Nat.le_refl _) (Nat.le_refl _) (by omega) (by omega) hcell hcell').mono ?_
      rintro e w' ⟨rfl, q, rfl⟩
      exact ⟨_, rfl, by rw [List.take_length, List.take_length], drewN_chg w q⟩
  · refine (Try.slices_Equal_int_lens a a' l.length cap l'.length cap' w hll).mono ?_
    rintro e w' ⟨rfl, rfl⟩
    refine ⟨_, rfl, ?_, Chg.refl _ _⟩
    have : (l == l') = false := by rw [beq_eq_false_iff_ne]; exact fun e => hll (by rw [e])
    rw [this]

set_option maxRecDepth 100000 in
set_option maxHeartbeats 1000000 in
theorem l1Same_any (A B : Nat → Prop) (v v' : Value) (l l' : List Int) (w : World) (h : RI A w v l) (h' : RI B w v' l') :
    Calls Try.prog 114 #[v, v'] w (Ret fun r w' => r = .bool (l == l') ∧ Chg No w w') := by
  have hL := h.len
  have hL' := h'.len
  obtain ⟨a, cap, rfl, hcap, hmax, hlen, _, hc⟩ := id h
  obtain ⟨a', cap', rfl, hcap', hmax', hlen', _, hc'⟩ := id h'
  by_cases hll : l.length = l'.length
  · have HL := Lib.hid hll
    rw [← hll] at hc' ⊢
    clear hll hcap' hmax' hlen' hL' h h'
    go_enter Try.func114, Try.ntmps114
    go_wp2_with fail
    go_loopw [5] (fun i wr => ∃ j : Nat, j ≤ l.length ∧ i = .int .i64 j ∧ Hid (∀ q, q < j → l.getD q 0 = l'.getD q 0) ∧ Chg No w wr) (fun i _ => l.length - (intOf i).toNat)
    case atStart => exact ⟨0, Nat.zero_le _, rfl, Lib.hid (fun q hq => absurd hq (Nat.not_lt_zero _)), Chg.refl No w⟩
    case round =>
      obtain ⟨j, hj, rfl, HS, hch⟩ := hrel
      by_cases hlt : j < l.length
      · obtain ⟨b, off, rfl, _, hb, hcell⟩ := hc (by intro e; simp [e] at hlt)
        obtain ⟨b', off', rfl, _, hb', hcell'⟩ := hc' (by intro e; have := HL.out; rw [e] at this; simp only [List.length_nil] at this; omega)
        have hcl := (hch.cellD b (off + j) hb (fun e => e)).trans (hcell j hlt)
        have hcl' := (hch.cellD b' (off' + j) hb' (fun e => e)).trans (hcell' j hlt)
        obtain ⟨y, hy⟩ : ∃ y, l.getD j 0 = y := ⟨_, rfl⟩
        obtain ⟨z, hz⟩ : ∃ z, l'.getD j 0 = z := ⟨_, rfl⟩
        rw [hy] at hcl
        rw [hz] at hcl'
        have HY := Lib.hid hy
        have HZ := Lib.hid hz
        have hj0 : (0 : Int) ≤ (j : Int) := Int.natCast_nonneg _
        have hj1 : (j : Int) < (l.length : Int) := by omega
        have hw1 : IntKind.i64.wrap ((j : Int) + 1) = (j : Int) + 1 := IntWalk.i64_in _ (by omega)
        clear hcell hcell' hc hc' hy hz
        by_cases hyz : y = z
        · subst hyz
          go_wp2_with fail
          go_quiet (fail)
          have hd := (Chg.refl No wr).drewN nq
          have hch := hch.keep hd
          clear hcl hcl'
          generalize wr.drewN nq = W at hd hch ⊢
          go_wp2_with fail
          go_round
          case rel =>
            refine ⟨j + 1, hlt, by go_num, Lib.hid (fun q hq => ?_), hch⟩
            by_cases hqj : q = j
            · rw [hqj, HY.out, HZ.out]
            · exact HS.out q (by omega)
          case measure => simp [intOf]; omega
        · go_wp2_with fail
          go_quiet (fail)
          have hd := (Chg.refl No wr).drewN nq
          have hch := hch.keep hd
          clear hcl hcl'
          generalize wr.drewN nq = W at hd hch ⊢
          go_wp2_with fail
          go_ret
          refine ⟨_, rfl, ?_, hch⟩
          have : (l == l') = false := by
            rw [beq_eq_false_iff_ne]
            exact fun e => hyz (by rw [← HY.out, ← HZ.out, e])
          rw [this]
          rfl
      · have hj' : j = l.length := by omega
        subst hj'
        clear hc hc'
        go_wp2_with fail
        go_ret
        refine ⟨_, rfl, ?_, hch⟩
        have : l = l' := List.ext_getElem HL.out (fun q h1 h2 => by
          have := HS.out q h1
          rwa [List.getD_eq_getElem?_getD, List.getD_eq_getElem?_getD, List.getElem?_eq_getElem h1, List.getElem?_eq_getElem h2] at this)
        rw [this]
        simp
  · have hne : ¬ ((l.length : Int) = (l'.length : Int)) := by omega
    have HE : Hid ((l == l') = false) := Lib.hid (by rw [beq_eq_false_iff_ne]; exact fun e => hll (by rw [e]))
    clear hll hc hc'
    go_enter Try.func114, Try.ntmps114
    go_wp2_with fail
    go_ret
    exact ⟨_, rfl, by rw [HE.out]; rfl, Chg.refl _ _⟩
end Go.Proofs.Ytndhijckbponkaa
