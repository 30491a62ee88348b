import Derived.Test.YtndhijckbponkaaGreatDoorJ
import Derived.Test.YtndhijckbponkaaGreatDoorT
import Derived.Test.YtndhijckbponkaaGreatDoorP
import Derived.Test.YtndhijckbponkaaGreatDoorDat
import Derived.Test.YtndhijckbponkaaGreatDoorShelf
import Derived.Test.YtndhijckbponkaaGreatDoorCd
/- lists that are the same; caches that are the same -/
namespace Go.Proofs.YtndhijckbponkaaGreatDoor
open Go.RowKit

theorem drewN_chg (w : World) (n : Nat) : Chg No w (w.drewN n) := (Chg.refl No w).drewN n
theorem Equal_any (A B : Nat → Prop) (v v' : Value) (l l' : List Int) (w : World) (h : RI A w v l) (h' : RI B w v' l') :
    Calls Tryz.prog 99 #[v, v'] w (Ret fun r w' => r = .bool (l == l') ∧ Chg No w w') := by
  have hL := h.len
  have hL' := h'.len
  obtain ⟨a, cap, rfl, hcap, hmax, hlen, _, hc⟩ := id h
  obtain ⟨a', cap', rfl, hcap', hmax', hlen', _, hc'⟩ := id h'
  by_cases hll : l.length = l'.length
  · by_cases hl0 : l = []
    · subst hl0
      have hl' : l' = [] := List.eq_nil_of_length_eq_zero (by simpa using hll.symm)
      subst hl'
      refine (Tryz.slices_Equal_int_empty a a' cap 0 cap' w (by omega)).mono ?_
      rintro e w' ⟨rfl, rfl⟩
      exact ⟨_, rfl, rfl, Chg.refl _ _⟩
    · have hl0' : l' ≠ [] := fun e => hl0 (List.eq_nil_of_length_eq_zero (by rw [hll, e]; rfl))
      obtain ⟨b, off, rfl, _, _, hcell⟩ := hc hl0
      obtain ⟨b', off', rfl, _, _, hcell'⟩ := hc' hl0'
      refine (Tryz.slices_Equal_int b off l.length cap b' off' l'.length cap' l l' w (Nat.le_refl _) (Nat.le_refl _) (by omega) (by omega) hcell hcell').mono ?_
      rintro e w' ⟨rfl, q, rfl⟩
      exact ⟨_, rfl, by rw [List.take_length, List.take_length], drewN_chg w q⟩
  · refine (Tryz.slices_Equal_int_lens a a' l.length cap l'.length cap' w hll).mono ?_
    rintro e w' ⟨rfl, rfl⟩
    refine ⟨_, rfl, ?_, Chg.refl _ _⟩
    have : (l == l') = false := by rw [beq_eq_false_iff_ne]; exact fun e => hll (by rw [e])
    rw [this]

set_option maxRecDepth 100000 in
set_option maxHeartbeats 1000000 in
theorem l1Same_any (A B : Nat → Prop) (v v' : Value) (l l' : List Int) (w : World) (h : RI A w v l) (h' : RI B w v' l') :
    Calls Tryz.prog 153 #[v, v'] w (Ret fun r w' => r = .bool (l == l') ∧ Chg No w w') := by
  have hL := h.len
  have hL' := h'.len
  obtain ⟨a, cap, rfl, hcap, hmax, hlen, _, hc⟩ := id h
  obtain ⟨a', cap', rfl, hcap', hmax', hlen', _, hc'⟩ := id h'
  by_cases hll : l.length = l'.length
  · have HL := Lib.hid hll
    rw [← hll] at hc' ⊢
    clear hll hcap' hmax' hlen' hL' h h'
    go_enter Tryz.func153, Tryz.ntmps153
    go_wp2_with fail
    go_loopw [5] (fun i wr => ∃ j : Nat, j ≤ l.length ∧ i = .int .i64 j ∧ Hid (∀ q, q < j → l.getD q 0 = l'.getD q 0) ∧ Chg No w wr) (fun i _ => l.length - (intOf i).toNat)
    case atStart => exact ⟨0, Nat.zero_le _, rfl, Lib.hid (fun q hq => absurd hq (Nat.not_lt_zero _)), Chg.refl No w⟩
    case round =>
      obtain ⟨j, hj, rfl, HS, hch⟩ := hrel
      by_cases hlt : j < l.length
      · obtain ⟨b, off, rfl, _, hb, hcell⟩ := hc (by intro e; simp [e] at hlt)
        obtain ⟨b', off', rfl, _, hb', hcell'⟩ := hc' (by intro e; have := HL.out; rw [e] at this; simp only [List.length_nil] at this; omega)
        have hcl := (hch.cellD b (off + j) hb (fun e => e)).trans (hcell j hlt)
        have hcl' := (hch.cellD b' (off' + j) hb' (fun e => e)).trans (hcell' j hlt)
        obtain ⟨y, hy⟩ : ∃ y, l.getD j 0 = y := ⟨_, rfl⟩
        obtain ⟨z, hz⟩ : ∃ z, l'.getD j 0 = z := ⟨_, rfl⟩
        rw [hy] at hcl
        rw [hz] at hcl'
        have HY := Lib.hid hy
        have HZ := Lib.hid hz
        have hj0 : (0 : Int) ≤ (j : Int) := Int.natCast_nonneg _
        have hj1 : (j : Int) < (l.length : Int) := by omega
        have hw1 : IntKind.i64.wrap ((j : Int) + 1) = (j : Int) + 1 := IntWalk.i64_in _ (by omega)
        clear hcell hcell' hc hc' hy hz
        by_cases hyz : y = z
        · subst hyz
          go_wp2_with fail
          go_quiet (fail)
          have hd := (Chg.refl No wr).drewN nq
          have hch := hch.keep hd
          clear hcl hcl'
          generalize wr.drewN nq = W at hd hch ⊢
          go_wp2_with fail
          go_round
          case rel =>
            refine ⟨j + 1, hlt, by go_num, Lib.hid (fun q hq => ?_), hch⟩
            by_cases hqj : q = j
            · rw [hqj, HY.out, HZ.out]
            · exact HS.out q (by omega)
          case measure => simp [intOf]; omega
        · go_wp2_with fail
          go_quiet (fail)
          have hd := (Chg.refl No wr).drewN nq
          have hch := hch.keep hd
          clear hcl hcl'
          generalize wr.drewN nq = W at hd hch ⊢
          go_wp2_with fail
          go_ret
          refine ⟨_, rfl, ?_, hch⟩
          have : (l == l') = false := by
            rw [beq_eq_false_iff_ne]
            exact fun e => hyz (by rw [← HY.out, ← HZ.out, e])
          rw [this]
          rfl
      · have hj' : j = l.length := by omega
        subst hj'
        clear hc hc'
        go_wp2_with fail
        go_ret
        refine ⟨_, rfl, ?_, hch⟩
        have : l = l' := List.ext_getElem HL.out (fun q h1 h2 => by
          have := HS.out q h1
          rwa [List.getD_eq_getElem?_getD, List.getD_eq_getElem?_getD, List.getElem?_eq_getElem h1, List.getElem?_eq_getElem h2] at this)
        rw [this]
        simp
  · have hne : ¬ ((l.length : Int) = (l'.length : Int)) := by omega
    have HE : Hid ((l == l') = false) := Lib.hid (by rw [beq_eq_false_iff_ne]; exact fun e => hll (by rw [e]))
    clear hll hc hc'
    go_enter Tryz.func153, Tryz.ntmps153
    go_wp2_with fail
    go_ret
    exact ⟨_, rfl, by rw [HE.out]; rfl, Chg.refl _ _⟩

def sameB (a b : Ca) : Bool := a.pol == b.pol && (a.size == b.size && (a.hand == b.hand && (a.pages == b.pages && a.marks == b.marks)))
set_option maxRecDepth 100000 in
set_option maxHeartbeats 1000000 in
theorem sameCaches_any (A B : Nat → Prop) (v v' : Value) (c c' : Ca) (w : World) (h : RC A w v c) (h' : RC B w v' c') :
    Calls Tryz.prog 60 #[v, v'] w (Ret fun r w' => r = .bool (sameB c c') ∧ Chg No w w') := by
  obtain ⟨pv, mv, rfl, hp, hmk⟩ := h
  obtain ⟨pv', mv', rfl, hp', hmk'⟩ := h'
  obtain ⟨pa, pn, pc, rfl⟩ := hp.shape
  obtain ⟨ma, mn, mc, rfl⟩ := hmk.shape
  obtain ⟨pa', pn', pc', rfl⟩ := hp'.shape
  obtain ⟨ma', mn', mc', rfl⟩ := hmk'.shape
  have k0 := ((Chg.refl No w).alloc (.cells #[.int .i64 c.pol, .int .i64 c.size, .slice pa pn pc, .slice ma mn mc, .int .i64 c.hand] 66)).alloc (.cells #[.int .i64 c'.pol, .int .i64 c'.size, .slice pa' pn' pc', .slice ma' mn' mc', .int .i64 c'.hand] 66)
  cases h1 : c.pol == c'.pol
  · have HS : Hid (sameB c c' = false) := Lib.hid (by simp [sameB, h1])
    go_enter Tryz.func60, Tryz.ntmps60
    go_wp2_with fail
    go_ret
    exact ⟨_, rfl, by rw [HS.out]; rfl, k0⟩
  · cases h2 : c.size == c'.size
    · have HS : Hid (sameB c c' = false) := Lib.hid (by simp [sameB, h2])
      go_enter Tryz.func60, Tryz.ntmps60
      go_wp2_with fail
      go_ret
      exact ⟨_, rfl, by rw [HS.out]; rfl, k0⟩
    · cases h3 : c.hand == c'.hand
      · have HS : Hid (sameB c c' = false) := Lib.hid (by simp [sameB, h3])
        go_enter Tryz.func60, Tryz.ntmps60
        go_wp2_with fail
        go_ret
        exact ⟨_, rfl, by rw [HS.out]; rfl, k0⟩
      · cases h4 : c.pages == c'.pages
        · have HS : Hid (sameB c c' = false) := Lib.hid (by simp only [sameB, h4, Bool.false_and, Bool.and_false])
          have H4 := Lib.hid h4
          clear h4 k0
          go_enter Tryz.func60, Tryz.ntmps60
          go_wp2_with fail
          refine boxes2 (R := fun W => Calls _ _ _ W _) (fun W hW b0 b1 => ?_)
          refine (Equal_any A B _ _ _ _ W (hp.keep hW) (hp'.keep hW)).mono ?_
          rintro e w1 ⟨_, rfl, rfl, k1⟩
          rw [H4.out]
          go_wp2_with fail
          go_ret
          exact ⟨_, rfl, by rw [HS.out]; rfl, hW.keep k1⟩
        · have HS : Hid (sameB c c' = (c.marks == c'.marks)) := Lib.hid (by simp only [sameB, h1, h2, h3, h4, Bool.true_and])
          have H4 := Lib.hid h4
          clear h4 k0
          go_enter Tryz.func60, Tryz.ntmps60
          go_wp2_with fail
          refine boxes2 (R := fun W => Calls _ _ _ W _) (fun W hW b0 b1 => ?_)
          refine (Equal_any A B _ _ _ _ W (hp.keep hW) (hp'.keep hW)).mono ?_
          rintro e w1 ⟨_, rfl, rfl, k1⟩
          rw [H4.out]
          have hW := hW.keep k1
          obtain ⟨c0, c1, c2, c3, c4, _⟩ := b0.keep k1
          obtain ⟨d0, d1, d2, d3, d4, _⟩ := b1.keep k1
          go_wp2_with fail
          refine (Equal_any A B _ _ _ _ w1 (hmk.keep hW) (hmk'.keep hW)).mono ?_
          rintro e w2 ⟨_, rfl, rfl, k2⟩
          go_wp2_with fail
          go_ret
          exact ⟨_, rfl, by rw [HS.out]; rfl, hW.keep k2⟩

set_option maxRecDepth 100000 in
set_option maxHeartbeats 1000000 in
theorem l12SameCache_any (A B : Nat → Prop) (v v' : Value) (c c' : Ca) (w : World) (h : RC A w v c) (h' : RC B w v' c') :
    Calls Tryz.prog 120 #[v, v'] w (Ret fun r w' => r = .bool (sameB c c') ∧ Chg No w w') := by
  obtain ⟨pv, mv, rfl, hp, hmk⟩ := h
  obtain ⟨pv', mv', rfl, hp', hmk'⟩ := h'
  obtain ⟨pa, pn, pc, rfl⟩ := hp.shape
  obtain ⟨ma, mn, mc, rfl⟩ := hmk.shape
  obtain ⟨pa', pn', pc', rfl⟩ := hp'.shape
  obtain ⟨ma', mn', mc', rfl⟩ := hmk'.shape
  have k0 := ((Chg.refl No w).alloc (.cells #[.int .i64 c.pol, .int .i64 c.size, .slice pa pn pc, .slice ma mn mc, .int .i64 c.hand] 66)).alloc (.cells #[.int .i64 c'.pol, .int .i64 c'.size, .slice pa' pn' pc', .slice ma' mn' mc', .int .i64 c'.hand] 66)
  cases h1 : c.pol == c'.pol
  · have HS : Hid (sameB c c' = false) := Lib.hid (by simp [sameB, h1])
    go_enter Tryz.func120, Tryz.ntmps120
    go_wp2_with fail
    go_ret
    exact ⟨_, rfl, by rw [HS.out]; rfl, k0⟩
  · cases h2 : c.size == c'.size
    · have HS : Hid (sameB c c' = false) := Lib.hid (by simp [sameB, h2])
      go_enter Tryz.func120, Tryz.ntmps120
      go_wp2_with fail
      go_ret
      exact ⟨_, rfl, by rw [HS.out]; rfl, k0⟩
    · cases h4 : c.pages == c'.pages
      · have HS : Hid (sameB c c' = false) := Lib.hid (by simp only [sameB, h4, Bool.false_and, Bool.and_false])
        have H4 := Lib.hid h4
        clear h4 k0
        go_enter Tryz.func120, Tryz.ntmps120
        go_wp2_with fail
        refine boxes2 (R := fun W => Calls _ _ _ W _) (fun W hW b0 b1 => ?_)
        refine (l1Same_any A B _ _ _ _ W (hp.keep hW) (hp'.keep hW)).mono ?_
        rintro e w1 ⟨_, rfl, rfl, k1⟩
        rw [H4.out]
        go_wp2_with fail
        go_ret
        exact ⟨_, rfl, by rw [HS.out]; rfl, hW.keep k1⟩
      · cases h5 : c.marks == c'.marks
        · have HS : Hid (sameB c c' = false) := Lib.hid (by simp only [sameB, h5, Bool.and_false])
          have H4 := Lib.hid h4
          have H5 := Lib.hid h5
          clear h4 h5 k0
          go_enter Tryz.func120, Tryz.ntmps120
          go_wp2_with fail
          refine boxes2 (R := fun W => Calls _ _ _ W _) (fun W hW b0 b1 => ?_)
          refine (l1Same_any A B _ _ _ _ W (hp.keep hW) (hp'.keep hW)).mono ?_
          rintro e w1 ⟨_, rfl, rfl, k1⟩
          rw [H4.out]
          have hW := hW.keep k1
          obtain ⟨c0, c1, c2, c3, c4, _⟩ := b0.keep k1
          obtain ⟨d0, d1, d2, d3, d4, _⟩ := b1.keep k1
          go_wp2_with fail
          refine (l1Same_any A B _ _ _ _ w1 (hmk.keep hW) (hmk'.keep hW)).mono ?_
          rintro e w2 ⟨_, rfl, rfl, k2⟩
          rw [H5.out]
          go_wp2_with fail
          go_ret
          exact ⟨_, rfl, by rw [HS.out]; rfl, hW.keep k2⟩
        · have HS : Hid (sameB c c' = (c.hand == c'.hand)) := Lib.hid (by simp only [sameB, h1, h2, h4, h5, Bool.true_and, Bool.and_true])
          have H4 := Lib.hid h4
          have H5 := Lib.hid h5
          clear h4 h5 k0
          go_enter Tryz.func120, Tryz.ntmps120
          go_wp2_with fail
          refine boxes2 (R := fun W => Calls _ _ _ W _) (fun W hW b0 b1 => ?_)
          refine (l1Same_any A B _ _ _ _ W (hp.keep hW) (hp'.keep hW)).mono ?_
          rintro e w1 ⟨_, rfl, rfl, k1⟩
          rw [H4.out]
          have hW := hW.keep k1
          have b0 := b0.keep k1
          have b1 := b1.keep k1
          obtain ⟨c0, c1, c2, c3, c4, _⟩ := id b0
          obtain ⟨d0, d1, d2, d3, d4, _⟩ := id b1
          go_wp2_with fail
          refine (l1Same_any A B _ _ _ _ w1 (hmk.keep hW) (hmk'.keep hW)).mono ?_
          rintro e w2 ⟨_, rfl, rfl, k2⟩
          rw [H5.out]
          clear c0 c1 c2 c3 c4 d0 d1 d2 d3 d4
          obtain ⟨c0, c1, c2, c3, c4, _⟩ := b0.keep k2
          obtain ⟨d0, d1, d2, d3, d4, _⟩ := b1.keep k2
          go_wp2_with fail
          go_ret
          exact ⟨_, rfl, by rw [HS.out]; rfl, hW.keep k2⟩
end Go.Proofs.YtndhijckbponkaaGreatDoor
