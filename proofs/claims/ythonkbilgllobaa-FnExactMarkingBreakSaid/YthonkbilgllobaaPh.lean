import Derived.Test.YthonkbilgllobaaMk
import Derived.Test.YthonkbilgllobaaSo
/- the phases of a list of requests, both sides -/
namespace Go.Proofs.Ythonkbilgllobaa
open Go.RowKit

set_option maxRecDepth 100000 in
set_option maxHeartbeats 1000000 in
theorem phasesOf_any (A : Nat → Prop) (k : Int) (v : Value) (l : List Int) (w : World) (hv : RI A w v l) (hl : l.length ≤ 1000000) :
    Calls Try.prog 73 #[.int .i64 k, v] w (Ret fun r w' => OI w.heap.size w' r (phF k l l.length) ∧ Chg No w w') := by
  obtain ⟨la, lc, rfl, _⟩ := id hv
  have hl0 : (0 : Int) ≤ (l.length : Int) := Int.natCast_nonneg _
  go_enter Try.func73, Try.ntmps73
  go_wp2_with fail
  go_loopw [5, 10] (fun o i wr => ∃ j : Nat, j ≤ l.length ∧ i = .int .i64 j ∧ OI w.heap.size wr o (phF k l j) ∧ Chg No w wr) (fun _ i _ => l.length - (intOf i).toNat)
  case atStart => exact ⟨0, Nat.zero_le _, rfl, OI.zero (Nat.le_refl _), (Chg.refl No w).alloc _⟩
  case round =>
    obtain ⟨j, hj, rfl, ho, hch⟩ := hrel
    have hj0 : (0 : Int) ≤ (j : Int) := Int.natCast_nonneg _
    by_cases hlt : j < l.length
    · have hj1 : (j : Int) < (l.length : Int) := by omega
      have hw1 : IntKind.i64.wrap ((j : Int) + 1) = (j : Int) + 1 := IntWalk.i64_in _ (by omega)
      have hsz := hch.size
      have hpl := phF_len k l j
      by_cases hz : j = 0
      · subst hz
        have HP : Hid (phF k l (0 + 1) = phF k l 0 ++ [((0 : Nat) : Int)]) := Lib.hid rfl
        obtain ⟨f, hf⟩ : ∃ f, phF k l 0 = f := ⟨_, rfl⟩
        have hf0 : f = [] := hf.symm
        rw [hf] at ho
        have HF := Lib.hid hf
        clear hf
        subst hf0
        obtain ⟨oa, oc, rfl, _⟩ := ho.view
        go_wp2_with (at_builtin; refine wapp1 rfl (.tmp 32) (.tmp 34) rfl ho rfl rfl (by simp) hsz ?_)
        intro o1 w1 h1 k1 f1
        have hch1 : Chg No w w1 := hch.own k1 ho (Nat.le_refl _)
        go_wp2_with fail
        go_round
        case rel => exact ⟨0 + 1, hlt, by go_num, by rw [HP.out, HF.out]; exact h1, hch1⟩
        case measure => simp [intOf]; omega
      · obtain ⟨m, q, s, f, d, hf, hm, hq, hs, hd, hlast, hsl, hps⟩ : ∃ (m q s : Nat) (f d : List Int), phF k l j = f ∧ f.length = m ∧ m = q + 1 ∧ startP k l j = s ∧ diffL ((l.take (j + 1)).drop s) = d ∧ f.getD q 0 = (s : Int) ∧ s < j ∧ phF k l (j + 1) = if k < (d.length : Int) then f ++ [(j : Int)] else f := by
          obtain ⟨i, rfl⟩ : ∃ i, j = i + 1 := ⟨j - 1, by omega⟩
          refine ⟨_, (phF k l (i + 1)).length - 1, _, _, _, rfl, rfl, ?_, rfl, rfl, phF_last k l i, Nat.lt_succ_of_le (startP_lt k l i), ?_⟩
          · have := phF_pos k l i; omega
          · rw [phF_succ k l (i + 1)]; simp [newB]
        rw [hf] at ho hpl
        obtain ⟨oa, oc, rfl, hoc1, hoc2, hcell⟩ := ho.view
        rw [hm] at *
        obtain ⟨g, rfl, _, _, hcells, _⟩ := hcell (by omega)
        have hcq := hcells q (by omega)
        rw [hlast] at hcq
        have hq0 : (0 : Int) ≤ (q : Int) := Int.natCast_nonneg _
        have hwq : IntKind.i64.wrap ((m : Int) - 1) = (q : Int) := by rw [show (m : Int) - 1 = (q : Int) by omega]; exact IntWalk.i64_in _ (by omega)
        have hne : ((m : Int) == 0) = false := by rw [beq_eq_false_iff_ne]; omega
        have hne' : (m == 0) = false := by rw [beq_eq_false_iff_ne]; omega
        have hqm : (q : Int) < (m : Int) := by omega
        obtain ⟨x, hx, hRx⟩ := (hv.keep hch).mid s (j + 1) (s : Int) ((j : Int) + 1) rfl (by omega) (by omega) (by omega)
        have HD := Lib.hid hd
        have HPS := Lib.hid hps
        have HF := Lib.hid hf
        have HM := Lib.hid hm
        clear hcells hcell hd hps hlast hs hf hm hq
        go_wp2_with fail
        refine (rising_any A x _ wr hRx).mono ?_
        rintro e w1 ⟨v1, rfl, o1, k1⟩
        rw [HD.out] at o1
        obtain ⟨a1, c1, rfl, _⟩ := o1.view
        have ho1 := ho.keep k1
        have hch1 := hch.keep k1
        have hsz1 := hch1.size
        clear hcq
        by_cases hgt : k < (d.length : Int)
        · have HP : Hid (phF k l (j + 1) = f ++ [(j : Int)]) := Lib.hid (by rw [HPS.out, if_pos hgt])
          go_wp2_with (at_builtin; refine wapp1 rfl (.tmp 32) (.tmp 34) rfl ho1 rfl rfl (by have := HM.out; omega) hsz1 ?_)
          intro o2 w2 h2 k2 f2
          have hch2 : Chg No w w2 := hch1.own k2 ho1 (Nat.le_refl _)
          go_wp2_with fail
          go_round
          case rel => exact ⟨j + 1, hlt, by go_num, by rw [HP.out]; exact h2, hch2⟩
          case measure => simp [intOf]; omega
        · have HP : Hid (phF k l (j + 1) = f) := Lib.hid (by rw [HPS.out, if_neg hgt])
          go_wp2_with fail
          go_round
          case rel => exact ⟨j + 1, hlt, by go_num, by rw [HP.out]; exact ho1, hch1⟩
          case measure => simp [intOf]; omega
    · have hj' : j = l.length := by omega
      subst hj'
      go_wp2_with fail
      go_ret
      exact ⟨_, rfl, ho, hch⟩

set_option maxRecDepth 100000 in
set_option maxHeartbeats 1000000 in
theorem l4Phases_any (A : Nat → Prop) (k : Int) (v : Value) (l : List Int) (w : World) (hv : RI A w v l) (hl : l.length ≤ 1000000) :
    Calls Try.prog 69 #[.int .i64 k, v] w (Ret fun r w' => OI w.heap.size w' r (phF k l l.length) ∧ Chg No w w') := by
  obtain ⟨la, lc, rfl, _, _, _, _, hc⟩ := id hv
  have hl0 : (0 : Int) ≤ (l.length : Int) := Int.natCast_nonneg _
  go_enter Try.func69, Try.ntmps69
  go_wp2_with fail
  go_loopw [5, 6, 7] (fun o it i wr => ∃ j : Nat, j ≤ l.length ∧ i = .int .i64 j ∧ OI w.heap.size wr o (phF k l j) ∧ OI w.heap.size wr it (diffL ((l.take j).drop (startP k l j))) ∧ Hid (∀ q, own o q → ¬ own it q) ∧ Chg No w wr) (fun _ _ i _ => l.length - (intOf i).toNat)
  case atStart =>
    refine ⟨0, Nat.zero_le _, rfl, (OI.zero (Nat.le_refl _)).alloc _, OI.zeroAt (World.size_alloc ..) (Nat.le_succ _), Lib.hid (fun q h1 h2 => ?_), ((Chg.refl No w).alloc _).alloc _⟩
    have := own_slice.1 h1
    have := own_slice.1 h2
    omega
  case round =>
    obtain ⟨j, hj, rfl, ho, hi, HDJ, hch⟩ := hrel
    have hj0 : (0 : Int) ≤ (j : Int) := Int.natCast_nonneg _
    by_cases hlt : j < l.length
    · obtain ⟨b, off, rfl, _, hb, hcell⟩ := hc (by intro e; simp [e] at hlt)
      have hcl := (hch.cellD b (off + j) hb (fun e => e)).trans (hcell j hlt)
      have hit := items_succ k l j hlt
      have hin := items_new l j hlt
      obtain ⟨y, hy⟩ : ∃ y, l[j] = y := ⟨_, rfl⟩
      have hgy : l.getD j 0 = y := by rw [← hy, List.getD_eq_getElem?_getD, List.getElem?_eq_getElem hlt]; rfl
      rw [hgy] at hcl
      rw [hy] at hit hin
      have hj1 : (j : Int) < (l.length : Int) := by omega
      have hw1 : IntKind.i64.wrap ((j : Int) + 1) = (j : Int) + 1 := IntWalk.i64_in _ (by omega)
      have hsz := hch.size
      have hpl := phF_len k l j
      have hil : (diffL ((l.take j).drop (startP k l j))).length < 17592186044416 := by have := diffL_len_le ((l.take j).drop (startP k l j)); rw [List.length_drop, List.length_take] at this; omega
      have hps := phF_succ k l j
      have hss := startP_succ k l j
      obtain ⟨d, hd⟩ : ∃ d, diffL ((l.take (j + 1)).drop (startP k l j)) = d := ⟨_, rfl⟩
      have hnb : newB k l j = (decide (j = 0) || decide (k < (d.length : Int))) := by rw [← hd]; rfl
      rw [hd] at hit
      have HIN := Lib.hid hin
      have HD := Lib.hid hd
      have HPS := Lib.hid hps
      have HSS := Lib.hid hss
      have HIT := Lib.hid hit
      have HNB := Lib.hid hnb
      have HC := Lib.hid hc
      obtain ⟨ia, ic, hie, _⟩ := hi.view
      subst hie
      obtain ⟨oa, on, oc, rfl⟩ := ho.shape
      clear hcell hd hps hss hit hnb hc hy hgy hin
      go_wp2_with fail
      refine (l1Put_any w.heap.size _ _ y wr hi hsz hil).mono ?_
      rintro e w1 ⟨v1, rfl, o1, k1, f1⟩
      rw [HIT.out] at o1
      obtain ⟨a1, c1, rfl, _⟩ := o1.view
      have ho1 := ho.keep k1
      have hch1 := hch.keep k1
      have hsz1 := hch1.size
      have hcl1 := (k1.cellD b (off + j) (Nat.lt_of_lt_of_le hb hsz) (fun e => e)).trans hcl
      have F1 := Lib.hid f1
      clear f1 hcl
      by_cases hz : j = 0
      · have HB : Hid (newB k l j = true) := Lib.hid (by rw [HNB.out]; simp [hz])
        have HP : Hid (phF k l (j + 1) = phF k l j ++ [(j : Int)]) := Lib.hid (by rw [HPS.out, if_pos HB.out])
        have HI : Hid (diffL ((l.take (j + 1)).drop (startP k l (j + 1))) = [y]) := Lib.hid (by rw [HSS.out, if_pos HB.out, HIN.out])
        have hze : ((j : Int) == 0) = true := by rw [beq_iff_eq]; omega
        clear hz
        go_wp2_with (at_builtin; refine wapp1 rfl (.tmp 31) (.tmp 33) rfl ho1 rfl rfl (by omega) hsz1 ?_)
        intro o2 w2 h2 k2 f2
        have hch2 : Chg No w w2 := hch1.own k2 ho1 (Nat.le_refl _)
        have hcl2 := (k2.cellD b (off + j) (Nat.lt_of_lt_of_le hb hsz1) (fun hq => by have := (ho1.lt _ hq).1; omega)).trans hcl1
        have hsz2 := hch2.size
        go_wp2_with fail
        go_round
        case rel => exact ⟨j + 1, hlt, by go_num, by rw [HP.out]; exact h2.alloc _, by rw [HI.out]; exact OI.one hsz2, Lib.hid (fun q hq hq' => by have := own_slice.1 hq'; have := (h2.lt q hq).2; omega), hch2.alloc _⟩
        case measure => simp [intOf]; omega
      · have hze : ((j : Int) == 0) = false := by rw [beq_eq_false_iff_ne]; omega
        have hze' : (j == 0) = false := by rw [beq_eq_false_iff_ne]; omega
        by_cases hgt : k < (d.length : Int)
        · have HB : Hid (newB k l j = true) := Lib.hid (by rw [HNB.out]; simp [hgt])
          have HP : Hid (phF k l (j + 1) = phF k l j ++ [(j : Int)]) := Lib.hid (by rw [HPS.out, if_pos HB.out])
          have HI : Hid (diffL ((l.take (j + 1)).drop (startP k l (j + 1))) = [y]) := Lib.hid (by rw [HSS.out, if_pos HB.out, HIN.out])
          go_wp2_with (at_builtin; refine wapp1 rfl (.tmp 31) (.tmp 33) rfl ho1 rfl rfl (by omega) hsz1 ?_)
          intro o2 w2 h2 k2 f2
          have hch2 : Chg No w w2 := hch1.own k2 ho1 (Nat.le_refl _)
          have hcl2 := (k2.cellD b (off + j) (Nat.lt_of_lt_of_le hb hsz1) (fun hq => by have := (ho1.lt _ hq).1; omega)).trans hcl1
          have hsz2 := hch2.size
          go_wp2_with fail
          go_round
          case rel => exact ⟨j + 1, hlt, by go_num, by rw [HP.out]; exact h2.alloc _, by rw [HI.out]; exact OI.one hsz2, Lib.hid (fun q hq hq' => by have := own_slice.1 hq'; have := (h2.lt q hq).2; omega), hch2.alloc _⟩
          case measure => simp [intOf]; omega
        · have HB : Hid (newB k l j = false) := Lib.hid (by rw [HNB.out]; simp [hgt, hz])
          have HP : Hid (phF k l (j + 1) = phF k l j) := Lib.hid (by rw [HPS.out, HB.out]; rfl)
          have HI : Hid (diffL ((l.take (j + 1)).drop (startP k l (j + 1))) = d) := Lib.hid (by rw [HSS.out, HB.out, ← HD.out]; rfl)
          clear hcl1
          go_wp2_with fail
          go_round
          case rel => exact ⟨j + 1, hlt, by go_num, by rw [HP.out]; exact ho1, by rw [HI.out]; exact o1, Lib.hid (fun q hq hq' => by
            rcases F1.out q hq' with h | h
            · exact HDJ.out q hq h
            · have := (ho.lt q hq).2; omega), hch1⟩
          case measure => simp [intOf]; omega
    · have hj' : j = l.length := by omega
      subst hj'
      clear hc
      go_wp2_with fail
      go_ret
      exact ⟨_, rfl, ho, hch⟩

set_option maxHeartbeats 400000 in
theorem l4Common_any (A B : Nat → Prop) (v vb : Value) (l lb : List Int) (w : World) (h : RI A w v l) (hb : RI B w vb lb) :
    Calls Try.prog 71 #[v, vb] w fun e w' => e = .returned (.bool (comB l lb)) ∧ w = w' := by
  obtain ⟨a, cap, rfl, hcap, hmax, hlen, _, hc⟩ := h
  obtain ⟨ba, bn, bc, rfl⟩ := hb.shape
  go_enter Try.func71, Try.ntmps71
  go_wp2
  go_loop [4, 5] (fun r i => ∃ k : Nat, k ≤ l.length ∧ i = .int .i64 k ∧ r = .bool false ∧ comB (l.take k) lb = false) (fun _ i => l.length - (intOf i).toNat)
  case atStart => exact ⟨0, Nat.zero_le _, rfl, rfl, rfl⟩
  case round =>
    obtain ⟨k, hk, rfl, rfl, hh⟩ := hrel
    have H := Lib.hid hh
    clear hh
    by_cases hlt : k < l.length
    · obtain ⟨b, off, rfl, _, _, hcell⟩ := hc (by intro e; simp [e] at hlt)
      have hck := hcell k hlt
      have hs := Lib.hid (comB_snoc l lb k hlt)
      have ht := Lib.hid (comB_hit l lb k hlt)
      go_wp2_with (go_at_call 70; refine (l1Has_any B _ _ _ _ hb).mono ?_; rintro e w' ⟨rfl, rfl⟩)
      · go_ret
        have h : hasB lb l[k] = true := by assumption
        exact ⟨ret_bool (ht.out h).symm, rfl⟩
      · have h : hasB lb l[k] = false := by assumption
        go_round
        case rel => exact ⟨k + 1, by omega, by go_num, rfl, by rw [hs.out, H.out, h]; rfl⟩
        case measure => simp [intOf]; omega
    · have hkl : k = l.length := by omega
      go_wp2
      go_ret
      subst hkl
      exact ⟨ret_bool (by have := H.out; rw [List.take_length] at this; exact this.symm), rfl⟩
end Go.Proofs.Ythonkbilgllobaa
