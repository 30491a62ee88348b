import Derived.Test.YtmdcmfnpfkfocaaTj
/- BestPlayer, both sides -/
namespace Go.Proofs.Ytmdcmfnpfkfocaa
open Go.RowKit

/-- the first of the least among the first j -/
def bestTo (f : Nat → Int) : Nat → Nat
  | 0 => 0
  | j + 1 => if f j < f (bestTo f j) then j else bestTo f j
theorem bestTo_lt (f : Nat → Int) {j : Nat} (h : 0 < j) : bestTo f j < j := by
  induction j with
  | zero => omega
  | succ j ih =>
    unfold bestTo
    split
    · omega
    · rcases Nat.eq_zero_or_pos j with rfl | hp
      · simp [bestTo]
      · have := ih hp; omega
theorem bestTo_one (f : Nat → Int) : bestTo f 1 = 0 := by simp [bestTo]
def faF (ps : List Pl) (i : Nat) : Int := (ps.getD i dPl).fa
def okBest (t : To) : Bool := tourB t && decide (0 < t.ps.length)
def bestV (t : To) : Int := if okBest t then (bestTo (faF t.ps) t.ps.length : Int) else 0

set_option maxRecDepth 100000 in
set_option maxHeartbeats 2000000 in
theorem specBestPlayer_any (v : Value) (t : To) (w : World) (h : RT No w v t) :
    Calls Try.prog 29 #[v] w (Ret2 fun v0 v1 w' => v0 = .int .i64 (bestV t) ∧ v1 = .bool (okBest t) ∧ Chg No w w') := by
  have h0 := h
  obtain ⟨it, ps, rq⟩ := t
  obtain ⟨pv, rv, rfl, hps, hrq⟩ := h
  simp only at hps hrq
  obtain ⟨ra, rn, rc, rfl⟩ := hrq.shape
  obtain ⟨a, cap, rfl, hcap, hmax, hlen, pf, mf, hl, hcl⟩ := id hps
  cases ht : tourB ⟨it, ps, rq⟩
  · have HO : Hid (okBest ⟨it, ps, rq⟩ = false) := Lib.hid (by simp [okBest, ht])
    have HV : Hid (bestV ⟨it, ps, rq⟩ = 0) := Lib.hid (by simp [bestV, okBest, ht])
    have HT := Lib.hid ht
    clear ht hl hcl
    go_enter Try.func29, Try.ntmps29
    go_wp2_with fail
    refine box31 (R := fun W => Calls _ _ _ W _) (fun W kW b0 => ?_)
    refine (l12Tour_any _ ⟨it, ps, rq⟩ W (h0.keep kW)).mono ?_
    rintro e w1 ⟨_, rfl, rfl, k1⟩
    rw [HT.out]
    go_wp2_with fail
    go_ret2
    exact ⟨_, _, rfl, by rw [HV.out]; rfl, by rw [HO.out]; rfl, kW.keep k1⟩
  · by_cases hn : ps.length = 0
    · have HO : Hid (okBest ⟨it, ps, rq⟩ = false) := Lib.hid (by simp [okBest, hn])
      have HV : Hid (bestV ⟨it, ps, rq⟩ = 0) := Lib.hid (by simp [bestV, okBest, hn])
      have HT := Lib.hid ht
      have hn' : ((ps.length : Int) == 0) = true := by simp [hn]
      clear ht hl hcl hn
      go_enter Try.func29, Try.ntmps29
      go_wp2_with fail
      refine box31 (R := fun W => Calls _ _ _ W _) (fun W kW b0 => ?_)
      refine (l12Tour_any _ ⟨it, ps, rq⟩ W (h0.keep kW)).mono ?_
      rintro e w1 ⟨_, rfl, rfl, k1⟩
      rw [HT.out]
      obtain ⟨c0, c1, c2, _⟩ := b0.keep k1
      go_wp2_with fail
      go_ret2
      exact ⟨_, _, rfl, by rw [HV.out]; rfl, by rw [HO.out]; rfl, kW.keep k1⟩
    · have hpos : 0 < ps.length := by omega
      have HO : Hid (okBest ⟨it, ps, rq⟩ = true) := Lib.hid (by simp [okBest, ht, hpos])
      have HV : Hid (bestV ⟨it, ps, rq⟩ = (bestTo (faF ps) ps.length : Int)) := Lib.hid (by simp [bestV, okBest, ht, hpos])
      have HT := Lib.hid ht
      have hn' : ((ps.length : Int) == 0) = false := by rw [beq_eq_false_iff_ne]; omega
      obtain ⟨b, off, rfl, _, hb, hcell⟩ := hcl (by intro e; simp [e] at hpos)
      have HC := Lib.hid hcell
      clear ht hl hcl hn hcell
      go_enter Try.func29, Try.ntmps29
      go_wp2_with fail
      refine box31 (R := fun W => Calls _ _ _ W _) (fun W kW b0 => ?_)
      refine (l12Tour_any _ ⟨it, ps, rq⟩ W (h0.keep kW)).mono ?_
      rintro e w1 ⟨_, rfl, rfl, k1⟩
      rw [HT.out]
      have b0 := b0.keep k1
      have kk := kW.keep k1
      obtain ⟨c0, c1, c2, _⟩ := id b0
      go_wp2_with fail
      clear c0 c1 c2
      go_loopw [4, 5] (fun s i wr => ∃ j : Nat, 1 ≤ j ∧ j ≤ ps.length ∧ i = .int .i64 j ∧ s = .int .i64 (bestTo (faF ps) j : Int) ∧ Box3 wr w.heap.size (.int .i64 it) (.slice (some ⟨b, off, none⟩) ps.length cap) (.slice ra rn rc) ∧ Chg No w wr) (fun _ i _ => ps.length - (intOf i).toNat)
      case atStart => exact ⟨1, Nat.le_refl _, hpos, rfl, by rw [bestTo_one]; rfl, b0, kk⟩
      case round =>
        clear b0 kk k1 kW
        obtain ⟨j, hj1, hj, rfl, rfl, hb3, hch⟩ := hrel
        by_cases hlt : j < ps.length
        · have hbl := bestTo_lt (faF ps) (j := j) hj1
          obtain ⟨q, hq⟩ : ∃ q, bestTo (faF ps) j = q := ⟨_, rfl⟩
          have hst : bestTo (faF ps) (j + 1) = if faF ps j < faF ps q then j else q := by rw [bestTo, hq]
          rw [hq] at hbl ⊢
          have d6 := ((HC.out j hlt).step hch hb (fun e => e)).c6
          have e6 := ((HC.out q (by omega)).step hch hb (fun e => e)).c6
          obtain ⟨y, hy⟩ : ∃ y, faF ps j = y := ⟨_, rfl⟩
          obtain ⟨z, hz⟩ : ∃ z, faF ps q = z := ⟨_, rfl⟩
          rw [show (ps.getD j dPl).fa = y from hy] at d6
          rw [show (ps.getD q dPl).fa = z from hz] at e6
          rw [hy, hz] at hst
          have HST := Lib.hid hst
          have hj0 : (0 : Int) ≤ (j : Int) := Int.natCast_nonneg _
          have hj2 : (j : Int) < (ps.length : Int) := by omega
          have hq0 : (0 : Int) ≤ (q : Int) := Int.natCast_nonneg _
          have hq2 : (q : Int) < (ps.length : Int) := by omega
          have hw1 : IntKind.i64.wrap ((j : Int) + 1) = (j : Int) + 1 := IntWalk.i64_in _ (by omega)
          obtain ⟨c0, c1, c2, _⟩ := id hb3
          clear hst hq hy hz hbl
          by_cases hyz : y < z
          · have HS2 : Hid (bestTo (faF ps) (j + 1) = j) := Lib.hid (by rw [HST.out, if_pos hyz])
            go_wp2_with fail
            go_quiet (fail)
            have hd := (Chg.refl No wr).drewN nq
            have hch := hch.keep hd
            have hb3 := hb3.keep hd
            clear d6 e6 c0 c1 c2
            generalize wr.drewN nq = W at hd hch hb3 ⊢
            go_wp2_with fail
            go_round
            case rel => exact ⟨j + 1, by omega, by omega, by go_num, by rw [HS2.out], hb3, hch⟩
            case measure => simp [intOf]; omega
          · have HS2 : Hid (bestTo (faF ps) (j + 1) = q) := Lib.hid (by rw [HST.out, if_neg hyz])
            go_wp2_with fail
            go_quiet (fail)
            have hd := (Chg.refl No wr).drewN nq
            have hch := hch.keep hd
            have hb3 := hb3.keep hd
            clear d6 e6 c0 c1 c2
            generalize wr.drewN nq = W at hd hch hb3 ⊢
            go_wp2_with fail
            go_round
            case rel => exact ⟨j + 1, by omega, by omega, by go_num, by rw [HS2.out], hb3, hch⟩
            case measure => simp [intOf]; omega
        · have hjl : j = ps.length := by omega
          subst hjl
          obtain ⟨c0, c1, c2, _⟩ := id hb3
          go_wp2_with fail
          go_ret2
          exact ⟨_, _, rfl, by rw [HV.out]; rfl, by rw [HO.out]; rfl, hch⟩

set_option maxRecDepth 100000 in
set_option maxHeartbeats 2000000 in
theorem implBestPlayer_any (v : Value) (t : To) (w : World) (h : RT No w v t) :
    Calls Try.prog 30 #[v] w (Ret2 fun v0 v1 w' => v0 = .int .i64 (bestV t) ∧ v1 = .bool (okBest t) ∧ Chg No w w') := by
  have h0 := h
  obtain ⟨it, ps, rq⟩ := t
  obtain ⟨pv, rv, rfl, hps, hrq⟩ := h
  simp only at hps hrq
  obtain ⟨ra, rn, rc, rfl⟩ := hrq.shape
  obtain ⟨a, cap, rfl, hcap, hmax, hlen, pf, mf, hl, hcl⟩ := id hps
  cases ht : tourB ⟨it, ps, rq⟩
  · have HO : Hid (okBest ⟨it, ps, rq⟩ = false) := Lib.hid (by simp [okBest, ht])
    have HV : Hid (bestV ⟨it, ps, rq⟩ = 0) := Lib.hid (by simp [bestV, okBest, ht])
    have HT := Lib.hid ht
    clear ht hl hcl
    go_enter Try.func30, Try.ntmps30
    go_wp2_with fail
    refine box31 (R := fun W => Calls _ _ _ W _) (fun W kW b0 => ?_)
    refine (IsTournament_any _ ⟨it, ps, rq⟩ W (h0.keep kW)).mono ?_
    rintro e w1 ⟨_, rfl, rfl, k1⟩
    rw [HT.out]
    go_wp2_with fail
    go_ret2
    exact ⟨_, _, rfl, by rw [HV.out]; rfl, by rw [HO.out]; rfl, kW.keep k1⟩
  · by_cases hn : ps.length = 0
    · have HO : Hid (okBest ⟨it, ps, rq⟩ = false) := Lib.hid (by simp [okBest, hn])
      have HV : Hid (bestV ⟨it, ps, rq⟩ = 0) := Lib.hid (by simp [bestV, okBest, hn])
      have HT := Lib.hid ht
      have hn' : ((ps.length : Int) == 0) = true := by simp [hn]
      clear ht hl hcl hn
      go_enter Try.func30, Try.ntmps30
      go_wp2_with fail
      refine box31 (R := fun W => Calls _ _ _ W _) (fun W kW b0 => ?_)
      refine (IsTournament_any _ ⟨it, ps, rq⟩ W (h0.keep kW)).mono ?_
      rintro e w1 ⟨_, rfl, rfl, k1⟩
      rw [HT.out]
      obtain ⟨c0, c1, c2, _⟩ := b0.keep k1
      go_wp2_with fail
      go_ret2
      exact ⟨_, _, rfl, by rw [HV.out]; rfl, by rw [HO.out]; rfl, kW.keep k1⟩
    · have hpos : 0 < ps.length := by omega
      have HO : Hid (okBest ⟨it, ps, rq⟩ = true) := Lib.hid (by simp [okBest, ht, hpos])
      have HV : Hid (bestV ⟨it, ps, rq⟩ = (bestTo (faF ps) ps.length : Int)) := Lib.hid (by simp [bestV, okBest, ht, hpos])
      have HT := Lib.hid ht
      have hn' : ((ps.length : Int) == 0) = false := by rw [beq_eq_false_iff_ne]; omega
      obtain ⟨b, off, rfl, _, hb, hcell⟩ := hcl (by intro e; simp [e] at hpos)
      have HC := Lib.hid hcell
      have HL := Lib.hid hl
      clear ht hl hcl hn hcell
      go_enter Try.func30, Try.ntmps30
      go_wp2_with fail
      refine box31 (R := fun W => Calls _ _ _ W _) (fun W kW b0 => ?_)
      refine (IsTournament_any _ ⟨it, ps, rq⟩ W (h0.keep kW)).mono ?_
      rintro e w1 ⟨_, rfl, rfl, k1⟩
      rw [HT.out]
      have b0 := b0.keep k1
      have kk := kW.keep k1
      obtain ⟨c0, c1, c2, _⟩ := id b0
      go_wp2_with fail
      clear c0 c1 c2
      go_loopw [4, 19] (fun s i wr => ∃ j : Nat, j ≤ ps.length ∧ i = .int .i64 j ∧ s = .int .i64 (bestTo (faF ps) j : Int) ∧ Box3 wr w.heap.size (.int .i64 it) (.slice (some ⟨b, off, none⟩) ps.length cap) (.slice ra rn rc) ∧ Chg No w wr) (fun _ i _ => ps.length - (intOf i).toNat)
      case atStart => exact ⟨0, Nat.zero_le _, rfl, rfl, b0, kk⟩
      case round =>
        clear b0 kk k1 kW
        obtain ⟨j, hj, rfl, rfl, hb3, hch⟩ := hrel
        by_cases hlt : j < ps.length
        · have hbl : bestTo (faF ps) j < ps.length := by
            rcases Nat.eq_zero_or_pos j with rfl | hp
            · exact hpos
            · have := bestTo_lt (faF ps) hp; omega
          obtain ⟨q, hq⟩ : ∃ q, bestTo (faF ps) j = q := ⟨_, rfl⟩
          have hst : bestTo (faF ps) (j + 1) = if faF ps j < faF ps q then j else q := by rw [bestTo, hq]
          rw [hq] at hbl ⊢
          have h7 := (HC.out j hlt).step hch hb (fun e => e)
          obtain ⟨hpj, hmj⟩ := HL.out j hlt
          have e6 := ((HC.out q hbl).step hch hb (fun e => e)).c6
          obtain ⟨z, hz⟩ : ∃ z, faF ps q = z := ⟨_, rfl⟩
          have hyf : faF ps j = (ps.getD j dPl).fa := rfl
          obtain ⟨y, hy⟩ : ∃ y, ps.getD j dPl = y := ⟨_, rfl⟩
          rw [hy] at h7 hpj hmj hyf
          rw [show (ps.getD q dPl).fa = z from hz] at e6
          rw [hyf, hz] at hst
          have HST := Lib.hid hst
          have hj0 : (0 : Int) ≤ (j : Int) := Int.natCast_nonneg _
          have hj2 : (j : Int) < (ps.length : Int) := by omega
          have hq0 : (0 : Int) ≤ (q : Int) := Int.natCast_nonneg _
          have hq2 : (q : Int) < (ps.length : Int) := by omega
          have hw1 : IntKind.i64.wrap ((j : Int) + 1) = (j : Int) + 1 := IntWalk.i64_in _ (by omega)
          generalize pf j = pj at hpj h7
          generalize mf j = mj at hmj h7
          obtain ⟨ya, yn, yc, rfl⟩ := hpj.shape
          obtain ⟨za, zn, zc, rfl⟩ := hmj.shape
          obtain ⟨g0, g1, g2, g3, g4, g5, g6⟩ := id h7
          have kal := (Chg.refl No wr).alloc (.cells #[.int .i64 y.frm, .int .i64 y.ca.pol, .int .i64 y.ca.size, .slice ya yn yc, .slice za zn zc, .int .i64 y.ca.hand, .int .i64 y.fa] 70)
          have bp := Box7.new wr (.int .i64 y.frm) (.int .i64 y.ca.pol) (.int .i64 y.ca.size) (.slice ya yn yc) (.slice za zn zc) (.int .i64 y.ca.hand) (.int .i64 y.fa) 70
          have hblt := Nat.lt_of_lt_of_le hb hch.size
          have e6 := (kal.cellD b (off + q * 7 + 6) hblt (fun e => e)).trans e6
          have hb3 := hb3.keep kal
          have hch := hch.keep kal
          obtain ⟨c0, c1, c2, _⟩ := id hb3
          have p6 := bp.c6
          clear hst hq hyf hz hbl h7 hy bp
          by_cases hyz : y.fa < z
          · have HS2 : Hid (bestTo (faF ps) (j + 1) = j) := Lib.hid (by rw [HST.out, if_pos hyz])
            go_wp2_with fail
            go_quiet (fail)
            clear g0 g1 g2 g3 g4 g5 g6 kal e6 c0 c1 c2 p6
            have hd := (Chg.refl No (wr.alloc (.cells #[.int .i64 y.frm, .int .i64 y.ca.pol, .int .i64 y.ca.size, .slice ya yn yc, .slice za zn zc, .int .i64 y.ca.hand, .int .i64 y.fa] 70))).drewN nq
            have hch := hch.keep hd
            have hb3 := hb3.keep hd
            generalize World.drewN _ nq = W at hch hb3 ⊢
            go_wp2_with fail
            go_round
            case rel => exact ⟨j + 1, by omega, by go_num, by rw [HS2.out], hb3, hch⟩
            case measure => simp [intOf]; omega
          · have HS2 : Hid (bestTo (faF ps) (j + 1) = q) := Lib.hid (by rw [HST.out, if_neg hyz])
            go_wp2_with fail
            go_quiet (fail)
            clear g0 g1 g2 g3 g4 g5 g6 kal e6 c0 c1 c2 p6
            have hd := (Chg.refl No (wr.alloc (.cells #[.int .i64 y.frm, .int .i64 y.ca.pol, .int .i64 y.ca.size, .slice ya yn yc, .slice za zn zc, .int .i64 y.ca.hand, .int .i64 y.fa] 70))).drewN nq
            have hch := hch.keep hd
            have hb3 := hb3.keep hd
            generalize World.drewN _ nq = W at hch hb3 ⊢
            go_wp2_with fail
            go_round
            case rel => exact ⟨j + 1, by omega, by go_num, by rw [HS2.out], hb3, hch⟩
            case measure => simp [intOf]; omega
        · have hjl : j = ps.length := by omega
          subst hjl
          go_wp2_with fail
          go_ret2
          exact ⟨_, _, rfl, by rw [HV.out]; rfl, by rw [HO.out]; rfl, hch⟩
end Go.Proofs.Ytmdcmfnpfkfocaa
