import Derived.Test.YtodnkkmjjlfoiaaGreatTe
import Derived.Test.YtodnkkmjjlfoiaaGreatPk6
import Derived.Test.YtodnkkmjjlfoiaaGreatPk4
import Derived.Test.YtodnkkmjjlfoiaaGreatPk8
/- the law of IsTournament returns true -/
namespace Go.Proofs.YtodnkkmjjlfoiaaGreat
open Go.RowKit
end Go.Proofs.YtodnkkmjjlfoiaaGreat

/- BestPlayer, both sides -/
namespace Go.Proofs.YtodnkkmjjlfoiaaGreat
open Go.RowKit

/-- the first of the least among the first j -/
def bestTo (f : Nat → Int) : Nat → Nat
  | 0 => 0
  | j + 1 => if f j < f (bestTo f j) then j else bestTo f j
theorem bestTo_lt (f : Nat → Int) {j : Nat} (h : 0 < j) : bestTo f j < j := by
  induction j with
  | zero => omega
  | succ j ih =>
    unfold bestTo
    split
    · omega
    · rcases Nat.eq_zero_or_pos j with rfl | hp
      · simp [bestTo]
      · have := ih hp; omega
theorem bestTo_one (f : Nat → Int) : bestTo f 1 = 0 := by simp [bestTo]
def faF (ps : List Pl) (i : Nat) : Int := (ps.getD i dPl).fa
def okBest (t : To) : Bool := tourB t && decide (0 < t.ps.length)
def bestV (t : To) : Int := if okBest t then (bestTo (faF t.ps) t.ps.length : Int) else 0

set_option maxRecDepth 100000 in
set_option maxHeartbeats 2000000 in
theorem specBestPlayer_any (v : Value) (t : To) (w : World) (h : RT No w v t) :
    Calls Tryz.prog 26 #[v] w (Ret2 fun v0 v1 w' => v0 = .int .i64 (bestV t) ∧ v1 = .bool (okBest t) ∧ Chg No w w') := by
  have h0 := h
  obtain ⟨it, ps, rq⟩ := t
  obtain ⟨pv, rv, rfl, hps, hrq⟩ := h
  simp only at hps hrq
  obtain ⟨ra, rn, rc, rfl⟩ := hrq.shape
  obtain ⟨a, cap, rfl, hcap, hmax, hlen, pf, mf, hl, hcl⟩ := id hps
  cases ht : tourB ⟨it, ps, rq⟩
  · have HO : Hid (okBest ⟨it, ps, rq⟩ = false) := Lib.hid (by simp [okBest, ht])
    have HV : Hid (bestV ⟨it, ps, rq⟩ = 0) := Lib.hid (by simp [bestV, okBest, ht])
    have HT := Lib.hid ht
    clear ht hl hcl
    go_enter Tryz.func26, Tryz.ntmps26
    go_wp2_with fail
    refine box31 (R := fun W => Calls _ _ _ W _) (fun W kW b0 => ?_)
    refine (l12Tour_any _ ⟨it, ps, rq⟩ W (h0.keep kW)).mono ?_
    rintro e w1 ⟨_, rfl, rfl, k1⟩
    rw [HT.out]
    go_wp2_with fail
    go_ret2
    exact ⟨_, _, rfl, by rw [HV.out]; rfl, by rw [HO.out]; rfl, kW.keep k1⟩
  · by_cases hn : ps.length = 0
    · have HO : Hid (okBest ⟨it, ps, rq⟩ = false) := Lib.hid (by simp [okBest, hn])
      have HV : Hid (bestV ⟨it, ps, rq⟩ = 0) := Lib.hid (by simp [bestV, okBest, hn])
      have HT := Lib.hid ht
      have hn' : ((ps.length : Int) == 0) = true := by simp [hn]
      clear ht hl hcl hn
      go_enter Tryz.func26, Tryz.ntmps26
      go_wp2_with fail
      refine box31 (R := fun W => Calls _ _ _ W _) (fun W kW b0 => ?_)
      refine (l12Tour_any _ ⟨it, ps, rq⟩ W (h0.keep kW)).mono ?_
      rintro e w1 ⟨_, rfl, rfl, k1⟩
      rw [HT.out]
      obtain ⟨c0, c1, c2, _⟩ := b0.keep k1
      go_wp2_with fail
      go_ret2
      exact ⟨_, _, rfl, by rw [HV.out]; rfl, by rw [HO.out]; rfl, kW.keep k1⟩
    · have hpos : 0 < ps.length := by omega
      have HO : Hid (okBest ⟨it, ps, rq⟩ = true) := Lib.hid (by simp [okBest, ht, hpos])
      have HV : Hid (bestV ⟨it, ps, rq⟩ = (bestTo (faF ps) ps.length : Int)) := Lib.hid (by simp [bestV, okBest, ht, hpos])
      have HT := Lib.hid ht
      have hn' : ((ps.length : Int) == 0) = false := by rw [beq_eq_false_iff_ne]; omega
      obtain ⟨b, off, rfl, _, hb, hcell⟩ := hcl (by intro e; simp [e] at hpos)
      have HC := Lib.hid hcell
      clear ht hl hcl hn hcell
      go_enter Tryz.func26, Tryz.ntmps26
      go_wp2_with fail
      refine box31 (R := fun W => Calls _ _ _ W _) (fun W kW b0 => ?_)
      refine (l12Tour_any _ ⟨it, ps, rq⟩ W (h0.keep kW)).mono ?_
      rintro e w1 ⟨_, rfl, rfl, k1⟩
      rw [HT.out]
      have b0 := b0.keep k1
      have kk := kW.keep k1
      obtain ⟨c0, c1, c2, _⟩ := id b0
      go_wp2_with fail
      clear c0 c1 c2
      go_loopw [4, 5] (fun s i wr => ∃ j : Nat, 1 ≤ j ∧ j ≤ ps.length ∧ i = .int .i64 j ∧ s = .int .i64 (bestTo (faF ps) j : Int) ∧ Box3 wr w.heap.size (.int .i64 it) (.slice (some ⟨b, off, none⟩) ps.length cap) (.slice ra rn rc) ∧ Chg No w wr) (fun _ i _ => ps.length - (intOf i).toNat)
      case atStart => exact ⟨1, Nat.le_refl _, hpos, rfl, by rw [bestTo_one]; rfl, b0, kk⟩
      case round =>
        clear b0 kk k1 kW
        obtain ⟨j, hj1, hj, rfl, rfl, hb3, hch⟩ := hrel
        by_cases hlt : j < ps.length
        · have hbl := bestTo_lt (faF ps) (j := j) hj1
          obtain ⟨q, hq⟩ : ∃ q, bestTo (faF ps) j = q := ⟨_, rfl⟩
          have hst : bestTo (faF ps) (j + 1) = if faF ps j < faF ps q then j else q := by rw [bestTo, hq]
          rw [hq] at hbl ⊢
          have d6 := ((HC.out j hlt).step hch hb (fun e => e)).c6
          have e6 := ((HC.out q (by omega)).step hch hb (fun e => e)).c6
          obtain ⟨y, hy⟩ : ∃ y, faF ps j = y := ⟨_, rfl⟩
          obtain ⟨z, hz⟩ : ∃ z, faF ps q = z := ⟨_, rfl⟩
          rw [show (ps.getD j dPl).fa = y from hy] at d6
          rw [show (ps.getD q dPl).fa = z from hz] at e6
          rw [hy, hz] at hst
          have HST := Lib.hid hst
          have hj0 : (0 : Int) ≤ (j : Int) := Int.natCast_nonneg _
          have hj2 : (j : Int) < (ps.length : Int) := by omega
          have hq0 : (0 : Int) ≤ (q : Int) := Int.natCast_nonneg _
          have hq2 : (q : Int) < (ps.length : Int) := by omega
          have hw1 : IntKind.i64.wrap ((j : Int) + 1) = (j : Int) + 1 := IntWalk.i64_in _ (by omega)
          obtain ⟨c0, c1, c2, _⟩ := id hb3
          clear hst hq hy hz hbl
          by_cases hyz : y < z
          · have HS2 : Hid (bestTo (faF ps) (j + 1) = j) := Lib.hid (by rw [HST.out, if_pos hyz])
            go_wp2_with fail
            go_quiet (fail)
            have hd := (Chg.refl No wr).drewN nq
            have hch := hch.keep hd
            have hb3 := hb3.keep hd
            clear d6 e6 c0 c1 c2
            generalize wr.drewN nq = W at hd hch hb3 ⊢
            go_wp2_with fail
            go_round
            case rel => exact ⟨j + 1, by omega, by omega, by go_num, by rw [HS2.out], hb3, hch⟩
            case measure => simp [intOf]; omega
          · have HS2 : Hid (bestTo (faF ps) (j + 1) = q) := Lib.hid (by rw [HST.out, if_neg hyz])
            go_wp2_with fail
            go_quiet (fail)
            have hd := (Chg.refl No wr).drewN nq
            have hch := hch.keep hd
            have hb3 := hb3.keep hd
            clear d6 e6 c0 c1 c2
            generalize wr.drewN nq = W at hd hch hb3 ⊢
            go_wp2_with fail
            go_round
            case rel => exact ⟨j + 1, by omega, by omega, by go_num, by rw [HS2.out], hb3, hch⟩
            case measure => simp [intOf]; omega
        · have hjl : j = ps.length := by omega
          subst hjl
          obtain ⟨c0, c1, c2, _⟩ := id hb3
          go_wp2_with fail
          go_ret2
          exact ⟨_, _, rfl, by rw [HV.out]; rfl, by rw [HO.out]; rfl, hch⟩

set_option maxRecDepth 100000 in
set_option maxHeartbeats 2000000 in
theorem implBestPlayer_any (v : Value) (t : To) (w : World) (h : RT No w v t) :
    Calls Tryz.prog 25 #[v] w (Ret2 fun v0 v1 w' => v0 = .int .i64 (bestV t) ∧ v1 = .bool (okBest t) ∧ Chg No w w') := by
  have h0 := h
  obtain ⟨it, ps, rq⟩ := t
  obtain ⟨pv, rv, rfl, hps, hrq⟩ := h
  simp only at hps hrq
  obtain ⟨ra, rn, rc, rfl⟩ := hrq.shape
  obtain ⟨a, cap, rfl, hcap, hmax, hlen, pf, mf, hl, hcl⟩ := id hps
  cases ht : tourB ⟨it, ps, rq⟩
  · have HO : Hid (okBest ⟨it, ps, rq⟩ = false) := Lib.hid (by simp [okBest, ht])
    have HV : Hid (bestV ⟨it, ps, rq⟩ = 0) := Lib.hid (by simp [bestV, okBest, ht])
    have HT := Lib.hid ht
    clear ht hl hcl
    go_enter Tryz.func25, Tryz.ntmps25
    go_wp2_with fail
    refine box31 (R := fun W => Calls _ _ _ W _) (fun W kW b0 => ?_)
    refine (IsTournament_any _ ⟨it, ps, rq⟩ W (h0.keep kW)).mono ?_
    rintro e w1 ⟨_, rfl, rfl, k1⟩
    rw [HT.out]
    go_wp2_with fail
    go_ret2
    exact ⟨_, _, rfl, by rw [HV.out]; rfl, by rw [HO.out]; rfl, kW.keep k1⟩
  · by_cases hn : ps.length = 0
    · have HO : Hid (okBest ⟨it, ps, rq⟩ = false) := Lib.hid (by simp [okBest, hn])
      have HV : Hid (bestV ⟨it, ps, rq⟩ = 0) := Lib.hid (by simp [bestV, okBest, hn])
      have HT := Lib.hid ht
      have hn' : ((ps.length : Int) == 0) = true := by simp [hn]
      clear ht hl hcl hn
      go_enter Tryz.func25, Tryz.ntmps25
      go_wp2_with fail
      refine box31 (R := fun W => Calls _ _ _ W _) (fun W kW b0 => ?_)
      refine (IsTournament_any _ ⟨it, ps, rq⟩ W (h0.keep kW)).mono ?_
      rintro e w1 ⟨_, rfl, rfl, k1⟩
      rw [HT.out]
      obtain ⟨c0, c1, c2, _⟩ := b0.keep k1
      go_wp2_with fail
      go_ret2
      exact ⟨_, _, rfl, by rw [HV.out]; rfl, by rw [HO.out]; rfl, kW.keep k1⟩
    · have hpos : 0 < ps.length := by omega
      have HO : Hid (okBest ⟨it, ps, rq⟩ = true) := Lib.hid (by simp [okBest, ht, hpos])
      have HV : Hid (bestV ⟨it, ps, rq⟩ = (bestTo (faF ps) ps.length : Int)) := Lib.hid (by simp [bestV, okBest, ht, hpos])
      have HT := Lib.hid ht
      have hn' : ((ps.length : Int) == 0) = false := by rw [beq_eq_false_iff_ne]; omega
      obtain ⟨b, off, rfl, _, hb, hcell⟩ := hcl (by intro e; simp [e] at hpos)
      have HC := Lib.hid hcell
      have HL := Lib.hid hl
      clear ht hl hcl hn hcell
      go_enter Tryz.func25, Tryz.ntmps25
      go_wp2_with fail
      refine box31 (R := fun W => Calls _ _ _ W _) (fun W kW b0 => ?_)
      refine (IsTournament_any _ ⟨it, ps, rq⟩ W (h0.keep kW)).mono ?_
      rintro e w1 ⟨_, rfl, rfl, k1⟩
      rw [HT.out]
      have b0 := b0.keep k1
      have kk := kW.keep k1
      obtain ⟨c0, c1, c2, _⟩ := id b0
      go_wp2_with fail
      clear c0 c1 c2
      go_loopw [4, 19] (fun s i wr => ∃ j : Nat, j ≤ ps.length ∧ i = .int .i64 j ∧ s = .int .i64 (bestTo (faF ps) j : Int) ∧ Box3 wr w.heap.size (.int .i64 it) (.slice (some ⟨b, off, none⟩) ps.length cap) (.slice ra rn rc) ∧ Chg No w wr) (fun _ i _ => ps.length - (intOf i).toNat)
      case atStart => exact ⟨0, Nat.zero_le _, rfl, rfl, b0, kk⟩
      case round =>
        clear b0 kk k1 kW
        obtain ⟨j, hj, rfl, rfl, hb3, hch⟩ := hrel
        by_cases hlt : j < ps.length
        · have hbl : bestTo (faF ps) j < ps.length := by
            rcases Nat.eq_zero_or_pos j with rfl | hp
            · exact hpos
            · have := bestTo_lt (faF ps) hp; omega
          obtain ⟨q, hq⟩ : ∃ q, bestTo (faF ps) j = q := ⟨_, rfl⟩
          have hst : bestTo (faF ps) (j + 1) = if faF ps j < faF ps q then j else q := by rw [bestTo, hq]
          rw [hq] at hbl ⊢
          have h7 := (HC.out j hlt).step hch hb (fun e => e)
          obtain ⟨hpj, hmj⟩ := HL.out j hlt
          have e6 := ((HC.out q hbl).step hch hb (fun e => e)).c6
          obtain ⟨z, hz⟩ : ∃ z, faF ps q = z := ⟨_, rfl⟩
          have hyf : faF ps j = (ps.getD j dPl).fa := rfl
          obtain ⟨y, hy⟩ : ∃ y, ps.getD j dPl = y := ⟨_, rfl⟩
          rw [hy] at h7 hpj hmj hyf
          rw [show (ps.getD q dPl).fa = z from hz] at e6
          rw [hyf, hz] at hst
          have HST := Lib.hid hst
          have hj0 : (0 : Int) ≤ (j : Int) := Int.natCast_nonneg _
          have hj2 : (j : Int) < (ps.length : Int) := by omega
          have hq0 : (0 : Int) ≤ (q : Int) := Int.natCast_nonneg _
          have hq2 : (q : Int) < (ps.length : Int) := by omega
          have hw1 : IntKind.i64.wrap ((j : Int) + 1) = (j : Int) + 1 := IntWalk.i64_in _ (by omega)
          generalize pf j = pj at hpj h7
          generalize mf j = mj at hmj h7
          obtain ⟨ya, yn, yc, rfl⟩ := hpj.shape
          obtain ⟨za, zn, zc, rfl⟩ := hmj.shape
          obtain ⟨g0, g1, g2, g3, g4, g5, g6⟩ := id h7
          have kal := (Chg.refl No wr).alloc (.cells #[.int .i64 y.frm, .int .i64 y.ca.pol, .int .i64 y.ca.size, .slice ya yn yc, .slice za zn zc, .int .i64 y.ca.hand, .int .i64 y.fa] 69)
          have bp := Box7.new wr (.int .i64 y.frm) (.int .i64 y.ca.pol) (.int .i64 y.ca.size) (.slice ya yn yc) (.slice za zn zc) (.int .i64 y.ca.hand) (.int .i64 y.fa) 69
          have hblt := Nat.lt_of_lt_of_le hb hch.size
          have e6 := (kal.cellD b (off + q * 7 + 6) hblt (fun e => e)).trans e6
          have hb3 := hb3.keep kal
          have hch := hch.keep kal
          obtain ⟨c0, c1, c2, _⟩ := id hb3
          have p6 := bp.c6
          clear hst hq hyf hz hbl h7 hy bp
          by_cases hyz : y.fa < z
          · have HS2 : Hid (bestTo (faF ps) (j + 1) = j) := Lib.hid (by rw [HST.out, if_pos hyz])
            go_wp2_with fail
            go_quiet (fail)
            clear g0 g1 g2 g3 g4 g5 g6 kal e6 c0 c1 c2 p6
            have hd := (Chg.refl No (wr.alloc (.cells #[.int .i64 y.frm, .int .i64 y.ca.pol, .int .i64 y.ca.size, .slice ya yn yc, .slice za zn zc, .int .i64 y.ca.hand, .int .i64 y.fa] 69))).drewN nq
            have hch := hch.keep hd
            have hb3 := hb3.keep hd
            generalize World.drewN _ nq = W at hch hb3 ⊢
            go_wp2_with fail
            go_round
            case rel => exact ⟨j + 1, by omega, by go_num, by rw [HS2.out], hb3, hch⟩
            case measure => simp [intOf]; omega
          · have HS2 : Hid (bestTo (faF ps) (j + 1) = q) := Lib.hid (by rw [HST.out, if_neg hyz])
            go_wp2_with fail
            go_quiet (fail)
            clear g0 g1 g2 g3 g4 g5 g6 kal e6 c0 c1 c2 p6
            have hd := (Chg.refl No (wr.alloc (.cells #[.int .i64 y.frm, .int .i64 y.ca.pol, .int .i64 y.ca.size, .slice ya yn yc, .slice za zn zc, .int .i64 y.ca.hand, .int .i64 y.fa] 69))).drewN nq
            have hch := hch.keep hd
            have hb3 := hb3.keep hd
            generalize World.drewN _ nq = W at hch hb3 ⊢
            go_wp2_with fail
            go_round
            case rel => exact ⟨j + 1, by omega, by go_num, by rw [HS2.out], hb3, hch⟩
            case measure => simp [intOf]; omega
        · have hjl : j = ps.length := by omega
          subst hjl
          go_wp2_with fail
          go_ret2
          exact ⟨_, _, rfl, by rw [HV.out]; rfl, by rw [HO.out]; rfl, hch⟩
end Go.Proofs.YtodnkkmjjlfoiaaGreat

/- CruelItem, both sides: the whole -/
namespace Go.Proofs.YtodnkkmjjlfoiaaGreat
open Go.RowKit

theorem miss_uni {l : List Int} {m m' : Nat} (h : IsMiss l m) (h' : IsMiss l m') : m = m' := by
  rcases Nat.lt_trichotomy m m' with e | e | e
  · exact absurd (h'.2 m e) h.1
  · exact e
  · exact absurd (h.2 m' e) h'.1
noncomputable def missTr (t : To) (i : Int) : Nat := Classical.choose (miss_ex (t.ps.getD i.toNat dPl).ca.pages)
theorem missTr_spec (t : To) (i : Int) : IsMiss (t.ps.getD i.toNat dPl).ca.pages (missTr t i) := (Classical.choose_spec (miss_ex (t.ps.getD i.toNat dPl).ca.pages)).2
noncomputable def cruelV (t : To) (i : Int) : Int := if okCruel t i then (missTr t i : Int) else 0

set_option maxRecDepth 100000 in
set_option maxHeartbeats 4000000 in
theorem specCruelItem_any (v : Value) (t : To) (i : Int) (w : World) (h : RT No w v t) :
    Calls Tryz.prog 32 #[v, .int .i64 i] w (Ret2 fun v0 v1 w' => v0 = .int .i64 (cruelV t i) ∧ v1 = .bool (okCruel t i) ∧ Chg No w w') := by
  have h0 := h
  obtain ⟨it, ps, rq⟩ := t
  obtain ⟨pv, rv, rfl, hps, hrq⟩ := h
  simp only at hps hrq
  obtain ⟨ra, rn, rc, rfl⟩ := hrq.shape
  obtain ⟨a, cap, rfl, hcap, hmax, hlen, pf, mf, hl, hcl⟩ := id hps
  cases ht : tourB ⟨it, ps, rq⟩
  · have HO : Hid (okCruel ⟨it, ps, rq⟩ i = false) := Lib.hid (by simp [okCruel, ht])
    have HV : Hid (cruelV ⟨it, ps, rq⟩ i = 0) := Lib.hid (by simp [cruelV, okCruel, ht])
    have HT := Lib.hid ht
    have k0 := (Chg.refl No w).alloc (.cells #[.int .i64 it, .slice a ps.length cap, .slice ra rn rc] 31)
    have b0 := Box3.new w (.int .i64 it) (.slice a ps.length cap) (.slice ra rn rc) 31
    obtain ⟨C, hC1, hC2⟩ : ∃ C : World → Prop, (∀ W, C W → Box3 W w.heap.size (.int .i64 it) (.slice a ps.length cap) (.slice ra rn rc) ∧ Chg No w W) ∧ (∀ W, Box3 W w.heap.size (.int .i64 it) (.slice a ps.length cap) (.slice ra rn rc) → Chg No w W → C W) := ⟨_, fun _ h => h, fun _ h h' => ⟨h, h'⟩⟩
    have HCELL : Hid (∀ W, C W → W.cell? ⟨w.heap.size, 0, none⟩ = some (.int .i64 it) ∧ W.cell? ⟨w.heap.size, 1, none⟩ = some (.slice a ps.length cap) ∧ W.cell? ⟨w.heap.size, 2, none⟩ = some (.slice ra rn rc) ∧ True) := Lib.hid (fun W hW => by
      obtain ⟨g1, g2⟩ := hC1 W hW
      exact ⟨g1.c0, g1.c1, g1.c2, trivial⟩)
    have HK : Hid (∀ W W', C W → Chg No W W' → C W') := Lib.hid (fun W W' hW hk => hC2 W' ((hC1 W hW).1.keep hk) ((hC1 W hW).2.keep hk))
    have HX := Lib.hid hC1
    have hC0 := hC2 _ (b0.keep (Chg.refl No _).drew) k0.drew
    clear hC1 hC2 b0 k0
    clear ht hl hcl
    go_enter Tryz.func32, Tryz.ntmps32
    go_wp2_with fail
    refine wp_region_X C (by kernel_rfl) (by kernel_rfl) hC0 ?_
    clear hC0
    refine wpX_val (.agg #[.int .i64 it, .slice a ps.length cap, .slice ra rn rc]) rfl (by intro W hW; obtain ⟨c0, c1, c2, d3⟩ := HCELL.out W hW; go_simp) ?_
    simp only [Act.put, List.setIfInBounds_toArray, List.set_cons_zero, List.set_cons_succ]
    refine wpX_call (.bool false) (f := 39) (args := #[.agg #[.int .i64 it, .slice a ps.length cap, .slice ra rn rc]]) rfl (by intro W hW; obtain ⟨c0, c1, c2, d3⟩ := HCELL.out W hW; go_simp) (fun W hW => (l12Tour_any _ ⟨it, ps, rq⟩ W (h0.keep (HX.out W hW).2)).mono (by rintro e w' ⟨_, rfl, rfl, hk⟩; exact ⟨by rw [HT.out], HK.out _ _ hW hk⟩)) ?_
    simp only [Act.put, List.setIfInBounds_toArray, List.set_cons_zero, List.set_cons_succ]
    refine wpX_val (.bool true) rfl (by intro W hW; obtain ⟨c0, c1, c2, d3⟩ := HCELL.out W hW; go_simp) ?_
    simp only [Act.put, List.setIfInBounds_toArray, List.set_cons_zero, List.set_cons_succ]
    refine wpX_val (.bool true) rfl (by intro W hW; obtain ⟨c0, c1, c2, d3⟩ := HCELL.out W hW; go_simp) ?_
    simp only [Act.put, List.setIfInBounds_toArray, List.set_cons_zero, List.set_cons_succ]
    repeat (first | (refine wpX_skip rfl ?_; simp only [Act.put, List.setIfInBounds_toArray, List.set_cons_zero, List.set_cons_succ]) | (refine wpX_val (.bool true) rfl (by intro W hW; go_simp) ?_; simp only [Act.put, List.setIfInBounds_toArray, List.set_cons_zero, List.set_cons_succ]))
    refine wpX_nil (fun W hW => ?_)
    have kW := (HX.out W hW).2
    go_wp2_with fail
    go_ret2
    exact ⟨_, _, rfl, by rw [HV.out]; rfl, by rw [HO.out]; rfl, kW⟩
  · cases hh : hasP ⟨it, ps, rq⟩ i
    · have HO : Hid (okCruel ⟨it, ps, rq⟩ i = false) := Lib.hid (by simp [okCruel, hh])
      have HV : Hid (cruelV ⟨it, ps, rq⟩ i = 0) := Lib.hid (by simp [cruelV, okCruel, hh])
      have HT := Lib.hid ht
      have HH := Lib.hid hh
      have k0 := (Chg.refl No w).alloc (.cells #[.int .i64 it, .slice a ps.length cap, .slice ra rn rc] 31)
      have b0 := Box3.new w (.int .i64 it) (.slice a ps.length cap) (.slice ra rn rc) 31
      obtain ⟨C, hC1, hC2⟩ : ∃ C : World → Prop, (∀ W, C W → Box3 W w.heap.size (.int .i64 it) (.slice a ps.length cap) (.slice ra rn rc) ∧ Chg No w W) ∧ (∀ W, Box3 W w.heap.size (.int .i64 it) (.slice a ps.length cap) (.slice ra rn rc) → Chg No w W → C W) := ⟨_, fun _ h => h, fun _ h h' => ⟨h, h'⟩⟩
      have HCELL : Hid (∀ W, C W → W.cell? ⟨w.heap.size, 0, none⟩ = some (.int .i64 it) ∧ W.cell? ⟨w.heap.size, 1, none⟩ = some (.slice a ps.length cap) ∧ W.cell? ⟨w.heap.size, 2, none⟩ = some (.slice ra rn rc) ∧ True) := Lib.hid (fun W hW => by
        obtain ⟨g1, g2⟩ := hC1 W hW
        exact ⟨g1.c0, g1.c1, g1.c2, trivial⟩)
      have HK : Hid (∀ W W', C W → Chg No W W' → C W') := Lib.hid (fun W W' hW hk => hC2 W' ((hC1 W hW).1.keep hk) ((hC1 W hW).2.keep hk))
      have HX := Lib.hid hC1
      have hC0 := hC2 _ (b0.keep (Chg.refl No _).drew) k0.drew
      clear hC1 hC2 b0 k0
      clear ht hh hl hcl
      go_enter Tryz.func32, Tryz.ntmps32
      go_wp2_with fail
      refine wp_region_X C (by kernel_rfl) (by kernel_rfl) hC0 ?_
      clear hC0
      refine wpX_val (.agg #[.int .i64 it, .slice a ps.length cap, .slice ra rn rc]) rfl (by intro W hW; obtain ⟨c0, c1, c2, d3⟩ := HCELL.out W hW; go_simp) ?_
      simp only [Act.put, List.setIfInBounds_toArray, List.set_cons_zero, List.set_cons_succ]
      refine wpX_call (.bool true) (f := 39) (args := #[.agg #[.int .i64 it, .slice a ps.length cap, .slice ra rn rc]]) rfl (by intro W hW; obtain ⟨c0, c1, c2, d3⟩ := HCELL.out W hW; go_simp) (fun W hW => (l12Tour_any _ ⟨it, ps, rq⟩ W (h0.keep (HX.out W hW).2)).mono (by rintro e w' ⟨_, rfl, rfl, hk⟩; exact ⟨by rw [HT.out], HK.out _ _ hW hk⟩)) ?_
      simp only [Act.put, List.setIfInBounds_toArray, List.set_cons_zero, List.set_cons_succ]
      refine wpX_val (.bool false) rfl (by intro W hW; obtain ⟨c0, c1, c2, d3⟩ := HCELL.out W hW; go_simp) ?_
      simp only [Act.put, List.setIfInBounds_toArray, List.set_cons_zero, List.set_cons_succ]
      refine wpX_val (.bool false) rfl (by intro W hW; obtain ⟨c0, c1, c2, d3⟩ := HCELL.out W hW; go_simp) ?_
      simp only [Act.put, List.setIfInBounds_toArray, List.set_cons_zero, List.set_cons_succ]
      refine wpX_val (.agg #[.int .i64 it, .slice a ps.length cap, .slice ra rn rc]) rfl (by intro W hW; obtain ⟨c0, c1, c2, d3⟩ := HCELL.out W hW; go_simp) ?_
      simp only [Act.put, List.setIfInBounds_toArray, List.set_cons_zero, List.set_cons_succ]
      refine wpX_val (.int .i64 i) rfl (by intro W hW; obtain ⟨c0, c1, c2, d3⟩ := HCELL.out W hW; go_simp) ?_
      simp only [Act.put, List.setIfInBounds_toArray, List.set_cons_zero, List.set_cons_succ]
      refine wpX_call (.bool false) (f := 68) (args := #[.agg #[.int .i64 it, .slice a ps.length cap, .slice ra rn rc], .int .i64 i]) rfl (by intro W hW; obtain ⟨c0, c1, c2, d3⟩ := HCELL.out W hW; go_simp) (fun W hW => (l12Has_any _ ⟨it, ps, rq⟩ i W (h0.keep (HX.out W hW).2)).mono (by rintro e w' ⟨_, rfl, rfl, hk⟩; exact ⟨by rw [HH.out], HK.out _ _ hW hk⟩)) ?_
      simp only [Act.put, List.setIfInBounds_toArray, List.set_cons_zero, List.set_cons_succ]
      refine wpX_val (.bool true) rfl (by intro W hW; obtain ⟨c0, c1, c2, d3⟩ := HCELL.out W hW; go_simp) ?_
      simp only [Act.put, List.setIfInBounds_toArray, List.set_cons_zero, List.set_cons_succ]
      refine wpX_val (.bool true) rfl (by intro W hW; obtain ⟨c0, c1, c2, d3⟩ := HCELL.out W hW; go_simp) ?_
      simp only [Act.put, List.setIfInBounds_toArray, List.set_cons_zero, List.set_cons_succ]
      refine wpX_val (.bool true) rfl (by intro W hW; obtain ⟨c0, c1, c2, d3⟩ := HCELL.out W hW; go_simp) ?_
      simp only [Act.put, List.setIfInBounds_toArray, List.set_cons_zero, List.set_cons_succ]
      repeat (first | (refine wpX_skip rfl ?_; simp only [Act.put, List.setIfInBounds_toArray, List.set_cons_zero, List.set_cons_succ]) | (refine wpX_val (.bool true) rfl (by intro W hW; go_simp) ?_; simp only [Act.put, List.setIfInBounds_toArray, List.set_cons_zero, List.set_cons_succ]))
      refine wpX_nil (fun W hW => ?_)
      have kW := (HX.out W hW).2
      go_wp2_with fail
      go_ret2
      exact ⟨_, _, rfl, by rw [HV.out]; rfl, by rw [HO.out]; rfl, kW⟩
    · skip
      have hik : 0 ≤ i ∧ i ≤ (ps.length : Int) - 1 := inB_iff.1 hh
      obtain ⟨k, rfl⟩ : ∃ k : Nat, i = (k : Int) := ⟨i.toNat, by omega⟩
      have hk : k < ps.length := by omega
      obtain ⟨b, off, rfl, _, hb, hcell⟩ := hcl (by intro e; simp [e] at hk)
      have h7 := hcell k hk
      obtain ⟨hpj, _⟩ := hl k hk
      obtain ⟨m, hmle, hm⟩ := miss_ex (ps.getD k dPl).ca.pages
      have hmc : missTr ⟨it, ps, rq⟩ (k : Int) = m := miss_uni (missTr_spec ⟨it, ps, rq⟩ (k : Int)) hm
      have hml := miss_lt (t := ⟨it, ps, rq⟩) ht (i := k) hk hm
      have hok : okCruel ⟨it, ps, rq⟩ (k : Int) = !(((ps.getD k dPl).ca.pages.length : Int) == it) := by simp only [okCruel, ht, hh, Bool.true_and]; rfl
      obtain ⟨l, hl2⟩ : ∃ l, (ps.getD k dPl).ca.pages = l := ⟨_, rfl⟩
      simp only at hml
      rw [hl2] at hm hpj hml hok hmle
      have d3 := h7.c3
      generalize pf k = pj at hpj d3
      obtain ⟨ya, yc, rfl, _⟩ := id hpj
      have hk0 : (0 : Int) ≤ (k : Int) := Int.natCast_nonneg _
      have hk1 : (k : Int) < (ps.length : Int) := by omega
      have HT := Lib.hid ht
      have HH := Lib.hid hh
      have HM := Lib.hid hm
      have HMC := Lib.hid hmc
      have HML := Lib.hid hml
      have HOK := Lib.hid hok
      have D3 := Lib.hid d3
      have hbb := hb
      clear h7 hcell hcl hl hl2 hm hmc hml hok hik hh ht hmle
      have k0 := (Chg.refl No w).alloc (.cells #[.int .i64 it, .slice (some ⟨b, off, none⟩) ps.length cap, .slice ra rn rc] 31)
      have b0 := Box3.new w (.int .i64 it) (.slice (some ⟨b, off, none⟩) ps.length cap) (.slice ra rn rc) 31
      obtain ⟨C, hC1, hC2⟩ : ∃ C : World → Prop, (∀ W, C W → Box3 W w.heap.size (.int .i64 it) (.slice (some ⟨b, off, none⟩) ps.length cap) (.slice ra rn rc) ∧ Chg No w W) ∧ (∀ W, Box3 W w.heap.size (.int .i64 it) (.slice (some ⟨b, off, none⟩) ps.length cap) (.slice ra rn rc) → Chg No w W → C W) := ⟨_, fun _ h => h, fun _ h h' => ⟨h, h'⟩⟩
      have HCELL : Hid (∀ W, C W → W.cell? ⟨w.heap.size, 0, none⟩ = some (.int .i64 it) ∧ W.cell? ⟨w.heap.size, 1, none⟩ = some (.slice (some ⟨b, off, none⟩) ps.length cap) ∧ W.cell? ⟨w.heap.size, 2, none⟩ = some (.slice ra rn rc) ∧ W.cell? ⟨b, off + k * 7 + 3, none⟩ = some (.slice ya l.length yc)) := Lib.hid (fun W hW => by
        obtain ⟨g1, g2⟩ := hC1 W hW
        exact ⟨g1.c0, g1.c1, g1.c2, (g2.cellD b _ hbb (fun e => e)).trans D3.out⟩)
      have HK : Hid (∀ W W', C W → Chg No W W' → C W') := Lib.hid (fun W W' hW hk => hC2 W' ((hC1 W hW).1.keep hk) ((hC1 W hW).2.keep hk))
      have HX := Lib.hid hC1
      have hC0 := hC2 _ (b0.keep (Chg.refl No _).drew) k0.drew
      clear hC1 hC2 b0 k0
      go_enter Tryz.func32, Tryz.ntmps32
      go_wp2_with fail
      refine wp_region_X C (by kernel_rfl) (by kernel_rfl) hC0 ?_
      clear hC0
      refine wpX_val (.agg #[.int .i64 it, .slice (some ⟨b, off, none⟩) ps.length cap, .slice ra rn rc]) rfl (by intro W hW; obtain ⟨c0, c1, c2, d3⟩ := HCELL.out W hW; go_simp) ?_
      simp only [Act.put, List.setIfInBounds_toArray, List.set_cons_zero, List.set_cons_succ]
      refine wpX_call (.bool true) (f := 39) (args := #[.agg #[.int .i64 it, .slice (some ⟨b, off, none⟩) ps.length cap, .slice ra rn rc]]) rfl (by intro W hW; obtain ⟨c0, c1, c2, d3⟩ := HCELL.out W hW; go_simp) (fun W hW => (l12Tour_any _ ⟨it, ps, rq⟩ W (h0.keep (HX.out W hW).2)).mono (by rintro e w' ⟨_, rfl, rfl, hk⟩; exact ⟨by rw [HT.out], HK.out _ _ hW hk⟩)) ?_
      simp only [Act.put, List.setIfInBounds_toArray, List.set_cons_zero, List.set_cons_succ]
      refine wpX_val (.bool false) rfl (by intro W hW; obtain ⟨c0, c1, c2, d3⟩ := HCELL.out W hW; go_simp) ?_
      simp only [Act.put, List.setIfInBounds_toArray, List.set_cons_zero, List.set_cons_succ]
      refine wpX_val (.bool false) rfl (by intro W hW; obtain ⟨c0, c1, c2, d3⟩ := HCELL.out W hW; go_simp) ?_
      simp only [Act.put, List.setIfInBounds_toArray, List.set_cons_zero, List.set_cons_succ]
      refine wpX_val (.agg #[.int .i64 it, .slice (some ⟨b, off, none⟩) ps.length cap, .slice ra rn rc]) rfl (by intro W hW; obtain ⟨c0, c1, c2, d3⟩ := HCELL.out W hW; go_simp) ?_
      simp only [Act.put, List.setIfInBounds_toArray, List.set_cons_zero, List.set_cons_succ]
      refine wpX_val (.int .i64 (k : Int)) rfl (by intro W hW; obtain ⟨c0, c1, c2, d3⟩ := HCELL.out W hW; go_simp) ?_
      simp only [Act.put, List.setIfInBounds_toArray, List.set_cons_zero, List.set_cons_succ]
      refine wpX_call (.bool true) (f := 68) (args := #[.agg #[.int .i64 it, .slice (some ⟨b, off, none⟩) ps.length cap, .slice ra rn rc], .int .i64 (k : Int)]) rfl (by intro W hW; obtain ⟨c0, c1, c2, d3⟩ := HCELL.out W hW; go_simp) (fun W hW => (l12Has_any _ ⟨it, ps, rq⟩ (k : Int) W (h0.keep (HX.out W hW).2)).mono (by rintro e w' ⟨_, rfl, rfl, hk⟩; exact ⟨by rw [HH.out], HK.out _ _ hW hk⟩)) ?_
      simp only [Act.put, List.setIfInBounds_toArray, List.set_cons_zero, List.set_cons_succ]
      refine wpX_val (.bool false) rfl (by intro W hW; obtain ⟨c0, c1, c2, d3⟩ := HCELL.out W hW; go_simp) ?_
      simp only [Act.put, List.setIfInBounds_toArray, List.set_cons_zero, List.set_cons_succ]
      refine wpX_val (.bool false) rfl (by intro W hW; obtain ⟨c0, c1, c2, d3⟩ := HCELL.out W hW; go_simp) ?_
      simp only [Act.put, List.setIfInBounds_toArray, List.set_cons_zero, List.set_cons_succ]
      refine wpX_val (.bool false) rfl (by intro W hW; obtain ⟨c0, c1, c2, d3⟩ := HCELL.out W hW; go_simp) ?_
      simp only [Act.put, List.setIfInBounds_toArray, List.set_cons_zero, List.set_cons_succ]
      refine wpX_val (.pointer (some ⟨w.heap.size, 1, none⟩)) rfl (by intro W hW; obtain ⟨c0, c1, c2, d3⟩ := HCELL.out W hW; go_simp) ?_
      simp only [Act.put, List.setIfInBounds_toArray, List.set_cons_zero, List.set_cons_succ]
      refine wpX_val (.slice (some ⟨b, off, none⟩) ps.length cap) rfl (by intro W hW; obtain ⟨c0, c1, c2, d3⟩ := HCELL.out W hW; go_simp) ?_
      simp only [Act.put, List.setIfInBounds_toArray, List.set_cons_zero, List.set_cons_succ]
      refine wpX_val (.int .i64 (k : Int)) rfl (by intro W hW; obtain ⟨c0, c1, c2, d3⟩ := HCELL.out W hW; go_simp) ?_
      simp only [Act.put, List.setIfInBounds_toArray, List.set_cons_zero, List.set_cons_succ]
      refine wpX_val (.pointer (some ⟨b, off + k * 7, none⟩)) rfl (by intro W hW; obtain ⟨c0, c1, c2, d3⟩ := HCELL.out W hW; go_simp) ?_
      simp only [Act.put, List.setIfInBounds_toArray, List.set_cons_zero, List.set_cons_succ]
      refine wpX_val (.pointer (some ⟨b, off + k * 7 + 1, none⟩)) rfl (by intro W hW; obtain ⟨c0, c1, c2, d3⟩ := HCELL.out W hW; go_simp) ?_
      simp only [Act.put, List.setIfInBounds_toArray, List.set_cons_zero, List.set_cons_succ]
      refine wpX_val (.pointer (some ⟨b, off + k * 7 + 3, none⟩)) rfl (by intro W hW; obtain ⟨c0, c1, c2, d3⟩ := HCELL.out W hW; go_simp) ?_
      simp only [Act.put, List.setIfInBounds_toArray, List.set_cons_zero, List.set_cons_succ]
      refine wpX_val (.slice ya l.length yc) rfl (by intro W hW; obtain ⟨c0, c1, c2, d3⟩ := HCELL.out W hW; go_simp) ?_
      simp only [Act.put, List.setIfInBounds_toArray, List.set_cons_zero, List.set_cons_succ]
      refine wpX_val (.int .i64 l.length) rfl (by intro W hW; obtain ⟨c0, c1, c2, d3⟩ := HCELL.out W hW; go_simp) ?_
      simp only [Act.put, List.setIfInBounds_toArray, List.set_cons_zero, List.set_cons_succ]
      refine wpX_val (.pointer (some ⟨w.heap.size, 0, none⟩)) rfl (by intro W hW; obtain ⟨c0, c1, c2, d3⟩ := HCELL.out W hW; go_simp) ?_
      simp only [Act.put, List.setIfInBounds_toArray, List.set_cons_zero, List.set_cons_succ]
      refine wpX_val (.int .i64 it) rfl (by intro W hW; obtain ⟨c0, c1, c2, d3⟩ := HCELL.out W hW; go_simp) ?_
      simp only [Act.put, List.setIfInBounds_toArray, List.set_cons_zero, List.set_cons_succ]
      refine wpX_val (.bool ((l.length : Int) == it)) rfl (by intro W hW; obtain ⟨c0, c1, c2, d3⟩ := HCELL.out W hW; go_simp) ?_
      simp only [Act.put, List.setIfInBounds_toArray, List.set_cons_zero, List.set_cons_succ]
      refine wpX_val (.bool ((l.length : Int) == it)) rfl (by intro W hW; obtain ⟨c0, c1, c2, d3⟩ := HCELL.out W hW; go_simp) ?_
      simp only [Act.put, List.setIfInBounds_toArray, List.set_cons_zero, List.set_cons_succ]
      refine wpX_nil (fun W hW => ?_)
      have kW := (HX.out W hW).2
      obtain ⟨c0, c1, c2, d3⟩ := HCELL.out W hW
      by_cases hle : (l.length : Int) = it
      · have HO : Hid (okCruel ⟨it, ps, rq⟩ (k : Int) = false) := Lib.hid (by rw [HOK.out]; simp [hle])
        have HV : Hid (cruelV ⟨it, ps, rq⟩ (k : Int) = 0) := Lib.hid (by rw [cruelV, HO.out]; rfl)
        have hlb : ((l.length : Int) == it) = true := by simp [hle]
        clear hle
        go_wp2_with fail
        go_ret2
        exact ⟨_, _, rfl, by rw [HV.out]; rfl, by rw [HO.out]; rfl, kW⟩
      · have HO : Hid (okCruel ⟨it, ps, rq⟩ (k : Int) = true) := Lib.hid (by rw [HOK.out]; simp [hle])
        have HV : Hid (cruelV ⟨it, ps, rq⟩ (k : Int) = (m : Int)) := Lib.hid (by rw [cruelV, HO.out, HMC.out]; rfl)
        have hlb : ((l.length : Int) == it) = false := by simp [hle]
        clear hle
        go_wp2_with fail
        refine (l7Missing_any _ l m W (hpj.keep kW) HM.out).mono ?_
        rintro e w1 ⟨rfl, rfl⟩
        go_wp2_with fail
        go_ret2
        exact ⟨_, _, rfl, by rw [HV.out]; rfl, by rw [HO.out]; rfl, kW⟩

set_option maxRecDepth 100000 in
set_option maxHeartbeats 4000000 in
theorem implCruelItem_any (v : Value) (t : To) (i : Int) (w : World) (h : RT No w v t) :
    Calls Tryz.prog 31 #[v, .int .i64 i] w (Ret2 fun v0 v1 w' => v0 = .int .i64 (cruelV t i) ∧ v1 = .bool (okCruel t i) ∧ Chg No w w') := by
  have h0 := h
  obtain ⟨it, ps, rq⟩ := t
  obtain ⟨pv, rv, rfl, hps, hrq⟩ := h
  simp only at hps hrq
  obtain ⟨ra, rn, rc, rfl⟩ := hrq.shape
  obtain ⟨a, cap, rfl, hcap, hmax, hlen, pf, mf, hl, hcl⟩ := id hps
  cases ht : tourB ⟨it, ps, rq⟩
  · have HO : Hid (okCruel ⟨it, ps, rq⟩ i = false) := Lib.hid (by simp [okCruel, ht])
    have HV : Hid (cruelV ⟨it, ps, rq⟩ i = 0) := Lib.hid (by simp [cruelV, okCruel, ht])
    have HT := Lib.hid ht
    clear ht hl hcl
    go_enter Tryz.func31, Tryz.ntmps31
    go_wp2_with fail
    refine box31 (R := fun W => Calls _ _ _ W _) (fun W kW b0 => ?_)
    refine (IsTournament_any _ ⟨it, ps, rq⟩ W (h0.keep kW)).mono ?_
    rintro e w1 ⟨_, rfl, rfl, k1⟩
    rw [HT.out]
    go_wp2_with fail
    go_ret2
    exact ⟨_, _, rfl, by rw [HV.out]; rfl, by rw [HO.out]; rfl, kW.keep k1⟩
  · cases hh : hasP ⟨it, ps, rq⟩ i
    · have HO : Hid (okCruel ⟨it, ps, rq⟩ i = false) := Lib.hid (by simp [okCruel, hh])
      have HV : Hid (cruelV ⟨it, ps, rq⟩ i = 0) := Lib.hid (by simp [cruelV, okCruel, hh])
      have HT := Lib.hid ht
      have HH := Lib.hid hh
      clear ht hh hl hcl
      go_enter Tryz.func31, Tryz.ntmps31
      go_wp2_with fail
      refine box31 (R := fun W => Calls _ _ _ W _) (fun W kW b0 => ?_)
      refine (IsTournament_any _ ⟨it, ps, rq⟩ W (h0.keep kW)).mono ?_
      rintro e w1 ⟨_, rfl, rfl, k1⟩
      rw [HT.out]
      have kk := kW.keep k1
      obtain ⟨c0, c1, c2, _⟩ := b0.keep k1
      go_wp2_with fail
      refine (isPlayer_any _ ⟨it, ps, rq⟩ i _ (h0.keep kk)).mono ?_
      rintro e w2 ⟨_, rfl, rfl, k2⟩
      rw [HH.out]
      go_wp2_with fail
      go_ret2
      exact ⟨_, _, rfl, by rw [HV.out]; rfl, by rw [HO.out]; rfl, kk.keep k2⟩
    · have hit : 1 ≤ it ∧ it ≤ 8 := by
        simp only [tourB, reqB, Bool.and_eq_true, inB_iff] at ht; exact ht.1.1.1
      have hik : 0 ≤ i ∧ i ≤ (ps.length : Int) - 1 := inB_iff.1 hh
      obtain ⟨k, rfl⟩ : ∃ k : Nat, i = (k : Int) := ⟨i.toNat, by omega⟩
      have hk : k < ps.length := by omega
      obtain ⟨b, off, rfl, _, hb, hcell⟩ := hcl (by intro e; simp [e] at hk)
      have h7 := hcell k hk
      obtain ⟨hpj, _⟩ := hl k hk
      obtain ⟨m, hmle, hm⟩ := miss_ex (ps.getD k dPl).ca.pages
      have hmc : missTr ⟨it, ps, rq⟩ (k : Int) = m := miss_uni (missTr_spec ⟨it, ps, rq⟩ (k : Int)) hm
      have hml := miss_lt (t := ⟨it, ps, rq⟩) ht (i := k) hk hm
      have hok : okCruel ⟨it, ps, rq⟩ (k : Int) = !(((ps.getD k dPl).ca.pages.length : Int) == it) := by simp only [okCruel, ht, hh, Bool.true_and]; rfl
      obtain ⟨l, hl2⟩ : ∃ l, (ps.getD k dPl).ca.pages = l := ⟨_, rfl⟩
      simp only at hml
      rw [hl2] at hm hpj hml hok hmle
      have d3 := h7.c3
      generalize pf k = pj at hpj d3
      obtain ⟨ya, yc, rfl, _⟩ := id hpj
      have hk0 : (0 : Int) ≤ (k : Int) := Int.natCast_nonneg _
      have hk1 : (k : Int) < (ps.length : Int) := by omega
      have HT := Lib.hid ht
      have HH := Lib.hid hh
      have HM := Lib.hid hm
      have HMC := Lib.hid hmc
      have HML := Lib.hid hml
      have HOK := Lib.hid hok
      have D3 := Lib.hid d3
      have hbb := hb
      clear h7 hcell hcl hl hl2 hm hmc hml hok hik hh ht hmle
      have HPG : Hid (IsMiss (ps.getD k dPl).ca.pages m) := Lib.hid (by have := missTr_spec ⟨it, ps, rq⟩ (k : Int); rw [HMC.out] at this; exact this)
      by_cases hle : (l.length : Int) = it
      · have HO : Hid (okCruel ⟨it, ps, rq⟩ (k : Int) = false) := Lib.hid (by rw [HOK.out]; simp [hle])
        have HV : Hid (cruelV ⟨it, ps, rq⟩ (k : Int) = 0) := Lib.hid (by rw [cruelV, HO.out]; rfl)
        have HR : Hid ((if (m : Int) < it then (m : Int) else -1) = -1) := Lib.hid (if_neg (fun e => HML.out.1 e hle))
        clear hle
        go_enter Tryz.func31, Tryz.ntmps31
        go_wp2_with fail
        refine box31 (R := fun W => Calls _ _ _ W _) (fun W kW b0 => ?_)
        refine (IsTournament_any _ ⟨it, ps, rq⟩ W (h0.keep kW)).mono ?_
        rintro e w1 ⟨_, rfl, rfl, k1⟩
        rw [HT.out]
        have b0 := b0.keep k1
        have kk := kW.keep k1
        obtain ⟨c0, c1, c2, _⟩ := id b0
        go_wp2_with fail
        refine (isPlayer_any _ ⟨it, ps, rq⟩ _ _ (h0.keep kk)).mono ?_
        rintro e w2 ⟨_, rfl, rfl, k2⟩
        rw [HH.out]
        have b0 := b0.keep k2
        have kk := kk.keep k2
        clear c0 c1 c2
        obtain ⟨c0, c1, c2, _⟩ := id b0
        go_wp2_with fail
        refine (cruel_any _ ⟨it, ps, rq⟩ k m _ (h0.keep kk) hk HPG.out hit).mono ?_
        rintro e w3 ⟨_, rfl, rfl, k3⟩
        rw [HR.out]
        go_wp2_with fail
        go_ret2
        exact ⟨_, _, rfl, by rw [HV.out]; rfl, by rw [HO.out]; rfl, kk.keep k3⟩
      · have HO : Hid (okCruel ⟨it, ps, rq⟩ (k : Int) = true) := Lib.hid (by rw [HOK.out]; simp [hle])
        have HV : Hid (cruelV ⟨it, ps, rq⟩ (k : Int) = (m : Int)) := Lib.hid (by rw [cruelV, HO.out, HMC.out]; rfl)
        have HR : Hid ((if (m : Int) < it then (m : Int) else -1) = (m : Int)) := Lib.hid (if_pos (HML.out.2 hle))
        have hm0 : (0 : Int) ≤ (m : Int) := Int.natCast_nonneg _
        have hmn : ¬ (m : Int) < 0 := by omega
        clear hle
        go_enter Tryz.func31, Tryz.ntmps31
        go_wp2_with fail
        refine box31 (R := fun W => Calls _ _ _ W _) (fun W kW b0 => ?_)
        refine (IsTournament_any _ ⟨it, ps, rq⟩ W (h0.keep kW)).mono ?_
        rintro e w1 ⟨_, rfl, rfl, k1⟩
        rw [HT.out]
        have b0 := b0.keep k1
        have kk := kW.keep k1
        obtain ⟨c0, c1, c2, _⟩ := id b0
        go_wp2_with fail
        refine (isPlayer_any _ ⟨it, ps, rq⟩ _ _ (h0.keep kk)).mono ?_
        rintro e w2 ⟨_, rfl, rfl, k2⟩
        rw [HH.out]
        have b0 := b0.keep k2
        have kk := kk.keep k2
        clear c0 c1 c2
        obtain ⟨c0, c1, c2, _⟩ := id b0
        go_wp2_with fail
        refine (cruel_any _ ⟨it, ps, rq⟩ k m _ (h0.keep kk) hk HPG.out hit).mono ?_
        rintro e w3 ⟨_, rfl, rfl, k3⟩
        rw [HR.out]
        have b0 := b0.keep k3
        have kk := kk.keep k3
        clear c0 c1 c2
        obtain ⟨c0, c1, c2, _⟩ := id b0
        go_wp2_with fail
        refine (cruel_any _ ⟨it, ps, rq⟩ k m _ (h0.keep kk) hk HPG.out hit).mono ?_
        rintro e w4 ⟨_, rfl, rfl, k4⟩
        rw [HR.out]
        go_wp2_with fail
        go_ret2
        exact ⟨_, _, rfl, by rw [HV.out]; rfl, by rw [HO.out]; rfl, kk.keep k4⟩
end Go.Proofs.YtodnkkmjjlfoiaaGreat
