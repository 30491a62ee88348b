import Derived.Test.YtdgcohoneijleaaGreatPkX11
import Derived.Test.YtdgcohoneijleaaGreatPkX9
/- RunCache, both sides -/
namespace Go.Proofs.YtdgcohoneijleaaGreat
open Go.RowKit

def Ret3 (φ : Value → Value → Value → World → Prop) : Ending → World → Prop := fun e w' => ∃ v0 v1 v2, e = .returned (.tuple #[v0, v1, v2]) ∧ φ v0 v1 v2 w'
theorem Ret3.tup {φ : Value → Value → Value → World → Prop} {a b c : Value} {w : World} (h : φ a b c w) : Ret3 φ (.returned (.tuple #[a, b, c])) w := ⟨a, b, c, rfl, h⟩
def okR (n : Int) (c : Ca) (l : List Int) : Bool := goodC n c && reqB n l
def runV (n : Int) (c : Ca) (l : List Int) : Ca := if okR n c l then runC c l else zeroC
def cntV (n : Int) (c : Ca) (l : List Int) : Int := if okR n c l then ((places c l).length : Int) else 0

set_option maxRecDepth 100000 in
set_option maxHeartbeats 2000000 in
theorem implRunCache_any (n : Int) (v rv : Value) (c : Ca) (l : List Int) (w : World) (h : RC No w v c) (hr : RI No w rv l) :
    Calls Tryz.prog 14 #[.int .i64 n, v, rv] w (Ret3 fun v0 v1 v2 w' => v1 = .int .i64 (cntV n c l) ∧ v2 = .bool (okR n c l) ∧ RCO w.heap.size w' v0 (runV n c l) ∧ Chg No w w') := by
  have hv := h
  obtain ⟨p, k, ps, m, hd⟩ := c
  obtain ⟨pv, mv, rfl, hp, hmk⟩ := h
  simp only at hp hmk hv
  obtain ⟨pa, pn, pc, rfl⟩ := hp.shape
  obtain ⟨ma, mn, mc, rfl⟩ := hmk.shape
  obtain ⟨ra, rc, rfl, hcap, hmax, hlen, _, hc⟩ := id hr
  cases hg : goodC n ⟨p, k, ps, m, hd⟩
  · have HO : Hid (okR n ⟨p, k, ps, m, hd⟩ l = false) := Lib.hid (by simp [okR, hg])
    have HV : Hid (runV n ⟨p, k, ps, m, hd⟩ l = zeroC) := Lib.hid (by simp [runV, okR, hg])
    have HC : Hid (cntV n ⟨p, k, ps, m, hd⟩ l = 0) := Lib.hid (by simp [cntV, okR, hg])
    have HG := Lib.hid hg
    clear hg hc
    go_enter Tryz.func14, Tryz.ntmps14
    go_wp2_with fail
    refine boxes2 (R := fun W => Calls _ _ _ W _) (fun W hW b0 b1 => ?_)
    refine (IsCache_any No n _ ⟨p, k, ps, m, hd⟩ _ (hv.keep hW)).mono ?_
    rintro e w1 ⟨_, rfl, rfl, k1⟩
    rw [HG.out]
    have B1 := b1.keep k1
    have hk := hW.keep k1
    have hl1 := B1.lt
    obtain ⟨s0, s1, s2, s3, s4, sf⟩ := id B1
    have sf0 := sf 0
    have sf1 := sf 1
    have sf2 := sf 2
    have sf3 := sf 3
    have sf4 := sf 4
    clear sf
    go_wp2_with fail
    obtain ⟨z0, z1, z2, z3, z4, _⟩ := B1.put5 (.int .i64 0) (.int .i64 0) (.slice none 0 0) (.slice none 0 0) (.int .i64 0)
    refine bodyPost_ret (v := .tuple #[.agg #[.int .i64 0, .int .i64 0, .slice none 0 0, .slice none 0 0, .int .i64 0], .int .i64 0, .bool false]) (by simp [results, Tryz.results14, go_sem, z0, z1, z2, z3, z4]) rfl ?_
    refine Ret3.tup ⟨by rw [HC.out], by rw [HO.out], by rw [HV.out]; exact RCO.zero _ _, hk.put5 (b := w.heap.size + 1) (fun h => by omega) _ _ _ _ _⟩
  · cases hi : reqB n l
    · have HO : Hid (okR n ⟨p, k, ps, m, hd⟩ l = false) := Lib.hid (by simp [okR, hi])
      have HV : Hid (runV n ⟨p, k, ps, m, hd⟩ l = zeroC) := Lib.hid (by simp [runV, okR, hi])
      have HC : Hid (cntV n ⟨p, k, ps, m, hd⟩ l = 0) := Lib.hid (by simp [cntV, okR, hi])
      have HG := Lib.hid hg
      have HI : Hid ((inB n 1 8 && decide (l.length ≤ 60) && belowB n l) = false) := Lib.hid hi
      clear hg hi hc
      go_enter Tryz.func14, Tryz.ntmps14
      go_wp2_with fail
      refine boxes2 (R := fun W => Calls _ _ _ W _) (fun W hW b0 b1 => ?_)
      refine (IsCache_any No n _ ⟨p, k, ps, m, hd⟩ _ (hv.keep hW)).mono ?_
      rintro e w1 ⟨_, rfl, rfl, k1⟩
      rw [HG.out]
      have B1 := b1.keep k1
      have hk := hW.keep k1
      go_wp2_with fail
      refine (IsRequests_any No _ l n _ (hr.keep hk)).mono ?_
      rintro e w2 ⟨_, rfl, rfl, k2⟩
      rw [HI.out]
      have B1 := B1.keep k2
      have hk := hk.keep k2
      have hl1 := B1.lt
      obtain ⟨s0, s1, s2, s3, s4, sf⟩ := id B1
      have sf0 := sf 0
      have sf1 := sf 1
      have sf2 := sf 2
      have sf3 := sf 3
      have sf4 := sf 4
      clear sf
      go_wp2_with fail
      obtain ⟨z0, z1, z2, z3, z4, _⟩ := B1.put5 (.int .i64 0) (.int .i64 0) (.slice none 0 0) (.slice none 0 0) (.int .i64 0)
      refine bodyPost_ret (v := .tuple #[.agg #[.int .i64 0, .int .i64 0, .slice none 0 0, .slice none 0 0, .int .i64 0], .int .i64 0, .bool false]) (by simp [results, Tryz.results14, go_sem, z0, z1, z2, z3, z4]) rfl ?_
      refine Ret3.tup ⟨by rw [HC.out], by rw [HO.out], by rw [HV.out]; exact RCO.zero _ _, hk.put5 (b := w.heap.size + 1) (fun h => by omega) _ _ _ _ _⟩
    · have HO : Hid (okR n ⟨p, k, ps, m, hd⟩ l = true) := Lib.hid (by simp [okR, hg, hi])
      have HV : Hid (runV n ⟨p, k, ps, m, hd⟩ l = runC ⟨p, k, ps, m, hd⟩ l) := Lib.hid (by simp [runV, okR, hg, hi])
      have HC : Hid (cntV n ⟨p, k, ps, m, hd⟩ l = ((places ⟨p, k, ps, m, hd⟩ l).length : Int)) := Lib.hid (by simp [cntV, okR, hg, hi])
      have HG := Lib.hid hg
      have HI : Hid ((inB n 1 8 && decide (l.length ≤ 60) && belowB n l) = true) := Lib.hid hi
      have HC0 := Lib.hid hc
      clear hg hi hc
      go_enter Tryz.func14, Tryz.ntmps14
      go_wp2_with fail
      refine boxes2 (R := fun W => Calls _ _ _ W _) (fun W hW b0 b1 => ?_)
      refine (IsCache_any No n _ ⟨p, k, ps, m, hd⟩ _ (hv.keep hW)).mono ?_
      rintro e w0 ⟨_, rfl, rfl, k0⟩
      rw [HG.out]
      have B0 := b0.keep k0
      have B1 := b1.keep k0
      have hk := hW.keep k0
      go_wp2_with fail
      refine (IsRequests_any No _ l n _ (hr.keep hk)).mono ?_
      rintro e w1 ⟨_, rfl, rfl, k1⟩
      rw [HI.out]
      have B0 := B0.keep k1
      have B1 := B1.keep k1
      have hk := hk.keep k1
      obtain ⟨c0, c1, c2, c3, c4, fr⟩ := id B0
      go_wp2_with fail
      refine (ownCache_any No _ ⟨p, k, ps, m, hd⟩ _ (hv.keep hk)).mono ?_
      rintro e w2 ⟨v2, rfl, o2, k2⟩
      have o2' := o2
      obtain ⟨pv2, mv2, rfl, hp2, hm2, _⟩ := o2
      obtain ⟨a2, n2, q2, rfl⟩ := hp2.shape
      obtain ⟨a3, n3, q3, rfl⟩ := hm2.shape
      have hl1 := B1.lt
      have hs1 := hk.size
      have hs2 := k2.size
      have B1 := B1.keep k2
      have hk := hk.keep k2
      clear c0 c1 c2 c3 c4 fr B0
      go_wp2_with fail
      have kal := (Chg.refl No w2).alloc (.cells #[.int .i64 p, .int .i64 k, .slice a2 n2 q2, .slice a3 n3 q3, .int .i64 hd] 42)
      have mc := o2'.mc kal (Box.new w2 _ _ _ _ _ _) (Nat.le_refl _)
      have B1 := B1.keep kal
      have hk := hk.keep kal
      have hz : w2.heap.size < (w2.alloc (.cells #[.int .i64 p, .int .i64 k, .slice a2 n2 q2, .slice a3 n3 q3, .int .i64 hd] 42)).heap.size := by simp
      obtain ⟨c, hcc⟩ : ∃ c : Ca, (⟨p, k, ps, m, hd⟩ : Ca) = c := ⟨_, rfl⟩
      rw [hcc] at HO HV HC HG mc
      have HCC := Lib.hid hcc
      have hok0 := goodC_ok HG.out
      clear hcc
      go_loopw [10, 28] (fun f i wr => ∃ (j : Nat) (pv mv : Value), j ≤ l.length ∧ i = .int .i64 j ∧ f = .int .i64 ((placesTo c l j).length : Int) ∧ MC w1.heap.size wr w2.heap.size (runC c (l.take j)) pv mv ∧
        Box wr (w.heap.size + 1) (.int .i64 0) (.int .i64 0) (.slice none 0 0) (.slice none 0 0) (.int .i64 0) ∧ Chg No w wr ∧ w2.heap.size < wr.heap.size) (fun _ i _ => l.length - (intOf i).toNat)
      case atStart => exact ⟨0, _, _, Nat.zero_le _, rfl, rfl, mc, B1, hk, hz⟩
      case round =>
        obtain ⟨j, pv', mv', hj, rfl, rfl, hM, hb1, hch, hzr⟩ := hrel
        obtain ⟨ck, hck⟩ : ∃ ck, runC c (l.take j) = ck := ⟨_, rfl⟩
        have hokk : Ok ck := hck ▸ ok_run hok0 _
        by_cases hlt : j < l.length
        · rw [hck] at hM
          obtain ⟨b, off, rfl, _, hb, hcell⟩ := HC0.out (by intro e; simp [e] at hlt)
          have hrun := runC_snoc c l j hlt
          rw [hck] at hrun
          obtain ⟨y, hy⟩ : ∃ y, l[j] = y := ⟨_, rfl⟩
          have hcl := (hch.cellD b (off + j) hb (fun e => e)).trans (hcell j hlt)
          have hgy : l.getD j 0 = y := by rw [← hy, List.getD_eq_getElem?_getD, List.getElem?_eq_getElem hlt]; rfl
          rw [hgy] at hcl
          rw [hy] at hrun
          have hpl : placesTo c l (j + 1) = if hasB ck.pages y then placesTo c l j else placesTo c l j ++ [(j : Int)] := by
            show (if hasB (runC c (l.take j)).pages (l.getD j 0) then _ else _) = _
            rw [hck, hgy]
          have hple := placesTo_le c l j
          have HR := Lib.hid hrun
          have HP := Lib.hid hpl
          have hj0 : (0 : Int) ≤ (j : Int) := Int.natCast_nonneg _
          have hj1 : (j : Int) < (l.length : Int) := by omega
          have hw1 : IntKind.i64.wrap ((j : Int) + 1) = (j : Int) + 1 := IntWalk.i64_in _ (by omega)
          have hw2 : IntKind.i64.wrap (((placesTo c l j).length : Int) + 1) = ((placesTo c l j).length : Int) + 1 := IntWalk.i64_in _ (by omega)
          clear hcell hrun hpl hple hck hgy hy
          go_wp2_with fail
          refine (step_any w1.heap.size w2.heap.size ck y pv' mv' wr hM (by omega) hokk).mono ?_
          rintro e w3 ⟨_, rfl, rfl, pv3, mv3, mc3, k3, f3⟩
          have hf : ∀ q, foot w2.heap.size pv' mv' q → w1.heap.size ≤ q := fun q hq => by
            rcases hq with rfl | hq | hq
            · exact hs2
            · exact (hM.pages.lt q hq).1
            · exact (hM.marks.lt q hq).1
          have hb3 := hb1.step k3 (fun hq => by have := hf _ hq; omega)
          have hch3 := hch.step k3 (fun q hq hl => by have := hf q hq; omega)
          have hz3 := k3.size
          rw [← HR.out] at mc3
          clear hM hb1 hch k3 f3 hcl hf
          cases hh : hasB ck.pages y
          · have HL : Hid ((placesTo c l (j + 1)).length = (placesTo c l j).length + 1) := Lib.hid (by rw [HP.out, hh]; simp)
            simp only [Bool.not_false]
            go_wp2_with fail
            go_roundw
            case measure => simp [intOf]; omega
            case rel => exact ⟨j + 1, pv3, mv3, by omega, by go_num, by rw [HL.out]; go_num, mc3, hb3, hch3, by omega⟩
          · have HL : Hid ((placesTo c l (j + 1)).length = (placesTo c l j).length) := Lib.hid (by rw [HP.out, hh]; simp)
            simp only [Bool.not_true]
            go_wp2_with fail
            go_roundw
            case measure => simp [intOf]; omega
            case rel => exact ⟨j + 1, pv3, mv3, by omega, by go_num, by rw [HL.out], mc3, hb3, hch3, by omega⟩
        · have hjl : j = l.length := by omega
          subst hjl
          rw [List.take_length] at hM hck
          obtain ⟨a4, n4, q4, rfl⟩ := hM.pages.shape
          obtain ⟨a5, n5, q5, rfl⟩ := hM.marks.shape
          obtain ⟨c0, c1, c2, c3, c4, fr⟩ := id hM.box
          obtain ⟨cc, hcc⟩ : ∃ cc, runC c l = cc := ⟨_, rfl⟩
          rw [hcc] at hM c0 c1 c4 HV
          have HQ : Hid (cntV n c l = ((placesTo c l l.length).length : Int)) := HC
          clear hck hokk hcc
          generalize ((placesTo c l l.length).length : Int) = np at HQ ⊢
          go_wp2_with fail
          refine (ownCache_any No _ cc wr ⟨_, _, rfl, hM.pages.readNo, hM.marks.readNo⟩).mono ?_
          rintro e w4 ⟨v4, rfl, o4, k4⟩
          have hl3 := hb1.lt
          have B1 := hb1.keep k4
          have hk := hch.keep k4
          have o4' := o4
          obtain ⟨xp, xm, rfl, hxp, hxm, _⟩ := id o4
          obtain ⟨xa, xn, xc, rfl⟩ := hxp.shape
          obtain ⟨ya, yn, yc, rfl⟩ := hxm.shape
          clear c0 c1 c2 c3 c4 fr
          obtain ⟨s0, s1, s2, s3, s4, sf⟩ := id B1
          have sf0 := sf 0
          have sf1 := sf 1
          have sf2 := sf 2
          have sf3 := sf 3
          have sf4 := sf 4
          clear sf
          go_wp2_with fail
          obtain ⟨z0, z1, z2, z3, z4, _⟩ := B1.put5 (.int .i64 cc.pol) (.int .i64 cc.size) (.slice xa xn xc) (.slice ya yn yc) (.int .i64 cc.hand)
          refine bodyPost_ret (v := .tuple #[.agg #[.int .i64 cc.pol, .int .i64 cc.size, .slice xa xn xc, .slice ya yn yc, .int .i64 cc.hand], .int .i64 np, .bool true]) (by simp [results, Tryz.results14, go_sem, z0, z1, z2, z3, z4]) rfl ?_
          have hs := hk.size
          rw [HCC.out]
          refine Ret3.tup ⟨by rw [HQ.out], by rw [HO.out], by rw [HV.out]; exact (o4'.put5 hl3 _ _ _ _ _).weak (by omega), hk.put5 (b := w.heap.size + 1) (fun h => by omega) _ _ _ _ _⟩
end Go.Proofs.YtdgcohoneijleaaGreat
