import Derived.Test.YtfdmghohmohmpaaR
import Derived.Test.YtfdmghohmohmpaaS
import Derived.Test.YtfdmghohmohmpaaFr
import Derived.Test.YtfdmghohmohmpaaCd
import Derived.Test.YtfdmghohmohmpaaH
import Derived.Test.YtfdmghohmohmpaaT
import Derived.Test.YtfdmghohmohmpaaSt
import Derived.Test.YtfdmghohmohmpaaUj
import Derived.Test.YtfdmghohmohmpaaUa
/- the law of FaultPlaces returns true -/
namespace Go.Proofs.Ytfdmghohmohmpaa
open Go.RowKit

/-- blocks made since -/
def Since (w : World) : Nat → Prop := fun q => w.heap.size ≤ q
theorem RI.since {A : Nat → Prop} {w : World} {v : Value} {l : List Int} (h : RI A w v l) : RI (Since w) w v l := h.to (Chg.refl No w) (fun _ e => e.elim) (fun _ hq => .inr hq)
theorem OI.later {base : Nat} {w w' : World} {v : Value} {l : List Int} (h : OI base w v l) (hb : w'.heap.size ≤ base) (q : Nat) (hq : own v q) : w'.heap.size ≤ q := by have := (h.lt q hq).1; omega
end Go.Proofs.Ytfdmghohmohmpaa

/- FaultsBySize, both sides, and its law -/
namespace Go.Proofs.Ytfdmghohmohmpaa
open Go.RowKit

/-- the numbers of faults for the sizes 1 .. j -/
def bySizeTo (p : Int) (l : List Int) : Nat → List Int
  | 0 => []
  | j + 1 => bySizeTo p l j ++ [((places (newC p ((j : Int) + 1)) l).length : Int)]
theorem bySizeTo_len (p : Int) (l : List Int) (j : Nat) : (bySizeTo p l j).length = j := by
  induction j with
  | zero => rfl
  | succ j ih => simp [bySizeTo, ih]
theorem asked_pol {n p k : Int} {l : List Int} (h : askedB n p k l = true) : 1 ≤ p ∧ p ≤ 7 := by
  simp only [askedB, Bool.and_eq_true, inB_iff] at h
  exact h.1.1

set_option maxRecDepth 100000 in
set_option maxHeartbeats 1000000 in
theorem implFaultsBySize_any (n p : Int) (v : Value) (l : List Int) (w : World) (hv : RI No w v l) :
    Calls Try.prog 17 #[.int .i64 n, .int .i64 p, v] w (Ret2 fun v0 v1 w' => v1 = .bool (askedB n p 1 l) ∧ OI w.heap.size w' v0 (if askedB n p 1 l then bySizeTo p l 6 else []) ∧ Chg No w w') := by
  cases hh : askedB n p 1 l
  · have HH := Lib.hid hh
    clear hh
    go_enter Try.func17, Try.ntmps17
    go_wp2_with fail
    refine (isRun_any No v l n p 1 w hv).mono ?_
    rintro e w1 ⟨v1, rfl, rfl, k1⟩
    rw [show (inB p 1 7 && inB 1 1 6 && (inB n 1 8 && decide (l.length ≤ 60) && belowB n l)) = false from HH.out]
    go_wp2
    go_ret2
    exact ⟨_, _, rfl, rfl, OI.nil _ _, k1⟩
  · have HH := Lib.hid hh
    have hp := asked_pol hh
    clear hh
    obtain ⟨a, nn, q, rfl⟩ := hv.shape
    go_enter Try.func17, Try.ntmps17
    go_wp2_with fail
    refine (isRun_any No _ l n p 1 w hv).mono ?_
    rintro e w0 ⟨v1, rfl, rfl, k0⟩
    rw [show (inB p 1 7 && inB 1 1 6 && (inB n 1 8 && decide (l.length ≤ 60) && belowB n l)) = true from HH.out]
    go_wp2_with fail
    go_loopw [8, 9] (fun o i wr => ∃ j : Nat, j ≤ 6 ∧ i = .int .i64 ((j : Int) + 1) ∧ OI w.heap.size wr o (bySizeTo p l j) ∧ Chg No w wr) (fun _ i _ => 7 - (intOf i).toNat)
    case atStart => exact ⟨0, by omega, rfl, (OI.zero (Nat.le_refl _)).weak k0.size, k0.alloc _⟩
    case round =>
      obtain ⟨j, hj, rfl, ho, hch⟩ := hrel
      by_cases hlt : j < 6
      · have hj0 : (0 : Int) ≤ (j : Int) := Int.natCast_nonneg _
        have hj1 : (j : Int) + 1 ≤ 6 := by omega
        have hw1 : IntKind.i64.wrap ((j : Int) + 1 + 1) = (j : Int) + 1 + 1 := IntWalk.i64_in _ (by omega)
        have hsz := hch.size
        have hbl := bySizeTo_len p l j
        have HB := Lib.hid hbl
        clear hbl
        go_wp2_with fail
        refine (faultPlaces_any No p ((j : Int) + 1) _ l wr (hv.keep hch) (ok_new hp ⟨by omega, by omega⟩)).mono ?_
        rintro e w1 ⟨vf, rfl, of, k1⟩
        obtain ⟨af, cf, rfl, _⟩ := of.view
        have o1 := ho.keep k1
        have c1 := hch.keep k1
        have z1 := c1.size
        go_wp2_with (at_builtin; refine wapp1 rfl (.tmp 20) (.tmp 26) rfl o1 rfl rfl (by rw [HB.out]; omega) z1 ?_)
        intro v2 w2 h2 k2 f2
        go_wp2_with fail
        go_round
        case rel =>
          refine ⟨j + 1, hlt, by go_num, h2, c1.own k2 o1 (Nat.le_refl _)⟩
        case measure => simp [intOf]; omega
      · have hj' : j = 6 := by omega
        subst hj'
        go_wp2_with fail
        go_ret2
        exact ⟨_, _, rfl, rfl, ho, hch⟩
end Go.Proofs.Ytfdmghohmohmpaa

/- HitShare, both sides, and its law -/
namespace Go.Proofs.Ytfdmghohmohmpaa
open Go.RowKit

def hitV (n p k : Int) (l : List Int) : Fr := if askedB n p k l && decide (0 < l.length) then mkFr ((l.length : Int) - ((places (newC p k) l).length : Int)) (l.length : Int) else ⟨0, 0, false⟩
end Go.Proofs.Ytfdmghohmohmpaa

/- the run of a cache in the reference -/
namespace Go.Proofs.Ytfdmghohmohmpaa
open Go.RowKit

def reqB (n : Int) (l : List Int) : Bool := inB n 1 8 && decide (l.length ≤ 60) && belowB n l
/-- the tail, behind operation k -/
theorem wpAnyK_tailK {P : Program} {Q : Exit → Act → World → Prop} {md : Region.Mode} {S : World → Prop} {k : Nat} (n : Nat) {f : Nat} {l : List Oper} {listed : Array Bool} {a : Act} {w : World} (hf : (l.drop n).length = f) (hB : (Region.seqB md l.toArray f n listed && listed.getD k true) = true)
    (h : wpList P l.toArray Q (l.drop n) a w) : wpAnyK P md l.toArray Q S k f listed a w := by
  subst hf
  simp only [Bool.and_eq_true] at hB
  exact wpAnyK_of_any _ _ _ _ hB.2 (wpAny_of_seq (P := P) (md := md) (Q' := Q) (l.drop n) n listed a w (fun j => by simp [List.getElem?_drop]) hB.1 h)
end Go.Proofs.Ytfdmghohmohmpaa

/- RunCache, both sides -/
namespace Go.Proofs.Ytfdmghohmohmpaa
open Go.RowKit

def Ret3 (φ : Value → Value → Value → World → Prop) : Ending → World → Prop := fun e w' => ∃ v0 v1 v2, e = .returned (.tuple #[v0, v1, v2]) ∧ φ v0 v1 v2 w'
theorem Ret3.tup {φ : Value → Value → Value → World → Prop} {a b c : Value} {w : World} (h : φ a b c w) : Ret3 φ (.returned (.tuple #[a, b, c])) w := ⟨a, b, c, rfl, h⟩
def okR (n : Int) (c : Ca) (l : List Int) : Bool := goodC n c && reqB n l
def runV (n : Int) (c : Ca) (l : List Int) : Ca := if okR n c l then runC c l else zeroC
def cntV (n : Int) (c : Ca) (l : List Int) : Int := if okR n c l then ((places c l).length : Int) else 0

set_option maxRecDepth 100000 in
set_option maxHeartbeats 2000000 in
theorem implRunCache_any (n : Int) (v rv : Value) (c : Ca) (l : List Int) (w : World) (h : RC No w v c) (hr : RI No w rv l) :
    Calls Try.prog 20 #[.int .i64 n, v, rv] w (Ret3 fun v0 v1 v2 w' => v1 = .int .i64 (cntV n c l) ∧ v2 = .bool (okR n c l) ∧ RCO w.heap.size w' v0 (runV n c l) ∧ Chg No w w') := by
  have hv := h
  obtain ⟨p, k, ps, m, hd⟩ := c
  obtain ⟨pv, mv, rfl, hp, hmk⟩ := h
  simp only at hp hmk hv
  obtain ⟨pa, pn, pc, rfl⟩ := hp.shape
  obtain ⟨ma, mn, mc, rfl⟩ := hmk.shape
  obtain ⟨ra, rc, rfl, hcap, hmax, hlen, _, hc⟩ := id hr
  cases hg : goodC n ⟨p, k, ps, m, hd⟩
  · have HO : Hid (okR n ⟨p, k, ps, m, hd⟩ l = false) := Lib.hid (by simp [okR, hg])
    have HV : Hid (runV n ⟨p, k, ps, m, hd⟩ l = zeroC) := Lib.hid (by simp [runV, okR, hg])
    have HC : Hid (cntV n ⟨p, k, ps, m, hd⟩ l = 0) := Lib.hid (by simp [cntV, okR, hg])
    have HG := Lib.hid hg
    clear hg hc
    go_enter Try.func20, Try.ntmps20
    go_wp2_with fail
    refine boxes2 (R := fun W => Calls _ _ _ W _) (fun W hW b0 b1 => ?_)
    refine (IsCache_any No n _ ⟨p, k, ps, m, hd⟩ _ (hv.keep hW)).mono ?_
    rintro e w1 ⟨_, rfl, rfl, k1⟩
    rw [HG.out]
    have B1 := b1.keep k1
    have hk := hW.keep k1
    have hl1 := B1.lt
    obtain ⟨s0, s1, s2, s3, s4, sf⟩ := id B1
    have sf0 := sf 0
    have sf1 := sf 1
    have sf2 := sf 2
    have sf3 := sf 3
    have sf4 := sf 4
    clear sf
    go_wp2_with fail
    obtain ⟨z0, z1, z2, z3, z4, _⟩ := B1.put5 (.int .i64 0) (.int .i64 0) (.slice none 0 0) (.slice none 0 0) (.int .i64 0)
    refine bodyPost_ret (v := .tuple #[.agg #[.int .i64 0, .int .i64 0, .slice none 0 0, .slice none 0 0, .int .i64 0], .int .i64 0, .bool false]) (by simp [results, Try.results20, go_sem, z0, z1, z2, z3, z4]) rfl ?_
    refine Ret3.tup ⟨by rw [HC.out], by rw [HO.out], by rw [HV.out]; exact RCO.zero _ _, hk.put5 (b := w.heap.size + 1) (fun h => by omega) _ _ _ _ _⟩
  · cases hi : reqB n l
    · have HO : Hid (okR n ⟨p, k, ps, m, hd⟩ l = false) := Lib.hid (by simp [okR, hi])
      have HV : Hid (runV n ⟨p, k, ps, m, hd⟩ l = zeroC) := Lib.hid (by simp [runV, okR, hi])
      have HC : Hid (cntV n ⟨p, k, ps, m, hd⟩ l = 0) := Lib.hid (by simp [cntV, okR, hi])
      have HG := Lib.hid hg
      have HI : Hid ((inB n 1 8 && decide (l.length ≤ 60) && belowB n l) = false) := Lib.hid hi
      clear hg hi hc
      go_enter Try.func20, Try.ntmps20
      go_wp2_with fail
      refine boxes2 (R := fun W => Calls _ _ _ W _) (fun W hW b0 b1 => ?_)
      refine (IsCache_any No n _ ⟨p, k, ps, m, hd⟩ _ (hv.keep hW)).mono ?_
      rintro e w1 ⟨_, rfl, rfl, k1⟩
      rw [HG.out]
      have B1 := b1.keep k1
      have hk := hW.keep k1
      go_wp2_with fail
      refine (IsRequests_any No _ l n _ (hr.keep hk)).mono ?_
      rintro e w2 ⟨_, rfl, rfl, k2⟩
      rw [HI.out]
      have B1 := B1.keep k2
      have hk := hk.keep k2
      have hl1 := B1.lt
      obtain ⟨s0, s1, s2, s3, s4, sf⟩ := id B1
      have sf0 := sf 0
      have sf1 := sf 1
      have sf2 := sf 2
      have sf3 := sf 3
      have sf4 := sf 4
      clear sf
      go_wp2_with fail
      obtain ⟨z0, z1, z2, z3, z4, _⟩ := B1.put5 (.int .i64 0) (.int .i64 0) (.slice none 0 0) (.slice none 0 0) (.int .i64 0)
      refine bodyPost_ret (v := .tuple #[.agg #[.int .i64 0, .int .i64 0, .slice none 0 0, .slice none 0 0, .int .i64 0], .int .i64 0, .bool false]) (by simp [results, Try.results20, go_sem, z0, z1, z2, z3, z4]) rfl ?_
      refine Ret3.tup ⟨by rw [HC.out], by rw [HO.out], by rw [HV.out]; exact RCO.zero _ _, hk.put5 (b := w.heap.size + 1) (fun h => by omega) _ _ _ _ _⟩
    · have HO : Hid (okR n ⟨p, k, ps, m, hd⟩ l = true) := Lib.hid (by simp [okR, hg, hi])
      have HV : Hid (runV n ⟨p, k, ps, m, hd⟩ l = runC ⟨p, k, ps, m, hd⟩ l) := Lib.hid (by simp [runV, okR, hg, hi])
      have HC : Hid (cntV n ⟨p, k, ps, m, hd⟩ l = ((places ⟨p, k, ps, m, hd⟩ l).length : Int)) := Lib.hid (by simp [cntV, okR, hg, hi])
      have HG := Lib.hid hg
      have HI : Hid ((inB n 1 8 && decide (l.length ≤ 60) && belowB n l) = true) := Lib.hid hi
      have HC0 := Lib.hid hc
      clear hg hi hc
      go_enter Try.func20, Try.ntmps20
      go_wp2_with fail
      refine boxes2 (R := fun W => Calls _ _ _ W _) (fun W hW b0 b1 => ?_)
      refine (IsCache_any No n _ ⟨p, k, ps, m, hd⟩ _ (hv.keep hW)).mono ?_
      rintro e w0 ⟨_, rfl, rfl, k0⟩
      rw [HG.out]
      have B0 := b0.keep k0
      have B1 := b1.keep k0
      have hk := hW.keep k0
      go_wp2_with fail
      refine (IsRequests_any No _ l n _ (hr.keep hk)).mono ?_
      rintro e w1 ⟨_, rfl, rfl, k1⟩
      rw [HI.out]
      have B0 := B0.keep k1
      have B1 := B1.keep k1
      have hk := hk.keep k1
      obtain ⟨c0, c1, c2, c3, c4, fr⟩ := id B0
      go_wp2_with fail
      refine (ownCache_any No _ ⟨p, k, ps, m, hd⟩ _ (hv.keep hk)).mono ?_
      rintro e w2 ⟨v2, rfl, o2, k2⟩
      have o2' := o2
      obtain ⟨pv2, mv2, rfl, hp2, hm2, _⟩ := o2
      obtain ⟨a2, n2, q2, rfl⟩ := hp2.shape
      obtain ⟨a3, n3, q3, rfl⟩ := hm2.shape
      have hl1 := B1.lt
      have hs1 := hk.size
      have hs2 := k2.size
      have B1 := B1.keep k2
      have hk := hk.keep k2
      clear c0 c1 c2 c3 c4 fr B0
      go_wp2_with fail
      have kal := (Chg.refl No w2).alloc (.cells #[.int .i64 p, .int .i64 k, .slice a2 n2 q2, .slice a3 n3 q3, .int .i64 hd] 34)
      have mc := o2'.mc kal (Box.new w2 _ _ _ _ _ _) (Nat.le_refl _)
      have B1 := B1.keep kal
      have hk := hk.keep kal
      have hz : w2.heap.size < (w2.alloc (.cells #[.int .i64 p, .int .i64 k, .slice a2 n2 q2, .slice a3 n3 q3, .int .i64 hd] 34)).heap.size := by simp
      obtain ⟨c, hcc⟩ : ∃ c : Ca, (⟨p, k, ps, m, hd⟩ : Ca) = c := ⟨_, rfl⟩
      rw [hcc] at HO HV HC HG mc
      have HCC := Lib.hid hcc
      have hok0 := goodC_ok HG.out
      clear hcc
      go_loopw [10, 28] (fun f i wr => ∃ (j : Nat) (pv mv : Value), j ≤ l.length ∧ i = .int .i64 j ∧ f = .int .i64 ((placesTo c l j).length : Int) ∧ MC w1.heap.size wr w2.heap.size (runC c (l.take j)) pv mv ∧
        Box wr (w.heap.size + 1) (.int .i64 0) (.int .i64 0) (.slice none 0 0) (.slice none 0 0) (.int .i64 0) ∧ Chg No w wr ∧ w2.heap.size < wr.heap.size) (fun _ i _ => l.length - (intOf i).toNat)
      case atStart => exact ⟨0, _, _, Nat.zero_le _, rfl, rfl, mc, B1, hk, hz⟩
      case round =>
        obtain ⟨j, pv', mv', hj, rfl, rfl, hM, hb1, hch, hzr⟩ := hrel
        obtain ⟨ck, hck⟩ : ∃ ck, runC c (l.take j) = ck := ⟨_, rfl⟩
        have hokk : Ok ck := hck ▸ ok_run hok0 _
        by_cases hlt : j < l.length
        · rw [hck] at hM
          obtain ⟨b, off, rfl, _, hb, hcell⟩ := HC0.out (by intro e; simp [e] at hlt)
          have hrun := runC_snoc c l j hlt
          rw [hck] at hrun
          obtain ⟨y, hy⟩ : ∃ y, l[j] = y := ⟨_, rfl⟩
          have hcl := (hch.cellD b (off + j) hb (fun e => e)).trans (hcell j hlt)
          have hgy : l.getD j 0 = y := by rw [← hy, List.getD_eq_getElem?_getD, List.getElem?_eq_getElem hlt]; rfl
          rw [hgy] at hcl
          rw [hy] at hrun
          have hpl : placesTo c l (j + 1) = if hasB ck.pages y then placesTo c l j else placesTo c l j ++ [(j : Int)] := by
            show (if hasB (runC c (l.take j)).pages (l.getD j 0) then _ else _) = _
            rw [hck, hgy]
          have hple := placesTo_le c l j
          have HR := Lib.hid hrun
          have HP := Lib.hid hpl
          have hj0 : (0 : Int) ≤ (j : Int) := Int.natCast_nonneg _
          have hj1 : (j : Int) < (l.length : Int) := by omega
          have hw1 : IntKind.i64.wrap ((j : Int) + 1) = (j : Int) + 1 := IntWalk.i64_in _ (by omega)
          have hw2 : IntKind.i64.wrap (((placesTo c l j).length : Int) + 1) = ((placesTo c l j).length : Int) + 1 := IntWalk.i64_in _ (by omega)
          clear hcell hrun hpl hple hck hgy hy
          go_wp2_with fail
          refine (step_any w1.heap.size w2.heap.size ck y pv' mv' wr hM (by omega) hokk).mono ?_
          rintro e w3 ⟨_, rfl, rfl, pv3, mv3, mc3, k3, f3⟩
          have hf : ∀ q, foot w2.heap.size pv' mv' q → w1.heap.size ≤ q := fun q hq => by
            rcases hq with rfl | hq | hq
            · exact hs2
            · exact (hM.pages.lt q hq).1
            · exact (hM.marks.lt q hq).1
          have hb3 := hb1.step k3 (fun hq => by have := hf _ hq; omega)
          have hch3 := hch.step k3 (fun q hq hl => by have := hf q hq; omega)
          have hz3 := k3.size
          rw [← HR.out] at mc3
          clear hM hb1 hch k3 f3 hcl hf
          cases hh : hasB ck.pages y
          · have HL : Hid ((placesTo c l (j + 1)).length = (placesTo c l j).length + 1) := Lib.hid (by rw [HP.out, hh]; simp)
            simp only [Bool.not_false]
            go_wp2_with fail
            go_roundw
            case measure => simp [intOf]; omega
            case rel => exact ⟨j + 1, pv3, mv3, by omega, by go_num, by rw [HL.out]; go_num, mc3, hb3, hch3, by omega⟩
          · have HL : Hid ((placesTo c l (j + 1)).length = (placesTo c l j).length) := Lib.hid (by rw [HP.out, hh]; simp)
            simp only [Bool.not_true]
            go_wp2_with fail
            go_roundw
            case measure => simp [intOf]; omega
            case rel => exact ⟨j + 1, pv3, mv3, by omega, by go_num, by rw [HL.out], mc3, hb3, hch3, by omega⟩
        · have hjl : j = l.length := by omega
          subst hjl
          rw [List.take_length] at hM hck
          obtain ⟨a4, n4, q4, rfl⟩ := hM.pages.shape
          obtain ⟨a5, n5, q5, rfl⟩ := hM.marks.shape
          obtain ⟨c0, c1, c2, c3, c4, fr⟩ := id hM.box
          obtain ⟨cc, hcc⟩ : ∃ cc, runC c l = cc := ⟨_, rfl⟩
          rw [hcc] at hM c0 c1 c4 HV
          have HQ : Hid (cntV n c l = ((placesTo c l l.length).length : Int)) := HC
          clear hck hokk hcc
          generalize ((placesTo c l l.length).length : Int) = np at HQ ⊢
          go_wp2_with fail
          refine (ownCache_any No _ cc wr ⟨_, _, rfl, hM.pages.readNo, hM.marks.readNo⟩).mono ?_
          rintro e w4 ⟨v4, rfl, o4, k4⟩
          have hl3 := hb1.lt
          have B1 := hb1.keep k4
          have hk := hch.keep k4
          have o4' := o4
          obtain ⟨xp, xm, rfl, hxp, hxm, _⟩ := id o4
          obtain ⟨xa, xn, xc, rfl⟩ := hxp.shape
          obtain ⟨ya, yn, yc, rfl⟩ := hxm.shape
          clear c0 c1 c2 c3 c4 fr
          obtain ⟨s0, s1, s2, s3, s4, sf⟩ := id B1
          have sf0 := sf 0
          have sf1 := sf 1
          have sf2 := sf 2
          have sf3 := sf 3
          have sf4 := sf 4
          clear sf
          go_wp2_with fail
          obtain ⟨z0, z1, z2, z3, z4, _⟩ := B1.put5 (.int .i64 cc.pol) (.int .i64 cc.size) (.slice xa xn xc) (.slice ya yn yc) (.int .i64 cc.hand)
          refine bodyPost_ret (v := .tuple #[.agg #[.int .i64 cc.pol, .int .i64 cc.size, .slice xa xn xc, .slice ya yn yc, .int .i64 cc.hand], .int .i64 np, .bool true]) (by simp [results, Try.results20, go_sem, z0, z1, z2, z3, z4]) rfl ?_
          have hs := hk.size
          rw [HCC.out]
          refine Ret3.tup ⟨by rw [HQ.out], by rw [HO.out], by rw [HV.out]; exact (o4'.put5 hl3 _ _ _ _ _).weak (by omega), hk.put5 (b := w.heap.size + 1) (fun h => by omega) _ _ _ _ _⟩
end Go.Proofs.Ytfdmghohmohmpaa

/- runs of a cache: plain; NewCache -/
namespace Go.Proofs.Ytfdmghohmohmpaa
open Go.RowKit

theorem good_new {n p k : Int} {l : List Int} (h : askedB n p k l = true) : goodC n (newC p k) = true := by
  simp only [askedB, Bool.and_eq_true, decide_eq_true_eq, inB_iff] at h
  rw [goodC_iff]
  refine ⟨h.2.1.1, h.1.1, h.1.2, ?_, fun a ha => ?_, List.Pairwise.nil, ?_, ?_⟩
  · show ((0 : Nat) : Int) ≤ k
    omega
  · cases ha
  · unfold marksB
    simp [newC]
  · unfold handB
    simp [newC]
    try omega
theorem asked_low {n p k : Int} {l : List Int} (h : askedB n p k l = true) : ∀ x ∈ l, 0 ≤ x ∧ x ≤ n - 1 := by
  simp only [askedB, Bool.and_eq_true, decide_eq_true_eq, inB_iff] at h
  exact fun x hx => inB_iff.1 (List.all_eq_true.1 h.2.2 x hx)
theorem good_run {n : Int} : ∀ (l : List Int) {c : Ca}, goodC n c = true → (∀ x ∈ l, 0 ≤ x ∧ x ≤ n - 1) → goodC n (runC c l) = true
  | [], _, h, _ => h
  | x :: l, c, h, hl => by
    show goodC n (runC (stepC c x) l) = true
    exact good_run l (good_step h (hl x (List.mem_cons_self ..))) (fun y hy => hl y (List.mem_cons_of_mem _ hy))
theorem placesTo_below (c : Ca) (l : List Int) : ∀ m, ∀ x ∈ placesTo c l m, x < (m : Int) := by
  intro m
  induction m with
  | zero => exact fun x hx => by cases hx
  | succ m ih =>
    intro x hx
    unfold placesTo at hx
    split at hx
    · have := ih x hx; omega
    · rcases List.mem_append.1 hx with h | h
      · have := ih x h; omega
      · simp only [List.mem_singleton] at h; omega
theorem place_to (c : Ca) (l : List Int) (j : Nat) : ∀ m, j < m → hasB (placesTo c l m) (j : Int) = !hasB (runC c (l.take j)).pages (l.getD j 0) := by
  intro m
  induction m with
  | zero => exact fun h => absurd h (Nat.not_lt_zero _)
  | succ m ih =>
    intro hj
    unfold placesTo
    by_cases e : j = m
    · subst e
      have hno : hasB (placesTo c l j) (j : Int) = false := by
        rw [← Bool.not_eq_true, hasB_true]
        intro h
        have := placesTo_below c l j _ h
        omega
      cases hh : hasB (runC c (l.take j)).pages (l.getD j 0)
      · rw [if_neg (by simp)]
        exact hasB_true.2 (List.mem_append_right _ (List.mem_singleton.2 rfl))
      · rw [if_pos rfl]
        exact hno
    · have h1 := ih (by omega)
      split
      · exact h1
      · rw [← h1, Bool.eq_iff_iff, hasB_true, hasB_true, List.mem_append, List.mem_singleton]
        constructor
        · rintro (h | h)
          · exact h
          · omega
        · exact .inl
theorem place_has (c : Ca) (l : List Int) (j : Nat) (hj : j < l.length) : hasB (places c l) (j : Int) = !hasB (runC c (l.take j)).pages (l.getD j 0) := place_to c l j l.length hj
theorem held_at (c : Ca) (l : List Int) : ∀ j i, i < j → (pagesTo c l j).getD i [] = diffL (runC c (l.take (i + 1))).pages := by
  intro j
  induction j with
  | zero => exact fun i hi => absurd hi (Nat.not_lt_zero _)
  | succ j ih =>
    intro i hi
    rw [pagesTo, List.getD_eq_getElem?_getD]
    by_cases e : i < j
    · rw [List.getElem?_append_left (by rw [pagesTo_len]; exact e), ← List.getD_eq_getElem?_getD]
      exact ih i e
    · have e : i = (pagesTo c l j).length := by rw [pagesTo_len]; omega
      rw [List.getElem?_append_right (by omega), e, Nat.sub_self, pagesTo_len]
      rfl
/-- a fraction that is made is the one given -/
theorem mkFr_eq {a L : Int} (ha : 0 ≤ a) (hL : 1 ≤ L) (h : (mkFr a L).ok = true) : (mkFr a L).num * L = a * (mkFr a L).den ∧ 0 ≤ (mkFr a L).num ∧ (mkFr a L).num ≤ a ∧ 0 ≤ (mkFr a L).den ∧ (mkFr a L).den ≤ L := by
  unfold mkFr at h ⊢
  simp only at h ⊢
  split at h
  · rename_i hf
    rw [if_pos hf]
    have hg : absI a = a := by unfold absI; omega
    rw [hg]
    obtain ⟨d, hd⟩ : ∃ d, gcdI a L = d := ⟨_, rfl⟩
    have hd1 : 1 ≤ d := hd ▸ gcdI_pos hL
    have h1 : d ∣ a := by rw [← hd]; unfold gcdI; exact Int.gcd_dvd_left ..
    have h2 : d ∣ L := by rw [← hd]; unfold gcdI; exact Int.gcd_dvd_right ..
    rw [hd]
    obtain ⟨q1, rfl⟩ := h1
    obtain ⟨q2, rfl⟩ := h2
    have e1 : (d * q1).tdiv d = q1 := Int.mul_tdiv_cancel_left _ (by omega)
    have e2 : (d * q2).tdiv d = q2 := Int.mul_tdiv_cancel_left _ (by omega)
    rw [e1, e2]
    have p1 : 0 ≤ q1 := by
      rcases Int.lt_or_le q1 0 with h | h
      · have := Int.mul_neg_of_pos_of_neg (show (0 : Int) < d by omega) h; omega
      · exact h
    have p2 : 0 ≤ q2 := by
      rcases Int.lt_or_le q2 0 with h | h
      · have := Int.mul_neg_of_pos_of_neg (show (0 : Int) < d by omega) h; omega
      · exact h
    refine ⟨by rw [Int.mul_left_comm, Int.mul_assoc], p1, ?_, p2, ?_⟩
    · show q1 ≤ d * q1
      have := Int.mul_le_mul_of_nonneg_right hd1 p1
      omega
    · show q2 ≤ d * q2
      have := Int.mul_le_mul_of_nonneg_right hd1 p2
      omega
  · cases h
theorem share_eq {n p k : Int} {l : List Int} (h : (hitV n p k l).ok = true) : (hitV n p k l).num * (l.length : Int) = ((l.length : Int) - ((places (newC p k) l).length : Int)) * (hitV n p k l).den ∧
    0 ≤ (hitV n p k l).num ∧ (hitV n p k l).num ≤ (l.length : Int) ∧ 0 ≤ (hitV n p k l).den ∧ (hitV n p k l).den ≤ (l.length : Int) := by
  have hpl := placesTo_le (newC p k) l l.length
  unfold hitV at h ⊢
  split at h
  · rename_i hh
    rw [if_pos hh]
    rw [Bool.and_eq_true, decide_eq_true_eq] at hh
    have hp2 : (places (newC p k) l).length ≤ l.length := hpl
    obtain ⟨h1, h2, h3, h4, h5⟩ := mkFr_eq (by omega) (by omega) h
    exact ⟨h1, h2, by omega, h4, h5⟩
  · cases h

set_option maxRecDepth 100000 in
set_option maxHeartbeats 1000000 in
theorem implNewCache_any (n p k : Int) (w : World) (hn : inB n 1 8 = true) (hp : inB p 1 7 = true) (hk : inB k 1 6 = true) :
    Calls Try.prog 19 #[.int .i64 n, .int .i64 p, .int .i64 k] w (Ret2 fun v0 v1 w' => v0 = .agg #[.int .i64 p, .int .i64 k, .slice none 0 0, .slice none 0 0, .int .i64 0] ∧ v1 = .bool true ∧ Chg No w w') := by
  have k0 := (Chg.refl No w).alloc (.cells #[.int .i64 0, .int .i64 0, .slice none 0 0, .slice none 0 0, .int .i64 0] 34)
  have bx := Box.new w (.int .i64 0) (.int .i64 0) (.slice none 0 0) (.slice none 0 0) (.int .i64 0) 34
  have HN := Lib.hid hn
  have HP := Lib.hid hp
  have HK := Lib.hid hk
  clear hn hp hk
  go_enter Try.func19, Try.ntmps19
  go_wp2_with fail
  refine (isItems_any _ _).mono ?_
  rintro e w' ⟨rfl, rfl⟩
  rw [HN.out]
  go_wp2_with fail
  refine (isPolicy_any _ _).mono ?_
  rintro e w' ⟨rfl, rfl⟩
  rw [HP.out]
  go_wp2_with fail
  refine (isSize_any _ _).mono ?_
  rintro e w' ⟨rfl, rfl⟩
  rw [HK.out]
  go_wp2_with fail
  refine bodyPost_ret (v := .tuple #[.agg #[.int .i64 p, .int .i64 k, .slice none 0 0, .slice none 0 0, .int .i64 0], .bool true]) (by simp [results, Try.results19, go_sem]) rfl ?_
  exact ⟨_, _, rfl, rfl, rfl, (Chg.refl No w).alloc _⟩
end Go.Proofs.Ytfdmghohmohmpaa
