import Derived.Test.YtndhijckbponkaaQj
import Derived.Test.YtndhijckbponkaaPq
/- IndependentBest, the reference's side -/
namespace Go.Proofs.Ytndhijckbponkaa
open Go.RowKit

noncomputable def indB (p : Pr) (st : Int) (l : List Int) (L : Int) : Bool := takB p st [] && ((l.length == p.sv.length) && (wgB 0 l && (!(sumW l == 0) && inB L 0 3)))
noncomputable def indV (p : Pr) (st : Int) (l : List Int) (L : Int) : Fr := if indB p st l L then mkFr (free p (wOf l) (sumW l) L.toNat st.toNat) (sumW l ^ L.toNat) else ⟨0, 0, false⟩
theorem indB_facts {p : Pr} {st : Int} {l : List Int} {L : Int} (h : indB p st l L = true) : Fg p l (sumW l) ∧ 0 ≤ st ∧ st < (p.mv.length : Int) ∧ 0 ≤ L ∧ L ≤ 3 ∧ 1 ≤ sumW l := by
  unfold indB takB at h
  simp only [Bool.and_eq_true, Bool.not_eq_true'] at h
  obtain ⟨⟨h1, h2, _⟩, h3, h4, h5, h6⟩ := h
  have hp := bP_iff.1 h1
  have h7 := inB_iff.1 h2
  have h8 := inB_iff.1 h6
  have hl : l.length = p.sv.length := by simpa using h3
  have hsv := hp.bnd.2.1
  have hw : ∀ i, i < l.length → 0 ≤ l.getD i 0 ∧ l.getD i 0 ≤ 9 := fun i hi => wgB_mem h4 _ (getD_mem hi)
  have hs := sumTo_in (f := fun a => l.getD a 0) (lo := 0) (hi := 9) l.length hw
  have hne : ¬ sumW l = 0 := fun e => by rw [e] at h5; cases h5
  have hs2 : 0 ≤ sumW l ∧ sumW l ≤ 36 := by unfold sumW; omega
  exact ⟨⟨hp, hl, hw, rfl, hs2⟩, h7.1, by omega, h8.1, h8.2, by omega⟩
theorem RI.none0 (A : Nat → Prop) (W : World) (g : Nat) (hA : ¬ A g) (hg : g < W.heap.size) : RI A W (.slice (some ⟨g, 0, none⟩) 0 0) [] := ⟨some ⟨g, 0, none⟩, 0, rfl, Nat.le_refl _, by omega, by simp, (fun h => by cases h), fun e => absurd rfl e⟩
set_option maxRecDepth 100000 in
set_option maxHeartbeats 4000000 in
theorem specIndependentBest_any (A B : Nat → Prop) (v wv : Value) (p : Pr) (st : Int) (l : List Int) (L : Int) (w : World) (hp : RPr A w v p) (hw : RI B w wv l) :
    Calls Try.prog 21 #[v, .int .i64 st, wv, .int .i64 L] w (Ret2 fun v0 v1 w' => v0 = .agg #[.int .i64 (indV p st l L).num, .int .i64 (indV p st l L).den] ∧ v1 = .bool (indV p st l L).ok ∧ Chg No w w') := by
  have hv := hp
  obtain ⟨mv, sv', rfl, hm, hsv⟩ := hp
  obtain ⟨ma, mc, rfl⟩ := hm.shape
  obtain ⟨sa, sc, rfl⟩ := hsv.shape
  obtain ⟨wa, wc, rfl, _⟩ := id hw
  go_enter Try.func21, Try.ntmps21
  go_wp2_with fail
  refine bx3 (R := fun W => Calls _ _ _ W _) (fun W0 k0 b0 b1 b2 => ?_)
  have hz2 := b2.lt
  refine (l8Takes_any _ No _ _ p st [] W0 (hv.keep k0) (RI.none0 No W0 _ (fun e => e) hz2)).mono ?_
  rintro e w1 ⟨_, rfl, rfl, k1⟩
  have kk := k0.keep k1
  replace b0 := b0.keep k1
  replace b1 := b1.keep k1
  clear b2 hz2 k1 k0
  cases hT : takB p st []
  · skip
    have HV : Hid (indV p st l L = ⟨0, 0, false⟩) := Lib.hid (by unfold indV; rw [show indB p st l L = false by unfold indB; rw [hT]; rfl]; rfl)
    have g0 := b1.c 0 _ rfl
    have g1 := b1.c 1 _ rfl
    have f0 := b1.fr 0
    have f1 := b1.fr 1
    have b3 := (b1.set (i := 0) (by simp) (.int .i64 0)).set (i := 1) (by simp) (.int .i64 0)
    have z0 := b3.c 0 _ rfl
    have z1 := b3.c 1 _ rfl
    have kk := (kk.setCell (p := ⟨w.heap.size + 1, 0, none⟩) (fun h => by simp at h; omega) (.int .i64 0)).setCell (p := ⟨w.heap.size + 1, 1, none⟩) (fun h => by simp at h; omega) (.int .i64 0)
    go_wp2_with fail
    exact bodyPost_ret (v := .tuple #[.agg #[.int .i64 0, .int .i64 0], .bool false]) (by simp [results, Try.results21, go_sem, z0, z1]) rfl ⟨_, _, rfl, by rw [HV.out], by rw [HV.out], kk⟩
  · by_cases hlen : l.length = p.sv.length
    · have hlb : ((l.length : Int) != (p.sv.length : Int)) = false := by rw [hlen]; exact bne_self_eq_false _
      have hle : (l.length == p.sv.length) = true := by rw [hlen]; exact beq_self_eq_true _
      have HLB := Lib.hid hle
      have p1 := b0.c 1 _ rfl
      have hwW := hw.keep kk
      have q1 := Lib.hid (fun (W : World) (h : Chg No w1 W) => l11Weights_any B _ l 0 W (hwW.keep h))
      cases hg : wgB 0 l
      · clear hle
        rw [hlen] at hw hwW q1 hlb ⊢
        have HLEN := Lib.hid hlen
        clear hlen
        go_wp2_with fail
        refine (q1.out w1 (Chg.refl No w1)).mono ?_
        rintro e w2 ⟨rfl, rfl⟩
        rw [hg]
        have HV : Hid (indV p st l L = ⟨0, 0, false⟩) := Lib.hid (by unfold indV; rw [show indB p st l L = false by unfold indB; rw [hg, Bool.false_and, Bool.and_false, Bool.and_false]]; rfl)
        have g0 := b1.c 0 _ rfl
        have g1 := b1.c 1 _ rfl
        have f0 := b1.fr 0
        have f1 := b1.fr 1
        have b3 := (b1.set (i := 0) (by simp) (.int .i64 0)).set (i := 1) (by simp) (.int .i64 0)
        have z0 := b3.c 0 _ rfl
        have z1 := b3.c 1 _ rfl
        have kk := (kk.setCell (p := ⟨w.heap.size + 1, 0, none⟩) (fun h => by simp at h; omega) (.int .i64 0)).setCell (p := ⟨w.heap.size + 1, 1, none⟩) (fun h => by simp at h; omega) (.int .i64 0)
        go_wp2_with fail
        exact bodyPost_ret (v := .tuple #[.agg #[.int .i64 0, .int .i64 0], .bool false]) (by simp [results, Try.results21, go_sem, z0, z1]) rfl ⟨_, _, rfl, by rw [HV.out], by rw [HV.out], kk⟩
      · clear hle
        rw [hlen] at hw hwW q1 hlb ⊢
        have HLEN := Lib.hid hlen
        clear hlen
        go_wp2_with fail
        refine (q1.out w1 (Chg.refl No w1)).mono ?_
        rintro e w2 ⟨rfl, rfl⟩
        rw [hg]
        have hl8 : l.length ≤ 8 := by
          have h1 := hT
          unfold takB at h1
          rw [Bool.and_eq_true] at h1
          have := (bP_iff.1 h1.1).bnd.2.1
          rw [HLEN.out]; omega
        have hsb := wgB_sum hg hl8
        go_wp2_with fail
        refine (l11Sum_any B _ l w1 hwW hsb).mono ?_
        rintro e w2 ⟨rfl, rfl⟩
        clear hl8
        by_cases hW : sumW l = 0
        · have hWb : (sumW l == 0) = true := by rw [hW]; rfl
          have HWB := Lib.hid hWb
          clear hsb
          have HV : Hid (indV p st l L = ⟨0, 0, false⟩) := Lib.hid (by unfold indV; rw [show indB p st l L = false by unfold indB; rw [HWB.out, Bool.not_true, Bool.false_and, Bool.and_false, Bool.and_false, Bool.and_false]]; rfl)
          have g0 := b1.c 0 _ rfl
          have g1 := b1.c 1 _ rfl
          have f0 := b1.fr 0
          have f1 := b1.fr 1
          have b3 := (b1.set (i := 0) (by simp) (.int .i64 0)).set (i := 1) (by simp) (.int .i64 0)
          have z0 := b3.c 0 _ rfl
          have z1 := b3.c 1 _ rfl
          have kk := (kk.setCell (p := ⟨w.heap.size + 1, 0, none⟩) (fun h => by simp at h; omega) (.int .i64 0)).setCell (p := ⟨w.heap.size + 1, 1, none⟩) (fun h => by simp at h; omega) (.int .i64 0)
          go_wp2_with fail
          exact bodyPost_ret (v := .tuple #[.agg #[.int .i64 0, .int .i64 0], .bool false]) (by simp [results, Try.results21, go_sem, z0, z1]) rfl ⟨_, _, rfl, by rw [HV.out], by rw [HV.out], kk⟩
        · have hWb : (sumW l == 0) = false := beq_eq_false_iff_ne.2 hW
          have HWB := Lib.hid hWb
          obtain ⟨W, hWW⟩ : ∃ W, sumW l = W := ⟨_, rfl⟩
          rw [hWW] at hW hWb ⊢
          have HWW := Lib.hid hWW
          clear hWW
          cases hL : inB L 0 3
          · have HL := Lib.hid hL
            clear hL
            go_wp2_with fail
            refine (l1In_any _ _ _ _).mono ?_
            rintro e w3 ⟨rfl, rfl⟩
            rw [HL.out]
            clear hsb
            have HV : Hid (indV p st l L = ⟨0, 0, false⟩) := Lib.hid (by unfold indV; rw [show indB p st l L = false by unfold indB; rw [HL.out, Bool.and_false, Bool.and_false, Bool.and_false, Bool.and_false]]; rfl)
            have g0 := b1.c 0 _ rfl
            have g1 := b1.c 1 _ rfl
            have f0 := b1.fr 0
            have f1 := b1.fr 1
            have b3 := (b1.set (i := 0) (by simp) (.int .i64 0)).set (i := 1) (by simp) (.int .i64 0)
            have z0 := b3.c 0 _ rfl
            have z1 := b3.c 1 _ rfl
            have kk := (kk.setCell (p := ⟨w.heap.size + 1, 0, none⟩) (fun h => by simp at h; omega) (.int .i64 0)).setCell (p := ⟨w.heap.size + 1, 1, none⟩) (fun h => by simp at h; omega) (.int .i64 0)
            go_wp2_with fail
            exact bodyPost_ret (v := .tuple #[.agg #[.int .i64 0, .int .i64 0], .bool false]) (by simp [results, Try.results21, go_sem, z0, z1]) rfl ⟨_, _, rfl, by rw [HV.out], by rw [HV.out], kk⟩
          · have HL := Lib.hid hL
            have hI : indB p st l L = true := by unfold indB; rw [hT, HLB.out, hg, HWB.out, hL]; rfl
            clear hL
            obtain ⟨g, hs0, hs1, hL0, hL3, hW1⟩ := indB_facts hI
            obtain ⟨n, rfl⟩ : ∃ n : Nat, L = (n : Int) := ⟨L.toNat, by omega⟩
            obtain ⟨S, rfl⟩ : ∃ S : Nat, st = (S : Int) := ⟨st.toNat, by omega⟩
            have HV : Hid (indV p (S : Int) l (n : Int) = mkFr (free p (wOf l) (sumW l) n S) (sumW l ^ n)) := Lib.hid (by unfold indV; rw [hI]; rfl)
            have hn3 : n ≤ 3 := by omega
            have hSl : S < p.mv.length := by omega
            have hfr := g.free_in n hn3 S hSl
            have hbd := bdF_le hn3
            have hpw := pow36 g.W0.1 g.W0.2 n hn3
            have hpl := pow36_le hn3
            have hp1 : 1 ≤ sumW l ^ n := by
              have := Int.pow_pos (n := sumW l) (m := n) (by omega)
              omega
            have HF := Lib.hid (sFree_all g n hn3)
            rw [HWW.out] at HF HV hfr hpw hp1 hW1
            have hW36 := g.W0
            rw [HWW.out] at hW36
            have HSB := Lib.hid hsb
            have HG := Lib.hid g
            clear hI g hsb hT hg
            go_wp2_with fail
            refine (l1In_any _ _ _ _).mono ?_
            rintro e w3 ⟨rfl, rfl⟩
            rw [HL.out]
            have p0 := b0.c 0 _ rfl
            go_wp2_with fail
            refine (HF.out A B _ _ S w1 (hv.keep kk) hwW hSl).mono ?_
            rintro e w3 ⟨_, rfl, rfl, k3⟩
            have kk3 := kk.keep k3
            obtain ⟨u, hu⟩ : ∃ u, free p (wOf l) W n S = u := ⟨_, rfl⟩
            rw [hu] at hfr HV ⊢
            clear hu HF
            go_wp2_with fail
            refine (l11Sum_any B _ l w3 (hwW.keep k3) HSB.out).mono ?_
            rintro e w4 ⟨rfl, rfl⟩
            rw [HWW.out]
            go_wp2_with fail
            refine (l11Power_any36 W n w3 hW36 hn3).mono ?_
            rintro e w4 ⟨rfl, rfl⟩
            obtain ⟨t, ht⟩ : ∃ t, W ^ n = t := ⟨_, rfl⟩
            rw [ht] at hpw hp1 HV ⊢
            clear ht
            go_wp2_with fail
            refine (l2Make_any u t w3 (by omega) (by omega) (by omega) (by omega)).mono ?_
            rintro e w4 ⟨_, _, rfl, rfl, rfl, k4⟩
            obtain ⟨fr, hfe⟩ : ∃ fr, mkFr u t = fr := ⟨_, rfl⟩
            rw [hfe] at HV ⊢
            clear hfe
            have kk4 := kk3.keep k4
            have b4 := (b1.keep k3).keep k4
            have g0 := b4.c 0 _ rfl
            have g1 := b4.c 1 _ rfl
            have f0 := b4.fr 0
            have f1 := b4.fr 1
            have b5 := (b4.set (i := 0) (by simp) (.int .i64 fr.num)).set (i := 1) (by simp) (.int .i64 fr.den)
            have z0 := b5.c 0 _ rfl
            have z1 := b5.c 1 _ rfl
            have kk := (kk4.setCell (p := ⟨w.heap.size + 1, 0, none⟩) (fun h => by simp at h; omega) (.int .i64 fr.num)).setCell (p := ⟨w.heap.size + 1, 1, none⟩) (fun h => by simp at h; omega) (.int .i64 fr.den)
            go_wp2_with fail
            exact bodyPost_ret (v := .tuple #[.agg #[.int .i64 fr.num, .int .i64 fr.den], .bool fr.ok]) (by simp [results, Try.results21, go_sem, z0, z1]) rfl ⟨_, _, rfl, by rw [HV.out], by rw [HV.out], kk⟩
    · have hli : ¬ ((l.length : Int) = (p.sv.length : Int)) := by omega
      have hln : ((l.length : Int) != (p.sv.length : Int)) = true := bne_iff_ne.2 hli
      have p1 := b0.c 1 _ rfl
      have hfb := Lib.hid (show (l.length == p.sv.length) = false from beq_eq_false_iff_ne.2 hlen)
      have HV : Hid (indV p st l L = ⟨0, 0, false⟩) := Lib.hid (by unfold indV; rw [show indB p st l L = false by unfold indB; rw [hfb.out, Bool.false_and, Bool.and_false]]; rfl)
      have g0 := b1.c 0 _ rfl
      have g1 := b1.c 1 _ rfl
      have f0 := b1.fr 0
      have f1 := b1.fr 1
      have b3 := (b1.set (i := 0) (by simp) (.int .i64 0)).set (i := 1) (by simp) (.int .i64 0)
      have z0 := b3.c 0 _ rfl
      have z1 := b3.c 1 _ rfl
      have kk := (kk.setCell (p := ⟨w.heap.size + 1, 0, none⟩) (fun h => by simp at h; omega) (.int .i64 0)).setCell (p := ⟨w.heap.size + 1, 1, none⟩) (fun h => by simp at h; omega) (.int .i64 0)
      go_wp2_with fail
      exact bodyPost_ret (v := .tuple #[.agg #[.int .i64 0, .int .i64 0], .bool false]) (by simp [results, Try.results21, go_sem, z0, z1]) rfl ⟨_, _, rfl, by rw [HV.out], by rw [HV.out], kk⟩
end Go.Proofs.Ytndhijckbponkaa
