import Derived.Test.YtndhijckbponkaaQk
import Derived.Test.YtndhijckbponkaaPk
import Derived.Test.YtndhijckbponkaaJf
/- IndependentBest, the program's side -/
namespace Go.Proofs.Ytndhijckbponkaa
open Go.RowKit

/-- the sums of a round -/
noncomputable def rwF (p : Pr) (l : List Int) (W : Int) (n : Nat) : List Int := (List.range p.mv.length).map (fun s => free p (wOf l) W n s)
theorem rwF_len (p : Pr) (l : List Int) (W : Int) (n : Nat) : (rwF p l W n).length = p.mv.length := by unfold rwF; rw [List.length_map, List.length_range]
theorem rwF_get {p : Pr} {l : List Int} {W : Int} {n s : Nat} (h : s < p.mv.length) : (rwF p l W n).getD s 0 = free p (wOf l) W n s := by
  unfold rwF
  rw [List.getD_eq_getElem?_getD, List.getElem?_map, List.getElem?_range h]
  rfl
theorem rwF_zero (p : Pr) (l : List Int) (W : Int) : rwF p l W 0 = List.replicate p.mv.length 0 := by
  refine List.eq_replicate_iff.2 ⟨rwF_len p l W 0, fun x hx => ?_⟩
  unfold rwF at hx
  obtain ⟨s, _, rfl⟩ := List.mem_map.1 hx
  rfl
theorem list_eq {a b : List Int} {m : Nat} (h1 : a.length = m) (h2 : b.length = m) (h : ∀ y, y < m → a.getD y 0 = b.getD y 0) : a = b := by
  refine List.ext_getElem (by omega) (fun i hi hj => ?_)
  have := h i (by omega)
  rw [List.getD_eq_getElem?_getD, List.getD_eq_getElem?_getD, List.getElem?_eq_getElem hi, List.getElem?_eq_getElem hj] at this
  exact this
theorem indB_eq (p : Pr) (st : Int) (l : List Int) (L : Int) : indB p st l L = (takB p st [] && (inB L 0 3 && ((l.length == p.sv.length) && (wgB 0 l && !(sumW l == 0))))) := by
  unfold indB
  cases takB p st [] <;> cases (l.length == p.sv.length) <;> cases wgB 0 l <;> cases (sumW l == 0) <;> cases inB L 0 3 <;> rfl
set_option maxRecDepth 100000 in
set_option maxHeartbeats 4000000 in
theorem implIndependentBest_any (A B : Nat → Prop) (v wv : Value) (p : Pr) (st : Int) (l : List Int) (L : Int) (w : World) (hp : RPr A w v p) (hw : RI B w wv l) :
    Calls Try.prog 20 #[v, .int .i64 st, wv, .int .i64 L] w (Ret2 fun v0 v1 w' => v0 = .agg #[.int .i64 (indV p st l L).num, .int .i64 (indV p st l L).den] ∧ v1 = .bool (indV p st l L).ok ∧ Chg No w w') := by
  have hv := hp
  obtain ⟨mv, sv', rfl, hm, hsv⟩ := hp
  obtain ⟨ma, mc, rfl⟩ := hm.shape
  obtain ⟨sa, sc, rfl⟩ := hsv.shape
  obtain ⟨wa, wc, rfl, _⟩ := id hw
  go_enter Try.func20, Try.ntmps20
  go_wp2_with fail
  refine bx2 (R := fun W => Calls _ _ _ W _) (fun W0 k0 b0 b1 => ?_)
  refine (isStarted_any _ No _ _ p st [] W0 (hv.keep k0) (RI.nil _ _)).mono ?_
  rintro e w1 ⟨_, rfl, rfl, k1⟩
  have kk := k0.keep k1
  replace b0 := b0.keep k1
  replace b1 := b1.keep k1
  clear k1 k0
  cases hT : takB p st []
  · skip
    have HV : Hid (indV p st l L = ⟨0, 0, false⟩) := Lib.hid (by unfold indV; rw [show indB p st l L = false by rw [indB_eq]; rw [hT]; rfl]; rfl)
    have g0 := b1.c 0 _ rfl
    have g1 := b1.c 1 _ rfl
    have f0 := b1.fr 0
    have f1 := b1.fr 1
    have b3 := (b1.set (i := 0) (by simp) (.int .i64 0)).set (i := 1) (by simp) (.int .i64 0)
    have z0 := b3.c 0 _ rfl
    have z1 := b3.c 1 _ rfl
    have kk := (kk.setCell (p := ⟨w.heap.size + 1, 0, none⟩) (fun h => by simp at h; omega) (.int .i64 0)).setCell (p := ⟨w.heap.size + 1, 1, none⟩) (fun h => by simp at h; omega) (.int .i64 0)
    go_wp2_with fail
    exact bodyPost_ret (v := .tuple #[.agg #[.int .i64 0, .int .i64 0], .bool false]) (by simp [results, Try.results20, go_sem, z0, z1]) rfl ⟨_, _, rfl, by rw [HV.out], by rw [HV.out], kk⟩
  · cases hL : inB L 0 3
    · have HL := Lib.hid hL
      clear hL
      go_wp2_with fail
      refine (within_any _ _ _ _).mono ?_
      rintro e w2 ⟨rfl, rfl⟩
      rw [HL.out]
      have HV : Hid (indV p st l L = ⟨0, 0, false⟩) := Lib.hid (by unfold indV; rw [show indB p st l L = false by rw [indB_eq]; rw [HL.out, Bool.false_and, Bool.and_false]]; rfl)
      have g0 := b1.c 0 _ rfl
      have g1 := b1.c 1 _ rfl
      have f0 := b1.fr 0
      have f1 := b1.fr 1
      have b3 := (b1.set (i := 0) (by simp) (.int .i64 0)).set (i := 1) (by simp) (.int .i64 0)
      have z0 := b3.c 0 _ rfl
      have z1 := b3.c 1 _ rfl
      have kk := (kk.setCell (p := ⟨w.heap.size + 1, 0, none⟩) (fun h => by simp at h; omega) (.int .i64 0)).setCell (p := ⟨w.heap.size + 1, 1, none⟩) (fun h => by simp at h; omega) (.int .i64 0)
      go_wp2_with fail
      exact bodyPost_ret (v := .tuple #[.agg #[.int .i64 0, .int .i64 0], .bool false]) (by simp [results, Try.results20, go_sem, z0, z1]) rfl ⟨_, _, rfl, by rw [HV.out], by rw [HV.out], kk⟩
    · have HL := Lib.hid hL
      clear hL
      go_wp2_with fail
      refine (within_any _ _ _ _).mono ?_
      rintro e w2 ⟨rfl, rfl⟩
      rw [HL.out]
      have p1 := b0.c 1 _ rfl
      by_cases hlen : l.length = p.sv.length
      · have hlb : ((l.length : Int) != (p.sv.length : Int)) = false := by rw [hlen]; exact bne_self_eq_false _
        have HLB := Lib.hid (show (l.length == p.sv.length) = true by rw [hlen]; exact beq_self_eq_true _)
        have hwW := hw.keep kk
        have q1 := Lib.hid (fun (W : World) (h : Chg No w1 W) => areWeights_any B _ l 0 W (hwW.keep h))
        rw [hlen] at hw hwW q1 hlb ⊢
        have HLEN := Lib.hid hlen
        clear hlen
        go_wp2_with fail
        refine (q1.out w1 (Chg.refl No w1)).mono ?_
        rintro e w2 ⟨_, rfl, rfl, k2⟩
        replace kk := kk.keep k2
        replace b0 := b0.keep k2
        replace b1 := b1.keep k2
        replace hwW := hwW.keep k2
        replace p1 := b0.c 1 _ rfl
        clear k2 q1
        cases hg : wgB 0 l
        · skip
          have HV : Hid (indV p st l L = ⟨0, 0, false⟩) := Lib.hid (by unfold indV; rw [show indB p st l L = false by rw [indB_eq]; rw [hg, Bool.false_and, Bool.and_false, Bool.and_false, Bool.and_false]]; rfl)
          have g0 := b1.c 0 _ rfl
          have g1 := b1.c 1 _ rfl
          have f0 := b1.fr 0
          have f1 := b1.fr 1
          have b3 := (b1.set (i := 0) (by simp) (.int .i64 0)).set (i := 1) (by simp) (.int .i64 0)
          have z0 := b3.c 0 _ rfl
          have z1 := b3.c 1 _ rfl
          have kk := (kk.setCell (p := ⟨w.heap.size + 1, 0, none⟩) (fun h => by simp at h; omega) (.int .i64 0)).setCell (p := ⟨w.heap.size + 1, 1, none⟩) (fun h => by simp at h; omega) (.int .i64 0)
          go_wp2_with fail
          exact bodyPost_ret (v := .tuple #[.agg #[.int .i64 0, .int .i64 0], .bool false]) (by simp [results, Try.results20, go_sem, z0, z1]) rfl ⟨_, _, rfl, by rw [HV.out], by rw [HV.out], kk⟩
        · have hl8 : l.length ≤ 8 := by
            have h1 := hT
            unfold takB at h1
            rw [Bool.and_eq_true] at h1
            have := (bP_iff.1 h1.1).bnd.2.1
            rw [HLEN.out]; omega
          have hsb := wgB_sum hg hl8
          go_wp2_with fail
          refine (total_any B _ l w2 hwW hsb).mono ?_
          rintro e w3 ⟨rfl, rfl⟩
          clear hl8
          by_cases hW : sumW l = 0
          · have hWb : (sumW l == 0) = true := by rw [hW]; rfl
            have HWB := Lib.hid hWb
            clear hsb
            have HV : Hid (indV p st l L = ⟨0, 0, false⟩) := Lib.hid (by unfold indV; rw [show indB p st l L = false by rw [indB_eq]; rw [HWB.out, Bool.not_true, Bool.and_false, Bool.and_false, Bool.and_false, Bool.and_false]]; rfl)
            have g0 := b1.c 0 _ rfl
            have g1 := b1.c 1 _ rfl
            have f0 := b1.fr 0
            have f1 := b1.fr 1
            have b3 := (b1.set (i := 0) (by simp) (.int .i64 0)).set (i := 1) (by simp) (.int .i64 0)
            have z0 := b3.c 0 _ rfl
            have z1 := b3.c 1 _ rfl
            have kk := (kk.setCell (p := ⟨w.heap.size + 1, 0, none⟩) (fun h => by simp at h; omega) (.int .i64 0)).setCell (p := ⟨w.heap.size + 1, 1, none⟩) (fun h => by simp at h; omega) (.int .i64 0)
            go_wp2_with fail
            exact bodyPost_ret (v := .tuple #[.agg #[.int .i64 0, .int .i64 0], .bool false]) (by simp [results, Try.results20, go_sem, z0, z1]) rfl ⟨_, _, rfl, by rw [HV.out], by rw [HV.out], kk⟩
          · have hWb : (sumW l == 0) = false := beq_eq_false_iff_ne.2 hW
            have HWB := Lib.hid hWb
            obtain ⟨W, hWW⟩ : ∃ W, sumW l = W := ⟨_, rfl⟩
            rw [hWW] at hW hWb ⊢
            have HWW := Lib.hid hWW
            clear hWW
            have hI : indB p st l L = true := by rw [indB_eq, hT, HLB.out, hg, HWB.out, HL.out]; rfl
            obtain ⟨g, hs0, hs1, hL0, hL3, hW1⟩ := indB_facts hI
            obtain ⟨N, rfl⟩ : ∃ N : Nat, L = (N : Int) := ⟨L.toNat, by omega⟩
            obtain ⟨S, rfl⟩ : ∃ S : Nat, st = (S : Int) := ⟨st.toNat, by omega⟩
            have HV : Hid (indV p (S : Int) l (N : Int) = mkFr (free p (wOf l) (sumW l) N S) (sumW l ^ N)) := Lib.hid (by unfold indV; rw [hI]; rfl)
            have HSB := Lib.hid hsb
            have hb := g.pr.bnd
            have hm4 := hb.1
            have hsv4 := hb.2.1
            rw [HWW.out] at HV g hW1
            have p0 := b0.c 0 _ rfl
            clear hI hsb hT hg
            go_wp2_with (refine wmake rfl (.tmp 49) (.tmp 49) rfl p.mv.length rfl rfl (by omega) ?_)
            intro w4 ho4 k4
            rw [← rwF_zero p l W] at ho4
            replace ho4 := ho4.weak (base' := w.heap.size + 1 + 1) (by have := b1.lt; have := k4.size; omega)
            replace kk := kk.keep k4
            replace b0 := b0.keep k4
            replace b1 := b1.keep k4
            replace hwW := hwW.keep k4
            have hN3 : N ≤ 3 := by omega
            have hSm : S < p.mv.length := by omega
            have hm0 : (0 : Int) ≤ (p.mv.length : Int) := Int.natCast_nonneg _
            have hN0 : (0 : Int) ≤ (N : Int) := Int.natCast_nonneg _
            clear p0 p1 hs0 hs1 hL0 hL3 k4
            go_wp2_with fail
            have P0 : (1 : Int) = W ^ 0 := (Int.pow_zero W).symm
            go_loopw [10, 11, 52] (fun sv c z wr => ∃ n : Nat, n ≤ N ∧ z = .int .i64 (n : Int) ∧ c = .int .i64 (W ^ n) ∧ OI (w.heap.size + 1 + 1) wr sv (rwF p l W n) ∧ BoxN wr w.heap.size [.slice ma p.mv.length mc, .slice sa p.sv.length sc] ∧ BoxN wr (w.heap.size + 1) [.int .i64 0, .int .i64 0] ∧ Chg No w wr) (fun _ _ z _ => N - (intOf z).toNat)
            case atStart => exact ⟨0, Nat.zero_le _, rfl, by rw [Int.pow_zero], ho4, b0, b1, kk⟩
            case round =>
              clear ho4 b0 b1 kk P0 hwW
              obtain ⟨n, hn, rfl, rfl, hso, b0, b1, kk⟩ := hrel
              have hn0 : (0 : Int) ≤ (n : Int) := Int.natCast_nonneg _
              have hwW := hw.keep kk
              by_cases hlt : n < N
              · have hn1 : (n : Int) < (N : Int) := by omega
                have hwn : IntKind.i64.wrap ((n : Int) + 1) = (n : Int) + 1 := IntWalk.i64_in _ (by omega)
                have hrl := rwF_len p l W n
                obtain ⟨va, vc, rfl, _⟩ := hso.view
                rw [hrl] at hso ⊢
                have HRL := Lib.hid hrl
                clear hrl
                obtain ⟨P, hP⟩ : ∃ P, W ^ n = P := ⟨_, rfl⟩
                rw [hP]
                have HP := Lib.hid hP
                clear hP
                obtain ⟨wo, hwo⟩ : ∃ wo : World, wo = wr := ⟨_, rfl⟩
                go_wp2_with (refine wmake rfl (.tmp 55) (.tmp 55) rfl p.mv.length rfl rfl (by omega) ?_)
                intro w5 ho5 k5
                rw [← hwo] at hso b0 b1 kk ho5 k5 hwW ⊢
                clear hwo
                go_wp2_with fail
                have hz5 : ∀ y, (List.replicate p.mv.length (0 : Int)).getD y 0 = 0 := fun y => by
                  rw [List.getD_eq_getElem?_getD, List.getElem?_replicate]; split <;> rfl
                have hl5 : (List.replicate p.mv.length (0 : Int)).length = p.mv.length := List.length_replicate ..
                generalize List.replicate p.mv.length (0 : Int) = nl0 at ho5 hz5 hl5
                have HZ5 := Lib.hid hz5
                have HL5 := Lib.hid hl5
                clear hz5 hl5
                obtain ⟨G, hG⟩ : ∃ G, wo.heap.size = G := ⟨_, rfl⟩
                rw [hG] at ho5 ⊢
                have HGG := Lib.hid hG
                clear hG
                go_loopw [59] (fun z wr => ∃ (x : Nat) (nl : List Int), x ≤ p.mv.length ∧ z = .int .i64 (x : Int) ∧ Hid (nl.length = p.mv.length) ∧ Hid (∀ y, y < x → nl.getD y 0 = free p (wOf l) W (n + 1) y) ∧ Hid (∀ y, x ≤ y → nl.getD y 0 = 0) ∧ OI G wr (.slice (some ⟨G, 0, none⟩) p.mv.length p.mv.length) nl ∧ Chg No wo wr) (fun z _ => p.mv.length - (intOf z).toNat)
                case atStart => exact ⟨0, nl0, Nat.zero_le _, rfl, HL5, Lib.hid (fun y hy => absurd hy (Nat.not_lt_zero _)), Lib.hid (fun y _ => HZ5.out y), ho5, k5⟩
                case round =>
                  clear ho5 k5 HZ5 HL5 nl0
                  obtain ⟨x, nl, hx, rfl, HNL, HY0, HY1, hno, kx⟩ := hrel
                  have hx0 : (0 : Int) ≤ (x : Int) := Int.natCast_nonneg _
                  by_cases hxm : x < p.mv.length
                  · have hx1 : (x : Int) < (p.mv.length : Int) := by omega
                    have hwx : IntKind.i64.wrap ((x : Int) + 1) = (x : Int) + 1 := IntWalk.i64_in _ (by omega)
                    go_wp2_with fail
                    go_loopw [64] (fun z wr => ∃ (r : Nat) (nl : List Int), r ≤ p.sv.length ∧ z = .int .i64 (r : Int) ∧ Hid (nl.length = p.mv.length) ∧ Hid (∀ y, y < x → nl.getD y 0 = free p (wOf l) W (n + 1) y) ∧ Hid (nl.getD x 0 = sumK (fG p (wOf l) W n x) r) ∧ Hid (∀ y, x < y → nl.getD y 0 = 0) ∧ OI G wr (.slice (some ⟨G, 0, none⟩) p.mv.length p.mv.length) nl ∧ Chg No wo wr) (fun z _ => p.sv.length - (intOf z).toNat)
                    case atStart => exact ⟨0, nl, Nat.zero_le _, rfl, HNL, HY0, Lib.hid (HY1.out x (Nat.le_refl _)), Lib.hid (fun y hy => HY1.out y (Nat.le_of_lt hy)), hno, kx⟩
                    case round =>
                      clear HNL HY0 HY1 hno kx nl
                      obtain ⟨r, nl, hr, rfl, HNL, HY0, HYX, HY1, hno, kr⟩ := hrel
                      have hr0 : (0 : Int) ≤ (r : Int) := Int.natCast_nonneg _
                      by_cases hrm : r < p.sv.length
                      · have hr1 : (r : Int) < (p.sv.length : Int) := by omega
                        have hwr : IntKind.i64.wrap ((r : Int) + 1) = (r : Int) + 1 := IntWalk.i64_in _ (by omega)
                        obtain ⟨wb, wof, hwa, hwc⟩ : ∃ wb wof, wa = some ⟨wb, wof, none⟩ ∧ wr.cell? ⟨wb, wof + r, none⟩ = some (.int .i64 (l.getD r 0)) := by
                          obtain ⟨a', cap', he, _, _, _, _, hc⟩ := hwW.keep kr
                          simp only [Value.slice.injEq] at he
                          obtain ⟨rfl, _, rfl⟩ := he
                          obtain ⟨wb, wof, rfl, _, _, hcell⟩ := hc (by intro e; have := g.len; simp [e] at this; omega)
                          exact ⟨wb, wof, rfl, hcell r (by rw [g.len]; exact hrm)⟩
                        subst hwa
                        have h9 := g.w9 r (by rw [g.len]; exact hrm)
                        have hb0r := b0.keep kr
                        have p0 := hb0r.c 0 _ rfl
                        have p1 := hb0r.c 1 _ rfl
                        obtain ⟨y, hy⟩ : ∃ y, l.getD r 0 = y := ⟨_, rfl⟩
                        rw [hy] at hwc h9
                        have HYY := Lib.hid hy
                        clear hy
                        go_wp2_with fail
                        refine (served_any A _ p r wr (hv.keep (kk.keep kr)) hb hrm).mono ?_
                        rintro e w6 ⟨sv, rfl, hos, k6⟩
                        have HSM := Lib.hid (fun (y : Int) (hy : y ∈ svd (okA p r) p.mv.length) => svd_mem hy)
                        have HBL := Lib.hid (blL_svd (okA p r) (fF p (wOf l) W n x r) 1152921504606846976 p.mv.length)
                        have hql := svd_len (okA p r) p.mv.length
                        obtain ⟨q, hq⟩ : ∃ q, svd (okA p r) p.mv.length = q := ⟨_, rfl⟩
                        rw [hq] at hos HSM HBL hql
                        obtain ⟨qa, qc, rfl, hqle, _, hqc⟩ := hos.view
                        have HQC := Lib.hid hqc
                        have kk6 := (kk.keep kr).keep k6
                        have hfi : ∀ s', s' < p.mv.length → okA p r s' = true → 0 ≤ fF p (wOf l) W n x r s' ∧ fF p (wOf l) W n x r s' ≤ 22208256 := fun s' hs' ho => by
                          have h3 := g.sc (n := n) (by omega) hxm hs' hrm ho
                          have h4 := g.free_in n (by omega) s' hs'
                          have h5 := bdF_le (show n ≤ 3 by omega)
                          have h6 := pow36_le (show n ≤ 3 by omega)
                          unfold fF
                          omega
                        have HFI := Lib.hid hfi
                        have hbl := fun k (hk : k ≤ q.length) => blL_in (f := fF p (wOf l) W n x r) (far := 1152921504606846976) (by omega) q (fun y hy => by
                          obtain ⟨s', rfl, hs', ho⟩ := HSM.out y hy
                          have := hfi s' hs' ho
                          rw [Int.toNat_natCast]; omega) k hk
                        have HBI := Lib.hid hbl
                        have hb06 := hb0r.keep k6
                        have hso6 := (hso.keep kr).keep k6
                        clear hq hqc hfi hbl p0 p1 hwc
                        go_wp2_with fail
                        go_loopw [16, 73] (fun lv z wr => ∃ k : Nat, k ≤ q.length ∧ z = .int .i64 (k : Int) ∧ lv = .int .i64 (blL (fF p (wOf l) W n x r) 1152921504606846976 (q.take k)).2 ∧ Chg No w6 wr) (fun _ z _ => q.length - (intOf z).toNat)
                        case atStart => exact ⟨0, Nat.zero_le _, rfl, rfl, Chg.refl _ _⟩
                        case round =>
                          obtain ⟨k, hk, rfl, rfl, kq⟩ := hrel
                          have hk0 : (0 : Int) ≤ (k : Int) := Int.natCast_nonneg _
                          have hbi := HBI.out k hk
                          by_cases hkl : k < q.length
                          · have hk1 : (k : Int) < (q.length : Int) := by omega
                            have hwk : IntKind.i64.wrap ((k : Int) + 1) = (k : Int) + 1 := IntWalk.i64_in _ (by omega)
                            have HS := Lib.hid (blL_snoc (fF p (wOf l) W n x r) 1152921504606846976 q k hkl)
                            obtain ⟨s', hs', hsm, hso'⟩ := HSM.out (q.getD k 0) (by rw [List.getD_eq_getElem?_getD, List.getElem?_eq_getElem hkl]; exact List.getElem_mem _)
                            obtain ⟨gq, rfl, _, hgq, hcell, _⟩ := HQC.out (by omega)
                            have hck := (kq.cellD gq k hgq (fun e => e)).trans (hcell k hkl)
                            rw [hs'] at hck HS
                            have hs0 : (0 : Int) ≤ (s' : Int) := Int.natCast_nonneg _
                            have hs1 : (s' : Int) < (p.mv.length : Int) := by omega
                            obtain ⟨gv, rfl, _, hgv, hvcell, _⟩ : ∃ gv, va = some ⟨gv, 0, none⟩ ∧ w.heap.size + 1 + 1 ≤ gv ∧ gv < w6.heap.size ∧ (∀ i, i < (rwF p l W n).length → w6.cell? ⟨gv, i, none⟩ = some (.int .i64 ((rwF p l W n).getD i 0))) ∧ ∀ i, w6.frozen? ⟨gv, i, none⟩ = false := by
                              obtain ⟨a', c', he, h1, h2, h3⟩ := hso6.view
                              simp only [Value.slice.injEq] at he
                              obtain ⟨rfl, _, rfl⟩ := he
                              exact h3 (by have := HRL.out; omega)
                            have hcv := (kq.cellD gv s' hgv (fun e => e)).trans (hvcell s' (by rw [HRL.out]; exact hsm))
                            rw [rwF_get hsm] at hcv
                            have i1 := g.cs hxm hsm hrm hso'
                            have i2 := g.sc (n := n) (by omega) hxm hsm hrm hso'
                            have i3 := g.free_in n (by omega) s' hsm
                            have i4 := HFI.out s' hsm hso'
                            have i5 := bdF_le (show n ≤ 3 by omega)
                            have i6 := pow36_le (show n ≤ 3 by omega)
                            have hF : fF p (wOf l) W n x r s' = W ^ n * (mvA p x s' + svA p r s') + free p (wOf l) W n s' := rfl
                            have HC := Lib.hid (fun (W' : World) (h : Chg No wr W') => cost_any A _ p x s' r W' (hv.keep (kk6.keep (kq.keep h))) hb hxm hsm hrm)
                            rw [HP.out] at hF i2
                            obtain ⟨cc, hcc⟩ : ∃ cc, fF p (wOf l) W n x r s' = cc := ⟨_, rfl⟩
                            obtain ⟨d, hd⟩ : ∃ d, mvA p x s' + svA p r s' = d := ⟨_, rfl⟩
                            obtain ⟨u, hu⟩ : ∃ u, free p (wOf l) W n s' = u := ⟨_, rfl⟩
                            rw [hcc] at hF i4
                            rw [hd] at hF i1 i2 HC
                            rw [hu] at hF i3 hcv
                            have HCC := Lib.hid hcc
                            obtain ⟨z, hz⟩ : ∃ z, P * d = z := ⟨_, rfl⟩
                            rw [hz] at hF i2
                            have hw3 : IntKind.i64.wrap (P * d) = z := by rw [hz]; exact IntWalk.i64_in _ (by omega)
                            have hw4 : IntKind.i64.wrap (z + u) = cc := by rw [IntWalk.i64_in _ (by omega)]; exact hF.symm
                            obtain ⟨lv, hlv⟩ : ∃ lv, (blL (fF p (wOf l) W n x r) 1152921504606846976 (q.take k)).2 = lv := ⟨_, rfl⟩
                            rw [hlv] at hbi ⊢
                            have HLV := Lib.hid hlv
                            have hb0q := hb06.keep kq
                            clear hs' hcell hvcell hcc hd hu hF hz hlv i1 i2 i3 i5 i6
                            go_wp2_with fail
                            refine wp_region_C (by kernel_rfl) (by kernel_rfl) (fun σ _ F hF hcl => ?_)
                            have d0 := fun n => (hb0q.keep (hF n)).c 0 _ rfl
                            have d1 := fun n => (hb0q.keep (hF n)).c 1 _ rfl
                            have d2 := fun n => ((hF n).cellD gv s' (Nat.lt_of_lt_of_le hgv kq.size) (fun e => e)).trans hcv
                            have HA := Lib.hid (fun n => HC.out (F n) (hF n))
                            clear hcv hck HC
                            repeat (go_big_quiet_step ((go_at_call 57; exact fam_ret hcl (HA.out _))))
                            refine wpQuiet_nil ?_
                            rintro _ ⟨nq, rfl⟩
                            have kr1 := kq.keep (hF nq)
                            clear d0 d1 d2 HA hcl
                            generalize F nq = W' at kr1 ⊢
                            have HMN : Hid ((blL (fF p (wOf l) W n x r) 1152921504606846976 (q.take (k + 1))).2 = min lv cc) := Lib.hid (by
                              rw [HS.out]
                              unfold blS
                              rw [Int.toNat_natCast, HCC.out, HLV.out]
                              split
                              · simp only; omega
                              · rw [HLV.out]; omega)
                            go_wp2_with fail
                            go_round
                            case rel => exact ⟨k + 1, hkl, by go_num, by rw [HMN.out], kr1⟩
                            case measure => simp [intOf]; omega
                          · have hke : k = q.length := by omega
                            subst hke
                            rw [List.take_length] at hbi ⊢
                            have hEX : (blL (fF p (wOf l) W n x r) 1152921504606846976 q).2 = (bl (okA p r) (fF p (wOf l) W n x r) p.mv.length).2 := by
                              rw [HBL.out]
                              rcases blI_eq (ok := okA p r) (f := fF p (wOf l) W n x r) (far := 1152921504606846976) p.mv.length (fun y hy ho => by have := HFI.out y hy ho; omega) with ⟨h1, _⟩ | ⟨_, _, h3⟩
                              · obtain ⟨z, hz, hoz⟩ := g.pr.prB.2 r hrm
                                rw [h1 z hz] at hoz; cases hoz
                              · rw [h3]
                            have hbi2 := bl_in2 (C := 22208256) (by omega) p.mv.length HFI.out
                            rw [hEX] at hbi ⊢
                            have HG : Hid (sumK (fG p (wOf l) W n x) (r + 1) = sumK (fG p (wOf l) W n x) r + y * (bl (okA p r) (fF p (wOf l) W n x r) p.mv.length).2) := Lib.hid (by
                              show sumK (fG p (wOf l) W n x) r + l.getD r 0 * (bl (okA p r) (fF p (wOf l) W n x r) p.mv.length).2 = _
                              rw [HYY.out])
                            have h11 := mul9 h9 hbi2
                            have hT := sumK_in (f := fG p (wOf l) W n x) (C := 199874304) (by omega) r (fun i hi => by
                              have hfi : ∀ s', s' < p.mv.length → okA p i s' = true → 0 ≤ fF p (wOf l) W n x i s' ∧ fF p (wOf l) W n x i s' ≤ 22208256 := fun s' hs' ho => by
                                have h3 := g.sc (n := n) (by omega) hxm hs' (show i < p.sv.length by omega) ho
                                have h4 := g.free_in n (by omega) s' hs'
                                have h5 := bdF_le (show n ≤ 3 by omega)
                                have h6 := pow36_le (show n ≤ 3 by omega)
                                unfold fF
                                omega
                              have hb2 := bl_in2 (C := 22208256) (by omega) p.mv.length hfi
                              have h9' := g.w9 i (by rw [g.len]; omega)
                              have h10 : fG p (wOf l) W n x i = l.getD i 0 * (bl (okA p i) (fF p (wOf l) W n x i) p.mv.length).2 := rfl
                              have h11' := mul9 h9' hb2
                              rw [h10]; omega)
                            obtain ⟨lv, hlv⟩ : ∃ lv, (bl (okA p r) (fF p (wOf l) W n x r) p.mv.length).2 = lv := ⟨_, rfl⟩
                            rw [hlv] at HG h11 ⊢
                            obtain ⟨sm, hsm⟩ : ∃ sm, sumK (fG p (wOf l) W n x) r = sm := ⟨_, rfl⟩
                            rw [hsm] at HG hT HYX
                            have hw5 : IntKind.i64.wrap (y * lv) = y * lv := IntWalk.i64_in _ (by omega)
                            have hw6 : IntKind.i64.wrap (sm + y * lv) = sm + y * lv := IntWalk.i64_in _ (by omega)
                            have k7 := k6.keep kq
                            have hno7 := hno.keep k7
                            obtain ⟨hst, kst⟩ := hno7.store x (sm + y * lv)
                            have hnx := hno7.at.1 x (by rw [HNL.out]; exact hxm)
                            have hnf := hno7.at.2.1 x
                            rw [HYX.out] at hnx
                            clear hbi hbi2 hEX hlv hsm
                            go_wp2_with fail
                            go_round
                            case rel => exact ⟨r + 1, nl.set x (sm + y * lv), by omega, by go_num, Lib.hid (by rw [List.length_set]; exact HNL.out), Lib.hid (fun z hz => by
                              rw [List.getD_eq_getElem?_getD, List.getElem?_set_ne (by omega), ← List.getD_eq_getElem?_getD]; exact HY0.out z hz), Lib.hid (by
                              rw [List.getD_eq_getElem?_getD, List.getElem?_set_self (by rw [HNL.out]; exact hxm), HG.out]; rfl), Lib.hid (fun z hz => by
                              rw [List.getD_eq_getElem?_getD, List.getElem?_set_ne (by omega), ← List.getD_eq_getElem?_getD]; exact HY1.out z hz), hst, (kr.keep k7).step kst (fun z e hz => by have := HGG.out; omega)⟩
                            case measure => simp [intOf]; omega
                      · have hre : r = p.sv.length := by omega
                        subst hre
                        go_wp2_with fail
                        go_round
                        case rel => exact ⟨x + 1, nl, by omega, by go_num, HNL, Lib.hid (fun y hy => by
                          by_cases e : y < x
                          · exact HY0.out y e
                          · have : y = x := by omega
                            subst this; exact HYX.out), Lib.hid (fun y hy => HY1.out y (by omega)), hno, kr⟩
                        case measure => simp [intOf]; omega
                  · have hxe : x = p.mv.length := by omega
                    have hnl : nl = rwF p l W (n + 1) := list_eq HNL.out (rwF_len ..) (fun y hy => by rw [HY0.out y (by omega), rwF_get hy])
                    subst hnl
                    have hno' := hno.weak (base' := w.heap.size + 1 + 1) (by have := b1.lt; have := HGG.out; omega)
                    have hpw := pow36 g.W0.1 g.W0.2 (n + 1) (by omega)
                    have hpl := pow36_le (show n + 1 ≤ 3 by omega)
                    have hps : W ^ (n + 1) = P * W := by rw [Int.pow_succ, HP.out]
                    rw [hps] at hpw
                    have hwP : IntKind.i64.wrap (P * W) = P * W := IntWalk.i64_in _ (by omega)
                    have HPS := Lib.hid hps
                    clear hps hpw hpl
                    go_wp2_with fail
                    refine (total_any B _ l wr (hwW.keep kx) HSB.out).mono ?_
                    rintro e w6 ⟨rfl, rfl⟩
                    rw [HWW.out]
                    go_wp2_with fail
                    go_round
                    case rel => exact ⟨n + 1, hlt, by go_num, by rw [HPS.out], hno', b0.keep kx, b1.keep kx, kk.keep kx⟩
                    case measure => simp [intOf]; omega
              · have hne : n = N := by omega
                subst hne
                have hfr := g.free_in n hN3 S hSm
                have hbd := bdF_le hN3
                have hpw := pow36 g.W0.1 g.W0.2 n hN3
                have hpl := pow36_le hN3
                have hp1 : 1 ≤ W ^ n := by
                  have := Int.pow_pos (n := W) (m := n) (by omega)
                  omega
                obtain ⟨va, vc, rfl, hle, _, hcl⟩ := hso.view
                rw [rwF_len] at hle hcl ⊢
                obtain ⟨gv, rfl, _, _, hcell, _⟩ := hcl (by omega)
                have hcS := hcell S hSm
                rw [rwF_get hSm] at hcS
                obtain ⟨u, hu⟩ : ∃ u, free p (wOf l) W n S = u := ⟨_, rfl⟩
                rw [hu] at hfr HV hcS
                obtain ⟨t, ht⟩ : ∃ t, W ^ n = t := ⟨_, rfl⟩
                rw [ht] at hpw hp1 HV ⊢
                have hS0 : (0 : Int) ≤ (S : Int) := Int.natCast_nonneg _
                have hS1 : (S : Int) < (p.mv.length : Int) := by omega
                clear hu ht hcell hcl hso
                go_wp2_with fail
                refine (makeFrac_any u t wr (by omega) (by omega) (by omega) (by omega)).mono ?_
                rintro e w4 ⟨_, _, rfl, rfl, rfl, k4⟩
                obtain ⟨fr, hfe⟩ : ∃ fr, mkFr u t = fr := ⟨_, rfl⟩
                rw [hfe] at HV ⊢
                clear hfe
                have kk4 := kk.keep k4
                have b4 := b1.keep k4
                have g0 := b4.c 0 _ rfl
                have g1 := b4.c 1 _ rfl
                have f0 := b4.fr 0
                have f1 := b4.fr 1
                have b5 := (b4.set (i := 0) (by simp) (.int .i64 fr.num)).set (i := 1) (by simp) (.int .i64 fr.den)
                have z0 := b5.c 0 _ rfl
                have z1 := b5.c 1 _ rfl
                have kk := (kk4.setCell (p := ⟨w.heap.size + 1, 0, none⟩) (fun h => by simp at h; omega) (.int .i64 fr.num)).setCell (p := ⟨w.heap.size + 1, 1, none⟩) (fun h => by simp at h; omega) (.int .i64 fr.den)
                go_wp2_with fail
                exact bodyPost_ret (v := .tuple #[.agg #[.int .i64 fr.num, .int .i64 fr.den], .bool fr.ok]) (by simp [results, Try.results20, go_sem, z0, z1]) rfl ⟨_, _, rfl, by rw [HV.out], by rw [HV.out], kk⟩
      · have hli : ¬ ((l.length : Int) = (p.sv.length : Int)) := by omega
        have hln : ((l.length : Int) != (p.sv.length : Int)) = true := bne_iff_ne.2 hli
        have hfb := Lib.hid (show (l.length == p.sv.length) = false from beq_eq_false_iff_ne.2 hlen)
        have HLL := Lib.hid HL
        have HV : Hid (indV p st l L = ⟨0, 0, false⟩) := Lib.hid (by unfold indV; rw [show indB p st l L = false by rw [indB_eq]; rw [hfb.out, Bool.false_and, Bool.and_false, Bool.and_false]]; rfl)
        have g0 := b1.c 0 _ rfl
        have g1 := b1.c 1 _ rfl
        have f0 := b1.fr 0
        have f1 := b1.fr 1
        have b3 := (b1.set (i := 0) (by simp) (.int .i64 0)).set (i := 1) (by simp) (.int .i64 0)
        have z0 := b3.c 0 _ rfl
        have z1 := b3.c 1 _ rfl
        have kk := (kk.setCell (p := ⟨w.heap.size + 1, 0, none⟩) (fun h => by simp at h; omega) (.int .i64 0)).setCell (p := ⟨w.heap.size + 1, 1, none⟩) (fun h => by simp at h; omega) (.int .i64 0)
        go_wp2_with fail
        exact bodyPost_ret (v := .tuple #[.agg #[.int .i64 0, .int .i64 0], .bool false]) (by simp [results, Try.results20, go_sem, z0, z1]) rfl ⟨_, _, rfl, by rw [HV.out], by rw [HV.out], kk⟩
end Go.Proofs.Ytndhijckbponkaa
