import Derived.Test.YtdgcohoneijleaaGreatAh
import Derived.Test.YtdgcohoneijleaaGreatAe
/- the cost of a move: the program's walk -/
namespace Go.Proofs.YtdgcohoneijleaaGreat
open Go.RowKit

theorem ors_in : ∀ k, k ≤ 3 → ∀ o ∈ ors k, o.length = k ∧ ∀ i, i < k → 0 ≤ o.getD i 0 ∧ o.getD i 0 < (k : Int) := by decide
theorem ors_le : ∀ k, k ≤ 3 → (ors k).length ≤ 6 := by decide
theorem pts_get {n : Nat} {a : List Int} (h : Pts n a) {i : Nat} (hi : i < a.length) : ∃ x : Nat, a.getD i 0 = (x : Int) ∧ x < n := by
  have := h (a.getD i 0) (by rw [List.getD_eq_getElem?_getD, List.getElem?_eq_getElem hi]; exact List.getElem_mem hi)
  exact ⟨(a.getD i 0).toNat, by omega, by omega⟩
theorem cell_in {D : List (List Int)} (h : MetP D) {x y : Nat} (hx : x < D.length) (hy : y < D.length) : 0 ≤ cellA D x y ∧ cellA D x y ≤ 99 := by
  obtain ⟨h1, h2⟩ := metP_d h
  have e : dD D x y = cellA D x y := by unfold dD; rw [Int.toNat_natCast, Int.toNat_natCast]
  have g1 := h1.pos x y (by omega) (by omega) (by omega) (by omega)
  have g2 := h2 x y (by omega) (by omega) (by omega) (by omega)
  rw [e] at g1 g2
  exact ⟨g1, g2⟩
theorem ocT_step {D : List (List Int)} (hm : MetP D) {a b o : List Int} (pa : Pts D.length a) (pb : Pts D.length b) (hl : a.length = b.length) (ho : o.length = a.length ∧ ∀ i, i < a.length → 0 ≤ o.getD i 0 ∧ o.getD i 0 < (a.length : Int)) {j : Nat} (hj : j < a.length) :
    ∃ x y z : Nat, a.getD j 0 = (x : Int) ∧ x < D.length ∧ o.getD j 0 = (y : Int) ∧ y < a.length ∧ b.getD y 0 = (z : Int) ∧ z < D.length ∧ ocT (dD D) a b o (j + 1) = ocT (dD D) a b o j + cellA D x z ∧ 0 ≤ cellA D x z ∧ cellA D x z ≤ 99 := by
  obtain ⟨x, hx, hx'⟩ := pts_get pa hj
  have hoj := ho.2 j hj
  obtain ⟨y, hy⟩ : ∃ y : Nat, o.getD j 0 = (y : Int) := ⟨(o.getD j 0).toNat, by omega⟩
  have hyl : y < a.length := by omega
  obtain ⟨z, hz, hz'⟩ := pts_get pb (i := y) (by omega)
  refine ⟨x, y, z, hx, hx', hy, hyl, hz, hz', ?_, cell_in hm hx' hz'⟩
  rw [ocT, hy, Int.toNat_natCast, hx, hz, dD, Int.toNat_natCast, Int.toNat_natCast]
theorem ocT_in {D : List (List Int)} (hm : MetP D) {a b o : List Int} (pa : Pts D.length a) (pb : Pts D.length b) (hl : a.length = b.length) (ho : o.length = a.length ∧ ∀ i, i < a.length → 0 ≤ o.getD i 0 ∧ o.getD i 0 < (a.length : Int)) : ∀ j, j ≤ a.length → 0 ≤ ocT (dD D) a b o j ∧ ocT (dD D) a b o j ≤ 99 * j
  | 0, _ => by simp [ocT]
  | j + 1, hj => by
    have ih := ocT_in hm pa pb hl ho j (by omega)
    obtain ⟨x, y, z, _, _, _, _, _, _, e, h1, h2⟩ := ocT_step hm pa pb hl ho (j := j) (by omega)
    rw [e]; omega
theorem lowF_snoc (l : List Int) (c far : Int) : lowF (l ++ [c]) far = if c < lowF l far then c else lowF l far := by unfold lowF; rw [List.foldl_append]; rfl
theorem take_snocD {α : Type} (l : List α) (d : α) {j : Nat} (h : j < l.length) : l.take (j + 1) = l.take j ++ [l.getD j d] := by
  rw [List.take_add_one, List.getElem?_eq_getElem h, List.getD_eq_getElem?_getD, List.getElem?_eq_getElem h]; rfl
set_option maxRecDepth 100000 in
set_option maxHeartbeats 4000000 in
theorem matched_any (A B C : Nat → Prop) (dv av bv : Value) (D : List (List Int)) (a b : List Int) (w : World) (h : RII A w dv D) (ha : RI B w av a) (hb : RI C w bv b) (hm : MetP D) (hl : a.length = b.length) (hk : 1 ≤ a.length ∧ a.length ≤ 3) (pa : Pts D.length a) (pb : Pts D.length b) :
    Calls Tryz.prog 74 #[.agg #[dv], av, bv] w (Ret2 fun v0 v1 w' => (∃ sa sn sc, v0 = .slice sa sn sc) ∧ v1 = .int .i64 (mvF (dD D) a b) ∧ Chg No w w') := by
  obtain ⟨da, dc, rfl⟩ := h.shape
  obtain ⟨aa, ac, rfl, _⟩ := id ha
  obtain ⟨ba, bc, rfl, _⟩ := id hb
  have HST := Lib.hid (fun o (ho : o ∈ ors a.length) j (hj : j < a.length) => ocT_step hm pa pb hl (ors_in a.length hk.2 o ho) hj)
  have HIN := Lib.hid (fun o (ho : o ∈ ors a.length) j (hj : j ≤ a.length) => ocT_in hm pa pb hl (ors_in a.length hk.2 o ho) j hj)
  have HOL := Lib.hid (fun o (ho : o ∈ ors a.length) => (ors_in a.length hk.2 o ho).1)
  have hO6 := ors_le a.length hk.2
  have HM : Hid (mvF (dD D) a b = lowF ((ors a.length).map (oc (dD D) a b)) 1073741824) := Lib.hid rfl
  have HOC : Hid (∀ o, oc (dD D) a b o = ocT (dD D) a b o a.length) := Lib.hid fun _ => rfl
  have HDR : Hid (∀ x, x < D.length → (D.getD x []).length = D.length) := Lib.hid hm.2.1
  have hk1 : a.length ≤ 3 := hk.2
  rw [← hl] at hb ⊢
  have HL := Lib.hid hl
  clear hm hl pa pb hk
  go_enter Tryz.func74, Tryz.ntmps74
  go_wp2_with fail
  refine bx1 (R := fun W => Calls _ _ _ W _) (fun W0 k0 b0 => ?_)
  obtain ⟨R0, hR0⟩ : ∃ R, w.heap.size = R := ⟨_, rfl⟩
  rw [hR0] at b0
  try rw [hR0]
  clear hR0
  refine (orders_any a.length W0 hk1).mono ?_
  rintro e w1 ⟨ov, rfl, ⟨F, hO⟩, k1⟩
  have hor := hO.readNo
  obtain ⟨oa, oc', rfl⟩ := hor.shape
  obtain ⟨k, hkk⟩ : ∃ k, a.length = k := ⟨_, rfl⟩
  obtain ⟨O, hOO⟩ : ∃ O, ors k = O := ⟨_, rfl⟩
  rw [hkk] at ha hb HST HIN HOL hO6 HM HOC hk1 hor ⊢
  rw [hOO] at HST HIN HOL hO6 HM hor ⊢
  have HKK := Lib.hid hkk
  have kk := k0.keep k1
  have bb := b0.keep k1
  clear hO k0 k1 b0 hkk hOO
  go_wp2_with fail
  go_loopw [8, 9, 19] (fun s o z wr => ∃ (j : Nat) (m : Int) (sa : Option Addr) (sn sc : Nat), j ≤ O.length ∧ z = .int .i64 (j : Int) ∧ o = .int .i64 m ∧ s = .slice sa sn sc ∧ Hid (m = lowF ((O.take j).map (oc (dD D) a b)) 1073741824) ∧ Chg No w1 wr) (fun _ _ z _ => O.length - (intOf z).toNat)
  case atStart => exact ⟨0, 1073741824, none, 0, 0, Nat.zero_le _, rfl, rfl, rfl, Lib.hid rfl, Chg.refl _ _⟩
  case round =>
    obtain ⟨j, m, sa, sn, sc, hj, rfl, rfl, rfl, HM2, kr⟩ := hrel
    have hj0 : (0 : Int) ≤ (j : Int) := Int.natCast_nonneg _
    by_cases hlt : j < O.length
    · have hj1 : (j : Int) < (O.length : Int) := by omega
      have hwj : IntKind.i64.wrap ((j : Int) + 1) = (j : Int) + 1 := IntWalk.i64_in _ (by omega)
      obtain ⟨rb, ro, xa, xc, rfl, hrb, hcr, hrow⟩ := (hor.keep kr).row hlt
      have hmem : O.getD j [] ∈ O := by rw [List.getD_eq_getElem?_getD, List.getElem?_eq_getElem hlt]; exact List.getElem_mem _
      have HSN := Lib.hid (take_snocD O [] hlt)
      obtain ⟨o, ho⟩ : ∃ o, O.getD j [] = o := ⟨_, rfl⟩
      rw [ho] at hcr hrow hmem HSN
      have hol := HOL.out o hmem
      rw [hol] at hcr hrow
      have HS := Lib.hid (fun i hi => HST.out o hmem i hi)
      have HI := Lib.hid (fun i hi => HIN.out o hmem i hi)
      clear ho hmem hol
      obtain ⟨wo, hwo⟩ : ∃ wo : World, wo = wr := ⟨_, rfl⟩
      go_wp2_with fail
      rw [← hwo] at kr hrow ⊢
      clear hwo hcr
      go_loopw [12, 25] (fun c z wq => ∃ i : Nat, i ≤ k ∧ z = .int .i64 (i : Int) ∧ c = .int .i64 (ocT (dD D) a b o i) ∧ Chg No wo wq) (fun _ z _ => k - (intOf z).toNat)
      case atStart => exact ⟨0, Nat.zero_le _, rfl, rfl, Chg.refl _ _⟩
      case round =>
        obtain ⟨i, hi, rfl, rfl, kq⟩ := hrel
        have hi0 : (0 : Int) ≤ (i : Int) := Int.natCast_nonneg _
        have hci := HI.out i hi
        by_cases hlti : i < k
        · have hi1 : (i : Int) < (k : Int) := by omega
          have hwi : IntKind.i64.wrap ((i : Int) + 1) = (i : Int) + 1 := IntWalk.i64_in _ (by omega)
          obtain ⟨x, y, z, hx, hxl, hy, hyl, hz, hzl, hstep, hc0, hc1⟩ := HS.out i hlti
          have HN := Lib.hid hstep
          have kw := kk.keep (kr.keep kq)
          have kw1 := kr.keep kq
          obtain ⟨ob, of, rfl, hob, hco⟩ := RI.cellN (hrow.keep kq) (j := i) (by have := (hrow.n).1; omega)
          obtain ⟨ab, af, rfl, hab, hca⟩ := RI.cellN (ha.keep kw) (j := i) (by have := HKK.out; omega)
          obtain ⟨bb', bf, rfl, hbb, hcb⟩ := RI.cellN (hb.keep kw) (j := y) (by have := HL.out; have := HKK.out; omega)
          obtain ⟨db, df, ea, ec, rfl, hdb, hcd, hdr⟩ := (h.keep kw).row hxl
          have hdl := HDR.out x hxl
          obtain ⟨eb, ef, rfl, heb, hce⟩ := RI.cellN hdr (j := z) (by omega)
          rw [hdl] at hcd
          have hcc : (D.getD x []).getD z 0 = cellA D x z := rfl
          rw [hcc] at hce
          rw [hy] at hco
          rw [hx] at hca
          rw [hz] at hcb
          obtain ⟨c, hcg⟩ : ∃ c, cellA D x z = c := ⟨_, rfl⟩
          rw [hcg] at hce hc0 hc1 HN
          obtain ⟨t, ht⟩ : ∃ t, ocT (dD D) a b o i = t := ⟨_, rfl⟩
          rw [ht] at hci HN ⊢
          have hwc : IntKind.i64.wrap (t + c) = t + c := IntWalk.i64_in _ (by omega)
          have hx0 : (0 : Int) ≤ (x : Int) := Int.natCast_nonneg _
          have hx1 : (x : Int) < (D.length : Int) := by omega
          have hy0 : (0 : Int) ≤ (y : Int) := Int.natCast_nonneg _
          have hy1 : (y : Int) < (k : Int) := by omega
          have hz0 : (0 : Int) ≤ (z : Int) := Int.natCast_nonneg _
          have hz1 : (z : Int) < (D.length : Int) := by omega
          have g0 := (bb.keep kw1).c 0 _ rfl
          clear hx hy hz hcc hcg ht hstep hdr hdl
          go_wp2_with fail
          go_quiet (fail)
          have hd := (Chg.refl No wr).drewN nq
          replace kq := kq.keep hd
          clear hco hca hcb hcd hce g0 kw kw1
          generalize wr.drewN nq = W at hd kq ⊢
          go_wp2_with fail
          go_round
          case rel => exact ⟨i + 1, hlti, by go_num, by rw [HN.out], kq⟩
          case measure => simp [intOf]; omega
        · have hie : i = k := by omega
          subst hie
          have kr2 := kr.keep kq
          obtain ⟨t, ht⟩ : ∃ t, ocT (dD D) a b o i = t := ⟨_, rfl⟩
          rw [ht]
          have HLW : Hid (lowF ((O.take (j + 1)).map (oc (dD D) a b)) 1073741824 = if t < m then t else m) := Lib.hid (by
            rw [HSN.out, List.map_append, List.map_cons, List.map_nil, lowF_snoc, ← HM2.out, HOC.out, ht])
          clear ht
          by_cases htm : t < m
          · have HW2 : Hid (t = lowF ((O.take (j + 1)).map (oc (dD D) a b)) 1073741824) := Lib.hid (by rw [HLW.out, if_pos htm])
            go_wp2_with fail
            go_round
            case rel => exact ⟨j + 1, t, _, _, _, hlt, by go_num, rfl, rfl, HW2, kr2⟩
            case measure => simp [intOf]; omega
          · have HW2 : Hid (m = lowF ((O.take (j + 1)).map (oc (dD D) a b)) 1073741824) := Lib.hid (by rw [HLW.out, if_neg htm])
            go_wp2_with fail
            go_round
            case rel => exact ⟨j + 1, m, _, _, _, hlt, by go_num, rfl, rfl, HW2, kr2⟩
            case measure => simp [intOf]; omega
    · have hje : j = O.length := by omega
      have hj1 : ¬ (j : Int) < (O.length : Int) := by omega
      have HE : Hid (m = mvF (dD D) a b) := Lib.hid (by rw [HM.out, HM2.out, hje, List.take_length])
      go_wp2_with fail
      go_ret2
      exact ⟨_, _, rfl, ⟨_, _, _, rfl⟩, by rw [HE.out]; rfl, kk.keep kr⟩
set_option maxHeartbeats 400000 in
theorem moveCost_any (A B C : Nat → Prop) (dv av bv : Value) (D : List (List Int)) (a b : List Int) (w : World) (h : RII A w dv D) (ha : RI B w av a) (hb : RI C w bv b) (hm : MetP D) (hl : a.length = b.length) (hk : 1 ≤ a.length ∧ a.length ≤ 3) (pa : Pts D.length a) (pb : Pts D.length b) :
    Calls Tryz.prog 50 #[.agg #[dv], av, bv] w (Ret fun v w' => v = .int .i64 (mvF (dD D) a b) ∧ Chg No w w') := by
  obtain ⟨da, dc, rfl⟩ := h.shape
  obtain ⟨aa, ac, rfl, _⟩ := id ha
  obtain ⟨ba, bc, rfl, _⟩ := id hb
  have HC := Lib.hid (fun W (k : Chg No w W) => matched_any A B C _ _ _ D a b W (h.keep k) (ha.keep k) (hb.keep k) hm hl hk pa pb)
  obtain ⟨x, hx⟩ : ∃ x, mvF (dD D) a b = x := ⟨_, rfl⟩
  rw [hx] at HC ⊢
  clear h ha hb hm hl hk pa pb hx
  go_enter Tryz.func50, Tryz.ntmps50
  go_wp2_with fail
  refine bx1 (R := fun W => Calls _ _ _ W _) (fun W0 k0 b0 => ?_)
  refine (HC.out W0 k0).mono ?_
  rintro e w1 ⟨_, _, rfl, ⟨sa, sn, sc, rfl⟩, rfl, k1⟩
  go_wp2_with fail
  go_ret
  exact ⟨_, rfl, rfl, k0.keep k1⟩
end Go.Proofs.YtdgcohoneijleaaGreat
