import Derived.Test.YtndhijckbponkaaGreatRn
import Derived.Test.YtndhijckbponkaaGreatPkX8
import Derived.Test.YtndhijckbponkaaGreatPkX3
/- what an algorithm pays: the reference's walk -/
namespace Go.Proofs.YtndhijckbponkaaGreat
open Go.RowKit

/-- the states behind the requests -/
def stL (nx : List (List Int)) (S : Nat) (q l : List Int) (j : Nat) : Prop := l.length = j ∧ ∀ k, k < j → l.getD k 0 = (stTo (algT nx) S q (k + 1) : Int)
theorem stL.snoc {nx : List (List Int)} {S : Nat} {q l : List Int} {j : Nat} (h : stL nx S q l j) {y : Nat} (hy : stTo (algT nx) S q (j + 1) = y) : stL nx S q (l ++ [(y : Int)]) (j + 1) := by
  refine ⟨by rw [List.length_append, h.1]; rfl, fun k hk => ?_⟩
  by_cases e : k < j
  · rw [List.getD_eq_getElem?_getD, List.getElem?_append_left (by rw [h.1]; exact e), ← List.getD_eq_getElem?_getD]
    exact h.2 k e
  · have ek : k = j := by omega
    subst ek
    rw [List.getD_eq_getElem?_getD, List.getElem?_append_right (by rw [h.1]; exact Nat.le_refl _), h.1, Nat.sub_self, hy]
    rfl
set_option maxRecDepth 100000 in
set_option maxHeartbeats 2000000 in
theorem l8States_any (B C : Nat → Prop) (nv rv : Value) (p : Pr) (nx : List (List Int)) (S : Nat) (q : List Int) (w : World) (hn : AlgP p nx) (hnx : RII B w nv nx) (hq : RI C w rv q) (hS : S < p.mv.length) (hqr : ∀ r ∈ q, 0 ≤ r ∧ r < (p.sv.length : Int)) (hql : q.length ≤ 60) :
    Calls Tryz.prog 106 #[nv, .int .i64 (S : Int), rv] w (Ret fun v w' => ∃ l, OI w.heap.size w' v l ∧ stL nx S q l q.length ∧ Chg No w w') := by
  obtain ⟨na, nc, rfl⟩ := hnx.shape
  obtain ⟨qa, qc, rfl, _⟩ := id hq
  have HP := Lib.hid (And.intro hn hqr)
  have k1 := (Chg.refl No w).alloc (.cells #[] 3)
  have oz := OI.zero (base := w.heap.size) (w := w) (Nat.le_refl _)
  obtain ⟨R0, hR0⟩ : ∃ R, w.heap.size = R := ⟨_, rfl⟩
  rw [hR0] at oz
  have HRS := Lib.hid hR0
  clear hn hqr
  go_enter Tryz.func106, Tryz.ntmps106
  go_wp2_with fail
  try rw [hR0]
  generalize w.alloc _ = W1 at oz k1 ⊢
  clear hR0
  go_loopw [7, 8, 9] (fun o a z wr => ∃ (k : Nat) (l : List Int) (x : Nat), k ≤ q.length ∧ OI R0 wr o l ∧ a = .int .i64 (x : Int) ∧ z = .int .i64 (k : Int) ∧ Hid (stL nx S q l k) ∧ Hid (stTo (algT nx) S q k = x) ∧ x < p.mv.length ∧ R0 ≤ wr.heap.size ∧ Chg No w wr) (fun _ _ z _ => q.length - (intOf z).toNat)
  case atStart => exact ⟨0, [], S, Nat.zero_le _, oz, rfl, rfl, Lib.hid ⟨rfl, fun k hk => absurd hk (Nat.not_lt_zero k)⟩, Lib.hid rfl, hS, by have := k1.size; have := HRS.out; omega, k1⟩
  case round =>
    clear oz k1
    obtain ⟨k, l, x, hk, ho, rfl, rfl, HL, HST, hx, hzr, kr⟩ := hrel
    have hk0 : (0 : Int) ≤ (k : Int) := Int.natCast_nonneg _
    obtain ⟨oa, oc, rfl, _⟩ := ho.view
    rw [HL.out.1] at ho ⊢
    by_cases hlt : k < q.length
    · have hk1 : (k : Int) < (q.length : Int) := by omega
      have hwk : IntKind.i64.wrap ((k : Int) + 1) = (k : Int) + 1 := IntWalk.i64_in _ (by omega)
      obtain ⟨qb, qf, rfl, hqb, hcq⟩ := (hq.keep kr).cellN hlt
      have hqm : q.getD k 0 ∈ q := by rw [List.getD_eq_getElem?_getD, List.getElem?_eq_getElem hlt]; exact List.getElem_mem _
      obtain ⟨hr0, hr1⟩ := HP.out.2 _ hqm
      obtain ⟨r, hr⟩ : ∃ r : Nat, q.getD k 0 = (r : Int) := ⟨(q.getD k 0).toNat, by omega⟩
      rw [hr] at hr0 hr1 hcq
      have hrl : r < p.sv.length := by omega
      have hxn : x < nx.length := by have := HP.out.1.1; omega
      obtain ⟨nb, nf, ta, tc, rfl, hnb, hcn, htr⟩ := (hnx.keep kr).row hxn
      obtain ⟨hal1, hal2⟩ := HP.out.1.2 x hxn
      obtain ⟨row, hrow⟩ : ∃ row, nx.getD x [] = row := ⟨_, rfl⟩
      rw [hrow] at hcn htr hal1 hal2
      have hrr : r < row.length := by omega
      obtain ⟨⟨hy0, hy1⟩, hy2⟩ := hal2 r hrr
      obtain ⟨tb, tf, rfl, htb, hct⟩ := htr.cellN hrr
      obtain ⟨y, hy⟩ : ∃ y : Nat, row.getD r 0 = (y : Int) := ⟨(row.getD r 0).toNat, by omega⟩
      rw [hy] at hy0 hy1 hct
      have hyl : y < p.mv.length := by omega
      have hST' : stTo (algT nx) S q (k + 1) = y := by rw [stTo_alg nx S hlt, HST.out, hrow, hr, Int.toNat_natCast, hy, Int.toNat_natCast]
      have HL' := Lib.hid (HL.out.snoc hST')
      have HST' := Lib.hid hST'
      have hx0 : (0 : Int) ≤ (x : Int) := Int.natCast_nonneg _
      have hx1 : (x : Int) < (nx.length : Int) := by omega
      have hr2 : (r : Int) < (row.length : Int) := by omega
      clear hqm hr hal1 hal2 hrow hy hy2 htr hST'
      go_wp2_with fail
      go_quiet (fail)
      replace kr := kr.keep ((Chg.refl No wr).drewN nq)
      replace ho := ho.keep ((Chg.refl No wr).drewN nq)
      replace hzr := Nat.le_trans hzr ((Chg.refl No wr).drewN nq).size
      generalize World.drewN _ _ = W2 at kr ho hzr ⊢
      have hl9 : l.length < 17592186044416 := by have := HL.out.1; omega
      clear hcq hcn hct
      go_wp2_with (at_builtin; refine wapp1 rfl (.tmp 28) (.tmp 30) rfl ho rfl rfl hl9 hzr ?_)
      intro v3 w3 h3 k3 f3
      have kr3 := kr.step k3 (fun q hq hlt => by have := (ho.lt q hq).1; have := HRS.out; omega)
      have hz3 := Nat.le_trans hzr k3.size
      clear ho kr k3 f3 hzr
      go_wp2_with fail
      go_round
      case rel => exact ⟨k + 1, l ++ [(y : Int)], y, hlt, h3, rfl, by go_num, HL', HST', hyl, hz3, kr3⟩
      case measure => simp [intOf]; omega
    · have hke : k = q.length := by omega
      subst hke
      have HF := Lib.hid (And.intro ho (And.intro HL.out kr))
      clear ho kr
      go_wp2_with fail
      go_ret
      exact ⟨_, rfl, l, by rw [HRS.out]; exact HF.out.1, HF.out.2.1, HF.out.2.2⟩
set_option maxRecDepth 100000 in
set_option maxHeartbeats 2000000 in
theorem l8Sum_any (A C D : Nat → Prop) (v rv lv : Value) (p : Pr) (nx : List (List Int)) (S : Nat) (q l : List Int) (w : World) (hp : PrP p) (hn : AlgP p nx) (h : RPr A w v p) (hq : RI C w rv q) (hl : RI D w lv l) (hst : stL nx S q l q.length) (hS : S < p.mv.length) (hqr : ∀ r ∈ q, 0 ≤ r ∧ r < (p.sv.length : Int)) (hql : q.length ≤ 60) :
    Calls Tryz.prog 105 #[v, .int .i64 (S : Int), rv, lv] w (Ret fun r w' => r = .int .i64 (rest p (algT nx) S [] q) ∧ Chg No w w') := by
  obtain ⟨mv, sv, rfl, hm, hs⟩ := h
  obtain ⟨ma, mc, rfl⟩ := hm.shape
  obtain ⟨sa, sc, rfl⟩ := hs.shape
  obtain ⟨qa, qc, rfl, _⟩ := id hq
  obtain ⟨la, lc, rfl, _⟩ := id hl
  have HP := Lib.hid (And.intro hp (And.intro hn hqr))
  have HL := Lib.hid hst
  rw [hst.1] at hl ⊢
  have hpl : p.mv.length ≤ 4 ∧ p.sv.length ≤ 4 := ⟨hp.1.2, hp.2.2.1.2⟩
  clear hp hn hqr hst
  go_enter Tryz.func105, Tryz.ntmps105
  go_wp2_with fail
  refine bx1 (R := fun W => Code.wp _ _ _ _ W) (fun W0 k0 b0 => ?_)
  have hm0 := hm.keep k0
  have hs0 := hs.keep k0
  have hq0 := hq.keep k0
  have hl0 := hl.keep k0
  obtain ⟨R0, hR0⟩ : ∃ R, w.heap.size = R := ⟨_, rfl⟩
  rw [hR0] at b0 ⊢
  clear hm hs hq hl hR0
  go_loopw [9, 10, 11] (fun c a z wr => ∃ (k x : Nat) (cc : Int), k ≤ q.length ∧ c = .int .i64 cc ∧ a = .int .i64 (x : Int) ∧ z = .int .i64 (k : Int) ∧ Hid (stTo (algT nx) S q k = x) ∧ Hid (coTo p (algT nx) S q k = cc) ∧ x < p.mv.length ∧ 0 ≤ cc ∧ cc ≤ 119 * (k : Int) ∧ Chg No W0 wr) (fun _ _ z _ => q.length - (intOf z).toNat)
  case atStart => exact ⟨0, S, 0, Nat.zero_le _, rfl, rfl, rfl, Lib.hid rfl, Lib.hid rfl, hS, Int.le_refl _, Int.le_refl _, Chg.refl _ _⟩
  case round =>
    obtain ⟨k, x, cc, hk, rfl, rfl, rfl, HST, HCO, hx, hc0, hc1, kr⟩ := hrel
    have hk0 : (0 : Int) ≤ (k : Int) := Int.natCast_nonneg _
    by_cases hlt : k < q.length
    · have hk1 : (k : Int) < (q.length : Int) := by omega
      have hwk : IntKind.i64.wrap ((k : Int) + 1) = (k : Int) + 1 := IntWalk.i64_in _ (by omega)
      obtain ⟨qb, qf, rfl, hqb, hcq⟩ := (hq0.keep kr).cellN hlt
      have hqm : q.getD k 0 ∈ q := by rw [List.getD_eq_getElem?_getD, List.getElem?_eq_getElem hlt]; exact List.getElem_mem _
      obtain ⟨hr0, hr1⟩ := HP.out.2.2 _ hqm
      obtain ⟨r, hr⟩ : ∃ r : Nat, q.getD k 0 = (r : Int) := ⟨(q.getD k 0).toNat, by omega⟩
      rw [hr] at hr0 hr1 hcq
      have hrl : r < p.sv.length := by omega
      obtain ⟨y, hy⟩ : ∃ y, stTo (algT nx) S q (k + 1) = y := ⟨_, rfl⟩
      have hyl : y < p.mv.length := by rw [← hy]; exact stTo_lt HP.out.2.1.tau hS HP.out.2.2 (k + 1) hlt
      obtain ⟨lb, lf, rfl, hlb, hcl⟩ := (hl0.keep kr).cellN (j := k) (by rw [HL.out.1]; exact hlt)
      rw [HL.out.2 k hlt, hy] at hcl
      have hsv : 0 ≤ svA p r y := by
        have h4 := HP.out.2.1.tau (stTo (algT nx) S q k) (q.take k) r (stTo_lt HP.out.2.1.tau hS HP.out.2.2 k hk) hrl
        have h5 : (q.take k) ++ [(r : Int)] = q.take (k + 1) := by
          rw [← hr, List.take_add_one, List.getElem?_eq_getElem hlt, List.getD_eq_getElem?_getD, List.getElem?_eq_getElem hlt]
          rfl
        rw [h5] at h4
        have h6 := h4.2
        unfold okA at h6
        have h7 := of_decide_eq_true h6
        rw [← hy]
        exact h7
      obtain ⟨mb, mf, ua, uc, rfl, hmb, hcm, hur⟩ := (hm0.keep kr).row hx
      obtain ⟨sb, sf, xa, xc, rfl, hsb, hcs, hxr⟩ := (hs0.keep kr).row hrl
      have hml : (p.mv.getD x []).length = p.mv.length := HP.out.1.2.1.2.1 x hx
      have hsl : (p.sv.getD r []).length = p.mv.length := HP.out.1.svq hrl
      obtain ⟨ub, uf, rfl, hub, hcu⟩ := hur.cellN (j := y) (by rw [hml]; exact hyl)
      obtain ⟨xb, xf, rfl, hxb, hcx⟩ := hxr.cellN (j := y) (by rw [hsl]; exact hyl)
      rw [hml] at hcm
      rw [hsl] at hcs
      have hmi := HP.out.1.mv_in hx hyl
      have hco := HP.out.1.cost x y r hx hyl hrl
      obtain ⟨u, hu⟩ : ∃ u, mvA p x y = u := ⟨_, rfl⟩
      obtain ⟨t, ht⟩ : ∃ t, svA p r y = t := ⟨_, rfl⟩
      rw [show (p.mv.getD x []).getD y 0 = u from hu] at hcu
      rw [show (p.sv.getD r []).getD y 0 = t from ht] at hcx
      rw [hu] at hmi hco
      rw [ht] at hsv hco
      have HCO' : Hid (coTo p (algT nx) S q (k + 1) = cc + u + t) := Lib.hid (by
        show coTo p (algT nx) S q k + (mvA p (stTo (algT nx) S q k) (stTo (algT nx) S q (k + 1)) + svA p (q.getD k 0).toNat (stTo (algT nx) S q (k + 1))) = _
        rw [HCO.out, hy, HST.out, hr, Int.toNat_natCast, hu, ht]; omega)
      have HST' := Lib.hid hy
      have hw1 : IntKind.i64.wrap (cc + u) = cc + u := IntWalk.i64_in _ (by omega)
      have hw2 : IntKind.i64.wrap (cc + u + t) = cc + u + t := IntWalk.i64_in _ (by omega)
      have g0 := (b0.keep kr).c 0 _ rfl
      have g1 := (b0.keep kr).c 1 _ rfl
      have hx0 : (0 : Int) ≤ (x : Int) := Int.natCast_nonneg _
      have hy0 : (0 : Int) ≤ (y : Int) := Int.natCast_nonneg _
      have hx1 : (x : Int) < (p.mv.length : Int) := by omega
      have hy1 : (y : Int) < (p.mv.length : Int) := by omega
      have hr2 : (r : Int) < (p.sv.length : Int) := by omega
      clear hqm hr hy hur hxr hml hsl hu ht
      go_wp2_with fail
      go_quiet (fail)
      replace kr := kr.keep ((Chg.refl No wr).drewN nq)
      have hcl2 := (((Chg.refl No wr).drewN nq).cellD lb (lf + k) hlb (fun e => e)).trans hcl
      generalize World.drewN _ _ = W2 at kr hcl2 ⊢
      clear hcq hcl hcm hcs hcu hcx g0 g1
      go_wp2_with fail
      go_round
      case rel => exact ⟨k + 1, y, cc + u + t, hlt, rfl, rfl, by go_num, HST', HCO', hyl, by omega, by push_cast; omega, kr⟩
      case measure => simp [intOf]; omega
    · have hke : k = q.length := by omega
      subst hke
      have HE : Hid (rest p (algT nx) S [] q = cc) := Lib.hid ((co_all p (algT nx) S q).symm.trans HCO.out)
      go_wp2_with fail
      go_ret
      exact ⟨_, rfl, by rw [HE.out]; rfl, k0.keep kr⟩
end Go.Proofs.YtndhijckbponkaaGreat
