import Derived.Test.YtndhijckbponkaaGreatRx
import Derived.Test.YtndhijckbponkaaGreatPkX12
import Derived.Test.YtndhijckbponkaaGreatPkX16
import Derived.Test.YtndhijckbponkaaGreatXd
import Derived.Test.YtndhijckbponkaaGreatPkX3
/- FnChances, plain -/
namespace Go.Proofs.YtndhijckbponkaaGreat

def zS (g : List Int → Int) : Chs → Int
  | [] => 0
  | (q, w) :: cs => w * g q + zS g cs
theorem meV_zS (g : List Int → Int) : ∀ (qs : List (List Int)) (ws : List Int), ws.length = qs.length → meV g qs ws qs.length = zS g (qs.zip ws)
  | [], ws, _ => by simp [meV, sumTo, zS]
  | q :: qs, [], h => by simp at h
  | q :: qs, x :: ws, h => by
    have ih := meV_zS g qs ws (by simpa using h)
    rw [List.zip_cons_cons, zS, ← ih]
    show sumTo (meT g (q :: qs) (x :: ws)) (qs.length + 1) = _
    rw [sumTo_shiftR]
    rfl
theorem optS_zS (p : Pr) (s : Nat) : ∀ cs : Chs, optS p s cs = zS (optW p s) cs
  | [] => rfl
  | (q, w) :: cs => by rw [optS, zS, optS_zS p s cs]
theorem sumS_zS (p : Pr) (τ : Nat → List Int → Nat) (s : Nat) : ∀ cs : Chs, sumS p τ s cs = zS (rest p τ s []) cs
  | [] => rfl
  | (q, w) :: cs => by rw [sumS, zS, sumS_zS p τ s cs]
/-- a Frac of a sum over Chances -/
structure FrIn (fr : Fr) : Prop where
  ok : fr.ok = true
  n0 : 0 ≤ fr.num
  n1 : fr.num ≤ 1000000
  d0 : 1 ≤ fr.den
  d1 : fr.den ≤ 100000
theorem mkFr_in {a b : Int} (ha : 0 ≤ a ∧ a ≤ 1000000) (hb : 1 ≤ b ∧ b ≤ 108) : FrIn (mkFr a b) ∧ (mkFr a b).num * b = a * (mkFr a b).den := by
  obtain ⟨h1, h2, h3, h4, h5, h6⟩ := mkFr_fine (a := a) (b := b) (by omega) (by omega)
  exact ⟨⟨h1, h3, by omega, h5, by omega⟩, h2⟩
theorem fr_le {a c b : Int} (ha : 0 ≤ a ∧ a ≤ 1000000) (hc : 0 ≤ c ∧ c ≤ 1000000) (hb : 1 ≤ b ∧ b ≤ 108) (h : a ≤ c) : (mkFr a b).num * (mkFr c b).den ≤ (mkFr c b).num * (mkFr a b).den := by
  obtain ⟨⟨_, _, _, a4, _⟩, a6⟩ := mkFr_in ha hb
  obtain ⟨⟨_, _, _, c4, _⟩, c6⟩ := mkFr_in hc hb
  exact cross_le (A1 := a) (W1 := b) (A2 := c) (W2 := b) (Int.mul_le_mul_of_nonneg_right h (by omega)) a6 c6 (by omega) (by omega) (by omega) (by omega)
theorem chances_law {p : Pr} {qs : List (List Int)} {ws : List Int} {S : Nat} (f : BrF p qs ws S) :
    FrIn (eleV p (S : Int) qs ws) ∧ FrIn (bexV p (S : Int) qs ws) ∧ (eleV p (S : Int) qs ws).num * (bexV p (S : Int) qs ws).den ≤ (bexV p (S : Int) qs ws).num * (eleV p (S : Int) qs ws).den ∧
      ∀ nx, AlgP p nx → FrIn (ecoV p nx (S : Int) qs ws) ∧ (bexV p (S : Int) qs ws).num * (ecoV p nx (S : Int) qs ws).den ≤ (ecoV p nx (S : Int) qs ws).num * (bexV p (S : Int) qs ws).den := by
  have g := f.gd
  have hl := g.len
  have hsu := ch_sum f.ch
  have hql : qs.length ≤ 12 := f.ch.1.2
  have ha := g.ah (n := (qs.getD 0 []).length) g.l6 f.s1 []
  have e1 : eleV p (S : Int) qs ws = mkFr (meV (optW p S) qs ws qs.length) (sumW ws) := by unfold eleV; rw [f.dr, Int.toNat_natCast]; rfl
  have e2 : bexV p (S : Int) qs ws = mkFr (ahead p (qs.zip ws) (qs.getD 0 []).length S []) (sumW ws) := by unfold bexV; rw [f.dr, Int.toNat_natCast]; rfl
  have h1 := meV_in f.ch (f := optW p S) (fun i hi => optW_in f.pr f.s1 (ch_seq f.ch hi).2 (ch_seq f.ch hi).1) qs.length (Nat.le_refl _)
  have hlow := chances_low f.pr.prB f.pr.diag f.s1 g.cb
  rw [optS_zS, ← meV_zS _ qs ws hl] at hlow
  rw [e1, e2]
  refine ⟨(mkFr_in (by omega) hsu).1, (mkFr_in (by omega) hsu).1, fr_le (by omega) (by omega) hsu hlow, fun nx hn => ?_⟩
  have e3 : ecoV p nx (S : Int) qs ws = mkFr (meV (rest p (algT nx) S []) qs ws qs.length) (sumW ws) := by unfold ecoV; rw [f.dr, bP_yes hn, Int.toNat_natCast]; rfl
  have h2 := meV_in f.ch (f := rest p (algT nx) S []) (fun i hi => by
    have h1 := rest_in f.pr hn f.s1 (ch_seq f.ch hi).2
    have h2 := (ch_seq f.ch hi).1
    omega) qs.length (Nat.le_refl _)
  have hhigh := chances_high f.pr.prB g.cb hn.tau f.s1
  rw [sumS_zS, ← meV_zS _ qs ws hl] at hhigh
  rw [e3]
  exact ⟨(mkFr_in (by omega) hsu).1, fr_le (by omega) (by omega) hsu hhigh⟩
end Go.Proofs.YtndhijckbponkaaGreat

/- the least cost: the program's walk -/
namespace Go.Proofs.YtndhijckbponkaaGreat
open Go.RowKit

set_option maxRecDepth 100000 in
set_option maxHeartbeats 2000000 in
theorem work_any (A B : Nat → Prop) (v rv : Value) (p : Pr) (S : Nat) (q : List Int) (w : World) (hp : PrP p) (h : RPr A w v p) (hq : RI B w rv q) (hS : S < p.mv.length) (hqr : ∀ r ∈ q, 0 ≤ r ∧ r < (p.sv.length : Int)) (hql : q.length ≤ 60) :
    Calls Tryz.prog 111 #[v, .int .i64 (S : Int), rv] w (Ret fun r w' => ∃ l, RI No w' r l ∧ WkP p (workF p S q q.length) l ∧ Chg No w w') := by
  have hv := h
  obtain ⟨mv, sv, rfl, hm, hs⟩ := h
  obtain ⟨ma, mc, rfl⟩ := hm.shape
  obtain ⟨sa, sc, rfl⟩ := hs.shape
  obtain ⟨qa, qc, rfl, _⟩ := id hq
  have HP := Lib.hid (And.intro hp hqr)
  have hpl : 1 ≤ p.mv.length ∧ p.mv.length ≤ 4 := hp.1
  obtain ⟨mb, mf, ta, tc, rfl, hmb, hcm, htr⟩ := hm.row hS
  have hml : (p.mv.getD S []).length = p.mv.length := hp.2.1.2.1 S hS
  have hS0 : (0 : Int) ≤ (S : Int) := Int.natCast_nonneg _
  have hS1 : (S : Int) < (p.mv.length : Int) := by omega
  have hW0 : WkP p (workF p S q 0) (p.mv.getD S []) := ⟨hml, fun t _ => rfl⟩
  obtain ⟨row, hrow⟩ : ∃ row, p.mv.getD S [] = row := ⟨_, rfl⟩
  rw [hrow] at hcm htr hW0 hml
  rw [hml] at hcm htr
  clear hp hqr hrow hm hs
  have b0 := BoxN.new w #[.slice (some ⟨mb, mf, none⟩) p.mv.length mc, .slice sa p.sv.length sc] 26
  have k0 := (Chg.refl No w).alloc (.cells #[.slice (some ⟨mb, mf, none⟩) p.mv.length mc, .slice sa p.sv.length sc] 26)
  obtain ⟨R0, hR0⟩ : ∃ R, w.heap.size = R := ⟨_, rfl⟩
  rw [hR0] at b0
  have g0 := b0.c 0 _ rfl
  have g1 := (k0.cellD mb (mf + S) hmb (fun e => e)).trans hcm
  have HRS := Lib.hid hR0
  clear hml
  go_enter Tryz.func111, Tryz.ntmps111
  go_wp2_with fail
  clear g0 g1 hR0
  generalize w.alloc _ = W1 at b0 k0 ⊢
  refine (Clone_any A _ row W1 (htr.keep k0)).mono ?_
  rintro e w1 ⟨v1, rfl, h1, k1⟩
  have kk1 := k0.keep k1
  have bb1 := b0.keep k1
  have h2 := h1.readNo
  obtain ⟨v1a, v1c, rfl, _⟩ := id h2
  clear h1 k0 b0 k1 htr hcm
  go_wp2_with fail
  go_loopw [7, 9, 18] (fun o _ z wr => ∃ (i : Nat) (l : List Int), i ≤ q.length ∧ z = .int .i64 (i : Int) ∧ RI No wr o l ∧ Hid (WkP p (workF p S q i) l) ∧ Chg No w wr ∧ BoxN wr R0 [.slice (some ⟨mb, mf, none⟩) p.mv.length mc, .slice sa p.sv.length sc]) (fun _ _ z _ => q.length - (intOf z).toNat)
  case atStart => exact ⟨0, row, Nat.zero_le _, rfl, h2, Lib.hid hW0, kk1, bb1⟩
  case round =>
    clear h2 hW0 kk1 bb1
    obtain ⟨i, l, hi, rfl, ho, HL, kr, bb⟩ := hrel
    have hi0 : (0 : Int) ≤ (i : Int) := Int.natCast_nonneg _
    obtain ⟨oa, oc, rfl, _⟩ := id ho
    rw [HL.out.1] at ho ⊢
    by_cases hlt : i < q.length
    · have hi1 : (i : Int) < (q.length : Int) := by omega
      have hwi : IntKind.i64.wrap ((i : Int) + 1) = (i : Int) + 1 := IntWalk.i64_in _ (by omega)
      obtain ⟨qb, qf, rfl, hqb, hcq⟩ := hq.cellN hlt
      have hqm : q.getD i 0 ∈ q := by rw [List.getD_eq_getElem?_getD, List.getElem?_eq_getElem hlt]; exact List.getElem_mem _
      obtain ⟨hr0, hr1⟩ := HP.out.2 _ hqm
      obtain ⟨r, hr⟩ : ∃ r : Nat, q.getD i 0 = (r : Int) := ⟨(q.getD i 0).toNat, by omega⟩
      rw [hr] at hr0 hr1 hcq
      have hrl : r < p.sv.length := by omega
      have HN := Lib.hid (show workF p S q (i + 1) = nextW p (workF p S q i) r by rw [workF_succ hlt, hr, Int.toNat_natCast])
      have HIN := Lib.hid (workF_in HP.out.1 hS HP.out.2 i (by omega))
      have g0 := bb.c 0 _ rfl
      have g1 := bb.c 1 _ rfl
      have g2 := (kr.cellD qb (qf + i) hqb (fun e => e)).trans hcq
      clear hqm hr hcq hr0 hr1
      go_wp2_with fail
      refine (nextWork_any A No _ _ p (workF p S q i) (99 + 119 * (i : Int)) l r wr HP.out.1 (hv.keep kr) ho HL.out HIN.out (by omega) (by omega) hrl).mono ?_
      rintro e w3 ⟨v3, rfl, l3, h3, HL3, k3⟩
      have kr3 := kr.keep k3
      have bb3 := bb.keep k3
      obtain ⟨v3a, v3c, rfl, _⟩ := id h3
      clear g0 g1 g2 ho kr bb k3
      go_wp2_with fail
      go_round
      case rel => exact ⟨i + 1, l3, hlt, by go_num, h3, Lib.hid (by rw [HN.out]; exact HL3), kr3, bb3⟩
      case measure => simp [intOf]; omega
    · have hie : i = q.length := by omega
      subst hie
      have HF := Lib.hid (And.intro ho (And.intro HL.out kr))
      clear ho kr
      go_wp2_with fail
      go_ret
      exact ⟨_, rfl, l, HF.out.1, HF.out.2.1, HF.out.2.2⟩
theorem minOf_bl (l : List Int) (h : ∀ i, i < l.length → 0 ≤ l.getD i 0) (h1 : 1 ≤ l.length) : Lib.minOf l = (bl (fun _ => true) (fun i => l.getD i 0) l.length).2 := by
  have key : ∀ k, k + 1 ≤ l.length → Lib.minOf (l.take (k + 1)) = (bl (fun _ => true) (fun i => l.getD i 0) (k + 1)).2 := by
    intro k
    induction k with
    | zero => intro _; rw [Lib.minOf_one, bl_one]
    | succ k ih =>
      intro hk
      rw [Lib.minOf_step l (k + 1) (by omega) (by omega), ih (by omega), bl_min (k := k + 1) (fun i hi => h i (by omega)) (by omega)]
  have h2 := key (l.length - 1) (by omega)
  rwa [show l.length - 1 + 1 = l.length by omega, List.take_length] at h2
set_option maxRecDepth 100000 in
set_option maxHeartbeats 2000000 in
theorem leastCost_any (A B : Nat → Prop) (v rv : Value) (p : Pr) (S : Nat) (q : List Int) (w : World) (hp : PrP p) (h : RPr A w v p) (hq : RI B w rv q) (hS : S < p.mv.length) (hqr : ∀ r ∈ q, 0 ≤ r ∧ r < (p.sv.length : Int)) (hql : q.length ≤ 60) :
    Calls Tryz.prog 47 #[v, .int .i64 (S : Int), rv] w (Ret fun r w' => r = .int .i64 (optW p S q) ∧ Chg No w w') := by
  have hv := h
  obtain ⟨mv, sv, rfl, hm, hs⟩ := h
  obtain ⟨ma, mc, rfl⟩ := hm.shape
  obtain ⟨sa, sc, rfl⟩ := hs.shape
  obtain ⟨qa, qc, rfl, _⟩ := id hq
  have HP := Lib.hid (And.intro hp hqr)
  have k0 := (Chg.refl No w).alloc (.cells #[.slice ma p.mv.length mc, .slice sa p.sv.length sc] 26)
  have hp1 := hp.1.1
  clear hp hqr hm hs
  go_enter Tryz.func47, Tryz.ntmps47
  go_wp2_with fail
  refine (work_any A B _ _ p S q _ HP.out.1 (hv.keep k0) (hq.keep k0) hS HP.out.2 hql).mono ?_
  rintro e w1 ⟨x, rfl, l, hl, HW, k1⟩
  have kk := k0.keep k1
  have HNN : 1 ≤ l.length ∧ ∀ i, i < l.length → 0 ≤ l.getD i 0 := ⟨by rw [HW.1]; omega, fun i hi => by
    rw [HW.1] at hi
    rw [HW.2 i hi]
    exact (workF_in HP.out.1 hS HP.out.2 q.length (Nat.le_refl _) i hi).1⟩
  have HO : Hid (Lib.minOf l = optW p S q) := Lib.hid (by
    rw [minOf_bl l HNN.2 HNN.1, optW_F, HW.1, bl_cong p.mv.length HW.2])
  have HT : Hid (1 ≤ l.length ∧ l.length ≤ 4) := Lib.hid ⟨HNN.1, by rw [HW.1]; exact HP.out.1.1.2⟩
  obtain ⟨la, lc, rfl, _, _, _, _, hcl⟩ := id hl
  obtain ⟨lb, lo, rfl, _, _, hcell⟩ := hcl (by intro e; have := HNN.1; simp [e] at this)
  clear HW hv hq k0 k1 HNN hcl
  go_wp2_with fail
  refine (Tryz.slices_Min_int lb lo l.length lc l w1 HT.out.1 (Nat.le_refl _) (by have := HT.out.2; omega) hcell).mono ?_
  rintro e w2 ⟨rfl, rfl⟩
  rw [List.take_length, HO.out]
  go_wp2_with fail
  go_ret
  exact ⟨_, rfl, rfl, kk⟩
end Go.Proofs.YtndhijckbponkaaGreat
