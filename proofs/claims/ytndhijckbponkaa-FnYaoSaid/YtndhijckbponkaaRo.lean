import Derived.Test.YtndhijckbponkaaRn
import Derived.Test.YtndhijckbponkaaRl
import Derived.Test.YtndhijckbponkaaPkX8
/- what a mixture pays -/
namespace Go.Proofs.Ytndhijckbponkaa
open Go.RowKit

/-- what each algorithm of a mixture pays, times its weight -/
def mixT (p : Pr) (ns : List (List (List Int))) (ws : List Int) (S : Nat) (q : List Int) (i : Nat) : Int := ws.getD i 0 * rest p (algT (ns.getD i [])) S [] q
def mixV (p : Pr) (ns : List (List (List Int))) (ws : List Int) (S : Nat) (q : List Int) : Int := sumTo (mixT p ns ws S q) ns.length
theorem rest_in {p : Pr} (hp : PrP p) {nx : List (List Int)} (hn : AlgP p nx) {S : Nat} (hS : S < p.mv.length) {q : List Int} (hq : ∀ r ∈ q, 0 ≤ r ∧ r < (p.sv.length : Int)) : 0 ≤ rest p (algT nx) S [] q ∧ rest p (algT nx) S [] q ≤ 119 * (q.length : Int) := by
  have h : ∀ k, k ≤ q.length → 0 ≤ coTo p (algT nx) S q k ∧ coTo p (algT nx) S q k ≤ 119 * (k : Int) := by
    intro k
    induction k with
    | zero => intro _; unfold coTo; omega
    | succ k ih =>
      intro hk
      have h1 := ih (by omega)
      have hx := stTo_lt hn.tau hS hq k (by omega)
      have hy := stTo_lt hn.tau hS hq (k + 1) hk
      have hqm : q.getD k 0 ∈ q := by rw [List.getD_eq_getElem?_getD, List.getElem?_eq_getElem (by omega : k < q.length)]; exact List.getElem_mem _
      obtain ⟨hr0, hr1⟩ := hq _ hqm
      have hr : (q.getD k 0).toNat < p.sv.length := by omega
      have h2 := (hp.mv_in hx hy).1
      have h3 := hp.cost _ _ _ hx hy hr
      have h4 := hn.tau (stTo (algT nx) S q k) (q.take k) (q.getD k 0).toNat hx hr
      have h5 : (q.take k) ++ [((q.getD k 0).toNat : Int)] = q.take (k + 1) := by
        rw [Int.toNat_of_nonneg hr0, List.take_add_one, List.getElem?_eq_getElem (by omega : k < q.length), List.getD_eq_getElem?_getD, List.getElem?_eq_getElem (by omega : k < q.length)]
        rfl
      rw [h5] at h4
      have h6 : 0 ≤ svA p (q.getD k 0).toNat (stTo (algT nx) S q (k + 1)) := by
        have := h4.2
        unfold okA at this
        exact of_decide_eq_true this
      show 0 ≤ coTo p (algT nx) S q k + (mvA p (stTo (algT nx) S q k) (stTo (algT nx) S q (k + 1)) + svA p (q.getD k 0).toNat (stTo (algT nx) S q (k + 1))) ∧ coTo p (algT nx) S q k + (mvA p (stTo (algT nx) S q k) (stTo (algT nx) S q (k + 1)) + svA p (q.getD k 0).toNat (stTo (algT nx) S q (k + 1))) ≤ _
      push_cast
      omega
  have := h q.length (Nat.le_refl _)
  rwa [co_all] at this
theorem mix_w {p : Pr} {ns : List (List (List Int))} {ws : List Int} (hm : MixP p ns ws) {i : Nat} (hi : i < ns.length) : 1 ≤ ws.getD i 0 ∧ ws.getD i 0 ≤ 9 := by
  have h1 : ws.getD i 0 ∈ ws := by rw [List.getD_eq_getElem?_getD, List.getElem?_eq_getElem (by have := hm.2.1; omega : i < ws.length)]; exact List.getElem_mem _
  exact wgB_mem hm.2.2.1 _ h1
theorem mixT_in {p : Pr} (hp : PrP p) {ns : List (List (List Int))} {ws : List Int} (hm : MixP p ns ws) {S : Nat} (hS : S < p.mv.length) {q : List Int} (hq : ∀ r ∈ q, 0 ≤ r ∧ r < (p.sv.length : Int)) (hl : q.length ≤ 60) {i : Nat} (hi : i < ns.length) : 0 ≤ mixT p ns ws S q i ∧ mixT p ns ws S q i ≤ 64260 := by
  obtain ⟨h1, h2⟩ := rest_in hp (hm.2.2.2 i hi) hS hq
  obtain ⟨h3, h4⟩ := mix_w hm hi
  unfold mixT
  refine ⟨Int.mul_nonneg (by omega) h1, ?_⟩
  have h5 := Int.mul_le_mul_of_nonneg_right h4 h1
  omega
theorem mix_len {p : Pr} {ns : List (List (List Int))} {ws : List Int} (hm : MixP p ns ws) : 1 ≤ ns.length ∧ ns.length ≤ 4 ∧ ws.length = ns.length := by
  have h1 := inB_iff.1 hm.1
  have h2 := hm.2.1
  omega
theorem mixTo_in {p : Pr} (hp : PrP p) {ns : List (List (List Int))} {ws : List Int} (hm : MixP p ns ws) {S : Nat} (hS : S < p.mv.length) {q : List Int} (hq : ∀ r ∈ q, 0 ≤ r ∧ r < (p.sv.length : Int)) (hl : q.length ≤ 60) : ∀ i, i ≤ ns.length → 0 ≤ sumTo (mixT p ns ws S q) i ∧ sumTo (mixT p ns ws S q) i ≤ 64260 * (i : Int)
  | 0, _ => by simp [sumTo]
  | i + 1, h => by
    have ih := mixTo_in hp hm hS hq hl i (by omega)
    have h1 := mixT_in hp hm hS hq hl (i := i) (by omega)
    have e : sumTo (mixT p ns ws S q) (i + 1) = sumTo (mixT p ns ws S q) i + mixT p ns ws S q i := rfl
    rw [e]
    push_cast
    omega
set_option maxRecDepth 100000 in
set_option maxHeartbeats 2000000 in
theorem mixed_any (A B C : Nat → Prop) (v cv rv : Value) (p : Pr) (ns : List (List (List Int))) (ws : List Int) (S : Nat) (q : List Int) (w : World) (hp : PrP p) (hm : MixP p ns ws) (h : RPr A w v p) (hc : RMx B w cv ns ws) (hq : RI C w rv q) (hS : S < p.mv.length) (hqr : ∀ r ∈ q, 0 ≤ r ∧ r < (p.sv.length : Int)) (hql : q.length ≤ 60) :
    Calls Try.prog 79 #[v, cv, .int .i64 (S : Int), rv] w (Ret fun r w' => r = .int .i64 (mixV p ns ws S q) ∧ Chg No w w') := by
  have hv := h
  obtain ⟨mv, sv, rfl, hmm, hss⟩ := h
  obtain ⟨wv, nv, rfl, hw, hn⟩ := hc
  obtain ⟨ma, mc, rfl⟩ := hmm.shape
  obtain ⟨sa, sc, rfl⟩ := hss.shape
  obtain ⟨na, nc, rfl⟩ := hn.shape
  obtain ⟨wa, wc, rfl, _⟩ := id hw
  obtain ⟨qa, qc, rfl, _⟩ := id hq
  obtain ⟨hl1, hl4, hlw⟩ := mix_len hm
  have HLW := Lib.hid hlw
  rw [hlw] at hw ⊢
  have HIN := Lib.hid (mixTo_in hp hm hS hqr hql)
  have HP := Lib.hid (And.intro hp (And.intro hm (And.intro hqr (And.intro hS hql))))
  clear hmm hss hlw hp hm hqr
  go_enter Try.func79, Try.ntmps79
  go_wp2_with fail
  refine bx2 (R := fun W => Code.wp _ _ _ _ W) (fun W0 k0 b0 b1 => ?_)
  replace hv := hv.keep k0
  replace hn := hn.keep k0
  replace hw := hw.keep k0
  replace hq := hq.keep k0
  obtain ⟨R0, hR0⟩ : ∃ R, w.heap.size = R := ⟨_, rfl⟩
  rw [hR0] at b0 b1 ⊢
  clear hR0
  go_loopw [9, 17] (fun c z wr => ∃ (i : Nat), i ≤ ns.length ∧ c = .int .i64 (sumTo (mixT p ns ws S q) i) ∧ z = .int .i64 (i : Int) ∧ Chg No W0 wr) (fun _ z _ => ns.length - (intOf z).toNat)
  case atStart => exact ⟨0, Nat.zero_le _, rfl, rfl, Chg.refl _ _⟩
  case round =>
    obtain ⟨i, hi, rfl, rfl, kr⟩ := hrel
    have hi0 : (0 : Int) ≤ (i : Int) := Int.natCast_nonneg _
    obtain ⟨c, hcc⟩ : ∃ c, sumTo (mixT p ns ws S q) i = c := ⟨_, rfl⟩
    have hc9 : 0 ≤ c ∧ c ≤ 257040 := by
      rw [← hcc]
      have := HIN.out i hi
      omega
    by_cases hlt : i < ns.length
    · have hi1 : (i : Int) < (ns.length : Int) := by omega
      have hwi : IntKind.i64.wrap ((i : Int) + 1) = (i : Int) + 1 := IntWalk.i64_in _ (by omega)
      obtain ⟨nb, nf, ta, tc, rfl, hnb, hcn, htr⟩ := (hn.keep kr).row hlt
      obtain ⟨wb, wf, rfl, hwb, hcw⟩ := (hw.keep kr).cellN (j := i) (by rw [HLW.out]; exact hlt)
      have hm1 := mixT_in HP.out.1 HP.out.2.1 HP.out.2.2.2.1 HP.out.2.2.1 HP.out.2.2.2.2 hlt
      have hw1 := mix_w HP.out.2.1 hlt
      have hre := rest_in HP.out.1 (HP.out.2.1.2.2.2 i hlt) HP.out.2.2.2.1 HP.out.2.2.1
      have HNX : Hid (sumTo (mixT p ns ws S q) (i + 1) = c + mixT p ns ws S q i) := Lib.hid (by rw [← hcc]; rfl)
      obtain ⟨x, hx⟩ : ∃ x, ws.getD i 0 = x := ⟨_, rfl⟩
      obtain ⟨t, ht⟩ : ∃ t, rest p (algT (ns.getD i [])) S [] q = t := ⟨_, rfl⟩
      have hmt : mixT p ns ws S q i = x * t := by unfold mixT; rw [hx, ht]
      obtain ⟨u, hu⟩ : ∃ u, x * t = u := ⟨_, rfl⟩
      rw [hmt, hu] at hm1 HNX
      rw [hx] at hcw
      have hwu : IntKind.i64.wrap (x * t) = u := by rw [hu]; exact IntWalk.i64_in _ (by omega)
      have hws : IntKind.i64.wrap (c + u) = c + u := IntWalk.i64_in _ (by omega)
      have HR := Lib.hid (ran_any A B C _ _ _ p (ns.getD i []) S q wr HP.out.1 (HP.out.2.1.2.2.2 i hlt) (hv.keep kr) htr (hq.keep kr) HP.out.2.2.2.1 HP.out.2.2.1 HP.out.2.2.2.2)
      rw [ht] at HR
      obtain ⟨nl, hnl⟩ : ∃ nl, (ns.getD i []).length = nl := ⟨_, rfl⟩
      rw [hnl] at hcn HR
      have b0r := b0.keep kr
      have b1r := b1.keep kr
      have g0 := b0r.c 0 _ rfl
      have g1 := b0r.c 1 _ rfl
      have g2 := b1r.c 0 _ rfl
      have g3 := b1r.c 1 _ rfl
      rw [hcc]
      clear hx ht hmt hu hcc hre hnl htr hw1
      go_wp2_with fail
      refine HR.out.mono ?_
      rintro e w2 ⟨v0, rfl, k2⟩
      have kr2 := kr.keep k2
      have b1s := b1r.keep k2
      have g4 := b1s.c 0 _ rfl
      have g5 := (k2.cellD wb (wf + i) hwb (fun e => e)).trans hcw
      clear g0 g1 g2 g3 b0r b1r hcw hcn HR k2
      go_wp2_with fail
      go_round
      case rel => exact ⟨i + 1, hlt, by rw [HNX.out], by go_num, kr2⟩
      case measure => simp [intOf]; omega
    · have hie : i = ns.length := by omega
      subst hie
      have HE : Hid (mixV p ns ws S q = c) := Lib.hid hcc
      rw [hcc]
      clear hcc
      go_wp2_with fail
      go_ret
      exact ⟨_, rfl, by rw [HE.out]; rfl, k0.keep kr⟩
end Go.Proofs.Ytndhijckbponkaa
