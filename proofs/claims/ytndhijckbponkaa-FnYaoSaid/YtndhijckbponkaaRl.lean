import Derived.Test.YtndhijckbponkaaRi
import Derived.Test.YtndhijckbponkaaRf
/- valid mixtures, the program's side -/
namespace Go.Proofs.Ytndhijckbponkaa
open Go.RowKit

set_option maxRecDepth 100000 in
set_option maxHeartbeats 2000000 in
theorem IndexFuncT_any (A : Nat → Prop) (v : Value) (ll : List (List (List Int))) (w : World) (h : RIII A w v ll) (f : FuncId) (c0 : Value) (p : List (List Int) → Bool)
    (hcf : ∀ x (w : World), (callFunc f #[x, c0]).run Try.prog w = .ok (.enter f #[x, c0]) w)
    (hp : ∀ (i : Nat) (xv : Value) (W : World), i < ll.length → Chg No w W → RII A W xv (ll.getD i []) → Calls Try.prog f #[xv, c0] W (Ret fun r w' => r = .bool (p (ll.getD i [])) ∧ Chg No W w')) :
    Calls Try.prog 121 #[v, .func (.func f) #[] #[c0]] w (Ret fun r w' => (∃ i : Int, r = .int .i64 i ∧ decide (0 ≤ i) = ll.any p) ∧ Chg No w w') := by
  obtain ⟨a, cap, rfl⟩ := h.shape
  have hmax := h.1
  have HP := Lib.hid hp
  clear hp
  go_enter Try.func121, Try.ntmps121
  go_wp2_with fail
  go_loopw [4, 8] (fun r z wr => ∃ j : Nat, j ≤ ll.length ∧ z = .int .i64 (j : Int) ∧ r = .int .i64 0 ∧ (∀ i, i < j → p (ll.getD i []) = false) ∧ Chg No w wr) (fun _ z _ => ll.length - (intOf z).toNat)
  case atStart => exact ⟨0, Nat.zero_le _, rfl, rfl, fun i hi => absurd hi (Nat.not_lt_zero i), Chg.refl _ _⟩
  case round =>
    obtain ⟨j, hj, rfl, rfl, hno, kk⟩ := hrel
    have HNO := Lib.hid hno
    clear hno
    have hj0 : (0 : Int) ≤ (j : Int) := Int.natCast_nonneg _
    by_cases hlt : j < ll.length
    · have hj1 : (j : Int) < (ll.length : Int) := by omega
      have hwj : IntKind.i64.wrap ((j : Int) + 1) = (j : Int) + 1 := IntWalk.i64_in _ (by omega)
      obtain ⟨b, off, xa, xc, rfl, hb, hck, hrj⟩ := (h.keep kk).row hlt
      obtain ⟨y, hy⟩ : ∃ y, ll.getD j [] = y := ⟨_, rfl⟩
      have HPJ := Lib.hid (HP.out j _ wr hlt kk hrj)
      rw [hy] at hck hrj HPJ
      have HY := Lib.hid hy
      clear hy
      go_wp2_with fail
      refine HPJ.out.mono ?_
      rintro e w' ⟨_, rfl, rfl, k1⟩
      have kk1 := kk.keep k1
      cases hpy : p y
      · have HPY := Lib.hid hpy
        clear hpy hck hrj
        go_wp2_with fail
        go_round
        case measure => simp [intOf]; omega
        case rel =>
          refine ⟨j + 1, by omega, by go_num, rfl, fun i hi => ?_, kk1⟩
          by_cases e : i = j
          · subst e; rw [HY.out]; exact HPY.out
          · exact HNO.out i (by omega)
      · have HPY := Lib.hid hpy
        clear hpy hck hrj
        go_wp2_with fail
        go_ret
        refine ⟨_, rfl, ⟨_, rfl, ?_⟩, kk1⟩
        rw [(any_getD ll [] p).2 ⟨j, hlt, by rw [HY.out]; exact HPY.out⟩]
        exact decide_eq_true hj0
    · have hje : j = ll.length := by omega
      subst hje
      go_wp2_with fail
      go_ret
      refine ⟨_, rfl, ⟨_, rfl, ?_⟩, kk⟩
      cases e : ll.any p
      · rfl
      · obtain ⟨i, hi, hpi⟩ := (any_getD ll [] p).1 e
        rw [HNO.out i hi] at hpi; cases hpi

set_option maxRecDepth 100000 in
set_option maxHeartbeats 1000000 in
theorem ContainsFuncT_any (A : Nat → Prop) (v : Value) (ll : List (List (List Int))) (w : World) (h : RIII A w v ll) (f : FuncId) (c0 : Value) (p : List (List Int) → Bool)
    (hcf : ∀ x (w : World), (callFunc f #[x, c0]).run Try.prog w = .ok (.enter f #[x, c0]) w)
    (hp : ∀ (i : Nat) (xv : Value) (W : World), i < ll.length → Chg No w W → RII A W xv (ll.getD i []) → Calls Try.prog f #[xv, c0] W (Ret fun r w' => r = .bool (p (ll.getD i [])) ∧ Chg No W w')) :
    Calls Try.prog 108 #[v, .func (.func f) #[] #[c0]] w (Ret fun r w' => r = .bool (ll.any p) ∧ Chg No w w') := by
  have HP := Lib.hid hp
  clear hp
  have HC := Lib.hid hcf
  clear hcf
  obtain ⟨a, cap, rfl⟩ := h.shape
  go_enter Try.func108, Try.ntmps108
  go_wp2_with fail
  refine (IndexFuncT_any A _ ll w h f c0 p HC.out HP.out).mono ?_
  rintro e w' ⟨_, rfl, ⟨i, rfl, hi⟩, k1⟩
  have HI := Lib.hid hi
  clear hi
  go_wp2_with fail
  go_ret
  exact ⟨_, rfl, by rw [← HI.out]; rfl, k1⟩

def MixP (p : Pr) (ns : List (List (List Int))) (ws : List Int) : Prop := inB (ns.length : Int) 1 4 = true ∧ (ws.length : Int) = (ns.length : Int) ∧ wgB 1 ws = true ∧ ∀ i, i < ns.length → AlgP p (ns.getD i [])
theorem mixP_no1 {p : Pr} {ns : List (List (List Int))} {ws : List Int} (h : inB (ns.length : Int) 1 4 = false) : bP (MixP p ns ws) = false := bP_no (fun hp => by rw [hp.1] at h; cases h)
theorem mixP_no2 {p : Pr} {ns : List (List (List Int))} {ws : List Int} (h : ¬ (ws.length : Int) = (ns.length : Int)) : bP (MixP p ns ws) = false := bP_no (fun hp => h hp.2.1)
theorem mixP_no3 {p : Pr} {ns : List (List (List Int))} {ws : List Int} (h : wgB 1 ws = false) : bP (MixP p ns ws) = false := bP_no (fun hp => by rw [hp.2.2.1] at h; cases h)
theorem cfMix (x c0 : Value) (w : World) : (callFunc 109 #[x, c0]).run Try.prog w = .ok (.enter 109 #[x, c0]) w := by kernel_rfl
set_option maxRecDepth 100000 in
set_option maxHeartbeats 1000000 in
theorem isMixture1_any (A B : Nat → Prop) (mv sv nv : Value) (p : Pr) (nx : List (List Int)) (b : Nat) (w : World) (hp : PrP p) (h : RPr A w (.agg #[mv, sv]) p) (hn : RII B w nv nx) (hb : BoxN w b [mv, sv]) :
    Calls Try.prog 109 #[nv, .pointer (some ⟨b, 0, none⟩)] w (Ret fun r w' => r = .bool (!bP (AlgP p nx)) ∧ Chg No w w') := by
  have g0 := hb.c 0 _ rfl
  have g1 := hb.c 1 _ rfl
  obtain ⟨na, nc, rfl⟩ := hn.shape
  go_enter Try.func109, Try.ntmps109
  go_wp2_with fail
  refine (isAlgorithm_any A B _ _ p nx w hp h hn).mono ?_
  rintro e w1 ⟨_, rfl, rfl, k1⟩
  obtain ⟨t, ht⟩ : ∃ t, bP (AlgP p nx) = t := ⟨_, rfl⟩
  rw [ht]
  have HT := Lib.hid ht
  clear ht
  go_wp2_with fail
  go_ret
  exact ⟨_, rfl, by rw [HT.out]; rfl, k1⟩
set_option maxRecDepth 100000 in
set_option maxHeartbeats 1000000 in
theorem isMixture_any (A B : Nat → Prop) (v cv : Value) (p : Pr) (ns : List (List (List Int))) (ws : List Int) (w : World) (hp : PrP p) (h : RPr A w v p) (hc : RMx B w cv ns ws) :
    Calls Try.prog 73 #[v, cv] w (Ret fun r w' => r = .bool (bP (MixP p ns ws)) ∧ Chg No w w') := by
  have hv := h
  obtain ⟨mv, sv, rfl, hm, hs⟩ := h
  obtain ⟨wv, qv, rfl, hw, hq⟩ := hc
  obtain ⟨ma, mc, rfl⟩ := hm.shape
  obtain ⟨sa, sc, rfl⟩ := hs.shape
  obtain ⟨qa, qc, rfl⟩ := hq.shape
  obtain ⟨wa, wc, rfl, _⟩ := id hw
  go_enter Try.func73, Try.ntmps73
  go_wp2_with fail
  refine bx2 (R := fun W => Calls _ _ _ W _) (fun W0 k0 b0 b1 => ?_)
  refine (within_any _ _ _ _).mono ?_
  rintro e w1 ⟨rfl, rfl⟩
  have g0 := b1.c 0 _ rfl
  have g1 := b1.c 1 _ rfl
  cases h1 : inB (ns.length : Int) 1 4
  · have H := Lib.hid (mixP_no1 (p := p) (ws := ws) h1)
    clear h1
    go_wp2_with fail
    go_ret
    exact ⟨_, rfl, by rw [H.out]; rfl, k0⟩
  · have H1 := Lib.hid h1
    clear h1
    by_cases hl : (ws.length : Int) = (ns.length : Int)
    · have hbl : ((ws.length : Int) == (ns.length : Int)) = true := by rw [hl]; exact beq_self_eq_true _
      have HL := Lib.hid hl
      clear hl
      go_wp2_with fail
      refine (areWeights_any B _ ws 1 W0 (hw.keep k0)).mono ?_
      rintro e w2 ⟨_, rfl, rfl, k2⟩
      have kk := k0.keep k2
      have b0 := b0.keep k2
      have b1 := b1.keep k2
      have g0 := b1.c 0 _ rfl
      have g1 := b1.c 1 _ rfl
      cases h2 : wgB 1 ws
      · have H := Lib.hid (mixP_no3 (p := p) (ns := ns) h2)
        clear h2
        go_wp2_with fail
        go_ret
        exact ⟨_, rfl, by rw [H.out]; rfl, kk⟩
      · have H2 := Lib.hid h2
        clear h2
        go_wp2_with fail
        refine (ContainsFuncT_any B _ ns w2 (hq.keep kk) _ _ (fun nx => !bP (AlgP p nx)) (fun x w => cfMix x _ w) (fun i xv W hi hW hr => isMixture1_any A B _ _ _ p _ _ W hp ((hv.keep kk).keep hW) hr (b0.keep hW))).mono ?_
        rintro e w5 ⟨_, rfl, rfl, k5⟩
        have kk := kk.keep k5
        obtain ⟨t, ht⟩ : ∃ t, ns.any (fun nx => !bP (AlgP p nx)) = t := ⟨_, rfl⟩
        have HB : Hid (bP (MixP p ns ws) = !t) := Lib.hid (by
          cases t
          · refine bP_yes ⟨H1.out, HL.out, H2.out, fun i hi => ?_⟩
            rw [List.any_eq_false] at ht
            have := ht (ns.getD i []) (by rw [List.getD_eq_getElem?_getD, List.getElem?_eq_getElem hi]; exact List.getElem_mem _)
            rw [Bool.not_eq_true', Bool.not_eq_false] at this
            exact bP_iff.1 this
          · refine bP_no (fun e => ?_)
            obtain ⟨j, hj, hpj⟩ := (any_getD ns [] _).1 ht
            rw [bP_yes (e.2.2.2 j hj)] at hpj
            cases hpj)
        rw [ht]
        clear ht g0 g1
        go_wp2_with fail
        go_ret
        exact ⟨_, rfl, by rw [HB.out]; rfl, kk⟩
    · have H := Lib.hid (mixP_no2 (p := p) hl)
      have hbl : ((ws.length : Int) == (ns.length : Int)) = false := beq_eq_false_iff_ne.2 hl
      clear hl
      go_wp2_with fail
      go_ret
      exact ⟨_, rfl, by rw [H.out]; rfl, k0⟩
noncomputable def mixB (p : Pr) (ns : List (List (List Int))) (ws : List Int) : Bool := bP (PrP p) && bP (MixP p ns ws)
set_option maxRecDepth 100000 in
set_option maxHeartbeats 1000000 in
theorem implIsMixture_any (A B : Nat → Prop) (v cv : Value) (p : Pr) (ns : List (List (List Int))) (ws : List Int) (w : World) (h : RPr A w v p) (hc : RMx B w cv ns ws) :
    Calls Try.prog 30 #[v, cv] w (Ret2 fun r0 r1 w' => r0 = .bool (mixB p ns ws) ∧ r1 = .bool (bP (PrP p)) ∧ Chg No w w') := by
  have hv := h
  have hcv := hc
  obtain ⟨mv, sv, rfl, hm, hs⟩ := h
  obtain ⟨wv, qv, rfl, hw, hq⟩ := hc
  obtain ⟨ma, mc, rfl⟩ := hm.shape
  obtain ⟨sa, sc, rfl⟩ := hs.shape
  obtain ⟨qa, qc, rfl⟩ := hq.shape
  obtain ⟨wa, wc, rfl, _⟩ := id hw
  go_enter Try.func30, Try.ntmps30
  go_wp2_with fail
  refine bx2 (R := fun W => Calls _ _ _ W _) (fun W0 k0 b0 b1 => ?_)
  refine (IsProblem_any A _ p W0 (hv.keep k0)).mono ?_
  rintro e w1 ⟨_, rfl, rfl, k1⟩
  have kk := k0.keep k1
  have b0 := b0.keep k1
  have b1 := b1.keep k1
  have g0 := b0.c 0 _ rfl
  have g1 := b0.c 1 _ rfl
  have g2 := b1.c 0 _ rfl
  have g3 := b1.c 1 _ rfl
  cases hp : bP (PrP p)
  · have HB : Hid (mixB p ns ws = false) := Lib.hid (by unfold mixB; rw [hp]; rfl)
    have HP := Lib.hid hp
    clear hp
    go_wp2_with fail
    go_ret2
    exact ⟨_, _, rfl, by rw [HB.out]; rfl, by rw [HP.out]; rfl, kk⟩
  · have HB : Hid (mixB p ns ws = bP (MixP p ns ws)) := Lib.hid (by unfold mixB; rw [hp]; rfl)
    have HP := Lib.hid hp
    have hpp := bP_iff.1 hp
    clear hp
    go_wp2_with fail
    refine (isMixture_any A B _ _ p ns ws w1 hpp (hv.keep kk) (hcv.keep kk)).mono ?_
    rintro e w2 ⟨_, rfl, rfl, k2⟩
    have kk := kk.keep k2
    rw [← HB.out]
    go_wp2_with fail
    go_ret2
    exact ⟨_, _, rfl, rfl, by rw [HP.out]; rfl, kk⟩
end Go.Proofs.Ytndhijckbponkaa
