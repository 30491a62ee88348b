import Derived.Test.YtndhijckbponkaaGreatPe
import Derived.Test.YtndhijckbponkaaGreatPkX6
/- valid chances, what they weigh, both sides -/
namespace Go.Proofs.YtndhijckbponkaaGreat
open Go.RowKit

set_option maxRecDepth 100000 in
set_option maxHeartbeats 2000000 in
theorem IndexFuncR2_any (A : Nat → Prop) (v : Value) (ll : List (List Int)) (w : World) (h : RII A w v ll) (f : FuncId) (c0 c1 : Value) (p : List Int → Bool)
    (hcf : ∀ x (w : World), (callFunc f #[x, c0, c1]).run Tryz.prog w = .ok (.enter f #[x, c0, c1]) w)
    (hp : ∀ (i : Nat) (xv : Value) (W : World), i < ll.length → Chg No w W → RI A W xv (ll.getD i []) → Calls Tryz.prog f #[xv, c0, c1] W (Ret fun r w' => r = .bool (p (ll.getD i [])) ∧ Chg No W w')) :
    Calls Tryz.prog 146 #[v, .func (.func f) #[] #[c0, c1]] w (Ret fun r w' => (∃ i : Int, r = .int .i64 i ∧ decide (0 ≤ i) = ll.any p) ∧ Chg No w w') := by
  obtain ⟨a, cap, rfl, hcap, hmax, _⟩ := h.view
  have HP := Lib.hid hp
  clear hp
  go_enter Tryz.func146, Tryz.ntmps146
  go_wp2_with fail
  go_loopw [4, 8] (fun r z wr => ∃ j : Nat, j ≤ ll.length ∧ z = .int .i64 (j : Int) ∧ r = .int .i64 0 ∧ (∀ i, i < j → p (ll.getD i []) = false) ∧ Chg No w wr) (fun _ z _ => ll.length - (intOf z).toNat)
  case atStart => exact ⟨0, Nat.zero_le _, rfl, rfl, fun i hi => absurd hi (Nat.not_lt_zero i), Chg.refl _ _⟩
  case round =>
    obtain ⟨j, hj, rfl, rfl, hno, kk⟩ := hrel
    have HNO := Lib.hid hno
    clear hno
    have hj0 : (0 : Int) ≤ (j : Int) := Int.natCast_nonneg _
    by_cases hlt : j < ll.length
    · have hj1 : (j : Int) < (ll.length : Int) := by omega
      have hwj : IntKind.i64.wrap ((j : Int) + 1) = (j : Int) + 1 := IntWalk.i64_in _ (by omega)
      obtain ⟨b, off, xa, xc, rfl, hb, hck, hrj⟩ := (h.keep kk).row hlt
      obtain ⟨y, hy⟩ : ∃ y, ll.getD j [] = y := ⟨_, rfl⟩
      have HPJ := Lib.hid (HP.out j _ wr hlt kk hrj)
      rw [hy] at hck hrj HPJ
      have HY := Lib.hid hy
      clear hy
      go_wp2_with fail
      refine HPJ.out.mono ?_
      rintro e w' ⟨_, rfl, rfl, k1⟩
      have kk1 := kk.keep k1
      cases hpy : p y
      · have HPY := Lib.hid hpy
        clear hpy hck hrj
        go_wp2_with fail
        go_round
        case measure => simp [intOf]; omega
        case rel =>
          refine ⟨j + 1, by omega, by go_num, rfl, fun i hi => ?_, kk1⟩
          by_cases e : i = j
          · subst e; rw [HY.out]; exact HPY.out
          · exact HNO.out i (by omega)
      · have HPY := Lib.hid hpy
        clear hpy hck hrj
        go_wp2_with fail
        go_ret
        refine ⟨_, rfl, ⟨_, rfl, ?_⟩, kk1⟩
        rw [(any_getD ll [] p).2 ⟨j, hlt, by rw [HY.out]; exact HPY.out⟩]
        exact decide_eq_true hj0
    · have hje : j = ll.length := by omega
      subst hje
      go_wp2_with fail
      go_ret
      refine ⟨_, rfl, ⟨_, rfl, ?_⟩, kk⟩
      cases e : ll.any p
      · rfl
      · obtain ⟨i, hi, hpi⟩ := (any_getD ll [] p).1 e
        rw [HNO.out i hi] at hpi; cases hpi

set_option maxRecDepth 100000 in
set_option maxHeartbeats 1000000 in
theorem ContainsFuncR2_any (A : Nat → Prop) (v : Value) (ll : List (List Int)) (w : World) (h : RII A w v ll) (f : FuncId) (c0 c1 : Value) (p : List Int → Bool)
    (hcf : ∀ x (w : World), (callFunc f #[x, c0, c1]).run Tryz.prog w = .ok (.enter f #[x, c0, c1]) w)
    (hp : ∀ (i : Nat) (xv : Value) (W : World), i < ll.length → Chg No w W → RI A W xv (ll.getD i []) → Calls Tryz.prog f #[xv, c0, c1] W (Ret fun r w' => r = .bool (p (ll.getD i [])) ∧ Chg No W w')) :
    Calls Tryz.prog 89 #[v, .func (.func f) #[] #[c0, c1]] w (Ret fun r w' => r = .bool (ll.any p) ∧ Chg No w w') := by
  have HP := Lib.hid hp
  clear hp
  have HC := Lib.hid hcf
  clear hcf
  obtain ⟨a, cap, rfl, _⟩ := h.view
  go_enter Tryz.func89, Tryz.ntmps89
  go_wp2_with fail
  refine (IndexFuncR2_any A _ ll w h f c0 c1 p HC.out HP.out).mono ?_
  rintro e w' ⟨_, rfl, ⟨i, rfl, hi⟩, k1⟩
  have HI := Lib.hid hi
  clear hi
  go_wp2_with fail
  go_ret
  exact ⟨_, rfl, by rw [← HI.out]; rfl, k1⟩

/-- Chances as a value -/
def RCh (A : Nat → Prop) (w : World) (v : Value) (qs : List (List Int)) (ws : List Int) : Prop := ∃ wv qv, v = .agg #[wv, qv] ∧ RI A w wv ws ∧ RII A w qv qs
theorem RCh.step {A T : Nat → Prop} {w w' : World} {v : Value} {qs : List (List Int)} {ws : List Int} (h : RCh A w v qs ws) (hc : Chg T w w') (hT : ∀ k, T k → A k) : RCh A w' v qs ws := by
  obtain ⟨wv, qv, rfl, h1, h2⟩ := h
  exact ⟨wv, qv, rfl, h1.step hc hT, h2.step hc hT⟩
theorem RCh.keep {A : Nat → Prop} {w w' : World} {v : Value} {qs : List (List Int)} {ws : List Int} (h : RCh A w v qs ws) (hc : Chg No w w') : RCh A w' v qs ws := h.step hc (fun _ hk => hk.elim)
def qB (k L : Nat) (q : List Int) : Bool := decide (q.length ≤ 6) && (decide (q.length = L) && belowB (k : Int) q)
theorem belowB_iff {k : Nat} {l : List Int} : belowB (k : Int) l = true ↔ ∀ r ∈ l, 0 ≤ r ∧ r < (k : Int) := by
  unfold belowB
  rw [List.all_eq_true]
  constructor
  · intro h r hr
    have := inB_iff.1 (h r hr); omega
  · intro h r hr
    exact inB_iff.2 (by have := h r hr; omega)
theorem qB_iff {k L : Nat} {q : List Int} : qB k L q = true ↔ q.length = L ∧ q.length ≤ 6 ∧ ∀ r ∈ q, 0 ≤ r ∧ r < (k : Int) := by
  unfold qB
  rw [Bool.and_eq_true, Bool.and_eq_true, decide_eq_true_eq, decide_eq_true_eq, belowB_iff]
  constructor
  · rintro ⟨h1, h2, h3⟩; exact ⟨h2, h1, h3⟩
  · rintro ⟨h1, h2, h3⟩; exact ⟨h2, h1, h3⟩
theorem chP_iff {k : Nat} {qs : List (List Int)} {ws : List Int} : ChP k 12 6 qs ws ↔ inB (qs.length : Int) 1 12 = true ∧ (ws.length : Int) = (qs.length : Int) ∧ wgB 1 ws = true ∧ ∀ i, i < qs.length → qB k (qs.getD 0 []).length (qs.getD i []) = true := by
  unfold ChP
  rw [inB_iff]
  have e1 : (∀ w ∈ ws, 1 ≤ w ∧ w ≤ 9) ↔ wgB 1 ws = true := by
    unfold wgB
    rw [List.all_eq_true]
    exact ⟨fun h w hw => inB_iff.2 (h w hw), fun h w hw => inB_iff.1 (h w hw)⟩
  rw [e1]
  constructor
  · rintro ⟨⟨h1, h2⟩, h3, h4, h5⟩
    refine ⟨⟨by omega, by omega⟩, by omega, h4, fun i hi => qB_iff.2 (h5 _ ?_)⟩
    rw [List.getD_eq_getElem?_getD, List.getElem?_eq_getElem hi]; exact List.getElem_mem hi
  · rintro ⟨⟨h1, h2⟩, h3, h4, h5⟩
    refine ⟨⟨by omega, by omega⟩, by omega, h4, fun q hq => ?_⟩
    obtain ⟨j, hj, rfl⟩ := List.getElem_of_mem hq
    have := qB_iff.1 (h5 j hj)
    rwa [List.getD_eq_getElem?_getD (l := qs) (i := j), List.getElem?_eq_getElem hj] at this
theorem chP_no1 {k : Nat} {qs : List (List Int)} {ws : List Int} (h : inB (qs.length : Int) 1 12 = false) : bP (ChP k 12 6 qs ws) = false := bP_no (fun hp => by rw [(chP_iff.1 hp).1] at h; cases h)
theorem chP_no2 {k : Nat} {qs : List (List Int)} {ws : List Int} (h : ¬ (ws.length : Int) = (qs.length : Int)) : bP (ChP k 12 6 qs ws) = false := bP_no (fun hp => h (chP_iff.1 hp).2.1)
theorem chP_no3 {k : Nat} {qs : List (List Int)} {ws : List Int} (h : wgB 1 ws = false) : bP (ChP k 12 6 qs ws) = false := bP_no (fun hp => by rw [(chP_iff.1 hp).2.2.1] at h; cases h)
theorem chP_no4 {k : Nat} {qs : List (List Int)} {ws : List Int} {i : Nat} (hi : i < qs.length) (h : qB k (qs.getD 0 []).length (qs.getD i []) = false) : bP (ChP k 12 6 qs ws) = false := bP_no (fun hp => by rw [(chP_iff.1 hp).2.2.2 i hi] at h; cases h)
theorem chP_yes {k : Nat} {qs : List (List Int)} {ws : List Int} (h1 : inB (qs.length : Int) 1 12 = true) (h2 : (ws.length : Int) = (qs.length : Int)) (h3 : wgB 1 ws = true) (h4 : ∀ i, i < qs.length → qB k (qs.getD 0 []).length (qs.getD i []) = true) : bP (ChP k 12 6 qs ws) = true := bP_yes (chP_iff.2 ⟨h1, h2, h3, h4⟩)
theorem cfChs (x c0 c1 : Value) (w : World) : (callFunc 95 #[x, c0, c1]).run Tryz.prog w = .ok (.enter 95 #[x, c0, c1]) w := by kernel_rfl
set_option maxRecDepth 100000 in
set_option maxHeartbeats 1000000 in
theorem isChances1_any (A : Nat → Prop) (v : Value) (p : Pr) (qs : List (List Int)) (hq : 0 < qs.length) (l : List Int) (mv sv wv qv : Value) (b b' : Nat) (w : World) (h : RI A w v l) (hp : RPr A w (.agg #[mv, sv]) p) (hqv : RII A w qv qs)
    (hb : BoxN w b [wv, qv]) (hb' : BoxN w b' [mv, sv]) :
    Calls Tryz.prog 95 #[v, .pointer (some ⟨b, 0, none⟩), .pointer (some ⟨b', 0, none⟩)] w (Ret fun r w' => r = .bool (!qB p.sv.length (qs.getD 0 []).length l) ∧ Chg No w w') := by
  have hv := h
  have hp' := hp
  obtain ⟨a, cap, rfl, hcap, hmax, hlen, _, _⟩ := h
  obtain ⟨mv', sv', e, hm, hs⟩ := hp
  simp only [Value.agg.injEq, Array.mk.injEq, List.cons.injEq, and_true] at e
  obtain ⟨rfl, rfl⟩ := e
  obtain ⟨ma, mc, rfl⟩ := hm.shape
  obtain ⟨sa, sc, rfl⟩ := hs.shape
  obtain ⟨qa, qc, rfl⟩ := hqv.shape
  obtain ⟨qb, qo, xa, xc, rfl, _, hc0, _⟩ := hqv.row hq
  rw [Nat.add_zero] at hc0
  obtain ⟨L, hL⟩ : ∃ L, (qs.getD 0 []).length = L := ⟨_, rfl⟩
  rw [hL] at hc0 ⊢
  have hq0 : (0 : Int) < (qs.length : Int) := by omega
  have g1 := hb.c 1 _ rfl
  have e0 := hb'.c 0 _ rfl
  have e1 := hb'.c 1 _ rfl
  clear hL
  by_cases h6 : 6 < (l.length : Int)
  · have HR : Hid (qB p.sv.length L l = false) := Lib.hid (by unfold qB; rw [decide_eq_false (by omega)]; rfl)
    go_enter Tryz.func95, Tryz.ntmps95
    go_wp2_with fail
    go_ret
    exact ⟨_, rfl, by rw [HR.out]; rfl, Chg.refl _ _⟩
  · by_cases hl : (l.length : Int) = (L : Int)
    · obtain rfl : L = l.length := by omega
      have HR : Hid (qB p.sv.length l.length l = seqB p.sv.length l) := Lib.hid (by unfold qB seqB; rw [decide_eq_true (by omega : l.length ≤ 6), decide_eq_true (rfl : l.length = l.length), decide_eq_true (by omega : l.length ≤ 60)]; rfl)
      clear hl
      go_enter Tryz.func95, Tryz.ntmps95
      go_wp2_with fail
      refine (isSequence_any A A _ _ p l w hp' hv).mono ?_
      rintro e w1 ⟨_, rfl, rfl, k1⟩
      go_wp2_with fail
      go_ret
      exact ⟨_, rfl, by rw [HR.out]; rfl, k1⟩
    · have HR : Hid (qB p.sv.length L l = false) := Lib.hid (by unfold qB; rw [decide_eq_false (by omega : ¬ l.length = L), Bool.false_and, Bool.and_false])
      go_enter Tryz.func95, Tryz.ntmps95
      go_wp2_with fail
      go_ret
      exact ⟨_, rfl, by rw [HR.out]; rfl, Chg.refl _ _⟩
set_option maxRecDepth 100000 in
set_option maxHeartbeats 1000000 in
theorem isChances_any (A : Nat → Prop) (v cv : Value) (p : Pr) (qs : List (List Int)) (ws : List Int) (w : World) (h : RPr A w v p) (hc : RCh A w cv qs ws) :
    Calls Tryz.prog 31 #[v, cv] w (Ret fun r w' => r = .bool (bP (ChP p.sv.length 12 6 qs ws)) ∧ Chg No w w') := by
  have hv := h
  obtain ⟨mv, sv, rfl, hm, hs⟩ := h
  obtain ⟨wv, qv, rfl, hw, hq⟩ := hc
  obtain ⟨ma, mc, rfl⟩ := hm.shape
  obtain ⟨sa, sc, rfl⟩ := hs.shape
  obtain ⟨qa, qc, rfl⟩ := hq.shape
  by_cases hl : (ws.length : Int) = (qs.length : Int)
  · obtain ⟨wa, wc, rfl⟩ : ∃ wa wc, wv = .slice wa qs.length wc := by
      obtain ⟨a, c, e, _⟩ := hw
      exact ⟨a, c, by rw [e, show ws.length = qs.length by omega]⟩
    have HL := Lib.hid hl
    clear hl
    go_enter Tryz.func31, Tryz.ntmps31
    go_wp2_with fail
    refine bx2 (R := fun W => Calls _ _ _ W _) (fun W0 k0 b0 b1 => ?_)
    refine (within_any _ _ _ _).mono ?_
    rintro e w1 ⟨rfl, rfl⟩
    have g0 := b1.c 0 _ rfl
    have g1 := b1.c 1 _ rfl
    cases h1 : inB (qs.length : Int) 1 12
    · have H := Lib.hid (chP_no1 (k := p.sv.length) (ws := ws) h1)
      clear h1
      go_wp2_with fail
      go_ret
      exact ⟨_, rfl, by rw [H.out]; rfl, k0⟩
    · have hq0 : 0 < qs.length := by have := (inB_iff.1 h1).1; omega
      have H1 := Lib.hid h1
      clear h1
      go_wp2_with fail
      refine (areWeights_any A _ ws 1 W0 (hw.keep k0)).mono ?_
      rintro e w2 ⟨_, rfl, rfl, k2⟩
      have kk := k0.keep k2
      have b0 := b0.keep k2
      have b1 := b1.keep k2
      have g0 := b1.c 0 _ rfl
      have g1 := b1.c 1 _ rfl
      cases h2 : wgB 1 ws
      · have H := Lib.hid (chP_no3 (k := p.sv.length) (qs := qs) h2)
        clear h2
        go_wp2_with fail
        go_ret
        exact ⟨_, rfl, by rw [H.out]; rfl, kk⟩
      · have H2 := Lib.hid h2
        clear h2
        go_wp2_with fail
        refine (ContainsFuncR2_any A _ qs w2 (hq.keep kk) _ _ _ (fun l => !qB p.sv.length (qs.getD 0 []).length l) (fun x w => cfChs x _ _ w) (fun i xv W hi hW hr => isChances1_any A xv p qs hq0 _ _ _ _ _ _ _ W hr ((hv.keep kk).keep hW) ((hq.keep kk).keep hW) (b1.keep hW) (b0.keep hW))).mono ?_
        rintro e w5 ⟨_, rfl, rfl, k5⟩
        have kk := kk.keep k5
        have hna := any_not qs (fun l => qB p.sv.length (qs.getD 0 []).length l)
        rw [hna]
        clear g0 g1 hna
        cases h4 : qs.all fun l => qB p.sv.length (qs.getD 0 []).length l
        · have H : Hid (bP (ChP p.sv.length 12 6 qs ws) = false) := Lib.hid (bP_no (fun hp => by
            have hp := (chP_iff.1 hp).2.2.2
            have : (qs.all fun l => qB p.sv.length (qs.getD 0 []).length l) = true := by
              rw [List.all_eq_true]
              intro x hx
              obtain ⟨j, hj, rfl⟩ := List.getElem_of_mem hx
              have := hp j hj
              rwa [List.getD_eq_getElem?_getD (l := qs) (i := j), List.getElem?_eq_getElem hj] at this
            rw [this] at h4; cases h4))
          clear h4
          go_wp2_with fail
          go_ret
          exact ⟨_, rfl, by rw [H.out]; rfl, kk⟩
        · have H : Hid (bP (ChP p.sv.length 12 6 qs ws) = true) := Lib.hid (chP_yes H1.out HL.out H2.out (fun i hi => by
            rw [List.all_eq_true] at h4
            rw [List.getD_eq_getElem?_getD (l := qs) (i := i), List.getElem?_eq_getElem hi]
            exact h4 _ (List.getElem_mem hi)))
          clear h4
          go_wp2_with fail
          go_ret
          exact ⟨_, rfl, by rw [H.out]; rfl, kk⟩
  · obtain ⟨wa, wc, rfl, _⟩ := id hw
    have H := Lib.hid (chP_no2 (k := p.sv.length) hl)
    go_enter Tryz.func31, Tryz.ntmps31
    go_wp2_with fail
    refine bx2 (R := fun W => Calls _ _ _ W _) (fun W0 k0 b0 b1 => ?_)
    refine (within_any _ _ _ _).mono ?_
    rintro e w1 ⟨rfl, rfl⟩
    have g0 := b1.c 0 _ rfl
    have g1 := b1.c 1 _ rfl
    cases h1 : inB (qs.length : Int) 1 12
    · go_wp2_with fail
      go_ret
      exact ⟨_, rfl, by rw [H.out]; rfl, k0⟩
    · go_wp2_with fail
      go_ret
      exact ⟨_, rfl, by rw [H.out]; rfl, k0⟩
noncomputable def chaB (p : Pr) (qs : List (List Int)) (ws : List Int) : Bool := bP (PrP p) && bP (ChP p.sv.length 12 6 qs ws)
noncomputable def drawB (p : Pr) (s : Int) (qs : List (List Int)) (ws : List Int) : Bool := chaB p qs ws && inB s 0 ((p.mv.length : Int) - 1)
theorem takB_nil (p : Pr) (s : Int) : takB p s [] = (bP (PrP p) && inB s 0 ((p.mv.length : Int) - 1)) := by
  unfold takB seqB belowB; simp
set_option maxRecDepth 100000 in
set_option maxHeartbeats 1000000 in
theorem isDrawn_any (A : Nat → Prop) (v cv : Value) (p : Pr) (s : Int) (qs : List (List Int)) (ws : List Int) (w : World) (h : RPr A w v p) (hc : RCh A w cv qs ws) :
    Calls Tryz.prog 36 #[v, .int .i64 s, cv] w (Ret fun r w' => r = .bool (drawB p s qs ws) ∧ Chg No w w') := by
  have hv := h
  have hc' := hc
  have HD : Hid (drawB p s qs ws = ((bP (PrP p) && inB s 0 ((p.mv.length : Int) - 1)) && bP (ChP p.sv.length 12 6 qs ws))) := Lib.hid (by
    unfold drawB chaB; cases bP (PrP p) <;> cases inB s 0 ((p.mv.length : Int) - 1) <;> cases bP (ChP p.sv.length 12 6 qs ws) <;> rfl)
  have HT := Lib.hid (takB_nil p s)
  obtain ⟨mv, sv, rfl, hm, hs⟩ := h
  obtain ⟨wv, qv, rfl, hw, hq⟩ := hc
  obtain ⟨ma, mc, rfl⟩ := hm.shape
  obtain ⟨sa, sc, rfl⟩ := hs.shape
  obtain ⟨qa, qc, rfl⟩ := hq.shape
  obtain ⟨wa, wc, rfl, _⟩ := id hw
  go_enter Tryz.func36, Tryz.ntmps36
  go_wp2_with fail
  refine bx2 (R := fun W => Calls _ _ _ W _) (fun W0 k0 b0 b1 => ?_)
  refine (isStarted_any A A _ _ p s [] W0 (hv.keep k0) (RI.nil A W0)).mono ?_
  rintro e w1 ⟨_, rfl, rfl, k1⟩
  have kk := k0.keep k1
  have b0 := b0.keep k1
  have b1 := b1.keep k1
  have g0 := b0.c 0 _ rfl
  have g1 := b0.c 1 _ rfl
  have g2 := b1.c 0 _ rfl
  have g3 := b1.c 1 _ rfl
  rw [HT.out]
  cases h1 : bP (PrP p) && inB s 0 ((p.mv.length : Int) - 1)
  · have H1 := Lib.hid h1
    clear h1
    go_wp2_with fail
    go_ret
    exact ⟨_, rfl, by rw [HD.out, H1.out]; rfl, kk⟩
  · have H1 := Lib.hid h1
    clear h1
    go_wp2_with fail
    refine (isChances_any A _ _ p qs ws w1 (hv.keep kk) (hc'.keep kk)).mono ?_
    rintro e w2 ⟨_, rfl, rfl, k2⟩
    clear g0 g1 g2 g3
    go_wp2_with fail
    go_ret
    exact ⟨_, rfl, by rw [HD.out, H1.out]; rfl, kk.keep k2⟩
set_option maxRecDepth 100000 in
set_option maxHeartbeats 1000000 in
theorem implIsChances_any (A : Nat → Prop) (v cv : Value) (p : Pr) (qs : List (List Int)) (ws : List Int) (w : World) (h : RPr A w v p) (hc : RCh A w cv qs ws) :
    Calls Tryz.prog 7 #[v, cv] w (Ret2 fun r0 r1 w' => r0 = .bool (chaB p qs ws) ∧ r1 = .bool (bP (PrP p)) ∧ Chg No w w') := by
  have hv := h
  have hc' := hc
  have HD : Hid (chaB p qs ws = (bP (PrP p) && bP (ChP p.sv.length 12 6 qs ws))) := Lib.hid rfl
  obtain ⟨mv, sv, rfl, hm, hs⟩ := h
  obtain ⟨wv, qv, rfl, hw, hq⟩ := hc
  obtain ⟨ma, mc, rfl⟩ := hm.shape
  obtain ⟨sa, sc, rfl⟩ := hs.shape
  obtain ⟨qa, qc, rfl⟩ := hq.shape
  obtain ⟨wa, wc, rfl, _⟩ := id hw
  go_enter Tryz.func7, Tryz.ntmps7
  go_wp2_with fail
  refine bx2 (R := fun W => Calls _ _ _ W _) (fun W0 k0 b0 b1 => ?_)
  refine (IsProblem_any A _ p W0 (hv.keep k0)).mono ?_
  rintro e w1 ⟨_, rfl, rfl, k1⟩
  have kk := k0.keep k1
  have b0 := b0.keep k1
  have b1 := b1.keep k1
  have g0 := b0.c 0 _ rfl
  have g1 := b0.c 1 _ rfl
  have g2 := b1.c 0 _ rfl
  have g3 := b1.c 1 _ rfl
  cases h1 : bP (PrP p)
  · have H1 := Lib.hid h1
    clear h1
    go_wp2_with fail
    go_ret2
    exact ⟨_, _, rfl, by rw [HD.out, H1.out]; rfl, by rw [H1.out]; rfl, kk⟩
  · have H1 := Lib.hid h1
    clear h1
    go_wp2_with fail
    refine (isChances_any A _ _ p qs ws w1 (hv.keep kk) (hc'.keep kk)).mono ?_
    rintro e w2 ⟨_, rfl, rfl, k2⟩
    clear g0 g1 g2 g3
    go_wp2_with fail
    go_ret2
    exact ⟨_, _, rfl, by rw [HD.out, H1.out]; rfl, by rw [H1.out]; rfl, kk.keep k2⟩
end Go.Proofs.YtndhijckbponkaaGreat
