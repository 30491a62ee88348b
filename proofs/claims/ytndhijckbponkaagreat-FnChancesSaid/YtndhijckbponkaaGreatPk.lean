import Derived.Test.YtndhijckbponkaaGreatPj
/- the program's best replies -/
namespace Go.Proofs.YtndhijckbponkaaGreat
open Go.RowKit

def blS (f : Nat → Int) (b : Int × Int) (t : Int) : Int × Int := if f t.toNat < b.2 then (t, f t.toNat) else b
def blL (f : Nat → Int) (far : Int) (l : List Int) : Int × Int := l.foldl (blS f) (-1, far)
theorem blL_snoc (f : Nat → Int) (far : Int) (l : List Int) (k : Nat) (h : k < l.length) : blL f far (l.take (k + 1)) = blS f (blL f far (l.take k)) (l.getD k 0) := by
  unfold blL
  rw [List.take_succ_eq_append_getElem h, List.foldl_append, List.getD_eq_getElem?_getD, List.getElem?_eq_getElem h]; rfl
theorem blL_svd (ok : Nat → Bool) (f : Nat → Int) (far : Int) (m : Nat) : blL f far (svd ok m) = blI ok f far m := by
  induction m with
  | zero => rfl
  | succ m ih =>
    unfold svd blI
    cases ho : ok m
    · simp [ih]
    · rw [if_pos rfl]
      unfold blL at ih ⊢
      rw [List.foldl_append, ih]
      simp only [List.foldl_cons, List.foldl_nil, blS, Int.toNat_natCast, Bool.true_and]
      by_cases h : f m < (blI ok f far m).2
      · rw [if_pos h, if_pos (by simpa using h)]
      · rw [if_neg h, if_neg (by simpa using h)]
theorem blL_in {f : Nat → Int} {far : Int} (hfar : 0 ≤ far) : ∀ (l : List Int), (∀ x ∈ l, 0 ≤ f x.toNat ∧ f x.toNat < far) → ∀ k, k ≤ l.length → 0 ≤ (blL f far (l.take k)).2 ∧ (blL f far (l.take k)).2 ≤ far
  | l, h, 0, _ => by simp [blL]; omega
  | l, h, k + 1, hk => by
    have ih := blL_in hfar l h k (by omega)
    rw [blL_snoc f far l k (by omega)]
    unfold blS
    have hm : l.getD k 0 ∈ l := by rw [List.getD_eq_getElem?_getD, List.getElem?_eq_getElem (by omega : k < l.length)]; exact List.getElem_mem _
    have := h _ hm
    split
    · simp only; omega
    · exact ih
/-- what is said of the program's two functions -/
def IAhead (p : Pr) (qs : List (List Int)) (ws : List Int) (L n : Nat) : Prop := ∀ (A B : Nat → Prop) (v cv sv : Value) (s : Nat) (seen : List Int) (w : World), RPr A w v p → RCh A w cv qs ws → RI B w sv seen → s < p.mv.length → seen.length + n = L →
  Calls Tryz.prog 50 #[v, .int .i64 (s : Int), cv, sv] w (Ret fun r w' => r = .int .i64 (ahead p (qs.zip ws) n s seen) ∧ Chg No w w')
def IReply (p : Pr) (qs : List (List Int)) (ws : List Int) (L n : Nat) : Prop := ∀ (A B : Nat → Prop) (v cv sv : Value) (s r : Nat) (more : List Int) (w : World), RPr A w v p → RCh A w cv qs ws → RI B w sv more → s < p.mv.length → r < p.sv.length → more.length + n = L → 0 < more.length → more.getD (more.length - 1) 0 = (r : Int) →
  Calls Tryz.prog 117 #[v, .int .i64 (s : Int), cv, sv] w (Ret2 fun r0 r1 w' => r0 = .int .i64 ((bl (okA p r) (aF p (qs.zip ws) n s r more) p.mv.length).1 : Int) ∧ r1 = .int .i64 (bl (okA p r) (aF p (qs.zip ws) n s r more) p.mv.length).2 ∧ Chg No w w')
theorem Gd.blI_bl {p : Pr} {qs : List (List Int)} {ws : List Int} {L : Nat} (g : Gd p qs ws L) {n s r : Nat} (hn : n ≤ 6) (hs : s < p.mv.length) (hr : r < p.sv.length) (more : List Int) :
    blI (okA p r) (aF p (qs.zip ws) n s r more) 1073741824 p.mv.length = (((bl (okA p r) (aF p (qs.zip ws) n s r more) p.mv.length).1 : Int), (bl (okA p r) (aF p (qs.zip ws) n s r more) p.mv.length).2) := by
  rcases blI_eq (ok := okA p r) (f := aF p (qs.zip ws) n s r more) (far := 1073741824) p.mv.length (fun y hy ho => by have := g.aF_in hn hs hr more hy ho; omega) with ⟨h1, _⟩ | ⟨_, _, h3⟩
  · obtain ⟨x, hx, hox⟩ := g.pr.prB.2 r hr
    rw [h1 x hx] at hox; cases hox
  · exact h3
set_option maxRecDepth 100000 in
set_option maxHeartbeats 2000000 in
theorem iReply_of {p : Pr} {qs : List (List Int)} {ws : List Int} {L n : Nat} (g : Gd p qs ws L) (hA : IAhead p qs ws L n) : IReply p qs ws L n := by
  intro A B v cv sv s r more w hp hc hs hsl hr hml hm0 hmr
  have hb := g.pr.bnd
  have hv := hp
  have hcv := hc
  have hm4 := hb.1
  have hsv4 := hb.2.1
  have hl6 := g.l6
  have hn6 : n ≤ 6 := by omega
  obtain ⟨mv, sv', rfl, hm, hsv⟩ := hp
  obtain ⟨wv, qv, rfl, hw, hq⟩ := hc
  obtain ⟨ma, mc, rfl⟩ := hm.shape
  obtain ⟨sa, sc, rfl⟩ := hsv.shape
  obtain ⟨qa, qc, rfl⟩ := hq.shape
  obtain ⟨wa, wc, rfl, _⟩ := id hw
  have hlm := hs.len
  obtain ⟨oa, oc, rfl, _⟩ := id hs
  obtain ⟨ob, oo, rfl, hob, hlast⟩ := hs.cellN (j := more.length - 1) (by omega)
  rw [hmr] at hlast
  have hw1 : IntKind.i64.wrap ((more.length : Int) - 1) = ((more.length - 1 : Nat) : Int) := by
    rw [IntWalk.i64_in _ (by omega)]; omega
  have hx1 : ((more.length - 1 : Nat) : Int) < (more.length : Int) := by omega
  have hx0 : (0 : Int) ≤ ((more.length - 1 : Nat) : Int) := Int.natCast_nonneg _
  have HBL := Lib.hid (g.blI_bl hn6 hsl hr more)
  go_enter Tryz.func117, Tryz.ntmps117
  go_wp2_with fail
  refine bx2 (R := fun W => _) (fun W0 k0 b0 b1 => ?_)
  have HW0 := Lib.hid (fun (W : World) (k : Chg No W0 W) => beginning_any A B _ _ qs ws more W (hcv.keep (k0.keep k)) (hs.keep (k0.keep k)) g.len g.w9 (by have := g.q0; omega))
  have hT := g.w0 more
  have HF : Hid (∀ y, aF p (qs.zip ws) n s r more y = wS (qs.zip ws) more * (mvA p s y + svA p r y) + ahead p (qs.zip ws) n y more) := Lib.hid (fun _ => rfl)
  have HI := Lib.hid (fun (y : Nat) (hy : y < p.mv.length) (ho : okA p r y = true) => (And.intro (g.wc hsl hy hr ho more) (And.intro (g.ah hn6 hy more) (g.aF_in hn6 hsl hr more hy ho))))
  obtain ⟨t, ht⟩ : ∃ t, wS (qs.zip ws) more = t := ⟨_, rfl⟩
  rw [ht] at HW0 HF HI hT
  clear ht
  refine wp_region_C (by kernel_rfl) (by kernel_rfl) (fun σ _ F hF hcl => ?_)
  have d2 := fun n => (b1.keep (hF n)).c 0 _ rfl
  have d3 := fun n => (b1.keep (hF n)).c 1 _ rfl
  have d4 := fun n => ((hF n).cellD ob (oo + (more.length - 1)) (by have := k0.size; omega) (fun e => e)).trans ((k0.cellD ob (oo + (more.length - 1)) hob (fun e => e)).trans hlast)
  have HW := Lib.hid (fun n => HW0.out (F n) (hF n))
  clear HW0 hlast
  repeat (go_big_quiet_step ((go_at_call 116; exact fam_ret hcl (HW.out _))))
  refine wpQuiet_nil ?_
  rintro _ ⟨nq, rfl⟩
  have kr0 := hF nq
  clear d2 d3 d4 HW hcl
  generalize F nq = W1 at kr0 ⊢
  clear hF F hx1 hx0 hw1
  have b0 := b0.keep kr0
  have b1 := b1.keep kr0
  have g0 := b0.c 0 _ rfl
  have g1 := b0.c 1 _ rfl
  have kk := k0.keep kr0
  go_wp2_with fail
  refine (served_any A _ p r W1 (hv.keep kk) hb hr).mono ?_
  rintro e W2 ⟨sl, rfl, os, k2⟩
  have kk2 := kk.keep k2
  have b0 := b0.keep k2
  have b1 := b1.keep k2
  have rs := os.readNo
  have HMM := Lib.hid (fun x hx => svd_mem (ok := okA p r) (m := p.mv.length) (x := x) hx)
  rw [← blL_svd] at HBL
  have hsl4 := svd_len (okA p r) p.mv.length
  obtain ⟨ss, hss⟩ : ∃ ss, svd (okA p r) p.mv.length = ss := ⟨_, rfl⟩
  rw [hss] at rs os HMM hsl4 HBL
  obtain ⟨la, lc, rfl, _⟩ := id rs
  clear hss g0 g1 os
  have hls0 : (0 : Int) ≤ (ss.length : Int) := Int.natCast_nonneg _
  go_wp2_with fail
  go_loopw [12, 13, 30] (fun b l z wr => ∃ j : Nat, j ≤ ss.length ∧ z = .int .i64 (j : Int) ∧ b = .int .i64 (blL (aF p (qs.zip ws) n s r more) 1073741824 (ss.take j)).1 ∧ l = .int .i64 (blL (aF p (qs.zip ws) n s r more) 1073741824 (ss.take j)).2 ∧ Chg No W2 wr) (fun _ _ z _ => ss.length - (intOf z).toNat)
  case atStart => exact ⟨0, Nat.zero_le _, rfl, rfl, rfl, Chg.refl _ _⟩
  case round =>
    obtain ⟨j, hj, rfl, rfl, rfl, kr⟩ := hrel
    have hj0 : (0 : Int) ≤ (j : Int) := Int.natCast_nonneg _
    have b0 := b0.keep kr
    have b1 := b1.keep kr
    have g0 := b0.c 0 _ rfl
    have g1 := b0.c 1 _ rfl
    have kkr := kk2.keep kr
    by_cases hlt : j < ss.length
    · have hj1 : (j : Int) < (ss.length : Int) := by omega
      have hwj : IntKind.i64.wrap ((j : Int) + 1) = (j : Int) + 1 := IntWalk.i64_in _ (by omega)
      obtain ⟨lb, lo, rfl, hlb, hlj⟩ := (rs.keep kr).cellN hlt
      have HS := Lib.hid (blL_snoc (aF p (qs.zip ws) n s r more) 1073741824 ss j hlt)
      obtain ⟨y, hy, hym, hyo⟩ := HMM.out (ss.getD j 0) (by rw [List.getD_eq_getElem?_getD, List.getElem?_eq_getElem hlt]; exact List.getElem_mem hlt)
      rw [hy] at hlj HS
      rw [blS, Int.toNat_natCast] at HS
      have hFy := HF.out y
      obtain ⟨i1, i2, i3⟩ := HI.out y hym hyo
      have HC0 := Lib.hid (fun (W : World) (k : Chg No wr W) => cost_any A _ p s y r W (hv.keep (kkr.keep k)) hb hsl hym hr)
      have HA0 := Lib.hid (fun (W : World) (k : Chg No wr W) => hA A B _ _ _ y more W (hv.keep (kkr.keep k)) (hcv.keep (kkr.keep k)) (hs.keep (kkr.keep k)) hym hml)
      obtain ⟨bb, hbb⟩ : ∃ bb, blL (aF p (qs.zip ws) n s r more) 1073741824 (ss.take j) = bb := ⟨_, rfl⟩
      obtain ⟨bs, lv⟩ := bb
      obtain ⟨cc, hcc⟩ : ∃ cc, aF p (qs.zip ws) n s r more y = cc := ⟨_, rfl⟩
      obtain ⟨cm, hcm⟩ : ∃ cm, mvA p s y + svA p r y = cm := ⟨_, rfl⟩
      obtain ⟨u, hu⟩ : ∃ u, ahead p (qs.zip ws) n y more = u := ⟨_, rfl⟩
      rw [hcm] at HC0
      rw [hu] at HA0
      rw [hbb] at HS ⊢
      rw [hcc, hcm, hu] at hFy
      rw [hcm] at i1
      rw [hu] at i2
      rw [hcc] at i3 HS
      simp only at HS
      obtain ⟨q, hq'⟩ : ∃ q, t * cm = q := ⟨_, rfl⟩
      rw [hq'] at i1 hFy
      have hw3 : IntKind.i64.wrap (t * cm) = q := by rw [hq']; exact IntWalk.i64_in _ (by omega)
      have hw4 : IntKind.i64.wrap (q + u) = cc := by rw [IntWalk.i64_in _ (by omega)]; exact hFy.symm
      clear hbb hcc hcm hu hFy i1 i2 hq' hy
      go_wp2_with fail
      refine wp_region_C (by kernel_rfl) (by kernel_rfl) (fun σ _ F hF hcl => ?_)
      have d0 := fun n => (b0.keep (hF n)).c 0 _ rfl
      have d1 := fun n => (b0.keep (hF n)).c 1 _ rfl
      have d2 := fun n => (b1.keep (hF n)).c 0 _ rfl
      have d3 := fun n => (b1.keep (hF n)).c 1 _ rfl
      have HCC := Lib.hid (fun n => HC0.out (F n) (hF n))
      have HAA := Lib.hid (fun n => HA0.out (F n) (hF n))
      clear g0 g1 hlj HC0 HA0
      repeat (go_big_quiet_step ((first | (go_at_call 104; exact fam_ret hcl (HCC.out _)) | (go_at_call 50; exact fam_ret hcl (HAA.out _)))))
      refine wpQuiet_nil ?_
      rintro _ ⟨nq, rfl⟩
      have kr1 := kr.keep (hF nq)
      clear d0 d1 d2 d3 HCC HAA hcl
      generalize F nq = W at kr1 ⊢
      by_cases hcl : cc < lv
      · rw [if_pos hcl] at HS
        go_wp2_with fail
        go_round
        case rel => exact ⟨j + 1, hlt, by go_num, by rw [HS.out], by rw [HS.out], kr1⟩
        case measure => simp [intOf]; omega
      · rw [if_neg hcl] at HS
        go_wp2_with fail
        go_round
        case rel => exact ⟨j + 1, hlt, by go_num, by rw [HS.out], by rw [HS.out], kr1⟩
        case measure => simp [intOf]; omega
    · have hje : j = ss.length := by omega
      subst hje
      rw [List.take_length]
      rw [HBL.out]
      go_wp2_with fail
      go_ret2
      exact ⟨_, _, rfl, rfl, rfl, kkr⟩
set_option maxRecDepth 100000 in
set_option maxHeartbeats 2000000 in
theorem onward_gen {p : Pr} {qs : List (List Int)} {ws : List Int} {L : Nat} (g : Gd p qs ws L) (G : Nat → Int) (A B : Nat → Prop) (v cv sv : Value) (s : Nat) (seen : List Int) (w : World) (hp : RPr A w v p) (hc : RCh A w cv qs ws) (hs : RI B w sv seen)
    (hl : seen.length ≤ 6) (hG : ∀ r, r < p.sv.length → -89964 ≤ G r ∧ G r ≤ 89964) (hG0 : ∀ r, r < p.sv.length → ¬ 0 < wS (qs.zip ws) (seen ++ [(r : Int)]) → G r = 0)
    (hR : ∀ (r : Nat) (W : World) (nv : Value), r < p.sv.length → 0 < wS (qs.zip ws) (seen ++ [(r : Int)]) → Chg No w W → RI No W nv (seen ++ [(r : Int)]) → Calls Tryz.prog 117 #[v, .int .i64 (s : Int), cv, nv] W (Ret2 fun r0 r1 w' => (∃ i : Int, r0 = .int .i64 i) ∧ r1 = .int .i64 (G r) ∧ Chg No W w')) :
    Calls Tryz.prog 50 #[v, .int .i64 (s : Int), cv, sv] w (Ret fun r w' => r = .int .i64 (sumK G p.sv.length) ∧ Chg No w w') := by
  have hb := g.pr.bnd
  have hm4 := hb.1
  have hsv4 := hb.2.1
  have hv := hp
  have hcv := hc
  obtain ⟨mv, sv', rfl, hm, hsv⟩ := hp
  obtain ⟨wv, qv, rfl, hw, hq⟩ := hc
  obtain ⟨ma, mc, rfl⟩ := hm.shape
  obtain ⟨sa, sc, rfl⟩ := hsv.shape
  obtain ⟨qa, qc, rfl⟩ := hq.shape
  obtain ⟨wa, wc, rfl, _⟩ := id hw
  have hlm := hs.len
  obtain ⟨oa, oc, rfl, _⟩ := id hs
  have HR := Lib.hid hR
  have HG0 := Lib.hid hG0
  have HG := Lib.hid hG
  clear hR hG0 hG
  go_enter Tryz.func50, Tryz.ntmps50
  go_wp2_with fail
  refine bx2 (R := fun W => _) (fun W0 k0 b0 b1 => ?_)
  go_loopw [9, 17] (fun t z wr => ∃ r : Nat, r ≤ p.sv.length ∧ z = .int .i64 (r : Int) ∧ t = .int .i64 (sumK G r) ∧ Chg No W0 wr) (fun _ z _ => p.sv.length - (intOf z).toNat)
  case atStart => exact ⟨0, Nat.zero_le _, rfl, rfl, Chg.refl _ _⟩
  case round =>
    obtain ⟨r, hr, rfl, rfl, kr⟩ := hrel
    have hr0 : (0 : Int) ≤ (r : Int) := Int.natCast_nonneg _
    have b0 := b0.keep kr
    have b1 := b1.keep kr
    have g0 := b0.c 0 _ rfl
    have g1 := b0.c 1 _ rfl
    have kkr := k0.keep kr
    have hT := sumK_in (f := G) (C := 89964) (by omega) r (fun i hi => HG.out i (by omega))
    by_cases hlt : r < p.sv.length
    · have hr1 : (r : Int) < (p.sv.length : Int) := by omega
      have hwr : IntKind.i64.wrap ((r : Int) + 1) = (r : Int) + 1 := IntWalk.i64_in _ (by omega)
      have hGr := HG.out r hlt
      have HS : Hid (sumK G (r + 1) = sumK G r + G r) := Lib.hid rfl
      have HR2 := Lib.hid (HR.out r)
      have HG2 := Lib.hid (HG0.out r hlt)
      obtain ⟨sm, hsm⟩ : ∃ sm, sumK G r = sm := ⟨_, rfl⟩
      obtain ⟨ag, hag⟩ : ∃ ag, G r = ag := ⟨_, rfl⟩
      rw [hsm, hag] at HS
      rw [hag] at hGr HG2 HR2
      rw [hsm] at hT ⊢
      clear hsm hag
      go_wp2_with fail
      refine (Clone_any B _ seen wr (hs.keep kkr)).mono ?_
      rintro e w1 ⟨v1, rfl, o1, k1⟩
      have kr1 := kr.keep k1
      have z1 := k1.size
      go_wp2_with (at_builtin; refine wapp1 rfl (.tmp 21) (.tmp 23) rfl o1 rfl rfl (by omega) z1 ?_)
      intro v2 w2 h2 k2 f2
      have k3 := kr1.own k2 o1 kr.size
      have b0 := (b0.keep k1).step k2 (fun e => by have := (o1.lt _ e).1; have := b0.lt; omega)
      have b1 := (b1.keep k1).step k2 (fun e => by have := (o1.lt _ e).1; have := b1.lt; omega)
      have g0 := b0.c 0 _ rfl
      have g1 := b0.c 1 _ rfl
      have g2 := b1.c 0 _ rfl
      have g3 := b1.c 1 _ rfl
      have r2 := h2.readNo
      obtain ⟨va, vn, vc, rfl⟩ := r2.shape
      have kk3 := k0.keep k3
      go_wp2_with fail
      refine (beginning_any A No _ _ qs ws (seen ++ [(r : Int)]) w2 (hcv.keep kk3) r2 g.len g.w9 (by have := g.q0; omega)).mono ?_
      rintro e w3 ⟨_, rfl, rfl, k4⟩
      have k5 := k3.keep k4
      by_cases hpos : 0 < wS (qs.zip ws) (seen ++ [(r : Int)])
      · have HP := Lib.hid hpos
        obtain ⟨wt, hwt⟩ : ∃ wt, wS (qs.zip ws) (seen ++ [(r : Int)]) = wt := ⟨_, rfl⟩
        rw [hwt] at hpos ⊢
        have b0 := b0.keep k4
        have b1 := b1.keep k4
        have g0 := b0.c 0 _ rfl
        have g1 := b0.c 1 _ rfl
        have g2 := b1.c 0 _ rfl
        have g3 := b1.c 1 _ rfl
        clear hwt
        go_wp2_with fail
        refine (HR2.out w3 _ hlt HP.out (k0.keep k5) (r2.keep k4)).mono ?_
        rintro e w4 ⟨_, _, rfl, ⟨i0, rfl⟩, rfl, k6⟩
        have hw9 : IntKind.i64.wrap (sm + ag) = sm + ag := IntWalk.i64_in _ (by omega)
        clear g0 g1 g2 g3
        go_wp2_with fail
        go_round
        case rel => exact ⟨r + 1, by omega, by go_num, by rw [HS.out], k5.keep k6⟩
        case measure => simp [intOf]; omega
      · have HS2 : Hid (sumK G (r + 1) = sm) := Lib.hid (by rw [HS.out, HG2.out (by omega)]; omega)
        obtain ⟨wt, hwt⟩ : ∃ wt, wS (qs.zip ws) (seen ++ [(r : Int)]) = wt := ⟨_, rfl⟩
        rw [hwt] at hpos ⊢
        clear hwt g0 g1 g2 g3
        go_wp2_with fail
        go_round
        case rel => exact ⟨r + 1, by omega, by go_num, by rw [HS2.out], k5⟩
        case measure => simp [intOf]; omega
    · have hre : r = p.sv.length := by omega
      subst hre
      go_wp2_with fail
      go_ret
      exact ⟨_, rfl, rfl, kkr⟩
theorem iAhead_zero {p : Pr} {qs : List (List Int)} {ws : List Int} {L : Nat} (g : Gd p qs ws L) : IAhead p qs ws L 0 := by
  intro A B v cv sv s seen w hp hc hs hsl hml
  have h0 : ∀ r : Nat, wS (qs.zip ws) (seen ++ [(r : Int)]) = 0 := fun r => wS_long g.cb (by rw [List.length_append]; simp; omega)
  have h := onward_gen g (fun _ => 0) A B v cv sv s seen w hp hc hs (by have := g.l6; omega) (fun r _ => by omega) (fun r _ _ => rfl) (fun r W nv _ hw => by rw [h0 r] at hw; exact absurd hw (by omega))
  rw [sumK_zero] at h
  exact h
theorem iAhead_of {p : Pr} {qs : List (List Int)} {ws : List Int} {L n : Nat} (g : Gd p qs ws L) (hR : IReply p qs ws L n) : IAhead p qs ws L (n + 1) := by
  intro A B v cv sv s seen w hp hc hs hsl hml
  have hl6 := g.l6
  rw [ahead_aG]
  refine onward_gen g (aG p (qs.zip ws) n s seen) A B v cv sv s seen w hp hc hs (by omega) (fun r hr => by have := g.aG_in (n := n) (by omega) hsl hr seen; omega) (fun r hr hn => by unfold aG; rw [if_neg hn]) (fun r W nv hr hw k hnv => ?_)
  have h := hR A No v cv nv s r (seen ++ [(r : Int)]) W (hp.keep k) (hc.keep k) hnv hsl hr (by rw [List.length_append]; simp; omega) (by rw [List.length_append]; simp) (by rw [List.length_append]; simp)
  refine h.mono ?_
  rintro e w' ⟨r0, r1, rfl, rfl, rfl, k'⟩
  exact ⟨_, _, rfl, ⟨_, rfl⟩, by unfold aG; rw [if_pos hw], k'⟩
theorem iAll {p : Pr} {qs : List (List Int)} {ws : List Int} {L : Nat} (g : Gd p qs ws L) : ∀ n, IAhead p qs ws L n ∧ IReply p qs ws L n
  | 0 => ⟨iAhead_zero g, iReply_of g (iAhead_zero g)⟩
  | n + 1 => by
    have h := iAhead_of g (iAll g n).2
    exact ⟨h, iReply_of g h⟩
end Go.Proofs.YtndhijckbponkaaGreat
