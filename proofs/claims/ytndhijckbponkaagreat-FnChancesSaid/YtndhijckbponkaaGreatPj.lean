import Derived.Test.YtndhijckbponkaaGreatPi
/- the reference's best replies -/
namespace Go.Proofs.YtndhijckbponkaaGreat
open Go.RowKit

/-- what is compared -/
def aF (p : Pr) (cs : Chs) (n s r : Nat) (more : List Int) : Nat → Int := fun s' => wS cs more * (mvA p s s' + svA p r s') + ahead p cs n s' more
def aG (p : Pr) (cs : Chs) (n s : Nat) (seen : List Int) : Nat → Int := fun r => if 0 < wS cs (seen ++ [(r : Int)]) then (bl (okA p r) (aF p cs n s r (seen ++ [(r : Int)])) p.mv.length).2 else 0
theorem ahead_aG (p : Pr) (cs : Chs) (n s : Nat) (seen : List Int) : ahead p cs (n + 1) s seen = sumK (aG p cs n s seen) p.sv.length := rfl
/-- a valid Problem with valid Chances -/
structure Gd (p : Pr) (qs : List (List Int)) (ws : List Int) (L : Nat) : Prop where
  pr : PrP p
  q0 : 0 < qs.length ∧ qs.length ≤ 12
  len : ws.length = qs.length
  w9 : ∀ i, i < qs.length → 0 ≤ ws.getD i 0 ∧ ws.getD i 0 ≤ 9
  l0 : (qs.getD 0 []).length = L
  l6 : L ≤ 6
  cb : ChB p.sv.length L (qs.zip ws)
  wle : ∀ seen, wS (qs.zip ws) seen ≤ 108
theorem Gd.of {p : Pr} {qs : List (List Int)} {ws : List Int} (hp : PrP p) (hc : ChP p.sv.length 12 6 qs ws) : Gd p qs ws (qs.getD 0 []).length := by
  refine ⟨hp, hc.1, hc.2.1, fun i hi => ?_, rfl, hc.len, hc.chB, fun seen => ?_⟩
  · have hi' : i < ws.length := by have := hc.2.1; omega
    have := hc.2.2.1 (ws.getD i 0) (by rw [List.getD_eq_getElem?_getD, List.getElem?_eq_getElem hi']; exact List.getElem_mem _)
    omega
  · have := wS_le9 qs ws seen hc.2.2.1
    have := hc.1.2
    omega
section
variable {p : Pr} {qs : List (List Int)} {ws : List Int} {L : Nat}
theorem Gd.w0 (g : Gd p qs ws L) (seen : List Int) : 0 ≤ wS (qs.zip ws) seen ∧ wS (qs.zip ws) seen ≤ 108 := ⟨wS_nn g.cb seen, g.wle seen⟩
theorem Gd.ah (g : Gd p qs ws L) {n s : Nat} (hn : n ≤ 6) (hs : s < p.mv.length) (seen : List Int) : 0 ≤ ahead p (qs.zip ws) n s seen ∧ ahead p (qs.zip ws) n s seen ≤ 77112 := by
  refine ⟨ahead_nn g.pr.prB g.cb n s seen hs, ?_⟩
  have h1 := ahead_bound g.pr.prB g.cb (C := 119) (by omega) g.pr.cost n s seen hs
  obtain ⟨h2, h3⟩ := g.w0 seen
  have h4 : (119 : Int) * n * wS (qs.zip ws) seen ≤ 119 * 6 * 108 := by
    have h5 : (119 : Int) * n * wS (qs.zip ws) seen ≤ 119 * n * 108 := Int.mul_le_mul_of_nonneg_left h3 (by omega)
    have h6 : (119 : Int) * n * 108 ≤ 119 * 6 * 108 := by omega
    omega
  omega
theorem Gd.cs (g : Gd p qs ws L) {x y r : Nat} (hx : x < p.mv.length) (hy : y < p.mv.length) (hr : r < p.sv.length) (ho : okA p r y = true) : 0 ≤ mvA p x y + svA p r y ∧ mvA p x y + svA p r y ≤ 119 := by
  have h1 := g.pr.mv_in hx hy
  have h2 := g.pr.cost x y r hx hy hr
  have h3 : 0 ≤ svA p r y := by unfold okA at ho; simpa using ho
  omega
theorem Gd.wc (g : Gd p qs ws L) {x y r : Nat} (hx : x < p.mv.length) (hy : y < p.mv.length) (hr : r < p.sv.length) (ho : okA p r y = true) (seen : List Int) :
    0 ≤ wS (qs.zip ws) seen * (mvA p x y + svA p r y) ∧ wS (qs.zip ws) seen * (mvA p x y + svA p r y) ≤ 12852 := by
  obtain ⟨h1, h2⟩ := g.w0 seen
  obtain ⟨h3, h4⟩ := g.cs hx hy hr ho
  refine ⟨Int.mul_nonneg h1 h3, ?_⟩
  have h5 : wS (qs.zip ws) seen * (mvA p x y + svA p r y) ≤ wS (qs.zip ws) seen * 119 := Int.mul_le_mul_of_nonneg_left h4 h1
  omega
theorem Gd.aF_in (g : Gd p qs ws L) {n s r y : Nat} (hn : n ≤ 6) (hs : s < p.mv.length) (hr : r < p.sv.length) (more : List Int) (hy : y < p.mv.length) (ho : okA p r y = true) : 0 ≤ aF p (qs.zip ws) n s r more y ∧ aF p (qs.zip ws) n s r more y ≤ 89964 := by
  have h1 := g.wc hs hy hr ho more
  have h2 := g.ah hn hy more
  unfold aF
  omega
theorem Gd.bl_in (g : Gd p qs ws L) {n s r : Nat} (hn : n ≤ 6) (hs : s < p.mv.length) (hr : r < p.sv.length) (more : List Int) : ∀ m, m ≤ p.mv.length → -1 ≤ (bl (okA p r) (aF p (qs.zip ws) n s r more) m).2 ∧ (bl (okA p r) (aF p (qs.zip ws) n s r more) m).2 ≤ 89964
  | 0, _ => by simp [bl]
  | m + 1, h => by
    have ih := g.bl_in hn hs hr more m (by omega)
    unfold bl
    split
    · rename_i hc
      rw [Bool.and_eq_true] at hc
      have := g.aF_in hn hs hr more (y := m) (by omega) hc.1
      simp only
      omega
    · exact ih
theorem Gd.aG_in (g : Gd p qs ws L) {n s r : Nat} (hn : n ≤ 6) (hs : s < p.mv.length) (hr : r < p.sv.length) (seen : List Int) : -1 ≤ aG p (qs.zip ws) n s seen r ∧ aG p (qs.zip ws) n s seen r ≤ 89964 := by
  unfold aG
  split
  · exact g.bl_in hn hs hr _ _ (Nat.le_refl _)
  · omega
theorem sumK_in {f : Nat → Int} {C : Int} (hC : 0 ≤ C) : ∀ k, (∀ r, r < k → -C ≤ f r ∧ f r ≤ C) → -(C * (k : Int)) ≤ sumK f k ∧ sumK f k ≤ C * (k : Int)
  | 0, _ => by simp [sumK]
  | k + 1, h => by
    have ih := sumK_in hC k (fun r hr => h r (by omega))
    have h1 := h k (by omega)
    simp only [sumK]
    push_cast
    rw [Int.mul_add, Int.mul_one]
    omega
end
theorem wS_long {k L : Nat} : ∀ {cs : Chs}, ChB k L cs → ∀ {more : List Int}, L < more.length → wS cs more = 0
  | [], _, _, _ => rfl
  | (q, w) :: cs, h, more, hl => by
    have hq := (h (q, w) (List.mem_cons_self ..)).1
    simp only at hq
    rw [wS, wS_long (fun x hx => h x (List.mem_cons_of_mem _ hx)) hl]
    have : more.isPrefixOf q = false := by
      cases e : more.isPrefixOf q
      · rfl
      · have := (List.isPrefixOf_iff_prefix.1 e).length_le; omega
    rw [this]; rfl
theorem RI.lt {A : Nat → Prop} {w : World} {b off n c : Nat} {l : List Int} (h : RI A w (.slice (some ⟨b, off, none⟩) n c) l) (hl : 0 < l.length) : b < w.heap.size := by
  obtain ⟨_, _, e, hb, _⟩ := h.cellN hl
  cases e
  exact hb
/-- what is said of the reference's two functions -/
def SAhead (p : Pr) (qs : List (List Int)) (ws : List Int) (L n : Nat) : Prop := ∀ (A B : Nat → Prop) (v cv sv : Value) (s : Nat) (seen : List Int) (w : World), RPr A w v p → RCh A w cv qs ws → RI B w sv seen → s < p.mv.length → seen.length + n = L →
  Calls Tryz.prog 52 #[v, .int .i64 (s : Int), cv, sv] w (Ret fun r w' => r = .int .i64 (ahead p (qs.zip ws) n s seen) ∧ Chg No w w')
def SReply (p : Pr) (qs : List (List Int)) (ws : List Int) (L n : Nat) : Prop := ∀ (A B : Nat → Prop) (v cv sv : Value) (s r : Nat) (more : List Int) (w : World), RPr A w v p → RCh A w cv qs ws → RI B w sv more → s < p.mv.length → r < p.sv.length → more.length + n = L → 0 < more.length → more.getD (more.length - 1) 0 = (r : Int) →
  Calls Tryz.prog 119 #[v, .int .i64 (s : Int), cv, sv] w (Ret2 fun r0 r1 w' => r0 = .int .i64 ((bl (okA p r) (aF p (qs.zip ws) n s r more) p.mv.length).1 : Int) ∧ r1 = .int .i64 (bl (okA p r) (aF p (qs.zip ws) n s r more) p.mv.length).2 ∧ Chg No w w')
set_option maxRecDepth 100000 in
set_option maxHeartbeats 2000000 in
theorem sReply_of {p : Pr} {qs : List (List Int)} {ws : List Int} {L n : Nat} (g : Gd p qs ws L) (hA : SAhead p qs ws L n) : SReply p qs ws L n := by
  intro A B v cv sv s r more w hp hc hs hsl hr hml hm0 hmr
  have hb := g.pr.bnd
  have hv := hp
  have hcv := hc
  obtain ⟨mv, sv', rfl, hm, hsv⟩ := hp
  obtain ⟨wv, qv, rfl, hw, hq⟩ := hc
  obtain ⟨ma, mc, rfl⟩ := hm.shape
  obtain ⟨sa, sc, rfl⟩ := hsv.shape
  obtain ⟨qa, qc, rfl⟩ := hq.shape
  obtain ⟨wa, wc, rfl, _⟩ := id hw
  obtain ⟨mb, mo, rfl⟩ := hm.at0 hb.1.1
  obtain ⟨sb, so, rfl⟩ := hsv.at0 hb.2.1.1
  have hlm := hs.len
  obtain ⟨oa, oc, rfl, _⟩ := id hs
  obtain ⟨ob, oo, rfl, _, hlast⟩ := hs.cellN (j := more.length - 1) (by omega)
  rw [hmr] at hlast
  have hn6 : n ≤ 6 := by have := g.l6; omega
  have hm4 := hb.1
  have hsv4 := hb.2.1
  have hms0 : (0 : Int) ≤ (p.mv.length : Int) := Int.natCast_nonneg _
  have hw1 : IntKind.i64.wrap ((more.length : Int) - 1) = ((more.length - 1 : Nat) : Int) := by
    rw [IntWalk.i64_in _ (by omega)]; omega
  have hx1 : ((more.length - 1 : Nat) : Int) < (more.length : Int) := by omega
  have hx0 : (0 : Int) ≤ ((more.length - 1 : Nat) : Int) := Int.natCast_nonneg _
  have k0 := ((Chg.refl No w).alloc (.cells #[.slice (some ⟨mb, mo, none⟩) p.mv.length mc, .slice (some ⟨sb, so, none⟩) p.sv.length sc] 26)).alloc (.cells #[.slice wa ws.length wc, .slice qa qs.length qc] 29)
  have hlast1 := ((hs.keep k0).at1 (j := more.length - 1) (by omega)).trans (by rw [hmr])
  go_enter Tryz.func119, Tryz.ntmps119
  go_wp2_with fail
  clear hlast1 hx1 hx0 hw1 k0
  refine bx2 (R := fun W => _) (fun W0 k0 b0 b1 => ?_)
  go_loopw [11, 12, 13] (fun b l z wr => ∃ j : Nat, j ≤ p.mv.length ∧ z = .int .i64 (j : Int) ∧ b = .int .i64 ((bl (okA p r) (aF p (qs.zip ws) n s r more) j).1 : Int) ∧ l = .int .i64 (bl (okA p r) (aF p (qs.zip ws) n s r more) j).2 ∧ Chg No W0 wr) (fun _ _ z _ => p.mv.length - (intOf z).toNat)
  case atStart => exact ⟨0, Nat.zero_le _, rfl, rfl, rfl, Chg.refl _ _⟩
  case round =>
    obtain ⟨j, hj, rfl, rfl, rfl, kr⟩ := hrel
    have hj0 : (0 : Int) ≤ (j : Int) := Int.natCast_nonneg _
    have b0 := b0.keep kr
    have b1 := b1.keep kr
    have g0 := b0.c 0 _ rfl
    have g1 := b0.c 1 _ rfl
    have kkr := k0.keep kr
    have hbi := g.bl_in hn6 hsl hr more j hj
    have HS : Hid (bl (okA p r) (aF p (qs.zip ws) n s r more) (j + 1) = if okA p r j && (decide ((bl (okA p r) (aF p (qs.zip ws) n s r more) j).2 < 0) || decide (aF p (qs.zip ws) n s r more j < (bl (okA p r) (aF p (qs.zip ws) n s r more) j).2)) then (j, aF p (qs.zip ws) n s r more j) else bl (okA p r) (aF p (qs.zip ws) n s r more) j) := Lib.hid rfl
    obtain ⟨bb, hbb⟩ : ∃ bb, bl (okA p r) (aF p (qs.zip ws) n s r more) j = bb := ⟨_, rfl⟩
    obtain ⟨bs, lv⟩ := bb
    rw [hbb] at HS hbi ⊢
    simp only at hbi
    have HBB := Lib.hid hbb
    clear hbb
    by_cases hlt : j < p.mv.length
    · have hj1 : (j : Int) < (p.mv.length : Int) := by omega
      have hwj : IntKind.i64.wrap ((j : Int) + 1) = (j : Int) + 1 := IntWalk.i64_in _ (by omega)
      have hr1 : (r : Int) < (p.sv.length : Int) := by omega
      have hr0 : (0 : Int) ≤ (r : Int) := Int.natCast_nonneg _
      obtain ⟨rb, ro, rc, hbs, hcr, hrr⟩ := (hsv.keep kkr).rowAt hr (hb.2.2.2.1 r hr) hb.1.1
      have hrj := hrr.at1 (j := j) (by rw [hb.2.2.2.1 r hr]; exact hlt)
      have HO : Hid (okA p r j = decide (0 ≤ svA p r j)) := Lib.hid rfl
      obtain ⟨d, hd⟩ : ∃ d, svA p r j = d := ⟨_, rfl⟩
      rw [show (p.sv.getD r []).getD j 0 = d from hd] at hrj
      rw [hd] at HO
      by_cases hok : 0 ≤ d
      · have hok' : okA p r j = true := by rw [HO.out]; exact decide_eq_true hok
        rw [hok', Bool.true_and] at HS
        have hs1 : (s : Int) < (p.mv.length : Int) := by omega
        have hs0 : (0 : Int) ≤ (s : Int) := Int.natCast_nonneg _
        obtain ⟨xb, xo, xc, hbm, hcx, hxx⟩ := (hm.keep kkr).rowAt hsl (hb.2.2.1 s hsl) hb.1.1
        have hxj := hxx.at1 (j := j) (by rw [hb.2.2.1 s hsl]; exact hlt)
        have i1 := g.cs hsl hlt hr hok'
        have i2 := g.wc hsl hlt hr hok' more
        have i3 := g.ah hn6 hlt more
        have i4 := g.aF_in hn6 hsl hr more hlt hok'
        have hF : aF p (qs.zip ws) n s r more j = wS (qs.zip ws) more * (mvA p s j + svA p r j) + ahead p (qs.zip ws) n j more := rfl
        have HW0 := Lib.hid (fun (W : World) (k : Chg No wr W) => l11Weight_any A B _ _ qs ws more W (hcv.keep (kkr.keep k)) (hs.keep (kkr.keep k)) g.len g.w9 (by have := g.q0; omega))
        have HA0 := Lib.hid (fun (W : World) (k : Chg No wr W) => hA A B _ _ _ j more W (hv.keep (kkr.keep k)) (hcv.keep (kkr.keep k)) (hs.keep (kkr.keep k)) hlt hml)
        obtain ⟨cc, hcc⟩ : ∃ cc, aF p (qs.zip ws) n s r more j = cc := ⟨_, rfl⟩
        obtain ⟨m, hm'⟩ : ∃ m, mvA p s j = m := ⟨_, rfl⟩
        obtain ⟨t, ht⟩ : ∃ t, wS (qs.zip ws) more = t := ⟨_, rfl⟩
        obtain ⟨u, hu⟩ : ∃ u, ahead p (qs.zip ws) n j more = u := ⟨_, rfl⟩
        rw [show (p.mv.getD s []).getD j 0 = m from hm'] at hxj
        rw [hcc] at HS hF i4
        rw [hm', hd] at i1 i2 hF
        rw [ht] at i2 hF HW0
        rw [hu] at i3 hF HA0
        have hw2 : IntKind.i64.wrap (m + d) = m + d := IntWalk.i64_in _ (by omega)
        obtain ⟨q, hq'⟩ : ∃ q, t * (m + d) = q := ⟨_, rfl⟩
        rw [hq'] at i2 hF
        have hw3 : IntKind.i64.wrap (t * (m + d)) = q := by rw [hq']; exact IntWalk.i64_in _ (by omega)
        have hw4 : IntKind.i64.wrap (q + u) = cc := by rw [IntWalk.i64_in _ (by omega)]; exact hF.symm
        clear hd hcc hm' ht hu hF i1 i2 i3 hq' hok'
        go_wp2_with fail
        refine wp_region_C (by kernel_rfl) (by kernel_rfl) (fun σ _ F hF hcl => ?_)
        have d0 := fun n => (b0.keep (hF n)).c 0 _ rfl
        have d1 := fun n => (b0.keep (hF n)).c 1 _ rfl
        have d2 := fun n => (b1.keep (hF n)).c 0 _ rfl
        have d3 := fun n => (b1.keep (hF n)).c 1 _ rfl
        have d4 := fun n => ((hF n).cellD sb (so + r) hbs (fun e => e)).trans hcr
        have d5 := fun n => ((hF n).cellD mb (mo + s) hbm (fun e => e)).trans hcx
        have d6 := fun n => ((hF n).cellD rb (ro + j) (hrr.lt (by rw [hb.2.2.2.1 r hr]; omega)) (fun e => e)).trans hrj
        have d7 := fun n => ((hF n).cellD xb (xo + j) (hxx.lt (by rw [hb.2.2.1 s hsl]; omega)) (fun e => e)).trans hxj
        have HW := Lib.hid (fun n => HW0.out (F n) (hF n))
        have HA := Lib.hid (fun n => HA0.out (F n) (hF n))
        clear g0 g1 hcr hcx hrj hxj HW0 HA0 hrr hxx
        repeat (go_big_quiet_step ((first | (go_at_call 118; exact fam_ret hcl (HW.out _)) | (go_at_call 52; exact fam_ret hcl (HA.out _)))))
        refine wpQuiet_nil ?_
        rintro _ ⟨nq, rfl⟩
        have kr1 := kr.keep (hF nq)
        clear d0 d1 d2 d3 d4 d5 d6 d7 HW HA hcl
        generalize F nq = W at kr1 ⊢
        by_cases hl0 : lv < 0
        · rw [decide_eq_true hl0, Bool.true_or, if_pos rfl] at HS
          go_wp2_with fail
          go_round
          case rel => exact ⟨j + 1, hlt, by go_num, by rw [HS.out], by rw [HS.out], kr1⟩
          case measure => simp [intOf]; omega
        · rw [decide_eq_false hl0, Bool.false_or] at HS
          by_cases hcl : cc < lv
          · rw [decide_eq_true hcl, if_pos rfl] at HS
            go_wp2_with fail
            go_round
            case rel => exact ⟨j + 1, hlt, by go_num, by rw [HS.out], by rw [HS.out], kr1⟩
            case measure => simp [intOf]; omega
          · rw [decide_eq_false hcl, if_neg Bool.false_ne_true] at HS
            go_wp2_with fail
            go_round
            case rel => exact ⟨j + 1, hlt, by go_num, by rw [HS.out], by rw [HS.out], kr1⟩
            case measure => simp [intOf]; omega
      · rw [show okA p r j = false by rw [HO.out]; exact decide_eq_false hok, Bool.false_and, if_neg Bool.false_ne_true] at HS
        clear hd hrr
        go_wp2_with fail
        go_round
        case rel => exact ⟨j + 1, hlt, by go_num, by rw [HS.out], by rw [HS.out], kr⟩
        case measure => simp [intOf]; omega
    · have hje : j = p.mv.length := by omega
      subst hje
      go_wp2_with fail
      go_ret2
      exact ⟨_, _, rfl, by rw [HBB.out]; rfl, by rw [HBB.out]; rfl, kkr⟩
set_option maxRecDepth 100000 in
set_option maxHeartbeats 2000000 in
theorem sAhead_zero {p : Pr} {qs : List (List Int)} {ws : List Int} {L : Nat} (g : Gd p qs ws L) : SAhead p qs ws L 0 := by
  intro A B v cv sv s seen w hp hc hs hsl hml
  have hb := g.pr.bnd
  obtain ⟨mv, sv', rfl, hm, hsv⟩ := hp
  obtain ⟨wv, qv, rfl, hw, hq⟩ := hc
  obtain ⟨ma, mc, rfl⟩ := hm.shape
  obtain ⟨sa, sc, rfl⟩ := hsv.shape
  obtain ⟨qa, qc, rfl⟩ := hq.shape
  obtain ⟨wa, wc, rfl, _⟩ := id hw
  obtain ⟨oa, oc, rfl, _⟩ := id hs
  obtain ⟨qb, qo, xa, xc, rfl, hqb, hc0, _⟩ := hq.row g.q0.1
  have hq1 : (0 : Int) < (qs.length : Int) := by have := g.q0.1; omega
  rw [g.l0, Nat.add_zero, show L = seen.length by omega] at hc0
  have k0 := ((Chg.refl No w).alloc (.cells #[.slice ma p.mv.length mc, .slice sa p.sv.length sc] 26)).alloc (.cells #[.slice wa ws.length wc, .slice (some ⟨qb, qo, none⟩) qs.length qc] 29)
  have hc1 := (k0.cellD qb qo hqb (fun e => e)).trans hc0
  go_enter Tryz.func52, Tryz.ntmps52
  go_wp2_with fail
  go_ret
  exact ⟨_, rfl, rfl, k0⟩
set_option maxRecDepth 100000 in
set_option maxHeartbeats 2000000 in
theorem sAhead_of {p : Pr} {qs : List (List Int)} {ws : List Int} {L n : Nat} (g : Gd p qs ws L) (hR : SReply p qs ws L n) : SAhead p qs ws L (n + 1) := by
  intro A B v cv sv s seen w hp hc hs hsl hml
  have hb := g.pr.bnd
  have hm4 := hb.1
  have hsv4 := hb.2.1
  have hl6 := g.l6
  have hn6 : n ≤ 6 := by omega
  have hv := hp
  have hcv := hc
  obtain ⟨mv, sv', rfl, hm, hsv⟩ := hp
  obtain ⟨wv, qv, rfl, hw, hq⟩ := hc
  obtain ⟨ma, mc, rfl⟩ := hm.shape
  obtain ⟨sa, sc, rfl⟩ := hsv.shape
  obtain ⟨qa, qc, rfl⟩ := hq.shape
  obtain ⟨wa, wc, rfl, _⟩ := id hw
  have hlm := hs.len
  obtain ⟨oa, oc, rfl, _⟩ := id hs
  obtain ⟨qb, qo, xa, xc, rfl, hqb, hc0, _⟩ := hq.row g.q0.1
  have hq1 : (0 : Int) < (qs.length : Int) := by have := g.q0.1; omega
  have hne : ((seen.length : Int) == (L : Int)) = false := beq_eq_false_iff_ne.2 (by omega)
  rw [g.l0, Nat.add_zero] at hc0
  have k0 := ((Chg.refl No w).alloc (.cells #[.slice ma p.mv.length mc, .slice sa p.sv.length sc] 26)).alloc (.cells #[.slice wa ws.length wc, .slice (some ⟨qb, qo, none⟩) qs.length qc] 29)
  have hc1 := (k0.cellD qb qo hqb (fun e => e)).trans hc0
  go_enter Tryz.func52, Tryz.ntmps52
  go_wp2_with fail
  clear k0 hc1
  refine bx2 (R := fun W => _) (fun W0 k0 b0 b1 => ?_)
  go_loopw [9, 10] (fun t z wr => ∃ r : Nat, r ≤ p.sv.length ∧ z = .int .i64 (r : Int) ∧ t = .int .i64 (sumK (aG p (qs.zip ws) n s seen) r) ∧ Chg No W0 wr) (fun _ z _ => p.sv.length - (intOf z).toNat)
  case atStart => exact ⟨0, Nat.zero_le _, rfl, rfl, Chg.refl _ _⟩
  case round =>
    obtain ⟨r, hr, rfl, rfl, kr⟩ := hrel
    have hr0 : (0 : Int) ≤ (r : Int) := Int.natCast_nonneg _
    have b0 := b0.keep kr
    have b1 := b1.keep kr
    have g0 := b0.c 0 _ rfl
    have g1 := b0.c 1 _ rfl
    have kkr := k0.keep kr
    have hT := sumK_in (f := aG p (qs.zip ws) n s seen) (C := 89964) (by omega) r (fun i hi => by have := g.aG_in hn6 hsl (r := i) (by omega) seen; omega)
    by_cases hlt : r < p.sv.length
    · have hr1 : (r : Int) < (p.sv.length : Int) := by omega
      have hwr : IntKind.i64.wrap ((r : Int) + 1) = (r : Int) + 1 := IntWalk.i64_in _ (by omega)
      have hG := g.aG_in hn6 hsl hlt seen
      have HS : Hid (sumK (aG p (qs.zip ws) n s seen) (r + 1) = sumK (aG p (qs.zip ws) n s seen) r + aG p (qs.zip ws) n s seen r) := Lib.hid rfl
      have HE : Hid (aG p (qs.zip ws) n s seen r = if 0 < wS (qs.zip ws) (seen ++ [(r : Int)]) then (bl (okA p r) (aF p (qs.zip ws) n s r (seen ++ [(r : Int)])) p.mv.length).2 else 0) := Lib.hid rfl
      obtain ⟨sm, hsm⟩ : ∃ sm, sumK (aG p (qs.zip ws) n s seen) r = sm := ⟨_, rfl⟩
      obtain ⟨ag, hag⟩ : ∃ ag, aG p (qs.zip ws) n s seen r = ag := ⟨_, rfl⟩
      rw [hsm, hag] at HS
      rw [hag] at HE hG
      rw [hsm] at hT ⊢
      clear hsm hag
      go_wp2_with fail
      refine (l1Own_any B _ seen wr (hs.keep kkr)).mono ?_
      rintro e w1 ⟨v1, rfl, o1, k1⟩
      have kr1 := kr.keep k1
      have z1 := k1.size
      go_wp2_with (at_builtin; refine wapp1 rfl (.tmp 30) (.tmp 32) rfl o1 rfl rfl (by omega) z1 ?_)
      intro v2 w2 h2 k2 f2
      have k3 := kr1.own k2 o1 kr.size
      have b0 := (b0.keep k1).step k2 (fun e => by have := (o1.lt _ e).1; have := b0.lt; omega)
      have b1 := (b1.keep k1).step k2 (fun e => by have := (o1.lt _ e).1; have := b1.lt; omega)
      have g0 := b0.c 0 _ rfl
      have g1 := b0.c 1 _ rfl
      have g2 := b1.c 0 _ rfl
      have g3 := b1.c 1 _ rfl
      have r2 := h2.readNo
      obtain ⟨va, vn, vc, rfl⟩ := r2.shape
      have kk3 := k0.keep k3
      go_wp2_with fail
      refine (l11Weight_any A No _ _ qs ws (seen ++ [(r : Int)]) w2 (hcv.keep kk3) r2 g.len g.w9 (by have := g.q0; omega)).mono ?_
      rintro e w3 ⟨_, rfl, rfl, k4⟩
      have k5 := k3.keep k4
      by_cases hpos : 0 < wS (qs.zip ws) (seen ++ [(r : Int)])
      · rw [if_pos hpos] at HE
        have HP := Lib.hid hpos
        obtain ⟨wt, hwt⟩ : ∃ wt, wS (qs.zip ws) (seen ++ [(r : Int)]) = wt := ⟨_, rfl⟩
        rw [hwt] at hpos ⊢
        have b0 := b0.keep k4
        have b1 := b1.keep k4
        have g0 := b0.c 0 _ rfl
        have g1 := b0.c 1 _ rfl
        have g2 := b1.c 0 _ rfl
        have g3 := b1.c 1 _ rfl
        clear hwt
        go_wp2_with fail
        refine (hR A No _ _ _ s r (seen ++ [(r : Int)]) w3 (hv.keep (k0.keep k5)) (hcv.keep (k0.keep k5)) (r2.keep k4) hsl hlt (by rw [List.length_append]; simp; omega) (by rw [List.length_append]; simp) (by rw [List.length_append]; simp)).mono ?_
        rintro e w4 ⟨_, _, rfl, rfl, rfl, k6⟩
        rw [← HE.out]
        have hw9 : IntKind.i64.wrap (sm + ag) = sm + ag := IntWalk.i64_in _ (by omega)
        clear g0 g1 g2 g3
        go_wp2_with fail
        go_round
        case rel => exact ⟨r + 1, by omega, by go_num, by rw [HS.out], k5.keep k6⟩
        case measure => simp [intOf]; omega
      · rw [if_neg hpos] at HE
        have HS2 : Hid (sumK (aG p (qs.zip ws) n s seen) (r + 1) = sm) := Lib.hid (by rw [HS.out, HE.out]; omega)
        obtain ⟨wt, hwt⟩ : ∃ wt, wS (qs.zip ws) (seen ++ [(r : Int)]) = wt := ⟨_, rfl⟩
        rw [hwt] at hpos ⊢
        clear hwt g0 g1 g2 g3
        go_wp2_with fail
        go_round
        case rel => exact ⟨r + 1, by omega, by go_num, by rw [HS2.out], k5⟩
        case measure => simp [intOf]; omega
    · have hre : r = p.sv.length := by omega
      subst hre
      go_wp2_with fail
      go_ret
      exact ⟨_, rfl, rfl, kkr⟩
theorem sAll {p : Pr} {qs : List (List Int)} {ws : List Int} {L : Nat} (g : Gd p qs ws L) : ∀ n, SAhead p qs ws L n ∧ SReply p qs ws L n
  | 0 => ⟨sAhead_zero g, sReply_of g (sAhead_zero g)⟩
  | n + 1 => by
    have h := sAhead_of g (sAll g n).2
    exact ⟨h, sReply_of g h⟩
end Go.Proofs.YtndhijckbponkaaGreat
