import Derived.Test.YtndhijckbponkaaPj
import Derived.Test.YtndhijckbponkaaJb
import Derived.Test.YtndhijckbponkaaEb
/- the reference's l11Free -/
namespace Go.Proofs.Ytndhijckbponkaa
open Go.RowKit

theorem pow36 {W : Int} (h0 : 0 ≤ W) (h1 : W ≤ 36) : ∀ n : Nat, n ≤ 3 → 0 ≤ W ^ n ∧ W ^ n ≤ 36 ^ n
  | 0, _ => by simp
  | n + 1, h => by
    have ih := pow36 h0 h1 n (by omega)
    rw [Int.pow_succ, Int.pow_succ]
    exact ⟨Int.mul_nonneg ih.1 h0, Int.mul_le_mul ih.2 h1 h0 (Int.le_trans ih.1 ih.2)⟩
theorem pow36_le {n : Nat} (h : n ≤ 3) : (36 : Int) ^ n ≤ 46656 := by
  match n, h with
  | 0, _ => decide
  | 1, _ => decide
  | 2, _ => decide
  | 3, _ => decide
set_option maxRecDepth 100000 in
theorem l11Power_any36 (b : Int) (L : Nat) (w : World) (hb : 0 ≤ b ∧ b ≤ 36) (hL : L ≤ 3) :
    Calls Try.prog 65 #[.int .i64 b, .int .i64 (L : Int)] w fun e w' => e = .returned (.int .i64 (b ^ L)) ∧ w = w' := by
  go_enter Try.func65, Try.ntmps65
  go_wp2_with fail
  go_loop [5, 6] (fun s i => ∃ k : Nat, k ≤ L ∧ i = .int .i64 k ∧ s = .int .i64 (b ^ k)) (fun _ i => L - (intOf i).toNat)
  case atStart => exact ⟨0, Nat.zero_le _, rfl, by rw [Int.pow_zero]⟩
  case round =>
    obtain ⟨k, hk, rfl, rfl⟩ := hrel
    have hk0 : (0 : Int) ≤ (k : Int) := Int.natCast_nonneg _
    by_cases hlt : k < L
    · have hs : b ^ (k + 1) = b ^ k * b := Int.pow_succ ..
      have hb1 := pow36 hb.1 hb.2 (k + 1) (by omega)
      have hb2 := pow36_le (show k + 1 ≤ 3 by omega)
      obtain ⟨s, hss⟩ : ∃ s, b ^ k = s := ⟨_, rfl⟩
      rw [hss] at hs ⊢
      have hw : IntKind.i64.wrap (s * b) = s * b := by rw [← hs]; exact IntWalk.i64_in _ (by omega)
      have hkw : IntKind.i64.wrap ((k : Int) + 1) = (k : Int) + 1 := IntWalk.i64_in _ (by omega)
      have hk1 : (k : Int) < (L : Int) := by omega
      have HS := Lib.hid hs
      clear hss hs hb1 hb2
      go_wp2_with fail
      go_round
      case rel => exact ⟨k + 1, hlt, by go_num, by rw [HS.out]⟩
      case measure => simp [intOf]; omega
    · have hkl : k = L := by omega
      subst hkl
      go_wp2_with fail
      go_ret
      exact ⟨rfl, rfl⟩
def wOf (l : List Int) : Nat → Int := fun i => l.getD i 0
def fF (p : Pr) (ws : Nat → Int) (W : Int) (n s r : Nat) : Nat → Int := fun s' => W ^ n * (mvA p s s' + svA p r s') + free p ws W n s'
def fG (p : Pr) (ws : Nat → Int) (W : Int) (n s : Nat) : Nat → Int := fun r => ws r * (bl (okA p r) (fF p ws W n s r) p.mv.length).2
theorem free_fG (p : Pr) (ws : Nat → Int) (W : Int) (n s : Nat) : free p ws W (n + 1) s = sumK (fG p ws W n s) p.sv.length := rfl
def bdF : Nat → Int
  | 0 => 0
  | n + 1 => 36 * (36 ^ n * 119 + bdF n)
theorem bdF_le {n : Nat} (h : n ≤ 3) : 0 ≤ bdF n ∧ bdF n ≤ 16656192 := by
  match n, h with
  | 0, _ => decide
  | 1, _ => decide
  | 2, _ => decide
  | 3, _ => decide
theorem bl_in2 {ok : Nat → Bool} {f : Nat → Int} {C : Int} (hC : 0 ≤ C) : ∀ m, (∀ s, s < m → ok s = true → 0 ≤ f s ∧ f s ≤ C) → -1 ≤ (bl ok f m).2 ∧ (bl ok f m).2 ≤ C
  | 0, _ => by simp [bl]; omega
  | m + 1, h => by
    have ih := bl_in2 hC m (fun s hs => h s (by omega))
    unfold bl
    split
    · rename_i hc
      rw [Bool.and_eq_true] at hc
      have := h m (by omega) hc.1
      simp only
      omega
    · exact ih
/-- a valid Problem with weights of its requests -/
structure Fg (p : Pr) (l : List Int) (W : Int) : Prop where
  pr : PrP p
  len : l.length = p.sv.length
  w9 : ∀ i, i < l.length → 0 ≤ l.getD i 0 ∧ l.getD i 0 ≤ 9
  sum : sumW l = W
  W0 : 0 ≤ W ∧ W ≤ 36
section
variable {p : Pr} {l : List Int} {W : Int}
theorem Fg.cs (g : Fg p l W) {x y r : Nat} (hx : x < p.mv.length) (hy : y < p.mv.length) (hr : r < p.sv.length) (ho : okA p r y = true) : 0 ≤ mvA p x y + svA p r y ∧ mvA p x y + svA p r y ≤ 119 := by
  have h1 := g.pr.mv_in hx hy
  have h2 := g.pr.cost x y r hx hy hr
  have h3 : 0 ≤ svA p r y := by unfold okA at ho; simpa using ho
  omega
theorem Fg.sc (g : Fg p l W) {n x y r : Nat} (hn : n ≤ 3) (hx : x < p.mv.length) (hy : y < p.mv.length) (hr : r < p.sv.length) (ho : okA p r y = true) : 0 ≤ W ^ n * (mvA p x y + svA p r y) ∧ W ^ n * (mvA p x y + svA p r y) ≤ 36 ^ n * 119 := by
  have h1 := g.cs hx hy hr ho
  have h2 := pow36 g.W0.1 g.W0.2 n hn
  exact ⟨Int.mul_nonneg h2.1 h1.1, Int.mul_le_mul h2.2 h1.2 h1.1 (Int.le_trans h2.1 h2.2)⟩
theorem Fg.free_in (g : Fg p l W) : ∀ n, n ≤ 3 → ∀ s, s < p.mv.length → 0 ≤ free p (wOf l) W n s ∧ free p (wOf l) W n s ≤ bdF n
  | 0, _, _, _ => ⟨Int.le_refl _, Int.le_refl _⟩
  | n + 1, hn, s, hs => by
    refine ⟨free_nn g.pr.prB (fun r hr => (g.w9 r (by rw [g.len]; exact hr)).1) g.W0.1 (n + 1) s hs, ?_⟩
    have hsv := g.pr.bnd.2.1
    have hbd := bdF_le (show n ≤ 3 by omega)
    have hp0 : (0 : Int) ≤ 36 ^ n := Int.pow_nonneg (by omega)
    have hC : 0 ≤ 36 ^ n * 119 + bdF n := by omega
    have h1 : ∀ r, r < p.sv.length → -(9 * (36 ^ n * 119 + bdF n)) ≤ fG p (wOf l) W n s r ∧ fG p (wOf l) W n s r ≤ 9 * (36 ^ n * 119 + bdF n) := fun r hr => by
      have h2 := bl_in2 (ok := okA p r) (f := fF p (wOf l) W n s r) hC p.mv.length (fun s' hs' ho => by
        have h3 := g.sc (n := n) (by omega) hs hs' hr ho
        have h4 := g.free_in n (by omega) s' hs'
        unfold fF
        omega)
      have h5 := bl_spec (ok := okA p r) (f := fF p (wOf l) W n s r) p.mv.length (fun s' hs' ho => by
        have h3 := g.sc (n := n) (by omega) hs hs' hr ho
        have h4 := g.free_in n (by omega) s' hs'
        unfold fF
        omega)
      obtain ⟨x, hx, hxo⟩ := g.pr.prB.2 r hr
      have h6 : 0 ≤ (bl (okA p r) (fF p (wOf l) W n s r) p.mv.length).2 := by
        rcases h5 with ⟨_, h⟩ | ⟨h, _⟩
        · rw [h x hx] at hxo; cases hxo
        · exact h
      have h7 := g.w9 r (by rw [g.len]; exact hr)
      have h8 := Int.mul_le_mul h7.2 h2.2 h6 (by omega)
      have h9 := Int.mul_nonneg h7.1 h6
      have h10 : fG p (wOf l) W n s r = l.getD r 0 * (bl (okA p r) (fF p (wOf l) W n s r) p.mv.length).2 := rfl
      rw [h10]
      omega
    have h3 := sumK_in (C := 9 * (36 ^ n * 119 + bdF n)) (by omega) p.sv.length h1
    rw [free_fG]
    have h4 : 9 * (36 ^ n * 119 + bdF n) * (p.sv.length : Int) ≤ 9 * (36 ^ n * 119 + bdF n) * 4 := Int.mul_le_mul_of_nonneg_left (by omega) (by omega)
    unfold bdF
    omega
end
theorem mul9 {a b : Int} (ha : 0 ≤ a ∧ a ≤ 9) (hb : -1 ≤ b ∧ b ≤ 22208256) : -9 ≤ a * b ∧ a * b ≤ 199874304 := by
  have h1 : a * b ≤ a * 22208256 := Int.mul_le_mul_of_nonneg_left hb.2 ha.1
  have h2 : a * (-1) ≤ a * b := Int.mul_le_mul_of_nonneg_left hb.1 ha.1
  omega
def SFree (p : Pr) (l : List Int) (W : Int) (n : Nat) : Prop := ∀ (A B : Nat → Prop) (v wv : Value) (s : Nat) (w : World), RPr A w v p → RI B w wv l → s < p.mv.length →
  Calls Try.prog 64 #[v, .int .i64 (s : Int), wv, .int .i64 (n : Int)] w (Ret fun t w' => t = .int .i64 (free p (wOf l) W n s) ∧ Chg No w w')
theorem sFree_zero {p : Pr} {l : List Int} {W : Int} : SFree p l W 0 := by
  intro A B v wv s w hp hw hsl
  obtain ⟨mv, sv, rfl, hm, hsv⟩ := hp
  obtain ⟨ma, mc, rfl⟩ := hm.shape
  obtain ⟨sa, sc, rfl⟩ := hsv.shape
  obtain ⟨wa, wc, rfl, _⟩ := id hw
  have k0 := (Chg.refl No w).alloc (.cells #[.slice ma p.mv.length mc, .slice sa p.sv.length sc] 32)
  go_enter Try.func64, Try.ntmps64
  go_wp2_with fail
  go_ret
  exact ⟨_, rfl, rfl, k0⟩
set_option maxRecDepth 100000 in
set_option maxHeartbeats 4000000 in
theorem sFree_of {p : Pr} {l : List Int} {W : Int} {n : Nat} (g : Fg p l W) (hn : n ≤ 2) (hR : SFree p l W n) : SFree p l W (n + 1) := by
  intro A B v wv s w hp hw hsl
  have hb := g.pr.bnd
  have hm4 := hb.1
  have hsv4 := hb.2.1
  have hv := hp
  obtain ⟨mv, sv, rfl, hm, hsv⟩ := hp
  obtain ⟨ma, mc, rfl⟩ := hm.shape
  obtain ⟨sa, sc, rfl⟩ := hsv.shape
  obtain ⟨wa, wc, rfl, _⟩ := id hw
  obtain ⟨mb, mo, rfl⟩ := hm.at0 hb.1.1
  obtain ⟨sb, so, rfl⟩ := hsv.at0 hb.2.1.1
  have hne : (((n + 1 : Nat) : Int) == 0) = false := beq_eq_false_iff_ne.2 (by omega)
  have hwn : IntKind.i64.wrap (((n + 1 : Nat) : Int) - 1) = (n : Int) := by rw [IntWalk.i64_in _ (by omega)]; omega
  obtain ⟨N1, hN1⟩ : ∃ N1 : Int, ((n + 1 : Nat) : Int) = N1 := ⟨_, rfl⟩
  rw [hN1] at hne hwn ⊢
  have hsum := Lib.hid (fun (W' : World) (k : Chg No w W') => l11Sum_any B _ l W' (hw.keep k) (fun j hj => by
    have := sumTo_bound (g := fun a => l.getD a 0) (B := 9) (m := l.length) (fun i hi => g.w9 i hi) j hj
    have := g.len
    omega))
  go_enter Try.func64, Try.ntmps64
  go_wp2_with fail
  refine bx1 (R := fun W => Calls _ _ _ W _) (fun W0 k0 b0 => ?_)
  refine (hsum.out W0 k0).mono ?_
  rintro e w1 ⟨rfl, rfl⟩
  rw [g.sum]
  clear hsum
  go_wp2_with fail
  refine (l11Power_any36 W n W0 g.W0 (by omega)).mono ?_
  rintro e w1 ⟨rfl, rfl⟩
  obtain ⟨P, hP⟩ : ∃ P, W ^ n = P := ⟨_, rfl⟩
  rw [hP]
  have HP := Lib.hid hP
  clear hP hN1
  go_wp2_with fail
  go_loopw [9, 11] (fun t z wr => ∃ r : Nat, r ≤ p.sv.length ∧ z = .int .i64 (r : Int) ∧ t = .int .i64 (sumK (fG p (wOf l) W n s) r) ∧ Chg No W0 wr) (fun _ z _ => p.sv.length - (intOf z).toNat)
  case atStart => exact ⟨0, Nat.zero_le _, rfl, rfl, Chg.refl _ _⟩
  case round =>
    obtain ⟨r, hr, rfl, rfl, kr⟩ := hrel
    have hr0 : (0 : Int) ≤ (r : Int) := Int.natCast_nonneg _
    have b0 := b0.keep kr
    have g0 := b0.c 0 _ rfl
    have g1 := b0.c 1 _ rfl
    have kkr := k0.keep kr
    by_cases hlt : r < p.sv.length
    · have hr1 : (r : Int) < (p.sv.length : Int) := by omega
      have hwr : IntKind.i64.wrap ((r : Int) + 1) = (r : Int) + 1 := IntWalk.i64_in _ (by omega)
      obtain ⟨wo, hwo⟩ : ∃ wo : World, wo = wr := ⟨_, rfl⟩
      go_wp2_with fail
      rw [← hwo] at b0 kkr kr ⊢
      clear hwo g0 g1
      go_loopw [12, 13] (fun lv z wr => ∃ j : Nat, j ≤ p.mv.length ∧ z = .int .i64 (j : Int) ∧ lv = .int .i64 (bl (okA p r) (fF p (wOf l) W n s r) j).2 ∧ Chg No wo wr) (fun _ z _ => p.mv.length - (intOf z).toNat)
      case atStart => exact ⟨0, Nat.zero_le _, rfl, rfl, Chg.refl _ _⟩
      case round =>
        obtain ⟨j, hj, rfl, rfl, kq⟩ := hrel
        have hj0 : (0 : Int) ≤ (j : Int) := Int.natCast_nonneg _
        have b0 := b0.keep kq
        have g0 := b0.c 0 _ rfl
        have g1 := b0.c 1 _ rfl
        have kkq := kkr.keep kq
        have hbd := bdF_le (show n ≤ 3 by omega)
        have hpl := pow36_le (show n ≤ 3 by omega)
        have hp0 : (0 : Int) ≤ 36 ^ n := Int.pow_nonneg (by omega)
        have hfi : ∀ s', s' < p.mv.length → okA p r s' = true → 0 ≤ fF p (wOf l) W n s r s' ∧ fF p (wOf l) W n s r s' ≤ 22208256 := fun s' hs' ho => by
          have h3 := g.sc (n := n) (by omega) hsl hs' hlt ho
          have h4 := g.free_in n (by omega) s' hs'
          unfold fF
          omega
        have hbi := bl_in2 (C := 22208256) (by omega) j (fun s' hs' => hfi s' (by omega))
        have HFI := Lib.hid hfi
        clear hfi
        have HS : Hid (bl (okA p r) (fF p (wOf l) W n s r) (j + 1) = if okA p r j && (decide ((bl (okA p r) (fF p (wOf l) W n s r) j).2 < 0) || decide (fF p (wOf l) W n s r j < (bl (okA p r) (fF p (wOf l) W n s r) j).2)) then (j, fF p (wOf l) W n s r j) else bl (okA p r) (fF p (wOf l) W n s r) j) := Lib.hid rfl
        obtain ⟨bb, hbb⟩ : ∃ bb, bl (okA p r) (fF p (wOf l) W n s r) j = bb := ⟨_, rfl⟩
        obtain ⟨bs, lv⟩ := bb
        rw [hbb] at HS hbi ⊢
        simp only at hbi
        have HBB := Lib.hid hbb
        clear hbb
        by_cases hlj : j < p.mv.length
        · have hj1 : (j : Int) < (p.mv.length : Int) := by omega
          have hwj : IntKind.i64.wrap ((j : Int) + 1) = (j : Int) + 1 := IntWalk.i64_in _ (by omega)
          obtain ⟨rb, ro, rc, hbs, hcr, hrr⟩ := (hsv.keep kkq).rowAt hlt (hb.2.2.2.1 r hlt) hb.1.1
          have hrj := hrr.at1 (j := j) (by rw [hb.2.2.2.1 r hlt]; exact hlj)
          have HO : Hid (okA p r j = decide (0 ≤ svA p r j)) := Lib.hid rfl
          obtain ⟨d, hd⟩ : ∃ d, svA p r j = d := ⟨_, rfl⟩
          rw [show (p.sv.getD r []).getD j 0 = d from hd] at hrj
          rw [hd] at HO
          by_cases hok : 0 ≤ d
          · have hok' : okA p r j = true := by rw [HO.out]; exact decide_eq_true hok
            rw [hok', Bool.true_and] at HS
            have hs1 : (s : Int) < (p.mv.length : Int) := by omega
            have hs0 : (0 : Int) ≤ (s : Int) := Int.natCast_nonneg _
            obtain ⟨xb, xo, xc, hbm, hcx, hxx⟩ := (hm.keep kkq).rowAt hsl (hb.2.2.1 s hsl) hb.1.1
            have hxj := hxx.at1 (j := j) (by rw [hb.2.2.1 s hsl]; exact hlj)
            have i1 := g.cs hsl hlj hlt hok'
            have i2 := g.sc (n := n) (by omega) hsl hlj hlt hok'
            have i3 := g.free_in n (by omega) j hlj
            have i4 := HFI.out j hlj hok'
            have hF : fF p (wOf l) W n s r j = W ^ n * (mvA p s j + svA p r j) + free p (wOf l) W n j := rfl
            have HA0 := Lib.hid (fun (W' : World) (k : Chg No wr W') => hR A B _ _ j W' (hv.keep (kkq.keep k)) (hw.keep (kkq.keep k)) hlj)
            obtain ⟨cc, hcc⟩ : ∃ cc, fF p (wOf l) W n s r j = cc := ⟨_, rfl⟩
            obtain ⟨m, hm'⟩ : ∃ m, mvA p s j = m := ⟨_, rfl⟩
            obtain ⟨u, hu⟩ : ∃ u, free p (wOf l) W n j = u := ⟨_, rfl⟩
            rw [show (p.mv.getD s []).getD j 0 = m from hm'] at hxj
            rw [hcc] at HS hF i4
            rw [hm', hd] at i1 i2 hF
            rw [HP.out] at i2 hF
            rw [hu] at i3 hF HA0
            have hw2 : IntKind.i64.wrap (m + d) = m + d := IntWalk.i64_in _ (by omega)
            obtain ⟨q, hq'⟩ : ∃ q, P * (m + d) = q := ⟨_, rfl⟩
            rw [hq'] at i2 hF
            have hw3 : IntKind.i64.wrap (P * (m + d)) = q := by rw [hq']; exact IntWalk.i64_in _ (by omega)
            have hw4 : IntKind.i64.wrap (q + u) = cc := by rw [IntWalk.i64_in _ (by omega)]; exact hF.symm
            clear hd hcc hm' hu hF i1 i2 i3 hq' hok' hbd hpl hp0
            go_wp2_with fail
            refine wp_region_C (by kernel_rfl) (by kernel_rfl) (fun σ _ F hF hcl => ?_)
            have d0 := fun n => (b0.keep (hF n)).c 0 _ rfl
            have d1 := fun n => (b0.keep (hF n)).c 1 _ rfl
            have d4 := fun n => ((hF n).cellD sb (so + r) hbs (fun e => e)).trans hcr
            have d5 := fun n => ((hF n).cellD mb (mo + s) hbm (fun e => e)).trans hcx
            have d6 := fun n => ((hF n).cellD rb (ro + j) (hrr.lt (by rw [hb.2.2.2.1 r hlt]; omega)) (fun e => e)).trans hrj
            have d7 := fun n => ((hF n).cellD xb (xo + j) (hxx.lt (by rw [hb.2.2.1 s hsl]; omega)) (fun e => e)).trans hxj
            have HA := Lib.hid (fun n => HA0.out (F n) (hF n))
            clear g0 g1 hcr hcx hrj hxj HA0 hrr hxx
            repeat (go_big_quiet_step ((go_at_call 64; exact fam_ret hcl (HA.out _))))
            refine wpQuiet_nil ?_
            rintro _ ⟨nq, rfl⟩
            have kr1 := kq.keep (hF nq)
            clear d0 d1 d4 d5 d6 d7 HA hcl
            generalize F nq = W' at kr1 ⊢
            by_cases hl0 : lv < 0
            · rw [decide_eq_true hl0, Bool.true_or, if_pos rfl] at HS
              go_wp2_with fail
              go_round
              case rel => exact ⟨j + 1, hlj, by go_num, by rw [HS.out], kr1⟩
              case measure => simp [intOf]; omega
            · rw [decide_eq_false hl0, Bool.false_or] at HS
              by_cases hcl : cc < lv
              · rw [decide_eq_true hcl, if_pos rfl] at HS
                go_wp2_with fail
                go_round
                case rel => exact ⟨j + 1, hlj, by go_num, by rw [HS.out], kr1⟩
                case measure => simp [intOf]; omega
              · rw [decide_eq_false hcl, if_neg Bool.false_ne_true] at HS
                go_wp2_with fail
                go_round
                case rel => exact ⟨j + 1, hlj, by go_num, by rw [HS.out], kr1⟩
                case measure => simp [intOf]; omega
          · rw [show okA p r j = false by rw [HO.out]; exact decide_eq_false hok, Bool.false_and, if_neg Bool.false_ne_true] at HS
            clear hd hrr
            go_wp2_with fail
            go_round
            case rel => exact ⟨j + 1, hlj, by go_num, by rw [HS.out], kq⟩
            case measure => simp [intOf]; omega
        · have hje : j = p.mv.length := by omega
          subst hje
          obtain ⟨wb, wof, hwa, hwc⟩ : ∃ wb wof, wa = some ⟨wb, wof, none⟩ ∧ wr.cell? ⟨wb, wof + r, none⟩ = some (.int .i64 (l.getD r 0)) := by
            obtain ⟨a', cap', he, _, _, _, _, hc⟩ := hw.keep kkq
            simp only [Value.slice.injEq] at he
            obtain ⟨rfl, _, rfl⟩ := he
            obtain ⟨wb, wof, rfl, _, _, hcell⟩ := hc (by intro e; have := g.len; simp [e] at this; omega)
            exact ⟨wb, wof, rfl, hcell r (by rw [g.len]; exact hlt)⟩
          subst hwa
          have h9 := g.w9 r (by rw [g.len]; exact hlt)
          have hrl : (r : Int) < (l.length : Int) := by have := g.len; omega
          have HG : Hid (sumK (fG p (wOf l) W n s) (r + 1) = sumK (fG p (wOf l) W n s) r + l.getD r 0 * lv) := Lib.hid (by
            show sumK (fG p (wOf l) W n s) r + l.getD r 0 * (bl (okA p r) (fF p (wOf l) W n s r) p.mv.length).2 = _
            rw [HBB.out])
          have hT := sumK_in (f := fG p (wOf l) W n s) (C := 199874304) (by omega) r (fun i hi => by
            have hfi : ∀ s', s' < p.mv.length → okA p i s' = true → 0 ≤ fF p (wOf l) W n s i s' ∧ fF p (wOf l) W n s i s' ≤ 22208256 := fun s' hs' ho => by
              have h3 := g.sc (n := n) (by omega) hsl hs' (show i < p.sv.length by omega) ho
              have h4 := g.free_in n (by omega) s' hs'
              unfold fF
              omega
            have hb2 := bl_in2 (C := 22208256) (by omega) p.mv.length hfi
            have h9 := g.w9 i (by rw [g.len]; omega)
            have h10 : fG p (wOf l) W n s i = l.getD i 0 * (bl (okA p i) (fF p (wOf l) W n s i) p.mv.length).2 := rfl
            have h11 := mul9 h9 hb2
            rw [h10]; omega)
          have h11 := mul9 h9 hbi
          obtain ⟨sm, hsm⟩ : ∃ sm, sumK (fG p (wOf l) W n s) r = sm := ⟨_, rfl⟩
          rw [hsm] at HG hT ⊢
          obtain ⟨y, hy⟩ : ∃ y, l.getD r 0 = y := ⟨_, rfl⟩
          rw [hy] at HG h11 hwc
          have hw5 : IntKind.i64.wrap (y * lv) = y * lv := IntWalk.i64_in _ (by omega)
          have hw6 : IntKind.i64.wrap (sm + y * lv) = sm + y * lv := IntWalk.i64_in _ (by omega)
          clear hsm hy hbd hpl hp0 h9
          go_wp2_with fail
          go_round
          case rel => exact ⟨r + 1, by omega, by go_num, by rw [HG.out], kr.keep kq⟩
          case measure => simp [intOf]; omega
    · have hre : r = p.sv.length := by omega
      subst hre
      go_wp2_with fail
      go_ret
      exact ⟨_, rfl, rfl, kkr⟩
theorem sFree_all {p : Pr} {l : List Int} {W : Int} (g : Fg p l W) : ∀ n, n ≤ 3 → SFree p l W n
  | 0, _ => sFree_zero
  | n + 1, h => sFree_of g (by omega) (sFree_all g n (by omega))
end Go.Proofs.Ytndhijckbponkaa
