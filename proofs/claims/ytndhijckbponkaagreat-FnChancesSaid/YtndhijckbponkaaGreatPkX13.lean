import Derived.Test.YtndhijckbponkaaGreatPi
import Derived.Test.YtndhijckbponkaaGreatPe
import Derived.Test.YtndhijckbponkaaGreatPkX12
import Derived.Test.YtndhijckbponkaaGreatJd
import Derived.Test.YtndhijckbponkaaGreatPkX8
import Derived.Test.YtndhijckbponkaaGreatPkX3
import Derived.ChangeKeysEq
import Derived.Test.YtndhijckbponkaaGreatJa
/- the work function: the reference's walk -/
namespace Go.Proofs.YtndhijckbponkaaGreat
open Go.RowKit

/-- a work function as a row of numbers -/
def WkP (p : Pr) (f : Nat → Int) (l : List Int) : Prop := l.length = p.mv.length ∧ ∀ t, t < p.mv.length → l.getD t 0 = f t
def wkG (p : Pr) (f : Nat → Int) (r t : Nat) : Nat → Int := fun s => f s + svA p r s + mvA p s t
theorem nextW_G (p : Pr) (f : Nat → Int) (r t : Nat) : nextW p f r t = (bl (okA p r) (wkG p f r t) p.mv.length).2 := rfl
theorem bl_inD {ok : Nat → Bool} {g : Nat → Int} {D : Int} (hD : 0 ≤ D) : ∀ m, (∀ s, s < m → ok s = true → 0 ≤ g s ∧ g s ≤ D) → -1 ≤ (bl ok g m).2 ∧ (bl ok g m).2 ≤ D
  | 0, _ => by simp [bl]; omega
  | m + 1, h => by
    have ih := bl_inD hD m (fun s hs ho => h s (by omega) ho)
    unfold bl
    split
    · rename_i hc
      rw [Bool.and_eq_true] at hc
      have := h m (by omega) hc.1
      simp only
      omega
    · exact ih
theorem wkG_in {p : Pr} (hp : PrP p) {f : Nat → Int} {C : Int} (hf : ∀ t, t < p.mv.length → 0 ≤ f t ∧ f t ≤ C) {r s t : Nat} (hr : r < p.sv.length) (hs : s < p.mv.length) (ht : t < p.mv.length) (ho : okA p r s = true) : 0 ≤ wkG p f r t s ∧ wkG p f r t s ≤ C + 119 := by
  have h1 := hf s hs
  have h2 := hp.mv_in hs ht
  have h3 : 0 ≤ svA p r s := by unfold okA at ho; exact of_decide_eq_true ho
  have h4 := ((hp.2.2.2 r hr).2.1 s hs).2
  unfold wkG
  omega
theorem nextW_in {p : Pr} (hp : PrP p) {f : Nat → Int} {C : Int} (hC : 0 ≤ C) (hf : ∀ t, t < p.mv.length → 0 ≤ f t ∧ f t ≤ C) {r : Nat} (hr : r < p.sv.length) : ∀ t, t < p.mv.length → 0 ≤ nextW p f r t ∧ nextW p f r t ≤ C + 119 := fun t ht =>
  ⟨nextW_nn hp.prB (fun x hx => (hf x hx).1) hr ht, (bl_inD (by omega) _ (fun s hs ho => wkG_in hp hf hr hs ht ho)).2⟩
def wkL (_p : Pr) (f : Nat → Int) (l : List Int) (j : Nat) : Prop := l.length = j ∧ ∀ t, t < j → l.getD t 0 = f t
theorem wkL.snoc {p : Pr} {f : Nat → Int} {l : List Int} {j : Nat} (h : wkL p f l j) {x : Int} (hx : f j = x) : wkL p f (l ++ [x]) (j + 1) := by
  refine ⟨by rw [List.length_append, h.1]; rfl, fun k hk => ?_⟩
  by_cases e : k < j
  · rw [List.getD_eq_getElem?_getD, List.getElem?_append_left (by rw [h.1]; exact e), ← List.getD_eq_getElem?_getD]
    exact h.2 k e
  · have ek : k = j := by omega
    subst ek
    rw [List.getD_eq_getElem?_getD, List.getElem?_append_right (by rw [h.1]; exact Nat.le_refl _), h.1, Nat.sub_self, hx]
    rfl
theorem bl_step (ok : Nat → Bool) (g : Nat → Int) (s : Nat) : (bl ok g (s + 1)).2 = if ok s && (decide ((bl ok g s).2 < 0) || decide (g s < (bl ok g s).2)) then g s else (bl ok g s).2 := by
  conv => lhs; unfold bl
  split <;> rfl
set_option maxRecDepth 100000 in
set_option maxHeartbeats 2000000 in
theorem l8Next_any (A B : Nat → Prop) (v wv : Value) (p : Pr) (f : Nat → Int) (C : Int) (l : List Int) (r : Nat) (w : World) (hp : PrP p) (h : RPr A w v p) (hw : RI B w wv l) (hl : WkP p f l) (hf : ∀ t, t < p.mv.length → 0 ≤ f t ∧ f t ≤ C) (hC : C ≤ 1000000) (hC0 : 0 ≤ C) (hr : r < p.sv.length) :
    Calls Tryz.prog 153 #[v, wv, .int .i64 (r : Int)] w (Ret fun v' w' => ∃ l', OI w.heap.size w' v' l' ∧ WkP p (nextW p f r) l' ∧ Chg No w w') := by
  obtain ⟨mv, sv, rfl, hm, hs⟩ := h
  obtain ⟨ma, mc, rfl⟩ := hm.shape
  obtain ⟨sa, sc, rfl⟩ := hs.shape
  obtain ⟨wa, wc, rfl, _⟩ := id hw
  have HP := Lib.hid hp
  have HLG := Lib.hid hl
  have HF := Lib.hid hf
  rw [hl.1] at hw ⊢
  have hpl : p.mv.length ≤ 4 := hp.1.2
  have hr0 : (0 : Int) ≤ (r : Int) := Int.natCast_nonneg _
  have hr1 : (r : Int) < (p.sv.length : Int) := by omega
  have b0 := BoxN.new w #[.slice ma p.mv.length mc, .slice sa p.sv.length sc] 26
  have k0 := (Chg.refl No w).alloc (.cells #[.slice ma p.mv.length mc, .slice sa p.sv.length sc] 26)
  have z0 : (w.alloc (.cells #[.slice ma p.mv.length mc, .slice sa p.sv.length sc] 26)).heap.size = w.heap.size + 1 := World.size_alloc _ _
  obtain ⟨R0, hR0⟩ : ∃ R, w.heap.size = R := ⟨_, rfl⟩
  rw [hR0] at b0 z0
  obtain ⟨W0, hW0⟩ : ∃ W, w.alloc (.cells #[.slice ma p.mv.length mc, .slice sa p.sv.length sc] 26) = W := ⟨_, rfl⟩
  rw [hW0] at b0 k0 z0
  have k1 := (Chg.refl No W0).alloc (.cells #[] 3)
  have oz := OI.zero (base := R0 + 1) (w := W0) (Nat.le_of_eq z0.symm)
  rw [z0] at oz
  have kk := k0.trans k1
  have bb := b0.keep k1
  have HRS := Lib.hid hR0
  obtain ⟨sb, so, ua, uc, rfl, hsb, hcs, hur⟩ := hs.row hr
  have hsl : (p.sv.getD r []).length = p.mv.length := hp.svq hr
  rw [hsl] at hcs
  clear hp b0 k0 k1 hl hf
  go_enter Tryz.func153, Tryz.ntmps153
  go_wp2_with fail
  generalize W0.alloc _ = W1 at oz kk bb ⊢
  clear hW0 hR0 z0
  go_loopw [7, 8] (fun o z wr => ∃ (t : Nat) (l' : List Int), t ≤ p.mv.length ∧ z = .int .i64 (t : Int) ∧ OI (R0 + 1) wr o l' ∧ Hid (wkL p (nextW p f r) l' t) ∧ R0 + 1 ≤ wr.heap.size ∧ Chg No w wr ∧ BoxN wr R0 [.slice ma p.mv.length mc, .slice (some ⟨sb, so, none⟩) p.sv.length sc]) (fun _ z _ => p.mv.length - (intOf z).toNat)
  case atStart => exact ⟨0, [], Nat.zero_le _, rfl, oz, Lib.hid ⟨rfl, fun t ht => absurd ht (Nat.not_lt_zero t)⟩, by have := bb.lt; omega, kk, bb⟩
  case round =>
    clear oz kk bb
    obtain ⟨t, l', ht, rfl, ho, HL, hzr, kr, bb⟩ := hrel
    have ht0 : (0 : Int) ≤ (t : Int) := Int.natCast_nonneg _
    obtain ⟨oa, oc, rfl, _⟩ := ho.view
    rw [HL.out.1] at ho ⊢
    by_cases hlt : t < p.mv.length
    · have ht1 : (t : Int) < (p.mv.length : Int) := by omega
      have hwt : IntKind.i64.wrap ((t : Int) + 1) = (t : Int) + 1 := IntWalk.i64_in _ (by omega)
      obtain ⟨wo, hwo⟩ : ∃ wo : World, wo = wr := ⟨_, rfl⟩
      go_wp2_with fail
      rw [← hwo] at ho hzr kr bb ⊢
      clear hwo
      go_loopw [9, 10] (fun c z wi => ∃ s : Nat, s ≤ p.mv.length ∧ z = .int .i64 (s : Int) ∧ c = .int .i64 (bl (okA p r) (wkG p f r t) s).2 ∧ Chg No wo wi) (fun _ z _ => p.mv.length - (intOf z).toNat)
      case atStart => exact ⟨0, Nat.zero_le _, rfl, rfl, Chg.refl _ _⟩
      case round =>
        obtain ⟨s, hs', rfl, rfl, ki⟩ := hrel
        have hs0 : (0 : Int) ≤ (s : Int) := Int.natCast_nonneg _
        have hbi := bl_inD (show (0 : Int) ≤ C + 119 by omega) s (fun x hx hox => wkG_in HP.out HF.out hr (show x < p.mv.length by omega) hlt hox)
        have HBS := Lib.hid (bl_step (okA p r) (wkG p f r t) s)
        obtain ⟨c, hc⟩ : ∃ c, (bl (okA p r) (wkG p f r t) s).2 = c := ⟨_, rfl⟩
        rw [hc] at hbi HBS
        by_cases hst : s < p.mv.length
        · have hs1 : (s : Int) < (p.mv.length : Int) := by omega
          have hws : IntKind.i64.wrap ((s : Int) + 1) = (s : Int) + 1 := IntWalk.i64_in _ (by omega)
          have kri := kr.keep ki
          obtain ⟨ub, uf, rfl, hub, hcu⟩ := hur.cellN (j := s) (by rw [hsl]; exact hst)
          obtain ⟨y, hy⟩ : ∃ y, svA p r s = y := ⟨_, rfl⟩
          rw [show (p.sv.getD r []).getD s 0 = y from hy] at hcu
          have g0 := (bb.keep ki).c 0 _ rfl
          have g1 := (bb.keep ki).c 1 _ rfl
          have g2 := (kri.cellD sb (so + r) hsb (fun e => e)).trans hcs
          have g3 := (kri.cellD ub (uf + s) hub (fun e => e)).trans hcu
          rw [hc]
          by_cases hyn : y < 0
          · have hok : okA p r s = false := by unfold okA; rw [hy]; exact decide_eq_false (by omega)
            rw [hok, Bool.false_and] at HBS
            clear hc hy hok
            go_wp2_with fail
            go_round
            case rel => exact ⟨s + 1, hst, by go_num, by rw [HBS.out]; rfl, ki⟩
            case measure => simp [intOf]; omega
          · have hok : okA p r s = true := by unfold okA; rw [hy]; exact decide_eq_true (by omega)
            rw [hok, Bool.true_and] at HBS
            have hgi := wkG_in HP.out HF.out hr hst hlt hok
            obtain ⟨wb, wf, rfl, hwb, hcw⟩ := hw.cellN (j := s) (by rw [HLG.out.1]; exact hst)
            rw [HLG.out.2 s hst] at hcw
            obtain ⟨mb, mf, xa, xc, rfl, hmb, hcm, hxr⟩ := hm.row hst
            have hml : (p.mv.getD s []).length = p.mv.length := HP.out.2.1.2.1 s hst
            obtain ⟨xb, xf, rfl, hxb, hcx⟩ := hxr.cellN (j := t) (by rw [hml]; exact hlt)
            rw [hml] at hcm
            have hfi := HF.out s hst
            have hmi := HP.out.mv_in hst hlt
            have hyi := ((HP.out.2.2.2 r hr).2.1 s hst).2
            rw [hy] at hyi
            obtain ⟨a, ha⟩ : ∃ a, f s = a := ⟨_, rfl⟩
            obtain ⟨u, hu⟩ : ∃ u, mvA p s t = u := ⟨_, rfl⟩
            rw [show (p.mv.getD s []).getD t 0 = u from hu] at hcx
            rw [ha] at hcw hfi
            rw [hu] at hmi
            have hg : wkG p f r t s = a + y + u := by unfold wkG; rw [ha, hy, hu]
            rw [hg] at HBS hgi
            have hw1 : IntKind.i64.wrap (a + y) = a + y := IntWalk.i64_in _ (by omega)
            have hw2 : IntKind.i64.wrap (a + y + u) = a + y + u := IntWalk.i64_in _ (by omega)
            have g4 := (kri.cellD wb (wf + s) hwb (fun e => e)).trans hcw
            have g5 := (kri.cellD mb (mf + s) hmb (fun e => e)).trans hcm
            have g6 := (kri.cellD xb (xf + t) hxb (fun e => e)).trans hcx
            have g7 := (ki.keep ((Chg.refl No wr).drewN 0))
            clear hc hy hok hg hu ha hxr hml hcm hcx hcw
            by_cases hcn : c < 0
            · rw [decide_eq_true hcn, Bool.true_or, if_pos rfl] at HBS
              go_wp2_with fail
              go_quiet (fail)
              go_wp2_with fail
              go_round
              case rel => exact ⟨s + 1, hst, by go_num, by rw [HBS.out], ki.keep ((Chg.refl No wr).drewN nq)⟩
              case measure => simp [intOf]; omega
            · by_cases hlc : a + y + u < c
              · rw [decide_eq_true hlc, Bool.or_true, if_pos rfl] at HBS
                go_wp2_with fail
                go_quiet (fail)
                go_wp2_with fail
                go_round
                case rel => exact ⟨s + 1, hst, by go_num, by rw [HBS.out], ki.keep ((Chg.refl No wr).drewN nq)⟩
                case measure => simp [intOf]; omega
              · rw [decide_eq_false hlc, decide_eq_false hcn, Bool.or_false, if_neg Bool.false_ne_true] at HBS
                go_wp2_with fail
                go_quiet (fail)
                go_wp2_with fail
                go_round
                case rel => exact ⟨s + 1, hst, by go_num, by rw [HBS.out], ki.keep ((Chg.refl No wr).drewN nq)⟩
                case measure => simp [intOf]; omega
        · have hse : s = p.mv.length := by omega
          subst hse
          have HL' := Lib.hid (HL.out.snoc (show nextW p f r t = c from hc))
          have hl9 : l'.length < 17592186044416 := by have := HL.out.1; omega
          rw [hc]
          replace ho := ho.keep ki
          replace hzr := Nat.le_trans hzr ki.size
          replace kr := kr.keep ki
          replace bb := bb.keep ki
          clear hc ki
          go_wp2_with (at_builtin; refine wapp1 rfl (.tmp 64) (.tmp 66) rfl ho rfl rfl hl9 hzr ?_)
          intro v3 w3 h3 k3 f3
          have kr3 := kr.step k3 (fun q hq hlt => by have := (ho.lt q hq).1; have := HRS.out; omega)
          have bb3 := bb.step k3 (fun e => by have := (ho.lt _ e).1; omega)
          have hz3 := Nat.le_trans hzr k3.size
          clear ho kr bb k3 f3 hzr
          go_wp2_with fail
          go_round
          case rel => exact ⟨t + 1, l' ++ [c], hlt, by go_num, h3, HL', hz3, kr3, bb3⟩
          case measure => simp [intOf]; omega
    · have hte : t = p.mv.length := by omega
      subst hte
      have HF2 := Lib.hid (And.intro (ho.weak (show w.heap.size ≤ R0 + 1 by have := HRS.out; omega)) (And.intro HL.out kr))
      clear ho kr
      go_wp2_with fail
      go_ret
      exact ⟨_, rfl, l', HF2.out.1, HF2.out.2.1, HF2.out.2.2⟩
end Go.Proofs.YtndhijckbponkaaGreat

/- requests drawn each for itself, plain -/
namespace Go.Proofs.YtndhijckbponkaaGreat

/-- the least expected cost of n more requests that are drawn each for itself -/
def free (p : Pr) (ws : Nat → Int) (W : Int) : Nat → Nat → Int
  | 0, _ => 0
  | n + 1, s => sumK (fun r => ws r * (bl (okA p r) (fun s' => W ^ n * (mvA p s s' + svA p r s') + free p ws W n s') p.mv.length).2) p.sv.length
end Go.Proofs.YtndhijckbponkaaGreat
