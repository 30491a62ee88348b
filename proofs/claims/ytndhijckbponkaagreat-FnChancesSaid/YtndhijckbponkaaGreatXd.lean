import Derived.Test.YtndhijckbponkaaGreatXc
import Derived.Test.YtndhijckbponkaaGreatPk
import Derived.Test.YtndhijckbponkaaGreatRv
/- the work function: the program's walk -/
namespace Go.Proofs.YtndhijckbponkaaGreat
open Go.RowKit

/-- the row of the work function while the state at j is being read, t of its numbers already for j + 1 -/
def nwP (p : Pr) (f : Nat → Int) (r : Nat) (L : List Int) (j t : Nat) (l : List Int) : Prop :=
  l.length = p.mv.length ∧ ∀ y, y < p.mv.length → l.getD y 0 = (blL (wkG p f r y) 1073741824 (L.take (if y < t then j + 1 else j))).2
theorem blL_min (f : Nat → Int) (far : Int) (l : List Int) (k : Nat) (h : k < l.length) : (blL f far (l.take (k + 1))).2 = min (blL f far (l.take k)).2 (f (l.getD k 0).toNat) := by
  rw [blL_snoc f far l k h]
  unfold blS
  split
  · simp only; omega
  · omega
theorem nwP.put {p : Pr} {f : Nat → Int} {r : Nat} {L : List Int} {j t : Nat} {l : List Int} (h : nwP p f r L j t l) {x : Int} (hx : (blL (wkG p f r t) 1073741824 (L.take (j + 1))).2 = x) (ht : t < p.mv.length) : nwP p f r L j (t + 1) (l.set t x) := by
  refine ⟨by rw [List.length_set, h.1], fun y hy => ?_⟩
  by_cases e : y = t
  · subst e
    rw [List.getD_eq_getElem?_getD, List.getElem?_set_self (by rw [h.1]; exact ht), if_pos (Nat.lt_succ_self y), hx]; rfl
  · rw [List.getD_eq_getElem?_getD, List.getElem?_set_ne (fun h => e h.symm), ← List.getD_eq_getElem?_getD, h.2 y hy]
    by_cases e2 : y < t
    · rw [if_pos e2, if_pos (by omega)]
    · rw [if_neg e2, if_neg (by omega)]
theorem nwP.next {p : Pr} {f : Nat → Int} {r : Nat} {L : List Int} {j : Nat} {l : List Int} (h : nwP p f r L j p.mv.length l) : nwP p f r L (j + 1) 0 l :=
  ⟨h.1, fun y hy => by rw [h.2 y hy, if_pos hy, if_neg (Nat.not_lt_zero y)]⟩
theorem nwP.start (p : Pr) (f : Nat → Int) (r : Nat) (L : List Int) : nwP p f r L 0 0 (List.replicate p.mv.length 1073741824) :=
  ⟨List.length_replicate .., fun y hy => by rw [if_neg (Nat.not_lt_zero y), List.getD_eq_getElem?_getD, List.getElem?_replicate, if_pos hy]; rfl⟩
theorem nwP.done {p : Pr} (hp : PrP p) {f : Nat → Int} {C : Int} (hf : ∀ t, t < p.mv.length → 0 ≤ f t ∧ f t ≤ C) (hC : C ≤ 1000000) {r : Nat} (hr : r < p.sv.length) {l : List Int} (h : nwP p f r (svd (okA p r) p.mv.length) (svd (okA p r) p.mv.length).length 0 l) : WkP p (nextW p f r) l := by
  refine ⟨h.1, fun t ht => ?_⟩
  rw [h.2 t ht, if_neg (Nat.not_lt_zero t), List.take_length, blL_svd, nextW_G]
  have hn := (nextW_in hp (C := C) (by have := hf t ht; omega) hf hr t ht).1
  rw [nextW_G] at hn
  rcases blI_eq (ok := okA p r) (f := wkG p f r t) (far := 1073741824) p.mv.length (fun s hs ho => by have := wkG_in hp hf hr hs ht ho; omega) with ⟨_, _, h3⟩ | ⟨_, _, h3⟩
  · rw [h3] at hn; simp at hn
  · rw [h3]
theorem nwP.cur {p : Pr} (hp : PrP p) {f : Nat → Int} {C : Int} (hf : ∀ t, t < p.mv.length → 0 ≤ f t ∧ f t ≤ C) (hC : C ≤ 1000000) {r : Nat} (hr : r < p.sv.length) {j t : Nat} (hj : j ≤ (svd (okA p r) p.mv.length).length) (ht : t < p.mv.length) : 0 ≤ (blL (wkG p f r t) 1073741824 ((svd (okA p r) p.mv.length).take j)).2 ∧ (blL (wkG p f r t) 1073741824 ((svd (okA p r) p.mv.length).take j)).2 ≤ 1073741824 :=
  blL_in (by omega) _ (fun x hx => by
    obtain ⟨s, rfl, hs, ho⟩ := svd_mem hx
    have := wkG_in hp hf hr hs ht ho
    rw [Int.toNat_natCast]
    omega) j hj
set_option maxRecDepth 100000 in
set_option maxHeartbeats 4000000 in
theorem nextWork_any (A B : Nat → Prop) (v wv : Value) (p : Pr) (f : Nat → Int) (C : Int) (l : List Int) (r : Nat) (w : World) (hp : PrP p) (h : RPr A w v p) (hw : RI B w wv l) (hl : WkP p f l) (hf : ∀ t, t < p.mv.length → 0 ≤ f t ∧ f t ≤ C) (hC : C ≤ 1000000) (hC0 : 0 ≤ C) (hr : r < p.sv.length) :
    Calls Tryz.prog 152 #[v, wv, .int .i64 (r : Int)] w (Ret fun v' w' => ∃ l', RI No w' v' l' ∧ WkP p (nextW p f r) l' ∧ Chg No w w') := by
  have hv := h
  obtain ⟨mv, sv, rfl, hm, hs⟩ := h
  obtain ⟨ma, mc, rfl⟩ := hm.shape
  obtain ⟨sa, sc, rfl⟩ := hs.shape
  obtain ⟨wa, wc, rfl, _⟩ := id hw
  have HP := Lib.hid hp
  have HLG := Lib.hid hl
  have HF := Lib.hid hf
  rw [hl.1] at hw ⊢
  have hpl : 1 ≤ p.mv.length ∧ p.mv.length ≤ 4 := hp.1
  obtain ⟨R0, hR0⟩ : ∃ R, w.heap.size = R := ⟨_, rfl⟩
  have HRS := Lib.hid hR0
  clear hl hp hf
  go_enter Tryz.func152, Tryz.ntmps152
  go_wp2_with fail
  refine bx2 (R := fun W => Calls _ _ _ W _) (fun W0 k0 b0 b1 => ?_)
  rw [hR0] at b0 b1
  try rw [hR0]
  refine (repeat_any (R0 + 1) 1073741824 p.mv.length W0 (b1.c 0 _ rfl) hpl.1 hpl.2).mono ?_
  rintro e w1 ⟨_, rfl, rfl, ho, k1⟩
  obtain ⟨G, hG⟩ : ∃ G, W0.heap.size = G := ⟨_, rfl⟩
  have hGR : R0 + 1 < G := by rw [← hG]; exact b1.lt
  rw [hG] at ho ⊢
  have bb0 := b0.keep k1
  have kk := k0.keep k1
  have g0 := bb0.c 0 _ rfl
  have g1 := bb0.c 1 _ rfl
  clear b0 b1 k0 k1 hG hR0
  go_wp2_with fail
  refine (served_any A _ p r w1 (hv.keep kk) HP.out.bnd hr).mono ?_
  rintro e w2 ⟨_, rfl, hsv, k2⟩
  have ho2 := ho.keep k2
  have bb2 := bb0.keep k2
  have kk2 := kk.keep k2
  have hGw : G < w1.heap.size := (ho.lt G rfl).2
  have hsv' : RI (fun q => q = G) w2 _ _ := hsv.read (fun k hk e => by have := (hsv.lt k hk).1; omega)
  obtain ⟨va, vc, rfl, _⟩ := id hsv'
  have HW0 : Hid (w.heap.size ≤ G) := Lib.hid (by have := HRS.out; omega)
  obtain ⟨L, hL⟩ : ∃ L, svd (okA p r) p.mv.length = L := ⟨_, rfl⟩
  have HST := Lib.hid (nwP.start p f r L)
  rw [hL] at hsv' ⊢
  have HL := Lib.hid hL
  have hL4 : L.length ≤ 4 := by rw [← hL]; have := svd_len (okA p r) p.mv.length; omega
  clear ho bb0 kk g0 g1 hsv k2 hL hGw
  go_wp2_with fail
  go_loopw [9, 10, 19] (fun _ _ z wr => ∃ (j : Nat) (l : List Int), j ≤ L.length ∧ z = .int .i64 (j : Int) ∧ OI G wr (.slice (some ⟨G, 0, none⟩) p.mv.length p.mv.length) l ∧ Hid (nwP p f r L j 0 l) ∧ Chg No w wr ∧ RI (fun q => q = G) wr (.slice va L.length vc) L ∧ BoxN wr R0 [.slice ma p.mv.length mc, .slice sa p.sv.length sc]) (fun _ _ z _ => L.length - (intOf z).toNat)
  case atStart => exact ⟨0, _, Nat.zero_le _, rfl, ho2, HST, kk2, hsv', bb2⟩
  case round =>
    clear ho2 HST kk2 hsv' bb2
    obtain ⟨j, l, hj, rfl, ho, HN, kr, hsv, bb⟩ := hrel
    have hj0 : (0 : Int) ≤ (j : Int) := Int.natCast_nonneg _
    by_cases hlt : j < L.length
    · have hj1 : (j : Int) < (L.length : Int) := by omega
      have hwj : IntKind.i64.wrap ((j : Int) + 1) = (j : Int) + 1 := IntWalk.i64_in _ (by omega)
      obtain ⟨vb, vf, rfl, hvb, hcv⟩ := hsv.cellN hlt
      have hmem : L.getD j 0 ∈ svd (okA p r) p.mv.length := by rw [HL.out, List.getD_eq_getElem?_getD, List.getElem?_eq_getElem hlt]; exact List.getElem_mem _
      obtain ⟨s, hs', hsm, hok⟩ := svd_mem hmem
      rw [hs'] at hcv
      have hsv2 := hsv
      have HSJ := Lib.hid (And.intro hs' hok)
      obtain ⟨wo, hwo⟩ : ∃ wo : World, wo = wr := ⟨_, rfl⟩
      have hml1 : (0 : Int) < (p.mv.length : Int) := by omega
      clear hmem hs' hok
      go_wp2_with fail
      rw [← hwo] at ho kr hsv bb hcv hsv2 ⊢
      clear hwo
      have ha0 : w.heap.size ≤ G := HW0.out
      have hGR0 : ¬ R0 = G := by omega
      go_loopw [10, 25] (fun _ z wi => ∃ (t : Nat) (l' : List Int), t ≤ p.mv.length ∧ z = .int .i64 (t : Int) ∧ OI G wi (.slice (some ⟨G, 0, none⟩) p.mv.length p.mv.length) l' ∧ Hid (nwP p f r L j t l') ∧ Chg No w wi ∧ Chg (fun q => q = G) wo wi ∧ BoxN wi R0 [.slice ma p.mv.length mc, .slice sa p.sv.length sc]) (fun _ z _ => p.mv.length - (intOf z).toNat)
      case atStart => exact ⟨0, l, Nat.zero_le _, rfl, ho, HN, kr, Chg.refl _ _, bb⟩
      case round =>
        clear ho HN kr bb
        obtain ⟨t, l', ht, rfl, ho, HN, kr, ki, bb⟩ := hrel
        have ht0 : (0 : Int) ≤ (t : Int) := Int.natCast_nonneg _
        by_cases htt : t < p.mv.length
        · have ht1 : (t : Int) < (p.mv.length : Int) := by omega
          have hwt : IntKind.i64.wrap ((t : Int) + 1) = (t : Int) + 1 := IntWalk.i64_in _ (by omega)
          have hs0 : (0 : Int) ≤ (s : Int) := Int.natCast_nonneg _
          have hs1 : (s : Int) < (p.mv.length : Int) := by omega
          have hr0 : (0 : Int) ≤ (r : Int) := Int.natCast_nonneg _
          have hr1 : (r : Int) < (p.sv.length : Int) := by omega
          have hcc := ho.at.1 t (by rw [HN.out.1]; exact htt)
          rw [HN.out.2 t htt, if_neg (Nat.lt_irrefl t)] at hcc
          have hci := nwP.cur HP.out HF.out hC hr (j := j) (by rw [HL.out]; exact hj) htt
          rw [HL.out] at hci
          have HMN := Lib.hid (blL_min (wkG p f r t) 1073741824 L j hlt)
          rw [HSJ.out.1, Int.toNat_natCast] at HMN
          have hgi := wkG_in HP.out HF.out hr hsm htt HSJ.out.2
          have hfi := HF.out s hsm
          have hmi := HP.out.mv_in hsm htt
          have hyi := ((HP.out.2.2.2 r hr).2.1 s hsm).2
          have hyo : 0 ≤ svA p r s := of_decide_eq_true HSJ.out.2
          obtain ⟨c, hc⟩ : ∃ c, (blL (wkG p f r t) 1073741824 (L.take j)).2 = c := ⟨_, rfl⟩
          obtain ⟨wb, wf, rfl, hwb, hcw⟩ := hw.cellN (j := s) (by rw [HLG.out.1]; exact hsm)
          rw [HLG.out.2 s hsm] at hcw
          obtain ⟨sb, so, ua, uc, rfl, hsb, hcs, hur⟩ := hs.row hr
          have hsl : (p.sv.getD r []).length = p.mv.length := HP.out.svq hr
          obtain ⟨ub, uf, rfl, hub, hcu⟩ := hur.cellN (j := s) (by rw [hsl]; exact hsm)
          rw [hsl] at hcs
          obtain ⟨mb, mf, xa, xc, rfl, hmb, hcm, hxr⟩ := hm.row hsm
          have hml : (p.mv.getD s []).length = p.mv.length := HP.out.2.1.2.1 s hsm
          obtain ⟨xb, xf, rfl, hxb, hcx⟩ := hxr.cellN (j := t) (by rw [hml]; exact htt)
          rw [hml] at hcm
          obtain ⟨a, ha⟩ : ∃ a, f s = a := ⟨_, rfl⟩
          obtain ⟨y, hy⟩ : ∃ y, svA p r s = y := ⟨_, rfl⟩
          obtain ⟨u, hu⟩ : ∃ u, mvA p s t = u := ⟨_, rfl⟩
          rw [show (p.mv.getD s []).getD t 0 = u from hu] at hcx
          rw [show (p.sv.getD r []).getD s 0 = y from hy] at hcu
          rw [ha] at hcw hfi
          rw [hu] at hmi
          rw [hy] at hyi hyo
          rw [hc] at hcc hci HMN
          have hg : wkG p f r t s = a + y + u := by unfold wkG; rw [ha, hy, hu]
          rw [hg] at HMN hgi
          have HW1 : Hid (IntKind.i64.wrap (a + y) = a + y) := Lib.hid (IntWalk.i64_in _ (by omega))
          have HW2 : Hid (IntKind.i64.wrap (a + y + u) = a + y + u) := Lib.hid (IntWalk.i64_in _ (by omega))
          have HSF : Hid (∀ W, Chg No wr W → W.cell? ⟨G, t, none⟩ = some (.int .i64 c) ∧ W.cell? ⟨wb, wf + s, none⟩ = some (.int .i64 a) ∧ W.cell? ⟨R0, 1, none⟩ = some (.slice (some ⟨sb, so, none⟩) p.sv.length sc) ∧ W.cell? ⟨sb, so + r, none⟩ = some (.slice (some ⟨ub, uf, none⟩) p.mv.length uc) ∧ W.cell? ⟨ub, uf + s, none⟩ = some (.int .i64 y) ∧ W.cell? ⟨R0, 0, none⟩ = some (.slice (some ⟨mb, mf, none⟩) p.mv.length mc) ∧ W.cell? ⟨mb, mf + s, none⟩ = some (.slice (some ⟨xb, xf, none⟩) p.mv.length xc) ∧ W.cell? ⟨xb, xf + t, none⟩ = some (.int .i64 u)) :=
            Lib.hid (fun W k => ⟨(k.cellD G t (World.block_lt_of_cell? _ _ hcc) (fun e => e)).trans hcc, ((kr.keep k).cellD wb (wf + s) hwb (fun e => e)).trans hcw, (bb.keep k).c 1 _ rfl, ((kr.keep k).cellD sb (so + r) hsb (fun e => e)).trans hcs, ((kr.keep k).cellD ub (uf + s) hub (fun e => e)).trans hcu, (bb.keep k).c 0 _ rfl, ((kr.keep k).cellD mb (mf + s) hmb (fun e => e)).trans hcm, ((kr.keep k).cellD xb (xf + t) hxb (fun e => e)).trans hcx⟩)
          clear hcc hc hcw hcs hur hcu hcm hxr hcx ha hy hu hg hsl hml
          go_wp2_with fail
          refine wp_region_K (S := fun W => W.cell? ⟨G, t, none⟩ = some (.int .i64 c) ∧ W.cell? ⟨wb, wf + s, none⟩ = some (.int .i64 a) ∧ W.cell? ⟨R0, 1, none⟩ = some (.slice (some ⟨sb, so, none⟩) p.sv.length sc) ∧ W.cell? ⟨sb, so + r, none⟩ = some (.slice (some ⟨ub, uf, none⟩) p.mv.length uc) ∧ W.cell? ⟨ub, uf + s, none⟩ = some (.int .i64 y) ∧ W.cell? ⟨R0, 0, none⟩ = some (.slice (some ⟨mb, mf, none⟩) p.mv.length mc) ∧ W.cell? ⟨mb, mf + s, none⟩ = some (.slice (some ⟨xb, xf, none⟩) p.mv.length xc) ∧ W.cell? ⟨xb, xf + t, none⟩ = some (.int .i64 u)) (k := 30) (by kernel_rfl) ?_
          have kq : Chg No wr (World.drew wr) := drewN0 _
          generalize wr.drew = W2 at kq ⊢
          have hS := HSF.out W2 kq
          replace ho := ho.keep kq
          replace kr := kr.keep kq
          replace ki := ki.keep kq
          replace bb := bb.keep kq
          have hw1 := HW1.out
          have hw2 := HW2.out
          refine wpAnyK_take0 0 (.slice (some ⟨G, 0, none⟩) p.mv.length p.mv.length) rfl (by kernel_rfl) (fun _ _ _ h => h) hS rfl (by intro w; go_simp) ?_
          simp only [List.getElem_toArray, List.getElem_cons_zero, Act.put, List.setIfInBounds_toArray, List.set_cons_zero, List.set_cons_succ]
          refine wpAnyK_take0 1 (.int .i64 (t : Int)) rfl (by kernel_rfl) (fun _ _ _ h => h) hS rfl (by intro w; go_simp) ?_
          simp only [List.getElem_toArray, List.getElem_cons_succ, List.getElem_cons_zero, Act.put, List.setIfInBounds_toArray, List.set_cons_zero, List.set_cons_succ]
          refine wpAnyK_take0 2 (.slice (some ⟨G, 0, none⟩) p.mv.length p.mv.length) rfl (by kernel_rfl) (fun _ _ _ h => h) hS rfl (by intro w; go_simp) ?_
          simp only [List.getElem_toArray, List.getElem_cons_succ, List.getElem_cons_zero, Act.put, List.setIfInBounds_toArray, List.set_cons_zero, List.set_cons_succ]
          refine wpAnyK_take0 3 (.int .i64 (t : Int)) rfl (by kernel_rfl) (fun _ _ _ h => h) hS rfl (by intro w; go_simp) ?_
          simp only [List.getElem_toArray, List.getElem_cons_succ, List.getElem_cons_zero, Act.put, List.setIfInBounds_toArray, List.set_cons_zero, List.set_cons_succ]
          refine wpAnyK_take0 4 (.pointer (some ⟨G, t, none⟩)) rfl (by kernel_rfl) (fun _ _ _ h => h) hS rfl (by intro w; go_simp) ?_
          simp only [List.getElem_toArray, List.getElem_cons_succ, List.getElem_cons_zero, Act.put, List.setIfInBounds_toArray, List.set_cons_zero, List.set_cons_succ]
          refine wpAnyK_take 5 (.int .i64 c) rfl (by kernel_rfl) (fun _ _ _ h => h) hS rfl (by intro w hSw; go_simp) ?_
          simp only [List.getElem_toArray, List.getElem_cons_succ, List.getElem_cons_zero, Act.put, List.setIfInBounds_toArray, List.set_cons_zero, List.set_cons_succ]
          refine wpAnyK_take0 6 (.slice (some ⟨wb, wf, none⟩) p.mv.length wc) rfl (by kernel_rfl) (fun _ _ _ h => h) hS rfl (by intro w; go_simp) ?_
          simp only [List.getElem_toArray, List.getElem_cons_succ, List.getElem_cons_zero, Act.put, List.setIfInBounds_toArray, List.set_cons_zero, List.set_cons_succ]
          refine wpAnyK_take0 7 (.int .i64 (s : Int)) rfl (by kernel_rfl) (fun _ _ _ h => h) hS rfl (by intro w; go_simp) ?_
          simp only [List.getElem_toArray, List.getElem_cons_succ, List.getElem_cons_zero, Act.put, List.setIfInBounds_toArray, List.set_cons_zero, List.set_cons_succ]
          refine wpAnyK_take0 8 (.pointer (some ⟨wb, wf + s, none⟩)) rfl (by kernel_rfl) (fun _ _ _ h => h) hS rfl (by intro w; go_simp) ?_
          simp only [List.getElem_toArray, List.getElem_cons_succ, List.getElem_cons_zero, Act.put, List.setIfInBounds_toArray, List.set_cons_zero, List.set_cons_succ]
          refine wpAnyK_take 9 (.int .i64 a) rfl (by kernel_rfl) (fun _ _ _ h => h) hS rfl (by intro w hSw; go_simp) ?_
          simp only [List.getElem_toArray, List.getElem_cons_succ, List.getElem_cons_zero, Act.put, List.setIfInBounds_toArray, List.set_cons_zero, List.set_cons_succ]
          refine wpAnyK_take0 10 (.pointer (some ⟨R0, 1, none⟩)) rfl (by kernel_rfl) (fun _ _ _ h => h) hS rfl (by intro w; go_simp) ?_
          simp only [List.getElem_toArray, List.getElem_cons_succ, List.getElem_cons_zero, Act.put, List.setIfInBounds_toArray, List.set_cons_zero, List.set_cons_succ]
          refine wpAnyK_take 11 (.slice (some ⟨sb, so, none⟩) p.sv.length sc) rfl (by kernel_rfl) (fun _ _ _ h => h) hS rfl (by intro w hSw; go_simp) ?_
          simp only [List.getElem_toArray, List.getElem_cons_succ, List.getElem_cons_zero, Act.put, List.setIfInBounds_toArray, List.set_cons_zero, List.set_cons_succ]
          refine wpAnyK_take0 12 (.int .i64 (r : Int)) rfl (by kernel_rfl) (fun _ _ _ h => h) hS rfl (by intro w; go_simp) ?_
          simp only [List.getElem_toArray, List.getElem_cons_succ, List.getElem_cons_zero, Act.put, List.setIfInBounds_toArray, List.set_cons_zero, List.set_cons_succ]
          refine wpAnyK_take0 13 (.pointer (some ⟨sb, so + r, none⟩)) rfl (by kernel_rfl) (fun _ _ _ h => h) hS rfl (by intro w; go_simp) ?_
          simp only [List.getElem_toArray, List.getElem_cons_succ, List.getElem_cons_zero, Act.put, List.setIfInBounds_toArray, List.set_cons_zero, List.set_cons_succ]
          refine wpAnyK_take 14 (.slice (some ⟨ub, uf, none⟩) p.mv.length uc) rfl (by kernel_rfl) (fun _ _ _ h => h) hS rfl (by intro w hSw; go_simp) ?_
          simp only [List.getElem_toArray, List.getElem_cons_succ, List.getElem_cons_zero, Act.put, List.setIfInBounds_toArray, List.set_cons_zero, List.set_cons_succ]
          refine wpAnyK_take0 15 (.int .i64 (s : Int)) rfl (by kernel_rfl) (fun _ _ _ h => h) hS rfl (by intro w; go_simp) ?_
          simp only [List.getElem_toArray, List.getElem_cons_succ, List.getElem_cons_zero, Act.put, List.setIfInBounds_toArray, List.set_cons_zero, List.set_cons_succ]
          refine wpAnyK_take0 16 (.pointer (some ⟨ub, uf + s, none⟩)) rfl (by kernel_rfl) (fun _ _ _ h => h) hS rfl (by intro w; go_simp) ?_
          simp only [List.getElem_toArray, List.getElem_cons_succ, List.getElem_cons_zero, Act.put, List.setIfInBounds_toArray, List.set_cons_zero, List.set_cons_succ]
          refine wpAnyK_take 17 (.int .i64 y) rfl (by kernel_rfl) (fun _ _ _ h => h) hS rfl (by intro w hSw; go_simp) ?_
          simp only [List.getElem_toArray, List.getElem_cons_succ, List.getElem_cons_zero, Act.put, List.setIfInBounds_toArray, List.set_cons_zero, List.set_cons_succ]
          refine wpAnyK_take0 18 (.int .i64 (a + y)) rfl (by kernel_rfl) (fun _ _ _ h => h) hS rfl (by intro w; go_simp) ?_
          simp only [List.getElem_toArray, List.getElem_cons_succ, List.getElem_cons_zero, Act.put, List.setIfInBounds_toArray, List.set_cons_zero, List.set_cons_succ]
          refine wpAnyK_take0 19 (.pointer (some ⟨R0, 0, none⟩)) rfl (by kernel_rfl) (fun _ _ _ h => h) hS rfl (by intro w; go_simp) ?_
          simp only [List.getElem_toArray, List.getElem_cons_succ, List.getElem_cons_zero, Act.put, List.setIfInBounds_toArray, List.set_cons_zero, List.set_cons_succ]
          refine wpAnyK_take 20 (.slice (some ⟨mb, mf, none⟩) p.mv.length mc) rfl (by kernel_rfl) (fun _ _ _ h => h) hS rfl (by intro w hSw; go_simp) ?_
          simp only [List.getElem_toArray, List.getElem_cons_succ, List.getElem_cons_zero, Act.put, List.setIfInBounds_toArray, List.set_cons_zero, List.set_cons_succ]
          refine wpAnyK_take0 21 (.int .i64 (s : Int)) rfl (by kernel_rfl) (fun _ _ _ h => h) hS rfl (by intro w; go_simp) ?_
          simp only [List.getElem_toArray, List.getElem_cons_succ, List.getElem_cons_zero, Act.put, List.setIfInBounds_toArray, List.set_cons_zero, List.set_cons_succ]
          refine wpAnyK_take0 22 (.pointer (some ⟨mb, mf + s, none⟩)) rfl (by kernel_rfl) (fun _ _ _ h => h) hS rfl (by intro w; go_simp) ?_
          simp only [List.getElem_toArray, List.getElem_cons_succ, List.getElem_cons_zero, Act.put, List.setIfInBounds_toArray, List.set_cons_zero, List.set_cons_succ]
          refine wpAnyK_take 23 (.slice (some ⟨xb, xf, none⟩) p.mv.length xc) rfl (by kernel_rfl) (fun _ _ _ h => h) hS rfl (by intro w hSw; go_simp) ?_
          simp only [List.getElem_toArray, List.getElem_cons_succ, List.getElem_cons_zero, Act.put, List.setIfInBounds_toArray, List.set_cons_zero, List.set_cons_succ]
          refine wpAnyK_take0 24 (.int .i64 (t : Int)) rfl (by kernel_rfl) (fun _ _ _ h => h) hS rfl (by intro w; go_simp) ?_
          simp only [List.getElem_toArray, List.getElem_cons_succ, List.getElem_cons_zero, Act.put, List.setIfInBounds_toArray, List.set_cons_zero, List.set_cons_succ]
          refine wpAnyK_take0 25 (.pointer (some ⟨xb, xf + t, none⟩)) rfl (by kernel_rfl) (fun _ _ _ h => h) hS rfl (by intro w; go_simp) ?_
          simp only [List.getElem_toArray, List.getElem_cons_succ, List.getElem_cons_zero, Act.put, List.setIfInBounds_toArray, List.set_cons_zero, List.set_cons_succ]
          refine wpAnyK_take 26 (.int .i64 u) rfl (by kernel_rfl) (fun _ _ _ h => h) hS rfl (by intro w hSw; go_simp) ?_
          simp only [List.getElem_toArray, List.getElem_cons_succ, List.getElem_cons_zero, Act.put, List.setIfInBounds_toArray, List.set_cons_zero, List.set_cons_succ]
          refine wpAnyK_take0 27 (.int .i64 (a + y + u)) rfl (by kernel_rfl) (fun _ _ _ h => h) hS rfl (by intro w; go_simp) ?_
          simp only [List.getElem_toArray, List.getElem_cons_succ, List.getElem_cons_zero, Act.put, List.setIfInBounds_toArray, List.set_cons_zero, List.set_cons_succ]
          refine wpAnyK_take0 28 (.int .i64 (min c (a + y + u))) rfl (by kernel_rfl) (fun _ _ _ h => h) hS rfl (by intro w; go_simp) ?_
          simp only [List.getElem_toArray, List.getElem_cons_succ, List.getElem_cons_zero, Act.put, List.setIfInBounds_toArray, List.set_cons_zero, List.set_cons_succ]
          refine wpAnyK_take0 29 (.pointer (some ⟨G, t, none⟩)) rfl (by kernel_rfl) (fun _ _ _ h => h) hS rfl (by intro w; go_simp) ?_
          simp only [List.getElem_toArray, List.getElem_cons_succ, List.getElem_cons_zero, Act.put, List.setIfInBounds_toArray, List.set_cons_zero, List.set_cons_succ]
          clear hw1 hw2
          have hcc := hS.1
          have hff := ho.at.2.1 t
          obtain ⟨o1, o2⟩ := ho.store t (min c (a + y + u))
          have kr2 := kr.step o2 (fun q e hlt => by omega)
          have ki2 := ki.step o2 (fun q e _ => e)
          have bb2 := bb.step o2 hGR0
          have HN2 := Lib.hid (HN.out.put HMN.out htt)
          clear hS ho kr ki bb
          refine wpAnyK_tail 30 rfl (by kernel_rfl) ?_
          simp only [List.drop_succ_cons, List.drop_zero]
          go_wp2_with fail
          go_round
          case rel => exact ⟨t + 1, _, htt, by go_num, o1, HN2, kr2, ki2, bb2⟩
          case measure => simp [intOf]; omega
        · have hte : t = p.mv.length := by omega
          subst hte
          have HN2 := Lib.hid HN.out.next
          have hsv3 := hsv2.step ki (fun q e => e)
          clear ki
          go_wp2_with fail
          go_round
          case rel => exact ⟨j + 1, l', hlt, by go_num, ho, HN2, kr, hsv3, bb⟩
          case measure => simp [intOf]; omega
    · have hje : j = L.length := by omega
      have hj1 : ¬ (j : Int) < (L.length : Int) := by omega
      have HFN := Lib.hid (And.intro ho.readNo (And.intro (show WkP p (nextW p f r) l from nwP.done HP.out HF.out hC hr (by rw [HL.out, ← hje]; exact HN.out)) kr))
      clear ho kr bb hsv HN
      go_wp2_with fail
      go_ret
      exact ⟨_, rfl, l, HFN.out.1, HFN.out.2.1, HFN.out.2.2⟩
end Go.Proofs.YtndhijckbponkaaGreat
