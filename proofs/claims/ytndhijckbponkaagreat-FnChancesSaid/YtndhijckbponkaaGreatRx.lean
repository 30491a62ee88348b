import Derived.Test.YtndhijckbponkaaGreatPkX14
import Derived.Test.YtndhijckbponkaaGreatPkX15
import Derived.Test.YtndhijckbponkaaGreatPq
/- expected costs: the reference's walk -/
namespace Go.Proofs.YtndhijckbponkaaGreat
open Go.RowKit

/-- the sum of a cost over sequences, with weights -/
def meT (f : List Int → Int) (qs : List (List Int)) (ws : List Int) (i : Nat) : Int := ws.getD i 0 * f (qs.getD i [])
def meV (f : List Int → Int) (qs : List (List Int)) (ws : List Int) (j : Nat) : Int := sumTo (meT f qs ws) j
noncomputable def eleV (p : Pr) (s : Int) (qs : List (List Int)) (ws : List Int) : Fr := if drawB p s qs ws then mkFr (meV (optW p s.toNat) qs ws qs.length) (sumW ws) else ⟨0, 0, false⟩
noncomputable def ecoV (p : Pr) (nx : List (List Int)) (s : Int) (qs : List (List Int)) (ws : List Int) : Fr := if drawB p s qs ws && bP (AlgP p nx) then mkFr (meV (rest p (algT nx) s.toNat []) qs ws qs.length) (sumW ws) else ⟨0, 0, false⟩
theorem optW_in {p : Pr} (hp : PrP p) {S : Nat} (hS : S < p.mv.length) {q : List Int} (hq : ∀ r ∈ q, 0 ≤ r ∧ r < (p.sv.length : Int)) (hl : q.length ≤ 6) : 0 ≤ optW p S q ∧ optW p S q ≤ 813 := by
  rw [optW_F]
  have h := workF_in hp hS hq q.length (Nat.le_refl _)
  have h2 := bl_inD (ok := fun _ => true) (g := workF p S q q.length) (D := 99 + 119 * (q.length : Int)) (by omega) p.mv.length (fun s hs _ => h s hs)
  rcases bl_spec (ok := fun _ => true) (f := workF p S q q.length) p.mv.length (fun s hs _ => (h s hs).1) with ⟨_, h3⟩ | ⟨h3, _⟩
  · have := h3 0 (by omega); cases this
  · omega
theorem meV_in {k : Nat} {qs : List (List Int)} {ws : List Int} {f : List Int → Int} (hc : ChP k 12 6 qs ws) (hf : ∀ i, i < qs.length → 0 ≤ f (qs.getD i []) ∧ f (qs.getD i []) ≤ 813) : ∀ j, j ≤ qs.length → 0 ≤ meV f qs ws j ∧ meV f qs ws j ≤ 7317 * (j : Int)
  | 0, _ => by simp [meV, sumTo]
  | j + 1, h => by
    have ih := meV_in hc hf j (by omega)
    have h1 := ch_get hc j (by have := hc.2.1; omega)
    have h2 := hf j (by omega)
    have h3 := Int.mul_nonneg (show 0 ≤ ws.getD j 0 by omega) h2.1
    have h4 : ws.getD j 0 * f (qs.getD j []) ≤ 9 * 813 := Int.mul_le_mul h1.2 h2.2 h2.1 (by omega)
    have e : meV f qs ws (j + 1) = meV f qs ws j + ws.getD j 0 * f (qs.getD j []) := rfl
    rw [e]
    push_cast
    omega
theorem ch_seq {k : Nat} {qs : List (List Int)} {ws : List Int} (h : ChP k 12 6 qs ws) {i : Nat} (hi : i < qs.length) : (qs.getD i []).length ≤ 6 ∧ ∀ r ∈ qs.getD i [], 0 ≤ r ∧ r < (k : Int) := by
  have hm : qs.getD i [] ∈ qs := by rw [List.getD_eq_getElem?_getD, List.getElem?_eq_getElem hi]; exact List.getElem_mem _
  exact ⟨(h.2.2.2 _ hm).2.1, (h.2.2.2 _ hm).2.2⟩
set_option maxRecDepth 100000 in
set_option maxHeartbeats 2000000 in
theorem specExpectedLeast_any (A : Nat → Prop) (v cv : Value) (p : Pr) (s : Int) (qs : List (List Int)) (ws : List Int) (w : World) (hp : RPr A w v p) (hc : RCh A w cv qs ws) :
    Calls Tryz.prog 14 #[v, .int .i64 s, cv] w (Ret2 fun v0 v1 w' => v0 = .agg #[.int .i64 (eleV p s qs ws).num, .int .i64 (eleV p s qs ws).den] ∧ v1 = .bool (eleV p s qs ws).ok ∧ Chg No w w') := by
  have hv := hp
  have hcv := hc
  obtain ⟨mv, sv', rfl, hm, hsv⟩ := hp
  obtain ⟨wv, qv, rfl, hw, hq⟩ := hc
  obtain ⟨ma, mc, rfl⟩ := hm.shape
  obtain ⟨sa, sc, rfl⟩ := hsv.shape
  obtain ⟨qa, qc, rfl⟩ := hq.shape
  obtain ⟨wa, wc, rfl, _⟩ := id hw
  cases hd : drawB p s qs ws
  · have HV : Hid (eleV p s qs ws = ⟨0, 0, false⟩) := Lib.hid (by unfold eleV; rw [hd]; rfl)
    have HD := Lib.hid hd
    clear hd
    go_enter Tryz.func14, Tryz.ntmps14
    go_wp2_with fail
    refine bx3 (R := fun W => Calls _ _ _ W _) (fun W0 k0 b0 b1 b2 => ?_)
    refine (l11Start_any _ _ _ p s qs ws W0 (hv.keep k0) (hcv.keep k0)).mono ?_
    rintro e w1 ⟨_, rfl, rfl, k1⟩
    rw [HD.out]
    have kk := k0.keep k1
    have b2 := b2.keep k1
    have g0 := b2.c 0 _ rfl
    have g1 := b2.c 1 _ rfl
    have f0 := b2.fr 0
    have f1 := b2.fr 1
    have hsz := b2.lt
    obtain ⟨S2, hS2⟩ : ∃ S2, w.heap.size + 1 + 1 = S2 := ⟨_, rfl⟩
    rw [hS2] at b2 g0 g1 f0 f1 hsz ⊢
    have b3 := (b2.set (i := 0) (by simp) (.int .i64 0)).set (i := 1) (by simp) (.int .i64 0)
    have z0 := b3.c 0 _ rfl
    have z1 := b3.c 1 _ rfl
    have kk := (kk.setCell (p := ⟨S2, 0, none⟩) (fun h => by simp at h; omega) (.int .i64 0)).setCell (p := ⟨S2, 1, none⟩) (fun h => by simp at h; omega) (.int .i64 0)
    go_wp2_with fail
    exact bodyPost_ret (v := .tuple #[.agg #[.int .i64 0, .int .i64 0], .bool false]) (by simp [results, Tryz.results14, go_sem, z0, z1]) rfl ⟨_, _, rfl, by rw [HV.out], by rw [HV.out], kk⟩
  obtain ⟨hpp, hcc, hs0, hs1⟩ := drawB_facts hd
  obtain ⟨S, rfl⟩ : ∃ S : Nat, s = (S : Int) := ⟨s.toNat, by omega⟩
  have hS : S < p.mv.length := by omega
  have HV : Hid (eleV p (S : Int) qs ws = mkFr (meV (optW p S) qs ws qs.length) (sumW ws)) := Lib.hid (by unfold eleV; rw [hd, Int.toNat_natCast]; rfl)
  have HD := Lib.hid hd
  have HP := Lib.hid (And.intro hpp hcc)
  have HOI : Hid (∀ i, i < qs.length → 0 ≤ optW p S (qs.getD i []) ∧ optW p S (qs.getD i []) ≤ 813) := Lib.hid (fun i hi => optW_in hpp hS (ch_seq hcc hi).2 (ch_seq hcc hi).1)
  have hql12 : qs.length ≤ 12 := hcc.1.2
  have hwl : ws.length = qs.length := hcc.2.1
  rw [hwl] at hw hcv ⊢
  have HWL := Lib.hid hwl
  clear hd hpp hcc hwl
  go_enter Tryz.func14, Tryz.ntmps14
  go_wp2_with fail
  refine bx3 (R := fun W => Calls _ _ _ W _) (fun W0 k0 b0 b1 b2 => ?_)
  refine (l11Start_any _ _ _ p (S : Int) qs ws W0 (hv.keep k0) (hcv.keep k0)).mono ?_
  rintro e w1 ⟨_, rfl, rfl, k1⟩
  rw [HD.out]
  have kk := k0.keep k1
  replace b0 := b0.keep k1
  replace b1 := b1.keep k1
  replace b2 := b2.keep k1
  obtain ⟨S2, hS2⟩ : ∃ S2, w.heap.size + 1 + 1 = S2 := ⟨_, rfl⟩
  obtain ⟨R0, hR0⟩ : ∃ R0, w.heap.size = R0 := ⟨_, rfl⟩
  rw [hS2] at b2 ⊢
  rw [hR0] at b0 b1 ⊢
  have HSS := Lib.hid (And.intro hS2 hR0)
  clear hS2 hR0 k0 k1
  go_wp2_with fail
  go_loopw [8, 9] (fun o z wr => ∃ i : Nat, i ≤ qs.length ∧ z = .int .i64 (i : Int) ∧ o = .int .i64 (meV (optW p S) qs ws i) ∧ Chg No w1 wr) (fun _ z _ => qs.length - (intOf z).toNat)
  case atStart => exact ⟨0, Nat.zero_le _, rfl, rfl, Chg.refl _ _⟩
  case round =>
    obtain ⟨i, hi, rfl, rfl, kr⟩ := hrel
    have hi0 : (0 : Int) ≤ (i : Int) := Int.natCast_nonneg _
    have hmi := meV_in HP.out.2 HOI.out i hi
    obtain ⟨u, hu⟩ : ∃ u, meV (optW p S) qs ws i = u := ⟨_, rfl⟩
    rw [hu] at hmi ⊢
    have kw := kk.keep kr
    have bb0 := b0.keep kr
    have bb1 := b1.keep kr
    have bb2 := b2.keep kr
    by_cases hlt : i < qs.length
    · have hi1 : (i : Int) < (qs.length : Int) := by omega
      have hwi : IntKind.i64.wrap ((i : Int) + 1) = (i : Int) + 1 := IntWalk.i64_in _ (by omega)
      have HNX := Lib.hid (show meV (optW p S) qs ws (i + 1) = u + ws.getD i 0 * optW p S (qs.getD i []) by rw [← hu]; rfl)
      have hx := ch_get HP.out.2 i (by have := HWL.out; omega)
      have hy := HOI.out i hlt
      obtain ⟨x, hxx⟩ : ∃ x, ws.getD i 0 = x := ⟨_, rfl⟩
      obtain ⟨y, hyy⟩ : ∃ y, optW p S (qs.getD i []) = y := ⟨_, rfl⟩
      rw [hxx, hyy] at HNX
      rw [hxx] at hx
      rw [hyy] at hy
      have hm0 : 0 ≤ x * y := Int.mul_nonneg (by omega) hy.1
      have hm1 : x * y ≤ 9 * 813 := Int.mul_le_mul hx.2 hy.2 hy.1 (by omega)
      have HW1 : Hid (IntKind.i64.wrap (x * y) = x * y) := Lib.hid (IntWalk.i64_in _ (by omega))
      have HW2 : Hid (IntKind.i64.wrap (u + x * y) = u + x * y) := Lib.hid (IntWalk.i64_in _ (by omega))
      obtain ⟨wb, wf, rfl, hwb, hcw⟩ := hw.cellN (j := i) (by have := HWL.out; omega)
      rw [hxx] at hcw
      obtain ⟨qb, qf, ra, rc, rfl, hqb, hcq, hrr⟩ := hq.row hlt
      have HSQ := Lib.hid (ch_seq HP.out.2 hlt)
      have HYY := Lib.hid hyy
      obtain ⟨LQ, hLQ⟩ : ∃ L, (qs.getD i []).length = L := ⟨_, rfl⟩
      rw [hLQ] at hcq
      have SF : ∀ W, Chg No wr W → ((W.cell? ⟨R0, 0, none⟩ = some (.slice ma p.mv.length mc) ∧ W.cell? ⟨R0, 1, none⟩ = some (.slice sa p.sv.length sc)) ∧ W.cell? ⟨R0 + 1, 0, none⟩ = some (.slice (some ⟨wb, wf, none⟩) qs.length wc) ∧ W.cell? ⟨R0 + 1, 1, none⟩ = some (.slice (some ⟨qb, qf, none⟩) qs.length qc)) ∧ W.cell? ⟨wb, wf + i, none⟩ = some (.int .i64 x) ∧ W.cell? ⟨qb, qf + i, none⟩ = some (.slice ra LQ rc) :=
        fun W k => ⟨⟨⟨(bb0.keep k).c 0 _ rfl, (bb0.keep k).c 1 _ rfl⟩, (bb1.keep k).c 0 _ rfl, (bb1.keep k).c 1 _ rfl⟩, ((kw.keep k).cellD wb (wf + i) hwb (fun e => e)).trans hcw, ((kw.keep k).cellD qb (qf + i) hqb (fun e => e)).trans hcq⟩
      have HSF := Lib.hid SF
      have g1 := bb1.c 1 _ rfl
      have HOC : Hid (∀ W, Chg No wr W → Calls Tryz.prog 48 #[.agg #[.slice ma p.mv.length mc, .slice sa p.sv.length sc], .int .i64 (S : Int), .slice ra LQ rc] W (Ret fun r w' => r = .int .i64 y ∧ Chg No W w')) := Lib.hid (fun W k => by
        have := l8Opt_any A A _ _ p S (qs.getD i []) W HP.out.1 (hv.keep (kw.keep k)) (hrr.keep (kw.keep k)) hS HSQ.out.2 (by have := HSQ.out.1; omega)
        rwa [hyy, hLQ] at this)
      clear SF hm0 hm1 hx hy hxx hyy hLQ hcw hcq hrr hmi hu
      go_wp2_with fail
      refine wp_region_K (S := fun W => ((W.cell? ⟨R0, 0, none⟩ = some (.slice ma p.mv.length mc) ∧ W.cell? ⟨R0, 1, none⟩ = some (.slice sa p.sv.length sc)) ∧ W.cell? ⟨R0 + 1, 0, none⟩ = some (.slice (some ⟨wb, wf, none⟩) qs.length wc) ∧ W.cell? ⟨R0 + 1, 1, none⟩ = some (.slice (some ⟨qb, qf, none⟩) qs.length qc)) ∧ W.cell? ⟨wb, wf + i, none⟩ = some (.int .i64 x) ∧ W.cell? ⟨qb, qf + i, none⟩ = some (.slice ra LQ rc)) (k := 16) (by kernel_rfl) ?_
      have kq : Chg No wr (World.drew wr) := drewN0 _
      generalize wr.drew = W2 at kq ⊢
      have hS := HSF.out W2 kq
      refine wpAnyK_take0 0 (.int .i64 u) rfl (by kernel_rfl) (fun _ _ _ h => h) hS rfl (by intro w; go_simp) ?_
      simp only [List.getElem_toArray, List.getElem_cons_zero, Act.put, List.setIfInBounds_toArray, List.set_cons_zero, List.set_cons_succ]
      refine wpAnyK_take0 1 (.pointer (some ⟨R0 + 1, 0, none⟩)) rfl (by kernel_rfl) (fun _ _ _ h => h) hS rfl (by intro w; go_simp) ?_
      simp only [List.getElem_toArray, List.getElem_cons_succ, List.getElem_cons_zero, Act.put, List.setIfInBounds_toArray, List.set_cons_zero, List.set_cons_succ]
      refine wpAnyK_take 2 (.slice (some ⟨wb, wf, none⟩) qs.length wc) rfl (by kernel_rfl) (fun _ _ _ h => h) hS rfl (by intro w hSw; go_simp) ?_
      simp only [List.getElem_toArray, List.getElem_cons_succ, List.getElem_cons_zero, Act.put, List.setIfInBounds_toArray, List.set_cons_zero, List.set_cons_succ]
      refine wpAnyK_take0 3 (.int .i64 (i : Int)) rfl (by kernel_rfl) (fun _ _ _ h => h) hS rfl (by intro w; go_simp) ?_
      simp only [List.getElem_toArray, List.getElem_cons_succ, List.getElem_cons_zero, Act.put, List.setIfInBounds_toArray, List.set_cons_zero, List.set_cons_succ]
      refine wpAnyK_take0 4 (.pointer (some ⟨wb, wf + i, none⟩)) rfl (by kernel_rfl) (fun _ _ _ h => h) hS rfl (by intro w; go_simp) ?_
      simp only [List.getElem_toArray, List.getElem_cons_succ, List.getElem_cons_zero, Act.put, List.setIfInBounds_toArray, List.set_cons_zero, List.set_cons_succ]
      refine wpAnyK_take 5 (.int .i64 x) rfl (by kernel_rfl) (fun _ _ _ h => h) hS rfl (by intro w hSw; go_simp) ?_
      simp only [List.getElem_toArray, List.getElem_cons_succ, List.getElem_cons_zero, Act.put, List.setIfInBounds_toArray, List.set_cons_zero, List.set_cons_succ]
      refine wpAnyK_takeT 6 (.agg #[.slice ma p.mv.length mc, .slice sa p.sv.length sc]) rfl (by kernel_rfl) (fun _ _ _ h => h) hS rfl (by intro w hSw; go_simp) ?_
      simp only [List.getElem_toArray, List.getElem_cons_succ, List.getElem_cons_zero, Act.put, List.setIfInBounds_toArray, List.set_cons_zero, List.set_cons_succ]
      refine wpAnyK_take0 7 (.int .i64 (S : Int)) rfl (by kernel_rfl) (fun _ _ _ h => h) hS rfl (by intro w; go_simp) ?_
      simp only [List.getElem_toArray, List.getElem_cons_succ, List.getElem_cons_zero, Act.put, List.setIfInBounds_toArray, List.set_cons_zero, List.set_cons_succ]
      refine wpAnyK_take0 8 (.pointer (some ⟨R0 + 1, 1, none⟩)) rfl (by kernel_rfl) (fun _ _ _ h => h) hS rfl (by intro w; go_simp) ?_
      simp only [List.getElem_toArray, List.getElem_cons_succ, List.getElem_cons_zero, Act.put, List.setIfInBounds_toArray, List.set_cons_zero, List.set_cons_succ]
      refine wpAnyK_take 9 (.slice (some ⟨qb, qf, none⟩) qs.length qc) rfl (by kernel_rfl) (fun _ _ _ h => h) hS rfl (by intro w hSw; go_simp) ?_
      simp only [List.getElem_toArray, List.getElem_cons_succ, List.getElem_cons_zero, Act.put, List.setIfInBounds_toArray, List.set_cons_zero, List.set_cons_succ]
      refine wpAnyK_take0 10 (.int .i64 (i : Int)) rfl (by kernel_rfl) (fun _ _ _ h => h) hS rfl (by intro w; go_simp) ?_
      simp only [List.getElem_toArray, List.getElem_cons_succ, List.getElem_cons_zero, Act.put, List.setIfInBounds_toArray, List.set_cons_zero, List.set_cons_succ]
      refine wpAnyK_take0 11 (.pointer (some ⟨qb, qf + i, none⟩)) rfl (by kernel_rfl) (fun _ _ _ h => h) hS rfl (by intro w; go_simp) ?_
      simp only [List.getElem_toArray, List.getElem_cons_succ, List.getElem_cons_zero, Act.put, List.setIfInBounds_toArray, List.set_cons_zero, List.set_cons_succ]
      refine wpAnyK_take 12 (.slice ra LQ rc) rfl (by kernel_rfl) (fun _ _ _ h => h) hS rfl (by intro w hSw; go_simp) ?_
      simp only [List.getElem_toArray, List.getElem_cons_succ, List.getElem_cons_zero, Act.put, List.setIfInBounds_toArray, List.set_cons_zero, List.set_cons_succ]
      clear hS
      refine wpAnyK_1 13 (by kernel_rfl) (wpOpK' rfl rfl ?_)
      intro K hK
      refine ocall (f := 48) (args := #[.agg #[.slice ma p.mv.length mc, .slice sa p.sv.length sc], .int .i64 (S : Int), .slice ra LQ rc]) (by go_simp) (HOC.out W2 kq) (fun v3 w3 h3 => ?_)
      obtain ⟨rfl, k3⟩ := h3
      replace kq := kq.keep k3
      refine hK.out _ _ (HSF.out w3 kq) ?_
      clear hK K k3
      simp only [List.getElem_toArray, List.getElem_cons_succ, List.getElem_cons_zero, Act.put, List.setIfInBounds_toArray, List.set_cons_zero, List.set_cons_succ]
      have hS := HSF.out w3 kq
      have hw1 := HW1.out
      have hw2 := HW2.out
      refine wpAnyK_take0 14 (.int .i64 (x * y)) rfl (by kernel_rfl) (fun _ _ _ h => h) hS rfl (by intro w; go_simp) ?_
      simp only [List.getElem_toArray, List.getElem_cons_succ, List.getElem_cons_zero, Act.put, List.setIfInBounds_toArray, List.set_cons_zero, List.set_cons_succ]
      refine wpAnyK_take0 15 (.int .i64 (u + x * y)) rfl (by kernel_rfl) (fun _ _ _ h => h) hS rfl (by intro w; go_simp) ?_
      simp only [List.getElem_toArray, List.getElem_cons_succ, List.getElem_cons_zero, Act.put, List.setIfInBounds_toArray, List.set_cons_zero, List.set_cons_succ]
      clear hS hw1 hw2
      refine wpAnyK_tail 16 rfl (by kernel_rfl) ?_
      simp only [List.drop_succ_cons, List.drop_zero]
      go_wp2_with fail
      go_round
      case rel => exact ⟨i + 1, hlt, by go_num, by rw [HNX.out], kr.keep kq⟩
      case measure => simp [intOf]; omega
    · have hie : i = qs.length := by omega
      subst hie
      have hb := ch_bound HP.out.2
      have hsu := ch_sum HP.out.2
      obtain ⟨t, ht⟩ : ∃ t, sumW ws = t := ⟨_, rfl⟩
      rw [hu, ht] at HV
      rw [ht] at hsu
      have HSUM : Hid (∀ W, Chg No wr W → Calls Tryz.prog 45 #[.slice wa qs.length wc] W (Ret fun r w' => r = .int .i64 t ∧ Chg No W w')) := Lib.hid (fun W k => by
        have := (l11Sum_any A _ ws W (hw.keep (kw.keep k)) hb).mono (fun e w' h => (⟨_, h.1, rfl, h.2 ▸ Chg.refl No W⟩ : Ret (fun r w' => r = .int .i64 (sumW ws) ∧ Chg No W w') e w'))
        rwa [ht] at this)
      obtain ⟨fr, hfr⟩ : ∃ fr, mkFr u t = fr := ⟨_, rfl⟩
      have HMK : Hid (∀ W, Calls Tryz.prog 44 #[.int .i64 u, .int .i64 t] W (Ret fun v w' => v = .tuple #[.agg #[.int .i64 fr.num, .int .i64 fr.den], .bool fr.ok] ∧ Chg No W w')) := Lib.hid (fun W => by
        have := ret2_eq (l2Make_any u t W (by omega) (by omega) (by omega) (by omega))
        rwa [hfr] at this)
      rw [hfr] at HV
      have g0 := bb1.c 0 _ rfl
      have g1 := bb1.c 1 _ rfl
      have HB := Lib.hid (And.intro bb1 (And.intro bb2 (And.intro kw HSS.out)))
      clear hb hsu ht hfr hu hmi bb0 bb1 bb2 kw
      go_wp2_with fail
      refine (HSUM.out wr (Chg.refl No wr)).mono ?_
      rintro e w3 ⟨_, rfl, rfl, k3⟩
      clear HSUM g0 g1
      go_wp2_with fail
      refine (HMK.out w3).mono ?_
      rintro e w4 ⟨_, rfl, rfl, k4⟩
      have kq := k3.keep k4
      have b2' := HB.out.2.1.keep kq
      have kw' := HB.out.2.2.1.keep kq
      have g0 := b2'.c 0 _ rfl
      have g1 := b2'.c 1 _ rfl
      have f0 := b2'.fr 0
      have f1 := b2'.fr 1
      have hsz := b2'.lt
      have b3 := (b2'.set (i := 0) (by simp) (.int .i64 fr.num)).set (i := 1) (by simp) (.int .i64 fr.den)
      have z0 := b3.c 0 _ rfl
      have z1 := b3.c 1 _ rfl
      have kf := (kw'.setCell (p := ⟨S2, 0, none⟩) (fun h => by have := HB.out.2.2.2; simp at h; omega) (.int .i64 fr.num)).setCell (p := ⟨S2, 1, none⟩) (fun h => by have := HB.out.2.2.2; simp at h; omega) (.int .i64 fr.den)
      clear kq b2' kw' k3 k4 b3
      go_wp2_with fail
      exact bodyPost_ret (v := .tuple #[.agg #[.int .i64 fr.num, .int .i64 fr.den], .bool fr.ok]) (by simp [results, Tryz.results14, go_sem, z0, z1]) rfl ⟨_, _, rfl, by rw [HV.out], by rw [HV.out], kf⟩
end Go.Proofs.YtndhijckbponkaaGreat
