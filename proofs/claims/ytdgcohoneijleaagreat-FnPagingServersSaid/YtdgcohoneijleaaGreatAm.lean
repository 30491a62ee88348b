import Derived.Test.YtdgcohoneijleaaGreatAl
import Derived.Test.YtdgcohoneijleaaGreatXc
/- the next work list: the program's walk -/
namespace Go.Proofs.YtdgcohoneijleaaGreat
open Go.RowKit

/-- the row of the next list while configuration j is being taken, t of its values already for j + 1 -/
def nxM (n k : Nat) (d : Int → Int → Int) (L : List Int) (r : Int) (j t : Nat) : List Int := (List.range (nC n k)).map fun i => nxV n k d L r i (if i < t then j + 1 else j)
theorem nxM_len (n k : Nat) (d : Int → Int → Int) (L : List Int) (r : Int) (j t : Nat) : (nxM n k d L r j t).length = nC n k := by simp [nxM]
theorem nxM_at (n k : Nat) (d : Int → Int → Int) (L : List Int) (r : Int) (j t : Nat) {i : Nat} (h : i < (nxM n k d L r j t).length) : (nxM n k d L r j t)[i] = nxV n k d L r i (if i < t then j + 1 else j) := by simp [nxM]
theorem nxM_start (n k : Nat) (d : Int → Int → Int) (L : List Int) (r : Int) : List.replicate (nC n k) 1073741824 = nxM n k d L r 0 0 := by
  refine List.ext_getElem (by rw [nxM_len, List.length_replicate]) fun i h1 h2 => ?_
  rw [List.getElem_replicate, nxM_at, if_neg (Nat.not_lt_zero i)]
  rfl
theorem nxM_get (n k : Nat) (d : Int → Int → Int) (L : List Int) (r : Int) (j : Nat) {t : Nat} (h : t < nC n k) : (nxM n k d L r j t).getD t 0 = nxV n k d L r t j := by
  unfold nxM
  rw [range_getD _ _ _ _ h, if_neg (Nat.lt_irrefl t)]
theorem nxM_put (n k : Nat) (d : Int → Int → Int) (L : List Int) (r : Int) (j : Nat) {t : Nat} (_h : t < nC n k) : (nxM n k d L r j t).set t (nxV n k d L r t (j + 1)) = nxM n k d L r j (t + 1) := by
  refine List.ext_getElem (by rw [List.length_set, nxM_len, nxM_len]) fun i h1 h2 => ?_
  rw [List.getElem_set, nxM_at, nxM_at]
  by_cases e : t = i
  · subst e; rw [if_pos rfl, if_pos (Nat.lt_succ_self t)]
  · rw [if_neg e]
    by_cases e2 : i < t
    · rw [if_pos e2, if_pos (by omega)]
    · rw [if_neg e2, if_neg (by omega)]
theorem nxM_next (n k : Nat) (d : Int → Int → Int) (L : List Int) (r : Int) (j : Nat) : nxM n k d L r j (nC n k) = nxM n k d L r (j + 1) 0 := by
  refine List.map_congr_left fun i hi => ?_
  rw [if_pos (by simpa using hi), if_neg (Nat.not_lt_zero i)]
theorem nxM_skip (n k : Nat) (d : Int → Int → Int) (L : List Int) (r : Int) (j : Nat) (h : hasB (cfg n k j) r = false) : nxM n k d L r j 0 = nxM n k d L r (j + 1) 0 := by
  refine List.map_congr_left fun i _ => ?_
  rw [if_neg (Nat.not_lt_zero i), if_neg (Nat.not_lt_zero i), nxV]
  unfold hasB at h
  rw [nxV.hasI, h, if_neg (by simp)]
theorem nxM_done (n k : Nat) (d : Int → Int → Int) (L : List Int) (r : Int) : nxM n k d L r (nC n k) 0 = nxL n k d L r := by
  refine List.map_congr_left fun i _ => ?_
  rw [if_neg (Nat.not_lt_zero i)]
theorem nxV_hit (n k : Nat) (d : Int → Int → Int) (L : List Int) (r : Int) (i : Nat) {j : Nat} (h : hasB (cfg n k j) r = true) : nxV n k d L r i (j + 1) = min (nxV n k d L r i j) (L.getD j 0 + mvF d (cfg n k j) (cfg n k i)) := by
  unfold hasB at h
  rw [nxV, nxV.hasI, h, if_pos rfl]
theorem cosT_row (D : List (List Int)) (k : Nat) {j : Nat} (h : j < nC D.length k) : ((cosT D k).getD j []).length = nC D.length k := by
  rw [cosT_get D k h, w0L, List.length_map]; rfl
theorem cosT_cell (D : List (List Int)) (k : Nat) {j i : Nat} (h : j < nC D.length k) (hi : i < nC D.length k) : ((cosT D k).getD j []).getD i 0 = mvF (dD D) (cfg D.length k j) (cfg D.length k i) := by
  rw [cosT_get D k h, w0_get hi]
theorem mvc_in {D : List (List Int)} (hm : MetP D) {k : Nat} (hk : 1 ≤ k ∧ k ≤ 3) {i j : Nat} (hi : i < nC D.length k) (hj : j < nC D.length k) : 0 ≤ mvF (dD D) (cfg D.length k i) (cfg D.length k j) ∧ mvF (dD D) (cfg D.length k i) (cfg D.length k j) ≤ 297 := by
  have f1 := cfg_facts hi
  have f2 := cfg_facts hj
  have := mv_is (metP_d hm).1 (metP_d hm).2 (a := cfg D.length k i) (b := cfg D.length k j) (by rw [f1.1, f2.1]) (by rw [f1.1]; exact hk) f1.2 f2.2
  exact this.2.2
set_option maxRecDepth 100000 in
set_option maxHeartbeats 4000000 in
theorem wnext_any (A B : Nat → Prop) (wv lv : Value) (D : List (List Int)) (k : Nat) (L : List Int) (r : Int) (w : World) (hm : MetP D) (hk : 1 ≤ k ∧ k ≤ 3) (h : WkO A w wv D k) (hl : RI B w lv L) (hL : L.length = nC D.length k)
    (hb : ∀ i, i < nC D.length k → 0 ≤ L.getD i 0 ∧ L.getD i 0 ≤ 1000000) :
    Calls Tryz.prog 52 #[wv, lv, .int .i64 r] w (Ret fun v w' => OI w.heap.size w' v (nxL D.length k (dD D) L r) ∧ Chg No w w') := by
  obtain ⟨b, dv, cv, ov, rfl, hB, hd, hc, ho⟩ := h.val
  obtain ⟨la, lc, rfl, _⟩ := id hl
  obtain ⟨ca, cc, rfl⟩ := hc.shape
  obtain ⟨oa, oc, rfl⟩ := ho.shape
  have HGET := Lib.hid (fun j t (ht : t < nC D.length k) => nxM_get D.length k (dD D) L r j ht)
  have HPUT := Lib.hid (fun j t (ht : t < nC D.length k) => nxM_put D.length k (dD D) L r j ht)
  have HNX := Lib.hid (fun j => nxM_next D.length k (dD D) L r j)
  have HSK := Lib.hid (fun j => nxM_skip D.length k (dD D) L r j)
  have HDN := Lib.hid (nxM_done D.length k (dD D) L r)
  have HST := Lib.hid (nxM_start D.length k (dD D) L r)
  have HHT := Lib.hid (fun i j => nxV_hit D.length k (dD D) L r i (j := j))
  have HLEN := Lib.hid (fun j t => nxM_len D.length k (dD D) L r j t)
  have HCR := Lib.hid (fun j (hj : j < nC D.length k) => cosT_row D k hj)
  have HCC := Lib.hid (fun i j (hi : i < nC D.length k) (hj : j < nC D.length k) => And.intro (cosT_cell D k hj hi) (mvc_in hm hk hj hi))
  have HB := Lib.hid hb
  have HN1 : 1 ≤ nC D.length k ∧ nC D.length k ≤ 56 := ⟨cfs_pos _ hm.1.2 hm.1.1 _ hk.2, nC_le hm.1.2 hk.2⟩
  have hcl : (cfs D.length k).length = nC D.length k := rfl
  have hol := cosT_len D k
  have HCG : Hid (∀ j, (cfs D.length k).getD j [] = cfg D.length k j) := Lib.hid fun _ => rfl
  obtain ⟨N, hN⟩ : ∃ N, nC D.length k = N := ⟨_, rfl⟩
  obtain ⟨C, hC⟩ : ∃ C, cfs D.length k = C := ⟨_, rfl⟩
  obtain ⟨O, hO⟩ : ∃ O, cosT D k = O := ⟨_, rfl⟩
  rw [hN] at hL HGET HPUT HNX HDN HST HLEN HCR HCC HB HN1 hcl hol
  rw [hC] at hc hB hcl HCG
  rw [hO] at ho hB hol HCR HCC
  rw [hL] at hl ⊢
  rw [hcl] at hc hB
  rw [hol] at ho hB
  have HNL := Lib.hid (And.intro hL (And.intro hcl hol))
  clear hm hk hb hN hC hO hL hcl hol h hd
  go_enter Tryz.func52, Tryz.ntmps52
  go_wp2_with fail
  refine bx1 (R := fun W => Calls _ _ _ W _) (fun W0 k0 b0 => ?_)
  obtain ⟨R0, hR0⟩ : ∃ R, w.heap.size = R := ⟨_, rfl⟩
  rw [hR0] at b0
  try rw [hR0]
  have HRS := Lib.hid hR0
  clear hR0
  refine (repeat_any R0 1073741824 N W0 (b0.c 0 _ rfl) HN1.1 (by have := HN1.2; omega)).mono ?_
  rintro e w1 ⟨_, rfl, rfl, hu, k1⟩
  obtain ⟨G, hG⟩ : ∃ G, W0.heap.size = G := ⟨_, rfl⟩
  have hGw : w.heap.size ≤ G := by rw [← hG]; exact k0.size
  rw [hG] at hu ⊢
  have kk := k0.keep k1
  have hB1 := hB.keep kk
  have hBB := Lib.hid hB
  have HGW := Lib.hid hGw
  have hbG : b < w.heap.size := hB.lt
  have hNb : ¬ b = G := by omega
  rw [HST.out] at hu
  have g1 := hB1.c 1 _ rfl
  clear hG b0 k0 k1 hGw hB
  go_wp2_with fail
  go_loopw [20] (fun z wr => ∃ (j : Nat), j ≤ N ∧ z = .int .i64 (j : Int) ∧ OI G wr (.slice (some ⟨G, 0, none⟩) N N) (nxM D.length k (dD D) L r j 0) ∧ Chg No w wr) (fun z _ => N - (intOf z).toNat)
  case atStart => exact ⟨0, Nat.zero_le _, rfl, hu, kk⟩
  case round =>
    clear hu kk hB1 g1
    obtain ⟨j, hj, rfl, hu, kr⟩ := hrel
    have hj0 : (0 : Int) ≤ (j : Int) := Int.natCast_nonneg _
    by_cases hlt : j < N
    · have hj1 : (j : Int) < (N : Int) := by omega
      have hwj : IntKind.i64.wrap ((j : Int) + 1) = (j : Int) + 1 := IntWalk.i64_in _ (by omega)
      obtain ⟨rb, ro, xa, xc, rfl, hrb, hcr, hrow⟩ := (hc.keep kr).row (i := j) (by have := HNL.out.2.1; omega)
      rw [HCG.out j] at hcr hrow
      have HS1 := Lib.hid (HSK.out j)
      have HH1 := Lib.hid (fun i => HHT.out i j)
      obtain ⟨cf, hcf⟩ : ∃ cf, cfg D.length k j = cf := ⟨_, rfl⟩
      rw [hcf] at hcr hrow HS1 HH1
      have HCF := Lib.hid hcf
      clear hcf
      go_wp2_with fail
      refine (Contains_any _ _ cf r wr hrow).mono ?_
      rintro e w2 ⟨rfl, rfl⟩
      cases hh : hasB cf r
      · have HE := Lib.hid (HS1.out hh)
        clear hh hcr hrow
        go_wp2_with fail
        go_round
        case rel => exact ⟨j + 1, hlt, by go_num, by rw [← HE.out]; exact hu, kr⟩
        case measure => simp [intOf]; omega
      · have HE := Lib.hid (fun i => HH1.out i hh)
        clear hh hcr hrow
        obtain ⟨wo, hwo⟩ : ∃ wo : World, wo = wr := ⟨_, rfl⟩
        go_wp2_with fail
        rw [← hwo] at hu kr ⊢
        clear hwo
        go_loopw [31] (fun z wi => ∃ (t : Nat), t ≤ N ∧ z = .int .i64 (t : Int) ∧ OI G wi (.slice (some ⟨G, 0, none⟩) N N) (nxM D.length k (dD D) L r j t) ∧ Chg No w wi) (fun z _ => N - (intOf z).toNat)
        case atStart => exact ⟨0, Nat.zero_le _, rfl, hu, kr⟩
        case round =>
          clear hu kr
          obtain ⟨t, ht, rfl, hu, kr⟩ := hrel
          have ht0 : (0 : Int) ≤ (t : Int) := Int.natCast_nonneg _
          by_cases htt : t < N
          · have ht1 : (t : Int) < (N : Int) := by omega
            have hwt : IntKind.i64.wrap ((t : Int) + 1) = (t : Int) + 1 := IntWalk.i64_in _ (by omega)
            have hcc := hu.at.1 t (by rw [HLEN.out]; exact htt)
            rw [HGET.out j t htt] at hcc
            have HPT := Lib.hid (HPUT.out j t htt)
            have HEt := Lib.hid (HE.out t)
            have hbj := HB.out j hlt
            obtain ⟨hcel, hci⟩ := HCC.out t j htt hlt
            obtain ⟨wb, wf, rfl, hwb, hcw⟩ := hl.cellN (j := j) (by rw [HNL.out.1]; exact hlt)
            obtain ⟨ob, of, ya, yc, rfl, hob, hco, hor⟩ := ho.row (i := j) (by rw [HNL.out.2.2]; exact hlt)
            have hol := HCR.out j hlt
            obtain ⟨ub, uf, rfl, hub, hcu⟩ := hor.cellN (j := t) (by rw [hol]; exact htt)
            rw [hol] at hco
            rw [hcel] at hcu
            obtain ⟨c, hcg⟩ : ∃ c, nxV D.length k (dD D) L r t j = c := ⟨_, rfl⟩
            obtain ⟨a, ha⟩ : ∃ a, L.getD j 0 = a := ⟨_, rfl⟩
            obtain ⟨u, hu'⟩ : ∃ u, mvF (dD D) (cfg D.length k j) (cfg D.length k t) = u := ⟨_, rfl⟩
            have hu2 : mvF (dD D) cf (cfg D.length k t) = u := by rw [← HCF.out]; exact hu'
            rw [hcg] at hcc HEt
            rw [ha] at hcw hbj HEt
            rw [hu'] at hcu hci
            rw [hu2] at HEt
            have HW2 : Hid (IntKind.i64.wrap (a + u) = a + u) := Lib.hid (IntWalk.i64_in _ (by omega))
            have HSF : Hid (∀ W, Chg No wr W → W.cell? ⟨G, t, none⟩ = some (.int .i64 c) ∧ W.cell? ⟨wb, wf + j, none⟩ = some (.int .i64 a) ∧ W.cell? ⟨b, 2, none⟩ = some (.slice (some ⟨ob, of, none⟩) N oc) ∧ W.cell? ⟨ob, of + j, none⟩ = some (.slice (some ⟨ub, uf, none⟩) N yc) ∧ W.cell? ⟨ub, uf + t, none⟩ = some (.int .i64 u)) :=
              Lib.hid (fun W k => ⟨(k.cellD G t (World.block_lt_of_cell? _ _ hcc) (fun e => e)).trans hcc, ((kr.keep k).cellD wb (wf + j) hwb (fun e => e)).trans hcw, (hBB.out.keep (kr.keep k)).c 2 _ rfl, ((kr.keep k).cellD ob (of + j) hob (fun e => e)).trans hco, ((kr.keep k).cellD ub (uf + t) hub (fun e => e)).trans hcu⟩)
            clear hcc hcg hcw hco hor hcu ha hu' hu2 hol hcel
            go_wp2_with fail
            refine wp_region_K (S := fun W => W.cell? ⟨G, t, none⟩ = some (.int .i64 c) ∧ W.cell? ⟨wb, wf + j, none⟩ = some (.int .i64 a) ∧ W.cell? ⟨b, 2, none⟩ = some (.slice (some ⟨ob, of, none⟩) N oc) ∧ W.cell? ⟨ob, of + j, none⟩ = some (.slice (some ⟨ub, uf, none⟩) N yc) ∧ W.cell? ⟨ub, uf + t, none⟩ = some (.int .i64 u)) (k := 23) (by kernel_rfl) ?_
            have kq : Chg No wr (World.drew wr) := drewN0 _
            generalize wr.drew = W2 at kq ⊢
            have hS := HSF.out W2 kq
            replace hu := hu.keep kq
            replace kr := kr.keep kq
            have hw2 := HW2.out
            refine wpAnyK_take0 0 (.slice (some ⟨G, 0, none⟩) N N) rfl (by kernel_rfl) (fun _ _ _ h => h) hS rfl (by intro w; go_simp) ?_
            simp only [List.getElem_toArray, List.getElem_cons_zero, Act.put, List.setIfInBounds_toArray, List.set_cons_zero, List.set_cons_succ]
            refine wpAnyK_take0 1 (.int .i64 (t : Int)) rfl (by kernel_rfl) (fun _ _ _ h => h) hS rfl (by intro w; go_simp) ?_
            simp only [List.getElem_toArray, List.getElem_cons_succ, List.getElem_cons_zero, Act.put, List.setIfInBounds_toArray, List.set_cons_zero, List.set_cons_succ]
            refine wpAnyK_take0 2 (.slice (some ⟨G, 0, none⟩) N N) rfl (by kernel_rfl) (fun _ _ _ h => h) hS rfl (by intro w; go_simp) ?_
            simp only [List.getElem_toArray, List.getElem_cons_succ, List.getElem_cons_zero, Act.put, List.setIfInBounds_toArray, List.set_cons_zero, List.set_cons_succ]
            refine wpAnyK_take0 3 (.int .i64 (t : Int)) rfl (by kernel_rfl) (fun _ _ _ h => h) hS rfl (by intro w; go_simp) ?_
            simp only [List.getElem_toArray, List.getElem_cons_succ, List.getElem_cons_zero, Act.put, List.setIfInBounds_toArray, List.set_cons_zero, List.set_cons_succ]
            refine wpAnyK_take0 4 (.pointer (some ⟨G, t, none⟩)) rfl (by kernel_rfl) (fun _ _ _ h => h) hS rfl (by intro w; go_simp) ?_
            simp only [List.getElem_toArray, List.getElem_cons_succ, List.getElem_cons_zero, Act.put, List.setIfInBounds_toArray, List.set_cons_zero, List.set_cons_succ]
            refine wpAnyK_take 5 (.int .i64 c) rfl (by kernel_rfl) (fun _ _ _ h => h) hS rfl (by intro w hSw; go_simp) ?_
            simp only [List.getElem_toArray, List.getElem_cons_succ, List.getElem_cons_zero, Act.put, List.setIfInBounds_toArray, List.set_cons_zero, List.set_cons_succ]
            refine wpAnyK_take0 6 (.slice (some ⟨wb, wf, none⟩) N lc) rfl (by kernel_rfl) (fun _ _ _ h => h) hS rfl (by intro w; go_simp) ?_
            simp only [List.getElem_toArray, List.getElem_cons_succ, List.getElem_cons_zero, Act.put, List.setIfInBounds_toArray, List.set_cons_zero, List.set_cons_succ]
            refine wpAnyK_take0 7 (.int .i64 (j : Int)) rfl (by kernel_rfl) (fun _ _ _ h => h) hS rfl (by intro w; go_simp) ?_
            simp only [List.getElem_toArray, List.getElem_cons_succ, List.getElem_cons_zero, Act.put, List.setIfInBounds_toArray, List.set_cons_zero, List.set_cons_succ]
            refine wpAnyK_take0 8 (.pointer (some ⟨wb, wf + j, none⟩)) rfl (by kernel_rfl) (fun _ _ _ h => h) hS rfl (by intro w; go_simp) ?_
            simp only [List.getElem_toArray, List.getElem_cons_succ, List.getElem_cons_zero, Act.put, List.setIfInBounds_toArray, List.set_cons_zero, List.set_cons_succ]
            refine wpAnyK_take 9 (.int .i64 a) rfl (by kernel_rfl) (fun _ _ _ h => h) hS rfl (by intro w hSw; go_simp) ?_
            simp only [List.getElem_toArray, List.getElem_cons_succ, List.getElem_cons_zero, Act.put, List.setIfInBounds_toArray, List.set_cons_zero, List.set_cons_succ]
            refine wpAnyK_take0 10 (.pointer (some ⟨b, 0, none⟩)) rfl (by kernel_rfl) (fun _ _ _ h => h) hS rfl (by intro w; go_simp) ?_
            simp only [List.getElem_toArray, List.getElem_cons_succ, List.getElem_cons_zero, Act.put, List.setIfInBounds_toArray, List.set_cons_zero, List.set_cons_succ]
            refine wpAnyK_take0 11 (.pointer (some ⟨b, 0, none⟩)) rfl (by kernel_rfl) (fun _ _ _ h => h) hS rfl (by intro w; go_simp) ?_
            simp only [List.getElem_toArray, List.getElem_cons_succ, List.getElem_cons_zero, Act.put, List.setIfInBounds_toArray, List.set_cons_zero, List.set_cons_succ]
            refine wpAnyK_take0 12 (.pointer (some ⟨b, 2, none⟩)) rfl (by kernel_rfl) (fun _ _ _ h => h) hS rfl (by intro w; go_simp) ?_
            simp only [List.getElem_toArray, List.getElem_cons_succ, List.getElem_cons_zero, Act.put, List.setIfInBounds_toArray, List.set_cons_zero, List.set_cons_succ]
            refine wpAnyK_take 13 (.slice (some ⟨ob, of, none⟩) N oc) rfl (by kernel_rfl) (fun _ _ _ h => h) hS rfl (by intro w hSw; go_simp) ?_
            simp only [List.getElem_toArray, List.getElem_cons_succ, List.getElem_cons_zero, Act.put, List.setIfInBounds_toArray, List.set_cons_zero, List.set_cons_succ]
            refine wpAnyK_take0 14 (.int .i64 (j : Int)) rfl (by kernel_rfl) (fun _ _ _ h => h) hS rfl (by intro w; go_simp) ?_
            simp only [List.getElem_toArray, List.getElem_cons_succ, List.getElem_cons_zero, Act.put, List.setIfInBounds_toArray, List.set_cons_zero, List.set_cons_succ]
            refine wpAnyK_take0 15 (.pointer (some ⟨ob, of + j, none⟩)) rfl (by kernel_rfl) (fun _ _ _ h => h) hS rfl (by intro w; go_simp) ?_
            simp only [List.getElem_toArray, List.getElem_cons_succ, List.getElem_cons_zero, Act.put, List.setIfInBounds_toArray, List.set_cons_zero, List.set_cons_succ]
            refine wpAnyK_take 16 (.slice (some ⟨ub, uf, none⟩) N yc) rfl (by kernel_rfl) (fun _ _ _ h => h) hS rfl (by intro w hSw; go_simp) ?_
            simp only [List.getElem_toArray, List.getElem_cons_succ, List.getElem_cons_zero, Act.put, List.setIfInBounds_toArray, List.set_cons_zero, List.set_cons_succ]
            refine wpAnyK_take0 17 (.int .i64 (t : Int)) rfl (by kernel_rfl) (fun _ _ _ h => h) hS rfl (by intro w; go_simp) ?_
            simp only [List.getElem_toArray, List.getElem_cons_succ, List.getElem_cons_zero, Act.put, List.setIfInBounds_toArray, List.set_cons_zero, List.set_cons_succ]
            refine wpAnyK_take0 18 (.pointer (some ⟨ub, uf + t, none⟩)) rfl (by kernel_rfl) (fun _ _ _ h => h) hS rfl (by intro w; go_simp) ?_
            simp only [List.getElem_toArray, List.getElem_cons_succ, List.getElem_cons_zero, Act.put, List.setIfInBounds_toArray, List.set_cons_zero, List.set_cons_succ]
            refine wpAnyK_take 19 (.int .i64 u) rfl (by kernel_rfl) (fun _ _ _ h => h) hS rfl (by intro w hSw; go_simp) ?_
            simp only [List.getElem_toArray, List.getElem_cons_succ, List.getElem_cons_zero, Act.put, List.setIfInBounds_toArray, List.set_cons_zero, List.set_cons_succ]
            refine wpAnyK_take0 20 (.int .i64 (a + u)) rfl (by kernel_rfl) (fun _ _ _ h => h) hS rfl (by intro w; go_simp) ?_
            simp only [List.getElem_toArray, List.getElem_cons_succ, List.getElem_cons_zero, Act.put, List.setIfInBounds_toArray, List.set_cons_zero, List.set_cons_succ]
            refine wpAnyK_take0 21 (.int .i64 (min c (a + u))) rfl (by kernel_rfl) (fun _ _ _ h => h) hS rfl (by intro w; go_simp) ?_
            simp only [List.getElem_toArray, List.getElem_cons_succ, List.getElem_cons_zero, Act.put, List.setIfInBounds_toArray, List.set_cons_zero, List.set_cons_succ]
            refine wpAnyK_take0 22 (.pointer (some ⟨G, t, none⟩)) rfl (by kernel_rfl) (fun _ _ _ h => h) hS rfl (by intro w; go_simp) ?_
            simp only [List.getElem_toArray, List.getElem_cons_succ, List.getElem_cons_zero, Act.put, List.setIfInBounds_toArray, List.set_cons_zero, List.set_cons_succ]
            clear hw2
            have hcc := hS.1
            have hff := hu.at.2.1 t
            obtain ⟨o1, o2⟩ := hu.store t (min c (a + u))
            rw [← HEt.out, HPT.out] at o1
            have kr2 := kr.step o2 (fun q e hlt => by have := HGW.out; have := HRS.out; omega)
            have HO1 := Lib.hid o1
            clear hS hu kr o1 o2
            refine wpAnyK_tail 23 rfl (by kernel_rfl) ?_
            simp only [List.drop_succ_cons, List.drop_zero]
            go_wp2_with fail
            go_round
            case rel => exact ⟨t + 1, htt, by go_num, by have := HO1.out; rwa [HEt.out] at this, kr2⟩
            case measure => simp [intOf]; omega
          · have hte : t = N := by omega
            have ht1 : ¬ (t : Int) < (N : Int) := by omega
            have hu2 := hu
            rw [hte, HNX.out] at hu2
            have HU2 := Lib.hid hu2
            clear hu hu2
            go_wp2_with fail
            go_round
            case rel => exact ⟨j + 1, hlt, by go_num, HU2.out, kr⟩
            case measure => simp [intOf]; omega
    · have hje : j = N := by omega
      have hj1 : ¬ (j : Int) < (N : Int) := by omega
      rw [hje, HDN.out] at hu
      have HFN := Lib.hid (And.intro hu kr)
      clear hu kr
      go_wp2_with fail
      go_ret
      exact ⟨_, rfl, HFN.out.1.weak (by rw [HRS.out]; have := HGW.out; have := HRS.out; omega), HFN.out.2⟩
end Go.Proofs.YtdgcohoneijleaaGreat
