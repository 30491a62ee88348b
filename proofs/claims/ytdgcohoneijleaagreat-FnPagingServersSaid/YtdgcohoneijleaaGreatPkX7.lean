import Derived.Test.YtdgcohoneijleaaGreatAn
import Derived.Test.YtdgcohoneijleaaGreatPkX3
/- the least cost of a schedule: the program's walk -/
namespace Go.Proofs.YtdgcohoneijleaaGreat
open Go.RowKit

theorem minOf_minL {l : List Int} (h : l ≠ []) : Lib.minOf l = minL l := by
  cases l with
  | nil => exact absurd rfl h
  | cons x l =>
    show List.foldl min (min x x) l = lowF l x
    have e : min x x = x := by omega
    rw [e]
    unfold lowF
    congr 1
    funext m c
    by_cases h1 : c < m
    · rw [if_pos h1]; omega
    · rw [if_neg h1]; omega
theorem belowB_pts {n : Nat} {l : List Int} (h : belowB n l = true) : Pts n l := fun x hx => by
  have := inB_iff.1 (List.all_eq_true.1 h x hx)
  omega
theorem servB_facts {D : List (List Int)} {a q : List Int} (h : servB D a q = true) : MetP D ∧ (1 ≤ a.length ∧ a.length ≤ 3) ∧ a ∈ cfs D.length a.length ∧ Pts D.length q ∧ q.length ≤ 60 := by
  unfold servB confB sortB at h
  simp only [Bool.and_eq_true, decide_eq_true_eq] at h
  obtain ⟨⟨⟨h1, ⟨h2, h3⟩, h4⟩, h5⟩, h6⟩ := h
  have h2 := inB_iff.1 h2
  exact ⟨bP_iff.1 h1, ⟨by omega, by omega⟩, cfs_mem.2 ⟨rfl, belowB_pts h3, h4⟩, belowB_pts h6, by omega⟩
theorem servB_yes {D : List (List Int)} {a q : List Int} (h1 : MetP D) (h2 : 1 ≤ a.length ∧ a.length ≤ 3) (h3 : a ∈ cfs D.length a.length) (h4 : Pts D.length q) (h5 : q.length ≤ 60) : servB D a q = true := by
  have b : ∀ l : List Int, Pts D.length l → belowB D.length l = true := fun l hl => List.all_eq_true.2 fun x hx => inB_iff.2 (by have := hl x hx; omega)
  unfold servB confB sortB
  simp only [Bool.and_eq_true, decide_eq_true_eq]
  have := cfs_mem.1 h3
  exact ⟨⟨⟨bP_iff.2 h1, ⟨inB_iff.2 (by omega), b _ this.2.1⟩, this.2.2⟩, by omega⟩, b _ h4⟩
set_option maxRecDepth 100000 in
set_option maxHeartbeats 1000000 in
theorem leastWork_any (A B C : Nat → Prop) (dv av rv : Value) (D : List (List Int)) (a q : List Int) (w : World) (h : RII A w dv D) (ha : RI B w av a) (hq : RI C w rv q) (hs : servB D a q = true) :
    Calls Tryz.prog 21 #[.agg #[dv], av, rv] w (Ret fun v w' => v = .int .i64 (leastW D.length a.length (dD D) a q) ∧ Chg No w w') := by
  obtain ⟨hm, hk, hac, hqp, hql⟩ := servB_facts hs
  obtain ⟨da, dc, rfl⟩ := h.shape
  obtain ⟨aa, ac, rfl, _⟩ := id ha
  obtain ⟨qa, qc, rfl, _⟩ := id hq
  have HW := Lib.hid (fun W (kc : Chg No w W) => worksOf_any A _ D a.length W (h.keep kc) hm hk)
  have HL := Lib.hid (fun W wv (kc : Chg No w W) (hw : WkO A W wv D a.length) => lists_any A B C wv _ _ D a.length a q W hm hk hw (ha.keep kc) hac (hq.keep kc) hqp hql)
  have HG := Lib.hid (wkL_get D a.length a q (Nat.le_refl q.length))
  have HLL := Lib.hid (wkL_len D a.length a q q.length)
  have hwi := wk_in hm hk hac hqp hql (Nat.le_refl q.length)
  have hn1 : 1 ≤ nC D.length a.length := cfs_pos _ hm.1.2 hm.1.1 _ hk.2
  have hn2 : nC D.length a.length ≤ 56 := nC_le hm.1.2 hk.2
  have HE : Hid (leastW D.length a.length (dD D) a q = minL (wkT D.length a.length (dD D) a q q.length)) := Lib.hid rfl
  obtain ⟨T, hT⟩ : ∃ T, wkT D.length a.length (dD D) a q q.length = T := ⟨_, rfl⟩
  obtain ⟨M, hM⟩ : ∃ M, wkL D a.length a q q.length = M := ⟨_, rfl⟩
  rw [hT] at HG hwi HE
  rw [hM] at HG HL HLL
  have htl := hwi.1
  rw [HE.out]
  have HMN := Lib.hid (minOf_minL (l := T) (by intro e; rw [e] at htl; simp at htl; omega))
  have HTL : Hid (1 ≤ T.length ∧ T.length ≤ 56) := Lib.hid (by omega)
  have HQ : Hid (q.length ≤ 60) := Lib.hid hql
  clear hm hk hac hqp hql hwi hn1 hn2 HE hT hM hs htl h ha hq
  go_enter Tryz.func21, Tryz.ntmps21
  go_wp2_with fail
  refine bx1 (R := fun W => Calls _ _ _ W _) (fun W0 k0 b0 => ?_)
  refine (HW.out W0 k0).mono ?_
  rintro e w1 ⟨wv, rfl, hwk, k1⟩
  have kk := k0.keep k1
  have hwk' := hwk
  obtain ⟨bb, _, _, _, rfl, _⟩ := hwk.val
  clear hwk b0
  go_wp2_with fail
  refine (HL.out w1 _ kk hwk').mono ?_
  rintro e w2 ⟨lv, rfl, ⟨F, hO⟩, k2⟩
  have kk2 := kk.keep k2
  obtain ⟨la, lc, rfl⟩ := hO.readNo.shape
  obtain ⟨lb, lf, za, zc, hsl, hlb, hcl, hrow⟩ := hO.readNo.row (i := q.length) (by have := HLL.out; omega)
  subst hsl
  rw [HG.out] at hcl hrow
  have hq0 : (0 : Int) ≤ (q.length : Int) := Int.natCast_nonneg _
  have hq1 : (q.length : Int) < (M.length : Int) := by have := HLL.out; omega
  obtain ⟨zb, zo, rfl, hzb, hz0⟩ := hrow.cellN (j := 0) (by have := HTL.out; omega)
  have HMI := Lib.hid (Tryz.slices_Min_int zb zo T.length zc T w2 (by have := HTL.out; omega) (Nat.le_refl _) (by have := HTL.out; omega) (fun j hj => RI.at1 hrow hj))
  rw [List.take_length, HMN.out] at HMI
  clear hO hrow hz0 hwk' k0 k1 k2 kk
  go_wp2_with fail
  refine HMI.out.mono ?_
  rintro e w3 ⟨rfl, rfl⟩
  go_wp2_with fail
  go_ret
  exact ⟨_, rfl, rfl, kk2⟩
set_option maxRecDepth 100000 in
set_option maxHeartbeats 1000000 in
theorem LeastWork_any (A B C : Nat → Prop) (dv av rv : Value) (D : List (List Int)) (a q : List Int) (w : World) (h : RII A w dv D) (ha : RI B w av a) (hq : RI C w rv q) :
    Calls Tryz.prog 9 #[.agg #[dv], av, rv] w (Ret2 fun v0 v1 w' => v0 = .int .i64 (if servB D a q then leastW D.length a.length (dD D) a q else 0) ∧ v1 = .bool (servB D a q) ∧ Chg No w w') := by
  obtain ⟨da, dc, rfl⟩ := h.shape
  obtain ⟨aa, ac, rfl, _⟩ := id ha
  obtain ⟨qa, qc, rfl, _⟩ := id hq
  have HW := Lib.hid (fun W (kc : Chg No w W) hs => leastWork_any A B C _ _ _ D a q W (h.keep kc) (ha.keep kc) (hq.keep kc) hs)
  have HS := Lib.hid (fun W (kc : Chg No w W) => isServed_any A B C _ _ _ D a q W (h.keep kc) (ha.keep kc) (hq.keep kc))
  cases hs : servB D a q
  · rw [if_neg Bool.false_ne_true]
    rw [hs] at HS
    clear HW hs h ha hq
    go_enter Tryz.func9, Tryz.ntmps9
    go_wp2_with fail
    refine bx1 (R := fun W => Calls _ _ _ W _) (fun W0 k0 b0 => ?_)
    refine (HS.out W0 k0).mono ?_
    rintro e w1 ⟨_, rfl, rfl, k1⟩
    have kk := k0.keep k1
    go_wp2_with fail
    go_ret2
    exact ⟨_, _, rfl, rfl, rfl, kk⟩
  · rw [if_pos rfl]
    have HW1 := Lib.hid (fun W kc => HW.out W kc hs)
    rw [hs] at HS
    obtain ⟨z, hz⟩ : ∃ z, leastW D.length a.length (dD D) a q = z := ⟨_, rfl⟩
    rw [hz] at HW1 ⊢
    clear HW hs hz h ha hq
    go_enter Tryz.func9, Tryz.ntmps9
    go_wp2_with fail
    refine bx1 (R := fun W => Calls _ _ _ W _) (fun W0 k0 b0 => ?_)
    refine (HS.out W0 k0).mono ?_
    rintro e w1 ⟨_, rfl, rfl, k1⟩
    have kk := k0.keep k1
    have g0 := (b0.keep k1).c 0 _ rfl
    go_wp2_with fail
    refine (HW1.out w1 kk).mono ?_
    rintro e w2 ⟨_, rfl, rfl, k2⟩
    go_wp2_with fail
    go_ret2
    exact ⟨_, _, rfl, rfl, rfl, kk.keep k2⟩
end Go.Proofs.YtdgcohoneijleaaGreat

/- a server moved, the work function algorithm's step: the program's walk -/
namespace Go.Proofs.YtdgcohoneijleaaGreat
open Go.RowKit

theorem srtL_sort (l : List Int) : (l.mergeSort fun x y => decide (x ≤ y)) = srtL l :=
  sorted_uni ((List.mergeSort_perm l _).trans (srtL_perm l).symm) (sort_sorted l) (srtL_sorted l)
theorem atI_get {a : List Int} {s : Nat} (h : s < a.length) : atI a (a.getD s 0) = (a.idxOf (a.getD s 0) : Int) ∧ a.idxOf (a.getD s 0) < a.length := by
  have hm : a.getD s 0 ∈ a := by rw [List.getD_eq_getElem?_getD, List.getElem?_eq_getElem h]; exact List.getElem_mem h
  exact ⟨by rw [atI, if_pos hm], List.idxOf_lt_length_of_mem hm⟩
theorem swp_idx {a : List Int} {s : Nat} (h : s < a.length) (r : Int) : srtL (a.set (a.idxOf (a.getD s 0)) r) = swp a s r := by
  have := swp_first a r s h
  rw [List.getD_eq_getElem?_getD, List.getElem?_eq_getElem h]
  exact this
set_option maxRecDepth 100000 in
set_option maxHeartbeats 1000000 in
theorem moved_any (A : Nat → Prop) (av : Value) (a : List Int) (s : Nat) (r : Int) (w : World) (h : RI A w av a) (hs : s < a.length) :
    Calls Tryz.prog 54 #[av, .int .i64 (a.getD s 0), .int .i64 r] w (Ret fun v w' => OI w.heap.size w' v (swp a s r) ∧ Chg No w w') := by
  obtain ⟨aa, ac, rfl, _⟩ := id h
  obtain ⟨h1, h2⟩ := atI_get hs
  have HSW := Lib.hid (swp_idx hs r)
  obtain ⟨i, hi⟩ : ∃ i, a.idxOf (a.getD s 0) = i := ⟨_, rfl⟩
  rw [hi] at h1 h2 HSW
  obtain ⟨p, hp⟩ : ∃ p, a.getD s 0 = p := ⟨_, rfl⟩
  rw [hp] at h1 ⊢
  have HP := Lib.hid h1
  clear hi hp hs h1
  go_enter Tryz.func54, Tryz.ntmps54
  go_wp2_with fail
  refine (Clone_any _ _ a w h).mono ?_
  rintro e w1 ⟨cv, rfl, hc, k1⟩
  obtain ⟨g, gc, rfl, hgl⟩ : ∃ g gc, cv = .slice (some ⟨g, 0, none⟩) a.length gc ∧ g < w1.heap.size := by
    obtain ⟨ca, cc, rfl, h3, h4, h5⟩ := hc.view
    obtain ⟨g, rfl, _, h6, _⟩ := h5 (by omega)
    exact ⟨g, cc, rfl, h6⟩
  go_wp2_with fail
  refine (Index_any _ _ a p w1 hc.readNo).mono ?_
  rintro e w2 ⟨rfl, rfl⟩
  rw [HP.out]
  have hi0 : (0 : Int) ≤ (i : Int) := Int.natCast_nonneg _
  have hi1 : (i : Int) < (a.length : Int) := by omega
  have hcc := hc.at.1 i h2
  have hff := hc.at.2.1 i
  obtain ⟨o1, o2⟩ := hc.store i r
  have hgw : w.heap.size ≤ g := (hc.lt g (own_slice.2 rfl)).1
  have kk := k1.step o2 (fun q e hlt => by omega)
  have HO := Lib.hid o1
  clear hc o1 h
  go_wp2_with fail
  generalize w1.setCell _ _ = W at kk HO ⊢
  refine (Sort_any w.heap.size _ (a.set i r) W HO.out).mono ?_
  rintro e w3 ⟨_, rfl, rfl, o3, k3⟩
  rw [srtL_sort, HSW.out] at o3
  have kk3 := kk.step k3 (fun q e hlt => by have := own_slice.1 e; omega)
  have HO3 := Lib.hid o3
  clear o3 HO
  go_wp2_with fail
  go_ret
  exact ⟨_, rfl, HO3.out, kk3⟩
end Go.Proofs.YtdgcohoneijleaaGreat
