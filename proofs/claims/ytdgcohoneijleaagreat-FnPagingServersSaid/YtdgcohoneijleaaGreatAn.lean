import Derived.Test.YtdgcohoneijleaaGreatAm
/- the work lists, the least cost of a schedule: the program's walk -/
namespace Go.Proofs.YtdgcohoneijleaaGreat
open Go.RowKit

def wkL (D : List (List Int)) (k : Nat) (a q : List Int) (t : Nat) : List (List Int) := (List.range (t + 1)).map fun s => wkT D.length k (dD D) a q s
theorem wkL_len (D : List (List Int)) (k : Nat) (a q : List Int) (t : Nat) : (wkL D k a q t).length = t + 1 := by simp [wkL]
theorem wkL_get (D : List (List Int)) (k : Nat) (a q : List Int) {t s : Nat} (h : s ≤ t) : (wkL D k a q t).getD s [] = wkT D.length k (dD D) a q s := range_getD _ _ _ _ (by omega)
theorem wkL_step (D : List (List Int)) (k : Nat) (a q : List Int) (t : Nat) : wkL D k a q (t + 1) = wkL D k a q t ++ [nxL D.length k (dD D) (wkT D.length k (dD D) a q t) (q.getD t 0)] := by
  unfold wkL
  rw [List.range_succ, List.map_append]; rfl
theorem wk_in {D : List (List Int)} (hm : MetP D) {k : Nat} (hk : 1 ≤ k ∧ k ≤ 3) {a q : List Int} (ha : a ∈ cfs D.length k) (hq : Pts D.length q) (hl : q.length ≤ 60) {t : Nat} (ht : t ≤ q.length) :
    (wkT D.length k (dD D) a q t).length = nC D.length k ∧ ∀ i, i < nC D.length k → 0 ≤ (wkT D.length k (dD D) a q t).getD i 0 ∧ (wkT D.length k (dD D) a q t).getD i 0 ≤ 1000000 := by
  have := wkT_wl hk (metP_d hm).1 (metP_d hm).2 (a := a) ⟨(cfs_mem.1 ha).1, (cfs_mem.1 ha).2.1⟩ hq (by omega) t ht
  refine ⟨this.len, fun i hi => ?_⟩
  have := this.lo i hi
  omega
set_option maxRecDepth 100000 in
set_option maxHeartbeats 4000000 in
theorem lists_any (A B C : Nat → Prop) (wv av rv : Value) (D : List (List Int)) (k : Nat) (a q : List Int) (w : World) (hm : MetP D) (hk : 1 ≤ k ∧ k ≤ 3) (h : WkO A w wv D k) (ha : RI B w av a) (hac : a ∈ cfs D.length k)
    (hq : RI C w rv q) (hqp : Pts D.length q) (hql : q.length ≤ 60) :
    Calls Tryz.prog 27 #[wv, av, rv] w (Ret fun v w' => (∃ F, OII w.heap.size w' v (wkL D k a q q.length) F) ∧ Chg No w w') := by
  have hwv := h
  obtain ⟨b, dv, cv, ov, rfl, hB, hd, hc, ho⟩ := h.val
  obtain ⟨aa, ac, rfl, _⟩ := id ha
  obtain ⟨qa, qc, rfl, _⟩ := id hq
  obtain ⟨oa, oc, rfl⟩ := ho.shape
  have hol := cosT_len D k
  have hix := cix_val hac
  obtain ⟨ob, of, ya, yc, rfl, hob, hco, hor⟩ := ho.row (i := cix D.length k a) (by rw [hol]; exact hix.1)
  have hrw : (cosT D k).getD (cix D.length k a) [] = w0L D.length k (dD D) a := by rw [cosT_get D k hix.1, hix.2]
  have hrl := cosT_row D k hix.1
  rw [hrl] at hco hor
  rw [hrw] at hor
  have HIX := Lib.hid (fun W (kc : Chg No w W) => index_any No B b dv cv _ _ D.length k a W (hB.keep kc) (hc.keep kc) (ha.keep kc) hac (nC_le hm.1.2 hk.2))
  have HIL := Lib.hid hix.1
  have HNX := Lib.hid (fun (t : Nat) (ht : t ≤ q.length) (r : Int) (W : World) (lv : Value) (kc : Chg No w W) (hl : RI No W lv (wkT D.length k (dD D) a q t)) =>
    wnext_any A No _ lv D k _ r W hm hk (hwv.keep kc) hl (wk_in hm hk hac hqp hql ht).1 (wk_in hm hk hac hqp hql ht).2)
  have HWL := Lib.hid (fun (t : Nat) (ht : t ≤ q.length) => (wk_in hm hk hac hqp hql ht).1)
  obtain ⟨N, hN⟩ : ∃ N, nC D.length k = N := ⟨_, rfl⟩
  obtain ⟨x, hx⟩ : ∃ x, cix D.length k a = x := ⟨_, rfl⟩
  obtain ⟨O, hO⟩ : ∃ O, (cosT D k).length = O := ⟨_, rfl⟩
  rw [hN] at hco hor HIL HWL
  rw [hx] at hco HIX HIL
  rw [hO] at hB
  have HON := Lib.hid (show O = N by rw [← hO, hol, hN])
  have hxN : x < O := by rw [HON.out]; exact HIL.out
  have hxO : (x : Int) < (O : Int) := by omega
  have hx0 : (0 : Int) ≤ (x : Int) := Int.natCast_nonneg _
  clear hm hk hac hqp hwv h ha hN hx hO hol hix hrw hrl ho
  go_enter Tryz.func27, Tryz.ntmps27
  go_wp2_with fail
  refine wp_region_K (S := fun W => W.cell? ⟨b, 2, none⟩ = some (.slice (some ⟨ob, of, none⟩) O oc) ∧ W.cell? ⟨ob, of + x, none⟩ = some (.slice ya N yc)) (k := 10) (by kernel_rfl) ?_
  have kq : Chg No w (World.drew w) := drewN0 _
  have hS : (fun W : World => W.cell? ⟨b, 2, none⟩ = some (.slice (some ⟨ob, of, none⟩) O oc) ∧ W.cell? ⟨ob, of + x, none⟩ = some (.slice ya N yc)) w.drew := ⟨(hB.keep kq).c 2 _ rfl, (kq.cellD ob (of + x) hob (fun e => e)).trans hco⟩
  generalize w.drew = W at kq hS ⊢
  refine wpAnyK_take0 0 (.pointer (some ⟨b, 0, none⟩)) rfl (by kernel_rfl) (fun _ _ _ h => h) hS rfl (by intro w; go_simp) ?_
  simp only [List.getElem_toArray, List.getElem_cons_zero, Act.put, List.setIfInBounds_toArray, List.set_cons_zero, List.set_cons_succ]
  refine wpAnyK_take0 1 (.pointer (some ⟨b, 0, none⟩)) rfl (by kernel_rfl) (fun _ _ _ h => h) hS rfl (by intro w; go_simp) ?_
  simp only [List.getElem_toArray, List.getElem_cons_succ, List.getElem_cons_zero, Act.put, List.setIfInBounds_toArray, List.set_cons_zero, List.set_cons_succ]
  refine wpAnyK_take0 2 (.pointer (some ⟨b, 2, none⟩)) rfl (by kernel_rfl) (fun _ _ _ h => h) hS rfl (by intro w; go_simp) ?_
  simp only [List.getElem_toArray, List.getElem_cons_succ, List.getElem_cons_zero, Act.put, List.setIfInBounds_toArray, List.set_cons_zero, List.set_cons_succ]
  refine wpAnyK_takeT 3 (.slice (some ⟨ob, of, none⟩) O oc) rfl (by kernel_rfl) (fun _ _ _ h => h) hS rfl (by intro w hSw; go_simp) ?_
  simp only [List.getElem_toArray, List.getElem_cons_succ, List.getElem_cons_zero, Act.put, List.setIfInBounds_toArray, List.set_cons_zero, List.set_cons_succ]
  refine wpAnyK_take0 4 (.pointer (some ⟨b, 0, none⟩)) rfl (by kernel_rfl) (fun _ _ _ h => h) hS rfl (by intro w; go_simp) ?_
  simp only [List.getElem_toArray, List.getElem_cons_succ, List.getElem_cons_zero, Act.put, List.setIfInBounds_toArray, List.set_cons_zero, List.set_cons_succ]
  refine wpAnyK_take0 5 (.slice aa a.length ac) rfl (by kernel_rfl) (fun _ _ _ h => h) hS rfl (by intro w; go_simp) ?_
  simp only [List.getElem_toArray, List.getElem_cons_succ, List.getElem_cons_zero, Act.put, List.setIfInBounds_toArray, List.set_cons_zero, List.set_cons_succ]
  refine wpAnyK_1 6 (by kernel_rfl) (wpOpK' rfl rfl ?_)
  intro K hK
  refine ocall (f := 51) (args := #[.pointer (some ⟨b, 0, none⟩), .slice aa a.length ac]) (by go_simp) (HIX.out W kq) (fun v W1 h1 => hK.out _ _ ?_ ?_)
  · rw [← h1.2]; exact hS
  obtain ⟨rfl, rfl⟩ := h1
  clear hK K
  simp only [List.getElem_toArray, List.getElem_cons_succ, List.getElem_cons_zero, Act.put, List.setIfInBounds_toArray, List.set_cons_zero, List.set_cons_succ]
  refine wpAnyK_take0 7 (.pointer (some ⟨ob, of + x, none⟩)) rfl (by kernel_rfl) (fun _ _ _ h => h) hS rfl (by intro w; go_simp) ?_
  simp only [List.getElem_toArray, List.getElem_cons_succ, List.getElem_cons_zero, Act.put, List.setIfInBounds_toArray, List.set_cons_zero, List.set_cons_succ]
  refine wpAnyK_takeT 8 (.slice ya N yc) rfl (by kernel_rfl) (fun _ _ _ h => h) hS rfl (by intro w hSw; go_simp) ?_
  simp only [List.getElem_toArray, List.getElem_cons_succ, List.getElem_cons_zero, Act.put, List.setIfInBounds_toArray, List.set_cons_zero, List.set_cons_succ]
  refine wpAnyK_1 9 (by kernel_rfl) (wpOpK' rfl rfl ?_)
  intro K hK
  refine ocall (f := 29) (args := #[.slice ya N yc]) (by go_simp) (Clone_any _ _ _ W (hor.keep kq)) (fun v W1 h1 => hK.out _ _ ?_ ?_)
  · exact ⟨((kq.keep h1.2).cellD b 2 hB.lt (fun e => e)).trans (hB.c 2 _ rfl), ((kq.keep h1.2).cellD ob (of + x) hob (fun e => e)).trans hco⟩
  obtain ⟨ho1, k1⟩ := h1
  obtain ⟨va, vc, hv1, _⟩ := ho1.view
  have hw0 : (w0L D.length k (dD D) a).length = N := HWL.out 0 (Nat.zero_le _)
  rw [hw0] at hv1
  subst hv1
  clear hK K hS
  simp only [List.getElem_toArray, List.getElem_cons_succ, List.getElem_cons_zero, Act.put, List.setIfInBounds_toArray, List.set_cons_zero, List.set_cons_succ]
  have kk := kq.keep k1
  have hz1 := k1.size
  have hz0 := kq.size
  have h1 := OII.one (ho1.weak (by omega : w.heap.size ≤ W.heap.size)) (by omega)
  have k2 := kk.alloc (.cells #[.slice va N vc] 25)
  refine wpAnyK_tail 10 rfl (by kernel_rfl) ?_
  simp only [List.drop_succ_cons, List.drop_zero]
  have HQL : Hid (q.length ≤ 60) := Lib.hid hql
  clear ho1 k1 hw0 hz1 hz0 kq hor hco hB hc hd
  go_wp2_with fail
  generalize World.alloc W1 _ = W2 at h1 k2 ⊢
  go_loopw [7, 23] (fun o z wr => ∃ (t : Nat) (F : Nat → Prop), t ≤ q.length ∧ z = .int .i64 (t : Int) ∧ OII w.heap.size wr o (wkL D k a q t) F ∧ Chg No w wr) (fun _ z _ => q.length - (intOf z).toNat)
  case atStart => exact ⟨0, _, Nat.zero_le _, rfl, h1, k2⟩
  case round =>
    clear h1 k2
    obtain ⟨t, F, ht, rfl, hO, kr⟩ := hrel
    have ht0 : (0 : Int) ≤ (t : Int) := Int.natCast_nonneg _
    by_cases hlt : t < q.length
    · have ht1 : (t : Int) < (q.length : Int) := by omega
      have hwt : IntKind.i64.wrap ((t : Int) + 1) = (t : Int) + 1 := IntWalk.i64_in _ (by omega)
      have hll := wkL_len D k a q t
      have HLG := Lib.hid (wkL_get D k a q (Nat.le_refl t))
      have HSP := Lib.hid (wkL_step D k a q t)
      obtain ⟨M, hM⟩ : ∃ M, wkL D k a q t = M := ⟨_, rfl⟩
      rw [hM] at hO hll HLG HSP
      obtain ⟨ma, mc, rfl⟩ := hO.readNo.shape
      obtain ⟨lb, lf, za, zc, hsl, hlb, hcl, hrow⟩ := hO.readNo.row (i := t) (by omega)
      subst hsl
      have hwl := HWL.out t ht
      rw [HLG.out, hwl] at hcl hrow
      have hrow' : RI No wr (.slice za N zc) (wkT D.length k (dD D) a q t) := hrow
      obtain ⟨qb, qf, rfl, hqb, hcq⟩ := (hq.keep kr).cellN (j := t) hlt
      obtain ⟨r, hr⟩ : ∃ r, q.getD t 0 = r := ⟨_, rfl⟩
      rw [hr] at hcq HSP
      have HNX1 := Lib.hid (HNX.out t ht r wr _ kr hrow')
      obtain ⟨nx, hnx⟩ : ∃ nx, nxL D.length k (dD D) (wkT D.length k (dD D) a q t) r = nx := ⟨_, rfl⟩
      rw [hnx] at HSP HNX1
      have hM1 : (t : Int) < (M.length : Int) := by omega
      have hM2 : M.length ≤ 62 := by have := HQL.out; omega
      clear hM hll hwl hrow hr hnx
      go_wp2_with fail
      refine HNX1.out.mono ?_
      rintro e w3 ⟨v3, rfl, hn, kn⟩
      obtain ⟨na, nc, rfl, _⟩ := hn.view
      have hO1 := hO.keep kn
      have kr1 := kr.keep kn
      have hz := kr.size
      have hzn := kn.size
      have hd : ∀ p, own (.slice na nx.length nc) p → ¬ F p := fun p hp hF => by have := (hn.lt p hp).1; have := (hO.lt p hF).2; omega
      have hlen : M.length < 1099511627776 := by omega
      have hbase : w.heap.size ≤ w3.heap.size := by omega
      have hnw := hn.weak (show w.heap.size ≤ wr.heap.size from hz)
      clear hcl hcq hrow'
      go_wp2_with (at_builtin; refine wappR rfl (.tmp 28) (.tmp 36) rfl hO1 hnw hd rfl rfl hlen hbase ?_)
      intro v4 w4 F4 h4 k4 hF4 hFo
      rw [← HSP.out] at h4
      have HO4 := Lib.hid h4
      have kr4 := kr1.step k4 (fun p hp hl => by have := (hO1.lt p (hFo p hp)).1; omega)
      obtain ⟨v4a, v4c, rfl⟩ := h4.readNo.shape
      clear hO hO1 kr kr1 hd h4
      go_wp2_with fail
      go_round
      case rel => exact ⟨t + 1, F4, hlt, by go_num, HO4.out, kr4⟩
      case measure => simp [intOf]; omega
    · have hte : t = q.length := by omega
      have ht1 : ¬ (t : Int) < (q.length : Int) := by omega
      rw [hte] at hO
      have HFN := Lib.hid (And.intro hO kr)
      clear hO kr
      go_wp2_with fail
      go_ret
      exact ⟨_, rfl, ⟨F, HFN.out.1⟩, HFN.out.2⟩
end Go.Proofs.YtdgcohoneijleaaGreat
