import Derived.Test.YtndhijckbponkaaGreatRv
import Derived.Test.YtndhijckbponkaaGreatRt
import Derived.Test.YtndhijckbponkaaGreatRn
import Derived.Test.YtndhijckbponkaaGreatPkX13
/- the cost of an algorithm, the least cost: the reference's walk -/
namespace Go.Proofs.YtndhijckbponkaaGreat
open Go.RowKit

theorem bl_cong {g g' : Nat → Int} : ∀ m, (∀ i, i < m → g i = g' i) → bl (fun _ => true) g m = bl (fun _ => true) g' m
  | 0, _ => rfl
  | m + 1, h => by simp only [bl, bl_cong m (fun i hi => h i (by omega)), h m (by omega)]
set_option maxRecDepth 100000 in
set_option maxHeartbeats 2000000 in
theorem l8Opt_any (A B : Nat → Prop) (v rv : Value) (p : Pr) (S : Nat) (q : List Int) (w : World) (hp : PrP p) (h : RPr A w v p) (hq : RI B w rv q) (hS : S < p.mv.length) (hqr : ∀ r ∈ q, 0 ≤ r ∧ r < (p.sv.length : Int)) (hql : q.length ≤ 60) :
    Calls Tryz.prog 48 #[v, .int .i64 (S : Int), rv] w (Ret fun r w' => r = .int .i64 (optW p S q) ∧ Chg No w w') := by
  have hv := h
  obtain ⟨mv, sv, rfl, hm, hs⟩ := h
  obtain ⟨ma, mc, rfl⟩ := hm.shape
  obtain ⟨sa, sc, rfl⟩ := hs.shape
  obtain ⟨qa, qc, rfl, _⟩ := id hq
  have HP := Lib.hid (And.intro hp hqr)
  have k0 := (Chg.refl No w).alloc (.cells #[.slice ma p.mv.length mc, .slice sa p.sv.length sc] 26)
  have hp1 := hp.1.1
  clear hp hqr hm hs
  go_enter Tryz.func48, Tryz.ntmps48
  go_wp2_with fail
  refine (l8Work_any A B _ _ p S q _ HP.out.1 (hv.keep k0) (hq.keep k0) hS HP.out.2 hql).mono ?_
  rintro e w1 ⟨x, rfl, l, hl, HW, k1⟩
  have kk := k0.keep k1
  have HO : Hid ((bl (fun _ => true) (fun i => l.getD i 0) l.length).2 = optW p S q) := Lib.hid (by
    rw [optW_F, HW.1, bl_cong p.mv.length HW.2])
  have HNN : Hid (1 ≤ l.length ∧ ∀ i, i < l.length → 0 ≤ l.getD i 0) := Lib.hid ⟨by rw [HW.1]; omega, fun i hi => by
    rw [HW.1] at hi
    rw [HW.2 i hi]
    exact (workF_in HP.out.1 hS HP.out.2 q.length (Nat.le_refl _) i hi).1⟩
  obtain ⟨la, lc, rfl, _⟩ := id hl
  clear HW hv hq k0 k1
  go_wp2_with fail
  refine (l8LeastX_any No _ l _ hl HNN.out.1 HNN.out.2).mono ?_
  rintro e w2 ⟨rfl, rfl⟩
  rw [HO.out]
  go_wp2_with fail
  go_ret
  exact ⟨_, rfl, rfl, kk⟩
set_option maxRecDepth 100000 in
set_option maxHeartbeats 2000000 in
theorem l8Cost_any (A B C : Nat → Prop) (v nv rv : Value) (p : Pr) (nx : List (List Int)) (S : Nat) (q : List Int) (w : World) (hp : PrP p) (h : RPr A w v p) (hn : AlgP p nx) (hnx : RII B w nv nx) (hq : RI C w rv q) (hS : S < p.mv.length) (hqr : ∀ r ∈ q, 0 ≤ r ∧ r < (p.sv.length : Int)) (hql : q.length ≤ 60) :
    Calls Tryz.prog 43 #[v, nv, .int .i64 (S : Int), rv] w (Ret fun r w' => r = .int .i64 (rest p (algT nx) S [] q) ∧ Chg No w w') := by
  have hv := h
  obtain ⟨mv, sv, rfl, hm, hs⟩ := h
  obtain ⟨ma, mc, rfl⟩ := hm.shape
  obtain ⟨sa, sc, rfl⟩ := hs.shape
  obtain ⟨qa, qc, rfl, _⟩ := id hq
  obtain ⟨na, nc, rfl⟩ := hnx.shape
  have HP := Lib.hid (And.intro hp (And.intro hn hqr))
  have b0 := BoxN.new w #[.slice ma p.mv.length mc, .slice sa p.sv.length sc] 26
  have k0 := (Chg.refl No w).alloc (.cells #[.slice ma p.mv.length mc, .slice sa p.sv.length sc] 26)
  obtain ⟨R0, hR0⟩ : ∃ R, w.heap.size = R := ⟨_, rfl⟩
  rw [hR0] at b0
  have HRS := Lib.hid hR0
  clear hp hqr hn hm hs
  go_enter Tryz.func43, Tryz.ntmps43
  go_wp2_with fail
  try rw [hR0]
  generalize w.alloc _ = W1 at b0 k0 ⊢
  clear hR0
  refine wp_region_K (S := fun W => W.cell? ⟨R0, 0, none⟩ = some (.slice ma p.mv.length mc) ∧ W.cell? ⟨R0, 1, none⟩ = some (.slice sa p.sv.length sc)) (k := 8) (by kernel_rfl) ?_
  replace k0 := k0.keep (drewN0 _)
  replace b0 := b0.keep (drewN0 _)
  generalize W1.drew = W2 at k0 b0 ⊢
  have hS := (⟨b0.c 0 _ rfl, b0.c 1 _ rfl⟩ : W2.cell? ⟨R0, 0, none⟩ = some (.slice ma p.mv.length mc) ∧ W2.cell? ⟨R0, 1, none⟩ = some (.slice sa p.sv.length sc))
  refine wpAnyK_takeT 0 (.agg #[.slice ma p.mv.length mc, .slice sa p.sv.length sc]) rfl (by kernel_rfl) (fun _ _ _ h => h) hS rfl (by intro w hSw; go_simp) ?_
  simp only [List.getElem_toArray, List.getElem_cons_zero, Act.put, List.setIfInBounds_toArray, List.set_cons_zero, List.set_cons_succ]
  refine wpAnyK_take0 1 (.int .i64 (S : Int)) rfl (by kernel_rfl) (fun _ _ _ h => h) hS rfl (by intro w; go_simp) ?_
  simp only [List.getElem_toArray, List.getElem_cons_succ, List.getElem_cons_zero, Act.put, List.setIfInBounds_toArray, List.set_cons_zero, List.set_cons_succ]
  refine wpAnyK_take0 2 (.slice qa q.length qc) rfl (by kernel_rfl) (fun _ _ _ h => h) hS rfl (by intro w; go_simp) ?_
  simp only [List.getElem_toArray, List.getElem_cons_succ, List.getElem_cons_zero, Act.put, List.setIfInBounds_toArray, List.set_cons_zero, List.set_cons_succ]
  refine wpAnyK_take0 3 (.slice na nx.length nc) rfl (by kernel_rfl) (fun _ _ _ h => h) hS rfl (by intro w; go_simp) ?_
  simp only [List.getElem_toArray, List.getElem_cons_succ, List.getElem_cons_zero, Act.put, List.setIfInBounds_toArray, List.set_cons_zero, List.set_cons_succ]
  refine wpAnyK_take0 4 (.int .i64 (S : Int)) rfl (by kernel_rfl) (fun _ _ _ h => h) hS rfl (by intro w; go_simp) ?_
  simp only [List.getElem_toArray, List.getElem_cons_succ, List.getElem_cons_zero, Act.put, List.setIfInBounds_toArray, List.set_cons_zero, List.set_cons_succ]
  refine wpAnyK_take0 5 (.slice qa q.length qc) rfl (by kernel_rfl) (fun _ _ _ h => h) hS rfl (by intro w; go_simp) ?_
  simp only [List.getElem_toArray, List.getElem_cons_succ, List.getElem_cons_zero, Act.put, List.setIfInBounds_toArray, List.set_cons_zero, List.set_cons_succ]
  clear hS
  refine wpAnyK_1 6 (by kernel_rfl) (wpOpK' rfl rfl ?_)
  intro K hK
  refine ocall (f := 106) (args := #[.slice na nx.length nc, .int .i64 (S : Int), .slice qa q.length qc]) (by go_simp) (l8States_any B C _ _ p nx S q W2 HP.out.2.1 (hnx.keep k0) (hq.keep k0) hS HP.out.2.2 hql) (fun v3 w3 h3 => ?_)
  obtain ⟨l3, h3, HL3, k3⟩ := h3
  have kk3 := k0.keep k3
  have bb3 := b0.keep k3
  have h4 := h3.readNo
  refine hK.out _ _ ⟨bb3.c 0 _ rfl, bb3.c 1 _ rfl⟩ ?_
  clear hK K h3 b0 k0 k3
  obtain ⟨v3a, v3c, rfl, _⟩ := id h4
  simp only [List.getElem_toArray, List.getElem_cons_succ, List.getElem_cons_zero, Act.put, List.setIfInBounds_toArray, List.set_cons_zero, List.set_cons_succ]
  refine wpAnyK_1 7 (by kernel_rfl) (wpOpK' rfl rfl ?_)
  intro K hK
  refine ocall (f := 105) (args := #[.agg #[.slice ma p.mv.length mc, .slice sa p.sv.length sc], .int .i64 (S : Int), .slice qa q.length qc, .slice v3a l3.length v3c]) (by go_simp) (l8Sum_any A C No _ _ _ p nx S q l3 w3 HP.out.1 HP.out.2.1 (hv.keep kk3) (hq.keep kk3) h4 HL3 hS HP.out.2.2 hql) (fun v4 w4 h4' => ?_)
  obtain ⟨rfl, k4⟩ := h4'
  have kk4 := kk3.keep k4
  have bb4 := bb3.keep k4
  refine hK.out _ _ ⟨bb4.c 0 _ rfl, bb4.c 1 _ rfl⟩ ?_
  clear hK K h4 bb3 kk3 k4
  simp only [List.getElem_toArray, List.getElem_cons_succ, List.getElem_cons_zero, Act.put, List.setIfInBounds_toArray, List.set_cons_zero, List.set_cons_succ]
  refine wpAnyK_tail 8 rfl (by kernel_rfl) ?_
  simp only [List.drop_succ_cons, List.drop_zero]
  go_wp2_with fail
  go_ret
  exact ⟨_, rfl, rfl, kk4⟩
end Go.Proofs.YtndhijckbponkaaGreat

/- what an algorithm pays: bounds -/
namespace Go.Proofs.YtndhijckbponkaaGreat
open Go.RowKit

theorem rest_in {p : Pr} (hp : PrP p) {nx : List (List Int)} (hn : AlgP p nx) {S : Nat} (hS : S < p.mv.length) {q : List Int} (hq : ∀ r ∈ q, 0 ≤ r ∧ r < (p.sv.length : Int)) : 0 ≤ rest p (algT nx) S [] q ∧ rest p (algT nx) S [] q ≤ 119 * (q.length : Int) := by
  have h : ∀ k, k ≤ q.length → 0 ≤ coTo p (algT nx) S q k ∧ coTo p (algT nx) S q k ≤ 119 * (k : Int) := by
    intro k
    induction k with
    | zero => intro _; unfold coTo; omega
    | succ k ih =>
      intro hk
      have h1 := ih (by omega)
      have hx := stTo_lt hn.tau hS hq k (by omega)
      have hy := stTo_lt hn.tau hS hq (k + 1) hk
      have hqm : q.getD k 0 ∈ q := by rw [List.getD_eq_getElem?_getD, List.getElem?_eq_getElem (by omega : k < q.length)]; exact List.getElem_mem _
      obtain ⟨hr0, hr1⟩ := hq _ hqm
      have hr : (q.getD k 0).toNat < p.sv.length := by omega
      have h2 := (hp.mv_in hx hy).1
      have h3 := hp.cost _ _ _ hx hy hr
      have h4 := hn.tau (stTo (algT nx) S q k) (q.take k) (q.getD k 0).toNat hx hr
      have h5 : (q.take k) ++ [((q.getD k 0).toNat : Int)] = q.take (k + 1) := by
        rw [Int.toNat_of_nonneg hr0, List.take_add_one, List.getElem?_eq_getElem (by omega : k < q.length), List.getD_eq_getElem?_getD, List.getElem?_eq_getElem (by omega : k < q.length)]
        rfl
      rw [h5] at h4
      have h6 : 0 ≤ svA p (q.getD k 0).toNat (stTo (algT nx) S q (k + 1)) := by
        have := h4.2
        unfold okA at this
        exact of_decide_eq_true this
      show 0 ≤ coTo p (algT nx) S q k + (mvA p (stTo (algT nx) S q k) (stTo (algT nx) S q (k + 1)) + svA p (q.getD k 0).toNat (stTo (algT nx) S q (k + 1))) ∧ coTo p (algT nx) S q k + (mvA p (stTo (algT nx) S q k) (stTo (algT nx) S q (k + 1)) + svA p (q.getD k 0).toNat (stTo (algT nx) S q (k + 1))) ≤ _
      push_cast
      omega
  have := h q.length (Nat.le_refl _)
  rwa [co_all] at this
end Go.Proofs.YtndhijckbponkaaGreat
