import Derived.Test.YtegipldajbkjfaaUn
/- an order of items drawn; what is drawn for renaming -/
namespace Go.Proofs.Ytegipldajbkjfaa
open Go.RowKit

set_option maxRecDepth 100000 in
set_option maxHeartbeats 4000000 in
theorem order3_any (b B K : Nat) (n : Int) (w : World) (h : Cur w b B K) (hB : B ≤ w.heap.size) (hK : K ≤ 800000000) :
    Calls Try.prog 15 #[.pointer (some ⟨b, 0, none⟩), .int .i64 n] w fun e w' => ∃ (v : Value) (l : List Int), e = .returned v ∧ OI w.heap.size w' v l ∧ l.length ≤ 9 ∧ Cur w' b B (K + 200) ∧ Chg (fun q => q = b) w w' := by
  have hb := h.lt
  have hbB := h.ltB
  have hch0 := (Chg.refl (fun q => q = b) w).alloc (.cells #[] 3)
  have ho0 : OI w.heap.size (w.alloc (.cells #[] 3)) (.slice (some ⟨w.heap.size, 0, none⟩) 0 0) [] := OI.zero (Nat.le_refl _)
  have h0 := h.keep ((Chg.refl No w).alloc (.cells #[] 3))
  clear h
  obtain ⟨m, hm⟩ : ∃ m, min n 8 = m := ⟨_, rfl⟩
  have hm8 : m ≤ 8 := by omega
  go_enter Try.func15, Try.ntmps15
  go_wp2_with fail
  go_loopw [5, 6] (fun o i wr => ∃ l : List Int, i = .int .i64 l.length ∧ l.length ≤ 8 ∧ OI w.heap.size wr o l ∧ Cur wr b B (K + 10 * l.length) ∧ Chg (fun q => q = b) w wr) (fun _ i _ => 10 - (intOf i).toNat)
  case atStart => exact ⟨[], rfl, by simp, ho0, h0, hch0⟩
  case round =>
    clear h0 ho0 hch0
    obtain ⟨l, rfl, hl8, ho, hcur, hch⟩ := hrel
    have hsz := hch.size
    obtain ⟨oa, ocap, rfl, hoc, hom, hview⟩ := id ho.view
    have hw0 : IntKind.i64.wrap ((l.length : Int) + 1) = (l.length : Int) + 1 := IntWalk.i64_in _ (by omega)
    have hne : ∀ q, own _ q → ¬ q = b := fun q hq e => by have := (ho.lt q hq).1; omega
    by_cases hlt : (l.length : Int) < m
    · clear hview
      go_wp2_with (first
        | (go_at_call 26; refine (l1Least_any _ _ _).mono ?_; rintro e w' ⟨rfl, rfl⟩; rw [hm])
        | (go_at_call 24; refine (pick_any b B (K + 10 * l.length) _ wr hcur (by omega) (by omega)).mono ?_; rintro e w1 ⟨x, rfl, hx0, hx1, hx2, hc1, hk1⟩; obtain ⟨k, rfl⟩ : ∃ k : Nat, x = (k : Int) := ⟨x.toNat, by omega⟩; have hkl : k ≤ l.length := (by omega); have ho1 := ho.step hk1 (fun q hq e => hne q hq e); have kk1 := hch.trans hk1; have hs1 := hk1.size; have hrd := ho1.readNo; obtain ⟨x1, hx1, hR1⟩ := hrd.upto k _ rfl hkl; obtain ⟨x2, hx2, hR2⟩ := hrd.from k _ rfl hkl))
      refine wp_region_K (S := fun _ => True) (k := 10) (by kernel_rfl) ?_
      have hS : (fun _ : World => True) w1 := trivial
      have k0 : Chg No w1 w1.drew := (Chg.refl No w1).drew
      have hR1 := hR1.keep k0
      have hR2 := hR2.keep k0
      have hc1 := hc1.keep k0
      have kk1 := kk1.keep k0
      have hz0 := k0.size
      clear ho1 hrd
      generalize w1.drew = W at k0 hR1 hR2 hc1 kk1 hz0 ⊢
      refine wpAnyK_take0 0 (.slice oa l.length ocap) rfl (by kernel_rfl) (fun _ _ _ h => h) hS rfl (by intro w; go_simp) ?_
      simp only [List.getElem_toArray, List.getElem_cons_zero, Act.put, List.setIfInBounds_toArray, List.set_cons_zero, List.set_cons_succ]
      refine wpAnyK_take0 1 (.int .i64 (k : Int)) rfl (by kernel_rfl) (fun _ _ _ h => h) hS rfl (by intro w; go_simp) ?_
      simp only [List.getElem_toArray, List.getElem_cons_succ, List.getElem_cons_zero, Act.put, List.setIfInBounds_toArray, List.set_cons_zero, List.set_cons_succ]
      refine wpAnyK_take0 2 (x1) rfl (by kernel_rfl) (fun _ _ _ h => h) hS rfl (by intro w; go_simp) ?_
      simp only [List.getElem_toArray, List.getElem_cons_succ, List.getElem_cons_zero, Act.put, List.setIfInBounds_toArray, List.set_cons_zero, List.set_cons_succ]
      refine wpAnyK_take0 4 (.int .i64 (l.length : Int)) rfl (by kernel_rfl) (fun _ _ _ h => h) hS rfl (by intro w; go_simp) ?_
      simp only [List.getElem_toArray, List.getElem_cons_succ, List.getElem_cons_zero, Act.put, List.setIfInBounds_toArray, List.set_cons_zero, List.set_cons_succ]
      refine wpAnyK_take0 7 (.slice oa l.length ocap) rfl (by kernel_rfl) (fun _ _ _ h => h) hS rfl (by intro w; go_simp) ?_
      simp only [List.getElem_toArray, List.getElem_cons_succ, List.getElem_cons_zero, Act.put, List.setIfInBounds_toArray, List.set_cons_zero, List.set_cons_succ]
      refine wpAnyK_take0 8 (.int .i64 (k : Int)) rfl (by kernel_rfl) (fun _ _ _ h => h) hS rfl (by intro w; go_simp) ?_
      simp only [List.getElem_toArray, List.getElem_cons_succ, List.getElem_cons_zero, Act.put, List.setIfInBounds_toArray, List.set_cons_zero, List.set_cons_succ]
      refine wpAnyK_take0 9 (x2) rfl (by kernel_rfl) (fun _ _ _ h => h) hS rfl (by intro w; go_simp) ?_
      simp only [List.getElem_toArray, List.getElem_cons_succ, List.getElem_cons_zero, Act.put, List.setIfInBounds_toArray, List.set_cons_zero, List.set_cons_succ]
      refine wpAnyK_2 3 5 (by kernel_rfl) (wpOpK' rfl rfl ?_) (wpOpK' rfl rfl ?_)
      · intro K0 hK0
        refine ocall (f := 28) (args := #[x1]) (by go_simp) (l1Own_any No _ _ W hR1) (fun v1 W1 h1 => hK0.out _ _ trivial ?_)
        obtain ⟨o1, j1⟩ := h1
        clear hK0 K0
        simp only [List.getElem_toArray, List.getElem_cons_succ, List.getElem_cons_zero, Act.put, List.setIfInBounds_toArray, List.set_cons_zero, List.set_cons_succ]
        refine wpAnyK_1 5 (by kernel_rfl) (wpOpK' rfl rfl ?_)
        intro K0 hK0
        refine obuild (.tmp 24) (l.length : Int) rfl rfl (fun g2 W2 k2 hg lg => hK0.out _ _ trivial ?_)
        clear hK0 K0
        simp only [List.getElem_toArray, List.getElem_cons_succ, List.getElem_cons_zero, Act.put, List.setIfInBounds_toArray, List.set_cons_zero, List.set_cons_succ]
        refine wpAnyK_1 6 (by kernel_rfl) (wpOpK' rfl rfl ?_)
        intro K0 hK0
        have k1 := j1
        refine oapp (.tmp 23) (.tmp 25) rfl (o1.keep k2) (RI.one hg (Nat.le_refl 1) (by decide) (fun e => e)) rfl rfl (by rw [List.length_take]; simp; omega) (by have := k1.size; have := k2.size; omega) (fun v3 w3 h3 k3 f3 => hK0.out _ _ trivial ?_)
        clear hK0 K0
        simp only [List.getElem_toArray, List.getElem_cons_succ, List.getElem_cons_zero, Act.put, List.setIfInBounds_toArray, List.set_cons_zero, List.set_cons_succ]
        have ho1 := fun q hq => ((o1.keep k2).lt q hq).1
        have c3 : Chg No W w3 := (j1.keep k2).step k3 (fun q hq hl => by have := ho1 q hq; have := k1.size; have := k2.size; omega)
        refine wpAnyK_tail 10 rfl (by kernel_rfl) ?_
        simp only [List.drop_succ_cons, List.drop_zero]
        go_wp2_with (at_builtin; refine wapp rfl (.tmp 26) (.tmp 29) rfl h3 (hR2.keep c3) rfl rfl (by simp; omega) (by have := k1.size; have := k2.size; have := k3.size; omega) ?_)
        intro v4 w4 h4 k4 f4
        have ho3 := fun q hq => (h3.lt q hq).1
        have c4 : Chg No W w4 := c3.step k4 (fun q hq hl => by have := ho3 q hq; have := k1.size; have := k2.size; omega)
        have hc4 := hc1.keep c4
        have kk4 := kk1.keep c4
        obtain ⟨oc, occ, rfl, _⟩ := id h4.view
        go_wp2_with fail
        go_round
        case rel => exact ⟨l.take k ++ (l.length : Int) :: l.drop k, by simp; omega, by simp; omega, h4.weak (base' := w.heap.size) (by have := k1.size; have := k2.size; omega), hc4.more (by simp; omega), kk4⟩
        case measure => simp [intOf]; omega
      · intro K0 hK0
        refine obuild (.tmp 24) (l.length : Int) rfl rfl (fun g2 W2 k2 hg lg => hK0.out _ _ trivial ?_)
        clear hK0 K0
        simp only [List.getElem_toArray, List.getElem_cons_succ, List.getElem_cons_zero, Act.put, List.setIfInBounds_toArray, List.set_cons_zero, List.set_cons_succ]
        refine wpAnyK_1 3 (by kernel_rfl) (wpOpK' rfl rfl ?_)
        intro K0 hK0
        refine ocall (f := 28) (args := #[x1]) (by go_simp) (l1Own_any No _ _ W2 (hR1.keep k2)) (fun v1 W1 h1 => hK0.out _ _ trivial ?_)
        obtain ⟨o1, j1⟩ := h1
        clear hK0 K0
        simp only [List.getElem_toArray, List.getElem_cons_succ, List.getElem_cons_zero, Act.put, List.setIfInBounds_toArray, List.set_cons_zero, List.set_cons_succ]
        have hg1 := (j1.cellD g2 0 (World.block_lt_of_cell? W2 _ hg) (fun e => e)).trans hg
        refine wpAnyK_1 6 (by kernel_rfl) (wpOpK' rfl rfl ?_)
        intro K0 hK0
        have k1 := j1
        refine oapp (.tmp 23) (.tmp 25) rfl o1 (RI.one hg1 (Nat.le_refl 1) (by decide) (fun e => e)) rfl rfl (by rw [List.length_take]; simp; omega) (by have := k1.size; have := k2.size; omega) (fun v3 w3 h3 k3 f3 => hK0.out _ _ trivial ?_)
        clear hK0 K0
        simp only [List.getElem_toArray, List.getElem_cons_succ, List.getElem_cons_zero, Act.put, List.setIfInBounds_toArray, List.set_cons_zero, List.set_cons_succ]
        have ho1 := fun q hq => (o1.lt q hq).1
        have c3 : Chg No W w3 := (k2.keep j1).step k3 (fun q hq hl => by have := ho1 q hq; have := k1.size; have := k2.size; omega)
        refine wpAnyK_tail 10 rfl (by kernel_rfl) ?_
        simp only [List.drop_succ_cons, List.drop_zero]
        go_wp2_with (at_builtin; refine wapp rfl (.tmp 26) (.tmp 29) rfl h3 (hR2.keep c3) rfl rfl (by simp; omega) (by have := k1.size; have := k2.size; have := k3.size; omega) ?_)
        intro v4 w4 h4 k4 f4
        have ho3 := fun q hq => (h3.lt q hq).1
        have c4 : Chg No W w4 := c3.step k4 (fun q hq hl => by have := ho3 q hq; have := k1.size; have := k2.size; omega)
        have hc4 := hc1.keep c4
        have kk4 := kk1.keep c4
        obtain ⟨oc, occ, rfl, _⟩ := id h4.view
        go_wp2_with fail
        go_round
        case rel => exact ⟨l.take k ++ (l.length : Int) :: l.drop k, by simp; omega, by simp; omega, h4.weak (base' := w.heap.size) (by have := k1.size; have := k2.size; omega), hc4.more (by simp; omega), kk4⟩
        case measure => simp [intOf]; omega
    · by_cases hl0 : 0 < l.length
      · obtain ⟨g, rfl, hg1, hg2, _, _⟩ := hview (by omega)
        have hl0p : (0 : Int) < (l.length : Int) := by omega
        clear hview
        go_wp2_with (first
          | (go_at_call 26; refine (l1Least_any _ _ _).mono ?_; rintro e w' ⟨rfl, rfl⟩; rw [hm])
          | (at_builtin; refine wapp1 rfl (.tmp 35) (.tmp 36) rfl ho5 rfl rfl (by omega) (by omega) ?_)
          | (go_at_call 23; refine (among_lit b B (K + 10 * l.length + 2) w5 [-1, 0, 8] _ _ _ _ _ rfl rfl rfl rfl hc5 (by omega) (by decide) (by decide)).mono ?_; rintro e w6 ⟨y, rfl, _, hc6, hk6⟩; have ho6 := ho5.step hk6 (fun q hq e => hne q hq e); have kk6 := kk5.trans hk6; have hcell6 := ho6.at.1 0 hl0; have hfr6 := ho6.at.2.1 0)
          | (go_at_call 24; refine (pick_any b B (K + 10 * l.length) 32 wr hcur (by omega) (by omega)).mono ?_; rintro e w5 ⟨x, rfl, _, _, _, hc5, hk5⟩; have ho5 := ho.step hk5 (fun q hq e => hne q hq e); have kk5 := hch.trans hk5; have hz5 := hk5.size))
        · intro v7 w7 h7 k7 f7
          have hown7 := fun q hq => (ho5.lt q hq).1
          obtain ⟨ob, obc, rfl, _⟩ := h7.view
          go_wp2_with fail
          go_ret
          exact ⟨_, _, rfl, h7, by rw [List.length_append]; show l.length + 1 ≤ 9; omega, (hc5.step k7 (fun q hq => by have := hown7 q hq; omega)).more (by omega), kk5.step k7 (fun q hq hl => by have := hown7 q hq; omega)⟩
        · obtain ⟨o9, s9⟩ := ho6.store 0 y
          go_ret
          exact ⟨_, _, rfl, o9, by rw [List.length_set]; omega, (hc6.step s9 (fun q hq => by omega)).more (by omega), kk6.step s9 (fun q hq hl => by omega)⟩
        · go_ret
          exact ⟨_, _, rfl, ho5, by omega, hc5.more (by omega), kk5⟩
      · have hl0p : ¬ (0 : Int) < (l.length : Int) := by omega
        clear hview
        go_wp2_with (first
          | (go_at_call 26; refine (l1Least_any _ _ _).mono ?_; rintro e w' ⟨rfl, rfl⟩; rw [hm])
          | (at_builtin; refine wapp1 rfl (.tmp 35) (.tmp 36) rfl ho5 rfl rfl (by omega) (by omega) ?_)
          | (go_at_call 23; refine (among_lit b B (K + 10 * l.length + 2) w5 [-1, 0, 8] _ _ _ _ _ rfl rfl rfl rfl hc5 (by omega) (by decide) (by decide)).mono ?_; rintro e w6 ⟨y, rfl, _, hc6, hk6⟩; have ho6 := ho5.step hk6 (fun q hq e => hne q hq e); have kk6 := kk5.trans hk6; have hcell6 := ho6.at.1 0 hl0; have hfr6 := ho6.at.2.1 0)
          | (go_at_call 24; refine (pick_any b B (K + 10 * l.length) 32 wr hcur (by omega) (by omega)).mono ?_; rintro e w5 ⟨x, rfl, _, _, _, hc5, hk5⟩; have ho5 := ho.step hk5 (fun q hq e => hne q hq e); have kk5 := hch.trans hk5; have hz5 := hk5.size))
        · intro v7 w7 h7 k7 f7
          have hown7 := fun q hq => (ho5.lt q hq).1
          obtain ⟨ob, obc, rfl, _⟩ := h7.view
          go_wp2_with fail
          go_ret
          exact ⟨_, _, rfl, h7, by rw [List.length_append]; show l.length + 1 ≤ 9; omega, (hc5.step k7 (fun q hq => by have := hown7 q hq; omega)).more (by omega), kk5.step k7 (fun q hq hl => by have := hown7 q hq; omega)⟩
        · go_ret
          exact ⟨_, _, rfl, ho5, by omega, hc5.more (by omega), kk5⟩
        · go_ret
          exact ⟨_, _, rfl, ho5, by omega, hc5.more (by omega), kk5⟩
end Go.Proofs.Ytegipldajbkjfaa
