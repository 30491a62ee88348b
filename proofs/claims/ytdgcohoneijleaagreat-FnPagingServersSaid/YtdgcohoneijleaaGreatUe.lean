import Derived.Test.YtdgcohoneijleaaGreatPkX8
import Derived.Test.YtdgcohoneijleaaGreatPkX3
/- requests drawn -/
namespace Go.Proofs.YtdgcohoneijleaaGreat
open Go.RowKit

def slLen : Value → Nat
  | .slice _ n _ => n
  | _ => 0
theorem slLen_slice (a : Option Addr) (n c : Nat) : slLen (.slice a n c) = n := rfl
set_option maxRecDepth 100000 in
set_option maxHeartbeats 4000000 in
theorem requests_any (b B K : Nat) (n : Int) (w : World) (h : Cur w b B K) (hB : B ≤ w.heap.size) (hK : K ≤ 800000000) :
    Calls Tryz.prog 16 #[.pointer (some ⟨b, 0, none⟩), .int .i64 n] w fun e w' => ∃ (v : Value) (l : List Int), e = .returned v ∧ OI w.heap.size w' v l ∧ l.length ≤ 62 ∧ Cur w' b B (K + 1000) ∧ Chg (fun q => q = b) w w' := by
  have hb := h.lt
  have hbB := h.ltB
  have hch0 := (Chg.refl (fun q => q = b) w).alloc (.cells #[] 3)
  have ho0 : OI w.heap.size (w.alloc (.cells #[] 3)) (.slice (some ⟨w.heap.size, 0, none⟩) 0 0) [] := OI.zero (Nat.le_refl _)
  have h0 := h.keep ((Chg.refl No w).alloc (.cells #[] 3))
  have hz : (w.alloc (.cells #[] 3)).heap.size = w.heap.size + 1 := World.size_alloc _ _
  have q2 := Lib.hid (among_lit b B K (w.alloc (.cells #[] 3)) [6, 9, 12, 4, 16, 2, 24, 1, 0] #[.int .i64 6, .int .i64 9, .int .i64 12, .int .i64 4, .int .i64 16, .int .i64 2, .int .i64 24, .int .i64 1, .int .i64 0] 3 (w.heap.size + 1) 9 9 hz rfl rfl rfl h0 (by omega) (by decide) (by decide))
  have HZ := Lib.hid hz
  clear hz h0
  obtain ⟨m, hm⟩ : ∃ m, max 1 (min n 8) = m := ⟨_, rfl⟩
  have hm1 : 1 ≤ m ∧ m ≤ 8 := by omega
  clear h
  go_enter Tryz.func16, Tryz.ntmps16
  go_wp2_with (first
    | (go_at_call 39; refine (l1Least_any _ _ _).mono ?_; rintro e w' ⟨rfl, rfl⟩)
    | (go_at_call 38; refine (l1Most_any _ _ _).mono ?_; rintro e w' ⟨rfl, rfl⟩; rw [hm])
    | (go_at_call 36; refine (q2.out).mono ?_; rintro e w1 ⟨len, rfl, hlen, hc1, hk1⟩)
    | (go_at_call 37; refine (pick_any b B (K + 2) 3 _ hc1 (by omega) (by omega)).mono ?_; rintro e w2 ⟨near, rfl, hn0, hn1, _, hc2, hk2⟩))
  have hlen24 : len ≤ 24 := by
    simp only [List.mem_cons, List.not_mem_nil, or_false] at hlen
    omega
  clear hlen
  have kk2 : Chg (fun q => q = b) w w2 := (hch0.trans hk1).trans hk2
  have oo2 := (ho0.step hk1 (fun q hq e => by have := (ho0.lt q hq).1; omega))
  have oo3 := oo2.step hk2 (fun q hq e => by have := (oo2.lt q hq).1; omega)
  go_loopw [5] (fun o wr => ∃ l : List Int, OI w.heap.size wr o l ∧ l.length ≤ 24 ∧ Cur wr b B (K + 10 + 10 * l.length) ∧ Chg (fun q => q = b) w wr) (fun o _ => 30 - (match o with | .slice _ n _ => n | _ => 0))
  case atStart => exact ⟨[], oo3, by simp, hc2.more (by omega), kk2⟩
  case round =>
    obtain ⟨l, ho, hl24, hcur, hch⟩ := hrel
    have hsz := hch.size
    have hne : ∀ q, own _ q → ¬ q = b := fun q hq e => by have := (ho.lt q hq).1; omega
    obtain ⟨oa, ocap, rfl, hoc, hom, hview⟩ := ho.view
    by_cases hlt : (l.length : Int) < len
    · by_cases h0 : near = 0
      · subst h0
        by_cases hl0 : 0 < l.length
        · have hl0p : (0 : Int) < (l.length : Int) := by omega
          obtain ⟨g, rfl, hg1, hg2, hcell, hfr⟩ := hview (by omega)
          obtain ⟨j, hj⟩ : ∃ j : Nat, (l.length : Int) - 1 = (j : Int) := ⟨l.length - 1, by omega⟩
          have hjl : j < l.length := by omega
          have hj0 : (0 : Int) ≤ (j : Int) := Int.natCast_nonneg _
          have hj1 : (j : Int) < (l.length : Int) := by omega
          have hwj : IntKind.i64.wrap ((l.length : Int) - 1) = (j : Int) := (IntWalk.i64_in _ (by omega)).trans hj
          have hy := hcell j hjl
          obtain ⟨y, hyy⟩ : ∃ y, l.getD j 0 = y := ⟨_, rfl⟩
          rw [hyy] at hy
          have HJ := Lib.hid hj
          clear hj hyy hcell hview hfr
          go_wp2_with fail
          refine wp_region_K (S := fun _ => True) (k := 14) (by kernel_rfl) ?_
          have hS : (fun _ : World => True) wr := trivial
          have kd := (Chg.refl No wr).drew
          have hcur := hcur.keep kd
          have ho := ho.keep kd
          have hch := hch.keep kd
          have hy : wr.drew.cell? ⟨g, j, none⟩ = some (.int .i64 y) := hy
          have hg2 : g < wr.drew.heap.size := hg2
          have hsz := hch.size
          clear kd
          generalize wr.drew = W1 at hcur ho hch hy hg2 hsz ⊢
          refine wpAnyK_take0 0 (.slice (some ⟨g, 0, none⟩) l.length ocap) rfl (by kernel_rfl) (fun _ _ _ h => h) hS rfl (by intro w; go_simp) ?_
          simp only [List.getElem_toArray, List.getElem_cons_zero, Act.put, List.setIfInBounds_toArray, List.set_cons_zero, List.set_cons_succ]
          refine wpAnyK_take0 1 (.slice (some ⟨g, 0, none⟩) l.length ocap) rfl (by kernel_rfl) (fun _ _ _ h => h) hS rfl (by intro w; go_simp) ?_
          simp only [List.getElem_toArray, List.getElem_cons_succ, List.getElem_cons_zero, Act.put, List.setIfInBounds_toArray, List.set_cons_zero, List.set_cons_succ]
          refine wpAnyK_take0 2 (.slice (some ⟨g, 0, none⟩) l.length ocap) rfl (by kernel_rfl) (fun _ _ _ h => h) hS rfl (by intro w; go_simp) ?_
          simp only [List.getElem_toArray, List.getElem_cons_succ, List.getElem_cons_zero, Act.put, List.setIfInBounds_toArray, List.set_cons_zero, List.set_cons_succ]
          refine wpAnyK_take0 3 (.int .i64 (l.length : Int)) rfl (by kernel_rfl) (fun _ _ _ h => h) hS rfl (by intro w; go_simp) ?_
          simp only [List.getElem_toArray, List.getElem_cons_succ, List.getElem_cons_zero, Act.put, List.setIfInBounds_toArray, List.set_cons_zero, List.set_cons_succ]
          refine wpAnyK_take0 4 (.int .i64 (j : Int)) rfl (by kernel_rfl) (fun _ _ _ h => h) hS rfl (by intro w; go_simp) ?_
          simp only [List.getElem_toArray, List.getElem_cons_succ, List.getElem_cons_zero, Act.put, List.setIfInBounds_toArray, List.set_cons_zero, List.set_cons_succ]
          refine wpAnyK_take 5 (.pointer (some ⟨g, j, none⟩)) rfl (by kernel_rfl) (fun _ _ _ h => h) hS rfl (by rintro w _; go_simp; try (intro h; omega)) ?_
          simp only [List.getElem_toArray, List.getElem_cons_succ, List.getElem_cons_zero, Act.put, List.setIfInBounds_toArray, List.set_cons_zero, List.set_cons_succ]
          refine wpAnyK_take0 7 (.pointer (some ⟨b, 0, none⟩)) rfl (by kernel_rfl) (fun _ _ _ h => h) hS rfl (by intro w; go_simp) ?_
          simp only [List.getElem_toArray, List.getElem_cons_succ, List.getElem_cons_zero, Act.put, List.setIfInBounds_toArray, List.set_cons_zero, List.set_cons_succ]
          refine wpAnyK_take0 10 (.int .i64 m) rfl (by kernel_rfl) (fun _ _ _ h => h) hS rfl (by intro w; go_simp) ?_
          simp only [List.getElem_toArray, List.getElem_cons_succ, List.getElem_cons_zero, Act.put, List.setIfInBounds_toArray, List.set_cons_zero, List.set_cons_succ]
          have hgb : ¬ g = b := by omega
          refine wpAnyK_2 6 8 (by kernel_rfl) (wpOpK' rfl rfl ?_) (wpOpK' rfl rfl ?_)
          · intro K0 hK0
            unfold Oper.wp execOp
            go_simp
            refine hK0.out _ _ trivial ?_
            clear hK0 K0
            simp only [List.setIfInBounds_toArray]
            refine wpAnyK_1 8 (by kernel_rfl) (wpOpK' rfl rfl ?_)
            intro K0 hK0
            refine ocallE (f := 37) (args := #[.pointer (some ⟨b, 0, none⟩), .int .i64 2]) (φ := fun v W' => ∃ x : Int, v = .int .i64 x ∧ 0 ≤ x ∧ x ≤ 1 ∧ Cur W' b B (K + 10 + 10 * l.length + 2) ∧ Chg (fun q => q = b) W1 W') (by go_simp) ((pick_any b B (K + 10 + 10 * l.length) 2 W1 hcur (by omega) (by omega)).mono (fun e W' ⟨x, h1, h2, h3, _, h5, h6⟩ => ⟨_, h1, x, rfl, h2, by have := h3 (by omega); omega, h5, h6⟩)) (fun v2 W2 h2 => ?_)
            obtain ⟨x, rfl, hx0, hx1, hc2, k2⟩ := h2
            have ho2 := ho.step k2 (fun q hq e => by have := (ho.lt q hq).1; omega)
            refine hK0.out _ _ trivial ?_
            clear hK0 K0
            simp only [List.getElem_toArray, List.getElem_cons_succ, List.getElem_cons_zero, Act.put, List.setIfInBounds_toArray, List.set_cons_zero, List.set_cons_succ]
            obtain ⟨s1, hs1⟩ : ∃ s1, IntKind.i64.wrap (y + x) = s1 := ⟨_, rfl⟩
            obtain ⟨r, hr⟩ : ∃ r, s1.tmod m = r := ⟨_, rfl⟩
            have hm0 : ¬ m = 0 := by omega
            refine wpAnyK_take0 9 (.int .i64 s1) rfl (by kernel_rfl) (fun _ _ _ h => h) hS rfl (by intro w; go_simp) ?_
            simp only [List.getElem_toArray, List.getElem_cons_succ, List.getElem_cons_zero, Act.put, List.setIfInBounds_toArray, List.set_cons_zero, List.set_cons_succ]
            refine wpAnyK_take0 11 (.int .i64 r) rfl (by kernel_rfl) (fun _ _ _ h => h) hS rfl (by intro w; go_simp) ?_
            simp only [List.getElem_toArray, List.getElem_cons_succ, List.getElem_cons_zero, Act.put, List.setIfInBounds_toArray, List.set_cons_zero, List.set_cons_succ]
            refine wpAnyK_1 12 (by kernel_rfl) (wpOpK' rfl rfl ?_)
            intro K0 hK0
            refine obuild (.tmp 47) r rfl rfl (fun g3 W3 k3 hg3 lg3 => hK0.out _ _ trivial ?_)
            clear hK0 K0
            simp only [List.getElem_toArray, List.getElem_cons_succ, List.getElem_cons_zero, Act.put, List.setIfInBounds_toArray, List.set_cons_zero, List.set_cons_succ]
            have z2 := k2.size
            have z3 := k3.size
            refine wpAnyK_1 13 (by kernel_rfl) (wpOpK' rfl rfl ?_)
            intro K0 hK0
            refine oapp (.tmp 36) (.tmp 48) rfl (ho2.keep k3) (RI.one hg3 (Nat.le_refl 1) (by decide) (fun e => e)) rfl rfl (by simp; omega) (by omega) (fun v6 w6 h6 k6 f6 => hK0.out _ _ trivial ?_)
            clear hK0 K0
            simp only [List.getElem_toArray, List.getElem_cons_succ, List.getElem_cons_zero, Act.put, List.setIfInBounds_toArray, List.set_cons_zero, List.set_cons_succ]
            refine wpAnyK_tail 14 rfl (by kernel_rfl) ?_
            simp only [List.drop_succ_cons, List.drop_zero]
            have hcc := hc2.keep k3
            have kkc := k2.keep k3
            have hown6 := fun q hq => (ho2.lt q hq).1
            have hc6 : Cur w6 b B (K + 10 + 10 * (l ++ [r]).length) := (hcc.step k6 (fun q hq => by have := hown6 q hq; omega)).more (by simp; omega)
            have hch6 : Chg (fun q => q = b) w w6 := (hch.trans kkc).step k6 (fun q hq hl => by have := hown6 q hq; omega)
            obtain ⟨ob, obc, rfl, _⟩ := h6.view
            go_wp2_with fail
            go_round
            case rel => exact ⟨l ++ [r], h6, by simp; omega, hc6, hch6⟩
            case measure => simp; omega
          · intro K0 hK0
            refine ocallE (f := 37) (args := #[.pointer (some ⟨b, 0, none⟩), .int .i64 2]) (φ := fun v W' => ∃ x : Int, v = .int .i64 x ∧ 0 ≤ x ∧ x ≤ 1 ∧ Cur W' b B (K + 10 + 10 * l.length + 2) ∧ Chg (fun q => q = b) W1 W') (by go_simp) ((pick_any b B (K + 10 + 10 * l.length) 2 W1 hcur (by omega) (by omega)).mono (fun e W' ⟨x, h1, h2, h3, _, h5, h6⟩ => ⟨_, h1, x, rfl, h2, by have := h3 (by omega); omega, h5, h6⟩)) (fun v2 W2 h2 => ?_)
            obtain ⟨x, rfl, hx0, hx1, hc2, k2⟩ := h2
            have ho2 := ho.step k2 (fun q hq e => by have := (ho.lt q hq).1; omega)
            refine hK0.out _ _ trivial ?_
            clear hK0 K0
            simp only [List.getElem_toArray, List.getElem_cons_succ, List.getElem_cons_zero, Act.put, List.setIfInBounds_toArray, List.set_cons_zero, List.set_cons_succ]
            have hy := (k2.cellD g j hg2 (fun e => hgb e)).trans hy
            refine wpAnyK_1 6 (by kernel_rfl) (wpOpK' rfl rfl ?_)
            intro K0 hK0
            unfold Oper.wp execOp
            go_simp
            refine hK0.out _ _ trivial ?_
            clear hK0 K0
            simp only [List.setIfInBounds_toArray]
            obtain ⟨s1, hs1⟩ : ∃ s1, IntKind.i64.wrap (y + x) = s1 := ⟨_, rfl⟩
            obtain ⟨r, hr⟩ : ∃ r, s1.tmod m = r := ⟨_, rfl⟩
            have hm0 : ¬ m = 0 := by omega
            refine wpAnyK_take0 9 (.int .i64 s1) rfl (by kernel_rfl) (fun _ _ _ h => h) hS rfl (by intro w; go_simp) ?_
            simp only [List.getElem_toArray, List.getElem_cons_succ, List.getElem_cons_zero, Act.put, List.setIfInBounds_toArray, List.set_cons_zero, List.set_cons_succ]
            refine wpAnyK_take0 11 (.int .i64 r) rfl (by kernel_rfl) (fun _ _ _ h => h) hS rfl (by intro w; go_simp) ?_
            simp only [List.getElem_toArray, List.getElem_cons_succ, List.getElem_cons_zero, Act.put, List.setIfInBounds_toArray, List.set_cons_zero, List.set_cons_succ]
            refine wpAnyK_1 12 (by kernel_rfl) (wpOpK' rfl rfl ?_)
            intro K0 hK0
            refine obuild (.tmp 47) r rfl rfl (fun g3 W3 k3 hg3 lg3 => hK0.out _ _ trivial ?_)
            clear hK0 K0
            simp only [List.getElem_toArray, List.getElem_cons_succ, List.getElem_cons_zero, Act.put, List.setIfInBounds_toArray, List.set_cons_zero, List.set_cons_succ]
            have z2 := k2.size
            have z3 := k3.size
            refine wpAnyK_1 13 (by kernel_rfl) (wpOpK' rfl rfl ?_)
            intro K0 hK0
            refine oapp (.tmp 36) (.tmp 48) rfl (ho2.keep k3) (RI.one hg3 (Nat.le_refl 1) (by decide) (fun e => e)) rfl rfl (by simp; omega) (by omega) (fun v6 w6 h6 k6 f6 => hK0.out _ _ trivial ?_)
            clear hK0 K0
            simp only [List.getElem_toArray, List.getElem_cons_succ, List.getElem_cons_zero, Act.put, List.setIfInBounds_toArray, List.set_cons_zero, List.set_cons_succ]
            refine wpAnyK_tail 14 rfl (by kernel_rfl) ?_
            simp only [List.drop_succ_cons, List.drop_zero]
            have hcc := hc2.keep k3
            have kkc := k2.keep k3
            have hown6 := fun q hq => (ho2.lt q hq).1
            have hc6 : Cur w6 b B (K + 10 + 10 * (l ++ [r]).length) := (hcc.step k6 (fun q hq => by have := hown6 q hq; omega)).more (by simp; omega)
            have hch6 : Chg (fun q => q = b) w w6 := (hch.trans kkc).step k6 (fun q hq hl => by have := hown6 q hq; omega)
            obtain ⟨ob, obc, rfl, _⟩ := h6.view
            go_wp2_with fail
            go_round
            case rel => exact ⟨l ++ [r], h6, by simp; omega, hc6, hch6⟩
            case measure => simp; omega
        · have hl0' : ¬ (0 : Int) < (l.length : Int) := by omega
          go_wp2_with (first
            | (go_at_call 37; refine (pick_any b B (K + 10 + 10 * l.length) m wr hcur (by omega) (by omega)).mono ?_; rintro e w5 ⟨x, rfl, hx0, _, _, hc5, hk5⟩; have ho5 := ho.step hk5 (fun q hq e => hne q hq e); have hz5 := hk5.size)
            | (at_builtin; refine wapp1 rfl (.tmp 22) (.tmp 26) rfl ho5 rfl rfl (by omega) (by omega) ?_))
          intro v6 w6 h6 k6 f6
          have hown6 := fun q hq => (ho5.lt q hq).1
          have hc6 : Cur w6 b B (K + 10 + 10 * (l ++ [x]).length) := (hc5.step k6 (fun q hq => by have := hown6 q hq; omega)).more (by simp; omega)
          have hch6 : Chg (fun q => q = b) w w6 := (hch.trans hk5).step k6 (fun q hq hl => by have := hown6 q hq; omega)
          obtain ⟨ob, obc, rfl, _⟩ := h6.view
          go_wp2_with fail
          go_round
          case rel => exact ⟨l ++ [x], h6, by simp; omega, hc6, hch6⟩
          case measure => simp; omega
      · by_cases h1 : near = 1
        · subst h1
          by_cases hl2 : 2 < l.length
          · have hl2p : (2 : Int) < (l.length : Int) := by omega
            obtain ⟨g, rfl, hg1, hg2, hcell, hfr⟩ := hview (by omega)
            have hgb : ¬ g = b := by omega
            have hw1 : IntKind.i64.wrap ((l.length : Int) - 1) = (l.length : Int) - 1 := IntWalk.i64_in _ (by omega)
            have HC := Lib.hid hcell
            clear hcell hview hfr
            go_wp2_with (first
              | (go_at_call 37; refine (pick_any b B (K + 10 + 10 * l.length) 3 wr hcur (by omega) (by omega)).mono ?_; rintro e w5 ⟨x, rfl, hx0, hx1, _, hc5, hk5⟩; have hx2 := hx1 (by omega); have ho5 := ho.step hk5 (fun q hq e => hne q hq e); have hz5 := hk5.size; obtain ⟨j, hj⟩ : ∃ j : Nat, (l.length : Int) - 1 - x = (j : Int) := ⟨((l.length : Int) - 1 - x).toNat, by omega⟩; have hjl : j < l.length := (by omega); have hj0 : (0 : Int) ≤ (j : Int) := Int.natCast_nonneg _; have hj1 : (j : Int) < (l.length : Int) := (by omega); have hwj : IntKind.i64.wrap ((l.length : Int) - 1 - x) = (j : Int) := (IntWalk.i64_in _ (by omega)).trans hj; have hy := (hk5.cellD g j hg2 (fun e => hgb e)).trans (HC.out j hjl); obtain ⟨y, hyy⟩ : ∃ y, l.getD j 0 = y := ⟨_, rfl⟩; rw [hyy] at hy; clear hj hyy)
              | (at_builtin; refine wapp1 rfl (.tmp 58) (.tmp 68) rfl ho5 rfl rfl (by omega) (by omega) ?_))
            intro v6 w6 h6 k6 f6
            have hown6 := fun q hq => (ho5.lt q hq).1
            have hc6 := hc5.step k6 (fun q hq => by have := hown6 q hq; omega)
            have hch6 : Chg (fun q => q = b) w w6 := (hch.trans hk5).step k6 (fun q hq hl => by have := hown6 q hq; omega)
            have hL6l : (l ++ [y]).length = l.length + 1 := by simp
            obtain ⟨L6, hL6⟩ : ∃ L6, l ++ [y] = L6 := ⟨_, rfl⟩
            rw [hL6] at h6 hL6l
            obtain ⟨ob, obc, rfl, hb1, hb2, hview6⟩ := h6.view
            obtain ⟨g6, rfl, hg61, hg62, hcell6, hfr6⟩ := hview6 (by omega)
            have hg6b : ¬ g6 = b := by omega
            have hw6 : IntKind.i64.wrap ((L6.length : Int) - 1) = (l.length : Int) := (IntWalk.i64_in _ (by omega)).trans (by omega)
            have hl60 : (0 : Int) ≤ (l.length : Int) := by omega
            have hl61 : (l.length : Int) < (L6.length : Int) := by omega
            clear hy hcell6 hview6 hfr6 hL6
            go_wp2_with (first
              | (go_at_call 40; refine (one_any b B (K + 10 + 10 * l.length + 2) 3 w6 hc6 (by omega) (by omega)).mono ?_; rintro e w7 ⟨t, rfl, hc7, hk7⟩; have h7 := h6.step hk7 (fun q hq e => by have := (h6.lt q hq).1; omega); have kk7 := hch6.trans hk7)
              | (go_at_call 37; refine (pick_any b B (K + 10 + 10 * l.length + 2 + 2) m w7 hc7 (by omega) (by omega)).mono ?_; rintro e w8 ⟨x8, rfl, _, _, _, hc8, hk8⟩; have h8 := h7.step hk8 (fun q hq e => by have := (h7.lt q hq).1; omega); have kk8 := kk7.trans hk8; have hcell8 := h8.at.1 l.length (by omega); have hfr8 := h8.at.2.1 l.length))
            · obtain ⟨o9, s9⟩ := h8.store l.length x8
              rw [hL6l] at o9
              refine ⟨⟨L6.set l.length x8, o9, by rw [List.length_set]; omega, (hc8.step s9 (fun q hq => by omega)).more (by rw [List.length_set]; omega), kk8.step s9 (fun q hq hl => by omega)⟩, ?_⟩
              show 30 - (l.length + 1) < 30 - l.length
              omega
            · rw [hL6l] at h7
              refine ⟨⟨L6, h7, by omega, hc7.more (by omega), kk7⟩, ?_⟩
              show 30 - (l.length + 1) < 30 - l.length
              omega
          · have hl2' : ¬ (2 : Int) < (l.length : Int) := by omega
            go_wp2_with (first
              | (go_at_call 37; refine (pick_any b B (K + 10 + 10 * l.length) m wr hcur (by omega) (by omega)).mono ?_; rintro e w5 ⟨x, rfl, hx0, _, _, hc5, hk5⟩; have ho5 := ho.step hk5 (fun q hq e => hne q hq e); have hz5 := hk5.size)
              | (at_builtin; refine wapp1 rfl (.tmp 22) (.tmp 26) rfl ho5 rfl rfl (by omega) (by omega) ?_))
            intro v6 w6 h6 k6 f6
            have hown6 := fun q hq => (ho5.lt q hq).1
            have hc6 : Cur w6 b B (K + 10 + 10 * (l ++ [x]).length) := (hc5.step k6 (fun q hq => by have := hown6 q hq; omega)).more (by simp; omega)
            have hch6 : Chg (fun q => q = b) w w6 := (hch.trans hk5).step k6 (fun q hq hl => by have := hown6 q hq; omega)
            obtain ⟨ob, obc, rfl, _⟩ := h6.view
            go_wp2_with fail
            go_round
            case rel => exact ⟨l ++ [x], h6, by simp; omega, hc6, hch6⟩
            case measure => simp; omega
        ·
          go_wp2_with (first
            | (go_at_call 37; refine (pick_any b B (K + 10 + 10 * l.length) m wr hcur (by omega) (by omega)).mono ?_; rintro e w5 ⟨x, rfl, hx0, _, _, hc5, hk5⟩; have ho5 := ho.step hk5 (fun q hq e => hne q hq e); have hz5 := hk5.size)
            | (at_builtin; refine wapp1 rfl (.tmp 22) (.tmp 26) rfl ho5 rfl rfl (by omega) (by omega) ?_))
          intro v6 w6 h6 k6 f6
          have hown6 := fun q hq => (ho5.lt q hq).1
          have hc6 : Cur w6 b B (K + 10 + 10 * (l ++ [x]).length) := (hc5.step k6 (fun q hq => by have := hown6 q hq; omega)).more (by simp; omega)
          have hch6 : Chg (fun q => q = b) w w6 := (hch.trans hk5).step k6 (fun q hq hl => by have := hown6 q hq; omega)
          obtain ⟨ob, obc, rfl, _⟩ := h6.view
          go_wp2_with fail
          go_round
          case rel => exact ⟨l ++ [x], h6, by simp; omega, hc6, hch6⟩
          case measure => simp; omega
    · go_wp2_with (go_at_call 37; refine (pick_any b B (K + 10 + 10 * l.length) 48 wr hcur (by omega) (by omega)).mono ?_; rintro e w5 ⟨x, rfl, hx0, _, _, hc5, hk5⟩; have ho5 := ho.step hk5 (fun q hq e => hne q hq e); have hz5 := hk5.size; have kk5 := hch.trans hk5)
      · go_wp2_with (first
          | (go_at_call 36; refine (among_lit b B (K + 10 + 10 * l.length + 2) w5 [-1, n, 8] _ _ _ _ _ rfl rfl rfl rfl hc5 (by omega) (by simp) (by simp)).mono ?_; rintro e w6 ⟨y, rfl, _, hc6, hk6⟩; have ho6 := ho5.step hk6 (fun q hq e => hne q hq e); have hz6 := hk6.size; have kk6 := kk5.trans hk6)
          | (at_builtin; refine wapp1 rfl (.tmp 84) (.tmp 89) rfl ho6 rfl rfl (by omega) (by omega) ?_))
        intro v7 w7 h7 k7 f7
        have hown7 := fun q hq => (ho6.lt q hq).1
        obtain ⟨ob, obc, rfl, _⟩ := h7.view
        go_wp2_with fail
        go_ret
        exact ⟨_, _, rfl, h7, by rw [List.length_append]; show l.length + 1 ≤ 62; omega, (hc6.step k7 (fun q hq => by have := hown7 q hq; omega)).more (by omega), kk6.step k7 (fun q hq hl => by have := hown7 q hq; omega)⟩
      · have hm0 : ¬ m = 0 := by omega
        clear hview
        have e1 : x = 1 := by
          have := ‹(x == 1) = true›
          simpa using this
        subst e1
        simp only [show ((1 : Int) == 0) = false from rfl, show ((1 : Int) == 1) = true from rfl]
        go_loopw [5] (fun o wr => ∃ l : List Int, OI w.heap.size wr o l ∧ l.length ≤ 62 ∧ Cur wr b B (K + 260 + 10 * l.length) ∧ Chg (fun q => q = b) w wr) (fun o _ => 100 - slLen o)
        case atStart => exact ⟨l, ho5, by omega, hc5.more (by omega), kk5⟩
        case round =>
          obtain ⟨l2, ho2, hl2, hcur2, hch2⟩ := hrel
          have hsz2 := hch2.size
          have hne2 : ∀ q, own _ q → ¬ q = b := fun q hq e => by have := (ho2.lt q hq).1; omega
          obtain ⟨oa2, ocap2, rfl, _⟩ := id ho2.view
          obtain ⟨r, hr⟩ : ∃ r, (l2.length : Int).tmod m = r := ⟨_, rfl⟩
          go_wp2_with (first
            | (go_at_call 37; refine (pick_any b B (K + 260 + 10 * l2.length) 2 wr hcur2 (by omega) (by omega)).mono ?_; rintro e w6 ⟨x6, rfl, hx60, hx61, _, hc6, hk6⟩; have hx62 := hx61 (by omega); have hw6 : IntKind.i64.wrap (60 + x6) = 60 + x6 := (IntWalk.i64_in _ (by omega)); have ho6 := ho2.step hk6 (fun q hq e => hne2 q hq e); have hz6 := hk6.size; have kk6 := hch2.trans hk6)
            | (at_builtin; refine wapp1 rfl (.tmp 99) (.tmp 104) rfl ho6 rfl rfl (by omega) (by omega) ?_))
          · intro v7 w7 h7 k7 f7
            have hown7 := fun q hq => (ho6.lt q hq).1
            obtain ⟨ob, obc, rfl, _⟩ := h7.view
            go_wp2_with fail
            go_round
            case rel => exact ⟨l2 ++ [r], h7, by rw [List.length_append]; show l2.length + 1 ≤ 62; omega, (hc6.step k7 (fun q hq => by have := hown7 q hq; omega)).more (by rw [List.length_append]; show _ ≤ K + 260 + 10 * (l2.length + 1); omega), kk6.step k7 (fun q hq hl => by have := hown7 q hq; omega)⟩
            case measure => rw [slLen_slice, slLen_slice, List.length_append]; show 100 - (l2.length + 1) < _; omega
          · go_ret
            exact ⟨_, _, rfl, ho6, hl2, hc6.more (by omega), kk6⟩
      · go_ret
        exact ⟨_, _, rfl, ho5, by omega, hc5.more (by omega), kk5⟩
end Go.Proofs.YtdgcohoneijleaaGreat
