import Derived.Test.YtdgcohoneijleaaGreatDoorPkX17
import Derived.Test.YtdgcohoneijleaaGreatDoorPkX20
import Derived.Test.YtdgcohoneijleaaGreatDoorPkX11
import Derived.Test.YtdgcohoneijleaaGreatDoorPkX7
namespace Go.Proofs.YtdgcohoneijleaaGreatDoor
open Go.RowKit
theorem marks_else {c : Ca} (h5 : ¬ c.pol = 5) (h6 : ¬ c.pol = 6) (x : Int) : (stepC c x).marks = c.marks ∧ (stepC c x).pol = c.pol := by
  unfold stepC
  split
  · unfold hitC
    split
    · exact ⟨rfl, rfl⟩
    · exact ⟨rfl, rfl⟩
  · unfold faultC
    rw [if_neg h6]
    simp [h5]
theorem marks6 {c : Ca} (h : Ok c) (h6 : c.marks.length ≤ 6) (x : Int) : (stepC c x).marks.length ≤ 6 := by
  have hs := ok_step h x
  by_cases hp : (stepC c x).pol = 5 ∨ (stepC c x).pol = 6
  · have := hs.marks hp
    have := hs.len
    have := hs.size
    omega
  · by_cases hq : c.pol = 5 ∨ c.pol = 6
    · have e : (stepC c x).pol = c.pol := by
        unfold stepC
        split
        · unfold hitC
          split
          · rfl
          · split
            · rfl
            · split <;> rfl
        · unfold faultC
          split
          · unfold clockC
            split <;> rfl
          · rfl
      rw [e] at hp
      exact absurd hq hp
    · rw [(marks_else (fun e => hq (.inl e)) (fun e => hq (.inr e)) x).1]
      exact h6
theorem Box.set0 {w : World} {b : Nat} {v0 v1 v2 v3 v4 : Value} (h : Box w b v0 v1 v2 v3 v4) (x : Value) : Box (w.setCell ⟨b, 0, none⟩ x) b x v1 v2 v3 v4 :=
  ⟨World.cell?_setCell_same _ _ _ h.c0, (World.cell?_setCell_other _ _ _ _ (by simp)).trans h.c1, (World.cell?_setCell_other _ _ _ _ (by simp)).trans h.c2,
   (World.cell?_setCell_other _ _ _ _ (by simp)).trans h.c3, (World.cell?_setCell_other _ _ _ _ (by simp)).trans h.c4, fun o => (World.frozen?_setCell _ _ _ _).trans (h.fr o)⟩
theorem Box.set1 {w : World} {b : Nat} {v0 v1 v2 v3 v4 : Value} (h : Box w b v0 v1 v2 v3 v4) (x : Value) : Box (w.setCell ⟨b, 1, none⟩ x) b v0 x v2 v3 v4 :=
  ⟨(World.cell?_setCell_other _ _ _ _ (by simp)).trans h.c0, World.cell?_setCell_same _ _ _ h.c1, (World.cell?_setCell_other _ _ _ _ (by simp)).trans h.c2,
   (World.cell?_setCell_other _ _ _ _ (by simp)).trans h.c3, (World.cell?_setCell_other _ _ _ _ (by simp)).trans h.c4, fun o => (World.frozen?_setCell _ _ _ _).trans (h.fr o)⟩
def In3 (b r x : Nat) (q : Nat) : Prop := q = b ∨ q = r ∨ q = x
set_option maxRecDepth 100000 in
set_option maxHeartbeats 4000000 in
theorem cache_any (b B K : Nat) (n : Int) (w : World) (h : Cur w b B K) (hB : B ≤ w.heap.size) (hK : K ≤ 800000000) :
    Calls Tryz.prog 95 #[.pointer (some ⟨b, 0, none⟩), .int .i64 n] w fun e w' => ∃ (v : Value) (c : Ca), e = .returned v ∧ RCO w.heap.size w' v c ∧ Cur w' b B (K + 1000) ∧ Chg (fun q => q = b) w w' := by
  have hb := h.lt
  have hbB := h.ltB
  have k0 := (Chg.refl (fun q => q = b) w).alloc (.cells #[.int .i64 0, .int .i64 0, .slice none 0 0, .slice none 0 0, .int .i64 0] 66)
  have br := Box.new w (.int .i64 0) (.int .i64 0) (.slice none 0 0) (.slice none 0 0) (.int .i64 0) 66
  have h0 := h.keep ((Chg.refl No w).alloc (.cells #[.int .i64 0, .int .i64 0, .slice none 0 0, .slice none 0 0, .int .i64 0] 66))
  have hz := World.size_alloc w (.cells #[.int .i64 0, .int .i64 0, .slice none 0 0, .slice none 0 0, .int .i64 0] 66)
  have q1 := Lib.hid (pick_any b B K 7 _ h0 (by omega) (by omega))
  have BR := Lib.hid br
  have HZ := Lib.hid hz
  clear h h0 br hz
  obtain ⟨m, hm⟩ : ∃ m, max 1 (min n 8) = m := ⟨_, rfl⟩
  have hm1 : 1 ≤ m ∧ m ≤ 8 := by omega
  go_enter Tryz.func95, Tryz.ntmps95
  go_wp2_with (first
    | (go_at_call 52; refine (q1.out).mono ?_; rintro e w1 ⟨x, rfl, hx0, hx1, _, hc1, hk1⟩; have hx2 := hx1 (by omega); have hw1 : IntKind.i64.wrap (1 + x) = 1 + x := (IntWalk.i64_in _ (by omega)); have br1 := BR.out.step hk1 (by omega); clear hx1)
    | (go_at_call 92; refine (among_lit b B (K + 2) _ [1, 2, 3, 3, 4, 6] _ _ _ _ _ rfl rfl rfl rfl hc1 (by omega) (by decide) (by decide)).mono ?_; rintro e w2 ⟨s, rfl, hs, hc2, hk2⟩; have hs6 : 1 ≤ s ∧ s ≤ 6 := (by simp only [List.mem_cons, List.not_mem_nil, or_false] at hs; omega); clear hs; have br2 := br1.step hk2 (by omega); have hs1 := hk1.size; have hs2 := hk2.size; have kk2 := (k0.trans hk1).trans hk2; obtain ⟨c0, hc0⟩ : ∃ c0, newC (1 + x) s = c0 := ⟨_, rfl⟩; have hok0 : Ok c0 := hc0 ▸ ok_new (by omega) (by omega); have hcm0 : c0.marks.length ≤ 6 := (by rw [← hc0]; exact Nat.zero_le _))
    | (go_at_call 125; refine (l4New_any (1 + x) s _).mono ?_; rw [hc0]; rintro e w3 ⟨v3, rfl, hv3, hk3⟩; obtain ⟨pv3, mv3, rfl, hp3, hm3⟩ := hv3 No (Bd.no _); obtain ⟨pa3, pn3, pc3, rfl⟩ := hp3.shape; obtain ⟨ma3, mn3, mc3, rfl⟩ := hm3.shape; clear hp3 hm3))
  have hz1 := HZ.out
  have hs3 := hk3.size
  have hrc : RC (In3 b w.heap.size w3.heap.size) w3 _ c0 := ((hv3 (fun q => q = b ∨ q = w.heap.size) (fun q hq => by rcases hq with rfl | rfl <;> omega)).and1 (Chg.refl No w3) (Nat.le_refl w3.heap.size)).weak (fun q hq _ => by
    rcases hq with h | h | h
    · exact .inl (.inl h)
    · exact .inl (.inr h)
    · exact .inr h)
  have k4 := (Chg.refl No w3).alloc (.cells #[.int .i64 c0.pol, .int .i64 c0.size, .slice pa3 pn3 pc3, .slice ma3 mn3 mc3, .int .i64 c0.hand] 66)
  have bx := Box.new w3 (.int .i64 c0.pol) (.int .i64 c0.size) (.slice pa3 pn3 pc3) (.slice ma3 mn3 mc3) (.int .i64 c0.hand) 66
  have hc4 : Cur _ b B (K + 4) := (hc2.keep hk3).keep k4
  have bR := (br2.keep hk3).keep k4
  have kk4 := (kk2.keep hk3).keep k4
  have hrc4 := hrc.keep k4
  have hBd : Bd (In3 b w.heap.size w3.heap.size) (w3.alloc (.cells #[.int .i64 c0.pol, .int .i64 c0.size, .slice pa3 pn3 pc3, .slice ma3 mn3 mc3, .int .i64 c0.hand] 66)) := fun q hq => by
    rw [World.size_alloc]
    rcases hq with rfl | rfl | rfl <;> omega
  have hXr : w.heap.size < w3.heap.size := by omega
  have hXb : b < w3.heap.size := by omega
  clear hv3 hk3 k4 hs3 hz1 hrc hc2 br2 hs1 hs2 kk2 hk2 hk1 br1 hc1 q1 BR HZ k0 hc0 hs6 hw1 hx0 hx2
  obtain ⟨X, hX⟩ : ∃ X, w3.heap.size = X := ⟨_, rfl⟩
  rw [hX] at hrc4 hBd hXr hXb bx ⊢
  clear hX
  generalize w3.alloc (.cells #[.int .i64 c0.pol, .int .i64 c0.size, .slice pa3 pn3 pc3, .slice ma3 mn3 mc3, .int .i64 c0.hand] 66) = W4 at hc4 bR kk4 hrc4 hBd bx ⊢
  go_wp2_with (first
    | (go_at_call 137; refine (l1Least_any _ _ _).mono ?_; rintro e w' ⟨rfl, rfl⟩)
    | (go_at_call 103; refine (l1Most_any _ _ _).mono ?_; rintro e w' ⟨rfl, rfl⟩; rw [hm])
    | (go_at_call 52; refine (pick_any b B (K + 4) 12 _ hc4 (by omega) (by omega)).mono ?_; rintro e w5 ⟨k0', rfl, hk0, hk1', _, hc5, hk5⟩; have hk12 := hk1' (by omega); clear hk1'))
  have kk5 := kk4.trans hk5
  have bx5 := bx.step hk5 (by omega)
  have bR5 := bR.step hk5 (by omega)
  have rc5 := hrc4.step hk5 (fun q hq => .inl hq)
  have hBd5 := hBd.keep hk5
  clear hc4 bR kk4 hrc4 hBd bx hk5
  go_loopw [7] (fun i wr => ∃ (k : Int) (c : Ca) (pa : Option Addr) (pn pc : Nat) (ma : Option Addr) (mn mc : Nat) (K' : Nat), i = .int .i64 k ∧ 0 ≤ k ∧ k ≤ 11 ∧ Ok c ∧ c.marks.length ≤ 6 ∧ Bd (In3 b w.heap.size X) wr ∧
    Box wr X (.int .i64 c.pol) (.int .i64 c.size) (.slice pa pn pc) (.slice ma mn mc) (.int .i64 c.hand) ∧ RC (In3 b w.heap.size X) wr (.agg #[.int .i64 c.pol, .int .i64 c.size, .slice pa pn pc, .slice ma mn mc, .int .i64 c.hand]) c ∧
    Box wr w.heap.size (.int .i64 0) (.int .i64 0) (.slice none 0 0) (.slice none 0 0) (.int .i64 0) ∧ (K' : Int) + 10 * k ≤ (K : Int) + 200 ∧ Cur wr b B K' ∧ Chg (fun q => q = b) w wr) (fun i _ => (intOf i).toNat)
  case atStart => exact ⟨k0', c0, _, _, _, _, _, _, K + 4 + 2, rfl, hk0, by omega, hok0, hcm0, hBd5, bx5, rc5, bR5, by omega, hc5, kk5⟩
  case round =>
    clear hBd5 bx5 rc5 bR5 hc5 kk5 hk0 hk12 hok0 hcm0
    obtain ⟨k, c, pa, pn, pc, ma, mn, mc, K', rfl, hk0, hk11, hok, hcm, hBd, bx, rc, bR, hKK, hcur, hch⟩ := hrel
    have hsz := hch.size
    by_cases hkp : 0 < k
    · have hkw : IntKind.i64.wrap (k - 1) = k - 1 := IntWalk.i64_in _ (by omega)
      go_wp2_with fail
      refine wp_region_K (S := fun W => Box W X (.int .i64 c.pol) (.int .i64 c.size) (.slice pa pn pc) (.slice ma mn mc) (.int .i64 c.hand)) (k := 5) (by kernel_rfl) ?_
      have kd := (Chg.refl No wr).drew
      have hcur := hcur.keep kd
      have bx := bx.keep kd
      have rc := rc.keep kd
      have bR := bR.keep kd
      have hch := hch.keep kd
      have hBd := hBd.keep kd
      clear kd
      generalize wr.drew = W1 at hcur bx rc bR hch hBd ⊢
      have hS : (fun W : World => Box W X (.int .i64 c.pol) (.int .i64 c.size) (.slice pa pn pc) (.slice ma mn mc) (.int .i64 c.hand)) W1 := bx
      refine wpAnyK_take 0 (.agg #[.int .i64 c.pol, .int .i64 c.size, .slice pa pn pc, .slice ma mn mc, .int .i64 c.hand]) rfl (by kernel_rfl) (fun _ _ _ h => h) hS rfl (by rintro w ⟨c0, c1, c2, c3, c4, fr⟩; go_simp) ?_
      simp only [zA, zC, zD, zE, zF, zG]
      refine wpAnyK_take0 1 (.pointer (some ⟨b, 0, none⟩)) rfl (by kernel_rfl) (fun _ _ _ h => h) hS rfl (by intro w; go_simp) ?_
      simp only [zA, zB, zC, zD, zE, zF, zG]
      refine wpAnyK_take0 2 (.int .i64 m) rfl (by kernel_rfl) (fun _ _ _ h => h) hS rfl (by intro w; go_simp) ?_
      simp only [zA, zB, zC, zD, zE, zF, zG]
      refine wpAnyK_1 3 (by kernel_rfl) (wpOpK' rfl rfl ?_)
      intro K0 hK0
      refine ocallE (f := 52) (args := #[.pointer (some ⟨b, 0, none⟩), .int .i64 m]) (φ := fun v W' => ∃ y : Int, v = .int .i64 y ∧ Cur W' b B (K' + 2) ∧ Chg (fun q => q = b) W1 W') (by go_simp) ((pick_any b B K' m W1 hcur (by omega) (by omega)).mono (fun e W' ⟨x, h1, h2, h3, _, h5, h6⟩ => ⟨_, h1, x, rfl, h5, h6⟩)) (fun v2 W2 h2 => ?_)
      obtain ⟨y, rfl, hc2, k2⟩ := h2
      have bx2 := bx.step k2 (by omega)
      have bR2 := bR.step k2 (by omega)
      refine hK0.out _ _ bx2 ?_
      clear hK0 K0 hS
      simp only [zA, zB, zC, zD, zE, zF, zG]
      refine wpAnyK_1 4 (by kernel_rfl) (wpOpK' rfl rfl ?_)
      intro K0 hK0
      refine ocall (f := 138) (args := #[.agg #[.int .i64 c.pol, .int .i64 c.size, .slice pa pn pc, .slice ma mn mc, .int .i64 c.hand], .int .i64 y]) (by go_simp) (l4Step_any (In3 b w.heap.size X) _ c y W2 (rc.step k2 (fun q hq => .inl hq)) (hBd.keep k2) hok) (fun v3 W3 h3 => hK0.out _ _ (bx2.keep h3.2) ?_)
      obtain ⟨rc3, k3⟩ := h3
      clear hK0 K0
      simp only [zA, zB, zC, zD, zE, zF, zG]
      obtain ⟨pv', mv', rfl, hp3, hm3⟩ := rc3
      obtain ⟨pa', pn', pc', rfl⟩ := hp3.shape
      obtain ⟨ma', mn', mc', rfl⟩ := hm3.shape
      have bx3 := bx2.keep k3
      have hBd3 := (hBd.keep k2).keep k3
      obtain ⟨c', hc'⟩ : ∃ c', stepC c y = c' := ⟨_, rfl⟩
      have hok' : Ok c' := hc' ▸ ok_step hok y
      have hcm' : c'.marks.length ≤ 6 := hc' ▸ marks6 hok hcm y
      rw [hc'] at hp3 hm3 ⊢
      obtain ⟨c0, c1, c2, c3, c4, fr⟩ := id bx3
      refine wpAnyK_tail 5 rfl (by kernel_rfl) ?_
      simp only [List.drop_succ_cons, List.drop_zero]
      go_wp2_with fail
      have s5 := (Chg.refl (fun q => q = X) W3).put5 (b := X) (fun _ => rfl) (.int .i64 c'.pol) (.int .i64 c'.size) (.slice pa' pn' pc') (.slice ma' mn' mc') (.int .i64 c'.hand)
      refine ⟨⟨k - 1, c', pa', pn', pc', ma', mn', mc', K' + 2, rfl, by omega, by omega, hok', hcm', hBd3.keep s5, bx3.put5 _ _ _ _ _, ⟨_, _, rfl, hp3.step s5 (fun q hq => .inr (.inr hq)), hm3.step s5 (fun q hq => .inr (.inr hq))⟩, (bR2.keep k3).step s5 (by omega), by push_cast; omega, (hc2.keep k3).step s5 (fun q hq => by omega), ((hch.trans k2).keep k3).step s5 (fun q hq hl => by omega)⟩, ?_⟩
      show (k - 1).toNat < k.toNat
      omega
    · have hXl := bx.lt
      obtain ⟨c0, c1, c2, c3, c4, fr⟩ := id bx
      go_wp2_with (go_at_call 126; refine (l4Copy_any (In3 b w.heap.size X) _ c wr rc).mono ?_; rintro e w6 ⟨v6, rfl, ⟨pv6, mv6, rfl, op, om, hd⟩, k6⟩; obtain ⟨pa6, pn6, pc6, rfl⟩ := op.shape; obtain ⟨ma6, mn6, mc6, rfl⟩ := om.shape; have bx6 := bx.keep k6; clear c0 c1 c2 c3 c4 fr; obtain ⟨c0, c1, c2, c3, c4, fr⟩ := id bx6)
      have s5 := (Chg.refl (fun q => q = X) w6).put5 (b := X) (fun _ => rfl) (.int .i64 c.pol) (.int .i64 c.size) (.slice pa6 pn6 pc6) (.slice ma6 mn6 mc6) (.int .i64 c.hand)
      have bx7 := bx6.put5 (.int .i64 c.pol) (.int .i64 c.size) (.slice pa6 pn6 pc6) (.slice ma6 mn6 mc6) (.int .i64 c.hand)
      have bR7 := (bR.keep k6).step s5 (by omega)
      have op7 := op.step s5 (fun q hq e => by have := (op.lt q hq).1; omega)
      have om7 := om.step s5 (fun q hq e => by have := (om.lt q hq).1; omega)
      have hc7 := (hcur.keep k6).step s5 (fun q hq => by omega)
      have kk7 := (hch.keep k6).step s5 (fun q hq hl => by omega)
      have hK7 : K' ≤ K + 200 := by omega
      have hz7 := Nat.le_trans k6.size s5.size
      clear c0 c1 c2 c3 c4 fr bx6 op om s5 k6 bR bx rc hBd hcur hch
      generalize ((((w6.setCell ⟨X, 0, none⟩ (.int .i64 c.pol)).setCell ⟨X, 1, none⟩ (.int .i64 c.size)).setCell ⟨X, 2, none⟩ (.slice pa6 pn6 pc6)).setCell ⟨X, 3, none⟩ (.slice ma6 mn6 mc6)).setCell ⟨X, 4, none⟩ (.int .i64 c.hand) = W7 at bx7 bR7 op7 om7 hc7 kk7 hz7 ⊢
      obtain ⟨Z, hZ⟩ : ∃ Z, wr.heap.size = Z := ⟨_, rfl⟩
      rw [hZ] at op7 om7 hXl hsz hz7
      go_wp2_with (go_at_call 67; refine (one_any b B K' 3 _ hc7 (by omega) (by omega)).mono ?_; rintro e w8 ⟨t, rfl, hc8, hk8⟩; have bx8 := bx7.step hk8 (by omega); have bR8 := bR7.step hk8 (by omega); have op8 := op7.step hk8 (fun q hq e => by have := (op7.lt q hq).1; omega); have om8 := om7.step hk8 (fun q hq e => by have := (om7.lt q hq).1; omega); have kk8 := kk7.trans hk8; have hz8 : Z ≤ w8.heap.size := (by have := hk8.size; omega); clear bx7 bR7 op7 om7 kk7 hk8 hc7; obtain ⟨c0, c1, c2, c3, c4, fr⟩ := id bx8)
      · clear c0 c1 c2 c3 c4 fr
        obtain ⟨oa, ocap, he, ho1, ho2, hov⟩ := om8.view
        simp only [Value.slice.injEq] at he
        obtain ⟨rfl, rfl, rfl⟩ := he
        have hpos : 0 < c.marks.length := by omega
        obtain ⟨g, rfl, hg1, hg2, hcell, hfr⟩ := hov (by omega)
        clear hcell hfr hov
        refine wp_region_K (S := fun W => Box W X (.int .i64 c.pol) (.int .i64 c.size) (.slice pa6 pn6 pc6) (.slice (some ⟨g, 0, none⟩) c.marks.length mc6) (.int .i64 c.hand)) (k := 10) (by kernel_rfl) ?_
        have kd := (Chg.refl No w8).drew
        have hc8 := hc8.keep kd
        have bx8 := bx8.keep kd
        have bR8 := bR8.keep kd
        have op8 := op8.keep kd
        have om8 := om8.keep kd
        have kk8 := kk8.keep kd
        have hz8 := Nat.le_trans hz8 kd.size
        have hg2 := Nat.lt_of_lt_of_le hg2 kd.size
        generalize w8.drew = W1 at hc8 bx8 bR8 op8 om8 kk8 hz8 hg2 ⊢
        have hS : (fun W : World => Box W X (.int .i64 c.pol) (.int .i64 c.size) (.slice pa6 pn6 pc6) (.slice (some ⟨g, 0, none⟩) c.marks.length mc6) (.int .i64 c.hand)) W1 := bx8
        refine wpAnyK_take0 0 (.pointer (some ⟨X, 3, none⟩)) rfl (by kernel_rfl) (fun _ _ _ h => h) hS rfl (by intro w; go_simp) ?_
        simp only [zA, zC, zD, zE, zF, zG]
        refine wpAnyK_take 1 (.slice (some ⟨g, 0, none⟩) c.marks.length mc6) rfl (by kernel_rfl) (fun _ _ _ h => h) hS rfl (by rintro w ⟨c0, c1, c2, c3, c4, fr⟩; go_simp) ?_
        simp only [zA, zB, zC, zD, zE, zF, zG]
        refine wpAnyK_take0 2 (.pointer (some ⟨b, 0, none⟩)) rfl (by kernel_rfl) (fun _ _ _ h => h) hS rfl (by intro w; go_simp) ?_
        simp only [zA, zB, zC, zD, zE, zF, zG]
        refine wpAnyK_take0 3 (.pointer (some ⟨X, 3, none⟩)) rfl (by kernel_rfl) (fun _ _ _ h => h) hS rfl (by intro w; go_simp) ?_
        simp only [zA, zB, zC, zD, zE, zF, zG]
        refine wpAnyK_take 4 (.slice (some ⟨g, 0, none⟩) c.marks.length mc6) rfl (by kernel_rfl) (fun _ _ _ h => h) hS rfl (by rintro w ⟨c0, c1, c2, c3, c4, fr⟩; go_simp) ?_
        simp only [zA, zB, zC, zD, zE, zF, zG]
        refine wpAnyK_take0 5 (.int .i64 (c.marks.length : Int)) rfl (by kernel_rfl) (fun _ _ _ h => h) hS rfl (by intro w; go_simp) ?_
        simp only [zA, zB, zC, zD, zE, zF, zG]
        refine wpAnyK_take0 7 (.pointer (some ⟨b, 0, none⟩)) rfl (by kernel_rfl) (fun _ _ _ h => h) hS rfl (by intro w; go_simp) ?_
        simp only [zA, zB, zC, zD, zE, zF, zG]
        refine wpAnyK_2 6 8 (by kernel_rfl) (wpOpK' rfl rfl ?_) (wpOpK' rfl rfl ?_)
        · intro K0 hK0
          refine ocallE (f := 52) (args := #[.pointer (some ⟨b, 0, none⟩), .int .i64 (c.marks.length : Int)]) (φ := fun v W' => ∃ j : Nat, v = .int .i64 (j : Int) ∧ j < c.marks.length ∧ Cur W' b B (K' + 2 + 2) ∧ Chg (fun q => q = b) W1 W') (by go_simp) ((pick_any b B (K' + 2) _ _ hc8 (by omega) (by omega)).mono (fun e W' ⟨x, h1, h2, h3, h4, h5, h6⟩ => ⟨_, h1, x.toNat, by rw [Int.toNat_of_nonneg h2], by omega, h5, h6⟩)) (fun v2 W2 h2 => ?_)
          obtain ⟨j, rfl, hj, hc2, k2⟩ := h2
          have bxy := bx8.step k2 (by omega); have bRy := bR8.step k2 (by omega); have opy := op8.step k2 (fun q hq e => by have := (op8.lt q hq).1; omega); have omy := om8.step k2 (fun q hq e => by have := (om8.lt q hq).1; omega); have kky := kk8.trans k2; have hzy := k2.size
          have hj0 : (0 : Int) ≤ (j : Int) := Int.natCast_nonneg _
          have hj1 : (j : Int) < (c.marks.length : Int) := by omega
          refine hK0.out _ _ bxy ?_
          clear hK0 K0 hS
          simp only [zA, zB, zC, zD, zE, zF, zG]
          refine wpAnyK_1 8 (by kernel_rfl) (wpOpK' rfl rfl ?_)
          intro K0 hK0
          have ka := (Chg.refl No W2).alloc (.cells #[.int .i64 0, .int .i64 1, .int .i64 1, .int .i64 2, .int .i64 59, .int .i64 60, .int .i64 61, .int .i64 (-1)] 3)
          have rl : RI (fun q => q = b) (W2.alloc (.cells #[.int .i64 0, .int .i64 1, .int .i64 1, .int .i64 2, .int .i64 59, .int .i64 60, .int .i64 61, .int .i64 (-1)] 3)) (.slice (some ⟨W2.heap.size, 0, none⟩) 8 8) [0, 1, 1, 2, 59, 60, 61, -1] := RI.lit (fun q => q = b) W2 [0, 1, 1, 2, 59, 60, 61, -1] _ _ _ 8 8 rfl rfl rfl (Nat.le_refl _) (fun e => by have := bxy.lt; have e : W2.heap.size = b := e; omega) (by decide)
          have bxz := bxy.keep ka; have bRz := bRy.keep ka; have opz := opy.keep ka; have omz := omy.keep ka; have kkz := kky.keep ka; have hzz := ka.size
          unfold Oper.wp execOp
          go_simp
          refine hK0.out _ _ bxz ?_
          clear hK0 K0
          simp only [List.setIfInBounds_toArray]
          refine wpAnyK_1 9 (by kernel_rfl) (wpOpK' rfl rfl ?_)
          intro K0 hK0
          refine ocallE (f := 92) (args := #[.pointer (some ⟨b, 0, none⟩), .slice (some ⟨W2.heap.size, 0, none⟩) 8 8]) (φ := fun v W' => ∃ y : Int, v = .int .i64 y ∧ Cur W' b B (K' + 2 + 2 + 2) ∧ Chg (fun q => q = b) (W2.alloc (.cells #[.int .i64 0, .int .i64 1, .int .i64 1, .int .i64 2, .int .i64 59, .int .i64 60, .int .i64 61, .int .i64 (-1)] 3)) W') (by go_simp) ((among_any b B (K' + 2 + 2) _ _ _ (hc2.keep ka) (by omega) rl (by decide) (by decide)).mono (fun e W' ⟨x, h1, _, h5, h6⟩ => ⟨_, h1, x, rfl, h5, h6⟩)) (fun v3 W3 h3 => ?_)
          obtain ⟨y, rfl, hc3, k3⟩ := h3
          have bxm := bxz.step k3 (by omega); have bRm := bRz.step k3 (by omega); have opm := opz.step k3 (fun q hq e => by have := (opz.lt q hq).1; omega); have omm := omz.step k3 (fun q hq e => by have := (omz.lt q hq).1; omega); have kkm := kkz.trans k3; have hzm := k3.size
          refine hK0.out _ _ bxm ?_
          clear hK0 K0
          simp only [zA, zB, zC, zD, zE, zF, zG]
          refine wpAnyK_tail 10 rfl (by kernel_rfl) ?_
          simp only [List.drop_succ_cons, List.drop_zero]
          have hcl := omm.at.1 j hj
          have hfz := omm.at.2.1 j
          go_wp2_with fail
          obtain ⟨om9, s9⟩ := omm.store j y
          have hgZ := (omm.lt g (by simp [own, Value.ownBlock])).1
          have bx9 := bxm.step s9 (by omega)
          have bR9 := bRm.step s9 (by omega)
          have op9 := opm.step s9 (fun q hq e => hd q hq (by subst e; simp [own, Value.ownBlock]))
          have kk9 := kkm.step s9 (fun q hq hl => by omega)
          have hc9 := hc3.step s9 (fun q hq => by omega)
          have hz9 := s9.size
          generalize W3.setCell ⟨g, j, none⟩ (.int .i64 y) = W9 at bx9 bR9 op9 om9 kk9 hc9 hz9 ⊢
          obtain ⟨K9, hK9⟩ : ∃ K9, K' + 2 + 2 + 2 = K9 := ⟨_, rfl⟩
          rw [hK9] at hc9
          have hmlen : (c.marks.set j y).length < 17592186044416 := by rw [List.length_set]; omega
          obtain ⟨MS, hMS⟩ : ∃ MS, c.marks.set j y = MS := ⟨_, rfl⟩
          rw [hMS] at hmlen om9
          go_wp2_with (first
            | (at_builtin; refine wapp1 rfl (.tmp 74) (.tmp 75) rfl oma rfl rfl hmlen hZa ?_)
            | (go_at_call 92; refine (among_lit b B (K9 + 2) wa [1, -1, 6, c.size] _ _ _ _ _ rfl rfl rfl rfl hca (by omega) (by simp) (by simp)).mono ?_; rintro e wb ⟨y, rfl, _, hcb, hkb⟩; have bxb := bxa.step hkb (by omega); have bRb := bRa.step hkb (by omega); have opb := opa.step hkb (fun q hq e => by have := (opa.lt q hq).1; omega); have omb := oma.step hkb (fun q hq e => by have := (oma.lt q hq).1; omega); have kkb := kka.trans hkb; have hzb := hkb.size; clear c0 c1 c2 c3 c4 fr s0 s1 s2 s3 s4 sf; obtain ⟨c0, c1, c2, c3, c4, fr⟩ := id bxb; obtain ⟨e0, e1, e2, e3, e4, ef⟩ := id (bxb.set4 (.int .i64 y)); obtain ⟨s0, s1, s2, s3, s4, sf⟩ := id (bRb.far ⟨X, 4, none⟩ (.int .i64 y) (by simp; omega)); have sf0 := sf 0; have sf1 := sf 1; have sf2 := sf 2; have sf3 := sf 3; have sf4 := sf 4; clear sf)
            | (go_at_call 100; refine (policy_any b B (K9 + 2) wa hca (by omega)).mono ?_; rintro e wb ⟨y, rfl, _, _, hcb, hkb⟩; have bxb := bxa.step hkb (by omega); have bRb := bRa.step hkb (by omega); have opb := opa.step hkb (fun q hq e => by have := (opa.lt q hq).1; omega); have omb := oma.step hkb (fun q hq e => by have := (oma.lt q hq).1; omega); have kkb := kka.trans hkb; have hzb := hkb.size; clear c0 c1 c2 c3 c4 fr s0 s1 s2 s3 s4 sf; obtain ⟨c0, c1, c2, c3, c4, fr⟩ := id bxb; obtain ⟨e0, e1, e2, e3, e4, ef⟩ := id (bxb.set0 (.int .i64 y)); obtain ⟨s0, s1, s2, s3, s4, sf⟩ := id (bRb.far ⟨X, 0, none⟩ (.int .i64 y) (by simp; omega)); have sf0 := sf 0; have sf1 := sf 1; have sf2 := sf 2; have sf3 := sf 3; have sf4 := sf 4; clear sf)
            | (go_at_call 101; refine (size4_any b B (K9 + 2) wa hca (by omega)).mono ?_; rintro e wb ⟨y, rfl, _, _, hcb, hkb⟩; have bxb := bxa.step hkb (by omega); have bRb := bRa.step hkb (by omega); have opb := opa.step hkb (fun q hq e => by have := (opa.lt q hq).1; omega); have omb := oma.step hkb (fun q hq e => by have := (oma.lt q hq).1; omega); have kkb := kka.trans hkb; have hzb := hkb.size; clear c0 c1 c2 c3 c4 fr s0 s1 s2 s3 s4 sf; obtain ⟨c0, c1, c2, c3, c4, fr⟩ := id bxb; obtain ⟨e0, e1, e2, e3, e4, ef⟩ := id (bxb.set1 (.int .i64 y)); obtain ⟨s0, s1, s2, s3, s4, sf⟩ := id (bRb.far ⟨X, 1, none⟩ (.int .i64 y) (by simp; omega)); have sf0 := sf 0; have sf1 := sf 1; have sf2 := sf 2; have sf3 := sf 3; have sf4 := sf 4; clear sf)
            | (go_at_call 52; refine (pick_any b B K9 40 W9 hc9 (by omega) (by omega)).mono ?_; rintro e wa ⟨z', rfl, _, _, _, hca, hka⟩; have bxa := bx9.step hka (by omega); have bRa := bR9.step hka (by omega); have opa := op9.step hka (fun q hq e => by have := (op9.lt q hq).1; omega); have oma := om9.step hka (fun q hq e => by have := (om9.lt q hq).1; omega); have kka := kk9.trans hka; have hza := hka.size; have hZa : Z ≤ wa.heap.size := (by omega); obtain ⟨c0, c1, c2, c3, c4, fr⟩ := id bxa; obtain ⟨s0, s1, s2, s3, s4, sf⟩ := id bRa))
          · obtain ⟨z0, z1, z2, z3, z4, _⟩ := (bRb.far ⟨X, 4, none⟩ (.int .i64 y) (by simp; omega)).put5 (.int .i64 c.pol) (.int .i64 c.size) (.slice pa6 pn6 pc6) (.slice (some ⟨g, 0, none⟩) c.marks.length mc6) (.int .i64 y)
            refine bodyPost_ret (v := .agg #[.int .i64 c.pol, .int .i64 c.size, .slice pa6 pn6 pc6, .slice (some ⟨g, 0, none⟩) c.marks.length mc6, .int .i64 y]) (by simp [results, Tryz.results95, go_sem, z0, z1, z2, z3, z4]) rfl ?_
            have kS := ((Chg.refl (fun q => q = X ∨ q = w.heap.size) wb).setCell (p := ⟨X, 4, none⟩) (fun _ => .inl rfl) (.int .i64 y)).put5 (b := w.heap.size) (fun _ => .inr rfl) (.int .i64 c.pol) (.int .i64 c.size) (.slice pa6 pn6 pc6) (.slice (some ⟨g, 0, none⟩) c.marks.length mc6) (.int .i64 y)
            exact ⟨_, ⟨c.pol, c.size, c.pages, MS, y⟩, rfl, ⟨_, _, rfl, (opb.step kS (fun q hq e => by have := (opb.lt q hq).1; omega)).weak (by omega), (omb.step kS (fun q hq e => by have := (omb.lt q hq).1; omega)).weak (by omega), hd⟩, (hcb.step kS (fun q hq => by omega)).more (by omega), kkb.step kS (fun q hq hl => by omega)⟩
          · refine wp_region_K (S := (fun W : World => Box W X (.int .i64 c.pol) (.int .i64 c.size) (.slice pa6 pn6 pc6) (.slice (some ⟨g, 0, none⟩) c.marks.length mc6) (.int .i64 c.hand))) (k := 8) (by kernel_rfl) ?_
            clear c0 c1 c2 c3 c4 fr s0 s1 s2 s3 s4 sf
            have kd := (Chg.refl No wa).drew
            have hca := hca.keep kd
            have bxa := bxa.keep kd
            have bRa := bRa.keep kd
            have opa := opa.keep kd
            have oma := oma.keep kd
            have kka := kka.keep kd
            have hZa := Nat.le_trans hZa kd.size
            generalize wa.drew = W1 at hca bxa bRa opa oma kka hZa ⊢
            have hS : (fun W : World => Box W X (.int .i64 c.pol) (.int .i64 c.size) (.slice pa6 pn6 pc6) (.slice (some ⟨g, 0, none⟩) c.marks.length mc6) (.int .i64 c.hand)) W1 := bxa
            refine wpAnyK_take0 0 (.pointer (some ⟨X, 2, none⟩)) rfl (by kernel_rfl) (fun _ _ _ h => h) hS rfl (by intro w; go_simp) ?_
            simp only [zA, zC, zD, zE, zF, zG]
            refine wpAnyK_take 1 (.slice pa6 pn6 pc6) rfl (by kernel_rfl) (fun _ _ _ h => h) hS rfl (by rintro w ⟨c0, c1, c2, c3, c4, fr⟩; go_simp) ?_
            simp only [zA, zB, zC, zD, zE, zF, zG]
            refine wpAnyK_take0 2 (.pointer (some ⟨b, 0, none⟩)) rfl (by kernel_rfl) (fun _ _ _ h => h) hS rfl (by intro w; go_simp) ?_
            simp only [zA, zB, zC, zD, zE, zF, zG]
            refine wpAnyK_take0 3 (.int .i64 n) rfl (by kernel_rfl) (fun _ _ _ h => h) hS rfl (by intro w; go_simp) ?_
            simp only [zA, zB, zC, zD, zE, zF, zG]
            refine wpAnyK_1 4 (by kernel_rfl) (wpOpK' rfl rfl ?_)
            intro K0 hK0
            unfold Oper.wp execOp
            go_simp
            refine hK0.out _ _ (bxa.keep ((Chg.refl No W1).alloc _)) ?_
            clear hK0 K0
            simp only [List.setIfInBounds_toArray]
            refine wpAnyK_1 5 (by kernel_rfl) (wpOpK' rfl rfl ?_)
            intro K0 hK0
            refine ocallE (f := 92) (args := #[.pointer (some ⟨b, 0, none⟩), .slice (some ⟨W1.heap.size, 0, none⟩) 4 4]) (φ := fun v W' => ∃ y : Int, v = .int .i64 y ∧ Cur W' b B (K9 + 2 + 2) ∧ Chg (fun q => q = b) W1 W') (by go_simp) ((among_lit b B (K9 + 2) W1 [0, 1, n, -1] _ _ _ _ _ rfl rfl rfl rfl hca (by omega) (by simp) (by simp)).mono (fun e W' ⟨x, h1, _, h5, h6⟩ => ⟨_, h1, x, rfl, h5, h6⟩)) (fun v2 W2 h2 => ?_)
            obtain ⟨y, rfl, hc2, k2⟩ := h2
            have bxy := bxa.step k2 (by omega); have bRy := bRa.step k2 (by omega); have opy := opa.step k2 (fun q hq e => by have := (opa.lt q hq).1; omega); have omy := oma.step k2 (fun q hq e => by have := (oma.lt q hq).1; omega); have kky := kka.trans k2; have hzy := k2.size
            refine hK0.out _ _ bxy ?_
            clear hK0 K0 hS
            simp only [zA, zB, zC, zD, zE, zF, zG]
            refine wpAnyK_1 6 (by kernel_rfl) (wpOpK' rfl rfl ?_)
            intro K0 hK0
            refine obuild (.tmp 67) y rfl rfl (fun g3 W3 k3 hg3 lg3 => hK0.out _ _ (bxy.keep k3) ?_)
            clear hK0 K0
            simp only [zA, zB, zC, zD, zE, zF, zG]
            have hz3 := k3.size
            refine wpAnyK_1 7 (by kernel_rfl) (wpOpK' rfl rfl ?_)
            intro K0 hK0
            have hop3 := (opy.keep k3).lt
            refine oapp (.tmp 63) (.tmp 68) rfl (opy.keep k3) (RI.one hg3 (Nat.le_refl 1) (by decide) (fun e => e)) rfl rfl (by have := hok.len; have := hok.size; simp; omega) (by omega) (fun v6 wm h6 k6 f6 => hK0.out _ _ ((bxy.keep k3).step k6 (fun e => by have := (hop3 _ e).1; omega)) ?_)
            clear hK0 K0
            simp only [zA, zB, zC, zD, zE, zF, zG]
            obtain ⟨pa7, pn7, pc7, rfl⟩ := h6.shape
            have bxm := (bxy.keep k3).step k6 (fun e => by have := (hop3 _ e).1; omega)
            have bRm := (bRy.keep k3).step k6 (fun e => by have := (hop3 _ e).1; omega)
            have opm := h6
            have omm := (omy.keep k3).step k6 (fun q hq e => hd q e hq)
            have hcm' := (hc2.keep k3).step k6 (fun q hq => by have := (hop3 _ hq).1; omega)
            have kkm := (kky.keep k3).step k6 (fun q hq hl => by have := (hop3 _ hq).1; omega)
            have hdm : ∀ q, own (.slice pa7 pn7 pc7) q → ¬ own (.slice (some ⟨g, 0, none⟩) c.marks.length mc6) q := fun q hq e => by
              rcases f6 q hq with h | h
              · exact hd q h e
              · have := ((omy.keep k3).lt q e).2; omega
            have hzm := k6.size
            obtain ⟨c0, c1, c2, c3, c4, fr⟩ := id bxm
            obtain ⟨e0, e1, e2, e3, e4, ef⟩ := id (bxm.set2 (.slice pa7 pn7 pc7))
            obtain ⟨s0, s1, s2, s3, s4, sf⟩ := id (bRm.far ⟨X, 2, none⟩ (.slice pa7 pn7 pc7) (by simp; omega))
            have sf0 := sf 0
            have sf1 := sf 1
            have sf2 := sf 2
            have sf3 := sf 3
            have sf4 := sf 4
            clear sf
            refine wpAnyK_tail 8 rfl (by kernel_rfl) ?_
            simp only [List.drop_succ_cons, List.drop_zero]
            go_wp2_with fail
            obtain ⟨z0, z1, z2, z3, z4, _⟩ := (bRm.far ⟨X, 2, none⟩ (.slice pa7 pn7 pc7) (by simp; omega)).put5 (.int .i64 c.pol) (.int .i64 c.size) (.slice pa7 pn7 pc7) (.slice (some ⟨g, 0, none⟩) c.marks.length mc6) (.int .i64 c.hand)
            refine bodyPost_ret (v := .agg #[.int .i64 c.pol, .int .i64 c.size, .slice pa7 pn7 pc7, .slice (some ⟨g, 0, none⟩) c.marks.length mc6, .int .i64 c.hand]) (by simp [results, Tryz.results95, go_sem, z0, z1, z2, z3, z4]) rfl ?_
            have kS := ((Chg.refl (fun q => q = X ∨ q = w.heap.size) wm).setCell (p := ⟨X, 2, none⟩) (fun _ => .inl rfl) (.slice pa7 pn7 pc7)).put5 (b := w.heap.size) (fun _ => .inr rfl) (.int .i64 c.pol) (.int .i64 c.size) (.slice pa7 pn7 pc7) (.slice (some ⟨g, 0, none⟩) c.marks.length mc6) (.int .i64 c.hand)
            exact ⟨_, ⟨c.pol, c.size, c.pages ++ [y], MS, c.hand⟩, rfl, ⟨_, _, rfl, (opm.step kS (fun q hq e => by have := (opm.lt q hq).1; omega)).weak (by omega), (omm.step kS (fun q hq e => by have := (omm.lt q hq).1; omega)).weak (by omega), hdm⟩, (hcm'.step kS (fun q hq => by omega)).more (by omega), kkm.step kS (fun q hq hl => by omega)⟩
          · intro v7 wm h7 k7 f7
            clear c0 c1 c2 c3 c4 fr s0 s1 s2 s3 s4 sf
            obtain ⟨ma7, mn7, mc7, rfl⟩ := h7.shape
            have how := oma.lt
            have bxm := bxa.step k7 (fun e => by have := (how _ e).1; omega)
            have bRm := bRa.step k7 (fun e => by have := (how _ e).1; omega)
            have opm := opa.step k7 (fun q hq e => hd q hq e)
            have omm := h7
            have hcm' := hca.step k7 (fun q hq => by have := (how _ hq).1; omega)
            have kkm := kka.step k7 (fun q hq hl => by have := (how _ hq).1; omega)
            have hdm : ∀ q, own (.slice pa6 pn6 pc6) q → ¬ own (.slice ma7 mn7 mc7) q := fun q hq e => by
              rcases f7 q e with h | h
              · exact hd q hq h
              · have := (opa.lt q hq).2; omega
            have hzm := k7.size
            obtain ⟨c0, c1, c2, c3, c4, fr⟩ := id bxm
            obtain ⟨e0, e1, e2, e3, e4, ef⟩ := id (bxm.set3 (.slice ma7 mn7 mc7))
            obtain ⟨s0, s1, s2, s3, s4, sf⟩ := id (bRm.far ⟨X, 3, none⟩ (.slice ma7 mn7 mc7) (by simp; omega))
            have sf0 := sf 0
            have sf1 := sf 1
            have sf2 := sf 2
            have sf3 := sf 3
            have sf4 := sf 4
            clear sf
            go_wp2_with fail
            obtain ⟨z0, z1, z2, z3, z4, _⟩ := (bRm.far ⟨X, 3, none⟩ (.slice ma7 mn7 mc7) (by simp; omega)).put5 (.int .i64 c.pol) (.int .i64 c.size) (.slice pa6 pn6 pc6) (.slice ma7 mn7 mc7) (.int .i64 c.hand)
            refine bodyPost_ret (v := .agg #[.int .i64 c.pol, .int .i64 c.size, .slice pa6 pn6 pc6, .slice ma7 mn7 mc7, .int .i64 c.hand]) (by simp [results, Tryz.results95, go_sem, z0, z1, z2, z3, z4]) rfl ?_
            have kS := ((Chg.refl (fun q => q = X ∨ q = w.heap.size) wm).setCell (p := ⟨X, 3, none⟩) (fun _ => .inl rfl) (.slice ma7 mn7 mc7)).put5 (b := w.heap.size) (fun _ => .inr rfl) (.int .i64 c.pol) (.int .i64 c.size) (.slice pa6 pn6 pc6) (.slice ma7 mn7 mc7) (.int .i64 c.hand)
            exact ⟨_, ⟨c.pol, c.size, c.pages, MS ++ [1], c.hand⟩, rfl, ⟨_, _, rfl, (opm.step kS (fun q hq e => by have := (opm.lt q hq).1; omega)).weak (by omega), (omm.step kS (fun q hq e => by have := (omm.lt q hq).1; omega)).weak (by omega), hdm⟩, (hcm'.step kS (fun q hq => by omega)).more (by omega), kkm.step kS (fun q hq hl => by omega)⟩
          · obtain ⟨z0, z1, z2, z3, z4, _⟩ := (bRb.far ⟨X, 0, none⟩ (.int .i64 y) (by simp; omega)).put5 (.int .i64 y) (.int .i64 c.size) (.slice pa6 pn6 pc6) (.slice (some ⟨g, 0, none⟩) c.marks.length mc6) (.int .i64 c.hand)
            refine bodyPost_ret (v := .agg #[.int .i64 y, .int .i64 c.size, .slice pa6 pn6 pc6, .slice (some ⟨g, 0, none⟩) c.marks.length mc6, .int .i64 c.hand]) (by simp [results, Tryz.results95, go_sem, z0, z1, z2, z3, z4]) rfl ?_
            have kS := ((Chg.refl (fun q => q = X ∨ q = w.heap.size) wb).setCell (p := ⟨X, 0, none⟩) (fun _ => .inl rfl) (.int .i64 y)).put5 (b := w.heap.size) (fun _ => .inr rfl) (.int .i64 y) (.int .i64 c.size) (.slice pa6 pn6 pc6) (.slice (some ⟨g, 0, none⟩) c.marks.length mc6) (.int .i64 c.hand)
            exact ⟨_, ⟨y, c.size, c.pages, MS, c.hand⟩, rfl, ⟨_, _, rfl, (opb.step kS (fun q hq e => by have := (opb.lt q hq).1; omega)).weak (by omega), (omb.step kS (fun q hq e => by have := (omb.lt q hq).1; omega)).weak (by omega), hd⟩, (hcb.step kS (fun q hq => by omega)).more (by omega), kkb.step kS (fun q hq hl => by omega)⟩
          · obtain ⟨z0, z1, z2, z3, z4, _⟩ := (bRb.far ⟨X, 1, none⟩ (.int .i64 y) (by simp; omega)).put5 (.int .i64 c.pol) (.int .i64 y) (.slice pa6 pn6 pc6) (.slice (some ⟨g, 0, none⟩) c.marks.length mc6) (.int .i64 c.hand)
            refine bodyPost_ret (v := .agg #[.int .i64 c.pol, .int .i64 y, .slice pa6 pn6 pc6, .slice (some ⟨g, 0, none⟩) c.marks.length mc6, .int .i64 c.hand]) (by simp [results, Tryz.results95, go_sem, z0, z1, z2, z3, z4]) rfl ?_
            have kS := ((Chg.refl (fun q => q = X ∨ q = w.heap.size) wb).setCell (p := ⟨X, 1, none⟩) (fun _ => .inl rfl) (.int .i64 y)).put5 (b := w.heap.size) (fun _ => .inr rfl) (.int .i64 c.pol) (.int .i64 y) (.slice pa6 pn6 pc6) (.slice (some ⟨g, 0, none⟩) c.marks.length mc6) (.int .i64 c.hand)
            exact ⟨_, ⟨c.pol, y, c.pages, MS, c.hand⟩, rfl, ⟨_, _, rfl, (opb.step kS (fun q hq e => by have := (opb.lt q hq).1; omega)).weak (by omega), (omb.step kS (fun q hq e => by have := (omb.lt q hq).1; omega)).weak (by omega), hd⟩, (hcb.step kS (fun q hq => by omega)).more (by omega), kkb.step kS (fun q hq hl => by omega)⟩
          · obtain ⟨z0, z1, z2, z3, z4, _⟩ := bRa.put5 (.int .i64 c.pol) (.int .i64 c.size) (.slice pa6 pn6 pc6) (.slice (some ⟨g, 0, none⟩) c.marks.length mc6) (.int .i64 c.hand)
            refine bodyPost_ret (v := .agg #[.int .i64 c.pol, .int .i64 c.size, .slice pa6 pn6 pc6, .slice (some ⟨g, 0, none⟩) c.marks.length mc6, .int .i64 c.hand]) (by simp [results, Tryz.results95, go_sem, z0, z1, z2, z3, z4]) rfl ?_
            have kS := (Chg.refl (fun q => q = X ∨ q = w.heap.size) wa).put5 (b := w.heap.size) (fun _ => .inr rfl) (.int .i64 c.pol) (.int .i64 c.size) (.slice pa6 pn6 pc6) (.slice (some ⟨g, 0, none⟩) c.marks.length mc6) (.int .i64 c.hand)
            exact ⟨_, ⟨c.pol, c.size, c.pages, MS, c.hand⟩, rfl, ⟨_, _, rfl, (opa.step kS (fun q hq e => by have := (opa.lt q hq).1; omega)).weak (by omega), (oma.step kS (fun q hq e => by have := (oma.lt q hq).1; omega)).weak (by omega), hd⟩, (hca.step kS (fun q hq => by omega)).more (by omega), kka.step kS (fun q hq hl => by omega)⟩
        · intro K0 hK0
          have ka := (Chg.refl No W1).alloc (.cells #[.int .i64 0, .int .i64 1, .int .i64 1, .int .i64 2, .int .i64 59, .int .i64 60, .int .i64 61, .int .i64 (-1)] 3)
          have rl : RI (fun q => q = b) (W1.alloc (.cells #[.int .i64 0, .int .i64 1, .int .i64 1, .int .i64 2, .int .i64 59, .int .i64 60, .int .i64 61, .int .i64 (-1)] 3)) (.slice (some ⟨W1.heap.size, 0, none⟩) 8 8) [0, 1, 1, 2, 59, 60, 61, -1] := RI.lit (fun q => q = b) W1 [0, 1, 1, 2, 59, 60, 61, -1] _ _ _ 8 8 rfl rfl rfl (Nat.le_refl _) (fun e => by have := bx8.lt; have e : W1.heap.size = b := e; omega) (by decide)
          have bxy := bx8.keep ka; have bRy := bR8.keep ka; have opy := op8.keep ka; have omy := om8.keep ka; have kky := kk8.keep ka; have hzy := ka.size
          unfold Oper.wp execOp
          go_simp
          refine hK0.out _ _ bxy ?_
          clear hK0 K0
          simp only [List.setIfInBounds_toArray]
          refine wpAnyK_1 6 (by kernel_rfl) (wpOpK' rfl rfl ?_)
          intro K0 hK0
          refine ocallE (f := 52) (args := #[.pointer (some ⟨b, 0, none⟩), .int .i64 (c.marks.length : Int)]) (φ := fun v W' => ∃ j : Nat, v = .int .i64 (j : Int) ∧ j < c.marks.length ∧ Cur W' b B (K' + 2 + 2) ∧ Chg (fun q => q = b) (W1.alloc (.cells #[.int .i64 0, .int .i64 1, .int .i64 1, .int .i64 2, .int .i64 59, .int .i64 60, .int .i64 61, .int .i64 (-1)] 3)) W') (by go_simp) ((pick_any b B (K' + 2) _ _ (hc8.keep ka) (by omega) (by omega)).mono (fun e W' ⟨x, h1, h2, h3, h4, h5, h6⟩ => ⟨_, h1, x.toNat, by rw [Int.toNat_of_nonneg h2], by omega, h5, h6⟩)) (fun v2 W2 h2 => ?_)
          obtain ⟨j, rfl, hj, hc2, k2⟩ := h2
          have bxz := bxy.step k2 (by omega); have bRz := bRy.step k2 (by omega); have opz := opy.step k2 (fun q hq e => by have := (opy.lt q hq).1; omega); have omz := omy.step k2 (fun q hq e => by have := (omy.lt q hq).1; omega); have kkz := kky.trans k2; have hzz := k2.size
          have hj0 : (0 : Int) ≤ (j : Int) := Int.natCast_nonneg _
          have hj1 : (j : Int) < (c.marks.length : Int) := by omega
          refine hK0.out _ _ bxz ?_
          clear hK0 K0 hS
          simp only [zA, zB, zC, zD, zE, zF, zG]
          refine wpAnyK_1 9 (by kernel_rfl) (wpOpK' rfl rfl ?_)
          intro K0 hK0
          refine ocallE (f := 92) (args := #[.pointer (some ⟨b, 0, none⟩), .slice (some ⟨W1.heap.size, 0, none⟩) 8 8]) (φ := fun v W' => ∃ y : Int, v = .int .i64 y ∧ Cur W' b B (K' + 2 + 2 + 2) ∧ Chg (fun q => q = b) W2 W') (by go_simp) ((among_any b B (K' + 2 + 2) _ _ _ hc2 (by omega) (rl.step k2 (fun q hq => hq)) (by decide) (by decide)).mono (fun e W' ⟨x, h1, _, h5, h6⟩ => ⟨_, h1, x, rfl, h5, h6⟩)) (fun v3 W3 h3 => ?_)
          obtain ⟨y, rfl, hc3, k3⟩ := h3
          have bxm := bxz.step k3 (by omega); have bRm := bRz.step k3 (by omega); have opm := opz.step k3 (fun q hq e => by have := (opz.lt q hq).1; omega); have omm := omz.step k3 (fun q hq e => by have := (omz.lt q hq).1; omega); have kkm := kkz.trans k3; have hzm := k3.size
          refine hK0.out _ _ bxm ?_
          clear hK0 K0
          simp only [zA, zB, zC, zD, zE, zF, zG]
          refine wpAnyK_tail 10 rfl (by kernel_rfl) ?_
          simp only [List.drop_succ_cons, List.drop_zero]
          have hcl := omm.at.1 j hj
          have hfz := omm.at.2.1 j
          go_wp2_with fail
          obtain ⟨om9, s9⟩ := omm.store j y
          have hgZ := (omm.lt g (by simp [own, Value.ownBlock])).1
          have bx9 := bxm.step s9 (by omega)
          have bR9 := bRm.step s9 (by omega)
          have op9 := opm.step s9 (fun q hq e => hd q hq (by subst e; simp [own, Value.ownBlock]))
          have kk9 := kkm.step s9 (fun q hq hl => by omega)
          have hc9 := hc3.step s9 (fun q hq => by omega)
          have hz9 := s9.size
          generalize W3.setCell ⟨g, j, none⟩ (.int .i64 y) = W9 at bx9 bR9 op9 om9 kk9 hc9 hz9 ⊢
          obtain ⟨K9, hK9⟩ : ∃ K9, K' + 2 + 2 + 2 = K9 := ⟨_, rfl⟩
          rw [hK9] at hc9
          have hmlen : (c.marks.set j y).length < 17592186044416 := by rw [List.length_set]; omega
          obtain ⟨MS, hMS⟩ : ∃ MS, c.marks.set j y = MS := ⟨_, rfl⟩
          rw [hMS] at hmlen om9
          go_wp2_with (first
            | (at_builtin; refine wapp1 rfl (.tmp 74) (.tmp 75) rfl oma rfl rfl hmlen hZa ?_)
            | (go_at_call 92; refine (among_lit b B (K9 + 2) wa [1, -1, 6, c.size] _ _ _ _ _ rfl rfl rfl rfl hca (by omega) (by simp) (by simp)).mono ?_; rintro e wb ⟨y, rfl, _, hcb, hkb⟩; have bxb := bxa.step hkb (by omega); have bRb := bRa.step hkb (by omega); have opb := opa.step hkb (fun q hq e => by have := (opa.lt q hq).1; omega); have omb := oma.step hkb (fun q hq e => by have := (oma.lt q hq).1; omega); have kkb := kka.trans hkb; have hzb := hkb.size; clear c0 c1 c2 c3 c4 fr s0 s1 s2 s3 s4 sf; obtain ⟨c0, c1, c2, c3, c4, fr⟩ := id bxb; obtain ⟨e0, e1, e2, e3, e4, ef⟩ := id (bxb.set4 (.int .i64 y)); obtain ⟨s0, s1, s2, s3, s4, sf⟩ := id (bRb.far ⟨X, 4, none⟩ (.int .i64 y) (by simp; omega)); have sf0 := sf 0; have sf1 := sf 1; have sf2 := sf 2; have sf3 := sf 3; have sf4 := sf 4; clear sf)
            | (go_at_call 100; refine (policy_any b B (K9 + 2) wa hca (by omega)).mono ?_; rintro e wb ⟨y, rfl, _, _, hcb, hkb⟩; have bxb := bxa.step hkb (by omega); have bRb := bRa.step hkb (by omega); have opb := opa.step hkb (fun q hq e => by have := (opa.lt q hq).1; omega); have omb := oma.step hkb (fun q hq e => by have := (oma.lt q hq).1; omega); have kkb := kka.trans hkb; have hzb := hkb.size; clear c0 c1 c2 c3 c4 fr s0 s1 s2 s3 s4 sf; obtain ⟨c0, c1, c2, c3, c4, fr⟩ := id bxb; obtain ⟨e0, e1, e2, e3, e4, ef⟩ := id (bxb.set0 (.int .i64 y)); obtain ⟨s0, s1, s2, s3, s4, sf⟩ := id (bRb.far ⟨X, 0, none⟩ (.int .i64 y) (by simp; omega)); have sf0 := sf 0; have sf1 := sf 1; have sf2 := sf 2; have sf3 := sf 3; have sf4 := sf 4; clear sf)
            | (go_at_call 101; refine (size4_any b B (K9 + 2) wa hca (by omega)).mono ?_; rintro e wb ⟨y, rfl, _, _, hcb, hkb⟩; have bxb := bxa.step hkb (by omega); have bRb := bRa.step hkb (by omega); have opb := opa.step hkb (fun q hq e => by have := (opa.lt q hq).1; omega); have omb := oma.step hkb (fun q hq e => by have := (oma.lt q hq).1; omega); have kkb := kka.trans hkb; have hzb := hkb.size; clear c0 c1 c2 c3 c4 fr s0 s1 s2 s3 s4 sf; obtain ⟨c0, c1, c2, c3, c4, fr⟩ := id bxb; obtain ⟨e0, e1, e2, e3, e4, ef⟩ := id (bxb.set1 (.int .i64 y)); obtain ⟨s0, s1, s2, s3, s4, sf⟩ := id (bRb.far ⟨X, 1, none⟩ (.int .i64 y) (by simp; omega)); have sf0 := sf 0; have sf1 := sf 1; have sf2 := sf 2; have sf3 := sf 3; have sf4 := sf 4; clear sf)
            | (go_at_call 52; refine (pick_any b B K9 40 W9 hc9 (by omega) (by omega)).mono ?_; rintro e wa ⟨z', rfl, _, _, _, hca, hka⟩; have bxa := bx9.step hka (by omega); have bRa := bR9.step hka (by omega); have opa := op9.step hka (fun q hq e => by have := (op9.lt q hq).1; omega); have oma := om9.step hka (fun q hq e => by have := (om9.lt q hq).1; omega); have kka := kk9.trans hka; have hza := hka.size; have hZa : Z ≤ wa.heap.size := (by omega); obtain ⟨c0, c1, c2, c3, c4, fr⟩ := id bxa; obtain ⟨s0, s1, s2, s3, s4, sf⟩ := id bRa))
          · obtain ⟨z0, z1, z2, z3, z4, _⟩ := (bRb.far ⟨X, 4, none⟩ (.int .i64 y) (by simp; omega)).put5 (.int .i64 c.pol) (.int .i64 c.size) (.slice pa6 pn6 pc6) (.slice (some ⟨g, 0, none⟩) c.marks.length mc6) (.int .i64 y)
            refine bodyPost_ret (v := .agg #[.int .i64 c.pol, .int .i64 c.size, .slice pa6 pn6 pc6, .slice (some ⟨g, 0, none⟩) c.marks.length mc6, .int .i64 y]) (by simp [results, Tryz.results95, go_sem, z0, z1, z2, z3, z4]) rfl ?_
            have kS := ((Chg.refl (fun q => q = X ∨ q = w.heap.size) wb).setCell (p := ⟨X, 4, none⟩) (fun _ => .inl rfl) (.int .i64 y)).put5 (b := w.heap.size) (fun _ => .inr rfl) (.int .i64 c.pol) (.int .i64 c.size) (.slice pa6 pn6 pc6) (.slice (some ⟨g, 0, none⟩) c.marks.length mc6) (.int .i64 y)
            exact ⟨_, ⟨c.pol, c.size, c.pages, MS, y⟩, rfl, ⟨_, _, rfl, (opb.step kS (fun q hq e => by have := (opb.lt q hq).1; omega)).weak (by omega), (omb.step kS (fun q hq e => by have := (omb.lt q hq).1; omega)).weak (by omega), hd⟩, (hcb.step kS (fun q hq => by omega)).more (by omega), kkb.step kS (fun q hq hl => by omega)⟩
          · refine wp_region_K (S := (fun W : World => Box W X (.int .i64 c.pol) (.int .i64 c.size) (.slice pa6 pn6 pc6) (.slice (some ⟨g, 0, none⟩) c.marks.length mc6) (.int .i64 c.hand))) (k := 8) (by kernel_rfl) ?_
            clear c0 c1 c2 c3 c4 fr s0 s1 s2 s3 s4 sf
            have kd := (Chg.refl No wa).drew
            have hca := hca.keep kd
            have bxa := bxa.keep kd
            have bRa := bRa.keep kd
            have opa := opa.keep kd
            have oma := oma.keep kd
            have kka := kka.keep kd
            have hZa := Nat.le_trans hZa kd.size
            generalize wa.drew = W1 at hca bxa bRa opa oma kka hZa ⊢
            have hS : (fun W : World => Box W X (.int .i64 c.pol) (.int .i64 c.size) (.slice pa6 pn6 pc6) (.slice (some ⟨g, 0, none⟩) c.marks.length mc6) (.int .i64 c.hand)) W1 := bxa
            refine wpAnyK_take0 0 (.pointer (some ⟨X, 2, none⟩)) rfl (by kernel_rfl) (fun _ _ _ h => h) hS rfl (by intro w; go_simp) ?_
            simp only [zA, zC, zD, zE, zF, zG]
            refine wpAnyK_take 1 (.slice pa6 pn6 pc6) rfl (by kernel_rfl) (fun _ _ _ h => h) hS rfl (by rintro w ⟨c0, c1, c2, c3, c4, fr⟩; go_simp) ?_
            simp only [zA, zB, zC, zD, zE, zF, zG]
            refine wpAnyK_take0 2 (.pointer (some ⟨b, 0, none⟩)) rfl (by kernel_rfl) (fun _ _ _ h => h) hS rfl (by intro w; go_simp) ?_
            simp only [zA, zB, zC, zD, zE, zF, zG]
            refine wpAnyK_take0 3 (.int .i64 n) rfl (by kernel_rfl) (fun _ _ _ h => h) hS rfl (by intro w; go_simp) ?_
            simp only [zA, zB, zC, zD, zE, zF, zG]
            refine wpAnyK_1 4 (by kernel_rfl) (wpOpK' rfl rfl ?_)
            intro K0 hK0
            unfold Oper.wp execOp
            go_simp
            refine hK0.out _ _ (bxa.keep ((Chg.refl No W1).alloc _)) ?_
            clear hK0 K0
            simp only [List.setIfInBounds_toArray]
            refine wpAnyK_1 5 (by kernel_rfl) (wpOpK' rfl rfl ?_)
            intro K0 hK0
            refine ocallE (f := 92) (args := #[.pointer (some ⟨b, 0, none⟩), .slice (some ⟨W1.heap.size, 0, none⟩) 4 4]) (φ := fun v W' => ∃ y : Int, v = .int .i64 y ∧ Cur W' b B (K9 + 2 + 2) ∧ Chg (fun q => q = b) W1 W') (by go_simp) ((among_lit b B (K9 + 2) W1 [0, 1, n, -1] _ _ _ _ _ rfl rfl rfl rfl hca (by omega) (by simp) (by simp)).mono (fun e W' ⟨x, h1, _, h5, h6⟩ => ⟨_, h1, x, rfl, h5, h6⟩)) (fun v2 W2 h2 => ?_)
            obtain ⟨y, rfl, hc2, k2⟩ := h2
            have bxy := bxa.step k2 (by omega); have bRy := bRa.step k2 (by omega); have opy := opa.step k2 (fun q hq e => by have := (opa.lt q hq).1; omega); have omy := oma.step k2 (fun q hq e => by have := (oma.lt q hq).1; omega); have kky := kka.trans k2; have hzy := k2.size
            refine hK0.out _ _ bxy ?_
            clear hK0 K0 hS
            simp only [zA, zB, zC, zD, zE, zF, zG]
            refine wpAnyK_1 6 (by kernel_rfl) (wpOpK' rfl rfl ?_)
            intro K0 hK0
            refine obuild (.tmp 67) y rfl rfl (fun g3 W3 k3 hg3 lg3 => hK0.out _ _ (bxy.keep k3) ?_)
            clear hK0 K0
            simp only [zA, zB, zC, zD, zE, zF, zG]
            have hz3 := k3.size
            refine wpAnyK_1 7 (by kernel_rfl) (wpOpK' rfl rfl ?_)
            intro K0 hK0
            have hop3 := (opy.keep k3).lt
            refine oapp (.tmp 63) (.tmp 68) rfl (opy.keep k3) (RI.one hg3 (Nat.le_refl 1) (by decide) (fun e => e)) rfl rfl (by have := hok.len; have := hok.size; simp; omega) (by omega) (fun v6 wm h6 k6 f6 => hK0.out _ _ ((bxy.keep k3).step k6 (fun e => by have := (hop3 _ e).1; omega)) ?_)
            clear hK0 K0
            simp only [zA, zB, zC, zD, zE, zF, zG]
            obtain ⟨pa7, pn7, pc7, rfl⟩ := h6.shape
            have bxm := (bxy.keep k3).step k6 (fun e => by have := (hop3 _ e).1; omega)
            have bRm := (bRy.keep k3).step k6 (fun e => by have := (hop3 _ e).1; omega)
            have opm := h6
            have omm := (omy.keep k3).step k6 (fun q hq e => hd q e hq)
            have hcm' := (hc2.keep k3).step k6 (fun q hq => by have := (hop3 _ hq).1; omega)
            have kkm := (kky.keep k3).step k6 (fun q hq hl => by have := (hop3 _ hq).1; omega)
            have hdm : ∀ q, own (.slice pa7 pn7 pc7) q → ¬ own (.slice (some ⟨g, 0, none⟩) c.marks.length mc6) q := fun q hq e => by
              rcases f6 q hq with h | h
              · exact hd q h e
              · have := ((omy.keep k3).lt q e).2; omega
            have hzm := k6.size
            obtain ⟨c0, c1, c2, c3, c4, fr⟩ := id bxm
            obtain ⟨e0, e1, e2, e3, e4, ef⟩ := id (bxm.set2 (.slice pa7 pn7 pc7))
            obtain ⟨s0, s1, s2, s3, s4, sf⟩ := id (bRm.far ⟨X, 2, none⟩ (.slice pa7 pn7 pc7) (by simp; omega))
            have sf0 := sf 0
            have sf1 := sf 1
            have sf2 := sf 2
            have sf3 := sf 3
            have sf4 := sf 4
            clear sf
            refine wpAnyK_tail 8 rfl (by kernel_rfl) ?_
            simp only [List.drop_succ_cons, List.drop_zero]
            go_wp2_with fail
            obtain ⟨z0, z1, z2, z3, z4, _⟩ := (bRm.far ⟨X, 2, none⟩ (.slice pa7 pn7 pc7) (by simp; omega)).put5 (.int .i64 c.pol) (.int .i64 c.size) (.slice pa7 pn7 pc7) (.slice (some ⟨g, 0, none⟩) c.marks.length mc6) (.int .i64 c.hand)
            refine bodyPost_ret (v := .agg #[.int .i64 c.pol, .int .i64 c.size, .slice pa7 pn7 pc7, .slice (some ⟨g, 0, none⟩) c.marks.length mc6, .int .i64 c.hand]) (by simp [results, Tryz.results95, go_sem, z0, z1, z2, z3, z4]) rfl ?_
            have kS := ((Chg.refl (fun q => q = X ∨ q = w.heap.size) wm).setCell (p := ⟨X, 2, none⟩) (fun _ => .inl rfl) (.slice pa7 pn7 pc7)).put5 (b := w.heap.size) (fun _ => .inr rfl) (.int .i64 c.pol) (.int .i64 c.size) (.slice pa7 pn7 pc7) (.slice (some ⟨g, 0, none⟩) c.marks.length mc6) (.int .i64 c.hand)
            exact ⟨_, ⟨c.pol, c.size, c.pages ++ [y], MS, c.hand⟩, rfl, ⟨_, _, rfl, (opm.step kS (fun q hq e => by have := (opm.lt q hq).1; omega)).weak (by omega), (omm.step kS (fun q hq e => by have := (omm.lt q hq).1; omega)).weak (by omega), hdm⟩, (hcm'.step kS (fun q hq => by omega)).more (by omega), kkm.step kS (fun q hq hl => by omega)⟩
          · intro v7 wm h7 k7 f7
            clear c0 c1 c2 c3 c4 fr s0 s1 s2 s3 s4 sf
            obtain ⟨ma7, mn7, mc7, rfl⟩ := h7.shape
            have how := oma.lt
            have bxm := bxa.step k7 (fun e => by have := (how _ e).1; omega)
            have bRm := bRa.step k7 (fun e => by have := (how _ e).1; omega)
            have opm := opa.step k7 (fun q hq e => hd q hq e)
            have omm := h7
            have hcm' := hca.step k7 (fun q hq => by have := (how _ hq).1; omega)
            have kkm := kka.step k7 (fun q hq hl => by have := (how _ hq).1; omega)
            have hdm : ∀ q, own (.slice pa6 pn6 pc6) q → ¬ own (.slice ma7 mn7 mc7) q := fun q hq e => by
              rcases f7 q e with h | h
              · exact hd q hq h
              · have := (opa.lt q hq).2; omega
            have hzm := k7.size
            obtain ⟨c0, c1, c2, c3, c4, fr⟩ := id bxm
            obtain ⟨e0, e1, e2, e3, e4, ef⟩ := id (bxm.set3 (.slice ma7 mn7 mc7))
            obtain ⟨s0, s1, s2, s3, s4, sf⟩ := id (bRm.far ⟨X, 3, none⟩ (.slice ma7 mn7 mc7) (by simp; omega))
            have sf0 := sf 0
            have sf1 := sf 1
            have sf2 := sf 2
            have sf3 := sf 3
            have sf4 := sf 4
            clear sf
            go_wp2_with fail
            obtain ⟨z0, z1, z2, z3, z4, _⟩ := (bRm.far ⟨X, 3, none⟩ (.slice ma7 mn7 mc7) (by simp; omega)).put5 (.int .i64 c.pol) (.int .i64 c.size) (.slice pa6 pn6 pc6) (.slice ma7 mn7 mc7) (.int .i64 c.hand)
            refine bodyPost_ret (v := .agg #[.int .i64 c.pol, .int .i64 c.size, .slice pa6 pn6 pc6, .slice ma7 mn7 mc7, .int .i64 c.hand]) (by simp [results, Tryz.results95, go_sem, z0, z1, z2, z3, z4]) rfl ?_
            have kS := ((Chg.refl (fun q => q = X ∨ q = w.heap.size) wm).setCell (p := ⟨X, 3, none⟩) (fun _ => .inl rfl) (.slice ma7 mn7 mc7)).put5 (b := w.heap.size) (fun _ => .inr rfl) (.int .i64 c.pol) (.int .i64 c.size) (.slice pa6 pn6 pc6) (.slice ma7 mn7 mc7) (.int .i64 c.hand)
            exact ⟨_, ⟨c.pol, c.size, c.pages, MS ++ [1], c.hand⟩, rfl, ⟨_, _, rfl, (opm.step kS (fun q hq e => by have := (opm.lt q hq).1; omega)).weak (by omega), (omm.step kS (fun q hq e => by have := (omm.lt q hq).1; omega)).weak (by omega), hdm⟩, (hcm'.step kS (fun q hq => by omega)).more (by omega), kkm.step kS (fun q hq hl => by omega)⟩
          · obtain ⟨z0, z1, z2, z3, z4, _⟩ := (bRb.far ⟨X, 0, none⟩ (.int .i64 y) (by simp; omega)).put5 (.int .i64 y) (.int .i64 c.size) (.slice pa6 pn6 pc6) (.slice (some ⟨g, 0, none⟩) c.marks.length mc6) (.int .i64 c.hand)
            refine bodyPost_ret (v := .agg #[.int .i64 y, .int .i64 c.size, .slice pa6 pn6 pc6, .slice (some ⟨g, 0, none⟩) c.marks.length mc6, .int .i64 c.hand]) (by simp [results, Tryz.results95, go_sem, z0, z1, z2, z3, z4]) rfl ?_
            have kS := ((Chg.refl (fun q => q = X ∨ q = w.heap.size) wb).setCell (p := ⟨X, 0, none⟩) (fun _ => .inl rfl) (.int .i64 y)).put5 (b := w.heap.size) (fun _ => .inr rfl) (.int .i64 y) (.int .i64 c.size) (.slice pa6 pn6 pc6) (.slice (some ⟨g, 0, none⟩) c.marks.length mc6) (.int .i64 c.hand)
            exact ⟨_, ⟨y, c.size, c.pages, MS, c.hand⟩, rfl, ⟨_, _, rfl, (opb.step kS (fun q hq e => by have := (opb.lt q hq).1; omega)).weak (by omega), (omb.step kS (fun q hq e => by have := (omb.lt q hq).1; omega)).weak (by omega), hd⟩, (hcb.step kS (fun q hq => by omega)).more (by omega), kkb.step kS (fun q hq hl => by omega)⟩
          · obtain ⟨z0, z1, z2, z3, z4, _⟩ := (bRb.far ⟨X, 1, none⟩ (.int .i64 y) (by simp; omega)).put5 (.int .i64 c.pol) (.int .i64 y) (.slice pa6 pn6 pc6) (.slice (some ⟨g, 0, none⟩) c.marks.length mc6) (.int .i64 c.hand)
            refine bodyPost_ret (v := .agg #[.int .i64 c.pol, .int .i64 y, .slice pa6 pn6 pc6, .slice (some ⟨g, 0, none⟩) c.marks.length mc6, .int .i64 c.hand]) (by simp [results, Tryz.results95, go_sem, z0, z1, z2, z3, z4]) rfl ?_
            have kS := ((Chg.refl (fun q => q = X ∨ q = w.heap.size) wb).setCell (p := ⟨X, 1, none⟩) (fun _ => .inl rfl) (.int .i64 y)).put5 (b := w.heap.size) (fun _ => .inr rfl) (.int .i64 c.pol) (.int .i64 y) (.slice pa6 pn6 pc6) (.slice (some ⟨g, 0, none⟩) c.marks.length mc6) (.int .i64 c.hand)
            exact ⟨_, ⟨c.pol, y, c.pages, MS, c.hand⟩, rfl, ⟨_, _, rfl, (opb.step kS (fun q hq e => by have := (opb.lt q hq).1; omega)).weak (by omega), (omb.step kS (fun q hq e => by have := (omb.lt q hq).1; omega)).weak (by omega), hd⟩, (hcb.step kS (fun q hq => by omega)).more (by omega), kkb.step kS (fun q hq hl => by omega)⟩
          · obtain ⟨z0, z1, z2, z3, z4, _⟩ := bRa.put5 (.int .i64 c.pol) (.int .i64 c.size) (.slice pa6 pn6 pc6) (.slice (some ⟨g, 0, none⟩) c.marks.length mc6) (.int .i64 c.hand)
            refine bodyPost_ret (v := .agg #[.int .i64 c.pol, .int .i64 c.size, .slice pa6 pn6 pc6, .slice (some ⟨g, 0, none⟩) c.marks.length mc6, .int .i64 c.hand]) (by simp [results, Tryz.results95, go_sem, z0, z1, z2, z3, z4]) rfl ?_
            have kS := (Chg.refl (fun q => q = X ∨ q = w.heap.size) wa).put5 (b := w.heap.size) (fun _ => .inr rfl) (.int .i64 c.pol) (.int .i64 c.size) (.slice pa6 pn6 pc6) (.slice (some ⟨g, 0, none⟩) c.marks.length mc6) (.int .i64 c.hand)
            exact ⟨_, ⟨c.pol, c.size, c.pages, MS, c.hand⟩, rfl, ⟨_, _, rfl, (opa.step kS (fun q hq e => by have := (opa.lt q hq).1; omega)).weak (by omega), (oma.step kS (fun q hq e => by have := (oma.lt q hq).1; omega)).weak (by omega), hd⟩, (hca.step kS (fun q hq => by omega)).more (by omega), kka.step kS (fun q hq hl => by omega)⟩
      · have hmlen : c.marks.length < 17592186044416 := by omega
        obtain ⟨K8, hK8⟩ : ∃ K8, K' + 2 = K8 := ⟨_, rfl⟩
        rw [hK8] at hc8
        go_wp2_with (first
          | (at_builtin; refine wapp1 rfl (.tmp 74) (.tmp 75) rfl oma rfl rfl hmlen hZa ?_)
          | (go_at_call 92; refine (among_lit b B (K8 + 2) wa [1, -1, 6, c.size] _ _ _ _ _ rfl rfl rfl rfl hca (by omega) (by simp) (by simp)).mono ?_; rintro e wb ⟨y, rfl, _, hcb, hkb⟩; have bxb := bxa.step hkb (by omega); have bRb := bRa.step hkb (by omega); have opb := opa.step hkb (fun q hq e => by have := (opa.lt q hq).1; omega); have omb := oma.step hkb (fun q hq e => by have := (oma.lt q hq).1; omega); have kkb := kka.trans hkb; have hzb := hkb.size; clear c0 c1 c2 c3 c4 fr s0 s1 s2 s3 s4 sf; obtain ⟨c0, c1, c2, c3, c4, fr⟩ := id bxb; obtain ⟨e0, e1, e2, e3, e4, ef⟩ := id (bxb.set4 (.int .i64 y)); obtain ⟨s0, s1, s2, s3, s4, sf⟩ := id (bRb.far ⟨X, 4, none⟩ (.int .i64 y) (by simp; omega)); have sf0 := sf 0; have sf1 := sf 1; have sf2 := sf 2; have sf3 := sf 3; have sf4 := sf 4; clear sf)
          | (go_at_call 100; refine (policy_any b B (K8 + 2) wa hca (by omega)).mono ?_; rintro e wb ⟨y, rfl, _, _, hcb, hkb⟩; have bxb := bxa.step hkb (by omega); have bRb := bRa.step hkb (by omega); have opb := opa.step hkb (fun q hq e => by have := (opa.lt q hq).1; omega); have omb := oma.step hkb (fun q hq e => by have := (oma.lt q hq).1; omega); have kkb := kka.trans hkb; have hzb := hkb.size; clear c0 c1 c2 c3 c4 fr s0 s1 s2 s3 s4 sf; obtain ⟨c0, c1, c2, c3, c4, fr⟩ := id bxb; obtain ⟨e0, e1, e2, e3, e4, ef⟩ := id (bxb.set0 (.int .i64 y)); obtain ⟨s0, s1, s2, s3, s4, sf⟩ := id (bRb.far ⟨X, 0, none⟩ (.int .i64 y) (by simp; omega)); have sf0 := sf 0; have sf1 := sf 1; have sf2 := sf 2; have sf3 := sf 3; have sf4 := sf 4; clear sf)
          | (go_at_call 101; refine (size4_any b B (K8 + 2) wa hca (by omega)).mono ?_; rintro e wb ⟨y, rfl, _, _, hcb, hkb⟩; have bxb := bxa.step hkb (by omega); have bRb := bRa.step hkb (by omega); have opb := opa.step hkb (fun q hq e => by have := (opa.lt q hq).1; omega); have omb := oma.step hkb (fun q hq e => by have := (oma.lt q hq).1; omega); have kkb := kka.trans hkb; have hzb := hkb.size; clear c0 c1 c2 c3 c4 fr s0 s1 s2 s3 s4 sf; obtain ⟨c0, c1, c2, c3, c4, fr⟩ := id bxb; obtain ⟨e0, e1, e2, e3, e4, ef⟩ := id (bxb.set1 (.int .i64 y)); obtain ⟨s0, s1, s2, s3, s4, sf⟩ := id (bRb.far ⟨X, 1, none⟩ (.int .i64 y) (by simp; omega)); have sf0 := sf 0; have sf1 := sf 1; have sf2 := sf 2; have sf3 := sf 3; have sf4 := sf 4; clear sf)
          | (go_at_call 52; refine (pick_any b B K8 40 w8 hc8 (by omega) (by omega)).mono ?_; rintro e wa ⟨z', rfl, _, _, _, hca, hka⟩; have bxa := bx8.step hka (by omega); have bRa := bR8.step hka (by omega); have opa := op8.step hka (fun q hq e => by have := (op8.lt q hq).1; omega); have oma := om8.step hka (fun q hq e => by have := (om8.lt q hq).1; omega); have kka := kk8.trans hka; have hza := hka.size; have hZa : Z ≤ wa.heap.size := (by omega); obtain ⟨c0, c1, c2, c3, c4, fr⟩ := id bxa; obtain ⟨s0, s1, s2, s3, s4, sf⟩ := id bRa))
        · obtain ⟨z0, z1, z2, z3, z4, _⟩ := (bRb.far ⟨X, 4, none⟩ (.int .i64 y) (by simp; omega)).put5 (.int .i64 c.pol) (.int .i64 c.size) (.slice pa6 pn6 pc6) (.slice ma6 mn6 mc6) (.int .i64 y)
          refine bodyPost_ret (v := .agg #[.int .i64 c.pol, .int .i64 c.size, .slice pa6 pn6 pc6, .slice ma6 mn6 mc6, .int .i64 y]) (by simp [results, Tryz.results95, go_sem, z0, z1, z2, z3, z4]) rfl ?_
          have kS := ((Chg.refl (fun q => q = X ∨ q = w.heap.size) wb).setCell (p := ⟨X, 4, none⟩) (fun _ => .inl rfl) (.int .i64 y)).put5 (b := w.heap.size) (fun _ => .inr rfl) (.int .i64 c.pol) (.int .i64 c.size) (.slice pa6 pn6 pc6) (.slice ma6 mn6 mc6) (.int .i64 y)
          exact ⟨_, ⟨c.pol, c.size, c.pages, c.marks, y⟩, rfl, ⟨_, _, rfl, (opb.step kS (fun q hq e => by have := (opb.lt q hq).1; omega)).weak (by omega), (omb.step kS (fun q hq e => by have := (omb.lt q hq).1; omega)).weak (by omega), hd⟩, (hcb.step kS (fun q hq => by omega)).more (by omega), kkb.step kS (fun q hq hl => by omega)⟩
        · refine wp_region_K (S := (fun W : World => Box W X (.int .i64 c.pol) (.int .i64 c.size) (.slice pa6 pn6 pc6) (.slice ma6 mn6 mc6) (.int .i64 c.hand))) (k := 8) (by kernel_rfl) ?_
          clear c0 c1 c2 c3 c4 fr s0 s1 s2 s3 s4 sf
          have kd := (Chg.refl No wa).drew
          have hca := hca.keep kd
          have bxa := bxa.keep kd
          have bRa := bRa.keep kd
          have opa := opa.keep kd
          have oma := oma.keep kd
          have kka := kka.keep kd
          have hZa := Nat.le_trans hZa kd.size
          generalize wa.drew = W1 at hca bxa bRa opa oma kka hZa ⊢
          have hS : (fun W : World => Box W X (.int .i64 c.pol) (.int .i64 c.size) (.slice pa6 pn6 pc6) (.slice ma6 mn6 mc6) (.int .i64 c.hand)) W1 := bxa
          refine wpAnyK_take0 0 (.pointer (some ⟨X, 2, none⟩)) rfl (by kernel_rfl) (fun _ _ _ h => h) hS rfl (by intro w; go_simp) ?_
          simp only [zA, zC, zD, zE, zF, zG]
          refine wpAnyK_take 1 (.slice pa6 pn6 pc6) rfl (by kernel_rfl) (fun _ _ _ h => h) hS rfl (by rintro w ⟨c0, c1, c2, c3, c4, fr⟩; go_simp) ?_
          simp only [zA, zB, zC, zD, zE, zF, zG]
          refine wpAnyK_take0 2 (.pointer (some ⟨b, 0, none⟩)) rfl (by kernel_rfl) (fun _ _ _ h => h) hS rfl (by intro w; go_simp) ?_
          simp only [zA, zB, zC, zD, zE, zF, zG]
          refine wpAnyK_take0 3 (.int .i64 n) rfl (by kernel_rfl) (fun _ _ _ h => h) hS rfl (by intro w; go_simp) ?_
          simp only [zA, zB, zC, zD, zE, zF, zG]
          refine wpAnyK_1 4 (by kernel_rfl) (wpOpK' rfl rfl ?_)
          intro K0 hK0
          unfold Oper.wp execOp
          go_simp
          refine hK0.out _ _ (bxa.keep ((Chg.refl No W1).alloc _)) ?_
          clear hK0 K0
          simp only [List.setIfInBounds_toArray]
          refine wpAnyK_1 5 (by kernel_rfl) (wpOpK' rfl rfl ?_)
          intro K0 hK0
          refine ocallE (f := 92) (args := #[.pointer (some ⟨b, 0, none⟩), .slice (some ⟨W1.heap.size, 0, none⟩) 4 4]) (φ := fun v W' => ∃ y : Int, v = .int .i64 y ∧ Cur W' b B (K8 + 2 + 2) ∧ Chg (fun q => q = b) W1 W') (by go_simp) ((among_lit b B (K8 + 2) W1 [0, 1, n, -1] _ _ _ _ _ rfl rfl rfl rfl hca (by omega) (by simp) (by simp)).mono (fun e W' ⟨x, h1, _, h5, h6⟩ => ⟨_, h1, x, rfl, h5, h6⟩)) (fun v2 W2 h2 => ?_)
          obtain ⟨y, rfl, hc2, k2⟩ := h2
          have bxy := bxa.step k2 (by omega); have bRy := bRa.step k2 (by omega); have opy := opa.step k2 (fun q hq e => by have := (opa.lt q hq).1; omega); have omy := oma.step k2 (fun q hq e => by have := (oma.lt q hq).1; omega); have kky := kka.trans k2; have hzy := k2.size
          refine hK0.out _ _ bxy ?_
          clear hK0 K0 hS
          simp only [zA, zB, zC, zD, zE, zF, zG]
          refine wpAnyK_1 6 (by kernel_rfl) (wpOpK' rfl rfl ?_)
          intro K0 hK0
          refine obuild (.tmp 67) y rfl rfl (fun g3 W3 k3 hg3 lg3 => hK0.out _ _ (bxy.keep k3) ?_)
          clear hK0 K0
          simp only [zA, zB, zC, zD, zE, zF, zG]
          have hz3 := k3.size
          refine wpAnyK_1 7 (by kernel_rfl) (wpOpK' rfl rfl ?_)
          intro K0 hK0
          have hop3 := (opy.keep k3).lt
          refine oapp (.tmp 63) (.tmp 68) rfl (opy.keep k3) (RI.one hg3 (Nat.le_refl 1) (by decide) (fun e => e)) rfl rfl (by have := hok.len; have := hok.size; simp; omega) (by omega) (fun v6 wm h6 k6 f6 => hK0.out _ _ ((bxy.keep k3).step k6 (fun e => by have := (hop3 _ e).1; omega)) ?_)
          clear hK0 K0
          simp only [zA, zB, zC, zD, zE, zF, zG]
          obtain ⟨pa7, pn7, pc7, rfl⟩ := h6.shape
          have bxm := (bxy.keep k3).step k6 (fun e => by have := (hop3 _ e).1; omega)
          have bRm := (bRy.keep k3).step k6 (fun e => by have := (hop3 _ e).1; omega)
          have opm := h6
          have omm := (omy.keep k3).step k6 (fun q hq e => hd q e hq)
          have hcm' := (hc2.keep k3).step k6 (fun q hq => by have := (hop3 _ hq).1; omega)
          have kkm := (kky.keep k3).step k6 (fun q hq hl => by have := (hop3 _ hq).1; omega)
          have hdm : ∀ q, own (.slice pa7 pn7 pc7) q → ¬ own (.slice ma6 mn6 mc6) q := fun q hq e => by
            rcases f6 q hq with h | h
            · exact hd q h e
            · have := ((omy.keep k3).lt q e).2; omega
          have hzm := k6.size
          obtain ⟨c0, c1, c2, c3, c4, fr⟩ := id bxm
          obtain ⟨e0, e1, e2, e3, e4, ef⟩ := id (bxm.set2 (.slice pa7 pn7 pc7))
          obtain ⟨s0, s1, s2, s3, s4, sf⟩ := id (bRm.far ⟨X, 2, none⟩ (.slice pa7 pn7 pc7) (by simp; omega))
          have sf0 := sf 0
          have sf1 := sf 1
          have sf2 := sf 2
          have sf3 := sf 3
          have sf4 := sf 4
          clear sf
          refine wpAnyK_tail 8 rfl (by kernel_rfl) ?_
          simp only [List.drop_succ_cons, List.drop_zero]
          go_wp2_with fail
          obtain ⟨z0, z1, z2, z3, z4, _⟩ := (bRm.far ⟨X, 2, none⟩ (.slice pa7 pn7 pc7) (by simp; omega)).put5 (.int .i64 c.pol) (.int .i64 c.size) (.slice pa7 pn7 pc7) (.slice ma6 mn6 mc6) (.int .i64 c.hand)
          refine bodyPost_ret (v := .agg #[.int .i64 c.pol, .int .i64 c.size, .slice pa7 pn7 pc7, .slice ma6 mn6 mc6, .int .i64 c.hand]) (by simp [results, Tryz.results95, go_sem, z0, z1, z2, z3, z4]) rfl ?_
          have kS := ((Chg.refl (fun q => q = X ∨ q = w.heap.size) wm).setCell (p := ⟨X, 2, none⟩) (fun _ => .inl rfl) (.slice pa7 pn7 pc7)).put5 (b := w.heap.size) (fun _ => .inr rfl) (.int .i64 c.pol) (.int .i64 c.size) (.slice pa7 pn7 pc7) (.slice ma6 mn6 mc6) (.int .i64 c.hand)
          exact ⟨_, ⟨c.pol, c.size, c.pages ++ [y], c.marks, c.hand⟩, rfl, ⟨_, _, rfl, (opm.step kS (fun q hq e => by have := (opm.lt q hq).1; omega)).weak (by omega), (omm.step kS (fun q hq e => by have := (omm.lt q hq).1; omega)).weak (by omega), hdm⟩, (hcm'.step kS (fun q hq => by omega)).more (by omega), kkm.step kS (fun q hq hl => by omega)⟩
        · intro v7 wm h7 k7 f7
          clear c0 c1 c2 c3 c4 fr s0 s1 s2 s3 s4 sf
          obtain ⟨ma7, mn7, mc7, rfl⟩ := h7.shape
          have how := oma.lt
          have bxm := bxa.step k7 (fun e => by have := (how _ e).1; omega)
          have bRm := bRa.step k7 (fun e => by have := (how _ e).1; omega)
          have opm := opa.step k7 (fun q hq e => hd q hq e)
          have omm := h7
          have hcm' := hca.step k7 (fun q hq => by have := (how _ hq).1; omega)
          have kkm := kka.step k7 (fun q hq hl => by have := (how _ hq).1; omega)
          have hdm : ∀ q, own (.slice pa6 pn6 pc6) q → ¬ own (.slice ma7 mn7 mc7) q := fun q hq e => by
            rcases f7 q e with h | h
            · exact hd q hq h
            · have := (opa.lt q hq).2; omega
          have hzm := k7.size
          obtain ⟨c0, c1, c2, c3, c4, fr⟩ := id bxm
          obtain ⟨e0, e1, e2, e3, e4, ef⟩ := id (bxm.set3 (.slice ma7 mn7 mc7))
          obtain ⟨s0, s1, s2, s3, s4, sf⟩ := id (bRm.far ⟨X, 3, none⟩ (.slice ma7 mn7 mc7) (by simp; omega))
          have sf0 := sf 0
          have sf1 := sf 1
          have sf2 := sf 2
          have sf3 := sf 3
          have sf4 := sf 4
          clear sf
          go_wp2_with fail
          obtain ⟨z0, z1, z2, z3, z4, _⟩ := (bRm.far ⟨X, 3, none⟩ (.slice ma7 mn7 mc7) (by simp; omega)).put5 (.int .i64 c.pol) (.int .i64 c.size) (.slice pa6 pn6 pc6) (.slice ma7 mn7 mc7) (.int .i64 c.hand)
          refine bodyPost_ret (v := .agg #[.int .i64 c.pol, .int .i64 c.size, .slice pa6 pn6 pc6, .slice ma7 mn7 mc7, .int .i64 c.hand]) (by simp [results, Tryz.results95, go_sem, z0, z1, z2, z3, z4]) rfl ?_
          have kS := ((Chg.refl (fun q => q = X ∨ q = w.heap.size) wm).setCell (p := ⟨X, 3, none⟩) (fun _ => .inl rfl) (.slice ma7 mn7 mc7)).put5 (b := w.heap.size) (fun _ => .inr rfl) (.int .i64 c.pol) (.int .i64 c.size) (.slice pa6 pn6 pc6) (.slice ma7 mn7 mc7) (.int .i64 c.hand)
          exact ⟨_, ⟨c.pol, c.size, c.pages, c.marks ++ [1], c.hand⟩, rfl, ⟨_, _, rfl, (opm.step kS (fun q hq e => by have := (opm.lt q hq).1; omega)).weak (by omega), (omm.step kS (fun q hq e => by have := (omm.lt q hq).1; omega)).weak (by omega), hdm⟩, (hcm'.step kS (fun q hq => by omega)).more (by omega), kkm.step kS (fun q hq hl => by omega)⟩
        · obtain ⟨z0, z1, z2, z3, z4, _⟩ := (bRb.far ⟨X, 0, none⟩ (.int .i64 y) (by simp; omega)).put5 (.int .i64 y) (.int .i64 c.size) (.slice pa6 pn6 pc6) (.slice ma6 mn6 mc6) (.int .i64 c.hand)
          refine bodyPost_ret (v := .agg #[.int .i64 y, .int .i64 c.size, .slice pa6 pn6 pc6, .slice ma6 mn6 mc6, .int .i64 c.hand]) (by simp [results, Tryz.results95, go_sem, z0, z1, z2, z3, z4]) rfl ?_
          have kS := ((Chg.refl (fun q => q = X ∨ q = w.heap.size) wb).setCell (p := ⟨X, 0, none⟩) (fun _ => .inl rfl) (.int .i64 y)).put5 (b := w.heap.size) (fun _ => .inr rfl) (.int .i64 y) (.int .i64 c.size) (.slice pa6 pn6 pc6) (.slice ma6 mn6 mc6) (.int .i64 c.hand)
          exact ⟨_, ⟨y, c.size, c.pages, c.marks, c.hand⟩, rfl, ⟨_, _, rfl, (opb.step kS (fun q hq e => by have := (opb.lt q hq).1; omega)).weak (by omega), (omb.step kS (fun q hq e => by have := (omb.lt q hq).1; omega)).weak (by omega), hd⟩, (hcb.step kS (fun q hq => by omega)).more (by omega), kkb.step kS (fun q hq hl => by omega)⟩
        · obtain ⟨z0, z1, z2, z3, z4, _⟩ := (bRb.far ⟨X, 1, none⟩ (.int .i64 y) (by simp; omega)).put5 (.int .i64 c.pol) (.int .i64 y) (.slice pa6 pn6 pc6) (.slice ma6 mn6 mc6) (.int .i64 c.hand)
          refine bodyPost_ret (v := .agg #[.int .i64 c.pol, .int .i64 y, .slice pa6 pn6 pc6, .slice ma6 mn6 mc6, .int .i64 c.hand]) (by simp [results, Tryz.results95, go_sem, z0, z1, z2, z3, z4]) rfl ?_
          have kS := ((Chg.refl (fun q => q = X ∨ q = w.heap.size) wb).setCell (p := ⟨X, 1, none⟩) (fun _ => .inl rfl) (.int .i64 y)).put5 (b := w.heap.size) (fun _ => .inr rfl) (.int .i64 c.pol) (.int .i64 y) (.slice pa6 pn6 pc6) (.slice ma6 mn6 mc6) (.int .i64 c.hand)
          exact ⟨_, ⟨c.pol, y, c.pages, c.marks, c.hand⟩, rfl, ⟨_, _, rfl, (opb.step kS (fun q hq e => by have := (opb.lt q hq).1; omega)).weak (by omega), (omb.step kS (fun q hq e => by have := (omb.lt q hq).1; omega)).weak (by omega), hd⟩, (hcb.step kS (fun q hq => by omega)).more (by omega), kkb.step kS (fun q hq hl => by omega)⟩
        · obtain ⟨z0, z1, z2, z3, z4, _⟩ := bRa.put5 (.int .i64 c.pol) (.int .i64 c.size) (.slice pa6 pn6 pc6) (.slice ma6 mn6 mc6) (.int .i64 c.hand)
          refine bodyPost_ret (v := .agg #[.int .i64 c.pol, .int .i64 c.size, .slice pa6 pn6 pc6, .slice ma6 mn6 mc6, .int .i64 c.hand]) (by simp [results, Tryz.results95, go_sem, z0, z1, z2, z3, z4]) rfl ?_
          have kS := (Chg.refl (fun q => q = X ∨ q = w.heap.size) wa).put5 (b := w.heap.size) (fun _ => .inr rfl) (.int .i64 c.pol) (.int .i64 c.size) (.slice pa6 pn6 pc6) (.slice ma6 mn6 mc6) (.int .i64 c.hand)
          exact ⟨_, ⟨c.pol, c.size, c.pages, c.marks, c.hand⟩, rfl, ⟨_, _, rfl, (opa.step kS (fun q hq e => by have := (opa.lt q hq).1; omega)).weak (by omega), (oma.step kS (fun q hq e => by have := (oma.lt q hq).1; omega)).weak (by omega), hd⟩, (hca.step kS (fun q hq => by omega)).more (by omega), kka.step kS (fun q hq hl => by omega)⟩
      · have hmlen : c.marks.length < 17592186044416 := by omega
        obtain ⟨K8, hK8⟩ : ∃ K8, K' + 2 = K8 := ⟨_, rfl⟩
        rw [hK8] at hc8
        go_wp2_with (first
          | (at_builtin; refine wapp1 rfl (.tmp 74) (.tmp 75) rfl oma rfl rfl hmlen hZa ?_)
          | (go_at_call 92; refine (among_lit b B (K8 + 2) wa [1, -1, 6, c.size] _ _ _ _ _ rfl rfl rfl rfl hca (by omega) (by simp) (by simp)).mono ?_; rintro e wb ⟨y, rfl, _, hcb, hkb⟩; have bxb := bxa.step hkb (by omega); have bRb := bRa.step hkb (by omega); have opb := opa.step hkb (fun q hq e => by have := (opa.lt q hq).1; omega); have omb := oma.step hkb (fun q hq e => by have := (oma.lt q hq).1; omega); have kkb := kka.trans hkb; have hzb := hkb.size; clear c0 c1 c2 c3 c4 fr s0 s1 s2 s3 s4 sf; obtain ⟨c0, c1, c2, c3, c4, fr⟩ := id bxb; obtain ⟨e0, e1, e2, e3, e4, ef⟩ := id (bxb.set4 (.int .i64 y)); obtain ⟨s0, s1, s2, s3, s4, sf⟩ := id (bRb.far ⟨X, 4, none⟩ (.int .i64 y) (by simp; omega)); have sf0 := sf 0; have sf1 := sf 1; have sf2 := sf 2; have sf3 := sf 3; have sf4 := sf 4; clear sf)
          | (go_at_call 100; refine (policy_any b B (K8 + 2) wa hca (by omega)).mono ?_; rintro e wb ⟨y, rfl, _, _, hcb, hkb⟩; have bxb := bxa.step hkb (by omega); have bRb := bRa.step hkb (by omega); have opb := opa.step hkb (fun q hq e => by have := (opa.lt q hq).1; omega); have omb := oma.step hkb (fun q hq e => by have := (oma.lt q hq).1; omega); have kkb := kka.trans hkb; have hzb := hkb.size; clear c0 c1 c2 c3 c4 fr s0 s1 s2 s3 s4 sf; obtain ⟨c0, c1, c2, c3, c4, fr⟩ := id bxb; obtain ⟨e0, e1, e2, e3, e4, ef⟩ := id (bxb.set0 (.int .i64 y)); obtain ⟨s0, s1, s2, s3, s4, sf⟩ := id (bRb.far ⟨X, 0, none⟩ (.int .i64 y) (by simp; omega)); have sf0 := sf 0; have sf1 := sf 1; have sf2 := sf 2; have sf3 := sf 3; have sf4 := sf 4; clear sf)
          | (go_at_call 101; refine (size4_any b B (K8 + 2) wa hca (by omega)).mono ?_; rintro e wb ⟨y, rfl, _, _, hcb, hkb⟩; have bxb := bxa.step hkb (by omega); have bRb := bRa.step hkb (by omega); have opb := opa.step hkb (fun q hq e => by have := (opa.lt q hq).1; omega); have omb := oma.step hkb (fun q hq e => by have := (oma.lt q hq).1; omega); have kkb := kka.trans hkb; have hzb := hkb.size; clear c0 c1 c2 c3 c4 fr s0 s1 s2 s3 s4 sf; obtain ⟨c0, c1, c2, c3, c4, fr⟩ := id bxb; obtain ⟨e0, e1, e2, e3, e4, ef⟩ := id (bxb.set1 (.int .i64 y)); obtain ⟨s0, s1, s2, s3, s4, sf⟩ := id (bRb.far ⟨X, 1, none⟩ (.int .i64 y) (by simp; omega)); have sf0 := sf 0; have sf1 := sf 1; have sf2 := sf 2; have sf3 := sf 3; have sf4 := sf 4; clear sf)
          | (go_at_call 52; refine (pick_any b B K8 40 w8 hc8 (by omega) (by omega)).mono ?_; rintro e wa ⟨z', rfl, _, _, _, hca, hka⟩; have bxa := bx8.step hka (by omega); have bRa := bR8.step hka (by omega); have opa := op8.step hka (fun q hq e => by have := (op8.lt q hq).1; omega); have oma := om8.step hka (fun q hq e => by have := (om8.lt q hq).1; omega); have kka := kk8.trans hka; have hza := hka.size; have hZa : Z ≤ wa.heap.size := (by omega); obtain ⟨c0, c1, c2, c3, c4, fr⟩ := id bxa; obtain ⟨s0, s1, s2, s3, s4, sf⟩ := id bRa))
        · obtain ⟨z0, z1, z2, z3, z4, _⟩ := (bRb.far ⟨X, 4, none⟩ (.int .i64 y) (by simp; omega)).put5 (.int .i64 c.pol) (.int .i64 c.size) (.slice pa6 pn6 pc6) (.slice ma6 mn6 mc6) (.int .i64 y)
          refine bodyPost_ret (v := .agg #[.int .i64 c.pol, .int .i64 c.size, .slice pa6 pn6 pc6, .slice ma6 mn6 mc6, .int .i64 y]) (by simp [results, Tryz.results95, go_sem, z0, z1, z2, z3, z4]) rfl ?_
          have kS := ((Chg.refl (fun q => q = X ∨ q = w.heap.size) wb).setCell (p := ⟨X, 4, none⟩) (fun _ => .inl rfl) (.int .i64 y)).put5 (b := w.heap.size) (fun _ => .inr rfl) (.int .i64 c.pol) (.int .i64 c.size) (.slice pa6 pn6 pc6) (.slice ma6 mn6 mc6) (.int .i64 y)
          exact ⟨_, ⟨c.pol, c.size, c.pages, c.marks, y⟩, rfl, ⟨_, _, rfl, (opb.step kS (fun q hq e => by have := (opb.lt q hq).1; omega)).weak (by omega), (omb.step kS (fun q hq e => by have := (omb.lt q hq).1; omega)).weak (by omega), hd⟩, (hcb.step kS (fun q hq => by omega)).more (by omega), kkb.step kS (fun q hq hl => by omega)⟩
        · refine wp_region_K (S := (fun W : World => Box W X (.int .i64 c.pol) (.int .i64 c.size) (.slice pa6 pn6 pc6) (.slice ma6 mn6 mc6) (.int .i64 c.hand))) (k := 8) (by kernel_rfl) ?_
          clear c0 c1 c2 c3 c4 fr s0 s1 s2 s3 s4 sf
          have kd := (Chg.refl No wa).drew
          have hca := hca.keep kd
          have bxa := bxa.keep kd
          have bRa := bRa.keep kd
          have opa := opa.keep kd
          have oma := oma.keep kd
          have kka := kka.keep kd
          have hZa := Nat.le_trans hZa kd.size
          generalize wa.drew = W1 at hca bxa bRa opa oma kka hZa ⊢
          have hS : (fun W : World => Box W X (.int .i64 c.pol) (.int .i64 c.size) (.slice pa6 pn6 pc6) (.slice ma6 mn6 mc6) (.int .i64 c.hand)) W1 := bxa
          refine wpAnyK_take0 0 (.pointer (some ⟨X, 2, none⟩)) rfl (by kernel_rfl) (fun _ _ _ h => h) hS rfl (by intro w; go_simp) ?_
          simp only [zA, zC, zD, zE, zF, zG]
          refine wpAnyK_take 1 (.slice pa6 pn6 pc6) rfl (by kernel_rfl) (fun _ _ _ h => h) hS rfl (by rintro w ⟨c0, c1, c2, c3, c4, fr⟩; go_simp) ?_
          simp only [zA, zB, zC, zD, zE, zF, zG]
          refine wpAnyK_take0 2 (.pointer (some ⟨b, 0, none⟩)) rfl (by kernel_rfl) (fun _ _ _ h => h) hS rfl (by intro w; go_simp) ?_
          simp only [zA, zB, zC, zD, zE, zF, zG]
          refine wpAnyK_take0 3 (.int .i64 n) rfl (by kernel_rfl) (fun _ _ _ h => h) hS rfl (by intro w; go_simp) ?_
          simp only [zA, zB, zC, zD, zE, zF, zG]
          refine wpAnyK_1 4 (by kernel_rfl) (wpOpK' rfl rfl ?_)
          intro K0 hK0
          unfold Oper.wp execOp
          go_simp
          refine hK0.out _ _ (bxa.keep ((Chg.refl No W1).alloc _)) ?_
          clear hK0 K0
          simp only [List.setIfInBounds_toArray]
          refine wpAnyK_1 5 (by kernel_rfl) (wpOpK' rfl rfl ?_)
          intro K0 hK0
          refine ocallE (f := 92) (args := #[.pointer (some ⟨b, 0, none⟩), .slice (some ⟨W1.heap.size, 0, none⟩) 4 4]) (φ := fun v W' => ∃ y : Int, v = .int .i64 y ∧ Cur W' b B (K8 + 2 + 2) ∧ Chg (fun q => q = b) W1 W') (by go_simp) ((among_lit b B (K8 + 2) W1 [0, 1, n, -1] _ _ _ _ _ rfl rfl rfl rfl hca (by omega) (by simp) (by simp)).mono (fun e W' ⟨x, h1, _, h5, h6⟩ => ⟨_, h1, x, rfl, h5, h6⟩)) (fun v2 W2 h2 => ?_)
          obtain ⟨y, rfl, hc2, k2⟩ := h2
          have bxy := bxa.step k2 (by omega); have bRy := bRa.step k2 (by omega); have opy := opa.step k2 (fun q hq e => by have := (opa.lt q hq).1; omega); have omy := oma.step k2 (fun q hq e => by have := (oma.lt q hq).1; omega); have kky := kka.trans k2; have hzy := k2.size
          refine hK0.out _ _ bxy ?_
          clear hK0 K0 hS
          simp only [zA, zB, zC, zD, zE, zF, zG]
          refine wpAnyK_1 6 (by kernel_rfl) (wpOpK' rfl rfl ?_)
          intro K0 hK0
          refine obuild (.tmp 67) y rfl rfl (fun g3 W3 k3 hg3 lg3 => hK0.out _ _ (bxy.keep k3) ?_)
          clear hK0 K0
          simp only [zA, zB, zC, zD, zE, zF, zG]
          have hz3 := k3.size
          refine wpAnyK_1 7 (by kernel_rfl) (wpOpK' rfl rfl ?_)
          intro K0 hK0
          have hop3 := (opy.keep k3).lt
          refine oapp (.tmp 63) (.tmp 68) rfl (opy.keep k3) (RI.one hg3 (Nat.le_refl 1) (by decide) (fun e => e)) rfl rfl (by have := hok.len; have := hok.size; simp; omega) (by omega) (fun v6 wm h6 k6 f6 => hK0.out _ _ ((bxy.keep k3).step k6 (fun e => by have := (hop3 _ e).1; omega)) ?_)
          clear hK0 K0
          simp only [zA, zB, zC, zD, zE, zF, zG]
          obtain ⟨pa7, pn7, pc7, rfl⟩ := h6.shape
          have bxm := (bxy.keep k3).step k6 (fun e => by have := (hop3 _ e).1; omega)
          have bRm := (bRy.keep k3).step k6 (fun e => by have := (hop3 _ e).1; omega)
          have opm := h6
          have omm := (omy.keep k3).step k6 (fun q hq e => hd q e hq)
          have hcm' := (hc2.keep k3).step k6 (fun q hq => by have := (hop3 _ hq).1; omega)
          have kkm := (kky.keep k3).step k6 (fun q hq hl => by have := (hop3 _ hq).1; omega)
          have hdm : ∀ q, own (.slice pa7 pn7 pc7) q → ¬ own (.slice ma6 mn6 mc6) q := fun q hq e => by
            rcases f6 q hq with h | h
            · exact hd q h e
            · have := ((omy.keep k3).lt q e).2; omega
          have hzm := k6.size
          obtain ⟨c0, c1, c2, c3, c4, fr⟩ := id bxm
          obtain ⟨e0, e1, e2, e3, e4, ef⟩ := id (bxm.set2 (.slice pa7 pn7 pc7))
          obtain ⟨s0, s1, s2, s3, s4, sf⟩ := id (bRm.far ⟨X, 2, none⟩ (.slice pa7 pn7 pc7) (by simp; omega))
          have sf0 := sf 0
          have sf1 := sf 1
          have sf2 := sf 2
          have sf3 := sf 3
          have sf4 := sf 4
          clear sf
          refine wpAnyK_tail 8 rfl (by kernel_rfl) ?_
          simp only [List.drop_succ_cons, List.drop_zero]
          go_wp2_with fail
          obtain ⟨z0, z1, z2, z3, z4, _⟩ := (bRm.far ⟨X, 2, none⟩ (.slice pa7 pn7 pc7) (by simp; omega)).put5 (.int .i64 c.pol) (.int .i64 c.size) (.slice pa7 pn7 pc7) (.slice ma6 mn6 mc6) (.int .i64 c.hand)
          refine bodyPost_ret (v := .agg #[.int .i64 c.pol, .int .i64 c.size, .slice pa7 pn7 pc7, .slice ma6 mn6 mc6, .int .i64 c.hand]) (by simp [results, Tryz.results95, go_sem, z0, z1, z2, z3, z4]) rfl ?_
          have kS := ((Chg.refl (fun q => q = X ∨ q = w.heap.size) wm).setCell (p := ⟨X, 2, none⟩) (fun _ => .inl rfl) (.slice pa7 pn7 pc7)).put5 (b := w.heap.size) (fun _ => .inr rfl) (.int .i64 c.pol) (.int .i64 c.size) (.slice pa7 pn7 pc7) (.slice ma6 mn6 mc6) (.int .i64 c.hand)
          exact ⟨_, ⟨c.pol, c.size, c.pages ++ [y], c.marks, c.hand⟩, rfl, ⟨_, _, rfl, (opm.step kS (fun q hq e => by have := (opm.lt q hq).1; omega)).weak (by omega), (omm.step kS (fun q hq e => by have := (omm.lt q hq).1; omega)).weak (by omega), hdm⟩, (hcm'.step kS (fun q hq => by omega)).more (by omega), kkm.step kS (fun q hq hl => by omega)⟩
        · intro v7 wm h7 k7 f7
          clear c0 c1 c2 c3 c4 fr s0 s1 s2 s3 s4 sf
          obtain ⟨ma7, mn7, mc7, rfl⟩ := h7.shape
          have how := oma.lt
          have bxm := bxa.step k7 (fun e => by have := (how _ e).1; omega)
          have bRm := bRa.step k7 (fun e => by have := (how _ e).1; omega)
          have opm := opa.step k7 (fun q hq e => hd q hq e)
          have omm := h7
          have hcm' := hca.step k7 (fun q hq => by have := (how _ hq).1; omega)
          have kkm := kka.step k7 (fun q hq hl => by have := (how _ hq).1; omega)
          have hdm : ∀ q, own (.slice pa6 pn6 pc6) q → ¬ own (.slice ma7 mn7 mc7) q := fun q hq e => by
            rcases f7 q e with h | h
            · exact hd q hq h
            · have := (opa.lt q hq).2; omega
          have hzm := k7.size
          obtain ⟨c0, c1, c2, c3, c4, fr⟩ := id bxm
          obtain ⟨e0, e1, e2, e3, e4, ef⟩ := id (bxm.set3 (.slice ma7 mn7 mc7))
          obtain ⟨s0, s1, s2, s3, s4, sf⟩ := id (bRm.far ⟨X, 3, none⟩ (.slice ma7 mn7 mc7) (by simp; omega))
          have sf0 := sf 0
          have sf1 := sf 1
          have sf2 := sf 2
          have sf3 := sf 3
          have sf4 := sf 4
          clear sf
          go_wp2_with fail
          obtain ⟨z0, z1, z2, z3, z4, _⟩ := (bRm.far ⟨X, 3, none⟩ (.slice ma7 mn7 mc7) (by simp; omega)).put5 (.int .i64 c.pol) (.int .i64 c.size) (.slice pa6 pn6 pc6) (.slice ma7 mn7 mc7) (.int .i64 c.hand)
          refine bodyPost_ret (v := .agg #[.int .i64 c.pol, .int .i64 c.size, .slice pa6 pn6 pc6, .slice ma7 mn7 mc7, .int .i64 c.hand]) (by simp [results, Tryz.results95, go_sem, z0, z1, z2, z3, z4]) rfl ?_
          have kS := ((Chg.refl (fun q => q = X ∨ q = w.heap.size) wm).setCell (p := ⟨X, 3, none⟩) (fun _ => .inl rfl) (.slice ma7 mn7 mc7)).put5 (b := w.heap.size) (fun _ => .inr rfl) (.int .i64 c.pol) (.int .i64 c.size) (.slice pa6 pn6 pc6) (.slice ma7 mn7 mc7) (.int .i64 c.hand)
          exact ⟨_, ⟨c.pol, c.size, c.pages, c.marks ++ [1], c.hand⟩, rfl, ⟨_, _, rfl, (opm.step kS (fun q hq e => by have := (opm.lt q hq).1; omega)).weak (by omega), (omm.step kS (fun q hq e => by have := (omm.lt q hq).1; omega)).weak (by omega), hdm⟩, (hcm'.step kS (fun q hq => by omega)).more (by omega), kkm.step kS (fun q hq hl => by omega)⟩
        · obtain ⟨z0, z1, z2, z3, z4, _⟩ := (bRb.far ⟨X, 0, none⟩ (.int .i64 y) (by simp; omega)).put5 (.int .i64 y) (.int .i64 c.size) (.slice pa6 pn6 pc6) (.slice ma6 mn6 mc6) (.int .i64 c.hand)
          refine bodyPost_ret (v := .agg #[.int .i64 y, .int .i64 c.size, .slice pa6 pn6 pc6, .slice ma6 mn6 mc6, .int .i64 c.hand]) (by simp [results, Tryz.results95, go_sem, z0, z1, z2, z3, z4]) rfl ?_
          have kS := ((Chg.refl (fun q => q = X ∨ q = w.heap.size) wb).setCell (p := ⟨X, 0, none⟩) (fun _ => .inl rfl) (.int .i64 y)).put5 (b := w.heap.size) (fun _ => .inr rfl) (.int .i64 y) (.int .i64 c.size) (.slice pa6 pn6 pc6) (.slice ma6 mn6 mc6) (.int .i64 c.hand)
          exact ⟨_, ⟨y, c.size, c.pages, c.marks, c.hand⟩, rfl, ⟨_, _, rfl, (opb.step kS (fun q hq e => by have := (opb.lt q hq).1; omega)).weak (by omega), (omb.step kS (fun q hq e => by have := (omb.lt q hq).1; omega)).weak (by omega), hd⟩, (hcb.step kS (fun q hq => by omega)).more (by omega), kkb.step kS (fun q hq hl => by omega)⟩
        · obtain ⟨z0, z1, z2, z3, z4, _⟩ := (bRb.far ⟨X, 1, none⟩ (.int .i64 y) (by simp; omega)).put5 (.int .i64 c.pol) (.int .i64 y) (.slice pa6 pn6 pc6) (.slice ma6 mn6 mc6) (.int .i64 c.hand)
          refine bodyPost_ret (v := .agg #[.int .i64 c.pol, .int .i64 y, .slice pa6 pn6 pc6, .slice ma6 mn6 mc6, .int .i64 c.hand]) (by simp [results, Tryz.results95, go_sem, z0, z1, z2, z3, z4]) rfl ?_
          have kS := ((Chg.refl (fun q => q = X ∨ q = w.heap.size) wb).setCell (p := ⟨X, 1, none⟩) (fun _ => .inl rfl) (.int .i64 y)).put5 (b := w.heap.size) (fun _ => .inr rfl) (.int .i64 c.pol) (.int .i64 y) (.slice pa6 pn6 pc6) (.slice ma6 mn6 mc6) (.int .i64 c.hand)
          exact ⟨_, ⟨c.pol, y, c.pages, c.marks, c.hand⟩, rfl, ⟨_, _, rfl, (opb.step kS (fun q hq e => by have := (opb.lt q hq).1; omega)).weak (by omega), (omb.step kS (fun q hq e => by have := (omb.lt q hq).1; omega)).weak (by omega), hd⟩, (hcb.step kS (fun q hq => by omega)).more (by omega), kkb.step kS (fun q hq hl => by omega)⟩
        · obtain ⟨z0, z1, z2, z3, z4, _⟩ := bRa.put5 (.int .i64 c.pol) (.int .i64 c.size) (.slice pa6 pn6 pc6) (.slice ma6 mn6 mc6) (.int .i64 c.hand)
          refine bodyPost_ret (v := .agg #[.int .i64 c.pol, .int .i64 c.size, .slice pa6 pn6 pc6, .slice ma6 mn6 mc6, .int .i64 c.hand]) (by simp [results, Tryz.results95, go_sem, z0, z1, z2, z3, z4]) rfl ?_
          have kS := (Chg.refl (fun q => q = X ∨ q = w.heap.size) wa).put5 (b := w.heap.size) (fun _ => .inr rfl) (.int .i64 c.pol) (.int .i64 c.size) (.slice pa6 pn6 pc6) (.slice ma6 mn6 mc6) (.int .i64 c.hand)
          exact ⟨_, ⟨c.pol, c.size, c.pages, c.marks, c.hand⟩, rfl, ⟨_, _, rfl, (opa.step kS (fun q hq e => by have := (opa.lt q hq).1; omega)).weak (by omega), (oma.step kS (fun q hq e => by have := (oma.lt q hq).1; omega)).weak (by omega), hd⟩, (hca.step kS (fun q hq => by omega)).more (by omega), kka.step kS (fun q hq hl => by omega)⟩
end Go.Proofs.YtdgcohoneijleaaGreatDoor
