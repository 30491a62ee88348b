import Derived.Test.YtndhijckbponkaaGreatXd
import Derived.Test.YtndhijckbponkaaGreatPkX12
/- the greedy algorithm -/
namespace Go.Proofs.YtndhijckbponkaaGreat
open Go.RowKit

theorem svd_has {ok : Nat → Bool} : ∀ m, (∃ s, s < m ∧ ok s = true) → 1 ≤ (svd ok m).length
  | 0, h => by obtain ⟨s, hs, _⟩ := h; omega
  | m + 1, h => by
    unfold svd
    cases ho : ok m
    · simp only [Bool.false_eq_true, if_false]
      obtain ⟨s, hs, hk⟩ := h
      refine svd_has m ⟨s, ?_, hk⟩
      by_cases e : s = m
      · subst e; rw [ho] at hk; cases hk
      · omega
    · simp
set_option maxRecDepth 100000 in
set_option maxHeartbeats 2000000 in
theorem greedy_any (A : Nat → Prop) (v : Value) (p : Pr) (x r : Nat) (w : World) (hp : PrP p) (h : RPr A w v p) (hx : x < p.mv.length) (hr : r < p.sv.length) :
    Calls Tryz.prog 54 #[v, .int .i64 (x : Int), .int .i64 (r : Int)] w (Ret fun e w' => ∃ t : Nat, e = .int .i64 (t : Int) ∧ t < p.mv.length ∧ okA p r t = true ∧ Chg No w w') := by
  have hv := h
  obtain ⟨mv, sv, rfl, hm, hs⟩ := h
  obtain ⟨ma, mc, rfl⟩ := hm.shape
  obtain ⟨sa, sc, rfl⟩ := hs.shape
  have HP := Lib.hid hp
  have hpl : p.mv.length ≤ 4 := hp.1.2
  go_enter Tryz.func54, Tryz.ntmps54
  go_wp2_with fail
  refine bx1 (R := fun W => Calls _ _ _ W _) (fun W0 k0 b0 => ?_)
  refine (served_any A _ p r W0 (hv.keep k0) hp.bnd hr).mono ?_
  rintro e w2 ⟨_, rfl, hsv, k2⟩
  have kk2 := k0.keep k2
  have bb2 := b0.keep k2
  have hsv' := hsv.readNo
  obtain ⟨va, vc, rfl, _⟩ := id hsv'
  obtain ⟨L, hL⟩ : ∃ L, svd (okA p r) p.mv.length = L := ⟨_, rfl⟩
  rw [hL] at hsv' ⊢
  have HL := Lib.hid hL
  have hL4 : L.length ≤ 4 := by rw [← hL]; have := svd_len (okA p r) p.mv.length; omega
  have HL1 : Hid (1 ≤ L.length) := Lib.hid (by rw [← hL]; exact svd_has _ (by
    obtain ⟨s, h1, h2⟩ := hp.prB.2 r hr
    exact ⟨s, h1, h2⟩))
  obtain ⟨R0, hR0⟩ : ∃ R, w.heap.size = R := ⟨_, rfl⟩
  rw [hR0] at bb2 ⊢
  clear hsv k2 hL b0 k0 hR0 hp
  go_wp2_with fail
  go_loopw [7, 9, 14] (fun b _ z wr => ∃ (k : Nat) (bi : Int), k ≤ L.length ∧ z = .int .i64 (k : Int) ∧ b = .int .i64 bi ∧ Hid ((k = 0 ∧ bi = -1) ∨ ∃ t : Nat, bi = (t : Int) ∧ t < p.mv.length ∧ okA p r t = true) ∧ Chg No w wr ∧ RI No wr (.slice va L.length vc) L ∧ BoxN wr R0 [.slice ma p.mv.length mc, .slice sa p.sv.length sc]) (fun _ _ z _ => L.length - (intOf z).toNat)
  case atStart => exact ⟨0, -1, Nat.zero_le _, rfl, rfl, Lib.hid (.inl ⟨rfl, rfl⟩), kk2, hsv', bb2⟩
  case round =>
    clear kk2 hsv' bb2
    obtain ⟨k, bi, hk, rfl, rfl, HB, kr, hsv, bb⟩ := hrel
    have hk0 : (0 : Int) ≤ (k : Int) := Int.natCast_nonneg _
    by_cases hlt : k < L.length
    · have hk1 : (k : Int) < (L.length : Int) := by omega
      have hwk : IntKind.i64.wrap ((k : Int) + 1) = (k : Int) + 1 := IntWalk.i64_in _ (by omega)
      obtain ⟨vb, vf, rfl, hvb, hcv⟩ := hsv.cellN hlt
      have hmem : L.getD k 0 ∈ svd (okA p r) p.mv.length := by rw [HL.out, List.getD_eq_getElem?_getD, List.getElem?_eq_getElem hlt]; exact List.getElem_mem _
      obtain ⟨s, hs', hsm, hok⟩ := svd_mem hmem
      rw [hs'] at hcv
      have HSJ := Lib.hid hok
      have HCELL : Hid (∀ W, Chg No wr W → W.cell? ⟨R0, 0, none⟩ = some (.slice ma p.mv.length mc) ∧ W.cell? ⟨R0, 1, none⟩ = some (.slice sa p.sv.length sc)) := Lib.hid (fun W hW => ⟨(bb.keep hW).c 0 _ rfl, (bb.keep hW).c 1 _ rfl⟩)
      clear hmem hs' hok
      rcases HB.out with ⟨hz, rfl⟩ | ⟨t, rfl, htm, hto⟩
      · clear HB hz
        go_wp2_with fail
        refine wp_region_X (fun W => Chg No wr W) (by kernel_rfl) (by kernel_rfl) ((Chg.refl No wr).drew) ?_
        refine wpX_val (.int .i64 (-1)) rfl (by intro W hW; obtain ⟨c0, c1⟩ := HCELL.out W hW; go_simp) ?_
        simp only [Act.put, List.setIfInBounds_toArray, List.set_cons_zero, List.set_cons_succ]
        refine wpX_val (.bool true) rfl (by intro W hW; obtain ⟨c0, c1⟩ := HCELL.out W hW; go_simp) ?_
        simp only [Act.put, List.setIfInBounds_toArray, List.set_cons_zero, List.set_cons_succ]
        refine wpX_val (.bool true) rfl (by intro W hW; obtain ⟨c0, c1⟩ := HCELL.out W hW; go_simp) ?_
        simp only [Act.put, List.setIfInBounds_toArray, List.set_cons_zero, List.set_cons_succ]
        repeat (refine wpX_skip rfl ?_; simp only [Act.put, List.setIfInBounds_toArray, List.set_cons_zero, List.set_cons_succ])
        refine wpX_val (.bool true) rfl (by intro W hW; obtain ⟨c0, c1⟩ := HCELL.out W hW; go_simp) ?_
        simp only [Act.put, List.setIfInBounds_toArray, List.set_cons_zero, List.set_cons_succ]
        refine wpX_nil ?_
        intro W hW
        have kr2 := kr.keep hW
        have hsv2 := hsv.keep hW
        have bb2 := bb.keep hW
        clear HCELL kr hsv bb hcv
        go_wp2_with fail
        go_round
        case rel => exact ⟨k + 1, (s : Int), hlt, by go_num, rfl, Lib.hid (.inr ⟨s, rfl, hsm, HSJ.out⟩), kr2, hsv2, bb2⟩
        case measure => simp [intOf]; omega
      · have HT := Lib.hid hto
        have ht0 : ¬ (t : Int) < 0 := by omega
        have ht0' : (0 : Int) ≤ (t : Int) := Int.natCast_nonneg _
        obtain ⟨c1, hc1⟩ : ∃ c, mvA p x s + svA p r s = c := ⟨_, rfl⟩
        obtain ⟨c2, hc2⟩ : ∃ c, mvA p x t + svA p r t = c := ⟨_, rfl⟩
        have HC : Hid (∀ W, Chg No wr W → ∀ (y : Nat), y < p.mv.length → Calls Tryz.prog 104 #[.agg #[.slice ma p.mv.length mc, .slice sa p.sv.length sc], .int .i64 (x : Int), .int .i64 (y : Int), .int .i64 (r : Int)] W (Ret fun t w' => t = .int .i64 (mvA p x y + svA p r y) ∧ Chg No W w')) := Lib.hid (fun W hW y hy => cost_any A _ p x y r W (hv.keep (kr.keep hW)) HP.out.bnd hx hy hr)
        have HC1 := Lib.hid hc1
        have HC2 := Lib.hid hc2
        clear HB hto hc1 hc2
        go_wp2_with fail
        refine wp_region_X (fun W => Chg No wr W) (by kernel_rfl) (by kernel_rfl) ((Chg.refl No wr).drew) ?_
        refine wpX_val (.int .i64 (t : Int)) rfl (by intro W hW; obtain ⟨c0, c1⟩ := HCELL.out W hW; go_simp) ?_
        simp only [Act.put, List.setIfInBounds_toArray, List.set_cons_zero, List.set_cons_succ]
        refine wpX_val (.bool false) rfl (by intro W hW; obtain ⟨c0, c1⟩ := HCELL.out W hW; go_simp) ?_
        simp only [Act.put, List.setIfInBounds_toArray, List.set_cons_zero, List.set_cons_succ]
        refine wpX_val (.bool false) rfl (by intro W hW; obtain ⟨c0, c1⟩ := HCELL.out W hW; go_simp) ?_
        simp only [Act.put, List.setIfInBounds_toArray, List.set_cons_zero, List.set_cons_succ]
        refine wpX_val (.agg #[.slice ma p.mv.length mc, .slice sa p.sv.length sc]) rfl (by intro W hW; obtain ⟨c0, c1⟩ := HCELL.out W hW; go_simp) ?_
        simp only [Act.put, List.setIfInBounds_toArray, List.set_cons_zero, List.set_cons_succ]
        refine wpX_val (.int .i64 (x : Int)) rfl (by intro W hW; obtain ⟨c0, c1⟩ := HCELL.out W hW; go_simp) ?_
        simp only [Act.put, List.setIfInBounds_toArray, List.set_cons_zero, List.set_cons_succ]
        refine wpX_val (.int .i64 (s : Int)) rfl (by intro W hW; obtain ⟨c0, c1⟩ := HCELL.out W hW; go_simp) ?_
        simp only [Act.put, List.setIfInBounds_toArray, List.set_cons_zero, List.set_cons_succ]
        refine wpX_val (.int .i64 (r : Int)) rfl (by intro W hW; obtain ⟨c0, c1⟩ := HCELL.out W hW; go_simp) ?_
        simp only [Act.put, List.setIfInBounds_toArray, List.set_cons_zero, List.set_cons_succ]
        refine wpX_call (.int .i64 c1) (f := 104) (args := #[.agg #[.slice ma p.mv.length mc, .slice sa p.sv.length sc], .int .i64 (x : Int), .int .i64 (s : Int), .int .i64 (r : Int)]) rfl (by intro W hW; go_simp) (fun W hW => (HC.out W hW s hsm).mono (by rintro e w' ⟨_, rfl, rfl, k⟩; exact ⟨by rw [HC1.out], hW.trans k⟩)) ?_
        simp only [Act.put, List.setIfInBounds_toArray, List.set_cons_zero, List.set_cons_succ]
        refine wpX_val (.agg #[.slice ma p.mv.length mc, .slice sa p.sv.length sc]) rfl (by intro W hW; obtain ⟨c0, c1⟩ := HCELL.out W hW; go_simp) ?_
        simp only [Act.put, List.setIfInBounds_toArray, List.set_cons_zero, List.set_cons_succ]
        refine wpX_val (.int .i64 (x : Int)) rfl (by intro W hW; obtain ⟨c0, c1⟩ := HCELL.out W hW; go_simp) ?_
        simp only [Act.put, List.setIfInBounds_toArray, List.set_cons_zero, List.set_cons_succ]
        refine wpX_val (.int .i64 (t : Int)) rfl (by intro W hW; obtain ⟨c0, c1⟩ := HCELL.out W hW; go_simp) ?_
        simp only [Act.put, List.setIfInBounds_toArray, List.set_cons_zero, List.set_cons_succ]
        refine wpX_val (.int .i64 (r : Int)) rfl (by intro W hW; obtain ⟨c0, c1⟩ := HCELL.out W hW; go_simp) ?_
        simp only [Act.put, List.setIfInBounds_toArray, List.set_cons_zero, List.set_cons_succ]
        refine wpX_call (.int .i64 c2) (f := 104) (args := #[.agg #[.slice ma p.mv.length mc, .slice sa p.sv.length sc], .int .i64 (x : Int), .int .i64 (t : Int), .int .i64 (r : Int)]) rfl (by intro W hW; go_simp) (fun W hW => (HC.out W hW t htm).mono (by rintro e w' ⟨_, rfl, rfl, k⟩; exact ⟨by rw [HC2.out], hW.trans k⟩)) ?_
        simp only [Act.put, List.setIfInBounds_toArray, List.set_cons_zero, List.set_cons_succ]
        refine wpX_val (.bool (decide (c1 < c2))) rfl (by intro W hW; obtain ⟨c0, c1⟩ := HCELL.out W hW; go_simp) ?_
        simp only [Act.put, List.setIfInBounds_toArray, List.set_cons_zero, List.set_cons_succ]
        refine wpX_val (.bool (decide (c1 < c2))) rfl (by intro W hW; obtain ⟨c0, c1⟩ := HCELL.out W hW; go_simp) ?_
        simp only [Act.put, List.setIfInBounds_toArray, List.set_cons_zero, List.set_cons_succ]
        refine wpX_nil ?_
        intro W hW
        have kr2 := kr.keep hW
        have hsv2 := hsv.keep hW
        have bb2 := bb.keep hW
        clear HCELL kr hsv bb hcv HC
        by_cases hcc : c1 < c2
        · go_wp2_with fail
          go_round
          case rel => exact ⟨k + 1, (s : Int), hlt, by go_num, rfl, Lib.hid (.inr ⟨s, rfl, hsm, HSJ.out⟩), kr2, hsv2, bb2⟩
          case measure => simp [intOf]; omega
        · go_wp2_with fail
          go_round
          case rel => exact ⟨k + 1, (t : Int), hlt, by go_num, rfl, Lib.hid (.inr ⟨t, rfl, htm, HT.out⟩), kr2, hsv2, bb2⟩
          case measure => simp [intOf]; omega
    · have hke : k = L.length := by omega
      have hk1 : ¬ (k : Int) < (L.length : Int) := by omega
      rcases HB.out with ⟨h0, rfl⟩ | ⟨t, rfl, htm, hto⟩
      · have := HL1.out; omega
      · have HF := Lib.hid (And.intro htm (And.intro hto kr))
        clear HB kr hsv bb hto
        go_wp2_with fail
        go_ret
        exact ⟨_, rfl, t, rfl, HF.out⟩
end Go.Proofs.YtndhijckbponkaaGreat
