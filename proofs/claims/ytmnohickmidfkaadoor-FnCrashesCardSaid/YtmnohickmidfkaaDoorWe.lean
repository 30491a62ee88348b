import Derived.Test.YtmnohickmidfkaaDoorWd
/- spoilt texts, any log -/
namespace Go.Proofs.YtmnohickmidfkaaDoor
open Go.RowKit

theorem take_run' {l : List UInt8} {k : Nat} (hk : k ≤ l.length) (w : World) :
    (Instr.slice 9 (.string ⟨l.toArray⟩) none (some (.int .i64 (k : Int))) none).run Tryd.prog w = .ok (.string ⟨(l.take k).toArray⟩) w := by
  have hsz : (⟨l.toArray⟩ : ByteArray).size = l.length := by simp [ByteArray.size]
  rw [run_slice_string_to_if _ _ _ _ _ Tryd.underlying9, if_pos ⟨by omega, by rw [hsz]; omega⟩, ByteArray.extract_mk]
  simp
theorem drop_run {l : List UInt8} {k : Nat} (hk : k ≤ l.length) (w : World) :
    (Instr.slice 9 (.string ⟨l.toArray⟩) (some (.int .i64 (k : Int))) none none).run Tryd.prog w = .ok (.string ⟨(l.drop k).toArray⟩) w := by
  have hsz : (⟨l.toArray⟩ : ByteArray).size = l.length := by simp [ByteArray.size]
  rw [run_slice_string_from_if _ _ _ _ _ Tryd.underlying9, if_pos ⟨by omega, by rw [hsz]; omega⟩, ByteArray.extract_mk, hsz]
  have : ((l.drop (k : Int).toNat).take (l.length - (k : Int).toNat)) = l.drop k := by
    rw [List.take_of_length_le (by rw [List.length_drop]; exact Nat.le_refl _)]
    simp
  rw [this]
set_option maxRecDepth 100000 in
set_option maxHeartbeats 2000000 in
theorem spoilt_any (b B K : Nat) (t : List UInt8) (w : World) (h : Cur w b B K) (hK : K ≤ 800000000) (ht : t.length ≤ 1000000) :
    Calls Tryd.prog 63 #[.pointer (some ⟨b, 0, none⟩), .string ⟨t.toArray⟩, .string ⟨#[35, 64, 10, 48, 49]⟩] w fun e w' => ∃ l : List UInt8, e = .returned (.string ⟨l.toArray⟩) ∧ l.length ≤ t.length + 1 ∧ Cur w' b B (K + 6) ∧ Chg (fun q => q = b) w w' := by
  cases t with
  | nil =>
    have h1 := fun W => take_run' (l := [35, 64, 10, 48, 49]) (k := 1) (by decide) W
    go_enter Tryd.func63, Tryd.ntmps63
    go_wp2_with fail
    go_ret
    exact ⟨[35], rfl, by simp, h.more (by omega), Chg.refl _ w⟩
  | cons t0 ts =>
    obtain ⟨t, htt⟩ : ∃ t, t = t0 :: ts := ⟨_, rfl⟩
    have hne : (t == []) = false := by rw [htt]; rfl
    have htl : 1 ≤ t.length := by rw [htt]; simp
    rw [← htt] at ht ⊢
    clear htt
    have q1 := Lib.hid (pick_any b B K t.length w h (by omega) (by omega))
    have q2 := Lib.hid (fun W (hW : Cur W b B (K + 2)) => pick_any b B (K + 2) 5 W hW (by omega) (by omega))
    have q3 := Lib.hid (fun W (hW : Cur W b B (K + 4)) => pick_any b B (K + 4) 3 W hW (by omega) (by omega))
    go_enter Tryd.func63, Tryd.ntmps63
    go_wp2_with (go_at_call 59; first
      | (with_reducible refine (q1.out).mono ?_; rintro e w1 ⟨x, rfl, hx0, hx1, hx2, hc1, hk1⟩; have hxl : x < (t.length : Int) := (by by_cases h1 : 1 < (t.length : Int) <;> omega); obtain ⟨i, rfl⟩ := Int.eq_ofNat_of_zero_le hx0; have hil : i < t.length := (by omega))
      | (with_reducible refine (q2.out _ hc1).mono ?_; rintro e w2 ⟨y, rfl, hy0, hy1, hy2, hc2, hk2⟩; obtain ⟨j, rfl⟩ := Int.eq_ofNat_of_zero_le hy0; have hj5 : j < 5 := (by have := hy1 (by omega); omega); have hs1 := fun W => drop_run (l := [35, 64, 10, 48, 49]) (k := j) (by simp; omega) W; obtain ⟨u, hu⟩ : ∃ u, u = ([35, 64, 10, 48, 49] : List UInt8).drop j := ⟨_, rfl⟩; have hul : 1 ≤ u.length := (by rw [hu, List.length_drop]; simp; omega); rw [← hu] at hs1; have hs2 := fun W => take_run' (l := u) (k := 1) hul W; obtain ⟨v, hv⟩ : ∃ v, v = u.take 1 := ⟨_, rfl⟩; have hvl : v.length ≤ 1 := (by rw [hv, List.length_take]; omega); rw [← hv] at hs2; have hex : (⟨u.toArray⟩ : ByteArray).extract 0 1 = ⟨v.toArray⟩ := (by rw [ByteArray.extract_mk, hv]; simp); clear hu hv)
      | (with_reducible refine (q3.out _ hc2).mono ?_; rintro e w3 ⟨z, rfl, hz0, hz1, hz2, hc3, hk3⟩; have f1 := fun W => take_run' (l := t) (k := i) (by omega) W; have f2 := fun W => drop_run (l := t) (k := i) (by omega) W; have f3 := fun W => drop_run (l := t) (k := i + 1) (by omega) W; obtain ⟨a1, ha1⟩ : ∃ a, a = t.take i := ⟨_, rfl⟩; obtain ⟨a2, ha2⟩ : ∃ a, a = t.drop i := ⟨_, rfl⟩; obtain ⟨a3, ha3⟩ : ∃ a, a = t.drop (i + 1) := ⟨_, rfl⟩; rw [← ha1] at f1; rw [← ha2] at f2; rw [← ha3] at f3; have f3' : ∀ W : World, (Instr.slice 9 (.string ⟨t.toArray⟩) (some (.int .i64 ((i : Int) + 1))) none none).run Tryd.prog W = .ok (.string ⟨a3.toArray⟩) W := (fun W => by have := f3 W; push_cast at this; exact this); have l1 : a1.length ≤ i := (by rw [ha1, List.length_take]; omega); have l2 : a2.length = t.length - i := (by rw [ha2, List.length_drop]); have l3 : a3.length = t.length - (i + 1) := (by rw [ha3, List.length_drop]); obtain ⟨m1, hm1⟩ : ∃ m, m = a1 ++ v := ⟨_, rfl⟩; obtain ⟨m2, hm2⟩ : ∃ m, m = m1 ++ a2 := ⟨_, rfl⟩; obtain ⟨m3, hm3⟩ : ∃ m, m = m1 ++ a3 := ⟨_, rfl⟩; obtain ⟨m4, hm4⟩ : ∃ m, m = a1 ++ a3 := ⟨_, rfl⟩; have n1 : m1.length ≤ i + 1 := (by rw [hm1, List.length_append]; omega); have n2 : m2.length ≤ t.length + 1 := (by rw [hm2, List.length_append]; omega); have n3 : m3.length ≤ t.length + 1 := (by rw [hm3, List.length_append]; omega); have n4 : m4.length ≤ t.length + 1 := (by rw [hm4, List.length_append]; omega); have c1 := cat_to (P := Tryd.prog) hm1 (by omega); have c2 := cat_to (P := Tryd.prog) hm2 (by omega); have c3 := cat_to (P := Tryd.prog) hm3 (by omega); have c4 := cat_to (P := Tryd.prog) hm4 (by omega); have L2 := Lib.hid l2; have L3 := Lib.hid l3; have hwi : IntKind.i64.wrap ((i : Int) + 1) = (i : Int) + 1 := IntWalk.i64_in _ (by omega); clear ha1 ha2 ha3 hm1 hm2 hm3 hm4 f3 l2 l3))
    · refine wp_region_X (fun W => Chg No w3 W) (by kernel_rfl) (by kernel_rfl) ((Chg.refl No w3).drew) ?_
      refine wpX_val (.string ⟨t.toArray⟩) rfl (by intro W hW; go_simp) ?_
      simp only [Act.put, List.setIfInBounds_toArray, List.set_cons_zero, List.set_cons_succ]
      refine wpX_val (.int .i64 (i : Int)) rfl (by intro W hW; go_simp) ?_
      simp only [Act.put, List.setIfInBounds_toArray, List.set_cons_zero, List.set_cons_succ]
      refine wpX_val (.string ⟨a1.toArray⟩) rfl (by intro W hW; go_simp) ?_
      simp only [Act.put, List.setIfInBounds_toArray, List.set_cons_zero, List.set_cons_succ]
      refine wpX_val (.string ⟨v.toArray⟩) rfl (by intro W hW; go_simp) ?_
      simp only [Act.put, List.setIfInBounds_toArray, List.set_cons_zero, List.set_cons_succ]
      refine wpX_val (.string ⟨m1.toArray⟩) rfl (by intro W hW; go_simp) ?_
      simp only [Act.put, List.setIfInBounds_toArray, List.set_cons_zero, List.set_cons_succ]
      refine wpX_val (.string ⟨t.toArray⟩) rfl (by intro W hW; go_simp) ?_
      simp only [Act.put, List.setIfInBounds_toArray, List.set_cons_zero, List.set_cons_succ]
      refine wpX_val (.int .i64 (i : Int)) rfl (by intro W hW; go_simp) ?_
      simp only [Act.put, List.setIfInBounds_toArray, List.set_cons_zero, List.set_cons_succ]
      refine wpX_val (.string ⟨a2.toArray⟩) rfl (by intro W hW; go_simp) ?_
      simp only [Act.put, List.setIfInBounds_toArray, List.set_cons_zero, List.set_cons_succ]
      refine wpX_val (.string ⟨m2.toArray⟩) rfl (by intro W hW; go_simp) ?_
      simp only [Act.put, List.setIfInBounds_toArray, List.set_cons_zero, List.set_cons_succ]
      refine wpX_val (.string ⟨m2.toArray⟩) rfl (by intro W hW; go_simp) ?_
      simp only [Act.put, List.setIfInBounds_toArray, List.set_cons_zero, List.set_cons_succ]
      refine wpX_nil (fun W hW => ?_)
      go_wp2_with fail
      go_ret
      exact ⟨m2, rfl, n2, hc3.keep hW, ((hk1.trans hk2).trans hk3).step hW (fun _ e _ => e.elim)⟩
    · refine wp_region_X (fun W => Chg No w3 W) (by kernel_rfl) (by kernel_rfl) ((Chg.refl No w3).drew) ?_
      refine wpX_val (.string ⟨t.toArray⟩) rfl (by intro W hW; go_simp) ?_
      simp only [Act.put, List.setIfInBounds_toArray, List.set_cons_zero, List.set_cons_succ]
      refine wpX_val (.int .i64 (i : Int)) rfl (by intro W hW; go_simp) ?_
      simp only [Act.put, List.setIfInBounds_toArray, List.set_cons_zero, List.set_cons_succ]
      refine wpX_val (.string ⟨a1.toArray⟩) rfl (by intro W hW; go_simp) ?_
      simp only [Act.put, List.setIfInBounds_toArray, List.set_cons_zero, List.set_cons_succ]
      refine wpX_val (.string ⟨v.toArray⟩) rfl (by intro W hW; go_simp) ?_
      simp only [Act.put, List.setIfInBounds_toArray, List.set_cons_zero, List.set_cons_succ]
      refine wpX_val (.string ⟨m1.toArray⟩) rfl (by intro W hW; go_simp) ?_
      simp only [Act.put, List.setIfInBounds_toArray, List.set_cons_zero, List.set_cons_succ]
      refine wpX_val (.string ⟨t.toArray⟩) rfl (by intro W hW; go_simp) ?_
      simp only [Act.put, List.setIfInBounds_toArray, List.set_cons_zero, List.set_cons_succ]
      refine wpX_val (.int .i64 (i : Int)) rfl (by intro W hW; go_simp) ?_
      simp only [Act.put, List.setIfInBounds_toArray, List.set_cons_zero, List.set_cons_succ]
      refine wpX_val (.int .i64 ((i : Int) + 1)) rfl (by intro W hW; go_simp) ?_
      simp only [Act.put, List.setIfInBounds_toArray, List.set_cons_zero, List.set_cons_succ]
      refine wpX_val (.string ⟨a3.toArray⟩) rfl (by intro W hW; go_simp) ?_
      simp only [Act.put, List.setIfInBounds_toArray, List.set_cons_zero, List.set_cons_succ]
      refine wpX_val (.string ⟨m3.toArray⟩) rfl (by intro W hW; go_simp) ?_
      simp only [Act.put, List.setIfInBounds_toArray, List.set_cons_zero, List.set_cons_succ]
      refine wpX_val (.string ⟨m3.toArray⟩) rfl (by intro W hW; go_simp) ?_
      simp only [Act.put, List.setIfInBounds_toArray, List.set_cons_zero, List.set_cons_succ]
      refine wpX_nil (fun W hW => ?_)
      go_wp2_with fail
      go_ret
      exact ⟨m3, rfl, n3, hc3.keep hW, ((hk1.trans hk2).trans hk3).step hW (fun _ e _ => e.elim)⟩
    · go_quiet (fail)
      go_wp2_with fail
      go_ret
      exact ⟨m4, rfl, n4, hc3.keep ((Chg.refl No w3).drewN nq), ((hk1.trans hk2).trans hk3).trans ((Chg.refl (fun q => q = b) w3).drewN nq)⟩

set_option maxRecDepth 100000 in
set_option maxHeartbeats 2000000 in
theorem anyLog_any (b B K : Nat) (w : World) (h : Cur w b B K) (hB : B ≤ w.heap.size) (hK : K ≤ 700000000) :
    Calls Tryd.prog 57 #[.pointer (some ⟨b, 0, none⟩)] w fun e w' => ∃ (d p : List UInt8) (n : Int), e = .returned (lv d p n) ∧ d.length + p.length ≤ 61000 ∧ Cur w' b B (K + 120) ∧ Chg (fun q => q = b) w w' := by
  have hb := h.lt
  have hbB := h.ltB
  have k0 := (Chg.refl No w).alloc (.cells #[.string ⟨#[]⟩, .string ⟨#[]⟩, .int .i64 0] 23)
  have bx := BoxL.new w (.string ⟨#[]⟩) (.string ⟨#[]⟩) (.int .i64 0) 23
  have HB0 : Hid (∀ W, Chg (fun q => q = b) (w.alloc (.cells #[.string ⟨#[]⟩, .string ⟨#[]⟩, .int .i64 0] 23)) W → BoxL W w.heap.size (.string ⟨#[]⟩) (.string ⟨#[]⟩) (.int .i64 0)) := Lib.hid (fun W hW => bx.step hW (by omega))
  have q1 := Lib.hid (log12_any b B K _ (h.keep k0) (by rw [World.size_alloc]; omega) (by omega))
  have HZ : Hid ((w.alloc (.cells #[.string ⟨#[]⟩, .string ⟨#[]⟩, .int .i64 0] 23)).heap.size = w.heap.size + 1) := Lib.hid (World.size_alloc _ _)
  unfold lv at q1 ⊢
  clear h bx
  go_enter Tryd.func57, Tryd.ntmps57
  go_wp2_with (first
    | (go_at_call 62; refine (q1.out).mono ?_; rintro e w1 ⟨d, p, n, rfl, hlen, hc1, hk1⟩; have hsz1 := hk1.size; have hz := HZ.out; have hne1 : ¬ w1.heap.size = w.heap.size := (by omega); have hne2 : ¬ w.heap.size = w1.heap.size := (by omega); have bx1 := Lib.hid (BoxL.new w1 (.string ⟨d.toArray⟩) (.string ⟨p.toArray⟩) (.int .i64 n) 23); have k1 := (Chg.refl No w1).alloc (.cells #[.string ⟨d.toArray⟩, .string ⟨p.toArray⟩, .int .i64 n] 23); have kk1 := hk1.step k1 (fun _ e _ => e.elim))
    | (go_at_call 59; refine (pick_any b B (K + 100) 24 _ (hc1.keep k1) (by omega) (by omega)).mono ?_; rintro e w2 ⟨x, rfl, hx0, hx1, _, hc2, hk2⟩; have hb1 := bx1.out.step hk2 (by omega); have kk2 := kk1.trans hk2; have hb0 := HB0.out w2 kk2; obtain ⟨c0, c1, c2, fr⟩ := id hb1; obtain ⟨d0, d1, d2, fd⟩ := id hb0; obtain ⟨s, hs⟩ : ∃ s, s = d ++ p := ⟨_, rfl⟩; have a1 := cat_to (P := Tryd.prog) hs (by rw [hs, List.length_append]; omega); have hsl : s.length ≤ 30400 := (by rw [hs, List.length_append]; exact hlen); clear hs)
    | (go_at_call 63; refine (spoilt_any b B (K + 102) p _ hc2 (by omega) (by omega)).mono ?_; rintro e w3 ⟨l, rfl, hl, hc3, hk3⟩; have hb3 := hb1.step hk3 (by omega); have hb03 := hb0.step hk3 (by omega); obtain ⟨c0, c1, c2, fr⟩ := id hb3; obtain ⟨d0, d1, d2, fd⟩ := id hb03))
  · have kst := chg_at w2 w1.heap.size 2 (.int .i64 (wrap64 (n + 1)))
    obtain ⟨z0, z1, z2, _⟩ := (hb0.step kst (by omega)).put (.string ⟨d.toArray⟩) (.string ⟨p.toArray⟩) (.int .i64 (wrap64 (n + 1)))
    refine bodyPost_ret (v := .agg #[.string ⟨d.toArray⟩, .string ⟨p.toArray⟩, .int .i64 (wrap64 (n + 1))]) (by simp [results, Tryd.results57, go_sem, z0, z1, z2]) rfl ?_
    exact ⟨_, _, _, rfl, by omega, ((hc2.step kst (fun q hq => by omega)).step ((Chg.refl (fun q => q = w.heap.size) _).put3 (fun _ => rfl) _ _ _) (fun q hq => by omega)).more (by omega), ((((Chg.refl (fun q => q = b) w).step k0 (fun _ e _ => e.elim)).trans kk2).step kst (fun q hq hl => by omega)).put3 (fun h => absurd h (by omega)) _ _ _⟩
  · have kst := chg_at w3 w1.heap.size 1 (.string ⟨l.toArray⟩)
    obtain ⟨z0, z1, z2, _⟩ := (hb03.step kst (by omega)).put (.string ⟨d.toArray⟩) (.string ⟨l.toArray⟩) (.int .i64 n)
    refine bodyPost_ret (v := .agg #[.string ⟨d.toArray⟩, .string ⟨l.toArray⟩, .int .i64 n]) (by simp [results, Tryd.results57, go_sem, z0, z1, z2]) rfl ?_
    exact ⟨_, _, _, rfl, by omega, ((hc3.step kst (fun q hq => by omega)).step ((Chg.refl (fun q => q = w.heap.size) _).put3 (fun _ => rfl) _ _ _) (fun q hq => by omega)).more (by omega), ((((Chg.refl (fun q => q = b) w).step k0 (fun _ e _ => e.elim)).trans (kk2.trans hk3)).step kst (fun q hq hl => by omega)).put3 (fun h => absurd h (by omega)) _ _ _⟩
  · have kst := chg_at w2 w1.heap.size 0 (.string ⟨s.toArray⟩)
    obtain ⟨z0, z1, z2, _⟩ := (hb0.step kst (by omega)).put (.string ⟨s.toArray⟩) (.string ⟨p.toArray⟩) (.int .i64 n)
    refine bodyPost_ret (v := .agg #[.string ⟨s.toArray⟩, .string ⟨p.toArray⟩, .int .i64 n]) (by simp [results, Tryd.results57, go_sem, z0, z1, z2]) rfl ?_
    exact ⟨_, _, _, rfl, by omega, ((hc2.step kst (fun q hq => by omega)).step ((Chg.refl (fun q => q = w.heap.size) _).put3 (fun _ => rfl) _ _ _) (fun q hq => by omega)).more (by omega), ((((Chg.refl (fun q => q = b) w).step k0 (fun _ e _ => e.elim)).trans kk2).step kst (fun q hq hl => by omega)).put3 (fun h => absurd h (by omega)) _ _ _⟩
  · have kst := Chg.refl (fun q => q = w1.heap.size) w2
    obtain ⟨z0, z1, z2, _⟩ := (hb0.step kst (by omega)).put (.string ⟨d.toArray⟩) (.string ⟨p.toArray⟩) (.int .i64 n)
    refine bodyPost_ret (v := .agg #[.string ⟨d.toArray⟩, .string ⟨p.toArray⟩, .int .i64 n]) (by simp [results, Tryd.results57, go_sem, z0, z1, z2]) rfl ?_
    exact ⟨_, _, _, rfl, by omega, ((hc2.step kst (fun q hq => by omega)).step ((Chg.refl (fun q => q = w.heap.size) _).put3 (fun _ => rfl) _ _ _) (fun q hq => by omega)).more (by omega), ((((Chg.refl (fun q => q = b) w).step k0 (fun _ e _ => e.elim)).trans kk2).step kst (fun q hq hl => by omega)).put3 (fun h => absurd h (by omega)) _ _ _⟩
end Go.Proofs.YtmnohickmidfkaaDoor
