import Derived.Test.YtmnohickmidfkaaDoorWk
/- bytes to be recovered, drawn over codes -/
namespace Go.Proofs.YtmnohickmidfkaaDoor
open Go.RowKit

theorem line_bound (k : Nat) (c r : List UInt8) (hk : k < 10) (hc : c.length ≤ 64) (hr : r.length ≤ 64) : (lineL k c r ++ [10]).length ≤ 200 := by
  have h1 := (seal_len (textL k c r)).2
  have h2 := dec_len 0 k (by omega)
  unfold lineL
  rw [List.length_append]
  unfold textL at h1 ⊢
  simp only [List.length_append, List.length_cons, List.length_nil] at h1 ⊢
  omega
set_option maxRecDepth 100000 in
set_option maxHeartbeats 4000000 in
theorem DrawRecover_any (v : Value) (m : Nat) (w : World) (h : Code w v m) (hn : m ≤ 70001) :
    Calls Tryd.prog 43 #[v] w fun e w' => ∃ s : List UInt8, e = .returned (.string ⟨s.toArray⟩) ∧ s.length ≤ 61000 ∧ Chg No w w' := by
  obtain ⟨a, cp, rfl⟩ := h.shape
  have k1 := (Chg.refl No w).alloc (.cells #[.slice a m cp, .int .i64 0, .int .u64 0] 76)
  have hc := Cur.new h (by omega) 76
  have hsz : (w.alloc (.cells #[.slice a m cp, .int .i64 0, .int .u64 0] 76)).heap.size = w.heap.size + 1 := by rw [World.size_alloc]
  have HZ := Lib.hid hsz
  have q1 := Lib.hid (log12_any _ _ _ _ hc (by omega) (by omega))
  clear h hc hsz
  unfold lv at q1
  go_enter Tryd.func43, Tryd.ntmps43
  go_wp2_with (first
    | (go_at_call 62; refine (q1.out).mono ?_; rintro e w1 ⟨d, p, n, rfl, hlen, hc1, hk1⟩; have hs1 := hk1.size; have hz := HZ.out; have kL := (Chg.refl No w1).alloc (.cells #[.string ⟨d.toArray⟩, .string ⟨p.toArray⟩, .int .i64 n] 23); obtain ⟨c0, c1, c2, fr⟩ := BoxL.new w1 (.string ⟨d.toArray⟩) (.string ⟨p.toArray⟩) (.int .i64 n) 23; have kz := (k1.step hk1 (fun q hq hl => by omega)).trans kL; have hcz := hc1.keep kL; obtain ⟨s, hs⟩ : ∃ s, s = d ++ p := ⟨_, rfl⟩; have a1 := cat_to (P := Tryd.prog) hs (by rw [hs, List.length_append]; omega); have hul : s.length ≤ 61000 := (by rw [hs, List.length_append]; omega); have hsl : s.length ≤ 30400 := (by rw [hs, List.length_append]; omega); clear hs)
    | (go_at_call 63; refine (spoilt_any _ _ 102 s _ (hcz.more (by omega)) (by omega) (by omega)).mono ?_; rintro e w3 ⟨l, rfl, hl, hc3, hk3⟩; have kz := kz.step hk3 (fun q hq hl => by omega); have hcz := hc3.more (K' := 500) (by omega); have hul : l.length ≤ 61000 := (by omega))
    | (go_at_call 58; refine (one_any _ _ 500 40 _ (hcz.more (by omega)) (by omega) (by omega)).mono ?_; rintro e w5 ⟨b5, rfl, hc5, hk5⟩; have kz := kz.step hk5 (fun q hq hl => by omega); have hcz := hc5)
    | (go_at_call 59; first
      | (with_reducible refine (pick_any _ _ (0 + 100) 4 _ hcz (by omega) (by omega)).mono ?_; rintro e w2 ⟨y, rfl, hy0, hy1, _, hc2, hk2⟩; have kz := kz.step hk2 (fun q hq hl => by omega); have hcz := hc2.more (K' := 102) (by omega); clear c0 c1 c2 fr)
      | (with_reducible refine (pick_any _ _ 102 4 _ hcz (by omega) (by omega)).mono ?_; rintro e w3 ⟨y3, rfl, hy30, hy31, _, hc3, hk3⟩; have kz := kz.step hk3 (fun q hq hl => by omega); have hcz := hc3; obtain ⟨k3, rfl⟩ := Int.eq_ofNat_of_zero_le hy30; have hk34 := hy31 (by omega))
      | (have hwp : IntKind.i64.wrap ((s.length : Int) + 1) = (s.length : Int) + 1 := IntWalk.i64_in _ (by omega); with_reducible refine (pick_any _ _ 102 ((s.length : Int) + 1) _ hcz (by omega) (by omega)).mono ?_; rintro e w3 ⟨y3, rfl, hy30, hy31, hy32, hc3, hk3⟩; have kz := kz.step hk3 (fun q hq hl => by omega); have hcz := hc3.more (K' := 500) (by omega); obtain ⟨k3, rfl⟩ := Int.eq_ofNat_of_zero_le hy30; have hk3s : k3 ≤ s.length := (by by_cases h1 : 1 < (s.length : Int) + 1 <;> omega); have f1 := fun W => take_run' (l := s) (k := k3) hk3s W; obtain ⟨u, hu⟩ : ∃ u, u = s.take k3 := ⟨_, rfl⟩; rw [← hu] at f1; have hul : u.length ≤ 61000 := (by rw [hu, List.length_take]; omega); clear hu)
      | (with_reducible refine (pick_any _ _ 502 2 _ hcz (by omega) (by omega)).mono ?_; rintro e w6 ⟨y6, rfl, hy60, hy61, _, hc6, hk6⟩; have kz := kz.step hk6 (fun q hq hl => by omega); obtain ⟨k6, rfl⟩ := Int.eq_ofNat_of_zero_le hy60; have hk62 := hy61 (by omega); obtain ⟨n6, hn6⟩ : ∃ n6 : Nat, 30000 + (k6 : Int) = (n6 : Int) := ⟨30000 + k6, by omega⟩; have hn6l : n6 ≤ 30001 := (by omega); have hw6 : IntKind.i64.wrap (30000 + (k6 : Int)) = (n6 : Int) := (IntWalk.i64_in _ (by omega)).trans hn6; clear hn6))
    | (refine wmakeB rfl _ _ rfl n6 rfl rfl (by omega) ?_; intro W7 hBY hkW; obtain ⟨u6, hu6⟩ : ∃ u, u = List.replicate n6 (0 : UInt8) := ⟨_, rfl⟩; rw [← hu6] at hBY; have hul6 : u6.length = n6 := (by rw [hu6, List.length_replicate]); have hbk := hBY.back n6 n6 hul6.symm; have kz6 := kz.trans hkW; clear hu6)
    | (go_at_call 51; have hll := line_bound k3 c r (by omega) hcl hrl; obtain ⟨t, ht⟩ : ∃ t, t = lineL k3 c r ++ [10] := ⟨_, rfl⟩; rw [← ht] at hll; refine (l12Line_any k3 c r _ (by omega) (by omega) (by omega)).mono ?_; rw [← ht]; rintro e w5 ⟨rfl, hk5⟩; have kz := kz.trans hk5; have hcz := hcz.keep hk5; obtain ⟨u, hu⟩ : ∃ u, u = s ++ t := ⟨_, rfl⟩; have a2 := cat_to (P := Tryd.prog) hu (by rw [hu, List.length_append]; omega); have hul : u.length ≤ 61000 := (by rw [hu, List.length_append]; omega); clear hu ht)
    | (go_at_call 55; refine (logRecord_any _ _ (102 + 2) _ hcz (by have := kz.size; have := hcz.lt; omega) (by omega)).mono ?_; rintro e w4 ⟨c, r, rfl, hcl, hrl, hc4, hk4⟩; have kz := kz.step hk4 (fun q hq hl => by omega); have hcz := hc4.more (K' := 500) (by omega)))
  all_goals go_ret
  all_goals first
    | exact ⟨u6, rfl, by omega, kz6⟩
    | exact ⟨_, rfl, hul, kz⟩
end Go.Proofs.YtmnohickmidfkaaDoor
