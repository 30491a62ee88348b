import Derived.Test.YtegipldajbkjfaaGreatUe
/- items drawn; what draws return for inclusion, anomaly, fault places -/
namespace Go.Proofs.YtegipldajbkjfaaGreat
open Go.RowKit

set_option maxRecDepth 100000 in
theorem item_any (b B K : Nat) (n : Int) (w : World) (h : Cur w b B K) (hK : K ≤ 900000000) :
    Calls Tryz.prog 117 #[.pointer (some ⟨b, 0, none⟩), .int .i64 n] w fun e w' => ∃ r : Int, e = .returned (.int .i64 r) ∧ Cur w' b B (K + 4) ∧ Chg (fun q => q = b) w w' := by
  have q1 := Lib.hid (one_any b B K 24 w h (by omega) (by omega))
  obtain ⟨m, hm⟩ : ∃ m, max 1 (min n 8) = m := ⟨_, rfl⟩
  have hm1 : 1 ≤ m ∧ m ≤ 8 := by omega
  go_enter Tryz.func117, Tryz.ntmps117
  go_wp2_with (first
    | (go_at_call 95; refine (q1.out).mono ?_; rintro e w1 ⟨x, rfl, hc1, hk1⟩)
    | (go_at_call 143; refine (l1Least_any _ _ _).mono ?_; rintro e w' ⟨rfl, rfl⟩)
    | (go_at_call 142; refine (l1Most_any _ _ _).mono ?_; rintro e w' ⟨rfl, rfl⟩; rw [hm])
    | (go_at_call 93; refine (among_lit b B (K + 2) _ [-1, n, 8] _ _ _ _ _ rfl rfl rfl rfl hc1 (by omega) (by simp) (by simp)).mono ?_; rintro e w2 ⟨r, rfl, _, hc2, hk2⟩)
    | (go_at_call 96; refine (pick_any b B (K + 2) m _ hc1 (by omega) (by omega)).mono ?_; rintro e w2 ⟨r, rfl, _, _, _, hc2, hk2⟩))
  all_goals
    go_ret
    exact ⟨r, rfl, hc2, hk1.trans hk2⟩

set_option maxRecDepth 100000 in
theorem DrawIncl_any (v : Value) (n : Nat) (w : World) (h : Code w v n) (hn : n ≤ 70001) :
    Calls Tryz.prog 33 #[v] w fun e w' => ∃ (m p k : Int) (rv : Value) (l : List Int), e = .returned (.tuple #[.int .i64 m, .int .i64 p, .int .i64 k, rv]) ∧ OI w.heap.size w' rv l ∧ l.length ≤ 62 ∧ Chg No w w' := by
  obtain ⟨a, cp, rfl⟩ := h.shape
  have k0 := (Chg.refl No w).alloc (.cells #[.slice a n cp, .int .i64 0, .int .u64 0] 101)
  have hc := Cur.new h (by omega) 101
  have q1 := Lib.hid (items_any _ _ _ _ hc (by omega))
  have hz := Lib.hid (World.size_alloc w (.cells #[.slice a n cp, .int .i64 0, .int .u64 0] 101))
  clear h hc
  go_enter Tryz.func33, Tryz.ntmps33
  go_wp2_with (first
    | (go_at_call 75; refine (q1.out).mono ?_; rintro e w1 ⟨m, rfl, _, _, hc1, hk1⟩)
    | (go_at_call 93; refine (among_lit _ _ _ _ [2, 3, 4, 5, 6, 2, 6, 1, 7, 0] _ _ _ _ _ rfl rfl rfl rfl hc1 (by omega) (by decide) (by decide)).mono ?_; rintro e w2 ⟨p, rfl, _, hc2, hk2⟩)
    | (go_at_call 83; refine (size4_any _ _ _ _ hc2 (by omega)).mono ?_; rintro e w3 ⟨k, rfl, _, _, hc3, hk3⟩; have kk3 := (hk1.trans hk2).trans hk3; have hs3 := kk3.size; have hz1 := hz.out)
    | (go_at_call 77; refine (requests_any _ _ _ _ _ hc3 (by omega) (by omega)).mono ?_; rintro e w4 ⟨rv, l, rfl, ho, hl, hc4, hk4⟩))
  refine bodyPost_ret (v := .tuple #[.int .i64 m, .int .i64 p, .int .i64 k, rv]) (by simp [results, Tryz.results33, go_sem]) rfl ?_
  exact ⟨m, p, k, rv, l, rfl, ho.weak (by omega), hl, k0.step (kk3.trans hk4) (fun q hq hlt => by omega)⟩

set_option maxRecDepth 100000 in
theorem DrawPlaces_any (v : Value) (n : Nat) (w : World) (h : Code w v n) (hn : n ≤ 70001) :
    Calls Tryz.prog 23 #[v] w fun e w' => ∃ (m p k : Int) (rv : Value) (l : List Int), e = .returned (.tuple #[.int .i64 m, .int .i64 p, .int .i64 k, rv]) ∧ OI w.heap.size w' rv l ∧ l.length ≤ 62 ∧ Chg No w w' := by
  obtain ⟨a, cp, rfl⟩ := h.shape
  have k0 := (Chg.refl No w).alloc (.cells #[.slice a n cp, .int .i64 0, .int .u64 0] 101)
  have hc := Cur.new h (by omega) 101
  have q1 := Lib.hid (items_any _ _ _ _ hc (by omega))
  have hz := Lib.hid (World.size_alloc w (.cells #[.slice a n cp, .int .i64 0, .int .u64 0] 101))
  clear h hc
  go_enter Tryz.func23, Tryz.ntmps23
  go_wp2_with (first
    | (go_at_call 75; refine (q1.out).mono ?_; rintro e w1 ⟨m, rfl, _, _, hc1, hk1⟩)
    | (go_at_call 82; refine (policy_any _ _ _ _ hc1 (by omega)).mono ?_; rintro e w2 ⟨p, rfl, _, _, hc2, hk2⟩)
    | (go_at_call 83; refine (size4_any _ _ _ _ hc2 (by omega)).mono ?_; rintro e w3 ⟨k, rfl, _, _, hc3, hk3⟩; have kk3 := (hk1.trans hk2).trans hk3; have hs3 := kk3.size; have hz1 := hz.out)
    | (go_at_call 77; refine (requests_any _ _ _ _ _ hc3 (by omega) (by omega)).mono ?_; rintro e w4 ⟨rv, l, rfl, ho, hl, hc4, hk4⟩))
  refine bodyPost_ret (v := .tuple #[.int .i64 m, .int .i64 p, .int .i64 k, rv]) (by simp [results, Tryz.results23, go_sem]) rfl ?_
  exact ⟨m, p, k, rv, l, rfl, ho.weak (by omega), hl, k0.step (kk3.trans hk4) (fun q hq hlt => by omega)⟩

set_option maxRecDepth 100000 in
set_option maxHeartbeats 1000000 in
theorem DrawAnom_any (v : Value) (n : Nat) (w : World) (h : Code w v n) (hn : n ≤ 70001) :
    Calls Tryz.prog 36 #[v] w fun e w' => ∃ (m p : Int) (rv : Value) (l : List Int), e = .returned (.tuple #[.int .i64 m, .int .i64 p, rv]) ∧ OI w.heap.size w' rv l ∧ l.length ≤ 74 ∧ Chg No w w' := by
  obtain ⟨a, cp, rfl⟩ := h.shape
  have k0 := (Chg.refl No w).alloc (.cells #[.slice a n cp, .int .i64 0, .int .u64 0] 101)
  have hc := Cur.new h (by omega) 101
  have q1 := Lib.hid (items_any _ _ _ _ hc (by omega))
  have hz := Lib.hid (World.size_alloc w (.cells #[.slice a n cp, .int .i64 0, .int .u64 0] 101))
  clear h hc
  go_enter Tryz.func36, Tryz.ntmps36
  go_wp2_with (first
    | (go_at_call 75; refine (q1.out).mono ?_; rintro e w1 ⟨m, rfl, _, _, hc1, hk1⟩; have hz1 := hz.out; have hs1 := hk1.size; have ho1 : OI (w.heap.size + 1) (w1.alloc (.cells #[.int .i64 0, .int .i64 1, .int .i64 2, .int .i64 3, .int .i64 0, .int .i64 1, .int .i64 4, .int .i64 0, .int .i64 1, .int .i64 2, .int .i64 3, .int .i64 4] 3)) (.slice (some ⟨w1.heap.size, 0, none⟩) 12 12) [0, 1, 2, 3, 0, 1, 4, 0, 1, 2, 3, 4] := ⟨by decide, World.ownsRow_lit w1 _ 12 (by omega) (by unfold maxLen; omega) rfl⟩; have ka := hk1.alloc (.cells #[.int .i64 0, .int .i64 1, .int .i64 2, .int .i64 3, .int .i64 0, .int .i64 1, .int .i64 4, .int .i64 0, .int .i64 1, .int .i64 2, .int .i64 3, .int .i64 4] 3); have hca := hc1.keep ((Chg.refl No w1).alloc (.cells #[.int .i64 0, .int .i64 1, .int .i64 2, .int .i64 3, .int .i64 0, .int .i64 1, .int .i64 4, .int .i64 0, .int .i64 1, .int .i64 2, .int .i64 3, .int .i64 4] 3)); have hza := World.size_alloc w1 (.cells #[.int .i64 0, .int .i64 1, .int .i64 2, .int .i64 3, .int .i64 0, .int .i64 1, .int .i64 4, .int .i64 0, .int .i64 1, .int .i64 2, .int .i64 3, .int .i64 4] 3); clear hz1)
    | (go_at_call 95; refine (one_any _ _ _ 2 _ hca (by omega) (by omega)).mono ?_; rintro e w2 ⟨t, rfl, hc2, hk2⟩; have kk2 := ka.trans hk2; have hs2 := kk2.size; have hz1 := hz.out; have ho2 := ho1.step hk2 (fun q hq e => by have := (ho1.lt q hq).1; omega); clear ho1 ka hca hza; obtain ⟨g, hg⟩ : ∃ g, w1.heap.size = g := ⟨_, rfl⟩; rw [hg] at ho2)
    | (go_at_call 82; refine (policy_any _ _ _ _ hc2 (by omega)).mono ?_; rintro e w3 ⟨p, rfl, _, _, hc3, hk3⟩; have hs3 := hk3.size; have kk3 := kk2.trans hk3)
    | (go_at_call 77; refine (requests_any _ _ _ _ _ hc3 (by omega) (by omega)).mono ?_; rintro e w4 ⟨rv, l, rfl, ho, hl, hc4, hk4⟩))
  · refine bodyPost_ret (v := .tuple #[.int .i64 m, .int .i64 p, rv]) (by simp [results, Tryz.results36, go_sem]) rfl ?_
    exact ⟨m, p, rv, l, rfl, ho.weak (by omega), by omega, k0.step (kk3.trans hk4) (fun q hq hlt => by omega)⟩
  · clear q1
    have hwg : w.heap.size + 1 ≤ g := (ho2.lt g (by simp [own, Value.ownBlock])).1
    go_wp2_with (go_at_call 96; refine (pick_any _ _ _ 3 _ hc2 (by omega) (by omega)).mono ?_; rintro e w3 ⟨k, rfl, hk0, hk1', _, hc3, hk3⟩; have hk2' := hk1' (by omega); have hs3 := hk3.size; have kk3 := kk2.trans hk3; have ho3 := ho2.step hk3 (fun q hq e => by have := (ho2.lt q hq).1; omega))
    go_loopw [8] (fun i wr => ∃ (k : Int) (L : List Int) (K : Nat), i = .int .i64 k ∧ 0 ≤ k ∧ k ≤ 2 ∧ L.length = 12 ∧ OI (w.heap.size + 1) wr (.slice (some ⟨g, 0, none⟩) 12 12) L ∧ (K : Int) + 50 * k ≤ 200 ∧ Cur wr w.heap.size (w.heap.size + 1) K ∧ Chg (fun q => q = w.heap.size) (w.alloc (.cells #[.slice a n cp, .int .i64 0, .int .u64 0] 101)) wr) (fun i _ => (intOf i).toNat)
    case atStart => exact ⟨k, _, 0 + 4 + 2 + 2, rfl, hk0, by omega, rfl, ho3, by omega, hc3, kk3⟩
    case round =>
      clear ho2 ho3 hc3 hc2 hk2 hk3 hk0 hk1' hk2' kk2 kk3 hs2 hs3
      obtain ⟨k, L, K, rfl, hk0, hk2, hL, hoL, hK, hcL, kkL⟩ := hrel
      have hsL := kkL.size
      have hgl := (hoL.lt g (by simp [own, Value.ownBlock])).2
      have hgw : ¬ g = w.heap.size := by omega
      by_cases hkp : 0 < k
      · have hkw : IntKind.i64.wrap (k - 1) = k - 1 := IntWalk.i64_in _ (by omega)
        go_wp2_with (first
          | (go_at_call 96; refine (pick_any _ _ _ 5 _ hc4 (by omega) (by omega)).mono ?_; rintro e w5 ⟨y, rfl, hy0, hy1, _, hc5, hk5⟩; have hs5 := hk5.size; have kk5 := kk4.trans hk5; have ho5 := ho4.step hk5 (fun q hq e => by have := (ho4.lt q hq).1; omega); have hcell := ho5.at.1 j (by omega); have hfr := ho5.at.2.1 j)
          | (go_at_call 96; refine (pick_any _ _ _ 12 _ hcL (by omega) (by omega)).mono ?_; rintro e w4 ⟨r, rfl, hr0, hr1, _, hc4, hk4⟩; have hr2 := hr1 (by omega); have hs4 := hk4.size; have kk4 := kkL.trans hk4; have ho4 := hoL.step hk4 (fun q hq e => by have := (hoL.lt q hq).1; omega); obtain ⟨j, hj⟩ : ∃ j : Nat, r = (j : Int) := ⟨r.toNat, by omega⟩; subst hj))
        obtain ⟨o6, s6⟩ := ho5.store j y
        refine ⟨⟨k - 1, _, K + 2 + 2, rfl, by omega, by omega, (List.length_set ..).trans hL, o6, by omega, hc5.step s6 (fun q hq => by omega), kk5.step s6 (fun q hq hlt => by rw [hz.out] at hlt; omega)⟩, ?_⟩
        show (k - 1).toNat < k.toNat
        omega
      · go_wp2_with (first
          | (go_at_call 96; refine (pick_any _ _ _ 3 _ hcL (by omega) (by omega)).mono ?_; rintro e w4 ⟨r, rfl, hr0, hr1, _, hc4, hk4⟩; have hr2 := hr1 (by omega); have hw4 : IntKind.i64.wrap (5 + r) = 5 + r := (IntWalk.i64_in _ (by omega)); have hs4 := hk4.size; have kk4 := kkL.trans hk4; have ho4 := hoL.step hk4 (fun q hq e => by have := (hoL.lt q hq).1; omega))
          | (go_at_call 93; refine (among_lit _ _ _ _ [2, 2, 6, 3, 5, 1] _ _ _ _ _ rfl rfl rfl rfl hc4 (by omega) (by decide) (by decide)).mono ?_; rintro e w5 ⟨p, rfl, _, hc5, hk5⟩; have hs5 := hk5.size; have kk5 := kk4.trans hk5; have ho5 := ho4.step hk5 (fun q hq e => by have := (ho4.lt q hq).1; omega))
          | (go_at_call 97; refine (l1Own_any No _ L w5 ho5.readNo).mono ?_; rintro e w6 ⟨v6, rfl, o6, k6⟩; have hc6 := hc5.keep k6; have kk6 := kk5.keep k6; have hs6 := k6.size)
          | (go_at_call 77; refine (requests_any _ _ _ 5 w6 hc6 (by omega) (by omega)).mono ?_; rintro e w7 ⟨rv, l, rfl, ho7, hl7, hc7, hk7⟩; have hs7 := hk7.size; have kk7 := kk6.trans hk7; have o7 := (o6.step hk7 (fun q hq e => by have := (o6.lt q hq).1; omega)).weak (show w.heap.size ≤ w5.heap.size by omega))
          | (at_builtin; refine wapp rfl (.tmp 44) (.tmp 46) rfl o7 ho7.readNo rfl rfl (by omega) (by omega) ?_))
        intro v8 w8 h8 k8 f8
        go_wp2_with fail
        refine bodyPost_ret (v := .tuple #[.int .i64 (5 + r), .int .i64 p, v8]) (by simp [results, Tryz.results36, go_sem]) rfl ?_
        exact ⟨5 + r, p, v8, L ++ l, rfl, h8, by rw [List.length_append]; omega, k0.step (kk7.step k8 (fun q hq hlt => by rw [hz.out] at hlt; have := (o6.lt q hq).1; omega)) (fun q hq hlt => by omega)⟩
end Go.Proofs.YtegipldajbkjfaaGreat
