import Derived.Test.YtmfhlojmoehmiaaGreatUe
/- items drawn; what draws return for inclusion, anomaly, fault places -/
namespace Go.Proofs.YtmfhlojmoehmiaaGreat
open Go.RowKit

set_option maxRecDepth 100000 in
theorem item_any (b B K : Nat) (n : Int) (w : World) (h : Cur w b B K) (hK : K ≤ 900000000) :
    Calls Tryz.prog 155 #[.pointer (some ⟨b, 0, none⟩), .int .i64 n] w fun e w' => ∃ r : Int, e = .returned (.int .i64 r) ∧ Cur w' b B (K + 4) ∧ Chg (fun q => q = b) w w' := by
  have q1 := Lib.hid (one_any b B K 24 w h (by omega) (by omega))
  obtain ⟨m, hm⟩ : ∃ m, max 1 (min n 8) = m := ⟨_, rfl⟩
  have hm1 : 1 ≤ m ∧ m ≤ 8 := by omega
  go_enter Tryz.func155, Tryz.ntmps155
  go_wp2_with (first
    | (go_at_call 149; refine (q1.out).mono ?_; rintro e w1 ⟨x, rfl, hc1, hk1⟩)
    | (go_at_call 197; refine (l1Least_any _ _ _).mono ?_; rintro e w' ⟨rfl, rfl⟩)
    | (go_at_call 156; refine (l1Most_any _ _ _).mono ?_; rintro e w' ⟨rfl, rfl⟩; rw [hm])
    | (go_at_call 148; refine (among_lit b B (K + 2) _ [-1, n, 8] _ _ _ _ _ rfl rfl rfl rfl hc1 (by omega) (by simp) (by simp)).mono ?_; rintro e w2 ⟨r, rfl, _, hc2, hk2⟩)
    | (go_at_call 80; refine (pick_any b B (K + 2) m _ hc1 (by omega) (by omega)).mono ?_; rintro e w2 ⟨r, rfl, _, _, _, hc2, hk2⟩))
  all_goals
    go_ret
    exact ⟨r, rfl, hc2, hk1.trans hk2⟩

set_option maxRecDepth 100000 in
theorem DrawIncl_any (v : Value) (n : Nat) (w : World) (h : Code w v n) (hn : n ≤ 70001) :
    Calls Tryz.prog 99 #[v] w fun e w' => ∃ (m p k : Int) (rv : Value) (l : List Int), e = .returned (.tuple #[.int .i64 m, .int .i64 p, .int .i64 k, rv]) ∧ OI w.heap.size w' rv l ∧ l.length ≤ 62 ∧ Chg No w w' := by
  obtain ⟨a, cp, rfl⟩ := h.shape
  have k0 := (Chg.refl No w).alloc (.cells #[.slice a n cp, .int .i64 0, .int .u64 0] 107)
  have hc := Cur.new h (by omega) 107
  have q1 := Lib.hid (items_any _ _ _ _ hc (by omega))
  have hz := Lib.hid (World.size_alloc w (.cells #[.slice a n cp, .int .i64 0, .int .u64 0] 107))
  clear h hc
  go_enter Tryz.func99, Tryz.ntmps99
  go_wp2_with (first
    | (go_at_call 150; refine (q1.out).mono ?_; rintro e w1 ⟨m, rfl, _, _, hc1, hk1⟩)
    | (go_at_call 148; refine (among_lit _ _ _ _ [2, 3, 4, 5, 6, 2, 6, 1, 7, 0] _ _ _ _ _ rfl rfl rfl rfl hc1 (by omega) (by decide) (by decide)).mono ?_; rintro e w2 ⟨p, rfl, _, hc2, hk2⟩)
    | (go_at_call 154; refine (size4_any _ _ _ _ hc2 (by omega)).mono ?_; rintro e w3 ⟨k, rfl, _, _, hc3, hk3⟩; have kk3 := (hk1.trans hk2).trans hk3; have hs3 := kk3.size; have hz1 := hz.out)
    | (go_at_call 166; refine (requests_any _ _ _ _ _ hc3 (by omega) (by omega)).mono ?_; rintro e w4 ⟨rv, l, rfl, ho, hl, hc4, hk4⟩))
  refine bodyPost_ret (v := .tuple #[.int .i64 m, .int .i64 p, .int .i64 k, rv]) (by simp [results, Tryz.results99, go_sem]) rfl ?_
  exact ⟨m, p, k, rv, l, rfl, ho.weak (by omega), hl, k0.step (kk3.trans hk4) (fun q hq hlt => by omega)⟩
end Go.Proofs.YtmfhlojmoehmiaaGreat
