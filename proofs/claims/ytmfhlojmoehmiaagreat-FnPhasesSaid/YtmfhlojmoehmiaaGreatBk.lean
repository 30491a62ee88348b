import Derived.Test.YtmfhlojmoehmiaaGreatUf
import Derived.Test.YtmfhlojmoehmiaaGreatBj
/- what FnPolicies draws; its comparisons -/
namespace Go.Proofs.YtmfhlojmoehmiaaGreat
open Go.RowKit

set_option maxRecDepth 100000 in
theorem rBig_any (v : Value) (n : Nat) (w : World) (h : Code w v n) :
    Calls Tryz.prog 56 #[v] w fun e w' => e = .returned (.bool (decide ((65536 : Int) < (n : Int)))) ∧ w' = w := by
  obtain ⟨a, c, rfl⟩ := h.shape
  go_enter Tryz.func56, Tryz.ntmps56
  go_wp2_with fail
  go_ret
  exact ⟨rfl, rfl⟩

set_option maxRecDepth 100000 in
set_option maxHeartbeats 1000000 in
theorem rInts_same (A B : Nat → Prop) (v v' : Value) (l : List Int) (w : World) (h : RI A w v l) (h' : RI B w v' l) :
    Calls Tryz.prog 60 #[v, v'] w (Ret fun r w' => r = .bool true ∧ Chg No w w') := by
  have hL := h.len
  obtain ⟨a, cap, rfl, hcap, hmax, hlen, _, hc⟩ := id h
  obtain ⟨a', cap', rfl, hcap', hmax', hlen', _, hc'⟩ := id h'
  go_enter Tryz.func60, Tryz.ntmps60
  go_wp2_with fail
  go_loopw [5] (fun i wr => ∃ j : Nat, j ≤ l.length ∧ i = .int .i64 j ∧ Chg No w wr) (fun i _ => l.length - (intOf i).toNat)
  case atStart => exact ⟨0, Nat.zero_le _, rfl, Chg.refl No w⟩
  case round =>
    obtain ⟨j, hj, rfl, hch⟩ := hrel
    by_cases hlt : j < l.length
    · obtain ⟨b, off, rfl, _, hb, hcell⟩ := hc (by intro e; simp [e] at hlt)
      obtain ⟨b', off', rfl, _, hb', hcell'⟩ := hc' (by intro e; simp [e] at hlt)
      have hcl := (hch.cellD b (off + j) hb (fun e => e)).trans (hcell j hlt)
      have hcl' := (hch.cellD b' (off' + j) hb' (fun e => e)).trans (hcell' j hlt)
      obtain ⟨y, hy⟩ : ∃ y, l.getD j 0 = y := ⟨_, rfl⟩
      rw [hy] at hcl hcl'
      have hj0 : (0 : Int) ≤ (j : Int) := Int.natCast_nonneg _
      have hj1 : (j : Int) < (l.length : Int) := by omega
      have hw1 : IntKind.i64.wrap ((j : Int) + 1) = (j : Int) + 1 := IntWalk.i64_in _ (by omega)
      clear hcell hcell' hc hc' hy
      go_wp2_with fail
      go_quiet (fail)
      have hd := (Chg.refl No wr).drewN nq
      have hch := hch.keep hd
      clear hcl hcl'
      generalize wr.drewN nq = W at hd hch ⊢
      go_wp2_with fail
      go_round
      case rel => exact ⟨j + 1, hlt, by go_num, hch⟩
      case measure => simp [intOf]; omega
    · have hj' : j = l.length := by omega
      subst hj'
      clear hc hc'
      go_wp2_with fail
      go_ret
      exact ⟨_, rfl, rfl, hch⟩

set_option maxRecDepth 100000 in
theorem paging_any (b B K : Nat) (w : World) (h : Cur w b B K) (hK : K ≤ 700000000) (hB : B ≤ w.heap.size) :
    Calls Tryz.prog 121 #[.pointer (some ⟨b, 0, none⟩)] w fun e w' => ∃ (k n : Int) (rv : Value) (l : List Int) (K' : Nat), e = .returned (.tuple #[.int .i64 k, .int .i64 n, rv]) ∧ OI w.heap.size w' rv l ∧ l.length ≤ 62 ∧ Cur w' b B K' ∧ Chg (fun q => q = b) w w' := by
  have qa := Lib.hid (fun K W (hW : Cur W b B K) (hK : K ≤ 900000000) => among_lit b B K W [1, 2, 2, 3, 3, 4, 6] #[.int .i64 1, .int .i64 2, .int .i64 2, .int .i64 3, .int .i64 3, .int .i64 4, .int .i64 6] 3 W.heap.size 7 7 rfl rfl rfl rfl hW (by omega) (by decide) (by decide))
  have qb := Lib.hid (fun K W (hW : Cur W b B K) (hK : K ≤ 900000000) => among_lit b B K W [0, 7, -1] #[.int .i64 0, .int .i64 7, .int .i64 (-1)] 3 W.heap.size 3 3 rfl rfl rfl rfl hW (by omega) (by decide) (by decide))
  have qc := Lib.hid (fun K W (hW : Cur W b B K) (hK : K ≤ 900000000) => among_lit b B K W [2, 3, 4, 4, 5, 5, 8] #[.int .i64 2, .int .i64 3, .int .i64 4, .int .i64 4, .int .i64 5, .int .i64 5, .int .i64 8] 3 W.heap.size 7 7 rfl rfl rfl rfl hW (by omega) (by decide) (by decide))
  have qd := Lib.hid (fun K W (hW : Cur W b B K) (hK : K ≤ 900000000) => among_lit b B K W [1, 0, 9] #[.int .i64 1, .int .i64 0, .int .i64 9] 3 W.heap.size 3 3 rfl rfl rfl rfl hW (by omega) (by decide) (by decide))
  go_enter Tryz.func121, Tryz.ntmps121
  go_wp2_with (first
    | (go_at_call 148; first
      | (with_reducible refine (qa.out _ _ h (by omega)).mono ?_; rintro e w1 ⟨k1, rfl, _, hc1, hk1⟩)
      | (with_reducible refine (qd.out _ _ hc5 (by omega)).mono ?_; rintro e w6 ⟨k6, rfl, _, hc6, hk6⟩; replace hk6 := hk5.trans hk6)
      | (with_reducible refine (qc.out _ _ hc3 (by omega)).mono ?_; rintro e w4 ⟨k4, rfl, _, hc4, hk4⟩; replace hk4 := hk3.trans hk4)
      | (with_reducible refine (qb.out _ _ hc2 (by omega)).mono ?_; rintro e w3 ⟨k3, rfl, _, hc3, hk3⟩; replace hk3 := hk2.trans hk3)
      | (with_reducible refine (qc.out _ _ hc2 (by omega)).mono ?_; rintro e w4 ⟨k4, rfl, _, hc4, hk4⟩; replace hk4 := hk2.trans hk4))
    | (go_at_call 149; first
      | (with_reducible refine (one_any b B _ 24 _ hc4 (by omega) (by omega)).mono ?_; rintro e w5 ⟨x5, rfl, hc5, hk5⟩; replace hk5 := hk4.trans hk5)
      | (with_reducible refine (one_any b B _ 24 _ hc1 (by omega) (by omega)).mono ?_; rintro e w2 ⟨x2, rfl, hc2, hk2⟩; replace hk2 := hk1.trans hk2))
    | (go_at_call 166; first
      | (with_reducible refine (requests_any b B _ _ _ hc6 (by have := hk6.size; omega) (by omega)).mono ?_; rintro e w7 ⟨rv, l, rfl, ho, hl, hc7, hk7⟩; replace hk7 := hk6.trans hk7; replace ho := ho.weak hk6.size)
      | (with_reducible refine (requests_any b B _ _ _ hc5 (by have := hk5.size; omega) (by omega)).mono ?_; rintro e w7 ⟨rv, l, rfl, ho, hl, hc7, hk7⟩; replace hk7 := hk5.trans hk7; replace ho := ho.weak hk5.size)))
  all_goals
    first
      | (refine bodyPost_ret (v := .tuple #[.int .i64 k3, .int .i64 k6, rv]) (by simp [results, Tryz.results121, go_sem]; done) rfl ?_)
      | (refine bodyPost_ret (v := .tuple #[.int .i64 k3, .int .i64 k4, rv]) (by simp [results, Tryz.results121, go_sem]; done) rfl ?_)
      | (refine bodyPost_ret (v := .tuple #[.int .i64 k1, .int .i64 k6, rv]) (by simp [results, Tryz.results121, go_sem]; done) rfl ?_)
      | (refine bodyPost_ret (v := .tuple #[.int .i64 k1, .int .i64 k4, rv]) (by simp [results, Tryz.results121, go_sem]; done) rfl ?_)
    exact ⟨_, _, rv, l, _, rfl, ho, hl, hc7, hk7⟩

set_option maxRecDepth 100000 in
theorem DrawFarthest_any (v : Value) (n : Nat) (w : World) (h : Code w v n) (hn : n ≤ 70001) :
    Calls Tryz.prog 57 #[v] w fun e w' => ∃ (k m : Int) (rv : Value) (l : List Int), e = .returned (.tuple #[.int .i64 k, .int .i64 m, rv]) ∧ OI w.heap.size w' rv l ∧ l.length ≤ 62 ∧ Chg No w w' := by
  obtain ⟨a, cp, rfl⟩ := h.shape
  have k0 := (Chg.refl No w).alloc (.cells #[.slice a n cp, .int .i64 0, .int .u64 0] 107)
  have hc := Cur.new h (by omega) 107
  have q1 := Lib.hid (paging_any _ _ _ _ hc (by omega) (by simp))
  have hz := Lib.hid (World.size_alloc w (.cells #[.slice a n cp, .int .i64 0, .int .u64 0] 107))
  clear h hc
  go_enter Tryz.func57, Tryz.ntmps57
  go_wp2_with (go_at_call 121; refine (q1.out).mono ?_; rintro e w4 ⟨k, m, rv, l, K', rfl, ho, hl, hc4, hk4⟩)
  refine bodyPost_ret (v := .tuple #[.int .i64 k, .int .i64 m, rv]) (by simp [results, Tryz.results57, go_sem]) rfl ?_
  exact ⟨k, m, rv, l, rfl, ho.weak (by rw [hz.out]; omega), hl, k0.step hk4 (fun q hq hlt => by omega)⟩
end Go.Proofs.YtmfhlojmoehmiaaGreat
