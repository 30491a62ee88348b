import Derived.Test.YthonkbilgllobaaSs
/- markIntSS, heldIntSS -/
namespace Go.Proofs.Ythonkbilgllobaa
open Go.RowKit

def marksL (k : Int) : List (List Int) → List (List Int)
  | [] => []
  | l :: ll => marks k l.length :: marksL (k + l.length) ll
theorem marksL_len (k : Int) (ll : List (List Int)) : (marksL k ll).length = ll.length := by
  induction ll generalizing k with
  | nil => rfl
  | cons l ll ih => simp [marksL, ih]
theorem marksL_append (k : Int) (a b : List (List Int)) : marksL k (a ++ b) = marksL k a ++ marksL (k + tot a) b := by
  induction a generalizing k with
  | nil => simp [marksL, tot]
  | cons l a ih => simp [marksL, tot, ih, Int.add_assoc]
theorem marksL_get (k : Int) (ll : List (List Int)) (j : Nat) (h : j < ll.length) : (marksL k ll).getD j [] = marks (k + tot (ll.take j)) (ll.getD j []).length := by
  have e : ll = ll.take j ++ (ll[j] :: ll.drop (j + 1)) := by rw [List.getElem_cons_drop, List.take_append_drop]
  have hl : (marksL k (ll.take j)).length = j := by rw [marksL_len, List.length_take]; omega
  conv => lhs; rw [e, marksL_append, marksL]
  rw [List.getD_eq_getElem?_getD, List.getElem?_append_right (by omega), hl, Nat.sub_self]
  simp [List.getD_eq_getElem?_getD, List.getElem?_eq_getElem h]
theorem marksL_step (k : Int) (ll : List (List Int)) (j : Nat) (h : j < ll.length) : marksL k (ll.take (j + 1)) ++ ll.drop (j + 1) = (marksL k (ll.take j) ++ ll.drop j).set j (marks (k + tot (ll.take j)) (ll.getD j []).length) := by
  have hl : (marksL k (ll.take j)).length = j := by rw [marksL_len, List.length_take]; omega
  rw [List.take_succ_eq_append_getElem h, marksL_append, List.set_append_right _ _ (by omega), hl, Nat.sub_self, ← List.getElem_cons_drop h, List.set_cons_zero]
  simp [marksL, List.getD_eq_getElem?_getD, List.getElem?_eq_getElem h]
theorem marksL_at (k : Int) (ll : List (List Int)) (j : Nat) (h : j < ll.length) : (marksL k (ll.take j) ++ ll.drop j).getD j [] = ll.getD j [] := by
  have hl : (marksL k (ll.take j)).length = j := by rw [marksL_len, List.length_take]; omega
  rw [List.getD_eq_getElem?_getD, List.getElem?_append_right (by omega), hl, Nat.sub_self, ← List.getElem_cons_drop h]
  simp [List.getD_eq_getElem?_getD, List.getElem?_eq_getElem h]
/-- one of its slices is written -/
theorem OII.view {base : Nat} {w : World} {v : Value} {ll : List (List Int)} {F : Nat → Prop} (h : OII base w v ll F) : ∃ a cap, v = .slice a ll.length cap ∧ ll.length ≤ cap ∧ cap ≤ 9223372036854775807 ∧
    ∀ i, i < ll.length → ∃ g x, a = some ⟨g, 0, none⟩ ∧ g < w.heap.size ∧ w.cell? ⟨g, i, none⟩ = some x ∧ OI base w x (ll.getD i []) ∧ (∀ q, own x q → F q) ∧ F g ∧ ¬ own x g ∧
      ∀ w' l', OI base w' x l' → Chg (own x) w w' → OII base w' v (ll.set i l') F := by
  obtain ⟨vs, h1, h2, h3, h4, h5, h6⟩ := h
  obtain ⟨a, cap, rfl, hc1, hc2, _, hvw⟩ := h2.view
  refine ⟨a, cap, rfl, hc1, hc2, fun i hi => ?_⟩
  obtain ⟨g, rfl, hg1, hg2, hcell, _⟩ := hvw (by omega)
  refine ⟨g, vs.getD i undef, rfl, hg2, hcell i (by omega), h3 i hi, fun q hq => (h6 q).2 (.inr ⟨i, hi, hq⟩), (h6 g).2 (.inl (own_slice.2 rfl)), fun hq => h4 i hi g (own_slice.2 rfl) hq, fun w' l' ho hc => ?_⟩
  refine ⟨vs, by simpa using h1, by simpa using h2.step hc (fun q hq hq' => h4 i hi q hq hq'), fun j hj => ?_, fun j hj => h4 j (by simpa using hj), fun j j' hjj hj' => h5 j j' hjj (by simpa using hj'), fun q => by simpa using h6 q⟩
  have hj : j < ll.length := by simpa using hj
  by_cases hij : j = i
  · subst hij
    rw [show (ll.set j l').getD j [] = l' by rw [List.getD_eq_getElem?_getD, List.getElem?_set_self hi]; rfl]
    exact ho
  · rw [show (ll.set i l').getD j [] = ll.getD j [] by simp only [List.getD_eq_getElem?_getD, List.getElem?_set_ne (Ne.symm hij)]]
    refine (h3 j hj).step hc (fun q hq hq' => ?_)
    rcases Nat.lt_or_ge i j with h | h
    · exact h5 i j h hj q hq' hq
    · exact h5 j i (by omega) hi q hq hq'

set_option maxRecDepth 100000 in
set_option maxHeartbeats 1000000 in
theorem markIntSS_any (base : Nat) (v : Value) (ll : List (List Int)) (F : Nat → Prop) (k : Int) (w : World) (h : OII base w v ll F) (hk : 0 ≤ k) (hk' : k + tot ll ≤ 1000000) :
    Calls Try.prog 19 #[v, .int .i64 k] w (Ret fun r w' => r = .int .i64 (k + tot ll) ∧ OII base w' v (marksL k ll) F ∧ Chg F w w') := by
  have hL := h.len
  obtain ⟨a, cap, rfl, hcap, hmax, -⟩ := h.view
  go_enter Try.func19, Try.ntmps19
  go_wp2_with fail
  go_loopw [1, 5] (fun s i wr => ∃ j : Nat, j ≤ ll.length ∧ i = .int .i64 j ∧ s = .int .i64 (k + (tot (ll.take j) : Int)) ∧ OII base wr (.slice a ll.length cap) (marksL k (ll.take j) ++ ll.drop j) F ∧ Chg F w wr) (fun _ i _ => ll.length - (intOf i).toNat)
  case atStart => exact ⟨0, Nat.zero_le _, rfl, by simp [tot], h, Chg.refl _ w⟩
  case round =>
    obtain ⟨j, hj, rfl, rfl, ho, hch⟩ := hrel
    have hll : (marksL k (ll.take j) ++ ll.drop j).length = ll.length := by rw [List.length_append, marksL_len, List.length_take, List.length_drop]; omega
    by_cases hlt : j < ll.length
    · obtain ⟨a', cap', he, z1, z2, hvw⟩ := ho.view
      clear z1 z2
      simp only [Value.slice.injEq] at he
      obtain ⟨rfl, z1, rfl⟩ := he
      clear z1
      obtain ⟨g, x, rfl, hg, hc, hx, hxF, hFg, hxg, hset⟩ := hvw j (by omega)
      have HSET := Lib.hid hset
      have HXF := Lib.hid hxF
      clear hset hxF hFg hxg
      rw [marksL_at k ll j hlt] at hx
      have hst := marksL_step k ll j hlt
      have hs := tot_succ ll j hlt
      have ht := tot_take ll (j + 1)
      obtain ⟨m, hm⟩ : ∃ m, tot (ll.take j) = m := ⟨_, rfl⟩
      obtain ⟨l, hl⟩ : ∃ l, ll.getD j [] = l := ⟨_, rfl⟩
      rw [hm, hl] at hst hs
      rw [hl] at hx
      rw [hm]
      have HST := Lib.hid hst
      have HS := Lib.hid hs
      have HLL := Lib.hid hll
      have hml : k + (m : Int) + (l.length : Int) ≤ 1000000 := by omega
      obtain ⟨xa, xn, xc, rfl⟩ := hx.shape
      have hj0 : (0 : Int) ≤ (j : Int) := Int.natCast_nonneg _
      have hm0 : (0 : Int) ≤ (m : Int) := Int.natCast_nonneg _
      have hj1 : (j : Int) < (ll.length : Int) := by omega
      have hw1 : IntKind.i64.wrap ((j : Int) + 1) = (j : Int) + 1 := IntWalk.i64_in _ (by omega)
      clear hst hs hm hl hll hvw
      go_wp2_with fail
      refine (markIntS_any base _ l (k + (m : Int)) wr hx ⟨by omega, by omega⟩).mono ?_
      rintro e w1 ⟨_, rfl, rfl, o1, k1⟩
      have o2 := HSET.out w1 _ o1 k1
      rw [← HST.out] at o2
      go_wp2_with fail
      go_round
      case rel =>
        exact ⟨j + 1, hlt, by go_num, congrArg (Value.int .i64) (by rw [HS.out]; omega), o2, hch.step k1 (fun q hq _ => HXF.out q hq)⟩
      case measure => simp [intOf]; omega
    · have hj' : j = ll.length := by omega
      subst hj'
      rw [List.take_length] at *
      rw [List.drop_length, List.append_nil] at ho
      clear hll
      go_wp2_with fail
      go_ret
      exact ⟨_, rfl, rfl, ho, hch⟩

set_option maxRecDepth 100000 in
set_option maxHeartbeats 1000000 in
theorem heldIntSS_any (v : Value) (ll : List (List Int)) (k : Int) (w : World) (h : RII No w v (marksL k ll)) (hk : 0 ≤ k) (hk' : k + tot ll ≤ 1000000) :
    Calls Try.prog 20 #[v, .int .i64 k] w fun e w' => e = .returned (.int .i64 (k + tot ll)) ∧ w = w' := by
  have hL := h.len
  obtain ⟨a, cap, rfl, hcap, hmax, hvw⟩ := h.view
  rw [marksL_len] at *
  have HV := Lib.hid hvw
  clear hvw
  go_enter Try.func20, Try.ntmps20
  go_wp2_with fail
  go_loop [1, 5] (fun s i => ∃ j : Nat, j ≤ ll.length ∧ i = .int .i64 j ∧ s = .int .i64 (k + (tot (ll.take j) : Int))) (fun _ i => ll.length - (intOf i).toNat)
  case atStart => exact ⟨0, Nat.zero_le _, rfl, by simp [tot]⟩
  case round =>
    obtain ⟨j, hj, rfl, rfl⟩ := hrel
    by_cases hlt : j < ll.length
    · obtain ⟨b, off, x, rfl, _, hb, hcell, hx⟩ := HV.out j hlt
      rw [marksL_get k ll j hlt] at hx
      have hs := tot_succ ll j hlt
      have ht := tot_take ll (j + 1)
      obtain ⟨m, hm⟩ : ∃ m, tot (ll.take j) = m := ⟨_, rfl⟩
      obtain ⟨n, hn⟩ : ∃ n, (ll.getD j []).length = n := ⟨_, rfl⟩
      rw [hm, hn] at hs hx
      rw [hm]
      have HS := Lib.hid hs
      have hml : k + (m : Int) + (n : Int) ≤ 1000000 := by omega
      obtain ⟨xa, xn, xc, rfl⟩ := hx.shape
      have hj0 : (0 : Int) ≤ (j : Int) := Int.natCast_nonneg _
      have hm0 : (0 : Int) ≤ (m : Int) := Int.natCast_nonneg _
      have hn0 : (0 : Int) ≤ (n : Int) := Int.natCast_nonneg _
      have hj1 : (j : Int) < (ll.length : Int) := by omega
      have hw1 : IntKind.i64.wrap ((j : Int) + 1) = (j : Int) + 1 := IntWalk.i64_in _ (by omega)
      have hnn : ¬ k + (m : Int) + (n : Int) < 0 := by omega
      clear hs hm hn
      go_wp2_with fail
      refine (heldIntS_any No _ n (k + (m : Int)) _ hx ⟨by omega, by omega⟩).mono ?_
      rintro e w1 ⟨rfl, rfl⟩
      go_wp2_with fail
      go_round
      case rel => exact ⟨j + 1, hlt, by go_num, congrArg (Value.int .i64) (by rw [HS.out]; omega)⟩
      case measure => simp [intOf]; omega
    · have hj' : j = ll.length := by omega
      subst hj'
      rw [List.take_length] at *
      go_wp2_with fail
      go_ret
      exact ⟨rfl, rfl⟩
end Go.Proofs.Ythonkbilgllobaa
