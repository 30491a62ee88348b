import Derived.Test.YtmfhlojmoehmiaaGreatBb
import Derived.Test.YtmfhlojmoehmiaaGreatLr
/- the reference's table of least numbers of faults: its parts -/
namespace Go.Proofs.YtmfhlojmoehmiaaGreat
open Go.RowKit

theorem in_bits : ∀ s : Nat, s < 256 → ∀ x : Nat, x < 8 → (bits BinOp.and IntKind.i64 ((s : Int) / 2 ^ x) 1 == 1) = s.testBit x := by decide +kernel
theorem or_bits2 : ∀ s : Nat, s < 256 → ∀ x : Nat, x < 8 → bits BinOp.or IntKind.i64 (s : Int) (wrap64 (2 ^ x)) = ((s ||| 2 ^ x : Nat) : Int) := by decide +kernel
theorem pow_wrap : ∀ x : Nat, x < 9 → wrap64 (2 ^ x) = ((2 ^ x : Nat) : Int) := by decide +kernel
theorem szM_le : ∀ s : Nat, szM s ≤ s := by
  intro s
  induction s using Nat.strongRecOn with
  | ind s ih =>
    by_cases h : s = 0
    · subst h; rw [szM_zero]; exact Nat.le_refl _
    · rw [szM_pos h]
      have := ih (s / 2) (by omega)
      omega
set_option maxRecDepth 100000 in
set_option maxHeartbeats 1000000 in
theorem l5Size_any (s : Nat) (hs : s < 256) (w : World) :
    Calls Tryz.prog 217 #[.int .i64 (s : Int)] w fun e w' => e = .returned (.int .i64 (szM s : Int)) ∧ w = w' := by
  have hsl := szM_le s
  go_enter Tryz.func217, Tryz.ntmps217
  go_wp2_with fail
  go_loop [0, 3] (fun x y => ∃ t c : Nat, x = .int .i64 (t : Int) ∧ y = .int .i64 (c : Int) ∧ Hid (c + szM t = szM s) ∧ t ≤ s) (fun x _ => (intOf x).toNat)
  case atStart => exact ⟨s, 0, rfl, rfl, Lib.hid (by omega), Nat.le_refl _⟩
  case round =>
    obtain ⟨t, c, rfl, rfl, HC, hts⟩ := hrel
    by_cases ht : 0 < t
    · have hstep := szM_pos (s := t) (by omega)
      have h1 : (t : Int).tmod 2 = ((t % 2 : Nat) : Int) := by rw [Int.tmod_eq_emod_of_nonneg (by omega)]; omega
      have h2 : (t : Int).tdiv 2 = ((t / 2 : Nat) : Int) := by rw [Int.tdiv_eq_ediv_of_nonneg (by omega)]; omega
      have HS := Lib.hid hstep
      have hcs : c ≤ 256 := by have := HC.out; omega
      have hw : IntKind.i64.wrap ((c : Int) + ((t % 2 : Nat) : Int)) = (c : Int) + ((t % 2 : Nat) : Int) := IntWalk.i64_in _ (by omega)
      clear hstep
      go_wp2_with fail
      go_round
      case rel => exact ⟨t / 2, c + t % 2, by go_num, by go_num, Lib.hid (by have := HC.out; have := HS.out; omega), by omega⟩
      case measure => simp [intOf]; omega
    · have h0 : t = 0 := by omega
      subst h0
      have he : c = szM s := by have := HC.out; rw [szM_zero] at this; omega
      subst he
      go_wp2_with fail
      go_ret
      exact ⟨rfl, rfl⟩

set_option maxRecDepth 100000 in
set_option maxHeartbeats 1000000 in
theorem l5In_any (s x : Nat) (hs : s < 256) (hx : x < 8) (w : World) :
    Calls Tryz.prog 219 #[.int .i64 (s : Int), .int .i64 (x : Int)] w fun e w' => e = .returned (.bool (s.testBit x)) ∧ w = w' := by
  have H := Lib.hid (in_bits s hs x hx)
  go_enter Tryz.func219, Tryz.ntmps219
  go_wp2_with fail
  go_ret
  exact ⟨ret_bool H.out, rfl⟩
set_option maxRecDepth 100000 in
set_option maxHeartbeats 1000000 in
theorem l5After_any (s x : Nat) (o : Int) (hs : s < 256) (hx : x < 8) (w : World) (ho : -1 ≤ o) (hm : 0 ≤ o → o < 8 ∧ s.testBit o.toNat = true) :
    Calls Tryz.prog 218 #[.int .i64 (s : Int), .int .i64 (x : Int), .int .i64 o] w fun e w' => e = .returned (.int .i64 (aft s x o : Int)) ∧ w = w' := by
  by_cases h0 : 0 ≤ o
  · obtain ⟨h8, hb⟩ := hm h0
    obtain ⟨k, rfl⟩ := Int.eq_ofNat_of_zero_le h0
    simp only [Int.toNat_natCast] at hb
    obtain ⟨g1, g2, _⟩ := sub_bits (n := 8) (by omega) (s := s) (by omega) (x := k) (by omega) hb
    have e1 := pow_wrap k (by omega)
    have e2 : wrap64 ((s : Int) - ((2 ^ k : Nat) : Int)) = ((s - 2 ^ k : Nat) : Int) := by
      have : (s : Int) - ((2 ^ k : Nat) : Int) = ((s - 2 ^ k : Nat) : Int) := by omega
      rw [this]
      have hlt : s - 2 ^ k < 256 := by omega
      generalize s - 2 ^ k = q at hlt ⊢
      unfold wrap64
      omega
    have e3 := or_bits2 (s - 2 ^ k) (by omega) x hx
    have H : Hid (bits BinOp.or IntKind.i64 (wrap64 ((s : Int) - wrap64 (2 ^ k))) (wrap64 (2 ^ x)) = (aft s x (k : Int) : Int)) := Lib.hid (by
      rw [e1, e2, e3]; unfold aft; rw [if_pos h0]; simp)
    clear e1 e2 e3 g1 g2 hm hb
    go_enter Tryz.func218, Tryz.ntmps218
    go_wp2_with fail
    go_ret
    exact ⟨ret_int (by simpa using H.out), rfl⟩
  · have e3 := or_bits2 s hs x hx
    have H : Hid (bits BinOp.or IntKind.i64 (s : Int) (wrap64 (2 ^ x)) = (aft s x o : Int)) := Lib.hid (by
      rw [e3]; unfold aft; rw [if_neg h0])
    have h1 : o < 0 := by omega
    clear e3 hm
    go_enter Tryz.func218, Tryz.ntmps218
    go_wp2_with fail
    go_ret
    exact ⟨ret_int H.out, rfl⟩

theorem pgN_succ (j s : Nat) : pgs (j + 1) s = if s.testBit j then pgs j s ++ [(j : Int)] else pgs j s := by
  unfold pgs pgN
  rw [List.range_succ, List.filter_append, List.map_append]
  cases h : s.testBit j <;> simp [h]
theorem pgs_le (j s : Nat) : (pgs j s).length ≤ j := by
  unfold pgs pgN
  rw [List.length_map]
  have := List.length_filter_le (fun x => s.testBit x) (List.range j)
  rwa [List.length_range] at this
set_option maxRecDepth 100000 in
set_option maxHeartbeats 1000000 in
theorem l5Choices_any (K n s r : Nat) (_hK : K ≤ 6) (hn : n ≤ 8) (hs : s < 256) (hr : r < 8) (w : World) :
    Calls Tryz.prog 216 #[.int .i64 (K : Int), .int .i64 (n : Int), .int .i64 (s : Int), .int .i64 (r : Int)] w (Ret fun v w' => OI w.heap.size w' v (chs K n s r) ∧ Chg No w w') := by
  cases hb : s.testBit r
  · have HC : Hid (chs K n s r = (if szM s < K then [-1] else []) ++ pgs n s) := Lib.hid (by unfold chs; rw [hb]; rfl)
    have HB := Lib.hid hb
    clear hb
    have o1 : OI w.heap.size (w.alloc (.cells #[] 3)) (.slice (some ⟨w.heap.size, 0, none⟩) 0 0) [] := OI.zero (Nat.le_refl _)
    have k1 := (Chg.refl No w).alloc (.cells #[] 3)
    obtain ⟨fs, hfs⟩ : ∃ fs : List Int, (if szM s < K then [-1] else []) = fs := ⟨_, rfl⟩
    have hfl : fs.length ≤ 1 := by rw [← hfs]; split <;> simp
    have HF := Lib.hid hfs
    clear hfs
    rw [HF.out] at HC
    obtain ⟨W, hW⟩ : ∃ W, w.alloc (.cells #[] 3) = W := ⟨_, rfl⟩
    have hsW : w.heap.size ≤ W.heap.size := by rw [← hW]; simp
    by_cases hlt : szM s < K
    · have hfe : fs = [-1] := by rw [← HF.out, if_pos hlt]
      have HFE := Lib.hid hfe
      clear hfe
      go_enter Tryz.func216, Tryz.ntmps216
      go_wp2_with (go_at_call 219; refine (l5In_any s r hs hr _).mono ?_; rintro e w' ⟨rfl, hww⟩; subst hww; rw [HB.out])
      rw [hW] at o1 k1
      clear hW
      refine (l5Size_any s hs _).mono ?_
      rintro e w' ⟨rfl, rfl⟩
      go_wp2_with (at_builtin; refine wapp1 rfl (.tmp 20) (.tmp 21) rfl o1 rfl rfl (by simp) hsW ?_)
      intro v2 w2 o2 k2 f2
      have ch2 := k1.step k2 (fun q hq hl => by have := (o1.lt q hq).1; omega)
      rw [← HFE.out] at o2
      clear k2 o1 k1 HFE f2
      obtain ⟨a2, c2, rfl, _⟩ := id o2.view
      go_wp2_with fail
      go_loopw [9, 10] (fun o z wr => ∃ j : Nat, j ≤ n ∧ z = .int .i64 (j : Int) ∧ OI w.heap.size wr o (fs ++ pgs j s) ∧ Chg No w wr) (fun _ z _ => n - (intOf z).toNat)
      case atStart => exact ⟨0, Nat.zero_le _, rfl, by simpa [pgs, pgN] using o2, ch2⟩
      case round =>
        clear o2 ch2
        obtain ⟨j, hj, rfl, oj, chj⟩ := hrel
        have hszj := chj.size
        obtain ⟨oa, oc, rfl, _⟩ := id oj.view
        by_cases hjn : j < n
        · have hsuc := pgN_succ j s
          have hpl := pgs_le j s
          obtain ⟨ps, hps⟩ : ∃ ps, pgs j s = ps := ⟨_, rfl⟩
          rw [hps] at hsuc oj hpl ⊢
          have hj0 : (0 : Int) ≤ (j : Int) := Int.natCast_nonneg _
          have hj1 : (j : Int) < (n : Int) := by omega
          have hw1 : IntKind.i64.wrap ((j : Int) + 1) = (j : Int) + 1 := IntWalk.i64_in _ (by omega)
          obtain ⟨qs, hqs⟩ : ∃ qs, fs ++ ps = qs := ⟨_, rfl⟩
          have hql : qs.length < 17592186044416 := by rw [← hqs, List.length_append]; omega
          rw [hqs] at oj ⊢
          cases hbj : s.testBit j
          · have HS : Hid (fs ++ pgs (j + 1) s = qs) := Lib.hid (by rw [hsuc, hbj]; exact hqs)
            have HBJ := Lib.hid hbj
            clear hsuc hbj hps hqs
            go_wp2_with (go_at_call 219; refine (l5In_any s j hs (by omega) _).mono ?_; rintro e w' ⟨rfl, hww⟩; subst hww; rw [HBJ.out])
            go_round
            case rel => exact ⟨j + 1, by omega, by go_num, by rw [HS.out]; exact oj, chj⟩
            case measure => simp [intOf]; omega
          · have HS : Hid (fs ++ pgs (j + 1) s = qs ++ [(j : Int)]) := Lib.hid (by rw [hsuc, hbj, ← hqs]; simp)
            have HBJ := Lib.hid hbj
            clear hsuc hbj hps hqs
            go_wp2_with (first
              | (go_at_call 219; refine (l5In_any s j hs (by omega) _).mono ?_; rintro e w' ⟨rfl, hww⟩; subst hww; rw [HBJ.out])
              | (at_builtin; refine wapp1 rfl (.tmp 31) (.tmp 33) rfl oj rfl rfl hql hszj ?_))
            intro v3 w3 o3 k3 f3
            rw [← HS.out] at o3
            have ch3 := chj.step k3 (fun q hq hl => by have := (oj.lt q hq).1; omega)
            obtain ⟨a3, c3, rfl, _⟩ := id o3.view
            go_wp2_with fail
            go_round
            case rel => exact ⟨j + 1, by omega, by go_num, o3, ch3⟩
            case measure => simp [intOf]; omega
        · have hjl : j = n := by omega
          subst hjl
          go_wp2_with fail
          go_ret
          exact ⟨_, rfl, by rw [HC.out]; exact oj, chj⟩
    · have hfe : fs = [] := by rw [← HF.out, if_neg hlt]
      subst hfe
      go_enter Tryz.func216, Tryz.ntmps216
      go_wp2_with (go_at_call 219; refine (l5In_any s r hs hr _).mono ?_; rintro e w' ⟨rfl, hww⟩; subst hww; rw [HB.out])
      rw [hW] at o1 k1
      clear hW
      refine (l5Size_any s hs _).mono ?_
      rintro e w' ⟨rfl, rfl⟩
      go_wp2_with fail
      obtain ⟨fs, hfs⟩ : ∃ fs : List Int, [] = fs := ⟨_, rfl⟩
      rw [hfs] at o1 HC hfl
      obtain ⟨o2, ch2⟩ := (⟨o1, k1⟩ : _ ∧ _)
      clear hfs o1 k1 HF
      go_loopw [9, 10] (fun o z wr => ∃ j : Nat, j ≤ n ∧ z = .int .i64 (j : Int) ∧ OI w.heap.size wr o (fs ++ pgs j s) ∧ Chg No w wr) (fun _ z _ => n - (intOf z).toNat)
      case atStart => exact ⟨0, Nat.zero_le _, rfl, by simpa [pgs, pgN] using o2, ch2⟩
      case round =>
        clear o2 ch2
        obtain ⟨j, hj, rfl, oj, chj⟩ := hrel
        have hszj := chj.size
        obtain ⟨oa, oc, rfl, _⟩ := id oj.view
        by_cases hjn : j < n
        · have hsuc := pgN_succ j s
          have hpl := pgs_le j s
          obtain ⟨ps, hps⟩ : ∃ ps, pgs j s = ps := ⟨_, rfl⟩
          rw [hps] at hsuc oj hpl ⊢
          have hj0 : (0 : Int) ≤ (j : Int) := Int.natCast_nonneg _
          have hj1 : (j : Int) < (n : Int) := by omega
          have hw1 : IntKind.i64.wrap ((j : Int) + 1) = (j : Int) + 1 := IntWalk.i64_in _ (by omega)
          obtain ⟨qs, hqs⟩ : ∃ qs, fs ++ ps = qs := ⟨_, rfl⟩
          have hql : qs.length < 17592186044416 := by rw [← hqs, List.length_append]; omega
          rw [hqs] at oj ⊢
          cases hbj : s.testBit j
          · have HS : Hid (fs ++ pgs (j + 1) s = qs) := Lib.hid (by rw [hsuc, hbj]; exact hqs)
            have HBJ := Lib.hid hbj
            clear hsuc hbj hps hqs
            go_wp2_with (go_at_call 219; refine (l5In_any s j hs (by omega) _).mono ?_; rintro e w' ⟨rfl, hww⟩; subst hww; rw [HBJ.out])
            go_round
            case rel => exact ⟨j + 1, by omega, by go_num, by rw [HS.out]; exact oj, chj⟩
            case measure => simp [intOf]; omega
          · have HS : Hid (fs ++ pgs (j + 1) s = qs ++ [(j : Int)]) := Lib.hid (by rw [hsuc, hbj, ← hqs]; simp)
            have HBJ := Lib.hid hbj
            clear hsuc hbj hps hqs
            go_wp2_with (first
              | (go_at_call 219; refine (l5In_any s j hs (by omega) _).mono ?_; rintro e w' ⟨rfl, hww⟩; subst hww; rw [HBJ.out])
              | (at_builtin; refine wapp1 rfl (.tmp 31) (.tmp 33) rfl oj rfl rfl hql hszj ?_))
            intro v3 w3 o3 k3 f3
            rw [← HS.out] at o3
            have ch3 := chj.step k3 (fun q hq hl => by have := (oj.lt q hq).1; omega)
            obtain ⟨a3, c3, rfl, _⟩ := id o3.view
            go_wp2_with fail
            go_round
            case rel => exact ⟨j + 1, by omega, by go_num, o3, ch3⟩
            case measure => simp [intOf]; omega
        · have hjl : j = n := by omega
          subst hjl
          go_wp2_with fail
          go_ret
          exact ⟨_, rfl, by rw [HC.out]; exact oj, chj⟩
  · have HC : Hid (chs K n s r = [-1]) := Lib.hid (by unfold chs; rw [hb]; rfl)
    have HB := Lib.hid hb
    clear hb
    have k1 := (Chg.refl No w).alloc (.cells #[.int .i64 (-1)] 3)
    have o1 : OI w.heap.size (w.alloc (.cells #[.int .i64 (-1)] 3)) (.slice (some ⟨w.heap.size, 0, none⟩) 1 1) [-1] := OI.one (Nat.le_refl _)
    go_enter Tryz.func216, Tryz.ntmps216
    go_wp2_with (go_at_call 219; refine (l5In_any s r hs hr _).mono ?_; rintro e w' ⟨rfl, hww⟩; subst hww; rw [HB.out])
    go_ret
    exact ⟨_, rfl, by rw [HC.out]; exact o1, k1⟩
end Go.Proofs.YtmfhlojmoehmiaaGreat
