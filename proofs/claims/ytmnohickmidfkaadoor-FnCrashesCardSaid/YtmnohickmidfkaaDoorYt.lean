import Derived.Test.YtmnohickmidfkaaDoorYq
/- records compared, marked, and looked at by the law -/
namespace Go.Proofs.YtmnohickmidfkaaDoor
open Go.RowKit

theorem recC_get : ∀ (L : List (List UInt8 × List UInt8 × Nat)) (j : Nat), j < L.length → ∃ (c r : List UInt8), (recC L).getD (j * 2) undef = .string ⟨c.toArray⟩ ∧ (recC L).getD (j * 2 + 1) undef = .string ⟨r.toArray⟩
  | [], j, h => absurd h (by simp)
  | x :: L, 0, _ => ⟨x.1, x.2.1, rfl, rfl⟩
  | x :: L, j + 1, h => by
    obtain ⟨c, r, h1, h2⟩ := recC_get L j (by simpa using h)
    refine ⟨c, r, ?_, ?_⟩
    · have e : recC (x :: L) = .string ⟨x.1.toArray⟩ :: .string ⟨x.2.1.toArray⟩ :: recC L := rfl
      rw [e, Nat.add_mul, Nat.one_mul]
      exact h1
    · have e : recC (x :: L) = .string ⟨x.1.toArray⟩ :: .string ⟨x.2.1.toArray⟩ :: recC L := rfl
      have e2 : (j + 1) * 2 + 1 = (j * 2 + 1) + 2 := by omega
      rw [e, e2]
      exact h2
def markT (n : Nat) : List UInt8 := 109 :: Lib.decDigits n
theorem dec_step (n : Nat) (h : 0 < n) : Lib.decDigits n = (if n / 10 = 0 then [] else Lib.decDigits (n / 10)) ++ [UInt8.ofNat (48 + n % 10)] := by
  by_cases h' : n < 10
  · have e : n / 10 = 0 := by omega
    have e2 : n % 10 = n := by omega
    rw [Lib.decDigits, dif_pos h', e, e2]; rfl
  · have e : ¬ n / 10 = 0 := by omega
    rw [Lib.decDigits, dif_neg h', if_neg e]
set_option maxRecDepth 100000 in
set_option maxHeartbeats 1000000 in
theorem markText_any (n : Nat) (w : World) (h0 : 0 < n) (hn : n ≤ 1000000000) :
    Calls Tryd.prog 54 #[.int .i64 n] w fun e w' => e = .returned (.string ⟨(markT n).toArray⟩) ∧ Chg No w w' := by
  have hn1 : ¬ (n : Int) ≤ 0 := by omega
  have HDL := Lib.hid (dec_len 9 n (by omega))
  go_enter Tryd.func54, Tryd.ntmps54
  go_wp2_with fail
  go_loopw [0, 3] (fun a o wr => ∃ (j : Nat) (l : List UInt8), a = .int .i64 j ∧ o = .string ⟨l.toArray⟩ ∧ j ≤ n ∧ Hid (Lib.decDigits n = (if j = 0 then [] else Lib.decDigits j) ++ l) ∧ Chg No w wr) (fun a _ _ => (intOf a).toNat)
  case atStart => exact ⟨n, [], rfl, rfl, Nat.le_refl _, Lib.hid (by rw [if_neg (by omega), List.append_nil]), Chg.refl No w⟩
  case round =>
    obtain ⟨j, l, rfl, rfl, hj, HE, hch⟩ := hrel
    by_cases hj0 : 0 < j
    · have hll : l.length ≤ 10 := by
        have h1 := congrArg List.length HE.out
        have h2 := HDL.out
        rw [List.length_append] at h1
        omega
      obtain ⟨x, hx⟩ : ∃ x, x = UInt8.ofNat (48 + j % 10) := ⟨_, rfl⟩
      have hxn : (x.toNat : Int) = 48 + (j : Int) % 10 := by
        rw [hx, UInt8.toNat_ofNat']
        omega
      obtain ⟨t, ht⟩ : ∃ t, t = [x] ++ l := ⟨_, rfl⟩
      have a1 := cat_to (P := Tryd.prog) ht (by rw [ht, List.length_append]; simp; omega)
      have HST : Hid (Lib.decDigits n = (if j / 10 = 0 then [] else Lib.decDigits (j / 10)) ++ t) := Lib.hid (by rw [HE.out, if_neg (by omega), dec_step j hj0, ht, hx, List.append_assoc])
      have hjp : (0 : Int) < (j : Int) := by omega
      have hm0 : (0 : Int) ≤ (j : Int) % 10 := by omega
      have hm1 : (j : Int) % 10 < 10 := by omega
      have htm : Int.tmod (j : Int) 10 = (j : Int) % 10 := Int.tmod_eq_emod_of_nonneg (by omega)
      have htd : Int.tdiv (j : Int) 10 = (j : Int) / 10 := Int.tdiv_eq_ediv_of_nonneg (by omega)
      have hw1 : IntKind.i64.wrap ((j : Int) / 10) = (j : Int) / 10 := IntWalk.i64_in _ (by omega)
      have hw2 : IntKind.i64.wrap ((j : Int) % 10) = (j : Int) % 10 := IntWalk.i64_in _ (by omega)
      have hw3 : IntKind.i64.wrap (48 + (j : Int) % 10) = 48 + (j : Int) % 10 := IntWalk.i64_in _ (by omega)
      have hw4 : IntKind.u8.wrap (48 + (j : Int) % 10) = 48 + (j : Int) % 10 := IntWalk.u8_in _ (by omega)
      have hbk : ∀ W : World, (convert 51 9 (.slice (some ⟨W.heap.size, 0, none⟩) 1 1)).run Tryd.prog (W.alloc (.cells #[.int .u8 (48 + (j : Int) % 10)] 5)) = .ok (.string ⟨[x].toArray⟩) (W.alloc (.cells #[.int .u8 (48 + (j : Int) % 10)] 5)) := fun W => by
        have hB : BY (W.alloc (.cells #[.int .u8 (48 + (j : Int) % 10)] 5)) W.heap.size [x] := by
          refine ⟨by rw [World.size_alloc]; omega, fun i hi => ?_, fun i _ => World.frozen?_alloc_new _ _ _ _⟩
          have : i = 0 := by simpa using hi
          subst this
          rw [World.cell?_alloc_new, ← hxn]
          rfl
        exact hB.back 1 1 rfl
      clear ht hx hxn
      go_wp2_with fail
      refine ⟨⟨j / 10, t, rfl, rfl, by omega, HST, hch.alloc _⟩, ?_⟩
      simp [intOf]
      omega
    · have hj00 : j = 0 := by omega
      subst hj00
      have HF : Hid (Lib.decDigits n = l) := Lib.hid (by rw [HE.out]; rfl)
      obtain ⟨t, ht⟩ : ∃ t, t = [109] ++ l := ⟨_, rfl⟩
      have hll : l.length ≤ 10 := by rw [← HF.out]; exact HDL.out
      have a1 := cat_to (P := Tryd.prog) ht (by rw [ht, List.length_append]; simp; omega)
      have HT : Hid (markT n = t) := Lib.hid (by rw [markT, HF.out, ht]; rfl)
      clear ht HE
      go_wp2_with fail
      go_ret
      exact ⟨ret_str (by rw [HT.out]), hch⟩

set_option maxRecDepth 100000 in
theorem eqRec_same (c r : List UInt8) (w : World) :
    Calls Tryd.prog 53 #[.agg #[.string ⟨c.toArray⟩, .string ⟨r.toArray⟩], .agg #[.string ⟨c.toArray⟩, .string ⟨r.toArray⟩]] w fun e w' => e = .returned (.bool true) ∧ Chg No w w' := by
  have k1 := ((Chg.refl No w).alloc (.cells #[.string ⟨c.toArray⟩, .string ⟨r.toArray⟩] 43)).alloc (.cells #[.string ⟨c.toArray⟩, .string ⟨r.toArray⟩] 43)
  have B0 := (Box2.new w (.string ⟨c.toArray⟩) (.string ⟨r.toArray⟩) 43).keep ((Chg.refl No _).alloc (.cells #[.string ⟨c.toArray⟩, .string ⟨r.toArray⟩] 43))
  have B1 := (Box2.new (w.alloc (.cells #[.string ⟨c.toArray⟩, .string ⟨r.toArray⟩] 43)) (.string ⟨c.toArray⟩) (.string ⟨r.toArray⟩) 43)
  rw [World.size_alloc] at B1
  obtain ⟨c0, c1, fr⟩ := B0
  obtain ⟨d0, d1, fr'⟩ := B1
  go_enter Tryd.func53, Tryd.ntmps53
  go_wp2_with fail
  go_ret
  exact ⟨rfl, k1⟩

set_option maxRecDepth 100000 in
set_option maxHeartbeats 2000000 in
theorem eqRecS_same (v v' : Value) (L : List (List UInt8 × List UInt8 × Nat)) (w : World) (hL : L.length ≤ 60) (h : RF No w v 2 L.length (recC L)) (h' : RF No w v' 2 L.length (recC L)) :
    Calls Tryd.prog 28 #[v, v'] w fun e w' => e = .returned (.bool true) ∧ Chg No w w' := by
  have hrl := recC_len L
  have HG := Lib.hid (recC_get L)
  obtain ⟨n, hn⟩ : ∃ n, L.length = n := ⟨_, rfl⟩
  obtain ⟨cs, hcs⟩ : ∃ cs, recC L = cs := ⟨_, rfl⟩
  rw [hcs, hn] at h h' HG hrl
  rw [hn] at hL
  have HRL := Lib.hid hrl
  clear hn hcs hrl
  obtain ⟨a, cap, rfl, hc1, hc2, _, _, hcell⟩ := id h
  obtain ⟨a', cq, rfl, hc1', hc2', _, _, hcell'⟩ := id h'
  have HC := Lib.hid hcell
  have HC' := Lib.hid hcell'
  clear hcell hcell'
  go_enter Tryd.func28, Tryd.ntmps28
  go_wp2_with fail
  go_loopw [5] (fun i wr => ∃ j : Nat, j ≤ n ∧ i = .int .i64 j ∧ Chg No w wr) (fun i _ => n - (intOf i).toNat)
  case atStart => exact ⟨0, Nat.zero_le _, rfl, Chg.refl No w⟩
  case round =>
    obtain ⟨j, hj, rfl, hch⟩ := hrel
    by_cases hlt : j < n
    · obtain ⟨b, off, rfl, _, hb, hcell⟩ := HC.out (by omega)
      obtain ⟨bq, oq, rfl, _, hb', hcell'⟩ := HC'.out (by omega)
      obtain ⟨c, r, g0, g1⟩ := HG.out j hlt
      have f0 := hcell (j * 2) (by rw [HRL.out]; omega)
      have f1 := hcell (j * 2 + 1) (by rw [HRL.out]; omega)
      have f0' := hcell' (j * 2) (by rw [HRL.out]; omega)
      have f1' := hcell' (j * 2 + 1) (by rw [HRL.out]; omega)
      rw [g0] at f0 f0'
      rw [g1, ← Nat.add_assoc] at f1 f1'
      clear hcell hcell' g0 g1
      have hj0 : (0 : Int) ≤ (j : Int) := Int.natCast_nonneg _
      have hj1 : (j : Int) < (n : Int) := by omega
      have hw1 : IntKind.i64.wrap ((j : Int) + 1) = (j : Int) + 1 := IntWalk.i64_in _ (by omega)
      obtain ⟨C, hC1, hC2⟩ : ∃ C : World → Prop, (∀ W, C W → Chg No w W) ∧ (∀ W, Chg No w W → C W) := ⟨_, fun _ h => h, fun _ h => h⟩
      have HCELL : Hid (∀ W, C W → W.cell? ⟨b, off + j * 2, none⟩ = some (.string ⟨c.toArray⟩) ∧ W.cell? ⟨b, off + j * 2 + 1, none⟩ = some (.string ⟨r.toArray⟩) ∧ W.cell? ⟨bq, oq + j * 2, none⟩ = some (.string ⟨c.toArray⟩) ∧ W.cell? ⟨bq, oq + j * 2 + 1, none⟩ = some (.string ⟨r.toArray⟩)) := Lib.hid (fun W hW =>
        ⟨((hC1 W hW).cellD b _ hb (fun e => e)).trans f0, ((hC1 W hW).cellD b _ hb (fun e => e)).trans f1, ((hC1 W hW).cellD bq _ hb' (fun e => e)).trans f0', ((hC1 W hW).cellD bq _ hb' (fun e => e)).trans f1'⟩)
      have HX := Lib.hid hC1
      have HI := Lib.hid hC2
      have hC0 := hC2 _ hch.drew
      clear hC1 hC2 f0 f1 f0' f1'
      go_wp2_with fail
      refine wp_region_X C (by kernel_rfl) (by kernel_rfl) hC0 ?_
      clear hC0
      refine wpX_val (.slice (some ⟨b, off, none⟩) n cap) rfl (by intro W hW; obtain ⟨d0, d1, e0, e1⟩ := HCELL.out W hW; go_simp) ?_
      simp only [Act.put, List.setIfInBounds_toArray, List.set_cons_zero, List.set_cons_succ]
      refine wpX_val (.int .i64 j) rfl (by intro W hW; obtain ⟨d0, d1, e0, e1⟩ := HCELL.out W hW; go_simp) ?_
      simp only [Act.put, List.setIfInBounds_toArray, List.set_cons_zero, List.set_cons_succ]
      refine wpX_val (.pointer (some ⟨b, off + j * 2, none⟩)) rfl (by intro W hW; obtain ⟨d0, d1, e0, e1⟩ := HCELL.out W hW; go_simp) ?_
      simp only [Act.put, List.setIfInBounds_toArray, List.set_cons_zero, List.set_cons_succ]
      refine wpX_val (.agg #[.string ⟨c.toArray⟩, .string ⟨r.toArray⟩]) rfl (by intro W hW; obtain ⟨d0, d1, e0, e1⟩ := HCELL.out W hW; go_simp) ?_
      simp only [Act.put, List.setIfInBounds_toArray, List.set_cons_zero, List.set_cons_succ]
      refine wpX_val (.slice (some ⟨bq, oq, none⟩) n cq) rfl (by intro W hW; obtain ⟨d0, d1, e0, e1⟩ := HCELL.out W hW; go_simp) ?_
      simp only [Act.put, List.setIfInBounds_toArray, List.set_cons_zero, List.set_cons_succ]
      refine wpX_val (.int .i64 j) rfl (by intro W hW; obtain ⟨d0, d1, e0, e1⟩ := HCELL.out W hW; go_simp) ?_
      simp only [Act.put, List.setIfInBounds_toArray, List.set_cons_zero, List.set_cons_succ]
      refine wpX_val (.pointer (some ⟨bq, oq + j * 2, none⟩)) rfl (by intro W hW; obtain ⟨d0, d1, e0, e1⟩ := HCELL.out W hW; go_simp) ?_
      simp only [Act.put, List.setIfInBounds_toArray, List.set_cons_zero, List.set_cons_succ]
      refine wpX_val (.agg #[.string ⟨c.toArray⟩, .string ⟨r.toArray⟩]) rfl (by intro W hW; obtain ⟨d0, d1, e0, e1⟩ := HCELL.out W hW; go_simp) ?_
      simp only [Act.put, List.setIfInBounds_toArray, List.set_cons_zero, List.set_cons_succ]
      refine wpX_call (.bool true) (f := 53) (args := #[.agg #[.string ⟨c.toArray⟩, .string ⟨r.toArray⟩], .agg #[.string ⟨c.toArray⟩, .string ⟨r.toArray⟩]]) rfl (by intro W hW; go_simp) (fun W hW => (eqRec_same c r W).mono (by rintro e w' ⟨rfl, hk⟩; exact ⟨rfl, HI.out _ ((HX.out W hW).keep hk)⟩)) ?_
      simp only [Act.put, List.setIfInBounds_toArray, List.set_cons_zero, List.set_cons_succ]
      refine wpX_val (.bool false) rfl (by intro W hW; obtain ⟨d0, d1, e0, e1⟩ := HCELL.out W hW; go_simp) ?_
      simp only [Act.put, List.setIfInBounds_toArray, List.set_cons_zero, List.set_cons_succ]
      refine wpX_nil (fun W hW => ?_)
      have g2 := HX.out W hW
      go_wp2_with fail
      go_round
      case rel => exact ⟨j + 1, by omega, by go_num, g2⟩
      case measure => simp [intOf]; omega
    · have hjl : j = n := by omega
      subst hjl
      go_wp2_with fail
      go_ret
      exact ⟨rfl, hch⟩
end Go.Proofs.YtmnohickmidfkaaDoor
