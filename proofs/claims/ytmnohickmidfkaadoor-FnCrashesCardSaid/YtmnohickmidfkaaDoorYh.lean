import Derived.Test.YtmnohickmidfkaaDoorYg
import Derived.Test.YtmnohickmidfkaaDoorTx
/- a record read by the reference -/
namespace Go.Proofs.YtmnohickmidfkaaDoor
open Go.RowKit

/-- whether the text stands ahead, and what the reference takes the record to be -/
def restB (k : Nat) (s : List UInt8) : List UInt8 := (preB 35 s).drop ((Lib.decDigits k).length + 1)
def aheadB (k : Nat) (s : List UInt8) : Bool := (Lib.decDigits k ++ [32]).isPrefixOf (preB 35 s)
theorem decB_spec' (k : Nat) (hk : k < 60) (s : List UInt8) :
    decB k s = if aheadB k s && (hasL 64 (restB k s) && (recB (preB 64 (restB k s)) (postB 64 (restB k s)) && decide (lineL k (preB 64 (restB k s)) (postB 64 (restB k s)) = s))) then some (preB 64 (restB k s), postB 64 (restB k s)) else none := decB_spec k hk s
/-- the head of what the reference parts at a byte -/
theorem split_any (s : List UInt8) (b : UInt8) (w : World) (hs : s.length ≤ 1073741824) :
    Calls Tryd.prog 64 #[.string ⟨s.toArray⟩, .int .u8 (b.toNat : Int)] w fun e w' => ∃ g n cap, e = .returned (.slice (some ⟨g, 0, none⟩) n cap) ∧ 1 ≤ n ∧ n ≤ cap ∧ cap ≤ 9223372036854775807 ∧ w'.cell? ⟨g, 0, none⟩ = some (.string ⟨(preB b s).toArray⟩) ∧ Chg No w w' :=
  (l1Split_any s b w hs).mono fun _ _ ⟨g, n, cap, e, h1, h2, h3, _, _, h5, _, h7⟩ => ⟨g, n, cap, e, h1, h2, h3, h5, h7⟩

set_option maxRecDepth 100000 in
set_option maxHeartbeats 4000000 in
theorem l12Decode_any (k : Nat) (s : List UInt8) (w : World) (hk : k < 60) (hs : s.length ≤ 1048576) :
    Calls Tryd.prog 65 #[.string ⟨s.toArray⟩, .int .i64 k] w fun e w' => ∃ c r, e = .returned (.tuple #[rv c r, .bool (decB k s).isSome]) ∧ ((decB k s).isSome = true → decB k s = some (c, r)) ∧ Chg No w w' := by
  have q1 := Lib.hid (fun W => l1Num_any k W (by omega))
  have q2 : Hid (∀ W, Calls Tryd.prog 64 #[.string ⟨s.toArray⟩, .int .u8 35] W fun e w' => ∃ g n cap, e = .returned (.slice (some ⟨g, 0, none⟩) n cap) ∧ 1 ≤ n ∧ n ≤ cap ∧ cap ≤ 9223372036854775807 ∧ w'.cell? ⟨g, 0, none⟩ = some (.string ⟨(preB 35 s).toArray⟩) ∧ Chg No W w') := Lib.hid (fun W => split_any s 35 W (by omega))
  obtain ⟨D, hD⟩ : ∃ D, D = Lib.decDigits k := ⟨_, rfl⟩
  have hDl := dec_len 1 k (by omega)
  rw [← hD] at q1 hDl
  obtain ⟨A, hA⟩ : ∃ A, A = D ++ [32] := ⟨_, rfl⟩
  have HAl : Hid (A.length = D.length + 1) := Lib.hid (by rw [hA]; simp)
  have a1 := cat_to (P := Tryd.prog) hA (by rw [HAl.out]; omega)
  have hp1 := pre_le 35 s
  have hag : aheadB k s = A.isPrefixOf (preB 35 s) := by rw [hA, hD]; rfl
  have hre : restB k s = (preB 35 s).drop A.length := by rw [HAl.out, hD]; rfl
  obtain ⟨p, hp⟩ : ∃ p, p = preB 35 s := ⟨_, rfl⟩
  rw [← hp] at q2 hp1 hag hre
  have k0 := (Chg.refl No w).alloc (.cells #[.string ⟨#[]⟩, .string ⟨#[]⟩] 43)
  have BX : Hid (∀ W, Chg No (w.alloc (.cells #[.string ⟨#[]⟩, .string ⟨#[]⟩] 43)) W → Box2 W w.heap.size (.string ⟨#[]⟩) (.string ⟨#[]⟩)) := Lib.hid (fun W hW => (Box2.new w (.string ⟨#[]⟩) (.string ⟨#[]⟩) 43).keep hW)
  have hDD := Lib.hid (decB_spec' k hk s)
  rw [hag, hre] at hDD
  clear hA hp hD hag hre
  by_cases g1 : p.length < A.length
  · have hn : Hid (decB k s = none) := Lib.hid (by
      rw [hDD.out]
      have : A.isPrefixOf p = false := by
        rw [Bool.eq_false_iff]
        intro h
        have := (List.isPrefixOf_iff_prefix.1 h).length_le
        omega
      rw [this]; rfl)
    have g1' : (p.length : Int) < (A.length : Int) := by omega
    rw [hn.out]
    clear hDD
    go_enter Tryd.func65, Tryd.ntmps65
    go_wp2_with (first | (go_at_call 72; refine (q1.out _).mono ?_; rintro e w1 ⟨rfl, m1, rfl⟩) | (go_at_call 64; refine (q2.out _).mono ?_; rintro e w2 ⟨g, n, cap, rfl, hn1, hn2, hn3, hg, hk2⟩; have kk := (drewN_chg' _ m1).trans hk2; obtain ⟨c0, c1, fr⟩ := BX.out w2 kk))
    obtain ⟨z0, z1, _⟩ := (BX.out w2 kk).put2 (.string ⟨#[]⟩) (.string ⟨#[]⟩)
    refine bodyPost_ret (v := .tuple #[.agg #[.string ⟨#[]⟩, .string ⟨#[]⟩], .bool false]) (by simp [results, Tryd.results65, go_sem, z0, z1]) rfl ?_
    exact ⟨[], [], rfl, (fun h => by cases h), (k0.trans kk).put2 (fun h => absurd h (by omega)) _ _⟩
  · have g1' : ¬ (p.length : Int) < (A.length : Int) := by omega
    obtain ⟨x, hx⟩ : ∃ x, x = p.take A.length := ⟨_, rfl⟩
    have hsl : ∀ W, (Instr.slice 9 (.string ⟨p.toArray⟩) none (some (.int .i64 (A.length : Int))) none).run Tryd.prog W = .ok (.string ⟨x.toArray⟩) W := fun W => by
      have hsz : (⟨p.toArray⟩ : ByteArray).size = p.length := by simp [ByteArray.size]
      rw [run_slice_string_to_if _ _ _ _ _ Tryd.underlying9, if_pos ⟨by omega, by rw [hsz]; omega⟩, ByteArray.extract_mk, hx]
      simp
    have hpre : A.isPrefixOf p = (x == A) := by
      rw [Bool.eq_iff_iff, beq_iff_eq, List.isPrefixOf_iff_prefix, List.prefix_iff_eq_take, hx]
      exact ⟨fun h => h.symm, fun h => h.symm⟩
    rw [hpre] at hDD
    clear hpre
    cases g2 : (x == A) with
    | false =>
      have hn : Hid (decB k s = none) := Lib.hid (by rw [hDD.out, g2]; rfl)
      rw [hn.out]
      clear hDD hx
      go_enter Tryd.func65, Tryd.ntmps65
      go_wp2_with (first | (go_at_call 72; refine (q1.out _).mono ?_; rintro e w1 ⟨rfl, m1, rfl⟩) | (go_at_call 64; refine (q2.out _).mono ?_; rintro e w2 ⟨g, n, cap, rfl, hn1, hn2, hn3, hg, hk2⟩; have kk := (drewN_chg' _ m1).trans hk2; obtain ⟨c0, c1, fr⟩ := BX.out w2 kk))
      obtain ⟨z0, z1, _⟩ := (BX.out w2 kk).put2 (.string ⟨#[]⟩) (.string ⟨#[]⟩)
      refine bodyPost_ret (v := .tuple #[.agg #[.string ⟨#[]⟩, .string ⟨#[]⟩], .bool false]) (by simp [results, Tryd.results65, go_sem, z0, z1]) rfl ?_
      exact ⟨[], [], rfl, (fun h => by cases h), (k0.trans kk).put2 (fun h => absurd h (by omega)) _ _⟩
    | true =>
      rw [g2, Bool.true_and] at hDD
      obtain ⟨u, hu⟩ : ∃ u, u = p.drop A.length := ⟨_, rfl⟩
      have hul : u.length ≤ p.length := by rw [hu, List.length_drop]; omega
      have hsu : ∀ W, (Instr.slice 9 (.string ⟨p.toArray⟩) (some (.int .i64 (A.length : Int))) none none).run Tryd.prog W = .ok (.string ⟨u.toArray⟩) W := fun W => by
        have hsz : (⟨p.toArray⟩ : ByteArray).size = p.length := by simp [ByteArray.size]
        rw [run_slice_string_from_if _ _ _ _ _ Tryd.underlying9, if_pos ⟨by omega, by rw [hsz]; omega⟩, ByteArray.extract_mk, hu, hsz]
        have : ((p.drop (A.length : Int).toNat).take (p.length - (A.length : Int).toNat)) = p.drop A.length := by
          rw [List.take_of_length_le (by rw [List.length_drop]; exact Nat.le_refl _)]
          simp
        rw [this]
      rw [← hu] at hDD
      have q3 : Hid (∀ W, Calls Tryd.prog 64 #[.string ⟨u.toArray⟩, .int .u8 64] W fun e w' => ∃ g n cap, e = .returned (.slice (some ⟨g, 0, none⟩) n cap) ∧ 1 ≤ n ∧ n ≤ cap ∧ cap ≤ 9223372036854775807 ∧ w'.cell? ⟨g, 0, none⟩ = some (.string ⟨(preB 64 u).toArray⟩) ∧ Chg No W w') := Lib.hid (fun W => split_any u 64 W (by omega))
      clear hu hx
      have hcl := pre_le 64 u
      by_cases g4 : (64 : UInt8) ∈ u
      · have hct := pre_lt 64 u g4
        have hdr := post_drop 64 u g4
        have hhas : hasL 64 u = true := by rw [hasL, decide_eq_true_eq]; exact g4
        rw [hhas, Bool.true_and] at hDD
        obtain ⟨c, hc⟩ : ∃ c, c = preB 64 u := ⟨_, rfl⟩
        obtain ⟨r, hr⟩ : ∃ r, r = postB 64 u := ⟨_, rfl⟩
        rw [← hc] at q3 hct hcl hdr hDD
        rw [← hr] at hdr hDD
        have hrl : r.length ≤ u.length := by rw [hdr, List.length_drop]; omega
        have g4' : ¬ (c.length : Int) = (u.length : Int) := by omega
        have hw1 : IntKind.i64.wrap ((c.length : Int) + 1) = (c.length : Int) + 1 := IntWalk.i64_in _ (by omega)
        have hsr : ∀ W, (Instr.slice 9 (.string ⟨u.toArray⟩) (some (.int .i64 ((c.length : Int) + 1))) none none).run Tryd.prog W = .ok (.string ⟨r.toArray⟩) W := fun W => by
          have hsz : (⟨u.toArray⟩ : ByteArray).size = u.length := by simp [ByteArray.size]
          have e1 : ((c.length : Int) + 1).toNat = c.length + 1 := by omega
          rw [run_slice_string_from_if _ _ _ _ _ Tryd.underlying9, if_pos ⟨by omega, by rw [hsz]; omega⟩, e1, ByteArray.extract_mk, hdr, hsz]
          rw [List.take_of_length_le (by rw [List.length_drop]; exact Nat.le_refl _)]
        have q4 := Lib.hid (fun W => l12Record_any c r W (by omega) (by omega))
        have q5 := Lib.hid (fun W => l12Line_any k c r W (by omega) (by omega) (by omega))
        unfold rv at q4 q5
        clear hc hr hdr
        cases g5 : recB c r with
        | false =>
          have hn : Hid (decB k s = none) := Lib.hid (by rw [hDD.out, g5]; rfl)
          rw [hn.out]
          rw [g5] at q4
          clear hDD q5
          have HF : Hid (false = true → (none : Option (List UInt8 × List UInt8)) = some (c, r)) := Lib.hid (fun h => by cases h)
          go_enter Tryd.func65, Tryd.ntmps65
          go_wp2_with (first | (go_at_call 72; refine (q1.out _).mono ?_; rintro e w1 ⟨rfl, m1, rfl⟩) | (go_at_call 64; first | (with_reducible refine (q2.out _).mono ?_; rintro e w2 ⟨g, n, cap, rfl, hn1, hn2, hn3, hg, hk2⟩) | (with_reducible refine (q3.out _).mono ?_; rintro e w3 ⟨g', n', cap', rfl, hn1', hn2', hn3', hg', hk3⟩; have kk := ((drewN_chg' _ m1).trans hk2).trans hk3)))
          have E0 := (Box2.new w3 (.string ⟨c.toArray⟩) (.string ⟨r.toArray⟩) 43)
          have kb := (Chg.refl No w3).alloc (.cells #[.string ⟨c.toArray⟩, .string ⟨r.toArray⟩] 43)
          have F0 := BX.out _ (kk.trans kb)
          have kall := kk.trans kb
          have hne : w.heap.size < w3.heap.size := (BX.out w3 kk).lt
          generalize w3.alloc (.cells #[.string ⟨c.toArray⟩, .string ⟨r.toArray⟩] 43) = W0 at E0 F0 kall ⊢
          obtain ⟨b1, hb1⟩ : ∃ b1, w3.heap.size = b1 := ⟨_, rfl⟩
          rw [hb1] at E0 hne ⊢
          refine wp_region_K (S := fun W => Box2 W b1 (.string ⟨c.toArray⟩) (.string ⟨r.toArray⟩)) (k := 12) (by kernel_rfl) ?_
          have hd := (Chg.refl No W0).drew
          have hS := E0.keep hd
          have F0 := F0.keep hd
          have kall := kall.keep hd
          clear E0
          generalize W0.drew = W1 at hS F0 kall ⊢
          clear hd
          refine wpAnyK_take 0 (.agg #[.string ⟨c.toArray⟩, .string ⟨r.toArray⟩]) rfl (by kernel_rfl) (fun _ _ _ h => h) hS rfl (by rintro w ⟨c0, c1, fr⟩; go_simp) ?_
          simp only [List.getElem_toArray, List.getElem_cons_zero, Act.put, List.setIfInBounds_toArray, List.set_cons_zero, List.set_cons_succ]
          refine wpAnyK_take 1 (.agg #[.string ⟨c.toArray⟩, .string ⟨r.toArray⟩]) rfl (by kernel_rfl) (fun _ _ _ h => h) hS rfl (by rintro w ⟨c0, c1, fr⟩; go_simp) ?_
          simp only [List.getElem_toArray, List.getElem_cons_succ, List.getElem_cons_zero, Act.put, List.setIfInBounds_toArray, List.set_cons_zero, List.set_cons_succ]
          refine wpAnyK_1 2 (by kernel_rfl) (wpOpK' rfl rfl ?_)
          intro K hK
          refine ocallR (f := 50) (args := #[.agg #[.string ⟨c.toArray⟩, .string ⟨r.toArray⟩]]) (by go_simp) (q4.out W1) (fun w4 h4 => hK.out _ _ (hS.keep h4) ?_)
          clear hK K
          simp only [List.getElem_toArray, List.getElem_cons_succ, List.getElem_cons_zero, Act.put, List.setIfInBounds_toArray, List.set_cons_zero, List.set_cons_succ]
          have hS := hS.keep h4
          have F0 := F0.keep h4
          have kall := kall.keep h4
          refine wpAnyK_take0 3 (.bool false) rfl (by kernel_rfl) (fun _ _ _ h => h) hS rfl (by intro w; go_simp) ?_
          simp only [List.getElem_toArray, List.getElem_cons_succ, List.getElem_cons_zero, Act.put, List.setIfInBounds_toArray, List.set_cons_zero, List.set_cons_succ]
          refine wpAnyK_skipG 4 rfl (by kernel_rfl) (fun _ _ _ h => h) hS rfl ?_
          simp only [List.getElem_toArray, List.getElem_cons_succ, List.getElem_cons_zero, Act.put, List.setIfInBounds_toArray, List.set_cons_zero, List.set_cons_succ]
          refine wpAnyK_skipG 5 rfl (by kernel_rfl) (fun _ _ _ h => h) hS rfl ?_
          simp only [List.getElem_toArray, List.getElem_cons_succ, List.getElem_cons_zero, Act.put, List.setIfInBounds_toArray, List.set_cons_zero, List.set_cons_succ]
          refine wpAnyK_skipG 6 rfl (by kernel_rfl) (fun _ _ _ h => h) hS rfl ?_
          simp only [List.getElem_toArray, List.getElem_cons_succ, List.getElem_cons_zero, Act.put, List.setIfInBounds_toArray, List.set_cons_zero, List.set_cons_succ]
          refine wpAnyK_skipG 7 rfl (by kernel_rfl) (fun _ _ _ h => h) hS rfl ?_
          simp only [List.getElem_toArray, List.getElem_cons_succ, List.getElem_cons_zero, Act.put, List.setIfInBounds_toArray, List.set_cons_zero, List.set_cons_succ]
          refine wpAnyK_skipG 8 rfl (by kernel_rfl) (fun _ _ _ h => h) hS rfl ?_
          simp only [List.getElem_toArray, List.getElem_cons_succ, List.getElem_cons_zero, Act.put, List.setIfInBounds_toArray, List.set_cons_zero, List.set_cons_succ]
          refine wpAnyK_skipG 9 rfl (by kernel_rfl) (fun _ _ _ h => h) hS rfl ?_
          simp only [List.getElem_toArray, List.getElem_cons_succ, List.getElem_cons_zero, Act.put, List.setIfInBounds_toArray, List.set_cons_zero, List.set_cons_succ]
          refine wpAnyK_take0 10 (.bool false) rfl (by kernel_rfl) (fun _ _ _ h => h) hS rfl (by intro w; go_simp) ?_
          simp only [List.getElem_toArray, List.getElem_cons_succ, List.getElem_cons_zero, Act.put, List.setIfInBounds_toArray, List.set_cons_zero, List.set_cons_succ]
          refine wpAnyK_1 11 (by kernel_rfl) (wpOpK' rfl rfl ?_)
          intro K hK
          obtain ⟨d0, d1, fr'⟩ := id F0
          have fr0 := fr' 0
          have fr1 := fr' 1
          clear fr'
          unfold Oper.wp execOp
          go_simp
          refine hK.out _ _ (hS.step ((Chg.refl (fun q => q = w.heap.size) w4).put2 (fun _ => rfl) _ _) (fun e => by omega)) ?_
          clear hK K hS
          obtain ⟨z0, z1, _⟩ := F0.put2 (.string ⟨c.toArray⟩) (.string ⟨r.toArray⟩)
          clear d0 d1 fr0 fr1
          simp only [List.setIfInBounds_toArray]
          refine wpAnyK_tail 12 rfl (by kernel_rfl) ?_
          simp only [List.drop_succ_cons, List.drop_zero]
          go_wp2_with fail
          refine bodyPost_ret (v := .tuple #[.agg #[.string ⟨c.toArray⟩, .string ⟨r.toArray⟩], .bool false]) (by simp [results, Tryd.results65, go_sem, z0, z1]) rfl ?_
          exact ⟨c, r, rfl, (fun h => by first | rfl | cases h), (k0.trans kall).put2 (fun h => absurd h (by omega)) _ _⟩
        | true =>
          rw [g5] at q4
          obtain ⟨Z, hZ⟩ : ∃ Z, Z = lineL k c r ++ [10] := ⟨_, rfl⟩
          obtain ⟨Y, hY⟩ : ∃ Y, Y = s ++ [10] := ⟨_, rfl⟩
          have a2 := cat_to (P := Tryd.prog) hY (by rw [hY]; simp; omega)
          have hZY : (Z == Y) = decide (lineL k c r = s) := by
            rw [hZ, hY, Bool.eq_iff_iff, beq_iff_eq, decide_eq_true_eq]
            exact List.append_left_inj _
          rw [← hZ] at q5
          rw [g5, ← hZY, Bool.true_and] at hDD
          clear hZ hY hZY
          cases g6 : (Z == Y) with
          | false =>
            have hn : Hid (decB k s = none) := Lib.hid (by rw [hDD.out, g6]; rfl)
            rw [hn.out]
            have HF : Hid (false = true → (none : Option (List UInt8 × List UInt8)) = some (c, r)) := Lib.hid (fun h => by cases h)
            clear hDD
            go_enter Tryd.func65, Tryd.ntmps65
            go_wp2_with (first | (go_at_call 72; refine (q1.out _).mono ?_; rintro e w1 ⟨rfl, m1, rfl⟩) | (go_at_call 64; first | (with_reducible refine (q2.out _).mono ?_; rintro e w2 ⟨g, n, cap, rfl, hn1, hn2, hn3, hg, hk2⟩) | (with_reducible refine (q3.out _).mono ?_; rintro e w3 ⟨g', n', cap', rfl, hn1', hn2', hn3', hg', hk3⟩; have kk := ((drewN_chg' _ m1).trans hk2).trans hk3)))
            have E0 := (Box2.new w3 (.string ⟨c.toArray⟩) (.string ⟨r.toArray⟩) 43)
            have kb := (Chg.refl No w3).alloc (.cells #[.string ⟨c.toArray⟩, .string ⟨r.toArray⟩] 43)
            have F0 := BX.out _ (kk.trans kb)
            have kall := kk.trans kb
            have hne : w.heap.size < w3.heap.size := (BX.out w3 kk).lt
            generalize w3.alloc (.cells #[.string ⟨c.toArray⟩, .string ⟨r.toArray⟩] 43) = W0 at E0 F0 kall ⊢
            obtain ⟨b1, hb1⟩ : ∃ b1, w3.heap.size = b1 := ⟨_, rfl⟩
            rw [hb1] at E0 hne ⊢
            refine wp_region_K (S := fun W => Box2 W b1 (.string ⟨c.toArray⟩) (.string ⟨r.toArray⟩)) (k := 12) (by kernel_rfl) ?_
            have hd := (Chg.refl No W0).drew
            have hS := E0.keep hd
            have F0 := F0.keep hd
            have kall := kall.keep hd
            clear E0
            generalize W0.drew = W1 at hS F0 kall ⊢
            clear hd
            refine wpAnyK_take 0 (.agg #[.string ⟨c.toArray⟩, .string ⟨r.toArray⟩]) rfl (by kernel_rfl) (fun _ _ _ h => h) hS rfl (by rintro w ⟨c0, c1, fr⟩; go_simp) ?_
            simp only [List.getElem_toArray, List.getElem_cons_zero, Act.put, List.setIfInBounds_toArray, List.set_cons_zero, List.set_cons_succ]
            refine wpAnyK_take 1 (.agg #[.string ⟨c.toArray⟩, .string ⟨r.toArray⟩]) rfl (by kernel_rfl) (fun _ _ _ h => h) hS rfl (by rintro w ⟨c0, c1, fr⟩; go_simp) ?_
            simp only [List.getElem_toArray, List.getElem_cons_succ, List.getElem_cons_zero, Act.put, List.setIfInBounds_toArray, List.set_cons_zero, List.set_cons_succ]
            refine wpAnyK_1 2 (by kernel_rfl) (wpOpK' rfl rfl ?_)
            intro K hK
            refine ocallR (f := 50) (args := #[.agg #[.string ⟨c.toArray⟩, .string ⟨r.toArray⟩]]) (by go_simp) (q4.out W1) (fun w4 h4 => hK.out _ _ (hS.keep h4) ?_)
            clear hK K
            simp only [List.getElem_toArray, List.getElem_cons_succ, List.getElem_cons_zero, Act.put, List.setIfInBounds_toArray, List.set_cons_zero, List.set_cons_succ]
            have hS := hS.keep h4
            have F0 := F0.keep h4
            have kall := kall.keep h4
            refine wpAnyK_take0 3 (.bool true) rfl (by kernel_rfl) (fun _ _ _ h => h) hS rfl (by intro w; go_simp) ?_
            simp only [List.getElem_toArray, List.getElem_cons_succ, List.getElem_cons_zero, Act.put, List.setIfInBounds_toArray, List.set_cons_zero, List.set_cons_succ]
            refine wpAnyK_takeG 4 (.int .i64 k) rfl (by kernel_rfl) (fun _ _ _ h => h) hS rfl (by rintro w ⟨c0, c1, fr⟩; go_simp) ?_
            simp only [List.getElem_toArray, List.getElem_cons_succ, List.getElem_cons_zero, Act.put, List.setIfInBounds_toArray, List.set_cons_zero, List.set_cons_succ]
            refine wpAnyK_takeG 5 (.agg #[.string ⟨c.toArray⟩, .string ⟨r.toArray⟩]) rfl (by kernel_rfl) (fun _ _ _ h => h) hS rfl (by rintro w ⟨c0, c1, fr⟩; go_simp) ?_
            simp only [List.getElem_toArray, List.getElem_cons_succ, List.getElem_cons_zero, Act.put, List.setIfInBounds_toArray, List.set_cons_zero, List.set_cons_succ]
            refine wpAnyK_takeG 7 (.string ⟨s.toArray⟩) rfl (by kernel_rfl) (fun _ _ _ h => h) hS rfl (by rintro w ⟨c0, c1, fr⟩; go_simp) ?_
            simp only [List.getElem_toArray, List.getElem_cons_succ, List.getElem_cons_zero, Act.put, List.setIfInBounds_toArray, List.set_cons_zero, List.set_cons_succ]
            refine wpAnyK_takeG 8 (.string ⟨Y.toArray⟩) rfl (by kernel_rfl) (fun _ _ _ h => h) hS rfl (by rintro w ⟨c0, c1, fr⟩; go_simp) ?_
            simp only [List.getElem_toArray, List.getElem_cons_succ, List.getElem_cons_zero, Act.put, List.setIfInBounds_toArray, List.set_cons_zero, List.set_cons_succ]
            refine wpAnyK_1 6 (by kernel_rfl) (wpOpG rfl rfl ?_)
            intro K hK
            refine ocallR (f := 51) (args := #[.int .i64 k, .agg #[.string ⟨c.toArray⟩, .string ⟨r.toArray⟩]]) (by go_simp) (q5.out w4) (fun w5 h5 => hK.out _ _ (hS.keep h5) ?_)
            clear hK K
            simp only [List.getElem_toArray, List.getElem_cons_succ, List.getElem_cons_zero, Act.put, List.setIfInBounds_toArray, List.set_cons_zero, List.set_cons_succ]
            have hS := hS.keep h5
            have F0 := F0.keep h5
            have kall := kall.keep h5
            refine wpAnyK_takeG 9 (.bool false) rfl (by kernel_rfl) (fun _ _ _ h => h) hS rfl (by rintro w ⟨c0, c1, fr⟩; go_simp) ?_
            simp only [List.getElem_toArray, List.getElem_cons_succ, List.getElem_cons_zero, Act.put, List.setIfInBounds_toArray, List.set_cons_zero, List.set_cons_succ]
            refine wpAnyK_take0 10 (.bool false) rfl (by kernel_rfl) (fun _ _ _ h => h) hS rfl (by intro w; go_simp) ?_
            simp only [List.getElem_toArray, List.getElem_cons_succ, List.getElem_cons_zero, Act.put, List.setIfInBounds_toArray, List.set_cons_zero, List.set_cons_succ]
            refine wpAnyK_1 11 (by kernel_rfl) (wpOpK' rfl rfl ?_)
            intro K hK
            obtain ⟨d0, d1, fr'⟩ := id F0
            have fr0 := fr' 0
            have fr1 := fr' 1
            clear fr'
            unfold Oper.wp execOp
            go_simp
            refine hK.out _ _ (hS.step ((Chg.refl (fun q => q = w.heap.size) w5).put2 (fun _ => rfl) _ _) (fun e => by omega)) ?_
            clear hK K hS
            obtain ⟨z0, z1, _⟩ := F0.put2 (.string ⟨c.toArray⟩) (.string ⟨r.toArray⟩)
            clear d0 d1 fr0 fr1
            simp only [List.setIfInBounds_toArray]
            refine wpAnyK_tail 12 rfl (by kernel_rfl) ?_
            simp only [List.drop_succ_cons, List.drop_zero]
            go_wp2_with fail
            refine bodyPost_ret (v := .tuple #[.agg #[.string ⟨c.toArray⟩, .string ⟨r.toArray⟩], .bool false]) (by simp [results, Tryd.results65, go_sem, z0, z1]) rfl ?_
            exact ⟨c, r, rfl, (fun h => by first | rfl | cases h), (k0.trans kall).put2 (fun h => absurd h (by omega)) _ _⟩
          | true =>
            have hn : Hid (decB k s = some (c, r)) := Lib.hid (by rw [hDD.out, g6]; rfl)
            rw [hn.out]
            have HF : Hid (true = true → (some (c, r) : Option (List UInt8 × List UInt8)) = some (c, r)) := Lib.hid (fun _ => rfl)
            clear hDD
            go_enter Tryd.func65, Tryd.ntmps65
            go_wp2_with (first | (go_at_call 72; refine (q1.out _).mono ?_; rintro e w1 ⟨rfl, m1, rfl⟩) | (go_at_call 64; first | (with_reducible refine (q2.out _).mono ?_; rintro e w2 ⟨g, n, cap, rfl, hn1, hn2, hn3, hg, hk2⟩) | (with_reducible refine (q3.out _).mono ?_; rintro e w3 ⟨g', n', cap', rfl, hn1', hn2', hn3', hg', hk3⟩; have kk := ((drewN_chg' _ m1).trans hk2).trans hk3)))
            have E0 := (Box2.new w3 (.string ⟨c.toArray⟩) (.string ⟨r.toArray⟩) 43)
            have kb := (Chg.refl No w3).alloc (.cells #[.string ⟨c.toArray⟩, .string ⟨r.toArray⟩] 43)
            have F0 := BX.out _ (kk.trans kb)
            have kall := kk.trans kb
            have hne : w.heap.size < w3.heap.size := (BX.out w3 kk).lt
            generalize w3.alloc (.cells #[.string ⟨c.toArray⟩, .string ⟨r.toArray⟩] 43) = W0 at E0 F0 kall ⊢
            obtain ⟨b1, hb1⟩ : ∃ b1, w3.heap.size = b1 := ⟨_, rfl⟩
            rw [hb1] at E0 hne ⊢
            refine wp_region_K (S := fun W => Box2 W b1 (.string ⟨c.toArray⟩) (.string ⟨r.toArray⟩)) (k := 12) (by kernel_rfl) ?_
            have hd := (Chg.refl No W0).drew
            have hS := E0.keep hd
            have F0 := F0.keep hd
            have kall := kall.keep hd
            clear E0
            generalize W0.drew = W1 at hS F0 kall ⊢
            clear hd
            refine wpAnyK_take 0 (.agg #[.string ⟨c.toArray⟩, .string ⟨r.toArray⟩]) rfl (by kernel_rfl) (fun _ _ _ h => h) hS rfl (by rintro w ⟨c0, c1, fr⟩; go_simp) ?_
            simp only [List.getElem_toArray, List.getElem_cons_zero, Act.put, List.setIfInBounds_toArray, List.set_cons_zero, List.set_cons_succ]
            refine wpAnyK_take 1 (.agg #[.string ⟨c.toArray⟩, .string ⟨r.toArray⟩]) rfl (by kernel_rfl) (fun _ _ _ h => h) hS rfl (by rintro w ⟨c0, c1, fr⟩; go_simp) ?_
            simp only [List.getElem_toArray, List.getElem_cons_succ, List.getElem_cons_zero, Act.put, List.setIfInBounds_toArray, List.set_cons_zero, List.set_cons_succ]
            refine wpAnyK_1 2 (by kernel_rfl) (wpOpK' rfl rfl ?_)
            intro K hK
            refine ocallR (f := 50) (args := #[.agg #[.string ⟨c.toArray⟩, .string ⟨r.toArray⟩]]) (by go_simp) (q4.out W1) (fun w4 h4 => hK.out _ _ (hS.keep h4) ?_)
            clear hK K
            simp only [List.getElem_toArray, List.getElem_cons_succ, List.getElem_cons_zero, Act.put, List.setIfInBounds_toArray, List.set_cons_zero, List.set_cons_succ]
            have hS := hS.keep h4
            have F0 := F0.keep h4
            have kall := kall.keep h4
            refine wpAnyK_take0 3 (.bool true) rfl (by kernel_rfl) (fun _ _ _ h => h) hS rfl (by intro w; go_simp) ?_
            simp only [List.getElem_toArray, List.getElem_cons_succ, List.getElem_cons_zero, Act.put, List.setIfInBounds_toArray, List.set_cons_zero, List.set_cons_succ]
            refine wpAnyK_takeG 4 (.int .i64 k) rfl (by kernel_rfl) (fun _ _ _ h => h) hS rfl (by rintro w ⟨c0, c1, fr⟩; go_simp) ?_
            simp only [List.getElem_toArray, List.getElem_cons_succ, List.getElem_cons_zero, Act.put, List.setIfInBounds_toArray, List.set_cons_zero, List.set_cons_succ]
            refine wpAnyK_takeG 5 (.agg #[.string ⟨c.toArray⟩, .string ⟨r.toArray⟩]) rfl (by kernel_rfl) (fun _ _ _ h => h) hS rfl (by rintro w ⟨c0, c1, fr⟩; go_simp) ?_
            simp only [List.getElem_toArray, List.getElem_cons_succ, List.getElem_cons_zero, Act.put, List.setIfInBounds_toArray, List.set_cons_zero, List.set_cons_succ]
            refine wpAnyK_takeG 7 (.string ⟨s.toArray⟩) rfl (by kernel_rfl) (fun _ _ _ h => h) hS rfl (by rintro w ⟨c0, c1, fr⟩; go_simp) ?_
            simp only [List.getElem_toArray, List.getElem_cons_succ, List.getElem_cons_zero, Act.put, List.setIfInBounds_toArray, List.set_cons_zero, List.set_cons_succ]
            refine wpAnyK_takeG 8 (.string ⟨Y.toArray⟩) rfl (by kernel_rfl) (fun _ _ _ h => h) hS rfl (by rintro w ⟨c0, c1, fr⟩; go_simp) ?_
            simp only [List.getElem_toArray, List.getElem_cons_succ, List.getElem_cons_zero, Act.put, List.setIfInBounds_toArray, List.set_cons_zero, List.set_cons_succ]
            refine wpAnyK_1 6 (by kernel_rfl) (wpOpG rfl rfl ?_)
            intro K hK
            refine ocallR (f := 51) (args := #[.int .i64 k, .agg #[.string ⟨c.toArray⟩, .string ⟨r.toArray⟩]]) (by go_simp) (q5.out w4) (fun w5 h5 => hK.out _ _ (hS.keep h5) ?_)
            clear hK K
            simp only [List.getElem_toArray, List.getElem_cons_succ, List.getElem_cons_zero, Act.put, List.setIfInBounds_toArray, List.set_cons_zero, List.set_cons_succ]
            have hS := hS.keep h5
            have F0 := F0.keep h5
            have kall := kall.keep h5
            refine wpAnyK_takeG 9 (.bool true) rfl (by kernel_rfl) (fun _ _ _ h => h) hS rfl (by rintro w ⟨c0, c1, fr⟩; go_simp) ?_
            simp only [List.getElem_toArray, List.getElem_cons_succ, List.getElem_cons_zero, Act.put, List.setIfInBounds_toArray, List.set_cons_zero, List.set_cons_succ]
            refine wpAnyK_take0 10 (.bool true) rfl (by kernel_rfl) (fun _ _ _ h => h) hS rfl (by intro w; go_simp) ?_
            simp only [List.getElem_toArray, List.getElem_cons_succ, List.getElem_cons_zero, Act.put, List.setIfInBounds_toArray, List.set_cons_zero, List.set_cons_succ]
            refine wpAnyK_1 11 (by kernel_rfl) (wpOpK' rfl rfl ?_)
            intro K hK
            obtain ⟨d0, d1, fr'⟩ := id F0
            have fr0 := fr' 0
            have fr1 := fr' 1
            clear fr'
            unfold Oper.wp execOp
            go_simp
            refine hK.out _ _ (hS.step ((Chg.refl (fun q => q = w.heap.size) w5).put2 (fun _ => rfl) _ _) (fun e => by omega)) ?_
            clear hK K hS
            obtain ⟨z0, z1, _⟩ := F0.put2 (.string ⟨c.toArray⟩) (.string ⟨r.toArray⟩)
            clear d0 d1 fr0 fr1
            simp only [List.setIfInBounds_toArray]
            refine wpAnyK_tail 12 rfl (by kernel_rfl) ?_
            simp only [List.drop_succ_cons, List.drop_zero]
            go_wp2_with fail
            refine bodyPost_ret (v := .tuple #[.agg #[.string ⟨c.toArray⟩, .string ⟨r.toArray⟩], .bool true]) (by simp [results, Tryd.results65, go_sem, z0, z1]) rfl ?_
            exact ⟨c, r, rfl, (fun h => by first | rfl | cases h), (k0.trans kall).put2 (fun h => absurd h (by omega)) _ _⟩
      · have g4' : ((preB 64 u).length : Int) = (u.length : Int) := by rw [(pre_all 64 u g4).1]
        have hn : Hid (decB k s = none) := Lib.hid (by rw [hDD.out, hasL, decide_eq_false g4]; rfl)
        rw [hn.out]
        obtain ⟨c, hc⟩ : ∃ c, c = preB 64 u := ⟨_, rfl⟩
        rw [← hc] at q3 g4'
        clear hDD hc hcl
        go_enter Tryd.func65, Tryd.ntmps65
        go_wp2_with (first | (go_at_call 72; refine (q1.out _).mono ?_; rintro e w1 ⟨rfl, m1, rfl⟩) | (go_at_call 64; first | (with_reducible refine (q2.out _).mono ?_; rintro e w2 ⟨g, n, cap, rfl, hn1, hn2, hn3, hg, hk2⟩) | (with_reducible refine (q3.out _).mono ?_; rintro e w3 ⟨g', n', cap', rfl, hn1', hn2', hn3', hg', hk3⟩; have kk := ((drewN_chg' _ m1).trans hk2).trans hk3; obtain ⟨c0, c1, fr⟩ := BX.out w3 kk)))
        obtain ⟨z0, z1, _⟩ := (BX.out w3 kk).put2 (.string ⟨#[]⟩) (.string ⟨#[]⟩)
        refine bodyPost_ret (v := .tuple #[.agg #[.string ⟨#[]⟩, .string ⟨#[]⟩], .bool false]) (by simp [results, Tryd.results65, go_sem, z0, z1]) rfl ?_
        exact ⟨[], [], rfl, (fun h => by cases h), (k0.trans kk).put2 (fun h => absurd h (by omega)) _ _⟩

end Go.Proofs.YtmnohickmidfkaaDoor
