import Derived.Test.YtmnohickmidfkaaDoorYi
/- a log opened by the reference -/
namespace Go.Proofs.YtmnohickmidfkaaDoor
open Go.RowKit

theorem elRec : El 46 43 (.agg #[.string ByteArray.empty, .string ByteArray.empty]) 2 32 := El.mk' Tryd.underlying46 (by kernel_rfl) rfl (by decide)
theorem open_end {s : List UInt8} {D : List (List UInt8 × List UInt8 × Nat)} {n k base : Nat} {cs : List Value} {v : Value} {w W : World} (HE : openB 60 0 s = D) (hn : D.length = n) (hk : lenB D = k) (hc : recC D = cs)
    (ho : OS 43 2 base W v n cs) (hch : Chg No w W) :
    ∃ v', Ending.returned (.tuple #[v, .int .i64 (k : Int)]) = .returned (.tuple #[v', .int .i64 (lenB (openB 60 0 s))]) ∧ OS 43 2 base W v' (openB 60 0 s).length (recC (openB 60 0 s)) ∧ Chg No w W := by
  subst hn hk hc
  rw [HE]
  exact ⟨v, rfl, ho, hch⟩
set_option maxRecDepth 100000 in
set_option maxHeartbeats 2000000 in
theorem l12Open_any (s : List UInt8) (w : World) (hs : s.length ≤ 1048576) :
    Calls Tryd.prog 44 #[.string ⟨s.toArray⟩] w fun e w' => ∃ v, e = .returned (.tuple #[v, .int .i64 (lenB (openB 60 0 s))]) ∧ OS 43 2 w.heap.size w' v (openB 60 0 s).length (recC (openB 60 0 s)) ∧ Chg No w w' := by
  go_enter Tryd.func44, Tryd.ntmps44
  go_wp2_with fail
  go_loopw [4, 5] (fun o a wr => ∃ (D R : List (List UInt8 × List UInt8 × Nat)), Hid (Opened s D R) ∧ a = .int .i64 (lenB D) ∧ OS 43 2 w.heap.size wr o D.length (recC D) ∧ Chg No w wr) (fun _ a _ => s.length - (intOf a).toNat)
  case atStart => exact ⟨[], openB 60 0 s, Lib.hid (Opened.zero s), rfl, OS.zero (Nat.le_refl _), (Chg.refl No w).alloc _⟩
  case round =>
    obtain ⟨D, R, HO, rfl, ho, hch⟩ := hrel
    have hle := HO.out.le
    have hn60 := HO.out.n
    obtain ⟨n, hn⟩ : ∃ n, D.length = n := ⟨_, rfl⟩
    obtain ⟨k, hk⟩ : ∃ k, lenB D = k := ⟨_, rfl⟩
    obtain ⟨cs, hcs⟩ : ∃ cs, recC D = cs := ⟨_, rfl⟩
    have HN := Lib.hid hn
    have HK := Lib.hid hk
    have HC := Lib.hid hcs
    rw [hn, hcs] at ho
    rw [hn] at hn60
    rw [hk] at hle ⊢
    clear hn hk hcs
    obtain ⟨oa, oc, rfl, _⟩ := ho.view
    by_cases hlt : k < s.length
    · by_cases h60 : n < 60
      · obtain ⟨t, ht⟩ : ∃ t, t = s.drop k := ⟨_, rfl⟩
        have htl : t.length ≤ s.length := by rw [ht, List.length_drop]; omega
        have HT := Lib.hid ht
        have hsl : ∀ W, (Instr.slice 9 (.string ⟨s.toArray⟩) (some (.int .i64 (k : Int))) none none).run Tryd.prog W = .ok (.string ⟨t.toArray⟩) W := fun W => by
          have hsz : (⟨s.toArray⟩ : ByteArray).size = s.length := by simp [ByteArray.size]
          rw [run_slice_string_from_if _ _ _ _ _ Tryd.underlying9, if_pos ⟨by omega, by rw [hsz]; omega⟩, ByteArray.extract_mk, ht, hsz]
          have : ((s.drop (k : Int).toNat).take (s.length - (k : Int).toNat)) = s.drop k := by
            rw [List.take_of_length_le (by rw [List.length_drop]; exact Nat.le_refl _)]
            simp
          rw [this]
        have q1 := Lib.hid (fun W => l1Split_any t 10 W (by omega))
        have hpl := pre_le 10 t
        obtain ⟨p, hp⟩ : ∃ p, p = preB 10 t := ⟨_, rfl⟩
        have HP := Lib.hid hp
        rw [← hp] at hpl
        rw [← hp] at q1
        have q2 := Lib.hid (fun W => l12Decode_any n p W h60 (by omega))
        obtain ⟨db, hdb⟩ : ∃ db, (decB n p).isSome = db := ⟨_, rfl⟩
        rw [hdb] at q2
        unfold rv at q2
        have HD := Lib.hid hdb
        clear ht hp hdb
        have ho2 : Hid (∀ W1 W2, Chg No wr W1 → Chg No W1 W2 → OS 43 2 w.heap.size W2 (.slice oa n oc) n cs) := Lib.hid (fun W1 W2 h1 h2 => (ho.keep h1).keep h2)
        have hsz := hch.size
        by_cases h10 : (10 : UInt8) ∈ t
        · cases db with
          | false =>
            have HE : Hid (openB 60 0 s = D) := Lib.hid (HO.out.none_ (by
              rw [HK.out, HN.out, ← HT.out, ← HP.out]
              have := HD.out
              cases hd : decB n p with
              | none => rfl
              | some x => rw [hd] at this; cases this))
            go_wp2_with (first | (go_at_call 64; refine (q1.out _).mono ?_; rintro e w1 ⟨g, m, cap, rfl, hm1, hm2, hm3, hg0, hg1, hg, hm, hk1⟩; have hm4 := hm.2 h10; clear hm) | (go_at_call 65; refine (q2.out _).mono ?_; rintro e w2 ⟨c, r, rfl, hdc, hk2⟩; obtain ⟨c0, c1, fr⟩ := Box2.new w2 (.string ByteArray.empty) (.string ByteArray.empty) 43; clear hdc))
            go_ret2
            exact open_end (v := .slice oa n oc) HE.out HN.out HK.out HC.out ((ho2.out _ _ hk1 hk2).alloc _) ((hch.trans (hk1.trans hk2)).alloc _)
          | true =>
            go_wp2_with (first | (go_at_call 64; refine (q1.out _).mono ?_; rintro e w1 ⟨g, m, cap, rfl, hm1, hm2, hm3, hg0, hg1, hg, hm, hk1⟩; have hm4 := hm.2 h10; clear hm) | (go_at_call 65; refine (q2.out _).mono ?_; rintro e w2 ⟨c, r, rfl, hdc, hk2⟩; obtain ⟨c0, c1, fr⟩ := Box2.new w2 (.string ByteArray.empty) (.string ByteArray.empty) 43; have HD2 := Lib.hid (hdc trivial); clear hdc; have hs2 := hk1.size; have hs3 := hk2.size) | (at_builtin; refine wappS1 elRec (by omega) rfl (.tmp 39) (.tmp 41) rfl ((ho2.out _ _ hk1 hk2).alloc (.cells #[.string ⟨c.toArray⟩, .string ⟨r.toArray⟩] 43)) rfl (by simp [Value.oneCell']) rfl (by rw [World.size_alloc]; rfl) (by omega) (by simp; omega) ?_))
            intro v1 w3 o1 k3 f3
            obtain ⟨a1, q1', rfl, _⟩ := o1.view
            have kk := ((hk1.trans hk2).alloc (.cells #[.string ⟨c.toArray⟩, .string ⟨r.toArray⟩] 43))
            have hng : ¬ own (.slice oa n oc) g := fun h => by have := (ho.lt g h).2; omega
            have hg3 := ((k3.cellD g 0 (by simp; omega) hng).trans (((hk2.alloc (.cells #[.string ⟨c.toArray⟩, .string ⟨r.toArray⟩] 43)).cellD g 0 hg1 (fun e => e)).trans hg))
            have hch1 := (hch.trans kk).step k3 (fun q hq hl => by have := (ho.lt q hq).1; omega)
            clear hg c0 c1 fr
            go_wp2_with fail
            have HT2 := HT.out
            have hnx := HO.out.next (c := c) (r := r) (by rw [HK.out, ← HT2]; exact h10) (by rw [HK.out, HN.out, ← HT2, ← HP.out]; exact HD2.out)
            obtain ⟨R', hnx⟩ := hnx
            rw [HK.out, ← HT2, ← HP.out] at hnx
            refine ⟨⟨_, R', Lib.hid hnx, ?_, ?_, hch1⟩, ?_⟩
            · rw [lenB_snoc, HK.out]
              go_num
            · rw [List.length_append, HN.out, recC_snoc, HC.out]
              exact o1
            · simp [intOf]; omega
        · have HE := Lib.hid (HO.out.notin (by rw [HK.out, ← HT.out]; exact h10))
          cases db with
          | false =>
            go_wp2_with (first | (go_at_call 64; refine (q1.out _).mono ?_; rintro e w1 ⟨g, m, cap, rfl, hm1, hm2, hm3, hg0, hg1, hg, hm, hk1⟩; have hm4 : m < 2 := Nat.lt_of_not_le (fun h => h10 (hm.1 h)); clear hm) | (go_at_call 65; refine (q2.out _).mono ?_; rintro e w2 ⟨c, r, rfl, hdc, hk2⟩; obtain ⟨c0, c1, fr⟩ := Box2.new w2 (.string ByteArray.empty) (.string ByteArray.empty) 43; clear hdc))
            go_ret2
            exact open_end (v := .slice oa n oc) HE.out HN.out HK.out HC.out ((ho2.out _ _ hk1 hk2).alloc _) ((hch.trans (hk1.trans hk2)).alloc _)
          | true =>
            go_wp2_with (first | (go_at_call 64; refine (q1.out _).mono ?_; rintro e w1 ⟨g, m, cap, rfl, hm1, hm2, hm3, hg0, hg1, hg, hm, hk1⟩; have hm4 : m < 2 := Nat.lt_of_not_le (fun h => h10 (hm.1 h)); clear hm) | (go_at_call 65; refine (q2.out _).mono ?_; rintro e w2 ⟨c, r, rfl, hdc, hk2⟩; obtain ⟨c0, c1, fr⟩ := Box2.new w2 (.string ByteArray.empty) (.string ByteArray.empty) 43; clear hdc))
            go_ret2
            exact open_end (v := .slice oa n oc) HE.out HN.out HK.out HC.out ((ho2.out _ _ hk1 hk2).alloc _) ((hch.trans (hk1.trans hk2)).alloc _)
      · have HE := Lib.hid (HO.out.full (by rw [HN.out]; omega))
        go_wp2_with fail
        go_ret2
        exact open_end (v := .slice oa n oc) HE.out HN.out HK.out HC.out ho hch
    · have HE := Lib.hid (HO.out.past (by rw [HK.out]; omega))
      go_wp2_with fail
      go_ret2
      exact open_end (v := .slice oa n oc) HE.out HN.out HK.out HC.out ho hch
end Go.Proofs.YtmnohickmidfkaaDoor
