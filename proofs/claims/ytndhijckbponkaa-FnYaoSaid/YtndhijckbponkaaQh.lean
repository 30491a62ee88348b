import Derived.Test.YtndhijckbponkaaQf
/- weights and a state drawn -/
namespace Go.Proofs.Ytndhijckbponkaa
open Go.RowKit

set_option maxRecDepth 100000 in
set_option maxHeartbeats 2000000 in
theorem weights11_any (b B K many : Nat) (c : Int) (w : World) (h : Cur w b B K) (hB : B ≤ w.heap.size) (hm : many ≤ 100) (hK : K ≤ 4000000000000000) :
    Calls Try.prog 47 #[.pointer (some ⟨b, 0, none⟩), .int .i64 (many : Int), .int .i64 c] w fun e w' => ∃ (v : Value) (l : List Int), e = .returned v ∧ OI w.heap.size w' v l ∧ l.length ≤ many + 1 ∧ Cur w' b B (K + 2 * many + 10) ∧ Chg (fun q => q = b) w w' := by
  have hb := h.lt
  have hbB := h.ltB
  have h0 := OI.zero (base := w.heap.size) (w := w) (Nat.le_refl _)
  have ka := (Chg.refl (fun q => q = b) w).alloc (.cells #[] 3)
  have hca := h.keep ((Chg.refl No w).alloc (.cells #[] 3))
  obtain ⟨wo, hwo⟩ : ∃ wo : World, wo = w := ⟨_, rfl⟩
  go_enter Try.func47, Try.ntmps47
  go_wp2_with fail
  rw [← hwo] at h0 ka hca hB hb ⊢
  have HWO := Lib.hid hwo
  clear hwo h
  go_loopw [7, 8] (fun o z wr => ∃ (j : Nat) (l : List Int), j ≤ many ∧ z = .int .i64 (j : Int) ∧ l.length = j ∧ OI wo.heap.size wr o l ∧ Cur wr b B (K + 2 * j) ∧ Chg (fun q => q = b) wo wr) (fun _ z _ => many - (intOf z).toNat)
  case atStart => exact ⟨0, [], Nat.zero_le _, rfl, rfl, h0, hca, ka⟩
  case round =>
    clear h0 ka hca
    obtain ⟨j, l, hj, rfl, hlj, ho, hcu, hch⟩ := hrel
    have hj0 : (0 : Int) ≤ (j : Int) := Int.natCast_nonneg _
    by_cases hlt : j < many
    · have hj1 : (j : Int) < (many : Int) := by omega
      have hwj : IntKind.i64.wrap ((j : Int) + 1) = (j : Int) + 1 := IntWalk.i64_in _ (by omega)
      go_wp2_with fail
      refine (among_lit b B (K + 2 * j) wr [1, 1, 2, 3, 5, 9, c] _ _ _ _ _ rfl rfl rfl rfl hcu (by omega) (by simp) (by simp)).mono ?_
      rintro e w9 ⟨y, rfl, hy, hc9, k9⟩
      have hl9 : l.length < 17592186044416 := by omega
      have ho9 := ho.step k9 (fun q hq e => by have := (ho.lt q hq).1; omega)
      have hch9 := hch.trans k9
      have hz9 := hch9.size
      have HLJ := Lib.hid hlj
      clear hy k9 hcu hch ho hlj
      go_wp2_with (at_builtin; refine wapp1 rfl (.tmp 15) (.tmp 20) rfl ho9 rfl rfl hl9 hz9 ?_)
      intro v2 w2 h2 k2 f2
      have hch10 := hch9.own k2 ho9 (Nat.le_refl _)
      have hc10 := hc9.step k2 (fun q hq => by have := (ho9.lt q hq).1; omega)
      clear ho9 hch9 k2 f2 hc9
      go_wp2_with fail
      go_round
      case rel => exact ⟨j + 1, l ++ [y], by omega, by go_num, by rw [List.length_append, HLJ.out]; rfl, h2, hc10.more (by omega), hch10⟩
      case measure => simp [intOf]; omega
    · have hje : j = many := by omega
      subst hje
      go_wp2_with fail
      refine (pick_any b B (K + 2 * j) 32 wr hcu (by omega) (by omega)).mono ?_
      rintro e w9 ⟨x, rfl, _, _, _, hc9, k9⟩
      have ho9 := ho.step k9 (fun q hq e => by have := (ho.lt q hq).1; omega)
      have hch9 := hch.trans k9
      have hz9 := hch9.size
      have hl9 : l.length < 17592186044416 := by omega
      have HLJ := Lib.hid hlj
      clear k9 hcu hch ho hlj
      by_cases h0 : x = 0
      · subst h0
        go_wp2_with (at_builtin; refine wapp1 rfl (.tmp 26) (.tmp 27) rfl ho9 rfl rfl hl9 hz9 ?_)
        intro v2 w2 h2 k2 f2
        have hch10 := hch9.own k2 ho9 (Nat.le_refl _)
        have hc10 := hc9.step k2 (fun q hq => by have := (ho9.lt q hq).1; omega)
        clear ho9 hch9 k2 f2 hc9
        go_wp2_with fail
        go_ret
        rw [← HWO.out]
        exact ⟨_, _, rfl, h2, by rw [List.length_append, HLJ.out]; simp, hc10.more (by omega), hch10⟩
      · by_cases h1 : x = 1
        · subst h1
          obtain ⟨oa, oc, rfl, hle, hle2, hcl⟩ := ho9.view
          by_cases hp : 0 < l.length
          · obtain ⟨g, rfl, hgR, hgl, hcell, hfr⟩ := hcl (by omega)
            have hp1 : (0 : Int) < (l.length : Int) := by omega
            clear hcl
            go_wp2_with fail
            refine (among_lit b B (K + 2 * j + 2) w9 [0, -1, 10] _ _ _ _ _ rfl rfl rfl rfl hc9 (by omega) (by decide) (by decide)).mono ?_
            rintro e w10 ⟨y, rfl, hy, hc10, k10⟩
            have ho10 := ho9.step k10 (fun q hq e => by have := (ho9.lt q hq).1; omega)
            have hci := (k10.cellD g 0 hgl (by omega)).trans (hcell 0 hp)
            have hfi := (k10.frozenD g 0 hgl (by omega)).trans (hfr 0)
            obtain ⟨hst, kst⟩ := ho10.store 0 y
            have hch10 := hch9.trans k10
            have hch11 := hch10.step kst (fun q e hlt => by omega)
            have hc11 := hc10.step kst (fun q e => by omega)
            clear hcell hfr hy ho9 ho10 hch9 hch10 hc9 hc10 k10 kst
            go_wp2_with fail
            go_ret
            rw [← HWO.out]
            exact ⟨_, _, rfl, hst, by rw [List.length_set, HLJ.out]; omega, hc11.more (by omega), hch11⟩
          · have hp1 : ¬ (0 : Int) < (l.length : Int) := by omega
            clear hcl
            go_wp2_with fail
            go_ret
            rw [← HWO.out]
            exact ⟨_, _, rfl, ho9, by rw [HLJ.out]; omega, hc9.more (by omega), hch9⟩
        · go_wp2_with fail
          go_ret
          rw [← HWO.out]
          exact ⟨_, _, rfl, ho9, by rw [HLJ.out]; omega, hc9.more (by omega), hch9⟩
end Go.Proofs.Ytndhijckbponkaa
