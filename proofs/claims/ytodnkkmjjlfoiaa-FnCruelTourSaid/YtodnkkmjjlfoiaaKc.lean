import Derived.Test.YtodnkkmjjlfoiaaKa
import Derived.Test.YtodnkkmjjlfoiaaKb
import Derived.Test.YtodnkkmjjlfoiaaBu
/- FnCruelTour: the law -/
namespace Go.Proofs.Ytodnkkmjjlfoiaa
open Go.RowKit

set_option maxRecDepth 100000 in
set_option maxHeartbeats 400000 in
theorem law_FnCruelTour (v : Value) (N : Nat) (w : World) (h : Code w v N) :
    Calls Try.prog 3 #[v] w fun e w' => e = .returned (.bool true) ∧ Chg No w w' := by
  obtain ⟨a, cp, rfl⟩ := h.shape
  go_enter Try.func3, Try.ntmps3
  go_wp2_with fail
  refine (vBig_any _ _ _ h).mono ?_
  rintro e w' ⟨rfl, rfl⟩
  by_cases hbig : (65536 : Int) < (N : Int)
  · go_wp2_with fail
    go_ret
    exact ⟨rfl, Chg.refl No _⟩
  · obtain ⟨l, hll, hl⟩ := h.list
    have a1 := atC_in hl 1
    have a2 := atC_in hl 2
    have a3 := atC_in hl 3
    have a4 := atC_in hl 4
    have v1 : Calls Try.prog 5 #[.slice a N cp, .int .i64 1] w' fun e w'' => e = .returned (.int .i64 (atC l 1)) ∧ w' = w'' := vAt_any _ l 1 w' hl (by omega) (by omega)
    have v2 : Calls Try.prog 5 #[.slice a N cp, .int .i64 2] w' fun e w'' => e = .returned (.int .i64 (atC l 2)) ∧ w' = w'' := vAt_any _ l 2 w' hl (by omega) (by omega)
    have v3 : Calls Try.prog 5 #[.slice a N cp, .int .i64 3] w' fun e w'' => e = .returned (.int .i64 (atC l 3)) ∧ w' = w'' := vAt_any _ l 3 w' hl (by omega) (by omega)
    have v4 : Calls Try.prog 5 #[.slice a N cp, .int .i64 4] w' fun e w'' => e = .returned (.int .i64 (atC l 4)) ∧ w' = w'' := vAt_any _ l 4 w' hl (by omega) (by omega)
    generalize atC l 1 = x1 at a1 v1
    generalize atC l 2 = x2 at a2 v2
    generalize atC l 3 = x3 at a3 v3
    generalize atC l 4 = x4 at a4 v4
    have V1 := Lib.hid v1
    have V2 := Lib.hid v2
    have V3 := Lib.hid v3
    have V4 := Lib.hid v4
    clear v1 v2 v3 v4 hl hll h
    go_wp2_with (go_at_call 5; (first | with_reducible refine V1.out.mono ?_ | with_reducible refine V2.out.mono ?_ | with_reducible refine V3.out.mono ?_ | with_reducible refine V4.out.mono ?_); rintro e w'' ⟨rfl, hww⟩; subst hww)
    have hp : 1 ≤ 1 + x1 % 7 ∧ 1 + x1 % 7 ≤ 7 := by omega
    have hk : 1 ≤ 1 + x2 % 6 ∧ 1 + x2 % 6 ≤ 6 := by omega
    have hm : 1 ≤ 1 + x3 % 24 ∧ 1 + x3 % 24 ≤ 24 := by omega
    have hi : 1 + x2 % 6 < 1 + x2 % 6 + 1 + x4 % 2 ∧ 1 + x2 % 6 + 1 + x4 % 2 ≤ 8 := by omega
    clear V1 V2 V3 V4
    generalize 1 + x1 % 7 = p at hp ⊢
    generalize 1 + x2 % 6 = k at hk hi ⊢
    generalize 1 + x3 % 24 = m at hm ⊢
    generalize k + 1 + x4 % 2 = it at hi ⊢
    refine (implNewTour_any it w' (inB_iff.2 (by omega))).mono ?_
    rintro e w2 ⟨_, _, rfl, rfl, rfl, k2⟩
    have hs2 := k2.size
    have b0 := Box3.new w2 (.int .i64 it) (.slice none 0 0) (.slice none 0 0) 28
    replace k2 := k2.alloc (.cells #[.int .i64 it, .slice none 0 0, .slice none 0 0] 28)
    obtain ⟨c0, c1, c2, _⟩ := id b0
    have B0 := Lib.hid b0
    clear b0
    go_wp2_with fail
    clear c0 c1 c2
    generalize w2.alloc (.cells #[.int .i64 it, .slice none 0 0, .slice none 0 0] 28) = W3 at k2 B0 ⊢
    generalize w2.heap.size = X at hs2 B0 ⊢
    have bB := B0.out
    have hX := bB.lt
    have q1 := implStep_any _ (bareT it) 1 p k W3 (bare_rt it W3) true (bare_join (by omega) hp hk).1 (oneT it p k) (bare_join (by omega) hp hk).2
    unfold stV at q1
    refine q1.mono ?_
    rintro e w4 ⟨v4, _, rfl, rfl, hTA, k4⟩
    clear q1
    obtain ⟨iN, p1, p2, p3, r1, r2, r3, rfl, hTN⟩ := hTA.put3 (b := X) hX
    replace bB := bB.keep k4
    replace k2 := k2.keep k4
    have kN := k2.put3 (b := X) (fun h => by omega) (.int .i64 iN) (.slice p1 p2 p3) (.slice r1 r2 r3)
    have bN := ((bB.set0 (.int .i64 iN)).set1 (.slice p1 p2 p3)).set2 (.slice r1 r2 r3)
    obtain ⟨c0, c1, c2, cf⟩ := id bB
    have cf0 := cf 0
    have cf1 := cf 1
    have cf2 := cf 2
    clear cf
    obtain ⟨z0, z1, z2, _⟩ := id bN
    have HN := Lib.hid (And.intro kN (And.intro bN hTN))
    clear k2 bB kN bN hTA hTN k4 B0
    go_wp2_with fail
    clear c0 c1 c2 cf0 cf1 cf2 z0 z1 z2
    generalize ((w4.setCell ⟨X, 0, none⟩ (.int .i64 iN)).setCell ⟨X, 1, none⟩ (.slice p1 p2 p3)).setCell ⟨X, 2, none⟩ (.slice r1 r2 r3) = W5 at HN ⊢
    obtain ⟨k5, b5, t5⟩ := HN.out
    clear HN
    have hX5 := b5.lt
    have q2 := implStep_any _ (oneT it p k) 6 0 m W5 (t5.rt (by show 1 ≤ 1048576; omega) (fun _ _ e => e)) true (one_cruel (by omega) hp hk (by omega) (by omega)).1 (cruT it p k m.toNat) (one_cruel (by omega) hp hk (by omega) (by omega)).2
    unfold stV at q2
    refine q2.mono ?_
    rintro e w6 ⟨v6, _, rfl, rfl, hTA, k6⟩
    clear q2 t5
    obtain ⟨iM, p1', p2', p3', r1', r2', r3', rfl, hTN⟩ := hTA.put3 (b := X) hX5
    replace b5 := b5.keep k6
    replace k5 := k5.keep k6
    have kN := k5.put3 (b := X) (fun h => by omega) (.int .i64 iM) (.slice p1' p2' p3') (.slice r1' r2' r3')
    have bN := ((b5.set0 (.int .i64 iM)).set1 (.slice p1' p2' p3')).set2 (.slice r1' r2' r3')
    obtain ⟨c0, c1, c2, cf⟩ := id b5
    have cf0 := cf 0
    have cf1 := cf 1
    have cf2 := cf 2
    clear cf
    obtain ⟨z0, z1, z2, _⟩ := id bN
    have HN := Lib.hid (And.intro kN hTN)
    clear k5 b5 kN bN hTA hTN k6
    go_wp2_with fail
    clear c0 c1 c2 cf0 cf1 cf2 z0 z1 z2
    generalize ((w6.setCell ⟨X, 0, none⟩ (.int .i64 iM)).setCell ⟨X, 1, none⟩ (.slice p1' p2' p3')).setCell ⟨X, 2, none⟩ (.slice r1' r2' r3') = W7 at HN ⊢
    obtain ⟨k7, t7⟩ := HN.out
    clear HN
    obtain ⟨e1, e2, e3⟩ := cru_acc (it := it) (p := p) (k := k) (m := m) (by omega) hp hk (by omega) (by omega)
    have hfew := cru_few (it := it) (p := p) (k := k) (m := m) (by omega) hp hk (by omega) (by omega)
    refine (implAccount_any _ (cruT it p k m.toNat) W7 (t7.rt (by show 1 ≤ 1048576; omega) (fun _ _ e => e))).mono ?_
    rintro e w8 ⟨v8, _, rfl, rfl, hO, k8⟩
    rw [e2, e3] at hO
    generalize fewT (cruT it p k m.toNat) 0 = fw at hfew hO
    obtain ⟨a8, c8, rfl, _, _, _, _, hcell⟩ := hO.readNo
    obtain ⟨b8, o8, rfl, _, _, hc8⟩ := hcell (by omega)
    have g0 : w8.cell? ⟨b8, o8, none⟩ = some (.int .i64 m) := hc8 0 (by simp)
    have g1 : w8.cell? ⟨b8, o8 + 1, none⟩ = some (.int .i64 fw) := hc8 1 (by simp)
    have HE := Lib.hid e1
    have HF := Lib.hid hfew
    have HK := Lib.hid (k7.keep k8)
    rw [e1]
    clear hcell hc8 hO e1 e2 e3 t7 k7 k8 hfew
    go_wp2_with fail
    have hdc : Hid (decide (fw ≤ wrap64 (k + (m + k - 1) / k)) = true) := Lib.hid (by
      have h1 : 0 ≤ (m + k - 1) / k := Int.ediv_nonneg (by omega) (by omega)
      have h2 : (m + k - 1) / k ≤ m + k - 1 := Int.ediv_le_self _ (by omega)
      have h3 := HF.out.2
      generalize (m + k - 1) / k = d at h1 h2 h3 ⊢
      have h4 : wrap64 (k + d) = k + d := IntWalk.wrap64_in _ (by omega)
      rw [h4, decide_eq_true_eq]
      exact h3)
    go_quiet (fail)
    rw [hdc.out]
    go_wp2_with fail
    go_ret
    exact ⟨rfl, HK.out.keep ((Chg.refl No _).drewN _)⟩
end Go.Proofs.Ytodnkkmjjlfoiaa
