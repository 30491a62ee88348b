import Derived.Test.YtndhijckbponkaaGreatDoorD
namespace Go.Proofs.YtndhijckbponkaaGreatDoor
open Go.RowKit

set_option maxRecDepth 100000 in
set_option maxHeartbeats 1000000 in
theorem l4Fault_6 (A : Nat → Prop) (v : Value) (k : Int) (ps ms : List Int) (hd x : Int) (w : World) (hv : RC A w v ⟨6, k, ps, ms, hd⟩) (hA : Bd A w) (hok : Ok ⟨6, k, ps, ms, hd⟩) :
    Calls Tryz.prog 168 #[v, .int .i64 x] w (Ret fun v' w' => RC A w' v' (faultC ⟨6, k, ps, ms, hd⟩ x) ∧ Chg No w w') := by
  have e : faultC ⟨6, k, ps, ms, hd⟩ x = clockC ⟨6, k, ps, ms, hd⟩ x := by simp [faultC]
  rw [e]; clear e
  obtain ⟨c', hc'⟩ : ∃ c', clockC ⟨6, k, ps, ms, hd⟩ x = c' := ⟨_, rfl⟩
  have hs := hok.size
  have hl := hok.len
  have hm := hok.marks (.inr rfl)
  simp only at hs hl hm
  have hc : ∀ A' W v, RC A' W v ⟨6, k, ps, ms, hd⟩ → Bd A' W → Calls Tryz.prog 190 #[v, .int .i64 x] W (Ret fun v' w' => RC A' w' v' c' ∧ Chg No W w') := by
    intro A' W v hv' hA'
    rw [← hc']
    by_cases hf : (ps.length : Int) = k
    · exact l4Clock_full A' v k ps ms hd x W hv' hA' hok (Lib.hid hf)
    · exact l4Clock_room A' v k ps ms hd x W hv' hA' (by omega) (by omega) (by omega)
  rw [hc']
  have HC := Lib.hid hc
  clear hm hc hc'
  have hv0 := hv
  obtain ⟨pv, mv, rfl, hp, hmk⟩ := hv
  simp only at hp hmk
  obtain ⟨pa, pn, pc, rfl⟩ := hp.shape
  obtain ⟨ma, mn, mc, rfl⟩ := hmk.shape
  have hB := fun o1 o2 => ((hA.alloc o1).alloc o2).and1 (b := w.heap.size + 1) (by simp)
  go_enter Tryz.func168, Tryz.ntmps168
  go_wp2_with fail
  refine (HC.out (And1 A (w.heap.size + 1)) _ _ (hv0.and1 (((Chg.refl No w).alloc _).alloc _) (by omega)) (hB _ _)).mono ?_
  rintro e w1 ⟨v1, rfl, ⟨pv', mv', rfl, h1, h2⟩, h3⟩
  obtain ⟨pa', pn', pc', rfl⟩ := h1.shape
  obtain ⟨ma', mn', mc', rfl⟩ := h2.shape
  have k1 := ((((Chg.refl No w).alloc _).alloc _).keep h3)
  obtain ⟨r0, r1, r2, r3, r4, rf⟩ := ((Box.new (w.alloc _) _ _ _ _ _ _).at (n := w.heap.size + 1) (by simp)).keep h3
  have rf0 := rf 0
  have rf1 := rf 1
  have rf2 := rf 2
  have rf3 := rf 3
  have rf4 := rf 4
  go_wp2
  refine bodyPost_ret (v := .agg #[.int .i64 c'.pol, .int .i64 c'.size, .slice pa' pn' pc', .slice ma' mn' mc', .int .i64 c'.hand]) (by simp [results, Tryz.results168, go_sem, r0, r1, r2, r3, r4]) rfl ?_
  exact ⟨_, rfl, ⟨_, _, rfl, h1.put5 _ _ _ _ _, h2.put5 _ _ _ _ _⟩, k1.put5 (fun h => by omega) _ _ _ _ _⟩

set_option maxRecDepth 100000 in
set_option maxHeartbeats 1000000 in
theorem l4Fault_room (A : Nat → Prop) (v : Value) (p k : Int) (ps ms : List Int) (hd x : Int) (w : World) (hv : RC A w v ⟨p, k, ps, ms, hd⟩) (hA : Bd A w) (hpp : p = 1 ∨ p = 2 ∨ p = 3 ∨ p = 4 ∨ p = 7) (hf : (ps.length : Int) < k) (hk : k ≤ 6) :
    Calls Tryz.prog 168 #[v, .int .i64 x] w (Ret fun v' w' => RC A w' v' (faultC ⟨p, k, ps, ms, hd⟩ x) ∧ Chg No w w') := by
  have e : faultC ⟨p, k, ps, ms, hd⟩ x = ⟨p, k, x :: ps, ms, hd⟩ := by
    unfold faultC
    rw [if_neg (by simp only; omega), if_neg (by simp only; omega), if_neg (by simp only; omega)]
  rw [e]; clear e
  obtain ⟨pv, mv, rfl, hp, hmk⟩ := hv
  simp only at hp hmk ⊢
  obtain ⟨pa, pn, pc, rfl⟩ := hp.shape
  obtain ⟨ma, mn, mc, rfl⟩ := hmk.shape
  have hpk : (pn : Int) < k := by have := hp.n; omega
  have hne : ((pn : Int) == k) = false := by simp; omega
  have hlen : ps.length < 17592186044416 := by omega
  rcases hpp with rfl | rfl | rfl | rfl | rfl
  all_goals
    go_enter Tryz.func168, Tryz.ntmps168
    go_wp2_with fail
    refine box3 (R := fun W => Calls _ _ _ W _) (fun W hW b0 b1 b2 => ?_)
    have zW := hW.size
    have hl2 := b2.lt
    refine (l4Front_any A _ _ _ _ (hp.keep hW) hlen).mono ?_
    rintro e w1 ⟨v1, rfl, h1, h2⟩
    obtain ⟨a1, n1, c1, rfl⟩ := h1.shape
    have k1 := hW.keep h2
    have B2 := b2.keep h2
    have hz : ∀ q, own (.slice a1 n1 c1) q → W.heap.size ≤ q := fun q hq => (h1.lt q hq).1
    have g2 := B2.c2
    have f2 := B2.fr 2
    have b00 := (b0.keep h2).c0
    obtain ⟨q0, q1, q2, q3, q4, qf⟩ := B2.set2 (.slice a1 n1 c1)
    obtain ⟨r0, r1, r2, r3, r4, rf⟩ := (b1.keep h2).far ⟨w.heap.size + 1 + 1, 2, none⟩ (.slice a1 n1 c1) (by simp)
    have k2 := k1.setCell (p := ⟨w.heap.size + 1 + 1, 2, none⟩) (fun h => by simp at h; omega) (.slice a1 n1 c1)
    go_wp2
    refine bodyPost_ret (v := .agg #[_, .int .i64 k, .slice a1 n1 c1, .slice ma mn mc, .int .i64 hd]) (by simp [results, Tryz.results168, go_sem, r0, r1, r2, r3, r4]; rfl) rfl ?_
    refine ⟨_, rfl, ⟨_, _, rfl, ?_, hmk.keep (k2.put5 (fun h => by omega) _ _ _ _ _)⟩, k2.put5 (fun h => by omega) _ _ _ _ _⟩
    refine ((h1.set (w.heap.size + 1 + 1) 2 _ (fun hq => ?_)).put5 (fun q hq => ?_) _ _ _ _ _).readBd hA zW
    · have := hz _ hq; omega
    · have := hz q hq; omega
end Go.Proofs.YtndhijckbponkaaGreatDoor
