import Derived.Test.YtndhijckbponkaaGreatDoorD
namespace Go.Proofs.YtndhijckbponkaaGreatDoor
open Go.RowKit

set_option maxRecDepth 100000 in
set_option maxHeartbeats 1000000 in
theorem l4Fault_6 (A : Nat → Prop) (v : Value) (k : Int) (ps ms : List Int) (hd x : Int) (w : World) (hv : RC A w v ⟨6, k, ps, ms, hd⟩) (hA : Bd A w) (hok : Ok ⟨6, k, ps, ms, hd⟩) :
    Calls Tryz.prog 168 #[v, .int .i64 x] w (Ret fun v' w' => RC A w' v' (faultC ⟨6, k, ps, ms, hd⟩ x) ∧ Chg No w w') := by
  have e : faultC ⟨6, k, ps, ms, hd⟩ x = clockC ⟨6, k, ps, ms, hd⟩ x := by simp [faultC]
  rw [e]; clear e
  obtain ⟨c', hc'⟩ : ∃ c', clockC ⟨6, k, ps, ms, hd⟩ x = c' := ⟨_, rfl⟩
  have hs := hok.size
  have hl := hok.len
  have hm := hok.marks (.inr rfl)
  simp only at hs hl hm
  have hc : ∀ A' W v, RC A' W v ⟨6, k, ps, ms, hd⟩ → Bd A' W → Calls Tryz.prog 190 #[v, .int .i64 x] W (Ret fun v' w' => RC A' w' v' c' ∧ Chg No W w') := by
    intro A' W v hv' hA'
    rw [← hc']
    by_cases hf : (ps.length : Int) = k
    · exact l4Clock_full A' v k ps ms hd x W hv' hA' hok (Lib.hid hf)
    · exact l4Clock_room A' v k ps ms hd x W hv' hA' (by omega) (by omega) (by omega)
  rw [hc']
  have HC := Lib.hid hc
  clear hm hc hc'
  have hv0 := hv
  obtain ⟨pv, mv, rfl, hp, hmk⟩ := hv
  simp only at hp hmk
  obtain ⟨pa, pn, pc, rfl⟩ := hp.shape
  obtain ⟨ma, mn, mc, rfl⟩ := hmk.shape
  have hB := fun o1 o2 => ((hA.alloc o1).alloc o2).and1 (b := w.heap.size + 1) (by simp)
  go_enter Tryz.func168, Tryz.ntmps168
  go_wp2_with fail
  refine (HC.out (And1 A (w.heap.size + 1)) _ _ (hv0.and1 (((Chg.refl No w).alloc _).alloc _) (by omega)) (hB _ _)).mono ?_
  rintro e w1 ⟨v1, rfl, ⟨pv', mv', rfl, h1, h2⟩, h3⟩
  obtain ⟨pa', pn', pc', rfl⟩ := h1.shape
  obtain ⟨ma', mn', mc', rfl⟩ := h2.shape
  have k1 := ((((Chg.refl No w).alloc _).alloc _).keep h3)
  obtain ⟨r0, r1, r2, r3, r4, rf⟩ := ((Box.new (w.alloc _) _ _ _ _ _ _).at (n := w.heap.size + 1) (by simp)).keep h3
  have rf0 := rf 0
  have rf1 := rf 1
  have rf2 := rf 2
  have rf3 := rf 3
  have rf4 := rf 4
  go_wp2
  refine bodyPost_ret (v := .agg #[.int .i64 c'.pol, .int .i64 c'.size, .slice pa' pn' pc', .slice ma' mn' mc', .int .i64 c'.hand]) (by simp [results, Tryz.results168, go_sem, r0, r1, r2, r3, r4]) rfl ?_
  exact ⟨_, rfl, ⟨_, _, rfl, h1.put5 _ _ _ _ _, h2.put5 _ _ _ _ _⟩, k1.put5 (fun h => by omega) _ _ _ _ _⟩

set_option maxRecDepth 100000 in
set_option maxHeartbeats 1000000 in
theorem l4Fault_room (A : Nat → Prop) (v : Value) (p k : Int) (ps ms : List Int) (hd x : Int) (w : World) (hv : RC A w v ⟨p, k, ps, ms, hd⟩) (hA : Bd A w) (hpp : p = 1 ∨ p = 2 ∨ p = 3 ∨ p = 4 ∨ p = 7) (hf : (ps.length : Int) < k) (hk : k ≤ 6) :
    Calls Tryz.prog 168 #[v, .int .i64 x] w (Ret fun v' w' => RC A w' v' (faultC ⟨p, k, ps, ms, hd⟩ x) ∧ Chg No w w') := by
  have e : faultC ⟨p, k, ps, ms, hd⟩ x = ⟨p, k, x :: ps, ms, hd⟩ := by
    unfold faultC
    rw [if_neg (by simp only; omega), if_neg (by simp only; omega), if_neg (by simp only; omega)]
  rw [e]; clear e
  obtain ⟨pv, mv, rfl, hp, hmk⟩ := hv
  simp only at hp hmk ⊢
  obtain ⟨pa, pn, pc, rfl⟩ := hp.shape
  obtain ⟨ma, mn, mc, rfl⟩ := hmk.shape
  have hpk : (pn : Int) < k := by have := hp.n; omega
  have hne : ((pn : Int) == k) = false := by simp; omega
  have hlen : ps.length < 17592186044416 := by omega
  rcases hpp with rfl | rfl | rfl | rfl | rfl
  all_goals
    go_enter Tryz.func168, Tryz.ntmps168
    go_wp2_with fail
    refine box3 (R := fun W => Calls _ _ _ W _) (fun W hW b0 b1 b2 => ?_)
    have zW := hW.size
    have hl2 := b2.lt
    refine (l4Front_any A _ _ _ _ (hp.keep hW) hlen).mono ?_
    rintro e w1 ⟨v1, rfl, h1, h2⟩
    obtain ⟨a1, n1, c1, rfl⟩ := h1.shape
    have k1 := hW.keep h2
    have B2 := b2.keep h2
    have hz : ∀ q, own (.slice a1 n1 c1) q → W.heap.size ≤ q := fun q hq => (h1.lt q hq).1
    have g2 := B2.c2
    have f2 := B2.fr 2
    have b00 := (b0.keep h2).c0
    obtain ⟨q0, q1, q2, q3, q4, qf⟩ := B2.set2 (.slice a1 n1 c1)
    obtain ⟨r0, r1, r2, r3, r4, rf⟩ := (b1.keep h2).far ⟨w.heap.size + 1 + 1, 2, none⟩ (.slice a1 n1 c1) (by simp)
    have k2 := k1.setCell (p := ⟨w.heap.size + 1 + 1, 2, none⟩) (fun h => by simp at h; omega) (.slice a1 n1 c1)
    go_wp2
    refine bodyPost_ret (v := .agg #[_, .int .i64 k, .slice a1 n1 c1, .slice ma mn mc, .int .i64 hd]) (by simp [results, Tryz.results168, go_sem, r0, r1, r2, r3, r4]; rfl) rfl ?_
    refine ⟨_, rfl, ⟨_, _, rfl, ?_, hmk.keep (k2.put5 (fun h => by omega) _ _ _ _ _)⟩, k2.put5 (fun h => by omega) _ _ _ _ _⟩
    refine ((h1.set (w.heap.size + 1 + 1) 2 _ (fun hq => ?_)).put5 (fun q hq => ?_) _ _ _ _ _).readBd hA zW
    · have := hz _ hq; omega
    · have := hz q hq; omega
end Go.Proofs.YtndhijckbponkaaGreatDoor

namespace Go.Proofs.YtndhijckbponkaaGreatDoor
open Go.RowKit

set_option maxRecDepth 100000 in
set_option maxHeartbeats 1000000 in
theorem l4Fault_room5 (A : Nat → Prop) (v : Value) (k : Int) (ps ms : List Int) (hd x : Int) (w : World) (hv : RC A w v ⟨5, k, ps, ms, hd⟩) (hA : Bd A w) (hf : (ps.length : Int) < k) (hk : k ≤ 6) (hml : ms.length = ps.length) :
    Calls Tryz.prog 168 #[v, .int .i64 x] w (Ret fun v' w' => RC A w' v' (faultC ⟨5, k, ps, ms, hd⟩ x) ∧ Chg No w w') := by
  have e : faultC ⟨5, k, ps, ms, hd⟩ x = ⟨5, k, x :: ps, 1 :: ms, hd⟩ := by
    unfold faultC
    rw [if_neg (by simp only; omega), if_neg (by simp only; omega), if_pos rfl, if_neg (by simp only; omega)]
  rw [e]; clear e
  obtain ⟨pv, mv, rfl, hp, hmk⟩ := hv
  simp only at hp hmk ⊢
  obtain ⟨pa, pn, pc, rfl⟩ := hp.shape
  obtain ⟨ma, mn, mc, rfl⟩ := hmk.shape
  have hpk : (pn : Int) < k := by have := hp.n; omega
  have hne : ((pn : Int) == k) = false := by simp; omega
  have hlen : ps.length < 17592186044416 := by omega
  have hlen2 : ms.length < 17592186044416 := by omega
  clear hml
  go_enter Tryz.func168, Tryz.ntmps168
  go_wp2_with fail
  refine box3 (R := fun W => Calls _ _ _ W _) (fun W hW b0 b1 b2 => ?_)
  have zW := hW.size
  have hl2 := b2.lt
  refine (l4Front_any A _ _ _ _ (hp.keep hW) hlen).mono ?_
  rintro e w1 ⟨v1, rfl, h1, h2⟩
  obtain ⟨a1, n1, c1, rfl⟩ := h1.shape
  have k1 := hW.keep h2
  have B2 := b2.keep h2
  have hz : ∀ q, own (.slice a1 n1 c1) q → W.heap.size ≤ q := fun q hq => (h1.lt q hq).1
  have g2 := B2.c2
  have f2 := B2.fr 2
  have B0 := (b0.keep h2).far ⟨w.heap.size + 1 + 1, 2, none⟩ (.slice a1 n1 c1) (by simp; omega)
  have B1 := (b1.keep h2).far ⟨w.heap.size + 1 + 1, 2, none⟩ (.slice a1 n1 c1) (by simp)
  have C2 := B2.set2 (.slice a1 n1 c1)
  have k2 := k1.setCell (p := ⟨w.heap.size + 1 + 1, 2, none⟩) (fun h => by simp at h; omega) (.slice a1 n1 c1)
  have o1 := h1.set (w.heap.size + 1 + 1) 2 (.slice a1 n1 c1) (fun hq => by have := hz _ hq; omega)
  have b00 := (b0.keep h2).c0
  have c23 := B2.c3
  go_wp2_with fail
  refine (l4Front_any A _ _ _ _ (hmk.keep k2) hlen2).mono ?_
  rintro e w3 ⟨v3, rfl, h3, h4⟩
  obtain ⟨a3, n3, c3, rfl⟩ := h3.shape
  have k3 := k2.keep h4
  have D2 := C2.keep h4
  have o3 := o1.keep h4
  have hz3 : ∀ q, own (.slice a3 n3 c3) q → w1.heap.size ≤ q := fun q hq => by have := (h3.lt q hq).1; simpa using this
  have hzw : W.heap.size ≤ w1.heap.size := h2.size
  have g3 := D2.c3
  have f3 := D2.fr 3
  obtain ⟨q0, q1, q2, q3, q4, qf⟩ := D2.set3 (.slice a3 n3 c3)
  obtain ⟨r0, r1, r2, r3, r4, rf⟩ := (B1.keep h4).far ⟨w.heap.size + 1 + 1, 3, none⟩ (.slice a3 n3 c3) (by simp)
  have k4 := k3.setCell (p := ⟨w.heap.size + 1 + 1, 3, none⟩) (fun h => by simp at h; omega) (.slice a3 n3 c3)
  go_wp2
  refine bodyPost_ret (v := .agg #[_, .int .i64 k, .slice a1 n1 c1, .slice a3 n3 c3, .int .i64 hd]) (by simp [results, Tryz.results168, go_sem, r0, r1, r2, r3, r4]; rfl) rfl ?_
  refine ⟨_, rfl, ⟨_, _, rfl, ?_, ?_⟩, k4.put5 (fun h => by omega) _ _ _ _ _⟩
  · refine ((o3.set (w.heap.size + 1 + 1) 3 _ (fun hq => ?_)).put5 (fun q hq => ?_) _ _ _ _ _).readBd hA zW
    · have := hz _ hq; omega
    · have := hz q hq; omega
  · have h3' : OI w1.heap.size w3 (.slice a3 n3 c3) (1 :: ms) := h3.weak (by simp)
    refine ((h3'.set (w.heap.size + 1 + 1) 3 _ (fun hq => ?_)).put5 (fun q hq => ?_) _ _ _ _ _).readBd hA (by omega)
    · have := hz3 _ hq; omega
    · have := hz3 q hq; omega

set_option maxRecDepth 100000 in
set_option maxHeartbeats 1000000 in
theorem l4Fault_full (A : Nat → Prop) (v : Value) (p k : Int) (ps ms : List Int) (hd x : Int) (w : World) (hv : RC A w v ⟨p, k, ps, ms, hd⟩) (hA : Bd A w) (hok : Ok ⟨p, k, ps, ms, hd⟩) (hpp : p = 1 ∨ p = 2 ∨ p = 3 ∨ p = 7) (hf : Hid ((ps.length : Int) = k)) :
    Calls Tryz.prog 168 #[v, .int .i64 x] w (Ret fun v' w' => RC A w' v' (faultC ⟨p, k, ps, ms, hd⟩ x) ∧ Chg No w w') := by
  obtain ⟨at', hat⟩ : ∃ q, victim ⟨p, k, ps, ms, hd⟩ = q := ⟨_, rfl⟩
  have hk := hok.size
  simp only at hk
  have hlen : at' < ps.length := by
    have := victim_lt hok (by simp only; have := hf.out; omega) (by simp only; omega)
    rw [hat] at this
    exact this
  have e : faultC ⟨p, k, ps, ms, hd⟩ x = ⟨p, k, x :: ps.eraseIdx at', ms, hd⟩ := by
    unfold faultC
    rw [if_neg (by simp only; omega), if_pos hf.out, if_neg (by simp only; omega), if_neg (by simp only; omega), hat]
  rw [e]; clear e
  have hl6 : ps.length ≤ 6 := by have := hf.out; omega
  have hvic : ∀ A' W v, RC A' W v ⟨p, k, ps, ms, hd⟩ → Calls Tryz.prog 191 #[v] W (Ret fun v' w' => v' = .int .i64 at' ∧ Chg No W w') := by
    intro A' W v hv
    have := l4Victim_any A' v _ W hv hok hf.out
    rw [hat] at this
    exact this
  have HV := Lib.hid hvic
  clear hvic hat
  have hv0 := hv
  obtain ⟨pv, mv, rfl, hp, hmk⟩ := hv
  simp only at hp hmk ⊢
  obtain ⟨pa, pn, pc, rfl⟩ := hp.shape
  obtain ⟨ma, mn, mc, rfl⟩ := hmk.shape
  have hpk : ((pn : Int) == k) = true := by have := hp.n; have := hf.out; simp; omega
  clear hok
  rcases hpp with rfl | rfl | rfl | rfl
  all_goals
    go_enter Tryz.func168, Tryz.ntmps168
    go_wp2_with fail
    refine box3 (R := fun W => Calls _ _ _ W _) (fun W hW b0 b1 b2 => ?_)
    have zW := hW.size
    have hl2 := b2.lt
    refine (HV.out A _ _ (hv0.keep hW)).mono ?_
    rintro e w0 ⟨v0, rfl, rfl, h0⟩
    have b0 := b0.keep h0
    have b1 := b1.keep h0
    have b2 := b2.keep h0
    have hW := hW.keep h0
    have zW := hW.size
    have hl2 := b2.lt
    have p00 := b0.c0
    have p02 := b0.c2
    go_wp2_with fail
    refine (l4Without_any A _ ps at' _ (hp.keep hW) hlen).mono ?_
    rintro e w1 ⟨v1, rfl, h1, h2⟩
    obtain ⟨a1, n1, c1, rfl⟩ := h1.shape
    have k1 := hW.keep h2
    have B2 := b2.keep h2
    have hz : ∀ q, own (.slice a1 n1 c1) q → w0.heap.size ≤ q := fun q hq => (h1.lt q hq).1
    have g2 := B2.c2
    have f2 := B2.fr 2
    have B0 := (b0.keep h2).far ⟨w.heap.size + 1 + 1, 2, none⟩ (.slice a1 n1 c1) (by simp; omega)
    have B1 := (b1.keep h2).far ⟨w.heap.size + 1 + 1, 2, none⟩ (.slice a1 n1 c1) (by simp)
    have C2 := B2.set2 (.slice a1 n1 c1)
    have k2 := k1.setCell (p := ⟨w.heap.size + 1 + 1, 2, none⟩) (fun h => by simp at h; omega) (.slice a1 n1 c1)
    have o1 := h1.set (w.heap.size + 1 + 1) 2 (.slice a1 n1 c1) (fun hq => by have := hz _ hq; omega)
    have b00 := (b0.keep h2).c0
    go_wp2_with fail
    refine (l4Front_any No _ _ _ _ o1.readNo (by have := h1.len; rw [List.length_eraseIdx_of_lt hlen] at *; omega)).mono ?_
    rintro e w3 ⟨v3, rfl, h3, h4⟩
    obtain ⟨a3, n3, c3, rfl⟩ := h3.shape
    have k3 := k2.keep h4
    have D2 := C2.keep h4
    have hz3 : ∀ q, own (.slice a3 n3 c3) q → w1.heap.size ≤ q := fun q hq => by have := (h3.lt q hq).1; simpa using this
    have hzw : w0.heap.size ≤ w1.heap.size := h2.size
    have g3 := D2.c2
    have f3 := D2.fr 2
    have d00 := (B0.keep h4).c0
    obtain ⟨q0, q1, q2, q3, q4, qf⟩ := D2.set2 (.slice a3 n3 c3)
    obtain ⟨r0, r1, r2, r3, r4, rf⟩ := (B1.keep h4).far ⟨w.heap.size + 1 + 1, 2, none⟩ (.slice a3 n3 c3) (by simp)
    have k4 := k3.setCell (p := ⟨w.heap.size + 1 + 1, 2, none⟩) (fun h => by simp at h; omega) (.slice a3 n3 c3)
    go_wp2
    refine bodyPost_ret (v := .agg #[_, .int .i64 k, .slice a3 n3 c3, .slice ma mn mc, .int .i64 hd]) (by simp [results, Tryz.results168, go_sem, r0, r1, r2, r3, r4]; rfl) rfl ?_
    refine ⟨_, rfl, ⟨_, _, rfl, ?_, hmk.keep (k4.put5 (fun h => by omega) _ _ _ _ _)⟩, k4.put5 (fun h => by omega) _ _ _ _ _⟩
    have h3' : OI w1.heap.size w3 (.slice a3 n3 c3) (x :: ps.eraseIdx at') := h3.weak (by simp)
    refine ((h3'.set (w.heap.size + 1 + 1) 2 _ (fun hq => ?_)).put5 (fun q hq => ?_) _ _ _ _ _).readBd hA (by omega)
    · have := hz3 _ hq; omega
    · have := hz3 q hq; omega
end Go.Proofs.YtndhijckbponkaaGreatDoor
