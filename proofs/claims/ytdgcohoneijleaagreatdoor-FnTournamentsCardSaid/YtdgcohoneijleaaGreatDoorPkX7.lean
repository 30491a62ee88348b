import Derived.Test.YtdgcohoneijleaaGreatDoorPkX6
set_option maxRecDepth 100000
namespace Go.Proofs.YtdgcohoneijleaaGreatDoor
open Go.RowKit
set_option maxHeartbeats 1000000 in
theorem l4Fault_full5 (A : Nat → Prop) (v : Value) (k : Int) (ps ms : List Int) (hd x : Int) (w : World) (hv : RC A w v ⟨5, k, ps, ms, hd⟩) (hA : Bd A w) (hok : Ok ⟨5, k, ps, ms, hd⟩) (hf : Hid ((ps.length : Int) = k)) :
  Calls Tryz.prog 168 #[v, .int .i64 x] w (Ret fun v' w' => RC A w' v' (faultC ⟨5, k, ps, ms, hd⟩ x) ∧ Chg No w w') := by
 obtain ⟨at', hat⟩ : ∃ q, victim ⟨5, k, ps, ms, hd⟩ = q := ⟨_, rfl⟩
 have hk := hok.size
 simp only at hk
 have hlen : at' < ps.length := by
  have := victim_lt hok (by simp only; have := hf.out; omega) (by simp only; omega)
  rw [hat] at this
  exact this
 have e : faultC ⟨5, k, ps, ms, hd⟩ x = ⟨5, k, x :: ps.eraseIdx at', 1 :: ms.eraseIdx at', hd⟩ := by
  unfold faultC
  rw [if_neg (by simp only; omega), if_pos hf.out, if_neg (by simp only; omega), if_pos rfl, if_pos hf.out, hat]
 rw [e]; clear e
 have hml := hok.marks (.inl rfl)
 simp only at hml
 have hlen5 : at' < ms.length := by omega
 have hl65 : ms.length ≤ 6 := by have := hf.out; omega
 clear hml
 have hl6 : ps.length ≤ 6 := by have := hf.out; omega
 have hvic : ∀ A' W v, RC A' W v ⟨5, k, ps, ms, hd⟩ → Calls Tryz.prog 191 #[v] W (Ret fun v' w' => v' = .int .i64 at' ∧ Chg No W w') := by
  intro A' W v hv
  have := l4Victim_any A' v _ W hv hok hf.out
  rw [hat] at this
  exact this
 have HV := Lib.hid hvic
 clear hvic hat
 have hv0 := hv
 obtain ⟨pv, mv, rfl, hp, hmk⟩ := hv
 simp only at hp hmk ⊢
 obtain ⟨pa, pn, pc, rfl⟩ := hp.shape
 obtain ⟨ma, mn, mc, rfl⟩ := hmk.shape
 have hpk : ((pn : Int) == k) = true := by have := hp.n; have := hf.out; simp; omega
 clear hok
 go_enter Tryz.func168, Tryz.ntmps168
 go_wp2_with fail
 refine box3 (R := fun W => Calls _ _ _ W _) (fun W hW b0 b1 b2 => ?_)
 have zW := hW.size
 have hl2 := b2.lt
 refine (HV.out A _ _ (hv0.keep hW)).mono ?_
 rintro e w0 ⟨v0, rfl, rfl, h0⟩
 have b0 := b0.keep h0
 have b1 := b1.keep h0
 have b2 := b2.keep h0
 have hW := hW.keep h0
 have zW := hW.size
 have hl2 := b2.lt
 have p00 := b0.c0
 have p02 := b0.c2
 go_wp2_with fail
 refine (l4Without_any A _ ps at' _ (hp.keep hW) hlen).mono ?_
 rintro e w1 ⟨v1, rfl, h1, h2⟩
 obtain ⟨a1, n1, c1, rfl⟩ := h1.shape
 have k1 := hW.keep h2
 have B2 := b2.keep h2
 have hz : ∀ q, own (.slice a1 n1 c1) q → w0.heap.size ≤ q := fun q hq => (h1.lt q hq).1
 have g2 := B2.c2
 have f2 := B2.fr 2
 have B0 := (b0.keep h2).far ⟨w.heap.size + 1 + 1, 2, none⟩ (.slice a1 n1 c1) (by simp; omega)
 have B1 := (b1.keep h2).far ⟨w.heap.size + 1 + 1, 2, none⟩ (.slice a1 n1 c1) (by simp)
 have C2 := B2.set2 (.slice a1 n1 c1)
 have k2 := k1.setCell (p := ⟨w.heap.size + 1 + 1, 2, none⟩) (fun h => by simp at h; omega) (.slice a1 n1 c1)
 have o1 := h1.set (w.heap.size + 1 + 1) 2 (.slice a1 n1 c1) (fun hq => by have := hz _ hq; omega)
 have b00 := (b0.keep h2).c0
 have b03 := (b0.keep h2).c3
 go_wp2_with fail
 refine (l4Without_any A _ ms at' _ (hmk.keep k2) hlen5).mono ?_
 rintro e w5 ⟨v5, rfl, h5, h6⟩
 obtain ⟨a5, n5, c5, rfl⟩ := h5.shape
 have k5 := k2.keep h6
 have E2 := C2.keep h6
 have e3 := E2.c3
 have ef := E2.fr 3
 have o5 := o1.keep h6
 have hz5 : ∀ q, own (.slice a5 n5 c5) q → w1.heap.size ≤ q := fun q hq => by have := (h5.lt q hq).1; simpa using this
 have hzw : w0.heap.size ≤ w1.heap.size := h2.size
 have hz15 : w1.heap.size ≤ w5.heap.size := by have := h6.size; simpa using this
 have G0 := (B0.keep h6).far ⟨w.heap.size + 1 + 1, 3, none⟩ (.slice a5 n5 c5) (by simp; omega)
 have G1 := (B1.keep h6).far ⟨w.heap.size + 1 + 1, 3, none⟩ (.slice a5 n5 c5) (by simp)
 have G2 := E2.set3 (.slice a5 n5 c5)
 have k6 := k5.setCell (p := ⟨w.heap.size + 1 + 1, 3, none⟩) (fun h => by simp at h; omega) (.slice a5 n5 c5)
 have o6 := o5.set (w.heap.size + 1 + 1) 3 (.slice a5 n5 c5) (fun hq => by have := hz _ hq; omega)
 have s6 := h5.set (w.heap.size + 1 + 1) 3 (.slice a5 n5 c5) (fun hq => by have := hz5 _ hq; omega)
 have e2c := E2.c2
 go_wp2_with fail
 refine (l4Front_any No _ _ _ _ o6.readNo (by rw [List.length_eraseIdx_of_lt hlen]; omega)).mono ?_
 rintro e w3 ⟨v3, rfl, h3, h4⟩
 obtain ⟨a3, n3, c3, rfl⟩ := h3.shape
 have k3 := k6.keep h4
 have D2 := G2.keep h4
 have D1 := G1.keep h4
 have D0 := G0.keep h4
 have o3 := s6.keep h4
 have hz3 : ∀ q, own (.slice a3 n3 c3) q → w5.heap.size ≤ q := fun q hq => by have := (h3.lt q hq).1; simpa using this
 have hz53 : w5.heap.size ≤ w3.heap.size := by have := h4.size; simpa using this
 have g3 := D2.c2
 have f3 := D2.fr 2
 have d00 := D0.c0
 have H2 := D2.set2 (.slice a3 n3 c3)
 have H1 := D1.far ⟨w.heap.size + 1 + 1, 2, none⟩ (.slice a3 n3 c3) (by simp)
 have k4 := k3.setCell (p := ⟨w.heap.size + 1 + 1, 2, none⟩) (fun h => by simp at h; omega) (.slice a3 n3 c3)
 have o7 := h3.set (w.heap.size + 1 + 1) 2 (.slice a3 n3 c3) (fun hq => by have := hz3 _ hq; omega)
 have o8 := o3.set (w.heap.size + 1 + 1) 2 (.slice a3 n3 c3) (fun hq => by have := hz5 _ hq; omega)
 have d23 := D2.c3
 go_wp2_with fail
 refine (l4Front_any No _ _ _ _ o8.readNo (by rw [List.length_eraseIdx_of_lt hlen5]; omega)).mono ?_
 rintro e w7 ⟨v7, rfl, h7, h8⟩
 obtain ⟨a7, n7, c7, rfl⟩ := h7.shape
 have k7 := k4.keep h8
 have J2 := H2.keep h8
 have J1 := H1.keep h8
 have o9 := o7.keep h8
 have hz7 : ∀ q, own (.slice a7 n7 c7) q → w3.heap.size ≤ q := fun q hq => by have := (h7.lt q hq).1; simpa using this
 have j3 := J2.c3
 have jf := J2.fr 3
 obtain ⟨q0, q1, q2, q3, q4, qf⟩ := J2.set3 (.slice a7 n7 c7)
 obtain ⟨r0, r1, r2, r3, r4, rf⟩ := J1.far ⟨w.heap.size + 1 + 1, 3, none⟩ (.slice a7 n7 c7) (by simp)
 have k8 := k7.setCell (p := ⟨w.heap.size + 1 + 1, 3, none⟩) (fun h => by simp at h; omega) (.slice a7 n7 c7)
 go_wp2
 refine bodyPost_ret (v := .agg #[_, .int .i64 k, .slice a3 n3 c3, .slice a7 n7 c7, .int .i64 hd]) (by simp [results, Tryz.results168, go_sem, r0, r1, r2, r3, r4]; rfl) rfl ?_
 refine ⟨_, rfl, ⟨_, _, rfl, ?_, ?_⟩, k8.put5 (fun h => by omega) _ _ _ _ _⟩
 ·have h3' : OI w5.heap.size _ (.slice a3 n3 c3) (x :: ps.eraseIdx at') := o9.weak (by simp)
  refine ((h3'.set (w.heap.size + 1 + 1) 3 _ (fun hq => ?_)).put5 (fun q hq => ?_) _ _ _ _ _).readBd hA (by omega)
  ·have := hz3 _ hq; omega
  ·have := hz3 q hq; omega
 ·have h7' : OI w3.heap.size w7 (.slice a7 n7 c7) (1 :: ms.eraseIdx at') := h7.weak (by simp)
  refine ((h7'.set (w.heap.size + 1 + 1) 3 _ (fun hq => ?_)).put5 (fun q hq => ?_) _ _ _ _ _).readBd hA (by omega)
  ·have := hz7 _ hq; omega
  ·have := hz7 q hq; omega
set_option maxHeartbeats 1000000 in
theorem l4Fault_full4 (A : Nat → Prop) (v : Value) (k : Int) (ps ms : List Int) (hd x : Int) (w : World) (hv : RC A w v ⟨4, k, ps, ms, hd⟩) (hA : Bd A w) (hok : Ok ⟨4, k, ps, ms, hd⟩) (hf : Hid ((ps.length : Int) = k)) :
  Calls Tryz.prog 168 #[v, .int .i64 x] w (Ret fun v' w' => RC A w' v' (faultC ⟨4, k, ps, ms, hd⟩ x) ∧ Chg No w w') := by
 obtain ⟨at', hat⟩ : ∃ q, victim ⟨4, k, ps, ms, hd⟩ = q := ⟨_, rfl⟩
 have hk := hok.size
 simp only at hk
 have e : faultC ⟨4, k, ps, ms, hd⟩ x = ⟨4, k, [x], ms, hd⟩ := by
  unfold faultC
  rw [if_neg (by simp only; omega), if_pos hf.out, if_pos rfl, if_neg (by simp only; omega)]
 rw [e]; clear e
 have hvic : ∀ A' W v, RC A' W v ⟨4, k, ps, ms, hd⟩ → Calls Tryz.prog 191 #[v] W (Ret fun v' w' => v' = .int .i64 at' ∧ Chg No W w') := by
  intro A' W v hv
  have := l4Victim_any A' v _ W hv hok hf.out
  rw [hat] at this
  exact this
 have HV := Lib.hid hvic
 clear hvic hat
 have hv0 := hv
 obtain ⟨pv, mv, rfl, hp, hmk⟩ := hv
 simp only at hp hmk ⊢
 obtain ⟨pa, pn, pc, rfl⟩ := hp.shape
 obtain ⟨ma, mn, mc, rfl⟩ := hmk.shape
 have hpk : ((pn : Int) == k) = true := by have := hp.n; have := hf.out; simp; omega
 clear hok
 go_enter Tryz.func168, Tryz.ntmps168
 go_wp2_with fail
 refine box3 (R := fun W => Calls _ _ _ W _) (fun W hW b0 b1 b2 => ?_)
 refine (HV.out A _ _ (hv0.keep hW)).mono ?_
 rintro e w0 ⟨v0, rfl, rfl, h0⟩
 have b0 := b0.keep h0
 have b1 := b1.keep h0
 have b2 := b2.keep h0
 have hW := hW.keep h0
 have zW := hW.size
 have hl2 := b2.lt
 have p00 := b0.c0
 have l0 := b0.lt
 have p22 := b2.c2
 have pf2 := b2.fr 2
 have p23 := b2.c3
 have B0 := (b0.far ⟨w.heap.size + 1 + 1, 2, none⟩ (.slice (some ⟨w0.heap.size, 0, none⟩) 0 0) (by simp; omega)).keep ((Chg.refl No _).alloc (.cells #[] 3))
 have B1 := (b1.far ⟨w.heap.size + 1 + 1, 2, none⟩ (.slice (some ⟨w0.heap.size, 0, none⟩) 0 0) (by simp)).keep ((Chg.refl No _).alloc (.cells #[] 3))
 have C2 := (b2.set2 (.slice (some ⟨w0.heap.size, 0, none⟩) 0 0)).keep ((Chg.refl No _).alloc (.cells #[] 3))
 have k2 := (hW.setCell (p := ⟨w.heap.size + 1 + 1, 2, none⟩) (fun h => by simp at h; omega) (.slice (some ⟨w0.heap.size, 0, none⟩) 0 0)).alloc (.cells #[] 3)
 go_wp2_with fail
 refine (l4Front_any No _ [] _ _ (RI.empty No _ _ 0 (by omega) (by simp)) (by simp)).mono ?_
 rintro e w3 ⟨v3, rfl, h3, h4⟩
 obtain ⟨a3, n3, c3, rfl⟩ := h3.shape
 have k3 := k2.keep h4
 have D2 := C2.keep h4
 have hz3 : ∀ q, own (.slice a3 n3 c3) q → w0.heap.size ≤ q := fun q hq => by have := (h3.lt q hq).1; simp at this; omega
 have g3 := D2.c2
 have f3 := D2.fr 2
 have d00 := (B0.keep h4).c0
 obtain ⟨q0, q1, q2, q3, q4, qf⟩ := D2.set2 (.slice a3 n3 c3)
 obtain ⟨r0, r1, r2, r3, r4, rf⟩ := (B1.keep h4).far ⟨w.heap.size + 1 + 1, 2, none⟩ (.slice a3 n3 c3) (by simp)
 have k4 := k3.setCell (p := ⟨w.heap.size + 1 + 1, 2, none⟩) (fun h => by simp at h; omega) (.slice a3 n3 c3)
 go_wp2
 refine bodyPost_ret (v := .agg #[_, .int .i64 k, .slice a3 n3 c3, .slice ma mn mc, .int .i64 hd]) (by simp [results, Tryz.results168, go_sem, r0, r1, r2, r3, r4]; rfl) rfl ?_
 refine ⟨_, rfl, ⟨_, _, rfl, ?_, hmk.keep (k4.put5 (fun h => by omega) _ _ _ _ _)⟩, k4.put5 (fun h => by omega) _ _ _ _ _⟩
 have h3' : OI w0.heap.size w3 (.slice a3 n3 c3) [x] := h3.weak (by simp)
 refine ((h3'.set (w.heap.size + 1 + 1) 2 _ (fun hq => ?_)).put5 (fun q hq => ?_) _ _ _ _ _).readBd hA (by omega)
 ·have := hz3 _ hq; omega
 ·have := hz3 q hq; omega
theorem l4Fault_any (A : Nat → Prop) (v : Value) (c : Ca) (x : Int) (w : World) (hv : RC A w v c) (hA : Bd A w) (hok : Ok c) :
  Calls Tryz.prog 168 #[v, .int .i64 x] w (Ret fun v' w' => RC A w' v' (faultC c x) ∧ Chg No w w') := by
 have hpol := hok.pol
 have hs := hok.size
 have hl := hok.len
 have hm := hok.marks
 obtain ⟨p, k, ps, ms, hd⟩ := c
 simp only at *
 have hcase : p = 6 ∨ p = 5 ∨ p = 4 ∨ (p = 1 ∨ p = 2 ∨ p = 3 ∨ p = 7) := by omega
 by_cases hf : (ps.length : Int) = k
 ·rcases hcase with rfl | rfl | rfl | h
  ·exact l4Fault_6 A v k ps ms hd x w hv hA hok
  ·exact l4Fault_full5 A v k ps ms hd x w hv hA hok (Lib.hid hf)
  ·exact l4Fault_full4 A v k ps ms hd x w hv hA hok (Lib.hid hf)
  ·exact l4Fault_full A v p k ps ms hd x w hv hA hok h (Lib.hid hf)
 ·rcases hcase with rfl | rfl | rfl | h
  ·exact l4Fault_6 A v k ps ms hd x w hv hA hok
  ·exact l4Fault_room5 A v k ps ms hd x w hv hA (by omega) (by omega) (hm (.inl rfl))
  ·exact l4Fault_room A v 4 k ps ms hd x w hv hA (by omega) (by omega) (by omega)
  ·exact l4Fault_room A v p k ps ms hd x w hv hA (by omega) (by omega) (by omega)
set_option maxHeartbeats 1000000 in
theorem l4Step_any (A : Nat → Prop) (v : Value) (c : Ca) (x : Int) (w : World) (hv : RC A w v c) (hA : Bd A w) (hok : Ok c) :
  Calls Tryz.prog 138 #[v, .int .i64 x] w (Ret fun v' w' => RC A w' v' (stepC c x) ∧ Chg No w w') := by
 obtain ⟨c', hc'⟩ : ∃ c', stepC c x = c' := ⟨_, rfl⟩
 rw [hc']
 have hv0 := hv
 obtain ⟨pv, mv, rfl, hp, hmk⟩ := hv
 obtain ⟨pa, pn, pc, rfl⟩ := hp.shape
 obtain ⟨ma, mn, mc, rfl⟩ := hmk.shape
 have hB := fun o1 o2 => ((hA.alloc o1).alloc o2).and1 (b := w.heap.size + 1) (by simp)
 rcases atI_spec c.pages x with ⟨hh, i, hi, he⟩ | ⟨hh, he⟩
 ·have hs : hitC c i = c' := by rw [← hc']; unfold stepC; rw [if_pos hh, he]; rfl
  have HS := Lib.hid hs
  have HE := Lib.hid he
  clear hs he hh hc'
  have hcall : ∀ A' W v, RC A' W v c → Bd A' W → Calls Tryz.prog 167 #[v, .int .i64 i] W (Ret fun v' w' => RC A' w' v' c' ∧ Chg No W w') := by
   intro A' W v h1 h2
   have := l4Hit_any A' v c i W h1 h2 hok hi
   rw [HS.out] at this; exact this
  have HC := Lib.hid hcall
  clear hcall
  have hat : ∀ A' W v, RI A' W v c.pages → Calls Tryz.prog 166 #[v, .int .i64 x] W fun e w' => e = .returned (.int .i64 i) ∧ W = w' := by
   intro A' W v h1
   have := l4At_any A' v c.pages x W h1
   rw [HE.out] at this; exact this
  have HAT := Lib.hid hat
  clear hat
  go_enter Tryz.func138, Tryz.ntmps138
  go_wp2_with fail
  refine (HAT.out A _ _ (hp.keep (((Chg.refl No w).alloc _).alloc _))).mono ?_
  rintro e w1 ⟨rfl, rfl⟩
  go_wp2_with fail
  refine (HC.out (And1 A (w.heap.size + 1)) _ _ (hv0.and1 (((Chg.refl No w).alloc _).alloc _) (by omega)) (hB _ _)).mono ?_
  rintro e w1 ⟨v1, rfl, ⟨pv', mv', rfl, h1, h2⟩, h3⟩
  obtain ⟨pa', pn', pc', rfl⟩ := h1.shape
  obtain ⟨ma', mn', mc', rfl⟩ := h2.shape
  have k1 := ((((Chg.refl No w).alloc _).alloc _).keep h3)
  obtain ⟨r0, r1, r2, r3, r4, rf⟩ := ((Box.new (w.alloc _) _ _ _ _ _ _).at (n := w.heap.size + 1) (by simp)).keep h3
  have rf0 := rf 0
  have rf1 := rf 1
  have rf2 := rf 2
  have rf3 := rf 3
  have rf4 := rf 4
  go_wp2
  refine bodyPost_ret (v := .agg #[.int .i64 c'.pol, .int .i64 c'.size, .slice pa' pn' pc', .slice ma' mn' mc', .int .i64 c'.hand]) (by simp [results, Tryz.results138, go_sem, r0, r1, r2, r3, r4]) rfl ?_
  exact ⟨_, rfl, ⟨_, _, rfl, h1.put5 _ _ _ _ _, h2.put5 _ _ _ _ _⟩, k1.put5 (fun h => by omega) _ _ _ _ _⟩
 ·have hs : faultC c x = c' := by rw [← hc']; unfold stepC; rw [hh]; rfl
  have HS := Lib.hid hs
  have HE := Lib.hid he
  clear hs he hh hc'
  have hcall : ∀ A' W v, RC A' W v c → Bd A' W → Calls Tryz.prog 168 #[v, .int .i64 x] W (Ret fun v' w' => RC A' w' v' c' ∧ Chg No W w') := by
   intro A' W v h1 h2
   have := l4Fault_any A' v c x W h1 h2 hok
   rw [HS.out] at this; exact this
  have HC := Lib.hid hcall
  clear hcall
  have hat : ∀ A' W v, RI A' W v c.pages → Calls Tryz.prog 166 #[v, .int .i64 x] W fun e w' => e = .returned (.int .i64 (-1)) ∧ W = w' := by
   intro A' W v h1
   have := l4At_any A' v c.pages x W h1
   rw [HE.out] at this; exact this
  have HAT := Lib.hid hat
  clear hat
  go_enter Tryz.func138, Tryz.ntmps138
  go_wp2_with fail
  refine (HAT.out A _ _ (hp.keep (((Chg.refl No w).alloc _).alloc _))).mono ?_
  rintro e w1 ⟨rfl, rfl⟩
  go_wp2_with fail
  refine (HC.out (And1 A (w.heap.size + 1)) _ _ (hv0.and1 (((Chg.refl No w).alloc _).alloc _) (by omega)) (hB _ _)).mono ?_
  rintro e w1 ⟨v1, rfl, ⟨pv', mv', rfl, h1, h2⟩, h3⟩
  obtain ⟨pa', pn', pc', rfl⟩ := h1.shape
  obtain ⟨ma', mn', mc', rfl⟩ := h2.shape
  have k1 := ((((Chg.refl No w).alloc _).alloc _).keep h3)
  obtain ⟨r0, r1, r2, r3, r4, rf⟩ := ((Box.new (w.alloc _) _ _ _ _ _ _).at (n := w.heap.size + 1) (by simp)).keep h3
  have rf0 := rf 0
  have rf1 := rf 1
  have rf2 := rf 2
  have rf3 := rf 3
  have rf4 := rf 4
  go_wp2
  refine bodyPost_ret (v := .agg #[.int .i64 c'.pol, .int .i64 c'.size, .slice pa' pn' pc', .slice ma' mn' mc', .int .i64 c'.hand]) (by simp [results, Tryz.results138, go_sem, r0, r1, r2, r3, r4]) rfl ?_
  exact ⟨_, rfl, ⟨_, _, rfl, h1.put5 _ _ _ _ _, h2.put5 _ _ _ _ _⟩, k1.put5 (fun h => by omega) _ _ _ _ _⟩
end Go.Proofs.YtdgcohoneijleaaGreatDoor
namespace Go.Proofs.YtdgcohoneijleaaGreatDoor
open Go.RowKit
theorem quiet_sym {P : Program} {f : FuncId} {args : Array Value} {w : World} {n : Nat} {v : Value}
  (h : Calls P f args (w.drewN n) fun e w' => e = .returned v ∧ w.drewN n = w') : Calls P f args (w.drewN n) fun e w'' => e = .returned v ∧ ∃ m, w'' = w.drewN m :=
 Calls.quiet_of_same (h.mono fun _ _ h => ⟨h.1, h.2.symm⟩)
set_option maxHeartbeats 400000 in
theorem l4New_any (p k : Int) (w : World) :
  Calls Tryz.prog 125 #[.int .i64 p, .int .i64 k] w (Ret fun v' w' => (∀ A, Bd A w → RC A w' v' (newC p k)) ∧ Chg No w w') := by
 go_enter Tryz.func125, Tryz.ntmps125
 go_wp2
 refine bodyPost_ret (v := .agg #[.int .i64 p, .int .i64 k, .slice (some ⟨w.heap.size + 1, 0, none⟩) 0 0, .slice (some ⟨w.heap.size + 1 + 1, 0, none⟩) 0 0, .int .i64 0]) (by simp [results, Tryz.results125, go_sem]) rfl ?_
 exact ⟨_, rfl, fun A _ => ⟨_, _, rfl, RI.empty A _ _ 0 (by omega) (by simp), RI.empty A _ _ 0 (by omega) (by simp)⟩, (((Chg.refl No w).alloc _).alloc _).alloc _⟩
set_option maxHeartbeats 1000000 in
theorem l4Places_any (A : Nat → Prop) (v rv : Value) (c : Ca) (l : List Int) (w : World) (hv : RC A w v c) (hr : RI A w rv l) (_hA : Bd A w) (hok : Ok c) :
  Calls Tryz.prog 128 #[v, rv] w (Ret fun v' w' => OI w.heap.size w' v' (places c l) ∧ Chg No w w') := by
 obtain ⟨pv, mv, rfl, hp, hmk⟩ := hv
 obtain ⟨pa, pn, pc, rfl⟩ := hp.shape
 obtain ⟨ma, mn, mc, rfl⟩ := hmk.shape
 obtain ⟨a, cap, rfl, hcap, hmax, hlen, _, hc⟩ := id hr
 go_enter Tryz.func128, Tryz.ntmps128
 go_wp2
 go_loopw [5, 6] (fun o i wr => ∃ (k : Nat) (pv mv : Value) (B : Nat → Prop), k ≤ l.length ∧ i = .int .i64 k ∧ OI (w.heap.size + 1) wr o (placesTo c l k) ∧ (∀ q, own o q → B q) ∧ B w.heap.size ∧ Bd B wr ∧
   Box wr w.heap.size (.int .i64 (runC c (l.take k)).pol) (.int .i64 (runC c (l.take k)).size) pv mv (.int .i64 (runC c (l.take k)).hand) ∧
   RI B wr pv (runC c (l.take k)).pages ∧ RI B wr mv (runC c (l.take k)).marks ∧ Chg No w wr) (fun _ i _ => l.length - (intOf i).toNat)
 case atStart =>
  refine ⟨0, .slice pa pn pc, .slice ma mn mc, fun q => q = w.heap.size ∨ q = w.heap.size + 1, Nat.zero_le _, rfl, OI.zeroAt (World.size_alloc ..) (Nat.le_refl _), fun q hq => .inr (own_slice.1 hq), .inl rfl, fun q hq => ?_, ?_, ?_, ?_, ((Chg.refl No w).alloc _).alloc _⟩
  ·rw [World.size_alloc, World.size_alloc]
   rcases hq with h | h <;> omega
  ·exact (Box.new w _ _ _ _ _ _).keep ((Chg.refl No _).alloc _)
  ·exact hp.to (((Chg.refl No w).alloc _).alloc _) (fun _ e => e.elim) (fun q hq => .inr (by omega))
  ·exact hmk.to (((Chg.refl No w).alloc _).alloc _) (fun _ e => e.elim) (fun q hq => .inr (by omega))
 case round =>
  obtain ⟨k, pv, mv, B, hk, rfl, ho, hoB, hNB, hB, hbox, hp', hm', hch⟩ := hrel
  obtain ⟨pa', pn', pc', rfl⟩ := hp'.shape
  obtain ⟨ma', mn', mc', rfl⟩ := hm'.shape
  obtain ⟨ck, hck⟩ : ∃ ck, runC c (l.take k) = ck := ⟨_, rfl⟩
  have hokk : Ok ck := hck ▸ ok_run hok _
  rw [hck] at hbox hp' hm'
  by_cases hlt : k < l.length
  ·obtain ⟨b, off, rfl, _, hb, hcell⟩ := hc (by intro e; simp [e] at hlt)
   have hrun := runC_snoc c l k hlt
   rw [hck] at hrun
   obtain ⟨y, hy⟩ : ∃ y, l[k] = y := ⟨_, rfl⟩
   have hcl := (hch.cellD b (off + k) hb (fun e => e)).trans (hcell k hlt)
   have hgy : l.getD k 0 = y := by rw [← hy, List.getD_eq_getElem?_getD, List.getElem?_eq_getElem hlt]; rfl
   rw [hgy] at hcl
   rw [hy] at hrun
   have hpl : placesTo c l (k + 1) = if hasB ck.pages y then placesTo c l k else placesTo c l k ++ [(k : Int)] := by
    show (if hasB (runC c (l.take k)).pages (l.getD k 0) then _ else _) = _
    rw [hck, hgy]
   have HR := Lib.hid hrun
   have HP := Lib.hid hpl
   clear hcell hc hrun hpl hck hgy hy
   have hk0 : (0 : Int) ≤ (k : Int) := Int.natCast_nonneg _
   have hk1 : (k : Int) < (l.length : Int) := by omega
   have c2 := hbox.c2
   by_cases hh : hasB ck.pages y = true
   ·have HPL : Hid (placesTo c l (k + 1) = placesTo c l k) := Lib.hid (by rw [HP.out, if_pos hh])
    go_wp2_with fail
    go_quiet ((go_at_call 156; exact quiet_sym (l1Has_any B _ _ _ _ (by exact hp'.keep ((Chg.refl No wr).drewN _)))))
    have hd := (Chg.refl No wr).drewN nq
    have hbox1 := hbox.keep hd
    have hp1 := hp'.keep hd
    have hm1 := hm'.keep hd
    have ho1 := ho.keep hd
    rw [← HPL.out] at ho1
    have hB1 := hB.keep hd
    have hch1 := hch.keep hd
    have hcl1 := (hd.cellD b (off + k) (Nat.lt_of_lt_of_le hb hch.size) (fun e => e)).trans hcl
    obtain ⟨B1, hBB⟩ : ∃ B1, B = B1 := ⟨_, rfl⟩
    have hoB1 := hoB
    have hNB1 := hNB
    rw [hBB] at hp1 hm1 hB1 hoB1 hNB1
    clear hbox hp' hm' ho hch hB hcl c2 hBB hoB hNB
    go_wp2_with fail
    generalize wr.drewN nq = W1 at *
    ·skip
     have c0 := hbox1.c0
     have c1 := hbox1.c1
     have c2 := hbox1.c2
     have c3 := hbox1.c3
     have c4 := hbox1.c4
     have hfr := hbox1.fr
     go_wp2_with fail
     go_still_tail 5, (by kernel_rfl)
     have hd1 : Chg No W1 W1.drew := (Chg.refl No W1).drew
     change wpList _ _ _ _ _ W1.drew
     have hbox1 := hbox1.keep hd1
     have hp1 := hp1.keep hd1
     have hm1 := hm1.keep hd1
     have ho1 := ho1.keep hd1
     have hch1 := hch1.keep hd1
     have hB1 := hB1.keep hd1
     clear c0 c1 c2 c3 c4 hfr hcl1
     generalize W1.drew = W2 at hbox1 hp1 hm1 ho1 hch1 hB1 ⊢
     clear hd1
     go_wp2_with fail
     refine (l4Step_any B1 _ ck y W2 ⟨_, _, rfl, hp1, hm1⟩ hB1 hokk).mono ?_
     rintro e w3 ⟨v3, rfl, ⟨pv3, mv3, rfl, hp3, hm3⟩, hk3⟩
     rw [← HR.out] at hp3 hm3
     obtain ⟨pa3, pn3, pc3, rfl⟩ := hp3.shape
     obtain ⟨ma3, mn3, mc3, rfl⟩ := hm3.shape
     have hbox3 := hbox1.keep hk3
     obtain ⟨c0, c1, c2, c3, c4, hfr⟩ := id hbox3
     have hfr0 := hfr 0
     have hfr1 := hfr 1
     have hfr2 := hfr 2
     have hfr3 := hfr 3
     have hfr4 := hfr 4
     go_wp2
     go_roundw
     case measure => simp [intOf]; omega
     case rel =>
      refine ⟨k + 1, .slice pa3 pn3 pc3, .slice ma3 mn3 mc3, B1, by omega, by go_num, (ho1.keep hk3).put5 (fun q hq e => by have := (ho1.lt q hq).1; omega) _ _ _ _ _, hoB1, hNB1, ?_, ?_, ?_, ?_, (hch1.keep hk3).put5 (fun h => by omega) _ _ _ _ _⟩
      ·exact (hB1.keep hk3).keep ((Chg.refl (fun q => q = w.heap.size) _).put5 (fun _ => rfl) _ _ _ _ _)
      ·have := hbox3.put5 (.int .i64 (stepC ck y).pol) (.int .i64 (stepC ck y).size) (.slice pa3 pn3 pc3) (.slice ma3 mn3 mc3) (.int .i64 (stepC ck y).hand)
       rw [HR.out]
       exact this
      ·exact hp3.step ((Chg.refl (fun q => q = w.heap.size) _).put5 (fun _ => rfl) _ _ _ _ _) (fun q hq => hq ▸ hNB1)
      ·exact hm3.step ((Chg.refl (fun q => q = w.heap.size) _).put5 (fun _ => rfl) _ _ _ _ _) (fun q hq => hq ▸ hNB1)
   ·replace hh : hasB ck.pages y = false := by simpa using hh
    have HPL : Hid (placesTo c l (k + 1) = placesTo c l k ++ [(k : Int)]) := Lib.hid (by rw [HP.out, if_neg (by simp [hh])])
    go_wp2_with fail
    go_quiet ((go_at_call 156; exact quiet_sym (l1Has_any B _ _ _ _ (by exact hp'.keep ((Chg.refl No wr).drewN _)))))
    have hd := (Chg.refl No wr).drewN nq
    go_wp2_with (at_builtin; refine wapp1 rfl (.tmp 22) (.tmp 24) rfl (ho.keep hd) rfl rfl (by have := placesTo_le c l k; omega) (by have := hbox.lt; show w.heap.size + 1 ≤ wr.heap.size; omega) ?_)
    intro o1 W1 ho1 hch' hnew
    rw [← HPL.out] at ho1
    have hT := hoB
    have hchw := hd
    have hNo := ho.notOwn (Nat.lt_succ_self w.heap.size)
    have hbox1 := (hbox.keep hd).step hch' hNo
    obtain ⟨B1, hB1e⟩ : ∃ B1, B1 = Or2 B (own o1) := ⟨_, rfl⟩
    have hp1 := (hp'.keep hd).app hch' hT hnew
    have hm1 := (hm'.keep hd).app hch' hT hnew
    have hB1 : Bd (Or2 B (own o1)) W1 := ((hB.keep hd).keep hch').or (fun q hq => (ho1.lt q hq).2)
    have hch1 := (hch.keep hd).own hch' ho (by omega)
    have hcl1 := (hch'.cellD b (off + k) (Nat.lt_of_lt_of_le hb hch.size) (fun hq => by have := (ho.lt _ hq).1; omega)).trans hcl
    have hoB1 : ∀ q, own o1 q → Or2 B (own o1) q := fun q hq => .inr hq
    have hNB1 : Or2 B (own o1) w.heap.size := .inl hNB
    rw [← hB1e] at hp1 hm1 hB1 hoB1 hNB1
    clear hbox hp' hm' ho hch hB hcl c2 hB1e hoB hNB hchw hNo hT hch' hd
    ·skip
     have c0 := hbox1.c0
     have c1 := hbox1.c1
     have c2 := hbox1.c2
     have c3 := hbox1.c3
     have c4 := hbox1.c4
     have hfr := hbox1.fr
     go_wp2_with fail
     go_still_tail 5, (by kernel_rfl)
     have hd1 : Chg No W1 W1.drew := (Chg.refl No W1).drew
     change wpList _ _ _ _ _ W1.drew
     have hbox1 := hbox1.keep hd1
     have hp1 := hp1.keep hd1
     have hm1 := hm1.keep hd1
     have ho1 := ho1.keep hd1
     have hch1 := hch1.keep hd1
     have hB1 := hB1.keep hd1
     clear c0 c1 c2 c3 c4 hfr hcl1
     generalize W1.drew = W2 at hbox1 hp1 hm1 ho1 hch1 hB1 ⊢
     clear hd1
     go_wp2_with fail
     refine (l4Step_any B1 _ ck y W2 ⟨_, _, rfl, hp1, hm1⟩ hB1 hokk).mono ?_
     rintro e w3 ⟨v3, rfl, ⟨pv3, mv3, rfl, hp3, hm3⟩, hk3⟩
     rw [← HR.out] at hp3 hm3
     obtain ⟨pa3, pn3, pc3, rfl⟩ := hp3.shape
     obtain ⟨ma3, mn3, mc3, rfl⟩ := hm3.shape
     have hbox3 := hbox1.keep hk3
     obtain ⟨c0, c1, c2, c3, c4, hfr⟩ := id hbox3
     have hfr0 := hfr 0
     have hfr1 := hfr 1
     have hfr2 := hfr 2
     have hfr3 := hfr 3
     have hfr4 := hfr 4
     go_wp2
     go_roundw
     case measure => simp [intOf]; omega
     case rel =>
      refine ⟨k + 1, .slice pa3 pn3 pc3, .slice ma3 mn3 mc3, B1, by omega, by go_num, (ho1.keep hk3).put5 (fun q hq e => by have := (ho1.lt q hq).1; omega) _ _ _ _ _, hoB1, hNB1, ?_, ?_, ?_, ?_, (hch1.keep hk3).put5 (fun h => by omega) _ _ _ _ _⟩
      ·exact (hB1.keep hk3).keep ((Chg.refl (fun q => q = w.heap.size) _).put5 (fun _ => rfl) _ _ _ _ _)
      ·have := hbox3.put5 (.int .i64 (stepC ck y).pol) (.int .i64 (stepC ck y).size) (.slice pa3 pn3 pc3) (.slice ma3 mn3 mc3) (.int .i64 (stepC ck y).hand)
       rw [HR.out]
       exact this
      ·exact hp3.step ((Chg.refl (fun q => q = w.heap.size) _).put5 (fun _ => rfl) _ _ _ _ _) (fun q hq => hq ▸ hNB1)
      ·exact hm3.step ((Chg.refl (fun q => q = w.heap.size) _).put5 (fun _ => rfl) _ _ _ _ _) (fun q hq => hq ▸ hNB1)
  ·have hkl : k = l.length := by omega
   go_wp2
   go_ret
   subst hkl
   exact ⟨_, rfl, ho.weak (by omega), hch⟩
end Go.Proofs.YtdgcohoneijleaaGreatDoor
