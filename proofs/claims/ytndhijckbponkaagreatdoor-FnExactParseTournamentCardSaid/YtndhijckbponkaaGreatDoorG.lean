import Derived.Test.YtndhijckbponkaaGreatDoorPkX3
namespace Go.Proofs.YtndhijckbponkaaGreatDoor
open Go.RowKit

set_option maxRecDepth 100000 in
set_option maxHeartbeats 1000000 in
theorem l4Fault_full5 (A : Nat → Prop) (v : Value) (k : Int) (ps ms : List Int) (hd x : Int) (w : World) (hv : RC A w v ⟨5, k, ps, ms, hd⟩) (hA : Bd A w) (hok : Ok ⟨5, k, ps, ms, hd⟩) (hf : Hid ((ps.length : Int) = k)) :
    Calls Tryz.prog 168 #[v, .int .i64 x] w (Ret fun v' w' => RC A w' v' (faultC ⟨5, k, ps, ms, hd⟩ x) ∧ Chg No w w') := by
  obtain ⟨at', hat⟩ : ∃ q, victim ⟨5, k, ps, ms, hd⟩ = q := ⟨_, rfl⟩
  have hk := hok.size
  simp only at hk
  have hlen : at' < ps.length := by
    have := victim_lt hok (by simp only; have := hf.out; omega) (by simp only; omega)
    rw [hat] at this
    exact this
  have e : faultC ⟨5, k, ps, ms, hd⟩ x = ⟨5, k, x :: ps.eraseIdx at', 1 :: ms.eraseIdx at', hd⟩ := by
    unfold faultC
    rw [if_neg (by simp only; omega), if_pos hf.out, if_neg (by simp only; omega), if_pos rfl, if_pos hf.out, hat]
  rw [e]; clear e
  have hml := hok.marks (.inl rfl)
  simp only at hml
  have hlen5 : at' < ms.length := by omega
  have hl65 : ms.length ≤ 6 := by have := hf.out; omega
  clear hml
  have hl6 : ps.length ≤ 6 := by have := hf.out; omega
  have hvic : ∀ A' W v, RC A' W v ⟨5, k, ps, ms, hd⟩ → Calls Tryz.prog 191 #[v] W (Ret fun v' w' => v' = .int .i64 at' ∧ Chg No W w') := by
    intro A' W v hv
    have := l4Victim_any A' v _ W hv hok hf.out
    rw [hat] at this
    exact this
  have HV := Lib.hid hvic
  clear hvic hat
  have hv0 := hv
  obtain ⟨pv, mv, rfl, hp, hmk⟩ := hv
  simp only at hp hmk ⊢
  obtain ⟨pa, pn, pc, rfl⟩ := hp.shape
  obtain ⟨ma, mn, mc, rfl⟩ := hmk.shape
  have hpk : ((pn : Int) == k) = true := by have := hp.n; have := hf.out; simp; omega
  clear hok
  go_enter Tryz.func168, Tryz.ntmps168
  go_wp2_with fail
  refine box3 (R := fun W => Calls _ _ _ W _) (fun W hW b0 b1 b2 => ?_)
  have zW := hW.size
  have hl2 := b2.lt
  refine (HV.out A _ _ (hv0.keep hW)).mono ?_
  rintro e w0 ⟨v0, rfl, rfl, h0⟩
  have b0 := b0.keep h0
  have b1 := b1.keep h0
  have b2 := b2.keep h0
  have hW := hW.keep h0
  have zW := hW.size
  have hl2 := b2.lt
  have p00 := b0.c0
  have p02 := b0.c2
  go_wp2_with fail
  refine (l4Without_any A _ ps at' _ (hp.keep hW) hlen).mono ?_
  rintro e w1 ⟨v1, rfl, h1, h2⟩
  obtain ⟨a1, n1, c1, rfl⟩ := h1.shape
  have k1 := hW.keep h2
  have B2 := b2.keep h2
  have hz : ∀ q, own (.slice a1 n1 c1) q → w0.heap.size ≤ q := fun q hq => (h1.lt q hq).1
  have g2 := B2.c2
  have f2 := B2.fr 2
  have B0 := (b0.keep h2).far ⟨w.heap.size + 1 + 1, 2, none⟩ (.slice a1 n1 c1) (by simp; omega)
  have B1 := (b1.keep h2).far ⟨w.heap.size + 1 + 1, 2, none⟩ (.slice a1 n1 c1) (by simp)
  have C2 := B2.set2 (.slice a1 n1 c1)
  have k2 := k1.setCell (p := ⟨w.heap.size + 1 + 1, 2, none⟩) (fun h => by simp at h; omega) (.slice a1 n1 c1)
  have o1 := h1.set (w.heap.size + 1 + 1) 2 (.slice a1 n1 c1) (fun hq => by have := hz _ hq; omega)
  have b00 := (b0.keep h2).c0
  have b03 := (b0.keep h2).c3
  go_wp2_with fail
  refine (l4Without_any A _ ms at' _ (hmk.keep k2) hlen5).mono ?_
  rintro e w5 ⟨v5, rfl, h5, h6⟩
  obtain ⟨a5, n5, c5, rfl⟩ := h5.shape
  have k5 := k2.keep h6
  have E2 := C2.keep h6
  have e3 := E2.c3
  have ef := E2.fr 3
  have o5 := o1.keep h6
  have hz5 : ∀ q, own (.slice a5 n5 c5) q → w1.heap.size ≤ q := fun q hq => by have := (h5.lt q hq).1; simpa using this
  have hzw : w0.heap.size ≤ w1.heap.size := h2.size
  have hz15 : w1.heap.size ≤ w5.heap.size := by have := h6.size; simpa using this
  have G0 := (B0.keep h6).far ⟨w.heap.size + 1 + 1, 3, none⟩ (.slice a5 n5 c5) (by simp; omega)
  have G1 := (B1.keep h6).far ⟨w.heap.size + 1 + 1, 3, none⟩ (.slice a5 n5 c5) (by simp)
  have G2 := E2.set3 (.slice a5 n5 c5)
  have k6 := k5.setCell (p := ⟨w.heap.size + 1 + 1, 3, none⟩) (fun h => by simp at h; omega) (.slice a5 n5 c5)
  have o6 := o5.set (w.heap.size + 1 + 1) 3 (.slice a5 n5 c5) (fun hq => by have := hz _ hq; omega)
  have s6 := h5.set (w.heap.size + 1 + 1) 3 (.slice a5 n5 c5) (fun hq => by have := hz5 _ hq; omega)
  have e2c := E2.c2
  go_wp2_with fail
  refine (l4Front_any No _ _ _ _ o6.readNo (by rw [List.length_eraseIdx_of_lt hlen]; omega)).mono ?_
  rintro e w3 ⟨v3, rfl, h3, h4⟩
  obtain ⟨a3, n3, c3, rfl⟩ := h3.shape
  have k3 := k6.keep h4
  have D2 := G2.keep h4
  have D1 := G1.keep h4
  have D0 := G0.keep h4
  have o3 := s6.keep h4
  have hz3 : ∀ q, own (.slice a3 n3 c3) q → w5.heap.size ≤ q := fun q hq => by have := (h3.lt q hq).1; simpa using this
  have hz53 : w5.heap.size ≤ w3.heap.size := by have := h4.size; simpa using this
  have g3 := D2.c2
  have f3 := D2.fr 2
  have d00 := D0.c0
  have H2 := D2.set2 (.slice a3 n3 c3)
  have H1 := D1.far ⟨w.heap.size + 1 + 1, 2, none⟩ (.slice a3 n3 c3) (by simp)
  have k4 := k3.setCell (p := ⟨w.heap.size + 1 + 1, 2, none⟩) (fun h => by simp at h; omega) (.slice a3 n3 c3)
  have o7 := h3.set (w.heap.size + 1 + 1) 2 (.slice a3 n3 c3) (fun hq => by have := hz3 _ hq; omega)
  have o8 := o3.set (w.heap.size + 1 + 1) 2 (.slice a3 n3 c3) (fun hq => by have := hz5 _ hq; omega)
  have d23 := D2.c3
  go_wp2_with fail
  refine (l4Front_any No _ _ _ _ o8.readNo (by rw [List.length_eraseIdx_of_lt hlen5]; omega)).mono ?_
  rintro e w7 ⟨v7, rfl, h7, h8⟩
  obtain ⟨a7, n7, c7, rfl⟩ := h7.shape
  have k7 := k4.keep h8
  have J2 := H2.keep h8
  have J1 := H1.keep h8
  have o9 := o7.keep h8
  have hz7 : ∀ q, own (.slice a7 n7 c7) q → w3.heap.size ≤ q := fun q hq => by have := (h7.lt q hq).1; simpa using this
  have j3 := J2.c3
  have jf := J2.fr 3
  obtain ⟨q0, q1, q2, q3, q4, qf⟩ := J2.set3 (.slice a7 n7 c7)
  obtain ⟨r0, r1, r2, r3, r4, rf⟩ := J1.far ⟨w.heap.size + 1 + 1, 3, none⟩ (.slice a7 n7 c7) (by simp)
  have k8 := k7.setCell (p := ⟨w.heap.size + 1 + 1, 3, none⟩) (fun h => by simp at h; omega) (.slice a7 n7 c7)
  go_wp2
  refine bodyPost_ret (v := .agg #[_, .int .i64 k, .slice a3 n3 c3, .slice a7 n7 c7, .int .i64 hd]) (by simp [results, Tryz.results168, go_sem, r0, r1, r2, r3, r4]; rfl) rfl ?_
  refine ⟨_, rfl, ⟨_, _, rfl, ?_, ?_⟩, k8.put5 (fun h => by omega) _ _ _ _ _⟩
  · have h3' : OI w5.heap.size _ (.slice a3 n3 c3) (x :: ps.eraseIdx at') := o9.weak (by simp)
    refine ((h3'.set (w.heap.size + 1 + 1) 3 _ (fun hq => ?_)).put5 (fun q hq => ?_) _ _ _ _ _).readBd hA (by omega)
    · have := hz3 _ hq; omega
    · have := hz3 q hq; omega
  · have h7' : OI w3.heap.size w7 (.slice a7 n7 c7) (1 :: ms.eraseIdx at') := h7.weak (by simp)
    refine ((h7'.set (w.heap.size + 1 + 1) 3 _ (fun hq => ?_)).put5 (fun q hq => ?_) _ _ _ _ _).readBd hA (by omega)
    · have := hz7 _ hq; omega
    · have := hz7 q hq; omega

set_option maxRecDepth 100000 in
set_option maxHeartbeats 1000000 in
theorem l4Fault_full4 (A : Nat → Prop) (v : Value) (k : Int) (ps ms : List Int) (hd x : Int) (w : World) (hv : RC A w v ⟨4, k, ps, ms, hd⟩) (hA : Bd A w) (hok : Ok ⟨4, k, ps, ms, hd⟩) (hf : Hid ((ps.length : Int) = k)) :
    Calls Tryz.prog 168 #[v, .int .i64 x] w (Ret fun v' w' => RC A w' v' (faultC ⟨4, k, ps, ms, hd⟩ x) ∧ Chg No w w') := by
  obtain ⟨at', hat⟩ : ∃ q, victim ⟨4, k, ps, ms, hd⟩ = q := ⟨_, rfl⟩
  have hk := hok.size
  simp only at hk
  have e : faultC ⟨4, k, ps, ms, hd⟩ x = ⟨4, k, [x], ms, hd⟩ := by
    unfold faultC
    rw [if_neg (by simp only; omega), if_pos hf.out, if_pos rfl, if_neg (by simp only; omega)]
  rw [e]; clear e
  have hvic : ∀ A' W v, RC A' W v ⟨4, k, ps, ms, hd⟩ → Calls Tryz.prog 191 #[v] W (Ret fun v' w' => v' = .int .i64 at' ∧ Chg No W w') := by
    intro A' W v hv
    have := l4Victim_any A' v _ W hv hok hf.out
    rw [hat] at this
    exact this
  have HV := Lib.hid hvic
  clear hvic hat
  have hv0 := hv
  obtain ⟨pv, mv, rfl, hp, hmk⟩ := hv
  simp only at hp hmk ⊢
  obtain ⟨pa, pn, pc, rfl⟩ := hp.shape
  obtain ⟨ma, mn, mc, rfl⟩ := hmk.shape
  have hpk : ((pn : Int) == k) = true := by have := hp.n; have := hf.out; simp; omega
  clear hok
  go_enter Tryz.func168, Tryz.ntmps168
  go_wp2_with fail
  refine box3 (R := fun W => Calls _ _ _ W _) (fun W hW b0 b1 b2 => ?_)
  refine (HV.out A _ _ (hv0.keep hW)).mono ?_
  rintro e w0 ⟨v0, rfl, rfl, h0⟩
  have b0 := b0.keep h0
  have b1 := b1.keep h0
  have b2 := b2.keep h0
  have hW := hW.keep h0
  have zW := hW.size
  have hl2 := b2.lt
  have p00 := b0.c0
  have l0 := b0.lt
  have p22 := b2.c2
  have pf2 := b2.fr 2
  have p23 := b2.c3
  have B0 := (b0.far ⟨w.heap.size + 1 + 1, 2, none⟩ (.slice (some ⟨w0.heap.size, 0, none⟩) 0 0) (by simp; omega)).keep ((Chg.refl No _).alloc (.cells #[] 3))
  have B1 := (b1.far ⟨w.heap.size + 1 + 1, 2, none⟩ (.slice (some ⟨w0.heap.size, 0, none⟩) 0 0) (by simp)).keep ((Chg.refl No _).alloc (.cells #[] 3))
  have C2 := (b2.set2 (.slice (some ⟨w0.heap.size, 0, none⟩) 0 0)).keep ((Chg.refl No _).alloc (.cells #[] 3))
  have k2 := (hW.setCell (p := ⟨w.heap.size + 1 + 1, 2, none⟩) (fun h => by simp at h; omega) (.slice (some ⟨w0.heap.size, 0, none⟩) 0 0)).alloc (.cells #[] 3)
  go_wp2_with fail
  refine (l4Front_any No _ [] _ _ (RI.empty No _ _ 0 (by omega) (by simp)) (by simp)).mono ?_
  rintro e w3 ⟨v3, rfl, h3, h4⟩
  obtain ⟨a3, n3, c3, rfl⟩ := h3.shape
  have k3 := k2.keep h4
  have D2 := C2.keep h4
  have hz3 : ∀ q, own (.slice a3 n3 c3) q → w0.heap.size ≤ q := fun q hq => by have := (h3.lt q hq).1; simp at this; omega
  have g3 := D2.c2
  have f3 := D2.fr 2
  have d00 := (B0.keep h4).c0
  obtain ⟨q0, q1, q2, q3, q4, qf⟩ := D2.set2 (.slice a3 n3 c3)
  obtain ⟨r0, r1, r2, r3, r4, rf⟩ := (B1.keep h4).far ⟨w.heap.size + 1 + 1, 2, none⟩ (.slice a3 n3 c3) (by simp)
  have k4 := k3.setCell (p := ⟨w.heap.size + 1 + 1, 2, none⟩) (fun h => by simp at h; omega) (.slice a3 n3 c3)
  go_wp2
  refine bodyPost_ret (v := .agg #[_, .int .i64 k, .slice a3 n3 c3, .slice ma mn mc, .int .i64 hd]) (by simp [results, Tryz.results168, go_sem, r0, r1, r2, r3, r4]; rfl) rfl ?_
  refine ⟨_, rfl, ⟨_, _, rfl, ?_, hmk.keep (k4.put5 (fun h => by omega) _ _ _ _ _)⟩, k4.put5 (fun h => by omega) _ _ _ _ _⟩
  have h3' : OI w0.heap.size w3 (.slice a3 n3 c3) [x] := h3.weak (by simp)
  refine ((h3'.set (w.heap.size + 1 + 1) 2 _ (fun hq => ?_)).put5 (fun q hq => ?_) _ _ _ _ _).readBd hA (by omega)
  · have := hz3 _ hq; omega
  · have := hz3 q hq; omega

theorem l4Fault_any (A : Nat → Prop) (v : Value) (c : Ca) (x : Int) (w : World) (hv : RC A w v c) (hA : Bd A w) (hok : Ok c) :
    Calls Tryz.prog 168 #[v, .int .i64 x] w (Ret fun v' w' => RC A w' v' (faultC c x) ∧ Chg No w w') := by
  have hpol := hok.pol
  have hs := hok.size
  have hl := hok.len
  have hm := hok.marks
  obtain ⟨p, k, ps, ms, hd⟩ := c
  simp only at *
  have hcase : p = 6 ∨ p = 5 ∨ p = 4 ∨ (p = 1 ∨ p = 2 ∨ p = 3 ∨ p = 7) := by omega
  by_cases hf : (ps.length : Int) = k
  · rcases hcase with rfl | rfl | rfl | h
    · exact l4Fault_6 A v k ps ms hd x w hv hA hok
    · exact l4Fault_full5 A v k ps ms hd x w hv hA hok (Lib.hid hf)
    · exact l4Fault_full4 A v k ps ms hd x w hv hA hok (Lib.hid hf)
    · exact l4Fault_full A v p k ps ms hd x w hv hA hok h (Lib.hid hf)
  · rcases hcase with rfl | rfl | rfl | h
    · exact l4Fault_6 A v k ps ms hd x w hv hA hok
    · exact l4Fault_room5 A v k ps ms hd x w hv hA (by omega) (by omega) (hm (.inl rfl))
    · exact l4Fault_room A v 4 k ps ms hd x w hv hA (by omega) (by omega) (by omega)
    · exact l4Fault_room A v p k ps ms hd x w hv hA (by omega) (by omega) (by omega)

set_option maxRecDepth 100000 in
set_option maxHeartbeats 1000000 in
theorem l4Step_any (A : Nat → Prop) (v : Value) (c : Ca) (x : Int) (w : World) (hv : RC A w v c) (hA : Bd A w) (hok : Ok c) :
    Calls Tryz.prog 138 #[v, .int .i64 x] w (Ret fun v' w' => RC A w' v' (stepC c x) ∧ Chg No w w') := by
  obtain ⟨c', hc'⟩ : ∃ c', stepC c x = c' := ⟨_, rfl⟩
  rw [hc']
  have hv0 := hv
  obtain ⟨pv, mv, rfl, hp, hmk⟩ := hv
  obtain ⟨pa, pn, pc, rfl⟩ := hp.shape
  obtain ⟨ma, mn, mc, rfl⟩ := hmk.shape
  have hB := fun o1 o2 => ((hA.alloc o1).alloc o2).and1 (b := w.heap.size + 1) (by simp)
  rcases atI_spec c.pages x with ⟨hh, i, hi, he⟩ | ⟨hh, he⟩
  · have hs : hitC c i = c' := by rw [← hc']; unfold stepC; rw [if_pos hh, he]; rfl
    have HS := Lib.hid hs
    have HE := Lib.hid he
    clear hs he hh hc'
    have hcall : ∀ A' W v, RC A' W v c → Bd A' W → Calls Tryz.prog 167 #[v, .int .i64 i] W (Ret fun v' w' => RC A' w' v' c' ∧ Chg No W w') := by
      intro A' W v h1 h2
      have := l4Hit_any A' v c i W h1 h2 hok hi
      rw [HS.out] at this; exact this
    have HC := Lib.hid hcall
    clear hcall
    have hat : ∀ A' W v, RI A' W v c.pages → Calls Tryz.prog 166 #[v, .int .i64 x] W fun e w' => e = .returned (.int .i64 i) ∧ W = w' := by
      intro A' W v h1
      have := l4At_any A' v c.pages x W h1
      rw [HE.out] at this; exact this
    have HAT := Lib.hid hat
    clear hat
    go_enter Tryz.func138, Tryz.ntmps138
    go_wp2_with fail
    refine (HAT.out A _ _ (hp.keep (((Chg.refl No w).alloc _).alloc _))).mono ?_
    rintro e w1 ⟨rfl, rfl⟩
    go_wp2_with fail
    refine (HC.out (And1 A (w.heap.size + 1)) _ _ (hv0.and1 (((Chg.refl No w).alloc _).alloc _) (by omega)) (hB _ _)).mono ?_
    rintro e w1 ⟨v1, rfl, ⟨pv', mv', rfl, h1, h2⟩, h3⟩
    obtain ⟨pa', pn', pc', rfl⟩ := h1.shape
    obtain ⟨ma', mn', mc', rfl⟩ := h2.shape
    have k1 := ((((Chg.refl No w).alloc _).alloc _).keep h3)
    obtain ⟨r0, r1, r2, r3, r4, rf⟩ := ((Box.new (w.alloc _) _ _ _ _ _ _).at (n := w.heap.size + 1) (by simp)).keep h3
    have rf0 := rf 0
    have rf1 := rf 1
    have rf2 := rf 2
    have rf3 := rf 3
    have rf4 := rf 4
    go_wp2
    refine bodyPost_ret (v := .agg #[.int .i64 c'.pol, .int .i64 c'.size, .slice pa' pn' pc', .slice ma' mn' mc', .int .i64 c'.hand]) (by simp [results, Tryz.results138, go_sem, r0, r1, r2, r3, r4]) rfl ?_
    exact ⟨_, rfl, ⟨_, _, rfl, h1.put5 _ _ _ _ _, h2.put5 _ _ _ _ _⟩, k1.put5 (fun h => by omega) _ _ _ _ _⟩
  · have hs : faultC c x = c' := by rw [← hc']; unfold stepC; rw [hh]; rfl
    have HS := Lib.hid hs
    have HE := Lib.hid he
    clear hs he hh hc'
    have hcall : ∀ A' W v, RC A' W v c → Bd A' W → Calls Tryz.prog 168 #[v, .int .i64 x] W (Ret fun v' w' => RC A' w' v' c' ∧ Chg No W w') := by
      intro A' W v h1 h2
      have := l4Fault_any A' v c x W h1 h2 hok
      rw [HS.out] at this; exact this
    have HC := Lib.hid hcall
    clear hcall
    have hat : ∀ A' W v, RI A' W v c.pages → Calls Tryz.prog 166 #[v, .int .i64 x] W fun e w' => e = .returned (.int .i64 (-1)) ∧ W = w' := by
      intro A' W v h1
      have := l4At_any A' v c.pages x W h1
      rw [HE.out] at this; exact this
    have HAT := Lib.hid hat
    clear hat
    go_enter Tryz.func138, Tryz.ntmps138
    go_wp2_with fail
    refine (HAT.out A _ _ (hp.keep (((Chg.refl No w).alloc _).alloc _))).mono ?_
    rintro e w1 ⟨rfl, rfl⟩
    go_wp2_with fail
    refine (HC.out (And1 A (w.heap.size + 1)) _ _ (hv0.and1 (((Chg.refl No w).alloc _).alloc _) (by omega)) (hB _ _)).mono ?_
    rintro e w1 ⟨v1, rfl, ⟨pv', mv', rfl, h1, h2⟩, h3⟩
    obtain ⟨pa', pn', pc', rfl⟩ := h1.shape
    obtain ⟨ma', mn', mc', rfl⟩ := h2.shape
    have k1 := ((((Chg.refl No w).alloc _).alloc _).keep h3)
    obtain ⟨r0, r1, r2, r3, r4, rf⟩ := ((Box.new (w.alloc _) _ _ _ _ _ _).at (n := w.heap.size + 1) (by simp)).keep h3
    have rf0 := rf 0
    have rf1 := rf 1
    have rf2 := rf 2
    have rf3 := rf 3
    have rf4 := rf 4
    go_wp2
    refine bodyPost_ret (v := .agg #[.int .i64 c'.pol, .int .i64 c'.size, .slice pa' pn' pc', .slice ma' mn' mc', .int .i64 c'.hand]) (by simp [results, Tryz.results138, go_sem, r0, r1, r2, r3, r4]) rfl ?_
    exact ⟨_, rfl, ⟨_, _, rfl, h1.put5 _ _ _ _ _, h2.put5 _ _ _ _ _⟩, k1.put5 (fun h => by omega) _ _ _ _ _⟩
end Go.Proofs.YtndhijckbponkaaGreatDoor
