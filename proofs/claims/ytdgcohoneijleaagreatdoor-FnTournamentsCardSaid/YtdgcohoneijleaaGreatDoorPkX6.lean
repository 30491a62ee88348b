import Derived.Test.YtdgcohoneijleaaGreatDoorC
set_option maxRecDepth 100000
namespace Go.Proofs.YtdgcohoneijleaaGreatDoor
open Go.RowKit
theorem fld4 (x0 x1 x2 x3 : Value) (z : Int) (w : World) : (Instr.field 66 (.agg #[x0, x1, x2, x3, .int .i64 z]) 4).run Tryz.prog w = .ok (.int .i64 z) w := by kernel_rfl
set_option maxHeartbeats 1000000 in
theorem l4Victim_any (A : Nat → Prop) (v : Value) (c : Ca) (w : World) (hv : RC A w v c) (hok : Ok c) (hf : (c.pages.length : Int) = c.size) :
  Calls Tryz.prog 191 #[v] w (Ret fun v' w' => v' = .int .i64 (victim c) ∧ Chg No w w') := by
 have hpol := hok.pol
 have hm := hok.marks
 have hs := hok.size
 obtain ⟨p, k, ps, ms, hd⟩ := c
 obtain ⟨pv, mv, rfl, hp, hmk⟩ := hv
 simp only at *
 obtain ⟨pa, pc, rfl, _, _, hlen, _⟩ := id hp
 obtain ⟨ma, mn, mc, rfl⟩ := hmk.shape
 have hcase : (p = 1 ∨ p = 2 ∨ p = 4) ∨ (p = 3 ∨ p = 7) ∨ p = 5 ∨ p = 6 := by omega
 have HF := Lib.hid hf
 clear hf
 rcases hcase with h | h | rfl | rfl
 ·have e : victim ⟨p, k, ps, ms, hd⟩ = ps.length - 1 := by
   unfold victim
   rw [if_neg (by simp only; omega), if_neg (by simp only; omega), if_neg (by simp only; omega)]
  have h1 : 1 ≤ ps.length := by have := HF.out; omega
  rw [e]
  rcases h with rfl | rfl | rfl
  all_goals
   go_enter Tryz.func191, Tryz.ntmps191
   go_wp2_with fail
   go_ret
   exact ⟨_, rfl, congrArg (Value.int .i64) (by omega), (Chg.refl No w).alloc _⟩
 ·have e : victim ⟨p, k, ps, ms, hd⟩ = 0 := by simp [victim, h]
  rw [e]
  rcases h with rfl | rfl
  all_goals
   go_enter Tryz.func191, Tryz.ntmps191
   go_wp2_with fail
   go_ret
   exact ⟨_, rfl, rfl, (Chg.refl No w).alloc _⟩
 ·have e : victim ⟨5, k, ps, ms, hd⟩ = rarest ms := by simp [victim]
  rw [e]
  have hl : 0 < ms.length := by have := HF.out; have := hm (.inl rfl); omega
  go_enter Tryz.func191, Tryz.ntmps191
  go_wp2_with fail
  refine (l4Rarest_any A _ ms _ (hmk.keep ((Chg.refl No w).alloc _)) hl).mono ?_
  rintro e w1 ⟨v1, rfl, rfl, h1⟩
  go_wp2_with fail
  go_ret
  exact ⟨_, rfl, rfl, ((Chg.refl No w).alloc _).keep h1⟩
 ·have e : victim ⟨6, k, ps, ms, hd⟩ = (turned ⟨6, k, ps, ms, hd⟩).2 := by simp [victim]
  rw [e]
  have hl : Hid (ms.length = k.toNat) := by have := HF.out; have := hm (.inr rfl); exact Lib.hid (by omega)
  go_enter Tryz.func191, Tryz.ntmps191
  go_wp2_with fail
  refine (l4Turn_any A _ _ ⟨6, k, ps, ms, hd⟩ _ (hp.keep ((Chg.refl No w).alloc _)) (hmk.keep ((Chg.refl No w).alloc _)) hok hl).mono ?_
  rintro e w1 ⟨v1, rfl, ⟨mv', rfl, h1, h2⟩⟩
  have hfd := fun (w : World) => fld4 (.int .i64 6) (.int .i64 k) (.slice pa ps.length pc) mv' (turned ⟨6, k, ps, ms, hd⟩).2 w
  go_wp2_with fail
  go_ret
  exact ⟨_, rfl, rfl, ((Chg.refl No w).alloc _).keep h2⟩
set_option maxHeartbeats 1000000 in
theorem l4Clock_room (A : Nat → Prop) (v : Value) (k : Int) (ps ms : List Int) (hd x : Int) (w : World) (hv : RC A w v ⟨6, k, ps, ms, hd⟩) (hA : Bd A w) (hf : (ps.length : Int) < k) (hml : ms.length < 17592186044416) (hk : k ≤ 6) :
  Calls Tryz.prog 190 #[v, .int .i64 x] w (Ret fun v' w' => RC A w' v' (clockC ⟨6, k, ps, ms, hd⟩ x) ∧ Chg No w w') := by
 have e : clockC ⟨6, k, ps, ms, hd⟩ x = ⟨6, k, ps ++ [x], ms ++ [1], hd⟩ := by simp [clockC, hf]
 rw [e]; clear e
 obtain ⟨pv, mv, rfl, hp, hmk⟩ := hv
 simp only at hp hmk ⊢
 obtain ⟨pa, pc, rfl, _⟩ := id hp
 obtain ⟨ma, mn, mc, rfl⟩ := hmk.shape
 go_enter Tryz.func190, Tryz.ntmps190
 go_wp2_with fail
 refine box3 (R := fun W => Calls _ _ _ W _) (fun W hW b0 b1 b2 => ?_)
 have hl2 := b2.lt
 refine (l1Own_any A _ _ _ (hp.keep hW)).mono ?_
 rintro e w1 ⟨v1, rfl, h1, h2⟩
 have z1 := h2.size
 go_wp2_with (at_builtin; refine wapp1 rfl (.tmp 15) (.tmp 17) rfl h1 rfl rfl (by omega) h2.size ?_)
 intro v2 w2 h3 h4 h5
 obtain ⟨a2, n2, c2, rfl⟩ := h3.shape
 have zW := hW.size
 have k2 := (hW.keep h2).own h4 h1 zW
 have n1 : ∀ q, q < W.heap.size → ¬ own v1 q := fun q hq ho => by have := (h1.lt q ho).1; omega
 have B1 := (b1.keep h2).step h4 (n1 _ b1.lt)
 have B2 := (b2.keep h2).step h4 (n1 _ b2.lt)
 have B0 := (b0.keep h2).step h4 (n1 _ b0.lt)
 have g2 := B2.c2
 have f2 := B2.fr 2
 have k2' := k2.setCell (p := ⟨w.heap.size + 1 + 1, 2, none⟩) (fun h => by simp at h; omega) (.slice a2 n2 c2)
 have B2' := B2.set2 (.slice a2 n2 c2)
 have B1' := B1.far ⟨w.heap.size + 1 + 1, 2, none⟩ (.slice a2 n2 c2) (by simp)
 have B0' := B0.far ⟨w.heap.size + 1 + 1, 2, none⟩ (.slice a2 n2 c2) (by simp; omega)
 have o2 := h3.set (w.heap.size + 1 + 1) 2 (.slice a2 n2 c2) (fun hq => by have := (h3.lt _ hq).1; omega)
 have m3 := B0'.c3
 go_wp2_with fail
 refine (l1Own_any A _ _ _ (hmk.keep k2')).mono ?_
 rintro e w3 ⟨v3, rfl, h6, h7⟩
 have z7 : w2.heap.size ≤ w3.heap.size := by have := h7.size; simpa using this
 go_wp2_with (at_builtin; refine wapp1 rfl (.tmp 22) (.tmp 23) rfl h6 rfl rfl hml h7.size ?_)
 intro v4 w4 h8 h9 h10
 obtain ⟨a4, n4, c4, rfl⟩ := h8.shape
 have hlt2 : w.heap.size + 1 + 1 < w2.heap.size := B2.lt
 have n3 : ∀ q, q < w2.heap.size → ¬ own v3 q := fun q hq ho => by have h : w2.heap.size ≤ q := (by have := (h6.lt q ho).1; simpa using this); omega
 have k4 := (k2'.keep h7).own h9 h6 (by simp; omega)
 have C2 := (B2'.keep h7).step h9 (n3 _ B2.lt)
 have C1 := (B1'.keep h7).step h9 (n3 _ B1.lt)
 have g3 := C2.c3
 have f3 := C2.fr 3
 have k5 := k4.setCell (p := ⟨w.heap.size + 1 + 1, 3, none⟩) (fun h => by simp at h; omega) (.slice a4 n4 c4)
 obtain ⟨q0, q1, q2, q3, q4, qf⟩ := C2.set3 (.slice a4 n4 c4)
 obtain ⟨r0, r1, r2, r3, r4, rf⟩ := C1.far ⟨w.heap.size + 1 + 1, 3, none⟩ (.slice a4 n4 c4) (by simp)
 go_wp2
 refine bodyPost_ret (v := .agg #[_, .int .i64 k, .slice a2 n2 c2, .slice a4 n4 c4, .int .i64 hd]) (by simp [results, Tryz.results190, go_sem, r0, r1, r2, r3, r4]; rfl) rfl ?_
 refine ⟨_, rfl, ⟨_, _, rfl, ?_, ?_⟩, k5.put5 (fun h => by omega) _ _ _ _ _⟩
 ·have o4 := (o2.keep h7).step h9 (fun q hq => n3 q (by have := (o2.lt q hq).2; simpa using this))
  refine ((o4.set (w.heap.size + 1 + 1) 3 _ (fun hq => ?_)).put5 (fun q hq => ?_) _ _ _ _ _).readBd hA zW
  ·have := (o4.lt _ hq).1; omega
  ·have := (o4.lt q hq).1; omega
 ·have hb8 : ∀ q, own (.slice a4 n4 c4) q → w2.heap.size ≤ q := fun q hq => by have := (h8.lt q hq).1; simpa using this
  have h8' : OI w2.heap.size w4 (.slice a4 n4 c4) (ms ++ [1]) := h8.weak (by simp)
  refine ((h8'.set (w.heap.size + 1 + 1) 3 _ (fun hq => ?_)).put5 (fun q hq => ?_) _ _ _ _ _).readBd hA (by omega)
  ·have := hb8 _ hq; omega
  ·have := hb8 q hq; omega
theorem l4Turn_to (A : Nat → Prop) (pv mv : Value) (p k : Int) (ps ms : List Int) (hd : Int) (w : World) (hp : RI A w pv ps) (hmk : RI A w mv ms) (hok : Ok ⟨p, k, ps, ms, hd⟩) (hm : Hid (ms.length = k.toNat)) (m' : List Int) (h' : Nat) (ht : Hid (turned ⟨p, k, ps, ms, hd⟩ = (m', h'))) :
  Calls Tryz.prog 203 #[.agg #[.int .i64 p, .int .i64 k, pv, mv, .int .i64 hd]] w
   (Ret fun v' w' => ∃ mv', v' = .agg #[.int .i64 p, .int .i64 k, pv, mv', .int .i64 h'] ∧ OI w.heap.size w' mv' m' ∧ Chg No w w') := by
 have h := l4Turn_any A pv mv ⟨p, k, ps, ms, hd⟩ w hp hmk hok hm
 rw [ht.out] at h
 exact h
set_option maxHeartbeats 1000000 in
theorem l4Clock_full (A : Nat → Prop) (v : Value) (k : Int) (ps ms : List Int) (hd x : Int) (w : World) (hv : RC A w v ⟨6, k, ps, ms, hd⟩) (hA : Bd A w) (hok : Ok ⟨6, k, ps, ms, hd⟩) (hf : Hid ((ps.length : Int) = k)) :
  Calls Tryz.prog 190 #[v, .int .i64 x] w (Ret fun v' w' => RC A w' v' (clockC ⟨6, k, ps, ms, hd⟩ x) ∧ Chg No w w') := by
 obtain ⟨m', h', ht⟩ : ∃ m' h', turned ⟨6, k, ps, ms, hd⟩ = (m', h') := ⟨_, _, rfl⟩
 have e : clockC ⟨6, k, ps, ms, hd⟩ x = ⟨6, k, ps.set h' x, m'.set h' 1, ((h' : Int) + 1) % k⟩ := by
  unfold clockC
  rw [ht, if_neg (by have := hf.out; simp only; omega)]
 rw [e]; clear e
 have hs := hok.size
 have hh := hok.hand
 simp only at hs hh
 obtain ⟨t1, t2, _⟩ := turn_props k.toNat (by omega) (ms.length + 1) ms hd.toNat (by omega)
 have ht' : turn k.toNat (ms.length + 1) ms hd.toNat = (m', h') := ht
 rw [ht'] at t1 t2
 simp only at t1 t2
 have hml := hok.marks (.inr rfl)
 simp only at hml
 have HL : Hid (ms.length = k.toNat) := Lib.hid (by have := hf.out; omega)
 have HT := Lib.hid ht
 have hps : h' < ps.length := by have := hf.out; omega
 have hmm : h' < m'.length := by have := hf.out; omega
 clear ht ht' t1 hml
 obtain ⟨pv, mv, rfl, hp, hmk⟩ := hv
 simp only at hp hmk ⊢
 obtain ⟨pa, pn, pc, rfl⟩ := hp.shape
 obtain ⟨ma, mn, mc, rfl⟩ := hmk.shape
 have hpk : ¬ ((pn : Int) < k) := by have := hp.n; have := hf.out; omega
 go_enter Tryz.func190, Tryz.ntmps190
 go_wp2_with fail
 refine box3 (R := fun W => Calls _ _ _ W _) (fun W hW b0 b1 b2 => ?_)
 have zW := hW.size
 have hl2 := b2.lt
 refine (l4Turn_to A _ _ 6 k ps ms hd _ (hp.keep hW) (hmk.keep hW) hok HL m' h' HT).mono ?_
 rintro e w1 ⟨v1, rfl, ⟨mv', rfl, h1, h2⟩⟩
 obtain ⟨a1, n1, c1, rfl⟩ := h1.shape
 have b0' := (b0.keep h2).far5 (w.heap.size + 1 + 1) (by omega) (.int .i64 6) (.int .i64 k) (.slice pa pn pc) (.slice a1 n1 c1) (.int .i64 h')
 have b1' := (b1.keep h2).far5 (w.heap.size + 1 + 1) (by omega) (.int .i64 6) (.int .i64 k) (.slice pa pn pc) (.slice a1 n1 c1) (.int .i64 h')
 have b2' := (b2.keep h2).put5 (.int .i64 6) (.int .i64 k) (.slice pa pn pc) (.slice a1 n1 c1) (.int .i64 h')
 have hz : ∀ q, own (.slice a1 n1 c1) q → W.heap.size ≤ q := fun q hq => (h1.lt q hq).1
 have o1 := h1.put5 (b := w.heap.size + 1 + 1) (fun q hq => by have := hz q hq; omega) (.int .i64 6) (.int .i64 k) (.slice pa pn pc) (.slice a1 n1 c1) (.int .i64 h')
 have k1 := (hW.keep h2).put5 (b := w.heap.size + 1 + 1) (fun h => by omega) (.int .i64 6) (.int .i64 k) (.slice pa pn pc) (.slice a1 n1 c1) (.int .i64 h')
 obtain ⟨p0, p1, p2, p3, p4, pf⟩ := b2.keep h2
 have pf0 := pf 0
 have pf1 := pf 1
 have pf2 := pf 2
 have pf3 := pf 3
 have pf4 := pf 4
 have p02 := (b0.keep h2).c2
 go_wp2_with fail
 refine (l4With_any A _ ps h' x _ (hp.keep k1) hps).mono ?_
 rintro e w2 ⟨v2, rfl, h3, h4⟩
 obtain ⟨a2, n2, c2, rfl⟩ := h3.shape
 have B0 := b0'.keep h4
 have B1 := b1'.keep h4
 have B2 := b2'.keep h4
 have k2 := k1.keep h4
 have o2 := o1.keep h4
 have hz2 : ∀ q, own (.slice a2 n2 c2) q → w1.heap.size ≤ q := fun q hq => by have := (h3.lt q hq).1; simpa using this
 have hzw : W.heap.size ≤ w1.heap.size := h2.size
 -- out.Pages = ..
 have k3 := k2.setCell (p := ⟨w.heap.size + 1 + 1, 2, none⟩) (fun h => by simp at h; omega) (.slice a2 n2 c2)
 have D0 := B0.far ⟨w.heap.size + 1 + 1, 2, none⟩ (.slice a2 n2 c2) (by simp; omega)
 have D1 := B1.far ⟨w.heap.size + 1 + 1, 2, none⟩ (.slice a2 n2 c2) (by simp)
 have D2 := B2.set2 (.slice a2 n2 c2)
 have o3 := o2.set (w.heap.size + 1 + 1) 2 (.slice a2 n2 c2) (fun hq => by have := hz _ hq; omega)
 have s3 := h3.set (w.heap.size + 1 + 1) 2 (.slice a2 n2 c2) (fun hq => by have := hz2 _ hq; omega)
 -- out.Marks[out.Hand] = 1
 obtain ⟨av, an, hav, _, _, hvv⟩ := o3.view
 obtain ⟨g, hg⟩ : ∃ g, a1 = some ⟨g, 0, none⟩ := by
  simp only [Value.slice.injEq] at hav
  obtain ⟨rfl, rfl, rfl⟩ := hav
  obtain ⟨g, hg, _⟩ := hvv (by omega)
  exact ⟨g, hg⟩
 clear hav hvv
 subst hg
 obtain ⟨hoc, hof, hob, hog, hon, honc, _⟩ := o3.at
 have hgz := hz g (own_slice.2 rfl)
 have hoc1 := hoc h' hmm
 have hof1 := hof h'
 clear hoc hof
 have hn1 : h' < n1 := by omega
 clear hon
 obtain ⟨o4, hch4⟩ := o3.store h' 1
 have k4 := k3.step hch4 (fun q hq hl => by omega)
 have E0 := D0.step hch4 (fun e => by omega)
 have E1 := D1.step hch4 (fun e => by omega)
 have E2 := D2.step hch4 (fun e => by omega)
 have s4 := s3.step hch4 (fun q hq e => by have := hz2 q hq; have := (h1.lt g (own_slice.2 rfl)).2; omega)
 -- out.Hand = ..
 have k5 := k4.setCell (p := ⟨w.heap.size + 1 + 1, 4, none⟩) (fun h => by simp at h; omega) (.int .i64 (((h' : Int) + 1) % k))
 have F1 := E1.far ⟨w.heap.size + 1 + 1, 4, none⟩ (.int .i64 (((h' : Int) + 1) % k)) (by simp)
 have F2 := E2.set4 (.int .i64 (((h' : Int) + 1) % k))
 obtain ⟨f0, f1, f2, f3, f4, ff⟩ := id F2
 obtain ⟨r0, r1, r2, r3, r4, rf⟩ := id F1
 obtain ⟨d0, d1, d2, d3, d4, df⟩ := id D2
 obtain ⟨e0, e1, e2, e3, e4, ef⟩ := id E2
 have e01 := E0.c1
 have bf2 := B2.fr 2
 have b22 := B2.c2
 have ef4 := ef 4
 go_wp2
 refine bodyPost_ret (v := .agg #[_, .int .i64 k, .slice a2 n2 c2, .slice (some ⟨g, 0, none⟩) n1 c1, .int .i64 (((h' : Int) + 1) % k)]) (by simp [results, Tryz.results190, go_sem, r0, r1, r2, r3, r4]; rfl) rfl ?_
 refine ⟨_, rfl, ⟨_, _, rfl, ?_, ?_⟩, k5.put5 (fun h => by omega) _ _ _ _ _⟩
 ·have s4' : OI w1.heap.size _ (.slice a2 n2 c2) (ps.set h' x) := s4.weak (by simp)
  refine ((s4'.set (w.heap.size + 1 + 1) 4 _ (fun hq => ?_)).put5 (fun q hq => ?_) _ _ _ _ _).readBd hA (by omega)
  ·have := hz2 _ hq; omega
  ·have := hz2 q hq; omega
 ·refine ((o4.set (w.heap.size + 1 + 1) 4 _ (fun hq => ?_)).put5 (fun q hq => ?_) _ _ _ _ _).readBd hA zW
  ·have := own_slice.1 hq; omega
  ·have := own_slice.1 hq; omega
end Go.Proofs.YtdgcohoneijleaaGreatDoor
namespace Go.Proofs.YtdgcohoneijleaaGreatDoor
open Go.RowKit
set_option maxHeartbeats 1000000 in
theorem l4Fault_6 (A : Nat → Prop) (v : Value) (k : Int) (ps ms : List Int) (hd x : Int) (w : World) (hv : RC A w v ⟨6, k, ps, ms, hd⟩) (hA : Bd A w) (hok : Ok ⟨6, k, ps, ms, hd⟩) :
  Calls Tryz.prog 168 #[v, .int .i64 x] w (Ret fun v' w' => RC A w' v' (faultC ⟨6, k, ps, ms, hd⟩ x) ∧ Chg No w w') := by
 have e : faultC ⟨6, k, ps, ms, hd⟩ x = clockC ⟨6, k, ps, ms, hd⟩ x := by simp [faultC]
 rw [e]; clear e
 obtain ⟨c', hc'⟩ : ∃ c', clockC ⟨6, k, ps, ms, hd⟩ x = c' := ⟨_, rfl⟩
 have hs := hok.size
 have hl := hok.len
 have hm := hok.marks (.inr rfl)
 simp only at hs hl hm
 have hc : ∀ A' W v, RC A' W v ⟨6, k, ps, ms, hd⟩ → Bd A' W → Calls Tryz.prog 190 #[v, .int .i64 x] W (Ret fun v' w' => RC A' w' v' c' ∧ Chg No W w') := by
  intro A' W v hv' hA'
  rw [← hc']
  by_cases hf : (ps.length : Int) = k
  ·exact l4Clock_full A' v k ps ms hd x W hv' hA' hok (Lib.hid hf)
  ·exact l4Clock_room A' v k ps ms hd x W hv' hA' (by omega) (by omega) (by omega)
 rw [hc']
 have HC := Lib.hid hc
 clear hm hc hc'
 have hv0 := hv
 obtain ⟨pv, mv, rfl, hp, hmk⟩ := hv
 simp only at hp hmk
 obtain ⟨pa, pn, pc, rfl⟩ := hp.shape
 obtain ⟨ma, mn, mc, rfl⟩ := hmk.shape
 have hB := fun o1 o2 => ((hA.alloc o1).alloc o2).and1 (b := w.heap.size + 1) (by simp)
 go_enter Tryz.func168, Tryz.ntmps168
 go_wp2_with fail
 refine (HC.out (And1 A (w.heap.size + 1)) _ _ (hv0.and1 (((Chg.refl No w).alloc _).alloc _) (by omega)) (hB _ _)).mono ?_
 rintro e w1 ⟨v1, rfl, ⟨pv', mv', rfl, h1, h2⟩, h3⟩
 obtain ⟨pa', pn', pc', rfl⟩ := h1.shape
 obtain ⟨ma', mn', mc', rfl⟩ := h2.shape
 have k1 := ((((Chg.refl No w).alloc _).alloc _).keep h3)
 obtain ⟨r0, r1, r2, r3, r4, rf⟩ := ((Box.new (w.alloc _) _ _ _ _ _ _).at (n := w.heap.size + 1) (by simp)).keep h3
 have rf0 := rf 0
 have rf1 := rf 1
 have rf2 := rf 2
 have rf3 := rf 3
 have rf4 := rf 4
 go_wp2
 refine bodyPost_ret (v := .agg #[.int .i64 c'.pol, .int .i64 c'.size, .slice pa' pn' pc', .slice ma' mn' mc', .int .i64 c'.hand]) (by simp [results, Tryz.results168, go_sem, r0, r1, r2, r3, r4]) rfl ?_
 exact ⟨_, rfl, ⟨_, _, rfl, h1.put5 _ _ _ _ _, h2.put5 _ _ _ _ _⟩, k1.put5 (fun h => by omega) _ _ _ _ _⟩
set_option maxHeartbeats 1000000 in
theorem l4Fault_room (A : Nat → Prop) (v : Value) (p k : Int) (ps ms : List Int) (hd x : Int) (w : World) (hv : RC A w v ⟨p, k, ps, ms, hd⟩) (hA : Bd A w) (hpp : p = 1 ∨ p = 2 ∨ p = 3 ∨ p = 4 ∨ p = 7) (hf : (ps.length : Int) < k) (hk : k ≤ 6) :
  Calls Tryz.prog 168 #[v, .int .i64 x] w (Ret fun v' w' => RC A w' v' (faultC ⟨p, k, ps, ms, hd⟩ x) ∧ Chg No w w') := by
 have e : faultC ⟨p, k, ps, ms, hd⟩ x = ⟨p, k, x :: ps, ms, hd⟩ := by
  unfold faultC
  rw [if_neg (by simp only; omega), if_neg (by simp only; omega), if_neg (by simp only; omega)]
 rw [e]; clear e
 obtain ⟨pv, mv, rfl, hp, hmk⟩ := hv
 simp only at hp hmk ⊢
 obtain ⟨pa, pn, pc, rfl⟩ := hp.shape
 obtain ⟨ma, mn, mc, rfl⟩ := hmk.shape
 have hpk : (pn : Int) < k := by have := hp.n; omega
 have hne : ((pn : Int) == k) = false := by simp; omega
 have hlen : ps.length < 17592186044416 := by omega
 rcases hpp with rfl | rfl | rfl | rfl | rfl
 all_goals
  go_enter Tryz.func168, Tryz.ntmps168
  go_wp2_with fail
  refine box3 (R := fun W => Calls _ _ _ W _) (fun W hW b0 b1 b2 => ?_)
  have zW := hW.size
  have hl2 := b2.lt
  refine (l4Front_any A _ _ _ _ (hp.keep hW) hlen).mono ?_
  rintro e w1 ⟨v1, rfl, h1, h2⟩
  obtain ⟨a1, n1, c1, rfl⟩ := h1.shape
  have k1 := hW.keep h2
  have B2 := b2.keep h2
  have hz : ∀ q, own (.slice a1 n1 c1) q → W.heap.size ≤ q := fun q hq => (h1.lt q hq).1
  have g2 := B2.c2
  have f2 := B2.fr 2
  have b00 := (b0.keep h2).c0
  obtain ⟨q0, q1, q2, q3, q4, qf⟩ := B2.set2 (.slice a1 n1 c1)
  obtain ⟨r0, r1, r2, r3, r4, rf⟩ := (b1.keep h2).far ⟨w.heap.size + 1 + 1, 2, none⟩ (.slice a1 n1 c1) (by simp)
  have k2 := k1.setCell (p := ⟨w.heap.size + 1 + 1, 2, none⟩) (fun h => by simp at h; omega) (.slice a1 n1 c1)
  go_wp2
  refine bodyPost_ret (v := .agg #[_, .int .i64 k, .slice a1 n1 c1, .slice ma mn mc, .int .i64 hd]) (by simp [results, Tryz.results168, go_sem, r0, r1, r2, r3, r4]; rfl) rfl ?_
  refine ⟨_, rfl, ⟨_, _, rfl, ?_, hmk.keep (k2.put5 (fun h => by omega) _ _ _ _ _)⟩, k2.put5 (fun h => by omega) _ _ _ _ _⟩
  refine ((h1.set (w.heap.size + 1 + 1) 2 _ (fun hq => ?_)).put5 (fun q hq => ?_) _ _ _ _ _).readBd hA zW
  ·have := hz _ hq; omega
  ·have := hz q hq; omega
end Go.Proofs.YtdgcohoneijleaaGreatDoor
namespace Go.Proofs.YtdgcohoneijleaaGreatDoor
open Go.RowKit
set_option maxHeartbeats 1000000 in
theorem l4Fault_room5 (A : Nat → Prop) (v : Value) (k : Int) (ps ms : List Int) (hd x : Int) (w : World) (hv : RC A w v ⟨5, k, ps, ms, hd⟩) (hA : Bd A w) (hf : (ps.length : Int) < k) (hk : k ≤ 6) (hml : ms.length = ps.length) :
  Calls Tryz.prog 168 #[v, .int .i64 x] w (Ret fun v' w' => RC A w' v' (faultC ⟨5, k, ps, ms, hd⟩ x) ∧ Chg No w w') := by
 have e : faultC ⟨5, k, ps, ms, hd⟩ x = ⟨5, k, x :: ps, 1 :: ms, hd⟩ := by
  unfold faultC
  rw [if_neg (by simp only; omega), if_neg (by simp only; omega), if_pos rfl, if_neg (by simp only; omega)]
 rw [e]; clear e
 obtain ⟨pv, mv, rfl, hp, hmk⟩ := hv
 simp only at hp hmk ⊢
 obtain ⟨pa, pn, pc, rfl⟩ := hp.shape
 obtain ⟨ma, mn, mc, rfl⟩ := hmk.shape
 have hpk : (pn : Int) < k := by have := hp.n; omega
 have hne : ((pn : Int) == k) = false := by simp; omega
 have hlen : ps.length < 17592186044416 := by omega
 have hlen2 : ms.length < 17592186044416 := by omega
 clear hml
 go_enter Tryz.func168, Tryz.ntmps168
 go_wp2_with fail
 refine box3 (R := fun W => Calls _ _ _ W _) (fun W hW b0 b1 b2 => ?_)
 have zW := hW.size
 have hl2 := b2.lt
 refine (l4Front_any A _ _ _ _ (hp.keep hW) hlen).mono ?_
 rintro e w1 ⟨v1, rfl, h1, h2⟩
 obtain ⟨a1, n1, c1, rfl⟩ := h1.shape
 have k1 := hW.keep h2
 have B2 := b2.keep h2
 have hz : ∀ q, own (.slice a1 n1 c1) q → W.heap.size ≤ q := fun q hq => (h1.lt q hq).1
 have g2 := B2.c2
 have f2 := B2.fr 2
 have B0 := (b0.keep h2).far ⟨w.heap.size + 1 + 1, 2, none⟩ (.slice a1 n1 c1) (by simp; omega)
 have B1 := (b1.keep h2).far ⟨w.heap.size + 1 + 1, 2, none⟩ (.slice a1 n1 c1) (by simp)
 have C2 := B2.set2 (.slice a1 n1 c1)
 have k2 := k1.setCell (p := ⟨w.heap.size + 1 + 1, 2, none⟩) (fun h => by simp at h; omega) (.slice a1 n1 c1)
 have o1 := h1.set (w.heap.size + 1 + 1) 2 (.slice a1 n1 c1) (fun hq => by have := hz _ hq; omega)
 have b00 := (b0.keep h2).c0
 have c23 := B2.c3
 go_wp2_with fail
 refine (l4Front_any A _ _ _ _ (hmk.keep k2) hlen2).mono ?_
 rintro e w3 ⟨v3, rfl, h3, h4⟩
 obtain ⟨a3, n3, c3, rfl⟩ := h3.shape
 have k3 := k2.keep h4
 have D2 := C2.keep h4
 have o3 := o1.keep h4
 have hz3 : ∀ q, own (.slice a3 n3 c3) q → w1.heap.size ≤ q := fun q hq => by have := (h3.lt q hq).1; simpa using this
 have hzw : W.heap.size ≤ w1.heap.size := h2.size
 have g3 := D2.c3
 have f3 := D2.fr 3
 obtain ⟨q0, q1, q2, q3, q4, qf⟩ := D2.set3 (.slice a3 n3 c3)
 obtain ⟨r0, r1, r2, r3, r4, rf⟩ := (B1.keep h4).far ⟨w.heap.size + 1 + 1, 3, none⟩ (.slice a3 n3 c3) (by simp)
 have k4 := k3.setCell (p := ⟨w.heap.size + 1 + 1, 3, none⟩) (fun h => by simp at h; omega) (.slice a3 n3 c3)
 go_wp2
 refine bodyPost_ret (v := .agg #[_, .int .i64 k, .slice a1 n1 c1, .slice a3 n3 c3, .int .i64 hd]) (by simp [results, Tryz.results168, go_sem, r0, r1, r2, r3, r4]; rfl) rfl ?_
 refine ⟨_, rfl, ⟨_, _, rfl, ?_, ?_⟩, k4.put5 (fun h => by omega) _ _ _ _ _⟩
 ·refine ((o3.set (w.heap.size + 1 + 1) 3 _ (fun hq => ?_)).put5 (fun q hq => ?_) _ _ _ _ _).readBd hA zW
  ·have := hz _ hq; omega
  ·have := hz q hq; omega
 ·have h3' : OI w1.heap.size w3 (.slice a3 n3 c3) (1 :: ms) := h3.weak (by simp)
  refine ((h3'.set (w.heap.size + 1 + 1) 3 _ (fun hq => ?_)).put5 (fun q hq => ?_) _ _ _ _ _).readBd hA (by omega)
  ·have := hz3 _ hq; omega
  ·have := hz3 q hq; omega
set_option maxHeartbeats 1000000 in
theorem l4Fault_full (A : Nat → Prop) (v : Value) (p k : Int) (ps ms : List Int) (hd x : Int) (w : World) (hv : RC A w v ⟨p, k, ps, ms, hd⟩) (hA : Bd A w) (hok : Ok ⟨p, k, ps, ms, hd⟩) (hpp : p = 1 ∨ p = 2 ∨ p = 3 ∨ p = 7) (hf : Hid ((ps.length : Int) = k)) :
  Calls Tryz.prog 168 #[v, .int .i64 x] w (Ret fun v' w' => RC A w' v' (faultC ⟨p, k, ps, ms, hd⟩ x) ∧ Chg No w w') := by
 obtain ⟨at', hat⟩ : ∃ q, victim ⟨p, k, ps, ms, hd⟩ = q := ⟨_, rfl⟩
 have hk := hok.size
 simp only at hk
 have hlen : at' < ps.length := by
  have := victim_lt hok (by simp only; have := hf.out; omega) (by simp only; omega)
  rw [hat] at this
  exact this
 have e : faultC ⟨p, k, ps, ms, hd⟩ x = ⟨p, k, x :: ps.eraseIdx at', ms, hd⟩ := by
  unfold faultC
  rw [if_neg (by simp only; omega), if_pos hf.out, if_neg (by simp only; omega), if_neg (by simp only; omega), hat]
 rw [e]; clear e
 have hl6 : ps.length ≤ 6 := by have := hf.out; omega
 have hvic : ∀ A' W v, RC A' W v ⟨p, k, ps, ms, hd⟩ → Calls Tryz.prog 191 #[v] W (Ret fun v' w' => v' = .int .i64 at' ∧ Chg No W w') := by
  intro A' W v hv
  have := l4Victim_any A' v _ W hv hok hf.out
  rw [hat] at this
  exact this
 have HV := Lib.hid hvic
 clear hvic hat
 have hv0 := hv
 obtain ⟨pv, mv, rfl, hp, hmk⟩ := hv
 simp only at hp hmk ⊢
 obtain ⟨pa, pn, pc, rfl⟩ := hp.shape
 obtain ⟨ma, mn, mc, rfl⟩ := hmk.shape
 have hpk : ((pn : Int) == k) = true := by have := hp.n; have := hf.out; simp; omega
 clear hok
 rcases hpp with rfl | rfl | rfl | rfl
 all_goals
  go_enter Tryz.func168, Tryz.ntmps168
  go_wp2_with fail
  refine box3 (R := fun W => Calls _ _ _ W _) (fun W hW b0 b1 b2 => ?_)
  have zW := hW.size
  have hl2 := b2.lt
  refine (HV.out A _ _ (hv0.keep hW)).mono ?_
  rintro e w0 ⟨v0, rfl, rfl, h0⟩
  have b0 := b0.keep h0
  have b1 := b1.keep h0
  have b2 := b2.keep h0
  have hW := hW.keep h0
  have zW := hW.size
  have hl2 := b2.lt
  have p00 := b0.c0
  have p02 := b0.c2
  go_wp2_with fail
  refine (l4Without_any A _ ps at' _ (hp.keep hW) hlen).mono ?_
  rintro e w1 ⟨v1, rfl, h1, h2⟩
  obtain ⟨a1, n1, c1, rfl⟩ := h1.shape
  have k1 := hW.keep h2
  have B2 := b2.keep h2
  have hz : ∀ q, own (.slice a1 n1 c1) q → w0.heap.size ≤ q := fun q hq => (h1.lt q hq).1
  have g2 := B2.c2
  have f2 := B2.fr 2
  have B0 := (b0.keep h2).far ⟨w.heap.size + 1 + 1, 2, none⟩ (.slice a1 n1 c1) (by simp; omega)
  have B1 := (b1.keep h2).far ⟨w.heap.size + 1 + 1, 2, none⟩ (.slice a1 n1 c1) (by simp)
  have C2 := B2.set2 (.slice a1 n1 c1)
  have k2 := k1.setCell (p := ⟨w.heap.size + 1 + 1, 2, none⟩) (fun h => by simp at h; omega) (.slice a1 n1 c1)
  have o1 := h1.set (w.heap.size + 1 + 1) 2 (.slice a1 n1 c1) (fun hq => by have := hz _ hq; omega)
  have b00 := (b0.keep h2).c0
  go_wp2_with fail
  refine (l4Front_any No _ _ _ _ o1.readNo (by have := h1.len; rw [List.length_eraseIdx_of_lt hlen] at *; omega)).mono ?_
  rintro e w3 ⟨v3, rfl, h3, h4⟩
  obtain ⟨a3, n3, c3, rfl⟩ := h3.shape
  have k3 := k2.keep h4
  have D2 := C2.keep h4
  have hz3 : ∀ q, own (.slice a3 n3 c3) q → w1.heap.size ≤ q := fun q hq => by have := (h3.lt q hq).1; simpa using this
  have hzw : w0.heap.size ≤ w1.heap.size := h2.size
  have g3 := D2.c2
  have f3 := D2.fr 2
  have d00 := (B0.keep h4).c0
  obtain ⟨q0, q1, q2, q3, q4, qf⟩ := D2.set2 (.slice a3 n3 c3)
  obtain ⟨r0, r1, r2, r3, r4, rf⟩ := (B1.keep h4).far ⟨w.heap.size + 1 + 1, 2, none⟩ (.slice a3 n3 c3) (by simp)
  have k4 := k3.setCell (p := ⟨w.heap.size + 1 + 1, 2, none⟩) (fun h => by simp at h; omega) (.slice a3 n3 c3)
  go_wp2
  refine bodyPost_ret (v := .agg #[_, .int .i64 k, .slice a3 n3 c3, .slice ma mn mc, .int .i64 hd]) (by simp [results, Tryz.results168, go_sem, r0, r1, r2, r3, r4]; rfl) rfl ?_
  refine ⟨_, rfl, ⟨_, _, rfl, ?_, hmk.keep (k4.put5 (fun h => by omega) _ _ _ _ _)⟩, k4.put5 (fun h => by omega) _ _ _ _ _⟩
  have h3' : OI w1.heap.size w3 (.slice a3 n3 c3) (x :: ps.eraseIdx at') := h3.weak (by simp)
  refine ((h3'.set (w.heap.size + 1 + 1) 2 _ (fun hq => ?_)).put5 (fun q hq => ?_) _ _ _ _ _).readBd hA (by omega)
  ·have := hz3 _ hq; omega
  ·have := hz3 q hq; omega
end Go.Proofs.YtdgcohoneijleaaGreatDoor
