import Derived.Test.YtdgcohoneijleaaGreatDoorPkX25
import Derived.Test.YtdgcohoneijleaaGreatDoorPkX3
import Derived.Test.YtdgcohoneijleaaGreatDoorCg
set_option maxRecDepth 100000
namespace Go.Proofs.YtdgcohoneijleaaGreatDoor
open Go.RowKit
def newT (n : Int) : To := ⟨if inB n 1 8 then n else 0, [], []⟩
theorem TA.newT (base : Nat) (w : World) (n : Int) : TA base w (.agg #[.int .i64 (newT n).items, .slice none 0 0, .slice none 0 0]) (newT n) :=
 ⟨_, fun _ => undef, fun _ => undef, _, rfl, PA.nil base w (OS.nil _ _ _ _) _ _, OI.nil _ _, fun q _ e => own_none q e⟩
theorem implNewT_any (n : Int) (w : World) :
  Calls Tryz.prog 17 #[.int .i64 n] w (Ret2 fun v0 v1 w' => v1 = .bool (inB n 1 8) ∧ TA w.heap.size w' v0 (newT n) ∧ Chg No w w') := by
 have HT := Lib.hid (TA.newT w.heap.size)
 have HI : Hid ((newT n).items = if inB n 1 8 then n else 0) := Lib.hid rfl
 obtain ⟨t, ht⟩ : ∃ t, newT n = t := ⟨_, rfl⟩
 cases hn : inB n 1 8 with
 | false =>
  have HN := Lib.hid hn
  have HZ : Hid ((newT n).items = 0) := Lib.hid (by rw [HI.out, hn]; rfl)
  clear hn ht HI
  go_enter Tryz.func17, Tryz.ntmps17
  go_wp2_with fail
  refine (isItems_any _ _).mono ?_
  rintro e w' ⟨rfl, rfl⟩
  rw [HN.out]
  go_wp2_with fail
  refine bodyPost_ret (v := .tuple #[.agg #[.int .i64 0, .slice none 0 0, .slice none 0 0], .bool false]) (by simp [results, Tryz.results17, go_sem]) rfl ?_
  exact ⟨_, _, rfl, rfl, by have := HT.out (w.alloc (.cells #[.int .i64 0, .slice none 0 0, .slice none 0 0] 31)) n; rw [HZ.out] at this; exact this, (Chg.refl No w).alloc _⟩
 | true =>
  have HN := Lib.hid hn
  have HZ : Hid ((newT n).items = n) := Lib.hid (by rw [HI.out, hn]; rfl)
  clear hn ht HI
  go_enter Tryz.func17, Tryz.ntmps17
  go_wp2_with fail
  refine (isItems_any _ _).mono ?_
  rintro e w' ⟨rfl, rfl⟩
  rw [HN.out]
  go_wp2_with fail
  refine bodyPost_ret (v := .tuple #[.agg #[.int .i64 n, .slice none 0 0, .slice none 0 0], .bool true]) (by simp [results, Tryz.results17, go_sem]) rfl ?_
  exact ⟨_, _, rfl, rfl, by have := HT.out (w.alloc (.cells #[.int .i64 n, .slice none 0 0, .slice none 0 0] 31)) n; rw [HZ.out] at this; exact this, (Chg.refl No w).alloc _⟩
theorem specNewT_any (n : Int) (w : World) :
  Calls Tryz.prog 18 #[.int .i64 n] w (Ret2 fun v0 v1 w' => v1 = .bool (inB n 1 8) ∧ TA w.heap.size w' v0 (newT n) ∧ Chg No w w') := by
 have HT := Lib.hid (TA.newT w.heap.size)
 have HI : Hid ((newT n).items = if inB n 1 8 then n else 0) := Lib.hid rfl
 obtain ⟨t, ht⟩ : ∃ t, newT n = t := ⟨_, rfl⟩
 cases hn : inB n 1 8 with
 | false =>
  have HN := Lib.hid hn
  have HZ : Hid ((newT n).items = 0) := Lib.hid (by rw [HI.out, hn]; rfl)
  clear hn ht HI
  go_enter Tryz.func18, Tryz.ntmps18
  go_wp2_with fail
  refine (l3Items_any _ _).mono ?_
  rintro e w' ⟨rfl, rfl⟩
  rw [HN.out]
  go_wp2_with fail
  refine bodyPost_ret (v := .tuple #[.agg #[.int .i64 0, .slice none 0 0, .slice none 0 0], .bool false]) (by simp [results, Tryz.results18, go_sem]) rfl ?_
  exact ⟨_, _, rfl, rfl, by have := HT.out (w.alloc (.cells #[.int .i64 0, .slice none 0 0, .slice none 0 0] 31)) n; rw [HZ.out] at this; exact this, (Chg.refl No w).alloc _⟩
 | true =>
  have HN := Lib.hid hn
  have HZ : Hid ((newT n).items = n) := Lib.hid (by rw [HI.out, hn]; rfl)
  clear hn ht HI
  go_enter Tryz.func18, Tryz.ntmps18
  go_wp2_with fail
  refine (l3Items_any _ _).mono ?_
  rintro e w' ⟨rfl, rfl⟩
  rw [HN.out]
  go_wp2_with fail
  refine bodyPost_ret (v := .tuple #[.agg #[.int .i64 n, .slice none 0 0, .slice none 0 0], .bool true]) (by simp [results, Tryz.results18, go_sem]) rfl ?_
  exact ⟨_, _, rfl, rfl, by have := HT.out (w.alloc (.cells #[.int .i64 n, .slice none 0 0, .slice none 0 0] 31)) n; rw [HZ.out] at this; exact this, (Chg.refl No w).alloc _⟩
theorem DrawNewTournament_any (v : Value) (n : Nat) (w : World) (h : Code w v n) (hn : n ≤ 70001) :
  Calls Tryz.prog 16 #[v] w fun e w' => ∃ r : Int, e = .returned (.int .i64 r) ∧ -1 ≤ r ∧ r ≤ 10 ∧ Chg No w w' := by
 obtain ⟨a, cp, rfl⟩ := h.shape
 have hc := Cur.new h (by omega) 80
 have k0 := (Chg.refl No w).alloc (.cells #[.slice a n cp, .int .i64 0, .int .u64 0] 80)
 clear h
 go_enter Tryz.func16, Tryz.ntmps16
 go_wp2_with fail
 refine (pick_any w.heap.size (w.heap.size + 1) 0 12 _ hc (by omega) (by omega)).mono ?_
 rintro e w1 ⟨r, rfl, h0, h1, _, _, hk1⟩
 have h2 := h1 (by omega)
 have hw : IntKind.i64.wrap (r - 1) = r - 1 := IntWalk.i64_in _ (by omega)
 clear h1 hc
 go_wp2_with fail
 go_ret
 exact ⟨r - 1, rfl, by omega, by omega, k0.step hk1 (fun q e hl => by have e : q = w.heap.size := e; omega)⟩
set_option maxHeartbeats 2000000 in
theorem DrawIsTournament_any (v : Value) (n : Nat) (w : World) (h : Code w v n) (hn : n ≤ 70001) :
  Calls Tryz.prog 19 #[v] w fun e w' => ∃ (v0 : Value) (t : To), e = .returned v0 ∧ RT No w' v0 t ∧ t.ps.length ≤ 12 ∧ t.reqs.length ≤ 61 ∧ Chg No w w' := by
 obtain ⟨a, cp, rfl⟩ := h.shape
 have b0 := Box3.new w (.int .i64 0) (.slice none 0 0) (.slice none 0 0) 31
 have k0 := (Chg.refl No w).alloc (.cells #[.int .i64 0, .slice none 0 0, .slice none 0 0] 31)
 have h1 := h.keep k0
 have hc := Cur.new h1 (by omega) 80
 have k1 := (Chg.refl No (w.alloc (.cells #[.int .i64 0, .slice none 0 0, .slice none 0 0] 31))).alloc (.cells #[.slice a n cp, .int .i64 0, .int .u64 0] 80)
 have hz : (w.alloc (.cells #[.int .i64 0, .slice none 0 0, .slice none 0 0] 31)).heap.size = w.heap.size + 1 := World.size_alloc _ _
 have hz1 := World.size_alloc (w.alloc (.cells #[.int .i64 0, .slice none 0 0, .slice none 0 0] 31)) (.cells #[.slice a n cp, .int .i64 0, .int .u64 0] 80)
 rw [hz] at hc hz1
 replace b0 := b0.keep k1
 have kk := k0.trans k1
 clear h h1 k0 k1 hz
 go_enter Tryz.func19, Tryz.ntmps19
 go_wp2_with fail
 generalize (w.alloc (.cells #[.int .i64 0, .slice none 0 0, .slice none 0 0] 31)).alloc (.cells #[.slice a n cp, .int .i64 0, .int .u64 0] 80) = W0 at hc kk b0 hz1 ⊢
 refine (tour_any (w.heap.size + 1) (w.heap.size + 1 + 1) 0 W0 hc (by omega) (by omega)).mono ?_
 rintro e w1 ⟨v0, t, rfl, hT, ht12, ht61, hc1, hk1⟩
 have kk1 := kk.step hk1 (fun q e hl => by have e : q = w.heap.size + 1 := e; omega)
 replace b0 := b0.step hk1 (fun e => by have e : w.heap.size = w.heap.size + 1 := e; omega)
 obtain ⟨pv, rv, hv0, hps, hrq⟩ := id hT
 obtain ⟨p1, p3, rfl, _⟩ := id hps
 obtain ⟨r1, r3, rfl, _⟩ := id hrq
 subst hv0
 have ch := (Chg.refl (fun q => q = w.heap.size) w1).put3 (b := w.heap.size) (fun _ => rfl) (.int .i64 t.items) (.slice p1 t.ps.length p3) (.slice r1 t.reqs.length r3)
 have HR := Lib.hid ((hT.step ch (fun q e => by have e : q = w.heap.size := e; omega)).no)
 have HK := Lib.hid (kk1.put3 (b := w.heap.size) (fun h => absurd h (Nat.lt_irrefl _)) (.int .i64 t.items) (.slice p1 t.ps.length p3) (.slice r1 t.reqs.length r3))
 obtain ⟨s0, s1, s2, sf⟩ := id b0
 have sf0 := sf 0
 have sf1 := sf 1
 have sf2 := sf 2
 clear sf
 obtain ⟨z0, z1, z2, _⟩ := ((b0.set0 (.int .i64 t.items)).set1 (.slice p1 t.ps.length p3)).set2 (.slice r1 t.reqs.length r3)
 clear hT hps hrq hc kk hk1 kk1 b0 ch hc1
 go_wp2_with fail
 refine bodyPost_ret (v := .agg #[.int .i64 t.items, .slice p1 t.ps.length p3, .slice r1 t.reqs.length r3]) (by simp [results, Tryz.results19, go_sem, z0, z1, z2]) rfl ?_
 exact ⟨_, t, rfl, HR.out, ht12, ht61, HK.out⟩
set_option maxHeartbeats 2000000 in
theorem DrawParseTournament_any (v : Value) (n : Nat) (w : World) (h : Code w v n) (hn : n ≤ 70001) :
  Calls Tryz.prog 27 #[v] w fun e w' => ∃ l : List UInt8, e = .returned (.string ⟨l.toArray⟩) ∧ l.length ≤ 10000 ∧ Chg No w w' := by
 obtain ⟨a, cp, rfl⟩ := h.shape
 have hc := Cur.new h (by omega) 80
 have k0 := (Chg.refl No w).alloc (.cells #[.slice a n cp, .int .i64 0, .int .u64 0] 80)
 have hz := World.size_alloc w (.cells #[.slice a n cp, .int .i64 0, .int .u64 0] 80)
 clear h
 go_enter Tryz.func27, Tryz.ntmps27
 go_wp2_with fail
 generalize w.alloc (.cells #[.slice a n cp, .int .i64 0, .int .u64 0] 80) = W0 at hc k0 hz ⊢
 refine (tour_any w.heap.size (w.heap.size + 1) 0 W0 hc (by omega) (by omega)).mono ?_
 rintro e w1 ⟨v0, t, rfl, hT, ht12, ht61, hc1, hk1⟩
 replace k0 := k0.step hk1 (fun q e hl => by have e : q = w.heap.size := e; omega)
 have hT0 := hT.no
 have hs1 := hk1.size
 clear hk1 hc
 obtain ⟨pv, rv, hv0, hps, hrq⟩ := id hT
 obtain ⟨p1, p3, rfl, _⟩ := id hps
 obtain ⟨r1, r3, rfl, _⟩ := id hrq
 subst hv0
 clear hT hps hrq
 have bT := Box3.new w1 (.int .i64 t.items) (.slice p1 t.ps.length p3) (.slice r1 t.reqs.length r3) 31
 have ka := (Chg.refl No w1).alloc (.cells #[.int .i64 t.items, .slice p1 t.ps.length p3, .slice r1 t.reqs.length r3] 31)
 replace k0 := k0.trans ka
 replace hc1 := hc1.keep ka
 replace hT0 := hT0.keep ka
 obtain ⟨c0, c1, c2, _⟩ := id bT
 go_wp2_with fail
 generalize w1.alloc (.cells #[.int .i64 t.items, .slice p1 t.ps.length p3, .slice r1 t.reqs.length r3] 31) = W1 at bT k0 hc1 hT0 c0 c1 c2 ⊢
 refine (l12Tour_any _ t W1 hT0).mono ?_
 rintro e w2 ⟨_, rfl, rfl, k2⟩
 replace bT := bT.keep k2
 replace k0 := k0.trans k2
 replace hc1 := hc1.keep k2
 replace hT0 := hT0.keep k2
 clear c0 c1 c2 ka
 obtain ⟨c0, c1, c2, _⟩ := id bT
 cases htb : tourB t with
 | false =>
  obtain ⟨S, hS⟩ : ∃ S : List UInt8, S = [51, 59, 32, 110, 111, 110, 101] := ⟨_, rfl⟩
  have hSl : S.length ≤ 9000 := by rw [hS]; simp
  clear htb hT0 bT c0 c1 c2
  go_wp2_with fail
  have hSb : (ByteArray.mk #[51, 59, 32, 110, 111, 110, 101]) = ⟨S.toArray⟩ := by rw [hS]
  rw [hSb]
  clear hS hSb
  refine (one_any w.heap.size (w.heap.size + 1) (0 + 3000) 3 _ hc1 (by omega) (by omega)).mono ?_
  rintro e w4 ⟨r, rfl, hc4, hk4⟩
  replace k0 := k0.step hk4 (fun q e hl => by have e : q = w.heap.size := e; omega)
  clear hk4 hc1
  cases r with
  | false =>
   go_wp2_with fail
   go_ret
   exact ⟨S, rfl, by omega, k0⟩
  | true =>
   go_wp2_with fail
   refine (spoiltT_any w.heap.size (w.heap.size + 1) _ S w4 hc4 (by omega) (by omega)).mono ?_
   rintro e w5 ⟨l, rfl, hl, hc5, hk5⟩
   replace k0 := k0.step hk5 (fun q e hl => by have e : q = w.heap.size := e; omega)
   clear hk5 hc5 hc4
   go_wp2_with fail
   go_ret
   exact ⟨l, rfl, by omega, k0⟩
 | true =>
  have HL := Lib.hid (tjT_len htb t.ps.length (Nat.le_refl _))
  have q2 := Lib.hid (l12Text_any _ t w2 hT0 htb)
  have hSl : (touT t).length ≤ 9000 := by have := HL.out; rw [tjT_full] at this; omega
  obtain ⟨S, hS⟩ : ∃ S, touT t = S := ⟨_, rfl⟩
  rw [hS] at q2 hSl
  clear htb hS hT0
  go_wp2_with fail
  refine q2.out.mono ?_
  rintro e w3 ⟨rfl, k3⟩
  replace k0 := k0.trans k3
  replace hc1 := hc1.keep k3
  clear bT c0 c1 c2
  go_wp2_with fail
  refine (one_any w.heap.size (w.heap.size + 1) (0 + 3000) 3 _ hc1 (by omega) (by omega)).mono ?_
  rintro e w4 ⟨r, rfl, hc4, hk4⟩
  replace k0 := k0.step hk4 (fun q e hl => by have e : q = w.heap.size := e; omega)
  clear hk4 hc1
  cases r with
  | false =>
   go_wp2_with fail
   go_ret
   exact ⟨S, rfl, by omega, k0⟩
  | true =>
   go_wp2_with fail
   refine (spoiltT_any w.heap.size (w.heap.size + 1) _ S w4 hc4 (by omega) (by omega)).mono ?_
   rintro e w5 ⟨l, rfl, hl, hc5, hk5⟩
   replace k0 := k0.step hk5 (fun q e hl => by have e : q = w.heap.size := e; omega)
   clear hk5 hc5 hc4
   go_wp2_with fail
   go_ret
   exact ⟨l, rfl, by omega, k0⟩
set_option maxHeartbeats 4000000 in
theorem DrawStepTournament_any (v : Value) (n : Nat) (w : World) (h : Code w v n) (hn : n ≤ 70001) :
  Calls Tryz.prog 22 #[v] w fun e w' => ∃ (v0 : Value) (t : To) (k p q : Int), e = .returned (.tuple #[v0, .agg #[.int .i64 k, .int .i64 p, .int .i64 q]]) ∧ RT No w' v0 t ∧ t.ps.length ≤ 12 ∧ t.reqs.length ≤ 61 ∧ Chg No w w' := by
 obtain ⟨a, cp, rfl⟩ := h.shape
 obtain ⟨k0, b0, b1⟩ := boxes32 (w := w) (t := 31) (t' := 47) (x0 := .int .i64 0) (x1 := .slice none 0 0) (x2 := .slice none 0 0) (y0 := .int .i64 0) (y1 := .int .i64 0) (y2 := .int .i64 0) (R := fun W => Chg No w W ∧ Box3 W w.heap.size (.int .i64 0) (.slice none 0 0) (.slice none 0 0) ∧ Box3 W (w.heap.size + 1) (.int .i64 0) (.int .i64 0) (.int .i64 0)) (fun W k b0 b1 => ⟨k, b0, b1⟩)
 have h1 := h.keep k0
 go_enter Tryz.func22, Tryz.ntmps22
 have hz0 : ((w.alloc (.cells #[.int .i64 0, .slice none 0 0, .slice none 0 0] 31)).alloc (.cells #[.int .i64 0, .int .i64 0, .int .i64 0] 47)).heap.size = w.heap.size + 1 + 1 := by rw [World.size_alloc, World.size_alloc]
 have hc := Cur.new h1 (by omega) 80
 have kb := (Chg.refl No ((w.alloc (.cells #[.int .i64 0, .slice none 0 0, .slice none 0 0] 31)).alloc (.cells #[.int .i64 0, .int .i64 0, .int .i64 0] 47))).alloc (.cells #[.slice a n cp, .int .i64 0, .int .u64 0] 80)
 have hz1 := World.size_alloc ((w.alloc (.cells #[.int .i64 0, .slice none 0 0, .slice none 0 0] 31)).alloc (.cells #[.int .i64 0, .int .i64 0, .int .i64 0] 47)) (.cells #[.slice a n cp, .int .i64 0, .int .u64 0] 80)
 rw [hz0] at hc hz1
 replace k0 := k0.trans kb
 replace b0 := b0.keep kb
 replace b1 := b1.keep kb
 clear h h1 kb hz0
 go_wp2_with fail
 generalize ((w.alloc (.cells #[.int .i64 0, .slice none 0 0, .slice none 0 0] 31)).alloc (.cells #[.int .i64 0, .int .i64 0, .int .i64 0] 47)).alloc (.cells #[.slice a n cp, .int .i64 0, .int .u64 0] 80) = W0 at hc k0 b0 b1 hz1 ⊢
 refine (tour_any (w.heap.size + 1 + 1) (w.heap.size + 1 + 1 + 1) 0 W0 hc (by omega) (by omega)).mono ?_
 rintro e w1 ⟨v0, t, rfl, hT, ht12, ht61, hc1, hk1⟩
 replace k0 := k0.step hk1 (fun q e hl => by have e : q = w.heap.size + 1 + 1 := e; omega)
 replace b0 := b0.step hk1 (fun e => by have e : w.heap.size = w.heap.size + 1 + 1 := e; omega)
 replace b1 := b1.step hk1 (fun e => by have e : w.heap.size + 1 = w.heap.size + 1 + 1 := e; omega)
 have hs1 := hk1.size
 rw [hz1] at hT
 obtain ⟨pv, rv, hv0, hps, hrq⟩ := id hT
 obtain ⟨p1, p3, rfl, _⟩ := id hps
 obtain ⟨r1, r3, rfl, _⟩ := id hrq
 subst hv0
 clear hps hrq hk1 hc
 have bT := Box3.new w1 (.int .i64 t.items) (.slice p1 t.ps.length p3) (.slice r1 t.reqs.length r3) 31
 have ka := (Chg.refl No w1).alloc (.cells #[.int .i64 t.items, .slice p1 t.ps.length p3, .slice r1 t.reqs.length r3] 31)
 replace k0 := k0.trans ka
 replace b0 := b0.keep ka
 replace b1 := b1.keep ka
 replace hc1 := hc1.keep ka
 replace hT := hT.keep ka
 go_wp2_with fail
 generalize w1.alloc (.cells #[.int .i64 t.items, .slice p1 t.ps.length p3, .slice r1 t.reqs.length r3] 31) = W1 at bT k0 b0 b1 hc1 hT ⊢
 obtain ⟨M, hM⟩ : ∃ M, w1.heap.size = M := ⟨_, rfl⟩
 rw [hM] at bT hs1 ⊢
 clear hM ka
 refine wp_region_K (S := fun W => Box3 W M (.int .i64 t.items) (.slice p1 t.ps.length p3) (.slice r1 t.reqs.length r3)) (k := 5) (by kernel_rfl) ?_
 replace k0 := k0.keep (drewN0 _)
 replace b0 := b0.keep (drewN0 _)
 replace b1 := b1.keep (drewN0 _)
 replace bT := bT.keep (drewN0 _)
 replace hc1 := hc1.keep (drewN0 _)
 replace hT := hT.keep (drewN0 _)
 generalize W1.drew = WR at k0 b0 b1 bT hc1 hT ⊢
 have hS := bT
 refine wpAnyK_takeT 0 (.agg #[.int .i64 t.items, .slice p1 t.ps.length p3, .slice r1 t.reqs.length r3]) rfl (by kernel_rfl) (fun _ _ _ h => h) hS rfl (by rintro w ⟨c0, c1, c2, fr⟩; go_simp) ?_
 simp only [zA, zC, zD, zE, zF, zG]
 refine wpAnyK_take0 1 (.pointer (some ⟨w.heap.size + 1 + 1, 0, none⟩)) rfl (by kernel_rfl) (fun _ _ _ h => h) hS rfl (by intro w; go_simp) ?_
 simp only [zA, zB, zC, zD, zE, zF, zG]
 refine wpAnyK_takeT 2 (.agg #[.int .i64 t.items, .slice p1 t.ps.length p3, .slice r1 t.reqs.length r3]) rfl (by kernel_rfl) (fun _ _ _ h => h) hS rfl (by rintro w ⟨c0, c1, c2, fr⟩; go_simp) ?_
 simp only [zA, zB, zC, zD, zE, zF, zG]
 refine wpAnyK_1 3 (by kernel_rfl) (wpOpK' rfl rfl ?_)
 intro K hK
 have hMw := bT.lt
 have q3 : Calls Tryz.prog 61 #[.pointer (some ⟨w.heap.size + 1 + 1, 0, none⟩), .agg #[.int .i64 t.items, .slice p1 t.ps.length p3, .slice r1 t.reqs.length r3]] WR (Ret fun v w' => (∃ k p q : Int, v = .agg #[.int .i64 k, .int .i64 p, .int .i64 q]) ∧ Chg (fun q => q = w.heap.size + 1 + 1) WR w') :=
  (step12_any (w.heap.size + 1 + 1) (w.heap.size + 1 + 1 + 1) (0 + 3000) _ t WR hc1 (by omega) (by omega) (hT.weakS (fun q e _ => by have e : q = w.heap.size + 1 + 1 := e; show q < _; omega)) (by omega)).mono (fun _ _ ⟨k, p, q, he, _, h3⟩ => ⟨_, he, ⟨k, p, q, rfl⟩, h3⟩)
 refine ocall (f := 61) (args := #[.pointer (some ⟨w.heap.size + 1 + 1, 0, none⟩), .agg #[.int .i64 t.items, .slice p1 t.ps.length p3, .slice r1 t.reqs.length r3]]) (by go_simp) q3 (fun v8 w8 h8 => hK.out _ _ (bT.step h8.2 (fun e => by have e : M = w.heap.size + 1 + 1 := e; omega)) ?_)
 obtain ⟨⟨k, p, q, rfl⟩, k8⟩ := h8
 clear q3
 clear hK K hS
 simp only [zA, zB, zC, zD, zE, zF, zG]
 replace k0 := k0.step k8 (fun q e hl => by have e : q = w.heap.size + 1 + 1 := e; omega)
 replace b0 := b0.step k8 (fun e => by have e : w.heap.size = w.heap.size + 1 + 1 := e; omega)
 replace b1 := b1.step k8 (fun e => by have e : w.heap.size + 1 = w.heap.size + 1 + 1 := e; omega)
 replace bT := bT.step k8 (fun e => by have e : M = w.heap.size + 1 + 1 := e; omega)
 replace hT := hT.step k8 (fun q e => by have e : q = w.heap.size + 1 + 1 := e; show q < _; omega)
 clear hc1 k8
 refine wpAnyK_1 4 (by kernel_rfl) (wpOpK' rfl rfl ?_)
 intro K hK
 obtain ⟨s0, s1, s2, sf⟩ := id b0
 have sf0 := sf 0
 have sf1 := sf 1
 have sf2 := sf 2
 clear sf
 unfold Oper.wp execOp
 go_simp
 have ch := (Chg.refl (fun q => q = w.heap.size) w8).put3 (b := w.heap.size) (fun _ => rfl) (.int .i64 t.items) (.slice p1 t.ps.length p3) (.slice r1 t.reqs.length r3)
 replace bT := bT.step ch (by omega)
 refine hK.out _ _ bT ?_
 clear hK K s0 s1 s2 sf0 sf1 sf2
 simp only [zE]
 replace k0 := k0.step ch (fun q e hl => by have e : q = w.heap.size := e; omega)
 replace b0 := ((b0.set0 (.int .i64 t.items)).set1 (.slice p1 t.ps.length p3)).set2 (.slice r1 t.reqs.length r3)
 replace b1 := b1.step ch (by omega)
 replace hT := hT.step ch (fun q e => by have e : q = w.heap.size := e; show q < _; omega)
 clear ch bT
 generalize ((w8.setCell ⟨w.heap.size, 0, none⟩ (.int .i64 t.items)).setCell ⟨w.heap.size, 1, none⟩ (.slice p1 t.ps.length p3)).setCell ⟨w.heap.size, 2, none⟩ (.slice r1 t.reqs.length r3) = W9 at k0 b0 b1 hT ⊢
 refine wpAnyK_tail 5 rfl (by kernel_rfl) ?_
 simp only [List.drop_succ_cons, List.drop_zero]
 obtain ⟨s0, s1, s2, sf⟩ := id b1
 have sf0 := sf 0
 have sf1 := sf 1
 have sf2 := sf 2
 clear sf
 have ch := (Chg.refl (fun q => q = w.heap.size + 1) W9).put3 (b := w.heap.size + 1) (fun _ => rfl) (.int .i64 k) (.int .i64 p) (.int .i64 q)
 have HR := Lib.hid ((hT.step ch (fun q e => by have e : q = w.heap.size + 1 := e; show q < _; omega)).no)
 have HK := Lib.hid (k0.step ch (fun q e hl => by have e : q = w.heap.size + 1 := e; omega))
 obtain ⟨z0, z1, z2, _⟩ := b0.step ch (by omega)
 obtain ⟨y0, y1, y2, _⟩ := ((b1.set0 (.int .i64 k)).set1 (.int .i64 p)).set2 (.int .i64 q)
 clear hT k0 b0 b1 ch
 go_wp2_with fail
 refine bodyPost_ret (v := .tuple #[.agg #[.int .i64 t.items, .slice p1 t.ps.length p3, .slice r1 t.reqs.length r3], .agg #[.int .i64 k, .int .i64 p, .int .i64 q]]) (by simp [results, Tryz.results22, go_sem, z0, z1, z2, y0, y1, y2]) rfl ?_
 exact ⟨_, t, k, p, q, rfl, HR.out, ht12, ht61, HK.out⟩
end Go.Proofs.YtdgcohoneijleaaGreatDoor
