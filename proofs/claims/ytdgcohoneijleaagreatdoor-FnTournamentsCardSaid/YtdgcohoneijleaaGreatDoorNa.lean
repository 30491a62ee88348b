import Derived.Test.YtdgcohoneijleaaGreatDoorPkX17
import Derived.Test.YtdgcohoneijleaaGreatDoorPkX13
namespace Go.Proofs.YtdgcohoneijleaaGreatDoor
open Go.RowKit
structure StD (b B K M R X : Nat) (m0 m1 m2 : Value) (w W : World) (k a c : Int) : Prop where
 cur : Cur W b B K
 chg : Chg (fun q => q = b) w W
 bt : Box3 W M m0 m1 m2
 br : Box3 W R (.int .i64 0) (.int .i64 0) (.int .i64 0)
 bx : Box3 W X (.int .i64 k) (.int .i64 a) (.int .i64 c)
 far : b < B ∧ B ≤ w.heap.size ∧ w.heap.size ≤ M ∧ M < R ∧ R < X
theorem StD.call {b B K K' M R X : Nat} {m0 m1 m2 : Value} {w W W' : World} {k a c : Int} (h : StD b B K M R X m0 m1 m2 w W k a c) (hc : Cur W' b B K') (hk : Chg (fun q => q = b) W W') : StD b B K' M R X m0 m1 m2 w W' k a c := by
 have hf := h.far
 exact ⟨hc, h.chg.trans hk, h.bt.step hk (by omega), h.br.step hk (by omega), h.bx.step hk (by omega), hf⟩
theorem StD.setC {b B K M R X : Nat} {m0 m1 m2 : Value} {w W : World} {k a c : Int} (h : StD b B K M R X m0 m1 m2 w W k a c) (o : Nat) (x : Value) :
  Cur (W.setCell ⟨X, o, none⟩ x) b B K ∧ Chg (fun q => q = b) w (W.setCell ⟨X, o, none⟩ x) ∧ Box3 (W.setCell ⟨X, o, none⟩ x) M m0 m1 m2 ∧ Box3 (W.setCell ⟨X, o, none⟩ x) R (.int .i64 0) (.int .i64 0) (.int .i64 0) := by
 have hf := h.far
 have ch := (Chg.refl (fun q => q = X) W).setCell (p := ⟨X, o, none⟩) (fun _ => rfl) x
 exact ⟨h.cur.step ch (fun q hq => by omega), h.chg.setCell (p := ⟨X, o, none⟩) (fun hl => by have hl : X < w.heap.size := hl; omega) x, h.bt.far ⟨X, o, none⟩ x (by show X ≠ M; omega), h.br.far ⟨X, o, none⟩ x (by show X ≠ R; omega)⟩
theorem StD.s0 {b B K M R X : Nat} {m0 m1 m2 : Value} {w W : World} {k a c : Int} (h : StD b B K M R X m0 m1 m2 w W k a c) (x : Int) : StD b B K M R X m0 m1 m2 w (W.setCell ⟨X, 0, none⟩ (.int .i64 x)) x a c := by
 obtain ⟨h1, h2, h3, h4⟩ := h.setC 0 (.int .i64 x)
 exact ⟨h1, h2, h3, h4, h.bx.set0 _, h.far⟩
theorem StD.s1 {b B K M R X : Nat} {m0 m1 m2 : Value} {w W : World} {k a c : Int} (h : StD b B K M R X m0 m1 m2 w W k a c) (x : Int) : StD b B K M R X m0 m1 m2 w (W.setCell ⟨X, 1, none⟩ (.int .i64 x)) k x c := by
 obtain ⟨h1, h2, h3, h4⟩ := h.setC 1 (.int .i64 x)
 exact ⟨h1, h2, h3, h4, h.bx.set1 _, h.far⟩
theorem StD.s2 {b B K M R X : Nat} {m0 m1 m2 : Value} {w W : World} {k a c : Int} (h : StD b B K M R X m0 m1 m2 w W k a c) (x : Int) : StD b B K M R X m0 m1 m2 w (W.setCell ⟨X, 2, none⟩ (.int .i64 x)) k a x := by
 obtain ⟨h1, h2, h3, h4⟩ := h.setC 2 (.int .i64 x)
 exact ⟨h1, h2, h3, h4, h.bx.set2 _, h.far⟩
theorem StD.fin {b B K M R X : Nat} {m0 m1 m2 : Value} {w W : World} {k a c : Int} (h : StD b B K M R X m0 m1 m2 w W k a c) (x0 x1 x2 : Value) :
  Cur (((W.setCell ⟨R, 0, none⟩ x0).setCell ⟨R, 1, none⟩ x1).setCell ⟨R, 2, none⟩ x2) b B K ∧ Chg (fun q => q = b) w (((W.setCell ⟨R, 0, none⟩ x0).setCell ⟨R, 1, none⟩ x1).setCell ⟨R, 2, none⟩ x2) := by
 have hf := h.far
 have ch := (((Chg.refl (fun q => q = R) W).setCell (p := ⟨R, 0, none⟩) (fun _ => rfl) x0).setCell (p := ⟨R, 1, none⟩) (fun _ => rfl) x1).setCell (p := ⟨R, 2, none⟩) (fun _ => rfl) x2
 exact ⟨h.cur.step ch (fun q hq => by omega), h.chg.step ch (fun q hq hl => by omega)⟩
set_option maxRecDepth 100000 in
set_option maxHeartbeats 16000000 in
theorem step12_any (b B K : Nat) (v : Value) (t : To) (w : World) (h : Cur w b B K) (hB : B ≤ w.heap.size) (hK : K ≤ 800000000) (hv : RT (fun q => q = b) w v t) (hrl : t.reqs.length ≤ 1000000) :
  Calls Tryz.prog 61 #[.pointer (some ⟨b, 0, none⟩), v] w fun e w' => ∃ k a c : Int, e = .returned (.agg #[.int .i64 k, .int .i64 a, .int .i64 c]) ∧ Cur w' b B (K + 20) ∧ Chg (fun q => q = b) w w' := by
 obtain ⟨it, ps, rq⟩ := t
 obtain ⟨pv, rv, rfl, hps, hrq⟩ := hv
 simp only at hps hrq hrl
 obtain ⟨pa, pc, rfl, _, _, hpn, _⟩ := id hps
 obtain ⟨ra, rc, rfl, hr1, hr2, hr3, _⟩ := id hrq
 have hb := h.lt
 have hbB := h.ltB
 obtain ⟨kk, b0, b1⟩ := boxes32 (w := w) (t := 31) (t' := 47) (x0 := .int .i64 it) (x1 := .slice pa ps.length pc) (x2 := .slice ra rq.length rc) (y0 := .int .i64 0) (y1 := .int .i64 0) (y2 := .int .i64 0)
  (R := fun W => Chg No w W ∧ Box3 W w.heap.size (.int .i64 it) (.slice pa ps.length pc) (.slice ra rq.length rc) ∧ Box3 W (w.heap.size + 1) (.int .i64 0) (.int .i64 0) (.int .i64 0)) (fun W k b0 b1 => ⟨k, b0, b1⟩)
 have hc := h.keep kk
 clear hps hrq h
 go_enter Tryz.func61, Tryz.ntmps61
 go_wp2_with fail
 refine (among_lit b B K _ [1, 1, 2, 2, 2, 3, 4, 5, 6, 6, 7] _ _ _ _ _ (by simp) rfl rfl rfl hc (by omega) (by decide) (by decide)).mono ?_
 rintro e w1 ⟨k, rfl, hk, hc1, hk1⟩
 have hs1 := hk1.size
 have hbl : w.heap.size + 1 < w1.heap.size := by have := b1.lt; omega
 have bx := Box3.new w1 (.int .i64 k) (.int .i64 0) (.int .i64 0) 47
 have ka := (Chg.refl No w1).alloc (.cells #[.int .i64 k, .int .i64 0, .int .i64 0] 47)
 obtain ⟨X, hX⟩ : ∃ X, w1.heap.size = X := ⟨_, rfl⟩
 have h : StD b B (K + 2) w.heap.size (w.heap.size + 1) X (.int .i64 it) (.slice pa ps.length pc) (.slice ra rq.length rc) w (w1.alloc (.cells #[.int .i64 k, .int .i64 0, .int .i64 0] 47)) k 0 0 :=
  ⟨hc1.keep ka, ((Chg.refl (fun q => q = b) w).step kk (fun _ e _ => e.elim)).trans hk1 |>.keep ka, (b0.step hk1 (by omega)).keep ka, (b1.step hk1 (by omega)).keep ka, hX ▸ bx, ⟨hbB, hB, Nat.le_refl _, by omega, by omega⟩⟩
 rw [hX] at bx
 obtain ⟨c0, c1, c2, cf⟩ := id bx
 obtain ⟨d0, d1, d2, _⟩ := id h.bt
 clear kk b0 b1 hc hc1 hk1 ka hbl hs1
 go_wp2_with fail
 ·skip
  refine (policy_any b B _ _ h.cur (by omega)).mono ?_
  rintro e w1 ⟨r, rfl, _, _, hc1, hk1⟩
  replace h := h.call hc1 hk1
  clear c0 c1 c2 cf bx d0 d1 d2
  clear hc1 hk1
  obtain ⟨c0, c1, c2, cf⟩ := id h.bx
  have cf0 := cf 0
  have cf1 := cf 1
  have cf2 := cf 2
  clear cf
  obtain ⟨d0, d1, d2, _⟩ := id h.bt
  obtain ⟨e0, e1, e2, ef⟩ := id h.br
  have ef0 := ef 0
  have ef1 := ef 1
  have ef2 := ef 2
  clear ef
  have HS := Lib.hid (h.s1 r)
  go_wp2_with fail
  clear c0 c1 c2 cf0 cf1 cf2 d0 d1 d2 e0 e1 e2 ef0 ef1 ef2
  replace h := HS.out
  clear HS
  refine (size4_any b B _ _ h.cur (by omega)).mono ?_
  rintro e w1 ⟨r2, rfl, _, _, hc1, hk1⟩
  replace h := h.call hc1 hk1
  clear hc1 hk1
  obtain ⟨c0, c1, c2, cf⟩ := id h.bx
  have cf0 := cf 0
  have cf1 := cf 1
  have cf2 := cf 2
  clear cf
  obtain ⟨d0, d1, d2, _⟩ := id h.bt
  obtain ⟨e0, e1, e2, ef⟩ := id h.br
  have ef0 := ef 0
  have ef1 := ef 1
  have ef2 := ef 2
  clear ef
  have HS := Lib.hid (h.s2 r2)
  go_wp2_with fail
  clear c0 c1 c2 cf0 cf1 cf2 d0 d1 d2 e0 e1 e2 ef0 ef1 ef2
  replace h := HS.out
  clear HS
  refine (pick_any b B _ 24 _ h.cur (by omega) (by omega)).mono ?_
  rintro e w1 ⟨x, rfl, hx0, _, _, hc1, hk1⟩
  replace h := h.call hc1 hk1
  clear hc1 hk1
  obtain ⟨c0, c1, c2, cf⟩ := id h.bx
  have cf0 := cf 0
  have cf1 := cf 1
  have cf2 := cf 2
  clear cf
  obtain ⟨d0, d1, d2, _⟩ := id h.bt
  obtain ⟨e0, e1, e2, ef⟩ := id h.br
  have ef0 := ef 0
  have ef1 := ef 1
  have ef2 := ef 2
  clear ef
  by_cases hx : x = 0
  ·subst hx
   go_wp2_with fail
   refine (among_lit b B _ _ [1, -1, 61, -9223372036854775808] _ _ _ _ _ rfl rfl rfl rfl h.cur (by omega) (by decide) (by decide)).mono ?_
   rintro e w1 ⟨y, rfl, _, hc1, hk1⟩
   replace h := h.call hc1 hk1
   clear c0 c1 c2 cf0 cf1 cf2 d0 d1 d2 e0 e1 e2 ef0 ef1 ef2
   clear hc1 hk1
   have hn := h.s2 y
   obtain ⟨c0, c1, c2, cf⟩ := id h.bx
   have cf0 := cf 0
   have cf1 := cf 1
   have cf2 := cf 2
   clear cf
   obtain ⟨e0, e1, e2, ef⟩ := id h.br
   have hne : ¬ X = w.heap.size + 1 := by have := h.far; omega
   have hne' : ¬ w.heap.size + 1 = X := fun e => hne e.symm
   have ef0 := ef 0
   have ef1 := ef 1
   have ef2 := ef 2
   clear ef
   obtain ⟨z0, z1, z2, _⟩ := ((hn.br.set0 (.int .i64 k)).set1 (.int .i64 r)).set2 (.int .i64 y)
   obtain ⟨hcE, hkE⟩ := hn.fin (.int .i64 k) (.int .i64 r) (.int .i64 y)
   have HE := Lib.hid (And.intro hcE hkE)
   clear h hn hcE hkE
   go_wp2_with fail
   exact bodyPost_ret (v := .agg #[.int .i64 k, .int .i64 r, .int .i64 y]) (by simp [results, Tryz.results61, go_sem, z0, z1, z2]) rfl ⟨_, _, _, rfl, HE.out.1.more (by omega), HE.out.2⟩
  by_cases hx' : x = 1
  ·subst hx'
   go_wp2_with fail
   refine (among_lit b B _ _ [-1, 4, 61, -9223372036854775808] _ _ _ _ _ rfl rfl rfl rfl h.cur (by omega) (by decide) (by decide)).mono ?_
   rintro e w1 ⟨y, rfl, _, hc1, hk1⟩
   replace h := h.call hc1 hk1
   clear c0 c1 c2 cf0 cf1 cf2 d0 d1 d2 e0 e1 e2 ef0 ef1 ef2
   clear hc1 hk1
   have hn := h.s1 y
   obtain ⟨c0, c1, c2, cf⟩ := id h.bx
   have cf0 := cf 0
   have cf1 := cf 1
   have cf2 := cf 2
   clear cf
   obtain ⟨e0, e1, e2, ef⟩ := id h.br
   have hne : ¬ X = w.heap.size + 1 := by have := h.far; omega
   have hne' : ¬ w.heap.size + 1 = X := fun e => hne e.symm
   have ef0 := ef 0
   have ef1 := ef 1
   have ef2 := ef 2
   clear ef
   obtain ⟨z0, z1, z2, _⟩ := ((hn.br.set0 (.int .i64 k)).set1 (.int .i64 y)).set2 (.int .i64 r2)
   obtain ⟨hcE, hkE⟩ := hn.fin (.int .i64 k) (.int .i64 y) (.int .i64 r2)
   have HE := Lib.hid (And.intro hcE hkE)
   clear h hn hcE hkE
   go_wp2_with fail
   exact bodyPost_ret (v := .agg #[.int .i64 k, .int .i64 y, .int .i64 r2]) (by simp [results, Tryz.results61, go_sem, z0, z1, z2]) rfl ⟨_, _, _, rfl, HE.out.1.more (by omega), HE.out.2⟩
  by_cases hx2 : x = 2
  ·subst hx2
   go_wp2_with fail
   refine (among_lit b B _ _ [0, 8, -1] _ _ _ _ _ rfl rfl rfl rfl h.cur (by omega) (by decide) (by decide)).mono ?_
   rintro e w1 ⟨y, rfl, _, hc1, hk1⟩
   replace h := h.call hc1 hk1
   clear c0 c1 c2 cf0 cf1 cf2 d0 d1 d2 e0 e1 e2 ef0 ef1 ef2
   clear hc1 hk1
   have hn := h.s0 y
   obtain ⟨c0, c1, c2, cf⟩ := id h.bx
   have cf0 := cf 0
   have cf1 := cf 1
   have cf2 := cf 2
   clear cf
   obtain ⟨e0, e1, e2, ef⟩ := id h.br
   have hne : ¬ X = w.heap.size + 1 := by have := h.far; omega
   have hne' : ¬ w.heap.size + 1 = X := fun e => hne e.symm
   have ef0 := ef 0
   have ef1 := ef 1
   have ef2 := ef 2
   clear ef
   obtain ⟨z0, z1, z2, _⟩ := ((hn.br.set0 (.int .i64 y)).set1 (.int .i64 r)).set2 (.int .i64 r2)
   obtain ⟨hcE, hkE⟩ := hn.fin (.int .i64 y) (.int .i64 r) (.int .i64 r2)
   have HE := Lib.hid (And.intro hcE hkE)
   clear h hn hcE hkE
   go_wp2_with fail
   exact bodyPost_ret (v := .agg #[.int .i64 y, .int .i64 r, .int .i64 r2]) (by simp [results, Tryz.results61, go_sem, z0, z1, z2]) rfl ⟨_, _, _, rfl, HE.out.1.more (by omega), HE.out.2⟩
  clear c0 c1 c2 cf0 cf1 cf2 d0 d1 d2 e0 e1 e2 ef0 ef1 ef2
  obtain ⟨c0, c1, c2, cf⟩ := id h.bx
  have cf0 := cf 0
  have cf1 := cf 1
  have cf2 := cf 2
  clear cf
  obtain ⟨d0, d1, d2, _⟩ := id h.bt
  obtain ⟨e0, e1, e2, ef⟩ := id h.br
  have ef0 := ef 0
  have ef1 := ef 1
  have ef2 := ef 2
  clear ef
  obtain ⟨z0, z1, z2, _⟩ := ((h.br.set0 (.int .i64 k)).set1 (.int .i64 r)).set2 (.int .i64 r2)
  go_wp2_with fail
  obtain ⟨hcE, hkE⟩ := h.fin (.int .i64 k) (.int .i64 r) (.int .i64 r2)
  exact bodyPost_ret (v := .agg #[.int .i64 k, .int .i64 r, .int .i64 r2]) (by simp [results, Tryz.results61, go_sem, z0, z1, z2]) rfl ⟨_, _, _, rfl, hcE.more (by omega), hkE⟩
 ·skip
  refine (item_any b B _ it _ h.cur (by omega)).mono ?_
  rintro e w1 ⟨r, rfl, hc1, hk1⟩
  replace h := h.call hc1 hk1
  clear c0 c1 c2 cf bx d0 d1 d2
  clear hc1 hk1
  obtain ⟨c0, c1, c2, cf⟩ := id h.bx
  have cf0 := cf 0
  have cf1 := cf 1
  have cf2 := cf 2
  clear cf
  obtain ⟨d0, d1, d2, _⟩ := id h.bt
  obtain ⟨e0, e1, e2, ef⟩ := id h.br
  have ef0 := ef 0
  have ef1 := ef 1
  have ef2 := ef 2
  clear ef
  have HS := Lib.hid (h.s1 r)
  go_wp2_with fail
  clear c0 c1 c2 cf0 cf1 cf2 d0 d1 d2 e0 e1 e2 ef0 ef1 ef2
  replace h := HS.out
  clear HS
  refine (pick_any b B _ 24 _ h.cur (by omega) (by omega)).mono ?_
  rintro e w1 ⟨x, rfl, hx0, _, _, hc1, hk1⟩
  replace h := h.call hc1 hk1
  clear hc1 hk1
  obtain ⟨c0, c1, c2, cf⟩ := id h.bx
  have cf0 := cf 0
  have cf1 := cf 1
  have cf2 := cf 2
  clear cf
  obtain ⟨d0, d1, d2, _⟩ := id h.bt
  obtain ⟨e0, e1, e2, ef⟩ := id h.br
  have ef0 := ef 0
  have ef1 := ef 1
  have ef2 := ef 2
  clear ef
  by_cases hx : x = 0
  ·subst hx
   go_wp2_with fail
   refine (among_lit b B _ _ [1, -1, 61, -9223372036854775808] _ _ _ _ _ rfl rfl rfl rfl h.cur (by omega) (by decide) (by decide)).mono ?_
   rintro e w1 ⟨y, rfl, _, hc1, hk1⟩
   replace h := h.call hc1 hk1
   clear c0 c1 c2 cf0 cf1 cf2 d0 d1 d2 e0 e1 e2 ef0 ef1 ef2
   clear hc1 hk1
   have hn := h.s2 y
   obtain ⟨c0, c1, c2, cf⟩ := id h.bx
   have cf0 := cf 0
   have cf1 := cf 1
   have cf2 := cf 2
   clear cf
   obtain ⟨e0, e1, e2, ef⟩ := id h.br
   have hne : ¬ X = w.heap.size + 1 := by have := h.far; omega
   have hne' : ¬ w.heap.size + 1 = X := fun e => hne e.symm
   have ef0 := ef 0
   have ef1 := ef 1
   have ef2 := ef 2
   clear ef
   obtain ⟨z0, z1, z2, _⟩ := ((hn.br.set0 (.int .i64 k)).set1 (.int .i64 r)).set2 (.int .i64 y)
   obtain ⟨hcE, hkE⟩ := hn.fin (.int .i64 k) (.int .i64 r) (.int .i64 y)
   have HE := Lib.hid (And.intro hcE hkE)
   clear h hn hcE hkE
   go_wp2_with fail
   exact bodyPost_ret (v := .agg #[.int .i64 k, .int .i64 r, .int .i64 y]) (by simp [results, Tryz.results61, go_sem, z0, z1, z2]) rfl ⟨_, _, _, rfl, HE.out.1.more (by omega), HE.out.2⟩
  by_cases hx' : x = 1
  ·subst hx'
   go_wp2_with fail
   refine (among_lit b B _ _ [-1, 4, 61, -9223372036854775808] _ _ _ _ _ rfl rfl rfl rfl h.cur (by omega) (by decide) (by decide)).mono ?_
   rintro e w1 ⟨y, rfl, _, hc1, hk1⟩
   replace h := h.call hc1 hk1
   clear c0 c1 c2 cf0 cf1 cf2 d0 d1 d2 e0 e1 e2 ef0 ef1 ef2
   clear hc1 hk1
   have hn := h.s1 y
   obtain ⟨c0, c1, c2, cf⟩ := id h.bx
   have cf0 := cf 0
   have cf1 := cf 1
   have cf2 := cf 2
   clear cf
   obtain ⟨e0, e1, e2, ef⟩ := id h.br
   have hne : ¬ X = w.heap.size + 1 := by have := h.far; omega
   have hne' : ¬ w.heap.size + 1 = X := fun e => hne e.symm
   have ef0 := ef 0
   have ef1 := ef 1
   have ef2 := ef 2
   clear ef
   obtain ⟨z0, z1, z2, _⟩ := ((hn.br.set0 (.int .i64 k)).set1 (.int .i64 y)).set2 (.int .i64 0)
   obtain ⟨hcE, hkE⟩ := hn.fin (.int .i64 k) (.int .i64 y) (.int .i64 0)
   have HE := Lib.hid (And.intro hcE hkE)
   clear h hn hcE hkE
   go_wp2_with fail
   exact bodyPost_ret (v := .agg #[.int .i64 k, .int .i64 y, .int .i64 0]) (by simp [results, Tryz.results61, go_sem, z0, z1, z2]) rfl ⟨_, _, _, rfl, HE.out.1.more (by omega), HE.out.2⟩
  by_cases hx2 : x = 2
  ·subst hx2
   go_wp2_with fail
   refine (among_lit b B _ _ [0, 8, -1] _ _ _ _ _ rfl rfl rfl rfl h.cur (by omega) (by decide) (by decide)).mono ?_
   rintro e w1 ⟨y, rfl, _, hc1, hk1⟩
   replace h := h.call hc1 hk1
   clear c0 c1 c2 cf0 cf1 cf2 d0 d1 d2 e0 e1 e2 ef0 ef1 ef2
   clear hc1 hk1
   have hn := h.s0 y
   obtain ⟨c0, c1, c2, cf⟩ := id h.bx
   have cf0 := cf 0
   have cf1 := cf 1
   have cf2 := cf 2
   clear cf
   obtain ⟨e0, e1, e2, ef⟩ := id h.br
   have hne : ¬ X = w.heap.size + 1 := by have := h.far; omega
   have hne' : ¬ w.heap.size + 1 = X := fun e => hne e.symm
   have ef0 := ef 0
   have ef1 := ef 1
   have ef2 := ef 2
   clear ef
   obtain ⟨z0, z1, z2, _⟩ := ((hn.br.set0 (.int .i64 y)).set1 (.int .i64 r)).set2 (.int .i64 0)
   obtain ⟨hcE, hkE⟩ := hn.fin (.int .i64 y) (.int .i64 r) (.int .i64 0)
   have HE := Lib.hid (And.intro hcE hkE)
   clear h hn hcE hkE
   go_wp2_with fail
   exact bodyPost_ret (v := .agg #[.int .i64 y, .int .i64 r, .int .i64 0]) (by simp [results, Tryz.results61, go_sem, z0, z1, z2]) rfl ⟨_, _, _, rfl, HE.out.1.more (by omega), HE.out.2⟩
  clear c0 c1 c2 cf0 cf1 cf2 d0 d1 d2 e0 e1 e2 ef0 ef1 ef2
  obtain ⟨c0, c1, c2, cf⟩ := id h.bx
  have cf0 := cf 0
  have cf1 := cf 1
  have cf2 := cf 2
  clear cf
  obtain ⟨d0, d1, d2, _⟩ := id h.bt
  obtain ⟨e0, e1, e2, ef⟩ := id h.br
  have ef0 := ef 0
  have ef1 := ef 1
  have ef2 := ef 2
  clear ef
  obtain ⟨z0, z1, z2, _⟩ := ((h.br.set0 (.int .i64 k)).set1 (.int .i64 r)).set2 (.int .i64 0)
  go_wp2_with fail
  obtain ⟨hcE, hkE⟩ := h.fin (.int .i64 k) (.int .i64 r) (.int .i64 0)
  exact bodyPost_ret (v := .agg #[.int .i64 k, .int .i64 r, .int .i64 0]) (by simp [results, Tryz.results61, go_sem, z0, z1, z2]) rfl ⟨_, _, _, rfl, hcE.more (by omega), hkE⟩
 ·skip
  clear c0 c1 c2 cf bx d0 d1 d2
  refine (l1Most_any _ _ _).mono ?_
  rintro e w' ⟨rfl, rfl⟩
  obtain ⟨c0, c1, c2, cf⟩ := id h.bx
  have cf0 := cf 0
  have cf1 := cf 1
  have cf2 := cf 2
  clear cf
  obtain ⟨d0, d1, d2, _⟩ := id h.bt
  obtain ⟨e0, e1, e2, ef⟩ := id h.br
  have ef0 := ef 0
  have ef1 := ef 1
  have ef2 := ef 2
  clear ef
  go_wp2_with fail
  refine (pick_any b B _ (max 1 (ps.length : Int)) _ h.cur (by omega) (by omega)).mono ?_
  rintro e w1 ⟨r, rfl, hr0, hr1, hr2, hc1, hk1⟩
  replace h := h.call hc1 hk1
  clear c0 c1 c2 cf0 cf1 cf2 d0 d1 d2 e0 e1 e2 ef0 ef1 ef2
  clear hc1 hk1
  obtain ⟨c0, c1, c2, cf⟩ := id h.bx
  have cf0 := cf 0
  have cf1 := cf 1
  have cf2 := cf 2
  clear cf
  obtain ⟨d0, d1, d2, _⟩ := id h.bt
  obtain ⟨e0, e1, e2, ef⟩ := id h.br
  have ef0 := ef 0
  have ef1 := ef 1
  have ef2 := ef 2
  clear ef
  have HS := Lib.hid (h.s1 r)
  go_wp2_with fail
  clear c0 c1 c2 cf0 cf1 cf2 d0 d1 d2 e0 e1 e2 ef0 ef1 ef2
  replace h := HS.out
  clear HS
  refine (pick_any b B _ 24 _ h.cur (by omega) (by omega)).mono ?_
  rintro e w1 ⟨x, rfl, hx0, _, _, hc1, hk1⟩
  replace h := h.call hc1 hk1
  clear hc1 hk1
  obtain ⟨c0, c1, c2, cf⟩ := id h.bx
  have cf0 := cf 0
  have cf1 := cf 1
  have cf2 := cf 2
  clear cf
  obtain ⟨d0, d1, d2, _⟩ := id h.bt
  obtain ⟨e0, e1, e2, ef⟩ := id h.br
  have ef0 := ef 0
  have ef1 := ef 1
  have ef2 := ef 2
  clear ef
  by_cases hx : x = 0
  ·subst hx
   go_wp2_with fail
   refine (among_lit b B _ _ [1, -1, 61, -9223372036854775808] _ _ _ _ _ rfl rfl rfl rfl h.cur (by omega) (by decide) (by decide)).mono ?_
   rintro e w1 ⟨y, rfl, _, hc1, hk1⟩
   replace h := h.call hc1 hk1
   clear c0 c1 c2 cf0 cf1 cf2 d0 d1 d2 e0 e1 e2 ef0 ef1 ef2
   clear hc1 hk1
   have hn := h.s2 y
   obtain ⟨c0, c1, c2, cf⟩ := id h.bx
   have cf0 := cf 0
   have cf1 := cf 1
   have cf2 := cf 2
   clear cf
   obtain ⟨e0, e1, e2, ef⟩ := id h.br
   have hne : ¬ X = w.heap.size + 1 := by have := h.far; omega
   have hne' : ¬ w.heap.size + 1 = X := fun e => hne e.symm
   have ef0 := ef 0
   have ef1 := ef 1
   have ef2 := ef 2
   clear ef
   obtain ⟨z0, z1, z2, _⟩ := ((hn.br.set0 (.int .i64 k)).set1 (.int .i64 r)).set2 (.int .i64 y)
   obtain ⟨hcE, hkE⟩ := hn.fin (.int .i64 k) (.int .i64 r) (.int .i64 y)
   have HE := Lib.hid (And.intro hcE hkE)
   clear h hn hcE hkE
   go_wp2_with fail
   exact bodyPost_ret (v := .agg #[.int .i64 k, .int .i64 r, .int .i64 y]) (by simp [results, Tryz.results61, go_sem, z0, z1, z2]) rfl ⟨_, _, _, rfl, HE.out.1.more (by omega), HE.out.2⟩
  by_cases hx' : x = 1
  ·subst hx'
   go_wp2_with fail
   refine (among_lit b B _ _ [-1, 4, 61, -9223372036854775808] _ _ _ _ _ rfl rfl rfl rfl h.cur (by omega) (by decide) (by decide)).mono ?_
   rintro e w1 ⟨y, rfl, _, hc1, hk1⟩
   replace h := h.call hc1 hk1
   clear c0 c1 c2 cf0 cf1 cf2 d0 d1 d2 e0 e1 e2 ef0 ef1 ef2
   clear hc1 hk1
   have hn := h.s1 y
   obtain ⟨c0, c1, c2, cf⟩ := id h.bx
   have cf0 := cf 0
   have cf1 := cf 1
   have cf2 := cf 2
   clear cf
   obtain ⟨e0, e1, e2, ef⟩ := id h.br
   have hne : ¬ X = w.heap.size + 1 := by have := h.far; omega
   have hne' : ¬ w.heap.size + 1 = X := fun e => hne e.symm
   have ef0 := ef 0
   have ef1 := ef 1
   have ef2 := ef 2
   clear ef
   obtain ⟨z0, z1, z2, _⟩ := ((hn.br.set0 (.int .i64 k)).set1 (.int .i64 y)).set2 (.int .i64 0)
   obtain ⟨hcE, hkE⟩ := hn.fin (.int .i64 k) (.int .i64 y) (.int .i64 0)
   have HE := Lib.hid (And.intro hcE hkE)
   clear h hn hcE hkE
   go_wp2_with fail
   exact bodyPost_ret (v := .agg #[.int .i64 k, .int .i64 y, .int .i64 0]) (by simp [results, Tryz.results61, go_sem, z0, z1, z2]) rfl ⟨_, _, _, rfl, HE.out.1.more (by omega), HE.out.2⟩
  by_cases hx2 : x = 2
  ·subst hx2
   go_wp2_with fail
   refine (among_lit b B _ _ [0, 8, -1] _ _ _ _ _ rfl rfl rfl rfl h.cur (by omega) (by decide) (by decide)).mono ?_
   rintro e w1 ⟨y, rfl, _, hc1, hk1⟩
   replace h := h.call hc1 hk1
   clear c0 c1 c2 cf0 cf1 cf2 d0 d1 d2 e0 e1 e2 ef0 ef1 ef2
   clear hc1 hk1
   have hn := h.s0 y
   obtain ⟨c0, c1, c2, cf⟩ := id h.bx
   have cf0 := cf 0
   have cf1 := cf 1
   have cf2 := cf 2
   clear cf
   obtain ⟨e0, e1, e2, ef⟩ := id h.br
   have hne : ¬ X = w.heap.size + 1 := by have := h.far; omega
   have hne' : ¬ w.heap.size + 1 = X := fun e => hne e.symm
   have ef0 := ef 0
   have ef1 := ef 1
   have ef2 := ef 2
   clear ef
   obtain ⟨z0, z1, z2, _⟩ := ((hn.br.set0 (.int .i64 y)).set1 (.int .i64 r)).set2 (.int .i64 0)
   obtain ⟨hcE, hkE⟩ := hn.fin (.int .i64 y) (.int .i64 r) (.int .i64 0)
   have HE := Lib.hid (And.intro hcE hkE)
   clear h hn hcE hkE
   go_wp2_with fail
   exact bodyPost_ret (v := .agg #[.int .i64 y, .int .i64 r, .int .i64 0]) (by simp [results, Tryz.results61, go_sem, z0, z1, z2]) rfl ⟨_, _, _, rfl, HE.out.1.more (by omega), HE.out.2⟩
  clear c0 c1 c2 cf0 cf1 cf2 d0 d1 d2 e0 e1 e2 ef0 ef1 ef2
  obtain ⟨c0, c1, c2, cf⟩ := id h.bx
  have cf0 := cf 0
  have cf1 := cf 1
  have cf2 := cf 2
  clear cf
  obtain ⟨d0, d1, d2, _⟩ := id h.bt
  obtain ⟨e0, e1, e2, ef⟩ := id h.br
  have ef0 := ef 0
  have ef1 := ef 1
  have ef2 := ef 2
  clear ef
  obtain ⟨z0, z1, z2, _⟩ := ((h.br.set0 (.int .i64 k)).set1 (.int .i64 r)).set2 (.int .i64 0)
  go_wp2_with fail
  obtain ⟨hcE, hkE⟩ := h.fin (.int .i64 k) (.int .i64 r) (.int .i64 0)
  exact bodyPost_ret (v := .agg #[.int .i64 k, .int .i64 r, .int .i64 0]) (by simp [results, Tryz.results61, go_sem, z0, z1, z2]) rfl ⟨_, _, _, rfl, hcE.more (by omega), hkE⟩
 ·skip
  clear c0 c1 c2 cf bx d0 d1 d2
  refine (l1Most_any _ _ _).mono ?_
  rintro e w' ⟨rfl, rfl⟩
  obtain ⟨c0, c1, c2, cf⟩ := id h.bx
  have cf0 := cf 0
  have cf1 := cf 1
  have cf2 := cf 2
  clear cf
  obtain ⟨d0, d1, d2, _⟩ := id h.bt
  obtain ⟨e0, e1, e2, ef⟩ := id h.br
  have ef0 := ef 0
  have ef1 := ef 1
  have ef2 := ef 2
  clear ef
  go_wp2_with fail
  refine (pick_any b B _ (max 1 (rq.length : Int)) _ h.cur (by omega) (by omega)).mono ?_
  rintro e w1 ⟨r, rfl, hr0, hr1, hr2, hc1, hk1⟩
  replace h := h.call hc1 hk1
  clear c0 c1 c2 cf0 cf1 cf2 d0 d1 d2 e0 e1 e2 ef0 ef1 ef2
  clear hc1 hk1
  have hw1 : IntKind.i64.wrap (1 + r) = 1 + r := IntWalk.i64_in _ (by omega)
  obtain ⟨c0, c1, c2, cf⟩ := id h.bx
  have cf0 := cf 0
  have cf1 := cf 1
  have cf2 := cf 2
  clear cf
  obtain ⟨d0, d1, d2, _⟩ := id h.bt
  obtain ⟨e0, e1, e2, ef⟩ := id h.br
  have ef0 := ef 0
  have ef1 := ef 1
  have ef2 := ef 2
  clear ef
  have HS := Lib.hid (h.s1 (1 + r))
  go_wp2_with fail
  clear c0 c1 c2 cf0 cf1 cf2 d0 d1 d2 e0 e1 e2 ef0 ef1 ef2
  replace h := HS.out
  clear HS
  refine (pick_any b B _ 24 _ h.cur (by omega) (by omega)).mono ?_
  rintro e w1 ⟨x, rfl, hx0, _, _, hc1, hk1⟩
  replace h := h.call hc1 hk1
  clear hc1 hk1
  obtain ⟨c0, c1, c2, cf⟩ := id h.bx
  have cf0 := cf 0
  have cf1 := cf 1
  have cf2 := cf 2
  clear cf
  obtain ⟨d0, d1, d2, _⟩ := id h.bt
  obtain ⟨e0, e1, e2, ef⟩ := id h.br
  have ef0 := ef 0
  have ef1 := ef 1
  have ef2 := ef 2
  clear ef
  by_cases hx : x = 0
  ·subst hx
   go_wp2_with fail
   refine (among_lit b B _ _ [1, -1, 61, -9223372036854775808] _ _ _ _ _ rfl rfl rfl rfl h.cur (by omega) (by decide) (by decide)).mono ?_
   rintro e w1 ⟨y, rfl, _, hc1, hk1⟩
   replace h := h.call hc1 hk1
   clear c0 c1 c2 cf0 cf1 cf2 d0 d1 d2 e0 e1 e2 ef0 ef1 ef2
   clear hc1 hk1
   have hn := h.s2 y
   obtain ⟨c0, c1, c2, cf⟩ := id h.bx
   have cf0 := cf 0
   have cf1 := cf 1
   have cf2 := cf 2
   clear cf
   obtain ⟨e0, e1, e2, ef⟩ := id h.br
   have hne : ¬ X = w.heap.size + 1 := by have := h.far; omega
   have hne' : ¬ w.heap.size + 1 = X := fun e => hne e.symm
   have ef0 := ef 0
   have ef1 := ef 1
   have ef2 := ef 2
   clear ef
   obtain ⟨z0, z1, z2, _⟩ := ((hn.br.set0 (.int .i64 k)).set1 (.int .i64 (1 + r))).set2 (.int .i64 y)
   obtain ⟨hcE, hkE⟩ := hn.fin (.int .i64 k) (.int .i64 (1 + r)) (.int .i64 y)
   have HE := Lib.hid (And.intro hcE hkE)
   clear h hn hcE hkE
   go_wp2_with fail
   exact bodyPost_ret (v := .agg #[.int .i64 k, .int .i64 (1 + r), .int .i64 y]) (by simp [results, Tryz.results61, go_sem, z0, z1, z2]) rfl ⟨_, _, _, rfl, HE.out.1.more (by omega), HE.out.2⟩
  by_cases hx' : x = 1
  ·subst hx'
   go_wp2_with fail
   refine (among_lit b B _ _ [-1, 4, 61, -9223372036854775808] _ _ _ _ _ rfl rfl rfl rfl h.cur (by omega) (by decide) (by decide)).mono ?_
   rintro e w1 ⟨y, rfl, _, hc1, hk1⟩
   replace h := h.call hc1 hk1
   clear c0 c1 c2 cf0 cf1 cf2 d0 d1 d2 e0 e1 e2 ef0 ef1 ef2
   clear hc1 hk1
   have hn := h.s1 y
   obtain ⟨c0, c1, c2, cf⟩ := id h.bx
   have cf0 := cf 0
   have cf1 := cf 1
   have cf2 := cf 2
   clear cf
   obtain ⟨e0, e1, e2, ef⟩ := id h.br
   have hne : ¬ X = w.heap.size + 1 := by have := h.far; omega
   have hne' : ¬ w.heap.size + 1 = X := fun e => hne e.symm
   have ef0 := ef 0
   have ef1 := ef 1
   have ef2 := ef 2
   clear ef
   obtain ⟨z0, z1, z2, _⟩ := ((hn.br.set0 (.int .i64 k)).set1 (.int .i64 y)).set2 (.int .i64 0)
   obtain ⟨hcE, hkE⟩ := hn.fin (.int .i64 k) (.int .i64 y) (.int .i64 0)
   have HE := Lib.hid (And.intro hcE hkE)
   clear h hn hcE hkE
   go_wp2_with fail
   exact bodyPost_ret (v := .agg #[.int .i64 k, .int .i64 y, .int .i64 0]) (by simp [results, Tryz.results61, go_sem, z0, z1, z2]) rfl ⟨_, _, _, rfl, HE.out.1.more (by omega), HE.out.2⟩
  by_cases hx2 : x = 2
  ·subst hx2
   go_wp2_with fail
   refine (among_lit b B _ _ [0, 8, -1] _ _ _ _ _ rfl rfl rfl rfl h.cur (by omega) (by decide) (by decide)).mono ?_
   rintro e w1 ⟨y, rfl, _, hc1, hk1⟩
   replace h := h.call hc1 hk1
   clear c0 c1 c2 cf0 cf1 cf2 d0 d1 d2 e0 e1 e2 ef0 ef1 ef2
   clear hc1 hk1
   have hn := h.s0 y
   obtain ⟨c0, c1, c2, cf⟩ := id h.bx
   have cf0 := cf 0
   have cf1 := cf 1
   have cf2 := cf 2
   clear cf
   obtain ⟨e0, e1, e2, ef⟩ := id h.br
   have hne : ¬ X = w.heap.size + 1 := by have := h.far; omega
   have hne' : ¬ w.heap.size + 1 = X := fun e => hne e.symm
   have ef0 := ef 0
   have ef1 := ef 1
   have ef2 := ef 2
   clear ef
   obtain ⟨z0, z1, z2, _⟩ := ((hn.br.set0 (.int .i64 y)).set1 (.int .i64 (1 + r))).set2 (.int .i64 0)
   obtain ⟨hcE, hkE⟩ := hn.fin (.int .i64 y) (.int .i64 (1 + r)) (.int .i64 0)
   have HE := Lib.hid (And.intro hcE hkE)
   clear h hn hcE hkE
   go_wp2_with fail
   exact bodyPost_ret (v := .agg #[.int .i64 y, .int .i64 (1 + r), .int .i64 0]) (by simp [results, Tryz.results61, go_sem, z0, z1, z2]) rfl ⟨_, _, _, rfl, HE.out.1.more (by omega), HE.out.2⟩
  clear c0 c1 c2 cf0 cf1 cf2 d0 d1 d2 e0 e1 e2 ef0 ef1 ef2
  obtain ⟨c0, c1, c2, cf⟩ := id h.bx
  have cf0 := cf 0
  have cf1 := cf 1
  have cf2 := cf 2
  clear cf
  obtain ⟨d0, d1, d2, _⟩ := id h.bt
  obtain ⟨e0, e1, e2, ef⟩ := id h.br
  have ef0 := ef 0
  have ef1 := ef 1
  have ef2 := ef 2
  clear ef
  obtain ⟨z0, z1, z2, _⟩ := ((h.br.set0 (.int .i64 k)).set1 (.int .i64 (1 + r))).set2 (.int .i64 0)
  go_wp2_with fail
  obtain ⟨hcE, hkE⟩ := h.fin (.int .i64 k) (.int .i64 (1 + r)) (.int .i64 0)
  exact bodyPost_ret (v := .agg #[.int .i64 k, .int .i64 (1 + r), .int .i64 0]) (by simp [results, Tryz.results61, go_sem, z0, z1, z2]) rfl ⟨_, _, _, rfl, hcE.more (by omega), hkE⟩
 ·skip
  clear c0 c1 c2 cf bx d0 d1 d2
  refine (l1Most_any _ _ _).mono ?_
  rintro e w' ⟨rfl, rfl⟩
  obtain ⟨c0, c1, c2, cf⟩ := id h.bx
  have cf0 := cf 0
  have cf1 := cf 1
  have cf2 := cf 2
  clear cf
  obtain ⟨d0, d1, d2, _⟩ := id h.bt
  obtain ⟨e0, e1, e2, ef⟩ := id h.br
  have ef0 := ef 0
  have ef1 := ef 1
  have ef2 := ef 2
  clear ef
  go_wp2_with fail
  refine (pick_any b B _ (max 1 (ps.length : Int)) _ h.cur (by omega) (by omega)).mono ?_
  rintro e w1 ⟨r, rfl, hr0, hr1, hr2, hc1, hk1⟩
  replace h := h.call hc1 hk1
  clear c0 c1 c2 cf0 cf1 cf2 d0 d1 d2 e0 e1 e2 ef0 ef1 ef2
  clear hc1 hk1
  obtain ⟨c0, c1, c2, cf⟩ := id h.bx
  have cf0 := cf 0
  have cf1 := cf 1
  have cf2 := cf 2
  clear cf
  obtain ⟨d0, d1, d2, _⟩ := id h.bt
  obtain ⟨e0, e1, e2, ef⟩ := id h.br
  have ef0 := ef 0
  have ef1 := ef 1
  have ef2 := ef 2
  clear ef
  have HS := Lib.hid (h.s1 r)
  go_wp2_with fail
  clear c0 c1 c2 cf0 cf1 cf2 d0 d1 d2 e0 e1 e2 ef0 ef1 ef2
  replace h := HS.out
  clear HS
  refine (among_lit b B _ _ [1, 2, 5, 9, 60, 0] _ _ _ _ _ (by simp) rfl rfl rfl h.cur (by omega) (by decide) (by decide)).mono ?_
  rintro e w1 ⟨rn, rfl, _, hc1, hk1⟩
  replace h := h.call hc1 hk1
  clear hc1 hk1
  obtain ⟨c0, c1, c2, cf⟩ := id h.bx
  have cf0 := cf 0
  have cf1 := cf 1
  have cf2 := cf 2
  clear cf
  obtain ⟨d0, d1, d2, _⟩ := id h.bt
  obtain ⟨e0, e1, e2, ef⟩ := id h.br
  have ef0 := ef 0
  have ef1 := ef 1
  have ef2 := ef 2
  clear ef
  have HS := Lib.hid (h.s2 rn)
  go_wp2_with fail
  clear c0 c1 c2 cf0 cf1 cf2 d0 d1 d2 e0 e1 e2 ef0 ef1 ef2
  replace h := HS.out
  clear HS
  refine (pick_any b B _ 24 _ h.cur (by omega) (by omega)).mono ?_
  rintro e w1 ⟨x, rfl, hx0, _, _, hc1, hk1⟩
  replace h := h.call hc1 hk1
  clear hc1 hk1
  obtain ⟨c0, c1, c2, cf⟩ := id h.bx
  have cf0 := cf 0
  have cf1 := cf 1
  have cf2 := cf 2
  clear cf
  obtain ⟨d0, d1, d2, _⟩ := id h.bt
  obtain ⟨e0, e1, e2, ef⟩ := id h.br
  have ef0 := ef 0
  have ef1 := ef 1
  have ef2 := ef 2
  clear ef
  by_cases hx : x = 0
  ·subst hx
   go_wp2_with fail
   refine (among_lit b B _ _ [1, -1, 61, -9223372036854775808] _ _ _ _ _ rfl rfl rfl rfl h.cur (by omega) (by decide) (by decide)).mono ?_
   rintro e w1 ⟨y, rfl, _, hc1, hk1⟩
   replace h := h.call hc1 hk1
   clear c0 c1 c2 cf0 cf1 cf2 d0 d1 d2 e0 e1 e2 ef0 ef1 ef2
   clear hc1 hk1
   have hn := h.s2 y
   obtain ⟨c0, c1, c2, cf⟩ := id h.bx
   have cf0 := cf 0
   have cf1 := cf 1
   have cf2 := cf 2
   clear cf
   obtain ⟨e0, e1, e2, ef⟩ := id h.br
   have hne : ¬ X = w.heap.size + 1 := by have := h.far; omega
   have hne' : ¬ w.heap.size + 1 = X := fun e => hne e.symm
   have ef0 := ef 0
   have ef1 := ef 1
   have ef2 := ef 2
   clear ef
   obtain ⟨z0, z1, z2, _⟩ := ((hn.br.set0 (.int .i64 k)).set1 (.int .i64 r)).set2 (.int .i64 y)
   obtain ⟨hcE, hkE⟩ := hn.fin (.int .i64 k) (.int .i64 r) (.int .i64 y)
   have HE := Lib.hid (And.intro hcE hkE)
   clear h hn hcE hkE
   go_wp2_with fail
   exact bodyPost_ret (v := .agg #[.int .i64 k, .int .i64 r, .int .i64 y]) (by simp [results, Tryz.results61, go_sem, z0, z1, z2]) rfl ⟨_, _, _, rfl, HE.out.1.more (by omega), HE.out.2⟩
  by_cases hx' : x = 1
  ·subst hx'
   go_wp2_with fail
   refine (among_lit b B _ _ [-1, 4, 61, -9223372036854775808] _ _ _ _ _ rfl rfl rfl rfl h.cur (by omega) (by decide) (by decide)).mono ?_
   rintro e w1 ⟨y, rfl, _, hc1, hk1⟩
   replace h := h.call hc1 hk1
   clear c0 c1 c2 cf0 cf1 cf2 d0 d1 d2 e0 e1 e2 ef0 ef1 ef2
   clear hc1 hk1
   have hn := h.s1 y
   obtain ⟨c0, c1, c2, cf⟩ := id h.bx
   have cf0 := cf 0
   have cf1 := cf 1
   have cf2 := cf 2
   clear cf
   obtain ⟨e0, e1, e2, ef⟩ := id h.br
   have hne : ¬ X = w.heap.size + 1 := by have := h.far; omega
   have hne' : ¬ w.heap.size + 1 = X := fun e => hne e.symm
   have ef0 := ef 0
   have ef1 := ef 1
   have ef2 := ef 2
   clear ef
   obtain ⟨z0, z1, z2, _⟩ := ((hn.br.set0 (.int .i64 k)).set1 (.int .i64 y)).set2 (.int .i64 rn)
   obtain ⟨hcE, hkE⟩ := hn.fin (.int .i64 k) (.int .i64 y) (.int .i64 rn)
   have HE := Lib.hid (And.intro hcE hkE)
   clear h hn hcE hkE
   go_wp2_with fail
   exact bodyPost_ret (v := .agg #[.int .i64 k, .int .i64 y, .int .i64 rn]) (by simp [results, Tryz.results61, go_sem, z0, z1, z2]) rfl ⟨_, _, _, rfl, HE.out.1.more (by omega), HE.out.2⟩
  by_cases hx2 : x = 2
  ·subst hx2
   go_wp2_with fail
   refine (among_lit b B _ _ [0, 8, -1] _ _ _ _ _ rfl rfl rfl rfl h.cur (by omega) (by decide) (by decide)).mono ?_
   rintro e w1 ⟨y, rfl, _, hc1, hk1⟩
   replace h := h.call hc1 hk1
   clear c0 c1 c2 cf0 cf1 cf2 d0 d1 d2 e0 e1 e2 ef0 ef1 ef2
   clear hc1 hk1
   have hn := h.s0 y
   obtain ⟨c0, c1, c2, cf⟩ := id h.bx
   have cf0 := cf 0
   have cf1 := cf 1
   have cf2 := cf 2
   clear cf
   obtain ⟨e0, e1, e2, ef⟩ := id h.br
   have hne : ¬ X = w.heap.size + 1 := by have := h.far; omega
   have hne' : ¬ w.heap.size + 1 = X := fun e => hne e.symm
   have ef0 := ef 0
   have ef1 := ef 1
   have ef2 := ef 2
   clear ef
   obtain ⟨z0, z1, z2, _⟩ := ((hn.br.set0 (.int .i64 y)).set1 (.int .i64 r)).set2 (.int .i64 rn)
   obtain ⟨hcE, hkE⟩ := hn.fin (.int .i64 y) (.int .i64 r) (.int .i64 rn)
   have HE := Lib.hid (And.intro hcE hkE)
   clear h hn hcE hkE
   go_wp2_with fail
   exact bodyPost_ret (v := .agg #[.int .i64 y, .int .i64 r, .int .i64 rn]) (by simp [results, Tryz.results61, go_sem, z0, z1, z2]) rfl ⟨_, _, _, rfl, HE.out.1.more (by omega), HE.out.2⟩
  clear c0 c1 c2 cf0 cf1 cf2 d0 d1 d2 e0 e1 e2 ef0 ef1 ef2
  obtain ⟨c0, c1, c2, cf⟩ := id h.bx
  have cf0 := cf 0
  have cf1 := cf 1
  have cf2 := cf 2
  clear cf
  obtain ⟨d0, d1, d2, _⟩ := id h.bt
  obtain ⟨e0, e1, e2, ef⟩ := id h.br
  have ef0 := ef 0
  have ef1 := ef 1
  have ef2 := ef 2
  clear ef
  obtain ⟨z0, z1, z2, _⟩ := ((h.br.set0 (.int .i64 k)).set1 (.int .i64 r)).set2 (.int .i64 rn)
  go_wp2_with fail
  obtain ⟨hcE, hkE⟩ := h.fin (.int .i64 k) (.int .i64 r) (.int .i64 rn)
  exact bodyPost_ret (v := .agg #[.int .i64 k, .int .i64 r, .int .i64 rn]) (by simp [results, Tryz.results61, go_sem, z0, z1, z2]) rfl ⟨_, _, _, rfl, hcE.more (by omega), hkE⟩
 ·skip
  clear c0 c1 c2 cf bx d0 d1 d2
  refine (pick_any b B _ 24 _ h.cur (by omega) (by omega)).mono ?_
  rintro e w1 ⟨x, rfl, hx0, _, _, hc1, hk1⟩
  replace h := h.call hc1 hk1
  clear hc1 hk1
  obtain ⟨c0, c1, c2, cf⟩ := id h.bx
  have cf0 := cf 0
  have cf1 := cf 1
  have cf2 := cf 2
  clear cf
  obtain ⟨d0, d1, d2, _⟩ := id h.bt
  obtain ⟨e0, e1, e2, ef⟩ := id h.br
  have ef0 := ef 0
  have ef1 := ef 1
  have ef2 := ef 2
  clear ef
  by_cases hx : x = 0
  ·subst hx
   go_wp2_with fail
   refine (among_lit b B _ _ [1, -1, 61, -9223372036854775808] _ _ _ _ _ rfl rfl rfl rfl h.cur (by omega) (by decide) (by decide)).mono ?_
   rintro e w1 ⟨y, rfl, _, hc1, hk1⟩
   replace h := h.call hc1 hk1
   clear c0 c1 c2 cf0 cf1 cf2 d0 d1 d2 e0 e1 e2 ef0 ef1 ef2
   clear hc1 hk1
   have hn := h.s2 y
   obtain ⟨c0, c1, c2, cf⟩ := id h.bx
   have cf0 := cf 0
   have cf1 := cf 1
   have cf2 := cf 2
   clear cf
   obtain ⟨e0, e1, e2, ef⟩ := id h.br
   have hne : ¬ X = w.heap.size + 1 := by have := h.far; omega
   have hne' : ¬ w.heap.size + 1 = X := fun e => hne e.symm
   have ef0 := ef 0
   have ef1 := ef 1
   have ef2 := ef 2
   clear ef
   obtain ⟨z0, z1, z2, _⟩ := ((hn.br.set0 (.int .i64 k)).set1 (.int .i64 0)).set2 (.int .i64 y)
   obtain ⟨hcE, hkE⟩ := hn.fin (.int .i64 k) (.int .i64 0) (.int .i64 y)
   have HE := Lib.hid (And.intro hcE hkE)
   clear h hn hcE hkE
   go_wp2_with fail
   exact bodyPost_ret (v := .agg #[.int .i64 k, .int .i64 0, .int .i64 y]) (by simp [results, Tryz.results61, go_sem, z0, z1, z2]) rfl ⟨_, _, _, rfl, HE.out.1.more (by omega), HE.out.2⟩
  by_cases hx' : x = 1
  ·subst hx'
   go_wp2_with fail
   refine (among_lit b B _ _ [-1, 4, 61, -9223372036854775808] _ _ _ _ _ rfl rfl rfl rfl h.cur (by omega) (by decide) (by decide)).mono ?_
   rintro e w1 ⟨y, rfl, _, hc1, hk1⟩
   replace h := h.call hc1 hk1
   clear c0 c1 c2 cf0 cf1 cf2 d0 d1 d2 e0 e1 e2 ef0 ef1 ef2
   clear hc1 hk1
   have hn := h.s1 y
   obtain ⟨c0, c1, c2, cf⟩ := id h.bx
   have cf0 := cf 0
   have cf1 := cf 1
   have cf2 := cf 2
   clear cf
   obtain ⟨e0, e1, e2, ef⟩ := id h.br
   have hne : ¬ X = w.heap.size + 1 := by have := h.far; omega
   have hne' : ¬ w.heap.size + 1 = X := fun e => hne e.symm
   have ef0 := ef 0
   have ef1 := ef 1
   have ef2 := ef 2
   clear ef
   obtain ⟨z0, z1, z2, _⟩ := ((hn.br.set0 (.int .i64 k)).set1 (.int .i64 y)).set2 (.int .i64 0)
   obtain ⟨hcE, hkE⟩ := hn.fin (.int .i64 k) (.int .i64 y) (.int .i64 0)
   have HE := Lib.hid (And.intro hcE hkE)
   clear h hn hcE hkE
   go_wp2_with fail
   exact bodyPost_ret (v := .agg #[.int .i64 k, .int .i64 y, .int .i64 0]) (by simp [results, Tryz.results61, go_sem, z0, z1, z2]) rfl ⟨_, _, _, rfl, HE.out.1.more (by omega), HE.out.2⟩
  by_cases hx2 : x = 2
  ·subst hx2
   go_wp2_with fail
   refine (among_lit b B _ _ [0, 8, -1] _ _ _ _ _ rfl rfl rfl rfl h.cur (by omega) (by decide) (by decide)).mono ?_
   rintro e w1 ⟨y, rfl, _, hc1, hk1⟩
   replace h := h.call hc1 hk1
   clear c0 c1 c2 cf0 cf1 cf2 d0 d1 d2 e0 e1 e2 ef0 ef1 ef2
   clear hc1 hk1
   have hn := h.s0 y
   obtain ⟨c0, c1, c2, cf⟩ := id h.bx
   have cf0 := cf 0
   have cf1 := cf 1
   have cf2 := cf 2
   clear cf
   obtain ⟨e0, e1, e2, ef⟩ := id h.br
   have hne : ¬ X = w.heap.size + 1 := by have := h.far; omega
   have hne' : ¬ w.heap.size + 1 = X := fun e => hne e.symm
   have ef0 := ef 0
   have ef1 := ef 1
   have ef2 := ef 2
   clear ef
   obtain ⟨z0, z1, z2, _⟩ := ((hn.br.set0 (.int .i64 y)).set1 (.int .i64 0)).set2 (.int .i64 0)
   obtain ⟨hcE, hkE⟩ := hn.fin (.int .i64 y) (.int .i64 0) (.int .i64 0)
   have HE := Lib.hid (And.intro hcE hkE)
   clear h hn hcE hkE
   go_wp2_with fail
   exact bodyPost_ret (v := .agg #[.int .i64 y, .int .i64 0, .int .i64 0]) (by simp [results, Tryz.results61, go_sem, z0, z1, z2]) rfl ⟨_, _, _, rfl, HE.out.1.more (by omega), HE.out.2⟩
  clear c0 c1 c2 cf0 cf1 cf2 d0 d1 d2 e0 e1 e2 ef0 ef1 ef2
  obtain ⟨c0, c1, c2, cf⟩ := id h.bx
  have cf0 := cf 0
  have cf1 := cf 1
  have cf2 := cf 2
  clear cf
  obtain ⟨d0, d1, d2, _⟩ := id h.bt
  obtain ⟨e0, e1, e2, ef⟩ := id h.br
  have ef0 := ef 0
  have ef1 := ef 1
  have ef2 := ef 2
  clear ef
  obtain ⟨z0, z1, z2, _⟩ := ((h.br.set0 (.int .i64 k)).set1 (.int .i64 0)).set2 (.int .i64 0)
  go_wp2_with fail
  obtain ⟨hcE, hkE⟩ := h.fin (.int .i64 k) (.int .i64 0) (.int .i64 0)
  exact bodyPost_ret (v := .agg #[.int .i64 k, .int .i64 0, .int .i64 0]) (by simp [results, Tryz.results61, go_sem, z0, z1, z2]) rfl ⟨_, _, _, rfl, hcE.more (by omega), hkE⟩
end Go.Proofs.YtdgcohoneijleaaGreatDoor
