import Derived.Test.YtdgcohoneijleaaGreatT
import Derived.Test.YtdgcohoneijleaaGreatQv
import Derived.Test.YtdgcohoneijleaaGreatDat
import Derived.Test.YtdgcohoneijleaaGreatPkX3
/- the draws' cursor and choices, codes (for seats without logs: as XWa..XWf) -/
namespace Go.Proofs.YtdgcohoneijleaaGreat
open Go.RowKit

/-- the cursor in its box: code, place, seed -/
structure CurB (w : World) (b : Nat) (a : Option Addr) (n cap : Nat) (at_ seed : Int) : Prop where
  c0 : w.cell? ⟨b, 0, none⟩ = some (.slice a n cap)
  c1 : w.cell? ⟨b, 1, none⟩ = some (.int .i64 at_)
  c2 : w.cell? ⟨b, 2, none⟩ = some (.int .u64 seed)
  fr : ∀ o, w.frozen? ⟨b, o, none⟩ = false
  code : 0 < n → ∃ cb off, a = some ⟨cb, off, none⟩ ∧ cb ≠ b ∧ cb < w.heap.size ∧ ∀ i, i < n → ∃ x : Int, w.cell? ⟨cb, off + i, none⟩ = some (.int .u8 x) ∧ 0 ≤ x ∧ x ≤ 255
theorem CurB.lt {w : World} {b : Nat} {a : Option Addr} {n cap : Nat} {at_ seed : Int} (h : CurB w b a n cap at_ seed) : b < w.heap.size := World.block_lt_of_cell? w _ h.c0
theorem CurB.keep {w w' : World} {b : Nat} {a : Option Addr} {n cap : Nat} {at_ seed : Int} (h : CurB w b a n cap at_ seed) (hc : Chg No w w') : CurB w' b a n cap at_ seed := by
  have hb := h.lt
  refine ⟨(hc.cellD b 0 hb (fun e => e)).trans h.c0, (hc.cellD b 1 hb (fun e => e)).trans h.c1, (hc.cellD b 2 hb (fun e => e)).trans h.c2, fun o => (World.frozen?_of_block (hc.block b hb (fun e => e))).trans (h.fr o), fun hn => ?_⟩
  obtain ⟨cb, off, h1, h2, h3, h4⟩ := h.code hn
  refine ⟨cb, off, h1, h2, Nat.lt_of_lt_of_le h3 hc.size, fun i hi => ?_⟩
  obtain ⟨x, h5, h6⟩ := h4 i hi
  exact ⟨x, (hc.cellD cb _ h3 (fun e => e)).trans h5, h6⟩
theorem CurB.set {w : World} {b : Nat} {a : Option Addr} {n cap : Nat} {at_ seed : Int} (h : CurB w b a n cap at_ seed) (x y : Int) : CurB ((w.setCell ⟨b, 1, none⟩ (.int .i64 x)).setCell ⟨b, 2, none⟩ (.int .u64 y)) b a n cap x y := by
  obtain ⟨c0, c1, c2, fr, code⟩ := h
  have hk : Chg (fun q => q = b) w ((w.setCell ⟨b, 1, none⟩ (.int .i64 x)).setCell ⟨b, 2, none⟩ (.int .u64 y)) := ((Chg.setCell (S := fun q => q = b) (Chg.refl _ w) (p := ⟨b, 1, none⟩) (fun _ => rfl) _).setCell (p := ⟨b, 2, none⟩) (fun _ => rfl) _)
  refine ⟨?_, ?_, ?_, fun o => ?_, fun hn => ?_⟩
  · go_simp
  · go_simp
  · go_simp
  · go_simp
  · obtain ⟨cb, off, h1, h2, h3, h4⟩ := code hn
    refine ⟨cb, off, h1, h2, Nat.lt_of_lt_of_le h3 hk.size, fun i hi => ?_⟩
    obtain ⟨x, h5, h6⟩ := h4 i hi
    exact ⟨x, (hk.cellD cb _ h3 (fun e => h2 e)).trans h5, h6⟩
theorem byte_of (E : Int) (h : 0 ≤ E ∧ E ≤ 18446744073709551615) : 0 ≤ bits .and .u64 (E / 1099511627776) 255 ∧ bits .and .u64 (E / 1099511627776) 255 ≤ 255 := by
  obtain ⟨e, he⟩ := Int.eq_ofNat_of_zero_le (a := E / 1099511627776) (by omega)
  have h2 : bits .and .u64 (E / 1099511627776) 255 = ((e &&& 255 : Nat) : Int) := by
    rw [he, show (255 : Int) = ((255 : Nat) : Int) by rfl]
    exact bits_and_u64_nat e 255 (by omega) (by omega)
  rw [h2]
  have h3 : e &&& 255 ≤ 255 := Nat.and_le_right
  omega
theorem byte_wrap (E : Int) (h : 0 ≤ E ∧ E ≤ 18446744073709551615) : wrap64 (bits .and .u64 (E / 1099511627776) 255) = bits .and .u64 (E / 1099511627776) 255 := by
  have := byte_of E h
  exact IntWalk.wrap64_in _ (by omega)
/-- a cursor, at most K steps on; it and its code lie below B -/
def Cur (w : World) (b B K : Nat) : Prop := ∃ (a : Option Addr) (n cap m : Nat) (seed : Int), CurB w b a n cap (m : Int) seed ∧ m ≤ K ∧ n ≤ 1000000 ∧ b < B ∧ (0 < n → ∀ x, a = some x → x.block < B)
theorem Cur.keep {w w' : World} {b B K : Nat} (h : Cur w b B K) (hc : Chg No w w') : Cur w' b B K := by
  obtain ⟨a, n, cap, m, seed, h1, h2⟩ := h
  exact ⟨a, n, cap, m, seed, h1.keep hc, h2⟩
theorem Cur.more {w : World} {b B K K' : Nat} (h : Cur w b B K) (hk : K ≤ K') : Cur w b B K' := by
  obtain ⟨a, n, cap, m, seed, h1, h2, h3⟩ := h
  exact ⟨a, n, cap, m, seed, h1, by omega, h3⟩
theorem Cur.lt {w : World} {b B K : Nat} (h : Cur w b B K) : b < w.heap.size := by
  obtain ⟨a, n, cap, m, seed, h1, _⟩ := h; exact h1.lt
theorem Cur.ltB {w : World} {b B K : Nat} (h : Cur w b B K) : b < B := by
  obtain ⟨a, n, cap, m, seed, _, _, _, h1, _⟩ := h; exact h1
theorem Cur.step {S : Nat → Prop} {w w' : World} {b B K : Nat} (h : Cur w b B K) (hc : Chg S w w') (hS : ∀ q, S q → B ≤ q) : Cur w' b B K := by
  obtain ⟨a, n, cap, m, seed, h1, h2, h3, h4, h5⟩ := h
  have hb := h1.lt
  have hSb : ¬ S b := fun e => by have := hS b e; omega
  refine ⟨a, n, cap, m, seed, ⟨(hc.cellD b 0 hb hSb).trans h1.c0, (hc.cellD b 1 hb hSb).trans h1.c1, (hc.cellD b 2 hb hSb).trans h1.c2, fun o => (World.frozen?_of_block (hc.block b hb hSb)).trans (h1.fr o), fun hn => ?_⟩, h2, h3, h4, h5⟩
  obtain ⟨cb, off, e1, e2, e3, e4⟩ := h1.code hn
  have hcB := h5 hn _ e1
  have hSc : ¬ S cb := fun e => by have := hS cb e; simp only at hcB; omega
  refine ⟨cb, off, e1, e2, Nat.lt_of_lt_of_le e3 hc.size, fun i hi => ?_⟩
  obtain ⟨x, h6, h7⟩ := e4 i hi
  exact ⟨x, (hc.cellD cb _ e3 hSc).trans h6, h7⟩
/-- the seed behind the end of a code, and its byte -/
def stepS (seed : Int) : Int := IntKind.u64.wrap (IntKind.u64.wrap (IntKind.u64.wrap (seed * 6364136223846793005)) + 462197)
def byteI (E : Int) : Int := bits .and .u64 (E / 1099511627776) 255
/-- the cursor a step on; behind the end of the code its seed is known -/
def AtN (w' : World) (b : Nat) (a : Option Addr) (n cap m : Nat) (seed : Int) (f : Int → Prop) : Prop := ∃ s' : Int, CurB w' b a n cap ((m + 1 : Nat) : Int) s' ∧ (n ≤ m → s' = stepS seed ∧ f s')
set_option maxRecDepth 100000 in
set_option maxHeartbeats 2000000 in
theorem next_at (b : Nat) (a : Option Addr) (n cap m : Nat) (seed : Int) (w : World) (hb : CurB w b a n cap (m : Int) seed) (hm : m ≤ 9007199254740992) (hn : n ≤ 9223372036854775807) :
    Calls Tryz.prog 64 #[.pointer (some ⟨b, 0, none⟩)] w fun e w' => ∃ r : Int, e = .returned (.int .i64 r) ∧ 0 ≤ r ∧ r ≤ 255 ∧ AtN w' b a n cap m seed (fun s' => r = byteI s') ∧ Chg (fun q => q = b) w w' := by
  have hm0 : (0 : Int) ≤ (m : Int) := Int.natCast_nonneg _
  have hn0 : (0 : Int) ≤ (n : Int) := Int.natCast_nonneg _
  have hw1 : IntKind.i64.wrap ((m : Int) + 1) = (m : Int) + 1 := IntWalk.i64_in _ (by omega)
  by_cases hlt : (m : Int) < (n : Int)
  · obtain ⟨cb, off, rfl, hcb, hcl, hcode⟩ := hb.code (by omega)
    obtain ⟨x, hx, hx0, hx1⟩ := hcode m (by omega)
    have hxc : ∀ W, Chg No w W → W.cell? ⟨cb, off + m, none⟩ = some (.int .u8 x) := fun W hW => (hW.cellD cb _ hcl (fun e => e)).trans hx
    have HX := Lib.hid hxc
    clear hcode hxc
    obtain ⟨c0, c1, c2, fr, _⟩ := id hb
    go_enter Tryz.func64, Tryz.ntmps64
    go_wp2_with fail
    have k0 := Chg.refl No w
    go_quiet (fail)
    have k1 := k0.drewN nq
    have hb1 := hb.keep ((Chg.refl No w).drewN nq)
    generalize w.drewN nq = W1 at k1 hb1 ⊢
    clear c0 c1 c2 fr
    obtain ⟨c0, c1, c2, fr, _⟩ := id hb1
    have g1 := HX.out W1 k1
    go_wp2_with fail
    go_quiet (fail)
    have k2 := k1.drewN nq
    have hb2 := hb1.keep ((Chg.refl No W1).drewN nq)
    generalize W1.drewN nq = W2 at k2 hb2 ⊢
    clear c0 c1 c2 fr
    obtain ⟨c0, c1, c2, fr, _⟩ := id hb2
    obtain ⟨E, hE⟩ : ∃ E, IntKind.u64.wrap (IntKind.u64.wrap (IntKind.u64.wrap (seed * 6364136223846793005) + x) + 462197) = E := ⟨_, rfl⟩
    go_wp2_with fail
    have hb3 := hb2.set ((m : Int) + 1) E
    have k3 := ((Chg.setCell (S := fun q => q = b) (Chg.refl _ W2) (p := ⟨b, 1, none⟩) (fun _ => rfl) (.int .i64 ((m : Int) + 1))).setCell (p := ⟨b, 2, none⟩) (fun _ => rfl) (.int .u64 E))
    generalize (W2.setCell ⟨b, 1, none⟩ (.int .i64 ((m : Int) + 1))).setCell ⟨b, 2, none⟩ (.int .u64 E) = W3 at hb3 k3 ⊢
    clear c0 c1 c2 fr
    obtain ⟨c0, c1, c2, fr, _⟩ := id hb3
    have hle : (m : Int) + 1 ≤ (n : Int) := by omega
    go_quiet (fail)
    have k4 := k3.drewN nq
    have hb4 := hb3.keep ((Chg.refl No W3).drewN nq)
    generalize W3.drewN nq = W4 at k4 hb4 ⊢
    clear c0 c1 c2 fr
    obtain ⟨c0, c1, c2, fr, _⟩ := id hb4
    go_wp2_with fail
    go_ret
    exact ⟨x, rfl, hx0, hx1, ⟨E, by push_cast; exact hb4, fun h => absurd h (by omega)⟩, ((Chg.refl (fun q => q = b) w).step k2 (fun _ e _ => e.elim)).step k4 (fun q hq _ => hq)⟩
  · go_enter Tryz.func64, Tryz.ntmps64
    obtain ⟨c0, c1, c2, fr, _⟩ := id hb
    go_wp2_with fail
    have k0 := Chg.refl No w
    go_quiet (fail)
    have k1 := k0.drewN nq
    have hb1 := hb.keep ((Chg.refl No w).drewN nq)
    generalize w.drewN nq = W1 at k1 hb1 ⊢
    clear c0 c1 c2 fr
    obtain ⟨c0, c1, c2, fr, _⟩ := id hb1
    obtain ⟨E, hE⟩ : ∃ E, IntKind.u64.wrap (IntKind.u64.wrap (IntKind.u64.wrap (seed * 6364136223846793005)) + 462197) = E := ⟨_, rfl⟩
    have hE0 : 0 ≤ E ∧ E ≤ 18446744073709551615 := by rw [← hE, IntKind.wrap_u64]; omega
    go_wp2_with fail
    have hb3 := hb1.set ((m : Int) + 1) E
    have k3 := ((Chg.setCell (S := fun q => q = b) (Chg.refl _ W1) (p := ⟨b, 1, none⟩) (fun _ => rfl) (.int .i64 ((m : Int) + 1))).setCell (p := ⟨b, 2, none⟩) (fun _ => rfl) (.int .u64 E))
    generalize (W1.setCell ⟨b, 1, none⟩ (.int .i64 ((m : Int) + 1))).setCell ⟨b, 2, none⟩ (.int .u64 E) = W3 at hb3 k3 ⊢
    clear c0 c1 c2 fr
    obtain ⟨c0, c1, c2, fr, _⟩ := id hb3
    have hle : ¬ ((m : Int) + 1 ≤ (n : Int)) := by omega
    go_quiet (fail)
    have k4 := k3.drewN nq
    have hb4 := hb3.keep ((Chg.refl No W3).drewN nq)
    generalize W3.drewN nq = W4 at k4 hb4 ⊢
    clear c0 c1 c2 fr
    obtain ⟨c0, c1, c2, fr, _⟩ := id hb4
    have HE : Hid (stepS seed = E) := Lib.hid hE
    clear hE
    go_wp2_with fail
    go_ret
    have hr0 := byte_of E hE0
    have hb5 : CurB W4 b a n cap ((m + 1 : Nat) : Int) E := by push_cast; exact hb4
    have hw := byte_wrap E hE0
    rw [← hw] at hr0
    exact ⟨_, rfl, hr0.1, hr0.2, ⟨E, hb5, fun _ => ⟨HE.out.symm, hw⟩⟩, ((Chg.refl (fun q => q = b) w).step k1 (fun _ e _ => e.elim)).step k4 (fun q hq _ => hq)⟩
set_option maxRecDepth 100000 in
theorem next_any (b B K : Nat) (w : World) (h : Cur w b B K) (hK : K ≤ 9007199254740992) :
    Calls Tryz.prog 64 #[.pointer (some ⟨b, 0, none⟩)] w fun e w' => ∃ r : Int, e = .returned (.int .i64 r) ∧ 0 ≤ r ∧ r ≤ 255 ∧ Cur w' b B (K + 1) ∧ Chg (fun q => q = b) w w' := by
  obtain ⟨a, n, cap, m, seed, hb, hm, hn, hbB, haB⟩ := h
  refine (next_at b a n cap m seed w hb (by omega) (by omega)).mono ?_
  rintro e w' ⟨r, rfl, h0, h1, ⟨s', hb', _⟩, hk⟩
  exact ⟨r, rfl, h0, h1, ⟨a, n, cap, m + 1, s', hb', by omega, hn, hbB, haB⟩, hk⟩
set_option maxRecDepth 100000 in
set_option maxHeartbeats 2000000 in
theorem pick_any (b B K : Nat) (n : Int) (w : World) (h : Cur w b B K) (hK : K ≤ 4503599627370496) (hn : n ≤ 1099511627776) :
    Calls Tryz.prog 37 #[.pointer (some ⟨b, 0, none⟩), .int .i64 n] w fun e w' => ∃ r : Int, e = .returned (.int .i64 r) ∧ 0 ≤ r ∧ (1 < n → r < n) ∧ (n ≤ 1 → r = 0) ∧ Cur w' b B (K + 2) ∧ Chg (fun q => q = b) w w' := by
  by_cases h1 : n ≤ 1
  · go_enter Tryz.func37, Tryz.ntmps37
    go_wp2_with fail
    go_ret
    exact ⟨0, rfl, Int.le_refl _, fun h => absurd h (by omega), fun _ => rfl, h.more (by omega), Chg.refl _ w⟩
  · have hn0 : ¬ n = 0 := by omega
    have q1 := Lib.hid (next_any b B K w h (by omega))
    have q2 := Lib.hid (fun W (hW : Cur W b B (K + 1)) => next_any b B (K + 1) W hW (by omega))
    by_cases h2 : 200 < n
    · go_enter Tryz.func37, Tryz.ntmps37
      go_wp2_with (go_at_call 64; first | (with_reducible refine (q1.out).mono ?_; rintro e w1 ⟨x, rfl, hx0, hx1, hc1, hk1⟩; have hw1 : IntKind.i64.wrap (x * 256) = x * 256 := IntWalk.i64_in _ (by omega)) | (refine (q2.out _ hc1).mono ?_; rintro e w2 ⟨y, rfl, hy0, hy1, hc2, hk2⟩; have hw2 : IntKind.i64.wrap (x * 256 + y) = x * 256 + y := IntWalk.i64_in _ (by omega); have ht := Int.tmod_eq_emod_of_nonneg (a := x * 256 + y) (b := n) (by omega); have hm0 := Int.emod_nonneg (x * 256 + y) hn0; have hm1 := Int.emod_lt_of_pos (x * 256 + y) (show 0 < n by omega); have hw3 : IntKind.i64.wrap ((x * 256 + y) % n) = (x * 256 + y) % n := IntWalk.i64_in _ (by omega)))
      go_ret
      exact ⟨_, rfl, hm0, fun _ => hm1, fun h => by omega, hc2, hk1.trans hk2⟩
    · go_enter Tryz.func37, Tryz.ntmps37
      go_wp2_with (go_at_call 64; refine (q1.out).mono ?_; rintro e w1 ⟨x, rfl, hx0, hx1, hc1, hk1⟩; have ht := Int.tmod_eq_emod_of_nonneg (a := x) (b := n) (by omega); have hm0 := Int.emod_nonneg x hn0; have hm1 := Int.emod_lt_of_pos x (show 0 < n by omega); have hw3 : IntKind.i64.wrap (x % n) = x % n := IntWalk.i64_in _ (by omega))
      go_ret
      exact ⟨_, rfl, hm0, fun _ => hm1, fun h => by omega, hc1.more (by omega), hk1⟩

set_option maxRecDepth 100000 in
theorem one_any (b B K : Nat) (n : Int) (w : World) (h : Cur w b B K) (hK : K ≤ 4503599627370496) (hn : n ≤ 1099511627776) :
    Calls Tryz.prog 40 #[.pointer (some ⟨b, 0, none⟩), .int .i64 n] w fun e w' => ∃ r : Bool, e = .returned (.bool r) ∧ Cur w' b B (K + 2) ∧ Chg (fun q => q = b) w w' := by
  have q1 := Lib.hid (pick_any b B K n w h hK hn)
  go_enter Tryz.func40, Tryz.ntmps40
  go_wp2_with (go_at_call 37; refine (q1.out).mono ?_; rintro e w1 ⟨x, rfl, hx0, hx1, hx2, hc1, hk1⟩)
  go_ret
  exact ⟨_, rfl, hc1, hk1⟩

set_option maxRecDepth 100000 in
theorem among_any (b B K : Nat) (v : Value) (l : List Int) (w : World) (h : Cur w b B K) (hK : K ≤ 4503599627370496) (hv : RI (fun q => q = b) w v l) (hl : 1 ≤ l.length) (hl2 : l.length ≤ 1000) :
    Calls Tryz.prog 36 #[.pointer (some ⟨b, 0, none⟩), v] w fun e w' => ∃ r : Int, e = .returned (.int .i64 r) ∧ r ∈ l ∧ Cur w' b B (K + 2) ∧ Chg (fun q => q = b) w w' := by
  have q1 := Lib.hid (pick_any b B K l.length w h hK (by omega))
  obtain ⟨a, cap, rfl, hc1, hc2, hlen, _, hcell⟩ := id hv
  obtain ⟨cb, off, rfl, hA, hcb, hcl⟩ := hcell (fun e => by rw [e] at hl; simp at hl)
  have HCL := Lib.hid hcl
  clear hcell hcl
  go_enter Tryz.func36, Tryz.ntmps36
  go_wp2_with (go_at_call 37; refine (q1.out).mono ?_; rintro e w1 ⟨x, rfl, hx0, hx1, hx2, hc1, hk1⟩; have hxl : x < (l.length : Int) := (by by_cases h1 : 1 < (l.length : Int) <;> omega); have hx := HCL.out x.toNat (by omega); have hx' := (hk1.cellD cb (off + x.toNat) hcb hA).trans hx; obtain ⟨y, hy⟩ : ∃ y, l.getD x.toNat 0 = y := ⟨_, rfl⟩; rw [hy] at hx'; have HY := Lib.hid hy; clear hy hx)
  go_ret
  refine ⟨y, rfl, ?_, hc1, hk1⟩
  rw [← HY.out, List.getD_eq_getElem?_getD, List.getElem?_eq_getElem (by omega : x.toNat < l.length)]
  exact List.getElem_mem _

theorem RF.lit {A : Nat → Prop} (W : World) (cs : Array Value) (n : Nat) (T : TypeId) (hn : n = cs.size) (hA : ¬ A W.heap.size) (hb : cs.size ≤ 1000) : RF A (W.alloc (.cells cs T)) (.slice (some ⟨W.heap.size, 0, none⟩) n n) 1 n cs.toList := by
  subst hn
  refine ⟨_, _, rfl, Nat.le_refl _, by omega, by simp, by simp, fun _ => ⟨W.heap.size, 0, rfl, hA, by rw [World.size_alloc]; omega, fun i hi => ?_⟩⟩
  rw [World.cell?_alloc_new]
  have hi' : i < cs.size := by simpa using hi
  simp [List.getD_eq_getElem?_getD, hi']
theorem elBytes : El 22 5 (.int .u8 0) 1 1 := El.mk' Tryz.underlying22 (by kernel_rfl) rfl (by decide)
theorem ocallE {o : Oper} {a : Act} {K : Act → World → Prop} {Q : Exit → Act → World → Prop} {w : World} {f : FuncId} {args : Array Value} {φ : Value → World → Prop}
    (ho : (execOp a.eval o).run Tryz.prog w = .ok (.enter f args) w) (h : Calls Tryz.prog f args w fun e w' => ∃ v, e = .returned v ∧ φ v w') (hk : ∀ v w', φ v w' → K (a.put o.dst v) w') : Oper.wp Tryz.prog o a w K Q := by
  unfold Oper.wp
  rw [ho]
  refine h.mono (fun e w' hr => ?_)
  obtain ⟨v, rfl, hp⟩ := hr
  exact hk v w' hp
theorem RF.from {A : Nat → Prop} {w : World} {a : Option Addr} {n cap sz : Nat} {cs : List Value} (T : TypeId) (hu : Tryz.prog.underlying T = some (.slice (Tryz.prog.elem T))) (hz : ∀ w, (sizeOf (Tryz.prog.elem T)).run Tryz.prog w = .ok sz w) (h : RF A w (.slice a n cap) sz n cs) (i : Nat) (hi : i ≤ n) :
    ∃ a' c', (∀ w' : World, (Instr.slice T (.slice a n cap) (some (.int .i64 (i : Int))) none none).run Tryz.prog w' = .ok (.slice a' (n - i) c') w') ∧ RF A w (.slice a' (n - i) c') sz (n - i) (cs.drop (i * sz)) := by
  obtain ⟨a0, cap0, he, h1, h2, h3, h0, h4⟩ := h
  simp only [Value.slice.injEq, true_and] at he
  obtain ⟨rfl, rfl⟩ := he
  refine ⟨if cap = i then a else a.map (·.add (i * sz)), cap - i, fun w' => ?_, ?_⟩
  · rw [run_slice_l w' T a n cap hu .i64 i (by omega) (by omega), hz]
    simp [Result.andThen, sliced]
  · refine ⟨_, _, rfl, by omega, by omega, by rw [List.length_drop, h3, ← Nat.sub_mul], fun hn => ?_, fun hp => ?_⟩
    · by_cases hc : cap = i
      · omega
      · rw [if_neg hc] at hn
        have := h0 (by simpa using hn)
        omega
    · obtain ⟨b, off, rfl, hA, hb, hcell⟩ := h4 (by omega)
      refine ⟨b, off + i * sz, ?_, hA, hb, fun k hk => ?_⟩
      · have : ¬ cap = i := by omega
        simp [this, Addr.add]
      · rw [List.length_drop] at hk
        rw [Nat.add_assoc, hcell (i * sz + k) (by omega), List.getD_eq_getElem?_getD, List.getD_eq_getElem?_getD, List.getElem?_drop]
theorem und_bytes : Tryz.prog.underlying 22 = some (.slice (Tryz.prog.elem 22)) := by kernel_rfl
theorem siz_bytes (w : World) : (sizeOf (Tryz.prog.elem 22)).run Tryz.prog w = .ok 1 w := by kernel_rfl
/-- a code that is read -/
def Code (w : World) (v : Value) (n : Nat) : Prop := ∃ l : List Int, l.length = n ∧ RF No w v 1 n (l.map (Value.int .u8)) ∧ ∀ x ∈ l, 0 ≤ x ∧ x ≤ 255
theorem Code.keep {w w' : World} {v : Value} {n : Nat} (h : Code w v n) (hc : Chg No w w') : Code w' v n := by
  obtain ⟨l, h1, h2, h3⟩ := h
  exact ⟨l, h1, h2.keep hc, h3⟩
theorem Code.shape {w : World} {v : Value} {n : Nat} (h : Code w v n) : ∃ a c, v = .slice a n c := by
  obtain ⟨l, h1, ⟨a, c, rfl, _⟩, h3⟩ := h
  exact ⟨a, c, rfl⟩
/-- a cursor made -/
theorem Cur.new {w : World} {a : Option Addr} {n c : Nat} (h : Code w (.slice a n c) n) (hn : n ≤ 1000000) (T : TypeId) : Cur (w.alloc (.cells #[.slice a n c, .int .i64 0, .int .u64 0] T)) w.heap.size (w.heap.size + 1) 0 := by
  obtain ⟨l, hl, ⟨a0, c0, he, h1, h2, h3, h0, h4⟩, hx⟩ := h
  simp only [Value.slice.injEq, true_and] at he
  obtain ⟨rfl, rfl⟩ := he
  have hk := (Chg.refl No w).alloc (.cells #[.slice a n c, .int .i64 0, .int .u64 0] T)
  refine ⟨a, n, c, 0, 0, ⟨by rw [World.cell?_alloc_new]; rfl, by rw [World.cell?_alloc_new]; rfl, by rw [World.cell?_alloc_new]; rfl, fun o => World.frozen?_alloc_new _ _ _ _, fun hp => ?_⟩, Nat.le_refl _, hn, by omega, fun hp x hx => ?_⟩
  · obtain ⟨b, off, rfl, _, hb, hcell⟩ := h4 hp
    refine ⟨b, off, rfl, by omega, by rw [World.size_alloc]; omega, fun i hi => ⟨l.getD i 0, ?_, ?_⟩⟩
    · rw [hk.cellD b _ hb (fun e => e), hcell i (by rw [List.length_map]; omega)]
      have hil : i < l.length := by omega
      simp [List.getD_eq_getElem?_getD, hil]
    · rw [List.getD_eq_getElem?_getD, List.getElem?_eq_getElem (by omega : i < l.length)]
      exact hx _ (List.getElem_mem _)
  · subst hx
    obtain ⟨b, off, he, _, hb, _⟩ := h4 hp
    simp only [Option.some.injEq] at he
    subst he
    exact Nat.lt_succ_of_lt hb

set_option maxRecDepth 100000 in
theorem vBig_any (v : Value) (n : Nat) (w : World) (h : Code w v n) :
    Calls Tryz.prog 4 #[v] w fun e w' => e = .returned (.bool (decide ((65536 : Int) < (n : Int)))) ∧ w' = w := by
  obtain ⟨a, c, rfl⟩ := h.shape
  go_enter Tryz.func4, Tryz.ntmps4
  go_wp2_with fail
  go_ret
  exact ⟨rfl, rfl⟩

set_option maxRecDepth 100000 in
set_option maxHeartbeats 1000000 in
theorem vCut_any (v : Value) (n k : Nat) (w : World) (h : Code w v n) (hn : n ≤ 70000) (hk : k ≤ 200) :
    Calls Tryz.prog 7 #[v, .int .i64 (k : Int)] w fun e w' => ∃ v' n', e = .returned v' ∧ Code w' v' n' ∧ n' ≤ 70001 ∧ Chg No w w' := by
  obtain ⟨l, hl, hr, hx⟩ := h
  obtain ⟨a, c, rfl, _⟩ := id hr
  have hz : OS 5 1 w.heap.size (w.alloc (.cells #[] 5)) (.slice (some ⟨w.heap.size, 0, none⟩) 0 0) 0 [] := OS.zero (Nat.le_refl _)
  have HX := Lib.hid hx
  have HLL := Lib.hid hl
  clear hx
  have hfin : ∀ (m i : Nat) (y : Int) (w' : World) (v' : Value), (m ≤ 70000) → 0 ≤ y ∧ y ≤ 255 → OS 5 1 w.heap.size w' v' (m + 1) ((l.map (Value.int .u8)).drop i ++ [.int .u8 y]) → m = (l.drop i).length → Code w' v' (m + 1) := fun m i y w' v' hm hy ho hmi => by
    refine ⟨l.drop i ++ [y], by rw [List.length_append, ← hmi]; rfl, ?_, fun x hx => ?_⟩
    · have := ho.readNo
      rw [List.map_append, List.map_drop]
      exact this
    · rw [List.mem_append, List.mem_singleton] at hx
      rcases hx with hx | rfl
      · exact HX.out x (List.mem_of_mem_drop hx)
      · exact hy
  have HF := Lib.hid hfin
  clear hfin
  by_cases hkn : (n : Int) < (k : Int)
  ·
    obtain ⟨a', c', hsl, hfr⟩ := hr.from 22 und_bytes siz_bytes n (by omega)
    have hwr : IntKind.u8.wrap (n : Int) = (n : Int) := IntWalk.u8_in _ (by omega)
    have HFR := Lib.hid (hfr.keep ((Chg.refl No w).alloc (.cells #[] 5)))
    rw [Nat.mul_one] at HFR
    obtain ⟨m, hm⟩ : ∃ m, n - n = m := ⟨_, rfl⟩
    have HM := Lib.hid hm
    rw [hm] at hsl HFR
    have hm7 : m ≤ 70000 := by omega
    clear hfr hm hr
    go_enter Tryz.func7, Tryz.ntmps7
    go_wp2_with (at_builtin; first
      | (have h1 := k1; refine wappS1 elBytes (by omega) rfl (.tmp 15) (.tmp 18) rfl o1 rfl (by simp [Value.oneCell']) rfl rfl (by omega) (by have := kk1.size; omega) ?_; intro v2 w2 o2 k2 f2; obtain ⟨a2, q2, rfl, _⟩ := o2.view; have kk2 := kk1.step k2 (fun q hq hl => by have := (o1.lt q hq).1; omega))
      | (refine wappS elBytes (by omega) rfl (.tmp 11) (.tmp 14) rfl hz HFR.out (fun u hu => by (obtain ⟨z, _, rfl⟩ := List.mem_map.1 (List.mem_of_mem_drop hu); rfl)) rfl rfl (by omega) (by simp) ?_; intro v1 w1 o1 k1 f1; rw [Nat.zero_add, List.nil_append] at o1; obtain ⟨a1, q1, rfl, _⟩ := o1.view; have kk1 := ((Chg.refl No w).alloc (.cells #[] 5)).step k1 (fun q hq hl => by have := own_slice.1 hq; omega)))
    go_ret
    exact ⟨_, rfl, m + 1, HF.out m n (n : Int) w2 _ hm7 ⟨by omega, by omega⟩ o2 (by rw [List.length_drop, HLL.out, HM.out]), by omega, kk2⟩
  ·
    obtain ⟨a', c', hsl, hfr⟩ := hr.from 22 und_bytes siz_bytes k (by omega)
    have hwr : IntKind.u8.wrap (k : Int) = (k : Int) := IntWalk.u8_in _ (by omega)
    have HFR := Lib.hid (hfr.keep ((Chg.refl No w).alloc (.cells #[] 5)))
    rw [Nat.mul_one] at HFR
    obtain ⟨m, hm⟩ : ∃ m, n - k = m := ⟨_, rfl⟩
    have HM := Lib.hid hm
    rw [hm] at hsl HFR
    have hm7 : m ≤ 70000 := by omega
    clear hfr hm hr
    go_enter Tryz.func7, Tryz.ntmps7
    go_wp2_with (at_builtin; first
      | (have h1 := k1; refine wappS1 elBytes (by omega) rfl (.tmp 15) (.tmp 18) rfl o1 rfl (by simp [Value.oneCell']) rfl rfl (by omega) (by have := kk1.size; omega) ?_; intro v2 w2 o2 k2 f2; obtain ⟨a2, q2, rfl, _⟩ := o2.view; have kk2 := kk1.step k2 (fun q hq hl => by have := (o1.lt q hq).1; omega))
      | (refine wappS elBytes (by omega) rfl (.tmp 11) (.tmp 14) rfl hz HFR.out (fun u hu => by (obtain ⟨z, _, rfl⟩ := List.mem_map.1 (List.mem_of_mem_drop hu); rfl)) rfl rfl (by omega) (by simp) ?_; intro v1 w1 o1 k1 f1; rw [Nat.zero_add, List.nil_append] at o1; obtain ⟨a1, q1, rfl, _⟩ := o1.view; have kk1 := ((Chg.refl No w).alloc (.cells #[] 5)).step k1 (fun q hq hl => by have := own_slice.1 hq; omega)))
    go_ret
    exact ⟨_, rfl, m + 1, HF.out m k (k : Int) w2 _ hm7 ⟨by omega, by omega⟩ o2 (by rw [List.length_drop, HLL.out, HM.out]), by omega, kk2⟩

end Go.Proofs.YtdgcohoneijleaaGreat
