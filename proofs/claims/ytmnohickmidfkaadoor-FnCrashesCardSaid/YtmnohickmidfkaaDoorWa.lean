import Derived.Test.YtmnohickmidfkaaDoorYq
/- the draws' cursor: choices read from bytes -/
namespace Go.Proofs.YtmnohickmidfkaaDoor
open Go.RowKit

/-- the cursor in its box: code, place, seed -/
structure CurB (w : World) (b : Nat) (a : Option Addr) (n cap : Nat) (at_ seed : Int) : Prop where
  c0 : w.cell? ⟨b, 0, none⟩ = some (.slice a n cap)
  c1 : w.cell? ⟨b, 1, none⟩ = some (.int .i64 at_)
  c2 : w.cell? ⟨b, 2, none⟩ = some (.int .u64 seed)
  fr : ∀ o, w.frozen? ⟨b, o, none⟩ = false
  code : 0 < n → ∃ cb off, a = some ⟨cb, off, none⟩ ∧ cb ≠ b ∧ cb < w.heap.size ∧ ∀ i, i < n → ∃ x : Int, w.cell? ⟨cb, off + i, none⟩ = some (.int .u8 x) ∧ 0 ≤ x ∧ x ≤ 255
theorem CurB.lt {w : World} {b : Nat} {a : Option Addr} {n cap : Nat} {at_ seed : Int} (h : CurB w b a n cap at_ seed) : b < w.heap.size := World.block_lt_of_cell? w _ h.c0
theorem CurB.keep {w w' : World} {b : Nat} {a : Option Addr} {n cap : Nat} {at_ seed : Int} (h : CurB w b a n cap at_ seed) (hc : Chg No w w') : CurB w' b a n cap at_ seed := by
  have hb := h.lt
  refine ⟨(hc.cellD b 0 hb (fun e => e)).trans h.c0, (hc.cellD b 1 hb (fun e => e)).trans h.c1, (hc.cellD b 2 hb (fun e => e)).trans h.c2, fun o => (World.frozen?_of_block (hc.block b hb (fun e => e))).trans (h.fr o), fun hn => ?_⟩
  obtain ⟨cb, off, h1, h2, h3, h4⟩ := h.code hn
  refine ⟨cb, off, h1, h2, Nat.lt_of_lt_of_le h3 hc.size, fun i hi => ?_⟩
  obtain ⟨x, h5, h6⟩ := h4 i hi
  exact ⟨x, (hc.cellD cb _ h3 (fun e => e)).trans h5, h6⟩
theorem CurB.set {w : World} {b : Nat} {a : Option Addr} {n cap : Nat} {at_ seed : Int} (h : CurB w b a n cap at_ seed) (x y : Int) : CurB ((w.setCell ⟨b, 1, none⟩ (.int .i64 x)).setCell ⟨b, 2, none⟩ (.int .u64 y)) b a n cap x y := by
  obtain ⟨c0, c1, c2, fr, code⟩ := h
  have hk : Chg (fun q => q = b) w ((w.setCell ⟨b, 1, none⟩ (.int .i64 x)).setCell ⟨b, 2, none⟩ (.int .u64 y)) := ((Chg.setCell (S := fun q => q = b) (Chg.refl _ w) (p := ⟨b, 1, none⟩) (fun _ => rfl) _).setCell (p := ⟨b, 2, none⟩) (fun _ => rfl) _)
  refine ⟨?_, ?_, ?_, fun o => ?_, fun hn => ?_⟩
  · go_simp
  · go_simp
  · go_simp
  · go_simp
  · obtain ⟨cb, off, h1, h2, h3, h4⟩ := code hn
    refine ⟨cb, off, h1, h2, Nat.lt_of_lt_of_le h3 hk.size, fun i hi => ?_⟩
    obtain ⟨x, h5, h6⟩ := h4 i hi
    exact ⟨x, (hk.cellD cb _ h3 (fun e => h2 e)).trans h5, h6⟩
theorem byte_of (E : Int) (h : 0 ≤ E ∧ E ≤ 18446744073709551615) : 0 ≤ bits .and .u64 (E / 1099511627776) 255 ∧ bits .and .u64 (E / 1099511627776) 255 ≤ 255 := by
  obtain ⟨e, he⟩ := Int.eq_ofNat_of_zero_le (a := E / 1099511627776) (by omega)
  have h2 : bits .and .u64 (E / 1099511627776) 255 = ((e &&& 255 : Nat) : Int) := by
    rw [he, show (255 : Int) = ((255 : Nat) : Int) by rfl]
    exact bits_and_u64_nat e 255 (by omega) (by omega)
  rw [h2]
  have h3 : e &&& 255 ≤ 255 := Nat.and_le_right
  omega
theorem byte_wrap (E : Int) (h : 0 ≤ E ∧ E ≤ 18446744073709551615) : wrap64 (bits .and .u64 (E / 1099511627776) 255) = bits .and .u64 (E / 1099511627776) 255 := by
  have := byte_of E h
  exact IntWalk.wrap64_in _ (by omega)
/-- a cursor, at most K steps on; it and its code lie below B -/
def Cur (w : World) (b B K : Nat) : Prop := ∃ (a : Option Addr) (n cap m : Nat) (seed : Int), CurB w b a n cap (m : Int) seed ∧ m ≤ K ∧ n ≤ 9223372036854775807 ∧ b < B ∧ (0 < n → ∀ x, a = some x → x.block < B)
theorem Cur.keep {w w' : World} {b B K : Nat} (h : Cur w b B K) (hc : Chg No w w') : Cur w' b B K := by
  obtain ⟨a, n, cap, m, seed, h1, h2⟩ := h
  exact ⟨a, n, cap, m, seed, h1.keep hc, h2⟩
theorem Cur.more {w : World} {b B K K' : Nat} (h : Cur w b B K) (hk : K ≤ K') : Cur w b B K' := by
  obtain ⟨a, n, cap, m, seed, h1, h2, h3⟩ := h
  exact ⟨a, n, cap, m, seed, h1, by omega, h3⟩
theorem Cur.lt {w : World} {b B K : Nat} (h : Cur w b B K) : b < w.heap.size := by
  obtain ⟨a, n, cap, m, seed, h1, _⟩ := h; exact h1.lt
theorem Cur.ltB {w : World} {b B K : Nat} (h : Cur w b B K) : b < B := by
  obtain ⟨a, n, cap, m, seed, _, _, _, h1, _⟩ := h; exact h1
theorem Cur.step {S : Nat → Prop} {w w' : World} {b B K : Nat} (h : Cur w b B K) (hc : Chg S w w') (hS : ∀ q, S q → B ≤ q) : Cur w' b B K := by
  obtain ⟨a, n, cap, m, seed, h1, h2, h3, h4, h5⟩ := h
  have hb := h1.lt
  have hSb : ¬ S b := fun e => by have := hS b e; omega
  refine ⟨a, n, cap, m, seed, ⟨(hc.cellD b 0 hb hSb).trans h1.c0, (hc.cellD b 1 hb hSb).trans h1.c1, (hc.cellD b 2 hb hSb).trans h1.c2, fun o => (World.frozen?_of_block (hc.block b hb hSb)).trans (h1.fr o), fun hn => ?_⟩, h2, h3, h4, h5⟩
  obtain ⟨cb, off, e1, e2, e3, e4⟩ := h1.code hn
  have hcB := h5 hn _ e1
  have hSc : ¬ S cb := fun e => by have := hS cb e; simp only at hcB; omega
  refine ⟨cb, off, e1, e2, Nat.lt_of_lt_of_le e3 hc.size, fun i hi => ?_⟩
  obtain ⟨x, h6, h7⟩ := e4 i hi
  exact ⟨x, (hc.cellD cb _ e3 hSc).trans h6, h7⟩
set_option maxRecDepth 100000 in
set_option maxHeartbeats 2000000 in
theorem next_any (b B K : Nat) (w : World) (h : Cur w b B K) (hK : K ≤ 1099511627776) :
    Calls Tryd.prog 76 #[.pointer (some ⟨b, 0, none⟩)] w fun e w' => ∃ r : Int, e = .returned (.int .i64 r) ∧ 0 ≤ r ∧ r ≤ 255 ∧ Cur w' b B (K + 1) ∧ Chg (fun q => q = b) w w' := by
  obtain ⟨a, n, cap, m, seed, hb, hm, hn, hbB, haB⟩ := h
  have HAB := Lib.hid haB
  clear haB
  have hm0 : (0 : Int) ≤ (m : Int) := Int.natCast_nonneg _
  have hn0 : (0 : Int) ≤ (n : Int) := Int.natCast_nonneg _
  have hw1 : IntKind.i64.wrap ((m : Int) + 1) = (m : Int) + 1 := IntWalk.i64_in _ (by omega)
  by_cases hlt : (m : Int) < (n : Int)
  · obtain ⟨cb, off, rfl, hcb, hcl, hcode⟩ := hb.code (by omega)
    obtain ⟨x, hx, hx0, hx1⟩ := hcode m (by omega)
    have hxc : ∀ W, Chg No w W → W.cell? ⟨cb, off + m, none⟩ = some (.int .u8 x) := fun W hW => (hW.cellD cb _ hcl (fun e => e)).trans hx
    have HX := Lib.hid hxc
    clear hcode hxc
    obtain ⟨c0, c1, c2, fr, _⟩ := id hb
    go_enter Tryd.func76, Tryd.ntmps76
    go_wp2_with fail
    have k0 := Chg.refl No w
    go_quiet (fail)
    have k1 := k0.drewN nq
    have hb1 := hb.keep ((Chg.refl No w).drewN nq)
    generalize w.drewN nq = W1 at k1 hb1 ⊢
    clear c0 c1 c2 fr
    obtain ⟨c0, c1, c2, fr, _⟩ := id hb1
    have g1 := HX.out W1 k1
    go_wp2_with fail
    go_quiet (fail)
    have k2 := k1.drewN nq
    have hb2 := hb1.keep ((Chg.refl No W1).drewN nq)
    generalize W1.drewN nq = W2 at k2 hb2 ⊢
    clear c0 c1 c2 fr
    obtain ⟨c0, c1, c2, fr, _⟩ := id hb2
    obtain ⟨E, hE⟩ : ∃ E, IntKind.u64.wrap (IntKind.u64.wrap (IntKind.u64.wrap (seed * 6364136223846793005) + x) + 462197) = E := ⟨_, rfl⟩
    go_wp2_with fail
    have hb3 := hb2.set ((m : Int) + 1) E
    have k3 := ((Chg.setCell (S := fun q => q = b) (Chg.refl _ W2) (p := ⟨b, 1, none⟩) (fun _ => rfl) (.int .i64 ((m : Int) + 1))).setCell (p := ⟨b, 2, none⟩) (fun _ => rfl) (.int .u64 E))
    generalize (W2.setCell ⟨b, 1, none⟩ (.int .i64 ((m : Int) + 1))).setCell ⟨b, 2, none⟩ (.int .u64 E) = W3 at hb3 k3 ⊢
    clear c0 c1 c2 fr
    obtain ⟨c0, c1, c2, fr, _⟩ := id hb3
    have hle : (m : Int) + 1 ≤ (n : Int) := by omega
    go_quiet (fail)
    have k4 := k3.drewN nq
    have hb4 := hb3.keep ((Chg.refl No W3).drewN nq)
    generalize W3.drewN nq = W4 at k4 hb4 ⊢
    clear c0 c1 c2 fr
    obtain ⟨c0, c1, c2, fr, _⟩ := id hb4
    go_wp2_with fail
    go_ret
    exact ⟨x, rfl, hx0, hx1, ⟨_, n, cap, m + 1, E, by push_cast; exact hb4, by omega, hn, hbB, HAB.out⟩, ((Chg.refl (fun q => q = b) w).step k2 (fun _ e _ => e.elim)).step k4 (fun q hq _ => hq)⟩
  · go_enter Tryd.func76, Tryd.ntmps76
    obtain ⟨c0, c1, c2, fr, _⟩ := id hb
    go_wp2_with fail
    have k0 := Chg.refl No w
    go_quiet (fail)
    have k1 := k0.drewN nq
    have hb1 := hb.keep ((Chg.refl No w).drewN nq)
    generalize w.drewN nq = W1 at k1 hb1 ⊢
    clear c0 c1 c2 fr
    obtain ⟨c0, c1, c2, fr, _⟩ := id hb1
    obtain ⟨E, hE⟩ : ∃ E, IntKind.u64.wrap (IntKind.u64.wrap (IntKind.u64.wrap (seed * 6364136223846793005)) + 462197) = E := ⟨_, rfl⟩
    have hE0 : 0 ≤ E ∧ E ≤ 18446744073709551615 := by rw [← hE, IntKind.wrap_u64]; omega
    go_wp2_with fail
    have hb3 := hb1.set ((m : Int) + 1) E
    have k3 := ((Chg.setCell (S := fun q => q = b) (Chg.refl _ W1) (p := ⟨b, 1, none⟩) (fun _ => rfl) (.int .i64 ((m : Int) + 1))).setCell (p := ⟨b, 2, none⟩) (fun _ => rfl) (.int .u64 E))
    generalize (W1.setCell ⟨b, 1, none⟩ (.int .i64 ((m : Int) + 1))).setCell ⟨b, 2, none⟩ (.int .u64 E) = W3 at hb3 k3 ⊢
    clear c0 c1 c2 fr
    obtain ⟨c0, c1, c2, fr, _⟩ := id hb3
    have hle : ¬ ((m : Int) + 1 ≤ (n : Int)) := by omega
    go_quiet (fail)
    have k4 := k3.drewN nq
    have hb4 := hb3.keep ((Chg.refl No W3).drewN nq)
    generalize W3.drewN nq = W4 at k4 hb4 ⊢
    clear c0 c1 c2 fr
    obtain ⟨c0, c1, c2, fr, _⟩ := id hb4
    clear hE
    go_wp2_with fail
    go_ret
    refine ⟨_, rfl, ?_, ?_, ⟨_, n, cap, m + 1, E, by push_cast; exact hb4, by omega, hn, hbB, HAB.out⟩, ((Chg.refl (fun q => q = b) w).step k1 (fun _ e _ => e.elim)).step k4 (fun q hq _ => hq)⟩
    · rw [byte_wrap E hE0]; exact (byte_of E hE0).1
    · rw [byte_wrap E hE0]; exact (byte_of E hE0).2
end Go.Proofs.YtmnohickmidfkaaDoor
