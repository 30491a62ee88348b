import Derived.Test.YtfdmghohmohmpaaTx
import Derived.Test.YtfdmghohmohmpaaQv
import Derived.Test.YtfdmghohmohmpaaDat
import Derived.Test.YtfdmghohmohmpaaCo
import Derived.Test.YtfdmghohmohmpaaFr
import Derived.Test.YtfdmghohmohmpaaSo
/- the draws' cursor and choices, codes (for seats without logs: as XWa..XWf) -/
namespace Go.Proofs.Ytfdmghohmohmpaa
open Go.RowKit

/-- the cursor in its box: code, place, seed -/
structure CurB (w : World) (b : Nat) (a : Option Addr) (n cap : Nat) (at_ seed : Int) : Prop where
  c0 : w.cell? ⟨b, 0, none⟩ = some (.slice a n cap)
  c1 : w.cell? ⟨b, 1, none⟩ = some (.int .i64 at_)
  c2 : w.cell? ⟨b, 2, none⟩ = some (.int .u64 seed)
  fr : ∀ o, w.frozen? ⟨b, o, none⟩ = false
  code : 0 < n → ∃ cb off, a = some ⟨cb, off, none⟩ ∧ cb ≠ b ∧ cb < w.heap.size ∧ ∀ i, i < n → ∃ x : Int, w.cell? ⟨cb, off + i, none⟩ = some (.int .u8 x) ∧ 0 ≤ x ∧ x ≤ 255
theorem CurB.lt {w : World} {b : Nat} {a : Option Addr} {n cap : Nat} {at_ seed : Int} (h : CurB w b a n cap at_ seed) : b < w.heap.size := World.block_lt_of_cell? w _ h.c0
theorem CurB.keep {w w' : World} {b : Nat} {a : Option Addr} {n cap : Nat} {at_ seed : Int} (h : CurB w b a n cap at_ seed) (hc : Chg No w w') : CurB w' b a n cap at_ seed := by
  have hb := h.lt
  refine ⟨(hc.cellD b 0 hb (fun e => e)).trans h.c0, (hc.cellD b 1 hb (fun e => e)).trans h.c1, (hc.cellD b 2 hb (fun e => e)).trans h.c2, fun o => (World.frozen?_of_block (hc.block b hb (fun e => e))).trans (h.fr o), fun hn => ?_⟩
  obtain ⟨cb, off, h1, h2, h3, h4⟩ := h.code hn
  refine ⟨cb, off, h1, h2, Nat.lt_of_lt_of_le h3 hc.size, fun i hi => ?_⟩
  obtain ⟨x, h5, h6⟩ := h4 i hi
  exact ⟨x, (hc.cellD cb _ h3 (fun e => e)).trans h5, h6⟩
theorem CurB.set {w : World} {b : Nat} {a : Option Addr} {n cap : Nat} {at_ seed : Int} (h : CurB w b a n cap at_ seed) (x y : Int) : CurB ((w.setCell ⟨b, 1, none⟩ (.int .i64 x)).setCell ⟨b, 2, none⟩ (.int .u64 y)) b a n cap x y := by
  obtain ⟨c0, c1, c2, fr, code⟩ := h
  have hk : Chg (fun q => q = b) w ((w.setCell ⟨b, 1, none⟩ (.int .i64 x)).setCell ⟨b, 2, none⟩ (.int .u64 y)) := ((Chg.setCell (S := fun q => q = b) (Chg.refl _ w) (p := ⟨b, 1, none⟩) (fun _ => rfl) _).setCell (p := ⟨b, 2, none⟩) (fun _ => rfl) _)
  refine ⟨?_, ?_, ?_, fun o => ?_, fun hn => ?_⟩
  · go_simp
  · go_simp
  · go_simp
  · go_simp
  · obtain ⟨cb, off, h1, h2, h3, h4⟩ := code hn
    refine ⟨cb, off, h1, h2, Nat.lt_of_lt_of_le h3 hk.size, fun i hi => ?_⟩
    obtain ⟨x, h5, h6⟩ := h4 i hi
    exact ⟨x, (hk.cellD cb _ h3 (fun e => h2 e)).trans h5, h6⟩
theorem byte_of (E : Int) (h : 0 ≤ E ∧ E ≤ 18446744073709551615) : 0 ≤ bits .and .u64 (E / 1099511627776) 255 ∧ bits .and .u64 (E / 1099511627776) 255 ≤ 255 := by
  obtain ⟨e, he⟩ := Int.eq_ofNat_of_zero_le (a := E / 1099511627776) (by omega)
  have h2 : bits .and .u64 (E / 1099511627776) 255 = ((e &&& 255 : Nat) : Int) := by
    rw [he, show (255 : Int) = ((255 : Nat) : Int) by rfl]
    exact bits_and_u64_nat e 255 (by omega) (by omega)
  rw [h2]
  have h3 : e &&& 255 ≤ 255 := Nat.and_le_right
  omega
theorem byte_wrap (E : Int) (h : 0 ≤ E ∧ E ≤ 18446744073709551615) : wrap64 (bits .and .u64 (E / 1099511627776) 255) = bits .and .u64 (E / 1099511627776) 255 := by
  have := byte_of E h
  exact IntWalk.wrap64_in _ (by omega)
/-- a cursor, at most K steps on; it and its code lie below B -/
def Cur (w : World) (b B K : Nat) : Prop := ∃ (a : Option Addr) (n cap m : Nat) (seed : Int), CurB w b a n cap (m : Int) seed ∧ m ≤ K ∧ n ≤ 9223372036854775807 ∧ b < B ∧ (0 < n → ∀ x, a = some x → x.block < B)
theorem Cur.keep {w w' : World} {b B K : Nat} (h : Cur w b B K) (hc : Chg No w w') : Cur w' b B K := by
  obtain ⟨a, n, cap, m, seed, h1, h2⟩ := h
  exact ⟨a, n, cap, m, seed, h1.keep hc, h2⟩
theorem Cur.more {w : World} {b B K K' : Nat} (h : Cur w b B K) (hk : K ≤ K') : Cur w b B K' := by
  obtain ⟨a, n, cap, m, seed, h1, h2, h3⟩ := h
  exact ⟨a, n, cap, m, seed, h1, by omega, h3⟩
theorem Cur.lt {w : World} {b B K : Nat} (h : Cur w b B K) : b < w.heap.size := by
  obtain ⟨a, n, cap, m, seed, h1, _⟩ := h; exact h1.lt
theorem Cur.ltB {w : World} {b B K : Nat} (h : Cur w b B K) : b < B := by
  obtain ⟨a, n, cap, m, seed, _, _, _, h1, _⟩ := h; exact h1
theorem Cur.step {S : Nat → Prop} {w w' : World} {b B K : Nat} (h : Cur w b B K) (hc : Chg S w w') (hS : ∀ q, S q → B ≤ q) : Cur w' b B K := by
  obtain ⟨a, n, cap, m, seed, h1, h2, h3, h4, h5⟩ := h
  have hb := h1.lt
  have hSb : ¬ S b := fun e => by have := hS b e; omega
  refine ⟨a, n, cap, m, seed, ⟨(hc.cellD b 0 hb hSb).trans h1.c0, (hc.cellD b 1 hb hSb).trans h1.c1, (hc.cellD b 2 hb hSb).trans h1.c2, fun o => (World.frozen?_of_block (hc.block b hb hSb)).trans (h1.fr o), fun hn => ?_⟩, h2, h3, h4, h5⟩
  obtain ⟨cb, off, e1, e2, e3, e4⟩ := h1.code hn
  have hcB := h5 hn _ e1
  have hSc : ¬ S cb := fun e => by have := hS cb e; simp only at hcB; omega
  refine ⟨cb, off, e1, e2, Nat.lt_of_lt_of_le e3 hc.size, fun i hi => ?_⟩
  obtain ⟨x, h6, h7⟩ := e4 i hi
  exact ⟨x, (hc.cellD cb _ e3 hSc).trans h6, h7⟩
set_option maxRecDepth 100000 in
set_option maxHeartbeats 2000000 in
theorem next_any (b B K : Nat) (w : World) (h : Cur w b B K) (hK : K ≤ 1099511627776) :
    Calls Try.prog 79 #[.pointer (some ⟨b, 0, none⟩)] w fun e w' => ∃ r : Int, e = .returned (.int .i64 r) ∧ 0 ≤ r ∧ r ≤ 255 ∧ Cur w' b B (K + 1) ∧ Chg (fun q => q = b) w w' := by
  obtain ⟨a, n, cap, m, seed, hb, hm, hn, hbB, haB⟩ := h
  have HAB := Lib.hid haB
  clear haB
  have hm0 : (0 : Int) ≤ (m : Int) := Int.natCast_nonneg _
  have hn0 : (0 : Int) ≤ (n : Int) := Int.natCast_nonneg _
  have hw1 : IntKind.i64.wrap ((m : Int) + 1) = (m : Int) + 1 := IntWalk.i64_in _ (by omega)
  by_cases hlt : (m : Int) < (n : Int)
  · obtain ⟨cb, off, rfl, hcb, hcl, hcode⟩ := hb.code (by omega)
    obtain ⟨x, hx, hx0, hx1⟩ := hcode m (by omega)
    have hxc : ∀ W, Chg No w W → W.cell? ⟨cb, off + m, none⟩ = some (.int .u8 x) := fun W hW => (hW.cellD cb _ hcl (fun e => e)).trans hx
    have HX := Lib.hid hxc
    clear hcode hxc
    obtain ⟨c0, c1, c2, fr, _⟩ := id hb
    go_enter Try.func79, Try.ntmps79
    go_wp2_with fail
    have k0 := Chg.refl No w
    go_quiet (fail)
    have k1 := k0.drewN nq
    have hb1 := hb.keep ((Chg.refl No w).drewN nq)
    generalize w.drewN nq = W1 at k1 hb1 ⊢
    clear c0 c1 c2 fr
    obtain ⟨c0, c1, c2, fr, _⟩ := id hb1
    have g1 := HX.out W1 k1
    go_wp2_with fail
    go_quiet (fail)
    have k2 := k1.drewN nq
    have hb2 := hb1.keep ((Chg.refl No W1).drewN nq)
    generalize W1.drewN nq = W2 at k2 hb2 ⊢
    clear c0 c1 c2 fr
    obtain ⟨c0, c1, c2, fr, _⟩ := id hb2
    obtain ⟨E, hE⟩ : ∃ E, IntKind.u64.wrap (IntKind.u64.wrap (IntKind.u64.wrap (seed * 6364136223846793005) + x) + 462197) = E := ⟨_, rfl⟩
    go_wp2_with fail
    have hb3 := hb2.set ((m : Int) + 1) E
    have k3 := ((Chg.setCell (S := fun q => q = b) (Chg.refl _ W2) (p := ⟨b, 1, none⟩) (fun _ => rfl) (.int .i64 ((m : Int) + 1))).setCell (p := ⟨b, 2, none⟩) (fun _ => rfl) (.int .u64 E))
    generalize (W2.setCell ⟨b, 1, none⟩ (.int .i64 ((m : Int) + 1))).setCell ⟨b, 2, none⟩ (.int .u64 E) = W3 at hb3 k3 ⊢
    clear c0 c1 c2 fr
    obtain ⟨c0, c1, c2, fr, _⟩ := id hb3
    have hle : (m : Int) + 1 ≤ (n : Int) := by omega
    go_quiet (fail)
    have k4 := k3.drewN nq
    have hb4 := hb3.keep ((Chg.refl No W3).drewN nq)
    generalize W3.drewN nq = W4 at k4 hb4 ⊢
    clear c0 c1 c2 fr
    obtain ⟨c0, c1, c2, fr, _⟩ := id hb4
    go_wp2_with fail
    go_ret
    exact ⟨x, rfl, hx0, hx1, ⟨_, n, cap, m + 1, E, by push_cast; exact hb4, by omega, hn, hbB, HAB.out⟩, ((Chg.refl (fun q => q = b) w).step k2 (fun _ e _ => e.elim)).step k4 (fun q hq _ => hq)⟩
  · go_enter Try.func79, Try.ntmps79
    obtain ⟨c0, c1, c2, fr, _⟩ := id hb
    go_wp2_with fail
    have k0 := Chg.refl No w
    go_quiet (fail)
    have k1 := k0.drewN nq
    have hb1 := hb.keep ((Chg.refl No w).drewN nq)
    generalize w.drewN nq = W1 at k1 hb1 ⊢
    clear c0 c1 c2 fr
    obtain ⟨c0, c1, c2, fr, _⟩ := id hb1
    obtain ⟨E, hE⟩ : ∃ E, IntKind.u64.wrap (IntKind.u64.wrap (IntKind.u64.wrap (seed * 6364136223846793005)) + 462197) = E := ⟨_, rfl⟩
    have hE0 : 0 ≤ E ∧ E ≤ 18446744073709551615 := by rw [← hE, IntKind.wrap_u64]; omega
    go_wp2_with fail
    have hb3 := hb1.set ((m : Int) + 1) E
    have k3 := ((Chg.setCell (S := fun q => q = b) (Chg.refl _ W1) (p := ⟨b, 1, none⟩) (fun _ => rfl) (.int .i64 ((m : Int) + 1))).setCell (p := ⟨b, 2, none⟩) (fun _ => rfl) (.int .u64 E))
    generalize (W1.setCell ⟨b, 1, none⟩ (.int .i64 ((m : Int) + 1))).setCell ⟨b, 2, none⟩ (.int .u64 E) = W3 at hb3 k3 ⊢
    clear c0 c1 c2 fr
    obtain ⟨c0, c1, c2, fr, _⟩ := id hb3
    have hle : ¬ ((m : Int) + 1 ≤ (n : Int)) := by omega
    go_quiet (fail)
    have k4 := k3.drewN nq
    have hb4 := hb3.keep ((Chg.refl No W3).drewN nq)
    generalize W3.drewN nq = W4 at k4 hb4 ⊢
    clear c0 c1 c2 fr
    obtain ⟨c0, c1, c2, fr, _⟩ := id hb4
    clear hE
    go_wp2_with fail
    go_ret
    refine ⟨_, rfl, ?_, ?_, ⟨_, n, cap, m + 1, E, by push_cast; exact hb4, by omega, hn, hbB, HAB.out⟩, ((Chg.refl (fun q => q = b) w).step k1 (fun _ e _ => e.elim)).step k4 (fun q hq _ => hq)⟩
    · rw [byte_wrap E hE0]; exact (byte_of E hE0).1
    · rw [byte_wrap E hE0]; exact (byte_of E hE0).2
set_option maxRecDepth 100000 in
set_option maxHeartbeats 2000000 in
theorem pick_any (b B K : Nat) (n : Int) (w : World) (h : Cur w b B K) (hK : K ≤ 1000000000) (hn : n ≤ 1099511627776) :
    Calls Try.prog 64 #[.pointer (some ⟨b, 0, none⟩), .int .i64 n] w fun e w' => ∃ r : Int, e = .returned (.int .i64 r) ∧ 0 ≤ r ∧ (1 < n → r < n) ∧ (n ≤ 1 → r = 0) ∧ Cur w' b B (K + 2) ∧ Chg (fun q => q = b) w w' := by
  by_cases h1 : n ≤ 1
  · go_enter Try.func64, Try.ntmps64
    go_wp2_with fail
    go_ret
    exact ⟨0, rfl, Int.le_refl _, fun h => absurd h (by omega), fun _ => rfl, h.more (by omega), Chg.refl _ w⟩
  · have hn0 : ¬ n = 0 := by omega
    have q1 := Lib.hid (next_any b B K w h (by omega))
    have q2 := Lib.hid (fun W (hW : Cur W b B (K + 1)) => next_any b B (K + 1) W hW (by omega))
    by_cases h2 : 200 < n
    · go_enter Try.func64, Try.ntmps64
      go_wp2_with (go_at_call 79; first | (with_reducible refine (q1.out).mono ?_; rintro e w1 ⟨x, rfl, hx0, hx1, hc1, hk1⟩; have hw1 : IntKind.i64.wrap (x * 256) = x * 256 := IntWalk.i64_in _ (by omega)) | (refine (q2.out _ hc1).mono ?_; rintro e w2 ⟨y, rfl, hy0, hy1, hc2, hk2⟩; have hw2 : IntKind.i64.wrap (x * 256 + y) = x * 256 + y := IntWalk.i64_in _ (by omega); have ht := Int.tmod_eq_emod_of_nonneg (a := x * 256 + y) (b := n) (by omega); have hm0 := Int.emod_nonneg (x * 256 + y) hn0; have hm1 := Int.emod_lt_of_pos (x * 256 + y) (show 0 < n by omega); have hw3 : IntKind.i64.wrap ((x * 256 + y) % n) = (x * 256 + y) % n := IntWalk.i64_in _ (by omega)))
      go_ret
      exact ⟨_, rfl, hm0, fun _ => hm1, fun h => by omega, hc2, hk1.trans hk2⟩
    · go_enter Try.func64, Try.ntmps64
      go_wp2_with (go_at_call 79; refine (q1.out).mono ?_; rintro e w1 ⟨x, rfl, hx0, hx1, hc1, hk1⟩; have ht := Int.tmod_eq_emod_of_nonneg (a := x) (b := n) (by omega); have hm0 := Int.emod_nonneg x hn0; have hm1 := Int.emod_lt_of_pos x (show 0 < n by omega); have hw3 : IntKind.i64.wrap (x % n) = x % n := IntWalk.i64_in _ (by omega))
      go_ret
      exact ⟨_, rfl, hm0, fun _ => hm1, fun h => by omega, hc1.more (by omega), hk1⟩

set_option maxRecDepth 100000 in
theorem one_any (b B K : Nat) (n : Int) (w : World) (h : Cur w b B K) (hK : K ≤ 1000000000) (hn : n ≤ 1099511627776) :
    Calls Try.prog 67 #[.pointer (some ⟨b, 0, none⟩), .int .i64 n] w fun e w' => ∃ r : Bool, e = .returned (.bool r) ∧ Cur w' b B (K + 2) ∧ Chg (fun q => q = b) w w' := by
  have q1 := Lib.hid (pick_any b B K n w h hK hn)
  go_enter Try.func67, Try.ntmps67
  go_wp2_with (go_at_call 64; refine (q1.out).mono ?_; rintro e w1 ⟨x, rfl, hx0, hx1, hx2, hc1, hk1⟩)
  go_ret
  exact ⟨_, rfl, hc1, hk1⟩

set_option maxRecDepth 100000 in
theorem among_any (b B K : Nat) (v : Value) (l : List Int) (w : World) (h : Cur w b B K) (hK : K ≤ 1000000000) (hv : RI (fun q => q = b) w v l) (hl : 1 ≤ l.length) (hl2 : l.length ≤ 1000) :
    Calls Try.prog 63 #[.pointer (some ⟨b, 0, none⟩), v] w fun e w' => ∃ r : Int, e = .returned (.int .i64 r) ∧ r ∈ l ∧ Cur w' b B (K + 2) ∧ Chg (fun q => q = b) w w' := by
  have q1 := Lib.hid (pick_any b B K l.length w h hK (by omega))
  obtain ⟨a, cap, rfl, hc1, hc2, hlen, _, hcell⟩ := id hv
  obtain ⟨cb, off, rfl, hA, hcb, hcl⟩ := hcell (fun e => by rw [e] at hl; simp at hl)
  have HCL := Lib.hid hcl
  clear hcell hcl
  go_enter Try.func63, Try.ntmps63
  go_wp2_with (go_at_call 64; refine (q1.out).mono ?_; rintro e w1 ⟨x, rfl, hx0, hx1, hx2, hc1, hk1⟩; have hxl : x < (l.length : Int) := (by by_cases h1 : 1 < (l.length : Int) <;> omega); have hx := HCL.out x.toNat (by omega); have hx' := (hk1.cellD cb (off + x.toNat) hcb hA).trans hx; obtain ⟨y, hy⟩ : ∃ y, l.getD x.toNat 0 = y := ⟨_, rfl⟩; rw [hy] at hx'; have HY := Lib.hid hy; clear hy hx)
  go_ret
  refine ⟨y, rfl, ?_, hc1, hk1⟩
  rw [← HY.out, List.getD_eq_getElem?_getD, List.getElem?_eq_getElem (by omega : x.toNat < l.length)]
  exact List.getElem_mem _

theorem RF.lit {A : Nat → Prop} (W : World) (cs : Array Value) (n : Nat) (T : TypeId) (hn : n = cs.size) (hA : ¬ A W.heap.size) (hb : cs.size ≤ 1000) : RF A (W.alloc (.cells cs T)) (.slice (some ⟨W.heap.size, 0, none⟩) n n) 1 n cs.toList := by
  subst hn
  refine ⟨_, _, rfl, Nat.le_refl _, by omega, by simp, by simp, fun _ => ⟨W.heap.size, 0, rfl, hA, by rw [World.size_alloc]; omega, fun i hi => ?_⟩⟩
  rw [World.cell?_alloc_new]
  have hi' : i < cs.size := by simpa using hi
  simp [List.getD_eq_getElem?_getD, hi']
theorem elBytes : El 22 5 (.int .u8 0) 1 1 := El.mk' Try.underlying22 (by kernel_rfl) rfl (by decide)
theorem ocallE {o : Oper} {a : Act} {K : Act → World → Prop} {Q : Exit → Act → World → Prop} {w : World} {f : FuncId} {args : Array Value} {φ : Value → World → Prop}
    (ho : (execOp a.eval o).run Try.prog w = .ok (.enter f args) w) (h : Calls Try.prog f args w fun e w' => ∃ v, e = .returned v ∧ φ v w') (hk : ∀ v w', φ v w' → K (a.put o.dst v) w') : Oper.wp Try.prog o a w K Q := by
  unfold Oper.wp
  rw [ho]
  refine h.mono (fun e w' hr => ?_)
  obtain ⟨v, rfl, hp⟩ := hr
  exact hk v w' hp
theorem wpOpKk {P : Program} {ops : Array Oper} {Q : Exit → Act → World → Prop} {md : Region.Mode} {S : World → Prop} {k i f : Nat} {o : Oper} {listed : Array Bool} {a : Act} {w : World} (ho : ops[i]? = some o) (hg : o.guard = none) (hk : (listed.setIfInBounds i true).getD k true = true)
    (h : ∀ K : Act → World → Prop, Hid (∀ a' w', wpAnyK P md ops Q S k f (listed.setIfInBounds i true) a' w' → K a' w') → Oper.wp P o a w K Q) :
    wpOp P ops Q i (fun a' w' => ((listed.setIfInBounds i true).getD k true = false → S w') ∧ wpAnyK P md ops Q S k f (listed.setIfInBounds i true) a' w') a w := by
  unfold wpOp
  rw [ho]
  show if Region.wanted o (yielded ops a.tmps) = true then _ else _
  rw [if_pos (by simp [Region.wanted, hg])]
  exact .inl (h _ (Lib.hid (fun a' w' h1 => ⟨fun h0 => by (rw [hk] at h0; cases h0), h1⟩)))
theorem RF.from {A : Nat → Prop} {w : World} {a : Option Addr} {n cap sz : Nat} {cs : List Value} (T : TypeId) (hu : Try.prog.underlying T = some (.slice (Try.prog.elem T))) (hz : ∀ w, (sizeOf (Try.prog.elem T)).run Try.prog w = .ok sz w) (h : RF A w (.slice a n cap) sz n cs) (i : Nat) (hi : i ≤ n) :
    ∃ a' c', (∀ w' : World, (Instr.slice T (.slice a n cap) (some (.int .i64 (i : Int))) none none).run Try.prog w' = .ok (.slice a' (n - i) c') w') ∧ RF A w (.slice a' (n - i) c') sz (n - i) (cs.drop (i * sz)) := by
  obtain ⟨a0, cap0, he, h1, h2, h3, h0, h4⟩ := h
  simp only [Value.slice.injEq, true_and] at he
  obtain ⟨rfl, rfl⟩ := he
  refine ⟨if cap = i then a else a.map (·.add (i * sz)), cap - i, fun w' => ?_, ?_⟩
  · rw [run_slice_l w' T a n cap hu .i64 i (by omega) (by omega), hz]
    simp [Result.andThen, sliced]
  · refine ⟨_, _, rfl, by omega, by omega, by rw [List.length_drop, h3, ← Nat.sub_mul], fun hn => ?_, fun hp => ?_⟩
    · by_cases hc : cap = i
      · omega
      · rw [if_neg hc] at hn
        have := h0 (by simpa using hn)
        omega
    · obtain ⟨b, off, rfl, hA, hb, hcell⟩ := h4 (by omega)
      refine ⟨b, off + i * sz, ?_, hA, hb, fun k hk => ?_⟩
      · have : ¬ cap = i := by omega
        simp [this, Addr.add]
      · rw [List.length_drop] at hk
        rw [Nat.add_assoc, hcell (i * sz + k) (by omega), List.getD_eq_getElem?_getD, List.getD_eq_getElem?_getD, List.getElem?_drop]
theorem und_bytes : Try.prog.underlying 22 = some (.slice (Try.prog.elem 22)) := by kernel_rfl
theorem siz_bytes (w : World) : (sizeOf (Try.prog.elem 22)).run Try.prog w = .ok 1 w := by kernel_rfl
/-- a code that is read -/
def Code (w : World) (v : Value) (n : Nat) : Prop := ∃ l : List Int, l.length = n ∧ RF No w v 1 n (l.map (Value.int .u8)) ∧ ∀ x ∈ l, 0 ≤ x ∧ x ≤ 255
theorem Code.keep {w w' : World} {v : Value} {n : Nat} (h : Code w v n) (hc : Chg No w w') : Code w' v n := by
  obtain ⟨l, h1, h2, h3⟩ := h
  exact ⟨l, h1, h2.keep hc, h3⟩
theorem Code.shape {w : World} {v : Value} {n : Nat} (h : Code w v n) : ∃ a c, v = .slice a n c := by
  obtain ⟨l, h1, ⟨a, c, rfl, _⟩, h3⟩ := h
  exact ⟨a, c, rfl⟩
/-- a cursor made -/
theorem Cur.new {w : World} {a : Option Addr} {n c : Nat} (h : Code w (.slice a n c) n) (hn : n ≤ 9223372036854775807) (T : TypeId) : Cur (w.alloc (.cells #[.slice a n c, .int .i64 0, .int .u64 0] T)) w.heap.size (w.heap.size + 1) 0 := by
  obtain ⟨l, hl, ⟨a0, c0, he, h1, h2, h3, h0, h4⟩, hx⟩ := h
  simp only [Value.slice.injEq, true_and] at he
  obtain ⟨rfl, rfl⟩ := he
  have hk := (Chg.refl No w).alloc (.cells #[.slice a n c, .int .i64 0, .int .u64 0] T)
  refine ⟨a, n, c, 0, 0, ⟨by rw [World.cell?_alloc_new]; rfl, by rw [World.cell?_alloc_new]; rfl, by rw [World.cell?_alloc_new]; rfl, fun o => World.frozen?_alloc_new _ _ _ _, fun hp => ?_⟩, Nat.le_refl _, hn, by omega, fun hp x hx => ?_⟩
  · obtain ⟨b, off, rfl, _, hb, hcell⟩ := h4 hp
    refine ⟨b, off, rfl, by omega, by rw [World.size_alloc]; omega, fun i hi => ⟨l.getD i 0, ?_, ?_⟩⟩
    · rw [hk.cellD b _ hb (fun e => e), hcell i (by rw [List.length_map]; omega)]
      have hil : i < l.length := by omega
      simp [List.getD_eq_getElem?_getD, hil]
    · rw [List.getD_eq_getElem?_getD, List.getElem?_eq_getElem (by omega : i < l.length)]
      exact hx _ (List.getElem_mem _)
  · subst hx
    obtain ⟨b, off, he, _, hb, _⟩ := h4 hp
    simp only [Option.some.injEq] at he
    subst he
    exact Nat.lt_succ_of_lt hb

set_option maxRecDepth 100000 in
theorem vBig_any (v : Value) (n : Nat) (w : World) (h : Code w v n) :
    Calls Try.prog 4 #[v] w fun e w' => e = .returned (.bool (decide ((65536 : Int) < (n : Int)))) ∧ w' = w := by
  obtain ⟨a, c, rfl⟩ := h.shape
  go_enter Try.func4, Try.ntmps4
  go_wp2_with fail
  go_ret
  exact ⟨rfl, rfl⟩
end Go.Proofs.Ytfdmghohmohmpaa

/- numbers of items, policies, sizes, items drawn -/
namespace Go.Proofs.Ytfdmghohmohmpaa
open Go.RowKit

theorem RI.lit (A : Nat → Prop) (W : World) (l : List Int) (cs : Array Value) (T : TypeId) (g n m : Nat) (hg : W.heap.size = g) (hcs : cs.toList = l.map (Value.int .i64)) (hm : m = l.length) (hn : n ≤ m) (hA : ¬ A g) (hl : l.length ≤ 1000) :
    RI A (W.alloc (.cells cs T)) (.slice (some ⟨g, 0, none⟩) n m) (l.take n) := by
  subst hg hm
  have hlt : (l.take n).length = n := by rw [List.length_take]; omega
  have hsz : cs.size = l.length := by rw [← Array.length_toList, hcs, List.length_map]
  refine ⟨some ⟨W.heap.size, 0, none⟩, l.length, by rw [hlt], by omega, by omega, by omega, (fun h => by cases h), fun _ => ⟨W.heap.size, 0, rfl, hA, by rw [World.size_alloc]; omega, fun i hi => ?_⟩⟩
  rw [hlt] at hi
  rw [Nat.zero_add, World.cell?_alloc_new]
  have h1 : cs[i]? = some (.int .i64 (l.getD i 0)) := by
    rw [← Array.getElem?_toList, hcs, List.getElem?_map, List.getD_eq_getElem?_getD, List.getElem?_eq_getElem (by omega : i < l.length)]
    rfl
  rw [h1]
  congr 2
  rw [List.getD_eq_getElem?_getD, List.getD_eq_getElem?_getD, List.getElem?_take_of_lt hi]
theorem take_all (l : List Int) (n : Nat) (h : n = l.length) : l.take n = l := by subst h; exact List.take_length
/-- one of some numbers that are written out -/
theorem among_lit (b B K : Nat) (W : World) (l : List Int) (cs : Array Value) (T : TypeId) (g n m : Nat) (hg : W.heap.size = g) (hcs : cs.toList = l.map (Value.int .i64)) (hm : m = l.length) (hn : n = m) (h : Cur W b B K) (hK : K ≤ 1000000000) (h1 : 1 ≤ l.length) (h2 : l.length ≤ 1000) :
    Calls Try.prog 63 #[.pointer (some ⟨b, 0, none⟩), .slice (some ⟨g, 0, none⟩) n m] (W.alloc (.cells cs T)) fun e w' => ∃ r : Int, e = .returned (.int .i64 r) ∧ r ∈ l ∧ Cur w' b B (K + 2) ∧ Chg (fun q => q = b) W w' := by
  have hb := h.lt
  have hr := RI.lit (fun q => q = b) W l cs T g n m hg hcs hm (by omega) (by omega) h2
  rw [take_all l n (by omega)] at hr
  refine (among_any b B K _ l _ (h.keep ((Chg.refl No W).alloc _)) hK hr h1 h2).mono ?_
  rintro e w' ⟨r, rfl, hm, hc, hk⟩
  exact ⟨r, rfl, hm, hc, ((Chg.refl (fun q => q = b) W).alloc _).trans hk⟩
set_option maxRecDepth 100000 in
set_option maxHeartbeats 1000000 in
theorem items_any (b B K : Nat) (w : World) (h : Cur w b B K) (hK : K ≤ 900000000) :
    Calls Try.prog 42 #[.pointer (some ⟨b, 0, none⟩)] w fun e w' => ∃ r : Int, e = .returned (.int .i64 r) ∧ -1 ≤ r ∧ r ≤ 9 ∧ Cur w' b B (K + 4) ∧ Chg (fun q => q = b) w w' := by
  have hb := h.lt
  have h0 := h.keep ((Chg.refl No w).alloc (.cells #[.int .i64 3, .int .i64 4, .int .i64 5, .int .i64 2, .int .i64 6, .int .i64 8, .int .i64 1, .int .i64 0, .int .i64 9, .int .i64 (-1)] 3))
  have q1 := Lib.hid (pick_any b B K 24 _ h0 (by omega) (by omega))
  have hr : ∀ n, n ≤ 10 → RI (fun q => q = b) (w.alloc (.cells #[.int .i64 3, .int .i64 4, .int .i64 5, .int .i64 2, .int .i64 6, .int .i64 8, .int .i64 1, .int .i64 0, .int .i64 9, .int .i64 (-1)] 3)) (.slice (some ⟨w.heap.size, 0, none⟩) n 10) (([3, 4, 5, 2, 6, 8, 1, 0, 9, -1] : List Int).take n) := fun n hn => RI.lit _ w [3, 4, 5, 2, 6, 8, 1, 0, 9, -1] _ _ _ n 10 rfl rfl rfl hn (by omega) (by decide)
  have HR := Lib.hid hr
  clear hr h0
  go_enter Try.func42, Try.ntmps42
  go_wp2_with (first
    | (go_at_call 64; refine (q1.out).mono ?_; rintro e w1 ⟨x, rfl, hx0, hx1, _, hc1, hk1⟩; have hx2 := hx1 (by omega); have ht := Int.tdiv_eq_ediv_of_nonneg (a := x) (b := 8) hx0; obtain ⟨y, hy⟩ : ∃ y, x / 8 = y := ⟨_, rfl⟩; have hy0 : 0 ≤ y := (by omega); have hy1 : y ≤ 2 := (by omega); rw [hy] at ht; have hw1 : IntKind.i64.wrap y = y := IntWalk.i64_in _ (by omega); obtain ⟨m, hm⟩ : ∃ m : Nat, 7 + y = (m : Int) := ⟨(7 + y).toNat, by omega⟩; have hw2 : IntKind.i64.wrap (7 + y) = (m : Int) := (IntWalk.i64_in _ (by omega)).trans hm; have hm10 : m ≤ 10 := (by omega); have hm1 : 1 ≤ m := (by omega); have hsl : ∀ w' : World, (Instr.slice 24 (.slice (some ⟨w.heap.size, 0, none⟩) 10 10) none (some (.int .i64 (m : Int))) none).run Try.prog w' = .ok (.slice (some ⟨w.heap.size, 0, none⟩) m 10) w' := (fun w' => by rw [run_slice_h w' 24 _ 10 10 und_el .i64 _ (by omega) (by omega), run_sz]; simp [Result.andThen, sliced, Addr.add]); clear hm hy)
    | (go_at_call 63; refine (among_any b B (K + 2) _ (([3, 4, 5, 2, 6, 8, 1, 0, 9, -1] : List Int).take m) _ hc1 (by omega) ((HR.out m hm10).step hk1 (fun _ h => h)) (by rw [List.length_take]; simp; omega) (by rw [List.length_take]; simp; omega)).mono ?_; rintro e w2 ⟨r, rfl, hr, hc2, hk2⟩))
  go_ret
  have hr' := List.mem_of_mem_take hr
  refine ⟨r, rfl, ?_, ?_, hc2, (((Chg.refl (fun q => q = b) w).alloc _).trans hk1).trans hk2⟩
  all_goals
    simp only [List.mem_cons, List.not_mem_nil, or_false] at hr'
    omega
end Go.Proofs.Ytfdmghohmohmpaa

/- requests drawn -/
namespace Go.Proofs.Ytfdmghohmohmpaa
open Go.RowKit

def slLen : Value → Nat
  | .slice _ n _ => n
  | _ => 0
theorem slLen_slice (a : Option Addr) (n c : Nat) : slLen (.slice a n c) = n := rfl
set_option maxRecDepth 100000 in
set_option maxHeartbeats 4000000 in
theorem requests_any (b B K : Nat) (n : Int) (w : World) (h : Cur w b B K) (hB : B ≤ w.heap.size) (hK : K ≤ 800000000) :
    Calls Try.prog 43 #[.pointer (some ⟨b, 0, none⟩), .int .i64 n] w fun e w' => ∃ (v : Value) (l : List Int), e = .returned v ∧ OI w.heap.size w' v l ∧ l.length ≤ 62 ∧ Cur w' b B (K + 1000) ∧ Chg (fun q => q = b) w w' := by
  have hb := h.lt
  have hbB := h.ltB
  have hch0 := (Chg.refl (fun q => q = b) w).alloc (.cells #[] 3)
  have ho0 : OI w.heap.size (w.alloc (.cells #[] 3)) (.slice (some ⟨w.heap.size, 0, none⟩) 0 0) [] := OI.zero (Nat.le_refl _)
  have h0 := h.keep ((Chg.refl No w).alloc (.cells #[] 3))
  have hz : (w.alloc (.cells #[] 3)).heap.size = w.heap.size + 1 := World.size_alloc _ _
  have q2 := Lib.hid (among_lit b B K (w.alloc (.cells #[] 3)) [6, 9, 12, 4, 16, 2, 24, 1, 0] #[.int .i64 6, .int .i64 9, .int .i64 12, .int .i64 4, .int .i64 16, .int .i64 2, .int .i64 24, .int .i64 1, .int .i64 0] 3 (w.heap.size + 1) 9 9 hz rfl rfl rfl h0 (by omega) (by decide) (by decide))
  have HZ := Lib.hid hz
  clear hz h0
  obtain ⟨m, hm⟩ : ∃ m, max 1 (min n 8) = m := ⟨_, rfl⟩
  have hm1 : 1 ≤ m ∧ m ≤ 8 := by omega
  clear h
  go_enter Try.func43, Try.ntmps43
  go_wp2_with (first
    | (go_at_call 66; refine (l1Least_any _ _ _).mono ?_; rintro e w' ⟨rfl, rfl⟩)
    | (go_at_call 65; refine (l1Most_any _ _ _).mono ?_; rintro e w' ⟨rfl, rfl⟩; rw [hm])
    | (go_at_call 63; refine (q2.out).mono ?_; rintro e w1 ⟨len, rfl, hlen, hc1, hk1⟩)
    | (go_at_call 64; refine (pick_any b B (K + 2) 3 _ hc1 (by omega) (by omega)).mono ?_; rintro e w2 ⟨near, rfl, hn0, hn1, _, hc2, hk2⟩))
  have hlen24 : len ≤ 24 := by
    simp only [List.mem_cons, List.not_mem_nil, or_false] at hlen
    omega
  clear hlen
  have kk2 : Chg (fun q => q = b) w w2 := (hch0.trans hk1).trans hk2
  have oo2 := (ho0.step hk1 (fun q hq e => by have := (ho0.lt q hq).1; omega))
  have oo3 := oo2.step hk2 (fun q hq e => by have := (oo2.lt q hq).1; omega)
  go_loopw [5] (fun o wr => ∃ l : List Int, OI w.heap.size wr o l ∧ l.length ≤ 24 ∧ Cur wr b B (K + 10 + 10 * l.length) ∧ Chg (fun q => q = b) w wr) (fun o _ => 30 - (match o with | .slice _ n _ => n | _ => 0))
  case atStart => exact ⟨[], oo3, by simp, hc2.more (by omega), kk2⟩
  case round =>
    obtain ⟨l, ho, hl24, hcur, hch⟩ := hrel
    have hsz := hch.size
    have hne : ∀ q, own _ q → ¬ q = b := fun q hq e => by have := (ho.lt q hq).1; omega
    obtain ⟨oa, ocap, rfl, hoc, hom, hview⟩ := ho.view
    by_cases hlt : (l.length : Int) < len
    · by_cases h0 : near = 0
      · subst h0
        by_cases hl0 : 0 < l.length
        · have hl0p : (0 : Int) < (l.length : Int) := by omega
          obtain ⟨g, rfl, hg1, hg2, hcell, hfr⟩ := hview (by omega)
          obtain ⟨j, hj⟩ : ∃ j : Nat, (l.length : Int) - 1 = (j : Int) := ⟨l.length - 1, by omega⟩
          have hjl : j < l.length := by omega
          have hj0 : (0 : Int) ≤ (j : Int) := Int.natCast_nonneg _
          have hj1 : (j : Int) < (l.length : Int) := by omega
          have hwj : IntKind.i64.wrap ((l.length : Int) - 1) = (j : Int) := (IntWalk.i64_in _ (by omega)).trans hj
          have hy := hcell j hjl
          obtain ⟨y, hyy⟩ : ∃ y, l.getD j 0 = y := ⟨_, rfl⟩
          rw [hyy] at hy
          have HJ := Lib.hid hj
          clear hj hyy hcell hview hfr
          go_wp2_with fail
          refine wp_region_K (S := fun _ => True) (k := 14) (by kernel_rfl) ?_
          have hS : (fun _ : World => True) wr := trivial
          have kd := (Chg.refl No wr).drew
          have hcur := hcur.keep kd
          have ho := ho.keep kd
          have hch := hch.keep kd
          have hy : wr.drew.cell? ⟨g, j, none⟩ = some (.int .i64 y) := hy
          have hg2 : g < wr.drew.heap.size := hg2
          have hsz := hch.size
          clear kd
          generalize wr.drew = W1 at hcur ho hch hy hg2 hsz ⊢
          refine wpAnyK_take0 0 (.slice (some ⟨g, 0, none⟩) l.length ocap) rfl (by kernel_rfl) (fun _ _ _ h => h) hS rfl (by intro w; go_simp) ?_
          simp only [List.getElem_toArray, List.getElem_cons_zero, Act.put, List.setIfInBounds_toArray, List.set_cons_zero, List.set_cons_succ]
          refine wpAnyK_take0 1 (.slice (some ⟨g, 0, none⟩) l.length ocap) rfl (by kernel_rfl) (fun _ _ _ h => h) hS rfl (by intro w; go_simp) ?_
          simp only [List.getElem_toArray, List.getElem_cons_succ, List.getElem_cons_zero, Act.put, List.setIfInBounds_toArray, List.set_cons_zero, List.set_cons_succ]
          refine wpAnyK_take0 2 (.slice (some ⟨g, 0, none⟩) l.length ocap) rfl (by kernel_rfl) (fun _ _ _ h => h) hS rfl (by intro w; go_simp) ?_
          simp only [List.getElem_toArray, List.getElem_cons_succ, List.getElem_cons_zero, Act.put, List.setIfInBounds_toArray, List.set_cons_zero, List.set_cons_succ]
          refine wpAnyK_take0 3 (.int .i64 (l.length : Int)) rfl (by kernel_rfl) (fun _ _ _ h => h) hS rfl (by intro w; go_simp) ?_
          simp only [List.getElem_toArray, List.getElem_cons_succ, List.getElem_cons_zero, Act.put, List.setIfInBounds_toArray, List.set_cons_zero, List.set_cons_succ]
          refine wpAnyK_take0 4 (.int .i64 (j : Int)) rfl (by kernel_rfl) (fun _ _ _ h => h) hS rfl (by intro w; go_simp) ?_
          simp only [List.getElem_toArray, List.getElem_cons_succ, List.getElem_cons_zero, Act.put, List.setIfInBounds_toArray, List.set_cons_zero, List.set_cons_succ]
          refine wpAnyK_take 5 (.pointer (some ⟨g, j, none⟩)) rfl (by kernel_rfl) (fun _ _ _ h => h) hS rfl (by rintro w _; go_simp; try (intro h; omega)) ?_
          simp only [List.getElem_toArray, List.getElem_cons_succ, List.getElem_cons_zero, Act.put, List.setIfInBounds_toArray, List.set_cons_zero, List.set_cons_succ]
          refine wpAnyK_take0 7 (.pointer (some ⟨b, 0, none⟩)) rfl (by kernel_rfl) (fun _ _ _ h => h) hS rfl (by intro w; go_simp) ?_
          simp only [List.getElem_toArray, List.getElem_cons_succ, List.getElem_cons_zero, Act.put, List.setIfInBounds_toArray, List.set_cons_zero, List.set_cons_succ]
          refine wpAnyK_take0 10 (.int .i64 m) rfl (by kernel_rfl) (fun _ _ _ h => h) hS rfl (by intro w; go_simp) ?_
          simp only [List.getElem_toArray, List.getElem_cons_succ, List.getElem_cons_zero, Act.put, List.setIfInBounds_toArray, List.set_cons_zero, List.set_cons_succ]
          have hgb : ¬ g = b := by omega
          refine wpAnyK_2 6 8 (by kernel_rfl) (wpOpK' rfl rfl ?_) (wpOpK' rfl rfl ?_)
          · intro K0 hK0
            unfold Oper.wp execOp
            go_simp
            refine hK0.out _ _ trivial ?_
            clear hK0 K0
            simp only [List.setIfInBounds_toArray]
            refine wpAnyK_1 8 (by kernel_rfl) (wpOpK' rfl rfl ?_)
            intro K0 hK0
            refine ocallE (f := 64) (args := #[.pointer (some ⟨b, 0, none⟩), .int .i64 2]) (φ := fun v W' => ∃ x : Int, v = .int .i64 x ∧ 0 ≤ x ∧ x ≤ 1 ∧ Cur W' b B (K + 10 + 10 * l.length + 2) ∧ Chg (fun q => q = b) W1 W') (by go_simp) ((pick_any b B (K + 10 + 10 * l.length) 2 W1 hcur (by omega) (by omega)).mono (fun e W' ⟨x, h1, h2, h3, _, h5, h6⟩ => ⟨_, h1, x, rfl, h2, by have := h3 (by omega); omega, h5, h6⟩)) (fun v2 W2 h2 => ?_)
            obtain ⟨x, rfl, hx0, hx1, hc2, k2⟩ := h2
            have ho2 := ho.step k2 (fun q hq e => by have := (ho.lt q hq).1; omega)
            refine hK0.out _ _ trivial ?_
            clear hK0 K0
            simp only [List.getElem_toArray, List.getElem_cons_succ, List.getElem_cons_zero, Act.put, List.setIfInBounds_toArray, List.set_cons_zero, List.set_cons_succ]
            obtain ⟨s1, hs1⟩ : ∃ s1, IntKind.i64.wrap (y + x) = s1 := ⟨_, rfl⟩
            obtain ⟨r, hr⟩ : ∃ r, s1.tmod m = r := ⟨_, rfl⟩
            have hm0 : ¬ m = 0 := by omega
            refine wpAnyK_take0 9 (.int .i64 s1) rfl (by kernel_rfl) (fun _ _ _ h => h) hS rfl (by intro w; go_simp) ?_
            simp only [List.getElem_toArray, List.getElem_cons_succ, List.getElem_cons_zero, Act.put, List.setIfInBounds_toArray, List.set_cons_zero, List.set_cons_succ]
            refine wpAnyK_take0 11 (.int .i64 r) rfl (by kernel_rfl) (fun _ _ _ h => h) hS rfl (by intro w; go_simp) ?_
            simp only [List.getElem_toArray, List.getElem_cons_succ, List.getElem_cons_zero, Act.put, List.setIfInBounds_toArray, List.set_cons_zero, List.set_cons_succ]
            refine wpAnyK_1 12 (by kernel_rfl) (wpOpK' rfl rfl ?_)
            intro K0 hK0
            refine obuild (.tmp 47) r rfl rfl (fun g3 W3 k3 hg3 lg3 => hK0.out _ _ trivial ?_)
            clear hK0 K0
            simp only [List.getElem_toArray, List.getElem_cons_succ, List.getElem_cons_zero, Act.put, List.setIfInBounds_toArray, List.set_cons_zero, List.set_cons_succ]
            have z2 := k2.size
            have z3 := k3.size
            refine wpAnyK_1 13 (by kernel_rfl) (wpOpK' rfl rfl ?_)
            intro K0 hK0
            refine oapp (.tmp 36) (.tmp 48) rfl (ho2.keep k3) (RI.one hg3 (Nat.le_refl 1) (by decide) (fun e => e)) rfl rfl (by simp; omega) (by omega) (fun v6 w6 h6 k6 f6 => hK0.out _ _ trivial ?_)
            clear hK0 K0
            simp only [List.getElem_toArray, List.getElem_cons_succ, List.getElem_cons_zero, Act.put, List.setIfInBounds_toArray, List.set_cons_zero, List.set_cons_succ]
            refine wpAnyK_tail 14 rfl (by kernel_rfl) ?_
            simp only [List.drop_succ_cons, List.drop_zero]
            have hcc := hc2.keep k3
            have kkc := k2.keep k3
            have hown6 := fun q hq => (ho2.lt q hq).1
            have hc6 : Cur w6 b B (K + 10 + 10 * (l ++ [r]).length) := (hcc.step k6 (fun q hq => by have := hown6 q hq; omega)).more (by simp; omega)
            have hch6 : Chg (fun q => q = b) w w6 := (hch.trans kkc).step k6 (fun q hq hl => by have := hown6 q hq; omega)
            obtain ⟨ob, obc, rfl, _⟩ := h6.view
            go_wp2_with fail
            go_round
            case rel => exact ⟨l ++ [r], h6, by simp; omega, hc6, hch6⟩
            case measure => simp; omega
          · intro K0 hK0
            refine ocallE (f := 64) (args := #[.pointer (some ⟨b, 0, none⟩), .int .i64 2]) (φ := fun v W' => ∃ x : Int, v = .int .i64 x ∧ 0 ≤ x ∧ x ≤ 1 ∧ Cur W' b B (K + 10 + 10 * l.length + 2) ∧ Chg (fun q => q = b) W1 W') (by go_simp) ((pick_any b B (K + 10 + 10 * l.length) 2 W1 hcur (by omega) (by omega)).mono (fun e W' ⟨x, h1, h2, h3, _, h5, h6⟩ => ⟨_, h1, x, rfl, h2, by have := h3 (by omega); omega, h5, h6⟩)) (fun v2 W2 h2 => ?_)
            obtain ⟨x, rfl, hx0, hx1, hc2, k2⟩ := h2
            have ho2 := ho.step k2 (fun q hq e => by have := (ho.lt q hq).1; omega)
            refine hK0.out _ _ trivial ?_
            clear hK0 K0
            simp only [List.getElem_toArray, List.getElem_cons_succ, List.getElem_cons_zero, Act.put, List.setIfInBounds_toArray, List.set_cons_zero, List.set_cons_succ]
            have hy := (k2.cellD g j hg2 (fun e => hgb e)).trans hy
            refine wpAnyK_1 6 (by kernel_rfl) (wpOpK' rfl rfl ?_)
            intro K0 hK0
            unfold Oper.wp execOp
            go_simp
            refine hK0.out _ _ trivial ?_
            clear hK0 K0
            simp only [List.setIfInBounds_toArray]
            obtain ⟨s1, hs1⟩ : ∃ s1, IntKind.i64.wrap (y + x) = s1 := ⟨_, rfl⟩
            obtain ⟨r, hr⟩ : ∃ r, s1.tmod m = r := ⟨_, rfl⟩
            have hm0 : ¬ m = 0 := by omega
            refine wpAnyK_take0 9 (.int .i64 s1) rfl (by kernel_rfl) (fun _ _ _ h => h) hS rfl (by intro w; go_simp) ?_
            simp only [List.getElem_toArray, List.getElem_cons_succ, List.getElem_cons_zero, Act.put, List.setIfInBounds_toArray, List.set_cons_zero, List.set_cons_succ]
            refine wpAnyK_take0 11 (.int .i64 r) rfl (by kernel_rfl) (fun _ _ _ h => h) hS rfl (by intro w; go_simp) ?_
            simp only [List.getElem_toArray, List.getElem_cons_succ, List.getElem_cons_zero, Act.put, List.setIfInBounds_toArray, List.set_cons_zero, List.set_cons_succ]
            refine wpAnyK_1 12 (by kernel_rfl) (wpOpK' rfl rfl ?_)
            intro K0 hK0
            refine obuild (.tmp 47) r rfl rfl (fun g3 W3 k3 hg3 lg3 => hK0.out _ _ trivial ?_)
            clear hK0 K0
            simp only [List.getElem_toArray, List.getElem_cons_succ, List.getElem_cons_zero, Act.put, List.setIfInBounds_toArray, List.set_cons_zero, List.set_cons_succ]
            have z2 := k2.size
            have z3 := k3.size
            refine wpAnyK_1 13 (by kernel_rfl) (wpOpK' rfl rfl ?_)
            intro K0 hK0
            refine oapp (.tmp 36) (.tmp 48) rfl (ho2.keep k3) (RI.one hg3 (Nat.le_refl 1) (by decide) (fun e => e)) rfl rfl (by simp; omega) (by omega) (fun v6 w6 h6 k6 f6 => hK0.out _ _ trivial ?_)
            clear hK0 K0
            simp only [List.getElem_toArray, List.getElem_cons_succ, List.getElem_cons_zero, Act.put, List.setIfInBounds_toArray, List.set_cons_zero, List.set_cons_succ]
            refine wpAnyK_tail 14 rfl (by kernel_rfl) ?_
            simp only [List.drop_succ_cons, List.drop_zero]
            have hcc := hc2.keep k3
            have kkc := k2.keep k3
            have hown6 := fun q hq => (ho2.lt q hq).1
            have hc6 : Cur w6 b B (K + 10 + 10 * (l ++ [r]).length) := (hcc.step k6 (fun q hq => by have := hown6 q hq; omega)).more (by simp; omega)
            have hch6 : Chg (fun q => q = b) w w6 := (hch.trans kkc).step k6 (fun q hq hl => by have := hown6 q hq; omega)
            obtain ⟨ob, obc, rfl, _⟩ := h6.view
            go_wp2_with fail
            go_round
            case rel => exact ⟨l ++ [r], h6, by simp; omega, hc6, hch6⟩
            case measure => simp; omega
        · have hl0' : ¬ (0 : Int) < (l.length : Int) := by omega
          go_wp2_with (first
            | (go_at_call 64; refine (pick_any b B (K + 10 + 10 * l.length) m wr hcur (by omega) (by omega)).mono ?_; rintro e w5 ⟨x, rfl, hx0, _, _, hc5, hk5⟩; have ho5 := ho.step hk5 (fun q hq e => hne q hq e); have hz5 := hk5.size)
            | (at_builtin; refine wapp1 rfl (.tmp 22) (.tmp 26) rfl ho5 rfl rfl (by omega) (by omega) ?_))
          intro v6 w6 h6 k6 f6
          have hown6 := fun q hq => (ho5.lt q hq).1
          have hc6 : Cur w6 b B (K + 10 + 10 * (l ++ [x]).length) := (hc5.step k6 (fun q hq => by have := hown6 q hq; omega)).more (by simp; omega)
          have hch6 : Chg (fun q => q = b) w w6 := (hch.trans hk5).step k6 (fun q hq hl => by have := hown6 q hq; omega)
          obtain ⟨ob, obc, rfl, _⟩ := h6.view
          go_wp2_with fail
          go_round
          case rel => exact ⟨l ++ [x], h6, by simp; omega, hc6, hch6⟩
          case measure => simp; omega
      · by_cases h1 : near = 1
        · subst h1
          by_cases hl2 : 2 < l.length
          · have hl2p : (2 : Int) < (l.length : Int) := by omega
            obtain ⟨g, rfl, hg1, hg2, hcell, hfr⟩ := hview (by omega)
            have hgb : ¬ g = b := by omega
            have hw1 : IntKind.i64.wrap ((l.length : Int) - 1) = (l.length : Int) - 1 := IntWalk.i64_in _ (by omega)
            have HC := Lib.hid hcell
            clear hcell hview hfr
            go_wp2_with (first
              | (go_at_call 64; refine (pick_any b B (K + 10 + 10 * l.length) 3 wr hcur (by omega) (by omega)).mono ?_; rintro e w5 ⟨x, rfl, hx0, hx1, _, hc5, hk5⟩; have hx2 := hx1 (by omega); have ho5 := ho.step hk5 (fun q hq e => hne q hq e); have hz5 := hk5.size; obtain ⟨j, hj⟩ : ∃ j : Nat, (l.length : Int) - 1 - x = (j : Int) := ⟨((l.length : Int) - 1 - x).toNat, by omega⟩; have hjl : j < l.length := (by omega); have hj0 : (0 : Int) ≤ (j : Int) := Int.natCast_nonneg _; have hj1 : (j : Int) < (l.length : Int) := (by omega); have hwj : IntKind.i64.wrap ((l.length : Int) - 1 - x) = (j : Int) := (IntWalk.i64_in _ (by omega)).trans hj; have hy := (hk5.cellD g j hg2 (fun e => hgb e)).trans (HC.out j hjl); obtain ⟨y, hyy⟩ : ∃ y, l.getD j 0 = y := ⟨_, rfl⟩; rw [hyy] at hy; clear hj hyy)
              | (at_builtin; refine wapp1 rfl (.tmp 58) (.tmp 68) rfl ho5 rfl rfl (by omega) (by omega) ?_))
            intro v6 w6 h6 k6 f6
            have hown6 := fun q hq => (ho5.lt q hq).1
            have hc6 := hc5.step k6 (fun q hq => by have := hown6 q hq; omega)
            have hch6 : Chg (fun q => q = b) w w6 := (hch.trans hk5).step k6 (fun q hq hl => by have := hown6 q hq; omega)
            have hL6l : (l ++ [y]).length = l.length + 1 := by simp
            obtain ⟨L6, hL6⟩ : ∃ L6, l ++ [y] = L6 := ⟨_, rfl⟩
            rw [hL6] at h6 hL6l
            obtain ⟨ob, obc, rfl, hb1, hb2, hview6⟩ := h6.view
            obtain ⟨g6, rfl, hg61, hg62, hcell6, hfr6⟩ := hview6 (by omega)
            have hg6b : ¬ g6 = b := by omega
            have hw6 : IntKind.i64.wrap ((L6.length : Int) - 1) = (l.length : Int) := (IntWalk.i64_in _ (by omega)).trans (by omega)
            have hl60 : (0 : Int) ≤ (l.length : Int) := by omega
            have hl61 : (l.length : Int) < (L6.length : Int) := by omega
            clear hy hcell6 hview6 hfr6 hL6
            go_wp2_with (first
              | (go_at_call 67; refine (one_any b B (K + 10 + 10 * l.length + 2) 3 w6 hc6 (by omega) (by omega)).mono ?_; rintro e w7 ⟨t, rfl, hc7, hk7⟩; have h7 := h6.step hk7 (fun q hq e => by have := (h6.lt q hq).1; omega); have kk7 := hch6.trans hk7)
              | (go_at_call 64; refine (pick_any b B (K + 10 + 10 * l.length + 2 + 2) m w7 hc7 (by omega) (by omega)).mono ?_; rintro e w8 ⟨x8, rfl, _, _, _, hc8, hk8⟩; have h8 := h7.step hk8 (fun q hq e => by have := (h7.lt q hq).1; omega); have kk8 := kk7.trans hk8; have hcell8 := h8.at.1 l.length (by omega); have hfr8 := h8.at.2.1 l.length))
            · obtain ⟨o9, s9⟩ := h8.store l.length x8
              rw [hL6l] at o9
              refine ⟨⟨L6.set l.length x8, o9, by rw [List.length_set]; omega, (hc8.step s9 (fun q hq => by omega)).more (by rw [List.length_set]; omega), kk8.step s9 (fun q hq hl => by omega)⟩, ?_⟩
              show 30 - (l.length + 1) < 30 - l.length
              omega
            · rw [hL6l] at h7
              refine ⟨⟨L6, h7, by omega, hc7.more (by omega), kk7⟩, ?_⟩
              show 30 - (l.length + 1) < 30 - l.length
              omega
          · have hl2' : ¬ (2 : Int) < (l.length : Int) := by omega
            go_wp2_with (first
              | (go_at_call 64; refine (pick_any b B (K + 10 + 10 * l.length) m wr hcur (by omega) (by omega)).mono ?_; rintro e w5 ⟨x, rfl, hx0, _, _, hc5, hk5⟩; have ho5 := ho.step hk5 (fun q hq e => hne q hq e); have hz5 := hk5.size)
              | (at_builtin; refine wapp1 rfl (.tmp 22) (.tmp 26) rfl ho5 rfl rfl (by omega) (by omega) ?_))
            intro v6 w6 h6 k6 f6
            have hown6 := fun q hq => (ho5.lt q hq).1
            have hc6 : Cur w6 b B (K + 10 + 10 * (l ++ [x]).length) := (hc5.step k6 (fun q hq => by have := hown6 q hq; omega)).more (by simp; omega)
            have hch6 : Chg (fun q => q = b) w w6 := (hch.trans hk5).step k6 (fun q hq hl => by have := hown6 q hq; omega)
            obtain ⟨ob, obc, rfl, _⟩ := h6.view
            go_wp2_with fail
            go_round
            case rel => exact ⟨l ++ [x], h6, by simp; omega, hc6, hch6⟩
            case measure => simp; omega
        ·
          go_wp2_with (first
            | (go_at_call 64; refine (pick_any b B (K + 10 + 10 * l.length) m wr hcur (by omega) (by omega)).mono ?_; rintro e w5 ⟨x, rfl, hx0, _, _, hc5, hk5⟩; have ho5 := ho.step hk5 (fun q hq e => hne q hq e); have hz5 := hk5.size)
            | (at_builtin; refine wapp1 rfl (.tmp 22) (.tmp 26) rfl ho5 rfl rfl (by omega) (by omega) ?_))
          intro v6 w6 h6 k6 f6
          have hown6 := fun q hq => (ho5.lt q hq).1
          have hc6 : Cur w6 b B (K + 10 + 10 * (l ++ [x]).length) := (hc5.step k6 (fun q hq => by have := hown6 q hq; omega)).more (by simp; omega)
          have hch6 : Chg (fun q => q = b) w w6 := (hch.trans hk5).step k6 (fun q hq hl => by have := hown6 q hq; omega)
          obtain ⟨ob, obc, rfl, _⟩ := h6.view
          go_wp2_with fail
          go_round
          case rel => exact ⟨l ++ [x], h6, by simp; omega, hc6, hch6⟩
          case measure => simp; omega
    · go_wp2_with (go_at_call 64; refine (pick_any b B (K + 10 + 10 * l.length) 48 wr hcur (by omega) (by omega)).mono ?_; rintro e w5 ⟨x, rfl, hx0, _, _, hc5, hk5⟩; have ho5 := ho.step hk5 (fun q hq e => hne q hq e); have hz5 := hk5.size; have kk5 := hch.trans hk5)
      · go_wp2_with (first
          | (go_at_call 63; refine (among_lit b B (K + 10 + 10 * l.length + 2) w5 [-1, n, 8] _ _ _ _ _ rfl rfl rfl rfl hc5 (by omega) (by simp) (by simp)).mono ?_; rintro e w6 ⟨y, rfl, _, hc6, hk6⟩; have ho6 := ho5.step hk6 (fun q hq e => hne q hq e); have hz6 := hk6.size; have kk6 := kk5.trans hk6)
          | (at_builtin; refine wapp1 rfl (.tmp 84) (.tmp 89) rfl ho6 rfl rfl (by omega) (by omega) ?_))
        intro v7 w7 h7 k7 f7
        have hown7 := fun q hq => (ho6.lt q hq).1
        obtain ⟨ob, obc, rfl, _⟩ := h7.view
        go_wp2_with fail
        go_ret
        exact ⟨_, _, rfl, h7, by rw [List.length_append]; show l.length + 1 ≤ 62; omega, (hc6.step k7 (fun q hq => by have := hown7 q hq; omega)).more (by omega), kk6.step k7 (fun q hq hl => by have := hown7 q hq; omega)⟩
      · have hm0 : ¬ m = 0 := by omega
        clear hview
        have e1 : x = 1 := by
          have := ‹(x == 1) = true›
          simpa using this
        subst e1
        simp only [show ((1 : Int) == 0) = false from rfl, show ((1 : Int) == 1) = true from rfl]
        go_loopw [5] (fun o wr => ∃ l : List Int, OI w.heap.size wr o l ∧ l.length ≤ 62 ∧ Cur wr b B (K + 260 + 10 * l.length) ∧ Chg (fun q => q = b) w wr) (fun o _ => 100 - slLen o)
        case atStart => exact ⟨l, ho5, by omega, hc5.more (by omega), kk5⟩
        case round =>
          obtain ⟨l2, ho2, hl2, hcur2, hch2⟩ := hrel
          have hsz2 := hch2.size
          have hne2 : ∀ q, own _ q → ¬ q = b := fun q hq e => by have := (ho2.lt q hq).1; omega
          obtain ⟨oa2, ocap2, rfl, _⟩ := id ho2.view
          obtain ⟨r, hr⟩ : ∃ r, (l2.length : Int).tmod m = r := ⟨_, rfl⟩
          go_wp2_with (first
            | (go_at_call 64; refine (pick_any b B (K + 260 + 10 * l2.length) 2 wr hcur2 (by omega) (by omega)).mono ?_; rintro e w6 ⟨x6, rfl, hx60, hx61, _, hc6, hk6⟩; have hx62 := hx61 (by omega); have hw6 : IntKind.i64.wrap (60 + x6) = 60 + x6 := (IntWalk.i64_in _ (by omega)); have ho6 := ho2.step hk6 (fun q hq e => hne2 q hq e); have hz6 := hk6.size; have kk6 := hch2.trans hk6)
            | (at_builtin; refine wapp1 rfl (.tmp 99) (.tmp 104) rfl ho6 rfl rfl (by omega) (by omega) ?_))
          · intro v7 w7 h7 k7 f7
            have hown7 := fun q hq => (ho6.lt q hq).1
            obtain ⟨ob, obc, rfl, _⟩ := h7.view
            go_wp2_with fail
            go_round
            case rel => exact ⟨l2 ++ [r], h7, by rw [List.length_append]; show l2.length + 1 ≤ 62; omega, (hc6.step k7 (fun q hq => by have := hown7 q hq; omega)).more (by rw [List.length_append]; show _ ≤ K + 260 + 10 * (l2.length + 1); omega), kk6.step k7 (fun q hq hl => by have := hown7 q hq; omega)⟩
            case measure => rw [slLen_slice, slLen_slice, List.length_append]; show 100 - (l2.length + 1) < _; omega
          · go_ret
            exact ⟨_, _, rfl, ho6, hl2, hc6.more (by omega), kk6⟩
      · go_ret
        exact ⟨_, _, rfl, ho5, by omega, hc5.more (by omega), kk5⟩
end Go.Proofs.Ytfdmghohmohmpaa

/- items drawn; what draws return for inclusion, anomaly, fault places -/
namespace Go.Proofs.Ytfdmghohmohmpaa
open Go.RowKit
end Go.Proofs.Ytfdmghohmohmpaa
