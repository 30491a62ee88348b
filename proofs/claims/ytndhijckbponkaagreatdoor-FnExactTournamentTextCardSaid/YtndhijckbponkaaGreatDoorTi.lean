import Derived.Test.YtndhijckbponkaaGreatDoorTh
/- how great a Tournament is -/
namespace Go.Proofs.YtndhijckbponkaaGreatDoor
open Go.RowKit

structure Raw7 (w : World) (b o : Nat) (f p k : Int) (x3 x4 : Value) (hd fa : Int) : Prop where
  c0 : w.cell? ⟨b, o, none⟩ = some (.int .i64 f)
  c1 : w.cell? ⟨b, o + 1, none⟩ = some (.int .i64 p)
  c2 : w.cell? ⟨b, o + 2, none⟩ = some (.int .i64 k)
  c3 : w.cell? ⟨b, o + 3, none⟩ = some x3
  c4 : w.cell? ⟨b, o + 4, none⟩ = some x4
  c5 : w.cell? ⟨b, o + 5, none⟩ = some (.int .i64 hd)
  c6 : w.cell? ⟨b, o + 6, none⟩ = some (.int .i64 fa)
theorem Raw7.step {S : Nat → Prop} {w w' : World} {b o : Nat} {f p k : Int} {x3 x4 : Value} {hd fa : Int} (h : Raw7 w b o f p k x3 x4 hd fa) (hc : Chg S w w') (hb : b < w.heap.size) (hS : ¬ S b) : Raw7 w' b o f p k x3 x4 hd fa :=
  ⟨(hc.cellD b _ hb hS).trans h.c0, (hc.cellD b _ hb hS).trans h.c1, (hc.cellD b _ hb hS).trans h.c2, (hc.cellD b _ hb hS).trans h.c3, (hc.cellD b _ hb hS).trans h.c4, (hc.cellD b _ hb hS).trans h.c5, (hc.cellD b _ hb hS).trans h.c6⟩
/-- one Player as it came in -/
def RawP (w : World) (b o pn mn : Nat) : Prop :=
  ∃ f p k a1 q1 a2 q2 hd fa, Raw7 w b o f p k (.slice a1 pn q1) (.slice a2 mn q2) hd fa ∧ pn ≤ 9223372036854775807 ∧ mn ≤ 9223372036854775807 ∧
    (pn ≤ 17592186044416 → ∃ l : List Int, l.length = pn ∧ RI No w (.slice a1 pn q1) l) ∧ (mn ≤ 17592186044416 → ∃ l : List Int, l.length = mn ∧ RI No w (.slice a2 mn q2) l)
/-- Players as they came in -/
def RawPS (w : World) (v : Value) (m : Nat) (pn mn : Nat → Nat) : Prop :=
  ∃ a cap, v = .slice a m cap ∧ m ≤ cap ∧ cap ≤ 9223372036854775807 ∧ (a = none → cap = 0) ∧ (0 < m → ∃ b off, a = some ⟨b, off, none⟩ ∧ b < w.heap.size ∧ ∀ i, i < m → RawP w b (off + i * 7) (pn i) (mn i))
def totN (f : Nat → Nat) : Nat → Nat
  | 0 => 0
  | j + 1 => totN f j + f j
theorem totN_le (f : Nat → Nat) {j n : Nat} (h : j ≤ n) : totN f j ≤ totN f n := by
  induction n with
  | zero => have : j = 0 := by omega
            rw [this]; exact Nat.le_refl _
  | succ n ih =>
    by_cases e : j = n + 1
    · rw [e]; exact Nat.le_refl _
    · have := ih (by omega); simp only [totN]; omega
theorem totN_get (f : Nat → Nat) {j n : Nat} (h : j < n) : f j ≤ totN f n := by
  have := totN_le f (j := j + 1) (n := n) h
  simp only [totN] at this
  omega
theorem RawPS.read {w : World} {v : Value} {m : Nat} {pn mn : Nat → Nat} (h : RawPS w v m pn mn) (hm : m ≤ 1048576) (ht : totN (fun i => pn i + mn i) m ≤ 1048576) : ∃ ls : List Pl, ls.length = m ∧ RPS No w v ls := by
  obtain ⟨a, cap, rfl, h1, h2, h3, h4⟩ := h
  by_cases h0 : 0 < m
  · obtain ⟨b, off, rfl, hb, hP⟩ := h4 h0
    have h' : ∀ i : Nat, ∃ p : Pl × Value × Value, i < m → Cell7 w b (off + i * 7) p.1 p.2.1 p.2.2 ∧ RI No w p.2.1 p.1.ca.pages ∧ RI No w p.2.2 p.1.ca.marks := fun i => by
      by_cases hi : i < m
      · obtain ⟨f, p, k, a1, q1, a2, q2, hd, fa, ⟨c0, c1, c2, c3, c4, c5, c6⟩, _, _, g1, g2⟩ := hP i hi
        have := totN_get (fun i => pn i + mn i) hi
        obtain ⟨l1, e1, r1⟩ := g1 (by omega)
        obtain ⟨l2, e2, r2⟩ := g2 (by omega)
        exact ⟨(⟨f, ⟨p, k, l1, l2, hd⟩, fa⟩, _, _), fun _ => ⟨⟨c0, c1, c2, c3, c4, c5, c6⟩, r1, r2⟩⟩
      · exact ⟨(dPl, undef, undef), fun e => absurd e hi⟩
    obtain ⟨f, hf⟩ := Classical.axiomOfChoice h'
    have hg : ∀ i, i < m → ((List.range m).map (fun i => (f i).1)).getD i dPl = (f i).1 := fun i hi => by
      rw [List.getD_eq_getElem?_getD]; simp [hi]
    refine ⟨(List.range m).map (fun i => (f i).1), by simp, some ⟨b, off, none⟩, cap, by simp, by simpa using h1, h2, by simpa using hm, fun i => (f i).2.1, fun i => (f i).2.2, fun i hi => ?_, fun _ => ⟨b, off, rfl, fun e => e, hb, fun i hi => ?_⟩⟩
    · have hi : i < m := by simpa using hi
      rw [hg i hi]; exact (hf i hi).2
    · have hi : i < m := by simpa using hi
      rw [hg i hi]; exact (hf i hi).1
  · have : m = 0 := by omega
    subst this
    exact ⟨[], rfl, a, cap, rfl, Nat.zero_le _, h2, by simp, fun _ => undef, fun _ => undef, fun i hi => by simp at hi, fun h => absurd rfl h⟩
theorem RawPS.keep {w w' : World} {v : Value} {m : Nat} {pn mn : Nat → Nat} (h : RawPS w v m pn mn) (k0 : Chg No w w') : RawPS w' v m pn mn := by
  obtain ⟨a', cap', e, g1, g2, g3, g4⟩ := h
  refine ⟨a', cap', e, g1, g2, g3, fun hm => ?_⟩
  obtain ⟨b, off, rfl, hb, hc⟩ := g4 hm
  refine ⟨b, off, rfl, Nat.lt_of_lt_of_le hb k0.size, fun i hi => ?_⟩
  obtain ⟨fr, p, k, a1, q1, a2, q2, hd, fa, h7, e1, e2, e3, e4⟩ := hc i hi
  refine ⟨fr, p, k, a1, q1, a2, q2, hd, fa, h7.step k0 hb (fun e => e), e1, e2, fun e => ?_, fun e => ?_⟩
  · obtain ⟨l, x1, x2⟩ := e3 e; exact ⟨l, x1, x2.keep k0⟩
  · obtain ⟨l, x1, x2⟩ := e4 e; exact ⟨l, x1, x2.keep k0⟩
/-- what szPlayerS leaves -/
def szPS (m : Nat) (f : Nat → Nat) (left : Int) : Int := if (m : Int) + totN f m ≤ left then left - m - totN f m else -1

set_option maxRecDepth 100000 in
set_option maxHeartbeats 2000000 in
theorem szPlayerS_any (v : Value) (m : Nat) (pn mn : Nat → Nat) (left : Int) (w : World) (h : RawPS w v m pn mn) (h0 : 0 ≤ left) (h1 : left ≤ 1048576) :
    Calls Tryz.prog 28 #[v, .int .i64 left] w (Ret fun r w' => r = .int .i64 (szPS m (fun i => pn i + mn i) left) ∧ Chg No w w') := by
  obtain ⟨a, cap, rfl, hmc, hmax, _, hP⟩ := h
  have hm0 : (0 : Int) ≤ (m : Int) := Int.natCast_nonneg _
  have hw : IntKind.i64.wrap (left - (m : Int)) = left - (m : Int) := IntWalk.i64_in _ (by omega)
  obtain ⟨f, hf⟩ : ∃ f, (fun i => pn i + mn i) = f := ⟨_, rfl⟩
  rw [hf]
  have HF := Lib.hid hf
  clear hf
  by_cases hlm : (m : Int) ≤ left
  · have hneg : ¬ left - (m : Int) < 0 := by omega
    have HP := Lib.hid hP
    have HLM := Lib.hid hlm
    clear hP hlm
    go_enter Tryz.func28, Tryz.ntmps28
    go_wp2_with fail
    go_loopw [1, 5] (fun s i wr => ∃ j : Nat, j ≤ m ∧ i = .int .i64 j ∧ s = .int .i64 (left - m - (totN f j : Int)) ∧ Hid (0 ≤ left - m - (totN f j : Int)) ∧ Chg No w wr) (fun _ i _ => m - (intOf i).toNat)
    case atStart => exact ⟨0, Nat.zero_le _, rfl, by simp [totN], Lib.hid (by simp [totN]; omega), Chg.refl No w⟩
    case round =>
      obtain ⟨j, hj, rfl, rfl, HG, hch⟩ := hrel
      by_cases hlt : j < m
      · obtain ⟨b, off, rfl, hb, hcell⟩ := HP.out (by omega)
        obtain ⟨fr, p, k, a1, q1, a2, q2, hd, fa, h7, hpn, hmn, _, _⟩ := hcell j hlt
        obtain ⟨c0, c1, c2, c3, c4, c5, c6⟩ := h7.step hch hb (fun e => e)
        have hj0 : (0 : Int) ≤ (j : Int) := Int.natCast_nonneg _
        have hj1 : (j : Int) < (m : Int) := by omega
        have hw1 : IntKind.i64.wrap ((j : Int) + 1) = (j : Int) + 1 := IntWalk.i64_in _ (by omega)
        have hsu : totN f (j + 1) = totN f j + (pn j + mn j) := by rw [totN, ← HF.out]
        have hle := totN_le f (j := j + 1) (n := m) hlt
        obtain ⟨lj, hlj⟩ : ∃ lj, left - m - (totN f j : Int) = lj := ⟨_, rfl⟩
        have hg0 : 0 ≤ lj := hlj ▸ HG.out
        have hg1 : lj ≤ 1048576 := by omega
        rw [hlj]
        by_cases hfit : (pn j : Int) + (mn j : Int) ≤ lj
        · have HE : Hid (szC (pn j) (mn j) lj = left - m - (totN f (j + 1) : Int)) := Lib.hid (by unfold szC; rw [if_pos hfit]; omega)
          have HG2 : Hid (0 ≤ left - m - (totN f (j + 1) : Int)) := Lib.hid (by omega)
          have hng : ¬ left - m - (totN f (j + 1) : Int) < 0 := by omega
          clear hcell h7 hsu hle hlj hfit HG
          go_wp2_with fail
          refine (szPlayer_any fr p k hd fa a1 a2 (pn j) (mn j) q1 q2 lj wr hpn hmn hg0 hg1).mono ?_
          rintro e w1 ⟨_, rfl, rfl, k1⟩
          rw [HE.out]
          go_wp2_with fail
          go_round
          case rel => exact ⟨j + 1, by omega, by go_num, rfl, HG2, hch.keep k1⟩
          case measure => simp [intOf]; omega
        · have HE : Hid (szC (pn j) (mn j) lj = -1) := Lib.hid (by unfold szC; rw [if_neg hfit])
          have HR : Hid (szPS m f left = -1) := Lib.hid (by unfold szPS; rw [if_neg (by omega)])
          clear hcell h7 hsu hle hlj hfit HG
          go_wp2_with fail
          refine (szPlayer_any fr p k hd fa a1 a2 (pn j) (mn j) q1 q2 lj wr hpn hmn hg0 hg1).mono ?_
          rintro e w1 ⟨_, rfl, rfl, k1⟩
          rw [HE.out]
          go_wp2_with fail
          go_ret
          exact ⟨_, rfl, by rw [HR.out]; rfl, hch.keep k1⟩
      · have hjm : j = m := by omega
        subst hjm
        have HR : Hid (szPS j f left = left - j - (totN f j : Int)) := Lib.hid (by have := HG.out; unfold szPS; rw [if_pos (by omega)])
        go_wp2_with fail
        go_ret
        exact ⟨_, rfl, by rw [HR.out]; rfl, hch⟩
  · have hneg : left - (m : Int) < 0 := by omega
    have HR : Hid (szPS m f left = -1) := Lib.hid (by unfold szPS; rw [if_neg (by omega)])
    clear hlm hP
    go_enter Tryz.func28, Tryz.ntmps28
    go_wp2_with fail
    go_ret
    exact ⟨_, rfl, by rw [HR.out]; rfl, Chg.refl _ _⟩

/-- what szTournament leaves -/
def szTo (m : Nat) (f : Nat → Nat) (n : Nat) (left : Int) : Int := if (m : Int) + totN f m + n ≤ left then left - m - totN f m - n else -1
set_option maxRecDepth 100000 in
set_option maxHeartbeats 1000000 in
theorem szTournament_any (it : Int) (v : Value) (m : Nat) (pn mn : Nat → Nat) (ra : Option Addr) (rn rc : Nat) (left : Int) (w : World) (h : RawPS w v m pn mn) (hrn : rn ≤ 9223372036854775807) (h0 : 0 ≤ left) (h1 : left ≤ 1048576) :
    Calls Tryz.prog 6 #[.agg #[.int .i64 it, v, .slice ra rn rc], .int .i64 left] w (Ret fun r w' => r = .int .i64 (szTo m (fun i => pn i + mn i) rn left) ∧ Chg No w w') := by
  obtain ⟨f, hf⟩ : ∃ f, (fun i => pn i + mn i) = f := ⟨_, rfl⟩
  rw [hf]
  have HF := Lib.hid hf
  clear hf
  have hm0 : (0 : Int) ≤ (m : Int) := Int.natCast_nonneg _
  have hr0 : (0 : Int) ≤ (rn : Int) := Int.natCast_nonneg _
  obtain ⟨a, cap, rfl, _⟩ := id h
  have k0 := (Chg.refl No w).alloc (.cells #[.int .i64 it, .slice a m cap, .slice ra rn rc] 25)
  have b0 := Box3.new w (.int .i64 it) (.slice a m cap) (.slice ra rn rc) 25
  have hP : RawPS (w.alloc (.cells #[.int .i64 it, .slice a m cap, .slice ra rn rc] 25)) (.slice a m cap) m pn mn := h.keep k0
  by_cases hfit : (m : Int) + totN f m ≤ left
  · have E1 : Hid (szPS m f left = left - m - totN f m) := Lib.hid (if_pos hfit)
    have hn1 : ¬ left - m - (totN f m : Int) < 0 := by omega
    by_cases hfit2 : (m : Int) + totN f m + rn ≤ left
    · have E2 : Hid (szN rn (left - m - totN f m) = left - m - totN f m - rn) := Lib.hid (if_pos (by omega))
      have E3 : Hid (szTo m f rn left = left - m - totN f m - rn) := Lib.hid (if_pos hfit2)
      have hn2 : ¬ left - m - (totN f m : Int) - rn < 0 := by omega
      have hb0 : 0 ≤ left - m - (totN f m : Int) := by omega
      have hb1 : left - m - (totN f m : Int) ≤ 1048576 := by omega
      clear hfit hfit2 h
      go_enter Tryz.func6, Tryz.ntmps6
      go_wp2_with fail
      refine (szPlayerS_any _ m pn mn left _ hP h0 h1).mono ?_
      rintro e w1 ⟨_, rfl, rfl, k1⟩
      rw [HF.out, E1.out]
      obtain ⟨c0, c1, c2, _⟩ := b0.keep k1
      go_wp2_with fail
      refine (szIntS_any ra rn rc _ _ hrn hb0 hb1).mono ?_
      rintro e w2 ⟨rfl, rfl⟩
      rw [E2.out]
      go_wp2_with fail
      go_ret
      exact ⟨_, rfl, by rw [E3.out]; rfl, k0.keep k1⟩
    · have E2 : Hid (szN rn (left - m - totN f m) = -1) := Lib.hid (if_neg (by omega))
      have E3 : Hid (szTo m f rn left = -1) := Lib.hid (if_neg hfit2)
      have hb0 : 0 ≤ left - m - (totN f m : Int) := by omega
      have hb1 : left - m - (totN f m : Int) ≤ 1048576 := by omega
      clear hfit hfit2 h
      go_enter Tryz.func6, Tryz.ntmps6
      go_wp2_with fail
      refine (szPlayerS_any _ m pn mn left _ hP h0 h1).mono ?_
      rintro e w1 ⟨_, rfl, rfl, k1⟩
      rw [HF.out, E1.out]
      obtain ⟨c0, c1, c2, _⟩ := b0.keep k1
      go_wp2_with fail
      refine (szIntS_any ra rn rc _ _ hrn hb0 hb1).mono ?_
      rintro e w2 ⟨rfl, rfl⟩
      rw [E2.out]
      go_wp2_with fail
      go_ret
      exact ⟨_, rfl, by rw [E3.out]; rfl, k0.keep k1⟩
  · have E1 : Hid (szPS m f left = -1) := Lib.hid (if_neg hfit)
    have E3 : Hid (szTo m f rn left = -1) := Lib.hid (if_neg (by omega))
    clear hfit h
    go_enter Tryz.func6, Tryz.ntmps6
    go_wp2_with fail
    refine (szPlayerS_any _ m pn mn left _ hP h0 h1).mono ?_
    rintro e w1 ⟨_, rfl, rfl, k1⟩
    rw [HF.out, E1.out]
    go_wp2_with fail
    go_ret
    exact ⟨_, rfl, by rw [E3.out]; rfl, k0.keep k1⟩
end Go.Proofs.YtndhijckbponkaaGreatDoor
