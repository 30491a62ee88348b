import Derived.Test.YtfdmghohmohmpaaI
import Derived.RegionTactic
/- fractions: greatest common divisors, Fracs made of numbers -/
namespace Go.Proofs.Ytfdmghohmohmpaa
open Go.RowKit

def gcdI (a b : Int) : Int := (Int.gcd a b : Int)
theorem gcdI_step {a b : Int} (ha : 0 ≤ a) (hb : 0 < b) : gcdI b (a % b) = gcdI a b := by
  obtain ⟨m, rfl⟩ := Int.eq_ofNat_of_zero_le ha
  obtain ⟨n, rfl⟩ := Int.eq_ofNat_of_zero_le (Int.le_of_lt hb)
  unfold gcdI
  rw [← Int.natCast_emod, Int.gcd_natCast_natCast, Int.gcd_natCast_natCast, Nat.gcd_comm n, ← Nat.gcd_rec, Nat.gcd_comm]
theorem gcdI_zero {a : Int} (ha : 0 ≤ a) : gcdI a 0 = a := by
  unfold gcdI
  simp [Int.gcd]; omega
def absI (a : Int) : Int := (a.natAbs : Int)
theorem absI_nonneg (a : Int) : 0 ≤ absI a := by unfold absI; omega
theorem absI_max (a : Int) : max a (-a) = absI a := by unfold absI; omega
theorem gcdI_pos {a b : Int} (hb : 1 ≤ b) : 1 ≤ gcdI a b := by
  unfold gcdI
  have : 0 < Int.gcd a b := Int.gcd_pos_of_ne_zero_right a (by omega)
  omega
theorem gcdI_le {a b : Int} (hb : 1 ≤ b) : gcdI a b ≤ b := by
  unfold gcdI
  have := Int.le_of_dvd (by omega) (Int.gcd_dvd_right a b)
  exact this
def fracB (a b : Int) : Bool := inB b 1 100000 && inB a (-100000000) 100000000 && (gcdI (absI a) b == 1)
/-- the numbers of a Frac made of two numbers, and whether there is one -/
structure Fr where
  num : Int
  den : Int
  ok : Bool
def mkFr (num den : Int) : Fr :=
  let d := gcdI (absI num) den
  if fracB (num.tdiv d) (den.tdiv d) then ⟨num.tdiv d, den.tdiv d, true⟩ else ⟨0, 0, false⟩
/-- at most numbers are drawn -/
def Qt (w w' : World) : Prop := ∃ m, w' = w.drewN m
theorem Qt.refl (w : World) : Qt w w := ⟨0, rfl⟩
theorem Qt.chg {w w' : World} (h : Qt w w') : Chg No w w' := by
  obtain ⟨m, rfl⟩ := h
  exact (Chg.refl No w).drewN m
theorem drewN_drewN (w : World) (a b : Nat) : (w.drewN a).drewN b = w.drewN (a + b) := by simp [World.drewN, Nat.add_assoc]
theorem Qt.trans {w w1 w2 : World} (h : Qt w w1) (h2 : Qt w1 w2) : Qt w w2 := by
  obtain ⟨a, rfl⟩ := h
  obtain ⟨b, rfl⟩ := h2
  exact ⟨a + b, drewN_drewN w a b⟩

set_option maxRecDepth 100000 in
set_option maxHeartbeats 400000 in
theorem l1Most_any (a b : Int) (w : World) :
    Calls Try.prog 65 #[.int .i64 a, .int .i64 b] w fun e w' => e = .returned (.int .i64 (max a b)) ∧ w = w' := by
  by_cases h : b < a
  all_goals
    go_enter Try.func65, Try.ntmps65
    go_wp2
    go_ret
    exact ⟨ret_int (by omega), rfl⟩

/-- a Frac's test: callees' contracts at fixed arguments, made quiet -/
theorem same_quiet {P : Program} {f : FuncId} {args : Array Value} {w : World} {n : Nat} {v : Value}
    (h : Calls P f args (w.drewN n) fun e w' => e = .returned v ∧ w.drewN n = w') : Calls P f args (w.drewN n) fun e w'' => e = .returned v ∧ ∃ m, w'' = w.drewN m :=
  Calls.quiet_of_same (h.mono fun _ _ h => ⟨h.1, h.2.symm⟩)
theorem qt_quiet {P : Program} {f : FuncId} {args : Array Value} {w : World} {n : Nat} {v : Value}
    (h : Calls P f args (w.drewN n) fun e w' => e = .returned v ∧ Qt (w.drewN n) w') : Calls P f args (w.drewN n) fun e w'' => e = .returned v ∧ ∃ m, w'' = w.drewN m :=
  h.mono fun _ _ h => ⟨h.1, by obtain ⟨m, hm⟩ := h.2; exact ⟨n + m, hm.trans (drewN_drewN w n m)⟩⟩

/-- a block of cells known one by one -/
structure BoxN (w : World) (b : Nat) (vs : List Value) : Prop where
  c : ∀ i v, vs[i]? = some v → w.cell? ⟨b, i, none⟩ = some v
  fr : ∀ o, w.frozen? ⟨b, o, none⟩ = false
  lt : b < w.heap.size
theorem BoxN.step {S : Nat → Prop} {w w' : World} {b : Nat} {vs : List Value} (h : BoxN w b vs) (hc : Chg S w w') (hS : ¬ S b) : BoxN w' b vs :=
  ⟨fun i v hi => (hc.cellD b i h.lt hS).trans (h.c i v hi), fun o => (World.frozen?_of_block (hc.block b h.lt hS)).trans (h.fr o), Nat.lt_of_lt_of_le h.lt hc.size⟩
theorem BoxN.keep {w w' : World} {b : Nat} {vs : List Value} (h : BoxN w b vs) (hc : Chg No w w') : BoxN w' b vs := h.step hc (fun e => e)
theorem BoxN.new (w : World) (xs : Array Value) (t : TypeId) : BoxN (w.alloc (.cells xs t)) w.heap.size xs.toList :=
  ⟨fun i v hi => by rw [World.cell?_alloc_new]; simpa using hi, fun o => World.frozen?_alloc_new _ _ _ _, by simp⟩
end Go.Proofs.Ytfdmghohmohmpaa
