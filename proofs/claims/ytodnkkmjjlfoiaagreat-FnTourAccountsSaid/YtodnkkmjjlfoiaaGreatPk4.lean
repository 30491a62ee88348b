import Derived.Test.YtodnkkmjjlfoiaaGreatPk2
import Derived.Test.YtodnkkmjjlfoiaaGreatPk1
import Derived.Test.YtodnkkmjjlfoiaaGreatPk3
import Derived.Test.YtodnkkmjjlfoiaaGreatShelf
import Derived.RegionTactic
/- numbers in ascending order, each once: rising, l3Different -/
namespace Go.Proofs.YtodnkkmjjlfoiaaGreat
open Go.RowKit

theorem OI.holds {base : Nat} {w : World} {g n cap : Nat} {l : List Int} (h : OI base w (.slice (some ⟨g, 0, none⟩) n cap) l) : Go.Sort.Holds (Value.int .i64) w g 0 l.toArray := by
  intro j hj
  have hj' : j < l.length := by simpa using hj
  obtain ⟨h1, h2, _⟩ := h.at
  rw [Nat.zero_add]
  refine ⟨?_, h2 j⟩
  rw [h1 j hj', getElem!_pos l.toArray j hj]
  simp [List.getD_eq_getElem?_getD, List.getElem?_eq_getElem hj']
theorem OI.putRow {base : Nat} {w : World} {g n cap : Nat} {l : List Int} (h : OI base w (.slice (some ⟨g, 0, none⟩) n cap) l) (q : Nat) (m : List Int) (hm : m.length = l.length) :
    OI base (Go.Sort.putRow (Value.int .i64) (Go.Sort.ahead w q) g 0 m.toArray) (.slice (some ⟨g, 0, none⟩) n cap) m ∧ Chg (fun k => k = g) w (Go.Sort.putRow (Value.int .i64) (Go.Sort.ahead w q) g 0 m.toArray) := by
  obtain ⟨cur, h1, h2, h3, h4, h5, h6, h7, h8⟩ := h.row
  have hl := h.len
  have hg : (Go.Sort.putRow (Value.int .i64) (Go.Sort.ahead w q) g 0 m.toArray).heap[g]? = some (.cells (Go.Sort.putCells (Value.int .i64) 0 m.toArray cur) 3 (0, 0)) := by
    simp only [Go.Sort.putRow, Go.Sort.mapBlock, Array.getElem?_modify, Go.Sort.heap_ahead, if_true, h1]
    rfl
  refine ⟨OI.ofRow hg (by simpa [Go.Sort.putCells] using h2) ?_ (by omega) h5 h6 h7 (by omega), ⟨rfl, rfl, rfl, by simp, fun k _ hk => ?_⟩⟩
  · apply List.ext_getElem?
    intro i
    by_cases hi : i < m.length
    · have hic : i < cur.size := by omega
      rw [List.getElem?_take_of_lt hi]
      simp [Go.Sort.putCells, hi, hic]
    · rw [List.getElem?_eq_none (by simp; omega), List.getElem?_eq_none (by simp; omega)]
  · simp only [Go.Sort.putRow, Go.Sort.mapBlock, Array.getElem?_modify, Go.Sort.heap_ahead]
    rw [if_neg (fun e => hk e.symm)]
theorem chg_grow (w : World) (os : Array Obj) : Chg No w (Go.Sort.grow w os) :=
  ⟨rfl, rfl, rfl, by simp, fun k hk _ => by simp [Go.Sort.grow, Array.getElem?_append_left hk]⟩
theorem compact_diff (s : List Int) (hs : s.Pairwise (· ≤ ·)) : Lib.compact s = diffL s := by
  have get : ∀ i, i < s.length → s.toArray[i]! = s.getD i 0 := fun i hi => by
    rw [getElem!_pos _ _ (by simpa using hi)]
    simp [List.getD_eq_getElem?_getD, List.getElem?_eq_getElem hi]
  have le : ∀ i j, i ≤ j → j < s.length → s.getD i 0 ≤ s.getD j 0 := fun i j hij hj => by
    rcases Nat.lt_or_ge i j with h | h
    · have := List.pairwise_iff_getElem.1 hs i j (by omega) hj h
      simpa [List.getD_eq_getElem?_getD, List.getElem?_eq_getElem hj, List.getElem?_eq_getElem (show i < s.length by omega)] using this
    · have : i = j := by omega
      subst this; omega
  have keep : ∀ j, j < s.length → (Lib.keeps s.toArray j = true ↔ j = 0 ∨ s.getD j 0 ≠ s.getD (j - 1) 0) := fun j hj => by
    unfold Lib.keeps
    rw [decide_eq_true_eq, get j hj, get (j - 1) (by omega)]
  refine up_diff ?_ (fun x => ?_)
  · unfold Up Lib.compact Lib.compactUpTo
    rw [List.pairwise_map]
    have hr : ((List.range s.length).filter (Lib.keeps s.toArray)).Pairwise (· < ·) := List.Pairwise.filter _ List.pairwise_lt_range
    refine hr.imp_of_mem (fun {i j} hi hj hij => ?_)
    have hi' := List.mem_range.1 (List.mem_filter.1 hi).1
    have hj' := List.mem_range.1 (List.mem_filter.1 hj).1
    have hk := (keep j hj').1 (List.mem_filter.1 hj).2
    rw [get i hi', get j hj']
    have h1 := le i (j - 1) (by omega) (by omega)
    have h2 := le (j - 1) j (by omega) hj'
    rcases hk with h | h
    · omega
    · omega
  · unfold Lib.compact Lib.compactUpTo
    constructor
    · intro h
      obtain ⟨i, hi, rfl⟩ := List.mem_map.1 h
      have hi' := List.mem_range.1 (List.mem_filter.1 hi).1
      rw [get i hi', List.getD_eq_getElem?_getD, List.getElem?_eq_getElem hi']
      exact List.getElem_mem hi'
    · intro h
      obtain ⟨j, hj, rfl⟩ := List.mem_iff_getElem.1 h
      have : ∀ j, j < s.length → ∃ i, i < s.length ∧ Lib.keeps s.toArray i = true ∧ s.getD i 0 = s.getD j 0 := by
        intro j
        induction j with
        | zero => intro hj; exact ⟨0, hj, (keep 0 hj).2 (.inl rfl), rfl⟩
        | succ j ih =>
          intro hj
          by_cases e : s.getD (j + 1) 0 = s.getD j 0
          · obtain ⟨i, h1, h2, h3⟩ := ih (by omega)
            exact ⟨i, h1, h2, h3.trans e.symm⟩
          · exact ⟨j + 1, hj, (keep _ hj).2 (.inr (by simpa using e)), rfl⟩
      obtain ⟨i, h1, h2, h3⟩ := this j hj
      refine List.mem_map.2 ⟨i, List.mem_filter.2 ⟨List.mem_range.2 h1, h2⟩, ?_⟩
      rw [get i h1, h3, List.getD_eq_getElem?_getD, List.getElem?_eq_getElem hj]; rfl
theorem sort_sorted (l : List Int) : (l.mergeSort fun x y => decide (x ≤ y)).Pairwise (· ≤ ·) := by
  have := List.pairwise_mergeSort (le := fun x y : Int => decide (x ≤ y)) (fun a b c h1 h2 => by simp at *; omega) (fun a b => by simp; omega) l
  exact this.imp (fun h => by simpa using h)
theorem sort_mem (l : List Int) (x : Int) : x ∈ (l.mergeSort fun x y => decide (x ≤ y)) ↔ x ∈ l := List.mem_mergeSort
theorem compact_sort (l : List Int) : Lib.compact (l.mergeSort fun x y => decide (x ≤ y)) = diffL l := by
  rw [compact_diff _ (sort_sorted l)]
  exact up_ext (diffL_up _) (diffL_up _) (fun x => by rw [diffL_mem, diffL_mem, sort_mem])

theorem Sort_any (base : Nat) (v : Value) (l : List Int) (w : World) (h : OI base w v l) :
    Calls Tryz.prog 169 #[v] w (Ret fun r w' => r = .tuple #[] ∧ OI base w' v (l.mergeSort fun x y => decide (x ≤ y)) ∧ Chg (own v) w w') := by
  have hL := h.len
  rcases h.2.2 with ⟨rfl, h0⟩ | ⟨g, cap, cur, rfl, hb, hg, hn, hm, hs, ht⟩
  · have hl : l = [] := List.eq_nil_of_length_eq_zero h0
    subst hl
    exact (Tryz.slices_Sort_int_none none 0 w).mono (fun e w' h => ⟨_, h.1, rfl, by rw [h.2, List.mergeSort_nil]; exact OI.nil _ _, by rw [h.2]; exact Chg.refl _ _⟩)
  · have hblk := (Array.getElem?_eq_some_iff.1 hg).1
    have hml : (l.mergeSort fun x y => decide (x ≤ y)).length = l.length := List.length_mergeSort l
    refine (Tryz.slices_Sort_int g 0 cap l w h.holds hblk (by omega)).mono (fun e w' h' => ?_)
    obtain ⟨he, q, os, rfl⟩ := h'
    obtain ⟨h1, h2⟩ := h.putRow q _ hml
    exact ⟨_, he, rfl, h1.keep (chg_grow _ _), (h2.mono (fun k hk _ => own_slice.2 hk)).trans ((chg_grow _ _).mono (fun k hk _ => hk.elim))⟩

theorem Compact_any (base : Nat) (v : Value) (l : List Int) (w : World) (h : OI base w v l) :
    Calls Tryz.prog 170 #[v] w (Ret fun r w' => OI base w' r (Lib.compact l) ∧ Chg (own v) w w' ∧ ∀ q, own r q → own v q) := by
  have hL := h.len
  rcases h.2.2 with ⟨rfl, h0⟩ | ⟨g, cap, cur, rfl, hb, hg, hn, hm, hs, ht⟩
  · have hl : l = [] := List.eq_nil_of_length_eq_zero h0
    subst hl
    exact (Tryz.slices_Compact_int_empty none 0 w).mono (fun e w' h => ⟨_, h.1, by rw [h.2]; exact OI.nil _ _, by rw [h.2]; exact Chg.refl _ _, fun q hq => hq⟩)
  · have hcl : (Lib.compact l).length ≤ l.length := by
      unfold Lib.compact Lib.compactUpTo
      rw [List.length_map]
      exact Nat.le_trans (List.length_filter_le _ _) (by simp)
    refine (Tryz.slices_Compact_int g 0 cap l w h.holds (by omega) hn).mono (fun e w' h' => ?_)
    obtain ⟨he, q, rfl⟩ := h'
    obtain ⟨h1, h2⟩ := h.putRow q (Lib.compact l ++ List.replicate (l.length - (Lib.compact l).length) 0) (by simp; omega)
    have h3 := h1.pre (Lib.compact l).length (by simp)
    rw [List.take_left] at h3
    exact ⟨_, he, h3, h2.mono (fun k hk _ => own_slice.2 hk), fun q hq => own_slice.2 (own_slice.1 hq)⟩

set_option maxRecDepth 100000 in
set_option maxHeartbeats 1000000 in
theorem rising_any (A : Nat → Prop) (v : Value) (l : List Int) (w : World) (h : RI A w v l) :
    Calls Tryz.prog 149 #[v] w (Ret fun r w' => OI w.heap.size w' r (diffL l) ∧ Chg No w w') := by
  go_enter Tryz.func149, Tryz.ntmps149
  go_wp2_with fail
  refine (Clone_any A v l w h).mono ?_
  rintro e w1 ⟨v1, rfl, o1, k1⟩
  go_wp2_with fail
  refine (Sort_any w.heap.size v1 l w1 o1).mono ?_
  rintro e w2 ⟨_, rfl, rfl, o2, k2⟩
  have c2 := k1.own k2 o1 (Nat.le_refl _)
  go_wp2_with fail
  refine (Compact_any w.heap.size v1 _ w2 o2).mono ?_
  rintro e w3 ⟨v3, rfl, o3, k3, _⟩
  rw [compact_sort] at o3
  have c3 := c2.own k3 o2 (Nat.le_refl _)
  go_wp2_with fail
  go_ret
  exact ⟨_, rfl, o3, c3⟩

end Go.Proofs.YtodnkkmjjlfoiaaGreat

/- fractions: greatest common divisors, Fracs made of numbers -/
namespace Go.Proofs.YtodnkkmjjlfoiaaGreat
open Go.RowKit

def gcdI (a b : Int) : Int := (Int.gcd a b : Int)
theorem gcdI_step {a b : Int} (ha : 0 ≤ a) (hb : 0 < b) : gcdI b (a % b) = gcdI a b := by
  obtain ⟨m, rfl⟩ := Int.eq_ofNat_of_zero_le ha
  obtain ⟨n, rfl⟩ := Int.eq_ofNat_of_zero_le (Int.le_of_lt hb)
  unfold gcdI
  rw [← Int.natCast_emod, Int.gcd_natCast_natCast, Int.gcd_natCast_natCast, Nat.gcd_comm n, ← Nat.gcd_rec, Nat.gcd_comm]
theorem gcdI_zero {a : Int} (ha : 0 ≤ a) : gcdI a 0 = a := by
  unfold gcdI
  simp [Int.gcd]; omega
def absI (a : Int) : Int := (a.natAbs : Int)
theorem absI_nonneg (a : Int) : 0 ≤ absI a := by unfold absI; omega
theorem absI_max (a : Int) : max a (-a) = absI a := by unfold absI; omega
theorem gcdI_pos {a b : Int} (hb : 1 ≤ b) : 1 ≤ gcdI a b := by
  unfold gcdI
  have : 0 < Int.gcd a b := Int.gcd_pos_of_ne_zero_right a (by omega)
  omega
theorem gcdI_le {a b : Int} (hb : 1 ≤ b) : gcdI a b ≤ b := by
  unfold gcdI
  have := Int.le_of_dvd (by omega) (Int.gcd_dvd_right a b)
  exact this
def fracB (a b : Int) : Bool := inB b 1 100000 && inB a (-100000000) 100000000 && (gcdI (absI a) b == 1)
/-- the numbers of a Frac made of two numbers, and whether there is one -/
structure Fr where
  num : Int
  den : Int
  ok : Bool
def mkFr (num den : Int) : Fr :=
  let d := gcdI (absI num) den
  if fracB (num.tdiv d) (den.tdiv d) then ⟨num.tdiv d, den.tdiv d, true⟩ else ⟨0, 0, false⟩
/-- at most numbers are drawn -/
def Qt (w w' : World) : Prop := ∃ m, w' = w.drewN m
theorem Qt.refl (w : World) : Qt w w := ⟨0, rfl⟩
theorem Qt.chg {w w' : World} (h : Qt w w') : Chg No w w' := by
  obtain ⟨m, rfl⟩ := h
  exact (Chg.refl No w).drewN m
theorem drewN_drewN (w : World) (a b : Nat) : (w.drewN a).drewN b = w.drewN (a + b) := by simp [World.drewN, Nat.add_assoc]
theorem Qt.trans {w w1 w2 : World} (h : Qt w w1) (h2 : Qt w1 w2) : Qt w w2 := by
  obtain ⟨a, rfl⟩ := h
  obtain ⟨b, rfl⟩ := h2
  exact ⟨a + b, drewN_drewN w a b⟩

set_option maxRecDepth 100000 in
set_option maxHeartbeats 400000 in
theorem l1Most_any (a b : Int) (w : World) :
    Calls Tryz.prog 111 #[.int .i64 a, .int .i64 b] w fun e w' => e = .returned (.int .i64 (max a b)) ∧ w = w' := by
  by_cases h : b < a
  all_goals
    go_enter Tryz.func111, Tryz.ntmps111
    go_wp2
    go_ret
    exact ⟨ret_int (by omega), rfl⟩

set_option maxRecDepth 100000 in
set_option maxHeartbeats 400000 in
theorem l2Gcd_any (a b : Int) (w : World) (ha : 0 ≤ a) (hb : 0 ≤ b) (ha' : a ≤ 9223372036854775807) (hb' : b ≤ 9223372036854775807) :
    Calls Tryz.prog 116 #[.int .i64 a, .int .i64 b] w fun e w' => e = .returned (.int .i64 (gcdI a b)) ∧ Qt w w' := by
  obtain ⟨g, hg⟩ : ∃ g, gcdI a b = g := ⟨_, rfl⟩
  have HG := Lib.hid hg
  clear hg
  go_enter Tryz.func116, Tryz.ntmps116
  go_wp2_with fail
  go_loopw [0, 1] (fun x y wr => ∃ p q : Int, x = .int .i64 p ∧ y = .int .i64 q ∧ 0 ≤ p ∧ 0 ≤ q ∧ p ≤ 9223372036854775807 ∧ q ≤ 9223372036854775807 ∧ Hid (gcdI p q = g) ∧ Qt w wr) (fun _ y _ => (intOf y).toNat)
  case atStart => exact ⟨a, b, rfl, rfl, ha, hb, ha', hb', HG, Qt.refl w⟩
  case round =>
    obtain ⟨p, q, rfl, rfl, hp, hq, hp', hq', H, hw⟩ := hrel
    by_cases h0 : 0 < q
    · have hne : ¬ q = 0 := by omega
      have ht : p.tmod q = p % q := Int.tmod_eq_emod_of_nonneg hp
      have hlt : p % q < q := Int.emod_lt_of_pos p h0
      have hge : 0 ≤ p % q := Int.emod_nonneg p (by omega)
      go_wp2_with fail
      go_quiet (fail)
      go_wp2_with fail
      go_round
      case rel => exact ⟨q, p % q, rfl, rfl, hq, hge, hq', by omega, Lib.hid ((gcdI_step hp h0).trans H.out), hw.trans ⟨_, rfl⟩⟩
      case measure => simp [intOf]; omega
    · have hq0 : q = 0 := by omega
      subst hq0
      have e := gcdI_zero hp
      have H' := H.out
      rw [e] at H'
      clear e H
      subst H'
      go_wp2_with fail
      go_ret
      exact ⟨by rw [HG.out]; rfl, hw⟩
set_option maxRecDepth 100000 in
set_option maxHeartbeats 400000 in
theorem divisor_any (a b : Int) (w : World) (ha : 0 ≤ a) (hb : 0 ≤ b) (ha' : a ≤ 9223372036854775807) (hb' : b ≤ 9223372036854775807) :
    Calls Tryz.prog 113 #[.int .i64 a, .int .i64 b] w fun e w' => e = .returned (.int .i64 (gcdI a b)) ∧ Qt w w' := by
  obtain ⟨g, hg⟩ : ∃ g, gcdI a b = g := ⟨_, rfl⟩
  have HG := Lib.hid hg
  clear hg
  go_enter Tryz.func113, Tryz.ntmps113
  go_wp2_with fail
  go_loopw [0, 1] (fun x y wr => ∃ p q : Int, x = .int .i64 p ∧ y = .int .i64 q ∧ 0 ≤ p ∧ 0 ≤ q ∧ p ≤ 9223372036854775807 ∧ q ≤ 9223372036854775807 ∧ Hid (gcdI p q = g) ∧ Qt w wr) (fun _ y _ => (intOf y).toNat)
  case atStart => exact ⟨a, b, rfl, rfl, ha, hb, ha', hb', HG, Qt.refl w⟩
  case round =>
    obtain ⟨p, q, rfl, rfl, hp, hq, hp', hq', H, hw⟩ := hrel
    by_cases h0 : 0 < q
    · have hne : ¬ q = 0 := by omega
      have ht : p.tmod q = p % q := Int.tmod_eq_emod_of_nonneg hp
      have hlt : p % q < q := Int.emod_lt_of_pos p h0
      have hge : 0 ≤ p % q := Int.emod_nonneg p (by omega)
      go_wp2_with fail
      go_quiet (fail)
      go_wp2_with fail
      go_round
      case rel => exact ⟨q, p % q, rfl, rfl, hq, hge, hq', by omega, Lib.hid ((gcdI_step hp h0).trans H.out), hw.trans ⟨_, rfl⟩⟩
      case measure => simp [intOf]; omega
    · have hq0 : q = 0 := by omega
      subst hq0
      have e := gcdI_zero hp
      have H' := H.out
      rw [e] at H'
      clear e H
      subst H'
      go_wp2_with fail
      go_ret
      exact ⟨by rw [HG.out]; rfl, hw⟩
set_option maxRecDepth 100000 in
set_option maxHeartbeats 400000 in
theorem l2Abs_any (a : Int) (w : World) (ha : -4611686018427387904 ≤ a) (ha' : a ≤ 4611686018427387904) :
    Calls Tryz.prog 117 #[.int .i64 a] w fun e w' => e = .returned (.int .i64 (absI a)) ∧ w = w' := by
  go_enter Tryz.func117, Tryz.ntmps117
  go_wp2_with (go_at_call 111; refine (l1Most_any _ _ _).mono ?_; rintro e w' ⟨rfl, rfl⟩)
  go_ret
  exact ⟨ret_int (absI_max a), rfl⟩

set_option maxRecDepth 100000 in
set_option maxHeartbeats 400000 in
theorem isize_any (a : Int) (w : World) (ha : -4611686018427387904 ≤ a) (ha' : a ≤ 4611686018427387904) :
    Calls Tryz.prog 114 #[.int .i64 a] w fun e w' => e = .returned (.int .i64 (absI a)) ∧ w = w' := by
  go_enter Tryz.func114, Tryz.ntmps114
  go_wp2
  all_goals
    go_ret
    exact ⟨ret_int (by unfold absI; omega), rfl⟩

/-- a Frac's test: callees' contracts at fixed arguments, made quiet -/
theorem same_quiet {P : Program} {f : FuncId} {args : Array Value} {w : World} {n : Nat} {v : Value}
    (h : Calls P f args (w.drewN n) fun e w' => e = .returned v ∧ w.drewN n = w') : Calls P f args (w.drewN n) fun e w'' => e = .returned v ∧ ∃ m, w'' = w.drewN m :=
  Calls.quiet_of_same (h.mono fun _ _ h => ⟨h.1, h.2.symm⟩)
theorem qt_quiet {P : Program} {f : FuncId} {args : Array Value} {w : World} {n : Nat} {v : Value}
    (h : Calls P f args (w.drewN n) fun e w' => e = .returned v ∧ Qt (w.drewN n) w') : Calls P f args (w.drewN n) fun e w'' => e = .returned v ∧ ∃ m, w'' = w.drewN m :=
  h.mono fun _ _ h => ⟨h.1, by obtain ⟨m, hm⟩ := h.2; exact ⟨n + m, hm.trans (drewN_drewN w n m)⟩⟩

/-- a block of cells known one by one -/
structure BoxN (w : World) (b : Nat) (vs : List Value) : Prop where
  c : ∀ i v, vs[i]? = some v → w.cell? ⟨b, i, none⟩ = some v
  fr : ∀ o, w.frozen? ⟨b, o, none⟩ = false
  lt : b < w.heap.size
theorem BoxN.step {S : Nat → Prop} {w w' : World} {b : Nat} {vs : List Value} (h : BoxN w b vs) (hc : Chg S w w') (hS : ¬ S b) : BoxN w' b vs :=
  ⟨fun i v hi => (hc.cellD b i h.lt hS).trans (h.c i v hi), fun o => (World.frozen?_of_block (hc.block b h.lt hS)).trans (h.fr o), Nat.lt_of_lt_of_le h.lt hc.size⟩
theorem BoxN.keep {w w' : World} {b : Nat} {vs : List Value} (h : BoxN w b vs) (hc : Chg No w w') : BoxN w' b vs := h.step hc (fun e => e)
theorem BoxN.new (w : World) (xs : Array Value) (t : TypeId) : BoxN (w.alloc (.cells xs t)) w.heap.size xs.toList :=
  ⟨fun i v hi => by rw [World.cell?_alloc_new]; simpa using hi, fun o => World.frozen?_alloc_new _ _ _ _, by simp⟩

set_option maxRecDepth 100000 in
set_option maxHeartbeats 1000000 in
theorem l2Good_any (a b : Int) (w : World) (ha : -4611686018427387904 ≤ a) (ha' : a ≤ 4611686018427387904) :
    Calls Tryz.prog 118 #[.agg #[.int .i64 a, .int .i64 b]] w fun e w' => e = .returned (.bool (fracB a b)) ∧ Chg No w w' := by
  cases h1 : inB b 1 100000
  · have H : Hid (fracB a b = false) := Lib.hid (by unfold fracB; rw [h1]; rfl)
    go_enter Tryz.func118, Tryz.ntmps118
    go_wp2_with fail
    go_quiet ((go_at_call 82; exact same_quiet (l1In_any _ _ _ _)))
    go_wp2_with fail
    go_ret
    exact ⟨ret_bool (by rw [H.out]), ((Chg.refl No w).alloc _).drewN _⟩
  · cases h2 : inB a (-100000000) 100000000
    · have H : Hid (fracB a b = false) := Lib.hid (by unfold fracB; rw [h1, h2]; rfl)
      go_enter Tryz.func118, Tryz.ntmps118
      go_wp2_with fail
      go_quiet ((go_at_call 82; exact same_quiet (l1In_any _ _ _ _)))
      go_wp2_with fail
      go_ret
      exact ⟨ret_bool (by rw [H.out]), ((Chg.refl No w).alloc _).drewN _⟩
    · have H : Hid (fracB a b = (gcdI (absI a) b == 1)) := Lib.hid (by unfold fracB; rw [h1, h2]; rfl)
      have hb := inB_iff.1 h1
      have hn := inB_iff.1 h2
      have h3 := absI_nonneg a
      have h4 : absI a ≤ 100000000 := by unfold absI; omega
      go_enter Tryz.func118, Tryz.ntmps118
      go_wp2_with fail
      go_quiet ((first | (go_at_call 82; exact same_quiet (l1In_any _ _ _ _)) | (go_at_call 117; exact same_quiet (l2Abs_any _ _ ha ha')) | (go_at_call 116; exact qt_quiet (l2Gcd_any _ _ _ h3 (by omega) (by omega) (by omega)))))
      go_wp2_with fail
      go_ret
      exact ⟨ret_bool (by rw [H.out]), ((Chg.refl No w).alloc _).drewN _⟩

set_option maxRecDepth 100000 in
set_option maxHeartbeats 1000000 in
theorem IsFrac_any (a b : Int) (w : World) (ha : -4611686018427387904 ≤ a) (ha' : a ≤ 4611686018427387904) :
    Calls Tryz.prog 115 #[.agg #[.int .i64 a, .int .i64 b]] w fun e w' => e = .returned (.bool (fracB a b)) ∧ Chg No w w' := by
  cases h1 : inB b 1 100000
  · have H : Hid (fracB a b = false) := Lib.hid (by unfold fracB; rw [h1]; rfl)
    go_enter Tryz.func115, Tryz.ntmps115
    go_wp2_with fail
    go_quiet ((go_at_call 90; exact same_quiet (within_any _ _ _ _)))
    go_wp2_with fail
    go_ret
    exact ⟨ret_bool (by rw [H.out]), ((Chg.refl No w).alloc _).drewN _⟩
  · cases h2 : inB a (-100000000) 100000000
    · have H : Hid (fracB a b = false) := Lib.hid (by unfold fracB; rw [h1, h2]; rfl)
      go_enter Tryz.func115, Tryz.ntmps115
      go_wp2_with fail
      go_quiet ((go_at_call 90; exact same_quiet (within_any _ _ _ _)))
      go_wp2_with fail
      go_ret
      exact ⟨ret_bool (by rw [H.out]), ((Chg.refl No w).alloc _).drewN _⟩
    · have H : Hid (fracB a b = (gcdI (absI a) b == 1)) := Lib.hid (by unfold fracB; rw [h1, h2]; rfl)
      have hb := inB_iff.1 h1
      have hn := inB_iff.1 h2
      have h3 := absI_nonneg a
      have h4 : absI a ≤ 100000000 := by unfold absI; omega
      go_enter Tryz.func115, Tryz.ntmps115
      go_wp2_with fail
      go_quiet ((first | (go_at_call 90; exact same_quiet (within_any _ _ _ _)) | (go_at_call 114; exact same_quiet (isize_any _ _ ha ha')) | (go_at_call 113; exact qt_quiet (divisor_any _ _ _ h3 (by omega) (by omega) (by omega)))))
      go_wp2_with fail
      go_ret
      exact ⟨ret_bool (by rw [H.out]), ((Chg.refl No w).alloc _).drewN _⟩

set_option maxRecDepth 100000 in
set_option maxHeartbeats 1000000 in
theorem l2Make_any (num den : Int) (w : World) (hn : -4611686018427387904 ≤ num) (hn' : num ≤ 4611686018427387904) (hd : 1 ≤ den) (hd' : den ≤ 4611686018427387904) :
    Calls Tryz.prog 69 #[.int .i64 num, .int .i64 den] w (Ret2 fun v0 v1 w' => v0 = .agg #[.int .i64 (mkFr num den).num, .int .i64 (mkFr num den).den] ∧ v1 = .bool (mkFr num den).ok ∧ Chg No w w') := by
  have h3 := absI_nonneg num
  have h4 : absI num ≤ 4611686018427387904 := by unfold absI; omega
  obtain ⟨d, hdd⟩ : ∃ d, gcdI (absI num) den = d := ⟨_, rfl⟩
  have d1 : 1 ≤ d := hdd ▸ gcdI_pos hd
  have d2 : d ≤ den := hdd ▸ gcdI_le hd
  have dne : ¬ d = 0 := by omega
  have q1 : -4611686018427387904 ≤ num.tdiv d ∧ num.tdiv d ≤ 4611686018427387904 := by
    have := Int.natAbs_tdiv_le_natAbs num d
    omega
  have q2 : 0 ≤ den.tdiv d ∧ den.tdiv d ≤ 4611686018427387904 := by
    have h := Int.natAbs_tdiv_le_natAbs den d
    have := Int.tdiv_nonneg (a := den) (b := d) (by omega) (by omega)
    omega
  obtain ⟨x, hx⟩ : ∃ x, num.tdiv d = x := ⟨_, rfl⟩
  obtain ⟨y, hy⟩ : ∃ y, den.tdiv d = y := ⟨_, rfl⟩
  have HM : Hid (mkFr num den = if fracB x y then ⟨x, y, true⟩ else ⟨0, 0, false⟩) := Lib.hid (by rw [← hx, ← hy, ← hdd]; rfl)
  rw [hx] at q1
  rw [hy] at q2
  have e1 : IntKind.i64.wrap x = x := IntWalk.i64_in _ (by omega)
  have e2 : IntKind.i64.wrap y = y := IntWalk.i64_in _ (by omega)
  have HD := Lib.hid hdd
  clear hdd
  obtain ⟨q1, q1'⟩ := q1
  obtain ⟨q2, q2'⟩ := q2
  go_enter Tryz.func69, Tryz.ntmps69
  go_wp2_with fail
  refine (l2Abs_any _ _ hn hn').mono ?_
  rintro e w1 ⟨rfl, rfl⟩
  go_wp2_with fail
  refine (l2Gcd_any _ _ _ h3 (by omega) (by omega) (by omega)).mono ?_
  rintro e w1 ⟨rfl, k1⟩
  rw [HD.out]
  replace k1 := k1.chg
  have b0 := (BoxN.new w #[.int .i64 0, .int .i64 0] 61).keep k1
  have kk := ((Chg.refl No w).alloc (.cells #[.int .i64 0, .int .i64 0] 61)).keep k1
  cases hB : fracB x y
  · have HB : Hid (mkFr num den = ⟨0, 0, false⟩) := Lib.hid (by rw [HM.out, hB]; rfl)
    have HBB := Lib.hid hB
    clear hB
    go_wp2_with fail
    go_region
    go_wp2_with fail
    refine (l2Good_any x y _ q1 q1').mono ?_
    rintro e w2 ⟨rfl, k2⟩
    rw [HBB.out]
    have hch : Chg No w1 w2 := ((Chg.refl No w1).alloc _).drew.keep k2
    have b0 := b0.keep hch
    have c00 := b0.c 0 _ rfl
    have c01 := b0.c 1 _ rfl
    have f0 := b0.fr 0
    have f1 := b0.fr 1
    go_wp2_with fail
    exact bodyPost_ret (v := .tuple #[.agg #[.int .i64 0, .int .i64 0], .bool false]) (by simp [results, Tryz.results69, go_sem, *]) rfl ⟨_, _, rfl, by rw [HB.out], by rw [HB.out], ((kk.keep hch).setCell (fun h => absurd h (Nat.lt_irrefl _)) _).setCell (fun h => absurd h (Nat.lt_irrefl _)) _⟩
  · have HB : Hid (mkFr num den = ⟨x, y, true⟩) := Lib.hid (by rw [HM.out, hB]; rfl)
    have HBB := Lib.hid hB
    clear hB
    go_wp2_with fail
    go_region
    go_wp2_with fail
    refine (l2Good_any x y _ q1 q1').mono ?_
    rintro e w2 ⟨rfl, k2⟩
    rw [HBB.out]
    have hch : Chg No w1 w2 := ((Chg.refl No w1).alloc _).drew.keep k2
    have bx := ((BoxN.new w1 #[.int .i64 x, .int .i64 y] 61).keep ((Chg.refl No _).drew)).keep k2
    have b0 := b0.keep hch
    have c00 := b0.c 0 _ rfl
    have c01 := b0.c 1 _ rfl
    have f0 := b0.fr 0
    have f1 := b0.fr 1
    have c10 := bx.c 0 _ rfl
    have c11 := bx.c 1 _ rfl
    go_wp2_with fail
    exact bodyPost_ret (v := .tuple #[.agg #[.int .i64 x, .int .i64 y], .bool true]) (by simp [results, Tryz.results69, go_sem, *]) rfl ⟨_, _, rfl, by rw [HB.out], by rw [HB.out], ((kk.keep hch).setCell (fun h => absurd h (Nat.lt_irrefl _)) _).setCell (fun h => absurd h (Nat.lt_irrefl _)) _⟩

set_option maxRecDepth 100000 in
set_option maxHeartbeats 1000000 in
theorem makeFrac_any (num den : Int) (w : World) (hn : -4611686018427387904 ≤ num) (hn' : num ≤ 4611686018427387904) (hd : 1 ≤ den) (hd' : den ≤ 4611686018427387904) :
    Calls Tryz.prog 67 #[.int .i64 num, .int .i64 den] w (Ret2 fun v0 v1 w' => v0 = .agg #[.int .i64 (mkFr num den).num, .int .i64 (mkFr num den).den] ∧ v1 = .bool (mkFr num den).ok ∧ Chg No w w') := by
  have h3 := absI_nonneg num
  have h4 : absI num ≤ 4611686018427387904 := by unfold absI; omega
  obtain ⟨d, hdd⟩ : ∃ d, gcdI (absI num) den = d := ⟨_, rfl⟩
  have d1 : 1 ≤ d := hdd ▸ gcdI_pos hd
  have d2 : d ≤ den := hdd ▸ gcdI_le hd
  have dne : ¬ d = 0 := by omega
  have q1 : -4611686018427387904 ≤ num.tdiv d ∧ num.tdiv d ≤ 4611686018427387904 := by
    have := Int.natAbs_tdiv_le_natAbs num d
    omega
  have q2 : 0 ≤ den.tdiv d ∧ den.tdiv d ≤ 4611686018427387904 := by
    have h := Int.natAbs_tdiv_le_natAbs den d
    have := Int.tdiv_nonneg (a := den) (b := d) (by omega) (by omega)
    omega
  obtain ⟨x, hx⟩ : ∃ x, num.tdiv d = x := ⟨_, rfl⟩
  obtain ⟨y, hy⟩ : ∃ y, den.tdiv d = y := ⟨_, rfl⟩
  have HM : Hid (mkFr num den = if fracB x y then ⟨x, y, true⟩ else ⟨0, 0, false⟩) := Lib.hid (by rw [← hx, ← hy, ← hdd]; rfl)
  rw [hx] at q1
  rw [hy] at q2
  have e1 : IntKind.i64.wrap x = x := IntWalk.i64_in _ (by omega)
  have e2 : IntKind.i64.wrap y = y := IntWalk.i64_in _ (by omega)
  have HD := Lib.hid hdd
  clear hdd
  obtain ⟨q1, q1'⟩ := q1
  obtain ⟨q2, q2'⟩ := q2
  go_enter Tryz.func67, Tryz.ntmps67
  go_wp2_with fail
  refine (isize_any _ _ hn hn').mono ?_
  rintro e w1 ⟨rfl, rfl⟩
  go_wp2_with fail
  refine (divisor_any _ _ _ h3 (by omega) (by omega) (by omega)).mono ?_
  rintro e w1 ⟨rfl, k1⟩
  rw [HD.out]
  replace k1 := k1.chg
  have b0 := (BoxN.new w #[.int .i64 0, .int .i64 0] 61).keep k1
  have kk := ((Chg.refl No w).alloc (.cells #[.int .i64 0, .int .i64 0] 61)).keep k1
  cases hB : fracB x y
  · have HB : Hid (mkFr num den = ⟨0, 0, false⟩) := Lib.hid (by rw [HM.out, hB]; rfl)
    have HBB := Lib.hid hB
    clear hB
    go_wp2_with fail
    go_region
    go_wp2_with fail
    refine (IsFrac_any x y _ q1 q1').mono ?_
    rintro e w2 ⟨rfl, k2⟩
    rw [HBB.out]
    have hch : Chg No w1 w2 := ((Chg.refl No w1).alloc _).drew.keep k2
    have b0 := b0.keep hch
    have c00 := b0.c 0 _ rfl
    have c01 := b0.c 1 _ rfl
    have f0 := b0.fr 0
    have f1 := b0.fr 1
    go_wp2_with fail
    exact bodyPost_ret (v := .tuple #[.agg #[.int .i64 0, .int .i64 0], .bool false]) (by simp [results, Tryz.results67, go_sem, *]) rfl ⟨_, _, rfl, by rw [HB.out], by rw [HB.out], ((kk.keep hch).setCell (fun h => absurd h (Nat.lt_irrefl _)) _).setCell (fun h => absurd h (Nat.lt_irrefl _)) _⟩
  · have HB : Hid (mkFr num den = ⟨x, y, true⟩) := Lib.hid (by rw [HM.out, hB]; rfl)
    have HBB := Lib.hid hB
    clear hB
    go_wp2_with fail
    go_region
    go_wp2_with fail
    refine (IsFrac_any x y _ q1 q1').mono ?_
    rintro e w2 ⟨rfl, k2⟩
    rw [HBB.out]
    have hch : Chg No w1 w2 := ((Chg.refl No w1).alloc _).drew.keep k2
    have bx := ((BoxN.new w1 #[.int .i64 x, .int .i64 y] 61).keep ((Chg.refl No _).drew)).keep k2
    have b0 := b0.keep hch
    have c00 := b0.c 0 _ rfl
    have c01 := b0.c 1 _ rfl
    have f0 := b0.fr 0
    have f1 := b0.fr 1
    have c10 := bx.c 0 _ rfl
    have c11 := bx.c 1 _ rfl
    go_wp2_with fail
    exact bodyPost_ret (v := .tuple #[.agg #[.int .i64 x, .int .i64 y], .bool true]) (by simp [results, Tryz.results67, go_sem, *]) rfl ⟨_, _, rfl, by rw [HB.out], by rw [HB.out], ((kk.keep hch).setCell (fun h => absurd h (Nat.lt_irrefl _)) _).setCell (fun h => absurd h (Nat.lt_irrefl _)) _⟩

end Go.Proofs.YtodnkkmjjlfoiaaGreat

/- what the laws' helpers do with slices of slices of int -/
namespace Go.Proofs.YtodnkkmjjlfoiaaGreat
open Go.RowKit

end Go.Proofs.YtodnkkmjjlfoiaaGreat

/- markIntSS, heldIntSS -/
namespace Go.Proofs.YtodnkkmjjlfoiaaGreat
open Go.RowKit

end Go.Proofs.YtodnkkmjjlfoiaaGreat

/- ContentsOf, both sides -/
namespace Go.Proofs.YtodnkkmjjlfoiaaGreat
open Go.RowKit

/-- a call at an operation -/
theorem ocall {o : Oper} {a : Act} {K : Act → World → Prop} {Q : Exit → Act → World → Prop} {w : World} {f : FuncId} {args : Array Value} {φ : Value → World → Prop}
    (ho : (execOp a.eval o).run Tryz.prog w = .ok (.enter f args) w) (h : Calls Tryz.prog f args w (Ret φ)) (hk : ∀ v w', φ v w' → K (a.put o.dst v) w') : Oper.wp Tryz.prog o a w K Q := by
  unfold Oper.wp
  rw [ho]
  refine h.mono (fun e w' hr => ?_)
  obtain ⟨v, rfl, hp⟩ := hr
  exact hk v w' hp
end Go.Proofs.YtodnkkmjjlfoiaaGreat
