import Derived.Test.YtndhijckbponkaaGreatDoorBase
/- what the laws' helpers do: copy, compare, mark, look whether the mark is held -/
namespace Go.Proofs.YtndhijckbponkaaGreatDoor
open Go.RowKit

def marks (k : Int) (n : Nat) : List Int := (List.range n).map (fun i : Nat => k + (i : Int))
theorem RI.cellAt {A : Nat → Prop} {w : World} {a : Option Addr} {n cap : Nat} {l : List Int} (h : RI A w (.slice a n cap) l) (hl : l ≠ []) :
    ∃ b off, a = some ⟨b, off, none⟩ ∧ ¬ A b ∧ b < w.heap.size ∧ ∀ i, i < l.length → w.cell? ⟨b, off + i, none⟩ = some (.int .i64 (l.getD i 0)) := by
  obtain ⟨a', cap', he, _, _, _, _, hc⟩ := h
  simp only [Value.slice.injEq] at he
  obtain ⟨rfl, rfl, rfl⟩ := he
  exact hc hl

set_option maxRecDepth 100000 in
set_option maxHeartbeats 1000000 in
theorem toIntS_any (A : Nat → Prop) (v : Value) (l : List Int) (w : World) (h : RI A w v l) :
    Calls Tryz.prog 33 #[v] w (Ret fun v' w' => OI w.heap.size w' v' l ∧ Chg No w w') := by
  have hL := h.len
  obtain ⟨a, cap, rfl, hcap, hmax, hlen, _, hc⟩ := id h
  go_enter Tryz.func33, Tryz.ntmps33
  go_wp2_with (refine wmake rfl (.tmp 6) (.tmp 6) rfl l.length rfl rfl hL ?_)
  intro W hW hch0
  have hgb : w.heap.size < W.heap.size := (hW.at).2.2.2.1
  go_wp2_with fail
  go_loopw [4] (fun i wr => ∃ (j : Nat) (m : List Int), j ≤ l.length ∧ i = .int .i64 j ∧ m.length = l.length ∧ (∀ q, q < j → m.getD q 0 = l.getD q 0) ∧ OI w.heap.size wr (.slice (some ⟨w.heap.size, 0, none⟩) l.length l.length) m ∧ Chg No w wr) (fun i _ => l.length - (intOf i).toNat)
  case atStart => exact ⟨0, _, Nat.zero_le _, rfl, by simp, fun q hq => absurd hq (Nat.not_lt_zero _), hW, hch0⟩
  case round =>
    obtain ⟨j, m, hj, rfl, hm, hsame, ho, hch⟩ := hrel
    by_cases hlt : j < l.length
    · obtain ⟨b, off, rfl, _, hb, hcell⟩ := hc (by intro e; simp [e] at hlt)
      have hcl := (hch.cellD b (off + j) hb (fun e => e)).trans (hcell j hlt)
      obtain ⟨y, hy⟩ : ∃ y, l.getD j 0 = y := ⟨_, rfl⟩
      rw [hy] at hcl
      have HY := Lib.hid hy
      have HS := Lib.hid hsame
      have hoc := ho.at.1 j (by omega)
      have hof := ho.at.2.1 j
      have hj0 : (0 : Int) ≤ (j : Int) := Int.natCast_nonneg _
      have hj1 : (j : Int) < (l.length : Int) := by omega
      have hw1 : IntKind.i64.wrap ((j : Int) + 1) = (j : Int) + 1 := IntWalk.i64_in _ (by omega)
      obtain ⟨o1, o2⟩ := ho.store j y
      clear hcell hc hy hsame
      go_wp2_with fail
      go_round
      case rel =>
        refine ⟨j + 1, m.set j y, hlt, by go_num, by simpa using hm, fun q hq => ?_, o1, hch.setCell (fun h => by simp at h) _⟩
        by_cases hqj : q = j
        · subst hqj
          rw [HY.out, List.getD_eq_getElem?_getD, List.getElem?_set_self (by omega)]; rfl
        · rw [← HS.out q (by omega)]
          simp [List.getD_eq_getElem?_getD, Ne.symm hqj]
      case measure => simp [intOf]; omega
    · have hj' : j = l.length := by omega
      subst hj'
      have e : m = l := List.ext_getElem hm (fun q h1 h2 => by
        have := hsame q h2
        rw [List.getD_eq_getElem?_getD, List.getD_eq_getElem?_getD, List.getElem?_eq_getElem h1, List.getElem?_eq_getElem h2] at this
        exact this)
      rw [e] at ho
      clear hsame hc
      go_wp2_with fail
      go_ret
      exact ⟨_, rfl, ho, hch⟩

set_option maxRecDepth 100000 in
set_option maxHeartbeats 1000000 in
theorem eqIntS_same (A B : Nat → Prop) (v v' : Value) (l : List Int) (w : World) (h : RI A w v l) (h' : RI B w v' l) :
    Calls Tryz.prog 36 #[v, v'] w (Ret fun r w' => r = .bool true ∧ Chg No w w') := by
  have hL := h.len
  obtain ⟨a, cap, rfl, hcap, hmax, hlen, _, hc⟩ := id h
  obtain ⟨a', cap', rfl, hcap', hmax', hlen', _, hc'⟩ := id h'
  go_enter Tryz.func36, Tryz.ntmps36
  go_wp2_with fail
  go_loopw [5] (fun i wr => ∃ j : Nat, j ≤ l.length ∧ i = .int .i64 j ∧ Chg No w wr) (fun i _ => l.length - (intOf i).toNat)
  case atStart => exact ⟨0, Nat.zero_le _, rfl, Chg.refl No w⟩
  case round =>
    obtain ⟨j, hj, rfl, hch⟩ := hrel
    by_cases hlt : j < l.length
    · obtain ⟨b, off, rfl, _, hb, hcell⟩ := hc (by intro e; simp [e] at hlt)
      obtain ⟨b', off', rfl, _, hb', hcell'⟩ := hc' (by intro e; simp [e] at hlt)
      have hcl := (hch.cellD b (off + j) hb (fun e => e)).trans (hcell j hlt)
      have hcl' := (hch.cellD b' (off' + j) hb' (fun e => e)).trans (hcell' j hlt)
      obtain ⟨y, hy⟩ : ∃ y, l.getD j 0 = y := ⟨_, rfl⟩
      rw [hy] at hcl hcl'
      have hj0 : (0 : Int) ≤ (j : Int) := Int.natCast_nonneg _
      have hj1 : (j : Int) < (l.length : Int) := by omega
      have hw1 : IntKind.i64.wrap ((j : Int) + 1) = (j : Int) + 1 := IntWalk.i64_in _ (by omega)
      clear hcell hcell' hc hc' hy
      go_wp2_with fail
      go_quiet (fail)
      have hd := (Chg.refl No wr).drewN nq
      have hch := hch.keep hd
      clear hcl hcl'
      generalize wr.drewN nq = W at hd hch ⊢
      go_wp2_with fail
      go_round
      case rel => exact ⟨j + 1, hlt, by go_num, hch⟩
      case measure => simp [intOf]; omega
    · have hj' : j = l.length := by omega
      subst hj'
      clear hc hc'
      go_wp2_with fail
      go_ret
      exact ⟨_, rfl, rfl, hch⟩

end Go.Proofs.YtndhijckbponkaaGreatDoor
