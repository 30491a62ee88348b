import Derived.Test.YtampibdnnbekjaaDat
import Derived.Test.YtampibdnnbekjaaFr
/- what the laws' helpers do with slices of slices of int -/
namespace Go.Proofs.Ytampibdnnbekjaa
open Go.RowKit

def tot : List (List Int) → Nat
  | [] => 0
  | l :: ll => l.length + tot ll
theorem tot_append (a b : List (List Int)) : tot (a ++ b) = tot a + tot b := by
  induction a with
  | nil => simp [tot]
  | cons x a ih => simp [tot, ih]; omega
theorem tot_take (ll : List (List Int)) (k : Nat) : tot (ll.take k) ≤ tot ll := by
  have := tot_append (ll.take k) (ll.drop k)
  rw [List.take_append_drop] at this
  omega
theorem tot_succ (ll : List (List Int)) (k : Nat) (h : k < ll.length) : tot (ll.take (k + 1)) = tot (ll.take k) + (ll.getD k []).length := by
  rw [List.take_succ_eq_append_getElem h, tot_append]
  simp [tot, List.getD_eq_getElem?_getD, List.getElem?_eq_getElem h]
theorem tot_get (ll : List (List Int)) (k : Nat) (h : k < ll.length) : (ll.getD k []).length ≤ tot ll := by
  have := tot_succ ll k h
  have := tot_take ll (k + 1)
  omega
set_option maxRecDepth 100000 in
set_option maxHeartbeats 1000000 in
theorem eqIntS_qt (A B : Nat → Prop) (v v' : Value) (l : List Int) (w : World) (h : RI A w v l) (h' : RI B w v' l) :
    Calls Try.prog 9 #[v, v'] w fun e w' => e = .returned (.bool true) ∧ Qt w w' := by
  have hL := h.len
  obtain ⟨a, cap, rfl, hcap, hmax, hlen, _, hc⟩ := id h
  obtain ⟨a', cap', rfl, hcap', hmax', hlen', _, hc'⟩ := id h'
  go_enter Try.func9, Try.ntmps9
  go_wp2_with fail
  go_loopw [5] (fun i wr => ∃ j : Nat, j ≤ l.length ∧ i = .int .i64 j ∧ Qt w wr) (fun i _ => l.length - (intOf i).toNat)
  case atStart => exact ⟨0, Nat.zero_le _, rfl, Qt.refl w⟩
  case round =>
    obtain ⟨j, hj, rfl, hq⟩ := hrel
    have hch := hq.chg
    by_cases hlt : j < l.length
    · obtain ⟨b, off, rfl, _, hb, hcell⟩ := hc (by intro e; simp [e] at hlt)
      obtain ⟨b', off', rfl, _, hb', hcell'⟩ := hc' (by intro e; simp [e] at hlt)
      have hcl := (hch.cellD b (off + j) hb (fun e => e)).trans (hcell j hlt)
      have hcl' := (hch.cellD b' (off' + j) hb' (fun e => e)).trans (hcell' j hlt)
      obtain ⟨y, hy⟩ : ∃ y, l.getD j 0 = y := ⟨_, rfl⟩
      rw [hy] at hcl hcl'
      have hj0 : (0 : Int) ≤ (j : Int) := Int.natCast_nonneg _
      have hj1 : (j : Int) < (l.length : Int) := by omega
      have hw1 : IntKind.i64.wrap ((j : Int) + 1) = (j : Int) + 1 := IntWalk.i64_in _ (by omega)
      clear hcell hcell' hc hc' hy
      go_wp2_with fail
      go_quiet (fail)
      go_wp2_with fail
      go_round
      case rel => exact ⟨j + 1, hlt, by go_num, hq.trans ⟨_, rfl⟩⟩
      case measure => simp [intOf]; omega
    · have hj' : j = l.length := by omega
      subst hj'
      clear hc hc'
      go_wp2_with fail
      go_ret
      exact ⟨rfl, hq⟩
end Go.Proofs.Ytampibdnnbekjaa
