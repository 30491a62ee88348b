import Derived.Test.YtndhijckbponkaaGreatDoorCb
import Derived.Test.YtndhijckbponkaaGreatDoorTd
/- a Tournament with other requests (reference) -/
namespace Go.Proofs.YtndhijckbponkaaGreatDoor
open Go.RowKit

theorem PA.snocF {w1 : World} {v v2 : Value} {n : Nat} {pf mf : Nat → Value} {pv mv : Value} {b : Nat} (hp : ∀ q, own pv q → b ≤ q) (hm : ∀ q, own mv q → b ≤ q) (hb : b ≤ w1.heap.size) (hn : ∀ k, own v2 k → own v k ∨ w1.heap.size ≤ k) (q : Nat)
    (h : FA v2 (n + 1) (fun i => if i = n then pv else pf i) (fun i => if i = n then mv else mf i) q) : FA v n pf mf q ∨ b ≤ q := by
  rcases h with h | ⟨i, hi, h⟩
  · rcases hn q h with h | h
    · exact .inl (.inl h)
    · exact .inr (by omega)
  · by_cases e : i = n
    · subst e; simp only [if_true] at h
      exact .inr (h.elim (hp q) (hm q))
    · simp only [if_neg e] at h
      exact .inl (.inr ⟨i, by omega, h⟩)
end Go.Proofs.YtndhijckbponkaaGreatDoor

/- a Tournament begun again (program) -/
namespace Go.Proofs.YtndhijckbponkaaGreatDoor
open Go.RowKit

theorem own_none (q : Nat) : ¬ own (.slice none 0 0) q := fun e => by simp [own, Value.ownBlock] at e
end Go.Proofs.YtndhijckbponkaaGreatDoor

/- one more Player (program) -/
namespace Go.Proofs.YtndhijckbponkaaGreatDoor
open Go.RowKit

def zeroT : To := ⟨0, [], []⟩
theorem TA.zero (base : Nat) (w : World) : TA base w (.agg #[.int .i64 0, .slice none 0 0, .slice none 0 0]) zeroT :=
  ⟨_, fun _ => undef, fun _ => undef, _, rfl, PA.nil base w (OS.nil _ _ _ _) _ _, OI.nil _ _, fun q _ e => own_none q e⟩
end Go.Proofs.YtndhijckbponkaaGreatDoor

/- an owned Tournament marked -/
namespace Go.Proofs.YtndhijckbponkaaGreatDoor
open Go.RowKit

set_option maxRecDepth 100000 in
set_option maxHeartbeats 1000000 in
theorem markPlayerS_nil (a : Option Addr) (cap : Nat) (k : Int) (w : World) :
    Calls Tryz.prog 48 #[.slice a 0 cap, .int .i64 k] w (Ret fun r w' => r = .int .i64 k ∧ Chg No w w') := by
  go_enter Tryz.func48, Tryz.ntmps48
  go_wp2_with fail
  go_loopw [1, 5] (fun s z wr => s = .int .i64 k ∧ z = .int .i64 0 ∧ wr = w) (fun _ _ _ => 0)
  case atStart => exact ⟨rfl, rfl, rfl⟩
  case round =>
    obtain ⟨rfl, rfl, rfl⟩ := hrel
    go_wp2_with fail
    go_ret
    exact ⟨_, rfl, rfl, Chg.refl _ _⟩

theorem TA.lt {base : Nat} {w : World} {v : Value} {t : To} (h : TA base w v t) : ∃ pv rv, v = .agg #[.int .i64 t.items, pv, rv] := by
  obtain ⟨pv, pf, mf, rv, h1, _⟩ := h; exact ⟨_, _, h1⟩
end Go.Proofs.YtndhijckbponkaaGreatDoor

/- what a valid Tournament says of its Players (plain) -/
namespace Go.Proofs.YtndhijckbponkaaGreatDoor
open Go.RowKit

theorem tour_pl {t : To} (ht : tourB t = true) {i : Nat} (hi : i < t.ps.length) : playB (t.ps.getD i dPl) t.reqs = true := by
  unfold tourB at ht
  simp only [Bool.and_eq_true, List.all_eq_true] at ht
  refine ht.2.2 _ ?_
  rw [List.getD_eq_getElem?_getD, List.getElem?_eq_getElem hi]
  exact List.getElem_mem hi
theorem tour_at {t : To} (ht : tourB t = true) {i : Nat} (hi : i < t.ps.length) : (0 ≤ (t.ps.getD i dPl).frm ∧ (t.ps.getD i dPl).frm ≤ t.reqs.length) ∧ (1 ≤ (t.ps.getD i dPl).ca.pol ∧ (t.ps.getD i dPl).ca.pol ≤ 7) ∧ (1 ≤ (t.ps.getD i dPl).ca.size ∧ (t.ps.getD i dPl).ca.size ≤ 6) := by
  have h1 := tour_pl ht hi
  unfold playB at h1
  simp only [Bool.and_eq_true, inB_iff] at h1
  exact ⟨h1.1.1, h1.1.2.1, h1.1.2.2⟩
end Go.Proofs.YtndhijckbponkaaGreatDoor

/- a valid Tournament served again is valid (plain) -/
namespace Go.Proofs.YtndhijckbponkaaGreatDoor
open Go.RowKit

theorem stepP_const (c : Ca) (x : Int) : (stepC c x).pol = c.pol ∧ (stepC c x).size = c.size := by
  unfold stepC hitC faultC clockC
  repeat' split
  all_goals exact ⟨rfl, rfl⟩
theorem sameB_eq {a b : Ca} (h : sameB a b = true) : a = b := by
  obtain ⟨a1, a2, a3, a4, a5⟩ := a
  obtain ⟨b1, b2, b3, b4, b5⟩ := b
  simp only [sameB, Bool.and_eq_true, beq_iff_eq] at h
  obtain ⟨rfl, rfl, rfl, rfl, rfl⟩ := h
  rfl
theorem want_self {x : Pl} {l : List Int} (h : playB x l = true) : wantP x l = x := by
  unfold playB at h
  simp only [Bool.and_eq_true, beq_iff_eq] at h
  have h3 := sameB_eq h.2.1
  have h2 := h.2.2
  have h4 : (wantP x l).frm = x.frm := rfl
  have e : ∀ a b : Pl, a.frm = b.frm → a.ca = b.ca → a.fa = b.fa → a = b := fun a b p q r => by
    obtain ⟨a1, a2, a3⟩ := a
    obtain ⟨b1, b2, b3⟩ := b
    simp only at p q r
    subst p; subst q; subst r; rfl
  exact e _ _ h4 h3 h2
end Go.Proofs.YtndhijckbponkaaGreatDoor
