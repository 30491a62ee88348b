import Derived.Test.YtndhijckbponkaaGreatDoorPkX7
import Derived.Test.YtndhijckbponkaaGreatDoorPkX1
import Derived.RegionTactic
import Derived.Test.YtndhijckbponkaaGreatDoorTe
import Derived.Test.YtndhijckbponkaaGreatDoorPkX4
import Derived.Test.YtndhijckbponkaaGreatDoorH
import Derived.Test.YtndhijckbponkaaGreatDoorK
import Derived.Test.YtndhijckbponkaaGreatDoorBase
import Derived.Test.YtndhijckbponkaaGreatDoorCa
import Derived.Test.YtndhijckbponkaaGreatDoorDat
import Derived.Test.YtndhijckbponkaaGreatDoorBt
import Derived.Test.YtndhijckbponkaaGreatDoorTh
/- a step of a Tournament (plain) -/
namespace Go.Proofs.YtndhijckbponkaaGreatDoor
open Go.RowKit

theorem tour_len {t : To} (ht : tourB t = true) : t.ps.length ≤ 4 ∧ t.reqs.length ≤ 60 ∧ 1 ≤ t.items ∧ t.items ≤ 8 := by
  unfold tourB reqB at ht; simp only [Bool.and_eq_true, decide_eq_true_eq, inB_iff] at ht
  exact ⟨ht.2.1, ht.1.1.2, ht.1.1.1⟩
theorem tour_ok {t : To} (ht : tourB t = true) {i : Nat} (hi : i < t.ps.length) : Ok (t.ps.getD i dPl).ca := by
  have h1 := want_self (tour_pl ht hi)
  obtain ⟨_, h2, g1⟩ := tour_at ht hi
  rw [← h1]
  exact ok_run (ok_new h2 g1) _
end Go.Proofs.YtndhijckbponkaaGreatDoor

/- slices.Delete at a row of Players: one is taken out -/
namespace Go.Proofs.YtndhijckbponkaaGreatDoor
open Go.RowKit

theorem OS.setCells {E : TypeId} {sz base g m cap n : Nat} {cs : List Value} : ∀ (ds : List Value) (o : Nat) (w : World), OS E sz base w (.slice (some ⟨g, 0, none⟩) m cap) n cs → n * sz ≤ o → OS E sz base (w.setCells g o ds) (.slice (some ⟨g, 0, none⟩) m cap) n cs ∧ Chg (fun k => k = g) w (w.setCells g o ds)
  | [], _, w, h, _ => ⟨h, Chg.refl _ w⟩
  | d :: ds, o, w, h, ho => by
    obtain ⟨h1, h2⟩ := h.store o d
    rw [List.set_eq_of_length_le (by rw [h.cl]; exact ho)] at h1
    obtain ⟨h3, h4⟩ := OS.setCells ds (o + 1) _ h1 (by omega)
    exact ⟨h3, h2.trans h4⟩
theorem PA.one {base : Nat} {w : World} {v : Value} {ls : List Pl} {pf mf : Nat → Value} (h : PA base w v ls pf mf) : ∀ n, n ≤ ls.length → ∀ u ∈ rowC ls pf mf n, u.oneCell' = true
  | 0, _, u, hu => by cases hu
  | n + 1, hn, u, hu => by
    rw [rowC] at hu
    rcases List.mem_append.1 hu with hu | hu
    · exact h.one n (by omega) u hu
    · obtain ⟨a1, n1, c1, e1⟩ := (h.pg n hn).shape
      obtain ⟨a2, n2, c2, e2⟩ := (h.mq n hn).shape
      rw [e1, e2] at hu
      simp only [plC, List.mem_cons, List.not_mem_nil, or_false] at hu
      rcases hu with rfl | rfl | rfl | rfl | rfl | rfl | rfl <;> rfl
end Go.Proofs.YtndhijckbponkaaGreatDoor

/- a step made (reference) -/
namespace Go.Proofs.YtndhijckbponkaaGreatDoor
open Go.RowKit

theorem TA.put3 {base : Nat} {w : World} {v : Value} {t : To} (h : TA base w v t) {b : Nat} (hb : b < base) : ∃ it pa pn pc ra rn rc, v = .agg #[.int .i64 it, .slice pa pn pc, .slice ra rn rc] ∧
    TA base (((w.setCell ⟨b, 0, none⟩ (.int .i64 it)).setCell ⟨b, 1, none⟩ (.slice pa pn pc)).setCell ⟨b, 2, none⟩ (.slice ra rn rc)) v t := by
  obtain ⟨pv, pf, mf, rv, rfl, h2, h3, h4⟩ := h
  obtain ⟨pa, pc, rfl, _⟩ := h2.os.view
  obtain ⟨ra, rn, rc, rfl⟩ := h3.shape
  have ch : Chg (fun q => q = b) w (((w.setCell ⟨b, 0, none⟩ (.int .i64 t.items)).setCell ⟨b, 1, none⟩ (.slice pa t.ps.length pc)).setCell ⟨b, 2, none⟩ (.slice ra rn rc)) :=
    (((Chg.refl (fun q => q = b) w).setCell (p := ⟨b, 0, none⟩) (fun _ => rfl) _).setCell (p := ⟨b, 1, none⟩) (fun _ => rfl) _).setCell (p := ⟨b, 2, none⟩) (fun _ => rfl) _
  exact ⟨_, _, _, _, _, _, _, rfl, _, _, _, _, rfl, h2.step ch (fun q hq e => by have := (h2.inF q hq).1; omega), h3.step ch (fun q hq e => by have := (h3.lt q hq).1; omega), h4⟩
theorem Chg.put3 {S : Nat → Prop} {w0 w : World} (h : Chg S w0 w) {b : Nat} (hb : b < w0.heap.size → S b) (x0 x1 x2 : Value) : Chg S w0 (((w.setCell ⟨b, 0, none⟩ x0).setCell ⟨b, 1, none⟩ x1).setCell ⟨b, 2, none⟩ x2) :=
  ((h.setCell (p := ⟨b, 0, none⟩) hb x0).setCell (p := ⟨b, 1, none⟩) hb x1).setCell (p := ⟨b, 2, none⟩) hb x2
end Go.Proofs.YtndhijckbponkaaGreatDoor

/- the cruel asker (program) -/
namespace Go.Proofs.YtndhijckbponkaaGreatDoor
open Go.RowKit

theorem TA.stepB {base : Nat} {w : World} {v : Value} {t : To} (h : TA base w v t) {b : Nat} (hb : b < base) (x0 x1 x2 : Value) : TA base (((w.setCell ⟨b, 0, none⟩ x0).setCell ⟨b, 1, none⟩ x1).setCell ⟨b, 2, none⟩ x2) v t := by
  obtain ⟨pv, pf, mf, rv, rfl, h2, h3, h4⟩ := h
  have ch := (Chg.refl (fun q => q = b) w).put3 (b := b) (fun _ => rfl) x0 x1 x2
  exact ⟨_, _, _, _, rfl, h2.step ch (fun q hq e => by have := (h2.inF q hq).1; omega), h3.step ch (fun q hq e => by have := (h3.lt q hq).1; omega), h4⟩
end Go.Proofs.YtndhijckbponkaaGreatDoor

/- the law of StepTournament returns true -/
namespace Go.Proofs.YtndhijckbponkaaGreatDoor
open Go.RowKit

/-- a Tournament of the call's own, all of it in blocks from lo on and below hi -/
def TAU (lo hi : Nat) (w : World) (v : Value) (t : To) : Prop :=
  ∃ pv pf mf rv, v = .agg #[.int .i64 t.items, pv, rv] ∧ PA lo w pv t.ps pf mf ∧ OI lo w rv t.reqs ∧ (∀ q, FA pv t.ps.length pf mf q → ¬ own rv q) ∧ (∀ q, FA pv t.ps.length pf mf q → q < hi) ∧ ∀ q, own rv q → q < hi
theorem TA.u {base : Nat} {w : World} {v : Value} {t : To} (h : TA base w v t) : TAU base w.heap.size w v t := by
  obtain ⟨pv, pf, mf, rv, h1, h2, h3, h4⟩ := h
  exact ⟨pv, pf, mf, rv, h1, h2, h3, h4, fun q hq => (h2.inF q hq).2, fun q hq => (h3.lt q hq).2⟩
theorem TAU.step {lo hi : Nat} {w w' : World} {v : Value} {t : To} {S : Nat → Prop} (h : TAU lo hi w v t) (hc : Chg S w w') (hS : ∀ q, lo ≤ q → q < hi → ¬ S q) : TAU lo hi w' v t := by
  obtain ⟨pv, pf, mf, rv, h1, h2, h3, h4, h5, h6⟩ := h
  exact ⟨pv, pf, mf, rv, h1, h2.step hc (fun q hq => hS q (h2.inF q hq).1 (h5 q hq)), h3.step hc (fun q hq => hS q (h3.lt q hq).1 (h6 q hq)), h4, h5, h6⟩
theorem TAU.keep {lo hi : Nat} {w w' : World} {v : Value} {t : To} (h : TAU lo hi w v t) (hc : Chg No w w') : TAU lo hi w' v t := h.step hc (fun _ _ _ e => e)
theorem TAU.rt {lo hi : Nat} {w : World} {v : Value} {t : To} (h : TAU lo hi w v t) (hn : t.ps.length ≤ 1048576) : RT No w v t := by
  obtain ⟨pv, pf, mf, rv, h1, h2, h3, h4, _⟩ := h
  exact ⟨_, _, h1, h2.read hn (fun _ _ e => e), h3.read (fun _ _ e => e)⟩
theorem TAU.shape {lo hi : Nat} {w : World} {v : Value} {t : To} (h : TAU lo hi w v t) : ∃ pa pn pc ra rn rc, v = .agg #[.int .i64 t.items, .slice pa pn pc, .slice ra rn rc] := by
  obtain ⟨pv, pf, mf, rv, rfl, h2, h3, _⟩ := h
  obtain ⟨pa, pc, rfl, _⟩ := h2.os.view
  obtain ⟨ra, rn, rc, rfl⟩ := h3.shape
  exact ⟨_, _, _, _, _, _, rfl⟩
set_option maxRecDepth 100000 in
set_option maxHeartbeats 1000000 in
theorem markTAU_any (base hi : Nat) (v : Value) (t : To) (k : Int) (w : World) (h : TAU base hi w v t) (hn : t.ps.length ≤ 1048576) (hk : 0 ≤ k) (hk' : k + totPl t.ps ≤ 100000000) :
    Calls Tryz.prog 13 #[v, .int .i64 k] w (Ret fun r w' => r = .int .i64 (k + totPl t.ps + t.reqs.length) ∧ RT No w' v (markT k t) ∧ Chg (fun q => base ≤ q ∧ q < hi) w w') := by
  obtain ⟨it, ps, rq⟩ := t
  obtain ⟨pv, pf, mf, rv, rfl, hP, hR, hd, hu1, hu2⟩ := h
  simp only at hP hR hd hu1 hu2 hn hk' ⊢
  have hml := mkTo_len k ps ps.length
  obtain ⟨ra, rn, rc, rfl⟩ := hR.shape
  have hRl : ∀ q, own (.slice ra rn rc) q → base ≤ q ∧ q < hi := fun q hq => ⟨(hR.lt q hq).1, hu2 q hq⟩
  by_cases h0 : ps = []
  · subst h0
    obtain ⟨a, cap, rfl, hcap, hmax, _⟩ := hP.os.view
    have k0 := (Chg.refl No w).alloc (.cells #[.int .i64 it, .slice a 0 cap, .slice ra rn rc] 31)
    have b0 := Box3.new w (.int .i64 it) (.slice a 0 cap) (.slice ra rn rc) 31
    obtain ⟨c0, c1, c2, _⟩ := id b0
    have hrps : RPS No w (.slice a 0 cap) [] := hP.read (by simp) (fun _ _ e => e)
    simp only [List.length_nil] at *
    go_enter Tryz.func13, Tryz.ntmps13
    go_wp2_with fail
    refine (markPlayerS_nil a cap k _).mono ?_
    rintro e w1 ⟨_, rfl, rfl, k1⟩
    have b0 := b0.keep k1
    clear c0 c1 c2
    obtain ⟨c0, c1, c2, _⟩ := id b0
    have hR1 := (hR.keep k0).keep k1
    go_wp2_with fail
    refine (markIntS_any base _ rq k w1 hR1 (by omega)).mono ?_
    rintro e w2 ⟨_, rfl, rfl, o2, k2⟩
    go_wp2_with fail
    go_ret
    have kk : Chg (own (.slice ra rn rc)) w w2 := ((k0.keep k1).mono (fun _ e _ => e.elim)).trans k2
    refine ⟨_, rfl, by simp [totPl], ⟨_, _, rfl, ?_, (by simp only [markT, totPl, Int.natCast_zero, Int.add_zero]; exact o2.read (A := No) (fun _ _ e => e))⟩, kk.mono (fun q e _ => hRl q e)⟩
    exact ⟨a, cap, rfl, Nat.zero_le _, hmax, by simp [markT, mkTo], fun _ => undef, fun _ => undef, fun i hi => by simp [markT, mkTo] at hi, fun hne => by simp [markT, mkTo] at hne⟩
  · obtain ⟨g, cap, rfl, hO⟩ := hP.po h0
    obtain ⟨_, _, _, hcap, hmax, _⟩ := hP.os.view
    have k0 := (Chg.refl No w).alloc (.cells #[.int .i64 it, .slice (some ⟨g, 0, none⟩) ps.length cap, .slice ra rn rc] 31)
    have b0 := Box3.new w (.int .i64 it) (.slice (some ⟨g, 0, none⟩) ps.length cap) (.slice ra rn rc) 31
    obtain ⟨c0, c1, c2, _⟩ := id b0
    have hb : ¬ FP g ps.length pf mf w.heap.size := fun hq => by have := (hO.inF _ hq).2; omega
    have hfp : ∀ q, FP g ps.length pf mf q → ¬ own (.slice ra rn rc) q := fun q hq => hd q (hq.elim (fun e => .inl (own_slice.2 e)) .inr)
    have hcc := hP.os.at.2.2.2.2.2
    go_enter Tryz.func13, Tryz.ntmps13
    go_wp2_with fail
    refine (markPlayerS_any base g ps.length cap ps pf mf k _ (hO.keep k0) hn hk hk').mono ?_
    rintro e w1 ⟨_, rfl, rfl, o1, k1⟩
    have b0 := b0.step k1 hb
    clear c0 c1 c2
    obtain ⟨c0, c1, c2, _⟩ := id b0
    have hR1 := (hR.keep k0).step k1 (fun q hq e => hfp q e hq)
    go_wp2_with fail
    refine (markIntS_any base _ rq (k + totPl ps) w1 hR1 (by omega)).mono ?_
    rintro e w2 ⟨_, rfl, rfl, o2, k2⟩
    go_wp2_with fail
    go_ret
    have o1' := o1.step k2 (fun q hq e => hfp q hq e)
    refine ⟨_, rfl, rfl, ⟨_, _, rfl, ?_, o2.read (A := No) (fun _ _ e => e)⟩, ?_⟩
    · simp only [markT]; exact o1'.read hcc.1 hcc.2 hn (fun _ _ e => e)
    · exact ((k0.mono (fun _ e _ => e.elim)).trans (k1.mono (fun q e hq => ⟨(hO.inF q e).1, hu1 q (e.elim (fun e => .inl (own_slice.2 e)) .inr)⟩))).trans (k2.mono (fun q e hq => hRl q e))
theorem stepMk_no {c : Ca} (h5 : c.pol ≠ 5) (h6 : c.pol ≠ 6) (x : Int) : (stepC c x).marks = c.marks := by
  unfold stepC hitC faultC clockC
  repeat' split
  all_goals first | rfl | contradiction
theorem runMk_no {c : Ca} (h5 : c.pol ≠ 5) (h6 : c.pol ≠ 6) (l : List Int) : (runC c l).marks = c.marks := by
  induction l generalizing c with
  | nil => rfl
  | cons x l ih =>
    show (runC (stepC c x) l).marks = _
    rw [ih (by rw [(stepP_const c x).1]; exact h5) (by rw [(stepP_const c x).1]; exact h6), stepMk_no h5 h6]
theorem tour_small {t : To} (ht : tourB t = true) {i : Nat} (hi : i < t.ps.length) : (t.ps.getD i dPl).ca.pages.length ≤ 6 ∧ (t.ps.getD i dPl).ca.marks.length ≤ 6 := by
  have hok := tour_ok ht hi
  have h1 := hok.len
  have h2 := hok.size
  refine ⟨by omega, ?_⟩
  by_cases h56 : (t.ps.getD i dPl).ca.pol = 5 ∨ (t.ps.getD i dPl).ca.pol = 6
  · have := hok.marks h56; omega
  · have hs := want_self (tour_pl ht hi)
    have hm : (wantP (t.ps.getD i dPl) t.reqs).ca.marks = [] := by
      unfold wantP servedP
      simp only
      rw [runMk_no (c := newC _ _) (fun e => h56 (.inl e)) (fun e => h56 (.inr e))]; rfl
    rw [hs] at hm
    rw [hm]; simp
theorem totPl_small : ∀ (ls : List Pl), (∀ i, i < ls.length → szPl (ls.getD i dPl) ≤ 17) → totPl ls ≤ 17 * ls.length
  | [], _ => by simp [totPl]
  | x :: ls, h => by
    have h0 := h 0 (by simp)
    have ih := totPl_small ls (fun i hi => by have := h (i + 1) (by simp; omega); simpa using this)
    simp only [totPl, List.length_cons]
    have : szPl x ≤ 17 := by simpa using h0
    omega
theorem tour_tot {t : To} (ht : tourB t = true) : totPl t.ps ≤ 100 := by
  have h1 := totPl_small t.ps (fun i hi => by have := tour_small ht hi; unfold szPl; omega)
  have := (tour_len ht).1
  omega
end Go.Proofs.YtndhijckbponkaaGreatDoor
