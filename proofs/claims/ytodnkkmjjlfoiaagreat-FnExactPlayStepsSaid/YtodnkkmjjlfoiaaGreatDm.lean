import Derived.Test.YtodnkkmjjlfoiaaGreatDl
import Derived.Test.YtodnkkmjjlfoiaaGreatPk7
import Derived.Test.YtodnkkmjjlfoiaaGreatBz
/- the law of StepTournament returns true -/
namespace Go.Proofs.YtodnkkmjjlfoiaaGreat
open Go.RowKit

/-- a Tournament of the call's own, all of it in blocks from lo on and below hi -/
def TAU (lo hi : Nat) (w : World) (v : Value) (t : To) : Prop :=
  ∃ pv pf mf rv, v = .agg #[.int .i64 t.items, pv, rv] ∧ PA lo w pv t.ps pf mf ∧ OI lo w rv t.reqs ∧ (∀ q, FA pv t.ps.length pf mf q → ¬ own rv q) ∧ (∀ q, FA pv t.ps.length pf mf q → q < hi) ∧ ∀ q, own rv q → q < hi
theorem TA.u {base : Nat} {w : World} {v : Value} {t : To} (h : TA base w v t) : TAU base w.heap.size w v t := by
  obtain ⟨pv, pf, mf, rv, h1, h2, h3, h4⟩ := h
  exact ⟨pv, pf, mf, rv, h1, h2, h3, h4, fun q hq => (h2.inF q hq).2, fun q hq => (h3.lt q hq).2⟩
theorem TAU.step {lo hi : Nat} {w w' : World} {v : Value} {t : To} {S : Nat → Prop} (h : TAU lo hi w v t) (hc : Chg S w w') (hS : ∀ q, lo ≤ q → q < hi → ¬ S q) : TAU lo hi w' v t := by
  obtain ⟨pv, pf, mf, rv, h1, h2, h3, h4, h5, h6⟩ := h
  exact ⟨pv, pf, mf, rv, h1, h2.step hc (fun q hq => hS q (h2.inF q hq).1 (h5 q hq)), h3.step hc (fun q hq => hS q (h3.lt q hq).1 (h6 q hq)), h4, h5, h6⟩
theorem TAU.keep {lo hi : Nat} {w w' : World} {v : Value} {t : To} (h : TAU lo hi w v t) (hc : Chg No w w') : TAU lo hi w' v t := h.step hc (fun _ _ _ e => e)
theorem TAU.rt {lo hi : Nat} {w : World} {v : Value} {t : To} (h : TAU lo hi w v t) (hn : t.ps.length ≤ 1048576) : RT No w v t := by
  obtain ⟨pv, pf, mf, rv, h1, h2, h3, h4, _⟩ := h
  exact ⟨_, _, h1, h2.read hn (fun _ _ e => e), h3.read (fun _ _ e => e)⟩
theorem TAU.shape {lo hi : Nat} {w : World} {v : Value} {t : To} (h : TAU lo hi w v t) : ∃ pa pn pc ra rn rc, v = .agg #[.int .i64 t.items, .slice pa pn pc, .slice ra rn rc] := by
  obtain ⟨pv, pf, mf, rv, rfl, h2, h3, _⟩ := h
  obtain ⟨pa, pc, rfl, _⟩ := h2.os.view
  obtain ⟨ra, rn, rc, rfl⟩ := h3.shape
  exact ⟨_, _, _, _, _, _, rfl⟩
set_option maxRecDepth 100000 in
set_option maxHeartbeats 1000000 in
theorem markTAU_any (base hi : Nat) (v : Value) (t : To) (k : Int) (w : World) (h : TAU base hi w v t) (hn : t.ps.length ≤ 1048576) (hk : 0 ≤ k) (hk' : k + totPl t.ps ≤ 100000000) :
    Calls Tryz.prog 14 #[v, .int .i64 k] w (Ret fun r w' => r = .int .i64 (k + totPl t.ps + t.reqs.length) ∧ RT No w' v (markT k t) ∧ Chg (fun q => base ≤ q ∧ q < hi) w w') := by
  obtain ⟨it, ps, rq⟩ := t
  obtain ⟨pv, pf, mf, rv, rfl, hP, hR, hd, hu1, hu2⟩ := h
  simp only at hP hR hd hu1 hu2 hn hk' ⊢
  have hml := mkTo_len k ps ps.length
  obtain ⟨ra, rn, rc, rfl⟩ := hR.shape
  have hRl : ∀ q, own (.slice ra rn rc) q → base ≤ q ∧ q < hi := fun q hq => ⟨(hR.lt q hq).1, hu2 q hq⟩
  by_cases h0 : ps = []
  · subst h0
    obtain ⟨a, cap, rfl, hcap, hmax, _⟩ := hP.os.view
    have k0 := (Chg.refl No w).alloc (.cells #[.int .i64 it, .slice a 0 cap, .slice ra rn rc] 31)
    have b0 := Box3.new w (.int .i64 it) (.slice a 0 cap) (.slice ra rn rc) 31
    obtain ⟨c0, c1, c2, _⟩ := id b0
    have hrps : RPS No w (.slice a 0 cap) [] := hP.read (by simp) (fun _ _ e => e)
    simp only [List.length_nil] at *
    go_enter Tryz.func14, Tryz.ntmps14
    go_wp2_with fail
    refine (markPlayerS_nil a cap k _).mono ?_
    rintro e w1 ⟨_, rfl, rfl, k1⟩
    have b0 := b0.keep k1
    clear c0 c1 c2
    obtain ⟨c0, c1, c2, _⟩ := id b0
    have hR1 := (hR.keep k0).keep k1
    go_wp2_with fail
    refine (markIntS_any base _ rq k w1 hR1 (by omega)).mono ?_
    rintro e w2 ⟨_, rfl, rfl, o2, k2⟩
    go_wp2_with fail
    go_ret
    have kk : Chg (own (.slice ra rn rc)) w w2 := ((k0.keep k1).mono (fun _ e _ => e.elim)).trans k2
    refine ⟨_, rfl, by simp [totPl], ⟨_, _, rfl, ?_, (by simp only [markT, totPl, Int.natCast_zero, Int.add_zero]; exact o2.read (A := No) (fun _ _ e => e))⟩, kk.mono (fun q e _ => hRl q e)⟩
    exact ⟨a, cap, rfl, Nat.zero_le _, hmax, by simp [markT, mkTo], fun _ => undef, fun _ => undef, fun i hi => by simp [markT, mkTo] at hi, fun hne => by simp [markT, mkTo] at hne⟩
  · obtain ⟨g, cap, rfl, hO⟩ := hP.po h0
    obtain ⟨_, _, _, hcap, hmax, _⟩ := hP.os.view
    have k0 := (Chg.refl No w).alloc (.cells #[.int .i64 it, .slice (some ⟨g, 0, none⟩) ps.length cap, .slice ra rn rc] 31)
    have b0 := Box3.new w (.int .i64 it) (.slice (some ⟨g, 0, none⟩) ps.length cap) (.slice ra rn rc) 31
    obtain ⟨c0, c1, c2, _⟩ := id b0
    have hb : ¬ FP g ps.length pf mf w.heap.size := fun hq => by have := (hO.inF _ hq).2; omega
    have hfp : ∀ q, FP g ps.length pf mf q → ¬ own (.slice ra rn rc) q := fun q hq => hd q (hq.elim (fun e => .inl (own_slice.2 e)) .inr)
    have hcc := hP.os.at.2.2.2.2.2
    go_enter Tryz.func14, Tryz.ntmps14
    go_wp2_with fail
    refine (markPlayerS_any base g ps.length cap ps pf mf k _ (hO.keep k0) hn hk hk').mono ?_
    rintro e w1 ⟨_, rfl, rfl, o1, k1⟩
    have b0 := b0.step k1 hb
    clear c0 c1 c2
    obtain ⟨c0, c1, c2, _⟩ := id b0
    have hR1 := (hR.keep k0).step k1 (fun q hq e => hfp q e hq)
    go_wp2_with fail
    refine (markIntS_any base _ rq (k + totPl ps) w1 hR1 (by omega)).mono ?_
    rintro e w2 ⟨_, rfl, rfl, o2, k2⟩
    go_wp2_with fail
    go_ret
    have o1' := o1.step k2 (fun q hq e => hfp q hq e)
    refine ⟨_, rfl, rfl, ⟨_, _, rfl, ?_, o2.read (A := No) (fun _ _ e => e)⟩, ?_⟩
    · simp only [markT]; exact o1'.read hcc.1 hcc.2 hn (fun _ _ e => e)
    · exact ((k0.mono (fun _ e _ => e.elim)).trans (k1.mono (fun q e hq => ⟨(hO.inF q e).1, hu1 q (e.elim (fun e => .inl (own_slice.2 e)) .inr)⟩))).trans (k2.mono (fun q e hq => hRl q e))
set_option maxHeartbeats 400000 in
theorem toTourStep_any (k a b : Int) (w : World) :
    Calls Tryz.prog 45 #[stV k a b] w (Ret fun r w' => r = stV k a b ∧ Chg No w w') := by
  unfold stV
  go_enter Tryz.func45, Tryz.ntmps45
  go_wp2_with fail
  exact bodyPost_ret (v := .agg #[.int .i64 k, .int .i64 a, .int .i64 b]) (by simp [results, Tryz.results45, go_sem]) rfl ⟨_, rfl, rfl, (((Chg.refl No w).alloc _).alloc _).alloc _⟩
/-- a call of two results at an operation -/
theorem ret2_ret {f : FuncId} {args : Array Value} {w : World} {φ : Value → Value → World → Prop} (h : Calls Tryz.prog f args w (Ret2 φ)) : Calls Tryz.prog f args w (Ret fun v w' => ∃ v0 v1, v = .tuple #[v0, v1] ∧ φ v0 v1 w') :=
  h.mono (fun _ _ ⟨v0, v1, he, hp⟩ => ⟨_, he, v0, v1, rfl, hp⟩)

theorem stS_len (t : To) (k a b : Int) : (stS t k a b).ps.length ≤ 4 := by
  unfold stS
  cases h : okS t k a b
  · simp [zeroT]
  · unfold okS at h
    simp only [Bool.and_eq_true] at h
    have := (tour_len (tour_step h.1 k a b h.2)).1
    rw [if_pos rfl]; omega
theorem stepMk_no {c : Ca} (h5 : c.pol ≠ 5) (h6 : c.pol ≠ 6) (x : Int) : (stepC c x).marks = c.marks := by
  unfold stepC hitC faultC clockC
  repeat' split
  all_goals first | rfl | contradiction
theorem runMk_no {c : Ca} (h5 : c.pol ≠ 5) (h6 : c.pol ≠ 6) (l : List Int) : (runC c l).marks = c.marks := by
  induction l generalizing c with
  | nil => rfl
  | cons x l ih =>
    show (runC (stepC c x) l).marks = _
    rw [ih (by rw [(stepP_const c x).1]; exact h5) (by rw [(stepP_const c x).1]; exact h6), stepMk_no h5 h6]
theorem tour_small {t : To} (ht : tourB t = true) {i : Nat} (hi : i < t.ps.length) : (t.ps.getD i dPl).ca.pages.length ≤ 6 ∧ (t.ps.getD i dPl).ca.marks.length ≤ 6 := by
  have hok := tour_ok ht hi
  have h1 := hok.len
  have h2 := hok.size
  refine ⟨by omega, ?_⟩
  by_cases h56 : (t.ps.getD i dPl).ca.pol = 5 ∨ (t.ps.getD i dPl).ca.pol = 6
  · have := hok.marks h56; omega
  · have hs := want_self (tour_pl ht hi)
    have hm : (wantP (t.ps.getD i dPl) t.reqs).ca.marks = [] := by
      unfold wantP servedP
      simp only
      rw [runMk_no (c := newC _ _) (fun e => h56 (.inl e)) (fun e => h56 (.inr e))]; rfl
    rw [hs] at hm
    rw [hm]; simp
theorem totPl_small : ∀ (ls : List Pl), (∀ i, i < ls.length → szPl (ls.getD i dPl) ≤ 17) → totPl ls ≤ 17 * ls.length
  | [], _ => by simp [totPl]
  | x :: ls, h => by
    have h0 := h 0 (by simp)
    have ih := totPl_small ls (fun i hi => by have := h (i + 1) (by simp; omega); simpa using this)
    simp only [totPl, List.length_cons]
    have : szPl x ≤ 17 := by simpa using h0
    omega
theorem tour_tot {t : To} (ht : tourB t = true) : totPl t.ps ≤ 100 := by
  have h1 := totPl_small t.ps (fun i hi => by have := tour_small ht hi; unfold szPl; omega)
  have := (tour_len ht).1
  omega
theorem stS_tot (t : To) (k a b : Int) : totPl (stS t k a b).ps ≤ 100 := by
  unfold stS
  cases h : okS t k a b
  · simp [zeroT, totPl]
  · unfold okS at h
    simp only [Bool.and_eq_true] at h
    rw [if_pos rfl]; exact tour_tot (tour_step h.1 k a b h.2)
theorem stS_reqs (t : To) (k a b : Int) : (stS t k a b).reqs.length ≤ 60 := by
  unfold stS
  cases h : okS t k a b
  · simp [zeroT]
  · unfold okS at h
    simp only [Bool.and_eq_true] at h
    rw [if_pos rfl]; exact (tour_len (tour_step h.1 k a b h.2)).2.1
end Go.Proofs.YtodnkkmjjlfoiaaGreat
